/- The document's file: At. -/
import Derived.Test.YtjaapempahigaaaRef1
import Derived.LoopTactic
import Derived.Laws.StructEq
namespace Go.Proofs.Ytjaapempahigaaa
open Go.RowKit

/-- One entry in cells; a list of them. -/
def saidOne (s : (Nat × Nat × Nat) × Int) : List Value := [.int .i64 s.1.1, .int .i64 s.1.2.1, .int .i64 s.1.2.2, .int .u32 s.2]
def saidCells (L : List ((Nat × Nat × Nat) × Int)) : List Value := L.flatMap saidOne
theorem saidCells_length (L : List ((Nat × Nat × Nat) × Int)) : (saidCells L).length = L.length * 4 := by
  induction L with
  | nil => rfl
  | cons a L ih =>
    have e : saidCells (a :: L) = saidOne a ++ saidCells L := by simp [saidCells]
    rw [e, List.length_append, ih]
    show 4 + L.length * 4 = (L.length + 1) * 4
    omega
theorem saidCells_append (L L' : List ((Nat × Nat × Nat) × Int)) : saidCells (L ++ L') = saidCells L ++ saidCells L' := by simp [saidCells]
theorem saidCells_at (L : List ((Nat × Nat × Nat) × Int)) : ∀ (k : Nat) (s : (Nat × Nat × Nat) × Int) (t : Nat), L[k]? = some s → t < 4 → (saidCells L)[k * 4 + t]? = (saidOne s)[t]? := by
  induction L with
  | nil => intro k s t h; simp at h
  | cons a L ih =>
    intro k s t h ht
    have hl : (saidOne a).length = 4 := rfl
    have e : saidCells (a :: L) = saidOne a ++ saidCells L := by simp [saidCells]
    rw [e]
    cases k with
    | zero =>
      simp at h; subst h
      rw [List.getElem?_append_left (by omega)]; congr 1; omega
    | succ k =>
      rw [List.getElem?_append_right (by omega), hl]
      have := ih k s t (by simpa using h) ht
      rw [← this]; congr 1; omega

/-- The value v is a list of what was set, of the call's own. -/
def RefL (w : World) (a : Option Addr) (cap : Nat) (L : List ((Nat × Nat × Nat) × Int)) : Prop := w.ownsRow 0 94 4 (.slice a L.length cap) L.length (saidCells L)

/-- The last entry of a place. -/
def lastM (c : Nat × Nat × Nat) (L : List ((Nat × Nat × Nat) × Int)) : Int := L.foldl (fun acc s => if s.1 = c then s.2 else acc) 0
def atM (L : List ((Nat × Nat × Nat) × Int)) (c : Nat × Nat × Nat) : Int := if c.1 = 0 ∧ c.2.2 = 0 then 0 else lastM c L
theorem lastM_snoc (c : Nat × Nat × Nat) (L : List ((Nat × Nat × Nat) × Int)) (s : (Nat × Nat × Nat) × Int) : lastM c (L ++ [s]) = if s.1 = c then s.2 else lastM c L := by
  simp [lastM, List.foldl_append]
theorem lastM_take (c : Nat × Nat × Nat) (L : List ((Nat × Nat × Nat) × Int)) (k : Nat) (s : (Nat × Nat × Nat) × Int) (h : L[k]? = some s) : lastM c (L.take (k + 1)) = if s.1 = c then s.2 else lastM c (L.take k) := by
  rw [List.take_add_one, h]
  exact lastM_snoc c _ s

theorem RefL.at_ {w : World} {a : Option Addr} {cap : Nat} {L : List ((Nat × Nat × Nat) × Int)} (h : RefL w a cap L) (hn : 0 < L.length) : ∃ b, a = some ⟨b, 0, none⟩ ∧ b < w.heap.size ∧ L.length ≤ cap ∧
    ∀ k s, L[k]? = some s → w.cell? ⟨b, k * 4, none⟩ = some (.int .i64 s.1.1) ∧ w.cell? ⟨b, k * 4 + 1, none⟩ = some (.int .i64 s.1.2.1) ∧ w.cell? ⟨b, k * 4 + 2, none⟩ = some (.int .i64 s.1.2.2) ∧ w.cell? ⟨b, k * 4 + 3, none⟩ = some (.int .u32 s.2) := by
  obtain ⟨hl, hv⟩ := h
  rcases hv with ⟨_, h0⟩ | ⟨g, c, cur, hv, _, hg, hle, _, hsz, ht⟩
  · omega
  · cases hv
    have hb : Blk w g 94 cur := hg
    refine ⟨g, rfl, hb.lt, hle, fun k s hs => ?_⟩
    have hk : k < L.length := (List.getElem?_eq_some_iff.1 hs).1
    have key : ∀ t, t < 4 → w.cell? ⟨g, k * 4 + t, none⟩ = (saidOne s)[t]? := by
      intro t ht4
      rw [hb.cell, ← saidCells_at L k s t hs ht4, ← ht, List.getElem?_take_of_lt (by omega), Array.getElem?_toList]
    exact ⟨key 0 (by omega), key 1 (by omega), key 2 (by omega), key 3 (by omega)⟩
theorem RefL.mod {w w' : World} {a : Option Addr} {cap : Nat} {L : List ((Nat × Nat × Nat) × Int)} (h : RefL w a cap L) (hm : Mod NoBlk w w') : RefL w' a cap L := by
  obtain ⟨hl, hv⟩ := h
  refine ⟨hl, ?_⟩
  rcases hv with hv | ⟨g, c, cur, hv, hb, hg, hr⟩
  · exact .inl hv
  · exact .inr ⟨g, c, cur, hv, hb, (show Blk w g 94 cur from hg).mod hm (fun h => h), hr⟩
theorem RefL.bound {w : World} {a : Option Addr} {cap : Nat} {L : List ((Nat × Nat × Nat) × Int)} (h : RefL w a cap L) : L.length ≤ cap ∧ cap ≤ 9223372036854775807 ∧ (L.length = 0 ∨ ∃ b, a = some ⟨b, 0, none⟩) := by
  obtain ⟨hl, hv⟩ := h
  rcases hv with ⟨hv, h0⟩ | ⟨g, c, cur, hv, hb, hg, hle, hmx, _⟩
  · injection hv with h1 h2 h3
    exact ⟨by omega, by omega, .inl h0⟩
  · cases hv; exact ⟨hle, hmx, .inr ⟨g, rfl⟩⟩

set_option maxHeartbeats 1000000 in
theorem refAt_ok (nw : Nat) (a : Option Addr) (cap : Nat) (L : List ((Nat × Nat × Nat) × Int)) (c : Nat × Nat × Nat) (w : World) (hL : RefL w a cap L) (hsmall : L.length ≤ 1000000) :
    Calls Try.prog 46 #[.agg #[.int .i64 nw, .slice a L.length cap], cellV c] w
      fun e w' => e = .returned (.int .u32 (atM L c)) ∧ Mod NoBlk w w' := by
  obtain ⟨c0, c1, c2⟩ := c
  unfold cellV atM
  simp only
  by_cases h0 : c0 = 0 ∧ c2 = 0
  · rw [if_pos h0]
    obtain ⟨rfl, rfl⟩ := h0
    go_enter Try.func46, Try.ntmps46
    go_wp2
    go_ret
    exact ⟨rfl, mod2 w _ _⟩
  · rw [if_neg h0]
    have hb : ((c0 : Int) == 0) = false ∨ (((c0 : Int) == 0) = true ∧ ((c2 : Int) == 0) = false) := by
      simp only [beq_eq_false_iff_ne, beq_iff_eq, ne_eq]; omega
    have HL := Lib.hid hL
    clear hL h0
    obtain ⟨n, hn⟩ : ∃ n, L.length = n := ⟨_, rfl⟩
    have HN := Lib.hid hn
    rw [hn] at hsmall
    rw [hn]
    clear hn
    rcases hb with b1 | ⟨b1, b2⟩
    all_goals
      go_enter Try.func46, Try.ntmps46
      go_wp2
      have hm2 := mod2 w (Obj.cells #[Value.int IntKind.i64 nw, Value.slice a n cap] 45) (Obj.cells #[Value.int IntKind.i64 c0, Value.int IntKind.i64 c1, Value.int IntKind.i64 c2] 90)
      have hB0 : Blk ((w.alloc (Obj.cells #[Value.int IntKind.i64 nw, Value.slice a n cap] 45)).alloc (Obj.cells #[Value.int IntKind.i64 c0, Value.int IntKind.i64 c1, Value.int IntKind.i64 c2] 90)) w.heap.size 45 #[Value.int IntKind.i64 nw, Value.slice a n cap] := (Blk.new w 45 _).alloc _
      have hB1 : Blk ((w.alloc (Obj.cells #[Value.int IntKind.i64 nw, Value.slice a n cap] 45)).alloc (Obj.cells #[Value.int IntKind.i64 c0, Value.int IntKind.i64 c1, Value.int IntKind.i64 c2] 90)) (w.heap.size + 1) 90 #[Value.int IntKind.i64 c0, Value.int IntKind.i64 c1, Value.int IntKind.i64 c2] := by
        have := Blk.new (w.alloc (Obj.cells #[Value.int IntKind.i64 nw, Value.slice a n cap] 45)) 90 #[Value.int IntKind.i64 c0, Value.int IntKind.i64 c1, Value.int IntKind.i64 c2]
        simpa using this
      generalize (w.alloc (Obj.cells #[Value.int IntKind.i64 nw, Value.slice a n cap] 45)).alloc (Obj.cells #[Value.int IntKind.i64 c0, Value.int IntKind.i64 c1, Value.int IntKind.i64 c2] 90) = W at *
      have HM2 := Lib.hid hm2
      have HB0 := Lib.hid hB0
      have HB1 := Lib.hid hB1
      generalize w.heap.size + 1 = g1 at *
      generalize w.heap.size = g0 at *
      clear hm2 hB0 hB1
      go_loopw [5] (fun i wr => ∃ k : Nat, k ≤ n ∧ i = .int .i64 ((k : Int) - 1) ∧ lastM (c0, c1, c2) (L.take k) = lastM (c0, c1, c2) L ∧ Mod NoBlk W wr) (fun i _ => (intOf i + 1).toNat)
      case atStart => exact ⟨n, Nat.le_refl _, rfl, by rw [List.take_of_length_le (by rw [HN.out]; exact Nat.le_refl _)], Mod.refl _ _⟩
      case round =>
        obtain ⟨k, hk, rfl, hlast, hm⟩ := hrel
        have HK := Lib.hid hlast
        have HM := Lib.hid hm
        clear hlast hm
        cases k with
        | zero =>
          go_wp2
          go_ret
          exact ⟨by rw [← HK.out]; rfl, HM2.out.trans HM.out⟩
        | succ j =>
          have hjl : j < L.length := by rw [HN.out]; omega
          obtain ⟨b, rfl, hbl, hcap, hcells⟩ := ((HL.out.mod HM2.out).mod HM.out).at_ (by omega)
          obtain ⟨⟨⟨s0, s1, s2⟩, y⟩, hs⟩ : ∃ s, L[j]? = some s := ⟨_, List.getElem?_eq_getElem hjl⟩
          obtain ⟨d0, d1, d2, d3⟩ := hcells j _ hs
          simp only at d0 d1 d2 d3
          have HT := Lib.hid (lastM_take (c0, c1, c2) L j _ hs)
          have q0 := (HB0.out.mod HM.out (fun h => h)).cell 1
          have p0 := (HB1.out.mod HM.out (fun h => h)).cell 0
          have p1 := (HB1.out.mod HM.out (fun h => h)).cell 1
          have p2 := (HB1.out.mod HM.out (fun h => h)).cell 2
          simp only [List.getElem?_toArray, List.getElem?_cons_zero, List.getElem?_cons_succ] at q0 p0 p1 p2
          rw [HN.out] at hjl hcap
          clear hs hcells hbl
          have ej : ((j + 1 : Nat) : Int) - 1 = (j : Int) := by omega
          rw [ej]
          have hE : (((s0 : Int) == (c0 : Int)) = false ∨ (((s0 : Int) == (c0 : Int)) = true ∧ ((s1 : Int) == (c1 : Int)) = false) ∨ (((s0 : Int) == (c0 : Int)) = true ∧ ((s1 : Int) == (c1 : Int)) = true ∧ ((s2 : Int) == (c2 : Int)) = false)) ∧ Hid (lastM (c0, c1, c2) (L.take j) = lastM (c0, c1, c2) L) ∨
              (((s0 : Int) == (c0 : Int)) = true ∧ ((s1 : Int) == (c1 : Int)) = true ∧ ((s2 : Int) == (c2 : Int)) = true) ∧ Hid (y = lastM (c0, c1, c2) L) := by
            have h1 := HT.out
            have h2 := HK.out
            by_cases e : (s0, s1, s2) = (c0, c1, c2)
            · rw [if_pos e] at h1
              simp only [Prod.mk.injEq] at e
              refine .inr ⟨by simp; omega, ?_⟩
              show _ = _
              rw [← h2, h1]
            · rw [if_neg e] at h1
              simp only [Prod.mk.injEq] at e
              refine .inl ⟨by simp only [beq_eq_false_iff_ne, beq_iff_eq, ne_eq]; omega, ?_⟩
              show _ = _
              rw [← h2, h1]
          clear HT HK
          rcases hE with ⟨e0 | ⟨e0, e1⟩ | ⟨e0, e1, e2⟩, HX⟩ | ⟨⟨e0, e1, e2⟩, HX⟩
          rotate_right
          · go_wp2
            go_quiet (fail)
            go_wp2
            go_ret
            exact ⟨by rw [← HX.out]; rfl, HM2.out.trans (HM.out.drewN _)⟩
          all_goals
            go_wp2
            go_quiet (fail)
            go_wp2
            go_roundw
            case rel => exact ⟨j, by omega, rfl, HX.out, HM.out.drewN _⟩
            case measure => simp [intOf]

end Go.Proofs.Ytjaapempahigaaa
