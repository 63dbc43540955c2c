/- The document's file: Put. -/
import Derived.Test.YtjaapempahigaaaRef4
import Derived.Deep.RegionWith
import Derived.Deep.DeepMust
namespace Go.Proofs.Ytjaapempahigaaa
open Go.RowKit

/-- A list of what was set, n long: nil where it is empty. -/
def RefF (w : World) (a : Option Addr) (n cap : Nat) (L : List ((Nat × Nat × Nat) × Int)) : Prop := L.length = n ∧ RefL w a cap L ∧ (n = 0 → a = none ∧ cap = 0)
theorem RefF.mod {w w' : World} {a : Option Addr} {n cap : Nat} {L : List ((Nat × Nat × Nat) × Int)} (h : RefF w a n cap L) (hm : Mod NoBlk w w') : RefF w' a n cap L := ⟨h.1, h.2.1.mod hm, h.2.2⟩

theorem RefL.far {w : World} {a : Option Addr} {cap g : Nat} {cs : Array Value} {L : List ((Nat × Nat × Nat) × Int)} (h : RefL w a cap L) (hb : Blk w g 45 cs) (i : Nat) (u : Value) : RefL (w.setCell ⟨g, i, none⟩ u) a cap L := by
  refine ownsRow_setCell_other h ?_ u
  obtain ⟨_, hv⟩ := h
  rcases hv with ⟨hv, _⟩ | ⟨g', c, cur, hv, _, hg, _⟩
  · rw [hv]; simp [Value.ownBlock]
  · rw [hv]
    intro e
    simp only [Value.ownBlock, Option.some.injEq] at e
    subst e
    have := (hb.uniq (show Blk w g' 94 cur from hg)).1
    exact absurd this (by decide)
theorem RefF.far {w : World} {a : Option Addr} {n cap g : Nat} {cs : Array Value} {L : List ((Nat × Nat × Nat) × Int)} (h : RefF w a n cap L) (hb : Blk w g 45 cs) (i : Nat) (u : Value) : RefF (w.setCell ⟨g, i, none⟩ u) a n cap L := ⟨h.1, h.2.1.far hb i u, h.2.2⟩

theorem refSet_is (nw : Nat) (a : Option Addr) (n cap : Nat) (L : List ((Nat × Nat × Nat) × Int)) (window bank reg : Int) (wi b r : Nat) (x : Int) (w : World) (hF : RefF w a n cap L) (hsmall : n ≤ 900000)
    (hnw : 2 ≤ nw) (h32 : nw ≤ 32) (ew : window = wi) (eb : bank = b) (er : reg = r) (hw : wi < nw) (hb : b < 17) (hr : r < 32) :
    Calls Try.prog 24 #[.agg #[.int .i64 nw, .slice a n cap], .int .i64 window, .int .i64 bank, .int .i64 reg, .int .u32 x] w
      fun e w' => ∃ a' cap', e = .returned (.tuple #[.agg #[.int .i64 nw, .slice a' (n + 1) cap'], .int .i64 0]) ∧ RefF w' a' (n + 1) cap' (L ++ [(cellM nw wi b r, x)]) ∧ Mod NoBlk w w' := by
  subst ew eb er
  obtain ⟨hn, hL, h0⟩ := hF
  by_cases hz : n = 0
  · obtain ⟨rfl, rfl⟩ := h0 hz
    subst hz
    obtain rfl : L = [] := List.eq_nil_of_length_eq_zero hn
    refine (refSet_nil nw wi b r x w hnw h32 hw hb hr).mono ?_
    rintro e w' ⟨a', c', he, hR, hm⟩
    exact ⟨a', c', he, ⟨rfl, hR, fun h => absurd h (by omega)⟩, hm⟩
  · refine (refSet_ok nw a n cap L wi b r x w hn hL (by omega) hsmall hnw h32 hw hb hr).mono ?_
    rintro e w' ⟨a', c', he, hR, hm⟩
    exact ⟨a', c', he, ⟨by simp [hn], hR, fun h => absurd h (by omega)⟩, hm⟩

def puts (nw window : Nat) (l : Nat → Int) (k : Nat) : List ((Nat × Nat × Nat) × Int) := (List.range k).map fun i => (cellM nw window 0 (16 + i), l i)
theorem puts_succ (nw window : Nat) (l : Nat → Int) (k : Nat) : puts nw window l (k + 1) = puts nw window l k ++ [(cellM nw window 0 (16 + k), l k)] := by
  simp [puts, List.range_succ]

set_option maxRecDepth 100000 in
set_option maxHeartbeats 1000000 in
theorem refPut_bad (nw : Nat) (a : Option Addr) (n c : Nat) (window : Int) (l : Option Addr) (m c' : Nat) (w : World) (hn : ¬ (0 ≤ window ∧ window < nw) ∨ m ≠ 16) :
    Calls Try.prog 23 #[.agg #[.int .i64 nw, .slice a n c], .int .i64 window, .slice l m c'] w
      fun e w' => e = .returned (.tuple #[.agg #[.int .i64 nw, .slice a n c], .int .i64 2]) ∧ Mod NoBlk w w' := by
  have hcases : window < 0 ∨ (0 ≤ window ∧ (nw : Int) ≤ window) ∨ (0 ≤ window ∧ window < nw ∧ ((m : Int) != 16) = true) := by
    simp only [bne_iff_ne, ne_eq]; omega
  clear hn
  rcases hcases with h | ⟨h, h'⟩ | ⟨h, h', h''⟩
  all_goals
    go_enter Try.func23, Try.ntmps23
    go_wp2
    refine bodyPost_ret (v := .tuple #[.agg #[.int .i64 nw, .slice a n c], .int .i64 2]) (by simp [results, Try.results23, go_sem]) rfl ⟨rfl, mod2 w _ _⟩

set_option maxRecDepth 100000 in
set_option maxHeartbeats 4000000 in
theorem refPut_ok (nw : Nat) (a : Option Addr) (n cap : Nat) (L : List ((Nat × Nat × Nat) × Int)) (window g c : Nat) (l : Nat → Int) (w : World) (hF : RefF w a n cap L) (hsmall : n ≤ 800000) (hl : WordsAt w g 16 l)
    (hnw : 2 ≤ nw) (h32 : nw ≤ 32) (hw : window < nw) :
    Calls Try.prog 23 #[.agg #[.int .i64 nw, .slice a n cap], .int .i64 window, .slice (some ⟨g, 0, none⟩) 16 c] w
      fun e w' => ∃ a' cap', e = .returned (.tuple #[.agg #[.int .i64 nw, .slice a' (n + 16) cap'], .int .i64 0]) ∧ RefF w' a' (n + 16) cap' (L ++ puts nw window l 16) ∧ Mod NoBlk w w' := by
  have hw0 := hF.2.1.bound
  have hgl := hl.lt
  have HL := Lib.hid hl
  have HF := Lib.hid hF
  clear hF hw0 hl
  have hdw : decide ((window : Int) < 0) = false := by simp
  have hdw2 : decide (nw ≤ window) = false := by simp; omega
  go_enter Try.func23, Try.ntmps23
  go_wp2
  clear hdw hdw2
  have hm2 := mod2 w (.cells #[.int .i64 nw, .slice a n cap] 45) (.cells #[.int .i64 0, .slice none 0 0] 45)
  have hB0 : Blk ((w.alloc (.cells #[.int .i64 nw, .slice a n cap] 45)).alloc (.cells #[.int .i64 0, .slice none 0 0] 45)) w.heap.size 45 #[.int .i64 nw, .slice a n cap] := (Blk.new w 45 _).alloc _
  have hB1 : Blk ((w.alloc (.cells #[.int .i64 nw, .slice a n cap] 45)).alloc (.cells #[.int .i64 0, .slice none 0 0] 45)) (w.heap.size + 1) 45 #[.int .i64 0, .slice none 0 0] := by
    have := Blk.new (w.alloc (.cells #[.int .i64 nw, .slice a n cap] 45)) 45 #[.int .i64 0, .slice none 0 0]
    simpa using this
  generalize (w.alloc (.cells #[.int .i64 nw, .slice a n cap] 45)).alloc (.cells #[.int .i64 0, .slice none 0 0] 45) = W at *
  generalize hg1 : w.heap.size + 1 = g1 at *
  generalize hg0 : w.heap.size = g0 at *
  have HGE : Hid (w.heap.size ≤ g0 ∧ w.heap.size ≤ g1) := by show _ ∧ _; omega
  have hg01 : g0 ≠ g1 := by omega
  have HM2 := Lib.hid hm2
  have HB0 := Lib.hid hB0
  have HB1 := Lib.hid hB1
  clear hm2 hB0 hB1 hg0 hg1 hgl
  go_loopw [8] (fun i wr => ∃ k : Nat, k ≤ 16 ∧ i = .int .i64 k ∧ ∃ a' c', Blk wr g0 45 #[.int .i64 nw, .slice a' ((n + k : Nat)) c'] ∧ Blk wr g1 45 #[.int .i64 0, .slice none 0 0] ∧ RefF wr a' (n + k) c' (L ++ puts nw window l k) ∧ Mod NoBlk w wr) (fun i _ => (16 - intOf i).toNat)
  case atStart => exact ⟨0, by omega, rfl, a, cap, HB0.out, HB1.out, by simpa [puts] using HF.out.mod HM2.out, HM2.out⟩
  case round =>
    clear HB0 HB1 HM2 HF
    obtain ⟨k, hk, rfl, a', c', hB0, hB1, hR, hm⟩ := hrel
    have HR := Lib.hid hR
    have HM := Lib.hid hm
    have HB1 := Lib.hid hB1
    by_cases hlt : k < 16
    · have hlc := (HL.out.mod hm (fun h => h)).cell k hlt
      have hgl := (HL.out.mod hm (fun h => h)).lt
      have q0 := hB0.cell 0
      have q1 := hB0.cell 1
      simp only [List.getElem?_toArray, List.getElem?_cons_zero, List.getElem?_cons_succ] at q0 q1
      have l0 := hB0.lt
      have HB0 := Lib.hid hB0
      have hk0 : (0 : Int) ≤ (k : Int) := by omega
      have hk1 : (k : Int) < 16 := by omega
      have hk2 : IntKind.i64.wrap (16 + (k : Int)) = 16 + (k : Int) := by rw [IntKind.wrap_i64]; omega
      generalize hnk : n + k = nk at *
      have HNK := Lib.hid hnk
      clear hB0 hB1 hR hm hnk
      go_wp2
      go_region_with (go_at_call 24; go_must (refine (refSet_is nw a' nk c' (L ++ puts nw window l k) _ _ _ window 0 (16 + k) _ _ (by exact HR.out) (by have := HNK.out; omega) hnw h32 rfl rfl (by omega) hw (by omega) (by omega)).mono ?_); rintro e w2 ⟨a2, c2, rfl, hR2, hm2⟩; have hb2 := HB0.out.drew.mod hm2 (fun h => h); have r0 := hb2.cell 0; have r1 := hb2.cell 1; have r2 := hb2.frozen 0; have r3 := hb2.frozen 1; simp only [List.getElem?_toArray, List.getElem?_cons_zero, List.getElem?_cons_succ] at r0 r1)
      all_goals
        go_wp2
        go_roundw
        case measure => simp [intOf]; omega
        case rel =>
          refine ⟨k + 1, by omega, by go_num, a2, c2, ?_, ?_, ?_, ?_⟩
          · have hs := (hb2.set_ 0 (.int .i64 nw)).set_ 1 (.slice a2 (nk + 1) c2)
            rw [show n + (k + 1) = nk + 1 from by have := HNK.out; omega]
            simpa using hs
          · exact (((HB1.out.drew.mod hm2 (fun h => h)).far (p := ⟨g0, 0, none⟩) (Ne.symm hg01) _).far (p := ⟨g0, 1, none⟩) (Ne.symm hg01) _)
          · rw [show n + (k + 1) = nk + 1 from by have := HNK.out; omega, puts_succ, ← List.append_assoc]
            exact (hR2.far hb2 0 _).far (hb2.set_ 0 _) 1 _
          · exact HM.out.drew.trans' ((hm2.of_none.setHere 0 _).setHere 1 _) (fun i hi h => absurd hi (by have := HGE.out; have : i = g0 := h; omega))
    · obtain rfl : k = 16 := by omega
      have q0 := hB0.cell 0
      have q1 := hB0.cell 1
      have q5 := HB1.out.cell 0
      have q6 := HB1.out.cell 1
      have q7 := HB1.out.frozen 0
      have q8 := HB1.out.frozen 1
      simp only [List.getElem?_toArray, List.getElem?_cons_zero, List.getElem?_cons_succ] at q0 q1 q5 q6
      have HB0 := Lib.hid hB0
      clear hB0 hR hm
      go_wp2
      obtain ⟨f0, f1⟩ := two_cells (A := .int .i64 nw) (B := .slice a' (n + 16) c') q5 q6
      refine bodyPost_ret (v := .tuple #[.agg #[.int .i64 nw, .slice a' (n + 16) c'], .int .i64 0]) (by simp [results, Try.results23, go_sem, f0, f1]) rfl ⟨a', c', rfl, ?_, ?_⟩
      · exact (HR.out.far HB1.out 0 _).far (HB1.out.set_ 0 _) 1 _
      · exact HM.out.trans' (((Mod.refl (fun k => k = g1) wr).setHere 0 _).setHere 1 _) (fun i hi h => absurd hi (by have := HGE.out; have : i = g1 := h; omega))

end Go.Proofs.Ytjaapempahigaaa
