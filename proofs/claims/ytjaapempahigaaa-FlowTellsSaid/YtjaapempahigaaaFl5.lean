/- flow's walk. -/
import Derived.Test.YtjaapempahigaaaFl4
import Derived.Deep.DeepCutAuto
import Derived.Deep.OwnRows
namespace Go.Proofs.Ytjaapempahigaaa
open Go.RowKit

theorem info4 : (Try.prog.info? 4).map (fun i => (i.zero, i.size, i.bytes)) = some (some (.bool false), 1, 1) := by kernel_rfl
theorem info116 : (Try.prog.info? 116).map (fun i => (i.zero, i.size, i.bytes)) = some (some (.agg #[.int .i64 0, .slice none 0 0]), 2, 32) := by kernel_rfl

/-- Where the walk stands: k rounds at most are still to come. -/
def WalkAt (w : World) (N : Nat) (succ : Nat → List Nat) (fin : (Nat → Bool) × List Nat) (gf gc : Nat) (F : Array Value) (k : Nat) (vl vs : Value) (wr : World) : Prop :=
  ∃ (c : Nat → Bool) (L : List Nat) (T : List (Nat × List Nat × Value)),
    Ints wr w.heap.size vl L ∧ wr.ownsRow w.heap.size 116 2 vs T.length (itemCells T) ∧ Bools wr gc N c ∧ Blk wr gf 63 F ∧ (∀ t ∈ T, RestAt wr vl t.2.2 t.2.1 ∧ ∀ x ∈ t.2.1, x < N) ∧
    finAll succ N (T.map fun t => (t.1, t.2.1)) (c, L) = fin ∧ Mod NoBlk w wr ∧ k = 5 * unv N c + (T.map fun t => t.2.1.length + 1).sum ∧ L.length + T.length + unv N c = N

theorem fn_cells (nm : ByteArray) (x y : Int) (ob : Option Addr) (N cap : Nat) (w : World) (gf : Nat) (h : Blk w gf 63 #[.string nm, .int .i64 x, .int .i64 y, .slice ob N cap]) :
    w.cell? ⟨gf, 0, none⟩ = some (.string nm) ∧ w.cell? ⟨gf, 1, none⟩ = some (.int .i64 x) ∧ w.cell? ⟨gf, 2, none⟩ = some (.int .i64 y) ∧ w.cell? ⟨gf, 3, none⟩ = some (.slice ob N cap) ∧ gf < w.heap.size := by
  refine ⟨?_, ?_, ?_, ?_, h.lt⟩ <;> rw [h.cell] <;> rfl

theorem row_ne_blk {w : World} {B n size g : Nat} {e t : TypeId} {v : Value} {xs : List Value} {cs : Array Value} (h : w.ownsRow B e size v n xs) (hb : Blk w g t cs) (hte : t ≠ e) : v.ownBlock ≠ some g := by
  rcases h.2 with ⟨rfl, _⟩ | ⟨g', cap, cur, rfl, _, hgb, _⟩
  · simp [Value.ownBlock]
  · intro e'
    obtain rfl : g' = g := by simpa [Value.ownBlock] using e'
    exact hte (hb.uniq (show Blk w g' e cur from hgb)).1
theorem row_mod {w w' : World} {B n size : Nat} {e : TypeId} {v : Value} {xs : List Value} (h : w.ownsRow B e size v n xs) {S : Nat → Prop} (hm : Mod S w w') (hS : ∀ g, v.ownBlock = some g → ¬ S g) : w'.ownsRow B e size v n xs := by
  refine ⟨h.1, ?_⟩
  rcases h.2 with h0 | ⟨g, cap, cur, rfl, hg, hgb, hr⟩
  · exact .inl h0
  · exact .inr ⟨g, cap, cur, rfl, hg, (show Blk w g e cur from hgb).mod hm (hS g rfl), hr⟩
theorem grow_mod {w w1 : World} {v : Value} {tmp : Obj} (h : (w.alloc tmp).grownBy w1 v.ownBlock) : Mod (fun j => v.ownBlock = some j) w w1 := ((Mod.refl _ w).alloc tmp).grown h (fun _ e _ => e)
theorem rest_grow {w w' : World} {vl v : Value} {l : List Nat} {g n c : Nat} (h : RestAt w vl v l) (hm : Mod (fun j => vl.ownBlock = some j) w w') (hat : vl.ownBlock = some g ∨ w.heap.size ≤ g) : RestAt w' (.slice (some ⟨g, 0, none⟩) n c) v l := by
  obtain ⟨oa, c, hv, hc, hm', hx⟩ := h
  refine ⟨oa, c, hv, hc, hm', fun i x hi => ?_⟩
  obtain ⟨g', o, cs, ho, hb, hn, hcs⟩ := hx i x hi
  refine ⟨g', o, cs, ho, hb.mod hm hn, fun e => ?_, hcs⟩
  simp only [Value.ownBlock, Option.some.injEq] at e
  subst e
  rcases hat with h | h
  · exact hn h
  · have := hb.lt; omega
theorem rest_tail {w : World} {vl : Value} {g o c k : Nat} {l : List Nat} (h : RestAt w vl (.slice (some ⟨g, o, none⟩) (l.length + 1) c) (k :: l)) : RestAt w vl (.slice (if c = 1 then some ⟨g, o, none⟩ else some ⟨g, o + 1, none⟩) l.length (c - 1)) l := by
  by_cases h1 : c = 1
  · subst h1
    have hl : l = [] := by
      obtain ⟨_, _, hv, hc, _⟩ := h
      cases hv
      exact List.eq_nil_of_length_eq_zero (by simp only [List.length_cons] at hc; omega)
    subst hl
    exact ⟨_, _, rfl, by simp, by simp, fun i x hi => by simp at hi⟩
  · rw [if_neg h1]
    exact h.tail
theorem unv_none (n : Nat) : unv n (fun _ => false) = n := by
  unfold unv cntB
  rw [show (fun x : Nat => !(fun _ => false : Nat → Bool) x) = fun _ => true from rfl, List.filter_eq_self.2 (by simp), List.length_range]
theorem nil_or_snoc {α : Type} (T : List α) : T = [] ∨ ∃ T' x, T = T' ++ [x] := by
  rcases List.eq_nil_or_concat T with h | ⟨T', x, h⟩
  · exact .inl h
  · exact .inr ⟨T', x, by rw [h, List.concat_eq_append]⟩
theorem mod2' (w : World) (o o' : Obj) : Mod NoBlk w ((w.alloc o).alloc o') := ((Mod.refl _ w).alloc _).alloc _

set_option maxRecDepth 100000 in
set_option maxHeartbeats 4000000 in
theorem walk_ok (nm : ByteArray) (x y : Int) (ob : Option Addr) (N cap : Nat) (succ : Nat → List Nat) (w : World) (hG : GraphAt w ob N succ) (hN : N ≤ 60) :
    Calls Try.prog 51 #[fnV nm x y ob N cap, .int .i64 (-1)] w fun e w' => ∃ v, e = .returned v ∧ Ints w' w.heap.size v (postOrd succ N) ∧ Mod NoBlk w w' := by
  by_cases h0 : N = 0
  · subst h0
    have hp : postOrd succ 0 = [] := rfl
    rw [hp]
    go_enter Try.func51, Try.ntmps51
    go_wp2
    go_ret
    exact ⟨_, rfl, World.ownsRow_nil _ _ _ _, (Mod.refl _ _).alloc _⟩
  have hmk := fun W => Go.run_make_row' (P := Try.prog) 71 4 (.bool false) 1 Try.underlying71 info4 rfl .i64 .i64 N (by omega) (by omega) W
  have hs : ∀ a z, z ∈ succ a → z < N := fun a z hz => (hG.succ a).1 z hz
  have hN0 : ((N : Int) == 0) = false := by simp; omega
  have HS := Lib.hid hs
  have HG := Lib.hid hG
  have HP : Hid (postOrd succ N = (finAll succ N [(0, succ 0)] (mark (fun _ => false) 0, [])).2) := post_fin hs (by omega)
  clear hs hG
  obtain ⟨i3, hi3, hz0, hz1, hz2⟩ := info_parts info3
  have HI3 : Hid (Try.prog.info? 3 = some i3) := hi3
  have HZ0 : Hid (i3.zero = some (.int .i64 0)) := hz0
  have HZ1 : Hid (i3.size = 1) := hz1
  have HZ2 : Hid (i3.bytes = 8) := hz2
  obtain ⟨i6, hi6, hy0, hy1, hy2⟩ := info_parts info116
  have HI6 : Hid (Try.prog.info? 116 = some i6) := hi6
  have HY0 : Hid (i6.zero = some (.agg #[.int .i64 0, .slice none 0 0])) := hy0
  have HY1 : Hid (i6.size = 2) := hy1
  have HY2 : Hid (i6.bytes = 32) := hy2
  clear hi3 hz0 hz1 hz2 hi6 hy0 hy1 hy2
  go_enter Try.func51, Try.ntmps51
  go_upto_region 5 with fail
  have hm1 := mod2' w (.cells #[.string nm, .int .i64 x, .int .i64 y, .slice ob N cap] 63) (.cells (madeCells #[.bool false] N) 4)
  have hF1 := (Blk.new w 63 #[.string nm, .int .i64 x, .int .i64 y, .slice ob N cap]).alloc (.cells (madeCells #[.bool false] N) 4)
  have hC1 := Bools.new (w.alloc (.cells #[.string nm, .int .i64 x, .int .i64 y, .slice ob N cap] 63)) N
  rw [World.size_alloc] at hC1
  generalize (w.alloc (.cells #[.string nm, .int .i64 x, .int .i64 y, .slice ob N cap] 63)).alloc (.cells (madeCells #[.bool false] N) 4) = W1 at *
  obtain ⟨gc, hgc⟩ : ∃ gc, w.heap.size + 1 = gc := ⟨_, rfl⟩
  obtain ⟨gf, hgf⟩ : ∃ gf, w.heap.size = gf := ⟨_, rfl⟩
  rw [hgc] at hC1 ⊢
  rw [hgf] at hF1 ⊢
  have HGE : Hid (w.heap.size ≤ gf ∧ w.heap.size ≤ gc ∧ gf ≠ gc) := by show _ ∧ _; omega
  clear hgc hgf hmk
  have HF1 := Lib.hid hF1
  have HC1 := Lib.hid hC1
  have HM1 := Lib.hid hm1
  clear hm1 hF1 hC1
  have q0 := HC1.out.cell 0 (by omega)
  have q1 := HC1.out.frozen 0
  have l0 := HC1.out.lt
  have hN1 : (0 : Int) < (N : Int) := by omega
  go_upto_region 6 with fail
  have hC2 := HC1.out.mark 0
  have hF2 := HF1.out.far (p := ⟨gc, 0, none⟩) HGE.out.2.2 (.bool true)
  have hm2 := HM1.out.setCell (p := ⟨gc, 0, none⟩) (fun h => absurd h (by have := HGE.out; simp; omega)) (.bool true)
  generalize W1.setCell ⟨gc, 0, none⟩ (.bool true) = W2 at *
  have HC2 := Lib.hid hC2
  have HF2 := Lib.hid hF2
  have HM2 := Lib.hid hm2
  clear hC2 hF2 hm2 HC1 HF1 HM1 q0 q1 l0
  obtain ⟨q0, q1, q2, q3, l0⟩ := fn_cells nm x y ob N cap W2 gf HF2.out
  go_wp2_with fail
  refine (next_ok nm x y ob N cap 0 succ _ (HG.out.mod HM2.out)).mono ?_
  rintro e W3 ⟨vn, rfl, hvn, hm3⟩
  have hnx : nextOf N succ 0 = succ 0 := by unfold nextOf; rw [if_pos (by omega)]; rfl
  rw [hnx] at hvn
  have hT0 := hvn.rest (vl := .slice none 0 0) (fun g h => by cases h)
  obtain ⟨oa0, cn0, ev0, _⟩ := id hT0
  subst ev0
  have HT0 := Lib.hid hT0
  have HC3 := Lib.hid (HC2.out.mod hm3 (fun h => h))
  have HF3 := Lib.hid (HF2.out.mod hm3 (fun h => h))
  have HM3 := Lib.hid (HM2.out.trans hm3)
  clear hnx hvn hm3 hT0 HC2 HF2 HM2 q0 q1 q2 q3 l0
  go_wp2
  have hI : (W3.alloc (Obj.cells #[Value.int IntKind.i64 0, .slice oa0 (succ 0).length cn0] 116)).ownsRow w.heap.size 116 2 (.slice (some ⟨W3.heap.size, 0, none⟩) 1 1) 1 [Value.int .i64 0, .slice oa0 (succ 0).length cn0] := World.ownsRow_lit (size := 2) W3 #[Value.int IntKind.i64 0, .slice oa0 (succ 0).length cn0] 1 HM3.out.size (by unfold maxLen; omega) rfl
  have hA : Mod NoBlk W3 (W3.alloc (Obj.cells #[Value.int IntKind.i64 0, .slice oa0 (succ 0).length cn0] 116)) := (Mod.refl _ _).alloc _
  generalize W3.alloc (Obj.cells #[Value.int IntKind.i64 0, .slice oa0 (succ 0).length cn0] 116) = W4 at *
  have HW4 : Hid (WalkAt w N succ (finAll succ N [(0, succ 0)] (mark (fun _ => false) 0, [])) gf gc #[.string nm, .int .i64 x, .int .i64 y, .slice ob N cap] (5 * unv N (mark (fun _ => false) 0) + ((succ 0).length + 1)) (.slice none 0 0) (.slice (some ⟨W3.heap.size, 0, none⟩) 1 1) W4) := by
    refine ⟨mark (fun _ => false) 0, [], [(0, succ 0, .slice oa0 (succ 0).length cn0)], World.ownsRow_nil _ _ _ _, hI, HC3.out.mod hA (fun h => h), HF3.out.mod hA (fun h => h), ?_, rfl, HM3.out.trans hA, by simp, ?_⟩
    · intro t ht
      simp only [List.mem_singleton] at ht
      subst ht
      exact ⟨HT0.out.mod hA (fun _ _ _ _ h => h), fun z hz => HS.out 0 z hz⟩
    · have := unv_mark_eq (n := N) (c := fun _ => false) (k := 0) (by omega) rfl
      have h2 := unv_none N
      simp; omega
  generalize mark (fun _ => false) 0 = c0 at *
  clear hI hA HC3 HF3 HM3 HT0
  go_loopg [5, 7] (5 * unv N c0 + ((succ 0).length + 1)) (fun k vl vs wr => WalkAt w N succ (finAll succ N [(0, succ 0)] (c0, [])) gf gc #[.string nm, .int .i64 x, .int .i64 y, .slice ob N cap] k vl vs wr)
  case atStart => exact HW4.out
  case round =>
    clear HW4
    obtain ⟨c, L, T, hL, hT, hC, hF, hR, hfin, hm, hk, hcnt⟩ := hrel
    have HL := Lib.hid hL
    have HT := Lib.hid hT
    have HC := Lib.hid hC
    have HF := Lib.hid hF
    have HR := Lib.hid hR
    have HFI := Lib.hid hfin
    have HM := Lib.hid hm
    have HK := Lib.hid hk
    have HCN := Lib.hid hcnt
    clear hL hT hC hF hR hfin hm hk hcnt
    rcases nil_or_snoc T with rfl | ⟨T', ⟨b, rest, v⟩, rfl⟩
    · rcases HT.out.2 with ⟨rfl, _⟩ | ⟨g, cap', cur, rfl, _⟩
      · go_wp2
        go_ret
        refine ⟨_, rfl, ?_, HM.out⟩
        rw [HP.out, ← HFI.out]
        exact HL.out
      · go_wp2
        go_ret
        refine ⟨_, rfl, ?_, HM.out⟩
        rw [HP.out, ← HFI.out]
        exact HL.out
    · obtain ⟨n, hn⟩ : ∃ n, T'.length = n := ⟨_, rfl⟩
      have hT := HT.out
      rw [itemCells_snoc, show (T' ++ [(b, rest, v)]).length = n + 1 by simp [hn]] at hT
      obtain ⟨gs, cs, rfl⟩ := ownsRow_succ hT
      have hlT := itemCells_len T'
      rw [hn] at hlT
      have q0 := hT.cellAt (n * 2) (by omega)
      have q1 := hT.cellAt (n * 2 + 1) (by omega)
      have f1 := hT.frozenAt (n * 2 + 1)
      have lt1 := (hT.lt gs rfl).2
      have hcs : n + 1 ≤ cs ∧ cs ≤ 9223372036854775807 := by
        rcases hT.2 with ⟨h, _⟩ | ⟨_, _, _, h, _, _, h1, h2, _⟩
        · cases h
        · cases h; exact ⟨h1, h2⟩
      rw [List.getElem?_append_right (by omega), show n * 2 - (itemCells T').length = 0 by omega] at q0
      rw [List.getElem?_append_right (by omega), show n * 2 + 1 - (itemCells T').length = 1 by omega] at q1
      simp only [List.getElem?_cons_zero, List.getElem?_cons_succ] at q0 q1
      have HTT := Lib.hid hT
      have HLT := Lib.hid hlT
      have HNT := Lib.hid hn
      obtain ⟨hrest, hrl⟩ := HR.out (b, rest, v) (by simp)
      simp only at hrest hrl
      have HRL := Lib.hid hrl
      have HRR : Hid (∀ t ∈ T', RestAt wr u5 t.2.2 t.2.1 ∧ ∀ x ∈ t.2.1, x < N) := fun t ht => HR.out t (by simp [ht])
      have hn60 : n < 60 ∧ L.length < 60 := by have h1 := HCN.out; simp at h1; omega
      clear hT hlT hn hrl HT HR
      cases rest with
      | nil =>
        obtain ⟨oa, cv, rfl⟩ := hrest.none
        clear hrest
        have hsz := HM.out.size
        go_upto_region 10 with fail
        go_wp2_with (at_builtin; go_must (refine wpList_append_lies _ rfl _ _ 65 rfl w.heap.size 3 i3 (.int .i64 0) 1 8 Try.underlying65 HI3.out HZ0.out HZ1.out HZ2.out rfl (by decide) u5 L.length (L.map fun x => Value.int .i64 (x : Nat)) rfl (World.ownsRow.alloc HL.out _) ⟨wr.heap.size, 0, none⟩ 1 1 [_] rfl rfl (cell_one_new _ _ _) (by simp [Value.oneCell']) (by omega) (by unfold maxLen; omega) (by omega) (by simp; omega) _ rfl ?_); intro g c2 w1 hown hgrow hat _; have HOW := Lib.hid hown; have HGR := Lib.hid hgrow; have HAT := Lib.hid hat; clear hown hgrow hat)
        go_roundg (5 * unv N c + (T'.map fun t => t.2.1.length + 1).sum)
        case measure =>
          have h1 := HK.out
          simp at h1
          omega
        case rel =>
          have hmg := grow_mod HGR.out
          have hpop := ownsRow_pop (xs := itemCells T') HLT.out HTT.out
          have hneT : ∀ j, (Value.slice (some ⟨gs, 0, none⟩) n cs).ownBlock = some j → ¬ u5.ownBlock = some j := fun j hj h => by
            rcases hpop.2 with ⟨h', _⟩ | ⟨g', cap', cur, hv', _, hgb, _⟩
            · cases h'
            · cases hv'
              cases hj
              exact row_ne_blk HL.out (show Blk wr gs 116 cur from hgb) (by decide) h
          refine ⟨c, L ++ [b], T', ?_, ?_, ?_, ?_, ?_, ?_, ?_, rfl, ?_⟩
          · have := HOW.out
            unfold Ints
            simpa using this
          · rw [HNT.out]; exact row_mod hpop hmg hneT
          · obtain ⟨cb, hcb, hcs2⟩ := HC.out
            exact ⟨cb, hcb.mod hmg (row_ne_blk HL.out hcb (by decide)), hcs2⟩
          · exact HF.out.mod hmg (row_ne_blk HL.out HF.out (by decide))
          · intro t ht
            obtain ⟨h1, h2⟩ := HRR.out t ht
            refine ⟨rest_grow h1 hmg ?_, h2⟩
            rcases HAT.out with h | h
            · exact .inl h
            · refine .inr ?_
              rw [h]; simp
          · have := HFI.out
            rw [List.map_append, List.map_cons, List.map_nil, finAll_snoc, fin1_nil] at this
            exact this
          · exact HM.out.trans' hmg (fun i hi h => absurd hi (by have := (HL.out.lt i h).1; omega))
          · have := HCN.out
            simp at this ⊢
            omega
      | cons k rest =>
        obtain ⟨g, o, c2, rfl, hle2, hmx2, hcell, hglt⟩ := hrest.head
        have HRR0 := Lib.hid hrest
        have hkN : k < N := HRL.out k (by simp)
        have hk1 : ((k : Int) != -1) = true := by simp
        have hsz := HM.out.size
        have b0 := HC.out.cell k hkN
        have lc := HC.out.lt
        have hgc : gs ≠ gc := fun e => by
          obtain ⟨cb, hcb, _⟩ := HC.out
          exact row_ne_blk HTT.out hcb (by decide) (by rw [e]; rfl)
        obtain ⟨m, hm⟩ : ∃ m, rest.length = m := ⟨_, rfl⟩
        rw [hm] at hle2
        clear hrest
        go_upto_region 14 with fail
        have hms : Mod (fun j => j = gs) wr (wr.setCell ⟨gs, n * 2 + 1, none⟩ (.slice (if c2 = 1 then some ⟨g, o, none⟩ else some ⟨g, o + 1, none⟩) m (c2 - 1))) := (Mod.refl (fun j => j = gs) wr).setCell (p := ⟨gs, n * 2 + 1, none⟩) (fun _ => rfl) _
        have hst := (HTT.out.stored (n * 2 + 1) (.slice (if c2 = 1 then some ⟨g, o, none⟩ else some ⟨g, o + 1, none⟩) m (c2 - 1))).1
        have hlT := HLT.out
        rw [List.set_append_right _ _ (by omega), show n * 2 + 1 - (itemCells T').length = 1 by omega] at hst
        simp only [List.set_cons_succ, List.set_cons_zero] at hst
        clear hlT
        have hr2 := rest_tail (c := c2) HRR0.out
        rw [hm] at hr2
        generalize hvw : (Value.slice (if c2 = 1 then some ⟨g, o, none⟩ else some ⟨g, o + 1, none⟩) m (c2 - 1)) = vw at *
        generalize wr.setCell ⟨gs, n * 2 + 1, none⟩ vw = W5 at *
        have hngs : ∀ g' cs', Blk wr g' 3 cs' → ¬ g' = gs := fun g' cs' hb e => row_ne_blk HTT.out (e ▸ hb) (by decide) rfl
        have HST := Lib.hid hst
        have HL5 : Hid (Ints W5 w.heap.size u5 L) := row_mod HL.out hms (fun g' hg' e => by
          rcases HL.out.2 with ⟨h', _⟩ | ⟨g2, cap', cur, h', _, hgb, _⟩
          · rw [h'] at hg'; cases hg'
          · rw [h'] at hg'
            simp only [Value.ownBlock, Option.some.injEq] at hg'
            subst hg'
            exact hngs g2 cur hgb e)
        have HC5 := Lib.hid (HC.out.mod hms (Ne.symm hgc))
        have HF5 := Lib.hid (HF.out.mod hms (fun e => row_ne_blk HTT.out HF.out (by decide) (by rw [e]; rfl)))
        have HR5 : Hid (∀ t ∈ T' ++ [(b, rest, vw)], RestAt W5 u5 t.2.2 t.2.1 ∧ ∀ x ∈ t.2.1, x < N) := by
          intro t ht
          rcases List.mem_append.1 ht with ht | ht
          · obtain ⟨h1, h2⟩ := HRR.out t ht
            exact ⟨h1.mod hms (fun g' cs' hb _ => hngs g' cs' hb), h2⟩
          · simp only [List.mem_singleton] at ht
            subst ht
            exact ⟨hr2.mod hms (fun g' cs' hb _ => hngs g' cs' hb), fun x hx => HRL.out x (by simp [hx])⟩
        have HM5 := Lib.hid (HM.out.trans' hms (fun i hi h => absurd hi (by have := (HTT.out.lt gs rfl).1; omega)))
        clear hms hst hr2 hngs HL HC HF HRR HM HTT HRR0 q0 q1 f1 lt1 b0 lc hcell hglt hvw
        have b0 := HC5.out.cell k hkN
        have b1 := HC5.out.frozen k
        have lc := HC5.out.lt
        cases hck : c k with
        | true =>
          rw [hck] at b0
          go_wp2
          go_roundg (5 * unv N c + ((T' ++ [(b, rest, vw)]).map fun t => t.2.1.length + 1).sum)
          case measure =>
            have h1 := HK.out
            simp at h1 ⊢
            omega
          case rel =>
            refine ⟨c, L, T' ++ [(b, rest, vw)], HL5.out, ?_, HC5.out, HF5.out, HR5.out, ?_, HM5.out, rfl, ?_⟩
            · rw [itemCells_snoc, show (T' ++ [(b, rest, vw)]).length = n + 1 by simp [HNT.out]]
              exact HST.out
            · have := HFI.out
              rw [List.map_append, List.map_cons, List.map_nil, finAll_snoc, fin1_come _ _ _ _ hck] at this
              rw [List.map_append, List.map_cons, List.map_nil, finAll_snoc]
              exact this
            · have := HCN.out
              simp at this ⊢
              omega
        | false =>
          rw [hck] at b0
          go_upto_region 16 with fail
          have hmc : Mod (fun j => j = gc) W5 (W5.setCell ⟨gc, k, none⟩ (.bool true)) := (Mod.refl (fun j => j = gc) W5).setCell (p := ⟨gc, k, none⟩) (fun _ => rfl) _
          have hC6 := HC5.out.mark k
          generalize W5.setCell ⟨gc, k, none⟩ (.bool true) = W6 at *
          have hngc : ∀ g' t' cs', t' ≠ 4 → Blk W5 g' t' cs' → ¬ g' = gc := fun g' t' cs' ht hb e => by
            obtain ⟨cb, hcb, _⟩ := HC5.out
            exact ht (hb.uniq (e ▸ hcb)).1
          have HC6 := Lib.hid hC6
          have HL6 : Hid (Ints W6 w.heap.size u5 L) := row_mod HL5.out hmc (fun g' hg' e => by
            obtain ⟨cb, hcb, _⟩ := HC5.out
            exact row_ne_blk HL5.out hcb (by decide) (by rw [hg', e]))
          have HT6 := Lib.hid (row_mod HST.out hmc (fun g' hg' e => by
            obtain ⟨cb, hcb, _⟩ := HC5.out
            exact row_ne_blk HST.out hcb (by decide) (by rw [hg', e])))
          have HF6 := Lib.hid (HF5.out.mod hmc (hngc _ _ _ (by decide) HF5.out))
          have HR6 : Hid (∀ t ∈ T' ++ [(b, rest, vw)], RestAt W6 u5 t.2.2 t.2.1 ∧ ∀ x ∈ t.2.1, x < N) := fun t ht => ⟨(HR5.out t ht).1.mod hmc (fun g' cs' hb _ => hngc g' 3 cs' (by decide) hb), (HR5.out t ht).2⟩
          have HM6 := Lib.hid (HM5.out.trans' hmc (fun i hi h => absurd hi (by have := HGE.out; omega)))
          clear hmc hC6 hngc HST HL5 HC5 HF5 HR5 HM5 b0 b1 lc
          obtain ⟨q0, q1, q2, q3, l0⟩ := fn_cells nm x y ob N cap W6 gf HF6.out
          go_wp2_with fail
          refine (next_ok nm x y ob N cap k succ _ (HG.out.mod HM6.out)).mono ?_
          rintro e W7 ⟨vn, rfl, hvn, hm7⟩
          have hnx : nextOf N succ k = succ k := by unfold nextOf; rw [if_pos (by omega)]; rfl
          rw [hnx] at hvn
          have hT0 := hvn.rest (vl := u5) (fun g h => (HL6.out.lt g h).2)
          obtain ⟨oa7, cn7, ev7, _⟩ := id hT0
          subst ev7
          have HT0 := Lib.hid hT0
          have HL7 : Hid (Ints W7 w.heap.size u5 L) := row_mod HL6.out hm7 (fun _ _ h => h)
          have HT7 := Lib.hid (row_mod HT6.out hm7 (fun _ _ h => h))
          have HC7 := Lib.hid (HC6.out.mod hm7 (fun h => h))
          have HF7 := Lib.hid (HF6.out.mod hm7 (fun h => h))
          have HR7 : Hid (∀ t ∈ T' ++ [(b, rest, vw)], RestAt W7 u5 t.2.2 t.2.1 ∧ ∀ x ∈ t.2.1, x < N) := fun t ht => ⟨(HR6.out t ht).1.mod hm7 (fun _ _ _ _ h => h), (HR6.out t ht).2⟩
          have HM7 := Lib.hid (HM6.out.trans hm7)
          have hsz7 := (HM6.out.trans hm7).size
          clear hnx hvn hm7 hT0 HL6 HT6 HC6 HF6 HR6 HM6 q0 q1 q2 q3 l0
          go_wp2_with (at_builtin; go_must (refine wpList_append_lies _ rfl _ _ 117 rfl w.heap.size 116 i6 (.agg #[.int .i64 0, .slice none 0 0]) 2 32 Try.underlying117 HI6.out HY0.out HY1.out HY2.out rfl (by decide) (.slice (some ⟨gs, 0, none⟩) (n + 1) cs) (n + 1) (itemCells T' ++ [.int .i64 (b : Nat), vw]) rfl (World.ownsRow.alloc HT7.out _) ⟨W7.heap.size, 0, none⟩ 1 1 [.int .i64 (k : Nat), .slice oa7 (succ k).length cn7] rfl rfl (World.news_of_block (heap_alloc_new _ _)) (by simp [Value.oneCell']) (by omega) (by unfold maxLen; omega) (by omega) (by simp; omega) _ rfl ?_); intro g8 c8 w8 hown hgrow hat _; have HOW := Lib.hid hown; have HGR := Lib.hid hgrow; have HAT := Lib.hid hat; clear hown hgrow hat)
          go_roundg (5 * unv N (mark c k) + ((T' ++ [(b, rest, vw)] ++ [(k, succ k, Value.slice oa7 (succ k).length cn7)]).map fun t => t.2.1.length + 1).sum)
          case measure =>
            have h1 := HK.out
            have h2 := unv_mark_eq hkN hck
            have h3 := (HG.out.succ k).2.1
            simp at h1 ⊢
            omega
          case rel =>
            have hmg := grow_mod HGR.out
            obtain ⟨cur, hgs⟩ : ∃ cur, Blk W7 gs 116 cur := by
              rcases HT7.out.2 with ⟨h', _⟩ | ⟨g', cap', cur, hv', _, hgb, _⟩
              · cases h'
              · cases hv'; exact ⟨cur, hgb⟩
            have hne : ∀ g' t' cs', t' ≠ 116 → Blk W7 g' t' cs' → ¬ (Value.slice (some ⟨gs, 0, none⟩) (n + 1) cs).ownBlock = some g' := fun g' t' cs' ht hb e => by
              cases e
              exact ht (hb.uniq hgs).1
            refine ⟨mark c k, L, T' ++ [(b, rest, vw)] ++ [(k, succ k, Value.slice oa7 (succ k).length cn7)], ?_, ?_, ?_, ?_, ?_, ?_, ?_, rfl, ?_⟩
            · exact row_mod HL7.out hmg (fun g' hg' e => by
                cases e
                exact row_ne_blk HL7.out hgs (by decide) hg')
            · have := HOW.out
              rw [itemCells_snoc, itemCells_snoc, show (T' ++ [(b, rest, vw)] ++ [(k, succ k, Value.slice oa7 (succ k).length cn7)]).length = n + 1 + 1 by simp [HNT.out]]
              exact this
            · obtain ⟨cb, hcb, hcs2⟩ := HC7.out
              exact ⟨cb, hcb.mod hmg (hne _ _ _ (by decide) hcb), hcs2⟩
            · exact HF7.out.mod hmg (hne _ _ _ (by decide) HF7.out)
            · intro t ht
              rcases List.mem_append.1 ht with ht | ht
              · exact ⟨(HR7.out t ht).1.mod hmg (fun g' cs' hb _ => hne g' 3 cs' (by decide) hb), (HR7.out t ht).2⟩
              · simp only [List.mem_singleton] at ht
                subst ht
                exact ⟨HT0.out.mod hmg (fun g' cs' hb _ => hne g' 3 cs' (by decide) hb), fun x hx => HS.out k x hx⟩
            · have := HFI.out
              rw [List.map_append, List.map_cons, List.map_nil, finAll_snoc, fin1_push HS.out _ _ _ _ _ hkN hck] at this
              rw [List.map_append, List.map_append, List.map_cons, List.map_nil, List.map_cons, List.map_nil, finAll_snoc, finAll_snoc]
              exact this
            · exact HM7.out.trans' hmg (fun i hi h => absurd hi (by have := (HT7.out.lt i h).1; omega))
            · have h1 := HCN.out
              have h2 := unv_mark_eq hkN hck
              simp at h1 ⊢
              omega

end Go.Proofs.Ytjaapempahigaaa
