/- The document's Order. -/
import Derived.Test.YtjaapempahigaaaRn5
import Derived.Deep.RegionHeld3
namespace Go.Proofs.Ytjaapempahigaaa
open Go.RowKit

theorem Blk.new2 (w : World) (o : Obj) (t : TypeId) (cs : Array Value) : Blk ((w.alloc o).alloc (.cells cs t)) (w.heap.size + 1) t cs := by
  have h := Blk.new (w.alloc o) t cs
  rwa [World.size_alloc] at h
theorem Bools.new2 (w : World) (o : Obj) (N : Nat) : Bools ((w.alloc o).alloc (.cells (madeCells #[.bool false] N) 4)).drew (w.heap.size + 1) N (fun _ => false) := by
  have h := (Bools.new (w.alloc o) N).mod ((Mod.refl NoBlk _).drew) (fun h => h)
  rwa [World.size_alloc] at h
theorem refWalk_zero (nm : ByteArray) (x y : Int) (ob : Option Addr) (N cap gc : Nat) (succ : Nat → List Nat) (w0 w : World) (hG : GraphAt w0 ob N succ) (hN : N ≤ 60) (h0 : 0 < N) (hm : Mod NoBlk w0 w) (hC : Bools w gc N (fun _ => false)) (hg : w0.heap.size ≤ gc) :
    Calls Try.prog 54 #[fnV nm x y ob N cap, .int .i64 0, .agg #[.slice (some ⟨gc, 0, none⟩) N N, .slice none 0 0]] w fun e w' => ∃ oa cv, e = .returned (.agg #[.slice (some ⟨gc, 0, none⟩) N N, .slice oa (postOrd succ N).length cv]) ∧ Ints w' w0.heap.size (.slice oa (postOrd succ N).length cv) (postOrd succ N) ∧ Mod (fun j => j = gc) w w' := by
  have h := refWalk_in nm x y ob N cap gc w0.heap.size succ w0 hG hN hg (Nat.le_refl _) (N + 1) 0 (fun _ => false) [] (.slice none 0 0) w h0 (Nat.lt_succ_of_le (unv_le _ _)) (by simpa using unv_le N (fun _ => false)) hm hC (World.ownsRow_nil _ _ _ _) hm.size
  have e : (visit succ (N + 1) (fun _ => false, []) 0).2 = postOrd succ N := by unfold postOrd; rw [if_neg (by omega)]
  rw [e] at h
  refine Calls.mono h ?_
  rintro e' w' ⟨vl, rfl, _, hI, hM, _⟩
  obtain ⟨oa, cv, rfl, _, _⟩ := hI.at_
  exact ⟨oa, cv, rfl, hI, hM.mono (fun k _ h => h.elim (fun h => h) (fun h => (by cases h)))⟩

set_option maxRecDepth 100000 in
set_option maxHeartbeats 4000000 in
theorem refOrder_ok (nm : ByteArray) (x y : Int) (ob : Option Addr) (N cap : Nat) (succ : Nat → List Nat) (w : World) (hG : GraphAt w ob N succ) (hN : N ≤ 60) :
    Calls Try.prog 38 #[fnV nm x y ob N cap] w fun e w' => ∃ v, e = .returned v ∧ Ints w' w.heap.size v (ordOf succ N) ∧ Mod NoBlk w w' := by
  rcases Nat.eq_zero_or_pos N with h0 | h0
  · subst h0
    go_enter Try.func38, Try.ntmps38
    go_wp2
    go_ret
    exact ⟨_, rfl, by simp [ordOf, postOrd]; exact World.ownsRow_nil _ _ _ _, (Mod.refl _ w).alloc _⟩
  · have hmk := fun W => Go.run_make_row' (P := Try.prog) 71 4 (.bool false) 1 Try.underlying71 info4 rfl .i64 .i64 N (by omega) (by omega) W
    obtain ⟨i3, hi3, hz0, hz1, hz2⟩ := info_parts info3
    have HI3 := Lib.hid hi3
    have HZ0 := Lib.hid hz0
    have HZ1 := Lib.hid hz1
    have HZ2 := Lib.hid hz2
    have hs : ∀ a z, z ∈ succ a → z < N := fun a z hz => (hG.succ a).1 z hz
    have HS := Lib.hid hs
    have HG := Lib.hid hG
    have e2 : ((N : Int) == 0) = false := by
      rw [beq_eq_false_iff_ne]
      omega
    clear hi3 hz0 hz1 hz2 hs hG
    go_enter Try.func38, Try.ntmps38
    go_upto_region 3 with fail
    have hm1 : Mod NoBlk w (w.alloc (.cells #[.string nm, .int .i64 x, .int .i64 y, .slice ob N cap] 63)) := (Mod.refl _ w).alloc _
    have hF1 := Blk.new w 63 #[.string nm, .int .i64 x, .int .i64 y, .slice ob N cap]
    generalize w.alloc (.cells #[.string nm, .int .i64 x, .int .i64 y, .slice ob N cap] 63) = W1 at *
    obtain ⟨gf, hgf⟩ : ∃ gf, w.heap.size = gf := ⟨_, rfl⟩
    rw [hgf] at hF1 ⊢
    obtain ⟨q0, q1, q2, q3, l0⟩ := fn_cells nm x y ob N cap W1 gf hF1
    have HF := Lib.hid hF1
    have HM := Lib.hid hm1
    have HGF := Lib.hid hgf
    clear hm1 hF1 hgf
    go_cut [3] (fun s3 wx => ∃ g3 gc vl, s3 = .pointer (some ⟨g3, 0, none⟩) ∧ Blk wx g3 106 #[.slice (some ⟨gc, 0, none⟩) N N, vl] ∧ Ints wx W1.heap.size vl (postOrd succ N) ∧ Mod NoBlk W1 wx)
    case first =>
      have HX : Hid (∀ w', Mod NoBlk W1 w' → w'.cell? ⟨gf, 0, none⟩ = some (.string nm) ∧ w'.cell? ⟨gf, 1, none⟩ = some (.int .i64 x) ∧ w'.cell? ⟨gf, 2, none⟩ = some (.int .i64 y) ∧ w'.cell? ⟨gf, 3, none⟩ = some (.slice ob N cap)) := by
        intro w' hm
        obtain ⟨k0, k1, k2, k3, _⟩ := fn_cells nm x y ob N cap w' gf (HF.out.mod hm (fun h => h))
        exact ⟨k0, k1, k2, k3⟩
      go_region_held3 (fun w' => w'.cell? ⟨gf, 0, none⟩ = some (.string nm) ∧ w'.cell? ⟨gf, 1, none⟩ = some (.int .i64 x) ∧ w'.cell? ⟨gf, 2, none⟩ = some (.int .i64 y) ∧ w'.cell? ⟨gf, 3, none⟩ = some (.slice ob N cap))
        ((refine HX.out _ ?_; repeat (first | exact hmK | exact Mod.refl _ _ | apply Mod.drew | (refine Mod.alloc ?_ _) | (refine Mod.setCell ?_ (fun h => absurd h (by have hsK := hmK.size; dsimp only; omega)) _))))
        ((first | (go_at_call 54; (with_reducible refine (refWalk_zero nm x y ob N cap (W1.heap.size) succ W1 _ (HG.out.mod HM.out) hN h0 (((Mod.refl NoBlk W1).alloc (.cells (madeCells #[.bool false] N) 4)).drew) ((Bools.new W1 N).mod ((Mod.refl NoBlk _).drew) (fun h => h)) (Nat.le_refl _)).mono ?_); rintro e w4 ⟨ov4, cv4, rfl, hI4, hM4⟩; have hmK : Mod NoBlk W1 w4 := (((Mod.refl NoBlk W1).alloc (.cells (madeCells #[.bool false] N) 4)).drew).trans' hM4 (fun k hk h => absurd hk (by have h' : k = W1.heap.size := h; omega)); have HI4 := Lib.hid hI4; have HMK := Lib.hid hmK; clear hI4 hM4) | (go_at_call 54; (with_reducible refine (refWalk_zero nm x y ob N cap (W1.heap.size) succ W1 _ (HG.out.mod HM.out) hN h0 ((((Mod.refl NoBlk W1).alloc (.cells (madeCells #[.bool false] N) 4)).alloc (.cells #[.slice none 0 0, .slice none 0 0] 106)).drew) ((Bools.new W1 N).mod (((Mod.refl NoBlk _).alloc (.cells #[.slice none 0 0, .slice none 0 0] 106)).drew) (fun h => h)) (Nat.le_refl _)).mono ?_); rintro e w4 ⟨ov4, cv4, rfl, hI4, hM4⟩; have hmK : Mod NoBlk W1 w4 := ((((Mod.refl NoBlk W1).alloc (.cells (madeCells #[.bool false] N) 4)).alloc (.cells #[.slice none 0 0, .slice none 0 0] 106)).drew).trans' hM4 (fun k hk h => absurd hk (by have h' : k = W1.heap.size := h; omega)); have hb3 : Blk w4 (W1.heap.size + 1) 106 #[.slice none 0 0, .slice none 0 0] := ((Blk.new2 W1 (.cells (madeCells #[.bool false] N) 4) 106 #[.slice none 0 0, .slice none 0 0]).drew).mod hM4 (fun h => by have h' : W1.heap.size + 1 = W1.heap.size := h; omega); have v30 := hb3.cell 0; have v31 := hb3.cell 1; simp only [List.getElem?_toArray, List.getElem?_cons_zero, List.getElem?_cons_succ] at v30 v31; have f30 := hb3.frozen 0; have f31 := hb3.frozen 1; have l3 := hb3.lt; have HB3 := Lib.hid hb3; clear hb3; have HI4 := Lib.hid hI4; have HMK := Lib.hid hmK; clear hI4 hM4) | (go_at_call 54; (with_reducible refine (refWalk_zero nm x y ob N cap (W1.heap.size + 1) succ W1 _ (HG.out.mod HM.out) hN h0 ((((Mod.refl NoBlk W1).alloc (.cells #[.slice none 0 0, .slice none 0 0] 106)).alloc (.cells (madeCells #[.bool false] N) 4)).drew) (Bools.new2 W1 (.cells #[.slice none 0 0, .slice none 0 0] 106) N) (Nat.le_succ _)).mono ?_); rintro e w4 ⟨ov4, cv4, rfl, hI4, hM4⟩; have hmK : Mod NoBlk W1 w4 := ((((Mod.refl NoBlk W1).alloc (.cells #[.slice none 0 0, .slice none 0 0] 106)).alloc (.cells (madeCells #[.bool false] N) 4)).drew).trans' hM4 (fun k hk h => absurd hk (by have h' : k = W1.heap.size + 1 := h; omega)); have hb3 : Blk w4 (W1.heap.size) 106 #[.slice none 0 0, .slice none 0 0] := (((Blk.new W1 106 #[.slice none 0 0, .slice none 0 0]).alloc (.cells (madeCells #[.bool false] N) 4)).drew).mod hM4 (fun h => by have h' : W1.heap.size = W1.heap.size + 1 := h; omega); have v30 := hb3.cell 0; have v31 := hb3.cell 1; simp only [List.getElem?_toArray, List.getElem?_cons_zero, List.getElem?_cons_succ] at v30 v31; have f30 := hb3.frozen 0; have f31 := hb3.frozen 1; have l3 := hb3.lt; have HB3 := Lib.hid hb3; clear hb3; have HI4 := Lib.hid hI4; have HMK := Lib.hid hmK; clear hI4 hM4)))
      all_goals
        go_wp2_with fail
        go_meet
        first
        | exact ⟨w4.heap.size, _, _, rfl, Blk.new w4 106 _, HI4.out.mod ((Mod.refl _ _).alloc _), HMK.out.alloc _⟩
        | (have hm5 := ((Mod.refl (fun j => j = W1.heap.size + 1) w4).setCell (p := ⟨W1.heap.size + 1, 0, none⟩) (fun _ => rfl) (.slice (some ⟨W1.heap.size, 0, none⟩) N N)).setCell (p := ⟨W1.heap.size + 1, 1, none⟩) (fun _ => rfl) (.slice ov4 (postOrd succ N).length cv4)
           exact ⟨W1.heap.size + 1, _, _, rfl, (HB3.out.set_ 0 _).set_ 1 _, row_mod HI4.out hm5 (fun j hj e => row_ne_blk HI4.out HB3.out (by decide) (by rw [hj, show j = W1.heap.size + 1 from e])), HMK.out.trans' hm5 (fun k hk h => absurd hk (by have h' : k = W1.heap.size + 1 := h; omega))⟩)
        | (have hm5 := ((Mod.refl (fun j => j = W1.heap.size) w4).setCell (p := ⟨W1.heap.size, 0, none⟩) (fun _ => rfl) (.slice (some ⟨W1.heap.size + 1, 0, none⟩) N N)).setCell (p := ⟨W1.heap.size, 1, none⟩) (fun _ => rfl) (.slice ov4 (postOrd succ N).length cv4)
           exact ⟨W1.heap.size, _, _, rfl, (HB3.out.set_ 0 _).set_ 1 _, row_mod HI4.out hm5 (fun j hj e => row_ne_blk HI4.out HB3.out (by decide) (by rw [hj, show j = W1.heap.size from e])), HMK.out.trans' hm5 (fun k hk h => absurd hk (by have h' : k = W1.heap.size := h; omega))⟩)
    case rest =>
      clear q0 q1 q2 q3 l0 hmk
      obtain ⟨g3, gc, vl, rfl, hB3, hI, hm⟩ := hcut
      obtain ⟨ov, cv, rfl, hcv1, hcv2⟩ := hI.at_
      have hpl := post_len succ N HS.out
      obtain ⟨L, hL⟩ : ∃ L, postOrd succ N = L := ⟨_, rfl⟩
      rw [hL] at hI hB3 hcv1 hpl
      have HL := Lib.hid hL
      obtain ⟨ll, hll⟩ : ∃ ll, L.length = ll := ⟨_, rfl⟩
      have HI := Lib.hid hI
      rw [hll] at hB3 hcv1 hpl HI
      have HLL := Lib.hid hll
      have x1 := hB3.cell 1
      simp only [List.getElem?_toArray, List.getElem?_cons_zero, List.getElem?_cons_succ] at x1
      have HB3 := Lib.hid hB3
      have HMC := Lib.hid hm
      obtain ⟨sz, hsz⟩ : ∃ sz, wc.heap.size = sz := ⟨_, rfl⟩
      have HSZ := Lib.hid hsz
      clear hL hll hI hB3 hm hsz
      go_wp2
      go_loopw [4, 5] (fun s4 s5 wr => ∃ (k : Nat) (i : Int), k ≤ ll ∧ i + 1 = k ∧ s5 = .int .i64 i ∧ Ints wr sz s4 ((L.drop k).reverse) ∧ Mod NoBlk wc wr) (fun _ s5 _ => (intOf s5 + 1).toNat)
      case atStart => exact ⟨ll, _, by omega, by omega, rfl, by rw [List.drop_of_length_le (by rw [HLL.out]; exact Nat.le_refl _)]; exact World.ownsRow_nil _ _ _ _, Mod.refl _ _⟩
      case round =>
        obtain ⟨k, i, hk, hi, rfl, hO, hMr⟩ := hrel
        have HO := Lib.hid hO
        have HMR := Lib.hid hMr
        have x1' := (HB3.out.mod hMr (fun h => h)).cell 1
        simp only [List.getElem?_toArray, List.getElem?_cons_zero, List.getElem?_cons_succ] at x1'
        clear hO hMr x1
        rcases Nat.eq_zero_or_pos k with hk0 | hk0
        · obtain rfl : i = -1 := by omega
          subst k
          go_wp2
          go_ret
          refine ⟨_, rfl, ?_, HM.out.trans (HMC.out.trans HMR.out)⟩
          have h := HO.out
          rw [List.drop_zero] at h
          unfold ordOf
          rw [HL.out]
          exact h.base (by have := HM.out.size; have := HMC.out.size; have := HSZ.out; omega)
        · obtain ⟨j, rfl⟩ : ∃ j, k = j + 1 := ⟨k - 1, by omega⟩
          obtain rfl : i = (j : Int) := by omega
          have hjl : j < L.length := by rw [HLL.out]; omega
          obtain ⟨z, hz⟩ : ∃ z, L[j]? = some z := ⟨_, List.getElem?_eq_getElem hjl⟩
          have hV : Ints wr W1.heap.size (.slice ov ll cv) L := HI.out.mod HMR.out
          rw [← HLL.out] at hV
          obtain ⟨gr, rfl, _, hgr, d2⟩ := hV.get hz
          have HZ : Hid ((L.drop j).reverse = (L.drop (j + 1)).reverse ++ [z]) := by
            unfold Hid
            rw [List.drop_eq_getElem_cons hjl, List.reverse_cons]
            rw [(List.getElem?_eq_some_iff.1 hz).2]
          have hql : (L.drop (j + 1)).reverse.length ≤ 60 := by
            rw [List.length_reverse, List.length_drop, HLL.out]
            omega
          have hws : sz ≤ wr.heap.size := by have := HMR.out.size; have := HSZ.out; omega
          clear hz hV hjl
          generalize (L.drop (j + 1)).reverse = q at *
          go_wp2_with (at_builtin; go_must (refine wpList_append_lies _ rfl _ _ 65 rfl sz 3 i3 (.int .i64 0) 1 8 Try.underlying65 HI3.out HZ0.out HZ1.out HZ2.out rfl (by decide) u4 q.length (q.map fun x => Value.int .i64 (x : Nat)) rfl (World.ownsRow.alloc HO.out _) ⟨wr.heap.size, 0, none⟩ 1 1 [_] rfl rfl (cell_one_new _ _ _) (by simp [Value.oneCell']) (by omega) (by unfold maxLen; omega) (by omega) (by simp; omega) _ rfl ?_); intro g2 c2 w3 hown hgrow _ _; have HOW := Lib.hid hown; have HGR := Lib.hid hgrow; clear hown hgrow)
          go_roundw
          case measure => simp [intOf]
          case rel =>
            refine ⟨j, (j : Int) - 1, by omega, by omega, rfl, ?_, HMR.out.trans' (grow_mod HGR.out) (fun i hi h => absurd hi ?_)⟩
            · rw [HZ.out]
              have := HOW.out
              unfold Ints
              simpa using this
            · have h1 := (HO.out.lt i h).1
              have := HSZ.out
              omega
end Go.Proofs.Ytjaapempahigaaa
