/- FlowCuts' walk. -/
import Derived.Test.YtjaapempahigaaaFl18
import Derived.Outline
namespace Go.Proofs.Ytjaapempahigaaa
open Go.RowKit

set_option maxRecDepth 100000 in
set_option maxHeartbeats 4000000 in
theorem flowCuts_big1 (nm : ByteArray) (x y : Int) (ob : Option Addr) (N cap z : Nat) (w : World) (hN : 60 < N) (hm : N ≤ 9223372036854775807) :
    Calls Try.prog 11 #[fnV nm x y ob N cap, .int .u8 (z : Nat)] w fun e w' => e = .returned (.bool true) ∧ Mod NoBlk w w' := by
  go_enter Try.func11, Try.ntmps11
  go_wp2_with (go_at_call 27; refine (head_ok _).mono ?_; rintro e w2 ⟨rfl, hm2⟩)
  go_ret
  exact ⟨rfl, ((Mod.refl _ w).alloc _).trans hm2⟩
set_option maxRecDepth 100000 in
set_option maxHeartbeats 4000000 in
theorem flowCuts_big2 (nm : ByteArray) (x y : Int) (ob : Option Addr) (cap z : Nat) (w : World) :
    Calls Try.prog 11 #[fnV nm x y ob 0 cap, .int .u8 (z : Nat)] w fun e w' => e = .returned (.bool true) ∧ Mod NoBlk w w' := by
  go_enter Try.func11, Try.ntmps11
  go_wp2_with (go_at_call 27; refine (head_ok _).mono ?_; rintro e w2 ⟨rfl, hm2⟩)
  go_ret
  exact ⟨rfl, ((Mod.refl _ w).alloc _).trans hm2⟩

set_option maxRecDepth 100000 in
set_option maxHeartbeats 4000000 in
theorem flowCuts_walk (nm : ByteArray) (x y : Int) (ad : Addr) (N cap z : Nat) (succ : Nat → List Nat) (w : World) (hG : GraphAt w (some ad) N succ) (hz : z ≤ 255) (hN : N ≤ 60) (h0 : 0 < N) :
    Calls Try.prog 11 #[fnV nm x y (some ad) N cap, .int .u8 (z : Nat)] w fun e w' => e = .returned (.bool true) ∧ Mod NoBlk w w' := by
  have hs : ∀ a z, z ∈ succ a → z < N := fun a z hz => (hG.succ a).1 z hz
  have HS := Lib.hid hs
  have HG := Lib.hid hG
  have e2 : ((N : Int) == 0) = false := by
    rw [beq_eq_false_iff_ne]
    omega
  have z0 : (0 : Int) ≤ (z : Int) := by omega
  have z1 : (0 : Int) ≤ (z : Int) % (N : Int) := by omega
  have z2 : (z : Int) % (N : Int) < (N : Int) := Int.emod_lt_of_pos _ (by omega)
  have z3 : (1 : Int) ≤ (N : Int) := by omega
  obtain ⟨b, hb⟩ : ∃ b, z % N = b := ⟨_, rfl⟩
  have hbN : b < N := by rw [← hb]; exact Nat.mod_lt _ h0
  have hbi : (z : Int) % (N : Int) = (b : Int) := by rw [← hb]; exact (Int.natCast_emod z N).symm
  obtain ⟨i81, hi, hz0, hz1, hz2⟩ := info_parts info81
  have HI := Lib.hid hi
  have HZ0 := Lib.hid hz0
  have HZ1 := Lib.hid hz1
  have HZ2 := Lib.hid hz2
  obtain ⟨news, hnl, hnw⟩ := hG.news
  have HNL := Lib.hid hnl
  have HNW := Lib.hid hnw
  clear hs hG hi hz0 hz1 hz2 hnl hnw hb z1 z2
  go_enter Try.func11, Try.ntmps11
  go_upto_region 5 with fail
  obtain ⟨gf, hgf⟩ : ∃ gf, w.heap.size = gf := ⟨_, rfl⟩
  obtain ⟨gm, hgm⟩ : ∃ gm, gf + 1 = gm := ⟨_, rfl⟩
  have hm2 : Mod NoBlk w ((w.alloc (.cells #[.string nm, .int .i64 x, .int .i64 y, .slice (some ad) N cap] 63)).alloc (.cells #[.string nm, .int .i64 x, .int .i64 y, .slice (some ad) N cap] 63)) := ((Mod.refl _ w).alloc _).alloc _
  have hF := (Blk.new w 63 #[.string nm, .int .i64 x, .int .i64 y, .slice (some ad) N cap]).alloc (.cells #[.string nm, .int .i64 x, .int .i64 y, .slice (some ad) N cap] 63)
  have hM := Blk.new (w.alloc (.cells #[.string nm, .int .i64 x, .int .i64 y, .slice (some ad) N cap] 63)) 63 #[.string nm, .int .i64 x, .int .i64 y, .slice (some ad) N cap]
  rw [World.size_alloc] at hM
  have hsz : ((w.alloc (.cells #[.string nm, .int .i64 x, .int .i64 y, .slice (some ad) N cap] 63)).alloc (.cells #[.string nm, .int .i64 x, .int .i64 y, .slice (some ad) N cap] 63)).heap.size = gm + 1 := by simp [hgf, ← hgm]
  generalize (w.alloc (.cells #[.string nm, .int .i64 x, .int .i64 y, .slice (some ad) N cap] 63)).alloc (.cells #[.string nm, .int .i64 x, .int .i64 y, .slice (some ad) N cap] 63) = W2 at *
  rw [hgf] at hF hM ⊢
  rw [hgm] at hM ⊢
  have HF := Lib.hid hF
  have HMB := Lib.hid hM
  have HM2 := Lib.hid hm2
  have HGM : Hid (gf + 1 = gm ∧ w.heap.size = gf) := ⟨hgm, hgf⟩
  have HSZ := Lib.hid hsz
  obtain ⟨q0, q1, q2, q3, l0⟩ := fn_cells nm x y (some ad) N cap W2 gf hF
  obtain ⟨r0, r1, r2, r3, l1⟩ := fn_cells nm x y (some ad) N cap W2 gm hM
  clear hF hM hm2 hgm hgf hsz
  go_upto_region 6 with (at_builtin; go_must (refine wpList_append_lies _ rfl _ _ 61 rfl W2.heap.size 81 i81 (.agg #[.string ⟨#[]⟩, .slice none 0 0]) 2 40 Try.underlying61 HI.out HZ0.out HZ1.out HZ2.out rfl (by decide) _ 0 [] rfl (empty_row W2 81 2) ad N cap news rfl HNL.out (fun j u hj => ((HM2.out.alloc _).cell (lt_of_cell' (HNW.out j u hj).1) (fun h => h)).trans (HNW.out j u hj).1) (fun u hu => by obtain ⟨j, hj⟩ := List.mem_iff_getElem?.1 hu; exact (HNW.out j u hj).2) h0 (by unfold maxLen; omega) (by omega) (by simp) _ rfl ?_); intro g cg w1 hown hgrow _ hlt; have hmg : Mod NoBlk W2 w1 := ((Mod.refl _ W2).alloc _).grown hgrow (fun k e hk => (by cases e; exact absurd hk (by simp))); obtain ⟨cur, hcb, hcc⟩ := row_blk (by rw [Nat.zero_add] at hown; exact hown); have HCB := Lib.hid hcb; have HCC := Lib.hid hcc; have HMG := Lib.hid hmg; have hgb := (hown.lt g rfl).1; have s3 := (hmg.cell (p := ⟨gm, 3, none⟩) l1 (fun h => h)).trans r3; have f3 := (HMB.out.mod hmg (fun h => h)).frozen 3; have l1' : gm < w1.heap.size := Nat.lt_of_lt_of_le l1 hmg.size; clear hown hgrow hcb hcc hmg)
  have hm3 : Mod (fun j => j = gm) w1 (w1.setCell ⟨gm, 3, none⟩ (.slice (some ⟨g, 0, none⟩) N cg)) := (Mod.refl (fun j => j = gm) w1).setCell (p := ⟨gm, 3, none⟩) (fun _ => rfl) _
  have hM3 := (HMB.out.mod HMG.out (fun h => h)).set_ 3 (.slice (some ⟨g, 0, none⟩) N cg)
  rw [show (#[.string nm, .int .i64 x, .int .i64 y, .slice (some ad) N cap] : Array Value).setIfInBounds 3 (.slice (some ⟨g, 0, none⟩) N cg) = #[.string nm, .int .i64 x, .int .i64 y, .slice (some ⟨g, 0, none⟩) N cg] from rfl] at hM3
  generalize w1.setCell ⟨gm, 3, none⟩ (.slice (some ⟨g, 0, none⟩) N cg) = W3 at *
  have hgsz := HSZ.out
  have hgm1 := HGM.out
  have hC3 : Blk W3 g 81 cur := HCB.out.mod hm3 (fun h => by have : g = gm := h; omega)
  have hF3 : Blk W3 gf 63 #[.string nm, .int .i64 x, .int .i64 y, .slice (some ad) N cap] := (HF.out.mod HMG.out (fun h => h)).mod hm3 (fun h => by have : gf = gm := h; omega)
  have hw3 : Mod NoBlk w W3 := (HM2.out.trans HMG.out).trans' hm3 (fun k hk h => absurd hk (by have : k = gm := h; omega))
  clear q0 q1 q2 q3 r0 r1 r2 r3 l0 l1 s3 f3 HCB hm3 HMB HF HSZ l1' hlt
  obtain ⟨r0, r1, r2, r3, l1⟩ := fn_cells nm x y (some ⟨g, 0, none⟩) N cg W3 gm hM3
  obtain ⟨u, hu⟩ : ∃ u, news[b * 2 + 1]? = some u := ⟨_, List.getElem?_eq_getElem (by rw [HNL.out]; omega)⟩
  have c0 := (hC3.cell (b * 2 + 1)).trans (HCC.out _ u hu)
  have c1 := hC3.frozen (b * 2 + 1)
  have lg := hC3.lt
  have b0 : (0 : Int) ≤ (b : Int) := by omega
  have b1 : (b : Int) < (N : Int) := by omega
  have HC3 := Lib.hid hC3
  have HF3 := Lib.hid hF3
  have HM3 := Lib.hid hM3
  have HW3 := Lib.hid hw3
  have hgg : gm < g := by omega
  clear hC3 hF3 hM3 hw3 hu hgm1 hgsz
  go_upto_region 7 with fail
  have hsg : Mod (fun j => j = g) W3 (W3.setCell ⟨g, b * 2 + 1, none⟩ (.slice (some ⟨W3.heap.size, 0, none⟩) 1 1)) := (Mod.refl (fun j => j = g) W3).setCell (p := ⟨g, b * 2 + 1, none⟩) (fun _ => rfl) _
  have hC4 := HC3.out.set_ (b * 2 + 1) (.slice (some ⟨W3.heap.size, 0, none⟩) 1 1)
  have hm4 : Mod (fun j => j = g) W3 ((W3.setCell ⟨g, b * 2 + 1, none⟩ (.slice (some ⟨W3.heap.size, 0, none⟩) 1 1)).alloc (.cells (insC 10 0 0) 83)) := hsg.alloc _
  have hC5 := hC4.alloc (.cells (insC 10 0 0) 83)
  have hI5 := Blk.new (W3.setCell ⟨g, b * 2 + 1, none⟩ (.slice (some ⟨W3.heap.size, 0, none⟩) 1 1)) 83 (insC 10 0 0)
  rw [World.size_setCell] at hI5
  rw [show (insC 10 0 0) = #[.int .u8 10, .int .i64 0, .int .i64 0, .int .i64 0, .int .u32 0, .int .i64 0, .slice none 0 0, .int .i64 0, .int .i64 0] from rfl] at hm4 hC5 hI5
  generalize (W3.setCell ⟨g, b * 2 + 1, none⟩ (.slice (some ⟨W3.heap.size, 0, none⟩) 1 1)).alloc (.cells #[.int .u8 10, .int .i64 0, .int .i64 0, .int .i64 0, .int .u32 0, .int .i64 0, .slice none 0 0, .int .i64 0, .int .i64 0] 83) = W5 at *
  have hgw : w.heap.size ≤ gm := by have := HGM.out; omega
  have hw5 : Mod NoBlk w W5 := HW3.out.trans' hm4 (fun k hk h => absurd hk (by have : k = g := h; omega))
  have hF5 : Blk W5 gf 63 #[.string nm, .int .i64 x, .int .i64 y, .slice (some ad) N cap] := HF3.out.mod hm4 (fun h => by have : gf = g := h; have := HGM.out; omega)
  have hM5 : Blk W5 gm 63 #[.string nm, .int .i64 x, .int .i64 y, .slice (some ⟨g, 0, none⟩) N cg] := HM3.out.mod hm4 (fun h => by have : gm = g := h; omega)
  have hcs : b * 2 + 1 < cur.size := by
    obtain ⟨v, hv⟩ : ∃ v, news[b * 2 + 1]? = some v := ⟨_, List.getElem?_eq_getElem (by rw [HNL.out]; omega)⟩
    have h := HCC.out (b * 2 + 1) v hv
    exact (Array.getElem?_eq_some_iff.1 h).1
  have hGC : GraphAt W5 (some ⟨g, 0, none⟩) N (cutS succ b) := by
    refine HG.out.copy (s := []) hw5 hC5.lt hbN (fun j hj hne => ?_) (fun nm' h => ?_)
    · obtain ⟨v, hv⟩ : ∃ v, news[j]? = some v := ⟨_, List.getElem?_eq_getElem (by rw [HNL.out]; exact hj)⟩
      rw [hC5.cell, Array.getElem?_setIfInBounds_ne (by omega), HCC.out _ v hv, (HNW.out _ v hv).1]
    · refine ⟨hC5.lt, nm', some ⟨W3.heap.size, 0, none⟩, 1, 1, h, ?_, by omega, .inr ⟨_, 10, 0, 0, rfl, by omega, ?_, by simp [succOf]⟩⟩
      · rw [hC5.cell, Array.getElem?_setIfInBounds_self_of_lt hcs]
      · rw [show (1 - 1) * 9 = 0 from rfl, add_head]
        exact insC_at hI5
  have HX : Hid (∀ w', Mod NoBlk W5 w' → w'.cell? ⟨gf, 0, none⟩ = some (.string nm) ∧ w'.cell? ⟨gf, 1, none⟩ = some (.int .i64 x) ∧ w'.cell? ⟨gf, 2, none⟩ = some (.int .i64 y) ∧ w'.cell? ⟨gf, 3, none⟩ = some (.slice (some ad) N cap) ∧ w'.cell? ⟨gm, 0, none⟩ = some (.string nm) ∧ w'.cell? ⟨gm, 1, none⟩ = some (.int .i64 x) ∧ w'.cell? ⟨gm, 2, none⟩ = some (.int .i64 y) ∧ w'.cell? ⟨gm, 3, none⟩ = some (.slice (some ⟨g, 0, none⟩) N cg)) := by
    intro w' hm
    obtain ⟨k0, k1, k2, k3, _⟩ := fn_cells nm x y (some ad) N cap w' gf (hF5.mod hm (fun h => h))
    obtain ⟨m0, m1, m2, m3, _⟩ := fn_cells nm x y (some ⟨g, 0, none⟩) N cg w' gm (hM5.mod hm (fun h => h))
    exact ⟨k0, k1, k2, k3, m0, m1, m2, m3⟩
  have HG5 := Lib.hid (HG.out.mod hw5)
  have HGC := Lib.hid hGC
  have HW5 := Lib.hid hw5
  clear hsg hC4 hm4 hC5 hI5 hw5 hF5 hM5 hGC hcs c0 c1 r0 r1 r2 r3 l1 lg HC3 HF3 HM3 HW3 HMG HM2 HCC HNW HNL
  obtain ⟨q0, q1, q2, q3, r0, r1, r2, r3⟩ := HX.out _ (Mod.refl _ _)
  go_cut [7, 8, 9] (fun s7 s8 s9 wx => ∃ g7 g8 g9, s7 = .slice (some ⟨g7, 0, none⟩) N N ∧ s8 = .slice (some ⟨g8, 0, none⟩) N N ∧ s9 = .slice (some ⟨g9, 0, none⟩) N N ∧ Bools wx g7 N (fun i => decide (i ∈ ordOf succ N)) ∧ Bools wx g8 N (fun i => decide (i ∈ ordOf (cutS succ b) N)) ∧ RowsV wx g9 N (abvOf succ N) ∧ Mod NoBlk W5 wx)
  case first =>
    go_region_held3 (fun w' => w'.cell? ⟨gf, 0, none⟩ = some (.string nm) ∧ w'.cell? ⟨gf, 1, none⟩ = some (.int .i64 x) ∧ w'.cell? ⟨gf, 2, none⟩ = some (.int .i64 y) ∧ w'.cell? ⟨gf, 3, none⟩ = some (.slice (some ad) N cap) ∧ w'.cell? ⟨gm, 0, none⟩ = some (.string nm) ∧ w'.cell? ⟨gm, 1, none⟩ = some (.int .i64 x) ∧ w'.cell? ⟨gm, 2, none⟩ = some (.int .i64 y) ∧ w'.cell? ⟨gm, 3, none⟩ = some (.slice (some ⟨g, 0, none⟩) N cg))
      ((refine HX.out _ ?_; repeat (first | exact hmA | exact hmQ | exact hmR | exact Mod.refl _ _ | apply Mod.drew)))
      (first
        | (go_at_call 35; (with_reducible refine (reached_ok nm x y (some ad) N cap succ _ (HG5.out.mod (by first | exact (Mod.refl _ _).drew)) hN).mono ?_); rintro e wR ⟨gR, rfl, _, hvR, hmR0⟩; have hmR : Mod NoBlk W5 wR := Mod.trans (by first | exact (Mod.refl _ _).drew) hmR0)
        | (go_at_call 35; (with_reducible refine (reached_ok nm x y (some ⟨g, 0, none⟩) N cg (cutS succ b) _ (HGC.out.mod (by first | exact hmR)) hN).mono ?_); rintro e wQ ⟨gQ, rfl, _, hvQ, hmQ0⟩; have hmQ : Mod NoBlk W5 wQ := Mod.trans (by first | exact hmR) hmQ0)
        | (go_at_call 39; refine (above_rows nm x y (some ad) N cap succ _ (HG5.out.mod (by first | exact hmQ)) hN).mono ?_; rintro e wA ⟨gA, rfl, hvA, hmA0⟩; have hmA : Mod NoBlk W5 wA := Mod.trans (by first | exact hmQ) hmA0))
    all_goals
      have HR : Hid (Bools wA gR N (fun i => decide (i ∈ ordOf succ N)) ∧ Bools wA gQ N (fun i => decide (i ∈ ordOf (cutS succ b) N)) ∧ RowsV wA gA N (abvOf succ N) ∧ Mod NoBlk W5 wA) := ⟨((hvR.mod hmQ0 (fun h => h)).mod hmA0 (fun h => h)).congr (fun i _ => by simp [ordOf]), (hvQ.mod hmA0 (fun h => h)).congr (fun i _ => by simp [ordOf]), hvA, hmA⟩
      clear hvR hmR0 hmR hvQ hmQ0 hmQ hvA hmA0 hmA q0 q1 q2 q3 r0 r1 r2 r3
      go_wp2_with fail
      go_meet
      exact ⟨gR, gQ, gA, rfl, rfl, rfl, HR.out.1, HR.out.2.1, HR.out.2.2.1, HR.out.2.2.2⟩
  case rest =>
    clear q0 q1 q2 q3 r0 r1 r2 r3
    obtain ⟨g7, g8, g9, rfl, rfl, rfl, hR, hQ, hA, hm⟩ := hcut
    have HR := Lib.hid hR
    have HQ := Lib.hid hQ
    have HA := Lib.hid hA
    have HMC := Lib.hid hm
    clear hR hQ hA hm
    have HY : Hid (∀ w', Mod NoBlk wc w' → w'.cell? ⟨gf, 3, none⟩ = some (.slice (some ad) N cap) ∧ w'.cell? ⟨gm, 0, none⟩ = some (.string nm) ∧ w'.cell? ⟨gm, 1, none⟩ = some (.int .i64 x) ∧ w'.cell? ⟨gm, 2, none⟩ = some (.int .i64 y) ∧ w'.cell? ⟨gm, 3, none⟩ = some (.slice (some ⟨g, 0, none⟩) N cg)) := fun w' h => by
      obtain ⟨_, _, _, k3, m0, m1, m2, m3⟩ := HX.out w' (HMC.out.trans h)
      exact ⟨k3, m0, m1, m2, m3⟩
    clear HX
    have hs' : ∀ a z, z ∈ cutS succ b a → z < N := fun a z hz => (HGC.out.succ a).1 z hz
    have HS' := Lib.hid hs'
    have heq : (b ∈ ordOf (cutS succ b) N) ↔ b ∈ ordOf succ N := by
      rw [ord_mem hs' hbN, ord_mem HS.out hbN]
      exact cut_self (fun a ha => by unfold cutS; rw [if_neg ha]) (by unfold cutS; rw [if_pos rfl])
    have hce : ∀ c, c < N → c ≠ b → (c ∈ ordOf succ N → (c ∈ ordOf (cutS succ b) N ↔ b ∉ abvOf succ N c)) := fun c hc hne hco => by
      rw [ord_mem hs' hc, mem_abv HS.out hc, cut_reach (succ := succ) (succ' := cutS succ b) (b := b) (fun a ha => by unfold cutS; rw [if_neg ha]) (by unfold cutS; rw [if_pos rfl]) c hne]
      have := (ord_mem HS.out hc).1 hco
      unfold Dom
      constructor
      · intro h1 h2; exact h2.2 h1
      · intro h1; exact Classical.byContradiction fun h2 => h1 ⟨this, h2⟩
    have hcl : ∀ c, c < N → c ∉ ordOf succ N → c ∉ ordOf (cutS succ b) N := fun c hc hn h => by
      rw [ord_mem hs' hc] at h
      refine hn ((ord_mem HS.out hc).2 (h.less (fun a z hz => ?_)))
      unfold cutS at hz
      split at hz
      · cases hz
      · exact hz
    have HCE := Lib.hid hce
    have HCL := Lib.hid hcl
    have t0 := HR.out.cell b hbN
    have t1 := HQ.out.cell b hbN
    rw [show decide (b ∈ ordOf (cutS succ b) N) = decide (b ∈ ordOf succ N) by simp [heq]] at t1
    obtain ⟨q3, r0, r1, r2, r3⟩ := HY.out _ (Mod.refl _ _)
    have l0 : gf < wc.heap.size := lt_cell q3
    have lR := HR.out.lt
    have lQ := HQ.out.lt
    clear hs' heq hce hcl
    obtain ⟨bv, hbv⟩ : ∃ bv, decide (b ∈ ordOf succ N) = bv := ⟨_, rfl⟩
    rw [hbv] at t0 t1
    have HBV := Lib.hid hbv
    have T0 := Lib.hid t0
    have T1 := Lib.hid t1
    have LR := Lib.hid lR
    have LQ := Lib.hid lQ
    clear hbv
    go_wp2
    go_quiet (fail)
    go_wp2
    go_loopw [10] (fun s10 wr => ∃ c : Nat, c ≤ N ∧ s10 = .int .i64 c ∧ Mod NoBlk wc wr) (fun s10 _ => (N - intOf s10).toNat)
    case atStart => exact ⟨0, by omega, rfl, (Mod.refl _ wc).drewN _⟩
    case round =>
      obtain ⟨c, hcN, rfl, hMr⟩ := hrel
      have HMR := Lib.hid hMr
      clear hMr t0 t1 lR lQ q3 r0 r1 r2 r3 l0
      by_cases hlt : c < N
      · have i0 : (0 : Int) ≤ (c : Int) := by omega
        have i1 : (c : Int) < (N : Int) := by omega
        have lR := (HR.out.mod HMR.out (fun h => h)).lt
        have lQ := (HQ.out.mod HMR.out (fun h => h)).lt
        by_cases hcb : c = b
        · subst hcb
          have u0 := (HMR.out.cell (p := ⟨g7, c, none⟩) LR.out (fun h => h)).trans T0.out
          have u1 := (HMR.out.cell (p := ⟨g8, c, none⟩) LQ.out (fun h => h)).trans T1.out
          have en : ((c : Int) != (c : Int)) = false := by simp
          cases bv with
          | true =>
            go_wp2
            go_quiet (fail)
            go_wp2
            go_roundw
            case measure => simp [intOf]; omega
            case rel => exact ⟨c + 1, by omega, by go_num, HMR.out.drewN _⟩
          | false =>
            go_wp2
            go_quiet (fail)
            go_wp2
            go_roundw
            case measure => simp [intOf]; omega
            case rel => exact ⟨c + 1, by omega, by go_num, HMR.out.drewN _⟩
        · have u0 := (HR.out.mod HMR.out (fun h => h)).cell c hlt
          have u1 := (HQ.out.mod HMR.out (fun h => h)).cell c hlt
          have en : ((c : Int) != (b : Int)) = true := by
            rw [bne_iff_ne]
            omega
          have en2 : ((c : Int) == (b : Int)) = false := by
            rw [beq_eq_false_iff_ne]
            omega
          by_cases hco : c ∈ ordOf succ N
          · rw [show decide (c ∈ ordOf succ N) = true by simpa using hco] at u0
            have hiff := HCE.out c hlt hcb hco
            obtain ⟨lA, va, Ba, c1, hIa⟩ := HA.out.mod HMR.out c hlt
            have HIA := Lib.hid hIa
            have HLN : Hid ((abvOf succ N c).length ≤ 1000) := by unfold Hid; have := abv_len (succ := succ) (N := N) c; omega
            by_cases hba : b ∈ abvOf succ N c
            · rw [show decide (c ∈ ordOf (cutS succ b) N) = false by simpa using fun h => (hiff.1 h) hba] at u1
              have HBA := Lib.hid hba
              clear hiff hIa hba hco hcb
              go_wp2
              go_quiet ((go_at_call 41; exact has_yesQ Ba _ (abvOf succ N c) b _ _ HIA.out HLN.out HBA.out))
              go_wp2
              go_roundw
              case measure => simp [intOf]; omega
              case rel => exact ⟨c + 1, by omega, by go_num, HMR.out.drewN _⟩
            · rw [show decide (c ∈ ordOf (cutS succ b) N) = true by simpa using hiff.2 hba] at u1
              have HBA := Lib.hid hba
              clear hiff hIa hba hco hcb
              go_wp2
              go_quiet ((go_at_call 41; exact has_noQ Ba _ (abvOf succ N c) b _ _ HIA.out HLN.out HBA.out))
              go_wp2
              go_roundw
              case measure => simp [intOf]; omega
              case rel => exact ⟨c + 1, by omega, by go_num, HMR.out.drewN _⟩
          · rw [show decide (c ∈ ordOf succ N) = false by simpa using hco] at u0
            rw [show decide (c ∈ ordOf (cutS succ b) N) = false by simpa using HCL.out c hlt hco] at u1
            clear hco hcb
            go_wp2
            go_quiet (fail)
            go_wp2
            go_roundw
            case measure => simp [intOf]; omega
            case rel => exact ⟨c + 1, by omega, by go_num, HMR.out.drewN _⟩
      · have hcN' : c = N := by omega
        subst c
        obtain ⟨q3, r0, r1, r2, r3⟩ := HY.out _ HMR.out
        go_wp2_with fail
        refine (next_ok nm x y (some ⟨g, 0, none⟩) N cg b (cutS succ b) _ (HGC.out.mod (HMC.out.trans HMR.out))).mono ?_
        rintro e W4 ⟨vn, rfl, hvn, hm4⟩
        rw [show nextOf N (cutS succ b) (b : Int) = [] from by unfold nextOf cutS; rw [if_pos (by omega), if_pos (by omega)]] at hvn
        obtain ⟨na, nc, rfl, hnc, hnc2⟩ := hvn.at_
        have HM4 := Lib.hid (HMR.out.trans hm4)
        clear hm4 hvn
        go_wp2_with (go_at_call 27; refine (head_ok _).mono ?_; rintro e w2 ⟨rfl, hm2⟩; have HM2 := Lib.hid hm2; clear hm2)
        go_ret
        exact ⟨rfl, HW5.out.trans (HMC.out.trans (HM4.out.trans HM2.out))⟩
end Go.Proofs.Ytjaapempahigaaa
