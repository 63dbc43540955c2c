/- FlowLess' walk. -/
import Derived.Test.YtjaapempahigaaaOpen4
import Derived.Outline
namespace Go.Proofs.Ytjaapempahigaaa
open Go.RowKit

theorem InsAt.cells {w : World} {a : Addr} {op l1 l2 : Int} (h : InsAt w a op l1 l2) : ∀ t, t < 9 → ∃ u : Value, w.cell? (a.add t) = some u ∧ u.oneCell' = true := by
  obtain ⟨_, d, x, y, z, f, oa, k, c, h0, h1, h2, h3, h4, h5, h6, h7, h8⟩ := h
  intro t ht
  have ht9 : t = 0 ∨ t = 1 ∨ t = 2 ∨ t = 3 ∨ t = 4 ∨ t = 5 ∨ t = 6 ∨ t = 7 ∨ t = 8 := by omega
  rcases ht9 with rfl | rfl | rfl | rfl | rfl | rfl | rfl | rfl | rfl
  · exact ⟨_, h0, by simp [Value.oneCell']⟩
  · exact ⟨_, (by rw [add_succ' _ _ (by omega)]; exact h1), by simp [Value.oneCell']⟩
  · exact ⟨_, (by rw [add_succ' _ _ (by omega)]; exact h2), by simp [Value.oneCell']⟩
  · exact ⟨_, (by rw [add_succ' _ _ (by omega)]; exact h3), by simp [Value.oneCell']⟩
  · exact ⟨_, (by rw [add_succ' _ _ (by omega)]; exact h4), by simp [Value.oneCell']⟩
  · exact ⟨_, (by rw [add_succ' _ _ (by omega)]; exact h5), by simp [Value.oneCell']⟩
  · exact ⟨_, (by rw [add_succ' _ _ (by omega)]; exact h6), by simp [Value.oneCell']⟩
  · exact ⟨_, (by rw [add_succ' _ _ (by omega)]; exact h7), by simp [Value.oneCell']⟩
  · exact ⟨_, (by rw [add_succ' _ _ (by omega)]; exact h8), by simp [Value.oneCell']⟩
theorem InsAt.modS {w w' : World} {a : Addr} {op l1 l2 : Int} {S : Nat → Prop} (h : InsAt w a op l1 l2) (hm : Mod S w w') (hS : ¬ S a.block) : InsAt w' a op l1 l2 := by
  obtain ⟨hb, d, x, y, z, f, oa, k, c, h0, h1, h2, h3, h4, h5, h6, h7, h8⟩ := h
  exact ⟨Nat.lt_of_lt_of_le hb hm.size, d, x, y, z, f, oa, k, c, (hm.cell hb hS).trans h0, (hm.cell (p := ⟨a.block, a.off + 1, none⟩) hb hS).trans h1, (hm.cell (p := ⟨a.block, a.off + 2, none⟩) hb hS).trans h2,
    (hm.cell (p := ⟨a.block, a.off + 3, none⟩) hb hS).trans h3, (hm.cell (p := ⟨a.block, a.off + 4, none⟩) hb hS).trans h4, (hm.cell (p := ⟨a.block, a.off + 5, none⟩) hb hS).trans h5,
    (hm.cell (p := ⟨a.block, a.off + 6, none⟩) hb hS).trans h6, (hm.cell (p := ⟨a.block, a.off + 7, none⟩) hb hS).trans h7, (hm.cell (p := ⟨a.block, a.off + 8, none⟩) hb hS).trans h8⟩
theorem inss_news {w : World} {oi : Option Addr} {l : List (Int × Int × Int)} {k : Nat} (hl : l.length = k + 1) (h : ∀ (j : Nat) (t : Int × Int × Int), l[j]? = some t → ∃ ia, oi = some ia ∧ InsAt w (ia.add (j * 9)) t.1 t.2.1 t.2.2) :
    ∃ ia, oi = some ia ∧ (∃ news : List Value, news.length = (k + 1) * 9 ∧ ∀ (j : Nat) (u : Value), news[j]? = some u → w.cell? (ia.add j) = some u ∧ u.oneCell' = true) ∧
      ∃ t : Int × Int × Int, l[k]? = some t ∧ w.cell? (ia.add (k * 9)) = some (.int .u8 t.1) ∧ w.cell? (ia.add (k * 9 + 7)) = some (.int .i64 t.2.1) ∧ w.cell? (ia.add (k * 9 + 8)) = some (.int .i64 t.2.2) := by
  obtain ⟨t, ht⟩ : ∃ t, l[k]? = some t := ⟨_, List.getElem?_eq_getElem (by omega)⟩
  obtain ⟨ia, hia, hI⟩ := h k t ht
  refine ⟨ia, hia, ?_, t, ht, ?_⟩
  · refine list_of ((k + 1) * 9) (fun j (u : Value) => w.cell? (ia.add j) = some u ∧ u.oneCell' = true) (fun j hj => ?_)
    obtain ⟨t', ht'⟩ : ∃ t, l[j / 9]? = some t := ⟨_, List.getElem?_eq_getElem (by omega)⟩
    obtain ⟨ia', e, hI'⟩ := h _ t' ht'
    rw [hia] at e
    cases e
    obtain ⟨u, h1, h2⟩ := hI'.cells (j % 9) (by omega)
    rw [add_add, show j / 9 * 9 + j % 9 = j by omega] at h1
    exact ⟨u, h1, h2⟩
  · obtain ⟨_, d, x, y, z, f, oa, k', c, h0, h1, h2, h3, h4, h5, h6, h7, h8⟩ := hI
    refine ⟨h0, ?_, ?_⟩
    · rw [← add_add, add_succ' _ _ (by omega)]; exact h7
    · rw [← add_add, add_succ' _ _ (by omega)]; exact h8

set_option maxRecDepth 100000 in
set_option maxHeartbeats 4000000 in
theorem flowLess_big1 (nm : ByteArray) (x y : Int) (ob : Option Addr) (N cap z : Nat) (w : World) (hN : 60 < N) (hm : N ≤ 9223372036854775807) :
    Calls Try.prog 10 #[fnV nm x y ob N cap, .int .u8 (z : Nat)] w fun e w' => e = .returned (.bool true) ∧ Mod NoBlk w w' := by
  go_enter Try.func10, Try.ntmps10
  go_wp2_with (go_at_call 27; refine (head_ok _).mono ?_; rintro e w2 ⟨rfl, hm2⟩)
  go_ret
  exact ⟨rfl, ((Mod.refl _ w).alloc _).trans hm2⟩
set_option maxRecDepth 100000 in
set_option maxHeartbeats 4000000 in
theorem flowLess_big2 (nm : ByteArray) (x y : Int) (ob : Option Addr) (cap z : Nat) (w : World) :
    Calls Try.prog 10 #[fnV nm x y ob 0 cap, .int .u8 (z : Nat)] w fun e w' => e = .returned (.bool true) ∧ Mod NoBlk w w' := by
  go_enter Try.func10, Try.ntmps10
  go_wp2_with (go_at_call 27; refine (head_ok _).mono ?_; rintro e w2 ⟨rfl, hm2⟩)
  go_ret
  exact ⟨rfl, ((Mod.refl _ w).alloc _).trans hm2⟩

set_option maxRecDepth 100000 in
set_option maxHeartbeats 4000000 in
theorem flowLess_walk (nm : ByteArray) (x y : Int) (ad : Addr) (N cap z : Nat) (bl : Nat → List (Int × Int × Int)) (w : World) (hfull : FullAt w (some ad) N bl) (hreach : ∀ b, b < N → (bl b).length * 88 ≤ reachBytes ∧ ∀ a, some ad = some a → NilOk w (a.add (b * 2))) (hz : z ≤ 255) (hN : N ≤ 60) (h0 : 0 < N) :
    Calls Try.prog 10 #[fnV nm x y (some ad) N cap, .int .u8 (z : Nat)] w fun e w' => e = .returned (.bool true) ∧ Mod NoBlk w w' := by
  have hG := hfull.graph
  obtain ⟨succ, hsu⟩ : ∃ succ, succB N bl = succ := ⟨_, rfl⟩
  rw [hsu] at hG
  have HSU := Lib.hid hsu
  clear hsu
  have hs : ∀ a z, z ∈ succ a → z < N := fun a z hz => (hG.succ a).1 z hz
  have HS := Lib.hid hs
  have HG := Lib.hid hG
  have e2 : ((N : Int) == 0) = false := by
    rw [beq_eq_false_iff_ne]
    omega
  have z0 : (0 : Int) ≤ (z : Int) := by omega
  have z1 : (0 : Int) ≤ (z : Int) % (N : Int) := by omega
  have z2 : (z : Int) % (N : Int) < (N : Int) := Int.emod_lt_of_pos _ (by omega)
  have z3 : (1 : Int) ≤ (N : Int) := by omega
  obtain ⟨b, hb⟩ : ∃ b, z % N = b := ⟨_, rfl⟩
  have hbN : b < N := by rw [← hb]; exact Nat.mod_lt _ h0
  have hbi : (z : Int) % (N : Int) = (b : Int) := by rw [← hb]; exact (Int.natCast_emod z N).symm
  obtain ⟨i81, hi, hz0, hz1, hz2⟩ := info_parts info81
  have HI := Lib.hid hi
  have HZ0 := Lib.hid hz0
  have HZ1 := Lib.hid hz1
  have HZ2 := Lib.hid hz2
  obtain ⟨news, hnl, hnw⟩ := hG.news
  obtain ⟨i83, hi', hz0', hz1', hz2'⟩ := info_parts info83
  have HI' := Lib.hid hi'
  have HZ0' := Lib.hid hz0'
  have HZ1' := Lib.hid hz1'
  have HZ2' := Lib.hid hz2'
  obtain ⟨ad', hae, hbk, bnm, oi, bc, g0, g1, hlc, hcm, hins⟩ := hfull b hbN
  cases hae
  obtain ⟨hbz, hnilok⟩ := hreach b hbN
  have hnil := hnilok ad rfl
  obtain ⟨m, hm⟩ : ∃ m, (bl b).length = m := ⟨_, rfl⟩
  have HML := Lib.hid hm
  rw [hm] at g1 hlc hbz
  have hnz : oi = none → bc = 0 := fun e => hnil m bc (by rw [← e]; exact g1)
  have HNZ := Lib.hid hnz
  have HINS := Lib.hid hins
  have G1 := Lib.hid g1
  unfold maxLen at hcm
  unfold reachBytes at hbz
  clear hfull hreach hnilok hnil hm hnz hins g0 g1 hi' hz0' hz1' hz2'
  have HNL := Lib.hid hnl
  have HNW := Lib.hid hnw
  clear hs hG hi hz0 hz1 hz2 hnl hnw hb z1 z2
  go_enter Try.func10, Try.ntmps10
  go_upto_region 5 with fail
  obtain ⟨gf, hgf⟩ : ∃ gf, w.heap.size = gf := ⟨_, rfl⟩
  obtain ⟨gm, hgm⟩ : ∃ gm, gf + 1 = gm := ⟨_, rfl⟩
  have hm2 : Mod NoBlk w ((w.alloc (.cells #[.string nm, .int .i64 x, .int .i64 y, .slice (some ad) N cap] 63)).alloc (.cells #[.string nm, .int .i64 x, .int .i64 y, .slice (some ad) N cap] 63)) := ((Mod.refl _ w).alloc _).alloc _
  have hF := (Blk.new w 63 #[.string nm, .int .i64 x, .int .i64 y, .slice (some ad) N cap]).alloc (.cells #[.string nm, .int .i64 x, .int .i64 y, .slice (some ad) N cap] 63)
  have hM := Blk.new (w.alloc (.cells #[.string nm, .int .i64 x, .int .i64 y, .slice (some ad) N cap] 63)) 63 #[.string nm, .int .i64 x, .int .i64 y, .slice (some ad) N cap]
  rw [World.size_alloc] at hM
  have hsz : ((w.alloc (.cells #[.string nm, .int .i64 x, .int .i64 y, .slice (some ad) N cap] 63)).alloc (.cells #[.string nm, .int .i64 x, .int .i64 y, .slice (some ad) N cap] 63)).heap.size = gm + 1 := by simp [hgf, ← hgm]
  generalize (w.alloc (.cells #[.string nm, .int .i64 x, .int .i64 y, .slice (some ad) N cap] 63)).alloc (.cells #[.string nm, .int .i64 x, .int .i64 y, .slice (some ad) N cap] 63) = W2 at *
  rw [hgf] at hF hM ⊢
  rw [hgm] at hM ⊢
  have HF := Lib.hid hF
  have HMB := Lib.hid hM
  have HM2 := Lib.hid hm2
  have HGM : Hid (gf + 1 = gm ∧ w.heap.size = gf) := ⟨hgm, hgf⟩
  have HSZ := Lib.hid hsz
  obtain ⟨q0, q1, q2, q3, l0⟩ := fn_cells nm x y (some ad) N cap W2 gf hF
  obtain ⟨r0, r1, r2, r3, l1⟩ := fn_cells nm x y (some ad) N cap W2 gm hM
  clear hF hM hm2 hgm hgf hsz
  go_upto_region 6 with (at_builtin; go_must (refine wpList_append_lies _ rfl _ _ 61 rfl W2.heap.size 81 i81 (.agg #[.string ⟨#[]⟩, .slice none 0 0]) 2 40 Try.underlying61 HI.out HZ0.out HZ1.out HZ2.out rfl (by decide) _ 0 [] rfl (empty_row W2 81 2) ad N cap news rfl HNL.out (fun j u hj => ((HM2.out.alloc _).cell (lt_of_cell' (HNW.out j u hj).1) (fun h => h)).trans (HNW.out j u hj).1) (fun u hu => by obtain ⟨j, hj⟩ := List.mem_iff_getElem?.1 hu; exact (HNW.out j u hj).2) h0 (by unfold maxLen; omega) (by omega) (by simp) _ rfl ?_); intro g cg w1 hown hgrow _ hlt; have hmg : Mod NoBlk W2 w1 := ((Mod.refl _ W2).alloc _).grown hgrow (fun k e hk => (by cases e; exact absurd hk (by simp))); obtain ⟨cur, hcb, hcc⟩ := row_blk (by rw [Nat.zero_add] at hown; exact hown); have HCB := Lib.hid hcb; have HCC := Lib.hid hcc; have HMG := Lib.hid hmg; have hgb := (hown.lt g rfl).1; have s3 := (hmg.cell (p := ⟨gm, 3, none⟩) l1 (fun h => h)).trans r3; have f3 := (HMB.out.mod hmg (fun h => h)).frozen 3; have l1' : gm < w1.heap.size := Nat.lt_of_lt_of_le l1 hmg.size; clear hown hgrow hcb hcc hmg)
  have hm3 : Mod (fun j => j = gm) w1 (w1.setCell ⟨gm, 3, none⟩ (.slice (some ⟨g, 0, none⟩) N cg)) := (Mod.refl (fun j => j = gm) w1).setCell (p := ⟨gm, 3, none⟩) (fun _ => rfl) _
  have hM3 := (HMB.out.mod HMG.out (fun h => h)).set_ 3 (.slice (some ⟨g, 0, none⟩) N cg)
  rw [show (#[.string nm, .int .i64 x, .int .i64 y, .slice (some ad) N cap] : Array Value).setIfInBounds 3 (.slice (some ⟨g, 0, none⟩) N cg) = #[.string nm, .int .i64 x, .int .i64 y, .slice (some ⟨g, 0, none⟩) N cg] from rfl] at hM3
  generalize w1.setCell ⟨gm, 3, none⟩ (.slice (some ⟨g, 0, none⟩) N cg) = W3 at *
  have hgsz := HSZ.out
  have hgm1 := HGM.out
  have hC3 : Blk W3 g 81 cur := HCB.out.mod hm3 (fun h => by have : g = gm := h; omega)
  have hF3 : Blk W3 gf 63 #[.string nm, .int .i64 x, .int .i64 y, .slice (some ad) N cap] := (HF.out.mod HMG.out (fun h => h)).mod hm3 (fun h => by have : gf = gm := h; omega)
  have hw3 : Mod NoBlk w W3 := (HM2.out.trans HMG.out).trans' hm3 (fun k hk h => absurd hk (by have : k = gm := h; omega))
  clear q0 q1 q2 q3 r0 r1 r2 r3 l0 l1 s3 f3 HCB hm3 HMB HF HSZ l1' hlt
  have HC3 := Lib.hid hC3
  have HF3 := Lib.hid hF3
  have HM3 := Lib.hid hM3
  have HW3 := Lib.hid hw3
  have hgg : gm < g := by omega
  obtain ⟨q0, q1, q2, q3, l0⟩ := fn_cells nm x y (some ad) N cap W3 gf hF3
  have hbk3 : (ad.add (b * 2)).block < W3.heap.size := Nat.lt_of_lt_of_le hbk hw3.size
  have g1 := (hw3.cell (p := ⟨(ad.add (b * 2)).block, (ad.add (b * 2)).off + 1, none⟩) hbk (fun h => h)).trans G1.out
  have b0 : (0 : Int) ≤ (b : Int) := by omega
  have b1 : (b : Int) < (N : Int) := by omega
  clear hC3 hF3 hM3 hw3 hgm1 hgsz
  rcases Nat.eq_zero_or_pos m with hm0 | hm0
  · subst m
    go_upto_region 7 with (at_builtin; go_must (refine wpList_append_fits_any _ rfl _ _ 79 rfl W3.heap.size 83 i83 9 Try.underlying79 HI'.out HZ1'.out W3.heap.size 0 0 [] rfl (empty_row W3 83 9) oi 0 bc [] rfl rfl (fun e => ⟨rfl, HNZ.out e⟩) (fun ad' e j u hj => (by simp at hj)) (fun u hu => (by simp at hu)) (by omega) ?_); intro w6 hown hgrow; have hm6 : Mod NoBlk W3 w6 := ((Mod.refl _ W3).alloc _).grown hgrow (fun k e hk => (by cases e; exact absurd hk (by simp))); have HM6 := Lib.hid hm6; clear hm6 hown hgrow)
    go_wp2_with (go_at_call 27; refine (head_ok _).mono ?_; rintro e w7 ⟨rfl, hm7⟩; have HM7 := Lib.hid hm7; clear hm7)
    go_ret
    exact ⟨rfl, HW3.out.trans (HM6.out.trans HM7.out)⟩
  · obtain ⟨k, hk⟩ : ∃ k, m = k + 1 := ⟨m - 1, by omega⟩
    subst hk
    obtain ⟨ia, hia, ⟨nw2, hnl2, hnw2⟩, t, ht, t0, t7, t8⟩ := inss_news HML.out HINS.out
    subst hia
    have HT := Lib.hid ht
    have HNL2 := Lib.hid hnl2
    have HNW2 := Lib.hid hnw2
    obtain ⟨op, l1, l2⟩ := t
    have n0 : Hid (nw2[k * 9]? = some (.int .u8 op)) := by
      obtain ⟨v, hv⟩ : ∃ v, nw2[k * 9]? = some v := ⟨_, List.getElem?_eq_getElem (by omega)⟩
      have := (hnw2 _ v hv).1
      rw [t0] at this
      rw [Option.some.inj this]
      exact hv
    have n7 : Hid (nw2[k * 9 + 7]? = some (.int .i64 l1)) := by
      obtain ⟨v, hv⟩ : ∃ v, nw2[k * 9 + 7]? = some v := ⟨_, List.getElem?_eq_getElem (by omega)⟩
      have := (hnw2 _ v hv).1
      rw [t7] at this
      rw [Option.some.inj this]
      exact hv
    have n8 : Hid (nw2[k * 9 + 8]? = some (.int .i64 l2)) := by
      obtain ⟨v, hv⟩ : ∃ v, nw2[k * 9 + 8]? = some v := ⟨_, List.getElem?_eq_getElem (by omega)⟩
      have := (hnw2 _ v hv).1
      rw [t8] at this
      rw [Option.some.inj this]
      exact hv
    clear ht hnl2 hnw2 t0 t7 t8
    go_upto_region 7 with (at_builtin; go_must (refine wpList_append_lies _ rfl _ _ 79 rfl W3.heap.size 83 i83 (.agg (insC 0 0 0)) 9 88 Try.underlying79 HI'.out HZ0'.out HZ1'.out HZ2'.out rfl (by decide) _ 0 [] rfl (empty_row W3 83 9) ia (k + 1) bc nw2 rfl HNL2.out (fun j u hj => ((HW3.out.alloc _).cell (lt_of_cell' (HNW2.out j u hj).1) (fun h => h)).trans (HNW2.out j u hj).1) (fun u hu => by obtain ⟨j, hj⟩ := List.mem_iff_getElem?.1 hu; exact (HNW2.out j u hj).2) (by omega) (by unfold maxLen; omega) (by omega) (by simp) _ rfl ?_); intro gl cl w6 hown hgrow _ hlt6; have hm6 : Mod NoBlk W3 w6 := ((Mod.refl _ W3).alloc _).grown hgrow (fun k e hk => (by cases e; exact absurd hk (by simp))); obtain ⟨cur2, hcb2, hcc2⟩ := row_blk (by rw [Nat.zero_add] at hown; exact hown); have HCB2 := Lib.hid hcb2; have HCC2 := Lib.hid hcc2; have HM6 := Lib.hid hm6; have hgl := (hown.lt gl rfl).1; clear hm6 hown hgrow hcb2 hcc2)
    have lgl := HCB2.out.lt
    have c0 := (HCB2.out.cell (k * 9)).trans (HCC2.out _ _ n0.out)
    have c7 := (HCB2.out.cell (k * 9 + 7)).trans (HCC2.out _ _ n7.out)
    have c8 := (HCB2.out.cell (k * 9 + 8)).trans (HCC2.out _ _ n8.out)
    have f8 := HCB2.out.frozen (k * 9 + 8)
    have k0 : (0 : Int) ≤ (k : Int) := by omega
    have k1 : (k : Int) < (k : Int) + 1 := by omega
    clear q0 q1 q2 q3 l0 g1 hlt6
    by_cases hop : op = 9
    · subst op
      go_upto_region 10 with fail
      have hm8 : Mod (fun j => j = gl) w6 (w6.setCell ⟨gl, k * 9 + 8, none⟩ (.int .i64 l1)) := (Mod.refl (fun j => j = gl) w6).setCell (p := ⟨gl, k * 9 + 8, none⟩) (fun _ => rfl) _
      have hC8 := HCB2.out.set_ (k * 9 + 8) (.int .i64 l1)
      have hs8 : k * 9 + 8 < cur2.size := (Array.getElem?_eq_some_iff.1 (HCC2.out _ _ n8.out)).1
      generalize w6.setCell ⟨gl, k * 9 + 8, none⟩ (.int .i64 l1) = W8 at *
      have hsz3 : gm < W3.heap.size := HM3.out.lt
      have hg3 : g < W3.heap.size := HC3.out.lt
      have hGM := HGM.out
      have hC3 : Blk W8 g 81 cur := (HC3.out.mod HM6.out (fun h => h)).mod hm8 (fun h => by have : g = gl := h; omega)
      have hF3 : Blk W8 gf 63 #[.string nm, .int .i64 x, .int .i64 y, .slice (some ad) N cap] := (HF3.out.mod HM6.out (fun h => h)).mod hm8 (fun h => by have : gf = gl := h; omega)
      have hM3 : Blk W8 gm 63 #[.string nm, .int .i64 x, .int .i64 y, .slice (some ⟨g, 0, none⟩) N cg] := (HM3.out.mod HM6.out (fun h => h)).mod hm8 (fun h => by have : gm = gl := h; omega)
      have hw8 : Mod NoBlk w W8 := (HW3.out.trans HM6.out).trans' hm8 (fun j hj h => absurd hj (by have : j = gl := h; have := HW3.out.size; omega))
      have j0 : W8.cell? ⟨gl, k * 9, none⟩ = some (.int .u8 9) := by rw [hC8.cell, Array.getElem?_setIfInBounds_ne (by omega)]; exact HCC2.out _ _ n0.out
      have j7 : W8.cell? ⟨gl, k * 9 + 7, none⟩ = some (.int .i64 l1) := by rw [hC8.cell, Array.getElem?_setIfInBounds_ne (by omega)]; exact HCC2.out _ _ n7.out
      have j8 : W8.cell? ⟨gl, k * 9 + 8, none⟩ = some (.int .i64 l1) := by rw [hC8.cell, Array.getElem?_setIfInBounds_self_of_lt hs8]
      have hrest : ∀ i, 1 ≤ i → i ≤ 6 → W8.cell? ⟨gl, k * 9 + i, none⟩ = w6.cell? ⟨gl, k * 9 + i, none⟩ := fun i _ _ => by rw [hC8.cell, Array.getElem?_setIfInBounds_ne (by omega), HCB2.out.cell]
      have hI8 : InsAt W8 ⟨gl, k * 9, none⟩ 9 l1 l1 := by
        obtain ⟨ia', e, hI⟩ := HINS.out k _ HT.out
        cases e
        obtain ⟨_, d, a1, a2, a3, a4, oa, k', c, h0, h1, h2, h3, h4, h5, h6, h7, h8⟩ := hI
        have cp : ∀ (i : Nat) (v : Value), 1 ≤ i → i ≤ 6 → w.cell? ⟨(ia.add (k * 9)).block, (ia.add (k * 9)).off + i, none⟩ = some v → W8.cell? ⟨gl, k * 9 + i, none⟩ = some v := fun i v hi1 hi2 hv => by
          rw [hrest i hi1 hi2]
          obtain ⟨u', hu'⟩ : ∃ u', nw2[k * 9 + i]? = some u' := ⟨_, List.getElem?_eq_getElem (by rw [HNL2.out]; omega)⟩
          have e1 := (HNW2.out _ _ hu').1
          rw [← add_add, add_succ' _ _ (by omega), hv] at e1
          rw [HCB2.out.cell, HCC2.out _ _ hu', e1]
        exact ⟨hC8.lt, d, a1, a2, a3, a4, oa, k', c, j0, cp 1 _ (by omega) (by omega) h1, cp 2 _ (by omega) (by omega) h2, cp 3 _ (by omega) (by omega) h3, cp 4 _ (by omega) (by omega) h4, cp 5 _ (by omega) (by omega) h5, cp 6 _ (by omega) (by omega) h6, j7, j8⟩
      obtain ⟨r0, r1, r2, r3, l1'⟩ := fn_cells nm x y (some ⟨g, 0, none⟩) N cg W8 gm hM3
      obtain ⟨u, hu⟩ : ∃ u, news[b * 2 + 1]? = some u := ⟨_, List.getElem?_eq_getElem (by rw [HNL.out]; omega)⟩
      have d0 := (hC3.cell (b * 2 + 1)).trans (HCC.out _ u hu)
      have d1 := hC3.frozen (b * 2 + 1)
      have lg := hC3.lt
      have hcs : b * 2 + 1 < cur.size := (Array.getElem?_eq_some_iff.1 (HCC.out _ u hu)).1
      have HI8 := Lib.hid hI8
      have HC8 := Lib.hid hC3
      have HF8 := Lib.hid hF3
      have HM8 := Lib.hid hM3
      have HW8 := Lib.hid hw8
      clear hm8 hC8 hC3 hF3 hM3 hw8 j0 j7 j8 hrest hI8 c0 c7 c8 f8 hu hsz3 hGM hs8 lgl
      go_upto_region 11 with fail
      have hm9 : Mod (fun j => j = g) W8 (W8.setCell ⟨g, b * 2 + 1, none⟩ (.slice (some ⟨gl, 0, none⟩) (k + 1) cl)) := (Mod.refl (fun j => j = g) W8).setCell (p := ⟨g, b * 2 + 1, none⟩) (fun _ => rfl) _
      have hC9 := HC8.out.set_ (b * 2 + 1) (.slice (some ⟨gl, 0, none⟩) (k + 1) cl)
      generalize W8.setCell ⟨g, b * 2 + 1, none⟩ (.slice (some ⟨gl, 0, none⟩) (k + 1) cl) = W5 at *
      have hgw : w.heap.size ≤ gm := by have := HGM.out; omega
      have hglg : gl ≠ g := by omega
      have hw5 : Mod NoBlk w W5 := HW8.out.trans' hm9 (fun k hk h => absurd hk (by have : k = g := h; omega))
      have hF5 : Blk W5 gf 63 #[.string nm, .int .i64 x, .int .i64 y, .slice (some ad) N cap] := HF8.out.mod hm9 (fun h => by have : gf = g := h; have := HGM.out; omega)
      have hM5 : Blk W5 gm 63 #[.string nm, .int .i64 x, .int .i64 y, .slice (some ⟨g, 0, none⟩) N cg] := HM8.out.mod hm9 (fun h => by have : gm = g := h; omega)
      have hsb : succ b = succOf N 9 l1 l2 := by
        rw [← HSU.out]
        unfold succB
        rw [if_pos hbN]
        unfold succL
        rw [HML.out, Nat.add_sub_cancel, HT.out]
      obtain ⟨su', hsu'⟩ : ∃ su' : Nat → List Nat, (fun x => if x = b then succOf N 9 l1 l1 else succ x) = su' := ⟨_, rfl⟩
      have hGC : GraphAt W5 (some ⟨g, 0, none⟩) N su' := by
        rw [← hsu']
        refine HG.out.copy (s := succOf N 9 l1 l1) hw5 hC9.lt hbN (fun j hj hne => ?_) (fun nm' h => ?_)
        · obtain ⟨v, hv⟩ : ∃ v, news[j]? = some v := ⟨_, List.getElem?_eq_getElem (by rw [HNL.out]; exact hj)⟩
          rw [hC9.cell, Array.getElem?_setIfInBounds_ne (by omega), HCC.out _ v hv, (HNW.out _ v hv).1]
        · refine ⟨hC9.lt, nm', some ⟨gl, 0, none⟩, k + 1, cl, h, ?_, by omega, .inr ⟨_, 9, l1, l1, rfl, by omega, ?_, rfl⟩⟩
          · rw [hC9.cell, Array.getElem?_setIfInBounds_self_of_lt hcs]
          · rw [Nat.add_sub_cancel, add_head]
            exact HI8.out.modS hm9 hglg
      have hsub : ∀ a z, z ∈ su' a → z ∈ succ a := by
        rw [← hsu']
        intro a z hz
        dsimp only at hz
        split at hz
        · rename_i e
          rw [e, hsb]
          unfold succOf at hz ⊢
          rw [if_neg (c := (9 : Int) = 9 ∧ l1 ≠ l1 ∧ 0 ≤ l1 ∧ l1 < N) (by simp), List.append_nil] at hz
          exact List.mem_append.2 (.inl hz)
        · exact hz
      have HX : Hid (∀ w', Mod NoBlk W5 w' → w'.cell? ⟨gf, 0, none⟩ = some (.string nm) ∧ w'.cell? ⟨gf, 1, none⟩ = some (.int .i64 x) ∧ w'.cell? ⟨gf, 2, none⟩ = some (.int .i64 y) ∧ w'.cell? ⟨gf, 3, none⟩ = some (.slice (some ad) N cap) ∧ w'.cell? ⟨gm, 0, none⟩ = some (.string nm) ∧ w'.cell? ⟨gm, 1, none⟩ = some (.int .i64 x) ∧ w'.cell? ⟨gm, 2, none⟩ = some (.int .i64 y) ∧ w'.cell? ⟨gm, 3, none⟩ = some (.slice (some ⟨g, 0, none⟩) N cg)) := by
        intro w' hm
        obtain ⟨k0, k1, k2, k3, _⟩ := fn_cells nm x y (some ad) N cap w' gf (hF5.mod hm (fun h => h))
        obtain ⟨m0, m1, m2, m3, _⟩ := fn_cells nm x y (some ⟨g, 0, none⟩) N cg w' gm (hM5.mod hm (fun h => h))
        exact ⟨k0, k1, k2, k3, m0, m1, m2, m3⟩
      have HG5 := Lib.hid (HG.out.mod hw5)
      have HGC := Lib.hid hGC
      have HW5 := Lib.hid hw5
      have HSUB := Lib.hid hsub
      clear hm9 hC9 hw5 hF5 hM5 hGC hcs d0 d1 r0 r1 r2 r3 l1' lg HC8 HF8 HM8 HW8 HMG HM2 HCC HNW HNL hsub hsu' hsb n0 n7 n8 HI8 HCB2 HCC2 HNL2 HNW2 HINS HT HNZ G1 HC3 HF3 HM3 HW3 HM6 k0 k1
      obtain ⟨q0, q1, q2, q3, r0, r1, r2, r3⟩ := HX.out _ (Mod.refl _ _)
      go_cut [8, 9, 10, 11] (fun s8 s9 s10 s11 wx => ∃ g8 g9 g10 g11, s8 = .slice (some ⟨g8, 0, none⟩) N N ∧ s9 = .slice (some ⟨g9, 0, none⟩) N N ∧ s10 = .slice (some ⟨g10, 0, none⟩) N N ∧ s11 = .slice (some ⟨g11, 0, none⟩) N N ∧ Bools wx g8 N (fun i => decide (i ∈ ordOf succ N)) ∧ Bools wx g9 N (fun i => decide (i ∈ ordOf su' N)) ∧ RowsV wx g10 N (abvOf succ N) ∧ RowsV wx g11 N (abvOf su' N) ∧ Mod NoBlk W5 wx)
      case first =>
        go_region_held3 (fun w' => w'.cell? ⟨gf, 0, none⟩ = some (.string nm) ∧ w'.cell? ⟨gf, 1, none⟩ = some (.int .i64 x) ∧ w'.cell? ⟨gf, 2, none⟩ = some (.int .i64 y) ∧ w'.cell? ⟨gf, 3, none⟩ = some (.slice (some ad) N cap) ∧ w'.cell? ⟨gm, 0, none⟩ = some (.string nm) ∧ w'.cell? ⟨gm, 1, none⟩ = some (.int .i64 x) ∧ w'.cell? ⟨gm, 2, none⟩ = some (.int .i64 y) ∧ w'.cell? ⟨gm, 3, none⟩ = some (.slice (some ⟨g, 0, none⟩) N cg))
          ((refine HX.out _ ?_; repeat (first | exact hmB | exact hmA | exact hmQ | exact hmR | exact Mod.refl _ _ | apply Mod.drew)))
          (first
            | (go_at_call 35; (with_reducible refine (reached_ok nm x y (some ad) N cap succ _ (HG5.out.mod (by first | exact (Mod.refl _ _).drew)) hN).mono ?_); rintro e wR ⟨gR, rfl, _, hvR, hmR0⟩; have hmR : Mod NoBlk W5 wR := Mod.trans (by first | exact (Mod.refl _ _).drew) hmR0)
            | (go_at_call 35; (with_reducible refine (reached_ok nm x y (some ⟨g, 0, none⟩) N cg su' _ (HGC.out.mod (by first | exact hmR)) hN).mono ?_); rintro e wQ ⟨gQ, rfl, _, hvQ, hmQ0⟩; have hmQ : Mod NoBlk W5 wQ := Mod.trans (by first | exact hmR) hmQ0)
            | (go_at_call 39; (with_reducible refine (above_rows nm x y (some ad) N cap succ _ (HG5.out.mod (by first | exact hmQ)) hN).mono ?_); rintro e wA ⟨gA, rfl, hvA, hmA0⟩; have hmA : Mod NoBlk W5 wA := Mod.trans (by first | exact hmQ) hmA0)
            | (go_at_call 39; (with_reducible refine (above_rows nm x y (some ⟨g, 0, none⟩) N cg su' _ (HGC.out.mod (by first | exact hmA)) hN).mono ?_); rintro e wB ⟨gB, rfl, hvB, hmB0⟩; have hmB : Mod NoBlk W5 wB := Mod.trans (by first | exact hmA) hmB0))
        all_goals
          have HR : Hid (Bools wB gR N (fun i => decide (i ∈ ordOf succ N)) ∧ Bools wB gQ N (fun i => decide (i ∈ ordOf su' N)) ∧ RowsV wB gA N (abvOf succ N) ∧ RowsV wB gB N (abvOf su' N) ∧ Mod NoBlk W5 wB) := ⟨(((hvR.mod hmQ0 (fun h => h)).mod hmA0 (fun h => h)).mod hmB0 (fun h => h)).congr (fun i _ => by simp [ordOf]), ((hvQ.mod hmA0 (fun h => h)).mod hmB0 (fun h => h)).congr (fun i _ => by simp [ordOf]), hvA.mod hmB0, hvB, hmB⟩
          clear hvR hmR0 hmR hvQ hmQ0 hmQ hvA hmA0 hmA hvB hmB0 hmB q0 q1 q2 q3 r0 r1 r2 r3
          go_wp2_with fail
          go_meet
          exact ⟨gR, gQ, gA, gB, rfl, rfl, rfl, rfl, HR.out.1, HR.out.2.1, HR.out.2.2.1, HR.out.2.2.2.1, HR.out.2.2.2.2⟩
      case rest =>
        clear q0 q1 q2 q3 r0 r1 r2 r3 HX
        obtain ⟨g8, g9, g10, g11, rfl, rfl, rfl, rfl, hR, hQ, hA, hB, hm⟩ := hcut
        have HR := Lib.hid hR
        have HQ := Lib.hid hQ
        have HA := Lib.hid hA
        have HB := Lib.hid hB
        have HMC := Lib.hid hm
        clear hR hQ hA hB hm
        have HS' : Hid (∀ a z, z ∈ su' a → z < N) := fun a z hz => (HGC.out.succ a).1 z hz
        go_wp2
        go_loopw [12] (fun s12 wr => ∃ c : Nat, c ≤ N ∧ s12 = .int .i64 c ∧ Mod NoBlk wc wr) (fun s12 _ => (N - intOf s12).toNat)
        case atStart => exact ⟨0, by omega, rfl, Mod.refl _ _⟩
        case round =>
          obtain ⟨c, hcN, rfl, hMr⟩ := hrel
          have HMR := Lib.hid hMr
          clear hMr
          by_cases hlt : c < N
          · have u0 := (HR.out.mod HMR.out (fun h => h)).cell c hlt
            have u1 := (HQ.out.mod HMR.out (fun h => h)).cell c hlt
            obtain ⟨lA, va, Ba, c1, hIa⟩ := HA.out.mod HMR.out c hlt
            have hln := abv_len (succ := succ) (N := N) c
            obtain ⟨L, hL⟩ : ∃ L, (abvOf succ N c).length = L := ⟨_, rfl⟩
            have HLL := Lib.hid hL
            rw [hL] at hln
            obtain ⟨ra, rc, rfl, hrc, hrc2⟩ := hIa.at_
            rw [hL] at hrc hIa c1
            have HIA := Lib.hid hIa
            have D1 : Hid (∀ w', Mod NoBlk wr w' → w'.cell? ⟨g10, c, none⟩ = some (.slice ra L rc)) := fun w' h => (h.cell (p := ⟨g10, c, none⟩) lA (fun h => h)).trans c1
            clear hL hIa
            by_cases hnow : c ∈ ordOf su' N
            · have hwas : c ∈ ordOf succ N := (ord_mem HS.out hlt).2 (((ord_mem HS'.out hlt).1 hnow).less HSUB.out)
              rw [show decide (c ∈ ordOf succ N) = true by simpa using hwas] at u0
              rw [show decide (c ∈ ordOf su' N) = true by simpa using hnow] at u1
              have HNOW := Lib.hid hnow
              have U1 : Hid (∀ w', Mod NoBlk wr w' → w'.cell? ⟨g9, c, none⟩ = some (.bool true)) := fun w' h => (h.cell (p := ⟨g9, c, none⟩) (HQ.out.mod HMR.out (fun h => h)).lt (fun h => h)).trans u1
              clear hnow hwas
              go_wp2
              clear u0 u1 c1
              go_loopw [13] (fun s13 wi => ∃ i : Nat, i ≤ L ∧ s13 = .int .i64 i ∧ Mod NoBlk wr wi) (fun s13 _ => (L - intOf s13).toNat)
              case atStart => exact ⟨0, by omega, rfl, Mod.refl _ _⟩
              case round =>
                obtain ⟨i, hi, rfl, hMi⟩ := hrel
                have HMI0 := Lib.hid hMi
                have HMI := Lib.hid (HMR.out.trans hMi)
                have c1 := D1.out _ hMi
                have u1 := U1.out _ hMi
                clear hMi
                by_cases hiL : i < L
                · have hil : i < (abvOf succ N c).length := by rw [HLL.out]; exact hiL
                  obtain ⟨a, ha⟩ : ∃ a, (abvOf succ N c)[i]? = some a := ⟨_, List.getElem?_eq_getElem hil⟩
                  have hda : Dom su' a c := ((mem_abv HS.out hlt).1 (List.mem_of_getElem? ha)).less HSUB.out ((ord_mem HS'.out hlt).1 HNOW.out)
                  have HMEM : Hid (a ∈ abvOf su' N c) := (mem_abv HS'.out hlt).2 hda
                  have hV := HIA.out.mod HMI0.out
                  rw [← HLL.out] at hV
                  obtain ⟨gr, rfl, _, hgr, d2⟩ := hV.get ha
                  obtain ⟨lB, vb, Bb, e1, hIb⟩ := HB.out.mod HMI.out c hlt
                  have HIB := Lib.hid hIb
                  have HLB : Hid ((abvOf su' N c).length ≤ 1000) := by unfold Hid; have := abv_len (succ := su') (N := N) c; omega
                  have i0 : (0 : Int) ≤ (c : Int) := by omega
                  have i1 : (c : Int) < (N : Int) := by omega
                  have i2 : (0 : Int) ≤ (i : Int) := by omega
                  have i3 : (i : Int) < (L : Int) := by omega
                  have nn : ∀ n : Nat, decide ((n : Int) < 0) = false := fun n => by simp
                  clear hil ha hda hV hIb
                  go_wp2
                  go_quiet ((go_at_call 41; exact has_yesQ Bb _ (abvOf su' N c) a _ _ HIB.out HLB.out HMEM.out))
                  go_wp2
                  go_roundw
                  case measure => simp [intOf]; omega
                  case rel => exact ⟨i + 1, by omega, by go_num, HMI0.out.drewN _⟩
                · have hiL' : i = L := by omega
                  subst i
                  go_wp2
                  go_roundw
                  case measure => simp [intOf]; omega
                  case rel => exact ⟨c + 1, by omega, by go_num, HMI.out⟩
            · rw [show decide (c ∈ ordOf su' N) = false by simpa using hnow] at u1
              clear hnow
              go_wp2
              have U1 : Hid (∀ w', Mod NoBlk wr w' → w'.cell? ⟨g9, c, none⟩ = some (.bool false)) := fun w' h => (h.cell (p := ⟨g9, c, none⟩) (HQ.out.mod HMR.out (fun h => h)).lt (fun h => h)).trans u1
              clear u0 u1 c1
              go_loopw [13] (fun s13 wi => s13 = .int .i64 0 ∧ Mod NoBlk wr wi) (fun _ _ => 0)
              case atStart => exact ⟨rfl, Mod.refl _ _⟩
              case round =>
                obtain ⟨rfl, hMi⟩ := hrel
                have HMI := Lib.hid (HMR.out.trans hMi)
                have c1 := D1.out _ hMi
                have u1 := U1.out _ hMi
                clear hMi
                rcases Nat.eq_zero_or_pos L with hL0 | hL0
                · subst L
                  go_wp2
                  go_roundw
                  case measure => simp [intOf]; omega
                  case rel => exact ⟨c + 1, by omega, by go_num, HMI.out⟩
                · go_wp2
                  go_roundw
                  case measure => simp [intOf]; omega
                  case rel => exact ⟨c + 1, by omega, by go_num, HMI.out⟩
          · have hcN' : c = N := by omega
            subst c
            go_wp2_with (go_at_call 27; refine (head_ok _).mono ?_; rintro e w2 ⟨rfl, hm2⟩; have HM2 := Lib.hid hm2; clear hm2)
            go_ret
            exact ⟨rfl, HW5.out.trans (HMC.out.trans (HMR.out.trans HM2.out))⟩
    · have o1 : (op != 9) = true := by simp [hop]
      have o2 : (op == 9) = false := by simp [hop]
      clear hop
      go_wp2_with (go_at_call 27; refine (head_ok _).mono ?_; rintro e w7 ⟨rfl, hm7⟩; have HM7 := Lib.hid hm7; clear hm7)
      go_ret
      exact ⟨rfl, HW3.out.trans (HM6.out.trans HM7.out)⟩
end Go.Proofs.Ytjaapempahigaaa
