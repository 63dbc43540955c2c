/- Order, Reached, common. -/
import Derived.Test.YtjaapempahigaaaFl7
namespace Go.Proofs.Ytjaapempahigaaa
open Go.RowKit

/-- The order of blocks. -/
def ordOf (succ : Nat → List Nat) (N : Nat) : List Nat := (postOrd succ N).reverse

theorem nodup_len : ∀ (N : Nat) (l : List Nat), l.Nodup → (∀ x ∈ l, x < N) → l.length ≤ N := by
  intro N
  induction N with
  | zero =>
    intro l _ h
    cases l with
    | nil => simp
    | cons x l => exact absurd (h x (by simp)) (by omega)
  | succ N ih =>
    intro l hd h
    by_cases hN : N ∈ l
    · have h1 := ih (l.erase N) (hd.erase N) (fun x hx => by
        have := (hd.mem_erase_iff).1 hx
        have := h x this.2
        omega)
      rw [List.length_erase_of_mem hN] at h1
      omega
    · have := ih l hd (fun x hx => by
        have := h x hx
        have : x ≠ N := fun e => hN (e ▸ hx)
        omega)
      omega

theorem post_len (succ : Nat → List Nat) (N : Nat) (hs : ∀ a z, z ∈ succ a → z < N) : (postOrd succ N).length ≤ N := by
  by_cases h0 : N = 0
  · subst h0; simp [postOrd]
  · obtain ⟨h1, h2, _⟩ := post_spec hs (by omega)
    have hsub : ∀ x ∈ postOrd succ N, x < N := fun x hx => Rch.lt (by omega) hs ((h2 x).1 hx)
    exact nodup_len N _ h1 hsub

set_option maxRecDepth 100000 in
set_option maxHeartbeats 1000000 in
theorem order_ok (nm : ByteArray) (x y : Int) (ob : Option Addr) (N cap : Nat) (succ : Nat → List Nat) (w : World) (hG : GraphAt w ob N succ) (hN : N ≤ 60) :
    Calls Try.prog 37 #[fnV nm x y ob N cap] w fun e w' => ∃ v, e = .returned v ∧ Ints w' w.heap.size v (ordOf succ N) ∧ Mod NoBlk w w' := by
  have hlen := post_len succ N (fun a z hz => (hG.succ a).1 z hz)
  go_enter Try.func37, Try.ntmps37
  go_wp2_with fail
  have hm1 : Mod NoBlk w (w.alloc (.cells #[.string nm, .int .i64 x, .int .i64 y, .slice ob N cap] 63)) := (Mod.refl _ w).alloc _
  refine (walk_ok nm x y ob N cap succ _ (hG.mod hm1) hN).mono ?_
  rintro e w2 ⟨v, rfl, hv, hm2⟩
  have HV := Lib.hid hv
  have HM := Lib.hid (hm1.trans hm2)
  have HS := Lib.hid (hm1.size)
  clear hv hm1 hm2
  go_wp2_with fail
  refine (reverse_ok _ v (postOrd succ N) _ HV.out (by omega)).mono ?_
  rintro e w3 ⟨rfl, hv3, hm3⟩
  have HV3 := Lib.hid hv3
  have HM3 := Lib.hid hm3
  clear hv3 hm3
  go_wp2
  go_ret
  exact ⟨v, rfl, HV3.out.base HS.out, HM.out.trans' HM3.out (fun i hi h => absurd hi (by have := (HV.out.lt i h).1; have := HS.out; omega))⟩

theorem Bools.congr {w : World} {g N : Nat} {c d : Nat → Bool} (h : Bools w g N c) (he : ∀ i, i < N → c i = d i) : Bools w g N d := by
  obtain ⟨cs, hb, hs, hc⟩ := h
  exact ⟨cs, hb, hs, fun i hi => by rw [hc i hi, he i hi]⟩
theorem Ints.at_ {w : World} {B : Nat} {v : Value} {l : List Nat} (h : Ints w B v l) : ∃ oa c, v = .slice oa l.length c ∧ l.length ≤ c ∧ c ≤ 9223372036854775807 := by
  rcases h.form with ⟨rfl, rfl⟩ | ⟨g, c, _, rfl, _, _, _, h1, h2, _⟩
  · exact ⟨_, _, rfl, by simp, by omega⟩
  · exact ⟨_, _, rfl, h1, h2⟩
theorem Ints.get {w : World} {B k x c : Nat} {oa : Option Addr} {l : List Nat} (h : Ints w B (.slice oa l.length c) l) (hk : l[k]? = some x) : ∃ g, oa = some ⟨g, 0, none⟩ ∧ B ≤ g ∧ g < w.heap.size ∧ w.cell? ⟨g, k, none⟩ = some (.int .i64 (x : Nat)) := by
  rcases h.form with ⟨_, rfl⟩ | ⟨g, c, cur, e, hB, hb, _, _, _, hx⟩
  · simp at hk
  · cases e
    exact ⟨g, rfl, hB, hb.lt, by rw [hb.cell]; exact hx k x hk⟩

set_option maxRecDepth 100000 in
set_option maxHeartbeats 1000000 in
theorem reached_ok (nm : ByteArray) (x y : Int) (ob : Option Addr) (N cap : Nat) (succ : Nat → List Nat) (w : World) (hG : GraphAt w ob N succ) (hN : N ≤ 60) :
    Calls Try.prog 35 #[fnV nm x y ob N cap] w fun e w' => ∃ g, e = .returned (.slice (some ⟨g, 0, none⟩) N N) ∧ w.heap.size ≤ g ∧ Bools w' g N (fun i => decide (i ∈ postOrd succ N)) ∧ Mod NoBlk w w' := by
  have hmk := fun W => Go.run_make_row' (P := Try.prog) 71 4 (.bool false) 1 Try.underlying71 info4 rfl .i64 .i64 N (by omega) (by omega) W
  have hs : ∀ a z, z ∈ succ a → z < N := fun a z hz => (hG.succ a).1 z hz
  have hlen := post_len succ N hs
  have hlt : ∀ z, z ∈ postOrd succ N → z < N := by
    intro z hz
    by_cases h0 : N = 0
    · subst h0; simp [postOrd] at hz
    · exact Rch.lt (by omega) hs (((post_spec hs (by omega)).2.1 z).1 hz)
  have HLT := Lib.hid hlt
  have HG := Lib.hid hG
  clear hs hlt hG
  go_enter Try.func35, Try.ntmps35
  go_upto_region 2 with fail
  have hm1 := mod2' w (.cells #[.string nm, .int .i64 x, .int .i64 y, .slice ob N cap] 63) (.cells (madeCells #[.bool false] N) 4)
  have hF1 := (Blk.new w 63 #[.string nm, .int .i64 x, .int .i64 y, .slice ob N cap]).alloc (.cells (madeCells #[.bool false] N) 4)
  have hC1 := Bools.new (w.alloc (.cells #[.string nm, .int .i64 x, .int .i64 y, .slice ob N cap] 63)) N
  rw [World.size_alloc] at hC1
  generalize (w.alloc (.cells #[.string nm, .int .i64 x, .int .i64 y, .slice ob N cap] 63)).alloc (.cells (madeCells #[.bool false] N) 4) = W1 at *
  obtain ⟨q0, q1, q2, q3, l0⟩ := fn_cells nm x y ob N cap W1 w.heap.size hF1
  have HC1 := Lib.hid hC1
  have HM1 := Lib.hid hm1
  clear hm1 hC1 hF1 hmk
  go_wp2_with fail
  refine (walk_ok nm x y ob N cap succ _ (HG.out.mod HM1.out) hN).mono ?_
  rintro e W2 ⟨v, rfl, hv, hm2⟩
  obtain ⟨oa, c2, rfl, hc1, hc2⟩ := hv.at_
  have HV := Lib.hid hv
  have HC2 := Lib.hid (HC1.out.mod hm2 (fun h => h))
  have HM2 := Lib.hid (HM1.out.trans hm2)
  have HSZ : Hid (w.heap.size + 1 < W1.heap.size) := HC1.out.lt
  clear hv hm2 HC1 HM1 q0 q1 q2 q3 l0
  generalize hL : postOrd succ N = L at *
  obtain ⟨m, hm⟩ : ∃ m, L.length = m := ⟨_, rfl⟩
  rw [hm] at hc1 HV hlen ⊢
  have HML := Lib.hid hm
  clear hm
  go_wp2
  go_loopw [13] (fun i wr => ∃ k : Nat, k ≤ m ∧ i = .int .i64 k ∧ Bools wr (w.heap.size + 1) N (fun z => decide (z ∈ L.take k)) ∧ Mod (fun j => j = w.heap.size + 1) W2 wr) (fun i _ => (m - intOf i).toNat)
  case atStart => exact ⟨0, by omega, rfl, HC2.out.congr (fun i _ => by simp), Mod.refl _ _⟩
  case round =>
    clear HC2
    obtain ⟨k, hk, rfl, hC, hmr⟩ := hrel
    have HC := Lib.hid hC
    have HMR := Lib.hid hmr
    clear hC hmr
    by_cases hlt : k < m
    · have hkl : k < L.length := by rw [HML.out]; exact hlt
      obtain ⟨z, hz⟩ : ∃ z, L[k]? = some z := ⟨_, List.getElem?_eq_getElem hkl⟩
      have hzN : z < N := HLT.out z (List.mem_of_getElem? hz)
      have hV := HV.out
      rw [← HML.out] at hV
      obtain ⟨g, rfl, hg, hgl, hc⟩ := hV.get hz
      have hne : g ≠ w.heap.size + 1 := by have := HSZ.out; omega
      have hc' := (HMR.out.cell (p := ⟨g, k, none⟩) hgl hne).trans hc
      have b0 := HC.out.cell z hzN
      have b1 := HC.out.frozen z
      have HZ := Lib.hid hz
      clear hz hV hc hkl
      go_wp2
      go_roundw
      case measure => simp [intOf]; omega
      case rel =>
        refine ⟨k + 1, by omega, by go_num, (HC.out.mark z).congr (fun i _ => ?_), HMR.out.setCell (p := ⟨w.heap.size + 1, z, none⟩) (fun _ => rfl) _⟩
        rw [Bool.eq_iff_iff, mark_iff, decide_eq_true_iff, decide_eq_true_iff, List.take_add_one, HZ.out]
        simp
        exact or_comm
    · obtain rfl : k = m := by omega
      go_wp2
      go_ret
      refine ⟨_, rfl, by omega, HC.out.congr (fun i _ => ?_), HM2.out.trans' HMR.out (fun i hi h => absurd hi (by have : i = w.heap.size + 1 := h; omega))⟩
      rw [List.take_of_length_le (by rw [HML.out]; exact Nat.le_refl _), hL]

end Go.Proofs.Ytjaapempahigaaa
