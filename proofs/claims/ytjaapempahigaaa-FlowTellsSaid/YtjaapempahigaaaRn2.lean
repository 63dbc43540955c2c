/- The document's Before. -/
import Derived.Test.YtjaapempahigaaaRn1
namespace Go.Proofs.Ytjaapempahigaaa
open Go.RowKit

/-- A row of rows, as values. -/
def RowVals (w : World) (B : Nat) (v : Value) (n : Nat) (rows : Nat → List Nat) : Prop :=
  ∃ vs : List Value, vs.length = n ∧ w.ownsRow B 65 1 v n vs ∧ ∀ (i : Nat) (u : Value), vs[i]? = some u → Ints w B u (rows i)
theorem RowVals.mod {w w' : World} {B : Nat} {v : Value} {n : Nat} {rows : Nat → List Nat} (h : RowVals w B v n rows) (hm : Mod NoBlk w w') : RowVals w' B v n rows := by
  obtain ⟨vs, h1, h2, h3⟩ := h
  exact ⟨vs, h1, row_mod h2 hm (fun _ _ h => h), fun i u hi => (h3 i u hi).mod hm⟩
/-- What was appended to has turned, and nothing that holds numbers. -/
theorem RowVals.snoc {w w1 : World} {B n g c : Nat} {v u : Value} {vs : List Value} {rows : Nat → List Nat} (hl : vs.length = n) (ho : w.ownsRow B 65 1 v n vs) (hi : ∀ (i : Nat) (u : Value), vs[i]? = some u → Ints w B u (rows i)) (hu : Ints w B u (rows n))
    (hown : w1.ownsRow B 65 1 (.slice (some ⟨g, 0, none⟩) (n + 1) c) (n + 1) (vs ++ [u])) (hm : Mod (fun j => v.ownBlock = some j) w w1) : RowVals w1 B (.slice (some ⟨g, 0, none⟩) (n + 1) c) (n + 1) rows := by
  have key : ∀ (u : Value) (l : List Nat), Ints w B u l → Ints w1 B u l := fun u l h => row_mod h hm (fun gg e1 e2 => by
    rcases h.form with ⟨rfl, _⟩ | ⟨g1, c1, cur1, rfl, _, hb1, _⟩
    · cases e1
    · cases e1
      rcases ho.2 with ⟨rfl, _⟩ | ⟨g2, c2, cur2, rfl, _, hb2, _⟩
      · cases e2
      · cases e2
        exact absurd (Blk.uniq hb1 hb2).1 (by decide))
  refine ⟨vs ++ [u], by simp [hl], hown, fun i u' hi' => ?_⟩
  by_cases e : i < n
  · rw [List.getElem?_append_left (by omega)] at hi'
    exact key _ _ (hi i u' hi')
  · rw [List.getElem?_append_right (by omega)] at hi'
    have hz : i - vs.length = 0 := by
      have := (List.getElem?_eq_some_iff.1 hi').1
      simp at this
      omega
    rw [hz] at hi'
    simp only [List.getElem?_cons_zero, Option.some.injEq] at hi'
    subst hi'
    have : i = n := by omega
    subst this
    exact key _ _ hu
theorem RowVals.rowsV {w : World} {B : Nat} {v : Value} {n : Nat} {rows : Nat → List Nat} (h : RowVals w B v n rows) : ∃ oa c g, v = .slice oa n c ∧ n ≤ c ∧ c ≤ 9223372036854775807 ∧ (0 < n → oa = some ⟨g, 0, none⟩) ∧ RowsV w g n rows := by
  obtain ⟨vs, h1, h2, h3⟩ := h
  rcases h2.2 with ⟨rfl, rfl⟩ | ⟨g, cap, cur, rfl, hg, hb, hle, hmx, hsz, htk⟩
  · exact ⟨none, 0, 0, rfl, by omega, by omega, fun h => absurd h (by omega), fun i hi => absurd hi (by omega)⟩
  · refine ⟨_, cap, g, rfl, hle, by unfold maxLen at hmx; omega, fun _ => rfl, fun i hi => ?_⟩
    obtain ⟨u, hu⟩ : ∃ u, vs[i]? = some u := ⟨_, List.getElem?_eq_getElem (by omega)⟩
    have hc : cur[i]? = some u := by
      have hj := hu
      rw [← htk, List.getElem?_take] at hj
      split at hj
      · simpa using hj
      · cases hj
    have hbb : Blk w g 65 cur := hb
    exact ⟨hbb.lt, u, B, (hbb.cell i).trans hc, h3 i u hu⟩

set_option maxRecDepth 100000 in
set_option maxHeartbeats 4000000 in
theorem refBefore_ok (nm : ByteArray) (x y : Int) (ob : Option Addr) (N cap : Nat) (succ : Nat → List Nat) (w : World) (hG : GraphAt w ob N succ) (hN : N ≤ 60) :
    Calls Try.prog 33 #[fnV nm x y ob N cap] w fun e w' => ∃ v, e = .returned v ∧ RowVals w' w.heap.size v N (predOf succ N) ∧ Mod NoBlk w w' := by
  obtain ⟨i3, hi3, hz0, hz1, hz2⟩ := info_parts info3
  have HI3 := Lib.hid hi3
  have HZ0 := Lib.hid hz0
  have HZ1 := Lib.hid hz1
  have HZ2 := Lib.hid hz2
  obtain ⟨i65, hi65, hy0, hy1, hy2⟩ := info_parts info65
  have HI65 := Lib.hid hi65
  have HY0 := Lib.hid hy0
  have HY1 := Lib.hid hy1
  have HY2 := Lib.hid hy2
  have HG := Lib.hid hG
  clear hi3 hz0 hz1 hz2 hi65 hy0 hy1 hy2 hG
  go_enter Try.func33, Try.ntmps33
  go_wp2_with fail
  have hm1 : Mod NoBlk w (w.alloc (.cells #[.string nm, .int .i64 x, .int .i64 y, .slice ob N cap] 63)) := (Mod.refl _ w).alloc _
  have hF1 := Blk.new w 63 #[.string nm, .int .i64 x, .int .i64 y, .slice ob N cap]
  generalize w.alloc (.cells #[.string nm, .int .i64 x, .int .i64 y, .slice ob N cap] 63) = W1 at *
  obtain ⟨gf, hgf⟩ : ∃ gf, w.heap.size = gf := ⟨_, rfl⟩
  rw [hgf] at hF1 ⊢
  have HF := Lib.hid hF1
  have HM := Lib.hid hm1
  obtain ⟨g1, hg1⟩ : ∃ g1, W1.heap.size = g1 := ⟨_, rfl⟩
  have hgl : gf < g1 := by have := hF1.lt; omega
  have HGE : Hid (w.heap.size ≤ g1) := by unfold Hid; omega
  have HG1 := Lib.hid hg1
  clear hg1
  have HGF := Lib.hid hgf
  clear hm1 hF1 hgf
  go_loopw [3, 4, 5, 6] (fun s3 s4 _ _ wr => ∃ b : Nat, b ≤ N ∧ s4 = .int .i64 b ∧ RowVals wr g1 s3 b (predOf succ N) ∧ Mod NoBlk W1 wr) (fun _ s4 _ _ _ => (N - intOf s4).toNat)
  case atStart => exact ⟨0, by omega, rfl, ⟨[], rfl, World.ownsRow_nil _ _ _ _, fun i u h => by simp at h⟩, Mod.refl _ _⟩
  case round =>
    obtain ⟨b, hb, rfl, hRV, hMr⟩ := hrel
    have HRV := Lib.hid hRV
    have HMR := Lib.hid hMr
    obtain ⟨q0, q1, q2, q3, l0⟩ := fn_cells nm x y ob N cap wr gf (HF.out.mod hMr (fun h => h))
    clear hRV hMr
    by_cases hlt : b < N
    · go_wp2
      clear q0 q1 q2 q3 l0
      have hrs : g1 ≤ wr.heap.size := by have := HMR.out.size; have := HG1.out; omega
      obtain ⟨sz, hsz⟩ : ∃ sz, wr.heap.size = sz := ⟨_, rfl⟩
      have HSZ : Hid (g1 ≤ sz) := by unfold Hid; omega
      have HSE := Lib.hid hsz
      clear hrs hsz
      go_loopw [5, 6] (fun s5 s6 wk => ∃ k : Nat, k ≤ N ∧ s6 = .int .i64 k ∧ Ints wk sz s5 ((List.range k).filter fun j => decide (b ∈ succ j)) ∧ Mod NoBlk wr wk) (fun _ s6 _ => (N - intOf s6).toNat)
      case atStart => exact ⟨0, by omega, rfl, World.ownsRow_nil _ _ _ _, Mod.refl _ _⟩
      case round =>
        obtain ⟨k, hk, rfl, hIk, hMk⟩ := hrel
        have HIK := Lib.hid hIk
        have HMK := Lib.hid hMk
        obtain ⟨q0, q1, q2, q3, l0⟩ := fn_cells nm x y ob N cap wr gf (HF.out.mod (HMR.out.trans hMk) (fun h => h))
        clear hIk hMk
        by_cases hlk : k < N
        · go_wp2_with fail
          refine (refNext_ok nm x y ob N cap k succ _ (HG.out.mod (HM.out.trans (HMR.out.trans HMK.out)))).mono ?_
          rintro e w2 ⟨v, rfl, hv, hm2⟩
          rw [next_blk N succ hlk] at hv
          have HV := Lib.hid hv
          have HM2 := Lib.hid (HMK.out.trans hm2)
          have HIK2 := Lib.hid (HIK.out.mod hm2)
          have hs2 := (HMK.out.trans hm2).size
          have hse := HSE.out
          rw [hse] at hs2
          clear hv hm2 q0 q1 q2 q3 l0 hse
          go_wp2_with fail
          refine (in_ok _ v (succ k) b _ HV.out (by have := (HG.out.succ k).2.1; omega)).mono ?_
          rintro e w3 ⟨rfl, rfl⟩
          have hql : ((List.range k).filter fun j => decide (b ∈ succ j)).length ≤ k := by
            have := List.length_filter_le (fun j => decide (b ∈ succ j)) (List.range k)
            simpa using this
          by_cases hbk : b ∈ succ k
          · have HT : Hid (((List.range (k + 1)).filter fun j => decide (b ∈ succ j)) = ((List.range k).filter fun j => decide (b ∈ succ j)) ++ [k]) := by
              unfold Hid
              rw [List.range_succ, List.filter_append]
              simp [hbk]
            rw [show decide (b ∈ succ k) = true by simpa using hbk]
            clear hbk
            generalize hq : ((List.range k).filter fun j => decide (b ∈ succ j)) = q at *
            clear hq
            go_wp2_with (at_builtin; go_must (refine wpList_append_lies _ rfl _ _ 65 rfl sz 3 i3 (.int .i64 0) 1 8 Try.underlying65 HI3.out HZ0.out HZ1.out HZ2.out rfl (by decide) u5 q.length (q.map fun x => Value.int .i64 (x : Nat)) rfl (World.ownsRow.alloc HIK2.out _) ⟨w2.heap.size, 0, none⟩ 1 1 [_] rfl rfl (cell_one_new _ _ _) (by simp [Value.oneCell']) (by omega) (by unfold maxLen; omega) (by omega) (by simp; omega) _ rfl ?_); intro g2 c2 w3 hown hgrow _ _; have HOW := Lib.hid hown; have HGR := Lib.hid hgrow; clear hown hgrow)
            go_roundw
            case measure => simp [intOf]; omega
            case rel =>
              refine ⟨k + 1, by omega, by go_num, ?_, HM2.out.trans' (grow_mod HGR.out) (fun i hi h => absurd hi (by have := (HIK2.out.lt i h).1; have := HSE.out; omega))⟩
              have := HOW.out
              rw [HT.out]
              unfold Ints
              simpa using this
          · have HT : Hid (((List.range (k + 1)).filter fun j => decide (b ∈ succ j)) = ((List.range k).filter fun j => decide (b ∈ succ j))) := by
              unfold Hid
              rw [List.range_succ, List.filter_append]
              simp [hbk]
            rw [show decide (b ∈ succ k) = false by simpa using hbk]
            clear hbk
            go_wp2
            go_roundw
            case measure => simp [intOf]; omega
            case rel => exact ⟨k + 1, by omega, by go_num, by rw [HT.out]; exact HIK2.out, HM2.out⟩
        · have hkN : k = N := by omega
          subst k
          have hI := HIK.out
          obtain ⟨ou, cu, hu5, _, _⟩ := hI.at_
          obtain ⟨lu, hlu⟩ : ∃ lu, ((List.range N).filter fun j => decide (b ∈ succ j)).length = lu := ⟨_, rfl⟩
          rw [hlu] at hu5
          subst hu5
          have HIE := Lib.hid hI
          clear hI hlu HIK
          obtain ⟨vs, hvl, hvo, hvi⟩ := HRV.out.mod HMK.out
          have HVL := Lib.hid hvl
          have HVO := Lib.hid hvo
          have HVI := Lib.hid hvi
          have hs2 := (HMR.out.trans HMK.out).size
          have hgs : g1 ≤ wr.heap.size := by have := HG1.out; omega
          clear hvl hvo hvi
          go_wp2_with (at_builtin; go_must (refine wpList_append_lies _ rfl _ _ 68 rfl g1 65 i65 (.slice none 0 0) 1 24 Try.underlying68 HI65.out HY0.out HY1.out HY2.out rfl (by decide) u3 b vs rfl (World.ownsRow.alloc HVO.out _) ⟨wr.heap.size, 0, none⟩ 1 1 [_] rfl rfl (cell_one_new _ _ _) (by simp [Value.oneCell']) (by omega) (by unfold maxLen; omega) (by omega) (by simp; omega) _ rfl ?_); intro g2 c2 w3 hown hgrow _ _; have HOW := Lib.hid hown; have HGR := Lib.hid hgrow; clear hown hgrow)
          go_roundw
          case measure => simp [intOf]; omega
          case rel =>
            have hHI : Ints (wr.alloc (.cells #[.slice ou lu cu] 65)) g1 (.slice ou lu cu) (predOf succ N b) := (HIE.out.base HSZ.out).mod ((Mod.refl _ _).alloc _)
            refine ⟨b + 1, by omega, by go_num, RowVals.snoc (w := wr.alloc (.cells #[.slice ou lu cu] 65)) HVL.out (World.ownsRow.alloc HVO.out _) (fun i u hi => (HVI.out i u hi).mod ((Mod.refl _ _).alloc _)) hHI HOW.out ((Mod.refl _ _).grown HGR.out (fun k e _ => e)), (HMR.out.trans HMK.out).trans' (grow_mod HGR.out) (fun i hi h => absurd hi (by have := (HVO.out.lt i h).1; have := HG1.out; omega))⟩
    · have hbN : b = N := by omega
      subst b
      go_wp2
      go_ret
      exact ⟨_, rfl, (by obtain ⟨vs, h1, h2, h3⟩ := HRV.out; exact ⟨vs, h1, row_le h2 HGE.out, fun i u hi => (h3 i u hi).base HGE.out⟩), HM.out.trans HMR.out⟩
end Go.Proofs.Ytjaapempahigaaa
