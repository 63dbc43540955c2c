/- common; has; SameInts. -/
import Derived.Test.YtjaapempahigaaaFl8
namespace Go.Proofs.Ytjaapempahigaaa
open Go.RowKit

theorem take_filter_hit {l : List Nat} {k x : Nat} {p : Nat → Bool} (h : l[k]? = some x) (hp : p x = true) : (l.take (k + 1)).filter p = (l.take k).filter p ++ [x] := by
  rw [List.take_add_one, h]; simp [hp]
theorem take_filter_miss {l : List Nat} {k x : Nat} {p : Nat → Bool} (h : l[k]? = some x) (hp : p x = false) : (l.take (k + 1)).filter p = (l.take k).filter p := by
  rw [List.take_add_one, h]; simp [hp]

set_option maxRecDepth 100000 in
set_option maxHeartbeats 1000000 in
theorem common_ok (A B : Nat) (va vb : Value) (la lb : List Nat) (w : World) (ha : Ints w A va la) (hb : Ints w B vb lb) (hsa : la.length ≤ 1000) (hsb : lb.length ≤ 1000) (hsrt : Srt lb) :
    Calls Try.prog 55 #[va, vb] w fun e w' => ∃ v, e = .returned v ∧ Ints w' w.heap.size v (la.filter fun x => decide (x ∈ lb)) ∧ Mod NoBlk w w' := by
  obtain ⟨i3, hi3, hz0, hz1, hz2⟩ := info_parts info3
  have HI3 : Hid (Try.prog.info? 3 = some i3) := hi3
  have HZ0 : Hid (i3.zero = some (.int .i64 0)) := hz0
  have HZ1 : Hid (i3.size = 1) := hz1
  have HZ2 : Hid (i3.bytes = 8) := hz2
  obtain ⟨oa, ca, rfl, hc1, hc2⟩ := ha.at_
  obtain ⟨ob, cb, rfl, hc3, hc4⟩ := hb.at_
  obtain ⟨m, hm⟩ : ∃ m, la.length = m := ⟨_, rfl⟩
  obtain ⟨n, hn⟩ : ∃ n, lb.length = n := ⟨_, rfl⟩
  have HA := Lib.hid ha
  have HB := Lib.hid hb
  rw [hm] at hsa hc1 HA ⊢
  rw [hn] at hc3 HB ⊢
  have HML := Lib.hid hm
  have HNL := Lib.hid hn
  have HSR := Lib.hid hsrt
  clear hi3 hz0 hz1 hz2 ha hb hm hn hsrt
  go_enter Try.func55, Try.ntmps55
  go_wp2
  go_loopw [5, 12] (fun vo i wr => ∃ k : Nat, k ≤ m ∧ i = .int .i64 k ∧ Ints wr w.heap.size vo ((la.take k).filter fun x => decide (x ∈ lb)) ∧ Mod NoBlk w wr) (fun _ i _ => (m - intOf i).toNat)
  case atStart => exact ⟨0, by omega, rfl, World.ownsRow_nil _ _ _ _, Mod.refl _ _⟩
  case round =>
    obtain ⟨k, hk, rfl, hO, hmr⟩ := hrel
    have HO := Lib.hid hO
    have HM := Lib.hid hmr
    clear hO hmr
    by_cases hlt : k < m
    · have hkl : k < la.length := by rw [HML.out]; exact hlt
      obtain ⟨z, hz⟩ : ∃ z, la[k]? = some z := ⟨_, List.getElem?_eq_getElem hkl⟩
      have hV := HA.out.mod HM.out
      rw [← HML.out] at hV
      obtain ⟨g, rfl, hg, hgl, hc⟩ := hV.get hz
      have HZ := Lib.hid hz
      clear hz hV hkl
      go_wp2_with fail
      refine (search_ok B _ lb z _ (HB.out.mod HM.out) hsb HSR.out).mono ?_
      rintro e w2 ⟨rfl, hm2⟩
      have HM2 := Lib.hid (HM.out.trans hm2)
      have HO2 := Lib.hid (HO.out.mod hm2)
      have hsz := (HM.out.trans hm2).size
      have hlen : ((la.take k).filter fun x => decide (x ∈ lb)).length ≤ k := Nat.le_trans (List.length_filter_le _ _) (List.length_take_le _ _)
      clear hm2 HM HO hc
      by_cases hmem : z ∈ lb
      · have hd : decide (z ∈ lb) = true := by simp [hmem]
        have HT := Lib.hid (take_filter_hit (p := fun x => decide (x ∈ lb)) HZ.out hd)
        rw [hd]
        clear hmem hd
        generalize hq : ((la.take k).filter fun x => decide (x ∈ lb)) = q at *
        clear hq
        go_wp2_with (at_builtin; go_must (refine wpList_append_lies _ rfl _ _ 65 rfl w.heap.size 3 i3 (.int .i64 0) 1 8 Try.underlying65 HI3.out HZ0.out HZ1.out HZ2.out rfl (by decide) u5 q.length (q.map fun x => Value.int .i64 (x : Nat)) rfl (World.ownsRow.alloc HO2.out _) ⟨w2.heap.size, 0, none⟩ 1 1 [_] rfl rfl (cell_one_new _ _ _) (by simp [Value.oneCell']) (by omega) (by unfold maxLen; omega) (by omega) (by simp; omega) _ rfl ?_); intro g2 c2 w3 hown hgrow _ _; have HOW := Lib.hid hown; have HGR := Lib.hid hgrow; clear hown hgrow)
        go_roundw
        case measure => simp [intOf]; omega
        case rel =>
          refine ⟨k + 1, by omega, by go_num, ?_, HM2.out.trans' (grow_mod HGR.out) (fun i hi h => absurd hi (by have := (HO2.out.lt i h).1; omega))⟩
          have := HOW.out
          rw [HT.out]
          unfold Ints
          simpa using this
      · have hd : decide (z ∈ lb) = false := by simp [hmem]
        have HT := Lib.hid (take_filter_miss (p := fun x => decide (x ∈ lb)) HZ.out hd)
        rw [hd]
        clear hmem hd
        go_wp2
        go_roundw
        case measure => simp [intOf]; omega
        case rel => exact ⟨k + 1, by omega, by go_num, by rw [HT.out]; exact HO2.out, HM2.out⟩
    · obtain rfl : k = m := by omega
      go_wp2
      go_ret
      refine ⟨_, rfl, ?_, HM.out⟩
      have := HO.out
      rw [List.take_of_length_le (by rw [HML.out]; exact Nat.le_refl _)] at this
      exact this

end Go.Proofs.Ytjaapempahigaaa
