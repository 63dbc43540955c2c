/- FileOverlaps: the walk. -/
import Derived.Test.YtjaapempahigaaaOver1
namespace Go.Proofs.Ytjaapempahigaaa
open Go.RowKit

set_option maxRecDepth 100000 in
set_option maxHeartbeats 2000000 in
theorem fileOverlaps_walk (a0 x1 x2 x3 x4 y : Int) (b : Bool) (w : World) (h0 : 0 ≤ a0) (h1 : a0 ≤ 255) :
    Calls Try.prog 3 #[.int .u8 a0, .agg #[.bool b, .int .i64 x1, .int .i64 x2, .int .i64 x3, .int .u32 x4], .int .u32 y] w fun e w' => e = .returned (.bool true) ∧ Mod NoBlk w w' := by
  obtain ⟨n, hn⟩ : ∃ n : Nat, 2 + a0 % 31 = (n : Int) := ⟨(2 + a0 % 31).toNat, by omega⟩
  have hn2 : 2 ≤ n := by omega
  have hn32 : n ≤ 32 := by omega
  obtain ⟨a, ha⟩ : ∃ a : Nat, x1 % 256 % (n : Int) = (a : Int) := ⟨(x1 % 256 % (n : Int)).toNat, by have := Int.emod_nonneg (x1 % 256) (show (n : Int) ≠ 0 by omega); omega⟩
  have han : a < n := by have := Int.emod_lt_of_pos (x1 % 256) (show (0 : Int) < (n : Int) by omega); omega
  obtain ⟨r, hr⟩ : ∃ r : Nat, 8 + x3 % 256 % 24 = (r : Int) := ⟨(8 + x3 % 256 % 24).toNat, by omega⟩
  have hr8 : 8 ≤ r := by omega
  have hr32 : r < 32 := by omega
  obtain ⟨ap, hap⟩ : ∃ ap, (a + n - 1) % n = ap := ⟨_, rfl⟩
  obtain ⟨an, hans⟩ : ∃ an, (a + 1) % n = an := ⟨_, rfl⟩
  have hap2 : ap < n := by rw [← hap]; exact Nat.mod_lt _ (by omega)
  have han2 : an < n := by rw [← hans]; exact Nat.mod_lt _ (by omega)
  have hne1 : ap ≠ a := by rw [pred_mod han] at hap; split at hap <;> omega
  have hne2 : an ≠ a := by rw [succ_mod han] at hans; split at hans <;> omega
  have e1 : ((a : Int) + (n : Int) - 1) % (n : Int) = (ap : Int) := by rw [← hap, Int.natCast_emod]; congr 1; omega
  have e2 : ((a : Int) + 1) % (n : Int) = (an : Int) := by rw [← hans, Int.natCast_emod]; rfl
  have HCN : Hid (∀ k j, Own a r ap an k j → cnt a r ap an k (j + 1) = cnt a r ap an k j + 1) := fun k j h => cnt_own n a r ap an k j hn2 han hap hans hr32 h
  have HCA : Hid (cnt a r ap an n 8 = if r < 16 ∨ 24 ≤ r then 2 else 1) := cnt_all n a r ap an han hap hans
  have HGV : Hid (∀ k j, k < n → 8 ≤ j → j < 32 → getV (afA zeroF n a r y) (afG zeroF 3 r y) n k 0 j = if Own a r ap an k j then y else 0) := fun k j hk h1 h2 => over_get y hn2 han hr8 hr32 hk h1 h2 hap hans
  have HE1 := Lib.hid e1
  have HE2 := Lib.hid e2
  clear hap hans e1 e2
  go_enter Try.func3, Try.ntmps3
  go_wp2
  go_quiet (fail)
  go_wp2_with fail
  have hmW : Mod NoBlk w ((w.alloc (Obj.cells #[Value.bool b, Value.int IntKind.i64 x1, Value.int IntKind.i64 x2, Value.int IntKind.i64 x3, Value.int IntKind.u32 x4] 24)).drewN nq) := ((Mod.refl _ _).alloc _).drewN _
  generalize (w.alloc (Obj.cells #[Value.bool b, Value.int IntKind.i64 x1, Value.int IntKind.i64 x2, Value.int IntKind.i64 x3, Value.int IntKind.u32 x4] 24)).drewN nq = W at hmW ⊢
  obtain ⟨p, hp⟩ : ∃ p, W.heap.size + 1 = p := ⟨_, rfl⟩
  obtain ⟨q, hq⟩ : ∃ q, W.heap.size = q := ⟨_, rfl⟩
  have HN : Hid (∀ k, k < w.heap.size → ¬ (k = p ∨ k = q)) := by have := hmW.size; intro k hk; omega
  have HP := Lib.hid hp
  have HQ := Lib.hid hq
  have HW := Lib.hid hmW
  clear hp hq hmW
  refine (new_ok n _ hn2 hn32).mono ?_
  rintro e w0 ⟨rfl, hf0, hm0⟩
  rw [HP.out, HQ.out] at hf0
  rw [HP.out]
  have HF0 := Lib.hid hf0
  have HM0 := Lib.hid (HW.out.trans hm0)
  clear hf0 hm0 HW
  go_wp2_with fail
  refine (set_is p q n (16 * n) a 3 r y _ _ _ _ _ HF0.out han (by omega) hr32 rfl rfl).mono ?_
  rintro e w1 ⟨rfl, hf1, hm1⟩
  generalize afA zeroF n a r y = A at *
  generalize afG zeroF 3 r y = G at *
  have HF1 := Lib.hid hf1
  have HM1 := Lib.hid (HM0.out.trans' hm1 (fun i hi h => (HN.out i hi h).elim))
  clear hf1 hm1 HF0 HM0
  go_wp2
  go_loopw [14, 15] (fun m i wr => ∃ k : Nat, k ≤ n ∧ i = .int .i64 k ∧ m = .int .i64 (cnt a r ap an k 8) ∧ FileAt wr p q n (16 * n) A G ∧ Mod NoBlk w wr) (fun _ i _ => n - (intOf i).toNat)
  case atStart => exact ⟨0, Nat.zero_le _, rfl, by rw [cnt_zero _ _ _ _ hr8]; rfl, HF1.out, HM1.out⟩
  case round =>
    clear HF1 HM1
    obtain ⟨k, hk, rfl, rfl, hf, hm⟩ := hrel
    have HF := Lib.hid hf
    have HM := Lib.hid hm
    clear hf hm
    obtain ⟨wo, hwo⟩ : ∃ wo : World, wo = wr := ⟨_, rfl⟩
    rw [← hwo] at HF HM ⊢
    clear hwo
    by_cases hlt : k < n
    · have hc8 : (cnt a r ap an k 8 : Int) ≤ 3 := by have := cnt_le a r ap an k 8; omega
      go_wp2
      go_loopw [14, 16] (fun m i wi => ∃ j : Nat, 8 ≤ j ∧ j ≤ 32 ∧ i = .int .i64 j ∧ m = .int .i64 (cnt a r ap an k j) ∧ FileAt wi p q n (16 * n) A G ∧ Mod NoBlk w wi) (fun _ i _ => 32 - (intOf i).toNat)
      case atStart => exact ⟨8, by omega, by omega, rfl, rfl, HF.out, HM.out⟩
      case round =>
        clear HF HM hc8
        obtain ⟨j, hj8, hj32, rfl, rfl, hf, hm⟩ := hrel
        have HF := Lib.hid hf
        have HM := Lib.hid hm
        clear hf hm
        by_cases hlt2 : j < 32
        · have hcl := cnt_le a r ap an k j
          have HCI : Hid (if Own a r ap an k j then cnt a r ap an k (j + 1) = cnt a r ap an k j + 1 else cnt a r ap an k (j + 1) = cnt a r ap an k j) := by
            show ite _ _ _
            by_cases hO : Own a r ap an k j
            · rw [if_pos hO]; exact HCN.out k j hO
            · rw [if_neg hO]; exact cnt_not _ _ _ _ _ _ hO
          generalize cnt a r ap an k j = c at *
          go_wp2_with fail
          refine (get_is p q n (16 * n) k 0 j _ _ _ _ HF.out hlt (by omega) hlt2 (HGV.out k j hlt hj8 hlt2)).mono ?_
          rintro e w4 ⟨rfl, hf4, hm4⟩
          have HF4 := Lib.hid hf4
          have HM4 := Lib.hid (HM.out.trans hm4)
          clear hf4 hm4 HF HM
          have he1 := HE1.out
          have he2 := HE2.out
          by_cases hO : Own a r ap an k j
          · have hcc := HCI.out
            rw [if_pos hO] at hcc ⊢
            have HCC := Lib.hid hcc
            have hyy : (y != y) = false := by simp
            clear hcc HCI
            unfold Own at hO
            rcases hO with ⟨h3, h4⟩ | ⟨h5, h3, h4⟩ | ⟨h5, h3, h4⟩
            · have b1 : ((k : Int) == (a : Int)) = true := by simp; omega
              have b2 : ((j : Int) == (r : Int)) = true := by simp; omega
              clear h3 h4
              go_wp2
              go_roundw
              case rel => exact ⟨j + 1, by omega, by omega, by go_num, by rw [HCC.out]; go_num, HF4.out, HM4.out⟩
              case measure => simp [intOf]; omega
            · have b1 : ((k : Int) == (a : Int)) = false := by simp; omega
              have b2 : ((k : Int) == (ap : Int)) = true := by simp; omega
              have b3 : ((j : Int) == (r : Int) + 16) = true := by simp; omega
              clear h3 h4
              go_wp2
              go_roundw
              case rel => exact ⟨j + 1, by omega, by omega, by go_num, by rw [HCC.out]; go_num, HF4.out, HM4.out⟩
              case measure => simp [intOf]; omega
            · have b1 : ((k : Int) == (a : Int)) = false := by simp; omega
              have b2 : ((k : Int) == (an : Int)) = true := by simp; omega
              have b3 : ((j : Int) == (r : Int) - 16) = true := by simp; omega
              clear h3 h4
              go_wp2
              go_roundw
              case rel => exact ⟨j + 1, by omega, by omega, by go_num, by rw [HCC.out]; go_num, HF4.out, HM4.out⟩
              case measure => simp [intOf]; omega
          · have hcc := HCI.out
            rw [if_neg hO] at hcc ⊢
            have HCC := Lib.hid hcc
            clear hcc HCI
            have hP : (((k : Int) == (a : Int)) = false ∨ (((k : Int) == (a : Int)) = true ∧ ((j : Int) == (r : Int)) = false)) ∧
                ((r < 16 ∧ (((k : Int) == (ap : Int)) = false ∨ (((k : Int) == (ap : Int)) = true ∧ ((j : Int) == (r : Int) + 16) = false))) ∨ (16 ≤ r ∧ r < 24) ∨
                 (24 ≤ r ∧ (((k : Int) == (an : Int)) = false ∨ (((k : Int) == (an : Int)) = true ∧ ((j : Int) == (r : Int) - 16) = false)))) := by
              unfold Own at hO
              simp only [beq_eq_false_iff_ne, beq_iff_eq, ne_eq]
              omega
            clear hO
            obtain ⟨hP1, hP2⟩ := hP
            rcases hP1 with b1 | ⟨b1, b2⟩ <;> rcases hP2 with ⟨h5, b3 | ⟨b3, b4⟩⟩ | ⟨h5, h6⟩ | ⟨h5, b3 | ⟨b3, b4⟩⟩
            all_goals
              go_wp2
              go_roundw
              case rel => exact ⟨j + 1, by omega, by omega, by go_num, by rw [HCC.out], HF4.out, HM4.out⟩
              case measure => simp [intOf]; omega
        · obtain rfl : j = 32 := by omega
          go_wp2
          go_roundw
          case rel => exact ⟨k + 1, by omega, by go_num, by rw [cnt_next _ _ _ _ _ hr8 hr32], HF.out, HM.out⟩
          case measure => simp [intOf]; omega
    · obtain rfl : k = n := by omega
      have hc := HCA.out
      have hP : (r < 16 ∧ cnt a r ap an k 8 = 2) ∨ (16 ≤ r ∧ r < 24 ∧ cnt a r ap an k 8 = 1) ∨ (24 ≤ r ∧ cnt a r ap an k 8 = 2) := by
        by_cases h3 : r < 16
        · rw [if_pos (.inl h3)] at hc; exact .inl ⟨h3, hc⟩
        · by_cases h4 : 24 ≤ r
          · rw [if_pos (.inr h4)] at hc; exact .inr (.inr ⟨h4, hc⟩)
          · rw [if_neg (by omega)] at hc; exact .inr (.inl ⟨by omega, by omega, hc⟩)
      clear hc HCA
      generalize cnt a r ap an k 8 = c at *
      have hb : r < 16 ∨ 16 ≤ r ∧ r < 24 ∨ 24 ≤ r := by omega
      obtain ⟨b24, hb24⟩ : ∃ b24, decide ((r : Int) < 24) = b24 := ⟨_, rfl⟩
      have hb3 : 24 ≤ r → b24 = false := by rintro h; rw [← hb24]; simp; omega
      have hb4 : r < 24 → b24 = true := by rintro h; rw [← hb24]; simp; omega
      rcases hP with ⟨h3, rfl⟩ | ⟨h3, h4, rfl⟩ | ⟨h3, rfl⟩
      rotate_right
      · obtain rfl := hb3 h3
        clear hb3 hb4 hb
        go_wp2_with fail
        refine (set_is p q k (16 * k) a 3 0 y _ _ _ _ _ HF.out han (by omega) (by omega) rfl rfl).mono ?_
        rintro e w5 ⟨rfl, hf5, hm5⟩
        have HM5 := Lib.hid (HM.out.trans' hm5 (fun i hi h => (HN.out i hi h).elim))
        clear hf5 hm5
        go_wp2_with fail
        refine (head_ok _).mono ?_
        rintro e w6 ⟨rfl, hm6⟩
        have HM6 := Lib.hid (HM5.out.trans hm6)
        clear hm6
        go_wp2
        go_ret
        exact ⟨rfl, HM6.out⟩
      all_goals
        obtain rfl := hb4 (by omega)
        clear hb3 hb4 hb
        go_wp2_with fail
        refine (set_is p q k (16 * k) a 3 0 y _ _ _ _ _ HF.out han (by omega) (by omega) rfl rfl).mono ?_
        rintro e w5 ⟨rfl, hf5, hm5⟩
        have HM5 := Lib.hid (HM.out.trans' hm5 (fun i hi h => (HN.out i hi h).elim))
        clear hf5 hm5
        go_wp2_with fail
        refine (head_ok _).mono ?_
        rintro e w6 ⟨rfl, hm6⟩
        have HM6 := Lib.hid (HM5.out.trans hm6)
        clear hm6
        go_wp2
        go_ret
        exact ⟨rfl, HM6.out⟩

end Go.Proofs.Ytjaapempahigaaa
