/- FileTurns: the walk. -/
import Derived.Test.YtjaapempahigaaaFile8
namespace Go.Proofs.Ytjaapempahigaaa
open Go.RowKit

/-- The word that window i starts with. -/
def turnV (x : Int) (i : Nat) : Int := (x + i * 1000) % 4294967296
/-- What the windows hold when the first k have been put. -/
def turnsA (x : Int) (k : Nat) : Nat → Int := fun j => if j < 16 * k then wordV (turnV x (j / 16)) (j % 16) else 0

theorem turnsA_zero (x : Int) : turnsA x 0 = zeroF := by
  funext j; unfold turnsA zeroF; rw [if_neg (by omega)]
theorem turnsA_put (x : Int) (k : Nat) : putA (turnsA x k) k (wordV (turnV x k)) = turnsA x (k + 1) := by
  funext j
  unfold putA turnsA
  by_cases h : 16 * k ≤ j ∧ j < 16 * k + 16
  · have e1 : j / 16 = k := by omega
    have e2 : j - 16 * k = j % 16 := by omega
    rw [if_pos h, if_pos (by omega), e1, e2]
  · rw [if_neg h]
    by_cases h2 : j < 16 * k
    · rw [if_pos h2, if_pos (by omega)]
    · rw [if_neg h2, if_neg (by omega)]
theorem turnsA_at (x : Int) (n k r : Nat) (hk : k < n) (hr : r < 16) : turnsA x n (16 * k + r) = wordV (turnV x k) r := by
  unfold turnsA
  have e1 : (16 * k + r) / 16 = k := by omega
  have e2 : (16 * k + r) % 16 = r := by omega
  rw [if_pos (by omega), e1, e2]
theorem turns_get (x : Int) (n k r : Nat) (hn : 2 ≤ n) (hk : k < n) (hr : r < 8) (G : Nat → Int) :
    getV (turnsA x n) G n ((k + 1) % n) 9 (8 + r) = wordV (turnV x k) (8 + r) := by
  unfold getV slot
  rw [if_neg (by omega), if_neg (by omega), if_pos (by omega)]
  have e : ((k + 1) % n + n - 1) % n = k := by
    by_cases h : k + 1 = n
    · rw [h, Nat.mod_self, Nat.zero_add, Nat.mod_eq_of_lt (by omega)]; omega
    · rw [Nat.mod_eq_of_lt (show k + 1 < n by omega), show k + 1 + n - 1 = k + n from by omega, Nat.add_mod_right, Nat.mod_eq_of_lt hk]
  rw [e]
  exact turnsA_at x n k (8 + r) hk (by omega)

set_option maxRecDepth 100000 in
set_option maxHeartbeats 2000000 in
theorem fileTurns_walk (a0 x : Int) (w : World) (h0 : 0 ≤ a0) (h1 : a0 ≤ 255) :
    Calls Try.prog 4 #[.int .u8 a0, .int .u32 x] w fun e w' => e = .returned (.bool true) ∧ Mod NoBlk w w' := by
  obtain ⟨n, hn⟩ : ∃ n : Nat, 2 + a0 % 31 = (n : Int) := ⟨(2 + a0 % 31).toNat, by omega⟩
  have hn2 : 2 ≤ n := by omega
  have hn32 : n ≤ 32 := by omega
  obtain ⟨p, hp⟩ : ∃ p, w.heap.size + 1 = p := ⟨_, rfl⟩
  obtain ⟨q, hq⟩ : ∃ q, w.heap.size = q := ⟨_, rfl⟩
  have HN : Hid (∀ k, k < w.heap.size → ¬ (k = p ∨ k = q)) := by intro k hk; omega
  have HP := Lib.hid hp
  have HQ := Lib.hid hq
  clear hp hq
  go_enter Try.func4, Try.ntmps4
  go_wp2_with fail
  refine (new_ok n _ hn2 hn32).mono ?_
  rintro e w0 ⟨rfl, hf0, hm0⟩
  rw [HP.out, HQ.out] at hf0
  rw [HP.out]
  have HF0 := Lib.hid hf0
  have HM0 := Lib.hid hm0
  clear hf0 hm0 hn
  go_wp2
  go_loopw [8] (fun i wr => ∃ k : Nat, k ≤ n ∧ i = .int .i64 k ∧ FileAt wr p q n (16 * n) (turnsA x k) zeroF ∧ Mod NoBlk w wr) (fun i _ => n - (intOf i).toNat)
  case atStart => exact ⟨0, Nat.zero_le _, rfl, by rw [turnsA_zero]; exact HF0.out, HM0.out⟩
  case round =>
    obtain ⟨k, hk, rfl, hf, hm⟩ := hrel
    have HF := Lib.hid hf
    have HM := Lib.hid hm
    clear hf hm
    by_cases hlt : k < n
    · go_wp2_with fail
      refine (words_ok (turnV x k) 16 _ (by omega) (by omega)).mono ?_
      rintro e w1 ⟨g, c, rfl, hg, hl, hm1⟩
      have HL := Lib.hid hl
      have HM1 := Lib.hid hm1
      have hf1 := Lib.hid (HF.out.mod hm1 (fun h => h) (fun h => h))
      clear hl hm1
      go_wp2_with fail
      refine (put_ok p q n (16 * n) k g c _ _ _ _ hf1.out hlt HL.out).mono ?_
      rintro e w2 ⟨rfl, hf2, hm2⟩
      rw [turnsA_put] at hf2
      have HF2 := Lib.hid hf2
      have HM2 : Hid (Mod NoBlk w w2) := (HM.out.trans HM1.out).trans' hm2 (fun i hi h => (HN.out i hi (.inr h)).elim)
      clear hf2 hm2
      go_wp2
      go_roundw
      case rel => exact ⟨k + 1, by omega, by go_num, HF2.out, HM2.out⟩
      case measure => simp [intOf]; omega
    · obtain rfl : k = n := by omega
      go_wp2
      go_loopw [9] (fun i wr => ∃ j : Nat, j ≤ k ∧ i = .int .i64 j ∧ FileAt wr p q k (16 * k) (turnsA x k) zeroF ∧ Mod NoBlk w wr) (fun i _ => k - (intOf i).toNat)
      case atStart => exact ⟨0, Nat.zero_le _, rfl, HF.out, HM.out⟩
      case round =>
        clear HF HM
        obtain ⟨j, hj, rfl, hf, hm⟩ := hrel
        have HF := Lib.hid hf
        have HM := Lib.hid hm
        clear hf hm
        by_cases hlt2 : j < k
        · go_wp2_with fail
          refine (window_ok p q k (16 * k) j _ _ _ HF.out hlt2).mono ?_
          rintro e w1 ⟨g, rfl, hg, hl, hm1⟩
          have HL : Hid (WordsAt w1 g 16 (wordV (turnV x j))) := hl.congr fun i hi => turnsA_at x k j i hlt2 hi
          have HF1 := Lib.hid (HF.out.mod hm1 (fun h => h) (fun h => h))
          have HM1 := Lib.hid (HM.out.trans hm1)
          clear hl hm1 HF HM
          go_wp2_with fail
          refine (words_ok (turnV x j) 16 _ (by omega) (by omega)).mono ?_
          rintro e w2 ⟨g2, c2, rfl, hg2, hl2, hm2⟩
          have HL2 := Lib.hid hl2
          have HL1 := Lib.hid (HL.out.mod hm2 (fun h => h))
          have HF2 := Lib.hid (HF1.out.mod hm2 (fun h => h) (fun h => h))
          have HM2 := Lib.hid (HM1.out.trans hm2)
          clear hl2 hm2 HL HF1 HM1
          go_wp2_with fail
          refine (same_yes 16 g 16 g2 c2 _ _ (by omega) HL1.out HL2.out).mono ?_
          rintro e w3 ⟨rfl, hm3⟩
          have HL3 := Lib.hid (HL1.out.mod hm3 (fun h => h))
          have HF3 := Lib.hid (HF2.out.mod hm3 (fun h => h) (fun h => h))
          have HM3 := Lib.hid (HM2.out.trans hm3)
          clear hm3 HL1 HL2 HF2 HM2 hg hg2
          obtain ⟨wo, hwo⟩ : ∃ wo : World, wo = w3 := ⟨_, rfl⟩
          rw [← hwo] at HL3 HF3 HM3 ⊢
          clear hwo
          go_wp2
          go_loopw [12] (fun i wi => ∃ r : Nat, r ≤ 8 ∧ i = .int .i64 r ∧ FileAt wi p q k (16 * k) (turnsA x k) zeroF ∧ WordsAt wi g 16 (wordV (turnV x j)) ∧ Mod NoBlk w wi) (fun i _ => 8 - (intOf i).toNat)
          case atStart => exact ⟨0, by omega, rfl, HF3.out, HL3.out, HM3.out⟩
          case round =>
            clear HF3 HL3 HM3
            obtain ⟨r, hr, rfl, hf, hl, hm⟩ := hrel
            have HF := Lib.hid hf
            have HL := Lib.hid hl
            have HM := Lib.hid hm
            clear hf hl hm
            by_cases hlt3 : r < 8
            · go_wp2_with fail
              rw [show ((j : Int) + 1) % (k : Int) = (((j + 1) % k : Nat) : Int) from by rw [Int.natCast_emod]; rfl, show (8 : Int) + (r : Int) = ((8 + r : Nat) : Int) from by omega]
              refine (get_is p q k (16 * k) ((j + 1) % k) 9 (8 + r) _ _ _ _ HF.out (Nat.mod_lt _ (by omega)) (by omega) (by omega) (turns_get x k j r hn2 hlt2 hlt3 zeroF)).mono ?_
              rintro e w4 ⟨rfl, hf4, hm4⟩
              have hl4 := HL.out.mod hm4 (fun h => h)
              have hc4 := hl4.cell (8 + r) (by omega)
              have HF4 := Lib.hid hf4
              have HL4 := Lib.hid hl4
              have HM4 := Lib.hid (HM.out.trans hm4)
              clear hf4 hl4 hm4 HF HL HM
              generalize wordV (turnV x j) (8 + r) = y at *
              have hyy : (y != y) = false := by simp
              go_wp2
              go_roundw
              case rel => exact ⟨r + 1, by omega, by go_num, HF4.out, HL4.out, HM4.out⟩
              case measure => simp [intOf]; omega
            · obtain rfl : r = 8 := by omega
              go_wp2
              go_roundw
              case rel => exact ⟨j + 1, by omega, by go_num, HF.out, HM.out⟩
              case measure => simp [intOf]; omega
        · obtain rfl : j = k := by omega
          go_wp2_with fail
          refine (words_ok x 16 _ (by omega) (by omega)).mono ?_
          rintro e w1 ⟨g, c, rfl, hg, hl, hm1⟩
          have HF1 := Lib.hid (HF.out.mod hm1 (fun h => h) (fun h => h))
          have HM1 := Lib.hid (HM.out.trans hm1)
          clear hl hm1 HF HM hg
          go_wp2_with fail
          refine (put_bad p q j (16 * j) j _ _ _ _ HF1.out (by omega)).mono ?_
          rintro e w2 ⟨rfl, h12⟩
          subst h12
          go_wp2_with fail
          refine (nw_ok p q j (16 * j) _ _ _ HF1.out).mono ?_
          rintro e w2 ⟨rfl, h12⟩
          subst h12
          have hjj : ((j : Int) == (j : Int)) = true := by simp
          go_wp2_with fail
          refine (head_ok _).mono ?_
          rintro e w2 ⟨rfl, hm2⟩
          have HM2 := Lib.hid (HM1.out.trans hm2)
          clear hm2
          go_wp2
          go_ret
          exact ⟨rfl, HM2.out⟩

end Go.Proofs.Ytjaapempahigaaa
