/- The document's own example of a register file: head answers true. -/
import Derived.Test.YtjaapempahigaaaFile7
namespace Go.Proofs.Ytjaapempahigaaa
open Go.RowKit

theorem get_is (p q nw cap window bank reg : Nat) (x : Int) (A G : Nat → Int) (w : World) (hf : FileAt w p q nw cap A G) (hw : window < nw) (hb : bank < 17) (hr : reg < 32) (hx : getV A G nw window bank reg = x) :
    Calls Try.prog 14 #[.pointer (some ⟨p, 0, none⟩), .int .i64 window, .int .i64 bank, .int .i64 reg] w
      fun e w' => e = .returned (.tuple #[.int .u32 x, .int .i64 0]) ∧ FileAt w' p q nw cap A G ∧ Mod NoBlk w w' :=
  (get_ok p q nw cap window bank reg A G w hf hw hb hr).mono fun _ _ ⟨he, n, hn⟩ => ⟨by rw [← hx]; exact he, by rw [hn]; exact hf.drewN n, by rw [hn]; exact (Mod.refl _ w).drewN n⟩

theorem set_is (p q nw cap window bank reg : Nat) (x : Int) (A G A' G' : Nat → Int) (w : World) (hf : FileAt w p q nw cap A G) (hw : window < nw) (hb : bank < 17) (hr : reg < 32) (hA : afA A nw window reg x = A') (hG : afG G bank reg x = G') :
    Calls Try.prog 13 #[.pointer (some ⟨p, 0, none⟩), .int .i64 window, .int .i64 bank, .int .i64 reg, .int .u32 x] w
      fun e w' => e = .returned (.int .i64 0) ∧ FileAt w' p q nw cap A' G' ∧ Mod (fun k => k = p ∨ k = q) w w' :=
  (set_ok p q nw cap window bank reg x A G w hf hw hb hr).mono fun _ _ ⟨he, h1, h2⟩ => ⟨he, by rw [← hA, ← hG]; exact h1, h2⟩

namespace Head
def A1 : Nat → Int := afA zeroF 3 1 8 7
def G1 : Nat → Int := afG zeroF 0 8 7
def A2 : Nat → Int := afA A1 3 0 9 9
def G2 : Nat → Int := afG G1 0 9 9
def A3 : Nat → Int := afA A2 3 0 1 3
def G3 : Nat → Int := afG G2 4 1 3
def A4 : Nat → Int := afA A3 3 0 0 5
def G4 : Nat → Int := afG G3 0 0 5
end Head
open Head

set_option maxHeartbeats 1000000 in
theorem head_ok (w : World) : Calls Try.prog 15 #[] w fun e w' => e = .returned (.bool true) ∧ Mod NoBlk w w' := by
  go_enter Try.func15, Try.ntmps15
  go_wp2_with fail
  refine (new_ok 3 _ (by omega) (by omega)).mono ?_
  rintro e w0 ⟨rfl, hf0, hm0⟩
  obtain ⟨p, hp⟩ : ∃ p, p = w.heap.size + 1 := ⟨_, rfl⟩
  obtain ⟨q, hq⟩ : ∃ q, q = w.heap.size := ⟨_, rfl⟩
  have HN : Hid (∀ k, k < w.heap.size → ¬ (k = p ∨ k = q)) := by intro k hk; omega
  rw [← hp, ← hq] at hf0
  rw [← hp]
  clear hp hq
  have HM0 := Lib.hid hm0
  clear hm0
  go_wp2_with fail
  refine (set_is p q 3 48 1 0 8 7 zeroF zeroF A1 G1 _ hf0 (by omega) (by omega) (by omega) rfl rfl).mono ?_
  rintro e w1 ⟨rfl, hf1, hm1⟩
  have HM1 := HM0.out.trans' hm1 (fun i hi h => (HN.out i hi h).elim)
  replace HM1 := Lib.hid HM1
  clear hf0 HM0 hm1
  go_wp2_with fail
  refine (set_is p q 3 48 0 0 9 9 A1 G1 A2 G2 _ hf1 (by omega) (by omega) (by omega) rfl rfl).mono ?_
  rintro e w2 ⟨rfl, hf2, hm2⟩
  have HM2 := HM1.out.trans' hm2 (fun i hi h => (HN.out i hi h).elim)
  replace HM2 := Lib.hid HM2
  clear hf1 HM1 hm2
  go_wp2_with fail
  refine (set_is p q 3 48 0 4 1 3 A2 G2 A3 G3 _ hf2 (by omega) (by omega) (by omega) rfl rfl).mono ?_
  rintro e w3 ⟨rfl, hf3, hm3⟩
  have HM3 := HM2.out.trans' hm3 (fun i hi h => (HN.out i hi h).elim)
  replace HM3 := Lib.hid HM3
  clear hf2 HM2 hm3
  go_wp2_with fail
  refine (set_is p q 3 48 0 0 0 5 A3 G3 A4 G4 _ hf3 (by omega) (by omega) (by omega) rfl rfl).mono ?_
  rintro e w4 ⟨rfl, hf4, hm4⟩
  have HM4 := HM3.out.trans' hm4 (fun i hi h => (HN.out i hi h).elim)
  replace HM4 := Lib.hid HM4
  clear hf3 HM3 hm4
  go_wp2_with fail
  refine (get_is p q 3 48 0 5 24 7 A4 G4 _ hf4 (by omega) (by omega) (by omega) rfl).mono ?_
  rintro e w5 ⟨rfl, hf5, hm5⟩
  have HM5 := HM4.out.trans hm5
  replace HM5 := Lib.hid HM5
  clear hf4 HM4 hm5
  go_wp2_with fail
  refine (get_is p q 3 48 2 0 24 0 A4 G4 _ hf5 (by omega) (by omega) (by omega) rfl).mono ?_
  rintro e w6 ⟨rfl, hf6, hm6⟩
  have HM6 := HM5.out.trans hm6
  replace HM6 := Lib.hid HM6
  clear hf5 HM5 hm6
  go_wp2_with fail
  refine (get_is p q 3 48 2 0 25 9 A4 G4 _ hf6 (by omega) (by omega) (by omega) rfl).mono ?_
  rintro e w7 ⟨rfl, hf7, hm7⟩
  have HM7 := HM6.out.trans hm7
  replace HM7 := Lib.hid HM7
  clear hf6 HM6 hm7
  go_wp2_with fail
  refine (get_is p q 3 48 2 4 1 3 A4 G4 _ hf7 (by omega) (by omega) (by omega) rfl).mono ?_
  rintro e w8 ⟨rfl, hf8, hm8⟩
  have HM8 := HM7.out.trans hm8
  replace HM8 := Lib.hid HM8
  clear hf7 HM7 hm8
  go_wp2_with fail
  refine (get_is p q 3 48 0 5 1 0 A4 G4 _ hf8 (by omega) (by omega) (by omega) rfl).mono ?_
  rintro e w9 ⟨rfl, hf9, hm9⟩
  have HM9 := HM8.out.trans hm9
  replace HM9 := Lib.hid HM9
  clear hf8 HM8 hm9
  go_wp2_with fail
  refine (get_is p q 3 48 0 0 0 0 A4 G4 _ hf9 (by omega) (by omega) (by omega) rfl).mono ?_
  rintro e w10 ⟨rfl, hf10, hm10⟩
  have HM10 := HM9.out.trans hm10
  replace HM10 := Lib.hid HM10
  clear hf9 HM9 hm10
  go_wp2_with fail
  refine (get_bad p q 3 48 3 0 1 A4 G4 _ hf10 (by unfold Valid; omega)).mono ?_
  rintro e w11 ⟨rfl, h11⟩
  subst h11
  go_wp2_with fail
  refine (get_bad p q 3 48 0 17 1 A4 G4 _ hf10 (by unfold Valid; omega)).mono ?_
  rintro e w11 ⟨rfl, h11⟩
  subst h11
  go_wp2_with fail
  refine (get_bad p q 3 48 0 0 32 A4 G4 _ hf10 (by unfold Valid; omega)).mono ?_
  rintro e w11 ⟨rfl, h11⟩
  subst h11
  go_wp2
  go_ret
  exact ⟨rfl, HM10.out⟩

end Go.Proofs.Ytjaapempahigaaa
