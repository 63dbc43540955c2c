/- The law's own 'same': a file has what the document's has. -/
import Derived.Test.YtjaapempahigaaaRel
namespace Go.Proofs.Ytjaapempahigaaa
open Go.RowKit

theorem nw_ok' (p q nw cap : Nat) (A G : Nat → Int) (w : World) (hf : FileAt w p q nw cap A G) :
    Calls Try.prog 20 #[.pointer (some ⟨p, 0, none⟩)] w fun e w' => e = .returned (.int .i64 nw) ∧ w' = w :=
  (nw_ok p q nw cap A G w hf).mono fun _ _ ⟨he, hw⟩ => ⟨he, hw.symm⟩

theorem refWindow_is (nw : Nat) (a : Option Addr) (n cap : Nat) (L : List ((Nat × Nat × Nat) × Int)) (window : Nat) (w : World) (hF : RefF w a n cap L) (hsmall : n ≤ 1000000)
    (hnw : 2 ≤ nw) (h32 : nw ≤ 32) (hw : window < nw) :
    Calls Try.prog 47 #[.agg #[.int .i64 nw, .slice a n cap], .int .i64 window] w
      fun e w' => ∃ g c, e = .returned (.tuple #[.slice (some ⟨g, 0, none⟩) 16 c, .int .i64 0]) ∧ WordsAt w' g 16 (fun i => atM L (cellM nw window 0 (16 + i))) ∧ Mod NoBlk w w' := by
  obtain ⟨rfl, hL, _⟩ := hF
  exact refWindow_ok nw a cap L window w hL hsmall hnw h32 hw

theorem refGet_f (nw : Nat) (a : Option Addr) (n cap : Nat) (L : List ((Nat × Nat × Nat) × Int)) (window bank reg : Int) (wi b r : Nat) (w : World) (hF : RefF w a n cap L) (hsmall : n ≤ 1000000)
    (hnw : 2 ≤ nw) (h32 : nw ≤ 32) (ew : window = wi) (eb : bank = b) (er : reg = r) (hw : wi < nw) (hb : b < 17) (hr : r < 32) :
    Calls Try.prog 25 #[.agg #[.int .i64 nw, .slice a n cap], .int .i64 window, .int .i64 bank, .int .i64 reg] w
      fun e w' => e = .returned (.tuple #[.int .u32 (atM L (cellM nw wi b r)), .int .i64 0]) ∧ Mod NoBlk w w' := by
  subst ew eb er
  exact refGet_is nw a n cap L wi b r w hF.1 hF.2.1 (by rw [hF.1]; exact hsmall) hnw h32 hw hb hr

theorem get_f (p q nw cap : Nat) (window bank reg : Int) (wi b r : Nat) (A G : Nat → Int) (L : List ((Nat × Nat × Nat) × Int)) (w : World) (hf : FileAt w p q nw cap A G) (hR : Rel nw A G L)
    (ew : window = wi) (eb : bank = b) (er : reg = r) (hw : wi < nw) (hb : b < 17) (hr : r < 32) :
    Calls Try.prog 14 #[.pointer (some ⟨p, 0, none⟩), .int .i64 window, .int .i64 bank, .int .i64 reg] w
      fun e w' => e = .returned (.tuple #[.int .u32 (atM L (cellM nw wi b r)), .int .i64 0]) ∧ Mod NoBlk w w' := by
  subst ew eb er
  exact (get_is p q nw cap wi b r _ A G w hf hw hb hr (hR.get hw hb hr)).mono fun _ _ ⟨he, _, hm⟩ => ⟨he, hm⟩

set_option maxRecDepth 100000 in
set_option maxHeartbeats 4000000 in
theorem same_ok (p q nw cap : Nat) (A G : Nat → Int) (a : Option Addr) (n c : Nat) (L : List ((Nat × Nat × Nat) × Int)) (w : World) (hf : FileAt w p q nw cap A G) (hF : RefF w a n c L) (hR : Rel nw A G L) (hsmall : n ≤ 1000000) :
    Calls Try.prog 26 #[.pointer (some ⟨p, 0, none⟩), .agg #[.int .i64 nw, .slice a n c]] w
      fun e w' => e = .returned (.bool true) ∧ Mod NoBlk w w' := by
  have hnw := hf.n2
  have h32 := hf.n32
  have HF := Lib.hid hf
  have HR := Lib.hid hF
  have HL := Lib.hid hR
  clear hf hF hR
  have hnn : ((nw : Int) != (nw : Int)) = false := by simp
  go_enter Try.func26, Try.ntmps26
  go_wp2
  have hm1 : Mod NoBlk w (w.alloc (.cells #[.int .i64 nw, .slice a n c] 45)) := (Mod.refl NoBlk w).alloc _
  have hB := Blk.new w 45 #[.int .i64 nw, .slice a n c]
  generalize w.alloc (.cells #[.int .i64 nw, .slice a n c] 45) = W at *
  generalize w.heap.size = g0 at *
  have hf1 := HF.out.mod hm1 (fun h => h) (fun h => h)
  have q0 := hB.cell 0
  simp only [List.getElem?_toArray, List.getElem?_cons_zero] at q0
  have HM1 := Lib.hid hm1
  have HB := Lib.hid hB
  have HF1 := Lib.hid hf1
  clear hm1 hB hf1
  go_quiet ((go_at_call 20; exact Calls.quiet_of_same (nw_ok' p q nw cap A G _ (HF1.out.drewN _))))
  have hmW := HM1.out.drewN nq
  have hBW := HB.out.drewN nq
  generalize W.drewN nq = W1 at *
  have HMW := Lib.hid hmW
  have HBW := Lib.hid hBW
  clear hmW hBW HM1 HB HF1 q0
  have q0 := HBW.out.cell 0
  simp only [List.getElem?_toArray, List.getElem?_cons_zero] at q0
  go_wp2
  go_loopw [5] (fun i wr => ∃ k : Nat, k ≤ nw ∧ i = .int .i64 k ∧ Blk wr g0 45 #[.int .i64 nw, .slice a n c] ∧ Mod NoBlk w wr) (fun i _ => (nw - intOf i).toNat)
  case atStart => exact ⟨0, Nat.zero_le _, rfl, HBW.out, HMW.out⟩
  case round =>
    clear HMW HBW q0
    obtain ⟨k, hk, rfl, hB, hm⟩ := hrel
    have q0 := hB.cell 0
    have q1 := hB.cell 1
    simp only [List.getElem?_toArray, List.getElem?_cons_zero, List.getElem?_cons_succ] at q0 q1
    have l0 := hB.lt
    have HB := Lib.hid hB
    have HM := Lib.hid hm
    clear hB hm
    by_cases hlt : k < nw
    · go_wp2_with fail
      refine (window_ok p q nw cap k A G _ (HF.out.mod HM.out (fun h => h) (fun h => h)) hlt).mono ?_
      rintro e w1 ⟨g1, rfl, hg1, hw1, hm1⟩
      have HW1 : Hid (WordsAt w1 g1 16 (fun i => atM L (cellM nw k 0 (16 + i)))) := hw1.congr fun i hi => HL.out.window hlt hi
      have HB1 := Lib.hid (HB.out.mod hm1 (fun h => h))
      have HM1 := Lib.hid (HM.out.trans hm1)
      clear hw1 hm1 hg1 HB HM q0 q1 l0
      have q0 := HB1.out.cell 0
      have q1 := HB1.out.cell 1
      simp only [List.getElem?_toArray, List.getElem?_cons_zero, List.getElem?_cons_succ] at q0 q1
      have l0 := HB1.out.lt
      go_wp2_with fail
      refine (refWindow_is nw a n c L k _ (HR.out.mod HM1.out) hsmall hnw h32 hlt).mono ?_
      rintro e w2 ⟨g2, c2, rfl, hw2, hm2⟩
      have HW2 := Lib.hid hw2
      have HW1' := Lib.hid (HW1.out.mod hm2 (fun h => h))
      have HB2 := Lib.hid (HB1.out.mod hm2 (fun h => h))
      have HM2 := Lib.hid (HM1.out.trans hm2)
      clear hw2 hm2 HB1 HM1 HW1 q0 q1 l0
      go_wp2_with fail
      refine (same_yes 16 g1 16 g2 c2 _ _ (by omega) HW1'.out HW2.out).mono ?_
      rintro e w3 ⟨rfl, hm3⟩
      have HB3 := Lib.hid (HB2.out.mod hm3 (fun h => h))
      have HM3 := Lib.hid (HM2.out.trans hm3)
      clear hm3 HB2 HM2 HW1' HW2
      obtain ⟨wo, hwo⟩ : ∃ wo : World, wo = w3 := ⟨_, rfl⟩
      rw [← hwo] at HB3 HM3 ⊢
      clear hwo
      go_wp2
      go_loopw [10] (fun i wi => ∃ r : Nat, 8 ≤ r ∧ r ≤ 16 ∧ i = .int .i64 r ∧ Blk wi g0 45 #[.int .i64 nw, .slice a n c] ∧ Mod NoBlk w wi) (fun i _ => (16 - intOf i).toNat)
      case atStart => exact ⟨8, by omega, by omega, rfl, HB3.out, HM3.out⟩
      case round =>
        clear HB3 HM3
        obtain ⟨r, hr8, hr16, rfl, hB, hm⟩ := hrel
        have HB := Lib.hid hB
        have HM := Lib.hid hm
        clear hB hm
        by_cases hlt2 : r < 16
        · go_wp2_with fail
          refine (get_f p q nw cap _ _ _ k 0 r A G L _ (HF.out.mod HM.out (fun h => h) (fun h => h)) HL.out rfl rfl rfl hlt (by omega) (by omega)).mono ?_
          rintro e w4 ⟨rfl, hm4⟩
          have HB4 := Lib.hid (HB.out.mod hm4 (fun h => h))
          have HM4 := Lib.hid (HM.out.trans hm4)
          clear hm4 HB HM
          have q0 := HB4.out.cell 0
          have q1 := HB4.out.cell 1
          simp only [List.getElem?_toArray, List.getElem?_cons_zero, List.getElem?_cons_succ] at q0 q1
          have l0 := HB4.out.lt
          go_wp2_with fail
          refine (refGet_f nw a n c L _ _ _ k 0 r _ (HR.out.mod HM4.out) hsmall hnw h32 rfl rfl rfl hlt (by omega) (by omega)).mono ?_
          rintro e w5 ⟨rfl, hm5⟩
          have HB5 := Lib.hid (HB4.out.mod hm5 (fun h => h))
          have HM5 := Lib.hid (HM4.out.trans hm5)
          clear hm5 HB4 HM4 q0 q1 l0
          generalize atM L (cellM nw k 0 r) = y at *
          have hyy : (y != y) = false := by simp
          go_wp2
          go_roundw
          case rel => exact ⟨r + 1, by omega, by omega, by go_num, HB5.out, HM5.out⟩
          case measure => simp [intOf]; omega
        · obtain rfl : r = 16 := by omega
          go_wp2
          go_roundw
          case rel => exact ⟨k + 1, by omega, by go_num, HB.out, HM.out⟩
          case measure => simp [intOf]; omega
    · obtain rfl : k = nw := by omega
      go_wp2
      go_loopw [15] (fun i wr => ∃ b : Nat, b ≤ 17 ∧ i = .int .i64 b ∧ Blk wr g0 45 #[.int .i64 k, .slice a n c] ∧ Mod NoBlk w wr) (fun i _ => (17 - intOf i).toNat)
      case atStart => exact ⟨0, by omega, rfl, HB.out, HM.out⟩
      case round =>
        clear HB HM q0 q1 l0
        obtain ⟨b, hb, rfl, hB, hm⟩ := hrel
        have HB := Lib.hid hB
        have HM := Lib.hid hm
        clear hB hm
        by_cases hlt2 : b < 17
        · obtain ⟨wo, hwo⟩ : ∃ wo : World, wo = wr := ⟨_, rfl⟩
          rw [← hwo] at HB HM ⊢
          clear hwo
          have hdb : decide ((b : Int) < 17) = true := by simp; omega
          go_wp2
          clear hdb
          go_loopw [16] (fun i wi => ∃ r : Nat, r ≤ 8 ∧ i = .int .i64 r ∧ Blk wi g0 45 #[.int .i64 k, .slice a n c] ∧ Mod NoBlk w wi) (fun i _ => (8 - intOf i).toNat)
          case atStart => exact ⟨0, by omega, rfl, HB.out, HM.out⟩
          case round =>
            clear HB HM
            obtain ⟨r, hr8, rfl, hB, hm⟩ := hrel
            have HB := Lib.hid hB
            have HM := Lib.hid hm
            clear hB hm
            by_cases hlt3 : r < 8
            · go_wp2_with fail
              refine (get_f p q k cap _ _ _ 0 b r A G L _ (HF.out.mod HM.out (fun h => h) (fun h => h)) HL.out rfl rfl rfl (by omega) (by omega) (by omega)).mono ?_
              rintro e w4 ⟨rfl, hm4⟩
              have HB4 := Lib.hid (HB.out.mod hm4 (fun h => h))
              have HM4 := Lib.hid (HM.out.trans hm4)
              clear hm4 HB HM
              have q0 := HB4.out.cell 0
              have q1 := HB4.out.cell 1
              simp only [List.getElem?_toArray, List.getElem?_cons_zero, List.getElem?_cons_succ] at q0 q1
              have l0 := HB4.out.lt
              go_wp2_with fail
              refine (refGet_f k a n c L _ _ _ 0 b r _ (HR.out.mod HM4.out) hsmall hnw h32 rfl rfl rfl (by omega) (by omega) (by omega)).mono ?_
              rintro e w5 ⟨rfl, hm5⟩
              have HB5 := Lib.hid (HB4.out.mod hm5 (fun h => h))
              have HM5 := Lib.hid (HM4.out.trans hm5)
              clear hm5 HB4 HM4 q0 q1 l0
              generalize atM L (cellM k 0 b r) = y at *
              have hyy : (y != y) = false := by simp
              go_wp2
              go_roundw
              case rel => exact ⟨r + 1, by omega, by go_num, HB5.out, HM5.out⟩
              case measure => simp [intOf]; omega
            · obtain rfl : r = 8 := by omega
              go_wp2
              go_roundw
              case rel => exact ⟨b + 1, by omega, by go_num, HB.out, HM.out⟩
              case measure => simp [intOf]; omega
        · obtain rfl : b = 17 := by omega
          go_wp2
          go_ret
          exact ⟨rfl, HM.out⟩

end Go.Proofs.Ytjaapempahigaaa
