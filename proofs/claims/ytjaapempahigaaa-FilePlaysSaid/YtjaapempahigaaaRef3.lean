/- The document's file: Get, Window. -/
import Derived.Test.YtjaapempahigaaaRef2
import Derived.Deep.RegionHeld3
namespace Go.Proofs.Ytjaapempahigaaa
open Go.RowKit

/-- A cell of three numbers, as its parts. -/
theorem cellV_def (c : Nat × Nat × Nat) : cellV c = .agg #[.int .i64 c.1, .int .i64 c.2.1, .int .i64 c.2.2] := rfl

set_option maxHeartbeats 1000000 in
theorem refGet_bad (nw : Nat) (a : Option Addr) (n c : Nat) (window bank reg : Int) (w : World) (hn : ¬ Valid nw window bank reg) :
    Calls Try.prog 25 #[.agg #[.int .i64 nw, .slice a n c], .int .i64 window, .int .i64 bank, .int .i64 reg] w
      fun e w' => e = .returned (.tuple #[.int .u32 0, .int .i64 2]) ∧ Mod NoBlk w w' := by
  go_enter Try.func25, Try.ntmps25
  go_wp2_with fail
  refine (refPlace_bad nw a n c window bank reg _ hn).mono ?_
  rintro e w1 ⟨rfl, hm⟩
  have HM := Lib.hid hm
  clear hm
  go_wp2
  go_ret2
  exact ⟨rfl, (((Mod.refl NoBlk w).alloc _).trans HM.out).alloc _⟩

set_option maxHeartbeats 1000000 in
theorem refGet_ok (nw : Nat) (a : Option Addr) (cap : Nat) (L : List ((Nat × Nat × Nat) × Int)) (window bank reg : Nat) (w : World) (hL : RefL w a cap L) (hsmall : L.length ≤ 1000000)
    (hnw : 2 ≤ nw) (h32 : nw ≤ 32) (hw : window < nw) (hb : bank < 17) (hr : reg < 32) :
    Calls Try.prog 25 #[.agg #[.int .i64 nw, .slice a L.length cap], .int .i64 window, .int .i64 bank, .int .i64 reg] w
      fun e w' => e = .returned (.tuple #[.int .u32 (atM L (cellM nw window bank reg)), .int .i64 0]) ∧ Mod NoBlk w w' := by
  obtain ⟨n, hn⟩ : ∃ n, L.length = n := ⟨_, rfl⟩
  have HN := Lib.hid hn
  rw [hn]
  have HS : Hid (L.length ≤ 1000000) := hsmall
  have HL := Lib.hid hL
  clear hn hsmall hL
  go_enter Try.func25, Try.ntmps25
  go_wp2_with fail
  refine (refPlace_ok nw a n cap window bank reg _ hnw h32 hw hb hr).mono ?_
  rintro e w1 ⟨rfl, hm⟩
  rw [cellV_def]
  have HB : Hid (Blk w1 w.heap.size 45 #[.int .i64 nw, .slice a n cap]) := (Blk.new w 45 _).mod hm (fun h => h)
  have HM : Hid (Mod NoBlk w w1) := ((Mod.refl NoBlk w).alloc _).trans hm
  clear hm
  obtain ⟨c, hc⟩ : ∃ c, cellM nw window bank reg = c := ⟨_, rfl⟩
  rw [hc]
  have HC := Lib.hid hc
  clear hc
  have hb0 := HB.out.cell 0
  have hb1 := HB.out.cell 1
  simp only [List.getElem?_toArray, List.getElem?_cons_zero, List.getElem?_cons_succ] at hb0 hb1
  have hl0 := HB.out.lt
  generalize w.heap.size = g0 at *
  go_wp2_with fail
  rw [← HN.out, ← cellV_def c]
  refine (refAt_ok nw a cap L c _ (HL.out.mod ?_) HS.out).mono ?_
  · exact HM.out.alloc _
  rintro e w2 ⟨rfl, hm2⟩
  have HM2 : Hid (Mod NoBlk w w2) := (HM.out.alloc _).trans hm2
  clear hm2
  go_wp2
  go_ret2
  exact ⟨by rw [HC.out]; rfl, HM2.out⟩

theorem refGet_is (nw : Nat) (a : Option Addr) (n cap : Nat) (L : List ((Nat × Nat × Nat) × Int)) (window bank reg : Nat) (w : World) (hn : L.length = n) (hL : RefL w a cap L) (hsmall : L.length ≤ 1000000)
    (hnw : 2 ≤ nw) (h32 : nw ≤ 32) (hw : window < nw) (hb : bank < 17) (hr : reg < 32) :
    Calls Try.prog 25 #[.agg #[.int .i64 nw, .slice a n cap], .int .i64 window, .int .i64 bank, .int .i64 reg] w
      fun e w' => e = .returned (.tuple #[.int .u32 (atM L (cellM nw window bank reg)), .int .i64 0]) ∧ Mod NoBlk w w' := by
  subst hn
  exact refGet_ok nw a cap L window bank reg w hL hsmall hnw h32 hw hb hr

set_option maxHeartbeats 1000000 in
theorem refWindow_bad (nw : Nat) (a : Option Addr) (n c : Nat) (window : Int) (w : World) (hn : ¬ (0 ≤ window ∧ window < nw)) :
    Calls Try.prog 47 #[.agg #[.int .i64 nw, .slice a n c], .int .i64 window] w
      fun e w' => e = .returned (.tuple #[.slice none 0 0, .int .i64 2]) ∧ Mod NoBlk w w' := by
  have hv : ¬ Valid nw window 0 16 := fun h => hn ⟨h.1, h.2.1⟩
  clear hn
  go_enter Try.func47, Try.ntmps47
  go_wp2
  go_loopw [7] (fun i wr => i = .int .i64 16 ∧ wr = w.alloc (.cells #[.int .i64 nw, .slice a n c] 45)) (fun i _ => (32 - intOf i).toNat)
  case atStart => exact ⟨rfl, rfl⟩
  case round =>
    obtain ⟨rfl, rfl⟩ := hrel
    go_wp2_with fail
    refine (refGet_bad nw a n c window 0 16 _ hv).mono ?_
    rintro e w1 ⟨rfl, hm⟩
    have HM : Hid (Mod NoBlk w w1) := ((Mod.refl NoBlk w).alloc _).trans hm
    clear hm
    go_wp2
    go_ret2
    exact ⟨rfl, HM.out⟩

def refWords (L : List ((Nat × Nat × Nat) × Int)) (nw window k : Nat) : List Value := (List.range k).map fun i => .int .u32 (atM L (cellM nw window 0 (16 + i)))
theorem refWords_succ (L : List ((Nat × Nat × Nat) × Int)) (nw window k : Nat) : refWords L nw window (k + 1) = refWords L nw window k ++ [.int .u32 (atM L (cellM nw window 0 (16 + k)))] := by
  simp [refWords, List.range_succ]

set_option maxRecDepth 100000 in
set_option maxHeartbeats 1000000 in
theorem refWindow_ok (nw : Nat) (a : Option Addr) (cap : Nat) (L : List ((Nat × Nat × Nat) × Int)) (window : Nat) (w : World) (hL : RefL w a cap L) (hsmall : L.length ≤ 1000000)
    (hnw : 2 ≤ nw) (h32 : nw ≤ 32) (hw : window < nw) :
    Calls Try.prog 47 #[.agg #[.int .i64 nw, .slice a L.length cap], .int .i64 window] w
      fun e w' => ∃ g c, e = .returned (.tuple #[.slice (some ⟨g, 0, none⟩) 16 c, .int .i64 0]) ∧ WordsAt w' g 16 (fun i => atM L (cellM nw window 0 (16 + i))) ∧ Mod NoBlk w w' := by
  obtain ⟨i0, hi, hz0, hz1, hz2⟩ := info_parts info22
  have HI : Hid (Try.prog.info? 22 = some i0) := hi
  have HZ0 : Hid (i0.zero = some (.int .u32 0)) := hz0
  have HZ1 : Hid (i0.size = 1) := hz1
  have HZ2 : Hid (i0.bytes = 4) := hz2
  clear hi hz0 hz1 hz2
  obtain ⟨n, hn⟩ : ∃ n, L.length = n := ⟨_, rfl⟩
  have HN := Lib.hid hn
  rw [hn]
  have HS : Hid (L.length ≤ 1000000) := hsmall
  have HL := Lib.hid hL
  clear hn hsmall hL
  obtain ⟨g0, hg0⟩ : ∃ g0, w.heap.size = g0 := ⟨_, rfl⟩
  have HG0 := Lib.hid hg0
  clear hg0
  go_enter Try.func47, Try.ntmps47
  go_wp2
  have HB0 : Hid (Blk (w.alloc (.cells #[.int .i64 nw, .slice a n cap] 45)) w.heap.size 45 #[.int .i64 nw, .slice a n cap]) := Blk.new w 45 _
  have HM0 : Hid (Mod NoBlk w (w.alloc (.cells #[.int .i64 nw, .slice a n cap] 45))) := (Mod.refl NoBlk w).alloc _
  generalize w.alloc (.cells #[.int .i64 nw, .slice a n cap] 45) = W at *
  rw [HG0.out] at HB0 ⊢
  obtain ⟨B, hB0⟩ : ∃ B, W.heap.size = B := ⟨_, rfl⟩
  have HBW := Lib.hid hB0
  clear hB0
  go_loopw [6, 7] (fun v i wr => ∃ k : Nat, k ≤ 16 ∧ i = .int .i64 (16 + (k : Int)) ∧ wr.ownsRow B 22 1 v k (refWords L nw window k) ∧ Mod NoBlk W wr) (fun _ i _ => (32 - intOf i).toNat)
  case atStart => exact ⟨0, by omega, rfl, World.ownsRow_nil _ _ _ _, Mod.refl _ _⟩
  case round =>
    obtain ⟨k, hk, rfl, hown, hm⟩ := hrel
    have HO := Lib.hid hown
    have HM := Lib.hid hm
    clear hown hm
    by_cases hlt : k < 16
    · have hB := HB0.out.mod HM.out (fun h => h)
      have hb0 := hB.cell 0
      have hb1 := hB.cell 1
      have hl0 := hB.lt
      simp only [List.getElem?_toArray, List.getElem?_cons_zero, List.getElem?_cons_succ] at hb0 hb1
      clear hB
      go_wp2_with fail
      rw [show (16 : Int) + (k : Int) = ((16 + k : Nat) : Int) from by omega]
      refine (refGet_is nw a n cap L window 0 (16 + k) _ HN.out ((HL.out.mod HM0.out).mod HM.out) HS.out hnw h32 hw (by omega) (by omega)).mono ?_
      rintro e w1 ⟨rfl, hm1⟩
      have hws := refWords_succ L nw window k
      generalize atM L (cellM nw window 0 (16 + k)) = y at *
      have HWS := Lib.hid hws
      clear hws hb0 hb1 hl0
      have hO1 : w1.ownsRow B 22 1 u6 k (refWords L nw window k) := by
        obtain ⟨hl, hv⟩ := HO.out
        refine ⟨hl, ?_⟩
        rcases hv with hv | ⟨g, c, cur, hv, hb, hg, hr⟩
        · exact .inl hv
        · exact .inr ⟨g, c, cur, hv, hb, (show Blk wr g 22 cur from hg).mod hm1 (fun h => h), hr⟩
      have HO1 := Lib.hid hO1
      have HM1 := Lib.hid (HM.out.trans hm1)
      have hsz : B ≤ w1.heap.size := by have := HM1.out.size; have := HBW.out; omega
      clear hO1 hm1 HO HM
      go_wp2_with (at_builtin; go_must (refine wpList_append_lies _ rfl _ _ 35 rfl B 22 i0 (.int .u32 0) 1 4 Try.underlying35 HI.out HZ0.out HZ1.out HZ2.out rfl (by decide) u6 k (refWords L nw window k) rfl (HO1.out.alloc _) ⟨w1.heap.size, 0, none⟩ 1 1 [_] rfl rfl (cell_one_new _ _ _) (by simp [Value.oneCell']) (by omega) (by unfold maxLen; omega) (by omega) (by simp; omega) _ rfl ?_); intro g c w2 hown hgrow _ _; have hown' := Lib.hid hown; have hgrow' := Lib.hid hgrow; clear hown hgrow)
      go_roundw
      case rel => exact ⟨k + 1, by omega, by first | go_num | (congr 1; omega), by rw [HWS.out]; exact hown'.out, (HM1.out.alloc _).grown hgrow'.out (fun j e hj => by have := (HO1.out.lt j e).1; have := HBW.out; omega)⟩
      case measure => simp [intOf]; omega
    · obtain rfl : k = 16 := by omega
      obtain ⟨g, c, rfl, hg, hglt⟩ := HO.out.form (by omega)
      go_wp2
      go_ret2
      refine ⟨g, c, rfl, ?_, HM0.out.trans HM.out⟩
      obtain ⟨_, hv⟩ := HO.out
      rcases hv with ⟨hv, _⟩ | ⟨g', c', cur, hv, hbg, hgb, hle, hmx, hsz, htk⟩
      · cases hv
      · cases hv
        refine ⟨cur, hgb, by omega, fun i hi => ?_⟩
        have e : (refWords L nw window 16)[i]? = some (.int .u32 (atM L (cellM nw window 0 (16 + i)))) := by simp [refWords, hi]
        rw [← htk, List.getElem?_take_of_lt (by omega), Array.getElem?_toList] at e
        exact e

end Go.Proofs.Ytjaapempahigaaa
