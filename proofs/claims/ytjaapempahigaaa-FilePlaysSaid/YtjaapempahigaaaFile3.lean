/- The register file's New; and Window, Put, Copy where they answer an error. -/
import Derived.Test.YtjaapempahigaaaFile2
import Derived.Deep.OwnRows
namespace Go.Proofs.Ytjaapempahigaaa
open Go.RowKit
theorem info22 : (Try.prog.info? 22).map (fun i => (i.zero, i.size, i.bytes)) = some (some (.int .u32 0), 1, 4) := by kernel_rfl
theorem zero58 : Try.zeroCells58 = #[.int .i64 0, .slice none 0 0] ++ Array.replicate 136 (.int .u32 0) := by kernel_rfl

def zeroF : Nat → Int := fun _ => 0

theorem zero58_size : Try.zeroCells58.size = 138 := by rw [zero58]; simp
theorem zero58_at (i : Nat) (hi : i < 136) : Try.zeroCells58[2 + i]? = some (.int .u32 0) := by
  rw [zero58, Array.getElem?_append_right (by simp)]
  have e : 2 + i - (#[Value.int .i64 0, Value.slice none 0 0] : Array Value).size = i := by simp
  rw [e, Array.getElem?_replicate, if_pos hi]

theorem madeCells_at (z : Value) (n i : Nat) (hi : i < n) : (madeCells #[z] n)[i]? = some z := by
  have e : i % 1 = 0 := Nat.mod_one i
  simp [madeCells, hi, e]

theorem fileAt_new (w : World) (nw : Nat) (h2 : 2 ≤ nw) (hm : nw ≤ 32) :
    FileAt ((w.alloc (.cells (madeCells #[.int .u32 0] (16 * nw)) 22)).alloc (.cells ((Try.zeroCells58.setIfInBounds 0 (.int .i64 nw)).setIfInBounds 1 (.slice (some ⟨w.heap.size, 0, none⟩) (16 * nw) (16 * nw))) 58))
      (w.heap.size + 1) w.heap.size nw (16 * nw) zeroF zeroF := by
  have hz := zero58_size
  refine ⟨h2, hm, Nat.le_refl _, by omega, ⟨(Try.zeroCells58.setIfInBounds 0 (.int .i64 nw)).setIfInBounds 1 (.slice (some ⟨w.heap.size, 0, none⟩) (16 * nw) (16 * nw)), ?_, by simp [hz], ?_, ?_, ?_⟩, ⟨_, (Blk.new w 22 _).alloc _, by simp [madeCells], fun i hi => madeCells_at _ _ _ hi⟩⟩
  · have := Blk.new (w.alloc (.cells (madeCells #[.int .u32 0] (16 * nw)) 22)) 58 ((Try.zeroCells58.setIfInBounds 0 (.int .i64 nw)).setIfInBounds 1 (.slice (some ⟨w.heap.size, 0, none⟩) (16 * nw) (16 * nw)))
    simpa using this
  · rw [Array.getElem?_setIfInBounds_ne (by omega), Array.getElem?_setIfInBounds_self_of_lt (by omega)]
  · rw [Array.getElem?_setIfInBounds_self_of_lt (by simp)]
  · intro i hi
    rw [Array.getElem?_setIfInBounds_ne (by omega), Array.getElem?_setIfInBounds_ne (by omega)]
    exact zero58_at i hi

set_option maxRecDepth 100000 in
set_option maxHeartbeats 400000 in
theorem new_ok (nw : Nat) (w : World) (h2 : 2 ≤ nw) (hm : nw ≤ 32) :
    Calls Try.prog 12 #[.int .i64 nw] w fun e w' => e = .returned (.tuple #[.pointer (some ⟨w.heap.size + 1, 0, none⟩), .int .i64 0]) ∧ FileAt w' (w.heap.size + 1) w.heap.size nw (16 * nw) zeroF zeroF ∧ Mod NoBlk w w' := by
  have hmk := fun W => Go.run_make_row' (P := Try.prog) 35 22 (.int .u32 0) 4 Try.underlying35 info22 rfl .i64 .i64 (16 * nw) (by omega) (by omega) W
  rw [show ((16 * nw : Nat) : Int) = 16 * (nw : Int) from by omega] at hmk
  have HF := Lib.hid (fileAt_new w nw h2 hm)
  generalize madeCells #[Value.int .u32 0] (16 * nw) = mc at *
  go_enter Try.func12, Try.ntmps12
  go_wp2
  go_ret2
  exact ⟨rfl, HF.out, ((Mod.refl _ w).alloc _).alloc _⟩

set_option maxHeartbeats 400000 in
theorem new_bad (n : Int) (w : World) (h : n < 2 ∨ 32 < n) :
    Calls Try.prog 12 #[.int .i64 n] w fun e w' => e = .returned (.tuple #[.pointer none, .int .i64 2]) ∧ w = w' := by
  by_cases h2 : n < 2
  · clear h
    go_enter Try.func12, Try.ntmps12
    go_wp2
    go_ret2
    exact ⟨rfl, rfl⟩
  · have h3 : 32 < n := by omega
    clear h
    go_enter Try.func12, Try.ntmps12
    go_wp2
    go_ret2
    exact ⟨rfl, rfl⟩

set_option maxHeartbeats 400000 in
theorem window_bad (p q nw cap : Nat) (window : Int) (A G : Nat → Int) (w : World) (hf : FileAt w p q nw cap A G) (hn : ¬ (0 ≤ window ∧ window < nw)) :
    Calls Try.prog 18 #[.pointer (some ⟨p, 0, none⟩), .int .i64 window] w fun e w' => e = .returned (.tuple #[.slice none 0 0, .int .i64 2]) ∧ w = w' := by
  have hv : ¬ Valid nw window 0 0 := fun h => hn ⟨h.1, h.2.1⟩
  clear hn
  go_enter Try.func18, Try.ntmps18
  go_wp2_with (go_at_call 42; refine (at_bad p q nw cap window 0 0 _ A G _ hf hv).mono ?_; rintro e w' ⟨rfl, rfl⟩)
  go_ret2
  exact ⟨rfl, rfl⟩

set_option maxHeartbeats 400000 in
theorem window_none (a : Option Addr) (window : Int) (w : World) (h : NoFile w a) :
    Calls Try.prog 18 #[.pointer a, .int .i64 window] w fun e w' => e = .returned (.tuple #[.slice none 0 0, .int .i64 1]) ∧ w = w' := by
  go_enter Try.func18, Try.ntmps18
  go_wp2_with (go_at_call 42; refine (at_none a window 0 0 _ _ h).mono ?_; rintro e w' ⟨rfl, rfl⟩)
  go_ret2
  exact ⟨rfl, rfl⟩

set_option maxHeartbeats 400000 in
theorem put_bad (p q nw cap : Nat) (window : Int) (A G : Nat → Int) (v : Value) (w : World) (hf : FileAt w p q nw cap A G) (hn : ¬ (0 ≤ window ∧ window < nw)) :
    Calls Try.prog 16 #[.pointer (some ⟨p, 0, none⟩), .int .i64 window, v] w fun e w' => e = .returned (.int .i64 2) ∧ w = w' := by
  have hv : ¬ Valid nw window 0 0 := fun h => hn ⟨h.1, h.2.1⟩
  clear hn
  go_enter Try.func16, Try.ntmps16
  go_wp2_with (go_at_call 42; refine (at_bad p q nw cap window 0 0 _ A G _ hf hv).mono ?_; rintro e w' ⟨rfl, rfl⟩)
  go_ret
  exact ⟨rfl, rfl⟩

set_option maxHeartbeats 400000 in
theorem put_none (a : Option Addr) (window : Int) (v : Value) (w : World) (h : NoFile w a) :
    Calls Try.prog 16 #[.pointer a, .int .i64 window, v] w fun e w' => e = .returned (.int .i64 1) ∧ w = w' := by
  go_enter Try.func16, Try.ntmps16
  go_wp2_with (go_at_call 42; refine (at_none a window 0 0 _ _ h).mono ?_; rintro e w' ⟨rfl, rfl⟩)
  go_ret
  exact ⟨rfl, rfl⟩

set_option maxHeartbeats 400000 in
theorem put_len (p q nw cap window : Nat) (A G : Nat → Int) (a : Option Addr) (n c : Nat) (w : World) (hf : FileAt w p q nw cap A G) (hw : window < nw) (hn : ((n : Int) != 16) = true) :
    Calls Try.prog 16 #[.pointer (some ⟨p, 0, none⟩), .int .i64 window, .slice a n c] w fun e w' => e = .returned (.int .i64 2) ∧ ∃ n, w' = w.drewN n := by
  go_enter Try.func16, Try.ntmps16
  go_wp2_with (go_at_call 42; refine (at_ok p q nw cap window 0 0 A G _ hf hw (by omega) (by omega)).mono ?_; rintro e w' ⟨rfl, m, rfl⟩)
  go_ret
  exact ⟨rfl, m, rfl⟩

set_option maxHeartbeats 400000 in
theorem copy_none (a : Option Addr) (w : World) (h : NoFile w a) :
    Calls Try.prog 22 #[.pointer a] w fun e w' => e = .returned (.pointer none) ∧ w = w' := by
  go_enter Try.func22, Try.ntmps22
  go_wp2_with (go_at_call 44; refine (none_none _ _ h).mono ?_; rintro e w' ⟨rfl, rfl⟩)
  go_ret
  exact ⟨rfl, rfl⟩

end Go.Proofs.Ytjaapempahigaaa
