/- The document's file (a list of all that was set): New, Place. -/
import Derived.Test.YtjaapempahigaaaFile8
namespace Go.Proofs.Ytjaapempahigaaa
open Go.RowKit

/-- A register's place in the document's words: kind, of, at. -/
def cellM (nw window bank reg : Nat) : Nat × Nat × Nat :=
  if reg < 8 then (0, bank, reg) else if reg < 16 then (2, (window + nw - 1) % nw, reg - 8) else if reg < 24 then (1, window, reg - 16) else (2, window, reg - 24)
def cellV (c : Nat × Nat × Nat) : Value := .agg #[.int .i64 c.1, .int .i64 c.2.1, .int .i64 c.2.2]

set_option maxHeartbeats 400000 in
theorem refNew_ok (nw : Nat) (w : World) (h2 : 2 ≤ nw) (hm : nw ≤ 32) :
    Calls Try.prog 21 #[.int .i64 nw] w fun e w' => e = .returned (.tuple #[.agg #[.int .i64 nw, .slice none 0 0], .int .i64 0]) ∧ Mod NoBlk w w' := by
  go_enter Try.func21, Try.ntmps21
  go_wp2
  refine bodyPost_ret (v := .tuple #[.agg #[.int .i64 nw, .slice none 0 0], .int .i64 0]) (by simp [results, Try.results21, go_sem]) rfl ⟨rfl, (Mod.refl _ w).alloc _⟩

set_option maxHeartbeats 400000 in
theorem refNew_bad (n : Int) (w : World) (h : n < 2 ∨ 32 < n) :
    Calls Try.prog 21 #[.int .i64 n] w fun e w' => e = .returned (.tuple #[.agg #[.int .i64 0, .slice none 0 0], .int .i64 2]) ∧ Mod NoBlk w w' := by
  by_cases h2 : n < 2
  · clear h
    go_enter Try.func21, Try.ntmps21
    go_wp2
    refine bodyPost_ret (v := .tuple #[.agg #[.int .i64 0, .slice none 0 0], .int .i64 2]) (by simp [results, Try.results21, go_sem]) rfl ⟨rfl, (Mod.refl _ w).alloc _⟩
  · have h3 : 32 < n := by omega
    clear h
    go_enter Try.func21, Try.ntmps21
    go_wp2
    refine bodyPost_ret (v := .tuple #[.agg #[.int .i64 0, .slice none 0 0], .int .i64 2]) (by simp [results, Try.results21, go_sem]) rfl ⟨rfl, (Mod.refl _ w).alloc _⟩

theorem mod2 (w : World) (o o' : Obj) : Mod NoBlk w ((w.alloc o).alloc o') := ((Mod.refl _ w).alloc _).alloc _

set_option maxHeartbeats 1000000 in
theorem refPlace_bad (nw : Nat) (a : Option Addr) (n c : Nat) (window bank reg : Int) (w : World) (hn : ¬ Valid nw window bank reg) :
    Calls Try.prog 45 #[.agg #[.int .i64 nw, .slice a n c], .int .i64 window, .int .i64 bank, .int .i64 reg] w
      fun e w' => e = .returned (.tuple #[.agg #[.int .i64 0, .int .i64 0, .int .i64 0], .int .i64 2]) ∧ Mod NoBlk w w' := by
  unfold Valid at hn
  have hcases : window < 0 ∨ (0 ≤ window ∧ (nw : Int) ≤ window) ∨ (0 ≤ window ∧ window < nw ∧ bank < 0) ∨ (0 ≤ window ∧ window < nw ∧ 0 ≤ bank ∧ 17 ≤ bank) ∨
      (0 ≤ window ∧ window < nw ∧ 0 ≤ bank ∧ bank < 17 ∧ reg < 0) ∨ (0 ≤ window ∧ window < nw ∧ 0 ≤ bank ∧ bank < 17 ∧ 0 ≤ reg ∧ 32 ≤ reg) := by omega
  clear hn
  rcases hcases with h | ⟨h, h'⟩ | ⟨h, h', h''⟩ | ⟨h, h', h'', h3⟩ | ⟨h, h', h'', h3, h4⟩ | ⟨h, h', h'', h3, h4, h5⟩
  all_goals
    go_enter Try.func45, Try.ntmps45
    go_wp2
    refine bodyPost_ret (v := .tuple #[.agg #[.int .i64 0, .int .i64 0, .int .i64 0], .int .i64 2]) (by simp [results, Try.results45, go_sem]) rfl ⟨rfl, mod2 w _ _⟩

set_option maxHeartbeats 1000000 in
theorem refPlace_ok (nw : Nat) (a : Option Addr) (n c : Nat) (window bank reg : Nat) (w : World) (hnw : 2 ≤ nw) (h32 : nw ≤ 32) (hw : window < nw) (hb : bank < 17) (hr : reg < 32) :
    Calls Try.prog 45 #[.agg #[.int .i64 nw, .slice a n c], .int .i64 window, .int .i64 bank, .int .i64 reg] w
      fun e w' => e = .returned (.tuple #[cellV (cellM nw window bank reg), .int .i64 0]) ∧ Mod NoBlk w w' := by
  by_cases hr8 : reg < 8
  · go_enter Try.func45, Try.ntmps45
    go_wp2
    refine bodyPost_ret (v := .tuple #[.agg #[.int .i64 0, .int .i64 bank, .int .i64 reg], .int .i64 0]) (by simp [results, Try.results45, go_sem]) rfl ⟨by simp [cellV, cellM, hr8], mod2 w _ _⟩
  · by_cases hr16 : reg < 16
    · obtain ⟨k, hk⟩ : ∃ k, (window + nw - 1) % nw = k := ⟨_, rfl⟩
      have hkl : k < nw := by rw [← hk]; exact Nat.mod_lt _ (by omega)
      have e1 : ((window : Int) + (nw : Int) - 1) % (nw : Int) = (k : Int) := by rw [← hk, Int.natCast_emod]; congr 1; omega
      have e2 : (reg : Int) - 8 = ((reg - 8 : Nat) : Int) := by omega
      have HK := Lib.hid hk
      clear hk
      go_enter Try.func45, Try.ntmps45
      go_wp2
      refine bodyPost_ret (v := .tuple #[.agg #[.int .i64 2, .int .i64 k, .int .i64 ((reg - 8 : Nat) : Int)], .int .i64 0]) (by simp [results, Try.results45, go_sem]) rfl ⟨by simp [cellV, cellM, hr8, hr16, HK.out], mod2 w _ _⟩
    · by_cases hr24 : reg < 24
      · have e2 : (reg : Int) - 16 = ((reg - 16 : Nat) : Int) := by omega
        go_enter Try.func45, Try.ntmps45
        go_wp2
        refine bodyPost_ret (v := .tuple #[.agg #[.int .i64 1, .int .i64 window, .int .i64 ((reg - 16 : Nat) : Int)], .int .i64 0]) (by simp [results, Try.results45, go_sem]) rfl ⟨by simp [cellV, cellM, hr8, hr16, hr24], mod2 w _ _⟩
      · have e2 : (reg : Int) - 24 = ((reg - 24 : Nat) : Int) := by omega
        go_enter Try.func45, Try.ntmps45
        go_wp2
        refine bodyPost_ret (v := .tuple #[.agg #[.int .i64 2, .int .i64 window, .int .i64 ((reg - 24 : Nat) : Int)], .int .i64 0]) (by simp [results, Try.results45, go_sem]) rfl ⟨by simp [cellV, cellM, hr8, hr16, hr24], mod2 w _ _⟩

end Go.Proofs.Ytjaapempahigaaa
