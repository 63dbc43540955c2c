/- The register file's Get, Set, NW. -/
import Derived.Test.YtjaapempahigaaaFile1
namespace Go.Proofs.Ytjaapempahigaaa
open Go.RowKit

/-- Where a register of a window lies among the windows' words. -/
def slot (nw window reg : Nat) : Nat := if reg < 16 then 16 * ((window + nw - 1) % nw) + reg else 16 * window + reg - 16
def getV (A G : Nat → Int) (nw window bank reg : Nat) : Int := if reg = 0 then 0 else if reg < 8 then G (bank * 8 + reg) else A (slot nw window reg)
def afA (A : Nat → Int) (nw window reg : Nat) (x : Int) : Nat → Int := if reg < 8 then A else upd A (slot nw window reg) x
def afG (G : Nat → Int) (bank reg : Nat) (x : Int) : Nat → Int := if reg = 0 then G else if reg < 8 then upd G (bank * 8 + reg) x else G

theorem slot_lt {nw window reg : Nat} (hw : window < nw) (hr : reg < 32) : slot nw window reg < 16 * nw := by
  unfold slot
  by_cases h : reg < 16
  · rw [if_pos h]
    have := Nat.mod_lt (window + nw - 1) (show 0 < nw by omega)
    generalize (window + nw - 1) % nw = k at *
    omega
  · rw [if_neg h]; omega

theorem loc_hi {p q nw window bank reg : Nat} (h : 8 ≤ reg) : loc p q nw window bank reg = ⟨q, slot nw window reg, none⟩ := by
  unfold loc slot
  rw [if_neg (by omega)]
  by_cases h : reg < 16
  · rw [if_pos h, if_pos h]
  · rw [if_neg h, if_neg h]
theorem loc_lo {p q nw window bank reg : Nat} (h : reg < 8) : loc p q nw window bank reg = ⟨p, 2 + (bank * 8 + reg), none⟩ := by
  unfold loc
  rw [if_pos h]

section
variable {w : World} {p q nw cap : Nat} {A G : Nat → Int}
theorem FileAt.cellLoc (h : FileAt w p q nw cap A G) {window bank reg : Nat} (hw : window < nw) (hb : bank < 17) (h0 : reg ≠ 0) (hr : reg < 32) :
    w.cell? (loc p q nw window bank reg) = some (.int .u32 (getV A G nw window bank reg)) := by
  unfold getV
  rw [if_neg h0]
  by_cases h8 : reg < 8
  · rw [loc_lo h8, if_pos h8]; exact h.cg _ (by omega)
  · rw [loc_hi (by omega), if_neg h8]; exact h.cw _ (slot_lt hw hr)
theorem FileAt.frozenLoc (h : FileAt w p q nw cap A G) (window bank reg : Nat) : w.frozen? (loc p q nw window bank reg) = false := by
  by_cases h8 : reg < 8
  · rw [loc_lo h8]; exact h.fp _
  · rw [loc_hi (by omega)]; exact h.fq _
theorem FileAt.setLoc (h : FileAt w p q nw cap A G) {window bank reg : Nat} (hw : window < nw) (hb : bank < 17) (h0 : reg ≠ 0) (hr : reg < 32) (x : Int) :
    FileAt (w.setCell (loc p q nw window bank reg) (.int .u32 x)) p q nw cap (afA A nw window reg x) (afG G bank reg x) := by
  unfold afA afG
  rw [if_neg h0]
  by_cases h8 : reg < 8
  · rw [loc_lo h8, if_pos h8, if_pos h8]; exact h.setG _ (by omega) x
  · rw [loc_hi (by omega), if_neg h8, if_neg h8]; exact h.setA _ (slot_lt hw hr) x
end
theorem loc_block (p q nw window bank reg : Nat) : (loc p q nw window bank reg).block = p ∨ (loc p q nw window bank reg).block = q := by
  by_cases h8 : reg < 8
  · rw [loc_lo h8]; exact .inl rfl
  · rw [loc_hi (by omega)]; exact .inr rfl

set_option maxHeartbeats 400000 in
theorem get_ok (p q nw cap window bank reg : Nat) (A G : Nat → Int) (w : World) (hf : FileAt w p q nw cap A G) (hw : window < nw) (hb : bank < 17) (hr : reg < 32) :
    Calls Try.prog 14 #[.pointer (some ⟨p, 0, none⟩), .int .i64 window, .int .i64 bank, .int .i64 reg] w
      fun e w' => e = .returned (.tuple #[.int .u32 (getV A G nw window bank reg), .int .i64 0]) ∧ ∃ n, w' = w.drewN n := by
  by_cases h0 : reg = 0
  · subst h0
    go_enter Try.func14, Try.ntmps14
    go_wp2_with (go_at_call 42; refine (at_ok p q nw cap window bank 0 A G _ hf hw hb (by omega)).mono ?_; rintro e w' ⟨rfl, n, rfl⟩)
    go_ret2
    exact ⟨by simp [getV], n, rfl⟩
  · have hc := hf.cellLoc hw hb h0 hr
    have hi : ((reg : Int) == 0) = false := by simp; omega
    generalize getV A G nw window bank reg = x at *
    have HF := Lib.hid hf
    clear hf
    go_enter Try.func14, Try.ntmps14
    go_wp2_with (go_at_call 42; refine (at_ok p q nw cap window bank reg A G _ HF.out hw hb hr).mono ?_; rintro e w' ⟨rfl, n, rfl⟩)
    go_ret2
    exact ⟨rfl, n, rfl⟩

set_option maxHeartbeats 400000 in
theorem get_bad (p q nw cap : Nat) (window bank reg : Int) (A G : Nat → Int) (w : World) (hf : FileAt w p q nw cap A G) (hn : ¬ Valid nw window bank reg) :
    Calls Try.prog 14 #[.pointer (some ⟨p, 0, none⟩), .int .i64 window, .int .i64 bank, .int .i64 reg] w
      fun e w' => e = .returned (.tuple #[.int .u32 0, .int .i64 2]) ∧ w = w' := by
  go_enter Try.func14, Try.ntmps14
  go_wp2_with (go_at_call 42; refine (at_bad p q nw cap window bank reg _ A G _ hf hn).mono ?_; rintro e w' ⟨rfl, rfl⟩)
  go_ret2
  exact ⟨rfl, rfl⟩

set_option maxHeartbeats 400000 in
theorem get_none (a : Option Addr) (window bank reg : Int) (w : World) (h : NoFile w a) :
    Calls Try.prog 14 #[.pointer a, .int .i64 window, .int .i64 bank, .int .i64 reg] w
      fun e w' => e = .returned (.tuple #[.int .u32 0, .int .i64 1]) ∧ w = w' := by
  go_enter Try.func14, Try.ntmps14
  go_wp2_with (go_at_call 42; refine (at_none a window bank reg _ _ h).mono ?_; rintro e w' ⟨rfl, rfl⟩)
  go_ret2
  exact ⟨rfl, rfl⟩

set_option maxHeartbeats 400000 in
theorem set_ok (p q nw cap window bank reg : Nat) (x : Int) (A G : Nat → Int) (w : World) (hf : FileAt w p q nw cap A G) (hw : window < nw) (hb : bank < 17) (hr : reg < 32) :
    Calls Try.prog 13 #[.pointer (some ⟨p, 0, none⟩), .int .i64 window, .int .i64 bank, .int .i64 reg, .int .u32 x] w
      fun e w' => e = .returned (.int .i64 0) ∧ FileAt w' p q nw cap (afA A nw window reg x) (afG G bank reg x) ∧ Mod (fun k => k = p ∨ k = q) w w' := by
  by_cases h0 : reg = 0
  · subst h0
    go_enter Try.func13, Try.ntmps13
    go_wp2_with (go_at_call 42; refine (at_ok p q nw cap window bank 0 A G _ hf hw hb (by omega)).mono ?_; rintro e w' ⟨rfl, n, rfl⟩)
    go_ret
    exact ⟨rfl, by simpa [afA, afG] using hf.drewN n, (Mod.refl _ _).drewN n⟩
  · have hc := hf.cellLoc hw hb h0 hr
    have hz := hf.frozenLoc window bank reg
    have hi : (0 : Int) < (reg : Int) := by omega
    have hs := fun n => (hf.drewN n).setLoc hw hb h0 hr x
    have hbl := loc_block p q nw window bank reg
    have HS := Lib.hid hs
    have HB := Lib.hid hbl
    generalize getV A G nw window bank reg = y at *
    generalize afA A nw window reg x = A' at *
    generalize afG G bank reg x = G' at *
    have HF := Lib.hid hf
    clear hf hs hbl
    go_enter Try.func13, Try.ntmps13
    go_wp2_with (go_at_call 42; refine (at_ok p q nw cap window bank reg A G _ HF.out hw hb hr).mono ?_; rintro e w' ⟨rfl, n, rfl⟩)
    go_ret
    exact ⟨rfl, HS.out n, ((Mod.refl _ w).drewN n).setCell (fun _ => HB.out) _⟩

set_option maxHeartbeats 400000 in
theorem set_bad (p q nw cap : Nat) (window bank reg x : Int) (A G : Nat → Int) (w : World) (hf : FileAt w p q nw cap A G) (hn : ¬ Valid nw window bank reg) :
    Calls Try.prog 13 #[.pointer (some ⟨p, 0, none⟩), .int .i64 window, .int .i64 bank, .int .i64 reg, .int .u32 x] w
      fun e w' => e = .returned (.int .i64 2) ∧ w = w' := by
  go_enter Try.func13, Try.ntmps13
  go_wp2_with (go_at_call 42; refine (at_bad p q nw cap window bank reg _ A G _ hf hn).mono ?_; rintro e w' ⟨rfl, rfl⟩)
  go_ret
  exact ⟨rfl, rfl⟩

set_option maxHeartbeats 400000 in
theorem set_none (a : Option Addr) (window bank reg x : Int) (w : World) (h : NoFile w a) :
    Calls Try.prog 13 #[.pointer a, .int .i64 window, .int .i64 bank, .int .i64 reg, .int .u32 x] w
      fun e w' => e = .returned (.int .i64 1) ∧ w = w' := by
  go_enter Try.func13, Try.ntmps13
  go_wp2_with (go_at_call 42; refine (at_none a window bank reg _ _ h).mono ?_; rintro e w' ⟨rfl, rfl⟩)
  go_ret
  exact ⟨rfl, rfl⟩

set_option maxHeartbeats 400000 in
theorem nw_ok (p q nw cap : Nat) (A G : Nat → Int) (w : World) (hf : FileAt w p q nw cap A G) :
    Calls Try.prog 20 #[.pointer (some ⟨p, 0, none⟩)] w fun e w' => e = .returned (.int .i64 nw) ∧ w = w' := by
  have h2 := hf.n2
  have hc0 := hf.c0
  clear hf
  go_enter Try.func20, Try.ntmps20
  go_wp2_with (go_at_call 44; refine (none_yes _ _ _ (by omega) hc0).mono ?_; rintro e w' ⟨rfl, rfl⟩)
  go_ret
  exact ⟨rfl, rfl⟩

set_option maxHeartbeats 400000 in
theorem nw_none (a : Option Addr) (w : World) (h : NoFile w a) :
    Calls Try.prog 20 #[.pointer a] w fun e w' => e = .returned (.int .i64 0) ∧ w = w' := by
  go_enter Try.func20, Try.ntmps20
  go_wp2_with (go_at_call 44; refine (none_none _ _ h).mono ?_; rintro e w' ⟨rfl, rfl⟩)
  go_ret
  exact ⟨rfl, rfl⟩

end Go.Proofs.Ytjaapempahigaaa
