/- The register file's inner functions: none, place, at. -/
import Derived.Test.YtjaapempahigaaaBase
import Derived.Lib.Hide
namespace Go.Proofs.Ytjaapempahigaaa
open Go.RowKit

/-- A file at block p: nw windows, whose words A lie in block q; banks G. -/
structure FileAt (w : World) (p q nw cap : Nat) (A G : Nat → Int) : Prop where
  n2 : 2 ≤ nw
  n32 : nw ≤ 32
  hcap : 16 * nw ≤ cap
  hcapm : cap ≤ 9223372036854775807
  bp : ∃ cs, Blk w p 58 cs ∧ cs.size = 138 ∧ cs[0]? = some (.int .i64 nw) ∧ cs[1]? = some (.slice (some ⟨q, 0, none⟩) (16 * nw) cap) ∧ ∀ i, i < 136 → cs[2 + i]? = some (.int .u32 (G i))
  bq : ∃ cs, Blk w q 22 cs ∧ cs.size = cap ∧ ∀ i, i < 16 * nw → cs[i]? = some (.int .u32 (A i))

section
variable {w w' : World} {p q nw cap : Nat} {A G : Nat → Int}
theorem FileAt.c0 (h : FileAt w p q nw cap A G) : w.cell? ⟨p, 0, none⟩ = some (.int .i64 nw) := by
  obtain ⟨cs, hb, _, h0, _⟩ := h.bp
  rw [hb.cell]; exact h0
theorem FileAt.c1 (h : FileAt w p q nw cap A G) : w.cell? ⟨p, 1, none⟩ = some (.slice (some ⟨q, 0, none⟩) (16 * nw) cap) := by
  obtain ⟨cs, hb, _, _, h1, _⟩ := h.bp
  rw [hb.cell]; exact h1
theorem FileAt.cg (h : FileAt w p q nw cap A G) (i : Nat) (hi : i < 136) : w.cell? ⟨p, 2 + i, none⟩ = some (.int .u32 (G i)) := by
  obtain ⟨cs, hb, _, _, _, hg⟩ := h.bp
  rw [hb.cell]; exact hg i hi
theorem FileAt.cw (h : FileAt w p q nw cap A G) (i : Nat) (hi : i < 16 * nw) : w.cell? ⟨q, i, none⟩ = some (.int .u32 (A i)) := by
  obtain ⟨cs, hb, _, hg⟩ := h.bq
  rw [hb.cell]; exact hg i hi
theorem FileAt.fp (h : FileAt w p q nw cap A G) (i : Nat) : w.frozen? ⟨p, i, none⟩ = false := by
  obtain ⟨cs, hb, _⟩ := h.bp
  exact hb.frozen i
theorem FileAt.fq (h : FileAt w p q nw cap A G) (i : Nat) : w.frozen? ⟨q, i, none⟩ = false := by
  obtain ⟨cs, hb, _⟩ := h.bq
  exact hb.frozen i
theorem FileAt.ne (h : FileAt w p q nw cap A G) : p ≠ q := by
  rintro rfl
  obtain ⟨cs, hb, _⟩ := h.bp
  obtain ⟨cs', hb', _⟩ := h.bq
  have := (hb.uniq hb').1
  exact absurd this (by decide)
theorem FileAt.lp (h : FileAt w p q nw cap A G) : p < w.heap.size := by
  obtain ⟨cs, hb, _⟩ := h.bp
  exact hb.lt
theorem FileAt.lq (h : FileAt w p q nw cap A G) : q < w.heap.size := by
  obtain ⟨cs, hb, _⟩ := h.bq
  exact hb.lt
theorem FileAt.mod (h : FileAt w p q nw cap A G) {S : Nat → Prop} (hm : Mod S w w') (h1 : ¬ S p) (h2 : ¬ S q) : FileAt w' p q nw cap A G := by
  obtain ⟨a, b, c, d, ⟨cs, hb, hr⟩, ⟨cs', hb', hr'⟩⟩ := h
  exact ⟨a, b, c, d, ⟨cs, hb.mod hm h1, hr⟩, ⟨cs', hb'.mod hm h2, hr'⟩⟩
theorem FileAt.drewN (h : FileAt w p q nw cap A G) (n : Nat) : FileAt (w.drewN n) p q nw cap A G := h.mod ((Mod.refl NoBlk w).drewN n) (fun h => h) (fun h => h)
end

/-- A function at one place. -/
def upd (F : Nat → Int) (i : Nat) (v : Int) : Nat → Int := fun j => if j = i then v else F j

theorem FileAt.setG {w : World} {p q nw cap : Nat} {A G : Nat → Int} (h : FileAt w p q nw cap A G) (i : Nat) (hi : i < 136) (v : Int) :
    FileAt (w.setCell ⟨p, 2 + i, none⟩ (.int .u32 v)) p q nw cap A (upd G i v) := by
  have hne := h.ne
  obtain ⟨a, b, c, d, ⟨cs, hb, h1, h2, h3, h4⟩, ⟨cs', hb', hr'⟩⟩ := h
  refine ⟨a, b, c, d, ⟨_, hb.set_ (2 + i) _, by simpa using h1, ?_, ?_, ?_⟩, ⟨cs', hb'.far (fun e => hne e.symm) _, hr'⟩⟩
  · rw [Array.getElem?_setIfInBounds_ne (by omega)]; exact h2
  · rw [Array.getElem?_setIfInBounds_ne (by omega)]; exact h3
  · intro j hj
    unfold upd
    by_cases e : j = i
    · subst e
      rw [if_pos rfl, Array.getElem?_setIfInBounds_self_of_lt (by omega)]
    · rw [if_neg e, Array.getElem?_setIfInBounds_ne (by omega)]; exact h4 j hj

theorem FileAt.setA {w : World} {p q nw cap : Nat} {A G : Nat → Int} (h : FileAt w p q nw cap A G) (i : Nat) (hi : i < 16 * nw) (v : Int) :
    FileAt (w.setCell ⟨q, i, none⟩ (.int .u32 v)) p q nw cap (upd A i v) G := by
  have hne := h.ne
  obtain ⟨a, b, c, d, ⟨cs, hb, h1⟩, ⟨cs', hb', h2, h3⟩⟩ := h
  refine ⟨a, b, c, d, ⟨_, hb.far hne _, h1⟩, ⟨_, hb'.set_ i _, by simpa using h2, ?_⟩⟩
  intro j hj
  unfold upd
  by_cases e : j = i
  · subst e
    rw [if_pos rfl, Array.getElem?_setIfInBounds_self_of_lt (by omega)]
  · rw [if_neg e, Array.getElem?_setIfInBounds_ne (by omega)]; exact h3 j hj

set_option maxHeartbeats 400000 in
theorem none_yes (p nw : Nat) (w : World) (hn : 0 < nw) (hc : w.cell? ⟨p, 0, none⟩ = some (.int .i64 nw)) :
    Calls Try.prog 44 #[.pointer (some ⟨p, 0, none⟩)] w fun e w' => e = .returned (.bool false) ∧ w = w' := by
  have h0 : ((nw : Int) == 0) = false := by simp; omega
  go_enter Try.func44, Try.ntmps44
  go_wp2
  go_ret
  exact ⟨rfl, rfl⟩

/-- What is no file: nil, or one that no New made. -/
def NoFile (w : World) (a : Option Addr) : Prop := a = none ∨ ∃ p, a = some ⟨p, 0, none⟩ ∧ w.cell? ⟨p, 0, none⟩ = some (.int .i64 0)
theorem NoFile.nil {w : World} : NoFile w none := .inl rfl
theorem NoFile.zero {w : World} (p : Nat) (hc : w.cell? ⟨p, 0, none⟩ = some (.int .i64 0)) : NoFile w (some ⟨p, 0, none⟩) := .inr ⟨p, rfl, hc⟩

set_option maxHeartbeats 400000 in
theorem none_none (a : Option Addr) (w : World) (h : NoFile w a) :
    Calls Try.prog 44 #[.pointer a] w fun e w' => e = .returned (.bool true) ∧ w = w' := by
  rcases h with rfl | ⟨p, rfl, hc⟩
  · go_enter Try.func44, Try.ntmps44
    go_wp2
    go_ret
    exact ⟨rfl, rfl⟩
  · go_enter Try.func44, Try.ntmps44
    go_wp2
    go_ret
    exact ⟨rfl, rfl⟩

/-- Where a register lies. -/
def loc (p q nw window bank reg : Nat) : Addr :=
  if reg < 8 then ⟨p, 2 + (bank * 8 + reg), none⟩ else if reg < 16 then ⟨q, 16 * ((window + nw - 1) % nw) + reg, none⟩ else ⟨q, 16 * window + reg - 16, none⟩

set_option maxHeartbeats 400000 in
theorem place_any (p q nw cap window bank reg : Nat) (A G : Nat → Int) (w : World) (hf : FileAt w p q nw cap A G) (hw : window < nw) (hb : bank < 17) (hr : reg < 32) :
    Calls Try.prog 43 #[.pointer (some ⟨p, 0, none⟩), .int .i64 window, .int .i64 bank, .int .i64 reg] w fun e w' => e = .returned (.pointer (some (loc p q nw window bank reg))) ∧ ∃ n, w' = w.drewN n := by
  have h32 := hf.n32
  have h2 := hf.n2
  have hc0 := hf.c0
  have hc := hf.c1
  clear hf
  by_cases hr8 : reg < 8
  · go_enter Try.func43, Try.ntmps43
    go_wp2
    go_ret
    exact ⟨by simp [loc, hr8, Nat.add_assoc], 0, rfl⟩
  · by_cases hr16 : reg < 16
    · have e1 : IntKind.i64.wrap ((window : Int) + (nw : Int)) = (window : Int) + (nw : Int) := by rw [IntKind.wrap_i64]; omega
      have e2 : IntKind.i64.wrap ((window : Int) + (nw : Int) - 1) = (window : Int) + (nw : Int) - 1 := by rw [IntKind.wrap_i64]; omega
      have e3 : ((nw : Int) == 0) = false := by simp; omega
      have e4 : ((window : Int) + (nw : Int) - 1).tmod (nw : Int) = (((window + nw - 1) % nw : Nat) : Int) := by
        rw [Int.tmod_eq_emod_of_nonneg (by omega), Int.natCast_emod, show ((window + nw - 1 : Nat) : Int) = (window : Int) + (nw : Int) - 1 from by omega]
      have e5 : IntKind.i64.wrap (((window + nw - 1) % nw : Nat) : Int) = (((window + nw - 1) % nw : Nat) : Int) := by
        have := Nat.mod_lt (window + nw - 1) (show 0 < nw by omega)
        rw [IntKind.wrap_i64]; omega
      generalize hk : (window + nw - 1) % nw = k at *
      have hkl : k < nw := by rw [← hk]; exact Nat.mod_lt _ (by omega)
      have HK : Hid ((window + nw - 1) % nw = k) := hk
      clear hk
      go_enter Try.func43, Try.ntmps43
      go_wp2
      go_quiet (fail)
      go_wp2
      go_ret
      exact ⟨by simp [loc, hr8, hr16, HK.out], _, rfl⟩
    · go_enter Try.func43, Try.ntmps43
      go_wp2
      go_ret
      exact ⟨by simp [loc, hr8, hr16], 0, rfl⟩

/-- The numbers of a register that exists. -/
def Valid (nw : Nat) (window bank reg : Int) : Prop := 0 ≤ window ∧ window < nw ∧ 0 ≤ bank ∧ bank < 17 ∧ 0 ≤ reg ∧ reg < 32

set_option maxHeartbeats 400000 in
theorem at_ok (p q nw cap window bank reg : Nat) (A G : Nat → Int) (w : World) (hf : FileAt w p q nw cap A G) (hw : window < nw) (hb : bank < 17) (hr : reg < 32) :
    Calls Try.prog 42 #[.pointer (some ⟨p, 0, none⟩), .int .i64 window, .int .i64 bank, .int .i64 reg, .func (.func 43) #[.pointer (some ⟨p, 0, none⟩)] #[]] w
      fun e w' => e = .returned (.tuple #[.pointer (some (loc p q nw window bank reg)), .int .i64 0]) ∧ ∃ n, w' = w.drewN n := by
  have h32 := hf.n32
  have h2 := hf.n2
  have hc0 := hf.c0
  have HF := Lib.hid hf
  clear hf
  go_enter Try.func42, Try.ntmps42
  go_wp2_with (first | (go_at_call 44; refine (none_yes _ _ _ (by omega) hc0).mono ?_; rintro e w' ⟨rfl, rfl⟩) | (go_at_call 43; refine (place_any p q nw cap window bank reg A G _ HF.out hw hb hr).mono ?_; rintro e w' ⟨rfl, n, rfl⟩))
  go_ret2
  exact ⟨rfl, n, rfl⟩

set_option maxHeartbeats 1000000 in
theorem at_bad (p q nw cap : Nat) (window bank reg : Int) (c : Value) (A G : Nat → Int) (w : World) (hf : FileAt w p q nw cap A G) (hn : ¬ Valid nw window bank reg) :
    Calls Try.prog 42 #[.pointer (some ⟨p, 0, none⟩), .int .i64 window, .int .i64 bank, .int .i64 reg, c] w
      fun e w' => e = .returned (.tuple #[.pointer none, .int .i64 2]) ∧ w = w' := by
  have h2 := hf.n2
  have hc0 := hf.c0
  clear hf
  unfold Valid at hn
  have hcases : window < 0 ∨ (0 ≤ window ∧ (nw : Int) ≤ window) ∨ (0 ≤ window ∧ window < nw ∧ bank < 0) ∨ (0 ≤ window ∧ window < nw ∧ 0 ≤ bank ∧ 17 ≤ bank) ∨
      (0 ≤ window ∧ window < nw ∧ 0 ≤ bank ∧ bank < 17 ∧ reg < 0) ∨ (0 ≤ window ∧ window < nw ∧ 0 ≤ bank ∧ bank < 17 ∧ 0 ≤ reg ∧ 32 ≤ reg) := by omega
  clear hn
  rcases hcases with h | ⟨h, h'⟩ | ⟨h, h', h''⟩ | ⟨h, h', h'', h3⟩ | ⟨h, h', h'', h3, h4⟩ | ⟨h, h', h'', h3, h4, h5⟩
  all_goals
    go_enter Try.func42, Try.ntmps42
    go_wp2_with (go_at_call 44; refine (none_yes _ _ _ (by omega) hc0).mono ?_; rintro e w' ⟨rfl, rfl⟩)
    go_ret2
    exact ⟨rfl, rfl⟩

set_option maxHeartbeats 400000 in
theorem at_none (a : Option Addr) (window bank reg : Int) (c : Value) (w : World) (h : NoFile w a) :
    Calls Try.prog 42 #[.pointer a, .int .i64 window, .int .i64 bank, .int .i64 reg, c] w
      fun e w' => e = .returned (.tuple #[.pointer none, .int .i64 1]) ∧ w = w' := by
  go_enter Try.func42, Try.ntmps42
  go_wp2_with (go_at_call 44; refine (none_none _ _ h).mono ?_; rintro e w' ⟨rfl, rfl⟩)
  go_ret2
  exact ⟨rfl, rfl⟩

end Go.Proofs.Ytjaapempahigaaa
