/- The file and the document's list of all that was set have the same registers. -/
import Derived.Test.YtjaapempahigaaaRef5
namespace Go.Proofs.Ytjaapempahigaaa
open Go.RowKit

structure Rel (nw : Nat) (A G : Nat → Int) (L : List ((Nat × Nat × Nat) × Int)) : Prop where
  g : ∀ b i, b < 17 → 0 < i → i < 8 → G (b * 8 + i) = lastM (0, b, i) L
  l : ∀ k j, k < nw → j < 8 → A (16 * k + j) = lastM (1, k, j) L
  i : ∀ k j, k < nw → j < 8 → A (16 * k + 8 + j) = lastM (2, k, j) L

theorem Rel.zero_ (nw : Nat) : Rel nw zeroF zeroF [] := ⟨fun _ _ _ _ _ => rfl, fun _ _ _ _ => rfl, fun _ _ _ _ => rfl⟩

theorem Rel.get {nw : Nat} {A G : Nat → Int} {L : List ((Nat × Nat × Nat) × Int)} (h : Rel nw A G L) {w b r : Nat} (hw : w < nw) (hb : b < 17) (hr : r < 32) : getV A G nw w b r = atM L (cellM nw w b r) := by
  unfold getV atM cellM slot
  by_cases h0 : r = 0
  · subst h0; simp
  · rw [if_neg h0]
    by_cases h8 : r < 8
    · rw [if_pos h8, if_pos h8, if_neg (by simp; omega)]
      exact h.g b r hb (by omega) h8
    · rw [if_neg h8, if_neg h8]
      by_cases h16 : r < 16
      · rw [if_pos h16, if_pos h16, if_neg (by simp)]
        have hk := Nat.mod_lt (w + nw - 1) (show 0 < nw by omega)
        have := h.i ((w + nw - 1) % nw) (r - 8) hk (by omega)
        rw [← this]; congr 1; omega
      · rw [if_neg h16, if_neg h16]
        by_cases h24 : r < 24
        · rw [if_pos h24, if_neg (by simp)]
          have := h.l w (r - 16) hw (by omega)
          rw [← this]; congr 1; omega
        · rw [if_neg h24, if_neg (by simp)]
          have := h.i w (r - 24) hw (by omega)
          rw [← this]; congr 1; omega

/-- A place is set: by its kind. -/
theorem Rel.setG {nw : Nat} {A G : Nat → Int} {L : List ((Nat × Nat × Nat) × Int)} (h : Rel nw A G L) (b i : Nat) (h8 : i < 8) (x : Int) : Rel nw A (upd G (b * 8 + i) x) (L ++ [((0, b, i), x)]) := by
  refine ⟨fun b' i' hb' h0' h8' => ?_, fun k j hk hj => ?_, fun k j hk hj => ?_⟩
  · rw [lastM_snoc]; unfold upd
    by_cases e : b' * 8 + i' = b * 8 + i
    · have e1 : b = b' := by omega
      have e2 : i = i' := by omega
      rw [if_pos e, if_pos (by rw [e1, e2])]
    · rw [if_neg e, if_neg (by simp only [Prod.mk.injEq, not_and]; intro _ h1 h2; exact e (by rw [h1, h2]))]
      exact h.g b' i' hb' h0' h8'
  · rw [lastM_snoc, if_neg (by simp)]; exact h.l k j hk hj
  · rw [lastM_snoc, if_neg (by simp)]; exact h.i k j hk hj
theorem Rel.setL {nw : Nat} {A G : Nat → Int} {L : List ((Nat × Nat × Nat) × Int)} (h : Rel nw A G L) (k j : Nat) (h8 : j < 8) (x : Int) : Rel nw (upd A (16 * k + j) x) G (L ++ [((1, k, j), x)]) := by
  refine ⟨fun b' i' hb' h0' h8' => ?_, fun k' j' hk hj => ?_, fun k' j' hk hj => ?_⟩
  · rw [lastM_snoc, if_neg (by simp)]; exact h.g b' i' hb' h0' h8'
  · rw [lastM_snoc]; unfold upd
    by_cases e : 16 * k' + j' = 16 * k + j
    · have e1 : k = k' := by omega
      have e2 : j = j' := by omega
      rw [if_pos e, if_pos (by rw [e1, e2])]
    · rw [if_neg e, if_neg (by simp only [Prod.mk.injEq, not_and]; intro _ h1 h2; exact e (by rw [h1, h2]))]
      exact h.l k' j' hk hj
  · rw [lastM_snoc, if_neg (by simp)]; unfold upd; rw [if_neg (by omega)]; exact h.i k' j' hk hj
theorem Rel.setI {nw : Nat} {A G : Nat → Int} {L : List ((Nat × Nat × Nat) × Int)} (h : Rel nw A G L) (k j : Nat) (h8 : j < 8) (x : Int) : Rel nw (upd A (16 * k + 8 + j) x) G (L ++ [((2, k, j), x)]) := by
  refine ⟨fun b' i' hb' h0' h8' => ?_, fun k' j' hk hj => ?_, fun k' j' hk hj => ?_⟩
  · rw [lastM_snoc, if_neg (by simp)]; exact h.g b' i' hb' h0' h8'
  · rw [lastM_snoc, if_neg (by simp)]; unfold upd; rw [if_neg (by omega)]; exact h.l k' j' hk hj
  · rw [lastM_snoc]; unfold upd
    by_cases e : 16 * k' + 8 + j' = 16 * k + 8 + j
    · have e1 : k = k' := by omega
      have e2 : j = j' := by omega
      rw [if_pos e, if_pos (by rw [e1, e2])]
    · rw [if_neg e, if_neg (by simp only [Prod.mk.injEq, not_and]; intro _ h1 h2; exact e (by rw [h1, h2]))]
      exact h.i k' j' hk hj

theorem Rel.zeroG {nw : Nat} {A G : Nat → Int} {L : List ((Nat × Nat × Nat) × Int)} (h : Rel nw A G L) (b : Nat) (x : Int) : Rel nw A G (L ++ [((0, b, 0), x)]) := by
  refine ⟨fun b' i' hb' h0' h8' => ?_, fun k j hk hj => ?_, fun k j hk hj => ?_⟩
  · rw [lastM_snoc, if_neg (by simp only [Prod.mk.injEq, not_and]; intro _ _ h2; omega)]; exact h.g b' i' hb' h0' h8'
  · rw [lastM_snoc, if_neg (by simp)]; exact h.l k j hk hj
  · rw [lastM_snoc, if_neg (by simp)]; exact h.i k j hk hj

theorem Rel.set {nw : Nat} {A G : Nat → Int} {L : List ((Nat × Nat × Nat) × Int)} (h : Rel nw A G L) (w b r : Nat) (hr : r < 32) (x : Int) : Rel nw (afA A nw w r x) (afG G b r x) (L ++ [(cellM nw w b r, x)]) := by
  unfold afA afG cellM slot
  by_cases h0 : r = 0
  · subst h0
    rw [if_pos (by omega), if_pos rfl, if_pos (by omega)]
    exact h.zeroG b x
  · rw [if_neg h0]
    by_cases h8 : r < 8
    · rw [if_pos h8, if_pos h8, if_pos h8]
      exact h.setG b r h8 x
    · rw [if_neg h8, if_neg h8, if_neg h8]
      by_cases h16 : r < 16
      · rw [if_pos h16, if_pos h16]
        have := h.setI ((w + nw - 1) % nw) (r - 8) (by omega) x
        rwa [show 16 * ((w + nw - 1) % nw) + 8 + (r - 8) = 16 * ((w + nw - 1) % nw) + r from by omega] at this
      · rw [if_neg h16, if_neg h16]
        by_cases h24 : r < 24
        · rw [if_pos h24]
          have := h.setL w (r - 16) (by omega) x
          rwa [show 16 * w + (r - 16) = 16 * w + r - 16 from by omega] at this
        · rw [if_neg h24]
          have := h.setI w (r - 24) (by omega) x
          rwa [show 16 * w + 8 + (r - 24) = 16 * w + r - 16 from by omega] at this

/-- A window that is put, the first k words of it. -/
def putI (A : Nat → Int) (window : Nat) (l : Nat → Int) (k : Nat) : Nat → Int := fun j => if 16 * window ≤ j ∧ j < 16 * window + k then l (j - 16 * window) else A j
theorem putI_succ (A : Nat → Int) (window : Nat) (l : Nat → Int) (k : Nat) : putI A window l (k + 1) = upd (putI A window l k) (16 * window + k) (l k) := by
  funext j
  unfold putI upd
  by_cases e : j = 16 * window + k
  · subst e; rw [if_pos (by omega), if_pos rfl]; congr 1; omega
  · rw [if_neg e]
    show _ = if 16 * window ≤ j ∧ j < 16 * window + k then l (j - 16 * window) else A j
    by_cases h : 16 * window ≤ j ∧ j < 16 * window + k
    · rw [if_pos h, if_pos (by omega)]
    · rw [if_neg h, if_neg (by omega)]
theorem Rel.putI {nw : Nat} {A G : Nat → Int} {L : List ((Nat × Nat × Nat) × Int)} (h : Rel nw A G L) (window : Nat) (l : Nat → Int) : ∀ k, k ≤ 16 → Rel nw (putI A window l k) G (L ++ puts nw window l k) := by
  intro k
  induction k with
  | zero =>
    intro _
    have e : Ytjaapempahigaaa.putI A window l 0 = A := by funext j; unfold Ytjaapempahigaaa.putI; rw [if_neg (by omega)]
    rw [e]
    simpa [puts] using h
  | succ k ih =>
    intro hk
    have h1 := ih (by omega)
    rw [putI_succ, puts_succ, ← List.append_assoc]
    have e := h1.set window 0 (16 + k) (by omega) (l k)
    unfold afA afG slot at e
    rw [if_neg (by omega), if_neg (by omega), if_neg (by omega), if_neg (by omega), show 16 * window + (16 + k) - 16 = 16 * window + k from by omega] at e
    exact e
theorem Rel.put {nw : Nat} {A G : Nat → Int} {L : List ((Nat × Nat × Nat) × Int)} (h : Rel nw A G L) (window : Nat) (l : Nat → Int) : Rel nw (putA A window l) G (L ++ puts nw window l 16) := h.putI window l 16 (Nat.le_refl _)

theorem Rel.window {nw : Nat} {A G : Nat → Int} {L : List ((Nat × Nat × Nat) × Int)} (h : Rel nw A G L) {w i : Nat} (hw : w < nw) (hi : i < 16) : A (16 * w + i) = atM L (cellM nw w 0 (16 + i)) := by
  rw [← h.get hw (by omega) (by omega)]
  unfold getV slot
  rw [if_neg (by omega), if_neg (by omega), if_neg (by omega)]
  congr 1; omega

end Go.Proofs.Ytjaapempahigaaa
