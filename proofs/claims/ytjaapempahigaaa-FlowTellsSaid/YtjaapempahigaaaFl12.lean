/- Above: what the memory holds. -/
import Derived.Test.YtjaapempahigaaaFl11
namespace Go.Proofs.Ytjaapempahigaaa
open Go.RowKit

/-- The rows of what is above each block, as far as they are set: nil where none is. -/
def OutAt (w : World) (B g N : Nat) (out : Nat → Option (List Nat)) : Prop :=
  ∃ cs, Blk w g 65 cs ∧ cs.size = N ∧ ∀ i, i < N → ∃ v, cs[i]? = some v ∧ (out i = none → v = .slice none 0 0) ∧ ∀ r, out i = some r → Ints w B v r ∧ r ≠ []

section
variable {w w' : World} {B g N : Nat} {out : Nat → Option (List Nat)}
theorem OutAt.mod (h : OutAt w B g N out) (hm : Mod NoBlk w w') : OutAt w' B g N out := by
  obtain ⟨cs, hb, hs, hc⟩ := h
  refine ⟨cs, hb.mod hm (fun h => h), hs, fun i hi => ?_⟩
  obtain ⟨v, hv, h1, h2⟩ := hc i hi
  exact ⟨v, hv, h1, fun r hr => ⟨(h2 r hr).1.mod hm, (h2 r hr).2⟩⟩
theorem OutAt.lt (h : OutAt w B g N out) : g < w.heap.size := by obtain ⟨_, hb, _⟩ := h; exact hb.lt
theorem OutAt.frozen (h : OutAt w B g N out) (i : Nat) : w.frozen? ⟨g, i, none⟩ = false := by obtain ⟨_, hb, _⟩ := h; exact hb.frozen i
theorem OutAt.get (h : OutAt w B g N out) (i : Nat) (hi : i < N) : ∃ v, w.cell? ⟨g, i, none⟩ = some v ∧ (out i = none → v = .slice none 0 0) ∧ ∀ r, out i = some r → Ints w B v r ∧ r ≠ [] := by
  obtain ⟨cs, hb, hs, hc⟩ := h
  obtain ⟨v, hv, h1, h2⟩ := hc i hi
  exact ⟨v, by rw [hb.cell]; exact hv, h1, h2⟩
theorem OutAt.new (w : World) (B N : Nat) : OutAt (w.alloc (.cells (madeCells #[.slice none 0 0] N) 65)) B w.heap.size N (fun _ => none) :=
  ⟨_, Blk.new w 65 _, by simp [madeCells], fun i hi => ⟨_, madeCells_one _ _ _ hi, fun _ => rfl, fun r h => by cases h⟩⟩
theorem OutAt.put (h : OutAt w B g N out) {k : Nat} {v : Value} {r : List Nat} (hk : k < N) (hv : Ints w B v r) (hr : r ≠ []) : OutAt (w.setCell ⟨g, k, none⟩ v) B g N (setRow out k r) := by
  obtain ⟨cs, hb, hs, hc⟩ := h
  have hms : Mod (fun j => j = g) w (w.setCell ⟨g, k, none⟩ v) := (Mod.refl (fun j => j = g) w).setCell (p := ⟨g, k, none⟩) (fun _ => rfl) _
  have hints : ∀ u q, Ints w B u q → Ints (w.setCell ⟨g, k, none⟩ v) B u q := fun u q hu => row_mod hu hms (fun b hbb e => row_ne_blk hu hb (by decide) (by rw [hbb, e]))
  refine ⟨_, hb.set_ k v, by simpa using hs, fun i hi => ?_⟩
  by_cases e : i = k
  · subst e
    refine ⟨v, by rw [Array.getElem?_setIfInBounds_self_of_lt (by omega)], fun hn => ?_, fun q hq => ?_⟩
    · unfold setRow at hn; rw [if_pos rfl] at hn; cases hn
    · unfold setRow at hq; rw [if_pos rfl] at hq; cases hq
      exact ⟨hints _ _ hv, hr⟩
  · obtain ⟨u, hu, h1, h2⟩ := hc i hi
    have es : setRow out k r i = out i := by unfold setRow; rw [if_neg e]
    refine ⟨u, by rw [Array.getElem?_setIfInBounds_ne (by omega)]; exact hu, fun hn => h1 (by rw [← es]; exact hn), fun q hq => ?_⟩
    rw [es] at hq
    exact ⟨hints _ _ (h2 q hq).1, (h2 q hq).2⟩
end

end Go.Proofs.Ytjaapempahigaaa
