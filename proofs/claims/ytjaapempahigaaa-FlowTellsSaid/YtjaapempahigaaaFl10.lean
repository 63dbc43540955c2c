/- Before: rows of rows; a loop that holds a range over a function. -/
import Derived.Test.YtjaapempahigaaaFl9
namespace Go.Proofs.Ytjaapempahigaaa
open Go.RowKit Go.Shelf
attribute [local go_sem] Oper.semAt_some

/-- Rows of numbers, each in a block of its own, of which Q holds. -/
def RowsQ (w : World) (B g N : Nat) (Q : Nat → Prop) (rows : Nat → List Nat) : Prop :=
  ∃ vals : Nat → Value, (∃ cs, Blk w g 65 cs ∧ cs.size = N ∧ ∀ i, i < N → cs[i]? = some (vals i)) ∧ (∀ i, i < N → Ints w B (vals i) (rows i) ∧ ∀ b, (vals i).ownBlock = some b → Q b) ∧ ∀ i j, i < N → j < N → i ≠ j → ∀ b, (vals i).ownBlock = some b → (vals j).ownBlock ≠ some b
def RowsAt (w : World) (B g N : Nat) (rows : Nat → List Nat) : Prop := RowsQ w B g N (fun _ => True) rows

section
variable {w w1 w' : World} {B B' g N k : Nat} {Q Q' : Nat → Prop} {rows rows' : Nat → List Nat}

theorem RowsQ.mod (h : RowsQ w B g N Q rows) {S : Nat → Prop} (hm : Mod S w w') (hg : ¬ S g) (hS : ∀ b cs, Blk w b 3 cs → ¬ S b) : RowsQ w' B g N Q rows := by
  obtain ⟨vals, ⟨cs, hb, hs, hc⟩, hi, hd⟩ := h
  refine ⟨vals, ⟨cs, hb.mod hm hg, hs, hc⟩, fun i hiN => ⟨row_mod (hi i hiN).1 hm (fun b hbb => ?_), (hi i hiN).2⟩, hd⟩
  rcases (hi i hiN).1.form with ⟨hv, _⟩ | ⟨g', c, cur, hv, _, hbk, _⟩
  · rw [hv] at hbb; cases hbb
  · rw [hv] at hbb; cases hbb; exact hS _ _ hbk
theorem RowsQ.congr (h : RowsQ w B g N Q rows) (he : ∀ i, i < N → rows i = rows' i) : RowsQ w B g N Q rows' := by
  obtain ⟨vals, hb, hi, hd⟩ := h
  exact ⟨vals, hb, fun i hiN => by rw [← he i hiN]; exact hi i hiN, hd⟩
theorem RowsQ.turn (h : RowsQ w B g N Q rows) (hb : B' ≤ B) (hq : ∀ b, b < w.heap.size → Q b → Q' b) : RowsQ w B' g N Q' rows := by
  obtain ⟨vals, h1, h2, h3⟩ := h
  exact ⟨vals, h1, fun i hi => ⟨(h2 i hi).1.base hb, fun b hbb => hq b ((h2 i hi).1.lt b hbb).2 ((h2 i hi).2 b hbb)⟩, h3⟩
theorem RowsQ.lt (h : RowsQ w B g N Q rows) : g < w.heap.size := by
  obtain ⟨_, ⟨_, hb, _⟩, _⟩ := h; exact hb.lt
theorem RowsQ.blk (h : RowsQ w B g N Q rows) : ∃ cs, Blk w g 65 cs := by
  obtain ⟨_, ⟨cs, hb, _⟩, _⟩ := h; exact ⟨cs, hb⟩
theorem RowsQ.frozen (h : RowsQ w B g N Q rows) (i : Nat) : w.frozen? ⟨g, i, none⟩ = false := by
  obtain ⟨_, ⟨_, hb, _⟩, _⟩ := h; exact hb.frozen i
theorem RowsQ.get (h : RowsQ w B g N Q rows) (i : Nat) (hi : i < N) : ∃ v, w.cell? ⟨g, i, none⟩ = some v ∧ Ints w B v (rows i) ∧ ∀ b, v.ownBlock = some b → Q b := by
  obtain ⟨vals, ⟨cs, hb, hs, hc⟩, hi', hd⟩ := h
  exact ⟨vals i, by rw [hb.cell]; exact hc i hi, hi' i hi⟩
theorem RowsQ.new (w : World) (B N : Nat) : RowsQ (w.alloc (.cells (madeCells #[.slice none 0 0] N) 65)) B w.heap.size N Q (fun _ => []) :=
  ⟨fun _ => .slice none 0 0, ⟨_, Blk.new w 65 _, by simp [madeCells], fun i hi => madeCells_one _ _ _ hi⟩, fun i _ => ⟨World.ownsRow_nil _ _ _ _, fun b hb => by cases hb⟩, fun i j _ _ _ b hb => by cases hb⟩
/-- One row is put anew: v', in a block of its own or where the old one lay. -/
theorem RowsQ.put {v v' : Value} {l' : List Nat} (h : RowsQ w B g N Q rows) (hk : k < N) (hv : w.cell? ⟨g, k, none⟩ = some v)
    (hm : Mod (fun j => v.ownBlock = some j) w w1) (hn : Ints w1 B v' l') (hat : ∀ b, v'.ownBlock = some b → v.ownBlock = some b ∨ w.heap.size ≤ b) (hq : ∀ b, v'.ownBlock = some b → Q b) :
    RowsQ (w1.setCell ⟨g, k, none⟩ v') B g N Q (fun i => if i = k then l' else rows i) := by
  obtain ⟨vals, ⟨cs, hb, hs, hc⟩, hi, hd⟩ := h
  have hvk : v = vals k := by
    rw [hb.cell, hc k hk] at hv
    exact (Option.some.inj hv).symm
  subst hvk
  have hng : ¬ (vals k).ownBlock = some g := row_ne_blk (hi k hk).1 hb (by decide)
  have hb1 := hb.mod hm hng
  have hms : Mod (fun j => j = g) w1 (w1.setCell ⟨g, k, none⟩ v') := (Mod.refl (fun j => j = g) w1).setCell (p := ⟨g, k, none⟩) (fun _ => rfl) _
  have hlt : ∀ i, i < N → ∀ b, (vals i).ownBlock = some b → b < w.heap.size := fun i hiN b hbb => ((hi i hiN).1.lt b hbb).2
  refine ⟨fun i => if i = k then v' else vals i, ⟨_, hb1.set_ k v', by simpa using hs, fun i hiN => ?_⟩, fun i hiN => ?_, fun i j hiN hjN hij b hbb => ?_⟩
  · dsimp only
    by_cases e : i = k
    · subst e; rw [if_pos rfl, Array.getElem?_setIfInBounds_self_of_lt (by omega)]
    · rw [if_neg e, Array.getElem?_setIfInBounds_ne (by omega)]; exact hc i hiN
  · dsimp only
    by_cases e : i = k
    · rw [if_pos e, if_pos e]
      refine ⟨row_mod hn hms (fun b hbb e' => ?_), hq⟩
      exact row_ne_blk hn hb1 (by decide) (by rw [hbb, e'])
    · rw [if_neg e, if_neg e]
      have h1 := row_mod (hi i hiN).1 hm (fun b hbb => hd i k hiN hk e b hbb)
      refine ⟨row_mod h1 hms (fun b hbb e' => ?_), (hi i hiN).2⟩
      exact row_ne_blk (hi i hiN).1 hb (by decide) (by rw [hbb, e'])
  · dsimp only at hbb ⊢
    by_cases ei : i = k
    · have ej : j ≠ k := fun e => hij (ei.trans e.symm)
      rw [if_pos ei] at hbb
      rw [if_neg ej]
      rcases hat b hbb with h1 | h1
      · exact hd k j hk hjN (Ne.symm ej) b h1
      · intro h2; have := hlt j hjN b h2; omega
    · rw [if_neg ei] at hbb
      by_cases ej : j = k
      · rw [if_pos ej]
        intro h2
        rcases hat b h2 with h1 | h1
        · exact hd i k hiN hk ei b hbb h1
        · have := hlt i hiN b hbb; omega
      · rw [if_neg ej]; exact hd i j hiN hjN hij b hbb
end

/-- The marks of the ranges over functions that were gone through. -/
def marks (ds : List Nat) : List Deferred := ds.map fun D => { target := .collected D, args := #[] }
theorem leaves_marks {F : Fence} {n : Nat} {fn : Func} {tmps : Array Value} {R : Ending → World → Prop} : ∀ (ds : List Nat) (w : World), ds.Nodup → (∀ D ∈ ds, w.heap[D]? = some (.deferred (some []))) →
    (∀ w', Mod (fun k => k ∈ ds) w w' → LeavesInM F n Try.prog fn tmps R [] .returning w') → LeavesInM F n Try.prog fn tmps R (marks ds) .returning w := by
  intro ds
  induction ds with
  | nil => intro w _ _ h; exact h w (Mod.refl _ _)
  | cons D ds ih =>
    intro w hd hw h
    have hd' := List.nodup_cons.1 hd
    refine ⟨by simp, .inl ⟨D, _, rfl, run_takeDeferred (hw D (by simp)), ?_⟩⟩
    have hp : Mod (fun k => k ∈ D :: ds) w (w.putObj D (.deferred none)) := mod_putObj _ (by simp)
    refine ih _ hd'.2 (fun E hE => ?_) (fun w' hm => h w' (hp.trans (hm.mono fun k _ hk => by simp [hk])))
    have hne : E ≠ D := fun e => hd'.1 (e ▸ hE)
    rw [World.putObj_heap_other hne]
    exact hw E (by simp [hE])

end Go.Proofs.Ytjaapempahigaaa
