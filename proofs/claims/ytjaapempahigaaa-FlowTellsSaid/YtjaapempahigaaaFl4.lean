/- Rows of truths; what is left to be tried; the stack. -/
import Derived.Test.YtjaapempahigaaaFl3
import Derived.Test.YtjaapempahigaaaGr4
import Derived.Deep.LoopGhost
import Derived.Deep.AppendLies
import Derived.Laws.OwnMore
import Derived.WalkSmall
import Derived.OneCell
namespace Go.Proofs.Ytjaapempahigaaa
open Go.RowKit

theorem madeCells_one (z : Value) (n i : Nat) (hi : i < n) : (madeCells #[z] n)[i]? = some z := by
  have e : i % 1 = 0 := Nat.mod_one i
  simp [madeCells, hi, e]

/-- A row of truths. -/
def Bools (w : World) (g N : Nat) (c : Nat → Bool) : Prop := ∃ cs, Blk w g 4 cs ∧ cs.size = N ∧ ∀ i, i < N → cs[i]? = some (.bool (c i))
section
variable {w w' : World} {g N : Nat} {c : Nat → Bool}
theorem Bools.lt (h : Bools w g N c) : g < w.heap.size := by obtain ⟨_, hb, _⟩ := h; exact hb.lt
theorem Bools.cell (h : Bools w g N c) (i : Nat) (hi : i < N) : w.cell? ⟨g, i, none⟩ = some (.bool (c i)) := by
  obtain ⟨cs, hb, _, hc⟩ := h
  rw [hb.cell, hc i hi]
theorem Bools.frozen (h : Bools w g N c) (i : Nat) : w.frozen? ⟨g, i, none⟩ = false := by obtain ⟨_, hb, _⟩ := h; exact hb.frozen i
theorem Bools.mod (h : Bools w g N c) {S : Nat → Prop} (hm : Mod S w w') (hS : ¬ S g) : Bools w' g N c := by
  obtain ⟨cs, hb, hs, hc⟩ := h
  exact ⟨cs, hb.mod hm hS, hs, hc⟩
theorem Bools.mark (h : Bools w g N c) (k : Nat) : Bools (w.setCell ⟨g, k, none⟩ (.bool true)) g N (mark c k) := by
  obtain ⟨cs, hb, hs, hc⟩ := h
  refine ⟨_, hb.set_ k _, by simpa using hs, fun i hi => ?_⟩
  by_cases e : i = k
  · subst e
    rw [mark_self, Array.getElem?_setIfInBounds_self_of_lt (by omega)]
  · have : Ytjaapempahigaaa.mark c k i = c i := by unfold Ytjaapempahigaaa.mark; simp [e]
    rw [this, Array.getElem?_setIfInBounds_ne (by omega)]
    exact hc i hi
theorem Bools.new (w : World) (N : Nat) : Bools (w.alloc (.cells (madeCells #[.bool false] N) 4)) w.heap.size N (fun _ => false) :=
  ⟨_, Blk.new w 4 _, by simp [madeCells], fun i hi => madeCells_one _ _ _ hi⟩
end

/-- A row of numbers that are yet to be tried, not in the row vl. -/
def RestAt (w : World) (vl v : Value) (l : List Nat) : Prop :=
  ∃ oa c, v = .slice oa l.length c ∧ l.length ≤ c ∧ c ≤ 9223372036854775807 ∧ ∀ i x, l[i]? = some x → ∃ g o cs, oa = some ⟨g, o, none⟩ ∧ Blk w g 3 cs ∧ vl.ownBlock ≠ some g ∧ cs[o + i]? = some (.int .i64 (x : Nat))
theorem RestAt.mod {w w' : World} {vl v : Value} {l : List Nat} (h : RestAt w vl v l) {S : Nat → Prop} (hm : Mod S w w') (hS : ∀ g cs, Blk w g 3 cs → vl.ownBlock ≠ some g → ¬ S g) : RestAt w' vl v l := by
  obtain ⟨oa, c, hv, hc, hm', hx⟩ := h
  refine ⟨oa, c, hv, hc, hm', fun i x hi => ?_⟩
  obtain ⟨g, o, cs, ho, hb, hn, hcs⟩ := hx i x hi
  exact ⟨g, o, cs, ho, hb.mod hm (hS g cs hb hn), hn, hcs⟩
theorem RestAt.other {w : World} {vl vl' v : Value} {l : List Nat} (h : RestAt w vl v l) (hS : ∀ g cs, Blk w g 3 cs → vl.ownBlock ≠ some g → vl'.ownBlock ≠ some g) : RestAt w vl' v l := by
  obtain ⟨oa, c, hv, hc, hm', hx⟩ := h
  refine ⟨oa, c, hv, hc, hm', fun i x hi => ?_⟩
  obtain ⟨g, o, cs, ho, hb, hn, hcs⟩ := hx i x hi
  exact ⟨g, o, cs, ho, hb, hS g cs hb hn, hcs⟩
theorem RestAt.tail {w : World} {vl : Value} {g o c k : Nat} {l : List Nat} (h : RestAt w vl (.slice (some ⟨g, o, none⟩) (l.length + 1) c) (k :: l)) : RestAt w vl (.slice (some ⟨g, o + 1, none⟩) l.length (c - 1)) l := by
  obtain ⟨oa, c', hv, hc, hm', hx⟩ := h
  simp only [List.length_cons, Value.slice.injEq, true_and] at hv hc
  obtain ⟨rfl, rfl⟩ := hv
  refine ⟨_, _, rfl, by omega, by omega, fun i x hi => ?_⟩
  obtain ⟨g', o', cs, ho, hb, hn, hcs⟩ := hx (i + 1) x (by simpa using hi)
  simp only [Option.some.injEq, Addr.mk.injEq, and_true] at ho
  obtain ⟨rfl, rfl⟩ := ho
  exact ⟨g, o + 1, cs, rfl, hb, hn, by rw [← hcs]; congr 1; omega⟩
theorem RestAt.head {w : World} {vl v : Value} {k : Nat} {l : List Nat} (h : RestAt w vl v (k :: l)) : ∃ g o c, v = .slice (some ⟨g, o, none⟩) (l.length + 1) c ∧ l.length + 1 ≤ c ∧ c ≤ 9223372036854775807 ∧ w.cell? ⟨g, o, none⟩ = some (.int .i64 (k : Nat)) ∧ g < w.heap.size := by
  obtain ⟨oa, c, hv, hc, hm', hx⟩ := h
  obtain ⟨g, o, cs, rfl, hb, hn, hcs⟩ := hx 0 k rfl
  exact ⟨g, o, c, hv, by simpa using hc, hm', by rw [hb.cell]; exact hcs, hb.lt⟩
theorem RestAt.none {w : World} {vl v : Value} (h : RestAt w vl v []) : ∃ oa c, v = .slice oa 0 c := by
  obtain ⟨oa, c, hv, _⟩ := h
  exact ⟨oa, c, hv⟩
theorem Ints.rest {w : World} {B : Nat} {v vl : Value} {l : List Nat} (h : Ints w B v l) (hn : ∀ g, vl.ownBlock = some g → g < B) : RestAt w vl v l := by
  obtain ⟨hl, hv⟩ := h
  rcases hv with ⟨rfl, h0⟩ | ⟨g, cap, cur, rfl, hg, hb, hle, hmx, hsz, htk⟩
  · have : l = [] := List.eq_nil_of_length_eq_zero h0
    subst this
    exact ⟨Option.none, 0, rfl, by simp, by omega, fun i x hi => by simp at hi⟩
  · refine ⟨_, cap, rfl, hle, hmx, fun i x hi => ⟨g, 0, cur, rfl, hb, fun e => absurd (hn g e) (by omega), ?_⟩⟩
    have hil := (List.getElem?_eq_some_iff.1 hi).1
    have e : (l.map fun x => Value.int .i64 (x : Nat))[i]? = some (.int .i64 (x : Nat)) := by simp [hi]
    rw [← htk, List.getElem?_take_of_lt (by omega), Array.getElem?_toList] at e
    rw [Nat.zero_add]; exact e

/-- The stack's cells. -/
def itemCells (T : List (Nat × List Nat × Value)) : List Value := T.flatMap fun t => [.int .i64 (t.1 : Nat), t.2.2]
theorem itemCells_len (T : List (Nat × List Nat × Value)) : (itemCells T).length = T.length * 2 := by
  induction T with
  | nil => rfl
  | cons t T ih => simp only [itemCells, List.flatMap_cons, List.length_append, List.length_cons, List.length_nil] at ih ⊢; omega
theorem itemCells_snoc (T : List (Nat × List Nat × Value)) (b : Nat) (r : List Nat) (v : Value) : itemCells (T ++ [(b, r, v)]) = itemCells T ++ [.int .i64 (b : Nat), v] := by simp [itemCells]

end Go.Proofs.Ytjaapempahigaaa
