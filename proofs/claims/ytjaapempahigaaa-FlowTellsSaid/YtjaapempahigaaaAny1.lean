/- A region that draws its order, inside a fence, by an invariant over what has been done. -/
import Derived.OrdersIn
namespace Go.Proofs.Ytjaapempahigaaa

/-- How many operations are yet to be done. -/
def undone (l : Array Bool) : Nat := (l.toList.filter fun b => !b).length

theorem undone_set_list : ∀ (l : List Bool) (i : Nat), l[i]? = some false → ((l.set i true).filter fun b => !b).length + 1 = (l.filter fun b => !b).length := by
  intro l
  induction l with
  | nil => intro i h; simp at h
  | cons b l ih =>
    intro i h
    cases i with
    | zero =>
      simp only [List.getElem?_cons_zero, Option.some.injEq] at h
      subst h
      simp
    | succ i =>
      simp only [List.getElem?_cons_succ] at h
      have := ih i h
      cases b <;> simp at this ⊢ <;> omega
theorem undone_set {l : Array Bool} {i : Nat} (h : l[i]? = some false) : undone (l.setIfInBounds i true) + 1 = undone l := by
  unfold undone
  rw [Array.toList_setIfInBounds]
  exact undone_set_list l.toList i (by rw [Array.getElem?_toList]; exact h)

theorem ready_false {ops : Array Oper} {l : Array Bool} {i : Nat} (hs : l.size = ops.size) (h : i ∈ Region.ready .any ops l) : l[i]? = some false := by
  unfold Region.ready at h
  simp only [List.mem_filter, List.mem_range, Bool.and_eq_true, Bool.not_eq_true'] at h
  obtain ⟨h1, h2, _⟩ := h
  rw [Array.getD_eq_getD_getElem?] at h2
  have hi : i < l.size := by omega
  rw [Array.getElem?_eq_getElem hi] at h2 ⊢
  simpa using h2

theorem on_set {l : Array Bool} {i j : Nat} (h : (l.setIfInBounds i true)[j]? = some true) (hne : i ≠ j) : l[j]? = some true := by
  rwa [Array.getElem?_setIfInBounds_ne hne] at h
theorem on_keep {l : Array Bool} {i j : Nat} (h : l[j]? = some true) : (l.setIfInBounds i true)[j]? = some true := by
  by_cases e : i = j
  · subst e
    rw [Array.getElem?_setIfInBounds_self_of_lt (Array.getElem?_eq_some_iff.1 h).1]
  · rw [Array.getElem?_setIfInBounds_ne e]; exact h

theorem ready_dep {ops : Array Oper} {l : Array Bool} {i j : Nat} {o : Oper} (h : i ∈ Region.ready .any ops l) (ho : ops[i]? = some o) (hj : (o.after.any fun e => Region.binds .any e && e.on == j) = true) : l[j]? = some true := by
  unfold Region.ready at h
  simp only [List.mem_filter, List.mem_range, Bool.and_eq_true, ho, Option.map_some, Option.getD_some] at h
  obtain ⟨_, _, h3⟩ := h
  rw [Array.all_eq_true] at h3
  rw [Array.any_eq_true] at hj
  obtain ⟨q, hq, hb⟩ := hj
  have := h3 q hq
  simp only [Bool.and_eq_true, beq_iff_eq] at hb
  obtain ⟨hb1, rfl⟩ := hb
  rw [hb1] at this
  simp only [Bool.not_true, Bool.false_or] at this
  rw [Array.getD_eq_getD_getElem?] at this
  cases hc : l[o.after[q].on]? with
  | none => rw [hc] at this; cases this
  | some b => rw [hc] at this; simp at this; rw [this]
theorem ready_lt {ops : Array Oper} {l : Array Bool} {i : Nat} (h : i ∈ Region.ready .any ops l) : i < ops.size := by
  unfold Region.ready at h
  exact List.mem_range.1 (List.mem_filter.1 h).1
theorem ready_nil {ops : Array Oper} {l : Array Bool} (hs : l.size = ops.size) (hc : (List.range ops.size).all (fun i => ((ops[i]?).map fun o => o.after.all fun e => decide (e.on < i)).getD false) = true) (h : Region.ready .any ops l = []) : ∀ i, i < ops.size → l[i]? = some true := by
  intro i
  induction i using Nat.strongRecOn with
  | ind i ih =>
    intro hi
    cases hb : l[i]? with
    | none => rw [Array.getElem?_eq_none_iff] at hb; omega
    | some b =>
      cases b with
      | true => rfl
      | false =>
        exfalso
        have hmem : i ∈ Region.ready .any ops l := by
          unfold Region.ready
          rw [List.mem_filter]
          refine ⟨List.mem_range.2 hi, ?_⟩
          have h1 := List.all_eq_true.1 hc i (List.mem_range.2 hi)
          rw [Array.getElem?_eq_getElem hi] at h1 ⊢
          simp only [Option.map_some, Option.getD_some] at h1 ⊢
          rw [Bool.and_eq_true]
          refine ⟨by rw [Array.getD_eq_getD_getElem?, hb]; rfl, ?_⟩
          rw [Array.all_eq_true] at h1 ⊢
          intro q hq
          have h2 := h1 q hq
          simp only [decide_eq_true_eq] at h2
          rw [Bool.or_eq_true]
          right
          rw [Array.getD_eq_getD_getElem?, ih _ h2 (by omega)]
          rfl
        rw [h] at hmem
        cases hmem

theorem wpAnyIn_inv {F : Fence} {n : Nat} {P : Program} {ops : Array Oper} {Q : Exit → Act → World → Prop} (I : Array Bool → Act → World → Prop)
    (hstep : ∀ l a w i, l.size = ops.size → I l a w → i ∈ Region.ready .any ops l → wpOpIn F n P ops Q i (fun a' w' => I (l.setIfInBounds i true) a' w') a w)
    (hdone : ∀ l a w, l.size = ops.size → I l a w → Region.ready .any ops l = [] → Q .normal a w) :
    ∀ (fuel : Nat) (l : Array Bool) (a : Act) (w : World), l.size = ops.size → undone l ≤ fuel → I l a w → wpAnyIn F n P .any ops Q fuel l a w := by
  intro fuel
  induction fuel with
  | zero =>
    intro l a w hs hu hI
    have hr : Region.ready .any ops l = [] := by
      cases hc : Region.ready .any ops l with
      | nil => rfl
      | cons i r =>
        have := undone_set (ready_false (i := i) hs (by rw [hc]; simp))
        omega
    exact ⟨hr, hdone l a w hs hI hr⟩
  | succ fuel ih =>
    intro l a w hs hu hI
    refine ⟨hdone l a w hs hI, fun i hi => wpOpIn_mono (fun a' w' hI' => ?_) (hstep l a w i hs hI hi)⟩
    refine ih _ a' w' (by simpa using hs) ?_ hI'
    have := undone_set (ready_false hs hi)
    omega

theorem wpIn_region_inv {F : Fence} {n : Nat} {P : Program} {ops : Array Oper} {Q : Exit → Act → World → Prop} {id : Nat} {a : Act} {w : World} (hm : P.follows .mixedOrders = true) (I : Array Bool → Act → World → Prop)
    (h0 : I (Array.replicate ops.size false) a { w with drawn := w.drawn + 1 })
    (hstep : ∀ l a w i, l.size = ops.size → I l a w → i ∈ Region.ready .any ops l → wpOpIn F n P ops Q i (fun a' w' => I (l.setIfInBounds i true) a' w') a w)
    (hdone : ∀ l a w, l.size = ops.size → I l a w → Region.ready .any ops l = [] → Q .normal a w) : (Code.region id ops true).wpIn F n P Q a w :=
  wpIn_region_any hm (wpAnyIn_inv I hstep hdone ops.size _ a _ (by simp) (by unfold undone; exact Nat.le_trans (List.length_filter_le _ _) (by simp)) h0)

end Go.Proofs.Ytjaapempahigaaa
