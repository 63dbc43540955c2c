/- The walk in depth with a stack of its own. -/
import Derived.Test.YtjaapempahigaaaGr3
namespace Go.Proofs.Ytjaapempahigaaa

/-- A block on the stack is done with: what is yet to be tried, then it is left. -/
def fin1 (succ : Nat → List Nat) (n : Nat) (b : Nat) (rest : List Nat) (s : (Nat → Bool) × List Nat) : (Nat → Bool) × List Nat :=
  ((rest.foldl (visit succ (n + 1)) s).1, (rest.foldl (visit succ (n + 1)) s).2 ++ [b])
def finAll (succ : Nat → List Nat) (n : Nat) (T : List (Nat × List Nat)) (s : (Nat → Bool) × List Nat) : (Nat → Bool) × List Nat := T.foldr (fun t s => fin1 succ n t.1 t.2 s) s

section
variable {succ : Nat → List Nat} {n : Nat}

theorem finAll_snoc (T : List (Nat × List Nat)) (b : Nat) (rest : List Nat) (s : (Nat → Bool) × List Nat) : finAll succ n (T ++ [(b, rest)]) s = finAll succ n T (fin1 succ n b rest s) := by
  simp [finAll]
theorem fin1_nil (b : Nat) (c : Nat → Bool) (L : List Nat) : fin1 succ n b [] (c, L) = (c, L ++ [b]) := rfl
theorem fin1_come (b k : Nat) (rest : List Nat) (s : (Nat → Bool) × List Nat) (h : s.1 k = true) : fin1 succ n b (k :: rest) s = fin1 succ n b rest s := by
  unfold fin1
  simp only [List.foldl_cons]
  rw [visit_come h]
theorem visit_push (hs : ∀ a x, x ∈ succ a → x < n) (k : Nat) (c : Nat → Bool) (L : List Nat) (hk : k < n) (h : c k = false) : visit succ (n + 1) (c, L) k = fin1 succ n k (succ k) (mark c k, L) := by
  rw [visit_new (by exact h)]
  have hm := unv_mark hk h
  have hl := unv_le n c
  unfold fin1
  rw [fold_congr (visit_fuel hs n) (succ k) (mark c k, L) (fun x hx => hs k x hx) (by show unv n (mark c k) < n; omega)]
theorem fin1_push (hs : ∀ a x, x ∈ succ a → x < n) (b k : Nat) (rest : List Nat) (c : Nat → Bool) (L : List Nat) (hk : k < n) (h : c k = false) :
    fin1 succ n b (k :: rest) (c, L) = fin1 succ n b rest (fin1 succ n k (succ k) (mark c k, L)) := by
  rw [← visit_push hs k c L hk h]
  rfl
theorem post_fin (hs : ∀ a x, x ∈ succ a → x < n) (hn : 0 < n) : postOrd succ n = (finAll succ n [(0, succ 0)] (mark (fun _ => false) 0, [])).2 := by
  unfold postOrd
  rw [if_neg (by omega), visit_push hs 0 (fun _ => false) [] hn rfl]
  rfl
theorem unv_mark_eq {c : Nat → Bool} {k : Nat} (hk : k < n) (h : c k = false) : unv n (mark c k) + 1 = unv n c := by
  have h1 := unv_mark hk h
  have key : ∀ m, unv m c ≤ unv m (mark c k) + 1 := by
    intro m
    induction m with
    | zero => simp [unv, cntB]
    | succ m ih =>
      unfold unv at ih ⊢
      rw [cntB_succ, cntB_succ]
      by_cases e : m = k
      · subst e
        have hm : ∀ j, j ≤ m → cntB j (fun x => !mark c m x) = cntB j (fun x => !c x) := by
          intro j
          induction j with
          | zero => intro _; rfl
          | succ j ihj =>
            intro hj
            rw [cntB_succ, cntB_succ, ihj (by omega)]
            have : mark c m j = c j := by unfold mark; simp; omega
            rw [this]
        rw [hm m (Nat.le_refl _)]
        split <;> split <;> omega
      · have : mark c k m = c m := by unfold mark; simp [e]
        rw [this]
        omega
  have := key n
  omega
end

end Go.Proofs.Ytjaapempahigaaa
