/- Graphs over numbers, plain: the walk in depth, the blocks as they are left. -/
import Derived.Test.YtjaapempahigaaaGr1
namespace Go.Proofs.Ytjaapempahigaaa

def mark (c : Nat → Bool) (b : Nat) : Nat → Bool := fun x => x == b || c x
theorem mark_self (c : Nat → Bool) (b : Nat) : mark c b b = true := by simp [mark]
theorem mark_iff (c : Nat → Bool) (b x : Nat) : mark c b x = true ↔ x = b ∨ c x = true := by simp [mark]

def visit (succ : Nat → List Nat) : Nat → (Nat → Bool) × List Nat → Nat → (Nat → Bool) × List Nat
  | 0, s, _ => s
  | f + 1, s, b => if s.1 b then s else
      (((succ b).foldl (visit succ f) (mark s.1 b, s.2)).1, ((succ b).foldl (visit succ f) (mark s.1 b, s.2)).2 ++ [b])

def unv (n : Nat) (c : Nat → Bool) : Nat := cntB n (fun x => !c x)
theorem unv_le (n : Nat) (c : Nat → Bool) : unv n c ≤ n := cntB_le _ _
theorem unv_mono {n : Nat} {c d : Nat → Bool} (h : ∀ i, c i = true → d i = true) : unv n d ≤ unv n c :=
  cntB_mono fun i _ hi => by
    cases hc : c i with
    | false => simp
    | true => rw [h i hc] at hi; cases hi
theorem unv_mark {n : Nat} {c : Nat → Bool} {b : Nat} (hb : b < n) (h : c b = false) : unv n (mark c b) < unv n c :=
  cntB_lt (fun i _ hi => by
    cases hc : c i with
    | false => simp
    | true => simp [mark, hc] at hi) hb (by simp [mark]) (by simp [h])

section
variable {succ : Nat → List Nat} {n : Nat}

theorem visit_come {f : Nat} {s : (Nat → Bool) × List Nat} {b : Nat} (h : s.1 b = true) : visit succ f s b = s := by
  cases f with
  | zero => rfl
  | succ f => simp [visit, h]
theorem visit_new {f : Nat} {s : (Nat → Bool) × List Nat} {b : Nat} (h : s.1 b = false) : visit succ (f + 1) s b = (((succ b).foldl (visit succ f) (mark s.1 b, s.2)).1, ((succ b).foldl (visit succ f) (mark s.1 b, s.2)).2 ++ [b]) := by
  simp [visit, h]

theorem fold_mono {g : (Nat → Bool) × List Nat → Nat → (Nat → Bool) × List Nat} (hg : ∀ s b x, s.1 x = true → (g s b).1 x = true) :
    ∀ (ks : List Nat) (s : (Nat → Bool) × List Nat) (x : Nat), s.1 x = true → (ks.foldl g s).1 x = true := by
  intro ks
  induction ks with
  | nil => intro s x h; exact h
  | cons k ks ih => intro s x h; exact ih _ _ (hg _ _ _ h)
theorem visit_mono : ∀ (f : Nat) (s : (Nat → Bool) × List Nat) (b x : Nat), s.1 x = true → (visit succ f s b).1 x = true := by
  intro f
  induction f with
  | zero => intro s b x h; exact h
  | succ f ih =>
    intro s b x h
    by_cases hb : s.1 b = true
    · rw [visit_come hb]; exact h
    · rw [visit_new (by simpa using hb)]
      exact fold_mono ih _ _ _ ((mark_iff _ _ _).2 (.inr h))
theorem visit_marks {f : Nat} (s : (Nat → Bool) × List Nat) (b : Nat) (hf : 0 < f) : (visit succ f s b).1 b = true := by
  obtain ⟨f, rfl⟩ : ∃ g, f = g + 1 := ⟨f - 1, by omega⟩
  by_cases hb : s.1 b = true
  · rw [visit_come hb]; exact hb
  · rw [visit_new (by simpa using hb)]
    exact fold_mono (visit_mono f) _ _ _ (mark_self _ _)

theorem fold_congr {f : Nat} (hv : ∀ (s : (Nat → Bool) × List Nat) (b : Nat), b < n → unv n s.1 < f → visit succ f s b = visit succ (f + 1) s b) :
    ∀ (ks : List Nat) (s : (Nat → Bool) × List Nat), (∀ k ∈ ks, k < n) → unv n s.1 < f → ks.foldl (visit succ f) s = ks.foldl (visit succ (f + 1)) s := by
  intro ks
  induction ks with
  | nil => intro s _ _; rfl
  | cons k ks ih =>
    intro s hk hu
    simp only [List.foldl_cons]
    rw [← hv s k (hk k (by simp)) hu]
    exact ih _ (fun x hx => hk x (by simp [hx])) (Nat.lt_of_le_of_lt (unv_mono (fun i hi => visit_mono f s k i hi)) hu)
theorem visit_fuel (hs : ∀ a x, x ∈ succ a → x < n) : ∀ (f : Nat) (s : (Nat → Bool) × List Nat) (b : Nat), b < n → unv n s.1 < f → visit succ f s b = visit succ (f + 1) s b := by
  intro f
  induction f with
  | zero => intro s b _ h; omega
  | succ f ih =>
    intro s b hb hu
    by_cases hc : s.1 b = true
    · rw [visit_come hc, visit_come hc]
    · have hc' : s.1 b = false := by simpa using hc
      rw [visit_new hc', visit_new hc']
      have hm := unv_mark hb hc'
      rw [fold_congr ih (succ b) (mark s.1 b, s.2) (fun k hk => hs b k hk) (by show unv n (mark s.1 b) < f; omega)]
theorem visit_more (hs : ∀ a x, x ∈ succ a → x < n) (f j : Nat) (s : (Nat → Bool) × List Nat) (b : Nat) (hb : b < n) (hu : unv n s.1 < f) : visit succ f s b = visit succ (f + j) s b := by
  induction j with
  | zero => rfl
  | succ j ih => rw [ih, visit_fuel hs (f + j) s b hb (by omega)]; rfl
theorem visit_any (hs : ∀ a x, x ∈ succ a → x < n) {f g : Nat} {s : (Nat → Bool) × List Nat} {b : Nat} (hb : b < n) (hu : unv n s.1 < f) (hu' : unv n s.1 < g) : visit succ f s b = visit succ g s b := by
  rw [visit_more hs f g s b hb hu, visit_more hs g f s b hb hu', Nat.add_comm]

/-- What a walk from the blocks K has done: c' are come to now, N were left. -/
structure Vis (succ : Nat → List Nat) (c : Nat → Bool) (K : Nat → Prop) (c' : Nat → Bool) (N : List Nat) : Prop where
  come : ∀ x, c' x = true ↔ c x = true ∨ x ∈ N
  nodup : N.Nodup
  fresh : ∀ x ∈ N, c x = false
  closed : ∀ x ∈ N, ∀ y ∈ succ x, c' y = true
  roots : ∀ x, K x → c' x = true
  parent : ∀ N1 x N2, N = N1 ++ x :: N2 → K x ∨ ∃ p ∈ N2, x ∈ succ p

theorem Vis.nil {c : Nat → Bool} {K : Nat → Prop} (h : ∀ x, K x → c x = true) : Vis succ c K c [] :=
  ⟨fun x => (by simp), List.nodup_nil, fun x h => (by cases h), fun x h => (by cases h), h, fun N1 x N2 h => (by simp at h)⟩

theorem fold_spec {f : Nat} (hv : ∀ (s : (Nat → Bool) × List Nat) (b : Nat), b < n → unv n s.1 < f → ∃ N, (visit succ f s b).2 = s.2 ++ N ∧ Vis succ s.1 (· = b) (visit succ f s b).1 N) :
    ∀ (ks : List Nat) (s : (Nat → Bool) × List Nat), (∀ k ∈ ks, k < n) → unv n s.1 < f → ∃ N, (ks.foldl (visit succ f) s).2 = s.2 ++ N ∧ Vis succ s.1 (· ∈ ks) (ks.foldl (visit succ f) s).1 N := by
  intro ks
  induction ks with
  | nil => intro s _ _; exact ⟨[], by simp, Vis.nil (fun x h => by cases h)⟩
  | cons k ks ih =>
    intro s hk hu
    obtain ⟨Nk, e1, v1⟩ := hv s k (hk k (by simp)) hu
    obtain ⟨Nr, e2, v2⟩ := ih (visit succ f s k) (fun x hx => hk x (by simp [hx])) (Nat.lt_of_le_of_lt (unv_mono (fun i hi => visit_mono f s k i hi)) hu)
    simp only [List.foldl_cons]
    refine ⟨Nk ++ Nr, by rw [e2, e1, List.append_assoc], ?_, ?_, ?_, ?_, ?_, ?_⟩
    · intro x
      rw [v2.come, v1.come, List.mem_append, or_assoc]
    · rw [List.nodup_append]
      refine ⟨v1.nodup, v2.nodup, ?_⟩
      rintro a ha b hb rfl
      have := v2.fresh a hb
      rw [(v1.come a).2 (.inr ha)] at this
      cases this
    · intro x hx
      rcases List.mem_append.1 hx with hx | hx
      · exact v1.fresh x hx
      · have := v2.fresh x hx
        cases hc : s.1 x with
        | false => rfl
        | true => rw [(v1.come x).2 (.inl hc)] at this; cases this
    · intro x hx y hy
      rcases List.mem_append.1 hx with hx | hx
      · exact (v2.come y).2 (.inl (v1.closed x hx y hy))
      · exact v2.closed x hx y hy
    · intro x hx
      rcases List.mem_cons.1 hx with rfl | hx
      · exact (v2.come x).2 (.inl (v1.roots x rfl))
      · exact v2.roots x hx
    · intro N1 x N2 e
      rcases List.append_eq_append_iff.1 e with ⟨M, rfl, e5⟩ | ⟨M, e5, e'⟩
      · rcases v2.parent M x N2 e5 with h | ⟨p, hp, hx⟩
        · exact .inl (List.mem_cons.2 (.inr h))
        · exact .inr ⟨p, hp, hx⟩
      · cases M with
        | nil =>
          simp only [List.nil_append] at e'
          rcases v2.parent [] x N2 (by simpa using e'.symm) with h | ⟨p, hp, hx⟩
          · exact .inl (List.mem_cons.2 (.inr h))
          · exact .inr ⟨p, hp, hx⟩
        | cons y M =>
          simp only [List.cons_append, List.cons.injEq] at e'
          obtain ⟨rfl, rfl⟩ := e'
          rcases v1.parent N1 x M e5 with h | ⟨p, hp, hx⟩
          · exact .inl (List.mem_cons.2 (.inl h))
          · exact .inr ⟨p, List.mem_append.2 (.inl hp), hx⟩

theorem visit_spec (hs : ∀ a x, x ∈ succ a → x < n) : ∀ (f : Nat) (s : (Nat → Bool) × List Nat) (b : Nat), b < n → unv n s.1 < f →
    ∃ N, (visit succ f s b).2 = s.2 ++ N ∧ Vis succ s.1 (· = b) (visit succ f s b).1 N := by
  intro f
  induction f with
  | zero => intro s b _ h; omega
  | succ f ih =>
    intro s b hb hu
    by_cases hc : s.1 b = true
    · rw [visit_come hc]
      exact ⟨[], by simp, Vis.nil (fun x h => h ▸ hc)⟩
    · have hc' : s.1 b = false := by simpa using hc
      rw [visit_new hc']
      have hm := unv_mark hb hc'
      obtain ⟨N, e, v⟩ := fold_spec ih (succ b) (mark s.1 b, s.2) (fun k hk => hs b k hk) (by show unv n (mark s.1 b) < f; omega)
      simp only at e v
      have hbN : b ∉ N := fun h => by have := v.fresh b h; rw [mark_self] at this; cases this
      refine ⟨N ++ [b], by rw [e, List.append_assoc], ?_, ?_, ?_, ?_, ?_, ?_⟩
      · intro x
        show _ ↔ _
        rw [v.come, mark_iff, List.mem_append, List.mem_singleton]
        constructor
        · rintro ((h | h) | h)
          · exact .inr (.inr h)
          · exact .inl h
          · exact .inr (.inl h)
        · rintro (h | h | h)
          · exact .inl (.inr h)
          · exact .inr h
          · exact .inl (.inl h)
      · rw [List.nodup_append]
        refine ⟨v.nodup, by simp, ?_⟩
        intro a ha c hc2 e
        simp only [List.mem_singleton] at hc2
        subst e; subst hc2
        exact hbN ha
      · intro x hx
        rcases List.mem_append.1 hx with hx | hx
        · have := v.fresh x hx
          cases hcx : s.1 x with
          | false => rfl
          | true => rw [(mark_iff _ _ _).2 (.inr hcx)] at this; cases this
        · simp only [List.mem_singleton] at hx
          rw [hx]; exact hc'
      · intro x hx y hy
        rcases List.mem_append.1 hx with hx | hx
        · exact v.closed x hx y hy
        · simp only [List.mem_singleton] at hx
          subst hx
          exact v.roots y hy
      · rintro x rfl
        exact (v.come x).2 (.inl (mark_self _ _))
      · intro N1 x N2 e2
        rcases List.eq_nil_or_concat N2 with rfl | ⟨M, y, rfl⟩
        · have := List.append_inj' e2 rfl
          simp only [List.cons.injEq, and_true] at this
          exact .inl this.2.symm
        · have e3 : N ++ [b] = (N1 ++ x :: M) ++ [y] := by rw [e2]; simp
          have := List.append_inj' e3 rfl
          simp only [List.cons.injEq, and_true] at this
          obtain ⟨h1, rfl⟩ := this
          refine .inr ?_
          rcases v.parent N1 x M h1 with h | ⟨p, hp, hx⟩
          · exact ⟨b, by simp, h⟩
          · exact ⟨p, by simp [hp], hx⟩

/-- The blocks as they are left. -/
def postOrd (succ : Nat → List Nat) (n : Nat) : List Nat := if n = 0 then [] else (visit succ (n + 1) (fun _ => false, []) 0).2

theorem post_spec (hs : ∀ a x, x ∈ succ a → x < n) (hn : 0 < n) :
    (postOrd succ n).Nodup ∧ (∀ x, x ∈ postOrd succ n ↔ Rch succ All x) ∧ (∃ L0, postOrd succ n = L0 ++ [0]) ∧ (∀ N1 x N2, postOrd succ n = N1 ++ x :: N2 → x = 0 ∨ ∃ p ∈ N2, x ∈ succ p) := by
  have hu : unv n (fun _ => false) < n + 1 := Nat.lt_succ_of_le (unv_le _ _)
  obtain ⟨N, e, v⟩ := visit_spec hs (n + 1) (fun _ => false, []) 0 hn hu
  have e' : postOrd succ n = N := by
    unfold postOrd
    rw [if_neg (by omega), e]
    rfl
  rw [e']
  have hreach : ∀ (k : Nat) (N1 : List Nat) (x : Nat) (N2 : List Nat), N2.length = k → N = N1 ++ x :: N2 → Rch succ All x := by
    intro k
    induction k using Nat.strongRecOn with
    | ind k ih =>
      intro N1 x N2 hl hN
      rcases v.parent N1 x N2 hN with rfl | ⟨p, hp, hx⟩
      · exact Rch.zero trivial
      · obtain ⟨M1, M2, rfl⟩ := List.append_of_mem hp
        refine (ih M2.length (by simp at hl; omega) (N1 ++ x :: M1) p M2 rfl (by rw [hN]; simp)).step hx trivial
  refine ⟨v.nodup, fun x => ⟨fun hx => ?_, fun hx => ?_⟩, ?_, v.parent⟩
  · obtain ⟨M1, M2, hM⟩ := List.append_of_mem hx
    exact hreach _ M1 x M2 rfl hM
  · refine Rch.ind (P := fun x => x ∈ N) (fun _ => ?_) (fun a b _ ih hb _ => ?_) hx
    · exact ((v.come 0).1 (v.roots 0 rfl)).resolve_left (by simp)
    · exact ((v.come b).1 (v.closed a ih b hb)).resolve_left (by simp)
  · have := visit_new (succ := succ) (f := n) (s := (fun _ => false, [])) (b := 0) rfl
    rw [this] at e
    simp only [List.nil_append] at e
    exact ⟨_, e.symm⟩
end

end Go.Proofs.Ytjaapempahigaaa
