/- Graphs over numbers, plain: what is reached from 0 (by allowed blocks alone), what is above what. -/
namespace Go.Proofs.Ytjaapempahigaaa

/-- A way from 0 to b over allowed blocks: the blocks passed, the last first. -/
def Way (succ : Nat → List Nat) (ok : Nat → Prop) : List Nat → Nat → Prop
  | [], b => b = 0 ∧ ok 0
  | a :: l, b => Way succ ok l a ∧ b ∈ succ a ∧ ok b

/-- b is reached over allowed blocks. -/
def Rch (succ : Nat → List Nat) (ok : Nat → Prop) (b : Nat) : Prop := ∃ l, Way succ ok l b

def All : Nat → Prop := fun _ => True
def Not_ (x : Nat) : Nat → Prop := fun b => b ≠ x

section
variable {succ succ' : Nat → List Nat} {ok ok' : Nat → Prop}

theorem Rch.zero (h : ok 0) : Rch succ ok 0 := ⟨[], rfl, h⟩
theorem Rch.step {a b : Nat} (h : Rch succ ok a) (hb : b ∈ succ a) (ho : ok b) : Rch succ ok b := by
  obtain ⟨l, hl⟩ := h
  exact ⟨a :: l, hl, hb, ho⟩
theorem Rch.ind {P : Nat → Prop} (h0 : ok 0 → P 0) (hs : ∀ a b, Rch succ ok a → P a → b ∈ succ a → ok b → P b) : ∀ {b : Nat}, Rch succ ok b → P b := by
  have key : ∀ l b, Way succ ok l b → P b := by
    intro l
    induction l with
    | nil => rintro b ⟨rfl, h⟩; exact h0 h
    | cons a l ih => rintro b ⟨hl, hb, ho⟩; exact hs a b ⟨l, hl⟩ (ih a hl) hb ho
  rintro b ⟨l, hl⟩
  exact key l b hl
theorem Rch.okay {b : Nat} (h : Rch succ ok b) : ok b := Rch.ind (P := ok) (fun h => h) (fun _ _ _ _ _ ho => ho) h
theorem Rch.mono {b : Nat} (h : Rch succ ok b) (h1 : ∀ a x, x ∈ succ a → ok x → x ∈ succ' a) (h2 : ∀ x, ok x → ok' x) : Rch succ' ok' b :=
  Rch.ind (P := fun b => Rch succ' ok' b) (fun h => Rch.zero (h2 _ h)) (fun a b _ ih hb ho => ih.step (h1 a b hb ho) (h2 _ ho)) h
theorem Rch.all {b : Nat} (h : Rch succ ok b) : Rch succ All b := h.mono (fun _ _ h _ => h) (fun _ _ => trivial)
theorem Rch.lt {n b : Nat} (hn : 0 < n) (hs : ∀ a x, x ∈ succ a → x < n) (h : Rch succ ok b) : b < n :=
  Rch.ind (P := fun b => b < n) (fun _ => hn) (fun a b _ _ hb _ => hs a b hb) h
end

/-- a is above b: b is reached, but not without a. -/
def Dom (succ : Nat → List Nat) (a b : Nat) : Prop := Rch succ All b ∧ ¬ Rch succ (Not_ a) b

section
variable {succ succ' : Nat → List Nat}

theorem Dom.self {b : Nat} (h : Rch succ All b) : Dom succ b b := ⟨h, fun h => h.okay rfl⟩
theorem Dom.reached {a b : Nat} (h : Dom succ a b) : Rch succ All a := by
  refine Classical.byContradiction fun hn => h.2 ?_
  have key : ∀ x, Rch succ All x → Rch succ (Not_ a) x := fun x hx =>
    Rch.ind (P := fun x => Rch succ (Not_ a) x) (fun _ => Rch.zero (fun e => hn (e ▸ Rch.zero trivial))) (fun y z hy ih hz _ => ih.step hz (fun e => hn (e ▸ hy.step hz trivial))) hx
  exact key b h.1
theorem Dom.pred {a b k : Nat} (h : Dom succ a b) (hne : a ≠ b) (hk : Rch succ All k) (hb : b ∈ succ k) : Dom succ a k :=
  ⟨hk, fun hr => h.2 (hr.step hb (Ne.symm hne))⟩
theorem Dom.zero {a : Nat} (h : Dom succ a 0) : a = 0 := Classical.byContradiction fun hne => h.2 (Rch.zero (Ne.symm hne))
/-- Of two that are above a third one, one is above the other. -/
theorem Dom.line {a c b : Nat} (ha : Dom succ a b) (hc : Dom succ c b) : Dom succ a c ∨ Dom succ c a := by
  refine Classical.byContradiction fun hn => ?_
  have h1 : Rch succ (Not_ a) c := Classical.byContradiction fun h => hn (.inl ⟨hc.reached, h⟩)
  have h2 : Rch succ (Not_ c) a := Classical.byContradiction fun h => hn (.inr ⟨ha.reached, h⟩)
  have hac : a ≠ c := fun e => h1.okay e.symm
  have key : ∀ x, Rch succ All x → Rch succ (Not_ a) x ∨ Rch succ (Not_ c) x := fun x hx => by
    refine Rch.ind (P := fun x => Rch succ (Not_ a) x ∨ Rch succ (Not_ c) x) (fun _ => ?_) (fun y z _ ih hz _ => ?_) hx
    · by_cases e : 0 = a
      · exact .inr (Rch.zero (fun e' => hac (e ▸ e' ▸ rfl)))
      · exact .inl (Rch.zero e)
    · rcases ih with ih | ih
      · by_cases e : z = a
        · exact .inr (e ▸ h2)
        · exact .inl (ih.step hz e)
      · by_cases e : z = c
        · exact .inl (e ▸ h1)
        · exact .inr (ih.step hz e)
  rcases key b ha.1 with h | h
  · exact ha.2 h
  · exact hc.2 h

/-- Fewer ways: no more is reached; what still is keeps what was above it. -/
theorem Rch.less {ok : Nat → Prop} {b : Nat} (hs : ∀ a x, x ∈ succ' a → x ∈ succ a) (h : Rch succ' ok b) : Rch succ ok b := h.mono (fun a x hx _ => hs a x hx) (fun _ h => h)
theorem Dom.less {a b : Nat} (hs : ∀ a x, x ∈ succ' a → x ∈ succ a) (h : Dom succ a b) (hb : Rch succ' All b) : Dom succ' a b := ⟨hb, fun hr => h.2 (hr.less hs)⟩

/-- A block that goes nowhere. -/
theorem cut_reach {b : Nat} (he : ∀ a, a ≠ b → succ' a = succ a) (h0 : succ' b = []) (c : Nat) (hc : c ≠ b) : Rch succ' All c ↔ Rch succ (Not_ b) c := by
  refine ⟨fun h => ?_, fun h => ?_⟩
  · have := Rch.ind (succ := succ') (ok := All) (P := fun x => x = b ∨ Rch succ (Not_ b) x) (fun _ => ?_) (fun x y _ ih hy _ => ?_) h
    · exact this.resolve_left hc
    · by_cases e : 0 = b
      · exact .inl e
      · exact .inr (Rch.zero e)
    · rcases ih with rfl | ih
      · rw [h0] at hy; cases hy
      · by_cases e : y = b
        · exact .inl e
        · exact .inr (ih.step (by rw [he x ih.okay] at hy; exact hy) e)
  · exact Rch.ind (P := fun x => Rch succ' All x) (fun _ => Rch.zero trivial) (fun x y hx ih hy _ => ih.step (by rw [he x hx.okay]; exact hy) trivial) h
theorem cut_self {b : Nat} (he : ∀ a, a ≠ b → succ' a = succ a) (h0 : succ' b = []) : Rch succ' All b ↔ Rch succ All b := by
  refine ⟨fun h => h.less (fun a x hx => ?_), fun h => ?_⟩
  · by_cases e : a = b
    · rw [e, h0] at hx; cases hx
    · rw [← he a e]; exact hx
  · have := Rch.ind (succ := succ) (ok := All) (P := fun x => Rch succ' All b ∨ Rch succ' All x) (fun _ => .inr (Rch.zero trivial)) (fun x y _ ih hy _ => ?_) h
    · exact this.elim id id
    · rcases ih with ih | ih
      · exact .inl ih
      · by_cases e : x = b
        · exact .inl (e ▸ ih)
        · exact .inr (ih.step (by rw [he x e]; exact hy) trivial)
end

/-- How many of the first n a row of truths has. -/
def cntB (n : Nat) (c : Nat → Bool) : Nat := ((List.range n).filter c).length
theorem cntB_succ (n : Nat) (c : Nat → Bool) : cntB (n + 1) c = cntB n c + (if c n then 1 else 0) := by
  unfold cntB
  rw [List.range_succ, List.filter_append, List.length_append]
  by_cases h : c n <;> simp [h]
theorem cntB_le (n : Nat) (c : Nat → Bool) : cntB n c ≤ n := by
  have := List.length_filter_le c (List.range n)
  simpa [cntB] using this
theorem cntB_mono {n : Nat} {c d : Nat → Bool} (h : ∀ i, i < n → c i = true → d i = true) : cntB n c ≤ cntB n d := by
  induction n with
  | zero => simp [cntB]
  | succ n ih =>
    rw [cntB_succ, cntB_succ]
    have := ih (fun i hi => h i (by omega))
    have h1 := h n (by omega)
    by_cases e : c n = true
    · rw [if_pos e, if_pos (h1 e)]; omega
    · rw [if_neg e]; split <;> omega
theorem cntB_lt {n : Nat} {c d : Nat → Bool} (h : ∀ i, i < n → c i = true → d i = true) {k : Nat} (hk : k < n) (h1 : c k = false) (h2 : d k = true) : cntB n c < cntB n d := by
  induction n with
  | zero => omega
  | succ n ih =>
    rw [cntB_succ, cntB_succ]
    have h' := h n (by omega)
    by_cases e : k = n
    · subst e
      have := cntB_mono (n := k) (c := c) (d := d) (fun i hi => h i (by omega))
      rw [h1, h2]; simp; omega
    · have := ih (fun i hi => h i (by omega)) (by omega)
      by_cases e : c n = true
      · rw [if_pos e, if_pos (h' e)]; omega
      · rw [if_neg e]; split <;> omega
theorem cntB_pos {n : Nat} {c : Nat → Bool} {k : Nat} (hk : k < n) (h : c k = true) : 0 < cntB n c := by
  have := cntB_lt (n := n) (c := fun _ => false) (d := c) (fun i _ h => by cases h) hk rfl h
  omega

end Go.Proofs.Ytjaapempahigaaa
