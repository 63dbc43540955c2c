/- What the flow laws need of graphs; has, in two forms. -/
import Derived.Test.YtjaapempahigaaaFl16
namespace Go.Proofs.Ytjaapempahigaaa
open Go.RowKit

theorem has_yes (B : Nat) (v : Value) (l : List Nat) (x : Nat) (w : World) (h : Ints w B v l) (hsmall : l.length ≤ 1000) (hx : x ∈ l) :
    Calls Try.prog 41 #[v, .int .i64 (x : Nat)] w fun e w' => e = .returned (.int .i64 (l.idxOf x : Nat)) ∧ w = w' :=
  (has_ok B v l x w h hsmall).mono fun _ _ ⟨he, hw⟩ => ⟨by rw [he]; unfold hasOf; rw [if_pos hx], hw⟩
theorem has_no (B : Nat) (v : Value) (l : List Nat) (x : Nat) (w : World) (h : Ints w B v l) (hsmall : l.length ≤ 1000) (hx : x ∉ l) :
    Calls Try.prog 41 #[v, .int .i64 (x : Nat)] w fun e w' => e = .returned (.int .i64 (-1)) ∧ w = w' :=
  (has_ok B v l x w h hsmall).mono fun _ _ ⟨he, hw⟩ => ⟨by rw [he]; unfold hasOf; rw [if_neg hx], hw⟩
theorem has_yesQ (B : Nat) (v : Value) (l : List Nat) (x : Nat) (w : World) (n : Nat) (h : Ints w B v l) (hsmall : l.length ≤ 1000) (hx : x ∈ l) :
    Calls Try.prog 41 #[v, .int .i64 (x : Nat)] (w.drewN n) fun e w' => e = .returned (.int .i64 (l.idxOf x : Nat)) ∧ ∃ m, w' = w.drewN m :=
  Calls.quiet_of_same ((has_yes B v l x (w.drewN n) (h.mod ((Mod.refl _ w).drewN n)) hsmall hx).mono fun _ _ ⟨he, hw⟩ => ⟨he, hw.symm⟩)
theorem has_noQ (B : Nat) (v : Value) (l : List Nat) (x : Nat) (w : World) (n : Nat) (h : Ints w B v l) (hsmall : l.length ≤ 1000) (hx : x ∉ l) :
    Calls Try.prog 41 #[v, .int .i64 (x : Nat)] (w.drewN n) fun e w' => e = .returned (.int .i64 (-1)) ∧ ∃ m, w' = w.drewN m :=
  Calls.quiet_of_same ((has_no B v l x (w.drewN n) (h.mod ((Mod.refl _ w).drewN n)) hsmall hx).mono fun _ _ ⟨he, hw⟩ => ⟨he, hw.symm⟩)

section
variable {succ : Nat → List Nat} {N : Nat}
theorem ord_mem (hs : ∀ a x, x ∈ succ a → x < N) {b : Nat} (hb : b < N) : b ∈ ordOf succ N ↔ Rch succ All b := by
  unfold ordOf
  rw [List.mem_reverse]
  exact (post_spec hs (by omega)).2.1 b
theorem ord_lt (hs : ∀ a x, x ∈ succ a → x < N) {b : Nat} (hb : b ∈ ordOf succ N) : b < N := by
  have h0 : 0 < N := by
    rcases Nat.eq_zero_or_pos N with h | h
    · subst h; simp [ordOf, postOrd] at hb
    · exact h
  unfold ordOf at hb
  rw [List.mem_reverse, (post_spec hs h0).2.1 b] at hb
  exact Rch.lt h0 hs hb
theorem ord_nodup (hs : ∀ a x, x ∈ succ a → x < N) : (ordOf succ N).Nodup := by
  unfold ordOf
  rcases Nat.eq_zero_or_pos N with h | h
  · subst h; simp [postOrd]
  · exact (Ordered.of (pr := predOf succ N) hs h (fun b k => by simp [predOf])).nodup
theorem ord_len (hs : ∀ a x, x ∈ succ a → x < N) : (ordOf succ N).length ≤ N := by
  unfold ordOf
  rw [List.length_reverse]
  exact post_len succ N hs
theorem ord_head (hs : ∀ a x, x ∈ succ a → x < N) (h : 0 < N) : ∃ l, ordOf succ N = 0 :: l := by
  obtain ⟨_, _, ⟨L0, e⟩, _⟩ := post_spec hs h
  exact ⟨L0.reverse, by unfold ordOf; rw [e]; simp⟩
theorem ord_pos (hs : ∀ a x, x ∈ succ a → x < N) (h : 0 < N) {a b : Nat} (hd : Dom succ a b) : (ordOf succ N).idxOf a ≤ (ordOf succ N).idxOf b := by
  have hO : Ordered succ (predOf succ N) (ordOf succ N) N := Ordered.of hs h (fun b k => by simp [predOf])
  have key : ∀ n b, (ordOf succ N).idxOf b = n → Dom succ a b → (ordOf succ N).idxOf a ≤ n := by
    intro n
    induction n using Nat.strongRecOn with
    | ind n ih =>
      intro b hb hd
      have hbO : b ∈ ordOf succ N := (hO.mem b).2 hd.1
      obtain ⟨O1, O2, e⟩ := List.append_of_mem hbO
      have hp := pos_split hO.nodup e
      unfold posOf at hp
      rcases hO.par O1 b O2 e with rfl | ⟨p, hp1, hp2⟩
      · rw [hd.zero, hb]; omega
      · by_cases hab : a = b
        · rw [hab, hb]; omega
        · have hl := pos_lt e hp1
          unfold posOf at hl
          have hpr : Rch succ All p := (hO.mem p).1 (by rw [e]; exact List.mem_append.2 (.inl hp1))
          have := ih _ (by omega) p rfl (hd.pred hab hpr hp2)
          omega
  exact key _ b rfl hd
theorem cnt_mem : ∀ (n : Nat) (l : List Nat), l.Nodup → (∀ x ∈ l, x < n) → cntB n (fun i => decide (i ∈ l)) = l.length := by
  intro n
  induction n with
  | zero =>
    intro l _ h
    cases l with
    | nil => rfl
    | cons x l => exact absurd (h x (by simp)) (by omega)
  | succ n ih =>
    intro l hd h
    rw [cntB_succ]
    by_cases hn : n ∈ l
    · have h1 := ih (l.erase n) (hd.erase n) (fun x hx => by
        have h2 := (hd.mem_erase_iff).1 hx
        have := h x h2.2
        omega)
      rw [List.length_erase_of_mem hn] at h1
      have h3 : cntB n (fun i => decide (i ∈ l.erase n)) = cntB n (fun i => decide (i ∈ l)) := by
        unfold cntB
        congr 1
        refine List.filter_congr (fun i hi => ?_)
        have hi := List.mem_range.1 hi
        rw [decide_eq_decide, hd.mem_erase_iff]
        exact ⟨fun h => h.2, fun h => ⟨by omega, h⟩⟩
      have h4 : 0 < l.length := List.length_pos_of_mem hn
      rw [h3] at h1
      simp [hn, h1]
      omega
    · have h1 := ih l hd (fun x hx => by
        have := h x hx
        have : x ≠ n := fun e => hn (e ▸ hx)
        omega)
      simp [hn, h1]
theorem abv_len (b : Nat) : (abvOf succ N b).length ≤ N := by
  unfold abvOf
  split
  · have := List.length_filter_le (fun a => decide (a = b ∨ b ∉ postOrd (cutS succ a) N)) (List.range N)
    simpa using this
  · simp
theorem pred_len (b : Nat) : (predOf succ N b).length ≤ N := by
  unfold predOf
  have := List.length_filter_le (fun k => decide (b ∈ succ k)) (List.range N)
  simpa using this
end
end Go.Proofs.Ytjaapempahigaaa
