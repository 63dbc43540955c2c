/- slices.Insert of one number. -/
import Derived.Test.YtjaapempahigaaaFl6
namespace Go.Proofs.Ytjaapempahigaaa
open Go.RowKit

def insN (l : List Nat) (p b : Nat) : List Nat := l.take p ++ b :: l.drop p
theorem insN_len {l : List Nat} {p b : Nat} (hp : p ≤ l.length) : (insN l p b).length = l.length + 1 := by
  unfold insN; simp; omega
theorem insN_at {l : List Nat} {p b : Nat} (hp : p ≤ l.length) (i : Nat) : (insN l p b)[i]? = if i < p then l[i]? else if i = p then some b else l[i - 1]? := by
  unfold insN
  by_cases h : i < p
  · rw [if_pos h, List.getElem?_append_left (by simp; omega), List.getElem?_take, if_pos h]
  · rw [if_neg h, List.getElem?_append_right (by simp; omega)]
    have e : (l.take p).length = p := by simp; omega
    rw [e]
    by_cases h2 : i = p
    · rw [if_pos h2, h2, Nat.sub_self]; rfl
    · rw [if_neg h2]
      obtain ⟨j, rfl⟩ : ∃ j, i = p + (j + 1) := ⟨i - p - 1, by omega⟩
      rw [show p + (j + 1) - p = j + 1 by omega, List.getElem?_cons_succ, List.getElem?_drop]
      congr 1
theorem zero_size (n : Nat) : (Builtin.zeroCells (Value.int .i64 0).cells n).size = n := by
  simp [Builtin.zeroCells, Value.cells]

theorem add_head (g i : Nat) : (⟨g, 0, none⟩ : Addr).add i = ⟨g, i, none⟩ := by
  unfold Addr.add
  by_cases h : i = 0
  · rw [if_pos h, h]
  · rw [if_neg h]; simp

theorem news1 {w : World} {vb : Nat} {b : Nat} (hvb : Blk w vb 3 #[.int .i64 (b : Nat)]) : ∀ (j : Nat) (v : Value), [Value.int .i64 (b : Nat)][j]? = some v → w.cell? ⟨vb, 0 + j, none⟩ = some v := by
  intro j v hj
  rw [Nat.zero_add, hvb.cell]
  simpa using hj

theorem vals_at (l : List Nat) (j : Nat) (v : Value) (h : (l.map fun x => Value.int .i64 (x : Nat))[j]? = some v) : ∃ x : Nat, l[j]? = some x ∧ v = .int .i64 (x : Nat) := by
  rw [List.getElem?_map] at h
  obtain ⟨x, hx, rfl⟩ := Option.map_eq_some_iff.1 h
  exact ⟨x, hx, rfl⟩
theorem vals_one (l : List Nat) : ∀ v ∈ l.map (fun x => Value.int .i64 (x : Nat)), v.oneCell' = true := by
  intro v hv
  obtain ⟨x, _, rfl⟩ := List.mem_map.1 hv
  rfl

theorem insert_ok (B : Nat) (v : Value) (l : List Nat) (p b vb : Nat) (w : World) (h : Ints w B v l) (hB : B ≤ w.heap.size) (hp : p ≤ l.length) (hvb : Blk w vb 3 #[.int .i64 (b : Nat)]) (hne : v.ownBlock ≠ some vb) (hsmall : l.length ≤ 1000) :
    Calls Try.prog 57 #[v, .int .i64 (p : Nat), .slice (some ⟨vb, 0, none⟩) 1 1] w fun e w' =>
      ∃ g c, e = .returned (.slice (some ⟨g, 0, none⟩) (l.length + 1) c) ∧ Ints w' B (.slice (some ⟨g, 0, none⟩) (l.length + 1) c) (insN l p b) ∧ Mod (fun k => v.ownBlock = some k) w w' := by
  -- a new row at the end
  have grown : ∀ (base : Option Addr) (n c : Nat), v = .slice base n c → n = l.length → p = l.length → n ≤ c → c < n + 1 → (base = none → n = 0) → (∀ a, base = some a → ∀ (j : Nat) (u : Value), (l.map fun x => Value.int .i64 (x : Nat))[j]? = some u → w.cell? (a.add j) = some u) →
      Calls Try.prog 57 #[v, .int .i64 (p : Nat), .slice (some ⟨vb, 0, none⟩) 1 1] w fun e w' =>
      ∃ g c, e = .returned (.slice (some ⟨g, 0, none⟩) (l.length + 1) c) ∧ Ints w' B (.slice (some ⟨g, 0, none⟩) (l.length + 1) c) (insN l p b) ∧ Mod (fun k => v.ownBlock = some k) w w' := by
    rintro base n c rfl rfl rfl hnc hroom hnil hcs
    refine (Try.slices_Insert_int_end_grow base l.length c vb 0 1 1 (l.map fun x => Value.int .i64 (x : Nat)) [.int .i64 (b : Nat)] w (by omega) hnc hroom (by omega) (by simp) rfl hnil hcs (news1 hvb) (by simp [Value.oneCell'])).mono ?_
    rintro e w' ⟨he, rfl⟩
    refine ⟨_, _, he, ?_, ((Mod.refl _ w).drew).alloc _⟩
    have hge := grownCap_ge w (l.length + 1) c 3
    have hle := grownCap_le_maxLen w (l.length + 1) c 3 (by unfold maxLen; omega)
    have := Ints.of_blk (l := insN l l.length b) (c := grownCap w (l.length + 1) c 3) (B := B) (g := w.heap.size) hB (Blk.new w.drew 3 (((l.map fun x => Value.int .i64 (x : Nat)) ++ [Value.int .i64 (b : Nat)]).toArray ++ Builtin.zeroCells (Value.int .i64 0).cells (grownCap w (l.length + 1) c 3 - (l.length + 1))))
      (by rw [Array.size_append, zero_size]; simp; omega) (by rw [insN_len (Nat.le_refl _)]; exact hge) hle (fun i x hi => ?_)
    · rw [insN_len (Nat.le_refl _)] at this; exact this
    · rw [insN_at (Nat.le_refl _)] at hi
      by_cases h1 : i < l.length
      · rw [if_pos h1] at hi
        rw [Array.getElem?_append_left (by simp; omega), List.getElem?_toArray, List.getElem?_append_left (by simpa using h1), List.getElem?_map, hi]
        rfl
      · rw [if_neg h1] at hi
        by_cases h2 : i = l.length
        · rw [if_pos h2] at hi
          cases hi
          subst h2
          rw [Array.getElem?_append_left (by simp), List.getElem?_toArray, List.getElem?_append_right (by simp)]
          simp
        · rw [if_neg h2, List.getElem?_eq_none (by omega)] at hi
          cases hi
  rcases h.form with ⟨rfl, rfl⟩ | ⟨g, c, cur, rfl, hg, hb, hs, hle, hmx, hx⟩
  · exact grown none 0 0 rfl rfl (by simpa using hp) (by omega) (by omega) (fun _ => rfl) (fun a ha => by cases ha)
  have hcell : ∀ (j : Nat) (u : Value), (l.map fun x => Value.int .i64 (x : Nat))[j]? = some u → w.cell? ⟨g, 0 + j, none⟩ = some u := fun j u hj => by
    obtain ⟨x, hx', rfl⟩ := vals_at l j u hj
    rw [Nat.zero_add, hb.cell, hx j x hx']
  by_cases hpe : p = l.length
  · by_cases hroom : l.length + 1 ≤ c
    · subst hpe
      refine (Try.slices_Insert_int_end_room g 0 l.length c vb 0 1 1 [.int .i64 (b : Nat)] w (by omega) hroom hmx rfl (fun j hj => ?_) (fun j _ => hb.frozen _) (news1 hvb) (by simp [Value.oneCell'])).mono ?_
      · rw [hb.cell, Array.getElem?_eq_getElem (by omega)]; rfl
      · rintro e w' ⟨he, rfl⟩
        obtain ⟨cs', k1, k2, k3, k4, k5⟩ := Blk.setCells [.int .i64 (b : Nat)] (0 + l.length) w cur hb (by simp; omega)
        refine ⟨_, _, he, ?_, k5.mono (fun k _ e => by rw [e]; rfl)⟩
        have := Ints.of_blk (l := insN l l.length b) (c := c) (B := B) (g := g) hg k1 (by omega) (by rw [insN_len (Nat.le_refl _)]; exact hroom) hmx (fun i x hi => ?_)
        · rw [insN_len (Nat.le_refl _)] at this; exact this
        · rw [insN_at (Nat.le_refl _)] at hi
          by_cases h1 : i < l.length
          · rw [if_pos h1] at hi
            rw [k3 i (by omega)]
            exact hx i x hi
          · rw [if_neg h1] at hi
            by_cases h2 : i = l.length
            · rw [if_pos h2] at hi
              cases hi
              have := k4 0 _ rfl
              rw [h2]
              simpa using this
            · rw [if_neg h2, List.getElem?_eq_none (by omega)] at hi
              cases hi
    · exact grown (some ⟨g, 0, none⟩) l.length c rfl rfl hpe hle (by omega) (fun h => by cases h) (fun a ha j u hj => by cases ha; rw [add_head]; have := hcell j u hj; rwa [Nat.zero_add] at this)
  · have hpl : p < l.length := by omega
    have hins : ∀ {cs' : Array Value}, (∀ (i x : Nat), i < p → l[i]? = some x → cs'[i]? = some (.int .i64 (x : Nat))) → cs'[p]? = some (.int .i64 (b : Nat)) → (∀ (i x : Nat), p < i → l[i - 1]? = some x → cs'[i]? = some (.int .i64 (x : Nat))) → ∀ (i x : Nat), (insN l p b)[i]? = some x → cs'[i]? = some (.int .i64 (x : Nat)) := by
      intro cs' a1 a2 a3 i x hi
      rw [insN_at hp] at hi
      by_cases h1 : i < p
      · rw [if_pos h1] at hi; exact a1 i x h1 hi
      · rw [if_neg h1] at hi
        by_cases h2 : i = p
        · rw [if_pos h2] at hi; cases hi; rw [h2]; exact a2
        · rw [if_neg h2] at hi; exact a3 i x (by omega) hi
    have hdrop : ∀ (i x : Nat), p < i → l[i - 1]? = some x → ((l.map fun x => Value.int .i64 (x : Nat)).drop p)[i - (p + 1)]? = some (.int .i64 (x : Nat)) := by
      intro i x h1 h2
      rw [List.getElem?_drop, show p + (i - (p + 1)) = i - 1 by omega, List.getElem?_map, h2]; rfl
    by_cases hroom : l.length + 1 ≤ c
    · refine (Try.slices_Insert_int_shift g 0 l.length c p vb 0 1 1 (l.map fun x => Value.int .i64 (x : Nat)) [.int .i64 (b : Nat)] w hpl (by omega) hroom hmx (fun e => hne (by rw [e]; rfl)) (by simp) rfl hcell (fun j hj => ?_) (fun j _ => hb.frozen _) (news1 hvb) (vals_one l) (by simp [Value.oneCell']) 3 3 1 c ?_ ?_ (by omega) (hvb.frozen _) (hvb.frozen _)).mono ?_
      · rw [hb.cell, Array.getElem?_eq_getElem (by omega)]; rfl
      · have := hvb; unfold Blk at this; simp [World.shape?, this]
      · have := hb; unfold Blk at this; simp [World.shape?, this, hs]
      · rintro e w' ⟨he, rfl⟩
        have hb1 : Blk w.drew g 3 cur := hb
        obtain ⟨c1, j1, j2, j3, j4, j5⟩ := Blk.setCells ((l.map fun x => Value.int .i64 (x : Nat)).drop p) (0 + (p + 1)) w.drew cur hb1 (by simp; omega)
        obtain ⟨c2, k1, k2, k3, k4, k5⟩ := Blk.setCells [.int .i64 (b : Nat)] (0 + p) _ c1 j1 (by simp; omega)
        refine ⟨_, _, he, ?_, (((Mod.refl (fun k => k = g) w).drew.trans j5).trans k5).mono (fun k _ e => by rw [e]; rfl)⟩
        have := Ints.of_blk (l := insN l p b) (c := c) (B := B) (g := g) hg k1 (by omega) (by rw [insN_len hp]; exact hroom) hmx (hins (fun i x h1 h2 => ?_) ?_ (fun i x h1 h2 => ?_))
        · rw [insN_len hp] at this; exact this
        · rw [k3 i (by omega), j3 i (by omega)]; exact hx i x h2
        · have := k4 0 _ rfl; simpa using this
        · rw [k3 i (by simp; omega)]
          have := j4 _ _ (hdrop i x h1 h2)
          rwa [show 0 + (p + 1) + (i - (p + 1)) = i by omega] at this
    · refine (Try.slices_Insert_int_grow g 0 l.length c p vb 0 1 1 (l.map fun x => Value.int .i64 (x : Nat)) [.int .i64 (b : Nat)] w hpl (by omega) hle (by omega) (by omega) (by simp) rfl hcell (news1 hvb) (vals_one l) (by simp [Value.oneCell'])).mono ?_
      rintro e w' ⟨he, rfl⟩
      have hge := grownCap_ge w (l.length + 1) c 3
      have hgl := grownCap_le_maxLen w (l.length + 1) c 3 (by unfold maxLen; omega)
      have hb0 := Blk.new w 3 (((l.map fun x => Value.int .i64 (x : Nat)).take p).toArray ++ Builtin.zeroCells (Value.int .i64 0).cells (l.length + 1 - p) ++ Builtin.zeroCells (Value.int .i64 0).cells (grownCap w (l.length + 1) c 3 - (l.length + 1)))
      have hsz0 : (((l.map fun x => Value.int .i64 (x : Nat)).take p).toArray ++ Builtin.zeroCells (Value.int .i64 0).cells (l.length + 1 - p) ++ Builtin.zeroCells (Value.int .i64 0).cells (grownCap w (l.length + 1) c 3 - (l.length + 1))).size = grownCap w (l.length + 1) c 3 := by
        rw [Array.size_append, Array.size_append, zero_size, zero_size]; simp; omega
      have hz0 : ∀ (i x : Nat), i < p → l[i]? = some x → (((l.map fun x => Value.int .i64 (x : Nat)).take p).toArray ++ Builtin.zeroCells (Value.int .i64 0).cells (l.length + 1 - p) ++ Builtin.zeroCells (Value.int .i64 0).cells (grownCap w (l.length + 1) c 3 - (l.length + 1)))[i]? = some (.int .i64 (x : Nat)) := by
        intro i x h1 h2
        rw [Array.getElem?_append_left (by rw [Array.size_append, zero_size]; simp; omega), Array.getElem?_append_left (by simp; omega), List.getElem?_toArray, List.getElem?_take, if_pos h1, List.getElem?_map, h2]
        rfl
      have hmA : Mod (fun k => (Value.slice (some ⟨g, 0, none⟩) l.length c).ownBlock = some k) w (w.alloc (.cells (((l.map fun x => Value.int .i64 (x : Nat)).take p).toArray ++ Builtin.zeroCells (Value.int .i64 0).cells (l.length + 1 - p) ++ Builtin.zeroCells (Value.int .i64 0).cells (grownCap w (l.length + 1) c 3 - (l.length + 1))) 3)) := (Mod.refl _ w).alloc _
      generalize (((l.map fun x => Value.int .i64 (x : Nat)).take p).toArray ++ Builtin.zeroCells (Value.int .i64 0).cells (l.length + 1 - p) ++ Builtin.zeroCells (Value.int .i64 0).cells (grownCap w (l.length + 1) c 3 - (l.length + 1))) = Z at *
      obtain ⟨c1, j1, j2, j3, j4, j5⟩ := Blk.setCells [.int .i64 (b : Nat)] p _ Z hb0.drew (by simp; omega)
      obtain ⟨c2, k1, k2, k3, k4, k5⟩ := Blk.setCells ((l.map fun x => Value.int .i64 (x : Nat)).drop p) (p + 1) _ c1 j1.drew (by simp; omega)
      refine ⟨_, _, he, ?_, ?_⟩
      · have := Ints.of_blk (l := insN l p b) (c := grownCap w (l.length + 1) c 3) (B := B) (g := w.heap.size) hB k1 (by omega) (by rw [insN_len hp]; exact hge) hgl (hins (fun i x h1 h2 => ?_) ?_ (fun i x h1 h2 => ?_))
        · rw [insN_len hp] at this; exact this
        · rw [k3 i (by omega), j3 i (by omega)]; exact hz0 i x h1 h2
        · rw [k3 p (by omega)]; have := j4 0 _ rfl; simpa using this
        · have := k4 _ _ (hdrop i x h1 h2)
          rwa [show p + 1 + (i - (p + 1)) = i by omega] at this
      · exact ((hmA.drew.trans' j5 (fun i hi e => absurd hi (by omega))).drew).trans' k5 (fun i hi e => absurd hi (by omega))

end Go.Proofs.Ytjaapempahigaaa
