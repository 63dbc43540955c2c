/- The library's slices, in this proof's words. -/
import Derived.Test.YtjaapempahigaaaFl5
import Derived.Test.YtjaapempahigaaaShelf
import Derived.Lib.OwnBridge
import Derived.Laws.IdiomCopy
namespace Go.Proofs.Ytjaapempahigaaa
open Go.RowKit

def zs (l : List Nat) : List Int := l.map fun (x : Nat) => (x : Int)
theorem zs_len (l : List Nat) : (zs l).length = l.length := by simp [zs]
theorem zs_enc (l : List Nat) : (zs l).map (Value.int .i64) = l.map fun x => Value.int .i64 (x : Nat) := by simp [zs]
theorem zs_getD (l : List Nat) (j x : Nat) (h : l[j]? = some x) : (zs l).getD j 0 = (x : Int) := by
  rw [List.getD_eq_getElem?_getD]; simp [zs, h]

/-- A row of numbers: nil and empty, or a block of its own. -/
theorem Ints.form {w : World} {B : Nat} {v : Value} {l : List Nat} (h : Ints w B v l) :
    (v = .slice none 0 0 ∧ l = []) ∨ ∃ g c cur, v = .slice (some ⟨g, 0, none⟩) l.length c ∧ B ≤ g ∧ Blk w g 3 cur ∧ cur.size = c ∧ l.length ≤ c ∧ c ≤ 9223372036854775807 ∧ ∀ (i x : Nat), l[i]? = some x → cur[i]? = some (Value.int .i64 (x : Nat)) := by
  rcases h.2 with ⟨rfl, h0⟩ | ⟨g, cap, cur, rfl, hg, hb, hle, hmx, hsz, htk⟩
  · exact .inl ⟨rfl, List.eq_nil_of_length_eq_zero h0⟩
  · refine .inr ⟨g, cap, cur, rfl, hg, hb, by omega, hle, hmx, fun i x hi => ?_⟩
    have hil := (List.getElem?_eq_some_iff.1 hi).1
    have e : (l.map fun x => Value.int .i64 (x : Nat))[i]? = some (.int .i64 (x : Nat)) := by simp [hi]
    rw [← htk, List.getElem?_take_of_lt (by omega), Array.getElem?_toList] at e
    exact e
theorem Ints.of_blk {w : World} {B g c : Nat} {cur : Array Value} {l : List Nat} (hg : B ≤ g) (hb : Blk w g 3 cur) (hs : cur.size = c) (hle : l.length ≤ c) (hmx : c ≤ maxLen) (hx : ∀ (i x : Nat), l[i]? = some x → cur[i]? = some (Value.int .i64 (x : Nat))) :
    Ints w B (.slice (some ⟨g, 0, none⟩) l.length c) l := by
  refine ⟨by simp, .inr ⟨g, c, cur, rfl, hg, hb, hle, hmx, by omega, ?_⟩⟩
  apply List.ext_getElem?
  intro i
  rw [List.getElem?_take, Nat.mul_one, List.getElem?_map]
  by_cases hi : i < l.length
  · rw [if_pos hi, Array.getElem?_toList, hx i l[i] (List.getElem?_eq_getElem hi), List.getElem?_eq_getElem hi]
    rfl
  · rw [if_neg hi, List.getElem?_eq_none (by omega)]
    rfl
theorem Ints.base {w : World} {B B' : Nat} {v : Value} {l : List Nat} (h : Ints w B v l) (hb : B' ≤ B) : Ints w B' v l := row_le h hb
theorem Ints.mod {w w' : World} {B : Nat} {v : Value} {l : List Nat} (h : Ints w B v l) (hm : Mod NoBlk w w') : Ints w' B v l := row_mod h hm (fun _ _ h => h)

theorem mod_putRow {w : World} {g q : Nat} (d : Array Int) : Mod (fun k => k = g) w (Sort.putRow (Value.int .i64) (Sort.ahead w q) g 0 d) :=
  ⟨rfl, rfl, rfl, by simp [Sort.putRow, Sort.mapBlock, Sort.ahead], fun k _ hS => by
    simp [Sort.putRow, Sort.mapBlock, Sort.ahead, Array.getElem?_modify, show g ≠ k from fun e => hS e.symm]⟩

theorem reverse_ok (B : Nat) (v : Value) (l : List Nat) (w : World) (h : Ints w B v l) (hsmall : l.length ≤ 1000) :
    Calls Try.prog 53 #[v] w fun e w' => e = .returned (.tuple #[]) ∧ Ints w' B v l.reverse ∧ Mod (fun k => v.ownBlock = some k) w w' := by
  by_cases h0 : l = []
  · subst h0
    rcases h.form with ⟨rfl, _⟩ | ⟨g, c, cur, rfl, _⟩
    · exact (Try.slices_Reverse_int_empty none 0 w).mono fun _ _ ⟨he, hw⟩ => ⟨he, hw ▸ h, hw ▸ Mod.refl _ _⟩
    · exact (Try.slices_Reverse_int_empty (some ⟨g, 0, none⟩) c w).mono fun _ _ ⟨he, hw⟩ => ⟨he, hw ▸ h, hw ▸ Mod.refl _ _⟩
  · have hv : v ≠ .slice none 0 0 := by
      rintro rfl
      rcases h.form with ⟨_, h1⟩ | ⟨_, _, _, h1, _⟩
      · exact h0 h1
      · cases h1
    have h' : w.ownsRow B 3 1 v l.length ((zs l).map (Value.int .i64)) := by rw [zs_enc]; exact h
    obtain ⟨g, cap, rfl, hB, hlt, hn, hm, hl, hH⟩ := Lib.holds_of_ownsRow h' hv
    have hc := Try.slices_Reverse_int g 0 cap (zs l) w hH (by rw [hl]; omega)
    rw [hl] at hc
    refine hc.mono ?_
    rintro e w' ⟨he, q, rfl⟩
    refine ⟨he, ?_, (mod_putRow _).mono fun k _ e => by rw [e]; rfl⟩
    have := Lib.ownsRow_putRow (q := q) (k := l.length) (ys := (zs l).reverse) h' (by simp [zs_len]) (Nat.le_refl _)
    unfold Ints
    rw [List.length_reverse]
    have e1 : ((zs l).reverse.take l.length).map (Value.int .i64) = l.reverse.map fun x => Value.int .i64 (x : Nat) := by
      rw [List.take_of_length_le (by simp [zs_len]), List.map_reverse, zs_enc, ← List.map_reverse]
    rw [e1] at this
    exact this

theorem clone_ok (B : Nat) (v : Value) (l : List Nat) (w : World) (h : Ints w B v l) (hsmall : l.length ≤ 1000) :
    Calls Try.prog 58 #[v] w fun e w' => ∃ v', e = .returned v' ∧ Ints w' w.heap.size v' l ∧ Mod NoBlk w w' := by
  rcases h.form with ⟨rfl, rfl⟩ | ⟨g, c, cur, rfl, hB, hb, hs, hle, hmx, hx⟩
  · exact (Try.slices_Clone_int_nil 0 0 w).mono fun _ _ ⟨he, hw⟩ => ⟨_, he, hw ▸ World.ownsRow_nil _ _ _ _, hw ▸ Mod.refl _ _⟩
  · refine (Try.slices_Clone_int g 0 l.length c (zs l) w (by rw [zs_len]; exact Nat.le_refl _) (by omega) (fun j hj => ?_)).mono ?_
    · rw [zs_len] at hj
      rw [Nat.zero_add, hb.cell, hx j l[j] (List.getElem?_eq_getElem hj), zs_getD l j l[j] (List.getElem?_eq_getElem hj)]
    · rintro e w' ⟨v', he, ho, _, hbl⟩
      refine ⟨v', he, ?_, Mod.ofBelow hbl⟩
      rw [List.take_of_length_le (by rw [zs_len]; exact Nat.le_refl _), zs_enc] at ho
      exact ho

theorem equal_ok (B1 B2 : Nat) (v1 v2 : Value) (l1 l2 : List Nat) (w : World) (h1 : Ints w B1 v1 l1) (h2 : Ints w B2 v2 l2) (hs1 : l1.length ≤ 1000) (hs2 : l2.length ≤ 1000) :
    Calls Try.prog 59 #[v1, v2] w fun e w' => e = .returned (.bool (decide (l1 = l2))) ∧ Mod NoBlk w w' := by
  have hf1 : ∃ a c, v1 = .slice a l1.length c := by
    rcases h1.form with ⟨rfl, rfl⟩ | ⟨g, c, _, rfl, _⟩
    · exact ⟨_, _, rfl⟩
    · exact ⟨_, _, rfl⟩
  have hf2 : ∃ a c, v2 = .slice a l2.length c := by
    rcases h2.form with ⟨rfl, rfl⟩ | ⟨g, c, _, rfl, _⟩
    · exact ⟨_, _, rfl⟩
    · exact ⟨_, _, rfl⟩
  obtain ⟨a1, c1, rfl⟩ := hf1
  obtain ⟨a2, c2, rfl⟩ := hf2
  by_cases hl : l1.length = l2.length
  · by_cases h0 : l1 = []
    · subst h0
      have : l2 = [] := List.eq_nil_of_length_eq_zero (by simpa using hl.symm)
      subst this
      exact (Try.slices_Equal_int_empty a1 a2 c1 0 c2 w (by omega)).mono fun _ _ ⟨he, hw⟩ => ⟨by simpa using he, hw ▸ Mod.refl _ _⟩
    · have h0' : l2 ≠ [] := fun e => h0 (List.eq_nil_of_length_eq_zero (by rw [hl, e]; rfl))
      rcases h1.form with ⟨_, e⟩ | ⟨g1, d1, cur1, e1, _, hb1, _, _, _, hx1⟩
      · exact absurd e h0
      · rcases h2.form with ⟨_, e⟩ | ⟨g2, d2, cur2, e2, _, hb2, _, _, _, hx2⟩
        · exact absurd e h0'
        · cases e1; cases e2
          refine (Try.slices_Equal_int g1 0 l1.length c1 g2 0 l2.length c2 (zs l1) (zs l2) w (by rw [zs_len]; exact Nat.le_refl _) (by rw [zs_len]; exact Nat.le_refl _) (by omega) (by omega) (fun j hj => ?_) (fun j hj => ?_)).mono ?_
          · rw [zs_len] at hj
            rw [Nat.zero_add, hb1.cell, hx1 j l1[j] (List.getElem?_eq_getElem hj), zs_getD l1 j l1[j] (List.getElem?_eq_getElem hj)]
          · rw [zs_len] at hj
            rw [Nat.zero_add, hb2.cell, hx2 j l2[j] (List.getElem?_eq_getElem hj), zs_getD l2 j l2[j] (List.getElem?_eq_getElem hj)]
          · rintro e w' ⟨he, q, rfl⟩
            refine ⟨?_, (Mod.refl _ w).drewN q⟩
            rw [he, List.take_of_length_le (by rw [zs_len]; exact Nat.le_refl _), List.take_of_length_le (by rw [zs_len]; exact Nat.le_refl _)]
            congr 2
            have : (zs l1 = zs l2) ↔ l1 = l2 := by
              constructor
              · intro h
                unfold zs at h
                exact (List.map_inj_right (fun a b hab => by omega)).1 h
              · rintro rfl; rfl
            by_cases hd : l1 = l2
            · subst hd; simp
            · have : zs l1 ≠ zs l2 := fun h => hd (this.1 h)
              simp [hd, this]
  · refine (Try.slices_Equal_int_lens a1 a2 l1.length c1 l2.length c2 w hl).mono ?_
    rintro e w' ⟨he, rfl⟩
    have : l1 ≠ l2 := fun e => hl (by rw [e])
    exact ⟨by simp [he, this], Mod.refl _ _⟩

theorem search_ok (B : Nat) (v : Value) (l : List Nat) (x : Nat) (w : World) (h : Ints w B v l) (hsmall : l.length ≤ 1000) (hsrt : Srt l) :
    Calls Try.prog 56 #[v, .int .i64 (x : Nat)] w fun e w' => e = .returned (.tuple #[.int .i64 (place l x : Nat), .bool (decide (x ∈ l))]) ∧ Mod NoBlk w w' := by
  rcases h.form with ⟨rfl, rfl⟩ | ⟨g, c, cur, rfl, hB, hb, hs, hle, hmx, hx⟩
  · refine (Try.slices_BinarySearch_int_empty none 0 (x : Nat) w).mono ?_
    rintro e w' ⟨he, rfl⟩
    exact ⟨by simpa [place] using he, Mod.refl _ _⟩
  · refine (Try.slices_BinarySearch_int g 0 l.length c (zs l) (x : Nat) w (by rw [zs_len]; exact Nat.le_refl _) (by omega) (fun j hj => ?_) ?_).mono ?_
    · rw [zs_len] at hj
      rw [Nat.zero_add, hb.cell, hx j l[j] (List.getElem?_eq_getElem hj), zs_getD l j l[j] (List.getElem?_eq_getElem hj)]
    · rw [List.take_of_length_le (by rw [zs_len]; exact Nat.le_refl _)]
      unfold zs
      rw [List.pairwise_map]
      exact hsrt.imp (fun h => by omega)
    · rintro e w' ⟨he, q, rfl⟩
      refine ⟨?_, (Mod.refl _ w).drewN q⟩
      rw [he, List.take_of_length_le (by rw [zs_len]; exact Nat.le_refl _)]
      have e1 : (zs l).countP (fun z => decide (z < (x : Int))) = place l x := by
        unfold zs place
        rw [List.countP_map, List.countP_eq_length_filter]
        congr 1
        apply List.filter_congr
        intro a _
        simp
      have e2 : (zs l).contains (x : Int) = decide (x ∈ l) := by
        have hmem : ((x : Int) ∈ l.map (fun (x : Nat) => (x : Int))) ↔ x ∈ l := by
          rw [List.mem_map]
          constructor
          · rintro ⟨a, ha, e⟩
            have : a = x := by omega
            subst this
            exact ha
          · intro h; exact ⟨x, h, rfl⟩
        unfold zs
        rw [Bool.eq_iff_iff, List.contains_iff_mem, decide_eq_true_iff]
        exact hmem
      rw [e1, e2]

theorem Blk.setCells {g : Nat} {t : TypeId} : ∀ (vs : List Value) (o : Nat) (w : World) (cs : Array Value), Blk w g t cs → o + vs.length ≤ cs.size →
    ∃ cs' : Array Value, Blk (w.setCells g o vs) g t cs' ∧ cs'.size = cs.size ∧ (∀ i, i < o ∨ o + vs.length ≤ i → cs'[i]? = cs[i]?) ∧ (∀ j v, vs[j]? = some v → cs'[o + j]? = some v) ∧ Mod (fun k => k = g) w (w.setCells g o vs) := by
  intro vs
  induction vs with
  | nil => intro o w cs h _; exact ⟨cs, h, rfl, fun _ _ => rfl, fun j v h => by simp at h, Mod.refl _ _⟩
  | cons v vs ih =>
    intro o w cs h hfit
    simp only [List.length_cons] at hfit
    obtain ⟨cs', h1, h2, h3, h4, h5⟩ := ih (o + 1) (w.setCell ⟨g, o, none⟩ v) _ (h.set_ o v) (by simp; omega)
    refine ⟨cs', h1, by simpa using h2, fun i hi => ?_, fun j u hj => ?_, ((Mod.refl (fun k => k = g) w).setCell (p := ⟨g, o, none⟩) (fun _ => rfl) v).trans h5⟩
    · simp only [List.length_cons] at hi
      rw [h3 i (by omega), Array.getElem?_setIfInBounds_ne (by omega)]
    · cases j with
      | zero =>
        simp only [List.getElem?_cons_zero, Option.some.injEq] at hj
        subst hj
        rw [Nat.add_zero, h3 o (by omega), Array.getElem?_setIfInBounds_self_of_lt (by omega)]
      | succ j =>
        simp only [List.getElem?_cons_succ] at hj
        have := h4 j u hj
        rwa [show o + 1 + j = o + (j + 1) by omega] at this

end Go.Proofs.Ytjaapempahigaaa
