/- A copy of a function's blocks. -/
import Derived.Test.YtjaapempahigaaaOpen3
import Derived.Test.YtjaapempahigaaaFlowWay
namespace Go.Proofs.Ytjaapempahigaaa
open Go.RowKit

theorem info81 : (Try.prog.info? 81).map (fun i => (i.zero, i.size, i.bytes)) = some (some (.agg #[.string ⟨#[]⟩, .slice none 0 0]), 2, 40) := by kernel_rfl
theorem info83 : (Try.prog.info? 83).map (fun i => (i.zero, i.size, i.bytes)) = some (some (.agg (insC 0 0 0)), 9, 88) := by kernel_rfl

theorem BlockAt.cells {w : World} {a : Addr} {n : Nat} {s : List Nat} (h : BlockAt w a n s) : ∀ t, t < 2 → ∃ u : Value, w.cell? (a.add t) = some u ∧ u.oneCell' = true := by
  obtain ⟨_, nm, oi, m, c, h0, h1, _⟩ := h
  intro t ht
  have ht2 : t = 0 ∨ t = 1 := by omega
  rcases ht2 with rfl | rfl
  · exact ⟨.string nm, h0, by simp [Value.oneCell']⟩
  · refine ⟨.slice oi m c, ?_, by simp [Value.oneCell']⟩
    rw [add_succ' _ _ (by omega)]
    exact h1
theorem add_add (a : Addr) (i j : Nat) : (a.add i).add j = a.add (i + j) := by
  unfold Addr.add
  by_cases hi : i = 0
  · subst hi; simp
  · by_cases hj : j = 0
    · subst hj; simp
    · rw [if_neg hi, if_neg hj, if_neg (by omega)]
      simp [Nat.add_assoc]
/-- The cells of the blocks, to be copied. -/
theorem GraphAt.news {w : World} {ad : Addr} {N : Nat} {succ : Nat → List Nat} (h : GraphAt w (some ad) N succ) : ∃ news : List Value, news.length = N * 2 ∧ ∀ (j : Nat) (u : Value), news[j]? = some u → w.cell? (ad.add j) = some u ∧ u.oneCell' = true := by
  refine list_of (N * 2) (fun j (u : Value) => w.cell? (ad.add j) = some u ∧ u.oneCell' = true) (fun j hj => ?_)
  obtain ⟨a, ha, hB⟩ := h.1 (j / 2) (by omega)
  cases ha
  obtain ⟨u, h1, h2⟩ := hB.cells (j % 2) (by omega)
  rw [add_add, show j / 2 * 2 + j % 2 = j by omega] at h1
  exact ⟨u, h1, h2⟩
/-- Where a block's copy lies. -/
theorem BlockAt.copy {w w' : World} {a : Addr} {n g o : Nat} {s : List Nat} (h : BlockAt w a n s) (hm : Mod NoBlk w w') (hg : g < w'.heap.size) (h0 : w'.cell? ⟨g, o, none⟩ = w.cell? a) (h1 : w'.cell? ⟨g, o + 1, none⟩ = w.cell? (a.add 1)) : BlockAt w' ⟨g, o, none⟩ n s := by
  obtain ⟨hb, nm, oi, m, c, e0, e1, hmx, h2⟩ := h
  refine ⟨hg, nm, oi, m, c, h0.trans e0, by rw [show (⟨g, o, none⟩ : Addr).block = g from rfl, show (⟨g, o, none⟩ : Addr).off = o from rfl, h1, add_succ' _ _ (by omega)]; exact e1, hmx, ?_⟩
  rcases h2 with h2 | ⟨ia, op, l1, l2, e, hm0, hi, hs⟩
  · exact .inl h2
  · exact .inr ⟨ia, op, l1, l2, e, hm0, hi.mod hm, hs⟩
/-- A copy of the blocks, one of which has other instructions. -/
theorem GraphAt.copy {w w' : World} {ad : Addr} {N g b : Nat} {succ : Nat → List Nat} {s : List Nat} (h : GraphAt w (some ad) N succ) (hm : Mod NoBlk w w') (hg : g < w'.heap.size) (hb : b < N)
    (hc : ∀ j, j < N * 2 → j ≠ b * 2 + 1 → w'.cell? ⟨g, j, none⟩ = w.cell? (ad.add j)) (hs : ∀ nm : ByteArray, w'.cell? ⟨g, b * 2, none⟩ = some (.string nm) → BlockAt w' ⟨g, b * 2, none⟩ N s) :
    GraphAt w' (some ⟨g, 0, none⟩) N (fun x => if x = b then s else succ x) := by
  refine ⟨fun x hx => ⟨_, rfl, ?_⟩, fun x hx => ?_⟩
  · rw [add_head]
    by_cases e : x = b
    · subst e
      dsimp only
      rw [if_pos rfl]
      obtain ⟨a, ha, _, nm, _, _, _, h0, _⟩ := h.1 x hx
      cases ha
      exact hs nm ((hc (x * 2) (by omega) (by omega)).trans h0)
    · dsimp only
      rw [if_neg e]
      obtain ⟨a, ha, hB⟩ := h.1 x hx
      cases ha
      refine hB.copy hm hg (hc _ (by omega) (by omega)) ?_
      rw [add_add]
      exact hc _ (by omega) (by omega)
  · dsimp only
    rw [if_neg (by omega)]
    exact h.2 x hx
theorem empty_row (w : World) (e : TypeId) (size : Nat) : (w.alloc (.cells #[] e)).ownsRow w.heap.size e size (.slice (some ⟨w.heap.size, 0, none⟩) 0 0) 0 [] :=
  ⟨by simp, .inr ⟨w.heap.size, 0, #[], rfl, Nat.le_refl _, heap_alloc_new w _, by omega, by simp, by simp, by simp⟩⟩
/-- A row in a block. -/
theorem row_blk {w : World} {B g n c size : Nat} {e : TypeId} {xs : List Value} (h : w.ownsRow B e size (.slice (some ⟨g, 0, none⟩) n c) n xs) : ∃ cur, Blk w g e cur ∧ ∀ (j : Nat) (u : Value), xs[j]? = some u → cur[j]? = some u := by
  rcases h.2 with ⟨e, _⟩ | ⟨g', cap, cur, e, hg, hb, hle, hmx, hsz, htk⟩
  · cases e
  · cases e
    refine ⟨cur, hb, fun j u hj => ?_⟩
    have hl : j < xs.length := (List.getElem?_eq_some_iff.1 hj).1
    rw [← htk] at hj hl
    rw [List.getElem?_take] at hj
    split at hj
    · simpa using hj
    · cases hj
end Go.Proofs.Ytjaapempahigaaa
