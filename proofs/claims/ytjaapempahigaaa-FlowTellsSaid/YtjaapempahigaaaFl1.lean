/- A function's blocks as a graph: what the memory holds. -/
import Derived.Test.YtjaapempahigaaaBase
import Derived.Test.YtjaapempahigaaaGr3
import Derived.Lib.Hide
namespace Go.Proofs.Ytjaapempahigaaa
open Go.RowKit

/-- Where an instruction goes. -/
def succOf (n : Nat) (op l1 l2 : Int) : List Nat :=
  (if (op = 8 ∨ op = 9) ∧ 0 ≤ l1 ∧ l1 < n then [l1.toNat] else []) ++ (if op = 9 ∧ l2 ≠ l1 ∧ 0 ≤ l2 ∧ l2 < n then [l2.toNat] else [])

theorem succOf_lt {n : Nat} {op l1 l2 : Int} : ∀ x ∈ succOf n op l1 l2, x < n := by
  intro x hx
  unfold succOf at hx
  rcases List.mem_append.1 hx with h | h
  · split at h
    · rename_i hc; simp only [List.mem_singleton] at h; omega
    · cases h
  · split at h
    · rename_i hc; simp only [List.mem_singleton] at h; omega
    · cases h
theorem succOf_len {n : Nat} {op l1 l2 : Int} : (succOf n op l1 l2).length ≤ 2 := by
  unfold succOf
  split <;> split <;> simp
theorem succOf_nodup {n : Nat} {op l1 l2 : Int} : (succOf n op l1 l2).Nodup := by
  unfold succOf
  split <;> split <;> simp
  omega

/-- An instruction at a: what it is, where it goes. -/
def InsAt (w : World) (a : Addr) (op l1 l2 : Int) : Prop :=
  a.block < w.heap.size ∧ ∃ (d x y z f : Int) (oa : Option Addr) (k c : Nat), w.cell? a = some (.int .u8 op) ∧ w.cell? ⟨a.block, a.off + 1, none⟩ = some (.int .i64 d) ∧ w.cell? ⟨a.block, a.off + 2, none⟩ = some (.int .i64 x) ∧ w.cell? ⟨a.block, a.off + 3, none⟩ = some (.int .i64 y) ∧
    w.cell? ⟨a.block, a.off + 4, none⟩ = some (.int .u32 z) ∧ w.cell? ⟨a.block, a.off + 5, none⟩ = some (.int .i64 f) ∧ w.cell? ⟨a.block, a.off + 6, none⟩ = some (.slice oa k c) ∧ w.cell? ⟨a.block, a.off + 7, none⟩ = some (.int .i64 l1) ∧ w.cell? ⟨a.block, a.off + 8, none⟩ = some (.int .i64 l2)

/-- A block at a: s: where it goes. -/
def BlockAt (w : World) (a : Addr) (n : Nat) (s : List Nat) : Prop :=
  a.block < w.heap.size ∧ ∃ (nm : ByteArray) (oi : Option Addr) (m c : Nat), w.cell? a = some (.string nm) ∧ w.cell? ⟨a.block, a.off + 1, none⟩ = some (.slice oi m c) ∧ m ≤ 9223372036854775807 ∧
    ((m = 0 ∧ s = []) ∨ ∃ ia op l1 l2, oi = some ia ∧ 0 < m ∧ InsAt w (ia.add ((m - 1) * 9)) op l1 l2 ∧ s = succOf n op l1 l2)

/-- The blocks of a function, n of them, as a graph. -/
def GraphAt (w : World) (ob : Option Addr) (n : Nat) (succ : Nat → List Nat) : Prop :=
  (∀ b, b < n → ∃ a, ob = some a ∧ BlockAt w (a.add (b * 2)) n (succ b)) ∧ ∀ b, n ≤ b → succ b = []

theorem InsAt.mod {w w' : World} {a : Addr} {op l1 l2 : Int} (h : InsAt w a op l1 l2) (hm : Mod NoBlk w w') : InsAt w' a op l1 l2 := by
  obtain ⟨hb, d, x, y, z, f, oa, k, c, h0, h1, h2, h3, h4, h5, h6, h7, h8⟩ := h
  exact ⟨Nat.lt_of_lt_of_le hb hm.size, d, x, y, z, f, oa, k, c, (hm.cell hb (fun h => h)).trans h0, (hm.cell (p := ⟨a.block, a.off + 1, none⟩) hb (fun h => h)).trans h1, (hm.cell (p := ⟨a.block, a.off + 2, none⟩) hb (fun h => h)).trans h2,
    (hm.cell (p := ⟨a.block, a.off + 3, none⟩) hb (fun h => h)).trans h3, (hm.cell (p := ⟨a.block, a.off + 4, none⟩) hb (fun h => h)).trans h4, (hm.cell (p := ⟨a.block, a.off + 5, none⟩) hb (fun h => h)).trans h5,
    (hm.cell (p := ⟨a.block, a.off + 6, none⟩) hb (fun h => h)).trans h6, (hm.cell (p := ⟨a.block, a.off + 7, none⟩) hb (fun h => h)).trans h7, (hm.cell (p := ⟨a.block, a.off + 8, none⟩) hb (fun h => h)).trans h8⟩
theorem BlockAt.mod {w w' : World} {a : Addr} {n : Nat} {s : List Nat} (h : BlockAt w a n s) (hm : Mod NoBlk w w') : BlockAt w' a n s := by
  obtain ⟨hb, nm, oi, m, c, h0, h1, hmx, h2⟩ := h
  refine ⟨Nat.lt_of_lt_of_le hb hm.size, nm, oi, m, c, (hm.cell hb (fun h => h)).trans h0, (hm.cell (p := ⟨a.block, a.off + 1, none⟩) hb (fun h => h)).trans h1, hmx, ?_⟩
  rcases h2 with h2 | ⟨ia, op, l1, l2, e, hm0, hi, hs⟩
  · exact .inl h2
  · exact .inr ⟨ia, op, l1, l2, e, hm0, hi.mod hm, hs⟩
theorem GraphAt.mod {w w' : World} {ob : Option Addr} {n : Nat} {succ : Nat → List Nat} (h : GraphAt w ob n succ) (hm : Mod NoBlk w w') : GraphAt w' ob n succ := by
  refine ⟨fun b hb => ?_, h.2⟩
  obtain ⟨a, ha, hB⟩ := h.1 b hb
  exact ⟨a, ha, hB.mod hm⟩
theorem GraphAt.below {w w' : World} {ob : Option Addr} {n : Nat} {succ : Nat → List Nat} (h : GraphAt w ob n succ) (hm : Below w.heap.size w w') : GraphAt w' ob n succ := h.mod (Mod.ofBelow hm)

theorem BlockAt.succ {w : World} {a : Addr} {n : Nat} {s : List Nat} (h : BlockAt w a n s) : (∀ x ∈ s, x < n) ∧ s.length ≤ 2 ∧ s.Nodup := by
  obtain ⟨_, _, _, _, _, _, _, _, h2⟩ := h
  rcases h2 with ⟨_, rfl⟩ | ⟨_, op, l1, l2, _, _, _, rfl⟩
  · simp
  · exact ⟨succOf_lt, succOf_len, succOf_nodup⟩
theorem GraphAt.succ {w : World} {ob : Option Addr} {n : Nat} {succ : Nat → List Nat} (h : GraphAt w ob n succ) (b : Nat) : (∀ x ∈ succ b, x < n) ∧ (succ b).length ≤ 2 ∧ (succ b).Nodup := by
  by_cases hb : b < n
  · obtain ⟨_, _, hB⟩ := h.1 b hb
    exact hB.succ
  · rw [h.2 b (by omega)]
    simp

/-- Where one goes from b, be b a block or none. -/
def nextOf (n : Nat) (succ : Nat → List Nat) (b : Int) : List Nat := if 0 ≤ b ∧ b < n then succ b.toNat else []

end Go.Proofs.Ytjaapempahigaaa
