/- FileOverlaps: which registers are the same, and how many. -/
import Derived.Test.YtjaapempahigaaaFile8
namespace Go.Proofs.Ytjaapempahigaaa
open Go.RowKit

theorem pred_mod {n k : Nat} (hk : k < n) : (k + n - 1) % n = if k = 0 then n - 1 else k - 1 := by
  by_cases h : k = 0
  · subst h; rw [if_pos rfl, Nat.mod_eq_of_lt (by omega)]; omega
  · rw [if_neg h, show k + n - 1 = (k - 1) + n from by omega, Nat.add_mod_right, Nat.mod_eq_of_lt (by omega)]
theorem succ_mod {n k : Nat} (hk : k < n) : (k + 1) % n = if k + 1 = n then 0 else k + 1 := by
  by_cases h : k + 1 = n
  · rw [if_pos h, h, Nat.mod_self]
  · rw [if_neg h, Nat.mod_eq_of_lt (by omega)]

/-- Register i of window k is register r of window a; ap and an are the windows ahead of a and behind it. -/
def Own (a r ap an k i : Nat) : Prop := (k = a ∧ i = r) ∨ (r < 16 ∧ k = ap ∧ i = r + 16) ∨ (24 ≤ r ∧ k = an ∧ i = r - 16)
instance (a r ap an k i : Nat) : Decidable (Own a r ap an k i) := by unfold Own; infer_instance

theorem own_slot {n a r ap an k i : Nat} (hn : 2 ≤ n) (ha : a < n) (hr : 8 ≤ r) (hr2 : r < 32) (hk : k < n) (hi : 8 ≤ i) (hi2 : i < 32) (hp : (a + n - 1) % n = ap) (hs : (a + 1) % n = an) :
    (slot n k i = slot n a r) ↔ Own a r ap an k i := by
  obtain ⟨pk, hpk⟩ : ∃ pk, (k + n - 1) % n = pk := ⟨_, rfl⟩
  have e1 : slot n k i = if i < 16 then 16 * pk + i else 16 * k + i - 16 := by unfold slot; rw [hpk]
  have e2 : slot n a r = if r < 16 then 16 * ap + r else 16 * a + r - 16 := by unfold slot; rw [hp]
  rw [pred_mod hk] at hpk
  rw [pred_mod ha] at hp
  rw [succ_mod ha] at hs
  have f1 : pk = ap ↔ k = a := by (repeat' split at hpk) <;> (repeat' split at hp) <;> omega
  have f2 : pk = a ↔ k = an := by (repeat' split at hpk) <;> (repeat' split at hs) <;> omega
  clear hpk hp hs
  rw [e1, e2]
  unfold Own
  by_cases h1 : i < 16
  · by_cases h2 : r < 16
    · rw [if_pos h1, if_pos h2]; omega
    · rw [if_pos h1, if_neg h2]; omega
  · by_cases h2 : r < 16
    · rw [if_neg h1, if_pos h2]; omega
    · rw [if_neg h1, if_neg h2]; omega

theorem over_get {n a r ap an k i : Nat} (x : Int) (hn : 2 ≤ n) (ha : a < n) (hr : 8 ≤ r) (hr2 : r < 32) (hk : k < n) (hi : 8 ≤ i) (hi2 : i < 32) (hp : (a + n - 1) % n = ap) (hs : (a + 1) % n = an) :
    getV (afA zeroF n a r x) (afG zeroF 3 r x) n k 0 i = if Own a r ap an k i then x else 0 := by
  unfold getV afA
  rw [if_neg (by omega), if_neg (by omega), if_neg (by omega)]
  unfold upd
  by_cases h : Own a r ap an k i
  · rw [if_pos h, if_pos ((own_slot hn ha hr hr2 hk hi hi2 hp hs).2 h)]
  · rw [if_neg h, if_neg (fun e => h ((own_slot hn ha hr hr2 hk hi hi2 hp hs).1 e))]; rfl

/-- How many of the registers ahead of (k, i) are the same one. -/
def cnt (a r ap an k i : Nat) : Nat :=
  (if a < k ∨ a = k ∧ r < i then 1 else 0) + (if r < 16 ∧ (ap < k ∨ ap = k ∧ r + 16 < i) then 1 else 0) + (if 24 ≤ r ∧ (an < k ∨ an = k ∧ r - 16 < i) then 1 else 0)
theorem cnt_le (a r ap an k i : Nat) : cnt a r ap an k i ≤ 3 := by
  unfold cnt
  split <;> split <;> split <;> omega
theorem cnt_zero (a r ap an : Nat) (hr : 8 ≤ r) : cnt a r ap an 0 8 = 0 := by
  unfold cnt
  rw [if_neg (by omega), if_neg (by omega), if_neg (by omega)]
theorem cnt_next (a r ap an k : Nat) (hr : 8 ≤ r) (hr2 : r < 32) : cnt a r ap an k 32 = cnt a r ap an (k + 1) 8 := by
  unfold cnt
  (repeat' split) <;> omega
theorem cnt_own (n a r ap an k i : Nat) (hn : 2 ≤ n) (ha : a < n) (hp : (a + n - 1) % n = ap) (hs : (a + 1) % n = an) (hr2 : r < 32) (h : Own a r ap an k i) : cnt a r ap an k (i + 1) = cnt a r ap an k i + 1 := by
  rw [pred_mod ha] at hp
  rw [succ_mod ha] at hs
  have h1 : a ≠ ap := by split at hp <;> omega
  have h2 : a ≠ an := by split at hs <;> omega
  clear hp hs
  unfold Own at h
  unfold cnt
  (repeat' split) <;> omega
theorem cnt_not (a r ap an k i : Nat) (h : ¬ Own a r ap an k i) : cnt a r ap an k (i + 1) = cnt a r ap an k i := by
  unfold Own at h
  unfold cnt
  (repeat' split) <;> omega
theorem cnt_all (n a r ap an : Nat) (ha : a < n) (hp : (a + n - 1) % n = ap) (hs : (a + 1) % n = an) : cnt a r ap an n 8 = if r < 16 ∨ 24 ≤ r then 2 else 1 := by
  have h1 : ap < n := by rw [← hp]; exact Nat.mod_lt _ (by omega)
  have h2 : an < n := by rw [← hs]; exact Nat.mod_lt _ (by omega)
  clear hp hs
  unfold cnt
  (repeat' split) <;> omega
end Go.Proofs.Ytjaapempahigaaa
