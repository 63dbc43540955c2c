/- has; SameInts; Same; SameTruths. -/
import Derived.Test.YtjaapempahigaaaFl13
namespace Go.Proofs.Ytjaapempahigaaa
open Go.RowKit

/-- At which place has a row a number; -1: at none. -/
def hasOf (l : List Nat) (x : Nat) : Int := if x ∈ l then (l.idxOf x : Nat) else -1
theorem hasOf_nonneg {l : List Nat} {x : Nat} : decide (0 ≤ hasOf l x) = decide (x ∈ l) := by
  unfold hasOf
  split
  · rename_i h; simp [h]
  · rename_i h; simp [h]
theorem hasOf_neg {l : List Nat} {x : Nat} : decide (hasOf l x < 0) = !decide (x ∈ l) := by
  unfold hasOf
  split
  · rename_i h; simp [h]
  · rename_i h; simp [h]
theorem idxOf_first {l : List Nat} {k x : Nat} (hk : l[k]? = some x) (h : x ∉ l.take k) : l.idxOf x = k := by
  have hkl : k < l.length := (List.getElem?_eq_some_iff.1 hk).1
  have e1 := (List.take_append_drop k l).symm
  rw [List.drop_eq_getElem_cons hkl] at e1
  have e2 : l[k] = x := (List.getElem?_eq_some_iff.1 hk).2
  rw [e2] at e1
  rw [e1, List.idxOf_append, if_neg h]
  simp
  omega

set_option maxRecDepth 100000 in
set_option maxHeartbeats 1000000 in
theorem has_ok (B : Nat) (v : Value) (l : List Nat) (x : Nat) (w : World) (h : Ints w B v l) (hsmall : l.length ≤ 1000) :
    Calls Try.prog 41 #[v, .int .i64 (x : Nat)] w fun e w' => e = .returned (.int .i64 (hasOf l x)) ∧ w = w' := by
  obtain ⟨oa, c, rfl, hc1, hc2⟩ := h.at_
  obtain ⟨m, hm⟩ : ∃ m, l.length = m := ⟨_, rfl⟩
  have HL := Lib.hid h
  rw [hm] at hsmall hc1 HL ⊢
  have HML := Lib.hid hm
  clear h hm
  go_enter Try.func41, Try.ntmps41
  go_wp2
  go_loop [5] (fun i => ∃ k : Nat, k ≤ m ∧ i = .int .i64 k ∧ x ∉ l.take k) (fun i => (m - intOf i).toNat)
  case atStart => exact ⟨0, by omega, rfl, by simp⟩
  case round =>
    obtain ⟨k, hk, rfl, hn⟩ := hrel
    have HN := Lib.hid hn
    clear hn
    by_cases hlt : k < m
    · have hkl : k < l.length := by rw [HML.out]; exact hlt
      obtain ⟨z, hz⟩ : ∃ z, l[k]? = some z := ⟨_, List.getElem?_eq_getElem hkl⟩
      have hV := HL.out
      rw [← HML.out] at hV
      obtain ⟨g, rfl, hg, hgl, hcell⟩ := hV.get hz
      have HZ := Lib.hid hz
      clear hz hV hkl
      by_cases hzx : z = x
      · subst hzx
        have hR : hasOf l z = (k : Nat) := by
          unfold hasOf
          rw [if_pos (List.mem_of_getElem? HZ.out), idxOf_first HZ.out HN.out]
        have HR := Lib.hid hR
        clear hR
        go_wp2
        go_ret
        exact ⟨by rw [HR.out]; rfl, rfl⟩
      · have hd : ((z : Int) == (x : Int)) = false := by
          rw [beq_eq_false_iff_ne]
          omega
        clear hzx
        have HNX : Hid (x ∉ l.take (k + 1)) := by
          unfold Hid
          rw [List.take_add_one, HZ.out]
          simp only [List.mem_append, Option.toList_some, List.mem_singleton]
          rintro (h | h)
          · exact HN.out h
          · subst h; simp at hd
        go_wp2
        go_round
        case measure => simp [intOf]; omega
        case rel => exact ⟨k + 1, by omega, by go_num, HNX.out⟩
    · obtain rfl : k = m := by omega
      have hR : hasOf l x = -1 := by
        unfold hasOf
        rw [if_neg]
        have := HN.out
        rwa [List.take_of_length_le (by rw [HML.out]; exact Nat.le_refl _)] at this
      have HR := Lib.hid hR
      clear hR
      go_wp2
      go_ret
      exact ⟨by rw [HR.out]; rfl, rfl⟩

set_option maxRecDepth 100000 in
set_option maxHeartbeats 1000000 in
theorem sameInts_ok (B1 B2 : Nat) (v1 v2 : Value) (l : List Nat) (w : World) (h1 : Ints w B1 v1 l) (h2 : Ints w B2 v2 l) (hsmall : l.length ≤ 1000) :
    Calls Try.prog 28 #[v1, v2] w fun e w' => e = .returned (.bool true) ∧ Mod NoBlk w w' := by
  obtain ⟨oa, c, rfl, hc1, hc2⟩ := h1.at_
  obtain ⟨ob, d, rfl, hd1, hd2⟩ := h2.at_
  obtain ⟨m, hm⟩ : ∃ m, l.length = m := ⟨_, rfl⟩
  have H1 := Lib.hid h1
  have H2 := Lib.hid h2
  rw [hm] at hsmall hc1 hd1 H1 H2 ⊢
  have HML := Lib.hid hm
  clear h1 h2 hm
  go_enter Try.func28, Try.ntmps28
  go_wp2
  go_loopw [5] (fun i wr => ∃ k : Nat, k ≤ m ∧ i = .int .i64 k ∧ Mod NoBlk w wr) (fun i _ => (m - intOf i).toNat)
  case atStart => exact ⟨0, by omega, rfl, Mod.refl _ _⟩
  case round =>
    obtain ⟨k, hk, rfl, hM⟩ := hrel
    have HM := Lib.hid hM
    clear hM
    by_cases hlt : k < m
    · have hkl : k < l.length := by rw [HML.out]; exact hlt
      obtain ⟨z, hz⟩ : ∃ z, l[k]? = some z := ⟨_, List.getElem?_eq_getElem hkl⟩
      have hV := H1.out.mod HM.out
      have hU := H2.out.mod HM.out
      rw [← HML.out] at hV hU
      obtain ⟨g, rfl, hg, hgl, hcell⟩ := hV.get hz
      obtain ⟨g', rfl, hg', hgl', hcell'⟩ := hU.get hz
      clear hz hV hU hkl
      have i0 : (0 : Int) ≤ (k : Int) := by omega
      have i1 : (k : Int) < (m : Int) := by omega
      go_wp2
      go_quiet (fail)
      all_goals
        go_wp2
        go_roundw
        case measure => simp [intOf]; omega
        case rel => exact ⟨k + 1, by omega, by go_num, HM.out.drewN _⟩
    · obtain rfl : k = m := by omega
      go_wp2
      go_ret
      exact ⟨rfl, HM.out⟩

/-- Rows of numbers, read. -/
def RowsV (w : World) (g N : Nat) (rows : Nat → List Nat) : Prop :=
  ∀ i, i < N → g < w.heap.size ∧ ∃ v B, w.cell? ⟨g, i, none⟩ = some v ∧ Ints w B v (rows i)
theorem RowsV.mod {w w' : World} {g N : Nat} {rows : Nat → List Nat} (h : RowsV w g N rows) (hm : Mod NoBlk w w') : RowsV w' g N rows :=
  fun i hi => by
    obtain ⟨h0, v, B, h1, h2⟩ := h i hi
    exact ⟨Nat.lt_of_lt_of_le h0 hm.size, v, B, (hm.cell (p := ⟨g, i, none⟩) h0 (fun h => h)).trans h1, h2.mod hm⟩
theorem RowsQ.rowsV {w : World} {B g N : Nat} {Q : Nat → Prop} {rows : Nat → List Nat} (h : RowsQ w B g N Q rows) : RowsV w g N rows :=
  fun i hi => by
    obtain ⟨v, h1, h2, _⟩ := h.get i hi
    exact ⟨h.lt, v, B, h1, h2⟩
theorem OutAt.rowsV {w : World} {B g N : Nat} {out : Nat → Option (List Nat)} (h : OutAt w B g N out) : RowsV w g N (fun b => (out b).getD []) :=
  fun i hi => by
    obtain ⟨v, h1, h2, h3⟩ := h.get i hi
    cases ho : out i with
    | none => exact ⟨h.lt, v, 0, h1, by dsimp only; rw [h2 ho, ho]; exact World.ownsRow_nil _ _ _ _⟩
    | some r => exact ⟨h.lt, v, B, h1, by dsimp only; rw [ho]; exact (h3 r ho).1⟩

set_option maxRecDepth 100000 in
set_option maxHeartbeats 1000000 in
theorem sameTruths_ok (g1 g2 N : Nat) (c1 c2 : Nat → Bool) (w : World) (h1 : Bools w g1 N c1) (h2 : Bools w g2 N c2) (hc : ∀ i, i < N → c1 i = c2 i) (hN : N ≤ 1000) :
    Calls Try.prog 34 #[.slice (some ⟨g1, 0, none⟩) N N, .slice (some ⟨g2, 0, none⟩) N N] w fun e w' => e = .returned (.bool true) ∧ Mod NoBlk w w' := by
  have H1 := Lib.hid h1
  have H2 := Lib.hid h2
  have HC := Lib.hid hc
  clear h1 h2 hc
  go_enter Try.func34, Try.ntmps34
  go_wp2
  go_loopw [5] (fun i wr => ∃ k : Nat, k ≤ N ∧ i = .int .i64 k ∧ Mod NoBlk w wr) (fun i _ => (N - intOf i).toNat)
  case atStart => exact ⟨0, by omega, rfl, Mod.refl _ _⟩
  case round =>
    obtain ⟨k, hk, rfl, hM⟩ := hrel
    have HM := Lib.hid hM
    clear hM
    by_cases hlt : k < N
    · have q1 := (H1.out.mod HM.out (fun h => h)).cell k hlt
      have q2 := (H2.out.mod HM.out (fun h => h)).cell k hlt
      rw [← HC.out k hlt] at q2
      generalize c1 k = b at *
      have i0 : (0 : Int) ≤ (k : Int) := by omega
      have i1 : (k : Int) < (N : Int) := by omega
      go_wp2
      go_quiet (fail)
      all_goals
        go_wp2
        go_roundw
        case measure => simp [intOf]; omega
        case rel => exact ⟨k + 1, by omega, by go_num, HM.out.drewN _⟩
    · obtain rfl : k = N := by omega
      go_wp2
      go_ret
      exact ⟨rfl, HM.out⟩

set_option maxRecDepth 100000 in
set_option maxHeartbeats 2000000 in
theorem same_ok (g1 g2 N : Nat) (r1 r2 : Nat → List Nat) (w : World) (h1 : RowsV w g1 N r1) (h2 : RowsV w g2 N r2) (hr : ∀ i, i < N → r1 i = r2 i) (hl : ∀ i, i < N → (r1 i).length ≤ 1000) (hN : N ≤ 1000) (o1 o2 : Option Addr) (c1 c2 : Nat) (ho : 0 < N → o1 = some ⟨g1, 0, none⟩ ∧ o2 = some ⟨g2, 0, none⟩) (hc1 : c1 ≤ 9223372036854775807) (hn1 : N ≤ c1) (hn2 : N ≤ c2) :
    Calls Try.prog 31 #[.slice o1 N c1, .slice o2 N c2] w fun e w' => e = .returned (.bool true) ∧ Mod NoBlk w w' := by
  have H1 := Lib.hid h1
  have H2 := Lib.hid h2
  have HR := Lib.hid hr
  have HL := Lib.hid hl
  have HO := Lib.hid ho
  clear h1 h2 hr hl ho
  go_enter Try.func31, Try.ntmps31
  go_wp2
  go_loopw [5, 6] (fun i _ wr => ∃ k : Nat, k ≤ N ∧ i = .int .i64 k ∧ Mod NoBlk w wr) (fun i _ _ => (N - intOf i).toNat)
  case atStart => exact ⟨0, by omega, rfl, Mod.refl _ _⟩
  case round =>
    obtain ⟨k, hk, rfl, hM⟩ := hrel
    have HM := Lib.hid hM
    clear hM
    by_cases hlt : k < N
    · obtain ⟨b1, v, B1, q1, hi1⟩ := H1.out k hlt
      obtain ⟨b2, u, B2, q2, hi2⟩ := H2.out k hlt
      rw [← HR.out k hlt] at hi2
      have hlen := HL.out k hlt
      obtain ⟨rfl, rfl⟩ := HO.out (by omega)
      generalize r1 k = l at *
      obtain ⟨oa, c, rfl, hd1, hd2⟩ := hi1.at_
      obtain ⟨ob, d, rfl, he1, he2⟩ := hi2.at_
      obtain ⟨m, hm⟩ : ∃ m, l.length = m := ⟨_, rfl⟩
      have HI1 := Lib.hid (hi1)
      have HI2 := Lib.hid (hi2)
      rw [hm] at HI1 HI2 hlen hd1 he1 q1 q2
      have p1 := (HM.out.cell (p := ⟨g1, k, none⟩) b1 (fun h => h)).trans q1
      have p2 := (HM.out.cell (p := ⟨g2, k, none⟩) b2 (fun h => h)).trans q2
      have HML := Lib.hid hm
      have Q1 := Lib.hid q1
      have Q2 := Lib.hid q2
      have i0 : (0 : Int) ≤ (k : Int) := by omega
      have i1 : (k : Int) < (N : Int) := by omega
      clear hi1 hi2 hm q1 q2
      go_wp2
      go_quiet (fail)
      all_goals
        go_wp2
        rename_i nq _
        go_loopw [6] (fun j wj => ∃ t : Nat, t ≤ m ∧ j = .int .i64 t ∧ Mod NoBlk w wj) (fun j _ => (m - intOf j).toNat)
        case atStart => exact ⟨0, by omega, rfl, HM.out.drewN _⟩
        case round =>
          obtain ⟨t, ht, rfl, hMj⟩ := hrel
          have HMJ := Lib.hid hMj
          clear hMj p1 p2
          have p1 := (HMJ.out.cell (p := ⟨g1, k, none⟩) b1 (fun h => h)).trans Q1.out
          have p2 := (HMJ.out.cell (p := ⟨g2, k, none⟩) b2 (fun h => h)).trans Q2.out
          by_cases hlt2 : t < m
          · have hkl : t < l.length := by rw [HML.out]; exact hlt2
            obtain ⟨z, hz⟩ : ∃ z, l[t]? = some z := ⟨_, List.getElem?_eq_getElem hkl⟩
            have hV := HI1.out.mod HMJ.out
            have hU := HI2.out.mod HMJ.out
            rw [← HML.out] at hV hU
            obtain ⟨g, rfl, hg, hgl, hcell⟩ := hV.get hz
            obtain ⟨g', rfl, hg', hgl', hcell'⟩ := hU.get hz
            have j0 : (0 : Int) ≤ (t : Int) := by omega
            have j1 : (t : Int) < (m : Int) := by omega
            clear hz hV hU hkl
            go_wp2
            go_quiet (fail)
            all_goals
              go_wp2
              go_roundw
              case measure => simp [intOf]; omega
              case rel => exact ⟨t + 1, by omega, by go_num, HMJ.out.drewN _⟩
          · obtain rfl : t = m := by omega
            go_wp2
            go_roundw
            case measure => simp [intOf]; omega
            case rel => exact ⟨k + 1, by omega, by go_num, HMJ.out⟩
    · obtain rfl : k = N := by omega
      go_wp2
      go_ret
      exact ⟨rfl, HM.out⟩
end Go.Proofs.Ytjaapempahigaaa
