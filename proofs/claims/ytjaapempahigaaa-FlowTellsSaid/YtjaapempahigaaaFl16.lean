/- head: the calls whose answers the document fixes. -/
import Derived.Test.YtjaapempahigaaaFl15
import Derived.Deep.RegionHeld3
namespace Go.Proofs.Ytjaapempahigaaa
open Go.RowKit

/-- The same, but one block goes nowhere. -/
def cutS (succ : Nat → List Nat) (a : Nat) : Nat → List Nat := fun x => if x = a then [] else succ x
theorem dom_post {succ : Nat → List Nat} {n : Nat} (hs : ∀ a x, x ∈ succ a → x < n) (hn : 0 < n) (a b : Nat) : Dom succ a b ↔ b ∈ postOrd succ n ∧ (a = b ∨ b ∉ postOrd (cutS succ a) n) := by
  have hs' : ∀ c x, x ∈ cutS succ a c → x < n := fun c x hx => by
    unfold cutS at hx
    split at hx
    · cases hx
    · exact hs c x hx
  have p1 := (post_spec hs hn).2.1 b
  have p2 := (post_spec hs' hn).2.1 b
  by_cases hab : a = b
  · subst hab
    exact ⟨fun h => ⟨p1.2 h.1, .inl rfl⟩, fun h => Dom.self (p1.1 h.1)⟩
  · have hc := cut_reach (succ := succ) (succ' := cutS succ a) (b := a) (fun c hc => by unfold cutS; rw [if_neg hc]) (by unfold cutS; rw [if_pos rfl]) b (Ne.symm hab)
    unfold Dom
    rw [← p1, ← hc, ← p2]
    exact ⟨fun h => ⟨h.1, .inr h.2⟩, fun h => ⟨h.1, h.2.resolve_left hab⟩⟩
theorem AboveR.mod {w w' : World} {B g N : Nat} {succ : Nat → List Nat} (h : AboveR B g N succ w) (hm : Mod NoBlk w w') : AboveR B g N succ w' := by
  obtain ⟨out, h1, h2⟩ := h
  exact ⟨out, h1.mod hm, h2⟩
/-- What is above each block, as rows. -/
def abvOf (succ : Nat → List Nat) (N b : Nat) : List Nat := if b ∈ ordOf succ N then (List.range N).filter (fun a => decide (a = b ∨ b ∉ postOrd (cutS succ a) N)) else []
theorem AboveR.rows {w : World} {B g N : Nat} {succ : Nat → List Nat} (h : AboveR B g N succ w) (hs : ∀ a x, x ∈ succ a → x < N) : RowsV w g N (abvOf succ N) := by
  obtain ⟨out, h1, h2, h3, h4⟩ := h
  intro i hi
  obtain ⟨g1, v, B, c1, hI⟩ := h1.rowsV i hi
  refine ⟨g1, v, B, c1, ?_⟩
  have e : (out i).getD [] = abvOf succ N i := by
    unfold abvOf
    split
    · rename_i hin
      obtain ⟨r, hr, hsr, hm⟩ := h2 i hi hin
      rw [hr]
      refine srt_eq hsr (srt_range N _) (fun a => ?_)
      simp only [List.mem_filter, List.mem_range, decide_eq_true_eq]
      rw [Option.getD_some, hm a, dom_post hs (by omega)]
      constructor
      · intro h
        have hlt : a < N := by
          have := (h4 i r hr a ((hm a).2 ((dom_post hs (by omega) a i).2 h))).1
          unfold ordOf at this
          exact Rch.lt (by omega) hs (((post_spec hs (by omega)).2.1 a).1 (List.mem_reverse.1 this))
        exact ⟨hlt, h.2⟩
      · rintro ⟨hlt, h⟩
        exact ⟨List.mem_reverse.1 hin, h⟩
    · rename_i hin
      rw [h3 i hi hin]
      rfl
  rw [← e]
  exact hI

theorem mem_abv {succ : Nat → List Nat} {N : Nat} (hs : ∀ a x, x ∈ succ a → x < N) {a b : Nat} (hb : b < N) : a ∈ abvOf succ N b ↔ Dom succ a b := by
  rw [dom_post hs (by omega)]
  unfold abvOf ordOf
  split
  · rename_i hin
    simp only [List.mem_filter, List.mem_range, decide_eq_true_eq]
    constructor
    · rintro ⟨hlt, h⟩
      exact ⟨List.mem_reverse.1 hin, h⟩
    · intro h
      have := Dom.reached ((dom_post hs (by omega) a b).2 h)
      exact ⟨Rch.lt (by omega) hs this, h.2⟩
  · rename_i hin
    constructor
    · intro h; cases h
    · intro h; exact absurd (List.mem_reverse.2 h.1) hin
theorem above_rows (nm : ByteArray) (x y : Int) (ob : Option Addr) (N cap : Nat) (succ : Nat → List Nat) (w : World) (hG : GraphAt w ob N succ) (hN : N ≤ 60) :
    Calls Try.prog 39 #[fnV nm x y ob N cap] w fun e w' => ∃ g, e = .returned (.slice (some ⟨g, 0, none⟩) N N) ∧ RowsV w' g N (abvOf succ N) ∧ Mod NoBlk w w' :=
  (above_ok nm x y ob N cap succ w hG hN).mono fun _ _ ⟨g, he, _, hA, hm⟩ => ⟨g, he, hA.rows (fun a x hx => (hG.succ a).1 x hx), hm⟩
theorem before_rows (nm : ByteArray) (x y : Int) (ob : Option Addr) (N cap : Nat) (succ : Nat → List Nat) (w : World) (hG : GraphAt w ob N succ) (hN : N ≤ 60) :
    Calls Try.prog 32 #[fnV nm x y ob N cap] w fun e w' => ∃ g, e = .returned (.slice (some ⟨g, 0, none⟩) N N) ∧ RowsV w' g N (predOf succ N) ∧ Mod NoBlk w w' :=
  (before_ok nm x y ob N cap succ w hG hN).mono fun _ _ ⟨g, he, hR, _, hm⟩ => ⟨g, he, hR.rowsV, hm⟩

theorem lit_ints {w : World} {g : Nat} (l : List Nat) (hb : Blk w g 3 (l.map fun x => Value.int .i64 (x : Nat)).toArray) (hl : l.length ≤ 1000) : Ints w 0 (.slice (some ⟨g, 0, none⟩) l.length l.length) l :=
  Ints.of_blk (Nat.zero_le _) hb (by simp) (Nat.le_refl _) (by unfold maxLen; omega) (fun i x hx => by simp [hx])

theorem ex_next0 : nextOf 5 exSucc 0 = [1, 2] := by decide
theorem ex_next3 : nextOf 5 exSucc 3 = [1, 4] := by decide
theorem ex_pred3 : predOf exSucc 5 3 = [1, 2] := by decide
theorem ex_pred1 : predOf exSucc 5 1 = [0, 3] := by decide
theorem ex_ord : ordOf exSucc 5 = [0, 2, 1, 3, 4] := by decide
theorem ex_abv3 : abvOf exSucc 5 3 = [0, 3] := by decide
theorem ex_abv4 : abvOf exSucc 5 4 = [0, 3, 4] := by decide

set_option maxRecDepth 100000 in
set_option maxHeartbeats 4000000 in
theorem head_ok (w : World) : Calls Try.prog 27 #[] w fun e w' => e = .returned (.bool true) ∧ Mod NoBlk w w' := by
  go_enter Try.func27, Try.ntmps27
  go_wp2_with fail
  refine (example_ok _).mono ?_
  rintro e w1 ⟨gb, rfl, hG, hm1⟩
  have HG1 := Lib.hid hG
  have HM1 := Lib.hid hm1
  clear hG hm1
  go_upto_region 2 with fail
  obtain ⟨gf, hgf⟩ : ∃ gf, w1.heap.size = gf := ⟨_, rfl⟩
  have hm2 : Mod NoBlk w1 (w1.alloc (.cells #[.string ⟨#[]⟩, .int .i64 0, .int .i64 0, .slice (some ⟨gb, 0, none⟩) 5 5] 63)) := (Mod.refl _ w1).alloc _
  have hF1 := Blk.new w1 63 #[.string ⟨#[]⟩, .int .i64 0, .int .i64 0, .slice (some ⟨gb, 0, none⟩) 5 5]
  generalize w1.alloc (.cells #[.string ⟨#[]⟩, .int .i64 0, .int .i64 0, .slice (some ⟨gb, 0, none⟩) 5 5] 63) = W1 at *
  rw [hgf] at hF1 ⊢
  have HF := Lib.hid hF1
  have HM := Lib.hid (HM1.out.trans hm2)
  have HG := Lib.hid (HG1.out.mod hm2)
  clear hm2 hF1 HM1 HG1 hgf
  have HX : Hid (∀ w', Mod NoBlk W1 w' → w'.cell? ⟨gf, 0, none⟩ = some (.string ⟨#[]⟩) ∧ w'.cell? ⟨gf, 1, none⟩ = some (.int .i64 0) ∧ w'.cell? ⟨gf, 2, none⟩ = some (.int .i64 0) ∧ w'.cell? ⟨gf, 3, none⟩ = some (.slice (some ⟨gb, 0, none⟩) 5 5)) := by
    intro w' hm
    obtain ⟨k0, k1, k2, k3, _⟩ := fn_cells ⟨#[]⟩ 0 0 (some ⟨gb, 0, none⟩) 5 5 w' gf (HF.out.mod hm (fun h => h))
    exact ⟨k0, k1, k2, k3⟩
  obtain ⟨q0, q1, q2, q3⟩ := HX.out _ (Mod.refl _ _)
  go_cut [2, 3] (fun s2 s3 wx => ∃ g2 g3, s2 = .slice (some ⟨g2, 0, none⟩) 5 5 ∧ s3 = .slice (some ⟨g3, 0, none⟩) 5 5 ∧ RowsV wx g2 5 (predOf exSucc 5) ∧ RowsV wx g3 5 (abvOf exSucc 5) ∧ Mod NoBlk W1 wx)
  case first =>
    go_region_held3 (fun w' => w'.cell? ⟨gf, 0, none⟩ = some (.string ⟨#[]⟩) ∧ w'.cell? ⟨gf, 1, none⟩ = some (.int .i64 0) ∧ w'.cell? ⟨gf, 2, none⟩ = some (.int .i64 0) ∧ w'.cell? ⟨gf, 3, none⟩ = some (.slice (some ⟨gb, 0, none⟩) 5 5))
      ((refine HX.out _ ?_; repeat (first | exact hmA | exact hmB | exact Mod.refl _ _ | apply Mod.drew)))
      (first
        | (go_at_call 32; refine (before_rows ⟨#[]⟩ 0 0 _ 5 5 exSucc _ (HG.out.mod (by first | exact (Mod.refl _ _).drew | exact hmA)) (by omega)).mono ?_; rintro e wB ⟨gB, rfl, hvB, hmB0⟩; have hmB : Mod NoBlk W1 wB := Mod.trans (by first | exact (Mod.refl _ _).drew | exact hmA) hmB0)
        | (go_at_call 39; refine (above_rows ⟨#[]⟩ 0 0 _ 5 5 exSucc _ (HG.out.mod (by first | exact (Mod.refl _ _).drew | exact hmB)) (by omega)).mono ?_; rintro e wA ⟨gA, rfl, hvA, hmA0⟩; have hmA : Mod NoBlk W1 wA := Mod.trans (by first | exact (Mod.refl _ _).drew | exact hmB) hmA0))
    all_goals
      have HR : Hid (RowsV wA gB 5 (predOf exSucc 5) ∧ RowsV wA gA 5 (abvOf exSucc 5) ∧ Mod NoBlk W1 wA) := ⟨hvB.mod hmA0, hvA, hmA⟩
      clear hvB hmB0 hmB hvA hmA0 hmA q0 q1 q2 q3
      go_wp2_with fail
      go_meet
      exact ⟨gB, gA, rfl, rfl, HR.out.1, HR.out.2.1, HR.out.2.2⟩
  case rest =>
    clear q0 q1 q2 q3
    obtain ⟨g2, g3, rfl, rfl, hB, hA, hm⟩ := hcut
    obtain ⟨lB, vb3, B3, cb3, hb3⟩ := hB 3 (by omega)
    obtain ⟨_, vb1, B1, cb1, hb1⟩ := hB 1 (by omega)
    obtain ⟨lA, va3, A3, ca3, ha3⟩ := hA 3 (by omega)
    obtain ⟨_, va4, A4, ca4, ha4⟩ := hA 4 (by omega)
    rw [ex_pred3] at hb3
    rw [ex_pred1] at hb1
    rw [ex_abv3] at ha3
    rw [ex_abv4] at ha4
    have HY : Hid (∀ w', Mod NoBlk W1 w' → Mod NoBlk wc w' → w'.cell? ⟨gf, 0, none⟩ = some (.string ⟨#[]⟩) ∧ w'.cell? ⟨gf, 1, none⟩ = some (.int .i64 0) ∧ w'.cell? ⟨gf, 2, none⟩ = some (.int .i64 0) ∧ w'.cell? ⟨gf, 3, none⟩ = some (.slice (some ⟨gb, 0, none⟩) 5 5) ∧ w'.cell? ⟨g2, 3, none⟩ = some vb3 ∧ w'.cell? ⟨g2, 1, none⟩ = some vb1 ∧ w'.cell? ⟨g3, 3, none⟩ = some va3 ∧ w'.cell? ⟨g3, 4, none⟩ = some va4) := fun w' h1 h2 => by
      obtain ⟨k0, k1, k2, k3⟩ := HX.out w' h1
      exact ⟨k0, k1, k2, k3, (h2.cell (p := ⟨g2, 3, none⟩) lB (fun h => h)).trans cb3, (h2.cell (p := ⟨g2, 1, none⟩) lB (fun h => h)).trans cb1, (h2.cell (p := ⟨g3, 3, none⟩) lA (fun h => h)).trans ca3, (h2.cell (p := ⟨g3, 4, none⟩) lA (fun h => h)).trans ca4⟩
    have HY : Hid (∀ w', Mod NoBlk wc w' → w'.cell? ⟨gf, 0, none⟩ = some (.string ⟨#[]⟩) ∧ w'.cell? ⟨gf, 1, none⟩ = some (.int .i64 0) ∧ w'.cell? ⟨gf, 2, none⟩ = some (.int .i64 0) ∧ w'.cell? ⟨gf, 3, none⟩ = some (.slice (some ⟨gb, 0, none⟩) 5 5) ∧ w'.cell? ⟨g2, 3, none⟩ = some vb3 ∧ w'.cell? ⟨g2, 1, none⟩ = some vb1 ∧ w'.cell? ⟨g3, 3, none⟩ = some va3 ∧ w'.cell? ⟨g3, 4, none⟩ = some va4) := fun w' h => HY.out w' (hm.trans h) h
    have HB3 := Lib.hid hb3
    have HB1 := Lib.hid hb1
    have HA3 := Lib.hid ha3
    have HA4 := Lib.hid ha4
    have HMW := Lib.hid (HM.out.trans hm)
    have HG := Lib.hid (HG.out.mod hm)
    have HC : Hid (Mod NoBlk wc wc) := Mod.refl _ _
    clear hB hA hb3 hb1 ha3 ha4 hm HX HF HM cb3 cb1 ca3 ca4 lB lA
    obtain ⟨q0, q1, q2, q3, r0, r1, r2, r3⟩ := HY.out _ HC.out
    go_upto_region 5 with fail
    go_wp2_with fail
    refine (next_ok ⟨#[]⟩ 0 0 _ 5 5 0 exSucc _ (HG.out.mod HC.out)).mono ?_
    rintro e w2 ⟨v, rfl, hv, hm⟩
    rw [show nextOf 5 exSucc 0 = [1, 2] from ex_next0] at hv
    have HC2 := Lib.hid (HC.out.trans hm)
    have HV := Lib.hid hv
    clear hv hm HC q0 q1 q2 q3 r0 r1 r2 r3
    obtain ⟨q0, q1, q2, q3, r0, r1, r2, r3⟩ := HY.out _ HC2.out
    go_wp2_with fail
    refine (sameInts_ok _ 0 _ _ [1, 2] _ (HV.out.mod ((Mod.refl _ _).alloc _)) (lit_ints [1, 2] (Blk.new _ 3 #[.int .i64 1, .int .i64 2]) (by decide)) (by decide)).mono ?_
    rintro e w3 ⟨rfl, hm⟩
    have HC3 := Lib.hid ((HC2.out.alloc (.cells #[.int .i64 1, .int .i64 2] 3)).trans hm)
    clear hm HC2 HV q0 q1 q2 q3 r0 r1 r2 r3
    obtain ⟨q0, q1, q2, q3, r0, r1, r2, r3⟩ := HY.out _ HC3.out
    have HC := Lib.hid HC3.out
    clear HC3
    go_wp2_with fail
    refine (next_ok ⟨#[]⟩ 0 0 _ 5 5 3 exSucc _ (HG.out.mod HC.out)).mono ?_
    rintro e w2 ⟨v, rfl, hv, hm⟩
    rw [show nextOf 5 exSucc 3 = [1, 4] from ex_next3] at hv
    have HC2 := Lib.hid (HC.out.trans hm)
    have HV := Lib.hid hv
    clear hv hm HC q0 q1 q2 q3 r0 r1 r2 r3
    obtain ⟨q0, q1, q2, q3, r0, r1, r2, r3⟩ := HY.out _ HC2.out
    go_wp2_with fail
    refine (sameInts_ok _ 0 _ _ [1, 4] _ (HV.out.mod ((Mod.refl _ _).alloc _)) (lit_ints [1, 4] (Blk.new _ 3 #[.int .i64 1, .int .i64 4]) (by decide)) (by decide)).mono ?_
    rintro e w3 ⟨rfl, hm⟩
    have HC3 := Lib.hid ((HC2.out.alloc (.cells #[.int .i64 1, .int .i64 4] 3)).trans hm)
    clear hm HC2 HV q0 q1 q2 q3 r0 r1 r2 r3
    obtain ⟨q0, q1, q2, q3, r0, r1, r2, r3⟩ := HY.out _ HC3.out
    have HC := Lib.hid HC3.out
    clear HC3
    go_wp2_with fail
    refine (sameInts_ok _ 0 _ _ [1, 2] _ (HB3.out.mod (HC.out.alloc _)) (lit_ints [1, 2] (Blk.new _ 3 #[.int .i64 1, .int .i64 2]) (by decide)) (by decide)).mono ?_
    rintro e w3 ⟨rfl, hm⟩
    have HC3 := Lib.hid ((HC.out.alloc (.cells #[.int .i64 1, .int .i64 2] 3)).trans hm)
    clear hm HC q0 q1 q2 q3 r0 r1 r2 r3
    obtain ⟨q0, q1, q2, q3, r0, r1, r2, r3⟩ := HY.out _ HC3.out
    have HC := Lib.hid HC3.out
    clear HC3
    go_wp2_with fail
    refine (sameInts_ok _ 0 _ _ [0, 3] _ (HB1.out.mod (HC.out.alloc _)) (lit_ints [0, 3] (Blk.new _ 3 #[.int .i64 0, .int .i64 3]) (by decide)) (by decide)).mono ?_
    rintro e w3 ⟨rfl, hm⟩
    have HC3 := Lib.hid ((HC.out.alloc (.cells #[.int .i64 0, .int .i64 3] 3)).trans hm)
    clear hm HC q0 q1 q2 q3 r0 r1 r2 r3
    obtain ⟨q0, q1, q2, q3, r0, r1, r2, r3⟩ := HY.out _ HC3.out
    have HC := Lib.hid HC3.out
    clear HC3
    go_wp2_with fail
    refine (order_ok ⟨#[]⟩ 0 0 _ 5 5 exSucc _ (HG.out.mod HC.out) (by omega)).mono ?_
    rintro e w2 ⟨v, rfl, hv, hm⟩
    rw [ex_ord] at hv
    have HC2 := Lib.hid (HC.out.trans hm)
    have HV := Lib.hid hv
    clear hv hm HC q0 q1 q2 q3 r0 r1 r2 r3
    obtain ⟨q0, q1, q2, q3, r0, r1, r2, r3⟩ := HY.out _ HC2.out
    go_wp2_with fail
    refine (sameInts_ok _ 0 _ _ [0, 2, 1, 3, 4] _ (HV.out.mod ((Mod.refl _ _).alloc _)) (lit_ints [0, 2, 1, 3, 4] (Blk.new _ 3 #[.int .i64 0, .int .i64 2, .int .i64 1, .int .i64 3, .int .i64 4]) (by decide)) (by decide)).mono ?_
    rintro e w3 ⟨rfl, hm⟩
    have HC3 := Lib.hid ((HC2.out.alloc (.cells #[.int .i64 0, .int .i64 2, .int .i64 1, .int .i64 3, .int .i64 4] 3)).trans hm)
    clear hm HC2 HV q0 q1 q2 q3 r0 r1 r2 r3
    obtain ⟨q0, q1, q2, q3, r0, r1, r2, r3⟩ := HY.out _ HC3.out
    have HC := Lib.hid HC3.out
    clear HC3
    go_wp2_with fail
    refine (sameInts_ok _ 0 _ _ [0, 3] _ (HA3.out.mod (HC.out.alloc _)) (lit_ints [0, 3] (Blk.new _ 3 #[.int .i64 0, .int .i64 3]) (by decide)) (by decide)).mono ?_
    rintro e w3 ⟨rfl, hm⟩
    have HC3 := Lib.hid ((HC.out.alloc (.cells #[.int .i64 0, .int .i64 3] 3)).trans hm)
    clear hm HC q0 q1 q2 q3 r0 r1 r2 r3
    obtain ⟨q0, q1, q2, q3, r0, r1, r2, r3⟩ := HY.out _ HC3.out
    have HC := Lib.hid HC3.out
    clear HC3
    go_wp2_with fail
    refine (sameInts_ok _ 0 _ _ [0, 3, 4] _ (HA4.out.mod (HC.out.alloc _)) (lit_ints [0, 3, 4] (Blk.new _ 3 #[.int .i64 0, .int .i64 3, .int .i64 4]) (by decide)) (by decide)).mono ?_
    rintro e w3 ⟨rfl, hm⟩
    have HC3 := Lib.hid ((HC.out.alloc (.cells #[.int .i64 0, .int .i64 3, .int .i64 4] 3)).trans hm)
    clear hm HC q0 q1 q2 q3 r0 r1 r2 r3
    obtain ⟨q0, q1, q2, q3, r0, r1, r2, r3⟩ := HY.out _ HC3.out
    have HC := Lib.hid HC3.out
    clear HC3
    go_wp2
    go_ret
    exact ⟨rfl, HMW.out.trans HC.out⟩
end Go.Proofs.Ytjaapempahigaaa
