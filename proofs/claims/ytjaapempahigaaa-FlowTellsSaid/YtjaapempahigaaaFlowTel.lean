/- FlowTells' walk. -/
import Derived.Test.YtjaapempahigaaaRn6
import Derived.Test.YtjaapempahigaaaFlowOrd
namespace Go.Proofs.Ytjaapempahigaaa
open Go.RowKit

set_option maxRecDepth 100000 in
set_option maxHeartbeats 4000000 in
theorem flowTells_big (nm : ByteArray) (x y : Int) (ob : Option Addr) (N cap : Nat) (b : Int) (w : World) (hN : 60 < N) (hm : N ≤ 9223372036854775807) :
    Calls Try.prog 7 #[fnV nm x y ob N cap, .int .i64 b] w fun e w' => e = .returned (.bool true) ∧ Mod NoBlk w w' := by
  go_enter Try.func7, Try.ntmps7
  go_wp2_with (go_at_call 27; refine (head_ok _).mono ?_; rintro e w2 ⟨rfl, hm2⟩)
  go_ret
  exact ⟨rfl, ((Mod.refl _ w).alloc _).trans hm2⟩

set_option maxRecDepth 100000 in
set_option maxHeartbeats 4000000 in
theorem flowTells_walk (nm : ByteArray) (x y : Int) (ob : Option Addr) (N cap : Nat) (b : Int) (succ : Nat → List Nat) (w : World) (hG : GraphAt w ob N succ) (hN : N ≤ 60) :
    Calls Try.prog 7 #[fnV nm x y ob N cap, .int .i64 b] w fun e w' => e = .returned (.bool true) ∧ Mod NoBlk w w' := by
  have hs : ∀ a z, z ∈ succ a → z < N := fun a z hz => (hG.succ a).1 z hz
  have HNL : Hid ((nextOf N succ b).length ≤ 1000) := by
    unfold Hid nextOf
    split
    · have := (hG.succ b.toNat).2.1; omega
    · simp
  have HOL : Hid ((ordOf succ N).length ≤ 1000) := by unfold Hid; have := ord_len hs; omega
  have HPL : Hid (∀ i, i < N → (predOf succ N i).length ≤ 1000) := fun i _ => by have := pred_len (succ := succ) (N := N) i; omega
  have HAL : Hid (∀ i, i < N → (abvOf succ N i).length ≤ 1000) := fun i _ => by have := abv_len (succ := succ) (N := N) i; omega
  have HG := Lib.hid hG
  clear hs hG
  go_enter Try.func7, Try.ntmps7
  go_upto_region 3 with fail
  obtain ⟨gf, hgf⟩ : ∃ gf, w.heap.size = gf := ⟨_, rfl⟩
  have hm1 : Mod NoBlk w (w.alloc (.cells #[.string nm, .int .i64 x, .int .i64 y, .slice ob N cap] 63)) := (Mod.refl _ w).alloc _
  have hF1 := Blk.new w 63 #[.string nm, .int .i64 x, .int .i64 y, .slice ob N cap]
  generalize w.alloc (.cells #[.string nm, .int .i64 x, .int .i64 y, .slice ob N cap] 63) = W1 at *
  rw [hgf] at hF1 ⊢
  have HF := Lib.hid hF1
  have HM := Lib.hid hm1
  have HG1 := Lib.hid (HG.out.mod hm1)
  clear hm1 hF1 hgf
  have HX : Hid (∀ w', Mod NoBlk W1 w' → w'.cell? ⟨gf, 0, none⟩ = some (.string nm) ∧ w'.cell? ⟨gf, 1, none⟩ = some (.int .i64 x) ∧ w'.cell? ⟨gf, 2, none⟩ = some (.int .i64 y) ∧ w'.cell? ⟨gf, 3, none⟩ = some (.slice ob N cap)) := by
    intro w' hm
    obtain ⟨k0, k1, k2, k3, _⟩ := fn_cells nm x y ob N cap w' gf (HF.out.mod hm (fun h => h))
    exact ⟨k0, k1, k2, k3⟩
  obtain ⟨q0, q1, q2, q3⟩ := HX.out _ (Mod.refl _ _)
  go_region_held3 (fun w' => w'.cell? ⟨gf, 0, none⟩ = some (.string nm) ∧ w'.cell? ⟨gf, 1, none⟩ = some (.int .i64 x) ∧ w'.cell? ⟨gf, 2, none⟩ = some (.int .i64 y) ∧ w'.cell? ⟨gf, 3, none⟩ = some (.slice ob N cap))
    ((refine HX.out _ ?_; first | exact m16 | exact m15 | exact m14 | exact m13 | exact m12 | exact m11 | exact m10 | exact m9 | exact m8 | exact m7 | exact m6 | exact m5 | exact m4 | exact m3 | exact m2 | exact m1 | exact (Mod.refl _ _).drew | exact Mod.refl _ _))
    ((first
          | (go_at_call 29; (with_reducible refine (next_ok nm x y ob N cap b succ _ (HG1.out.mod ((Mod.refl NoBlk W1).drew))).mono ?_); rintro e w1 ⟨v1, rfl, i1, n1⟩; have m1 : Mod NoBlk W1 w1 := Mod.trans ((Mod.refl _ _).drew) n1; have I1 := Lib.hid i1; clear i1 n1)
          | (go_at_call 30; (with_reducible refine (refNext_ok nm x y ob N cap b succ _ (HG1.out.mod m1)).mono ?_); rintro e w2 ⟨v2, rfl, i2, n2⟩; have m2 : Mod NoBlk W1 w2 := m1.trans n2; have I1' := Lib.hid (I1.out.mod n2); have I2 := Lib.hid i2; clear i2 n2)
          | (go_at_call 28; (with_reducible refine (sameInts_ok _ _ _ _ (nextOf N succ b) _ I1'.out I2.out HNL.out).mono ?_); rintro e w3 ⟨rfl, n3⟩; have m3 : Mod NoBlk W1 w3 := m2.trans n3; clear n3)
          | (go_at_call 32; (with_reducible refine (before_rows nm x y ob N cap succ _ (HG1.out.mod m3) hN).mono ?_); rintro e w4 ⟨g4, rfl, i4, n4⟩; have m4 : Mod NoBlk W1 w4 := m3.trans n4; have I4 := Lib.hid i4; clear i4 n4)
          | (go_at_call 33; (with_reducible refine (refBefore_ok nm x y ob N cap succ _ (HG1.out.mod m4) hN).mono ?_); rintro e w5 ⟨v5, rfl, i5, n5⟩; have m5 : Mod NoBlk W1 w5 := m4.trans n5; obtain ⟨o5, c5, g5, rfl, a5, b5, d5, r5⟩ := i5.rowsV; have I4' := Lib.hid (I4.out.mod n5); have I5 := Lib.hid r5; have D5 := Lib.hid d5; clear i5 r5 d5 n5)
          | (go_at_call 31; (with_reducible refine (same_ok g4 g5 N (predOf succ N) (predOf succ N) _ I4'.out I5.out (fun _ _ => rfl) HPL.out (by omega) _ _ _ _ (fun h => ⟨rfl, D5.out h⟩) (by omega) (Nat.le_refl _) a5).mono ?_); rintro e w6 ⟨rfl, n6⟩; have m6 : Mod NoBlk W1 w6 := m5.trans n6; clear n6)
          | (go_at_call 35; (with_reducible refine (reached_ok nm x y ob N cap succ _ (HG1.out.mod m6) hN).mono ?_); rintro e w7 ⟨g7, rfl, _, i7, n7⟩; have m7 : Mod NoBlk W1 w7 := m6.trans n7; have I7 := Lib.hid i7; clear i7 n7)
          | (go_at_call 36; (with_reducible refine (refReached_ok nm x y ob N cap succ _ (HG1.out.mod m7) hN).mono ?_); rintro e w8 ⟨g8, rfl, i8, n8⟩; have m8 : Mod NoBlk W1 w8 := m7.trans n8; have I7' := Lib.hid (I7.out.mod n8 (fun h => h)); have I8 := Lib.hid i8; clear i8 n8)
          | (go_at_call 34; (with_reducible refine (sameTruths_ok g7 g8 N _ _ _ I7'.out I8.out (fun i _ => (by simp [ordOf])) (by omega)).mono ?_); rintro e w9 ⟨rfl, n9⟩; have m9 : Mod NoBlk W1 w9 := m8.trans n9; clear n9)
          | (go_at_call 37; (with_reducible refine (order_ok nm x y ob N cap succ _ (HG1.out.mod m9) hN).mono ?_); rintro e w10 ⟨v10, rfl, i10, n10⟩; have m10 : Mod NoBlk W1 w10 := m9.trans n10; have I10 := Lib.hid i10; clear i10 n10)
          | (go_at_call 38; (with_reducible refine (refOrder_ok nm x y ob N cap succ _ (HG1.out.mod m10) hN).mono ?_); rintro e w11 ⟨v11, rfl, i11, n11⟩; have m11 : Mod NoBlk W1 w11 := m10.trans n11; have I10' := Lib.hid (I10.out.mod n11); have I11 := Lib.hid i11; clear i11 n11)
          | (go_at_call 28; (with_reducible refine (sameInts_ok _ _ _ _ (ordOf succ N) _ I10'.out I11.out HOL.out).mono ?_); rintro e w12 ⟨rfl, n12⟩; have m12 : Mod NoBlk W1 w12 := m11.trans n12; clear n12)
          | (go_at_call 39; (with_reducible refine (above_rows nm x y ob N cap succ _ (HG1.out.mod m12) hN).mono ?_); rintro e w13 ⟨g13, rfl, i13, n13⟩; have m13 : Mod NoBlk W1 w13 := m12.trans n13; have I13 := Lib.hid i13; clear i13 n13)
          | (go_at_call 40; (with_reducible refine (refAbove_ok nm x y ob N cap succ _ (HG1.out.mod m13) hN).mono ?_); rintro e w14 ⟨g14, rfl, i14, n14⟩; have m14 : Mod NoBlk W1 w14 := m13.trans n14; have I13' := Lib.hid (I13.out.mod n14); have I14 := Lib.hid i14; clear i14 n14)
          | (go_at_call 31; (with_reducible refine (same_ok g13 g14 N (abvOf succ N) (abvOf succ N) _ I13'.out I14.out (fun _ _ => rfl) HAL.out (by omega) _ _ _ _ (fun _ => ⟨rfl, rfl⟩) (by omega) (Nat.le_refl _) (Nat.le_refl _)).mono ?_); rintro e w15 ⟨rfl, n15⟩; have m15 : Mod NoBlk W1 w15 := m14.trans n15; clear n15)
          | (go_at_call 27; (with_reducible refine (head_ok _).mono ?_); rintro e w16 ⟨rfl, n16⟩; have m16 : Mod NoBlk W1 w16 := m15.trans n16; clear n16)))
  all_goals
    have HME := Lib.hid (HM.out.trans m16)
    clear m1 m2 m3 m4 m5 m6 m7 m8 m9 m10 m11 m12 m13 m14 m15 m16 q0 q1 q2 q3
    go_wp2
    go_ret
    exact ⟨rfl, HME.out⟩
end Go.Proofs.Ytjaapempahigaaa
