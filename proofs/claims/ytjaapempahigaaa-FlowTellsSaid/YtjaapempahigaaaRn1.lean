/- The document's in, Next. -/
import Derived.Test.YtjaapempahigaaaFl17
import Derived.Deep.RegionHeld3
import Derived.Outline
import Derived.IntWalk
namespace Go.Proofs.Ytjaapempahigaaa
open Go.RowKit

set_option maxRecDepth 100000 in
set_option maxHeartbeats 1000000 in
theorem in_ok (B : Nat) (v : Value) (l : List Nat) (x : Nat) (w : World) (h : Ints w B v l) (hsmall : l.length ≤ 1000) :
    Calls Try.prog 50 #[v, .int .i64 (x : Nat)] w fun e w' => e = .returned (.bool (decide (x ∈ l))) ∧ w = w' := by
  obtain ⟨oa, c, rfl, hc1, hc2⟩ := h.at_
  obtain ⟨m, hm⟩ : ∃ m, l.length = m := ⟨_, rfl⟩
  have HL := Lib.hid h
  rw [hm] at hsmall hc1 HL ⊢
  have HML := Lib.hid hm
  clear h hm
  go_enter Try.func50, Try.ntmps50
  go_wp2
  go_loop [5] (fun i => ∃ k : Nat, k ≤ m ∧ i = .int .i64 k ∧ x ∉ l.take k) (fun i => (m - intOf i).toNat)
  case atStart => exact ⟨0, by omega, rfl, by simp⟩
  case round =>
    obtain ⟨k, hk, rfl, hn⟩ := hrel
    have HN := Lib.hid hn
    clear hn
    by_cases hlt : k < m
    · have hkl : k < l.length := by rw [HML.out]; exact hlt
      obtain ⟨z, hz⟩ : ∃ z, l[k]? = some z := ⟨_, List.getElem?_eq_getElem hkl⟩
      have hV := HL.out
      rw [← HML.out] at hV
      obtain ⟨g, rfl, hg, hgl, hcell⟩ := hV.get hz
      have HZ := Lib.hid hz
      clear hz hV hkl
      by_cases hzx : z = x
      · subst hzx
        have hR : decide (z ∈ l) = true := by simpa using List.mem_of_getElem? HZ.out
        have HR := Lib.hid hR
        clear hR
        go_wp2
        go_ret
        exact ⟨by rw [HR.out]; rfl, rfl⟩
      · have hd : ((z : Int) == (x : Int)) = false := by
          rw [beq_eq_false_iff_ne]
          omega
        clear hzx
        have HNX : Hid (x ∉ l.take (k + 1)) := by
          unfold Hid
          rw [List.take_add_one, HZ.out]
          simp only [List.mem_append, Option.toList_some, List.mem_singleton]
          rintro (h | h)
          · exact HN.out h
          · subst h; simp at hd
        go_wp2
        go_round
        case measure => simp [intOf]; omega
        case rel => exact ⟨k + 1, by omega, by go_num, HNX.out⟩
    · obtain rfl : k = m := by omega
      have hR : decide (x ∈ l) = false := by
        have := HN.out
        rw [List.take_of_length_le (by rw [HML.out]; exact Nat.le_refl _)] at this
        simpa using this
      have HR := Lib.hid hR
      clear hR
      go_wp2
      go_ret
      exact ⟨by rw [HR.out]; rfl, rfl⟩

set_option maxRecDepth 100000 in
set_option maxHeartbeats 4000000 in
theorem refNext_none (nm : ByteArray) (x y : Int) (ob : Option Addr) (N cap : Nat) (b : Int) (w : World) (hb : b < 0 ∨ (N : Int) ≤ b) :
    Calls Try.prog 30 #[fnV nm x y ob N cap, .int .i64 b] w fun e w' => ∃ v, e = .returned v ∧ Ints w' w.heap.size v [] ∧ Mod NoBlk w w' := by
  rcases hb with hb | hb
  · go_enter Try.func30, Try.ntmps30
    go_wp2
    go_ret
    exact ⟨_, rfl, World.ownsRow_nil _ _ _ _, (Mod.refl _ w).alloc _⟩
  · by_cases h0 : b < 0
    · go_enter Try.func30, Try.ntmps30
      go_wp2
      go_ret
      exact ⟨_, rfl, World.ownsRow_nil _ _ _ _, (Mod.refl _ w).alloc _⟩
    · go_enter Try.func30, Try.ntmps30
      go_wp2
      go_ret
      exact ⟨_, rfl, World.ownsRow_nil _ _ _ _, (Mod.refl _ w).alloc _⟩

set_option maxRecDepth 100000 in
set_option maxHeartbeats 4000000 in
theorem refNext_some (nm : ByteArray) (x y : Int) (ad : Addr) (N cap k : Nat) (s : List Nat) (w : World) (hk : k < N) (hB : BlockAt w (ad.add (k * 2)) N s) :
    Calls Try.prog 30 #[fnV nm x y (some ad) N cap, .int .i64 (k : Nat)] w fun e w' => ∃ v, e = .returned v ∧ Ints w' w.heap.size v s ∧ Mod NoBlk w w' := by
  obtain ⟨hblk, bnm, oi, m, c, b0, b1, hmx, hm⟩ := hB
  have i0 : (0 : Int) ≤ (k : Int) := by omega
  have i1 : (k : Int) < (N : Int) := by omega
  rcases hm with ⟨rfl, hs⟩ | ⟨ia, op, l1, l2, rfl, hm0, ⟨hil, d1, d2, d3, d4, d5, d6a, d6n, d6c, c0, c1, c2, c3, c4, c5, c6, c7, c8⟩, hs⟩
  · subst hs
    go_enter Try.func30, Try.ntmps30
    go_wp2
    go_ret
    exact ⟨_, rfl, World.ownsRow_nil _ _ _ _, (Mod.refl _ w).alloc _⟩
  · obtain ⟨j, rfl⟩ : ∃ j, m = j + 1 := ⟨m - 1, by omega⟩
    rw [Nat.add_sub_cancel] at hil c0 c1 c2 c3 c4 c5 c6 c7 c8
    have j0 : (0 : Int) ≤ (j : Int) := by omega
    have j1 : (j : Int) < (j : Int) + 1 := by omega
    obtain ⟨i3, hi3, hz0, hz1, hz2⟩ := info_parts info3
    have HI3 := Lib.hid hi3
    have HZ0 := Lib.hid hz0
    have HZ1 := Lib.hid hz1
    have HZ2 := Lib.hid hz2
    clear hi3 hz0 hz1 hz2
    have e1 : ((j : Int) + 1 == 0) = false := by
      rw [beq_eq_false_iff_ne]
      omega
    go_enter Try.func30, Try.ntmps30
    go_upto_region 3 with fail
    have hm1 : Mod NoBlk w (w.alloc (.cells #[.string nm, .int .i64 x, .int .i64 y, .slice (some ad) N cap] 63)) := (Mod.refl _ w).alloc _
    have hF1 := Blk.new w 63 #[.string nm, .int .i64 x, .int .i64 y, .slice (some ad) N cap]
    have cp : ∀ (a : Addr) (u : Value), a.block < w.heap.size → w.cell? a = some u → (w.alloc (.cells #[.string nm, .int .i64 x, .int .i64 y, .slice (some ad) N cap] 63)).cell? a = some u := fun a u hl h => (hm1.cell hl (fun h => h)).trans h
    have b1' := cp ⟨(ad.add (k * 2)).block, (ad.add (k * 2)).off + 1, none⟩ _ hblk b1
    have c0' := cp _ _ hil c0
    have c1' := cp ⟨(ia.add (j * 9)).block, (ia.add (j * 9)).off + 1, none⟩ _ hil c1
    have c2' := cp ⟨(ia.add (j * 9)).block, (ia.add (j * 9)).off + 2, none⟩ _ hil c2
    have c3' := cp ⟨(ia.add (j * 9)).block, (ia.add (j * 9)).off + 3, none⟩ _ hil c3
    have c4' := cp ⟨(ia.add (j * 9)).block, (ia.add (j * 9)).off + 4, none⟩ _ hil c4
    have c5' := cp ⟨(ia.add (j * 9)).block, (ia.add (j * 9)).off + 5, none⟩ _ hil c5
    have c6' := cp ⟨(ia.add (j * 9)).block, (ia.add (j * 9)).off + 6, none⟩ _ hil c6
    have c7' := cp ⟨(ia.add (j * 9)).block, (ia.add (j * 9)).off + 7, none⟩ _ hil c7
    have c8' := cp ⟨(ia.add (j * 9)).block, (ia.add (j * 9)).off + 8, none⟩ _ hil c8
    have lb1 : (ad.add (k * 2)).block < (w.alloc (.cells #[.string nm, .int .i64 x, .int .i64 y, .slice (some ad) N cap] 63)).heap.size := Nat.lt_of_lt_of_le hblk hm1.size
    have lb2 : (ia.add (j * 9)).block < (w.alloc (.cells #[.string nm, .int .i64 x, .int .i64 y, .slice (some ad) N cap] 63)).heap.size := Nat.lt_of_lt_of_le hil hm1.size
    clear b0 b1 c0 c1 c2 c3 c4 c5 c6 c7 c8 cp
    generalize w.alloc (.cells #[.string nm, .int .i64 x, .int .i64 y, .slice (some ad) N cap] 63) = W1 at *
    obtain ⟨gf, hgf⟩ : ∃ gf, w.heap.size = gf := ⟨_, rfl⟩
    rw [hgf] at hF1 ⊢
    have hq := hF1.cell 3
    simp only [List.getElem?_toArray, List.getElem?_cons_zero, List.getElem?_cons_succ] at hq
    have lf := hF1.lt
    have HF := Lib.hid hF1
    have HM1 := Lib.hid hm1
    have HGF := Lib.hid hgf
    have HGE : Hid (w.heap.size ≤ gf) := by unfold Hid; omega
    have hw1 : IntKind.i64.wrap ((j : Int) + 1 - 1) = (j : Int) := by
      rw [show (j : Int) + 1 - 1 = (j : Int) by omega]
      exact IntWalk.i64_in _ (by omega)
    have hw2 : IntKind.i64.wrap (j : Int) = (j : Int) := IntWalk.i64_in _ (by omega)
    have j2 : (j : Int) < ((j + 1 : Nat) : Int) := by omega
    have j3 : (0 : Int) ≤ (j : Int) + 1 - 1 := by omega
    have j4 : (j : Int) + 1 - 1 < (j : Int) + 1 := by omega
    have j5 : ((j : Int) + 1 - 1).toNat = j := by omega
    clear hF1 hm1 hgf hblk hil
    go_cut [5] (fun s5 wx => ∃ g5, s5 = .pointer (some ⟨g5, 0, none⟩) ∧ Blk wx g5 83 #[.int .u8 op, .int .i64 d1, .int .i64 d2, .int .i64 d3, .int .u32 d4, .int .i64 d5, .slice d6a d6n d6c, .int .i64 l1, .int .i64 l2] ∧ Mod NoBlk W1 wx)
    case first =>
      go_region_held3 (fun w' => w'.cell? ⟨gf, 3, none⟩ = some (.slice (some ad) N cap) ∧ w'.cell? ⟨(ad.add (k * 2)).block, (ad.add (k * 2)).off + 1, none⟩ = some (.slice (some ia) (j + 1) c) ∧ w'.cell? (ia.add (j * 9)) = some (.int .u8 op) ∧ w'.cell? ⟨(ia.add (j * 9)).block, (ia.add (j * 9)).off + 1, none⟩ = some (.int .i64 d1) ∧ w'.cell? ⟨(ia.add (j * 9)).block, (ia.add (j * 9)).off + 2, none⟩ = some (.int .i64 d2) ∧ w'.cell? ⟨(ia.add (j * 9)).block, (ia.add (j * 9)).off + 3, none⟩ = some (.int .i64 d3) ∧ w'.cell? ⟨(ia.add (j * 9)).block, (ia.add (j * 9)).off + 4, none⟩ = some (.int .u32 d4) ∧ w'.cell? ⟨(ia.add (j * 9)).block, (ia.add (j * 9)).off + 5, none⟩ = some (.int .i64 d5) ∧ w'.cell? ⟨(ia.add (j * 9)).block, (ia.add (j * 9)).off + 6, none⟩ = some (.slice d6a d6n d6c) ∧ w'.cell? ⟨(ia.add (j * 9)).block, (ia.add (j * 9)).off + 7, none⟩ = some (.int .i64 l1) ∧ w'.cell? ⟨(ia.add (j * 9)).block, (ia.add (j * 9)).off + 8, none⟩ = some (.int .i64 l2)) (go_keep) (fail)
      go_wp2_with fail
      go_meet
      exact ⟨W1.heap.size, rfl, (Blk.new W1 83 _).drew, ((Mod.refl NoBlk W1).alloc _).drew⟩
    case rest =>
      obtain ⟨g5, rfl, h5, hm5⟩ := hcut
      have e0 := h5.cell 0
      have e7 := h5.cell 7
      have e8 := h5.cell 8
      simp only [List.getElem?_toArray, List.getElem?_cons_zero, List.getElem?_cons_succ] at e0 e7 e8
      have l5 := h5.lt
      have q5 := (hm5.cell (p := ⟨gf, 3, none⟩) lf (fun h => h)).trans hq
      have lf5 : gf < wc.heap.size := Nat.lt_of_lt_of_le lf hm5.size
      have HMC := Lib.hid (HM1.out.trans hm5)
      have HSO := Lib.hid hs
      clear h5 hm5 hq lf hs b1' c0' c1' c2' c3' c4' c5' c6' c7' c8' lb1 lb2 hw1 hw2 j0 j1 j2 j3 j4 j5 e1 hmx HF HM1 HGF
      by_cases o8 : op = 8
      · subst op
        by_cases a1 : l1 < 0
        · have a1' : ¬ (0 ≤ l1) := by omega
          have HS : Hid (s = []) := by
            unfold Hid
            rw [HSO.out]
            unfold succOf
            rw [if_neg (by omega), if_neg (by omega)]
            rfl
          go_wp2
          go_ret
          exact ⟨_, rfl, (by rw [HS.out]; exact World.ownsRow_nil _ _ _ _), HMC.out⟩
        · by_cases a2 : (N : Int) ≤ l1
          · have a2' : ¬ (l1 < N) := by omega
            have HS : Hid (s = []) := by
              unfold Hid
              rw [HSO.out]
              unfold succOf
              rw [if_neg (by omega), if_neg (by omega)]
              rfl
            go_wp2
            go_ret
            exact ⟨_, rfl, (by rw [HS.out]; exact World.ownsRow_nil _ _ _ _), HMC.out⟩
          · obtain ⟨n1, rfl⟩ : ∃ n1 : Nat, l1 = (n1 : Int) := ⟨l1.toNat, by omega⟩
            have HS : Hid (s = [n1]) := by
              unfold Hid
              rw [HSO.out]
              unfold succOf
              rw [if_pos ⟨by omega, by omega, by omega⟩, if_neg (by omega)]
              rfl
            go_wp2_with (at_builtin; go_must (refine wpList_append_lies _ rfl _ _ 65 rfl gf 3 i3 (.int .i64 0) 1 8 Try.underlying65 HI3.out HZ0.out HZ1.out HZ2.out rfl (by decide) _ 0 [] rfl (World.ownsRow_nil _ _ _ _) ⟨wc.heap.size, 0, none⟩ 1 1 [_] rfl rfl (cell_one_new _ _ _) (by simp [Value.oneCell']) (by omega) (by unfold maxLen; omega) (by omega) (by simp; omega) _ rfl ?_); intro g6 c6 w6 hown hgrow _ hlt6; have hm6 : Mod NoBlk wc w6 := ((Mod.refl _ wc).alloc _).grown hgrow (fun k e hk => (by cases e)); simp only [Nat.zero_add, List.nil_append] at hown; have HOW := Lib.hid hown; have HM6 := Lib.hid hm6; have e0' := (hm6.cell (p := ⟨g5, 0, none⟩) l5 (fun h => h)).trans e0; have e7' := (hm6.cell (p := ⟨g5, 7, none⟩) l5 (fun h => h)).trans e7; have e8' := (hm6.cell (p := ⟨g5, 8, none⟩) l5 (fun h => h)).trans e8; have q5' := (hm6.cell (p := ⟨gf, 3, none⟩) lf5 (fun h => h)).trans q5; have l5' : g5 < w6.heap.size := Nat.lt_of_lt_of_le l5 hm6.size; have lf5' : gf < w6.heap.size := Nat.lt_of_lt_of_le lf5 hm6.size; clear hown hgrow hm6 hlt6 e0 e7 e8 q5)
            go_ret
            exact ⟨_, rfl, (by rw [HS.out]; exact Ints.base (B := gf) (by have h6 := HOW.out; unfold Ints; simpa using h6) HGE.out), HMC.out.trans HM6.out⟩
      · by_cases o9 : op = 9
        · subst op
          by_cases a1 : l1 < 0
          · have a1' : ¬ (0 ≤ l1) := by omega
            by_cases d0 : l2 = l1
            · subst l2
              have dn : ((l1 : Int) != l1) = false := by simp
              have HS : Hid (s = []) := by
                unfold Hid
                rw [HSO.out]
                unfold succOf
                rw [if_neg (by omega), if_neg (by omega)]
                rfl
              go_wp2
              go_ret
              exact ⟨_, rfl, (by rw [HS.out]; exact World.ownsRow_nil _ _ _ _), HMC.out⟩
            · have dn : (l2 != l1) = true := by simpa using d0
              have dn2 : (l2 == l1) = false := by simpa using d0
              by_cases b1 : l2 < 0
              · have b1' : ¬ (0 ≤ l2) := by omega
                have HS : Hid (s = []) := by
                  unfold Hid
                  rw [HSO.out]
                  unfold succOf
                  rw [if_neg (by omega), if_neg (by omega)]
                  rfl
                go_wp2
                go_ret
                exact ⟨_, rfl, (by rw [HS.out]; exact World.ownsRow_nil _ _ _ _), HMC.out⟩
              · by_cases b2 : (N : Int) ≤ l2
                · have b2' : ¬ (l2 < N) := by omega
                  have HS : Hid (s = []) := by
                    unfold Hid
                    rw [HSO.out]
                    unfold succOf
                    rw [if_neg (by omega), if_neg (by omega)]
                    rfl
                  go_wp2
                  go_ret
                  exact ⟨_, rfl, (by rw [HS.out]; exact World.ownsRow_nil _ _ _ _), HMC.out⟩
                · obtain ⟨n2, rfl⟩ : ∃ n2 : Nat, l2 = (n2 : Int) := ⟨l2.toNat, by omega⟩
                  have HS : Hid (s = [n2]) := by
                    unfold Hid
                    rw [HSO.out]
                    unfold succOf
                    rw [if_neg (by omega), if_pos ⟨rfl, d0, by omega, by omega⟩]
                    rfl
                  go_wp2_with (at_builtin; go_must (refine wpList_append_lies _ rfl _ _ 65 rfl gf 3 i3 (.int .i64 0) 1 8 Try.underlying65 HI3.out HZ0.out HZ1.out HZ2.out rfl (by decide) _ 0 [] rfl (World.ownsRow_nil _ _ _ _) ⟨wc.heap.size, 0, none⟩ 1 1 [_] rfl rfl (cell_one_new _ _ _) (by simp [Value.oneCell']) (by omega) (by unfold maxLen; omega) (by omega) (by simp; omega) _ rfl ?_); intro g6 c6 w6 hown hgrow _ hlt6; have hm6 : Mod NoBlk wc w6 := ((Mod.refl _ wc).alloc _).grown hgrow (fun k e hk => (by cases e)); simp only [Nat.zero_add, List.nil_append] at hown; have HOW := Lib.hid hown; have HM6 := Lib.hid hm6; have e0' := (hm6.cell (p := ⟨g5, 0, none⟩) l5 (fun h => h)).trans e0; have e7' := (hm6.cell (p := ⟨g5, 7, none⟩) l5 (fun h => h)).trans e7; have e8' := (hm6.cell (p := ⟨g5, 8, none⟩) l5 (fun h => h)).trans e8; have q5' := (hm6.cell (p := ⟨gf, 3, none⟩) lf5 (fun h => h)).trans q5; have l5' : g5 < w6.heap.size := Nat.lt_of_lt_of_le l5 hm6.size; have lf5' : gf < w6.heap.size := Nat.lt_of_lt_of_le lf5 hm6.size; clear hown hgrow hm6 hlt6 e0 e7 e8 q5)
                  go_ret
                  exact ⟨_, rfl, (by rw [HS.out]; exact Ints.base (B := gf) (by have h6 := HOW.out; unfold Ints; simpa using h6) HGE.out), HMC.out.trans HM6.out⟩
          · by_cases a2 : (N : Int) ≤ l1
            · have a2' : ¬ (l1 < N) := by omega
              by_cases d0 : l2 = l1
              · subst l2
                have dn : ((l1 : Int) != l1) = false := by simp
                have HS : Hid (s = []) := by
                  unfold Hid
                  rw [HSO.out]
                  unfold succOf
                  rw [if_neg (by omega), if_neg (by omega)]
                  rfl
                go_wp2
                go_ret
                exact ⟨_, rfl, (by rw [HS.out]; exact World.ownsRow_nil _ _ _ _), HMC.out⟩
              · have dn : (l2 != l1) = true := by simpa using d0
                have dn2 : (l2 == l1) = false := by simpa using d0
                by_cases b1 : l2 < 0
                · have b1' : ¬ (0 ≤ l2) := by omega
                  have HS : Hid (s = []) := by
                    unfold Hid
                    rw [HSO.out]
                    unfold succOf
                    rw [if_neg (by omega), if_neg (by omega)]
                    rfl
                  go_wp2
                  go_ret
                  exact ⟨_, rfl, (by rw [HS.out]; exact World.ownsRow_nil _ _ _ _), HMC.out⟩
                · by_cases b2 : (N : Int) ≤ l2
                  · have b2' : ¬ (l2 < N) := by omega
                    have HS : Hid (s = []) := by
                      unfold Hid
                      rw [HSO.out]
                      unfold succOf
                      rw [if_neg (by omega), if_neg (by omega)]
                      rfl
                    go_wp2
                    go_ret
                    exact ⟨_, rfl, (by rw [HS.out]; exact World.ownsRow_nil _ _ _ _), HMC.out⟩
                  · obtain ⟨n2, rfl⟩ : ∃ n2 : Nat, l2 = (n2 : Int) := ⟨l2.toNat, by omega⟩
                    have HS : Hid (s = [n2]) := by
                      unfold Hid
                      rw [HSO.out]
                      unfold succOf
                      rw [if_neg (by omega), if_pos ⟨rfl, d0, by omega, by omega⟩]
                      rfl
                    go_wp2_with (at_builtin; go_must (refine wpList_append_lies _ rfl _ _ 65 rfl gf 3 i3 (.int .i64 0) 1 8 Try.underlying65 HI3.out HZ0.out HZ1.out HZ2.out rfl (by decide) _ 0 [] rfl (World.ownsRow_nil _ _ _ _) ⟨wc.heap.size, 0, none⟩ 1 1 [_] rfl rfl (cell_one_new _ _ _) (by simp [Value.oneCell']) (by omega) (by unfold maxLen; omega) (by omega) (by simp; omega) _ rfl ?_); intro g6 c6 w6 hown hgrow _ hlt6; have hm6 : Mod NoBlk wc w6 := ((Mod.refl _ wc).alloc _).grown hgrow (fun k e hk => (by cases e)); simp only [Nat.zero_add, List.nil_append] at hown; have HOW := Lib.hid hown; have HM6 := Lib.hid hm6; have e0' := (hm6.cell (p := ⟨g5, 0, none⟩) l5 (fun h => h)).trans e0; have e7' := (hm6.cell (p := ⟨g5, 7, none⟩) l5 (fun h => h)).trans e7; have e8' := (hm6.cell (p := ⟨g5, 8, none⟩) l5 (fun h => h)).trans e8; have q5' := (hm6.cell (p := ⟨gf, 3, none⟩) lf5 (fun h => h)).trans q5; have l5' : g5 < w6.heap.size := Nat.lt_of_lt_of_le l5 hm6.size; have lf5' : gf < w6.heap.size := Nat.lt_of_lt_of_le lf5 hm6.size; clear hown hgrow hm6 hlt6 e0 e7 e8 q5)
                    go_ret
                    exact ⟨_, rfl, (by rw [HS.out]; exact Ints.base (B := gf) (by have h6 := HOW.out; unfold Ints; simpa using h6) HGE.out), HMC.out.trans HM6.out⟩
            · obtain ⟨n1, rfl⟩ : ∃ n1 : Nat, l1 = (n1 : Int) := ⟨l1.toNat, by omega⟩
              by_cases d0 : l2 = (n1 : Int)
              · subst l2
                have dn : (((n1 : Int) : Int) != (n1 : Int)) = false := by simp
                have HS : Hid (s = [n1]) := by
                  unfold Hid
                  rw [HSO.out]
                  unfold succOf
                  rw [if_pos ⟨by omega, by omega, by omega⟩, if_neg (by omega)]
                  rfl
                go_wp2_with (at_builtin; go_must (refine wpList_append_lies _ rfl _ _ 65 rfl gf 3 i3 (.int .i64 0) 1 8 Try.underlying65 HI3.out HZ0.out HZ1.out HZ2.out rfl (by decide) _ 0 [] rfl (World.ownsRow_nil _ _ _ _) ⟨wc.heap.size, 0, none⟩ 1 1 [_] rfl rfl (cell_one_new _ _ _) (by simp [Value.oneCell']) (by omega) (by unfold maxLen; omega) (by omega) (by simp; omega) _ rfl ?_); intro g6 c6 w6 hown hgrow _ hlt6; have hm6 : Mod NoBlk wc w6 := ((Mod.refl _ wc).alloc _).grown hgrow (fun k e hk => (by cases e)); simp only [Nat.zero_add, List.nil_append] at hown; have HOW := Lib.hid hown; have HM6 := Lib.hid hm6; have e0' := (hm6.cell (p := ⟨g5, 0, none⟩) l5 (fun h => h)).trans e0; have e7' := (hm6.cell (p := ⟨g5, 7, none⟩) l5 (fun h => h)).trans e7; have e8' := (hm6.cell (p := ⟨g5, 8, none⟩) l5 (fun h => h)).trans e8; have q5' := (hm6.cell (p := ⟨gf, 3, none⟩) lf5 (fun h => h)).trans q5; have l5' : g5 < w6.heap.size := Nat.lt_of_lt_of_le l5 hm6.size; have lf5' : gf < w6.heap.size := Nat.lt_of_lt_of_le lf5 hm6.size; clear hown hgrow hm6 hlt6 e0 e7 e8 q5)
                go_ret
                exact ⟨_, rfl, (by rw [HS.out]; exact Ints.base (B := gf) (by have h6 := HOW.out; unfold Ints; simpa using h6) HGE.out), HMC.out.trans HM6.out⟩
              · have dn : (l2 != (n1 : Int)) = true := by simpa using d0
                have dn2 : (l2 == (n1 : Int)) = false := by simpa using d0
                by_cases b1 : l2 < 0
                · have b1' : ¬ (0 ≤ l2) := by omega
                  have HS : Hid (s = [n1]) := by
                    unfold Hid
                    rw [HSO.out]
                    unfold succOf
                    rw [if_pos ⟨by omega, by omega, by omega⟩, if_neg (by omega)]
                    rfl
                  go_wp2_with (at_builtin; go_must (refine wpList_append_lies _ rfl _ _ 65 rfl gf 3 i3 (.int .i64 0) 1 8 Try.underlying65 HI3.out HZ0.out HZ1.out HZ2.out rfl (by decide) _ 0 [] rfl (World.ownsRow_nil _ _ _ _) ⟨wc.heap.size, 0, none⟩ 1 1 [_] rfl rfl (cell_one_new _ _ _) (by simp [Value.oneCell']) (by omega) (by unfold maxLen; omega) (by omega) (by simp; omega) _ rfl ?_); intro g6 c6 w6 hown hgrow _ hlt6; have hm6 : Mod NoBlk wc w6 := ((Mod.refl _ wc).alloc _).grown hgrow (fun k e hk => (by cases e)); simp only [Nat.zero_add, List.nil_append] at hown; have HOW := Lib.hid hown; have HM6 := Lib.hid hm6; have e0' := (hm6.cell (p := ⟨g5, 0, none⟩) l5 (fun h => h)).trans e0; have e7' := (hm6.cell (p := ⟨g5, 7, none⟩) l5 (fun h => h)).trans e7; have e8' := (hm6.cell (p := ⟨g5, 8, none⟩) l5 (fun h => h)).trans e8; have q5' := (hm6.cell (p := ⟨gf, 3, none⟩) lf5 (fun h => h)).trans q5; have l5' : g5 < w6.heap.size := Nat.lt_of_lt_of_le l5 hm6.size; have lf5' : gf < w6.heap.size := Nat.lt_of_lt_of_le lf5 hm6.size; clear hown hgrow hm6 hlt6 e0 e7 e8 q5)
                  go_ret
                  exact ⟨_, rfl, (by rw [HS.out]; exact Ints.base (B := gf) (by have h6 := HOW.out; unfold Ints; simpa using h6) HGE.out), HMC.out.trans HM6.out⟩
                · by_cases b2 : (N : Int) ≤ l2
                  · have b2' : ¬ (l2 < N) := by omega
                    have HS : Hid (s = [n1]) := by
                      unfold Hid
                      rw [HSO.out]
                      unfold succOf
                      rw [if_pos ⟨by omega, by omega, by omega⟩, if_neg (by omega)]
                      rfl
                    go_wp2_with (at_builtin; go_must (refine wpList_append_lies _ rfl _ _ 65 rfl gf 3 i3 (.int .i64 0) 1 8 Try.underlying65 HI3.out HZ0.out HZ1.out HZ2.out rfl (by decide) _ 0 [] rfl (World.ownsRow_nil _ _ _ _) ⟨wc.heap.size, 0, none⟩ 1 1 [_] rfl rfl (cell_one_new _ _ _) (by simp [Value.oneCell']) (by omega) (by unfold maxLen; omega) (by omega) (by simp; omega) _ rfl ?_); intro g6 c6 w6 hown hgrow _ hlt6; have hm6 : Mod NoBlk wc w6 := ((Mod.refl _ wc).alloc _).grown hgrow (fun k e hk => (by cases e)); simp only [Nat.zero_add, List.nil_append] at hown; have HOW := Lib.hid hown; have HM6 := Lib.hid hm6; have e0' := (hm6.cell (p := ⟨g5, 0, none⟩) l5 (fun h => h)).trans e0; have e7' := (hm6.cell (p := ⟨g5, 7, none⟩) l5 (fun h => h)).trans e7; have e8' := (hm6.cell (p := ⟨g5, 8, none⟩) l5 (fun h => h)).trans e8; have q5' := (hm6.cell (p := ⟨gf, 3, none⟩) lf5 (fun h => h)).trans q5; have l5' : g5 < w6.heap.size := Nat.lt_of_lt_of_le l5 hm6.size; have lf5' : gf < w6.heap.size := Nat.lt_of_lt_of_le lf5 hm6.size; clear hown hgrow hm6 hlt6 e0 e7 e8 q5)
                    go_ret
                    exact ⟨_, rfl, (by rw [HS.out]; exact Ints.base (B := gf) (by have h6 := HOW.out; unfold Ints; simpa using h6) HGE.out), HMC.out.trans HM6.out⟩
                  · obtain ⟨n2, rfl⟩ : ∃ n2 : Nat, l2 = (n2 : Int) := ⟨l2.toNat, by omega⟩
                    have HS : Hid (s = [n1, n2]) := by
                      unfold Hid
                      rw [HSO.out]
                      unfold succOf
                      rw [if_pos ⟨by omega, by omega, by omega⟩, if_pos ⟨rfl, d0, by omega, by omega⟩]
                      rfl
                    go_wp2_with (first | (at_builtin; refine wpList_append_lies _ rfl _ _ 65 rfl gf 3 i3 (.int .i64 0) 1 8 Try.underlying65 HI3.out HZ0.out HZ1.out HZ2.out rfl (by decide) _ 1 [_] rfl (World.ownsRow.alloc HOW.out _) ⟨w6.heap.size, 0, none⟩ 1 1 [_] rfl rfl (cell_one_new _ _ _) (by simp [Value.oneCell']) (by omega) (by unfold maxLen; omega) (by omega) (by simp; omega) _ rfl ?_; intro g7 c7 w7 hown7 hgrow7 _ _; have HOW7 := Lib.hid hown7; have HM7 : Hid (Mod NoBlk w w7) := (HMC.out.trans HM6.out).trans' (grow_mod hgrow7) (fun k hk h => absurd hk (by have := (HOW.out.lt k h).1; have := HGE.out; omega)); clear hown7 hgrow7) | (at_builtin; go_must (refine wpList_append_lies _ rfl _ _ 65 rfl gf 3 i3 (.int .i64 0) 1 8 Try.underlying65 HI3.out HZ0.out HZ1.out HZ2.out rfl (by decide) _ 0 [] rfl (World.ownsRow_nil _ _ _ _) ⟨wc.heap.size, 0, none⟩ 1 1 [_] rfl rfl (cell_one_new _ _ _) (by simp [Value.oneCell']) (by omega) (by unfold maxLen; omega) (by omega) (by simp; omega) _ rfl ?_); intro g6 c6 w6 hown hgrow _ hlt6; have hm6 : Mod NoBlk wc w6 := ((Mod.refl _ wc).alloc _).grown hgrow (fun k e hk => (by cases e)); simp only [Nat.zero_add, List.nil_append] at hown; have HOW := Lib.hid hown; have HM6 := Lib.hid hm6; have e0' := (hm6.cell (p := ⟨g5, 0, none⟩) l5 (fun h => h)).trans e0; have e7' := (hm6.cell (p := ⟨g5, 7, none⟩) l5 (fun h => h)).trans e7; have e8' := (hm6.cell (p := ⟨g5, 8, none⟩) l5 (fun h => h)).trans e8; have q5' := (hm6.cell (p := ⟨gf, 3, none⟩) lf5 (fun h => h)).trans q5; have l5' : g5 < w6.heap.size := Nat.lt_of_lt_of_le l5 hm6.size; have lf5' : gf < w6.heap.size := Nat.lt_of_lt_of_le lf5 hm6.size; clear hown hgrow hm6 hlt6 e0 e7 e8 q5))
                    go_ret
                    exact ⟨_, rfl, (by rw [HS.out]; exact Ints.base (B := gf) (by have h7 := HOW7.out; unfold Ints; simpa using h7) HGE.out), HM7.out⟩
        · have o8' : (op == 8) = false := by simpa using o8
          have o9' : (op == 9) = false := by simpa using o9
          have HS : Hid (s = []) := by
            unfold Hid
            rw [HSO.out]
            unfold succOf
            rw [if_neg (by omega), if_neg (by omega)]
            rfl
          go_wp2
          go_ret
          exact ⟨_, rfl, (by rw [HS.out]; exact World.ownsRow_nil _ _ _ _), HMC.out⟩
theorem refNext_ok (nm : ByteArray) (x y : Int) (ob : Option Addr) (N cap : Nat) (b : Int) (succ : Nat → List Nat) (w : World) (hG : GraphAt w ob N succ) :
    Calls Try.prog 30 #[fnV nm x y ob N cap, .int .i64 b] w fun e w' => ∃ v, e = .returned v ∧ Ints w' w.heap.size v (nextOf N succ b) ∧ Mod NoBlk w w' := by
  by_cases hb : b < 0 ∨ (N : Int) ≤ b
  · rw [show nextOf N succ b = [] from by unfold nextOf; rw [if_neg (by omega)]]
    exact refNext_none nm x y ob N cap b w hb
  · obtain ⟨k, rfl⟩ : ∃ k : Nat, b = k := ⟨b.toNat, by omega⟩
    rw [show nextOf N succ (k : Int) = succ k from by unfold nextOf; rw [if_pos (by omega)]; rfl]
    obtain ⟨ad, rfl, hB⟩ := hG.1 k (by omega)
    exact refNext_some nm x y ad N cap k (succ k) w (by omega) hB
theorem next_blk (N : Nat) (succ : Nat → List Nat) {k : Nat} (hk : k < N) : nextOf N succ (k : Int) = succ k := by
  unfold nextOf; rw [if_pos (by omega)]; rfl

end Go.Proofs.Ytjaapempahigaaa
