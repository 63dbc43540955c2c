/- FlowOrder's walk. -/
import Derived.Test.YtjaapempahigaaaFl17
namespace Go.Proofs.Ytjaapempahigaaa
open Go.RowKit

theorem lt_cell {w : World} {x : Addr} {v : Value} (h : w.cell? x = some v) : x.block < w.heap.size := by
  rcases Nat.lt_or_ge x.block w.heap.size with hlt | hge
  · exact hlt
  · simp [World.cell?, Array.getElem?_eq_none hge] at h

set_option maxRecDepth 100000 in
set_option maxHeartbeats 4000000 in
theorem flowOrder_big (nm : ByteArray) (x y : Int) (ob : Option Addr) (N cap : Nat) (w : World) (hN : 60 < N) (hm : N ≤ 9223372036854775807) :
    Calls Try.prog 8 #[fnV nm x y ob N cap] w fun e w' => e = .returned (.bool true) ∧ Mod NoBlk w w' := by
  go_enter Try.func8, Try.ntmps8
  go_wp2_with (go_at_call 27; refine (head_ok _).mono ?_; rintro e w2 ⟨rfl, hm2⟩)
  go_ret
  exact ⟨rfl, ((Mod.refl _ w).alloc _).trans hm2⟩

set_option maxRecDepth 100000 in
set_option maxHeartbeats 4000000 in
theorem flowOrder_walk (nm : ByteArray) (x y : Int) (ob : Option Addr) (N cap : Nat) (succ : Nat → List Nat) (w : World) (hG : GraphAt w ob N succ) (hN : N ≤ 60) :
    Calls Try.prog 8 #[fnV nm x y ob N cap] w fun e w' => e = .returned (.bool true) ∧ Mod NoBlk w w' := by
  have hs : ∀ a z, z ∈ succ a → z < N := fun a z hz => (hG.succ a).1 z hz
  have HS := Lib.hid hs
  have HG := Lib.hid hG
  clear hs hG
  go_enter Try.func8, Try.ntmps8
  go_upto_region 3 with fail
  obtain ⟨gf, hgf⟩ : ∃ gf, w.heap.size = gf := ⟨_, rfl⟩
  have hm1 : Mod NoBlk w (w.alloc (.cells #[.string nm, .int .i64 x, .int .i64 y, .slice ob N cap] 63)) := (Mod.refl _ w).alloc _
  have hF1 := Blk.new w 63 #[.string nm, .int .i64 x, .int .i64 y, .slice ob N cap]
  generalize w.alloc (.cells #[.string nm, .int .i64 x, .int .i64 y, .slice ob N cap] 63) = W1 at *
  rw [hgf] at hF1 ⊢
  have HF := Lib.hid hF1
  have HM := Lib.hid hm1
  clear hm1 hF1 hgf
  have HX : Hid (∀ w', Mod NoBlk W1 w' → w'.cell? ⟨gf, 0, none⟩ = some (.string nm) ∧ w'.cell? ⟨gf, 1, none⟩ = some (.int .i64 x) ∧ w'.cell? ⟨gf, 2, none⟩ = some (.int .i64 y) ∧ w'.cell? ⟨gf, 3, none⟩ = some (.slice ob N cap)) := by
    intro w' hm
    obtain ⟨k0, k1, k2, k3, _⟩ := fn_cells nm x y ob N cap w' gf (HF.out.mod hm (fun h => h))
    exact ⟨k0, k1, k2, k3⟩
  obtain ⟨q0, q1, q2, q3⟩ := HX.out _ (Mod.refl _ _)
  go_cut [3, 4, 5] (fun s3 s4 s5 wx => ∃ g4 g5, s4 = .slice (some ⟨g4, 0, none⟩) N N ∧ s5 = .slice (some ⟨g5, 0, none⟩) N N ∧ Ints wx 0 s3 (ordOf succ N) ∧ Bools wx g4 N (fun i => decide (i ∈ postOrd succ N)) ∧ RowsV wx g5 N (abvOf succ N) ∧ Mod NoBlk W1 wx)
  case first =>
    go_region_held3 (fun w' => w'.cell? ⟨gf, 0, none⟩ = some (.string nm) ∧ w'.cell? ⟨gf, 1, none⟩ = some (.int .i64 x) ∧ w'.cell? ⟨gf, 2, none⟩ = some (.int .i64 y) ∧ w'.cell? ⟨gf, 3, none⟩ = some (.slice ob N cap))
      ((refine HX.out _ ?_; repeat (first | exact hmA | exact hmR | exact hmO | exact Mod.refl _ _ | apply Mod.drew)))
      (first
        | (go_at_call 37; refine (order_ok nm x y ob N cap succ _ (HG.out.mod (HM.out.trans (by first | exact (Mod.refl _ _).drew))) hN).mono ?_; rintro e wO ⟨vO, rfl, hvO, hmO0⟩; have hmO : Mod NoBlk W1 wO := Mod.trans (by first | exact (Mod.refl _ _).drew) hmO0)
        | (go_at_call 35; refine (reached_ok nm x y ob N cap succ _ (HG.out.mod (HM.out.trans (by first | exact hmO))) hN).mono ?_; rintro e wR ⟨gR, rfl, _, hvR, hmR0⟩; have hmR : Mod NoBlk W1 wR := Mod.trans (by first | exact hmO) hmR0)
        | (go_at_call 39; refine (above_rows nm x y ob N cap succ _ (HG.out.mod (HM.out.trans (by first | exact hmR))) hN).mono ?_; rintro e wA ⟨gA, rfl, hvA, hmA0⟩; have hmA : Mod NoBlk W1 wA := Mod.trans (by first | exact hmR) hmA0))
    all_goals
      have HR : Hid (Ints wA 0 vO (ordOf succ N) ∧ Bools wA gR N (fun i => decide (i ∈ postOrd succ N)) ∧ RowsV wA gA N (abvOf succ N) ∧ Mod NoBlk W1 wA) := ⟨((hvO.base (Nat.zero_le _)).mod hmR0).mod hmA0, hvR.mod hmA0 (fun h => h), hvA, hmA⟩
      clear hvO hmO0 hmO hvR hmR0 hmR hvA hmA0 hmA q0 q1 q2 q3
      go_wp2_with fail
      go_meet
      exact ⟨gR, gA, rfl, rfl, HR.out.1, HR.out.2.1, HR.out.2.2.1, HR.out.2.2.2⟩
  case rest =>
    clear q0 q1 q2 q3
    obtain ⟨g4, g5, rfl, rfl, hO, hR, hA, hm⟩ := hcut
    obtain ⟨oa, co, rfl, hco, hco2⟩ := hO.at_
    have hol := ord_len HS.out
    obtain ⟨m, hml⟩ : ∃ m, (ordOf succ N).length = m := ⟨_, rfl⟩
    have HML := Lib.hid hml
    rw [hml] at hco hol hO ⊢
    have HO := Lib.hid hO
    have HR := Lib.hid (hR.congr (d := fun i => decide (i ∈ ordOf succ N)) (fun i _ => by simp [ordOf]))
    have HA := Lib.hid hA
    have HMC := Lib.hid hm
    clear hO hR hA hm hml
    have HY : Hid (∀ w', Mod NoBlk wc w' → w'.cell? ⟨gf, 0, none⟩ = some (.string nm) ∧ w'.cell? ⟨gf, 1, none⟩ = some (.int .i64 x) ∧ w'.cell? ⟨gf, 2, none⟩ = some (.int .i64 y) ∧ w'.cell? ⟨gf, 3, none⟩ = some (.slice ob N cap)) := fun w' h => HX.out w' (HMC.out.trans h)
    clear HX HF
    go_wp2
    go_loopw [6, 7] (fun s6 s7 wr => ∃ b : Nat, b ≤ N ∧ s7 = .int .i64 b ∧ s6 = .int .i64 (cntB b (fun i => decide (i ∈ ordOf succ N)) : Nat) ∧ Mod NoBlk wc wr) (fun _ s7 _ => (N - intOf s7).toNat)
    case atStart => exact ⟨0, by omega, rfl, rfl, Mod.refl _ _⟩
    case round =>
      obtain ⟨b, hb, rfl, rfl, hMr⟩ := hrel
      have HMR := Lib.hid hMr
      have hcl := cntB_le b (fun i => decide (i ∈ ordOf succ N))
      have HC := Lib.hid (cntB_succ b (fun i => decide (i ∈ ordOf succ N)))
      have HCE := Lib.hid (cnt_mem N (ordOf succ N) (ord_nodup HS.out) (fun z hz => ord_lt HS.out hz))
      generalize hcn : cntB b (fun i => decide (i ∈ ordOf succ N)) = cn at *
      have HCN := Lib.hid hcn
      clear hMr hcn
      by_cases hlt : b < N
      · have i0 : (0 : Int) ≤ (b : Int) := by omega
        have i1 : (b : Int) < (N : Int) := by omega
        have c0 := (HR.out.mod HMR.out (fun h => h)).cell b hlt
        obtain ⟨lA, va, Ba, c1, hIa⟩ := HA.out.mod HMR.out b hlt
        have nb : decide (N ≤ b) = false := by simpa using hlt
        have HOL : Hid ((ordOf succ N).length ≤ 1000) := by unfold Hid; rw [HML.out]; omega
        by_cases hr : b ∈ ordOf succ N
        · rw [show decide (b ∈ ordOf succ N) = true by simpa using hr] at c0
          have hab : b ∈ abvOf succ N b := (mem_abv HS.out hlt).2 (Dom.self ((ord_mem HS.out hlt).1 hr))
          have hln := abv_len (succ := succ) (N := N) b
          have HLN : Hid ((abvOf succ N b).length ≤ 1000) := by unfold Hid; omega
          have HIA := Lib.hid hIa
          have HBR := Lib.hid hr
          have HAB := Lib.hid hab
          clear hIa hr hab
          go_wp2
          go_quiet ((go_at_call 41; first | exact has_yesQ 0 _ _ b _ _ (HO.out.mod HMR.out) HOL.out HBR.out | exact has_yesQ Ba _ _ b _ _ HIA.out HLN.out HAB.out))
          go_wp2
          have hrowm : ∀ z, z ∈ abvOf succ N b → z < N ∧ Dom succ z b := fun z hz => by
            have hd := (mem_abv HS.out hlt).1 hz
            exact ⟨ord_lt HS.out ((ord_mem HS.out (Rch.lt (by omega) HS.out hd.reached)).2 hd.reached), hd⟩
          have HRM := Lib.hid hrowm
          clear hrowm
          generalize abvOf succ N b = row at *
          obtain ⟨L, hL⟩ : ∃ L, row.length = L := ⟨_, rfl⟩
          have HLL := Lib.hid hL
          have hIa := HIA.out
          rw [hL] at hln
          obtain ⟨ra, rc, rfl, hrc, hrc2⟩ := hIa.at_
          rw [hL] at hrc hIa c1
          have HIA := Lib.hid hIa
          have C1 := Lib.hid c1
          have HM3 := Lib.hid (HMR.out.drewN nq)
          have D1 : Hid (∀ w', Mod NoBlk wr w' → w'.cell? ⟨g5, b, none⟩ = some (.slice ra L rc)) := fun w' h => (h.cell (p := ⟨g5, b, none⟩) lA (fun h => h)).trans C1.out
          have HM4 : Hid (Mod NoBlk wr (wr.drewN nq)) := (Mod.refl _ wr).drewN nq
          clear hL hIa c0 c1
          go_loopw [8] (fun s8 wi => ∃ i : Nat, i ≤ L ∧ s8 = .int .i64 i ∧ Mod NoBlk wr wi) (fun s8 _ => (L - intOf s8).toNat)
          case atStart => exact ⟨0, by omega, rfl, HM4.out⟩
          case round =>
            obtain ⟨i, hi, rfl, hMi⟩ := hrel
            have HMI := Lib.hid hMi
            clear hMi HM4 HM3
            have d1 := D1.out _ HMI.out
            by_cases hiL : i < L
            · have hil : i < row.length := by rw [HLL.out]; exact hiL
              obtain ⟨a, ha⟩ : ∃ a, row[i]? = some a := ⟨_, List.getElem?_eq_getElem hil⟩
              obtain ⟨haN, hda⟩ := HRM.out a (List.mem_of_getElem? ha)
              have haO : a ∈ ordOf succ N := (ord_mem HS.out haN).2 hda.reached
              have hV := HIA.out.mod HMI.out
              rw [← HLL.out] at hV
              obtain ⟨gr, rfl, _, hgr, d2⟩ := hV.get ha
              have hpos := ord_pos HS.out (by omega) hda
              have HAO := Lib.hid haO
              have HDA := Lib.hid hda
              have nn : ∀ n : Nat, decide ((n : Int) < 0) = false := fun n => by simp
              have na : decide (N ≤ a) = false := by simpa using haN
              have np : decide ((ordOf succ N).idxOf b < (ordOf succ N).idxOf a) = false := by simpa using hpos
              clear ha hil hV hda haO
              go_wp2_with (go_at_call 41; (with_reducible refine (has_yes 0 _ (ordOf succ N) _ _ (HO.out.mod (HMR.out.trans HMI.out)) HOL.out (by first | exact HAO.out | exact HBR.out)).mono ?_); rintro e w' ⟨rfl, rfl⟩)
              clear hpos d2
              go_loopw [10] (fun s10 wk => ∃ k : Nat, k ≤ i ∧ s10 = .int .i64 k ∧ Mod NoBlk wr wk) (fun s10 _ => (i - intOf s10).toNat)
              case atStart => exact ⟨0, by omega, rfl, Mod.refl _ _⟩
              case round =>
                obtain ⟨k, hk, rfl, hMk⟩ := hrel
                have HMK := Lib.hid (HMI.out.trans hMk)
                have HMK0 := Lib.hid hMk
                clear hMk HMI d1
                by_cases hki : k < i
                · have hkl : k < row.length := by rw [HLL.out]; omega
                  obtain ⟨c, hc⟩ : ∃ c, row[k]? = some c := ⟨_, List.getElem?_eq_getElem hkl⟩
                  obtain ⟨hcN, hdc⟩ := HRM.out c (List.mem_of_getElem? hc)
                  have d1 := D1.out _ HMK.out
                  have hV := HIA.out.mod HMK.out
                  rw [← HLL.out] at hV
                  obtain ⟨gr', e', _, hgr', d2⟩ := hV.get hc
                  cases e'
                  obtain ⟨_, v1, B1, e1, hI1⟩ := HA.out.mod (HMR.out.trans HMK.out) a haN
                  obtain ⟨_, v2, B2, e2, hI2⟩ := HA.out.mod (HMR.out.trans HMK.out) c hcN
                  have HI1 := Lib.hid hI1
                  have HI2 := Lib.hid hI2
                  have hor := HDA.out.line hdc
                  have HN1 : Hid ((abvOf succ N a).length ≤ 1000) := by unfold Hid; have := abv_len (succ := succ) (N := N) a; omega
                  have HN2 : Hid ((abvOf succ N c).length ≤ 1000) := by unfold Hid; have := abv_len (succ := succ) (N := N) c; omega
                  rw [← mem_abv HS.out hcN, ← mem_abv HS.out haN] at hor
                  have HOR := Lib.hid hor
                  have nc : decide (N ≤ c) = false := by simpa using hcN
                  clear hc hkl hV hdc hI1 hI2 hor
                  by_cases hca : c ∈ abvOf succ N a
                  · have HCA := Lib.hid hca
                    clear hca
                    go_wp2_with (go_at_call 41; (with_reducible refine (has_yes B1 _ (abvOf succ N a) _ _ HI1.out HN1.out HCA.out).mono ?_); rintro e w' ⟨rfl, rfl⟩)
                    go_roundw
                    case measure => simp [intOf]; omega
                    case rel => exact ⟨k + 1, by omega, by go_num, HMK0.out⟩
                  · have HCA := Lib.hid hca
                    have HAC := Lib.hid (HOR.out.resolve_right hca)
                    clear hca
                    go_wp2_with (go_at_call 41; first
                      | ((with_reducible refine (has_no B1 _ (abvOf succ N a) _ _ HI1.out HN1.out HCA.out).mono ?_); rintro e w' ⟨rfl, rfl⟩)
                      | ((with_reducible refine (has_yes B2 _ (abvOf succ N c) _ _ HI2.out HN2.out HAC.out).mono ?_); rintro e w' ⟨rfl, rfl⟩))
                    go_roundw
                    case measure => simp [intOf]; omega
                    case rel => exact ⟨k + 1, by omega, by go_num, HMK0.out⟩
                · obtain rfl : k = i := by omega
                  go_wp2
                  go_roundw
                  case measure => simp [intOf]; omega
                  case rel => exact ⟨k + 1, by omega, by go_num, HMK.out⟩
            · obtain rfl : i = L := by omega
              go_wp2
              go_roundw
              case measure => simp [intOf]; omega
              case rel => exact ⟨b + 1, by omega, by go_num, by rw [HC.out, if_pos (by simpa using HBR.out)]; go_num, HMR.out.trans HMI.out⟩
        · rw [show decide (b ∈ ordOf succ N) = false by simpa using hr] at c0
          have hrow0 : abvOf succ N b = [] := by unfold abvOf; rw [if_neg hr]
          rw [hrow0] at hIa
          have HIA0 := Lib.hid hIa
          obtain ⟨ra, rc, rfl, hrc, hrc2⟩ := hIa.at_
          have HIA := Lib.hid HIA0.out
          have HBR := Lib.hid hr
          have C1 := Lib.hid c1
          have HCI : Hid (cntB (b + 1) (fun i => decide (i ∈ ordOf succ N)) = cn) := by
            unfold Hid
            rw [HC.out, if_neg (by simpa using hr)]
            rfl
          clear hIa hr HIA0 hrow0
          go_wp2
          go_quiet ((go_at_call 41; first | exact has_noQ 0 _ (ordOf succ N) b _ _ (HO.out.mod HMR.out) HOL.out HBR.out | exact has_noQ Ba _ [] b _ _ HIA.out (by simp) (by simp)))
          go_wp2
          have HM4 : Hid (Mod NoBlk wr (wr.drewN nq)) := (Mod.refl _ wr).drewN nq
          clear c0 c1
          go_loopw [8] (fun s8 wi => s8 = .int .i64 0 ∧ Mod NoBlk wr wi) (fun _ _ => 0)
          case atStart => exact ⟨rfl, HM4.out⟩
          case round =>
            obtain ⟨rfl, hMi⟩ := hrel
            have HMI := Lib.hid hMi
            have c1 := (hMi.cell (p := ⟨g5, b, none⟩) lA (fun h => h)).trans C1.out
            clear hMi HM4
            go_wp2
            go_roundw
            case measure => simp [intOf]; omega
            case rel => exact ⟨b + 1, by omega, by go_num, by rw [HCI.out], HMR.out.trans HMI.out⟩
      · have hbN : b = N := by omega
        subst b
        have hcm : cn = m := by rw [← HCN.out, HCE.out, HML.out]
        subst cn
        obtain ⟨q0, q1, q2, q3⟩ := HY.out _ HMR.out
        have l0 : gf < wr.heap.size := lt_cell q0
        rcases Nat.eq_zero_or_pos N with h0 | h0
        · have hm0 : m = 0 := by rw [← HML.out]; subst h0; simp [ordOf, postOrd]
          clear HC HCE HY HA HR
          subst m
          subst N
          go_wp2_with (go_at_call 27; refine (head_ok _).mono ?_; rintro e w2 ⟨rfl, hm2⟩; have HM2 := Lib.hid hm2; clear hm2)
          go_ret
          exact ⟨rfl, HM.out.trans (HMC.out.trans (HMR.out.trans HM2.out))⟩
        · obtain ⟨l, hl⟩ := ord_head HS.out h0
          have hV := HO.out.mod HMR.out
          have hm1 : m = l.length + 1 := by rw [← HML.out, hl]; simp
          rw [← HML.out] at hV
          obtain ⟨go_, rfl, _, hgo, d0⟩ := hV.get (k := 0) (x := 0) (by rw [hl]; rfl)
          have e1 : ((m : Int) == 0) = false := by
            rw [beq_eq_false_iff_ne]
            omega
          have e2 : ((N : Int) == 0) = false := by
            rw [beq_eq_false_iff_ne]
            omega
          have e3 : 0 < m := by omega
          clear hV hl hm1 HC HCE
          go_wp2_with (go_at_call 27; refine (head_ok _).mono ?_; rintro e w2 ⟨rfl, hm2⟩; have HM2 := Lib.hid hm2; clear hm2)
          go_ret
          exact ⟨rfl, HM.out.trans (HMC.out.trans (HMR.out.trans HM2.out))⟩
end Go.Proofs.Ytjaapempahigaaa
