/- FlowWays' walk. -/
import Derived.Test.YtjaapempahigaaaFlowOrd
namespace Go.Proofs.Ytjaapempahigaaa
open Go.RowKit

set_option maxRecDepth 100000 in
set_option maxHeartbeats 4000000 in
theorem flowWays_big1 (nm : ByteArray) (x y : Int) (ob wa : Option Addr) (N cap M wcap : Nat) (w : World) (hN : 60 < N) (hm : N ≤ 9223372036854775807) :
    Calls Try.prog 9 #[fnV nm x y ob N cap, .slice wa M wcap] w fun e w' => e = .returned (.bool true) ∧ Mod NoBlk w w' := by
  go_enter Try.func9, Try.ntmps9
  go_wp2_with (go_at_call 27; refine (head_ok _).mono ?_; rintro e w2 ⟨rfl, hm2⟩)
  go_ret
  exact ⟨rfl, ((Mod.refl _ w).alloc _).trans hm2⟩
set_option maxRecDepth 100000 in
set_option maxHeartbeats 4000000 in
theorem flowWays_big2 (nm : ByteArray) (x y : Int) (ob wa : Option Addr) (cap M wcap : Nat) (w : World) :
    Calls Try.prog 9 #[fnV nm x y ob 0 cap, .slice wa M wcap] w fun e w' => e = .returned (.bool true) ∧ Mod NoBlk w w' := by
  go_enter Try.func9, Try.ntmps9
  go_wp2_with (go_at_call 27; refine (head_ok _).mono ?_; rintro e w2 ⟨rfl, hm2⟩)
  go_ret
  exact ⟨rfl, ((Mod.refl _ w).alloc _).trans hm2⟩
set_option maxRecDepth 100000 in
set_option maxHeartbeats 4000000 in
theorem flowWays_big3 (nm : ByteArray) (x y : Int) (ob wa : Option Addr) (N cap M wcap : Nat) (w : World) (hN : N ≤ 60) (h0 : 0 < N) (hM : 200 < M) (hm : M ≤ 9223372036854775807) :
    Calls Try.prog 9 #[fnV nm x y ob N cap, .slice wa M wcap] w fun e w' => e = .returned (.bool true) ∧ Mod NoBlk w w' := by
  have e2 : ((N : Int) == 0) = false := by
    rw [beq_eq_false_iff_ne]
    omega
  go_enter Try.func9, Try.ntmps9
  go_wp2_with (go_at_call 27; refine (head_ok _).mono ?_; rintro e w2 ⟨rfl, hm2⟩)
  go_ret
  exact ⟨rfl, ((Mod.refl _ w).alloc _).trans hm2⟩

/-- A row of bytes. -/
def BytesAt (w : World) (wa : Option Addr) (M : Nat) : Prop := ∀ i, i < M → ∃ (a : Addr) (z : Nat), wa = some a ∧ a.block < w.heap.size ∧ z ≤ 255 ∧ w.cell? (a.add i) = some (.int .u8 (z : Nat))
theorem add_block (a : Addr) (i : Nat) : (a.add i).block = a.block := by
  unfold Addr.add
  split <;> rfl
theorem BytesAt.mod {w w' : World} {wa : Option Addr} {M : Nat} (h : BytesAt w wa M) (hm : Mod NoBlk w w') : BytesAt w' wa M := fun i hi => by
  obtain ⟨a, z, h1, h2, h3, h4⟩ := h i hi
  exact ⟨a, z, h1, Nat.lt_of_lt_of_le h2 hm.size, h3, (hm.cell (p := a.add i) (by rw [add_block]; exact h2) (fun h => h)).trans h4⟩

set_option maxRecDepth 100000 in
set_option maxHeartbeats 4000000 in
theorem flowWays_walk (nm : ByteArray) (x y : Int) (ob wa : Option Addr) (N cap M wcap : Nat) (succ : Nat → List Nat) (w : World) (hG : GraphAt w ob N succ) (hW : BytesAt w wa M) (hN : N ≤ 60) (h0 : 0 < N) (hM : M ≤ 200) :
    Calls Try.prog 9 #[fnV nm x y ob N cap, .slice wa M wcap] w fun e w' => e = .returned (.bool true) ∧ Mod NoBlk w w' := by
  have hs : ∀ a z, z ∈ succ a → z < N := fun a z hz => (hG.succ a).1 z hz
  have hmk := fun W => Go.run_make_row' (P := Try.prog) 71 4 (.bool false) 1 Try.underlying71 info4 rfl .i64 .i64 N (by omega) (by omega) W
  have HS := Lib.hid hs
  have HG := Lib.hid hG
  have HMK := Lib.hid hmk
  have HW := Lib.hid hW
  have e2 : ((N : Int) == 0) = false := by
    rw [beq_eq_false_iff_ne]
    omega
  clear hs hG hmk hW
  go_enter Try.func9, Try.ntmps9
  go_upto_region 3 with fail
  obtain ⟨gf, hgf⟩ : ∃ gf, w.heap.size = gf := ⟨_, rfl⟩
  have hm1 : Mod NoBlk w (w.alloc (.cells #[.string nm, .int .i64 x, .int .i64 y, .slice ob N cap] 63)) := (Mod.refl _ w).alloc _
  have hF1 := Blk.new w 63 #[.string nm, .int .i64 x, .int .i64 y, .slice ob N cap]
  generalize w.alloc (.cells #[.string nm, .int .i64 x, .int .i64 y, .slice ob N cap] 63) = W1 at *
  rw [hgf] at hF1 ⊢
  have HF := Lib.hid hF1
  have HM := Lib.hid hm1
  clear hm1 hF1 hgf
  have HX : Hid (∀ w', Mod NoBlk W1 w' → w'.cell? ⟨gf, 0, none⟩ = some (.string nm) ∧ w'.cell? ⟨gf, 1, none⟩ = some (.int .i64 x) ∧ w'.cell? ⟨gf, 2, none⟩ = some (.int .i64 y) ∧ w'.cell? ⟨gf, 3, none⟩ = some (.slice ob N cap)) := by
    intro w' hm
    obtain ⟨k0, k1, k2, k3, _⟩ := fn_cells nm x y ob N cap w' gf (HF.out.mod hm (fun h => h))
    exact ⟨k0, k1, k2, k3⟩
  obtain ⟨q0, q1, q2, q3⟩ := HX.out _ (Mod.refl _ _)
  go_cut [5, 6, 7] (fun s5 s6 s7 wx => ∃ g5 g6 g7, s5 = .slice (some ⟨g5, 0, none⟩) N N ∧ s6 = .slice (some ⟨g6, 0, none⟩) N N ∧ s7 = .slice (some ⟨g7, 0, none⟩) N N ∧ Bools wx g5 N (fun i => decide (i ∈ postOrd succ N)) ∧ RowsV wx g6 N (predOf succ N) ∧ RowsV wx g7 N (abvOf succ N) ∧ Mod NoBlk W1 wx)
  case first =>
    go_region_held3 (fun w' => w'.cell? ⟨gf, 0, none⟩ = some (.string nm) ∧ w'.cell? ⟨gf, 1, none⟩ = some (.int .i64 x) ∧ w'.cell? ⟨gf, 2, none⟩ = some (.int .i64 y) ∧ w'.cell? ⟨gf, 3, none⟩ = some (.slice ob N cap))
      ((refine HX.out _ ?_; repeat (first | exact hmA | exact hmR | exact hmO | exact Mod.refl _ _ | apply Mod.drew)))
      (first
        | (go_at_call 35; refine (reached_ok nm x y ob N cap succ _ (HG.out.mod (HM.out.trans (by first | exact (Mod.refl _ _).drew))) hN).mono ?_; rintro e wR ⟨gR, rfl, _, hvR, hmR0⟩; have hmR : Mod NoBlk W1 wR := Mod.trans (by first | exact (Mod.refl _ _).drew) hmR0)
        | (go_at_call 32; refine (before_rows nm x y ob N cap succ _ (HG.out.mod (HM.out.trans (by first | exact hmR))) hN).mono ?_; rintro e wO ⟨gO, rfl, hvO, hmO0⟩; have hmO : Mod NoBlk W1 wO := Mod.trans (by first | exact hmR) hmO0)
        | (go_at_call 39; refine (above_rows nm x y ob N cap succ _ (HG.out.mod (HM.out.trans (by first | exact hmO))) hN).mono ?_; rintro e wA ⟨gA, rfl, hvA, hmA0⟩; have hmA : Mod NoBlk W1 wA := Mod.trans (by first | exact hmO) hmA0))
    all_goals
      have HR : Hid (Bools wA gR N (fun i => decide (i ∈ postOrd succ N)) ∧ RowsV wA gO N (predOf succ N) ∧ RowsV wA gA N (abvOf succ N) ∧ Mod NoBlk W1 wA) := ⟨(hvR.mod hmO0 (fun h => h)).mod hmA0 (fun h => h), hvO.mod hmA0, hvA, hmA⟩
      clear hvO hmO0 hmO hvR hmR0 hmR hvA hmA0 hmA q0 q1 q2 q3
      go_wp2_with fail
      go_meet
      exact ⟨gR, gO, gA, rfl, rfl, rfl, HR.out.1, HR.out.2.1, HR.out.2.2.1, HR.out.2.2.2⟩
  case rest =>
    clear q0 q1 q2 q3
    obtain ⟨g5, g6, g7, rfl, rfl, rfl, hR, hB, hA, hm⟩ := hcut
    have HR := Lib.hid (hR.congr (d := fun i => decide (i ∈ ordOf succ N)) (fun i _ => by simp [ordOf]))
    have HB := Lib.hid hB
    have HA := Lib.hid hA
    have HMC := Lib.hid hm
    clear hB hR hA hm
    have HY : Hid (∀ w', Mod NoBlk wc w' → w'.cell? ⟨gf, 0, none⟩ = some (.string nm) ∧ w'.cell? ⟨gf, 1, none⟩ = some (.int .i64 x) ∧ w'.cell? ⟨gf, 2, none⟩ = some (.int .i64 y) ∧ w'.cell? ⟨gf, 3, none⟩ = some (.slice ob N cap)) := fun w' h => HX.out w' (HMC.out.trans h)
    clear HX HF
    obtain ⟨q0, q1, q2, q3⟩ := HY.out _ (Mod.refl _ _)
    have l0 : gf < wc.heap.size := lt_cell q0
    have hmk := HMK.out
    clear HMK
    go_upto_region 7 with fail
    have hbn := Bools.new wc N
    have hmn : Mod NoBlk wc (wc.alloc (.cells (madeCells #[.bool false] N) 4)) := (Mod.refl _ wc).alloc _
    generalize wc.alloc (.cells (madeCells #[.bool false] N) 4) = W2 at *
    obtain ⟨gp, hgp⟩ : ∃ gp, wc.heap.size = gp := ⟨_, rfl⟩
    rw [hgp] at hbn ⊢
    have HBN := Lib.hid hbn
    have HMN := Lib.hid hmn
    have HGP : Hid (wc.heap.size ≤ gp) := by unfold Hid; omega
    clear hbn hmn hmk q0 q1 q2 q3 hgp
    go_wp2
    go_loopw [9, 10] (fun s9 s10 wr => ∃ (i at_ : Nat) (c : Nat → Bool), i ≤ M ∧ s9 = .int .i64 at_ ∧ s10 = .int .i64 i ∧ at_ < N ∧ Bools wr gp N c ∧ Rch succ All at_ ∧ (∀ a, Dom succ a at_ → a = at_ ∨ c a = true) ∧ Mod NoBlk wc wr) (fun _ s10 _ => (M + 1 - intOf s10).toNat)
    case atStart => exact ⟨0, 0, _, by omega, rfl, rfl, h0, HBN.out, Rch.zero trivial, fun a h => .inl h.zero, HMN.out⟩
    case round =>
      clear HBN HMN
      obtain ⟨i, t, c, hi, rfl, rfl, ht, hC, hRt, hD, hMr⟩ := hrel
      have b0 := hC.cell t ht
      have b1 := hC.frozen t
      have lp := hC.lt
      have hR1 := (HR.out.mod hMr (fun h => h)).lt
      have c0 := (HR.out.mod hMr (fun h => h)).cell t ht
      rw [show decide (t ∈ ordOf succ N) = true by simpa using (ord_mem HS.out ht).2 hRt] at c0
      have hC' := hC.mark t
      have hMr' : Mod NoBlk wc (wr.setCell ⟨gp, t, none⟩ (.bool true)) := hMr.trans' ((Mod.refl (fun j => j = gp) wr).setCell (p := ⟨gp, t, none⟩) (fun _ => rfl) _) (fun k hk h => absurd hk (by have : k = gp := h; have := HGP.out; omega))
      have c1 := (HR.out.mod hMr' (fun h => h)).cell t ht
      rw [show decide (t ∈ ordOf succ N) = true by simpa using (ord_mem HS.out ht).2 hRt] at c1
      have HRT := Lib.hid hRt
      have HD := Lib.hid hD
      have HC' := Lib.hid hC'
      have HMR := Lib.hid hMr'
      clear hC hRt hD hC' hMr hMr'
      go_upto_region 14 with fail
      generalize wr.setCell ⟨gp, t, none⟩ (.bool true) = W3 at *
      obtain ⟨lA, va, Ba, d1, hIa⟩ := HA.out.mod HMR.out t ht
      have hrowm : ∀ z, z ∈ abvOf succ N t → z < N ∧ mark c t z = true := fun z hz => by
        have hd := (mem_abv HS.out ht).1 hz
        refine ⟨ord_lt HS.out ((ord_mem HS.out (Rch.lt h0 HS.out hd.reached)).2 hd.reached), ?_⟩
        rw [mark_iff]
        exact HD.out z hd
      have HRM := Lib.hid hrowm
      have hln := abv_len (succ := succ) (N := N) t
      clear hrowm b0 b1 c0 c1
      generalize abvOf succ N t = row at *
      obtain ⟨L, hL⟩ : ∃ L, row.length = L := ⟨_, rfl⟩
      have HLL := Lib.hid hL
      rw [hL] at hln
      obtain ⟨ra, rc, rfl, hrc, hrc2⟩ := hIa.at_
      rw [hL] at hrc hIa d1
      have HIA := Lib.hid hIa
      have lp := HC'.out.lt
      have D1 := Lib.hid d1
      clear hL hIa
      go_wp2
      go_loop [11] (fun s11 => ∃ k : Nat, k ≤ L ∧ s11 = .int .i64 k) (fun s11 => (L - intOf s11).toNat)
      case atStart => exact ⟨0, by omega, rfl⟩
      case round =>
        obtain ⟨k, hk, rfl⟩ := hrel
        by_cases hkL : k < L
        · have hkl : k < row.length := by rw [HLL.out]; exact hkL
          obtain ⟨a, ha⟩ : ∃ a, row[k]? = some a := ⟨_, List.getElem?_eq_getElem hkl⟩
          obtain ⟨haN, hma⟩ := HRM.out a (List.mem_of_getElem? ha)
          have hV := HIA.out
          rw [← HLL.out] at hV
          obtain ⟨gr, rfl, _, hgr, d2⟩ := hV.get ha
          have p0 := HC'.out.cell a haN
          rw [hma] at p0
          have nn : ∀ n : Nat, decide ((n : Int) < 0) = false := fun n => by simp
          have na : decide (N ≤ a) = false := by simpa using haN
          clear ha hkl hV hma
          go_wp2
          go_round
          case measure => simp [intOf]; omega
          case rel => exact ⟨k + 1, by omega, by go_num⟩
        · have hkL' : k = L := by omega
          subst k
          obtain ⟨q0, q1, q2, q3⟩ := HY.out _ HMR.out
          go_wp2_with fail
          refine (next_ok nm x y ob N cap t succ _ (HG.out.mod (HM.out.trans (HMC.out.trans HMR.out)))).mono ?_
          rintro e W4 ⟨vn, rfl, hvn, hm4⟩
          rw [show nextOf N succ (t : Int) = succ t from by unfold nextOf; rw [if_pos (by omega)]; rfl] at hvn
          have HM4 := Lib.hid (HMR.out.trans hm4)
          have HC4 := Lib.hid (HC'.out.mod hm4 (fun h => h))
          obtain ⟨na, nc, rfl, hnc, hnc2⟩ := hvn.at_
          have hn2 := (HG.out.succ t).2.1
          have HST : Hid (∀ z ∈ succ t, z < N) := fun z hz => HS.out t z hz
          have HVN := Lib.hid hvn
          have HSR : Hid (∀ z ∈ succ t, Rch succ All z ∧ ∀ a, Dom succ a z → a = z ∨ mark c t a = true) := fun z hz => ⟨HRT.out.step hz trivial, fun a hd => by
            by_cases e : a = z
            · exact .inl e
            · right
              rw [mark_iff]
              exact HD.out a (hd.pred e HRT.out hz)⟩
          have HPR : Hid (∀ z ∈ succ t, t ∈ predOf succ N z) := fun z hz => by simp [predOf, ht, hz]
          clear hm4 hvn q0 q1 q2 q3
          obtain ⟨n, hn⟩ : ∃ n, (succ t).length = n := ⟨_, rfl⟩
          have HNL := Lib.hid hn
          rw [hn] at hnc hn2 ⊢
          clear hn
          by_cases hiM : i = M
          · subst i
            go_wp2_with (go_at_call 27; refine (head_ok _).mono ?_; rintro e w2 ⟨rfl, hm2⟩; have HM2 := Lib.hid hm2; clear hm2)
            go_ret
            exact ⟨rfl, HM.out.trans (HMC.out.trans (HM4.out.trans HM2.out))⟩
          · have ei : ((i : Int) == (M : Int)) = false := by
              rw [beq_eq_false_iff_ne]
              omega
            by_cases hn0 : n = 0
            · subst n
              go_wp2_with (go_at_call 27; refine (head_ok _).mono ?_; rintro e w2 ⟨rfl, hm2⟩; have HM2 := Lib.hid hm2; clear hm2)
              go_ret
              exact ⟨rfl, HM.out.trans (HMC.out.trans (HM4.out.trans HM2.out))⟩
            · have en : ((n : Int) == 0) = false := by
                rw [beq_eq_false_iff_ne]
                omega
              obtain ⟨wad, z, rfl, hwl, hz, w0⟩ := (HW.out.mod (HM.out.trans (HMC.out.trans HM4.out))) i (by omega)
              have hzn : z % n < n := Nat.mod_lt _ (by omega)
              have hnx : z % n < (succ t).length := by rw [HNL.out]; exact hzn
              obtain ⟨tz, hto⟩ : ∃ tz, (succ t)[z % n]? = some tz := ⟨_, List.getElem?_eq_getElem hnx⟩
              have htm := List.mem_of_getElem? hto
              have htN := HST.out tz htm
              have HTO := Lib.hid htm
              have hV := HVN.out
              obtain ⟨gn, rfl, _, hgn, n0⟩ := hV.get hto
              obtain ⟨lB, vb, Bb, f1, hIb⟩ := HB.out.mod HM4.out tz htN
              have HIB := Lib.hid hIb
              have hpl : Hid ((predOf succ N tz).length ≤ 1000) := by unfold Hid; have := pred_len (succ := succ) (N := N) tz; omega
              obtain ⟨q0, q1, q2, q3⟩ := HY.out _ HM4.out
              have l0' : gf < W4.heap.size := lt_cell q0
              have nn : ∀ n : Nat, decide ((n : Int) < 0) = false := fun n => by simp
              have nt : decide (N ≤ tz) = false := by simpa using htN
              clear hto htm hnx hIb hV
              have z0 : (0 : Int) ≤ (z : Int) := by omega
              have z1 : (0 : Int) ≤ (z : Int) % (n : Int) := by omega
              have z2 : (z : Int) % (n : Int) < (n : Int) := by omega
              have z3 : (1 : Int) ≤ (n : Int) := by omega
              go_upto_region 24 with fail
              clear z0 z1 z2 z3 w0 n0
              have HPM := Lib.hid (HPR.out tz HTO.out)
              go_wp2_with (go_at_call 41; (with_reducible refine (has_yes Bb _ (predOf succ N tz) _ _ HIB.out hpl.out HPM.out).mono ?_); rintro e w' ⟨rfl, rfl⟩)
              go_roundw
              case measure => simp [intOf]; omega
              case rel => exact ⟨i + 1, tz, mark c t, by omega, rfl, by go_num, htN, HC4.out, (HSR.out tz HTO.out).1, (HSR.out tz HTO.out).2, HM4.out⟩
end Go.Proofs.Ytjaapempahigaaa
