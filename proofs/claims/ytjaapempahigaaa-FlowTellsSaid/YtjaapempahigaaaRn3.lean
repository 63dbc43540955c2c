/- The document's Without, Reached. -/
import Derived.Test.YtjaapempahigaaaRn2
namespace Go.Proofs.Ytjaapempahigaaa
open Go.RowKit

def okOf (a : Int) : Nat → Prop := fun b => (b : Int) ≠ a
def Closed (succ : Nat → List Nat) (ok : Nat → Prop) (N : Nat) (c : Nat → Bool) : Prop := ∀ b, b < N → c b = true → ∀ z ∈ succ b, ok z → c z = true
section
variable {succ : Nat → List Nat} {ok : Nat → Prop} {N n : Nat} {c0 c : Nat → Bool}
theorem round_end (h0 : Closed succ ok N c0 ∨ n + 1 ≤ cntB N c0) (hmono : ∀ i, c0 i = true → c i = true) (hproc : ∀ b, b < N → c0 b = true → ∀ z ∈ succ b, ok z → c z = true)
    (hcl : Closed succ ok N c0 → ∀ i, c i = true → c0 i = true) : Closed succ ok N c ∨ n + 1 + 1 ≤ cntB N c := by
  by_cases hg : ∃ i, i < N ∧ c0 i = false ∧ c i = true
  · obtain ⟨i, hi, h1, h2⟩ := hg
    rcases h0 with h0 | h0
    · rw [hcl h0 i h2] at h1; cases h1
    · right
      have := cntB_lt (fun i _ h => hmono i h) hi h1 h2
      omega
  · left
    intro b hb hcb z hz hoz
    refine hproc b hb ?_ z hz hoz
    cases h : c0 b with
    | true => rfl
    | false => exact absurd ⟨b, hb, h, hcb⟩ hg
theorem closed_all (hs : ∀ a z, z ∈ succ a → z < N) (h0 : ok 0 → 0 < N → c 0 = true) (hc : Closed succ ok N c) (hn : 0 < N) {i : Nat} (h : Rch succ ok i) : c i = true :=
  Rch.ind (P := fun i => c i = true) (fun ho => h0 ho hn) (fun a b ha ih hb ho => hc a (Rch.lt hn hs ha) ih b hb ho) h
end

set_option maxRecDepth 100000 in
set_option maxHeartbeats 4000000 in
theorem refWithout_ok (nm : ByteArray) (x y : Int) (ob : Option Addr) (N cap : Nat) (a : Int) (succ : Nat → List Nat) (w : World) (hG : GraphAt w ob N succ) (hN : N ≤ 60) :
    Calls Try.prog 52 #[fnV nm x y ob N cap, .int .i64 a] w fun e w' => ∃ g c, e = .returned (.slice (some ⟨g, 0, none⟩) N N) ∧ Bools w' g N c ∧ (∀ i, i < N → (c i = true ↔ Rch succ (okOf a) i)) ∧ Mod NoBlk w w' := by
  have hmk := fun W => Go.run_make_row' (P := Try.prog) 71 4 (.bool false) 1 Try.underlying71 info4 rfl .i64 .i64 N (by omega) (by omega) W
  have hs : ∀ a z, z ∈ succ a → z < N := fun a z hz => (hG.succ a).1 z hz
  have HS := Lib.hid hs
  have HG := Lib.hid hG
  clear hs hG
  go_enter Try.func52, Try.ntmps52
  go_upto_region 2 with fail
  have hm1 := mod2' w (.cells #[.string nm, .int .i64 x, .int .i64 y, .slice ob N cap] 63) (.cells (madeCells #[.bool false] N) 4)
  have hF1 := (Blk.new w 63 #[.string nm, .int .i64 x, .int .i64 y, .slice ob N cap]).alloc (.cells (madeCells #[.bool false] N) 4)
  have hC1 := Bools.new (w.alloc (.cells #[.string nm, .int .i64 x, .int .i64 y, .slice ob N cap] 63)) N
  rw [World.size_alloc] at hC1
  generalize (w.alloc (.cells #[.string nm, .int .i64 x, .int .i64 y, .slice ob N cap] 63)).alloc (.cells (madeCells #[.bool false] N) 4) = W1 at *
  obtain ⟨gf, hgf⟩ : ∃ gf, w.heap.size = gf := ⟨_, rfl⟩
  obtain ⟨g, hg⟩ : ∃ g, gf + 1 = g := ⟨_, rfl⟩
  rw [hgf] at hF1 hC1 ⊢
  rw [hg] at hC1 ⊢
  have HF1 := Lib.hid hF1
  have HC1 := Lib.hid hC1
  have HM1 := Lib.hid hm1
  have HGE : Hid (gf < g ∧ w.heap.size ≤ gf) := by unfold Hid; omega
  have lg := hC1.lt
  clear hmk hm1 hF1 hC1 hgf hg
  by_cases hst : 0 < N ∧ a ≠ 0
  · obtain ⟨h0, ha⟩ := hst
    have b0 := HC1.out.cell 0 h0
    have b1 := HC1.out.frozen 0
    have an : (a != 0) = true := by simpa using ha
    go_upto_region 4 with fail
    have hC2 := HC1.out.mark 0
    have hm2 : Mod (fun j => j = g) W1 (W1.setCell ⟨g, 0, none⟩ (.bool true)) := (Mod.refl (fun j => j = g) W1).setCell (p := ⟨g, 0, none⟩) (fun _ => rfl) _
    have hF2 := HF1.out.mod hm2 (fun h => by have : gf = g := h; have := HGE.out; omega)
    have hM2 := HM1.out.trans' hm2 (fun j hj h => absurd hj (by have : j = g := h; have := HGE.out; omega))
    have hsd : ∀ i, mark (fun _ => false) 0 i = true → Rch succ (okOf a) i := fun i hi => by
      rcases (mark_iff _ _ _).1 hi with rfl | h
      · exact Rch.zero (fun e => ha e.symm)
      · cases h
    have hz0 : okOf a 0 → 0 < N → mark (fun _ => false) 0 0 = true := fun _ _ => mark_self _ _
    have hcc : Closed succ (okOf a) N (mark (fun _ => false) 0) ∨ 0 + 1 ≤ cntB N (mark (fun _ => false) 0) := .inr (cntB_pos h0 (mark_self _ _))
    generalize W1.setCell ⟨g, 0, none⟩ (.bool true) = W2 at *
    generalize mark (fun _ => false) 0 = c2 at *
    clear b0 b1 an ha hm2 lg h0
    have HC2 := Lib.hid hC2
    have HF2 := Lib.hid hF2
    have HM2 := Lib.hid hM2
    have HSD := Lib.hid hsd
    have HZ0 := Lib.hid hz0
    have HCC := Lib.hid hcc
    clear hC2 hF2 hM2 hsd hz0 hcc
    go_wp2
    go_loopw [6, 7, 8, 9] (fun s6 _ _ _ wr => ∃ (n : Nat) (c : Nat → Bool), n ≤ N ∧ s6 = .int .i64 n ∧ Bools wr g N c ∧ (∀ i, c i = true → Rch succ (okOf a) i) ∧ (okOf a 0 → 0 < N → c 0 = true) ∧ (Closed succ (okOf a) N c ∨ n + 1 ≤ cntB N c) ∧ Mod NoBlk w wr ∧ Blk wr gf 63 #[.string nm, .int .i64 x, .int .i64 y, .slice ob N cap]) (fun s6 _ _ _ _ => (N - intOf s6).toNat)
    case atStart => exact ⟨0, c2, by omega, rfl, HC2.out, HSD.out, HZ0.out, HCC.out, HM2.out, HF2.out⟩
    case round =>
      clear HC2 HF2 HM2 HSD HZ0 HCC
      obtain ⟨n, c0, hn, rfl, hC, hsd, hz0, hcc, hMw, hF⟩ := hrel
      have HC := Lib.hid hC
      have HSD := Lib.hid hsd
      have HZ0 := Lib.hid hz0
      have HCC := Lib.hid hcc
      have HMW := Lib.hid hMw
      have HF := Lib.hid hF
      clear hC hsd hz0 hcc hMw hF
      by_cases hlt : n < N
      · go_wp2
        go_loopw [7, 8, 9] (fun s7 _ _ wr => ∃ (b : Nat) (c : Nat → Bool), b ≤ N ∧ s7 = .int .i64 b ∧ Bools wr g N c ∧ (∀ i, c i = true → Rch succ (okOf a) i) ∧ (∀ i, c0 i = true → c i = true) ∧ (∀ b', b' < b → c0 b' = true → ∀ z ∈ succ b', okOf a z → c z = true) ∧ (Closed succ (okOf a) N c0 → ∀ i, c i = true → c0 i = true) ∧ Mod NoBlk w wr ∧ Blk wr gf 63 #[.string nm, .int .i64 x, .int .i64 y, .slice ob N cap]) (fun s7 _ _ _ => (N - intOf s7).toNat)
        case atStart => exact ⟨0, c0, by omega, rfl, HC.out, HSD.out, fun _ h => h, fun b' h => absurd h (by omega), fun _ _ h => h, HMW.out, HF.out⟩
        case round =>
          clear HC HSD HMW HF
          obtain ⟨b, c, hb, rfl, hC, hsd, hmo, hpr, hcl, hMw, hF⟩ := hrel
          have HC := Lib.hid hC
          have HSD := Lib.hid hsd
          have HMO := Lib.hid hmo
          have HPR := Lib.hid hpr
          have HCL := Lib.hid hcl
          have HMW := Lib.hid hMw
          have HF := Lib.hid hF
          clear hC hsd hmo hpr hcl hMw hF
          by_cases hbN : b < N
          · obtain ⟨q0, q1, q2, q3, l0⟩ := fn_cells nm x y ob N cap wr gf HF.out
            go_wp2_with fail
            refine (refNext_ok nm x y ob N cap b succ _ (HG.out.mod HMW.out)).mono ?_
            rintro e w2 ⟨v, rfl, hv, hm2⟩
            rw [next_blk N succ hbN] at hv
            obtain ⟨oa, cc, rfl, hcc1, hcc2⟩ := hv.at_
            have hl2 := (HG.out.succ b).2.1
            obtain ⟨m, hm⟩ : ∃ m, (succ b).length = m := ⟨_, rfl⟩
            have HML := Lib.hid hm
            rw [hm] at hv hcc1 hl2 ⊢
            have HV := Lib.hid hv
            have HC2 := Lib.hid (HC.out.mod hm2 (fun h => h))
            have HMW2 := Lib.hid (HMW.out.trans hm2)
            have HF2 := Lib.hid (HF.out.mod hm2 (fun h => h))
            clear hm hv hm2 q0 q1 q2 q3 l0 HC HMW HF
            by_cases hcb : c b = true
            · have HCB := Lib.hid hcb
              clear hcb
              go_wp2
              go_loopw [9] (fun s9 wr => ∃ (k : Nat) (d : Nat → Bool), k ≤ m ∧ s9 = .int .i64 k ∧ Bools wr g N d ∧ (∀ i, d i = true → Rch succ (okOf a) i) ∧ (∀ i, c i = true → d i = true) ∧ (∀ z ∈ (succ b).take k, okOf a z → d z = true) ∧ (Closed succ (okOf a) N c0 → ∀ i, d i = true → c0 i = true) ∧ Mod (fun j => j = g) w2 wr) (fun s9 _ => (m - intOf s9).toNat)
              case atStart => exact ⟨0, c, by omega, rfl, HC2.out, HSD.out, fun _ h => h, fun z h => (by simp at h), HCL.out, Mod.refl _ _⟩
              case round =>
                obtain ⟨k, d, hk, rfl, hD, hsd, hcd, htk, hcl, hMg⟩ := hrel
                have HD := Lib.hid hD
                have HSDD := Lib.hid hsd
                have HCD := Lib.hid hcd
                have HTK := Lib.hid htk
                have HCLD := Lib.hid hcl
                have HMG := Lib.hid hMg
                have e0 := hD.cell b hbN
                rw [hcd b HCB.out] at e0
                have lg := hD.lt
                have hMw' : Mod NoBlk w wr := HMW2.out.trans' hMg (fun j hj h => absurd hj (by have : j = g := h; have := HGE.out; omega))
                have HMW' := Lib.hid hMw'
                have HF' : Hid (Blk wr gf 63 #[.string nm, .int .i64 x, .int .i64 y, .slice ob N cap]) := HF2.out.mod hMg (fun h => by have : gf = g := h; have := HGE.out; omega)
                clear hD hsd hcd htk hcl hMg hMw'
                by_cases hkm : k < m
                · have hkl : k < (succ b).length := by rw [HML.out]; exact hkm
                  obtain ⟨z, hz⟩ : ∃ z, (succ b)[k]? = some z := ⟨_, List.getElem?_eq_getElem hkl⟩
                  have hzm := List.mem_of_getElem? hz
                  have hzN := HS.out b z hzm
                  obtain ⟨csb, hbb, _⟩ := id HC2.out
                  have hV : Ints wr 0 (.slice oa m cc) (succ b) := row_mod (HV.out.base (Nat.zero_le _)) HMG.out (fun j hj e => row_ne_blk HV.out hbb (by decide) (by rw [hj, show j = g from e]))
                  rw [← HML.out] at hV
                  obtain ⟨gn, rfl, _, hgn, n0⟩ := hV.get hz
                  have z0 := HD.out.cell z hzN
                  have z1 := HD.out.frozen z
                  have HZ := Lib.hid hz
                  have HZM := Lib.hid hzm
                  have HTZ : Hid (∀ y', y' ∈ (succ b).take (k + 1) → y' = z ∨ y' ∈ (succ b).take k) := fun y' hy => by
                    rw [List.take_add_one, HZ.out] at hy
                    rcases List.mem_append.1 hy with h | h
                    · exact .inr h
                    · simp at h; exact .inl h
                  clear hz hzm hkl hV hbb
                  by_cases hza : (z : Int) = a
                  · have en : ((z : Int) != a) = false := by simpa using hza
                    have HZA := Lib.hid hza
                    clear hza
                    go_wp2
                    go_roundw
                    case measure => simp [intOf]; omega
                    case rel =>
                      refine ⟨k + 1, d, by omega, by go_num, HD.out, HSDD.out, HCD.out, fun y' hy ho => ?_, HCLD.out, HMG.out⟩
                      rcases HTZ.out y' hy with rfl | h
                      · exact absurd HZA.out ho
                      · exact HTK.out y' h ho
                  · have en : ((z : Int) != a) = true := by simpa using hza
                    have HZA : Hid (okOf a z) := hza
                    clear hza
                    go_wp2
                    go_roundw
                    case measure => simp [intOf]; omega
                    case rel =>
                      refine ⟨k + 1, mark d z, by omega, by go_num, HD.out.mark z, fun i hi => ?_, fun i hi => (mark_iff _ _ _).2 (.inr (HCD.out i hi)), fun y' hy ho => ?_, fun hc0 i hi => ?_, HMG.out.trans ((Mod.refl (fun j => j = g) wr).setCell (p := ⟨g, z, none⟩) (fun _ => rfl) _)⟩
                      · rcases (mark_iff _ _ _).1 hi with rfl | h
                        · exact (HSDD.out b (HCD.out b HCB.out)).step HZM.out HZA.out
                        · exact HSDD.out i h
                      · rw [mark_iff]
                        rcases HTZ.out y' hy with rfl | h
                        · exact .inl rfl
                        · exact .inr (HTK.out y' h ho)
                      · rcases (mark_iff _ _ _).1 hi with rfl | h
                        · exact hc0 b hbN (HCLD.out hc0 b (HCD.out b HCB.out)) _ HZM.out HZA.out
                        · exact HCLD.out hc0 i h
                · have hkm' : k = m := by omega
                  subst k
                  have HALL : Hid ((succ b).take m = succ b) := List.take_of_length_le (by rw [HML.out]; exact Nat.le_refl _)
                  go_wp2
                  go_roundw
                  case measure => simp [intOf]; omega
                  case rel =>
                    refine ⟨b + 1, d, by omega, by go_num, HD.out, HSDD.out, fun i hi => HCD.out i (HMO.out i hi), fun b' hb' h0 z hz ho => ?_, HCLD.out, HMW'.out, HF'.out⟩
                    by_cases e : b' = b
                    · subst e
                      exact HTK.out z (by rw [HALL.out]; exact hz) ho
                    · exact HCD.out z (HPR.out b' (by omega) h0 z hz ho)
            · have hcf : c b = false := by simpa using hcb
              have HCF := Lib.hid hcf
              clear hcb hcf
              go_wp2
              go_loopw [9] (fun s9 wr => s9 = .int .i64 0 ∧ Mod NoBlk w2 wr) (fun _ _ => 0)
              case atStart => exact ⟨rfl, Mod.refl _ _⟩
              case round =>
                obtain ⟨rfl, hMg⟩ := hrel
                have e0 := (HC2.out.mod hMg (fun h => h)).cell b hbN
                rw [HCF.out] at e0
                have HMG := Lib.hid hMg
                clear hMg
                rcases Nat.eq_zero_or_pos m with hm0 | hm0
                · subst m
                  go_wp2
                  go_roundw
                  case measure => simp [intOf]; omega
                  case rel =>
                    refine ⟨b + 1, c, by omega, by go_num, HC2.out.mod HMG.out (fun h => h), HSD.out, HMO.out, fun b' hb' h0 z hz ho => ?_, HCL.out, HMW2.out.trans HMG.out, HF2.out.mod HMG.out (fun h => h)⟩
                    by_cases e : b' = b
                    · subst e
                      have := HMO.out _ h0
                      rw [HCF.out] at this
                      cases this
                    · exact HPR.out b' (by omega) h0 z hz ho
                · go_wp2
                  go_roundw
                  case measure => simp [intOf]; omega
                  case rel =>
                    refine ⟨b + 1, c, by omega, by go_num, HC2.out.mod HMG.out (fun h => h), HSD.out, HMO.out, fun b' hb' h0 z hz ho => ?_, HCL.out, HMW2.out.trans HMG.out, HF2.out.mod HMG.out (fun h => h)⟩
                    by_cases e : b' = b
                    · subst e
                      have := HMO.out _ h0
                      rw [HCF.out] at this
                      cases this
                    · exact HPR.out b' (by omega) h0 z hz ho
          · have hbN' : b = N := by omega
            subst b
            go_wp2
            go_roundw
            case measure => simp [intOf]; omega
            case rel => exact ⟨n + 1, c, by omega, by go_num, HC.out, HSD.out, fun ho hn0 => HMO.out 0 (HZ0.out ho hn0), round_end HCC.out HMO.out HPR.out HCL.out, HMW.out, HF.out⟩
      · have hnN : n = N := by omega
        subst n
        go_wp2
        go_ret
        refine ⟨g, c0, rfl, HC.out, fun i hi => ⟨HSD.out i, fun hr => ?_⟩, HMW.out⟩
        have hcl : Closed succ (okOf a) N c0 := by
          rcases HCC.out with h | h
          · exact h
          · have := cntB_le N c0; omega
        exact closed_all HS.out HZ0.out hcl (by omega) hr
  · have hC2 := HC1.out
    have hF2 := HF1.out
    have hM2 := HM1.out
    have hsd : ∀ i, (fun _ : Nat => false) i = true → Rch succ (okOf a) i := fun i hi => by cases hi
    have hz0 : okOf a 0 → 0 < N → (fun _ : Nat => false) 0 = true := fun ho hn => by
      refine absurd ⟨hn, fun e => ho ?_⟩ hst
      rw [e]; rfl
    have hcc : Closed succ (okOf a) N (fun _ => false) ∨ 0 + 1 ≤ cntB N (fun _ => false) := .inl (fun b _ h => by cases h)
    by_cases h0 : 0 < N
    · have ha : a = 0 := Classical.byContradiction fun e => hst ⟨h0, e⟩
      have an : (a != 0) = false := by simp [ha]
      clear hst ha
      go_upto_region 4 with fail
      generalize W1 = W2 at *
      generalize (fun _ : Nat => false) = c2 at *
      clear lg
      have HC2 := Lib.hid hC2
      have HF2 := Lib.hid hF2
      have HM2 := Lib.hid hM2
      have HSD := Lib.hid hsd
      have HZ0 := Lib.hid hz0
      have HCC := Lib.hid hcc
      clear hC2 hF2 hM2 hsd hz0 hcc
      go_wp2
      go_loopw [6, 7, 8, 9] (fun s6 _ _ _ wr => ∃ (n : Nat) (c : Nat → Bool), n ≤ N ∧ s6 = .int .i64 n ∧ Bools wr g N c ∧ (∀ i, c i = true → Rch succ (okOf a) i) ∧ (okOf a 0 → 0 < N → c 0 = true) ∧ (Closed succ (okOf a) N c ∨ n + 1 ≤ cntB N c) ∧ Mod NoBlk w wr ∧ Blk wr gf 63 #[.string nm, .int .i64 x, .int .i64 y, .slice ob N cap]) (fun s6 _ _ _ _ => (N - intOf s6).toNat)
      case atStart => exact ⟨0, c2, by omega, rfl, HC2.out, HSD.out, HZ0.out, HCC.out, HM2.out, HF2.out⟩
      case round =>
        clear HC2 HF2 HM2 HSD HZ0 HCC
        obtain ⟨n, c0, hn, rfl, hC, hsd, hz0, hcc, hMw, hF⟩ := hrel
        have HC := Lib.hid hC
        have HSD := Lib.hid hsd
        have HZ0 := Lib.hid hz0
        have HCC := Lib.hid hcc
        have HMW := Lib.hid hMw
        have HF := Lib.hid hF
        clear hC hsd hz0 hcc hMw hF
        by_cases hlt : n < N
        · go_wp2
          go_loopw [7, 8, 9] (fun s7 _ _ wr => ∃ (b : Nat) (c : Nat → Bool), b ≤ N ∧ s7 = .int .i64 b ∧ Bools wr g N c ∧ (∀ i, c i = true → Rch succ (okOf a) i) ∧ (∀ i, c0 i = true → c i = true) ∧ (∀ b', b' < b → c0 b' = true → ∀ z ∈ succ b', okOf a z → c z = true) ∧ (Closed succ (okOf a) N c0 → ∀ i, c i = true → c0 i = true) ∧ Mod NoBlk w wr ∧ Blk wr gf 63 #[.string nm, .int .i64 x, .int .i64 y, .slice ob N cap]) (fun s7 _ _ _ => (N - intOf s7).toNat)
          case atStart => exact ⟨0, c0, by omega, rfl, HC.out, HSD.out, fun _ h => h, fun b' h => absurd h (by omega), fun _ _ h => h, HMW.out, HF.out⟩
          case round =>
            clear HC HSD HMW HF
            obtain ⟨b, c, hb, rfl, hC, hsd, hmo, hpr, hcl, hMw, hF⟩ := hrel
            have HC := Lib.hid hC
            have HSD := Lib.hid hsd
            have HMO := Lib.hid hmo
            have HPR := Lib.hid hpr
            have HCL := Lib.hid hcl
            have HMW := Lib.hid hMw
            have HF := Lib.hid hF
            clear hC hsd hmo hpr hcl hMw hF
            by_cases hbN : b < N
            · obtain ⟨q0, q1, q2, q3, l0⟩ := fn_cells nm x y ob N cap wr gf HF.out
              go_wp2_with fail
              refine (refNext_ok nm x y ob N cap b succ _ (HG.out.mod HMW.out)).mono ?_
              rintro e w2 ⟨v, rfl, hv, hm2⟩
              rw [next_blk N succ hbN] at hv
              obtain ⟨oa, cc, rfl, hcc1, hcc2⟩ := hv.at_
              have hl2 := (HG.out.succ b).2.1
              obtain ⟨m, hm⟩ : ∃ m, (succ b).length = m := ⟨_, rfl⟩
              have HML := Lib.hid hm
              rw [hm] at hv hcc1 hl2 ⊢
              have HV := Lib.hid hv
              have HC2 := Lib.hid (HC.out.mod hm2 (fun h => h))
              have HMW2 := Lib.hid (HMW.out.trans hm2)
              have HF2 := Lib.hid (HF.out.mod hm2 (fun h => h))
              clear hm hv hm2 q0 q1 q2 q3 l0 HC HMW HF
              by_cases hcb : c b = true
              · have HCB := Lib.hid hcb
                clear hcb
                go_wp2
                go_loopw [9] (fun s9 wr => ∃ (k : Nat) (d : Nat → Bool), k ≤ m ∧ s9 = .int .i64 k ∧ Bools wr g N d ∧ (∀ i, d i = true → Rch succ (okOf a) i) ∧ (∀ i, c i = true → d i = true) ∧ (∀ z ∈ (succ b).take k, okOf a z → d z = true) ∧ (Closed succ (okOf a) N c0 → ∀ i, d i = true → c0 i = true) ∧ Mod (fun j => j = g) w2 wr) (fun s9 _ => (m - intOf s9).toNat)
                case atStart => exact ⟨0, c, by omega, rfl, HC2.out, HSD.out, fun _ h => h, fun z h => (by simp at h), HCL.out, Mod.refl _ _⟩
                case round =>
                  obtain ⟨k, d, hk, rfl, hD, hsd, hcd, htk, hcl, hMg⟩ := hrel
                  have HD := Lib.hid hD
                  have HSDD := Lib.hid hsd
                  have HCD := Lib.hid hcd
                  have HTK := Lib.hid htk
                  have HCLD := Lib.hid hcl
                  have HMG := Lib.hid hMg
                  have e0 := hD.cell b hbN
                  rw [hcd b HCB.out] at e0
                  have lg := hD.lt
                  have hMw' : Mod NoBlk w wr := HMW2.out.trans' hMg (fun j hj h => absurd hj (by have : j = g := h; have := HGE.out; omega))
                  have HMW' := Lib.hid hMw'
                  have HF' : Hid (Blk wr gf 63 #[.string nm, .int .i64 x, .int .i64 y, .slice ob N cap]) := HF2.out.mod hMg (fun h => by have : gf = g := h; have := HGE.out; omega)
                  clear hD hsd hcd htk hcl hMg hMw'
                  by_cases hkm : k < m
                  · have hkl : k < (succ b).length := by rw [HML.out]; exact hkm
                    obtain ⟨z, hz⟩ : ∃ z, (succ b)[k]? = some z := ⟨_, List.getElem?_eq_getElem hkl⟩
                    have hzm := List.mem_of_getElem? hz
                    have hzN := HS.out b z hzm
                    obtain ⟨csb, hbb, _⟩ := id HC2.out
                    have hV : Ints wr 0 (.slice oa m cc) (succ b) := row_mod (HV.out.base (Nat.zero_le _)) HMG.out (fun j hj e => row_ne_blk HV.out hbb (by decide) (by rw [hj, show j = g from e]))
                    rw [← HML.out] at hV
                    obtain ⟨gn, rfl, _, hgn, n0⟩ := hV.get hz
                    have z0 := HD.out.cell z hzN
                    have z1 := HD.out.frozen z
                    have HZ := Lib.hid hz
                    have HZM := Lib.hid hzm
                    have HTZ : Hid (∀ y', y' ∈ (succ b).take (k + 1) → y' = z ∨ y' ∈ (succ b).take k) := fun y' hy => by
                      rw [List.take_add_one, HZ.out] at hy
                      rcases List.mem_append.1 hy with h | h
                      · exact .inr h
                      · simp at h; exact .inl h
                    clear hz hzm hkl hV hbb
                    by_cases hza : (z : Int) = a
                    · have en : ((z : Int) != a) = false := by simpa using hza
                      have HZA := Lib.hid hza
                      clear hza
                      go_wp2
                      go_roundw
                      case measure => simp [intOf]; omega
                      case rel =>
                        refine ⟨k + 1, d, by omega, by go_num, HD.out, HSDD.out, HCD.out, fun y' hy ho => ?_, HCLD.out, HMG.out⟩
                        rcases HTZ.out y' hy with rfl | h
                        · exact absurd HZA.out ho
                        · exact HTK.out y' h ho
                    · have en : ((z : Int) != a) = true := by simpa using hza
                      have HZA : Hid (okOf a z) := hza
                      clear hza
                      go_wp2
                      go_roundw
                      case measure => simp [intOf]; omega
                      case rel =>
                        refine ⟨k + 1, mark d z, by omega, by go_num, HD.out.mark z, fun i hi => ?_, fun i hi => (mark_iff _ _ _).2 (.inr (HCD.out i hi)), fun y' hy ho => ?_, fun hc0 i hi => ?_, HMG.out.trans ((Mod.refl (fun j => j = g) wr).setCell (p := ⟨g, z, none⟩) (fun _ => rfl) _)⟩
                        · rcases (mark_iff _ _ _).1 hi with rfl | h
                          · exact (HSDD.out b (HCD.out b HCB.out)).step HZM.out HZA.out
                          · exact HSDD.out i h
                        · rw [mark_iff]
                          rcases HTZ.out y' hy with rfl | h
                          · exact .inl rfl
                          · exact .inr (HTK.out y' h ho)
                        · rcases (mark_iff _ _ _).1 hi with rfl | h
                          · exact hc0 b hbN (HCLD.out hc0 b (HCD.out b HCB.out)) _ HZM.out HZA.out
                          · exact HCLD.out hc0 i h
                  · have hkm' : k = m := by omega
                    subst k
                    have HALL : Hid ((succ b).take m = succ b) := List.take_of_length_le (by rw [HML.out]; exact Nat.le_refl _)
                    go_wp2
                    go_roundw
                    case measure => simp [intOf]; omega
                    case rel =>
                      refine ⟨b + 1, d, by omega, by go_num, HD.out, HSDD.out, fun i hi => HCD.out i (HMO.out i hi), fun b' hb' h0 z hz ho => ?_, HCLD.out, HMW'.out, HF'.out⟩
                      by_cases e : b' = b
                      · subst e
                        exact HTK.out z (by rw [HALL.out]; exact hz) ho
                      · exact HCD.out z (HPR.out b' (by omega) h0 z hz ho)
              · have hcf : c b = false := by simpa using hcb
                have HCF := Lib.hid hcf
                clear hcb hcf
                go_wp2
                go_loopw [9] (fun s9 wr => s9 = .int .i64 0 ∧ Mod NoBlk w2 wr) (fun _ _ => 0)
                case atStart => exact ⟨rfl, Mod.refl _ _⟩
                case round =>
                  obtain ⟨rfl, hMg⟩ := hrel
                  have e0 := (HC2.out.mod hMg (fun h => h)).cell b hbN
                  rw [HCF.out] at e0
                  have HMG := Lib.hid hMg
                  clear hMg
                  rcases Nat.eq_zero_or_pos m with hm0 | hm0
                  · subst m
                    go_wp2
                    go_roundw
                    case measure => simp [intOf]; omega
                    case rel =>
                      refine ⟨b + 1, c, by omega, by go_num, HC2.out.mod HMG.out (fun h => h), HSD.out, HMO.out, fun b' hb' h0 z hz ho => ?_, HCL.out, HMW2.out.trans HMG.out, HF2.out.mod HMG.out (fun h => h)⟩
                      by_cases e : b' = b
                      · subst e
                        have := HMO.out _ h0
                        rw [HCF.out] at this
                        cases this
                      · exact HPR.out b' (by omega) h0 z hz ho
                  · go_wp2
                    go_roundw
                    case measure => simp [intOf]; omega
                    case rel =>
                      refine ⟨b + 1, c, by omega, by go_num, HC2.out.mod HMG.out (fun h => h), HSD.out, HMO.out, fun b' hb' h0 z hz ho => ?_, HCL.out, HMW2.out.trans HMG.out, HF2.out.mod HMG.out (fun h => h)⟩
                      by_cases e : b' = b
                      · subst e
                        have := HMO.out _ h0
                        rw [HCF.out] at this
                        cases this
                      · exact HPR.out b' (by omega) h0 z hz ho
            · have hbN' : b = N := by omega
              subst b
              go_wp2
              go_roundw
              case measure => simp [intOf]; omega
              case rel => exact ⟨n + 1, c, by omega, by go_num, HC.out, HSD.out, fun ho hn0 => HMO.out 0 (HZ0.out ho hn0), round_end HCC.out HMO.out HPR.out HCL.out, HMW.out, HF.out⟩
        · have hnN : n = N := by omega
          subst n
          go_wp2
          go_ret
          refine ⟨g, c0, rfl, HC.out, fun i hi => ⟨HSD.out i, fun hr => ?_⟩, HMW.out⟩
          have hcl : Closed succ (okOf a) N c0 := by
            rcases HCC.out with h | h
            · exact h
            · have := cntB_le N c0; omega
          exact closed_all HS.out HZ0.out hcl (by omega) hr
    · have hN0 : N ≤ 0 := by omega
      clear hst h0
      go_upto_region 4 with fail
      generalize W1 = W2 at *
      generalize (fun _ : Nat => false) = c2 at *
      clear lg
      have HC2 := Lib.hid hC2
      have HF2 := Lib.hid hF2
      have HM2 := Lib.hid hM2
      have HSD := Lib.hid hsd
      have HZ0 := Lib.hid hz0
      have HCC := Lib.hid hcc
      clear hC2 hF2 hM2 hsd hz0 hcc
      go_wp2
      go_loopw [6, 7, 8, 9] (fun s6 _ _ _ wr => ∃ (n : Nat) (c : Nat → Bool), n ≤ N ∧ s6 = .int .i64 n ∧ Bools wr g N c ∧ (∀ i, c i = true → Rch succ (okOf a) i) ∧ (okOf a 0 → 0 < N → c 0 = true) ∧ (Closed succ (okOf a) N c ∨ n + 1 ≤ cntB N c) ∧ Mod NoBlk w wr ∧ Blk wr gf 63 #[.string nm, .int .i64 x, .int .i64 y, .slice ob N cap]) (fun s6 _ _ _ _ => (N - intOf s6).toNat)
      case atStart => exact ⟨0, c2, by omega, rfl, HC2.out, HSD.out, HZ0.out, HCC.out, HM2.out, HF2.out⟩
      case round =>
        clear HC2 HF2 HM2 HSD HZ0 HCC
        obtain ⟨n, c0, hn, rfl, hC, hsd, hz0, hcc, hMw, hF⟩ := hrel
        have HC := Lib.hid hC
        have HSD := Lib.hid hsd
        have HZ0 := Lib.hid hz0
        have HCC := Lib.hid hcc
        have HMW := Lib.hid hMw
        have HF := Lib.hid hF
        clear hC hsd hz0 hcc hMw hF
        by_cases hlt : n < N
        · exact absurd hlt (by omega)
        · have hnN : n = N := by omega
          subst n
          go_wp2
          go_ret
          refine ⟨g, c0, rfl, HC.out, fun i hi => ⟨HSD.out i, fun hr => ?_⟩, HMW.out⟩
          have hcl : Closed succ (okOf a) N c0 := by
            rcases HCC.out with h | h
            · exact h
            · have := cntB_le N c0; omega
          exact closed_all HS.out HZ0.out hcl (by omega) hr

theorem ok_all {succ : Nat → List Nat} {i : Nat} : Rch succ (okOf (-1)) i ↔ Rch succ All i :=
  ⟨fun h => h.all, fun h => h.mono (fun _ _ h _ => h) (fun z _ => by unfold okOf; omega)⟩
theorem ok_not {succ : Nat → List Nat} {a i : Nat} : Rch succ (okOf (a : Int)) i ↔ Rch succ (Not_ a) i :=
  ⟨fun h => h.mono (fun _ _ h _ => h) (fun z hz => by unfold okOf at hz; unfold Not_; omega), fun h => h.mono (fun _ _ h _ => h) (fun z hz => by unfold Not_ at hz; unfold okOf; omega)⟩
set_option maxRecDepth 100000 in
set_option maxHeartbeats 1000000 in
theorem refReached_ok (nm : ByteArray) (x y : Int) (ob : Option Addr) (N cap : Nat) (succ : Nat → List Nat) (w : World) (hG : GraphAt w ob N succ) (hN : N ≤ 60) :
    Calls Try.prog 36 #[fnV nm x y ob N cap] w fun e w' => ∃ g, e = .returned (.slice (some ⟨g, 0, none⟩) N N) ∧ Bools w' g N (fun i => decide (i ∈ ordOf succ N)) ∧ Mod NoBlk w w' := by
  have hs : ∀ a z, z ∈ succ a → z < N := fun a z hz => (hG.succ a).1 z hz
  go_enter Try.func36, Try.ntmps36
  go_wp2_with fail
  have hm1 : Mod NoBlk w (w.alloc (.cells #[.string nm, .int .i64 x, .int .i64 y, .slice ob N cap] 63)) := (Mod.refl _ w).alloc _
  refine (refWithout_ok nm x y ob N cap (-1) succ _ (hG.mod hm1) hN).mono ?_
  rintro e w2 ⟨g, c, rfl, hC, hiff, hm2⟩
  have HC := Lib.hid hC
  have HI := Lib.hid hiff
  have HM := Lib.hid (hm1.trans hm2)
  have HS := Lib.hid hs
  clear hC hiff hm1 hm2 hs hG
  go_wp2
  go_ret
  refine ⟨g, rfl, HC.out.congr (fun i hi => ?_), HM.out⟩
  rw [Bool.eq_iff_iff, HI.out i hi, ok_all, decide_eq_true_iff, ord_mem HS.out hi]
end Go.Proofs.Ytjaapempahigaaa
