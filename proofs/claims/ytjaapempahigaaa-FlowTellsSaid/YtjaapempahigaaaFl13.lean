/- Above. -/
import Derived.Test.YtjaapempahigaaaFl12
import Derived.Deep.RegionHeld3
namespace Go.Proofs.Ytjaapempahigaaa
open Go.RowKit

/-- What has been met so far. -/
def MetR (w : World) (B : Nat) (acc : Option (List Nat)) (v9 v10 : Value) : Prop :=
  (acc = none ∧ v9 = .slice none 0 0 ∧ v10 = .bool false) ∨ ∃ l, acc = some l ∧ v10 = .bool true ∧ Ints w B v9 l ∧ l.length ≤ 60
theorem MetR.mod {w w' : World} {B : Nat} {acc : Option (List Nat)} {v9 v10 : Value} (h : MetR w B acc v9 v10) (hm : Mod NoBlk w w') : MetR w' B acc v9 v10 := by
  rcases h with h | ⟨l, h1, h2, h3, h4⟩
  · exact .inl h
  · exact .inr ⟨l, h1, h2, h3.mod hm, h4⟩
theorem fold_take_succ {l : List Nat} {j k : Nat} (out : Nat → Option (List Nat)) (h : l[j]? = some k) : (l.take (j + 1)).foldl (meet1 out) none = meet1 out ((l.take j).foldl (meet1 out) none) k := by
  rw [List.take_add_one, h]
  simp

/-- The rows have what is above each block. -/
def AboveR (B g N : Nat) (succ : Nat → List Nat) (w' : World) : Prop :=
  ∃ out, OutAt w' B g N out ∧ (∀ b, b < N → b ∈ ordOf succ N → ∃ r, out b = some r ∧ Srt r ∧ ∀ a, a ∈ r ↔ Dom succ a b) ∧ (∀ b, b < N → b ∉ ordOf succ N → out b = none) ∧ ∀ b r, out b = some r → ∀ a ∈ r, a ∈ ordOf succ N ∧ posOf (ordOf succ N) a ≤ posOf (ordOf succ N) b

set_option maxRecDepth 100000 in
set_option maxHeartbeats 4000000 in
theorem above_ok (nm : ByteArray) (x y : Int) (ob : Option Addr) (N cap : Nat) (succ : Nat → List Nat) (w : World) (hG : GraphAt w ob N succ) (hN : N ≤ 60) :
    Calls Try.prog 39 #[fnV nm x y ob N cap] w fun e w' => ∃ g, e = .returned (.slice (some ⟨g, 0, none⟩) N N) ∧ w.heap.size ≤ g ∧ AboveR w.heap.size g N succ w' ∧ Mod NoBlk w w' := by
  have hmk := fun W => Go.run_make_row' (P := Try.prog) 68 65 (.slice none 0 0) 24 Try.underlying68 info65 rfl .i64 .i64 N (by omega) (by omega) W
  have HG := Lib.hid hG
  clear hG
  go_enter Try.func39, Try.ntmps39
  go_upto_region 1 with fail
  have hm1 : Mod NoBlk w (w.alloc (.cells #[.string nm, .int .i64 x, .int .i64 y, .slice ob N cap] 63)) := (Mod.refl _ w).alloc _
  have hF1 := Blk.new w 63 #[.string nm, .int .i64 x, .int .i64 y, .slice ob N cap]
  generalize w.alloc (.cells #[.string nm, .int .i64 x, .int .i64 y, .slice ob N cap] 63) = W1 at *
  obtain ⟨gf, hgf⟩ : ∃ gf, w.heap.size = gf := ⟨_, rfl⟩
  rw [hgf] at hF1 ⊢
  have HGF := Lib.hid hgf
  clear hgf
  obtain ⟨q0, q1, q2, q3, l0⟩ := fn_cells nm x y ob N cap W1 gf hF1
  have HF := Lib.hid hF1
  have HM := Lib.hid hm1
  clear hm1 hF1
  go_cut [3, 4] (fun s3 s4 wx => ∃ g4, s4 = .slice (some ⟨g4, 0, none⟩) N N ∧ Ints wx w.heap.size s3 (ordOf succ N) ∧ RowsAt wx w.heap.size g4 N (predOf succ N) ∧ Blk wx gf 63 #[.string nm, .int .i64 x, .int .i64 y, .slice ob N cap] ∧ Mod NoBlk w wx)
  case first =>
    have HX : Hid (∀ w', Mod NoBlk W1 w' → w'.cell? ⟨gf, 0, none⟩ = some (.string nm) ∧ w'.cell? ⟨gf, 1, none⟩ = some (.int .i64 x) ∧ w'.cell? ⟨gf, 2, none⟩ = some (.int .i64 y) ∧ w'.cell? ⟨gf, 3, none⟩ = some (.slice ob N cap)) := by
      intro w' hm
      obtain ⟨k0, k1, k2, k3, _⟩ := fn_cells nm x y ob N cap w' gf (HF.out.mod hm (fun h => h))
      exact ⟨k0, k1, k2, k3⟩
    go_region_held3 (fun w' => w'.cell? ⟨gf, 0, none⟩ = some (.string nm) ∧ w'.cell? ⟨gf, 1, none⟩ = some (.int .i64 x) ∧ w'.cell? ⟨gf, 2, none⟩ = some (.int .i64 y) ∧ w'.cell? ⟨gf, 3, none⟩ = some (.slice ob N cap))
      ((refine HX.out _ ?_; repeat (first | exact hmO | exact hmB | exact Mod.refl _ _ | apply Mod.drew)))
      (first
        | (go_at_call 37; refine (order_ok nm x y ob N cap succ _ (HG.out.mod (HM.out.trans (by first | exact (Mod.refl _ _).drew | exact hmB))) hN).mono ?_; rintro e wO ⟨vO, rfl, hvO, hmO0⟩; have hmO : Mod NoBlk W1 wO := Mod.trans (by first | exact (Mod.refl _ _).drew | exact hmB) hmO0)
        | (go_at_call 32; refine (before_ok nm x y ob N cap succ _ (HG.out.mod (HM.out.trans (by first | exact (Mod.refl _ _).drew | exact hmO))) hN).mono ?_; rintro e wB ⟨gB, rfl, hvB, hgB, hmB0⟩; have hmB : Mod NoBlk W1 wB := Mod.trans (by first | exact (Mod.refl _ _).drew | exact hmO) hmB0))
    all_goals
      have hB1 := HM.out.size
      have HR : Hid (Ints wB w.heap.size vO (ordOf succ N) ∧ RowsAt wB w.heap.size gB N (predOf succ N) ∧ Blk wB gf 63 #[.string nm, .int .i64 x, .int .i64 y, .slice ob N cap] ∧ Mod NoBlk w wB) :=
        ⟨(hvO.base hB1).mod hmB0, hvB.turn (Nat.le_trans hB1 hmO.size) (fun _ _ h => h), HF.out.mod hmB (fun h => h), HM.out.trans hmB⟩
      clear hvO hmO0 hmO hvB hgB hmB0 hmB hB1 q0 q1 q2 q3
      go_wp2_with fail
      go_meet
      exact ⟨gB, rfl, HR.out.1, HR.out.2.1, HR.out.2.2.1, HR.out.2.2.2⟩
  case rest =>
    clear q0 q1 q2 q3 l0 HF HM
    obtain ⟨g4, rfl, hO, hP, hF, hm⟩ := hcut
    obtain ⟨oa, co, rfl, hco, hco2⟩ := hO.at_
    obtain ⟨m, hml⟩ : ∃ m, (ordOf succ N).length = m := ⟨_, rfl⟩
    rw [hml] at hco hO ⊢
    obtain ⟨q0, q1, q2, q3, l0⟩ := fn_cells nm x y ob N cap wc gf hF
    have HO := Lib.hid hO
    have HP := Lib.hid hP
    have HM := Lib.hid hm
    have HML := Lib.hid hml
    clear hO hP hF hm hml
    go_upto_region 3 with fail
    have hOut := OutAt.new wc w.heap.size N
    have hmA : Mod NoBlk w (wc.alloc (.cells (madeCells #[.slice none 0 0] N) 65)) := HM.out.alloc _
    have hPA := HP.out.mod ((Mod.refl NoBlk wc).alloc (.cells (madeCells #[.slice none 0 0] N) 65)) (fun h => h) (fun _ _ _ h => h)
    have hOA := HO.out.mod ((Mod.refl NoBlk wc).alloc (.cells (madeCells #[.slice none 0 0] N) 65))
    have hg5 : w.heap.size ≤ wc.heap.size := HM.out.size
    have HGL : Hid (g4 < wc.heap.size) := HP.out.lt
    generalize wc.alloc (.cells (madeCells #[.slice none 0 0] N) 65) = W2 at *
    generalize wc.heap.size = g5 at *
    have HO2 := Lib.hid hOut
    have HM2 := Lib.hid hmA
    have hg45 : g4 < g5 := HGL.out
    obtain ⟨csO, hbO⟩ : ∃ cs, Blk W2 g5 65 cs := (by obtain ⟨cs, h, _⟩ := hOut; exact ⟨cs, h⟩)
    have HIm : Hid (∀ w', Mod (fun j => j = g5) W2 w' → Ints w' w.heap.size (.slice oa m co) (ordOf succ N)) := fun w' hm => row_mod hOA hm (fun g hg e => row_ne_blk hOA hbO (by decide) (by rw [hg, show g = g5 from e]))
    have HPm : Hid (∀ w', Mod (fun j => j = g5) W2 w' → RowsAt w' w.heap.size g4 N (predOf succ N)) := fun w' hm => hPA.mod hm (fun h => absurd (show g4 = g5 from h) (by omega)) (fun b cs hb e => by
      obtain rfl : b = g5 := e
      exact absurd (hb.uniq hbO).1 (by decide))
    clear hOut hmA hPA hOA hmk HO HP HM HGL q0 q1 q2 q3 l0 hbO
    go_wp2
    go_loopg [6] (amount (fun _ => none) N N + 1) (fun k v6 wr => ∃ (out : Nat → Option (List Nat)) (mo : Bool), v6 = .bool mo ∧ OutAt wr w.heap.size g5 N out ∧ Above succ (predOf succ N) (ordOf succ N) out ∧ Mod NoBlk w wr ∧ Mod (fun j => j = g5) W2 wr ∧
      (mo = false → ∀ b ∈ ordOf succ N, out b = some (newRow out (predOf succ N) b)) ∧ k = (if mo then amount out N N + 1 else 0))
    case atStart => exact ⟨fun _ => none, true, rfl, HO2.out, Above.start, HM2.out, Mod.refl _ _, fun h => (by cases h), rfl⟩
    case round =>
      clear HO2 HM2
      obtain ⟨out, mo, rfl, hOu, hAb, hMw, hMW, hFx, hk⟩ := hrel
      have HOu := Lib.hid hOu
      have HAb := Lib.hid hAb
      have HMw := Lib.hid hMw
      have HMW := Lib.hid hMW
      have HFx := Lib.hid hFx
      have HK := Lib.hid hk
      clear hOu hAb hMw hMW hFx hk
      cases mo with
      | false =>
        go_wp2
        go_ret
        refine ⟨g5, rfl, hg5, ⟨out, HOu.out, fun b hb hbO => ?_, fun b hb hbO => ?_, HAb.out.pos⟩, HMw.out⟩
        · have hOrd : Ordered succ (predOf succ N) (ordOf succ N) N := Ordered.of (fun a z hz => (HG.out.succ a).1 z hz) (by omega) (fun b k => by simp [predOf])
          have hfix := HFx.out trivial
          exact ⟨_, hfix b hbO, HAb.out.srt b _ (hfix b hbO), fun a => HAb.out.fix hOrd hfix b hbO a⟩
        · cases hob : out b with
          | none => rfl
          | some r => exact absurd (HAb.out.inO b r hob) hbO
      | true =>
        clear HFx
        go_wp2
        go_loopw [6, 26] (fun v6 v26 wi => ∃ (i : Nat) (out2 : Nat → Option (List Nat)) (mo : Bool), i ≤ m ∧ v26 = .int .i64 i ∧ v6 = .bool mo ∧ OutAt wi w.heap.size g5 N out2 ∧ Above succ (predOf succ N) (ordOf succ N) out2 ∧ Mod NoBlk w wi ∧ Mod (fun j => j = g5) W2 wi ∧
          (∀ z ∈ (ordOf succ N).take i, out2 z ≠ none) ∧ (mo = false → out2 = out ∧ ∀ b ∈ (ordOf succ N).take i, out b = some (newRow out (predOf succ N) b)) ∧ (mo = true → amount out2 N N < amount out N N)) (fun _ v26 _ => (m - intOf v26).toNat)
        case atStart => exact ⟨0, out, false, by omega, rfl, rfl, HOu.out, HAb.out, HMw.out, HMW.out, fun z h => (by simp at h), fun _ => ⟨rfl, fun b h => (by simp at h)⟩, fun h => (by cases h)⟩
        case round =>
          clear HOu HAb HMw HMW
          obtain ⟨i, out2, mo, hi, rfl, rfl, hOu, hAb, hMw, hMW, hSet, hF, hT⟩ := hrel
          have HOu := Lib.hid hOu
          have HAb := Lib.hid hAb
          have HMw := Lib.hid hMw
          have HMW := Lib.hid hMW
          have HSet := Lib.hid hSet
          have HF := Lib.hid hF
          have HT := Lib.hid hT
          clear hOu hAb hMw hMW hSet hF hT
          by_cases hlt : i < m
          · have hil : i < (ordOf succ N).length := by rw [HML.out]; exact hlt
            obtain ⟨b, hb⟩ : ∃ b, (ordOf succ N)[i]? = some b := ⟨_, List.getElem?_eq_getElem hil⟩
            have hN0 : 0 < N := by
              rcases Nat.eq_zero_or_pos N with h | h
              · subst h; simp [ordOf, postOrd] at hil
              · exact h
            have hOrd : Ordered succ (predOf succ N) (ordOf succ N) N := Ordered.of (fun a z hz => (HG.out.succ a).1 z hz) hN0 (fun b k => by simp [predOf])
            have hbO : b ∈ ordOf succ N := List.mem_of_getElem? hb
            have hbN : b < N := hOrd.rlt hbO
            have hsplit : ordOf succ N = (ordOf succ N).take i ++ b :: (ordOf succ N).drop (i + 1) := by
              have e1 := (List.take_append_drop i (ordOf succ N)).symm
              rw [List.drop_eq_getElem_cons hil] at e1
              have e2 : (ordOf succ N)[i] = b := by
                have := List.getElem?_eq_getElem hil
                rw [hb] at this
                exact (Option.some.inj this).symm
              rw [e2] at e1
              exact e1
            have HORD := Lib.hid hOrd
            have HSP := Lib.hid hsplit
            have HBI := Lib.hid hb
            have hIo := HIm.out _ HMW.out
            rw [← HML.out] at hIo
            obtain ⟨go_, rfl, _, hgol, c0⟩ := hIo.get hb
            obtain ⟨vp, c1, hIp, -⟩ := (HPm.out _ HMW.out).get b hbN
            obtain ⟨op, cp, rfl, hcp, hcp2⟩ := hIp.at_
            have l4 := (HPm.out _ HMW.out).lt
            have l5 := HOu.out.lt
            obtain ⟨np, hnp⟩ : ∃ np, (predOf succ N b).length = np := ⟨_, rfl⟩
            rw [hnp] at c1 hIp hcp
            have HIP := Lib.hid hIp
            have HNP := Lib.hid hnp
            clear hil hN0 hOrd hsplit hb hIo hIp hnp hbO
            go_wp2
            go_loopw [9, 10, 35] (fun v9 v10 v35 wj => ∃ j : Nat, j ≤ np ∧ v35 = .int .i64 j ∧ MetR wj w.heap.size (((predOf succ N b).take j).foldl (meet1 out2) none) v9 v10 ∧ Mod NoBlk wr wj) (fun _ _ v35 _ => (np - intOf v35).toNat)
            case atStart => exact ⟨0, by omega, rfl, .inl ⟨rfl, rfl, rfl⟩, Mod.refl _ _⟩
            case round =>
              obtain ⟨j, hj, rfl, hmet, hmj⟩ := hrel
              have HMJ := Lib.hid hmj
              have HMET := Lib.hid hmet
              clear hmet hmj
              by_cases hjn : j < np
              · have hjl : j < (predOf succ N b).length := by rw [HNP.out]; exact hjn
                obtain ⟨k, hk⟩ : ∃ k, (predOf succ N b)[j]? = some k := ⟨_, List.getElem?_eq_getElem hjl⟩
                have hkN : k < N := ((HORD.out.prs b k).1 (List.mem_of_getElem? hk)).1
                have hIp := HIP.out.mod HMJ.out
                rw [← HNP.out] at hIp
                obtain ⟨gp, rfl, _, hgpl, d0⟩ := hIp.get hk
                obtain ⟨vk, d1, hnone, hsome⟩ := (HOu.out.mod HMJ.out).get k hkN
                have HSTEP := Lib.hid (fold_take_succ out2 hk)
                have l5' := (HOu.out.mod HMJ.out).lt
                clear hjl hk hIp c0 c1
                cases hok : out2 k with
                | none =>
                  obtain rfl := hnone hok
                  have hst : meet1 out2 (((predOf succ N b).take j).foldl (meet1 out2) none) k = ((predOf succ N b).take j).foldl (meet1 out2) none := by unfold meet1; rw [hok]
                  have HST := Lib.hid (HSTEP.out.trans hst)
                  clear hsome hnone hst hok
                  have qn : ∀ W, (binOp .eql 65 (.slice none 0 0) (.slice none 0 0)).run Try.prog W = .ok (.bool true) W := fun W => Lib.run_eql_slice_nil W _ _ none 0 0 0 0 Try.underlying65
                  go_wp2
                  go_roundw
                  case measure => simp [intOf]; omega
                  case rel => exact ⟨j + 1, by omega, by go_num, by rw [HST.out]; exact HMET.out, HMJ.out⟩
                | some r =>
                  obtain ⟨hIr, hrne⟩ := hsome r hok
                  have hrl : r.length ≤ 60 := Nat.le_trans (srt_lt (HAb.out.srt k r hok) fun z hz => HORD.out.rlt (HAb.out.pos k r hok z hz).1) hN
                  rcases hIr.form with ⟨_, e⟩ | ⟨gg, cc, cur, rfl, _⟩
                  · exact absurd e hrne
                  have HIR := Lib.hid hIr
                  have qn : ∀ W, (binOp .eql 65 (.slice (some ⟨gg, 0, none⟩) r.length cc) (.slice none 0 0)).run Try.prog W = .ok (.bool false) W := fun W => Lib.run_eql_slice_nil W _ _ _ _ _ _ _ Try.underlying65
                  rcases HMET.out with ⟨hacc, rfl, rfl⟩ | ⟨l, hacc, rfl, hIl, hll⟩
                  · have hst : meet1 out2 (((predOf succ N b).take j).foldl (meet1 out2) none) k = some r := by rw [hacc]; unfold meet1; rw [hok]
                    have HST := Lib.hid (HSTEP.out.trans hst)
                    clear hsome hnone hst hok hacc hIr hrne
                    go_wp2
                    go_roundw
                    case measure => simp [intOf]; omega
                    case rel => exact ⟨j + 1, by omega, by go_num, .inr ⟨r, HST.out, rfl, HIR.out, hrl⟩, HMJ.out⟩
                  · have hst : meet1 out2 (((predOf succ N b).take j).foldl (meet1 out2) none) k = some (l.filter fun x => decide (x ∈ r)) := by rw [hacc]; unfold meet1; rw [hok]
                    have HST := Lib.hid (HSTEP.out.trans hst)
                    have HIL := Lib.hid hIl
                    have HRS := Lib.hid (HAb.out.srt k r hok)
                    clear hsome hnone hst hok hacc hIr hrne hIl
                    go_wp2_with (go_at_call 55; refine (common_ok w.heap.size w.heap.size _ _ l r _ HIL.out HIR.out (by omega) (by omega) HRS.out).mono ?_; rintro e w2 ⟨vc, rfl, hvc, hm2⟩; have HVC := Lib.hid (hvc.base (HMw.out.trans HMJ.out).size); have HM2 := Lib.hid (HMJ.out.trans hm2); clear hvc hm2)
                    go_roundw
                    case measure => simp [intOf]; omega
                    case rel => exact ⟨j + 1, by omega, by go_num, .inr ⟨_, HST.out, rfl, HVC.out, Nat.le_trans (List.length_filter_le _ _) hll⟩, HM2.out⟩
              · obtain rfl : j = np := by omega
                have hwhole : (predOf succ N b).take j = predOf succ N b := List.take_of_length_le (by rw [HNP.out]; exact Nat.le_refl _)
                rw [hwhole] at HMET
                obtain ⟨t1, t2, -, -, -, -, -⟩ := turn HORD.out HAb.out HSP.out HSet.out
                obtain ⟨q, hq⟩ : ∃ q, metRow out2 (predOf succ N) b = q := ⟨_, rfl⟩
                have HQ : Hid (∃ v9', Ints wr w.heap.size v9' q ∧ q.length ≤ 60 ∧ (b = 0 → v9' = .slice none 0 0) ∧ (b ≠ 0 → v9' = u9)) := by
                  by_cases hb0 : b = 0
                  · have hq0 : q = [] := by rw [← hq]; unfold metRow; rw [if_pos hb0]
                    exact ⟨.slice none 0 0, by rw [hq0]; exact World.ownsRow_nil _ _ _ _, by simp [hq0], fun _ => rfl, fun h => absurd hb0 h⟩
                  · have hq1 : q = (((predOf succ N b).foldl (meet1 out2) none)).getD [] := by rw [← hq]; unfold metRow meet; rw [if_neg hb0]
                    rcases HMET.out with ⟨h1, h2, _⟩ | ⟨l, h1, _, h2, h3⟩
                    · have hq0 : q = [] := by rw [hq1, h1]; rfl
                      exact ⟨u9, by rw [hq0, h2]; exact World.ownsRow_nil _ _ _ _, by simp [hq0], fun h => absurd h hb0, fun _ => rfl⟩
                    · have hq0 : q = l := by rw [hq1, h1]; rfl
                      exact ⟨u9, by rw [hq0]; exact h2, by rw [hq0]; exact h3, fun h => absurd h hb0, fun _ => rfl⟩
                rw [hq] at t1 t2
                have hnw : newRow out2 (predOf succ N) b = insN q (place q b) b := by unfold newRow insAt insN; rw [hq]
                obtain ⟨vk, d1, hnone, hsome⟩ := (HOu.out.mod HMJ.out).get b hbN
                have HRO : Hid (∃ ro : List Nat, Ints wr w.heap.size vk ro ∧ ro.length ≤ 60 ∧ (decide (insN q (place q b) b = ro) = true ↔ out2 b = some (newRow out2 (predOf succ N) b))) := by
                  rw [hnw]
                  cases hob : out2 b with
                  | none => exact ⟨[], by rw [hnone hob]; exact World.ownsRow_nil _ _ _ _, by simp, by simp [insN]⟩
                  | some r => exact ⟨r, (hsome r hob).1, Nat.le_trans (srt_lt (HAb.out.srt b r hob) fun z hz => HORD.out.rlt (HAb.out.pos b r hob z hz).1) hN, by simp; exact ⟨fun h => h.symm, fun h => h.symm⟩⟩
                have hd : decide (b ∈ q) = false := by simpa using t2
                have HD := Lib.hid hd
                have HT1 := Lib.hid t1
                have HNW := Lib.hid hnw
                have HQQ := Lib.hid hq
                obtain ⟨v9', hI9, hql, e0, e1⟩ := HQ.out
                have HI9 := Lib.hid hI9
                obtain ⟨ro, hIo, hrol, hiff⟩ := HRO.out
                have HIO := Lib.hid hIo
                have HIFF := Lib.hid hiff
                have l5' := (HOu.out.mod HMJ.out).lt
                have f5 := (HOu.out.mod HMJ.out).frozen b
                have hpl : place q b ≤ q.length := List.length_filter_le _ _
                clear HQ HRO hwhole HMET HIP hq hnw hnone hsome hd t1 t2 hI9 hIo hiff c0 c1
                have HTK : Hid ((ordOf succ N).take (i + 1) = (ordOf succ N).take i ++ [b]) := by
                  unfold Hid
                  rw [List.take_add_one, HBI.out]
                  rfl
                by_cases hb0 : b = 0
                · obtain rfl := e0 hb0
                  have hbz : ((b : Int) == 0) = true := by simp [hb0]
                  clear e0 e1 hb0
                  go_wp2_with fail
                  refine (search_ok w.heap.size _ q b _ HI9.out (by omega) HT1.out).mono ?_
                  rintro e w2 ⟨rfl, hm2⟩
                  rw [HD.out]
                  have HM2 := Lib.hid hm2
                  clear hm2
                  go_wp2_with fail
                  refine (clone_ok w.heap.size _ q _ (HI9.out.mod HM2.out) (by omega)).mono ?_
                  rintro e w3 ⟨vc, rfl, hvc, hm3⟩
                  have HM3 := Lib.hid hm3
                  have HVC := Lib.hid hvc
                  clear hm3 hvc
                  go_wp2_with fail
                  refine (insert_ok w2.heap.size vc q (place q b) b w3.heap.size _ (HVC.out.mod ((Mod.refl _ w3).alloc _)) (by have := HM3.out.size; simp; omega) hpl (Blk.new w3 3 #[.int .i64 (b : Nat)]) (fun e => by have := (HVC.out.lt _ e).2; omega) (by omega)).mono ?_
                  rintro e w4 ⟨g6, c6, rfl, hv6, hm6⟩
                  have HM4 : Hid (Mod NoBlk wr w4) := (HM2.out.trans (HM3.out.trans ((Mod.refl _ w3).alloc _))).trans' hm6 (fun k hk h => absurd (HVC.out.lt k h).1 (by have := HM2.out.size; omega))
                  have HV6 := Lib.hid (hv6.base (show w.heap.size ≤ w2.heap.size from by have := (HMw.out.trans (HMJ.out.trans HM2.out)).size; exact this))
                  have d4 := (HM4.out.cell (p := ⟨g5, b, none⟩) l5' (fun h => h)).trans d1
                  have l4' : g5 < w4.heap.size := Nat.lt_of_lt_of_le l5' HM4.out.size
                  clear hv6 hm6
                  go_wp2_with fail
                  refine (equal_ok w.heap.size w.heap.size _ vk (insN q (place q b) b) ro _ HV6.out (HIO.out.mod HM4.out) (by rw [insN_len hpl]; omega) (by omega)).mono ?_
                  rintro e w5 ⟨rfl, hm5⟩
                  have HM5 := Lib.hid (HM4.out.trans hm5)
                  have HV7 := Lib.hid (HV6.out.mod hm5)
                  have l5'' : g5 < w5.heap.size := Nat.lt_of_lt_of_le l4' hm5.size
                  have d5 := (hm5.cell (p := ⟨g5, b, none⟩) l4' (fun h => h)).trans d4
                  have f5' := (HM5.out.frozen (p := ⟨g5, b, none⟩) l5' (fun h => h)).trans f5
                  clear hm5
                  cases hde : decide (insN q (place q b) b = ro) with
                  | true =>
                    have HEQ := Lib.hid (HIFF.out.1 hde)
                    clear hde
                    go_wp2
                    go_roundw
                    case measure => simp [intOf]; omega
                    case rel =>
                      refine ⟨i + 1, out2, mo, by omega, by go_num, rfl, HOu.out.mod (HMJ.out.trans HM5.out), HAb.out, HMw.out.trans (HMJ.out.trans HM5.out), HMW.out.trans (HMJ.out.trans HM5.out).of_none, ?_, ?_, HT.out⟩
                      · rw [HTK.out]
                        intro z hz
                        rcases List.mem_append.1 hz with h | h
                        · exact HSet.out z h
                        · obtain rfl := List.mem_singleton.1 h
                          rw [HEQ.out]
                          exact fun e => by cases e
                      · intro hmo
                        obtain ⟨rfl, hfx⟩ := HF.out hmo
                        refine ⟨rfl, ?_⟩
                        rw [HTK.out]
                        intro z hz
                        rcases List.mem_append.1 hz with h | h
                        · exact hfx z h
                        · obtain rfl := List.mem_singleton.1 h
                          exact HEQ.out
                  | false =>
                    have hne : out2 b ≠ some (newRow out2 (predOf succ N) b) := fun e => by rw [HIFF.out.2 e] at hde; cases hde
                    have HNE := Lib.hid hne
                    clear hde hne
                    go_wp2
                    go_roundw
                    case measure => simp [intOf]; omega
                    case rel =>
                      have hin : insN q (place q b) b ≠ [] := by unfold insN; simp
                      have hput := (HOu.out.mod (HMJ.out.trans HM5.out)).put hbN HV7.out hin
                      rw [← HNW.out] at hput
                      refine ⟨i + 1, setRow out2 b (newRow out2 (predOf succ N) b), true, by omega, by go_num, rfl, ?_, HAb.out.set HORD.out HSP.out HSet.out, ?_, ?_, ?_, fun h => (by cases h), fun _ => ?_⟩
                      · exact hput
                      · exact (HMw.out.trans (HMJ.out.trans HM5.out)).trans' ((Mod.refl (fun j => j = g5) w5).setCell (p := ⟨g5, b, none⟩) (fun _ => rfl) _) (fun k hk h => absurd hk (by have : k = g5 := h; omega))
                      · exact (HMW.out.trans (HMJ.out.trans HM5.out).of_none).trans ((Mod.refl (fun j => j = g5) w5).setCell (p := ⟨g5, b, none⟩) (fun _ => rfl) _)
                      · rw [HTK.out]
                        intro z hz
                        unfold setRow
                        split
                        · exact fun e => by cases e
                        · rename_i hzb
                          rcases List.mem_append.1 hz with h | h
                          · exact HSet.out z h
                          · exact absurd (List.mem_singleton.1 h) hzb
                      · have hls := HAb.out.less HORD.out HSP.out HSet.out HNE.out
                        cases mo with
                        | true => exact Nat.lt_trans hls (HT.out rfl)
                        | false => rw [← (HF.out rfl).1]; exact hls
                · obtain rfl := e1 hb0
                  have hbz : ((b : Int) == 0) = false := by simpa using hb0
                  clear e0 e1 hb0
                  go_wp2_with fail
                  refine (search_ok w.heap.size _ q b _ HI9.out (by omega) HT1.out).mono ?_
                  rintro e w2 ⟨rfl, hm2⟩
                  rw [HD.out]
                  have HM2 := Lib.hid hm2
                  clear hm2
                  go_wp2_with fail
                  refine (clone_ok w.heap.size _ q _ (HI9.out.mod HM2.out) (by omega)).mono ?_
                  rintro e w3 ⟨vc, rfl, hvc, hm3⟩
                  have HM3 := Lib.hid hm3
                  have HVC := Lib.hid hvc
                  clear hm3 hvc
                  go_wp2_with fail
                  refine (insert_ok w2.heap.size vc q (place q b) b w3.heap.size _ (HVC.out.mod ((Mod.refl _ w3).alloc _)) (by have := HM3.out.size; simp; omega) hpl (Blk.new w3 3 #[.int .i64 (b : Nat)]) (fun e => by have := (HVC.out.lt _ e).2; omega) (by omega)).mono ?_
                  rintro e w4 ⟨g6, c6, rfl, hv6, hm6⟩
                  have HM4 : Hid (Mod NoBlk wr w4) := (HM2.out.trans (HM3.out.trans ((Mod.refl _ w3).alloc _))).trans' hm6 (fun k hk h => absurd (HVC.out.lt k h).1 (by have := HM2.out.size; omega))
                  have HV6 := Lib.hid (hv6.base (show w.heap.size ≤ w2.heap.size from by have := (HMw.out.trans (HMJ.out.trans HM2.out)).size; exact this))
                  have d4 := (HM4.out.cell (p := ⟨g5, b, none⟩) l5' (fun h => h)).trans d1
                  have l4' : g5 < w4.heap.size := Nat.lt_of_lt_of_le l5' HM4.out.size
                  clear hv6 hm6
                  go_wp2_with fail
                  refine (equal_ok w.heap.size w.heap.size _ vk (insN q (place q b) b) ro _ HV6.out (HIO.out.mod HM4.out) (by rw [insN_len hpl]; omega) (by omega)).mono ?_
                  rintro e w5 ⟨rfl, hm5⟩
                  have HM5 := Lib.hid (HM4.out.trans hm5)
                  have HV7 := Lib.hid (HV6.out.mod hm5)
                  have l5'' : g5 < w5.heap.size := Nat.lt_of_lt_of_le l4' hm5.size
                  have d5 := (hm5.cell (p := ⟨g5, b, none⟩) l4' (fun h => h)).trans d4
                  have f5' := (HM5.out.frozen (p := ⟨g5, b, none⟩) l5' (fun h => h)).trans f5
                  clear hm5
                  cases hde : decide (insN q (place q b) b = ro) with
                  | true =>
                    have HEQ := Lib.hid (HIFF.out.1 hde)
                    clear hde
                    go_wp2
                    go_roundw
                    case measure => simp [intOf]; omega
                    case rel =>
                      refine ⟨i + 1, out2, mo, by omega, by go_num, rfl, HOu.out.mod (HMJ.out.trans HM5.out), HAb.out, HMw.out.trans (HMJ.out.trans HM5.out), HMW.out.trans (HMJ.out.trans HM5.out).of_none, ?_, ?_, HT.out⟩
                      · rw [HTK.out]
                        intro z hz
                        rcases List.mem_append.1 hz with h | h
                        · exact HSet.out z h
                        · obtain rfl := List.mem_singleton.1 h
                          rw [HEQ.out]
                          exact fun e => by cases e
                      · intro hmo
                        obtain ⟨rfl, hfx⟩ := HF.out hmo
                        refine ⟨rfl, ?_⟩
                        rw [HTK.out]
                        intro z hz
                        rcases List.mem_append.1 hz with h | h
                        · exact hfx z h
                        · obtain rfl := List.mem_singleton.1 h
                          exact HEQ.out
                  | false =>
                    have hne : out2 b ≠ some (newRow out2 (predOf succ N) b) := fun e => by rw [HIFF.out.2 e] at hde; cases hde
                    have HNE := Lib.hid hne
                    clear hde hne
                    go_wp2
                    go_roundw
                    case measure => simp [intOf]; omega
                    case rel =>
                      have hin : insN q (place q b) b ≠ [] := by unfold insN; simp
                      have hput := (HOu.out.mod (HMJ.out.trans HM5.out)).put hbN HV7.out hin
                      rw [← HNW.out] at hput
                      refine ⟨i + 1, setRow out2 b (newRow out2 (predOf succ N) b), true, by omega, by go_num, rfl, ?_, HAb.out.set HORD.out HSP.out HSet.out, ?_, ?_, ?_, fun h => (by cases h), fun _ => ?_⟩
                      · exact hput
                      · exact (HMw.out.trans (HMJ.out.trans HM5.out)).trans' ((Mod.refl (fun j => j = g5) w5).setCell (p := ⟨g5, b, none⟩) (fun _ => rfl) _) (fun k hk h => absurd hk (by have : k = g5 := h; omega))
                      · exact (HMW.out.trans (HMJ.out.trans HM5.out).of_none).trans ((Mod.refl (fun j => j = g5) w5).setCell (p := ⟨g5, b, none⟩) (fun _ => rfl) _)
                      · rw [HTK.out]
                        intro z hz
                        unfold setRow
                        split
                        · exact fun e => by cases e
                        · rename_i hzb
                          rcases List.mem_append.1 hz with h | h
                          · exact HSet.out z h
                          · exact absurd (List.mem_singleton.1 h) hzb
                      · have hls := HAb.out.less HORD.out HSP.out HSet.out HNE.out
                        cases mo with
                        | true => exact Nat.lt_trans hls (HT.out rfl)
                        | false => rw [← (HF.out rfl).1]; exact hls
          · obtain rfl : i = m := by omega
            have hall : (ordOf succ N).take i = ordOf succ N := List.take_of_length_le (by rw [HML.out]; exact Nat.le_refl _)
            have HALL := Lib.hid hall
            clear hall
            cases mo with
            | true =>
              go_wp2
              go_roundg (amount out2 N N + 1)
              case measure =>
                have h1 := HT.out trivial
                have h2 := HK.out
                simp at h2
                omega
              case rel => exact ⟨out2, true, rfl, HOu.out, HAb.out, HMw.out, HMW.out, fun h => (by cases h), rfl⟩
            | false =>
              go_wp2
              go_roundg 0
              case measure =>
                have h2 := HK.out
                simp at h2
                omega
              case rel =>
                obtain ⟨rfl, hfix⟩ := HF.out trivial
                rw [HALL.out] at hfix
                exact ⟨out2, false, rfl, HOu.out, HAb.out, HMw.out, HMW.out, fun _ => hfix, rfl⟩

end Go.Proofs.Ytjaapempahigaaa
