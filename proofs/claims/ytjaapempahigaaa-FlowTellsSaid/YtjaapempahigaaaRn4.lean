/- The document's Above. -/
import Derived.Test.YtjaapempahigaaaRn3
import Derived.Test.YtjaapempahigaaaFl18
namespace Go.Proofs.Ytjaapempahigaaa
open Go.RowKit

def abvUp (succ : Nat → List Nat) (N a b : Nat) : List Nat := (List.range a).filter fun z => decide (z ∈ abvOf succ N b)
theorem abvUp_full {succ : Nat → List Nat} {N : Nat} (hs : ∀ a x, x ∈ succ a → x < N) {b : Nat} (hb : b < N) : abvUp succ N N b = abvOf succ N b := by
  have hsrt : Srt (abvOf succ N b) := by
    unfold abvOf
    split
    · exact srt_range N _
    · exact List.Pairwise.nil
  unfold abvUp
  refine srt_eq (srt_range N _) hsrt (fun x => ?_)
  simp only [List.mem_filter, List.mem_range, decide_eq_true_eq]
  refine ⟨fun h => h.2, fun h => ⟨?_, h⟩⟩
  have hd := (mem_abv hs hb).1 h
  exact Rch.lt (by omega) hs hd.reached
theorem abvUp_succ (succ : Nat → List Nat) (N a b : Nat) : abvUp succ N (a + 1) b = abvUp succ N a b ++ if a ∈ abvOf succ N b then [a] else [] := by
  unfold abvUp
  rw [List.range_succ, List.filter_append]
  by_cases h : a ∈ abvOf succ N b
  · simp [h]
  · simp [h]
theorem abvUp_len (succ : Nat → List Nat) (N a b : Nat) : (abvUp succ N a b).length ≤ a := by
  unfold abvUp
  have := List.length_filter_le (fun z => decide (z ∈ abvOf succ N b)) (List.range a)
  simpa using this

set_option maxRecDepth 100000 in
set_option maxHeartbeats 4000000 in
theorem refAbove_ok (nm : ByteArray) (x y : Int) (ob : Option Addr) (N cap : Nat) (succ : Nat → List Nat) (w : World) (hG : GraphAt w ob N succ) (hN : N ≤ 60) :
    Calls Try.prog 40 #[fnV nm x y ob N cap] w fun e w' => ∃ g, e = .returned (.slice (some ⟨g, 0, none⟩) N N) ∧ RowsV w' g N (abvOf succ N) ∧ Mod NoBlk w w' := by
  have hmk := fun W => Go.run_make_row' (P := Try.prog) 68 65 (.slice none 0 0) 24 Try.underlying68 info65 rfl .i64 .i64 N (by omega) (by omega) W
  obtain ⟨i3, hi3, hz0, hz1, hz2⟩ := info_parts info3
  have HI3 := Lib.hid hi3
  have HZ0 := Lib.hid hz0
  have HZ1 := Lib.hid hz1
  have HZ2 := Lib.hid hz2
  have hs : ∀ a z, z ∈ succ a → z < N := fun a z hz => (hG.succ a).1 z hz
  have HS := Lib.hid hs
  have HG := Lib.hid hG
  clear hi3 hz0 hz1 hz2 hs hG
  go_enter Try.func40, Try.ntmps40
  go_upto_region 2 with fail
  have hm1 := mod2' w (.cells #[.string nm, .int .i64 x, .int .i64 y, .slice ob N cap] 63) (.cells (madeCells #[.slice none 0 0] N) 65)
  have hF1 := (Blk.new w 63 #[.string nm, .int .i64 x, .int .i64 y, .slice ob N cap]).alloc (.cells (madeCells #[.slice none 0 0] N) 65)
  have hR1 := RowsQ.new (Q := fun _ => True) (w.alloc (.cells #[.string nm, .int .i64 x, .int .i64 y, .slice ob N cap] 63)) w.heap.size N
  rw [World.size_alloc] at hR1
  generalize (w.alloc (.cells #[.string nm, .int .i64 x, .int .i64 y, .slice ob N cap] 63)).alloc (.cells (madeCells #[.slice none 0 0] N) 65) = W1 at *
  obtain ⟨gf, hgf⟩ : ∃ gf, w.heap.size = gf := ⟨_, rfl⟩
  obtain ⟨g, hg⟩ : ∃ g, gf + 1 = g := ⟨_, rfl⟩
  rw [hgf] at hF1 hR1 ⊢
  rw [hg] at hR1 ⊢
  obtain ⟨q0, q1, q2, q3, l0⟩ := fn_cells nm x y ob N cap W1 gf hF1
  have HF1 := Lib.hid hF1
  have HR1 := Lib.hid hR1
  have HM1 := Lib.hid hm1
  have HGE : Hid (gf < g ∧ w.heap.size = gf) := by unfold Hid; omega
  clear hmk hm1 hF1 hR1 hgf hg
  go_wp2_with fail
  refine (refReached_ok nm x y ob N cap succ _ (HG.out.mod HM1.out) hN).mono ?_
  rintro e W2 ⟨gR, rfl, hBR, hm2⟩
  have HB2 := Lib.hid hBR
  have HF2 := Lib.hid (HF1.out.mod hm2 (fun h => h))
  have HR2 := Lib.hid (RowsQ.mod HR1.out hm2 (fun h => h) (fun _ _ _ h => h))
  have HM2 := Lib.hid (HM1.out.trans hm2)
  clear hBR hm2 q0 q1 q2 q3 l0 HF1 HR1 HM1
  go_wp2
  go_loopw [5, 6, 7] (fun s5 _ _ wr => ∃ a : Nat, a ≤ N ∧ s5 = .int .i64 a ∧ RowsAt wr gf g N (fun b => abvUp succ N a b) ∧ Bools wr gR N (fun i => decide (i ∈ ordOf succ N)) ∧ Blk wr gf 63 #[.string nm, .int .i64 x, .int .i64 y, .slice ob N cap] ∧ Mod NoBlk w wr) (fun s5 _ _ _ => (N - intOf s5).toNat)
  case atStart => exact ⟨0, by omega, rfl, RowsQ.congr HR2.out (fun i _ => by simp [abvUp]), HB2.out, HF2.out, HM2.out⟩
  case round =>
    clear HR2 HB2 HF2 HM2
    obtain ⟨a, ha, rfl, hR, hB, hF, hMw⟩ := hrel
    have HR := Lib.hid hR
    have HB := Lib.hid hB
    have HF := Lib.hid hF
    have HMW := Lib.hid hMw
    obtain ⟨q0, q1, q2, q3, l0⟩ := fn_cells nm x y ob N cap wr gf hF
    clear hR hB hF hMw
    by_cases hlt : a < N
    · go_wp2_with fail
      refine (refWithout_ok nm x y ob N cap a succ _ (HG.out.mod HMW.out) hN).mono ?_
      rintro e w2 ⟨gl, c, rfl, hC, hiff, hm2⟩
      have HC2 := Lib.hid hC
      have HIFF := Lib.hid hiff
      have HR2 := Lib.hid (RowsQ.mod HR.out hm2 (fun h => h) (fun _ _ _ h => h))
      have HB2 := Lib.hid (HB.out.mod hm2 (fun h => h))
      have HF2 := Lib.hid (HF.out.mod hm2 (fun h => h))
      have HM2 := Lib.hid (HMW.out.trans hm2)
      clear hC hiff hm2 q0 q1 q2 q3 l0 HR HB HF HMW
      go_wp2
      go_loopw [7] (fun s7 wr => ∃ b : Nat, b ≤ N ∧ s7 = .int .i64 b ∧ RowsAt wr gf g N (fun b' => abvUp succ N (if b' < b then a + 1 else a) b') ∧ Bools wr gR N (fun i => decide (i ∈ ordOf succ N)) ∧ Bools wr gl N c ∧ Blk wr gf 63 #[.string nm, .int .i64 x, .int .i64 y, .slice ob N cap] ∧ Mod NoBlk w wr) (fun s7 _ => (N - intOf s7).toNat)
      case atStart => exact ⟨0, by omega, rfl, HR2.out, HB2.out, HC2.out, HF2.out, HM2.out⟩
      case round =>
        clear HR2 HB2 HC2 HF2 HM2
        obtain ⟨b, hb, rfl, hR, hB, hC, hF, hMw⟩ := hrel
        have HR := Lib.hid hR
        have HB := Lib.hid hB
        have HC := Lib.hid hC
        have HF := Lib.hid hF
        have HMW := Lib.hid hMw
        obtain ⟨q0, q1, q2, q3, l0⟩ := fn_cells nm x y ob N cap wr gf hF
        clear hR hB hC hF hMw
        by_cases hbN : b < N
        · have u0 := HB.out.cell b hbN
          have u1 := HC.out.cell b hbN
          have lR := HB.out.lt
          have lC := HC.out.lt
          have hmem : a ∈ abvOf succ N b ↔ b ∈ ordOf succ N ∧ c b = false := by
            rw [mem_abv HS.out hbN, ord_mem HS.out hbN]
            unfold Dom
            rw [← ok_not, ← HIFF.out b hbN]
            simp
          have keep : a ∉ abvOf succ N b → RowsAt wr gf g N (fun b' => abvUp succ N (if b' < b + 1 then a + 1 else a) b') := fun hn => RowsQ.congr HR.out (fun i hi => by
            by_cases e : i = b
            · subst e
              rw [if_neg (by omega), if_pos (by omega), abvUp_succ, if_neg hn, List.append_nil]
            · by_cases e2 : i < b
              · rw [if_pos e2, if_pos (by omega)]
              · rw [if_neg e2, if_neg (by omega)])
          have KEEP := Lib.hid keep
          have HMEM := Lib.hid hmem
          clear keep hmem
          by_cases hr : b ∈ ordOf succ N
          · rw [show decide (b ∈ ordOf succ N) = true by simpa using hr] at u0
            cases hcb : c b with
            | true =>
              rw [hcb] at u1
              have hno : a ∉ abvOf succ N b := fun h => by rw [(HMEM.out.1 h).2] at hcb; cases hcb
              have HNO := Lib.hid hno
              clear hcb hno hr
              go_wp2
              go_roundw
              case measure => simp [intOf]; omega
              case rel => exact ⟨b + 1, by omega, by go_num, KEEP.out HNO.out, HB.out, HC.out, HF.out, HMW.out⟩
            | false =>
              rw [hcb] at u1
              have HYES : Hid (a ∈ abvOf succ N b) := HMEM.out.2 ⟨hr, hcb⟩
              obtain ⟨v, d0, hIv, _⟩ := RowsQ.get HR.out b hbN
              rw [if_neg (by omega)] at hIv
              obtain ⟨ov, cv, rfl, hcv1, hcv2⟩ := hIv.at_
              have hql := abvUp_len succ N a b
              obtain ⟨q, hq⟩ : ∃ q, abvUp succ N a b = q := ⟨_, rfl⟩
              have HQ := Lib.hid hq
              rw [hq] at hIv d0 hcv1 hql
              have HIV := Lib.hid hIv
              have D0 := Lib.hid d0
              have dz := (RowsQ.frozen HR.out b)
              have lg := RowsQ.lt HR.out
              have hgfl : gf < wr.heap.size := l0
              clear hcb hr hq hIv
              go_wp2_with (at_builtin; go_must (refine wpList_append_lies _ rfl _ _ 65 rfl gf 3 i3 (.int .i64 0) 1 8 Try.underlying65 HI3.out HZ0.out HZ1.out HZ2.out rfl (by decide) _ q.length (q.map fun x => Value.int .i64 (x : Nat)) rfl (World.ownsRow.alloc HIV.out _) ⟨wr.heap.size, 0, none⟩ 1 1 [_] rfl rfl (cell_one_new _ _ _) (by simp [Value.oneCell']) (by omega) (by unfold maxLen; omega) (by omega) (by simp; omega) _ rfl ?_); intro g2 c2 w3 hown hgrow hat _; have hm3 := grow_mod hgrow; have d3 := (hm3.cell (p := ⟨g, b, none⟩) lg (fun e => by obtain ⟨csg, hbg⟩ := RowsQ.blk HR.out; exact row_ne_blk HIV.out hbg (by decide) e)).trans D0.out; have dz3 := (hm3.frozen (p := ⟨g, b, none⟩) lg (fun e => by obtain ⟨csg, hbg⟩ := RowsQ.blk HR.out; exact row_ne_blk HIV.out hbg (by decide) e)).trans dz; have lg3 : g < w3.heap.size := Nat.lt_of_lt_of_le lg hm3.size; have HOW := Lib.hid hown; have HM3 := Lib.hid hm3; have HAT := Lib.hid hat; clear hown hgrow hat hm3 d0)
              go_roundw
              case measure => simp [intOf]; omega
              case rel =>
                have hIn : Ints w3 gf (.slice (some ⟨g2, 0, none⟩) (q.length + 1) c2) (q ++ [a]) := by
                  have := HOW.out
                  unfold Ints
                  simpa using this
                have hput := RowsQ.put HR.out hbN D0.out HM3.out hIn (fun j hj => by
                  cases hj
                  rcases HAT.out with h | h
                  · exact .inl h
                  · right
                    have : g2 = wr.heap.size + 1 := by simpa using h
                    show wr.heap.size ≤ g2
                    omega) (fun _ _ => trivial)
                have hms : Mod (fun j => j = g) w3 (w3.setCell ⟨g, b, none⟩ (.slice (some ⟨g2, 0, none⟩) (q.length + 1) c2)) := (Mod.refl (fun j => j = g) w3).setCell (p := ⟨g, b, none⟩) (fun _ => rfl) _
                have hall : Mod (fun j => (Value.slice ov q.length cv).ownBlock = some j ∨ j = g) wr (w3.setCell ⟨g, b, none⟩ (.slice (some ⟨g2, 0, none⟩) (q.length + 1) c2)) := (HM3.out.mono (fun _ _ h => .inl h)).trans (hms.mono (fun _ _ h => .inr h))
                obtain ⟨csg, hbg⟩ := RowsQ.blk HR.out
                have nB : ∀ gg cc, Bools wr gg N cc → ¬ ((Value.slice ov q.length cv).ownBlock = some gg ∨ gg = g) := fun gg cc hb h => by
                  obtain ⟨cs, hbb, _⟩ := hb
                  rcases h with h | h
                  · exact row_ne_blk HIV.out hbb (by decide) h
                  · rw [h] at hbb
                    exact absurd (hbb.uniq hbg).1 (by decide)
                refine ⟨b + 1, by omega, by go_num, RowsQ.congr hput (fun i hi => ?_), HB.out.mod hall (nB _ _ HB.out), HC.out.mod hall (nB _ _ HC.out), HF.out.mod hall (fun h => ?_), HMW.out.trans' hall (fun j hj h => absurd hj ?_)⟩
                · by_cases e : i = b
                  · subst e
                    rw [if_pos rfl, if_pos (by omega), abvUp_succ, if_pos HYES.out, HQ.out]
                  · rw [if_neg e]
                    by_cases e2 : i < b
                    · rw [if_pos e2, if_pos (by omega)]
                    · rw [if_neg e2, if_neg (by omega)]
                · rcases h with h | h
                  · exact row_ne_blk HIV.out HF.out (by decide) h
                  · have := HGE.out; omega
                · have := HGE.out
                  rcases h with h | h
                  · have := (HIV.out.lt j h).1; omega
                  · omega
          · rw [show decide (b ∈ ordOf succ N) = false by simpa using hr] at u0
            have hno : a ∉ abvOf succ N b := fun h => hr (HMEM.out.1 h).1
            have HNO := Lib.hid hno
            clear hno hr
            go_wp2
            go_roundw
            case measure => simp [intOf]; omega
            case rel => exact ⟨b + 1, by omega, by go_num, KEEP.out HNO.out, HB.out, HC.out, HF.out, HMW.out⟩
        · have hbN' : b = N := by omega
          subst b
          go_wp2
          go_roundw
          case measure => simp [intOf]; omega
          case rel => exact ⟨a + 1, by omega, by go_num, RowsQ.congr HR.out (fun i hi => by rw [if_pos hi]), HB.out, HF.out, HMW.out⟩
    · have haN : a = N := by omega
      subst a
      go_wp2
      go_ret
      exact ⟨g, rfl, RowsQ.rowsV (RowsQ.congr HR.out (fun i hi => abvUp_full HS.out hi)), HMW.out⟩
end Go.Proofs.Ytjaapempahigaaa
