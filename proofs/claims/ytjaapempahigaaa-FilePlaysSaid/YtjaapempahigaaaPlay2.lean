/- FilePlays: the walk. -/
import Derived.Test.YtjaapempahigaaaPlay1
import Derived.Deep.DeepCutAuto
namespace Go.Proofs.Ytjaapempahigaaa
open Go.RowKit

/-- The acts can be read. -/
def ActsAt (w : World) (oa : Option Addr) (m : Nat) : Prop := ∀ j, j < m → ∃ a, oa = some a ∧ (a.add (j * 5)).block < w.heap.size ∧ ∃ (b : Bool) (x1 x2 x3 x4 : Int), w.cell? (a.add (j * 5)) = some (.bool b) ∧ w.cell? ⟨(a.add (j * 5)).block, (a.add (j * 5)).off + 1, none⟩ = some (.int .i64 x1) ∧ w.cell? ⟨(a.add (j * 5)).block, (a.add (j * 5)).off + 2, none⟩ = some (.int .i64 x2) ∧ w.cell? ⟨(a.add (j * 5)).block, (a.add (j * 5)).off + 3, none⟩ = some (.int .i64 x3) ∧ w.cell? ⟨(a.add (j * 5)).block, (a.add (j * 5)).off + 4, none⟩ = some (.int .u32 x4)
theorem ActsAt.mod {w w' : World} {oa : Option Addr} {m : Nat} (h : ActsAt w oa m) (hm : Mod NoBlk w w') : ActsAt w' oa m := by
  intro j hj
  obtain ⟨a, ha, hb, b, x1, x2, x3, x4, h0, h1, h2, h3, h4⟩ := h j hj
  exact ⟨a, ha, Nat.lt_of_lt_of_le hb hm.size, b, x1, x2, x3, x4, (hm.cell hb (fun h => h)).trans h0, (hm.cell (p := ⟨(a.add (j * 5)).block, (a.add (j * 5)).off + 1, none⟩) hb (fun h => h)).trans h1, (hm.cell (p := ⟨(a.add (j * 5)).block, (a.add (j * 5)).off + 2, none⟩) hb (fun h => h)).trans h2, (hm.cell (p := ⟨(a.add (j * 5)).block, (a.add (j * 5)).off + 3, none⟩) hb (fun h => h)).trans h3, (hm.cell (p := ⟨(a.add (j * 5)).block, (a.add (j * 5)).off + 4, none⟩) hb (fun h => h)).trans h4⟩

theorem FileAt.ne7 {w : World} {p q nw cap g : Nat} {A G : Nat → Int} {cs : Array Value} (h : FileAt w p q nw cap A G) (hb : Blk w g 45 cs) : p ≠ g ∧ q ≠ g := by
  obtain ⟨_, hp, _⟩ := h.bp
  obtain ⟨_, hq, _⟩ := h.bq
  refine ⟨?_, ?_⟩
  · rintro rfl; exact absurd (hb.uniq hp).1 (by decide)
  · rintro rfl; exact absurd (hb.uniq hq).1 (by decide)

theorem FileAt.neT {w : World} {p q nw cap g : Nat} {t : TypeId} {A G : Nat → Int} {cs : Array Value} (h : FileAt w p q nw cap A G) (hb : Blk w g t cs) (h1 : t ≠ 58) (h2 : t ≠ 22) : p ≠ g ∧ q ≠ g := by
  obtain ⟨_, hp, _⟩ := h.bp
  obtain ⟨_, hq, _⟩ := h.bq
  refine ⟨?_, ?_⟩
  · rintro rfl; exact absurd (hb.uniq hp).1 h1
  · rintro rfl; exact absurd (hb.uniq hq).1 h2

theorem RefF.modFile {w w' : World} {a : Option Addr} {n c p q nw cap : Nat} {L : List ((Nat × Nat × Nat) × Int)} {A G : Nat → Int} (h : RefF w a n c L) (hf : FileAt w p q nw cap A G) (hm : Mod (fun k => k = p ∨ k = q) w w') : RefF w' a n c L := by
  obtain ⟨h1, ⟨hl, hv⟩, h0⟩ := h
  refine ⟨h1, ⟨hl, ?_⟩, h0⟩
  rcases hv with hv | ⟨g, c, cur, hv, hb, hg, hr⟩
  · exact .inl hv
  · have hn := hf.neT (show Blk w g 94 cur from hg) (by decide) (by decide)
    exact .inr ⟨g, c, cur, hv, hb, (show Blk w g 94 cur from hg).mod hm (by rintro (e | e); exact hn.1 e.symm; exact hn.2 e.symm), hr⟩

/-- What the act has left, ahead of the file's own. -/
def Six (w : World) (g7 gx g11 nw n p q cap : Nat) (A G : Nat → Int) (a : Option Addr) (c : Nat) (L : List ((Nat × Nat × Nat) × Int)) (X : Array Value) (a' : Option Addr) (n' c' : Nat) (L' : List ((Nat × Nat × Nat) × Int)) (wx : World) : Prop :=
  Blk wx g7 45 #[.int .i64 nw, .slice a' n' c'] ∧ RefF wx a' n' c' L' ∧ n' ≤ n + 16 ∧ Blk wx gx 24 X ∧ Blk wx g11 45 #[.int .i64 nw, .slice a n c] ∧ RefF wx a n c L ∧ FileAt wx p q nw cap A G ∧ Mod NoBlk w wx

/-- What the act has left. -/
def CutR (w : World) (g7 gx g11 nw n p q cap p2 q2 cap2 : Nat) (A G : Nat → Int) (a : Option Addr) (c : Nat) (L : List ((Nat × Nat × Nat) × Int)) (X : Array Value) (s6 s13 : Value) (wx : World) : Prop :=
  ∃ E a' n' c' L' A' G', s6 = .int .i64 E ∧ s13 = .int .i64 E ∧ FileAt wx p2 q2 nw cap2 A' G' ∧ Rel nw A' G' L' ∧ Six w g7 gx g11 nw n p q cap A G a c L X a' n' c' L' wx

theorem Six.mod {w w6 w7 : World} {g7 gx g11 nw n p q cap : Nat} {A G : Nat → Int} {a : Option Addr} {c : Nat} {L : List ((Nat × Nat × Nat) × Int)} {X : Array Value} {a' : Option Addr} {n' c' : Nat} {L' : List ((Nat × Nat × Nat) × Int)}
    (h : Six w g7 gx g11 nw n p q cap A G a c L X a' n' c' L' w6) (hm : Mod NoBlk w6 w7) : Six w g7 gx g11 nw n p q cap A G a c L X a' n' c' L' w7 := by
  obtain ⟨h7, hr, hn, hx, h11, hro, hfo, hM⟩ := h
  exact ⟨h7.mod hm (fun h => h), hr.mod hm, hn, hx.mod hm (fun h => h), h11.mod hm (fun h => h), hro.mod hm, hfo.mod hm (fun h => h) (fun h => h), hM.trans hm⟩

theorem CutR.of {w w6 w7 : World} {g7 gx g11 nw n p q cap p2 q2 cap2 B : Nat} {A G A2 G2 A' G' : Nat → Int} {a : Option Addr} {c : Nat} {L : List ((Nat × Nat × Nat) × Int)} {X : Array Value} {a' : Option Addr} {n' c' : Nat} {L' : List ((Nat × Nat × Nat) × Int)} {E : Int}
    (h : Six w g7 gx g11 nw n p q cap A G a c L X a' n' c' L' w6) (hfb : FileAt w6 p2 q2 nw cap2 A2 G2) (hf : FileAt w7 p2 q2 nw cap2 A' G') (hR : Rel nw A' G' L') (hm : Mod (fun k => k = p2 ∨ k = q2) w6 w7)
    (hB : w.heap.size ≤ B ∧ (p < B ∧ q < B) ∧ (B ≤ p2 ∧ B ≤ q2)) : CutR w g7 gx g11 nw n p q cap p2 q2 cap2 A G a c L X (.int .i64 E) (.int .i64 E) w7 := by
  obtain ⟨h7, hr, hn, hx, h11, hro, hfo, hM⟩ := h
  have e7 := hfb.neT h7 (by decide) (by decide)
  have ex := hfb.neT hx (by decide) (by decide)
  have e11 := hfb.neT h11 (by decide) (by decide)
  refine ⟨E, a', n', c', L', A', G', rfl, rfl, hf, hR, h7.mod hm (by rintro (e | e); exact e7.1 e.symm; exact e7.2 e.symm), hr.modFile hfb hm, hn, hx.mod hm (by rintro (e | e); exact ex.1 e.symm; exact ex.2 e.symm), h11.mod hm (by rintro (e | e); exact e11.1 e.symm; exact e11.2 e.symm), hro.modFile hfb hm, hfo.mod hm (by omega) (by omega), hM.trans' hm (fun i hi h => absurd hi (by omega))⟩

/-- The document's file is stored back. -/
theorem Six.of {w w5 : World} {g7 gx g11 nw n p q cap : Nat} {A G : Nat → Int} {a : Option Addr} {c : Nat} {L : List ((Nat × Nat × Nat) × Int)} {X : Array Value} {a0 a' : Option Addr} {n0 c0 n' c' : Nat} {L' : List ((Nat × Nat × Nat) × Int)}
    (h7 : Blk w5 g7 45 #[.int .i64 nw, .slice a0 n0 c0]) (hr : RefF w5 a' n' c' L') (hn : n' ≤ n + 16) (hx : Blk w5 gx 24 X) (h11 : Blk w5 g11 45 #[.int .i64 nw, .slice a n c]) (hro : RefF w5 a n c L) (hfo : FileAt w5 p q nw cap A G) (hM : Mod NoBlk w w5)
    (hne : g7 ≠ g11) (hg : w.heap.size ≤ g7) : Six w g7 gx g11 nw n p q cap A G a c L X a' n' c' L' ((w5.setCell ⟨g7, 0, none⟩ (.int .i64 nw)).setCell ⟨g7, 1, none⟩ (.slice a' n' c')) := by
  have hs7 : Mod (fun k => k = g7) w5 ((w5.setCell ⟨g7, 0, none⟩ (.int .i64 nw)).setCell ⟨g7, 1, none⟩ (.slice a' n' c')) := ((Mod.refl _ w5).setHere 0 _).setHere 1 _
  have hx7 : gx ≠ g7 := by rintro rfl; exact absurd (hx.uniq h7).1 (by decide)
  have e7 := hfo.neT h7 (by decide) (by decide)
  exact ⟨by simpa using (h7.set_ 0 (.int .i64 nw)).set_ 1 (.slice a' n' c'), (hr.far h7 0 (.int .i64 nw)).far (h7.set_ 0 (.int .i64 nw)) 1 (.slice a' n' c'), hn, hx.mod hs7 hx7, h11.mod hs7 (fun h => hne h.symm), (hro.far h7 0 (.int .i64 nw)).far (h7.set_ 0 (.int .i64 nw)) 1 (.slice a' n' c'), hfo.mod hs7 e7.1 e7.2, hM.trans' hs7 (fun i hi h => absurd hi (by have : i = g7 := h; omega))⟩

theorem refNil (w : World) : RefF w none 0 0 [] := ⟨rfl, ⟨by simp [saidCells], .inl ⟨rfl, rfl⟩⟩, fun _ => ⟨rfl, rfl⟩⟩

/-- Where the loop stands after k acts. -/
def PlayAt (w0 : World) (g7 nw k : Nat) (v5 : Value) (wr : World) : Prop :=
  ∃ p q cap A G a n c L, v5 = .pointer (some ⟨p, 0, none⟩) ∧ Blk wr g7 45 #[.int .i64 nw, .slice a n c] ∧ RefF wr a n c L ∧ Rel nw A G L ∧ n ≤ 16 * k ∧ FileAt wr p q nw cap A G ∧ w0.heap.size ≤ p ∧ w0.heap.size ≤ q ∧ w0.heap.size ≤ g7 ∧ Mod NoBlk w0 wr

set_option maxRecDepth 100000 in
set_option maxHeartbeats 4000000 in
theorem filePlays_walk (a0 : Int) (oa : Option Addr) (m cap0 : Nat) (w : World) (hacts : ActsAt w oa m) :
    Calls Try.prog 5 #[.int .i64 a0, .slice oa m cap0] w fun e w' => e = .returned (.bool true) ∧ Mod NoBlk w w' := by
  by_cases hbad : a0 < 2 ∨ 32 < a0
  · go_enter Try.func5, Try.ntmps5
    go_wp2_with fail
    refine (new_bad a0 _ hbad).mono ?_
    rintro e w' ⟨rfl, rfl⟩
    go_wp2_with fail
    refine (refNew_bad a0 _ hbad).mono ?_
    rintro e w1 ⟨rfl, hm1⟩
    have HM1 := Lib.hid hm1
    clear hm1
    go_wp2_with fail
    refine (head_ok _).mono ?_
    rintro e w2 ⟨rfl, hm2⟩
    go_wp2
    go_ret
    exact ⟨rfl, (HM1.out.alloc _).trans hm2⟩
  · obtain ⟨nw, rfl⟩ : ∃ nw : Nat, a0 = nw := ⟨a0.toNat, by omega⟩
    have hn2 : 2 ≤ nw := by omega
    have hn32 : nw ≤ 32 := by omega
    clear hbad
    go_enter Try.func5, Try.ntmps5
    go_wp2_with fail
    refine (new_ok nw _ hn2 hn32).mono ?_
    rintro e w1 ⟨rfl, hf1, hm1⟩
    have hsz := hm1.size
    have HF1 := Lib.hid hf1
    have HM1 := Lib.hid hm1
    have HS := Lib.hid hsz
    clear hf1 hm1 hsz
    go_wp2_with fail
    refine (refNew_ok nw _ hn2 hn32).mono ?_
    rintro e w2 ⟨rfl, hm2⟩
    have HF2 := Lib.hid (HF1.out.mod hm2 (fun h => h) (fun h => h))
    have HM2 := Lib.hid (HM1.out.trans hm2)
    clear hm2 HF1 HM1
    by_cases h6 : 6 < nw
    · go_wp2_with fail
      refine (head_ok _).mono ?_
      rintro e w3 ⟨rfl, hm3⟩
      go_wp2
      go_ret
      exact ⟨rfl, (HM2.out.alloc _).trans hm3⟩
    · go_wp2
      have hB := Blk.new w2 45 #[.int .i64 nw, .slice none 0 0]
      have hm2 := HM2.out.alloc (.cells #[.int .i64 nw, .slice none 0 0] 45)
      have hf2 := HF2.out.mod ((Mod.refl NoBlk w2).alloc (.cells #[.int .i64 nw, .slice none 0 0] 45)) (fun h => h) (fun h => h)
      have hg7 : w.heap.size ≤ w2.heap.size := HM2.out.size
      generalize w2.alloc (.cells #[.int .i64 nw, .slice none 0 0] 45) = W at *
      generalize w2.heap.size = g7 at *
      have HP0 : Hid (PlayAt w g7 nw 0 (.pointer (some ⟨w.heap.size + 1, 0, none⟩)) W) := ⟨_, _, _, _, _, none, 0, 0, [], rfl, hB, refNil W, Rel.zero_ nw, by omega, hf2, by omega, by omega, hg7, hm2⟩
      have HA := Lib.hid hacts
      clear hB hm2 hf2 HF2 HM2 hacts HS
      go_loopw [5, 9] (fun v5 i wr => ∃ k : Nat, k ≤ 30 ∧ k ≤ m ∧ i = .int .i64 k ∧ PlayAt w g7 nw k v5 wr) (fun _ i _ => (30 - intOf i).toNat)
      case atStart => exact ⟨0, by omega, by omega, rfl, HP0.out⟩
      case round =>
        clear HP0
        obtain ⟨k, hk30, hkm, rfl, hP⟩ := hrel
        have HP := Lib.hid hP
        clear hP
        by_cases hlm : k < m
        · by_cases hl30 : k < 30
          · obtain ⟨p, q, cap, A, G, a, n, c, L, rfl, hB, hF, hR, hn, hf, hp, hq, _, hm⟩ := HP.out
            obtain ⟨ea, rfl, heb, bx, x1, x2, x3, x4, c0, c1, c2, c3, c4⟩ := (HA.out.mod hm) k hlm
            have HB := Lib.hid hB
            have HF := Lib.hid hF
            have HR := Lib.hid hR
            have HN := Lib.hid hn
            have HFA := Lib.hid hf
            have HPQ : Hid (w.heap.size ≤ p ∧ w.heap.size ≤ q) := ⟨hp, hq⟩
            have HM := Lib.hid hm
            have HPQ3 : Hid (p < wr.heap.size ∧ q < wr.heap.size) := ⟨hf.lp, hf.lq⟩
            have HSZ : Hid (w.heap.size ≤ wr.heap.size) := hm.size
            clear hB hF hR hn hf hp hq hm HP c0 c1 c2 c3 c4
            go_wp2_with fail
            refine (copy_ok p q nw cap A G _ HFA.out).mono ?_
            rintro e w3 ⟨p2, q2, cap2, rfl, hf2, hp2, hq2, hm3⟩
            have HFA2 := Lib.hid hf2
            have HB3 := Lib.hid (HB.out.mod hm3 (fun h => h))
            have HF3 := Lib.hid (HF.out.mod hm3)
            have HFA3 := Lib.hid (HFA.out.mod hm3 (fun h => h) (fun h => h))
            have hm4 := HM.out.trans hm3
            obtain ⟨ea', hea', heb, bx, x1, x2, x3, x4, c0, c1, c2, c3, c4⟩ := (HA.out.mod hm4) k hlm
            cases hea'
            have HM3 := Lib.hid hm4
            have HPQ2 : Hid (wr.heap.size ≤ p2 ∧ wr.heap.size ≤ q2) := ⟨hp2, hq2⟩
            have q0 := HB3.out.cell 0
            have q1 := HB3.out.cell 1
            simp only [List.getElem?_toArray, List.getElem?_cons_zero, List.getElem?_cons_succ] at q0 q1
            have l0 := HB3.out.lt
            clear hf2 hp2 hq2 hm3 hm4
            go_upto_region 13 with fail
            have hmW := mod2 w3 (.cells #[.int .i64 nw, .slice a n c] 45) (.cells #[.bool bx, .int .i64 x1, .int .i64 x2, .int .i64 x3, .int .u32 x4] 24)
            have hB11 : Blk ((w3.alloc (.cells #[.int .i64 nw, .slice a n c] 45)).alloc (.cells #[.bool bx, .int .i64 x1, .int .i64 x2, .int .i64 x3, .int .u32 x4] 24)) w3.heap.size 45 #[.int .i64 nw, .slice a n c] := (Blk.new w3 45 _).alloc _
            have hBx : Blk ((w3.alloc (.cells #[.int .i64 nw, .slice a n c] 45)).alloc (.cells #[.bool bx, .int .i64 x1, .int .i64 x2, .int .i64 x3, .int .u32 x4] 24)) (w3.heap.size + 1) 24 #[.bool bx, .int .i64 x1, .int .i64 x2, .int .i64 x3, .int .u32 x4] := by
              have := Blk.new (w3.alloc (.cells #[.int .i64 nw, .slice a n c] 45)) 24 #[.bool bx, .int .i64 x1, .int .i64 x2, .int .i64 x3, .int .u32 x4]
              simpa using this
            generalize (w3.alloc (.cells #[.int .i64 nw, .slice a n c] 45)).alloc (.cells #[.bool bx, .int .i64 x1, .int .i64 x2, .int .i64 x3, .int .u32 x4] 24) = W4 at *
            have hne : g7 ≠ w3.heap.size := by omega
            have hpne := HFA3.out.ne7 HB3.out
            have hpne2 := HFA2.out.ne7 HB3.out
            generalize hgx : w3.heap.size + 1 = gx at *
            generalize hg11 : w3.heap.size = g11 at *
            have HB4 := Lib.hid (HB3.out.mod hmW (fun h => h))
            have HF4 := Lib.hid (HF3.out.mod hmW)
            have HFA4 := Lib.hid (HFA3.out.mod hmW (fun h => h) (fun h => h))
            have HFB4 := Lib.hid (HFA2.out.mod hmW (fun h => h) (fun h => h))
            have HM4 := Lib.hid (HM3.out.trans hmW)
            have HB11 := Lib.hid hB11
            have HBx := Lib.hid hBx
            have HNE : Hid (g7 ≠ g11 ∧ (p ≠ g7 ∧ q ≠ g7) ∧ (p2 ≠ g7 ∧ q2 ≠ g7)) := ⟨hne, hpne, hpne2⟩
            clear HB HF HFA HM HB3 HF3 HFA3 HFA2 HM3 hmW hB11 hBx hne hpne hpne2 hgx hg11 c0 c1 c2 c3 c4 q0 q1 l0 heb
            have x0 := HBx.out.cell 0
            have y1 := HBx.out.cell 1
            have y2 := HBx.out.cell 2
            have y3 := HBx.out.cell 3
            have y4 := HBx.out.cell 4
            have q0 := HB4.out.cell 0
            have q1 := HB4.out.cell 1
            have f0 := HB4.out.frozen 0
            have f1 := HB4.out.frozen 1
            simp only [List.getElem?_toArray, List.getElem?_cons_zero, List.getElem?_cons_succ] at x0 y1 y2 y3 y4 q0 q1
            have l0 := HB4.out.lt
            have lx := HBx.out.lt
            go_upto_if 64 with fail
            go_cut [6, 13] (CutR w g7 gx g11 nw n p q cap p2 q2 cap2 A G a c L #[.bool bx, .int .i64 x1, .int .i64 x2, .int .i64 x3, .int .u32 x4])
            case first =>
              cases bx
              · go_wp2_with fail
                refine (refSet_any nw a n c L x1 x2 x3 x4 _ HF4.out (by have := HN.out; omega) hn2 hn32).mono ?_
                rintro e w5 ⟨a', n', c', L', E, rfl, hF5, hn5, hS5, hm5⟩
                have HS5 := Lib.hid hS5
                have HN5 := Lib.hid hn5
                have HF5 := Lib.hid hF5
                have HB5 := Lib.hid (HB4.out.mod hm5 (fun h => h))
                have HFO5 := Lib.hid (HF4.out.mod hm5)
                have HFA5 := Lib.hid (HFA4.out.mod hm5 (fun h => h) (fun h => h))
                have HFB5 := Lib.hid (HFB4.out.mod hm5 (fun h => h) (fun h => h))
                have HM5 := Lib.hid (HM4.out.trans hm5)
                have HB11' := Lib.hid (HB11.out.mod hm5 (fun h => h))
                have HBx' := Lib.hid (HBx.out.mod hm5 (fun h => h))
                clear hS5 hn5 hF5 hm5 HB4 HF4 HFA4 HFB4 HM4 HB11 HBx x0 y1 y2 y3 y4 q0 q1 f0 f1 l0 lx
                have f0 := HB5.out.frozen 0
                have f1 := HB5.out.frozen 1
                have q0 := HB5.out.cell 0
                have q1 := HB5.out.cell 1
                simp only [List.getElem?_toArray, List.getElem?_cons_zero, List.getElem?_cons_succ] at q0 q1
                go_upto_region 21 with fail
                have hS6 := Six.of HB5.out HF5.out HN5.out HBx'.out HB11'.out HFO5.out HFA5.out HM5.out HNE.out.1 hg7
                have hfb6 : FileAt ((w5.setCell ⟨g7, 0, none⟩ (.int .i64 nw)).setCell ⟨g7, 1, none⟩ (.slice a' n' c')) p2 q2 nw cap2 A G := HFB5.out.mod (((Mod.refl (fun k => k = g7) w5).setHere 0 _).setHere 1 _) HNE.out.2.2.1 HNE.out.2.2.2
                generalize (w5.setCell ⟨g7, 0, none⟩ (.int .i64 nw)).setCell ⟨g7, 1, none⟩ (.slice a' n' c') = W6 at *
                have HS6 := Lib.hid hS6
                have HFB6 := Lib.hid hfb6
                clear hS6 hfb6 HB5 HF5 HFO5 HBx' HB11' HFA5 HFB5 HM5 f0 f1 q0 q1
                have y1 := HS6.out.2.2.2.1.cell 1
                have y2 := HS6.out.2.2.2.1.cell 2
                have y3 := HS6.out.2.2.2.1.cell 3
                have y4 := HS6.out.2.2.2.1.cell 4
                simp only [List.getElem?_toArray, List.getElem?_cons_zero, List.getElem?_cons_succ] at y1 y2 y3 y4
                go_wp2_with fail
                refine (set_any p2 q2 nw cap2 x1 x2 x3 x4 E A G L L' _ HFB6.out HR.out HS5.out).mono ?_
                rintro e w7 ⟨rfl, ⟨A', G', hf7, hR7⟩, hm7⟩
                have H7 : Hid (CutR w g7 gx g11 nw n p q cap p2 q2 cap2 A G a c L #[.bool false, .int .i64 x1, .int .i64 x2, .int .i64 x3, .int .u32 x4] (.int .i64 E) (.int .i64 E) w7) := CutR.of HS6.out HFB6.out hf7 hR7 hm7 ⟨HSZ.out, HPQ3.out, HPQ2.out⟩
                clear hf7 hR7 hm7 HFB6 HS6 y1 y2 y3 y4
                go_wp2
                go_meet
                exact H7.out
              · go_upto_if 67 with fail
                go_cut [14] (fun s14 wx => ∃ mm : Nat, 0 < mm ∧ mm ≤ 16 ∧ s14 = .int .i64 mm ∧ wx = W4)
                case first =>
                  by_cases h31 : 31 < x3
                  · go_wp2
                    go_meet
                    exact ⟨15, by omega, by omega, rfl, rfl⟩
                  · go_wp2
                    go_meet
                    exact ⟨16, by omega, by omega, rfl, rfl⟩
                case rest =>
                  obtain ⟨mm, hm0, hm16, rfl, rfl⟩ := hcut
                  go_upto_region 18 with fail
                  go_cut [13] (fun s13 wx => ∃ E a' n' c' L', s13 = .int .i64 E ∧ PutRel nw x1 x4 mm L L' E ∧ FileAt wx p2 q2 nw cap2 A G ∧ Six w g7 gx g11 nw n p q cap A G a c L #[.bool true, .int .i64 x1, .int .i64 x2, .int .i64 x3, .int .u32 x4] a' n' c' L' wx)
                  case first =>
                    go_region_with (first
                      | (go_at_call 17; go_must (refine (words_ok x4 mm _ hm0 hm16).mono ?_); rintro e wA ⟨gw, cw, rfl, hgw, hwA, hmA⟩; have HWA := Lib.hid hwA; have HMA := Lib.hid hmA; have hb7 := HB4.out.drew.mod hmA (fun h => h); have hbx := HBx.out.drew.mod hmA (fun h => h); have r0 := hb7.cell 0; have r1 := hb7.cell 1; have r2 := hbx.cell 1; have r3 := hb7.frozen 0; have r4 := hb7.frozen 1; simp only [List.getElem?_toArray, List.getElem?_cons_zero, List.getElem?_cons_succ] at r0 r1 r2)
                      | (go_at_call 23; go_must (refine (refPut_any nw a n c L x1 x4 _ mm _ _ (HF4.out.mod ((Mod.refl _ _).drew.trans HMA.out)) (by have := HN.out; omega) hn2 hn32 HWA.out).mono ?_); rintro e wB ⟨a', n', c', L', E, rfl, hFB, hnB, hSB, hmB⟩; have hb7' := hb7.mod hmB (fun h => h); have s0 := hb7'.cell 0; have s1 := hb7'.cell 1; have s3 := hb7'.frozen 0; have s4 := hb7'.frozen 1; simp only [List.getElem?_toArray, List.getElem?_cons_zero, List.getElem?_cons_succ] at s0 s1))
                    all_goals
                      have H5 : Hid (PutRel nw x1 x4 mm L L' E ∧ FileAt wB p2 q2 nw cap2 A G) := ⟨hSB, (HFB4.out.mod ((Mod.refl _ _).drew.trans HMA.out) (fun h => h) (fun h => h)).mod hmB (fun h => h) (fun h => h)⟩
                      have hmAB := ((Mod.refl NoBlk _).drew.trans HMA.out).trans hmB
                      have HS5 : Hid (Six w g7 gx g11 nw n p q cap A G a c L #[.bool true, .int .i64 x1, .int .i64 x2, .int .i64 x3, .int .u32 x4] a' n' c' L' _) := Six.of hb7' hFB hnB (hbx.mod hmB (fun h => h)) (HB11.out.mod hmAB (fun h => h)) (HF4.out.mod hmAB) (HFA4.out.mod hmAB (fun h => h) (fun h => h)) (HM4.out.trans hmAB) HNE.out.1 hg7
                      have hfb6 : FileAt ((wB.setCell ⟨g7, 0, none⟩ (.int .i64 nw)).setCell ⟨g7, 1, none⟩ (.slice a' n' c')) p2 q2 nw cap2 A G := H5.out.2.mod (((Mod.refl (fun k => k = g7) wB).setHere 0 _).setHere 1 _) HNE.out.2.2.1 HNE.out.2.2.2
                      clear hb7 hbx r0 r1 r2 r3 r4 hb7' hFB hmB hSB hmAB
                      go_wp2_with fail
                      go_meet
                      exact ⟨E, a', n', c', L', rfl, H5.out.1, hfb6, HS5.out⟩
                  case rest =>
                    obtain ⟨E, a', n', c', L', rfl, hS5, hfb6, hS6⟩ := hcut
                    clear HB4 HF4 HFA4 HFB4 HM4 HB11 HBx x0 y1 y2 y3 y4 q0 q1 f0 f1 l0 lx
                    have HS5 := Lib.hid hS5
                    have HFB6 := Lib.hid hfb6
                    have HS6 := Lib.hid hS6
                    have HX : Hid (∀ w', Mod NoBlk wc w' → w'.cell? ⟨gx, 1, none⟩ = some (.int .i64 x1) ∧ w'.cell? ⟨gx, 4, none⟩ = some (.int .u32 x4)) := by
                      intro w' hm
                      have hb := HS6.out.2.2.2.1.mod hm (fun h => h)
                      exact ⟨hb.cell 1, hb.cell 4⟩
                    have HX2 : Hid (∀ wm w', Mod NoBlk wc wm → Mod (fun k => k = p2 ∨ k = q2) wm w' → w'.cell? ⟨gx, 1, none⟩ = some (.int .i64 x1) ∧ w'.cell? ⟨gx, 4, none⟩ = some (.int .u32 x4)) := by
                      intro wm w' hm hm'
                      have ex := HFB6.out.neT HS6.out.2.2.2.1 (by decide) (by decide)
                      have hb := (HS6.out.2.2.2.1.mod hm (fun h => h)).mod hm' (by rintro (e | e); exact ex.1 e.symm; exact ex.2 e.symm)
                      exact ⟨hb.cell 1, hb.cell 4⟩
                    have y1 := HS6.out.2.2.2.1.cell 1
                    have y4 := HS6.out.2.2.2.1.cell 4
                    simp only [List.getElem?_toArray, List.getElem?_cons_zero, List.getElem?_cons_succ] at y1 y4
                    clear hS5 hfb6 hS6
                    go_upto_region 19 with fail
                    go_region_held3 (fun w' => w'.cell? ⟨gx, 1, none⟩ = some (.int .i64 x1) ∧ w'.cell? ⟨gx, 4, none⟩ = some (.int .u32 x4))
                      ((first | (refine HX2.out _ _ ?_ hm7; repeat (first | exact hmA | exact Mod.refl _ _ | apply Mod.drew | refine Mod.trans ?_ hmA)) | (refine HX.out _ ?_; repeat (first | exact hmA | exact Mod.refl _ _ | apply Mod.drew | refine Mod.trans ?_ hmA))))
                      (first
                        | (go_at_call 17; refine (words_ok x4 mm _ hm0 hm16).mono ?_; rintro e wA ⟨gw, cw, rfl, hgw, hwA, hmA⟩)
                        | (go_at_call 16; refine (put_any p2 q2 nw cap2 x1 x4 E _ mm _ A G L L' _ (HFB6.out.mod (((Mod.refl _ _).drew).trans hmA) (fun h => h) (fun h => h)) HR.out HS5.out hwA).mono ?_; rintro e w7 ⟨rfl, ⟨A', G', hf7, hR7⟩, hm7⟩))
                    all_goals
                      have hmA' := (Mod.refl NoBlk wc).drew.trans hmA
                      have H7 : Hid (CutR w g7 gx g11 nw n p q cap p2 q2 cap2 A G a c L #[.bool true, .int .i64 x1, .int .i64 x2, .int .i64 x3, .int .u32 x4] (.int .i64 E) (.int .i64 E) w7) := CutR.of (HS6.out.mod hmA') (HFB6.out.mod hmA' (fun h => h) (fun h => h)) hf7 hR7 hm7 ⟨HSZ.out, HPQ3.out, HPQ2.out⟩
                      clear hf7 hR7 hm7 HFB6 HS6 y1 y4 hmA hmA' hwA
                      go_wp2
                      go_meet
                      exact H7.out
            case rest =>
              clear x0 y1 y2 y3 y4 q0 q1 f0 f1 l0 lx HB4 HF4 HFA4 HFB4 HM4 HB11 HBx
              obtain ⟨E, a', n', c', L', A', G', rfl, rfl, hf2, hR', hB, hF', hn', hBx, hB11, hFo, hfo, hm⟩ := hcut
              have HB5 := Lib.hid hB
              have HF5 := Lib.hid hF'
              have HN5 := Lib.hid hn'
              have HFB5 := Lib.hid hf2
              have HR5 := Lib.hid hR'
              have HBx5 := Lib.hid hBx
              have HB11 := Lib.hid hB11
              have HFO5 := Lib.hid hFo
              have HFA5 := Lib.hid hfo
              have HM5 := Lib.hid hm
              clear hB hF' hn' hf2 hR' hBx hB11 hFo hfo hm
              have hEE : (E != E) = false := by simp
              have y1 := HBx5.out.cell 1
              have y2 := HBx5.out.cell 2
              have y3 := HBx5.out.cell 3
              simp only [List.getElem?_toArray, List.getElem?_cons_zero, List.getElem?_cons_succ] at y1 y2 y3
              go_wp2_with fail
              refine (get_any p2 q2 nw cap2 x1 x2 x3 A' G' L' _ HFB5.out HR5.out).mono ?_
              rintro e w6 ⟨rfl, hm6⟩
              have HB6 := Lib.hid (HB5.out.mod hm6 (fun h => h))
              have HBx6 := Lib.hid (HBx5.out.mod hm6 (fun h => h))
              have HM6 := Lib.hid hm6
              clear y1 y2 y3 hm6
              have y1 := HBx6.out.cell 1
              have y2 := HBx6.out.cell 2
              have y3 := HBx6.out.cell 3
              have q0 := HB6.out.cell 0
              have q1 := HB6.out.cell 1
              simp only [List.getElem?_toArray, List.getElem?_cons_zero, List.getElem?_cons_succ] at y1 y2 y3 q0 q1
              go_wp2_with fail
              refine (refGet_any nw a' n' c' L' x1 x2 x3 _ (HF5.out.mod HM6.out) (by have := HN.out; have := HN5.out; omega) hn2 hn32).mono ?_
              rintro e w7 ⟨rfl, hm7⟩
              have HB7 := Lib.hid (HB6.out.mod hm7 (fun h => h))
              have HM7 := Lib.hid (HM6.out.trans hm7)
              clear y1 y2 y3 q0 q1 hm7 HB6 HBx6 HM6
              have q0 := HB7.out.cell 0
              have q1 := HB7.out.cell 1
              simp only [List.getElem?_toArray, List.getElem?_cons_zero, List.getElem?_cons_succ] at q0 q1
              generalize gotV nw L' x1 x2 x3 = v at *
              generalize gotE nw x1 x2 x3 = ev at *
              have hvv : (v != v) = false := by simp
              have hev : (ev != ev) = false := by simp
              go_wp2_with fail
              refine (same_ok p2 q2 nw cap2 A' G' a' n' c' L' _ (HFB5.out.mod HM7.out (fun h => h) (fun h => h)) (HF5.out.mod HM7.out) HR5.out (by have := HN.out; have := HN5.out; omega)).mono ?_
              rintro e w8 ⟨rfl, hm8⟩
              have HM8 := Lib.hid (HM7.out.trans hm8)
              clear q0 q1 hm8 HB7 HM7
              have HB11' := Lib.hid (HB11.out.mod HM8.out (fun h => h))
              have q0 := HB11'.out.cell 0
              have q1 := HB11'.out.cell 1
              simp only [List.getElem?_toArray, List.getElem?_cons_zero, List.getElem?_cons_succ] at q0 q1
              go_wp2_with fail
              refine (same_ok p q nw cap A G a n c L _ (HFA5.out.mod HM8.out (fun h => h) (fun h => h)) (HFO5.out.mod HM8.out) HR.out (by have := HN.out; omega)).mono ?_
              rintro e w9 ⟨rfl, hm9⟩
              have HM9 := Lib.hid (HM8.out.trans hm9)
              clear q0 q1 hm9 HM8 HB11'
              go_wp2
              go_roundw
              case measure => simp [intOf]; omega
              case rel =>
                have hM59 := HM5.out.trans HM9.out
                refine ⟨k + 1, by omega, by omega, by go_num, p2, q2, cap2, A', G', a', n', c', L', rfl, HB5.out.mod HM9.out (fun h => h), HF5.out.mod HM9.out, HR5.out, ?_, HFB5.out.mod HM9.out (fun h => h) (fun h => h), ?_, ?_, hg7, hM59⟩
                · have := HN.out; have := HN5.out; omega
                · have := HPQ2.out; have := HSZ.out; omega
                · have := HPQ2.out; have := HSZ.out; omega
          · go_wp2_with fail
            refine (head_ok _).mono ?_
            obtain ⟨p, q, cap, A, G, a, n, c, L, rfl, hB, hF, hR, hn, hf, hp, hq, _, hm⟩ := HP.out
            rintro e w2 ⟨rfl, hm2⟩
            go_wp2
            go_ret
            exact ⟨rfl, hm.trans hm2⟩
        · go_wp2_with fail
          refine (head_ok _).mono ?_
          obtain ⟨p, q, cap, A, G, a, n, c, L, rfl, hB, hF, hR, hn, hf, hp, hq, _, hm⟩ := HP.out
          rintro e w2 ⟨rfl, hm2⟩
          go_wp2
          go_ret
          exact ⟨rfl, hm.trans hm2⟩
end Go.Proofs.Ytjaapempahigaaa
