/- The register file: Copy. -/
import Derived.Test.YtjaapempahigaaaFile5
import Derived.Deep.AppendLies
import Derived.Deep.WholeRow
namespace Go.Proofs.Ytjaapempahigaaa
open Go.RowKit

theorem size58 : (Try.prog.info? 58).map (·.size) = some 138 := by kernel_rfl

theorem file_cells {cs : Array Value} {nw q cap : Nat} {G : Nat → Int} (hs : cs.size = 138) (h0 : cs[0]? = some (.int .i64 nw)) (h1 : cs[1]? = some (.slice (some ⟨q, 0, none⟩) (16 * nw) cap))
    (hg : ∀ i, i < 136 → cs[2 + i]? = some (.int .u32 (G i))) : cs.all (·.oneCell') = true := by
  rw [Array.all_eq_true]
  intro i hi
  have hgi : cs[i]? = some cs[i] := Array.getElem?_eq_getElem hi
  by_cases e0 : i = 0
  · subst e0; rw [h0] at hgi; rw [← Option.some.inj hgi]; rfl
  · by_cases e1 : i = 1
    · subst e1; rw [h1] at hgi; rw [← Option.some.inj hgi]; rfl
    · have := hg (i - 2) (by omega)
      rw [show 2 + (i - 2) = i from by omega, hgi] at this
      injection this with this
      rw [this]; rfl

set_option maxRecDepth 100000 in
set_option maxHeartbeats 400000 in
theorem copy_ok (p q nw cap : Nat) (A G : Nat → Int) (w : World) (hf : FileAt w p q nw cap A G) :
    Calls Try.prog 22 #[.pointer (some ⟨p, 0, none⟩)] w
      fun e w' => ∃ p' q' cap', e = .returned (.pointer (some ⟨p', 0, none⟩)) ∧ FileAt w' p' q' nw cap' A G ∧ w.heap.size ≤ p' ∧ w.heap.size ≤ q' ∧ Mod NoBlk w w' := by
  have h2 := hf.n2
  have h32 := hf.n32
  have hcap := hf.hcap
  have hcapm := hf.hcapm
  have hc0 := hf.c0
  have hc1 := hf.c1
  have hlp := hf.lp
  have hlq := hf.lq
  obtain ⟨cs, hbp, hs0, hs1, hs2, hsg⟩ := hf.bp
  have KB : Hid (w.heap[p]? = some (.cells cs 58 (0, 0))) := hbp
  have KS : Hid ((Try.prog.info? 58).map (·.size) = some cs.size) := by rw [hs0]; exact size58
  have KZ : Hid (Try.zeroCells58.size = cs.size) := by show _ = _; rw [hs0]; exact zero58_size
  have KA : Hid (cs.all (·.oneCell') = true) := file_cells hs0 hs1 hs2 hsg
  obtain ⟨i0, hi, hz0, hz1, hz2⟩ := info_parts info22
  have HI : Hid (Try.prog.info? 22 = some i0) := hi
  have HZ0 : Hid (i0.zero = some (.int .u32 0)) := hz0
  have HZ1 : Hid (i0.size = 1) := hz1
  have HZ2 : Hid (i0.bytes = 4) := hz2
  obtain ⟨ls, hls⟩ : ∃ ls, ls = (List.range (16 * nw)).map fun i => Value.int .u32 (A i) := ⟨_, rfl⟩
  have hlen : ls.length = 16 * nw := by rw [hls]; simp
  have K1 : Hid (ls.length = 16 * nw * 1) := by show _ = _; rw [hlen]; omega
  have K4 : Hid (∀ v ∈ ls, v.oneCell' = true) := by
    intro v hv; rw [hls] at hv; simp at hv; obtain ⟨i, _, rfl⟩ := hv; rfl
  have hm2 : Mod NoBlk w ((w.alloc (.cells cs 58)).alloc (.cells #[] 22)) := ((Mod.refl NoBlk w).alloc _).alloc _
  have K2 : Hid (∀ j v, ls[j]? = some v → ((w.alloc (.cells cs 58)).alloc (.cells #[] 22)).cell? ((⟨q, 0, none⟩ : Addr).add j) = some v) := by
    intro j v hv
    have hj : j < 16 * nw := by have := (List.getElem?_eq_some_iff.1 hv).1; omega
    rw [hls, List.getElem?_map, List.getElem?_range hj] at hv
    simp at hv; subst hv
    rw [add_off]
    exact (hf.mod hm2 (fun h => h) (fun h => h)).cw _ hj
  have K3 : Hid (((w.alloc (.cells cs 58)).alloc (.cells #[] 22)).ownsRow w.heap.size 22 1 (.slice (some ⟨w.heap.size + 1, 0, none⟩) 0 0) 0 []) := by
    have := World.ownsRow_made (base := w.heap.size) (e := 22) (size := 1) (w.alloc (.cells cs 58)) #[] 0 (by simp) (by simp) rfl
    show World.ownsRow _ _ _ _ _ _ _
    simpa using this
  have KC : Hid (cs[1]? = some (.slice (some ⟨q, 0, none⟩) (16 * nw) cap)) := hs2
  have K5 : Hid (∀ w1, ((w.alloc (.cells cs 58)).alloc (.cells #[] 22)).grownBy w1 (some (w.heap.size + 1)) → Blk w1 w.heap.size 58 cs) := by
    intro w1 hg
    have hb : Blk ((w.alloc (.cells cs 58)).alloc (.cells #[] 22)) w.heap.size 58 cs := (Blk.new w 58 cs).alloc _
    exact (hg.block _ hb.lt (by simp)).trans hb
  have K6 : Hid (∀ w1 g c, ((w.alloc (.cells cs 58)).alloc (.cells #[] 22)).grownBy w1 (some (w.heap.size + 1)) → w1.ownsRow w.heap.size 22 1 (.slice (some ⟨g, 0, none⟩) (16 * nw) c) (16 * nw) ls → w.heap.size ≤ g ∧
      FileAt (w1.setCell ⟨w.heap.size, 1, none⟩ (.slice (some ⟨g, 0, none⟩) (16 * nw) c)) w.heap.size g nw c A G ∧ Mod NoBlk w (w1.setCell ⟨w.heap.size, 1, none⟩ (.slice (some ⟨g, 0, none⟩) (16 * nw) c))) := by
    intro w1 g c hg hown
    have hb := K5.out w1 hg
    obtain ⟨_, hv⟩ := hown
    rcases hv with ⟨hv, _⟩ | ⟨g', c', cur, hv, hbg, hgb, hle, hmx, hsz, htk⟩
    · cases hv
    · cases hv
      have hne : g ≠ w.heap.size := by
        rintro rfl
        have := (hb.uniq (show Blk w1 w.heap.size 22 cur from hgb)).1
        exact absurd this (by decide)
      have hbg' : Blk w1 g 22 cur := hgb
      refine ⟨hbg, ⟨h2, h32, hle, by unfold maxLen at hmx; omega, ⟨_, hb.set_ 1 _, by simpa using hs0, ?_, ?_, ?_⟩, ⟨cur, hbg'.far hne _, by omega, ?_⟩⟩, (hm2.grown hg (fun k e hk => by cases e; omega)).setCell (fun h => by simp at h) _⟩
      · rw [Array.getElem?_setIfInBounds_ne (by omega)]; exact hs1
      · rw [Array.getElem?_setIfInBounds_self_of_lt (by omega)]
      · intro i hi
        rw [Array.getElem?_setIfInBounds_ne (by omega)]; exact hsg i hi
      · intro i hi
        have e : ls[i]? = some (.int .u32 (A i)) := by rw [hls]; simp [hi]
        rw [← htk, List.getElem?_take_of_lt (by omega), Array.getElem?_toList] at e
        exact e
  have HF := Lib.hid hf
  clear hf hbp hs0 hs1 hs2 hsg hi hz0 hz1 hz2 hls hlen hm2
  go_enter Try.func22, Try.ntmps22
  go_wp2_with (first | (go_at_call 44; refine (none_yes _ _ _ (by omega) hc0).mono ?_; rintro e w' ⟨rfl, rfl⟩) | (refine wpList_load_row rfl 58 (.tmp 7) rfl p rfl 58 cs (0, 0) _ KB.out Try.underlying58 rfl KS.out ?_) | (refine wpList_store_row rfl 58 (.tmp 3) (.tmp 8) rfl w.heap.size cs rfl rfl 58 Try.zeroCells58 (heap_alloc_last w _) KS.out KZ.out KA.out ?_; rw [World.setRow_alloc_new]) | (at_builtin; refine wpList_append_lies _ rfl _ _ 35 rfl w.heap.size 22 i0 (.int .u32 0) 1 4 Try.underlying35 HI.out HZ0.out HZ1.out HZ2.out rfl (by decide) (.slice (some ⟨w.heap.size + 1, 0, none⟩) 0 0) 0 [] rfl K3.out ⟨q, 0, none⟩ (16 * nw) cap ls rfl K1.out K2.out K4.out (by omega) (by unfold maxLen; omega) (by omega) (by simp; omega) _ rfl ?_; intro g c w1 hown hgrow _ _; rw [Nat.zero_add, List.nil_append] at hown; have hown' := Lib.hid hown; have hgrow' := Lib.hid hgrow; have hcc := (K5.out w1 hgrow).cell 1; have hfz := (K5.out w1 hgrow).frozen 1; rw [KC.out] at hcc; clear hown hgrow))
  go_ret
  obtain ⟨h1, h2, h3⟩ := K6.out w1 g c hgrow'.out hown'.out
  exact ⟨w.heap.size, g, c, rfl, h2, Nat.le_refl _, h1, h3⟩

end Go.Proofs.Ytjaapempahigaaa
