/- The register file: Window. -/
import Derived.Test.YtjaapempahigaaaFile4
namespace Go.Proofs.Ytjaapempahigaaa
open Go.RowKit

theorem at_ok' (p q nw cap window bank reg : Nat) (A G : Nat → Int) (w : World) (hf : FileAt w p q nw cap A G) (hw : window < nw) (hb : bank < 17) (hr : reg < 32) :
    Calls Try.prog 42 #[.pointer (some ⟨p, 0, none⟩), .int .i64 window, .int .i64 bank, .int .i64 reg, .func (.func 43) #[.pointer (some ⟨p, 0, none⟩)] #[]] w
      fun e w' => e = .returned (.tuple #[.pointer (some (loc p q nw window bank reg)), .int .i64 0]) ∧ FileAt w' p q nw cap A G ∧ Mod NoBlk w w' :=
  (at_ok p q nw cap window bank reg A G w hf hw hb hr).mono fun _ _ ⟨he, n, hn⟩ => ⟨he, by rw [hn]; exact hf.drewN n, by rw [hn]; exact (Mod.refl _ w).drewN n⟩

set_option maxHeartbeats 400000 in
theorem window_ok (p q nw cap window : Nat) (A G : Nat → Int) (w : World) (hf : FileAt w p q nw cap A G) (hw : window < nw) :
    Calls Try.prog 18 #[.pointer (some ⟨p, 0, none⟩), .int .i64 window] w
      fun e w' => ∃ g, e = .returned (.tuple #[.slice (some ⟨g, 0, none⟩) 16 16, .int .i64 0]) ∧ w.heap.size ≤ g ∧ WordsAt w' g 16 (fun i => A (16 * window + i)) ∧ Mod NoBlk w w' := by
  have hmk := fun W => Go.run_make_row' (P := Try.prog) 35 22 (.int .u32 0) 4 Try.underlying35 info22 rfl .i64 .i64 16 (by omega) (by omega) W
  rw [show ((16 : Nat) : Int) = 16 from rfl] at hmk
  obtain ⟨mc, hmc⟩ : ∃ mc, mc = madeCells #[Value.int .u32 0] 16 := ⟨_, rfl⟩
  rw [← hmc] at hmk
  have hmcs : mc.size = 16 := by rw [hmc]; simp [madeCells]
  have HF := Lib.hid hf
  have hmcs' := Lib.hid hmcs
  clear hf hmc hmcs
  go_enter Try.func18, Try.ntmps18
  go_wp2_with fail
  refine (at_ok' p q nw cap window 0 0 A G _ HF.out hw (by omega) (by omega)).mono ?_
  rintro e w1 ⟨rfl, hf1, hm1⟩
  have h32 := hf1.n32
  have hcap := hf1.hcap
  have hcapm := hf1.hcapm
  have hc1 := hf1.c1
  have hlp := hf1.lp
  have hlq := hf1.lq
  obtain ⟨ls, hls⟩ : ∃ ls, ls = (List.range 16).map fun i => Value.int .u32 (A (16 * window + i)) := ⟨_, rfl⟩
  have hlen : ls.length = 16 := by rw [hls]; simp
  have K1 : Hid (ls.length = Nat.min (16 * nw - 16 * window) 16) := by show _ = _; rw [hlen]; simp [Nat.min_def]; omega
  have K2 : Hid (∀ j v, ls[j]? = some v → (w1.alloc (.cells mc 22)).cell? ((⟨q, 16 * window, none⟩ : Addr).add j) = some v) := by
    intro j v hv
    have hj : j < 16 := by have := (List.getElem?_eq_some_iff.1 hv).1; omega
    rw [hls, List.getElem?_map, List.getElem?_range hj] at hv
    simp at hv; subst hv
    rw [add_off']
    exact ((hf1.mod ((Mod.refl NoBlk w1).alloc _) (fun h => h) (fun h => h)).cw _ (by omega))
  have k3 : 0 + ls.length ≤ mc.toList.length := by rw [hlen, Array.length_toList, hmcs'.out]; omega
  have K3 := Lib.hid k3
  have K4 : Hid (∀ v ∈ ls, v.oneCell' = true) := by
    intro v hv; rw [hls] at hv; simp at hv; obtain ⟨i, _, rfl⟩ := hv; rfl
  have K5 : Hid (Blk (w1.alloc (.cells mc 22)) w1.heap.size 22 mc.toList.toArray) := by show Blk _ _ _ _; simpa using Blk.new w1 22 mc
  have K6 : Hid (∀ w', Hid (Blk w' w1.heap.size 22 (splice mc.toList 0 ls).toArray) → WordsAt w' w1.heap.size 16 (fun i => A (16 * window + i))) := by
    intro w' h1
    refine ⟨_, h1.out, ?_, ?_⟩
    · rw [List.size_toArray, length_splice _ _ _ k3, Array.length_toList, hmcs'.out]; omega
    · intro i hi
      rw [List.getElem?_toArray, splice_get _ _ _ k3, if_pos (by omega), hls]
      simp [hi]
  clear hls hlen k3
  go_wp2_with (refine wpList_copy_mod rfl (.tmp 21) (.tmp 28) 35 35 rfl 22 Try.underlying35 size22 _ _ _ _ _ _ _ rfl rfl mc.toList 22 K5.out ls K1.out K2.out K3.out K4.out ?_; intro w2 hb2 hm2)
  go_ret2
  exact ⟨w1.heap.size, rfl, hm1.size, K6.out w2 hb2, (hm1.alloc _).trans' hm2 (fun i hi e => absurd e (by have := hm1.size; omega))⟩

end Go.Proofs.Ytjaapempahigaaa
