/- FileNone: the walk. -/
import Derived.Test.YtjaapempahigaaaFile8
namespace Go.Proofs.Ytjaapempahigaaa
open Go.RowKit

theorem zero58_0 : Try.zeroCells58[0]? = some (.int .i64 0) := by rw [zero58, Array.getElem?_append_left (by simp)]; rfl

theorem noneBlocks_zero (w : World) : NoFile ((w.alloc (.cells Try.zeroCells58 58)).alloc (.cells #[.pointer none, .pointer (some ⟨w.heap.size, 0, none⟩)] 25)) (some ⟨w.heap.size, 0, none⟩) :=
  NoFile.zero _ (by
    have hb : Blk ((w.alloc (.cells Try.zeroCells58 58)).alloc (.cells #[.pointer none, .pointer (some ⟨w.heap.size, 0, none⟩)] 25)) w.heap.size 58 Try.zeroCells58 := (Blk.new w 58 _).alloc _
    rw [hb.cell]; exact zero58_0)

set_option maxRecDepth 100000 in
set_option maxHeartbeats 1000000 in
theorem fileNone_walk (a0 a1 : Int) (w : World) :
    Calls Try.prog 6 #[.int .i64 a0, .int .i64 a1] w fun e w' => e = .returned (.bool true) ∧ Mod NoBlk w w' := by
  have HN := Lib.hid (noneBlocks_zero w)
  go_enter Try.func6, Try.ntmps6
  go_wp2
  go_loop [7] (fun i => i = .int .i64 0 ∨ i = .int .i64 1 ∨ i = .int .i64 2) (fun i => 2 - (intOf i).toNat)
  case atStart => exact .inl rfl
  case round =>
    rcases hrel with rfl | rfl | rfl
    · go_wp2_with (first | (go_at_call 14; refine (get_none _ _ _ _ _ NoFile.nil).mono ?_; rintro e w' ⟨rfl, rfl⟩) | (go_at_call 18; refine (window_none _ _ _ NoFile.nil).mono ?_; rintro e w' ⟨rfl, rfl⟩) | (go_at_call 13; refine (set_none _ _ _ _ _ _ NoFile.nil).mono ?_; rintro e w' ⟨rfl, rfl⟩) | (go_at_call 16; refine (put_none _ _ _ _ NoFile.nil).mono ?_; rintro e w' ⟨rfl, rfl⟩) | (go_at_call 20; refine (nw_none _ _ NoFile.nil).mono ?_; rintro e w' ⟨rfl, rfl⟩) | (go_at_call 22; refine (copy_none _ _ NoFile.nil).mono ?_; rintro e w' ⟨rfl, rfl⟩))
      go_round
      case rel => exact .inr (.inl rfl)
      case measure => simp [intOf]
    · go_wp2_with (first | (go_at_call 14; refine (get_none _ _ _ _ _ HN.out).mono ?_; rintro e w' ⟨rfl, rfl⟩) | (go_at_call 18; refine (window_none _ _ _ HN.out).mono ?_; rintro e w' ⟨rfl, rfl⟩) | (go_at_call 13; refine (set_none _ _ _ _ _ _ HN.out).mono ?_; rintro e w' ⟨rfl, rfl⟩) | (go_at_call 16; refine (put_none _ _ _ _ HN.out).mono ?_; rintro e w' ⟨rfl, rfl⟩) | (go_at_call 20; refine (nw_none _ _ HN.out).mono ?_; rintro e w' ⟨rfl, rfl⟩) | (go_at_call 22; refine (copy_none _ _ HN.out).mono ?_; rintro e w' ⟨rfl, rfl⟩))
      go_round
      case rel => exact .inr (.inr rfl)
      case measure => simp [intOf]
    · go_wp2_with (go_at_call 15; refine (head_ok _).mono ?_; rintro e w1 ⟨rfl, hm⟩)
      go_ret
      exact ⟨rfl, (((Mod.refl NoBlk w).alloc _).alloc _).trans' hm (fun _ _ h => h)⟩

end Go.Proofs.Ytjaapempahigaaa
