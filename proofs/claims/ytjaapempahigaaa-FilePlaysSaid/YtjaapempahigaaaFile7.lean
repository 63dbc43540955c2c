/- words; Same. -/
import Derived.Test.YtjaapempahigaaaFile6
import Derived.LoopTactic
namespace Go.Proofs.Ytjaapempahigaaa
open Go.RowKit

def wordV (x : Int) (i : Nat) : Int := (x + i * 7) % 4294967296
def wordsL (x : Int) (n : Nat) : List Value := (List.range n).map fun i => .int .u32 (wordV x i)
theorem wordsL_succ (x : Int) (n : Nat) : wordsL x (n + 1) = wordsL x n ++ [.int .u32 (wordV x n)] := by
  simp [wordsL, List.range_succ]

set_option maxHeartbeats 400000 in
theorem words_ok (x : Int) (n : Nat) (w : World) (hn : 0 < n) (hn2 : n ≤ 16) :
    Calls Try.prog 17 #[.int .u32 x, .int .i64 n] w
      fun e w' => ∃ g c, e = .returned (.slice (some ⟨g, 0, none⟩) n c) ∧ w.heap.size ≤ g ∧ WordsAt w' g n (wordV x) ∧ Mod NoBlk w w' := by
  obtain ⟨i0, hi, hz0, hz1, hz2⟩ := info_parts info22
  have HI : Hid (Try.prog.info? 22 = some i0) := hi
  have HZ0 : Hid (i0.zero = some (.int .u32 0)) := hz0
  have HZ1 : Hid (i0.size = 1) := hz1
  have HZ2 : Hid (i0.bytes = 4) := hz2
  clear hi hz0 hz1 hz2
  go_enter Try.func17, Try.ntmps17
  go_wp2
  go_loopw [5, 6] (fun v i wr => ∃ k : Nat, k ≤ n ∧ i = .int .i64 k ∧ wr.ownsRow w.heap.size 22 1 v k (wordsL x k) ∧ Mod NoBlk w wr) (fun _ i _ => n - (intOf i).toNat)
  case atStart => exact ⟨0, Nat.zero_le _, rfl, World.ownsRow_nil _ _ _ _, Mod.refl _ _⟩
  case round =>
    obtain ⟨k, hk, rfl, hown, hm⟩ := hrel
    by_cases hlt : k < n
    · have hsz := hm.size
      have HO := Lib.hid hown
      have HM := Lib.hid hm
      clear hown hm
      go_wp2_with (at_builtin; go_must (refine wpList_append_lies _ rfl _ _ 35 rfl w.heap.size 22 i0 (.int .u32 0) 1 4 Try.underlying35 HI.out HZ0.out HZ1.out HZ2.out rfl (by decide) u5 k (wordsL x k) rfl (HO.out.alloc _) ⟨wr.heap.size, 0, none⟩ 1 1 [_] rfl rfl (cell_one_new _ _ _) (by simp [Value.oneCell']) (by omega) (by unfold maxLen; omega) (by omega) (by simp; omega) _ rfl ?_); intro g c w1 hown hgrow _ _; have hown' := Lib.hid hown; have hgrow' := Lib.hid hgrow; clear hown hgrow)
      refine ⟨⟨k + 1, by omega, by go_num, by rw [wordsL_succ]; exact hown'.out, (HM.out.alloc _).grown hgrow'.out (fun j e hj => by have := (HO.out.lt j e).1; omega)⟩, by simp [intOf]; omega⟩
    · obtain rfl : k = n := by omega
      obtain ⟨g, c, rfl, hg, hglt⟩ := hown.form hn
      have HO := Lib.hid hown
      have HM := Lib.hid hm
      clear hown hm
      go_wp2
      go_ret
      refine ⟨g, c, rfl, hg, ?_, HM.out⟩
      obtain ⟨_, hv⟩ := HO.out
      rcases hv with ⟨hv, _⟩ | ⟨g', c', cur, hv, hbg, hgb, hle, hmx, hsz, htk⟩
      · cases hv
      · cases hv
        refine ⟨cur, hgb, by omega, fun i hi => ?_⟩
        have e : (wordsL x k)[i]? = some (.int .u32 (wordV x i)) := by simp [wordsL, hi]
        rw [← htk, List.getElem?_take_of_lt (by omega), Array.getElem?_toList] at e
        exact e

set_option maxHeartbeats 400000 in
theorem same_yes (n g c g' c' : Nat) (l : Nat → Int) (w : World) (hn : n ≤ 16) (h1 : WordsAt w g n l) (h2 : WordsAt w g' n l) :
    Calls Try.prog 19 #[.slice (some ⟨g, 0, none⟩) n c, .slice (some ⟨g', 0, none⟩) n c'] w
      fun e w' => e = .returned (.bool true) ∧ Mod NoBlk w w' := by
  have H1 := Lib.hid h1
  have H2 := Lib.hid h2
  clear h1 h2
  have hnn : ((n : Int) != (n : Int)) = false := by simp
  go_enter Try.func19, Try.ntmps19
  go_wp2
  go_loopw [5] (fun i wr => ∃ k : Nat, k ≤ n ∧ i = .int .i64 k ∧ Mod NoBlk w wr) (fun i _ => n - (intOf i).toNat)
  case atStart => exact ⟨0, Nat.zero_le _, rfl, Mod.refl _ _⟩
  case round =>
    obtain ⟨k, hk, rfl, hm⟩ := hrel
    by_cases hlt : k < n
    · have hc1 := (H1.out.mod hm (fun h => h)).cell k hlt
      have hc2 := (H2.out.mod hm (fun h => h)).cell k hlt
      have HM := Lib.hid hm
      have e1 : (l k != l k) = false := by simp
      generalize l k = y at *
      clear hm
      go_wp2
      go_quiet (fail)
      go_wp2
      exact ⟨⟨k + 1, by omega, by go_num, HM.out.drewN nq⟩, by simp [intOf]; omega⟩
    · obtain rfl : k = n := by omega
      have HM := Lib.hid hm
      clear hm
      go_wp2
      go_ret
      exact ⟨rfl, HM.out⟩

end Go.Proofs.Ytjaapempahigaaa
