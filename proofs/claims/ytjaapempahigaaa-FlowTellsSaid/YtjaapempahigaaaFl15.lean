/- The document's function; the calls whose answers it fixes. -/
import Derived.Test.YtjaapempahigaaaFl14
namespace Go.Proofs.Ytjaapempahigaaa
open Go.RowKit

def exSucc (b : Nat) : List Nat := if b = 0 then [1, 2] else if b = 1 then [3] else if b = 2 then [3] else if b = 3 then [1, 4] else []

def insC (op l1 l2 : Int) : Array Value := #[.int .u8 op, .int .i64 0, .int .i64 0, .int .i64 0, .int .u32 0, .int .i64 0, .slice none 0 0, .int .i64 l1, .int .i64 l2]
theorem insC_at {w : World} {g : Nat} {op l1 l2 : Int} (h : Blk w g 83 (insC op l1 l2)) : InsAt w ⟨g, 0, none⟩ op l1 l2 :=
  ⟨h.lt, 0, 0, 0, 0, 0, none, 0, 0, h.cell 0, h.cell (0 + 1), h.cell (0 + 2), h.cell (0 + 3), h.cell (0 + 4), h.cell (0 + 5), h.cell (0 + 6), h.cell (0 + 7), h.cell (0 + 8)⟩
theorem blockC_at {w : World} {g gi N : Nat} {nm : ByteArray} {cs : Array Value} {op l1 l2 : Int} (b : Nat) (h : Blk w g 81 cs) (h0 : cs[b * 2]? = some (.string nm)) (h1 : cs[b * 2 + 1]? = some (.slice (some ⟨gi, 0, none⟩) 1 1)) (hi : Blk w gi 83 (insC op l1 l2)) :
    BlockAt w ((⟨g, 0, none⟩ : Addr).add (b * 2)) N (succOf N op l1 l2) := by
  rw [add_head]
  exact ⟨h.lt, nm, _, 1, 1, (h.cell _).trans h0, (h.cell _).trans h1, by omega, .inr ⟨⟨gi, 0, none⟩, op, l1, l2, rfl, by omega, by rw [show (1 - 1) * 9 = 0 from rfl, add_head]; exact insC_at hi, rfl⟩⟩

set_option maxRecDepth 100000 in
set_option maxHeartbeats 2000000 in
theorem example_ok (w : World) :
    Calls Try.prog 48 #[] w fun e w' => ∃ g, e = .returned (fnV ⟨#[]⟩ 0 0 (some ⟨g, 0, none⟩) 5 5) ∧ GraphAt w' (some ⟨g, 0, none⟩) 5 exSucc ∧ Mod NoBlk w w' := by
  go_enter Try.func48, Try.ntmps48
  go_wp2
  refine bodyPost_ret (v := fnV ⟨#[]⟩ 0 0 (some ⟨w.heap.size + 1 + 1 + 1 + 1 + 1 + 1, 0, none⟩) 5 5) (by simp [results, Try.results48, go_sem]) rfl ⟨_, rfl, ⟨fun b hb => ⟨_, rfl, ?_⟩, fun b hb => ?_⟩, (((((((Mod.refl _ w).alloc _).alloc _).alloc _).alloc _).alloc _).alloc _).alloc _⟩
  · have b1 := (((((Blk.new (w.alloc (.cells #[.string ⟨#[]⟩, .int .i64 0, .int .i64 0, .slice (some ⟨w.heap.size + 1 + 1 + 1 + 1 + 1 + 1, 0, none⟩) 5 5] 63)) 83 (insC 9 1 2)).alloc (.cells (insC 8 3 0) 83)).alloc (.cells (insC 8 3 0) 83)).alloc (.cells (insC 9 1 4) 83)).alloc (.cells (insC 10 0 0) 83))
    have b2 := ((((Blk.new ((w.alloc (.cells #[.string ⟨#[]⟩, .int .i64 0, .int .i64 0, .slice (some ⟨w.heap.size + 1 + 1 + 1 + 1 + 1 + 1, 0, none⟩) 5 5] 63)).alloc (.cells (insC 9 1 2) 83)) 83 (insC 8 3 0)).alloc (.cells (insC 8 3 0) 83)).alloc (.cells (insC 9 1 4) 83)).alloc (.cells (insC 10 0 0) 83))
    have b3 := (((Blk.new (((w.alloc (.cells #[.string ⟨#[]⟩, .int .i64 0, .int .i64 0, .slice (some ⟨w.heap.size + 1 + 1 + 1 + 1 + 1 + 1, 0, none⟩) 5 5] 63)).alloc (.cells (insC 9 1 2) 83)).alloc (.cells (insC 8 3 0) 83)) 83 (insC 8 3 0)).alloc (.cells (insC 9 1 4) 83)).alloc (.cells (insC 10 0 0) 83))
    have b4 := ((Blk.new ((((w.alloc (.cells #[.string ⟨#[]⟩, .int .i64 0, .int .i64 0, .slice (some ⟨w.heap.size + 1 + 1 + 1 + 1 + 1 + 1, 0, none⟩) 5 5] 63)).alloc (.cells (insC 9 1 2) 83)).alloc (.cells (insC 8 3 0) 83)).alloc (.cells (insC 8 3 0) 83)) 83 (insC 9 1 4)).alloc (.cells (insC 10 0 0) 83))
    have b5 := (Blk.new (((((w.alloc (.cells #[.string ⟨#[]⟩, .int .i64 0, .int .i64 0, .slice (some ⟨w.heap.size + 1 + 1 + 1 + 1 + 1 + 1, 0, none⟩) 5 5] 63)).alloc (.cells (insC 9 1 2) 83)).alloc (.cells (insC 8 3 0) 83)).alloc (.cells (insC 8 3 0) 83)).alloc (.cells (insC 9 1 4) 83)) 83 (insC 10 0 0))
    unfold insC at b1 b2 b3 b4 b5
    have hsz : ((((((w.alloc (.cells #[.string ⟨#[]⟩, .int .i64 0, .int .i64 0, .slice (some ⟨w.heap.size + 1 + 1 + 1 + 1 + 1 + 1, 0, none⟩) 5 5] 63)).alloc (.cells (insC 9 1 2) 83)).alloc (.cells (insC 8 3 0) 83)).alloc (.cells (insC 8 3 0) 83)).alloc (.cells (insC 9 1 4) 83)).alloc (.cells (insC 10 0 0) 83)).heap.size = w.heap.size + 1 + 1 + 1 + 1 + 1 + 1 := by simp only [World.size_alloc]
    unfold insC at hsz
    simp only [World.size_alloc] at b1 b2 b3 b4 b5
    generalize ((((((w.alloc _).alloc _).alloc _).alloc _).alloc _).alloc _) = W at b1 b2 b3 b4 b5 hsz ⊢
    rw [← hsz]
    have hb5 : b = 0 ∨ b = 1 ∨ b = 2 ∨ b = 3 ∨ b = 4 := by omega
    have nw := Blk.new W 81 
      #[.string ⟨#[]⟩, .slice (some ⟨w.heap.size + 1, 0, none⟩) 1 1, .string ⟨#[]⟩, .slice (some ⟨w.heap.size + 1 + 1, 0, none⟩) 1 1, .string ⟨#[]⟩, .slice (some ⟨w.heap.size + 1 + 1 + 1, 0, none⟩) 1 1, .string ⟨#[]⟩, .slice (some ⟨w.heap.size + 1 + 1 + 1 + 1, 0, none⟩) 1 1, .string ⟨#[]⟩, .slice (some ⟨w.heap.size + 1 + 1 + 1 + 1 + 1, 0, none⟩) 1 1]
    rcases hb5 with rfl | rfl | rfl | rfl | rfl
    · exact blockC_at (op := 9) (l1 := 1) (l2 := 2) 0 nw rfl rfl (b1.alloc _)
    · exact blockC_at (op := 8) (l1 := 3) (l2 := 0) 1 nw rfl rfl (b2.alloc _)
    · exact blockC_at (op := 8) (l1 := 3) (l2 := 0) 2 nw rfl rfl (b3.alloc _)
    · exact blockC_at (op := 9) (l1 := 1) (l2 := 4) 3 nw rfl rfl (b4.alloc _)
    · exact blockC_at (op := 10) (l1 := 0) (l2 := 0) 4 nw rfl rfl (b5.alloc _)
  · unfold exSucc
    rw [if_neg (by omega), if_neg (by omega), if_neg (by omega), if_neg (by omega)]
end Go.Proofs.Ytjaapempahigaaa
