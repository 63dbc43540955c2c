/- goes: the iterator over the blocks that one goes to. -/
import Derived.Test.YtjaapempahigaaaFl1
import Derived.RangeFuncNested
import Derived.RangeFuncBound
import Derived.RangeFuncCalls
import Derived.RangeFuncLeaves
import Derived.RangeFuncBox
import Derived.Shelf.Abstract
import Derived.Shelf.RegionOpen
import Derived.WalkKit
import Derived.OwnWalkIn
import Derived.TacticsInMore
import Derived.LoopNIn
import Derived.LoopIn
import Derived.Maps.AppendAt
namespace Go.Proofs.Ytjaapempahigaaa
open Go.RowKit Go.Shelf
attribute [local go_sem] Oper.semAt_some

theorem Mod.toGrown {w w' : World} (h : Mod NoBlk w w') : w.grownBy w' none := ⟨h.os, h.tape, h.output, h.size, fun k hk _ => h.block k hk (fun h => h)⟩
theorem abides_mod {J : List Nat → World → Prop} {W W' : World} (hJ : AbidesFrom W.heap.size J) (hm : Mod NoBlk W W') {s : List Nat} (h : J s W) : J s W' := hJ s W W' none h hm.toGrown (fun r e => by cases e)

def oneOf (n : Nat) (v : Int) : List Nat := if 0 ≤ v ∧ v < n then [v.toNat] else []
theorem oneOf_yes {n : Nat} {k : Nat} (h : k < n) : oneOf n (k : Int) = [k] := by unfold oneOf; rw [if_pos (by omega)]; rfl
theorem oneOf_no {n : Nat} {v : Int} (h : ¬ (0 ≤ v ∧ v < n)) : oneOf n v = [] := by unfold oneOf; rw [if_neg h]
def upto2 (n : Nat) (a b : Int) (q : Nat) : List Nat := if q = 0 then [] else if q = 1 then oneOf n a else oneOf n a ++ oneOf n b
theorem upto2_1 (n : Nat) (a b : Int) : upto2 n a b 1 = oneOf n a := rfl
theorem upto2_2 (n : Nat) (a b : Int) : upto2 n a b 2 = oneOf n a ++ oneOf n b := rfl
def GPost (J Jx : List Nat → World → Prop) (xs : List Nat) (e : Ending) (W' : World) : Prop := (∃ v, e = .returned v) ∧ ((∃ ys, ys = xs ∧ J ys W') ∨ (∃ pre, pre <+: xs ∧ Jx pre W'))

set_option maxRecDepth 100000 in
set_option maxHeartbeats 1000000 in
theorem goes1_in (F : Fence) (n : Nat) (hf : F.fn 60) (hro : F.round = none) (hn : 1 ≤ n) (l tb tf : Nat) (S : Nat → Prop) (hS : ¬ S tf) (b : Int) (ob : Option Addr) (N cap : Nat) (succ : Nat → List Nat) (J Jx : List Nat → World → Prop)
    (hY : ∀ pre x W, J pre W → pre ++ [x] <+: nextOf N succ b → YieldAt F (n - 1) Try.prog l #[.int .i64 (x : Nat)] W fun e W' =>
      (e = .returned (.bool true) ∧ J (pre ++ [x]) W' ∧ Mod S W W') ∨ (e = .returned (.bool false) ∧ Jx (pre ++ [x]) W'))
    (W : World) (hJ : AbidesFrom W.heap.size J) (hb : W.cell? ⟨tb, 0, none⟩ = some (.int .i64 b)) (htf : tf < W.heap.size) (hc : W.cell? ⟨tf, 3, none⟩ = some (.slice ob N cap)) (hG : GraphAt W ob N succ) (h0 : J [] W) :
    CallsIn F n Try.prog 60 #[.func (.yield l) #[] #[], .pointer (some ⟨tb, 0, none⟩), .pointer (some ⟨tf, 0, none⟩)] W (GPost J Jx (nextOf N succ b)) := by
  by_cases hlt : b < 0
  · have hx : nextOf N succ b = [] := by unfold nextOf; rw [if_neg (by omega)]
    rw [hx]
    refine callsIn_of_wp Try.func60 rfl hf ?_ hro
    simp only [Try.ntmps60, List.size_toArray, List.length_cons, List.length_nil, Nat.reduceAdd, Nat.reduceSub, Array.replicate_succ, Array.replicate_zero, List.push_toArray, List.append_toArray, List.nil_append, List.cons_append]
    gi_wp2
    refine bodyPost_ret (results_none rfl _ _ _) rfl ⟨⟨_, rfl⟩, .inl ⟨[], rfl, h0⟩⟩
  by_cases hge : (N : Int) ≤ b
  · have hx : nextOf N succ b = [] := by unfold nextOf; rw [if_neg (by omega)]
    rw [hx]
    refine callsIn_of_wp Try.func60 rfl hf ?_ hro
    simp only [Try.ntmps60, List.size_toArray, List.length_cons, List.length_nil, Nat.reduceAdd, Nat.reduceSub, Array.replicate_succ, Array.replicate_zero, List.push_toArray, List.append_toArray, List.nil_append, List.cons_append]
    gi_wp2
    refine bodyPost_ret (results_none rfl _ _ _) rfl ⟨⟨_, rfl⟩, .inl ⟨[], rfl, h0⟩⟩
  obtain ⟨k, rfl⟩ : ∃ k : Nat, b = k := ⟨b.toNat, by omega⟩
  have hx : nextOf N succ (k : Int) = succ k := by unfold nextOf; rw [if_pos (by omega)]; rfl
  rw [hx] at hY ⊢
  obtain ⟨oa, rfl, hblk, nm, oi, m, c, b0, b1, hmx, hm⟩ := hG.1 k (by omega)
  rcases hm with ⟨rfl, hs⟩ | ⟨ia, op, l1, l2, rfl, hm0, ⟨hil, i1, i2, i3, i4, i5, i6a, i6n, i6c, c0, c1, c2, c3, c4, c5, c6, c7, c8⟩, hs⟩
  · rw [hs]
    refine callsIn_of_wp Try.func60 rfl hf ?_ hro
    simp only [Try.ntmps60, List.size_toArray, List.length_cons, List.length_nil, Nat.reduceAdd, Nat.reduceSub, Array.replicate_succ, Array.replicate_zero, List.push_toArray, List.append_toArray, List.nil_append, List.cons_append]
    gi_wp2
    refine bodyPost_ret (results_none rfl _ _ _) rfl ⟨⟨_, rfl⟩, .inl ⟨[], rfl, h0⟩⟩
  obtain ⟨j, rfl⟩ : ∃ j, m = j + 1 := ⟨m - 1, by omega⟩
  rw [Nat.add_sub_cancel] at hil c0 c1 c2 c3 c4 c5 c6 c7 c8
  by_cases hbad : op ≠ 9 ∧ op ≠ 8
  · have hx : succ k = [] := by
      rw [hs]; unfold succOf
      rw [if_neg (by omega), if_neg (by omega)]; rfl
    rw [hx]
    have h9 : (op == 9) = false := by simp [hbad.1]
    have h9' : (op != 9) = true := by simp [hbad.1]
    have h8' : (op != 8) = true := by simp [hbad.2]
    clear hbad
    refine callsIn_of_wp Try.func60 rfl hf ?_ hro
    simp only [Try.ntmps60, List.size_toArray, List.length_cons, List.length_nil, Nat.reduceAdd, Nat.reduceSub, Array.replicate_succ, Array.replicate_zero, List.push_toArray, List.append_toArray, List.nil_append, List.cons_append]
    gi_wp2
    refine bodyPost_ret (results_none rfl _ _ _) rfl ⟨⟨_, rfl⟩, .inl ⟨[], rfl, abides_mod hJ ?_ h0⟩⟩
    exact ((Mod.refl _ _).alloc _).alloc _
  have hop : ∃ y : Int, succ k = oneOf N l1 ++ oneOf N y ∧ ((op = 9 ∧ (l2 != l1) = true ∧ y = l2) ∨ (op = 9 ∧ (l2 != l1) = false ∧ y = -1) ∨ (op = 8 ∧ y = -1)) := by
    by_cases h9 : op = 9
    · by_cases hl : l2 = l1
      · refine ⟨-1, ?_, .inr (.inl ⟨h9, by simp [hl], rfl⟩)⟩
        rw [hs]; unfold succOf oneOf
        rw [if_neg (show ¬ (op = 9 ∧ l2 ≠ l1 ∧ 0 ≤ l2 ∧ l2 < (N : Int)) by omega), if_neg (show ¬ ((0 : Int) ≤ -1 ∧ (-1 : Int) < N) by omega)]
        congr 1
        by_cases h : 0 ≤ l1 ∧ l1 < (N : Int)
        · rw [if_pos h, if_pos ⟨.inr h9, h⟩]
        · rw [if_neg h, if_neg (fun h' => h h'.2)]
      · refine ⟨l2, ?_, .inl ⟨h9, by simp [hl], rfl⟩⟩
        rw [hs]; unfold succOf oneOf
        congr 1
        · by_cases h : 0 ≤ l1 ∧ l1 < (N : Int)
          · rw [if_pos h, if_pos ⟨.inr h9, h⟩]
          · rw [if_neg h, if_neg (fun h' => h h'.2)]
        · by_cases h : 0 ≤ l2 ∧ l2 < (N : Int)
          · rw [if_pos h, if_pos ⟨h9, hl, h⟩]
          · rw [if_neg h, if_neg (fun h' => h h'.2.2)]
    · have h8 : op = 8 := by omega
      refine ⟨-1, ?_, .inr (.inr ⟨h8, rfl⟩)⟩
      rw [hs]; unfold succOf oneOf
      rw [if_neg (show ¬ (op = 9 ∧ l2 ≠ l1 ∧ 0 ≤ l2 ∧ l2 < (N : Int)) by omega), if_neg (show ¬ ((0 : Int) ≤ -1 ∧ (-1 : Int) < N) by omega)]
      congr 1
      by_cases h : 0 ≤ l1 ∧ l1 < (N : Int)
      · rw [if_pos h, if_pos ⟨.inl h8, h⟩]
      · rw [if_neg h, if_neg (fun h' => h h'.2)]
  clear hs hbad
  obtain ⟨y, hs, hop⟩ := hop
  rw [hs] at hY ⊢
  rcases hop with ⟨rfl, hl, rfl⟩ | ⟨rfl, hl, rfl⟩ | ⟨rfl, rfl⟩
  · refine callsIn_of_wp Try.func60 rfl hf ?_ hro
    simp only [Try.ntmps60, List.size_toArray, List.length_cons, List.length_nil, Nat.reduceAdd, Nat.reduceSub, Array.replicate_succ, Array.replicate_zero, List.push_toArray, List.append_toArray, List.nil_append, List.cons_append]
    gi_wp2
    have hm4 : Mod NoBlk W ((W.alloc (Obj.cells #[Value.int IntKind.u8 9, Value.int IntKind.i64 i1, Value.int IntKind.i64 i2, Value.int IntKind.i64 i3, Value.int IntKind.u32 i4, Value.int IntKind.i64 i5, Value.slice i6a i6n i6c, Value.int IntKind.i64 l1, Value.int IntKind.i64 y] 83)).alloc (Obj.cells #[Value.int IntKind.i64 l1, Value.int IntKind.i64 y] 114)) := ((Mod.refl _ _).alloc _).alloc _
    generalize (W.alloc (Obj.cells #[Value.int IntKind.u8 9, Value.int IntKind.i64 i1, Value.int IntKind.i64 i2, Value.int IntKind.i64 i3, Value.int IntKind.u32 i4, Value.int IntKind.i64 i5, Value.slice i6a i6n i6c, Value.int IntKind.i64 l1, Value.int IntKind.i64 y] 83)).alloc (Obj.cells #[Value.int IntKind.i64 l1, Value.int IntKind.i64 y] 114) = W4 at hm4 ⊢
    have hJ4 := abides_mod hJ hm4 h0
    have hc4 := (hm4.cell (p := ⟨tf, 3, none⟩) htf (fun h => h)).trans hc
    have ht4 : tf < W4.heap.size := Nat.lt_of_lt_of_le htf hm4.size
    clear c0 c1 c2 c3 c4 c5 c6 c7 c8 b0 b1 hc hb
    have x0 : ∀ w, (Instr.index 114 (.agg #[.int .i64 l1, .int .i64 (y)]) (.int .i64 0)).run Try.prog w = .ok (.int .i64 l1) w := fun _ => by kernel_rfl
    have x1 : ∀ w, (Instr.index 114 (.agg #[.int .i64 l1, .int .i64 (y)]) (.int .i64 1)).run Try.prog w = .ok (.int .i64 (y)) w := fun _ => by kernel_rfl
    gi_loopw [67] (fun i wr => ∃ q : Nat, q ≤ 2 ∧ i = .int .i64 q ∧ tf < wr.heap.size ∧ wr.cell? ⟨tf, 3, none⟩ = some (.slice (some oa) N cap) ∧ J (upto2 N l1 (y) q) wr) (fun i _ => (2 - intOf i).toNat)
    case atStart => exact ⟨0, by omega, rfl, ht4, hc4, hJ4⟩
    case round =>
      clear hJ4 hc4 ht4
      obtain ⟨q, hq, rfl, ht, hc, hJs⟩ := hrel
      have hq3 : q = 0 ∨ q = 1 ∨ q = 2 := by omega
      rcases hq3 with rfl | rfl | rfl
      · by_cases h1 : 0 ≤ l1
        · by_cases h2 : l1 < (N : Int)
          · obtain ⟨x, rfl⟩ : ∃ x : Nat, l1 = x := ⟨l1.toNat, by omega⟩
            have hu : upto2 N x (y) 1 = [] ++ [x] := by rw [upto2_1, oneOf_yes (by omega)]; rfl
            obtain ⟨fn, tmps, assign, body, hy, hR⟩ := hY [] x wr hJs (by rw [oneOf_yes (by omega)]; exact List.prefix_append _ _)
            gi_wp2
            refine hR.mono ?_
            rintro e W' (⟨rfl, hJ', hk⟩ | ⟨rfl, hJx'⟩)
            · have hc' := (hk.cell (p := ⟨tf, 3, none⟩) ht hS).trans hc
              have ht' : tf < W'.heap.size := Nat.lt_of_lt_of_le ht hk.size
              gi_wp2
              go_roundw
              case rel => exact ⟨1, by omega, rfl, ht', hc', by rw [hu]; exact hJ'⟩
              case measure => simp [intOf]
            · gi_wp2
              refine bodyPost_ret (results_none rfl _ _ _) rfl ⟨⟨_, rfl⟩, .inr ⟨_, ?_, hJx'⟩⟩
              rw [oneOf_yes (by omega)]
              exact List.prefix_append _ _
          · have hu : upto2 N l1 (y) 1 = [] := by rw [upto2_1, oneOf_no (by omega)]
            gi_wp2
            refine ⟨fun _ h => (by cases h), ?_⟩
            gi_wp2
            go_roundw
            case rel => exact ⟨1, by omega, rfl, ht, hc, by rw [hu]; exact hJs⟩
            case measure => simp [intOf]
        · have hu : upto2 N l1 (y) 1 = [] := by rw [upto2_1, oneOf_no (by omega)]
          gi_wp2
          refine ⟨fun _ h => (by cases h), ?_⟩
          gi_wp2
          go_roundw
          case rel => exact ⟨1, by omega, rfl, ht, hc, by rw [hu]; exact hJs⟩
          case measure => simp [intOf]
      · by_cases h1 : 0 ≤ y
        · by_cases h2 : y < (N : Int)
          · obtain ⟨x, rfl⟩ : ∃ x : Nat, y = x := ⟨y.toNat, by omega⟩
            have hu : upto2 N l1 x 2 = upto2 N l1 x 1 ++ [x] := by rw [upto2_1, upto2_2, oneOf_yes (k := x) (by omega)]
            obtain ⟨fn, tmps, assign, body, hy, hR⟩ := hY (upto2 N l1 x 1) x wr hJs (by rw [upto2_1, oneOf_yes (k := x) (by omega)]; exact List.prefix_refl _)
            gi_wp2
            refine hR.mono ?_
            rintro e W' (⟨rfl, hJ', hk⟩ | ⟨rfl, hJx'⟩)
            · have hc' := (hk.cell (p := ⟨tf, 3, none⟩) ht hS).trans hc
              have ht' : tf < W'.heap.size := Nat.lt_of_lt_of_le ht hk.size
              gi_wp2
              go_roundw
              case rel => exact ⟨2, by omega, rfl, ht', hc', by rw [hu]; exact hJ'⟩
              case measure => simp [intOf]
            · gi_wp2
              refine bodyPost_ret (results_none rfl _ _ _) rfl ⟨⟨_, rfl⟩, .inr ⟨_, ?_, hJx'⟩⟩
              rw [upto2_1, oneOf_yes (k := x) (by omega)]
              exact List.prefix_refl _
          · have hu : upto2 N l1 (y) 2 = upto2 N l1 (y) 1 := by rw [upto2_1, upto2_2, oneOf_no (v := y) (by omega), List.append_nil]
            gi_wp2
            refine ⟨fun _ h => (by cases h), ?_⟩
            gi_wp2
            go_roundw
            case rel => exact ⟨2, by omega, rfl, ht, hc, by rw [hu]; exact hJs⟩
            case measure => simp [intOf]
        · have hu : upto2 N l1 (y) 2 = upto2 N l1 (y) 1 := by rw [upto2_1, upto2_2, oneOf_no (v := y) (by omega), List.append_nil]
          gi_wp2
          refine ⟨fun _ h => (by cases h), ?_⟩
          gi_wp2
          go_roundw
          case rel => exact ⟨2, by omega, rfl, ht, hc, by rw [hu]; exact hJs⟩
          case measure => simp [intOf]
      · gi_wp2
        go_end0
        exact ⟨⟨_, rfl⟩, .inl ⟨_, rfl, hJs⟩⟩
  · refine callsIn_of_wp Try.func60 rfl hf ?_ hro
    simp only [Try.ntmps60, List.size_toArray, List.length_cons, List.length_nil, Nat.reduceAdd, Nat.reduceSub, Array.replicate_succ, Array.replicate_zero, List.push_toArray, List.append_toArray, List.nil_append, List.cons_append]
    gi_wp2
    have hm4 : Mod NoBlk W ((W.alloc (Obj.cells #[Value.int IntKind.u8 9, Value.int IntKind.i64 i1, Value.int IntKind.i64 i2, Value.int IntKind.i64 i3, Value.int IntKind.u32 i4, Value.int IntKind.i64 i5, Value.slice i6a i6n i6c, Value.int IntKind.i64 l1, Value.int IntKind.i64 l2] 83)).alloc (Obj.cells #[Value.int IntKind.i64 l1, Value.int IntKind.i64 (-1)] 114)) := ((Mod.refl _ _).alloc _).alloc _
    generalize (W.alloc (Obj.cells #[Value.int IntKind.u8 9, Value.int IntKind.i64 i1, Value.int IntKind.i64 i2, Value.int IntKind.i64 i3, Value.int IntKind.u32 i4, Value.int IntKind.i64 i5, Value.slice i6a i6n i6c, Value.int IntKind.i64 l1, Value.int IntKind.i64 l2] 83)).alloc (Obj.cells #[Value.int IntKind.i64 l1, Value.int IntKind.i64 (-1)] 114) = W4 at hm4 ⊢
    have hJ4 := abides_mod hJ hm4 h0
    have hc4 := (hm4.cell (p := ⟨tf, 3, none⟩) htf (fun h => h)).trans hc
    have ht4 : tf < W4.heap.size := Nat.lt_of_lt_of_le htf hm4.size
    clear c0 c1 c2 c3 c4 c5 c6 c7 c8 b0 b1 hc hb
    have x0 : ∀ w, (Instr.index 114 (.agg #[.int .i64 l1, .int .i64 (-1)]) (.int .i64 0)).run Try.prog w = .ok (.int .i64 l1) w := fun _ => by kernel_rfl
    have x1 : ∀ w, (Instr.index 114 (.agg #[.int .i64 l1, .int .i64 (-1)]) (.int .i64 1)).run Try.prog w = .ok (.int .i64 (-1)) w := fun _ => by kernel_rfl
    gi_loopw [67] (fun i wr => ∃ q : Nat, q ≤ 2 ∧ i = .int .i64 q ∧ tf < wr.heap.size ∧ wr.cell? ⟨tf, 3, none⟩ = some (.slice (some oa) N cap) ∧ J (upto2 N l1 (-1) q) wr) (fun i _ => (2 - intOf i).toNat)
    case atStart => exact ⟨0, by omega, rfl, ht4, hc4, hJ4⟩
    case round =>
      clear hJ4 hc4 ht4
      obtain ⟨q, hq, rfl, ht, hc, hJs⟩ := hrel
      have hq3 : q = 0 ∨ q = 1 ∨ q = 2 := by omega
      rcases hq3 with rfl | rfl | rfl
      · by_cases h1 : 0 ≤ l1
        · by_cases h2 : l1 < (N : Int)
          · obtain ⟨x, rfl⟩ : ∃ x : Nat, l1 = x := ⟨l1.toNat, by omega⟩
            have hu : upto2 N x (-1) 1 = [] ++ [x] := by rw [upto2_1, oneOf_yes (by omega)]; rfl
            obtain ⟨fn, tmps, assign, body, hy, hR⟩ := hY [] x wr hJs (by rw [oneOf_yes (by omega)]; exact List.prefix_append _ _)
            gi_wp2
            refine hR.mono ?_
            rintro e W' (⟨rfl, hJ', hk⟩ | ⟨rfl, hJx'⟩)
            · have hc' := (hk.cell (p := ⟨tf, 3, none⟩) ht hS).trans hc
              have ht' : tf < W'.heap.size := Nat.lt_of_lt_of_le ht hk.size
              gi_wp2
              go_roundw
              case rel => exact ⟨1, by omega, rfl, ht', hc', by rw [hu]; exact hJ'⟩
              case measure => simp [intOf]
            · gi_wp2
              refine bodyPost_ret (results_none rfl _ _ _) rfl ⟨⟨_, rfl⟩, .inr ⟨_, ?_, hJx'⟩⟩
              rw [oneOf_yes (by omega)]
              exact List.prefix_append _ _
          · have hu : upto2 N l1 (-1) 1 = [] := by rw [upto2_1, oneOf_no (by omega)]
            gi_wp2
            refine ⟨fun _ h => (by cases h), ?_⟩
            gi_wp2
            go_roundw
            case rel => exact ⟨1, by omega, rfl, ht, hc, by rw [hu]; exact hJs⟩
            case measure => simp [intOf]
        · have hu : upto2 N l1 (-1) 1 = [] := by rw [upto2_1, oneOf_no (by omega)]
          gi_wp2
          refine ⟨fun _ h => (by cases h), ?_⟩
          gi_wp2
          go_roundw
          case rel => exact ⟨1, by omega, rfl, ht, hc, by rw [hu]; exact hJs⟩
          case measure => simp [intOf]
      · have hu : upto2 N l1 (-1) 2 = upto2 N l1 (-1) 1 := by rw [upto2_1, upto2_2, oneOf_no (v := -1) (by omega), List.append_nil]
        gi_wp2
        refine ⟨fun _ h => (by cases h), ?_⟩
        gi_wp2
        go_roundw
        case rel => exact ⟨2, by omega, rfl, ht, hc, by rw [hu]; exact hJs⟩
        case measure => simp [intOf]
      · gi_wp2
        go_end0
        exact ⟨⟨_, rfl⟩, .inl ⟨_, rfl, hJs⟩⟩
  · refine callsIn_of_wp Try.func60 rfl hf ?_ hro
    simp only [Try.ntmps60, List.size_toArray, List.length_cons, List.length_nil, Nat.reduceAdd, Nat.reduceSub, Array.replicate_succ, Array.replicate_zero, List.push_toArray, List.append_toArray, List.nil_append, List.cons_append]
    gi_wp2
    have hm4 : Mod NoBlk W ((W.alloc (Obj.cells #[Value.int IntKind.u8 8, Value.int IntKind.i64 i1, Value.int IntKind.i64 i2, Value.int IntKind.i64 i3, Value.int IntKind.u32 i4, Value.int IntKind.i64 i5, Value.slice i6a i6n i6c, Value.int IntKind.i64 l1, Value.int IntKind.i64 l2] 83)).alloc (Obj.cells #[Value.int IntKind.i64 l1, Value.int IntKind.i64 (-1)] 114)) := ((Mod.refl _ _).alloc _).alloc _
    generalize (W.alloc (Obj.cells #[Value.int IntKind.u8 8, Value.int IntKind.i64 i1, Value.int IntKind.i64 i2, Value.int IntKind.i64 i3, Value.int IntKind.u32 i4, Value.int IntKind.i64 i5, Value.slice i6a i6n i6c, Value.int IntKind.i64 l1, Value.int IntKind.i64 l2] 83)).alloc (Obj.cells #[Value.int IntKind.i64 l1, Value.int IntKind.i64 (-1)] 114) = W4 at hm4 ⊢
    have hJ4 := abides_mod hJ hm4 h0
    have hc4 := (hm4.cell (p := ⟨tf, 3, none⟩) htf (fun h => h)).trans hc
    have ht4 : tf < W4.heap.size := Nat.lt_of_lt_of_le htf hm4.size
    clear c0 c1 c2 c3 c4 c5 c6 c7 c8 b0 b1 hc hb
    have x0 : ∀ w, (Instr.index 114 (.agg #[.int .i64 l1, .int .i64 (-1)]) (.int .i64 0)).run Try.prog w = .ok (.int .i64 l1) w := fun _ => by kernel_rfl
    have x1 : ∀ w, (Instr.index 114 (.agg #[.int .i64 l1, .int .i64 (-1)]) (.int .i64 1)).run Try.prog w = .ok (.int .i64 (-1)) w := fun _ => by kernel_rfl
    gi_loopw [67] (fun i wr => ∃ q : Nat, q ≤ 2 ∧ i = .int .i64 q ∧ tf < wr.heap.size ∧ wr.cell? ⟨tf, 3, none⟩ = some (.slice (some oa) N cap) ∧ J (upto2 N l1 (-1) q) wr) (fun i _ => (2 - intOf i).toNat)
    case atStart => exact ⟨0, by omega, rfl, ht4, hc4, hJ4⟩
    case round =>
      clear hJ4 hc4 ht4
      obtain ⟨q, hq, rfl, ht, hc, hJs⟩ := hrel
      have hq3 : q = 0 ∨ q = 1 ∨ q = 2 := by omega
      rcases hq3 with rfl | rfl | rfl
      · by_cases h1 : 0 ≤ l1
        · by_cases h2 : l1 < (N : Int)
          · obtain ⟨x, rfl⟩ : ∃ x : Nat, l1 = x := ⟨l1.toNat, by omega⟩
            have hu : upto2 N x (-1) 1 = [] ++ [x] := by rw [upto2_1, oneOf_yes (by omega)]; rfl
            obtain ⟨fn, tmps, assign, body, hy, hR⟩ := hY [] x wr hJs (by rw [oneOf_yes (by omega)]; exact List.prefix_append _ _)
            gi_wp2
            refine hR.mono ?_
            rintro e W' (⟨rfl, hJ', hk⟩ | ⟨rfl, hJx'⟩)
            · have hc' := (hk.cell (p := ⟨tf, 3, none⟩) ht hS).trans hc
              have ht' : tf < W'.heap.size := Nat.lt_of_lt_of_le ht hk.size
              gi_wp2
              go_roundw
              case rel => exact ⟨1, by omega, rfl, ht', hc', by rw [hu]; exact hJ'⟩
              case measure => simp [intOf]
            · gi_wp2
              refine bodyPost_ret (results_none rfl _ _ _) rfl ⟨⟨_, rfl⟩, .inr ⟨_, ?_, hJx'⟩⟩
              rw [oneOf_yes (by omega)]
              exact List.prefix_append _ _
          · have hu : upto2 N l1 (-1) 1 = [] := by rw [upto2_1, oneOf_no (by omega)]
            gi_wp2
            refine ⟨fun _ h => (by cases h), ?_⟩
            gi_wp2
            go_roundw
            case rel => exact ⟨1, by omega, rfl, ht, hc, by rw [hu]; exact hJs⟩
            case measure => simp [intOf]
        · have hu : upto2 N l1 (-1) 1 = [] := by rw [upto2_1, oneOf_no (by omega)]
          gi_wp2
          refine ⟨fun _ h => (by cases h), ?_⟩
          gi_wp2
          go_roundw
          case rel => exact ⟨1, by omega, rfl, ht, hc, by rw [hu]; exact hJs⟩
          case measure => simp [intOf]
      · have hu : upto2 N l1 (-1) 2 = upto2 N l1 (-1) 1 := by rw [upto2_1, upto2_2, oneOf_no (v := -1) (by omega), List.append_nil]
        gi_wp2
        refine ⟨fun _ h => (by cases h), ?_⟩
        gi_wp2
        go_roundw
        case rel => exact ⟨2, by omega, rfl, ht, hc, by rw [hu]; exact hJs⟩
        case measure => simp [intOf]
      · gi_wp2
        go_end0
        exact ⟨⟨_, rfl⟩, .inl ⟨_, rfl, hJs⟩⟩

end Go.Proofs.Ytjaapempahigaaa
