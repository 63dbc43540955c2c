/- The document's file: Set. -/
import Derived.Test.YtjaapempahigaaaRef3
import Derived.Deep.RegionHeld3
import Derived.Deep.DrawnRows
import Derived.OneCell
namespace Go.Proofs.Ytjaapempahigaaa
open Go.RowKit

theorem info94 : (Try.prog.info? 94).map (fun i => (i.zero, i.size, i.bytes)) = some (some (.agg #[.int .i64 0, .int .i64 0, .int .i64 0, .int .u32 0]), 4, 32) := by kernel_rfl

theorem two_cells {w : World} {g : Nat} {A B u v : Value} (h0 : w.cell? ⟨g, 0, none⟩ = some u) (h1 : w.cell? ⟨g, 1, none⟩ = some v) :
    ((w.setCell ⟨g, 0, none⟩ A).setCell ⟨g, 1, none⟩ B).cell? ⟨g, 0, none⟩ = some A ∧ ((w.setCell ⟨g, 0, none⟩ A).setCell ⟨g, 1, none⟩ B).cell? ⟨g, 1, none⟩ = some B := by
  constructor
  · rw [World.cell?_setCell_other _ _ _ _ (by intro e; cases e)]
    exact World.cell?_setCell_same' _ _ _ (by rw [h0]; rfl)
  · refine World.cell?_setCell_same' _ _ _ ?_
    rw [World.cell?_setCell_other _ _ _ _ (by intro e; cases e), h1]; rfl
theorem Mod.setHere {g : Nat} {a w : World} (h : Mod (fun k => k = g) a w) (i : Nat) (u : Value) : Mod (fun k => k = g) a (w.setCell ⟨g, i, none⟩ u) := h.setCell (fun _ => rfl) u
set_option maxRecDepth 100000 in
set_option maxHeartbeats 1000000 in
theorem refSet_bad (nw : Nat) (a : Option Addr) (n c : Nat) (window bank reg x : Int) (w : World) (hn : ¬ Valid nw window bank reg) :
    Calls Try.prog 24 #[.agg #[.int .i64 nw, .slice a n c], .int .i64 window, .int .i64 bank, .int .i64 reg, .int .u32 x] w
      fun e w' => e = .returned (.tuple #[.agg #[.int .i64 nw, .slice a n c], .int .i64 2]) ∧ Mod NoBlk w w' := by
  go_enter Try.func24, Try.ntmps24
  go_wp2_with fail
  refine (refPlace_bad nw a n c window bank reg _ hn).mono ?_
  rintro e w1 ⟨rfl, hm⟩
  have HM0 := mod2 w (.cells #[.int .i64 nw, .slice a n c] 45) (.cells #[.int .i64 0, .slice none 0 0] 45)
  have hB0 : Blk w1 w.heap.size 45 #[.int .i64 nw, .slice a n c] := ((Blk.new w 45 _).alloc _).mod hm (fun h => h)
  have hB1 : Blk w1 (w.heap.size + 1) 45 #[.int .i64 0, .slice none 0 0] := by
    have := Blk.new (w.alloc (.cells #[.int .i64 nw, .slice a n c] 45)) 45 #[.int .i64 0, .slice none 0 0]
    exact (show Blk _ (w.heap.size + 1) _ _ by simpa using this).mod hm (fun h => h)
  have hM : Mod NoBlk w w1 := HM0.trans hm
  have q0 := hB0.cell 0
  have q1 := hB0.cell 1
  have q5 := hB1.cell 0
  have q6 := hB1.cell 1
  have q7 := hB1.frozen 0
  have q8 := hB1.frozen 1
  simp only [List.getElem?_toArray, List.getElem?_cons_zero, List.getElem?_cons_succ] at q0 q1 q5 q6
  have l0 := hB0.lt
  have l1 := hB1.lt
  clear HM0 hm hB0 hB1
  generalize hg1 : w.heap.size + 1 = g1 at *
  generalize hg0 : w.heap.size = g0 at *
  have HGE : Hid (w.heap.size ≤ g1) := by show _ ≤ _; omega
  have HM := Lib.hid hM
  clear hM hg0 hg1
  go_wp2
  obtain ⟨f0, f1⟩ := two_cells (A := .int .i64 nw) (B := .slice a n c) q5 q6
  have hl : g1 < ((w1.setCell ⟨g1, 0, none⟩ (.int .i64 nw)).setCell ⟨g1, 1, none⟩ (.slice a n c)).heap.size := by simpa [World.setCell] using l1
  have f2 := (World.cell?_alloc_lt ((w1.setCell ⟨g1, 0, none⟩ (.int .i64 nw)).setCell ⟨g1, 1, none⟩ (.slice a n c)) (.cells #[.int .i64 0, .int .i64 0, .int .i64 0] 90) ⟨g1, 0, none⟩ hl).trans f0
  have f3 := (World.cell?_alloc_lt ((w1.setCell ⟨g1, 0, none⟩ (.int .i64 nw)).setCell ⟨g1, 1, none⟩ (.slice a n c)) (.cells #[.int .i64 0, .int .i64 0, .int .i64 0] 90) ⟨g1, 1, none⟩ hl).trans f1
  have hM2 := (((Mod.refl (fun k => k = g1) w1).setHere 0 (.int .i64 nw)).setHere 1 (.slice a n c)).alloc (.cells #[.int .i64 0, .int .i64 0, .int .i64 0] 90)
  generalize (((w1.setCell ⟨g1, 0, none⟩ (.int .i64 nw)).setCell ⟨g1, 1, none⟩ (.slice a n c)).alloc (.cells #[.int .i64 0, .int .i64 0, .int .i64 0] 90)) = W2 at *
  refine bodyPost_ret (v := .tuple #[.agg #[.int .i64 nw, .slice a n c], .int .i64 2]) (by simp [results, Try.results24, go_sem, f2, f3]) rfl ⟨rfl, ?_⟩
  exact HM.out.trans' hM2 (fun i hi h => absurd hi (by have := HGE.out; omega))

theorem emptyOwn (w : World) (g : Nat) (h : w.heap[g]? = some (.cells #[] 94 (0, 0))) : w.ownsRow 0 94 4 (.slice (some ⟨g, 0, none⟩) 0 0) 0 [] :=
  ⟨rfl, .inr ⟨g, 0, #[], rfl, Nat.zero_le _, h, Nat.le_refl _, Nat.zero_le _, rfl, rfl⟩⟩
theorem RefL.news {w : World} {b cap : Nat} {L : List ((Nat × Nat × Nat) × Int)} (h : RefL w (some ⟨b, 0, none⟩) cap L) : ∀ j u, (saidCells L)[j]? = some u → w.cell? ((⟨b, 0, none⟩ : Addr).add j) = some u := h.cells rfl
theorem saidCells_one (L : List ((Nat × Nat × Nat) × Int)) : ∀ u ∈ saidCells L, u.oneCell' = true := by
  intro u hu
  simp only [saidCells, List.mem_flatMap] at hu
  obtain ⟨s, _, hs⟩ := hu
  simp only [saidOne, List.mem_cons, List.not_mem_nil, or_false] at hs
  rcases hs with rfl | rfl | rfl | rfl <;> rfl

theorem step_append_none {P : Program} {w : World} {ops : Array Oper} {o : Oper} {a : Act} {K : Act → World → Prop} {Q : Exit → Act → World → Prop} {E : Prop} (hgd : o.guard = none) (s x : Operand) (t : TypeId)
    (ho : o.op = .call { callee := .builtin .append, args := #[s, x], argTypes := #[t, t] })
    (base : Nat) (e : TypeId) (i : TypeInfo) (size : Nat) (ht : P.underlying t = some (.slice e)) (hi : P.info? e = some i)
    (v : Value) (n : Nat) (xs : List Value) (hs : a.eval s = v) (hown : w.ownsRow base e size v n xs) (hx : a.eval x = .slice none 0 0)
    (h : K (a.put o.dst v) w) : if Region.wanted o (yielded ops a.tmps) = true then Oper.wp P o a w K Q else E := by
  have hw : Region.wanted o (yielded ops a.tmps) = true := by simp [Region.wanted, hgd]
  rw [if_pos hw]
  have hrun := run_append_owned_none (P := P) (w := w) base t o.type e i size ht hi v n xs hown
  unfold Oper.wp
  simp [execOp, ho, resolve, invoke, builtin, hs, hx, hrun, Result.andThen]
  exact h

set_option maxRecDepth 100000 in
set_option maxHeartbeats 4000000 in
theorem refSet_ok (nw : Nat) (a : Option Addr) (n cap : Nat) (L : List ((Nat × Nat × Nat) × Int)) (window bank reg : Nat) (x : Int) (w : World) (hn : L.length = n) (hL : RefL w a cap L) (hne : 0 < n) (hsmall : n ≤ 900000)
    (hnw : 2 ≤ nw) (h32 : nw ≤ 32) (hw : window < nw) (hb : bank < 17) (hr : reg < 32) :
    Calls Try.prog 24 #[.agg #[.int .i64 nw, .slice a n cap], .int .i64 window, .int .i64 bank, .int .i64 reg, .int .u32 x] w
      fun e w' => ∃ a' cap', e = .returned (.tuple #[.agg #[.int .i64 nw, .slice a' (n + 1) cap'], .int .i64 0]) ∧ RefL w' a' cap' (L ++ [(cellM nw window bank reg, x)]) ∧ Mod NoBlk w w' := by
  obtain ⟨i0, hi, hz0, hz1, hz2⟩ := info_parts info94
  go_enter Try.func24, Try.ntmps24
  go_wp2_with fail
  refine (refPlace_ok nw a n cap window bank reg _ hnw h32 hw hb hr).mono ?_
  rintro e w1 ⟨rfl, hm⟩
  rw [cellV_def]
  have HM0 := mod2 w (.cells #[.int .i64 nw, .slice a n cap] 45) (.cells #[.int .i64 0, .slice none 0 0] 45)
  have hB0 : Blk w1 w.heap.size 45 #[.int .i64 nw, .slice a n cap] := ((Blk.new w 45 _).alloc _).mod hm (fun h => h)
  have hB1 : Blk w1 (w.heap.size + 1) 45 #[.int .i64 0, .slice none 0 0] := by
    have := Blk.new (w.alloc (.cells #[.int .i64 nw, .slice a n cap] 45)) 45 #[.int .i64 0, .slice none 0 0]
    exact (show Blk _ (w.heap.size + 1) _ _ by simpa using this).mod hm (fun h => h)
  have hM : Mod NoBlk w w1 := HM0.trans hm
  have hR := hL.mod hM
  clear HM0 hm
  obtain ⟨⟨c0, c1, c2⟩, hc⟩ : ∃ c, cellM nw window bank reg = c := ⟨_, rfl⟩
  rw [hc]
  have HC := Lib.hid hc
  clear hc
  simp only
  generalize hg1 : w.heap.size + 1 = g1 at *
  generalize hg0 : w.heap.size = g0 at *
  have hg01 : g0 ≠ g1 := by omega
  have HGE : Hid (w.heap.size ≤ g1) := by show _ ≤ _; omega
  have HM := Lib.hid hM
  clear hM hg0 hg1
  go_wp2
  have hA0 := hB0.alloc (.cells #[.int .i64 c0, .int .i64 c1, .int .i64 c2] 90)
  have hA1 := hB1.alloc (.cells #[.int .i64 c0, .int .i64 c1, .int .i64 c2] 90)
  have hA2 := Blk.new w1 90 #[.int .i64 c0, .int .i64 c1, .int .i64 c2]
  have hMA := HM.out.alloc (.cells #[.int .i64 c0, .int .i64 c1, .int .i64 c2] 90)
  have hRA := hR.mod ((Mod.refl NoBlk w1).alloc (.cells #[.int .i64 c0, .int .i64 c1, .int .i64 c2] 90))
  have hl1 := hB1.lt
  have hl0 := hB0.lt
  generalize w1.alloc (.cells #[.int .i64 c0, .int .i64 c1, .int .i64 c2] 90) = W at *
  have hg02 : g0 ≠ w1.heap.size := by omega
  have hg12 : g1 ≠ w1.heap.size := by omega
  generalize w1.heap.size = g2 at *
  clear hB0 hB1 hR HM hl0 hl1
  obtain ⟨b, rfl, hbl, hcap, _⟩ := hRA.at_ (by omega)
  have hMA' := Lib.hid hMA
  have hRA' := Lib.hid hRA
  have q0 := hA0.cell 0
  have q1 := hA0.cell 1
  have q2 := hA2.cell 0
  have q3 := hA2.cell 1
  have q4 := hA2.cell 2
  have q5 := hA1.cell 0
  have q6 := hA1.cell 1
  have q7 := hA1.frozen 0
  have q8 := hA1.frozen 1
  simp only [List.getElem?_toArray, List.getElem?_cons_zero, List.getElem?_cons_succ] at q0 q1 q2 q3 q4 q5 q6
  have l0 := hA0.lt
  have l1 := hA1.lt
  have l2 := hA2.lt
  clear hA0 hA1 hA2 hMA hRA
  have K1 : Hid ((saidCells L).length = n * 4) := by show _ = _; rw [saidCells_length, hn]
  have K4 := Lib.hid (saidCells_one L)
  have HI := Lib.hid hi
  have HZ0 := Lib.hid hz0
  have HZ1 := Lib.hid hz1
  have HZ2 := Lib.hid hz2
  have HNN := Lib.hid hn
  have HL0 := Lib.hid hL
  clear hi hz0 hz1 hz2 hn hL
  have E1 : Hid (((W.alloc (.cells #[] 94)).drew).heap[W.heap.size]? = some (.cells #[] 94 (0, 0))) := heap_alloc_new W _
  have E2 : Hid ((((W.alloc (.cells #[] 94)).alloc (.cells #[.int .i64 c0, .int .i64 c1, .int .i64 c2, .int .u32 x] 94)).drew).heap[W.heap.size]? = some (.cells #[] 94 (0, 0))) := heap_alloc2_old W _ _
  have E3 : Hid ((((W.alloc (.cells #[.int .i64 c0, .int .i64 c1, .int .i64 c2, .int .u32 x] 94)).alloc (.cells #[] 94)).drew).heap[W.heap.size + 1]? = some (.cells #[] 94 (0, 0))) := heap_alloc2_new W _ _
  have F2 : Hid ((((W.alloc (.cells #[] 94)).alloc (.cells #[.int .i64 c0, .int .i64 c1, .int .i64 c2, .int .u32 x] 94)).drew).heap[W.heap.size + 1]? = some (.cells #[.int .i64 c0, .int .i64 c1, .int .i64 c2, .int .u32 x] 94 (0, 0))) := heap_alloc2_new W _ _
  have F3 : Hid ((((W.alloc (.cells #[.int .i64 c0, .int .i64 c1, .int .i64 c2, .int .u32 x] 94)).alloc (.cells #[] 94)).drew).heap[W.heap.size]? = some (.cells #[.int .i64 c0, .int .i64 c1, .int .i64 c2, .int .u32 x] 94 (0, 0))) := heap_alloc2_old W _ _
  have HS : Hid (∀ w', Mod (fun k => k = g1) W w' → w'.cell? ⟨g0, 0, none⟩ = some (.int .i64 nw) ∧ w'.cell? ⟨g0, 1, none⟩ = some (.slice (some ⟨b, 0, none⟩) n cap) ∧ w'.cell? ⟨g2, 0, none⟩ = some (.int .i64 c0) ∧ w'.cell? ⟨g2, 1, none⟩ = some (.int .i64 c1) ∧ w'.cell? ⟨g2, 2, none⟩ = some (.int .i64 c2)) := by
    intro w' hm
    refine ⟨?_, ?_, ?_, ?_, ?_⟩
    · rw [hm.cell l0 hg01]; exact q0
    · rw [hm.cell l0 hg01]; exact q1
    · rw [hm.cell l2 (Ne.symm hg12)]; exact q2
    · rw [hm.cell l2 (Ne.symm hg12)]; exact q3
    · rw [hm.cell l2 (Ne.symm hg12)]; exact q4
  have HQ : Hid (∀ w', Mod NoBlk W w' → w'.cell? ⟨g1, 0, none⟩ = some (.int .i64 0) ∧ w'.cell? ⟨g1, 1, none⟩ = some (.slice none 0 0) ∧ w'.frozen? ⟨g1, 0, none⟩ = false ∧ w'.frozen? ⟨g1, 1, none⟩ = false) := by
    intro w' hm
    refine ⟨?_, ?_, ?_, ?_⟩
    · rw [hm.cell l1 (fun h => h)]; exact q5
    · rw [hm.cell l1 (fun h => h)]; exact q6
    · rw [hm.frozen l1 (fun h => h)]; exact q7
    · rw [hm.frozen l1 (fun h => h)]; exact q8
  clear q5 q6 q7 q8
  go_region_held3 (fun w' => w'.cell? ⟨g0, 0, none⟩ = some (.int .i64 nw) ∧ w'.cell? ⟨g0, 1, none⟩ = some (.slice (some ⟨b, 0, none⟩) n cap) ∧ w'.cell? ⟨g2, 0, none⟩ = some (.int .i64 c0) ∧ w'.cell? ⟨g2, 1, none⟩ = some (.int .i64 c1) ∧ w'.cell? ⟨g2, 2, none⟩ = some (.int .i64 c2))
    ((refine HS.out _ ?_; repeat (first | exact hm4.of_none | exact hm3.of_none | exact Mod.refl _ _ | apply Mod.setHere | apply Mod.drew | apply Mod.alloc)))
    (first
      | (refine step_append_lies _ (by rfl) (.tmp 28) (.tmp 30) 43 (by rfl) 0 94 i0 _ 4 32 Try.underlying43 HI.out HZ0.out HZ1.out HZ2.out rfl (by omega) _ 0 [] (by rfl) (emptyOwn _ _ (by first | exact E1.out | exact E2.out | exact E3.out)) ⟨b, 0, none⟩ n cap (saidCells L) (by rfl) K1.out (RefL.news (hRA'.out.mod (by repeat (first | exact Mod.refl _ _ | apply Mod.drew | apply Mod.alloc)))) K4.out hne (by unfold maxLen; omega) (by omega) (Nat.zero_le _) _ rfl ?_
         intro g3 c3 w3 hown3 hgrow3 hat3 hlt3
         rw [Nat.zero_add, List.nil_append] at hown3
         rw [Nat.zero_add]
         have hm3 : Mod NoBlk W w3 := Mod.grown (by repeat (first | exact Mod.refl _ _ | apply Mod.drew | apply Mod.alloc)) hgrow3 (fun k e hk => by simp [Value.ownBlock] at e; omega)
         have hg3 : W.heap.size ≤ g3 := by (rcases hat3 with h | h <;> first | omega | (simp [Value.ownBlock] at h; omega)))
      | (refine step_append_lies _ (by rfl) (.tmp 31) (.tmp 35) 43 (by rfl) 0 94 i0 _ 4 32 Try.underlying43 HI.out HZ0.out HZ1.out HZ2.out rfl (by omega) (.slice (some ⟨g3, 0, none⟩) n c3) n (saidCells L) (by rfl) (by first | exact hown3 | exact hown3.alloc _) _ 1 1 [.int .i64 c0, .int .i64 c1, .int .i64 c2, .int .u32 x] (by rfl) (by rfl) (by first | exact World.news_of_block (cs := #[.int .i64 c0, .int .i64 c1, .int .i64 c2, .int .u32 x]) (heap_alloc_new w3 _) | exact World.news_of_block (cs := #[.int .i64 c0, .int .i64 c1, .int .i64 c2, .int .u32 x]) ((hgrow3.block _ (by simp) (by simp [Value.ownBlock])).trans F2.out) | exact World.news_of_block (cs := #[.int .i64 c0, .int .i64 c1, .int .i64 c2, .int .u32 x]) ((hgrow3.block _ (by simp; omega) (by simp [Value.ownBlock])).trans F3.out)) (by simp [Value.oneCell']) (by omega) (by unfold maxLen; omega) (by omega) (Nat.zero_le _) _ rfl ?_
         intro g4 c4 w4 hown4 hgrow4 hat4 hlt4
         have hm4 : Mod NoBlk W w4 := Mod.grown (by repeat (first | exact hm3 | apply Mod.drew | apply Mod.alloc)) hgrow4 (fun k e hk => by simp [Value.ownBlock] at e; omega)
         have hg4 : W.heap.size ≤ g4 := by (have hs3 := hm3.size; rcases hat4 with h | h <;> first | omega | (simp [Value.ownBlock] at h; omega))
         obtain ⟨r0, r1, r2, r3⟩ := HQ.out w4 hm4))
  all_goals
    go_wp2
    obtain ⟨f0, f1⟩ := two_cells (A := .int .i64 nw) (B := .slice (some ⟨g4, 0, none⟩) (n + 1) c4) r0 r1
    refine bodyPost_ret (v := .tuple #[.agg #[.int .i64 nw, .slice (some ⟨g4, 0, none⟩) (n + 1) c4], .int .i64 0]) (by simp [results, Try.results24, go_sem, f0, f1]) rfl ⟨_, _, rfl, ?_, ?_⟩
    · have e : (L ++ [(cellM nw window bank reg, x)]).length = n + 1 := by simp [HNN.out]
      unfold RefL
      rw [e, saidCells_append, HC.out]
      exact ownsRow_setCell_other (ownsRow_setCell_other hown4 (by simp [Value.ownBlock]; omega) _) (by simp [Value.ownBlock]; omega) _
    · exact hMA'.out.trans' ((hm4.of_none.setHere _ _).setHere _ _) (fun i hi h => absurd hi (by have := HGE.out; omega))

set_option maxRecDepth 100000 in
set_option maxHeartbeats 4000000 in
theorem refSet_nil (nw : Nat) (window bank reg : Nat) (x : Int) (w : World)
    (hnw : 2 ≤ nw) (h32 : nw ≤ 32) (hw : window < nw) (hb : bank < 17) (hr : reg < 32) :
    Calls Try.prog 24 #[.agg #[.int .i64 nw, .slice none 0 0], .int .i64 window, .int .i64 bank, .int .i64 reg, .int .u32 x] w
      fun e w' => ∃ a' cap', e = .returned (.tuple #[.agg #[.int .i64 nw, .slice a' 1 cap'], .int .i64 0]) ∧ RefL w' a' cap' [(cellM nw window bank reg, x)] ∧ Mod NoBlk w w' := by
  obtain ⟨i0, hi, hz0, hz1, hz2⟩ := info_parts info94
  go_enter Try.func24, Try.ntmps24
  go_wp2_with fail
  refine (refPlace_ok nw none 0 0 window bank reg _ hnw h32 hw hb hr).mono ?_
  rintro e w1 ⟨rfl, hm⟩
  rw [cellV_def]
  have HM0 := mod2 w (.cells #[.int .i64 nw, .slice none 0 0] 45) (.cells #[.int .i64 0, .slice none 0 0] 45)
  have hB0 : Blk w1 w.heap.size 45 #[.int .i64 nw, .slice none 0 0] := ((Blk.new w 45 _).alloc _).mod hm (fun h => h)
  have hB1 : Blk w1 (w.heap.size + 1) 45 #[.int .i64 0, .slice none 0 0] := by
    have := Blk.new (w.alloc (.cells #[.int .i64 nw, .slice none 0 0] 45)) 45 #[.int .i64 0, .slice none 0 0]
    exact (show Blk _ (w.heap.size + 1) _ _ by simpa using this).mod hm (fun h => h)
  have hM : Mod NoBlk w w1 := HM0.trans hm
  clear HM0 hm
  obtain ⟨⟨c0, c1, c2⟩, hc⟩ : ∃ c, cellM nw window bank reg = c := ⟨_, rfl⟩
  rw [hc]
  have HC := Lib.hid hc
  clear hc
  simp only
  generalize hg1 : w.heap.size + 1 = g1 at *
  generalize hg0 : w.heap.size = g0 at *
  have hg01 : g0 ≠ g1 := by omega
  have HGE : Hid (w.heap.size ≤ g1) := by show _ ≤ _; omega
  have HM := Lib.hid hM
  clear hM hg0 hg1
  go_wp2
  have hA0 := hB0.alloc (.cells #[.int .i64 c0, .int .i64 c1, .int .i64 c2] 90)
  have hA1 := hB1.alloc (.cells #[.int .i64 c0, .int .i64 c1, .int .i64 c2] 90)
  have hA2 := Blk.new w1 90 #[.int .i64 c0, .int .i64 c1, .int .i64 c2]
  have hMA := HM.out.alloc (.cells #[.int .i64 c0, .int .i64 c1, .int .i64 c2] 90)
  have hl1 := hB1.lt
  have hl0 := hB0.lt
  generalize w1.alloc (.cells #[.int .i64 c0, .int .i64 c1, .int .i64 c2] 90) = W at *
  have hg02 : g0 ≠ w1.heap.size := by omega
  have hg12 : g1 ≠ w1.heap.size := by omega
  generalize w1.heap.size = g2 at *
  clear hB0 hB1 HM hl0 hl1
  have hMA' := Lib.hid hMA
  have q0 := hA0.cell 0
  have q1 := hA0.cell 1
  have q2 := hA2.cell 0
  have q3 := hA2.cell 1
  have q4 := hA2.cell 2
  have q5 := hA1.cell 0
  have q6 := hA1.cell 1
  have q7 := hA1.frozen 0
  have q8 := hA1.frozen 1
  simp only [List.getElem?_toArray, List.getElem?_cons_zero, List.getElem?_cons_succ] at q0 q1 q2 q3 q4 q5 q6
  have l0 := hA0.lt
  have l1 := hA1.lt
  have l2 := hA2.lt
  clear hA0 hA1 hA2 hMA
  have HI := Lib.hid hi
  have HZ0 := Lib.hid hz0
  have HZ1 := Lib.hid hz1
  have HZ2 := Lib.hid hz2
  clear hi hz0 hz1 hz2
  have E1 : Hid (((W.alloc (.cells #[] 94)).drew).heap[W.heap.size]? = some (.cells #[] 94 (0, 0))) := heap_alloc_new W _
  have E2 : Hid ((((W.alloc (.cells #[] 94)).alloc (.cells #[.int .i64 c0, .int .i64 c1, .int .i64 c2, .int .u32 x] 94)).drew).heap[W.heap.size]? = some (.cells #[] 94 (0, 0))) := heap_alloc2_old W _ _
  have E3 : Hid ((((W.alloc (.cells #[.int .i64 c0, .int .i64 c1, .int .i64 c2, .int .u32 x] 94)).alloc (.cells #[] 94)).drew).heap[W.heap.size + 1]? = some (.cells #[] 94 (0, 0))) := heap_alloc2_new W _ _
  have F2 : Hid ((((W.alloc (.cells #[] 94)).alloc (.cells #[.int .i64 c0, .int .i64 c1, .int .i64 c2, .int .u32 x] 94)).drew).heap[W.heap.size + 1]? = some (.cells #[.int .i64 c0, .int .i64 c1, .int .i64 c2, .int .u32 x] 94 (0, 0))) := heap_alloc2_new W _ _
  have F3 : Hid ((((W.alloc (.cells #[.int .i64 c0, .int .i64 c1, .int .i64 c2, .int .u32 x] 94)).alloc (.cells #[] 94)).drew).heap[W.heap.size]? = some (.cells #[.int .i64 c0, .int .i64 c1, .int .i64 c2, .int .u32 x] 94 (0, 0))) := heap_alloc2_old W _ _
  have HS : Hid (∀ w', Mod (fun k => k = g1) W w' → w'.cell? ⟨g0, 0, none⟩ = some (.int .i64 nw) ∧ w'.cell? ⟨g0, 1, none⟩ = some (.slice none 0 0) ∧ w'.cell? ⟨g2, 0, none⟩ = some (.int .i64 c0) ∧ w'.cell? ⟨g2, 1, none⟩ = some (.int .i64 c1) ∧ w'.cell? ⟨g2, 2, none⟩ = some (.int .i64 c2)) := by
    intro w' hm
    refine ⟨?_, ?_, ?_, ?_, ?_⟩
    · rw [hm.cell l0 hg01]; exact q0
    · rw [hm.cell l0 hg01]; exact q1
    · rw [hm.cell l2 (Ne.symm hg12)]; exact q2
    · rw [hm.cell l2 (Ne.symm hg12)]; exact q3
    · rw [hm.cell l2 (Ne.symm hg12)]; exact q4
  have HQ : Hid (∀ w', Mod NoBlk W w' → w'.cell? ⟨g1, 0, none⟩ = some (.int .i64 0) ∧ w'.cell? ⟨g1, 1, none⟩ = some (.slice none 0 0) ∧ w'.frozen? ⟨g1, 0, none⟩ = false ∧ w'.frozen? ⟨g1, 1, none⟩ = false) := by
    intro w' hm
    refine ⟨?_, ?_, ?_, ?_⟩
    · rw [hm.cell l1 (fun h => h)]; exact q5
    · rw [hm.cell l1 (fun h => h)]; exact q6
    · rw [hm.frozen l1 (fun h => h)]; exact q7
    · rw [hm.frozen l1 (fun h => h)]; exact q8
  clear q5 q6 q7 q8
  go_region_held3 (fun w' => w'.cell? ⟨g0, 0, none⟩ = some (.int .i64 nw) ∧ w'.cell? ⟨g0, 1, none⟩ = some (.slice none 0 0) ∧ w'.cell? ⟨g2, 0, none⟩ = some (.int .i64 c0) ∧ w'.cell? ⟨g2, 1, none⟩ = some (.int .i64 c1) ∧ w'.cell? ⟨g2, 2, none⟩ = some (.int .i64 c2))
    ((refine HS.out _ ?_; repeat (first | exact hm4.of_none | exact Mod.refl _ _ | apply Mod.setHere | apply Mod.drew | apply Mod.alloc)))
    (first
      | (refine step_append_none (by rfl) (.tmp 28) (.tmp 30) 43 (by rfl) 0 94 i0 4 Try.underlying43 HI.out _ 0 [] (by rfl) (emptyOwn _ _ (by first | exact E1.out | exact E2.out | exact E3.out)) (by rfl) ?_)
      | (refine step_append_lies _ (by rfl) (.tmp 31) (.tmp 35) 43 (by rfl) 0 94 i0 _ 4 32 Try.underlying43 HI.out HZ0.out HZ1.out HZ2.out rfl (by omega) _ 0 [] (by rfl) (emptyOwn _ _ (by first | exact E2.out | exact E3.out)) _ 1 1 [.int .i64 c0, .int .i64 c1, .int .i64 c2, .int .u32 x] (by rfl) (by rfl) (by first | exact World.news_of_block (cs := #[.int .i64 c0, .int .i64 c1, .int .i64 c2, .int .u32 x]) F2.out | exact World.news_of_block (cs := #[.int .i64 c0, .int .i64 c1, .int .i64 c2, .int .u32 x]) F3.out) (by simp [Value.oneCell']) (by omega) (by unfold maxLen; omega) (by omega) (Nat.zero_le _) _ rfl ?_
         intro g4 c4 w4 hown4 hgrow4 hat4 hlt4
         rw [Nat.zero_add, List.nil_append] at hown4
         rw [Nat.zero_add]
         have hm4 : Mod NoBlk W w4 := Mod.grown (by repeat (first | exact Mod.refl _ _ | apply Mod.drew | apply Mod.alloc)) hgrow4 (fun k e hk => by simp [Value.ownBlock] at e; omega)
         have hg4 : W.heap.size ≤ g4 := by (rcases hat4 with h | h <;> first | omega | (simp [Value.ownBlock] at h; omega))
         obtain ⟨r0, r1, r2, r3⟩ := HQ.out w4 hm4))
  all_goals
    go_wp2
    obtain ⟨f0, f1⟩ := two_cells (A := .int .i64 nw) (B := .slice (some ⟨g4, 0, none⟩) 1 c4) r0 r1
    refine bodyPost_ret (v := .tuple #[.agg #[.int .i64 nw, .slice (some ⟨g4, 0, none⟩) 1 c4], .int .i64 0]) (by simp [results, Try.results24, go_sem, f0, f1]) rfl ⟨_, _, rfl, ?_, ?_⟩
    · unfold RefL
      rw [HC.out]
      exact ownsRow_setCell_other (ownsRow_setCell_other hown4 (by simp [Value.ownBlock]; omega) _) (by simp [Value.ownBlock]; omega) _
    · exact hMA'.out.trans' ((hm4.of_none.setHere _ _).setHere _ _) (fun i hi h => absurd hi (by have := HGE.out; omega))

end Go.Proofs.Ytjaapempahigaaa
