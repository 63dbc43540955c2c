/- Before. -/
import Derived.Test.YtjaapempahigaaaFl10
import Derived.Test.YtjaapempahigaaaAny1
import Derived.Test.YtjaapempahigaaaAny2
namespace Go.Proofs.Ytjaapempahigaaa
open Go.RowKit Go.Shelf
attribute [local go_sem] Oper.semAt_some

theorem info65 : (Try.prog.info? 65).map (fun i => (i.zero, i.size, i.bytes)) = some (some (.slice none 0 0), 1, 24) := by kernel_rfl

/-- From where one goes to b. -/
def predOf (succ : Nat → List Nat) (N b : Nat) : List Nat := (List.range N).filter fun k => decide (b ∈ succ k)

/-- Where Before stands after k blocks. -/
def BeforeAt (w : World) (gf g1 g3 N : Nat) (succ : Nat → List Nat) (k : Nat) (ds : List Nat) (F : Array Value) (wr : World) : Prop :=
  Mod NoBlk w wr ∧ Blk wr gf 63 F ∧ RowsAt wr (w.heap.size + 3) g1 N (fun b => (List.range k).filter fun j => decide (b ∈ succ j)) ∧ Blk wr g3 68 #[.slice (some ⟨g1, 0, none⟩) N N] ∧ ds.Nodup ∧ ∀ D ∈ ds, wr.heap[D]? = some (.deferred (some [])) ∧ w.heap.size ≤ D

/-- Where the round's one statement stands, whatever of it has been done: L. -/
def BodyI (T : Value → Value → Value → Value → Value → Value → Value → Value → Value → Value → Array Value) (N g1 zv k n c B : Nat) (oa : Option Addr) (R : List Nat) (W : World) (L : Array Bool) (a' : Act) (w' : World) : Prop :=
  ∃ t20 t21 t22 t23 t24 t25 t26 t27 t28 t29 : Value, a' = { tmps := T t20 t21 t22 t23 t24 t25 t26 t27 t28 t29, defers := [] } ∧
  (L[0]? = some true → t20 = .slice (some ⟨g1, 0, none⟩) N N) ∧ (L[1]? = some true → t21 = .int .i64 (zv : Nat)) ∧ (L[2]? = some true → t22 = .slice (some ⟨g1, 0, none⟩) N N) ∧ (L[3]? = some true → t23 = .int .i64 (zv : Nat)) ∧
  (L[4]? = some true → t24 = .pointer (some ⟨g1, zv, none⟩)) ∧ (L[5]? = some true → t25 = .slice oa n c) ∧ (L[6]? = some true → t26 = .int .i64 k) ∧ (L[9]? = some true → t29 = .pointer (some ⟨g1, zv, none⟩)) ∧
  (L[10]? ≠ some true → Mod (fun j => (Value.slice oa n c).ownBlock = some j) W w' ∧ (L[7]? = some true → L[8]? ≠ some true → ∃ tb, t27 = .slice (some ⟨tb, 0, none⟩) 1 1 ∧ W.heap.size ≤ tb ∧ Blk w' tb 3 #[.int .i64 k]) ∧
    (L[8]? ≠ some true → Mod NoBlk W w') ∧ (L[8]? = some true → ∃ g' c', t28 = .slice (some ⟨g', 0, none⟩) (n + 1) c' ∧ Ints w' (B) t28 (R ++ [k]) ∧ ((Value.slice oa n c).ownBlock = some g' ∨ W.heap.size ≤ g'))) ∧
  (L[10]? = some true → ∃ w1 g' c', w' = w1.setCell ⟨g1, zv, none⟩ (.slice (some ⟨g', 0, none⟩) (n + 1) c') ∧ Mod (fun j => (Value.slice oa n c).ownBlock = some j) W w1 ∧ Ints w1 (B) (.slice (some ⟨g', 0, none⟩) (n + 1) c') (R ++ [k]) ∧ ((Value.slice oa n c).ownBlock = some g' ∨ W.heap.size ≤ g')) ∧ (L[8]? = some true → L[7]? = some true) ∧ (L[10]? = some true → ∀ j, j < 10 → L[j]? = some true)

set_option maxRecDepth 100000 in
set_option maxHeartbeats 4000000 in
theorem before_in (F : Fence) (n : Nat) (hf : F.fn 32) (hf2 : F.fn 49) (hf3 : F.fn 60) (hro : F.round = none) (hn : 4 ≤ n) (nm : ByteArray) (x y : Int) (ob : Option Addr) (N cap : Nat) (succ : Nat → List Nat) (w : World) (hG : GraphAt w ob N succ) (hN : N ≤ 60) :
    CallsIn F n Try.prog 32 #[fnV nm x y ob N cap] w fun e w' => ∃ g, e = .returned (.slice (some ⟨g, 0, none⟩) N N) ∧ RowsAt w' w.heap.size g N (predOf succ N) ∧ w.heap.size ≤ g ∧ Mod NoBlk w w' := by
  have h1 : 1 ≤ n := by omega
  have hmk := fun W => Go.run_make_row' (P := Try.prog) 68 65 (.slice none 0 0) 24 Try.underlying68 info65 rfl .i64 .i64 N (by omega) (by omega) W
  obtain ⟨i0, hi0, hz0, hz1, hz2⟩ := info_parts info3
  refine callsIn_of_wp_marks Try.func32 rfl hf ?_ hro
  simp only [Try.ntmps32, List.size_toArray, List.length_cons, List.length_nil, Nat.reduceAdd, Nat.reduceSub, Array.replicate_succ, Array.replicate_zero, List.push_toArray, List.append_toArray, List.nil_append, List.cons_append]
  gi_wp2
  have hm0 : Mod NoBlk w (((w.alloc (.cells #[.string nm, .int .i64 x, .int .i64 y, .slice ob N cap] 63)).alloc (.cells (madeCells #[.slice none 0 0] N) 65)).alloc (.cells #[.slice (some ⟨w.heap.size + 1, 0, none⟩) N N] 68)) := (((Mod.refl _ w).alloc _).alloc _).alloc _
  have hF0 := ((Blk.new w 63 #[.string nm, .int .i64 x, .int .i64 y, .slice ob N cap]).alloc (.cells (madeCells #[.slice none 0 0] N) 65)).alloc (.cells #[.slice (some ⟨w.heap.size + 1, 0, none⟩) N N] 68)
  have hR0 := RowsQ.new (Q := fun _ => True) (w.alloc (.cells #[.string nm, .int .i64 x, .int .i64 y, .slice ob N cap] 63)) (w.heap.size + 3) N
  have hmA : Mod NoBlk ((w.alloc (.cells #[.string nm, .int .i64 x, .int .i64 y, .slice ob N cap] 63)).alloc (.cells (madeCells #[.slice none 0 0] N) 65)) (((w.alloc (.cells #[.string nm, .int .i64 x, .int .i64 y, .slice ob N cap] 63)).alloc (.cells (madeCells #[.slice none 0 0] N) 65)).alloc (.cells #[.slice (some ⟨w.heap.size + 1, 0, none⟩) N N] 68)) := (Mod.refl _ _).alloc _
  have hR1 := hR0.mod hmA (fun h => h) (fun _ _ _ h => h)
  have hO0 := Blk.new ((w.alloc (.cells #[.string nm, .int .i64 x, .int .i64 y, .slice ob N cap] 63)).alloc (.cells (madeCells #[.slice none 0 0] N) 65)) 68 #[.slice (some ⟨w.heap.size + 1, 0, none⟩) N N]
  rw [World.size_alloc] at hR1
  rw [World.size_alloc, World.size_alloc] at hO0
  have hsz : (((w.alloc (.cells #[.string nm, .int .i64 x, .int .i64 y, .slice ob N cap] 63)).alloc (.cells (madeCells #[.slice none 0 0] N) 65)).alloc (.cells #[.slice (some ⟨w.heap.size + 1, 0, none⟩) N N] 68)).heap.size = w.heap.size + 3 := by simp
  generalize (((w.alloc (.cells #[.string nm, .int .i64 x, .int .i64 y, .slice ob N cap] 63)).alloc (.cells (madeCells #[.slice none 0 0] N) 65)).alloc (.cells #[.slice (some ⟨w.heap.size + 1, 0, none⟩) N N] 68)) = W0 at *
  obtain ⟨g1, hg1⟩ : ∃ g1, w.heap.size + 1 = g1 := ⟨_, rfl⟩
  obtain ⟨g3, hg3⟩ : ∃ g3, g1 + 1 = g3 := ⟨_, rfl⟩
  obtain ⟨gf, hgf⟩ : ∃ gf, w.heap.size = gf := ⟨_, rfl⟩
  rw [hg1] at hR1 hO0 ⊢
  rw [hg3] at hO0 ⊢
  have HGE : Hid (gf = w.heap.size ∧ g1 = w.heap.size + 1 ∧ g3 = w.heap.size + 2) := ⟨hgf.symm, hg1.symm, by omega⟩
  rw [hgf] at hF0 ⊢
  clear hmk hR0 hmA hg1 hg3 hgf
  refine wpIn_loop (fun a wr => ∃ (k : Nat) (ds : List Nat) (u4 u5 u14 u15 u16 u17 u18 u19 u20 u21 u22 u23 u24 u25 u26 u27 u28 u29 u30 : Value), k ≤ N ∧ a = { tmps := #[fnV nm x y ob N cap, .pointer (some ⟨gf, 0, none⟩), .slice none 0 0, .pointer (some ⟨g3, 0, none⟩), u4, u5, .pointer (some ⟨gf, 3, none⟩), .slice ob N cap, .int .i64 N, .slice (some ⟨g1, 0, none⟩) N N, .pointer (some ⟨gf, 3, none⟩), .slice ob N cap, .int .i64 N, .int .i64 k, u14, u15, u16, u17, u18, u19, u20, u21, u22, u23, u24, u25, u26, u27, u28, u29, u30, undef], defers := marks ds } ∧ BeforeAt w gf g1 g3 N succ k ds #[.string nm, .int .i64 x, .int .i64 y, .slice ob N cap] wr) (fun a _ => N - (intOf (a.tmps.getD 13 undef)).toNat) ?_ ?_
  · refine ⟨0, [], undef, undef, undef, undef, undef, undef, undef, undef, undef, undef, undef, undef, undef, undef, undef, undef, undef, undef, undef, by omega, ?_, hm0, hF0, ?_, ?_, List.nodup_nil, fun _ h => by cases h⟩
    · rfl
    · exact hR1.congr (fun i _ => by simp)
    · exact hO0
  · rintro a wr ⟨k, ds, u4, u5, u14, u15, u16, u17, u18, u19, u20, u21, u22, u23, u24, u25, u26, u27, u28, u29, u30, hk, rfl, hm, hF, hR, hO, hds, hD⟩
    by_cases hlt : k < N
    · have q0 := hO.cell 0
      simp only [List.getElem?_toArray, List.getElem?_cons_zero] at q0
      obtain ⟨f0, f1, f2, f3, l0⟩ := fn_cells nm x y ob N cap wr gf hF
      gi_wp2_with (gi_at_call 49; refine (goes_in F (n - 1) hf2 hro nm x y ob N cap k _).mono ?_; rintro e w' ⟨rfl, rfl⟩)
      have hm3 : Mod NoBlk wr (((wr.alloc (.cells #[.int .i64 k] 3)).alloc (.cells #[.string nm, .int .i64 x, .int .i64 y, .slice ob N cap] 63)).alloc (.cells #[.int .i64 k] 3)) := (((Mod.refl _ wr).alloc _).alloc _).alloc _
      have bB := ((Blk.new wr 3 #[.int .i64 k]).alloc (.cells #[.string nm, .int .i64 x, .int .i64 y, .slice ob N cap] 63)).alloc (.cells #[.int .i64 k] 3)
      have bF := (Blk.new (wr.alloc (.cells #[.int .i64 k] 3)) 63 #[.string nm, .int .i64 x, .int .i64 y, .slice ob N cap]).alloc (.cells #[.int .i64 k] 3)
      have bN := Blk.new ((wr.alloc (.cells #[.int .i64 k] 3)).alloc (.cells #[.string nm, .int .i64 x, .int .i64 y, .slice ob N cap] 63)) 3 #[.int .i64 k]
      rw [World.size_alloc] at bF
      rw [World.size_alloc, World.size_alloc] at bN
      have hszk : (((wr.alloc (.cells #[.int .i64 k] 3)).alloc (.cells #[.string nm, .int .i64 x, .int .i64 y, .slice ob N cap] 63)).alloc (.cells #[.int .i64 k] 3)).heap.size = wr.heap.size + 3 := by simp
      generalize (((wr.alloc (.cells #[.int .i64 k] 3)).alloc (.cells #[.string nm, .int .i64 x, .int .i64 y, .slice ob N cap] 63)).alloc (.cells #[.int .i64 k] 3)) = Wk at *
      obtain ⟨s, hs⟩ : ∃ s, wr.heap.size = s := ⟨_, rfl⟩
      rw [hs] at bB bF bN hszk ⊢
      have cN := bN.cell 0
      have cF := bF.cell 3
      simp only [List.getElem?_toArray, List.getElem?_cons_zero, List.getElem?_cons_succ] at cN cF
      have hsw : w.heap.size + 3 ≤ s := by have := hO.lt; have := HGE.out; omega
      have hRk : RowsQ Wk (w.heap.size + 3) g1 N (fun b => b < s ∨ s + 3 ≤ b) (fun b => (List.range k).filter fun j => decide (b ∈ succ j)) := (hR.turn (Nat.le_refl _) (fun b hb _ => .inl (by omega))).mod hm3 (fun h => h) (fun _ _ _ h => h)
      have hnx : nextOf N succ (k : Int) = succ k := by unfold nextOf; rw [if_pos (by omega)]; rfl
      refine wpIn_rangeFunc_ownG hro h1 (gf := 60) (lb := #[.pointer (some ⟨s + 1 + 1, 0, none⟩), .pointer (some ⟨s + 1, 0, none⟩)]) rfl hf3 (enters_of Try.func60 (by kernel_rfl) rfl)
        (goes_stops_fin F (n - 1) hf3 hro (by omega) (s + 1 + 1) (s + 1) (fun j => s + 3 ≤ j ∨ (w.heap.size ≤ j ∧ j < s)) (by omega) k ob N cap succ Wk cN (by omega) (by omega) cF (hG.mod (hm.trans hm3)))
        (fun h k => h.trans k) (fun W l o o' hl _ _ _ => mod_putObj o' (.inl (by omega))) (Below.refl _ _) (fun _ => rfl)
        (fun (pre : List (Fin N)) W => RowsQ W (w.heap.size + 3) g1 N (fun b => b < s ∨ s + 3 ≤ b) (fun b => ((List.range k).filter fun j => decide (b ∈ succ j)) ++ List.replicate ((pre.map (·.val)).count b) k) ∧ Blk W g3 68 #[.slice (some ⟨g1, 0, none⟩) N N] ∧ Blk W gf 63 #[.string nm, .int .i64 x, .int .i64 y, .slice ob N cap] ∧ Blk W s 3 #[.int .i64 k] ∧ (∀ D ∈ ds, W.heap[D]? = some (.deferred (some [])) ∧ w.heap.size ≤ D) ∧ Mod NoBlk w W ∧ s + 3 ≤ W.heap.size)
        (fun _ _ _ => False)
        ?own
        (fun _ _ _ _ _ hs _ _ => hs)
        ⟨hRk.congr (fun _ _ => by simp), hO.mod hm3 (fun h => h), hF.mod hm3 (fun h => h), bB, fun D hD' => ⟨(hm3.block D (by have := (Array.getElem?_eq_some_iff.1 (hD D hD').1).1; exact this) (fun h => h)).trans (hD D hD').1, (hD D hD').2⟩, hm.trans hm3, by omega⟩
        (fun z => { tmps := #[fnV nm x y ob N cap, .pointer (some ⟨gf, 0, none⟩), .slice none 0 0, .pointer (some ⟨g3, 0, none⟩), .pointer (some ⟨s, 0, none⟩), .int .i64 (z.val : Nat), .pointer (some ⟨gf, 3, none⟩), .slice ob N cap, .int .i64 N, .slice (some ⟨g1, 0, none⟩) N N, .pointer (some ⟨gf, 3, none⟩), .slice ob N cap, .int .i64 N, .int .i64 k, .bool true, .int .i64 k, fnV nm x y ob N cap, .int .i64 k, .func (.func 60) #[] #[.pointer (some ⟨s + 1 + 1, 0, none⟩), .pointer (some ⟨s + 1, 0, none⟩)], .int .i64 (z.val : Nat), u20, u21, u22, u23, u24, u25, u26, u27, u28, u29, u30, undef], defers := [] }) ?assign ?body ?done ?stop
      case own =>
        rintro pre A A' row ⟨hRW, hOW, hFW, hbW, hDW, hmW, hsW⟩ hg hr
        have hmr : Mod (fun j => row = some j) A A' := ⟨hg.os, hg.tape, hg.output, hg.size, fun j hj hS => hg.block j hj (fun e => hS e.symm)⟩
        have hcell : ∀ b t cs, Blk A b t cs → ¬ row = some b := fun b t cs hb e => by
          obtain ⟨_, o, ho, hc⟩ := hr b e
          unfold Blk at hb
          rw [hb] at ho
          cases ho
          cases hc
        obtain ⟨cs1, hb1⟩ := hRW.blk
        refine ⟨hRW.mod hmr (hcell _ _ _ hb1) (fun b cs hb => hcell _ _ _ hb), hOW.mod hmr (hcell _ _ _ hOW), hFW.mod hmr (hcell _ _ _ hFW), hbW.mod hmr (hcell _ _ _ hbW), fun D hD' => ⟨(hmr.block D ?_ (fun e => ?_)).trans (hDW D hD').1, (hDW D hD').2⟩, hmW.trans' hmr (fun i hi e => absurd (hr i e).1 (by omega)), Nat.le_trans hsW hg.size⟩
        · exact (Array.getElem?_eq_some_iff.1 (hDW D hD').1).1
        · have h1 := (hr D e).1
          have h2 := (Array.getElem?_eq_some_iff.1 (hD D hD').1).1
          omega
      case assign =>
        intro l z W K hK
        gi_wp2
        exact hK
      case body =>
        rintro l pre z W ⟨hRW, hOW, hFW, hbW, hDW, hmW, hsW⟩ hltn
        obtain ⟨v, hcv, hIv, hQv⟩ := hRW.get z.val z.isLt
        obtain ⟨oa, c, rfl, hle, hmx⟩ := hIv.at_
        obtain ⟨R, hRd⟩ : ∃ R, ((List.range k).filter fun j => decide (z.val ∈ succ j)) ++ List.replicate ((pre.map (·.val)).count z.val) k = R := ⟨_, rfl⟩
        rw [hRd] at hIv hcv hle
        have hRl : R.length ≤ 1000 := by
          rw [← hRd, List.length_append, List.length_replicate]
          have a1 := List.length_filter_le (fun j => decide (z.val ∈ succ j)) (List.range k)
          have a2 := List.count_le_length (a := z.val) (l := pre.map (·.val))
          have a3 : (nextOf N succ (k : Int)).length ≤ 2 := by rw [hnx]; exact (hG.succ k).2.1
          simp at a1 a2
          omega
        have q0 := hOW.cell 0
        have qb := hbW.cell 0
        simp only [List.getElem?_toArray, List.getElem?_cons_zero] at q0 qb
        have hfz := hRW.frozen z.val
        have l1 := hRW.lt
        have l3 := hOW.lt
        have lb := hbW.lt
        have hzN : z.val < N := z.isLt
        generalize hzv : z.val = zv at *
        gi_wp2
        refine wpIn_region_inv (by kernel_rfl) (BodyI (fun t20 t21 t22 t23 t24 t25 t26 t27 t28 t29 => #[fnV nm x y ob N cap, .pointer (some ⟨gf, 0, none⟩), .slice none 0 0, .pointer (some ⟨g3, 0, none⟩), .pointer (some ⟨s, 0, none⟩), .int .i64 (zv : Nat), .pointer (some ⟨gf, 3, none⟩), .slice ob N cap, .int .i64 N, .slice (some ⟨g1, 0, none⟩) N N, .pointer (some ⟨gf, 3, none⟩), .slice ob N cap, .int .i64 N, .int .i64 k, .bool true, .int .i64 k, fnV nm x y ob N cap, .int .i64 k, .func (.func 60) #[] #[.pointer (some ⟨s + 1 + 1, 0, none⟩), .pointer (some ⟨s + 1, 0, none⟩)], .int .i64 (zv : Nat), t20, t21, t22, t23, t24, t25, t26, t27, t28, t29, u30, undef]) N g1 zv k R.length c (w.heap.size + 3) oa R W) ?start ?step ?fin
        case start => exact ⟨_, _, _, _, _, _, _, _, _, _, rfl, fun h => by simp at h, fun h => by simp at h, fun h => by simp at h, fun h => by simp at h, fun h => by simp at h, fun h => by simp at h, fun h => by simp at h, fun h => by simp at h, fun _ => ⟨(Mod.refl _ W).drew, fun h => by simp at h, fun _ => (Mod.refl _ W).drew, fun h => by simp at h⟩, fun h => by simp at h, fun h => by simp at h, fun h => by simp at h⟩
        case step =>
          rintro L a' w' i hLs ⟨t20, t21, t22, t23, t24, t25, t26, t27, t28, t29, rfl, h0, h1, h2, h3, h4, h5, h6, h9, hA, hB, hC8, hC10⟩ hi
          dsimp only
          have hi11 := ready_lt hi
          have hLi := ready_false hLs hi
          simp only [List.size_toArray, List.length_cons, List.length_nil, Nat.reduceAdd] at hi11 hLs
          have hn10 : L[10]? ≠ some true := fun e => by
            have := hC10 e i
            by_cases h10 : i = 10
            · rw [h10, e] at hLi; cases hLi
            · rw [this (by omega)] at hLi; cases hLi
          obtain ⟨hM, hT7, hN8, hG8⟩ := hA hn10
          have i11 : i = 0 ∨ i = 1 ∨ i = 2 ∨ i = 3 ∨ i = 4 ∨ i = 5 ∨ i = 6 ∨ i = 7 ∨ i = 8 ∨ i = 9 ∨ i = 10 := by omega
          have hn3 := row_ne_blk hIv hOW (by decide)
          obtain ⟨cs1, hb1⟩ := hRW.blk
          have hn1 := row_ne_blk hIv hb1 (by decide)
          have hns : (Value.slice oa R.length c).ownBlock ≠ some s := fun e => by have := hQv s (by rw [hRd]; exact e); omega
          have c3 := (hM.cell (p := ⟨g3, 0, none⟩) l3 hn3).trans q0
          have c1 := (hM.cell (p := ⟨g1, zv, none⟩) l1 hn1).trans hcv
          have cb := (hM.cell (p := ⟨s, 0, none⟩) lb hns).trans qb
          have fz := (hM.frozen (p := ⟨g1, zv, none⟩) l1 hn1).trans hfz
          rcases i11 with rfl | rfl | rfl | rfl | rfl | rfl | rfl | rfl | rfl | rfl | rfl
          · unfold wpOpIn
            simp only [List.getElem?_toArray, List.getElem?_cons_zero]
            go_simp
            refine ⟨_, _, _, _, _, _, _, _, _, _, rfl, fun _ => rfl, fun h => h1 (on_set h (by decide)), fun h => h2 (on_set h (by decide)), fun h => h3 (on_set h (by decide)), fun h => h4 (on_set h (by decide)), fun h => h5 (on_set h (by decide)), fun h => h6 (on_set h (by decide)), fun h => h9 (on_set h (by decide)), fun _ => ⟨hM, fun h7 h8 => hT7 (on_set h7 (by decide)) (fun e => h8 (on_keep e)), fun h8 => hN8 (fun e => h8 (on_keep e)), fun h8 => hG8 (on_set h8 (by decide))⟩, fun h => absurd (on_set h (by decide)) hn10, fun h => on_keep (hC8 (on_set h (by decide))), fun h => absurd (on_set h (by decide)) hn10⟩
          · unfold wpOpIn
            simp only [List.getElem?_toArray, List.getElem?_cons_zero, List.getElem?_cons_succ]
            go_simp
            refine ⟨_, _, _, _, _, _, _, _, _, _, rfl, fun h => h0 (on_set h (by decide)), fun _ => rfl, fun h => h2 (on_set h (by decide)), fun h => h3 (on_set h (by decide)), fun h => h4 (on_set h (by decide)), fun h => h5 (on_set h (by decide)), fun h => h6 (on_set h (by decide)), fun h => h9 (on_set h (by decide)), fun _ => ⟨hM, fun h7 h8 => hT7 (on_set h7 (by decide)) (fun e => h8 (on_keep e)), fun h8 => hN8 (fun e => h8 (on_keep e)), fun h8 => hG8 (on_set h8 (by decide))⟩, fun h => absurd (on_set h (by decide)) hn10, fun h => on_keep (hC8 (on_set h (by decide))), fun h => absurd (on_set h (by decide)) hn10⟩
          · unfold wpOpIn
            simp only [List.getElem?_toArray, List.getElem?_cons_zero, List.getElem?_cons_succ]
            go_simp
            refine ⟨_, _, _, _, _, _, _, _, _, _, rfl, fun h => h0 (on_set h (by decide)), fun h => h1 (on_set h (by decide)), fun _ => rfl, fun h => h3 (on_set h (by decide)), fun h => h4 (on_set h (by decide)), fun h => h5 (on_set h (by decide)), fun h => h6 (on_set h (by decide)), fun h => h9 (on_set h (by decide)), fun _ => ⟨hM, fun h7 h8 => hT7 (on_set h7 (by decide)) (fun e => h8 (on_keep e)), fun h8 => hN8 (fun e => h8 (on_keep e)), fun h8 => hG8 (on_set h8 (by decide))⟩, fun h => absurd (on_set h (by decide)) hn10, fun h => on_keep (hC8 (on_set h (by decide))), fun h => absurd (on_set h (by decide)) hn10⟩
          · unfold wpOpIn
            simp only [List.getElem?_toArray, List.getElem?_cons_zero, List.getElem?_cons_succ]
            go_simp
            refine ⟨_, _, _, _, _, _, _, _, _, _, rfl, fun h => h0 (on_set h (by decide)), fun h => h1 (on_set h (by decide)), fun h => h2 (on_set h (by decide)), fun _ => rfl, fun h => h4 (on_set h (by decide)), fun h => h5 (on_set h (by decide)), fun h => h6 (on_set h (by decide)), fun h => h9 (on_set h (by decide)), fun _ => ⟨hM, fun h7 h8 => hT7 (on_set h7 (by decide)) (fun e => h8 (on_keep e)), fun h8 => hN8 (fun e => h8 (on_keep e)), fun h8 => hG8 (on_set h8 (by decide))⟩, fun h => absurd (on_set h (by decide)) hn10, fun h => on_keep (hC8 (on_set h (by decide))), fun h => absurd (on_set h (by decide)) hn10⟩
          · unfold wpOpIn
            simp only [List.getElem?_toArray, List.getElem?_cons_zero, List.getElem?_cons_succ]
            obtain rfl := h2 (ready_dep (j := 2) hi rfl (by simp [Region.binds]))
            obtain rfl := h3 (ready_dep (j := 3) hi rfl (by simp [Region.binds]))
            go_simp
            refine ⟨_, _, _, _, _, _, _, _, _, _, rfl, fun h => h0 (on_set h (by decide)), fun h => h1 (on_set h (by decide)), fun h => h2 (on_set h (by decide)), fun h => h3 (on_set h (by decide)), fun _ => rfl, fun h => h5 (on_set h (by decide)), fun h => h6 (on_set h (by decide)), fun h => h9 (on_set h (by decide)), fun _ => ⟨hM, fun h7 h8 => hT7 (on_set h7 (by decide)) (fun e => h8 (on_keep e)), fun h8 => hN8 (fun e => h8 (on_keep e)), fun h8 => hG8 (on_set h8 (by decide))⟩, fun h => absurd (on_set h (by decide)) hn10, fun h => on_keep (hC8 (on_set h (by decide))), fun h => absurd (on_set h (by decide)) hn10⟩
          · unfold wpOpIn
            simp only [List.getElem?_toArray, List.getElem?_cons_zero, List.getElem?_cons_succ]
            obtain rfl := h4 (ready_dep (j := 4) hi rfl (by simp [Region.binds]))
            go_simp
            refine ⟨_, _, _, _, _, _, _, _, _, _, rfl, fun h => h0 (on_set h (by decide)), fun h => h1 (on_set h (by decide)), fun h => h2 (on_set h (by decide)), fun h => h3 (on_set h (by decide)), fun h => h4 (on_set h (by decide)), fun _ => rfl, fun h => h6 (on_set h (by decide)), fun h => h9 (on_set h (by decide)), fun _ => ⟨hM, fun h7 h8 => hT7 (on_set h7 (by decide)) (fun e => h8 (on_keep e)), fun h8 => hN8 (fun e => h8 (on_keep e)), fun h8 => hG8 (on_set h8 (by decide))⟩, fun h => absurd (on_set h (by decide)) hn10, fun h => on_keep (hC8 (on_set h (by decide))), fun h => absurd (on_set h (by decide)) hn10⟩
          · unfold wpOpIn
            simp only [List.getElem?_toArray, List.getElem?_cons_zero, List.getElem?_cons_succ]
            go_simp
            refine ⟨_, _, _, _, _, _, _, _, _, _, rfl, fun h => h0 (on_set h (by decide)), fun h => h1 (on_set h (by decide)), fun h => h2 (on_set h (by decide)), fun h => h3 (on_set h (by decide)), fun h => h4 (on_set h (by decide)), fun h => h5 (on_set h (by decide)), fun _ => rfl, fun h => h9 (on_set h (by decide)), fun _ => ⟨hM, fun h7 h8 => hT7 (on_set h7 (by decide)) (fun e => h8 (on_keep e)), fun h8 => hN8 (fun e => h8 (on_keep e)), fun h8 => hG8 (on_set h8 (by decide))⟩, fun h => absurd (on_set h (by decide)) hn10, fun h => on_keep (hC8 (on_set h (by decide))), fun h => absurd (on_set h (by decide)) hn10⟩
          · have hn8 : L[8]? ≠ some true := fun e => by
              have h := hC8 e
              rw [h] at hLi
              cases hLi
            have hN := hN8 hn8
            have hbn := Blk.new w' 3 #[.int .i64 k]
            unfold wpOpIn
            simp only [List.getElem?_toArray, List.getElem?_cons_zero, List.getElem?_cons_succ]
            obtain rfl := h6 (ready_dep (j := 6) hi rfl (by simp [Region.binds]))
            go_simp
            exact ⟨_, _, _, _, _, _, _, _, _, _, rfl, fun h => h0 (on_set h (by decide)), fun h => h1 (on_set h (by decide)), fun h => h2 (on_set h (by decide)), fun h => h3 (on_set h (by decide)), fun h => h4 (on_set h (by decide)), fun h => h5 (on_set h (by decide)), fun h => h6 (on_set h (by decide)), fun h => h9 (on_set h (by decide)), fun _ => ⟨hM.alloc _, fun _ _ => ⟨_, rfl, hN.size, hbn⟩, fun _ => hN.alloc _, fun h8 => absurd (on_set h8 (by decide)) hn8⟩, fun h => absurd (on_set h (by decide)) hn10, fun h => absurd (on_set h (by decide)) hn8, fun h => absurd (on_set h (by decide)) hn10⟩
          · have hn8 : L[8]? ≠ some true := fun e => by rw [e] at hLi; cases hLi
            have h7t := ready_dep (j := 7) hi rfl (by simp [Region.binds])
            obtain ⟨tb, rfl, htb, hbt⟩ := hT7 h7t hn8
            obtain rfl := h5 (ready_dep (j := 5) hi rfl (by simp [Region.binds]))
            have hN := hN8 hn8
            have hI' := hIv.mod hN
            unfold wpOpIn
            simp only [List.getElem?_toArray, List.getElem?_cons_zero, List.getElem?_cons_succ]
            rw [if_pos (by simp [Region.wanted])]
            refine operIn_append_lies w' (.tmp 25) (.tmp 27) 65 rfl (w.heap.size + 3) 3 i0 (.int .i64 0) 1 8 Try.underlying65 hi0 hz0 hz1 hz2 rfl (by decide) (.slice oa R.length c) R.length (R.map fun x => Value.int .i64 (x : Nat)) rfl hI' ⟨tb, 0, none⟩ 1 1 [.int .i64 k] rfl rfl (World.news_of_block hbt) (by simp [Value.oneCell']) (by omega) (by unfold maxLen; omega) (by omega) (by have := hN.size; omega) ?_
            intro g' c' w2 hown hgrow hat
            have hmg : Mod (fun j => (Value.slice oa R.length c).ownBlock = some j) w' w2 := (Mod.refl _ w').grown hgrow (fun _ e _ => e)
            exact ⟨_, _, _, _, _, _, _, _, _, _, rfl, fun h => h0 (on_set h (by decide)), fun h => h1 (on_set h (by decide)), fun h => h2 (on_set h (by decide)), fun h => h3 (on_set h (by decide)), fun h => h4 (on_set h (by decide)), fun h => h5 (on_set h (by decide)), fun h => h6 (on_set h (by decide)), fun h => h9 (on_set h (by decide)), fun _ => ⟨hM.trans hmg, fun _ h => absurd (by rw [Array.getElem?_setIfInBounds_self_of_lt (by omega)]) h, fun h => absurd (by rw [Array.getElem?_setIfInBounds_self_of_lt (by omega)]) h, fun _ => ⟨g', c', rfl, by unfold Ints; simpa using hown, hat.imp id (fun e => by rw [e]; exact hN.size)⟩⟩, fun h => absurd (on_set h (by decide)) hn10, fun _ => on_keep h7t, fun h => absurd (on_set h (by decide)) hn10⟩
          · unfold wpOpIn
            simp only [List.getElem?_toArray, List.getElem?_cons_zero, List.getElem?_cons_succ]
            obtain rfl := h0 (ready_dep (j := 0) hi rfl (by simp [Region.binds]))
            obtain rfl := h1 (ready_dep (j := 1) hi rfl (by simp [Region.binds]))
            go_simp
            refine ⟨_, _, _, _, _, _, _, _, _, _, rfl, fun h => h0 (on_set h (by decide)), fun h => h1 (on_set h (by decide)), fun h => h2 (on_set h (by decide)), fun h => h3 (on_set h (by decide)), fun h => h4 (on_set h (by decide)), fun h => h5 (on_set h (by decide)), fun h => h6 (on_set h (by decide)), fun _ => rfl, fun _ => ⟨hM, fun h7 h8 => hT7 (on_set h7 (by decide)) (fun e => h8 (on_keep e)), fun h8 => hN8 (fun e => h8 (on_keep e)), fun h8 => hG8 (on_set h8 (by decide))⟩, fun h => absurd (on_set h (by decide)) hn10, fun h => on_keep (hC8 (on_set h (by decide))), fun h => absurd (on_set h (by decide)) hn10⟩
          · have h8t := ready_dep (j := 8) hi rfl (by simp [Region.binds])
            obtain ⟨g', c', rfl, hIn, hat⟩ := hG8 h8t
            obtain rfl := h9 (ready_dep (j := 9) hi rfl (by simp [Region.binds]))
            unfold wpOpIn
            simp only [List.getElem?_toArray, List.getElem?_cons_zero, List.getElem?_cons_succ]
            go_simp
            refine ⟨_, _, _, _, _, _, _, _, _, _, rfl, fun h => h0 (on_set h (by decide)), fun h => h1 (on_set h (by decide)), fun h => h2 (on_set h (by decide)), fun h => h3 (on_set h (by decide)), fun h => h4 (on_set h (by decide)), fun h => h5 (on_set h (by decide)), fun h => h6 (on_set h (by decide)), fun h => h9 (on_set h (by decide)), fun h => absurd (by rw [Array.getElem?_setIfInBounds_self_of_lt (by omega)]) h, fun _ => ⟨w', g', c', rfl, hM, hIn, hat⟩, fun h => on_keep (hC8 (on_set h (by decide))), fun _ j hj => on_keep ?_⟩
            have j10 : j = 0 ∨ j = 1 ∨ j = 2 ∨ j = 3 ∨ j = 4 ∨ j = 5 ∨ j = 6 ∨ j = 7 ∨ j = 8 ∨ j = 9 := by omega
            rcases j10 with rfl | rfl | rfl | rfl | rfl | rfl | rfl | rfl | rfl | rfl <;> exact ready_dep hi rfl (by simp [Region.binds])
        case fin =>
          rintro L a' w' hLs ⟨t20, t21, t22, t23, t24, t25, t26, t27, t28, t29, rfl, h0, h1, h2, h3, h4, h5, h6, h9, hA, hB, hC8, hC10⟩ hnil
          have hall := ready_nil hLs (by kernel_rfl) hnil
          obtain ⟨w1, g', c', rfl, hM, hIn, hat⟩ := hB (hall 10 (by simp))
          have hn3 := row_ne_blk hIv hOW (by decide)
          obtain ⟨cs1, hb1⟩ := hRW.blk
          have hput := hRW.put hzN hcv hM (v' := .slice (some ⟨g', 0, none⟩) (R.length + 1) c') (l' := R ++ [k]) hIn
            (fun b hb => by cases hb; exact hat) (fun b hb => by
              cases hb
              rcases hat with h | h
              · exact hQv _ (by rw [hRd]; exact h)
              · have h2 : s + 3 ≤ g' := Nat.le_trans hsW h
                exact Or.inr h2)
          have hms : Mod (fun j => j = g1) w1 (w1.setCell ⟨g1, zv, none⟩ (.slice (some ⟨g', 0, none⟩) (R.length + 1) c')) := (Mod.refl (fun j => j = g1) w1).setCell (p := ⟨g1, zv, none⟩) (fun _ => rfl) _
          have hns : (Value.slice oa R.length c).ownBlock ≠ some s := fun e => by have := hQv s (by rw [hRd]; exact e); omega
          have hg13 : ¬ g3 = g1 := by have := HGE.out; omega
          have hown : ∀ j, (Value.slice oa R.length c).ownBlock = some j → w.heap.size + 3 ≤ j ∧ j < W.heap.size ∧ (j < s ∨ s + 3 ≤ j) := fun j hj => ⟨(hIv.lt j hj).1, (hIv.lt j hj).2, hQv j (by rw [hRd]; exact hj)⟩
          have hall2 : Mod (fun j => (Value.slice oa R.length c).ownBlock = some j ∨ j = g1) W (w1.setCell ⟨g1, zv, none⟩ (.slice (some ⟨g', 0, none⟩) (R.length + 1) c')) := (hM.mono (fun _ _ h => .inl h)).trans (hms.mono (fun _ _ h => .inr h))
          have hcells : ∀ j, ((Value.slice oa R.length c).ownBlock = some j ∨ j = g1) → ∃ t cs, Blk W j t cs := by
            rintro j (hj | rfl)
            · rcases hIv.form with ⟨e, _⟩ | ⟨gg, cc, cur, e, _, hbk, _⟩
              · rw [e] at hj; cases hj
              · rw [e] at hj; cases hj; exact ⟨_, _, hbk⟩
            · exact ⟨_, _, hb1⟩
          have hnob : ∀ j o, W.heap[j]? = some o → o.isCells = false → ¬ ((Value.slice oa R.length c).ownBlock = some j ∨ j = g1) := fun j o ho hc h => by
            obtain ⟨t, cs, hbk⟩ := hcells j h
            unfold Blk at hbk
            rw [hbk] at ho
            cases ho
            cases hc
          have hge := HGE.out
          have hlt1 : g1 < s := by have := hR.lt; omega
          refine ⟨⟨hall2.size, fun j o _ ho hc => (hall2.block j (Array.getElem?_eq_some_iff.1 ho).1 (hnob j o ho hc)).trans ho⟩, hall2.mono (fun j _ h => ?_), ?_, hOW.mod hall2 (fun h => h.elim hn3 (fun e => hg13 e)), hFW.mod hall2 (fun h => h.elim (row_ne_blk hIv hFW (by decide)) (fun e => by omega)), hbW.mod hall2 (fun h => h.elim hns (fun e => by omega)), fun D hD' => ⟨(hall2.block D (Array.getElem?_eq_some_iff.1 (hDW D hD').1).1 (hnob D _ (hDW D hD').1 rfl)).trans (hDW D hD').1, (hDW D hD').2⟩, hmW.trans' hall2 (fun j hj h => ?_), Nat.le_trans hsW hall2.size⟩
          · rcases h with h | rfl
            · have := hown j h; omega
            · right; omega
          · refine hput.congr (fun b _ => ?_)
            rw [List.map_append, List.map_cons, List.map_nil, List.count_append, hzv]
            by_cases e : b = zv
            · subst e
              rw [if_pos rfl, ← hRd, List.count_singleton_self, List.replicate_succ', List.append_assoc]
            · have e0 : List.count b [zv] = 0 := List.count_eq_zero.2 (by simpa using e)
              rw [if_neg e, e0, Nat.add_zero]
          · rcases h with h | rfl
            · have := hown j h; omega
            · omega
      case done =>
        rintro D ys W hDk hys ⟨hRW, hOW, hFW, hbW, hDW, hmW, hsW⟩ hK
        gi_wp2
        refine ⟨⟨k + 1, D :: ds, _, _, _, _, _, _, _, _, _, _, _, _, _, _, _, _, _, _, _, by omega, rfl, hmW, hFW, (hRW.turn (Nat.le_refl _) (fun _ _ _ => trivial)).congr (fun b _ => ?_), hOW, List.nodup_cons.2 ⟨fun hin => ?_, hds⟩, fun E hE => ?_⟩, ?_⟩
        · rw [hys, hnx, List.range_succ, List.filter_append]
          congr 1
          have hnd := (hG.succ k).2.2
          by_cases hb : b ∈ succ k
          · rw [List.Nodup.count hnd, if_pos hb]
            simp [hb]
          · rw [List.count_eq_zero.2 hb]
            simp [hb]
        · have := (Array.getElem?_eq_some_iff.1 (hD D hin).1).1
          omega
        · rcases List.mem_cons.1 hE with rfl | hE
          · exact ⟨hK, by omega⟩
          · exact hDW E hE
        · simp [intOf]; omega
      case stop =>
        rintro D c pre W _ _ h _
        exact h.elim
    · obtain rfl : k = N := by omega
      have q0 := hO.cell 0
      simp only [List.getElem?_toArray, List.getElem?_cons_zero] at q0
      gi_wp2
      have hnd : ∀ b t cs, Blk wr b t cs → ¬ b ∈ ds := fun b t cs hb h => by
        have := (hD b h).1
        unfold Blk at hb
        rw [hb] at this
        cases this
      obtain ⟨_, ⟨_, hb1, _⟩, _⟩ := id hR
      refine leaves_marks ds wr hds (fun D hD' => (hD D hD').1) (fun w' hm' => ?_)
      exact ⟨_, results_tmp rfl _ _ _, g1, rfl, (hR.mod hm' (hnd _ _ _ hb1) (fun b cs hb => hnd _ _ _ hb)).turn (by omega) (fun _ _ h => h), by have := HGE.out; omega, hm.trans' hm' (fun i hi h => absurd hi (by have := (hD i h).2; omega))⟩

theorem before_ok (nm : ByteArray) (x y : Int) (ob : Option Addr) (N cap : Nat) (succ : Nat → List Nat) (w : World) (hG : GraphAt w ob N succ) (hN : N ≤ 60) :
    Calls Try.prog 32 #[fnV nm x y ob N cap] w fun e w' => ∃ g, e = .returned (.slice (some ⟨g, 0, none⟩) N N) ∧ RowsAt w' w.heap.size g N (predOf succ N) ∧ w.heap.size ≤ g ∧ Mod NoBlk w w' :=
  (callsIn_wide (n := 4)).1 (before_in _ 4 trivial trivial trivial rfl (by omega) nm x y ob N cap succ w hG hN)

end Go.Proofs.Ytjaapempahigaaa
