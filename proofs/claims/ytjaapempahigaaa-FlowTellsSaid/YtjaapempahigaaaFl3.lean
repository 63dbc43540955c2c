/- goes, Next. -/
import Derived.Test.YtjaapempahigaaaFl2
namespace Go.Proofs.Ytjaapempahigaaa
open Go.RowKit Go.Shelf
attribute [local go_sem] Oper.semAt_some

theorem row_le {w : World} {base base' : Nat} {e : TypeId} {size : Nat} {v : Value} {n : Nat} {xs : List Value} (h : w.ownsRow base e size v n xs) (hb : base' ≤ base) : w.ownsRow base' e size v n xs := by
  refine ⟨h.1, ?_⟩
  rcases h.2 with h0 | ⟨g, cap, cur, hv, hg, hr⟩
  · exact .inl h0
  · exact .inr ⟨g, cap, cur, hv, Nat.le_trans hb hg, hr⟩

/-- A function, by value. -/
def fnC (nm : ByteArray) (x y : Int) (ob : Option Addr) (N cap : Nat) : Array Value := #[.string nm, .int .i64 x, .int .i64 y, .slice ob N cap]
abbrev fnV (nm : ByteArray) (x y : Int) (ob : Option Addr) (N cap : Nat) : Value := .agg #[.string nm, .int .i64 x, .int .i64 y, .slice ob N cap]

/-- A row of numbers in memory of its own. -/
def Ints (w : World) (B : Nat) (v : Value) (l : List Nat) : Prop := w.ownsRow B 3 1 v l.length (l.map fun x => Value.int .i64 (x : Nat))

theorem info3 : (Try.prog.info? 3).map (fun i => (i.zero, i.size, i.bytes)) = some (some (.int .i64 0), 1, 8) := by kernel_rfl

set_option maxHeartbeats 1000000 in
theorem goes_in (F : Fence) (n : Nat) (hf : F.fn 49) (hro : F.round = none) (nm : ByteArray) (x y : Int) (ob : Option Addr) (N cap : Nat) (b : Int) (w : World) :
    CallsIn F n Try.prog 49 #[fnV nm x y ob N cap, .int .i64 b] w fun e w' =>
      e = .returned (.func (.func 60) #[] #[.pointer (some ⟨w.heap.size + 1, 0, none⟩), .pointer (some ⟨w.heap.size, 0, none⟩)]) ∧
      w' = (w.alloc (.cells #[.string nm, .int .i64 x, .int .i64 y, .slice ob N cap] 63)).alloc (.cells #[.int .i64 b] 3) := by
  refine callsIn_of_wp Try.func49 rfl hf ?_ hro
  simp only [Try.ntmps49, List.size_toArray, List.length_cons, List.length_nil, Nat.reduceAdd, Nat.reduceSub, Array.replicate_succ, Array.replicate_zero, List.push_toArray, List.append_toArray, List.nil_append, List.cons_append]
  gi_wp2
  go_ret
  exact ⟨rfl, rfl⟩

theorem mod_putObj {S : Nat → Prop} {W : World} {l : Nat} (o' : Obj) (h : S l) : Mod S W (W.putObj l o') :=
  have g := grownBy_putObj' W l o'
  ⟨g.os, g.tape, g.output, g.size, fun k hk hS => g.block k hk (fun e => hS (by cases e; exact h))⟩

/-- goes hands back an iterator over the blocks that one goes to. -/
theorem goes_stops (F : Fence) (n : Nat) (hf : F.fn 60) (hro : F.round = none) (hn : 1 ≤ n) (tb tf : Nat) (S : Nat → Prop) (hS : ¬ S tf) (b : Int) (ob : Option Addr) (N cap : Nat) (succ : Nat → List Nat) (w : World)
    (hb : w.cell? ⟨tb, 0, none⟩ = some (.int .i64 b)) (htb : tb < w.heap.size) (htf : tf < w.heap.size) (hc : w.cell? ⟨tf, 3, none⟩ = some (.slice ob N cap)) (hG : GraphAt w ob N succ) :
    SeqStopsK F n Try.prog 60 #[.pointer (some ⟨tb, 0, none⟩), .pointer (some ⟨tf, 0, none⟩)] (fun x : Nat => #[Value.int .i64 (x : Nat)]) (Mod S) (fun ys => ys = nextOf N succ b) (fun pre => pre <+: nextOf N succ b) (nextOf N succ b).length w := fun l J Jx W hW hJ _ hY h0 =>
  goes1_in F n hf hro hn l tb tf S hS b ob N cap succ J Jx (fun pre x W1 h1 h2 => hY pre x W1 h1 (by have := h2.length_le; simp at this; omega)) W hJ ((hW.cell (p := ⟨tb, 0, none⟩) htb).trans hb) (Nat.lt_of_lt_of_le htf hW.size) ((hW.cell (p := ⟨tf, 3, none⟩) htf).trans hc) (hG.below hW) h0

theorem nextOf_lt {N : Nat} {succ : Nat → List Nat} {b : Int} (hs : ∀ a x, x ∈ succ a → x < N) : ∀ x ∈ nextOf N succ b, x < N := by
  intro x hx
  unfold nextOf at hx
  split at hx
  · exact hs _ x hx
  · cases hx

/-- The same, where the body is to know that what comes is a block. -/
theorem goes_stops_fin (F : Fence) (n : Nat) (hf : F.fn 60) (hro : F.round = none) (hn : 1 ≤ n) (tb tf : Nat) (S : Nat → Prop) (hS : ¬ S tf) (b : Int) (ob : Option Addr) (N cap : Nat) (succ : Nat → List Nat) (w : World)
    (hb : w.cell? ⟨tb, 0, none⟩ = some (.int .i64 b)) (htb : tb < w.heap.size) (htf : tf < w.heap.size) (hc : w.cell? ⟨tf, 3, none⟩ = some (.slice ob N cap)) (hG : GraphAt w ob N succ) :
    SeqStopsK F n Try.prog 60 #[.pointer (some ⟨tb, 0, none⟩), .pointer (some ⟨tf, 0, none⟩)] (fun x : Fin N => #[Value.int .i64 (x.val : Nat)]) (Mod S) (fun ys => ys.map (·.val) = nextOf N succ b) (fun pre => pre.map (·.val) <+: nextOf N succ b) (nextOf N succ b).length w := fun l J Jx W hW hJ hJx hY h0 => by
  have hlt := nextOf_lt (b := b) (fun a x hx => (hG.succ a).1 x hx)
  have h := goes1_in F n hf hro hn l tb tf S hS b ob N cap succ (fun p W => ∃ q : List (Fin N), p = q.map (·.val) ∧ J q W) (fun p W => ∃ q : List (Fin N), p = q.map (·.val) ∧ Jx q W) ?_ W ?_
    ((hW.cell (p := ⟨tb, 0, none⟩) htb).trans hb) (Nat.lt_of_lt_of_le htf hW.size) ((hW.cell (p := ⟨tf, 3, none⟩) htf).trans hc) (hG.below hW) ⟨[], rfl, h0⟩
  · refine h.mono ?_
    rintro e W' ⟨hv, ⟨ys, rfl, q, hq, hJq⟩ | ⟨pre, hp, q, rfl, hJq⟩⟩
    · exact ⟨hv, .inl ⟨q, hq.symm, hJq⟩⟩
    · exact ⟨hv, .inr ⟨q, hp, hJq⟩⟩
  · rintro pre x W1 ⟨q, rfl, hq⟩ hp
    have hxN : x < N := hlt x (hp.subset (by simp))
    refine YieldAt.mono (hY q ⟨x, hxN⟩ W1 hq (by have := hp.length_le; simp at this; omega)) ?_
    rintro e W' (⟨he, hj, hm⟩ | ⟨he, hj⟩)
    · exact .inl ⟨he, ⟨q ++ [⟨x, hxN⟩], by simp, hj⟩, hm⟩
    · exact .inr ⟨he, q ++ [⟨x, hxN⟩], by simp, hj⟩
  · rintro s A A' row ⟨q, hs, hq⟩ hg hr
    exact ⟨q, hs, hJ q A A' row hq hg hr⟩

set_option maxRecDepth 100000 in
set_option maxHeartbeats 4000000 in
theorem next_in (F : Fence) (n : Nat) (hf : F.fn 29) (hf2 : F.fn 49) (hf3 : F.fn 60) (hro : F.round = none) (hn : 3 ≤ n) (nm : ByteArray) (x y : Int) (ob : Option Addr) (N cap : Nat) (b : Int) (succ : Nat → List Nat) (w : World) (hG : GraphAt w ob N succ) (hle : (nextOf N succ b).length ≤ 2) :
    CallsIn F n Try.prog 29 #[fnV nm x y ob N cap, .int .i64 b] w fun e w' => ∃ v, e = .returned v ∧ Ints w' w.heap.size v (nextOf N succ b) ∧ Mod NoBlk w w' := by
  have h1 : 1 ≤ n := by omega
  obtain ⟨i0, hi, hz0, hz1, hz2⟩ := info_parts info3
  refine callsIn_of_wp_marks Try.func29 rfl hf ?_ hro
  simp only [Try.ntmps29, List.size_toArray, List.length_cons, List.length_nil, Nat.reduceAdd, Nat.reduceSub, Array.replicate_succ, Array.replicate_zero, List.push_toArray, List.append_toArray, List.nil_append, List.cons_append]
  gi_wp2_with (gi_at_call 49; refine (goes_in F (n - 1) hf2 hro nm x y ob N cap b _).mono ?_; rintro e w' ⟨rfl, rfl⟩)
  have bO := Boxed.new (w.alloc (.cells #[.string nm, .int .i64 x, .int .i64 y, .slice ob N cap] 63)) 65 (.slice none 0 0)
  rw [World.size_alloc] at bO
  have hm0 : Mod NoBlk w ((((w.alloc (.cells #[.string nm, .int .i64 x, .int .i64 y, .slice ob N cap] 63)).alloc (.cells #[.slice none 0 0] 65)).alloc (.cells #[.string nm, .int .i64 x, .int .i64 y, .slice ob N cap] 63)).alloc (.cells #[.int .i64 b] 3)) := ((((Mod.refl _ w).alloc _).alloc _).alloc _).alloc _
  have hB0 := hm0.toBelow
  have bF := Blk.new ((w.alloc (.cells #[.string nm, .int .i64 x, .int .i64 y, .slice ob N cap] 63)).alloc (.cells #[.slice none 0 0] 65)) 63 #[.string nm, .int .i64 x, .int .i64 y, .slice ob N cap]
  have bN := Blk.new (((w.alloc (.cells #[.string nm, .int .i64 x, .int .i64 y, .slice ob N cap] 63)).alloc (.cells #[.slice none 0 0] 65)).alloc (.cells #[.string nm, .int .i64 x, .int .i64 y, .slice ob N cap] 63)) 3 #[.int .i64 b]
  rw [World.size_alloc, World.size_alloc] at bF
  rw [World.size_alloc, World.size_alloc, World.size_alloc] at bN
  have cN := bN.cell 0
  have cF := (bF.alloc (.cells #[.int .i64 b] 3)).cell 3
  simp only [List.getElem?_toArray, List.getElem?_cons_zero, List.getElem?_cons_succ] at cN cF
  have bO2 := (bO.alloc (.cells #[.string nm, .int .i64 x, .int .i64 y, .slice ob N cap] 63)).alloc (.cells #[.int .i64 b] 3)
  have hsz : ((((w.alloc (.cells #[.string nm, .int .i64 x, .int .i64 y, .slice ob N cap] 63)).alloc (.cells #[.slice none 0 0] 65)).alloc (.cells #[.string nm, .int .i64 x, .int .i64 y, .slice ob N cap] 63)).alloc (.cells #[.int .i64 b] 3)).heap.size = w.heap.size + 4 := by simp
  have hG0 := hG.mod hm0
  obtain ⟨W0, hW0⟩ : ∃ W0, ((((w.alloc (.cells #[.string nm, .int .i64 x, .int .i64 y, .slice ob N cap] 63)).alloc (.cells #[.slice none 0 0] 65)).alloc (.cells #[.string nm, .int .i64 x, .int .i64 y, .slice ob N cap] 63)).alloc (.cells #[.int .i64 b] 3)) = W0 := ⟨_, rfl⟩
  rw [hW0] at hm0 hB0 cN cF bO2 hsz hG0 ⊢
  clear hW0 bF bN bO hB0
  refine wpIn_rangeFunc_ownG hro h1 (gf := 60) (lb := #[.pointer (some ⟨w.heap.size + 1 + 1 + 1, 0, none⟩), .pointer (some ⟨w.heap.size + 1 + 1, 0, none⟩)]) rfl hf3 (enters_of Try.func60 (by kernel_rfl) rfl)
    (goes_stops F (n - 1) hf3 hro (by omega) (w.heap.size + 1 + 1 + 1) (w.heap.size + 1 + 1) (fun k => w.heap.size + 4 ≤ k ∨ k = w.heap.size + 1) (by omega) b ob N cap succ W0 cN (by omega) (by omega) cF hG0)
    (fun h k => h.trans k) (fun W l o o' hl _ _ _ => mod_putObj o' (.inl (by omega))) (Below.refl _ _) (fun _ => rfl)
    (fun (pre : List Nat) W => (∃ v, Boxed W (w.heap.size + 1) 65 v ∧ W.ownsRow (w.heap.size + 4) 3 1 v pre.length (pre.map fun x => Value.int .i64 (x : Nat)) ∧ True) ∧ Mod NoBlk w W ∧ w.heap.size + 4 ≤ W.heap.size)
    (fun _ _ _ => False)
    (OwnFrom.and (Own.from (holdsRow_own (w.heap.size + 4) (w.heap.size + 1) 65 3 1 (fun (pre : List Nat) => pre.length) (fun pre => pre.map fun x => Value.int .i64 (x : Nat)) (fun _ _ => True)) _) (fun _ _ _ row hs hg hr => ⟨hs.1.grown hg (fun k e hk => absurd (hr k e).1 (by omega)), Nat.le_trans hs.2 hg.size⟩))
    (fun _ _ _ _ _ hs _ _ => hs)
    ⟨⟨_, bO2, World.ownsRow_nil _ _ _ _, trivial⟩, hm0, by omega⟩
    (fun k => { tmps := #[fnV nm x y ob N cap, .int .i64 b, .pointer (some ⟨w.heap.size, 0, none⟩), undef, .slice none 0 0, .pointer (some ⟨w.heap.size + 1, 0, none⟩), .int .i64 (k : Nat), fnV nm x y ob N cap, .int .i64 b, .func (.func 60) #[] #[.pointer (some ⟨w.heap.size + 1 + 1 + 1, 0, none⟩), .pointer (some ⟨w.heap.size + 1 + 1, 0, none⟩)], .int .i64 (k : Nat), undef, undef, undef, undef, undef], defers := [] }) ?assign ?body ?done ?stop
  case assign =>
    intro l x W K hK
    gi_wp2
    exact hK
  case body =>
    rintro l pre x W ⟨⟨v, hv, hrow, _⟩, hm, hsW4⟩ hlt
    have hc := hv.cell
    have hsW := hm.size
    gi_wp2_with (gi_at_builtin; refine wpListIn_append_own _ rfl _ _ 65 rfl (w.heap.size + 4) 3 i0 (.int .i64 0) 1 8 Try.underlying65 hi hz0 hz1 hz2 rfl (by decide) _ _ _ rfl (hrow.alloc _) ⟨W.heap.size, 0, none⟩ 1 1 [.int .i64 (x : Nat)] rfl rfl (cell_one_new _ _ _) (by simp [Value.oneCell']) (by unfold maxLen; omega) (by omega) (by simp; omega) ?_; intro v' w1 hown' hgrow _; obtain ⟨g', cap', rfl⟩ := ownsRow_succ hown'; obtain ⟨hv1, hv2, hr2, hk2, hb2⟩ := hv.appended (by decide) (row_le (base' := w.heap.size) hrow (by omega)) hsW (by omega) (row_le (base' := w.heap.size) hown' (by omega)) hgrow; have hc1 := hv1.cell; have hf1 := hv1.frozen)
    have hrow2 := hown'.kept (grownBy_setCell' w1 (w.heap.size + 1) (.slice (some ⟨g', 0, none⟩) (pre.length + 1) cap')) (.inr (hv1.not_row (by decide) hown').symm)
    have hm2 : ∀ S : Nat → Prop, (∀ k, w.heap.size + 4 ≤ k → S k) → S (w.heap.size + 1) → Mod S W (w1.setCell ⟨w.heap.size + 1, 0, none⟩ (.slice (some ⟨g', 0, none⟩) (pre.length + 1) cap')) := fun S h1 h2 =>
      (((Mod.refl S W).alloc _).grown hgrow (fun k e _ => h1 k (hrow.lt k e).1)).setCell (p := ⟨w.heap.size + 1, 0, none⟩) (fun _ => h2) _
    have hm3 := hm2 (fun k => w.heap.size + 4 ≤ k ∨ k = w.heap.size + 1) (fun k h => .inl h) (.inr rfl)
    exact ⟨hk2.from _, hm3, ⟨_, hv2, by simpa using hrow2, trivial⟩, hm.trans' hm3 (fun i hi h => absurd hi (by omega)), Nat.le_trans hsW4 hm3.size⟩
  case done =>
    rintro D ys W hD rfl ⟨⟨v, hv, hrow, _⟩, hm, _⟩ hK
    have hc := hv.cell
    gi_wp2
    refine ⟨by simp, .inl ⟨_, _, rfl, run_takeDeferred hK, ?_⟩⟩
    exact ⟨_, results_tmp rfl _ _ _, v, rfl, row_le (ownsRow_putObj hrow _ hK rfl) (by omega), hm.trans' (mod_putObj (S := fun k => k = D) _ rfl) (fun i hi h => absurd hi (by omega))⟩
  case stop =>
    rintro D c pre W _ _ h _
    exact h.elim

theorem next_ok (nm : ByteArray) (x y : Int) (ob : Option Addr) (N cap : Nat) (b : Int) (succ : Nat → List Nat) (w : World) (hG : GraphAt w ob N succ) :
    Calls Try.prog 29 #[fnV nm x y ob N cap, .int .i64 b] w fun e w' => ∃ v, e = .returned v ∧ Ints w' w.heap.size v (nextOf N succ b) ∧ Mod NoBlk w w' := by
  refine (callsIn_wide (n := 3)).1 (next_in _ 3 trivial trivial trivial rfl (by omega) nm x y ob N cap b succ w hG ?_)
  unfold nextOf
  split
  · exact (hG.succ _).2.1
  · simp

end Go.Proofs.Ytjaapempahigaaa
