/- The document's walk. -/
import Derived.Test.YtjaapempahigaaaRn4
import Derived.StillTailTactics
namespace Go.Proofs.Ytjaapempahigaaa
open Go.RowKit

section
variable {succ : Nat → List Nat} {n : Nat}
theorem fold_len {f : Nat} (hv : ∀ (s : (Nat → Bool) × List Nat) (b : Nat), b < n → unv n s.1 < f → (visit succ f s b).2.length + unv n (visit succ f s b).1 ≤ s.2.length + unv n s.1) :
    ∀ (ks : List Nat) (s : (Nat → Bool) × List Nat), (∀ k ∈ ks, k < n) → unv n s.1 < f → (ks.foldl (visit succ f) s).2.length + unv n (ks.foldl (visit succ f) s).1 ≤ s.2.length + unv n s.1 := by
  intro ks
  induction ks with
  | nil => intro s _ _; exact Nat.le_refl _
  | cons k ks ih =>
    intro s hk hu
    have h1 := hv s k (hk k (by simp)) hu
    have h2 : unv n (visit succ f s k).1 ≤ unv n s.1 := unv_mono (fun i hi => visit_mono f s k i hi)
    exact Nat.le_trans (ih _ (fun z hz => hk z (by simp [hz])) (by omega)) h1
theorem visit_len (hs : ∀ a x, x ∈ succ a → x < n) : ∀ (f : Nat) (s : (Nat → Bool) × List Nat) (b : Nat), b < n → unv n s.1 < f → (visit succ f s b).2.length + unv n (visit succ f s b).1 ≤ s.2.length + unv n s.1 := by
  intro f
  induction f with
  | zero => intro s b _ h; omega
  | succ f ih =>
    intro s b hb hu
    cases hc : s.1 b with
    | true => rw [visit_come hc]; exact Nat.le_refl _
    | false =>
      rw [visit_new hc]
      have h1 := unv_mark_eq hb hc
      have h2 := fold_len ih (succ b) (mark s.1 b, s.2) (fun k hk => hs b k hk) (by dsimp only; omega)
      dsimp only at h2 ⊢
      rw [List.length_append, List.length_singleton]
      omega
end

def fnA (nm : ByteArray) (x y : Int) (ob : Option Addr) (N cap : Nat) : Array Value := #[.string nm, .int .i64 x, .int .i64 y, .slice ob N cap]

set_option maxRecDepth 100000 in
set_option maxHeartbeats 4000000 in
theorem refWalk_in (nm : ByteArray) (x y : Int) (ob : Option Addr) (N cap gc B : Nat) (succ : Nat → List Nat) (w0 : World) (hG : GraphAt w0 ob N succ) (hN : N ≤ 60) (hgc : w0.heap.size ≤ gc) (hB0 : w0.heap.size ≤ B) (f : Nat) :
    ∀ (b : Nat) (c : Nat → Bool) (L : List Nat) (vl : Value) (w : World), b < N → unv N c < f → L.length + unv N c ≤ N → Mod NoBlk w0 w → Bools w gc N c → Ints w B vl L → B ≤ w.heap.size →
    Calls Try.prog 54 #[fnV nm x y ob N cap, .int .i64 (b : Nat), .agg #[.slice (some ⟨gc, 0, none⟩) N N, vl]] w fun e w' => ∃ vl', e = .returned (.agg #[.slice (some ⟨gc, 0, none⟩) N N, vl']) ∧ Bools w' gc N (visit succ f (c, L) b).1 ∧ Ints w' B vl' (visit succ f (c, L) b).2 ∧
      Mod (fun j => j = gc ∨ vl.ownBlock = some j) w w' ∧ ∀ j, vl'.ownBlock = some j → vl.ownBlock = some j ∨ w.heap.size ≤ j := by
  have hs : ∀ a z, z ∈ succ a → z < N := fun a z hz => (hG.succ a).1 z hz
  have HS := Lib.hid hs
  have HG := Lib.hid hG
  obtain ⟨i3, hi3, hz0, hz1, hz2⟩ := info_parts info3
  have HI3 := Lib.hid hi3
  have HZ0 := Lib.hid hz0
  have HZ1 := Lib.hid hz1
  have HZ2 := Lib.hid hz2
  clear hs hG hi3 hz0 hz1 hz2
  induction f with
  | zero => intro b c L vl w _ h; omega
  | succ f ih =>
    intro b c L vl w hbN hu hLu hm0 hC hI hBw
    have IH := Lib.hid ih
    clear ih
    have hLl : L.length ≤ 60 := by omega
    obtain ⟨ov, cv, rfl, hcv1, hcv2⟩ := hI.at_
    obtain ⟨ll, hll⟩ : ∃ ll, L.length = ll := ⟨_, rfl⟩
    have HLL := Lib.hid hll
    rw [hll] at hI hLl hcv1 ⊢
    have HC := Lib.hid hC
    have HI := Lib.hid hI
    have HM0 := Lib.hid hm0
    have HU := Lib.hid hu
    have HLU := Lib.hid hLu
    clear hll hC hI hm0 hu hLu
    go_enter Try.func54, Try.ntmps54
    go_upto_region 1 with fail
    have hm1 : Mod NoBlk w (((w.alloc (.cells #[.string nm, .int .i64 x, .int .i64 y, .slice ob N cap] 63)).alloc (.cells #[.slice (some ⟨gc, 0, none⟩) N N, .slice ov ll cv] 106)).alloc (.cells #[.slice none 0 0, .slice none 0 0] 106)) := (((Mod.refl _ w).alloc _).alloc _).alloc _
    have hF1 := ((Blk.new w 63 #[.string nm, .int .i64 x, .int .i64 y, .slice ob N cap]).alloc (.cells #[.slice (some ⟨gc, 0, none⟩) N N, .slice ov ll cv] 106)).alloc (.cells #[.slice none 0 0, .slice none 0 0] 106)
    have hW1 := (Blk.new (w.alloc (.cells #[.string nm, .int .i64 x, .int .i64 y, .slice ob N cap] 63)) 106 #[.slice (some ⟨gc, 0, none⟩) N N, .slice ov ll cv]).alloc (.cells #[.slice none 0 0, .slice none 0 0] 106)
    have hZ1 := Blk.new ((w.alloc (.cells #[.string nm, .int .i64 x, .int .i64 y, .slice ob N cap] 63)).alloc (.cells #[.slice (some ⟨gc, 0, none⟩) N N, .slice ov ll cv] 106)) 106 #[.slice none 0 0, .slice none 0 0]
    rw [World.size_alloc] at hW1
    rw [World.size_alloc, World.size_alloc] at hZ1
    have hsz : (((w.alloc (.cells #[.string nm, .int .i64 x, .int .i64 y, .slice ob N cap] 63)).alloc (.cells #[.slice (some ⟨gc, 0, none⟩) N N, .slice ov ll cv] 106)).alloc (.cells #[.slice none 0 0, .slice none 0 0] 106)).heap.size = w.heap.size + 1 + 1 + 1 := by simp only [World.size_alloc]
    generalize ((w.alloc (.cells #[.string nm, .int .i64 x, .int .i64 y, .slice ob N cap] 63)).alloc (.cells #[.slice (some ⟨gc, 0, none⟩) N N, .slice ov ll cv] 106)).alloc (.cells #[.slice none 0 0, .slice none 0 0] 106) = W1 at *
    obtain ⟨gf, hgf⟩ : ∃ gf, w.heap.size = gf := ⟨_, rfl⟩
    obtain ⟨g5, hg5⟩ : ∃ g5, gf + 1 = g5 := ⟨_, rfl⟩
    obtain ⟨g6, hg6⟩ : ∃ g6, g5 + 1 = g6 := ⟨_, rfl⟩
    rw [hgf] at hF1 hW1 hZ1 hsz ⊢
    rw [hg5] at hW1 hZ1 hsz ⊢
    rw [hg6] at hZ1 hsz ⊢
    have HGE : Hid (w.heap.size = gf ∧ gf + 1 = g5 ∧ g5 + 1 = g6 ∧ W1.heap.size = g6 + 1 ∧ gc < gf ∧ B ≤ gf) := ⟨hgf, hg5, hg6, hsz, by have := HC.out.lt; omega, by omega⟩
    have HF1 := Lib.hid hF1
    have HW1 := Lib.hid hW1
    have HZB := Lib.hid hZ1
    have HM1 := Lib.hid hm1
    have HC1 := Lib.hid (HC.out.mod hm1 (fun h => h))
    have HI1 := Lib.hid (HI.out.mod hm1)
    clear hm1 hF1 hW1 hZ1 hsz hgf hg5 hg6 hBw
    have w50 := HW1.out.cell 0
    have w51 := HW1.out.cell 1
    have z60 := HZB.out.cell 0
    have z61 := HZB.out.cell 1
    simp only [List.getElem?_toArray, List.getElem?_cons_zero, List.getElem?_cons_succ] at w50 w51 z60 z61
    have f60 := HZB.out.frozen 0
    have f61 := HZB.out.frozen 1
    have l5 := HW1.out.lt
    have l6 := HZB.out.lt
    have c0 := HC1.out.cell b hbN
    have c1 := HC1.out.frozen b
    have lc := HC1.out.lt
    cases hcb : c b with
    | true =>
      have HV : Hid (visit succ (f + 1) (c, L) b = (c, L)) := visit_come hcb
      rw [hcb] at c0
      clear hcb
      go_wp2
      have hZ2 := (HZB.out.set_ 0 (.slice (some ⟨gc, 0, none⟩) N N)).set_ 1 (.slice ov ll cv)
      rw [show ((#[.slice none 0 0, .slice none 0 0] : Array Value).setIfInBounds 0 (.slice (some ⟨gc, 0, none⟩) N N)).setIfInBounds 1 (.slice ov ll cv) = #[.slice (some ⟨gc, 0, none⟩) N N, .slice ov ll cv] from rfl] at hZ2
      have hm2 : Mod (fun j => j = g6) W1 ((W1.setCell ⟨g6, 0, none⟩ (.slice (some ⟨gc, 0, none⟩) N N)).setCell ⟨g6, 1, none⟩ (.slice ov ll cv)) := ((Mod.refl (fun j => j = g6) W1).setCell (p := ⟨g6, 0, none⟩) (fun _ => rfl) _).setCell (p := ⟨g6, 1, none⟩) (fun _ => rfl) _
      generalize (W1.setCell ⟨g6, 0, none⟩ (.slice (some ⟨gc, 0, none⟩) N N)).setCell ⟨g6, 1, none⟩ (.slice ov ll cv) = W2 at *
      have hge := HGE.out
      have hmw : Mod NoBlk w W2 := HM1.out.trans' hm2 (fun j hj h => absurd hj (by have : j = g6 := h; omega))
      have e0 := hZ2.cell 0
      have e1 := hZ2.cell 1
      simp only [List.getElem?_toArray, List.getElem?_cons_zero, List.getElem?_cons_succ] at e0 e1
      refine bodyPost_ret (v := .agg #[.slice (some ⟨gc, 0, none⟩) N N, .slice ov ll cv]) (w := W2) (by simp [results, Try.results54, go_sem, e0, e1]) rfl ⟨_, rfl, ?_, ?_, hmw.of_none, fun j hj => .inl hj⟩
      · rw [HV.out]; exact HC.out.mod hmw (fun h => h)
      · rw [HV.out]; exact HI.out.mod hmw
    | false =>
      have HV : Hid (visit succ (f + 1) (c, L) b = (((succ b).foldl (visit succ f) (mark c b, L)).1, ((succ b).foldl (visit succ f) (mark c b, L)).2 ++ [b])) := visit_new hcb
      have hum := unv_mark_eq (n := N) hbN hcb
      have HUM := Lib.hid hum
      rw [hcb] at c0
      clear hcb hum
      go_upto_region 4 with fail
      have hm2 : Mod (fun j => j = gc) W1 (W1.setCell ⟨gc, b, none⟩ (.bool true)) := (Mod.refl (fun j => j = gc) W1).setCell (p := ⟨gc, b, none⟩) (fun _ => rfl) _
      have hC2 := HC1.out.mark b
      generalize W1.setCell ⟨gc, b, none⟩ (.bool true) = W2 at *
      have hge := HGE.out
      have hm02 : Mod NoBlk w0 W2 := (HM0.out.trans HM1.out).trans' hm2 (fun j hj h => absurd hj (by have : j = gc := h; omega))
      have hF2 := HF1.out.mod hm2 (fun h => by have : gf = gc := h; omega)
      have hW2 := HW1.out.mod hm2 (fun h => by have : g5 = gc := h; omega)
      have hZ2 := HZB.out.mod hm2 (fun h => by have : g6 = gc := h; omega)
      obtain ⟨csc, hbc, _⟩ := id HC1.out
      have hI2 : Ints W2 B (.slice ov ll cv) L := row_mod HI1.out hm2 (fun j hj e => row_ne_blk HI1.out hbc (by decide) (by rw [hj, show j = gc from e]))
      have hmw2 : Mod (fun j => j = gc ∨ (Value.slice ov ll cv).ownBlock = some j) w W2 := (HM1.out.of_none).trans (hm2.mono (fun _ _ h => .inl h))
      obtain ⟨q0, q1, q2, q3, l0⟩ := fn_cells nm x y ob N cap W2 gf hF2
      have HC2 := Lib.hid hC2
      have HM02 := Lib.hid hm02
      have HF2 := Lib.hid hF2
      have HW2 := Lib.hid hW2
      have HZ2B := Lib.hid hZ2
      have HI2 := Lib.hid hI2
      have HMW2 := Lib.hid hmw2
      clear hm2 hC2 hge hm02 hF2 hW2 hZ2 hbc hI2 hmw2 w50 w51 z60 z61 f60 f61 l5 l6 c0 c1 lc HF1 HW1 HZB HC1 HI1
      go_wp2_with fail
      refine (refNext_ok nm x y ob N cap b succ _ (HG.out.mod HM02.out)).mono ?_
      rintro e W3 ⟨vn, rfl, hvn, hm3⟩
      rw [next_blk N succ hbN] at hvn
      obtain ⟨on, cn, rfl, hcn1, hcn2⟩ := hvn.at_
      have hn2 := (HG.out.succ b).2.1
      obtain ⟨m, hm⟩ : ∃ m, (succ b).length = m := ⟨_, rfl⟩
      have HML := Lib.hid hm
      rw [hm] at hvn hcn1 hn2 ⊢
      have HVN := Lib.hid hvn
      have HC3 := Lib.hid (HC2.out.mod hm3 (fun h => h))
      have HM03 := Lib.hid (HM02.out.trans hm3)
      have HF3 := Lib.hid (HF2.out.mod hm3 (fun h => h))
      have HW3 := Lib.hid (HW2.out.mod hm3 (fun h => h))
      have HZ3 := Lib.hid (HZ2B.out.mod hm3 (fun h => h))
      have HI3' := Lib.hid (HI2.out.mod hm3)
      have HMW3 := Lib.hid (HMW2.out.trans hm3.of_none)
      have hs3 := hm3.size
      obtain ⟨sz, hsz⟩ : ∃ sz, W2.heap.size = sz := ⟨_, rfl⟩
      have HSZ : Hid (g6 < sz ∧ sz ≤ W3.heap.size) := ⟨by have := HZ2B.out.lt; omega, by omega⟩
      rw [hsz] at HVN
      clear hm hvn hm3 hs3 hsz q0 q1 q2 q3 l0 HC2 HM02 HF2 HW2 HZ2B HI2 HMW2
      go_wp2
      go_loopw [8] (fun s8 wr => ∃ (k : Nat) (ov' : Option Addr) (cv' : Nat) (c' : Nat → Bool) (L' : List Nat), k ≤ m ∧ s8 = .int .i64 k ∧ (c', L') = ((succ b).take k).foldl (visit succ f) (mark c b, L) ∧ Bools wr gc N c' ∧ Ints wr B (.slice ov' L'.length cv') L' ∧
        Blk wr g5 106 #[.slice (some ⟨gc, 0, none⟩) N N, .slice ov' L'.length cv'] ∧ Blk wr gf 63 #[.string nm, .int .i64 x, .int .i64 y, .slice ob N cap] ∧ Blk wr g6 106 #[.slice none 0 0, .slice none 0 0] ∧ Ints wr sz (.slice on m cn) (succ b) ∧
        (∀ j, (Value.slice on m cn).ownBlock = some j → (Value.slice ov' L'.length cv').ownBlock ≠ some j) ∧ Mod NoBlk w0 wr ∧ Mod (fun j => j = gc ∨ (Value.slice ov ll cv).ownBlock = some j) w wr ∧ (∀ j, (Value.slice ov' L'.length cv').ownBlock = some j → (Value.slice ov ll cv).ownBlock = some j ∨ w.heap.size ≤ j) ∧ sz ≤ wr.heap.size) (fun s8 _ => (m - intOf s8).toNat)
      case atStart =>
        refine ⟨0, ov, cv, _, L, by omega, rfl, rfl, HC3.out, ?_, ?_, HF3.out, HZ3.out, HVN.out, fun j hj e => ?_, HM03.out, HMW3.out, fun j hj => ?_, HSZ.out.2⟩
        · rw [HLL.out]; exact HI3'.out
        · rw [HLL.out]; exact HW3.out
        · rw [HLL.out] at e
          have h1 := (HVN.out.lt j hj).1
          have h2 := (HI.out.lt j e).2
          have := HGE.out
          have := HSZ.out
          omega
        · rw [HLL.out] at hj
          exact .inl hj
      case round =>
        clear HC3 HM03 HF3 HW3 HZ3 HI3' HMW3 HVN
        obtain ⟨k, ov', cv', c', L', hk, rfl, hst, hC, hI, hW, hF, hZ, hV, hne, hM0, hMw, hat, hsz⟩ := hrel
        have hcm : ∀ i, mark c b i = true → c' i = true := fun i hi => by
          have h := fold_mono (g := visit succ f) (visit_mono f) ((succ b).take k) (mark c b, L) i hi
          rw [← hst] at h
          exact h
        have htk : ∀ z ∈ (succ b).take k, z < N := fun z hz => HS.out b z (List.mem_of_mem_take hz)
        have hum := HUM.out
        have huu := HU.out
        have hlu := HLU.out
        have hu' : unv N c' < f := by
          have := unv_mono (n := N) hcm
          omega
        have hl' : L'.length + unv N c' + 1 ≤ N := by
          have h := fold_len (visit_len HS.out f) ((succ b).take k) (mark c b, L) htk (by dsimp only; omega)
          rw [← hst] at h
          dsimp only at h
          omega
        have HST := Lib.hid hst
        have HC := Lib.hid hC
        have HI := Lib.hid hI
        have HW := Lib.hid hW
        have HF := Lib.hid hF
        have HZ := Lib.hid hZ
        have HV' := Lib.hid hV
        have HNE := Lib.hid hne
        have HM0' := Lib.hid hM0
        have HMW := Lib.hid hMw
        have HAT := Lib.hid hat
        have HU' := Lib.hid hu'
        have HL' := Lib.hid hl'
        obtain ⟨q0, q1, q2, q3, l0⟩ := fn_cells nm x y ob N cap wr gf hF
        have w50 := hW.cell 0
        have w51 := hW.cell 1
        simp only [List.getElem?_toArray, List.getElem?_cons_zero, List.getElem?_cons_succ] at w50 w51
        have f50 := hW.frozen 0
        have f51 := hW.frozen 1
        have l5 := hW.lt
        obtain ⟨ll', hll'⟩ : ∃ ll', L'.length = ll' := ⟨_, rfl⟩
        rw [hll'] at w51
        have HLL' := Lib.hid hll'
        have hle' : ll' ≤ 60 := by omega
        clear hcm htk hum huu hlu hu' hl' hst hC hI hW hF hZ hV hne hM0 hMw hat hll'
        by_cases hkm : k < m
        · have hkl : k < (succ b).length := by rw [HML.out]; exact hkm
          obtain ⟨z, hz⟩ : ∃ z, (succ b)[k]? = some z := ⟨_, List.getElem?_eq_getElem hkl⟩
          have hzN := HS.out b z (List.mem_of_getElem? hz)
          have hV := HV'.out
          rw [← HML.out] at hV
          obtain ⟨gn, rfl, _, hgn, n0⟩ := hV.get hz
          have HZK := Lib.hid hz
          have i0 : (0 : Int) ≤ (k : Int) := by omega
          have i1 : (k : Int) < (m : Int) := by omega
          have hBs : B ≤ wr.heap.size := by have := HGE.out; have := HSZ.out; omega
          clear hz hkl hV
          go_upto_region 8 with fail
          go_still_tail 6, (by kernel_rfl)
          go_wp2_with ((go_at_call 54; refine (IH.out z c' L' _ _ hzN HU'.out (by have := HL'.out; omega) (HM0'.out.drew) (HC.out.mod ((Mod.refl NoBlk wr).drew) (fun h => h)) (by rw [← HLL'.out]; exact HI.out.mod ((Mod.refl NoBlk wr).drew)) (by simpa using hBs)).mono ?_; rintro e w4 ⟨vl4, rfl, hC4, hI4, hM4, hat4⟩; obtain ⟨ov4, cv4, rfl, hcv41, hcv42⟩ := hI4.at_; have hM4' : Mod (fun j => j = gc ∨ (Value.slice ov' ll' cv').ownBlock = some j) wr w4 := ((Mod.refl _ wr).drew).trans hM4; have hge4 := HGE.out; obtain ⟨csc4, hbc4, _⟩ := id HC.out; have hW4 : Blk w4 g5 106 #[.slice (some ⟨gc, 0, none⟩) N N, .slice ov' ll' cv'] := (by rw [← HLL'.out]; exact HW.out.mod hM4' (fun h => h.elim (fun h => (by omega)) (fun h => (by rw [← HLL'.out] at h; exact row_ne_blk HI.out HW.out (by decide) h)))); have v50 := hW4.cell 0; have v51 := hW4.cell 1; simp only [List.getElem?_toArray, List.getElem?_cons_zero, List.getElem?_cons_succ] at v50 v51; have g50 := hW4.frozen 0; have g51 := hW4.frozen 1; have l54 := hW4.lt; have HC4 := Lib.hid hC4; have HI4 := Lib.hid hI4; have HM4 := Lib.hid hM4'; have HAT4 := Lib.hid hat4; have HW4 := Lib.hid hW4;clear hC4 hI4 hM4 hM4' hat4 hge4 hbc4 hW4))
          all_goals
            go_roundw
            case measure => simp [intOf]; omega
            case rel =>
              have hge := HGE.out
              have hsz4 := HSZ.out
              have hm5 : Mod (fun j => j = g5) w4 ((w4.setCell ⟨g5, 0, none⟩ (.slice (some ⟨gc, 0, none⟩) N N)).setCell ⟨g5, 1, none⟩ (.slice ov4 (visit succ f (c', L') z).2.length cv4)) := ((Mod.refl (fun j => j = g5) w4).setCell (p := ⟨g5, 0, none⟩) (fun _ => rfl) _).setCell (p := ⟨g5, 1, none⟩) (fun _ => rfl) _
              have hW5 := (HW4.out.set_ 0 (.slice (some ⟨gc, 0, none⟩) N N)).set_ 1 (.slice ov4 (visit succ f (c', L') z).2.length cv4)
              rw [show ((#[.slice (some ⟨gc, 0, none⟩) N N, .slice ov' ll' cv'] : Array Value).setIfInBounds 0 (.slice (some ⟨gc, 0, none⟩) N N)).setIfInBounds 1 (.slice ov4 (visit succ f (c', L') z).2.length cv4) = #[.slice (some ⟨gc, 0, none⟩) N N, .slice ov4 (visit succ f (c', L') z).2.length cv4] from rfl] at hW5
              generalize (w4.setCell ⟨g5, 0, none⟩ (.slice (some ⟨gc, 0, none⟩) N N)).setCell ⟨g5, 1, none⟩ (.slice ov4 (visit succ f (c', L') z).2.length cv4) = W5 at *
              have hall : Mod (fun j => j = gc ∨ (Value.slice ov' ll' cv').ownBlock = some j ∨ j = g5) wr W5 := (HM4.out.mono (fun j _ h => h.elim .inl (fun h => .inr (.inl h)))).trans (hm5.mono (fun j _ h => .inr (.inr h)))
              obtain ⟨csc, hbc, _⟩ := id HC.out
              have hsg : ∀ j t cs, Blk wr j t cs → t ≠ 3 → j ≠ gc → j ≠ g5 → ¬ (j = gc ∨ (Value.slice ov' ll' cv').ownBlock = some j ∨ j = g5) := fun j t cs hb ht h1 h2 h => by
                rcases h with h | h | h
                · exact h1 h
                · rw [← HLL'.out] at h; exact row_ne_blk HI.out hb ht h
                · exact h2 h
              have hvo : ∀ j, (Value.slice ov' ll' cv').ownBlock = some j → B ≤ j ∧ j < wr.heap.size := fun j hj => by
                rw [← HLL'.out] at hj
                exact HI.out.lt j hj
              have hw0 := HM0.out.size
              refine ⟨k + 1, ov4, cv4, (visit succ f (c', L') z).1, (visit succ f (c', L') z).2, by omega, by go_num, ?_, HC4.out.mod hm5 (fun h => by have : gc = g5 := h; omega), row_mod HI4.out hm5 (fun j hj e => row_ne_blk HI4.out HW4.out (by decide) (by rw [hj, show j = g5 from e])), hW5, HF.out.mod hall (hsg _ _ _ HF.out (by decide) (by omega) (by omega)), HZ.out.mod hall (hsg _ _ _ HZ.out (by decide) (by omega) (by omega)), row_mod HV'.out hall (fun j hj e => ?_), fun j hj e => ?_, HM0'.out.trans' hall (fun j hj e => absurd hj ?_), HMW.out.trans' hall (fun j hj e => ?_), fun j hj => ?_, Nat.le_trans hsz (hall.size)⟩
              · rw [List.take_add_one, HZK.out]
                simp only [Option.toList_some, List.foldl_append, List.foldl_cons, List.foldl_nil]
                rw [← HST.out]
              · rcases e with e | e | e
                · exact row_ne_blk HV'.out hbc (by decide) (by rw [hj, show j = gc from e])
                · rw [← HLL'.out] at e
                  exact HNE.out j hj e
                · exact row_ne_blk HV'.out HW.out (by decide) (by rw [hj, show j = g5 from e])
              · rcases HAT4.out j e with h | h
                · rw [← HLL'.out] at h
                  exact HNE.out j hj h
                · have h1 := (HV'.out.lt j hj).2
                  have h2 : wr.heap.size ≤ j := h
                  omega
              · rcases e with e | e | e
                · omega
                · have := (hvo j e).1; omega
                · omega
              · rcases e with e | e | e
                · exact .inl e
                · rw [← HLL'.out] at e
                  rcases HAT.out j e with h | h
                  · exact .inr h
                  · omega
                · omega
              · rcases HAT4.out j hj with h | h
                · rw [← HLL'.out] at h
                  exact HAT.out j h
                · have h2 : wr.heap.size ≤ j := h
                  have := HMW.out.size
                  exact .inr (by omega)
        · have hkm' : k = m := by omega
          subst k
          have HALL : Hid ((succ b).take m = succ b) := List.take_of_length_le (by rw [HML.out]; exact Nat.le_refl _)
          have HRES : Hid (visit succ (f + 1) (c, L) b = (c', L' ++ [b])) := by
            unfold Hid
            have h := HST.out
            rw [HALL.out] at h
            rw [HV.out, ← h]
          have HIo : Hid (wr.ownsRow B 3 1 (.slice ov' ll' cv') ll' (L'.map fun x => Value.int .i64 (x : Nat))) := by
            unfold Hid
            rw [← HLL'.out]
            exact HI.out
          have hBs : B ≤ wr.heap.size := by have := HGE.out; have := HSZ.out; omega
          clear q0 q1 q2 q3 l0
          go_upto_region 10 with (at_builtin; go_must (refine wpList_append_lies _ rfl _ _ 65 rfl B 3 i3 (.int .i64 0) 1 8 Try.underlying65 HI3.out HZ0.out HZ1.out HZ2.out rfl (by decide) _ ll' (L'.map fun x => Value.int .i64 (x : Nat)) rfl (World.ownsRow.alloc HIo.out _) ⟨wr.heap.size, 0, none⟩ 1 1 [_] rfl rfl (cell_one_new _ _ _) (by simp [Value.oneCell']) (by omega) (by unfold maxLen; omega) (by omega) (by simp; omega) _ rfl ?_); intro g2 c2 w3 hown hgrow hat2 _; have hm3 := grow_mod hgrow; have hW3 : Blk w3 g5 106 #[.slice (some ⟨gc, 0, none⟩) N N, .slice ov' ll' cv'] := (by rw [← HLL'.out]; exact HW.out.mod hm3 (fun h => (by rw [← HLL'.out] at h; exact row_ne_blk HI.out HW.out (by decide) h))); have v50 := hW3.cell 0; have v51 := hW3.cell 1; simp only [List.getElem?_toArray, List.getElem?_cons_zero, List.getElem?_cons_succ] at v50 v51; have g51 := hW3.frozen 1; have l53 := hW3.lt; have HOW := Lib.hid hown; have HM3 := Lib.hid hm3; have HAT2 := Lib.hid hat2; have HW3' := Lib.hid hW3; clear hown hgrow hat2 hm3 hW3)
          have hge := HGE.out
          have hm4 : Mod (fun j => j = g5) w3 (w3.setCell ⟨g5, 1, none⟩ (.slice (some ⟨g2, 0, none⟩) (ll' + 1) c2)) := (Mod.refl (fun j => j = g5) w3).setCell (p := ⟨g5, 1, none⟩) (fun _ => rfl) _
          have hW4 := HW3'.out.set_ 1 (.slice (some ⟨g2, 0, none⟩) (ll' + 1) c2)
          rw [show (#[.slice (some ⟨gc, 0, none⟩) N N, .slice ov' ll' cv'] : Array Value).setIfInBounds 1 (.slice (some ⟨g2, 0, none⟩) (ll' + 1) c2) = #[.slice (some ⟨gc, 0, none⟩) N N, .slice (some ⟨g2, 0, none⟩) (ll' + 1) c2] from rfl] at hW4
          generalize w3.setCell ⟨g5, 1, none⟩ (.slice (some ⟨g2, 0, none⟩) (ll' + 1) c2) = W4 at *
          have hown' : Ints w3 B (.slice (some ⟨g2, 0, none⟩) (ll' + 1) c2) (L' ++ [b]) := by
            have := HOW.out
            unfold Ints
            rw [List.length_append, HLL'.out]
            simpa using this
          have hI4 : Ints W4 B (.slice (some ⟨g2, 0, none⟩) (ll' + 1) c2) (L' ++ [b]) := row_mod hown' hm4 (fun j hj e => row_ne_blk hown' HW3'.out (by decide) (by rw [hj, show j = g5 from e]))
          have hall : Mod (fun j => (Value.slice ov' ll' cv').ownBlock = some j ∨ j = g5) wr W4 := (HM3.out.mono (fun j _ h => .inl h)).trans (hm4.mono (fun j _ h => .inr h))
          have hvn : ∀ j t cs, Blk wr j t cs → t ≠ 3 → j ≠ g5 → ¬ ((Value.slice ov' ll' cv').ownBlock = some j ∨ j = g5) := fun j t cs hb ht h2 h => by
            rcases h with h | h
            · rw [← HLL'.out] at h; exact row_ne_blk HI.out hb ht h
            · exact h2 h
          obtain ⟨csc, hbc, _⟩ := id HC.out
          have hC4 := HC.out.mod hall (hvn _ _ _ hbc (by decide) (by omega))
          have hZ4 := HZ.out.mod hall (hvn _ _ _ HZ.out (by decide) (by omega))
          have x50 := hW4.cell 0
          have x51 := hW4.cell 1
          have z60 := hZ4.cell 0
          have z61 := hZ4.cell 1
          simp only [List.getElem?_toArray, List.getElem?_cons_zero, List.getElem?_cons_succ] at x50 x51 z60 z61
          have f60 := hZ4.frozen 0
          have f61 := hZ4.frozen 1
          have l64 := hZ4.lt
          have l54 := hW4.lt
          have hge' : gc < gf ∧ gf + 1 = g5 ∧ g5 + 1 = g6 := ⟨by omega, by omega, by omega⟩
          have HGE' := Lib.hid hge'
          have HC4 := Lib.hid hC4
          have HI4 := Lib.hid hI4
          have HZ4 := Lib.hid hZ4
          have HALL4 := Lib.hid hall
          clear hm4 hW4 hown' hI4 hall hvn hbc hC4 hZ4 hge hge' w50 w51 f50 f51 l5 v50 v51 g51 l53
          go_wp2
          have hge := HGE'.out
          have hwg := HGE.out
          have hZ5 := (HZ4.out.set_ 0 (.slice (some ⟨gc, 0, none⟩) N N)).set_ 1 (.slice (some ⟨g2, 0, none⟩) (ll' + 1) c2)
          rw [show ((#[.slice none 0 0, .slice none 0 0] : Array Value).setIfInBounds 0 (.slice (some ⟨gc, 0, none⟩) N N)).setIfInBounds 1 (.slice (some ⟨g2, 0, none⟩) (ll' + 1) c2) = #[.slice (some ⟨gc, 0, none⟩) N N, .slice (some ⟨g2, 0, none⟩) (ll' + 1) c2] from rfl] at hZ5
          have hm5 : Mod (fun j => j = g6) W4 ((W4.setCell ⟨g6, 0, none⟩ (.slice (some ⟨gc, 0, none⟩) N N)).setCell ⟨g6, 1, none⟩ (.slice (some ⟨g2, 0, none⟩) (ll' + 1) c2)) := ((Mod.refl (fun j => j = g6) W4).setCell (p := ⟨g6, 0, none⟩) (fun _ => rfl) _).setCell (p := ⟨g6, 1, none⟩) (fun _ => rfl) _
          generalize (W4.setCell ⟨g6, 0, none⟩ (.slice (some ⟨gc, 0, none⟩) N N)).setCell ⟨g6, 1, none⟩ (.slice (some ⟨g2, 0, none⟩) (ll' + 1) c2) = W5 at *
          have e0 := hZ5.cell 0
          have e1 := hZ5.cell 1
          simp only [List.getElem?_toArray, List.getElem?_cons_zero, List.getElem?_cons_succ] at e0 e1
          refine bodyPost_ret (v := .agg #[.slice (some ⟨gc, 0, none⟩) N N, .slice (some ⟨g2, 0, none⟩) (ll' + 1) c2]) (w := W5) (by simp [results, Try.results54, go_sem, e0, e1]) rfl ⟨_, rfl, ?_, ?_, ?_, fun j hj => ?_⟩
          · rw [HRES.out]; exact HC4.out.mod hm5 (fun h => by have : gc = g6 := h; omega)
          · rw [HRES.out]; exact row_mod HI4.out hm5 (fun j hj e => row_ne_blk HI4.out HZ4.out (by decide) (by rw [hj, show j = g6 from e]))
          · refine (HMW.out.trans' HALL4.out (fun j hj e => ?_)).trans' hm5 (fun j hj e => absurd hj (by have : j = g6 := e; omega))
            rcases e with e | e
            · rw [← HLL'.out] at e
              rcases HAT.out j e with h | h
              · exact .inr h
              · omega
            · omega
          · rcases HAT2.out with h | h
            · rw [← HLL'.out] at h
              have hjj : g2 = j := by
                have : some g2 = some j := hj
                exact Option.some.inj this
              rw [← hjj]
              exact HAT.out g2 h
            · have hjj : g2 = j := by
                have : some g2 = some j := hj
                exact Option.some.inj this
              have h2 : g2 = wr.heap.size + 1 := by simpa using h
              have := HMW.out.size
              exact .inr (by omega)
end Go.Proofs.Ytjaapempahigaaa
