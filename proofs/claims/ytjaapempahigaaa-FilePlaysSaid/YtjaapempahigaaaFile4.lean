/- The register file: Put. -/
import Derived.Test.YtjaapempahigaaaFile3
import Derived.Deep.AppendLies
namespace Go.Proofs.Ytjaapempahigaaa
open Go.RowKit

/-- n words l lie at the head of block g. -/
structure WordsAt (w : World) (g n : Nat) (l : Nat → Int) : Prop where
  bg : ∃ cs, Blk w g 22 cs ∧ n ≤ cs.size ∧ ∀ i, i < n → cs[i]? = some (.int .u32 (l i))

section
variable {w w' : World} {g n : Nat} {l : Nat → Int}
theorem WordsAt.cell (h : WordsAt w g n l) (i : Nat) (hi : i < n) : w.cell? ⟨g, i, none⟩ = some (.int .u32 (l i)) := by
  obtain ⟨cs, hb, _, hc⟩ := h.bg
  rw [hb.cell]; exact hc i hi
theorem WordsAt.lt (h : WordsAt w g n l) : g < w.heap.size := by
  obtain ⟨cs, hb, _⟩ := h.bg
  exact hb.lt
theorem WordsAt.mod (h : WordsAt w g n l) {S : Nat → Prop} (hm : Mod S w w') (hS : ¬ S g) : WordsAt w' g n l := by
  obtain ⟨cs, hb, hr⟩ := h.bg
  exact ⟨cs, hb.mod hm hS, hr⟩
theorem WordsAt.congr (h : WordsAt w g n l) {l' : Nat → Int} (he : ∀ i, i < n → l i = l' i) : WordsAt w g n l' := by
  obtain ⟨cs, hb, hn, hr⟩ := h.bg
  exact ⟨cs, hb, hn, fun i hi => by rw [hr i hi, he i hi]⟩
end

def putA (A : Nat → Int) (window : Nat) (l : Nat → Int) : Nat → Int := fun j => if 16 * window ≤ j ∧ j < 16 * window + 16 then l (j - 16 * window) else A j

theorem size22 : (Try.prog.info? 22).map (·.size) = some 1 := by kernel_rfl

theorem splice_get {α : Type} (L : List α) (off : Nat) (cs : List α) (h : off + cs.length ≤ L.length) (i : Nat) :
    (splice L off cs)[i]? = if off ≤ i ∧ i < off + cs.length then cs[i - off]? else L[i]? := by
  unfold splice
  by_cases h1 : i < off
  · rw [if_neg (by omega), List.getElem?_append_left (by simp; omega), List.getElem?_take_of_lt h1]
  · rw [List.getElem?_append_right (by simp; omega)]
    have e : (L.take off).length = off := by simp; omega
    rw [e]
    by_cases h2 : i < off + cs.length
    · rw [if_pos (by omega), List.getElem?_append_left (by omega)]
    · rw [if_neg (by omega), List.getElem?_append_right (by omega), List.getElem?_drop]
      congr 1; omega

theorem FileAt.put {w w' : World} {p q nw cap : Nat} {A G : Nat → Int} (h : FileAt w p q nw cap A G) (window : Nat) (hw : window < nw) (l : Nat → Int) (cq : Array Value) (hq : Blk w q 22 cq)
    (hq' : Blk w' q 22 (splice cq.toList (16 * window) ((List.range 16).map fun i => .int .u32 (l i))).toArray) (hm : Mod (fun k => k = q) w w') : FileAt w' p q nw cap (putA A window l) G := by
  have hne := h.ne
  obtain ⟨a, b, c, d, ⟨cs, hb, hr⟩, ⟨cs', hb', h2, h3⟩⟩ := h
  obtain ⟨_, rfl⟩ := hq.uniq hb'
  have hle : 16 * window + ((List.range 16).map fun i => Value.int .u32 (l i)).length ≤ cq.toList.length := by simp; omega
  refine ⟨a, b, c, d, ⟨cs, hb.mod hm hne, hr⟩, ⟨_, hq', ?_, fun j hj => ?_⟩⟩
  · rw [List.size_toArray, length_splice _ _ _ hle]; simpa using h2
  · rw [List.getElem?_toArray, splice_get _ _ _ hle]
    unfold putA
    by_cases hj2 : 16 * window ≤ j ∧ j < 16 * window + 16
    · rw [if_pos (by simpa using hj2), if_pos hj2]
      rw [List.getElem?_map, List.getElem?_range (by omega)]; rfl
    · rw [if_neg (by simpa using hj2), if_neg hj2, Array.getElem?_toList]
      exact h3 j hj

theorem wpList_copy_mod {P : Program} {w : World} {ops : Array Oper} {rest : List Oper} {o : Oper} {a : Act} {Q : Exit → Act → World → Prop} (hgd : o.guard = none) (d s : Operand) (dT sT : TypeId)
    (ho : o.op = .call { callee := .builtin .copy, args := #[d, s], argTypes := #[dT, sT] }) (elem : TypeId) (hu : P.underlying dT = some (.slice elem)) (hsz : (P.info? elem).map (·.size) = some 1)
    (g off dLen dCap : Nat) (ad : Addr) (sLen sCap : Nat) (hd : a.eval d = .slice (some ⟨g, off, none⟩) dLen dCap) (hs : a.eval s = .slice (some ad) sLen sCap)
    (cur : List Value) (t : TypeId) (hg : Blk w g t cur.toArray) (cs : List Value) (hn : cs.length = Nat.min sLen dLen)
    (hsrc : ∀ j v, cs[j]? = some v → w.cell? (ad.add j) = some v) (hfit : off + cs.length ≤ cur.length) (h1 : ∀ v ∈ cs, v.oneCell' = true)
    (h : ∀ w', Hid (Blk w' g t (splice cur off cs).toArray) → Mod (fun k => k = g) w w' → wpList P ops Q rest (a.put o.dst (goInt cs.length)) w') : wpList P ops Q (o :: rest) a w := by
  refine wpList_copy_own hgd d s dT sT ho elem hu hsz g off dLen dCap ad sLen sCap hd hs cur.toArray t hg cs hn hsrc (by simpa using hfit) h1 ?_
  refine h _ ?_ ⟨rfl, rfl, rfl, by simp, fun k hk hne => setRow_other w g k _ hne⟩
  show _ = _
  simpa [splice] using setRow_heap w g _ _ t _ hg

theorem add_off (g i : Nat) : (⟨g, 0, none⟩ : Addr).add i = ⟨g, i, none⟩ := by
  unfold Addr.add; split <;> simp_all
theorem add_off' (g o i : Nat) : (⟨g, o, none⟩ : Addr).add i = ⟨g, o + i, none⟩ := by
  unfold Addr.add; split <;> simp_all

set_option maxHeartbeats 400000 in
theorem put_ok (p q nw cap window g c : Nat) (l : Nat → Int) (A G : Nat → Int) (w : World) (hf : FileAt w p q nw cap A G) (hw : window < nw) (hl : WordsAt w g 16 l) :
    Calls Try.prog 16 #[.pointer (some ⟨p, 0, none⟩), .int .i64 window, .slice (some ⟨g, 0, none⟩) 16 c] w
      fun e w' => e = .returned (.int .i64 0) ∧ FileAt w' p q nw cap (putA A window l) G ∧ Mod (fun k => k = q) w w' := by
  have h32 := hf.n32
  have hcap := hf.hcap
  have hcapm := hf.hcapm
  have hc1 := hf.c1
  obtain ⟨cq, hbq, hsq, _⟩ := hf.bq
  obtain ⟨ls, hls⟩ : ∃ ls, ls = (List.range 16).map fun i => Value.int .u32 (l i) := ⟨_, rfl⟩
  have hlen : ls.length = 16 := by rw [hls]; simp
  have k1 : ls.length = Nat.min 16 (16 * nw - 16 * window) := by rw [hlen]; simp [Nat.min_def]; omega
  have k2 : ∀ m j v, ls[j]? = some v → (w.drewN m).cell? ((⟨g, 0, none⟩ : Addr).add j) = some v := by
    intro m j v hv
    have hj : j < 16 := by have := (List.getElem?_eq_some_iff.1 hv).1; omega
    rw [hls, List.getElem?_map, List.getElem?_range hj] at hv
    simp at hv; subst hv
    rw [add_off]; exact hl.cell j hj
  have k3 : 16 * window + ls.length ≤ cq.toList.length := by rw [hlen, Array.length_toList, hsq]; omega
  have k4 : ∀ v ∈ ls, v.oneCell' = true := by
    intro v hv; rw [hls] at hv; simp at hv; obtain ⟨i, _, rfl⟩ := hv; rfl
  have k5 : ∀ m, Blk (w.drewN m) q 22 cq.toList.toArray := fun m => by simpa using hbq.drewN m
  have k6 : ∀ m w', Hid (Blk w' q 22 (splice cq.toList (16 * window) ls).toArray) → Mod (fun k => k = q) (w.drewN m) w' → FileAt w' p q nw cap (putA A window l) G :=
    fun m w' h1 h2 => (hf.drewN m).put window hw l cq (hbq.drewN m) (by rw [← hls]; exact h1.out) h2
  have K1 := Lib.hid k1
  have K2 := Lib.hid k2
  have K3 := Lib.hid k3
  have K4 := Lib.hid k4
  have K5 := Lib.hid k5
  have K6 := Lib.hid k6
  have HF := Lib.hid hf
  clear hf hl hbq hls hlen k1 k2 k3 k4 k5 k6 hsq
  go_enter Try.func16, Try.ntmps16
  go_wp2_with (first | (go_at_call 42; refine (at_ok p q nw cap window 0 0 A G _ HF.out hw (by omega) (by omega)).mono ?_; rintro e w' ⟨rfl, m, rfl⟩) | (refine wpList_copy_mod rfl (.tmp 31) (.tmp 32) 35 35 rfl 22 Try.underlying35 size22 _ _ _ _ _ _ _ rfl rfl cq.toList 22 (K5.out m) ls K1.out (K2.out m) K3.out K4.out ?_; intro w2 hb2 hm2))
  go_ret
  exact ⟨rfl, K6.out m w2 hb2 hm2, ((Mod.refl _ w).drewN m).trans hm2⟩

end Go.Proofs.Ytjaapempahigaaa
