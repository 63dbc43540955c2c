/- What an argument of type api.Func looks like in cells, and how much memory it takes at most. -/
import Derived.Test.YtjaapempahigaaaFl18
import Derived.SizedLaws
namespace Go.Proofs.Ytjaapempahigaaa
open Go.ChangeShapes Go.WideShapes Go.RowKit Go.Deep

/-- All that was read is within the reach. -/
def Sized {H : Type} (P : Program) (t : TypeId) (d : DataW H) : Prop := ∀ n ∈ d.weights P t, n ≤ reachBytes
section
variable {H : Type} {P : Program}
theorem Sized.len {t e : TypeId} {elems spare : List (DataW H)} (h : Sized P t (.slice elems spare)) (ht : P.underlying t = some (.slice e)) : (elems.length + spare.length) * P.bytesOf e ≤ reachBytes :=
  h _ (by simp [DataW.weights, ht])
theorem weights_all {e : TypeId} : ∀ (l : List (DataW H)) (d : DataW H), d ∈ l → ∀ n ∈ d.weights P e, n ∈ DataW.weightsAll P e l
  | [], _, h, _, _ => by cases h
  | c :: l, d, h, n, hn => by
    unfold DataW.weightsAll
    rcases List.mem_cons.1 h with rfl | h
    · exact List.mem_append.2 (.inl hn)
    · exact List.mem_append.2 (.inr (weights_all l d h n hn))
theorem Sized.elem {t e : TypeId} {elems spare : List (DataW H)} {d : DataW H} (h : Sized P t (.slice elems spare)) (ht : P.underlying t = some (.slice e)) (hd : d ∈ elems) : Sized P e d := fun n hn =>
  h n (by simp only [DataW.weights, ht]; exact List.mem_cons_of_mem _ (List.mem_append.2 (.inl (weights_all elems d hd n hn))))
theorem Sized.field {t : TypeId} {fs : Array Field} {parts : List (DataW H)} {d : DataW H} {j : Nat} {f : Field} (h : Sized P t (.agg parts)) (ht : P.underlying t = some (.struct fs)) (hf : fs[j]? = some f) (hd : parts[j]? = some d) : Sized P f.type d := fun n hn =>
  h n (by
    simp only [DataW.weights, ht]
    exact DataW.weights_mem_each (ts := fs.toList.map (·.type)) (j := j) (by simp [hf]) hd n hn)
end
section
variable {H : Type} {enc : TypeId × Value → H} {P : Program} {w : World} {base : Nat} {spare : Nat → Bool} {held : Bool}
theorem struct_sized {t : TypeId} {fs : Array Field} {fuel : Nat} {cs : List Value} {x : DataW H × List MemPlace} (ht : P.underlying t = some (.struct fs)) (hone : oneCellFields P fs = true) (hC : P.cellsOf t = fs.size)
    (h : DataW.trod enc P w base spare held fuel t cs = some x) (hz : Sized P t x.1) :
    ∃ n, ∀ (j : Nat) (f : Field), fs[j]? = some f → ∃ u y, cs[j]? = some u ∧ DataW.trod enc P w base spare held n f.type [u] = some y ∧ Sized P f.type y.1 := by
  obtain ⟨xs, n, _, hx, hl, hxl, hf⟩ := DataW.trod_struct ht h
  rw [hC] at hl
  rw [hx] at hz
  refine ⟨n, fun j f hj => ?_⟩
  obtain ⟨ho, hk⟩ := hone_of hone j f hj
  have hjl : j < fs.size := (Array.getElem?_eq_some_iff.1 hj).1
  have h1 := hf j f hj
  rw [ho, hk] at h1
  have e : (cs.drop j).take 1 = [cs[j]'(by omega)] := by
    rw [List.drop_eq_getElem_cons (by omega)]
    rfl
  rw [e] at h1
  have hy : xs[j]? = some (xs[j]'(by omega)) := List.getElem?_eq_getElem (by omega)
  exact ⟨_, _, List.getElem?_eq_getElem (by omega), h1.trans hy, Sized.field hz ht hj (by rw [List.getElem?_map, hy]; rfl)⟩
theorem value_sized {r : Reach} {b0 : Nat} {t : TypeId} {fs : Array Field} {v : Value} {d : DataW H} {p : List MemPlace} (ht : P.underlying t = some (.struct fs)) (hone : oneCellFields P fs = true) (hC : P.cellsOf t = fs.size)
    (hv : Value.okWide P w r b0 t v) (h : DataW.Trod enc P w base spare held t v d p) (hz : Sized P t d) :
    ∃ cs : List Value, v = .agg cs.toArray ∧ cs.length = fs.size ∧ ∃ n, ∀ (j : Nat) (f : Field), fs[j]? = some f → ∃ u y, cs[j]? = some u ∧ DataW.trod enc P w base spare held n f.type [u] = some y ∧ Sized P f.type y.1 := by
  obtain ⟨cs, rfl, hsz⟩ := okWide_struct ht hv
  obtain ⟨fuel, hf⟩ := h
  have hf' : DataW.trod enc P w base spare held fuel t cs.toList = some (d, p) := by simpa [Value.cells] using hf
  obtain ⟨hl, _⟩ := struct_cells ht hone hC hf'
  exact ⟨cs.toList, by simp, hl, struct_sized ht hone hC hf' hz⟩
end
/-- A nil slice has no room. -/
def NilOk (w : World) (a : Addr) : Prop := ∀ (n c : Nat), w.cell? ⟨a.block, a.off + 1, none⟩ = some (.slice none n c) → c = 0
theorem bytes83 : Try.prog.bytesOf 83 = 88 := by kernel_rfl

section
variable {H : Type} {enc : TypeId × Value → H} {w : World} {base : Nat} {spare : Nat → Bool} {held : Bool}
theorem open_insz {fuel : Nat} {u : Value} {x : DataW H × List MemPlace} (h : DataW.trod enc Try.prog w base spare held fuel 79 [u] = some x) (hz : Sized Try.prog 79 x.1) :
    ∃ oi c, ∃ l : List (Int × Int × Int), u = .slice oi l.length c ∧ l.length ≤ c ∧ c ≤ maxLen ∧ l.length * 88 ≤ reachBytes ∧ (oi = none → c = 0) ∧ ∀ (j : Nat) (t : Int × Int × Int), l[j]? = some t → ∃ ia, oi = some ia ∧ InsAt w (ia.add (j * 9)) t.1 t.2.1 t.2.2 := by
  rcases open_slice Try.underlying79 h with ⟨h0, _⟩ | ⟨a, len, cap', m', n, D, Pl, hc, hb, hl, hm, hmm, hxx, hx⟩
  · simp only [List.cons.injEq, and_true] at h0
    exact ⟨none, 0, [], h0, by simp, by simp, by simp, fun _ => rfl, fun j t ht => by simp at ht⟩
  · simp only [List.cons.injEq, and_true] at hc
    obtain ⟨l, hlen, hl2⟩ := list_of len (fun j (t : Int × Int × Int) => InsAt w (a.add (j * 9)) t.1 t.2.1 t.2.2) (fun j hj => by
      obtain ⟨cs', h1, h2⟩ := hx j (by rw [hmm]; split <;> omega)
      rw [cells83] at h1
      exact open_ins h1 h2)
    have hb := Sized.len (hxx ▸ hz) Try.underlying79
    rw [bytes83] at hb
    simp only [List.length_map, List.length_range] at hb
    have hb2 : l.length * 88 ≤ reachBytes := Nat.le_trans (Nat.mul_le_mul_right 88 (by omega)) hb
    exact ⟨some a, cap', l, by rw [hlen]; exact hc, by omega, hm, hb2, fun h => (by cases h), fun j t ht => ⟨a, rfl, hl2 j t ht⟩⟩

set_option maxRecDepth 100000 in
theorem open_blocz {fuel : Nat} {cs' : List Value} {x : DataW H × List MemPlace} {a : Addr} (h1 : w.cells? base a 2 = some cs') (h2 : DataW.trod enc Try.prog w base spare held fuel 81 cs' = some x) (hz : Sized Try.prog 81 x.1) :
    ∃ l : List (Int × Int × Int), BlkAt w a l ∧ l.length * 88 ≤ reachBytes ∧ NilOk w a := by
  obtain ⟨_, hlen, hcell⟩ := World.cells?_some h1
  obtain ⟨fs, hfs, hsz, hone, hall⟩ := block_fields
  obtain ⟨n', hfl⟩ := struct_sized hfs hone (by rw [cells81, hsz]) h2 hz
  match cs', hlen with
  | [u0, u1], _ =>
    have e0 := hcell 0 (by omega)
    have e1 := hcell 1 (by omega)
    obtain ⟨f0, k0, t0⟩ := field_type hall 0 _ rfl
    obtain ⟨v0, y0, g0, h0, _⟩ := hfl 0 _ k0
    rw [t0] at h0
    obtain ⟨f1, k1, t1⟩ := field_type hall 1 _ rfl
    obtain ⟨v1, y1, g1, h1, z1⟩ := hfl 1 _ k1
    rw [t1] at h1 z1
    simp only [List.getElem?_cons_zero, List.getElem?_cons_succ, Option.some.injEq] at g0 g1 e0 e1
    subst g0 g1
    obtain ⟨nm, z0, _⟩ := DataW.trod_string Try.underlying9 h0
    obtain ⟨oi, c, l, rfl, hlc, hc, hlz, hnil, hl⟩ := open_insz h1 z1
    simp only [List.cons.injEq, and_true] at z0
    subst z0
    rw [show a.add 0 = a from rfl] at e0
    rw [add_succ' _ _ (by omega)] at e1
    exact ⟨l, ⟨lt_of_cell' e0, nm, oi, c, e0, e1, hlc, hc, hl⟩, hlz, fun n c' he => (by
      rw [e1] at he
      simp only [Option.some.injEq, Value.slice.injEq] at he
      obtain ⟨h1, _, h2⟩ := he
      rw [← h2]
      exact hnil h1)⟩

set_option maxRecDepth 100000 in
/-- A function by value. -/
theorem open_funz {r : Reach} {b0 : Nat} {v : Value} {d : DataW H} {p : List MemPlace}
    (hv : Value.okWide Try.prog w r b0 63 v) (h : DataW.Trod enc Try.prog w base spare held 63 v d p) (hz : Sized Try.prog 63 d) :
    ∃ (nm : ByteArray) (x y : Int) (ob : Option Addr) (N cap : Nat) (bl : Nat → List (Int × Int × Int)), v = fnV nm x y ob N cap ∧ N ≤ cap ∧ cap ≤ maxLen ∧ FullAt w ob N bl ∧ ∀ b, b < N → (bl b).length * 88 ≤ reachBytes ∧ ∀ a, ob = some a → NilOk w (a.add (b * 2)) := by
  obtain ⟨fs, hfs, hsz, hone, hall⟩ := func_fields
  obtain ⟨cs, rfl, hl, n, hf⟩ := value_sized hfs hone (by rw [cells63, hsz]) hv h hz
  rw [hsz] at hl
  match cs, hl with
  | [c0, c1, c2, c3], _ =>
    obtain ⟨f0, k0, t0⟩ := field_type hall 0 _ rfl
    obtain ⟨u0, y0, e0, h0, _⟩ := hf 0 _ k0
    rw [t0] at h0
    obtain ⟨f1, k1, t1⟩ := field_type hall 1 _ rfl
    obtain ⟨u1, y1, e1, h1, _⟩ := hf 1 _ k1
    rw [t1] at h1
    obtain ⟨f2, k2, t2⟩ := field_type hall 2 _ rfl
    obtain ⟨u2, y2, e2, h2, _⟩ := hf 2 _ k2
    rw [t2] at h2
    obtain ⟨f3, k3, t3⟩ := field_type hall 3 _ rfl
    obtain ⟨u3, y3, e3, h3, s3⟩ := hf 3 _ k3
    rw [t3] at h3 s3
    simp only [List.getElem?_cons_zero, List.getElem?_cons_succ, Option.some.injEq] at e0 e1 e2 e3
    subst e0 e1 e2 e3
    obtain ⟨nm, z0, _⟩ := DataW.trod_string Try.underlying9 h0
    obtain ⟨x, z1, _⟩ := DataW.trod_int Try.underlying3 h1
    obtain ⟨y, z2, _⟩ := DataW.trod_int Try.underlying3 h2
    simp only [List.cons.injEq, and_true] at z0 z1 z2
    subst z0 z1 z2
    rcases open_slice Try.underlying61 h3 with ⟨h0, _⟩ | ⟨a, len, cap', m', n, D, Pl, hc, hb, hl, hm, hmm, hxx, hx⟩
    · simp only [List.cons.injEq, and_true] at h0
      subst h0
      exact ⟨nm, x, y, none, 0, 0, fun _ => [], rfl, by omega, by simp, fun b hb => by omega, fun b hb => by omega⟩
    · simp only [List.cons.injEq, and_true] at hc
      subst hc
      obtain ⟨B, hB⟩ := choose_lt (α := List (Int × Int × Int)) (p := fun b l => BlkAt w (a.add (b * 2)) l ∧ l.length * 88 ≤ reachBytes ∧ NilOk w (a.add (b * 2))) (n := len) (fun b hb => by
        obtain ⟨cs', h1, h2⟩ := hx b (by rw [hmm]; split <;> omega)
        rw [cells81] at h1
        refine open_blocz h1 h2 (Sized.elem (hxx ▸ s3) Try.underlying61 ?_)
        exact List.mem_map.2 ⟨b, List.mem_range.2 hb, rfl⟩)
      exact ⟨nm, x, y, some a, len, cap', B, rfl, hl, hm, fun b hb => ⟨a, rfl, (hB b hb).1⟩, fun b hb => ⟨(hB b hb).2.1, fun a' e => (by cases e; exact (hB b hb).2.2)⟩⟩
end
end Go.Proofs.Ytjaapempahigaaa
