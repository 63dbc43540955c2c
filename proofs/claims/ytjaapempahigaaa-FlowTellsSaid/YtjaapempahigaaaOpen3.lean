/- What an argument of type api.Func looks like in cells. -/
import Derived.Test.YtjaapempahigaaaOpen1
import Derived.Test.YtjaapempahigaaaFl17
namespace Go.Proofs.Ytjaapempahigaaa
open Go.ChangeShapes Go.WideShapes Go.RowKit Go.Deep

/-- A block at a: its instructions, each told by what it is and where it goes. -/
def BlkAt (w : World) (a : Addr) (l : List (Int × Int × Int)) : Prop :=
  a.block < w.heap.size ∧ ∃ (nm : ByteArray) (oi : Option Addr) (c : Nat), w.cell? a = some (.string nm) ∧ w.cell? ⟨a.block, a.off + 1, none⟩ = some (.slice oi l.length c) ∧ l.length ≤ c ∧ c ≤ maxLen ∧
    ∀ (j : Nat) (t : Int × Int × Int), l[j]? = some t → ∃ ia, oi = some ia ∧ InsAt w (ia.add (j * 9)) t.1 t.2.1 t.2.2
/-- The blocks of a function. -/
def FullAt (w : World) (ob : Option Addr) (n : Nat) (bl : Nat → List (Int × Int × Int)) : Prop := ∀ b, b < n → ∃ a, ob = some a ∧ BlkAt w (a.add (b * 2)) (bl b)

def succL (n : Nat) (l : List (Int × Int × Int)) : List Nat := match l[l.length - 1]? with
  | none => []
  | some t => succOf n t.1 t.2.1 t.2.2
def succB (n : Nat) (bl : Nat → List (Int × Int × Int)) (b : Nat) : List Nat := if b < n then succL n (bl b) else []

theorem FullAt.graph {w : World} {ob : Option Addr} {n : Nat} {bl : Nat → List (Int × Int × Int)} (h : FullAt w ob n bl) : GraphAt w ob n (succB n bl) := by
  refine ⟨fun b hb => ?_, fun b hb => by unfold succB; rw [if_neg (by omega)]⟩
  obtain ⟨a, ha, hl, nm, oi, c, h0, h1, h2, h3, h4⟩ := h b hb
  refine ⟨a, ha, hl, nm, oi, (bl b).length, c, h0, h1, by unfold maxLen at h3; omega, ?_⟩
  unfold succB
  rw [if_pos hb]
  unfold succL
  rcases Nat.eq_zero_or_pos (bl b).length with h5 | h5
  · left
    refine ⟨h5, ?_⟩
    rw [List.getElem?_eq_none (by omega)]
  · right
    obtain ⟨t, ht⟩ : ∃ t, (bl b)[(bl b).length - 1]? = some t := ⟨_, List.getElem?_eq_getElem (by omega)⟩
    rw [ht]
    obtain ⟨ia, hia, hI⟩ := h4 _ t ht
    exact ⟨ia, t.1, t.2.1, t.2.2, hia, h5, hI, rfl⟩

theorem InsAt.lt {w : World} {a : Addr} {op l1 l2 : Int} (h : InsAt w a op l1 l2) : a.block < w.heap.size := h.1

theorem cells81 : Try.prog.cellsOf 81 = 2 := by kernel_rfl
theorem cells83 : Try.prog.cellsOf 83 = 9 := by kernel_rfl
theorem ins_fields : ∃ fs : Array Field, Try.prog.underlying 83 = some (.struct fs) ∧ fs.size = 9 ∧ oneCellFields Try.prog fs = true ∧ fs.map (·.type) = #[5, 3, 3, 3, 22, 3, 65, 3, 3] :=
  ⟨_, Try.underlying83, by simp, by kernel_rfl, by simp⟩
theorem block_fields : ∃ fs : Array Field, Try.prog.underlying 81 = some (.struct fs) ∧ fs.size = 2 ∧ oneCellFields Try.prog fs = true ∧ fs.map (·.type) = #[9, 79] :=
  ⟨_, Try.underlying81, by simp, by kernel_rfl, by simp⟩
theorem func_fields : ∃ fs : Array Field, Try.prog.underlying 63 = some (.struct fs) ∧ fs.size = 4 ∧ oneCellFields Try.prog fs = true ∧ fs.map (·.type) = #[9, 3, 3, 61] :=
  ⟨_, Try.underlying63, by simp, by kernel_rfl, by simp⟩
theorem cells63 : Try.prog.cellsOf 63 = 4 := by kernel_rfl

theorem lt_of_cell' {w : World} {x : Addr} {v : Value} (h : w.cell? x = some v) : x.block < w.heap.size := by
  rcases Nat.lt_or_ge x.block w.heap.size with hlt | hge
  · exact hlt
  · simp [World.cell?, Array.getElem?_eq_none hge] at h
theorem add_succ' (a : Addr) (t : Nat) (ht : 0 < t) : a.add t = ⟨a.block, a.off + t, none⟩ := by
  unfold Addr.add
  rw [if_neg (by omega)]

section
variable {H : Type} {enc : TypeId × Value → H} {w : World} {base : Nat} {spare : Nat → Bool} {held : Bool}
set_option maxRecDepth 100000 in
theorem open_ins {fuel : Nat} {cs' : List Value} {x : DataW H × List MemPlace} {a : Addr} (h1 : w.cells? base a 9 = some cs') (h2 : DataW.trod enc Try.prog w base spare held fuel 83 cs' = some x) :
    ∃ t : Int × Int × Int, InsAt w a t.1 t.2.1 t.2.2 := by
  obtain ⟨_, hlen, hcell⟩ := World.cells?_some h1
  obtain ⟨fs, hfs, hsz, hone, hall⟩ := ins_fields
  obtain ⟨hl', n', hfl⟩ := struct_cells hfs hone (by rw [cells83, hsz]) h2
  match cs', hlen with
  | [u0, u1, u2, u3, u4, u5, u6, u7, u8], _ =>
    have e0 := hcell 0 (by omega)
    have e1 := hcell 1 (by omega)
    have e2 := hcell 2 (by omega)
    have e3 := hcell 3 (by omega)
    have e4 := hcell 4 (by omega)
    have e5 := hcell 5 (by omega)
    have e6 := hcell 6 (by omega)
    have e7 := hcell 7 (by omega)
    have e8 := hcell 8 (by omega)
    obtain ⟨f0, k0, t0⟩ := field_type hall 0 _ rfl
    obtain ⟨v0, y0, g0, h0⟩ := hfl 0 _ k0
    rw [t0] at h0
    obtain ⟨f1, k1, t1⟩ := field_type hall 1 _ rfl
    obtain ⟨v1, y1, g1, h1⟩ := hfl 1 _ k1
    rw [t1] at h1
    obtain ⟨f2, k2, t2⟩ := field_type hall 2 _ rfl
    obtain ⟨v2, y2, g2, h2⟩ := hfl 2 _ k2
    rw [t2] at h2
    obtain ⟨f3, k3, t3⟩ := field_type hall 3 _ rfl
    obtain ⟨v3, y3, g3, h3⟩ := hfl 3 _ k3
    rw [t3] at h3
    obtain ⟨f4, k4, t4⟩ := field_type hall 4 _ rfl
    obtain ⟨v4, y4, g4, h4⟩ := hfl 4 _ k4
    rw [t4] at h4
    obtain ⟨f5, k5, t5⟩ := field_type hall 5 _ rfl
    obtain ⟨v5, y5, g5, h5⟩ := hfl 5 _ k5
    rw [t5] at h5
    obtain ⟨f6, k6, t6⟩ := field_type hall 6 _ rfl
    obtain ⟨v6, y6, g6, h6⟩ := hfl 6 _ k6
    rw [t6] at h6
    obtain ⟨f7, k7, t7⟩ := field_type hall 7 _ rfl
    obtain ⟨v7, y7, g7, h7⟩ := hfl 7 _ k7
    rw [t7] at h7
    obtain ⟨f8, k8, t8⟩ := field_type hall 8 _ rfl
    obtain ⟨v8, y8, g8, h8⟩ := hfl 8 _ k8
    rw [t8] at h8
    simp only [List.getElem?_cons_zero, List.getElem?_cons_succ, Option.some.injEq] at g0 g1 g2 g3 g4 g5 g6 g7 g8 e0 e1 e2 e3 e4 e5 e6 e7 e8
    subst g0 g1 g2 g3 g4 g5 g6 g7 g8
    obtain ⟨x0, z0, _⟩ := DataW.trod_int Try.underlying5 h0
    obtain ⟨x1, z1, _⟩ := DataW.trod_int Try.underlying3 h1
    obtain ⟨x2, z2, _⟩ := DataW.trod_int Try.underlying3 h2
    obtain ⟨x3, z3, _⟩ := DataW.trod_int Try.underlying3 h3
    obtain ⟨x4, z4, _⟩ := DataW.trod_int Try.underlying22 h4
    obtain ⟨x5, z5, _⟩ := DataW.trod_int Try.underlying3 h5
    obtain ⟨x7, z7, _⟩ := DataW.trod_int Try.underlying3 h7
    obtain ⟨x8, z8, _⟩ := DataW.trod_int Try.underlying3 h8
    have z6 : ∃ oa k c, u6 = .slice oa k c := by
      rcases open_slice Try.underlying65 h6 with ⟨h0, _⟩ | ⟨a, len, cap', m', n, D, Pl, hc, _⟩
      · simp only [List.cons.injEq, and_true] at h0; exact ⟨_, _, _, h0⟩
      · simp only [List.cons.injEq, and_true] at hc; exact ⟨_, _, _, hc⟩
    obtain ⟨oa, k, c, rfl⟩ := z6
    simp only [List.cons.injEq, and_true] at z0 z1 z2 z3 z4 z5 z7 z8
    subst z0 z1 z2 z3 z4 z5 z7 z8
    rw [show a.add 0 = a from rfl] at e0
    rw [add_succ' _ _ (by omega)] at e1 e2 e3 e4 e5 e6 e7 e8
    exact ⟨(x0, x7, x8), lt_of_cell' e0, x1, x2, x3, x4, x5, oa, k, c, e0, e1, e2, e3, e4, e5, e6, e7, e8⟩

theorem list_of {α : Type} [Inhabited α] (m : Nat) (p : Nat → α → Prop) (h : ∀ i, i < m → ∃ t, p i t) : ∃ l : List α, l.length = m ∧ ∀ (j : Nat) (t : α), l[j]? = some t → p j t := by
  obtain ⟨V, hV⟩ := choose_lt (α := α) (p := p) h
  refine ⟨(List.range m).map V, by simp, fun j t ht => ?_⟩
  rw [List.getElem?_map] at ht
  obtain ⟨i, hi, rfl⟩ := Option.map_eq_some_iff.1 ht
  obtain ⟨hj, hij⟩ := List.getElem?_eq_some_iff.1 hi
  rw [List.getElem_range] at hij
  subst hij
  exact hV j (by simpa using hj)

theorem open_inss {fuel : Nat} {u : Value} {x : DataW H × List MemPlace} (h : DataW.trod enc Try.prog w base spare held fuel 79 [u] = some x) :
    ∃ oi c, ∃ l : List (Int × Int × Int), u = .slice oi l.length c ∧ l.length ≤ c ∧ c ≤ maxLen ∧ ∀ (j : Nat) (t : Int × Int × Int), l[j]? = some t → ∃ ia, oi = some ia ∧ InsAt w (ia.add (j * 9)) t.1 t.2.1 t.2.2 := by
  rcases open_slice Try.underlying79 h with ⟨h0, _⟩ | ⟨a, len, cap', m', n, D, Pl, hc, hb, hl, hm, hmm, _, hx⟩
  · simp only [List.cons.injEq, and_true] at h0
    exact ⟨none, 0, [], h0, by simp, by simp, fun j t ht => by simp at ht⟩
  · simp only [List.cons.injEq, and_true] at hc
    obtain ⟨l, hlen, hl2⟩ := list_of len (fun j (t : Int × Int × Int) => InsAt w (a.add (j * 9)) t.1 t.2.1 t.2.2) (fun j hj => by
      obtain ⟨cs', h1, h2⟩ := hx j (by rw [hmm]; split <;> omega)
      rw [cells83] at h1
      exact open_ins h1 h2)
    exact ⟨some a, cap', l, by rw [hlen]; exact hc, by omega, hm, fun j t ht => ⟨a, rfl, hl2 j t ht⟩⟩

set_option maxRecDepth 100000 in
theorem open_block {fuel : Nat} {cs' : List Value} {x : DataW H × List MemPlace} {a : Addr} (h1 : w.cells? base a 2 = some cs') (h2 : DataW.trod enc Try.prog w base spare held fuel 81 cs' = some x) :
    ∃ l : List (Int × Int × Int), BlkAt w a l := by
  obtain ⟨_, hlen, hcell⟩ := World.cells?_some h1
  obtain ⟨fs, hfs, hsz, hone, hall⟩ := block_fields
  obtain ⟨hl', n', hfl⟩ := struct_cells hfs hone (by rw [cells81, hsz]) h2
  match cs', hlen with
  | [u0, u1], _ =>
    have e0 := hcell 0 (by omega)
    have e1 := hcell 1 (by omega)
    obtain ⟨f0, k0, t0⟩ := field_type hall 0 _ rfl
    obtain ⟨v0, y0, g0, h0⟩ := hfl 0 _ k0
    rw [t0] at h0
    obtain ⟨f1, k1, t1⟩ := field_type hall 1 _ rfl
    obtain ⟨v1, y1, g1, h1⟩ := hfl 1 _ k1
    rw [t1] at h1
    simp only [List.getElem?_cons_zero, List.getElem?_cons_succ, Option.some.injEq] at g0 g1 e0 e1
    subst g0 g1
    obtain ⟨nm, z0, _⟩ := DataW.trod_string Try.underlying9 h0
    obtain ⟨oi, c, l, rfl, hlc, hc, hl⟩ := open_inss h1
    simp only [List.cons.injEq, and_true] at z0
    subst z0
    rw [show a.add 0 = a from rfl] at e0
    rw [add_succ' _ _ (by omega)] at e1
    exact ⟨l, lt_of_cell' e0, nm, oi, c, e0, e1, hlc, hc, hl⟩

set_option maxRecDepth 100000 in
/-- A function by value. -/
theorem open_func {r : Reach} {b0 : Nat} {v : Value} {d : DataW H} {p : List MemPlace}
    (hv : Value.okWide Try.prog w r b0 63 v) (h : DataW.Trod enc Try.prog w base spare held 63 v d p) :
    ∃ (nm : ByteArray) (x y : Int) (ob : Option Addr) (N cap : Nat) (bl : Nat → List (Int × Int × Int)), v = fnV nm x y ob N cap ∧ N ≤ cap ∧ cap ≤ maxLen ∧ FullAt w ob N bl := by
  obtain ⟨fs, hfs, hsz, hone, hall⟩ := func_fields
  obtain ⟨cs, rfl, hl, n, hf⟩ := value_cells hfs hone (by rw [cells63, hsz]) hv h
  rw [hsz] at hl
  match cs, hl with
  | [c0, c1, c2, c3], _ =>
    obtain ⟨f0, k0, t0⟩ := field_type hall 0 _ rfl
    obtain ⟨u0, y0, e0, h0⟩ := hf 0 _ k0
    rw [t0] at h0
    obtain ⟨f1, k1, t1⟩ := field_type hall 1 _ rfl
    obtain ⟨u1, y1, e1, h1⟩ := hf 1 _ k1
    rw [t1] at h1
    obtain ⟨f2, k2, t2⟩ := field_type hall 2 _ rfl
    obtain ⟨u2, y2, e2, h2⟩ := hf 2 _ k2
    rw [t2] at h2
    obtain ⟨f3, k3, t3⟩ := field_type hall 3 _ rfl
    obtain ⟨u3, y3, e3, h3⟩ := hf 3 _ k3
    rw [t3] at h3
    simp only [List.getElem?_cons_zero, List.getElem?_cons_succ, Option.some.injEq] at e0 e1 e2 e3
    subst e0 e1 e2 e3
    obtain ⟨nm, z0, _⟩ := DataW.trod_string Try.underlying9 h0
    obtain ⟨x, z1, _⟩ := DataW.trod_int Try.underlying3 h1
    obtain ⟨y, z2, _⟩ := DataW.trod_int Try.underlying3 h2
    simp only [List.cons.injEq, and_true] at z0 z1 z2
    subst z0 z1 z2
    rcases open_slice Try.underlying61 h3 with ⟨h0, _⟩ | ⟨a, len, cap', m', n, D, Pl, hc, hb, hl, hm, hmm, _, hx⟩
    · simp only [List.cons.injEq, and_true] at h0
      subst h0
      exact ⟨nm, x, y, none, 0, 0, fun _ => [], rfl, by omega, by simp, fun b hb => by omega⟩
    · simp only [List.cons.injEq, and_true] at hc
      subst hc
      obtain ⟨B, hB⟩ := choose_lt (α := List (Int × Int × Int)) (p := fun b l => BlkAt w (a.add (b * 2)) l) (n := len) (fun b hb => by
        obtain ⟨cs', h1, h2⟩ := hx b (by rw [hmm]; split <;> omega)
        rw [cells81] at h1
        exact open_block h1 h2)
      exact ⟨nm, x, y, some a, len, cap', B, rfl, hl, hm, fun b hb => ⟨a, rfl, hB b hb⟩⟩
end
end Go.Proofs.Ytjaapempahigaaa
