/- What an argument that is a struct of one-cell fields, or a slice of such structs, looks like in cells. -/
import Derived.Test.YtjaapempahigaaaRows
import Derived.ProofKit
import Derived.Deep.Slices
import Derived.Deep.Fields
namespace Go.Proofs.Ytjaapempahigaaa
open Go.ChangeShapes Go.WideShapes Go.RowKit Go.Deep

section
variable {H : Type} {enc : TypeId × Value → H} {P : Program} {w : World} {base : Nat} {spare : Nat → Bool} {held : Bool}

/-- Each one-cell field of a struct, read by itself. -/
theorem struct_cells {t : TypeId} {fs : Array Field} {fuel : Nat} {cs : List Value} {x : DataW H × List MemPlace} (ht : P.underlying t = some (.struct fs)) (hone : oneCellFields P fs = true) (hC : P.cellsOf t = fs.size)
    (h : DataW.trod enc P w base spare held fuel t cs = some x) :
    cs.length = fs.size ∧ ∃ n, ∀ (j : Nat) (f : Field), fs[j]? = some f → ∃ u y, cs[j]? = some u ∧ DataW.trod enc P w base spare held n f.type [u] = some y := by
  obtain ⟨xs, n, _, _, hl, hxl, hf⟩ := DataW.trod_struct ht h
  rw [hC] at hl
  refine ⟨hl, n, fun j f hj => ?_⟩
  obtain ⟨ho, hk⟩ := hone_of hone j f hj
  have hjl : j < fs.size := (Array.getElem?_eq_some_iff.1 hj).1
  have h1 := hf j f hj
  rw [ho, hk] at h1
  have e : (cs.drop j).take 1 = [cs[j]'(by omega)] := by
    rw [List.drop_eq_getElem_cons (by omega)]
    rfl
  rw [e] at h1
  exact ⟨_, _, List.getElem?_eq_getElem (by omega), h1.trans (List.getElem?_eq_getElem (by omega))⟩

/-- A struct by value. -/
theorem value_cells {r : Reach} {b0 : Nat} {t : TypeId} {fs : Array Field} {v : Value} {d : DataW H} {p : List MemPlace} (ht : P.underlying t = some (.struct fs)) (hone : oneCellFields P fs = true) (hC : P.cellsOf t = fs.size)
    (hv : Value.okWide P w r b0 t v) (h : DataW.Trod enc P w base spare held t v d p) :
    ∃ cs : List Value, v = .agg cs.toArray ∧ cs.length = fs.size ∧ ∃ n, ∀ (j : Nat) (f : Field), fs[j]? = some f → ∃ u y, cs[j]? = some u ∧ DataW.trod enc P w base spare held n f.type [u] = some y := by
  obtain ⟨cs, rfl, hsz⟩ := okWide_struct ht hv
  obtain ⟨fuel, hf⟩ := h
  have hf' : DataW.trod enc P w base spare held fuel t cs.toList = some (d, p) := by simpa [Value.cells] using hf
  obtain ⟨hl, hn⟩ := struct_cells ht hone hC hf'
  exact ⟨cs.toList, by simp, hl, hn⟩
end

theorem cells24 : Try.prog.cellsOf 24 = 5 := by kernel_rfl

theorem act_fields : ∃ fs : Array Field, Try.prog.underlying 24 = some (.struct fs) ∧ fs.size = 5 ∧ oneCellFields Try.prog fs = true ∧ fs.map (·.type) = #[4, 3, 3, 3, 22] :=
  ⟨_, Try.underlying24, by simp, by kernel_rfl, by simp⟩

theorem field_type {fs : Array Field} {ts : Array TypeId} (h : fs.map (·.type) = ts) (j : Nat) (t : TypeId) (ht : ts[j]? = some t) : ∃ f, fs[j]? = some f ∧ f.type = t := by
  rw [← h, Array.getElem?_map] at ht
  exact Option.map_eq_some_iff.1 ht

set_option maxRecDepth 100000 in
/-- An Act by value. -/
theorem open_act {H : Type} {enc : TypeId × Value → H} {w : World} {base : Nat} {spare : Nat → Bool} {held : Bool} {r : Reach} {b0 : Nat} {v : Value} {d : DataW H} {p : List MemPlace}
    (hv : Value.okWide Try.prog w r b0 24 v) (h : DataW.Trod enc Try.prog w base spare held 24 v d p) :
    ∃ (b : Bool) (x1 x2 x3 x4 : Int), v = .agg #[.bool b, .int .i64 x1, .int .i64 x2, .int .i64 x3, .int .u32 x4] := by
  obtain ⟨fs, hfs, hsz, hone, hall⟩ := act_fields
  obtain ⟨cs, rfl, hl, n, hf⟩ := value_cells hfs hone (by rw [cells24, hsz]) hv h
  rw [hsz] at hl
  match cs, hl with
  | [c0, c1, c2, c3, c4], _ =>
    obtain ⟨f0, k0, t0⟩ := field_type hall 0 _ rfl
    obtain ⟨u0, y0, e0, h0⟩ := hf 0 _ k0
    rw [t0] at h0
    obtain ⟨f1, k1, t1⟩ := field_type hall 1 _ rfl
    obtain ⟨u1, y1, e1, h1⟩ := hf 1 _ k1
    rw [t1] at h1
    obtain ⟨f2, k2, t2⟩ := field_type hall 2 _ rfl
    obtain ⟨u2, y2, e2, h2⟩ := hf 2 _ k2
    rw [t2] at h2
    obtain ⟨f3, k3, t3⟩ := field_type hall 3 _ rfl
    obtain ⟨u3, y3, e3, h3⟩ := hf 3 _ k3
    rw [t3] at h3
    obtain ⟨f4, k4, t4⟩ := field_type hall 4 _ rfl
    obtain ⟨u4, y4, e4, h4⟩ := hf 4 _ k4
    rw [t4] at h4
    simp only [List.getElem?_cons_zero, List.getElem?_cons_succ, Option.some.injEq] at e0 e1 e2 e3 e4
    subst e0 e1 e2 e3 e4
    obtain ⟨b, g0, _⟩ := DataW.trod_bool Try.underlying4 h0
    obtain ⟨x1, g1, _⟩ := DataW.trod_int Try.underlying3 h1
    obtain ⟨x2, g2, _⟩ := DataW.trod_int Try.underlying3 h2
    obtain ⟨x3, g3, _⟩ := DataW.trod_int Try.underlying3 h3
    obtain ⟨x4, g4, _⟩ := DataW.trod_int Try.underlying22 h4
    simp only [List.cons.injEq, and_true] at g0 g1 g2 g3 g4
    subst g0 g1 g2 g3 g4
    exact ⟨b, x1, x2, x3, x4, rfl⟩

end Go.Proofs.Ytjaapempahigaaa
