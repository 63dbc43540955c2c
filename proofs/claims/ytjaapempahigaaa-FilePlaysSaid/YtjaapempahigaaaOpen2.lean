/- What an argument of type []Act looks like in cells. -/
import Derived.Test.YtjaapempahigaaaOpen1
import Derived.Test.YtjaapempahigaaaPlay2
namespace Go.Proofs.Ytjaapempahigaaa
open Go.ChangeShapes Go.WideShapes Go.RowKit Go.Deep

theorem lt_of_cell {w : World} {x : Addr} {v : Value} (h : w.cell? x = some v) : x.block < w.heap.size := by
  rcases Nat.lt_or_ge x.block w.heap.size with hlt | hge
  · exact hlt
  · simp [World.cell?, Array.getElem?_eq_none hge] at h

theorem add_succ (a : Addr) (t : Nat) (ht : 0 < t) : a.add t = ⟨a.block, a.off + t, none⟩ := by
  unfold Addr.add
  rw [if_neg (by omega)]

set_option maxRecDepth 100000 in
/-- The cells of a []Act. -/
theorem open_acts {H : Type} {enc : TypeId × Value → H} {w : World} {base : Nat} {spare : Nat → Bool} {held : Bool} {r : Reach} {b0 : Nat} {v : Value} {d : DataW H} {p : List MemPlace}
    (hv : Value.okWide Try.prog w r b0 42 v) (h : DataW.Trod enc Try.prog w base spare held 42 v d p) :
    ∃ oa m cap, v = .slice oa m cap ∧ ActsAt w oa m := by
  obtain ⟨oa, m, cap, rfl⟩ := okWide_slice Try.underlying42 hv
  refine ⟨oa, m, cap, rfl, ?_⟩
  obtain ⟨fuel, hf⟩ := h
  have hf' : DataW.trod enc Try.prog w base spare held fuel 42 [.slice oa m cap] = some (d, p) := hf
  rcases open_slice Try.underlying42 hf' with ⟨h0, _⟩ | ⟨a, len, cap', m', n, D, Pl, hc, hb, hl, hm, hmm, _, hx⟩
  · simp only [List.cons.injEq, Value.slice.injEq, and_true] at h0
    intro j hj
    omega
  · simp only [List.cons.injEq, Value.slice.injEq, and_true] at hc
    obtain ⟨rfl, rfl, rfl⟩ := hc
    intro j hj
    obtain ⟨cs', h1, h2⟩ := hx j (by rw [hmm]; split <;> omega)
    rw [cells24] at h1
    obtain ⟨_, hlen, hcell⟩ := World.cells?_some h1
    obtain ⟨fs, hfs, hsz, hone, hall⟩ := act_fields
    obtain ⟨hl', n', hfl⟩ := struct_cells hfs hone (by rw [cells24, hsz]) h2
    match cs', hlen with
    | [u0, u1, u2, u3, u4], _ =>
      have e0 := hcell 0 (by omega)
      have e1 := hcell 1 (by omega)
      have e2 := hcell 2 (by omega)
      have e3 := hcell 3 (by omega)
      have e4 := hcell 4 (by omega)
      obtain ⟨f0, k0, t0⟩ := field_type hall 0 _ rfl
      obtain ⟨v0, y0, g0, h0⟩ := hfl 0 _ k0
      rw [t0] at h0
      obtain ⟨f1, k1, t1⟩ := field_type hall 1 _ rfl
      obtain ⟨v1, y1, g1, h1⟩ := hfl 1 _ k1
      rw [t1] at h1
      obtain ⟨f2, k2, t2⟩ := field_type hall 2 _ rfl
      obtain ⟨v2, y2, g2, h2⟩ := hfl 2 _ k2
      rw [t2] at h2
      obtain ⟨f3, k3, t3⟩ := field_type hall 3 _ rfl
      obtain ⟨v3, y3, g3, h3⟩ := hfl 3 _ k3
      rw [t3] at h3
      obtain ⟨f4, k4, t4⟩ := field_type hall 4 _ rfl
      obtain ⟨v4, y4, g4, h4⟩ := hfl 4 _ k4
      rw [t4] at h4
      simp only [List.getElem?_cons_zero, List.getElem?_cons_succ, Option.some.injEq] at g0 g1 g2 g3 g4 e0 e1 e2 e3 e4
      subst g0 g1 g2 g3 g4
      obtain ⟨b, z0, _⟩ := DataW.trod_bool Try.underlying4 h0
      obtain ⟨x1, z1, _⟩ := DataW.trod_int Try.underlying3 h1
      obtain ⟨x2, z2, _⟩ := DataW.trod_int Try.underlying3 h2
      obtain ⟨x3, z3, _⟩ := DataW.trod_int Try.underlying3 h3
      obtain ⟨x4, z4, _⟩ := DataW.trod_int Try.underlying22 h4
      simp only [List.cons.injEq, and_true] at z0 z1 z2 z3 z4
      subst z0 z1 z2 z3 z4
      rw [show (a.add (j * 5)).add 0 = a.add (j * 5) from rfl] at e0
      rw [add_succ _ _ (by omega)] at e1 e2 e3 e4
      exact ⟨a, rfl, lt_of_cell e0, b, x1, x2, x3, x4, e0, e1, e2, e3, e4⟩

end Go.Proofs.Ytjaapempahigaaa
