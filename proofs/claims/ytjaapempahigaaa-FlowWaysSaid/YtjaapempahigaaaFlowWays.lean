/- Proved here, for every input, with no condition: on any way from the first block each block is reached, one goes where Next says, Before says where one came from, and all blocks that are above the last one were passed (the law FlowWays returns true, and its arguments read as before). -/
import Derived.Test.YtjaapempahigaaaRows
import Derived.Test.YtjaapempahigaaaOpen3
import Derived.Test.YtjaapempahigaaaFlowWay
import Derived.WalkKit
import Derived.ProofKit
import Derived.OpenShut
import Derived.ChangeOld
import Derived.Below
import Derived.Deep.Slices
namespace Go.Proofs.Ytjaapempahigaaa.flowWays
open Go.ChangeShapes Go.WideShapes Go.ChangeAt Go.RowKit
set_option linter.unusedVariables false

theorem own : ownKnob Try.prog.godebug = none := by kernel_rfl
theorem laidOut : laidOutB Try.prog = true := by kernel_rfl

set_option maxRecDepth 100000 in
open Go.Deep in
/-- The cells of a []uint8. -/
theorem open_bytes {H : Type} {enc : TypeId × Value → H} {w : World} {base : Nat} {spare : Nat → Bool} {held : Bool} {r : Reach} {b0 : Nat} {v : Value} {d : DataW H} {p : List MemPlace}
    (hv : Value.okWide Try.prog w r b0 77 v) (h : DataW.Trod enc Try.prog w base spare held 77 v d p) :
    ∃ oa m cap, v = .slice oa m cap ∧ m ≤ cap ∧ cap ≤ maxLen ∧ BytesAt w oa m := by
  obtain ⟨oa, m, cap, rfl⟩ := okWide_slice Try.underlying77 hv
  refine ⟨oa, m, cap, rfl, ?_⟩
  obtain ⟨fuel, hf⟩ := h
  have hf' : DataW.trod enc Try.prog w base spare held fuel 77 [.slice oa m cap] = some (d, p) := hf
  rcases open_slice1 Try.underlying77 (by kernel_rfl) hf' with ⟨h0, _⟩ | ⟨a, len, cap', m', n, V, D, Pl, hc, hb, hl, hm, hmm, _, hx⟩
  · simp only [List.cons.injEq, Value.slice.injEq, and_true] at h0
    obtain ⟨rfl, rfl, rfl⟩ := h0
    exact ⟨by omega, by simp, fun i hi => by omega⟩
  · simp only [List.cons.injEq, Value.slice.injEq, and_true] at hc
    obtain ⟨rfl, rfl, rfl⟩ := hc
    refine ⟨hl, hm, fun i hi => ?_⟩
    obtain ⟨h1, h2⟩ := hx i (by rw [hmm]; split <;> omega)
    obtain ⟨z, hz, _, hwf⟩ := DataW.trod_int Try.underlying5 h2
    simp only [List.cons.injEq, and_true] at hz
    rw [hz] at h1
    have hb := lt_of_cell' h1
    rw [add_block] at hb
    have hzz : 0 ≤ z ∧ z ≤ 255 := bounds_u8 hwf
    refine ⟨a, z.toNat, rfl, hb, by omega, ?_⟩
    rw [h1, Int.toNat_of_nonneg hzz.1]

set_option maxRecDepth 100000 in
theorem lifted (os : Os) (started : os.Started) (H : Type) (enc : TypeId × Value → H) :
    ReturnsInHanded {} Try.checked os 9 .any (Rows.flowWaysSpec.pre6 enc Try.prog Try.f9 Rows.flowWaysRow.domain false) (Rows.flowWaysSpec.post enc Try.prog Try.f9 false true false false) := by
  refine returnsInHanded_of_change (C := Try.checked) own started (by kernel_rfl) Try.func9
    (ChangeSpec.witness6 (enc := enc) (C := Try.checked) false ⟨#[], #[.agg #[.string ⟨#[]⟩, .int .i64 0, .int .i64 0, .slice none 0 0], .slice none 0 0], []⟩ 8 (by kernel_rfl) (by kernel_rfl) (by kernel_rfl) (by kernel_rfl)) ?_
  intro W base args ds gs before hval0 hW hcnd _
  have hval : ∀ (j : Nat) t v, Try.f9.params[j]? = some t → args[j]? = some v → Value.okWide Try.prog W .any base t v := hval0
  have hW' := hW
  obtain ⟨p, q, hA0, hV, rfl, hfz, hnd⟩ := hW
  have hA : DataW.TrodAll enc Try.prog W 0 (fun _ => true) true Try.f9.params.toList args.toList ds p := hA0
  rw [Try.params9] at hA hval
  obtain ⟨v0, vs0, d0, ds0, p0, q0, hargs, rfl, rfl, h0, r0⟩ := trodAll_cons hA
  obtain ⟨v1, vs1, d1, ds1, p1, q1, rfl, rfl, rfl, h1, r1⟩ := trodAll_cons r0
  obtain ⟨rfl, rfl, rfl⟩ := trodAll_nil r1
  obtain rfl : args = #[v0, v1] := by cases args; simp_all
  obtain ⟨rfl, rfl⟩ := trodVars_none hV
  obtain ⟨nm, x, y, ob, N, cap, bl, hv0, hNc, hcm, hfull⟩ := open_func (hval 0 63 v0 rfl rfl) h0
  have lt0 : ∀ z ∈ p0, z.block < W.heap.size := by obtain ⟨m, hm⟩ := h0; exact DataW.trod_lt m _ _ _ hm
  have lt1 : ∀ z ∈ p1, z.block < W.heap.size := by obtain ⟨m, hm⟩ := h1; exact DataW.trod_lt m _ _ _ hm
  obtain ⟨wa, M, wcap, hv1, hMc, hwc, hbytes⟩ := open_bytes (hval 1 77 v1 rfl rfl) h1
  subst hv0 hv1
  clear hA0 hval0
  have hwalk : Calls Try.prog 9 #[fnV nm x y ob N cap, .slice wa M wcap] W fun e w' => e = .returned (.bool true) ∧ Mod NoBlk W w' := by
    unfold maxLen at hcm hwc
    by_cases hN : N ≤ 60
    · by_cases h0 : N = 0
      · subst h0
        exact flowWays_big2 nm x y ob wa cap M wcap W
      · by_cases hM : M ≤ 200
        · exact flowWays_walk nm x y ob wa N cap M wcap _ W hfull.graph hbytes hN (by omega) hM
        · exact flowWays_big3 nm x y ob wa N cap M wcap W hN (by omega) (by omega) (by omega)
    · exact flowWays_big1 nm x y ob wa N cap M wcap W (by omega) (by omega)
  refine hwalk.mono fun e W' ⟨he, hm⟩ => ?_
  subst he
  have bel := hm.toBelow
  exact ⟨_, rfl, _, _, _, [], _, [], hW', trodAll_mk1 (shut_bool Try.underlying4 _), (trodAll_cons_mk (Below.trod laidOut (by kernel_rfl) (of_decide_eq_true (by kernel_rfl)) h0 bel lt0) (trodAll_cons_mk (Below.trod laidOut (by kernel_rfl) (of_decide_eq_true (by kernel_rfl)) h1 bel lt1) trodAll_mk0)), rfl, bel.frame _, fun h => by cases h⟩

theorem over : Rows.flowWaysRow.holds Try.pinned (OpenSpec.ofChange Rows.flowWaysSpec) :=
  OpenClaim.holds_of_wide 9 Try.f9 rfl rfl rfl rfl rfl rfl rfl ⟨rfl, rfl, rfl, rfl, rfl⟩ rfl rfl rfl rfl rfl (by kernel_rfl) Try.func9 (by kernel_rfl)
    (of_decide_eq_true (by kernel_rfl)) (by unfold Func.isWrapper; first | (rw [if_pos (by decide +kernel)]; kernel_rfl) | (rw [if_neg (by decide +kernel)]; exact ⟨rfl, rfl⟩))
    (fun os started H enc _ => lifted os started H enc)

theorem proved : Rows.FlowWaysSaid := over
#print axioms proved
end Go.Proofs.Ytjaapempahigaaa.flowWays
