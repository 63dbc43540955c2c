/- Proved here, for every input, with no condition: a block is above another one just if that is reached no more when the first one goes nowhere, and all blocks that it is not above are reached as they were (the law FlowCuts returns true, and its arguments read as before). -/
import Derived.Test.YtjaapempahigaaaRows
import Derived.Test.YtjaapempahigaaaOpen3
import Derived.Test.YtjaapempahigaaaFlowCut
import Derived.WalkKit
import Derived.ProofKit
import Derived.OpenShut
import Derived.ChangeOld
import Derived.Below
namespace Go.Proofs.Ytjaapempahigaaa.flowCuts
open Go.ChangeShapes Go.WideShapes Go.ChangeAt Go.RowKit
set_option linter.unusedVariables false

theorem own : ownKnob Try.prog.godebug = none := by kernel_rfl
theorem laidOut : laidOutB Try.prog = true := by kernel_rfl

set_option maxRecDepth 100000 in
theorem lifted (os : Os) (started : os.Started) (H : Type) (enc : TypeId × Value → H) :
    ReturnsInHanded {} Try.checked os 11 .any (Rows.flowCutsSpec.pre6 enc Try.prog Try.f11 Rows.flowCutsRow.domain false) (Rows.flowCutsSpec.post enc Try.prog Try.f11 false true false false) := by
  refine returnsInHanded_of_change (C := Try.checked) own started (by kernel_rfl) Try.func11
    (ChangeSpec.witness6 (enc := enc) (C := Try.checked) false ⟨#[], #[.agg #[.string ⟨#[]⟩, .int .i64 0, .int .i64 0, .slice none 0 0], .int .u8 0], []⟩ 8 (by kernel_rfl) (by kernel_rfl) (by kernel_rfl) (by kernel_rfl)) ?_
  intro W base args ds gs before hval0 hW hcnd _
  have hval : ∀ (j : Nat) t v, Try.f11.params[j]? = some t → args[j]? = some v → Value.okWide Try.prog W .any base t v := hval0
  have hW' := hW
  obtain ⟨p, q, hA0, hV, rfl, hfz, hnd⟩ := hW
  have hA : DataW.TrodAll enc Try.prog W 0 (fun _ => true) true Try.f11.params.toList args.toList ds p := hA0
  rw [Try.params11] at hA hval
  obtain ⟨v0, vs0, d0, ds0, p0, q0, hargs, rfl, rfl, h0, r0⟩ := trodAll_cons hA
  obtain ⟨v1, vs1, d1, ds1, p1, q1, rfl, rfl, rfl, h1, r1⟩ := trodAll_cons r0
  obtain ⟨rfl, rfl, rfl⟩ := trodAll_nil r1
  obtain rfl : args = #[v0, v1] := by cases args; simp_all
  obtain ⟨rfl, rfl⟩ := trodVars_none hV
  obtain ⟨nm, x, y, ob, N, cap, bl, hv0, hNc, hcm, hfull⟩ := open_func (hval 0 63 v0 rfl rfl) h0
  have lt0 : ∀ z ∈ p0, z.block < W.heap.size := by obtain ⟨m, hm⟩ := h0; exact DataW.trod_lt m _ _ _ hm
  obtain ⟨z1, rfl, rfl, rfl, w1⟩ := open_int Try.underlying5 (hval 1 5 v1 rfl rfl) h1
  have hz := bounds_u8 w1
  obtain ⟨z, rfl⟩ : ∃ z : Nat, z1 = (z : Int) := ⟨z1.toNat, (Int.toNat_of_nonneg hz.1).symm⟩
  subst hv0
  clear hA0 hval0
  have hwalk : Calls Try.prog 11 #[fnV nm x y ob N cap, .int .u8 (z : Nat)] W fun e w' => e = .returned (.bool true) ∧ Mod NoBlk W w' := by
    unfold maxLen at hcm
    by_cases hN : N ≤ 60
    · by_cases h0 : N = 0
      · subst h0
        exact flowCuts_big2 nm x y ob cap z W
      · obtain ⟨ad, hob, _⟩ := hfull 0 (by omega)
        subst hob
        exact flowCuts_walk nm x y ad N cap z _ W hfull.graph (by omega) hN (by omega)
    · exact flowCuts_big1 nm x y ob N cap z W (by omega) (by omega)
  refine hwalk.mono fun e W' ⟨he, hm⟩ => ?_
  subst he
  have bel := hm.toBelow
  exact ⟨_, rfl, _, _, _, [], _, [], hW', trodAll_mk1 (shut_bool Try.underlying4 _), (trodAll_cons_mk (Below.trod laidOut (by kernel_rfl) (of_decide_eq_true (by kernel_rfl)) h0 bel lt0) (trodAll_cons_mk (shut_int Try.underlying5 w1) trodAll_mk0)), rfl, bel.frame _, fun h => by cases h⟩

theorem over : Rows.flowCutsRow.holds Try.pinned (OpenSpec.ofChange Rows.flowCutsSpec) :=
  OpenClaim.holds_of_wide 11 Try.f11 rfl rfl rfl rfl rfl rfl rfl ⟨rfl, rfl, rfl, rfl, rfl⟩ rfl rfl rfl rfl rfl (by kernel_rfl) Try.func11 (by kernel_rfl)
    (of_decide_eq_true (by kernel_rfl)) (by unfold Func.isWrapper; first | (rw [if_pos (by decide +kernel)]; kernel_rfl) | (rw [if_neg (by decide +kernel)]; exact ⟨rfl, rfl⟩))
    (fun os started H enc _ => lifted os started H enc)

theorem proved : Rows.FlowCutsSaid := over
#print axioms proved
end Go.Proofs.Ytjaapempahigaaa.flowCuts
