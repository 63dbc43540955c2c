/- Proved here, for every input, with no condition: when a block goes to one other one alone of the two that it went to, no more blocks are reached, and those that still are have all above them that were, at least (the law FlowLess returns true, and its arguments read as before). -/
import Derived.Test.YtjaapempahigaaaRows
import Derived.Test.YtjaapempahigaaaOpen3
import Derived.Test.YtjaapempahigaaaFlowLes
import Derived.WalkKit
import Derived.ProofKit
import Derived.OpenShut
import Derived.ChangeOld
import Derived.Below
import Derived.SizedLaws
namespace Go.Proofs.Ytjaapempahigaaa.flowLess
open Go.ChangeShapes Go.WideShapes Go.ChangeAt Go.RowKit
set_option linter.unusedVariables false

theorem own : ownKnob Try.prog.godebug = none := by kernel_rfl
theorem laidOut : laidOutB Try.prog = true := by kernel_rfl

set_option maxRecDepth 100000 in
theorem lifted (os : Os) (started : os.Started) (H : Type) (enc : TypeId × Value → H) :
    ReturnsInHanded {} Try.checked os 10 .any (Rows.flowLessSpec.pre6 enc Try.prog Try.f10 Rows.flowLessRow.domain false) (Rows.flowLessSpec.post enc Try.prog Try.f10 false true false false) := by
  refine returnsInHanded_of_change_sized (C := Try.checked) own started (by kernel_rfl) Try.func10
    (ChangeSpec.witness6 (enc := enc) (C := Try.checked) false ⟨#[], #[.agg #[.string ⟨#[]⟩, .int .i64 0, .int .i64 0, .slice none 0 0], .int .u8 0], []⟩ 8 (by kernel_rfl) (by kernel_rfl) (by kernel_rfl) (by kernel_rfl)) ?_
  intro W base args ds gs before hval0 hW hcnd hsz0 _
  have hsz : (DataW.weightsEach Try.prog (Try.f10.params.toList ++ Rows.flowLessSpec.plain.varTypes Try.prog) (ds ++ gs)).all (· ≤ reachBytes) = true := hsz0
  clear hsz0
  have hval : ∀ (j : Nat) t v, Try.f10.params[j]? = some t → args[j]? = some v → Value.okWide Try.prog W .any base t v := hval0
  have hW' := hW
  obtain ⟨p, q, hA0, hV, rfl, hfz, hnd⟩ := hW
  have hA : DataW.TrodAll enc Try.prog W 0 (fun _ => true) true Try.f10.params.toList args.toList ds p := hA0
  rw [Try.params10] at hA hval hsz
  obtain ⟨v0, vs0, d0, ds0, p0, q0, hargs, rfl, rfl, h0, r0⟩ := trodAll_cons hA
  obtain ⟨v1, vs1, d1, ds1, p1, q1, rfl, rfl, rfl, h1, r1⟩ := trodAll_cons r0
  obtain ⟨rfl, rfl, rfl⟩ := trodAll_nil r1
  obtain rfl : args = #[v0, v1] := by cases args; simp_all
  obtain ⟨rfl, rfl⟩ := trodVars_none hV
  have hsd : Sized Try.prog 63 d0 := fun n hn => by
    have := List.all_eq_true.1 hsz n (DataW.weights_mem_each (j := 0) (t := 63) (d := d0) rfl rfl n hn)
    simpa using this
  obtain ⟨nm, x, y, ob, N, cap, bl, hv0, hNc, hcm, hfull, hreach⟩ := open_funz (hval 0 63 v0 rfl rfl) h0 hsd
  have lt0 : ∀ z ∈ p0, z.block < W.heap.size := by obtain ⟨m, hm⟩ := h0; exact DataW.trod_lt m _ _ _ hm
  obtain ⟨z1, rfl, rfl, rfl, w1⟩ := open_int Try.underlying5 (hval 1 5 v1 rfl rfl) h1
  have hz := bounds_u8 w1
  obtain ⟨z, rfl⟩ : ∃ z : Nat, z1 = (z : Int) := ⟨z1.toNat, (Int.toNat_of_nonneg hz.1).symm⟩
  subst hv0
  clear hA0 hval0
  have hwalk : Calls Try.prog 10 #[fnV nm x y ob N cap, .int .u8 (z : Nat)] W fun e w' => e = .returned (.bool true) ∧ Mod NoBlk W w' := by
    unfold maxLen at hcm
    by_cases hN : N ≤ 60
    · by_cases h0 : N = 0
      · subst h0
        exact flowLess_big2 nm x y ob cap z W
      · obtain ⟨ad, hob, _⟩ := hfull 0 (by omega)
        subst hob
        exact flowLess_walk nm x y ad N cap z bl W hfull hreach (by omega) hN (by omega)
    · exact flowLess_big1 nm x y ob N cap z W (by omega) (by omega)
  refine hwalk.mono fun e W' ⟨he, hm⟩ => ?_
  subst he
  have bel := hm.toBelow
  exact ⟨_, rfl, _, _, _, [], _, [], hW', trodAll_mk1 (shut_bool Try.underlying4 _), (trodAll_cons_mk (Below.trod laidOut (by kernel_rfl) (of_decide_eq_true (by kernel_rfl)) h0 bel lt0) (trodAll_cons_mk (shut_int Try.underlying5 w1) trodAll_mk0)), rfl, bel.frame _, fun h => by cases h⟩

theorem over : Rows.flowLessRow.holds Try.pinned (OpenSpec.ofChange Rows.flowLessSpec) :=
  OpenClaim.holds_of_wide 10 Try.f10 rfl rfl rfl rfl rfl rfl rfl ⟨rfl, rfl, rfl, rfl, rfl⟩ rfl rfl rfl rfl rfl (by kernel_rfl) Try.func10 (by kernel_rfl)
    (of_decide_eq_true (by kernel_rfl)) (by unfold Func.isWrapper; first | (rw [if_pos (by decide +kernel)]; kernel_rfl) | (rw [if_neg (by decide +kernel)]; exact ⟨rfl, rfl⟩))
    (fun os started H enc _ => lifted os started H enc)

theorem proved : Rows.FlowLessSaid := over
#print axioms proved
end Go.Proofs.Ytjaapempahigaaa.flowLess
