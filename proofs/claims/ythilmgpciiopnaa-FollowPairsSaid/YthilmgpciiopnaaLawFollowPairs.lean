/- The law FollowPairs: whatever the input, it returns true, and its arguments read as they did. -/
import Derived.Test.YthilmgpciiopnaaRows
import Derived.Test.YthilmgpciiopnaaP3
import Derived.WalkKit
import Derived.ProofKit
import Derived.OpenShut
import Derived.ShutString
import Derived.ChangeOld
import Derived.Below
import Derived.SizedLaws
namespace Go.Proofs.Ythilmgpciiopnaa.followPairs
open Go.ChangeShapes Go.WideShapes Go.ChangeAt Go.RowKit Go.Proofs.Ythilmgpciiopnaa.G Go.Proofs.Ythilmgpciiopnaa.F
set_option linter.unusedVariables false
theorem own : ownKnob Try.prog.godebug = none := by kernel_rfl
set_option maxRecDepth 100000 in
theorem lifted (os : Os) (started : os.Started) (H : Type) (enc : TypeId × Value → H) :
    ReturnsInHanded {} Try.checked os 11 .any (Rows.followPairsSpec.pre6 enc Try.prog Try.f11 Rows.followPairsRow.domain false) (Rows.followPairsSpec.post enc Try.prog Try.f11 false true false false) := by
  refine returnsInHanded_of_change_sized (C := Try.checked) own started (by kernel_rfl) Try.func11
    (ChangeSpec.witness6 (enc := enc) (C := Try.checked) false ⟨#[], #[.agg #[.slice none 0 0, .slice none 0 0, .slice none 0 0, .slice none 0 0, .int .i64 0]], []⟩ 8 (by kernel_rfl) (by kernel_rfl) (by kernel_rfl) (by kernel_rfl)) ?_
  intro W base args ds gs before hval0 hW hcnd hsz0 _
  have hval : ∀ (j : Nat) t v, Try.f11.params[j]? = some t → args[j]? = some v → Value.okWide Try.prog W .any base t v := hval0
  have hW' := hW
  obtain ⟨p, q, hA0, hV, rfl, hfz, hnd⟩ := hW
  have hA : DataW.TrodAll enc Try.prog W 0 (fun _ => true) true Try.f11.params.toList args.toList ds p := hA0
  rw [Try.params11] at hA hval
  obtain ⟨v0, vs0, d0, ds0, p0, q0, hargs, rfl, rfl, h0, r0⟩ := trodAll_cons hA
  obtain ⟨rfl, rfl, rfl⟩ := trodAll_nil r0
  obtain rfl : args = #[v0] := by cases args; simp_all
  obtain ⟨rfl, rfl⟩ := trodVars_none hV
  obtain ⟨xs0, x0, s0, a0, e0⟩ := arg_told (n := 6) (by kernel_rfl) (hval 0 48 v0 rfl rfl) h0
  obtain ⟨y0, rfl⟩ := told48 s0 a0
  refine law_fin (xs := [gramV y0]) (fn := Try.f11) (s := Rows.followPairsSpec) (by kernel_rfl) (by kernel_rfl) (by kernel_rfl) rfl (by kernel_rfl) Try.underlying4 ?_ rfl hW' rfl ?_ ?_
  · rw [Try.params11]
    intro t ht
    revert t
    decide +kernel
  · intro i x hx
    match i, hx with
    | 0, hx => obtain rfl := Option.some.inj hx; exact e0
    | i + 1, hx => simp at hx
  · exact followPairs_calls _
theorem over : Rows.followPairsRow.holds Try.pinned (OpenSpec.ofChange Rows.followPairsSpec) :=
  OpenClaim.holds_of_wide 11 Try.f11 rfl rfl rfl rfl rfl rfl rfl ⟨rfl, rfl, rfl, rfl, rfl⟩ rfl rfl rfl rfl rfl (by kernel_rfl) Try.func11 (by kernel_rfl)
    (of_decide_eq_true (by kernel_rfl)) (by unfold Func.isWrapper; first | (rw [if_pos (by decide +kernel)]; kernel_rfl) | (rw [if_neg (by decide +kernel)]; exact ⟨rfl, rfl⟩))
    (fun os started H enc _ => lifted os started H enc)
theorem proved : Rows.FollowPairsSaid := over
#print axioms proved
end Go.Proofs.Ythilmgpciiopnaa.followPairs
namespace Go.Proofs.Ythilmgpciiopnaa
/-- The row, under a short name, for the claim. -/
theorem followPairs_holds : Rows.FollowPairsSaid := followPairs.proved
end Go.Proofs.Ythilmgpciiopnaa
