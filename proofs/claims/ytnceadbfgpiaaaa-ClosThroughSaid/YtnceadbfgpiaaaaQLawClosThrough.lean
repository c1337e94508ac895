/- The law ClosThrough: whatever the input, it returns true, and its arguments read as they did. -/
import Derived.Test.YtnceadbfgpiaaaaRows
import Derived.Test.YtnceadbfgpiaaaaQP10
import Derived.Test.YtnceadbfgpiaaaaQJh
import Derived.WalkKit
import Derived.ProofKit
import Derived.OpenShut
import Derived.ShutString
import Derived.ChangeOld
import Derived.Below
import Derived.SizedLaws
namespace Go.Proofs.Ytnceadbfgpiaaaa.closThrough
open Go.ChangeShapes Go.WideShapes Go.ChangeAt Go.RowKit Go.Proofs.Ytnceadbfgpiaaaa.G Go.Proofs.Ytnceadbfgpiaaaa.U Go.Proofs.Ytnceadbfgpiaaaa.K Go.Proofs.Ytnceadbfgpiaaaa.J
set_option linter.unusedVariables false
theorem own : ownKnob Try.prog.godebug = none := by kernel_rfl
set_option maxRecDepth 100000 in
theorem lifted (os : Os) (started : os.Started) (H : Type) (enc : TypeId × Value → H) :
    ReturnsInHanded {} Try.checked os 6 .any (Rows.closThroughSpec.pre6 enc Try.prog Try.f6 Rows.closThroughRow.domain false) (Rows.closThroughSpec.post enc Try.prog Try.f6 false true false false) := by
  refine returnsInHanded_of_change_sized (C := Try.checked) own started (by kernel_rfl) Try.func6
    (ChangeSpec.witness6 (enc := enc) (C := Try.checked) false ⟨#[], #[.agg #[.slice none 0 0, .slice none 0 0, .slice none 0 0, .slice none 0 0, .int .i64 0], .slice none 0 0], []⟩ 8 (by kernel_rfl) (by kernel_rfl) (by kernel_rfl) (by kernel_rfl)) ?_
  intro W base args ds gs before hval0 hW hcnd hsz0 _
  have hval : ∀ (j : Nat) t v, Try.f6.params[j]? = some t → args[j]? = some v → Value.okWide Try.prog W .any base t v := hval0
  have hW' := hW
  obtain ⟨p, q, hA0, hV, rfl, hfz, hnd⟩ := hW
  have hA : DataW.TrodAll enc Try.prog W 0 (fun _ => true) true Try.f6.params.toList args.toList ds p := hA0
  rw [Try.params6] at hA hval
  obtain ⟨v0, vs0, d0, ds0, p0, q0, hargs, rfl, rfl, h0, r0⟩ := trodAll_cons hA
  obtain ⟨v1, vs1, d1, ds1, p1, q1, rfl, rfl, rfl, h1, r1⟩ := trodAll_cons r0
  obtain ⟨rfl, rfl, rfl⟩ := trodAll_nil r1
  obtain rfl : args = #[v0, v1] := by cases args; simp_all
  obtain ⟨rfl, rfl⟩ := trodVars_none hV
  obtain ⟨xs0, x0, s0, a0, e0⟩ := arg_told (n := 6) (by kernel_rfl) (hval 0 39 v0 rfl rfl) h0
  obtain ⟨y0, rfl⟩ := told39 s0 a0
  obtain ⟨xs1, x1, s1, a1, e1⟩ := arg_told (n := 3) (by kernel_rfl) (hval 1 42 v1 rfl rfl) h1
  obtain ⟨y1, rfl⟩ := told42 s1 a1
  refine law_fin (xs := [gramV y0, .ro (y1.map symC)]) (fn := Try.f6) (s := Rows.closThroughSpec) (by kernel_rfl) (by kernel_rfl) (by kernel_rfl) rfl (by kernel_rfl) Try.underlying4 ?_ rfl hW' rfl ?_ ?_
  · rw [Try.params6]
    intro t ht
    revert t
    decide +kernel
  · intro i x hx
    match i, hx with
    | 0, hx => obtain rfl := Option.some.inj hx; exact e0
    | 1, hx => obtain rfl := Option.some.inj hx; exact e1
    | i + 2, hx => simp at hx
  · exact C.closThrough_calls _ _
theorem over : Rows.closThroughRow.holds Try.pinned (OpenSpec.ofChange Rows.closThroughSpec) :=
  OpenClaim.holds_of_wide 6 Try.f6 rfl rfl rfl rfl rfl rfl rfl ⟨rfl, rfl, rfl, rfl, rfl⟩ rfl rfl rfl rfl rfl (by kernel_rfl) Try.func6 (by kernel_rfl)
    (of_decide_eq_true (by kernel_rfl)) (by unfold Func.isWrapper; first | (rw [if_pos (by decide +kernel)]; kernel_rfl) | (rw [if_neg (by decide +kernel)]; exact ⟨rfl, rfl⟩))
    (fun os started H enc _ => lifted os started H enc)
theorem proved : Rows.ClosThroughSaid := over
#print axioms proved
end Go.Proofs.Ytnceadbfgpiaaaa.closThrough
namespace Go.Proofs.Ytnceadbfgpiaaaa
/-- The row, under a short name, for the claim. -/
theorem closThrough_holds : Rows.ClosThroughSaid := closThrough.proved
end Go.Proofs.Ytnceadbfgpiaaaa
