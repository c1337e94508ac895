/- The law ClosAgain: whatever the input, it returns true, and its arguments read as they did. -/
import Derived.Test.YtnceadbfgpiaaaaRows
import Derived.Test.YtnceadbfgpiaaaaQP6
import Derived.Test.YtnceadbfgpiaaaaQ18
import Derived.WalkKit
import Derived.ProofKit
import Derived.OpenShut
import Derived.ShutString
import Derived.ChangeOld
import Derived.Below
import Derived.SizedLaws
namespace Go.Proofs.Ytnceadbfgpiaaaa.closAgain
open Go.ChangeShapes Go.WideShapes Go.ChangeAt Go.RowKit Go.Proofs.Ytnceadbfgpiaaaa.G Go.Proofs.Ytnceadbfgpiaaaa.U Go.Proofs.Ytnceadbfgpiaaaa.K Go.Proofs.Ytnceadbfgpiaaaa.J
set_option linter.unusedVariables false
theorem own : ownKnob Try.prog.godebug = none := by kernel_rfl
set_option maxRecDepth 100000 in
theorem lifted (os : Os) (started : os.Started) (H : Type) (enc : TypeId × Value → H) :
    ReturnsInHanded {} Try.checked os 5 .any (Rows.closAgainSpec.pre6 enc Try.prog Try.f5 Rows.closAgainRow.domain false) (Rows.closAgainSpec.post enc Try.prog Try.f5 false true false false) := by
  refine returnsInHanded_of_change_sized (C := Try.checked) own started (by kernel_rfl) Try.func5
    (ChangeSpec.witness6 (enc := enc) (C := Try.checked) false ⟨#[], #[.agg #[.slice none 0 0, .slice none 0 0, .slice none 0 0, .slice none 0 0, .int .i64 0], .slice none 0 0, .agg #[.int .i64 0, .int .i64 0, .int .u64 0]], []⟩ 8 (by kernel_rfl) (by kernel_rfl) (by kernel_rfl) (by kernel_rfl)) ?_
  intro W base args ds gs before hval0 hW hcnd hsz0 _
  have hval : ∀ (j : Nat) t v, Try.f5.params[j]? = some t → args[j]? = some v → Value.okWide Try.prog W .any base t v := hval0
  have hW' := hW
  obtain ⟨p, q, hA0, hV, rfl, hfz, hnd⟩ := hW
  have hA : DataW.TrodAll enc Try.prog W 0 (fun _ => true) true Try.f5.params.toList args.toList ds p := hA0
  rw [Try.params5] at hA hval
  obtain ⟨v0, vs0, d0, ds0, p0, q0, hargs, rfl, rfl, h0, r0⟩ := trodAll_cons hA
  obtain ⟨v1, vs1, d1, ds1, p1, q1, rfl, rfl, rfl, h1, r1⟩ := trodAll_cons r0
  obtain ⟨v2, vs2, d2, ds2, p2, q2, rfl, rfl, rfl, h2, r2⟩ := trodAll_cons r1
  obtain ⟨rfl, rfl, rfl⟩ := trodAll_nil r2
  obtain rfl : args = #[v0, v1, v2] := by cases args; simp_all
  obtain ⟨rfl, rfl⟩ := trodVars_none hV
  obtain ⟨xs0, x0, s0, a0, e0⟩ := arg_told (n := 6) (by kernel_rfl) (hval 0 39 v0 rfl rfl) h0
  obtain ⟨y0, rfl⟩ := told39 s0 a0
  obtain ⟨xs1, x1, s1, a1, e1⟩ := arg_told (n := 3) (by kernel_rfl) (hval 1 22 v1 rfl rfl) h1
  obtain ⟨y1, hy1, rfl⟩ := told22 s1 a1
  obtain ⟨xs2, x2, s2, a2, e2⟩ := arg_told (n := 2) (by kernel_rfl) (hval 2 28 v2 rfl rfl) h2
  obtain ⟨y2, hy2, rfl⟩ := told28 s2 a2
  refine law_fin (xs := [gramV y0, .ro (y1.map itemC), .agg (itemC y2)]) (fn := Try.f5) (s := Rows.closAgainSpec) (by kernel_rfl) (by kernel_rfl) (by kernel_rfl) rfl (by kernel_rfl) Try.underlying4 ?_ rfl hW' rfl ?_ ?_
  · rw [Try.params5]
    intro t ht
    revert t
    decide +kernel
  · intro i x hx
    match i, hx with
    | 0, hx => obtain rfl := Option.some.inj hx; exact e0
    | 1, hx => obtain rfl := Option.some.inj hx; exact e1
    | 2, hx => obtain rfl := Option.some.inj hx; exact e2
    | i + 3, hx => simp at hx
  · exact C.closAgain_calls _ _ _ hy1 hy2
theorem over : Rows.closAgainRow.holds Try.pinned (OpenSpec.ofChange Rows.closAgainSpec) :=
  OpenClaim.holds_of_wide 5 Try.f5 rfl rfl rfl rfl rfl rfl rfl ⟨rfl, rfl, rfl, rfl, rfl⟩ rfl rfl rfl rfl rfl (by kernel_rfl) Try.func5 (by kernel_rfl)
    (of_decide_eq_true (by kernel_rfl)) (by unfold Func.isWrapper; first | (rw [if_pos (by decide +kernel)]; kernel_rfl) | (rw [if_neg (by decide +kernel)]; exact ⟨rfl, rfl⟩))
    (fun os started H enc _ => lifted os started H enc)
theorem proved : Rows.ClosAgainSaid := over
#print axioms proved
end Go.Proofs.Ytnceadbfgpiaaaa.closAgain
namespace Go.Proofs.Ytnceadbfgpiaaaa
/-- The row, under a short name, for the claim. -/
theorem closAgain_holds : Rows.ClosAgainSaid := closAgain.proved
end Go.Proofs.Ytnceadbfgpiaaaa
