/- What a law's byte is told as. -/
import Derived.Test.YthilmgpciiopnaaF19
namespace Go.Proofs.Ythilmgpciiopnaa.F
open Go G U K
set_option linter.unusedVariables false
set_option linter.unusedSimpArgs false
set_option maxRecDepth 100000
set_option maxHeartbeats 4000000
theorem und5 : Try.prog.underlying 5 = some (.int .u8) := by kernel_rfl
theorem told5 {n : Nat} {xs : List AV} {x : AV} (h : Shape Try.prog (n + 1) 5 xs) (ha : argA Try.prog 5 xs x) : ∃ m, x = .flat (.int .u8 m) ∧ 0 ≤ m ∧ m ≤ 255 := by
  obtain ⟨m, rfl, hw⟩ := shape_int und5 h
  simp only [argA, und5] at ha
  refine ⟨m, (List.cons.inj ha).1.symm, ?_⟩
  simp [Lit.wf, IntKind.min, IntKind.max, IntKind.bits, IntKind.signed] at hw
  omega
end Go.Proofs.Ythilmgpciiopnaa.F
