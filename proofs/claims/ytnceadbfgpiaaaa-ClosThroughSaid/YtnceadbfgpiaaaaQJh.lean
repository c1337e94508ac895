/- What the law ClosThrough's row is told as. -/
import Derived.Test.YtnceadbfgpiaaaaQ18
import Derived.Test.YtnceadbfgpiaaaaQ8
namespace Go.Proofs.Ytnceadbfgpiaaaa.J
open Go G U K
set_option linter.unusedVariables false
set_option linter.unusedSimpArgs false
set_option maxRecDepth 100000
theorem told42 {n : Nat} {xs : List AV} {x : AV} (h : Shape Try.prog (n + 3) 42 xs) (ha : argA Try.prog 42 xs x) : ∃ l : List SymT, x = .ro (l.map symC) := by
  obtain ⟨l, rfl⟩ := syms42 h
  have hu : Try.prog.underlying 42 = some (.slice 46) := by kernel_rfl
  have := arg_one hu rfl ha
  simp at this
  exact ⟨l, this.symm⟩
end Go.Proofs.Ytnceadbfgpiaaaa.J
