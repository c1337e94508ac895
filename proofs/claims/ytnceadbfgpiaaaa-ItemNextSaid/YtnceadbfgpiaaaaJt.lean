/- What a law's arguments are told as: items. -/
import Derived.Test.YtnceadbfgpiaaaaJ0
import Derived.Test.YtnceadbfgpiaaaaProg
import Derived.KernelRfl
namespace Go.Proofs.Ytnceadbfgpiaaaa.J
open Go G U
set_option linter.unusedVariables false
set_option linter.unusedSimpArgs false
set_option maxRecDepth 100000
section
variable {n : Nat} {xs : List AV} {x : AV}
theorem shape3 (h : Shape Try.prog (n + 1) 3 xs) : ∃ m : Int, xs = [.flat (.int .i64 m)] := by
  obtain ⟨m, h, _⟩ := shape_int (by kernel_rfl : Try.prog.underlying 3 = some (.int .i64)) h; exact ⟨m, h⟩
theorem shape26 (h : Shape Try.prog (n + 1) 26 xs) : ∃ m : Nat, m < 18446744073709551616 ∧ xs = [.flat (.int .u64 (m : Int))] := by
  obtain ⟨m, h, hw⟩ := shape_int (by kernel_rfl : Try.prog.underlying 26 = some (.int .u64)) h
  simp [Lit.wf, IntKind.wrap] at hw
  have e1 : IntKind.u64.min = 0 := rfl
  have e2 : IntKind.u64.max = 18446744073709551615 := rfl
  exact ⟨m.toNat, by omega, by rw [h, Int.toNat_of_nonneg (by omega)]⟩
theorem item28 (h : Shape Try.prog (n + 2) 28 xs) : ∃ r : ItemT, xs = itemC r ∧ okI64 r := by
  obtain ⟨hl, h⟩ := shape_struct (l := [(3, 0), (3, 1), (26, 2)]) (sz := 3) (by kernel_rfl) (by kernel_rfl) h
  have h1 := h (3, 0) (by simp)
  have h2 := h (3, 1) (by simp)
  have h3 := h (26, 2) (by simp)
  have k3 : Try.prog.cellsOf 3 = 1 := by kernel_rfl
  have k26 : Try.prog.cellsOf 26 = 1 := by kernel_rfl
  simp only [k3, k26] at h1 h2 h3
  match xs, hl with
  | [a, b, c], _ =>
    obtain ⟨r, hr⟩ := shape3 h1
    obtain ⟨k, hk⟩ := shape3 h2
    obtain ⟨q, hq0, hq⟩ := shape26 h3
    simp at hr hk hq
    exact ⟨⟨r, k, q⟩, by rw [hr, hk, hq]; rfl, hq0⟩
theorem told22 (h : Shape Try.prog (n + 3) 22 xs) (ha : argA Try.prog 22 xs x) : ∃ l : List ItemT, (∀ y ∈ l, okI64 y) ∧ x = .ro (l.map itemC) := by
  have hu : Try.prog.underlying 22 = some (.slice 28) := by kernel_rfl
  obtain ⟨l, rfl, _, hp⟩ := shape_slice (f := itemC) (p := okI64) hu item28 h
  have := arg_one hu rfl ha
  simp at this
  exact ⟨l, hp, this.symm⟩
theorem told28 (h : Shape Try.prog (n + 2) 28 xs) (ha : argA Try.prog 28 xs x) : ∃ r : ItemT, okI64 r ∧ x = .agg (itemC r) := by
  obtain ⟨r, rfl, h2⟩ := item28 h
  exact ⟨r, h2, arg_agg (l := [(3, 0), (3, 1), (26, 2)]) (by kernel_rfl) ha⟩
end
end Go.Proofs.Ytnceadbfgpiaaaa.J
