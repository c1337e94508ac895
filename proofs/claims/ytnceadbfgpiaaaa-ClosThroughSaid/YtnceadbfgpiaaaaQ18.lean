/- Jt, Jg, one behind the other. -/
import Derived.Test.YtnceadbfgpiaaaaQ7
import Derived.Test.YtnceadbfgpiaaaaProg
import Derived.KernelRfl
import Derived.Test.YtnceadbfgpiaaaaQ8
/- What a law's arguments are told as: items. -/
namespace Go.Proofs.Ytnceadbfgpiaaaa.J
open Go G U
set_option linter.unusedVariables false
set_option linter.unusedSimpArgs false
set_option maxRecDepth 100000
section
variable {n : Nat} {xs : List AV} {x : AV}
theorem shape3 (h : Shape Try.prog (n + 1) 3 xs) : ∃ m : Int, xs = [.flat (.int .i64 m)] := by
  obtain ⟨m, h, _⟩ := shape_int (by kernel_rfl : Try.prog.underlying 3 = some (.int .i64)) h; exact ⟨m, h⟩
theorem shape26 (h : Shape Try.prog (n + 1) 26 xs) : ∃ m : Nat, m < 18446744073709551616 ∧ xs = [.flat (.int .u64 (m : Int))] := by
  obtain ⟨m, h, hw⟩ := shape_int (by kernel_rfl : Try.prog.underlying 26 = some (.int .u64)) h
  simp [Lit.wf, IntKind.wrap] at hw
  have e1 : IntKind.u64.min = 0 := rfl
  have e2 : IntKind.u64.max = 18446744073709551615 := rfl
  exact ⟨m.toNat, by omega, by rw [h, Int.toNat_of_nonneg (by omega)]⟩
theorem item28 (h : Shape Try.prog (n + 2) 28 xs) : ∃ r : ItemT, xs = itemC r ∧ okI64 r := by
  obtain ⟨hl, h⟩ := shape_struct (l := [(3, 0), (3, 1), (26, 2)]) (sz := 3) (by kernel_rfl) (by kernel_rfl) h
  have h1 := h (3, 0) (by simp)
  have h2 := h (3, 1) (by simp)
  have h3 := h (26, 2) (by simp)
  have k3 : Try.prog.cellsOf 3 = 1 := by kernel_rfl
  have k26 : Try.prog.cellsOf 26 = 1 := by kernel_rfl
  simp only [k3, k26] at h1 h2 h3
  match xs, hl with
  | [a, b, c], _ =>
    obtain ⟨r, hr⟩ := shape3 h1
    obtain ⟨k, hk⟩ := shape3 h2
    obtain ⟨q, hq0, hq⟩ := shape26 h3
    simp at hr hk hq
    exact ⟨⟨r, k, q⟩, by rw [hr, hk, hq]; rfl, hq0⟩
theorem told22 (h : Shape Try.prog (n + 3) 22 xs) (ha : argA Try.prog 22 xs x) : ∃ l : List ItemT, (∀ y ∈ l, okI64 y) ∧ x = .ro (l.map itemC) := by
  have hu : Try.prog.underlying 22 = some (.slice 28) := by kernel_rfl
  obtain ⟨l, rfl, _, hp⟩ := shape_slice (f := itemC) (p := okI64) hu item28 h
  have := arg_one hu rfl ha
  simp at this
  exact ⟨l, hp, this.symm⟩
theorem told28 (h : Shape Try.prog (n + 2) 28 xs) (ha : argA Try.prog 28 xs x) : ∃ r : ItemT, okI64 r ∧ x = .agg (itemC r) := by
  obtain ⟨r, rfl, h2⟩ := item28 h
  exact ⟨r, h2, arg_agg (l := [(3, 0), (3, 1), (26, 2)]) (by kernel_rfl) ha⟩
end
end Go.Proofs.Ytnceadbfgpiaaaa.J
/- What a law's grammar is told as. -/
namespace Go.Proofs.Ytnceadbfgpiaaaa.J
open Go G U K
set_option linter.unusedVariables false
set_option linter.unusedSimpArgs false
set_option maxRecDepth 100000
def boolC (b : Bool) : List AV := [.flat (.bool b)]
theorem c4 : Try.prog.cellsOf 4 = 1 := by kernel_rfl
section
variable {n : Nat} {xs : List AV} {x : AV}
theorem c9 : Try.prog.cellsOf 9 = 1 := by kernel_rfl
theorem c3 : Try.prog.cellsOf 3 = 1 := by kernel_rfl
theorem c42 : Try.prog.cellsOf 42 = 1 := by kernel_rfl
theorem c73 : Try.prog.cellsOf 73 = 1 := by kernel_rfl
theorem c34 : Try.prog.cellsOf 34 = 1 := by kernel_rfl
theorem c35 : Try.prog.cellsOf 35 = 1 := by kernel_rfl
theorem c36 : Try.prog.cellsOf 36 = 1 := by kernel_rfl
theorem c37 : Try.prog.cellsOf 37 = 1 := by kernel_rfl
theorem und3 : Try.prog.underlying 3 = some (.int .i64) := by kernel_rfl
theorem und4 : Try.prog.underlying 4 = some .bool := by kernel_rfl
theorem und9 : Try.prog.underlying 9 = some .string := by kernel_rfl
theorem shape9 (h : Shape Try.prog (n + 1) 9 xs) : ∃ s, xs = strC s := by
  obtain ⟨m, h, _⟩ := shape_str und9 h; exact ⟨m, h⟩
theorem shape4 (h : Shape Try.prog (n + 1) 4 xs) : ∃ b, xs = boolC b := shape_bool und4 h
theorem ints73 (h : Shape Try.prog (n + 2) 73 xs) : ∃ l : List Int, xs = [.ro (l.map intC)] := by
  obtain ⟨l, h, _⟩ := shape_slice (f := intC) (p := fun _ => True) (e := 3) (by kernel_rfl) (fun h => (shape3 h).imp fun a h => ⟨h, trivial⟩) h
  exact ⟨l, h⟩
theorem rule80 (h : Shape Try.prog (n + 2) 80 xs) : ∃ r, xs = ruleC r := by
  obtain ⟨hl, h⟩ := shape_struct (l := [(9, 0), (3, 1), (9, 2)]) (sz := 3) (by kernel_rfl) (by kernel_rfl) h
  have h1 := h (9, 0) (by simp)
  have h2 := h (3, 1) (by simp)
  have h3 := h (9, 2) (by simp)
  simp only [c3, c9] at h1 h2 h3
  match xs, hl with
  | [a, b, c], _ =>
    obtain ⟨r, hr⟩ := shape9 h1
    obtain ⟨k, hk⟩ := shape3 h2
    obtain ⟨q, hq⟩ := shape9 h3
    simp [intC, strC] at hr hk hq
    exact ⟨⟨r, k, q⟩, by rw [hr, hk, hq]; rfl⟩
theorem sym46 (h : Shape Try.prog (n + 2) 46 xs) : ∃ s, xs = symC s := by
  obtain ⟨hl, h⟩ := shape_struct (l := [(4, 0), (3, 1)]) (sz := 2) (by kernel_rfl) (by kernel_rfl) h
  have h1 := h (4, 0) (by simp)
  have h2 := h (3, 1) (by simp)
  simp only [c3, c4] at h1 h2
  match xs, hl with
  | [a, b], _ =>
    obtain ⟨r, hr⟩ := shape4 h1
    obtain ⟨k, hk⟩ := shape3 h2
    simp [intC, boolC] at hr hk
    exact ⟨⟨r, k⟩, by rw [hr, hk]; rfl⟩
theorem syms42 (h : Shape Try.prog (n + 3) 42 xs) : ∃ l : List SymT, xs = [.ro (l.map symC)] := by
  obtain ⟨l, h, _⟩ := shape_slice (f := symC) (p := fun _ => True) (e := 46) (by kernel_rfl) (fun h => (sym46 h).imp fun a h => ⟨h, trivial⟩) h
  exact ⟨l, h⟩
theorem prod75 (h : Shape Try.prog (n + 4) 75 xs) : ∃ p, xs = prodC p := by
  obtain ⟨hl, h⟩ := shape_struct (l := [(3, 0), (9, 1), (42, 2), (4, 3), (3, 4), (73, 5)]) (sz := 6) (by kernel_rfl) (by kernel_rfl) h
  have h1 := h (3, 0) (by simp)
  have h2 := h (9, 1) (by simp)
  have h3 := h (42, 2) (by simp)
  have h4 := h (4, 3) (by simp)
  have h5 := h (3, 4) (by simp)
  have h6 := h (73, 5) (by simp)
  simp only [c3, c4, c9, c42, c73] at h1 h2 h3 h4 h5 h6
  match xs, hl with
  | [a, b, c, d, e, f], _ =>
    obtain ⟨q1, e1⟩ := shape3 h1
    obtain ⟨q2, e2⟩ := shape9 h2
    obtain ⟨q3, e3⟩ := syms42 h3
    obtain ⟨q4, e4⟩ := shape4 h4
    obtain ⟨q5, e5⟩ := shape3 h5
    obtain ⟨q6, e6⟩ := ints73 h6
    simp [intC, boolC, strC] at e1 e2 e3 e4 e5 e6
    exact ⟨⟨q1, q2, q3, q4, q5, q6⟩, by rw [e1, e2, e3, e4, e5, e6]; rfl⟩
theorem lev77 (h : Shape Try.prog (n + 3) 77 xs) : ∃ l, xs = levC l := by
  obtain ⟨hl, h⟩ := shape_struct (l := [(3, 0), (73, 1)]) (sz := 2) (by kernel_rfl) (by kernel_rfl) h
  have h1 := h (3, 0) (by simp)
  have h2 := h (73, 1) (by simp)
  simp only [c3, c73] at h1 h2
  match xs, hl with
  | [a, b], _ =>
    obtain ⟨q1, e1⟩ := shape3 h1
    obtain ⟨q2, e2⟩ := ints73 h2
    simp [intC] at e1 e2
    exact ⟨⟨q1, q2⟩, by rw [e1, e2]; rfl⟩
theorem told39 (h : Shape Try.prog (n + 6) 39 xs) (ha : argA Try.prog 39 xs x) : ∃ g, x = gramV g := by
  have hu : (Try.prog.underlying 39).bind fieldsOf = some [(34, 0), (35, 1), (36, 2), (37, 3), (3, 4)] := by kernel_rfl
  have hx := arg_agg hu ha
  obtain ⟨hl, h⟩ := shape_struct (sz := 5) hu (by kernel_rfl) h
  have h1 := h (34, 0) (by simp)
  have h2 := h (35, 1) (by simp)
  have h3 := h (36, 2) (by simp)
  have h4 := h (37, 3) (by simp)
  have h5 := h (3, 4) (by simp)
  simp only [c3, c34, c35, c36, c37] at h1 h2 h3 h4 h5
  match xs, hl with
  | [a, b, c, d, e], _ =>
    obtain ⟨q1, e1, _⟩ := shape_slice (f := ruleC) (p := fun _ => True) (e := 80) (by kernel_rfl) (fun h => (rule80 h).imp fun a h => ⟨h, trivial⟩) h1
    obtain ⟨q2, e2, _⟩ := shape_slice (f := strC) (p := fun _ => True) (e := 9) (by kernel_rfl) (fun h => (shape9 h).imp fun a h => ⟨h, trivial⟩) h2
    obtain ⟨q3, e3, _⟩ := shape_slice (f := prodC) (p := fun _ => True) (e := 75) (by kernel_rfl) (fun h => (prod75 h).imp fun a h => ⟨h, trivial⟩) h3
    obtain ⟨q4, e4, _⟩ := shape_slice (f := levC) (p := fun _ => True) (e := 77) (by kernel_rfl) (fun h => (lev77 h).imp fun a h => ⟨h, trivial⟩) h4
    obtain ⟨q5, e5⟩ := shape3 h5
    simp [intC] at e1 e2 e3 e4 e5
    exact ⟨⟨q1, q2, q3, q4, q5⟩, by rw [hx, e1, e2, e3, e4, e5]; rfl⟩
end
theorem few_1000 {g : GramT} (h : fewG g = true) : g.sorts.length ≤ 1000 ∧ g.prods.length ≤ 1000 ∧ ∀ p ∈ g.prods, p.body.length ≤ 1000 := by
  obtain ⟨_, h1, h2, h3⟩ := few_facts h
  exact ⟨by omega, by omega, fun p hp => Nat.le_trans (h3 p hp) (by decide)⟩
end Go.Proofs.Ytnceadbfgpiaaaa.J
