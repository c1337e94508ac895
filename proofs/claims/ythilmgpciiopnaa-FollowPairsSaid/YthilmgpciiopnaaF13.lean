/- What a law's grammar is told as; contracts: the law FirstOf. -/
import Derived.Test.YthilmgpciiopnaaF12
namespace Go.Proofs.Ythilmgpciiopnaa.F
open Go G U K
set_option linter.unusedVariables false
set_option linter.unusedSimpArgs false
set_option maxRecDepth 100000
set_option maxHeartbeats 4000000
theorem fn6 : Try.prog.funcs[6]? = some Try.f6 := by kernel_rfl
section
variable {n : Nat} {xs : List AV} {x : AV}
theorem c9 : Try.prog.cellsOf 9 = 1 := by kernel_rfl
theorem c3 : Try.prog.cellsOf 3 = 1 := by kernel_rfl
theorem c59 : Try.prog.cellsOf 59 = 1 := by kernel_rfl
theorem c24 : Try.prog.cellsOf 24 = 1 := by kernel_rfl
theorem c43 : Try.prog.cellsOf 43 = 1 := by kernel_rfl
theorem c44 : Try.prog.cellsOf 44 = 1 := by kernel_rfl
theorem c45 : Try.prog.cellsOf 45 = 1 := by kernel_rfl
theorem c46 : Try.prog.cellsOf 46 = 1 := by kernel_rfl
theorem und3 : Try.prog.underlying 3 = some (.int .i64) := by kernel_rfl
theorem und4 : Try.prog.underlying 4 = some .bool := by kernel_rfl
theorem und9 : Try.prog.underlying 9 = some .string := by kernel_rfl
theorem shape3 (h : Shape Try.prog (n + 1) 3 xs) : ∃ m, xs = intC m := by
  obtain ⟨m, h, _⟩ := shape_int und3 h; exact ⟨m, h⟩
theorem shape9 (h : Shape Try.prog (n + 1) 9 xs) : ∃ s, xs = strC s := by
  obtain ⟨m, h, _⟩ := shape_str und9 h; exact ⟨m, h⟩
theorem shape4 (h : Shape Try.prog (n + 1) 4 xs) : ∃ b, xs = boolC b := shape_bool und4 h
theorem ints24 (h : Shape Try.prog (n + 2) 24 xs) : ∃ l : List Int, xs = [.ro (l.map intC)] := by
  obtain ⟨l, h, _⟩ := shape_slice (f := intC) (p := fun _ => True) (e := 3) (by kernel_rfl) (fun h => (shape3 h).imp fun a h => ⟨h, trivial⟩) h
  exact ⟨l, h⟩
theorem rule84 (h : Shape Try.prog (n + 2) 84 xs) : ∃ r, xs = ruleC r := by
  obtain ⟨hl, h⟩ := shape_struct (l := [(9, 0), (3, 1), (9, 2)]) (sz := 3) (by kernel_rfl) (by kernel_rfl) h
  have h1 := h (9, 0) (by simp)
  have h2 := h (3, 1) (by simp)
  have h3 := h (9, 2) (by simp)
  simp only [c3, c9] at h1 h2 h3
  match xs, hl with
  | [a, b, c], _ =>
    obtain ⟨r, hr⟩ := shape9 h1
    obtain ⟨k, hk⟩ := shape3 h2
    obtain ⟨q, hq⟩ := shape9 h3
    simp [intC, strC] at hr hk hq
    exact ⟨⟨r, k, q⟩, by rw [hr, hk, hq]; rfl⟩
theorem sym78 (h : Shape Try.prog (n + 2) 78 xs) : ∃ s, xs = symC s := by
  obtain ⟨hl, h⟩ := shape_struct (l := [(4, 0), (3, 1)]) (sz := 2) (by kernel_rfl) (by kernel_rfl) h
  have h1 := h (4, 0) (by simp)
  have h2 := h (3, 1) (by simp)
  simp only [c3, c4] at h1 h2
  match xs, hl with
  | [a, b], _ =>
    obtain ⟨r, hr⟩ := shape4 h1
    obtain ⟨k, hk⟩ := shape3 h2
    simp [intC, boolC] at hr hk
    exact ⟨⟨r, k⟩, by rw [hr, hk]; rfl⟩
theorem syms59 (h : Shape Try.prog (n + 3) 59 xs) : ∃ l : List SymT, xs = [.ro (l.map symC)] := by
  obtain ⟨l, h, _⟩ := shape_slice (f := symC) (p := fun _ => True) (e := 78) (by kernel_rfl) (fun h => (sym78 h).imp fun a h => ⟨h, trivial⟩) h
  exact ⟨l, h⟩
theorem prod61 (h : Shape Try.prog (n + 4) 61 xs) : ∃ p, xs = prodC p := by
  obtain ⟨hl, h⟩ := shape_struct (l := [(3, 0), (9, 1), (59, 2), (4, 3), (3, 4), (24, 5)]) (sz := 6) (by kernel_rfl) (by kernel_rfl) h
  have h1 := h (3, 0) (by simp)
  have h2 := h (9, 1) (by simp)
  have h3 := h (59, 2) (by simp)
  have h4 := h (4, 3) (by simp)
  have h5 := h (3, 4) (by simp)
  have h6 := h (24, 5) (by simp)
  simp only [c3, c4, c9, c59, c24] at h1 h2 h3 h4 h5 h6
  match xs, hl with
  | [a, b, c, d, e, f], _ =>
    obtain ⟨q1, e1⟩ := shape3 h1
    obtain ⟨q2, e2⟩ := shape9 h2
    obtain ⟨q3, e3⟩ := syms59 h3
    obtain ⟨q4, e4⟩ := shape4 h4
    obtain ⟨q5, e5⟩ := shape3 h5
    obtain ⟨q6, e6⟩ := ints24 h6
    simp [intC, boolC, strC] at e1 e2 e3 e4 e5 e6
    exact ⟨⟨q1, q2, q3, q4, q5, q6⟩, by rw [e1, e2, e3, e4, e5, e6]; rfl⟩
theorem lev76 (h : Shape Try.prog (n + 3) 76 xs) : ∃ l, xs = levC l := by
  obtain ⟨hl, h⟩ := shape_struct (l := [(3, 0), (24, 1)]) (sz := 2) (by kernel_rfl) (by kernel_rfl) h
  have h1 := h (3, 0) (by simp)
  have h2 := h (24, 1) (by simp)
  simp only [c3, c24] at h1 h2
  match xs, hl with
  | [a, b], _ =>
    obtain ⟨q1, e1⟩ := shape3 h1
    obtain ⟨q2, e2⟩ := ints24 h2
    simp [intC] at e1 e2
    exact ⟨⟨q1, q2⟩, by rw [e1, e2]; rfl⟩
theorem told48 (h : Shape Try.prog (n + 6) 48 xs) (ha : argA Try.prog 48 xs x) : ∃ g, x = gramV g := by
  have hu : (Try.prog.underlying 48).bind fieldsOf = some [(43, 0), (44, 1), (45, 2), (46, 3), (3, 4)] := by kernel_rfl
  have hx := arg_agg hu ha
  obtain ⟨hl, h⟩ := shape_struct (sz := 5) hu (by kernel_rfl) h
  have h1 := h (43, 0) (by simp)
  have h2 := h (44, 1) (by simp)
  have h3 := h (45, 2) (by simp)
  have h4 := h (46, 3) (by simp)
  have h5 := h (3, 4) (by simp)
  simp only [c3, c43, c44, c45, c46] at h1 h2 h3 h4 h5
  match xs, hl with
  | [a, b, c, d, e], _ =>
    obtain ⟨q1, e1, _⟩ := shape_slice (f := ruleC) (p := fun _ => True) (e := 84) (by kernel_rfl) (fun h => (rule84 h).imp fun a h => ⟨h, trivial⟩) h1
    obtain ⟨q2, e2, _⟩ := shape_slice (f := strC) (p := fun _ => True) (e := 9) (by kernel_rfl) (fun h => (shape9 h).imp fun a h => ⟨h, trivial⟩) h2
    obtain ⟨q3, e3, _⟩ := shape_slice (f := prodC) (p := fun _ => True) (e := 61) (by kernel_rfl) (fun h => (prod61 h).imp fun a h => ⟨h, trivial⟩) h3
    obtain ⟨q4, e4, _⟩ := shape_slice (f := levC) (p := fun _ => True) (e := 76) (by kernel_rfl) (fun h => (lev76 h).imp fun a h => ⟨h, trivial⟩) h4
    obtain ⟨q5, e5⟩ := shape3 h5
    simp [intC] at e1 e2 e3 e4 e5
    exact ⟨⟨q1, q2, q3, q4, q5⟩, by rw [hx, e1, e2, e3, e4, e5]; rfl⟩
end
theorem few_1000 {g : GramT} (h : fewG g = true) : g.sorts.length ≤ 1000 ∧ g.prods.length ≤ 1000 ∧ ∀ p ∈ g.prods, p.body.length ≤ 1000 := by
  obtain ⟨_, h1, h2, h3⟩ := few_facts h
  exact ⟨by omega, by omega, fun p hp => Nat.le_trans (h3 p hp) (by decide)⟩
end Go.Proofs.Ythilmgpciiopnaa.F
