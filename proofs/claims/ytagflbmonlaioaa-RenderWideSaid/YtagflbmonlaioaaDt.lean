/- What a law's arguments are told as: documents, numbers, rows of tests. -/
import Derived.Test.YtagflbmonlaioaaD1
namespace Go.Proofs.Ytagflbmonlaioaa.D
open Go G U K
set_option linter.unusedVariables false
set_option linter.unusedSimpArgs false
set_option maxRecDepth 100000
section
variable {n : Nat} {xs : List AV} {x : AV}
theorem c9 : Try.prog.cellsOf 9 = 1 := by kernel_rfl
theorem und4 : Try.prog.underlying 4 = some .bool := by kernel_rfl
theorem und5 : Try.prog.underlying 5 = some (.int .u8) := by kernel_rfl
theorem shape3 (h : Shape Try.prog (n + 1) 3 xs) : ∃ m, xs = intC m := by
  obtain ⟨m, h, _⟩ := shape_int und3 h; exact ⟨m, h⟩
theorem shape9 (h : Shape Try.prog (n + 1) 9 xs) : ∃ s, xs = strC s := by
  obtain ⟨m, h, _⟩ := shape_str und9 h; exact ⟨m, h⟩
theorem shape4 (h : Shape Try.prog (n + 1) 4 xs) : ∃ b, xs = boolC b := shape_bool und4 h
def u8C (m : Int) : List AV := [.flat (.int .u8 m)]
theorem shape5 (h : Shape Try.prog (n + 1) 5 xs) : ∃ m, xs = u8C m ∧ 0 ≤ m ∧ m < 256 := by
  obtain ⟨m, h, hw⟩ := shape_int und5 h
  refine ⟨m, h, ?_⟩
  simp [Lit.wf, IntKind.wrap] at hw
  have e1 : IntKind.u8.min = 0 := rfl
  have e2 : IntKind.u8.max = 255 := rfl
  omega
theorem part27 (h : Shape Try.prog (n + 2) 27 xs) : ∃ r, xs = partC r := by
  obtain ⟨hl, h⟩ := shape_struct (l := [(3, 0), (3, 1), (9, 2)]) (sz := 3) (by kernel_rfl) (by kernel_rfl) h
  have h1 := h (3, 0) (by simp)
  have h2 := h (3, 1) (by simp)
  have h3 := h (9, 2) (by simp)
  simp only [c3, c9] at h1 h2 h3
  match xs, hl with
  | [a, b, c], _ =>
    obtain ⟨r, hr⟩ := shape3 h1
    obtain ⟨k, hk⟩ := shape3 h2
    obtain ⟨q, hq⟩ := shape9 h3
    simp [intC, strC] at hr hk hq
    exact ⟨⟨r, k, q⟩, by rw [hr, hk, hq]; rfl⟩
theorem told3 (h : Shape Try.prog (n + 1) 3 xs) (ha : argA Try.prog 3 xs x) : ∃ m, x = .flat (.int .i64 m) := by
  obtain ⟨m, rfl⟩ := shape3 h
  have := arg_one und3 rfl ha
  simp [intC] at this
  exact ⟨m, this.symm⟩
theorem told5 (h : Shape Try.prog (n + 1) 5 xs) (ha : argA Try.prog 5 xs x) : ∃ m : Nat, m < 256 ∧ x = .flat (.int .u8 (m : Int)) := by
  obtain ⟨m, rfl, h0, h1⟩ := shape5 h
  have := arg_one und5 rfl ha
  simp [u8C] at this
  exact ⟨m.toNat, by omega, by rw [← this, Int.toNat_of_nonneg h0]⟩
theorem told23 (h : Shape Try.prog (n + 3) 23 xs) (ha : argA Try.prog 23 xs x) : ∃ d : DocT, x = .ro (d.map partC) := by
  have hu : Try.prog.underlying 23 = some (.slice 27) := by kernel_rfl
  obtain ⟨l, rfl, _⟩ := shape_slice (f := partC) (p := fun _ => True) hu (fun h => (part27 h).imp fun a h => ⟨h, trivial⟩) h
  have := arg_one hu rfl ha
  simp at this
  exact ⟨l, this.symm⟩
theorem told52 (h : Shape Try.prog (n + 2) 52 xs) (ha : argA Try.prog 52 xs x) : ∃ d : List Bool, x = .ro (d.map boolC) := by
  have hu : Try.prog.underlying 52 = some (.slice 4) := by kernel_rfl
  obtain ⟨l, rfl, _⟩ := shape_slice (f := boolC) (p := fun _ => True) hu (fun h => (shape4 h).imp fun a h => ⟨h, trivial⟩) h
  have := arg_one hu rfl ha
  simp at this
  exact ⟨l, this.symm⟩
def wordC (w : List Nat) : List AV := [.ro (w.map fun (m : Nat) => u8C (m : Int))]
theorem shape65 (h : Shape Try.prog (n + 2) 65 xs) : ∃ w : List Nat, xs = wordC w ∧ ∀ m ∈ w, m < 256 := by
  have hu : Try.prog.underlying 65 = some (.slice 5) := by kernel_rfl
  obtain ⟨l, rfl, _, hp⟩ := shape_slice (f := fun (m : Nat) => u8C (m : Int)) (p := fun m => m < 256) hu (fun h => by
    obtain ⟨m, h, h0, h1⟩ := shape5 h
    exact ⟨m.toNat, by rw [h, Int.toNat_of_nonneg h0], by omega⟩) h
  exact ⟨l, rfl, hp⟩
theorem told63 (h : Shape Try.prog (n + 3) 63 xs) (ha : argA Try.prog 63 xs x) : ∃ ws : List (List Nat), (∀ w ∈ ws, ∀ m ∈ w, m < 256) ∧ x = .ro (ws.map wordC) := by
  have hu : Try.prog.underlying 63 = some (.slice 65) := by kernel_rfl
  obtain ⟨l, rfl, _, hp⟩ := shape_slice (f := wordC) (p := fun w => ∀ m ∈ w, m < 256) hu shape65 h
  have := arg_one hu rfl ha
  simp at this
  exact ⟨l, hp, this.symm⟩
end
end Go.Proofs.Ytagflbmonlaioaa.D
