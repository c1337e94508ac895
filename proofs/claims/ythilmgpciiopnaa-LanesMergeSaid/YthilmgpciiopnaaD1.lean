/- What a law's arguments are told as: whole numbers, rows of whole numbers, rows of tokens. -/
import Derived.Test.YthilmgpciiopnaaK15
namespace Go.Proofs.Ythilmgpciiopnaa.K
set_option linter.unusedVariables false
set_option linter.unusedSimpArgs false
open Go G
set_option maxRecDepth 100000
set_option maxHeartbeats 4000000
variable {n : Nat} {xs : List AV} {x : AV}
theorem und3 : Try.prog.underlying 3 = some (.int .i64) := by kernel_rfl
theorem und24 : Try.prog.underlying 24 = some (.slice 3) := by kernel_rfl
theorem und28 : Try.prog.underlying 28 = some (.slice 34) := by kernel_rfl
theorem und9 : Try.prog.underlying 9 = some .string := by kernel_rfl
theorem shape3 (h : Shape Try.prog (n + 1) 3 xs) : ∃ m, xs = [.flat (.int .i64 m)] ∧ (Lit.int .i64 m).wf = true := by
  simp only [Shape, und3] at h; exact h
theorem shape9 (h : Shape Try.prog (n + 1) 9 xs) : ∃ s, xs = [.flat (.string s)] ∧ s.size ≤ maxLen := by
  simp only [Shape, und9] at h; exact h
theorem told3 (h : Shape Try.prog (n + 1) 3 xs) (ha : argA Try.prog 3 xs x) : ∃ m, x = .flat (.int .i64 m) := by
  obtain ⟨m, rfl, _⟩ := shape3 h
  simp only [argA, und3] at ha
  exact ⟨m, (List.cons.inj ha).1.symm⟩
theorem list_of {α : Type} {f : α → List AV} : ∀ {X : List (List AV)}, (∀ c ∈ X, ∃ t, c = f t) → ∃ l : List α, X = l.map f
  | [], _ => ⟨[], rfl⟩
  | c :: X, h => by
    obtain ⟨t, rfl⟩ := h c (by simp)
    obtain ⟨l, rfl⟩ := list_of (X := X) fun d hd => h d (by simp [hd])
    exact ⟨t :: l, rfl⟩
theorem told24 (h : Shape Try.prog (n + 2) 24 xs) (ha : argA Try.prog 24 xs x) : ∃ ks, x = .ro (intE ks) := by
  simp only [Shape, und24, und3] at h
  obtain ⟨X, rfl, _, hX⟩ := h
  simp only [argA, und24] at ha
  obtain ⟨l, rfl⟩ := list_of (f := fun k => [.flat (.int .i64 k)]) fun c hc => by
    obtain ⟨m, hm, _⟩ := hX c hc
    exact ⟨m, hm⟩
  exact ⟨l, (List.cons.inj ha).1.symm⟩
def fieldsOf : TypeDesc → Option (List (Nat × Nat))
  | .struct fs => some (fs.toList.map fun f => (f.type, f.offset))
  | _ => none
theorem fld_of {P : Program} {t : TypeId} {l : List (Nat × Nat)} (h : (P.underlying t).bind fieldsOf = some l) : ∃ fs, P.underlying t = some (.struct fs) ∧ fs.toList.map (fun f => (f.type, f.offset)) = l := by
  cases hu : P.underlying t with
  | none => rw [hu] at h; cases h
  | some d =>
    rw [hu] at h
    cases d with
    | struct fs => exact ⟨fs, rfl, Option.some.inj h⟩
    | _ => cases h
theorem fld34 : (Try.prog.underlying 34).bind fieldsOf = some [(3, 0), (9, 1), (3, 2)] := by kernel_rfl
theorem shape34 (h : Shape Try.prog (n + 2) 34 xs) : ∃ t, xs = tokC t := by
  obtain ⟨fs, hu, hf⟩ := fld_of fld34
  rw [Shape] at h
  simp only [hu] at h
  obtain ⟨hl, h⟩ := h
  have h' : ∀ p ∈ fs.toList.map (fun f => (f.type, f.offset)), Shape Try.prog (n + 1) p.1 ((xs.drop p.2).take (Try.prog.cellsOf p.1)) := by
    intro p hp
    obtain ⟨f, hf, rfl⟩ := List.mem_map.1 hp
    exact h f hf
  rw [hf] at h'
  have h1 := h' (3, 0) (by simp)
  have h2 := h' (9, 1) (by simp)
  have h3 := h' (3, 2) (by simp)
  rw [c34] at hl
  simp only [c3, c9] at h1 h2 h3
  match xs, hl with
  | [a, b, c], _ =>
    obtain ⟨m, hm, _⟩ := shape3 h1
    obtain ⟨s, hs, _⟩ := shape9 h2
    obtain ⟨k, hk, _⟩ := shape3 h3
    simp at hm hs hk
    exact ⟨⟨m, s, k⟩, by rw [hm, hs, hk]; rfl⟩
theorem told28 (h : Shape Try.prog (n + 3) 28 xs) (ha : argA Try.prog 28 xs x) : ∃ l, x = .ro (tokE l) := by
  rw [Shape] at h
  simp only [und28] at h
  obtain ⟨X, rfl, _, hX⟩ := h
  simp only [argA, und28] at ha
  obtain ⟨l, rfl⟩ := list_of (f := tokC) fun c hc => shape34 (hX c hc)
  exact ⟨l, (List.cons.inj ha).1.symm⟩
end Go.Proofs.Ythilmgpciiopnaa.K
