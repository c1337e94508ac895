/- Documents, plain: parts, which lists of them may be. -/
import Derived.Test.YtagflbmonlaioaaU1
import Derived.Test.YtagflbmonlaioaaK0
namespace Go.Proofs.Ytagflbmonlaioaa.D
open Go G U K
set_option linter.unusedVariables false
set_option linter.unusedSimpArgs false
set_option maxRecDepth 100000
set_option maxHeartbeats 4000000
structure PartT where
  kind : Int
  n : Int
  text : ByteArray
  deriving Inhabited
abbrev DocT := List PartT
def partC (p : PartT) : List AV := [.flat (.int .i64 p.kind), .flat (.int .i64 p.n), .flat (.string p.text)]
def docC (d : DocT) : List AV := [.ro (d.map partC)]
def intC (k : Int) : List AV := [.flat (.int .i64 k)]
def boolC (b : Bool) : List AV := [.flat (.bool b)]
def strC (s : ByteArray) : List AV := [.flat (.string s)]
theorem flat_part (l : DocT) : flatRow (l.map partC) := flat_map (fun a x hx => by
  simp only [partC, List.mem_cons, List.not_mem_nil, or_false] at hx
  rcases hx with rfl | rfl | rfl <;> exact ⟨rfl, rfl⟩) l
theorem flat_int (l : List Int) : flatRow (l.map intC) := flat_map (fun a x hx => by
  simp only [intC, List.mem_cons, List.not_mem_nil, or_false] at hx; subst hx; exact ⟨rfl, rfl⟩) l
theorem closed_part {Y : List (List AV)} {l : DocT} (hY : Y = l.map partC) : ∀ c ∈ Y, closedAll [] c = true := by
  rw [hY]; exact closed_map fun _ => rfl
theorem closed_int {Y : List (List AV)} {l : List Int} (hY : Y = l.map intC) : ∀ c ∈ Y, closedAll [] c = true := by
  rw [hY]; exact closed_map fun _ => rfl
theorem c27 : Try.prog.cellsOf 27 = 3 := by kernel_rfl
theorem c3 : Try.prog.cellsOf 3 = 1 := by kernel_rfl
theorem und3 : Try.prog.underlying 3 = some (.int .i64) := by kernel_rfl
theorem und9 : Try.prog.underlying 9 = some .string := by kernel_rfl
/-! ### Kinds -/
def takes (k : Int) : Int := if k = 0 ∨ k = 1 ∨ k = 2 ∨ k = 3 ∨ k = 7 then 0 else if k = 5 ∨ k = 6 then 1 else if k = 4 then 2 else -1
theorem takes_le (k : Int) : -1 ≤ takes k ∧ takes k ≤ 2 := by unfold takes; repeat' split <;> omega
def noText (s : ByteArray) : Bool := s.toList == ByteArray.toList ⟨#[]⟩
def partOk (p : PartT) : Bool := if decide (takes p.kind < 0) || (!(decide (p.kind = 0)) && !(noText p.text)) then false else if decide (p.kind = 5) then decide (0 ≤ p.n) && decide (p.n ≤ 100) else decide (p.n = 0)
/-- How many there are behind some parts. -/
def chk : DocT → Int → Option Int
  | [], n => some n
  | p :: d, n => if (!(partOk p)) || decide (n < takes p.kind) then none else chk d (n + (1 - takes p.kind))
def checkD (d : DocT) : Int := if 20000 < (d.length : Int) then 6 else match chk d 0 with
  | none => 4
  | some n => if n = 1 then 0 else 4
theorem ok_takes {p : PartT} (h : partOk p = true) : 0 ≤ takes p.kind := by
  unfold partOk at h
  split at h
  · cases h
  · rename_i hc
    simp only [Bool.or_eq_true, decide_eq_true_eq, not_or] at hc
    omega
/-- Where the counting stands. -/
def CkAt (d : DocT) (i n : Int) : Prop := At d i ∧ chk d 0 = chk (d.drop i.toNat) n ∧ 0 ≤ n ∧ n ≤ i
theorem ckAt_zero (d : DocT) : CkAt d 0 0 := ⟨at_zero d, rfl, by omega, by omega⟩
theorem ckAt_end {d : DocT} {i n : Int} (h : CkAt d i n) (hc : decide (i < (d.length : Int)) = false) : chk d 0 = some n := by
  rw [h.2.1, drop_end h.1 hc]; rfl
/-- One part more. -/
def bad (p : PartT) (n : Int) : Bool := (!(partOk p)) || decide (n < takes p.kind)
theorem ckAt_bad {d : DocT} {i n : Int} (h : CkAt d i n) (hc : decide (i < (d.length : Int)) = true) (hb : bad (atI d i) n = true) : chk d 0 = none := by
  obtain ⟨_, h0, h1⟩ := at_lt h.1 hc
  rw [h.2.1, drop_next h0 h1]
  unfold bad at hb
  simp only [chk, if_pos hb]
theorem ckAt_step {d : DocT} {i n : Int} (hs : d.length ≤ 1000000) (h : CkAt d i n) (hc : decide (i < (d.length : Int)) = true) (hb : bad (atI d i) n = false) :
    CkAt d (i + 1) (n + (1 - takes (atI d i).kind)) ∧ arI .add .i64 n (1 - takes (atI d i).kind) = n + (1 - takes (atI d i).kind) ∧ arI .sub .i64 1 (takes (atI d i).kind) = 1 - takes (atI d i).kind ∧
    arI .sub .i64 n (takes (atI d i).kind) = n - takes (atI d i).kind ∧ arI .add .i64 (n - takes (atI d i).kind) 1 = n + (1 - takes (atI d i).kind) := by
  obtain ⟨_, h0, h1⟩ := at_lt h.1 hc
  have hd := drop_next (l := d) h0 h1
  have h2 := h.2.1
  rw [hd] at h2
  unfold bad at hb
  simp only [chk, hb, Bool.false_eq_true, if_false] at h2
  simp only [Bool.or_eq_false_iff, Bool.not_eq_false', decide_eq_false_iff_not] at hb
  have ht := ok_takes hb.1
  have ht2 := takes_le (atI d i).kind
  obtain ⟨_, _, hn0, hn1⟩ := h
  refine ⟨⟨(at_step ⟨h0, by omega⟩ hc).1, h2, by omega, by omega⟩, ar_add64 (by omega) (by omega), ar_sub64 (by omega) (by omega), ar_sub64 (by omega) (by omega), ?_⟩
  rw [ar_add64 (by omega) (by omega)]
  omega
/-- As the document's answer has it. -/
def refBad (k : Int) (p : PartT) (n : Int) : Bool := ((((decide (k < 0) || decide (n < k)) || (!(noText p.text) && !(decide (p.kind = 0)))) || (!(decide (p.n = 0)) && !(decide (p.kind = 5)))) || decide (p.n < 0)) || decide (100 < p.n)
theorem refBad_eq (p : PartT) (n : Int) : refBad (takes p.kind) p n = bad p n := by
  unfold refBad bad partOk
  have e7 : decide (0 ≤ p.n) = !decide (p.n < 0) := by by_cases h : p.n < 0 <;> simp [h] <;> omega
  have e8 : decide (p.n ≤ 100) = !decide (100 < p.n) := by by_cases h : 100 < p.n <;> simp [h] <;> omega
  have e9 : decide (p.n = 0) = true → decide (p.n < 0) = false ∧ decide (100 < p.n) = false := by simp only [decide_eq_true_eq, decide_eq_false_iff_not]; omega
  rw [e7, e8]
  revert e9
  generalize decide (takes p.kind < 0) = b1
  generalize decide (n < takes p.kind) = b2
  generalize decide (p.n < 0) = b3
  generalize decide (100 < p.n) = b4
  generalize decide (p.n = 0) = b5
  generalize decide (p.kind = 5) = b6
  generalize decide (p.kind = 0) = b7
  generalize noText p.text = b8
  cases b1 <;> cases b2 <;> cases b3 <;> cases b4 <;> cases b5 <;> cases b6 <;> cases b7 <;> cases b8 <;> simp
/-! ### Alike -/
def partEq (p q : PartT) : Bool := decide (p.kind = q.kind) && (decide (p.n = q.n) && (p.text.toList == q.text.toList))
end Go.Proofs.Ytagflbmonlaioaa.D
