/- Plain mathematics for sets of tokens told as 64 bits: a bit alone, 'is it there', a list of truths as a number, the union. -/
import Derived.Laws.BitsAllLaws
import Derived.RowKit
namespace Go.Proofs.Ythilmgpciiopnaa.Bits
open Go Go.RowKit

/-- A token's bit; none of one that there can't be. -/
def bit (n : Int) : Nat := if 0 ≤ n ∧ n ≤ 63 then 2 ^ n.toNat else 0
/-- Is a token's bit there? -/
def has (s : Nat) (n : Int) : Bool := decide (0 ≤ n ∧ n ≤ 63) && s.testBit n.toNat
/-- Truths as a number, the first one the lowest bit. -/
def setOf : List Bool → Nat
  | [] => 0
  | b :: l => b.toNat + 2 * setOf l

theorem bit_lt (n : Int) : bit n < 2 ^ 64 := by
  unfold bit
  split
  · exact Nat.pow_lt_pow_right (by omega) (by omega)
  · omega

theorem testBit_bit (n : Int) (i : Nat) : (bit n).testBit i = decide (0 ≤ n ∧ n ≤ 63 ∧ n = i) := by
  unfold bit
  split
  · rw [Nat.testBit_two_pow]
    apply decide_eq_decide.mpr
    omega
  · simp only [Nat.zero_testBit]
    symm
    apply decide_eq_false
    omega

theorem and_bit_ne (s : Nat) (n : Int) : ((((s &&& bit n : Nat) : Int)) != 0) = has s n := by
  unfold has
  by_cases h : 0 ≤ n ∧ n ≤ 63
  · rw [decide_eq_true h, Bool.true_and]
    cases hb : s.testBit n.toNat with
    | false =>
      have : s &&& bit n = 0 := by
        apply Nat.eq_of_testBit_eq
        intro i
        rw [Nat.testBit_and, testBit_bit, Nat.zero_testBit]
        by_cases hi : n = i
        · subst hi; simp at hb; simp [hb]
        · simp [hi]
      rw [this]; rfl
    | true =>
      rw [bne_iff_ne]
      intro h0
      have h1 : s &&& bit n = 0 := by omega
      have h2 : (s &&& bit n).testBit n.toNat = false := by rw [h1, Nat.zero_testBit]
      rw [Nat.testBit_and, hb, testBit_bit, Bool.true_and, decide_eq_false_iff_not] at h2
      omega
  · rw [decide_eq_false h, Bool.false_and]
    have : bit n = 0 := by unfold bit; rw [if_neg h]
    rw [this, Nat.and_zero]; rfl

theorem setOf_lt (l : List Bool) : setOf l < 2 ^ l.length := by
  induction l with
  | nil => simp [setOf]
  | cons b l ih =>
    simp only [setOf, List.length_cons]
    have : b.toNat ≤ 1 := Bool.toNat_le b
    omega

theorem testBit_setOf (l : List Bool) (i : Nat) : (setOf l).testBit i = l.getD i false := by
  induction l generalizing i with
  | nil => simp [setOf]
  | cons b l ih =>
    cases i with
    | zero =>
      simp only [setOf, List.getD_cons_zero]
      rw [Nat.testBit_zero]
      cases b <;> simp <;> omega
    | succ i =>
      rw [Nat.testBit_succ]
      have : setOf (b :: l) / 2 = setOf l := by
        simp only [setOf]
        cases b <;> simp <;> omega
      rw [this, ih]
      rfl

theorem setOf_snoc (l : List Bool) (b : Bool) : setOf (l ++ [b]) = setOf l + b.toNat * 2 ^ l.length := by
  induction l with
  | nil => simp [setOf]
  | cons c l ih =>
    simp only [List.cons_append, setOf, ih, List.length_cons]
    rw [Nat.pow_succ]
    have : 2 * (b.toNat * 2 ^ l.length) = b.toNat * (2 ^ l.length * 2) := by
      rw [Nat.mul_comm 2, Nat.mul_assoc]
    omega

theorem take_snoc (l : List Bool) (k : Nat) (h : k < l.length) : l.take (k + 1) = l.take k ++ [l.getD k false] := by
  rw [List.take_succ_eq_append_getElem h, List.getD_eq_getElem?_getD, List.getElem?_eq_getElem h]; rfl

/-- One truth alone. -/
theorem setOf_one (n : Int) (h0 : 0 ≤ n) (h : n ≤ 63) : setOf ((List.replicate 64 false).set n.toNat true) = bit n := by
  apply Nat.eq_of_testBit_eq
  intro i
  rw [testBit_setOf, testBit_bit, List.getD_eq_getElem?_getD, List.getElem?_set]
  by_cases hi : n.toNat = i
  · rw [if_pos hi, if_pos (by simp; omega)]
    simp only [Option.getD_some]
    symm
    apply decide_eq_true
    omega
  · rw [if_neg hi]
    have hne : ¬ (0 ≤ n ∧ n ≤ 63 ∧ n = (i : Int)) := by omega
    rw [decide_eq_false hne, List.getElem?_replicate]
    split <;> rfl

theorem setOf_none : setOf (List.replicate 64 false) = 0 := by
  apply Nat.eq_of_testBit_eq
  intro i
  rw [testBit_setOf, Nat.zero_testBit, List.getD_eq_getElem?_getD, List.getElem?_replicate]
  split <;> rfl

/-- The numbers that are there, from one on, below 64. -/
def listFrom (s : Nat) : Nat → Int → List Int
  | 0, _ => []
  | d + 1, i => if has s i then i :: listFrom s d (i + 1) else listFrom s d (i + 1)

theorem has_div (s : Nat) (n : Int) (h0 : 0 ≤ n) (h : n ≤ 63) : ((((s / 2 ^ n.toNat : Nat) : Int) % 2) == 1) = has s n := by
  unfold has
  rw [decide_eq_true (⟨h0, h⟩ : 0 ≤ n ∧ n ≤ 63), Bool.true_and, Nat.testBit_eq_decide_div_mod_eq]
  rw [Bool.eq_iff_iff, beq_iff_eq, decide_eq_true_iff]
  omega

theorem wrap_u64_of (x : Int) (h0 : 0 ≤ x) (h : x < 18446744073709551616) : IntKind.u64.wrap x = x := by
  simp only [IntKind.wrap, IntKind.bits, IntKind.signed, Bool.false_and]
  show (if (false : Bool) = true then _ else _) = _
  rw [if_neg (by decide)]
  omega

theorem shl_bit (n : Int) (h0 : 0 ≤ n) (h : n ≤ 63) : IntKind.u64.wrap (1 * 2 ^ min n.toNat IntKind.u64.bits) = ((bit n : Nat) : Int) := by
  have hb : bit n = 2 ^ n.toNat := by unfold bit; rw [if_pos ⟨h0, h⟩]
  have hl := bit_lt n
  have h1 : min n.toNat IntKind.u64.bits = n.toNat := by
    apply Nat.min_eq_left
    show n.toNat ≤ 64
    omega
  rw [h1]
  have h2 : (1 * 2 ^ n.toNat : Int) = ((2 ^ n.toNat : Nat) : Int) := by simp
  rw [h2, ← hb]
  exact wrap_u64_of _ (by omega) (by omega)

theorem wrap64_in (x : Int) (h0 : -9223372036854775808 ≤ x) (h : x ≤ 9223372036854775807) : wrap64 x = x := by
  unfold wrap64; omega

theorem u64_of_wf {x : Int} (h : (Lit.int .u64 x).wf = true) : ∃ n : Nat, x = n ∧ n < 18446744073709551616 := by
  simp [Lit.wf, IntKind.min, IntKind.max, IntKind.bits, IntKind.signed] at h
  exact ⟨x.toNat, by omega, by omega⟩
theorem i64_of_wf {x : Int} (h : (Lit.int .i64 x).wf = true) : -9223372036854775808 ≤ x ∧ x ≤ 9223372036854775807 := by
  simp [Lit.wf, IntKind.min, IntKind.max, IntKind.bits, IntKind.signed] at h
  omega
end Go.Proofs.Ythilmgpciiopnaa.Bits
