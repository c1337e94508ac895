/- Plain law: a sort's tokens are those of its productions, together; fewer productions, fewer tokens. No program in sight. -/
import Derived.Test.YthilmgpciiopnaaF13
namespace Go.Proofs.Ythilmgpciiopnaa.F
open Go G U K
set_option linter.unusedVariables false
set_option linter.unusedSimpArgs false
set_option maxRecDepth 100000
set_option maxHeartbeats 4000000
variable {P P2 : List ProdT} {n : Nat}
theorem fst_row {i : Int} (hi : okI n i) (t : Nat) : (atI (firstT P n) i).testBit t = true ↔ ∃ p ∈ P, p.sort = i ∧ (rowT (emptyT P n) (firstT P n) p.body).1.testBit t = true := by
  obtain ⟨hE, hcE⟩ := empty_ok P n
  obtain ⟨hF, hcF⟩ := first_ok P n
  constructor
  · intro h
    have hf := hF.1.2 i t hi h
    cases hf with
    | tok p t pre post s hp hs hb h1 h2 h3 =>
      exact ⟨p, hp, rfl, (row1_iff hE.1 hF.1.1 t p.body).2 ⟨pre, s, post, hb, fun x hx => ⟨(h1 x hx).1, (h1 x hx).2.1, nul_in hcE (h1 x hx).2.2⟩, .inl ⟨h2, h3⟩⟩⟩
    | sort p t pre post s hp hs hb h1 h2 h3 h4 =>
      exact ⟨p, hp, rfl, (row1_iff hE.1 hF.1.1 t p.body).2 ⟨pre, s, post, hb, fun x hx => ⟨(h1 x hx).1, (h1 x hx).2.1, nul_in hcE (h1 x hx).2.2⟩, .inr ⟨h2, h3, fst_in hE hcE hF.1.1 hcF h4⟩⟩⟩
  · rintro ⟨p, hp, rfl, h⟩
    exact hcF p hp hi t h
theorem nul_row {i : Int} (hi : okI n i) : atI (emptyT P n) i = true ↔ ∃ p ∈ P, p.sort = i ∧ (rowT (emptyT P n) (firstT P n) p.body).2 = true := by
  obtain ⟨hE, hcE⟩ := empty_ok P n
  obtain ⟨hF, hcF⟩ := first_ok P n
  constructor
  · intro h
    cases hE.2 i hi h with
    | mk p hp hs h1 h2 =>
      exact ⟨p, hp, rfl, (row2_iff hE.1 hF.1.1 p.body).2 fun s hs' => ⟨(h1 s hs').1, (h1 s hs').2, nul_in hcE (h2 s hs')⟩⟩
  · rintro ⟨p, hp, rfl, h⟩
    exact hcE p hp hi ((row2_iff hE.1 hF.1.1 p.body).1 h)
/-- What a sort's productions have, together. -/
structure AS where
  set : Nat
  em : Bool
def accStep (E : List Bool) (F : List Nat) (s : Int) (a : AS) (p : ProdT) : AS := if p.sort = s then ⟨a.set ||| (rowT E F p.body).1, a.em || (rowT E F p.body).2⟩ else a
def accT (E : List Bool) (F : List Nat) (s : Int) (l : List ProdT) : AS := l.foldl (accStep E F s) ⟨0, false⟩
theorem acc_bit {E : List Bool} {F : List Nat} {s : Int} (t : Nat) : ∀ (l : List ProdT) (a : AS), (l.foldl (accStep E F s) a).set.testBit t = true ↔ a.set.testBit t = true ∨ ∃ p ∈ l, p.sort = s ∧ (rowT E F p.body).1.testBit t = true
  | [], a => by simp
  | p :: l, a => by
    rw [List.foldl_cons, acc_bit t l]
    unfold accStep
    by_cases h : p.sort = s
    · rw [if_pos h]
      simp only [Nat.testBit_or, Bool.or_eq_true, List.mem_cons, exists_eq_or_imp, h, true_and, or_assoc]
    · rw [if_neg h]
      simp only [List.mem_cons, exists_eq_or_imp, h, false_and, false_or]
theorem acc_em {E : List Bool} {F : List Nat} {s : Int} : ∀ (l : List ProdT) (a : AS), (l.foldl (accStep E F s) a).em = true ↔ a.em = true ∨ ∃ p ∈ l, p.sort = s ∧ (rowT E F p.body).2 = true
  | [], a => by simp
  | p :: l, a => by
    rw [List.foldl_cons, acc_em l]
    unfold accStep
    by_cases h : p.sort = s
    · rw [if_pos h]
      simp only [Bool.or_eq_true, List.mem_cons, exists_eq_or_imp, h, true_and, or_assoc]
    · rw [if_neg h]
      simp only [List.mem_cons, exists_eq_or_imp, h, false_and, false_or]
theorem acc_all {i : Int} (hi : okI n i) : (accT (emptyT P n) (firstT P n) i P).set = atI (firstT P n) i ∧ (accT (emptyT P n) (firstT P n) i P).em = atI (emptyT P n) i := by
  constructor
  · apply Nat.eq_of_testBit_eq
    intro t
    rw [Bool.eq_iff_iff, fst_row hi, accT, acc_bit]
    simp
  · rw [Bool.eq_iff_iff, nul_row hi, accT, acc_em]
    simp
theorem acc_lt {E : List Bool} {F : List Nat} (hF : Sets F) {s : Int} : ∀ (l : List ProdT) (a : AS), a.set < 18446744073709551616 → (l.foldl (accStep E F s) a).set < 18446744073709551616
  | [], a, h => h
  | p :: l, a, h => by
    rw [List.foldl_cons]
    refine acc_lt hF l _ ?_
    unfold accStep
    split
    · exact or_lt h (rowT_lt hF _)
    · exact h
theorem nul_mono (h : ∀ p ∈ P2, p ∈ P) {i : Int} (hn : Nul P2 n i) : Nul P n i := by
  induction hn with
  | mk p hp hs h1 h2 ih => exact .mk p (h p hp) hs h1 ih
theorem fst_mono (h : ∀ p ∈ P2, p ∈ P) {i : Int} {t : Nat} (hn : Fst P2 n i t) : Fst P n i t := by
  induction hn with
  | tok p t pre post s hp hs hb h1 h2 h3 => exact .tok p t pre post s (h p hp) hs hb (fun x hx => ⟨(h1 x hx).1, (h1 x hx).2.1, nul_mono h (h1 x hx).2.2⟩) h2 h3
  | sort p t pre post s hp hs hb h1 h2 h3 h4 ih => exact .sort p t pre post s (h p hp) hs hb (fun x hx => ⟨(h1 x hx).1, (h1 x hx).2.1, nul_mono h (h1 x hx).2.2⟩) h2 h3 ih
theorem less_first (h : ∀ p ∈ P2, p ∈ P) {i : Int} (hi : okI n i) : atI (firstT P2 n) i ||| atI (firstT P n) i = atI (firstT P n) i := by
  apply Nat.eq_of_testBit_eq
  intro t
  rw [Nat.testBit_or]
  cases h2 : (atI (firstT P2 n) i).testBit t
  · rfl
  · obtain ⟨hE, hcE⟩ := empty_ok P n
    obtain ⟨hF, hcF⟩ := first_ok P n
    rw [fst_in hE hcE hF.1.1 hcF (fst_mono h ((first_ok P2 n).1.1.2 i t hi h2))]
    rfl
theorem less_empty (h : ∀ p ∈ P2, p ∈ P) {i : Int} (hi : okI n i) (he : atI (emptyT P2 n) i = true) : atI (emptyT P n) i = true :=
  nul_in (empty_ok P n).2 (nul_mono h ((empty_ok P2 n).1.2 i hi he))
/-- All productions but one. -/
def butOne (P : List ProdT) (k : Nat) : List ProdT := P.take k ++ P.drop (k + 1)
theorem butOne_sub (k : Nat) : ∀ p ∈ butOne P k, p ∈ P := by
  intro p hp
  rcases List.mem_append.1 hp with h | h
  · exact List.mem_of_mem_take h
  · exact List.mem_of_mem_drop h
end Go.Proofs.Ythilmgpciiopnaa.F
