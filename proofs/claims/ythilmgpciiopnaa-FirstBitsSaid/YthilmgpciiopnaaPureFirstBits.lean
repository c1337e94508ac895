/- FirstBits: which numbers any bits are, and which bit any number is, is what the page says: for every 64-bit set and every int. No condition. -/
import Derived.Test.YthilmgpciiopnaaPFirstBitsx2
import Derived.Test.YthilmgpciiopnaaBits
namespace Go.Proofs.Ythilmgpciiopnaa.Pure
open Go.RowKit Go.Proofs.Ythilmgpciiopnaa.PFirstBits Go.Proofs.YthilmgpciiopnaaW.PrintWords Go.Proofs.YthilmgpciiopnaaW.PrintLast Go.Proofs.YthilmgpciiopnaaW.PrintMore
open Go.Proofs.Ythilmgpciiopnaa.Bits

theorem first_Bit_eq (n : Int) (h : n ≤ 9223372036854775807) : first_Bit.f n = some ((bit n : Nat) : Int) := by
  unfold first_Bit.f
  by_cases h0 : n < 0
  · rw [if_pos h0]; unfold bit; rw [if_neg (by omega)]; rfl
  · rw [if_neg h0]
    by_cases h1 : n > 63
    · rw [if_pos h1]; unfold bit; rw [if_neg (by omega)]; rfl
    · rw [if_neg h1, wrap_u64_of n (by omega) (by omega), if_pos (by omega)]
      unfold shl
      rw [shl_bit n (by omega) (by omega)]

theorem first_Has_eq (s : Nat) (hs : s < 18446744073709551616) (n : Int) (h : n ≤ 9223372036854775807) : first_Has.f (s : Int) n = some (has s n) := by
  unfold first_Has.f
  rw [first_Bit_eq n h]
  simp only [Option.bind_some]
  rw [u64_and_nat s (bit n) hs (bit_lt n), and_bit_ne]

theorem first_List_l0_eq (s : Nat) (hs : s < 18446744073709551616) (d : Nat) : ∀ (k : Nat) (xs : List Int) (i : Int), 0 ≤ i → 64 - i = d → xs.length ≤ i → d < k →
    first_List.l0 k (s : Int) xs i = some (xs ++ listFrom s d i) := by
  induction d with
  | zero =>
    intro k xs i h0 hd hx hk
    obtain ⟨k, rfl⟩ : ∃ m, k = m + 1 := ⟨k - 1, by omega⟩
    simp only [first_List.l0, listFrom, List.append_nil]
    rw [if_neg (by omega)]
  | succ d ih =>
    intro k xs i h0 hd hx hk
    obtain ⟨k, rfl⟩ : ∃ m, k = m + 1 := ⟨k - 1, by omega⟩
    simp only [first_List.l0, listFrom]
    rw [if_pos (by omega), first_Has_eq s hs i (by omega)]
    simp only [Option.bind_some]
    rw [wrap64_in (i + 1) (by omega) (by omega)]
    cases hb : has s i with
    | true =>
      simp only [if_true]
      rw [if_pos (by omega), ih k (xs ++ [i]) (i + 1) (by omega) (by omega) (by simp; omega) (by omega)]
      simp
    | false =>
      simp only [Bool.false_eq_true, if_false]
      rw [ih k xs (i + 1) (by omega) (by omega) (by omega) (by omega)]

theorem first_List_eq (s : Nat) (hs : s < 18446744073709551616) (k : Nat) (hk : 64 < k) : first_List.f k (s : Int) = some (listFrom s 64 0) := by
  unfold first_List.f
  rw [first_List_l0_eq s hs 64 k [] 0 (by omega) (by omega) (by simp) hk]
  simp

theorem refHas_l0_eq (d : Nat) : ∀ (k : Nat) (s : Nat) (n i : Int), s < 18446744073709551616 → 0 ≤ i → i ≤ n → n ≤ 63 → n - i = d → d < k →
    bosketref21_Has.l0 k (s : Int) n i = some ((((s / 2 ^ d : Nat) : Int) % 2) == 1) := by
  induction d with
  | zero =>
    intro k s n i hs h0 h1 h2 hd hk
    obtain ⟨k, rfl⟩ : ∃ m, k = m + 1 := ⟨k - 1, by omega⟩
    simp only [bosketref21_Has.l0]
    rw [if_neg (by omega), Int.tmod_eq_emod_of_nonneg (by omega)]
    simp
  | succ d ih =>
    intro k s n i hs h0 h1 h2 hd hk
    obtain ⟨k, rfl⟩ : ∃ m, k = m + 1 := ⟨k - 1, by omega⟩
    simp only [bosketref21_Has.l0]
    rw [if_pos (by omega), wrap64_in (i + 1) (by omega) (by omega)]
    have e : IntKind.u64.wrap (Int.tdiv (s : Int) 2) = ((s / 2 : Nat) : Int) := by
      rw [Int.tdiv_eq_ediv_of_nonneg (by omega), wrap_u64_of _ (by omega) (by omega)]
      omega
    rw [e, ih k (s / 2) n (i + 1) (by omega) (by omega) (by omega) (by omega) (by omega) (by omega), Nat.div_div_eq_div_mul, Nat.pow_succ, Nat.mul_comm 2]

theorem refHas_eq (k : Nat) (s : Nat) (hs : s < 18446744073709551616) (n : Int) (hk : 65 < k) : bosketref21_Has.f k (s : Int) n = some (has s n) := by
  unfold bosketref21_Has.f
  obtain ⟨k, rfl⟩ : ∃ m, k = m + 1 := ⟨k - 1, by omega⟩
  by_cases h0 : n < 0
  · rw [if_pos h0]
    simp only [bosketref21_Has.j0, if_true]
    unfold has
    rw [decide_eq_false (by omega), Bool.false_and]
  · rw [if_neg h0]
    by_cases h1 : n > 63
    · simp only [bosketref21_Has.j0, decide_eq_true h1, if_true]
      unfold has
      rw [decide_eq_false (by omega), Bool.false_and]
    · simp only [bosketref21_Has.j0, decide_eq_false h1, Bool.false_eq_true, if_false]
      rw [refHas_l0_eq n.toNat k s n 0 hs (by omega) (by omega) (by omega) (by omega) (by omega), has_div s n (by omega) (by omega)]

theorem refSet_l0_eq (l : List Bool) (hl : l.length ≤ 64) (d : Nat) : ∀ (k i : Nat), i + d = l.length → 2 * d + 1 < k →
    bosketref21_Set.l0 k l ((setOf (l.take i) : Nat) : Int) (IntKind.u64.wrap ((2 ^ i : Nat) : Int)) (i : Int) = some ((setOf l : Nat) : Int) := by
  induction d with
  | zero =>
    intro k i hi hk
    obtain ⟨k, rfl⟩ : ∃ m, k = m + 2 := ⟨k - 2, by omega⟩
    simp only [bosketref21_Set.l0]
    rw [if_neg (by omega)]
    simp only [bosketref21_Set.j1, Bool.false_eq_true, if_false]
    rw [List.take_of_length_le (by omega)]
  | succ d ih =>
    intro k i hi hk
    obtain ⟨k, rfl⟩ : ∃ m, k = m + 2 := ⟨k - 2, by omega⟩
    simp only [bosketref21_Set.l0]
    rw [if_pos (by omega), decide_eq_true (by omega : (i : Int) < 64)]
    simp only [bosketref21_Set.j1, if_true]
    rw [if_pos (by omega), if_pos (by omega)]
    have hp : (2 ^ i : Nat) < 2 ^ 64 := Nat.pow_lt_pow_right (by omega) (by omega)
    have hs := setOf_lt (l.take i)
    rw [List.length_take, Nat.min_eq_left (by omega)] at hs
    have hp2 : (2 ^ (i + 1) : Nat) ≤ 2 ^ 64 := Nat.pow_le_pow_right (by omega) (by omega)
    rw [Nat.pow_succ] at hp2
    have e1 : IntKind.u64.wrap ((2 ^ i : Nat) : Int) = ((2 ^ i : Nat) : Int) := wrap_u64_of _ (by omega) (by omega)
    have e2 : IntKind.u64.wrap (((2 ^ i : Nat) : Int) * 2) = IntKind.u64.wrap ((2 ^ (i + 1) : Nat) : Int) := by rw [Nat.pow_succ]; congr 1
    have e3 : wrap64 ((i : Int) + 1) = ((i + 1 : Nat) : Int) := by rw [wrap64_in _ (by omega) (by omega)]; omega
    have e4 : rdOf false l (i : Int) = l.getD i false := by unfold rdOf; simp
    have e5 := setOf_snoc (l.take i) (l.getD i false)
    rw [← take_snoc l i (by omega), List.length_take, Nat.min_eq_left (by omega)] at e5
    rw [e1, e2, e3, e4]
    have := ih k (i + 1) (by omega) (by omega)
    cases hb : l.getD i false with
    | true =>
      simp only [if_true]
      rw [hb] at e5
      rw [wrap_u64_of _ (by omega) (by omega)]
      rw [e5] at this
      simpa using this
    | false =>
      simp only [Bool.false_eq_true, if_false]
      rw [hb] at e5
      rw [e5] at this
      simpa using this

theorem refSet_eq (l : List Bool) (hl : l.length ≤ 64) (k : Nat) (hk : 129 < k) : bosketref21_Set.f k l = some ((setOf l : Nat) : Int) := by
  unfold bosketref21_Set.f
  exact refSet_l0_eq l hl l.length k 0 (by omega) (by omega)

theorem refOne_eq (n : Int) (k : Nat) (hk : 129 < k) : bosketref21_One.f k n = some ((bit n : Nat) : Int) := by
  unfold bosketref21_One.f
  rw [if_pos (by omega)]
  simp only [Option.bind_some]
  by_cases h0 : n ≥ 0
  · rw [if_pos h0]
    by_cases h1 : n < 64
    · rw [if_pos h1, if_pos h0, if_pos (by simp; omega), refSet_eq _ (by simp) k hk]
      simp only [Option.bind_some]
      rw [setOf_one n h0 (by omega)]
    · rw [if_neg h1, refSet_eq _ (by simp) k hk, setOf_none]
      simp only [Option.bind_some]
      unfold bit; rw [if_neg (by omega)]
  · rw [if_neg h0, refSet_eq _ (by simp) k hk, setOf_none]
    simp only [Option.bind_some]
    unfold bit; rw [if_neg (by omega)]

theorem law_l0_eq (s : Nat) (hs : s < 18446744073709551616) (n : Int) (hn : n ≤ 9223372036854775807) (d : Nat) : ∀ (k : Nat) (done : List Int) (i : Int), 0 ≤ i → 64 - i = d → done.length ≤ i → d + 130 < k →
    bosketlaw21_FirstBits.l0 k (s : Int) n (done ++ listFrom s d i) (done.length : Int) i = some true := by
  induction d with
  | zero =>
    intro k done i h0 hd hx hk
    obtain ⟨k, rfl⟩ : ∃ m, k = m + 1 := ⟨k - 1, by omega⟩
    simp only [bosketlaw21_FirstBits.l0]
    rw [if_neg (by omega), if_pos (by simp [listFrom]), first_Bit_eq n hn, refOne_eq n k (by omega), first_Has_eq s hs n hn, refHas_eq k s hs n (by omega)]
    simp
  | succ d ih =>
    intro k done i h0 hd hx hk
    obtain ⟨k, rfl⟩ : ∃ m, k = m + 1 := ⟨k - 1, by omega⟩
    simp only [bosketlaw21_FirstBits.l0]
    rw [if_pos (by omega), refHas_eq k s hs i (by omega)]
    simp only [Option.bind_some]
    rw [wrap64_in (i + 1) (by omega) (by omega)]
    cases hb : has s i with
    | true =>
      simp only [if_true, listFrom, hb]
      rw [if_neg (by simp; omega), if_pos (by omega), if_pos (by simp; omega)]
      have hr : rd (done ++ i :: listFrom s d (i + 1)) (done.length : Int) = i := by
        unfold rd
        rw [List.getD_eq_getElem?_getD]
        simp
      rw [if_pos hr, wrap64_in _ (by omega) (by omega)]
      have := ih k (done ++ [i]) (i + 1) (by omega) (by omega) (by simp; omega) (by omega)
      simpa using this
    | false =>
      simp only [Bool.false_eq_true, if_false, listFrom, hb]
      exact ih k done (i + 1) (by omega) (by omega) (by omega) (by omega)

theorem same_list : ∀ k, 5 < k → bosketref01_Same.f k [0, 2] [0, 2] = some true := by
  intro k hk
  obtain ⟨k, rfl⟩ : ∃ m, k = m + 3 := ⟨k - 3, by omega⟩
  simp [bosketref01_Same.f, bosketref01_Same.l0, rd, wrap64]

theorem awake_eq (k : Nat) (hk : 64 < k) : bosketlaw21_awake.f k = some true := by
  unfold bosketlaw21_awake.f
  rw [show (5 : Int) = ((5 : Nat) : Int) from rfl, first_List_eq 5 (by omega) k hk]
  simp only [Option.bind_some]
  rw [show listFrom 5 64 0 = [0, 2] by decide, same_list k (by omega)]
  rfl

theorem FirstBits : bosketlaw21_FirstBits.Pure := by
  intro a0 a1 w0 w1
  obtain ⟨s, rfl, hs⟩ := u64_of_wf w0
  obtain ⟨h1, h2⟩ := i64_of_wf w1
  refine ⟨195, ?_⟩
  unfold bosketlaw21_FirstBits.f
  rw [awake_eq 195 (by omega)]
  simp only [Option.bind_some, if_true]
  rw [first_List_eq s hs 195 (by omega)]
  simp only [Option.bind_some]
  exact law_l0_eq s hs a1 h2 64 195 [] 0 (by omega) (by omega) (by simp) (by omega)

end Go.Proofs.Ythilmgpciiopnaa.Pure
