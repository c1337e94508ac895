/- Contracts: bosketref21.Has, Set, Or, One. -/
import Derived.Test.YthilmgpciiopnaaF2
namespace Go.Proofs.Ythilmgpciiopnaa.F
open Go G U K
set_option linter.unusedVariables false
set_option linter.unusedSimpArgs false
set_option maxRecDepth 100000
set_option maxHeartbeats 4000000
theorem fn14 : Try.prog.funcs[14]? = some Try.f14 := by kernel_rfl
theorem fn50 : Try.prog.funcs[50]? = some Try.f50 := by kernel_rfl
theorem fn34 : Try.prog.funcs[34]? = some Try.f34 := by kernel_rfl
theorem fn16 : Try.prog.funcs[16]? = some Try.f16 := by kernel_rfl
theorem quo2 (a : Int) (h0 : 0 ≤ a) (h1 : a < 18446744073709551616) : dvOf Try.prog .quo 22 (.flat (.int .u64 a)) (.flat (.int .u64 2)) = some (.flat (.int .u64 (a / 2))) := by
  rw [dvOf_eq]
  intro x y
  have e : evPure Try.prog (Op.intDiv .quo .u64 a 2) = some (.int .u64 (IntKind.u64.wrap (a.tdiv 2))) := by
    unfold Op.intDiv
    rw [if_neg (by decide)]
    rfl
  have e2 : (evPure Try.prog (do eqGuard .quo 22 x y (.int .u64 a) (.int .u64 2); binOp .quo 22 (.int .u64 a) (.int .u64 2))) = some (.int .u64 (IntKind.u64.wrap (a.tdiv 2))) := e
  have e3 : IntKind.u64.wrap (a.tdiv 2) = a / 2 := by
    rw [Int.tdiv_eq_ediv_of_nonneg h0]
    show (a / 2) % 18446744073709551616 = _
    omega
  show evP Try.prog _ = _
  unfold evP
  rw [e2, e3]
  rfl
theorem rem2 (a : Int) (h0 : 0 ≤ a) (h1 : a < 18446744073709551616) : dvOf Try.prog .rem 22 (.flat (.int .u64 a)) (.flat (.int .u64 2)) = some (.flat (.int .u64 (a % 2))) := by
  rw [dvOf_eq]
  intro x y
  have e : evPure Try.prog (Op.intDiv .rem .u64 a 2) = some (.int .u64 (a.tmod 2)) := by
    unfold Op.intDiv
    rw [if_neg (by decide)]
    rfl
  have e2 : (evPure Try.prog (do eqGuard .rem 22 x y (.int .u64 a) (.int .u64 2); binOp .rem 22 (.int .u64 a) (.int .u64 2))) = some (.int .u64 (a.tmod 2)) := e
  show evP Try.prog _ = _
  unfold evP
  rw [e2, Int.tmod_eq_emod_of_nonneg h0]
  rfl
/-- Where the halving stands. -/
def HAt (s : Nat) (n i a : Int) : Prop := 0 ≤ i ∧ i ≤ n ∧ n ≤ 63 ∧ a = ((s / 2 ^ i.toNat : Nat) : Int)
theorem hAt_zero (s : Nat) {n : Int} (h0 : 0 ≤ n) (h1 : n ≤ 63) : HAt s n 0 s := ⟨by omega, h0, h1, by simp⟩
theorem hAt_range {s : Nat} (hs : s < 18446744073709551616) {n i a : Int} (h : HAt s n i a) : 0 ≤ a ∧ a < 18446744073709551616 := by
  obtain ⟨h0, h1, h2, h3⟩ := h
  have := Nat.div_le_self s (2 ^ i.toNat)
  generalize s / 2 ^ i.toNat = q at this h3
  omega
theorem hAt_step {s : Nat} {n i a : Int} (h : HAt s n i a) (hc : decide (i < n) = true) : HAt s n (i + 1) (a / 2) ∧ U.left n (i + 1) < U.left n i ∧ arI .add .i64 i 1 = i + 1 := by
  obtain ⟨h0, h1, h2, h3⟩ := h
  simp only [decide_eq_true_eq] at hc
  refine ⟨⟨by omega, by omega, h2, ?_⟩, by unfold U.left; omega, ar_add64 (by omega) (by omega)⟩
  have e : (i + 1).toNat = i.toNat + 1 := by omega
  rw [e, Nat.pow_succ, ← Nat.div_div_eq_div_mul, h3]
  omega
theorem hAt_end {s : Nat} {n i a : Int} (h : HAt s n i a) (hc : decide (i < n) = false) : decide (a % 2 = 1) = hasN s n := by
  obtain ⟨h0, h1, h2, h3⟩ := h
  simp only [decide_eq_false_iff_not] at hc
  have : i = n := by omega
  subst this
  unfold hasN
  rw [decide_eq_true (⟨h0, h2⟩ : 0 ≤ i ∧ i ≤ 63), Bool.true_and, Nat.testBit_eq_decide_div_mod_eq, h3]
  rw [decide_eq_decide]
  omega
theorem refHas_calls (s : Nat) (hs : s < 18446744073709551616) (n : Int) : ACalls Try.prog 14 [uV s, .flat (.int .i64 n)] (fun _ => .flat (.bool (hasN s n))) (fun _ => []) := by
  unfold uV
  have hend := fun i a (h : HAt s n i a) hc => hAt_end h hc
  have hlo : n < 0 → hasN s n = false := fun h => by
    unfold hasN
    rw [decide_eq_false (by omega)]; rfl
  have hhi : 63 < n → hasN s n = false := fun h => by
    unfold hasN
    rw [decide_eq_false (by omega)]; rfl
  have hz0 := @hAt_zero s n
  generalize hasN s n = z at hend hlo hhi ⊢
  generalize (s : Int) = a0 at hz0 ⊢
  refine acalls_symF tabF_ok fn14 rfl rfl rfl (by kernel_rfl) ?_
  have hfin : ∀ st, resA Try.prog Try.f14 st = some (.flat (.bool z)) → G.Leaves Try.prog Try.f14 (fun _ => .flat (.bool z)) (fun _ => []) st := fun st h => G.Leaves.plain h rfl
  rintro ⟨lt, le, eq, se, ar, dv, una, conv, len, sln, nat, nth, ixs, cel, sto, app, cpy, slc, mak, ixv, oth, dk, ib, call⟩ hS hm Q hQ
  obtain ⟨hlt, hle, heq, hse, har, hdv, huna, hconv, hlen, hsln, hnat, hnth, hixs, hcel, hsto, happ, hcpy, hslc, hmak, hixv, hoth, hdk, hib, hcall⟩ := Sym.mk.inj hS
  clear hS
  have hnt : ∀ n : Nat, nat n = U.natI n := fun n => by rw [hnat]; rfl
  have hbox : ∀ e c off, cel (some ⟨e, [c]⟩) 0 off = if off ≤ c.length then some (c.drop off) else none := fun e c off => by rw [hcel]; rfl
  have hsbox : ∀ e c off sz y, sto (some ⟨e, [c]⟩) 0 off sz y = if y.cells.length = sz ∧ off + sz ≤ c.length ∧ y.cells.all AV.one = true then some ⟨e, [spl c off y.cells]⟩ else none := fun e c off sz y => by rw [hsto]; rfl
  have hcaw : ∀ {f args T base K}, CallK Try.prog f args T base K → call f args T base K := fun h => by rw [hcall]; exact h
  have hcal : ∀ {f args T base} {K : AV → Table → List Nat → List Nat → Prop}, (∃ args' ids val rows, Hands T ids args args' (val base) (rows base) ∧ ACalls Try.prog f args' val rows ∧ (rows base).length ≤ 8 ∧ K (val base) (adopt T base (rows base)) ids ((List.range (rows base).length).map (base + ·))) → call f args T base K := fun h => hcaw (call_own h)
  cbv
  cases h1 : lt n 0
  · have h1' : ¬ n < 0 := by rw [hlt] at h1; exact of_decide_eq_false h1
    cbv
    cases h2 : lt 63 n
    · have h2' : ¬ 63 < n := by rw [hlt] at h2; exact of_decide_eq_false h2
      have hz := hz0 (Int.not_lt.1 h1') (Int.not_lt.1 h2')
      cbv
      refine MW_loop hm [] [0, 1, 5] 6 List.nodup_nil (fun k st => ∃ i a : Int, HAt s n i a ∧ k = U.left n i ∧ st = stOf [.flat (.int .u64 a), .flat (.int .i64 n), .dead, .dead, .dead, .flat (.int .i64 i)] [] 0) (U.left n 0) ?_ ?_
      · exact ⟨0, a0, hz, rfl, cut_eq (by cbv) (by cbv)⟩
      · rintro k st ⟨i, a, hi, hk, rfl⟩
        obtain ⟨ha0, ha1⟩ := hAt_range hs hi
        cbv
        cases hc : lt i n
        · have hc' : decide (i < n) = false := by rw [hlt] at hc; exact hc
          have hr : dv .rem 22 (.flat (.int .u64 a)) (.flat (.int .u64 2)) = some (.flat (.int .u64 (a % 2))) := by rw [hdv]; exact rem2 a ha0 ha1
          have he : eq (a % 2) 1 = z := by rw [heq]; exact hend i a hi hc'
          generalize a % 2 = r at hr he
          cbv
          rw [hr]; cbv
          rw [he]
          exact hQ _ _ trivial (hfin _ (by cbv))
        · have hc' : decide (i < n) = true := by rw [hlt] at hc; exact hc
          obtain ⟨q1, q2, q3⟩ := hAt_step hi hc'
          rw [← har] at q3
          have hq : dv .quo 22 (.flat (.int .u64 a)) (.flat (.int .u64 2)) = some (.flat (.int .u64 (a / 2))) := by rw [hdv]; exact quo2 a ha0 ha1
          generalize a / 2 = a2 at hq q1
          generalize i + 1 = i2 at q1 q2 q3
          cbv
          rw [hq]; cbv
          rw [q3]
          exact ⟨[], [0, 1, 5], 6, U.left n i2, hk ▸ q2, List.nodup_nil, i2, a2, q1, rfl, cut_eq (by cbv) (by cbv)⟩
    · have h2' : 63 < n := by rw [hlt] at h2; exact of_decide_eq_true h2
      cbv
      obtain rfl := hhi h2'
      exact hQ _ _ trivial (hfin _ (by cbv))
  · have h1' : n < 0 := by rw [hlt] at h1; exact of_decide_eq_true h1
    cbv
    obtain rfl := hlo h1'
    exact hQ _ _ trivial (hfin _ (by cbv))

/-- Truths as a number, the first one the lowest bit. -/
def setOf : List Bool → Nat
  | [] => 0
  | b :: l => b.toNat + 2 * setOf l
theorem setOf_lt (l : List Bool) : setOf l < 2 ^ l.length := by
  induction l with
  | nil => simp [setOf]
  | cons b l ih =>
    simp only [setOf, List.length_cons]
    have : b.toNat ≤ 1 := Bool.toNat_le b
    omega
theorem testBit_setOf (l : List Bool) (i : Nat) : (setOf l).testBit i = l.getD i false := by
  induction l generalizing i with
  | nil => simp [setOf]
  | cons b l ih =>
    cases i with
    | zero =>
      simp only [setOf, List.getD_cons_zero]
      rw [Nat.testBit_zero]
      cases b <;> simp <;> omega
    | succ i =>
      rw [Nat.testBit_succ]
      have : setOf (b :: l) / 2 = setOf l := by
        simp only [setOf]
        cases b <;> simp <;> omega
      rw [this, ih]
      rfl
theorem setOf_snoc (l : List Bool) (b : Bool) : setOf (l ++ [b]) = setOf l + b.toNat * 2 ^ l.length := by
  induction l with
  | nil => simp [setOf]
  | cons c l ih =>
    simp only [List.cons_append, setOf, ih, List.length_cons]
    rw [Nat.pow_succ]
    have : 2 * (b.toNat * 2 ^ l.length) = b.toNat * (2 ^ l.length * 2) := by
      rw [Nat.mul_comm 2, Nat.mul_assoc]
    omega
/-- Where the sum stands: what is summed, and the next weight. -/
def SAt (l : List Bool) (i o w : Int) : Prop := 0 ≤ i ∧ i ≤ 64 ∧ l.length = 64 ∧ o = (setOf (l.take i.toNat) : Int) ∧ w = ((2 ^ i.toNat % 18446744073709551616 : Nat) : Int)
theorem sAt_zero {l : List Bool} (h : l.length = 64) : SAt l 0 0 1 := ⟨by omega, by omega, h, rfl, rfl⟩
theorem sAt_end {l : List Bool} {i o w : Int} (h : SAt l i o w) (hc : decide (i < (l.length : Int)) = false) : o = setOf l := by
  obtain ⟨h0, h1, h2, h3, h4⟩ := h
  simp only [decide_eq_false_iff_not] at hc
  rw [h3, List.take_of_length_le (by omega)]
theorem sAt_in {l : List Bool} {i o w : Int} (h : SAt l i o w) (hc : decide (i < (l.length : Int)) = true) : 0 ≤ i ∧ i < l.length ∧ i < 64 := by
  obtain ⟨h0, h1, h2, h3, h4⟩ := h
  simp only [decide_eq_true_eq] at hc
  omega
theorem sAt_step {l : List Bool} {i o w : Int} (h : SAt l i o w) (hc : decide (i < (l.length : Int)) = true) :
    SAt l (i + 1) (if atI l i = true then arI .add .u64 o w else o) (arI .mul .u64 w 2) ∧ U.left 64 (i + 1) < U.left 64 i ∧ arI .add .i64 i 1 = i + 1 := by
  obtain ⟨hi0, hi1, hi2⟩ := sAt_in h hc
  obtain ⟨h0, h1, h2, h3, h4⟩ := h
  refine ⟨⟨by omega, by omega, h2, ?_, ?_⟩, by unfold U.left; omega, ar_add64 (by omega) (by omega)⟩
  · rw [take_next hi0 hi1, setOf_snoc, List.length_take, Nat.min_eq_left (by omega)]
    have hlt := setOf_lt (l.take i.toNat)
    rw [List.length_take, Nat.min_eq_left (by omega)] at hlt
    have hp : (2 : Nat) ^ i.toNat < 18446744073709551616 := by
      have := Nat.pow_lt_pow_right (a := 2) (by decide) (show i.toNat < 64 by omega)
      simpa using this
    have hp2 : (2 : Nat) ^ i.toNat * 2 ≤ 18446744073709551616 := by
      have := Nat.pow_le_pow_right (n := 2) (by decide) (show i.toNat + 1 ≤ 64 by omega)
      rw [Nat.pow_succ] at this
      simpa using this
    rw [Nat.mod_eq_of_lt hp] at h4
    cases hb : atI l i
    · simp [h3]
    · simp only [if_true, Bool.toNat_true, Nat.one_mul]
      show (o + w) % 18446744073709551616 = _
      rw [h3, h4]
      omega
  · have e : (i + 1).toNat = i.toNat + 1 := by omega
    show (w * 2) % 18446744073709551616 = _
    rw [e, Nat.pow_succ, h4]
    omega
theorem set_calls (l : List Bool) (hl : l.length = 64) : ACalls Try.prog 50 [.ro (l.map boolC)] (fun _ => uV (setOf l)) (fun _ => []) := by
  unfold uV
  obtain ⟨z, hz⟩ : ∃ z : Int, z = (setOf l : Int) := ⟨_, rfl⟩
  rw [← hz]
  obtain ⟨X, hX⟩ : ∃ X, X = l.map boolC := ⟨_, rfl⟩
  rw [← hX]
  refine acalls_symF tabF_ok fn50 rfl rfl rfl (by kernel_rfl) ?_
  have hfin : ∀ st, resA Try.prog Try.f50 st = some (.flat (.int .u64 z)) → G.Leaves Try.prog Try.f50 (fun _ => .flat (.int .u64 z)) (fun _ => []) st := fun st h => G.Leaves.plain h rfl
  rintro ⟨lt, le, eq, se, ar, dv, una, conv, len, sln, nat, nth, ixs, cel, sto, app, cpy, slc, mak, ixv, oth, dk, ib, call⟩ hS hm Q hQ
  obtain ⟨hlt, hle, heq, hse, har, hdv, huna, hconv, hlen, hsln, hnat, hnth, hixs, hcel, hsto, happ, hcpy, hslc, hmak, hixv, hoth, hdk, hib, hcall⟩ := Sym.mk.inj hS
  clear hS
  have hnt : ∀ n : Nat, nat n = U.natI n := fun n => by rw [hnat]; rfl
  have hbox : ∀ e c off, cel (some ⟨e, [c]⟩) 0 off = if off ≤ c.length then some (c.drop off) else none := fun e c off => by rw [hcel]; rfl
  have hsbox : ∀ e c off sz y, sto (some ⟨e, [c]⟩) 0 off sz y = if y.cells.length = sz ∧ off + sz ≤ c.length ∧ y.cells.all AV.one = true then some ⟨e, [spl c off y.cells]⟩ else none := fun e c off sz y => by rw [hsto]; rfl
  have hcaw : ∀ {f args T base K}, CallK Try.prog f args T base K → call f args T base K := fun h => by rw [hcall]; exact h
  have hcal : ∀ {f args T base} {K : AV → Table → List Nat → List Nat → Prop}, (∃ args' ids val rows, Hands T ids args args' (val base) (rows base) ∧ ACalls Try.prog f args' val rows ∧ (rows base).length ≤ 8 ∧ K (val base) (adopt T base (rows base)) ids ((List.range (rows base).length).map (base + ·))) → call f args T base K := fun h => hcaw (call_own h)
  have hn : len X = l.length := by rw [hlen, hX, len_map]
  cbv
  refine MW_loop hm [] [0, 3, 4, 5] 6 List.nodup_nil (fun k st => ∃ i o w : Int, SAt l i o w ∧ k = U.left 64 i ∧ st = stOf [.ro X, .dead, .dead, .flat (.int .u64 o), .flat (.int .u64 w), .flat (.int .i64 i)] [] 0) (U.left 64 0) ?_ ?_
  · exact ⟨0, 0, 1, sAt_zero hl, rfl, cut_eq (by cbv) (by cbv)⟩
  · rintro k st ⟨i, o, w, hi, hk, rfl⟩
    cbv
    cases hc : lt i (len X)
    · have hc' : decide (i < (l.length : Int)) = false := by rw [hlt, hn] at hc; exact hc
      have hoz : o = z := (sAt_end hi hc').trans hz.symm
      subst hoz
      cbv
      exact hQ _ _ trivial (hfin _ (by cbv))
    · have hc' : decide (i < (l.length : Int)) = true := by rw [hlt, hn] at hc; exact hc
      obtain ⟨h0, h1, h2⟩ := sAt_in hi hc'
      obtain ⟨q1, q2, q3⟩ := sAt_step hi hc'
      rw [← har] at q1 q3
      have h64 : lt i 64 = true := by rw [hlt]; exact decide_eq_true h2
      have hix : nth X i 1 = some (.rp [.flat (.bool (atI l i))]) := by rw [hnth, hX]; exact nth_map (fun _ => rfl) h0 h1
      generalize atI l i = b at hix q1
      generalize i + 1 = i2 at q1 q2 q3
      cbv
      rw [h64]; cbv
      rw [hix]; cbv
      cases b
      · cbv
        rw [q3]
        rw [if_neg (by decide)] at q1
        exact ⟨[], [0, 3, 4, 5], 6, U.left 64 i2, hk ▸ q2, List.nodup_nil, i2, o, _, q1, rfl, cut_eq (by cbv) (by cbv)⟩
      · cbv
        rw [q3]
        rw [if_pos rfl] at q1
        exact ⟨[], [0, 3, 4, 5], 6, U.left 64 i2, hk ▸ q2, List.nodup_nil, i2, _, _, q1, rfl, cut_eq (by cbv) (by cbv)⟩

theorem setOf_one (n : Int) (h0 : 0 ≤ n) (h : n < 64) : setOf ((List.replicate 64 false).set n.toNat true) = bitN n := by
  apply Nat.eq_of_testBit_eq
  intro i
  rw [testBit_setOf, List.getD_eq_getElem?_getD, List.getElem?_set]
  by_cases hi63 : i ≤ 63
  · rw [bit_test hi63]
    by_cases hi : n.toNat = i
    · rw [if_pos hi, if_pos (by simp; omega)]
      simp only [Option.getD_some]
      symm
      apply decide_eq_true
      omega
    · rw [if_neg hi, decide_eq_false (by omega), List.getElem?_replicate]
      split <;> rfl
  · have : (bitN n).testBit i = false := Nat.testBit_lt_two_pow (Nat.lt_of_lt_of_le (bitN_lt n) (by
      have := Nat.pow_le_pow_right (n := 2) (by decide) (show 64 ≤ i by omega)
      simpa using this))
    rw [this, if_neg (by omega), List.getElem?_replicate]
    split <;> rfl
theorem setOf_none : setOf (List.replicate 64 false) = 0 := by
  apply Nat.eq_of_testBit_eq
  intro i
  rw [testBit_setOf, Nat.zero_testBit, List.getD_eq_getElem?_getD, List.getElem?_replicate]
  split <;> rfl
theorem rep_map (n : Nat) : List.replicate n [AV.flat (.bool false)] = (List.replicate n false).map boolC := by simp [boolC]
theorem c4 : Try.prog.cellsOf 4 = 1 := by kernel_rfl
theorem one_calls (n : Int) : ACalls Try.prog 16 [.flat (.int .i64 n)] (fun _ => uV (bitN n)) (fun _ => []) := by
  have hcS1 := set_calls (List.replicate 64 false) (by simp)
  have hcS2 := fun h0 h => (setOf_one n h0 h) ▸ set_calls ((List.replicate 64 false).set n.toNat true) (by simp)
  have hlo : n < 0 → bitN n = 0 := fun h => by unfold bitN; rw [if_pos (.inl h)]
  have hhi : ¬ n < 64 → bitN n = 0 := fun h => by unfold bitN; rw [if_pos (by omega)]
  rw [setOf_none] at hcS1
  obtain ⟨X, hX⟩ : ∃ X, X = (List.replicate 64 false).map boolC := ⟨_, rfl⟩
  obtain ⟨Y, hY⟩ : ∃ Y, Y = ((List.replicate 64 false).set n.toNat true).map boolC := ⟨_, rfl⟩
  have hfX : flatRow X := by rw [hX]; exact flat_bool _
  have hfY : flatRow Y := by rw [hY]; exact flat_bool _
  have hXl : 64 = X.length := by rw [hX]; simp
  have hYl : 64 = Y.length := by rw [hY]; simp
  rw [← hX] at hcS1
  rw [← hY] at hcS2
  unfold uV at hcS1 hcS2 ⊢
  have hlo' : n < 0 → ((bitN n : Nat) : Int) = 0 := fun h => by rw [hlo h]; rfl
  have hhi' : ¬ n < 64 → ((bitN n : Nat) : Int) = 0 := fun h => by rw [hhi h]; rfl
  generalize ((bitN n : Nat) : Int) = z at hcS2 hlo' hhi' ⊢
  have hcS1 : ACalls Try.prog 50 [.ro X] (fun _ => .flat (.int .u64 0)) (fun _ => []) := hcS1
  refine acalls_symF tabF_ok fn16 rfl rfl rfl (by kernel_rfl) ?_
  have hfin : ∀ st, resA Try.prog Try.f16 st = some (.flat (.int .u64 z)) → G.Leaves Try.prog Try.f16 (fun _ => .flat (.int .u64 z)) (fun _ => []) st := fun st h => G.Leaves.plain h rfl
  rintro ⟨lt, le, eq, se, ar, dv, una, conv, len, sln, nat, nth, ixs, cel, sto, app, cpy, slc, mak, ixv, oth, dk, ib, call⟩ hS hm Q hQ
  obtain ⟨hlt, hle, heq, hse, har, hdv, huna, hconv, hlen, hsln, hnat, hnth, hixs, hcel, hsto, happ, hcpy, hslc, hmak, hixv, hoth, hdk, hib, hcall⟩ := Sym.mk.inj hS
  clear hS
  have hnt : ∀ n : Nat, nat n = U.natI n := fun n => by rw [hnat]; rfl
  have hbox : ∀ e c off, cel (some ⟨e, [c]⟩) 0 off = if off ≤ c.length then some (c.drop off) else none := fun e c off => by rw [hcel]; rfl
  have hsbox : ∀ e c off sz y, sto (some ⟨e, [c]⟩) 0 off sz y = if y.cells.length = sz ∧ off + sz ≤ c.length ∧ y.cells.all AV.one = true then some ⟨e, [spl c off y.cells]⟩ else none := fun e c off sz y => by rw [hsto]; rfl
  have hcaw : ∀ {f args T base K}, CallK Try.prog f args T base K → call f args T base K := fun h => by rw [hcall]; exact h
  have hcal : ∀ {f args T base} {K : AV → Table → List Nat → List Nat → Prop}, (∃ args' ids val rows, Hands T ids args args' (val base) (rows base) ∧ ACalls Try.prog f args' val rows ∧ (rows base).length ≤ 8 ∧ K (val base) (adopt T base (rows base)) ids ((List.range (rows base).length).map (base + ·))) → call f args T base K := fun h => hcaw (call_own h)
  have hmk : ∀ T id, mak T id 50 (.flat (.int .i64 64)) (.flat (.int .i64 64)) = some (.sl id 0 64, T.set id (some ⟨4, X⟩)) := fun T id => by
    rw [hmak, hX]
    have := mak_zero (P := Try.prog) (T := T) (id := id) (t := 50) (e := 4) (z := .bool false) (sz := 1) (b := 1) (n := 64) (k := .i64) (k' := .i64) (by kernel_rfl) (by kernel_rfl) (by decide) rfl rfl (by decide) (by decide)
    rw [show zeroAV (.bool false) = [AV.flat (.bool false)] from rfl, rep_map] at this
    exact this
  cbv
  rw [hmk]; cbv
  cases h1 : le 0 n
  · have h1' : n < 0 := by rw [hle] at h1; exact Int.not_le.1 (of_decide_eq_false h1)
    obtain rfl := hlo' h1'
    cbv
    refine hcal ⟨[.ro X], [8], _, _, hands_deep ⟨deep_row (by simp) (by rfl) hXl hfX.read, trivial⟩ rfl (fun r hr => by cases hr), hcS1, by simp, ?_⟩
    cbv
    exact hQ _ _ trivial (hfin _ (by cbv))
  · have h1' : 0 ≤ n := by rw [hle] at h1; exact of_decide_eq_true h1
    cbv
    cases h2 : lt n 64
    · have h2' : ¬ n < 64 := by rw [hlt] at h2; exact of_decide_eq_false h2
      obtain rfl := hhi' h2'
      cbv
      refine hcal ⟨[.ro X], [8], _, _, hands_deep ⟨deep_row (by simp) (by rfl) hXl hfX.read, trivial⟩ rfl (fun r hr => by cases hr), hcS1, by simp, ?_⟩
      cbv
      exact hQ _ _ trivial (hfin _ (by cbv))
    · have h2' : n < 64 := by rw [hlt] at h2; exact of_decide_eq_true h2
      have hix : ∀ id, ixs (some ⟨4, X⟩) id 0 64 n 1 = some (.ptr id n.toNat 0) := fun id => by rw [hixs]; exact own_ix c4 h1' h2' id
      have hst : sto (some ⟨4, X⟩) n.toNat 0 1 (.flat (.bool true)) = some ⟨4, Y⟩ := by
        rw [hsto, hX, hY]
        exact own_sto (x := false) (by rw [List.getElem?_replicate, if_pos (by omega)]) true rfl (by decide) rfl rfl
      have hcS2' := hcS2 h1' h2'
      generalize n.toNat = j at hix hst
      cbv
      rw [hix]; cbv
      rw [hst]; cbv
      refine hcal ⟨[.ro Y], [8], _, _, hands_deep ⟨deep_row (by simp) (by rfl) hYl hfY.read, trivial⟩ rfl (fun r hr => by cases hr), hcS2', by simp, ?_⟩
      cbv
      exact hQ _ _ trivial (hfin _ (by cbv))
end Go.Proofs.Ythilmgpciiopnaa.F
