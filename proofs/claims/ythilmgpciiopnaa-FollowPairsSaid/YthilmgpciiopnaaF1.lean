/- Sets as numbers; contracts: first.Bit, first.Has. -/
import Derived.Test.YthilmgpciiopnaaU1
import Derived.Test.YthilmgpciiopnaaK1
import Derived.Test.YthilmgpciiopnaaK0
namespace Go.Proofs.Ythilmgpciiopnaa.F
open Go G U K
set_option linter.unusedVariables false
set_option linter.unusedSimpArgs false
set_option maxRecDepth 100000
set_option maxHeartbeats 4000000
theorem fn15 : Try.prog.funcs[15]? = some Try.f15 := by kernel_rfl
theorem fn17 : Try.prog.funcs[17]? = some Try.f17 := by kernel_rfl
/-- A set's number. -/
def bitN (n : Int) : Nat := if n < 0 ∨ 63 < n then 0 else 2 ^ n.toNat
theorem conv71 (n : Int) (h0 : 0 ≤ n) (h1 : n ≤ 63) : evP Try.prog (convert 3 71 (.int .i64 n)) = some (.flat (.int .u64 n)) := by
  have h : evP Try.prog (convert 3 71 (.int .i64 n)) = some (.flat (.int .u64 (IntKind.u64.wrap n))) := by kernel_rfl
  rw [h]
  have : IntKind.u64.wrap n = n := by
    show n % 18446744073709551616 = n
    omega
  rw [this]
theorem bit_lt {k : Nat} (h : k ≤ 63) : (2 : Nat) ^ k < 18446744073709551616 := by
  have := Nat.pow_lt_pow_right (a := 2) (by decide) (show k < 64 by omega)
  simpa using this
theorem shl1 (n : Int) (h0 : 0 ≤ n) (h1 : n ≤ 63) : dvOf Try.prog .shl 22 (.flat (.int .u64 1)) (.flat (.int .u64 n)) = some (.flat (.int .u64 ((bitN n : Nat) : Int))) := by
  rw [dvOf_eq]
  intro x y
  have e : evPure Try.prog (Op.shift .shl .u64 1 .u64 n) = some (.int .u64 (IntKind.u64.wrap (1 * 2 ^ min n.toNat 64))) := by
    unfold Op.shift
    rw [if_neg (by omega)]
    rfl
  have e2 : (evPure Try.prog (do eqGuard .shl 22 x y (.int .u64 1) (.int .u64 n); binOp .shl 22 (.int .u64 1) (.int .u64 n))) = some (.int .u64 (IntKind.u64.wrap (1 * 2 ^ min n.toNat 64))) := e
  have e3 : IntKind.u64.wrap (1 * 2 ^ min n.toNat 64) = ((bitN n : Nat) : Int) := by
    have hk : n.toNat ≤ 63 := by omega
    rw [Nat.min_eq_left (by omega), bitN, if_neg (by omega), Int.one_mul]
    show (2 ^ n.toNat : Int) % 18446744073709551616 = _
    have := bit_lt hk
    have e4 : ((2 ^ n.toNat : Nat) : Int) = (2 : Int) ^ n.toNat := by simp
    rw [← e4]
    generalize (2 ^ n.toNat : Nat) = q at this ⊢
    omega
  show evP Try.prog _ = _
  unfold evP
  rw [e2, e3]
  rfl
/-- A number of a set, in its slot. -/
def uV (n : Nat) : AV := .flat (.int .u64 (n : Int))
theorem bitN_lt (n : Int) : bitN n < 18446744073709551616 := by
  unfold bitN
  split
  · decide
  · exact bit_lt (by omega)
theorem bit_calls (n : Int) : ACalls Try.prog 15 [.flat (.int .i64 n)] (fun _ => uV (bitN n)) (fun _ => []) := by
  unfold uV
  obtain ⟨z, hz⟩ : ∃ z : Int, z = (bitN n : Int) := ⟨_, rfl⟩
  rw [← hz]
  refine acalls_symF tabF_ok fn15 rfl rfl rfl (by kernel_rfl) ?_
  have hfin : ∀ st, resA Try.prog Try.f15 st = some (.flat (.int .u64 z)) → G.Leaves Try.prog Try.f15 (fun _ => .flat (.int .u64 z)) (fun _ => []) st := fun st h => G.Leaves.plain h rfl
  rintro ⟨lt, le, eq, se, ar, dv, una, conv, len, sln, nat, nth, ixs, cel, sto, app, cpy, slc, mak, ixv, oth, dk, ib, call⟩ hS hm Q hQ
  obtain ⟨hlt, hle, heq, hse, har, hdv, huna, hconv, hlen, hsln, hnat, hnth, hixs, hcel, hsto, happ, hcpy, hslc, hmak, hixv, hoth, hdk, hib, hcall⟩ := Sym.mk.inj hS
  clear hS
  have hnt : ∀ n : Nat, nat n = U.natI n := fun n => by rw [hnat]; rfl
  have hbox : ∀ e c off, cel (some ⟨e, [c]⟩) 0 off = if off ≤ c.length then some (c.drop off) else none := fun e c off => by rw [hcel]; rfl
  have hsbox : ∀ e c off sz y, sto (some ⟨e, [c]⟩) 0 off sz y = if y.cells.length = sz ∧ off + sz ≤ c.length ∧ y.cells.all AV.one = true then some ⟨e, [spl c off y.cells]⟩ else none := fun e c off sz y => by rw [hsto]; rfl
  have hcaw : ∀ {f args T base K}, CallK Try.prog f args T base K → call f args T base K := fun h => by rw [hcall]; exact h
  have hcal : ∀ {f args T base} {K : AV → Table → List Nat → List Nat → Prop}, (∃ args' ids val rows, Hands T ids args args' (val base) (rows base) ∧ ACalls Try.prog f args' val rows ∧ (rows base).length ≤ 8 ∧ K (val base) (adopt T base (rows base)) ids ((List.range (rows base).length).map (base + ·))) → call f args T base K := fun h => hcaw (call_own h)
  cbv
  cases h1 : lt n 0
  · have h1' : ¬ n < 0 := by rw [hlt] at h1; exact of_decide_eq_false h1
    cbv
    cases h2 : lt 63 n
    · have h2' : ¬ 63 < n := by rw [hlt] at h2; exact of_decide_eq_false h2
      have hc : conv (fun x => none) 3 71 (.flat (.int .i64 n)) = some (.flat (.int .u64 n)) := by rw [hconv]; exact conv71 n (Int.not_lt.1 h1') (Int.not_lt.1 h2')
      have hs : dv .shl 22 (.flat (.int .u64 1)) (.flat (.int .u64 n)) = some (.flat (.int .u64 z)) := by rw [hdv, hz]; exact shl1 n (Int.not_lt.1 h1') (Int.not_lt.1 h2')
      cbv
      rw [hc]; cbv
      rw [hs]; cbv
      exact hQ _ _ trivial (hfin _ (by cbv))
    · have h2' : 63 < n := by rw [hlt] at h2; exact of_decide_eq_true h2
      cbv
      obtain rfl : z = 0 := by rw [hz, bitN, if_pos (.inr h2')]; rfl
      exact hQ _ _ trivial (hfin _ (by cbv))
  · have h1' : n < 0 := by rw [hlt] at h1; exact of_decide_eq_true h1
    cbv
    obtain rfl : z = 0 := by rw [hz, bitN, if_pos (.inl h1')]; rfl
    exact hQ _ _ trivial (hfin _ (by cbv))

theorem and_u {a b : Nat} (ha : a < 18446744073709551616) (hb : b < 18446744073709551616) : arI .and .u64 a b = ((a &&& b : Nat) : Int) := by
  show IntKind.u64.wrap ((BitVec.ofInt 64 a &&& BitVec.ofInt 64 b).toNat : Nat) = _
  have h : (BitVec.ofInt 64 (a : Int) &&& BitVec.ofInt 64 (b : Int)).toNat = a &&& b := by
    rw [BitVec.toNat_and]
    simp only [BitVec.toNat_ofInt]
    congr 1 <;> omega
  rw [h]
  show ((a &&& b : Nat) : Int) % 18446744073709551616 = _
  have := Nat.and_le_left (n := a) (m := b)
  omega
theorem or_lt {a b : Nat} (ha : a < 18446744073709551616) (hb : b < 18446744073709551616) : a ||| b < 18446744073709551616 := Nat.or_lt_two_pow (n := 64) ha hb
theorem or_u {a b : Nat} (ha : a < 18446744073709551616) (hb : b < 18446744073709551616) : arI .or .u64 a b = ((a ||| b : Nat) : Int) := by
  show IntKind.u64.wrap ((BitVec.ofInt 64 a ||| BitVec.ofInt 64 b).toNat : Nat) = _
  have h : (BitVec.ofInt 64 (a : Int) ||| BitVec.ofInt 64 (b : Int)).toNat = a ||| b := by
    rw [BitVec.toNat_or]
    simp only [BitVec.toNat_ofInt]
    congr 1 <;> omega
  rw [h]
  show ((a ||| b : Nat) : Int) % 18446744073709551616 = _
  have := or_lt ha hb
  omega
theorem bit_test {k : Nat} (h : k ≤ 63) (n : Int) : (bitN n).testBit k = decide (n = k) := by
  unfold bitN
  split
  · rw [Nat.zero_testBit]
    symm
    simp only [decide_eq_false_iff_not]
    omega
  · rw [Nat.testBit_two_pow]
    have : n.toNat = k ↔ n = k := by omega
    simp [this]
theorem and_bit (s : Nat) (n : Int) : decide (((s &&& bitN n : Nat) : Int) = 0) = !(decide (0 ≤ n ∧ n ≤ 63) && s.testBit n.toNat) := by
  by_cases h : 0 ≤ n ∧ n ≤ 63
  · have e : bitN n = 2 ^ n.toNat := by unfold bitN; rw [if_neg (by omega)]
    rw [e]
    simp only [h, and_self, decide_true, Bool.true_and]
    cases ht : s.testBit n.toNat
    · have : s &&& 2 ^ n.toNat = 0 := by
        apply Nat.eq_of_testBit_eq
        intro i
        rw [Nat.testBit_and, Nat.testBit_two_pow, Nat.zero_testBit]
        by_cases hi : n.toNat = i
        · subst hi; simp [ht]
        · simp [hi]
      simp [this]
    · have : s &&& 2 ^ n.toNat ≠ 0 := by
        intro h0
        have := congrArg (Nat.testBit · n.toNat) h0
        simp [Nat.testBit_and, ht] at this
      simp; omega
  · have e : bitN n = 0 := by unfold bitN; rw [if_pos (by omega)]
    rw [e, Nat.and_zero]
    simp [h]
/-- Is it there? -/
def hasN (s : Nat) (n : Int) : Bool := decide (0 ≤ n ∧ n ≤ 63) && s.testBit n.toNat
theorem has_calls (s : Nat) (hs : s < 18446744073709551616) (n : Int) : ACalls Try.prog 17 [uV s, .flat (.int .i64 n)] (fun _ => .flat (.bool (hasN s n))) (fun _ => []) := by
  have hb := and_bit s n
  have ha := and_u hs (bitN_lt n)
  have hcB := bit_calls n
  unfold uV at hcB ⊢
  rw [show (!(decide (0 ≤ n ∧ n ≤ 63) && s.testBit n.toNat)) = !hasN s n from rfl] at hb
  generalize hasN s n = z at hb ⊢
  generalize ((s &&& bitN n : Nat) : Int) = c at ha hb
  generalize ((bitN n : Nat) : Int) = b at ha hcB
  generalize (s : Int) = a at ha ⊢
  refine acalls_symF tabF_ok fn17 rfl rfl rfl (by kernel_rfl) ?_
  have hfin : ∀ st, resA Try.prog Try.f17 st = some (.flat (.bool z)) → G.Leaves Try.prog Try.f17 (fun _ => .flat (.bool z)) (fun _ => []) st := fun st h => G.Leaves.plain h rfl
  rintro ⟨lt, le, eq, se, ar, dv, una, conv, len, sln, nat, nth, ixs, cel, sto, app, cpy, slc, mak, ixv, oth, dk, ib, call⟩ hS hm Q hQ
  obtain ⟨hlt, hle, heq, hse, har, hdv, huna, hconv, hlen, hsln, hnat, hnth, hixs, hcel, hsto, happ, hcpy, hslc, hmak, hixv, hoth, hdk, hib, hcall⟩ := Sym.mk.inj hS
  clear hS
  have hnt : ∀ n : Nat, nat n = U.natI n := fun n => by rw [hnat]; rfl
  have hbox : ∀ e c off, cel (some ⟨e, [c]⟩) 0 off = if off ≤ c.length then some (c.drop off) else none := fun e c off => by rw [hcel]; rfl
  have hsbox : ∀ e c off sz y, sto (some ⟨e, [c]⟩) 0 off sz y = if y.cells.length = sz ∧ off + sz ≤ c.length ∧ y.cells.all AV.one = true then some ⟨e, [spl c off y.cells]⟩ else none := fun e c off sz y => by rw [hsto]; rfl
  have hcaw : ∀ {f args T base K}, CallK Try.prog f args T base K → call f args T base K := fun h => by rw [hcall]; exact h
  have hcal : ∀ {f args T base} {K : AV → Table → List Nat → List Nat → Prop}, (∃ args' ids val rows, Hands T ids args args' (val base) (rows base) ∧ ACalls Try.prog f args' val rows ∧ (rows base).length ≤ 8 ∧ K (val base) (adopt T base (rows base)) ids ((List.range (rows base).length).map (base + ·))) → call f args T base K := fun h => hcaw (call_own h)
  have ha' : ar .and .u64 a b = c := by rw [har]; exact ha
  have he : eq c 0 = !z := by rw [heq]; exact hb
  cbv
  refine hcal ⟨_, [], _, _, .inl ⟨rfl, by cbv⟩, hcB, by simp, ?_⟩
  cbv
  rw [ha', he]
  cases z <;> exact hQ _ _ trivial (hfin _ (by cbv))
end Go.Proofs.Ythilmgpciiopnaa.F
