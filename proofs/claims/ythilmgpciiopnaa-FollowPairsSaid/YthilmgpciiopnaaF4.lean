/- Contracts: bosketref21.Or. -/
import Derived.Test.YthilmgpciiopnaaF3
namespace Go.Proofs.Ythilmgpciiopnaa.F
open Go G U K
set_option linter.unusedVariables false
set_option linter.unusedSimpArgs false
set_option maxRecDepth 100000
set_option maxHeartbeats 4000000
/-- Where the union stands. -/
def OAt (a b : Nat) (l : List Bool) (i : Int) : Prop := 0 ≤ i ∧ i ≤ 64 ∧ l.length = 64 ∧ ∀ j : Nat, (j : Int) < i → l.getD j false = (a ||| b).testBit j
theorem oAt_zero (a b : Nat) : OAt a b (List.replicate 64 false) 0 := ⟨by omega, by omega, by simp, fun j h => by omega⟩
theorem hasN_at {s : Nat} {i : Int} (h0 : 0 ≤ i) (h1 : i < 64) : hasN s i = s.testBit i.toNat := by
  unfold hasN
  rw [decide_eq_true (by omega), Bool.true_and]
theorem oAt_step {a b : Nat} {l : List Bool} {i : Int} (h : OAt a b l i) (hc : decide (i < 64) = true) : OAt a b (l.set i.toNat (hasN a i || hasN b i)) (i + 1) ∧ U.left 64 (i + 1) < U.left 64 i ∧ arI .add .i64 i 1 = i + 1 ∧ 0 ≤ i ∧ i < 64 ∧ ∃ c, l[i.toNat]? = some c := by
  obtain ⟨h0, h1, h2, h3⟩ := h
  simp only [decide_eq_true_eq] at hc
  refine ⟨⟨by omega, by omega, by simpa using h2, fun j hj => ?_⟩, by unfold U.left; omega, ar_add64 (by omega) (by omega), h0, hc, _, List.getElem?_eq_getElem (show i.toNat < l.length by omega)⟩
  rw [List.getD_eq_getElem?_getD, List.getElem?_set]
  by_cases hji : i.toNat = j
  · rw [if_pos hji, if_pos (by omega), Option.getD_some, hasN_at h0 hc, hasN_at h0 hc, Nat.testBit_or, hji]
  · rw [if_neg hji, ← List.getD_eq_getElem?_getD]
    exact h3 j (by omega)
theorem oAt_end {a b : Nat} (ha : a < 18446744073709551616) (hb : b < 18446744073709551616) {l : List Bool} {i : Int} (h : OAt a b l i) (hc : decide (i < 64) = false) : setOf l = a ||| b ∧ l.length = 64 := by
  obtain ⟨h0, h1, h2, h3⟩ := h
  simp only [decide_eq_false_iff_not] at hc
  refine ⟨?_, h2⟩
  apply Nat.eq_of_testBit_eq
  intro j
  rw [testBit_setOf]
  by_cases hj : j < 64
  · exact h3 j (by omega)
  · rw [List.getD_eq_getElem?_getD, List.getElem?_eq_none (by omega), Option.getD_none]
    symm
    exact Nat.testBit_lt_two_pow (Nat.lt_of_lt_of_le (or_lt ha hb) (by
      have := Nat.pow_le_pow_right (n := 2) (by decide) (show 64 ≤ j by omega)
      simpa using this))
theorem or_calls (a b : Nat) (ha : a < 18446744073709551616) (hb : b < 18446744073709551616) : ACalls Try.prog 34 [uV a, uV b] (fun _ => uV (a ||| b)) (fun _ => []) := by
  have hcA := fun i => refHas_calls a ha i
  have hcB := fun i => refHas_calls b hb i
  have hcS := fun l (h : setOf l = a ||| b ∧ l.length = 64) => (h.1 ▸ set_calls l h.2 : ACalls Try.prog 50 [.ro (l.map boolC)] (fun _ => uV (a ||| b)) (fun _ => []))
  unfold uV at hcA hcB hcS ⊢
  generalize ((a ||| b : Nat) : Int) = z at hcS ⊢
  obtain ⟨ax, hax⟩ : ∃ x : Int, x = (a : Int) := ⟨_, rfl⟩
  obtain ⟨bx, hbx⟩ : ∃ x : Int, x = (b : Int) := ⟨_, rfl⟩
  rw [← hax] at hcA ⊢
  rw [← hbx] at hcB ⊢
  have hinit := oAt_zero a b
  generalize hl0 : List.replicate 64 false = l0 at hinit
  obtain ⟨X, hX⟩ : ∃ X, X = l0.map boolC := ⟨_, rfl⟩
  refine acalls_symF tabF_ok fn34 rfl rfl rfl (by kernel_rfl) ?_
  have hfin : ∀ st, resA Try.prog Try.f34 st = some (.flat (.int .u64 z)) → G.Leaves Try.prog Try.f34 (fun _ => .flat (.int .u64 z)) (fun _ => []) st := fun st h => G.Leaves.plain h rfl
  rintro ⟨lt, le, eq, se, ar, dv, una, conv, len, sln, nat, nth, ixs, cel, sto, app, cpy, slc, mak, ixv, oth, dk, ib, call⟩ hS hm Q hQ
  obtain ⟨hlt, hle, heq, hse, har, hdv, huna, hconv, hlen, hsln, hnat, hnth, hixs, hcel, hsto, happ, hcpy, hslc, hmak, hixv, hoth, hdk, hib, hcall⟩ := Sym.mk.inj hS
  clear hS
  have hnt : ∀ n : Nat, nat n = U.natI n := fun n => by rw [hnat]; rfl
  have hbox : ∀ e c off, cel (some ⟨e, [c]⟩) 0 off = if off ≤ c.length then some (c.drop off) else none := fun e c off => by rw [hcel]; rfl
  have hsbox : ∀ e c off sz y, sto (some ⟨e, [c]⟩) 0 off sz y = if y.cells.length = sz ∧ off + sz ≤ c.length ∧ y.cells.all AV.one = true then some ⟨e, [spl c off y.cells]⟩ else none := fun e c off sz y => by rw [hsto]; rfl
  have hcaw : ∀ {f args T base K}, CallK Try.prog f args T base K → call f args T base K := fun h => by rw [hcall]; exact h
  have hcal : ∀ {f args T base} {K : AV → Table → List Nat → List Nat → Prop}, (∃ args' ids val rows, Hands T ids args args' (val base) (rows base) ∧ ACalls Try.prog f args' val rows ∧ (rows base).length ≤ 8 ∧ K (val base) (adopt T base (rows base)) ids ((List.range (rows base).length).map (base + ·))) → call f args T base K := fun h => hcaw (call_own h)
  have hmk : ∀ T id, mak T id 50 (.flat (.int .i64 64)) (.flat (.int .i64 64)) = some (.sl id 0 64, T.set id (some ⟨4, X⟩)) := fun T id => by
    rw [hmak, hX, ← hl0]
    have := mak_zero (P := Try.prog) (T := T) (id := id) (t := 50) (e := 4) (z := .bool false) (sz := 1) (b := 1) (n := 64) (k := .i64) (k' := .i64) (by kernel_rfl) (by kernel_rfl) (by decide) rfl rfl (by decide) (by decide)
    rw [show zeroAV (.bool false) = [AV.flat (.bool false)] from rfl, rep_map] at this
    exact this
  cbv
  rw [hmk]; cbv
  refine MW_loop hm [8] [0, 1, 5, 6] 7 (by simp) (fun k st => ∃ (i : Int) (l : List Bool) (Y : List (List AV)), OAt a b l i ∧ Y = l.map boolC ∧ k = U.left 64 i ∧ st = stOf [.flat (.int .u64 ax), .flat (.int .u64 bx), .dead, .dead, .dead, .sl 0 0 64, .flat (.int .i64 i)] [some ⟨4, Y⟩] 1) (U.left 64 0) ?_ ?_
  · exact ⟨0, l0, X, hinit, hX, rfl, cut_eq (by cbv) (cutRows_cons (by rfl) (by rw [hX]; exact closed_map fun _ => rfl) rfl)⟩
  · rintro k st ⟨i, l, Y, hi, hY, hk, rfl⟩
    cbv
    cases hc : lt i 64
    · have hc' : decide (i < 64) = false := by rw [hlt] at hc; exact hc
      have hcS' := hcS l (oAt_end ha hb hi hc')
      have hYl : 64 = Y.length := by rw [hY, List.length_map]; exact hi.2.2.1.symm
      have hfY : flatRow Y := by rw [hY]; exact flat_bool _
      rw [← hY] at hcS'
      cbv
      refine hcal ⟨[.ro Y], [0], _, _, hands_deep ⟨deep_row (by simp) (by rfl) hYl hfY.read, trivial⟩ rfl (fun r hr => by cases hr), hcS', by simp, ?_⟩
      cbv
      exact hQ _ _ trivial (hfin _ (by cbv))
    · have hc' : decide (i < 64) = true := by rw [hlt] at hc; exact hc
      obtain ⟨q1, q2, q3, h0, h1, c, hg⟩ := oAt_step hi hc'
      rw [← har] at q3
      have hix : ∀ id, ixs (some ⟨4, Y⟩) id 0 64 i 1 = some (.ptr id i.toNat 0) := fun id => by rw [hixs]; exact own_ix c4 h0 h1 id
      have hst : ∀ v, sto (some ⟨4, Y⟩) i.toNat 0 1 (.flat (.bool v)) = some ⟨4, (l.set i.toNat v).map boolC⟩ := fun v => by
        rw [hsto, hY]
        exact own_sto hg v rfl (Nat.le_refl _) rfl rfl
      have hcA' := hcA i
      have hcB' := hcB i
      generalize i.toNat = j at hix hst q1
      generalize hasN a i = v at hcA' q1
      generalize hasN b i = w at hcB' q1
      generalize i + 1 = i2 at q1 q2 q3
      cbv
      refine hcal ⟨_, [], _, _, .inl ⟨rfl, by cbv⟩, hcA', by simp, ?_⟩
      cbv
      cases v
      · rw [Bool.false_or] at q1
        obtain ⟨l2, hl2⟩ : ∃ l2, l2 = l.set j w := ⟨_, rfl⟩
        obtain ⟨Y2, hY2⟩ : ∃ Y2, Y2 = (l.set j w).map boolC := ⟨_, rfl⟩
        have hst' := hst w
        rw [← hY2] at hst'
        rw [← hl2] at hY2 q1
        cbv
        refine hcal ⟨_, [], _, _, .inl ⟨rfl, by cbv⟩, hcB', by simp, ?_⟩
        cbv
        rw [hix]; cbv
        rw [hst']; cbv
        rw [q3]
        exact ⟨[0], [0, 1, 5, 6], 7, U.left 64 i2, hk ▸ q2, by simp, i2, l2, Y2, q1, hY2, rfl, cut_eq (by cbv) (cutRows_cons (by rfl) (by rw [hY2]; exact closed_map fun _ => rfl) rfl)⟩
      · rw [Bool.true_or] at q1
        obtain ⟨l2, hl2⟩ : ∃ l2, l2 = l.set j true := ⟨_, rfl⟩
        obtain ⟨Y2, hY2⟩ : ∃ Y2, Y2 = (l.set j true).map boolC := ⟨_, rfl⟩
        have hst' := hst true
        rw [← hY2] at hst'
        rw [← hl2] at hY2 q1
        cbv
        rw [hix]; cbv
        rw [hst']; cbv
        rw [q3]
        exact ⟨[0], [0, 1, 5, 6], 7, U.left 64 i2, hk ▸ q2, by simp, i2, l2, Y2, q1, hY2, rfl, cut_eq (by cbv) (cutRows_cons (by rfl) (by rw [hY2]; exact closed_map fun _ => rfl) rfl)⟩
end Go.Proofs.Ythilmgpciiopnaa.F
