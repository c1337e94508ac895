/- Contracts: rows of items, alike?; items of another type; the example. -/
import Derived.Test.YtnceadbfgpiaaaaJ2
namespace Go.Proofs.Ytnceadbfgpiaaaa.J
open Go G U K I
set_option linter.unusedVariables false
set_option linter.unusedSimpArgs false
set_option maxRecDepth 100000
set_option maxHeartbeats 4000000
theorem fn33 : Try.prog.funcs[33]? = some Try.f33 := by kernel_rfl
theorem fn13 : Try.prog.funcs[13]? = some Try.f13 := by kernel_rfl
theorem fn10 : Try.prog.funcs[10]? = some Try.f10 := by kernel_rfl
theorem fn11 : Try.prog.funcs[11]? = some Try.f11 := by kernel_rfl
theorem fn8 : Try.prog.funcs[8]? = some Try.f8 := by kernel_rfl
theorem fn7 : Try.prog.funcs[7]? = some Try.f7 := by kernel_rfl
theorem u30 : Try.prog.underlying 30 = some (.slice 41) := by kernel_rfl
theorem z41 : tinfo Try.prog 41 = some (some (.agg #[.int .i64 0, .int .i64 0, .int .u64 0]), 3, 24) := by kernel_rfl
theorem c41 : Try.prog.cellsOf 41 = 3 := by kernel_rfl
theorem int_beq (a b : Int) : (a == b) = decide (a = b) := by
  rw [Bool.eq_iff_iff]; simp
theorem item_eq (x y : ItemT) : (x.prod == y.prod && (x.dot == y.dot && ((x.look : Int) == (y.look : Int) && true))) = decide (x = y) := by
  obtain ⟨a, b, c⟩ := x; obtain ⟨a', b', c'⟩ := y
  rw [Bool.eq_iff_iff]
  simp only [Bool.and_true, Bool.and_eq_true, beq_iff_eq, decide_eq_true_iff, ItemT.mk.injEq]
  omega
theorem neq28 (x y : ItemT) : dvOf Try.prog .neq 28 (.agg (itemC x)) (.agg (itemC y)) = some (.flat (.bool (!decide (x = y)))) := by
  rw [dvOf_eq]
  intro p q
  have h : evBin Try.prog .neq 28 p q (.agg (itemC x)) (.agg (itemC y)) = some (.flat (.bool (!(x.prod == y.prod && (x.dot == y.dot && ((x.look : Int) == (y.look : Int) && true)))))) := by kernel_rfl
  rw [h, item_eq]
theorem neq41 (x y : ItemT) : dvOf Try.prog .neq 41 (.agg (itemC x)) (.agg (itemC y)) = some (.flat (.bool (!decide (x = y)))) := by
  rw [dvOf_eq]
  intro p q
  have h : evBin Try.prog .neq 41 p q (.agg (itemC x)) (.agg (itemC y)) = some (.flat (.bool (!(x.prod == y.prod && (x.dot == y.dot && ((x.look : Int) == (y.look : Int) && true)))))) := by kernel_rfl
  rw [h, item_eq]
/-! ### Alike, so far -/
def EqAt {α : Type} (a b : List α) (i : Int) : Prop := At a i ∧ a.length = b.length ∧ a.take i.toNat = b.take i.toNat
section
variable {α : Type} [Inhabited α] {a b : List α} {i : Int}
theorem eqAt_zero (h : a.length = b.length) : EqAt a b 0 := ⟨at_zero a, h, rfl⟩
theorem eqAt_end (h : EqAt a b i) (hc : decide (i < (a.length : Int)) = false) : a = b := by
  obtain ⟨h1, h2, h3⟩ := h
  rw [take_end h1 hc, take_end ⟨h1.1, by rw [← h2]; exact h1.2⟩ (by rw [← h2]; exact hc)] at h3
  exact h3
theorem eqAt_step (h : EqAt a b i) (hc : decide (i < (a.length : Int)) = true) (he : atI a i = atI b i) : EqAt a b (i + 1) := by
  obtain ⟨h1, h2, h3⟩ := h
  obtain ⟨_, h0, h4⟩ := at_lt h1 hc
  exact ⟨(at_step h1 hc).1, h2, by rw [take_next h0 h4, take_next h0 (by rw [← h2]; exact h4), h3, he]⟩
end
theorem eqAt_off {α : Type} [Inhabited α] {a b : List α} {i : Int} (he : ¬ atI a i = atI b i) : a ≠ b := fun h => he (by rw [h])

theorem equal_calls (a b : List ItemT) (hn : a.length ≤ 1000000) : ACalls Try.prog 33 [.ro (a.map itemC), .ro (b.map itemC)] (fun _ => .flat (.bool (decide (a = b)))) (fun _ => []) := by
  obtain ⟨r, hr⟩ : ∃ r, r = decide (a = b) := ⟨_, rfl⟩
  have hlen0 : a.length ≠ b.length → r = false := fun h => by rw [hr]; exact decide_eq_false fun e => h (by rw [e])
  have hend : ∀ i, EqAt a b i → decide (i < (a.length : Int)) = false → r = true := fun i h hc => by rw [hr]; exact decide_eq_true (eqAt_end h hc)
  have hstep : ∀ i, EqAt a b i → decide (i < (a.length : Int)) = true → ∃ x y : ItemT, nthE (a.map itemC) i 3 = some (.rp (itemC x)) ∧ nthE (b.map itemC) i 3 = some (.rp (itemC y)) ∧ dvOf Try.prog .neq 28 (.agg (itemC x)) (.agg (itemC y)) = some (.flat (.bool (!decide (x = y)))) ∧ (decide (x = y) = true → EqAt a b (i + 1)) ∧ (decide (x = y) = false → r = false) ∧ arI .add .i64 i 1 = i + 1 ∧ (a.length - (i + 1).toNat < a.length - i.toNat) := fun i h hc => by
    obtain ⟨_, h0, h1⟩ := at_lt h.1 hc
    refine ⟨_, _, nth_map (fun _ => rfl) h0 h1, nth_map (fun _ => rfl) h0 (by rw [← h.2.1]; exact h1), neq28 _ _, fun e => eqAt_step h hc (of_decide_eq_true e), fun e => ?_, ar_add64 (by omega) (by omega), by omega⟩
    rw [hr]; exact decide_eq_false (eqAt_off (of_decide_eq_false e))
  have hz : a.length = b.length → EqAt a b 0 := eqAt_zero
  rw [← hr]
  clear hr
  obtain ⟨X, hX⟩ : ∃ X, X = a.map itemC := ⟨_, rfl⟩
  obtain ⟨Y, hY⟩ : ∃ X, X = b.map itemC := ⟨_, rfl⟩
  have hXl : lenE X = (a.length : Int) := by rw [hX, len_map]
  have hYl : lenE Y = (b.length : Int) := by rw [hY, len_map]
  rw [← hX, ← hY] at hstep ⊢
  clear hX hY
  refine acalls_symF tabF_ok fn33 rfl rfl rfl (by kernel_rfl) ?_
  have hfin : ∀ st, resA Try.prog Try.f33 st = some (.flat (.bool r)) → G.Leaves Try.prog Try.f33 (fun _ => .flat (.bool r)) (fun _ => []) st := fun st h => G.Leaves.plain h rfl
  rintro ⟨lt, le, eq, se, ar, dv, una, conv, len, sln, nat, nth, ixs, cel, sto, app, cpy, slc, mak, ixv, oth, dk, ib, call⟩ hS hm Q hQ
  obtain ⟨hlt, hle, heq, hse, har, hdv, huna, hconv, hlen, hsln, hnat, hnth, hixs, hcel, hsto, happ, hcpy, hslc, hmak, hixv, hoth, hdk, hib, hcall⟩ := Sym.mk.inj hS
  clear hS
  have hnt : ∀ n : Nat, nat n = U.natI n := fun n => by rw [hnat]; rfl
  have hbox : ∀ e c off, cel (some ⟨e, [c]⟩) 0 off = if off ≤ c.length then some (c.drop off) else none := fun e c off => by rw [hcel]; rfl
  have hsbox : ∀ e c off sz y, sto (some ⟨e, [c]⟩) 0 off sz y = if y.cells.length = sz ∧ off + sz ≤ c.length ∧ y.cells.all AV.one = true then some ⟨e, [spl c off y.cells]⟩ else none := fun e c off sz y => by rw [hsto]; rfl
  have hcaw : ∀ {f args T base K}, CallK Try.prog f args T base K → call f args T base K := fun h => by rw [hcall]; exact h
  have hcal : ∀ {f args T base} {K : AV → Table → List Nat → List Nat → Prop}, (∃ args' ids val rows, Hands T ids args args' (val base) (rows base) ∧ ACalls Try.prog f args' val rows ∧ (rows base).length ≤ 8 ∧ K (val base) (adopt T base (rows base)) ids ((List.range (rows base).length).map (base + ·))) → call f args T base K := fun h => hcaw (call_own h)
  have hl0 : eq (len X) (len Y) = false → r = false := fun h => hlen0 fun e => by
    rw [heq, hlen, hXl, hYl] at h
    exact of_decide_eq_false h (by rw [e])
  have hl1 : eq (len X) (len Y) = true → EqAt a b 0 := fun h => hz (by
    rw [heq, hlen, hXl, hYl] at h
    have := of_decide_eq_true h
    omega)
  have hend2 : ∀ i, EqAt a b i → lt i (len X) = false → r = true := fun i h hc => hend i h (by rw [hlt, hlen, hXl] at hc; exact hc)
  have hstep2 : ∀ i, EqAt a b i → lt i (len X) = true → ∃ (x1 x2 x3 y1 y2 y3 : Int) (d : Bool), nth X i 3 = some (.rp [.flat (.int .i64 x1), .flat (.int .i64 x2), .flat (.int .u64 x3)]) ∧ nth Y i 3 = some (.rp [.flat (.int .i64 y1), .flat (.int .i64 y2), .flat (.int .u64 y3)]) ∧ dv .neq 28 (.agg [.flat (.int .i64 x1), .flat (.int .i64 x2), .flat (.int .u64 x3)]) (.agg [.flat (.int .i64 y1), .flat (.int .i64 y2), .flat (.int .u64 y3)]) = some (.flat (.bool d)) ∧ (d = false → EqAt a b (i + 1)) ∧ (d = true → r = false) ∧ ar .add .i64 i 1 = i + 1 ∧ (a.length - (i + 1).toNat < a.length - i.toNat) := fun i h hc => by
    obtain ⟨x, y, q1, q2, q3, q4, q5, q6, q7⟩ := hstep i h (by rw [hlt, hlen, hXl] at hc; exact hc)
    exact ⟨_, _, _, _, _, _, _, by rw [hnth]; exact q1, by rw [hnth]; exact q2, by rw [hdv]; exact q3, fun e => q4 (by simpa using e), fun e => q5 (by simpa using e), by rw [har]; exact q6, q7⟩
  clear hlen0 hend hstep hz
  cbv
  cases h0 : eq (len X) (len Y)
  · have := hl0 h0
    subst this
    cbv
    exact hQ _ _ trivial (hfin _ (by cbv))
  have hi0 := hl1 h0
  cbv
  refine MW_loop hm [] [0, 1, 12, 13] 14 (by simp) (fun mz st => ∃ (i : Int), EqAt a b i ∧ mz = a.length - i.toNat ∧ st = stOf [.ro X, .ro Y, .dead, .dead, .dead, .dead, .dead, .dead, .dead, .dead, .dead, .dead, .flat (.int .i64 (len X)), .flat (.int .i64 i)] [] 0) (a.length - (0 : Int).toNat) ?_ ?_
  · exact ⟨0, hi0, rfl, cut_eq (by cbv) (by rfl)⟩
  rintro mz st ⟨i, hi, hmz, rfl⟩
  cases hc : lt i (len X)
  · have := hend2 i hi hc
    subst this
    cbv
    rw [hc]; cbv
    exact hQ _ _ trivial (hfin _ (by cbv))
  obtain ⟨x1, x2, x3, y1, y2, y3, d, q1, q2, q3, q4, q5, q6, q7⟩ := hstep2 i hi hc
  generalize i + 1 = i2 at q4 q6 q7
  cbv
  rw [hc]; cbv
  refine ⟨by rw [hdk]; kernel_rfl, ?_⟩
  repeat (first | (rw [hbox]; cbv) | (rw [hsbox]; cbv) | (rw [q1]; cbv) | (rw [q2]; cbv) | (rw [q3]; cbv))
  refine ⟨by rw [hib]; kernel_rfl, ?_⟩
  cbv
  cases d
  rotate_left
  · have := q5 rfl
    subst this
    cbv
    exact hQ _ _ trivial (hfin _ (by cbv))
  have k1 := q4 rfl
  cbv
  rw [q6]
  exact ⟨[], [0, 1, 12, 13], 14, a.length - i2.toNat, hmz ▸ q7, by simp, i2, k1, rfl, cut_eq (by cbv) (by rfl)⟩
theorem itemSame_calls (a b : List ItemT) (hn : a.length ≤ 1000000) : ACalls Try.prog 13 [.ro (a.map itemC), .ro (b.map itemC)] (fun _ => .flat (.bool (decide (a = b)))) (fun _ => []) := by
  have hcE := equal_calls a b hn
  generalize decide (a = b) = r at hcE ⊢
  generalize a.map itemC = X at hcE ⊢
  generalize b.map itemC = Y at hcE ⊢
  refine acalls_symF tabF_ok fn13 rfl rfl rfl (by kernel_rfl) ?_
  have hfin : ∀ st, resA Try.prog Try.f13 st = some (.flat (.bool r)) → G.Leaves Try.prog Try.f13 (fun _ => .flat (.bool r)) (fun _ => []) st := fun st h => G.Leaves.plain h rfl
  rintro ⟨lt, le, eq, se, ar, dv, una, conv, len, sln, nat, nth, ixs, cel, sto, app, cpy, slc, mak, ixv, oth, dk, ib, call⟩ hS hm Q hQ
  obtain ⟨hlt, hle, heq, hse, har, hdv, huna, hconv, hlen, hsln, hnat, hnth, hixs, hcel, hsto, happ, hcpy, hslc, hmak, hixv, hoth, hdk, hib, hcall⟩ := Sym.mk.inj hS
  clear hS
  have hnt : ∀ n : Nat, nat n = U.natI n := fun n => by rw [hnat]; rfl
  have hbox : ∀ e c off, cel (some ⟨e, [c]⟩) 0 off = if off ≤ c.length then some (c.drop off) else none := fun e c off => by rw [hcel]; rfl
  have hsbox : ∀ e c off sz y, sto (some ⟨e, [c]⟩) 0 off sz y = if y.cells.length = sz ∧ off + sz ≤ c.length ∧ y.cells.all AV.one = true then some ⟨e, [spl c off y.cells]⟩ else none := fun e c off sz y => by rw [hsto]; rfl
  have hcaw : ∀ {f args T base K}, CallK Try.prog f args T base K → call f args T base K := fun h => by rw [hcall]; exact h
  have hcal : ∀ {f args T base} {K : AV → Table → List Nat → List Nat → Prop}, (∃ args' ids val rows, Hands T ids args args' (val base) (rows base) ∧ ACalls Try.prog f args' val rows ∧ (rows base).length ≤ 8 ∧ K (val base) (adopt T base (rows base)) ids ((List.range (rows base).length).map (base + ·))) → call f args T base K := fun h => hcaw (call_own h)
  cbv
  refine hcal ⟨_, [], _, _, .inl ⟨rfl, by cbv⟩, hcE, by simp, ?_⟩
  cbv
  exact hQ _ _ trivial (hfin _ (by cbv))
theorem refSame_calls (a b : List ItemT) (hn : a.length ≤ 1000000) : ACalls Try.prog 10 [.ro (a.map itemC), .ro (b.map itemC)] (fun _ => .flat (.bool (decide (a = b)))) (fun _ => []) := by
  obtain ⟨r, hr⟩ : ∃ r, r = decide (a = b) := ⟨_, rfl⟩
  have hlen0 : a.length ≠ b.length → r = false := fun h => by rw [hr]; exact decide_eq_false fun e => h (by rw [e])
  have hend : ∀ i, EqAt a b i → decide (i < (a.length : Int)) = false → r = true := fun i h hc => by rw [hr]; exact decide_eq_true (eqAt_end h hc)
  have hstep : ∀ i, EqAt a b i → decide (i < (a.length : Int)) = true → ∃ x y : ItemT, nthE (a.map itemC) i 3 = some (.rp (itemC x)) ∧ nthE (b.map itemC) i 3 = some (.rp (itemC y)) ∧ dvOf Try.prog .neq 41 (.agg (itemC x)) (.agg (itemC y)) = some (.flat (.bool (!decide (x = y)))) ∧ (decide (x = y) = true → EqAt a b (i + 1)) ∧ (decide (x = y) = false → r = false) ∧ arI .add .i64 i 1 = i + 1 ∧ (a.length - (i + 1).toNat < a.length - i.toNat) := fun i h hc => by
    obtain ⟨_, h0, h1⟩ := at_lt h.1 hc
    refine ⟨_, _, nth_map (fun _ => rfl) h0 h1, nth_map (fun _ => rfl) h0 (by rw [← h.2.1]; exact h1), neq41 _ _, fun e => eqAt_step h hc (of_decide_eq_true e), fun e => ?_, ar_add64 (by omega) (by omega), by omega⟩
    rw [hr]; exact decide_eq_false (eqAt_off (of_decide_eq_false e))
  have hz : a.length = b.length → EqAt a b 0 := eqAt_zero
  rw [← hr]
  clear hr
  obtain ⟨X, hX⟩ : ∃ X, X = a.map itemC := ⟨_, rfl⟩
  obtain ⟨Y, hY⟩ : ∃ X, X = b.map itemC := ⟨_, rfl⟩
  have hXl : lenE X = (a.length : Int) := by rw [hX, len_map]
  have hYl : lenE Y = (b.length : Int) := by rw [hY, len_map]
  rw [← hX, ← hY] at hstep ⊢
  clear hX hY
  refine acalls_symF tabF_ok fn10 rfl rfl rfl (by kernel_rfl) ?_
  have hfin : ∀ st, resA Try.prog Try.f10 st = some (.flat (.bool r)) → G.Leaves Try.prog Try.f10 (fun _ => .flat (.bool r)) (fun _ => []) st := fun st h => G.Leaves.plain h rfl
  rintro ⟨lt, le, eq, se, ar, dv, una, conv, len, sln, nat, nth, ixs, cel, sto, app, cpy, slc, mak, ixv, oth, dk, ib, call⟩ hS hm Q hQ
  obtain ⟨hlt, hle, heq, hse, har, hdv, huna, hconv, hlen, hsln, hnat, hnth, hixs, hcel, hsto, happ, hcpy, hslc, hmak, hixv, hoth, hdk, hib, hcall⟩ := Sym.mk.inj hS
  clear hS
  have hnt : ∀ n : Nat, nat n = U.natI n := fun n => by rw [hnat]; rfl
  have hbox : ∀ e c off, cel (some ⟨e, [c]⟩) 0 off = if off ≤ c.length then some (c.drop off) else none := fun e c off => by rw [hcel]; rfl
  have hsbox : ∀ e c off sz y, sto (some ⟨e, [c]⟩) 0 off sz y = if y.cells.length = sz ∧ off + sz ≤ c.length ∧ y.cells.all AV.one = true then some ⟨e, [spl c off y.cells]⟩ else none := fun e c off sz y => by rw [hsto]; rfl
  have hcaw : ∀ {f args T base K}, CallK Try.prog f args T base K → call f args T base K := fun h => by rw [hcall]; exact h
  have hcal : ∀ {f args T base} {K : AV → Table → List Nat → List Nat → Prop}, (∃ args' ids val rows, Hands T ids args args' (val base) (rows base) ∧ ACalls Try.prog f args' val rows ∧ (rows base).length ≤ 8 ∧ K (val base) (adopt T base (rows base)) ids ((List.range (rows base).length).map (base + ·))) → call f args T base K := fun h => hcaw (call_own h)
  have hl0 : eq (len X) (len Y) = false → r = false := fun h => hlen0 fun e => by
    rw [heq, hlen, hXl, hYl] at h
    exact of_decide_eq_false h (by rw [e])
  have hl1 : eq (len X) (len Y) = true → EqAt a b 0 := fun h => hz (by
    rw [heq, hlen, hXl, hYl] at h
    have := of_decide_eq_true h
    omega)
  have hend2 : ∀ i, EqAt a b i → lt i (len X) = false → r = true := fun i h hc => hend i h (by rw [hlt, hlen, hXl] at hc; exact hc)
  have hstep2 : ∀ i, EqAt a b i → lt i (len X) = true → ∃ (x1 x2 x3 y1 y2 y3 : Int) (d : Bool), nth X i 3 = some (.rp [.flat (.int .i64 x1), .flat (.int .i64 x2), .flat (.int .u64 x3)]) ∧ nth Y i 3 = some (.rp [.flat (.int .i64 y1), .flat (.int .i64 y2), .flat (.int .u64 y3)]) ∧ dv .neq 41 (.agg [.flat (.int .i64 x1), .flat (.int .i64 x2), .flat (.int .u64 x3)]) (.agg [.flat (.int .i64 y1), .flat (.int .i64 y2), .flat (.int .u64 y3)]) = some (.flat (.bool d)) ∧ (d = false → EqAt a b (i + 1)) ∧ (d = true → r = false) ∧ ar .add .i64 i 1 = i + 1 ∧ (a.length - (i + 1).toNat < a.length - i.toNat) := fun i h hc => by
    obtain ⟨x, y, q1, q2, q3, q4, q5, q6, q7⟩ := hstep i h (by rw [hlt, hlen, hXl] at hc; exact hc)
    exact ⟨_, _, _, _, _, _, _, by rw [hnth]; exact q1, by rw [hnth]; exact q2, by rw [hdv]; exact q3, fun e => q4 (by simpa using e), fun e => q5 (by simpa using e), by rw [har]; exact q6, q7⟩
  clear hlen0 hend hstep hz
  cbv
  cases h0 : eq (len X) (len Y)
  · have := hl0 h0
    subst this
    cbv
    exact hQ _ _ trivial (hfin _ (by cbv))
  have hi0 := hl1 h0
  cbv
  refine MW_loop hm [] [0, 1, 5] 6 (by simp) (fun mz st => ∃ (i : Int), EqAt a b i ∧ mz = a.length - i.toNat ∧ st = stOf [.ro X, .ro Y, .dead, .dead, .dead, .flat (.int .i64 i)] [] 0) (a.length - (0 : Int).toNat) ?_ ?_
  · exact ⟨0, hi0, rfl, cut_eq (by cbv) (by rfl)⟩
  rintro mz st ⟨i, hi, hmz, rfl⟩
  cases hc : lt i (len X)
  · have := hend2 i hi hc
    subst this
    cbv
    rw [hc]; cbv
    exact hQ _ _ trivial (hfin _ (by cbv))
  obtain ⟨x1, x2, x3, y1, y2, y3, d, q1, q2, q3, q4, q5, q6, q7⟩ := hstep2 i hi hc
  generalize i + 1 = i2 at q4 q6 q7
  cbv
  rw [hc]; cbv
  refine ⟨by rw [hdk]; kernel_rfl, ?_⟩
  repeat (first | (rw [hbox]; cbv) | (rw [hsbox]; cbv) | (rw [q1]; cbv) | (rw [q2]; cbv) | (rw [q3]; cbv))
  refine ⟨by rw [hib]; kernel_rfl, ?_⟩
  cbv
  cases d
  rotate_left
  · have := q5 rfl
    subst this
    cbv
    exact hQ _ _ trivial (hfin _ (by cbv))
  have k1 := q4 rfl
  cbv
  rw [q6]
  exact ⟨[], [0, 1, 5], 6, a.length - i2.toNat, hmz ▸ q7, by simp, i2, k1, rfl, cut_eq (by cbv) (by rfl)⟩
theorem ref_calls (l : List ItemT) (hn : l.length ≤ 1000000) : ACalls Try.prog 11 [.ro (l.map itemC)] (fun k => .sl k 0 l.length) (fun _ => [⟨41, l.map itemC⟩]) := by
  have hstep : ∀ i, At l i → decide (i < (l.length : Int)) = true → ∃ x1 x2 x3 : Int, nthE (l.map itemC) i 3 = some (.rp [.flat (.int .i64 x1), .flat (.int .i64 x2), .flat (.int .u64 x3)]) ∧ At l (i + 1) ∧ arI .add .i64 i 1 = i + 1 ∧ (l.length - (i + 1).toNat < l.length - i.toNat) ∧ (∀ Y, Y = (l.take i.toNat).map itemC → Y ++ [[.flat (.int .i64 x1), .flat (.int .i64 x2), .flat (.int .u64 x3)]] = (l.take (i + 1).toNat).map itemC) ∧ (l.take i.toNat).length ≤ 1000000 := fun i h hc => by
    obtain ⟨_, h0, h1⟩ := at_lt h hc
    refine ⟨_, _, _, nth_map (fun _ => rfl) h0 h1, (at_step h hc).1, ar_add64 (by omega) (by omega), by omega, fun Y hY => ?_, by rw [List.length_take]; omega⟩
    rw [take_next h0 h1, List.map_append, hY]; rfl
  have hend : ∀ i, At l i → decide (i < (l.length : Int)) = false → l.take i.toNat = l := fun i h hc => take_end h hc
  have hz := at_zero l
  have hz0 : ([] : List (List AV)) = (l.take (0 : Int).toNat).map itemC := rfl
  obtain ⟨X, hX⟩ : ∃ X, X = l.map itemC := ⟨_, rfl⟩
  have hXl : lenE X = (l.length : Int) := by rw [hX, len_map]
  obtain ⟨m, hm0⟩ : ∃ m, m = l.length := ⟨_, rfl⟩
  rw [← hX] at hstep ⊢
  rw [← hm0]
  refine acalls_symF tabF_ok fn11 rfl rfl rfl (by kernel_rfl) ?_
  rintro ⟨lt, le, eq, se, ar, dv, una, conv, len, sln, nat, nth, ixs, cel, sto, app, cpy, slc, mak, ixv, oth, dk, ib, call⟩ hS hm Q hQ
  obtain ⟨hlt, hle, heq, hse, har, hdv, huna, hconv, hlen, hsln, hnat, hnth, hixs, hcel, hsto, happ, hcpy, hslc, hmak, hixv, hoth, hdk, hib, hcall⟩ := Sym.mk.inj hS
  clear hS
  have hnt : ∀ n : Nat, nat n = U.natI n := fun n => by rw [hnat]; rfl
  have hbox : ∀ e c off, cel (some ⟨e, [c]⟩) 0 off = if off ≤ c.length then some (c.drop off) else none := fun e c off => by rw [hcel]; rfl
  have hsbox : ∀ e c off sz y, sto (some ⟨e, [c]⟩) 0 off sz y = if y.cells.length = sz ∧ off + sz ≤ c.length ∧ y.cells.all AV.one = true then some ⟨e, [spl c off y.cells]⟩ else none := fun e c off sz y => by rw [hsto]; rfl
  have hcaw : ∀ {f args T base K}, CallK Try.prog f args T base K → call f args T base K := fun h => by rw [hcall]; exact h
  have hcal : ∀ {f args T base} {K : AV → Table → List Nat → List Nat → Prop}, (∃ args' ids val rows, Hands T ids args args' (val base) (rows base) ∧ ACalls Try.prog f args' val rows ∧ (rows base).length ≤ 8 ∧ K (val base) (adopt T base (rows base)) ids ((List.range (rows base).length).map (base + ·))) → call f args T base K := fun h => hcaw (call_own h)
  have hap : ∀ (T : Table) (id k0 k n n2 : Nat) (Y Y2 : List (List AV)) (c : List AV), Y2 = Y ++ [c] → c.length = 3 → n = Y.length → n2 = n + 1 → n ≤ 1000000 → T k0 = some ⟨41, Y⟩ → T k = some ⟨41, [c]⟩ → k ≠ k0 → app T id 30 30 (.sl k0 0 n) (.sl k 0 1) = some (.sl id 0 n2, (T.set k0 none).set id (some ⟨41, Y2⟩)) := fun T id k0 k n n2 Y Y2 c h0 h7 h1 h2 h3 h4 h5 h6 => by
    rw [happ]; exact app_tip u30 z41 c41 (by decide) rfl (by decide) h4 h5 h6 h7 (by omega) h2 (by rw [h0, h1, List.take_length]) (by omega)
  have hstep2 : ∀ i, At l i → lt i (len X) = true → ∃ x1 x2 x3 : Int, nth X i 3 = some (.rp [.flat (.int .i64 x1), .flat (.int .i64 x2), .flat (.int .u64 x3)]) ∧ At l (i + 1) ∧ ar .add .i64 i 1 = i + 1 ∧ (l.length - (i + 1).toNat < l.length - i.toNat) ∧ (∀ Y, Y = (l.take i.toNat).map itemC → Y ++ [[.flat (.int .i64 x1), .flat (.int .i64 x2), .flat (.int .u64 x3)]] = (l.take (i + 1).toNat).map itemC) ∧ (l.take i.toNat).length ≤ 1000000 := fun i h hc => by
    rw [hnth, har]; exact hstep i h (by rw [hlt, hlen, hXl] at hc; exact hc)
  have hend2 : ∀ i, At l i → lt i (len X) = false → l.take i.toNat = l := fun i h hc => hend i h (by rw [hlt, hlen, hXl] at hc; exact hc)
  clear hstep hend
  cbv
  refine MW_loopZ hm [.slot 3 41] [24] [0, 3, 4] 5 (by simp) (fun mz st => ∃ (i : Int) (n : Nat) (Y : List (List AV)), At l i ∧ Y = (l.take i.toNat).map itemC ∧ n = Y.length ∧ mz = l.length - i.toNat ∧ st = stOf [.ro X, .dead, .dead, .sl 0 0 n, .flat (.int .i64 i)] [some ⟨41, Y⟩] 1) (l.length - (0 : Int).toNat) ?_ ?_
  · exact ⟨0, 0, [], hz, hz0, rfl, rfl, cut_eq (by cbv) (cutRows_cons (by rfl) (fun c hc => by cases hc) rfl)⟩
  rintro mz st ⟨i, n, Y, hi, hY, hYn, hmz, rfl⟩
  have hYcl : ∀ c ∈ Y, closedAll [] c = true := by rw [hY]; exact closed_items _
  cases hc : lt i (len X)
  · have he := hend2 i hi hc
    rw [he, ← hX] at hY
    have hn2 : n = m := by rw [hYn, hY, hX, List.length_map, hm0]
    rw [← hY, ← hn2] at hQ
    cbv
    rw [hc]; cbv
    exact hQ _ _ trivial (leaves_own (k := 0) (by cbv) (by rfl) hYcl)
  obtain ⟨x1, x2, x3, q1, q2, q3, q4, q5, q6⟩ := hstep2 i hi hc
  replace q5 := q5 Y hY
  have hYm : n ≤ 1000000 := by rw [hYn, hY, List.length_map]; exact q6
  obtain ⟨n2, hn2⟩ : ∃ n2, n2 = n + 1 := ⟨_, rfl⟩
  obtain ⟨Y2, hY2⟩ : ∃ Z, Z = Y ++ [[.flat (.int .i64 x1), .flat (.int .i64 x2), .flat (.int .u64 x3)]] := ⟨_, rfl⟩
  have hn3 : n2 = Y2.length := by rw [hY2, List.length_append, hn2, hYn]; rfl
  have ha := fun T id k0 k => hap T id k0 k n n2 Y Y2 _ hY2 rfl hYn hn2 hYm
  rw [← hY2] at q5
  have hY2cl : ∀ c ∈ Y2, closedAll [] c = true := by rw [q5]; exact closed_items _
  generalize i + 1 = i2 at q2 q3 q4 q5
  cbv
  rw [hc]; cbv
  refine ⟨by rw [hdk]; kernel_rfl, ?_⟩
  repeat (first | (rw [hbox]; cbv) | (rw [hsbox]; cbv) | (rw [q1]; cbv))
  rw [ha _ _ _ _ (by rfl) (by rfl) (by decide)]; cbv
  refine ⟨by rw [hib]; kernel_rfl, ?_⟩
  cbv
  rw [q3]
  exact ⟨[177], [0, 3, 4], 5, l.length - i2.toNat, hmz ▸ q4, by simp, i2, n2, Y2, q2, q5, hn3, rfl, cut_eq (by cbv) (cutRows_cons (by rfl) (hY2cl) rfl)⟩
end Go.Proofs.Ytnceadbfgpiaaaa.J
