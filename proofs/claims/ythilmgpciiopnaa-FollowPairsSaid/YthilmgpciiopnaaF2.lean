/- Contracts: rows, alike? (of rows that are alike); first.List; the example. -/
import Derived.Test.YthilmgpciiopnaaF1
namespace Go.Proofs.Ythilmgpciiopnaa.F
open Go G U K
set_option linter.unusedVariables false
set_option linter.unusedSimpArgs false
set_option maxRecDepth 100000
set_option maxHeartbeats 4000000
theorem fn49 : Try.prog.funcs[49]? = some Try.f49 := by kernel_rfl
theorem fn29 : Try.prog.funcs[29]? = some Try.f29 := by kernel_rfl
theorem fn31 : Try.prog.funcs[31]? = some Try.f31 := by kernel_rfl
theorem fn13 : Try.prog.funcs[13]? = some Try.f13 := by kernel_rfl
theorem fn12 : Try.prog.funcs[12]? = some Try.f12 := by kernel_rfl
def intC (k : Int) : List AV := [.flat (.int .i64 k)]
def boolC (b : Bool) : List AV := [.flat (.bool b)]
def setC (n : Nat) : List AV := [.flat (.int .u64 (n : Int))]
theorem dvb (b : Bool) : dvOf Try.prog .neq 4 (.flat (.bool b)) (.flat (.bool b)) = some (.flat (.bool false)) := by
  rw [dvOf_eq]
  intro x y
  cases b <;> kernel_rfl
theorem flat_int (l : List Int) : flatRow (l.map intC) := flat_map (fun a x hx => by
  simp only [intC, List.mem_cons, List.not_mem_nil, or_false] at hx; subst hx; exact ⟨rfl, rfl⟩) l
theorem flat_bool (l : List Bool) : flatRow (l.map boolC) := flat_map (fun a x hx => by
  simp only [boolC, List.mem_cons, List.not_mem_nil, or_false] at hx; subst hx; exact ⟨rfl, rfl⟩) l
theorem flat_set (l : List Nat) : flatRow (l.map setC) := flat_map (fun a x hx => by
  simp only [setC, List.mem_cons, List.not_mem_nil, or_false] at hx; subst hx; exact ⟨rfl, rfl⟩) l
theorem sameInt_calls (a : List Int) (hs : a.length ≤ 1000) : ACalls Try.prog 49 [.ro (a.map intC), .ro (a.map intC)] (fun _ => .flat (.bool true)) (fun _ => []) := by
  refine acalls_symF tabF_ok fn49 rfl rfl rfl (by kernel_rfl) ?_
  have hfin : ∀ st, resA Try.prog Try.f49 st = some (.flat (.bool true)) → G.Leaves Try.prog Try.f49 (fun _ => .flat (.bool true)) (fun _ => []) st := fun st h => G.Leaves.plain h rfl
  obtain ⟨X, hX⟩ : ∃ X, X = a.map intC := ⟨_, rfl⟩
  rw [← hX]
  rintro ⟨lt, le, eq, se, ar, dv, una, conv, len, sln, nat, nth, ixs, cel, sto, app, cpy, slc, mak, ixv, oth, dk, ib, call⟩ hS hm Q hQ
  obtain ⟨hlt, hle, heq, hse, har, hdv, huna, hconv, hlen, hsln, hnat, hnth, hixs, hcel, hsto, happ, hcpy, hslc, hmak, hixv, hoth, hdk, hib, hcall⟩ := Sym.mk.inj hS
  clear hS
  have hnt : ∀ n : Nat, nat n = U.natI n := fun n => by rw [hnat]; rfl
  have hbox : ∀ e c off, cel (some ⟨e, [c]⟩) 0 off = if off ≤ c.length then some (c.drop off) else none := fun e c off => by rw [hcel]; rfl
  have hsbox : ∀ e c off sz y, sto (some ⟨e, [c]⟩) 0 off sz y = if y.cells.length = sz ∧ off + sz ≤ c.length ∧ y.cells.all AV.one = true then some ⟨e, [spl c off y.cells]⟩ else none := fun e c off sz y => by rw [hsto]; rfl
  have hcaw : ∀ {f args T base K}, CallK Try.prog f args T base K → call f args T base K := fun h => by rw [hcall]; exact h
  have hcal : ∀ {f args T base} {K : AV → Table → List Nat → List Nat → Prop}, (∃ args' ids val rows, Hands T ids args args' (val base) (rows base) ∧ ACalls Try.prog f args' val rows ∧ (rows base).length ≤ 8 ∧ K (val base) (adopt T base (rows base)) ids ((List.range (rows base).length).map (base + ·))) → call f args T base K := fun h => hcaw (call_own h)
  have hn : len X = a.length := by rw [hlen, hX, len_map]
  have heqr : ∀ v, eq v v = true := fun v => by rw [heq]; exact decide_eq_true rfl
  have hdvb : ∀ v, dv .neq 4 (.flat (.bool v)) (.flat (.bool v)) = some (.flat (.bool false)) := fun v => by rw [hdv]; exact dvb v
  cbv
  rw [heqr]; cbv
  refine MW_loop hm [] [0, 1, 5] 6 List.nodup_nil (fun k st => ∃ i : Int, At a i ∧ k = left a.length i ∧ st = stOf [.ro X, .ro X, .dead, .dead, .dead, .flat (.int .i64 i)] [] 0) (left a.length 0) ?_ ?_
  · exact ⟨0, at_zero a, rfl, cut_eq (by cbv) (by cbv)⟩
  · rintro k st ⟨i, hi, hk, rfl⟩
    cbv
    cases hc : lt i (len X)
    · cbv
      exact hQ _ _ trivial (hfin _ (by cbv))
    · have hc' : decide (i < (a.length : Int)) = true := by rw [hlt, hn] at hc; exact hc
      obtain ⟨_, h0, h1⟩ := at_lt hi hc'
      obtain ⟨q1, q2⟩ := at_step hi hc'
      have hix : nth X i 1 = some (.rp [.flat (.int .i64 (atI a i))]) := by rw [hnth, hX]; exact nth_map (fun _ => rfl) h0 h1
      have hadd : ar .add .i64 i 1 = i + 1 := by rw [har]; exact at_add (Nat.le_trans hs (by decide)) hi hc'
      generalize atI a i = v at hix
      generalize i + 1 = i2 at hadd q1 q2
      cbv
      refine ⟨by rw [hdk]; kernel_rfl, ?_⟩
      repeat (first | (rw [hix]; cbv) | (rw [heqr]; cbv))
      refine ⟨by rw [hib]; kernel_rfl, ?_⟩
      cbv
      rw [hadd]
      exact ⟨[], [0, 1, 5], 6, left a.length i2, hk ▸ q2, List.nodup_nil, i2, q1, rfl, cut_eq (by cbv) (by cbv)⟩
theorem sameBool_calls (a : List Bool) (hs : a.length ≤ 1000) : ACalls Try.prog 29 [.ro (a.map boolC), .ro (a.map boolC)] (fun _ => .flat (.bool true)) (fun _ => []) := by
  refine acalls_symF tabF_ok fn29 rfl rfl rfl (by kernel_rfl) ?_
  have hfin : ∀ st, resA Try.prog Try.f29 st = some (.flat (.bool true)) → G.Leaves Try.prog Try.f29 (fun _ => .flat (.bool true)) (fun _ => []) st := fun st h => G.Leaves.plain h rfl
  obtain ⟨X, hX⟩ : ∃ X, X = a.map boolC := ⟨_, rfl⟩
  rw [← hX]
  rintro ⟨lt, le, eq, se, ar, dv, una, conv, len, sln, nat, nth, ixs, cel, sto, app, cpy, slc, mak, ixv, oth, dk, ib, call⟩ hS hm Q hQ
  obtain ⟨hlt, hle, heq, hse, har, hdv, huna, hconv, hlen, hsln, hnat, hnth, hixs, hcel, hsto, happ, hcpy, hslc, hmak, hixv, hoth, hdk, hib, hcall⟩ := Sym.mk.inj hS
  clear hS
  have hnt : ∀ n : Nat, nat n = U.natI n := fun n => by rw [hnat]; rfl
  have hbox : ∀ e c off, cel (some ⟨e, [c]⟩) 0 off = if off ≤ c.length then some (c.drop off) else none := fun e c off => by rw [hcel]; rfl
  have hsbox : ∀ e c off sz y, sto (some ⟨e, [c]⟩) 0 off sz y = if y.cells.length = sz ∧ off + sz ≤ c.length ∧ y.cells.all AV.one = true then some ⟨e, [spl c off y.cells]⟩ else none := fun e c off sz y => by rw [hsto]; rfl
  have hcaw : ∀ {f args T base K}, CallK Try.prog f args T base K → call f args T base K := fun h => by rw [hcall]; exact h
  have hcal : ∀ {f args T base} {K : AV → Table → List Nat → List Nat → Prop}, (∃ args' ids val rows, Hands T ids args args' (val base) (rows base) ∧ ACalls Try.prog f args' val rows ∧ (rows base).length ≤ 8 ∧ K (val base) (adopt T base (rows base)) ids ((List.range (rows base).length).map (base + ·))) → call f args T base K := fun h => hcaw (call_own h)
  have hn : len X = a.length := by rw [hlen, hX, len_map]
  have heqr : ∀ v, eq v v = true := fun v => by rw [heq]; exact decide_eq_true rfl
  have hdvb : ∀ v, dv .neq 4 (.flat (.bool v)) (.flat (.bool v)) = some (.flat (.bool false)) := fun v => by rw [hdv]; exact dvb v
  cbv
  rw [heqr]; cbv
  refine MW_loop hm [] [0, 1, 5] 6 List.nodup_nil (fun k st => ∃ i : Int, At a i ∧ k = left a.length i ∧ st = stOf [.ro X, .ro X, .dead, .dead, .dead, .flat (.int .i64 i)] [] 0) (left a.length 0) ?_ ?_
  · exact ⟨0, at_zero a, rfl, cut_eq (by cbv) (by cbv)⟩
  · rintro k st ⟨i, hi, hk, rfl⟩
    cbv
    cases hc : lt i (len X)
    · cbv
      exact hQ _ _ trivial (hfin _ (by cbv))
    · have hc' : decide (i < (a.length : Int)) = true := by rw [hlt, hn] at hc; exact hc
      obtain ⟨_, h0, h1⟩ := at_lt hi hc'
      obtain ⟨q1, q2⟩ := at_step hi hc'
      have hix : nth X i 1 = some (.rp [.flat (.bool (atI a i))]) := by rw [hnth, hX]; exact nth_map (fun _ => rfl) h0 h1
      have hadd : ar .add .i64 i 1 = i + 1 := by rw [har]; exact at_add (Nat.le_trans hs (by decide)) hi hc'
      generalize atI a i = v at hix
      generalize i + 1 = i2 at hadd q1 q2
      cbv
      refine ⟨by rw [hdk]; kernel_rfl, ?_⟩
      repeat (first | (rw [hix]; cbv) | (rw [hdvb]; cbv))
      refine ⟨by rw [hib]; kernel_rfl, ?_⟩
      cbv
      rw [hadd]
      exact ⟨[], [0, 1, 5], 6, left a.length i2, hk ▸ q2, List.nodup_nil, i2, q1, rfl, cut_eq (by cbv) (by cbv)⟩
theorem sameSet_calls (a : List Nat) (hs : a.length ≤ 1000) : ACalls Try.prog 31 [.ro (a.map setC), .ro (a.map setC)] (fun _ => .flat (.bool true)) (fun _ => []) := by
  refine acalls_symF tabF_ok fn31 rfl rfl rfl (by kernel_rfl) ?_
  have hfin : ∀ st, resA Try.prog Try.f31 st = some (.flat (.bool true)) → G.Leaves Try.prog Try.f31 (fun _ => .flat (.bool true)) (fun _ => []) st := fun st h => G.Leaves.plain h rfl
  obtain ⟨X, hX⟩ : ∃ X, X = a.map setC := ⟨_, rfl⟩
  rw [← hX]
  rintro ⟨lt, le, eq, se, ar, dv, una, conv, len, sln, nat, nth, ixs, cel, sto, app, cpy, slc, mak, ixv, oth, dk, ib, call⟩ hS hm Q hQ
  obtain ⟨hlt, hle, heq, hse, har, hdv, huna, hconv, hlen, hsln, hnat, hnth, hixs, hcel, hsto, happ, hcpy, hslc, hmak, hixv, hoth, hdk, hib, hcall⟩ := Sym.mk.inj hS
  clear hS
  have hnt : ∀ n : Nat, nat n = U.natI n := fun n => by rw [hnat]; rfl
  have hbox : ∀ e c off, cel (some ⟨e, [c]⟩) 0 off = if off ≤ c.length then some (c.drop off) else none := fun e c off => by rw [hcel]; rfl
  have hsbox : ∀ e c off sz y, sto (some ⟨e, [c]⟩) 0 off sz y = if y.cells.length = sz ∧ off + sz ≤ c.length ∧ y.cells.all AV.one = true then some ⟨e, [spl c off y.cells]⟩ else none := fun e c off sz y => by rw [hsto]; rfl
  have hcaw : ∀ {f args T base K}, CallK Try.prog f args T base K → call f args T base K := fun h => by rw [hcall]; exact h
  have hcal : ∀ {f args T base} {K : AV → Table → List Nat → List Nat → Prop}, (∃ args' ids val rows, Hands T ids args args' (val base) (rows base) ∧ ACalls Try.prog f args' val rows ∧ (rows base).length ≤ 8 ∧ K (val base) (adopt T base (rows base)) ids ((List.range (rows base).length).map (base + ·))) → call f args T base K := fun h => hcaw (call_own h)
  have hn : len X = a.length := by rw [hlen, hX, len_map]
  have heqr : ∀ v, eq v v = true := fun v => by rw [heq]; exact decide_eq_true rfl
  have hdvb : ∀ v, dv .neq 4 (.flat (.bool v)) (.flat (.bool v)) = some (.flat (.bool false)) := fun v => by rw [hdv]; exact dvb v
  cbv
  rw [heqr]; cbv
  refine MW_loop hm [] [0, 1, 5] 6 List.nodup_nil (fun k st => ∃ i : Int, At a i ∧ k = left a.length i ∧ st = stOf [.ro X, .ro X, .dead, .dead, .dead, .flat (.int .i64 i)] [] 0) (left a.length 0) ?_ ?_
  · exact ⟨0, at_zero a, rfl, cut_eq (by cbv) (by cbv)⟩
  · rintro k st ⟨i, hi, hk, rfl⟩
    cbv
    cases hc : lt i (len X)
    · cbv
      exact hQ _ _ trivial (hfin _ (by cbv))
    · have hc' : decide (i < (a.length : Int)) = true := by rw [hlt, hn] at hc; exact hc
      obtain ⟨_, h0, h1⟩ := at_lt hi hc'
      obtain ⟨q1, q2⟩ := at_step hi hc'
      have hix : nth X i 1 = some (.rp [.flat (.int .u64 (((atI a i : Nat) : Int)))]) := by rw [hnth, hX]; exact nth_map (fun _ => rfl) h0 h1
      have hadd : ar .add .i64 i 1 = i + 1 := by rw [har]; exact at_add (Nat.le_trans hs (by decide)) hi hc'
      generalize ((atI a i : Nat) : Int) = v at hix
      generalize i + 1 = i2 at hadd q1 q2
      cbv
      refine ⟨by rw [hdk]; kernel_rfl, ?_⟩
      repeat (first | (rw [hix]; cbv) | (rw [heqr]; cbv))
      refine ⟨by rw [hib]; kernel_rfl, ?_⟩
      cbv
      rw [hadd]
      exact ⟨[], [0, 1, 5], 6, left a.length i2, hk ▸ q2, List.nodup_nil, i2, q1, rfl, cut_eq (by cbv) (by cbv)⟩
/-- Those that are there, up to a number. -/
def listTo (s : Nat) (i : Int) : List Int := ((List.range i.toNat).map fun (k : Nat) => (k : Int)).filter (hasN s)
theorem listTo_next {s : Nat} {i : Int} (h0 : 0 ≤ i) : listTo s (i + 1) = listTo s i ++ if hasN s i = true then [i] else [] := by
  have e : (i + 1).toNat = i.toNat + 1 := by omega
  have e2 : ((i.toNat : Nat) : Int) = i := by omega
  rw [listTo, e, List.range_succ, List.map_append, List.filter_append]
  simp only [List.map_cons, List.map_nil, e2, List.filter_cons, List.filter_nil]
  rfl
theorem listTo_len {s : Nat} {i : Int} : (listTo s i).length ≤ i.toNat := by
  refine Nat.le_trans (List.length_filter_le _ _) ?_
  simp
def listN (s : Nat) : List Int := listTo s 64
def LAt (i : Int) : Prop := 0 ≤ i ∧ i ≤ 64
theorem lat_end {i : Int} (h : LAt i) (hc : decide (i ≤ 63) = false) : i = 64 := by
  obtain ⟨h0, h1⟩ := h
  simp only [decide_eq_false_iff_not] at hc
  omega
theorem lat_step {i : Int} (h : LAt i) (hc : decide (i ≤ 63) = true) : LAt (i + 1) ∧ U.left 64 (i + 1) < U.left 64 i ∧ arI .add .i64 i 1 = i + 1 := by
  obtain ⟨h0, h1⟩ := h
  simp only [decide_eq_true_eq] at hc
  exact ⟨⟨by omega, by omega⟩, by unfold U.left; omega, ar_add64 (by omega) (by omega)⟩
theorem app_int {T : Table} {id k0 k n n2 : Nat} {X : List (List AV)} {v : Int} (hn : n = X.length) (hn2 : n2 = n + 1) (hb : n2 ≤ 1000000) (hT : T k0 = some ⟨3, X⟩) (hk : T k = some ⟨3, [[.flat (.int .i64 v)]]⟩) (hne : k ≠ k0) :
    evAppend Try.prog T id 24 24 (.sl k0 0 n) (.sl k 0 1) = some (.sl id 0 n2, (T.set k0 none).set id (some ⟨3, X ++ [[.flat (.int .i64 v)]]⟩)) :=
  app_tip (z := .int .i64 0) (sz := 1) (b := 8) (by kernel_rfl) (by kernel_rfl) (by kernel_rfl) (by decide) rfl (by decide) hT hk hne rfl (by omega) hn2 (by rw [hn, List.take_length]) (by omega)
theorem list_calls (s : Nat) (hs : s < 18446744073709551616) : ACalls Try.prog 13 [uV s] (fun k => .sl k 0 (listN s).length) (fun _ => [⟨3, (listN s).map intC⟩]) := by
  have hcH := fun n => has_calls s hs n
  unfold uV at hcH ⊢
  generalize (s : Int) = a at hcH ⊢
  have hstep : ∀ i, LAt i → decide (i ≤ 63) = true → ∃ w, ACalls Try.prog 17 [.flat (.int .u64 a), .flat (.int .i64 i)] (fun _ => .flat (.bool w)) (fun _ => []) ∧ (listTo s (i + 1) = listTo s i ++ if w = true then [i] else []) ∧ LAt (i + 1) ∧ U.left 64 (i + 1) < U.left 64 i ∧ arI .add .i64 i 1 = i + 1 ∧ (listTo s i).length ≤ 64 := fun i hi hc => by
    obtain ⟨q1, q2, q3⟩ := lat_step hi hc
    exact ⟨_, hcH i, listTo_next hi.1, q1, q2, q3, Nat.le_trans listTo_len (by have := hi.2; omega)⟩
  have hend : ∀ i, LAt i → decide (i ≤ 63) = false → listTo s i = listN s := fun i hi hc => by rw [lat_end hi hc]; rfl
  clear hcH

  refine acalls_symF tabF_ok fn13 rfl rfl rfl (by kernel_rfl) ?_
  rintro ⟨lt, le, eq, se, ar, dv, una, conv, len, sln, nat, nth, ixs, cel, sto, app, cpy, slc, mak, ixv, oth, dk, ib, call⟩ hS hm Q hQ
  obtain ⟨hlt, hle, heq, hse, har, hdv, huna, hconv, hlen, hsln, hnat, hnth, hixs, hcel, hsto, happ, hcpy, hslc, hmak, hixv, hoth, hdk, hib, hcall⟩ := Sym.mk.inj hS
  clear hS
  have hnt : ∀ n : Nat, nat n = U.natI n := fun n => by rw [hnat]; rfl
  have hbox : ∀ e c off, cel (some ⟨e, [c]⟩) 0 off = if off ≤ c.length then some (c.drop off) else none := fun e c off => by rw [hcel]; rfl
  have hsbox : ∀ e c off sz y, sto (some ⟨e, [c]⟩) 0 off sz y = if y.cells.length = sz ∧ off + sz ≤ c.length ∧ y.cells.all AV.one = true then some ⟨e, [spl c off y.cells]⟩ else none := fun e c off sz y => by rw [hsto]; rfl
  have hcaw : ∀ {f args T base K}, CallK Try.prog f args T base K → call f args T base K := fun h => by rw [hcall]; exact h
  have hcal : ∀ {f args T base} {K : AV → Table → List Nat → List Nat → Prop}, (∃ args' ids val rows, Hands T ids args args' (val base) (rows base) ∧ ACalls Try.prog f args' val rows ∧ (rows base).length ≤ 8 ∧ K (val base) (adopt T base (rows base)) ids ((List.range (rows base).length).map (base + ·))) → call f args T base K := fun h => hcaw (call_own h)
  have hap : ∀ (T : Table) (id k0 k n n2 : Nat) (X Y : List (List AV)) (v : Int), Y = X ++ [[.flat (.int .i64 v)]] → n = X.length → n2 = n + 1 → n2 ≤ 1000000 → T k0 = some ⟨3, X⟩ → T k = some ⟨3, [[.flat (.int .i64 v)]]⟩ → k ≠ k0 → app T id 24 24 (.sl k0 0 n) (.sl k 0 1) = some (.sl id 0 n2, (T.set k0 none).set id (some ⟨3, Y⟩)) := fun T id k0 k n n2 X Y v h0 h1 h2 h3 h4 h5 h6 => by
    subst h0; rw [happ]; exact app_int h1 h2 h3 h4 h5 h6
  have hstep2 : ∀ i, LAt i → le i 63 = true → ∃ w, ACalls Try.prog 17 [.flat (.int .u64 a), .flat (.int .i64 i)] (fun _ => .flat (.bool w)) (fun _ => []) ∧ (listTo s (i + 1) = listTo s i ++ if w = true then [i] else []) ∧ LAt (i + 1) ∧ U.left 64 (i + 1) < U.left 64 i ∧ ar .add .i64 i 1 = i + 1 ∧ (listTo s i).length ≤ 64 := fun i hi hc => by
    obtain ⟨w, h⟩ := hstep i hi (by rw [hle] at hc; exact hc)
    exact ⟨w, h.1, h.2.1, h.2.2.1, h.2.2.2.1, by rw [har]; exact h.2.2.2.2.1, h.2.2.2.2.2⟩
  have hz : LAt 0 := ⟨by decide, by decide⟩
  have hz0 : ([] : List (List AV)) = (listTo s 0).map intC := rfl
  cbv
  refine MW_loopZ hm [.slot 3 3] [24] [0, 3, 4] 5 (by simp) (fun mz st => ∃ (i : Int) (n : Nat) (Y : List (List AV)), LAt i ∧ Y = (listTo s i).map intC ∧ n = Y.length ∧ mz = U.left 64 i ∧ st = stOf [.flat (.int .u64 a), .dead, .dead, .sl 0 0 n, .flat (.int .i64 i)] [some ⟨3, Y⟩] 1) (U.left 64 0) ?_ ?_
  · exact ⟨0, 0, [], hz, hz0, rfl, rfl, cut_eq (by cbv) (cutRows_cons (by rfl) (fun c hc => by cases hc) rfl)⟩
  rintro mz st ⟨i, n, Y, hi, hY, hnY, hmz, rfl⟩
  cases hc : le i 63
  · have he := hend i hi (by rw [hle] at hc; exact hc)
    rw [he] at hY
    have hn2 : n = (listN s).length := by rw [hnY, hY, List.length_map]
    cbv
    rw [hc]; cbv
    refine hQ _ _ trivial ?_
    rw [← hY, ← hn2]
    exact leaves_own (k := 0) (n := n) (by cbv) (by rfl) (by rw [hY]; exact closed_map fun _ => rfl)
  obtain ⟨w, hcw, x1, x2, x3, x4, x5⟩ := hstep2 i hi hc
  have hYl : Y.length ≤ 64 := by rw [hY, List.length_map]; exact x5
  obtain ⟨n2, hn2⟩ : ∃ n2, n2 = n + 1 := ⟨_, rfl⟩
  obtain ⟨Y2, hY2⟩ : ∃ Y2, Y2 = Y ++ [[.flat (.int .i64 i)]] := ⟨_, rfl⟩
  have ha := fun T id k0 k => hap T id k0 k n n2 Y Y2 i hY2 hnY hn2 (by omega)
  generalize i + 1 = i2 at x1 x2 x3 x4
  cbv
  rw [hc]; cbv
  refine hcal ⟨_, [], _, _, .inl ⟨rfl, by cbv⟩, hcw, by simp, ?_⟩
  cbv
  cases w
  · rw [if_neg (by decide), List.append_nil] at x1
    cbv
    rw [x4]
    exact ⟨[0], [0, 3, 4], 5, U.left 64 i2, hmz ▸ x3, by simp, i2, n, Y, x2, by rw [x1]; exact hY, hnY, rfl, cut_eq (by cbv) (cutRows_cons (by rfl) (by rw [hY]; exact closed_map fun _ => rfl) rfl)⟩
  rw [if_pos rfl] at x1
  cbv
  rw [ha _ _ _ _ (by rfl) (by rfl) (by decide)]; cbv
  rw [x4]
  exact ⟨[65], [0, 3, 4], 5, U.left 64 i2, hmz ▸ x3, by simp, i2, n2, Y2, x2, by rw [x1, List.map_append, ← hY]; exact hY2, by rw [hY2, List.length_append, hn2, hnY]; rfl, rfl, cut_eq (by cbv) (cutRows_cons (by rfl) (by rw [hY2]; intro c hc; rcases List.mem_append.1 hc with h | h; exact (by rw [hY]; exact closed_map fun _ => rfl : ∀ c ∈ Y, closedAll [] c = true) c h; simp only [List.mem_cons, List.not_mem_nil, or_false] at h; subst h; rfl) rfl)⟩
end Go.Proofs.Ythilmgpciiopnaa.F
