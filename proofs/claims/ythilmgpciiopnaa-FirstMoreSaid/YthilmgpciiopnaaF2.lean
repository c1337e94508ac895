/- Contracts: rows, alike? (of rows that are alike); first.List; the example. -/
import Derived.Test.YthilmgpciiopnaaF1
namespace Go.Proofs.Ythilmgpciiopnaa.F
open Go G U K
set_option linter.unusedVariables false
set_option linter.unusedSimpArgs false
set_option maxRecDepth 100000
set_option maxHeartbeats 4000000
theorem fn49 : Try.prog.funcs[49]? = some Try.f49 := by kernel_rfl
theorem fn29 : Try.prog.funcs[29]? = some Try.f29 := by kernel_rfl
theorem fn31 : Try.prog.funcs[31]? = some Try.f31 := by kernel_rfl
theorem fn13 : Try.prog.funcs[13]? = some Try.f13 := by kernel_rfl
theorem fn12 : Try.prog.funcs[12]? = some Try.f12 := by kernel_rfl
def intC (k : Int) : List AV := [.flat (.int .i64 k)]
def boolC (b : Bool) : List AV := [.flat (.bool b)]
def setC (n : Nat) : List AV := [.flat (.int .u64 (n : Int))]
theorem dvb (b : Bool) : dvOf Try.prog .neq 4 (.flat (.bool b)) (.flat (.bool b)) = some (.flat (.bool false)) := by
  rw [dvOf_eq]
  intro x y
  cases b <;> kernel_rfl
theorem flat_int (l : List Int) : flatRow (l.map intC) := flat_map (fun a x hx => by
  simp only [intC, List.mem_cons, List.not_mem_nil, or_false] at hx; subst hx; exact ⟨rfl, rfl⟩) l
theorem flat_bool (l : List Bool) : flatRow (l.map boolC) := flat_map (fun a x hx => by
  simp only [boolC, List.mem_cons, List.not_mem_nil, or_false] at hx; subst hx; exact ⟨rfl, rfl⟩) l
theorem flat_set (l : List Nat) : flatRow (l.map setC) := flat_map (fun a x hx => by
  simp only [setC, List.mem_cons, List.not_mem_nil, or_false] at hx; subst hx; exact ⟨rfl, rfl⟩) l
theorem sameInt_calls (a : List Int) (hs : a.length ≤ 1000) : ACalls Try.prog 49 [.ro (a.map intC), .ro (a.map intC)] (fun _ => .flat (.bool true)) (fun _ => []) := by
  refine acalls_sym tab_ok fn49 rfl rfl rfl (by kernel_rfl) ?_
  have hfin : ∀ st, resA Try.prog Try.f49 st = some (.flat (.bool true)) → G.Leaves Try.prog Try.f49 (fun _ => .flat (.bool true)) (fun _ => []) st := fun st h => G.Leaves.plain h rfl
  obtain ⟨X, hX⟩ : ∃ X, X = a.map intC := ⟨_, rfl⟩
  rw [← hX]
  rintro ⟨lt, le, eq, se, ar, dv, una, conv, len, sln, nat, nth, ixs, cel, sto, app, cpy, slc, mak, ixv, oth, dk, ib, call⟩ hS hm Q hQ
  obtain ⟨hlt, hle, heq, hse, har, hdv, huna, hconv, hlen, hsln, hnat, hnth, hixs, hcel, hsto, happ, hcpy, hslc, hmak, hixv, hoth, hdk, hib, hcall⟩ := Sym.mk.inj hS
  clear hS
  have hbox : ∀ e c off, cel (some ⟨e, [c]⟩) 0 off = if off ≤ c.length then some (c.drop off) else none := fun e c off => by rw [hcel]; rfl
  have hsbox : ∀ e c off sz y, sto (some ⟨e, [c]⟩) 0 off sz y = if y.cells.length = sz ∧ off + sz ≤ c.length ∧ y.cells.all AV.one = true then some ⟨e, [spl c off y.cells]⟩ else none := fun e c off sz y => by rw [hsto]; rfl
  have hcal : ∀ {f args T base K}, CallK Try.prog f args T base K → call f args T base K := fun h => by rw [hcall]; exact h
  have hn : len X = a.length := by rw [hlen, hX, len_map]
  have heqr : ∀ v, eq v v = true := fun v => by rw [heq]; exact decide_eq_true rfl
  have hdvb : ∀ v, dv .neq 4 (.flat (.bool v)) (.flat (.bool v)) = some (.flat (.bool false)) := fun v => by rw [hdv]; exact dvb v
  cbv
  rw [heqr]; cbv
  refine MW_loop hm [] [0, 1, 5] 6 List.nodup_nil (fun k st => ∃ i : Int, At a i ∧ k = left a.length i ∧ st = stOf [.ro X, .ro X, .dead, .dead, .dead, .flat (.int .i64 i)] [] 0) (left a.length 0) ?_ ?_
  · exact ⟨0, at_zero a, rfl, cut_eq (by cbv) (by cbv)⟩
  · rintro k st ⟨i, hi, hk, rfl⟩
    cbv
    cases hc : lt i (len X)
    · cbv
      exact hQ _ _ trivial (hfin _ (by cbv))
    · have hc' : decide (i < (a.length : Int)) = true := by rw [hlt, hn] at hc; exact hc
      obtain ⟨_, h0, h1⟩ := at_lt hi hc'
      obtain ⟨q1, q2⟩ := at_step hi hc'
      have hix : nth X i 1 = some (.rp [.flat (.int .i64 (atI a i))]) := by rw [hnth, hX]; exact nth_map (fun _ => rfl) h0 h1
      have hadd : ar .add .i64 i 1 = i + 1 := by rw [har]; exact at_add (Nat.le_trans hs (by decide)) hi hc'
      generalize atI a i = v at hix
      generalize i + 1 = i2 at hadd q1 q2
      cbv
      refine ⟨by rw [hdk]; kernel_rfl, ?_⟩
      repeat (first | (rw [hix]; cbv) | (rw [heqr]; cbv))
      refine ⟨by rw [hib]; kernel_rfl, ?_⟩
      cbv
      rw [hadd]
      exact ⟨[], [0, 1, 5], 6, left a.length i2, hk ▸ q2, List.nodup_nil, i2, q1, rfl, cut_eq (by cbv) (by cbv)⟩
theorem sameBool_calls (a : List Bool) (hs : a.length ≤ 1000) : ACalls Try.prog 29 [.ro (a.map boolC), .ro (a.map boolC)] (fun _ => .flat (.bool true)) (fun _ => []) := by
  refine acalls_sym tab_ok fn29 rfl rfl rfl (by kernel_rfl) ?_
  have hfin : ∀ st, resA Try.prog Try.f29 st = some (.flat (.bool true)) → G.Leaves Try.prog Try.f29 (fun _ => .flat (.bool true)) (fun _ => []) st := fun st h => G.Leaves.plain h rfl
  obtain ⟨X, hX⟩ : ∃ X, X = a.map boolC := ⟨_, rfl⟩
  rw [← hX]
  rintro ⟨lt, le, eq, se, ar, dv, una, conv, len, sln, nat, nth, ixs, cel, sto, app, cpy, slc, mak, ixv, oth, dk, ib, call⟩ hS hm Q hQ
  obtain ⟨hlt, hle, heq, hse, har, hdv, huna, hconv, hlen, hsln, hnat, hnth, hixs, hcel, hsto, happ, hcpy, hslc, hmak, hixv, hoth, hdk, hib, hcall⟩ := Sym.mk.inj hS
  clear hS
  have hbox : ∀ e c off, cel (some ⟨e, [c]⟩) 0 off = if off ≤ c.length then some (c.drop off) else none := fun e c off => by rw [hcel]; rfl
  have hsbox : ∀ e c off sz y, sto (some ⟨e, [c]⟩) 0 off sz y = if y.cells.length = sz ∧ off + sz ≤ c.length ∧ y.cells.all AV.one = true then some ⟨e, [spl c off y.cells]⟩ else none := fun e c off sz y => by rw [hsto]; rfl
  have hcal : ∀ {f args T base K}, CallK Try.prog f args T base K → call f args T base K := fun h => by rw [hcall]; exact h
  have hn : len X = a.length := by rw [hlen, hX, len_map]
  have heqr : ∀ v, eq v v = true := fun v => by rw [heq]; exact decide_eq_true rfl
  have hdvb : ∀ v, dv .neq 4 (.flat (.bool v)) (.flat (.bool v)) = some (.flat (.bool false)) := fun v => by rw [hdv]; exact dvb v
  cbv
  rw [heqr]; cbv
  refine MW_loop hm [] [0, 1, 5] 6 List.nodup_nil (fun k st => ∃ i : Int, At a i ∧ k = left a.length i ∧ st = stOf [.ro X, .ro X, .dead, .dead, .dead, .flat (.int .i64 i)] [] 0) (left a.length 0) ?_ ?_
  · exact ⟨0, at_zero a, rfl, cut_eq (by cbv) (by cbv)⟩
  · rintro k st ⟨i, hi, hk, rfl⟩
    cbv
    cases hc : lt i (len X)
    · cbv
      exact hQ _ _ trivial (hfin _ (by cbv))
    · have hc' : decide (i < (a.length : Int)) = true := by rw [hlt, hn] at hc; exact hc
      obtain ⟨_, h0, h1⟩ := at_lt hi hc'
      obtain ⟨q1, q2⟩ := at_step hi hc'
      have hix : nth X i 1 = some (.rp [.flat (.bool (atI a i))]) := by rw [hnth, hX]; exact nth_map (fun _ => rfl) h0 h1
      have hadd : ar .add .i64 i 1 = i + 1 := by rw [har]; exact at_add (Nat.le_trans hs (by decide)) hi hc'
      generalize atI a i = v at hix
      generalize i + 1 = i2 at hadd q1 q2
      cbv
      refine ⟨by rw [hdk]; kernel_rfl, ?_⟩
      repeat (first | (rw [hix]; cbv) | (rw [hdvb]; cbv))
      refine ⟨by rw [hib]; kernel_rfl, ?_⟩
      cbv
      rw [hadd]
      exact ⟨[], [0, 1, 5], 6, left a.length i2, hk ▸ q2, List.nodup_nil, i2, q1, rfl, cut_eq (by cbv) (by cbv)⟩
theorem sameSet_calls (a : List Nat) (hs : a.length ≤ 1000) : ACalls Try.prog 31 [.ro (a.map setC), .ro (a.map setC)] (fun _ => .flat (.bool true)) (fun _ => []) := by
  refine acalls_sym tab_ok fn31 rfl rfl rfl (by kernel_rfl) ?_
  have hfin : ∀ st, resA Try.prog Try.f31 st = some (.flat (.bool true)) → G.Leaves Try.prog Try.f31 (fun _ => .flat (.bool true)) (fun _ => []) st := fun st h => G.Leaves.plain h rfl
  obtain ⟨X, hX⟩ : ∃ X, X = a.map setC := ⟨_, rfl⟩
  rw [← hX]
  rintro ⟨lt, le, eq, se, ar, dv, una, conv, len, sln, nat, nth, ixs, cel, sto, app, cpy, slc, mak, ixv, oth, dk, ib, call⟩ hS hm Q hQ
  obtain ⟨hlt, hle, heq, hse, har, hdv, huna, hconv, hlen, hsln, hnat, hnth, hixs, hcel, hsto, happ, hcpy, hslc, hmak, hixv, hoth, hdk, hib, hcall⟩ := Sym.mk.inj hS
  clear hS
  have hbox : ∀ e c off, cel (some ⟨e, [c]⟩) 0 off = if off ≤ c.length then some (c.drop off) else none := fun e c off => by rw [hcel]; rfl
  have hsbox : ∀ e c off sz y, sto (some ⟨e, [c]⟩) 0 off sz y = if y.cells.length = sz ∧ off + sz ≤ c.length ∧ y.cells.all AV.one = true then some ⟨e, [spl c off y.cells]⟩ else none := fun e c off sz y => by rw [hsto]; rfl
  have hcal : ∀ {f args T base K}, CallK Try.prog f args T base K → call f args T base K := fun h => by rw [hcall]; exact h
  have hn : len X = a.length := by rw [hlen, hX, len_map]
  have heqr : ∀ v, eq v v = true := fun v => by rw [heq]; exact decide_eq_true rfl
  have hdvb : ∀ v, dv .neq 4 (.flat (.bool v)) (.flat (.bool v)) = some (.flat (.bool false)) := fun v => by rw [hdv]; exact dvb v
  cbv
  rw [heqr]; cbv
  refine MW_loop hm [] [0, 1, 5] 6 List.nodup_nil (fun k st => ∃ i : Int, At a i ∧ k = left a.length i ∧ st = stOf [.ro X, .ro X, .dead, .dead, .dead, .flat (.int .i64 i)] [] 0) (left a.length 0) ?_ ?_
  · exact ⟨0, at_zero a, rfl, cut_eq (by cbv) (by cbv)⟩
  · rintro k st ⟨i, hi, hk, rfl⟩
    cbv
    cases hc : lt i (len X)
    · cbv
      exact hQ _ _ trivial (hfin _ (by cbv))
    · have hc' : decide (i < (a.length : Int)) = true := by rw [hlt, hn] at hc; exact hc
      obtain ⟨_, h0, h1⟩ := at_lt hi hc'
      obtain ⟨q1, q2⟩ := at_step hi hc'
      have hix : nth X i 1 = some (.rp [.flat (.int .u64 (((atI a i : Nat) : Int)))]) := by rw [hnth, hX]; exact nth_map (fun _ => rfl) h0 h1
      have hadd : ar .add .i64 i 1 = i + 1 := by rw [har]; exact at_add (Nat.le_trans hs (by decide)) hi hc'
      generalize ((atI a i : Nat) : Int) = v at hix
      generalize i + 1 = i2 at hadd q1 q2
      cbv
      refine ⟨by rw [hdk]; kernel_rfl, ?_⟩
      repeat (first | (rw [hix]; cbv) | (rw [heqr]; cbv))
      refine ⟨by rw [hib]; kernel_rfl, ?_⟩
      cbv
      rw [hadd]
      exact ⟨[], [0, 1, 5], 6, left a.length i2, hk ▸ q2, List.nodup_nil, i2, q1, rfl, cut_eq (by cbv) (by cbv)⟩
/-- Those that are there, up to a number. -/
def listTo (s : Nat) (i : Int) : List Int := ((List.range i.toNat).map fun (k : Nat) => (k : Int)).filter (hasN s)
theorem listTo_next {s : Nat} {i : Int} (h0 : 0 ≤ i) : listTo s (i + 1) = listTo s i ++ if hasN s i = true then [i] else [] := by
  have e : (i + 1).toNat = i.toNat + 1 := by omega
  have e2 : ((i.toNat : Nat) : Int) = i := by omega
  rw [listTo, e, List.range_succ, List.map_append, List.filter_append]
  simp only [List.map_cons, List.map_nil, e2, List.filter_cons, List.filter_nil]
  rfl
theorem listTo_len {s : Nat} {i : Int} : (listTo s i).length ≤ i.toNat := by
  refine Nat.le_trans (List.length_filter_le _ _) ?_
  simp
def listN (s : Nat) : List Int := listTo s 64
def LAt (i : Int) : Prop := 0 ≤ i ∧ i ≤ 64
theorem lat_end {i : Int} (h : LAt i) (hc : decide (i ≤ 63) = false) : i = 64 := by
  obtain ⟨h0, h1⟩ := h
  simp only [decide_eq_false_iff_not] at hc
  omega
theorem lat_step {i : Int} (h : LAt i) (hc : decide (i ≤ 63) = true) : LAt (i + 1) ∧ U.left 64 (i + 1) < U.left 64 i ∧ arI .add .i64 i 1 = i + 1 := by
  obtain ⟨h0, h1⟩ := h
  simp only [decide_eq_true_eq] at hc
  exact ⟨⟨by omega, by omega⟩, by unfold U.left; omega, ar_add64 (by omega) (by omega)⟩
theorem list_calls (s : Nat) (hs : s < 18446744073709551616) : ACalls Try.prog 13 [uV s] (fun k => slV k ((listN s).map intC).length) (fun _ => slR 3 ((listN s).map intC)) := by
  have hcH := fun n => has_calls s hs n
  unfold uV at hcH ⊢
  generalize (s : Int) = a at hcH ⊢
  refine acalls_sym tab_ok fn13 rfl rfl rfl (by kernel_rfl) ?_
  rintro ⟨lt, le, eq, se, ar, dv, una, conv, len, sln, nat, nth, ixs, cel, sto, app, cpy, slc, mak, ixv, oth, dk, ib, call⟩ hS hm Q hQ
  obtain ⟨hlt, hle, heq, hse, har, hdv, huna, hconv, hlen, hsln, hnat, hnth, hixs, hcel, hsto, happ, hcpy, hslc, hmak, hixv, hoth, hdk, hib, hcall⟩ := Sym.mk.inj hS
  clear hS
  have hbox : ∀ e c off, cel (some ⟨e, [c]⟩) 0 off = if off ≤ c.length then some (c.drop off) else none := fun e c off => by rw [hcel]; rfl
  have hsbox : ∀ e c off sz y, sto (some ⟨e, [c]⟩) 0 off sz y = if y.cells.length = sz ∧ off + sz ≤ c.length ∧ y.cells.all AV.one = true then some ⟨e, [spl c off y.cells]⟩ else none := fun e c off sz y => by rw [hsto]; rfl
  have hcal : ∀ {f args T base K}, CallK Try.prog f args T base K → call f args T base K := fun h => by rw [hcall]; exact h
  cbv
  refine MW_loop hm [] [0, 3, 4] 5 List.nodup_nil (fun k st => ∃ i : Int, LAt i ∧ k = left 64 i ∧
    ((listTo s i = [] ∧ st = stOf [.flat (.int .u64 a), .dead, .dead, .flat (.slice none 0 0), .flat (.int .i64 i)] [] 0) ∨
     ∃ (n : Nat) (Y : List (List AV)), n ≠ 0 ∧ Y = (listTo s i).map intC ∧ n = Y.length ∧ st = stOf [.flat (.int .u64 a), .dead, .dead, .sl 0 0 n, .flat (.int .i64 i)] [some ⟨3, Y⟩] 1)) (left 64 0) ?_ ?_
  · exact ⟨0, ⟨by decide, by decide⟩, rfl, .inl ⟨rfl, cut_eq (by cbv) (by cbv)⟩⟩
  · rintro k st ⟨i, hi, hk, ⟨h0, rfl⟩ | ⟨n, Y, hn0, hY, hnY, rfl⟩⟩
    · cbv
      cases hc : le i 63
      · have hc' : decide (i ≤ 63) = false := by rw [hle] at hc; exact hc
        obtain rfl := lat_end hi hc'
        cbv
        refine hQ _ _ trivial ?_
        exact leaves_nil (by cbv) (by rw [listN, h0]; rfl)
      · have hc' : decide (i ≤ 63) = true := by rw [hle] at hc; exact hc
        obtain ⟨q1, q2, q3⟩ := lat_step hi hc'
        have hadd : ar .add .i64 i 1 = i + 1 := by rw [har]; exact q3
        have hnext := listTo_next (s := s) hi.1
        have hll := listTo_len (s := s) (i := i)
        have hi64 := hi.2
        have hcHi := hcH i
        cbv
        generalize hasN s i = w at hcHi hnext
        refine hcal ⟨_, [], _, _, .inl ⟨rfl, by cbv⟩, hcHi, by simp, ?_⟩
        cbv
        cases w
        · rw [if_neg (by decide), List.append_nil] at hnext
          cbv
          rw [hadd]
          generalize i + 1 = i2 at q1 q2 hnext ⊢
          exact ⟨[], [0, 3, 4], 5, left 64 i2, hk ▸ q2, List.nodup_nil, i2, q1, rfl, .inl ⟨hnext.trans h0, cut_eq (by cbv) (by cbv)⟩⟩
        · rw [if_pos rfl, h0, List.nil_append] at hnext
          cbv
          obtain ⟨Y', hY'⟩ : ∃ Y', Y' = [[AV.flat (.int .i64 i)]] := ⟨_, rfl⟩
          obtain ⟨n', hn'⟩ : ∃ n' : Nat, n' = 1 := ⟨_, rfl⟩
          rw [happ, app_nil (n := n') (Y := Y') (z := .int .i64 0) (sz := 1) (b := 8) (by kernel_rfl) (by kernel_rfl) (by kernel_rfl) (by decide) rfl (by decide) (by rfl) rfl hn' hY']; cbv
          rw [hadd]
          have hYn : Y' = (listTo s (i + 1)).map intC := by rw [hnext, hY']; rfl
          generalize i + 1 = i2 at q1 q2 hYn ⊢
          exact ⟨[64], [0, 3, 4], 5, left 64 i2, hk ▸ q2, by simp, i2, q1, rfl, .inr ⟨n', Y', by rw [hn']; decide, hYn, by rw [hn', hY']; rfl, cut_eq (by cbv) (cutRows_cons (by rfl) (by rw [hYn]; exact closed_map fun _ => rfl) rfl)⟩⟩
    · cbv
      cases hc : le i 63
      · have hc' : decide (i ≤ 63) = false := by rw [hle] at hc; exact hc
        obtain rfl := lat_end hi hc'
        cbv
        refine hQ _ _ trivial ?_
        rw [listN, ← hY]
        exact leaves_own (k := 0) (n := n) (by cbv) (by rfl) (by rw [hY]; exact closed_map fun _ => rfl) hnY hn0
      · have hc' : decide (i ≤ 63) = true := by rw [hle] at hc; exact hc
        obtain ⟨q1, q2, q3⟩ := lat_step hi hc'
        have hadd : ar .add .i64 i 1 = i + 1 := by rw [har]; exact q3
        have hnext := listTo_next (s := s) hi.1
        have hll := listTo_len (s := s) (i := i)
        have hi64 := hi.2
        have hcHi := hcH i
        cbv
        generalize hasN s i = w at hcHi hnext
        refine hcal ⟨_, [], _, _, .inl ⟨rfl, by cbv⟩, hcHi, by simp, ?_⟩
        cbv
        cases w
        · rw [if_neg (by decide), List.append_nil] at hnext
          cbv
          rw [hadd]
          generalize i + 1 = i2 at q1 q2 hnext ⊢
          exact ⟨[0], [0, 3, 4], 5, left 64 i2, hk ▸ q2, by simp, i2, q1, rfl, .inr ⟨n, Y, hn0, by rw [hnext]; exact hY, hnY, cut_eq (by cbv) (cutRows_cons (by rfl) (by rw [hY]; exact closed_map fun _ => rfl) rfl)⟩⟩
        · rw [if_pos rfl] at hnext
          obtain ⟨Y', hY'⟩ : ∃ Y', Y' = Y ++ [[AV.flat (.int .i64 i)]] := ⟨_, rfl⟩
          obtain ⟨n', hn'⟩ : ∃ n' : Nat, n' = n + 1 := ⟨_, rfl⟩
          have hYn : Y' = (listTo s (i + 1)).map intC := by rw [hnext, hY', List.map_append, ← hY]; rfl
          have hle' : n' ≤ 1000000 := by
            have : Y.length = (listTo s i).length := by rw [hY, List.length_map]
            omega
          cbv
          rw [happ, app_tip (X := Y) (Y := Y') (n' := n') (z := .int .i64 0) (sz := 1) (b := 8) (by kernel_rfl) (by kernel_rfl) (by kernel_rfl) (by decide) rfl (by decide) (by rfl) (by rfl) rfl hnY hn' hY' hle']; cbv
          rw [hadd]
          generalize i + 1 = i2 at q1 q2 hYn ⊢
          exact ⟨[65], [0, 3, 4], 5, left 64 i2, hk ▸ q2, by simp, i2, q1, rfl, .inr ⟨n', Y', by omega, hYn, by rw [hn', hY', hnY]; simp, cut_eq (by cbv) (cutRows_cons (by rfl) (by rw [hYn]; exact closed_map fun _ => rfl) rfl)⟩⟩
theorem list_five : listN 5 = [0, 2] := by decide
theorem awake_calls : ACalls Try.prog 12 [] (fun _ => .flat (.bool true)) (fun _ => []) := by
  refine acalls_sym tab_ok fn12 rfl rfl rfl (by kernel_rfl) ?_
  have hfin : ∀ st, resA Try.prog Try.f12 st = some (.flat (.bool true)) → G.Leaves Try.prog Try.f12 (fun _ => .flat (.bool true)) (fun _ => []) st := fun st h => G.Leaves.plain h rfl
  have hcL : ACalls Try.prog 13 [.flat (.int .u64 5)] (fun k => .sl k 0 2) (fun _ => [⟨3, [[.flat (.int .i64 0)], [.flat (.int .i64 2)]]⟩]) := by
    have h := list_calls 5 (by decide)
    rw [list_five] at h
    exact h
  have hcS : ACalls Try.prog 49 [.ro [[.flat (.int .i64 0)], [.flat (.int .i64 2)]], .ro [[.flat (.int .i64 0)], [.flat (.int .i64 2)]]] (fun _ => .flat (.bool true)) (fun _ => []) := sameInt_calls [0, 2] (by decide)
  rintro ⟨lt, le, eq, se, ar, dv, una, conv, len, sln, nat, nth, ixs, cel, sto, app, cpy, slc, mak, ixv, oth, dk, ib, call⟩ hS hm Q hQ
  obtain ⟨hlt, hle, heq, hse, har, hdv, huna, hconv, hlen, hsln, hnat, hnth, hixs, hcel, hsto, happ, hcpy, hslc, hmak, hixv, hoth, hdk, hib, hcall⟩ := Sym.mk.inj hS
  clear hS
  have hbox : ∀ e c off, cel (some ⟨e, [c]⟩) 0 off = if off ≤ c.length then some (c.drop off) else none := fun e c off => by rw [hcel]; rfl
  have hsbox : ∀ e c off sz y, sto (some ⟨e, [c]⟩) 0 off sz y = if y.cells.length = sz ∧ off + sz ≤ c.length ∧ y.cells.all AV.one = true then some ⟨e, [spl c off y.cells]⟩ else none := fun e c off sz y => by rw [hsto]; rfl
  have hcal : ∀ {f args T base K}, CallK Try.prog f args T base K → call f args T base K := fun h => by rw [hcall]; exact h
  cbv
  refine hcal ⟨_, [], _, _, .inl ⟨rfl, by cbv⟩, hcL, by simp, ?_⟩
  cbv
  refine hcal ⟨[.ro [[.flat (.int .i64 0)], [.flat (.int .i64 2)]], .ro [[.flat (.int .i64 0)], [.flat (.int .i64 2)]]], [8, 16], _, _, hands_deep ⟨deep_row (by simp) (by rfl) rfl (flat_int [0, 2]).read, deep_row (by simp) (by rfl) rfl (flat_int [0, 2]).read, trivial⟩ rfl (fun r hr => by cases hr), hcS, by simp, ?_⟩
  cbv
  exact hQ _ _ trivial (hfin _ (by cbv))
end Go.Proofs.Ythilmgpciiopnaa.F
