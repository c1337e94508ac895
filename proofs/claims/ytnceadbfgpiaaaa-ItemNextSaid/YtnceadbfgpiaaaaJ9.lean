/- Contracts: item.Next, Rest, Whole; the law ItemNext. -/
import Derived.Test.YtnceadbfgpiaaaaJ8
namespace Go.Proofs.Ytnceadbfgpiaaaa.J
open Go G U K I
set_option linter.unusedVariables false
set_option linter.unusedSimpArgs false
set_option maxRecDepth 100000
set_option maxHeartbeats 4000000
theorem next_on {g : GramT} {x : ItemT} (h : nextOk g x = true) : bodyOk g x.prod = true ∧ 0 ≤ x.dot ∧ x.dot < (bodyL g x.prod).length ∧ nthE ((bodyL g x.prod).map symC) x.dot 2 = some (.rp (symC (nextS g x))) := by
  have h2 := of_decide_eq_true h
  refine ⟨?_, h2.1, h2.2, ?_⟩
  · cases hb : bodyOk g x.prod
    · rw [body_off hb] at h2; have := h2.2; simp at this; omega
    · rfl
  · unfold nextS; rw [if_pos h]; exact nth_map (fun _ => rfl) h2.1 h2.2
theorem next_off {g : GramT} {x : ItemT} (h : nextOk g x = false) : nextS g x = ⟨false, 0⟩ ∧ ¬ (0 ≤ x.dot ∧ x.dot < (bodyL g x.prod).length) :=
  ⟨by unfold nextS; rw [if_neg (by rw [h]; decide)], of_decide_eq_false h⟩
theorem slc_sym (T : Table) (l : List SymT) (j : Int) (h0 : 0 ≤ j) (h1 : j ≤ l.length) : evSlice Try.prog T 42 (.ro (l.map symC)) (some (.flat (.int .i64 j))) none = some (.ro ((l.drop j.toNat).map symC)) := by
  have := slc_ro (P := Try.prog) (T := T) (t := 42) (X := l.map symC) (lo := some (.flat (.int .i64 j))) (hi := none) u42 z46 (fun c hc => by obtain ⟨s, _, rfl⟩ := List.mem_map.1 hc; rfl) (bnd_lo (k := .i64) h0 (by rw [List.length_map]; exact h1))
  rw [this, List.take_of_length_le (by simp), List.map_drop]
theorem next_calls (g : GramT) (x : ItemT) (hb : ∀ p ∈ g.prods, p.body.length ≤ 1000) : ACalls Try.prog 17 [gramV g, .agg (itemC x)] (fun _ => .tup [.agg (symC (nextS g x)), .flat (.bool (nextOk g x))]) (fun _ => []) := by
  have hcB := body_calls g x.prod
  have hBl : lenE ((bodyL g x.prod).map symC) = ((bodyL g x.prod).length : Int) := len_map _ _
  have hl := body_len hb x.prod
  have hN1 := @next_on g x
  have hN2 := @next_off g x
  generalize nextOk g x = no at *
  generalize nextS g x = ns at *
  unfold gramV gramL at hcB ⊢
  generalize g.rules.map ruleC = R at *
  generalize g.sorts.map strC = S at *
  generalize g.prods.map prodC = D at *
  generalize g.levels.map levC = V at *
  generalize g.start = start at *
  obtain ⟨BB, hBB⟩ : ∃ B, B = (bodyL g x.prod).map symC := ⟨_, rfl⟩
  rw [← hBB] at hcB hBl hN1
  generalize bodyOk g x.prod = ok at *
  generalize (bodyL g x.prod).length = bn at *
  obtain ⟨xa, xb, xc⟩ := x
  unfold itemC
  dsimp only at *
  clear hBB hb
  generalize (xc : Int) = xi
  obtain ⟨nb, nv⟩ := ns
  unfold symC at hN1 ⊢
  dsimp only at hN1 hN2 ⊢
  refine acalls_symF tabF_ok fn17 rfl rfl rfl (by kernel_rfl) ?_
  have hfin : ∀ st, resA Try.prog Try.f17 st = some (.tup [.agg [.flat (.bool nb), .flat (.int .i64 nv)], .flat (.bool no)]) → G.Leaves Try.prog Try.f17 (fun _ => .tup [.agg [.flat (.bool nb), .flat (.int .i64 nv)], .flat (.bool no)]) (fun _ => []) st := fun st h => G.Leaves.plain h rfl
  rintro ⟨lt, le, eq, se, ar, dv, una, conv, len, sln, nat, nth, ixs, cel, sto, app, cpy, slc, mak, ixv, oth, dk, ib, call⟩ hS hm Q hQ
  obtain ⟨hlt, hle, heq, hse, har, hdv, huna, hconv, hlen, hsln, hnat, hnth, hixs, hcel, hsto, happ, hcpy, hslc, hmak, hixv, hoth, hdk, hib, hcall⟩ := Sym.mk.inj hS
  clear hS
  have hnt : ∀ n : Nat, nat n = U.natI n := fun n => by rw [hnat]; rfl
  have hbox : ∀ e c off, cel (some ⟨e, [c]⟩) 0 off = if off ≤ c.length then some (c.drop off) else none := fun e c off => by rw [hcel]; rfl
  have hsbox : ∀ e c off sz y, sto (some ⟨e, [c]⟩) 0 off sz y = if y.cells.length = sz ∧ off + sz ≤ c.length ∧ y.cells.all AV.one = true then some ⟨e, [spl c off y.cells]⟩ else none := fun e c off sz y => by rw [hsto]; rfl
  have hcaw : ∀ {f args T base K}, CallK Try.prog f args T base K → call f args T base K := fun h => by rw [hcall]; exact h
  have hcal : ∀ {f args T base} {K : AV → Table → List Nat → List Nat → Prop}, (∃ args' ids val rows, Hands T ids args args' (val base) (rows base) ∧ ACalls Try.prog f args' val rows ∧ (rows base).length ≤ 8 ∧ K (val base) (adopt T base (rows base)) ids ((List.range (rows base).length).map (base + ·))) → call f args T base K := fun h => hcaw (call_own h)
  have eA : lt xb 0 = decide (xb < 0) := by rw [hlt]
  have eB : le (len BB) xb = decide ((bn : Int) ≤ xb) := by rw [hle, hlen, hBl]
  have k1 : no = true → ok = true ∧ lt xb 0 = false ∧ le (len BB) xb = false ∧ nth BB xb 2 = some (.rp [.flat (.bool nb), .flat (.int .i64 nv)]) := fun h => by
    obtain ⟨q1, q2, q3, q4⟩ := hN1 h
    exact ⟨q1, by rw [eA]; exact decide_eq_false (by omega), by rw [eB]; exact decide_eq_false (by omega), by rw [hnth]; exact q4⟩
  have k2 : no = false → nb = false ∧ nv = 0 := fun h => by
    have := (hN2 h).1
    exact ⟨congrArg SymT.sort this, congrArg SymT.n this⟩
  have k3 : no = false → lt xb 0 = false → le (len BB) xb = false → False := fun h h1 h2 => (hN2 h).2 ⟨by have := of_decide_eq_false (eA ▸ h1); omega, by have := of_decide_eq_false (eB ▸ h2); omega⟩
  clear hN1 hN2 eA eB hBl
  cases no
  · obtain ⟨q1, q2⟩ := k2 rfl
    subst q1 q2
    clear k1
    cases ok
    · skip
      cbv
      repeat (first | (rw [hbox]; cbv) | (rw [hsbox]; cbv))
      refine hcal ⟨_, [], _, _, .inl ⟨rfl, by cbv⟩, hcB, by simp, ?_⟩
      cbv
      repeat (first | (rw [hbox]; cbv) | (rw [hsbox]; cbv))
      exact hQ _ _ trivial (hfin _ (by cbv))
    cases e1 : lt xb 0
    rotate_left
    · skip
      cbv
      repeat (first | (rw [hbox]; cbv) | (rw [hsbox]; cbv))
      refine hcal ⟨_, [], _, _, .inl ⟨rfl, by cbv⟩, hcB, by simp, ?_⟩
      cbv
      repeat (first | (rw [hbox]; cbv) | (rw [hsbox]; cbv))
      rw [e1]; cbv
      repeat (first | (rw [hbox]; cbv) | (rw [hsbox]; cbv))
      exact hQ _ _ trivial (hfin _ (by cbv))
    cases e2 : le (len BB) xb
    · exact (k3 rfl e1 e2).elim
    cbv
    repeat (first | (rw [hbox]; cbv) | (rw [hsbox]; cbv))
    refine hcal ⟨_, [], _, _, .inl ⟨rfl, by cbv⟩, hcB, by simp, ?_⟩
    cbv
    repeat (first | (rw [hbox]; cbv) | (rw [hsbox]; cbv))
    rw [e1]; cbv
    repeat (first | (rw [hbox]; cbv) | (rw [hsbox]; cbv))
    rw [e2]; cbv
    repeat (first | (rw [hbox]; cbv) | (rw [hsbox]; cbv))
    exact hQ _ _ trivial (hfin _ (by cbv))
  obtain ⟨q1, q2, q3, q4⟩ := k1 rfl
  subst q1
  cbv
  repeat (first | (rw [hbox]; cbv) | (rw [hsbox]; cbv))
  refine hcal ⟨_, [], _, _, .inl ⟨rfl, by cbv⟩, hcB, by simp, ?_⟩
  cbv
  repeat (first | (rw [hbox]; cbv) | (rw [hsbox]; cbv))
  rw [q2]; cbv
  repeat (first | (rw [hbox]; cbv) | (rw [hsbox]; cbv))
  rw [q3]; cbv
  repeat (first | (rw [hbox]; cbv) | (rw [hsbox]; cbv) | (rw [q4]; cbv))
  exact hQ _ _ trivial (hfin _ (by cbv))
theorem refNext_calls (g : GramT) (x : ItemT) (hb : ∀ p ∈ g.prods, p.body.length ≤ 1000) : ACalls Try.prog 18 [gramV g, .agg (itemC x)] (fun _ => .tup [.agg (symC (nextS g x)), .flat (.bool (nextOk g x))]) (fun _ => []) := by
  have hcB := refBody_calls g x.prod
  have hBl : lenE ((bodyL g x.prod).map symC) = ((bodyL g x.prod).length : Int) := len_map _ _
  have hl := body_len hb x.prod
  have hN1 := @next_on g x
  have hN2 := @next_off g x
  generalize nextOk g x = no at *
  generalize nextS g x = ns at *
  unfold gramV gramL at hcB ⊢
  generalize g.rules.map ruleC = R at *
  generalize g.sorts.map strC = S at *
  generalize g.prods.map prodC = D at *
  generalize g.levels.map levC = V at *
  generalize g.start = start at *
  obtain ⟨BB, hBB⟩ : ∃ B, B = (bodyL g x.prod).map symC := ⟨_, rfl⟩
  rw [← hBB] at hcB hBl hN1
  generalize bodyOk g x.prod = ok at *
  generalize (bodyL g x.prod).length = bn at *
  obtain ⟨xa, xb, xc⟩ := x
  unfold itemC
  dsimp only at *
  clear hBB hb
  generalize (xc : Int) = xi
  obtain ⟨nb, nv⟩ := ns
  unfold symC at hN1 ⊢
  dsimp only at hN1 hN2 ⊢
  refine acalls_symF tabF_ok fn18 rfl rfl rfl (by kernel_rfl) ?_
  have hfin : ∀ st, resA Try.prog Try.f18 st = some (.tup [.agg [.flat (.bool nb), .flat (.int .i64 nv)], .flat (.bool no)]) → G.Leaves Try.prog Try.f18 (fun _ => .tup [.agg [.flat (.bool nb), .flat (.int .i64 nv)], .flat (.bool no)]) (fun _ => []) st := fun st h => G.Leaves.plain h rfl
  rintro ⟨lt, le, eq, se, ar, dv, una, conv, len, sln, nat, nth, ixs, cel, sto, app, cpy, slc, mak, ixv, oth, dk, ib, call⟩ hS hm Q hQ
  obtain ⟨hlt, hle, heq, hse, har, hdv, huna, hconv, hlen, hsln, hnat, hnth, hixs, hcel, hsto, happ, hcpy, hslc, hmak, hixv, hoth, hdk, hib, hcall⟩ := Sym.mk.inj hS
  clear hS
  have hnt : ∀ n : Nat, nat n = U.natI n := fun n => by rw [hnat]; rfl
  have hbox : ∀ e c off, cel (some ⟨e, [c]⟩) 0 off = if off ≤ c.length then some (c.drop off) else none := fun e c off => by rw [hcel]; rfl
  have hsbox : ∀ e c off sz y, sto (some ⟨e, [c]⟩) 0 off sz y = if y.cells.length = sz ∧ off + sz ≤ c.length ∧ y.cells.all AV.one = true then some ⟨e, [spl c off y.cells]⟩ else none := fun e c off sz y => by rw [hsto]; rfl
  have hcaw : ∀ {f args T base K}, CallK Try.prog f args T base K → call f args T base K := fun h => by rw [hcall]; exact h
  have hcal : ∀ {f args T base} {K : AV → Table → List Nat → List Nat → Prop}, (∃ args' ids val rows, Hands T ids args args' (val base) (rows base) ∧ ACalls Try.prog f args' val rows ∧ (rows base).length ≤ 8 ∧ K (val base) (adopt T base (rows base)) ids ((List.range (rows base).length).map (base + ·))) → call f args T base K := fun h => hcaw (call_own h)
  have eA : lt xb 0 = decide (xb < 0) := by rw [hlt]
  have eB : le (len BB) xb = decide ((bn : Int) ≤ xb) := by rw [hle, hlen, hBl]
  have k1 : no = true → ok = true ∧ lt xb 0 = false ∧ le (len BB) xb = false ∧ nth BB xb 2 = some (.rp [.flat (.bool nb), .flat (.int .i64 nv)]) := fun h => by
    obtain ⟨q1, q2, q3, q4⟩ := hN1 h
    exact ⟨q1, by rw [eA]; exact decide_eq_false (by omega), by rw [eB]; exact decide_eq_false (by omega), by rw [hnth]; exact q4⟩
  have k2 : no = false → nb = false ∧ nv = 0 := fun h => by
    have := (hN2 h).1
    exact ⟨congrArg SymT.sort this, congrArg SymT.n this⟩
  have k3 : no = false → lt xb 0 = false → le (len BB) xb = false → False := fun h h1 h2 => (hN2 h).2 ⟨by have := of_decide_eq_false (eA ▸ h1); omega, by have := of_decide_eq_false (eB ▸ h2); omega⟩
  clear hN1 hN2 eA eB hBl
  cases no
  · obtain ⟨q1, q2⟩ := k2 rfl
    subst q1 q2
    clear k1
    cases e1 : lt xb 0
    rotate_left
    · skip
      cbv
      repeat (first | (rw [hbox]; cbv) | (rw [hsbox]; cbv))
      refine hcal ⟨_, [], _, _, .inl ⟨rfl, by cbv⟩, hcB, by simp, ?_⟩
      cbv
      repeat (first | (rw [hbox]; cbv) | (rw [hsbox]; cbv))
      rw [e1]; cbv
      repeat (first | (rw [hbox]; cbv) | (rw [hsbox]; cbv))
      exact hQ _ _ trivial (hfin _ (by cbv))
    cases e2 : le (len BB) xb
    · exact (k3 rfl e1 e2).elim
    cbv
    repeat (first | (rw [hbox]; cbv) | (rw [hsbox]; cbv))
    refine hcal ⟨_, [], _, _, .inl ⟨rfl, by cbv⟩, hcB, by simp, ?_⟩
    cbv
    repeat (first | (rw [hbox]; cbv) | (rw [hsbox]; cbv))
    rw [e1]; cbv
    repeat (first | (rw [hbox]; cbv) | (rw [hsbox]; cbv))
    rw [e2]; cbv
    repeat (first | (rw [hbox]; cbv) | (rw [hsbox]; cbv))
    exact hQ _ _ trivial (hfin _ (by cbv))
  obtain ⟨q1, q2, q3, q4⟩ := k1 rfl
  subst q1
  cbv
  repeat (first | (rw [hbox]; cbv) | (rw [hsbox]; cbv))
  refine hcal ⟨_, [], _, _, .inl ⟨rfl, by cbv⟩, hcB, by simp, ?_⟩
  cbv
  repeat (first | (rw [hbox]; cbv) | (rw [hsbox]; cbv))
  rw [q2]; cbv
  repeat (first | (rw [hbox]; cbv) | (rw [hsbox]; cbv))
  rw [q3]; cbv
  repeat (first | (rw [hbox]; cbv) | (rw [hsbox]; cbv) | (rw [q4]; cbv))
  exact hQ _ _ trivial (hfin _ (by cbv))
theorem rest_calls (g : GramT) (x : ItemT) (hb : ∀ p ∈ g.prods, p.body.length ≤ 1000) : ACalls Try.prog 19 [gramV g, .agg (itemC x)] (fun _ => .ro ((restL g x).map symC)) (fun _ => []) := by
  have hcB := body_calls g x.prod
  have hBl : lenE ((bodyL g x.prod).map symC) = ((bodyL g x.prod).length : Int) := len_map _ _
  have hl := body_len hb x.prod
  have hN1 : 0 ≤ x.dot → x.dot < ((bodyL g x.prod).length : Int) - 1 → ∀ T, evSlice Try.prog T 42 (.ro ((bodyL g x.prod).map symC)) (some (.flat (.int .i64 (x.dot + 1)))) none = some (.ro ((restL g x).map symC)) := fun h0 h1 T => by
    unfold restL; rw [if_pos ⟨h0, h1⟩]; exact slc_sym T _ _ (by omega) (by omega)
  have hN2 : ¬ (0 ≤ x.dot ∧ x.dot < ((bodyL g x.prod).length : Int) - 1) → (restL g x).map symC = [] := fun h => by unfold restL; rw [if_neg h]; rfl
  generalize (restL g x).map symC = RR at *
  unfold gramV gramL at hcB ⊢
  generalize g.rules.map ruleC = R at *
  generalize g.sorts.map strC = S at *
  generalize g.prods.map prodC = D at *
  generalize g.levels.map levC = V at *
  generalize g.start = start at *
  obtain ⟨BB, hBB⟩ : ∃ B, B = (bodyL g x.prod).map symC := ⟨_, rfl⟩
  rw [← hBB] at hcB hBl hN1
  generalize bodyOk g x.prod = ok at *
  generalize (bodyL g x.prod).length = bn at *
  obtain ⟨xa, xb, xc⟩ := x
  unfold itemC
  dsimp only at *
  clear hBB hb
  generalize (xc : Int) = xi
  refine acalls_symF tabF_ok fn19 rfl rfl rfl (by kernel_rfl) ?_
  have hfin : ∀ st, resA Try.prog Try.f19 st = some (.ro RR) → G.Leaves Try.prog Try.f19 (fun _ => .ro RR) (fun _ => []) st := fun st h => G.Leaves.plain h rfl
  rintro ⟨lt, le, eq, se, ar, dv, una, conv, len, sln, nat, nth, ixs, cel, sto, app, cpy, slc, mak, ixv, oth, dk, ib, call⟩ hS hm Q hQ
  obtain ⟨hlt, hle, heq, hse, har, hdv, huna, hconv, hlen, hsln, hnat, hnth, hixs, hcel, hsto, happ, hcpy, hslc, hmak, hixv, hoth, hdk, hib, hcall⟩ := Sym.mk.inj hS
  clear hS
  have hnt : ∀ n : Nat, nat n = U.natI n := fun n => by rw [hnat]; rfl
  have hbox : ∀ e c off, cel (some ⟨e, [c]⟩) 0 off = if off ≤ c.length then some (c.drop off) else none := fun e c off => by rw [hcel]; rfl
  have hsbox : ∀ e c off sz y, sto (some ⟨e, [c]⟩) 0 off sz y = if y.cells.length = sz ∧ off + sz ≤ c.length ∧ y.cells.all AV.one = true then some ⟨e, [spl c off y.cells]⟩ else none := fun e c off sz y => by rw [hsto]; rfl
  have hcaw : ∀ {f args T base K}, CallK Try.prog f args T base K → call f args T base K := fun h => by rw [hcall]; exact h
  have hcal : ∀ {f args T base} {K : AV → Table → List Nat → List Nat → Prop}, (∃ args' ids val rows, Hands T ids args args' (val base) (rows base) ∧ ACalls Try.prog f args' val rows ∧ (rows base).length ≤ 8 ∧ K (val base) (adopt T base (rows base)) ids ((List.range (rows base).length).map (base + ·))) → call f args T base K := fun h => hcaw (call_own h)
  obtain ⟨b1, hb1⟩ : ∃ b, b = (bn : Int) - 1 := ⟨_, rfl⟩
  obtain ⟨d1, hd1⟩ : ∃ b, b = xb + 1 := ⟨_, rfl⟩
  rw [← hb1, ← hd1] at hN1
  rw [← hb1] at hN2
  have eS : ar .sub .i64 (len BB) 1 = b1 := by rw [har, hlen, hBl, hb1]; exact ar_sub64 (by omega) (by omega)
  have eA : lt xb 0 = decide (xb < 0) := by rw [hlt]
  have eB : le b1 xb = decide (b1 ≤ xb) := by rw [hle]
  have eD : lt xb 0 = false → le b1 xb = false → ar .add .i64 xb 1 = d1 ∧ ∀ T, slc T 42 (.ro BB) (some (.flat (.int .i64 d1))) none = some (.ro RR) := fun h1 h2 => by
    have h1 := of_decide_eq_false (eA ▸ h1)
    have h2 := of_decide_eq_false (eB ▸ h2)
    exact ⟨by rw [har, hd1]; exact ar_add64 (by omega) (by omega), fun T => by rw [hslc]; exact hN1 (by omega) (by omega) T⟩
  have k2 : lt xb 0 = true ∨ le b1 xb = true → RR = [] := fun h => hN2 (by
    rcases h with h | h
    · have := of_decide_eq_true (eA ▸ h); omega
    · have := of_decide_eq_true (eB ▸ h); omega)
  clear hN1 hN2 eA eB hBl hb1 hd1 hl
  cases e1 : lt xb 0
  rotate_left
  · have := k2 (.inl e1)
    subst this
    cbv
    repeat (first | (rw [hbox]; cbv) | (rw [hsbox]; cbv))
    refine hcal ⟨_, [], _, _, .inl ⟨rfl, by cbv⟩, hcB, by simp, ?_⟩
    cbv
    repeat (first | (rw [hbox]; cbv) | (rw [hsbox]; cbv))
    rw [e1]; cbv
    exact hQ _ _ trivial (leaves_nil1 (t1 := 4) 46 rfl (by rfl))
  cases e2 : le b1 xb
  rotate_left
  · have := k2 (.inr e2)
    subst this
    cbv
    repeat (first | (rw [hbox]; cbv) | (rw [hsbox]; cbv))
    refine hcal ⟨_, [], _, _, .inl ⟨rfl, by cbv⟩, hcB, by simp, ?_⟩
    cbv
    repeat (first | (rw [hbox]; cbv) | (rw [hsbox]; cbv))
    rw [e1]; cbv
    repeat (first | (rw [hbox]; cbv) | (rw [hsbox]; cbv))
    rw [eS]; cbv
    rw [e2]; cbv
    exact hQ _ _ trivial (leaves_nil1 (t1 := 4) 46 rfl (by rfl))
  obtain ⟨q1, q2⟩ := eD e1 e2
  cbv
  repeat (first | (rw [hbox]; cbv) | (rw [hsbox]; cbv))
  refine hcal ⟨_, [], _, _, .inl ⟨rfl, by cbv⟩, hcB, by simp, ?_⟩
  cbv
  repeat (first | (rw [hbox]; cbv) | (rw [hsbox]; cbv))
  rw [e1]; cbv
  repeat (first | (rw [hbox]; cbv) | (rw [hsbox]; cbv))
  rw [eS]; cbv
  rw [e2]; cbv
  repeat (first | (rw [hbox]; cbv) | (rw [hsbox]; cbv))
  rw [q1]; cbv
  rw [q2]; cbv
  exact hQ _ _ trivial (hfin _ (by cbv))
theorem whole_calls (g : GramT) (x : ItemT) (hb : ∀ p ∈ g.prods, p.body.length ≤ 1000) : ACalls Try.prog 20 [gramV g, .agg (itemC x)] (fun _ => .flat (.bool (wholeB g x))) (fun _ => []) := by
  have hcB := body_calls g x.prod
  have hBl : lenE ((bodyL g x.prod).map symC) = ((bodyL g x.prod).length : Int) := len_map _ _
  have hl := body_len hb x.prod
  have hN1 : wholeB g x = (bodyOk g x.prod && decide (x.dot = ((bodyL g x.prod).length : Int))) := rfl
  generalize wholeB g x = wb at *
  unfold gramV gramL at hcB ⊢
  generalize g.rules.map ruleC = R at *
  generalize g.sorts.map strC = S at *
  generalize g.prods.map prodC = D at *
  generalize g.levels.map levC = V at *
  generalize g.start = start at *
  obtain ⟨BB, hBB⟩ : ∃ B, B = (bodyL g x.prod).map symC := ⟨_, rfl⟩
  rw [← hBB] at hcB hBl
  generalize bodyOk g x.prod = ok at *
  generalize (bodyL g x.prod).length = bn at *
  obtain ⟨xa, xb, xc⟩ := x
  unfold itemC
  dsimp only at *
  clear hBB hb
  generalize (xc : Int) = xi
  refine acalls_symF tabF_ok fn20 rfl rfl rfl (by kernel_rfl) ?_
  have hfin : ∀ st, resA Try.prog Try.f20 st = some (.flat (.bool wb)) → G.Leaves Try.prog Try.f20 (fun _ => .flat (.bool wb)) (fun _ => []) st := fun st h => G.Leaves.plain h rfl
  rintro ⟨lt, le, eq, se, ar, dv, una, conv, len, sln, nat, nth, ixs, cel, sto, app, cpy, slc, mak, ixv, oth, dk, ib, call⟩ hS hm Q hQ
  obtain ⟨hlt, hle, heq, hse, har, hdv, huna, hconv, hlen, hsln, hnat, hnth, hixs, hcel, hsto, happ, hcpy, hslc, hmak, hixv, hoth, hdk, hib, hcall⟩ := Sym.mk.inj hS
  clear hS
  have hnt : ∀ n : Nat, nat n = U.natI n := fun n => by rw [hnat]; rfl
  have hbox : ∀ e c off, cel (some ⟨e, [c]⟩) 0 off = if off ≤ c.length then some (c.drop off) else none := fun e c off => by rw [hcel]; rfl
  have hsbox : ∀ e c off sz y, sto (some ⟨e, [c]⟩) 0 off sz y = if y.cells.length = sz ∧ off + sz ≤ c.length ∧ y.cells.all AV.one = true then some ⟨e, [spl c off y.cells]⟩ else none := fun e c off sz y => by rw [hsto]; rfl
  have hcaw : ∀ {f args T base K}, CallK Try.prog f args T base K → call f args T base K := fun h => by rw [hcall]; exact h
  have hcal : ∀ {f args T base} {K : AV → Table → List Nat → List Nat → Prop}, (∃ args' ids val rows, Hands T ids args args' (val base) (rows base) ∧ ACalls Try.prog f args' val rows ∧ (rows base).length ≤ 8 ∧ K (val base) (adopt T base (rows base)) ids ((List.range (rows base).length).map (base + ·))) → call f args T base K := fun h => hcaw (call_own h)
  rw [show decide (xb = (bn : Int)) = eq xb (len BB) by rw [heq, hlen, hBl]] at hN1
  clear hBl hl
  cases ok
  · have : wb = false := hN1
    subst this
    cbv
    repeat (first | (rw [hbox]; cbv) | (rw [hsbox]; cbv))
    refine hcal ⟨_, [], _, _, .inl ⟨rfl, by cbv⟩, hcB, by simp, ?_⟩
    cbv
    repeat (first | (rw [hbox]; cbv) | (rw [hsbox]; cbv))
    exact hQ _ _ trivial (hfin _ (by cbv))
  have : wb = eq xb (len BB) := hN1
  subst this
  cbv
  repeat (first | (rw [hbox]; cbv) | (rw [hsbox]; cbv))
  refine hcal ⟨_, [], _, _, .inl ⟨rfl, by cbv⟩, hcB, by simp, ?_⟩
  cbv
  repeat (first | (rw [hbox]; cbv) | (rw [hsbox]; cbv))
  exact hQ _ _ trivial (hfin _ (by cbv))
end Go.Proofs.Ytnceadbfgpiaaaa.J
