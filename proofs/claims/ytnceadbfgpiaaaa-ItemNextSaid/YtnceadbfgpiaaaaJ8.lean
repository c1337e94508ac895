/- Contracts: item.Body, Next, Rest, Whole, and the document's. -/
import Derived.Test.YtnceadbfgpiaaaaJ7
namespace Go.Proofs.Ytnceadbfgpiaaaa.J
open Go G U K I
set_option linter.unusedVariables false
set_option linter.unusedSimpArgs false
set_option maxRecDepth 100000
set_option maxHeartbeats 4000000
theorem fn15 : Try.prog.funcs[15]? = some Try.f15 := by kernel_rfl
theorem fn16 : Try.prog.funcs[16]? = some Try.f16 := by kernel_rfl
theorem fn17 : Try.prog.funcs[17]? = some Try.f17 := by kernel_rfl
theorem fn18 : Try.prog.funcs[18]? = some Try.f18 := by kernel_rfl
theorem fn19 : Try.prog.funcs[19]? = some Try.f19 := by kernel_rfl
theorem fn20 : Try.prog.funcs[20]? = some Try.f20 := by kernel_rfl
theorem leaves_frz2 {P : Program} {fn : Func} {st : St} {k n t1 t2 : Nat} {e : TypeId} {Y : List (List AV)} {v : Value} (hr : fn.results.toList = [.tmp t1, .tmp t2]) (h1 : st.s t1 = .sl k 0 n) (h2 : st.s t2 = .flat v) (hT : st.T k = some ⟨e, Y⟩) (hn : n = Y.length) (hY : ∀ c ∈ Y, closedAll [] c = true) : G.Leaves P fn (fun _ => .tup [.ro Y, .flat v]) (fun _ => []) st := by
  refine ⟨[], [k], [], .tup [.ro Y, .flat v], [], ?_, List.nodup_nil, Nat.zero_le _, by simp [closedIn, closedAll], rfl, (fun r hr => by cases hr), fun m => ⟨ren_nil _ _ (by simp [closedIn, closedAll]), rfl⟩⟩
  show resA P fn (frz1 k st) = _
  rw [frz1_at hT hY]
  simp [resA, hr, resV, St.op, frzS, h1, h2, badV, frzV, hn, AV.isDead, oneOf]
theorem frz_nil {st : St} {t : Nat} {e : TypeId} (h1 : st.s t = .flat (.slice none 0 0)) : frz [st.nx] (nils [.slot t e] st) = ⟨frzS st.nx [] (upd st.s t (.sl st.nx 0 0)), frzT st.nx [] (st.T.set st.nx (some ⟨e, []⟩)), st.nx + 1⟩ := by
  have h : nils [.slot t e] st = ⟨upd st.s t (.sl st.nx 0 0), st.T.set st.nx (some ⟨e, []⟩), st.nx + 1⟩ := by
    show nilSlot t e st = _
    unfold nilSlot
    rw [h1]; rfl
  rw [h]
  show frz1 st.nx _ = _
  exact frz1_at (e := e) (Y := []) (by simp [Table.set]) (fun c hc => by cases hc)
theorem leaves_nil2 {P : Program} {fn : Func} {st : St} {t1 t2 : Nat} {v : Value} (e : TypeId) (hr : fn.results.toList = [.tmp t1, .tmp t2]) (hne : t2 ≠ t1) (h1 : st.s t1 = .flat (.slice none 0 0)) (h2 : st.s t2 = .flat v) : G.Leaves P fn (fun _ => .tup [.ro [], .flat v]) (fun _ => []) st := by
  refine ⟨[.slot t1 e], [st.nx], [], .tup [.ro [], .flat v], [], ?_, List.nodup_nil, Nat.zero_le _, by simp [closedIn, closedAll], rfl, (fun r hr => by cases hr), fun m => ⟨ren_nil _ _ (by simp [closedIn, closedAll]), rfl⟩⟩
  rw [frz_nil h1]
  simp [resA, hr, resV, St.op, frzS, upd, h2, hne, badV, frzV, AV.isDead, oneOf]
theorem leaves_nil1 {P : Program} {fn : Func} {st : St} {t1 : Nat} (e : TypeId) (hr : fn.results.toList = [.tmp t1]) (h1 : st.s t1 = .flat (.slice none 0 0)) : G.Leaves P fn (fun _ => .ro []) (fun _ => []) st := by
  refine ⟨[.slot t1 e], [st.nx], [], .ro [], [], ?_, List.nodup_nil, Nat.zero_le _, by simp [closedIn, closedAll], rfl, (fun r hr => by cases hr), fun m => ⟨ren_nil _ _ (by simp [closedIn, closedAll]), rfl⟩⟩
  rw [frz_nil h1]
  simp [resA, hr, resV, St.op, frzS, upd, badV, frzV, AV.isDead, oneOf]
def bodyL (g : GramT) (p : Int) : List SymT := if 0 ≤ p ∧ p < g.prods.length then (atI g.prods p).body else if p = g.prods.length then [⟨true, g.start⟩] else []
def bodyOk (g : GramT) (p : Int) : Bool := decide (0 ≤ p ∧ p ≤ g.prods.length)
def nextOk (g : GramT) (x : ItemT) : Bool := decide (0 ≤ x.dot ∧ x.dot < (bodyL g x.prod).length)
def nextS (g : GramT) (x : ItemT) : SymT := if nextOk g x = true then atI (bodyL g x.prod) x.dot else ⟨false, 0⟩
def restL (g : GramT) (x : ItemT) : List SymT := if 0 ≤ x.dot ∧ x.dot < ((bodyL g x.prod).length : Int) - 1 then (bodyL g x.prod).drop (x.dot + 1).toNat else []
def wholeB (g : GramT) (x : ItemT) : Bool := bodyOk g x.prod && decide (x.dot = ((bodyL g x.prod).length : Int))
theorem body_off {g : GramT} {p : Int} (h : bodyOk g p = false) : bodyL g p = [] := by
  have h := of_decide_eq_false h
  unfold bodyL
  rw [if_neg (by omega), if_neg (by omega)]
theorem body_len {g : GramT} (hb : ∀ p ∈ g.prods, p.body.length ≤ 1000) (p : Int) : (bodyL g p).length ≤ 1000 := by
  unfold bodyL
  split
  · rename_i h; exact hb _ (at_mem h.1 h.2)
  · split <;> simp
theorem c75 : Try.prog.cellsOf 75 = 6 := by kernel_rfl
theorem u42 : Try.prog.underlying 42 = some (.slice 46) := by kernel_rfl
theorem z46 : tinfo Try.prog 46 = some (some (.agg #[.bool false, .int .i64 0]), 2, 16) := by kernel_rfl

theorem body_calls (g : GramT) (p : Int) : ACalls Try.prog 15 [gramV g, .flat (.int .i64 p)] (fun _ => .tup [.ro ((bodyL g p).map symC), .flat (.bool (bodyOk g p))]) (fun _ => []) := by
  have f1 : 0 ≤ p → p < (g.prods.length : Int) → nthE (g.prods.map prodC) p 6 = some (.rp (prodC (atI g.prods p))) ∧ bodyL g p = (atI g.prods p).body ∧ bodyOk g p = true := fun h0 h1 => by
    refine ⟨nth_map (fun _ => rfl) h0 h1, ?_, ?_⟩
    · unfold bodyL; rw [if_pos ⟨h0, h1⟩]
    · exact decide_eq_true ⟨h0, by omega⟩
  have f2 : p = (g.prods.length : Int) → bodyL g p = [⟨true, g.start⟩] ∧ bodyOk g p = true := fun h => by
    refine ⟨?_, decide_eq_true (by omega)⟩
    unfold bodyL; rw [if_neg (by omega), if_pos h]
  have f3 : (p < 0 ∨ (g.prods.length : Int) < p) → bodyL g p = [] ∧ bodyOk g p = false := fun h => by
    have : bodyOk g p = false := decide_eq_false (by omega)
    exact ⟨body_off this, this⟩
  obtain ⟨rules, sorts, prods, levels, start⟩ := g
  generalize hbl : bodyL ⟨rules, sorts, prods, levels, start⟩ p = bl at *
  generalize bodyOk ⟨rules, sorts, prods, levels, start⟩ p = ok at *
  unfold gramV gramL
  dsimp only at f1 f2 f3 ⊢
  have f1' : 0 ≤ p → p < (prods.length : Int) → ∃ (ps : Int) (pc : ByteArray) (pp : Bool) (pe : Int) (H : List (List AV)), nthE (prods.map prodC) p 6 = some (.rp [.flat (.int .i64 ps), .flat (.string pc), .ro (bl.map symC), .flat (.bool pp), .flat (.int .i64 pe), .ro H]) ∧ ok = true := fun h0 h1 => by
    obtain ⟨q1, q2, q3⟩ := f1 h0 h1
    rw [q2]
    exact ⟨_, _, _, _, _, q1, q3⟩
  have f2' : p = (prods.length : Int) → bl.map symC = [[.flat (.bool true), .flat (.int .i64 start)]] ∧ ok = true := fun h => by
    obtain ⟨q1, q2⟩ := f2 h
    rw [q1]; exact ⟨rfl, q2⟩
  have f3' : (p < 0 ∨ (prods.length : Int) < p) → bl.map symC = [] ∧ ok = false := fun h => by
    obtain ⟨q1, q2⟩ := f3 h
    rw [q1]; exact ⟨rfl, q2⟩
  clear f1 f2 f3 hbl
  have hDl : lenE (prods.map prodC) = (prods.length : Int) := len_map _ _
  generalize prods.length = pn at *
  generalize prods.map prodC = D at *
  generalize rules.map ruleC = R at *
  generalize sorts.map strC = S at *
  generalize levels.map levC = V at *
  obtain ⟨BB, hBB⟩ : ∃ B, B = bl.map symC := ⟨_, rfl⟩
  rw [← hBB] at f1' f2' f3' ⊢
  clear hBB
  refine acalls_symF tabF_ok fn15 rfl rfl rfl (by kernel_rfl) ?_
  have hfin : ∀ st, resA Try.prog Try.f15 st = some (.tup [.ro BB, .flat (.bool ok)]) → G.Leaves Try.prog Try.f15 (fun _ => .tup [.ro BB, .flat (.bool ok)]) (fun _ => []) st := fun st h => G.Leaves.plain h rfl
  rintro ⟨lt, le, eq, se, ar, dv, una, conv, len, sln, nat, nth, ixs, cel, sto, app, cpy, slc, mak, ixv, oth, dk, ib, call⟩ hS hm Q hQ
  obtain ⟨hlt, hle, heq, hse, har, hdv, huna, hconv, hlen, hsln, hnat, hnth, hixs, hcel, hsto, happ, hcpy, hslc, hmak, hixv, hoth, hdk, hib, hcall⟩ := Sym.mk.inj hS
  clear hS
  have hnt : ∀ n : Nat, nat n = U.natI n := fun n => by rw [hnat]; rfl
  have hbox : ∀ e c off, cel (some ⟨e, [c]⟩) 0 off = if off ≤ c.length then some (c.drop off) else none := fun e c off => by rw [hcel]; rfl
  have hsbox : ∀ e c off sz y, sto (some ⟨e, [c]⟩) 0 off sz y = if y.cells.length = sz ∧ off + sz ≤ c.length ∧ y.cells.all AV.one = true then some ⟨e, [spl c off y.cells]⟩ else none := fun e c off sz y => by rw [hsto]; rfl
  have hcaw : ∀ {f args T base K}, CallK Try.prog f args T base K → call f args T base K := fun h => by rw [hcall]; exact h
  have hcal : ∀ {f args T base} {K : AV → Table → List Nat → List Nat → Prop}, (∃ args' ids val rows, Hands T ids args args' (val base) (rows base) ∧ ACalls Try.prog f args' val rows ∧ (rows base).length ≤ 8 ∧ K (val base) (adopt T base (rows base)) ids ((List.range (rows base).length).map (base + ·))) → call f args T base K := fun h => hcaw (call_own h)
  have eA : le 0 p = decide (0 ≤ p) := by rw [hle]
  have eB : lt p (len D) = decide (p < (pn : Int)) := by rw [hlt, hlen, hDl]
  have eC : eq p (len D) = decide (p = (pn : Int)) := by rw [heq, hlen, hDl]
  have eD : lt p 0 = decide (p < 0) := by rw [hlt]
  have eE : lt (len D) p = decide ((pn : Int) < p) := by rw [hlt, hlen, hDl]
  have k1 : le 0 p = true → lt p (len D) = true → ∃ (ps : Int) (pc : ByteArray) (pp : Bool) (pe : Int) (H : List (List AV)), nth D p 6 = some (.rp [.flat (.int .i64 ps), .flat (.string pc), .ro BB, .flat (.bool pp), .flat (.int .i64 pe), .ro H]) ∧ ok = true := fun h1 h2 => by
    rw [hnth]; exact f1' (of_decide_eq_true (eA ▸ h1)) (of_decide_eq_true (eB ▸ h2))
  have k2 : eq p (len D) = true → BB = [[.flat (.bool true), .flat (.int .i64 start)]] ∧ ok = true := fun h => f2' (of_decide_eq_true (eC ▸ h))
  have k3 : (le 0 p = false ∨ lt p (len D) = false) → eq p (len D) = false → BB = [] ∧ ok = false := fun h h2 => f3' (by
    have h2 := of_decide_eq_false (eC ▸ h2)
    rcases h with h | h
    · have := of_decide_eq_false (eA ▸ h); omega
    · have := of_decide_eq_false (eB ▸ h); omega)
  have k4 : lt p 0 = true ∨ lt (len D) p = true → BB = [] ∧ ok = false := fun h => f3' (by
    rcases h with h | h
    · exact .inl (of_decide_eq_true (eD ▸ h))
    · exact .inr (of_decide_eq_true (eE ▸ h)))
  have k5 : lt p 0 = false → lt (len D) p = false → eq p (len D) = false → le 0 p = true ∧ lt p (len D) = true := fun h1 h2 h3 => by
    have h1 := of_decide_eq_false (eD ▸ h1)
    have h2 := of_decide_eq_false (eE ▸ h2)
    have h3 := of_decide_eq_false (eC ▸ h3)
    exact ⟨by rw [eA]; exact decide_eq_true (by omega), by rw [eB]; exact decide_eq_true (by omega)⟩
  clear f1' f2' f3' eA eB eC eD eE
  cases e1 : le 0 p
  · clear k1
    cases e3 : eq p (len D)
    · cbv
      repeat (first | (rw [hbox]; cbv) | (rw [hsbox]; cbv))
      rw [e1]; cbv
      repeat (first | (rw [hbox]; cbv) | (rw [hsbox]; cbv))
      rw [e3]; cbv
      obtain ⟨q1, q2⟩ := k3 (.inl e1) e3
      subst q1 q2
      exact hQ _ _ trivial (leaves_nil2 (t1 := 4) (t2 := 5) 46 rfl (by decide) (by rfl) (by rfl))
    cbv
    repeat (first | (rw [hbox]; cbv) | (rw [hsbox]; cbv))
    rw [e1]; cbv
    repeat (first | (rw [hbox]; cbv) | (rw [hsbox]; cbv))
    rw [e3]; cbv
    repeat (first | (rw [hbox]; cbv) | (rw [hsbox]; cbv))
    obtain ⟨q1, q2⟩ := k2 e3
    subst q1 q2
    exact hQ _ _ trivial (leaves_frz2 (k := 176) (t1 := 4) (t2 := 5) rfl (by rfl) (by rfl) (by rfl) rfl (fun c hc => by simp only [List.mem_cons, List.not_mem_nil, or_false] at hc; subst hc; rfl))
  cases e2 : lt p (len D)
  · clear k1
    cases e3 : eq p (len D)
    · cbv
      repeat (first | (rw [hbox]; cbv) | (rw [hsbox]; cbv))
      rw [e1]; cbv
      repeat (first | (rw [hbox]; cbv) | (rw [hsbox]; cbv))
      rw [e2]; cbv
      repeat (first | (rw [hbox]; cbv) | (rw [hsbox]; cbv))
      rw [e3]; cbv
      obtain ⟨q1, q2⟩ := k3 (.inr e2) e3
      subst q1 q2
      exact hQ _ _ trivial (leaves_nil2 (t1 := 4) (t2 := 5) 46 rfl (by decide) (by rfl) (by rfl))
    cbv
    repeat (first | (rw [hbox]; cbv) | (rw [hsbox]; cbv))
    rw [e1]; cbv
    repeat (first | (rw [hbox]; cbv) | (rw [hsbox]; cbv))
    rw [e2]; cbv
    repeat (first | (rw [hbox]; cbv) | (rw [hsbox]; cbv))
    rw [e3]; cbv
    repeat (first | (rw [hbox]; cbv) | (rw [hsbox]; cbv))
    obtain ⟨q1, q2⟩ := k2 e3
    subst q1 q2
    exact hQ _ _ trivial (leaves_frz2 (k := 176) (t1 := 4) (t2 := 5) rfl (by rfl) (by rfl) (by rfl) rfl (fun c hc => by simp only [List.mem_cons, List.not_mem_nil, or_false] at hc; subst hc; rfl))
  obtain ⟨ps, pc, pp, pe, H, q1, q2⟩ := k1 e1 e2
  subst q2
  cbv
  repeat (first | (rw [hbox]; cbv) | (rw [hsbox]; cbv))
  rw [e1]; cbv
  repeat (first | (rw [hbox]; cbv) | (rw [hsbox]; cbv))
  rw [e2]; cbv
  repeat (first | (rw [hbox]; cbv) | (rw [hsbox]; cbv) | (rw [q1]; cbv))
  exact hQ _ _ trivial (hfin _ (by cbv))
theorem refBody_calls (g : GramT) (p : Int) : ACalls Try.prog 16 [gramV g, .flat (.int .i64 p)] (fun _ => .tup [.ro ((bodyL g p).map symC), .flat (.bool (bodyOk g p))]) (fun _ => []) := by
  have f1 : 0 ≤ p → p < (g.prods.length : Int) → nthE (g.prods.map prodC) p 6 = some (.rp (prodC (atI g.prods p))) ∧ bodyL g p = (atI g.prods p).body ∧ bodyOk g p = true := fun h0 h1 => by
    refine ⟨nth_map (fun _ => rfl) h0 h1, ?_, ?_⟩
    · unfold bodyL; rw [if_pos ⟨h0, h1⟩]
    · exact decide_eq_true ⟨h0, by omega⟩
  have f2 : p = (g.prods.length : Int) → bodyL g p = [⟨true, g.start⟩] ∧ bodyOk g p = true := fun h => by
    refine ⟨?_, decide_eq_true (by omega)⟩
    unfold bodyL; rw [if_neg (by omega), if_pos h]
  have f3 : (p < 0 ∨ (g.prods.length : Int) < p) → bodyL g p = [] ∧ bodyOk g p = false := fun h => by
    have : bodyOk g p = false := decide_eq_false (by omega)
    exact ⟨body_off this, this⟩
  obtain ⟨rules, sorts, prods, levels, start⟩ := g
  generalize hbl : bodyL ⟨rules, sorts, prods, levels, start⟩ p = bl at *
  generalize bodyOk ⟨rules, sorts, prods, levels, start⟩ p = ok at *
  unfold gramV gramL
  dsimp only at f1 f2 f3 ⊢
  have f1' : 0 ≤ p → p < (prods.length : Int) → ∃ (ps : Int) (pc : ByteArray) (pp : Bool) (pe : Int) (H : List (List AV)), nthE (prods.map prodC) p 6 = some (.rp [.flat (.int .i64 ps), .flat (.string pc), .ro (bl.map symC), .flat (.bool pp), .flat (.int .i64 pe), .ro H]) ∧ ok = true := fun h0 h1 => by
    obtain ⟨q1, q2, q3⟩ := f1 h0 h1
    rw [q2]
    exact ⟨_, _, _, _, _, q1, q3⟩
  have f2' : p = (prods.length : Int) → bl.map symC = [[.flat (.bool true), .flat (.int .i64 start)]] ∧ ok = true := fun h => by
    obtain ⟨q1, q2⟩ := f2 h
    rw [q1]; exact ⟨rfl, q2⟩
  have f3' : (p < 0 ∨ (prods.length : Int) < p) → bl.map symC = [] ∧ ok = false := fun h => by
    obtain ⟨q1, q2⟩ := f3 h
    rw [q1]; exact ⟨rfl, q2⟩
  clear f1 f2 f3 hbl
  have hDl : lenE (prods.map prodC) = (prods.length : Int) := len_map _ _
  generalize prods.length = pn at *
  generalize prods.map prodC = D at *
  generalize rules.map ruleC = R at *
  generalize sorts.map strC = S at *
  generalize levels.map levC = V at *
  obtain ⟨BB, hBB⟩ : ∃ B, B = bl.map symC := ⟨_, rfl⟩
  rw [← hBB] at f1' f2' f3' ⊢
  clear hBB
  refine acalls_symF tabF_ok fn16 rfl rfl rfl (by kernel_rfl) ?_
  have hfin : ∀ st, resA Try.prog Try.f16 st = some (.tup [.ro BB, .flat (.bool ok)]) → G.Leaves Try.prog Try.f16 (fun _ => .tup [.ro BB, .flat (.bool ok)]) (fun _ => []) st := fun st h => G.Leaves.plain h rfl
  rintro ⟨lt, le, eq, se, ar, dv, una, conv, len, sln, nat, nth, ixs, cel, sto, app, cpy, slc, mak, ixv, oth, dk, ib, call⟩ hS hm Q hQ
  obtain ⟨hlt, hle, heq, hse, har, hdv, huna, hconv, hlen, hsln, hnat, hnth, hixs, hcel, hsto, happ, hcpy, hslc, hmak, hixv, hoth, hdk, hib, hcall⟩ := Sym.mk.inj hS
  clear hS
  have hnt : ∀ n : Nat, nat n = U.natI n := fun n => by rw [hnat]; rfl
  have hbox : ∀ e c off, cel (some ⟨e, [c]⟩) 0 off = if off ≤ c.length then some (c.drop off) else none := fun e c off => by rw [hcel]; rfl
  have hsbox : ∀ e c off sz y, sto (some ⟨e, [c]⟩) 0 off sz y = if y.cells.length = sz ∧ off + sz ≤ c.length ∧ y.cells.all AV.one = true then some ⟨e, [spl c off y.cells]⟩ else none := fun e c off sz y => by rw [hsto]; rfl
  have hcaw : ∀ {f args T base K}, CallK Try.prog f args T base K → call f args T base K := fun h => by rw [hcall]; exact h
  have hcal : ∀ {f args T base} {K : AV → Table → List Nat → List Nat → Prop}, (∃ args' ids val rows, Hands T ids args args' (val base) (rows base) ∧ ACalls Try.prog f args' val rows ∧ (rows base).length ≤ 8 ∧ K (val base) (adopt T base (rows base)) ids ((List.range (rows base).length).map (base + ·))) → call f args T base K := fun h => hcaw (call_own h)
  have eA : le 0 p = decide (0 ≤ p) := by rw [hle]
  have eB : lt p (len D) = decide (p < (pn : Int)) := by rw [hlt, hlen, hDl]
  have eC : eq p (len D) = decide (p = (pn : Int)) := by rw [heq, hlen, hDl]
  have eD : lt p 0 = decide (p < 0) := by rw [hlt]
  have eE : lt (len D) p = decide ((pn : Int) < p) := by rw [hlt, hlen, hDl]
  have k1 : le 0 p = true → lt p (len D) = true → ∃ (ps : Int) (pc : ByteArray) (pp : Bool) (pe : Int) (H : List (List AV)), nth D p 6 = some (.rp [.flat (.int .i64 ps), .flat (.string pc), .ro BB, .flat (.bool pp), .flat (.int .i64 pe), .ro H]) ∧ ok = true := fun h1 h2 => by
    rw [hnth]; exact f1' (of_decide_eq_true (eA ▸ h1)) (of_decide_eq_true (eB ▸ h2))
  have k2 : eq p (len D) = true → BB = [[.flat (.bool true), .flat (.int .i64 start)]] ∧ ok = true := fun h => f2' (of_decide_eq_true (eC ▸ h))
  have k3 : (le 0 p = false ∨ lt p (len D) = false) → eq p (len D) = false → BB = [] ∧ ok = false := fun h h2 => f3' (by
    have h2 := of_decide_eq_false (eC ▸ h2)
    rcases h with h | h
    · have := of_decide_eq_false (eA ▸ h); omega
    · have := of_decide_eq_false (eB ▸ h); omega)
  have k4 : lt p 0 = true ∨ lt (len D) p = true → BB = [] ∧ ok = false := fun h => f3' (by
    rcases h with h | h
    · exact .inl (of_decide_eq_true (eD ▸ h))
    · exact .inr (of_decide_eq_true (eE ▸ h)))
  have k5 : lt p 0 = false → lt (len D) p = false → eq p (len D) = false → le 0 p = true ∧ lt p (len D) = true := fun h1 h2 h3 => by
    have h1 := of_decide_eq_false (eD ▸ h1)
    have h2 := of_decide_eq_false (eE ▸ h2)
    have h3 := of_decide_eq_false (eC ▸ h3)
    exact ⟨by rw [eA]; exact decide_eq_true (by omega), by rw [eB]; exact decide_eq_true (by omega)⟩
  clear f1' f2' f3' eA eB eC eD eE
  cases e1 : lt p 0
  rotate_left
  · cbv
    rw [e1]; cbv
    obtain ⟨q1, q2⟩ := k4 (.inl e1)
    subst q1 q2
    exact hQ _ _ trivial (leaves_nil2 (t1 := 4) (t2 := 5) 46 rfl (by decide) (by rfl) (by rfl))
  cases e2 : lt (len D) p
  rotate_left
  · cbv
    rw [e1]; cbv
    repeat (first | (rw [hbox]; cbv) | (rw [hsbox]; cbv))
    rw [e2]; cbv
    obtain ⟨q1, q2⟩ := k4 (.inr e2)
    subst q1 q2
    exact hQ _ _ trivial (leaves_nil2 (t1 := 4) (t2 := 5) 46 rfl (by decide) (by rfl) (by rfl))
  cases e3 : eq p (len D)
  · obtain ⟨d1, d2⟩ := k5 e1 e2 e3
    obtain ⟨ps, pc, pp, pe, H, q1, q2⟩ := k1 d1 d2
    subst q2
    cbv
    rw [e1]; cbv
    repeat (first | (rw [hbox]; cbv) | (rw [hsbox]; cbv))
    rw [e2]; cbv
    repeat (first | (rw [hbox]; cbv) | (rw [hsbox]; cbv))
    rw [e3]; cbv
    repeat (first | (rw [hbox]; cbv) | (rw [hsbox]; cbv) | (rw [q1]; cbv))
    exact hQ _ _ trivial (hfin _ (by cbv))
  cbv
  rw [e1]; cbv
  repeat (first | (rw [hbox]; cbv) | (rw [hsbox]; cbv))
  rw [e2]; cbv
  repeat (first | (rw [hbox]; cbv) | (rw [hsbox]; cbv))
  rw [e3]; cbv
  repeat (first | (rw [hbox]; cbv) | (rw [hsbox]; cbv))
  obtain ⟨q1, q2⟩ := k2 e3
  subst q1 q2
  exact hQ _ _ trivial (leaves_frz2 (k := 160) (t1 := 4) (t2 := 5) rfl (by rfl) (by rfl) (by rfl) rfl (fun c hc => by simp only [List.mem_cons, List.not_mem_nil, or_false] at hc; subst hc; rfl))
end Go.Proofs.Ytnceadbfgpiaaaa.J
