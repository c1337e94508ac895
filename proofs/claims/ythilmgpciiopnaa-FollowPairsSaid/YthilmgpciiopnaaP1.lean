/- Contracts: follow.mirror, bosketref22.Mirror: the productions the other way round. -/
import Derived.Test.YthilmgpciiopnaaF14
import Derived.Test.YthilmgpciiopnaaG24
namespace Go.Proofs.Ythilmgpciiopnaa.F
open Go G U K
set_option linter.unusedVariables false
set_option linter.unusedSimpArgs false
set_option maxRecDepth 100000
set_option maxHeartbeats 4000000
theorem fn57 : Try.prog.funcs[57]? = some Try.f57 := by kernel_rfl
theorem fn44 : Try.prog.funcs[44]? = some Try.f44 := by kernel_rfl
theorem c61 : Try.prog.cellsOf 61 = 6 := by kernel_rfl
theorem c78 : Try.prog.cellsOf 78 = 2 := by kernel_rfl
theorem z61 : tinfo Try.prog 61 = some (some (.agg #[.int .i64 0, .string ⟨#[]⟩, .slice none 0 0, .bool false, .int .i64 0, .slice none 0 0]), 6, 88) := by kernel_rfl
theorem u45 : Try.prog.underlying 45 = some (.slice 61) := by kernel_rfl
def mirP (p : ProdT) : ProdT := { p with body := p.body.reverse }
def mirG (g : GramT) : GramT := { g with prods := g.prods.map mirP }
theorem mirP_two (p : ProdT) : mirP (mirP p) = p := by
  obtain ⟨a, b, c, d, e, f⟩ := p
  simp [mirP]
theorem mirG_two (g : GramT) : mirG (mirG g) = g := by
  obtain ⟨a, b, c, d, e⟩ := g
  simp only [mirG, List.map_map]
  have : (mirP ∘ mirP) = id := by funext p; exact mirP_two p
  rw [this, List.map_id]
/-! ### Downwards -/
def DnAt {α : Type} (l : List α) (i : Int) : Prop := -1 ≤ i ∧ i < l.length
section
variable {α : Type} {l : List α} {i : Int}
theorem dn_zero (hs : l.length ≤ 1000) : DnAt l ((l.length : Int) - 1) ∧ arI .sub .i64 (l.length : Int) 1 = (l.length : Int) - 1 ∧ l.drop ((l.length : Int) - 1 + 1).toNat = [] := by
  refine ⟨⟨by omega, by omega⟩, ar_sub64 (by omega) (by omega), ?_⟩
  rw [show ((l.length : Int) - 1 + 1).toNat = l.length by omega, List.drop_length]
theorem dn_end (h : DnAt l i) (hc : decide (0 ≤ i) = false) : l.drop (i + 1).toNat = l := by
  have hc := of_decide_eq_false hc
  obtain ⟨h0, h1⟩ := h
  rw [show (i + 1).toNat = 0 by omega, List.drop_zero]
theorem dn_step [Inhabited α] (hs : l.length ≤ 1000) (h : DnAt l i) (hc : decide (0 ≤ i) = true) : 0 ≤ i ∧ i < l.length ∧ DnAt l (i - 1) ∧ (i - 1 + 1).toNat < (i + 1).toNat ∧ arI .sub .i64 i 1 = i - 1 ∧ (l.drop (i - 1 + 1).toNat).reverse = (l.drop (i + 1).toNat).reverse ++ [atI l i] ∧ (l.drop (i + 1).toNat).length ≤ 1000 := by
  have hc := of_decide_eq_true hc
  obtain ⟨h0, h1⟩ := h
  refine ⟨hc, h1, ⟨by omega, by omega⟩, by omega, ar_sub64 (by omega) (by omega), ?_, by rw [List.length_drop]; omega⟩
  rw [show (i - 1 + 1).toNat = i.toNat by omega, drop_next hc h1, List.reverse_cons]
end
/-! ### Rows -/
theorem app_sym {T : Table} {id k0 k n n2 : Nat} {X : List (List AV)} {b : Bool} {v : Int} (hn : n = X.length) (hn2 : n2 = n + 1) (hb : n2 ≤ 1000000) (hT : T k0 = some ⟨78, X⟩) (hk : T k = some ⟨78, [[.flat (.bool b), .flat (.int .i64 v)]]⟩) (hne : k ≠ k0) :
    evAppend Try.prog T id 59 59 (.sl k0 0 n) (.sl k 0 1) = some (.sl id 0 n2, (T.set k0 none).set id (some ⟨78, X ++ [[.flat (.bool b), .flat (.int .i64 v)]]⟩)) :=
  app_tip u59 z78 c78 (by decide) rfl (by decide) hT hk hne rfl (by omega) hn2 (by rw [hn, List.take_length]) (by omega)
theorem app_prod {T : Table} {id k0 k n n2 : Nat} {X : List (List AV)} {c : List AV} (hn : n = X.length) (hn2 : n2 = n + 1) (hb : n2 ≤ 1000000) (hT : T k0 = some ⟨61, X⟩) (hk : T k = some ⟨61, [c]⟩) (hne : k ≠ k0) (hc : c.length = 6) :
    evAppend Try.prog T id 45 45 (.sl k0 0 n) (.sl k 0 1) = some (.sl id 0 n2, (T.set k0 none).set id (some ⟨61, X ++ [c]⟩)) :=
  app_tip u45 z61 c61 (by decide) rfl (by decide) hT hk hne hc (by omega) hn2 (by rw [hn, List.take_length]) (by omega)
theorem closed_prods (l : List ProdT) : ∀ c ∈ l.map prodC, closedAll [] c = true := closed_map fun _ => rfl
theorem closed_syms (l : List SymT) : ∀ c ∈ l.map symC, closedAll [] c = true := closed_map fun _ => rfl
theorem read_prods (l : List ProdT) : readRow (l.map prodC) := by
  intro c hc x hx
  obtain ⟨p, _, rfl⟩ := List.mem_map.1 hc
  simp only [prodC, List.mem_cons, List.not_mem_nil, or_false] at hx
  rcases hx with rfl | rfl | rfl | rfl | rfl | rfl <;> rfl
theorem frz_prod {T : Table} {k id n : Nat} {O Y Z : List (List AV)} {a b d e : Value} {H : List (List AV)} (hZ : Z = O ++ [[.flat a, .flat b, .sl k 0 n, .flat d, .flat e, .ro H]]) (hT : T id = some ⟨61, Z⟩) (hne : id ≠ k) (hO : ∀ c ∈ O, closedAll [] c = true) (hn : n = Y.length) : frzT k Y T id = some ⟨61, O ++ [[.flat a, .flat b, .ro Y, .flat d, .flat e, .ro H]]⟩ :=
  frzT_app (hZ ▸ hT) hne hO (by simp [badVs, badV, hn]) (by simp [frzVs, frzV, hn])
theorem leaves_gram {P : Program} {fn : Func} {k n : Nat} {R S V : List (List AV)} {s : Value} {r : Row} {st : St} (h : resA P fn st = some (.agg [.ro R, .ro S, .sl k 0 n, .ro V, .flat s])) (hT : st.T k = some r) (hc : ∀ e ∈ r.els, closedAll [] e = true) :
    G.Leaves P fn (fun k => .agg [.ro R, .ro S, .sl k 0 n, .ro V, .flat s]) (fun _ => [r]) st := by
  refine ⟨[], [], [k], _, [r], h, by simp, by simp, by simp [closedIn, closedAll], by simp [frz, nils, hT], ?_, fun m => ⟨by simp [ren, rens, newName, List.idxOf_cons], ?_⟩⟩
  · intro r' hr e he
    simp only [List.mem_cons, List.not_mem_nil, or_false] at hr
    subst hr
    exact closed_ups e (hc e he)
  · have : r.els.map (rens (newName [k] m)) = r.els := by
      conv => rhs; rw [← List.map_id r.els]
      exact List.map_congr_left fun c hc' => rens_nil _ c (hc c hc')
    simp [renRow, this]
/-! ### The walks -/
theorem mirror_calls (g : GramT) (hp : g.prods.length ≤ 1000) (hb : ∀ p ∈ g.prods, p.body.length ≤ 1000) : ACalls Try.prog 57 [gramV g] (fun k => .agg [.ro ((mirG g).rules.map ruleC), .ro ((mirG g).sorts.map strC), .sl k 0 (mirG g).prods.length, .ro ((mirG g).levels.map levC), .flat (.int .i64 (mirG g).start)]) (fun _ => [⟨61, (mirG g).prods.map prodC⟩]) := by
  have hbody : ∀ p ∈ g.prods, p.body.length ≤ 1000 := hb
  obtain ⟨rules, sorts, prods, levels, start⟩ := g
  unfold gramV gramL mirG
  dsimp only at hp hbody ⊢
  clear hb
  obtain ⟨R, hR⟩ : ∃ X, X = rules.map ruleC := ⟨_, rfl⟩
  obtain ⟨S, hSS⟩ : ∃ X, X = sorts.map strC := ⟨_, rfl⟩
  obtain ⟨D, hD⟩ : ∃ X, X = prods.map prodC := ⟨_, rfl⟩
  obtain ⟨V, hV⟩ : ∃ X, X = levels.map levC := ⟨_, rfl⟩
  rw [← hR, ← hSS, ← hD, ← hV]
  clear hR hSS hV
  have hDl : lenE D = (prods.length : Int) := by rw [hD, len_map]
  have hDn : ∀ i : Int, 0 ≤ i → i < prods.length → nthE D i 6 = some (.rp (prodC (atI prods i))) := fun i h0 h1 => by rw [hD]; exact nth_map (fun _ => rfl) h0 h1
  obtain ⟨pn, hpn⟩ : ∃ n, n = (prods.map mirP).length := ⟨_, rfl⟩
  obtain ⟨DD, hDD⟩ : ∃ X, X = (prods.map mirP).map prodC := ⟨_, rfl⟩
  rw [← hDD, ← hpn]
  clear hD
  refine acalls_symF tabF_ok fn57 rfl rfl rfl (by kernel_rfl) ?_
  rintro ⟨lt, le, eq, se, ar, dv, una, conv, len, sln, nat, nth, ixs, cel, sto, app, cpy, slc, mak, ixv, oth, dk, ib, call⟩ hS hm Q hQ
  obtain ⟨hlt, hle, heq, hse, har, hdv, huna, hconv, hlen, hsln, hnat, hnth, hixs, hcel, hsto, happ, hcpy, hslc, hmak, hixv, hoth, hdk, hib, hcall⟩ := Sym.mk.inj hS
  clear hS
  have hnt : ∀ n : Nat, nat n = U.natI n := fun n => by rw [hnat]; rfl
  have hbox : ∀ e c off, cel (some ⟨e, [c]⟩) 0 off = if off ≤ c.length then some (c.drop off) else none := fun e c off => by rw [hcel]; rfl
  have hsbox : ∀ e c off sz y, sto (some ⟨e, [c]⟩) 0 off sz y = if y.cells.length = sz ∧ off + sz ≤ c.length ∧ y.cells.all AV.one = true then some ⟨e, [spl c off y.cells]⟩ else none := fun e c off sz y => by rw [hsto]; rfl
  have hcaw : ∀ {f args T base K}, CallK Try.prog f args T base K → call f args T base K := fun h => by rw [hcall]; exact h
  have hcal : ∀ {f args T base} {K : AV → Table → List Nat → List Nat → Prop}, (∃ args' ids val rows, Hands T ids args args' (val base) (rows base) ∧ ACalls Try.prog f args' val rows ∧ (rows base).length ≤ 8 ∧ K (val base) (adopt T base (rows base)) ids ((List.range (rows base).length).map (base + ·))) → call f args T base K := fun h => hcaw (call_own h)
  have hround : ∀ i, At prods i → lt i (len D) = true → ∃ p : ProdT, p.body.length ≤ 1000 ∧ nth D i 6 = some (.rp (prodC p)) ∧ ar .add .i64 i 1 = i + 1 ∧ (prods.length - (i + 1).toNat < prods.length - i.toNat) ∧ At prods (i + 1) ∧ (∀ O, O = ((prods.take i.toNat).map mirP).map prodC → O ++ [prodC (mirP p)] = ((prods.take (i + 1).toNat).map mirP).map prodC) ∧ (prods.take i.toNat).length ≤ 1000 := fun i hi hc => by
    rw [hlt, hlen, hDl] at hc
    obtain ⟨_, h0, h1⟩ := at_lt hi hc
    refine ⟨_, hbody _ (at_mem h0 h1), by rw [hnth]; exact hDn i h0 h1, by rw [har, ar_add64 (by omega) (by omega)], by omega, (at_step hi hc).1, fun O hO => ?_, by rw [List.length_take]; omega⟩
    rw [take_next h0 h1, hO]; simp
  have hdone : ∀ i, At prods i → lt i (len D) = false → prods.take i.toNat = prods := fun i hi hc => take_end hi (by rw [hlt, hlen, hDl] at hc; exact hc)
  have hapS : ∀ (T : Table) (id k0 k n n2 : Nat) (X Y : List (List AV)) (b : Bool) (v : Int), Y = X ++ [[.flat (.bool b), .flat (.int .i64 v)]] → n = X.length → n2 = n + 1 → n2 ≤ 1000000 → T k0 = some ⟨78, X⟩ → T k = some ⟨78, [[.flat (.bool b), .flat (.int .i64 v)]]⟩ → k ≠ k0 → app T id 59 59 (.sl k0 0 n) (.sl k 0 1) = some (.sl id 0 n2, (T.set k0 none).set id (some ⟨78, Y⟩)) := fun T id k0 k n n2 X Y b v h0 h1 h2 h3 h4 h5 h6 => by
    subst h0; rw [happ]; exact app_sym h1 h2 h3 h4 h5 h6
  have hapP : ∀ (T : Table) (id k0 k n n2 : Nat) (X Y : List (List AV)) (c : List AV), Y = X ++ [c] → n = X.length → n2 = n + 1 → n2 ≤ 1000000 → c.length = 6 → T k0 = some ⟨61, X⟩ → T k = some ⟨61, [c]⟩ → k ≠ k0 → app T id 45 45 (.sl k0 0 n) (.sl k 0 1) = some (.sl id 0 n2, (T.set k0 none).set id (some ⟨61, Y⟩)) := fun T id k0 k n n2 X Y c h0 h1 h2 h3 h7 h4 h5 h6 => by
    subst h0; rw [happ]; exact app_prod h1 h2 h3 h4 h5 h6 h7
  have hin : ∀ (body : List SymT), body.length ≤ 1000 → ∃ j0, ar .sub .i64 (len (body.map symC)) 1 = j0 ∧ DnAt body j0 ∧ ([] : List (List AV)) = ((body.drop (j0 + 1).toNat).reverse).map symC := fun body h => by
    obtain ⟨h1, h2, h3⟩ := dn_zero h
    exact ⟨_, by rw [hlen, len_map, har]; exact h2, h1, by rw [h3]; rfl⟩
  have hst : ∀ (body : List SymT) (j : Int), body.length ≤ 1000 → DnAt body j → le 0 j = true → ∃ b v, nth (body.map symC) j 2 = some (.rp [.flat (.bool b), .flat (.int .i64 v)]) ∧ DnAt body (j - 1) ∧ (j - 1 + 1).toNat < (j + 1).toNat ∧ ar .sub .i64 j 1 = j - 1 ∧ (∀ Y, Y = ((body.drop (j + 1).toNat).reverse).map symC → Y ++ [[.flat (.bool b), .flat (.int .i64 v)]] = ((body.drop (j - 1 + 1).toNat).reverse).map symC) ∧ (body.drop (j + 1).toNat).length ≤ 1000 := fun body j hl hj hc => by
    obtain ⟨h0, h1, h2, h3, h4, h5, h6⟩ := dn_step hl hj (by rw [hle] at hc; exact hc)
    refine ⟨_, _, by rw [hnth]; exact nth_map (fun _ => rfl) h0 h1, h2, h3, by rw [har]; exact h4, fun Y hY => ?_, h6⟩
    rw [h5, List.map_append, hY]; rfl
  have hen : ∀ (body : List SymT) (j : Int), DnAt body j → le 0 j = false → body.drop (j + 1).toNat = body := fun body j hj hc => dn_end hj (by rw [hle] at hc; exact hc)
  have hz := at_zero prods
  have hz0 : ([] : List (List AV)) = ((prods.take (0 : Int).toNat).map mirP).map prodC := rfl
  clear hDl hDn hbody hp
  cbv
  repeat (first | (rw [hbox]; cbv) | (rw [hsbox]; cbv))
  refine MW_loopN hm.mono [.cell 24 0 2 61] [] [24, 8, 88] [2, 3, 11, 12, 13] 14 (cutOk_of hm.pm (by decide)) (fun mz st => ∃ (i : Int) (no : Nat) (O : List (List AV)), At prods i ∧ O = ((prods.take i.toNat).map mirP).map prodC ∧ no = O.length ∧ mz = prods.length - i.toNat ∧ st = stOf [.dead, .dead, .ptr 1 0 0, .ptr 0 0 0, .dead, .dead, .dead, .dead, .dead, .dead, .dead, .ro D, .flat (.int .i64 (len D)), .flat (.int .i64 i)] [some ⟨48, [[.ro R, .ro S, .sl 2 0 no, .ro V, .flat (.int .i64 start)]]⟩, some ⟨48, [[.flat (.slice none 0 0), .flat (.slice none 0 0), .flat (.slice none 0 0), .flat (.slice none 0 0), .flat (.int .i64 0)]]⟩, some ⟨61, O⟩] 3) (prods.length - (0 : Int).toNat) ?_ ?_
  · exact ⟨0, 0, [], hz, hz0, rfl, rfl, cut_eq (by cbv) (cutRows_box (by rfl) (by rfl) (by rfl) (cutRows_cons (by rfl) (by simp [closedAll, closedIn]) (cutRows_cons (by rfl) (fun c hc => by cases hc) rfl)))⟩
  rintro mz st ⟨i, no, O, hi, hO, hno, hmz, rfl⟩
  cases hcc : lt i (len D)
  · have he := hdone _ hi hcc
    rw [he, ← hDD] at hO
    have hno2 : no = pn := by rw [hno, hO, hDD, List.length_map, hpn]
    rw [← hO, ← hno2] at hQ
    have hOcl : ∀ c ∈ O, closedAll [] c = true := by rw [hO, hDD]; exact closed_prods _
    cbv
    rw [hcc]; cbv
    repeat (first | (rw [hbox]; cbv) | (rw [hsbox]; cbv))
    exact hQ _ _ trivial (leaves_gram (k := 2) (by cbv) (by rfl) hOcl)
  obtain ⟨p, hpb, x1, x2, x3, x4, x5, x6⟩ := hround _ hi hcc
  obtain ⟨ps, pc, body, pp, pe, hints⟩ := p
  dsimp only at hpb
  have hOl : O.length ≤ 1000 := by rw [hO, List.length_map, List.length_map]; exact x6
  have hOcl : ∀ c ∈ O, closedAll [] c = true := by rw [hO]; exact closed_prods _
  replace x5 := x5 O hO
  obtain ⟨j0, y1, y2, y3⟩ := hin body hpb
  have hst2 := fun j h h2 => hst body j hpb h h2
  have hen2 := hen body
  have hpx : ∀ Y, Y = (body.reverse).map symC → O ++ [[.flat (.int .i64 ps), .flat (.string pc), .ro Y, .flat (.bool pp), .flat (.int .i64 pe), .ro (hints.map intC)]] = ((prods.take (i + 1).toNat).map mirP).map prodC := fun Y hY => by rw [hY]; exact x5
  have hiz := fun Y (hY : Y = ((body.drop (j0 + 1).toNat).reverse).map symC) => hY
  unfold prodC at x1
  dsimp only at x1
  obtain ⟨B, hB⟩ : ∃ B, B = body.map symC := ⟨_, rfl⟩
  obtain ⟨H, hH⟩ : ∃ B, B = hints.map intC := ⟨_, rfl⟩
  rw [← hB] at y1 hst2
  rw [← hB, ← hH] at x1
  rw [← hH] at hpx
  generalize i + 1 = i2 at x2 x3 x4 hpx
  clear x5 hB hH hin hst hen hround hdone
  cbv
  rw [hcc]; cbv
  repeat (first | (rw [hbox]; cbv) | (rw [hsbox]; cbv) | (rw [x1]; cbv))
  rw [y1]; cbv
  refine MW_loopZ hm [.cell 51 0 2 78] [0, 1, 2, 27, 51, 123] [2, 3, 5, 6, 7, 11, 12, 13] 14 (by simp) (fun mz st => ∃ (j : Int) (nb : Nat) (Y : List (List AV)), DnAt body j ∧ Y = ((body.drop (j + 1).toNat).reverse).map symC ∧ nb = Y.length ∧ mz = (j + 1).toNat ∧ st = stOf [.dead, .dead, .ptr 1 0 0, .ptr 0 0 0, .dead, .ptr 3 0 0, .ptr 4 0 0, .flat (.int .i64 j), .dead, .dead, .dead, .ro D, .flat (.int .i64 (len D)), .flat (.int .i64 i)] [some ⟨48, [[.ro R, .ro S, .sl 2 0 no, .ro V, .flat (.int .i64 start)]]⟩, some ⟨48, [[.flat (.slice none 0 0), .flat (.slice none 0 0), .flat (.slice none 0 0), .flat (.slice none 0 0), .flat (.int .i64 0)]]⟩, some ⟨61, O⟩, some ⟨61, [[.flat (.int .i64 ps), .flat (.string pc), .ro B, .flat (.bool pp), .flat (.int .i64 pe), .ro H]]⟩, some ⟨61, [[.flat (.int .i64 ps), .flat (.string pc), .sl 5 0 nb, .flat (.bool pp), .flat (.int .i64 pe), .ro H]]⟩, some ⟨78, Y⟩] 6) ((j0 + 1).toNat) ?_ ?_
  · exact ⟨j0, 0, [], y2, y3, rfl, rfl, cut_eq (by cbv) (cutRows_box (by rfl) (by rfl) (by rfl) (cutRows_cons (by rfl) (by simp [closedAll, closedIn]) (cutRows_cons (by rfl) (hOcl) (cutRows_cons (by rfl) (by simp [closedAll, closedIn]) (cutRows_box (by rfl) (by rfl) (by rfl) (cutRows_cons (by rfl) (fun c hc => by cases hc) rfl))))))⟩
  rintro mb st ⟨j, nb, Y, hj, hY, hnb, hmb, rfl⟩
  have hYcl : ∀ c ∈ Y, closedAll [] c = true := by rw [hY]; exact closed_syms _
  cases hc2 : le 0 j
  · rw [hen2 _ hj hc2] at hY
    have hpy := hpx Y hY
    obtain ⟨no2, hno2⟩ : ∃ n, n = no + 1 := ⟨_, rfl⟩
    obtain ⟨Oa, hOa⟩ : ∃ Z, Z = O ++ [[.flat (.int .i64 ps), .flat (.string pc), .sl 5 0 nb, .flat (.bool pp), .flat (.int .i64 pe), .ro H]] := ⟨_, rfl⟩
    have ha := fun T id k0 k => hapP T id k0 k no no2 O Oa _ hOa hno hno2 (by omega) rfl
    cbv
    rw [hc2]; cbv
    repeat (first | (rw [hbox]; cbv) | (rw [hsbox]; cbv))
    rw [ha _ _ _ _ (by rfl) (by rfl) (by decide)]; cbv
    repeat (first | (rw [hbox]; cbv) | (rw [hsbox]; cbv))
    rw [x2]
    exact ⟨[], [5], [0, 1, 54], [2, 3, 11, 12, 13], 14, prods.length - i2.toNat, hmz ▸ x3, cutOk_of hm.pm (by decide), i2, no2, _, x4, hpy, by rw [List.length_append, hno2, hno]; rfl, rfl, cut_frz1 (k := 5) (by rfl) hYcl (by decide) (by cbv) (by cbv) (cutRows_box (frzT_app (X := []) (R := [[.ro R, .ro S, .sl 54 0 no2, .ro V, .flat (.int .i64 start)]]) (R' := [[.ro R, .ro S, .sl 54 0 no2, .ro V, .flat (.int .i64 start)]]) (by rfl) (by decide) (fun c hc => by cases hc) (by rfl) (by rfl)) (by rfl) (by rfl) (cutRows_cons (frzT_cl (by rfl) (by decide) (by simp [closedAll, closedIn])) (by simp [closedAll, closedIn]) (cutRows_cons (frz_prod hOa (by rfl) (by decide) hOcl hnb) (by rw [hpy]; exact closed_prods _) rfl)))⟩
  obtain ⟨b, v, q1, q2, q3, q4, q5, q6⟩ := hst2 _ hj hc2
  replace q5 := q5 Y hY
  have hYl : Y.length ≤ 1000 := by rw [hY, List.length_map, List.length_reverse]; exact q6
  obtain ⟨nb2, hnb2⟩ : ∃ n, n = nb + 1 := ⟨_, rfl⟩
  obtain ⟨Y2, hY2⟩ : ∃ Z, Z = Y ++ [[.flat (.bool b), .flat (.int .i64 v)]] := ⟨_, rfl⟩
  have hnb3 : nb2 = Y2.length := by rw [hY2, List.length_append, hnb2, hnb]; rfl
  have ha := fun T id k0 k => hapS T id k0 k nb nb2 Y Y2 b v hY2 hnb hnb2 (by omega)
  rw [← hY2] at q5
  have hY2cl : ∀ c ∈ Y2, closedAll [] c = true := by rw [q5]; exact closed_syms _
  generalize (j + 1).toNat = mb0 at q3 hmb
  generalize j - 1 = j2 at q2 q3 q4 q5
  cbv
  rw [hc2]; cbv
  refine ⟨by rw [hdk]; kernel_rfl, ?_⟩
  repeat (first | (rw [hbox]; cbv) | (rw [hsbox]; cbv) | (rw [q1]; cbv))
  rw [ha _ _ _ _ (by rfl) (by rfl) (by decide)]; cbv
  repeat (first | (rw [hbox]; cbv) | (rw [hsbox]; cbv))
  refine ⟨by rw [hib]; kernel_rfl, ?_⟩
  cbv
  rw [q4]
  exact ⟨[0, 1, 2, 3, 4, 86], [2, 3, 5, 6, 7, 11, 12, 13], 14, (j2 + 1).toNat, hmb ▸ q3, by simp, j2, nb2, Y2, q2, q5, hnb3, rfl, cut_eq (by cbv) (cutRows_box (by rfl) (by rfl) (by rfl) (cutRows_cons (by rfl) (by simp [closedAll, closedIn]) (cutRows_cons (by rfl) (hOcl) (cutRows_cons (by rfl) (by simp [closedAll, closedIn]) (cutRows_box (by rfl) (by rfl) (by rfl) (cutRows_cons (by rfl) (hY2cl) rfl))))))⟩
theorem refMirror_calls (g : GramT) (hp : g.prods.length ≤ 1000) (hb : ∀ p ∈ g.prods, p.body.length ≤ 1000) : ACalls Try.prog 44 [gramV g] (fun k => .agg [.ro ((mirG g).rules.map ruleC), .ro ((mirG g).sorts.map strC), .sl k 0 (mirG g).prods.length, .ro ((mirG g).levels.map levC), .flat (.int .i64 (mirG g).start)]) (fun _ => [⟨61, (mirG g).prods.map prodC⟩]) := by
  have hbody : ∀ p ∈ g.prods, p.body.length ≤ 1000 := hb
  obtain ⟨rules, sorts, prods, levels, start⟩ := g
  unfold gramV gramL mirG
  dsimp only at hp hbody ⊢
  clear hb
  obtain ⟨R, hR⟩ : ∃ X, X = rules.map ruleC := ⟨_, rfl⟩
  obtain ⟨S, hSS⟩ : ∃ X, X = sorts.map strC := ⟨_, rfl⟩
  obtain ⟨D, hD⟩ : ∃ X, X = prods.map prodC := ⟨_, rfl⟩
  obtain ⟨V, hV⟩ : ∃ X, X = levels.map levC := ⟨_, rfl⟩
  rw [← hR, ← hSS, ← hD, ← hV]
  clear hR hSS hV
  have hDl : lenE D = (prods.length : Int) := by rw [hD, len_map]
  have hDn : ∀ i : Int, 0 ≤ i → i < prods.length → nthE D i 6 = some (.rp (prodC (atI prods i))) := fun i h0 h1 => by rw [hD]; exact nth_map (fun _ => rfl) h0 h1
  obtain ⟨pn, hpn⟩ : ∃ n, n = (prods.map mirP).length := ⟨_, rfl⟩
  obtain ⟨DD, hDD⟩ : ∃ X, X = (prods.map mirP).map prodC := ⟨_, rfl⟩
  rw [← hDD, ← hpn]
  clear hD
  refine acalls_symF tabF_ok fn44 rfl rfl rfl (by kernel_rfl) ?_
  rintro ⟨lt, le, eq, se, ar, dv, una, conv, len, sln, nat, nth, ixs, cel, sto, app, cpy, slc, mak, ixv, oth, dk, ib, call⟩ hS hm Q hQ
  obtain ⟨hlt, hle, heq, hse, har, hdv, huna, hconv, hlen, hsln, hnat, hnth, hixs, hcel, hsto, happ, hcpy, hslc, hmak, hixv, hoth, hdk, hib, hcall⟩ := Sym.mk.inj hS
  clear hS
  have hnt : ∀ n : Nat, nat n = U.natI n := fun n => by rw [hnat]; rfl
  have hbox : ∀ e c off, cel (some ⟨e, [c]⟩) 0 off = if off ≤ c.length then some (c.drop off) else none := fun e c off => by rw [hcel]; rfl
  have hsbox : ∀ e c off sz y, sto (some ⟨e, [c]⟩) 0 off sz y = if y.cells.length = sz ∧ off + sz ≤ c.length ∧ y.cells.all AV.one = true then some ⟨e, [spl c off y.cells]⟩ else none := fun e c off sz y => by rw [hsto]; rfl
  have hcaw : ∀ {f args T base K}, CallK Try.prog f args T base K → call f args T base K := fun h => by rw [hcall]; exact h
  have hcal : ∀ {f args T base} {K : AV → Table → List Nat → List Nat → Prop}, (∃ args' ids val rows, Hands T ids args args' (val base) (rows base) ∧ ACalls Try.prog f args' val rows ∧ (rows base).length ≤ 8 ∧ K (val base) (adopt T base (rows base)) ids ((List.range (rows base).length).map (base + ·))) → call f args T base K := fun h => hcaw (call_own h)
  have hround : ∀ i, At prods i → lt i (len D) = true → ∃ p : ProdT, p.body.length ≤ 1000 ∧ nth D i 6 = some (.rp (prodC p)) ∧ ar .add .i64 i 1 = i + 1 ∧ (prods.length - (i + 1).toNat < prods.length - i.toNat) ∧ At prods (i + 1) ∧ (∀ O, O = ((prods.take i.toNat).map mirP).map prodC → O ++ [prodC (mirP p)] = ((prods.take (i + 1).toNat).map mirP).map prodC) ∧ (prods.take i.toNat).length ≤ 1000 := fun i hi hc => by
    rw [hlt, hlen, hDl] at hc
    obtain ⟨_, h0, h1⟩ := at_lt hi hc
    refine ⟨_, hbody _ (at_mem h0 h1), by rw [hnth]; exact hDn i h0 h1, by rw [har, ar_add64 (by omega) (by omega)], by omega, (at_step hi hc).1, fun O hO => ?_, by rw [List.length_take]; omega⟩
    rw [take_next h0 h1, hO]; simp
  have hdone : ∀ i, At prods i → lt i (len D) = false → prods.take i.toNat = prods := fun i hi hc => take_end hi (by rw [hlt, hlen, hDl] at hc; exact hc)
  have hapS : ∀ (T : Table) (id k0 k n n2 : Nat) (X Y : List (List AV)) (b : Bool) (v : Int), Y = X ++ [[.flat (.bool b), .flat (.int .i64 v)]] → n = X.length → n2 = n + 1 → n2 ≤ 1000000 → T k0 = some ⟨78, X⟩ → T k = some ⟨78, [[.flat (.bool b), .flat (.int .i64 v)]]⟩ → k ≠ k0 → app T id 59 59 (.sl k0 0 n) (.sl k 0 1) = some (.sl id 0 n2, (T.set k0 none).set id (some ⟨78, Y⟩)) := fun T id k0 k n n2 X Y b v h0 h1 h2 h3 h4 h5 h6 => by
    subst h0; rw [happ]; exact app_sym h1 h2 h3 h4 h5 h6
  have hapP : ∀ (T : Table) (id k0 k n n2 : Nat) (X Y : List (List AV)) (c : List AV), Y = X ++ [c] → n = X.length → n2 = n + 1 → n2 ≤ 1000000 → c.length = 6 → T k0 = some ⟨61, X⟩ → T k = some ⟨61, [c]⟩ → k ≠ k0 → app T id 45 45 (.sl k0 0 n) (.sl k 0 1) = some (.sl id 0 n2, (T.set k0 none).set id (some ⟨61, Y⟩)) := fun T id k0 k n n2 X Y c h0 h1 h2 h3 h7 h4 h5 h6 => by
    subst h0; rw [happ]; exact app_prod h1 h2 h3 h4 h5 h6 h7
  have hin : ∀ (body : List SymT), body.length ≤ 1000 → ∃ j0, ar .sub .i64 (len (body.map symC)) 1 = j0 ∧ DnAt body j0 ∧ ([] : List (List AV)) = ((body.drop (j0 + 1).toNat).reverse).map symC := fun body h => by
    obtain ⟨h1, h2, h3⟩ := dn_zero h
    exact ⟨_, by rw [hlen, len_map, har]; exact h2, h1, by rw [h3]; rfl⟩
  have hst : ∀ (body : List SymT) (j : Int), body.length ≤ 1000 → DnAt body j → le 0 j = true → ∃ b v, nth (body.map symC) j 2 = some (.rp [.flat (.bool b), .flat (.int .i64 v)]) ∧ DnAt body (j - 1) ∧ (j - 1 + 1).toNat < (j + 1).toNat ∧ ar .sub .i64 j 1 = j - 1 ∧ (∀ Y, Y = ((body.drop (j + 1).toNat).reverse).map symC → Y ++ [[.flat (.bool b), .flat (.int .i64 v)]] = ((body.drop (j - 1 + 1).toNat).reverse).map symC) ∧ (body.drop (j + 1).toNat).length ≤ 1000 := fun body j hl hj hc => by
    obtain ⟨h0, h1, h2, h3, h4, h5, h6⟩ := dn_step hl hj (by rw [hle] at hc; exact hc)
    refine ⟨_, _, by rw [hnth]; exact nth_map (fun _ => rfl) h0 h1, h2, h3, by rw [har]; exact h4, fun Y hY => ?_, h6⟩
    rw [h5, List.map_append, hY]; rfl
  have hen : ∀ (body : List SymT) (j : Int), DnAt body j → le 0 j = false → body.drop (j + 1).toNat = body := fun body j hj hc => dn_end hj (by rw [hle] at hc; exact hc)
  have hz := at_zero prods
  have hz0 : ([] : List (List AV)) = ((prods.take (0 : Int).toNat).map mirP).map prodC := rfl
  clear hDl hDn hbody hp
  cbv
  repeat (first | (rw [hbox]; cbv) | (rw [hsbox]; cbv))
  refine MW_loopN hm.mono [.slot 3 61] [] [0, 8, 32] [1, 2, 3, 4] 5 (cutOk_of hm.pm (by decide)) (fun mz st => ∃ (i : Int) (no : Nat) (O : List (List AV)), At prods i ∧ O = ((prods.take i.toNat).map mirP).map prodC ∧ no = O.length ∧ mz = prods.length - i.toNat ∧ st = stOf [.dead, .ptr 0 0 0, .ptr 1 0 0, .sl 2 0 no, .flat (.int .i64 i)] [some ⟨48, [[.ro R, .ro S, .ro D, .ro V, .flat (.int .i64 start)]]⟩, some ⟨48, [[.flat (.slice none 0 0), .flat (.slice none 0 0), .flat (.slice none 0 0), .flat (.slice none 0 0), .flat (.int .i64 0)]]⟩, some ⟨61, O⟩] 3) (prods.length - (0 : Int).toNat) ?_ ?_
  · exact ⟨0, 0, [], hz, hz0, rfl, rfl, cut_eq (by cbv) (cutRows_cons (by rfl) (by simp [closedAll, closedIn]) (cutRows_cons (by rfl) (by simp [closedAll, closedIn]) (cutRows_cons (by rfl) (fun c hc => by cases hc) rfl)))⟩
  rintro mz st ⟨i, no, O, hi, hO, hno, hmz, rfl⟩
  cases hcc : lt i (len D)
  · have he := hdone _ hi hcc
    rw [he, ← hDD] at hO
    have hno2 : no = pn := by rw [hno, hO, hDD, List.length_map, hpn]
    rw [← hO, ← hno2] at hQ
    have hOcl : ∀ c ∈ O, closedAll [] c = true := by rw [hO, hDD]; exact closed_prods _
    cbv
    repeat (first | (rw [hbox]; cbv) | (rw [hsbox]; cbv))
    rw [hcc]; cbv
    repeat (first | (rw [hbox]; cbv) | (rw [hsbox]; cbv))
    exact hQ _ _ trivial (leaves_gram (k := 2) (by cbv) (by rfl) hOcl)
  obtain ⟨p, hpb, x1, x2, x3, x4, x5, x6⟩ := hround _ hi hcc
  obtain ⟨ps, pc, body, pp, pe, hints⟩ := p
  dsimp only at hpb
  have hOl : O.length ≤ 1000 := by rw [hO, List.length_map, List.length_map]; exact x6
  have hOcl : ∀ c ∈ O, closedAll [] c = true := by rw [hO]; exact closed_prods _
  replace x5 := x5 O hO
  obtain ⟨j0, y1, y2, y3⟩ := hin body hpb
  have hst2 := fun j h h2 => hst body j hpb h h2
  have hen2 := hen body
  have hpx : ∀ Y, Y = (body.reverse).map symC → O ++ [[.flat (.int .i64 ps), .flat (.string pc), .ro Y, .flat (.bool pp), .flat (.int .i64 pe), .ro (hints.map intC)]] = ((prods.take (i + 1).toNat).map mirP).map prodC := fun Y hY => by rw [hY]; exact x5
  have hiz := fun Y (hY : Y = ((body.drop (j0 + 1).toNat).reverse).map symC) => hY
  unfold prodC at x1
  dsimp only at x1
  obtain ⟨B, hB⟩ : ∃ B, B = body.map symC := ⟨_, rfl⟩
  obtain ⟨H, hH⟩ : ∃ B, B = hints.map intC := ⟨_, rfl⟩
  rw [← hB] at y1 hst2
  rw [← hB, ← hH] at x1
  rw [← hH] at hpx
  generalize i + 1 = i2 at x2 x3 x4 hpx
  clear x5 hB hH hin hst hen hround hdone
  cbv
  repeat (first | (rw [hbox]; cbv) | (rw [hsbox]; cbv))
  rw [hcc]; cbv
  repeat (first | (rw [hbox]; cbv) | (rw [hsbox]; cbv) | (rw [x1]; cbv))
  rw [y1]; cbv
  refine MW_loopZ hm [.slot 6 78] [0, 1, 2, 83, 147] [1, 2, 3, 4, 5, 6, 7] 8 (by simp) (fun mz st => ∃ (j : Int) (nb : Nat) (Y : List (List AV)), DnAt body j ∧ Y = ((body.drop (j + 1).toNat).reverse).map symC ∧ nb = Y.length ∧ mz = (j + 1).toNat ∧ st = stOf [.dead, .ptr 0 0 0, .ptr 1 0 0, .sl 2 0 no, .flat (.int .i64 i), .ptr 3 0 0, .sl 4 0 nb, .flat (.int .i64 j)] [some ⟨48, [[.ro R, .ro S, .ro D, .ro V, .flat (.int .i64 start)]]⟩, some ⟨48, [[.flat (.slice none 0 0), .flat (.slice none 0 0), .flat (.slice none 0 0), .flat (.slice none 0 0), .flat (.int .i64 0)]]⟩, some ⟨61, O⟩, some ⟨61, [[.flat (.int .i64 ps), .flat (.string pc), .ro B, .flat (.bool pp), .flat (.int .i64 pe), .ro H]]⟩, some ⟨78, Y⟩] 5) ((j0 + 1).toNat) ?_ ?_
  · exact ⟨j0, 0, [], y2, y3, rfl, rfl, cut_eq (by cbv) (cutRows_cons (by rfl) (by simp [closedAll, closedIn]) (cutRows_cons (by rfl) (by simp [closedAll, closedIn]) (cutRows_cons (by rfl) (hOcl) (cutRows_cons (by rfl) (by simp [closedAll, closedIn]) (cutRows_cons (by rfl) (fun c hc => by cases hc) rfl)))))⟩
  rintro mb st ⟨j, nb, Y, hj, hY, hnb, hmb, rfl⟩
  have hYcl : ∀ c ∈ Y, closedAll [] c = true := by rw [hY]; exact closed_syms _
  cases hc2 : le 0 j
  · rw [hen2 _ hj hc2] at hY
    have hpy := hpx Y hY
    obtain ⟨no2, hno2⟩ : ∃ n, n = no + 1 := ⟨_, rfl⟩
    obtain ⟨Oa, hOa⟩ : ∃ Z, Z = O ++ [[.flat (.int .i64 ps), .flat (.string pc), .sl 4 0 nb, .flat (.bool pp), .flat (.int .i64 pe), .ro H]] := ⟨_, rfl⟩
    have ha := fun T id k0 k => hapP T id k0 k no no2 O Oa _ hOa hno hno2 (by omega) rfl
    cbv
    rw [hc2]; cbv
    repeat (first | (rw [hbox]; cbv) | (rw [hsbox]; cbv))
    rw [ha _ _ _ _ (by rfl) (by rfl) (by decide)]; cbv
    repeat (first | (rw [hbox]; cbv) | (rw [hsbox]; cbv))
    rw [x2]
    exact ⟨[], [4], [0, 1, 69], [1, 2, 3, 4], 5, prods.length - i2.toNat, hmz ▸ x3, cutOk_of hm.pm (by decide), i2, no2, _, x4, hpy, by rw [List.length_append, hno2, hno]; rfl, rfl, cut_frz1 (k := 4) (by rfl) hYcl (by decide) (by cbv) (by cbv) (cutRows_cons (frzT_cl (by rfl) (by decide) (by simp [closedAll, closedIn])) (by simp [closedAll, closedIn]) (cutRows_cons (frzT_cl (by rfl) (by decide) (by simp [closedAll, closedIn])) (by simp [closedAll, closedIn]) (cutRows_cons (frz_prod hOa (by rfl) (by decide) hOcl hnb) (by rw [hpy]; exact closed_prods _) rfl)))⟩
  obtain ⟨b, v, q1, q2, q3, q4, q5, q6⟩ := hst2 _ hj hc2
  replace q5 := q5 Y hY
  have hYl : Y.length ≤ 1000 := by rw [hY, List.length_map, List.length_reverse]; exact q6
  obtain ⟨nb2, hnb2⟩ : ∃ n, n = nb + 1 := ⟨_, rfl⟩
  obtain ⟨Y2, hY2⟩ : ∃ Z, Z = Y ++ [[.flat (.bool b), .flat (.int .i64 v)]] := ⟨_, rfl⟩
  have hnb3 : nb2 = Y2.length := by rw [hY2, List.length_append, hnb2, hnb]; rfl
  have ha := fun T id k0 k => hapS T id k0 k nb nb2 Y Y2 b v hY2 hnb hnb2 (by omega)
  rw [← hY2] at q5
  have hY2cl : ∀ c ∈ Y2, closedAll [] c = true := by rw [q5]; exact closed_syms _
  generalize (j + 1).toNat = mb0 at q3 hmb
  generalize j - 1 = j2 at q2 q3 q4 q5
  cbv
  rw [hc2]; cbv
  repeat (first | (rw [hbox]; cbv) | (rw [hsbox]; cbv) | (rw [q1]; cbv))
  rw [ha _ _ _ _ (by rfl) (by rfl) (by decide)]; cbv
  repeat (first | (rw [hbox]; cbv) | (rw [hsbox]; cbv))
  rw [q4]
  exact ⟨[0, 1, 2, 3, 77], [1, 2, 3, 4, 5, 6, 7], 8, (j2 + 1).toNat, hmb ▸ q3, by simp, j2, nb2, Y2, q2, q5, hnb3, rfl, cut_eq (by cbv) (cutRows_cons (by rfl) (by simp [closedAll, closedIn]) (cutRows_cons (by rfl) (by simp [closedAll, closedIn]) (cutRows_cons (by rfl) (hOcl) (cutRows_cons (by rfl) (by simp [closedAll, closedIn]) (cutRows_cons (by rfl) (hY2cl) rfl)))))⟩
end Go.Proofs.Ythilmgpciiopnaa.F
