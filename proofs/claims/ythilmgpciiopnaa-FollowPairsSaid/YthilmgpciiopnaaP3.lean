/- Contracts: follow.ends, follow.Pairs, bosketref22.Pairs; the law FollowPairs. -/
import Derived.Test.YthilmgpciiopnaaP2
namespace Go.Proofs.Ythilmgpciiopnaa.F
open Go G U K
set_option linter.unusedVariables false
set_option linter.unusedSimpArgs false
set_option maxRecDepth 100000
set_option maxHeartbeats 16000000
theorem fn58 : Try.prog.funcs[58]? = some Try.f58 := by kernel_rfl
theorem fn47 : Try.prog.funcs[47]? = some Try.f47 := by kernel_rfl
theorem fn48 : Try.prog.funcs[48]? = some Try.f48 := by kernel_rfl
theorem fn11 : Try.prog.funcs[11]? = some Try.f11 := by kernel_rfl
/-! ### Plain -/
def endN (l : List Nat) (s : SymT) : Nat := if s.sort = true then (if okI l.length s.n then atI l s.n else 0) else bitN s.n
theorem endN_lt {l : List Nat} (h : Sets l) (s : SymT) : endN l s < 18446744073709551616 := by
  unfold endN
  split
  · split
    · rename_i h2; exact sets_at h h2.1 h2.2
    · decide
  · exact bitN_lt _
def pS (e w : Nat) (F : List Nat) (k : Int) : List Nat := if hasN e k = true ∧ okI F.length k then F.set k.toNat (atI F k ||| w) else F
def OkP (n : Nat) (F : List Nat) : Prop := F.length = n ∧ Sets F
theorem okP_step {n : Nat} {e w : Nat} (hw : w < 18446744073709551616) {F : List Nat} (h : OkP n F) (k : Int) : OkP n (pS e w F k) := by
  unfold pS
  split
  · rename_i hk
    refine ⟨by rw [List.length_set]; exact h.1, fun x hx => ?_⟩
    rcases List.mem_or_eq_of_mem_set hx with hx | rfl
    · exact h.2 x hx
    · exact or_lt (sets_at h.2 hk.2.1 hk.2.2) hw
  · exact h
theorem okP_fold {α : Type} {n : Nat} {f : List Nat → α → List Nat} (hf : ∀ F a, OkP n F → OkP n (f F a)) : ∀ (l : List α) (F : List Nat), OkP n F → OkP n (l.foldl f F)
  | [], F, h => h
  | a :: l, F, h => okP_fold hf l _ (hf F a h)
def pR (e w : Nat) (F : List Nat) : List Nat := (ixs0 F.length).foldl (pS e w) F
theorem okP_R {n e w : Nat} (hw : w < 18446744073709551616) {F : List Nat} (h : OkP n F) : OkP n (pR e w F) := okP_fold (fun _ a h => okP_step hw h a) _ _ h
theorem fold_filter {e w : Nat} : ∀ (l : List Int) (F : List Nat), (l.filter (hasN e)).foldl (pS e w) F = l.foldl (pS e w) F
  | [], F => rfl
  | k :: l, F => by
    rw [List.filter_cons]
    cases h : hasN e k
    · rw [if_neg (by decide), List.foldl_cons, fold_filter l]
      congr 1
      unfold pS
      rw [if_neg (fun h2 => by rw [h] at h2; exact absurd h2.1 (by decide))]
    · rw [if_pos rfl, List.foldl_cons, List.foldl_cons, fold_filter l]
theorem fold_past {e w : Nat} : ∀ (l : List Int) (F : List Nat), (∀ k ∈ l, (F.length : Int) ≤ k) → l.foldl (pS e w) F = F
  | [], F, _ => rfl
  | k :: l, F, h => by
    have h1 : pS e w F k = F := by
      unfold pS
      rw [if_neg (fun h2 => by have := h k (by simp); have := h2.2.2; omega)]
    rw [List.foldl_cons, h1]
    exact fold_past l F fun q hq => h q (by simp [hq])
theorem ixs0_split {n m : Nat} (h : n ≤ m) : ∃ r, ixs0 m = ixs0 n ++ r ∧ ∀ k ∈ r, (n : Int) ≤ k := by
  obtain ⟨d, rfl⟩ := Nat.le.dest h
  clear h
  induction d with
  | zero => exact ⟨[], by simp, fun k hk => by cases hk⟩
  | succ d ih =>
    obtain ⟨r, h1, h2⟩ := ih
    refine ⟨r ++ [((n + d : Nat) : Int)], ?_, fun k hk => ?_⟩
    · have : ((n + (d + 1) : Nat) : Int) = ((n + d : Nat) : Int) + 1 := by omega
      rw [this, ixs0_next (by omega), h1, List.append_assoc]
    · rcases List.mem_append.1 hk with hk | hk
      · exact h2 k hk
      · simp only [List.mem_cons, List.not_mem_nil, or_false] at hk
        omega
theorem pS_len (e w : Nat) (F : List Nat) (k : Int) : (pS e w F k).length = F.length := by
  unfold pS; split <;> simp
theorem fold_len {e w : Nat} : ∀ (l : List Int) (F : List Nat), (l.foldl (pS e w) F).length = F.length
  | [], F => rfl
  | k :: l, F => by rw [List.foldl_cons, fold_len l, pS_len]
theorem pR_list {e w : Nat} {F : List Nat} (h : F.length ≤ 64) : (listN e).foldl (pS e w) F = pR e w F := by
  have e1 : listN e = (ixs0 (64 : Nat)).filter (hasN e) := rfl
  rw [e1, fold_filter]
  obtain ⟨r, h1, h2⟩ := ixs0_split h
  rw [h1, List.foldl_append, fold_past r _ fun k hk => by rw [fold_len]; exact h2 k hk]
  rfl
section
variable (E1 : List Bool) (F1 l : List Nat)
def pB (p : ProdT) (F : List Nat) (i : Int) : List Nat := pR (endN l (atI p.body i)) (withT E1 F1 (p.body.drop (i + 1).toNat) 0) F
def pP (F : List Nat) (p : ProdT) : List Nat := (ixs0 p.body.length).foldl (pB E1 F1 l p) F
def pairT (P : List ProdT) (m : Nat) : List Nat := P.foldl (pP E1 F1 l) (List.replicate m 0)
end
theorem okP_B {n : Nat} {E1 : List Bool} {F1 l : List Nat} (h1 : Sets F1) (p : ProdT) {F : List Nat} (h : OkP n F) (i : Int) : OkP n (pB E1 F1 l p F i) := okP_R (with_lt h1 (by decide)) h
theorem okP_P {n : Nat} {E1 : List Bool} {F1 l : List Nat} (h1 : Sets F1) (p : ProdT) {F : List Nat} (h : OkP n F) : OkP n (pP E1 F1 l F p) := okP_fold (fun _ a h => okP_B h1 p h a) _ _ h
theorem okP_zero (m : Nat) : OkP m (List.replicate m 0) := ⟨by simp, fun x hx => by rw [List.eq_of_mem_replicate hx]; decide⟩
theorem okP_pair {E1 : List Bool} {F1 l : List Nat} (h1 : Sets F1) (P : List ProdT) (m : Nat) : OkP m (pairT E1 F1 l P m) := okP_fold (fun _ a h => okP_P h1 a h) _ _ (okP_zero m)
/-! ### Where a fold stands -/
def FA {α : Type} (f : List Nat → α → List Nat) (l : List α) (n : Nat) (s0 : List Nat) (i : Int) (s : List Nat) : Prop := At l i ∧ s = (l.take i.toNat).foldl f s0 ∧ OkP n s
section
variable {α : Type} [Inhabited α] {f : List Nat → α → List Nat} {l : List α} {n : Nat} {s0 s : List Nat} {i : Int}
theorem fa_zero (h : OkP n s0) : FA f l n s0 0 s0 := ⟨at_zero l, rfl, h⟩
theorem fa_next (hf : ∀ F a, OkP n F → OkP n (f F a)) (h : FA f l n s0 i s) (hc : decide (i < (l.length : Int)) = true) : FA f l n s0 (i + 1) (f s (atI l i)) := by
  obtain ⟨_, h0, h1⟩ := at_lt h.1 hc
  exact ⟨(at_step h.1 hc).1, by rw [fold_next _ _ h0 h1, ← h.2.1], hf _ _ h.2.2⟩
theorem fa_end (h : FA f l n s0 i s) (hc : decide (i < (l.length : Int)) = false) : s = l.foldl f s0 := by
  rw [h.2.1, take_end h.1 hc]
end
theorem ixs0_len (m : Nat) : (ixs0 m).length = m := by simp [ixs0]
theorem ixs0_at {m : Nat} {i : Int} (h0 : 0 ≤ i) (h1 : i < m) : atI (ixs0 m) i = i := by
  unfold atI ixs0
  have : i.toNat < m := by omega
  simp [List.getD, this]
  omega
theorem listN_at {e : Nat} {i : Int} (h0 : 0 ≤ i) (h1 : i < (listN e).length) : hasN e (atI (listN e) i) = true ∧ 0 ≤ atI (listN e) i := by
  have h := at_mem h0 h1
  have h2 := List.mem_filter.1 h
  refine ⟨h2.2, ?_⟩
  have h3 := h2.2
  unfold hasN at h3
  rw [Bool.and_eq_true] at h3
  exact (of_decide_eq_true h3.1).1
theorem listN_len (e : Nat) : (listN e).length ≤ 64 := listTo_len
/-! ### The walks -/
theorem ends_calls (s : SymT) (l : List Nat) (hl : l.length ≤ 1000) : ACalls Try.prog 58 [.agg (symC s), .ro (l.map setC)] (fun _ => uV (endN l s)) (fun _ => []) := by
  have hcB := bit_calls s.n
  obtain ⟨ei, hei⟩ : ∃ ei : Int, ei = ((endN l s : Nat) : Int) := ⟨_, rfl⟩
  have h1 : s.sort = false → ((bitN s.n : Nat) : Int) = ei := fun h => by rw [hei]; unfold endN; rw [if_neg (by rw [h]; decide)]
  have h2 : s.sort = true → decide (s.n < 0) = true → ei = 0 := fun h h2 => by
    have := of_decide_eq_true h2
    rw [hei]; unfold endN; rw [if_pos h, if_neg (fun h => by have := h.1; omega)]; rfl
  have h3 : s.sort = true → decide ((l.length : Int) ≤ s.n) = true → ei = 0 := fun h h2 => by
    have := of_decide_eq_true h2
    rw [hei]; unfold endN; rw [if_pos h, if_neg (fun h => by have := h.2; omega)]; rfl
  have h4 : s.sort = true → decide (s.n < 0) = false → decide ((l.length : Int) ≤ s.n) = false → nthE (l.map setC) s.n 1 = some (.rp [.flat (.int .u64 ei)]) := fun h h2 h3 => by
    have h2 := of_decide_eq_false h2
    have h3 := of_decide_eq_false h3
    have hok : okI l.length s.n := ⟨by omega, by omega⟩
    rw [hei]; unfold endN; rw [if_pos h, if_pos hok]
    exact nth_map (fun _ => rfl) hok.1 hok.2
  unfold uV at hcB ⊢
  rw [← hei]
  clear hei
  obtain ⟨b, v⟩ := s
  unfold symC
  dsimp only at hcB h1 h2 h3 h4 ⊢
  obtain ⟨L, hL⟩ : ∃ L, L = l.map setC := ⟨_, rfl⟩
  rw [← hL] at h4 ⊢
  have hLn : lenE L = (l.length : Int) := by rw [hL, len_map]
  clear hL
  generalize ((bitN v : Nat) : Int) = bi at hcB h1
  refine acalls_symF tabF_ok fn58 rfl rfl rfl (by kernel_rfl) ?_
  have hfin : ∀ st, resA Try.prog Try.f58 st = some (.flat (.int .u64 ei)) → G.Leaves Try.prog Try.f58 (fun _ => .flat (.int .u64 ei)) (fun _ => []) st := fun st h => G.Leaves.plain h rfl
  rintro ⟨lt, le, eq, se, ar, dv, una, conv, len, sln, nat, nth, ixs, cel, sto, app, cpy, slc, mak, ixv, oth, dk, ib, call⟩ hS hm Q hQ
  obtain ⟨hlt, hle, heq, hse, har, hdv, huna, hconv, hlen, hsln, hnat, hnth, hixs, hcel, hsto, happ, hcpy, hslc, hmak, hixv, hoth, hdk, hib, hcall⟩ := Sym.mk.inj hS
  clear hS
  have hnt : ∀ n : Nat, nat n = U.natI n := fun n => by rw [hnat]; rfl
  have hbox : ∀ e c off, cel (some ⟨e, [c]⟩) 0 off = if off ≤ c.length then some (c.drop off) else none := fun e c off => by rw [hcel]; rfl
  have hsbox : ∀ e c off sz y, sto (some ⟨e, [c]⟩) 0 off sz y = if y.cells.length = sz ∧ off + sz ≤ c.length ∧ y.cells.all AV.one = true then some ⟨e, [spl c off y.cells]⟩ else none := fun e c off sz y => by rw [hsto]; rfl
  have hcaw : ∀ {f args T base K}, CallK Try.prog f args T base K → call f args T base K := fun h => by rw [hcall]; exact h
  have hcal : ∀ {f args T base} {K : AV → Table → List Nat → List Nat → Prop}, (∃ args' ids val rows, Hands T ids args args' (val base) (rows base) ∧ ACalls Try.prog f args' val rows ∧ (rows base).length ≤ 8 ∧ K (val base) (adopt T base (rows base)) ids ((List.range (rows base).length).map (base + ·))) → call f args T base K := fun h => hcaw (call_own h)
  have e3 : le (len L) v = decide ((l.length : Int) ≤ v) := by rw [hle, hlen, hLn]
  have e2 : lt v 0 = decide (v < 0) := by rw [hlt]
  have e4 : b = true → lt v 0 = false → le (len L) v = false → nth L v 1 = some (.rp [.flat (.int .u64 ei)]) := fun q1 q2 q3 => by rw [hnth]; exact h4 q1 (e2 ▸ q2) (e3 ▸ q3)
  rw [← e2] at h2
  rw [← e3] at h3
  clear e2 e3 h4 hLn
  cases b
  · have hb := h1 rfl
    subst hb
    cbv
    repeat (first | (rw [hbox]; cbv) | (rw [hsbox]; cbv))
    refine hcal ⟨_, [], _, _, .inl ⟨rfl, by cbv⟩, hcB, by simp, ?_⟩
    cbv
    exact hQ _ _ trivial (hfin _ (by cbv))
  cbv
  repeat (first | (rw [hbox]; cbv) | (rw [hsbox]; cbv))
  cases c1 : lt v 0
  rotate_left
  · have hz := h2 rfl c1
    subst hz
    cbv
    exact hQ _ _ trivial (hfin _ (by cbv))
  cbv
  repeat (first | (rw [hbox]; cbv))
  cases c2 : le (len L) v
  rotate_left
  · have hz := h3 rfl c2
    subst hz
    cbv
    exact hQ _ _ trivial (hfin _ (by cbv))
  cbv
  repeat (first | (rw [hbox]; cbv) | (rw [e4 rfl c1 c2]; cbv))
  exact hQ _ _ trivial (hfin _ (by cbv))
theorem pairs_calls (g : GramT) (hr : g.rules.length ≤ 64) (hs : g.sorts.length ≤ 1000) (hp : g.prods.length ≤ 1000) (hb : ∀ p ∈ g.prods, p.body.length ≤ 1000) : ACalls Try.prog 47 [gramV g] (fun k => .sl k 0 g.rules.length) (fun _ => [⟨22, (pairT (emptyT g.prods g.sorts.length) (firstT g.prods g.sorts.length) (lastT g) g.prods g.rules.length).map setC⟩]) := by
  have hbody : ∀ p ∈ g.prods, p.body.length ≤ 1000 := hb
  have hcOf := of_calls g hs hp hb
  have hcL := last_calls g hs hp hb
  have hcE := fun s => ends_calls s (lastT g) (by rw [last_len]; exact hs)
  have hLl := last_len g
  have hLs : Sets (lastT g) := (first_ok (mirG g).prods g.sorts.length).1.2
  have hF1 : Sets (firstT g.prods g.sorts.length) := (first_ok g.prods g.sorts.length).1.2
  have hEl : (emptyT g.prods g.sorts.length).length = g.sorts.length := (empty_ok _ _).1.1
  have hFl : (firstT g.prods g.sorts.length).length = g.sorts.length := (first_ok _ _).1.1.1
  obtain ⟨lT, hlT⟩ : ∃ l, l = lastT g := ⟨_, rfl⟩
  obtain ⟨rules, sorts, prods, levels, start⟩ := g
  unfold gramV gramL at *
  dsimp only at hs hp hr hbody hLl hF1 hEl hFl hcOf hcL ⊢
  rw [← hlT] at hLs hLl hcL hcE ⊢
  clear hlT hb
  generalize emptyT prods sorts.length = E1 at *
  generalize firstT prods sorts.length = F1 at *
  obtain ⟨R, hR⟩ : ∃ X, X = rules.map ruleC := ⟨_, rfl⟩
  obtain ⟨S, hSS⟩ : ∃ X, X = sorts.map strC := ⟨_, rfl⟩
  obtain ⟨D, hD⟩ : ∃ X, X = prods.map prodC := ⟨_, rfl⟩
  obtain ⟨V, hV⟩ : ∃ X, X = levels.map levC := ⟨_, rfl⟩
  rw [← hR, ← hSS, ← hV] at hcOf hcL ⊢
  rw [← hD] at hcOf hcL ⊢
  have hDl : lenE D = (prods.length : Int) := by rw [hD, len_map]
  have hRl : lenE R = (rules.length : Int) := by rw [hR, len_map]
  have hDn : ∀ i : Int, 0 ≤ i → i < prods.length → nthE D i 6 = some (.rp (prodC (atI prods i))) := fun i h0 h1 => by rw [hD]; exact nth_map (fun _ => rfl) h0 h1
  obtain ⟨EE, hEE⟩ : ∃ X, X = E1.map boolC := ⟨_, rfl⟩
  obtain ⟨FF, hFF⟩ : ∃ X, X = F1.map setC := ⟨_, rfl⟩
  obtain ⟨LL, hLL⟩ : ∃ X, X = lT.map setC := ⟨_, rfl⟩
  rw [← hEE, ← hFF] at hcOf
  rw [← hLL] at hcL
  have hcW := fun (l : List SymT) (hl : l.length ≤ 1000) => with_calls E1 F1 l 0 hF1 (by decide) (Nat.le_trans hl (by decide))
  rw [← hEE, ← hFF] at hcW
  have hEf : flatRow EE := by rw [hEE]; exact flat_bool _
  have hFf : flatRow FF := by rw [hFF]; exact flat_set _
  have hLf : flatRow LL := by rw [hLL]; exact flat_set _
  have hEcl : ∀ c ∈ EE, closedAll [] c = true := by rw [hEE]; exact closed_map fun _ => rfl
  have hFcl : ∀ c ∈ FF, closedAll [] c = true := by rw [hFF]; exact closed_map fun _ => rfl
  have hLcl : ∀ c ∈ LL, closedAll [] c = true := by rw [hLL]; exact closed_map fun _ => rfl
  have hEn : sorts.length = EE.length := by rw [hEE, List.length_map, hEl]
  have hFn : sorts.length = FF.length := by rw [hFF, List.length_map, hFl]
  have hLn : sorts.length = LL.length := by rw [hLL, List.length_map, hLl]
  have hcI := fun s => list_calls (endN lT s) (endN_lt hLs s)
  rw [← hLL] at hcE
  clear hLs hLL
  have hPok : ∀ F p, OkP rules.length F → OkP rules.length (pP E1 F1 lT F p) := fun F p h => okP_P hF1 p h
  have hBok : ∀ p F i, OkP rules.length F → OkP rules.length (pB E1 F1 lT p F i) := fun p F i h => okP_B hF1 p h i
  have hWlt : ∀ l, withT E1 F1 l 0 < 18446744073709551616 := fun l => with_lt hF1 (by decide)
  have hz : FA (pP E1 F1 lT) prods rules.length (List.replicate rules.length 0) 0 (List.replicate rules.length 0) := fa_zero (okP_zero _)
  have hmk0 := fun T id => mak_set T id rules.length (Nat.le_trans hr (by decide))
  obtain ⟨Z, hZ⟩ : ∃ X, X = (pairT E1 F1 lT prods rules.length).map setC := ⟨_, rfl⟩
  rw [← hZ]
  obtain ⟨Y0, hY0⟩ : ∃ X, X = (List.replicate rules.length 0).map setC := ⟨_, rfl⟩
  rw [← hY0] at hmk0
  clear hEE hFF hEl hFl hR hSS hV hD
  generalize rules.length = rm at *
  generalize sorts.length = sn at *
  refine acalls_symF tabF_ok fn47 rfl rfl rfl (by kernel_rfl) ?_
  rintro ⟨lt, le, eq, se, ar, dv, una, conv, len, sln, nat, nth, ixs, cel, sto, app, cpy, slc, mak, ixv, oth, dk, ib, call⟩ hS hm Q hQ
  obtain ⟨hlt, hle, heq, hse, har, hdv, huna, hconv, hlen, hsln, hnat, hnth, hixs, hcel, hsto, happ, hcpy, hslc, hmak, hixv, hoth, hdk, hib, hcall⟩ := Sym.mk.inj hS
  clear hS
  have hnt : ∀ n : Nat, nat n = U.natI n := fun n => by rw [hnat]; rfl
  have hbox : ∀ e c off, cel (some ⟨e, [c]⟩) 0 off = if off ≤ c.length then some (c.drop off) else none := fun e c off => by rw [hcel]; rfl
  have hsbox : ∀ e c off sz y, sto (some ⟨e, [c]⟩) 0 off sz y = if y.cells.length = sz ∧ off + sz ≤ c.length ∧ y.cells.all AV.one = true then some ⟨e, [spl c off y.cells]⟩ else none := fun e c off sz y => by rw [hsto]; rfl
  have hcaw : ∀ {f args T base K}, CallK Try.prog f args T base K → call f args T base K := fun h => by rw [hcall]; exact h
  have hcal : ∀ {f args T base} {K : AV → Table → List Nat → List Nat → Prop}, (∃ args' ids val rows, Hands T ids args args' (val base) (rows base) ∧ ACalls Try.prog f args' val rows ∧ (rows base).length ≤ 8 ∧ K (val base) (adopt T base (rows base)) ids ((List.range (rows base).length).map (base + ·))) → call f args T base K := fun h => hcaw (call_own h)
  have hmk : ∀ T id, mak T id 51 (.flat (.int .i64 (len R))) (.flat (.int .i64 (len R))) = some (.sl id 0 rm, T.set id (some ⟨22, Y0⟩)) := fun T id => by
    rw [hmak, hlen, hRl]; exact hmk0 T id
  have hround : ∀ i F, FA (pP E1 F1 lT) prods rm (List.replicate rm 0) i F → lt i (len D) = true → ∃ p : ProdT, p.body.length ≤ 1000 ∧ nth D i 6 = some (.rp (prodC p)) ∧ ar .add .i64 i 1 = i + 1 ∧ (prods.length - (i + 1).toNat < prods.length - i.toNat) ∧ FA (pB E1 F1 lT p) (ixs0 p.body.length) rm F 0 F ∧ (∀ j F2, FA (pB E1 F1 lT p) (ixs0 p.body.length) rm F j F2 → decide (j < (p.body.length : Int)) = false → FA (pP E1 F1 lT) prods rm (List.replicate rm 0) (i + 1) F2) := fun i F hi hc => by
    rw [hlt, hlen, hDl] at hc
    obtain ⟨_, h0, h1⟩ := at_lt hi.1 hc
    refine ⟨_, hbody _ (at_mem h0 h1), by rw [hnth]; exact hDn i h0 h1, by rw [har, ar_add64 (by omega) (by omega)], by omega, fa_zero hi.2.2, fun j F2 hj hc2 => ?_⟩
    have := fa_end hj (by rw [ixs0_len]; exact hc2)
    rw [this]
    exact fa_next hPok hi hc
  have hdone : ∀ i F, FA (pP E1 F1 lT) prods rm (List.replicate rm 0) i F → lt i (len D) = false → Z = F.map setC := fun i F hi hc => by
    rw [hlt, hlen, hDl] at hc
    rw [hZ, fa_end hi hc]; rfl
  have hmid : ∀ (p : ProdT) F0 j F, p.body.length ≤ 1000 → FA (pB E1 F1 lT p) (ixs0 p.body.length) rm F0 j F → lt j (len (p.body.map symC)) = true → ∃ (s : SymT) (wd : Nat), wd < 18446744073709551616 ∧ nth (p.body.map symC) j 2 = some (.rp (symC s)) ∧ ar .add .i64 j 1 = j + 1 ∧ (p.body.length - (j + 1).toNat < p.body.length - j.toNat) ∧ ACalls Try.prog 55 [.agg [.ro EE, .ro FF], .ro ((p.body.drop (j + 1).toNat).map symC), .flat (.int .u64 0)] (fun _ => .flat (.int .u64 (natI wd))) (fun _ => []) ∧ (∀ T, slc T 59 (.ro (p.body.map symC)) (some (.flat (.int .i64 (j + 1)))) none = some (.ro ((p.body.drop (j + 1).toNat).map symC))) ∧ FA (pB E1 F1 lT p) (ixs0 p.body.length) rm F0 (j + 1) (pR (endN lT s) wd F) ∧ OkP rm F := fun p F0 j F hpb hj hc => by
    rw [hlt, hlen, len_map] at hc
    have hc2 : decide (j < ((ixs0 p.body.length).length : Int)) = true := by rw [ixs0_len]; exact hc
    obtain ⟨_, h0, h1⟩ := at_lt hj.1 hc2
    rw [ixs0_len] at h1
    have hn := fa_next (fun F i h => hBok p F i h) hj hc2
    rw [ixs0_at h0 h1] at hn
    exact ⟨atI p.body j, _, hWlt _, by rw [hnth]; exact nth_map (fun _ => rfl) h0 h1, by rw [har, ar_add64 (by omega) (by omega)], by omega, hcW (p.body.drop (j + 1).toNat) (by rw [List.length_drop]; omega), fun T => by rw [hslc]; exact slc_drop T p.body (j + 1) (by omega) (by omega), hn, hj.2.2⟩
  have hmend : ∀ (p : ProdT) (j : Int), lt j (len (p.body.map symC)) = false → decide (j < (p.body.length : Int)) = false := fun p j hc => by rw [hlt, hlen, len_map] at hc; exact hc
  have hset : ∀ (F : List Nat) (Y : List (List AV)) (v : Int) (e wd : Nat), Y = F.map setC → OkP rm F → wd < 18446744073709551616 → okI rm v → hasN e v = true → ∃ (ai oi : Int) (Y2 : List (List AV)), (∀ id, ixs (some ⟨22, Y⟩) id 0 rm v 1 = some (.ptr id v.toNat 0)) ∧ cel (some ⟨22, Y⟩) v.toNat 0 = some [.flat (.int .u64 ai)] ∧ sto (some ⟨22, Y⟩) v.toNat 0 1 (.flat (.int .u64 oi)) = some ⟨22, Y2⟩ ∧ ar .or .u64 ai (natI wd) = oi ∧ Y2 = (pS e wd F v).map setC := fun F Y v e wd hY hF hw hv he => by
    obtain ⟨s1, s2, s3⟩ := own_set hY hF.1 hv
    have hlt1 := sets_at hF.2 hv.1 (by rw [hF.1]; exact hv.2)
    refine ⟨_, ((atI F v ||| wd : Nat) : Int), _, fun id => by rw [hixs]; exact s1 id, by rw [hcel]; exact s2, by rw [hsto]; exact s3 _, by rw [har]; exact or_u hlt1 hw, ?_⟩
    unfold pS
    rw [if_pos ⟨he, by rw [hF.1]; exact hv⟩]
  clear hDl hRl hmk0 hDn hcW hbody
  have hlst : ∀ (e wd : Nat) (k : Int) F0 F, wd < 18446744073709551616 → FA (pS e wd) (listN e) rm F0 k F → lt k (nat (listN e).length) = true → ∃ v : Int, (∀ id, ixs (some ⟨3, (listN e).map intC⟩) id 0 (listN e).length k 1 = some (.ptr id k.toNat 0)) ∧ cel (some ⟨3, (listN e).map intC⟩) k.toNat 0 = some [.flat (.int .i64 v)] ∧ ar .add .i64 k 1 = k + 1 ∧ ((listN e).length - (k + 1).toNat < (listN e).length - k.toNat) ∧ FA (pS e wd) (listN e) rm F0 (k + 1) (pS e wd F v) ∧ hasN e v = true ∧ 0 ≤ v ∧ (lt v (nat rm) = true → okI rm v) ∧ (lt v (nat rm) = false → pS e wd F v = F) := fun e wd k F0 F hw hk hc => by
    rw [hlt, hnt] at hc
    obtain ⟨_, h0, h1⟩ := at_lt hk.1 hc
    obtain ⟨g1, g2⟩ := listN_at h0 h1
    have := listN_len e
    refine ⟨atI (listN e) k, fun id => by rw [hixs]; exact own_ix c3 h0 h1 id, ?_, by rw [har, ar_add64 (by omega) (by omega)], by omega, fa_next (fun F a h => okP_step hw h a) hk hc, g1, g2, fun h => ⟨g2, ?_⟩, fun h => ?_⟩
    · rw [hcel, own_cel (get_map h0 h1) (Nat.zero_le _)]; rfl
    · rw [hlt, hnt] at h; exact of_decide_eq_true h
    · rw [hlt, hnt] at h
      unfold pS
      rw [if_neg (fun h2 => ?_)]
      have := h2.2.2
      rw [hk.2.2.1] at this
      exact absurd this (of_decide_eq_false h)
  have hlend : ∀ (e wd : Nat) (k : Int) F0 F, OkP rm F0 → FA (pS e wd) (listN e) rm F0 k F → lt k (nat (listN e).length) = false → F = pR e wd F0 := fun e wd k F0 F h0 hk hc => by
    rw [hlt, hnt] at hc
    rw [fa_end hk hc]
    exact pR_list (by rw [h0.1]; exact hr)
  cbv
  repeat (first | (rw [hbox]; cbv) | (rw [hsbox]; cbv) | (rw [hmk]; cbv))
  refine ⟨by rw [hdk]; kernel_rfl, ?_⟩
  repeat (first | (rw [hbox]; cbv) | (rw [hsbox]; cbv))
  refine hcal ⟨_, [], _, _, .inl ⟨rfl, by cbv⟩, hcOf, by simp, ?_⟩
  cbv
  repeat (first | (rw [hbox]; cbv) | (rw [hsbox]; cbv))
  refine hcal ⟨_, [], _, _, .inl ⟨rfl, by cbv⟩, hcL, by simp, ?_⟩
  cbv
  repeat (first | (rw [hbox]; cbv) | (rw [hsbox]; cbv))
  refine ⟨by rw [hib]; kernel_rfl, ?_⟩
  cbv
  repeat (first | (rw [hbox]; cbv) | (rw [hsbox]; cbv))
  refine MW_loop hm [88, 64, 65, 80, 40] [3, 4, 5, 21, 22, 23] 24 (by simp) (fun mz st => ∃ (i : Int) (F : List Nat) (Y : List (List AV)), FA (pP E1 F1 lT) prods rm (List.replicate rm 0) i F ∧ Y = F.map setC ∧ mz = prods.length - i.toNat ∧ st = stOf [.dead, .dead, .dead, .sl 4 0 rm, .ptr 0 0 0, .sl 3 0 sn, .dead, .dead, .dead, .dead, .dead, .dead, .dead, .dead, .dead, .dead, .dead, .dead, .dead, .dead, .dead, .ro D, .flat (.int .i64 (len D)), .flat (.int .i64 i)] [some ⟨53, [[.sl 1 0 sn, .sl 2 0 sn]]⟩, some ⟨4, EE⟩, some ⟨22, FF⟩, some ⟨22, LL⟩, some ⟨22, Y⟩] 5) (prods.length - (0 : Int).toNat) ?_ ?_
  · exact ⟨0, List.replicate rm 0, Y0, hz, hY0, rfl, cut_eq (by cbv) (cutRows_box (by rfl) (by rfl) (by rfl) (cutRows_cons (by rfl) (hEcl) (cutRows_cons (by rfl) (hFcl) (cutRows_cons (by rfl) (hLcl) (cutRows_cons (by rfl) (closed_set hY0) rfl)))))⟩
  rintro mz st ⟨i, F, Y, hi, hY, hmz, rfl⟩
  cases hcc : lt i (len D)
  · have he := hdone _ _ hi hcc
    have hYZ : Y = Z := by rw [hY, he]
    subst hYZ
    cbv
    rw [hcc]; cbv
    exact hQ _ _ trivial (leaves_own (k := 4) (by cbv) (by rfl) (closed_set hY))
  obtain ⟨p, hpb, x1, x2, x3, x4, x5⟩ := hround _ _ hi hcc
  have hmid2 := fun j F2 h h2 => hmid p F j F2 hpb h h2
  have hmend2 := hmend p
  obtain ⟨ps, pc, body, pp, pe, hints⟩ := p
  unfold prodC at x1
  dsimp only at x1 x4 x5 hmid2 hmend2 hpb
  obtain ⟨B, hB⟩ : ∃ B, B = body.map symC := ⟨_, rfl⟩
  obtain ⟨H, hH⟩ : ∃ B, B = hints.map intC := ⟨_, rfl⟩
  rw [← hB, ← hH] at x1
  rw [← hB] at hmid2 hmend2
  generalize i + 1 = i2 at x2 x3 x5
  cbv
  rw [hcc]; cbv
  repeat (first | (rw [hbox]; cbv) | (rw [hsbox]; cbv) | (rw [x1]; cbv))
  refine MW_loop hm [0, 1, 2, 3, 4, 29] [3, 4, 5, 7, 21, 22, 23, 28, 29, 30] 31 (by simp) (fun mz st => ∃ (j : Int) (F2 : List Nat) (Y2 : List (List AV)), FA (pB E1 F1 lT ⟨ps, pc, body, pp, pe, hints⟩) (ixs0 body.length) rm F j F2 ∧ Y2 = F2.map setC ∧ mz = body.length - j.toNat ∧ st = stOf [.dead, .dead, .dead, .sl 4 0 rm, .ptr 0 0 0, .sl 3 0 sn, .dead, .ptr 5 0 0, .dead, .dead, .dead, .dead, .dead, .dead, .dead, .dead, .dead, .dead, .dead, .dead, .dead, .ro D, .flat (.int .i64 (len D)), .flat (.int .i64 i), .dead, .dead, .dead, .dead, .ro B, .flat (.int .i64 (len B)), .flat (.int .i64 j)] [some ⟨53, [[.sl 1 0 sn, .sl 2 0 sn]]⟩, some ⟨4, EE⟩, some ⟨22, FF⟩, some ⟨22, LL⟩, some ⟨22, Y2⟩, some ⟨61, [[.flat (.int .i64 ps), .flat (.string pc), .ro B, .flat (.bool pp), .flat (.int .i64 pe), .ro H]]⟩] 6) (body.length - (0 : Int).toNat) ?_ ?_
  · exact ⟨0, F, Y, x4, hY, rfl, cut_eq (by cbv) (cutRows_box (by rfl) (by rfl) (by rfl) (cutRows_cons (by rfl) (hEcl) (cutRows_cons (by rfl) (hFcl) (cutRows_cons (by rfl) (hLcl) (cutRows_cons (by rfl) (closed_set hY) (cutRows_cons (by rfl) (by simp [closedAll, closedIn]) rfl))))))⟩
  rintro mb st ⟨j, F2, Y2, hj, hY2, hmb, rfl⟩
  cases hc2 : lt j (len B)
  · have he := x5 _ _ hj (hmend2 _ hc2)
    cbv
    rw [hc2]; cbv
    rw [x2]
    exact ⟨[0, 1, 2, 3, 4], [3, 4, 5, 21, 22, 23], 24, prods.length - i2.toNat, hmz ▸ x3, by simp, i2, F2, Y2, he, hY2, rfl, cut_eq (by cbv) (cutRows_box (by rfl) (by rfl) (by rfl) (cutRows_cons (by rfl) (hEcl) (cutRows_cons (by rfl) (hFcl) (cutRows_cons (by rfl) (hLcl) (cutRows_cons (by rfl) (closed_set hY2) rfl)))))⟩
  obtain ⟨s, wd, hwd, y1, y2, y3, hcW, y4, y5, y6⟩ := hmid2 _ _ hj hc2
  have hcE2 := hcE s
  have hcI2 := hcI s
  have hk0 : FA (pS (endN lT s) wd) (listN (endN lT s)) rm F2 0 F2 := fa_zero y6
  have hl2 := fun k F3 h1 h2 => hlst (endN lT s) wd k F2 F3 hwd h1 h2
  have hle2 := fun k F3 h1 h2 => hlend (endN lT s) wd k F2 F3 y6 h1 h2
  have hset2 := fun F3 Y3 v h1 h2 h3 h4 => hset F3 Y3 v (endN lT s) wd h1 h2 hwd h3 h4
  generalize endN lT s = e at hcE2 hcI2 y5 hk0 hl2 hle2 hset2
  unfold uV at hcE2 hcI2
  obtain ⟨b, v0⟩ := s
  unfold symC at y1 hcE2
  dsimp only at y1 hcE2
  obtain ⟨B2, hB2⟩ : ∃ X, X = (body.drop (j + 1).toNat).map symC := ⟨_, rfl⟩
  rw [← hB2] at hcW y4
  clear hB2
  obtain ⟨I, hI⟩ : ∃ X, X = (listN e).map intC := ⟨_, rfl⟩
  rw [← hI] at hcI2 hl2
  have hIcl : ∀ c ∈ I, closedAll [] c = true := by rw [hI]; exact closed_map fun _ => rfl
  clear hI
  generalize (listN e).length = ln at *
  generalize hwi : natI wd = wi at hcW hset2
  generalize ((e : Nat) : Int) = ei at hcE2 hcI2
  generalize j + 1 = j2 at y2 y3 y4 y5
  cbv
  rw [hc2]; cbv
  repeat (first | (rw [hbox]; cbv) | (rw [hsbox]; cbv) | (rw [y1]; cbv))
  refine hcal ⟨[.agg [.flat (.bool b), .flat (.int .i64 v0)], .ro LL], [3], _, _, hands_deep ⟨deep_agg ⟨.id rfl, .id rfl, trivial⟩, deep_row (by simp) (by rfl) hLn hLf.read, trivial⟩ rfl (fun r hr => by cases hr), hcE2, by simp, ?_⟩
  cbv
  refine hcal ⟨_, [], _, _, .inl ⟨rfl, by cbv⟩, hcI2, by simp, ?_⟩
  cbv
  refine MW_loop hm [0, 1, 2, 3, 4, 5, 86] [3, 4, 5, 7, 8, 21, 22, 23, 28, 29, 30, 38, 39, 40] 41 (by simp) (fun mz st => ∃ (k : Int) (F3 : List Nat) (Y3 : List (List AV)), FA (pS e wd) (listN e) rm F2 k F3 ∧ Y3 = F3.map setC ∧ mz = ln - k.toNat ∧ st = stOf [.dead, .dead, .dead, .sl 4 0 rm, .ptr 0 0 0, .sl 3 0 sn, .dead, .ptr 5 0 0, .flat (.int .i64 j), .dead, .dead, .dead, .dead, .dead, .dead, .dead, .dead, .dead, .dead, .dead, .dead, .ro D, .flat (.int .i64 (len D)), .flat (.int .i64 i), .dead, .dead, .dead, .dead, .ro B, .flat (.int .i64 (len B)), .flat (.int .i64 j), .dead, .dead, .dead, .dead, .dead, .dead, .dead, .sl 6 0 ln, .flat (.int .i64 (nat ln)), .flat (.int .i64 k)] [some ⟨53, [[.sl 1 0 sn, .sl 2 0 sn]]⟩, some ⟨4, EE⟩, some ⟨22, FF⟩, some ⟨22, LL⟩, some ⟨22, Y3⟩, some ⟨61, [[.flat (.int .i64 ps), .flat (.string pc), .ro B, .flat (.bool pp), .flat (.int .i64 pe), .ro H]]⟩, some ⟨3, I⟩] 7) (ln - (0 : Int).toNat) ?_ ?_
  · exact ⟨0, F2, Y2, hk0, hY2, rfl, cut_eq (by cbv) (cutRows_box (by rfl) (by rfl) (by rfl) (cutRows_cons (by rfl) (hEcl) (cutRows_cons (by rfl) (hFcl) (cutRows_cons (by rfl) (hLcl) (cutRows_cons (by rfl) (closed_set hY2) (cutRows_cons (by rfl) (by simp [closedAll, closedIn]) (cutRows_cons (by rfl) (hIcl) rfl)))))))⟩
  rintro mc st ⟨k, F3, Y3, hk, hY3, hmc, rfl⟩
  cases hc3 : lt k (nat ln)
  · have he := hle2 _ _ hk hc3
    rw [← he] at y5
    cbv
    rw [hc3]; cbv
    rw [y2]
    exact ⟨[0, 1, 2, 3, 4, 5], [3, 4, 5, 7, 21, 22, 23, 28, 29, 30], 31, body.length - j2.toNat, hmb ▸ y3, by simp, j2, F3, Y3, y5, hY3, rfl, cut_eq (by cbv) (cutRows_box (by rfl) (by rfl) (by rfl) (cutRows_cons (by rfl) (hEcl) (cutRows_cons (by rfl) (hFcl) (cutRows_cons (by rfl) (hLcl) (cutRows_cons (by rfl) (closed_set hY3) (cutRows_cons (by rfl) (by simp [closedAll, closedIn]) rfl))))))⟩
  obtain ⟨v, z1, z2, z3, z4, z5, z6, z7, z8, z9⟩ := hl2 _ _ hk hc3
  generalize k.toNat = kN at z1 z2 z4 hmc
  generalize k + 1 = k2 at z3 z4 z5
  cases hc4 : lt v (nat rm)
  · rw [z9 hc4] at z5
    cbv
    rw [hc3]; cbv
    repeat (first | (rw [hbox]; cbv) | (rw [hsbox]; cbv) | (rw [z1]; cbv) | (rw [z2]; cbv))
    rw [hc4]; cbv
    rw [z3]
    exact ⟨[0, 1, 2, 3, 4, 5, 6], [3, 4, 5, 7, 8, 21, 22, 23, 28, 29, 30, 38, 39, 40], 41, ln - k2.toNat, hmc ▸ z4, by simp, k2, F3, Y3, z5, hY3, rfl, cut_eq (by cbv) (cutRows_box (by rfl) (by rfl) (by rfl) (cutRows_cons (by rfl) (hEcl) (cutRows_cons (by rfl) (hFcl) (cutRows_cons (by rfl) (hLcl) (cutRows_cons (by rfl) (closed_set hY3) (cutRows_cons (by rfl) (by simp [closedAll, closedIn]) (cutRows_cons (by rfl) (hIcl) rfl)))))))⟩
  obtain ⟨ai, oi, Y4, w1, w2, w3, w4, w5⟩ := hset2 _ _ _ hY3 hk.2.2 (z8 hc4) z6
  generalize v.toNat = vN at w1 w2 w3
  cbv
  rw [hc3]; cbv
  repeat (first | (rw [hbox]; cbv) | (rw [hsbox]; cbv) | (rw [z1]; cbv) | (rw [z2]; cbv))
  rw [hc4]; cbv
  refine ⟨by rw [hdk]; kernel_rfl, ?_⟩
  repeat (first | (rw [hbox]; cbv) | (rw [hsbox]; cbv) | (rw [w1]; cbv) | (rw [w2]; cbv))
  rw [y2]; cbv
  rw [y4]; cbv
  repeat (first | (rw [hbox]; cbv) | (rw [hsbox]; cbv))
  refine hcal ⟨[.agg [.ro EE, .ro FF], .ro B2, .flat (.int .u64 0)], [1, 2], _, _, hands_deep ⟨deep_agg ⟨deep_row (by simp) (by rfl) hEn hEf.read, deep_row (by simp) (by rfl) hFn hFf.read, trivial⟩, .id rfl, .id rfl, trivial⟩ rfl (fun r hr => by cases hr), hcW, by simp, ?_⟩
  cbv
  repeat (first | (rw [hbox]; cbv) | (rw [hsbox]; cbv) | (rw [w1]; cbv) | (rw [w2]; cbv) | (rw [w4]; cbv) | (rw [w3]; cbv))
  refine ⟨by rw [hib]; kernel_rfl, ?_⟩
  cbv
  rw [z3]
  exact ⟨[0, 1, 2, 3, 4, 5, 6], [3, 4, 5, 7, 8, 21, 22, 23, 28, 29, 30, 38, 39, 40], 41, ln - k2.toNat, hmc ▸ z4, by simp, k2, pS e wd F3 v, Y4, z5, w5, rfl, cut_eq (by cbv) (cutRows_box (by rfl) (by rfl) (by rfl) (cutRows_cons (by rfl) (hEcl) (cutRows_cons (by rfl) (hFcl) (cutRows_cons (by rfl) (hLcl) (cutRows_cons (by rfl) (closed_set w5) (cutRows_cons (by rfl) (by simp [closedAll, closedIn]) (cutRows_cons (by rfl) (hIcl) rfl)))))))⟩
theorem refPairs_calls (g : GramT) (hr : g.rules.length ≤ 64) (hs : g.sorts.length ≤ 1000) (hp : g.prods.length ≤ 1000) (hb : ∀ p ∈ g.prods, p.body.length ≤ 1000) : ACalls Try.prog 48 [gramV g] (fun k => .sl k 0 g.rules.length) (fun _ => [⟨22, (pairT (emptyT g.prods g.sorts.length) (firstT g.prods g.sorts.length) (lastT g) g.prods g.rules.length).map setC⟩]) := by
  have hbody : ∀ p ∈ g.prods, p.body.length ≤ 1000 := hb
  obtain ⟨hmp, hmb⟩ := mir_facts hp hb
  obtain ⟨DD, hDD⟩ : ∃ X, X = (mirG g).prods.map prodC := ⟨_, rfl⟩
  obtain ⟨pn, hpn⟩ : ∃ n, n = (mirG g).prods.length := ⟨_, rfl⟩
  have hDDr : readRow DD := by rw [hDD]; exact read_prods _
  have hDDn : pn = DD.length := by rw [hpn, hDD, List.length_map]
  have hcEm := refEmpty_calls g hs hp hb
  have hcOf := refFirst_calls g hs hp hb
  have hcM : ACalls Try.prog 44 [gramV g] (fun k => .agg [.ro (g.rules.map ruleC), .ro (g.sorts.map strC), .sl k 0 pn, .ro (g.levels.map levC), .flat (.int .i64 g.start)]) (fun _ => [⟨61, DD⟩]) := by subst hDD hpn; exact refMirror_calls g hp hb
  have hcL : ACalls Try.prog 32 [.agg [.ro (g.rules.map ruleC), .ro (g.sorts.map strC), .ro DD, .ro (g.levels.map levC), .flat (.int .i64 g.start)]] (fun k => .sl k 0 g.sorts.length) (fun _ => [⟨22, (lastT g).map setC⟩]) := by subst hDD; exact refFirst_calls (mirG g) hs hmp hmb
  clear hDD hpn hmp hmb
  have hLl := last_len g
  have hLs : Sets (lastT g) := (first_ok (mirG g).prods g.sorts.length).1.2
  have hF1 : Sets (firstT g.prods g.sorts.length) := (first_ok g.prods g.sorts.length).1.2
  have hEl : (emptyT g.prods g.sorts.length).length = g.sorts.length := (empty_ok _ _).1.1
  have hFl : (firstT g.prods g.sorts.length).length = g.sorts.length := (first_ok _ _).1.1.1
  obtain ⟨lT, hlT⟩ : ∃ l, l = lastT g := ⟨_, rfl⟩
  obtain ⟨rules, sorts, prods, levels, start⟩ := g
  unfold gramV gramL at *
  dsimp only at hs hp hr hbody hLl hF1 hEl hFl hcEm hcOf hcL hcM ⊢
  rw [← hlT] at hLs hLl hcL ⊢
  clear hlT hb
  generalize emptyT prods sorts.length = E1 at *
  generalize firstT prods sorts.length = F1 at *
  obtain ⟨R, hR⟩ : ∃ X, X = rules.map ruleC := ⟨_, rfl⟩
  obtain ⟨S, hSS⟩ : ∃ X, X = sorts.map strC := ⟨_, rfl⟩
  obtain ⟨D, hD⟩ : ∃ X, X = prods.map prodC := ⟨_, rfl⟩
  obtain ⟨V, hV⟩ : ∃ X, X = levels.map levC := ⟨_, rfl⟩
  rw [← hR, ← hSS, ← hV] at hcEm hcOf hcL hcM ⊢
  rw [← hD] at hcEm hcOf hcM ⊢
  have hDl : lenE D = (prods.length : Int) := by rw [hD, len_map]
  have hRl : lenE R = (rules.length : Int) := by rw [hR, len_map]
  have hDn : ∀ i : Int, 0 ≤ i → i < prods.length → nthE D i 6 = some (.rp (prodC (atI prods i))) := fun i h0 h1 => by rw [hD]; exact nth_map (fun _ => rfl) h0 h1
  obtain ⟨EE, hEE⟩ : ∃ X, X = E1.map boolC := ⟨_, rfl⟩
  obtain ⟨FF, hFF⟩ : ∃ X, X = F1.map setC := ⟨_, rfl⟩
  obtain ⟨LL, hLL⟩ : ∃ X, X = lT.map setC := ⟨_, rfl⟩
  rw [← hEE] at hcEm
  rw [← hFF] at hcOf
  rw [← hLL] at hcL
  have hcW := fun (l : List SymT) (_ : l.length ≤ 1000) => refWith_calls E1 F1 l 0 hF1 (by decide)
  rw [← hEE, ← hFF] at hcW
  have hEf : flatRow EE := by rw [hEE]; exact flat_bool _
  have hFf : flatRow FF := by rw [hFF]; exact flat_set _
  have hLf : flatRow LL := by rw [hLL]; exact flat_set _
  have hEcl : ∀ c ∈ EE, closedAll [] c = true := by rw [hEE]; exact closed_map fun _ => rfl
  have hFcl : ∀ c ∈ FF, closedAll [] c = true := by rw [hFF]; exact closed_map fun _ => rfl
  have hLcl : ∀ c ∈ LL, closedAll [] c = true := by rw [hLL]; exact closed_map fun _ => rfl
  have hEn : sorts.length = EE.length := by rw [hEE, List.length_map, hEl]
  have hFn : sorts.length = FF.length := by rw [hFF, List.length_map, hFl]
  have hLn : sorts.length = LL.length := by rw [hLL, List.length_map, hLl]
  have hcI := fun s k => refHas_calls (endN lT s) (endN_lt hLs s) k
  have hcOne := one_calls
  have hown := fun (i : Int) (h : okI sorts.length i) => own_set hLL hLl h
  clear hLs hLL
  have hPok : ∀ F p, OkP rules.length F → OkP rules.length (pP E1 F1 lT F p) := fun F p h => okP_P hF1 p h
  have hBok : ∀ p F i, OkP rules.length F → OkP rules.length (pB E1 F1 lT p F i) := fun p F i h => okP_B hF1 p h i
  have hWlt : ∀ l, withT E1 F1 l 0 < 18446744073709551616 := fun l => with_lt hF1 (by decide)
  have hz : FA (pP E1 F1 lT) prods rules.length (List.replicate rules.length 0) 0 (List.replicate rules.length 0) := fa_zero (okP_zero _)
  have hmk0 := fun T id => mak_set T id rules.length (Nat.le_trans hr (by decide))
  obtain ⟨Z, hZ⟩ : ∃ X, X = (pairT E1 F1 lT prods rules.length).map setC := ⟨_, rfl⟩
  rw [← hZ]
  obtain ⟨Y0, hY0⟩ : ∃ X, X = (List.replicate rules.length 0).map setC := ⟨_, rfl⟩
  rw [← hY0] at hmk0
  clear hEE hFF hEl hFl hR hSS hV hD
  generalize rules.length = rm at *
  generalize sorts.length = sn at *
  refine acalls_symF tabF_ok fn48 rfl rfl rfl (by kernel_rfl) ?_
  rintro ⟨lt, le, eq, se, ar, dv, una, conv, len, sln, nat, nth, ixs, cel, sto, app, cpy, slc, mak, ixv, oth, dk, ib, call⟩ hS hm Q hQ
  obtain ⟨hlt, hle, heq, hse, har, hdv, huna, hconv, hlen, hsln, hnat, hnth, hixs, hcel, hsto, happ, hcpy, hslc, hmak, hixv, hoth, hdk, hib, hcall⟩ := Sym.mk.inj hS
  clear hS
  have hnt : ∀ n : Nat, nat n = U.natI n := fun n => by rw [hnat]; rfl
  have hbox : ∀ e c off, cel (some ⟨e, [c]⟩) 0 off = if off ≤ c.length then some (c.drop off) else none := fun e c off => by rw [hcel]; rfl
  have hsbox : ∀ e c off sz y, sto (some ⟨e, [c]⟩) 0 off sz y = if y.cells.length = sz ∧ off + sz ≤ c.length ∧ y.cells.all AV.one = true then some ⟨e, [spl c off y.cells]⟩ else none := fun e c off sz y => by rw [hsto]; rfl
  have hcaw : ∀ {f args T base K}, CallK Try.prog f args T base K → call f args T base K := fun h => by rw [hcall]; exact h
  have hcal : ∀ {f args T base} {K : AV → Table → List Nat → List Nat → Prop}, (∃ args' ids val rows, Hands T ids args args' (val base) (rows base) ∧ ACalls Try.prog f args' val rows ∧ (rows base).length ≤ 8 ∧ K (val base) (adopt T base (rows base)) ids ((List.range (rows base).length).map (base + ·))) → call f args T base K := fun h => hcaw (call_own h)
  have hmk : ∀ T id, mak T id 51 (.flat (.int .i64 (len R))) (.flat (.int .i64 (len R))) = some (.sl id 0 rm, T.set id (some ⟨22, Y0⟩)) := fun T id => by
    rw [hmak, hlen, hRl]; exact hmk0 T id
  have hround : ∀ i F, FA (pP E1 F1 lT) prods rm (List.replicate rm 0) i F → lt i (len D) = true → ∃ p : ProdT, p.body.length ≤ 1000 ∧ nth D i 6 = some (.rp (prodC p)) ∧ ar .add .i64 i 1 = i + 1 ∧ (prods.length - (i + 1).toNat < prods.length - i.toNat) ∧ FA (pB E1 F1 lT p) (ixs0 p.body.length) rm F 0 F ∧ (∀ j F2, FA (pB E1 F1 lT p) (ixs0 p.body.length) rm F j F2 → decide (j < (p.body.length : Int)) = false → FA (pP E1 F1 lT) prods rm (List.replicate rm 0) (i + 1) F2) := fun i F hi hc => by
    rw [hlt, hlen, hDl] at hc
    obtain ⟨_, h0, h1⟩ := at_lt hi.1 hc
    refine ⟨_, hbody _ (at_mem h0 h1), by rw [hnth]; exact hDn i h0 h1, by rw [har, ar_add64 (by omega) (by omega)], by omega, fa_zero hi.2.2, fun j F2 hj hc2 => ?_⟩
    have := fa_end hj (by rw [ixs0_len]; exact hc2)
    rw [this]
    exact fa_next hPok hi hc
  have hdone : ∀ i F, FA (pP E1 F1 lT) prods rm (List.replicate rm 0) i F → lt i (len D) = false → Z = F.map setC := fun i F hi hc => by
    rw [hlt, hlen, hDl] at hc
    rw [hZ, fa_end hi hc]; rfl
  have hmid : ∀ (p : ProdT) F0 j F, p.body.length ≤ 1000 → FA (pB E1 F1 lT p) (ixs0 p.body.length) rm F0 j F → lt j (len (p.body.map symC)) = true → ∃ (s : SymT) (wd : Nat), wd < 18446744073709551616 ∧ nth (p.body.map symC) j 2 = some (.rp (symC s)) ∧ ar .add .i64 j 1 = j + 1 ∧ (p.body.length - (j + 1).toNat < p.body.length - j.toNat) ∧ ACalls Try.prog 56 [.ro EE, .ro FF, .ro ((p.body.drop (j + 1).toNat).map symC), .flat (.int .u64 0)] (fun _ => .flat (.int .u64 (natI wd))) (fun _ => []) ∧ (∀ T, slc T 59 (.ro (p.body.map symC)) (some (.flat (.int .i64 (j + 1)))) none = some (.ro ((p.body.drop (j + 1).toNat).map symC))) ∧ FA (pB E1 F1 lT p) (ixs0 p.body.length) rm F0 (j + 1) (pR (endN lT s) wd F) ∧ OkP rm F := fun p F0 j F hpb hj hc => by
    rw [hlt, hlen, len_map] at hc
    have hc2 : decide (j < ((ixs0 p.body.length).length : Int)) = true := by rw [ixs0_len]; exact hc
    obtain ⟨_, h0, h1⟩ := at_lt hj.1 hc2
    rw [ixs0_len] at h1
    have hn := fa_next (fun F i h => hBok p F i h) hj hc2
    rw [ixs0_at h0 h1] at hn
    exact ⟨atI p.body j, _, hWlt _, by rw [hnth]; exact nth_map (fun _ => rfl) h0 h1, by rw [har, ar_add64 (by omega) (by omega)], by omega, hcW (p.body.drop (j + 1).toNat) (by rw [List.length_drop]; omega), fun T => by rw [hslc]; exact slc_drop T p.body (j + 1) (by omega) (by omega), hn, hj.2.2⟩
  have hmend : ∀ (p : ProdT) (j : Int), lt j (len (p.body.map symC)) = false → decide (j < (p.body.length : Int)) = false := fun p j hc => by rw [hlt, hlen, len_map] at hc; exact hc
  have hset : ∀ (F : List Nat) (Y : List (List AV)) (v : Int) (e wd : Nat), Y = F.map setC → OkP rm F → wd < 18446744073709551616 → okI rm v → hasN e v = true → ∃ (ai oi : Int) (Y2 : List (List AV)), (∀ id, ixs (some ⟨22, Y⟩) id 0 rm v 1 = some (.ptr id v.toNat 0)) ∧ cel (some ⟨22, Y⟩) v.toNat 0 = some [.flat (.int .u64 ai)] ∧ sto (some ⟨22, Y⟩) v.toNat 0 1 (.flat (.int .u64 oi)) = some ⟨22, Y2⟩ ∧ ACalls Try.prog 34 [.flat (.int .u64 ai), .flat (.int .u64 (natI wd))] (fun _ => .flat (.int .u64 oi)) (fun _ => []) ∧ Y2 = (pS e wd F v).map setC := fun F Y v e wd hY hF hw hv he => by
    obtain ⟨s1, s2, s3⟩ := own_set hY hF.1 hv
    have hlt1 := sets_at hF.2 hv.1 (by rw [hF.1]; exact hv.2)
    refine ⟨_, ((atI F v ||| wd : Nat) : Int), _, fun id => by rw [hixs]; exact s1 id, by rw [hcel]; exact s2, by rw [hsto]; exact s3 _, or_calls _ _ hlt1 hw, ?_⟩
    unfold pS
    rw [if_pos ⟨he, by rw [hF.1]; exact hv⟩]
  clear hDl hRl hmk0 hDn hcW hbody
  have hlst : ∀ (e wd : Nat) (k : Int) F0 F, wd < 18446744073709551616 → FA (pS e wd) (ixs0 rm) rm F0 k F → lt k (nat rm) = true → okI rm k ∧ ar .add .i64 k 1 = k + 1 ∧ (rm - (k + 1).toNat < rm - k.toNat) ∧ FA (pS e wd) (ixs0 rm) rm F0 (k + 1) (pS e wd F k) ∧ (hasN e k = false → pS e wd F k = F) := fun e wd k F0 F hw hk hc => by
    rw [hlt, hnt] at hc
    have hc2 : decide (k < ((ixs0 rm).length : Int)) = true := by rw [ixs0_len]; exact hc
    obtain ⟨_, h0, h1⟩ := at_lt hk.1 hc2
    rw [ixs0_len] at h1
    have hn := fa_next (fun F a h => okP_step hw h a) hk hc2
    rw [ixs0_at h0 h1] at hn
    refine ⟨⟨h0, h1⟩, by rw [har, ar_add64 (by omega) (by omega)], by omega, hn, fun h => ?_⟩
    unfold pS
    rw [if_neg (fun h2 => by rw [h] at h2; exact absurd h2.1 (by decide))]
  have hlend : ∀ (e wd : Nat) (k : Int) F0 F, OkP rm F0 → FA (pS e wd) (ixs0 rm) rm F0 k F → lt k (nat rm) = false → F = pR e wd F0 := fun e wd k F0 F h0 hk hc => by
    rw [hlt, hnt] at hc
    rw [fa_end hk (by rw [ixs0_len]; exact hc)]
    unfold pR
    rw [h0.1]
  have hend : ∀ s : SymT, ∃ ei bi : Int, (∀ k, ACalls Try.prog 14 [.flat (.int .u64 ei), .flat (.int .i64 k)] (fun _ => .flat (.bool (hasN (endN lT s) k))) (fun _ => [])) ∧ ACalls Try.prog 16 [.flat (.int .i64 s.n)] (fun _ => .flat (.int .u64 bi)) (fun _ => []) ∧ (s.sort = false → bi = ei) ∧ (s.sort = true → le 0 s.n = false → ei = 0) ∧ (s.sort = true → le 0 s.n = true → lt s.n (nat sn) = false → ei = 0) ∧ (s.sort = true → le 0 s.n = true → lt s.n (nat sn) = true → (∀ id, ixs (some ⟨22, LL⟩) id 0 sn s.n 1 = some (.ptr id s.n.toNat 0)) ∧ cel (some ⟨22, LL⟩) s.n.toNat 0 = some [.flat (.int .u64 ei)]) := fun s => by
    refine ⟨((endN lT s : Nat) : Int), ((bitN s.n : Nat) : Int), hcI s, hcOne s.n, fun h => ?_, fun h h2 => ?_, fun h h2 h3 => ?_, fun h h2 h3 => ?_⟩
    · unfold endN; rw [if_neg (by rw [h]; decide)]
    · rw [hle] at h2
      have := of_decide_eq_false h2
      unfold endN; rw [if_pos h, if_neg (fun h => this h.1)]; rfl
    · rw [hlt, hnt] at h3
      have := of_decide_eq_false h3
      unfold endN; rw [if_pos h, if_neg (fun h => this (by have := h.2; rw [hLl] at this; exact this))]; rfl
    · rw [hle] at h2
      rw [hlt, hnt] at h3
      have hok : okI sn s.n := ⟨of_decide_eq_true h2, of_decide_eq_true h3⟩
      obtain ⟨q1, q2, _⟩ := hown _ hok
      have he : endN lT s = atI lT s.n := by unfold endN; rw [if_pos h, if_pos (by rw [hLl]; exact hok)]
      rw [he]
      exact ⟨fun id => by rw [hixs]; exact q1 id, by rw [hcel]; exact q2⟩
  clear hcI hcOne hown
  cbv
  refine ⟨by rw [hdk]; kernel_rfl, ?_⟩
  repeat (first | (rw [hbox]; cbv) | (rw [hsbox]; cbv))
  refine hcal ⟨_, [], _, _, .inl ⟨rfl, by cbv⟩, hcEm, by simp, ?_⟩
  cbv
  repeat (first | (rw [hbox]; cbv) | (rw [hsbox]; cbv))
  refine hcal ⟨_, [], _, _, .inl ⟨rfl, by cbv⟩, hcOf, by simp, ?_⟩
  cbv
  repeat (first | (rw [hbox]; cbv) | (rw [hsbox]; cbv))
  refine hcal ⟨_, [], _, _, .inl ⟨rfl, by cbv⟩, hcM, by simp, ?_⟩
  cbv
  repeat (first | (rw [hbox]; cbv) | (rw [hsbox]; cbv))
  refine hcal ⟨[.agg [.ro R, .ro S, .ro DD, .ro V, .flat (.int .i64 start)]], [56], _, _, hands_deep ⟨deep_agg ⟨.id rfl, .id rfl, deep_row (by simp) (by rfl) hDDn hDDr, .id rfl, .id rfl, trivial⟩, trivial⟩ rfl (noRo_flat hLf), hcL, by simp, ?_⟩
  cbv
  repeat (first | (rw [hbox]; cbv) | (rw [hsbox]; cbv))
  refine ⟨by rw [hib]; kernel_rfl, ?_⟩
  cbv
  repeat (first | (rw [hbox]; cbv) | (rw [hsbox]; cbv) | (rw [hmk]; cbv))
  refine MW_loop hm [0, 24, 40, 64, 120] [1, 3, 4, 5, 6, 7] 8 (by simp) (fun mz st => ∃ (i : Int) (F : List Nat) (Y : List (List AV)), FA (pP E1 F1 lT) prods rm (List.replicate rm 0) i F ∧ Y = F.map setC ∧ mz = prods.length - i.toNat ∧ st = stOf [.dead, .ptr 0 0 0, .dead, .sl 1 0 sn, .sl 2 0 sn, .sl 3 0 sn, .sl 4 0 rm, .flat (.int .i64 i)] [some ⟨48, [[.ro R, .ro S, .ro D, .ro V, .flat (.int .i64 start)]]⟩, some ⟨4, EE⟩, some ⟨22, FF⟩, some ⟨22, LL⟩, some ⟨22, Y⟩] 5) (prods.length - (0 : Int).toNat) ?_ ?_
  · exact ⟨0, List.replicate rm 0, Y0, hz, hY0, rfl, cut_eq (by cbv) (cutRows_cons (by rfl) (by simp [closedAll, closedIn]) (cutRows_cons (by rfl) (hEcl) (cutRows_cons (by rfl) (hFcl) (cutRows_cons (by rfl) (hLcl) (cutRows_cons (by rfl) (closed_set hY0) rfl)))))⟩
  rintro mz st ⟨i, F, Y, hi, hY, hmz, rfl⟩
  cases hcc : lt i (len D)
  · have he := hdone _ _ hi hcc
    have hYZ : Y = Z := by rw [hY, he]
    subst hYZ
    cbv
    repeat (first | (rw [hbox]; cbv))
    rw [hcc]; cbv
    exact hQ _ _ trivial (leaves_own (k := 4) (by cbv) (by rfl) (closed_set hY))
  obtain ⟨p, hpb, x1, x2, x3, x4, x5⟩ := hround _ _ hi hcc
  have hmid2 := fun j F2 h h2 => hmid p F j F2 hpb h h2
  have hmend2 := hmend p
  obtain ⟨ps, pc, body, pp, pe, hints⟩ := p
  unfold prodC at x1
  dsimp only at x1 x4 x5 hmid2 hmend2 hpb
  obtain ⟨B, hB⟩ : ∃ B, B = body.map symC := ⟨_, rfl⟩
  obtain ⟨H, hH⟩ : ∃ B, B = hints.map intC := ⟨_, rfl⟩
  rw [← hB, ← hH] at x1
  rw [← hB] at hmid2 hmend2
  generalize i + 1 = i2 at x2 x3 x5
  cbv
  repeat (first | (rw [hbox]; cbv) | (rw [hsbox]; cbv))
  rw [hcc]; cbv
  refine MW_loop hm [0, 1, 2, 3, 4] [1, 3, 4, 5, 6, 7, 8] 9 (by simp) (fun mz st => ∃ (j : Int) (F2 : List Nat) (Y2 : List (List AV)), FA (pB E1 F1 lT ⟨ps, pc, body, pp, pe, hints⟩) (ixs0 body.length) rm F j F2 ∧ Y2 = F2.map setC ∧ mz = body.length - j.toNat ∧ st = stOf [.dead, .ptr 0 0 0, .dead, .sl 1 0 sn, .sl 2 0 sn, .sl 3 0 sn, .sl 4 0 rm, .flat (.int .i64 i), .flat (.int .i64 j)] [some ⟨48, [[.ro R, .ro S, .ro D, .ro V, .flat (.int .i64 start)]]⟩, some ⟨4, EE⟩, some ⟨22, FF⟩, some ⟨22, LL⟩, some ⟨22, Y2⟩] 5) (body.length - (0 : Int).toNat) ?_ ?_
  · exact ⟨0, F, Y, x4, hY, rfl, cut_eq (by cbv) (cutRows_cons (by rfl) (by simp [closedAll, closedIn]) (cutRows_cons (by rfl) (hEcl) (cutRows_cons (by rfl) (hFcl) (cutRows_cons (by rfl) (hLcl) (cutRows_cons (by rfl) (closed_set hY) rfl)))))⟩
  rintro mb st ⟨j, F2, Y2, hj, hY2, hmb, rfl⟩
  cases hc2 : lt j (len B)
  · have he := x5 _ _ hj (hmend2 _ hc2)
    cbv
    repeat (first | (rw [hbox]; cbv) | (rw [x1]; cbv))
    rw [hc2]; cbv
    rw [x2]
    exact ⟨[0, 1, 2, 3, 4], [1, 3, 4, 5, 6, 7], 8, prods.length - i2.toNat, hmz ▸ x3, by simp, i2, F2, Y2, he, hY2, rfl, cut_eq (by cbv) (cutRows_cons (by rfl) (by simp [closedAll, closedIn]) (cutRows_cons (by rfl) (hEcl) (cutRows_cons (by rfl) (hFcl) (cutRows_cons (by rfl) (hLcl) (cutRows_cons (by rfl) (closed_set hY2) rfl)))))⟩
  obtain ⟨s, wd, hwd, y1, y2, y3, hcW, y4, y5, y6⟩ := hmid2 _ _ hj hc2
  obtain ⟨ei, bi, hcH, hcO1, u1, u2, u3, u4⟩ := hend s
  have hk0 : FA (pS (endN lT s) wd) (ixs0 rm) rm F2 0 F2 := fa_zero y6
  have hl2 := fun k F3 h1 h2 => hlst (endN lT s) wd k F2 F3 hwd h1 h2
  have hle2 := fun k F3 h1 h2 => hlend (endN lT s) wd k F2 F3 y6 h1 h2
  have hset2 := fun F3 Y3 v h1 h2 h3 h4 => hset F3 Y3 v (endN lT s) wd h1 h2 hwd h3 h4
  generalize endN lT s = e at hcH y5 hk0 hl2 hle2 hset2
  obtain ⟨b, v0⟩ := s
  unfold symC at y1
  dsimp only at y1 hcO1 u1 u2 u3 u4
  obtain ⟨B2, hB2⟩ : ∃ X, X = (body.drop (j + 1).toNat).map symC := ⟨_, rfl⟩
  rw [← hB2] at hcW y4
  clear hB2
  generalize hwi : natI wd = wi at hcW hset2
  generalize j + 1 = j2 at y2 y3 y4 y5
  generalize v0.toNat = vN0 at u4
  cases b
  · have hb := u1 rfl
    subst hb
    cbv
    repeat (first | (rw [hbox]; cbv) | (rw [hsbox]; cbv) | (rw [x1]; cbv))
    rw [hc2]; cbv
    repeat (first | (rw [hbox]; cbv) | (rw [hsbox]; cbv) | (rw [x1]; cbv) | (rw [y1]; cbv))
    refine hcal ⟨_, [], _, _, .inl ⟨rfl, by cbv⟩, hcO1, by simp, ?_⟩
    cbv
    repeat (first | (rw [hbox]; cbv) | (rw [hsbox]; cbv))
    refine MW_loop hm [0, 1, 2, 3, 4] [1, 3, 4, 5, 6, 7, 8, 10, 11] 12 (by simp) (fun mz st => ∃ (k : Int) (F3 : List Nat) (Y3 : List (List AV)), FA (pS e wd) (ixs0 rm) rm F2 k F3 ∧ Y3 = F3.map setC ∧ mz = rm - k.toNat ∧ st = stOf [.dead, .ptr 0 0 0, .dead, .sl 1 0 sn, .sl 2 0 sn, .sl 3 0 sn, .sl 4 0 rm, .flat (.int .i64 i), .flat (.int .i64 j), .dead, .flat (.int .u64 bi), .flat (.int .i64 k)] [some ⟨48, [[.ro R, .ro S, .ro D, .ro V, .flat (.int .i64 start)]]⟩, some ⟨4, EE⟩, some ⟨22, FF⟩, some ⟨22, LL⟩, some ⟨22, Y3⟩] 5) (rm - (0 : Int).toNat) ?_ ?_
    · exact ⟨0, F2, Y2, hk0, hY2, rfl, cut_eq (by cbv) (cutRows_cons (by rfl) (by simp [closedAll, closedIn]) (cutRows_cons (by rfl) (hEcl) (cutRows_cons (by rfl) (hFcl) (cutRows_cons (by rfl) (hLcl) (cutRows_cons (by rfl) (closed_set hY2) rfl)))))⟩
    rintro mc st ⟨k, F3, Y3, hk, hY3, hmc, rfl⟩
    cases hc3 : lt k (nat rm)
    · have he := hle2 _ _ hk hc3
      rw [← he] at y5
      cbv
      rw [hc3]; cbv
      rw [y2]
      exact ⟨[0, 1, 2, 3, 4], [1, 3, 4, 5, 6, 7, 8], 9, body.length - j2.toNat, hmb ▸ y3, by simp, j2, F3, Y3, y5, hY3, rfl, cut_eq (by cbv) (cutRows_cons (by rfl) (by simp [closedAll, closedIn]) (cutRows_cons (by rfl) (hEcl) (cutRows_cons (by rfl) (hFcl) (cutRows_cons (by rfl) (hLcl) (cutRows_cons (by rfl) (closed_set hY3) rfl)))))⟩
    obtain ⟨z1, z2, z3, z4, z5⟩ := hl2 _ _ hk hc3
    have hcHk := hcH k
    have hst := fun h => hset2 _ _ _ hY3 hk.2.2 z1 h
    generalize k.toNat = kN at z3 hst hmc
    generalize hw0 : hasN e k = w0 at hcHk z5 hst
    cbv
    rw [hc3]; cbv
    refine hcal ⟨_, [], _, _, .inl ⟨rfl, by cbv⟩, hcHk, by simp, ?_⟩
    cbv
    generalize k + 1 = k2 at z2 z3 z4
    cases w0
    · rw [z5 rfl] at z4
      cbv
      rw [z2]
      exact ⟨[0, 1, 2, 3, 4], [1, 3, 4, 5, 6, 7, 8, 10, 11], 12, rm - k2.toNat, hmc ▸ z3, by simp, k2, F3, Y3, z4, hY3, rfl, cut_eq (by cbv) (cutRows_cons (by rfl) (by simp [closedAll, closedIn]) (cutRows_cons (by rfl) (hEcl) (cutRows_cons (by rfl) (hFcl) (cutRows_cons (by rfl) (hLcl) (cutRows_cons (by rfl) (closed_set hY3) rfl)))))⟩
    obtain ⟨ai, oi, Y4, w1, w2, w3, hcOr, w5⟩ := hst rfl
    cbv
    refine ⟨by rw [hdk]; kernel_rfl, ?_⟩
    repeat (first | (rw [hbox]; cbv) | (rw [hsbox]; cbv) | (rw [w1]; cbv) | (rw [w2]; cbv) | (rw [x1]; cbv))
    rw [y2]; cbv
    rw [y4]; cbv
    repeat (first | (rw [hbox]; cbv) | (rw [hsbox]; cbv))
    refine hcal ⟨[.ro EE, .ro FF, .ro B2, .flat (.int .u64 0)], [1, 2], _, _, hands_deep ⟨deep_row (by simp) (by rfl) hEn hEf.read, deep_row (by simp) (by rfl) hFn hFf.read, .id rfl, .id rfl, trivial⟩ rfl (fun r hr => by cases hr), hcW, by simp, ?_⟩
    cbv
    refine hcal ⟨_, [], _, _, .inl ⟨rfl, by cbv⟩, hcOr, by simp, ?_⟩
    cbv
    repeat (first | (rw [hbox]; cbv) | (rw [hsbox]; cbv) | (rw [w1]; cbv) | (rw [w2]; cbv) | (rw [w3]; cbv))
    refine ⟨by rw [hib]; kernel_rfl, ?_⟩
    cbv
    rw [z2]
    exact ⟨[0, 1, 2, 3, 4], [1, 3, 4, 5, 6, 7, 8, 10, 11], 12, rm - k2.toNat, hmc ▸ z3, by simp, k2, pS e wd F3 k, Y4, z4, w5, rfl, cut_eq (by cbv) (cutRows_cons (by rfl) (by simp [closedAll, closedIn]) (cutRows_cons (by rfl) (hEcl) (cutRows_cons (by rfl) (hFcl) (cutRows_cons (by rfl) (hLcl) (cutRows_cons (by rfl) (closed_set w5) rfl)))))⟩
  cases e1 : le 0 v0
  · have hz := u2 rfl e1
    subst hz
    cbv
    repeat (first | (rw [hbox]; cbv) | (rw [hsbox]; cbv) | (rw [x1]; cbv))
    rw [hc2]; cbv
    repeat (first | (rw [hbox]; cbv) | (rw [hsbox]; cbv) | (rw [x1]; cbv) | (rw [y1]; cbv))
    refine hcal ⟨_, [], _, _, .inl ⟨rfl, by cbv⟩, hcO1, by simp, ?_⟩
    cbv
    repeat (first | (rw [hbox]; cbv) | (rw [hsbox]; cbv))
    rw [e1]; cbv
    refine MW_loop hm [0, 1, 2, 3, 4] [1, 3, 4, 5, 6, 7, 8, 10, 11] 12 (by simp) (fun mz st => ∃ (k : Int) (F3 : List Nat) (Y3 : List (List AV)), FA (pS e wd) (ixs0 rm) rm F2 k F3 ∧ Y3 = F3.map setC ∧ mz = rm - k.toNat ∧ st = stOf [.dead, .ptr 0 0 0, .dead, .sl 1 0 sn, .sl 2 0 sn, .sl 3 0 sn, .sl 4 0 rm, .flat (.int .i64 i), .flat (.int .i64 j), .dead, .flat (.int .u64 0), .flat (.int .i64 k)] [some ⟨48, [[.ro R, .ro S, .ro D, .ro V, .flat (.int .i64 start)]]⟩, some ⟨4, EE⟩, some ⟨22, FF⟩, some ⟨22, LL⟩, some ⟨22, Y3⟩] 5) (rm - (0 : Int).toNat) ?_ ?_
    · exact ⟨0, F2, Y2, hk0, hY2, rfl, cut_eq (by cbv) (cutRows_cons (by rfl) (by simp [closedAll, closedIn]) (cutRows_cons (by rfl) (hEcl) (cutRows_cons (by rfl) (hFcl) (cutRows_cons (by rfl) (hLcl) (cutRows_cons (by rfl) (closed_set hY2) rfl)))))⟩
    rintro mc st ⟨k, F3, Y3, hk, hY3, hmc, rfl⟩
    cases hc3 : lt k (nat rm)
    · have he := hle2 _ _ hk hc3
      rw [← he] at y5
      cbv
      rw [hc3]; cbv
      rw [y2]
      exact ⟨[0, 1, 2, 3, 4], [1, 3, 4, 5, 6, 7, 8], 9, body.length - j2.toNat, hmb ▸ y3, by simp, j2, F3, Y3, y5, hY3, rfl, cut_eq (by cbv) (cutRows_cons (by rfl) (by simp [closedAll, closedIn]) (cutRows_cons (by rfl) (hEcl) (cutRows_cons (by rfl) (hFcl) (cutRows_cons (by rfl) (hLcl) (cutRows_cons (by rfl) (closed_set hY3) rfl)))))⟩
    obtain ⟨z1, z2, z3, z4, z5⟩ := hl2 _ _ hk hc3
    have hcHk := hcH k
    have hst := fun h => hset2 _ _ _ hY3 hk.2.2 z1 h
    generalize k.toNat = kN at z3 hst hmc
    generalize hw0 : hasN e k = w0 at hcHk z5 hst
    cbv
    rw [hc3]; cbv
    refine hcal ⟨_, [], _, _, .inl ⟨rfl, by cbv⟩, hcHk, by simp, ?_⟩
    cbv
    generalize k + 1 = k2 at z2 z3 z4
    cases w0
    · rw [z5 rfl] at z4
      cbv
      rw [z2]
      exact ⟨[0, 1, 2, 3, 4], [1, 3, 4, 5, 6, 7, 8, 10, 11], 12, rm - k2.toNat, hmc ▸ z3, by simp, k2, F3, Y3, z4, hY3, rfl, cut_eq (by cbv) (cutRows_cons (by rfl) (by simp [closedAll, closedIn]) (cutRows_cons (by rfl) (hEcl) (cutRows_cons (by rfl) (hFcl) (cutRows_cons (by rfl) (hLcl) (cutRows_cons (by rfl) (closed_set hY3) rfl)))))⟩
    obtain ⟨ai, oi, Y4, w1, w2, w3, hcOr, w5⟩ := hst rfl
    cbv
    refine ⟨by rw [hdk]; kernel_rfl, ?_⟩
    repeat (first | (rw [hbox]; cbv) | (rw [hsbox]; cbv) | (rw [w1]; cbv) | (rw [w2]; cbv) | (rw [x1]; cbv))
    rw [y2]; cbv
    rw [y4]; cbv
    repeat (first | (rw [hbox]; cbv) | (rw [hsbox]; cbv))
    refine hcal ⟨[.ro EE, .ro FF, .ro B2, .flat (.int .u64 0)], [1, 2], _, _, hands_deep ⟨deep_row (by simp) (by rfl) hEn hEf.read, deep_row (by simp) (by rfl) hFn hFf.read, .id rfl, .id rfl, trivial⟩ rfl (fun r hr => by cases hr), hcW, by simp, ?_⟩
    cbv
    refine hcal ⟨_, [], _, _, .inl ⟨rfl, by cbv⟩, hcOr, by simp, ?_⟩
    cbv
    repeat (first | (rw [hbox]; cbv) | (rw [hsbox]; cbv) | (rw [w1]; cbv) | (rw [w2]; cbv) | (rw [w3]; cbv))
    refine ⟨by rw [hib]; kernel_rfl, ?_⟩
    cbv
    rw [z2]
    exact ⟨[0, 1, 2, 3, 4], [1, 3, 4, 5, 6, 7, 8, 10, 11], 12, rm - k2.toNat, hmc ▸ z3, by simp, k2, pS e wd F3 k, Y4, z4, w5, rfl, cut_eq (by cbv) (cutRows_cons (by rfl) (by simp [closedAll, closedIn]) (cutRows_cons (by rfl) (hEcl) (cutRows_cons (by rfl) (hFcl) (cutRows_cons (by rfl) (hLcl) (cutRows_cons (by rfl) (closed_set w5) rfl)))))⟩
  cases e2 : lt v0 (nat sn)
  · have hz := u3 rfl e1 e2
    subst hz
    cbv
    repeat (first | (rw [hbox]; cbv) | (rw [hsbox]; cbv) | (rw [x1]; cbv))
    rw [hc2]; cbv
    repeat (first | (rw [hbox]; cbv) | (rw [hsbox]; cbv) | (rw [x1]; cbv) | (rw [y1]; cbv))
    refine hcal ⟨_, [], _, _, .inl ⟨rfl, by cbv⟩, hcO1, by simp, ?_⟩
    cbv
    repeat (first | (rw [hbox]; cbv) | (rw [hsbox]; cbv))
    rw [e1]; cbv
    repeat (first | (rw [hbox]; cbv) | (rw [hsbox]; cbv))
    rw [e2]; cbv
    refine MW_loop hm [0, 1, 2, 3, 4] [1, 3, 4, 5, 6, 7, 8, 10, 11] 12 (by simp) (fun mz st => ∃ (k : Int) (F3 : List Nat) (Y3 : List (List AV)), FA (pS e wd) (ixs0 rm) rm F2 k F3 ∧ Y3 = F3.map setC ∧ mz = rm - k.toNat ∧ st = stOf [.dead, .ptr 0 0 0, .dead, .sl 1 0 sn, .sl 2 0 sn, .sl 3 0 sn, .sl 4 0 rm, .flat (.int .i64 i), .flat (.int .i64 j), .dead, .flat (.int .u64 0), .flat (.int .i64 k)] [some ⟨48, [[.ro R, .ro S, .ro D, .ro V, .flat (.int .i64 start)]]⟩, some ⟨4, EE⟩, some ⟨22, FF⟩, some ⟨22, LL⟩, some ⟨22, Y3⟩] 5) (rm - (0 : Int).toNat) ?_ ?_
    · exact ⟨0, F2, Y2, hk0, hY2, rfl, cut_eq (by cbv) (cutRows_cons (by rfl) (by simp [closedAll, closedIn]) (cutRows_cons (by rfl) (hEcl) (cutRows_cons (by rfl) (hFcl) (cutRows_cons (by rfl) (hLcl) (cutRows_cons (by rfl) (closed_set hY2) rfl)))))⟩
    rintro mc st ⟨k, F3, Y3, hk, hY3, hmc, rfl⟩
    cases hc3 : lt k (nat rm)
    · have he := hle2 _ _ hk hc3
      rw [← he] at y5
      cbv
      rw [hc3]; cbv
      rw [y2]
      exact ⟨[0, 1, 2, 3, 4], [1, 3, 4, 5, 6, 7, 8], 9, body.length - j2.toNat, hmb ▸ y3, by simp, j2, F3, Y3, y5, hY3, rfl, cut_eq (by cbv) (cutRows_cons (by rfl) (by simp [closedAll, closedIn]) (cutRows_cons (by rfl) (hEcl) (cutRows_cons (by rfl) (hFcl) (cutRows_cons (by rfl) (hLcl) (cutRows_cons (by rfl) (closed_set hY3) rfl)))))⟩
    obtain ⟨z1, z2, z3, z4, z5⟩ := hl2 _ _ hk hc3
    have hcHk := hcH k
    have hst := fun h => hset2 _ _ _ hY3 hk.2.2 z1 h
    generalize k.toNat = kN at z3 hst hmc
    generalize hw0 : hasN e k = w0 at hcHk z5 hst
    cbv
    rw [hc3]; cbv
    refine hcal ⟨_, [], _, _, .inl ⟨rfl, by cbv⟩, hcHk, by simp, ?_⟩
    cbv
    generalize k + 1 = k2 at z2 z3 z4
    cases w0
    · rw [z5 rfl] at z4
      cbv
      rw [z2]
      exact ⟨[0, 1, 2, 3, 4], [1, 3, 4, 5, 6, 7, 8, 10, 11], 12, rm - k2.toNat, hmc ▸ z3, by simp, k2, F3, Y3, z4, hY3, rfl, cut_eq (by cbv) (cutRows_cons (by rfl) (by simp [closedAll, closedIn]) (cutRows_cons (by rfl) (hEcl) (cutRows_cons (by rfl) (hFcl) (cutRows_cons (by rfl) (hLcl) (cutRows_cons (by rfl) (closed_set hY3) rfl)))))⟩
    obtain ⟨ai, oi, Y4, w1, w2, w3, hcOr, w5⟩ := hst rfl
    cbv
    refine ⟨by rw [hdk]; kernel_rfl, ?_⟩
    repeat (first | (rw [hbox]; cbv) | (rw [hsbox]; cbv) | (rw [w1]; cbv) | (rw [w2]; cbv) | (rw [x1]; cbv))
    rw [y2]; cbv
    rw [y4]; cbv
    repeat (first | (rw [hbox]; cbv) | (rw [hsbox]; cbv))
    refine hcal ⟨[.ro EE, .ro FF, .ro B2, .flat (.int .u64 0)], [1, 2], _, _, hands_deep ⟨deep_row (by simp) (by rfl) hEn hEf.read, deep_row (by simp) (by rfl) hFn hFf.read, .id rfl, .id rfl, trivial⟩ rfl (fun r hr => by cases hr), hcW, by simp, ?_⟩
    cbv
    refine hcal ⟨_, [], _, _, .inl ⟨rfl, by cbv⟩, hcOr, by simp, ?_⟩
    cbv
    repeat (first | (rw [hbox]; cbv) | (rw [hsbox]; cbv) | (rw [w1]; cbv) | (rw [w2]; cbv) | (rw [w3]; cbv))
    refine ⟨by rw [hib]; kernel_rfl, ?_⟩
    cbv
    rw [z2]
    exact ⟨[0, 1, 2, 3, 4], [1, 3, 4, 5, 6, 7, 8, 10, 11], 12, rm - k2.toNat, hmc ▸ z3, by simp, k2, pS e wd F3 k, Y4, z4, w5, rfl, cut_eq (by cbv) (cutRows_cons (by rfl) (by simp [closedAll, closedIn]) (cutRows_cons (by rfl) (hEcl) (cutRows_cons (by rfl) (hFcl) (cutRows_cons (by rfl) (hLcl) (cutRows_cons (by rfl) (closed_set w5) rfl)))))⟩
  obtain ⟨t1, t2⟩ := u4 rfl e1 e2
  cbv
  repeat (first | (rw [hbox]; cbv) | (rw [hsbox]; cbv) | (rw [x1]; cbv))
  rw [hc2]; cbv
  repeat (first | (rw [hbox]; cbv) | (rw [hsbox]; cbv) | (rw [x1]; cbv) | (rw [y1]; cbv))
  refine hcal ⟨_, [], _, _, .inl ⟨rfl, by cbv⟩, hcO1, by simp, ?_⟩
  cbv
  repeat (first | (rw [hbox]; cbv) | (rw [hsbox]; cbv))
  rw [e1]; cbv
  repeat (first | (rw [hbox]; cbv) | (rw [hsbox]; cbv))
  rw [e2]; cbv
  repeat (first | (rw [hbox]; cbv) | (rw [hsbox]; cbv) | (rw [t1]; cbv) | (rw [t2]; cbv))
  refine MW_loop hm [0, 1, 2, 3, 4] [1, 3, 4, 5, 6, 7, 8, 10, 11] 12 (by simp) (fun mz st => ∃ (k : Int) (F3 : List Nat) (Y3 : List (List AV)), FA (pS e wd) (ixs0 rm) rm F2 k F3 ∧ Y3 = F3.map setC ∧ mz = rm - k.toNat ∧ st = stOf [.dead, .ptr 0 0 0, .dead, .sl 1 0 sn, .sl 2 0 sn, .sl 3 0 sn, .sl 4 0 rm, .flat (.int .i64 i), .flat (.int .i64 j), .dead, .flat (.int .u64 ei), .flat (.int .i64 k)] [some ⟨48, [[.ro R, .ro S, .ro D, .ro V, .flat (.int .i64 start)]]⟩, some ⟨4, EE⟩, some ⟨22, FF⟩, some ⟨22, LL⟩, some ⟨22, Y3⟩] 5) (rm - (0 : Int).toNat) ?_ ?_
  · exact ⟨0, F2, Y2, hk0, hY2, rfl, cut_eq (by cbv) (cutRows_cons (by rfl) (by simp [closedAll, closedIn]) (cutRows_cons (by rfl) (hEcl) (cutRows_cons (by rfl) (hFcl) (cutRows_cons (by rfl) (hLcl) (cutRows_cons (by rfl) (closed_set hY2) rfl)))))⟩
  rintro mc st ⟨k, F3, Y3, hk, hY3, hmc, rfl⟩
  cases hc3 : lt k (nat rm)
  · have he := hle2 _ _ hk hc3
    rw [← he] at y5
    cbv
    rw [hc3]; cbv
    rw [y2]
    exact ⟨[0, 1, 2, 3, 4], [1, 3, 4, 5, 6, 7, 8], 9, body.length - j2.toNat, hmb ▸ y3, by simp, j2, F3, Y3, y5, hY3, rfl, cut_eq (by cbv) (cutRows_cons (by rfl) (by simp [closedAll, closedIn]) (cutRows_cons (by rfl) (hEcl) (cutRows_cons (by rfl) (hFcl) (cutRows_cons (by rfl) (hLcl) (cutRows_cons (by rfl) (closed_set hY3) rfl)))))⟩
  obtain ⟨z1, z2, z3, z4, z5⟩ := hl2 _ _ hk hc3
  have hcHk := hcH k
  have hst := fun h => hset2 _ _ _ hY3 hk.2.2 z1 h
  generalize k.toNat = kN at z3 hst hmc
  generalize hw0 : hasN e k = w0 at hcHk z5 hst
  cbv
  rw [hc3]; cbv
  refine hcal ⟨_, [], _, _, .inl ⟨rfl, by cbv⟩, hcHk, by simp, ?_⟩
  cbv
  generalize k + 1 = k2 at z2 z3 z4
  cases w0
  · rw [z5 rfl] at z4
    cbv
    rw [z2]
    exact ⟨[0, 1, 2, 3, 4], [1, 3, 4, 5, 6, 7, 8, 10, 11], 12, rm - k2.toNat, hmc ▸ z3, by simp, k2, F3, Y3, z4, hY3, rfl, cut_eq (by cbv) (cutRows_cons (by rfl) (by simp [closedAll, closedIn]) (cutRows_cons (by rfl) (hEcl) (cutRows_cons (by rfl) (hFcl) (cutRows_cons (by rfl) (hLcl) (cutRows_cons (by rfl) (closed_set hY3) rfl)))))⟩
  obtain ⟨ai, oi, Y4, w1, w2, w3, hcOr, w5⟩ := hst rfl
  cbv
  refine ⟨by rw [hdk]; kernel_rfl, ?_⟩
  repeat (first | (rw [hbox]; cbv) | (rw [hsbox]; cbv) | (rw [w1]; cbv) | (rw [w2]; cbv) | (rw [x1]; cbv))
  rw [y2]; cbv
  rw [y4]; cbv
  repeat (first | (rw [hbox]; cbv) | (rw [hsbox]; cbv))
  refine hcal ⟨[.ro EE, .ro FF, .ro B2, .flat (.int .u64 0)], [1, 2], _, _, hands_deep ⟨deep_row (by simp) (by rfl) hEn hEf.read, deep_row (by simp) (by rfl) hFn hFf.read, .id rfl, .id rfl, trivial⟩ rfl (fun r hr => by cases hr), hcW, by simp, ?_⟩
  cbv
  refine hcal ⟨_, [], _, _, .inl ⟨rfl, by cbv⟩, hcOr, by simp, ?_⟩
  cbv
  repeat (first | (rw [hbox]; cbv) | (rw [hsbox]; cbv) | (rw [w1]; cbv) | (rw [w2]; cbv) | (rw [w3]; cbv))
  refine ⟨by rw [hib]; kernel_rfl, ?_⟩
  cbv
  rw [z2]
  exact ⟨[0, 1, 2, 3, 4], [1, 3, 4, 5, 6, 7, 8, 10, 11], 12, rm - k2.toNat, hmc ▸ z3, by simp, k2, pS e wd F3 k, Y4, z4, w5, rfl, cut_eq (by cbv) (cutRows_cons (by rfl) (by simp [closedAll, closedIn]) (cutRows_cons (by rfl) (hEcl) (cutRows_cons (by rfl) (hFcl) (cutRows_cons (by rfl) (hLcl) (cutRows_cons (by rfl) (closed_set w5) rfl)))))⟩
theorem followPairs_calls (g : GramT) : ACalls Try.prog 11 [gramV g] (fun _ => .flat (.bool true)) (fun _ => []) := by
  have hcA := awake22_calls
  have hcF := fewG_calls g
  obtain ⟨W, hW⟩ : ∃ L, L = (pairT (emptyT g.prods g.sorts.length) (firstT g.prods g.sorts.length) (lastT g) g.prods g.rules.length).map setC := ⟨_, rfl⟩
  have hWf : flatRow W := by rw [hW]; exact flat_set _
  have hok := (okP_pair (E1 := emptyT g.prods g.sorts.length) (l := lastT g) (first_ok g.prods g.sorts.length).1.2 g.prods g.rules.length)
  have hWn : g.rules.length = W.length := by rw [hW, List.length_map, hok.1]
  have hall : fewG g = true → ACalls Try.prog 47 [gramV g] (fun k => .sl k 0 g.rules.length) (fun _ => [⟨22, W⟩]) ∧ ACalls Try.prog 48 [gramV g] (fun k => .sl k 0 g.rules.length) (fun _ => [⟨22, W⟩]) ∧ ACalls Try.prog 31 [.ro W, .ro W] (fun _ => .flat (.bool true)) (fun _ => []) := fun h => by
    obtain ⟨hs, hp, hb⟩ := few_1000 h
    obtain ⟨hr, _⟩ := few_facts h
    subst hW
    exact ⟨pairs_calls g (by omega) hs hp hb, refPairs_calls g (by omega) hs hp hb, sameSet_calls _ (by rw [hok.1]; omega)⟩
  generalize hf0 : fewG g = fw at hcF hall
  unfold gramV gramL at *
  clear hW hok
  generalize g.rules.map ruleC = R at *
  generalize g.sorts.map strC = S at *
  generalize g.prods.map prodC = D at *
  generalize g.levels.map levC = V at *
  generalize g.start = start at *
  generalize g.rules.length = n at *
  refine acalls_symF tabF_ok fn11 rfl rfl rfl (by kernel_rfl) ?_
  have hfin : ∀ st, resA Try.prog Try.f11 st = some (.flat (.bool true)) → G.Leaves Try.prog Try.f11 (fun _ => .flat (.bool true)) (fun _ => []) st := fun st h => G.Leaves.plain h rfl
  rintro ⟨lt, le, eq, se, ar, dv, una, conv, len, sln, nat, nth, ixs, cel, sto, app, cpy, slc, mak, ixv, oth, dk, ib, call⟩ hS hm Q hQ
  obtain ⟨hlt, hle, heq, hse, har, hdv, huna, hconv, hlen, hsln, hnat, hnth, hixs, hcel, hsto, happ, hcpy, hslc, hmak, hixv, hoth, hdk, hib, hcall⟩ := Sym.mk.inj hS
  clear hS
  have hnt : ∀ n : Nat, nat n = U.natI n := fun n => by rw [hnat]; rfl
  have hbox : ∀ e c off, cel (some ⟨e, [c]⟩) 0 off = if off ≤ c.length then some (c.drop off) else none := fun e c off => by rw [hcel]; rfl
  have hsbox : ∀ e c off sz y, sto (some ⟨e, [c]⟩) 0 off sz y = if y.cells.length = sz ∧ off + sz ≤ c.length ∧ y.cells.all AV.one = true then some ⟨e, [spl c off y.cells]⟩ else none := fun e c off sz y => by rw [hsto]; rfl
  have hcaw : ∀ {f args T base K}, CallK Try.prog f args T base K → call f args T base K := fun h => by rw [hcall]; exact h
  have hcal : ∀ {f args T base} {K : AV → Table → List Nat → List Nat → Prop}, (∃ args' ids val rows, Hands T ids args args' (val base) (rows base) ∧ ACalls Try.prog f args' val rows ∧ (rows base).length ≤ 8 ∧ K (val base) (adopt T base (rows base)) ids ((List.range (rows base).length).map (base + ·))) → call f args T base K := fun h => hcaw (call_own h)
  cbv
  refine hcal ⟨_, [], _, _, .inl ⟨rfl, by cbv⟩, hcA, by simp, ?_⟩
  cbv
  refine ⟨by rw [hdk]; kernel_rfl, ?_⟩
  repeat (first | (rw [hbox]; cbv) | (rw [hsbox]; cbv))
  refine hcal ⟨_, [], _, _, .inl ⟨rfl, by cbv⟩, hcF, by simp, ?_⟩
  cbv
  cases fw
  · cbv
    refine ⟨by rw [hib]; kernel_rfl, ?_⟩
    cbv
    exact hQ _ _ trivial (hfin _ (by cbv))
  obtain ⟨c1, c2, c3⟩ := hall rfl
  cbv
  repeat (first | (rw [hbox]; cbv) | (rw [hsbox]; cbv))
  refine hcal ⟨_, [], _, _, .inl ⟨rfl, by cbv⟩, c1, by simp, ?_⟩
  cbv
  repeat (first | (rw [hbox]; cbv) | (rw [hsbox]; cbv))
  refine hcal ⟨_, [], _, _, .inl ⟨rfl, by cbv⟩, c2, by simp, ?_⟩
  cbv
  repeat (first | (rw [hbox]; cbv) | (rw [hsbox]; cbv))
  refine hcal ⟨[.ro W, .ro W], [72, 88], _, _, hands_deep ⟨deep_row (by simp) (by rfl) hWn hWf.read, deep_row (by simp) (by rfl) hWn hWf.read, trivial⟩ rfl (fun r hr => by cases hr), c3, by simp, ?_⟩
  cbv
  refine ⟨by rw [hib]; kernel_rfl, ?_⟩
  cbv
  exact hQ _ _ trivial (hfin _ (by cbv))
end Go.Proofs.Ythilmgpciiopnaa.F
