/- Contracts: bosketref21.Empty. -/
import Derived.Test.YthilmgpciiopnaaF9
import Derived.Test.YthilmgpciiopnaaK0
namespace Go.Proofs.Ythilmgpciiopnaa.F
open Go G U K
set_option linter.unusedVariables false
set_option linter.unusedSimpArgs false
set_option maxRecDepth 100000
set_option maxHeartbeats 4000000
theorem fn30 : Try.prog.funcs[30]? = some Try.f30 := by kernel_rfl
/-- Where the rounds stand. -/
def KAt (n : Nat) (k : Int) : Prop := 0 ≤ k ∧ k ≤ (n : Int) + 1
theorem kAt_zero (n : Nat) : KAt n 0 := ⟨by omega, by omega⟩
theorem kAt_end {n : Nat} {k : Int} (h : KAt n k) (hc : decide (k ≤ (n : Int)) = false) : k.toNat = n + 1 := by
  obtain ⟨h0, h1⟩ := h
  simp only [decide_eq_false_iff_not] at hc
  omega
theorem kAt_step {n : Nat} {k : Int} (hn : n ≤ 1000) (h : KAt n k) (hc : decide (k ≤ (n : Int)) = true) : KAt n (k + 1) ∧ U.left (n + 1) (k + 1) < U.left (n + 1) k ∧ arI .add .i64 k 1 = k + 1 ∧ (k + 1).toNat = k.toNat + 1 := by
  obtain ⟨h0, h1⟩ := h
  simp only [decide_eq_true_eq] at hc
  exact ⟨⟨by omega, by omega⟩, by unfold U.left; omega, ar_add64 (by omega) (by omega), by omega⟩
theorem own_bool {Y : List (List AV)} {l : List Bool} (hY : Y = l.map boolC) {n : Nat} (hn : l.length = n) {i : Int} (h : okI n i) : (∀ id, ixSl Try.prog (some ⟨4, Y⟩) id 0 n i 1 = some (.ptr id i.toNat 0)) ∧ ptrCells (some ⟨4, Y⟩) i.toNat 0 = some [.flat (.bool (atI l i))] ∧ ∀ v, storeRow (some ⟨4, Y⟩) i.toNat 0 1 (.flat (.bool v)) = some ⟨4, (l.set i.toNat v).map boolC⟩ := by
  have hg := at_get (l := l) h.1 (by rw [hn]; exact h.2)
  subst hY
  exact ⟨fun id => own_ix c4 h.1 h.2 id, own_cel (get_map h.1 (by rw [hn]; exact h.2)) (Nat.zero_le _), fun v => own_sto hg v rfl (Nat.le_refl 1) rfl rfl⟩
theorem mak_bool (T : Table) (id n : Nat) (hn : n ≤ 1000000) : evMake Try.prog T id 50 (.flat (.int .i64 (n : Int))) (.flat (.int .i64 (n : Int))) = some (.sl id 0 n, T.set id (some ⟨4, (List.replicate n false).map boolC⟩)) := by
  have := mak_zero (P := Try.prog) (T := T) (id := id) (t := 50) (e := 4) (z := .bool false) (sz := 1) (b := 1) (n := n) (k := .i64) (k' := .i64) (by kernel_rfl) (by kernel_rfl) (by decide) rfl rfl (by decide) hn
  rw [show zeroAV (.bool false) = [AV.flat (.bool false)] from rfl, rep_map] at this
  exact this
theorem closed_bool {Y : List (List AV)} {l : List Bool} (hY : Y = l.map boolC) : ∀ c ∈ Y, closedAll [] c = true := by
  rw [hY]; exact closed_map fun _ => rfl
/-- The test over a body, so far. -/
def BAt (n : Nat) (out : List Bool) (body : List SymT) (i : Int) (b : Bool) : Prop := At body i ∧ b = (body.take i.toNat).all (symOk n out)
theorem bAt_next {n : Nat} {out : List Bool} {body : List SymT} {i : Int} {b w : Bool} (h : BAt n out body i b) (hc : decide (i < (body.length : Int)) = true) (hw : w = (b && symOk n out (atI body i))) : BAt n out body (i + 1) w := by
  obtain ⟨_, h0, h1⟩ := at_lt h.1 hc
  refine ⟨(at_step h.1 hc).1, ?_⟩
  rw [take_next h0 h1, List.all_append, hw, h.2]
  simp
theorem bAt_end {n : Nat} {out : List Bool} {body : List SymT} {i : Int} {b : Bool} (h : BAt n out body i b) (hc : decide (i < (body.length : Int)) = false) : b = body.all (symOk n out) := by
  rw [h.2, take_end h.1 hc]
theorem refEmpty_calls (g : GramT) (hs : g.sorts.length ≤ 1000) (hp : g.prods.length ≤ 1000) (hb : ∀ p ∈ g.prods, p.body.length ≤ 1000) :
    ACalls Try.prog 30 [gramV g] (fun k => .sl k 0 g.sorts.length) (fun _ => [⟨4, (emptyT g.prods g.sorts.length).map boolC⟩]) := by
  obtain ⟨rules, sorts, prods, levels, start⟩ := g
  dsimp only at hs hp hb ⊢
  unfold gramV gramL
  dsimp only
  obtain ⟨R, hR⟩ : ∃ X, X = rules.map ruleC := ⟨_, rfl⟩
  obtain ⟨S, hSS⟩ : ∃ X, X = sorts.map strC := ⟨_, rfl⟩
  obtain ⟨D, hD⟩ : ∃ X, X = prods.map prodC := ⟨_, rfl⟩
  obtain ⟨V, hV⟩ : ∃ X, X = levels.map levC := ⟨_, rfl⟩
  rw [← hR, ← hSS, ← hD, ← hV]
  have hlS : lenE S = sorts.length := by rw [hSS, len_map]
  generalize sorts.length = n at hs hlS ⊢
  have hz0 : iter (emptyRound prods n) 0 (List.replicate n false) = List.replicate n false := rfl
  have hzl : ∀ k, (iter (emptyRound prods n) k (List.replicate n false)).length = n := fun k => (iter_sound k).1
  have hup : ∀ (l : List ProdT) (E : List Bool), E.length = n → (l.foldl (emptyStep n) E).length = n := fun l E hE => (up_fold empty_up l E hE).1
  obtain ⟨Y0, hY0⟩ : ∃ Y, Y = (List.replicate n false).map boolC := ⟨_, rfl⟩
  obtain ⟨Z, hZ⟩ : ∃ Z, Z = (emptyT prods n).map boolC := ⟨_, rfl⟩
  rw [← hZ]
  refine acalls_symF tabF_ok fn30 rfl rfl rfl (by kernel_rfl) ?_
  rintro ⟨lt, le, eq, se, ar, dv, una, conv, len, sln, nat, nth, ixs, cel, sto, app, cpy, slc, mak, ixv, oth, dk, ib, call⟩ hS hm Q hQ
  obtain ⟨hlt, hle, heq, hse, har, hdv, huna, hconv, hlen, hsln, hnat, hnth, hixs, hcel, hsto, happ, hcpy, hslc, hmak, hixv, hoth, hdk, hib, hcall⟩ := Sym.mk.inj hS
  clear hS
  have hnt : ∀ n : Nat, nat n = U.natI n := fun n => by rw [hnat]; rfl
  have hbox : ∀ e c off, cel (some ⟨e, [c]⟩) 0 off = if off ≤ c.length then some (c.drop off) else none := fun e c off => by rw [hcel]; rfl
  have hsbox : ∀ e c off sz y, sto (some ⟨e, [c]⟩) 0 off sz y = if y.cells.length = sz ∧ off + sz ≤ c.length ∧ y.cells.all AV.one = true then some ⟨e, [spl c off y.cells]⟩ else none := fun e c off sz y => by rw [hsto]; rfl
  have hcaw : ∀ {f args T base K}, CallK Try.prog f args T base K → call f args T base K := fun h => by rw [hcall]; exact h
  have hcal : ∀ {f args T base} {K : AV → Table → List Nat → List Nat → Prop}, (∃ args' ids val rows, Hands T ids args args' (val base) (rows base) ∧ ACalls Try.prog f args' val rows ∧ (rows base).length ≤ 8 ∧ K (val base) (adopt T base (rows base)) ids ((List.range (rows base).length).map (base + ·))) → call f args T base K := fun h => hcaw (call_own h)
  have hnS : len S = nat n := by rw [hlen, hnat]; exact hlS
  have hnD : len D = prods.length := by rw [hlen, hD, len_map]
  have hmk : ∀ T id, mak T id 50 (.flat (.int .i64 (len S))) (.flat (.int .i64 (len S))) = some (.sl id 0 n, T.set id (some ⟨4, Y0⟩)) := fun T id => by
    rw [hmak, hnS, hnat, hY0]
    exact mak_bool T id n (Nat.le_trans hs (by decide))
  have hlk : ∀ k, le k (nat n) = decide (k ≤ (n : Int)) := fun k => by rw [hle, hnat]
  cbv
  repeat (first | (rw [hbox]; cbv))
  rw [hmk]; cbv
  refine MW_loop hm [0, 40] [1, 3, 4] 5 (by simp) (fun m st => ∃ (k : Int) (out : List Bool) (Y : List (List AV)), KAt n k ∧ out = iter (emptyRound prods n) k.toNat (List.replicate n false) ∧ Y = out.map boolC ∧ m = U.left (n + 1) k ∧
    st = stOf [.dead, .ptr 0 0 0, .dead, .sl 1 0 n, .flat (.int .i64 k)] [some ⟨48, [[.ro R, .ro S, .ro D, .ro V, .flat (.int .i64 start)]]⟩, some ⟨4, Y⟩] 2) (U.left (n + 1) 0) ?_ ?_
  · exact ⟨0, _, Y0, kAt_zero n, rfl, by rw [hY0]; rfl, rfl, cut_eq (by cbv) (cutRows_cons (by rfl) (by simp [closedAll, closedIn]) (cutRows_cons (by rfl) (closed_bool hY0) rfl))⟩
  rintro m st ⟨k, out, Y, hk, hout, hY, hmk', rfl⟩
  cases hc : le k (nat n)
  · have hc' := (hlk k).symm.trans hc
    have hkn := kAt_end hk hc'
    have hYZ : Y = Z := by rw [hY, hZ, hout, hkn]; rfl
    have hcl := closed_bool hY
    cbv
    rw [hc]; cbv
    refine hQ _ _ trivial ?_
    rw [← hYZ]
    exact G.Leaves.row (k := 1) (r := ⟨4, Y⟩) (by cbv) (by rfl) hcl
  have hc' := (hlk k).symm.trans hc
  obtain ⟨k1, k2, k3, k4⟩ := kAt_step hs hk hc'
  rw [← har] at k3
  have hol : out.length = n := by rw [hout]; exact hzl _
  have hnext : emptyRound prods n out = iter (emptyRound prods n) (k + 1).toNat (List.replicate n false) := by rw [k4, hout]; rfl
  generalize k + 1 = kk at k1 k2 k3 hnext
  cbv
  rw [hc]; cbv
  refine MW_loop hm [0, 1] [1, 3, 4, 5] 6 (by simp) (fun m st => ∃ (i : Int) (o : List Bool) (Y : List (List AV)), At prods i ∧ o = (prods.take i.toNat).foldl (emptyStep n) out ∧ o.length = n ∧ Y = o.map boolC ∧ m = U.left prods.length i ∧
    st = stOf [.dead, .ptr 0 0 0, .dead, .sl 1 0 n, .flat (.int .i64 k), .flat (.int .i64 i)] [some ⟨48, [[.ro R, .ro S, .ro D, .ro V, .flat (.int .i64 start)]]⟩, some ⟨4, Y⟩] 2) (U.left prods.length 0) ?_ ?_
  · exact ⟨0, out, Y, at_zero prods, rfl, hol, hY, rfl, cut_eq (by cbv) (cutRows_cons (by rfl) (by simp [closedAll, closedIn]) (cutRows_cons (by rfl) (closed_bool hY) rfl))⟩
  clear hY Y
  rintro m2 st ⟨i, o, Y, hi, ho, hol', hY, hm2, rfl⟩
  cases hc2 : lt i (len D)
  · have hc2' : decide (i < (prods.length : Int)) = false := by rw [hlt, hnD] at hc2; exact hc2
    rw [take_end hi hc2'] at ho
    have ho2 : o = iter (emptyRound prods n) kk.toNat (List.replicate n false) := ho.trans hnext
    cbv
    rw [hbox]; cbv
    rw [hc2]; cbv
    rw [k3]
    exact ⟨[0, 1], [1, 3, 4], 5, U.left (n + 1) kk, hmk' ▸ k2, by simp, kk, o, Y, k1, ho2, hY, rfl, cut_eq (by cbv) (cutRows_cons (by rfl) (by simp [closedAll, closedIn]) (cutRows_cons (by rfl) (closed_bool hY) rfl))⟩
  have hc2' : decide (i < (prods.length : Int)) = true := by rw [hlt, hnD] at hc2; exact hc2
  obtain ⟨_, i0, i1⟩ := at_lt hi hc2'
  obtain ⟨q1, q2⟩ := at_step hi hc2'
  have hadd : ar .add .i64 i 1 = i + 1 := by rw [har]; exact at_add (Nat.le_trans hp (by decide)) hi hc2'
  have hix : nth D i 6 = some (.rp (prodC (atI prods i))) := by rw [hnth, hD]; exact nth_map (fun _ => rfl) i0 i1
  have hstep := fold_next (emptyStep n) out i0 i1
  rw [← ho] at hstep
  have hbody := hb _ (at_mem i0 i1)
  generalize atI prods i = p at hix hstep hbody
  obtain ⟨ps, pc, pb, pp, pe, ph⟩ := p
  dsimp only at hbody
  obtain ⟨B, hB⟩ : ∃ X, X = pb.map symC := ⟨_, rfl⟩
  obtain ⟨H, hH⟩ : ∃ X, X = ph.map intC := ⟨_, rfl⟩
  unfold prodC at hix
  dsimp only at hix
  rw [← hB, ← hH] at hix
  have hnB : len B = pb.length := by rw [hlen, hB, len_map]
  generalize i + 1 = i2 at q1 q2 hadd hstep
  have hsetl : (o.set ps.toNat true).length = n := by rw [List.length_set]; exact hol'
  have hno : pb.all (symOk n o) = false ∨ ¬ okI n ps → o = (prods.take i2.toNat).foldl (emptyStep n) out := fun h => by
    rw [hstep]
    unfold emptyStep
    rw [if_neg]
    rintro ⟨a, b⟩
    rcases h with h | h
    · rw [a] at h; cases h
    · exact h b
  have hyes : pb.all (symOk n o) = true → okI n ps → o.set ps.toNat true = (prods.take i2.toNat).foldl (emptyStep n) out := fun h1 h2 => by
    rw [hstep]
    unfold emptyStep
    rw [if_pos ⟨h1, h2⟩]
  have hps0 : le 0 ps = decide (0 ≤ ps) := by rw [hle]
  have hps1 : lt ps (nat n) = decide (ps < (n : Int)) := by rw [hlt, hnat]
  cbv
  rw [hbox]; cbv
  rw [hc2]; cbv
  repeat (first | (rw [hbox]; cbv) | (rw [hix]; cbv) | (rw [hsbox]; cbv))
  refine MW_loop hm [0, 1, 82] [1, 3, 4, 5, 6, 7, 8] 9 (by simp) (fun m st => ∃ (j : Int) (b : Bool), BAt n o pb j b ∧ m = U.left pb.length j ∧
    st = stOf [.dead, .ptr 0 0 0, .dead, .sl 1 0 n, .flat (.int .i64 k), .flat (.int .i64 i), .ptr 2 0 0, .flat (.bool b), .flat (.int .i64 j)] [some ⟨48, [[.ro R, .ro S, .ro D, .ro V, .flat (.int .i64 start)]]⟩, some ⟨4, Y⟩, some ⟨61, [[.flat (.int .i64 ps), .flat (.string pc), .ro B, .flat (.bool pp), .flat (.int .i64 pe), .ro H]]⟩] 3) (U.left pb.length 0) ?_ ?_
  · exact ⟨0, true, ⟨at_zero pb, rfl⟩, rfl, cut_eq (by cbv) (cutRows_cons (by rfl) (by simp [closedAll, closedIn]) (cutRows_cons (by rfl) (closed_bool hY) (cutRows_cons (by rfl) (by simp [closedAll, closedIn]) rfl)))⟩
  rintro m3 st ⟨j, b, hj, hm3, rfl⟩
  cases hc3 : lt j (len B)
  · have hc3' : decide (j < (pb.length : Int)) = false := by rw [hlt, hnB] at hc3; exact hc3
    have hbe := bAt_end hj hc3'
    have hown : okI n ps → _ := fun h => own_bool hY hol' h
    rw [← hixs, ← hcel, ← hsto] at hown
    obtain ⟨Y2, hY2⟩ : ∃ X, X = (o.set ps.toNat true).map boolC := ⟨_, rfl⟩
    have hown2 : okI n ps → (∀ id, ixs (some ⟨4, Y⟩) id 0 n ps 1 = some (.ptr id ps.toNat 0)) ∧ sto (some ⟨4, Y⟩) ps.toNat 0 1 (.flat (.bool true)) = some ⟨4, Y2⟩ := fun h => ⟨(hown h).1, by rw [hY2]; exact (hown h).2.2 true⟩
    clear hown
    generalize ps.toNat = pj at hown2 hyes hY2 hsetl
    cbv
    repeat (first | (rw [hbox]; cbv) | (rw [hc3]; cbv))
    cases b
    · have ho2 := hno (.inl hbe.symm)
      cbv
      rw [hadd]
      exact ⟨[0, 1], [1, 3, 4, 5], 6, U.left prods.length i2, hm2 ▸ q2, by simp, i2, o, Y, q1, ho2, hol', hY, rfl, cut_eq (by cbv) (cutRows_cons (by rfl) (by simp [closedAll, closedIn]) (cutRows_cons (by rfl) (closed_bool hY) rfl))⟩
    cbv
    repeat (first | (rw [hbox]; cbv))
    cases e1 : le 0 ps
    · have ho2 := hno (.inr fun h => of_decide_eq_false (hps0.symm.trans e1) h.1)
      cbv
      rw [hadd]
      exact ⟨[0, 1], [1, 3, 4, 5], 6, U.left prods.length i2, hm2 ▸ q2, by simp, i2, o, Y, q1, ho2, hol', hY, rfl, cut_eq (by cbv) (cutRows_cons (by rfl) (by simp [closedAll, closedIn]) (cutRows_cons (by rfl) (closed_bool hY) rfl))⟩
    cbv
    repeat (first | (rw [hbox]; cbv))
    cases e2 : lt ps (nat n)
    · have ho2 := hno (.inr fun h => of_decide_eq_false (hps1.symm.trans e2) h.2)
      cbv
      rw [hadd]
      exact ⟨[0, 1], [1, 3, 4, 5], 6, U.left prods.length i2, hm2 ▸ q2, by simp, i2, o, Y, q1, ho2, hol', hY, rfl, cut_eq (by cbv) (cutRows_cons (by rfl) (by simp [closedAll, closedIn]) (cutRows_cons (by rfl) (closed_bool hY) rfl))⟩
    have hok : okI n ps := ⟨of_decide_eq_true (hps0.symm.trans e1), of_decide_eq_true (hps1.symm.trans e2)⟩
    obtain ⟨hix2, hst2⟩ := hown2 hok
    have ho2 := hyes hbe.symm hok
    cbv
    repeat (first | (rw [hbox]; cbv) | (rw [hix2]; cbv))
    rw [hst2]; cbv
    rw [hadd]
    exact ⟨[0, 1], [1, 3, 4, 5], 6, U.left prods.length i2, hm2 ▸ q2, by simp, i2, _, Y2, q1, ho2, hsetl, hY2, rfl, cut_eq (by cbv) (cutRows_cons (by rfl) (by simp [closedAll, closedIn]) (cutRows_cons (by rfl) (closed_bool hY2) rfl))⟩
  have hc3' : decide (j < (pb.length : Int)) = true := by rw [hlt, hnB] at hc3; exact hc3
  obtain ⟨_, j0, j1⟩ := at_lt hj.1 hc3'
  have r2 := (at_step hj.1 hc3').2
  have hadd3 : ar .add .i64 j 1 = j + 1 := by rw [har]; exact at_add (Nat.le_trans hbody (by decide)) hj.1 hc3'
  have hix3 : nth B j 2 = some (.rp (symC (atI pb j))) := by rw [hnth, hB]; exact nth_map (fun _ => rfl) j0 j1
  have hnx := fun w => bAt_next (w := w) hj hc3'
  generalize atI pb j = s at hix3 hnx
  obtain ⟨ss, sn⟩ := s
  have hsym : symOk n o ⟨ss, sn⟩ = (ss && (le 0 sn && (lt sn (nat n) && atI o sn))) := by rw [hle, hlt, hnat]; rfl
  rw [hsym] at hnx
  have hel : le 0 sn = true → lt sn (nat n) = true → (∀ id, ixs (some ⟨4, Y⟩) id 0 n sn 1 = some (.ptr id sn.toNat 0)) ∧ cel (some ⟨4, Y⟩) sn.toNat 0 = some [.flat (.bool (atI o sn))] := fun h1 h2 => by
    have hok : okI n sn := ⟨by rw [hle] at h1; exact of_decide_eq_true h1, by rw [hlt, hnat] at h2; exact of_decide_eq_true h2⟩
    rw [hixs, hcel]
    exact ⟨(own_bool hY hol' hok).1, (own_bool hY hol' hok).2.1⟩
  generalize atI o sn = ev at hel hnx
  generalize sn.toNat = sj at hel
  generalize j + 1 = j2 at r2 hadd3 hnx
  have hcr : ∀ T : Table, T 0 = some ⟨48, [[.ro R, .ro S, .ro D, .ro V, .flat (.int .i64 start)]]⟩ → T 1 = some ⟨4, Y⟩ → T 2 = some ⟨61, [[.flat (.int .i64 ps), .flat (.string pc), .ro B, .flat (.bool pp), .flat (.int .i64 pe), .ro H]]⟩ → cutRows [0, 1, 2] T [0, 1, 2] = [some ⟨48, [[.ro R, .ro S, .ro D, .ro V, .flat (.int .i64 start)]]⟩, some ⟨4, Y⟩, some ⟨61, [[.flat (.int .i64 ps), .flat (.string pc), .ro B, .flat (.bool pp), .flat (.int .i64 pe), .ro H]]⟩] := fun T h1 h2 h3 => cutRows_cons h1 (by simp [closedAll, closedIn]) (cutRows_cons h2 (closed_bool hY) (cutRows_cons h3 (by simp [closedAll, closedIn]) rfl))
  cbv
  repeat (first | (rw [hbox]; cbv) | (rw [hc3]; cbv) | (rw [hix3]; cbv) | (rw [hsbox]; cbv))
  cases b
  · have hw := hnx false rfl
    cbv
    rw [hadd3]
    exact ⟨[0, 1, 2], [1, 3, 4, 5, 6, 7, 8], 9, U.left pb.length j2, hm3 ▸ r2, by simp, j2, _, hw, rfl, cut_eq (by cbv) (hcr _ (by rfl) (by rfl) (by rfl))⟩
  cbv
  repeat (first | (rw [hbox]; cbv))
  cases ss
  · have hw := hnx false rfl
    cbv
    rw [hadd3]
    exact ⟨[0, 1, 2], [1, 3, 4, 5, 6, 7, 8], 9, U.left pb.length j2, hm3 ▸ r2, by simp, j2, _, hw, rfl, cut_eq (by cbv) (hcr _ (by rfl) (by rfl) (by rfl))⟩
  cbv
  repeat (first | (rw [hbox]; cbv))
  cases e1 : le 0 sn
  · have hw := hnx false (by rw [e1]; rfl)
    cbv
    rw [hadd3]
    exact ⟨[0, 1, 2], [1, 3, 4, 5, 6, 7, 8], 9, U.left pb.length j2, hm3 ▸ r2, by simp, j2, _, hw, rfl, cut_eq (by cbv) (hcr _ (by rfl) (by rfl) (by rfl))⟩
  cbv
  repeat (first | (rw [hbox]; cbv))
  cases e2 : lt sn (nat n)
  · have hw := hnx false (by rw [e1, e2]; rfl)
    cbv
    rw [hadd3]
    exact ⟨[0, 1, 2], [1, 3, 4, 5, 6, 7, 8], 9, U.left pb.length j2, hm3 ▸ r2, by simp, j2, _, hw, rfl, cut_eq (by cbv) (hcr _ (by rfl) (by rfl) (by rfl))⟩
  obtain ⟨hel1, hel2⟩ := hel e1 e2
  have hw := hnx ev (by rw [e1, e2]; rfl)
  cbv
  repeat (first | (rw [hbox]; cbv) | (rw [hel1]; cbv) | (rw [hel2]; cbv))
  rw [hadd3]
  exact ⟨[0, 1, 2], [1, 3, 4, 5, 6, 7, 8], 9, U.left pb.length j2, hm3 ▸ r2, by simp, j2, _, hw, rfl, cut_eq (by cbv) (hcr _ (by rfl) (by rfl) (by rfl))⟩
end Go.Proofs.Ythilmgpciiopnaa.F
