/- Contracts: follow.Of. -/
import Derived.Test.YthilmgpciiopnaaF14
namespace Go.Proofs.Ythilmgpciiopnaa.F
open Go G U K
set_option linter.unusedVariables false
set_option linter.unusedSimpArgs false
set_option maxRecDepth 100000
set_option maxHeartbeats 4000000
set_option maxHeartbeats 40000000
theorem fn42 : Try.prog.funcs[42]? = some Try.f42 := by kernel_rfl
theorem folOf_callsT (g : GramT) (hst : okI g.sorts.length g.start) (hs : g.sorts.length ≤ 1000) (hp : g.prods.length ≤ 1000) (hb : ∀ p ∈ g.prods, p.body.length ≤ 1000) :
    ACalls Try.prog 42 [gramV g] (fun k => .sl k 0 g.sorts.length) (fun _ => [⟨22, (folT g.prods g.sorts.length g.start).map setC⟩]) := by
  have hcOf := of_calls g hs hp hb
  obtain ⟨rules, sorts, prods, levels, start⟩ := g
  unfold gramV gramL at hcOf ⊢
  dsimp only at hs hp hb hst hcOf ⊢
  obtain ⟨R, hR⟩ : ∃ X, X = rules.map ruleC := ⟨_, rfl⟩
  obtain ⟨S, hSS⟩ : ∃ X, X = sorts.map strC := ⟨_, rfl⟩
  obtain ⟨D, hD⟩ : ∃ X, X = prods.map prodC := ⟨_, rfl⟩
  obtain ⟨V, hV⟩ : ∃ X, X = levels.map levC := ⟨_, rfl⟩
  rw [← hR, ← hSS, ← hD, ← hV] at hcOf ⊢
  have hlS : lenE S = sorts.length := by rw [hSS, len_map]
  generalize sorts.length = n at hs hlS hst hcOf ⊢
  have hK0 := gK_zero prods n start
  have hE1 : (emptyT prods n).length = n := (empty_ok _ _).1.1
  have hF1 : (firstT prods n).length = n := (first_ok _ _).1.1.1
  have hSets1 : Sets (firstT prods n) := (first_ok prods n).1.2
  have hcW := fun (l : List SymT) (b : Nat) (hb : b < 18446744073709551616) (hl : l.length ≤ 1000) => with_calls (emptyT prods n) (firstT prods n) l b hSets1 hb (Nat.le_trans hl (by decide))
  obtain ⟨EE, hEE⟩ : ∃ X, X = (emptyT prods n).map boolC := ⟨_, rfl⟩
  obtain ⟨FF, hFF⟩ : ∃ X, X = (firstT prods n).map setC := ⟨_, rfl⟩
  have hEf : flatRow EE := by rw [hEE]; exact flat_bool _
  have hFf : flatRow FF := by rw [hFF]; exact flat_set _
  have hEn : n = EE.length := by rw [hEE, List.length_map, hE1]
  have hFn : n = FF.length := by rw [hFF, List.length_map, hF1]
  rw [← hEE, ← hFF] at hcW hcOf
  obtain ⟨Y0, hY0⟩ : ∃ X, X = (List.replicate n 0).map setC := ⟨_, rfl⟩
  obtain ⟨Y1, hY1⟩ : ∃ X, X = (folInit n start).map setC := ⟨_, rfl⟩
  obtain ⟨Z, hZ⟩ : ∃ X, X = (folT prods n start).map setC := ⟨_, rfl⟩
  rw [← hZ]
  have hcB := bit_calls 63
  unfold uV at hcB
  obtain ⟨bx, hbx⟩ : ∃ x : Int, x = ((bitN 63 : Nat) : Int) := ⟨_, rfl⟩
  rw [← hbx] at hcB
  have hown0 := own_set hY0 (by simp) hst
  have hst0 := hown0.2.2 (bitN 63)
  have hix0 := hown0.1
  rw [← hbx, show (List.replicate n 0).set start.toNat (bitN 63) = folInit n start by unfold folInit; rw [if_pos hst], ← hY1] at hst0
  clear hown0
  generalize start.toNat = sj at hst0 hix0
  have hs0 : decide ((0 : Int) ≤ start) = true := decide_eq_true hst.1
  have hs1 : decide (start < (n : Int)) = true := decide_eq_true hst.2
  refine acalls_symF tabF_ok fn42 rfl rfl rfl (by kernel_rfl) ?_
  rintro ⟨lt, le, eq, se, ar, dv, una, conv, len, sln, nat, nth, ixs, cel, sto, app, cpy, slc, mak, ixv, oth, dk, ib, call⟩ hS hm Q hQ
  obtain ⟨hlt, hle, heq, hse, har, hdv, huna, hconv, hlen, hsln, hnat, hnth, hixs, hcel, hsto, happ, hcpy, hslc, hmak, hixv, hoth, hdk, hib, hcall⟩ := Sym.mk.inj hS
  clear hS
  have hnt : ∀ n : Nat, nat n = U.natI n := fun n => by rw [hnat]; rfl
  have hbox : ∀ e c off, cel (some ⟨e, [c]⟩) 0 off = if off ≤ c.length then some (c.drop off) else none := fun e c off => by rw [hcel]; rfl
  have hsbox : ∀ e c off sz y, sto (some ⟨e, [c]⟩) 0 off sz y = if y.cells.length = sz ∧ off + sz ≤ c.length ∧ y.cells.all AV.one = true then some ⟨e, [spl c off y.cells]⟩ else none := fun e c off sz y => by rw [hsto]; rfl
  have hcaw : ∀ {f args T base K}, CallK Try.prog f args T base K → call f args T base K := fun h => by rw [hcall]; exact h
  have hcal : ∀ {f args T base} {K : AV → Table → List Nat → List Nat → Prop}, (∃ args' ids val rows, Hands T ids args args' (val base) (rows base) ∧ ACalls Try.prog f args' val rows ∧ (rows base).length ≤ 8 ∧ K (val base) (adopt T base (rows base)) ids ((List.range (rows base).length).map (base + ·))) → call f args T base K := fun h => hcaw (call_own h)
  have hnS : len S = nat n := by rw [hlen, hnat]; exact hlS
  have hnD : len D = prods.length := by rw [hlen, hD, len_map]
  have hmk : ∀ T id, mak T id 51 (.flat (.int .i64 (len S))) (.flat (.int .i64 (len S))) = some (.sl id 0 n, T.set id (some ⟨22, Y0⟩)) := fun T id => by
    rw [hmak, hnS, hnat, hY0]
    exact mak_set T id n (Nat.le_trans hs (by decide))
  have hcr : ∀ {ks l : List Nat} {a b c d e : Nat} {Tt : Table} {Y : List (List AV)} {l2 : List Nat} {RR : List (Option Row)}, Y = l2.map setC → Tt a = some ⟨48, [[.ro R, .ro S, .ro D, .ro V, .flat (.int .i64 start)]]⟩ →
      Tt b = some ⟨53, [[.sl c 0 n, .sl d 0 n]]⟩ → Tt c = some ⟨4, EE⟩ → Tt d = some ⟨22, FF⟩ → Tt e = some ⟨22, Y⟩ → closedEls ks [[.sl c 0 n, .sl d 0 n]] = true → renEls (newName ks 0) [[.sl c 0 n, .sl d 0 n]] = [[.sl 2 0 n, .sl 3 0 n]] → cutRows ks Tt l = RR → cutRows ks Tt (a :: b :: c :: d :: e :: l) = some ⟨48, [[.ro R, .ro S, .ro D, .ro V, .flat (.int .i64 start)]]⟩ :: some ⟨53, [[.sl 2 0 n, .sl 3 0 n]]⟩ :: some ⟨4, EE⟩ :: some ⟨22, FF⟩ :: some ⟨22, Y⟩ :: RR :=
    fun hy h1 h2 h3 h4 h5 h6 h7 h8 => cutRows_cons h1 (by simp [closedAll, closedIn]) (cutRows_any h2 h6 h7 (cutRows_cons h3 (closed_bool hEE) (cutRows_cons h4 (closed_set hFF) (cutRows_cons h5 (closed_set hy) h8))))
  have hle0 : le 0 start = true := by rw [hle]; exact hs0
  have hlt0 : lt start (nat n) = true := by rw [hlt, hnat]; exact hs1
  rw [← hixs] at hix0
  rw [← hsto] at hst0
  cbv
  repeat (first | (rw [hbox]; cbv) | (rw [hmk]; cbv) | (rw [hle0]; cbv) | (rw [hlt0]; cbv))
  refine ⟨by rw [hdk]; kernel_rfl, ?_⟩
  repeat (first | (rw [hbox]; cbv))
  refine hcal ⟨_, [], _, _, .inl ⟨rfl, by cbv⟩, hcB, by simp, ?_⟩
  cbv
  rw [hix0]; cbv
  rw [hst0]; cbv
  refine ⟨by rw [hib]; kernel_rfl, ?_⟩
  cbv
  repeat (first | (rw [hbox]; cbv))
  refine hcal ⟨_, [], _, _, .inl ⟨rfl, by cbv⟩, hcOf, by simp, ?_⟩
  cbv
  rw [hsbox]; cbv
  refine MW_loop hm [0, 200, 192, 193, 40] [1, 3, 4, 5] 6 (by simp) (fun m st => ∃ (F : List Nat) (more : Bool) (Y : List (List AV)), GK prods n start F more ∧ Y = F.map setC ∧ m = roomG n F more ∧
    st = stOf [.dead, .ptr 0 0 0, .dead, .sl 4 0 n, .ptr 1 0 0, .flat (.bool more)] [some ⟨48, [[.ro R, .ro S, .ro D, .ro V, .flat (.int .i64 start)]]⟩, some ⟨53, [[.sl 2 0 n, .sl 3 0 n]]⟩, some ⟨4, EE⟩, some ⟨22, FF⟩, some ⟨22, Y⟩] 5) (roomG n (folInit n start) true) ?_ ?_
  · exact ⟨folInit n start, true, _, hK0, hY1, rfl, cut_eq (by cbv) (hcr hY1 (by rfl) (by rfl) (by rfl) (by rfl) (by rfl) (by rfl) (by rfl) rfl)⟩
  rintro m st ⟨F, more, Y, hk, hY, hm1, rfl⟩
  cases more
  · have hYZ : Y = Z := by rw [hY, hZ, gK_end hk]
    have c1 := closed_set hY
    cbv
    refine hQ _ _ trivial ?_
    rw [← hYZ]
    exact G.Leaves.row (k := 4) (r := ⟨22, Y⟩) (by cbv) (by rfl) c1
  have hI0 := gI_zero hk.1
  cbv
  rw [hbox]; cbv
  refine MW_loop hm [0, 1, 2, 3, 4] [1, 3, 4, 5, 34, 35, 36] 37 (by simp) (fun m st => ∃ (i : Int) (F' : List Nat) (more : Bool) (Y : List (List AV)), GI prods n start F i ⟨F', more⟩ ∧ Y = F'.map setC ∧ m = U.left prods.length i ∧
    st = stOf [.dead, .ptr 0 0 0, .dead, .sl 4 0 n, .ptr 1 0 0, .flat (.bool more), .dead, .dead, .dead, .dead, .dead, .dead, .dead, .dead, .dead, .dead, .dead, .dead, .dead, .dead, .dead, .dead, .dead, .dead, .dead, .dead, .dead, .dead, .dead, .dead, .dead, .dead, .dead, .dead, .ro D, .flat (.int .i64 (len D)), .flat (.int .i64 i)] [some ⟨48, [[.ro R, .ro S, .ro D, .ro V, .flat (.int .i64 start)]]⟩, some ⟨53, [[.sl 2 0 n, .sl 3 0 n]]⟩, some ⟨4, EE⟩, some ⟨22, FF⟩, some ⟨22, Y⟩] 5) (U.left prods.length 0) ?_ ?_
  · exact ⟨0, F, false, Y, hI0, hY, rfl, cut_eq (by cbv) (hcr hY (by rfl) (by rfl) (by rfl) (by rfl) (by rfl) (by rfl) (by rfl) rfl)⟩
  clear hY Y
  rintro m2 st ⟨i, F', more1, Y, hi, hY, hm2, rfl⟩
  cases hc2 : lt i (len D)
  · have hc2' : decide (i < (prods.length : Int)) = false := by rw [hlt, hnD] at hc2; exact hc2
    obtain ⟨q1, q2⟩ := gI_end hk.1 hi hc2'
    cbv
    rw [hc2]; cbv
    exact ⟨[0, 1, 2, 3, 4], [1, 3, 4, 5], 6, _, hm1 ▸ q2, by simp, F', more1, Y, q1, hY, rfl, cut_eq (by cbv) (hcr hY (by rfl) (by rfl) (by rfl) (by rfl) (by rfl) (by rfl) (by rfl) rfl)⟩
  have hc2' : decide (i < (prods.length : Int)) = true := by rw [hlt, hnD] at hc2; exact hc2
  obtain ⟨_, i0, i1⟩ := at_lt hi.1 hc2'
  have q2 := (at_step hi.1 hc2').2
  have hadd : ar .add .i64 i 1 = i + 1 := by rw [har]; exact at_add (Nat.le_trans hp (by decide)) hi.1 hc2'
  have hix : nth D i 6 = some (.rp (prodC (atI prods i))) := by rw [hnth, hD]; exact nth_map (fun _ => rfl) i0 i1
  have hpm := at_mem i0 i1
  have hbody := hb _ hpm
  have hoff := gI_off hi hc2'
  have hB0 : GB prods n start (atI prods i) ⟨F', more1⟩ 0 ⟨F', more1⟩ := gB_zero hi.2.2
  have hnext := fun (j : Int) (s' : FS) => gI_next (j := j) (s' := s') hi hc2'
  generalize atI prods i = p at hix hpm hbody hoff hB0 hnext
  obtain ⟨ps, pc, pb, pp, pe, ph⟩ := p
  obtain ⟨B, hB⟩ : ∃ X, X = pb.map symC := ⟨_, rfl⟩
  obtain ⟨H, hH⟩ : ∃ X, X = ph.map intC := ⟨_, rfl⟩
  unfold prodC at hix
  dsimp only at hix hbody hoff hnext
  rw [← hB, ← hH] at hix
  have hnB : len B = pb.length := by rw [hlen, hB, len_map]
  generalize i + 1 = i2 at q2 hadd hoff hnext
  have hps0 : lt ps 0 = decide (ps < 0) := by rw [hlt]
  have hps1 : le (nat n) ps = decide ((n : Int) ≤ ps) := by rw [hle, hnat]
  have hokI : lt ps 0 = false → le (nat n) ps = false → okI n ps := fun h1 h2 => ⟨Int.not_lt.1 (of_decide_eq_false (hps0.symm.trans h1)), Int.not_le.1 (of_decide_eq_false (hps1.symm.trans h2))⟩
  have hnokA : lt ps 0 = true → ¬ okI n ps := fun h1 h2 => absurd h2.1 (Int.not_le.2 (of_decide_eq_true (hps0.symm.trans h1)))
  have hnokB : le (nat n) ps = true → ¬ okI n ps := fun h1 h2 => absurd h2.2 (Int.not_lt.2 (of_decide_eq_true (hps1.symm.trans h1)))
  cbv
  rw [hc2]; cbv
  repeat (first | (rw [hbox]; cbv) | (rw [hix]; cbv) | (rw [hsbox]; cbv))
  cases e1 : lt ps 0
  rotate_left
  · have q1 := hoff (hnokA e1)
    cbv
    rw [hadd]
    exact ⟨[0, 1, 2, 3, 4], [1, 3, 4, 5, 34, 35, 36], 37, U.left prods.length i2, hm2 ▸ q2, by simp, i2, F', more1, Y, q1, hY, rfl, cut_eq (by cbv) (hcr hY (by rfl) (by rfl) (by rfl) (by rfl) (by rfl) (by rfl) (by rfl) rfl)⟩
  cbv
  repeat (first | (rw [hbox]; cbv))
  cases e2 : le (nat n) ps
  rotate_left
  · have q1 := hoff (hnokB e2)
    cbv
    rw [hadd]
    exact ⟨[0, 1, 2, 3, 4], [1, 3, 4, 5, 34, 35, 36], 37, U.left prods.length i2, hm2 ▸ q2, by simp, i2, F', more1, Y, q1, hY, rfl, cut_eq (by cbv) (hcr hY (by rfl) (by rfl) (by rfl) (by rfl) (by rfl) (by rfl) (by rfl) rfl)⟩
  have hpo := hokI e1 e2
  cbv
  repeat (first | (rw [hbox]; cbv))
  refine MW_loop hm [0, 1, 2, 3, 4, 29] [1, 3, 4, 5, 7, 34, 35, 36, 51, 52, 53] 54 (by simp) (fun m st => ∃ (j : Int) (F2 : List Nat) (more : Bool) (Y : List (List AV)), GB prods n start ⟨ps, pc, pb, pp, pe, ph⟩ ⟨F', more1⟩ j ⟨F2, more⟩ ∧ Y = F2.map setC ∧ m = U.left pb.length j ∧
    st = stOf [.dead, .ptr 0 0 0, .dead, .sl 4 0 n, .ptr 1 0 0, .flat (.bool more), .dead, .ptr 5 0 0, .dead, .dead, .dead, .dead, .dead, .dead, .dead, .dead, .dead, .dead, .dead, .dead, .dead, .dead, .dead, .dead, .dead, .dead, .dead, .dead, .dead, .dead, .dead, .dead, .dead, .dead, .ro D, .flat (.int .i64 (len D)), .flat (.int .i64 i), .dead, .dead, .dead, .dead, .dead, .dead, .dead, .dead, .dead, .dead, .dead, .dead, .dead, .dead, .ro B, .flat (.int .i64 (len B)), .flat (.int .i64 j)] [some ⟨48, [[.ro R, .ro S, .ro D, .ro V, .flat (.int .i64 start)]]⟩, some ⟨53, [[.sl 2 0 n, .sl 3 0 n]]⟩, some ⟨4, EE⟩, some ⟨22, FF⟩, some ⟨22, Y⟩, some ⟨61, [[.flat (.int .i64 ps), .flat (.string pc), .ro B, .flat (.bool pp), .flat (.int .i64 pe), .ro H]]⟩] 6) (U.left pb.length 0) ?_ ?_
  · exact ⟨0, F', more1, Y, hB0, hY, rfl, cut_eq (by cbv) (hcr hY (by rfl) (by rfl) (by rfl) (by rfl) (by rfl) (by rfl) (by rfl) (cutRows_cons (by rfl) (by simp [closedAll, closedIn]) rfl))⟩
  clear hY Y
  rintro m3 st ⟨j, F2, more2, Y, hj, hY, hm3, rfl⟩
  cases hc3 : lt j (len B)
  · have hc3' : decide (j < (pb.length : Int)) = false := by rw [hlt, hnB] at hc3; exact hc3
    have q1 := hnext j _ hj hc3'
    cbv
    rw [hc3]; cbv
    rw [hadd]
    exact ⟨[0, 1, 2, 3, 4], [1, 3, 4, 5, 34, 35, 36], 37, U.left prods.length i2, hm2 ▸ q2, by simp, i2, F2, more2, Y, q1, hY, rfl, cut_eq (by cbv) (hcr hY (by rfl) (by rfl) (by rfl) (by rfl) (by rfl) (by rfl) (by rfl) rfl)⟩
  have hc3' : decide (j < (pb.length : Int)) = true := by rw [hlt, hnB] at hc3; exact hc3
  obtain ⟨_, j0, j1⟩ := at_lt hj.1 hc3'
  have r2 := (at_step hj.1 hc3').2
  have hadd3 : ar .add .i64 j 1 = j + 1 := by rw [har]; exact at_add (Nat.le_trans hbody (by decide)) hj.1 hc3'
  have hix3 : nth B j 2 = some (.rp (symC (atI pb j))) := by rw [hnth, hB]; exact nth_map (fun _ => rfl) j0 j1
  obtain ⟨B2, hB2⟩ : ∃ X, X = (pb.drop (j + 1).toNat).map symC := ⟨_, rfl⟩
  have hsl : ∀ T, slc T 59 (.ro B) (some (.flat (.int .i64 (j + 1)))) none = some (.ro B2) := fun T => by rw [hslc, hB, hB2]; exact slc_drop T pb (j + 1) (Int.le_add_one j0) j1
  have hnx := gB_next hpm hj hc3'
  have hF2 : Sets F2 := hj.2.2.2.2.1
  have hF2l : F2.length = n := hj.2.2.1
  have hno : ¬ ((atI pb j).sort = true ∧ okI n (atI pb j).n) → GB prods n start ⟨ps, pc, pb, pp, pe, ph⟩ ⟨F', more1⟩ (j + 1) ⟨F2, more2⟩ := fun h => by
    have h2 := hnx
    unfold folStep at h2
    rw [if_neg (fun hh : folOk n _ _ => h ⟨hh.2.1, hh.2.2⟩)] at h2
    exact h2
  have hyes : (atI pb j).sort = true → okI n (atI pb j).n → ∃ (fx px wx gx : Int) (g : Nat) (eqv : Bool), (∀ id, ixs (some ⟨22, Y⟩) id 0 n (atI pb j).n 1 = some (.ptr id (atI pb j).n.toNat 0)) ∧ cel (some ⟨22, Y⟩) (atI pb j).n.toNat 0 = some [.flat (.int .u64 fx)] ∧
      sto (some ⟨22, Y⟩) (atI pb j).n.toNat 0 1 (.flat (.int .u64 gx)) = some ⟨22, (F2.set (atI pb j).n.toNat g).map setC⟩ ∧ (∀ id, ixs (some ⟨22, Y⟩) id 0 n ps 1 = some (.ptr id ps.toNat 0)) ∧ cel (some ⟨22, Y⟩) ps.toNat 0 = some [.flat (.int .u64 px)] ∧
      ACalls Try.prog 55 [.agg [.ro EE, .ro FF], .ro B2, .flat (.int .u64 px)] (fun _ => .flat (.int .u64 wx)) (fun _ => []) ∧ ar .or .u64 fx wx = gx ∧ eq gx fx = eqv ∧
      (eqv = true → GB prods n start ⟨ps, pc, pb, pp, pe, ph⟩ ⟨F', more1⟩ (j + 1) ⟨F2, more2⟩) ∧ (eqv = false → GB prods n start ⟨ps, pc, pb, pp, pe, ph⟩ ⟨F', more1⟩ (j + 1) ⟨F2.set (atI pb j).n.toNat g, true⟩) := fun h1 h2 => by
    obtain ⟨a1, a2, a3⟩ := own_set hY hF2l h2
    obtain ⟨b1, b2, _⟩ := own_set hY hF2l hpo
    have hlp := sets_at hF2 hpo.1 (by rw [hF2l]; exact hpo.2)
    have hlf := sets_at hF2 h2.1 (by rw [hF2l]; exact h2.2)
    have hw := hcW (pb.drop (j + 1).toNat) (atI F2 ps) hlp (by rw [List.length_drop]; exact Nat.le_trans (Nat.sub_le _ _) hbody)
    rw [← hB2] at hw
    have hwl := with_lt (E := emptyT prods n) hSets1 (l := pb.drop (j + 1).toNat) hlp
    refine ⟨((atI F2 (atI pb j).n : Nat) : Int), ((atI F2 ps : Nat) : Int), _, _, folSet (emptyT prods n) (firstT prods n) ⟨ps, pc, pb, pp, pe, ph⟩ F2 j, decide (folSet (emptyT prods n) (firstT prods n) ⟨ps, pc, pb, pp, pe, ph⟩ F2 j = atI F2 (atI pb j).n), by rw [hixs]; exact a1, by rw [hcel]; exact a2, by rw [hsto]; exact a3 _, by rw [hixs]; exact b1, by rw [hcel]; exact b2, hw, by rw [har]; exact or_u hlf hwl, ?_, fun h => ?_, fun h => ?_⟩
    · rw [heq, decide_eq_decide]
      exact Int.natCast_inj
    · have h5 := hnx
      unfold folStep at h5
      rw [if_pos (show folOk n _ _ from ⟨hpo, h1, h2⟩), if_pos (of_decide_eq_true h)] at h5
      exact h5
    · have h5 := hnx
      unfold folStep at h5
      rw [if_pos (show folOk n _ _ from ⟨hpo, h1, h2⟩), if_neg (of_decide_eq_false h)] at h5
      exact h5
  clear hnx
  generalize atI pb j = s at hix3 hno hyes
  obtain ⟨ss, sn⟩ := s
  dsimp only at hno hyes
  generalize j + 1 = j2 at r2 hadd3 hsl hno hyes
  have hsn0 : lt sn 0 = decide (sn < 0) := by rw [hlt]
  have hsn1 : le (nat n) sn = decide ((n : Int) ≤ sn) := by rw [hle, hnat]
  have hokS : lt sn 0 = false → le (nat n) sn = false → okI n sn := fun h1 h2 => ⟨Int.not_lt.1 (of_decide_eq_false (hsn0.symm.trans h1)), Int.not_le.1 (of_decide_eq_false (hsn1.symm.trans h2))⟩
  have hnoA : lt sn 0 = true → ¬ okI n sn := fun h1 h2 => absurd h2.1 (Int.not_le.2 (of_decide_eq_true (hsn0.symm.trans h1)))
  have hnoB : le (nat n) sn = true → ¬ okI n sn := fun h1 h2 => absurd h2.2 (Int.not_lt.2 (of_decide_eq_true (hsn1.symm.trans h1)))
  generalize sn.toNat = sj2 at hyes
  generalize ps.toNat = pj2 at hyes
  cbv
  rw [hc3]; cbv
  repeat (first | (rw [hbox]; cbv) | (rw [hix3]; cbv) | (rw [hsbox]; cbv))
  cases ss
  · have q1 := hno (fun h => by cases h.1)
    cbv
    rw [hadd3]
    exact ⟨[0, 1, 2, 3, 4, 5], [1, 3, 4, 5, 7, 34, 35, 36, 51, 52, 53], 54, U.left pb.length j2, hm3 ▸ r2, by simp, j2, F2, more2, Y, q1, hY, rfl, cut_eq (by cbv) (hcr hY (by rfl) (by rfl) (by rfl) (by rfl) (by rfl) (by rfl) (by rfl) (cutRows_cons (by rfl) (by simp [closedAll, closedIn]) rfl))⟩
  cbv
  repeat (first | (rw [hbox]; cbv))
  cases e3 : lt sn 0
  rotate_left
  · have q1 := hno (fun h => hnoA e3 h.2)
    cbv
    rw [hadd3]
    exact ⟨[0, 1, 2, 3, 4, 5], [1, 3, 4, 5, 7, 34, 35, 36, 51, 52, 53], 54, U.left pb.length j2, hm3 ▸ r2, by simp, j2, F2, more2, Y, q1, hY, rfl, cut_eq (by cbv) (hcr hY (by rfl) (by rfl) (by rfl) (by rfl) (by rfl) (by rfl) (by rfl) (cutRows_cons (by rfl) (by simp [closedAll, closedIn]) rfl))⟩
  cbv
  repeat (first | (rw [hbox]; cbv))
  cases e4 : le (nat n) sn
  rotate_left
  · have q1 := hno (fun h => hnoB e4 h.2)
    cbv
    rw [hadd3]
    exact ⟨[0, 1, 2, 3, 4, 5], [1, 3, 4, 5, 7, 34, 35, 36, 51, 52, 53], 54, U.left pb.length j2, hm3 ▸ r2, by simp, j2, F2, more2, Y, q1, hY, rfl, cut_eq (by cbv) (hcr hY (by rfl) (by rfl) (by rfl) (by rfl) (by rfl) (by rfl) (by rfl) (cutRows_cons (by rfl) (by simp [closedAll, closedIn]) rfl))⟩
  obtain ⟨fx, px, wx, gx, g, eqv, g1, g2, g3, g4, g5, hcW', g6, g7, g8, g9⟩ := hyes rfl (hokS e3 e4)
  cbv
  refine ⟨by rw [hdk]; kernel_rfl, ?_⟩
  repeat (first | (rw [hbox]; cbv) | (rw [g1]; cbv) | (rw [g2]; cbv) | (rw [hadd3]; cbv) | (rw [hsl]; cbv) | (rw [g4]; cbv) | (rw [g5]; cbv))
  refine hcal ⟨[.agg [.ro EE, .ro FF], .ro B2, .flat (.int .u64 px)], [2, 3], _, _, hands_deep ⟨deep_agg ⟨deep_row (by simp) (by rfl) hEn hEf.read, deep_row (by simp) (by rfl) hFn hFf.read, trivial⟩, .id rfl, .id rfl, trivial⟩ rfl (fun r hr => by cases hr), hcW', by simp, ?_⟩
  cbv
  rw [g6]; cbv
  refine ⟨by rw [hib]; kernel_rfl, ?_⟩
  cbv
  repeat (first | (rw [hbox]; cbv) | (rw [g1]; cbv) | (rw [g2]; cbv) | (rw [g7]; cbv))
  cases eqv
  rotate_left
  · have q1 := g8 rfl
    cbv
    rw [hadd3]
    exact ⟨[0, 1, 2, 3, 4, 5], [1, 3, 4, 5, 7, 34, 35, 36, 51, 52, 53], 54, U.left pb.length j2, hm3 ▸ r2, by simp, j2, F2, more2, Y, q1, hY, rfl, cut_eq (by cbv) (hcr hY (by rfl) (by rfl) (by rfl) (by rfl) (by rfl) (by rfl) (by rfl) (cutRows_cons (by rfl) (by simp [closedAll, closedIn]) rfl))⟩
  have q1 := g9 rfl
  obtain ⟨Y2, hY2⟩ : ∃ X, X = (F2.set sj2 g).map setC := ⟨_, rfl⟩
  rw [← hY2] at g3
  generalize F2.set sj2 g = F3 at q1 hY2
  clear g8 g9
  cbv
  repeat (first | (rw [hbox]; cbv) | (rw [g1]; cbv))
  rw [g3]; cbv
  rw [hadd3]
  exact ⟨[0, 1, 2, 3, 4, 5], [1, 3, 4, 5, 7, 34, 35, 36, 51, 52, 53], 54, U.left pb.length j2, hm3 ▸ r2, by simp, j2, F3, true, Y2, q1, hY2, rfl, cut_eq (by cbv) (hcr hY2 (by rfl) (by rfl) (by rfl) (by rfl) (by rfl) (by rfl) (by rfl) (cutRows_cons (by rfl) (by simp [closedAll, closedIn]) rfl))⟩
theorem folOf_callsF (g : GramT) (hst : ¬ okI g.sorts.length g.start) (hs : g.sorts.length ≤ 1000) (hp : g.prods.length ≤ 1000) (hb : ∀ p ∈ g.prods, p.body.length ≤ 1000) :
    ACalls Try.prog 42 [gramV g] (fun k => .sl k 0 g.sorts.length) (fun _ => [⟨22, (folT g.prods g.sorts.length g.start).map setC⟩]) := by
  have hcOf := of_calls g hs hp hb
  obtain ⟨rules, sorts, prods, levels, start⟩ := g
  unfold gramV gramL at hcOf ⊢
  dsimp only at hs hp hb hst hcOf ⊢
  obtain ⟨R, hR⟩ : ∃ X, X = rules.map ruleC := ⟨_, rfl⟩
  obtain ⟨S, hSS⟩ : ∃ X, X = sorts.map strC := ⟨_, rfl⟩
  obtain ⟨D, hD⟩ : ∃ X, X = prods.map prodC := ⟨_, rfl⟩
  obtain ⟨V, hV⟩ : ∃ X, X = levels.map levC := ⟨_, rfl⟩
  rw [← hR, ← hSS, ← hD, ← hV] at hcOf ⊢
  have hlS : lenE S = sorts.length := by rw [hSS, len_map]
  generalize sorts.length = n at hs hlS hst hcOf ⊢
  have hK0 := gK_zero prods n start
  have hE1 : (emptyT prods n).length = n := (empty_ok _ _).1.1
  have hF1 : (firstT prods n).length = n := (first_ok _ _).1.1.1
  have hSets1 : Sets (firstT prods n) := (first_ok prods n).1.2
  have hcW := fun (l : List SymT) (b : Nat) (hb : b < 18446744073709551616) (hl : l.length ≤ 1000) => with_calls (emptyT prods n) (firstT prods n) l b hSets1 hb (Nat.le_trans hl (by decide))
  obtain ⟨EE, hEE⟩ : ∃ X, X = (emptyT prods n).map boolC := ⟨_, rfl⟩
  obtain ⟨FF, hFF⟩ : ∃ X, X = (firstT prods n).map setC := ⟨_, rfl⟩
  have hEf : flatRow EE := by rw [hEE]; exact flat_bool _
  have hFf : flatRow FF := by rw [hFF]; exact flat_set _
  have hEn : n = EE.length := by rw [hEE, List.length_map, hE1]
  have hFn : n = FF.length := by rw [hFF, List.length_map, hF1]
  rw [← hEE, ← hFF] at hcW hcOf
  obtain ⟨Y0, hY0⟩ : ∃ X, X = (List.replicate n 0).map setC := ⟨_, rfl⟩
  obtain ⟨Y1, hY1⟩ : ∃ X, X = (folInit n start).map setC := ⟨_, rfl⟩
  obtain ⟨Z, hZ⟩ : ∃ X, X = (folT prods n start).map setC := ⟨_, rfl⟩
  rw [← hZ]
  have hcB := bit_calls 63
  unfold uV at hcB
  obtain ⟨bx, hbx⟩ : ∃ x : Int, x = ((bitN 63 : Nat) : Int) := ⟨_, rfl⟩
  rw [← hbx] at hcB
  have hY01 : Y0 = Y1 := by rw [hY0, hY1]; unfold folInit; rw [if_neg hst]
  subst hY01
  have hs01 : decide ((0 : Int) ≤ start) = true → decide (start < (n : Int)) = false := fun h => decide_eq_false fun h2 => hst ⟨of_decide_eq_true h, h2⟩
  refine acalls_symF tabF_ok fn42 rfl rfl rfl (by kernel_rfl) ?_
  rintro ⟨lt, le, eq, se, ar, dv, una, conv, len, sln, nat, nth, ixs, cel, sto, app, cpy, slc, mak, ixv, oth, dk, ib, call⟩ hS hm Q hQ
  obtain ⟨hlt, hle, heq, hse, har, hdv, huna, hconv, hlen, hsln, hnat, hnth, hixs, hcel, hsto, happ, hcpy, hslc, hmak, hixv, hoth, hdk, hib, hcall⟩ := Sym.mk.inj hS
  clear hS
  have hnt : ∀ n : Nat, nat n = U.natI n := fun n => by rw [hnat]; rfl
  have hbox : ∀ e c off, cel (some ⟨e, [c]⟩) 0 off = if off ≤ c.length then some (c.drop off) else none := fun e c off => by rw [hcel]; rfl
  have hsbox : ∀ e c off sz y, sto (some ⟨e, [c]⟩) 0 off sz y = if y.cells.length = sz ∧ off + sz ≤ c.length ∧ y.cells.all AV.one = true then some ⟨e, [spl c off y.cells]⟩ else none := fun e c off sz y => by rw [hsto]; rfl
  have hcaw : ∀ {f args T base K}, CallK Try.prog f args T base K → call f args T base K := fun h => by rw [hcall]; exact h
  have hcal : ∀ {f args T base} {K : AV → Table → List Nat → List Nat → Prop}, (∃ args' ids val rows, Hands T ids args args' (val base) (rows base) ∧ ACalls Try.prog f args' val rows ∧ (rows base).length ≤ 8 ∧ K (val base) (adopt T base (rows base)) ids ((List.range (rows base).length).map (base + ·))) → call f args T base K := fun h => hcaw (call_own h)
  have hnS : len S = nat n := by rw [hlen, hnat]; exact hlS
  have hnD : len D = prods.length := by rw [hlen, hD, len_map]
  have hmk : ∀ T id, mak T id 51 (.flat (.int .i64 (len S))) (.flat (.int .i64 (len S))) = some (.sl id 0 n, T.set id (some ⟨22, Y0⟩)) := fun T id => by
    rw [hmak, hnS, hnat, hY0]
    exact mak_set T id n (Nat.le_trans hs (by decide))
  have hcr : ∀ {ks l : List Nat} {a b c d e : Nat} {Tt : Table} {Y : List (List AV)} {l2 : List Nat} {RR : List (Option Row)}, Y = l2.map setC → Tt a = some ⟨48, [[.ro R, .ro S, .ro D, .ro V, .flat (.int .i64 start)]]⟩ →
      Tt b = some ⟨53, [[.sl c 0 n, .sl d 0 n]]⟩ → Tt c = some ⟨4, EE⟩ → Tt d = some ⟨22, FF⟩ → Tt e = some ⟨22, Y⟩ → closedEls ks [[.sl c 0 n, .sl d 0 n]] = true → renEls (newName ks 0) [[.sl c 0 n, .sl d 0 n]] = [[.sl 2 0 n, .sl 3 0 n]] → cutRows ks Tt l = RR → cutRows ks Tt (a :: b :: c :: d :: e :: l) = some ⟨48, [[.ro R, .ro S, .ro D, .ro V, .flat (.int .i64 start)]]⟩ :: some ⟨53, [[.sl 2 0 n, .sl 3 0 n]]⟩ :: some ⟨4, EE⟩ :: some ⟨22, FF⟩ :: some ⟨22, Y⟩ :: RR :=
    fun hy h1 h2 h3 h4 h5 h6 h7 h8 => cutRows_cons h1 (by simp [closedAll, closedIn]) (cutRows_any h2 h6 h7 (cutRows_cons h3 (closed_bool hEE) (cutRows_cons h4 (closed_set hFF) (cutRows_cons h5 (closed_set hy) h8))))
  have hlt0 : le 0 start = true → lt start (nat n) = false := fun h => by
    rw [hlt, hnat]
    exact hs01 (by rw [hle] at h; exact h)
  cbv
  repeat (first | (rw [hbox]; cbv) | (rw [hmk]; cbv))
  cases hl0 : le 0 start
  · cbv
    repeat (first | (rw [hbox]; cbv))
    refine hcal ⟨_, [], _, _, .inl ⟨rfl, by cbv⟩, hcOf, by simp, ?_⟩
    cbv
    rw [hsbox]; cbv
    refine MW_loop hm [0, 152, 144, 145, 40] [1, 3, 4, 5] 6 (by simp) (fun m st => ∃ (F : List Nat) (more : Bool) (Y : List (List AV)), GK prods n start F more ∧ Y = F.map setC ∧ m = roomG n F more ∧
      st = stOf [.dead, .ptr 0 0 0, .dead, .sl 4 0 n, .ptr 1 0 0, .flat (.bool more)] [some ⟨48, [[.ro R, .ro S, .ro D, .ro V, .flat (.int .i64 start)]]⟩, some ⟨53, [[.sl 2 0 n, .sl 3 0 n]]⟩, some ⟨4, EE⟩, some ⟨22, FF⟩, some ⟨22, Y⟩] 5) (roomG n (folInit n start) true) ?_ ?_
    · exact ⟨folInit n start, true, _, hK0, hY1, rfl, cut_eq (by cbv) (hcr hY1 (by rfl) (by rfl) (by rfl) (by rfl) (by rfl) (by rfl) (by rfl) rfl)⟩
    rintro m st ⟨F, more, Y, hk, hY, hm1, rfl⟩
    cases more
    · have hYZ : Y = Z := by rw [hY, hZ, gK_end hk]
      have c1 := closed_set hY
      cbv
      refine hQ _ _ trivial ?_
      rw [← hYZ]
      exact G.Leaves.row (k := 4) (r := ⟨22, Y⟩) (by cbv) (by rfl) c1
    have hI0 := gI_zero hk.1
    cbv
    rw [hbox]; cbv
    refine MW_loop hm [0, 1, 2, 3, 4] [1, 3, 4, 5, 34, 35, 36] 37 (by simp) (fun m st => ∃ (i : Int) (F' : List Nat) (more : Bool) (Y : List (List AV)), GI prods n start F i ⟨F', more⟩ ∧ Y = F'.map setC ∧ m = U.left prods.length i ∧
      st = stOf [.dead, .ptr 0 0 0, .dead, .sl 4 0 n, .ptr 1 0 0, .flat (.bool more), .dead, .dead, .dead, .dead, .dead, .dead, .dead, .dead, .dead, .dead, .dead, .dead, .dead, .dead, .dead, .dead, .dead, .dead, .dead, .dead, .dead, .dead, .dead, .dead, .dead, .dead, .dead, .dead, .ro D, .flat (.int .i64 (len D)), .flat (.int .i64 i)] [some ⟨48, [[.ro R, .ro S, .ro D, .ro V, .flat (.int .i64 start)]]⟩, some ⟨53, [[.sl 2 0 n, .sl 3 0 n]]⟩, some ⟨4, EE⟩, some ⟨22, FF⟩, some ⟨22, Y⟩] 5) (U.left prods.length 0) ?_ ?_
    · exact ⟨0, F, false, Y, hI0, hY, rfl, cut_eq (by cbv) (hcr hY (by rfl) (by rfl) (by rfl) (by rfl) (by rfl) (by rfl) (by rfl) rfl)⟩
    clear hY Y
    rintro m2 st ⟨i, F', more1, Y, hi, hY, hm2, rfl⟩
    cases hc2 : lt i (len D)
    · have hc2' : decide (i < (prods.length : Int)) = false := by rw [hlt, hnD] at hc2; exact hc2
      obtain ⟨q1, q2⟩ := gI_end hk.1 hi hc2'
      cbv
      rw [hc2]; cbv
      exact ⟨[0, 1, 2, 3, 4], [1, 3, 4, 5], 6, _, hm1 ▸ q2, by simp, F', more1, Y, q1, hY, rfl, cut_eq (by cbv) (hcr hY (by rfl) (by rfl) (by rfl) (by rfl) (by rfl) (by rfl) (by rfl) rfl)⟩
    have hc2' : decide (i < (prods.length : Int)) = true := by rw [hlt, hnD] at hc2; exact hc2
    obtain ⟨_, i0, i1⟩ := at_lt hi.1 hc2'
    have q2 := (at_step hi.1 hc2').2
    have hadd : ar .add .i64 i 1 = i + 1 := by rw [har]; exact at_add (Nat.le_trans hp (by decide)) hi.1 hc2'
    have hix : nth D i 6 = some (.rp (prodC (atI prods i))) := by rw [hnth, hD]; exact nth_map (fun _ => rfl) i0 i1
    have hpm := at_mem i0 i1
    have hbody := hb _ hpm
    have hoff := gI_off hi hc2'
    have hB0 : GB prods n start (atI prods i) ⟨F', more1⟩ 0 ⟨F', more1⟩ := gB_zero hi.2.2
    have hnext := fun (j : Int) (s' : FS) => gI_next (j := j) (s' := s') hi hc2'
    generalize atI prods i = p at hix hpm hbody hoff hB0 hnext
    obtain ⟨ps, pc, pb, pp, pe, ph⟩ := p
    obtain ⟨B, hB⟩ : ∃ X, X = pb.map symC := ⟨_, rfl⟩
    obtain ⟨H, hH⟩ : ∃ X, X = ph.map intC := ⟨_, rfl⟩
    unfold prodC at hix
    dsimp only at hix hbody hoff hnext
    rw [← hB, ← hH] at hix
    have hnB : len B = pb.length := by rw [hlen, hB, len_map]
    generalize i + 1 = i2 at q2 hadd hoff hnext
    have hps0 : lt ps 0 = decide (ps < 0) := by rw [hlt]
    have hps1 : le (nat n) ps = decide ((n : Int) ≤ ps) := by rw [hle, hnat]
    have hokI : lt ps 0 = false → le (nat n) ps = false → okI n ps := fun h1 h2 => ⟨Int.not_lt.1 (of_decide_eq_false (hps0.symm.trans h1)), Int.not_le.1 (of_decide_eq_false (hps1.symm.trans h2))⟩
    have hnokA : lt ps 0 = true → ¬ okI n ps := fun h1 h2 => absurd h2.1 (Int.not_le.2 (of_decide_eq_true (hps0.symm.trans h1)))
    have hnokB : le (nat n) ps = true → ¬ okI n ps := fun h1 h2 => absurd h2.2 (Int.not_lt.2 (of_decide_eq_true (hps1.symm.trans h1)))
    cbv
    rw [hc2]; cbv
    repeat (first | (rw [hbox]; cbv) | (rw [hix]; cbv) | (rw [hsbox]; cbv))
    cases e1 : lt ps 0
    rotate_left
    · have q1 := hoff (hnokA e1)
      cbv
      rw [hadd]
      exact ⟨[0, 1, 2, 3, 4], [1, 3, 4, 5, 34, 35, 36], 37, U.left prods.length i2, hm2 ▸ q2, by simp, i2, F', more1, Y, q1, hY, rfl, cut_eq (by cbv) (hcr hY (by rfl) (by rfl) (by rfl) (by rfl) (by rfl) (by rfl) (by rfl) rfl)⟩
    cbv
    repeat (first | (rw [hbox]; cbv))
    cases e2 : le (nat n) ps
    rotate_left
    · have q1 := hoff (hnokB e2)
      cbv
      rw [hadd]
      exact ⟨[0, 1, 2, 3, 4], [1, 3, 4, 5, 34, 35, 36], 37, U.left prods.length i2, hm2 ▸ q2, by simp, i2, F', more1, Y, q1, hY, rfl, cut_eq (by cbv) (hcr hY (by rfl) (by rfl) (by rfl) (by rfl) (by rfl) (by rfl) (by rfl) rfl)⟩
    have hpo := hokI e1 e2
    cbv
    repeat (first | (rw [hbox]; cbv))
    refine MW_loop hm [0, 1, 2, 3, 4, 29] [1, 3, 4, 5, 7, 34, 35, 36, 51, 52, 53] 54 (by simp) (fun m st => ∃ (j : Int) (F2 : List Nat) (more : Bool) (Y : List (List AV)), GB prods n start ⟨ps, pc, pb, pp, pe, ph⟩ ⟨F', more1⟩ j ⟨F2, more⟩ ∧ Y = F2.map setC ∧ m = U.left pb.length j ∧
      st = stOf [.dead, .ptr 0 0 0, .dead, .sl 4 0 n, .ptr 1 0 0, .flat (.bool more), .dead, .ptr 5 0 0, .dead, .dead, .dead, .dead, .dead, .dead, .dead, .dead, .dead, .dead, .dead, .dead, .dead, .dead, .dead, .dead, .dead, .dead, .dead, .dead, .dead, .dead, .dead, .dead, .dead, .dead, .ro D, .flat (.int .i64 (len D)), .flat (.int .i64 i), .dead, .dead, .dead, .dead, .dead, .dead, .dead, .dead, .dead, .dead, .dead, .dead, .dead, .dead, .ro B, .flat (.int .i64 (len B)), .flat (.int .i64 j)] [some ⟨48, [[.ro R, .ro S, .ro D, .ro V, .flat (.int .i64 start)]]⟩, some ⟨53, [[.sl 2 0 n, .sl 3 0 n]]⟩, some ⟨4, EE⟩, some ⟨22, FF⟩, some ⟨22, Y⟩, some ⟨61, [[.flat (.int .i64 ps), .flat (.string pc), .ro B, .flat (.bool pp), .flat (.int .i64 pe), .ro H]]⟩] 6) (U.left pb.length 0) ?_ ?_
    · exact ⟨0, F', more1, Y, hB0, hY, rfl, cut_eq (by cbv) (hcr hY (by rfl) (by rfl) (by rfl) (by rfl) (by rfl) (by rfl) (by rfl) (cutRows_cons (by rfl) (by simp [closedAll, closedIn]) rfl))⟩
    clear hY Y
    rintro m3 st ⟨j, F2, more2, Y, hj, hY, hm3, rfl⟩
    cases hc3 : lt j (len B)
    · have hc3' : decide (j < (pb.length : Int)) = false := by rw [hlt, hnB] at hc3; exact hc3
      have q1 := hnext j _ hj hc3'
      cbv
      rw [hc3]; cbv
      rw [hadd]
      exact ⟨[0, 1, 2, 3, 4], [1, 3, 4, 5, 34, 35, 36], 37, U.left prods.length i2, hm2 ▸ q2, by simp, i2, F2, more2, Y, q1, hY, rfl, cut_eq (by cbv) (hcr hY (by rfl) (by rfl) (by rfl) (by rfl) (by rfl) (by rfl) (by rfl) rfl)⟩
    have hc3' : decide (j < (pb.length : Int)) = true := by rw [hlt, hnB] at hc3; exact hc3
    obtain ⟨_, j0, j1⟩ := at_lt hj.1 hc3'
    have r2 := (at_step hj.1 hc3').2
    have hadd3 : ar .add .i64 j 1 = j + 1 := by rw [har]; exact at_add (Nat.le_trans hbody (by decide)) hj.1 hc3'
    have hix3 : nth B j 2 = some (.rp (symC (atI pb j))) := by rw [hnth, hB]; exact nth_map (fun _ => rfl) j0 j1
    obtain ⟨B2, hB2⟩ : ∃ X, X = (pb.drop (j + 1).toNat).map symC := ⟨_, rfl⟩
    have hsl : ∀ T, slc T 59 (.ro B) (some (.flat (.int .i64 (j + 1)))) none = some (.ro B2) := fun T => by rw [hslc, hB, hB2]; exact slc_drop T pb (j + 1) (Int.le_add_one j0) j1
    have hnx := gB_next hpm hj hc3'
    have hF2 : Sets F2 := hj.2.2.2.2.1
    have hF2l : F2.length = n := hj.2.2.1
    have hno : ¬ ((atI pb j).sort = true ∧ okI n (atI pb j).n) → GB prods n start ⟨ps, pc, pb, pp, pe, ph⟩ ⟨F', more1⟩ (j + 1) ⟨F2, more2⟩ := fun h => by
      have h2 := hnx
      unfold folStep at h2
      rw [if_neg (fun hh : folOk n _ _ => h ⟨hh.2.1, hh.2.2⟩)] at h2
      exact h2
    have hyes : (atI pb j).sort = true → okI n (atI pb j).n → ∃ (fx px wx gx : Int) (g : Nat) (eqv : Bool), (∀ id, ixs (some ⟨22, Y⟩) id 0 n (atI pb j).n 1 = some (.ptr id (atI pb j).n.toNat 0)) ∧ cel (some ⟨22, Y⟩) (atI pb j).n.toNat 0 = some [.flat (.int .u64 fx)] ∧
        sto (some ⟨22, Y⟩) (atI pb j).n.toNat 0 1 (.flat (.int .u64 gx)) = some ⟨22, (F2.set (atI pb j).n.toNat g).map setC⟩ ∧ (∀ id, ixs (some ⟨22, Y⟩) id 0 n ps 1 = some (.ptr id ps.toNat 0)) ∧ cel (some ⟨22, Y⟩) ps.toNat 0 = some [.flat (.int .u64 px)] ∧
        ACalls Try.prog 55 [.agg [.ro EE, .ro FF], .ro B2, .flat (.int .u64 px)] (fun _ => .flat (.int .u64 wx)) (fun _ => []) ∧ ar .or .u64 fx wx = gx ∧ eq gx fx = eqv ∧
        (eqv = true → GB prods n start ⟨ps, pc, pb, pp, pe, ph⟩ ⟨F', more1⟩ (j + 1) ⟨F2, more2⟩) ∧ (eqv = false → GB prods n start ⟨ps, pc, pb, pp, pe, ph⟩ ⟨F', more1⟩ (j + 1) ⟨F2.set (atI pb j).n.toNat g, true⟩) := fun h1 h2 => by
      obtain ⟨a1, a2, a3⟩ := own_set hY hF2l h2
      obtain ⟨b1, b2, _⟩ := own_set hY hF2l hpo
      have hlp := sets_at hF2 hpo.1 (by rw [hF2l]; exact hpo.2)
      have hlf := sets_at hF2 h2.1 (by rw [hF2l]; exact h2.2)
      have hw := hcW (pb.drop (j + 1).toNat) (atI F2 ps) hlp (by rw [List.length_drop]; exact Nat.le_trans (Nat.sub_le _ _) hbody)
      rw [← hB2] at hw
      have hwl := with_lt (E := emptyT prods n) hSets1 (l := pb.drop (j + 1).toNat) hlp
      refine ⟨((atI F2 (atI pb j).n : Nat) : Int), ((atI F2 ps : Nat) : Int), _, _, folSet (emptyT prods n) (firstT prods n) ⟨ps, pc, pb, pp, pe, ph⟩ F2 j, decide (folSet (emptyT prods n) (firstT prods n) ⟨ps, pc, pb, pp, pe, ph⟩ F2 j = atI F2 (atI pb j).n), by rw [hixs]; exact a1, by rw [hcel]; exact a2, by rw [hsto]; exact a3 _, by rw [hixs]; exact b1, by rw [hcel]; exact b2, hw, by rw [har]; exact or_u hlf hwl, ?_, fun h => ?_, fun h => ?_⟩
      · rw [heq, decide_eq_decide]
        exact Int.natCast_inj
      · have h5 := hnx
        unfold folStep at h5
        rw [if_pos (show folOk n _ _ from ⟨hpo, h1, h2⟩), if_pos (of_decide_eq_true h)] at h5
        exact h5
      · have h5 := hnx
        unfold folStep at h5
        rw [if_pos (show folOk n _ _ from ⟨hpo, h1, h2⟩), if_neg (of_decide_eq_false h)] at h5
        exact h5
    clear hnx
    generalize atI pb j = s at hix3 hno hyes
    obtain ⟨ss, sn⟩ := s
    dsimp only at hno hyes
    generalize j + 1 = j2 at r2 hadd3 hsl hno hyes
    have hsn0 : lt sn 0 = decide (sn < 0) := by rw [hlt]
    have hsn1 : le (nat n) sn = decide ((n : Int) ≤ sn) := by rw [hle, hnat]
    have hokS : lt sn 0 = false → le (nat n) sn = false → okI n sn := fun h1 h2 => ⟨Int.not_lt.1 (of_decide_eq_false (hsn0.symm.trans h1)), Int.not_le.1 (of_decide_eq_false (hsn1.symm.trans h2))⟩
    have hnoA : lt sn 0 = true → ¬ okI n sn := fun h1 h2 => absurd h2.1 (Int.not_le.2 (of_decide_eq_true (hsn0.symm.trans h1)))
    have hnoB : le (nat n) sn = true → ¬ okI n sn := fun h1 h2 => absurd h2.2 (Int.not_lt.2 (of_decide_eq_true (hsn1.symm.trans h1)))
    generalize sn.toNat = sj2 at hyes
    generalize ps.toNat = pj2 at hyes
    cbv
    rw [hc3]; cbv
    repeat (first | (rw [hbox]; cbv) | (rw [hix3]; cbv) | (rw [hsbox]; cbv))
    cases ss
    · have q1 := hno (fun h => by cases h.1)
      cbv
      rw [hadd3]
      exact ⟨[0, 1, 2, 3, 4, 5], [1, 3, 4, 5, 7, 34, 35, 36, 51, 52, 53], 54, U.left pb.length j2, hm3 ▸ r2, by simp, j2, F2, more2, Y, q1, hY, rfl, cut_eq (by cbv) (hcr hY (by rfl) (by rfl) (by rfl) (by rfl) (by rfl) (by rfl) (by rfl) (cutRows_cons (by rfl) (by simp [closedAll, closedIn]) rfl))⟩
    cbv
    repeat (first | (rw [hbox]; cbv))
    cases e3 : lt sn 0
    rotate_left
    · have q1 := hno (fun h => hnoA e3 h.2)
      cbv
      rw [hadd3]
      exact ⟨[0, 1, 2, 3, 4, 5], [1, 3, 4, 5, 7, 34, 35, 36, 51, 52, 53], 54, U.left pb.length j2, hm3 ▸ r2, by simp, j2, F2, more2, Y, q1, hY, rfl, cut_eq (by cbv) (hcr hY (by rfl) (by rfl) (by rfl) (by rfl) (by rfl) (by rfl) (by rfl) (cutRows_cons (by rfl) (by simp [closedAll, closedIn]) rfl))⟩
    cbv
    repeat (first | (rw [hbox]; cbv))
    cases e4 : le (nat n) sn
    rotate_left
    · have q1 := hno (fun h => hnoB e4 h.2)
      cbv
      rw [hadd3]
      exact ⟨[0, 1, 2, 3, 4, 5], [1, 3, 4, 5, 7, 34, 35, 36, 51, 52, 53], 54, U.left pb.length j2, hm3 ▸ r2, by simp, j2, F2, more2, Y, q1, hY, rfl, cut_eq (by cbv) (hcr hY (by rfl) (by rfl) (by rfl) (by rfl) (by rfl) (by rfl) (by rfl) (cutRows_cons (by rfl) (by simp [closedAll, closedIn]) rfl))⟩
    obtain ⟨fx, px, wx, gx, g, eqv, g1, g2, g3, g4, g5, hcW', g6, g7, g8, g9⟩ := hyes rfl (hokS e3 e4)
    cbv
    refine ⟨by rw [hdk]; kernel_rfl, ?_⟩
    repeat (first | (rw [hbox]; cbv) | (rw [g1]; cbv) | (rw [g2]; cbv) | (rw [hadd3]; cbv) | (rw [hsl]; cbv) | (rw [g4]; cbv) | (rw [g5]; cbv))
    refine hcal ⟨[.agg [.ro EE, .ro FF], .ro B2, .flat (.int .u64 px)], [2, 3], _, _, hands_deep ⟨deep_agg ⟨deep_row (by simp) (by rfl) hEn hEf.read, deep_row (by simp) (by rfl) hFn hFf.read, trivial⟩, .id rfl, .id rfl, trivial⟩ rfl (fun r hr => by cases hr), hcW', by simp, ?_⟩
    cbv
    rw [g6]; cbv
    refine ⟨by rw [hib]; kernel_rfl, ?_⟩
    cbv
    repeat (first | (rw [hbox]; cbv) | (rw [g1]; cbv) | (rw [g2]; cbv) | (rw [g7]; cbv))
    cases eqv
    rotate_left
    · have q1 := g8 rfl
      cbv
      rw [hadd3]
      exact ⟨[0, 1, 2, 3, 4, 5], [1, 3, 4, 5, 7, 34, 35, 36, 51, 52, 53], 54, U.left pb.length j2, hm3 ▸ r2, by simp, j2, F2, more2, Y, q1, hY, rfl, cut_eq (by cbv) (hcr hY (by rfl) (by rfl) (by rfl) (by rfl) (by rfl) (by rfl) (by rfl) (cutRows_cons (by rfl) (by simp [closedAll, closedIn]) rfl))⟩
    have q1 := g9 rfl
    obtain ⟨Y2, hY2⟩ : ∃ X, X = (F2.set sj2 g).map setC := ⟨_, rfl⟩
    rw [← hY2] at g3
    generalize F2.set sj2 g = F3 at q1 hY2
    clear g8 g9
    cbv
    repeat (first | (rw [hbox]; cbv) | (rw [g1]; cbv))
    rw [g3]; cbv
    rw [hadd3]
    exact ⟨[0, 1, 2, 3, 4, 5], [1, 3, 4, 5, 7, 34, 35, 36, 51, 52, 53], 54, U.left pb.length j2, hm3 ▸ r2, by simp, j2, F3, true, Y2, q1, hY2, rfl, cut_eq (by cbv) (hcr hY2 (by rfl) (by rfl) (by rfl) (by rfl) (by rfl) (by rfl) (by rfl) (cutRows_cons (by rfl) (by simp [closedAll, closedIn]) rfl))⟩
  · have hlt0 := hlt0 hl0
    cbv
    repeat (first | (rw [hbox]; cbv) | (rw [hlt0]; cbv))
    refine hcal ⟨_, [], _, _, .inl ⟨rfl, by cbv⟩, hcOf, by simp, ?_⟩
    cbv
    rw [hsbox]; cbv
    refine MW_loop hm [0, 152, 144, 145, 40] [1, 3, 4, 5] 6 (by simp) (fun m st => ∃ (F : List Nat) (more : Bool) (Y : List (List AV)), GK prods n start F more ∧ Y = F.map setC ∧ m = roomG n F more ∧
      st = stOf [.dead, .ptr 0 0 0, .dead, .sl 4 0 n, .ptr 1 0 0, .flat (.bool more)] [some ⟨48, [[.ro R, .ro S, .ro D, .ro V, .flat (.int .i64 start)]]⟩, some ⟨53, [[.sl 2 0 n, .sl 3 0 n]]⟩, some ⟨4, EE⟩, some ⟨22, FF⟩, some ⟨22, Y⟩] 5) (roomG n (folInit n start) true) ?_ ?_
    · exact ⟨folInit n start, true, _, hK0, hY1, rfl, cut_eq (by cbv) (hcr hY1 (by rfl) (by rfl) (by rfl) (by rfl) (by rfl) (by rfl) (by rfl) rfl)⟩
    rintro m st ⟨F, more, Y, hk, hY, hm1, rfl⟩
    cases more
    · have hYZ : Y = Z := by rw [hY, hZ, gK_end hk]
      have c1 := closed_set hY
      cbv
      refine hQ _ _ trivial ?_
      rw [← hYZ]
      exact G.Leaves.row (k := 4) (r := ⟨22, Y⟩) (by cbv) (by rfl) c1
    have hI0 := gI_zero hk.1
    cbv
    rw [hbox]; cbv
    refine MW_loop hm [0, 1, 2, 3, 4] [1, 3, 4, 5, 34, 35, 36] 37 (by simp) (fun m st => ∃ (i : Int) (F' : List Nat) (more : Bool) (Y : List (List AV)), GI prods n start F i ⟨F', more⟩ ∧ Y = F'.map setC ∧ m = U.left prods.length i ∧
      st = stOf [.dead, .ptr 0 0 0, .dead, .sl 4 0 n, .ptr 1 0 0, .flat (.bool more), .dead, .dead, .dead, .dead, .dead, .dead, .dead, .dead, .dead, .dead, .dead, .dead, .dead, .dead, .dead, .dead, .dead, .dead, .dead, .dead, .dead, .dead, .dead, .dead, .dead, .dead, .dead, .dead, .ro D, .flat (.int .i64 (len D)), .flat (.int .i64 i)] [some ⟨48, [[.ro R, .ro S, .ro D, .ro V, .flat (.int .i64 start)]]⟩, some ⟨53, [[.sl 2 0 n, .sl 3 0 n]]⟩, some ⟨4, EE⟩, some ⟨22, FF⟩, some ⟨22, Y⟩] 5) (U.left prods.length 0) ?_ ?_
    · exact ⟨0, F, false, Y, hI0, hY, rfl, cut_eq (by cbv) (hcr hY (by rfl) (by rfl) (by rfl) (by rfl) (by rfl) (by rfl) (by rfl) rfl)⟩
    clear hY Y
    rintro m2 st ⟨i, F', more1, Y, hi, hY, hm2, rfl⟩
    cases hc2 : lt i (len D)
    · have hc2' : decide (i < (prods.length : Int)) = false := by rw [hlt, hnD] at hc2; exact hc2
      obtain ⟨q1, q2⟩ := gI_end hk.1 hi hc2'
      cbv
      rw [hc2]; cbv
      exact ⟨[0, 1, 2, 3, 4], [1, 3, 4, 5], 6, _, hm1 ▸ q2, by simp, F', more1, Y, q1, hY, rfl, cut_eq (by cbv) (hcr hY (by rfl) (by rfl) (by rfl) (by rfl) (by rfl) (by rfl) (by rfl) rfl)⟩
    have hc2' : decide (i < (prods.length : Int)) = true := by rw [hlt, hnD] at hc2; exact hc2
    obtain ⟨_, i0, i1⟩ := at_lt hi.1 hc2'
    have q2 := (at_step hi.1 hc2').2
    have hadd : ar .add .i64 i 1 = i + 1 := by rw [har]; exact at_add (Nat.le_trans hp (by decide)) hi.1 hc2'
    have hix : nth D i 6 = some (.rp (prodC (atI prods i))) := by rw [hnth, hD]; exact nth_map (fun _ => rfl) i0 i1
    have hpm := at_mem i0 i1
    have hbody := hb _ hpm
    have hoff := gI_off hi hc2'
    have hB0 : GB prods n start (atI prods i) ⟨F', more1⟩ 0 ⟨F', more1⟩ := gB_zero hi.2.2
    have hnext := fun (j : Int) (s' : FS) => gI_next (j := j) (s' := s') hi hc2'
    generalize atI prods i = p at hix hpm hbody hoff hB0 hnext
    obtain ⟨ps, pc, pb, pp, pe, ph⟩ := p
    obtain ⟨B, hB⟩ : ∃ X, X = pb.map symC := ⟨_, rfl⟩
    obtain ⟨H, hH⟩ : ∃ X, X = ph.map intC := ⟨_, rfl⟩
    unfold prodC at hix
    dsimp only at hix hbody hoff hnext
    rw [← hB, ← hH] at hix
    have hnB : len B = pb.length := by rw [hlen, hB, len_map]
    generalize i + 1 = i2 at q2 hadd hoff hnext
    have hps0 : lt ps 0 = decide (ps < 0) := by rw [hlt]
    have hps1 : le (nat n) ps = decide ((n : Int) ≤ ps) := by rw [hle, hnat]
    have hokI : lt ps 0 = false → le (nat n) ps = false → okI n ps := fun h1 h2 => ⟨Int.not_lt.1 (of_decide_eq_false (hps0.symm.trans h1)), Int.not_le.1 (of_decide_eq_false (hps1.symm.trans h2))⟩
    have hnokA : lt ps 0 = true → ¬ okI n ps := fun h1 h2 => absurd h2.1 (Int.not_le.2 (of_decide_eq_true (hps0.symm.trans h1)))
    have hnokB : le (nat n) ps = true → ¬ okI n ps := fun h1 h2 => absurd h2.2 (Int.not_lt.2 (of_decide_eq_true (hps1.symm.trans h1)))
    cbv
    rw [hc2]; cbv
    repeat (first | (rw [hbox]; cbv) | (rw [hix]; cbv) | (rw [hsbox]; cbv))
    cases e1 : lt ps 0
    rotate_left
    · have q1 := hoff (hnokA e1)
      cbv
      rw [hadd]
      exact ⟨[0, 1, 2, 3, 4], [1, 3, 4, 5, 34, 35, 36], 37, U.left prods.length i2, hm2 ▸ q2, by simp, i2, F', more1, Y, q1, hY, rfl, cut_eq (by cbv) (hcr hY (by rfl) (by rfl) (by rfl) (by rfl) (by rfl) (by rfl) (by rfl) rfl)⟩
    cbv
    repeat (first | (rw [hbox]; cbv))
    cases e2 : le (nat n) ps
    rotate_left
    · have q1 := hoff (hnokB e2)
      cbv
      rw [hadd]
      exact ⟨[0, 1, 2, 3, 4], [1, 3, 4, 5, 34, 35, 36], 37, U.left prods.length i2, hm2 ▸ q2, by simp, i2, F', more1, Y, q1, hY, rfl, cut_eq (by cbv) (hcr hY (by rfl) (by rfl) (by rfl) (by rfl) (by rfl) (by rfl) (by rfl) rfl)⟩
    have hpo := hokI e1 e2
    cbv
    repeat (first | (rw [hbox]; cbv))
    refine MW_loop hm [0, 1, 2, 3, 4, 29] [1, 3, 4, 5, 7, 34, 35, 36, 51, 52, 53] 54 (by simp) (fun m st => ∃ (j : Int) (F2 : List Nat) (more : Bool) (Y : List (List AV)), GB prods n start ⟨ps, pc, pb, pp, pe, ph⟩ ⟨F', more1⟩ j ⟨F2, more⟩ ∧ Y = F2.map setC ∧ m = U.left pb.length j ∧
      st = stOf [.dead, .ptr 0 0 0, .dead, .sl 4 0 n, .ptr 1 0 0, .flat (.bool more), .dead, .ptr 5 0 0, .dead, .dead, .dead, .dead, .dead, .dead, .dead, .dead, .dead, .dead, .dead, .dead, .dead, .dead, .dead, .dead, .dead, .dead, .dead, .dead, .dead, .dead, .dead, .dead, .dead, .dead, .ro D, .flat (.int .i64 (len D)), .flat (.int .i64 i), .dead, .dead, .dead, .dead, .dead, .dead, .dead, .dead, .dead, .dead, .dead, .dead, .dead, .dead, .ro B, .flat (.int .i64 (len B)), .flat (.int .i64 j)] [some ⟨48, [[.ro R, .ro S, .ro D, .ro V, .flat (.int .i64 start)]]⟩, some ⟨53, [[.sl 2 0 n, .sl 3 0 n]]⟩, some ⟨4, EE⟩, some ⟨22, FF⟩, some ⟨22, Y⟩, some ⟨61, [[.flat (.int .i64 ps), .flat (.string pc), .ro B, .flat (.bool pp), .flat (.int .i64 pe), .ro H]]⟩] 6) (U.left pb.length 0) ?_ ?_
    · exact ⟨0, F', more1, Y, hB0, hY, rfl, cut_eq (by cbv) (hcr hY (by rfl) (by rfl) (by rfl) (by rfl) (by rfl) (by rfl) (by rfl) (cutRows_cons (by rfl) (by simp [closedAll, closedIn]) rfl))⟩
    clear hY Y
    rintro m3 st ⟨j, F2, more2, Y, hj, hY, hm3, rfl⟩
    cases hc3 : lt j (len B)
    · have hc3' : decide (j < (pb.length : Int)) = false := by rw [hlt, hnB] at hc3; exact hc3
      have q1 := hnext j _ hj hc3'
      cbv
      rw [hc3]; cbv
      rw [hadd]
      exact ⟨[0, 1, 2, 3, 4], [1, 3, 4, 5, 34, 35, 36], 37, U.left prods.length i2, hm2 ▸ q2, by simp, i2, F2, more2, Y, q1, hY, rfl, cut_eq (by cbv) (hcr hY (by rfl) (by rfl) (by rfl) (by rfl) (by rfl) (by rfl) (by rfl) rfl)⟩
    have hc3' : decide (j < (pb.length : Int)) = true := by rw [hlt, hnB] at hc3; exact hc3
    obtain ⟨_, j0, j1⟩ := at_lt hj.1 hc3'
    have r2 := (at_step hj.1 hc3').2
    have hadd3 : ar .add .i64 j 1 = j + 1 := by rw [har]; exact at_add (Nat.le_trans hbody (by decide)) hj.1 hc3'
    have hix3 : nth B j 2 = some (.rp (symC (atI pb j))) := by rw [hnth, hB]; exact nth_map (fun _ => rfl) j0 j1
    obtain ⟨B2, hB2⟩ : ∃ X, X = (pb.drop (j + 1).toNat).map symC := ⟨_, rfl⟩
    have hsl : ∀ T, slc T 59 (.ro B) (some (.flat (.int .i64 (j + 1)))) none = some (.ro B2) := fun T => by rw [hslc, hB, hB2]; exact slc_drop T pb (j + 1) (Int.le_add_one j0) j1
    have hnx := gB_next hpm hj hc3'
    have hF2 : Sets F2 := hj.2.2.2.2.1
    have hF2l : F2.length = n := hj.2.2.1
    have hno : ¬ ((atI pb j).sort = true ∧ okI n (atI pb j).n) → GB prods n start ⟨ps, pc, pb, pp, pe, ph⟩ ⟨F', more1⟩ (j + 1) ⟨F2, more2⟩ := fun h => by
      have h2 := hnx
      unfold folStep at h2
      rw [if_neg (fun hh : folOk n _ _ => h ⟨hh.2.1, hh.2.2⟩)] at h2
      exact h2
    have hyes : (atI pb j).sort = true → okI n (atI pb j).n → ∃ (fx px wx gx : Int) (g : Nat) (eqv : Bool), (∀ id, ixs (some ⟨22, Y⟩) id 0 n (atI pb j).n 1 = some (.ptr id (atI pb j).n.toNat 0)) ∧ cel (some ⟨22, Y⟩) (atI pb j).n.toNat 0 = some [.flat (.int .u64 fx)] ∧
        sto (some ⟨22, Y⟩) (atI pb j).n.toNat 0 1 (.flat (.int .u64 gx)) = some ⟨22, (F2.set (atI pb j).n.toNat g).map setC⟩ ∧ (∀ id, ixs (some ⟨22, Y⟩) id 0 n ps 1 = some (.ptr id ps.toNat 0)) ∧ cel (some ⟨22, Y⟩) ps.toNat 0 = some [.flat (.int .u64 px)] ∧
        ACalls Try.prog 55 [.agg [.ro EE, .ro FF], .ro B2, .flat (.int .u64 px)] (fun _ => .flat (.int .u64 wx)) (fun _ => []) ∧ ar .or .u64 fx wx = gx ∧ eq gx fx = eqv ∧
        (eqv = true → GB prods n start ⟨ps, pc, pb, pp, pe, ph⟩ ⟨F', more1⟩ (j + 1) ⟨F2, more2⟩) ∧ (eqv = false → GB prods n start ⟨ps, pc, pb, pp, pe, ph⟩ ⟨F', more1⟩ (j + 1) ⟨F2.set (atI pb j).n.toNat g, true⟩) := fun h1 h2 => by
      obtain ⟨a1, a2, a3⟩ := own_set hY hF2l h2
      obtain ⟨b1, b2, _⟩ := own_set hY hF2l hpo
      have hlp := sets_at hF2 hpo.1 (by rw [hF2l]; exact hpo.2)
      have hlf := sets_at hF2 h2.1 (by rw [hF2l]; exact h2.2)
      have hw := hcW (pb.drop (j + 1).toNat) (atI F2 ps) hlp (by rw [List.length_drop]; exact Nat.le_trans (Nat.sub_le _ _) hbody)
      rw [← hB2] at hw
      have hwl := with_lt (E := emptyT prods n) hSets1 (l := pb.drop (j + 1).toNat) hlp
      refine ⟨((atI F2 (atI pb j).n : Nat) : Int), ((atI F2 ps : Nat) : Int), _, _, folSet (emptyT prods n) (firstT prods n) ⟨ps, pc, pb, pp, pe, ph⟩ F2 j, decide (folSet (emptyT prods n) (firstT prods n) ⟨ps, pc, pb, pp, pe, ph⟩ F2 j = atI F2 (atI pb j).n), by rw [hixs]; exact a1, by rw [hcel]; exact a2, by rw [hsto]; exact a3 _, by rw [hixs]; exact b1, by rw [hcel]; exact b2, hw, by rw [har]; exact or_u hlf hwl, ?_, fun h => ?_, fun h => ?_⟩
      · rw [heq, decide_eq_decide]
        exact Int.natCast_inj
      · have h5 := hnx
        unfold folStep at h5
        rw [if_pos (show folOk n _ _ from ⟨hpo, h1, h2⟩), if_pos (of_decide_eq_true h)] at h5
        exact h5
      · have h5 := hnx
        unfold folStep at h5
        rw [if_pos (show folOk n _ _ from ⟨hpo, h1, h2⟩), if_neg (of_decide_eq_false h)] at h5
        exact h5
    clear hnx
    generalize atI pb j = s at hix3 hno hyes
    obtain ⟨ss, sn⟩ := s
    dsimp only at hno hyes
    generalize j + 1 = j2 at r2 hadd3 hsl hno hyes
    have hsn0 : lt sn 0 = decide (sn < 0) := by rw [hlt]
    have hsn1 : le (nat n) sn = decide ((n : Int) ≤ sn) := by rw [hle, hnat]
    have hokS : lt sn 0 = false → le (nat n) sn = false → okI n sn := fun h1 h2 => ⟨Int.not_lt.1 (of_decide_eq_false (hsn0.symm.trans h1)), Int.not_le.1 (of_decide_eq_false (hsn1.symm.trans h2))⟩
    have hnoA : lt sn 0 = true → ¬ okI n sn := fun h1 h2 => absurd h2.1 (Int.not_le.2 (of_decide_eq_true (hsn0.symm.trans h1)))
    have hnoB : le (nat n) sn = true → ¬ okI n sn := fun h1 h2 => absurd h2.2 (Int.not_lt.2 (of_decide_eq_true (hsn1.symm.trans h1)))
    generalize sn.toNat = sj2 at hyes
    generalize ps.toNat = pj2 at hyes
    cbv
    rw [hc3]; cbv
    repeat (first | (rw [hbox]; cbv) | (rw [hix3]; cbv) | (rw [hsbox]; cbv))
    cases ss
    · have q1 := hno (fun h => by cases h.1)
      cbv
      rw [hadd3]
      exact ⟨[0, 1, 2, 3, 4, 5], [1, 3, 4, 5, 7, 34, 35, 36, 51, 52, 53], 54, U.left pb.length j2, hm3 ▸ r2, by simp, j2, F2, more2, Y, q1, hY, rfl, cut_eq (by cbv) (hcr hY (by rfl) (by rfl) (by rfl) (by rfl) (by rfl) (by rfl) (by rfl) (cutRows_cons (by rfl) (by simp [closedAll, closedIn]) rfl))⟩
    cbv
    repeat (first | (rw [hbox]; cbv))
    cases e3 : lt sn 0
    rotate_left
    · have q1 := hno (fun h => hnoA e3 h.2)
      cbv
      rw [hadd3]
      exact ⟨[0, 1, 2, 3, 4, 5], [1, 3, 4, 5, 7, 34, 35, 36, 51, 52, 53], 54, U.left pb.length j2, hm3 ▸ r2, by simp, j2, F2, more2, Y, q1, hY, rfl, cut_eq (by cbv) (hcr hY (by rfl) (by rfl) (by rfl) (by rfl) (by rfl) (by rfl) (by rfl) (cutRows_cons (by rfl) (by simp [closedAll, closedIn]) rfl))⟩
    cbv
    repeat (first | (rw [hbox]; cbv))
    cases e4 : le (nat n) sn
    rotate_left
    · have q1 := hno (fun h => hnoB e4 h.2)
      cbv
      rw [hadd3]
      exact ⟨[0, 1, 2, 3, 4, 5], [1, 3, 4, 5, 7, 34, 35, 36, 51, 52, 53], 54, U.left pb.length j2, hm3 ▸ r2, by simp, j2, F2, more2, Y, q1, hY, rfl, cut_eq (by cbv) (hcr hY (by rfl) (by rfl) (by rfl) (by rfl) (by rfl) (by rfl) (by rfl) (cutRows_cons (by rfl) (by simp [closedAll, closedIn]) rfl))⟩
    obtain ⟨fx, px, wx, gx, g, eqv, g1, g2, g3, g4, g5, hcW', g6, g7, g8, g9⟩ := hyes rfl (hokS e3 e4)
    cbv
    refine ⟨by rw [hdk]; kernel_rfl, ?_⟩
    repeat (first | (rw [hbox]; cbv) | (rw [g1]; cbv) | (rw [g2]; cbv) | (rw [hadd3]; cbv) | (rw [hsl]; cbv) | (rw [g4]; cbv) | (rw [g5]; cbv))
    refine hcal ⟨[.agg [.ro EE, .ro FF], .ro B2, .flat (.int .u64 px)], [2, 3], _, _, hands_deep ⟨deep_agg ⟨deep_row (by simp) (by rfl) hEn hEf.read, deep_row (by simp) (by rfl) hFn hFf.read, trivial⟩, .id rfl, .id rfl, trivial⟩ rfl (fun r hr => by cases hr), hcW', by simp, ?_⟩
    cbv
    rw [g6]; cbv
    refine ⟨by rw [hib]; kernel_rfl, ?_⟩
    cbv
    repeat (first | (rw [hbox]; cbv) | (rw [g1]; cbv) | (rw [g2]; cbv) | (rw [g7]; cbv))
    cases eqv
    rotate_left
    · have q1 := g8 rfl
      cbv
      rw [hadd3]
      exact ⟨[0, 1, 2, 3, 4, 5], [1, 3, 4, 5, 7, 34, 35, 36, 51, 52, 53], 54, U.left pb.length j2, hm3 ▸ r2, by simp, j2, F2, more2, Y, q1, hY, rfl, cut_eq (by cbv) (hcr hY (by rfl) (by rfl) (by rfl) (by rfl) (by rfl) (by rfl) (by rfl) (cutRows_cons (by rfl) (by simp [closedAll, closedIn]) rfl))⟩
    have q1 := g9 rfl
    obtain ⟨Y2, hY2⟩ : ∃ X, X = (F2.set sj2 g).map setC := ⟨_, rfl⟩
    rw [← hY2] at g3
    generalize F2.set sj2 g = F3 at q1 hY2
    clear g8 g9
    cbv
    repeat (first | (rw [hbox]; cbv) | (rw [g1]; cbv))
    rw [g3]; cbv
    rw [hadd3]
    exact ⟨[0, 1, 2, 3, 4, 5], [1, 3, 4, 5, 7, 34, 35, 36, 51, 52, 53], 54, U.left pb.length j2, hm3 ▸ r2, by simp, j2, F3, true, Y2, q1, hY2, rfl, cut_eq (by cbv) (hcr hY2 (by rfl) (by rfl) (by rfl) (by rfl) (by rfl) (by rfl) (by rfl) (cutRows_cons (by rfl) (by simp [closedAll, closedIn]) rfl))⟩
theorem folOf_calls (g : GramT) (hs : g.sorts.length ≤ 1000) (hp : g.prods.length ≤ 1000) (hb : ∀ p ∈ g.prods, p.body.length ≤ 1000) :
    ACalls Try.prog 42 [gramV g] (fun k => .sl k 0 g.sorts.length) (fun _ => [⟨22, (folT g.prods g.sorts.length g.start).map setC⟩]) := by
  by_cases h : okI g.sorts.length g.start
  · exact folOf_callsT g h hs hp hb
  · exact folOf_callsF g h hs hp hb
end Go.Proofs.Ythilmgpciiopnaa.F
