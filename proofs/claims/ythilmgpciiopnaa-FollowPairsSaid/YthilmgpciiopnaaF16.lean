/- Contracts: bosketref22.Of. -/
import Derived.Test.YthilmgpciiopnaaF14
namespace Go.Proofs.Ythilmgpciiopnaa.F
open Go G U K
set_option linter.unusedVariables false
set_option linter.unusedSimpArgs false
set_option maxRecDepth 100000
set_option maxHeartbeats 4000000
set_option maxHeartbeats 40000000
theorem gI_off2 {P : List ProdT} {n : Nat} {start : Int} {F : List Nat} {s s' : FS} {i j : Int} (h : GI P n start F i s) (hc : decide (i < (P.length : Int)) = true) (hb : GB P n start (atI P i) s j s') (hs : ¬ okI n (atI P i).sort) : GI P n start F (i + 1) s' := by
  have e : ∀ (l : List Int) (s : FS), l.foldl (folStep n (emptyT P n) (firstT P n) (atI P i)) s = s := by
    intro l
    induction l with
    | nil => intro s; rfl
    | cons a l ih =>
      intro s
      rw [List.foldl_cons]
      have : folStep n (emptyT P n) (firstT P n) (atI P i) s a = s := by unfold folStep; rw [if_neg (fun h => hs h.1)]
      rw [this]; exact ih s
  have : s' = s := hb.2.1.trans (e _ _)
  subst this
  exact gI_off h hc hs
theorem fn43 : Try.prog.funcs[43]? = some Try.f43 := by kernel_rfl
theorem refFolOf_callsT (g : GramT) (hst : okI g.sorts.length g.start) (hs : g.sorts.length ≤ 1000) (hp : g.prods.length ≤ 1000) (hb : ∀ p ∈ g.prods, p.body.length ≤ 1000) :
    ACalls Try.prog 43 [gramV g] (fun k => .sl k 0 g.sorts.length) (fun _ => [⟨22, (folT g.prods g.sorts.length g.start).map setC⟩]) := by
  have hcEm := refEmpty_calls g hs hp hb
  have hcFi := refFirst_calls g hs hp hb
  obtain ⟨rules, sorts, prods, levels, start⟩ := g
  unfold gramV gramL at hcEm hcFi ⊢
  dsimp only at hs hp hb hst hcEm hcFi ⊢
  obtain ⟨R, hR⟩ : ∃ X, X = rules.map ruleC := ⟨_, rfl⟩
  obtain ⟨S, hSS⟩ : ∃ X, X = sorts.map strC := ⟨_, rfl⟩
  obtain ⟨D, hD⟩ : ∃ X, X = prods.map prodC := ⟨_, rfl⟩
  obtain ⟨V, hV⟩ : ∃ X, X = levels.map levC := ⟨_, rfl⟩
  rw [← hR, ← hSS, ← hD, ← hV] at hcEm hcFi ⊢
  have hlS : lenE S = sorts.length := by rw [hSS, len_map]
  generalize sorts.length = n at hs hlS hst hcEm hcFi ⊢
  have hK0 := gK_zero prods n start
  have hE1 : (emptyT prods n).length = n := (empty_ok _ _).1.1
  have hF1 : (firstT prods n).length = n := (first_ok _ _).1.1.1
  have hSets1 : Sets (firstT prods n) := (first_ok prods n).1.2
  have hcW := fun (l : List SymT) (b : Nat) (hb : b < 18446744073709551616) => refWith_calls (emptyT prods n) (firstT prods n) l b hSets1 hb
  obtain ⟨EE, hEE⟩ : ∃ X, X = (emptyT prods n).map boolC := ⟨_, rfl⟩
  obtain ⟨FF, hFF⟩ : ∃ X, X = (firstT prods n).map setC := ⟨_, rfl⟩
  have hEf : flatRow EE := by rw [hEE]; exact flat_bool _
  have hFf : flatRow FF := by rw [hFF]; exact flat_set _
  have hEn : n = EE.length := by rw [hEE, List.length_map, hE1]
  have hFn : n = FF.length := by rw [hFF, List.length_map, hF1]
  rw [← hEE, ← hFF] at hcW
  rw [← hEE] at hcEm
  rw [← hFF] at hcFi
  obtain ⟨Y0, hY0⟩ : ∃ X, X = (List.replicate n 0).map setC := ⟨_, rfl⟩
  obtain ⟨Y1, hY1⟩ : ∃ X, X = (folInit n start).map setC := ⟨_, rfl⟩
  obtain ⟨Z, hZ⟩ : ∃ X, X = (folT prods n start).map setC := ⟨_, rfl⟩
  rw [← hZ]
  have hcB := one_calls 63
  unfold uV at hcB
  obtain ⟨bx, hbx⟩ : ∃ x : Int, x = ((bitN 63 : Nat) : Int) := ⟨_, rfl⟩
  rw [← hbx] at hcB
  have hown0 := own_set hY0 (by simp) hst
  have hst0 := hown0.2.2 (bitN 63)
  have hix0 := hown0.1
  rw [← hbx, show (List.replicate n 0).set start.toNat (bitN 63) = folInit n start by unfold folInit; rw [if_pos hst], ← hY1] at hst0
  clear hown0
  generalize start.toNat = sj at hst0 hix0
  have hs0 : decide ((0 : Int) ≤ start) = true := decide_eq_true hst.1
  have hs1 : decide (start < (n : Int)) = true := decide_eq_true hst.2
  refine acalls_symF tabF_ok fn43 rfl rfl rfl (by kernel_rfl) ?_
  rintro ⟨lt, le, eq, se, ar, dv, una, conv, len, sln, nat, nth, ixs, cel, sto, app, cpy, slc, mak, ixv, oth, dk, ib, call⟩ hS hm Q hQ
  obtain ⟨hlt, hle, heq, hse, har, hdv, huna, hconv, hlen, hsln, hnat, hnth, hixs, hcel, hsto, happ, hcpy, hslc, hmak, hixv, hoth, hdk, hib, hcall⟩ := Sym.mk.inj hS
  clear hS
  have hnt : ∀ n : Nat, nat n = U.natI n := fun n => by rw [hnat]; rfl
  have hbox : ∀ e c off, cel (some ⟨e, [c]⟩) 0 off = if off ≤ c.length then some (c.drop off) else none := fun e c off => by rw [hcel]; rfl
  have hsbox : ∀ e c off sz y, sto (some ⟨e, [c]⟩) 0 off sz y = if y.cells.length = sz ∧ off + sz ≤ c.length ∧ y.cells.all AV.one = true then some ⟨e, [spl c off y.cells]⟩ else none := fun e c off sz y => by rw [hsto]; rfl
  have hcaw : ∀ {f args T base K}, CallK Try.prog f args T base K → call f args T base K := fun h => by rw [hcall]; exact h
  have hcal : ∀ {f args T base} {K : AV → Table → List Nat → List Nat → Prop}, (∃ args' ids val rows, Hands T ids args args' (val base) (rows base) ∧ ACalls Try.prog f args' val rows ∧ (rows base).length ≤ 8 ∧ K (val base) (adopt T base (rows base)) ids ((List.range (rows base).length).map (base + ·))) → call f args T base K := fun h => hcaw (call_own h)
  have hnS : len S = nat n := by rw [hlen, hnat]; exact hlS
  have hnD : len D = prods.length := by rw [hlen, hD, len_map]
  have hmk : ∀ T id, mak T id 51 (.flat (.int .i64 (len S))) (.flat (.int .i64 (len S))) = some (.sl id 0 n, T.set id (some ⟨22, Y0⟩)) := fun T id => by
    rw [hmak, hnS, hnat, hY0]
    exact mak_set T id n (Nat.le_trans hs (by decide))
  have hcr : ∀ {ks l : List Nat} {a c d e : Nat} {Tt : Table} {Y : List (List AV)} {l2 : List Nat} {RR : List (Option Row)}, Y = l2.map setC → Tt a = some ⟨48, [[.ro R, .ro S, .ro D, .ro V, .flat (.int .i64 start)]]⟩ →
      Tt c = some ⟨4, EE⟩ → Tt d = some ⟨22, FF⟩ → Tt e = some ⟨22, Y⟩ → cutRows ks Tt l = RR → cutRows ks Tt (a :: c :: d :: e :: l) = some ⟨48, [[.ro R, .ro S, .ro D, .ro V, .flat (.int .i64 start)]]⟩ :: some ⟨4, EE⟩ :: some ⟨22, FF⟩ :: some ⟨22, Y⟩ :: RR :=
    fun hy h1 h3 h4 h5 h8 => cutRows_cons h1 (by simp [closedAll, closedIn]) (cutRows_cons h3 (closed_bool hEE) (cutRows_cons h4 (closed_set hFF) (cutRows_cons h5 (closed_set hy) h8)))
  have hle0 : le 0 start = true := by rw [hle]; exact hs0
  have hlt0 : lt start (nat n) = true := by rw [hlt, hnat]; exact hs1
  rw [← hixs] at hix0
  rw [← hsto] at hst0
  cbv
  refine ⟨by rw [hdk]; kernel_rfl, ?_⟩
  repeat (first | (rw [hbox]; cbv))
  refine hcal ⟨_, [], _, _, .inl ⟨rfl, by cbv⟩, hcEm, by simp, ?_⟩
  cbv
  repeat (first | (rw [hbox]; cbv))
  refine hcal ⟨_, [], _, _, .inl ⟨rfl, by cbv⟩, hcFi, by simp, ?_⟩
  cbv
  refine ⟨by rw [hib]; kernel_rfl, ?_⟩
  cbv
  repeat (first | (rw [hbox]; cbv) | (rw [hmk]; cbv) | (rw [hle0]; cbv) | (rw [hlt0]; cbv))
  refine ⟨by rw [hdk]; kernel_rfl, ?_⟩
  repeat (first | (rw [hbox]; cbv))
  refine hcal ⟨_, [], _, _, .inl ⟨rfl, by cbv⟩, hcB, by simp, ?_⟩
  cbv
  rw [hix0]; cbv
  rw [hst0]; cbv
  refine ⟨by rw [hib]; kernel_rfl, ?_⟩
  cbv
  refine MW_loop hm [0, 24, 40, 88] [1, 3, 4, 5, 6] 7 (by simp) (fun m st => ∃ (F : List Nat) (more : Bool) (Y : List (List AV)), GK prods n start F more ∧ Y = F.map setC ∧ m = roomG n F more ∧
    st = stOf [.dead, .ptr 0 0 0, .dead, .sl 1 0 n, .sl 2 0 n, .sl 3 0 n, .flat (.bool more)] [some ⟨48, [[.ro R, .ro S, .ro D, .ro V, .flat (.int .i64 start)]]⟩, some ⟨4, EE⟩, some ⟨22, FF⟩, some ⟨22, Y⟩] 4) (roomG n (folInit n start) true) ?_ ?_
  · exact ⟨folInit n start, true, _, hK0, hY1, rfl, cut_eq (by cbv) (hcr hY1 (by rfl) (by rfl) (by rfl) (by rfl) rfl)⟩
  rintro m st ⟨F, more, Y, hk, hY, hm1, rfl⟩
  cases more
  · have hYZ : Y = Z := by rw [hY, hZ, gK_end hk]
    have c1 := closed_set hY
    cbv
    refine hQ _ _ trivial ?_
    rw [← hYZ]
    exact G.Leaves.row (k := 3) (r := ⟨22, Y⟩) (by cbv) (by rfl) c1
  have hI0 := gI_zero hk.1
  cbv
  refine MW_loop hm [0, 1, 2, 3] [1, 3, 4, 5, 6, 7] 8 (by simp) (fun m st => ∃ (i : Int) (F' : List Nat) (more : Bool) (Y : List (List AV)), GI prods n start F i ⟨F', more⟩ ∧ Y = F'.map setC ∧ m = U.left prods.length i ∧
    st = stOf [.dead, .ptr 0 0 0, .dead, .sl 1 0 n, .sl 2 0 n, .sl 3 0 n, .flat (.bool more), .flat (.int .i64 i)] [some ⟨48, [[.ro R, .ro S, .ro D, .ro V, .flat (.int .i64 start)]]⟩, some ⟨4, EE⟩, some ⟨22, FF⟩, some ⟨22, Y⟩] 4) (U.left prods.length 0) ?_ ?_
  · exact ⟨0, F, false, Y, hI0, hY, rfl, cut_eq (by cbv) (hcr hY (by rfl) (by rfl) (by rfl) (by rfl) rfl)⟩
  clear hY Y
  rintro m2 st ⟨i, F', more1, Y, hi, hY, hm2, rfl⟩
  cases hc2 : lt i (len D)
  · have hc2' : decide (i < (prods.length : Int)) = false := by rw [hlt, hnD] at hc2; exact hc2
    obtain ⟨q1, q2⟩ := gI_end hk.1 hi hc2'
    cbv
    repeat (first | (rw [hbox]; cbv) | (rw [hc2]; cbv))
    exact ⟨[0, 1, 2, 3], [1, 3, 4, 5, 6], 7, _, hm1 ▸ q2, by simp, F', more1, Y, q1, hY, rfl, cut_eq (by cbv) (hcr hY (by rfl) (by rfl) (by rfl) (by rfl) rfl)⟩
  have hc2' : decide (i < (prods.length : Int)) = true := by rw [hlt, hnD] at hc2; exact hc2
  obtain ⟨_, i0, i1⟩ := at_lt hi.1 hc2'
  have q2 := (at_step hi.1 hc2').2
  have hadd : ar .add .i64 i 1 = i + 1 := by rw [har]; exact at_add (Nat.le_trans hp (by decide)) hi.1 hc2'
  have hix : nth D i 6 = some (.rp (prodC (atI prods i))) := by rw [hnth, hD]; exact nth_map (fun _ => rfl) i0 i1
  have hpm := at_mem i0 i1
  have hbody := hb _ hpm
  have hoff := fun (j : Int) (s' : FS) => gI_off2 (j := j) (s' := s') hi hc2'
  have hB0 : GB prods n start (atI prods i) ⟨F', more1⟩ 0 ⟨F', more1⟩ := gB_zero hi.2.2
  have hnext := fun (j : Int) (s' : FS) => gI_next (j := j) (s' := s') hi hc2'
  generalize atI prods i = p at hix hpm hbody hoff hB0 hnext
  obtain ⟨ps, pc, pb, pp, pe, ph⟩ := p
  obtain ⟨B, hB⟩ : ∃ X, X = pb.map symC := ⟨_, rfl⟩
  obtain ⟨H, hH⟩ : ∃ X, X = ph.map intC := ⟨_, rfl⟩
  unfold prodC at hix
  dsimp only at hix hbody hoff hnext
  rw [← hB, ← hH] at hix
  have hnB : len B = pb.length := by rw [hlen, hB, len_map]
  generalize i + 1 = i2 at q2 hadd hoff hnext
  have hps0 : le 0 ps = decide (0 ≤ ps) := by rw [hle]
  have hps1 : lt ps (nat n) = decide (ps < (n : Int)) := by rw [hlt, hnat]
  have hokI : le 0 ps = true → lt ps (nat n) = true → okI n ps := fun h1 h2 => ⟨of_decide_eq_true (hps0.symm.trans h1), of_decide_eq_true (hps1.symm.trans h2)⟩
  have hnokA : le 0 ps = false → ¬ okI n ps := fun h1 h2 => of_decide_eq_false (hps0.symm.trans h1) h2.1
  have hnokB : lt ps (nat n) = false → ¬ okI n ps := fun h1 h2 => of_decide_eq_false (hps1.symm.trans h1) h2.2
  cbv
  repeat (first | (rw [hbox]; cbv) | (rw [hc2]; cbv) | (rw [hix]; cbv) | (rw [hsbox]; cbv))
  refine MW_loop hm [0, 1, 2, 3, 84] [1, 3, 4, 5, 6, 7, 8, 9] 10 (by simp) (fun m st => ∃ (j : Int) (F2 : List Nat) (more : Bool) (Y : List (List AV)), GB prods n start ⟨ps, pc, pb, pp, pe, ph⟩ ⟨F', more1⟩ j ⟨F2, more⟩ ∧ Y = F2.map setC ∧ m = U.left pb.length j ∧
    st = stOf [.dead, .ptr 0 0 0, .dead, .sl 1 0 n, .sl 2 0 n, .sl 3 0 n, .flat (.bool more), .flat (.int .i64 i), .ptr 4 0 0, .flat (.int .i64 j)] [some ⟨48, [[.ro R, .ro S, .ro D, .ro V, .flat (.int .i64 start)]]⟩, some ⟨4, EE⟩, some ⟨22, FF⟩, some ⟨22, Y⟩, some ⟨61, [[.flat (.int .i64 ps), .flat (.string pc), .ro B, .flat (.bool pp), .flat (.int .i64 pe), .ro H]]⟩] 5) (U.left pb.length 0) ?_ ?_
  · exact ⟨0, F', more1, Y, hB0, hY, rfl, cut_eq (by cbv) (hcr hY (by rfl) (by rfl) (by rfl) (by rfl) (cutRows_cons (by rfl) (by simp [closedAll, closedIn]) rfl))⟩
  clear hY Y
  rintro m3 st ⟨j, F2, more2, Y, hj, hY, hm3, rfl⟩
  cases hc3 : lt j (len B)
  · have hc3' : decide (j < (pb.length : Int)) = false := by rw [hlt, hnB] at hc3; exact hc3
    have q1 := hnext j _ hj hc3'
    cbv
    repeat (first | (rw [hbox]; cbv) | (rw [hc3]; cbv))
    rw [hadd]
    exact ⟨[0, 1, 2, 3], [1, 3, 4, 5, 6, 7], 8, U.left prods.length i2, hm2 ▸ q2, by simp, i2, F2, more2, Y, q1, hY, rfl, cut_eq (by cbv) (hcr hY (by rfl) (by rfl) (by rfl) (by rfl) rfl)⟩
  cases e1 : le 0 ps
  · have q1 := hoff j _ hj (hnokA e1)
    cbv
    repeat (first | (rw [hbox]; cbv) | (rw [hc3]; cbv) | (rw [e1]; cbv))
    rw [hadd]
    exact ⟨[0, 1, 2, 3], [1, 3, 4, 5, 6, 7], 8, U.left prods.length i2, hm2 ▸ q2, by simp, i2, F2, more2, Y, q1, hY, rfl, cut_eq (by cbv) (hcr hY (by rfl) (by rfl) (by rfl) (by rfl) rfl)⟩
  cases e2 : lt ps (nat n)
  · have q1 := hoff j _ hj (hnokB e2)
    cbv
    repeat (first | (rw [hbox]; cbv) | (rw [hc3]; cbv) | (rw [e1]; cbv) | (rw [e2]; cbv))
    rw [hadd]
    exact ⟨[0, 1, 2, 3], [1, 3, 4, 5, 6, 7], 8, U.left prods.length i2, hm2 ▸ q2, by simp, i2, F2, more2, Y, q1, hY, rfl, cut_eq (by cbv) (hcr hY (by rfl) (by rfl) (by rfl) (by rfl) rfl)⟩
  have hpo := hokI e1 e2
  have hc3' : decide (j < (pb.length : Int)) = true := by rw [hlt, hnB] at hc3; exact hc3
  obtain ⟨_, j0, j1⟩ := at_lt hj.1 hc3'
  have r2 := (at_step hj.1 hc3').2
  have hadd3 : ar .add .i64 j 1 = j + 1 := by rw [har]; exact at_add (Nat.le_trans hbody (by decide)) hj.1 hc3'
  have hix3 : nth B j 2 = some (.rp (symC (atI pb j))) := by rw [hnth, hB]; exact nth_map (fun _ => rfl) j0 j1
  obtain ⟨B2, hB2⟩ : ∃ X, X = (pb.drop (j + 1).toNat).map symC := ⟨_, rfl⟩
  have hsl : ∀ T, slc T 59 (.ro B) (some (.flat (.int .i64 (j + 1)))) none = some (.ro B2) := fun T => by rw [hslc, hB, hB2]; exact slc_drop T pb (j + 1) (Int.le_add_one j0) j1
  have hnx := gB_next hpm hj hc3'
  have hF2 : Sets F2 := hj.2.2.2.2.1
  have hF2l : F2.length = n := hj.2.2.1
  have hno : ¬ ((atI pb j).sort = true ∧ okI n (atI pb j).n) → GB prods n start ⟨ps, pc, pb, pp, pe, ph⟩ ⟨F', more1⟩ (j + 1) ⟨F2, more2⟩ := fun h => by
    have h2 := hnx
    unfold folStep at h2
    rw [if_neg (fun hh : folOk n _ _ => h ⟨hh.2.1, hh.2.2⟩)] at h2
    exact h2
  have hyes : (atI pb j).sort = true → okI n (atI pb j).n → ∃ (fx px wx gx : Int) (g : Nat) (eqv : Bool), (∀ id, ixs (some ⟨22, Y⟩) id 0 n (atI pb j).n 1 = some (.ptr id (atI pb j).n.toNat 0)) ∧ cel (some ⟨22, Y⟩) (atI pb j).n.toNat 0 = some [.flat (.int .u64 fx)] ∧
      sto (some ⟨22, Y⟩) (atI pb j).n.toNat 0 1 (.flat (.int .u64 gx)) = some ⟨22, (F2.set (atI pb j).n.toNat g).map setC⟩ ∧ (∀ id, ixs (some ⟨22, Y⟩) id 0 n ps 1 = some (.ptr id ps.toNat 0)) ∧ cel (some ⟨22, Y⟩) ps.toNat 0 = some [.flat (.int .u64 px)] ∧
      ACalls Try.prog 56 [.ro EE, .ro FF, .ro B2, .flat (.int .u64 px)] (fun _ => .flat (.int .u64 wx)) (fun _ => []) ∧ ACalls Try.prog 34 [.flat (.int .u64 fx), .flat (.int .u64 wx)] (fun _ => .flat (.int .u64 gx)) (fun _ => []) ∧ eq gx fx = eqv ∧
      GB prods n start ⟨ps, pc, pb, pp, pe, ph⟩ ⟨F', more1⟩ (j + 1) ⟨F2.set (atI pb j).n.toNat g, more2 || !eqv⟩ := fun h1 h2 => by
    obtain ⟨a1, a2, a3⟩ := own_set hY hF2l h2
    obtain ⟨b1, b2, _⟩ := own_set hY hF2l hpo
    have hlp := sets_at hF2 hpo.1 (by rw [hF2l]; exact hpo.2)
    have hlf := sets_at hF2 h2.1 (by rw [hF2l]; exact h2.2)
    have hw := hcW (pb.drop (j + 1).toNat) (atI F2 ps) hlp
    rw [← hB2] at hw
    have hwl := with_lt (E := emptyT prods n) hSets1 (l := pb.drop (j + 1).toNat) hlp
    refine ⟨((atI F2 (atI pb j).n : Nat) : Int), ((atI F2 ps : Nat) : Int), _, _, folSet (emptyT prods n) (firstT prods n) ⟨ps, pc, pb, pp, pe, ph⟩ F2 j, decide (folSet (emptyT prods n) (firstT prods n) ⟨ps, pc, pb, pp, pe, ph⟩ F2 j = atI F2 (atI pb j).n), by rw [hixs]; exact a1, by rw [hcel]; exact a2, by rw [hsto]; exact a3 _, by rw [hixs]; exact b1, by rw [hcel]; exact b2, hw, or_calls _ _ hlf hwl, ?_, ?_⟩
    · rw [heq, decide_eq_decide]
      exact Int.natCast_inj
    · have h5 := hnx
      unfold folStep at h5
      rw [if_pos (show folOk n _ _ from ⟨hpo, h1, h2⟩)] at h5
      dsimp only at h5
      by_cases he : folSet (emptyT prods n) (firstT prods n) ⟨ps, pc, pb, pp, pe, ph⟩ F2 j = atI F2 (atI pb j).n
      · rw [if_pos he] at h5
        rw [he, set_same hF2l h2]
        simpa using h5
      · rw [if_neg he] at h5
        rw [decide_eq_false he]
        simpa using h5
  clear hnx
  generalize atI pb j = s at hix3 hno hyes
  obtain ⟨ss, sn⟩ := s
  dsimp only at hno hyes
  generalize j + 1 = j2 at r2 hadd3 hsl hno hyes
  have hsn0 : lt sn 0 = decide (sn < 0) := by rw [hlt]
  have hsn1 : le (nat n) sn = decide ((n : Int) ≤ sn) := by rw [hle, hnat]
  have hokS : lt sn 0 = false → le (nat n) sn = false → okI n sn := fun h1 h2 => ⟨Int.not_lt.1 (of_decide_eq_false (hsn0.symm.trans h1)), Int.not_le.1 (of_decide_eq_false (hsn1.symm.trans h2))⟩
  have hnoA : lt sn 0 = true → ¬ okI n sn := fun h1 h2 => absurd h2.1 (Int.not_le.2 (of_decide_eq_true (hsn0.symm.trans h1)))
  have hnoB : le (nat n) sn = true → ¬ okI n sn := fun h1 h2 => absurd h2.2 (Int.not_lt.2 (of_decide_eq_true (hsn1.symm.trans h1)))
  generalize sn.toNat = sj2 at hyes
  generalize ps.toNat = pj2 at hyes
  cbv
  repeat (first | (rw [hbox]; cbv) | (rw [hc3]; cbv) | (rw [e1]; cbv) | (rw [e2]; cbv) | (rw [hix3]; cbv) | (rw [hsbox]; cbv))
  cases ss
  · have q1 := hno (fun h => by cases h.1)
    cbv
    rw [hadd3]
    exact ⟨[0, 1, 2, 3, 4], [1, 3, 4, 5, 6, 7, 8, 9], 10, U.left pb.length j2, hm3 ▸ r2, by simp, j2, F2, more2, Y, q1, hY, rfl, cut_eq (by cbv) (hcr hY (by rfl) (by rfl) (by rfl) (by rfl) (cutRows_cons (by rfl) (by simp [closedAll, closedIn]) rfl))⟩
  cbv
  repeat (first | (rw [hbox]; cbv))
  cases e3 : lt sn 0
  rotate_left
  · have q1 := hno (fun h => hnoA e3 h.2)
    cbv
    rw [hadd3]
    exact ⟨[0, 1, 2, 3, 4], [1, 3, 4, 5, 6, 7, 8, 9], 10, U.left pb.length j2, hm3 ▸ r2, by simp, j2, F2, more2, Y, q1, hY, rfl, cut_eq (by cbv) (hcr hY (by rfl) (by rfl) (by rfl) (by rfl) (cutRows_cons (by rfl) (by simp [closedAll, closedIn]) rfl))⟩
  cbv
  repeat (first | (rw [hbox]; cbv))
  cases e4 : le (nat n) sn
  rotate_left
  · have q1 := hno (fun h => hnoB e4 h.2)
    cbv
    rw [hadd3]
    exact ⟨[0, 1, 2, 3, 4], [1, 3, 4, 5, 6, 7, 8, 9], 10, U.left pb.length j2, hm3 ▸ r2, by simp, j2, F2, more2, Y, q1, hY, rfl, cut_eq (by cbv) (hcr hY (by rfl) (by rfl) (by rfl) (by rfl) (cutRows_cons (by rfl) (by simp [closedAll, closedIn]) rfl))⟩
  obtain ⟨fx, px, wx, gx, g, eqv, g1, g2, g3, g4, g5, hcW', hcO, g7, q1⟩ := hyes rfl (hokS e3 e4)
  cbv
  refine ⟨by rw [hdk]; kernel_rfl, ?_⟩
  repeat (first | (rw [hbox]; cbv) | (rw [g1]; cbv) | (rw [g2]; cbv) | (rw [hadd3]; cbv) | (rw [hsl]; cbv) | (rw [g4]; cbv) | (rw [g5]; cbv))
  refine hcal ⟨[.ro EE, .ro FF, .ro B2, .flat (.int .u64 px)], [1, 2], _, _, hands_deep ⟨deep_row (by simp) (by rfl) hEn hEf.read, deep_row (by simp) (by rfl) hFn hFf.read, .id rfl, .id rfl, trivial⟩ rfl (fun r hr => by cases hr), hcW', by simp, ?_⟩
  cbv
  refine hcal ⟨_, [], _, _, .inl ⟨rfl, by cbv⟩, hcO, by simp, ?_⟩
  cbv
  refine ⟨by rw [hib]; kernel_rfl, ?_⟩
  cbv
  obtain ⟨Y2, hY2⟩ : ∃ X, X = (F2.set sj2 g).map setC := ⟨_, rfl⟩
  rw [← hY2] at g3
  generalize F2.set sj2 g = F3 at q1 hY2
  cases more2
  · rw [Bool.false_or] at q1
    cbv
    repeat (first | (rw [hbox]; cbv) | (rw [g1]; cbv) | (rw [g2]; cbv) | (rw [g7]; cbv))
    rw [g3]; cbv
    rw [hadd3]
    exact ⟨[0, 1, 2, 3, 4], [1, 3, 4, 5, 6, 7, 8, 9], 10, U.left pb.length j2, hm3 ▸ r2, by simp, j2, F3, _, Y2, q1, hY2, rfl, cut_eq (by cases eqv <;> cbv) (hcr hY2 (by rfl) (by rfl) (by rfl) (by rfl) (cutRows_cons (by rfl) (by simp [closedAll, closedIn]) rfl))⟩
  · rw [Bool.true_or] at q1
    cbv
    repeat (first | (rw [hbox]; cbv) | (rw [g1]; cbv))
    rw [g3]; cbv
    rw [hadd3]
    exact ⟨[0, 1, 2, 3, 4], [1, 3, 4, 5, 6, 7, 8, 9], 10, U.left pb.length j2, hm3 ▸ r2, by simp, j2, F3, true, Y2, q1, hY2, rfl, cut_eq (by cbv) (hcr hY2 (by rfl) (by rfl) (by rfl) (by rfl) (cutRows_cons (by rfl) (by simp [closedAll, closedIn]) rfl))⟩
theorem refFolOf_callsF (g : GramT) (hst : ¬ okI g.sorts.length g.start) (hs : g.sorts.length ≤ 1000) (hp : g.prods.length ≤ 1000) (hb : ∀ p ∈ g.prods, p.body.length ≤ 1000) :
    ACalls Try.prog 43 [gramV g] (fun k => .sl k 0 g.sorts.length) (fun _ => [⟨22, (folT g.prods g.sorts.length g.start).map setC⟩]) := by
  have hcEm := refEmpty_calls g hs hp hb
  have hcFi := refFirst_calls g hs hp hb
  obtain ⟨rules, sorts, prods, levels, start⟩ := g
  unfold gramV gramL at hcEm hcFi ⊢
  dsimp only at hs hp hb hst hcEm hcFi ⊢
  obtain ⟨R, hR⟩ : ∃ X, X = rules.map ruleC := ⟨_, rfl⟩
  obtain ⟨S, hSS⟩ : ∃ X, X = sorts.map strC := ⟨_, rfl⟩
  obtain ⟨D, hD⟩ : ∃ X, X = prods.map prodC := ⟨_, rfl⟩
  obtain ⟨V, hV⟩ : ∃ X, X = levels.map levC := ⟨_, rfl⟩
  rw [← hR, ← hSS, ← hD, ← hV] at hcEm hcFi ⊢
  have hlS : lenE S = sorts.length := by rw [hSS, len_map]
  generalize sorts.length = n at hs hlS hst hcEm hcFi ⊢
  have hK0 := gK_zero prods n start
  have hE1 : (emptyT prods n).length = n := (empty_ok _ _).1.1
  have hF1 : (firstT prods n).length = n := (first_ok _ _).1.1.1
  have hSets1 : Sets (firstT prods n) := (first_ok prods n).1.2
  have hcW := fun (l : List SymT) (b : Nat) (hb : b < 18446744073709551616) => refWith_calls (emptyT prods n) (firstT prods n) l b hSets1 hb
  obtain ⟨EE, hEE⟩ : ∃ X, X = (emptyT prods n).map boolC := ⟨_, rfl⟩
  obtain ⟨FF, hFF⟩ : ∃ X, X = (firstT prods n).map setC := ⟨_, rfl⟩
  have hEf : flatRow EE := by rw [hEE]; exact flat_bool _
  have hFf : flatRow FF := by rw [hFF]; exact flat_set _
  have hEn : n = EE.length := by rw [hEE, List.length_map, hE1]
  have hFn : n = FF.length := by rw [hFF, List.length_map, hF1]
  rw [← hEE, ← hFF] at hcW
  rw [← hEE] at hcEm
  rw [← hFF] at hcFi
  obtain ⟨Y0, hY0⟩ : ∃ X, X = (List.replicate n 0).map setC := ⟨_, rfl⟩
  obtain ⟨Y1, hY1⟩ : ∃ X, X = (folInit n start).map setC := ⟨_, rfl⟩
  obtain ⟨Z, hZ⟩ : ∃ X, X = (folT prods n start).map setC := ⟨_, rfl⟩
  rw [← hZ]
  have hcB := one_calls 63
  unfold uV at hcB
  obtain ⟨bx, hbx⟩ : ∃ x : Int, x = ((bitN 63 : Nat) : Int) := ⟨_, rfl⟩
  rw [← hbx] at hcB
  have hY01 : Y0 = Y1 := by rw [hY0, hY1]; unfold folInit; rw [if_neg hst]
  subst hY01
  have hs01 : decide ((0 : Int) ≤ start) = true → decide (start < (n : Int)) = false := fun h => decide_eq_false fun h2 => hst ⟨of_decide_eq_true h, h2⟩
  refine acalls_symF tabF_ok fn43 rfl rfl rfl (by kernel_rfl) ?_
  rintro ⟨lt, le, eq, se, ar, dv, una, conv, len, sln, nat, nth, ixs, cel, sto, app, cpy, slc, mak, ixv, oth, dk, ib, call⟩ hS hm Q hQ
  obtain ⟨hlt, hle, heq, hse, har, hdv, huna, hconv, hlen, hsln, hnat, hnth, hixs, hcel, hsto, happ, hcpy, hslc, hmak, hixv, hoth, hdk, hib, hcall⟩ := Sym.mk.inj hS
  clear hS
  have hnt : ∀ n : Nat, nat n = U.natI n := fun n => by rw [hnat]; rfl
  have hbox : ∀ e c off, cel (some ⟨e, [c]⟩) 0 off = if off ≤ c.length then some (c.drop off) else none := fun e c off => by rw [hcel]; rfl
  have hsbox : ∀ e c off sz y, sto (some ⟨e, [c]⟩) 0 off sz y = if y.cells.length = sz ∧ off + sz ≤ c.length ∧ y.cells.all AV.one = true then some ⟨e, [spl c off y.cells]⟩ else none := fun e c off sz y => by rw [hsto]; rfl
  have hcaw : ∀ {f args T base K}, CallK Try.prog f args T base K → call f args T base K := fun h => by rw [hcall]; exact h
  have hcal : ∀ {f args T base} {K : AV → Table → List Nat → List Nat → Prop}, (∃ args' ids val rows, Hands T ids args args' (val base) (rows base) ∧ ACalls Try.prog f args' val rows ∧ (rows base).length ≤ 8 ∧ K (val base) (adopt T base (rows base)) ids ((List.range (rows base).length).map (base + ·))) → call f args T base K := fun h => hcaw (call_own h)
  have hnS : len S = nat n := by rw [hlen, hnat]; exact hlS
  have hnD : len D = prods.length := by rw [hlen, hD, len_map]
  have hmk : ∀ T id, mak T id 51 (.flat (.int .i64 (len S))) (.flat (.int .i64 (len S))) = some (.sl id 0 n, T.set id (some ⟨22, Y0⟩)) := fun T id => by
    rw [hmak, hnS, hnat, hY0]
    exact mak_set T id n (Nat.le_trans hs (by decide))
  have hcr : ∀ {ks l : List Nat} {a c d e : Nat} {Tt : Table} {Y : List (List AV)} {l2 : List Nat} {RR : List (Option Row)}, Y = l2.map setC → Tt a = some ⟨48, [[.ro R, .ro S, .ro D, .ro V, .flat (.int .i64 start)]]⟩ →
      Tt c = some ⟨4, EE⟩ → Tt d = some ⟨22, FF⟩ → Tt e = some ⟨22, Y⟩ → cutRows ks Tt l = RR → cutRows ks Tt (a :: c :: d :: e :: l) = some ⟨48, [[.ro R, .ro S, .ro D, .ro V, .flat (.int .i64 start)]]⟩ :: some ⟨4, EE⟩ :: some ⟨22, FF⟩ :: some ⟨22, Y⟩ :: RR :=
    fun hy h1 h3 h4 h5 h8 => cutRows_cons h1 (by simp [closedAll, closedIn]) (cutRows_cons h3 (closed_bool hEE) (cutRows_cons h4 (closed_set hFF) (cutRows_cons h5 (closed_set hy) h8)))
  have hlt0 : le 0 start = true → lt start (nat n) = false := fun h => by
    rw [hlt, hnat]
    exact hs01 (by rw [hle] at h; exact h)
  cbv
  refine ⟨by rw [hdk]; kernel_rfl, ?_⟩
  repeat (first | (rw [hbox]; cbv))
  refine hcal ⟨_, [], _, _, .inl ⟨rfl, by cbv⟩, hcEm, by simp, ?_⟩
  cbv
  repeat (first | (rw [hbox]; cbv))
  refine hcal ⟨_, [], _, _, .inl ⟨rfl, by cbv⟩, hcFi, by simp, ?_⟩
  cbv
  refine ⟨by rw [hib]; kernel_rfl, ?_⟩
  cbv
  repeat (first | (rw [hbox]; cbv) | (rw [hmk]; cbv))
  cases hl0 : le 0 start
  · cbv
    refine MW_loop hm [0, 24, 40, 88] [1, 3, 4, 5, 6] 7 (by simp) (fun m st => ∃ (F : List Nat) (more : Bool) (Y : List (List AV)), GK prods n start F more ∧ Y = F.map setC ∧ m = roomG n F more ∧
      st = stOf [.dead, .ptr 0 0 0, .dead, .sl 1 0 n, .sl 2 0 n, .sl 3 0 n, .flat (.bool more)] [some ⟨48, [[.ro R, .ro S, .ro D, .ro V, .flat (.int .i64 start)]]⟩, some ⟨4, EE⟩, some ⟨22, FF⟩, some ⟨22, Y⟩] 4) (roomG n (folInit n start) true) ?_ ?_
    · exact ⟨folInit n start, true, _, hK0, hY1, rfl, cut_eq (by cbv) (hcr hY1 (by rfl) (by rfl) (by rfl) (by rfl) rfl)⟩
    rintro m st ⟨F, more, Y, hk, hY, hm1, rfl⟩
    cases more
    · have hYZ : Y = Z := by rw [hY, hZ, gK_end hk]
      have c1 := closed_set hY
      cbv
      refine hQ _ _ trivial ?_
      rw [← hYZ]
      exact G.Leaves.row (k := 3) (r := ⟨22, Y⟩) (by cbv) (by rfl) c1
    have hI0 := gI_zero hk.1
    cbv
    refine MW_loop hm [0, 1, 2, 3] [1, 3, 4, 5, 6, 7] 8 (by simp) (fun m st => ∃ (i : Int) (F' : List Nat) (more : Bool) (Y : List (List AV)), GI prods n start F i ⟨F', more⟩ ∧ Y = F'.map setC ∧ m = U.left prods.length i ∧
      st = stOf [.dead, .ptr 0 0 0, .dead, .sl 1 0 n, .sl 2 0 n, .sl 3 0 n, .flat (.bool more), .flat (.int .i64 i)] [some ⟨48, [[.ro R, .ro S, .ro D, .ro V, .flat (.int .i64 start)]]⟩, some ⟨4, EE⟩, some ⟨22, FF⟩, some ⟨22, Y⟩] 4) (U.left prods.length 0) ?_ ?_
    · exact ⟨0, F, false, Y, hI0, hY, rfl, cut_eq (by cbv) (hcr hY (by rfl) (by rfl) (by rfl) (by rfl) rfl)⟩
    clear hY Y
    rintro m2 st ⟨i, F', more1, Y, hi, hY, hm2, rfl⟩
    cases hc2 : lt i (len D)
    · have hc2' : decide (i < (prods.length : Int)) = false := by rw [hlt, hnD] at hc2; exact hc2
      obtain ⟨q1, q2⟩ := gI_end hk.1 hi hc2'
      cbv
      repeat (first | (rw [hbox]; cbv) | (rw [hc2]; cbv))
      exact ⟨[0, 1, 2, 3], [1, 3, 4, 5, 6], 7, _, hm1 ▸ q2, by simp, F', more1, Y, q1, hY, rfl, cut_eq (by cbv) (hcr hY (by rfl) (by rfl) (by rfl) (by rfl) rfl)⟩
    have hc2' : decide (i < (prods.length : Int)) = true := by rw [hlt, hnD] at hc2; exact hc2
    obtain ⟨_, i0, i1⟩ := at_lt hi.1 hc2'
    have q2 := (at_step hi.1 hc2').2
    have hadd : ar .add .i64 i 1 = i + 1 := by rw [har]; exact at_add (Nat.le_trans hp (by decide)) hi.1 hc2'
    have hix : nth D i 6 = some (.rp (prodC (atI prods i))) := by rw [hnth, hD]; exact nth_map (fun _ => rfl) i0 i1
    have hpm := at_mem i0 i1
    have hbody := hb _ hpm
    have hoff := fun (j : Int) (s' : FS) => gI_off2 (j := j) (s' := s') hi hc2'
    have hB0 : GB prods n start (atI prods i) ⟨F', more1⟩ 0 ⟨F', more1⟩ := gB_zero hi.2.2
    have hnext := fun (j : Int) (s' : FS) => gI_next (j := j) (s' := s') hi hc2'
    generalize atI prods i = p at hix hpm hbody hoff hB0 hnext
    obtain ⟨ps, pc, pb, pp, pe, ph⟩ := p
    obtain ⟨B, hB⟩ : ∃ X, X = pb.map symC := ⟨_, rfl⟩
    obtain ⟨H, hH⟩ : ∃ X, X = ph.map intC := ⟨_, rfl⟩
    unfold prodC at hix
    dsimp only at hix hbody hoff hnext
    rw [← hB, ← hH] at hix
    have hnB : len B = pb.length := by rw [hlen, hB, len_map]
    generalize i + 1 = i2 at q2 hadd hoff hnext
    have hps0 : le 0 ps = decide (0 ≤ ps) := by rw [hle]
    have hps1 : lt ps (nat n) = decide (ps < (n : Int)) := by rw [hlt, hnat]
    have hokI : le 0 ps = true → lt ps (nat n) = true → okI n ps := fun h1 h2 => ⟨of_decide_eq_true (hps0.symm.trans h1), of_decide_eq_true (hps1.symm.trans h2)⟩
    have hnokA : le 0 ps = false → ¬ okI n ps := fun h1 h2 => of_decide_eq_false (hps0.symm.trans h1) h2.1
    have hnokB : lt ps (nat n) = false → ¬ okI n ps := fun h1 h2 => of_decide_eq_false (hps1.symm.trans h1) h2.2
    cbv
    repeat (first | (rw [hbox]; cbv) | (rw [hc2]; cbv) | (rw [hix]; cbv) | (rw [hsbox]; cbv))
    refine MW_loop hm [0, 1, 2, 3, 84] [1, 3, 4, 5, 6, 7, 8, 9] 10 (by simp) (fun m st => ∃ (j : Int) (F2 : List Nat) (more : Bool) (Y : List (List AV)), GB prods n start ⟨ps, pc, pb, pp, pe, ph⟩ ⟨F', more1⟩ j ⟨F2, more⟩ ∧ Y = F2.map setC ∧ m = U.left pb.length j ∧
      st = stOf [.dead, .ptr 0 0 0, .dead, .sl 1 0 n, .sl 2 0 n, .sl 3 0 n, .flat (.bool more), .flat (.int .i64 i), .ptr 4 0 0, .flat (.int .i64 j)] [some ⟨48, [[.ro R, .ro S, .ro D, .ro V, .flat (.int .i64 start)]]⟩, some ⟨4, EE⟩, some ⟨22, FF⟩, some ⟨22, Y⟩, some ⟨61, [[.flat (.int .i64 ps), .flat (.string pc), .ro B, .flat (.bool pp), .flat (.int .i64 pe), .ro H]]⟩] 5) (U.left pb.length 0) ?_ ?_
    · exact ⟨0, F', more1, Y, hB0, hY, rfl, cut_eq (by cbv) (hcr hY (by rfl) (by rfl) (by rfl) (by rfl) (cutRows_cons (by rfl) (by simp [closedAll, closedIn]) rfl))⟩
    clear hY Y
    rintro m3 st ⟨j, F2, more2, Y, hj, hY, hm3, rfl⟩
    cases hc3 : lt j (len B)
    · have hc3' : decide (j < (pb.length : Int)) = false := by rw [hlt, hnB] at hc3; exact hc3
      have q1 := hnext j _ hj hc3'
      cbv
      repeat (first | (rw [hbox]; cbv) | (rw [hc3]; cbv))
      rw [hadd]
      exact ⟨[0, 1, 2, 3], [1, 3, 4, 5, 6, 7], 8, U.left prods.length i2, hm2 ▸ q2, by simp, i2, F2, more2, Y, q1, hY, rfl, cut_eq (by cbv) (hcr hY (by rfl) (by rfl) (by rfl) (by rfl) rfl)⟩
    cases e1 : le 0 ps
    · have q1 := hoff j _ hj (hnokA e1)
      cbv
      repeat (first | (rw [hbox]; cbv) | (rw [hc3]; cbv) | (rw [e1]; cbv))
      rw [hadd]
      exact ⟨[0, 1, 2, 3], [1, 3, 4, 5, 6, 7], 8, U.left prods.length i2, hm2 ▸ q2, by simp, i2, F2, more2, Y, q1, hY, rfl, cut_eq (by cbv) (hcr hY (by rfl) (by rfl) (by rfl) (by rfl) rfl)⟩
    cases e2 : lt ps (nat n)
    · have q1 := hoff j _ hj (hnokB e2)
      cbv
      repeat (first | (rw [hbox]; cbv) | (rw [hc3]; cbv) | (rw [e1]; cbv) | (rw [e2]; cbv))
      rw [hadd]
      exact ⟨[0, 1, 2, 3], [1, 3, 4, 5, 6, 7], 8, U.left prods.length i2, hm2 ▸ q2, by simp, i2, F2, more2, Y, q1, hY, rfl, cut_eq (by cbv) (hcr hY (by rfl) (by rfl) (by rfl) (by rfl) rfl)⟩
    have hpo := hokI e1 e2
    have hc3' : decide (j < (pb.length : Int)) = true := by rw [hlt, hnB] at hc3; exact hc3
    obtain ⟨_, j0, j1⟩ := at_lt hj.1 hc3'
    have r2 := (at_step hj.1 hc3').2
    have hadd3 : ar .add .i64 j 1 = j + 1 := by rw [har]; exact at_add (Nat.le_trans hbody (by decide)) hj.1 hc3'
    have hix3 : nth B j 2 = some (.rp (symC (atI pb j))) := by rw [hnth, hB]; exact nth_map (fun _ => rfl) j0 j1
    obtain ⟨B2, hB2⟩ : ∃ X, X = (pb.drop (j + 1).toNat).map symC := ⟨_, rfl⟩
    have hsl : ∀ T, slc T 59 (.ro B) (some (.flat (.int .i64 (j + 1)))) none = some (.ro B2) := fun T => by rw [hslc, hB, hB2]; exact slc_drop T pb (j + 1) (Int.le_add_one j0) j1
    have hnx := gB_next hpm hj hc3'
    have hF2 : Sets F2 := hj.2.2.2.2.1
    have hF2l : F2.length = n := hj.2.2.1
    have hno : ¬ ((atI pb j).sort = true ∧ okI n (atI pb j).n) → GB prods n start ⟨ps, pc, pb, pp, pe, ph⟩ ⟨F', more1⟩ (j + 1) ⟨F2, more2⟩ := fun h => by
      have h2 := hnx
      unfold folStep at h2
      rw [if_neg (fun hh : folOk n _ _ => h ⟨hh.2.1, hh.2.2⟩)] at h2
      exact h2
    have hyes : (atI pb j).sort = true → okI n (atI pb j).n → ∃ (fx px wx gx : Int) (g : Nat) (eqv : Bool), (∀ id, ixs (some ⟨22, Y⟩) id 0 n (atI pb j).n 1 = some (.ptr id (atI pb j).n.toNat 0)) ∧ cel (some ⟨22, Y⟩) (atI pb j).n.toNat 0 = some [.flat (.int .u64 fx)] ∧
        sto (some ⟨22, Y⟩) (atI pb j).n.toNat 0 1 (.flat (.int .u64 gx)) = some ⟨22, (F2.set (atI pb j).n.toNat g).map setC⟩ ∧ (∀ id, ixs (some ⟨22, Y⟩) id 0 n ps 1 = some (.ptr id ps.toNat 0)) ∧ cel (some ⟨22, Y⟩) ps.toNat 0 = some [.flat (.int .u64 px)] ∧
        ACalls Try.prog 56 [.ro EE, .ro FF, .ro B2, .flat (.int .u64 px)] (fun _ => .flat (.int .u64 wx)) (fun _ => []) ∧ ACalls Try.prog 34 [.flat (.int .u64 fx), .flat (.int .u64 wx)] (fun _ => .flat (.int .u64 gx)) (fun _ => []) ∧ eq gx fx = eqv ∧
        GB prods n start ⟨ps, pc, pb, pp, pe, ph⟩ ⟨F', more1⟩ (j + 1) ⟨F2.set (atI pb j).n.toNat g, more2 || !eqv⟩ := fun h1 h2 => by
      obtain ⟨a1, a2, a3⟩ := own_set hY hF2l h2
      obtain ⟨b1, b2, _⟩ := own_set hY hF2l hpo
      have hlp := sets_at hF2 hpo.1 (by rw [hF2l]; exact hpo.2)
      have hlf := sets_at hF2 h2.1 (by rw [hF2l]; exact h2.2)
      have hw := hcW (pb.drop (j + 1).toNat) (atI F2 ps) hlp
      rw [← hB2] at hw
      have hwl := with_lt (E := emptyT prods n) hSets1 (l := pb.drop (j + 1).toNat) hlp
      refine ⟨((atI F2 (atI pb j).n : Nat) : Int), ((atI F2 ps : Nat) : Int), _, _, folSet (emptyT prods n) (firstT prods n) ⟨ps, pc, pb, pp, pe, ph⟩ F2 j, decide (folSet (emptyT prods n) (firstT prods n) ⟨ps, pc, pb, pp, pe, ph⟩ F2 j = atI F2 (atI pb j).n), by rw [hixs]; exact a1, by rw [hcel]; exact a2, by rw [hsto]; exact a3 _, by rw [hixs]; exact b1, by rw [hcel]; exact b2, hw, or_calls _ _ hlf hwl, ?_, ?_⟩
      · rw [heq, decide_eq_decide]
        exact Int.natCast_inj
      · have h5 := hnx
        unfold folStep at h5
        rw [if_pos (show folOk n _ _ from ⟨hpo, h1, h2⟩)] at h5
        dsimp only at h5
        by_cases he : folSet (emptyT prods n) (firstT prods n) ⟨ps, pc, pb, pp, pe, ph⟩ F2 j = atI F2 (atI pb j).n
        · rw [if_pos he] at h5
          rw [he, set_same hF2l h2]
          simpa using h5
        · rw [if_neg he] at h5
          rw [decide_eq_false he]
          simpa using h5
    clear hnx
    generalize atI pb j = s at hix3 hno hyes
    obtain ⟨ss, sn⟩ := s
    dsimp only at hno hyes
    generalize j + 1 = j2 at r2 hadd3 hsl hno hyes
    have hsn0 : lt sn 0 = decide (sn < 0) := by rw [hlt]
    have hsn1 : le (nat n) sn = decide ((n : Int) ≤ sn) := by rw [hle, hnat]
    have hokS : lt sn 0 = false → le (nat n) sn = false → okI n sn := fun h1 h2 => ⟨Int.not_lt.1 (of_decide_eq_false (hsn0.symm.trans h1)), Int.not_le.1 (of_decide_eq_false (hsn1.symm.trans h2))⟩
    have hnoA : lt sn 0 = true → ¬ okI n sn := fun h1 h2 => absurd h2.1 (Int.not_le.2 (of_decide_eq_true (hsn0.symm.trans h1)))
    have hnoB : le (nat n) sn = true → ¬ okI n sn := fun h1 h2 => absurd h2.2 (Int.not_lt.2 (of_decide_eq_true (hsn1.symm.trans h1)))
    generalize sn.toNat = sj2 at hyes
    generalize ps.toNat = pj2 at hyes
    cbv
    repeat (first | (rw [hbox]; cbv) | (rw [hc3]; cbv) | (rw [e1]; cbv) | (rw [e2]; cbv) | (rw [hix3]; cbv) | (rw [hsbox]; cbv))
    cases ss
    · have q1 := hno (fun h => by cases h.1)
      cbv
      rw [hadd3]
      exact ⟨[0, 1, 2, 3, 4], [1, 3, 4, 5, 6, 7, 8, 9], 10, U.left pb.length j2, hm3 ▸ r2, by simp, j2, F2, more2, Y, q1, hY, rfl, cut_eq (by cbv) (hcr hY (by rfl) (by rfl) (by rfl) (by rfl) (cutRows_cons (by rfl) (by simp [closedAll, closedIn]) rfl))⟩
    cbv
    repeat (first | (rw [hbox]; cbv))
    cases e3 : lt sn 0
    rotate_left
    · have q1 := hno (fun h => hnoA e3 h.2)
      cbv
      rw [hadd3]
      exact ⟨[0, 1, 2, 3, 4], [1, 3, 4, 5, 6, 7, 8, 9], 10, U.left pb.length j2, hm3 ▸ r2, by simp, j2, F2, more2, Y, q1, hY, rfl, cut_eq (by cbv) (hcr hY (by rfl) (by rfl) (by rfl) (by rfl) (cutRows_cons (by rfl) (by simp [closedAll, closedIn]) rfl))⟩
    cbv
    repeat (first | (rw [hbox]; cbv))
    cases e4 : le (nat n) sn
    rotate_left
    · have q1 := hno (fun h => hnoB e4 h.2)
      cbv
      rw [hadd3]
      exact ⟨[0, 1, 2, 3, 4], [1, 3, 4, 5, 6, 7, 8, 9], 10, U.left pb.length j2, hm3 ▸ r2, by simp, j2, F2, more2, Y, q1, hY, rfl, cut_eq (by cbv) (hcr hY (by rfl) (by rfl) (by rfl) (by rfl) (cutRows_cons (by rfl) (by simp [closedAll, closedIn]) rfl))⟩
    obtain ⟨fx, px, wx, gx, g, eqv, g1, g2, g3, g4, g5, hcW', hcO, g7, q1⟩ := hyes rfl (hokS e3 e4)
    cbv
    refine ⟨by rw [hdk]; kernel_rfl, ?_⟩
    repeat (first | (rw [hbox]; cbv) | (rw [g1]; cbv) | (rw [g2]; cbv) | (rw [hadd3]; cbv) | (rw [hsl]; cbv) | (rw [g4]; cbv) | (rw [g5]; cbv))
    refine hcal ⟨[.ro EE, .ro FF, .ro B2, .flat (.int .u64 px)], [1, 2], _, _, hands_deep ⟨deep_row (by simp) (by rfl) hEn hEf.read, deep_row (by simp) (by rfl) hFn hFf.read, .id rfl, .id rfl, trivial⟩ rfl (fun r hr => by cases hr), hcW', by simp, ?_⟩
    cbv
    refine hcal ⟨_, [], _, _, .inl ⟨rfl, by cbv⟩, hcO, by simp, ?_⟩
    cbv
    refine ⟨by rw [hib]; kernel_rfl, ?_⟩
    cbv
    obtain ⟨Y2, hY2⟩ : ∃ X, X = (F2.set sj2 g).map setC := ⟨_, rfl⟩
    rw [← hY2] at g3
    generalize F2.set sj2 g = F3 at q1 hY2
    cases more2
    · rw [Bool.false_or] at q1
      cbv
      repeat (first | (rw [hbox]; cbv) | (rw [g1]; cbv) | (rw [g2]; cbv) | (rw [g7]; cbv))
      rw [g3]; cbv
      rw [hadd3]
      exact ⟨[0, 1, 2, 3, 4], [1, 3, 4, 5, 6, 7, 8, 9], 10, U.left pb.length j2, hm3 ▸ r2, by simp, j2, F3, _, Y2, q1, hY2, rfl, cut_eq (by cases eqv <;> cbv) (hcr hY2 (by rfl) (by rfl) (by rfl) (by rfl) (cutRows_cons (by rfl) (by simp [closedAll, closedIn]) rfl))⟩
    · rw [Bool.true_or] at q1
      cbv
      repeat (first | (rw [hbox]; cbv) | (rw [g1]; cbv))
      rw [g3]; cbv
      rw [hadd3]
      exact ⟨[0, 1, 2, 3, 4], [1, 3, 4, 5, 6, 7, 8, 9], 10, U.left pb.length j2, hm3 ▸ r2, by simp, j2, F3, true, Y2, q1, hY2, rfl, cut_eq (by cbv) (hcr hY2 (by rfl) (by rfl) (by rfl) (by rfl) (cutRows_cons (by rfl) (by simp [closedAll, closedIn]) rfl))⟩
  · have hlt0 := hlt0 hl0
    cbv
    repeat (first | (rw [hbox]; cbv) | (rw [hlt0]; cbv))
    refine MW_loop hm [0, 24, 40, 88] [1, 3, 4, 5, 6] 7 (by simp) (fun m st => ∃ (F : List Nat) (more : Bool) (Y : List (List AV)), GK prods n start F more ∧ Y = F.map setC ∧ m = roomG n F more ∧
      st = stOf [.dead, .ptr 0 0 0, .dead, .sl 1 0 n, .sl 2 0 n, .sl 3 0 n, .flat (.bool more)] [some ⟨48, [[.ro R, .ro S, .ro D, .ro V, .flat (.int .i64 start)]]⟩, some ⟨4, EE⟩, some ⟨22, FF⟩, some ⟨22, Y⟩] 4) (roomG n (folInit n start) true) ?_ ?_
    · exact ⟨folInit n start, true, _, hK0, hY1, rfl, cut_eq (by cbv) (hcr hY1 (by rfl) (by rfl) (by rfl) (by rfl) rfl)⟩
    rintro m st ⟨F, more, Y, hk, hY, hm1, rfl⟩
    cases more
    · have hYZ : Y = Z := by rw [hY, hZ, gK_end hk]
      have c1 := closed_set hY
      cbv
      refine hQ _ _ trivial ?_
      rw [← hYZ]
      exact G.Leaves.row (k := 3) (r := ⟨22, Y⟩) (by cbv) (by rfl) c1
    have hI0 := gI_zero hk.1
    cbv
    refine MW_loop hm [0, 1, 2, 3] [1, 3, 4, 5, 6, 7] 8 (by simp) (fun m st => ∃ (i : Int) (F' : List Nat) (more : Bool) (Y : List (List AV)), GI prods n start F i ⟨F', more⟩ ∧ Y = F'.map setC ∧ m = U.left prods.length i ∧
      st = stOf [.dead, .ptr 0 0 0, .dead, .sl 1 0 n, .sl 2 0 n, .sl 3 0 n, .flat (.bool more), .flat (.int .i64 i)] [some ⟨48, [[.ro R, .ro S, .ro D, .ro V, .flat (.int .i64 start)]]⟩, some ⟨4, EE⟩, some ⟨22, FF⟩, some ⟨22, Y⟩] 4) (U.left prods.length 0) ?_ ?_
    · exact ⟨0, F, false, Y, hI0, hY, rfl, cut_eq (by cbv) (hcr hY (by rfl) (by rfl) (by rfl) (by rfl) rfl)⟩
    clear hY Y
    rintro m2 st ⟨i, F', more1, Y, hi, hY, hm2, rfl⟩
    cases hc2 : lt i (len D)
    · have hc2' : decide (i < (prods.length : Int)) = false := by rw [hlt, hnD] at hc2; exact hc2
      obtain ⟨q1, q2⟩ := gI_end hk.1 hi hc2'
      cbv
      repeat (first | (rw [hbox]; cbv) | (rw [hc2]; cbv))
      exact ⟨[0, 1, 2, 3], [1, 3, 4, 5, 6], 7, _, hm1 ▸ q2, by simp, F', more1, Y, q1, hY, rfl, cut_eq (by cbv) (hcr hY (by rfl) (by rfl) (by rfl) (by rfl) rfl)⟩
    have hc2' : decide (i < (prods.length : Int)) = true := by rw [hlt, hnD] at hc2; exact hc2
    obtain ⟨_, i0, i1⟩ := at_lt hi.1 hc2'
    have q2 := (at_step hi.1 hc2').2
    have hadd : ar .add .i64 i 1 = i + 1 := by rw [har]; exact at_add (Nat.le_trans hp (by decide)) hi.1 hc2'
    have hix : nth D i 6 = some (.rp (prodC (atI prods i))) := by rw [hnth, hD]; exact nth_map (fun _ => rfl) i0 i1
    have hpm := at_mem i0 i1
    have hbody := hb _ hpm
    have hoff := fun (j : Int) (s' : FS) => gI_off2 (j := j) (s' := s') hi hc2'
    have hB0 : GB prods n start (atI prods i) ⟨F', more1⟩ 0 ⟨F', more1⟩ := gB_zero hi.2.2
    have hnext := fun (j : Int) (s' : FS) => gI_next (j := j) (s' := s') hi hc2'
    generalize atI prods i = p at hix hpm hbody hoff hB0 hnext
    obtain ⟨ps, pc, pb, pp, pe, ph⟩ := p
    obtain ⟨B, hB⟩ : ∃ X, X = pb.map symC := ⟨_, rfl⟩
    obtain ⟨H, hH⟩ : ∃ X, X = ph.map intC := ⟨_, rfl⟩
    unfold prodC at hix
    dsimp only at hix hbody hoff hnext
    rw [← hB, ← hH] at hix
    have hnB : len B = pb.length := by rw [hlen, hB, len_map]
    generalize i + 1 = i2 at q2 hadd hoff hnext
    have hps0 : le 0 ps = decide (0 ≤ ps) := by rw [hle]
    have hps1 : lt ps (nat n) = decide (ps < (n : Int)) := by rw [hlt, hnat]
    have hokI : le 0 ps = true → lt ps (nat n) = true → okI n ps := fun h1 h2 => ⟨of_decide_eq_true (hps0.symm.trans h1), of_decide_eq_true (hps1.symm.trans h2)⟩
    have hnokA : le 0 ps = false → ¬ okI n ps := fun h1 h2 => of_decide_eq_false (hps0.symm.trans h1) h2.1
    have hnokB : lt ps (nat n) = false → ¬ okI n ps := fun h1 h2 => of_decide_eq_false (hps1.symm.trans h1) h2.2
    cbv
    repeat (first | (rw [hbox]; cbv) | (rw [hc2]; cbv) | (rw [hix]; cbv) | (rw [hsbox]; cbv))
    refine MW_loop hm [0, 1, 2, 3, 84] [1, 3, 4, 5, 6, 7, 8, 9] 10 (by simp) (fun m st => ∃ (j : Int) (F2 : List Nat) (more : Bool) (Y : List (List AV)), GB prods n start ⟨ps, pc, pb, pp, pe, ph⟩ ⟨F', more1⟩ j ⟨F2, more⟩ ∧ Y = F2.map setC ∧ m = U.left pb.length j ∧
      st = stOf [.dead, .ptr 0 0 0, .dead, .sl 1 0 n, .sl 2 0 n, .sl 3 0 n, .flat (.bool more), .flat (.int .i64 i), .ptr 4 0 0, .flat (.int .i64 j)] [some ⟨48, [[.ro R, .ro S, .ro D, .ro V, .flat (.int .i64 start)]]⟩, some ⟨4, EE⟩, some ⟨22, FF⟩, some ⟨22, Y⟩, some ⟨61, [[.flat (.int .i64 ps), .flat (.string pc), .ro B, .flat (.bool pp), .flat (.int .i64 pe), .ro H]]⟩] 5) (U.left pb.length 0) ?_ ?_
    · exact ⟨0, F', more1, Y, hB0, hY, rfl, cut_eq (by cbv) (hcr hY (by rfl) (by rfl) (by rfl) (by rfl) (cutRows_cons (by rfl) (by simp [closedAll, closedIn]) rfl))⟩
    clear hY Y
    rintro m3 st ⟨j, F2, more2, Y, hj, hY, hm3, rfl⟩
    cases hc3 : lt j (len B)
    · have hc3' : decide (j < (pb.length : Int)) = false := by rw [hlt, hnB] at hc3; exact hc3
      have q1 := hnext j _ hj hc3'
      cbv
      repeat (first | (rw [hbox]; cbv) | (rw [hc3]; cbv))
      rw [hadd]
      exact ⟨[0, 1, 2, 3], [1, 3, 4, 5, 6, 7], 8, U.left prods.length i2, hm2 ▸ q2, by simp, i2, F2, more2, Y, q1, hY, rfl, cut_eq (by cbv) (hcr hY (by rfl) (by rfl) (by rfl) (by rfl) rfl)⟩
    cases e1 : le 0 ps
    · have q1 := hoff j _ hj (hnokA e1)
      cbv
      repeat (first | (rw [hbox]; cbv) | (rw [hc3]; cbv) | (rw [e1]; cbv))
      rw [hadd]
      exact ⟨[0, 1, 2, 3], [1, 3, 4, 5, 6, 7], 8, U.left prods.length i2, hm2 ▸ q2, by simp, i2, F2, more2, Y, q1, hY, rfl, cut_eq (by cbv) (hcr hY (by rfl) (by rfl) (by rfl) (by rfl) rfl)⟩
    cases e2 : lt ps (nat n)
    · have q1 := hoff j _ hj (hnokB e2)
      cbv
      repeat (first | (rw [hbox]; cbv) | (rw [hc3]; cbv) | (rw [e1]; cbv) | (rw [e2]; cbv))
      rw [hadd]
      exact ⟨[0, 1, 2, 3], [1, 3, 4, 5, 6, 7], 8, U.left prods.length i2, hm2 ▸ q2, by simp, i2, F2, more2, Y, q1, hY, rfl, cut_eq (by cbv) (hcr hY (by rfl) (by rfl) (by rfl) (by rfl) rfl)⟩
    have hpo := hokI e1 e2
    have hc3' : decide (j < (pb.length : Int)) = true := by rw [hlt, hnB] at hc3; exact hc3
    obtain ⟨_, j0, j1⟩ := at_lt hj.1 hc3'
    have r2 := (at_step hj.1 hc3').2
    have hadd3 : ar .add .i64 j 1 = j + 1 := by rw [har]; exact at_add (Nat.le_trans hbody (by decide)) hj.1 hc3'
    have hix3 : nth B j 2 = some (.rp (symC (atI pb j))) := by rw [hnth, hB]; exact nth_map (fun _ => rfl) j0 j1
    obtain ⟨B2, hB2⟩ : ∃ X, X = (pb.drop (j + 1).toNat).map symC := ⟨_, rfl⟩
    have hsl : ∀ T, slc T 59 (.ro B) (some (.flat (.int .i64 (j + 1)))) none = some (.ro B2) := fun T => by rw [hslc, hB, hB2]; exact slc_drop T pb (j + 1) (Int.le_add_one j0) j1
    have hnx := gB_next hpm hj hc3'
    have hF2 : Sets F2 := hj.2.2.2.2.1
    have hF2l : F2.length = n := hj.2.2.1
    have hno : ¬ ((atI pb j).sort = true ∧ okI n (atI pb j).n) → GB prods n start ⟨ps, pc, pb, pp, pe, ph⟩ ⟨F', more1⟩ (j + 1) ⟨F2, more2⟩ := fun h => by
      have h2 := hnx
      unfold folStep at h2
      rw [if_neg (fun hh : folOk n _ _ => h ⟨hh.2.1, hh.2.2⟩)] at h2
      exact h2
    have hyes : (atI pb j).sort = true → okI n (atI pb j).n → ∃ (fx px wx gx : Int) (g : Nat) (eqv : Bool), (∀ id, ixs (some ⟨22, Y⟩) id 0 n (atI pb j).n 1 = some (.ptr id (atI pb j).n.toNat 0)) ∧ cel (some ⟨22, Y⟩) (atI pb j).n.toNat 0 = some [.flat (.int .u64 fx)] ∧
        sto (some ⟨22, Y⟩) (atI pb j).n.toNat 0 1 (.flat (.int .u64 gx)) = some ⟨22, (F2.set (atI pb j).n.toNat g).map setC⟩ ∧ (∀ id, ixs (some ⟨22, Y⟩) id 0 n ps 1 = some (.ptr id ps.toNat 0)) ∧ cel (some ⟨22, Y⟩) ps.toNat 0 = some [.flat (.int .u64 px)] ∧
        ACalls Try.prog 56 [.ro EE, .ro FF, .ro B2, .flat (.int .u64 px)] (fun _ => .flat (.int .u64 wx)) (fun _ => []) ∧ ACalls Try.prog 34 [.flat (.int .u64 fx), .flat (.int .u64 wx)] (fun _ => .flat (.int .u64 gx)) (fun _ => []) ∧ eq gx fx = eqv ∧
        GB prods n start ⟨ps, pc, pb, pp, pe, ph⟩ ⟨F', more1⟩ (j + 1) ⟨F2.set (atI pb j).n.toNat g, more2 || !eqv⟩ := fun h1 h2 => by
      obtain ⟨a1, a2, a3⟩ := own_set hY hF2l h2
      obtain ⟨b1, b2, _⟩ := own_set hY hF2l hpo
      have hlp := sets_at hF2 hpo.1 (by rw [hF2l]; exact hpo.2)
      have hlf := sets_at hF2 h2.1 (by rw [hF2l]; exact h2.2)
      have hw := hcW (pb.drop (j + 1).toNat) (atI F2 ps) hlp
      rw [← hB2] at hw
      have hwl := with_lt (E := emptyT prods n) hSets1 (l := pb.drop (j + 1).toNat) hlp
      refine ⟨((atI F2 (atI pb j).n : Nat) : Int), ((atI F2 ps : Nat) : Int), _, _, folSet (emptyT prods n) (firstT prods n) ⟨ps, pc, pb, pp, pe, ph⟩ F2 j, decide (folSet (emptyT prods n) (firstT prods n) ⟨ps, pc, pb, pp, pe, ph⟩ F2 j = atI F2 (atI pb j).n), by rw [hixs]; exact a1, by rw [hcel]; exact a2, by rw [hsto]; exact a3 _, by rw [hixs]; exact b1, by rw [hcel]; exact b2, hw, or_calls _ _ hlf hwl, ?_, ?_⟩
      · rw [heq, decide_eq_decide]
        exact Int.natCast_inj
      · have h5 := hnx
        unfold folStep at h5
        rw [if_pos (show folOk n _ _ from ⟨hpo, h1, h2⟩)] at h5
        dsimp only at h5
        by_cases he : folSet (emptyT prods n) (firstT prods n) ⟨ps, pc, pb, pp, pe, ph⟩ F2 j = atI F2 (atI pb j).n
        · rw [if_pos he] at h5
          rw [he, set_same hF2l h2]
          simpa using h5
        · rw [if_neg he] at h5
          rw [decide_eq_false he]
          simpa using h5
    clear hnx
    generalize atI pb j = s at hix3 hno hyes
    obtain ⟨ss, sn⟩ := s
    dsimp only at hno hyes
    generalize j + 1 = j2 at r2 hadd3 hsl hno hyes
    have hsn0 : lt sn 0 = decide (sn < 0) := by rw [hlt]
    have hsn1 : le (nat n) sn = decide ((n : Int) ≤ sn) := by rw [hle, hnat]
    have hokS : lt sn 0 = false → le (nat n) sn = false → okI n sn := fun h1 h2 => ⟨Int.not_lt.1 (of_decide_eq_false (hsn0.symm.trans h1)), Int.not_le.1 (of_decide_eq_false (hsn1.symm.trans h2))⟩
    have hnoA : lt sn 0 = true → ¬ okI n sn := fun h1 h2 => absurd h2.1 (Int.not_le.2 (of_decide_eq_true (hsn0.symm.trans h1)))
    have hnoB : le (nat n) sn = true → ¬ okI n sn := fun h1 h2 => absurd h2.2 (Int.not_lt.2 (of_decide_eq_true (hsn1.symm.trans h1)))
    generalize sn.toNat = sj2 at hyes
    generalize ps.toNat = pj2 at hyes
    cbv
    repeat (first | (rw [hbox]; cbv) | (rw [hc3]; cbv) | (rw [e1]; cbv) | (rw [e2]; cbv) | (rw [hix3]; cbv) | (rw [hsbox]; cbv))
    cases ss
    · have q1 := hno (fun h => by cases h.1)
      cbv
      rw [hadd3]
      exact ⟨[0, 1, 2, 3, 4], [1, 3, 4, 5, 6, 7, 8, 9], 10, U.left pb.length j2, hm3 ▸ r2, by simp, j2, F2, more2, Y, q1, hY, rfl, cut_eq (by cbv) (hcr hY (by rfl) (by rfl) (by rfl) (by rfl) (cutRows_cons (by rfl) (by simp [closedAll, closedIn]) rfl))⟩
    cbv
    repeat (first | (rw [hbox]; cbv))
    cases e3 : lt sn 0
    rotate_left
    · have q1 := hno (fun h => hnoA e3 h.2)
      cbv
      rw [hadd3]
      exact ⟨[0, 1, 2, 3, 4], [1, 3, 4, 5, 6, 7, 8, 9], 10, U.left pb.length j2, hm3 ▸ r2, by simp, j2, F2, more2, Y, q1, hY, rfl, cut_eq (by cbv) (hcr hY (by rfl) (by rfl) (by rfl) (by rfl) (cutRows_cons (by rfl) (by simp [closedAll, closedIn]) rfl))⟩
    cbv
    repeat (first | (rw [hbox]; cbv))
    cases e4 : le (nat n) sn
    rotate_left
    · have q1 := hno (fun h => hnoB e4 h.2)
      cbv
      rw [hadd3]
      exact ⟨[0, 1, 2, 3, 4], [1, 3, 4, 5, 6, 7, 8, 9], 10, U.left pb.length j2, hm3 ▸ r2, by simp, j2, F2, more2, Y, q1, hY, rfl, cut_eq (by cbv) (hcr hY (by rfl) (by rfl) (by rfl) (by rfl) (cutRows_cons (by rfl) (by simp [closedAll, closedIn]) rfl))⟩
    obtain ⟨fx, px, wx, gx, g, eqv, g1, g2, g3, g4, g5, hcW', hcO, g7, q1⟩ := hyes rfl (hokS e3 e4)
    cbv
    refine ⟨by rw [hdk]; kernel_rfl, ?_⟩
    repeat (first | (rw [hbox]; cbv) | (rw [g1]; cbv) | (rw [g2]; cbv) | (rw [hadd3]; cbv) | (rw [hsl]; cbv) | (rw [g4]; cbv) | (rw [g5]; cbv))
    refine hcal ⟨[.ro EE, .ro FF, .ro B2, .flat (.int .u64 px)], [1, 2], _, _, hands_deep ⟨deep_row (by simp) (by rfl) hEn hEf.read, deep_row (by simp) (by rfl) hFn hFf.read, .id rfl, .id rfl, trivial⟩ rfl (fun r hr => by cases hr), hcW', by simp, ?_⟩
    cbv
    refine hcal ⟨_, [], _, _, .inl ⟨rfl, by cbv⟩, hcO, by simp, ?_⟩
    cbv
    refine ⟨by rw [hib]; kernel_rfl, ?_⟩
    cbv
    obtain ⟨Y2, hY2⟩ : ∃ X, X = (F2.set sj2 g).map setC := ⟨_, rfl⟩
    rw [← hY2] at g3
    generalize F2.set sj2 g = F3 at q1 hY2
    cases more2
    · rw [Bool.false_or] at q1
      cbv
      repeat (first | (rw [hbox]; cbv) | (rw [g1]; cbv) | (rw [g2]; cbv) | (rw [g7]; cbv))
      rw [g3]; cbv
      rw [hadd3]
      exact ⟨[0, 1, 2, 3, 4], [1, 3, 4, 5, 6, 7, 8, 9], 10, U.left pb.length j2, hm3 ▸ r2, by simp, j2, F3, _, Y2, q1, hY2, rfl, cut_eq (by cases eqv <;> cbv) (hcr hY2 (by rfl) (by rfl) (by rfl) (by rfl) (cutRows_cons (by rfl) (by simp [closedAll, closedIn]) rfl))⟩
    · rw [Bool.true_or] at q1
      cbv
      repeat (first | (rw [hbox]; cbv) | (rw [g1]; cbv))
      rw [g3]; cbv
      rw [hadd3]
      exact ⟨[0, 1, 2, 3, 4], [1, 3, 4, 5, 6, 7, 8, 9], 10, U.left pb.length j2, hm3 ▸ r2, by simp, j2, F3, true, Y2, q1, hY2, rfl, cut_eq (by cbv) (hcr hY2 (by rfl) (by rfl) (by rfl) (by rfl) (cutRows_cons (by rfl) (by simp [closedAll, closedIn]) rfl))⟩
theorem refFolOf_calls (g : GramT) (hs : g.sorts.length ≤ 1000) (hp : g.prods.length ≤ 1000) (hb : ∀ p ∈ g.prods, p.body.length ≤ 1000) :
    ACalls Try.prog 43 [gramV g] (fun k => .sl k 0 g.sorts.length) (fun _ => [⟨22, (folT g.prods g.sorts.length g.start).map setC⟩]) := by
  by_cases h : okI g.sorts.length g.start
  · exact refFolOf_callsT g h hs hp hb
  · exact refFolOf_callsF g h hs hp hb
end Go.Proofs.Ythilmgpciiopnaa.F
