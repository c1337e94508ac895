/- Contracts: clos.Close. -/
import Derived.Test.YtnceadbfgpiaaaaQ17
namespace Go.Proofs.Ytnceadbfgpiaaaa.C
open Go G U K I J F
set_option linter.unusedVariables false
set_option linter.unusedSimpArgs false
set_option maxRecDepth 100000
set_option maxHeartbeats 4000000
theorem fn25 : Try.prog.funcs[25]? = some Try.f25 := by kernel_rfl
theorem close_calls (g : GramT) (E : List Bool) (F : List Nat) (l S : List ItemT) (hF : Sets F) (hp : g.prods.length ≤ 1000) (hb : ∀ p ∈ g.prods, p.body.length ≤ 1000) (hn : l.length ≤ 50000) (hl : ∀ x ∈ l, okI64 x) (hS : CL (rule g E F) l S) :
    ACalls Try.prog 25 [gramV g, .agg [.ro (E.map boolC), .ro (F.map setC)], .ro (l.map itemC)] (fun k => .sl k 0 S.length) (fun _ => [⟨28, S.map itemC⟩]) := by
  have hRf := flat_item S
  have hRc : ∀ c ∈ S.map itemC, closedAll [] c = true := closed_map fun _ => rfl
  have hCl := clone_calls l (Nat.le_trans hn (by decide)) rfl
  obtain ⟨m0, hz⟩ := clE_zero (g := g) (E := E) (F := F) hl hp (Nat.le_trans hn (by decide))
  have hrd := fun (TH LK OP : List (List AV)) (j n m : Nat) (h : ClE g E F l TH LK OP j n m) (h0 : 0 < n) => clE_round hF hp hb h h0
  have hen := fun (TH LK OP : List (List AV)) (j n m : Nat) (h : ClE g E F l TH LK OP j n m) (h0 : n = 0) => clE_end hl hp hn hS h h0
  have hcl := fun (TH LK OP : List (List AV)) (j n m : Nat) (h : ClE g E F l TH LK OP j n m) => clE_cl h
  have hDl : lenE (g.prods.map prodC) = (g.prods.length : Int) := len_map _ _
  have hX0 : ∀ c ∈ l.map itemC, closedAll [] c = true := closed_map fun _ => rfl
  have hXn : (l.map itemC).length = l.length := List.length_map ..
  obtain ⟨Y0, hY0⟩ : ∃ Y, Y = (List.replicate g.prods.length false).map boolC := ⟨_, rfl⟩
  obtain ⟨Z0, hZ0⟩ : ∃ Y, Y = (List.replicate g.prods.length 0).map setC := ⟨_, rfl⟩
  have hYc := closed_bool hY0
  have hZc := closed_set hZ0
  rw [← hY0, ← hZ0] at hz
  have hm1 : ∀ (T : Table) id, evMake Try.prog T id 53 (.flat (.int .i64 (g.prods.length : Int))) (.flat (.int .i64 (g.prods.length : Int))) = some (.sl id 0 g.prods.length, T.set id (some ⟨4, Y0⟩)) := fun T id => by rw [hY0]; exact mak_bool T id _ (Nat.le_trans hp (by decide))
  have hm2 : ∀ (T : Table) id, evMake Try.prog T id 54 (.flat (.int .i64 (g.prods.length : Int))) (.flat (.int .i64 (g.prods.length : Int))) = some (.sl id 0 g.prods.length, T.set id (some ⟨26, Z0⟩)) := fun T id => by rw [hZ0]; exact mak_set T id _ (Nat.le_trans hp (by decide))
  rw [← hDl] at hm1 hm2
  clear hY0 hZ0 hF hb hl hS
  generalize hCE : ClE g E F l = CE at *
  clear hCE
  unfold gramV at *
  unfold gramL at *
  generalize S.length = rn at *
  generalize S.map itemC = RR at *
  generalize E.map boolC = EE at *
  generalize F.map setC = FF at *
  generalize l.map itemC = X at *
  generalize g.rules.map ruleC = R at *
  generalize g.sorts.map strC = SS at *
  generalize g.prods.map prodC = D at *
  generalize g.levels.map levC = V at *
  generalize g.start = start at *
  generalize g.prods.length = np at *
  generalize l.length = ln at *
  have hend : ∀ i : Int, 0 ≤ i → i ≤ np → ¬ i < np → i = np := fun i a b c => by omega
  refine acalls_symF tabF_ok fn25 rfl rfl rfl (by kernel_rfl) ?_
  rintro ⟨lt, le, eq, se, ar, dv, una, conv, len, sln, nat, nth, ixs, cel, sto, app, cpy, slc, mak, ixv, oth, dk, ib, call⟩ hS hm Q hQ
  obtain ⟨hlt, hle, heq, hse, har, hdv, huna, hconv, hlen, hsln, hnat, hnth, hixs, hcel, hsto, happ, hcpy, hslc, hmak, hixv, hoth, hdk, hib, hcall⟩ := Sym.mk.inj hS
  clear hS
  have hnt : ∀ n : Nat, nat n = U.natI n := fun n => by rw [hnat]; rfl
  have hbox : ∀ e c off, cel (some ⟨e, [c]⟩) 0 off = if off ≤ c.length then some (c.drop off) else none := fun e c off => by rw [hcel]; rfl
  have hsbox : ∀ e c off sz y, sto (some ⟨e, [c]⟩) 0 off sz y = if y.cells.length = sz ∧ off + sz ≤ c.length ∧ y.cells.all AV.one = true then some ⟨e, [spl c off y.cells]⟩ else none := fun e c off sz y => by rw [hsto]; rfl
  have hcaw : ∀ {f args T base K}, CallK Try.prog f args T base K → call f args T base K := fun h => by rw [hcall]; exact h
  have hcal : ∀ {f args T base} {K : AV → Table → List Nat → List Nat → Prop}, (∃ args' ids val rows, Hands T ids args args' (val base) (rows base) ∧ ACalls Try.prog f args' val rows ∧ (rows base).length ≤ 8 ∧ K (val base) (adopt T base (rows base)) ids ((List.range (rows base).length).map (base + ·))) → call f args T base K := fun h => hcaw (call_own h)
  have hX2 : len D = (np : Int) := by rw [hlen]; exact hDl
  have hmk1 : ∀ (T : Table) id, mak T id 53 (.flat (.int .i64 (len D))) (.flat (.int .i64 (len D))) = some (.sl id 0 np, T.set id (some ⟨4, Y0⟩)) := fun T id => by rw [hmak, hlen]; exact hm1 T id
  have hmk2 : ∀ (T : Table) id, mak T id 54 (.flat (.int .i64 (len D))) (.flat (.int .i64 (len D))) = some (.sl id 0 np, T.set id (some ⟨26, Z0⟩)) := fun T id => by rw [hmak, hlen]; exact hm2 T id
  clear hm1 hm2 hDl
  replace hrd : ∀ (TH LK OP : List (List AV)) (j n m : Nat), CE TH LK OP j n m → lt 0 (nat n) = true → ∃ (p d look N look2 : Int) (ok sb : Bool) (RB : List (List AV)) (j1 n1 : Nat),
      (∀ id, ixs (some ⟨28, OP⟩) id j n 0 3 = some (.ptr id j 0)) ∧ cel (some ⟨28, OP⟩) j 0 = some [.flat (.int .i64 p), .flat (.int .i64 d), .flat (.int .u64 look)] ∧
      (∀ (T : Table) id, T id = some ⟨28, OP⟩ → slc T 22 (.sl id j n) (some (.flat (.int .i64 1))) none = some (.sl id j1 n1)) ∧
      ACalls Try.prog 17 [.agg [.ro R, .ro SS, .ro D, .ro V, .flat (.int .i64 start)], .agg [.flat (.int .i64 p), .flat (.int .i64 d), .flat (.int .u64 look)]] (fun _ => .tup [.agg [.flat (.bool sb), .flat (.int .i64 N)], .flat (.bool ok)]) (fun _ => []) ∧
      ((ok && sb) = false → ∃ m2, m2 < m ∧ CE TH LK OP j1 n1 m2) ∧
      ((ok && sb) = true → ACalls Try.prog 19 [.agg [.ro R, .ro SS, .ro D, .ro V, .flat (.int .i64 start)], .agg [.flat (.int .i64 p), .flat (.int .i64 d), .flat (.int .u64 look)]] (fun _ => .ro RB) (fun _ => []) ∧
        ACalls Try.prog 40 [.agg [.ro EE, .ro FF], .ro RB, .flat (.int .u64 look)] (fun _ => .flat (.int .u64 look2)) (fun _ => []) ∧
        ∃ m2 TH2 LK2 O2 j2 n2, m2 < m ∧ CE TH2 LK2 O2 j2 n2 m2 ∧
          PCalls Try.prog 39 3 [.ptr 0 0 0, .flat (.int .i64 N), .flat (.int .u64 look2)] [⟨88, [[.ro R, .ro SS, .ro D, .ro V, .flat (.int .i64 start), .ro EE, .ro FF, .sl 1 0 np, .sl 2 0 np, .sl 3 j1 n1]]⟩, ⟨4, TH⟩, ⟨26, LK⟩, ⟨28, OP⟩] (.tup [])
            [some ⟨88, [[.ro R, .ro SS, .ro D, .ro V, .flat (.int .i64 start), .ro EE, .ro FF, .sl 1 0 np, .sl 2 0 np, .sl 3 j2 n2]]⟩, some ⟨4, TH2⟩, some ⟨26, LK2⟩, some ⟨28, O2⟩]) := fun TH LK OP j n m h hc => by
    rw [hlt, hnt] at hc
    have hc : (0 : Int) < (n : Int) := of_decide_eq_true hc
    obtain ⟨p, d, look, N, look2, ok, sb, RB, q1, q2, q3, q4, q5, q6⟩ := hrd TH LK OP j n m h (by omega)
    exact ⟨p, d, look, N, look2, ok, sb, RB, j + 1, n - 1, fun id => by rw [hixs]; exact q1 id, by rw [hcel]; exact q2, fun T id hT => by rw [hslc]; exact q3 T id hT, q4, q5, q6⟩
  replace hen : ∀ (TH LK OP : List (List AV)) (j n m : Nat), CE TH LK OP j n m → lt 0 (nat n) = false → ∃ HO : Int → List (List AV), HO 0 = X ∧ (∀ i, flatRow (HO i)) ∧ (∀ i, ∀ c ∈ HO i, closedAll [] c = true) ∧
      (∀ i : Int, 0 ≤ i → lt i (nat np) = true → ∃ (tk : Bool) (lx i2 : Int) (iN : Nat), (∀ id, ixs (some ⟨4, TH⟩) id 0 np i 1 = some (.ptr id iN 0)) ∧ cel (some ⟨4, TH⟩) iN 0 = some [.flat (.bool tk)] ∧
        (∀ id, ixs (some ⟨26, LK⟩) id 0 np i 1 = some (.ptr id iN 0)) ∧ cel (some ⟨26, LK⟩) iN 0 = some [.flat (.int .u64 lx)] ∧
        (tk = false → HO i2 = HO i) ∧ (tk = true → ∀ (O O2 : List (List AV)), O = HO i → O2 = O ++ [[.flat (.int .i64 i), .flat (.int .i64 0), .flat (.int .u64 lx)]] → O2 = HO i2 ∧ ∀ (T : Table) (id k0 k q q2 : Nat), q = O.length → q2 = q + 1 → T k0 = some ⟨28, O⟩ → T k = some ⟨28, [[.flat (.int .i64 i), .flat (.int .i64 0), .flat (.int .u64 lx)]]⟩ → k ≠ k0 → app T id 22 22 (.sl k0 0 q) (.sl k 0 1) = some (.sl id 0 q2, (T.set k0 none).set id (some ⟨28, O2⟩))) ∧
        ar .add .i64 i 1 = i2 ∧ 0 ≤ i2 ∧ i2 ≤ np ∧ np - i2.toNat < np - i.toNat) ∧
      ACalls Try.prog 9 [.ro (HO np)] (fun k => .sl k 0 rn) (fun _ => [⟨28, RR⟩]) := fun TH LK OP j n m h hc => by
    rw [hlt, hnt] at hc
    have hc := of_decide_eq_false hc
    have hc : ¬ (0 : Int) < (n : Int) := hc
    obtain ⟨HO, q1, q2, q3, q4, q5⟩ := hen TH LK OP j n m h (by omega)
    refine ⟨HO, q1, q2, q3, fun i h0 h1 => ?_, q5⟩
    rw [hlt, hnt] at h1
    have h1 : i < (np : Int) := of_decide_eq_true h1
    obtain ⟨tk, lx, r1, r2, r3, r4, r5, r6, r7⟩ := q4 i h0 h1
    refine ⟨tk, lx, i + 1, i.toNat, fun id => by rw [hixs]; exact r1 id, by rw [hcel]; exact r2, fun id => by rw [hixs]; exact r3 id, by rw [hcel]; exact r4, r6, fun ht O O2 hO hO2 => ⟨by rw [hO2, hO]; exact (r7 ht).symm, fun T id k0 k q q2 hq hq2 a b c => ?_⟩, by rw [har, ar_add64 (by omega) (by omega)], by omega, by omega, by omega⟩
    rw [happ]
    rw [← hO] at r5
    exact app_tip u22 z28 c28 (by decide) rfl (by decide) a b c rfl (by omega) hq2 (by rw [hq, List.take_length]; exact hO2) (by omega)
  replace hend : ∀ i : Int, 0 ≤ i → i ≤ np → lt i (nat np) = false → i = np := fun i a b c => by
    rw [hlt, hnt] at c
    exact hend i a b (of_decide_eq_false c)
  have hz0 : (0 : Int) ≤ 0 ∧ (0 : Int) ≤ np := by omega
  generalize (np : Int) = npI at hen hend hz0
  clear hX2
  cbv
  refine ⟨by rw [hdk]; kernel_rfl, ?_⟩
  repeat (first | (rw [hbox]; cbv) | (rw [hsbox]; cbv) | (rw [hmk1]; cbv) | (rw [hmk2]; cbv))
  refine hcal ⟨_, [], _, _, .inl ⟨rfl, by cbv⟩, hCl, by simp, ?_⟩
  cbv
  repeat (first | (rw [hbox]; cbv) | (rw [hsbox]; cbv))
  refine ⟨by rw [hib]; kernel_rfl, ?_⟩
  cbv
  refine MW_loop hm [0, 8, 128, 64, 96, 112] [2, 3, 4, 7] 8 (by simp) (fun mz st => ∃ (TH LK OP : List (List AV)) (j n m : Nat), CE TH LK OP j n m ∧ mz = m ∧ st = stOf [.dead, .dead, .ro X, .ptr 0 0 0, .ptr 1 0 0, .dead, .dead, .ptr 2 0 0] [some ⟨39, [[.ro R, .ro SS, .ro D, .ro V, .flat (.int .i64 start)]]⟩, some ⟨56, [[.ro EE, .ro FF]]⟩, some ⟨88, [[.ro R, .ro SS, .ro D, .ro V, .flat (.int .i64 start), .ro EE, .ro FF, .sl 3 0 np, .sl 4 0 np, .sl 5 j n]]⟩, some ⟨4, TH⟩, some ⟨26, LK⟩, some ⟨28, OP⟩] 6) (m0) ?_ ?_
  · exact ⟨Y0, Z0, X, 0, ln, m0, hz, rfl, cut_eq (by cbv) (cutRows_cons (by rfl) (by simp [closedAll, closedIn]) (cutRows_cons (by rfl) (by simp [closedAll, closedIn]) (cutRows_box (by rfl) (by rfl) (by rfl) (cutRows_cons (by rfl) (hYc) (cutRows_cons (by rfl) (hZc) (cutRows_cons (by rfl) (hX0) rfl))))))⟩
  rintro mz st ⟨TH, LK, OP, j, n, m, hi, hmz, rfl⟩
  obtain ⟨k1, k2, k3⟩ := hcl _ _ _ _ _ _ hi
  cases hc : lt 0 (nat n)
  · obtain ⟨HO, y1, y2, y3, y4, y5⟩ := hen _ _ _ _ _ _ hi hc
    have hcl2 : ∀ (i : Int) {O : List (List AV)}, O = HO i → ∀ c ∈ O, closedAll [] c = true := fun i O h c hc => y3 i c (h ▸ hc)
    have hrd2 : ∀ (i : Int) {O : List (List AV)}, O = HO i → flatRow O := fun i O h => h ▸ y2 i
    have y1 := y1.symm
    clear hrd hen hcl
    cbv
    repeat (first | (rw [hbox]; cbv) | (rw [hsbox]; cbv) | (rw [hc]; cbv))
    refine hcal ⟨_, [], _, _, .inl ⟨rfl, by cbv⟩, hCl, by simp, ?_⟩
    cbv
    repeat (first | (rw [hbox]; cbv) | (rw [hsbox]; cbv))
    refine MW_loop hm [2, 3, 4, 5, 62] [7, 11, 75, 76, 77] 78 (by simp) (fun mz st => ∃ (i : Int) (q : Nat) (O : List (List AV)), (0 ≤ i ∧ i ≤ npI) ∧ O = HO i ∧ q = O.length ∧ mz = np - i.toNat ∧ st = stOf [.dead, .dead, .dead, .dead, .dead, .dead, .dead, .ptr 0 0 0, .dead, .dead, .dead, .sl 4 0 q, .dead, .dead, .dead, .dead, .dead, .dead, .dead, .dead, .dead, .dead, .dead, .dead, .dead, .dead, .dead, .dead, .dead, .dead, .dead, .dead, .dead, .dead, .dead, .dead, .dead, .dead, .dead, .dead, .dead, .dead, .dead, .dead, .dead, .dead, .dead, .dead, .dead, .dead, .dead, .dead, .dead, .dead, .dead, .dead, .dead, .dead, .dead, .dead, .dead, .dead, .dead, .dead, .dead, .dead, .dead, .dead, .dead, .dead, .dead, .dead, .dead, .dead, .dead, .sl 1 0 np, .flat (.int .i64 (nat np)), .flat (.int .i64 i)] [some ⟨88, [[.ro R, .ro SS, .ro D, .ro V, .flat (.int .i64 start), .ro EE, .ro FF, .sl 1 0 np, .sl 2 0 np, .sl 3 j n]]⟩, some ⟨4, TH⟩, some ⟨26, LK⟩, some ⟨28, OP⟩, some ⟨28, O⟩] 5) (np - (0 : Int).toNat) ?_ ?_
    · exact ⟨0, ln, X, hz0, y1, hXn.symm, rfl, cut_eq (by cbv) (cutRows_box (by rfl) (by rfl) (by rfl) (cutRows_cons (by rfl) (k1) (cutRows_cons (by rfl) (k2) (cutRows_cons (by rfl) (k3) (cutRows_cons (by rfl) (hX0) rfl)))))⟩
    rintro mj st ⟨i, q, O, hj, hO, hq, hmj, rfl⟩
    cases hc2 : lt i (nat np)
    · have e := hend i hj.1 hj.2 hc2
      rw [e] at hO
      have hOr := (hrd2 _ hO).read
      rw [← hO] at y5
      cbv
      rw [hc2]; cbv
      refine hcal ⟨[.ro O], [4], _, _, hands_deep ⟨deep_row (by simp) (by rfl) hq hOr, trivial⟩ rfl (noRo_flat hRf), y5, by simp, ?_⟩
      cbv
      exact hQ _ _ trivial (leaves_own (by cbv) (by rfl) hRc)
    obtain ⟨tk, lx, i2, iN, r1, r2, r3, r4, r5, r6, r7, r8, r9, r10⟩ := y4 i hj.1 hc2
    cases tk
    · have r5 := hO.trans (r5 rfl).symm
      cbv
      rw [hc2]; cbv
      repeat (first | (rw [hbox]; cbv) | (rw [hsbox]; cbv) | (rw [r1]; cbv) | (rw [r2]; cbv))
      rw [r7]
      exact ⟨[0, 1, 2, 3, 4], [7, 11, 75, 76, 77], 78, np - i2.toNat, hmj ▸ r10, by simp, i2, q, O, ⟨r8, r9⟩, r5, hq, rfl, cut_eq (by cbv) (cutRows_box (by rfl) (by rfl) (by rfl) (cutRows_cons (by rfl) (k1) (cutRows_cons (by rfl) (k2) (cutRows_cons (by rfl) (k3) (cutRows_cons (by rfl) (hcl2 _ r5) rfl)))))⟩
    obtain ⟨O2, hO2⟩ : ∃ O2, O2 = O ++ [[.flat (.int .i64 i), .flat (.int .i64 0), .flat (.int .u64 lx)]] := ⟨_, rfl⟩
    obtain ⟨r6, r11⟩ := r6 rfl O O2 hO hO2
    have hq2 : q + 1 = O2.length := by rw [hO2, List.length_append, hq]; rfl
    have r11 := fun (T : Table) (id k0 k : Nat) => r11 T id k0 k q (q + 1) hq rfl
    clear hO2
    generalize q + 1 = q2 at hq2 r11
    cbv
    rw [hc2]; cbv
    repeat (first | (rw [hbox]; cbv) | (rw [hsbox]; cbv) | (rw [r1]; cbv) | (rw [r2]; cbv) | (rw [r3]; cbv) | (rw [r4]; cbv))
    rw [r11 _ _ _ _ (by rfl) (by rfl) (by decide)]; cbv
    rw [r7]
    exact ⟨[0, 1, 2, 3, 149], [7, 11, 75, 76, 77], 78, np - i2.toNat, hmj ▸ r10, by simp, i2, q2, O2, ⟨r8, r9⟩, r6, hq2, rfl, cut_eq (by cbv) (cutRows_box (by rfl) (by rfl) (by rfl) (cutRows_cons (by rfl) (k1) (cutRows_cons (by rfl) (k2) (cutRows_cons (by rfl) (k3) (cutRows_cons (by rfl) (hcl2 _ r6) rfl)))))⟩
  obtain ⟨p, d, look, N, look2, ok, sb, RB, j1, n1, q1, q2, q3, q4, q5, q6⟩ := hrd _ _ _ _ _ _ hi hc
  clear hrd hen
  cases ok
  · obtain ⟨m2, hm2, q5⟩ := q5 rfl
    clear q6
    cbv
    repeat (first | (rw [hbox]; cbv) | (rw [hsbox]; cbv) | (rw [hc]; cbv) | (rw [q1]; cbv) | (rw [q2]; cbv))
    rw [q3 _ _ (by rfl)]; cbv
    repeat (first | (rw [hbox]; cbv) | (rw [hsbox]; cbv))
    refine hcal ⟨_, [], _, _, .inl ⟨rfl, by cbv⟩, q4, by simp, ?_⟩
    cbv
    repeat (first | (rw [hbox]; cbv) | (rw [hsbox]; cbv))
    exact ⟨[0, 1, 2, 3, 4, 5], [2, 3, 4, 7], 8, m2, hmz ▸ hm2, by simp, TH, LK, OP, j1, n1, m2, q5, rfl, cut_eq (by cbv) (cutRows_cons (by rfl) (by simp [closedAll, closedIn]) (cutRows_cons (by rfl) (by simp [closedAll, closedIn]) (cutRows_box (by rfl) (by rfl) (by rfl) (cutRows_cons (by rfl) (k1) (cutRows_cons (by rfl) (k2) (cutRows_cons (by rfl) (k3) rfl))))))⟩
  cases sb
  · obtain ⟨m2, hm2, q5⟩ := q5 rfl
    clear q6
    cbv
    repeat (first | (rw [hbox]; cbv) | (rw [hsbox]; cbv) | (rw [hc]; cbv) | (rw [q1]; cbv) | (rw [q2]; cbv))
    rw [q3 _ _ (by rfl)]; cbv
    repeat (first | (rw [hbox]; cbv) | (rw [hsbox]; cbv))
    refine hcal ⟨_, [], _, _, .inl ⟨rfl, by cbv⟩, q4, by simp, ?_⟩
    cbv
    repeat (first | (rw [hbox]; cbv) | (rw [hsbox]; cbv))
    exact ⟨[0, 1, 2, 3, 4, 5], [2, 3, 4, 7], 8, m2, hmz ▸ hm2, by simp, TH, LK, OP, j1, n1, m2, q5, rfl, cut_eq (by cbv) (cutRows_cons (by rfl) (by simp [closedAll, closedIn]) (cutRows_cons (by rfl) (by simp [closedAll, closedIn]) (cutRows_box (by rfl) (by rfl) (by rfl) (cutRows_cons (by rfl) (k1) (cutRows_cons (by rfl) (k2) (cutRows_cons (by rfl) (k3) rfl))))))⟩
  obtain ⟨p1, p2, m2, TH2, LK2, O2, j2, n2, hm2, q7, q8⟩ := q6 rfl
  clear q5
  obtain ⟨k4, k5, k6⟩ := hcl _ _ _ _ _ _ q7
  cbv
  repeat (first | (rw [hbox]; cbv) | (rw [hsbox]; cbv) | (rw [hc]; cbv) | (rw [q1]; cbv) | (rw [q2]; cbv))
  rw [q3 _ _ (by rfl)]; cbv
  repeat (first | (rw [hbox]; cbv) | (rw [hsbox]; cbv))
  refine hcal ⟨_, [], _, _, .inl ⟨rfl, by cbv⟩, q4, by simp, ?_⟩
  cbv
  repeat (first | (rw [hbox]; cbv) | (rw [hsbox]; cbv))
  refine ⟨by rw [hdk]; kernel_rfl, ?_⟩
  repeat (first | (rw [hbox]; cbv) | (rw [hsbox]; cbv))
  refine hcal ⟨_, [], _, _, .inl ⟨rfl, by cbv⟩, p1, by simp, ?_⟩
  cbv
  repeat (first | (rw [hbox]; cbv) | (rw [hsbox]; cbv))
  refine hcal ⟨_, [], _, _, .inl ⟨rfl, by cbv⟩, p2, by simp, ?_⟩
  cbv
  repeat (first | (rw [hbox]; cbv) | (rw [hsbox]; cbv))
  refine hcaw (call_with [2, 3, 4, 5] q8 (by simp) (by decide) (cutRows_box (by rfl) (by rfl) (by rfl) (cutRows_cons (by rfl) (k1) (cutRows_cons (by rfl) (k2) (cutRows_cons (by rfl) (k3) rfl)))) (by rfl) (by rfl) (by rfl) (renRows_box (by rfl) (renRows_cons (k4) (renRows_cons (k5) (renRows_cons (k6) rfl)))) ?_)
  cbv
  refine ⟨by rw [hib]; kernel_rfl, ?_⟩
  cbv
  exact ⟨[0, 1, 2, 3, 4, 382], [2, 3, 4, 7], 8, m2, hmz ▸ hm2, by simp, TH2, LK2, O2, j2, n2, m2, q7, rfl, cut_eq (by cbv) (cutRows_cons (by rfl) (by simp [closedAll, closedIn]) (cutRows_cons (by rfl) (by simp [closedAll, closedIn]) (cutRows_box (by rfl) (by rfl) (by rfl) (cutRows_cons (by rfl) (k4) (cutRows_cons (by rfl) (k5) (cutRows_cons (by rfl) (k6) rfl))))))⟩
end Go.Proofs.Ytnceadbfgpiaaaa.C
