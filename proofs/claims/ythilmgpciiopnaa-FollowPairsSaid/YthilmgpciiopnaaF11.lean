/- Contracts: bosketref21.First. -/
import Derived.Test.YthilmgpciiopnaaF10
namespace Go.Proofs.Ythilmgpciiopnaa.F
open Go G U K
set_option linter.unusedVariables false
set_option linter.unusedSimpArgs false
set_option maxRecDepth 100000
set_option maxHeartbeats 4000000
theorem fn32 : Try.prog.funcs[32]? = some Try.f32 := by kernel_rfl
theorem own_set {Y : List (List AV)} {l : List Nat} (hY : Y = l.map setC) {n : Nat} (hn : l.length = n) {i : Int} (h : okI n i) : (∀ id, ixSl Try.prog (some ⟨22, Y⟩) id 0 n i 1 = some (.ptr id i.toNat 0)) ∧ ptrCells (some ⟨22, Y⟩) i.toNat 0 = some [.flat (.int .u64 ((atI l i : Nat) : Int))] ∧ ∀ v : Nat, storeRow (some ⟨22, Y⟩) i.toNat 0 1 (.flat (.int .u64 (v : Int))) = some ⟨22, (l.set i.toNat v).map setC⟩ := by
  have hg := at_get (l := l) h.1 (by rw [hn]; exact h.2)
  subst hY
  exact ⟨fun id => own_ix c22 h.1 h.2 id, own_cel (get_map h.1 (by rw [hn]; exact h.2)) (Nat.zero_le _), fun v => own_sto hg v rfl (Nat.le_refl 1) rfl rfl⟩
theorem rep_set (n : Nat) : List.replicate n [AV.flat (.int .u64 0)] = (List.replicate n 0).map setC := by simp [setC]
theorem mak_set (T : Table) (id n : Nat) (hn : n ≤ 1000000) : evMake Try.prog T id 51 (.flat (.int .i64 (n : Int))) (.flat (.int .i64 (n : Int))) = some (.sl id 0 n, T.set id (some ⟨22, (List.replicate n 0).map setC⟩)) := by
  have := mak_zero (P := Try.prog) (T := T) (id := id) (t := 51) (e := 22) (z := .int .u64 0) (sz := 1) (b := 8) (n := n) (k := .i64) (k' := .i64) (by kernel_rfl) (by kernel_rfl) (by decide) rfl rfl (by decide) hn
  rw [show zeroAV (.int .u64 0) = [AV.flat (.int .u64 0)] from rfl, rep_set] at this
  exact this
theorem closed_set {Y : List (List AV)} {l : List Nat} (hY : Y = l.map setC) : ∀ c ∈ Y, closedAll [] c = true := by
  rw [hY]; exact closed_map fun _ => rfl
/-- Where the rounds stand. -/
def FK (P : List ProdT) (n : Nat) (F : List Nat) (k : Int) : Prop := 0 ≤ k ∧ k ≤ 64 * (n : Int) + 1 ∧ OkF P n F ∧ firstLoop P n (emptyT P n) (64 * (n : Int) + 1 - k).toNat F = firstT P n
section
variable {P : List ProdT} {n : Nat} {F : List Nat} {k : Int}
theorem fK_zero (P : List ProdT) (n : Nat) : FK P n (List.replicate n 0) 0 := ⟨by omega, by omega, okF_zero P n, by
  rw [show (64 * (n : Int) + 1 - 0).toNat = 64 * n + 1 by omega]; rfl⟩
theorem fK_end (h : FK P n F k) (hc : decide (k ≤ 64 * (n : Int)) = false) : F = firstT P n := by
  obtain ⟨h0, h1, h2, h3⟩ := h
  simp only [decide_eq_false_iff_not] at hc
  rw [show (64 * (n : Int) + 1 - k).toNat = 0 by omega] at h3
  exact h3
theorem fK_step (hn : n ≤ 1000) (h : FK P n F k) (hc : decide (k ≤ 64 * (n : Int)) = true) : arI .add .i64 k 1 = k + 1 ∧ U.left (64 * n + 1) (k + 1) < U.left (64 * n + 1) k ∧
    ((firstRound P n (emptyT P n) F).ch = false → (firstRound P n (emptyT P n) F).F = firstT P n) ∧ ((firstRound P n (emptyT P n) F).ch = true → FK P n (firstRound P n (emptyT P n) F).F (k + 1)) := by
  obtain ⟨h0, h1, h2, h3⟩ := h
  simp only [decide_eq_true_eq] at hc
  have e : (64 * (n : Int) + 1 - k).toNat = (64 * (n : Int) + 1 - (k + 1)).toNat + 1 := by omega
  rw [e, firstLoop] at h3
  refine ⟨ar_add64 (by omega) (by omega), by unfold U.left; omega, fun hh => ?_, fun hh => ?_⟩
  · rw [if_neg (by rw [hh]; decide)] at h3; exact h3
  · rw [if_pos hh] at h3
    exact ⟨by omega, by omega, (firstRound_ok (empty_ok P n).1 h2).1, h3⟩
/-- Within a round. -/
def FI (P : List ProdT) (n : Nat) (F : List Nat) (i : Int) (s : FS) : Prop := At P i ∧ s = (P.take i.toNat).foldl (firstStep n (emptyT P n)) ⟨F, false⟩ ∧ OkF P n s.F
theorem fI_zero (h : OkF P n F) : FI P n F 0 ⟨F, false⟩ := ⟨at_zero P, rfl, h⟩
theorem fI_end {i : Int} {s : FS} (h : FI P n F i s) (hc : decide (i < (P.length : Int)) = false) : s = firstRound P n (emptyT P n) F := by
  rw [h.2.1, take_end h.1 hc]; rfl
theorem fI_next {i : Int} {s : FS} (h : FI P n F i s) (hc : decide (i < (P.length : Int)) = true) : FI P n F (i + 1) (firstStep n (emptyT P n) s (atI P i)) := by
  obtain ⟨_, h0, h1⟩ := at_lt h.1 hc
  refine ⟨(at_step h.1 hc).1, ?_, (firstStep_up (empty_ok P n).1 (at_mem h0 h1) s h.2.2).1⟩
  rw [fold_next _ _ h0 h1, ← h.2.1]
end
theorem mul64 {n : Nat} (hn : n ≤ 1000) : arI .mul .i64 64 (n : Int) = 64 * (n : Int) := by
  show IntKind.i64.wrap (64 * (n : Int)) = _
  rw [IntKind.wrap_i64]
  omega
theorem refFirst_calls (g : GramT) (hs : g.sorts.length ≤ 1000) (hp : g.prods.length ≤ 1000) (hb : ∀ p ∈ g.prods, p.body.length ≤ 1000) :
    ACalls Try.prog 32 [gramV g] (fun k => .sl k 0 g.sorts.length) (fun _ => [⟨22, (firstT g.prods g.sorts.length).map setC⟩]) := by
  have hcE := refEmpty_calls g hs hp hb
  obtain ⟨rules, sorts, prods, levels, start⟩ := g
  unfold gramV gramL at hcE ⊢
  dsimp only at hs hp hb hcE ⊢
  obtain ⟨R, hR⟩ : ∃ X, X = rules.map ruleC := ⟨_, rfl⟩
  obtain ⟨S, hSS⟩ : ∃ X, X = sorts.map strC := ⟨_, rfl⟩
  obtain ⟨D, hD⟩ : ∃ X, X = prods.map prodC := ⟨_, rfl⟩
  obtain ⟨V, hV⟩ : ∃ X, X = levels.map levC := ⟨_, rfl⟩
  rw [← hR, ← hSS, ← hD, ← hV] at hcE ⊢
  have hlS : lenE S = sorts.length := by rw [hSS, len_map]
  generalize sorts.length = n at hs hlS hcE ⊢
  have hE := empty_ok prods n
  have hK0 := fK_zero prods n
  have hcRow := fun F (hF : Sets F) (p : ProdT) => refRow_calls (emptyT prods n) F hF p.body
  obtain ⟨EE, hEE⟩ : ∃ Y, Y = (emptyT prods n).map boolC := ⟨_, rfl⟩
  have hEl : n = EE.length := by rw [hEE, List.length_map, hE.1.1]
  have hEf : flatRow EE := by rw [hEE]; exact flat_bool _
  rw [← hEE] at hcE
  obtain ⟨Y0, hY0⟩ : ∃ Y, Y = (List.replicate n 0).map setC := ⟨_, rfl⟩
  obtain ⟨Z, hZ⟩ : ∃ Z, Z = (firstT prods n).map setC := ⟨_, rfl⟩
  rw [← hZ]
  refine acalls_symF tabF_ok fn32 rfl rfl rfl (by kernel_rfl) ?_
  rintro ⟨lt, le, eq, se, ar, dv, una, conv, len, sln, nat, nth, ixs, cel, sto, app, cpy, slc, mak, ixv, oth, dk, ib, call⟩ hS hm Q hQ
  obtain ⟨hlt, hle, heq, hse, har, hdv, huna, hconv, hlen, hsln, hnat, hnth, hixs, hcel, hsto, happ, hcpy, hslc, hmak, hixv, hoth, hdk, hib, hcall⟩ := Sym.mk.inj hS
  clear hS
  have hnt : ∀ n : Nat, nat n = U.natI n := fun n => by rw [hnat]; rfl
  have hbox : ∀ e c off, cel (some ⟨e, [c]⟩) 0 off = if off ≤ c.length then some (c.drop off) else none := fun e c off => by rw [hcel]; rfl
  have hsbox : ∀ e c off sz y, sto (some ⟨e, [c]⟩) 0 off sz y = if y.cells.length = sz ∧ off + sz ≤ c.length ∧ y.cells.all AV.one = true then some ⟨e, [spl c off y.cells]⟩ else none := fun e c off sz y => by rw [hsto]; rfl
  have hcaw : ∀ {f args T base K}, CallK Try.prog f args T base K → call f args T base K := fun h => by rw [hcall]; exact h
  have hcal : ∀ {f args T base} {K : AV → Table → List Nat → List Nat → Prop}, (∃ args' ids val rows, Hands T ids args args' (val base) (rows base) ∧ ACalls Try.prog f args' val rows ∧ (rows base).length ≤ 8 ∧ K (val base) (adopt T base (rows base)) ids ((List.range (rows base).length).map (base + ·))) → call f args T base K := fun h => hcaw (call_own h)
  have hnS : len S = nat n := by rw [hlen, hnat]; exact hlS
  have hnD : len D = prods.length := by rw [hlen, hD, len_map]
  have hmk : ∀ T id, mak T id 51 (.flat (.int .i64 (len S))) (.flat (.int .i64 (len S))) = some (.sl id 0 n, T.set id (some ⟨22, Y0⟩)) := fun T id => by
    rw [hmak, hnS, hnat, hY0]
    exact mak_set T id n (Nat.le_trans hs (by decide))
  obtain ⟨lim, hlim⟩ : ∃ lim, lim = ar .mul .i64 64 (nat n) := ⟨_, rfl⟩
  have hlk : ∀ k, le k lim = decide (k ≤ 64 * (n : Int)) := fun k => by
    rw [hlim, hle, har, hnat]
    show decide (k ≤ arI .mul .i64 64 (n : Int)) = _
    rw [mul64 hs]
  replace hlim := hlim.symm
  cbv
  repeat (first | (rw [hbox]; cbv))
  refine hcal ⟨_, [], _, _, .inl ⟨rfl, by cbv⟩, hcE, by simp, ?_⟩
  cbv
  repeat (first | (rw [hbox]; cbv))
  rw [hmk]; cbv
  refine MW_loop hm [0, 24, 64] [1, 3, 4, 5] 6 (by simp) (fun m st => ∃ (k : Int) (F : List Nat) (Y : List (List AV)), FK prods n F k ∧ Y = F.map setC ∧ m = U.left (64 * n + 1) k ∧
    st = stOf [.dead, .ptr 0 0 0, .dead, .sl 1 0 n, .sl 2 0 n, .flat (.int .i64 k)] [some ⟨48, [[.ro R, .ro S, .ro D, .ro V, .flat (.int .i64 start)]]⟩, some ⟨4, EE⟩, some ⟨22, Y⟩] 3) (U.left (64 * n + 1) 0) ?_ ?_
  · exact ⟨0, _, Y0, hK0, hY0, rfl, cut_eq (by cbv) (cutRows_cons (by rfl) (by simp [closedAll, closedIn]) (cutRows_cons (by rfl) (closed_bool hEE) (cutRows_cons (by rfl) (closed_set hY0) rfl)))⟩
  rintro m st ⟨k, F, Y, hk, hY, hm1, rfl⟩
  cases hc : le k lim
  · have hc' := (hlk k).symm.trans hc
    have hYZ : Y = Z := by rw [hY, hZ, fK_end hk hc']
    have hcl := closed_set hY
    cbv
    rw [hlim, hc]; cbv
    refine hQ _ _ trivial ?_
    rw [← hYZ]
    exact G.Leaves.row (k := 2) (r := ⟨22, Y⟩) (by cbv) (by rfl) hcl
  have hc' := (hlk k).symm.trans hc
  obtain ⟨k3, k2, kend, knext⟩ := fK_step hs hk hc'
  have hI0 := fI_zero (F := F) hk.2.2.1
  have hYI : Y = (FS.mk F false).F.map setC := hY
  rw [← har] at k3
  generalize k + 1 = kk at k2 k3 knext
  cbv
  rw [hlim, hc]; cbv
  refine MW_loop hm [0, 1, 2] [1, 3, 4, 5, 6, 7] 8 (by simp) (fun m st => ∃ (i : Int) (F' : List Nat) (ch : Bool) (Y : List (List AV)), FI prods n F i ⟨F', ch⟩ ∧ Y = F'.map setC ∧ m = U.left prods.length i ∧
    st = stOf [.dead, .ptr 0 0 0, .dead, .sl 1 0 n, .sl 2 0 n, .flat (.int .i64 k), .flat (.bool ch), .flat (.int .i64 i)] [some ⟨48, [[.ro R, .ro S, .ro D, .ro V, .flat (.int .i64 start)]]⟩, some ⟨4, EE⟩, some ⟨22, Y⟩] 3) (U.left prods.length 0) ?_ ?_
  · exact ⟨0, F, false, Y, hI0, hY, rfl, cut_eq (by cbv) (cutRows_cons (by rfl) (by simp [closedAll, closedIn]) (cutRows_cons (by rfl) (closed_bool hEE) (cutRows_cons (by rfl) (closed_set hY) rfl)))⟩
  clear hY hYI Y
  rintro m2 st ⟨i, F', ch, Y, hi, hY, hm2, rfl⟩
  have hcr : ∀ {T : Table} {Y : List (List AV)} {l : List Nat}, Y = l.map setC → T 0 = some ⟨48, [[.ro R, .ro S, .ro D, .ro V, .flat (.int .i64 start)]]⟩ → T 1 = some ⟨4, EE⟩ → T 2 = some ⟨22, Y⟩ → cutRows [0, 1, 2] T [0, 1, 2] = [some ⟨48, [[.ro R, .ro S, .ro D, .ro V, .flat (.int .i64 start)]]⟩, some ⟨4, EE⟩, some ⟨22, Y⟩] := fun hy h1 h2 h3 => cutRows_cons h1 (by simp [closedAll, closedIn]) (cutRows_cons h2 (closed_bool hEE) (cutRows_cons h3 (closed_set hy) rfl))
  cases hc2 : lt i (len D)
  · have hc2' : decide (i < (prods.length : Int)) = false := by rw [hlt, hnD] at hc2; exact hc2
    have hend := fI_end hi hc2'
    rw [← hend] at kend knext
    dsimp only at kend knext
    cbv
    repeat (first | (rw [hbox]; cbv) | (rw [hc2]; cbv))
    cases ch
    · have hYZ : Y = Z := by rw [hY, hZ, kend rfl]
      have hcl := closed_set hY
      cbv
      refine hQ _ _ trivial ?_
      rw [← hYZ]
      exact G.Leaves.row (k := 2) (r := ⟨22, Y⟩) (by cbv) (by rfl) hcl
    · have hkk := knext rfl
      cbv
      rw [k3]
      exact ⟨[0, 1, 2], [1, 3, 4, 5], 6, U.left (64 * n + 1) kk, hm1 ▸ k2, by simp, kk, F', Y, hkk, hY, rfl, cut_eq (by cbv) (hcr hY (by rfl) (by rfl) (by rfl))⟩
  have hc2' : decide (i < (prods.length : Int)) = true := by rw [hlt, hnD] at hc2; exact hc2
  obtain ⟨_, i0, i1⟩ := at_lt hi.1 hc2'
  have q2 := (at_step hi.1 hc2').2
  have hadd : ar .add .i64 i 1 = i + 1 := by rw [har]; exact at_add (Nat.le_trans hp (by decide)) hi.1 hc2'
  have hix : nth D i 6 = some (.rp (prodC (atI prods i))) := by rw [hnth, hD]; exact nth_map (fun _ => rfl) i0 i1
  have hnx := fI_next hi hc2'
  have hF' : Sets F' := hi.2.2.2
  have hFl : F'.length = n := hi.2.2.1.1
  have hcR := hcRow F' hF' (atI prods i)
  have hrl := rowT_lt (E := emptyT prods n) hF' (atI prods i).body
  have hno : ¬ okI n (atI prods i).sort → FI prods n F (i + 1) ⟨F', ch⟩ := fun h => by
    have := hnx
    unfold firstStep at this
    rw [if_neg h] at this
    exact this
  have hyes : okI n (atI prods i).sort → ∃ (fx wx : Int) (w : Nat) (eqv : Bool), (∀ id, ixs (some ⟨22, Y⟩) id 0 n (atI prods i).sort 1 = some (.ptr id (atI prods i).sort.toNat 0)) ∧ cel (some ⟨22, Y⟩) (atI prods i).sort.toNat 0 = some [.flat (.int .u64 fx)] ∧
      sto (some ⟨22, Y⟩) (atI prods i).sort.toNat 0 1 (.flat (.int .u64 wx)) = some ⟨22, (F'.set (atI prods i).sort.toNat w).map setC⟩ ∧ ACalls Try.prog 34 [uV (rowT (emptyT prods n) F' (atI prods i).body).1, .flat (.int .u64 fx)] (fun _ => .flat (.int .u64 wx)) (fun _ => []) ∧
      eq wx fx = eqv ∧ FI prods n F (i + 1) ⟨F'.set (atI prods i).sort.toNat w, ch || !eqv⟩ := fun h => by
    obtain ⟨h1, h2, h3⟩ := own_set hY hFl h
    refine ⟨((atI F' (atI prods i).sort : Nat) : Int), _, (rowT (emptyT prods n) F' (atI prods i).body).1 ||| atI F' (atI prods i).sort, decide ((rowT (emptyT prods n) F' (atI prods i).body).1 ||| atI F' (atI prods i).sort = atI F' (atI prods i).sort), by rw [hixs]; exact h1, by rw [hcel]; exact h2, by rw [hsto]; exact h3 _, or_calls _ _ hrl (sets_at hF' h.1 (by rw [hFl]; exact h.2)), ?_, ?_⟩
    · rw [heq]
      rw [decide_eq_decide]
      exact Int.natCast_inj
    · have := hnx
      unfold firstStep at this
      rw [if_pos h] at this
      exact this
  obtain ⟨FF, hFF⟩ : ∃ X, X = F'.map setC := ⟨_, rfl⟩
  have hYf : flatRow Y := by rw [hY]; exact flat_set _
  have hYl : n = Y.length := by rw [hY, List.length_map, hFl]
  rw [← hEE, ← hY] at hcR
  clear hnx hrl
  generalize atI prods i = p at hix hcR hno hyes
  obtain ⟨ps, pc, pb, pp, pe, ph⟩ := p
  obtain ⟨B, hB⟩ : ∃ X, X = pb.map symC := ⟨_, rfl⟩
  obtain ⟨H, hH⟩ : ∃ X, X = ph.map intC := ⟨_, rfl⟩
  unfold prodC at hix
  unfold uV at hcR hyes
  dsimp only at hix hcR hno hyes
  rw [← hB, ← hH] at hix
  rw [← hB] at hcR
  generalize (((rowT (emptyT prods n) F' pb).1 : Nat) : Int) = rx at hcR hyes
  generalize (rowT (emptyT prods n) F' pb).2 = r2 at hcR
  generalize i + 1 = i2 at q2 hadd hno hyes
  have hps0 : lt ps 0 = decide (ps < 0) := by rw [hlt]
  have hps1 : le (nat n) ps = decide ((n : Int) ≤ ps) := by rw [hle, hnat]
  have hokI : lt ps 0 = false → le (nat n) ps = false → okI n ps := fun h1 h2 => ⟨Int.not_lt.1 (of_decide_eq_false (hps0.symm.trans h1)), Int.not_le.1 (of_decide_eq_false (hps1.symm.trans h2))⟩
  have hnokA : lt ps 0 = true → ¬ okI n ps := fun h1 h2 => absurd h2.1 (Int.not_le.2 (of_decide_eq_true (hps0.symm.trans h1)))
  have hnokB : le (nat n) ps = true → ¬ okI n ps := fun h1 h2 => absurd h2.2 (Int.not_lt.2 (of_decide_eq_true (hps1.symm.trans h1)))
  generalize ps.toNat = pj at hyes
  cbv
  repeat (first | (rw [hbox]; cbv) | (rw [hc2]; cbv) | (rw [hix]; cbv) | (rw [hsbox]; cbv))
  cases e1 : lt ps 0
  rotate_left
  · have q1 := hno (hnokA e1)
    cbv
    rw [hadd]
    exact ⟨[0, 1, 2], [1, 3, 4, 5, 6, 7], 8, U.left prods.length i2, hm2 ▸ q2, by simp, i2, F', ch, Y, q1, hY, rfl, cut_eq (by cbv) (hcr hY (by rfl) (by rfl) (by rfl))⟩
  cbv
  repeat (first | (rw [hbox]; cbv))
  cases e2 : le (nat n) ps
  rotate_left
  · have q1 := hno (hnokB e2)
    cbv
    rw [hadd]
    exact ⟨[0, 1, 2], [1, 3, 4, 5, 6, 7], 8, U.left prods.length i2, hm2 ▸ q2, by simp, i2, F', ch, Y, q1, hY, rfl, cut_eq (by cbv) (hcr hY (by rfl) (by rfl) (by rfl))⟩
  obtain ⟨fx, wx, w, eqv, g1, g2, g3, hcO, g4, g5⟩ := hyes (hokI e1 e2)
  obtain ⟨Y2, hY2⟩ : ∃ X, X = (F'.set pj w).map setC := ⟨_, rfl⟩
  rw [← hY2] at g3
  generalize F'.set pj w = F2 at g5 hY2
  cbv
  repeat (first | (rw [hbox]; cbv))
  refine hcal ⟨[.ro EE, .ro Y, .ro B], [1, 2], _, _, hands_deep ⟨deep_row (by simp) (by rfl) hEl hEf.read, deep_row (by simp) (by rfl) hYl hYf.read, .id rfl, trivial⟩ rfl (fun r hr => by cases hr), hcR, by simp, ?_⟩
  cbv
  repeat (first | (rw [hbox]; cbv) | (rw [g1]; cbv) | (rw [g2]; cbv))
  refine hcal ⟨_, [], _, _, .inl ⟨rfl, by cbv⟩, hcO, by simp, ?_⟩
  cbv
  cases ch
  · rw [Bool.false_or] at g5
    cbv
    repeat (first | (rw [hbox]; cbv) | (rw [g1]; cbv) | (rw [g2]; cbv) | (rw [g4]; cbv))
    rw [g3]; cbv
    rw [hadd]
    exact ⟨[0, 1, 2], [1, 3, 4, 5, 6, 7], 8, U.left prods.length i2, hm2 ▸ q2, by simp, i2, F2, _, Y2, g5, hY2, rfl, cut_eq (by cases eqv <;> cbv) (hcr hY2 (by rfl) (by rfl) (by rfl))⟩
  · rw [Bool.true_or] at g5
    cbv
    repeat (first | (rw [hbox]; cbv) | (rw [g1]; cbv))
    rw [g3]; cbv
    rw [hadd]
    exact ⟨[0, 1, 2], [1, 3, 4, 5, 6, 7], 8, U.left prods.length i2, hm2 ▸ q2, by simp, i2, F2, _, Y2, g5, hY2, rfl, cut_eq (by cbv) (hcr hY2 (by rfl) (by rfl) (by rfl))⟩
end Go.Proofs.Ythilmgpciiopnaa.F
