/- Contracts: first.Of. -/
import Derived.Test.YthilmgpciiopnaaF11
namespace Go.Proofs.Ythilmgpciiopnaa.F
open Go G U K
set_option linter.unusedVariables false
set_option linter.unusedSimpArgs false
set_option maxRecDepth 100000
set_option maxHeartbeats 4000000
theorem fn28 : Try.prog.funcs[28]? = some Try.f28 := by kernel_rfl
theorem cutRows_any {ks l : List Nat} {T : Table} {k : Nat} {e : TypeId} {X X' : List (List AV)} {R : List (Option Row)} (hT : T k = some ⟨e, X⟩) (h1 : closedEls ks X = true) (h2 : renEls (newName ks 0) X = X') (h : cutRows ks T l = R) : cutRows ks T (k :: l) = some ⟨e, X'⟩ :: R := by
  simp only [cutRows, hT, h1, h2, if_true, h]
theorem leaves_two {P : Program} {fn : Func} {a b n m : Nat} {r1 r2 : Row} {st : St} (h : resA P fn st = some (.agg [.sl a 0 n, .sl b 0 m])) (hab : a ≠ b) (h1 : st.T a = some r1) (h2 : st.T b = some r2) (c1 : ∀ e ∈ r1.els, closedAll [] e = true) (c2 : ∀ e ∈ r2.els, closedAll [] e = true) :
    G.Leaves P fn (fun k => .agg [.sl k 0 n, .sl (k + 1) 0 m]) (fun _ => [r1, r2]) st := by
  refine ⟨[], [], [a, b], _, [r1, r2], h, by simp [hab], by simp, by simp [closedIn, closedAll], by simp [frz, nils, h1, h2], ?_, fun k => ⟨?_, ?_⟩⟩
  · intro r hr e he
    simp only [List.mem_cons, List.not_mem_nil, or_false] at hr
    rcases hr with rfl | rfl
    · exact closed_ups e (c1 e he)
    · exact closed_ups e (c2 e he)
  · have : (a == b) = false := by simpa using hab
    simp [ren, rens, newName, List.idxOf_cons, this]
  · have key : ∀ r : Row, (∀ e ∈ r.els, closedAll [] e = true) → renRow (newName [a, b] k) r = r := fun r hc => by
      unfold renRow
      have : r.els.map (rens (newName [a, b] k)) = r.els := by
        conv => rhs; rw [← List.map_id r.els]
        exact List.map_congr_left fun c hc' => rens_nil _ c (hc c hc')
      rw [this]
    simp [key r1 c1, key r2 c2]
/-- Within a round. -/
def OI (P : List ProdT) (n : Nat) (s0 : OS) (i : Int) (s : OS) : Prop := At P i ∧ s = (P.take i.toNat).foldl (ofStep n) s0 ∧ OkO P n s
/-- Where the rounds stand. -/
def OK (P : List ProdT) (n : Nat) (E : List Bool) (F : List Nat) (more : Bool) : Prop := OkO P n ⟨E, F, false⟩ ∧ (more = false → ∀ p ∈ P, ClosedO n ⟨E, F, false⟩ p)
def roomO (n : Nat) (E : List Bool) (F : List Nat) (more : Bool) : Nat := if more = true then 1 + (65 * n - cntO ⟨E, F, false⟩) else 0
section
variable {P : List ProdT} {n : Nat} {E : List Bool} {F : List Nat}
theorem oK_zero (P : List ProdT) (n : Nat) : OK P n (List.replicate n false) (List.replicate n 0) true := ⟨⟨sound_zero P n, okF_zero P n⟩, fun h => by cases h⟩
theorem oK_end (h : OK P n E F false) : E = emptyT P n ∧ F = firstT P n := of_fixed h.1 (h.2 rfl)
theorem oI_zero (h : OkO P n ⟨E, F, false⟩) : OI P n ⟨E, F, false⟩ 0 ⟨E, F, false⟩ := ⟨at_zero P, rfl, h⟩
theorem oI_next {s0 s : OS} {i : Int} (h : OI P n s0 i s) (hc : decide (i < (P.length : Int)) = true) : OI P n s0 (i + 1) (ofStep n s (atI P i)) := by
  obtain ⟨_, h0, h1⟩ := at_lt h.1 hc
  refine ⟨(at_step h.1 hc).1, ?_, (ofStep_up (at_mem h0 h1) s h.2.2).1⟩
  rw [fold_next _ _ h0 h1, ← h.2.1]
theorem oI_end {E' : List Bool} {F' : List Nat} {m : Bool} {i : Int} (h0 : OkO P n ⟨E, F, false⟩) (h : OI P n ⟨E, F, false⟩ i ⟨E', F', m⟩) (hc : decide (i < (P.length : Int)) = false) : OK P n E' F' m ∧ roomO n E' F' m < roomO n E F true := by
  obtain ⟨_, h2⟩ := ofFold (n := n) P (fun _ h => h) ⟨E, F, false⟩ h0
  have he := h.2.1
  rw [take_end h.1 hc] at he
  rw [← he] at h2
  have hok : OkO P n ⟨E', F', false⟩ := h.2.2
  have hle := cntO_le _ hok
  rcases h2 with ⟨h2, h3⟩ | ⟨h2, h3⟩
  · obtain ⟨rfl, rfl, rfl⟩ := OS.mk.inj h2
    exact ⟨⟨hok, fun _ => h3⟩, by unfold roomO; rw [if_neg (by decide), if_pos rfl]; omega⟩
  · dsimp only at h2
    subst h2
    refine ⟨⟨hok, fun h => by cases h⟩, ?_⟩
    unfold roomO
    rw [if_pos rfl, if_pos rfl]
    have h4 : cntO ⟨E, F, false⟩ < cntO ⟨E', F', false⟩ := h3
    omega
end
theorem of_calls (g : GramT) (hs : g.sorts.length ≤ 1000) (hp : g.prods.length ≤ 1000) (hb : ∀ p ∈ g.prods, p.body.length ≤ 1000) :
    ACalls Try.prog 28 [gramV g] (fun k => .agg [.sl k 0 g.sorts.length, .sl (k + 1) 0 g.sorts.length]) (fun _ => [⟨4, (emptyT g.prods g.sorts.length).map boolC⟩, ⟨22, (firstT g.prods g.sorts.length).map setC⟩]) := by
  obtain ⟨rules, sorts, prods, levels, start⟩ := g
  unfold gramV gramL
  dsimp only at hs hp hb ⊢
  obtain ⟨R, hR⟩ : ∃ X, X = rules.map ruleC := ⟨_, rfl⟩
  obtain ⟨S, hSS⟩ : ∃ X, X = sorts.map strC := ⟨_, rfl⟩
  obtain ⟨D, hD⟩ : ∃ X, X = prods.map prodC := ⟨_, rfl⟩
  obtain ⟨V, hV⟩ : ∃ X, X = levels.map levC := ⟨_, rfl⟩
  rw [← hR, ← hSS, ← hD, ← hV]
  have hlS : lenE S = sorts.length := by rw [hSS, len_map]
  generalize sorts.length = n at hs hlS ⊢
  have hK0 := oK_zero prods n
  have hcRow := fun (E : List Bool) (F : List Nat) (hF : Sets F) (p : ProdT) (hpl : p.body.length ≤ 1000) => row_calls E F p.body hF (Nat.le_trans hpl (by decide))
  obtain ⟨Y0, hY0⟩ : ∃ Y, Y = (List.replicate n false).map boolC := ⟨_, rfl⟩
  obtain ⟨Z0, hZ0⟩ : ∃ Y, Y = (List.replicate n 0).map setC := ⟨_, rfl⟩
  obtain ⟨EZ, hEZ⟩ : ∃ Z, Z = (emptyT prods n).map boolC := ⟨_, rfl⟩
  obtain ⟨FZ, hFZ⟩ : ∃ Z, Z = (firstT prods n).map setC := ⟨_, rfl⟩
  rw [← hEZ, ← hFZ]
  refine acalls_symF tabF_ok fn28 rfl rfl rfl (by kernel_rfl) ?_
  rintro ⟨lt, le, eq, se, ar, dv, una, conv, len, sln, nat, nth, ixs, cel, sto, app, cpy, slc, mak, ixv, oth, dk, ib, call⟩ hS hm Q hQ
  obtain ⟨hlt, hle, heq, hse, har, hdv, huna, hconv, hlen, hsln, hnat, hnth, hixs, hcel, hsto, happ, hcpy, hslc, hmak, hixv, hoth, hdk, hib, hcall⟩ := Sym.mk.inj hS
  clear hS
  have hnt : ∀ n : Nat, nat n = U.natI n := fun n => by rw [hnat]; rfl
  have hbox : ∀ e c off, cel (some ⟨e, [c]⟩) 0 off = if off ≤ c.length then some (c.drop off) else none := fun e c off => by rw [hcel]; rfl
  have hsbox : ∀ e c off sz y, sto (some ⟨e, [c]⟩) 0 off sz y = if y.cells.length = sz ∧ off + sz ≤ c.length ∧ y.cells.all AV.one = true then some ⟨e, [spl c off y.cells]⟩ else none := fun e c off sz y => by rw [hsto]; rfl
  have hcaw : ∀ {f args T base K}, CallK Try.prog f args T base K → call f args T base K := fun h => by rw [hcall]; exact h
  have hcal : ∀ {f args T base} {K : AV → Table → List Nat → List Nat → Prop}, (∃ args' ids val rows, Hands T ids args args' (val base) (rows base) ∧ ACalls Try.prog f args' val rows ∧ (rows base).length ≤ 8 ∧ K (val base) (adopt T base (rows base)) ids ((List.range (rows base).length).map (base + ·))) → call f args T base K := fun h => hcaw (call_own h)
  have hnS : len S = nat n := by rw [hlen, hnat]; exact hlS
  have hnD : len D = prods.length := by rw [hlen, hD, len_map]
  have hmk : ∀ T id, mak T id 50 (.flat (.int .i64 (len S))) (.flat (.int .i64 (len S))) = some (.sl id 0 n, T.set id (some ⟨4, Y0⟩)) := fun T id => by
    rw [hmak, hnS, hnat, hY0]
    exact mak_bool T id n (Nat.le_trans hs (by decide))
  have hmk2 : ∀ T id, mak T id 51 (.flat (.int .i64 (len S))) (.flat (.int .i64 (len S))) = some (.sl id 0 n, T.set id (some ⟨22, Z0⟩)) := fun T id => by
    rw [hmak, hnS, hnat, hZ0]
    exact mak_set T id n (Nat.le_trans hs (by decide))
  have hcr : ∀ {ks : List Nat} {a b c d e : Nat} {Tt : Table} {Y Z : List (List AV)} {l : List Bool} {l2 : List Nat}, ks = [a, b, c, d, e] → Y = l.map boolC → Z = l2.map setC → Tt a = some ⟨48, [[.ro R, .ro S, .ro D, .ro V, .flat (.int .i64 start)]]⟩ → Tt b = some ⟨53, [[.flat (.slice none 0 0), .flat (.slice none 0 0)]]⟩ →
      Tt c = some ⟨53, [[.sl d 0 n, .sl e 0 n]]⟩ → Tt d = some ⟨4, Y⟩ → Tt e = some ⟨22, Z⟩ → closedEls ks [[.sl d 0 n, .sl e 0 n]] = true → renEls (newName ks 0) [[.sl d 0 n, .sl e 0 n]] = [[.sl 3 0 n, .sl 4 0 n]] → cutRows ks Tt [a, b, c, d, e] = [some ⟨48, [[.ro R, .ro S, .ro D, .ro V, .flat (.int .i64 start)]]⟩, some ⟨53, [[.flat (.slice none 0 0), .flat (.slice none 0 0)]]⟩, some ⟨53, [[.sl 3 0 n, .sl 4 0 n]]⟩, some ⟨4, Y⟩, some ⟨22, Z⟩] :=
    fun hk hy hz h1 h2 h3 h4 h5 h6 h7 => cutRows_cons h1 (by simp [closedAll, closedIn]) (cutRows_cons h2 (by simp [closedAll, closedIn]) (cutRows_any h3 h6 h7 (cutRows_cons h4 (closed_bool hy) (cutRows_cons h5 (closed_set hz) rfl))))
  cbv
  refine ⟨by rw [hdk]; kernel_rfl, ?_⟩
  repeat (first | (rw [hbox]; cbv) | (rw [hmk]; cbv) | (rw [hmk2]; cbv) | (rw [hsbox]; cbv))
  refine ⟨by rw [hib]; kernel_rfl, ?_⟩
  cbv
  refine MW_loop hm [0, 8, 88, 40, 72] [1, 2, 3, 4] 5 (by simp) (fun m st => ∃ (E : List Bool) (F : List Nat) (more : Bool) (Y Z : List (List AV)), OK prods n E F more ∧ Y = E.map boolC ∧ Z = F.map setC ∧ m = roomO n E F more ∧
    st = stOf [.dead, .ptr 0 0 0, .ptr 1 0 0, .ptr 2 0 0, .flat (.bool more)] [some ⟨48, [[.ro R, .ro S, .ro D, .ro V, .flat (.int .i64 start)]]⟩, some ⟨53, [[.flat (.slice none 0 0), .flat (.slice none 0 0)]]⟩, some ⟨53, [[.sl 3 0 n, .sl 4 0 n]]⟩, some ⟨4, Y⟩, some ⟨22, Z⟩] 5) (roomO n (List.replicate n false) (List.replicate n 0) true) ?_ ?_
  · exact ⟨List.replicate n false, List.replicate n 0, true, Y0, Z0, hK0, hY0, hZ0, rfl, cut_eq (by cbv) (hcr rfl hY0 hZ0 (by rfl) (by rfl) (by rfl) (by rfl) (by rfl) (by rfl) (by rfl))⟩
  rintro m st ⟨E, F, more, Y, Z, hk, hY, hZ, hm1, rfl⟩
  cases more
  · obtain ⟨hE, hF⟩ := oK_end hk
    have hYE : Y = EZ := by rw [hY, hEZ, hE]
    have hZF : Z = FZ := by rw [hZ, hFZ, hF]
    have c1 := closed_bool hY
    have c2 := closed_set hZ
    cbv
    repeat (first | (rw [hbox]; cbv) | (rw [hsbox]; cbv))
    refine hQ _ _ trivial ?_
    rw [← hYE, ← hZF]
    exact leaves_two (a := 3) (b := 4) (r1 := ⟨4, Y⟩) (r2 := ⟨22, Z⟩) (by cbv) (by decide) (by rfl) (by rfl) c1 c2
  have hI0 := oI_zero hk.1
  cbv
  rw [hbox]; cbv
  refine MW_loop hm [0, 1, 2, 3, 4] [1, 2, 3, 4, 20, 21, 22] 23 (by simp) (fun m st => ∃ (i : Int) (E' : List Bool) (F' : List Nat) (more : Bool) (Y Z : List (List AV)), OI prods n ⟨E, F, false⟩ i ⟨E', F', more⟩ ∧ Y = E'.map boolC ∧ Z = F'.map setC ∧ m = U.left prods.length i ∧
    st = stOf [.dead, .ptr 0 0 0, .ptr 1 0 0, .ptr 2 0 0, .flat (.bool more), .dead, .dead, .dead, .dead, .dead, .dead, .dead, .dead, .dead, .dead, .dead, .dead, .dead, .dead, .dead, .ro D, .flat (.int .i64 (len D)), .flat (.int .i64 i)] [some ⟨48, [[.ro R, .ro S, .ro D, .ro V, .flat (.int .i64 start)]]⟩, some ⟨53, [[.flat (.slice none 0 0), .flat (.slice none 0 0)]]⟩, some ⟨53, [[.sl 3 0 n, .sl 4 0 n]]⟩, some ⟨4, Y⟩, some ⟨22, Z⟩] 5) (U.left prods.length 0) ?_ ?_
  · exact ⟨0, E, F, false, Y, Z, hI0, hY, hZ, rfl, cut_eq (by cbv) (hcr rfl hY hZ (by rfl) (by rfl) (by rfl) (by rfl) (by rfl) (by rfl) (by rfl))⟩
  clear hY hZ Y Z
  rintro m2 st ⟨i, E', F', more, Y, Z, hi, hY, hZ, hm2, rfl⟩
  cases hc2 : lt i (len D)
  · have hc2' : decide (i < (prods.length : Int)) = false := by rw [hlt, hnD] at hc2; exact hc2
    obtain ⟨q1, q2⟩ := oI_end hk.1 hi hc2'
    cbv
    rw [hc2]; cbv
    exact ⟨[0, 1, 2, 3, 4], [1, 2, 3, 4], 5, _, hm1 ▸ q2, by simp, E', F', more, Y, Z, q1, hY, hZ, rfl, cut_eq (by cbv) (hcr rfl hY hZ (by rfl) (by rfl) (by rfl) (by rfl) (by rfl) (by rfl) (by rfl))⟩
  have hc2' : decide (i < (prods.length : Int)) = true := by rw [hlt, hnD] at hc2; exact hc2
  obtain ⟨_, i0, i1⟩ := at_lt hi.1 hc2'
  have q2 := (at_step hi.1 hc2').2
  have hadd : ar .add .i64 i 1 = i + 1 := by rw [har]; exact at_add (Nat.le_trans hp (by decide)) hi.1 hc2'
  have hix : nth D i 6 = some (.rp (prodC (atI prods i))) := by rw [hnth, hD]; exact nth_map (fun _ => rfl) i0 i1
  have hnx := oI_next hi hc2'
  have hF' : Sets F' := hi.2.2.2.2
  have hFl : F'.length = n := hi.2.2.2.1.1
  have hEl : E'.length = n := hi.2.2.1.1
  have hcR := hcRow E' F' hF' (atI prods i) (hb _ (at_mem i0 i1))
  have hrl := rowT_lt (E := E') hF' (atI prods i).body
  have hno : ¬ okI n (atI prods i).sort → OI prods n ⟨E, F, false⟩ (i + 1) ⟨E', F', more⟩ := fun h => by
    have := hnx
    unfold ofStep at this
    rw [if_neg h] at this
    exact this
  have hyes : okI n (atI prods i).sort → ∃ (fx wx : Int) (w : Nat) (eqv ev : Bool), (∀ id, ixs (some ⟨22, Z⟩) id 0 n (atI prods i).sort 1 = some (.ptr id (atI prods i).sort.toNat 0)) ∧ cel (some ⟨22, Z⟩) (atI prods i).sort.toNat 0 = some [.flat (.int .u64 fx)] ∧
      sto (some ⟨22, Z⟩) (atI prods i).sort.toNat 0 1 (.flat (.int .u64 wx)) = some ⟨22, (F'.set (atI prods i).sort.toNat w).map setC⟩ ∧ ar .or .u64 fx (((rowT E' F' (atI prods i).body).1 : Nat) : Int) = wx ∧ eq wx fx = eqv ∧
      (∀ id, ixs (some ⟨4, Y⟩) id 0 n (atI prods i).sort 1 = some (.ptr id (atI prods i).sort.toNat 0)) ∧ cel (some ⟨4, Y⟩) (atI prods i).sort.toNat 0 = some [.flat (.bool ev)] ∧ (∀ v, sto (some ⟨4, Y⟩) (atI prods i).sort.toNat 0 1 (.flat (.bool v)) = some ⟨4, (E'.set (atI prods i).sort.toNat v).map boolC⟩) ∧
      ((!eqv || ((rowT E' F' (atI prods i).body).2 && !ev)) = false → OI prods n ⟨E, F, false⟩ (i + 1) ⟨E', F', more⟩) ∧
      ((!eqv || ((rowT E' F' (atI prods i).body).2 && !ev)) = true → OI prods n ⟨E, F, false⟩ (i + 1) ⟨E'.set (atI prods i).sort.toNat (ev || (rowT E' F' (atI prods i).body).2), F'.set (atI prods i).sort.toNat w, true⟩) := fun h => by
    obtain ⟨h1, h2, h3⟩ := own_set hZ hFl h
    obtain ⟨h4, h5, h6⟩ := own_bool hY hEl h
    have h7 := or_u (sets_at hF' h.1 (by rw [hFl]; exact h.2)) hrl
    refine ⟨((atI F' (atI prods i).sort : Nat) : Int), _, atI F' (atI prods i).sort ||| (rowT E' F' (atI prods i).body).1, decide (atI F' (atI prods i).sort ||| (rowT E' F' (atI prods i).body).1 = atI F' (atI prods i).sort), atI E' (atI prods i).sort, by rw [hixs]; exact h1, by rw [hcel]; exact h2, by rw [hsto]; exact h3 _, by rw [har]; exact h7, ?_, by rw [hixs]; exact h4, by rw [hcel]; exact h5, by rw [hsto]; exact h6, fun hh => ?_, fun hh => ?_⟩
    · rw [heq, decide_eq_decide]
      exact Int.natCast_inj
    · have h8 := hnx
      unfold ofStep at h8
      rw [if_pos h, if_neg (by unfold ofTest; dsimp only; rw [hh]; decide)] at h8
      exact h8
    · have h8 := hnx
      unfold ofStep at h8
      rw [if_pos h, if_pos (by unfold ofTest; dsimp only; rw [hh])] at h8
      exact h8
  have hYf : flatRow Y := by rw [hY]; exact flat_bool _
  have hYl : n = Y.length := by rw [hY, List.length_map, hEl]
  have hZf : flatRow Z := by rw [hZ]; exact flat_set _
  have hZl : n = Z.length := by rw [hZ, List.length_map, hFl]
  rw [← hY, ← hZ] at hcR
  clear hnx hrl
  generalize atI prods i = p at hix hcR hno hyes
  obtain ⟨ps, pc, pb, pp, pe, ph⟩ := p
  obtain ⟨B, hB⟩ : ∃ X, X = pb.map symC := ⟨_, rfl⟩
  obtain ⟨H, hH⟩ : ∃ X, X = ph.map intC := ⟨_, rfl⟩
  unfold prodC at hix
  unfold uV at hcR
  dsimp only at hix hcR hno hyes
  rw [← hB, ← hH] at hix
  rw [← hB] at hcR
  generalize (((rowT E' F' pb).1 : Nat) : Int) = rx at hcR hyes
  generalize (rowT E' F' pb).2 = r2 at hcR hyes
  generalize i + 1 = i2 at q2 hadd hno hyes
  have hps0 : lt ps 0 = decide (ps < 0) := by rw [hlt]
  have hps1 : le (len S) ps = decide ((n : Int) ≤ ps) := by rw [hle, hnS, hnat]
  have hokI : lt ps 0 = false → le (len S) ps = false → okI n ps := fun h1 h2 => ⟨Int.not_lt.1 (of_decide_eq_false (hps0.symm.trans h1)), Int.not_le.1 (of_decide_eq_false (hps1.symm.trans h2))⟩
  have hnokA : lt ps 0 = true → ¬ okI n ps := fun h1 h2 => absurd h2.1 (Int.not_le.2 (of_decide_eq_true (hps0.symm.trans h1)))
  have hnokB : le (len S) ps = true → ¬ okI n ps := fun h1 h2 => absurd h2.2 (Int.not_lt.2 (of_decide_eq_true (hps1.symm.trans h1)))
  generalize ps.toNat = pj at hyes
  cbv
  rw [hc2]; cbv
  repeat (first | (rw [hbox]; cbv) | (rw [hix]; cbv) | (rw [hsbox]; cbv))
  cases e1 : lt ps 0
  rotate_left
  · have q1 := hno (hnokA e1)
    cbv
    rw [hadd]
    exact ⟨[0, 1, 2, 3, 4], [1, 2, 3, 4, 20, 21, 22], 23, U.left prods.length i2, hm2 ▸ q2, by simp, i2, E', F', more, Y, Z, q1, hY, hZ, rfl, cut_eq (by cbv) (hcr rfl hY hZ (by rfl) (by rfl) (by rfl) (by rfl) (by rfl) (by rfl) (by rfl))⟩
  cbv
  repeat (first | (rw [hbox]; cbv))
  cases e2 : le (len S) ps
  rotate_left
  · have q1 := hno (hnokB e2)
    cbv
    rw [hadd]
    exact ⟨[0, 1, 2, 3, 4], [1, 2, 3, 4, 20, 21, 22], 23, U.left prods.length i2, hm2 ▸ q2, by simp, i2, E', F', more, Y, Z, q1, hY, hZ, rfl, cut_eq (by cbv) (hcr rfl hY hZ (by rfl) (by rfl) (by rfl) (by rfl) (by rfl) (by rfl) (by rfl))⟩
  obtain ⟨fx, wx, w, eqv, ev, g1, g2, g3, g4, g5, g6, g7, g8, g9, g10⟩ := hyes (hokI e1 e2)
  cbv
  repeat (first | (rw [hbox]; cbv))
  refine hcal ⟨[.agg [.ro Y, .ro Z], .ro B], [3, 4], _, _, hands_deep ⟨deep_agg ⟨deep_row (by simp) (by rfl) hYl hYf.read, deep_row (by simp) (by rfl) hZl hZf.read, trivial⟩, .id rfl, trivial⟩ rfl (fun r hr => by cases hr), hcR, by simp, ?_⟩
  cbv
  refine ⟨by rw [hdk]; kernel_rfl, ?_⟩
  repeat (first | (rw [hbox]; cbv) | (rw [g1]; cbv) | (rw [g2]; cbv) | (rw [g4]; cbv) | (rw [g5]; cbv))
  cases eqv
  · have q1 := g10 rfl
    obtain ⟨Z2, hZ2⟩ : ∃ X, X = (F'.set pj w).map setC := ⟨_, rfl⟩
    obtain ⟨Y2, hY2⟩ : ∃ X, X = (E'.set pj (ev || r2)).map boolC := ⟨_, rfl⟩
    have g8 := g8 (ev || r2)
    rw [← hY2] at g8
    rw [← hZ2] at g3
    clear g9 g10
    generalize F'.set pj w = F2 at hZ2 q1
    generalize E'.set pj (ev || r2) = E2 at hY2 q1
    cbv
    refine ⟨by rw [hib]; kernel_rfl, ?_⟩
    cbv
    repeat (first | (rw [hbox]; cbv) | (rw [g1]; cbv) | (rw [g2]; cbv) | (rw [g4]; cbv))
    rw [g3]; cbv
    refine ⟨by rw [hdk]; kernel_rfl, ?_⟩
    repeat (first | (rw [hbox]; cbv) | (rw [g6]; cbv) | (rw [g7]; cbv))
    cases ev
    · rw [Bool.false_or] at g8
      cbv
      repeat (first | (rw [g6]; cbv) | (rw [g8]; cbv))
      refine ⟨by rw [hib]; kernel_rfl, ?_⟩
      cbv
      rw [hadd]
      exact ⟨[0, 1, 2, 3, 4], [1, 2, 3, 4, 20, 21, 22], 23, U.left prods.length i2, hm2 ▸ q2, by simp, i2, E2, F2, true, Y2, Z2, q1, hY2, hZ2, rfl, cut_eq (by cbv) (hcr rfl hY2 hZ2 (by rfl) (by rfl) (by rfl) (by rfl) (by rfl) (by rfl) (by rfl))⟩
    · rw [Bool.true_or] at g8
      cbv
      repeat (first | (rw [g6]; cbv) | (rw [g8]; cbv))
      refine ⟨by rw [hib]; kernel_rfl, ?_⟩
      cbv
      rw [hadd]
      exact ⟨[0, 1, 2, 3, 4], [1, 2, 3, 4, 20, 21, 22], 23, U.left prods.length i2, hm2 ▸ q2, by simp, i2, E2, F2, true, Y2, Z2, q1, hY2, hZ2, rfl, cut_eq (by cbv) (hcr rfl hY2 hZ2 (by rfl) (by rfl) (by rfl) (by rfl) (by rfl) (by rfl) (by rfl))⟩
  cases r2
  · have q1 := g9 rfl
    cbv
    refine ⟨by rw [hib]; kernel_rfl, ?_⟩
    cbv
    rw [hadd]
    exact ⟨[0, 1, 2, 3, 4], [1, 2, 3, 4, 20, 21, 22], 23, U.left prods.length i2, hm2 ▸ q2, by simp, i2, E', F', more, Y, Z, q1, hY, hZ, rfl, cut_eq (by cbv) (hcr rfl hY hZ (by rfl) (by rfl) (by rfl) (by rfl) (by rfl) (by rfl) (by rfl))⟩
  cbv
  repeat (first | (rw [hbox]; cbv) | (rw [g6]; cbv) | (rw [g7]; cbv))
  cases ev
  rotate_left
  · have q1 := g9 rfl
    cbv
    refine ⟨by rw [hib]; kernel_rfl, ?_⟩
    cbv
    rw [hadd]
    exact ⟨[0, 1, 2, 3, 4], [1, 2, 3, 4, 20, 21, 22], 23, U.left prods.length i2, hm2 ▸ q2, by simp, i2, E', F', more, Y, Z, q1, hY, hZ, rfl, cut_eq (by cbv) (hcr rfl hY hZ (by rfl) (by rfl) (by rfl) (by rfl) (by rfl) (by rfl) (by rfl))⟩
  have q1 := g10 rfl
  obtain ⟨Z2, hZ2⟩ : ∃ X, X = (F'.set pj w).map setC := ⟨_, rfl⟩
  obtain ⟨Y2, hY2⟩ : ∃ X, X = (E'.set pj (false || true)).map boolC := ⟨_, rfl⟩
  have g8 : sto _ _ _ _ (.flat (.bool true)) = _ := g8 (false || true)
  rw [← hY2] at g8
  rw [← hZ2] at g3
  clear g9 g10
  generalize F'.set pj w = F2 at hZ2 q1
  generalize E'.set pj (false || true) = E2 at hY2 q1
  cbv
  refine ⟨by rw [hib]; kernel_rfl, ?_⟩
  cbv
  repeat (first | (rw [hbox]; cbv) | (rw [g1]; cbv) | (rw [g2]; cbv) | (rw [g4]; cbv))
  rw [g3]; cbv
  refine ⟨by rw [hdk]; kernel_rfl, ?_⟩
  repeat (first | (rw [hbox]; cbv) | (rw [g6]; cbv) | (rw [g7]; cbv))
  rw [g8]; cbv
  refine ⟨by rw [hib]; kernel_rfl, ?_⟩
  cbv
  rw [hadd]
  exact ⟨[0, 1, 2, 3, 4], [1, 2, 3, 4, 20, 21, 22], 23, U.left prods.length i2, hm2 ▸ q2, by simp, i2, E2, F2, true, Y2, Z2, q1, hY2, hZ2, rfl, cut_eq (by cbv) (hcr rfl hY2 hZ2 (by rfl) (by rfl) (by rfl) (by rfl) (by rfl) (by rfl) (by rfl))⟩
end Go.Proofs.Ythilmgpciiopnaa.F
