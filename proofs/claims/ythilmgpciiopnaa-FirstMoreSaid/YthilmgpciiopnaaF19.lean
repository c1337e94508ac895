/- Contracts: the law FirstMore. -/
import Derived.Test.YthilmgpciiopnaaF18
namespace Go.Proofs.Ythilmgpciiopnaa.F
open Go G U K
set_option linter.unusedVariables false
set_option linter.unusedSimpArgs false
set_option maxRecDepth 100000
set_option maxHeartbeats 4000000
theorem fn7 : Try.prog.funcs[7]? = some Try.f7 := by kernel_rfl
def NAt (n : Nat) (s : Int) : Prop := 0 ≤ s ∧ s ≤ n
theorem nAt_zero (n : Nat) : NAt n 0 := ⟨by omega, by omega⟩
theorem nAt_in {n : Nat} {s : Int} (h : NAt n s) (hc : decide (s < (n : Int)) = true) : okI n s := ⟨h.1, by simpa using hc⟩
theorem nAt_step {n : Nat} {s : Int} (hn : n ≤ 1000) (h : NAt n s) (hc : decide (s < (n : Int)) = true) : NAt n (s + 1) ∧ U.left n (s + 1) < U.left n s ∧ arI .add .i64 s 1 = s + 1 := by
  obtain ⟨h0, h1⟩ := h
  simp only [decide_eq_true_eq] at hc
  exact ⟨⟨by omega, by omega⟩, by unfold U.left; omega, ar_add64 (by omega) (by omega)⟩
theorem conv53 (a : Int) (h0 : 0 ≤ a) (h1 : a ≤ 255) : evP Try.prog (convert 5 3 (.int .u8 a)) = some (.flat (.int .i64 a)) := by
  have h : evP Try.prog (convert 5 3 (.int .u8 a)) = some (.flat (.int .i64 (IntKind.i64.wrap a))) := by kernel_rfl
  rw [h, IntKind.wrap_i64]
  congr 3
  omega
theorem remI (a b : Int) (h0 : 0 ≤ a) (hb : 0 < b) : dvOf Try.prog .rem 3 (.flat (.int .i64 a)) (.flat (.int .i64 b)) = some (.flat (.int .i64 (a % b))) := by
  rw [dvOf_eq]
  intro x y
  have e : evPure Try.prog (Op.intDiv .rem .i64 a b) = some (.int .i64 (a.tmod b)) := by
    unfold Op.intDiv
    rw [if_neg (by omega)]
    rfl
  have e2 : (evPure Try.prog (do eqGuard .rem 3 x y (.int .i64 a) (.int .i64 b); binOp .rem 3 (.int .i64 a) (.int .i64 b))) = some (.int .i64 (a.tmod b)) := e
  show evP Try.prog _ = _
  unfold evP
  rw [e2, Int.tmod_eq_emod_of_nonneg h0]
  rfl
theorem z61 : tinfo Try.prog 61 = some (some (.agg #[.int .i64 0, .string ⟨#[]⟩, .slice none 0 0, .bool false, .int .i64 0, .slice none 0 0]), 6, 88) := by kernel_rfl
theorem u45 : Try.prog.underlying 45 = some (.slice 61) := by kernel_rfl
theorem c61 : Try.prog.cellsOf 61 = 6 := by kernel_rfl
theorem slc_to (T : Table) (l : List ProdT) (k : Int) (h0 : 0 ≤ k) (h1 : k ≤ l.length) : evSlice Try.prog T 45 (.ro (l.map prodC)) none (some (.flat (.int .i64 k))) = some (.ro ((l.take k.toNat).map prodC)) := by
  have h : ∀ c ∈ l.map prodC, c.length = 6 := fun c hc => by obtain ⟨u, _, rfl⟩ := List.mem_map.1 hc; rfl
  simp only [evSlice, u45, z61, if_pos h]
  simp only [bndsA, hiA, loA, intOf, List.length_map, Option.bind_some, Option.map_some]
  rw [if_pos ⟨h0, h1⟩]
  simp [List.map_take]
theorem slc_from (T : Table) (l : List ProdT) (k : Int) (h0 : 0 ≤ k) (h1 : k ≤ l.length) : evSlice Try.prog T 45 (.ro (l.map prodC)) (some (.flat (.int .i64 k))) none = some (.ro ((l.drop k.toNat).map prodC)) := by
  have h : ∀ c ∈ l.map prodC, c.length = 6 := fun c hc => by obtain ⟨u, _, rfl⟩ := List.mem_map.1 hc; rfl
  simp only [evSlice, u45, z61, if_pos h]
  simp only [bndsA, hiA, loA, intOf, List.length_map, Option.bind_some, Option.map_some]
  rw [if_pos ⟨h0, h1⟩]
  simp [List.take_of_length_le, List.map_drop]
theorem app_many {T : Table} {id k0 n n' : Nat} {X Y Z : List (List AV)} (hT0 : T k0 = some ⟨61, X⟩) (hc : ∀ c ∈ Y, c.length = 6) (hn : n = X.length) (hn' : n' = n + Y.length) (hZ : Z = X ++ Y) (hle : n' ≤ 1000000) :
    evAppend Try.prog T id 45 45 (.sl k0 0 n) (.ro Y) = some (.sl id 0 n', (T.set k0 none).set id (some ⟨61, Z⟩)) := by
  have hm : (1000000 : Nat) ≤ maxLen := by decide
  subst hn' hZ hn
  simp only [evAppend, u45, z61, srcT, srcFit, srcEls, Option.bind_some, hT0]
  rw [if_pos ⟨by decide, by simp, by simp, rfl⟩, if_pos hc]
  have h1 : (X.length + Y.length) * 88 ≤ 140737488355328 := Nat.le_trans (Nat.mul_le_mul hle (Nat.le_refl 88)) (by decide)
  have h2 : X.length + Y.length ≤ maxLen := by omega
  simp [h1, h2]
theorem read_prod (l : List ProdT) : readRow (l.map prodC) := by
  intro c hc x hx
  obtain ⟨t, _, rfl⟩ := List.mem_map.1 hc
  simp only [prodC, List.mem_cons, List.not_mem_nil, or_false] at hx
  rcases hx with rfl | rfl | rfl | rfl | rfl | rfl <;> rfl
/-- Over the productions. -/
def MA (P : List ProdT) (n : Nat) (s : Int) (i : Int) (a : AS) : Prop := At P i ∧ a = (P.take i.toNat).foldl (accStep (emptyT P n) (firstT P n) s) ⟨0, false⟩ ∧ a.set < 18446744073709551616
theorem mA_zero (P : List ProdT) (n : Nat) (s : Int) : MA P n s 0 ⟨0, false⟩ := ⟨at_zero P, rfl, by decide⟩
theorem mA_next {P : List ProdT} {n : Nat} {s i : Int} {a : AS} (h : MA P n s i a) (hc : decide (i < (P.length : Int)) = true) : MA P n s (i + 1) (accStep (emptyT P n) (firstT P n) s a (atI P i)) := by
  obtain ⟨_, h0, h1⟩ := at_lt h.1 hc
  refine ⟨(at_step h.1 hc).1, by rw [fold_next _ _ h0 h1, ← h.2.1], ?_⟩
  unfold accStep
  split
  · exact or_lt h.2.2 (rowT_lt (first_ok P n).1.2 _)
  · exact h.2.2
theorem mA_end {P : List ProdT} {n : Nat} {s i : Int} {a : AS} (hs : okI n s) (h : MA P n s i a) (hc : decide (i < (P.length : Int)) = false) : a.set = atI (firstT P n) s ∧ a.em = atI (emptyT P n) s := by
  have := h.2.1
  rw [take_end h.1 hc] at this
  rw [this]
  exact acc_all hs
theorem but_facts {P : List ProdT} {a : Int} (h0 : 0 ≤ a) (hl : P.length ≤ 1000) (hne : ¬ (P.length : Int) = 0) : ∃ k : Int, a % (P.length : Int) = k ∧ 0 ≤ k ∧ k ≤ P.length ∧ arI .add .i64 k 1 = k + 1 ∧ 0 ≤ k + 1 ∧ k + 1 ≤ P.length ∧ butOne P k.toNat = P.take k.toNat ++ P.drop (k + 1).toNat ∧ (P.take k.toNat).length + (P.drop (k + 1).toNat).length ≤ 1000 := by
  have h1 := Int.emod_nonneg a hne
  have h2 := Int.emod_lt_of_pos a (show (0 : Int) < P.length by omega)
  refine ⟨_, rfl, h1, by omega, ar_add64 (by omega) (by omega), by omega, by omega, ?_, ?_⟩
  · unfold butOne
    rw [show (a % (P.length : Int) + 1).toNat = (a % (P.length : Int)).toNat + 1 by omega]
  · rw [List.length_take, List.length_drop]; omega
theorem firstMore_calls (g : GramT) (at' : Int) (ha0 : 0 ≤ at') (ha1 : at' ≤ 255) : ACalls Try.prog 7 [gramV g, .flat (.int .u8 at')] (fun _ => .flat (.bool true)) (fun _ => []) := by
  refine acalls_symF tabF_ok fn7 rfl rfl rfl (by kernel_rfl) ?_
  have hfin : ∀ st, resA Try.prog Try.f7 st = some (.flat (.bool true)) → G.Leaves Try.prog Try.f7 (fun _ => .flat (.bool true)) (fun _ => []) st := fun st h => G.Leaves.plain h rfl
  have hcA := awake_calls
  have hcF := fewG_calls g
  have hfew := @few_1000 g
  have hcO := of_calls g
  generalize hf0 : fewG g = fw at hcF hfew
  obtain ⟨rules, sorts, prods, levels, start⟩ := g
  unfold gramV gramL at *
  dsimp only at *
  have hcO2 := fun (k : Nat) => of_calls ⟨rules, sorts, butOne prods k, levels, start⟩
  unfold gramV gramL at hcO2
  dsimp only at hcO2
  obtain ⟨R, hR⟩ : ∃ X, X = rules.map ruleC := ⟨_, rfl⟩
  obtain ⟨S, hSS⟩ : ∃ X, X = sorts.map strC := ⟨_, rfl⟩
  obtain ⟨D, hD⟩ : ∃ X, X = prods.map prodC := ⟨_, rfl⟩
  obtain ⟨V, hV⟩ : ∃ X, X = levels.map levC := ⟨_, rfl⟩
  rw [← hR, ← hSS, ← hD, ← hV] at hcO hcF ⊢
  rw [← hR, ← hSS, ← hV] at hcO2
  have hlS : lenE S = sorts.length := by rw [hSS, len_map]
  generalize sorts.length = n at *
  obtain ⟨hEo, hEc⟩ := empty_ok prods n
  obtain ⟨hFo, hFc⟩ := first_ok prods n
  have hcRow := fun (l : List SymT) (hl : l.length ≤ 1000) => row_calls (emptyT prods n) (firstT prods n) l hFo.2 (Nat.le_trans hl (by decide))
  obtain ⟨EE, hEE⟩ : ∃ X, X = (emptyT prods n).map boolC := ⟨_, rfl⟩
  obtain ⟨FF, hFF⟩ : ∃ X, X = (firstT prods n).map setC := ⟨_, rfl⟩
  have hEf : flatRow EE := by rw [hEE]; exact flat_bool _
  have hFf : flatRow FF := by rw [hFF]; exact flat_set _
  have hEn : n = EE.length := by rw [hEE, List.length_map, hEo.1]
  have hFn : n = FF.length := by rw [hFF, List.length_map, hFo.1.1]
  rw [← hEE, ← hFF] at hcO hcRow
  have hcS2 := fun (k : Nat) => (⟨(empty_ok (butOne prods k) n).1.1, (first_ok (butOne prods k) n).1.1.1⟩ : _ ∧ _)
  rintro ⟨lt, le, eq, se, ar, dv, una, conv, len, sln, nat, nth, ixs, cel, sto, app, cpy, slc, mak, ixv, oth, dk, ib, call⟩ hS hm Q hQ
  obtain ⟨hlt, hle, heq, hse, har, hdv, huna, hconv, hlen, hsln, hnat, hnth, hixs, hcel, hsto, happ, hcpy, hslc, hmak, hixv, hoth, hdk, hib, hcall⟩ := Sym.mk.inj hS
  clear hS
  have hbox : ∀ e c off, cel (some ⟨e, [c]⟩) 0 off = if off ≤ c.length then some (c.drop off) else none := fun e c off => by rw [hcel]; rfl
  have hsbox : ∀ e c off sz y, sto (some ⟨e, [c]⟩) 0 off sz y = if y.cells.length = sz ∧ off + sz ≤ c.length ∧ y.cells.all AV.one = true then some ⟨e, [spl c off y.cells]⟩ else none := fun e c off sz y => by rw [hsto]; rfl
  have hcal : ∀ {f args T base K}, CallK Try.prog f args T base K → call f args T base K := fun h => by rw [hcall]; exact h
  have hnS : len S = nat n := by rw [hlen, hnat]; exact hlS
  have hnD : len D = prods.length := by rw [hlen, hD, len_map]
  have heqr : ∀ a, eq a a = true := fun a => by rw [heq]; exact decide_eq_true rfl
  have hdvb : ∀ v, dv .neq 4 (.flat (.bool v)) (.flat (.bool v)) = some (.flat (.bool false)) := fun v => by rw [hdv]; exact dvb v
  have hlk : ∀ s, lt s (len S) = decide (s < (n : Int)) := fun s => by rw [hlt, hnS, hnat]
  have hcv : ∀ T, conv T 5 3 (.flat (.int .u8 at')) = some (.flat (.int .i64 at')) := fun T => by rw [hconv]; exact conv53 at' ha0 ha1
  have hmore : ¬ (prods.length : Int) = 0 → prods.length ≤ 1000 → n ≤ 1000 → (∀ p ∈ prods, p.body.length ≤ 1000) → ∃ (k kp : Int) (kn n1 n2 : Nat) (X1 X2 X3 : List (List AV)), dv .rem 3 (.flat (.int .i64 at')) (.flat (.int .i64 (len D))) = some (.flat (.int .i64 k)) ∧ ar .add .i64 k 1 = kp ∧
      (∀ T, slc T 45 (.ro D) none (some (.flat (.int .i64 k))) = some (.ro X1)) ∧ (∀ T, slc T 45 (.ro D) (some (.flat (.int .i64 kp))) none = some (.ro X2)) ∧
      (∀ (T : Table) (id k0 : Nat), T k0 = some ⟨61, []⟩ → app T id 45 45 (.sl k0 0 0) (.ro X1) = some (.sl id 0 n1, (T.set k0 none).set id (some ⟨61, X1⟩))) ∧
      (∀ (T : Table) (id k0 : Nat), T k0 = some ⟨61, X1⟩ → app T id 45 45 (.sl k0 0 n1) (.ro X2) = some (.sl id 0 n2, (T.set k0 none).set id (some ⟨61, X3⟩))) ∧ n2 = X3.length ∧ readRow X3 ∧
      ACalls Try.prog 28 [.agg [.ro R, .ro S, .ro X3, .ro V, .flat (.int .i64 start)]] (fun k => .agg [.sl k 0 n, .sl (k + 1) 0 n]) (fun _ => [⟨4, (emptyT (butOne prods kn) n).map boolC⟩, ⟨22, (firstT (butOne prods kn) n).map setC⟩]) := fun h1 h2 h3 h4 => by
    obtain ⟨k, k1, k2, k3, k4, k5, k6, k7, k8⟩ := but_facts (P := prods) ha0 h2 h1
    have hlen6 : ∀ (l : List ProdT), ∀ c ∈ l.map prodC, c.length = 6 := fun l c hc => by obtain ⟨u, _, rfl⟩ := List.mem_map.1 hc; rfl
    refine ⟨k, k + 1, k.toNat, _, _, (prods.take k.toNat).map prodC, (prods.drop (k + 1).toNat).map prodC, (butOne prods k.toNat).map prodC, ?_, by rw [har]; exact k4, fun T => by rw [hslc, hD]; exact slc_to T prods k k2 k3, fun T => by rw [hslc, hD]; exact slc_from T prods (k + 1) k5 k6, fun T id k0 hT => by rw [happ]; exact app_many hT (hlen6 _) rfl rfl rfl (by simp only [List.length_map]; omega), fun T id k0 hT => by rw [happ]; exact app_many hT (hlen6 _) (by simp) rfl (by rw [k7, List.map_append]) (by simp only [List.length_map]; omega), by rw [k7]; simp, read_prod _, ?_⟩
    · rw [hdv, hnD, ← k1]
      exact remI _ _ ha0 (by omega)
    · refine hcO2 k.toNat h3 ?_ fun p hp => h4 p (butOne_sub _ p hp)
      rw [k7, List.length_append]
      omega
  have hcr : ∀ {ks l : List Nat} {a b c d : Nat} {Tt : Table} {RR : List (Option Row)}, Tt a = some ⟨48, [[.ro R, .ro S, .ro D, .ro V, .flat (.int .i64 start)]]⟩ →
      Tt b = some ⟨53, [[.sl c 0 n, .sl d 0 n]]⟩ → Tt c = some ⟨4, EE⟩ → Tt d = some ⟨22, FF⟩ → closedEls ks [[.sl c 0 n, .sl d 0 n]] = true → renEls (newName ks 0) [[.sl c 0 n, .sl d 0 n]] = [[.sl 2 0 n, .sl 3 0 n]] → cutRows ks Tt l = RR → cutRows ks Tt (a :: b :: c :: d :: l) = some ⟨48, [[.ro R, .ro S, .ro D, .ro V, .flat (.int .i64 start)]]⟩ :: some ⟨53, [[.sl 2 0 n, .sl 3 0 n]]⟩ :: some ⟨4, EE⟩ :: some ⟨22, FF⟩ :: RR :=
    fun h1 h2 h3 h4 h6 h7 h8 => cutRows_cons h1 (by simp [closedAll, closedIn]) (cutRows_any h2 h6 h7 (cutRows_cons h3 (closed_bool hEE) (cutRows_cons h4 (closed_set hFF) h8)))
  have hD0 : eq (len D) 0 = decide ((prods.length : Int) = 0) := by rw [heq, hnD]
  cbv
  refine hcal ⟨_, [], _, _, .inl ⟨rfl, by cbv⟩, hcA, by simp, ?_⟩
  cbv
  repeat (first | (rw [hbox]; cbv))
  refine hcal ⟨_, [], _, _, .inl ⟨rfl, by cbv⟩, hcF, by simp, ?_⟩
  cbv
  cases fw
  · cbv
    exact hQ _ _ trivial (hfin _ (by cbv))
  obtain ⟨f1, f2, f3⟩ := hfew rfl
  replace hcO := hcO f1 f2 f3
  cbv
  repeat (first | (rw [hbox]; cbv))
  cases hd0 : eq (len D) 0
  rotate_left
  · cbv
    exact hQ _ _ trivial (hfin _ (by cbv))
  cbv
  repeat (first | (rw [hbox]; cbv))
  refine hcal ⟨_, [], _, _, .inl ⟨rfl, by cbv⟩, hcO, by simp, ?_⟩
  cbv
  rw [hsbox]; cbv
  repeat (first | (rw [hbox]; cbv) | (rw [hnS, heqr]; cbv))
  refine MW_loop hm [0, 120, 112, 113] [1, 2, 5, 6] 7 (by simp) (fun m st => ∃ s : Int, NAt n s ∧ m = U.left n s ∧ st = stOf [.dead, .flat (.int .u8 at'), .ptr 0 0 0, .dead, .dead, .ptr 1 0 0, .flat (.int .i64 s)] [some ⟨48, [[.ro R, .ro S, .ro D, .ro V, .flat (.int .i64 start)]]⟩, some ⟨53, [[.sl 2 0 n, .sl 3 0 n]]⟩, some ⟨4, EE⟩, some ⟨22, FF⟩] 4) (U.left n 0) ?_ ?_
  · exact ⟨0, nAt_zero n, rfl, cut_eq (by cbv) (hcr (by rfl) (by rfl) (by rfl) (by rfl) (by rfl) (by rfl) rfl)⟩
  rintro m st ⟨s, hs, hm1, rfl⟩
  cases hc : lt s (len S)
  rotate_left
  · have hc' := (hlk s).symm.trans hc
    obtain ⟨s1, s2, s3⟩ := nAt_step f1 hs hc'
    have hok := nAt_in hs hc'
    rw [← har] at s3
    obtain ⟨a1, a2, _⟩ := own_set hFF hFo.1.1 hok
    obtain ⟨b1, b2, _⟩ := own_bool hEE hEo.1 hok
    obtain ⟨fx, hfx⟩ : ∃ x : Int, x = ((atI (firstT prods n) s : Nat) : Int) := ⟨_, rfl⟩
    obtain ⟨ev, hev⟩ : ∃ x, x = atI (emptyT prods n) s := ⟨_, rfl⟩
    have hend : ∀ (i ax : Int) (a : Nat) (em : Bool), MA prods n s i ⟨a, em⟩ → ax = (a : Int) → decide (i < (prods.length : Int)) = false → ax = fx ∧ em = ev := fun i ax a em h h2 h3 => by
      obtain ⟨e1, e2⟩ := mA_end hok h h3
      dsimp only at e1 e2
      exact ⟨by rw [h2, hfx, e1], by rw [hev, e2]⟩
    rw [← hfx] at a2
    rw [← hev] at b2
    rw [← hixs] at a1 b1
    rw [← hcel] at a2 b2
    have hA0 := mA_zero prods n s
    generalize s.toNat = sj at a1 a2 b1 b2
    generalize s + 1 = s' at s1 s2 s3
    cbv
    repeat (first | (rw [hbox]; cbv) | (rw [hc]; cbv))
    refine MW_loop hm [0, 1, 2, 3] [1, 2, 5, 6, 7, 8, 9] 10 (by simp) (fun m st => ∃ (i ax : Int) (a : Nat) (em : Bool), MA prods n s i ⟨a, em⟩ ∧ ax = (a : Int) ∧ m = U.left prods.length i ∧ st = stOf [.dead, .flat (.int .u8 at'), .ptr 0 0 0, .dead, .dead, .ptr 1 0 0, .flat (.int .i64 s), .flat (.int .u64 ax), .flat (.bool em), .flat (.int .i64 i)] [some ⟨48, [[.ro R, .ro S, .ro D, .ro V, .flat (.int .i64 start)]]⟩, some ⟨53, [[.sl 2 0 n, .sl 3 0 n]]⟩, some ⟨4, EE⟩, some ⟨22, FF⟩] 4) (U.left prods.length 0) ?_ ?_
    · exact ⟨0, 0, 0, false, hA0, rfl, rfl, cut_eq (by cbv) (hcr (by rfl) (by rfl) (by rfl) (by rfl) (by rfl) (by rfl) rfl)⟩
    rintro m2 st ⟨i, ax, a, em, hi, hax, hm2, rfl⟩
    cases hc2 : lt i (len D)
    · have hc2' : decide (i < (prods.length : Int)) = false := by rw [hlt, hnD] at hc2; exact hc2
      obtain ⟨rfl, rfl⟩ := hend i _ _ _ hi hax hc2'
      cbv
      repeat (first | (rw [hbox]; cbv) | (rw [hc2]; cbv) | (rw [a1]; cbv) | (rw [a2]; cbv) | (rw [heqr]; cbv) | (rw [b1]; cbv) | (rw [b2]; cbv) | (rw [hdvb]; cbv))
      rw [s3]
      exact ⟨[0, 1, 2, 3], [1, 2, 5, 6], 7, U.left n s', hm1 ▸ s2, by simp, s', s1, rfl, cut_eq (by cbv) (hcr (by rfl) (by rfl) (by rfl) (by rfl) (by rfl) (by rfl) rfl)⟩
    have hc2' : decide (i < (prods.length : Int)) = true := by rw [hlt, hnD] at hc2; exact hc2
    obtain ⟨_, i0, i1⟩ := at_lt hi.1 hc2'
    have q2 := (at_step hi.1 hc2').2
    have hadd : ar .add .i64 i 1 = i + 1 := by rw [har]; exact at_add (Nat.le_trans f2 (by decide)) hi.1 hc2'
    have hix : nth D i 6 = some (.rp (prodC (atI prods i))) := by rw [hnth, hD]; exact nth_map (fun _ => rfl) i0 i1
    have hnx := mA_next hi hc2'
    have hrow := hcRow (atI prods i).body (f3 _ (at_mem i0 i1))
    have hor := or_calls a (rowT (emptyT prods n) (firstT prods n) (atI prods i).body).1 hi.2.2 (rowT_lt hFo.2 _)
    generalize atI prods i = p at hix hnx hrow hor
    obtain ⟨ps, pc, pb, pp, pe, ph⟩ := p
    obtain ⟨B, hB⟩ : ∃ X, X = pb.map symC := ⟨_, rfl⟩
    obtain ⟨H, hH⟩ : ∃ X, X = ph.map intC := ⟨_, rfl⟩
    unfold prodC at hix
    unfold uV at hrow hor
    dsimp only at hix hrow hor
    rw [← hB, ← hH] at hix
    rw [← hB] at hrow
    have hno : ps ≠ s → MA prods n s (i + 1) ⟨a, em⟩ := fun h => by
      have h2 := hnx
      unfold accStep at h2
      rw [if_neg h] at h2
      exact h2
    have hyes : ps = s → MA prods n s (i + 1) ⟨a ||| (rowT (emptyT prods n) (firstT prods n) pb).1, em || (rowT (emptyT prods n) (firstT prods n) pb).2⟩ := fun h => by
      have h2 := hnx
      unfold accStep at h2
      rw [if_pos h] at h2
      exact h2
    clear hnx
    generalize (rowT (emptyT prods n) (firstT prods n) pb).2 = r2 at hrow hyes
    generalize (rowT (emptyT prods n) (firstT prods n) pb).1 = r1 at hrow hyes hor
    obtain ⟨rx, hrx⟩ : ∃ x : Int, x = (r1 : Int) := ⟨_, rfl⟩
    obtain ⟨ox, hox⟩ : ∃ x : Int, x = ((a ||| r1 : Nat) : Int) := ⟨_, rfl⟩
    rw [← hrx] at hrow hor
    rw [← hax, ← hox] at hor
    generalize i + 1 = i2 at q2 hadd hno hyes
    cbv
    repeat (first | (rw [hbox]; cbv) | (rw [hc2]; cbv) | (rw [hix]; cbv))
    cases e1 : eq ps s
    · have q1 := hno (by rw [heq] at e1; exact of_decide_eq_false e1)
      cbv
      rw [hadd]
      exact ⟨[0, 1, 2, 3], [1, 2, 5, 6, 7, 8, 9], 10, U.left prods.length i2, hm2 ▸ q2, by simp, i2, ax, a, em, q1, hax, rfl, cut_eq (by cbv) (hcr (by rfl) (by rfl) (by rfl) (by rfl) (by rfl) (by rfl) rfl)⟩
    have q1 := hyes (by rw [heq] at e1; exact of_decide_eq_true e1)
    cbv
    refine ⟨by rw [hdk]; kernel_rfl, ?_⟩
    repeat (first | (rw [hbox]; cbv) | (rw [hix]; cbv))
    refine hcal ⟨[.agg [.ro EE, .ro FF], .ro B], [2, 3], _, _, hands_deep ⟨deep_agg ⟨deep_row (by simp) (by rfl) hEn hEf.read, deep_row (by simp) (by rfl) hFn hFf.read, trivial⟩, .id rfl, trivial⟩ rfl (fun r hr => by cases hr), hrow, by simp, ?_⟩
    cbv
    refine ⟨by rw [hib]; kernel_rfl, ?_⟩
    cbv
    refine hcal ⟨_, [], _, _, .inl ⟨rfl, by cbv⟩, hor, by simp, ?_⟩
    cbv
    cases em
    · rw [Bool.false_or] at q1
      cbv
      rw [hadd]
      exact ⟨[0, 1, 2, 3], [1, 2, 5, 6, 7, 8, 9], 10, U.left prods.length i2, hm2 ▸ q2, by simp, i2, ox, _, _, q1, hox, rfl, cut_eq (by cbv) (hcr (by rfl) (by rfl) (by rfl) (by rfl) (by rfl) (by rfl) rfl)⟩
    · rw [Bool.true_or] at q1
      cbv
      rw [hadd]
      exact ⟨[0, 1, 2, 3], [1, 2, 5, 6, 7, 8, 9], 10, U.left prods.length i2, hm2 ▸ q2, by simp, i2, ox, _, _, q1, hox, rfl, cut_eq (by cbv) (hcr (by rfl) (by rfl) (by rfl) (by rfl) (by rfl) (by rfl) rfl)⟩
  · obtain ⟨k, kp, kn, n1, n2, X1, X2, X3, m1, m2, m3, m4, m5, m6, m7, m8, hcL⟩ := hmore (of_decide_eq_false (hD0.symm.trans hd0)) f2 f1 f3
    obtain ⟨hEo2, hEc2⟩ := empty_ok (butOne prods kn) n
    obtain ⟨hFo2, hFc2⟩ := first_ok (butOne prods kn) n
    have hlessF := fun (s : Int) (hs : okI n s) => less_first (n := n) (P := prods) (butOne_sub kn) hs
    have hlessE := fun (s : Int) (hs : okI n s) => less_empty (n := n) (P := prods) (butOne_sub kn) hs
    obtain ⟨EE2, hEE2⟩ : ∃ X, X = (emptyT (butOne prods kn) n).map boolC := ⟨_, rfl⟩
    obtain ⟨FF2, hFF2⟩ : ∃ X, X = (firstT (butOne prods kn) n).map setC := ⟨_, rfl⟩
    have hEf2 : flatRow EE2 := by rw [hEE2]; exact flat_bool _
    have hFf2 : flatRow FF2 := by rw [hFF2]; exact flat_set _
    rw [← hEE2, ← hFF2] at hcL
    have hcr2 : ∀ {ks : List Nat} {a b c d e f h : Nat} {Tt : Table}, ks = [a, b, c, d, e, f, h] → Tt a = some ⟨48, [[.ro R, .ro S, .ro D, .ro V, .flat (.int .i64 start)]]⟩ →
        Tt b = some ⟨53, [[.sl c 0 n, .sl d 0 n]]⟩ → Tt c = some ⟨4, EE⟩ → Tt d = some ⟨22, FF⟩ → closedEls ks [[.sl c 0 n, .sl d 0 n]] = true → renEls (newName ks 0) [[.sl c 0 n, .sl d 0 n]] = [[.sl 2 0 n, .sl 3 0 n]] →
        Tt e = some ⟨53, [[.sl f 0 n, .sl h 0 n]]⟩ → Tt f = some ⟨4, EE2⟩ → Tt h = some ⟨22, FF2⟩ → closedEls ks [[.sl f 0 n, .sl h 0 n]] = true → renEls (newName ks 0) [[.sl f 0 n, .sl h 0 n]] = [[.sl 5 0 n, .sl 6 0 n]] → cutRows ks Tt [a, b, c, d, e, f, h] = [some ⟨48, [[.ro R, .ro S, .ro D, .ro V, .flat (.int .i64 start)]]⟩, some ⟨53, [[.sl 2 0 n, .sl 3 0 n]]⟩, some ⟨4, EE⟩, some ⟨22, FF⟩, some ⟨53, [[.sl 5 0 n, .sl 6 0 n]]⟩, some ⟨4, EE2⟩, some ⟨22, FF2⟩] :=
      fun hk h1 h2 h3 h4 h5 h6 g1 g2 g3 g4 g5 => hcr h1 h2 h3 h4 h5 h6 (cutRows_any g1 g4 g5 (cutRows_cons g2 (closed_bool hEE2) (cutRows_cons g3 (closed_set hFF2) rfl)))
    cbv
    repeat (first | (rw [hbox]; cbv) | (rw [hc]; cbv))
    refine ⟨by rw [hdk]; kernel_rfl, ?_⟩
    repeat (first | (rw [hbox]; cbv) | (rw [hcv]; cbv) | (rw [m1]; cbv) | (rw [hsbox]; cbv))
    refine ⟨by rw [hib]; kernel_rfl, ?_⟩
    cbv
    refine ⟨by rw [hdk]; kernel_rfl, ?_⟩
    repeat (first | (rw [hbox]; cbv) | (rw [m3]; cbv))
    rw [m5 _ _ _ (by rfl)]; cbv
    repeat (first | (rw [hbox]; cbv) | (rw [m2]; cbv) | (rw [m4]; cbv))
    rw [m6 _ _ _ (by rfl)]; cbv
    repeat (first | (rw [hsbox]; cbv))
    refine ⟨by rw [hib]; kernel_rfl, ?_⟩
    cbv
    repeat (first | (rw [hbox]; cbv))
    refine hcal ⟨[.agg [.ro R, .ro S, .ro X3, .ro V, .flat (.int .i64 start)]], [212], _, _, hands_deep ⟨deep_agg ⟨.id rfl, .id rfl, deep_row (by simp) (by rfl) m7 m8, .id rfl, .id rfl, trivial⟩, trivial⟩ rfl (noRo_flat2 hEf2 hFf2), hcL, by simp, ?_⟩
    cbv
    repeat (first | (rw [hsbox]; cbv))
    refine MW_loop hm [0, 1, 2, 3, 252, 244, 245] [2, 5, 14, 15] 16 (by simp) (fun m st => ∃ s : Int, NAt n s ∧ m = U.left n s ∧ st = stOf [.dead, .dead, .ptr 0 0 0, .dead, .dead, .ptr 1 0 0, .dead, .dead, .dead, .dead, .dead, .dead, .dead, .dead, .ptr 4 0 0, .flat (.int .i64 s)] [some ⟨48, [[.ro R, .ro S, .ro D, .ro V, .flat (.int .i64 start)]]⟩, some ⟨53, [[.sl 2 0 n, .sl 3 0 n]]⟩, some ⟨4, EE⟩, some ⟨22, FF⟩, some ⟨53, [[.sl 5 0 n, .sl 6 0 n]]⟩, some ⟨4, EE2⟩, some ⟨22, FF2⟩] 7) (U.left n 0) ?_ ?_
    · exact ⟨0, nAt_zero n, rfl, cut_eq (by cbv) (hcr2 rfl (by rfl) (by rfl) (by rfl) (by rfl) (by rfl) (by rfl) (by rfl) (by rfl) (by rfl) (by rfl) (by rfl))⟩
    rintro m st ⟨s, hs, hm1, rfl⟩
    cases hc4 : lt s (len S)
    · cbv
      repeat (first | (rw [hbox]; cbv) | (rw [hc4]; cbv) | (rw [heqr]; cbv))
      exact hQ _ _ trivial (hfin _ (by cbv))
    have hc' := (hlk s).symm.trans hc4
    obtain ⟨s1, s2, s3⟩ := nAt_step f1 hs hc'
    have hok := nAt_in hs hc'
    rw [← har] at s3
    obtain ⟨a1, a2, _⟩ := own_set hFF hFo.1.1 hok
    obtain ⟨b1, b2, _⟩ := own_bool hEE hEo.1 hok
    obtain ⟨d1, d2, _⟩ := own_set hFF2 hFo2.1.1 hok
    obtain ⟨e1, e2, _⟩ := own_bool hEE2 hEo2.1 hok
    rw [← hixs] at a1 b1 d1 e1
    rw [← hcel] at a2 b2 d2 e2
    have hor := or_calls (atI (firstT (butOne prods kn) n) s) (atI (firstT prods n) s) (sets_at hFo2.2 hok.1 (by rw [hFo2.1.1]; exact hok.2)) (sets_at hFo.2 hok.1 (by rw [hFo.1.1]; exact hok.2))
    rw [hlessF s hok] at hor
    unfold uV at hor
    have hle2 := hlessE s hok
    generalize s.toNat = sj at a1 a2 b1 b2 d1 d2 e1 e2
    generalize ((atI (firstT prods n) s : Nat) : Int) = fx at a2 hor
    generalize ((atI (firstT (butOne prods kn) n) s : Nat) : Int) = gx at d2 hor
    generalize atI (emptyT prods n) s = ev at b2 hle2
    generalize atI (emptyT (butOne prods kn) n) s = ev2 at e2 hle2
    generalize s + 1 = s' at s1 s2 s3
    cbv
    repeat (first | (rw [hbox]; cbv) | (rw [hc4]; cbv) | (rw [heqr]; cbv))
    refine ⟨by rw [hdk]; kernel_rfl, ?_⟩
    repeat (first | (rw [hbox]; cbv) | (rw [d1]; cbv) | (rw [d2]; cbv) | (rw [a1]; cbv) | (rw [a2]; cbv))
    refine hcal ⟨_, [], _, _, .inl ⟨rfl, by cbv⟩, hor, by simp, ?_⟩
    cbv
    repeat (first | (rw [hbox]; cbv) | (rw [a1]; cbv) | (rw [a2]; cbv) | (rw [heqr]; cbv) | (rw [e1]; cbv) | (rw [e2]; cbv))
    cases ev2
    · cbv
      refine ⟨by rw [hib]; kernel_rfl, ?_⟩
      cbv
      rw [s3]
      exact ⟨[0, 1, 2, 3, 4, 5, 6], [2, 5, 14, 15], 16, U.left n s', hm1 ▸ s2, by simp, s', s1, rfl, cut_eq (by cbv) (hcr2 rfl (by rfl) (by rfl) (by rfl) (by rfl) (by rfl) (by rfl) (by rfl) (by rfl) (by rfl) (by rfl) (by rfl))⟩
    · obtain rfl := hle2 rfl
      cbv
      repeat (first | (rw [hbox]; cbv) | (rw [b1]; cbv) | (rw [b2]; cbv))
      refine ⟨by rw [hib]; kernel_rfl, ?_⟩
      cbv
      rw [s3]
      exact ⟨[0, 1, 2, 3, 4, 5, 6], [2, 5, 14, 15], 16, U.left n s', hm1 ▸ s2, by simp, s', s1, rfl, cut_eq (by cbv) (hcr2 rfl (by rfl) (by rfl) (by rfl) (by rfl) (by rfl) (by rfl) (by rfl) (by rfl) (by rfl) (by rfl) (by rfl))⟩
end Go.Proofs.Ythilmgpciiopnaa.F
