/- The law DocMakes: its contract. -/
import Derived.Test.YtagflbmonlaioaaD4
namespace Go.Proofs.Ytagflbmonlaioaa.D
open Go G U K
set_option linter.unusedVariables false
set_option linter.unusedSimpArgs false
set_option maxRecDepth 100000
set_option maxHeartbeats 4000000
theorem fn3 : Try.prog.funcs[3]? = some Try.f3 := by kernel_rfl
theorem app_docs (T : Table) {id k0 n n2 : Nat} {a b : DocT} {X R Y : List (List AV)} (hX : X = a.map partC) (hR : R = b.map partC) (hY : Y = (a ++ b).map partC) (hn : n = a.length) (hn2 : n2 = n + b.length) (hb : n2 ≤ 100000000) (hT : T k0 = some ⟨27, X⟩) :
    evAppend Try.prog T id 23 23 (.sl k0 0 n) (.ro R) = some (.sl id 0 n2, (T.set k0 none).set id (some ⟨27, Y⟩)) :=
  app_ro u23 u23 z27 (by decide) rfl (by decide) hT (len3 hR) (by rw [hX, List.length_map, hn]; exact Nat.le_refl _) (by rw [hR, List.length_map]; exact hn2) (by rw [hY, hX, hR, List.map_append, hn, ← List.map_take, List.take_length]) hb
theorem tip_docs (T : Table) {id k0 k n n2 : Nat} {a : DocT} {p : PartT} {X Y : List (List AV)} {c : List AV} (hX : X = a.map partC) (hY : Y = (a ++ [p]).map partC) (hc : c = partC p) (hn : n = a.length) (hn2 : n2 = n + 1) (hb : n2 ≤ 100000000) (hT : T k0 = some ⟨27, X⟩) (hk : T k = some ⟨27, [c]⟩) (hne : k ≠ k0) :
    evAppend Try.prog T id 23 23 (.sl k0 0 n) (.sl k 0 1) = some (.sl id 0 n2, (T.set k0 none).set id (some ⟨27, Y⟩)) :=
  app_tip u23 z27 c27 (by decide) rfl (by decide) hT hk hne (by rw [hc]; rfl) (by rw [hX, List.length_map, hn]; exact Nat.le_refl _) hn2 (by rw [hY, hX, hc, List.map_append, hn, ← List.map_take, List.take_length]; rfl) hb
theorem sl_docs (T : Table) {id k0 k n m n2 : Nat} {a b : DocT} {X R Y : List (List AV)} (hX : X = a.map partC) (hR : R = b.map partC) (hY : Y = (a ++ b).map partC) (hn : n = a.length) (hm : m = b.length) (hn2 : n2 = n + m) (hb : n2 ≤ 100000000) (hT : T k0 = some ⟨27, X⟩) (hk : T k = some ⟨27, R⟩) (hne : k ≠ k0) :
    evAppend Try.prog T id 23 23 (.sl k0 0 n) (.sl k 0 m) = some (.sl id 0 n2, (T.set k0 none).set id (some ⟨27, Y⟩)) :=
  app_sl u23 u23 z27 c27 (by decide) rfl (by decide) hT hk hne (len3 hR) (by rw [hX, List.length_map, hn]; exact Nat.le_refl _) (by rw [hR, List.length_map, hm]; exact Nat.le_refl _) hn2 (by rw [hY, hX, hR, List.map_append, hn, hm, ← List.map_take, ← List.map_take, List.take_length, List.take_length]) hb
/-! ### What may be, put together -/
theorem chk_append (b : DocT) : ∀ (a : DocT) (n : Int), chk (a ++ b) n = (chk a n).bind (chk b)
  | [], n => rfl
  | p :: a, n => by
    simp only [List.cons_append, chk]
    split
    · rfl
    · exact chk_append b a _
theorem chk_more {k : Int} (hk : 0 ≤ k) : ∀ (d : DocT) (n m : Int), chk d n = some m → chk d (n + k) = some (m + k)
  | [], n, m, h => by simp only [chk, Option.some.injEq] at h ⊢; omega
  | p :: d, n, m, h => by
    simp only [chk] at h ⊢
    split at h
    · cases h
    · rename_i hc
      simp only [Bool.or_eq_true, Bool.not_eq_true', decide_eq_true_eq, not_or, Bool.not_eq_false] at hc
      rw [if_neg]
      · have := chk_more hk d _ m h
        rw [← this]; congr 1; omega
      · simp only [Bool.or_eq_true, Bool.not_eq_true', decide_eq_true_eq, not_or, Bool.not_eq_false]
        exact ⟨hc.1, by omega⟩
theorem check_ok {d : DocT} (hs : d.length ≤ 20000) : checkD d = 0 ↔ chk d 0 = some 1 := by
  unfold checkD
  rw [if_neg (by omega)]
  cases chk d 0 with
  | none => simp
  | some n =>
    simp only [Option.some.injEq]
    by_cases h : n = 1 <;> simp [h]
theorem ok4 : partOk (partK 4 0) = true := by decide +kernel
theorem ok6 : partOk (partK 6 0) = true := by decide +kernel
theorem ok5 (n : Int) : partOk (partK 5 n) = (decide (0 ≤ n) && decide (n ≤ 100)) := by
  have h1 : takes (partK 5 n).kind = 1 := by show takes 5 = 1; decide
  have h2 : noText (partK 5 n).text = true := by show noText ⟨#[]⟩ = true; decide +kernel
  unfold partOk
  rw [h1, h2]
  rfl
theorem cat_ok {a b : DocT} {n m k : Int} (ha : chk a n = some m) (hb : chk b m = some k) (h2 : 2 ≤ k) : chk (a ++ b ++ [partK 4 0]) n = some (k - 1) := by
  rw [chk_append, chk_append, ha]
  simp only [Option.bind_some, hb, chk, ok4]
  rw [if_neg (by simp [partK, takes]; omega)]
  simp [partK, takes]; omega
theorem cat3_ok {a b : DocT} (ha : chk a 0 = some 1) (hb : chk b 0 = some 1) : chk (((a ++ b) ++ [partK 4 0]) ++ a ++ [partK 4 0]) 0 = some 1 := by
  have h1 : chk ((a ++ b) ++ [partK 4 0]) 0 = some 1 := cat_ok ha (by simpa using chk_more (k := 1) (by decide) b 0 1 hb) (by decide)
  exact cat_ok h1 (by simpa using chk_more (k := 1) (by decide) a 0 1 ha) (by decide)
theorem group_ok {a : DocT} (ha : chk a 0 = some 1) : chk (groupD a) 0 = some 1 := by
  unfold groupD
  rw [chk_append, ha]
  simp only [Option.bind_some, chk, ok6]
  rw [if_neg (by simp [partK, takes])]
  simp [partK, takes]
theorem nest_ok {a : DocT} (n : Int) (ha : chk a 0 = some 1) : chk (nestD n a) 0 = if (decide (0 ≤ n) && decide (n ≤ 100)) = true then some 1 else none := by
  unfold nestD
  rw [chk_append, ha]
  simp only [Option.bind_some, chk, ok5]
  cases (decide (0 ≤ n) && decide (n ≤ 100)) <;> simp [partK, takes]
theorem sameL_refl (a : DocT) : sameL a a = true := sameL_iff.2 rfl
theorem dvbb (b : Bool) : dvOf Try.prog .eql 4 (.flat (.bool b)) (.flat (.bool b)) = some (.flat (.bool true)) := by
  rw [dvOf_eq]
  intro x y
  cases b <;> kernel_rfl

theorem docMakes_calls (a b : DocT) (n : Int) : ACalls Try.prog 3 [.ro (a.map partC), .ro (b.map partC), .flat (.int .i64 n)] (fun _ => .flat (.bool true)) (fun _ => []) := by
  have hcA := awake_calls
  have hcFa := fewD_calls a
  have hcFb := fewD_calls b
  have hfa := @few_facts a
  have hfb := @few_facts b
  have hcSab := same20_calls a b
  have hcTab := docSame_calls a b
  have hcCa := refCheck_calls a
  have hcCb := refCheck_calls b
  have hcN := nest_calls n a
  have hcG := group_calls b
  have hcX := cat_calls a [b, a]
  have hcX1 := cat_calls a []
  have hcSn := same20_calls (nestD n a) (nestD n a)
  have hcSg := same20_calls (groupD b) (groupD b)
  have hcSa := same20_calls a a
  have hcSx := same20_calls (catD [a, b, a]) (catD [a, b, a])
  have hcKx := check_calls (catD [a, b, a])
  have hcKg := check_calls (groupD b)
  have hcKn := check_calls (nestD n a)
  have hlx : (catD [a, b, a]).length = (((a ++ b) ++ [partK 4 0]) ++ (a ++ [partK 4 0])).length := by simp [catD, catStep]
  have hex : catD [a, b, a] = ((a ++ b) ++ [partK 4 0]) ++ (a ++ [partK 4 0]) := by simp [catD, catStep]
  have hlex : a.length ≤ 80 → b.length ≤ 80 → (catD [a, b, a]).length ≤ 1000 := fun h1 h2 => by rw [hlx]; simp only [List.length_append, List.length_cons, List.length_nil]; omega
  have hok1 : checkD a = 0 → checkD b = 0 → a.length ≤ 80 → b.length ≤ 80 → checkD (catD [a, b, a]) = 0 ∧ checkD (groupD b) = 0 ∧ decide (checkD (nestD n a) = 0) = (decide (0 ≤ n) && decide (n ≤ 100)) := fun h1 h2 h3 h4 => by
    rw [check_ok (by omega)] at h1 h2
    have l1 : (groupD b).length ≤ 20000 := by unfold groupD; rw [List.length_append]; simp; omega
    have l2 : (nestD n a).length ≤ 20000 := by unfold nestD; rw [List.length_append]; simp; omega
    refine ⟨(check_ok (by have := hlex h3 h4; omega)).2 (by rw [show catD [a, b, a] = ((a ++ b) ++ [partK 4 0]) ++ a ++ [partK 4 0] from rfl]; exact cat3_ok h1 h2), (check_ok l1).2 (group_ok h2), ?_⟩
    rw [Bool.eq_iff_iff, decide_eq_true_eq, check_ok l2, nest_ok n h1]
    cases (decide (0 ≤ n) && decide (n ≤ 100)) <;> simp
  obtain ⟨A, hA⟩ : ∃ X, X = a.map partC := ⟨_, rfl⟩
  obtain ⟨B, hB⟩ : ∃ X, X = b.map partC := ⟨_, rfl⟩
  obtain ⟨AB, hAB⟩ : ∃ X, X = (a ++ b).map partC := ⟨_, rfl⟩
  obtain ⟨ABc, hABc⟩ : ∃ X, X = ((a ++ b) ++ [partK 4 0]).map partC := ⟨_, rfl⟩
  obtain ⟨Ac, hAc⟩ : ∃ X, X = (a ++ [partK 4 0]).map partC := ⟨_, rfl⟩
  obtain ⟨C, hC⟩ : ∃ X, X = (catD [a, b, a]).map partC := ⟨_, rfl⟩
  obtain ⟨N, hN⟩ : ∃ X, X = (nestD n a).map partC := ⟨_, rfl⟩
  obtain ⟨Gp, hGp⟩ : ∃ X, X = (groupD b).map partC := ⟨_, rfl⟩
  obtain ⟨na, hna⟩ : ∃ k, k = a.length := ⟨_, rfl⟩
  obtain ⟨nb, hnb⟩ : ∃ k, k = b.length := ⟨_, rfl⟩
  obtain ⟨nab, hnab⟩ : ∃ k, k = na + nb := ⟨_, rfl⟩
  obtain ⟨nabc, hnabc⟩ : ∃ k, k = nab + 1 := ⟨_, rfl⟩
  obtain ⟨nac, hnac⟩ : ∃ k, k = na + 1 := ⟨_, rfl⟩
  obtain ⟨nc, hnc⟩ : ∃ k, k = nabc + nac := ⟨_, rfl⟩
  obtain ⟨ng, hng⟩ : ∃ k, k = nb + 1 := ⟨_, rfl⟩
  have hnc2 : nc = (catD [a, b, a]).length := by rw [hlx, hnc, hnabc, hnab, hnac, hna, hnb]; simp only [List.length_append, List.length_cons, List.length_nil]
  have hCf := flat_of hC
  have hNf := flat_of hN
  have hGf := flat_of hGp
  have hAf := flat_of hA
  have hBf := flat_of hB
  have hOf := flat_part (ofD 7)
  have hCn : nc = C.length := by rw [hC, List.length_map]; exact hnc2
  have hAn : na = A.length := by rw [hA, List.length_map]; exact hna
  have hNn : nac = N.length := by rw [hN, List.length_map]; unfold nestD; rw [List.length_append, hnac, hna]; rfl
  have hGn : ng = Gp.length := by rw [hGp, List.length_map]; unfold groupD; rw [List.length_append, hng, hnb]; rfl
  have hE : (catD [a]).map partC = A := by rw [hA]; rfl
  have hXd : [a, b, a].map docC = [[.ro A], [.ro B], [.ro A]] := by rw [hA, hB]; rfl
  have hXd1 : [a].map docC = [[.ro A]] := by rw [hA]; rfl
  rw [sameL_refl] at hcSn hcSg hcSa hcSx
  rw [← hA, ← hB]
  rw [← hA] at hcFa hcCa hcSa hcSab hcTab hcN
  rw [← hB] at hcFb hcCb hcSab hcTab hcG
  rw [← hC] at hcSx hcKx
  rw [← hN] at hcN hcSn hcKn
  rw [← hGp] at hcG hcSg hcKg
  generalize hfwa : fewD a = fa at hcFa hfa
  generalize hfwb : fewD b = fb at hcFb hfb
  have hcO := of_calls 7
  have hcX0 := cat_nil
  have hcSo := same20_calls (ofD 7) (ofD 7) (by decide) (by decide)
  rw [sameL_refl] at hcSo
  refine acalls_symF tabF_ok fn3 rfl rfl rfl (by kernel_rfl) ?_
  have hfin : ∀ st, resA Try.prog Try.f3 st = some (.flat (.bool true)) → G.Leaves Try.prog Try.f3 (fun _ => .flat (.bool true)) (fun _ => []) st := fun st h => G.Leaves.plain h rfl
  rintro ⟨lt, le, eq, se, ar, dv, una, conv, len, sln, nat, nth, ixs, cel, sto, app, cpy, slc, mak, ixv, oth, dk, ib, call⟩ hS hm Q hQ
  obtain ⟨hlt, hle, heq, hse, har, hdv, huna, hconv, hlen, hsln, hnat, hnth, hixs, hcel, hsto, happ, hcpy, hslc, hmak, hixv, hoth, hdk, hib, hcall⟩ := Sym.mk.inj hS
  clear hS
  have hbox : ∀ e c off, cel (some ⟨e, [c]⟩) 0 off = if off ≤ c.length then some (c.drop off) else none := fun e c off => by rw [hcel]; rfl
  have hsbox : ∀ e c off sz y, sto (some ⟨e, [c]⟩) 0 off sz y = if y.cells.length = sz ∧ off + sz ≤ c.length ∧ y.cells.all AV.one = true then some ⟨e, [spl c off y.cells]⟩ else none := fun e c off sz y => by rw [hsto]; rfl
  have hcaw : ∀ {f args T base K}, CallK Try.prog f args T base K → call f args T base K := fun h => by rw [hcall]; exact h
  have hcal : ∀ {f args T base} {K : AV → Table → List Nat → List Nat → Prop}, (∃ args' ids val rows, Hands T ids args args' (val base) (rows base) ∧ ACalls Try.prog f args' val rows ∧ (rows base).length ≤ 8 ∧ K (val base) (adopt T base (rows base)) ids ((List.range (rows base).length).map (base + ·))) → call f args T base K := fun h => hcaw (call_own h)
  cbv
  refine hcal ⟨_, [], _, _, .inl ⟨rfl, by cbv⟩, hcA, by simp, ?_⟩
  cbv
  refine hcal ⟨_, [], _, _, .inl ⟨rfl, by cbv⟩, hcFa, by simp, ?_⟩
  cbv
  cases fa
  · cbv
    exact hQ _ _ trivial (hfin _ (by cbv))
  cbv
  refine hcal ⟨_, [], _, _, .inl ⟨rfl, by cbv⟩, hcFb, by simp, ?_⟩
  cbv
  cases fb
  · cbv
    exact hQ _ _ trivial (hfin _ (by cbv))
  obtain ⟨la, _⟩ := hfa rfl
  obtain ⟨lb, _⟩ := hfb rfl
  have b1 : na ≤ 100000000 := by omega
  have b2 : nab ≤ 100000000 := by omega
  have b3 : nabc ≤ 100000000 := by omega
  have b4 : nac ≤ 100000000 := by omega
  have b5 : nc ≤ 100000000 := by omega
  have b6 : nb ≤ 100000000 := by omega
  have b7 : ng ≤ 100000000 := by omega
  have lx := hlex la lb
  have lx2 : (catD [a, b, a]).length ≤ 1000000 := Nat.le_trans lx (by decide)
  have la2 : a.length ≤ 1000000 := Nat.le_trans la (by decide)
  have lb2 : b.length ≤ 1000000 := Nat.le_trans lb (by decide)
  have ln2 : (nestD n a).length ≤ 1000000 := by unfold nestD; rw [List.length_append]; simp; omega
  have lg2 : (groupD b).length ≤ 1000000 := by unfold groupD; rw [List.length_append]; simp; omega
  replace hcSab := hcSab la2 lb2
  replace hcTab := hcTab la2 lb2
  replace hcCa := hcCa la2
  replace hcCb := hcCb lb2
  replace hcN := hcN (Nat.le_trans la (by decide)) (n := nac) (by rw [hnac, hna])
  replace hcG := hcG (Nat.le_trans lb (by decide)) (n := ng) (by rw [hng, hnb])
  replace hcX := hcX (by simp) (Nat.le_trans lx (by decide)) hnc2
  replace hcX1 := hcX1 (by simp) (Nat.le_trans la (by decide)) (n := na) hna
  rw [hXd, ← hC] at hcX
  rw [hXd1, hE] at hcX1
  replace hcSn := hcSn ln2 ln2
  replace hcSg := hcSg lg2 lg2
  replace hcSa := hcSa la2 la2
  replace hcSx := hcSx lx2 lx2
  replace hcKx := hcKx lx2
  replace hcKg := hcKg lg2
  replace hcKn := hcKn ln2
  replace hok1 := fun h1 h2 => hok1 h1 h2 la lb
  have q0 : ∀ (T : Table) id k0, T k0 = some ⟨27, []⟩ → app T id 23 23 (.sl k0 0 0) (.ro A) = some (.sl id 0 na, (T.set k0 none).set id (some ⟨27, A⟩)) := fun T id k0 h => by
    rw [happ]; exact app_docs T (a := []) rfl hA hA rfl (by rw [hna]; exact (Nat.zero_add _).symm) b1 h
  have q0b : ∀ (T : Table) id k0, T k0 = some ⟨27, []⟩ → app T id 23 23 (.sl k0 0 0) (.ro B) = some (.sl id 0 nb, (T.set k0 none).set id (some ⟨27, B⟩)) := fun T id k0 h => by
    rw [happ]; exact app_docs T (a := []) rfl hB hB rfl (by rw [hnb]; exact (Nat.zero_add _).symm) b6 h
  have q1 : ∀ (T : Table) id k0, T k0 = some ⟨27, A⟩ → app T id 23 23 (.sl k0 0 na) (.ro B) = some (.sl id 0 nab, (T.set k0 none).set id (some ⟨27, AB⟩)) := fun T id k0 h => by
    rw [happ]; exact app_docs T hA hB hAB hna (by rw [hnab, hnb]) b2 h
  have q2 : ∀ (T : Table) id k0 k, T k0 = some ⟨27, AB⟩ → T k = some ⟨27, [[.flat (.int .i64 4), .flat (.int .i64 0), .flat (.string ⟨#[]⟩)]]⟩ → k ≠ k0 → app T id 23 23 (.sl k0 0 nab) (.sl k 0 1) = some (.sl id 0 nabc, (T.set k0 none).set id (some ⟨27, ABc⟩)) := fun T id k0 k h h2 h3 => by
    rw [happ]; exact tip_docs T hAB hABc rfl (by rw [hnab, hna, hnb, List.length_append]) hnabc b3 h h2 h3
  have q3 : ∀ (T : Table) id k0 k, T k0 = some ⟨27, A⟩ → T k = some ⟨27, [[.flat (.int .i64 4), .flat (.int .i64 0), .flat (.string ⟨#[]⟩)]]⟩ → k ≠ k0 → app T id 23 23 (.sl k0 0 na) (.sl k 0 1) = some (.sl id 0 nac, (T.set k0 none).set id (some ⟨27, Ac⟩)) := fun T id k0 k h h2 h3 => by
    rw [happ]; exact tip_docs T hA hAc rfl hna hnac b4 h h2 h3
  have q4 : ∀ (T : Table) id k0 k, T k0 = some ⟨27, ABc⟩ → T k = some ⟨27, Ac⟩ → k ≠ k0 → app T id 23 23 (.sl k0 0 nabc) (.sl k 0 nac) = some (.sl id 0 nc, (T.set k0 none).set id (some ⟨27, C⟩)) := fun T id k0 k h h2 h3 => by
    rw [happ]; exact sl_docs T hABc hAc (by rw [hC, hex]) (by rw [hnabc, hnab, hna, hnb]; simp only [List.length_append, List.length_cons, List.length_nil]) (by rw [hnac, hna]; simp only [List.length_append, List.length_cons, List.length_nil]) hnc b5 h h2 h3
  have q5 : ∀ (T : Table) id k0 k, T k0 = some ⟨27, A⟩ → T k = some ⟨27, [[.flat (.int .i64 5), .flat (.int .i64 n), .flat (.string ⟨#[]⟩)]]⟩ → k ≠ k0 → app T id 23 23 (.sl k0 0 na) (.sl k 0 1) = some (.sl id 0 nac, (T.set k0 none).set id (some ⟨27, N⟩)) := fun T id k0 k h h2 h3 => by
    rw [happ]; exact tip_docs T hA hN rfl hna hnac b4 h h2 h3
  have q6 : ∀ (T : Table) id k0 k, T k0 = some ⟨27, B⟩ → T k = some ⟨27, [[.flat (.int .i64 6), .flat (.int .i64 0), .flat (.string ⟨#[]⟩)]]⟩ → k ≠ k0 → app T id 23 23 (.sl k0 0 nb) (.sl k 0 1) = some (.sl id 0 ng, (T.set k0 none).set id (some ⟨27, Gp⟩)) := fun T id k0 k h h2 h3 => by
    rw [happ]; exact tip_docs T hB hGp rfl hnb hng b7 h h2 h3
  cbv
  rw [q0 _ _ _ (by rfl)]; cbv
  rw [q1 _ _ _ (by rfl)]; cbv
  rw [q2 _ _ _ _ (by rfl) (by rfl) (by decide)]; cbv
  rw [q0 _ _ _ (by rfl)]; cbv
  rw [q3 _ _ _ _ (by rfl) (by rfl) (by decide)]; cbv
  rw [q4 _ _ _ _ (by rfl) (by rfl) (by decide)]; cbv
  refine hcal ⟨[.ro [[.ro A], [.ro B], [.ro A]]], [240], _, _, hands_deep ⟨deep_row (by simp) (by rfl) rfl (by intro c hc x hx; simp at hc; rcases hc with rfl | rfl | rfl <;> (simp at hx; subst hx; rfl)), trivial⟩ rfl (noRo_flat hCf), hcX, by simp, ?_⟩
  cbv
  refine hcal ⟨_, [], _, _, .inl ⟨rfl, by cbv⟩, hcN, by simp, ?_⟩
  cbv
  refine hcal ⟨_, [], _, _, .inl ⟨rfl, by cbv⟩, hcG, by simp, ?_⟩
  cbv
  refine hcal ⟨[.ro C, .ro C], [248, 200], _, _, hands_deep ⟨deep_row (by simp) (by rfl) hCn hCf.read, deep_row (by simp) (by rfl) hCn hCf.read, trivial⟩ rfl (fun r hr => by cases hr), hcSx, by simp, ?_⟩
  cbv
  refine hcal ⟨[.ro []], [], _, _, hands_deep ⟨.nil, trivial⟩ rfl (noRo_flat (flat_part _)), hcX0, by simp, ?_⟩
  cbv
  refine hcal ⟨_, [], _, _, .inl ⟨rfl, by cbv⟩, hcO, by simp, ?_⟩
  cbv
  refine hcal ⟨[.ro ((ofD 7).map partC), .ro ((ofD 7).map partC)], [360, 368], _, _, hands_deep ⟨deep_row (by simp) (by rfl) rfl hOf.read, deep_row (by simp) (by rfl) rfl hOf.read, trivial⟩ rfl (fun r hr => by cases hr), hcSo, by simp, ?_⟩
  cbv
  refine hcal ⟨[.ro [[.ro A]]], [416], _, _, hands_deep ⟨deep_row (by simp) (by rfl) rfl (by intro c hc x hx; simp at hc; subst hc; simp at hx; subst hx; rfl), trivial⟩ rfl (noRo_flat hAf), hcX1, by simp, ?_⟩
  cbv
  refine hcal ⟨[.ro A, .ro A], [424], _, _, hands_deep ⟨deep_row (by simp) (by rfl) hAn hAf.read, .id rfl, trivial⟩ rfl (fun r hr => by cases hr), hcSa, by simp, ?_⟩
  cbv
  rw [q0 _ _ _ (by rfl)]; cbv
  rw [q5 _ _ _ _ (by rfl) (by rfl) (by decide)]; cbv
  refine hcal ⟨[.ro N, .ro N], [280, 520], _, _, hands_deep ⟨deep_row (by simp) (by rfl) hNn hNf.read, deep_row (by simp) (by rfl) hNn hNf.read, trivial⟩ rfl (fun r hr => by cases hr), hcSn, by simp, ?_⟩
  cbv
  rw [q0b _ _ _ (by rfl)]; cbv
  rw [q6 _ _ _ _ (by rfl) (by rfl) (by decide)]; cbv
  refine hcal ⟨[.ro Gp, .ro Gp], [296, 600], _, _, hands_deep ⟨deep_row (by simp) (by rfl) hGn hGf.read, deep_row (by simp) (by rfl) hGn hGf.read, trivial⟩ rfl (fun r hr => by cases hr), hcSg, by simp, ?_⟩
  cbv
  have e1 : eq (checkD a) 0 = decide (checkD a = 0) := by rw [heq]
  have e2 : eq (checkD b) 0 = decide (checkD b = 0) := by rw [heq]
  have hok2 : decide (checkD a = 0) = true → decide (checkD b = 0) = true → _ := fun h1 h2 => hok1 (of_decide_eq_true h1) (of_decide_eq_true h2)
  generalize decide (checkD a = 0) = c1 at e1 hok2
  generalize decide (checkD b = 0) = c2 at e2 hok2
  clear hok1
  generalize checkD a = ka at e1 hcCa
  generalize checkD b = kb at e2 hcCb
  refine hcal ⟨_, [], _, _, .inl ⟨rfl, by cbv⟩, hcCa, by simp, ?_⟩
  cbv
  rw [e1]
  cases c1
  · cbv
    have hdb := dvbb (sameL a b)
    rw [← hdv] at hdb
    generalize sameL a b = sab at hcSab hcTab hdb
    cbv
    refine hcal ⟨_, [], _, _, .inl ⟨rfl, by cbv⟩, hcTab, by simp, ?_⟩
    cbv
    refine hcal ⟨_, [], _, _, .inl ⟨rfl, by cbv⟩, hcSab, by simp, ?_⟩
    cbv
    rw [hdb]; cbv
    exact hQ _ _ trivial (hfin _ (by cbv))
  cbv
  refine hcal ⟨_, [], _, _, .inl ⟨rfl, by cbv⟩, hcCb, by simp, ?_⟩
  cbv
  rw [e2]
  cases c2
  · cbv
    have hdb := dvbb (sameL a b)
    rw [← hdv] at hdb
    generalize sameL a b = sab at hcSab hcTab hdb
    cbv
    refine hcal ⟨_, [], _, _, .inl ⟨rfl, by cbv⟩, hcTab, by simp, ?_⟩
    cbv
    refine hcal ⟨_, [], _, _, .inl ⟨rfl, by cbv⟩, hcSab, by simp, ?_⟩
    cbv
    rw [hdb]; cbv
    exact hQ _ _ trivial (hfin _ (by cbv))
  obtain ⟨k1, k2, k3⟩ := hok2 rfl rfl
  have e3 : eq 0 0 = true := by rw [heq]; rfl
  rw [k1] at hcKx
  rw [k2] at hcKg
  have e4 : eq (checkD (nestD n a)) 0 = decide (checkD (nestD n a) = 0) := by rw [heq]
  have e5 : le 0 n = decide (0 ≤ n) := by rw [hle]
  have e6 : le n 100 = decide (n ≤ 100) := by rw [hle]
  have hd1 := dvbb true
  have hd2 := dvbb false
  rw [← hdv] at hd1 hd2
  generalize decide (checkD (nestD n a) = 0) = c4 at e4 k3
  generalize checkD (nestD n a) = kn at e4 hcKn
  generalize decide (0 ≤ n) = c5 at e5 k3
  generalize decide (n ≤ 100) = c6 at e6 k3
  cbv
  refine hcal ⟨[.ro C], [248], _, _, hands_deep ⟨deep_row (by simp) (by rfl) hCn hCf.read, trivial⟩ rfl (fun r hr => by cases hr), hcKx, by simp, ?_⟩
  cbv
  rw [e3]; cbv
  refine hcal ⟨[.ro Gp], [296], _, _, hands_deep ⟨deep_row (by simp) (by rfl) hGn hGf.read, trivial⟩ rfl (fun r hr => by cases hr), hcKg, by simp, ?_⟩
  cbv
  rw [e3]; cbv
  refine hcal ⟨[.ro N], [280], _, _, hands_deep ⟨deep_row (by simp) (by rfl) hNn hNf.read, trivial⟩ rfl (fun r hr => by cases hr), hcKn, by simp, ?_⟩
  cbv
  repeat' (first | (rw [hbox]; cbv) | (rw [hsbox]; cbv) | (rw [e4]; cbv) | (rw [e5]; cases c5 <;> cbv) | (rw [e6]; cases c6 <;> cbv))
  all_goals (cases c4 <;> first | (simp at k3; done) | skip)
  all_goals (cbv; first | (rw [hd1]; cbv) | (rw [hd2]; cbv))
  all_goals (exact hQ _ _ trivial (hfin _ (by cbv)))
end Go.Proofs.Ytagflbmonlaioaa.D
