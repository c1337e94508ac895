/- The law ItemKeys: its contract. -/
import Derived.Test.YtnceadbfgpiaaaaJ5
namespace Go.Proofs.Ytnceadbfgpiaaaa.J
open Go G U K I
set_option linter.unusedVariables false
set_option linter.unusedSimpArgs false
set_option maxRecDepth 100000
set_option maxHeartbeats 4000000
theorem ofT_len (l : List ItemT) : (ofT l).length ≤ l.length := by
  have key : ∀ (m S : List ItemT), (m.foldl insT S).length ≤ S.length + m.length := by
    intro m
    induction m with
    | nil => intro S; simp
    | cons x m ih =>
      intro S
      have h1 := ih (insT S x)
      have h2 := ins_len S x
      rw [List.foldl_cons, List.length_cons]
      split at h2 <;> omega
  have := key l []
  simpa [ofT] using this
theorem items_read (l : List ItemT) : readRow (l.map itemC) := (flat_items l).read
theorem dv_bool (a b : Bool) : dvOf Try.prog .eql 4 (.flat (.bool a)) (.flat (.bool b)) = some (.flat (.bool (a == b))) := by
  rw [dvOf_eq]
  intro x y
  cases a <;> cases b <;> kernel_rfl
theorem itemKeys_calls (a b : List ItemT) (ha : ∀ x ∈ a, okI64 x) (hb : ∀ x ∈ b, okI64 x) : ACalls Try.prog 3 [.ro (a.map itemC), .ro (b.map itemC)] (fun _ => .flat (.bool true)) (fun _ => []) := by
  have hcA := awake_calls
  have hcF := few_calls a
  have hcG := few_calls b
  obtain ⟨X, hX⟩ : ∃ X, X = (ofT a).map itemC := ⟨_, rfl⟩
  obtain ⟨Y, hY⟩ : ∃ X, X = (ofT b).map itemC := ⟨_, rfl⟩
  have hXf : flatRow X := by rw [hX]; exact flat_items _
  have hYf : flatRow Y := by rw [hY]; exact flat_items _
  have hXcl : ∀ c ∈ X, closedAll [] c = true := by rw [hX]; exact closed_items _
  have hYcl : ∀ c ∈ Y, closedAll [] c = true := by rw [hY]; exact closed_items _
  have hXn : (ofT a).length = X.length := by rw [hX, List.length_map]
  have hYn : (ofT b).length = Y.length := by rw [hY, List.length_map]
  obtain ⟨s, hs⟩ : ∃ s, s = decide (ofT a = ofT b) := ⟨_, rfl⟩
  obtain ⟨tx, htx⟩ : ∃ t, t = txt (keysB (ofT a)) := ⟨_, rfl⟩
  obtain ⟨ty, hty⟩ : ∃ t, t = txt (keysB (ofT b)) := ⟨_, rfl⟩
  obtain ⟨Z, hZ⟩ : ∃ Z, Z = (a.reverse ++ a).map itemC := ⟨_, rfl⟩
  have hall : fewL a = true → fewL b = true → a.length ≤ 30 ∧ ACalls Try.prog 9 [.ro (a.map itemC)] (fun k => .sl k 0 (ofT a).length) (fun _ => [⟨28, X⟩]) ∧ ACalls Try.prog 9 [.ro (b.map itemC)] (fun k => .sl k 0 (ofT b).length) (fun _ => [⟨28, Y⟩]) ∧ ACalls Try.prog 9 [.ro Z] (fun k => .sl k 0 (ofT a).length) (fun _ => [⟨28, X⟩]) ∧
      ACalls Try.prog 11 [.ro X] (fun k => .sl k 0 (ofT a).length) (fun _ => [⟨41, X⟩]) ∧ ACalls Try.prog 11 [.ro Y] (fun k => .sl k 0 (ofT b).length) (fun _ => [⟨41, Y⟩]) ∧ ACalls Try.prog 10 [.ro X, .ro Y] (fun _ => .flat (.bool s)) (fun _ => []) ∧
      ACalls Try.prog 12 [.ro X] (fun _ => .flat (.string tx)) (fun _ => []) ∧ ACalls Try.prog 12 [.ro Y] (fun _ => .flat (.string ty)) (fun _ => []) ∧ (tx.toList == ty.toList) = s ∧ (tx.toList == tx.toList) = true ∧
      ACalls Try.prog 13 [.ro X, .ro Y] (fun _ => .flat (.bool s)) (fun _ => []) ∧ ACalls Try.prog 13 [.ro X, .ro X] (fun _ => .flat (.bool true)) (fun _ => []) := fun h1 h2 => by
    obtain ⟨f1, f2⟩ := fewL_facts ha h1
    obtain ⟨g1, g2⟩ := fewL_facts hb h2
    have l1 := ofT_len a
    have l2 := ofT_len b
    have hz := of_calls (a.reverse ++ a) (by simp; omega) (fun x hx => ha x (by simpa using hx))
    rw [ofT_back] at hz
    have hsame := itemSame_calls (ofT a) (ofT a) (by omega)
    rw [decide_eq_true (rfl : ofT a = ofT a)] at hsame
    subst hX hY hs htx hty hZ
    exact ⟨f1, of_calls a (by omega) ha, of_calls b (by omega) hb, hz, ref_calls _ (by omega), ref_calls _ (by omega), refSame_calls _ _ (by omega), key_calls _ (by omega) (ofT_few f2), key_calls _ (by omega) (ofT_few g2), se_key (ofT_few f2) (ofT_few g2), beq_self_eq_true _, itemSame_calls _ _ (by omega), hsame⟩
  have hdn := fun h => dn_zero (l := a) h
  have hst : ∀ i, a.length ≤ 30 → DnAt a i → decide (0 ≤ i) = true → ∃ c : List AV, c.length = 3 ∧ (∃ p q r : Int, c = [.flat (.int .i64 p), .flat (.int .i64 q), .flat (.int .u64 r)]) ∧ nthE (a.map itemC) i 3 = some (.rp c) ∧ DnAt a (i - 1) ∧ (i - 1 + 1).toNat < (i + 1).toNat ∧ arI .sub .i64 i 1 = i - 1 ∧ (∀ W, W = ((a.drop (i + 1).toNat).reverse).map itemC → W ++ [c] = ((a.drop (i - 1 + 1).toNat).reverse).map itemC) ∧ (a.drop (i + 1).toNat).length ≤ 1000 := fun i h hi hc => by
    obtain ⟨h0, h1, h2, h3, h4, h5, h6⟩ := dn_step (by omega) hi hc
    refine ⟨itemC (atI a i), rfl, ⟨_, _, _, rfl⟩, nth_map (fun _ => rfl) h0 h1, h2, h3, h4, fun W hW => ?_, h6⟩
    rw [h5, List.map_append, hW]; rfl
  have hen : ∀ i, DnAt a i → decide (0 ≤ i) = false → ∀ W, W = ((a.drop (i + 1).toNat).reverse).map itemC → W.take W.length ++ a.map itemC = Z ∧ W.length = a.length := fun i h hc W hW => by
    rw [dn_end h hc] at hW
    rw [List.take_length, hW, hZ, List.map_append]
    exact ⟨rfl, by simp⟩
  have hZf : readRow Z := by rw [hZ]; exact items_read _
  have hZn : Z.length = a.length + a.length := by rw [hZ]; simp
  have hcls : ∀ (i : Int) W, W = ((a.drop (i + 1).toNat).reverse).map itemC → ∀ c ∈ W, closedAll [] c = true := fun i W h => by rw [h]; exact closed_items _
  have hA3 : ∀ c ∈ a.map itemC, c.length = 3 := fun c hc => by obtain ⟨x, _, rfl⟩ := List.mem_map.1 hc; rfl
  obtain ⟨A, hA⟩ : ∃ A, A = a.map itemC := ⟨_, rfl⟩
  obtain ⟨B, hB⟩ : ∃ A, A = b.map itemC := ⟨_, rfl⟩
  have hAl : lenE A = (a.length : Int) := by rw [hA, len_map]
  have hAl2 : A.length = a.length := by rw [hA, List.length_map]
  rw [← hA] at hcF hall hst hen hA3
  rw [← hB] at hcG hall
  rw [← hA, ← hB]
  clear hX hY hs htx hty hZ hA hB
  generalize (ofT a).length = nx at *
  generalize (ofT b).length = ny at *
  generalize fewL a = fa at *
  generalize fewL b = fb at *
  refine acalls_symF tabF_ok fn3 rfl rfl rfl (by kernel_rfl) ?_
  have hfin : ∀ st, resA Try.prog Try.f3 st = some (.flat (.bool true)) → G.Leaves Try.prog Try.f3 (fun _ => .flat (.bool true)) (fun _ => []) st := fun st h => G.Leaves.plain h rfl
  rintro ⟨lt, le, eq, se, ar, dv, una, conv, len, sln, nat, nth, ixs, cel, sto, app, cpy, slc, mak, ixv, oth, dk, ib, call⟩ hS hm Q hQ
  obtain ⟨hlt, hle, heq, hse, har, hdv, huna, hconv, hlen, hsln, hnat, hnth, hixs, hcel, hsto, happ, hcpy, hslc, hmak, hixv, hoth, hdk, hib, hcall⟩ := Sym.mk.inj hS
  clear hS
  have hnt : ∀ n : Nat, nat n = U.natI n := fun n => by rw [hnat]; rfl
  have hbox : ∀ e c off, cel (some ⟨e, [c]⟩) 0 off = if off ≤ c.length then some (c.drop off) else none := fun e c off => by rw [hcel]; rfl
  have hsbox : ∀ e c off sz y, sto (some ⟨e, [c]⟩) 0 off sz y = if y.cells.length = sz ∧ off + sz ≤ c.length ∧ y.cells.all AV.one = true then some ⟨e, [spl c off y.cells]⟩ else none := fun e c off sz y => by rw [hsto]; rfl
  have hcaw : ∀ {f args T base K}, CallK Try.prog f args T base K → call f args T base K := fun h => by rw [hcall]; exact h
  have hcal : ∀ {f args T base} {K : AV → Table → List Nat → List Nat → Prop}, (∃ args' ids val rows, Hands T ids args args' (val base) (rows base) ∧ ACalls Try.prog f args' val rows ∧ (rows base).length ≤ 8 ∧ K (val base) (adopt T base (rows base)) ids ((List.range (rows base).length).map (base + ·))) → call f args T base K := fun h => hcaw (call_own h)
  have heqb : ∀ x y, dv .eql 4 (.flat (.bool x)) (.flat (.bool y)) = some (.flat (.bool (x == y))) := fun x y => by rw [hdv]; exact dv_bool x y
  have hdn2 : a.length ≤ 30 → ∃ i0, ar .sub .i64 (len A) 1 = i0 ∧ DnAt a i0 ∧ ([] : List (List AV)) = ((a.drop (i0 + 1).toNat).reverse).map itemC := fun h => by
    obtain ⟨h1, h2, h3⟩ := hdn (by omega)
    exact ⟨_, by rw [har, hlen, hAl]; exact h2, h1, by rw [h3]; rfl⟩
  have hst2 : ∀ i, a.length ≤ 30 → DnAt a i → le 0 i = true → ∃ p q r : Int, nth A i 3 = some (.rp [.flat (.int .i64 p), .flat (.int .i64 q), .flat (.int .u64 r)]) ∧ DnAt a (i - 1) ∧ (i - 1 + 1).toNat < (i + 1).toNat ∧ ar .sub .i64 i 1 = i - 1 ∧ (∀ W, W = ((a.drop (i + 1).toNat).reverse).map itemC → W ++ [[.flat (.int .i64 p), .flat (.int .i64 q), .flat (.int .u64 r)]] = ((a.drop (i - 1 + 1).toNat).reverse).map itemC) ∧ (a.drop (i + 1).toNat).length ≤ 1000 := fun i h hi hc => by
    obtain ⟨c, _, ⟨p, q, r, rfl⟩, q2, q3, q4, q5, q6, q7⟩ := hst i h hi (by rw [hle] at hc; exact hc)
    exact ⟨p, q, r, by rw [hnth]; exact q2, q3, q4, by rw [har]; exact q5, q6, q7⟩
  have hen2 : ∀ i, DnAt a i → le 0 i = false → ∀ W, W = ((a.drop (i + 1).toNat).reverse).map itemC → W.take W.length ++ A = Z ∧ W.length = a.length := fun i h hc => hen i h (by rw [hle] at hc; exact hc)
  have hap : ∀ (T : Table) (id k0 k n n2 : Nat) (W W2 : List (List AV)) (c : List AV), W2 = W ++ [c] → c.length = 3 → n = W.length → n2 = n + 1 → n ≤ 1000000 → T k0 = some ⟨28, W⟩ → T k = some ⟨28, [c]⟩ → k ≠ k0 → app T id 22 22 (.sl k0 0 n) (.sl k 0 1) = some (.sl id 0 n2, (T.set k0 none).set id (some ⟨28, W2⟩)) := fun T id k0 k n n2 W W2 c h0 h7 h1 h2 h3 h4 h5 h6 => by
    rw [happ]; exact app_tip u22 z28 c28 (by decide) rfl (by decide) h4 h5 h6 h7 (by omega) h2 (by rw [h0, h1, List.take_length]) (by omega)
  have hapr : ∀ (T : Table) (id k0 n n2 : Nat) (W : List (List AV)), n = W.length → n2 = n + A.length → n2 ≤ 1000000 → W.take W.length ++ A = Z → T k0 = some ⟨28, W⟩ → app T id 22 22 (.sl k0 0 n) (.ro A) = some (.sl id 0 n2, (T.set k0 none).set id (some ⟨28, Z⟩)) := fun T id k0 n n2 W h1 h2 h3 h4 h5 => by
    rw [happ]; exact app_ro u22 u22 z28 (by decide) rfl (by decide) h5 hA3 (by omega) h2 (by rw [h1]; exact h4.symm) (by omega)
  have hall2 := hall
  have hss : (s == s) = true := by cases s <;> rfl
  clear hdn hst hen hA3 hAl hall
  cbv
  refine hcal ⟨_, [], _, _, .inl ⟨rfl, by cbv⟩, hcA, by simp, ?_⟩
  cbv
  refine hcal ⟨_, [], _, _, .inl ⟨rfl, by cbv⟩, hcF, by simp, ?_⟩
  cbv
  cases fa
  · cbv
    exact hQ _ _ trivial (hfin _ (by cbv))
  cbv
  refine hcal ⟨_, [], _, _, .inl ⟨rfl, by cbv⟩, hcG, by simp, ?_⟩
  cbv
  cases fb
  · cbv
    exact hQ _ _ trivial (hfin _ (by cbv))
  obtain ⟨f30, c1, c2, c3, c4, c5, c6, c7, c8, se1, se2, c9, c10⟩ := hall2 rfl rfl
  rw [show (tx.toList == ty.toList) = se tx ty by rw [hse]] at se1
  rw [show (tx.toList == tx.toList) = se tx tx by rw [hse]] at se2
  obtain ⟨i0, y1, y2, y3⟩ := hdn2 f30
  cbv
  refine hcal ⟨_, [], _, _, .inl ⟨rfl, by cbv⟩, c1, by simp, ?_⟩
  cbv
  refine hcal ⟨_, [], _, _, .inl ⟨rfl, by cbv⟩, c2, by simp, ?_⟩
  cbv
  rw [y1]; cbv
  refine MW_loopZ hm [.slot 7 28] [96, 112, 176] [0, 5, 6, 7, 8] 9 (by simp) (fun mz st => ∃ (i : Int) (n : Nat) (W : List (List AV)), DnAt a i ∧ W = ((a.drop (i + 1).toNat).reverse).map itemC ∧ n = W.length ∧ mz = (i + 1).toNat ∧ st = stOf [.ro A, .dead, .dead, .dead, .dead, .sl 0 0 nx, .sl 1 0 ny, .sl 2 0 n, .flat (.int .i64 i)] [some ⟨28, X⟩, some ⟨28, Y⟩, some ⟨28, W⟩] 3) ((i0 + 1).toNat) ?_ ?_
  · exact ⟨i0, 0, [], y2, y3, rfl, rfl, cut_eq (by cbv) (cutRows_cons (by rfl) (hXcl) (cutRows_cons (by rfl) (hYcl) (cutRows_cons (by rfl) (fun c hc => by cases hc) rfl)))⟩
  rintro mz st ⟨i, n, W, hi, hW, hn, hmz, rfl⟩
  cases hc : le 0 i
  · obtain ⟨k1, k2⟩ := hen2 i hi hc W hW
    obtain ⟨n2, hn2⟩ : ∃ m, m = n + A.length := ⟨_, rfl⟩
    have ha := fun T id k0 => hapr T id k0 n n2 W hn hn2 (by omega) k1
    have hn3 : n2 = Z.length := by omega
    cbv
    rw [hc]; cbv
    rw [ha _ _ _ (by rfl)]; cbv
    refine hcal ⟨[.ro Z], [35], _, _, hands_deep ⟨deep_row (by simp) (by rfl) hn3 hZf, trivial⟩ rfl (noRo_flat hXf), c3, by simp, ?_⟩
    cbv
    refine hcal ⟨[.ro X], [0], _, _, hands_deep ⟨deep_row (by simp) (by rfl) hXn hXf.read, trivial⟩ rfl (noRo_flat hXf), c4, by simp, ?_⟩
    cbv
    refine hcal ⟨[.ro Y], [1], _, _, hands_deep ⟨deep_row (by simp) (by rfl) hYn hYf.read, trivial⟩ rfl (noRo_flat hYf), c5, by simp, ?_⟩
    cbv
    refine hcal ⟨[.ro X, .ro Y], [67, 83], _, _, hands_deep ⟨deep_row (by simp) (by rfl) hXn hXf.read, deep_row (by simp) (by rfl) hYn hYf.read, trivial⟩ rfl (fun r hr => by cases hr), c6, by simp, ?_⟩
    cbv
    refine hcal ⟨[.ro X], [0], _, _, hands_deep ⟨deep_row (by simp) (by rfl) hXn hXf.read, trivial⟩ rfl (fun r hr => by cases hr), c7, by simp, ?_⟩
    cbv
    refine hcal ⟨[.ro Y], [1], _, _, hands_deep ⟨deep_row (by simp) (by rfl) hYn hYf.read, trivial⟩ rfl (fun r hr => by cases hr), c8, by simp, ?_⟩
    cbv
    rw [se1]; cbv
    rw [heqb, hss]; cbv
    refine hcal ⟨[.ro X, .ro Y], [0, 1], _, _, hands_deep ⟨deep_row (by simp) (by rfl) hXn hXf.read, deep_row (by simp) (by rfl) hYn hYf.read, trivial⟩ rfl (fun r hr => by cases hr), c9, by simp, ?_⟩
    cbv
    rw [heqb, hss]; cbv
    refine hcal ⟨[.ro X, .ro X], [0, 43], _, _, hands_deep ⟨deep_row (by simp) (by rfl) hXn hXf.read, deep_row (by simp) (by rfl) hXn hXf.read, trivial⟩ rfl (fun r hr => by cases hr), c10, by simp, ?_⟩
    cbv
    refine hcal ⟨[.ro X], [0], _, _, hands_deep ⟨deep_row (by simp) (by rfl) hXn hXf.read, trivial⟩ rfl (fun r hr => by cases hr), c7, by simp, ?_⟩
    cbv
    refine hcal ⟨[.ro X], [43], _, _, hands_deep ⟨deep_row (by simp) (by rfl) hXn hXf.read, trivial⟩ rfl (fun r hr => by cases hr), c7, by simp, ?_⟩
    cbv
    rw [se2]; cbv
    exact hQ _ _ trivial (hfin _ (by cbv))
  obtain ⟨p, q, r, q1, q2, q3, q4, q5, q6⟩ := hst2 i f30 hi hc
  replace q5 := q5 W hW
  have hWl : n ≤ 1000 := by rw [hn, hW, List.length_map, List.length_reverse]; exact q6
  obtain ⟨n2, hn2⟩ : ∃ m, m = n + 1 := ⟨_, rfl⟩
  obtain ⟨W2, hW2⟩ : ∃ Z, Z = W ++ [[AV.flat (.int .i64 p), .flat (.int .i64 q), .flat (.int .u64 r)]] := ⟨_, rfl⟩
  have hn3 : n2 = W2.length := by rw [hW2, List.length_append, hn2, hn]; rfl
  have ha := fun T id k0 k => hap T id k0 k n n2 W W2 _ hW2 rfl hn hn2 (by omega)
  rw [← hW2] at q5
  have hW2cl : ∀ c ∈ W2, closedAll [] c = true := hcls _ _ q5
  generalize (i + 1).toNat = m0 at q3 hmz
  generalize i - 1 = i2 at q2 q3 q4 q5
  cbv
  rw [hc]; cbv
  repeat (first | (rw [hbox]; cbv) | (rw [hsbox]; cbv) | (rw [q1]; cbv))
  rw [ha _ _ _ _ (by rfl) (by rfl) (by decide)]; cbv
  rw [q4]
  exact ⟨[0, 1, 67], [0, 5, 6, 7, 8], 9, (i2 + 1).toNat, hmz ▸ q3, by simp, i2, n2, W2, q2, q5, hn3, rfl, cut_eq (by cbv) (cutRows_cons (by rfl) (hXcl) (cutRows_cons (by rfl) (hYcl) (cutRows_cons (by rfl) (hW2cl) rfl)))⟩
end Go.Proofs.Ytnceadbfgpiaaaa.J
