/- C8, C9, one behind the other. -/
import Derived.Test.YtnceadbfgpiaaaaQ17
/- Plain law: the document's sum of items, by selection. No program in sight. -/
namespace Go.Proofs.Ytnceadbfgpiaaaa.C
open Go G U J F
set_option linter.unusedVariables false
set_option linter.unusedSimpArgs false
def abv (O : List ItemT) (x : ItemT) : Bool := match O.getLast? with
  | none => true
  | some y => ltK y x
def LA (l O : List ItemT) (k m : Int) : Prop := 0 ≤ k ∧ k ≤ l.length ∧ ((m = -1 ∧ ∀ j : Int, 0 ≤ j → j < k → abv O (atI l j) = false) ∨ (0 ≤ m ∧ m < k ∧ abv O (atI l m) = true ∧ ∀ j : Int, 0 ≤ j → j < k → abv O (atI l j) = true → ltK (atI l j) (atI l m) = false))
section
variable {l O S : List ItemT} {k m : Int} {i : Nat}
theorem la_zero (l O : List ItemT) : LA l O 0 (-1) := ⟨Int.le_refl 0, by omega, .inl ⟨rfl, fun j h0 h1 => by omega⟩⟩
theorem la_skip (h : LA l O k m) (hk : k < l.length) (ha : abv O (atI l k) = false) : LA l O (k + 1) m := by
  obtain ⟨h0, h1, h⟩ := h
  refine ⟨by omega, by omega, ?_⟩
  rcases h with ⟨e, h⟩ | ⟨a, b, c, h⟩
  · refine .inl ⟨e, fun j j0 j1 => ?_⟩
    by_cases hj : j = k
    · rw [hj]; exact ha
    · exact h j j0 (by omega)
  · refine .inr ⟨a, by omega, c, fun j j0 j1 hj => ?_⟩
    by_cases hj2 : j = k
    · rw [hj2, ha] at hj; cases hj
    · exact h j j0 (by omega) hj
theorem la_first (h : LA l O k m) (hk : k < l.length) (ha : abv O (atI l k) = true) (hm : m < 0) : LA l O (k + 1) k := by
  obtain ⟨h0, h1, h⟩ := h
  refine ⟨by omega, by omega, .inr ⟨h0, by omega, ha, fun j j0 j1 hj => ?_⟩⟩
  rcases h with ⟨e, h⟩ | ⟨a, b, c, h⟩
  · by_cases hj2 : j = k
    · rw [hj2, ltK_off]; omega
    · rw [h j j0 (by omega)] at hj; cases hj
  · omega
theorem la_less (h : LA l O k m) (hk : k < l.length) (ha : abv O (atI l k) = true) (hm : ¬ m < 0) (hl : ltK (atI l k) (atI l m) = true) : LA l O (k + 1) k := by
  obtain ⟨h0, h1, h⟩ := h
  refine ⟨by omega, by omega, .inr ⟨h0, by omega, ha, fun j j0 j1 hj => ?_⟩⟩
  rcases h with ⟨e, h⟩ | ⟨a, b, c, h⟩
  · omega
  · by_cases hj2 : j = k
    · rw [hj2, ltK_off]; omega
    · have := h j j0 (by omega) hj
      rw [ltK_off] at this ⊢
      rw [ltK_iff] at hl
      omega
theorem la_keep (h : LA l O k m) (hk : k < l.length) (ha : abv O (atI l k) = true) (hm : ¬ m < 0) (hl : ltK (atI l k) (atI l m) = false) : LA l O (k + 1) m := by
  obtain ⟨h0, h1, h⟩ := h
  refine ⟨by omega, by omega, ?_⟩
  rcases h with ⟨e, h⟩ | ⟨a, b, c, h⟩
  · omega
  · refine .inr ⟨a, by omega, c, fun j j0 j1 hj => ?_⟩
    by_cases hj2 : j = k
    · rw [hj2]; exact hl
    · exact h j j0 (by omega) hj
/-! ### What is chosen -/
def orStep (p d : Int) (w : Nat) (x : ItemT) : Nat := if x.prod = p ∧ x.dot = d then w ||| x.look else w
def orL (p d : Int) (l : List ItemT) : Nat := l.foldl (orStep p d) 0
theorem orL_bit (p d : Int) (l : List ItemT) (t : Nat) : (orL p d l).testBit t = true ↔ ∃ x ∈ l, x.prod = p ∧ x.dot = d ∧ x.look.testBit t = true := by
  have key : ∀ (l : List ItemT) (w : Nat), (l.foldl (orStep p d) w).testBit t = true ↔ w.testBit t = true ∨ ∃ x ∈ l, x.prod = p ∧ x.dot = d ∧ x.look.testBit t = true := by
    intro l
    induction l with
    | nil => intro w; simp
    | cons y l ih =>
      intro w
      rw [List.foldl_cons, ih]
      unfold orStep
      by_cases h : y.prod = p ∧ y.dot = d
      · rw [if_pos h, Nat.testBit_or, Bool.or_eq_true]
        simp only [List.mem_cons, exists_eq_or_imp]
        constructor
        · rintro ((a | a) | a)
          · exact .inl a
          · exact .inr (.inl ⟨h.1, h.2, a⟩)
          · exact .inr (.inr a)
        · rintro (a | ⟨_, _, a⟩ | a)
          · exact .inl (.inl a)
          · exact .inl (.inr a)
          · exact .inr a
      · rw [if_neg h]
        simp only [List.mem_cons, exists_eq_or_imp]
        constructor
        · rintro (a | a)
          · exact .inl a
          · exact .inr (.inr a)
        · rintro (a | ⟨a, b, _⟩ | a)
          · exact .inl a
          · exact absurd ⟨a, b⟩ h
          · exact .inr a
  have h := key l 0
  simp only [Nat.zero_testBit, Bool.false_eq_true, false_or] at h
  exact h
theorem orL_next {p d : Int} (h0 : 0 ≤ k) (h1 : k < l.length) : orL p d (l.take (k + 1).toNat) = orStep p d (orL p d (l.take k.toNat)) (atI l k) := by
  unfold orL
  exact fold_next _ _ h0 h1
theorem orL_lt {p d : Int} (h : ∀ x ∈ l, okI64 x) : orL p d l < 18446744073709551616 := by
  have key : ∀ (l : List ItemT) (w : Nat), (∀ x ∈ l, okI64 x) → w < 18446744073709551616 → l.foldl (orStep p d) w < 18446744073709551616 := by
    intro l
    induction l with
    | nil => intro w _ h; exact h
    | cons y l ih =>
      intro w hl hw
      rw [List.foldl_cons]
      refine ih _ (fun x hx => hl x (List.mem_cons_of_mem _ hx)) ?_
      unfold orStep
      split
      · exact Nat.or_lt_two_pow (n := 64) hw (hl y (List.mem_cons_self ..))
      · exact hw
  exact key l 0 h (by decide)
theorem sorted_ix (hs : Sorted S) {a b : Nat} {x y : ItemT} (hab : a < b) (hx : S[a]? = some x) (hy : S[b]? = some y) : ltK x y = true := by
  obtain ⟨h1, rfl⟩ := List.getElem?_eq_some_iff.1 hx
  obtain ⟨h2, rfl⟩ := List.getElem?_eq_some_iff.1 hy
  exact List.pairwise_iff_getElem.1 hs a b h1 h2 hab
theorem abv_take (hs : Sorted S) (hi : i ≤ S.length) {j : Nat} {z x : ItemT} (hz : S[j]? = some z) (he : eqK x z = true) : abv (S.take i) x = true ↔ i ≤ j := by
  rw [eqK_iff] at he
  cases i with
  | zero => simp [abv]
  | succ i =>
    have hi2 : i < S.length := by omega
    have e : S.take (i + 1) = S.take i ++ [S[i]] := by rw [List.take_add_one, List.getElem?_eq_getElem hi2]; rfl
    have e2 : abv (S.take (i + 1)) x = ltK S[i] x := by
      unfold abv
      rw [e, List.getLast?_concat]
    rw [e2]
    have hi3 : S[i]? = some S[i] := List.getElem?_eq_getElem hi2
    constructor
    · intro h
      apply Classical.byContradiction
      intro hn
      by_cases hj : j = i
      · subst hj
        rw [hi3] at hz
        have := Option.some.inj hz
        rw [this, ltK_iff] at h
        omega
      · have := sorted_ix hs (a := j) (b := i) (by omega) hz hi3
        rw [ltK_iff] at this h
        omega
    · intro h
      have := sorted_ix hs (a := i) (b := j) (by omega) hi3 hz
      rw [ltK_iff] at this ⊢
      omega
/-- None is left. -/
theorem sel_none (hS : OfS l S) (hi : i ≤ S.length) (h : LA l (S.take i) k m) (hk : ¬ k < l.length) (hm : m < 0) : i = S.length := by
  apply Classical.byContradiction
  intro hn
  have hlt : i < S.length := by omega
  have hz : S[i]? = some S[i] := List.getElem?_eq_getElem hlt
  obtain ⟨⟨x, hx, he⟩, _⟩ := (hS.mem S[i]).1 (List.getElem_mem hlt)
  obtain ⟨j, hj⟩ := List.mem_iff_getElem?.1 hx
  have hjl : j < l.length := (List.getElem?_eq_some_iff.1 hj).1
  obtain ⟨h0, h1, h⟩ := h
  rcases h with ⟨_, h⟩ | ⟨a, _⟩
  · have h2 := h (j : Int) (by omega) (by omega)
    have h3 : atI l (j : Int) = x := by
      unfold atI
      rw [List.getD_eq_getElem?_getD, Int.toNat_natCast, hj]; rfl
    rw [h3] at h2
    rw [(abv_take hS.sorted hi hz he).2 (Nat.le_refl _)] at h2
    cases h2
  · omega
/-- The next. -/
theorem sel_some (hS : OfS l S) (hi : i ≤ S.length) (h : LA l (S.take i) k m) (hk : ¬ k < l.length) (hm : ¬ m < 0) : 0 ≤ m ∧ m < l.length ∧ i + 1 ≤ S.length ∧ S.take (i + 1) = S.take i ++ [⟨(atI l m).prod, (atI l m).dot, orL (atI l m).prod (atI l m).dot l⟩] := by
  obtain ⟨h0, h1, h⟩ := h
  rcases h with ⟨a, _⟩ | ⟨m0, m1, ha, h⟩
  · omega
  have hml : m < l.length := by omega
  obtain ⟨z, hz, he⟩ := hS.all (atI l m) (at_mem m0 hml)
  obtain ⟨j, hj⟩ := List.mem_iff_getElem?.1 hz
  have hij := (abv_take hS.sorted hi hj he).1 ha
  have hjl : j < S.length := (List.getElem?_eq_some_iff.1 hj).1
  have hlt : i < S.length := by omega
  have hzi : S[i]? = some S[i] := List.getElem?_eq_getElem hlt
  have hji : j = i := by
    apply Classical.byContradiction
    intro hn
    obtain ⟨⟨x, hx, hex⟩, _⟩ := (hS.mem S[i]).1 (List.getElem_mem hlt)
    obtain ⟨q, hq⟩ := List.mem_iff_getElem?.1 hx
    have hql : q < l.length := (List.getElem?_eq_some_iff.1 hq).1
    have h3 : atI l (q : Int) = x := by
      unfold atI
      rw [List.getD_eq_getElem?_getD, Int.toNat_natCast, hq]; rfl
    have h4 := h (q : Int) (by omega) (by omega) (by rw [h3]; exact (abv_take hS.sorted hi hzi hex).2 (Nat.le_refl _))
    rw [h3, ltK_off] at h4
    have h5 := sorted_ix hS.sorted (a := i) (b := j) (by omega) hzi hj
    rw [ltK_iff] at h5
    rw [eqK_iff] at hex he
    omega
  subst hji
  obtain rfl : z = S[j] := by rw [hzi] at hj; exact (Option.some.inj hj).symm
  refine ⟨m0, hml, hlt, ?_⟩
  rw [List.take_add_one, hzi]
  have he2 := eqK_iff.1 he
  have hb := ((hS.mem S[j]).1 hz).2
  have : S[j] = ⟨(atI l m).prod, (atI l m).dot, orL (atI l m).prod (atI l m).dot l⟩ := by
    have h6 : S[j].look = orL (atI l m).prod (atI l m).dot l := by
      apply Nat.eq_of_testBit_eq
      intro t
      rw [Bool.eq_iff_iff, hb t, orL_bit]
      constructor
      · rintro ⟨x, hx, hxe, ht⟩
        rw [eqK_iff] at hxe
        exact ⟨x, hx, by omega, by omega, ht⟩
      · rintro ⟨x, hx, h7, h8, ht⟩
        exact ⟨x, hx, by rw [eqK_iff]; omega, ht⟩
    cases hS' : S[j] with
    | mk a b c =>
      rw [hS'] at he2 h6
      dsimp only at he2 h6
      rw [h6, he2.1, he2.2]
  rw [this]; rfl
end
end Go.Proofs.Ytnceadbfgpiaaaa.C
/- What the walk of the document's Of stands on. No code is walked. -/
namespace Go.Proofs.Ytnceadbfgpiaaaa.C
open Go G U K I J F
set_option linter.unusedVariables false
set_option linter.unusedSimpArgs false
structure SelF (lt eq : Int → Int → Bool) (len : List (List AV) → Int) (nth : List (List AV) → Int → Nat → Option AV) (ar : BinOp → IntKind → Int → Int → Int) (ixs : Option Row → Nat → Nat → Nat → Int → Nat → Option AV) (cel : Option Row → Nat → Nat → Option (List AV))
    (app : Table → Nat → TypeId → TypeId → AV → AV → Option (AV × Table)) (nat : Nat → Int) (X RR : List (List AV)) (sn n : Nat) (OA : Int → Nat → List (List AV) → Prop) (LL : Nat → Int → Int → Prop) (XA : Int → Int → Int → Int → Prop) : Prop where
  z1 : OA 0 0 []
  z2 : ∀ q, LL q 0 (-1)
  z3 : ∀ p d, XA p d 0 0
  cl : ∀ i q O, OA i q O → ∀ c ∈ O, closedAll [] c = true
  fin : ∀ i q O, OA i q O → lt i (len X) = false → O = RR ∧ q = sn
  rnd : ∀ i q O k m, OA i q O → LL q k m → lt k (len X) = true → ∃ (xp xd xl k2 nm : Int) (ab : Bool), nth X k 3 = some (.rp [.flat (.int .i64 xp), .flat (.int .i64 xd), .flat (.int .u64 xl)]) ∧ ar .add .i64 k 1 = k2 ∧ n - k2.toNat < n - k.toNat ∧
    ((eq (nat q) 0 = true ∧ ab = true) ∨ (eq (nat q) 0 = false ∧ ∃ (yp yd yl q1 : Int) (qN : Nat), ar .sub .i64 (nat q) 1 = q1 ∧ (∀ id, ixs (some ⟨41, O⟩) id 0 q q1 3 = some (.ptr id qN 0)) ∧ cel (some ⟨41, O⟩) qN 0 = some [.flat (.int .i64 yp), .flat (.int .i64 yd), .flat (.int .u64 yl)] ∧ cel (some ⟨41, O⟩) qN 1 = some [.flat (.int .i64 yd), .flat (.int .u64 yl)] ∧
      ((lt yp xp = true ∧ ab = true) ∨ (lt yp xp = false ∧ eq xp yp = true ∧ lt yd xd = true ∧ ab = true) ∨ (lt yp xp = false ∧ eq xp yp = true ∧ lt yd xd = false ∧ ab = false) ∨ (lt yp xp = false ∧ eq xp yp = false ∧ ab = false)))) ∧
    (ab = false → LL q k2 m) ∧
    (ab = true → LL q k2 nm ∧ ((lt m 0 = true ∧ nm = k) ∨ (lt m 0 = false ∧ ∃ zp zd zl : Int, nth X m 3 = some (.rp [.flat (.int .i64 zp), .flat (.int .i64 zd), .flat (.int .u64 zl)]) ∧
      ((lt xp zp = true ∧ nm = k) ∨ (lt xp zp = false ∧ eq xp zp = true ∧ lt xd zd = true ∧ nm = k) ∨ (lt xp zp = false ∧ eq xp zp = true ∧ lt xd zd = false ∧ nm = m) ∨ (lt xp zp = false ∧ eq xp zp = false ∧ nm = m)))))
  sel : ∀ i q O k m, OA i q O → LL q k m → lt k (len X) = false → (lt m 0 = true ∧ O = RR ∧ q = sn) ∨ (lt m 0 = false ∧ ∃ (p d lk i2 : Int) (q2 : Nat), nth X m 3 = some (.rp [.flat (.int .i64 p), .flat (.int .i64 d), .flat (.int .u64 lk)]) ∧ ar .add .i64 i 1 = i2 ∧ n - i2.toNat < n - i.toNat ∧
      ∀ (k w : Int), XA p d k w → lt k (len X) = false → ∃ O2, OA i2 q2 O2 ∧ ∀ (T : Table) (id k0 k : Nat), T k0 = some ⟨41, O⟩ → T k = some ⟨41, [[.flat (.int .i64 p), .flat (.int .i64 d), .flat (.int .u64 w)]]⟩ → k ≠ k0 → app T id 30 30 (.sl k0 0 q) (.sl k 0 1) = some (.sl id 0 q2, (T.set k0 none).set id (some ⟨41, O2⟩)))
  xr : ∀ (p d k w : Int), XA p d k w → lt k (len X) = true → ∃ (xp xd xl k2 : Int), nth X k 3 = some (.rp [.flat (.int .i64 xp), .flat (.int .i64 xd), .flat (.int .u64 xl)]) ∧ ar .add .i64 k 1 = k2 ∧ n - k2.toNat < n - k.toNat ∧
    ((eq xp p = true ∧ eq xd d = true ∧ ∃ w2 : Int, ACalls Try.prog 56 [.flat (.int .u64 w), .flat (.int .u64 xl)] (fun _ => .flat (.int .u64 w2)) (fun _ => []) ∧ XA p d k2 w2) ∨ (eq xp p = true ∧ eq xd d = false ∧ XA p d k2 w) ∨ (eq xp p = false ∧ XA p d k2 w))
theorem ltK_paths {y x : ItemT} {ab : Bool} (h : ltK y x = ab) : (decide (y.prod < x.prod) = true ∧ ab = true) ∨ (decide (y.prod < x.prod) = false ∧ decide (x.prod = y.prod) = true ∧ decide (y.dot < x.dot) = true ∧ ab = true) ∨ (decide (y.prod < x.prod) = false ∧ decide (x.prod = y.prod) = true ∧ decide (y.dot < x.dot) = false ∧ ab = false) ∨ (decide (y.prod < x.prod) = false ∧ decide (x.prod = y.prod) = false ∧ ab = false) := by
  cases ab
  · rw [ltK_off] at h
    by_cases e : x.prod = y.prod
    · right; right; left; exact ⟨decide_eq_false (by omega), decide_eq_true e, decide_eq_false (by omega), rfl⟩
    · right; right; right; exact ⟨decide_eq_false (by omega), decide_eq_false e, rfl⟩
  · rw [ltK_iff] at h
    rcases h with h | ⟨h, h2⟩
    · left; exact ⟨decide_eq_true h, rfl⟩
    · right; left; exact ⟨decide_eq_false (by omega), decide_eq_true h.symm, decide_eq_true h2, rfl⟩
section
variable {l S : List ItemT}
theorem last_facts {q : Nat} (hS : q ≤ S.length) (hq : ¬ q = 0) (hb : S.length ≤ 1000000) : ∃ (y : ItemT) (q1 : Int) (qN : Nat), arI .sub .i64 (natI q) 1 = q1 ∧ (∀ id, ixSl Try.prog (some ⟨41, (S.take q).map itemC⟩) id 0 q q1 3 = some (.ptr id qN 0)) ∧
    ptrCells (some ⟨41, (S.take q).map itemC⟩) qN 0 = some [.flat (.int .i64 y.prod), .flat (.int .i64 y.dot), .flat (.int .u64 (y.look : Int))] ∧ ptrCells (some ⟨41, (S.take q).map itemC⟩) qN 1 = some [.flat (.int .i64 y.dot), .flat (.int .u64 (y.look : Int))] ∧ ∀ x, abv (S.take q) x = ltK y x := by
  obtain ⟨n, rfl⟩ : ∃ n, q = n + 1 := ⟨q - 1, by omega⟩
  have hlt : n < S.length := by omega
  have e : S.take (n + 1) = S.take n ++ [S[n]] := by rw [List.take_add_one, List.getElem?_eq_getElem hlt]; rfl
  have hg : ((S.take (n + 1)).map itemC)[n]? = some (itemC S[n]) := by
    rw [List.getElem?_map, List.getElem?_take, if_pos (Nat.lt_succ_self n), List.getElem?_eq_getElem hlt]; rfl
  refine ⟨S[n], (n : Int), n, ?_, fun id => ?_, own_cel hg (Nat.zero_le _), own_cel hg (by show 1 ≤ 3; decide), fun x => ?_⟩
  · show arI .sub .i64 ((n + 1 : Nat) : Int) 1 = _
    rw [ar_sub64 (by omega) (by omega)]; omega
  · have := own_ix (P := Try.prog) (e := 41) (X := (S.take (n + 1)).map itemC) (n := n + 1) (sz := 3) (i := (n : Int)) c41 (by omega) (by omega) id
    rw [Int.toNat_natCast] at this
    exact this
  · unfold abv
    rw [e, List.getLast?_concat]
theorem selF_ok (hS : OfS l S) (hSl : S.length ≤ l.length) (hn : l.length ≤ 100000) (hl : ∀ x ∈ l, okI64 x) : ∃ OA LL XA, SelF (fun a b => decide (a < b)) (fun a b => decide (a = b)) lenE nthE arI (ixSl Try.prog) ptrCells (evAppend Try.prog) natI (l.map itemC) (S.map itemC) S.length l.length OA LL XA := by
  have hnx : ∀ k : Int, 0 ≤ k → k < l.length → nthE (l.map itemC) k 3 = some (.rp [.flat (.int .i64 (atI l k).prod), .flat (.int .i64 (atI l k).dot), .flat (.int .u64 ((atI l k).look : Int))]) := fun k h0 h1 => nth_map (f := itemC) (fun _ => rfl) h0 h1
  have hXl : lenE (l.map itemC) = (l.length : Int) := len_map _ _
  have ht : ∀ k : Int, decide (k < lenE (l.map itemC)) = true → k < l.length := fun k h => by rw [hXl] at h; exact of_decide_eq_true h
  have hf : ∀ k : Int, decide (k < lenE (l.map itemC)) = false → ¬ k < l.length := fun k h => by rw [hXl] at h; exact of_decide_eq_false h
  refine ⟨fun i q O => 0 ≤ i ∧ i.toNat = q ∧ q ≤ S.length ∧ O = (S.take q).map itemC, fun q k m => LA l (S.take q) k m, fun p d k w => 0 ≤ k ∧ k ≤ l.length ∧ w = (orL p d (l.take k.toNat) : Nat), ?_⟩
  refine ⟨⟨Int.le_refl 0, rfl, Nat.zero_le _, rfl⟩, fun q => la_zero l _, fun p d => ⟨Int.le_refl 0, by omega, rfl⟩, fun i q O h => ?_, fun i q O h hc => ?_, fun i q O k m h h2 hc => ?_, fun i q O k m h h2 hc => ?_, fun p d k w h hc => ?_⟩
  · rw [h.2.2.2]; exact closed_map fun _ => rfl
  · obtain ⟨h0, h1, h2, h3⟩ := h
    have hc := hf _ hc
    have e : q = S.length := by omega
    exact ⟨by rw [h3, e, List.take_length], e⟩
  · obtain ⟨h0, h1, hq, rfl⟩ := h
    have hc := ht _ hc
    have hk0 : 0 ≤ k := h2.1
    have p9 : (decide (natI q = 0) = true ∧ abv (S.take q) (atI l k) = true) ∨ (decide (natI q = 0) = false ∧ ∃ (yp yd yl q1 : Int) (qN : Nat), arI .sub .i64 (natI q) 1 = q1 ∧ (∀ id, ixSl Try.prog (some ⟨41, (S.take q).map itemC⟩) id 0 q q1 3 = some (.ptr id qN 0)) ∧ ptrCells (some ⟨41, (S.take q).map itemC⟩) qN 0 = some [.flat (.int .i64 yp), .flat (.int .i64 yd), .flat (.int .u64 yl)] ∧ ptrCells (some ⟨41, (S.take q).map itemC⟩) qN 1 = some [.flat (.int .i64 yd), .flat (.int .u64 yl)] ∧
        ((decide (yp < (atI l k).prod) = true ∧ abv (S.take q) (atI l k) = true) ∨ (decide (yp < (atI l k).prod) = false ∧ decide ((atI l k).prod = yp) = true ∧ decide (yd < (atI l k).dot) = true ∧ abv (S.take q) (atI l k) = true) ∨ (decide (yp < (atI l k).prod) = false ∧ decide ((atI l k).prod = yp) = true ∧ decide (yd < (atI l k).dot) = false ∧ abv (S.take q) (atI l k) = false) ∨ (decide (yp < (atI l k).prod) = false ∧ decide ((atI l k).prod = yp) = false ∧ abv (S.take q) (atI l k) = false))) := by
      by_cases hz : q = 0
      · subst hz
        exact .inl ⟨rfl, rfl⟩
      · obtain ⟨y, q1, qN, a, b, c, d, e⟩ := last_facts hq hz (by omega)
        refine .inr ⟨decide_eq_false (fun x => hz (by unfold natI at x; omega)), _, _, _, q1, qN, a, b, c, d, ltK_paths (e _).symm⟩
    by_cases hm : m < 0
    · exact ⟨_, _, _, k + 1, k, _, hnx k hk0 hc, ar_add64 (by omega) (by omega), by omega, p9, fun ha => la_skip h2 hc ha, fun ha => ⟨la_first h2 hc ha hm, .inl ⟨decide_eq_true hm, rfl⟩⟩⟩
    · have hml : 0 ≤ m ∧ m < l.length := by
        obtain ⟨a, b, c⟩ := h2
        rcases c with ⟨c, _⟩ | ⟨_, c, _⟩ <;> omega
      have hzz := hnx m hml.1 hml.2
      cases hk : ltK (atI l k) (atI l m)
      · refine ⟨_, _, _, k + 1, m, _, hnx k hk0 hc, ar_add64 (by omega) (by omega), by omega, p9, fun ha => la_skip h2 hc ha, fun ha => ⟨la_keep h2 hc ha hm hk, .inr ⟨decide_eq_false hm, _, _, _, hzz, ?_⟩⟩⟩
        rcases ltK_paths hk with ⟨_, e⟩ | ⟨_, _, _, e⟩ | ⟨a, b, c, _⟩ | ⟨a, b, _⟩
        · cases e
        · cases e
        · right; right; left; exact ⟨a, by rw [← b]; exact decide_eq_decide.2 eq_comm, c, rfl⟩
        · right; right; right; exact ⟨a, by rw [← b]; exact decide_eq_decide.2 eq_comm, rfl⟩
      · refine ⟨_, _, _, k + 1, k, _, hnx k hk0 hc, ar_add64 (by omega) (by omega), by omega, p9, fun ha => la_skip h2 hc ha, fun ha => ⟨la_less h2 hc ha hm hk, .inr ⟨decide_eq_false hm, _, _, _, hzz, ?_⟩⟩⟩
        rcases ltK_paths hk with ⟨a, _⟩ | ⟨a, b, c, _⟩ | ⟨_, _, _, e⟩ | ⟨_, _, e⟩
        · left; exact ⟨a, rfl⟩
        · right; left; exact ⟨a, by rw [← b]; exact decide_eq_decide.2 eq_comm, c, rfl⟩
        · cases e
        · cases e
  · obtain ⟨i0, i1, i2, i3⟩ := h
    have hc := hf _ hc
    by_cases hm : m < 0
    · have e := sel_none hS i2 h2 hc hm
      exact .inl ⟨decide_eq_true hm, by rw [i3, e, List.take_length], e⟩
    · obtain ⟨m0, ml, hq, hT⟩ := sel_some hS i2 h2 hc hm
      refine .inr ⟨decide_eq_false hm, _, _, _, i + 1, q + 1, hnx m m0 ml, ar_add64 (by omega) (by omega), by omega, fun k w hx hk => ?_⟩
      obtain ⟨x0, x1, rfl⟩ := hx
      have hk := hf _ hk
      have e : l.take k.toNat = l := List.take_of_length_le (by omega)
      rw [e]
      refine ⟨_, ⟨by omega, by omega, hq, rfl⟩, fun T id k0 k a b c => ?_⟩
      refine app_tip u30 z41 c41 (by decide) rfl (by decide) a b c rfl (by rw [i3, List.length_map, List.length_take]; omega) rfl ?_ (by omega)
      rw [hT, List.map_append, i3, ← List.map_take, List.take_take, Nat.min_self]
      rfl
  · obtain ⟨k0, k1, rfl⟩ := h
    have h1 := ht _ hc
    have e := orL_next (p := p) (d := d) k0 h1
    have hok : okI64 (atI l k) := hl _ (at_mem k0 h1)
    have hlt : orL p d (l.take k.toNat) < 18446744073709551616 := orL_lt fun x hx => hl x (List.mem_of_mem_take hx)
    refine ⟨_, _, _, k + 1, hnx k k0 h1, ar_add64 (by omega) (by omega), by omega, ?_⟩
    by_cases hp : (atI l k).prod = p
    · by_cases hd : (atI l k).dot = d
      · left
        refine ⟨decide_eq_true hp, decide_eq_true hd, _, F.or_calls _ _ hlt hok, by omega, by omega, ?_⟩
        rw [e]; unfold orStep; rw [if_pos ⟨hp, hd⟩]
      · right; left
        refine ⟨decide_eq_true hp, decide_eq_false hd, by omega, by omega, ?_⟩
        rw [e]; unfold orStep; rw [if_neg (fun x => hd x.2)]
    · right; right
      refine ⟨decide_eq_false hp, by omega, by omega, ?_⟩
      rw [e]; unfold orStep; rw [if_neg (fun x => hp x.1)]
end
end Go.Proofs.Ytnceadbfgpiaaaa.C
