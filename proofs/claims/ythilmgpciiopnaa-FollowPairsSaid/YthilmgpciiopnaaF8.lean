/- Plain law: least fixed points of a grammar, told by derivations; what goes up by counting. No program in sight. -/
import Derived.Test.YthilmgpciiopnaaF7
namespace Go.Proofs.Ythilmgpciiopnaa.F
open Go G U K
set_option linter.unusedVariables false
set_option linter.unusedSimpArgs false
set_option maxRecDepth 100000
set_option maxHeartbeats 4000000
def okI (n : Nat) (i : Int) : Prop := 0 ≤ i ∧ i < n
instance (n : Nat) (i : Int) : Decidable (okI n i) := inferInstanceAs (Decidable (_ ∧ _))
/-- May a sort be nothing? -/
inductive Nul (P : List ProdT) (n : Nat) : Int → Prop
  | mk (p : ProdT) (hp : p ∈ P) (hs : okI n p.sort) (h1 : ∀ s ∈ p.body, s.sort = true ∧ okI n s.n) (h2 : ∀ s ∈ p.body, Nul P n s.n) : Nul P n p.sort
/-- May a sort begin with a token? -/
inductive Fst (P : List ProdT) (n : Nat) : Int → Nat → Prop
  | tok (p : ProdT) (t : Nat) (pre post : List SymT) (s : SymT) (hp : p ∈ P) (hs : okI n p.sort) (hb : p.body = pre ++ s :: post) (h1 : ∀ x ∈ pre, x.sort = true ∧ okI n x.n ∧ Nul P n x.n) (h2 : s.sort = false) (h3 : (bitN s.n).testBit t = true) : Fst P n p.sort t
  | sort (p : ProdT) (t : Nat) (pre post : List SymT) (s : SymT) (hp : p ∈ P) (hs : okI n p.sort) (hb : p.body = pre ++ s :: post) (h1 : ∀ x ∈ pre, x.sort = true ∧ okI n x.n ∧ Nul P n x.n) (h2 : s.sort = true) (h3 : okI n s.n) (h4 : Fst P n s.n t) : Fst P n p.sort t
section
variable {P : List ProdT} {n : Nat} {E : List Bool} {F : List Nat}
theorem row2_iff (hE : E.length = n) (hF : F.length = n) : ∀ (l : List SymT), (rowT E F l).2 = true ↔ ∀ s ∈ l, s.sort = true ∧ okI n s.n ∧ atI E s.n = true
  | [] => by simp [rowT]
  | s :: r => by
    have ih := row2_iff hE hF r
    rw [rowT]
    by_cases hs : s.sort = false
    · rw [if_pos hs]; simp [hs]
    · rw [if_neg hs]
      have hs' : s.sort = true := by simpa using hs
      by_cases hr : s.n < 0 ∨ (E.length : Int) ≤ s.n ∨ (F.length : Int) ≤ s.n
      · rw [if_pos hr]
        have : ¬ okI n s.n := by unfold okI; omega
        simp [this]
      · rw [if_neg hr]
        have hok : okI n s.n := by unfold okI; omega
        by_cases he : atI E s.n = false
        · rw [if_pos he]; simp [he]
        · rw [if_neg he]
          have he' : atI E s.n = true := by simpa using he
          simp only [ih, List.forall_mem_cons, hs', hok, he', true_and, and_self]
theorem row1_iff (hE : E.length = n) (hF : F.length = n) (t : Nat) : ∀ (l : List SymT), (rowT E F l).1.testBit t = true ↔
    ∃ pre s post, l = pre ++ s :: post ∧ (∀ x ∈ pre, x.sort = true ∧ okI n x.n ∧ atI E x.n = true) ∧ ((s.sort = false ∧ (bitN s.n).testBit t = true) ∨ (s.sort = true ∧ okI n s.n ∧ (atI F s.n).testBit t = true))
  | [] => by simp [rowT]
  | s :: r => by
    have ih := row1_iff hE hF t r
    have key : (∃ pre x post, s :: r = pre ++ x :: post ∧ (∀ y ∈ pre, y.sort = true ∧ okI n y.n ∧ atI E y.n = true) ∧ ((x.sort = false ∧ (bitN x.n).testBit t = true) ∨ (x.sort = true ∧ okI n x.n ∧ (atI F x.n).testBit t = true))) ↔
        ((s.sort = false ∧ (bitN s.n).testBit t = true) ∨ (s.sort = true ∧ okI n s.n ∧ (atI F s.n).testBit t = true)) ∨ ((s.sort = true ∧ okI n s.n ∧ atI E s.n = true) ∧ (rowT E F r).1.testBit t = true) := by
      rw [ih]
      constructor
      · rintro ⟨pre, x, post, h1, h2, h3⟩
        cases pre with
        | nil => simp at h1; obtain ⟨rfl, rfl⟩ := h1; exact .inl h3
        | cons y pre =>
          simp at h1
          obtain ⟨rfl, rfl⟩ := h1
          exact .inr ⟨h2 _ (by simp), pre, x, post, rfl, fun z hz => h2 z (by simp [hz]), h3⟩
      · rintro (h | ⟨h1, pre, x, post, rfl, h2, h3⟩)
        · exact ⟨[], s, r, rfl, fun y hy => by simp at hy, h⟩
        · refine ⟨s :: pre, x, post, rfl, fun y hy => ?_, h3⟩
          rcases List.mem_cons.1 hy with rfl | hy
          · exact h1
          · exact h2 y hy
    rw [key, rowT]
    by_cases hs : s.sort = false
    · rw [if_pos hs]; simp [hs]
    · rw [if_neg hs]
      have hs' : s.sort = true := by simpa using hs
      by_cases hr : s.n < 0 ∨ (E.length : Int) ≤ s.n ∨ (F.length : Int) ≤ s.n
      · rw [if_pos hr]
        have : ¬ okI n s.n := by unfold okI; omega
        simp [this, hs']
      · rw [if_neg hr]
        have hok : okI n s.n := by unfold okI; omega
        by_cases he : atI E s.n = false
        · rw [if_pos he]; simp [he, hs', hok]
        · rw [if_neg he]
          have he' : atI E s.n = true := by simpa using he
          simp [he', hs', hok, Nat.testBit_or]

def SoundE (P : List ProdT) (n : Nat) (E : List Bool) : Prop := E.length = n ∧ ∀ i, okI n i → atI E i = true → Nul P n i
def SoundF (P : List ProdT) (n : Nat) (F : List Nat) : Prop := F.length = n ∧ ∀ i t, okI n i → (atI F i).testBit t = true → Fst P n i t
def ClosedE (P : List ProdT) (n : Nat) (E : List Bool) : Prop := ∀ p ∈ P, okI n p.sort → (∀ s ∈ p.body, s.sort = true ∧ okI n s.n ∧ atI E s.n = true) → atI E p.sort = true
def ClosedF (P : List ProdT) (n : Nat) (E : List Bool) (F : List Nat) : Prop := ∀ p ∈ P, okI n p.sort → ∀ t, (rowT E F p.body).1.testBit t = true → (atI F p.sort).testBit t = true
theorem nul_in (hc : ClosedE P n E) {i : Int} (h : Nul P n i) : atI E i = true := by
  induction h with
  | mk p hp hs h1 h2 ih => exact hc p hp hs fun s hs' => ⟨(h1 s hs').1, (h1 s hs').2, ih s hs'⟩
theorem fst_in (hE : SoundE P n E) (hc : ClosedE P n E) (hF : F.length = n) (hcF : ClosedF P n E F) {i : Int} {t : Nat} (h : Fst P n i t) : (atI F i).testBit t = true := by
  induction h with
  | tok p t pre post s hp hs hb h1 h2 h3 =>
    refine hcF p hp hs t ((row1_iff hE.1 hF t p.body).2 ⟨pre, s, post, hb, fun x hx => ?_, .inl ⟨h2, h3⟩⟩)
    obtain ⟨a, b, c⟩ := h1 x hx
    exact ⟨a, b, nul_in hc c⟩
  | sort p t pre post s hp hs hb h1 h2 h3 h4 ih =>
    refine hcF p hp hs t ((row1_iff hE.1 hF t p.body).2 ⟨pre, s, post, hb, fun x hx => ?_, .inr ⟨h2, h3, ih⟩⟩)
    obtain ⟨a, b, c⟩ := h1 x hx
    exact ⟨a, b, nul_in hc c⟩
theorem ext_at {α : Type} [Inhabited α] {a b : List α} (ha : a.length = n) (hb : b.length = n) (h : ∀ i, okI n i → atI a i = atI b i) : a = b := by
  apply List.ext_getElem (by rw [ha, hb])
  intro j h1 h2
  have := h (j : Int) ⟨by omega, by omega⟩
  simp only [atI, List.getD, Int.toNat_natCast, List.getElem?_eq_getElem h1, List.getElem?_eq_getElem h2, Option.getD_some] at this
  exact this
theorem uniqE {E' : List Bool} (h1 : SoundE P n E) (h2 : ClosedE P n E) (h3 : SoundE P n E') (h4 : ClosedE P n E') : E = E' := by
  refine ext_at h1.1 h3.1 fun i hi => ?_
  rw [Bool.eq_iff_iff]
  exact ⟨fun h => nul_in h4 (h1.2 i hi h), fun h => nul_in h2 (h3.2 i hi h)⟩
theorem uniqF {F' : List Nat} (hE : SoundE P n E) (hc : ClosedE P n E) (h1 : SoundF P n F) (h2 : ClosedF P n E F) (h3 : SoundF P n F') (h4 : ClosedF P n E F') : F = F' := by
  refine ext_at h1.1 h3.1 fun i hi => ?_
  apply Nat.eq_of_testBit_eq
  intro t
  rw [Bool.eq_iff_iff]
  exact ⟨fun h => fst_in hE hc h3.1 h4 (h1.2 i t hi h), fun h => fst_in hE hc h1.1 h2 (h3.2 i t hi h)⟩
theorem at_set {α : Type} [Inhabited α] {l : List α} {i j : Int} {v : α} (hl : l.length = n) (hi : okI n i) (hj : okI n j) : atI (l.set i.toNat v) j = if i = j then v else atI l j := by
  unfold okI at hi hj
  unfold atI
  rw [List.getD_eq_getElem?_getD, List.getElem?_set, List.getD_eq_getElem?_getD]
  by_cases h : i.toNat = j.toNat
  · rw [if_pos h, if_pos (by omega), if_pos (by omega)]; rfl
  · rw [if_neg h, if_neg (by omega)]
theorem sound_null {p : ProdT} (hE : SoundE P n E) (hp : p ∈ P) (hs : okI n p.sort) (h : ∀ s ∈ p.body, s.sort = true ∧ okI n s.n ∧ atI E s.n = true) : Nul P n p.sort :=
  .mk p hp hs (fun s hs => ⟨(h s hs).1, (h s hs).2.1⟩) fun s hs => hE.2 _ (h s hs).2.1 (h s hs).2.2
theorem sound_row {p : ProdT} {t : Nat} (hE : SoundE P n E) (hF : SoundF P n F) (hp : p ∈ P) (hs : okI n p.sort) (h : (rowT E F p.body).1.testBit t = true) : Fst P n p.sort t := by
  obtain ⟨pre, s, post, hb, h1, h2⟩ := (row1_iff hE.1 hF.1 t p.body).1 h
  have h1' : ∀ x ∈ pre, x.sort = true ∧ okI n x.n ∧ Nul P n x.n := fun x hx => ⟨(h1 x hx).1, (h1 x hx).2.1, hE.2 _ (h1 x hx).2.1 (h1 x hx).2.2⟩
  rcases h2 with ⟨a, b⟩ | ⟨a, b, c⟩
  · exact .tok p t pre post s hp hs hb h1' a b
  · exact .sort p t pre post s hp hs hb h1' a b (hF.2 _ _ b c)
theorem soundE_set {i : Int} {b : Bool} (hE : SoundE P n E) (hi : okI n i) (h : b = true → Nul P n i) : SoundE P n (E.set i.toNat b) := by
  refine ⟨by rw [List.length_set]; exact hE.1, fun j hj hh => ?_⟩
  rw [at_set hE.1 hi hj] at hh
  by_cases hij : i = j
  · rw [if_pos hij] at hh; exact hij ▸ h hh
  · rw [if_neg hij] at hh; exact hE.2 j hj hh
theorem soundF_set {i : Int} {v : Nat} (hF : SoundF P n F) (hi : okI n i) (h : ∀ t, v.testBit t = true → Fst P n i t) : SoundF P n (F.set i.toNat v) := by
  refine ⟨by rw [List.length_set]; exact hF.1, fun j t hj hh => ?_⟩
  rw [at_set hF.1 hi hj] at hh
  by_cases hij : i = j
  · rw [if_pos hij] at hh; exact hij ▸ h t hh
  · rw [if_neg hij] at hh; exact hF.2 j t hj hh
theorem sound_zero (P : List ProdT) (n : Nat) : SoundE P n (List.replicate n false) := by
  refine ⟨by simp, fun i hi h => ?_⟩
  unfold okI at hi
  simp only [atI, List.getD_eq_getElem?_getD, List.getElem?_replicate] at h
  split at h <;> cases h
theorem soundF_zero (P : List ProdT) (n : Nat) : SoundF P n (List.replicate n 0) := by
  refine ⟨by simp, fun i t hi h => ?_⟩
  simp only [atI, List.getD_eq_getElem?_getD, List.getElem?_replicate] at h
  split at h <;> simp at h
end
/-! ### What goes up -/
def Up {σ α : Type} (m : σ → Nat) (ok : σ → Prop) (f : σ → α → σ) : Prop := ∀ s a, ok s → ok (f s a) ∧ (f s a = s ∨ m s < m (f s a))
theorem up_fold {σ α : Type} {m : σ → Nat} {ok : σ → Prop} {f : σ → α → σ} (h : Up m ok f) : ∀ (l : List α) (s : σ), ok s → ok (l.foldl f s) ∧ ((l.foldl f s = s ∧ ∀ a ∈ l, f s a = s) ∨ m s < m (l.foldl f s))
  | [], s, hs => ⟨hs, .inl ⟨rfl, fun a ha => by simp at ha⟩⟩
  | a :: l, s, hs => by
    obtain ⟨h1, h2⟩ := h s a hs
    obtain ⟨h3, h4⟩ := up_fold h l (f s a) h1
    refine ⟨h3, ?_⟩
    rw [List.foldl_cons]
    rcases h2 with h2 | h2
    · rw [h2] at h4 ⊢
      rcases h4 with ⟨h4, h5⟩ | h4
      · exact .inl ⟨h4, fun b hb => by
          rcases List.mem_cons.1 hb with rfl | hb
          · exact h2
          · exact h5 b hb⟩
      · exact .inr h4
    · rcases h4 with ⟨h4, _⟩ | h4
      · exact .inr (by rw [h4]; exact h2)
      · exact .inr (Nat.lt_trans h2 h4)
/-- So many rounds. -/
def iter {σ : Type} (f : σ → σ) : Nat → σ → σ
  | 0, s => s
  | k + 1, s => f (iter f k s)
theorem up_iter {σ : Type} {m : σ → Nat} {ok : σ → Prop} {f : σ → σ} (h : ∀ s, ok s → ok (f s) ∧ (f s = s ∨ m s < m (f s))) (s : σ) (hs : ok s) : ∀ k, ok (iter f k s) ∧ (f (iter f k s) = iter f k s ∨ k ≤ m (iter f k s))
  | 0 => ⟨hs, .inr (Nat.zero_le _)⟩
  | k + 1 => by
    obtain ⟨h1, h2⟩ := up_iter h s hs k
    obtain ⟨h3, h4⟩ := h _ h1
    refine ⟨h3, ?_⟩
    show f (f (iter f k s)) = f (iter f k s) ∨ k + 1 ≤ m (f (iter f k s))
    rcases h4 with h4 | h4
    · left; rw [h4, h4]
    · rcases h2 with h2 | h2
      · rw [h2] at h4; exact absurd h4 (Nat.lt_irrefl _)
      · exact .inr (by omega)
def cntB (l : List Bool) : Nat := l.countP id
theorem cnt_le (l : List Bool) : cntB l ≤ l.length := List.countP_le_length
theorem cnt_set : ∀ (l : List Bool) (i : Nat), l.set i true = l ∨ cntB l < cntB (l.set i true)
  | [], i => .inl rfl
  | b :: l, 0 => by
    cases b
    · right; simp [cntB]
    · left; rfl
  | b :: l, i + 1 => by
    rcases cnt_set l i with h | h
    · left; simp [h]
    · right
      simp only [cntB, List.set_cons_succ, List.countP_cons] at h ⊢
      omega
def bitc (x : Nat) : Nat := (List.range 64).countP fun t => x.testBit t
theorem countP_lt {α : Type} {p q : α → Bool} : ∀ {l : List α}, (∀ a ∈ l, p a = true → q a = true) → l.countP p ≤ l.countP q ∧ ((∃ a ∈ l, q a = true ∧ p a = false) → l.countP p < l.countP q)
  | [], _ => ⟨Nat.le_refl _, fun ⟨a, h, _⟩ => by simp at h⟩
  | a :: l, h => by
    obtain ⟨h1, h2⟩ := countP_lt (p := p) (q := q) (l := l) fun b hb => h b (by simp [hb])
    have ha := h a (by simp)
    simp only [List.countP_cons]
    refine ⟨?_, fun ⟨b, hb, hq, hp⟩ => ?_⟩
    · cases hp : p a
      · simp; omega
      · rw [ha hp]; simp; omega
    · rcases List.mem_cons.1 hb with rfl | hb
      · rw [hq, hp]; simp; omega
      · have := h2 ⟨b, hb, hq, hp⟩
        cases hp : p a
        · simp; omega
        · rw [ha hp]; simp; omega
theorem bitc_le (x : Nat) : bitc x ≤ 64 := Nat.le_trans List.countP_le_length (by simp)
theorem bitc_or {x y : Nat} (hx : x < 18446744073709551616) (hy : y < 18446744073709551616) : x ||| y = x ∨ bitc x < bitc (x ||| y) := by
  by_cases h : x ||| y = x
  · exact .inl h
  · right
    refine (countP_lt fun t _ ht => by rw [Nat.testBit_or, ht]; rfl).2 ?_
    apply Classical.byContradiction
    intro hn
    apply h
    apply Nat.eq_of_testBit_eq
    intro t
    by_cases ht : t < 64
    · cases hq : (x ||| y).testBit t
      · rw [Nat.testBit_or] at hq
        cases hp : x.testBit t <;> simp_all
      · cases hp : x.testBit t
        · exact absurd ⟨t, List.mem_range.2 ht, hq, hp⟩ hn
        · rfl
    · have hp : (18446744073709551616 : Nat) ≤ 2 ^ t := by
        have := Nat.pow_le_pow_right (n := 2) (by decide) (show 64 ≤ t by omega)
        simpa using this
      rw [Nat.testBit_lt_two_pow (Nat.lt_of_lt_of_le (or_lt hx hy) hp), Nat.testBit_lt_two_pow (Nat.lt_of_lt_of_le hx hp)]
def cntS : List Nat → Nat
  | [] => 0
  | x :: l => bitc x + cntS l
theorem cntS_le : ∀ (l : List Nat), cntS l ≤ 64 * l.length
  | [] => by simp [cntS]
  | x :: l => by
    have := cntS_le l
    have := bitc_le x
    simp only [cntS, List.length_cons]; omega
theorem cntS_set : ∀ (l : List Nat) (i : Nat) (v w : Nat), l[i]? = some v → (w = v ∨ bitc v < bitc w) → l.set i w = l ∨ cntS l < cntS (l.set i w)
  | [], i, v, w, h, _ => by simp at h
  | x :: l, 0, v, w, h, hw => by
    simp at h; subst h
    rcases hw with rfl | hw
    · exact .inl rfl
    · right; simp [cntS]; exact hw
  | x :: l, i + 1, v, w, h, hw => by
    rcases cntS_set l i v w (by simpa using h) hw with h' | h'
    · left; simp [h']
    · right; simp [cntS]; exact h'
end Go.Proofs.Ythilmgpciiopnaa.F
