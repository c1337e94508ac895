/- C1, C2, C3, C4, C5, P0, P1, C6, one behind the other. -/
import Derived.Test.YtnceadbfgpiaaaaQ8
import Derived.Test.YtnceadbfgpiaaaaQ10
/- Plain law: items as facts (what is there; what may come behind it), what follows from them. No program in sight. -/
namespace Go.Proofs.Ytnceadbfgpiaaaa.C
open Go G U J F
set_option linter.unusedVariables false
set_option linter.unusedSimpArgs false
/-- An item is there. -/
def KF (l : List ItemT) (p d : Int) : Prop := ∃ x ∈ l, x.prod = p ∧ x.dot = d
/-- A token may come behind it. -/
def TF (l : List ItemT) (p d : Int) (t : Nat) : Prop := ∃ x ∈ l, x.prod = p ∧ x.dot = d ∧ x.look.testBit t = true
theorem kf_app {a b : List ItemT} {p d : Int} : KF (a ++ b) p d ↔ KF a p d ∨ KF b p d := by
  unfold KF
  constructor
  · rintro ⟨x, hx, h⟩
    rcases List.mem_append.1 hx with hx | hx
    · exact .inl ⟨x, hx, h⟩
    · exact .inr ⟨x, hx, h⟩
  · rintro (⟨x, hx, h⟩ | ⟨x, hx, h⟩)
    · exact ⟨x, List.mem_append_left _ hx, h⟩
    · exact ⟨x, List.mem_append_right _ hx, h⟩
theorem tf_app {a b : List ItemT} {p d : Int} {t : Nat} : TF (a ++ b) p d t ↔ TF a p d t ∨ TF b p d t := by
  unfold TF
  constructor
  · rintro ⟨x, hx, h⟩
    rcases List.mem_append.1 hx with hx | hx
    · exact .inl ⟨x, hx, h⟩
    · exact .inr ⟨x, hx, h⟩
  · rintro (⟨x, hx, h⟩ | ⟨x, hx, h⟩)
    · exact ⟨x, List.mem_append_left _ hx, h⟩
    · exact ⟨x, List.mem_append_right _ hx, h⟩
theorem tf_kf {l : List ItemT} {p d : Int} {t : Nat} (h : TF l p d t) : KF l p d := by
  obtain ⟨x, hx, h1, h2, _⟩ := h
  exact ⟨x, hx, h1, h2⟩
theorem ofS_kf {l S : List ItemT} (h : OfS l S) (p d : Int) : KF S p d ↔ KF l p d := by
  constructor
  · rintro ⟨y, hy, rfl, rfl⟩
    obtain ⟨⟨x, hx, he⟩, _⟩ := (h.mem y).1 hy
    have he := eqK_iff.1 he
    exact ⟨x, hx, he⟩
  · rintro ⟨x, hx, rfl, rfl⟩
    obtain ⟨z, hz, he⟩ := h.all x hx
    have he := eqK_iff.1 he
    exact ⟨z, hz, he.1.symm, he.2.symm⟩
theorem ofS_tf {l S : List ItemT} (h : OfS l S) (p d : Int) (t : Nat) : TF S p d t ↔ TF l p d t := by
  constructor
  · rintro ⟨y, hy, rfl, rfl, ht⟩
    obtain ⟨x, hx, he, h2⟩ := (((h.mem y).1 hy).2 t).1 ht
    have he := eqK_iff.1 he
    exact ⟨x, hx, he.1, he.2, h2⟩
  · rintro ⟨x, hx, rfl, rfl, ht⟩
    obtain ⟨z, hz, he⟩ := h.all x hx
    have h2 := (((h.mem z).1 hz).2 t).2 ⟨x, hx, he, ht⟩
    have he := eqK_iff.1 he
    exact ⟨z, hz, he.1.symm, he.2.symm, h2⟩
theorem sorted_one {S : List ItemT} (h : Sorted S) {x y : ItemT} (hx : x ∈ S) (hy : y ∈ S) (h1 : x.prod = y.prod) (h2 : x.dot = y.dot) : x = y := by
  induction S with
  | nil => cases hx
  | cons z S ih =>
    obtain ⟨hz, hS⟩ := sorted_cons.1 h
    rcases List.mem_cons.1 hx with ex | hx
    · rcases List.mem_cons.1 hy with ey | hy
      · rw [ex, ey]
      · have := ltK_iff.1 (hz y hy)
        rw [← ex] at this
        omega
    · rcases List.mem_cons.1 hy with ey | hy
      · have := ltK_iff.1 (hz x hx)
        rw [← ey] at this
        omega
      · exact ih hS hx hy
theorem sorted_facts {S S' : List ItemT} (h : Sorted S) (h' : Sorted S') (hk : ∀ p d, KF S p d ↔ KF S' p d) (ht : ∀ p d t, TF S p d t ↔ TF S' p d t) : S = S' := by
  have key : ∀ {A B : List ItemT}, Sorted A → Sorted B → (∀ p d, KF A p d ↔ KF B p d) → (∀ p d t, TF A p d t ↔ TF B p d t) → ∀ y, y ∈ A → y ∈ B := by
    intro A B hA hB hk ht y hy
    obtain ⟨z, hz, h1, h2⟩ := (hk y.prod y.dot).1 ⟨y, hy, rfl, rfl⟩
    have hl : z.look = y.look := by
      apply Nat.eq_of_testBit_eq
      intro t
      rw [Bool.eq_iff_iff]
      constructor
      · intro hb
        obtain ⟨w, hw, w1, w2, w3⟩ := (ht y.prod y.dot t).2 ⟨z, hz, h1, h2, hb⟩
        rw [sorted_one hA hw hy w1 w2] at w3
        exact w3
      · intro hb
        obtain ⟨w, hw, w1, w2, w3⟩ := (ht y.prod y.dot t).1 ⟨y, hy, rfl, rfl, hb⟩
        rw [sorted_one hB hw hz (w1.trans h1.symm) (w2.trans h2.symm)] at w3
        exact w3
    have : z = y := by
      cases z; cases y
      simp only at h1 h2 hl
      subst h1 h2 hl
      rfl
    exact this ▸ hz
  exact sorted_ext h h' fun y => ⟨key h h' hk ht y, key h' h (fun p d => (hk p d).symm) (fun p d t => (ht p d t).symm) y⟩
theorem ofT_facts {a b : List ItemT} (hk : ∀ p d, KF a p d ↔ KF b p d) (ht : ∀ p d t, TF a p d t ↔ TF b p d t) : ofT a = ofT b :=
  sorted_facts (ofT_ok a).sorted (ofT_ok b).sorted (fun p d => (ofS_kf (ofT_ok a) p d).trans ((hk p d).trans (ofS_kf (ofT_ok b) p d).symm)) (fun p d t => (ofS_tf (ofT_ok a) p d t).trans ((ht p d t).trans (ofS_tf (ofT_ok b) p d t).symm))
theorem ofT_same {S : List ItemT} (h : Sorted S) : ofT S = S :=
  sorted_facts (ofT_ok S).sorted h (ofS_kf (ofT_ok S)) (ofS_tf (ofT_ok S))
/-! ### What follows -/
/-- What the rules are told by: the sort that comes, the productions of a sort, what begins the rest, may the rest be empty. -/
structure Ru where
  nx : Int → Int → Option Int
  pr : Int → Int → Prop
  fi : Int → Int → Nat
  em : Int → Int → Bool
inductive KD (R : Ru) (l : List ItemT) : Int → Int → Prop
  | base {p d : Int} (h : KF l p d) : KD R l p d
  | step {p d N q : Int} (h : KD R l p d) (hn : R.nx p d = some N) (hq : R.pr N q) : KD R l q 0
inductive TD (R : Ru) (l : List ItemT) : Int → Int → Nat → Prop
  | base {p d : Int} {t : Nat} (h : TF l p d t) : TD R l p d t
  | first {p d N q : Int} {t : Nat} (h : KD R l p d) (hn : R.nx p d = some N) (hq : R.pr N q) (ht : (R.fi p d).testBit t = true) : TD R l q 0 t
  | look {p d N q : Int} {t : Nat} (h : TD R l p d t) (hn : R.nx p d = some N) (hq : R.pr N q) (he : R.em p d = true) : TD R l q 0 t
/-- Closed: the sum of what follows. -/
structure CL (R : Ru) (l S : List ItemT) : Prop where
  sorted : Sorted S
  k : ∀ p d, KF S p d ↔ KD R l p d
  t : ∀ p d t, TF S p d t ↔ TD R l p d t
variable {R : Ru} {l l' S S' : List ItemT}
theorem cl_one (h : CL R l S) (h' : CL R l S') : S = S' :=
  sorted_facts h.sorted h'.sorted (fun p d => (h.k p d).trans (h'.k p d).symm) fun p d t => (h.t p d t).trans (h'.t p d t).symm
theorem kd_mono (hk : ∀ p d, KF l p d → KD R l' p d) {p d : Int} (h : KD R l p d) : KD R l' p d := by
  induction h with
  | base h => exact hk _ _ h
  | step _ hn hq ih => exact .step ih hn hq
theorem td_mono (hk : ∀ p d, KF l p d → KD R l' p d) (ht : ∀ p d t, TF l p d t → TD R l' p d t) {p d : Int} {t : Nat} (h : TD R l p d t) : TD R l' p d t := by
  induction h with
  | base h => exact ht _ _ _ h
  | first h hn hq hb => exact .first (kd_mono hk h) hn hq hb
  | look _ hn hq he ih => exact .look ih hn hq he
/-- What is closed follows from the same facts in whatever form. -/
theorem cl_facts (hk : ∀ p d, KF l p d ↔ KF l' p d) (ht : ∀ p d t, TF l p d t ↔ TF l' p d t) (h : CL R l S) : CL R l' S :=
  ⟨h.sorted, fun p d => (h.k p d).trans ⟨kd_mono fun p d h => .base ((hk p d).1 h), kd_mono fun p d h => .base ((hk p d).2 h)⟩,
    fun p d t => (h.t p d t).trans ⟨td_mono (fun p d h => .base ((hk p d).1 h)) fun p d t h => .base ((ht p d t).1 h), td_mono (fun p d h => .base ((hk p d).2 h)) fun p d t h => .base ((ht p d t).2 h)⟩⟩
/-- Closed again, it stays. -/
theorem cl_again (h : CL R l S) (h' : CL R S S') : S' = S := by
  refine sorted_facts h'.sorted h.sorted (fun p d => ?_) fun p d t => ?_
  · rw [h'.k, h.k]
    exact ⟨kd_mono fun p d hk => (h.k p d).1 hk, fun hk => .base ((h.k p d).2 hk)⟩
  · rw [h'.t, h.t]
    exact ⟨td_mono (fun p d hk => (h.k p d).1 hk) fun p d t hk => (h.t p d t).1 hk, fun hk => .base ((h.t p d t).2 hk)⟩
/-- What is closed of some is part of what is closed of more. -/
theorem cl_more (h : CL R l S) (h' : CL R (l ++ l') S') : ofT (S ++ S') = S' := by
  rw [← ofT_same h'.sorted]
  conv => rhs; rw [← ofT_same h'.sorted]
  rw [ofT_same h'.sorted]
  have hk : ∀ p d, KF S p d → KF S' p d := fun p d hx => (h'.k p d).2 (kd_mono (fun p d hk => .base (kf_app.2 (.inl hk))) ((h.k p d).1 hx))
  have ht : ∀ p d t, TF S p d t → TF S' p d t := fun p d t hx => (h'.t p d t).2 (td_mono (fun p d hk => .base (kf_app.2 (.inl hk))) (fun p d t hk => .base (tf_app.2 (.inl hk))) ((h.t p d t).1 hx))
  refine sorted_facts (ofT_ok _).sorted (ofT_ok _).sorted (fun p d => ?_) fun p d t => ?_
  · rw [ofS_kf (ofT_ok _), ofS_kf (ofT_ok _), kf_app]
    exact ⟨fun h => h.elim (hk p d) id, .inr⟩
  · rw [ofS_tf (ofT_ok _), ofS_tf (ofT_ok _), tf_app]
    exact ⟨fun h => h.elim (ht p d t) id, .inr⟩
end Go.Proofs.Ytnceadbfgpiaaaa.C
/- Plain law: what follows, round by round. No program in sight. -/
namespace Go.Proofs.Ytnceadbfgpiaaaa.C
open Go G U J F
set_option linter.unusedVariables false
set_option linter.unusedSimpArgs false
/-- The rules of a grammar. -/
def rule (g : GramT) (E : List Bool) (F : List Nat) : Ru where
  nx p d := if nextOk g ⟨p, d, 0⟩ = true ∧ (nextS g ⟨p, d, 0⟩).sort = true then some (nextS g ⟨p, d, 0⟩).n else none
  pr N q := 0 ≤ q ∧ q < g.prods.length ∧ (atI g.prods q).sort = N
  fi p d := (rowT E F (restL g ⟨p, d, 0⟩)).1
  em p d := (rowT E F (restL g ⟨p, d, 0⟩)).2
/-- The first productions of a sort, with such tokens. -/
def addN (g : GramT) (N : Int) (look : Nat) (n : Nat) : List ItemT := ((List.range n).filter fun (q : Nat) => decide ((atI g.prods (q : Int)).sort = N)).map fun (q : Nat) => ⟨(q : Int), 0, look⟩
/-- What an item brings. -/
def stepA (g : GramT) (E : List Bool) (F : List Nat) (x : ItemT) : List ItemT := if (nextOk g x && (nextS g x).sort) = true then addN g (nextS g x).n (withT E F (restL g x) x.look) g.prods.length else []
theorem addN_mem {g : GramT} {N : Int} {look n : Nat} {y : ItemT} : y ∈ addN g N look n ↔ ∃ q : Nat, q < n ∧ (atI g.prods (q : Int)).sort = N ∧ y = ⟨(q : Int), 0, look⟩ := by
  unfold addN
  simp only [List.mem_map, List.mem_filter, List.mem_range, decide_eq_true_eq]
  constructor
  · rintro ⟨q, ⟨h1, h2⟩, rfl⟩; exact ⟨q, h1, h2, rfl⟩
  · rintro ⟨q, h1, h2, rfl⟩; exact ⟨q, ⟨h1, h2⟩, rfl⟩
theorem addN_next {g : GramT} {N : Int} {look n : Nat} : addN g N look (n + 1) = addN g N look n ++ (if (atI g.prods (n : Int)).sort = N then [⟨(n : Int), 0, look⟩] else []) := by
  unfold addN
  rw [List.range_succ, List.filter_append, List.map_append]
  congr 1
  by_cases h : (atI g.prods (n : Int)).sort = N
  · rw [if_pos h]; simp [h]
  · rw [if_neg h]; simp [h]
theorem with_bit {E : List Bool} {F : List Nat} {b : List SymT} {look t : Nat} : (withT E F b look).testBit t = true ↔ (rowT E F b).1.testBit t = true ∨ ((rowT E F b).2 = true ∧ look.testBit t = true) := by
  unfold withT
  cases (rowT E F b).2
  · simp
  · simp [Nat.testBit_or]
theorem next_key (g : GramT) (x : ItemT) : nextOk g x = nextOk g ⟨x.prod, x.dot, 0⟩ ∧ nextS g x = nextS g ⟨x.prod, x.dot, 0⟩ ∧ restL g x = restL g ⟨x.prod, x.dot, 0⟩ := ⟨rfl, rfl, rfl⟩
section
variable {g : GramT} {E : List Bool} {F : List Nat} {l : List ItemT}
theorem step_mem {x y : ItemT} : y ∈ stepA g E F x ↔ ∃ N, (rule g E F).nx x.prod x.dot = some N ∧ (rule g E F).pr N y.prod ∧ y.dot = 0 ∧ y.look = withT E F (restL g x) x.look := by
  unfold stepA
  obtain ⟨e1, e2, e3⟩ := next_key g x
  by_cases h : (nextOk g x && (nextS g x).sort) = true
  · rw [if_pos h, addN_mem]
    have h2 := Bool.and_eq_true_iff.1 h
    have hn : (rule g E F).nx x.prod x.dot = some (nextS g x).n := by
      show (if _ then _ else _) = _
      rw [if_pos ⟨e1 ▸ h2.1, e2 ▸ h2.2⟩, e2]
    constructor
    · rintro ⟨q, h3, h4, rfl⟩
      exact ⟨_, hn, ⟨by simp, by simp; omega, h4⟩, rfl, rfl⟩
    · rintro ⟨N, h3, ⟨h4, h5, h6⟩, h7, h8⟩
      rw [hn] at h3
      have h3 := Option.some.inj h3
      refine ⟨y.prod.toNat, by omega, ?_, ?_⟩
      · rw [Int.toNat_of_nonneg h4, h6, h3]
      · cases y
        simp only at h4 h7 h8 ⊢
        rw [Int.toNat_of_nonneg h4, h7, h8]
  · rw [if_neg h]
    constructor
    · intro h; cases h
    · rintro ⟨N, h3, _⟩
      have hn : (rule g E F).nx x.prod x.dot = none := by
        show (if _ then _ else _) = _
        rw [if_neg]
        rintro ⟨h4, h5⟩
        exact h (Bool.and_eq_true_iff.2 ⟨e1 ▸ h4, e2 ▸ h5⟩)
      rw [hn] at h3
      cases h3
/-- Nothing but what follows. -/
def Sound (R : Ru) (l out : List ItemT) : Prop := (∀ p d, KF out p d → KD R l p d) ∧ ∀ p d t, TF out p d t → TD R l p d t
theorem sound_self {R : Ru} : Sound R l l := ⟨fun _ _ h => .base h, fun _ _ _ h => .base h⟩
theorem sound_app {R : Ru} {a b : List ItemT} (ha : Sound R l a) (hb : Sound R l b) : Sound R l (a ++ b) :=
  ⟨fun p d h => (kf_app.1 h).elim (ha.1 p d) (hb.1 p d), fun p d t h => (tf_app.1 h).elim (ha.2 p d t) (hb.2 p d t)⟩
theorem sound_of {R : Ru} {a : List ItemT} (h : Sound R l a) : Sound R l (ofT a) :=
  ⟨fun p d hk => h.1 p d ((ofS_kf (ofT_ok a) p d).1 hk), fun p d t ht => h.2 p d t ((ofS_tf (ofT_ok a) p d t).1 ht)⟩
theorem sound_step {out : List ItemT} (h : Sound (rule g E F) l out) {x : ItemT} (hx : x ∈ out) : Sound (rule g E F) l (stepA g E F x) := by
  constructor
  · rintro p d ⟨y, hy, rfl, rfl⟩
    obtain ⟨N, h1, h2, h3, h4⟩ := step_mem.1 hy
    rw [h3]
    exact .step (h.1 _ _ ⟨x, hx, rfl, rfl⟩) h1 h2
  · rintro p d t ⟨y, hy, rfl, rfl, ht⟩
    obtain ⟨N, h1, h2, h3, h4⟩ := step_mem.1 hy
    rw [h3]
    rw [h4, with_bit] at ht
    rcases ht with ht | ⟨ht, hb⟩
    · exact .first (h.1 _ _ ⟨x, hx, rfl, rfl⟩) h1 h2 ht
    · exact .look (h.2 _ _ t ⟨x, hx, rfl, rfl, hb⟩) h1 h2 ht
/-- What each item brings is there. -/
def ClosedA (g : GramT) (E : List Bool) (F : List Nat) (out : List ItemT) : Prop := ∀ x ∈ out, (∀ p d, KF (stepA g E F x) p d → KF out p d) ∧ ∀ p d t, TF (stepA g E F x) p d t → TF out p d t
theorem cl_of {out : List ItemT} (hs : Sorted out) (hS : Sound (rule g E F) l out) (hk : ∀ p d, KF l p d → KF out p d) (ht : ∀ p d t, TF l p d t → TF out p d t) (hc : ClosedA g E F out) : CL (rule g E F) l out := by
  have k1 : ∀ p d, KD (rule g E F) l p d → KF out p d := by
    intro p d h
    induction h with
    | base h => exact hk _ _ h
    | step _ hn hq ih =>
      obtain ⟨x, hx, rfl, rfl⟩ := ih
      exact (hc x hx).1 _ _ ⟨⟨_, 0, withT E F (restL g x) x.look⟩, step_mem.2 ⟨_, hn, hq, rfl, rfl⟩, rfl, rfl⟩
  refine ⟨hs, fun p d => ⟨hS.1 p d, k1 p d⟩, fun p d t => ⟨hS.2 p d t, fun h => ?_⟩⟩
  induction h with
  | base h => exact ht _ _ _ h
  | first h hn hq hb =>
    obtain ⟨x, hx, rfl, rfl⟩ := k1 _ _ h
    exact (hc x hx).2 _ _ _ ⟨⟨_, 0, withT E F (restL g x) x.look⟩, step_mem.2 ⟨_, hn, hq, rfl, rfl⟩, rfl, rfl, with_bit.2 (.inl hb)⟩
  | look _ hn hq he ih =>
    obtain ⟨x, hx, rfl, rfl, hb⟩ := ih
    exact (hc x hx).2 _ _ _ ⟨⟨_, 0, withT E F (restL g x) x.look⟩, step_mem.2 ⟨_, hn, hq, rfl, rfl⟩, rfl, rfl, with_bit.2 (.inr ⟨he, hb⟩)⟩
end
end Go.Proofs.Ytnceadbfgpiaaaa.C
/- Plain law: the rounds come to an end; what is missing grows less. No program in sight. -/
namespace Go.Proofs.Ytnceadbfgpiaaaa.C
open Go G U J F
set_option linter.unusedVariables false
set_option linter.unusedSimpArgs false
section
variable {g : GramT} {E : List Bool} {F : List Nat} {l : List ItemT}
theorem cl_ofT {m : List ItemT} (hS : Sound (rule g E F) l m) (hk : ∀ p d, KF l p d → KF m p d) (ht : ∀ p d t, TF l p d t → TF m p d t) (hc : ClosedA g E F m) : CL (rule g E F) l (ofT m) := by
  have k1 : ∀ p d, KD (rule g E F) l p d → KF m p d := by
    intro p d h
    induction h with
    | base h => exact hk _ _ h
    | step _ hn hq ih =>
      obtain ⟨x, hx, rfl, rfl⟩ := ih
      exact (hc x hx).1 _ _ ⟨⟨_, 0, withT E F (restL g x) x.look⟩, step_mem.2 ⟨_, hn, hq, rfl, rfl⟩, rfl, rfl⟩
  refine ⟨(ofT_ok m).sorted, fun p d => (ofS_kf (ofT_ok m) p d).trans ⟨hS.1 p d, k1 p d⟩, fun p d t => (ofS_tf (ofT_ok m) p d t).trans ⟨hS.2 p d t, fun h => ?_⟩⟩
  induction h with
  | base h => exact ht _ _ _ h
  | first h hn hq hb =>
    obtain ⟨x, hx, rfl, rfl⟩ := k1 _ _ h
    exact (hc x hx).2 _ _ _ ⟨⟨_, 0, withT E F (restL g x) x.look⟩, step_mem.2 ⟨_, hn, hq, rfl, rfl⟩, rfl, rfl, with_bit.2 (.inl hb)⟩
  | look _ hn hq he ih =>
    obtain ⟨x, hx, rfl, rfl, hb⟩ := ih
    exact (hc x hx).2 _ _ _ ⟨⟨_, 0, withT E F (restL g x) x.look⟩, step_mem.2 ⟨_, hn, hq, rfl, rfl⟩, rfl, rfl, with_bit.2 (.inr ⟨he, hb⟩)⟩
/-! ### What is missing -/
def factB (out : List ItemT) (x : Nat × Nat) : Bool := out.any fun y => decide (y.prod = (x.1 : Int)) && decide (y.dot = 0) && (decide (x.2 = 64) || y.look.testBit x.2)
def pairs (n : Nat) : List (Nat × Nat) := (List.range n).flatMap fun q => (List.range 65).map fun j => (q, j)
def miss (n : Nat) (out : List ItemT) : Nat := (pairs n).countP fun x => !factB out x
theorem countP_lt {α : Type} {P Q : α → Bool} : ∀ {L : List α}, (∀ x ∈ L, Q x = true → P x = true) → (∃ x ∈ L, P x = true ∧ Q x = false) → L.countP Q < L.countP P
  | [], _, ⟨x, hx, _⟩ => by cases hx
  | a :: L, h, ⟨x, hx, h1, h2⟩ => by
    have hle : L.countP Q ≤ L.countP P := List.countP_mono_left fun y hy => h y (List.mem_cons_of_mem _ hy)
    rw [List.countP_cons, List.countP_cons]
    rcases List.mem_cons.1 hx with rfl | hx
    · rw [h1, h2]; simp; omega
    · have ih := countP_lt (fun y hy => h y (List.mem_cons_of_mem _ hy)) ⟨x, hx, h1, h2⟩
      have ha := h a (List.mem_cons_self ..)
      cases hq : Q a
      · simp; omega
      · rw [ha hq]; simp; omega
theorem factB_key {out : List ItemT} {q : Nat} : factB out (q, 64) = true ↔ KF out q 0 := by
  unfold factB KF
  simp only [List.any_eq_true, Bool.and_eq_true, Bool.or_eq_true, decide_eq_true_eq, true_or, and_true]
theorem factB_bit {out : List ItemT} {q t : Nat} (h : t < 64) : factB out (q, t) = true ↔ TF out q 0 t := by
  unfold factB TF
  simp only [List.any_eq_true, Bool.and_eq_true, Bool.or_eq_true, decide_eq_true_eq]
  constructor
  · rintro ⟨x, hx, ⟨h1, h2⟩, h3 | h3⟩
    · omega
    · exact ⟨x, hx, h1, h2, h3⟩
  · rintro ⟨x, hx, h1, h2, h3⟩
    exact ⟨x, hx, ⟨h1, h2⟩, .inr h3⟩
theorem pairs_mem {n q j : Nat} : (q, j) ∈ pairs n ↔ q < n ∧ j < 65 := by
  unfold pairs
  simp only [List.mem_flatMap, List.mem_map, List.mem_range, Prod.mk.injEq]
  constructor
  · rintro ⟨a, h1, b, h2, rfl, rfl⟩; exact ⟨h1, h2⟩
  · rintro ⟨h1, h2⟩; exact ⟨q, h1, j, h2, rfl, rfl⟩
/-- More facts than before. -/
def Grew (n : Nat) (a b : List ItemT) : Prop := ∃ q : Nat, q < n ∧ ((¬ KF a q 0 ∧ KF b q 0) ∨ ∃ t, t < 64 ∧ ¬ TF a q 0 t ∧ TF b q 0 t)
theorem miss_lt {n : Nat} {a b : List ItemT} (hk : ∀ p d, KF a p d → KF b p d) (ht : ∀ p d t, TF a p d t → TF b p d t) (h : Grew n a b) : miss n b < miss n a := by
  refine countP_lt ?_ ?_
  · rintro ⟨q, j⟩ hx hb
    obtain ⟨h1, h2⟩ := pairs_mem.1 hx
    cases ha : factB a (q, j)
    · rfl
    · exfalso
      have : factB b (q, j) = true := by
        by_cases hj : j = 64
        · subst hj; exact factB_key.2 (hk _ _ (factB_key.1 ha))
        · exact (factB_bit (by omega)).2 (ht _ _ _ ((factB_bit (by omega)).1 ha))
      rw [this] at hb; cases hb
  · obtain ⟨q, hq, ⟨h1, h2⟩ | ⟨t, h0, h1, h2⟩⟩ := h
    · refine ⟨(q, 64), pairs_mem.2 ⟨hq, by omega⟩, ?_, ?_⟩
      · cases ha : factB a (q, 64)
        · rfl
        · exact absurd (factB_key.1 ha) h1
      · rw [factB_key.2 h2]; rfl
    · refine ⟨(q, t), pairs_mem.2 ⟨hq, by omega⟩, ?_, ?_⟩
      · cases ha : factB a (q, t)
        · rfl
        · exact absurd ((factB_bit h0).1 ha) h1
      · rw [(factB_bit h0).2 h2]; rfl
theorem bit_small {n t : Nat} (h : n < 18446744073709551616) (hb : n.testBit t = true) : t < 64 := by
  rcases Nat.lt_or_ge t 64 with h1 | h1
  · exact h1
  · have h2 : n < 2 ^ t := Nat.lt_of_lt_of_le h (show 2 ^ 64 ≤ 2 ^ t from Nat.pow_le_pow_right (Nat.succ_pos 1) h1)
    rw [Nat.testBit_lt_two_pow h2] at hb
    cases hb
/-! ### The document's rounds -/
def roundT (g : GramT) (E : List Bool) (F : List Nat) (out : List ItemT) : List ItemT := ofT (out ++ out.flatMap (stepA g E F))
theorem flat_step {out : List ItemT} {y : ItemT} : y ∈ out.flatMap (stepA g E F) ↔ ∃ x ∈ out, y ∈ stepA g E F x := List.mem_flatMap
theorem round_sound {out : List ItemT} (h : Sound (rule g E F) l out) : Sound (rule g E F) l (roundT g E F out) := by
  refine sound_of (sound_app h ⟨?_, ?_⟩)
  · rintro p d ⟨y, hy, h1, h2⟩
    obtain ⟨x, hx, hy⟩ := flat_step.1 hy
    exact (sound_step h hx).1 p d ⟨y, hy, h1, h2⟩
  · rintro p d t ⟨y, hy, h1, h2, h3⟩
    obtain ⟨x, hx, hy⟩ := flat_step.1 hy
    exact (sound_step h hx).2 p d t ⟨y, hy, h1, h2, h3⟩
theorem round_kf {out : List ItemT} {p d : Int} : KF (roundT g E F out) p d ↔ KF out p d ∨ KF (out.flatMap (stepA g E F)) p d := (ofS_kf (ofT_ok _) p d).trans kf_app
theorem round_tf {out : List ItemT} {p d : Int} {t : Nat} : TF (roundT g E F out) p d t ↔ TF out p d t ∨ TF (out.flatMap (stepA g E F)) p d t := (ofS_tf (ofT_ok _) p d t).trans tf_app
theorem round_end {out : List ItemT} (hs : Sorted out) (hS : Sound (rule g E F) l out) (hk : ∀ p d, KF l p d → KF out p d) (ht : ∀ p d t, TF l p d t → TF out p d t) (he : roundT g E F out = out) : CL (rule g E F) l out := by
  refine cl_of hs hS hk ht fun x hx => ⟨fun p d h => ?_, fun p d t h => ?_⟩
  · rw [← he, round_kf]
    obtain ⟨y, hy, h1, h2⟩ := h
    exact .inr ⟨y, flat_step.2 ⟨x, hx, hy⟩, h1, h2⟩
  · rw [← he, round_tf]
    obtain ⟨y, hy, h1, h2, h3⟩ := h
    exact .inr ⟨y, flat_step.2 ⟨x, hx, hy⟩, h1, h2, h3⟩
theorem withT_lt (hF : Sets F) {b : List SymT} {look : Nat} (h : look < 18446744073709551616) : withT E F b look < 18446744073709551616 := by
  unfold withT
  have := rowT_lt (E := E) hF b
  split
  · exact Nat.or_lt_two_pow (n := 64) this h
  · exact this
theorem step_ok (hF : Sets F) {x : ItemT} (hx : okI64 x) : ∀ y ∈ stepA g E F x, okI64 y := by
  intro y hy
  obtain ⟨N, _, _, _, h⟩ := step_mem.1 hy
  unfold okI64
  rw [h]
  exact withT_lt hF hx
theorem round_more (hF : Sets F) {out : List ItemT} (hs : Sorted out) (hok : ∀ x ∈ out, okI64 x) (hne : roundT g E F out ≠ out) : miss g.prods.length (roundT g E F out) < miss g.prods.length out := by
  refine miss_lt (fun p d h => round_kf.2 (.inl h)) (fun p d t h => round_tf.2 (.inl h)) ?_
  apply Classical.byContradiction
  intro hg
  refine hne (sorted_facts (ofT_ok _).sorted hs (fun p d => ⟨fun h => ?_, fun h => round_kf.2 (.inl h)⟩) fun p d t => ⟨fun h => ?_, fun h => round_tf.2 (.inl h)⟩)
  · rcases round_kf.1 h with h1 | ⟨y, hy, rfl, rfl⟩
    · exact h1
    · obtain ⟨x, hx, hy2⟩ := flat_step.1 hy
      obtain ⟨N, _, ⟨h2, h3, _⟩, h4, _⟩ := step_mem.1 hy2
      apply Classical.byContradiction
      intro hn
      refine hg ⟨y.prod.toNat, by omega, .inl ⟨?_, ?_⟩⟩
      · rw [Int.toNat_of_nonneg h2, ← h4]; exact hn
      · rw [Int.toNat_of_nonneg h2, ← h4]; exact h
  · rcases round_tf.1 h with h1 | ⟨y, hy, rfl, rfl, hb⟩
    · exact h1
    · obtain ⟨x, hx, hy2⟩ := flat_step.1 hy
      obtain ⟨N, _, ⟨h2, h3, _⟩, h4, _⟩ := step_mem.1 hy2
      apply Classical.byContradiction
      intro hn
      refine hg ⟨y.prod.toNat, by omega, .inr ⟨t, bit_small (step_ok hF (hok x hx) y hy2) hb, ?_, ?_⟩⟩
      · rw [Int.toNat_of_nonneg h2, ← h4]; exact hn
      · rw [Int.toNat_of_nonneg h2, ← h4]; exact h
end
end Go.Proofs.Ytnceadbfgpiaaaa.C
/- Plain law: clos.Close's list of what is open. No program in sight. -/
namespace Go.Proofs.Ytnceadbfgpiaaaa.C
open Go G U J F
set_option linter.unusedVariables false
set_option linter.unusedSimpArgs false
structure WS where
  th : List Bool
  lk : List Nat
  op : List ItemT
def WS.t (st : WS) (q : Nat) : Bool := st.th.getD q false
def WS.l (st : WS) (q : Nat) : Nat := st.lk.getD q 0
def bg1 (g : GramT) (N : Int) (look : Nat) (st : WS) (n : Nat) : WS :=
  if (atI g.prods (n : Int)).sort = N ∧ ¬ (st.t n = true ∧ (st.l n ||| look) = st.l n) then
    ⟨st.th.set n true, st.lk.set n (st.l n ||| look), st.op ++ [⟨(n : Int), 0, st.l n ||| look⟩]⟩ else st
def bgT (g : GramT) (N : Int) (look : Nat) (k : Nat) (st : WS) : WS := (List.range k).foldl (bg1 g N look) st
theorem bg_next {g : GramT} {N : Int} {look k : Nat} {st : WS} : bgT g N look (k + 1) st = bg1 g N look (bgT g N look k st) k := by
  unfold bgT
  rw [List.range_succ, List.foldl_append]; rfl
def held (n : Nat) (st : WS) : List ItemT := ((List.range n).filter fun (q : Nat) => st.t q).map fun (q : Nat) => ⟨(q : Int), 0, st.l q⟩
theorem held_mem {n : Nat} {st : WS} {y : ItemT} : y ∈ held n st ↔ ∃ q : Nat, q < n ∧ st.t q = true ∧ y = ⟨(q : Int), 0, st.l q⟩ := by
  unfold held
  simp only [List.mem_map, List.mem_filter, List.mem_range]
  constructor
  · rintro ⟨q, ⟨h1, h2⟩, rfl⟩; exact ⟨q, h1, h2, rfl⟩
  · rintro ⟨q, h1, h2, rfl⟩; exact ⟨q, ⟨h1, h2⟩, rfl⟩
theorem held_kf {n : Nat} {st : WS} {q : Nat} : KF (held n st) q 0 ↔ q < n ∧ st.t q = true := by
  constructor
  · rintro ⟨y, hy, h1, h2⟩
    obtain ⟨r, h3, h4, rfl⟩ := held_mem.1 hy
    have h1 : (r : Int) = q := h1
    have : r = q := by omega
    subst this
    exact ⟨h3, h4⟩
  · rintro ⟨h1, h2⟩
    exact ⟨_, held_mem.2 ⟨q, h1, h2, rfl⟩, rfl, rfl⟩
theorem held_tf {n : Nat} {st : WS} {q t : Nat} : TF (held n st) q 0 t ↔ q < n ∧ st.t q = true ∧ (st.l q).testBit t = true := by
  constructor
  · rintro ⟨y, hy, h1, h2, h5⟩
    obtain ⟨r, h3, h4, rfl⟩ := held_mem.1 hy
    have h1 : (r : Int) = q := h1
    have : r = q := by omega
    subst this
    exact ⟨h3, h4, h5⟩
  · rintro ⟨h1, h2, h3⟩
    exact ⟨_, held_mem.2 ⟨q, h1, h2, rfl⟩, rfl, rfl, h3⟩
/-- One production. -/
structure Bg (g : GramT) (N : Int) (look n k : Nat) (st st' : WS) : Prop where
  th : st'.th.length = st.th.length
  lk : st'.lk.length = st.lk.length
  grow : ∀ q, st.t q = true → st'.t q = true
  bits : ∀ q t, (st.l q).testBit t = true → (st'.l q).testBit t = true
  got : ∀ q, q < k → (atI g.prods (q : Int)).sort = N → st'.t q = true ∧ ∀ t, look.testBit t = true → (st'.l q).testBit t = true
  new : ∀ q : Nat, (st'.t q = st.t q ∧ st'.l q = st.l q) ∨ (⟨(q : Int), 0, st'.l q⟩ : ItemT) ∈ st'.op
  keep : ∀ x ∈ st.op, x ∈ st'.op
  zero : ∀ q, st'.t q = false → st'.l q = 0
  ok : ∀ q, st'.l q < 18446744073709551616
  onlyK : ∀ q, st'.t q = true → st.t q = true ∨ (q < n ∧ (atI g.prods (q : Int)).sort = N)
  onlyT : ∀ q t, (st'.l q).testBit t = true → (st.l q).testBit t = true ∨ (look.testBit t = true ∧ q < n ∧ (atI g.prods (q : Int)).sort = N)
  opn : ∀ x ∈ st'.op, x ∈ st.op ∨ ∃ q : Nat, q < n ∧ (atI g.prods (q : Int)).sort = N ∧ x.prod = q ∧ x.dot = 0 ∧ x.look < 18446744073709551616 ∧ ∀ t, x.look.testBit t = true → (st'.l q).testBit t = true
  meas : 2 * miss n (held n st') + st'.op.length ≤ 2 * miss n (held n st) + st.op.length
theorem getD_set {α : Type} {l : List α} {i j : Nat} {a d : α} (h : i < l.length) : (l.set i a).getD j d = if i = j then a else l.getD j d := by
  simp only [List.getD_eq_getElem?_getD, List.getElem?_set]
  by_cases hij : i = j
  · rw [if_pos hij, if_pos hij, if_pos h]; rfl
  · rw [if_neg hij, if_neg hij]
theorem bg_zero {g : GramT} {N : Int} {look n : Nat} {st : WS} (hz : ∀ q, st.t q = false → st.l q = 0) (hok : ∀ q, st.l q < 18446744073709551616) : Bg g N look n 0 st st :=
  ⟨rfl, rfl, fun _ h => h, fun _ _ h => h, fun q h => absurd h (Nat.not_lt_zero q), fun _ => .inl ⟨rfl, rfl⟩, fun _ h => h, hz, hok, fun _ h => .inl h, fun _ _ h => .inl h, fun _ h => .inl h, Nat.le_refl _⟩
theorem bg_step {g : GramT} {N : Int} {look n k : Nat} {st st' : WS} (hlook : look < 18446744073709551616) (hth : st.th.length = n) (hlk : st.lk.length = n) (hk : k < n) (h : Bg g N look n k st st') : Bg g N look n (k + 1) st (bg1 g N look st' k) := by
  unfold bg1
  by_cases hc : (atI g.prods (k : Int)).sort = N ∧ ¬ (st'.t k = true ∧ (st'.l k ||| look) = st'.l k)
  · rw [if_pos hc]
    obtain ⟨hN, hne⟩ := hc
    have ht : ∀ q, WS.t ⟨st'.th.set k true, st'.lk.set k (st'.l k ||| look), st'.op ++ [⟨(k : Int), 0, st'.l k ||| look⟩]⟩ q = if k = q then true else st'.t q := fun q => getD_set (by rw [h.th, hth]; exact hk)
    have hl : ∀ q, WS.l ⟨st'.th.set k true, st'.lk.set k (st'.l k ||| look), st'.op ++ [⟨(k : Int), 0, st'.l k ||| look⟩]⟩ q = if k = q then st'.l k ||| look else st'.l q := fun q => getD_set (by rw [h.lk, hlk]; exact hk)
    generalize hst : (⟨st'.th.set k true, st'.lk.set k (st'.l k ||| look), st'.op ++ [⟨(k : Int), 0, st'.l k ||| look⟩]⟩ : WS) = s2 at ht hl ⊢
    have hop : s2.op = st'.op ++ [⟨(k : Int), 0, st'.l k ||| look⟩] := by rw [← hst]
    have g1 : ∀ q, st'.t q = true → s2.t q = true := fun q hq => by rw [ht]; split <;> simp [hq]
    have g2 : ∀ q t, (st'.l q).testBit t = true → (s2.l q).testBit t = true := fun q t hq => by
      rw [hl]
      split
      · rename_i e; subst e; rw [Nat.testBit_or, hq]; rfl
      · exact hq
    refine ⟨by rw [← hst]; simp [h.th], by rw [← hst]; simp [h.lk], fun q hq => g1 q (h.grow q hq), fun q t hq => g2 q t (h.bits q t hq), fun q hq hs => ?_, fun q => ?_, fun x hx => by rw [hop]; exact List.mem_append_left _ (h.keep x hx), fun q hq => ?_, fun q => ?_, fun q hq => ?_, fun q t hq => ?_, fun x hx => ?_, ?_⟩
    · by_cases e : k = q
      · subst e
        refine ⟨by rw [ht, if_pos rfl], fun t hb => by rw [hl, if_pos rfl, Nat.testBit_or, hb, Bool.or_true]⟩
      · obtain ⟨a, b⟩ := h.got q (by omega) hs
        exact ⟨g1 q a, fun t hb => g2 q t (b t hb)⟩
    · by_cases e : k = q
      · subst e
        right
        rw [hop, hl, if_pos rfl]
        exact List.mem_append_right _ (List.mem_singleton.2 rfl)
      · rcases h.new q with ⟨a, b⟩ | a
        · left
          rw [ht, hl, if_neg e, if_neg e]
          exact ⟨a, b⟩
        · right
          rw [hop, hl, if_neg e]
          exact List.mem_append_left _ a
    · rw [ht] at hq
      rw [hl]
      split at hq
      · cases hq
      · rename_i e
        rw [if_neg e]; exact h.zero q hq
    · rw [hl]
      split
      · exact Nat.or_lt_two_pow (n := 64) (h.ok k) hlook
      · exact h.ok q
    · rw [ht] at hq
      split at hq
      · rename_i e; subst e; exact .inr ⟨hk, hN⟩
      · exact h.onlyK q hq
    · rw [hl] at hq
      split at hq
      · rename_i e
        subst e
        rw [Nat.testBit_or, Bool.or_eq_true] at hq
        rcases hq with hq | hq
        · exact h.onlyT k t hq
        · exact .inr ⟨hq, hk, hN⟩
      · exact h.onlyT q t hq
    · rw [hop] at hx
      rcases List.mem_append.1 hx with hx | hx
      · rcases h.opn x hx with a | ⟨q, a, b, c, d, e, f⟩
        · exact .inl a
        · exact .inr ⟨q, a, b, c, d, e, fun t hb => g2 q t (f t hb)⟩
      · rw [List.mem_singleton.1 hx]
        refine .inr ⟨k, hk, hN, rfl, rfl, Nat.or_lt_two_pow (n := 64) (h.ok k) hlook, fun t hb => by rw [hl, if_pos rfl]; exact hb⟩
    · have hm : miss n (held n s2) < miss n (held n st') := by
        refine miss_lt (fun p d => ?_) (fun p d t => ?_) ⟨k, hk, ?_⟩
        · rintro ⟨y, hy, rfl, rfl⟩
          obtain ⟨q, a, b, rfl⟩ := held_mem.1 hy
          exact held_kf.2 ⟨a, g1 q b⟩
        · rintro ⟨y, hy, rfl, rfl, hb⟩
          obtain ⟨q, a, b, rfl⟩ := held_mem.1 hy
          exact held_tf.2 ⟨a, g1 q b, g2 q t hb⟩
        · cases htk : st'.t k
          · left
            refine ⟨fun hx => ?_, held_kf.2 ⟨hk, by rw [ht, if_pos rfl]⟩⟩
            rw [(held_kf.1 hx).2] at htk; cases htk
          · right
            have hne2 : (st'.l k ||| look) ≠ st'.l k := fun e => hne ⟨htk, e⟩
            obtain ⟨t, hb⟩ := Nat.exists_testBit_ne_of_ne hne2
            have hb1 : (st'.l k ||| look).testBit t = true ∧ (st'.l k).testBit t = false := by
              rw [Nat.testBit_or] at hb ⊢
              cases h1 : (st'.l k).testBit t
              · rw [h1] at hb
                cases h2 : look.testBit t
                · rw [h2] at hb; exact absurd rfl hb
                · exact ⟨rfl, rfl⟩
              · rw [h1] at hb; simp at hb
            refine ⟨t, bit_small (Nat.or_lt_two_pow (n := 64) (h.ok k) hlook) hb1.1, fun hx => ?_, held_tf.2 ⟨hk, by rw [ht, if_pos rfl], by rw [hl, if_pos rfl]; exact hb1.1⟩⟩
            rw [(held_tf.1 hx).2.2] at hb1; cases hb1.2
      have := h.meas
      rw [hop, List.length_append]
      simp only [List.length_cons, List.length_nil]
      omega
  · rw [if_neg hc]
    refine ⟨h.th, h.lk, h.grow, h.bits, fun q hq hs => ?_, h.new, h.keep, h.zero, h.ok, h.onlyK, h.onlyT, h.opn, h.meas⟩
    by_cases e : q = k
    · subst e
      have hc2 : st'.t q = true ∧ (st'.l q ||| look) = st'.l q := by
        apply Classical.byContradiction
        intro hx
        exact hc ⟨hs, hx⟩
      refine ⟨hc2.1, fun t hb => ?_⟩
      rw [← hc2.2, Nat.testBit_or, hb, Bool.or_true]
    · exact h.got q (by omega) hs
end Go.Proofs.Ytnceadbfgpiaaaa.C
/- Plain law: clos.Close's rounds. No program in sight. -/
namespace Go.Proofs.Ytnceadbfgpiaaaa.C
open Go G U J F
set_option linter.unusedVariables false
set_option linter.unusedSimpArgs false
theorem bg_all {g : GramT} {N : Int} {look n : Nat} {st : WS} (hlook : look < 18446744073709551616) (hth : st.th.length = n) (hlk : st.lk.length = n) (hz : ∀ q, st.t q = false → st.l q = 0) (hok : ∀ q, st.l q < 18446744073709551616) : ∀ k, k ≤ n → Bg g N look n k st (bgT g N look k st) := by
  intro k
  induction k with
  | zero => intro _; exact bg_zero hz hok
  | succ k ih =>
    intro hk
    rw [bg_next]
    exact bg_step hlook hth hlk (by omega) (ih (by omega))
section
variable {g : GramT} {E : List Bool} {F : List Nat} {l : List ItemT}
def Cov (g : GramT) (E : List Bool) (F : List Nat) (st : WS) (x : ItemT) : Prop := ∀ N, (rule g E F).nx x.prod x.dot = some N → ∀ q : Nat, q < g.prods.length → (atI g.prods (q : Int)).sort = N → st.t q = true ∧ ∀ t, (withT E F (restL g x) x.look).testBit t = true → (st.l q).testBit t = true
structure WI (g : GramT) (E : List Bool) (F : List Nat) (l : List ItemT) (st : WS) : Prop where
  th : st.th.length = g.prods.length
  lk : st.lk.length = g.prods.length
  zero : ∀ q, st.t q = false → st.l q = 0
  ok : ∀ q, st.l q < 18446744073709551616
  oks : ∀ x ∈ st.op, okI64 x
  so : Sound (rule g E F) l st.op
  sh : Sound (rule g E F) l (held g.prods.length st)
  cov : ∀ x, x ∈ l ∨ x ∈ held g.prods.length st → x ∈ st.op ∨ Cov g E F st x
def ws0 (n : Nat) (l : List ItemT) : WS := ⟨List.replicate n false, List.replicate n 0, l⟩
theorem wi_zero (hl : ∀ x ∈ l, okI64 x) : WI g E F l (ws0 g.prods.length l) := by
  have ht : ∀ q, (ws0 g.prods.length l).t q = false := fun q => by
    show (List.replicate _ false).getD q false = false
    rw [List.getD_eq_getElem?_getD, List.getElem?_replicate]; split <;> rfl
  have hl0 : ∀ q, (ws0 g.prods.length l).l q = 0 := fun q => by
    show (List.replicate _ 0).getD q 0 = 0
    rw [List.getD_eq_getElem?_getD, List.getElem?_replicate]; split <;> rfl
  have hh : ∀ y, ¬ y ∈ held g.prods.length (ws0 g.prods.length l) := fun y hy => by
    obtain ⟨q, _, h, _⟩ := held_mem.1 hy
    rw [ht] at h; cases h
  refine ⟨List.length_replicate, List.length_replicate, fun q _ => hl0 q, fun q => by rw [hl0]; decide, hl, sound_self, ⟨?_, ?_⟩, fun x hx => hx.elim (fun h => .inl h) fun h => absurd h (hh x)⟩
  · rintro p d ⟨y, hy, _⟩; exact absurd hy (hh y)
  · rintro p d t ⟨y, hy, _⟩; exact absurd hy (hh y)
theorem wi_pop {st : WS} {x : ItemT} {r : List ItemT} (h : WI g E F l st) (ho : st.op = x :: r) (hn : (rule g E F).nx x.prod x.dot = none) : WI g E F l ⟨st.th, st.lk, r⟩ := by
  have hsub : ∀ y ∈ r, y ∈ st.op := fun y hy => by rw [ho]; exact List.mem_cons_of_mem _ hy
  refine ⟨h.th, h.lk, h.zero, h.ok, fun y hy => h.oks y (hsub y hy), ⟨?_, ?_⟩, h.sh, fun y hy => ?_⟩
  · rintro p d ⟨y, hy, h1⟩; exact h.so.1 p d ⟨y, hsub y hy, h1⟩
  · rintro p d t ⟨y, hy, h1⟩; exact h.so.2 p d t ⟨y, hsub y hy, h1⟩
  · rcases h.cov y hy with h1 | h1
    · rw [ho] at h1
      rcases List.mem_cons.1 h1 with rfl | h1
      · right
        intro N hN
        rw [hn] at hN; cases hN
      · exact .inl h1
    · exact .inr h1
theorem wi_begin (hF : Sets F) {st : WS} {x : ItemT} {r : List ItemT} {N : Int} (h : WI g E F l st) (ho : st.op = x :: r) (hn : (rule g E F).nx x.prod x.dot = some N) :
    WI g E F l (bgT g N (withT E F (restL g x) x.look) g.prods.length ⟨st.th, st.lk, r⟩) ∧ 2 * miss g.prods.length (held g.prods.length (bgT g N (withT E F (restL g x) x.look) g.prods.length ⟨st.th, st.lk, r⟩)) + (bgT g N (withT E F (restL g x) x.look) g.prods.length ⟨st.th, st.lk, r⟩).op.length < 2 * miss g.prods.length (held g.prods.length st) + st.op.length := by
  have hx : x ∈ st.op := by rw [ho]; exact List.mem_cons_self ..
  have hsub : ∀ y ∈ r, y ∈ st.op := fun y hy => by rw [ho]; exact List.mem_cons_of_mem _ hy
  have hlook : withT E F (restL g x) x.look < 18446744073709551616 := withT_lt hF (h.oks x hx)
  have b : Bg g N (withT E F (restL g x) x.look) g.prods.length g.prods.length ⟨st.th, st.lk, r⟩ (bgT g N (withT E F (restL g x) x.look) g.prods.length ⟨st.th, st.lk, r⟩) := bg_all (st := ⟨st.th, st.lk, r⟩) hlook h.th h.lk h.zero h.ok _ (Nat.le_refl _)
  generalize hs2 : bgT g N (withT E F (restL g x) x.look) g.prods.length ⟨st.th, st.lk, r⟩ = s2 at b ⊢
  have kx : KD (rule g E F) l x.prod x.dot := h.so.1 _ _ ⟨x, hx, rfl, rfl⟩
  have kq : ∀ q : Nat, q < g.prods.length → (atI g.prods (q : Int)).sort = N → KD (rule g E F) l (q : Int) 0 := fun q h1 h2 => .step kx hn ⟨by omega, by omega, h2⟩
  have tq : ∀ (q t : Nat), q < g.prods.length → (atI g.prods (q : Int)).sort = N → (withT E F (restL g x) x.look).testBit t = true → TD (rule g E F) l (q : Int) 0 t := fun q t h1 h2 hb => by
    rcases with_bit.1 hb with hb | ⟨he, hb⟩
    · exact .first kx hn ⟨by omega, by omega, h2⟩ hb
    · exact .look (h.so.2 _ _ t ⟨x, hx, rfl, rfl, hb⟩) hn ⟨by omega, by omega, h2⟩ he
  have lq : ∀ (q t : Nat), q < g.prods.length → (s2.l q).testBit t = true → TD (rule g E F) l (q : Int) 0 t := fun q t h1 hb => by
    rcases b.onlyT q t hb with h2 | ⟨h2, h3, h4⟩
    · refine h.sh.2 _ _ t (held_tf.2 ⟨h1, ?_, h2⟩)
      cases ht : st.t q
      · have h3 := h.zero q ht
        have h2 : (st.l q).testBit t = true := h2
        rw [h3] at h2
        simp at h2
      · rfl
    · exact tq q t h3 h4 h2
  refine ⟨⟨b.th.trans h.th, b.lk.trans h.lk, b.zero, b.ok, fun y hy => ?_, ⟨?_, ?_⟩, ⟨?_, ?_⟩, fun y hy => ?_⟩, ?_⟩
  · rcases b.opn y hy with h1 | ⟨q, h1, h2, h3, h4, h5, h6⟩
    · exact h.oks y (hsub y h1)
    · exact h5
  · rintro p d ⟨y, hy, rfl, rfl⟩
    rcases b.opn y hy with h1 | ⟨q, h1, h2, h3, h4, h5, h6⟩
    · exact h.so.1 _ _ ⟨y, hsub y h1, rfl, rfl⟩
    · rw [h3, h4]; exact kq q h1 h2
  · rintro p d t ⟨y, hy, rfl, rfl, hb⟩
    rcases b.opn y hy with h1 | ⟨q, h1, h2, h3, h4, h5, h6⟩
    · exact h.so.2 _ _ t ⟨y, hsub y h1, rfl, rfl, hb⟩
    · rw [h3, h4]; exact lq q t h1 (h6 t hb)
  · rintro p d ⟨y, hy, rfl, rfl⟩
    obtain ⟨q, h1, h2, rfl⟩ := held_mem.1 hy
    rcases b.onlyK q h2 with h3 | ⟨h3, h4⟩
    · exact h.sh.1 _ _ (held_kf.2 ⟨h1, h3⟩)
    · exact kq q h3 h4
  · rintro p d t ⟨y, hy, rfl, rfl, hb⟩
    obtain ⟨q, h1, h2, rfl⟩ := held_mem.1 hy
    exact lq q t h1 hb
  · have old : ∀ z, z ∈ st.op ∨ Cov g E F st z → z ∈ s2.op ∨ Cov g E F s2 z := fun z hz => by
      rcases hz with hz | hz
      · rw [ho] at hz
        rcases List.mem_cons.1 hz with rfl | hz
        · right
          intro M hM q hq hs
          rw [hn] at hM
          obtain rfl := Option.some.inj hM
          exact b.got q hq hs
        · exact .inl (b.keep z hz)
      · right
        intro M hM q hq hs
        obtain ⟨h1, h2⟩ := hz M hM q hq hs
        exact ⟨b.grow q h1, fun t hb => b.bits q t (h2 t hb)⟩
    rcases hy with hy | hy
    · exact old y (h.cov y (.inl hy))
    · obtain ⟨q, h1, h2, rfl⟩ := held_mem.1 hy
      rcases b.new q with ⟨h3, h4⟩ | h3
      · refine old _ (h.cov _ (.inr (held_mem.2 ⟨q, h1, ?_, ?_⟩)))
        · have h3 : s2.t q = st.t q := h3
          rw [← h3]; exact h2
        · have h4 : s2.l q = st.l q := h4
          rw [h4]
      · exact .inl h3
  · have h1 := b.meas
    have h2 : held g.prods.length ⟨st.th, st.lk, r⟩ = held g.prods.length st := rfl
    rw [h2] at h1
    have h3 : st.op.length = r.length + 1 := by rw [ho]; rfl
    have h4 : (⟨st.th, st.lk, r⟩ : WS).op.length = r.length := rfl
    omega
theorem wi_end {st : WS} (h : WI g E F l st) (ho : st.op = []) : CL (rule g E F) l (ofT (l ++ held g.prods.length st)) := by
  refine cl_ofT (sound_app sound_self h.sh) (fun p d hk => kf_app.2 (.inl hk)) (fun p d t hk => tf_app.2 (.inl hk)) fun x hx => ?_
  have hc : Cov g E F st x := by
    rcases h.cov x (List.mem_append.1 hx) with h1 | h1
    · rw [ho] at h1; cases h1
    · exact h1
  constructor
  · rintro p d ⟨y, hy, rfl, rfl⟩
    obtain ⟨N, h1, ⟨h2, h3, h4⟩, h5, h6⟩ := step_mem.1 hy
    have hq : (y.prod.toNat : Int) = y.prod := Int.toNat_of_nonneg h2
    obtain ⟨a, c⟩ := hc N h1 y.prod.toNat (by omega) (by rw [hq]; exact h4)
    rw [h5, ← hq]
    exact kf_app.2 (.inr (held_kf.2 ⟨by omega, a⟩))
  · rintro p d t ⟨y, hy, rfl, rfl, hb⟩
    obtain ⟨N, h1, ⟨h2, h3, h4⟩, h5, h6⟩ := step_mem.1 hy
    have hq : (y.prod.toNat : Int) = y.prod := Int.toNat_of_nonneg h2
    obtain ⟨a, c⟩ := hc N h1 y.prod.toNat (by omega) (by rw [hq]; exact h4)
    rw [h6] at hb
    rw [h5, ← hq]
    exact tf_app.2 (.inr (held_tf.2 ⟨by omega, a, c t hb⟩))
end
end Go.Proofs.Ytnceadbfgpiaaaa.C
/- Contracts: clos.Start, bosketref25.Start. -/
namespace Go.Proofs.Ytnceadbfgpiaaaa.C
open Go G U K I J F
set_option linter.unusedVariables false
set_option linter.unusedSimpArgs false
set_option maxRecDepth 100000
set_option maxHeartbeats 4000000
theorem fn27 : Try.prog.funcs[27]? = some Try.f27 := by kernel_rfl
theorem fn35 : Try.prog.funcs[35]? = some Try.f35 := by kernel_rfl
def startT (g : GramT) : List ItemT := [⟨(g.prods.length : Int), 0, bitN 63⟩]
theorem start35_calls (g : GramT) : ACalls Try.prog 35 [gramV g] (fun k => .sl k 0 1) (fun _ => [⟨28, (startT g).map itemC⟩]) := by
  have hb := bit_calls 63
  have hDl : lenE (g.prods.map prodC) = (g.prods.length : Int) := len_map _ _
  obtain ⟨X, hX⟩ : ∃ X, X = (startT g).map itemC := ⟨_, rfl⟩
  have hXc : ∀ c ∈ X, closedAll [] c = true := by rw [hX]; exact closed_map fun _ => rfl
  rw [← hX]
  replace hX : X = [[.flat (.int .i64 (g.prods.length : Int)), .flat (.int .i64 0), .flat (.int .u64 ((bitN 63 : Nat) : Int))]] := hX
  unfold uV at hb
  unfold gramV gramL
  generalize ((bitN 63 : Nat) : Int) = b at *
  generalize g.rules.map ruleC = R at *
  generalize g.sorts.map strC = S at *
  generalize g.prods.map prodC = D at *
  generalize g.levels.map levC = V at *
  generalize g.start = start at *
  refine acalls_symF tabF_ok fn35 rfl rfl rfl (by kernel_rfl) ?_
  rintro ⟨lt, le, eq, se, ar, dv, una, conv, len, sln, nat, nth, ixs, cel, sto, app, cpy, slc, mak, ixv, oth, dk, ib, call⟩ hS hm Q hQ
  obtain ⟨hlt, hle, heq, hse, har, hdv, huna, hconv, hlen, hsln, hnat, hnth, hixs, hcel, hsto, happ, hcpy, hslc, hmak, hixv, hoth, hdk, hib, hcall⟩ := Sym.mk.inj hS
  clear hS
  have hnt : ∀ n : Nat, nat n = U.natI n := fun n => by rw [hnat]; rfl
  have hbox : ∀ e c off, cel (some ⟨e, [c]⟩) 0 off = if off ≤ c.length then some (c.drop off) else none := fun e c off => by rw [hcel]; rfl
  have hsbox : ∀ e c off sz y, sto (some ⟨e, [c]⟩) 0 off sz y = if y.cells.length = sz ∧ off + sz ≤ c.length ∧ y.cells.all AV.one = true then some ⟨e, [spl c off y.cells]⟩ else none := fun e c off sz y => by rw [hsto]; rfl
  have hcaw : ∀ {f args T base K}, CallK Try.prog f args T base K → call f args T base K := fun h => by rw [hcall]; exact h
  have hcal : ∀ {f args T base} {K : AV → Table → List Nat → List Nat → Prop}, (∃ args' ids val rows, Hands T ids args args' (val base) (rows base) ∧ ACalls Try.prog f args' val rows ∧ (rows base).length ≤ 8 ∧ K (val base) (adopt T base (rows base)) ids ((List.range (rows base).length).map (base + ·))) → call f args T base K := fun h => hcaw (call_own h)
  have hX2 : X = [[.flat (.int .i64 (len D)), .flat (.int .i64 0), .flat (.int .u64 b)]] := by rw [hX, hlen, hDl]
  clear hX hDl
  cbv
  refine ⟨by rw [hdk]; kernel_rfl, ?_⟩
  repeat (first | (rw [hbox]; cbv) | (rw [hsbox]; cbv))
  refine hcal ⟨_, [], _, _, .inl ⟨rfl, by cbv⟩, hb, by simp, ?_⟩
  cbv
  refine ⟨by rw [hib]; kernel_rfl, ?_⟩
  cbv
  subst hX2
  exact hQ _ _ trivial (leaves_own (by cbv) (by rfl) hXc)
theorem start27_calls (g : GramT) : ACalls Try.prog 27 [gramV g] (fun k => .sl k 0 1) (fun _ => [⟨41, (startT g).map itemC⟩]) := by
  have hb := one_calls 63
  have hDl : lenE (g.prods.map prodC) = (g.prods.length : Int) := len_map _ _
  obtain ⟨X, hX⟩ : ∃ X, X = (startT g).map itemC := ⟨_, rfl⟩
  have hXc : ∀ c ∈ X, closedAll [] c = true := by rw [hX]; exact closed_map fun _ => rfl
  rw [← hX]
  replace hX : X = [[.flat (.int .i64 (g.prods.length : Int)), .flat (.int .i64 0), .flat (.int .u64 ((bitN 63 : Nat) : Int))]] := hX
  unfold uV at hb
  unfold gramV gramL
  generalize ((bitN 63 : Nat) : Int) = b at *
  generalize g.rules.map ruleC = R at *
  generalize g.sorts.map strC = S at *
  generalize g.prods.map prodC = D at *
  generalize g.levels.map levC = V at *
  generalize g.start = start at *
  refine acalls_symF tabF_ok fn27 rfl rfl rfl (by kernel_rfl) ?_
  rintro ⟨lt, le, eq, se, ar, dv, una, conv, len, sln, nat, nth, ixs, cel, sto, app, cpy, slc, mak, ixv, oth, dk, ib, call⟩ hS hm Q hQ
  obtain ⟨hlt, hle, heq, hse, har, hdv, huna, hconv, hlen, hsln, hnat, hnth, hixs, hcel, hsto, happ, hcpy, hslc, hmak, hixv, hoth, hdk, hib, hcall⟩ := Sym.mk.inj hS
  clear hS
  have hnt : ∀ n : Nat, nat n = U.natI n := fun n => by rw [hnat]; rfl
  have hbox : ∀ e c off, cel (some ⟨e, [c]⟩) 0 off = if off ≤ c.length then some (c.drop off) else none := fun e c off => by rw [hcel]; rfl
  have hsbox : ∀ e c off sz y, sto (some ⟨e, [c]⟩) 0 off sz y = if y.cells.length = sz ∧ off + sz ≤ c.length ∧ y.cells.all AV.one = true then some ⟨e, [spl c off y.cells]⟩ else none := fun e c off sz y => by rw [hsto]; rfl
  have hcaw : ∀ {f args T base K}, CallK Try.prog f args T base K → call f args T base K := fun h => by rw [hcall]; exact h
  have hcal : ∀ {f args T base} {K : AV → Table → List Nat → List Nat → Prop}, (∃ args' ids val rows, Hands T ids args args' (val base) (rows base) ∧ ACalls Try.prog f args' val rows ∧ (rows base).length ≤ 8 ∧ K (val base) (adopt T base (rows base)) ids ((List.range (rows base).length).map (base + ·))) → call f args T base K := fun h => hcaw (call_own h)
  have hX2 : X = [[.flat (.int .i64 (len D)), .flat (.int .i64 0), .flat (.int .u64 b)]] := by rw [hX, hlen, hDl]
  clear hX hDl
  cbv
  refine ⟨by rw [hdk]; kernel_rfl, ?_⟩
  repeat (first | (rw [hbox]; cbv) | (rw [hsbox]; cbv))
  refine hcal ⟨_, [], _, _, .inl ⟨rfl, by cbv⟩, hb, by simp, ?_⟩
  cbv
  refine ⟨by rw [hib]; kernel_rfl, ?_⟩
  cbv
  subst hX2
  exact hQ _ _ trivial (leaves_own (by cbv) (by rfl) hXc)
end Go.Proofs.Ytnceadbfgpiaaaa.C
/- Contracts: clos.Go. -/
namespace Go.Proofs.Ytnceadbfgpiaaaa.C
open Go G U K I J F
set_option linter.unusedVariables false
set_option linter.unusedSimpArgs false
set_option maxRecDepth 100000
set_option maxHeartbeats 4000000
theorem fn46 : Try.prog.funcs[46]? = some Try.f46 := by kernel_rfl
theorem eq_sym46 (a b : Bool) (v w : Int) : dvOf Try.prog .eql 46 (.agg [.flat (.bool a), .flat (.int .i64 v)]) (.agg [.flat (.bool b), .flat (.int .i64 w)]) = some (.flat (.bool ((a == b) && ((v == w) && true)))) := by
  rw [dvOf_eq]
  intro x y
  kernel_rfl
def goOne (g : GramT) (s : SymT) (x : ItemT) : List ItemT := if (nextOk g x && (((nextS g x).sort == s.sort) && (((nextS g x).n == s.n) && true))) = true then [⟨x.prod, x.dot + 1, x.look⟩] else []
def goL (g : GramT) (l : List ItemT) (s : SymT) : List ItemT := l.flatMap (goOne g s)
theorem go_next {g : GramT} {l : List ItemT} {s : SymT} {i : Int} (h0 : 0 ≤ i) (h1 : i < l.length) : goL g (l.take (i + 1).toNat) s = goL g (l.take i.toNat) s ++ goOne g s (atI l i) := by
  unfold goL
  rw [take_next h0 h1, List.flatMap_append]
  simp
theorem go_len {g : GramT} {s : SymT} : ∀ (l : List ItemT), (goL g l s).length ≤ l.length := by
  intro l
  induction l with
  | nil => simp [goL]
  | cons x l ih =>
    have h : goL g (x :: l) s = goOne g s x ++ goL g l s := rfl
    rw [h, List.length_append, List.length_cons]
    have : (goOne g s x).length ≤ 1 := by unfold goOne; split <;> simp
    omega
theorem go_ok {g : GramT} {s : SymT} {l : List ItemT} (h : ∀ x ∈ l, okI64 x) : ∀ x ∈ goL g l s, okI64 x := by
  intro x hx
  obtain ⟨y, hy, hx⟩ := List.mem_flatMap.1 hx
  unfold goOne at hx
  split at hx
  · rw [List.mem_singleton.1 hx]; exact h y hy
  · cases hx
theorem u22 : Try.prog.underlying 22 = some (.slice 28) := by kernel_rfl
theorem z28 : tinfo Try.prog 28 = some (some (.agg #[.int .i64 0, .int .i64 0, .int .u64 0]), 3, 24) := by kernel_rfl
theorem c28 : Try.prog.cellsOf 28 = 3 := by kernel_rfl
theorem flat_item (l : List ItemT) : flatRow (l.map itemC) := flat_map (fun a x hx => by
  simp only [itemC, List.mem_cons, List.not_mem_nil, or_false] at hx; rcases hx with rfl | rfl | rfl <;> exact ⟨rfl, rfl⟩) l
theorem ok_dot {g : GramT} {x : ItemT} (hb : ∀ p ∈ g.prods, p.body.length ≤ 1000) (h : nextOk g x = true) : arI .add .i64 x.dot 1 = x.dot + 1 := by
  have h := of_decide_eq_true h
  have := body_len hb x.prod
  exact ar_add64 (by omega) (by omega)
theorem go_calls (g : GramT) (l : List ItemT) (s : SymT) (hb : ∀ p ∈ g.prods, p.body.length ≤ 1000) (hl : l.length ≤ 100000) (hok : ∀ x ∈ l, okI64 x) : ACalls Try.prog 46 [gramV g, .ro (l.map itemC), .agg (symC s)] (fun k => .sl k 0 (ofT (goL g l s)).length) (fun _ => [⟨28, (ofT (goL g l s)).map itemC⟩]) := by
  have hOf := J.of_calls (goL g l s) (Nat.le_trans (go_len l) hl) (go_ok hok)
  have hRf := flat_item (ofT (goL g l s))
  have hRc : ∀ c ∈ (ofT (goL g l s)).map itemC, closedAll [] c = true := closed_map fun _ => rfl
  have hN := fun x => next_calls g x hb
  have hXl : lenE (l.map itemC) = (l.length : Int) := len_map _ _
  have hst : ∀ i : Int, 0 ≤ i → i < l.length → ∀ (O : List (List AV)) (n : Nat), O = (goL g (l.take i.toNat) s).map itemC → n = O.length → ∃ (p d look v : Int) (ok sb : Bool), nthE (l.map itemC) i 3 = some (.rp [.flat (.int .i64 p), .flat (.int .i64 d), .flat (.int .u64 look)]) ∧ ACalls Try.prog 17 [gramV g, .agg [.flat (.int .i64 p), .flat (.int .i64 d), .flat (.int .u64 look)]] (fun _ => .tup [.agg [.flat (.bool sb), .flat (.int .i64 v)], .flat (.bool ok)]) (fun _ => []) ∧ (ok = true → arI .add .i64 d 1 = d + 1) ∧ n ≤ 100000 ∧
      ((ok && ((sb == s.sort) && ((v == s.n) && true))) = true → O ++ [[.flat (.int .i64 p), .flat (.int .i64 (d + 1)), .flat (.int .u64 look)]] = (goL g (l.take (i + 1).toNat) s).map itemC) ∧ ((ok && ((sb == s.sort) && ((v == s.n) && true))) = false → O = (goL g (l.take (i + 1).toNat) s).map itemC) := fun i h0 h1 O n hO hn => by
    refine ⟨(atI l i).prod, (atI l i).dot, ((atI l i).look : Int), (nextS g (atI l i)).n, nextOk g (atI l i), (nextS g (atI l i)).sort, nth_map (f := itemC) (fun _ => rfl) h0 h1, hN (atI l i), fun h => ok_dot hb h, ?_, fun h => ?_, fun h => ?_⟩
    · rw [hn, hO, List.length_map]
      refine Nat.le_trans (go_len _) ?_
      rw [List.length_take]; omega
    · rw [go_next h0 h1, List.map_append, ← hO]
      unfold goOne
      rw [if_pos h]; rfl
    · rw [go_next h0 h1, List.map_append, ← hO]
      unfold goOne
      rw [if_neg (by rw [h]; decide)]; simp
  have hend : l.take (l.length : Int).toNat = l := by rw [Int.toNat_natCast]; exact List.take_length
  have hz0 : ([] : List (List AV)) = (goL g (l.take (0 : Int).toNat) s).map itemC := rfl
  obtain ⟨GO, hGO⟩ : ∃ GO : Int → List (List AV), GO = fun i => (goL g (l.take i.toNat) s).map itemC := ⟨_, rfl⟩
  have hGOf : ∀ i, flatRow (GO i) := fun i => by rw [hGO]; exact flat_item _
  have hGOc : ∀ i, ∀ c ∈ GO i, closedAll [] c = true := fun i => by rw [hGO]; exact closed_map fun _ => rfl
  have hGOe : GO (l.length : Int) = (goL g l s).map itemC := by rw [hGO]; show (goL g (l.take (l.length : Int).toNat) s).map itemC = _; rw [hend]
  replace hst : ∀ i : Int, 0 ≤ i → i < l.length → ∀ (O : List (List AV)) (n : Nat), O = GO i → n = O.length → ∃ (p d look v : Int) (ok sb : Bool), nthE (l.map itemC) i 3 = some (.rp [.flat (.int .i64 p), .flat (.int .i64 d), .flat (.int .u64 look)]) ∧ ACalls Try.prog 17 [gramV g, .agg [.flat (.int .i64 p), .flat (.int .i64 d), .flat (.int .u64 look)]] (fun _ => .tup [.agg [.flat (.bool sb), .flat (.int .i64 v)], .flat (.bool ok)]) (fun _ => []) ∧ (ok = true → arI .add .i64 d 1 = d + 1) ∧ n ≤ 100000 ∧
      ((ok && ((sb == s.sort) && ((v == s.n) && true))) = true → O ++ [[.flat (.int .i64 p), .flat (.int .i64 (d + 1)), .flat (.int .u64 look)]] = GO (i + 1)) ∧ ((ok && ((sb == s.sort) && ((v == s.n) && true))) = false → O = GO (i + 1)) := by rw [hGO]; exact hst
  replace hz0 : ([] : List (List AV)) = GO 0 := by rw [hGO]; exact hz0
  have hz1 : (0 : Int) ≤ 0 ∧ (0 : Int) ≤ l.length := by omega
  rw [← hGOe] at hOf
  clear hGOe hend hGO hN hok hb
  unfold gramV gramL at *
  unfold symC
  generalize (ofT (goL g l s)).length = rn at *
  generalize (ofT (goL g l s)).map itemC = RR at *
  generalize l.map itemC = X at *
  generalize g.rules.map ruleC = R at *
  generalize g.sorts.map strC = S at *
  generalize g.prods.map prodC = D at *
  generalize g.levels.map levC = V at *
  generalize g.start = start at *
  obtain ⟨s1, s2⟩ := s
  dsimp only at *
  refine acalls_symF tabF_ok fn46 rfl rfl rfl (by kernel_rfl) ?_
  rintro ⟨lt, le, eq, se, ar, dv, una, conv, len, sln, nat, nth, ixs, cel, sto, app, cpy, slc, mak, ixv, oth, dk, ib, call⟩ hS hm Q hQ
  obtain ⟨hlt, hle, heq, hse, har, hdv, huna, hconv, hlen, hsln, hnat, hnth, hixs, hcel, hsto, happ, hcpy, hslc, hmak, hixv, hoth, hdk, hib, hcall⟩ := Sym.mk.inj hS
  clear hS
  have hnt : ∀ n : Nat, nat n = U.natI n := fun n => by rw [hnat]; rfl
  have hbox : ∀ e c off, cel (some ⟨e, [c]⟩) 0 off = if off ≤ c.length then some (c.drop off) else none := fun e c off => by rw [hcel]; rfl
  have hsbox : ∀ e c off sz y, sto (some ⟨e, [c]⟩) 0 off sz y = if y.cells.length = sz ∧ off + sz ≤ c.length ∧ y.cells.all AV.one = true then some ⟨e, [spl c off y.cells]⟩ else none := fun e c off sz y => by rw [hsto]; rfl
  have hcaw : ∀ {f args T base K}, CallK Try.prog f args T base K → call f args T base K := fun h => by rw [hcall]; exact h
  have hcal : ∀ {f args T base} {K : AV → Table → List Nat → List Nat → Prop}, (∃ args' ids val rows, Hands T ids args args' (val base) (rows base) ∧ ACalls Try.prog f args' val rows ∧ (rows base).length ≤ 8 ∧ K (val base) (adopt T base (rows base)) ids ((List.range (rows base).length).map (base + ·))) → call f args T base K := fun h => hcaw (call_own h)
  have hX2 : len X = (l.length : Int) := by rw [hlen]; exact hXl
  have hde : ∀ (a b : Bool) (v w : Int), dv .eql 46 (.agg [.flat (.bool a), .flat (.int .i64 v)]) (.agg [.flat (.bool b), .flat (.int .i64 w)]) = some (.flat (.bool ((a == b) && ((v == w) && true)))) := fun a b v w => by rw [hdv]; exact eq_sym46 a b v w
  replace hst : ∀ i : Int, 0 ≤ i → lt i (len X) = true → ∀ (O : List (List AV)) (n : Nat), O = GO i → n = O.length → ∃ (p d look v : Int) (ok sb : Bool), nth X i 3 = some (.rp [.flat (.int .i64 p), .flat (.int .i64 d), .flat (.int .u64 look)]) ∧ ACalls Try.prog 17 [.agg [.ro R, .ro S, .ro D, .ro V, .flat (.int .i64 start)], .agg [.flat (.int .i64 p), .flat (.int .i64 d), .flat (.int .u64 look)]] (fun _ => .tup [.agg [.flat (.bool sb), .flat (.int .i64 v)], .flat (.bool ok)]) (fun _ => []) ∧ (ok = true → ar .add .i64 d 1 = d + 1) ∧ n ≤ 100000 ∧
      ((ok && ((sb == s1) && ((v == s2) && true))) = true → O ++ [[.flat (.int .i64 p), .flat (.int .i64 (d + 1)), .flat (.int .u64 look)]] = GO (i + 1)) ∧ ((ok && ((sb == s1) && ((v == s2) && true))) = false → O = GO (i + 1)) ∧ ar .add .i64 i 1 = i + 1 ∧ 0 ≤ i + 1 ∧ i + 1 ≤ l.length ∧ ((l.length : Int) - (i + 1)).toNat < ((l.length : Int) - i).toNat := fun i h0 hc O n hO hn => by
    rw [hlt, hX2] at hc
    have hc := of_decide_eq_true hc
    obtain ⟨p, d, look, v, ok, sb, q1, q2, q3, q4, q5, q6⟩ := hst i h0 hc O n hO hn
    exact ⟨p, d, look, v, ok, sb, by rw [hnth]; exact q1, q2, by rw [har]; exact q3, q4, q5, q6, by rw [har, ar_add64 (by omega) (by omega)], by omega, by omega, by omega⟩
  have hfin2 : ∀ i : Int, 0 ≤ i → i ≤ l.length → lt i (len X) = false → i = l.length := fun i h0 h1 hc => by
    rw [hlt, hX2] at hc
    have hc := of_decide_eq_false hc
    omega
  have hap : ∀ (T : Table) (id k0 k n n2 : Nat) (O O2 : List (List AV)) (a b c : Int), O2 = O ++ [[.flat (.int .i64 a), .flat (.int .i64 b), .flat (.int .u64 c)]] → n = O.length → n2 = n + 1 → n ≤ 100000 → T k0 = some ⟨28, O⟩ → T k = some ⟨28, [[.flat (.int .i64 a), .flat (.int .i64 b), .flat (.int .u64 c)]]⟩ → k ≠ k0 → app T id 22 22 (.sl k0 0 n) (.sl k 0 1) = some (.sl id 0 n2, (T.set k0 none).set id (some ⟨28, O2⟩)) := fun T id k0 k n n2 O O2 a b c h1 h2 h3 h4 h5 h6 h7 => by
    rw [happ]
    exact app_tip u22 z28 c28 (by decide) rfl (by decide) h5 h6 h7 rfl (by omega) h3 (by rw [h2, List.take_length]; exact h1) (by omega)
  have hcl : ∀ (i : Int) {O : List (List AV)}, O = GO i → ∀ c ∈ O, closedAll [] c = true := fun i O h c hc => hGOc i c (h ▸ hc)
  generalize (l.length : Int) = ln at *
  clear hXl hX2 hl
  cbv
  refine MW_loopZ hm [.slot 7 28] [0, 8, 56] [3, 5, 7, 12, 13, 14] 15 (by simp) (fun mz st => ∃ (i : Int) (n : Nat) (O : List (List AV)), (0 ≤ i ∧ i ≤ ln) ∧ O = GO i ∧ n = O.length ∧ mz = (ln - i).toNat ∧ st = stOf [.dead, .dead, .dead, .ptr 0 0 0, .dead, .ptr 1 0 0, .dead, .sl 2 0 n, .dead, .dead, .dead, .dead, .ro X, .flat (.int .i64 (len X)), .flat (.int .i64 i)] [some ⟨39, [[.ro R, .ro S, .ro D, .ro V, .flat (.int .i64 start)]]⟩, some ⟨46, [[.flat (.bool s1), .flat (.int .i64 s2)]]⟩, some ⟨28, O⟩] 3) ((ln - 0).toNat) ?_ ?_
  · exact ⟨0, 0, [], hz1, hz0, rfl, rfl, cut_eq (by cbv) (cutRows_cons (by rfl) (by simp [closedAll, closedIn]) (cutRows_cons (by rfl) (by simp [closedAll, closedIn]) (cutRows_cons (by rfl) (fun c hc => by cases hc) rfl)))⟩
  rintro mz st ⟨i, n, O, hi, hO, hn, hmz, rfl⟩
  cases hc : lt i (len X)
  · have e := hfin2 i hi.1 hi.2 hc
    rw [e] at hO
    have hOr := (hGOf ln).read
    rw [← hO] at hOf hOr
    cbv
    rw [hc]; cbv
    refine hcal ⟨[.ro O], [2], _, _, hands_deep ⟨deep_row (by simp) (by rfl) hn hOr, trivial⟩ rfl (noRo_flat hRf), hOf, by simp, ?_⟩
    cbv
    exact hQ _ _ trivial (leaves_own (by cbv) (by rfl) hRc)
  obtain ⟨p, d, look, v, ok, sb, q1, q2, q3, q4, q5, q6, q7, q8, q9, q10⟩ := hst i hi.1 hc O n hO hn
  have hde2 := hde sb s1 v s2
  generalize ((sb == s1) && ((v == s2) && true)) = e at q5 q6 hde2
  generalize i + 1 = i2 at q5 q6 q7 q8 q9 q10
  clear hst hde
  cases ok
  · have q6 := q6 rfl
    cbv
    rw [hc]; cbv
    rw [q1]; cbv
    repeat (first | (rw [hbox]; cbv) | (rw [hsbox]; cbv))
    refine hcal ⟨_, [], _, _, .inl ⟨rfl, by cbv⟩, q2, by simp, ?_⟩
    cbv
    repeat (first | (rw [hbox]; cbv) | (rw [hsbox]; cbv))
    rw [q7]
    exact ⟨[0, 1, 2], [3, 5, 7, 12, 13, 14], 15, (ln - i2).toNat, hmz ▸ q10, by simp, i2, n, O, ⟨q8, q9⟩, q6, hn, rfl, cut_eq (by cbv) (cutRows_cons (by rfl) (by simp [closedAll, closedIn]) (cutRows_cons (by rfl) (by simp [closedAll, closedIn]) (cutRows_cons (by rfl) (hcl _ q6) rfl)))⟩
  cases e
  · have q6 := q6 rfl
    cbv
    rw [hc]; cbv
    rw [q1]; cbv
    repeat (first | (rw [hbox]; cbv) | (rw [hsbox]; cbv))
    refine hcal ⟨_, [], _, _, .inl ⟨rfl, by cbv⟩, q2, by simp, ?_⟩
    cbv
    repeat (first | (rw [hbox]; cbv) | (rw [hsbox]; cbv) | (rw [hde2]; cbv))
    rw [q7]
    exact ⟨[0, 1, 2], [3, 5, 7, 12, 13, 14], 15, (ln - i2).toNat, hmz ▸ q10, by simp, i2, n, O, ⟨q8, q9⟩, q6, hn, rfl, cut_eq (by cbv) (cutRows_cons (by rfl) (by simp [closedAll, closedIn]) (cutRows_cons (by rfl) (by simp [closedAll, closedIn]) (cutRows_cons (by rfl) (hcl _ q6) rfl)))⟩
  have q3 := q3 rfl
  have q5 := q5 rfl
  obtain ⟨O2, hO2⟩ : ∃ O2, O2 = O ++ [[.flat (.int .i64 p), .flat (.int .i64 (d + 1)), .flat (.int .u64 look)]] := ⟨_, rfl⟩
  rw [← hO2] at q5
  have hn2 : n + 1 = O2.length := by rw [hO2, List.length_append, hn]; rfl
  have hap2 := fun (T : Table) (id k0 k : Nat) => hap T id k0 k n (n + 1) O O2 p (d + 1) look hO2 hn rfl q4
  clear hO2 hap
  generalize d + 1 = d2 at q3 hap2
  generalize n + 1 = n2 at hn2 hap2
  cbv
  rw [hc]; cbv
  rw [q1]; cbv
  repeat (first | (rw [hbox]; cbv) | (rw [hsbox]; cbv))
  refine hcal ⟨_, [], _, _, .inl ⟨rfl, by cbv⟩, q2, by simp, ?_⟩
  cbv
  repeat (first | (rw [hbox]; cbv) | (rw [hsbox]; cbv) | (rw [hde2]; cbv) | (rw [q3]; cbv))
  rw [hap2 _ _ _ _ rfl rfl (by decide)]; cbv
  rw [q7]
  exact ⟨[0, 1, 227], [3, 5, 7, 12, 13, 14], 15, (ln - i2).toNat, hmz ▸ q10, by simp, i2, n2, O2, ⟨q8, q9⟩, q5, hn2, rfl, cut_eq (by cbv) (cutRows_cons (by rfl) (by simp [closedAll, closedIn]) (cutRows_cons (by rfl) (by simp [closedAll, closedIn]) (cutRows_cons (by rfl) (hcl _ q5) rfl)))⟩
end Go.Proofs.Ytnceadbfgpiaaaa.C
/- Plain law: the rows of clos.Close's begin. No code is walked. -/
namespace Go.Proofs.Ytnceadbfgpiaaaa.C
open Go G U K I J F
set_option linter.unusedVariables false
set_option linter.unusedSimpArgs false
/-- One element more, behind a slice that has left its row's beginning. -/
theorem app_off {P : Program} {T : Table} {id k0 k j n n' sz b : Nat} {t e : TypeId} {z : Value} {X Y : List (List AV)} {c : List AV} (hu : P.underlying t = some (.slice e)) (hti : tinfo P e = some (some z, sz, b)) (hco : P.cellsOf e = sz) (h0 : 0 < sz) (hz : z.cells.size = sz) (hb : b ≤ 1000)
    (hT0 : T k0 = some ⟨e, X⟩) (hT : T k = some ⟨e, [c]⟩) (hne : k ≠ k0) (hc : c.length = sz) (hn : j + n = X.length) (hn' : n' = n + 1) (hY : Y = X.drop j ++ [c]) (hle : n' ≤ 100000000) :
    evAppend P T id t t (.sl k0 j n) (.sl k 0 1) = some (.sl id 0 n', (T.set k0 none).set id (some ⟨e, Y⟩)) := by
  have hm : (100000000 : Nat) ≤ maxLen := by decide
  have h1 : n' * b ≤ 140737488355328 := Nat.le_trans (Nat.mul_le_mul hle hb) (by decide)
  have h2 : n' ≤ maxLen := by omega
  have ht : trimS T (.sl k0 j n) = T.set k0 (some ⟨e, X⟩) := by
    simp only [trimS, hT0]
    rw [hn, List.take_length]
  have hk0 : (T.set k0 (some ⟨e, X⟩)) k0 = some ⟨e, X⟩ := if_pos rfl
  have hk : (T.set k0 (some ⟨e, X⟩)) k = some ⟨e, [c]⟩ := by unfold Table.set; rw [if_neg hne]; exact hT
  have hss : ((T.set k0 (some ⟨e, X⟩)).set k0 none) = T.set k0 none := by
    funext q
    by_cases h : q = k0
    · simp [Table.set, h]
    · simp [Table.set, h]
  subst hn' hY
  simp only [evAppend, ht, evApp0, hu, hti]
  rw [if_pos ⟨h0, rfl, by simp [srcFit, hk, hco], hz⟩]
  simp only [srcEls, hk, Option.bind_some]
  simp only [List.length_singleton, Nat.zero_add, Nat.le_refl, if_true, List.drop_zero, Option.bind_some]
  rw [if_pos (by simpa using hc)]
  simp only [hk0, Option.bind_some]
  rw [if_pos ⟨trivial, hn⟩]
  simp only [List.take_succ_cons, List.take_nil, List.take_zero, List.length_singleton]
  rw [if_pos ⟨h1, h2⟩, hss]
/-- What is open, as it lies in its row. -/
structure OpAt (s0 st : WS) (j0 : Nat) (O0 : List (List AV)) (j : Nat) (O : List (List AV)) (n : Nat) : Prop where
  pn : n = st.op.length
  le : s0.op.length ≤ st.op.length
  pj : j = if st.op.length = s0.op.length then j0 else 0
  pO : O = if st.op.length = s0.op.length then O0 else st.op.map itemC
  row : O.drop j = st.op.map itemC
  all : j + n = O.length
theorem opAt_one {s0 st : WS} {j0 j1 j2 : Nat} {O0 O1 O2 : List (List AV)} {n1 n2 : Nat} (h1 : OpAt s0 st j0 O0 j1 O1 n1) (h2 : OpAt s0 st j0 O0 j2 O2 n2) : j1 = j2 ∧ O1 = O2 ∧ n1 = n2 := ⟨h1.pj.trans h2.pj.symm, h1.pO.trans h2.pO.symm, h1.pn.trans h2.pn.symm⟩
theorem opAt_get {s0 st : WS} {j0 : Nat} {O0 : List (List AV)} (h0 : O0.drop j0 = s0.op.map itemC) (h1 : j0 + s0.op.length = O0.length) (hle : s0.op.length ≤ st.op.length) (hst : st.op.length = s0.op.length → st.op = s0.op) : ∃ j O, OpAt s0 st j0 O0 j O st.op.length := by
  by_cases h : st.op.length = s0.op.length
  · exact ⟨j0, O0, ⟨rfl, hle, by rw [if_pos h], by rw [if_pos h], by rw [hst h]; exact h0, by rw [h]; exact h1⟩⟩
  · exact ⟨0, st.op.map itemC, ⟨rfl, hle, by rw [if_neg h], by rw [if_neg h], List.drop_zero, by simp⟩⟩
theorem bg1_len {g : GramT} {N : Int} {look n : Nat} {st : WS} : st.op.length ≤ (bg1 g N look st n).op.length ∧ ((bg1 g N look st n).op.length = st.op.length → (bg1 g N look st n) = st) := by
  unfold bg1
  split
  · refine ⟨by simp, fun h => ?_⟩
    simp at h
  · exact ⟨Nat.le_refl _, fun _ => rfl⟩
theorem bgT_len {g : GramT} {N : Int} {look : Nat} {st : WS} : ∀ k, st.op.length ≤ (bgT g N look k st).op.length ∧ ((bgT g N look k st).op.length = st.op.length → bgT g N look k st = st) := by
  intro k
  induction k with
  | zero => exact ⟨Nat.le_refl _, fun _ => rfl⟩
  | succ k ih =>
    rw [bg_next]
    have h := bg1_len (g := g) (N := N) (look := look) (n := k) (st := bgT g N look k st)
    refine ⟨Nat.le_trans ih.1 h.1, fun he => ?_⟩
    have h1 : (bg1 g N look (bgT g N look k st) k).op.length = (bgT g N look k st).op.length := by omega
    rw [h.2 h1]
    exact ih.2 (by omega)
/-- What begin's walk stands on. -/
structure BgH (g : GramT) (look : Nat) (s0 : WS) (j0 : Nat) (O0 : List (List AV)) : Prop where
  look : look < 18446744073709551616
  th : s0.th.length = g.prods.length
  lk : s0.lk.length = g.prods.length
  zero : ∀ q, s0.t q = false → s0.l q = 0
  ok : ∀ q, s0.l q < 18446744073709551616
  row : O0.drop j0 = s0.op.map itemC
  all : j0 + s0.op.length = O0.length
  np : g.prods.length ≤ 1000
  m : 2 * miss g.prods.length (held g.prods.length s0) + s0.op.length ≤ 1000000
/-- Within begin's loop. -/
structure BgAt (g : GramT) (N : Int) (look : Nat) (s0 : WS) (j0 : Nat) (O0 : List (List AV)) (i : Int) (TH LK : List (List AV)) (j : Nat) (O : List (List AV)) (n : Nat) : Prop where
  i0 : 0 ≤ i
  i1 : i ≤ g.prods.length
  th : TH = (bgT g N look i.toNat s0).th.map boolC
  lk : LK = (bgT g N look i.toNat s0).lk.map setC
  op : OpAt s0 (bgT g N look i.toNat s0) j0 O0 j O n
section
variable {g : GramT} {N : Int} {look : Nat} {s0 : WS} {j0 : Nat} {O0 : List (List AV)} {i : Int} {TH LK : List (List AV)} {j : Nat} {O : List (List AV)} {n : Nat}
theorem bgAt_zero (h : BgH g look s0 j0 O0) : BgAt g N look s0 j0 O0 0 (s0.th.map boolC) (s0.lk.map setC) j0 O0 s0.op.length :=
  ⟨Int.le_refl 0, by omega, rfl, rfl, ⟨rfl, Nat.le_refl _, (if_pos rfl).symm, (if_pos rfl).symm, h.row, h.all⟩⟩
theorem atI_getD {α : Type} [Inhabited α] {l : List α} {d : α} {i : Int} (h0 : 0 ≤ i) (h1 : i < l.length) : atI l i = l.getD i.toNat d := by
  have h := at_get h0 h1
  simp only [List.getD_eq_getElem?_getD, h]; rfl
theorem bg_round (H : BgH g look s0 j0 O0) (h : BgAt g N look s0 j0 O0 i TH LK j O n) (hi : i < g.prods.length) : ∃ (tk : Bool) (lx ox : Int),
    (∀ id, ixSl Try.prog (some ⟨4, TH⟩) id 0 g.prods.length i 1 = some (.ptr id i.toNat 0)) ∧ ptrCells (some ⟨4, TH⟩) i.toNat 0 = some [.flat (.bool tk)] ∧
    (∀ id, ixSl Try.prog (some ⟨26, LK⟩) id 0 g.prods.length i 1 = some (.ptr id i.toNat 0)) ∧ ptrCells (some ⟨26, LK⟩) i.toNat 0 = some [.flat (.int .u64 lx)] ∧ arI .or .u64 lx (look : Int) = ox ∧
    (¬ (atI g.prods i).sort = N → BgAt g N look s0 j0 O0 (i + 1) TH LK j O n) ∧ ((atI g.prods i).sort = N → tk = true → ox = lx → BgAt g N look s0 j0 O0 (i + 1) TH LK j O n) ∧
    ((atI g.prods i).sort = N → (tk = false ∨ ¬ ox = lx) → ∃ TH2 LK2 O2, storeRow (some ⟨4, TH⟩) i.toNat 0 1 (.flat (.bool true)) = some ⟨4, TH2⟩ ∧ storeRow (some ⟨26, LK⟩) i.toNat 0 1 (.flat (.int .u64 ox)) = some ⟨26, LK2⟩ ∧ ptrCells (some ⟨26, LK2⟩) i.toNat 0 = some [.flat (.int .u64 ox)] ∧
      (∀ id, ixSl Try.prog (some ⟨26, LK2⟩) id 0 g.prods.length i 1 = some (.ptr id i.toNat 0)) ∧
      (∀ (T : Table) (id k0 k : Nat), T k0 = some ⟨28, O⟩ → T k = some ⟨28, [[.flat (.int .i64 i), .flat (.int .i64 0), .flat (.int .u64 ox)]]⟩ → k ≠ k0 → evAppend Try.prog T id 22 22 (.sl k0 j n) (.sl k 0 1) = some (.sl id 0 (n + 1), (T.set k0 none).set id (some ⟨28, O2⟩))) ∧
      BgAt g N look s0 j0 O0 (i + 1) TH2 LK2 0 O2 (n + 1)) := by
  have hk : i.toNat ≤ g.prods.length := by have := h.i1; omega
  have b := bg_all (g := g) (N := N) H.look H.th H.lk H.zero H.ok i.toNat hk
  have hnx : bgT g N look (i + 1).toNat s0 = bg1 g N look (bgT g N look i.toNat s0) i.toNat := by
    rw [show (i + 1).toNat = i.toNat + 1 by have := h.i0; omega, bg_next]
  have hle := bgT_len (g := g) (N := N) (look := look) (st := s0) i.toNat
  have hm : (bgT g N look i.toNat s0).op.length ≤ 1000000 := by have := b.meas; have := H.m; omega
  obtain ⟨h1, h2, h3, h4, h5⟩ := h
  have hi0 : 0 ≤ i + 1 := by omega
  have hi1 : i + 1 ≤ g.prods.length := by omega
  have hth : (bgT g N look i.toNat s0).th.length = g.prods.length := b.th.trans H.th
  have hlk : (bgT g N look i.toNat s0).lk.length = g.prods.length := b.lk.trans H.lk
  have hcast : ((i.toNat : Nat) : Int) = i := Int.toNat_of_nonneg h1
  generalize bgT g N look i.toNat s0 = st at h3 h4 h5 hnx hle hm hth hlk b
  have hoki : okI g.prods.length i := ⟨h1, hi⟩
  obtain ⟨a1, a2, a3⟩ := own_bool h3 hth hoki
  obtain ⟨c1, c2, c3⟩ := own_set h4 hlk hoki
  have htk : atI st.th i = st.t i.toNat := atI_getD h1 (by rw [hth]; exact hi)
  have hlx : atI st.lk i = st.l i.toNat := atI_getD h1 (by rw [hlk]; exact hi)
  have hlt : st.l i.toNat < 18446744073709551616 := b.ok i.toNat
  refine ⟨st.t i.toNat, ((st.l i.toNat : Nat) : Int), ((st.l i.toNat ||| look : Nat) : Int), a1, by rw [a2, htk], c1, by rw [c2, hlx], F.or_u hlt H.look, fun hs => ?_, fun hs ht ho => ?_, fun hs ho => ?_⟩
  · have e : bg1 g N look st i.toNat = st := by
      unfold bg1
      rw [if_neg]
      rintro ⟨x, _⟩
      rw [hcast] at x
      exact hs x
    exact ⟨hi0, hi1, by rw [hnx, e]; exact h3, by rw [hnx, e]; exact h4, by rw [hnx, e]; exact h5⟩
  · have e : bg1 g N look st i.toNat = st := by
      unfold bg1
      rw [if_neg]
      rintro ⟨_, x⟩
      exact x ⟨ht, by omega⟩
    exact ⟨hi0, hi1, by rw [hnx, e]; exact h3, by rw [hnx, e]; exact h4, by rw [hnx, e]; exact h5⟩
  · have e : bg1 g N look st i.toNat = ⟨st.th.set i.toNat true, st.lk.set i.toNat (st.l i.toNat ||| look), st.op ++ [⟨(i.toNat : Int), 0, st.l i.toNat ||| look⟩]⟩ := by
      unfold bg1
      rw [if_pos]
      refine ⟨by rw [hcast]; exact hs, ?_⟩
      rintro ⟨x, y⟩
      rcases ho with ho | ho
      · rw [x] at ho; cases ho
      · exact ho (by rw [y])
    have hlk2 : (st.lk.set i.toNat (st.l i.toNat ||| look)).length = g.prods.length := by rw [List.length_set]; exact hlk
    obtain ⟨d1, d2, _⟩ := own_set (Y := (st.lk.set i.toNat (st.l i.toNat ||| look)).map setC) rfl hlk2 hoki
    have hx : atI (st.lk.set i.toNat (st.l i.toNat ||| look)) i = st.l i.toNat ||| look := by
      rw [atI_getD (d := 0) h1 (by rw [hlk2]; exact hi), getD_set (by rw [hlk]; have := h1; omega), if_pos rfl]
    refine ⟨_, _, (st.op ++ [(⟨(i.toNat : Int), 0, st.l i.toNat ||| look⟩ : ItemT)]).map itemC, a3 true, c3 _, by rw [d2, hx], d1, fun T id k0 k hT0 hT hne => ?_, ⟨hi0, hi1, by rw [hnx, e], by rw [hnx, e], ?_⟩⟩
    · refine app_off u22 z28 c28 (by decide) rfl (by decide) hT0 hT hne rfl h5.all rfl ?_ (by have := h5.pn; omega)
      rw [h5.row, List.map_append, ← hcast]
      rfl
    · rw [hnx, e]
      have h5n := h5.pn
      have h5l := h5.le
      have hl : (st.op ++ [(⟨(i.toNat : Int), 0, st.l i.toNat ||| look⟩ : ItemT)]).length = st.op.length + 1 := by simp
      refine ⟨by rw [hl, h5n], by rw [hl]; omega, ?_, ?_, by rw [List.drop_zero], by rw [List.length_map, hl, h5n]; omega⟩
      · rw [if_neg (by rw [hl]; omega)]
      · rw [if_neg (by rw [hl]; omega)]
theorem bgAt_end (h : BgAt g N look s0 j0 O0 i TH LK j O n) (hi : ¬ i < g.prods.length) {TH2 LK2 : List (List AV)} {j2 : Nat} {O2 : List (List AV)} {n2 : Nat} (h1 : TH2 = (bgT g N look g.prods.length s0).th.map boolC) (h2 : LK2 = (bgT g N look g.prods.length s0).lk.map setC) (h3 : OpAt s0 (bgT g N look g.prods.length s0) j0 O0 j2 O2 n2) : TH = TH2 ∧ LK = LK2 ∧ j = j2 ∧ O = O2 ∧ n = n2 := by
  have e : i.toNat = g.prods.length := by have := h.i0; have := h.i1; omega
  obtain ⟨_, _, a, b, c⟩ := h
  rw [e] at a b c
  obtain ⟨x, y, z⟩ := opAt_one c h3
  exact ⟨a.trans h1.symm, b.trans h2.symm, x, y, z⟩
theorem bgAt_closed (h : BgAt g N look s0 j0 O0 i TH LK j O n) (h0 : ∀ c ∈ O0, closedAll [] c = true) : (∀ c ∈ TH, closedAll [] c = true) ∧ (∀ c ∈ LK, closedAll [] c = true) ∧ ∀ c ∈ O, closedAll [] c = true := by
  refine ⟨closed_bool h.th, closed_set h.lk, ?_⟩
  rw [h.op.pO]
  split
  · exact h0
  · exact closed_map fun _ => rfl
end
end Go.Proofs.Ytnceadbfgpiaaaa.C
