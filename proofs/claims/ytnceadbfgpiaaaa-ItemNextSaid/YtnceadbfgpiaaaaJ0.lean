/- Plain law: items by their keys; the sum of items in whatever order; a text for them. No program in sight. -/
import Derived.Test.YtnceadbfgpiaaaaU1
namespace Go.Proofs.Ytnceadbfgpiaaaa.J
open Go G U
set_option linter.unusedVariables false
set_option linter.unusedSimpArgs false
structure ItemT where
  prod : Int
  dot : Int
  look : Nat
  deriving DecidableEq
instance : Inhabited ItemT := ⟨⟨0, 0, 0⟩⟩
def itemC (x : ItemT) : List AV := [.flat (.int .i64 x.prod), .flat (.int .i64 x.dot), .flat (.int .u64 (x.look : Int))]
def ltK (x y : ItemT) : Bool := decide (x.prod < y.prod) || (decide (x.prod = y.prod) && decide (x.dot < y.dot))
def eqK (x y : ItemT) : Bool := decide (x.prod = y.prod) && decide (x.dot = y.dot)
def cmpZ (a b : Int) : Int := if a < b then -1 else if b < a then 1 else 0
def cmpI (x y : ItemT) : Int := if x.prod = y.prod then cmpZ x.dot y.dot else cmpZ x.prod y.prod
theorem ltK_iff {x y : ItemT} : ltK x y = true ↔ x.prod < y.prod ∨ (x.prod = y.prod ∧ x.dot < y.dot) := by simp [ltK]
theorem eqK_iff {x y : ItemT} : eqK x y = true ↔ x.prod = y.prod ∧ x.dot = y.dot := by simp [eqK]
theorem ltK_off {x y : ItemT} : ltK x y = false ↔ ¬ (x.prod < y.prod ∨ (x.prod = y.prod ∧ x.dot < y.dot)) := by
  rw [← ltK_iff]; simp
theorem eqK_off {x y : ItemT} : eqK x y = false ↔ ¬ (x.prod = y.prod ∧ x.dot = y.dot) := by
  rw [← eqK_iff]; simp
theorem cmp_lt (x y : ItemT) : decide (cmpI x y < 0) = ltK x y := by
  rw [Bool.eq_iff_iff, ltK_iff, decide_eq_true_iff]
  unfold cmpI cmpZ
  split <;> split <;> try split
  all_goals omega
theorem cmp_eq (x y : ItemT) : decide (cmpI x y = 0) = eqK x y := by
  rw [Bool.eq_iff_iff, eqK_iff, decide_eq_true_iff]
  unfold cmpI cmpZ
  split <;> split <;> try split
  all_goals omega
def Sorted (l : List ItemT) : Prop := l.Pairwise fun x y => ltK x y = true
def posI (l : List ItemT) (x : ItemT) : Nat := (l.takeWhile fun y => ltK y x).length
def foundI (l : List ItemT) (x : ItemT) : Bool := match l[posI l x]? with
  | some y => eqK y x
  | none => false
def insT (l : List ItemT) (x : ItemT) : List ItemT := if foundI l x = true then l.set (posI l x) ⟨(l.getD (posI l x) default).prod, (l.getD (posI l x) default).dot, (l.getD (posI l x) default).look ||| x.look⟩ else l.take (posI l x) ++ [x] ++ l.drop (posI l x)
def ofT (l : List ItemT) : List ItemT := l.foldl insT []
theorem pos_le (l : List ItemT) (x : ItemT) : posI l x ≤ l.length := (List.takeWhile_prefix _).length_le
theorem pos_cons {y x : ItemT} {l : List ItemT} : posI (y :: l) x = if ltK y x = true then posI l x + 1 else 0 := by
  unfold posI
  rw [List.takeWhile_cons]
  split <;> rename_i h
  · simp [h]
  · simp [h]
theorem ins_nil (x : ItemT) : insT [] x = [x] := rfl
theorem ins_lt {y x : ItemT} {l : List ItemT} (h : ltK y x = true) : insT (y :: l) x = y :: insT l x := by
  have hp : posI (y :: l) x = posI l x + 1 := by rw [pos_cons, if_pos h]
  have hf : foundI (y :: l) x = foundI l x := by unfold foundI; rw [hp]; rfl
  unfold insT
  rw [hf, hp]
  split
  · simp
  · simp
theorem ins_ge {y x : ItemT} {l : List ItemT} (h : ltK y x = false) : insT (y :: l) x = if eqK y x = true then ⟨y.prod, y.dot, y.look ||| x.look⟩ :: l else x :: y :: l := by
  have hp : posI (y :: l) x = 0 := by rw [pos_cons, if_neg (by rw [h]; decide)]
  have hf : foundI (y :: l) x = eqK y x := by unfold foundI; rw [hp]; rfl
  unfold insT
  rw [hf, hp]
  split <;> simp
theorem ltK_trans {x y z : ItemT} (h1 : ltK x y = true) (h2 : ltK y z = true) : ltK x z = true := by
  rw [ltK_iff] at *; omega
theorem ltK_irr (x : ItemT) : ltK x x = false := by rw [ltK_off]; omega
theorem sorted_cons {y : ItemT} {l : List ItemT} : Sorted (y :: l) ↔ (∀ z ∈ l, ltK y z = true) ∧ Sorted l := List.pairwise_cons
/-- Who is there, behind one more. -/
theorem mem_ins {x : ItemT} : ∀ {l : List ItemT}, Sorted l → ∀ y, y ∈ insT l x ↔ (eqK x y = false ∧ y ∈ l) ∨ (eqK x y = true ∧ ((∃ z ∈ l, eqK z x = true ∧ y.look = z.look ||| x.look) ∨ ((∀ z ∈ l, eqK z x = false) ∧ y.look = x.look)))
  | [], _, y => by
    rw [ins_nil]
    simp only [List.mem_cons, List.not_mem_nil, or_false, and_false, false_or, false_and, exists_false]
    constructor
    · rintro rfl; exact ⟨by rw [eqK_iff]; exact ⟨rfl, rfl⟩, fun z hz => hz.elim, rfl⟩
    · rintro ⟨h1, _, h2⟩
      obtain ⟨a, b, c⟩ := x; obtain ⟨a', b', c'⟩ := y
      rw [eqK_iff] at h1
      dsimp only at h1 h2
      rw [h1.1, h1.2, h2]
  | w :: l, hs, y => by
    obtain ⟨hw, hl⟩ := sorted_cons.1 hs
    cases hlt : ltK w x
    · rw [ins_ge hlt]
      cases he : eqK w x
      · rw [if_neg (by decide)]
        have hxw : ltK x w = true := by rw [ltK_off] at hlt; rw [eqK_off] at he; rw [ltK_iff]; omega
        have hno : ∀ z ∈ w :: l, eqK z x = false := fun z hz => by
          rcases List.mem_cons.1 hz with rfl | hz
          · exact he
          · have := ltK_trans hxw (hw z hz)
            rw [ltK_iff] at this; rw [eqK_off]; omega
        constructor
        · intro h
          rcases List.mem_cons.1 h with rfl | h
          · exact .inr ⟨by rw [eqK_iff]; exact ⟨rfl, rfl⟩, .inr ⟨hno, rfl⟩⟩
          · refine .inl ⟨?_, h⟩
            have := hno y h
            rw [eqK_off] at this ⊢; omega
        · rintro (⟨_, h⟩ | ⟨h1, ⟨z, hz, h2, _⟩ | ⟨_, h2⟩⟩)
          · exact List.mem_cons_of_mem _ h
          · rw [hno z hz] at h2; cases h2
          · have : y = x := by
              obtain ⟨a, b, c⟩ := x; obtain ⟨a', b', c'⟩ := y
              rw [eqK_iff] at h1
              dsimp only at h1 h2
              rw [h1.1, h1.2, h2]
            rw [this]; exact List.mem_cons_self ..
      · rw [if_pos rfl]
        have he' := eqK_iff.1 he
        have hno : ∀ z ∈ l, eqK z x = false := fun z hz => by
          have := hw z hz
          rw [ltK_iff] at this; rw [eqK_off]; omega
        constructor
        · intro h
          rcases List.mem_cons.1 h with rfl | h
          · exact .inr ⟨by rw [eqK_iff]; exact ⟨he'.1.symm, he'.2.symm⟩, .inl ⟨w, List.mem_cons_self .., he, rfl⟩⟩
          · refine .inl ⟨?_, List.mem_cons_of_mem _ h⟩
            have := hno y h
            rw [eqK_off] at this ⊢; omega
        · rintro (⟨h1, h⟩ | ⟨h1, ⟨z, hz, h2, h3⟩ | ⟨h2, _⟩⟩)
          · rcases List.mem_cons.1 h with rfl | h
            · rw [eqK_off] at h1; omega
            · exact List.mem_cons_of_mem _ h
          · rcases List.mem_cons.1 hz with rfl | hz
            · have : y = ⟨z.prod, z.dot, z.look ||| x.look⟩ := by
                obtain ⟨a, b, c⟩ := x; obtain ⟨a', b', c'⟩ := y; obtain ⟨a2, b2, c2⟩ := z
                rw [eqK_iff] at h1 h2
                dsimp only at h1 h2 h3 ⊢
                rw [h3, ← h1.1, ← h1.2, h2.1, h2.2]
              rw [this]; exact List.mem_cons_self ..
            · rw [hno z hz] at h2; cases h2
          · rw [h2 w (List.mem_cons_self ..)] at he; cases he
    · rw [ins_lt hlt]
      have hwx : eqK w x = false := by rw [ltK_iff] at hlt; rw [eqK_off]; omega
      have ih := mem_ins (x := x) hl y
      rw [List.mem_cons, ih]
      constructor
      · rintro (rfl | ⟨h1, h2⟩ | ⟨h1, ⟨z, hz, h2, h3⟩ | ⟨h2, h3⟩⟩)
        · exact .inl ⟨by rw [eqK_off] at hwx ⊢; omega, List.mem_cons_self ..⟩
        · exact .inl ⟨h1, List.mem_cons_of_mem _ h2⟩
        · exact .inr ⟨h1, .inl ⟨z, List.mem_cons_of_mem _ hz, h2, h3⟩⟩
        · refine .inr ⟨h1, .inr ⟨fun z hz => ?_, h3⟩⟩
          rcases List.mem_cons.1 hz with rfl | hz
          · exact hwx
          · exact h2 z hz
      · rintro (⟨h1, h2⟩ | ⟨h1, ⟨z, hz, h2, h3⟩ | ⟨h2, h3⟩⟩)
        · rcases List.mem_cons.1 h2 with rfl | h2
          · exact .inl rfl
          · exact .inr (.inl ⟨h1, h2⟩)
        · rcases List.mem_cons.1 hz with rfl | hz
          · rw [hwx] at h2; cases h2
          · exact .inr (.inr ⟨h1, .inl ⟨z, hz, h2, h3⟩⟩)
        · exact .inr (.inr ⟨h1, .inr ⟨fun z hz => h2 z (List.mem_cons_of_mem _ hz), h3⟩⟩)
theorem ins_sorted {x : ItemT} : ∀ {l : List ItemT}, Sorted l → Sorted (insT l x)
  | [], _ => by rw [ins_nil]; exact List.pairwise_singleton _ _
  | w :: l, hs => by
    obtain ⟨hw, hl⟩ := sorted_cons.1 hs
    cases hlt : ltK w x
    · rw [ins_ge hlt]
      cases he : eqK w x
      · rw [if_neg (by decide)]
        have hxw : ltK x w = true := by rw [ltK_off] at hlt; rw [eqK_off] at he; rw [ltK_iff]; omega
        refine sorted_cons.2 ⟨fun z hz => ?_, hs⟩
        rcases List.mem_cons.1 hz with rfl | hz
        · exact hxw
        · exact ltK_trans hxw (hw z hz)
      · rw [if_pos rfl]
        refine sorted_cons.2 ⟨fun z hz => ?_, hl⟩
        have := hw z hz
        rw [ltK_iff] at this ⊢; exact this
    · rw [ins_lt hlt]
      refine sorted_cons.2 ⟨fun z hz => ?_, ins_sorted hl⟩
      rcases (mem_ins hl z).1 hz with ⟨_, h⟩ | ⟨h, hh⟩
      · exact hw z h
      · clear hh; rw [eqK_iff] at h; rw [ltK_iff] at hlt ⊢; omega
/-- The sum of items. -/
structure OfS (l S : List ItemT) : Prop where
  sorted : Sorted S
  mem : ∀ y, y ∈ S ↔ (∃ x ∈ l, eqK x y = true) ∧ ∀ t, y.look.testBit t = true ↔ ∃ x ∈ l, eqK x y = true ∧ x.look.testBit t = true
  all : ∀ x ∈ l, ∃ z ∈ S, eqK x z = true
theorem eqK_symm {x y : ItemT} (h : eqK x y = true) : eqK y x = true := by rw [eqK_iff] at *; omega
theorem eqK_trans {x y z : ItemT} (h : eqK x y = true) (k : eqK y z = true) : eqK x z = true := by rw [eqK_iff] at *; omega
theorem eqK_self (x : ItemT) : eqK x x = true := by rw [eqK_iff]; exact ⟨rfl, rfl⟩
theorem ofS_nil : OfS [] [] := ⟨List.Pairwise.nil, fun y => by simp, fun x h => by cases h⟩
theorem ofS_step {l S : List ItemT} (h : OfS l S) (x : ItemT) : OfS (l ++ [x]) (insT S x) := by
  have hm := mem_ins (x := x) h.sorted
  have ex : ∀ {p : ItemT → Prop}, (∃ z ∈ l ++ [x], p z) ↔ (∃ z ∈ l, p z) ∨ p x := fun {p} => by
    constructor
    · rintro ⟨z, hz, h⟩
      rcases List.mem_append.1 hz with hz | hz
      · exact .inl ⟨z, hz, h⟩
      · simp only [List.mem_cons, List.not_mem_nil, or_false] at hz; subst hz; exact .inr h
    · rintro (⟨z, hz, h⟩ | h)
      · exact ⟨z, List.mem_append.2 (.inl hz), h⟩
      · exact ⟨x, by simp, h⟩
  have key : ∀ y, y ∈ insT S x ↔ (∃ z ∈ l ++ [x], eqK z y = true) ∧ ∀ t, y.look.testBit t = true ↔ ∃ z ∈ l ++ [x], eqK z y = true ∧ z.look.testBit t = true := fun y => by
    rw [hm y, ex]
    simp only [ex]
    cases hxy : eqK x y
    · simp only [true_and, false_and, or_false, Bool.false_eq_true]
      exact h.mem y
    · simp only [Bool.true_eq_false, false_and, false_or, true_and, or_true]
      constructor
      · rintro (⟨z, hz, h1, h2⟩ | ⟨h1, h2⟩) t
        · have hzb := ((h.mem z).1 hz).2 t
          rw [h2, Nat.testBit_or, Bool.or_eq_true, hzb]
          have hzy := eqK_trans h1 hxy
          refine or_congr ⟨fun ⟨q, hq, a, b⟩ => ⟨q, hq, eqK_trans a hzy, b⟩, fun ⟨q, hq, a, b⟩ => ⟨q, hq, eqK_trans a (eqK_symm hzy), b⟩⟩ Iff.rfl
        · rw [h2]
          refine ⟨fun h => .inr h, ?_⟩
          rintro (⟨q, hq, a, b⟩ | h3)
          · obtain ⟨z, hz, hqz⟩ := h.all q hq
            have := h1 z hz
            rw [eqK_trans (eqK_symm hqz) (eqK_trans a (eqK_symm hxy))] at this; cases this
          · exact h3
      · intro hb
        by_cases hz : ∃ z ∈ S, eqK z x = true
        · obtain ⟨z, hz, h1⟩ := hz
          refine .inl ⟨z, hz, h1, Nat.eq_of_testBit_eq fun t => ?_⟩
          have hzb := ((h.mem z).1 hz).2 t
          rw [Bool.eq_iff_iff, hb t, Nat.testBit_or, Bool.or_eq_true, hzb]
          have hzy := eqK_trans h1 hxy
          exact or_congr ⟨fun ⟨q, hq, a, b⟩ => ⟨q, hq, eqK_trans a (eqK_symm hzy), b⟩, fun ⟨q, hq, a, b⟩ => ⟨q, hq, eqK_trans a hzy, b⟩⟩ Iff.rfl
        · refine .inr ⟨fun z hz2 => ?_, Nat.eq_of_testBit_eq fun t => ?_⟩
          · cases he : eqK z x
            · rfl
            · exact absurd ⟨z, hz2, he⟩ hz
          · rw [Bool.eq_iff_iff, hb t]
            refine ⟨?_, fun h => .inr h⟩
            rintro (⟨q, hq, a, b⟩ | h3)
            · obtain ⟨z, hz2, hqz⟩ := h.all q hq
              exact absurd ⟨z, hz2, eqK_trans (eqK_symm hqz) (eqK_trans a (eqK_symm hxy))⟩ hz
            · exact h3
  refine ⟨ins_sorted h.sorted, key, fun q hq => ?_⟩
  have grow : ∀ z ∈ S, ∃ z' ∈ insT S x, eqK z z' = true := fun z hz => by
    cases hzx : eqK x z
    · exact ⟨z, (hm z).2 (.inl ⟨hzx, hz⟩), eqK_self z⟩
    · exact ⟨⟨z.prod, z.dot, z.look ||| x.look⟩, (hm _).2 (.inr ⟨by rw [eqK_iff] at hzx ⊢; exact hzx, .inl ⟨z, hz, eqK_symm hzx, rfl⟩⟩), by rw [eqK_iff]; exact ⟨rfl, rfl⟩⟩
  rcases List.mem_append.1 hq with hq | hq
  · obtain ⟨z, hz, h1⟩ := h.all q hq
    obtain ⟨z', h2, h3⟩ := grow z hz
    exact ⟨z', h2, eqK_trans h1 h3⟩
  · simp only [List.mem_cons, List.not_mem_nil, or_false] at hq
    subst hq
    by_cases hz : ∃ z ∈ S, eqK z q = true
    · obtain ⟨z, hz, h1⟩ := hz
      obtain ⟨z', h2, h3⟩ := grow z hz
      exact ⟨z', h2, eqK_trans (eqK_symm h1) h3⟩
    · refine ⟨q, (hm q).2 (.inr ⟨eqK_self q, .inr ⟨fun z hz2 => ?_, rfl⟩⟩), eqK_self q⟩
      cases he : eqK z q
      · rfl
      · exact absurd ⟨z, hz2, he⟩ hz
theorem ofS_fold : ∀ (m l S : List ItemT), OfS l S → OfS (l ++ m) (m.foldl insT S)
  | [], l, S, h => by rw [List.append_nil]; exact h
  | x :: m, l, S, h => by
    have := ofS_fold m (l ++ [x]) (insT S x) (ofS_step h x)
    rw [List.append_assoc] at this
    exact this
theorem ofT_ok (l : List ItemT) : OfS l (ofT l) := ofS_fold l [] [] ofS_nil
theorem sorted_ext : ∀ {a b : List ItemT}, Sorted a → Sorted b → (∀ y, y ∈ a ↔ y ∈ b) → a = b
  | [], [], _, _, _ => rfl
  | [], y :: b, _, _, h => by have := (h y).2 (List.mem_cons_self ..); cases this
  | x :: a, [], _, _, h => by have := (h x).1 (List.mem_cons_self ..); cases this
  | x :: a, y :: b, ha, hb, h => by
    obtain ⟨h1, h2⟩ := sorted_cons.1 ha
    obtain ⟨k1, k2⟩ := sorted_cons.1 hb
    have hxy : x = y := by
      rcases List.mem_cons.1 ((h x).1 (List.mem_cons_self ..)) with e | e
      · exact e
      · rcases List.mem_cons.1 ((h y).2 (List.mem_cons_self ..)) with e2 | e2
        · exact e2.symm
        · have := ltK_trans (h1 y e2) (k1 x e)
          rw [ltK_irr] at this; cases this
    subst hxy
    rw [sorted_ext h2 k2 fun z => ?_]
    constructor
    · intro hz
      rcases List.mem_cons.1 ((h z).1 (List.mem_cons_of_mem _ hz)) with e | e
      · subst e; have := h1 z hz; rw [ltK_irr] at this; cases this
      · exact e
    · intro hz
      rcases List.mem_cons.1 ((h z).2 (List.mem_cons_of_mem _ hz)) with e | e
      · subst e; have := k1 z hz; rw [ltK_irr] at this; cases this
      · exact e
theorem ofS_ext {l l' S S' : List ItemT} (h : OfS l S) (h' : OfS l' S') (hl : ∀ x, x ∈ l ↔ x ∈ l') : S = S' := by
  refine sorted_ext h.sorted h'.sorted fun y => ?_
  rw [h.mem, h'.mem]
  have ex : ∀ {p : ItemT → Prop}, (∃ z ∈ l, p z) ↔ ∃ z ∈ l', p z := fun {p} => ⟨fun ⟨z, hz, h⟩ => ⟨z, (hl z).1 hz, h⟩, fun ⟨z, hz, h⟩ => ⟨z, (hl z).2 hz, h⟩⟩
  simp only [ex]
theorem ofT_ext {a b : List ItemT} (h : ∀ x, x ∈ a ↔ x ∈ b) : ofT a = ofT b := ofS_ext (ofT_ok a) (ofT_ok b) h
theorem ofT_back (a : List ItemT) : ofT (a.reverse ++ a) = ofT a := ofT_ext fun x => by simp
/-! ### Where one goes -/
theorem pos_lt {x : ItemT} : ∀ {l : List ItemT} {k : Nat} {y : ItemT}, k < posI l x → l[k]? = some y → ltK y x = true
  | [], k, y, h, h2 => by cases h2
  | w :: l, k, y, h, h2 => by
    rw [pos_cons] at h
    split at h
    · rename_i hw
      cases k with
      | zero => simp at h2; subst h2; exact hw
      | succ k => exact pos_lt (l := l) (k := k) (by omega) (by simpa using h2)
    · omega
theorem pos_ge {x : ItemT} : ∀ {l : List ItemT} {k : Nat} {y : ItemT}, Sorted l → posI l x ≤ k → l[k]? = some y → ltK y x = false
  | [], k, y, _, h, h2 => by cases h2
  | w :: l, k, y, hs, h, h2 => by
    obtain ⟨h1, h3⟩ := sorted_cons.1 hs
    rw [pos_cons] at h
    split at h
    · rename_i hw
      cases k with
      | zero => omega
      | succ k => exact pos_ge (l := l) (k := k) h3 (by omega) (by simpa using h2)
    · rename_i hw
      cases k with
      | zero => simp at h2; subst h2; simpa using hw
      | succ k =>
        have hm := List.mem_of_getElem? (show l[k]? = some y by simpa using h2)
        have := h1 y hm
        cases hyx : ltK y x
        · rfl
        · exact absurd (ltK_trans this hyx) hw
def okI64 (x : ItemT) : Prop := x.look < 18446744073709551616
theorem ins_ok {x : ItemT} {l : List ItemT} (hl : ∀ y ∈ l, okI64 y) (hs : Sorted l) (hx : okI64 x) : ∀ y ∈ insT l x, okI64 y := fun y hy => by
  unfold okI64 at *
  rcases (mem_ins hs y).1 hy with ⟨_, h⟩ | ⟨_, ⟨z, hz, _, h⟩ | ⟨_, h⟩⟩
  · exact hl y h
  · rw [h]; exact Nat.or_lt_two_pow (n := 64) (hl z hz) hx
  · rw [h]; exact hx
theorem ins_len (l : List ItemT) (x : ItemT) : (insT l x).length = if foundI l x = true then l.length else l.length + 1 := by
  have := pos_le l x
  unfold insT
  split
  · simp
  · simp; omega
/-! ### The text -/
def keyN (x : ItemT) : List Nat := [x.prod.toNat / 256 % 256, x.prod.toNat % 256, x.dot.toNat / 256 % 256, x.dot.toNat % 256, x.look % 256, x.look / 256 % 256, x.look / 65536 % 256, x.look / 16777216 % 256, x.look / 4294967296 % 256, x.look / 1099511627776 % 256, x.look / 281474976710656 % 256, x.look / 72057594037927936 % 256]
def keysN (l : List ItemT) : List Nat := (l.map keyN).flatten
def fewI (x : ItemT) : Prop := 0 ≤ x.prod ∧ x.prod ≤ 65535 ∧ 0 ≤ x.dot ∧ x.dot ≤ 65535 ∧ okI64 x
theorem key_inj {x y : ItemT} (hx : fewI x) (hy : fewI y) (h : keyN x = keyN y) : x = y := by
  obtain ⟨a, b, c⟩ := x; obtain ⟨a', b', c'⟩ := y
  obtain ⟨x1, x2, x3, x4, x5⟩ := hx
  obtain ⟨y1, y2, y3, y4, y5⟩ := hy
  unfold okI64 at x5 y5
  simp only [keyN, List.cons.injEq, and_true] at h
  dsimp only at *
  have e1 : a = a' := by omega
  have e2 : b = b' := by omega
  have e3 : c = c' := by omega
  rw [e1, e2, e3]
theorem keys_inj : ∀ {a b : List ItemT}, (∀ x ∈ a, fewI x) → (∀ x ∈ b, fewI x) → keysN a = keysN b → a = b
  | [], [], _, _, _ => rfl
  | [], y :: b, _, _, h => by simp [keysN, keyN] at h
  | x :: a, [], _, _, h => by simp [keysN, keyN] at h
  | x :: a, y :: b, ha, hb, h => by
    have h' : keyN x ++ keysN a = keyN y ++ keysN b := by simpa [keysN] using h
    obtain ⟨h1, h2⟩ := List.append_inj h' rfl
    rw [key_inj (ha x (List.mem_cons_self ..)) (hb y (List.mem_cons_self ..)) h1, keys_inj (fun z hz => ha z (List.mem_cons_of_mem _ hz)) (fun z hz => hb z (List.mem_cons_of_mem _ hz)) h2]
theorem ofT_few {l : List ItemT} (h : ∀ x ∈ l, fewI x) : ∀ x ∈ ofT l, fewI x := fun x hx => by
  obtain ⟨⟨z, hz, h1⟩, h2⟩ := ((ofT_ok l).mem x).1 hx
  obtain ⟨f1, f2, f3, f4, f5⟩ := h z hz
  rw [eqK_iff] at h1
  refine ⟨by omega, by omega, by omega, by omega, ?_⟩
  unfold okI64
  apply Nat.lt_of_not_le
  intro hge
  have : ∃ t, 64 ≤ t ∧ x.look.testBit t = true := by
    obtain ⟨t, ht, hb⟩ := Nat.exists_ge_and_testBit_of_ge_two_pow (n := 64) hge
    exact ⟨t, ht, hb⟩
  obtain ⟨t, ht, hb⟩ := this
  obtain ⟨q, hq, _, hb2⟩ := (h2 t).1 hb
  have hlt := (h q hq).2.2.2.2
  unfold okI64 at hlt
  rw [Nat.testBit_lt_two_pow (Nat.lt_of_lt_of_le hlt (Nat.pow_le_pow_right (by decide) ht : 2 ^ 64 ≤ 2 ^ t))] at hb2
  cases hb2
end Go.Proofs.Ytnceadbfgpiaaaa.J
