/- J0, J1, J2, J3, J4, one behind the other. -/
import Derived.Test.YtnceadbfgpiaaaaQ4
import Derived.Test.YtnceadbfgpiaaaaQ6
/- Plain law: items by their keys; the sum of items in whatever order; a text for them. No program in sight. -/
namespace Go.Proofs.Ytnceadbfgpiaaaa.J
open Go G U
set_option linter.unusedVariables false
set_option linter.unusedSimpArgs false
structure ItemT where
  prod : Int
  dot : Int
  look : Nat
  deriving DecidableEq
instance : Inhabited ItemT := ⟨⟨0, 0, 0⟩⟩
def itemC (x : ItemT) : List AV := [.flat (.int .i64 x.prod), .flat (.int .i64 x.dot), .flat (.int .u64 (x.look : Int))]
def ltK (x y : ItemT) : Bool := decide (x.prod < y.prod) || (decide (x.prod = y.prod) && decide (x.dot < y.dot))
def eqK (x y : ItemT) : Bool := decide (x.prod = y.prod) && decide (x.dot = y.dot)
def cmpZ (a b : Int) : Int := if a < b then -1 else if b < a then 1 else 0
def cmpI (x y : ItemT) : Int := if x.prod = y.prod then cmpZ x.dot y.dot else cmpZ x.prod y.prod
theorem ltK_iff {x y : ItemT} : ltK x y = true ↔ x.prod < y.prod ∨ (x.prod = y.prod ∧ x.dot < y.dot) := by simp [ltK]
theorem eqK_iff {x y : ItemT} : eqK x y = true ↔ x.prod = y.prod ∧ x.dot = y.dot := by simp [eqK]
theorem ltK_off {x y : ItemT} : ltK x y = false ↔ ¬ (x.prod < y.prod ∨ (x.prod = y.prod ∧ x.dot < y.dot)) := by
  rw [← ltK_iff]; simp
theorem eqK_off {x y : ItemT} : eqK x y = false ↔ ¬ (x.prod = y.prod ∧ x.dot = y.dot) := by
  rw [← eqK_iff]; simp
theorem cmp_lt (x y : ItemT) : decide (cmpI x y < 0) = ltK x y := by
  rw [Bool.eq_iff_iff, ltK_iff, decide_eq_true_iff]
  unfold cmpI cmpZ
  split <;> split <;> try split
  all_goals omega
theorem cmp_eq (x y : ItemT) : decide (cmpI x y = 0) = eqK x y := by
  rw [Bool.eq_iff_iff, eqK_iff, decide_eq_true_iff]
  unfold cmpI cmpZ
  split <;> split <;> try split
  all_goals omega
def Sorted (l : List ItemT) : Prop := l.Pairwise fun x y => ltK x y = true
def posI (l : List ItemT) (x : ItemT) : Nat := (l.takeWhile fun y => ltK y x).length
def foundI (l : List ItemT) (x : ItemT) : Bool := match l[posI l x]? with
  | some y => eqK y x
  | none => false
def insT (l : List ItemT) (x : ItemT) : List ItemT := if foundI l x = true then l.set (posI l x) ⟨(l.getD (posI l x) default).prod, (l.getD (posI l x) default).dot, (l.getD (posI l x) default).look ||| x.look⟩ else l.take (posI l x) ++ [x] ++ l.drop (posI l x)
def ofT (l : List ItemT) : List ItemT := l.foldl insT []
theorem pos_le (l : List ItemT) (x : ItemT) : posI l x ≤ l.length := (List.takeWhile_prefix _).length_le
theorem pos_cons {y x : ItemT} {l : List ItemT} : posI (y :: l) x = if ltK y x = true then posI l x + 1 else 0 := by
  unfold posI
  rw [List.takeWhile_cons]
  split <;> rename_i h
  · simp [h]
  · simp [h]
theorem ins_nil (x : ItemT) : insT [] x = [x] := rfl
theorem ins_lt {y x : ItemT} {l : List ItemT} (h : ltK y x = true) : insT (y :: l) x = y :: insT l x := by
  have hp : posI (y :: l) x = posI l x + 1 := by rw [pos_cons, if_pos h]
  have hf : foundI (y :: l) x = foundI l x := by unfold foundI; rw [hp]; rfl
  unfold insT
  rw [hf, hp]
  split
  · simp
  · simp
theorem ins_ge {y x : ItemT} {l : List ItemT} (h : ltK y x = false) : insT (y :: l) x = if eqK y x = true then ⟨y.prod, y.dot, y.look ||| x.look⟩ :: l else x :: y :: l := by
  have hp : posI (y :: l) x = 0 := by rw [pos_cons, if_neg (by rw [h]; decide)]
  have hf : foundI (y :: l) x = eqK y x := by unfold foundI; rw [hp]; rfl
  unfold insT
  rw [hf, hp]
  split <;> simp
theorem ltK_trans {x y z : ItemT} (h1 : ltK x y = true) (h2 : ltK y z = true) : ltK x z = true := by
  rw [ltK_iff] at *; omega
theorem ltK_irr (x : ItemT) : ltK x x = false := by rw [ltK_off]; omega
theorem sorted_cons {y : ItemT} {l : List ItemT} : Sorted (y :: l) ↔ (∀ z ∈ l, ltK y z = true) ∧ Sorted l := List.pairwise_cons
/-- Who is there, behind one more. -/
theorem mem_ins {x : ItemT} : ∀ {l : List ItemT}, Sorted l → ∀ y, y ∈ insT l x ↔ (eqK x y = false ∧ y ∈ l) ∨ (eqK x y = true ∧ ((∃ z ∈ l, eqK z x = true ∧ y.look = z.look ||| x.look) ∨ ((∀ z ∈ l, eqK z x = false) ∧ y.look = x.look)))
  | [], _, y => by
    rw [ins_nil]
    simp only [List.mem_cons, List.not_mem_nil, or_false, and_false, false_or, false_and, exists_false]
    constructor
    · rintro rfl; exact ⟨by rw [eqK_iff]; exact ⟨rfl, rfl⟩, fun z hz => hz.elim, rfl⟩
    · rintro ⟨h1, _, h2⟩
      obtain ⟨a, b, c⟩ := x; obtain ⟨a', b', c'⟩ := y
      rw [eqK_iff] at h1
      dsimp only at h1 h2
      rw [h1.1, h1.2, h2]
  | w :: l, hs, y => by
    obtain ⟨hw, hl⟩ := sorted_cons.1 hs
    cases hlt : ltK w x
    · rw [ins_ge hlt]
      cases he : eqK w x
      · rw [if_neg (by decide)]
        have hxw : ltK x w = true := by rw [ltK_off] at hlt; rw [eqK_off] at he; rw [ltK_iff]; omega
        have hno : ∀ z ∈ w :: l, eqK z x = false := fun z hz => by
          rcases List.mem_cons.1 hz with rfl | hz
          · exact he
          · have := ltK_trans hxw (hw z hz)
            rw [ltK_iff] at this; rw [eqK_off]; omega
        constructor
        · intro h
          rcases List.mem_cons.1 h with rfl | h
          · exact .inr ⟨by rw [eqK_iff]; exact ⟨rfl, rfl⟩, .inr ⟨hno, rfl⟩⟩
          · refine .inl ⟨?_, h⟩
            have := hno y h
            rw [eqK_off] at this ⊢; omega
        · rintro (⟨_, h⟩ | ⟨h1, ⟨z, hz, h2, _⟩ | ⟨_, h2⟩⟩)
          · exact List.mem_cons_of_mem _ h
          · rw [hno z hz] at h2; cases h2
          · have : y = x := by
              obtain ⟨a, b, c⟩ := x; obtain ⟨a', b', c'⟩ := y
              rw [eqK_iff] at h1
              dsimp only at h1 h2
              rw [h1.1, h1.2, h2]
            rw [this]; exact List.mem_cons_self ..
      · rw [if_pos rfl]
        have he' := eqK_iff.1 he
        have hno : ∀ z ∈ l, eqK z x = false := fun z hz => by
          have := hw z hz
          rw [ltK_iff] at this; rw [eqK_off]; omega
        constructor
        · intro h
          rcases List.mem_cons.1 h with rfl | h
          · exact .inr ⟨by rw [eqK_iff]; exact ⟨he'.1.symm, he'.2.symm⟩, .inl ⟨w, List.mem_cons_self .., he, rfl⟩⟩
          · refine .inl ⟨?_, List.mem_cons_of_mem _ h⟩
            have := hno y h
            rw [eqK_off] at this ⊢; omega
        · rintro (⟨h1, h⟩ | ⟨h1, ⟨z, hz, h2, h3⟩ | ⟨h2, _⟩⟩)
          · rcases List.mem_cons.1 h with rfl | h
            · rw [eqK_off] at h1; omega
            · exact List.mem_cons_of_mem _ h
          · rcases List.mem_cons.1 hz with rfl | hz
            · have : y = ⟨z.prod, z.dot, z.look ||| x.look⟩ := by
                obtain ⟨a, b, c⟩ := x; obtain ⟨a', b', c'⟩ := y; obtain ⟨a2, b2, c2⟩ := z
                rw [eqK_iff] at h1 h2
                dsimp only at h1 h2 h3 ⊢
                rw [h3, ← h1.1, ← h1.2, h2.1, h2.2]
              rw [this]; exact List.mem_cons_self ..
            · rw [hno z hz] at h2; cases h2
          · rw [h2 w (List.mem_cons_self ..)] at he; cases he
    · rw [ins_lt hlt]
      have hwx : eqK w x = false := by rw [ltK_iff] at hlt; rw [eqK_off]; omega
      have ih := mem_ins (x := x) hl y
      rw [List.mem_cons, ih]
      constructor
      · rintro (rfl | ⟨h1, h2⟩ | ⟨h1, ⟨z, hz, h2, h3⟩ | ⟨h2, h3⟩⟩)
        · exact .inl ⟨by rw [eqK_off] at hwx ⊢; omega, List.mem_cons_self ..⟩
        · exact .inl ⟨h1, List.mem_cons_of_mem _ h2⟩
        · exact .inr ⟨h1, .inl ⟨z, List.mem_cons_of_mem _ hz, h2, h3⟩⟩
        · refine .inr ⟨h1, .inr ⟨fun z hz => ?_, h3⟩⟩
          rcases List.mem_cons.1 hz with rfl | hz
          · exact hwx
          · exact h2 z hz
      · rintro (⟨h1, h2⟩ | ⟨h1, ⟨z, hz, h2, h3⟩ | ⟨h2, h3⟩⟩)
        · rcases List.mem_cons.1 h2 with rfl | h2
          · exact .inl rfl
          · exact .inr (.inl ⟨h1, h2⟩)
        · rcases List.mem_cons.1 hz with rfl | hz
          · rw [hwx] at h2; cases h2
          · exact .inr (.inr ⟨h1, .inl ⟨z, hz, h2, h3⟩⟩)
        · exact .inr (.inr ⟨h1, .inr ⟨fun z hz => h2 z (List.mem_cons_of_mem _ hz), h3⟩⟩)
theorem ins_sorted {x : ItemT} : ∀ {l : List ItemT}, Sorted l → Sorted (insT l x)
  | [], _ => by rw [ins_nil]; exact List.pairwise_singleton _ _
  | w :: l, hs => by
    obtain ⟨hw, hl⟩ := sorted_cons.1 hs
    cases hlt : ltK w x
    · rw [ins_ge hlt]
      cases he : eqK w x
      · rw [if_neg (by decide)]
        have hxw : ltK x w = true := by rw [ltK_off] at hlt; rw [eqK_off] at he; rw [ltK_iff]; omega
        refine sorted_cons.2 ⟨fun z hz => ?_, hs⟩
        rcases List.mem_cons.1 hz with rfl | hz
        · exact hxw
        · exact ltK_trans hxw (hw z hz)
      · rw [if_pos rfl]
        refine sorted_cons.2 ⟨fun z hz => ?_, hl⟩
        have := hw z hz
        rw [ltK_iff] at this ⊢; exact this
    · rw [ins_lt hlt]
      refine sorted_cons.2 ⟨fun z hz => ?_, ins_sorted hl⟩
      rcases (mem_ins hl z).1 hz with ⟨_, h⟩ | ⟨h, hh⟩
      · exact hw z h
      · clear hh; rw [eqK_iff] at h; rw [ltK_iff] at hlt ⊢; omega
/-- The sum of items. -/
structure OfS (l S : List ItemT) : Prop where
  sorted : Sorted S
  mem : ∀ y, y ∈ S ↔ (∃ x ∈ l, eqK x y = true) ∧ ∀ t, y.look.testBit t = true ↔ ∃ x ∈ l, eqK x y = true ∧ x.look.testBit t = true
  all : ∀ x ∈ l, ∃ z ∈ S, eqK x z = true
theorem eqK_symm {x y : ItemT} (h : eqK x y = true) : eqK y x = true := by rw [eqK_iff] at *; omega
theorem eqK_trans {x y z : ItemT} (h : eqK x y = true) (k : eqK y z = true) : eqK x z = true := by rw [eqK_iff] at *; omega
theorem eqK_self (x : ItemT) : eqK x x = true := by rw [eqK_iff]; exact ⟨rfl, rfl⟩
theorem ofS_nil : OfS [] [] := ⟨List.Pairwise.nil, fun y => by simp, fun x h => by cases h⟩
theorem ofS_step {l S : List ItemT} (h : OfS l S) (x : ItemT) : OfS (l ++ [x]) (insT S x) := by
  have hm := mem_ins (x := x) h.sorted
  have ex : ∀ {p : ItemT → Prop}, (∃ z ∈ l ++ [x], p z) ↔ (∃ z ∈ l, p z) ∨ p x := fun {p} => by
    constructor
    · rintro ⟨z, hz, h⟩
      rcases List.mem_append.1 hz with hz | hz
      · exact .inl ⟨z, hz, h⟩
      · simp only [List.mem_cons, List.not_mem_nil, or_false] at hz; subst hz; exact .inr h
    · rintro (⟨z, hz, h⟩ | h)
      · exact ⟨z, List.mem_append.2 (.inl hz), h⟩
      · exact ⟨x, by simp, h⟩
  have key : ∀ y, y ∈ insT S x ↔ (∃ z ∈ l ++ [x], eqK z y = true) ∧ ∀ t, y.look.testBit t = true ↔ ∃ z ∈ l ++ [x], eqK z y = true ∧ z.look.testBit t = true := fun y => by
    rw [hm y, ex]
    simp only [ex]
    cases hxy : eqK x y
    · simp only [true_and, false_and, or_false, Bool.false_eq_true]
      exact h.mem y
    · simp only [Bool.true_eq_false, false_and, false_or, true_and, or_true]
      constructor
      · rintro (⟨z, hz, h1, h2⟩ | ⟨h1, h2⟩) t
        · have hzb := ((h.mem z).1 hz).2 t
          rw [h2, Nat.testBit_or, Bool.or_eq_true, hzb]
          have hzy := eqK_trans h1 hxy
          refine or_congr ⟨fun ⟨q, hq, a, b⟩ => ⟨q, hq, eqK_trans a hzy, b⟩, fun ⟨q, hq, a, b⟩ => ⟨q, hq, eqK_trans a (eqK_symm hzy), b⟩⟩ Iff.rfl
        · rw [h2]
          refine ⟨fun h => .inr h, ?_⟩
          rintro (⟨q, hq, a, b⟩ | h3)
          · obtain ⟨z, hz, hqz⟩ := h.all q hq
            have := h1 z hz
            rw [eqK_trans (eqK_symm hqz) (eqK_trans a (eqK_symm hxy))] at this; cases this
          · exact h3
      · intro hb
        by_cases hz : ∃ z ∈ S, eqK z x = true
        · obtain ⟨z, hz, h1⟩ := hz
          refine .inl ⟨z, hz, h1, Nat.eq_of_testBit_eq fun t => ?_⟩
          have hzb := ((h.mem z).1 hz).2 t
          rw [Bool.eq_iff_iff, hb t, Nat.testBit_or, Bool.or_eq_true, hzb]
          have hzy := eqK_trans h1 hxy
          exact or_congr ⟨fun ⟨q, hq, a, b⟩ => ⟨q, hq, eqK_trans a (eqK_symm hzy), b⟩, fun ⟨q, hq, a, b⟩ => ⟨q, hq, eqK_trans a hzy, b⟩⟩ Iff.rfl
        · refine .inr ⟨fun z hz2 => ?_, Nat.eq_of_testBit_eq fun t => ?_⟩
          · cases he : eqK z x
            · rfl
            · exact absurd ⟨z, hz2, he⟩ hz
          · rw [Bool.eq_iff_iff, hb t]
            refine ⟨?_, fun h => .inr h⟩
            rintro (⟨q, hq, a, b⟩ | h3)
            · obtain ⟨z, hz2, hqz⟩ := h.all q hq
              exact absurd ⟨z, hz2, eqK_trans (eqK_symm hqz) (eqK_trans a (eqK_symm hxy))⟩ hz
            · exact h3
  refine ⟨ins_sorted h.sorted, key, fun q hq => ?_⟩
  have grow : ∀ z ∈ S, ∃ z' ∈ insT S x, eqK z z' = true := fun z hz => by
    cases hzx : eqK x z
    · exact ⟨z, (hm z).2 (.inl ⟨hzx, hz⟩), eqK_self z⟩
    · exact ⟨⟨z.prod, z.dot, z.look ||| x.look⟩, (hm _).2 (.inr ⟨by rw [eqK_iff] at hzx ⊢; exact hzx, .inl ⟨z, hz, eqK_symm hzx, rfl⟩⟩), by rw [eqK_iff]; exact ⟨rfl, rfl⟩⟩
  rcases List.mem_append.1 hq with hq | hq
  · obtain ⟨z, hz, h1⟩ := h.all q hq
    obtain ⟨z', h2, h3⟩ := grow z hz
    exact ⟨z', h2, eqK_trans h1 h3⟩
  · simp only [List.mem_cons, List.not_mem_nil, or_false] at hq
    subst hq
    by_cases hz : ∃ z ∈ S, eqK z q = true
    · obtain ⟨z, hz, h1⟩ := hz
      obtain ⟨z', h2, h3⟩ := grow z hz
      exact ⟨z', h2, eqK_trans (eqK_symm h1) h3⟩
    · refine ⟨q, (hm q).2 (.inr ⟨eqK_self q, .inr ⟨fun z hz2 => ?_, rfl⟩⟩), eqK_self q⟩
      cases he : eqK z q
      · rfl
      · exact absurd ⟨z, hz2, he⟩ hz
theorem ofS_fold : ∀ (m l S : List ItemT), OfS l S → OfS (l ++ m) (m.foldl insT S)
  | [], l, S, h => by rw [List.append_nil]; exact h
  | x :: m, l, S, h => by
    have := ofS_fold m (l ++ [x]) (insT S x) (ofS_step h x)
    rw [List.append_assoc] at this
    exact this
theorem ofT_ok (l : List ItemT) : OfS l (ofT l) := ofS_fold l [] [] ofS_nil
theorem sorted_ext : ∀ {a b : List ItemT}, Sorted a → Sorted b → (∀ y, y ∈ a ↔ y ∈ b) → a = b
  | [], [], _, _, _ => rfl
  | [], y :: b, _, _, h => by have := (h y).2 (List.mem_cons_self ..); cases this
  | x :: a, [], _, _, h => by have := (h x).1 (List.mem_cons_self ..); cases this
  | x :: a, y :: b, ha, hb, h => by
    obtain ⟨h1, h2⟩ := sorted_cons.1 ha
    obtain ⟨k1, k2⟩ := sorted_cons.1 hb
    have hxy : x = y := by
      rcases List.mem_cons.1 ((h x).1 (List.mem_cons_self ..)) with e | e
      · exact e
      · rcases List.mem_cons.1 ((h y).2 (List.mem_cons_self ..)) with e2 | e2
        · exact e2.symm
        · have := ltK_trans (h1 y e2) (k1 x e)
          rw [ltK_irr] at this; cases this
    subst hxy
    rw [sorted_ext h2 k2 fun z => ?_]
    constructor
    · intro hz
      rcases List.mem_cons.1 ((h z).1 (List.mem_cons_of_mem _ hz)) with e | e
      · subst e; have := h1 z hz; rw [ltK_irr] at this; cases this
      · exact e
    · intro hz
      rcases List.mem_cons.1 ((h z).2 (List.mem_cons_of_mem _ hz)) with e | e
      · subst e; have := k1 z hz; rw [ltK_irr] at this; cases this
      · exact e
theorem ofS_ext {l l' S S' : List ItemT} (h : OfS l S) (h' : OfS l' S') (hl : ∀ x, x ∈ l ↔ x ∈ l') : S = S' := by
  refine sorted_ext h.sorted h'.sorted fun y => ?_
  rw [h.mem, h'.mem]
  have ex : ∀ {p : ItemT → Prop}, (∃ z ∈ l, p z) ↔ ∃ z ∈ l', p z := fun {p} => ⟨fun ⟨z, hz, h⟩ => ⟨z, (hl z).1 hz, h⟩, fun ⟨z, hz, h⟩ => ⟨z, (hl z).2 hz, h⟩⟩
  simp only [ex]
theorem ofT_ext {a b : List ItemT} (h : ∀ x, x ∈ a ↔ x ∈ b) : ofT a = ofT b := ofS_ext (ofT_ok a) (ofT_ok b) h
theorem ofT_back (a : List ItemT) : ofT (a.reverse ++ a) = ofT a := ofT_ext fun x => by simp
/-! ### Where one goes -/
theorem pos_lt {x : ItemT} : ∀ {l : List ItemT} {k : Nat} {y : ItemT}, k < posI l x → l[k]? = some y → ltK y x = true
  | [], k, y, h, h2 => by cases h2
  | w :: l, k, y, h, h2 => by
    rw [pos_cons] at h
    split at h
    · rename_i hw
      cases k with
      | zero => simp at h2; subst h2; exact hw
      | succ k => exact pos_lt (l := l) (k := k) (by omega) (by simpa using h2)
    · omega
theorem pos_ge {x : ItemT} : ∀ {l : List ItemT} {k : Nat} {y : ItemT}, Sorted l → posI l x ≤ k → l[k]? = some y → ltK y x = false
  | [], k, y, _, h, h2 => by cases h2
  | w :: l, k, y, hs, h, h2 => by
    obtain ⟨h1, h3⟩ := sorted_cons.1 hs
    rw [pos_cons] at h
    split at h
    · rename_i hw
      cases k with
      | zero => omega
      | succ k => exact pos_ge (l := l) (k := k) h3 (by omega) (by simpa using h2)
    · rename_i hw
      cases k with
      | zero => simp at h2; subst h2; simpa using hw
      | succ k =>
        have hm := List.mem_of_getElem? (show l[k]? = some y by simpa using h2)
        have := h1 y hm
        cases hyx : ltK y x
        · rfl
        · exact absurd (ltK_trans this hyx) hw
def okI64 (x : ItemT) : Prop := x.look < 18446744073709551616
theorem ins_ok {x : ItemT} {l : List ItemT} (hl : ∀ y ∈ l, okI64 y) (hs : Sorted l) (hx : okI64 x) : ∀ y ∈ insT l x, okI64 y := fun y hy => by
  unfold okI64 at *
  rcases (mem_ins hs y).1 hy with ⟨_, h⟩ | ⟨_, ⟨z, hz, _, h⟩ | ⟨_, h⟩⟩
  · exact hl y h
  · rw [h]; exact Nat.or_lt_two_pow (n := 64) (hl z hz) hx
  · rw [h]; exact hx
theorem ins_len (l : List ItemT) (x : ItemT) : (insT l x).length = if foundI l x = true then l.length else l.length + 1 := by
  have := pos_le l x
  unfold insT
  split
  · simp
  · simp; omega
/-! ### The text -/
def keyN (x : ItemT) : List Nat := [x.prod.toNat / 256 % 256, x.prod.toNat % 256, x.dot.toNat / 256 % 256, x.dot.toNat % 256, x.look % 256, x.look / 256 % 256, x.look / 65536 % 256, x.look / 16777216 % 256, x.look / 4294967296 % 256, x.look / 1099511627776 % 256, x.look / 281474976710656 % 256, x.look / 72057594037927936 % 256]
def keysN (l : List ItemT) : List Nat := (l.map keyN).flatten
def fewI (x : ItemT) : Prop := 0 ≤ x.prod ∧ x.prod ≤ 65535 ∧ 0 ≤ x.dot ∧ x.dot ≤ 65535 ∧ okI64 x
theorem key_inj {x y : ItemT} (hx : fewI x) (hy : fewI y) (h : keyN x = keyN y) : x = y := by
  obtain ⟨a, b, c⟩ := x; obtain ⟨a', b', c'⟩ := y
  obtain ⟨x1, x2, x3, x4, x5⟩ := hx
  obtain ⟨y1, y2, y3, y4, y5⟩ := hy
  unfold okI64 at x5 y5
  simp only [keyN, List.cons.injEq, and_true] at h
  dsimp only at *
  have e1 : a = a' := by omega
  have e2 : b = b' := by omega
  have e3 : c = c' := by omega
  rw [e1, e2, e3]
theorem keys_inj : ∀ {a b : List ItemT}, (∀ x ∈ a, fewI x) → (∀ x ∈ b, fewI x) → keysN a = keysN b → a = b
  | [], [], _, _, _ => rfl
  | [], y :: b, _, _, h => by simp [keysN, keyN] at h
  | x :: a, [], _, _, h => by simp [keysN, keyN] at h
  | x :: a, y :: b, ha, hb, h => by
    have h' : keyN x ++ keysN a = keyN y ++ keysN b := by simpa [keysN] using h
    obtain ⟨h1, h2⟩ := List.append_inj h' rfl
    rw [key_inj (ha x (List.mem_cons_self ..)) (hb y (List.mem_cons_self ..)) h1, keys_inj (fun z hz => ha z (List.mem_cons_of_mem _ hz)) (fun z hz => hb z (List.mem_cons_of_mem _ hz)) h2]
theorem ofT_few {l : List ItemT} (h : ∀ x ∈ l, fewI x) : ∀ x ∈ ofT l, fewI x := fun x hx => by
  obtain ⟨⟨z, hz, h1⟩, h2⟩ := ((ofT_ok l).mem x).1 hx
  obtain ⟨f1, f2, f3, f4, f5⟩ := h z hz
  rw [eqK_iff] at h1
  refine ⟨by omega, by omega, by omega, by omega, ?_⟩
  unfold okI64
  apply Nat.lt_of_not_le
  intro hge
  have : ∃ t, 64 ≤ t ∧ x.look.testBit t = true := by
    obtain ⟨t, ht, hb⟩ := Nat.exists_ge_and_testBit_of_ge_two_pow (n := 64) hge
    exact ⟨t, ht, hb⟩
  obtain ⟨t, ht, hb⟩ := this
  obtain ⟨q, hq, _, hb2⟩ := (h2 t).1 hb
  have hlt := (h q hq).2.2.2.2
  unfold okI64 at hlt
  rw [Nat.testBit_lt_two_pow (Nat.lt_of_lt_of_le hlt (Nat.pow_le_pow_right (by decide) ht : 2 ^ 64 ≤ 2 ^ t))] at hb2
  cases hb2
end Go.Proofs.Ytnceadbfgpiaaaa.J
/- Contracts: cmp.Compare, Item.compare, slices.BinarySearchFunc, item.Of. -/
namespace Go.Proofs.Ytnceadbfgpiaaaa.J
open Go G U K I
set_option linter.unusedVariables false
set_option linter.unusedSimpArgs false
set_option maxRecDepth 100000
set_option maxHeartbeats 4000000
theorem fn58 : Try.prog.funcs[58]? = some Try.f58 := by kernel_rfl
theorem fn47 : Try.prog.funcs[47]? = some Try.f47 := by kernel_rfl
theorem fn31 : Try.prog.funcs[31]? = some Try.f31 := by kernel_rfl
theorem fn30 : Try.prog.funcs[30]? = some Try.f30 := by kernel_rfl
theorem fn9 : Try.prog.funcs[9]? = some Try.f9 := by kernel_rfl
theorem shr_eval (t : TypeId) (k yk : IntKind) (a b : Int) (h0 : 0 ≤ b) : dvOf Try.prog .shr t (.flat (.int k a)) (.flat (.int yk b)) = some (.flat (.int k (a.fdiv (2 ^ min b.toNat k.bits)))) := by
  rw [dvOf_eq]
  intro x y
  have e : evPure Try.prog (Op.shift .shr k a yk b) = some (.int k (a.fdiv (2 ^ min b.toNat k.bits))) := by
    unfold Op.shift
    rw [if_neg (by omega)]
    rfl
  have e2 : (evPure Try.prog (do eqGuard .shr t x y (.int k a) (.int yk b); binOp .shr t (.int k a) (.int yk b))) = some (.int k (a.fdiv (2 ^ min b.toNat k.bits))) := e
  show evP Try.prog _ = _
  unfold evP
  rw [e2]; rfl
theorem conv_i (a : Int) (h0 : 0 ≤ a) (h1 : a ≤ 9223372036854775807) : evP Try.prog (convert 3 71 (.int .i64 a)) = some (.flat (.int .u64 a)) := by
  have h : evP Try.prog (convert 3 71 (.int .i64 a)) = some (.flat (.int .u64 (IntKind.u64.wrap a))) := by kernel_rfl
  rw [h, show IntKind.u64.wrap a = a from by show a % 18446744073709551616 = a; omega]
theorem conv_u (a : Int) (h0 : 0 ≤ a) (h1 : a ≤ 9223372036854775807) : evP Try.prog (convert 71 3 (.int .u64 a)) = some (.flat (.int .i64 a)) := by
  have h : evP Try.prog (convert 71 3 (.int .u64 a)) = some (.flat (.int .i64 (IntKind.i64.wrap a))) := by kernel_rfl
  rw [h, IntKind.wrap_i64]
  congr 3
  omega
theorem isNaN_calls (a : Int) : ACalls Try.prog 58 [.flat (.int .i64 a)] (fun _ => .flat (.bool false)) (fun _ => []) := by
  refine acalls_symF tabF_ok fn58 rfl rfl rfl (by kernel_rfl) ?_
  have hfin : ∀ st, resA Try.prog Try.f58 st = some (.flat (.bool false)) → G.Leaves Try.prog Try.f58 (fun _ => .flat (.bool false)) (fun _ => []) st := fun st h => G.Leaves.plain h rfl
  rintro ⟨lt, le, eq, se, ar, dv, una, conv, len, sln, nat, nth, ixs, cel, sto, app, cpy, slc, mak, ixv, oth, dk, ib, call⟩ hS hm Q hQ
  obtain ⟨hlt, hle, heq, hse, har, hdv, huna, hconv, hlen, hsln, hnat, hnth, hixs, hcel, hsto, happ, hcpy, hslc, hmak, hixv, hoth, hdk, hib, hcall⟩ := Sym.mk.inj hS
  clear hS
  have hnt : ∀ n : Nat, nat n = U.natI n := fun n => by rw [hnat]; rfl
  have hbox : ∀ e c off, cel (some ⟨e, [c]⟩) 0 off = if off ≤ c.length then some (c.drop off) else none := fun e c off => by rw [hcel]; rfl
  have hsbox : ∀ e c off sz y, sto (some ⟨e, [c]⟩) 0 off sz y = if y.cells.length = sz ∧ off + sz ≤ c.length ∧ y.cells.all AV.one = true then some ⟨e, [spl c off y.cells]⟩ else none := fun e c off sz y => by rw [hsto]; rfl
  have hcaw : ∀ {f args T base K}, CallK Try.prog f args T base K → call f args T base K := fun h => by rw [hcall]; exact h
  have hcal : ∀ {f args T base} {K : AV → Table → List Nat → List Nat → Prop}, (∃ args' ids val rows, Hands T ids args args' (val base) (rows base) ∧ ACalls Try.prog f args' val rows ∧ (rows base).length ≤ 8 ∧ K (val base) (adopt T base (rows base)) ids ((List.range (rows base).length).map (base + ·))) → call f args T base K := fun h => hcaw (call_own h)
  have heqr : ∀ v, eq v v = true := fun v => by rw [heq]; exact decide_eq_true rfl
  cbv
  rw [heqr]; cbv
  exact hQ _ _ trivial (hfin _ (by cbv))
theorem cmpZ_calls (a b : Int) : ACalls Try.prog 47 [.flat (.int .i64 a), .flat (.int .i64 b)] (fun _ => .flat (.int .i64 (cmpZ a b))) (fun _ => []) := by
  have hc1 := isNaN_calls a
  have hc2 := isNaN_calls b
  have h1 : decide (a < b) = true → cmpZ a b = -1 := fun h => by unfold cmpZ; rw [if_pos (of_decide_eq_true h)]
  have h2 : decide (a < b) = false → decide (b < a) = true → cmpZ a b = 1 := fun h k => by unfold cmpZ; rw [if_neg (of_decide_eq_false h), if_pos (of_decide_eq_true k)]
  have h3 : decide (a < b) = false → decide (b < a) = false → cmpZ a b = 0 := fun h k => by unfold cmpZ; rw [if_neg (of_decide_eq_false h), if_neg (of_decide_eq_false k)]
  generalize cmpZ a b = r at h1 h2 h3
  refine acalls_symF tabF_ok fn47 rfl rfl rfl (by kernel_rfl) ?_
  have hfin : ∀ st, resA Try.prog Try.f47 st = some (.flat (.int .i64 r)) → G.Leaves Try.prog Try.f47 (fun _ => .flat (.int .i64 r)) (fun _ => []) st := fun st h => G.Leaves.plain h rfl
  rintro ⟨lt, le, eq, se, ar, dv, una, conv, len, sln, nat, nth, ixs, cel, sto, app, cpy, slc, mak, ixv, oth, dk, ib, call⟩ hS hm Q hQ
  obtain ⟨hlt, hle, heq, hse, har, hdv, huna, hconv, hlen, hsln, hnat, hnth, hixs, hcel, hsto, happ, hcpy, hslc, hmak, hixv, hoth, hdk, hib, hcall⟩ := Sym.mk.inj hS
  clear hS
  have hnt : ∀ n : Nat, nat n = U.natI n := fun n => by rw [hnat]; rfl
  have hbox : ∀ e c off, cel (some ⟨e, [c]⟩) 0 off = if off ≤ c.length then some (c.drop off) else none := fun e c off => by rw [hcel]; rfl
  have hsbox : ∀ e c off sz y, sto (some ⟨e, [c]⟩) 0 off sz y = if y.cells.length = sz ∧ off + sz ≤ c.length ∧ y.cells.all AV.one = true then some ⟨e, [spl c off y.cells]⟩ else none := fun e c off sz y => by rw [hsto]; rfl
  have hcaw : ∀ {f args T base K}, CallK Try.prog f args T base K → call f args T base K := fun h => by rw [hcall]; exact h
  have hcal : ∀ {f args T base} {K : AV → Table → List Nat → List Nat → Prop}, (∃ args' ids val rows, Hands T ids args args' (val base) (rows base) ∧ ACalls Try.prog f args' val rows ∧ (rows base).length ≤ 8 ∧ K (val base) (adopt T base (rows base)) ids ((List.range (rows base).length).map (base + ·))) → call f args T base K := fun h => hcaw (call_own h)
  rw [show decide (a < b) = lt a b by rw [hlt]] at h1 h2 h3
  rw [show decide (b < a) = lt b a by rw [hlt]] at h2 h3
  cbv
  refine hcal ⟨_, [], _, _, .inl ⟨rfl, by cbv⟩, hc1, by simp, ?_⟩
  cbv
  refine hcal ⟨_, [], _, _, .inl ⟨rfl, by cbv⟩, hc2, by simp, ?_⟩
  cbv
  cases e1 : lt a b
  rotate_left
  · have := h1 e1
    subst this
    cbv
    exact hQ _ _ trivial (hfin _ (by cbv))
  cbv
  cases e2 : lt b a
  rotate_left
  · have := h2 e1 e2
    subst this
    cbv
    exact hQ _ _ trivial (hfin _ (by cbv))
  have := h3 e1 e2
  subst this
  cbv
  exact hQ _ _ trivial (hfin _ (by cbv))
theorem cmpI_calls (x y : ItemT) : ACalls Try.prog 31 [.agg (itemC x), .agg (itemC y)] (fun _ => .flat (.int .i64 (cmpI x y))) (fun _ => []) := by
  obtain ⟨a, b, c⟩ := x
  obtain ⟨a', b', c'⟩ := y
  have hc1 := cmpZ_calls a a'
  have hc2 := cmpZ_calls b b'
  have h1 : decide (a = a') = true → cmpI ⟨a, b, c⟩ ⟨a', b', c'⟩ = cmpZ b b' := fun h => by unfold cmpI; rw [if_pos (of_decide_eq_true h)]
  have h2 : decide (a = a') = false → cmpI ⟨a, b, c⟩ ⟨a', b', c'⟩ = cmpZ a a' := fun h => by unfold cmpI; rw [if_neg (of_decide_eq_false h)]
  unfold itemC
  dsimp only
  generalize cmpI ⟨a, b, c⟩ ⟨a', b', c'⟩ = r at h1 h2 ⊢
  generalize cmpZ a a' = r1 at hc1 h2
  generalize cmpZ b b' = r2 at hc2 h1
  generalize (c : Int) = ci
  generalize (c' : Int) = ci2
  refine acalls_symF tabF_ok fn31 rfl rfl rfl (by kernel_rfl) ?_
  have hfin : ∀ st, resA Try.prog Try.f31 st = some (.flat (.int .i64 r)) → G.Leaves Try.prog Try.f31 (fun _ => .flat (.int .i64 r)) (fun _ => []) st := fun st h => G.Leaves.plain h rfl
  rintro ⟨lt, le, eq, se, ar, dv, una, conv, len, sln, nat, nth, ixs, cel, sto, app, cpy, slc, mak, ixv, oth, dk, ib, call⟩ hS hm Q hQ
  obtain ⟨hlt, hle, heq, hse, har, hdv, huna, hconv, hlen, hsln, hnat, hnth, hixs, hcel, hsto, happ, hcpy, hslc, hmak, hixv, hoth, hdk, hib, hcall⟩ := Sym.mk.inj hS
  clear hS
  have hnt : ∀ n : Nat, nat n = U.natI n := fun n => by rw [hnat]; rfl
  have hbox : ∀ e c off, cel (some ⟨e, [c]⟩) 0 off = if off ≤ c.length then some (c.drop off) else none := fun e c off => by rw [hcel]; rfl
  have hsbox : ∀ e c off sz y, sto (some ⟨e, [c]⟩) 0 off sz y = if y.cells.length = sz ∧ off + sz ≤ c.length ∧ y.cells.all AV.one = true then some ⟨e, [spl c off y.cells]⟩ else none := fun e c off sz y => by rw [hsto]; rfl
  have hcaw : ∀ {f args T base K}, CallK Try.prog f args T base K → call f args T base K := fun h => by rw [hcall]; exact h
  have hcal : ∀ {f args T base} {K : AV → Table → List Nat → List Nat → Prop}, (∃ args' ids val rows, Hands T ids args args' (val base) (rows base) ∧ ACalls Try.prog f args' val rows ∧ (rows base).length ≤ 8 ∧ K (val base) (adopt T base (rows base)) ids ((List.range (rows base).length).map (base + ·))) → call f args T base K := fun h => hcaw (call_own h)
  rw [show decide (a = a') = eq a a' by rw [heq]] at h1 h2
  cbv
  repeat (first | (rw [hbox]; cbv) | (rw [hsbox]; cbv))
  cases e1 : eq a a'
  · have := h2 e1
    subst this
    cbv
    repeat (first | (rw [hbox]; cbv) | (rw [hsbox]; cbv))
    refine hcal ⟨_, [], _, _, .inl ⟨rfl, by cbv⟩, hc1, by simp, ?_⟩
    cbv
    exact hQ _ _ trivial (hfin _ (by cbv))
  have := h1 e1
  subst this
  cbv
  repeat (first | (rw [hbox]; cbv) | (rw [hsbox]; cbv))
  refine hcal ⟨_, [], _, _, .inl ⟨rfl, by cbv⟩, hc2, by simp, ?_⟩
  cbv
  exact hQ _ _ trivial (hfin _ (by cbv))
/-- Where the search stands. -/
def BsAt (n p : Nat) (i j : Int) : Prop := 0 ≤ i ∧ i ≤ (p : Int) ∧ (p : Int) ≤ j ∧ j ≤ (n : Int)
theorem bs_mid {n p : Nat} {i j : Int} (hn : n ≤ 1000000) (h : BsAt n p i j) (hc : decide (i < j) = true) : ∃ m : Int, arI .add .i64 i j = i + j ∧ evP Try.prog (convert 3 71 (.int .i64 (i + j))) = some (.flat (.int .u64 (i + j))) ∧ dvOf Try.prog .shr 71 (.flat (.int .u64 (i + j))) (.flat (.int .u64 1)) = some (.flat (.int .u64 m)) ∧ evP Try.prog (convert 71 3 (.int .u64 m)) = some (.flat (.int .i64 m)) ∧ 0 ≤ m ∧ m < (n : Int) ∧ arI .add .i64 m 1 = m + 1 ∧
    (m < (p : Int) → BsAt n p (m + 1) j ∧ (j - (m + 1)).toNat < (j - i).toNat) ∧ (¬ m < (p : Int) → BsAt n p i m ∧ (m - i).toNat < (j - i).toNat) := by
  have hc := of_decide_eq_true hc
  obtain ⟨h0, h1, h2, h3⟩ := h
  have e : (i + j).fdiv (2 ^ min (1 : Int).toNat IntKind.u64.bits) = (i + j) / 2 := by
    rw [Int.fdiv_eq_ediv_of_nonneg _ (by decide)]; rfl
  refine ⟨(i + j) / 2, ar_add64 (by omega) (by omega), conv_i _ (by omega) (by omega), ?_, conv_u _ (by omega) (by omega), by omega, by omega, ar_add64 (by omega) (by omega), fun h => ⟨⟨by omega, by omega, h2, h3⟩, by omega⟩, fun h => ⟨⟨h0, h1, by omega, by omega⟩, by omega⟩⟩
  rw [shr_eval _ _ _ _ _ (by decide), e]
theorem bs_calls (l : List ItemT) (x : ItemT) (hs : Sorted l) (hn : l.length ≤ 1000000) : ACalls Try.prog 30 [.ro (l.map itemC), .agg (itemC x), .flat (.func (.func 31) #[] #[])] (fun _ => .tup [.flat (.int .i64 (natI (posI l x))), .flat (.bool (foundI l x))]) (fun _ => []) := by
  have hpl := pos_le l x
  have hstep : ∀ m : Int, 0 ≤ m → m < l.length → ∃ r, ACalls Try.prog 31 [.agg (itemC (atI l m)), .agg (itemC x)] (fun _ => .flat (.int .i64 r)) (fun _ => []) ∧ (decide (r < 0) = true → m < (posI l x : Int)) ∧ (decide (r < 0) = false → ¬ m < (posI l x : Int)) := fun m h0 h1 => by
    refine ⟨_, cmpI_calls _ _, fun h => ?_, fun h => ?_⟩
    · rw [cmp_lt] at h
      apply Int.not_le.1
      intro hge
      rw [pos_ge hs (by omega) (at_get h0 h1)] at h; cases h
    · rw [cmp_lt] at h
      intro hlt
      rw [pos_lt (by omega) (at_get h0 h1)] at h; cases h
  have hlast1 : decide ((posI l x : Int) < (l.length : Int)) = false → foundI l x = false := fun h => by
    have h := of_decide_eq_false h
    unfold foundI
    rw [List.getElem?_eq_none (by omega)]
  have hlast2 : decide ((posI l x : Int) < (l.length : Int)) = true → ∃ r, ACalls Try.prog 31 [.agg (itemC (atI l (posI l x))), .agg (itemC x)] (fun _ => .flat (.int .i64 r)) (fun _ => []) ∧ decide (r = 0) = foundI l x := fun h => by
    have h := of_decide_eq_true h
    refine ⟨_, cmpI_calls _ _, ?_⟩
    rw [cmp_eq]
    unfold foundI
    have := at_get (l := l) (i := (posI l x : Int)) (by omega) h
    rw [Int.toNat_natCast] at this
    rw [this]
  have hmid := fun i j h hc => bs_mid (n := l.length) (p := posI l x) (i := i) (j := j) hn h hc
  have hz : BsAt l.length (posI l x) 0 l.length := ⟨by omega, by omega, by omega, by omega⟩
  have hend : ∀ i j, BsAt l.length (posI l x) i j → decide (i < j) = false → i = natI (posI l x) := fun i j h hc => by
    have := of_decide_eq_false hc
    obtain ⟨h0, h1, h2, h3⟩ := h
    unfold natI; omega
  have hPn : (posI l x : Int) = natI (posI l x) := rfl
  rw [hPn] at hstep hlast1 hlast2
  have hp0 : 0 ≤ natI (posI l x) := by unfold natI; omega
  obtain ⟨X, hX⟩ : ∃ X, X = l.map itemC := ⟨_, rfl⟩
  have hXl : lenE X = (l.length : Int) := by rw [hX, len_map]
  have hXn : ∀ m : Int, 0 ≤ m → m < l.length → nthE X m 3 = some (.rp (itemC (atI l m))) := fun m h0 h1 => by rw [hX]; exact nth_map (fun _ => rfl) h0 h1
  rw [← hX]
  generalize foundI l x = fd at hlast1 hlast2 ⊢
  generalize hp : posI l x = p at hmid hz hend hstep hlast1 hlast2 hp0 ⊢
  generalize hpi : natI p = pi at hstep hlast1 hlast2 hend hp0 ⊢
  obtain ⟨xa, xb, xc⟩ := x
  clear hX hPn hpl
  unfold itemC at *
  dsimp only at hstep hlast2
  generalize (xc : Int) = xi at hstep hlast2
  refine acalls_symF tabF_ok fn30 rfl rfl rfl (by kernel_rfl) ?_
  have hfin : ∀ st, resA Try.prog Try.f30 st = some (.tup [.flat (.int .i64 pi), .flat (.bool fd)]) → G.Leaves Try.prog Try.f30 (fun _ => .tup [.flat (.int .i64 pi), .flat (.bool fd)]) (fun _ => []) st := fun st h => G.Leaves.plain h rfl
  rintro ⟨lt, le, eq, se, ar, dv, una, conv, len, sln, nat, nth, ixs, cel, sto, app, cpy, slc, mak, ixv, oth, dk, ib, call⟩ hS hm Q hQ
  obtain ⟨hlt, hle, heq, hse, har, hdv, huna, hconv, hlen, hsln, hnat, hnth, hixs, hcel, hsto, happ, hcpy, hslc, hmak, hixv, hoth, hdk, hib, hcall⟩ := Sym.mk.inj hS
  clear hS
  have hnt : ∀ n : Nat, nat n = U.natI n := fun n => by rw [hnat]; rfl
  have hbox : ∀ e c off, cel (some ⟨e, [c]⟩) 0 off = if off ≤ c.length then some (c.drop off) else none := fun e c off => by rw [hcel]; rfl
  have hsbox : ∀ e c off sz y, sto (some ⟨e, [c]⟩) 0 off sz y = if y.cells.length = sz ∧ off + sz ≤ c.length ∧ y.cells.all AV.one = true then some ⟨e, [spl c off y.cells]⟩ else none := fun e c off sz y => by rw [hsto]; rfl
  have hcaw : ∀ {f args T base K}, CallK Try.prog f args T base K → call f args T base K := fun h => by rw [hcall]; exact h
  have hcal : ∀ {f args T base} {K : AV → Table → List Nat → List Nat → Prop}, (∃ args' ids val rows, Hands T ids args args' (val base) (rows base) ∧ ACalls Try.prog f args' val rows ∧ (rows base).length ≤ 8 ∧ K (val base) (adopt T base (rows base)) ids ((List.range (rows base).length).map (base + ·))) → call f args T base K := fun h => hcaw (call_own h)
  have hmid2 : ∀ i j, BsAt l.length p i j → lt i j = true → ∃ (m a b c : Int) (r : Int), ar .add .i64 i j = i + j ∧ (∀ T, conv T 3 71 (.flat (.int .i64 (i + j))) = some (.flat (.int .u64 (i + j)))) ∧ dv .shr 71 (.flat (.int .u64 (i + j))) (.flat (.int .u64 1)) = some (.flat (.int .u64 m)) ∧ (∀ T, conv T 71 3 (.flat (.int .u64 m)) = some (.flat (.int .i64 m))) ∧ nth X m 3 = some (.rp [.flat (.int .i64 a), .flat (.int .i64 b), .flat (.int .u64 c)]) ∧
      ACalls Try.prog 31 [.agg [.flat (.int .i64 a), .flat (.int .i64 b), .flat (.int .u64 c)], .agg [.flat (.int .i64 xa), .flat (.int .i64 xb), .flat (.int .u64 xi)]] (fun _ => .flat (.int .i64 r)) (fun _ => []) ∧ ar .add .i64 m 1 = m + 1 ∧ (lt r 0 = true → BsAt l.length p (m + 1) j ∧ (j - (m + 1)).toNat < (j - i).toNat) ∧ (lt r 0 = false → BsAt l.length p i m ∧ (m - i).toNat < (j - i).toNat) := fun i j h hc => by
    rw [hlt] at hc
    obtain ⟨m, q1, q2, q3, q4, q5, q6, q7, q8, q9⟩ := hmid i j h hc
    obtain ⟨r, c1, c2, c3⟩ := hstep m q5 q6
    exact ⟨m, _, _, _, r, by rw [har]; exact q1, fun T => by rw [hconv]; exact q2, by rw [hdv]; exact q3, fun T => by rw [hconv]; exact q4, by rw [hnth]; exact hXn m q5 q6, c1, by rw [har]; exact q7, fun h => q8 (by have := c2 (by rw [hlt] at h; exact h); rw [← hpi] at this; exact this), fun h => q9 (by have := c3 (by rw [hlt] at h; exact h); rw [← hpi] at this; exact this)⟩
  have hz2 : BsAt l.length p 0 (len X) := by rw [hlen, hXl]; exact hz
  have hend2 : ∀ i j, BsAt l.length p i j → lt i j = false → i = pi := fun i j h hc => hend i j h (by rw [hlt] at hc; exact hc)
  have hl1 : lt pi (len X) = false → fd = false := fun h => hlast1 (by rw [hlt, hlen, hXl] at h; exact h)
  have hl2 : lt pi (len X) = true → ∃ (a b c r : Int), nth X pi 3 = some (.rp [.flat (.int .i64 a), .flat (.int .i64 b), .flat (.int .u64 c)]) ∧ ACalls Try.prog 31 [.agg [.flat (.int .i64 a), .flat (.int .i64 b), .flat (.int .u64 c)], .agg [.flat (.int .i64 xa), .flat (.int .i64 xb), .flat (.int .u64 xi)]] (fun _ => .flat (.int .i64 r)) (fun _ => []) ∧ eq r 0 = fd := fun h => by
    rw [hlt, hlen, hXl] at h
    obtain ⟨r, c1, c2⟩ := hlast2 h
    exact ⟨_, _, _, r, by rw [hnth]; exact hXn pi hp0 (of_decide_eq_true h), c1, by rw [heq]; exact c2⟩
  clear hmid hstep hXn hz hend hlast1 hlast2 hXl hpi hp hp0
  cbv
  refine MW_loop hm [0] [0, 2, 4, 8, 9, 10] 11 (by simp) (fun mz st => ∃ (i j : Int), BsAt l.length p i j ∧ mz = (j - i).toNat ∧ st = stOf [.ro X, .dead, .flat (.func (.func 31) #[] #[]), .dead, .ptr 0 0 0, .dead, .dead, .dead, .flat (.int .i64 (len X)), .flat (.int .i64 i), .flat (.int .i64 j)] [some ⟨28, [[.flat (.int .i64 xa), .flat (.int .i64 xb), .flat (.int .u64 xi)]]⟩] 1) ((len X - 0).toNat) ?_ ?_
  · exact ⟨0, len X, hz2, rfl, cut_eq (by cbv) (cutRows_cons (by rfl) (by simp [closedAll, closedIn]) rfl)⟩
  rintro mz st ⟨i, j, hi, hmz, rfl⟩
  cases hc : lt i j
  · have he := hend2 i j hi hc
    subst he
    cases hc2 : lt i (len X)
    · have hf := hl1 hc2
      subst hf
      cbv
      rw [hc]; cbv
      refine ⟨by rw [hdk]; kernel_rfl, ?_⟩
      rw [hc2]; cbv
      repeat (first | (rw [hbox]; cbv) | (rw [hsbox]; cbv))
      refine ⟨by rw [hib]; kernel_rfl, ?_⟩
      cbv
      exact hQ _ _ trivial (hfin _ (by cbv))
    obtain ⟨a, b, c, r, y1, hcY, y2⟩ := hl2 hc2
    cbv
    rw [hc]; cbv
    refine ⟨by rw [hdk]; kernel_rfl, ?_⟩
    rw [hc2]; cbv
    repeat (first | (rw [hbox]; cbv) | (rw [hsbox]; cbv) | (rw [y1]; cbv))
    refine hcal ⟨_, [], _, _, .inl ⟨rfl, by cbv⟩, hcY, by simp, ?_⟩
    cbv
    rw [y2]; cbv
    refine ⟨by rw [hib]; kernel_rfl, ?_⟩
    cbv
    exact hQ _ _ trivial (hfin _ (by cbv))
  obtain ⟨m, a, b, c, r, q1, q2, q3, q4, q5, hcC, q6, q7, q8⟩ := hmid2 i j hi hc
  generalize i + j = s at q1 q2 q3
  generalize hm1 : m + 1 = m1 at q6 q7
  cases hr : lt r 0
  · obtain ⟨k1, k2⟩ := q8 hr
    cbv
    rw [hc]; cbv
    rw [q1]; cbv
    repeat (first | (rw [hbox]; cbv) | (rw [hsbox]; cbv) | (rw [q2]; cbv) | (rw [q3]; cbv) | (rw [q4]; cbv))
    refine ⟨by rw [hdk]; kernel_rfl, ?_⟩
    repeat (first | (rw [hbox]; cbv) | (rw [hsbox]; cbv) | (rw [q5]; cbv))
    refine hcal ⟨_, [], _, _, .inl ⟨rfl, by cbv⟩, hcC, by simp, ?_⟩
    cbv
    rw [hr]; cbv
    refine ⟨by rw [hib]; kernel_rfl, ?_⟩
    cbv
    exact ⟨[0], [0, 2, 4, 8, 9, 10], 11, (m - i).toNat, hmz ▸ k2, by simp, i, m, k1, rfl, cut_eq (by cbv) (cutRows_cons (by rfl) (by simp [closedAll, closedIn]) rfl)⟩
  obtain ⟨k1, k2⟩ := q7 hr
  cbv
  rw [hc]; cbv
  rw [q1]; cbv
  repeat (first | (rw [hbox]; cbv) | (rw [hsbox]; cbv) | (rw [q2]; cbv) | (rw [q3]; cbv) | (rw [q4]; cbv))
  refine ⟨by rw [hdk]; kernel_rfl, ?_⟩
  repeat (first | (rw [hbox]; cbv) | (rw [hsbox]; cbv) | (rw [q5]; cbv))
  refine hcal ⟨_, [], _, _, .inl ⟨rfl, by cbv⟩, hcC, by simp, ?_⟩
  cbv
  rw [hr]; cbv
  refine ⟨by rw [hib]; kernel_rfl, ?_⟩
  cbv
  rw [q6]
  exact ⟨[0], [0, 2, 4, 8, 9, 10], 11, (j - m1).toNat, hmz ▸ k2, by simp, m1, j, k1, rfl, cut_eq (by cbv) (cutRows_cons (by rfl) (by simp [closedAll, closedIn]) rfl)⟩
end Go.Proofs.Ytnceadbfgpiaaaa.J
/- Contracts: item.Of. -/
namespace Go.Proofs.Ytnceadbfgpiaaaa.J
open Go G U K I
set_option linter.unusedVariables false
set_option linter.unusedSimpArgs false
set_option maxRecDepth 100000
set_option maxHeartbeats 4000000
theorem or_lt {a b : Nat} (ha : a < 18446744073709551616) (hb : b < 18446744073709551616) : a ||| b < 18446744073709551616 := Nat.or_lt_two_pow (n := 64) ha hb
theorem or_u {a b : Nat} (ha : a < 18446744073709551616) (hb : b < 18446744073709551616) : arI .or .u64 a b = ((a ||| b : Nat) : Int) := by
  show IntKind.u64.wrap ((BitVec.ofInt 64 a ||| BitVec.ofInt 64 b).toNat : Nat) = _
  have h : (BitVec.ofInt 64 (a : Int) ||| BitVec.ofInt 64 (b : Int)).toNat = a ||| b := by
    rw [BitVec.toNat_or]
    simp only [BitVec.toNat_ofInt]
    congr 1 <;> omega
  rw [h]
  show ((a ||| b : Nat) : Int) % 18446744073709551616 = _
  have := or_lt ha hb
  omega
def SAt (l : List ItemT) (i : Int) (S : List ItemT) : Prop := At l i ∧ S = (l.take i.toNat).foldl insT [] ∧ Sorted S ∧ (∀ y ∈ S, okI64 y) ∧ S.length ≤ i.toNat
theorem sAt_zero (l : List ItemT) : SAt l 0 [] := ⟨at_zero l, rfl, List.Pairwise.nil, (fun y hy => by cases hy), Nat.le_refl _⟩
theorem sAt_end {l S : List ItemT} {i : Int} (h : SAt l i S) (hc : decide (i < (l.length : Int)) = false) : S = ofT l := by
  rw [h.2.1, take_end h.1 hc]; rfl
theorem sAt_step {l S : List ItemT} {i : Int} (hok : ∀ x ∈ l, okI64 x) (h : SAt l i S) (hc : decide (i < (l.length : Int)) = true) : SAt l (i + 1) (insT S (atI l i)) := by
  obtain ⟨h1, h2, h3, h4, h5⟩ := h
  obtain ⟨_, h0, h6⟩ := at_lt h1 hc
  refine ⟨(at_step h1 hc).1, by rw [fold_next _ _ h0 h6, ← h2], ins_sorted h3, ins_ok h4 h3 (hok _ (at_mem h0 h6)), ?_⟩
  rw [ins_len]
  split <;> omega
theorem closed_items (l : List ItemT) : ∀ c ∈ l.map itemC, closedAll [] c = true := closed_map fun _ => rfl
theorem flat_items (l : List ItemT) : flatRow (l.map itemC) := flat_map (fun a x hx => by
  simp only [itemC, List.mem_cons, List.not_mem_nil, or_false] at hx
  rcases hx with rfl | rfl | rfl <;> exact ⟨rfl, rfl⟩) l
theorem of_calls (l : List ItemT) (hl : l.length ≤ 100000) (hok : ∀ x ∈ l, okI64 x) : ACalls Try.prog 9 [.ro (l.map itemC)] (fun k => .sl k 0 (ofT l).length) (fun _ => [⟨28, (ofT l).map itemC⟩]) := by
  have hround : ∀ (i : Int) (S : List ItemT) (Y : List (List AV)) (n : Nat), Y = S.map itemC → n = S.length → SAt l i S → decide (i < (l.length : Int)) = true → ∃ (xa xb xi pi : Int) (p : Nat) (fd : Bool) (n2 : Nat) (Y2 : List (List AV)) (S2 : List ItemT),
      nthE (l.map itemC) i 3 = some (.rp [.flat (.int .i64 xa), .flat (.int .i64 xb), .flat (.int .u64 xi)]) ∧ arI .add .i64 i 1 = i + 1 ∧ (l.length - (i + 1).toNat < l.length - i.toNat) ∧ SAt l (i + 1) S2 ∧ Y2 = S2.map itemC ∧ n2 = S2.length ∧
      ACalls Try.prog 30 [.ro Y, .agg [.flat (.int .i64 xa), .flat (.int .i64 xb), .flat (.int .u64 xi)], .flat (.func (.func 31) #[] #[])] (fun _ => .tup [.flat (.int .i64 pi), .flat (.bool fd)]) (fun _ => []) ∧
      (fd = true → n2 = n ∧ (∀ id, ixSl Try.prog (some ⟨28, Y⟩) id 0 n pi 3 = some (.ptr id p 0)) ∧ ∃ li oi : Int, ptrCells (some ⟨28, Y⟩) p 2 = some [.flat (.int .u64 li)] ∧ arI .or .u64 li xi = oi ∧ storeRow (some ⟨28, Y⟩) p 2 1 (.flat (.int .u64 oi)) = some ⟨28, Y2⟩) ∧
      (fd = false → PCalls Try.prog 32 1 [.sl 0 0 n, .flat (.int .i64 pi), .sl 1 0 1] [⟨28, Y⟩, ⟨28, [[.flat (.int .i64 xa), .flat (.int .i64 xb), .flat (.int .u64 xi)]]⟩] (.sl 1 0 n2) [none, some ⟨28, Y2⟩]) := fun i S Y n hY hn hS hc => by
    obtain ⟨h1, h2, h3, h4, h5⟩ := id hS
    obtain ⟨_, h0, h6⟩ := at_lt h1 hc
    have hxok := hok _ (at_mem h0 h6)
    have hst := sAt_step hok hS hc
    have hnx := nth_map (f := itemC) (sz := 3) (fun _ => rfl) h0 h6
    have hpl := pos_le S (atI l i)
    generalize atI l i = x at hxok hst hnx hpl
    have hb := bs_calls S x h3 (by omega)
    refine ⟨x.prod, x.dot, (x.look : Int), natI (posI S x), posI S x, foundI S x, (insT S x).length, (insT S x).map itemC, insT S x, hnx, ar_add64 (by omega) (by omega), by omega, hst, rfl, rfl, by rw [hY]; exact hb, fun hf => ?_, fun hf => ?_⟩
    · have hlen := ins_len S x
      rw [if_pos hf] at hlen
      have hf2 := hf
      unfold foundI at hf2
      split at hf2
      · rename_i y hy
        have hp : posI S x < S.length := (List.getElem?_eq_some_iff.1 hy).1
        have hyok := h4 y (List.mem_of_getElem? hy)
        refine ⟨hlen.trans hn.symm, fun id => ?_, (y.look : Int), ((y.look ||| x.look : Nat) : Int), ?_, or_u hyok hxok, ?_⟩
        · have := own_ix (P := Try.prog) (X := Y) (n := n) (i := natI (posI S x)) c28 (by unfold natI; omega) (by unfold natI; omega) id
          rw [this]; rfl
        · rw [hY, own_cel (c := itemC y) (by rw [List.getElem?_map, hy]; rfl) (by simp [itemC])]; rfl
        · have hg : S.getD (posI S x) default = y := by rw [List.getD, hy]; rfl
          have hi : insT S x = S.set (posI S x) ⟨y.prod, y.dot, y.look ||| x.look⟩ := by unfold insT; rw [if_pos hf, hg]
          rw [hi, hY]
          exact own_sto (f := itemC) (l := S) hy ⟨y.prod, y.dot, y.look ||| x.look⟩ rfl (by simp [itemC]) rfl rfl
      · cases hf2
    · have hlen := ins_len S x
      rw [if_neg (by rw [hf]; decide)] at hlen
      have hins := insert_calls (S.map itemC) (itemC x) (posI S x) n (by rw [List.length_map]; exact hn) (by omega) (by omega) (fun e he => by obtain ⟨z, _, rfl⟩ := List.mem_map.1 he; rfl) (closed_items S) rfl rfl
      have hi : insT S x = S.take (posI S x) ++ [x] ++ S.drop (posI S x) := by unfold insT; rw [if_neg (by rw [hf]; decide)]
      have hm : (S.map itemC).take (posI S x) ++ [itemC x] ++ (S.map itemC).drop (posI S x) = (insT S x).map itemC := by rw [hi]; simp
      rw [hm] at hins
      rw [hlen, ← hn, hY]
      exact hins
  have hz := sAt_zero l
  have hend : ∀ i S, SAt l i S → decide (i < (l.length : Int)) = false → S = ofT l := fun i S h hc => sAt_end h hc
  have hS100 : ∀ i S, SAt l i S → S.length ≤ 100000 := fun i S h => by obtain ⟨h1, _, _, _, h5⟩ := h; have := h1.2; omega
  obtain ⟨X, hX⟩ : ∃ X, X = l.map itemC := ⟨_, rfl⟩
  have hXl : lenE X = (l.length : Int) := by rw [hX, len_map]
  rw [← hX] at hround ⊢
  clear hX hok
  refine acalls_symF tabF_ok fn9 rfl rfl rfl (by kernel_rfl) ?_
  rintro ⟨lt, le, eq, se, ar, dv, una, conv, len, sln, nat, nth, ixs, cel, sto, app, cpy, slc, mak, ixv, oth, dk, ib, call⟩ hS hm Q hQ
  obtain ⟨hlt, hle, heq, hse, har, hdv, huna, hconv, hlen, hsln, hnat, hnth, hixs, hcel, hsto, happ, hcpy, hslc, hmak, hixv, hoth, hdk, hib, hcall⟩ := Sym.mk.inj hS
  clear hS
  have hnt : ∀ n : Nat, nat n = U.natI n := fun n => by rw [hnat]; rfl
  have hbox : ∀ e c off, cel (some ⟨e, [c]⟩) 0 off = if off ≤ c.length then some (c.drop off) else none := fun e c off => by rw [hcel]; rfl
  have hsbox : ∀ e c off sz y, sto (some ⟨e, [c]⟩) 0 off sz y = if y.cells.length = sz ∧ off + sz ≤ c.length ∧ y.cells.all AV.one = true then some ⟨e, [spl c off y.cells]⟩ else none := fun e c off sz y => by rw [hsto]; rfl
  have hcaw : ∀ {f args T base K}, CallK Try.prog f args T base K → call f args T base K := fun h => by rw [hcall]; exact h
  have hcal : ∀ {f args T base} {K : AV → Table → List Nat → List Nat → Prop}, (∃ args' ids val rows, Hands T ids args args' (val base) (rows base) ∧ ACalls Try.prog f args' val rows ∧ (rows base).length ≤ 8 ∧ K (val base) (adopt T base (rows base)) ids ((List.range (rows base).length).map (base + ·))) → call f args T base K := fun h => hcaw (call_own h)
  have hlen' := hlen
  have hround2 : ∀ (i : Int) (S : List ItemT) (Y : List (List AV)) (n : Nat), Y = S.map itemC → n = S.length → SAt l i S → lt i (len X) = true → ∃ (xa xb xi pi : Int) (p : Nat) (fd : Bool) (n2 : Nat) (Y2 : List (List AV)) (S2 : List ItemT),
      nth X i 3 = some (.rp [.flat (.int .i64 xa), .flat (.int .i64 xb), .flat (.int .u64 xi)]) ∧ ar .add .i64 i 1 = i + 1 ∧ (l.length - (i + 1).toNat < l.length - i.toNat) ∧ SAt l (i + 1) S2 ∧ Y2 = S2.map itemC ∧ n2 = S2.length ∧
      ACalls Try.prog 30 [.ro Y, .agg [.flat (.int .i64 xa), .flat (.int .i64 xb), .flat (.int .u64 xi)], .flat (.func (.func 31) #[] #[])] (fun _ => .tup [.flat (.int .i64 pi), .flat (.bool fd)]) (fun _ => []) ∧
      (fd = true → n2 = n ∧ (∀ id, ixs (some ⟨28, Y⟩) id 0 n pi 3 = some (.ptr id p 0)) ∧ ∃ li oi : Int, cel (some ⟨28, Y⟩) p 2 = some [.flat (.int .u64 li)] ∧ ar .or .u64 li xi = oi ∧ sto (some ⟨28, Y⟩) p 2 1 (.flat (.int .u64 oi)) = some ⟨28, Y2⟩) ∧
      (fd = false → PCalls Try.prog 32 1 [.sl 0 0 n, .flat (.int .i64 pi), .sl 1 0 1] [⟨28, Y⟩, ⟨28, [[.flat (.int .i64 xa), .flat (.int .i64 xb), .flat (.int .u64 xi)]]⟩] (.sl 1 0 n2) [none, some ⟨28, Y2⟩]) := fun i S Y n hY hn hS hc => by
    rw [hnth, har, hixs, hcel, hsto]
    exact hround i S Y n hY hn hS (by rw [hlt, hlen', hXl] at hc; exact hc)
  have hend2 : ∀ i S, SAt l i S → lt i (len X) = false → S = ofT l := fun i S h hc => hend i S h (by rw [hlt, hlen, hXl] at hc; exact hc)
  clear hround hend
  cbv
  refine MW_loopZ hm [.slot 3 28] [40] [3, 8, 9, 10] 11 (by simp) (fun mz st => ∃ (i : Int) (S : List ItemT) (Y : List (List AV)) (n : Nat), SAt l i S ∧ Y = S.map itemC ∧ n = S.length ∧ mz = l.length - i.toNat ∧ st = stOf [.dead, .dead, .dead, .sl 0 0 n, .dead, .dead, .dead, .dead, .ro X, .flat (.int .i64 (len X)), .flat (.int .i64 i)] [some ⟨28, Y⟩] 1) (l.length - (0 : Int).toNat) ?_ ?_
  · exact ⟨0, [], [], 0, hz, rfl, rfl, rfl, cut_eq (by cbv) (cutRows_cons (by rfl) (fun c hc => by cases hc) rfl)⟩
  rintro mz st ⟨i, S, Y, n, hS, hY, hn, hmz, rfl⟩
  have hYcl : ∀ c ∈ Y, closedAll [] c = true := by rw [hY]; exact closed_items S
  have hYf : flatRow Y := by rw [hY]; exact flat_items S
  have hYn : n = Y.length := by rw [hY, List.length_map, hn]
  cases hc : lt i (len X)
  · have he := hend2 _ _ hS hc
    rw [← he, ← hY, ← hn] at hQ
    cbv
    rw [hc]; cbv
    exact hQ _ _ trivial (leaves_own (k := 0) (by cbv) (by rfl) hYcl)
  obtain ⟨xa, xb, xi, pi, p, fd, n2, Y2, S2, y1, y2, y3, y4, y5, y6, hcB, y7, y8⟩ := hround2 _ _ _ _ hY hn hS hc
  have hY2cl : ∀ c ∈ Y2, closedAll [] c = true := by rw [y5]; exact closed_items S2
  generalize i + 1 = i2 at y2 y3 y4
  cases fd
  rotate_left
  · obtain ⟨k1, k2, li, oi, k3, k4, k5⟩ := y7 rfl
    subst k1
    cbv
    rw [hc]; cbv
    repeat (first | (rw [hbox]; cbv) | (rw [hsbox]; cbv) | (rw [y1]; cbv))
    refine hcal ⟨[.ro Y, .agg [.flat (.int .i64 xa), .flat (.int .i64 xb), .flat (.int .u64 xi)], .flat (.func (.func 31) #[] #[])], [0], _, _, hands_deep ⟨deep_row (by simp) (by rfl) hYn hYf.read, deep_agg ⟨.id rfl, .id rfl, .id rfl, trivial⟩, .id rfl, trivial⟩ rfl (fun r hr => by cases hr), hcB, by simp, ?_⟩
    cbv
    refine ⟨by rw [hdk]; kernel_rfl, ?_⟩
    repeat (first | (rw [hbox]; cbv) | (rw [hsbox]; cbv) | (rw [k2]; cbv) | (rw [k3]; cbv))
    rw [k4]; cbv
    repeat (first | (rw [hbox]; cbv) | (rw [hsbox]; cbv) | (rw [k2]; cbv) | (rw [k5]; cbv))
    refine ⟨by rw [hib]; kernel_rfl, ?_⟩
    cbv
    rw [y2]
    exact ⟨[0], [3, 8, 9, 10], 11, l.length - i2.toNat, hmz ▸ y3, by simp, i2, S2, Y2, n2, y4, y5, y6, rfl, cut_eq (by cbv) (cutRows_cons (by rfl) (hY2cl) rfl)⟩
  have hcI := y8 rfl
  cbv
  rw [hc]; cbv
  repeat (first | (rw [hbox]; cbv) | (rw [hsbox]; cbv) | (rw [y1]; cbv))
  refine hcal ⟨[.ro Y, .agg [.flat (.int .i64 xa), .flat (.int .i64 xb), .flat (.int .u64 xi)], .flat (.func (.func 31) #[] #[])], [0], _, _, hands_deep ⟨deep_row (by simp) (by rfl) hYn hYf.read, deep_agg ⟨.id rfl, .id rfl, .id rfl, trivial⟩, .id rfl, trivial⟩ rfl (fun r hr => by cases hr), hcB, by simp, ?_⟩
  cbv
  repeat (first | (rw [hbox]; cbv) | (rw [hsbox]; cbv))
  refine hcaw (call_with [0, 137] hcI (by simp) (by decide) (cutRows_cons (by rfl) (hYcl) (cutRows_cons (by rfl) (by simp [closedAll, closedIn]) rfl)) (by rfl) (by rfl) (by rfl) (renRows_none (renRows_cons (hY2cl) rfl)) ?_)
  cbv
  rw [y2]
  exact ⟨[145], [3, 8, 9, 10], 11, l.length - i2.toNat, hmz ▸ y3, by simp, i2, S2, Y2, n2, y4, y5, y6, rfl, cut_eq (by cbv) (cutRows_cons (by rfl) (hY2cl) rfl)⟩
end Go.Proofs.Ytnceadbfgpiaaaa.J
/- Contracts: rows of items, alike?; items of another type; the example. -/
namespace Go.Proofs.Ytnceadbfgpiaaaa.J
open Go G U K I
set_option linter.unusedVariables false
set_option linter.unusedSimpArgs false
set_option maxRecDepth 100000
set_option maxHeartbeats 4000000
theorem fn33 : Try.prog.funcs[33]? = some Try.f33 := by kernel_rfl
theorem fn13 : Try.prog.funcs[13]? = some Try.f13 := by kernel_rfl
theorem fn10 : Try.prog.funcs[10]? = some Try.f10 := by kernel_rfl
theorem fn11 : Try.prog.funcs[11]? = some Try.f11 := by kernel_rfl
theorem fn8 : Try.prog.funcs[8]? = some Try.f8 := by kernel_rfl
theorem fn7 : Try.prog.funcs[7]? = some Try.f7 := by kernel_rfl
theorem u30 : Try.prog.underlying 30 = some (.slice 41) := by kernel_rfl
theorem z41 : tinfo Try.prog 41 = some (some (.agg #[.int .i64 0, .int .i64 0, .int .u64 0]), 3, 24) := by kernel_rfl
theorem c41 : Try.prog.cellsOf 41 = 3 := by kernel_rfl
theorem int_beq (a b : Int) : (a == b) = decide (a = b) := by
  rw [Bool.eq_iff_iff]; simp
theorem item_eq (x y : ItemT) : (x.prod == y.prod && (x.dot == y.dot && ((x.look : Int) == (y.look : Int) && true))) = decide (x = y) := by
  obtain ⟨a, b, c⟩ := x; obtain ⟨a', b', c'⟩ := y
  rw [Bool.eq_iff_iff]
  simp only [Bool.and_true, Bool.and_eq_true, beq_iff_eq, decide_eq_true_iff, ItemT.mk.injEq]
  omega
theorem neq28 (x y : ItemT) : dvOf Try.prog .neq 28 (.agg (itemC x)) (.agg (itemC y)) = some (.flat (.bool (!decide (x = y)))) := by
  rw [dvOf_eq]
  intro p q
  have h : evBin Try.prog .neq 28 p q (.agg (itemC x)) (.agg (itemC y)) = some (.flat (.bool (!(x.prod == y.prod && (x.dot == y.dot && ((x.look : Int) == (y.look : Int) && true)))))) := by kernel_rfl
  rw [h, item_eq]
theorem neq41 (x y : ItemT) : dvOf Try.prog .neq 41 (.agg (itemC x)) (.agg (itemC y)) = some (.flat (.bool (!decide (x = y)))) := by
  rw [dvOf_eq]
  intro p q
  have h : evBin Try.prog .neq 41 p q (.agg (itemC x)) (.agg (itemC y)) = some (.flat (.bool (!(x.prod == y.prod && (x.dot == y.dot && ((x.look : Int) == (y.look : Int) && true)))))) := by kernel_rfl
  rw [h, item_eq]
/-! ### Alike, so far -/
def EqAt {α : Type} (a b : List α) (i : Int) : Prop := At a i ∧ a.length = b.length ∧ a.take i.toNat = b.take i.toNat
section
variable {α : Type} [Inhabited α] {a b : List α} {i : Int}
theorem eqAt_zero (h : a.length = b.length) : EqAt a b 0 := ⟨at_zero a, h, rfl⟩
theorem eqAt_end (h : EqAt a b i) (hc : decide (i < (a.length : Int)) = false) : a = b := by
  obtain ⟨h1, h2, h3⟩ := h
  rw [take_end h1 hc, take_end ⟨h1.1, by rw [← h2]; exact h1.2⟩ (by rw [← h2]; exact hc)] at h3
  exact h3
theorem eqAt_step (h : EqAt a b i) (hc : decide (i < (a.length : Int)) = true) (he : atI a i = atI b i) : EqAt a b (i + 1) := by
  obtain ⟨h1, h2, h3⟩ := h
  obtain ⟨_, h0, h4⟩ := at_lt h1 hc
  exact ⟨(at_step h1 hc).1, h2, by rw [take_next h0 h4, take_next h0 (by rw [← h2]; exact h4), h3, he]⟩
end
theorem eqAt_off {α : Type} [Inhabited α] {a b : List α} {i : Int} (he : ¬ atI a i = atI b i) : a ≠ b := fun h => he (by rw [h])

theorem equal_calls (a b : List ItemT) (hn : a.length ≤ 1000000) : ACalls Try.prog 33 [.ro (a.map itemC), .ro (b.map itemC)] (fun _ => .flat (.bool (decide (a = b)))) (fun _ => []) := by
  obtain ⟨r, hr⟩ : ∃ r, r = decide (a = b) := ⟨_, rfl⟩
  have hlen0 : a.length ≠ b.length → r = false := fun h => by rw [hr]; exact decide_eq_false fun e => h (by rw [e])
  have hend : ∀ i, EqAt a b i → decide (i < (a.length : Int)) = false → r = true := fun i h hc => by rw [hr]; exact decide_eq_true (eqAt_end h hc)
  have hstep : ∀ i, EqAt a b i → decide (i < (a.length : Int)) = true → ∃ x y : ItemT, nthE (a.map itemC) i 3 = some (.rp (itemC x)) ∧ nthE (b.map itemC) i 3 = some (.rp (itemC y)) ∧ dvOf Try.prog .neq 28 (.agg (itemC x)) (.agg (itemC y)) = some (.flat (.bool (!decide (x = y)))) ∧ (decide (x = y) = true → EqAt a b (i + 1)) ∧ (decide (x = y) = false → r = false) ∧ arI .add .i64 i 1 = i + 1 ∧ (a.length - (i + 1).toNat < a.length - i.toNat) := fun i h hc => by
    obtain ⟨_, h0, h1⟩ := at_lt h.1 hc
    refine ⟨_, _, nth_map (fun _ => rfl) h0 h1, nth_map (fun _ => rfl) h0 (by rw [← h.2.1]; exact h1), neq28 _ _, fun e => eqAt_step h hc (of_decide_eq_true e), fun e => ?_, ar_add64 (by omega) (by omega), by omega⟩
    rw [hr]; exact decide_eq_false (eqAt_off (of_decide_eq_false e))
  have hz : a.length = b.length → EqAt a b 0 := eqAt_zero
  rw [← hr]
  clear hr
  obtain ⟨X, hX⟩ : ∃ X, X = a.map itemC := ⟨_, rfl⟩
  obtain ⟨Y, hY⟩ : ∃ X, X = b.map itemC := ⟨_, rfl⟩
  have hXl : lenE X = (a.length : Int) := by rw [hX, len_map]
  have hYl : lenE Y = (b.length : Int) := by rw [hY, len_map]
  rw [← hX, ← hY] at hstep ⊢
  clear hX hY
  refine acalls_symF tabF_ok fn33 rfl rfl rfl (by kernel_rfl) ?_
  have hfin : ∀ st, resA Try.prog Try.f33 st = some (.flat (.bool r)) → G.Leaves Try.prog Try.f33 (fun _ => .flat (.bool r)) (fun _ => []) st := fun st h => G.Leaves.plain h rfl
  rintro ⟨lt, le, eq, se, ar, dv, una, conv, len, sln, nat, nth, ixs, cel, sto, app, cpy, slc, mak, ixv, oth, dk, ib, call⟩ hS hm Q hQ
  obtain ⟨hlt, hle, heq, hse, har, hdv, huna, hconv, hlen, hsln, hnat, hnth, hixs, hcel, hsto, happ, hcpy, hslc, hmak, hixv, hoth, hdk, hib, hcall⟩ := Sym.mk.inj hS
  clear hS
  have hnt : ∀ n : Nat, nat n = U.natI n := fun n => by rw [hnat]; rfl
  have hbox : ∀ e c off, cel (some ⟨e, [c]⟩) 0 off = if off ≤ c.length then some (c.drop off) else none := fun e c off => by rw [hcel]; rfl
  have hsbox : ∀ e c off sz y, sto (some ⟨e, [c]⟩) 0 off sz y = if y.cells.length = sz ∧ off + sz ≤ c.length ∧ y.cells.all AV.one = true then some ⟨e, [spl c off y.cells]⟩ else none := fun e c off sz y => by rw [hsto]; rfl
  have hcaw : ∀ {f args T base K}, CallK Try.prog f args T base K → call f args T base K := fun h => by rw [hcall]; exact h
  have hcal : ∀ {f args T base} {K : AV → Table → List Nat → List Nat → Prop}, (∃ args' ids val rows, Hands T ids args args' (val base) (rows base) ∧ ACalls Try.prog f args' val rows ∧ (rows base).length ≤ 8 ∧ K (val base) (adopt T base (rows base)) ids ((List.range (rows base).length).map (base + ·))) → call f args T base K := fun h => hcaw (call_own h)
  have hl0 : eq (len X) (len Y) = false → r = false := fun h => hlen0 fun e => by
    rw [heq, hlen, hXl, hYl] at h
    exact of_decide_eq_false h (by rw [e])
  have hl1 : eq (len X) (len Y) = true → EqAt a b 0 := fun h => hz (by
    rw [heq, hlen, hXl, hYl] at h
    have := of_decide_eq_true h
    omega)
  have hend2 : ∀ i, EqAt a b i → lt i (len X) = false → r = true := fun i h hc => hend i h (by rw [hlt, hlen, hXl] at hc; exact hc)
  have hstep2 : ∀ i, EqAt a b i → lt i (len X) = true → ∃ (x1 x2 x3 y1 y2 y3 : Int) (d : Bool), nth X i 3 = some (.rp [.flat (.int .i64 x1), .flat (.int .i64 x2), .flat (.int .u64 x3)]) ∧ nth Y i 3 = some (.rp [.flat (.int .i64 y1), .flat (.int .i64 y2), .flat (.int .u64 y3)]) ∧ dv .neq 28 (.agg [.flat (.int .i64 x1), .flat (.int .i64 x2), .flat (.int .u64 x3)]) (.agg [.flat (.int .i64 y1), .flat (.int .i64 y2), .flat (.int .u64 y3)]) = some (.flat (.bool d)) ∧ (d = false → EqAt a b (i + 1)) ∧ (d = true → r = false) ∧ ar .add .i64 i 1 = i + 1 ∧ (a.length - (i + 1).toNat < a.length - i.toNat) := fun i h hc => by
    obtain ⟨x, y, q1, q2, q3, q4, q5, q6, q7⟩ := hstep i h (by rw [hlt, hlen, hXl] at hc; exact hc)
    exact ⟨_, _, _, _, _, _, _, by rw [hnth]; exact q1, by rw [hnth]; exact q2, by rw [hdv]; exact q3, fun e => q4 (by simpa using e), fun e => q5 (by simpa using e), by rw [har]; exact q6, q7⟩
  clear hlen0 hend hstep hz
  cbv
  cases h0 : eq (len X) (len Y)
  · have := hl0 h0
    subst this
    cbv
    exact hQ _ _ trivial (hfin _ (by cbv))
  have hi0 := hl1 h0
  cbv
  refine MW_loop hm [] [0, 1, 12, 13] 14 (by simp) (fun mz st => ∃ (i : Int), EqAt a b i ∧ mz = a.length - i.toNat ∧ st = stOf [.ro X, .ro Y, .dead, .dead, .dead, .dead, .dead, .dead, .dead, .dead, .dead, .dead, .flat (.int .i64 (len X)), .flat (.int .i64 i)] [] 0) (a.length - (0 : Int).toNat) ?_ ?_
  · exact ⟨0, hi0, rfl, cut_eq (by cbv) (by rfl)⟩
  rintro mz st ⟨i, hi, hmz, rfl⟩
  cases hc : lt i (len X)
  · have := hend2 i hi hc
    subst this
    cbv
    rw [hc]; cbv
    exact hQ _ _ trivial (hfin _ (by cbv))
  obtain ⟨x1, x2, x3, y1, y2, y3, d, q1, q2, q3, q4, q5, q6, q7⟩ := hstep2 i hi hc
  generalize i + 1 = i2 at q4 q6 q7
  cbv
  rw [hc]; cbv
  refine ⟨by rw [hdk]; kernel_rfl, ?_⟩
  repeat (first | (rw [hbox]; cbv) | (rw [hsbox]; cbv) | (rw [q1]; cbv) | (rw [q2]; cbv) | (rw [q3]; cbv))
  refine ⟨by rw [hib]; kernel_rfl, ?_⟩
  cbv
  cases d
  rotate_left
  · have := q5 rfl
    subst this
    cbv
    exact hQ _ _ trivial (hfin _ (by cbv))
  have k1 := q4 rfl
  cbv
  rw [q6]
  exact ⟨[], [0, 1, 12, 13], 14, a.length - i2.toNat, hmz ▸ q7, by simp, i2, k1, rfl, cut_eq (by cbv) (by rfl)⟩
theorem itemSame_calls (a b : List ItemT) (hn : a.length ≤ 1000000) : ACalls Try.prog 13 [.ro (a.map itemC), .ro (b.map itemC)] (fun _ => .flat (.bool (decide (a = b)))) (fun _ => []) := by
  have hcE := equal_calls a b hn
  generalize decide (a = b) = r at hcE ⊢
  generalize a.map itemC = X at hcE ⊢
  generalize b.map itemC = Y at hcE ⊢
  refine acalls_symF tabF_ok fn13 rfl rfl rfl (by kernel_rfl) ?_
  have hfin : ∀ st, resA Try.prog Try.f13 st = some (.flat (.bool r)) → G.Leaves Try.prog Try.f13 (fun _ => .flat (.bool r)) (fun _ => []) st := fun st h => G.Leaves.plain h rfl
  rintro ⟨lt, le, eq, se, ar, dv, una, conv, len, sln, nat, nth, ixs, cel, sto, app, cpy, slc, mak, ixv, oth, dk, ib, call⟩ hS hm Q hQ
  obtain ⟨hlt, hle, heq, hse, har, hdv, huna, hconv, hlen, hsln, hnat, hnth, hixs, hcel, hsto, happ, hcpy, hslc, hmak, hixv, hoth, hdk, hib, hcall⟩ := Sym.mk.inj hS
  clear hS
  have hnt : ∀ n : Nat, nat n = U.natI n := fun n => by rw [hnat]; rfl
  have hbox : ∀ e c off, cel (some ⟨e, [c]⟩) 0 off = if off ≤ c.length then some (c.drop off) else none := fun e c off => by rw [hcel]; rfl
  have hsbox : ∀ e c off sz y, sto (some ⟨e, [c]⟩) 0 off sz y = if y.cells.length = sz ∧ off + sz ≤ c.length ∧ y.cells.all AV.one = true then some ⟨e, [spl c off y.cells]⟩ else none := fun e c off sz y => by rw [hsto]; rfl
  have hcaw : ∀ {f args T base K}, CallK Try.prog f args T base K → call f args T base K := fun h => by rw [hcall]; exact h
  have hcal : ∀ {f args T base} {K : AV → Table → List Nat → List Nat → Prop}, (∃ args' ids val rows, Hands T ids args args' (val base) (rows base) ∧ ACalls Try.prog f args' val rows ∧ (rows base).length ≤ 8 ∧ K (val base) (adopt T base (rows base)) ids ((List.range (rows base).length).map (base + ·))) → call f args T base K := fun h => hcaw (call_own h)
  cbv
  refine hcal ⟨_, [], _, _, .inl ⟨rfl, by cbv⟩, hcE, by simp, ?_⟩
  cbv
  exact hQ _ _ trivial (hfin _ (by cbv))
theorem refSame_calls (a b : List ItemT) (hn : a.length ≤ 1000000) : ACalls Try.prog 10 [.ro (a.map itemC), .ro (b.map itemC)] (fun _ => .flat (.bool (decide (a = b)))) (fun _ => []) := by
  obtain ⟨r, hr⟩ : ∃ r, r = decide (a = b) := ⟨_, rfl⟩
  have hlen0 : a.length ≠ b.length → r = false := fun h => by rw [hr]; exact decide_eq_false fun e => h (by rw [e])
  have hend : ∀ i, EqAt a b i → decide (i < (a.length : Int)) = false → r = true := fun i h hc => by rw [hr]; exact decide_eq_true (eqAt_end h hc)
  have hstep : ∀ i, EqAt a b i → decide (i < (a.length : Int)) = true → ∃ x y : ItemT, nthE (a.map itemC) i 3 = some (.rp (itemC x)) ∧ nthE (b.map itemC) i 3 = some (.rp (itemC y)) ∧ dvOf Try.prog .neq 41 (.agg (itemC x)) (.agg (itemC y)) = some (.flat (.bool (!decide (x = y)))) ∧ (decide (x = y) = true → EqAt a b (i + 1)) ∧ (decide (x = y) = false → r = false) ∧ arI .add .i64 i 1 = i + 1 ∧ (a.length - (i + 1).toNat < a.length - i.toNat) := fun i h hc => by
    obtain ⟨_, h0, h1⟩ := at_lt h.1 hc
    refine ⟨_, _, nth_map (fun _ => rfl) h0 h1, nth_map (fun _ => rfl) h0 (by rw [← h.2.1]; exact h1), neq41 _ _, fun e => eqAt_step h hc (of_decide_eq_true e), fun e => ?_, ar_add64 (by omega) (by omega), by omega⟩
    rw [hr]; exact decide_eq_false (eqAt_off (of_decide_eq_false e))
  have hz : a.length = b.length → EqAt a b 0 := eqAt_zero
  rw [← hr]
  clear hr
  obtain ⟨X, hX⟩ : ∃ X, X = a.map itemC := ⟨_, rfl⟩
  obtain ⟨Y, hY⟩ : ∃ X, X = b.map itemC := ⟨_, rfl⟩
  have hXl : lenE X = (a.length : Int) := by rw [hX, len_map]
  have hYl : lenE Y = (b.length : Int) := by rw [hY, len_map]
  rw [← hX, ← hY] at hstep ⊢
  clear hX hY
  refine acalls_symF tabF_ok fn10 rfl rfl rfl (by kernel_rfl) ?_
  have hfin : ∀ st, resA Try.prog Try.f10 st = some (.flat (.bool r)) → G.Leaves Try.prog Try.f10 (fun _ => .flat (.bool r)) (fun _ => []) st := fun st h => G.Leaves.plain h rfl
  rintro ⟨lt, le, eq, se, ar, dv, una, conv, len, sln, nat, nth, ixs, cel, sto, app, cpy, slc, mak, ixv, oth, dk, ib, call⟩ hS hm Q hQ
  obtain ⟨hlt, hle, heq, hse, har, hdv, huna, hconv, hlen, hsln, hnat, hnth, hixs, hcel, hsto, happ, hcpy, hslc, hmak, hixv, hoth, hdk, hib, hcall⟩ := Sym.mk.inj hS
  clear hS
  have hnt : ∀ n : Nat, nat n = U.natI n := fun n => by rw [hnat]; rfl
  have hbox : ∀ e c off, cel (some ⟨e, [c]⟩) 0 off = if off ≤ c.length then some (c.drop off) else none := fun e c off => by rw [hcel]; rfl
  have hsbox : ∀ e c off sz y, sto (some ⟨e, [c]⟩) 0 off sz y = if y.cells.length = sz ∧ off + sz ≤ c.length ∧ y.cells.all AV.one = true then some ⟨e, [spl c off y.cells]⟩ else none := fun e c off sz y => by rw [hsto]; rfl
  have hcaw : ∀ {f args T base K}, CallK Try.prog f args T base K → call f args T base K := fun h => by rw [hcall]; exact h
  have hcal : ∀ {f args T base} {K : AV → Table → List Nat → List Nat → Prop}, (∃ args' ids val rows, Hands T ids args args' (val base) (rows base) ∧ ACalls Try.prog f args' val rows ∧ (rows base).length ≤ 8 ∧ K (val base) (adopt T base (rows base)) ids ((List.range (rows base).length).map (base + ·))) → call f args T base K := fun h => hcaw (call_own h)
  have hl0 : eq (len X) (len Y) = false → r = false := fun h => hlen0 fun e => by
    rw [heq, hlen, hXl, hYl] at h
    exact of_decide_eq_false h (by rw [e])
  have hl1 : eq (len X) (len Y) = true → EqAt a b 0 := fun h => hz (by
    rw [heq, hlen, hXl, hYl] at h
    have := of_decide_eq_true h
    omega)
  have hend2 : ∀ i, EqAt a b i → lt i (len X) = false → r = true := fun i h hc => hend i h (by rw [hlt, hlen, hXl] at hc; exact hc)
  have hstep2 : ∀ i, EqAt a b i → lt i (len X) = true → ∃ (x1 x2 x3 y1 y2 y3 : Int) (d : Bool), nth X i 3 = some (.rp [.flat (.int .i64 x1), .flat (.int .i64 x2), .flat (.int .u64 x3)]) ∧ nth Y i 3 = some (.rp [.flat (.int .i64 y1), .flat (.int .i64 y2), .flat (.int .u64 y3)]) ∧ dv .neq 41 (.agg [.flat (.int .i64 x1), .flat (.int .i64 x2), .flat (.int .u64 x3)]) (.agg [.flat (.int .i64 y1), .flat (.int .i64 y2), .flat (.int .u64 y3)]) = some (.flat (.bool d)) ∧ (d = false → EqAt a b (i + 1)) ∧ (d = true → r = false) ∧ ar .add .i64 i 1 = i + 1 ∧ (a.length - (i + 1).toNat < a.length - i.toNat) := fun i h hc => by
    obtain ⟨x, y, q1, q2, q3, q4, q5, q6, q7⟩ := hstep i h (by rw [hlt, hlen, hXl] at hc; exact hc)
    exact ⟨_, _, _, _, _, _, _, by rw [hnth]; exact q1, by rw [hnth]; exact q2, by rw [hdv]; exact q3, fun e => q4 (by simpa using e), fun e => q5 (by simpa using e), by rw [har]; exact q6, q7⟩
  clear hlen0 hend hstep hz
  cbv
  cases h0 : eq (len X) (len Y)
  · have := hl0 h0
    subst this
    cbv
    exact hQ _ _ trivial (hfin _ (by cbv))
  have hi0 := hl1 h0
  cbv
  refine MW_loop hm [] [0, 1, 5] 6 (by simp) (fun mz st => ∃ (i : Int), EqAt a b i ∧ mz = a.length - i.toNat ∧ st = stOf [.ro X, .ro Y, .dead, .dead, .dead, .flat (.int .i64 i)] [] 0) (a.length - (0 : Int).toNat) ?_ ?_
  · exact ⟨0, hi0, rfl, cut_eq (by cbv) (by rfl)⟩
  rintro mz st ⟨i, hi, hmz, rfl⟩
  cases hc : lt i (len X)
  · have := hend2 i hi hc
    subst this
    cbv
    rw [hc]; cbv
    exact hQ _ _ trivial (hfin _ (by cbv))
  obtain ⟨x1, x2, x3, y1, y2, y3, d, q1, q2, q3, q4, q5, q6, q7⟩ := hstep2 i hi hc
  generalize i + 1 = i2 at q4 q6 q7
  cbv
  rw [hc]; cbv
  refine ⟨by rw [hdk]; kernel_rfl, ?_⟩
  repeat (first | (rw [hbox]; cbv) | (rw [hsbox]; cbv) | (rw [q1]; cbv) | (rw [q2]; cbv) | (rw [q3]; cbv))
  refine ⟨by rw [hib]; kernel_rfl, ?_⟩
  cbv
  cases d
  rotate_left
  · have := q5 rfl
    subst this
    cbv
    exact hQ _ _ trivial (hfin _ (by cbv))
  have k1 := q4 rfl
  cbv
  rw [q6]
  exact ⟨[], [0, 1, 5], 6, a.length - i2.toNat, hmz ▸ q7, by simp, i2, k1, rfl, cut_eq (by cbv) (by rfl)⟩
theorem ref_calls (l : List ItemT) (hn : l.length ≤ 1000000) : ACalls Try.prog 11 [.ro (l.map itemC)] (fun k => .sl k 0 l.length) (fun _ => [⟨41, l.map itemC⟩]) := by
  have hstep : ∀ i, At l i → decide (i < (l.length : Int)) = true → ∃ x1 x2 x3 : Int, nthE (l.map itemC) i 3 = some (.rp [.flat (.int .i64 x1), .flat (.int .i64 x2), .flat (.int .u64 x3)]) ∧ At l (i + 1) ∧ arI .add .i64 i 1 = i + 1 ∧ (l.length - (i + 1).toNat < l.length - i.toNat) ∧ (∀ Y, Y = (l.take i.toNat).map itemC → Y ++ [[.flat (.int .i64 x1), .flat (.int .i64 x2), .flat (.int .u64 x3)]] = (l.take (i + 1).toNat).map itemC) ∧ (l.take i.toNat).length ≤ 1000000 := fun i h hc => by
    obtain ⟨_, h0, h1⟩ := at_lt h hc
    refine ⟨_, _, _, nth_map (fun _ => rfl) h0 h1, (at_step h hc).1, ar_add64 (by omega) (by omega), by omega, fun Y hY => ?_, by rw [List.length_take]; omega⟩
    rw [take_next h0 h1, List.map_append, hY]; rfl
  have hend : ∀ i, At l i → decide (i < (l.length : Int)) = false → l.take i.toNat = l := fun i h hc => take_end h hc
  have hz := at_zero l
  have hz0 : ([] : List (List AV)) = (l.take (0 : Int).toNat).map itemC := rfl
  obtain ⟨X, hX⟩ : ∃ X, X = l.map itemC := ⟨_, rfl⟩
  have hXl : lenE X = (l.length : Int) := by rw [hX, len_map]
  obtain ⟨m, hm0⟩ : ∃ m, m = l.length := ⟨_, rfl⟩
  rw [← hX] at hstep ⊢
  rw [← hm0]
  refine acalls_symF tabF_ok fn11 rfl rfl rfl (by kernel_rfl) ?_
  rintro ⟨lt, le, eq, se, ar, dv, una, conv, len, sln, nat, nth, ixs, cel, sto, app, cpy, slc, mak, ixv, oth, dk, ib, call⟩ hS hm Q hQ
  obtain ⟨hlt, hle, heq, hse, har, hdv, huna, hconv, hlen, hsln, hnat, hnth, hixs, hcel, hsto, happ, hcpy, hslc, hmak, hixv, hoth, hdk, hib, hcall⟩ := Sym.mk.inj hS
  clear hS
  have hnt : ∀ n : Nat, nat n = U.natI n := fun n => by rw [hnat]; rfl
  have hbox : ∀ e c off, cel (some ⟨e, [c]⟩) 0 off = if off ≤ c.length then some (c.drop off) else none := fun e c off => by rw [hcel]; rfl
  have hsbox : ∀ e c off sz y, sto (some ⟨e, [c]⟩) 0 off sz y = if y.cells.length = sz ∧ off + sz ≤ c.length ∧ y.cells.all AV.one = true then some ⟨e, [spl c off y.cells]⟩ else none := fun e c off sz y => by rw [hsto]; rfl
  have hcaw : ∀ {f args T base K}, CallK Try.prog f args T base K → call f args T base K := fun h => by rw [hcall]; exact h
  have hcal : ∀ {f args T base} {K : AV → Table → List Nat → List Nat → Prop}, (∃ args' ids val rows, Hands T ids args args' (val base) (rows base) ∧ ACalls Try.prog f args' val rows ∧ (rows base).length ≤ 8 ∧ K (val base) (adopt T base (rows base)) ids ((List.range (rows base).length).map (base + ·))) → call f args T base K := fun h => hcaw (call_own h)
  have hap : ∀ (T : Table) (id k0 k n n2 : Nat) (Y Y2 : List (List AV)) (c : List AV), Y2 = Y ++ [c] → c.length = 3 → n = Y.length → n2 = n + 1 → n ≤ 1000000 → T k0 = some ⟨41, Y⟩ → T k = some ⟨41, [c]⟩ → k ≠ k0 → app T id 30 30 (.sl k0 0 n) (.sl k 0 1) = some (.sl id 0 n2, (T.set k0 none).set id (some ⟨41, Y2⟩)) := fun T id k0 k n n2 Y Y2 c h0 h7 h1 h2 h3 h4 h5 h6 => by
    rw [happ]; exact app_tip u30 z41 c41 (by decide) rfl (by decide) h4 h5 h6 h7 (by omega) h2 (by rw [h0, h1, List.take_length]) (by omega)
  have hstep2 : ∀ i, At l i → lt i (len X) = true → ∃ x1 x2 x3 : Int, nth X i 3 = some (.rp [.flat (.int .i64 x1), .flat (.int .i64 x2), .flat (.int .u64 x3)]) ∧ At l (i + 1) ∧ ar .add .i64 i 1 = i + 1 ∧ (l.length - (i + 1).toNat < l.length - i.toNat) ∧ (∀ Y, Y = (l.take i.toNat).map itemC → Y ++ [[.flat (.int .i64 x1), .flat (.int .i64 x2), .flat (.int .u64 x3)]] = (l.take (i + 1).toNat).map itemC) ∧ (l.take i.toNat).length ≤ 1000000 := fun i h hc => by
    rw [hnth, har]; exact hstep i h (by rw [hlt, hlen, hXl] at hc; exact hc)
  have hend2 : ∀ i, At l i → lt i (len X) = false → l.take i.toNat = l := fun i h hc => hend i h (by rw [hlt, hlen, hXl] at hc; exact hc)
  clear hstep hend
  cbv
  refine MW_loopZ hm [.slot 3 41] [24] [0, 3, 4] 5 (by simp) (fun mz st => ∃ (i : Int) (n : Nat) (Y : List (List AV)), At l i ∧ Y = (l.take i.toNat).map itemC ∧ n = Y.length ∧ mz = l.length - i.toNat ∧ st = stOf [.ro X, .dead, .dead, .sl 0 0 n, .flat (.int .i64 i)] [some ⟨41, Y⟩] 1) (l.length - (0 : Int).toNat) ?_ ?_
  · exact ⟨0, 0, [], hz, hz0, rfl, rfl, cut_eq (by cbv) (cutRows_cons (by rfl) (fun c hc => by cases hc) rfl)⟩
  rintro mz st ⟨i, n, Y, hi, hY, hYn, hmz, rfl⟩
  have hYcl : ∀ c ∈ Y, closedAll [] c = true := by rw [hY]; exact closed_items _
  cases hc : lt i (len X)
  · have he := hend2 i hi hc
    rw [he, ← hX] at hY
    have hn2 : n = m := by rw [hYn, hY, hX, List.length_map, hm0]
    rw [← hY, ← hn2] at hQ
    cbv
    rw [hc]; cbv
    exact hQ _ _ trivial (leaves_own (k := 0) (by cbv) (by rfl) hYcl)
  obtain ⟨x1, x2, x3, q1, q2, q3, q4, q5, q6⟩ := hstep2 i hi hc
  replace q5 := q5 Y hY
  have hYm : n ≤ 1000000 := by rw [hYn, hY, List.length_map]; exact q6
  obtain ⟨n2, hn2⟩ : ∃ n2, n2 = n + 1 := ⟨_, rfl⟩
  obtain ⟨Y2, hY2⟩ : ∃ Z, Z = Y ++ [[.flat (.int .i64 x1), .flat (.int .i64 x2), .flat (.int .u64 x3)]] := ⟨_, rfl⟩
  have hn3 : n2 = Y2.length := by rw [hY2, List.length_append, hn2, hYn]; rfl
  have ha := fun T id k0 k => hap T id k0 k n n2 Y Y2 _ hY2 rfl hYn hn2 hYm
  rw [← hY2] at q5
  have hY2cl : ∀ c ∈ Y2, closedAll [] c = true := by rw [q5]; exact closed_items _
  generalize i + 1 = i2 at q2 q3 q4 q5
  cbv
  rw [hc]; cbv
  refine ⟨by rw [hdk]; kernel_rfl, ?_⟩
  repeat (first | (rw [hbox]; cbv) | (rw [hsbox]; cbv) | (rw [q1]; cbv))
  rw [ha _ _ _ _ (by rfl) (by rfl) (by decide)]; cbv
  refine ⟨by rw [hib]; kernel_rfl, ?_⟩
  cbv
  rw [q3]
  exact ⟨[177], [0, 3, 4], 5, l.length - i2.toNat, hmz ▸ q4, by simp, i2, n2, Y2, q2, q5, hn3, rfl, cut_eq (by cbv) (cutRows_cons (by rfl) (hY2cl) rfl)⟩
end Go.Proofs.Ytnceadbfgpiaaaa.J
/- Contracts: the example of bosketlaw24; few items. -/
namespace Go.Proofs.Ytnceadbfgpiaaaa.J
open Go G U K I
set_option linter.unusedVariables false
set_option linter.unusedSimpArgs false
set_option maxRecDepth 100000
set_option maxHeartbeats 4000000
def AllAt {α : Type} (p : α → Bool) (l : List α) (i : Int) : Prop := At l i ∧ (l.take i.toNat).all p = true
section
variable {α : Type} {p : α → Bool} {l : List α} {i : Int}
theorem all_zero (p : α → Bool) (l : List α) : AllAt p l 0 := ⟨⟨by omega, by omega⟩, rfl⟩
theorem all_end [Inhabited α] (h : AllAt p l i) (hc : decide (i < (l.length : Int)) = false) : l.all p = true := by
  have := h.2
  rwa [take_end h.1 hc] at this
theorem all_step [Inhabited α] (h : AllAt p l i) (hc : decide (i < (l.length : Int)) = true) (hp : p (atI l i) = true) : AllAt p l (i + 1) := by
  obtain ⟨_, h0, h1⟩ := at_lt h.1 hc
  refine ⟨(at_step h.1 hc).1, ?_⟩
  rw [take_next h0 h1, List.all_append, h.2]
  simp [hp]
theorem all_hit [Inhabited α] (h : AllAt p l i) (hc : decide (i < (l.length : Int)) = true) (hp : p (atI l i) = false) : l.all p = false := by
  obtain ⟨_, h0, h1⟩ := at_lt h.1 hc
  rw [List.all_eq_false]
  exact ⟨_, at_mem h0 h1, by rw [hp]; decide⟩
end
def fewB (x : ItemT) : Bool := !decide (x.prod < 0) && (!decide ((65535 : Int) < x.prod) && (!decide (x.dot < 0) && !decide ((65535 : Int) < x.dot)))
def fewL (l : List ItemT) : Bool := !decide ((30 : Int) < (l.length : Int)) && l.all fewB
theorem fewL_facts {l : List ItemT} (hok : ∀ x ∈ l, okI64 x) (h : fewL l = true) : l.length ≤ 30 ∧ ∀ x ∈ l, fewI x := by
  unfold fewL at h
  rw [Bool.and_eq_true, Bool.not_eq_true'] at h
  have h1 := of_decide_eq_false h.1
  refine ⟨by omega, fun x hx => ?_⟩
  have h2 := List.all_eq_true.1 h.2 x hx
  unfold fewB at h2
  simp only [Bool.and_eq_true, Bool.not_eq_true', decide_eq_false_iff_not] at h2
  exact ⟨by omega, by omega, by omega, by omega, hok x hx⟩
theorem awake_calls : ACalls Try.prog 7 [] (fun _ => .flat (.bool true)) (fun _ => []) := by
  have hcO : ACalls Try.prog 9 [.ro [[.flat (.int .i64 1), .flat (.int .i64 0), .flat (.int .u64 1)], [.flat (.int .i64 0), .flat (.int .i64 2), .flat (.int .u64 2)], [.flat (.int .i64 1), .flat (.int .i64 0), .flat (.int .u64 4)]]] (fun k => .sl k 0 2) (fun _ => [⟨28, [[.flat (.int .i64 0), .flat (.int .i64 2), .flat (.int .u64 2)], [.flat (.int .i64 1), .flat (.int .i64 0), .flat (.int .u64 5)]]⟩]) := by
    have h := of_calls [⟨1, 0, 1⟩, ⟨0, 2, 2⟩, ⟨1, 0, 4⟩] (by decide) (fun x hx => by
      simp only [List.mem_cons, List.not_mem_nil, or_false] at hx
      rcases hx with rfl | rfl | rfl <;> (unfold okI64; decide))
    have e : ofT [⟨1, 0, 1⟩, ⟨0, 2, 2⟩, ⟨1, 0, 4⟩] = [⟨0, 2, 2⟩, ⟨1, 0, 5⟩] := by kernel_rfl
    rw [e] at h
    exact h
  have hf := flat_items [⟨0, 2, 2⟩, ⟨1, 0, 5⟩]
  have hr : readRow [[AV.flat (.int .i64 1), .flat (.int .i64 0), .flat (.int .u64 1)], [.flat (.int .i64 0), .flat (.int .i64 2), .flat (.int .u64 2)], [.flat (.int .i64 1), .flat (.int .i64 0), .flat (.int .u64 4)]] := (flat_items [⟨1, 0, 1⟩, ⟨0, 2, 2⟩, ⟨1, 0, 4⟩]).read
  have d1 : dvOf Try.prog .eql 28 (.agg [AV.flat (.int .i64 0), .flat (.int .i64 2), .flat (.int .u64 2)]) (.agg [.flat (.int .i64 0), .flat (.int .i64 2), .flat (.int .u64 2)]) = some (.flat (.bool true)) := by
    rw [dvOf_eq]; intro x y; kernel_rfl
  have d2 : dvOf Try.prog .eql 28 (.agg [AV.flat (.int .i64 1), .flat (.int .i64 0), .flat (.int .u64 5)]) (.agg [.flat (.int .i64 1), .flat (.int .i64 0), .flat (.int .u64 5)]) = some (.flat (.bool true)) := by
    rw [dvOf_eq]; intro x y; kernel_rfl
  change ∀ c ∈ [[AV.flat (.int .i64 0), .flat (.int .i64 2), .flat (.int .u64 2)], [.flat (.int .i64 1), .flat (.int .i64 0), .flat (.int .u64 5)]], _ at hf
  refine acalls_symF tabF_ok fn7 rfl rfl rfl (by kernel_rfl) ?_
  have hfin : ∀ st, resA Try.prog Try.f7 st = some (.flat (.bool true)) → G.Leaves Try.prog Try.f7 (fun _ => .flat (.bool true)) (fun _ => []) st := fun st h => G.Leaves.plain h rfl
  rintro ⟨lt, le, eq, se, ar, dv, una, conv, len, sln, nat, nth, ixs, cel, sto, app, cpy, slc, mak, ixv, oth, dk, ib, call⟩ hS hm Q hQ
  obtain ⟨hlt, hle, heq, hse, har, hdv, huna, hconv, hlen, hsln, hnat, hnth, hixs, hcel, hsto, happ, hcpy, hslc, hmak, hixv, hoth, hdk, hib, hcall⟩ := Sym.mk.inj hS
  clear hS
  have hnt : ∀ n : Nat, nat n = U.natI n := fun n => by rw [hnat]; rfl
  have hbox : ∀ e c off, cel (some ⟨e, [c]⟩) 0 off = if off ≤ c.length then some (c.drop off) else none := fun e c off => by rw [hcel]; rfl
  have hsbox : ∀ e c off sz y, sto (some ⟨e, [c]⟩) 0 off sz y = if y.cells.length = sz ∧ off + sz ≤ c.length ∧ y.cells.all AV.one = true then some ⟨e, [spl c off y.cells]⟩ else none := fun e c off sz y => by rw [hsto]; rfl
  have hcaw : ∀ {f args T base K}, CallK Try.prog f args T base K → call f args T base K := fun h => by rw [hcall]; exact h
  have hcal : ∀ {f args T base} {K : AV → Table → List Nat → List Nat → Prop}, (∃ args' ids val rows, Hands T ids args args' (val base) (rows base) ∧ ACalls Try.prog f args' val rows ∧ (rows base).length ≤ 8 ∧ K (val base) (adopt T base (rows base)) ids ((List.range (rows base).length).map (base + ·))) → call f args T base K := fun h => hcaw (call_own h)
  have x1 : ∀ id, ixs (some ⟨28, [[AV.flat (.int .i64 0), .flat (.int .i64 2), .flat (.int .u64 2)], [.flat (.int .i64 1), .flat (.int .i64 0), .flat (.int .u64 5)]]⟩) id 0 2 0 3 = some (.ptr id 0 0) := fun id => by rw [hixs]; exact own_ix (i := 0) c28 (by decide) (by decide) id
  have x2 : ∀ id, ixs (some ⟨28, [[AV.flat (.int .i64 0), .flat (.int .i64 2), .flat (.int .u64 2)], [.flat (.int .i64 1), .flat (.int .i64 0), .flat (.int .u64 5)]]⟩) id 0 2 1 3 = some (.ptr id 1 0) := fun id => by rw [hixs]; exact own_ix (i := 1) c28 (by decide) (by decide) id
  have x3 : cel (some ⟨28, [[AV.flat (.int .i64 0), .flat (.int .i64 2), .flat (.int .u64 2)], [.flat (.int .i64 1), .flat (.int .i64 0), .flat (.int .u64 5)]]⟩) 0 0 = some [AV.flat (.int .i64 0), .flat (.int .i64 2), .flat (.int .u64 2)] := by rw [hcel]; rfl
  have x4 : cel (some ⟨28, [[AV.flat (.int .i64 0), .flat (.int .i64 2), .flat (.int .u64 2)], [.flat (.int .i64 1), .flat (.int .i64 0), .flat (.int .u64 5)]]⟩) 1 0 = some [AV.flat (.int .i64 1), .flat (.int .i64 0), .flat (.int .u64 5)] := by rw [hcel]; rfl
  have x5 : eq (nat 2) 2 = true := by rw [heq, hnat]; rfl
  have x6 : dv .eql 28 (.agg [AV.flat (.int .i64 0), .flat (.int .i64 2), .flat (.int .u64 2)]) (.agg [.flat (.int .i64 0), .flat (.int .i64 2), .flat (.int .u64 2)]) = some (.flat (.bool true)) := by rw [hdv]; exact d1
  have x7 : dv .eql 28 (.agg [AV.flat (.int .i64 1), .flat (.int .i64 0), .flat (.int .u64 5)]) (.agg [.flat (.int .i64 1), .flat (.int .i64 0), .flat (.int .u64 5)]) = some (.flat (.bool true)) := by rw [hdv]; exact d2
  cbv
  refine hcal ⟨[.ro [[.flat (.int .i64 1), .flat (.int .i64 0), .flat (.int .u64 1)], [.flat (.int .i64 0), .flat (.int .i64 2), .flat (.int .u64 2)], [.flat (.int .i64 1), .flat (.int .i64 0), .flat (.int .u64 4)]]], [32], _, _, hands_deep ⟨deep_row (by simp) (by rfl) rfl hr, trivial⟩ rfl (noRo_flat hf), hcO, by simp, ?_⟩
  cbv
  repeat (first | (rw [hbox]; cbv) | (rw [hsbox]; cbv) | (rw [x5]; cbv) | (rw [x1]; cbv) | (rw [x2]; cbv) | (rw [x3]; cbv) | (rw [x4]; cbv) | (rw [x6]; cbv) | (rw [x7]; cbv))
  exact hQ _ _ trivial (hfin _ (by cbv))
theorem few_calls (l : List ItemT) : ACalls Try.prog 8 [.ro (l.map itemC)] (fun _ => .flat (.bool (fewL l))) (fun _ => []) := by
  obtain ⟨r, hr⟩ : ∃ r, r = fewL l := ⟨_, rfl⟩
  have h1 : decide ((30 : Int) < (l.length : Int)) = true → r = false := fun h => by rw [hr]; unfold fewL; rw [h]; rfl
  have h2 : decide ((30 : Int) < (l.length : Int)) = false → l.all fewB = r := fun h => by rw [hr]; unfold fewL; rw [h]; rfl
  have hz := all_zero fewB l
  have hend : ∀ i, AllAt fewB l i → decide (i < (l.length : Int)) = false → l.all fewB = true := fun i h hc => all_end h hc
  have hstep : ∀ i, l.length ≤ 30 → AllAt fewB l i → decide (i < (l.length : Int)) = true → ∃ x : ItemT, nthE (l.map itemC) i 3 = some (.rp (itemC x)) ∧ (fewB x = true → AllAt fewB l (i + 1)) ∧ (fewB x = false → l.all fewB = false) ∧ arI .add .i64 i 1 = i + 1 ∧ (l.length - (i + 1).toNat < l.length - i.toNat) := fun i hs h hc => by
    obtain ⟨_, h0, h1⟩ := at_lt h.1 hc
    exact ⟨_, nth_map (fun _ => rfl) h0 h1, fun e => all_step h hc e, fun e => all_hit h hc e, ar_add64 (by omega) (by omega), by omega⟩
  rw [← hr]
  clear hr
  obtain ⟨X, hX⟩ : ∃ X, X = l.map itemC := ⟨_, rfl⟩
  have hXl : lenE X = (l.length : Int) := by rw [hX, len_map]
  rw [← hX] at hstep ⊢
  clear hX
  refine acalls_symF tabF_ok fn8 rfl rfl rfl (by kernel_rfl) ?_
  have hfin : ∀ st, resA Try.prog Try.f8 st = some (.flat (.bool r)) → G.Leaves Try.prog Try.f8 (fun _ => .flat (.bool r)) (fun _ => []) st := fun st h => G.Leaves.plain h rfl
  rintro ⟨lt, le, eq, se, ar, dv, una, conv, len, sln, nat, nth, ixs, cel, sto, app, cpy, slc, mak, ixv, oth, dk, ib, call⟩ hS hm Q hQ
  obtain ⟨hlt, hle, heq, hse, har, hdv, huna, hconv, hlen, hsln, hnat, hnth, hixs, hcel, hsto, happ, hcpy, hslc, hmak, hixv, hoth, hdk, hib, hcall⟩ := Sym.mk.inj hS
  clear hS
  have hnt : ∀ n : Nat, nat n = U.natI n := fun n => by rw [hnat]; rfl
  have hbox : ∀ e c off, cel (some ⟨e, [c]⟩) 0 off = if off ≤ c.length then some (c.drop off) else none := fun e c off => by rw [hcel]; rfl
  have hsbox : ∀ e c off sz y, sto (some ⟨e, [c]⟩) 0 off sz y = if y.cells.length = sz ∧ off + sz ≤ c.length ∧ y.cells.all AV.one = true then some ⟨e, [spl c off y.cells]⟩ else none := fun e c off sz y => by rw [hsto]; rfl
  have hcaw : ∀ {f args T base K}, CallK Try.prog f args T base K → call f args T base K := fun h => by rw [hcall]; exact h
  have hcal : ∀ {f args T base} {K : AV → Table → List Nat → List Nat → Prop}, (∃ args' ids val rows, Hands T ids args args' (val base) (rows base) ∧ ACalls Try.prog f args' val rows ∧ (rows base).length ≤ 8 ∧ K (val base) (adopt T base (rows base)) ids ((List.range (rows base).length).map (base + ·))) → call f args T base K := fun h => hcaw (call_own h)
  have g1 : lt 30 (len X) = decide ((30 : Int) < (l.length : Int)) := by rw [hlt, hlen, hXl]
  have hend2 : ∀ i, AllAt fewB l i → lt i (len X) = false → l.all fewB = true := fun i h hc => hend i h (by rw [hlt, hlen, hXl] at hc; exact hc)
  have hstep2 : ∀ i, l.length ≤ 30 → AllAt fewB l i → lt i (len X) = true → ∃ a b c : Int, nth X i 3 = some (.rp [.flat (.int .i64 a), .flat (.int .i64 b), .flat (.int .u64 c)]) ∧ ((!lt a 0 && (!lt 65535 a && (!lt b 0 && !lt 65535 b))) = true → AllAt fewB l (i + 1)) ∧ ((!lt a 0 && (!lt 65535 a && (!lt b 0 && !lt 65535 b))) = false → l.all fewB = false) ∧ ar .add .i64 i 1 = i + 1 ∧ (l.length - (i + 1).toNat < l.length - i.toNat) := fun i hs h hc => by
    rw [hlt, hlen, hXl] at hc
    obtain ⟨x, q1, q2, q3, q4, q5⟩ := hstep i hs h hc
    exact ⟨_, _, _, by rw [hnth]; exact q1, fun e => q2 (by rw [hlt] at e; exact e), fun e => q3 (by rw [hlt] at e; exact e), by rw [har]; exact q4, q5⟩
  rw [← g1] at h1 h2
  have h30 : lt 30 (len X) = false → l.length ≤ 30 := fun h => by rw [g1] at h; have := of_decide_eq_false h; omega
  clear g1 hend hstep
  cbv
  cases e1 : lt 30 (len X)
  rotate_left
  · have := h1 e1
    subst this
    cbv
    exact hQ _ _ trivial (hfin _ (by cbv))
  have hr := h2 e1
  have hs := h30 e1
  cbv
  refine MW_loop hm [] [0, 3] 4 (by simp) (fun mz st => ∃ (i : Int), AllAt fewB l i ∧ mz = l.length - i.toNat ∧ st = stOf [.ro X, .dead, .dead, .flat (.int .i64 i)] [] 0) (l.length - (0 : Int).toNat) ?_ ?_
  · exact ⟨0, hz, rfl, cut_eq (by cbv) (by rfl)⟩
  rintro mz st ⟨i, hi, hmz, rfl⟩
  cases hc : lt i (len X)
  · have := hend2 i hi hc
    rw [this] at hr
    subst hr
    cbv
    rw [hc]; cbv
    exact hQ _ _ trivial (hfin _ (by cbv))
  obtain ⟨a, b, c, q1, q2, q3, q4, q5⟩ := hstep2 i hs hi hc
  generalize i + 1 = i2 at q2 q4 q5
  cases k1 : lt a 0
  rotate_left
  · have := q3 (by rw [k1]; rfl)
    rw [this] at hr
    subst hr
    cbv
    rw [hc]; cbv
    repeat (first | (rw [hbox]; cbv) | (rw [hsbox]; cbv) | (rw [q1]; cbv))
    rw [k1]; cbv
    exact hQ _ _ trivial (hfin _ (by cbv))
  cases k2 : lt 65535 a
  rotate_left
  · have := q3 (by rw [k1, k2]; rfl)
    rw [this] at hr
    subst hr
    cbv
    rw [hc]; cbv
    repeat (first | (rw [hbox]; cbv) | (rw [hsbox]; cbv) | (rw [q1]; cbv))
    rw [k1]; cbv
    repeat (first | (rw [hbox]; cbv) | (rw [hsbox]; cbv) | (rw [q1]; cbv))
    rw [k2]; cbv
    exact hQ _ _ trivial (hfin _ (by cbv))
  cases k3 : lt b 0
  rotate_left
  · have := q3 (by rw [k1, k2, k3]; rfl)
    rw [this] at hr
    subst hr
    cbv
    rw [hc]; cbv
    repeat (first | (rw [hbox]; cbv) | (rw [hsbox]; cbv) | (rw [q1]; cbv))
    rw [k1]; cbv
    repeat (first | (rw [hbox]; cbv) | (rw [hsbox]; cbv) | (rw [q1]; cbv))
    rw [k2]; cbv
    repeat (first | (rw [hbox]; cbv) | (rw [hsbox]; cbv) | (rw [q1]; cbv))
    rw [k3]; cbv
    exact hQ _ _ trivial (hfin _ (by cbv))
  cases k4 : lt 65535 b
  rotate_left
  · have := q3 (by rw [k1, k2, k3, k4]; rfl)
    rw [this] at hr
    subst hr
    cbv
    rw [hc]; cbv
    repeat (first | (rw [hbox]; cbv) | (rw [hsbox]; cbv) | (rw [q1]; cbv))
    rw [k1]; cbv
    repeat (first | (rw [hbox]; cbv) | (rw [hsbox]; cbv) | (rw [q1]; cbv))
    rw [k2]; cbv
    repeat (first | (rw [hbox]; cbv) | (rw [hsbox]; cbv) | (rw [q1]; cbv))
    rw [k3]; cbv
    repeat (first | (rw [hbox]; cbv) | (rw [hsbox]; cbv) | (rw [q1]; cbv))
    rw [k4]; cbv
    exact hQ _ _ trivial (hfin _ (by cbv))
  have k5 := q2 (by rw [k1, k2, k3, k4]; rfl)
  cbv
  rw [hc]; cbv
  repeat (first | (rw [hbox]; cbv) | (rw [hsbox]; cbv) | (rw [q1]; cbv))
  rw [k1]; cbv
  repeat (first | (rw [hbox]; cbv) | (rw [hsbox]; cbv) | (rw [q1]; cbv))
  rw [k2]; cbv
  repeat (first | (rw [hbox]; cbv) | (rw [hsbox]; cbv) | (rw [q1]; cbv))
  rw [k3]; cbv
  repeat (first | (rw [hbox]; cbv) | (rw [hsbox]; cbv) | (rw [q1]; cbv))
  rw [k4]; cbv
  rw [q4]
  exact ⟨[], [0, 3], 4, l.length - i2.toNat, hmz ▸ q5, by simp, i2, k5, rfl, cut_eq (by cbv) (by rfl)⟩
end Go.Proofs.Ytnceadbfgpiaaaa.J
