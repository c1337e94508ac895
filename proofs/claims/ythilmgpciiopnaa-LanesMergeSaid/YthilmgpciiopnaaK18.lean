/- Plain law: rows that are parted are merged again. No program in sight. -/
import Derived.Test.YthilmgpciiopnaaK17
namespace Go.Proofs.Ythilmgpciiopnaa.K
set_option linter.unusedVariables false
set_option linter.unusedSimpArgs false
open Go G
set_option maxRecDepth 100000
set_option maxHeartbeats 4000000
theorem merge_headL {x : Tok} : ∀ {a b : List Tok}, (∀ y ∈ b, x.a ≤ y.a) → mergeT (x :: a) b = x :: mergeT a b
  | a, [], _ => by rw [merge_nil2, merge_nil2]
  | a, y :: b, h => by rw [merge_cons, if_pos (by simpa using h y (by simp))]
theorem merge_headR {x : Tok} : ∀ {a b : List Tok}, (∀ y ∈ a, x.a < y.a) → mergeT a (x :: b) = x :: mergeT a b
  | [], b, _ => by rw [merge_nil, merge_nil]
  | y :: a, b, h => by rw [merge_cons, if_neg (by have := h y (by simp); simp; omega)]
def Rises : List Tok → Prop
  | [] => True
  | x :: r => (∀ y ∈ r, x.a < y.a) ∧ Rises r
theorem merge_parts (p : Tok → Bool) : ∀ (l : List Tok), Rises l → mergeT (l.filter p) (l.filter fun t => !p t) = l ∧ mergeT (l.filter fun t => !p t) (l.filter p) = l
  | [], _ => by simp [merge_nil]
  | x :: r, h => by
    obtain ⟨ih1, ih2⟩ := merge_parts p r h.2
    have hle : ∀ (q : Tok → Bool), ∀ y ∈ r.filter q, x.a ≤ y.a := fun q y hy => Int.le_of_lt (h.1 y (List.mem_filter.1 hy).1)
    have hlt : ∀ (q : Tok → Bool), ∀ y ∈ r.filter q, x.a < y.a := fun q y hy => h.1 y (List.mem_filter.1 hy).1
    cases hp : p x
    · rw [List.filter_cons_of_neg (by simp [hp]), List.filter_cons_of_pos (by simp [hp]), merge_headR (hlt _), merge_headL (hle _), ih1, ih2]
      exact ⟨rfl, rfl⟩
    · rw [List.filter_cons_of_pos hp, List.filter_cons_of_neg (by simp [hp]), merge_headL (hle _), merge_headR (hlt _), ih1, ih2]
      exact ⟨rfl, rfl⟩
def otherK (ks : List Int) (l : List Tok) : List Tok := l.filter fun t => !decide (kindOf ks t.r = 0)
theorem merge_kinds {ks : List Int} {l : List Tok} (h : Rises l) : mergeT (ofK ks 0 l) (otherK ks l) = l ∧ mergeT (otherK ks l) (ofK ks 0 l) = l := merge_parts _ l h

/-- Where the law's first loop stands. -/
def MI (l more : List Tok) (n i k : Int) : Prop := 0 ≤ i ∧ i ≤ l.length ∧ 0 ≤ k ∧ k ≤ more.length ∧ n = i + k ∧ (mergeT l more).drop n.toNat = mergeT (l.drop i.toNat) (more.drop k.toNat)
theorem mi_zero (l more : List Tok) : MI l more 0 0 0 := ⟨by omega, by omega, by omega, by omega, rfl, rfl⟩
theorem mi_l {l more : List Tok} {n i k : Int} (h : MI l more n i k) (hi : i < l.length) (hc : (more.length : Int) ≤ k ∨ (tokAt l i).a ≤ (tokAt more k).a) : MI l more (n + 1) (i + 1) k ∧ 0 ≤ n ∧ n < (mergeT l more).length ∧ (mergeT l more)[n.toNat]? = some (tokAt l i) := by
  obtain ⟨h0, h1, h2, h3, h4, h5⟩ := h
  have e : mergeT (l.drop i.toNat) (more.drop k.toNat) = tokAt l i :: mergeT (l.drop (i + 1).toNat) (more.drop k.toNat) := by
    rw [drop_tok h0 hi]
    by_cases hk : (more.length : Int) ≤ k
    · rw [List.drop_eq_nil_of_le (show more.length ≤ k.toNat by omega), merge_nil2, merge_nil2]
    · rw [drop_tok h2 (by omega), merge_cons, if_pos]
      rcases hc with hc | hc
      · exact absurd hc hk
      · simpa using hc
  rw [e] at h5
  have hg : (mergeT l more)[n.toNat]? = some (tokAt l i) := by
    have := congrArg (·[0]?) h5
    simpa using this
  have hlt := (List.getElem?_eq_some_iff.1 hg).1
  refine ⟨⟨by omega, by omega, h2, h3, by omega, ?_⟩, by omega, by omega, hg⟩
  have := congrArg List.tail h5
  simp only [List.tail_cons, List.tail_drop] at this
  rw [show (n + 1).toNat = n.toNat + 1 by omega]
  exact this
theorem mi_r {l more : List Tok} {n i k : Int} (h : MI l more n i k) (hk : k < more.length) (hc : (l.length : Int) ≤ i ∨ ¬ (tokAt l i).a ≤ (tokAt more k).a) : MI l more (n + 1) i (k + 1) ∧ 0 ≤ n ∧ n < (mergeT l more).length ∧ (mergeT l more)[n.toNat]? = some (tokAt more k) := by
  obtain ⟨h0, h1, h2, h3, h4, h5⟩ := h
  have e : mergeT (l.drop i.toNat) (more.drop k.toNat) = tokAt more k :: mergeT (l.drop i.toNat) (more.drop (k + 1).toNat) := by
    rw [drop_tok h2 hk]
    by_cases hi : (l.length : Int) ≤ i
    · rw [List.drop_eq_nil_of_le (show l.length ≤ i.toNat by omega), merge_nil, merge_nil]
    · rw [drop_tok h0 (by omega), merge_cons, if_neg]
      rcases hc with hc | hc
      · exact absurd hc hi
      · simpa using hc
  rw [e] at h5
  have hg : (mergeT l more)[n.toNat]? = some (tokAt more k) := by
    have := congrArg (·[0]?) h5
    simpa using this
  have hlt := (List.getElem?_eq_some_iff.1 hg).1
  refine ⟨⟨h0, h1, by omega, by omega, by omega, ?_⟩, by omega, by omega, hg⟩
  have := congrArg List.tail h5
  simp only [List.tail_cons, List.tail_drop] at this
  rw [show (n + 1).toNat = n.toNat + 1 by omega]
  exact this
theorem mi_room {l more : List Tok} {n i k : Int} (h : MI l more n i k) (hc : decide (n < ((mergeT l more).length : Int)) = true) (hk : (more.length : Int) ≤ k) : i < l.length := by
  obtain ⟨h0, h1, h2, h3, h4, h5⟩ := h
  rw [merge_len] at hc
  simp only [decide_eq_true_eq] at hc
  omega
theorem mi_adds {l more : List Tok} {n i k : Int} (h : MI l more n i k) (hs : l.length ≤ 60) (hs2 : more.length ≤ 60) : arI .add .i64 n 1 = n + 1 ∧ arI .add .i64 i 1 = i + 1 ∧ arI .add .i64 k 1 = k + 1 := by
  obtain ⟨h0, h1, h2, h3, h4, h5⟩ := h
  exact ⟨ar_add64 (by omega) (by omega), ar_add64 (by omega) (by omega), ar_add64 (by omega) (by omega)⟩
theorem mi_left {l more : List Tok} {n i k : Int} {m : Nat} (h : MI l more n i k) (hc : decide (n < (m : Int)) = true) : left m (n + 1) < left m n := by
  obtain ⟨h0, h1, h2, h3, h4, h5⟩ := h
  simp only [decide_eq_true_eq] at hc
  unfold left; omega

/-- Where the second loop stands: what is behind it rises. -/
def RI (l : List Tok) (n : Int) : Prop := 1 ≤ n ∧ (n ≤ l.length ∨ n = 1) ∧ ∀ j : Nat, (j : Int) + 1 < n → (l.getD j default).a < (l.getD (j + 1) default).a
theorem ri_one (l : List Tok) : RI l 1 := ⟨by omega, .inr rfl, fun j hj => by omega⟩
theorem rises_of : ∀ (l : List Tok), (∀ j : Nat, j + 1 < l.length → (l.getD j default).a < (l.getD (j + 1) default).a) → Rises l
  | [], _ => trivial
  | [x], _ => ⟨fun y hy => by simp at hy, trivial⟩
  | x :: y :: r, h => by
    have ih := rises_of (y :: r) fun j hj => by
      have := h (j + 1) (by simp at hj ⊢; omega)
      simpa using this
    have hxy : x.a < y.a := by
      have := h 0 (by simp)
      simpa using this
    refine ⟨fun z hz => ?_, ih⟩
    rcases List.mem_cons.1 hz with rfl | hz
    · exact hxy
    · exact Int.lt_trans hxy (ih.1 z hz)
theorem ri_end {l : List Tok} {n : Int} (h : RI l n) (hc : decide (n < (l.length : Int)) = false) : Rises l := by
  obtain ⟨h0, h1, h2⟩ := h
  simp only [decide_eq_false_iff_not] at hc
  exact rises_of l fun j hj => h2 j (by omega)
theorem ri_in {l : List Tok} {n : Int} (h : RI l n) (hc : decide (n < (l.length : Int)) = true) : 0 ≤ n ∧ n < l.length ∧ 0 ≤ n - 1 ∧ n - 1 < l.length := by
  obtain ⟨h0, h1, h2⟩ := h
  simp only [decide_eq_true_eq] at hc
  omega
theorem ri_step {l : List Tok} {n : Int} (h : RI l n) (hc : decide (n < (l.length : Int)) = true) (he : ¬ (tokAt l n).a ≤ (tokAt l (n - 1)).a) : RI l (n + 1) ∧ left l.length (n + 1) < left l.length n := by
  obtain ⟨h0, h1, h2⟩ := h
  simp only [decide_eq_true_eq] at hc
  refine ⟨⟨by omega, by omega, fun j hj => ?_⟩, by unfold left; omega⟩
  by_cases hjn : (j : Int) + 1 < n
  · exact h2 j hjn
  · have e1 : (n - 1).toNat = j := by omega
    have e2 : n.toNat = j + 1 := by omega
    unfold tokAt at he
    rw [e1, e2] at he
    omega

theorem other_next {ks : List Int} {l : List Tok} {i : Int} (h : At (fun _ => True) l i) (hc : decide (i < (l.length : Int)) = true) :
    otherK ks (l.take (i + 1).toNat) = otherK ks (l.take i.toNat) ++ if kindOf ks (tokAt l i).r = 0 then [] else [tokAt l i] := by
  obtain ⟨hl, h0, h1⟩ := at_lt h hc
  have e : (i + 1).toNat = i.toNat + 1 := by omega
  have hg : tokAt l i = l[i.toNat] := by simp [tokAt, List.getD, hl]
  rw [e, List.take_add_one, otherK, List.filter_append, List.getElem?_eq_getElem hl, hg]
  simp only [otherK, Option.toList_some, List.filter_cons, List.filter_nil]
  congr 1
  by_cases hk : kindOf ks l[i.toNat].r = 0 <;> simp [hk]
theorem other_end {ks : List Int} {l : List Tok} {i : Int} (h : At (fun _ => True) l i) (hc : decide (i < (l.length : Int)) = false) : otherK ks (l.take i.toNat) = otherK ks l := by
  rw [fold_end h hc]
theorem other_len {ks : List Int} {l : List Tok} {i : Int} : (otherK ks (l.take i.toNat)).length ≤ l.length := by
  refine Nat.le_trans (List.length_filter_le _ _) ?_
  rw [List.length_take]; omega
theorem other_len' {ks : List Int} {l : List Tok} : (otherK ks l).length ≤ l.length := List.length_filter_le _ _
end Go.Proofs.Ythilmgpciiopnaa.K
