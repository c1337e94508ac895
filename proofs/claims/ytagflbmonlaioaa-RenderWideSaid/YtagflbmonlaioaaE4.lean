/- All ways, plain: the choices that are asked for, in their order; each text once. -/
import Derived.Test.YtagflbmonlaioaaE3
namespace Go.Proofs.Ytagflbmonlaioaa.D
open Go G U K
set_option linter.unusedVariables false
set_option linter.unusedSimpArgs false
set_option maxRecDepth 100000
/-! ### What choices are looked at -/
theorem byT_same {ch ch' : List Bool} : ∀ (t : Tr) (n : Int) (fl : Bool) (u : Int), (∀ i, u ≤ i → i < (byT ch t n fl u).2 → chosen ch' i = chosen ch i) → byT ch' t n fl u = byT ch t n fl u
  | .lf p, n, fl, u, h => rfl
  | .un p t, n, fl, u, h => by
    simp only [byT] at h ⊢
    split
    · rename_i h5
      rw [if_pos h5] at h
      exact byT_same t _ _ _ h
    · rename_i h5
      rw [if_neg h5] at h
      split
      · rename_i hf
        rw [if_pos hf] at h
        exact byT_same t _ _ _ h
      · rename_i hf
        rw [if_neg hf] at h
        have hu := (byT_used ch t n (chosen ch u) (u + 1)).1
        have e : chosen ch' u = chosen ch u := h u (Int.le_refl u) (by omega)
        rw [e]
        exact byT_same t _ _ _ fun i h1 h2 => h i (by omega) h2
  | .cat p a b, n, fl, u, h => by
    simp only [byT] at h ⊢
    have h1 := byT_used ch a n fl u
    have h2 := byT_used ch b n fl (byT ch a n fl u).2
    have ea := byT_same (ch := ch) (ch' := ch') a n fl u fun i q1 q2 => h i q1 (by omega)
    rw [ea, byT_same (ch := ch) (ch' := ch') b n fl _ fun i q1 q2 => h i (by omega) q2]
def groupsT : Tr → Nat
  | .lf _ => 0
  | .un p t => groupsT t + (if p.kind = 6 then 1 else 0)
  | .cat _ a b => groupsT a + groupsT b
theorem byT_groups (ch : List Bool) : ∀ (t : Tr), t.ok → ∀ (n : Int) (fl : Bool) (u : Int), (byT ch t n fl u).2 ≤ u + groupsT t
  | .lf p, ht, n, fl, u => by
    simp only [byT, groupsT]
    repeat' split
    all_goals exact (show u ≤ _ by omega)
  | .un p t, ht, n, fl, u => by
    simp only [byT, groupsT]
    rcases t1 ht.2.1 with h | h
    · rw [if_pos h]
      have := byT_groups ch t ht.2.2 (n + p.n) fl u
      split <;> omega
    · rw [if_neg (by omega), if_pos h]
      split
      · have := byT_groups ch t ht.2.2 n true u; omega
      · have := byT_groups ch t ht.2.2 n (chosen ch u) (u + 1); omega
  | .cat p a b, ht, n, fl, u => by
    simp only [byT, groupsT]
    have h1 := byT_groups ch a ht.2.2.1 n fl u
    have h2 := byT_groups ch b ht.2.2.2 n fl (byT ch a n fl u).2
    omega
def kindCount (d : DocT) : Nat := (d.filter fun p => decide (p.kind = 6)).length
theorem groups_count : ∀ (t : Tr), t.ok → groupsT t = kindCount t.flat
  | .lf p, ht => by
    have : ¬ p.kind = 6 := by intro h; have := ht.2; rw [h] at this; simp [takes] at this
    simp [groupsT, kindCount, Tr.flat, this]
  | .un p t, ht => by
    have ih := groups_count t ht.2.2
    unfold kindCount at ih
    simp only [groupsT, kindCount, Tr.flat, List.filter_append, List.length_append, ih]
    by_cases h : p.kind = 6 <;> simp [h]
  | .cat p a b, ht => by
    have iha := groups_count a ht.2.2.1
    have ihb := groups_count b ht.2.2.2
    unfold kindCount at iha ihb
    have : ¬ p.kind = 6 := by intro h; have := ht.2.1; rw [h] at this; simp [takes] at this
    simp only [groupsT, kindCount, Tr.flat, List.filter_append, List.length_append, iha, ihb]
    simp [this]
section
variable (t : Tr)
def run (ch : List Bool) : List UInt8 × Int := byT ch t 0 false 0
def Tight (ch : List Bool) : Prop := (ch.length : Int) ≤ (run t ch).2
variable {t}
theorem run_take {ch ch' : List Bool} (h : ∀ i, 0 ≤ i → i < (run t ch).2 → chosen ch' i = chosen ch i) : run t ch' = run t ch := byT_same t 0 false 0 h
theorem chosen_app {ch : List Bool} {b : Bool} {i : Int} (h : i < ch.length) : chosen (ch ++ [b]) i = chosen ch i := by
  unfold chosen
  by_cases h0 : 0 ≤ i
  · rw [if_pos ⟨h0, by simp; omega⟩, if_pos ⟨h0, h⟩]
    have : i.toNat < ch.length := by omega
    simp [atI, List.getD, List.getElem?_append_left this]
  · rw [if_neg (fun h => h0 h.1), if_neg (fun h => h0 h.1)]
theorem tight_nil : Tight t [] := (byT_used [] t 0 false 0).1
theorem tight_app {ch : List Bool} (b : Bool) (h : (ch.length : Int) < (run t ch).2) : Tight t (ch ++ [b]) := by
  unfold Tight
  rcases Int.lt_or_le (ch.length : Int) (run t (ch ++ [b])).2 with h1 | h1
  · simp; omega
  · have := run_take (t := t) (ch := ch ++ [b]) (ch' := ch) fun i _ h3 => (chosen_app (by omega)).symm
    rw [this] at h
    omega
theorem tight_le (ht : t.ok) {ch : List Bool} (h : Tight t ch) : ch.length ≤ groupsT t := by
  have := byT_groups ch t ht 0 false 0
  unfold Tight run at h
  omega
variable (t)
def lv : Nat → List Bool → List (List Bool)
  | 0, ch => [ch]
  | f + 1, ch => if (run t ch).2 ≤ ch.length then [ch] else lv f (ch ++ [true]) ++ lv f (ch ++ [false])
def LV (ch : List Bool) : List (List Bool) := lv t (groupsT t - ch.length) ch
variable {t}
theorem LV_done {ch : List Bool} (h : (run t ch).2 ≤ ch.length) : LV t ch = [ch] := by
  unfold LV
  cases groupsT t - ch.length with
  | zero => rfl
  | succ f => simp only [lv, if_pos h]
theorem LV_more (ht : t.ok) {ch : List Bool} (hT : Tight t ch) (h : ¬ (run t ch).2 ≤ ch.length) : LV t ch = LV t (ch ++ [true]) ++ LV t (ch ++ [false]) := by
  have h1 := byT_groups ch t ht 0 false 0
  have h2 : ch.length < groupsT t := by unfold run at h; omega
  unfold LV
  obtain ⟨f, hf⟩ : ∃ f, groupsT t - ch.length = f + 1 := ⟨groupsT t - ch.length - 1, by omega⟩
  have e : ∀ b : Bool, groupsT t - (ch ++ [b]).length = f := fun b => by simp; omega
  rw [hf, e, e]
  simp only [lv, if_neg h]
theorem lv_len : ∀ (f : Nat) (ch : List Bool), (lv t f ch).length ≤ 2 ^ f
  | 0, ch => by simp [lv]
  | f + 1, ch => by
    simp only [lv]
    split
    · simp; exact Nat.one_le_two_pow
    · have h1 := lv_len f (ch ++ [true])
      have h2 := lv_len f (ch ++ [false])
      rw [List.length_append, Nat.pow_succ]; omega
theorem LV_len (hg : groupsT t ≤ 7) (ch : List Bool) : (LV t ch).length ≤ 128 := by
  refine Nat.le_trans (lv_len _ ch) ?_
  exact Nat.le_trans (Nat.pow_le_pow_right (by decide) (show groupsT t - ch.length ≤ 7 by omega)) (by decide)
variable (t)
/-- What comes behind some choices, from the last one on (the row backward). -/
def afterR : List Bool → List (List Bool)
  | [] => []
  | true :: r => LV t (r.reverse ++ [false]) ++ afterR r
  | false :: r => afterR r
def after (ch : List Bool) : List (List Bool) := afterR t ch.reverse
variable {t}
theorem after_nil : after t [] = [] := rfl
theorem after_true (ch : List Bool) : after t (ch ++ [true]) = LV t (ch ++ [false]) ++ after t ch := by
  unfold after
  rw [List.reverse_append]
  simp [afterR]
theorem after_false (ch : List Bool) : after t (ch ++ [false]) = after t ch := by
  unfold after
  rw [List.reverse_append]
  simp [afterR]
end
/-! ### Each once -/
def stepN (o : List ByteArray) (s : ByteArray) : List ByteArray := if o.contains s = true then o else o ++ [s]
def mergeN (o l : List ByteArray) : List ByteArray := l.foldl stepN o
def nub (l : List ByteArray) : List ByteArray := mergeN [] l
theorem ba_con {o : List ByteArray} {s : ByteArray} : o.contains s = true ↔ s ∈ o := by
  induction o with
  | nil => simp
  | cons a o ih =>
    rw [List.contains_cons, Bool.or_eq_true, ih, ba_beq, List.mem_cons]
theorem mem_step {o : List ByteArray} {s x : ByteArray} : x ∈ stepN o s ↔ x ∈ o ∨ x = s := by
  unfold stepN
  split
  · rename_i h
    have := ba_con.1 h
    constructor
    · exact .inl
    · rintro (h | rfl)
      · exact h
      · exact this
  · simp
theorem mem_merge : ∀ {l o : List ByteArray} {x : ByteArray}, x ∈ mergeN o l ↔ x ∈ o ∨ x ∈ l
  | [], o, x => by simp [mergeN]
  | s :: l, o, x => by
    show x ∈ mergeN (stepN o s) l ↔ _
    rw [mem_merge, mem_step]
    simp [or_assoc]
theorem merge_append (o a b : List ByteArray) : mergeN o (a ++ b) = mergeN (mergeN o a) b := List.foldl_append
theorem rev_ind {α : Type} {Q : List α → Prop} (h0 : Q []) (h1 : ∀ l a, Q l → Q (l ++ [a])) (l : List α) : Q l := by
  have : ∀ l : List α, Q l.reverse := by
    intro l
    induction l with
    | nil => exact h0
    | cons a l ih => rw [List.reverse_cons]; exact h1 _ _ ih
  have := this l.reverse
  rwa [List.reverse_reverse] at this
theorem merge_nub (o b : List ByteArray) : mergeN o (nub b) = mergeN o b := by
  refine rev_ind (Q := fun b => mergeN o (nub b) = mergeN o b) rfl (fun b x ih => ?_) b
  have e : nub (b ++ [x]) = stepN (nub b) x := merge_append [] b [x]
  have e2 : mergeN o (b ++ [x]) = stepN (mergeN o b) x := merge_append o b [x]
  rw [e, e2]
  unfold stepN
  by_cases h : (nub b).contains x = true
  · have h2 : x ∈ mergeN o b := mem_merge.2 (.inr (by
      have := ba_con.1 h
      rcases mem_merge.1 this with h | h
      · cases h
      · exact h))
    rw [if_pos h, if_pos (ba_con.2 h2), ih]
  · rw [if_neg h, merge_append, ih]; rfl
theorem nub_append (a b : List ByteArray) : nub (a ++ b) = mergeN (nub a) (nub b) := by
  rw [merge_nub]; exact merge_append [] a b
theorem step_len (o : List ByteArray) (s : ByteArray) : o.length ≤ (stepN o s).length ∧ (stepN o s).length ≤ o.length + 1 := by
  unfold stepN
  split <;> simp
theorem merge_len : ∀ (l o : List ByteArray), (mergeN o l).length ≤ o.length + l.length
  | [], o => by simp [mergeN]
  | s :: l, o => by
    have h1 := merge_len l (stepN o s)
    have h2 := (step_len o s).2
    show (mergeN (stepN o s) l).length ≤ _
    rw [List.length_cons]; omega
theorem merge_prefix : ∀ (l o : List ByteArray), ∃ r, mergeN o l = o ++ r
  | [], o => ⟨[], by simp [mergeN]⟩
  | s :: l, o => by
    obtain ⟨r, hr⟩ := merge_prefix l (stepN o s)
    show ∃ r', mergeN (stepN o s) l = o ++ r'
    rw [hr]
    unfold stepN
    split
    · exact ⟨r, rfl⟩
    · exact ⟨s :: r, by simp⟩
/-- The texts of all ways behind some choices. -/
def texts (t : Tr) (ls : List (List Bool)) : List ByteArray := ls.map fun ch => txt (run t ch).1
def allT (t : Tr) (ch : List Bool) : List ByteArray := nub (texts t (LV t ch))
theorem allT_done {t : Tr} {ch : List Bool} (h : (run t ch).2 ≤ ch.length) : allT t ch = [txt (run t ch).1] := by
  unfold allT
  rw [LV_done h]; rfl
theorem allT_more {t : Tr} (ht : t.ok) {ch : List Bool} (hT : Tight t ch) (h : ¬ (run t ch).2 ≤ ch.length) : allT t ch = mergeN (allT t (ch ++ [true])) (allT t (ch ++ [false])) := by
  unfold allT
  rw [LV_more ht hT h, texts, List.map_append]
  exact nub_append _ _
theorem allT_len {t : Tr} (hg : groupsT t ≤ 7) (ch : List Bool) : (allT t ch).length ≤ 128 := by
  have h1 := merge_len (texts t (LV t ch)) []
  have h2 := LV_len hg ch
  unfold texts at h1
  rw [List.length_map] at h1
  unfold allT nub texts
  simp at h1 ⊢; omega
end Go.Proofs.Ytagflbmonlaioaa.D
