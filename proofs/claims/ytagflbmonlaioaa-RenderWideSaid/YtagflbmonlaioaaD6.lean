/- Documents as trees, plain: what may be is a tree; where parts begin, how deep they are. -/
import Derived.Test.YtagflbmonlaioaaD5
namespace Go.Proofs.Ytagflbmonlaioaa.D
open Go G U K
set_option linter.unusedVariables false
set_option linter.unusedSimpArgs false
set_option maxRecDepth 100000
inductive Tr where
  | lf (p : PartT)
  | un (p : PartT) (t : Tr)
  | cat (p : PartT) (a b : Tr)
  deriving Inhabited
def Tr.flat : Tr → DocT
  | .lf p => [p]
  | .un p t => t.flat ++ [p]
  | .cat p a b => (a.flat ++ b.flat) ++ [p]
def Tr.ok : Tr → Prop
  | .lf p => partOk p = true ∧ takes p.kind = 0
  | .un p t => partOk p = true ∧ takes p.kind = 1 ∧ t.ok
  | .cat p a b => partOk p = true ∧ takes p.kind = 2 ∧ a.ok ∧ b.ok
def Tr.depth : Tr → Int
  | .lf _ => 1
  | .un _ t => max 0 t.depth + 1
  | .cat _ a b => max (max 0 a.depth) b.depth + 1
def flats (ts : List Tr) : DocT := ts.flatMap Tr.flat
theorem flats_append (a b : List Tr) : flats (a ++ b) = flats a ++ flats b := List.flatMap_append
theorem flats_one (t : Tr) : flats [t] = t.flat := by simp [flats]
def mkT (p : PartT) : List Tr → Tr
  | [] => .lf p
  | [t] => .un p t
  | a :: b :: _ => .cat p a b
/-- Of a stack of trees those that a part takes. -/
def restT (ts : List Tr) (k : Nat) : List Tr := ts.take (ts.length - k)
def popT (ts : List Tr) (k : Nat) : List Tr := ts.drop (ts.length - k)
def pushT (ts : List Tr) (p : PartT) : List Tr := restT ts (takes p.kind).toNat ++ [mkT p (popT ts (takes p.kind).toNat)]
theorem push_spec {ts : List Tr} {p : PartT} (hts : ∀ t ∈ ts, t.ok) (hp : partOk p = true) (hk : takes p.kind ≤ ts.length) :
    (∀ t ∈ pushT ts p, t.ok) ∧ flats (pushT ts p) = flats ts ++ [p] ∧ ((pushT ts p).length : Int) = ts.length + (1 - takes p.kind) ∧ (popT ts (takes p.kind).toNat).length = (takes p.kind).toNat := by
  have h0 := ok_takes hp
  have h2 := (takes_le p.kind).2
  obtain ⟨k, hk2⟩ : ∃ k : Nat, takes p.kind = k := ⟨_, (Int.toNat_of_nonneg h0).symm⟩
  have hk3 : (takes p.kind).toNat = k := by omega
  have hkl : k ≤ ts.length := by omega
  have hpl : (popT ts k).length = k := by unfold popT; rw [List.length_drop]; omega
  have hsplit : restT ts k ++ popT ts k = ts := List.take_append_drop _ _
  have hrl : (restT ts k).length = ts.length - k := by unfold restT; rw [List.length_take]; omega
  have hmem : ∀ t ∈ popT ts k, t.ok := fun t ht => hts t (List.mem_of_mem_drop ht)
  unfold pushT
  rw [hk3]
  have key : (mkT p (popT ts k)).ok ∧ (mkT p (popT ts k)).flat = flats (popT ts k) ++ [p] := by
    generalize popT ts k = ps at hpl hmem
    match ps, hpl with
    | [], hl => exact ⟨⟨hp, by simp at hl; omega⟩, rfl⟩
    | [t], hl => exact ⟨⟨hp, by simp at hl; omega, hmem t (by simp)⟩, by simp [mkT, Tr.flat, flats]⟩
    | [a, b], hl => exact ⟨⟨hp, by simp at hl; omega, hmem a (by simp), hmem b (by simp)⟩, by simp [mkT, Tr.flat, flats]⟩
    | a :: b :: c :: l, hl => simp at hl; omega
  refine ⟨fun t ht => ?_, ?_, ?_, hpl⟩
  · rcases List.mem_append.1 ht with h | h
    · exact hts t (List.mem_of_mem_take h)
    · simp at h; subst h; exact key.1
  · rw [flats_append, flats_one, key.2, ← List.append_assoc, ← flats_append, hsplit]
  · rw [List.length_append, hrl]; simp; omega
theorem parse : ∀ (d : DocT) (ts : List Tr) (m : Int), (∀ t ∈ ts, t.ok) → chk d ts.length = some m → ∃ ts', (∀ t ∈ ts', t.ok) ∧ flats ts' = flats ts ++ d ∧ (ts'.length : Int) = m
  | [], ts, m, hts, h => ⟨ts, hts, by simp, by simpa [chk] using h⟩
  | p :: d, ts, m, hts, h => by
    simp only [chk] at h
    split at h
    · cases h
    · rename_i hc
      simp only [Bool.or_eq_true, Bool.not_eq_true', decide_eq_true_eq, not_or, Bool.not_eq_false] at hc
      obtain ⟨h1, h2, h3, _⟩ := push_spec hts hc.1 (by omega)
      rw [← h3] at h
      obtain ⟨ts', q1, q2, q3⟩ := parse d (pushT ts p) m h1 h
      exact ⟨ts', q1, by rw [q2, h2]; simp, q3⟩
theorem tree_of {d : DocT} (h : checkD d = 0) : ∃ t : Tr, t.ok ∧ t.flat = d := by
  unfold checkD at h
  split at h
  · cases h
  · cases hc : chk d 0 with
    | none => rw [hc] at h; cases h
    | some n =>
      rw [hc] at h
      have hn : n = 1 := by
        by_cases h1 : n = 1
        · exact h1
        · simp [h1] at h
      subst hn
      obtain ⟨ts, h1, h2, h3⟩ := parse d [] 1 (fun t ht => by cases ht) hc
      match ts, h3 with
      | [t], _ => exact ⟨t, h1 t (by simp), by rw [← flats_one, h2]; rfl⟩
      | [], h3 => simp at h3
      | a :: b :: l, h3 => simp at h3; omega
theorem flat_ne (t : Tr) : t.flat ≠ [] := by cases t <;> simp [Tr.flat]
theorem flat_pos (t : Tr) : 0 < t.flat.length := List.length_pos_iff.2 (flat_ne t)
/-! ### Where a part begins, from its end on -/
def back : DocT → Int → Int
  | [], _ => 0
  | p :: r, need => if need - 1 + takes p.kind = 0 then (r.length : Int) else back r (need - 1 + takes p.kind)
def startD (d : DocT) (at_ : Int) : Int := back (d.take (at_ + 1).toNat).reverse 1
theorem back_tree : ∀ (t : Tr) (r : DocT) (need : Int), t.ok → 1 ≤ need → back (t.flat.reverse ++ r) need = if need = 1 then (r.length : Int) else back r (need - 1)
  | .lf p, r, need, h, hn => by
    simp only [Tr.flat, List.reverse_cons, List.reverse_nil, List.nil_append, List.cons_append, back, h.2]
    by_cases h1 : need = 1
    · subst h1; simp
    · rw [if_neg (by omega), if_neg h1]; congr 1; omega
  | .un p t, r, need, h, hn => by
    simp only [Tr.flat, List.reverse_append, List.reverse_cons, List.reverse_nil, List.nil_append, List.cons_append, back, h.2.1]
    rw [if_neg (by omega), show need - 1 + 1 = need by omega]
    exact back_tree t r need h.2.2 hn
  | .cat p a b, r, need, h, hn => by
    simp only [Tr.flat, List.reverse_append, List.reverse_cons, List.reverse_nil, List.nil_append, List.cons_append, back, h.2.1]
    rw [if_neg (by omega), List.append_assoc, back_tree b _ _ h.2.2.2 (by omega), if_neg (by omega), show need - 1 + 2 - 1 = need by omega]
    exact back_tree a r need h.2.2.1 hn
/-- The last tree of a prefix begins behind the others. -/
theorem start_last {d : DocT} {ts : List Tr} {t : Tr} {i : Int} (h0 : 0 ≤ i) (ht : t.ok) (h : flats ts ++ t.flat = d.take (i + 1).toNat) : startD d i = (flats ts).length := by
  unfold startD
  rw [← h, List.reverse_append, back_tree t _ 1 ht (Int.le_refl 1), if_pos rfl, List.length_reverse]
/-! ### Stacks: the places where trees begin, their depths -/
def offs : List Tr → Nat → List Int
  | [], _ => []
  | t :: l, n => (n : Int) :: offs l (n + t.flat.length)
theorem offs_len : ∀ (ts : List Tr) (n : Nat), (offs ts n).length = ts.length
  | [], _ => rfl
  | t :: l, n => by simp [offs, offs_len l]
theorem offs_append : ∀ (a b : List Tr) (n : Nat), offs (a ++ b) n = offs a n ++ offs b (n + (flats a).length)
  | [], b, n => by simp [offs, flats]
  | t :: l, b, n => by
    simp only [List.cons_append, offs, offs_append l b]
    congr 3
    simp only [flats, List.flatMap_cons, List.length_append]; omega
theorem offs_take (ts : List Tr) (k n : Nat) : (offs ts n).take k = offs (ts.take k) n := by
  have h := offs_append (ts.take k) (ts.drop k) n
  rw [List.take_append_drop] at h
  rw [h, List.take_append, List.take_of_length_le (by rw [offs_len, List.length_take]; omega)]
  have : k - (offs (ts.take k) n).length = 0 ∨ offs (ts.drop k) (n + (flats (ts.take k)).length) = [] := by
    rw [offs_len, List.length_take]
    by_cases h : k ≤ ts.length
    · left; omega
    · right; rw [List.drop_eq_nil_of_le (by omega)]; rfl
  rcases this with h | h <;> simp [h]
theorem offs_get {ts : List Tr} {k : Nat} (hk : k < ts.length) : (offs ts 0)[k]? = some ((flats (ts.take k)).length : Int) := by
  have h := offs_append (ts.take k) (ts.drop k) 0
  rw [List.take_append_drop] at h
  rw [h, List.getElem?_append_right (by rw [offs_len, List.length_take]; omega), offs_len, List.length_take, Nat.min_eq_left (by omega), Nat.sub_self]
  cases hd : ts.drop k with
  | nil =>
    have := congrArg List.length hd
    simp at this; omega
  | cons t l => simp [offs]
/-- Where the places stand: a stack of trees is what was read. -/
def StkAt (d : DocT) (i : Int) (ts : List Tr) : Prop := At d i ∧ (∀ t ∈ ts, t.ok) ∧ flats ts = d.take i.toNat ∧ ts = (d.take i.toNat).foldl pushT []
theorem stk_zero (d : DocT) : StkAt d 0 [] := ⟨at_zero d, fun t h => (by cases h), rfl, rfl⟩
/-- Each prefix of what may be is a stack: a part finds what it takes. -/
theorem chk_takes : ∀ {d : DocT} {n m : Int} (i : Nat), chk d n = some m → i < d.length → ∃ k, chk (d.take i) n = some k ∧ partOk (d.getD i default) = true ∧ takes (d.getD i default).kind ≤ k
  | [], n, m, i, h, hi => by simp at hi
  | p :: d, n, m, 0, h, hi => by
    simp only [chk] at h
    split at h
    · cases h
    · rename_i hc
      simp only [Bool.or_eq_true, Bool.not_eq_true', decide_eq_true_eq, not_or, Bool.not_eq_false] at hc
      exact ⟨n, rfl, hc.1, by simpa using hc.2⟩
  | p :: d, n, m, i + 1, h, hi => by
    simp only [chk] at h
    split at h
    · cases h
    · rename_i hc
      obtain ⟨k, h1, h2, h3⟩ := chk_takes i h (by simpa using hi)
      exact ⟨k, by simp only [List.take_succ_cons, chk, hc]; exact h1, h2, h3⟩
theorem chk_flats : ∀ (ts : List Tr) (n : Int), 0 ≤ n → (∀ t ∈ ts, t.ok) → chk (flats ts) n = some (n + ts.length) := by
  have key : ∀ (t : Tr) (n : Int), 0 ≤ n → t.ok → chk t.flat n = some (n + 1) := by
    intro t
    induction t with
    | lf p => intro n hn h; simp only [Tr.flat, chk, h.1, h.2]; rw [if_neg (by simp; omega)]; simp
    | un p t ih =>
      intro n hn h
      simp only [Tr.flat]
      rw [chk_append, ih n hn h.2.2]
      simp only [Option.bind_some, chk, h.1, h.2.1]
      rw [if_neg (by simp; omega)]; simp
    | cat p a b iha ihb =>
      intro n hn h
      simp only [Tr.flat]
      rw [chk_append, chk_append, iha n hn h.2.2.1]
      simp only [Option.bind_some]
      rw [ihb (n + 1) (by omega) h.2.2.2]
      simp only [Option.bind_some, chk, h.1, h.2.1]
      rw [if_neg (by simp; omega)]; simp; omega
  intro ts
  induction ts with
  | nil => intro n _ _; simp [flats, chk]
  | cons t ts ih =>
    intro n hn h
    have e : flats (t :: ts) = t.flat ++ flats ts := by simp [flats]
    rw [e, chk_append, key t n hn (h t (by simp))]
    simp only [Option.bind_some]
    rw [ih (n + 1) (by omega) fun u hu => h u (by simp [hu])]
    simp; omega
theorem stk_step {d : DocT} {i : Int} {ts : List Tr} (hd : checkD d = 0) (h : StkAt d i ts) (hc : decide (i < (d.length : Int)) = true) :
    StkAt d (i + 1) (pushT ts (atI d i)) ∧ 0 ≤ takes (atI d i).kind ∧ takes (atI d i).kind ≤ ts.length ∧ (popT ts (takes (atI d i).kind).toNat).length = (takes (atI d i).kind).toNat ∧
      startD d i = ((flats (restT ts (takes (atI d i).kind).toNat)).length : Int) := by
  obtain ⟨hl, h0, h1⟩ := at_lt h.1 hc
  obtain ⟨_, h2, h3, h4⟩ := h
  have hck : chk d 0 = some 1 := by
    obtain ⟨t, ht, rfl⟩ := tree_of hd
    have := chk_flats [t] 0 (by omega) (fun u hu => by simp at hu; subst hu; exact ht)
    rw [flats_one] at this
    simpa using this
  obtain ⟨k, q1, q2, q3⟩ := chk_takes i.toNat hck hl
  rw [← h3, chk_flats ts 0 (by omega) h2] at q1
  have hk : k = ts.length := by simp at q1; omega
  subst hk
  change partOk (atI d i) = true at q2
  change takes (atI d i).kind ≤ _ at q3
  obtain ⟨r1, r2, r3, r4⟩ := push_spec h2 q2 q3
  have htk : flats (pushT ts (atI d i)) = d.take (i + 1).toNat := by rw [r2, h3, take_next h0 h1]
  refine ⟨⟨(at_step ⟨h0, by omega⟩ hc).1, r1, htk, by rw [take_next h0 h1, List.foldl_append, ← h4]; rfl⟩, ok_takes q2, q3, r4, ?_⟩
  refine start_last (t := mkT (atI d i) (popT ts (takes (atI d i).kind).toNat)) h0 (r1 _ (by unfold pushT; simp)) ?_
  rw [← htk]
  unfold pushT
  rw [flats_append, flats_one]
theorem push_tree : ∀ (t : Tr) (ts : List Tr), t.ok → t.flat.foldl pushT ts = ts ++ [t]
  | .lf p, ts, h => by simp [Tr.flat, pushT, h.2, restT, popT, mkT]
  | .un p t, ts, h => by
    simp only [Tr.flat, List.foldl_append, push_tree t ts h.2.2, List.foldl_cons, List.foldl_nil, pushT, h.2.1]
    simp [restT, popT, mkT]
  | .cat p a b, ts, h => by
    simp only [Tr.flat, List.foldl_append, push_tree a ts h.2.2.1, push_tree b _ h.2.2.2, List.foldl_cons, List.foldl_nil, pushT, h.2.1]
    have e : ts ++ [a] ++ [b] = ts ++ [a, b] := by simp
    rw [e]
    simp [restT, popT, mkT]
theorem tree_check {t : Tr} (ht : t.ok) (hs : t.flat.length ≤ 20000) : checkD t.flat = 0 := by
  rw [check_ok hs]
  have := chk_flats [t] 0 (by omega) (fun u hu => by simp at hu; subst hu; exact ht)
  rw [flats_one] at this
  simpa using this
theorem check_len {d : DocT} (h : checkD d = 0) : d.length ≤ 20000 := by
  unfold checkD at h
  split at h
  · cases h
  · omega
theorem stk_end {t : Tr} {i : Int} {ts : List Tr} (ht : t.ok) (h : StkAt t.flat i ts) (hc : decide (i < (t.flat.length : Int)) = false) : ts = [t] := by
  obtain ⟨hi, _, _, h4⟩ := h
  rw [take_end hi hc, push_tree t [] ht] at h4
  exact h4
end Go.Proofs.Ytagflbmonlaioaa.D
