/- Render: H10, H11. -/
import Derived.Test.YtagflbmonlaioaaM3
namespace Go.Proofs.Ytagflbmonlaioaa.D
open Go G U K
set_option linter.unusedVariables false
set_option linter.unusedSimpArgs false
set_option maxRecDepth 100000
set_option maxHeartbeats 4000000
/-! ### One of all ways -/
theorem any_way {t : Tr} (ht : t.ok) (ch : List Bool) : ∀ (f : Nat) (c0 : List Bool), Tight t c0 → groupsT t - c0.length = f → (∀ i : Int, 0 ≤ i → i < c0.length → chosen c0 i = chosen ch i) → ∃ c ∈ LV t c0, run t c = run t ch := by
  intro f
  induction f with
  | zero =>
    intro c0 hT hf hc
    by_cases h : (run t c0).2 ≤ c0.length
    · refine ⟨c0, by rw [LV_done h]; simp, ?_⟩
      exact (run_take (t := t) (ch := c0) (ch' := ch) fun i h0 h1 => (hc i h0 (by omega)).symm).symm
    · have := tight_le ht (tight_app (t := t) true (by omega : (c0.length : Int) < (run t c0).2))
      simp only [List.length_append, List.length_cons, List.length_nil] at this
      omega
  | succ f ih =>
    intro c0 hT hf hc
    by_cases h : (run t c0).2 ≤ c0.length
    · refine ⟨c0, by rw [LV_done h]; simp, ?_⟩
      exact (run_take (t := t) (ch := c0) (ch' := ch) fun i h0 h1 => (hc i h0 (by omega)).symm).symm
    · have hl : (c0.length : Int) < (run t c0).2 := by omega
      obtain ⟨c, hc1, hc2⟩ := ih (c0 ++ [chosen ch c0.length]) (tight_app _ hl) (by simp only [List.length_append, List.length_cons, List.length_nil]; omega) (fun i h0 h1 => by
        simp only [List.length_append, List.length_cons, List.length_nil] at h1
        by_cases hi : i < c0.length
        · rw [chosen_app hi]; exact hc i h0 hi
        · have e : i = (c0.length : Int) := by omega
          subst e
          generalize chosen ch (c0.length : Int) = bb
          unfold chosen
          rw [if_pos ⟨h0, by simp only [List.length_append, List.length_cons, List.length_nil]; omega⟩]
          simp [atI, List.getD])
      refine ⟨c, ?_, hc2⟩
      rw [LV_more ht hT h]
      cases hb : chosen ch c0.length
      · rw [hb] at hc1; exact List.mem_append.2 (.inr hc1)
      · rw [hb] at hc1; exact List.mem_append.2 (.inl hc1)
theorem any_text {t : Tr} (ht : t.ok) (ch : List Bool) : txt (run t ch).1 ∈ allT t [] := by
  obtain ⟨c, h1, h2⟩ := any_way ht ch _ [] tight_nil rfl (fun i h0 h1 => by simp only [List.length_nil] at h1; omega)
  unfold allT nub
  rw [mem_merge]
  refine .inr (List.mem_map.2 ⟨c, h1, by rw [h2]⟩)
def chT (w : Int) : Tr → Int → Bool → DocT → List UInt8 → List Bool
  | .lf _, _, _, _, _ => []
  | .un p t, n, fl, rest, bs => if p.kind = 5 then chT w t (n + p.n) fl rest bs else if fl = true then chT w t n true rest bs else fitsT w t rest (colB bs) :: chT w t n (fitsT w t rest (colB bs)) rest bs
  | .cat _ a b, n, fl, rest, bs => chT w a n fl (b.flat ++ rest) bs ++ chT w b n fl rest (layT w a n fl (b.flat ++ rest) bs)
theorem layT_by (w : Int) : ∀ (t : Tr) (n : Int) (fl : Bool) (rest : DocT) (bs : List UInt8) (pre post : List Bool), bs ++ (byT (pre ++ (chT w t n fl rest bs ++ post)) t n fl pre.length).1 = layT w t n fl rest bs ∧ (byT (pre ++ (chT w t n fl rest bs ++ post)) t n fl pre.length).2 = pre.length + (chT w t n fl rest bs).length
  | .lf p, n, fl, rest, bs, pre, post => by
    simp only [byT, layT, chT, emP]
    repeat' split
    all_goals simp
  | .un p t, n, fl, rest, bs, pre, post => by
    simp only [byT, layT, chT]
    by_cases h5 : p.kind = 5
    · simp only [if_pos h5]
      exact layT_by w t (n + p.n) fl rest bs pre post
    · simp only [if_neg h5]
      cases fl
      · simp only [Bool.false_or, Bool.false_eq_true, if_false]
        have ih := layT_by w t n (fitsT w t rest (colB bs)) rest bs (pre ++ [fitsT w t rest (colB bs)]) post
        have e : pre ++ (fitsT w t rest (colB bs) :: chT w t n (fitsT w t rest (colB bs)) rest bs ++ post) = pre ++ [fitsT w t rest (colB bs)] ++ (chT w t n (fitsT w t rest (colB bs)) rest bs ++ post) := by simp
        have hc : chosen (pre ++ (fitsT w t rest (colB bs) :: chT w t n (fitsT w t rest (colB bs)) rest bs ++ post)) pre.length = fitsT w t rest (colB bs) := by
          unfold chosen
          rw [if_pos ⟨by omega, by simp only [List.length_append, List.length_cons]; omega⟩]
          simp [atI, List.getD]
        rw [hc, e]
        have e2 : ((pre ++ [fitsT w t rest (colB bs)]).length : Int) = (pre.length : Int) + 1 := by simp
        rw [e2] at ih
        refine ⟨ih.1, ih.2.trans ?_⟩
        simp only [List.length_cons]; omega
      · simp only [Bool.true_or, if_true]
        exact layT_by w t n true rest bs pre post
  | .cat p a b, n, fl, rest, bs, pre, post => by
    simp only [byT, layT, chT]
    have iha := layT_by w a n fl (b.flat ++ rest) bs pre (chT w b n fl rest (layT w a n fl (b.flat ++ rest) bs) ++ post)
    have ihb := layT_by w b n fl rest (layT w a n fl (b.flat ++ rest) bs) (pre ++ chT w a n fl (b.flat ++ rest) bs) post
    generalize chT w b n fl rest (layT w a n fl (b.flat ++ rest) bs) = cb at iha ihb ⊢
    generalize chT w a n fl (b.flat ++ rest) bs = ca at iha ihb ⊢
    have e : pre ++ (ca ++ cb ++ post) = pre ++ (ca ++ (cb ++ post)) := by simp
    have e2 : pre ++ ca ++ (cb ++ post) = pre ++ (ca ++ (cb ++ post)) := by simp
    rw [e2] at ihb
    rw [e]
    rw [iha.2]
    have e3 : ((pre ++ ca).length : Int) = (pre.length : Int) + ca.length := by simp
    rw [e3] at ihb
    refine ⟨?_, ?_⟩
    · rw [← List.append_assoc, iha.1]; exact ihb.1
    · rw [ihb.2]; simp only [List.length_append]; omega
theorem rend_run (w : Int) (t : Tr) : ∃ ch, layT w t 0 false [] [] = (run t ch).1 := by
  have := (layT_by w t 0 false [] [] [] []).1
  exact ⟨_, this.symm⟩
/-! ### Narrow enough -/
def stepC (c : Int) (b : UInt8) : Int := if b = 10 then 0 else c + 1
def colF (c : Int) (bs : List UInt8) : Int := bs.foldl stepC c
theorem colB_eq (a b : List UInt8) : colB (a ++ b) = colF (colB a) b := colB_app a b
theorem colF_app (c : Int) (a b : List UInt8) : colF c (a ++ b) = colF (colF c a) b := List.foldl_append
def okW (m : Int) : Int → List UInt8 → Prop
  | c, [] => c ≤ m
  | c, b :: bs => c ≤ m ∧ okW m (stepC c b) bs
theorem okW_head {m : Int} : ∀ {bs : List UInt8} {c : Int}, okW m c bs → c ≤ m
  | [], c, h => h
  | b :: bs, c, h => h.1
theorem okW_app {m : Int} : ∀ {a b : List UInt8} {c : Int}, okW m c (a ++ b) ↔ okW m c a ∧ okW m (colF c a) b
  | [], b, c => ⟨fun h => ⟨okW_head h, h⟩, fun h => h.2⟩
  | x :: a, b, c => by
    simp only [List.cons_append, okW, okW_app (a := a), colF, List.foldl_cons]
    exact ⟨fun ⟨h1, h2, h3⟩ => ⟨⟨h1, h2⟩, h3⟩, fun ⟨⟨h1, h2⟩, h3⟩ => ⟨h1, h2, h3⟩⟩
theorem stepC_bd (c : Int) (b : UInt8) (h : 0 ≤ c) : 0 ≤ stepC c b ∧ stepC c b ≤ c + 1 := by
  unfold stepC; split <;> omega
theorem colF_nn : ∀ (bs : List UInt8) {c : Int}, 0 ≤ c → 0 ≤ colF c bs
  | [], c, h => h
  | b :: bs, c, h => colF_nn bs (stepC_bd c b h).1
theorem okW_len {m : Int} : ∀ (bs : List UInt8) {c : Int}, 0 ≤ c → c + bs.length ≤ m → okW m c bs
  | [], c, h0, h => by simp only [List.length_nil] at h; unfold okW; omega
  | b :: bs, c, h0, h => by
    simp only [List.length_cons] at h
    have := stepC_bd c b h0
    exact ⟨by omega, okW_len bs this.1 (by omega)⟩
/-- All lines broken. -/
def brT : Tr → Int → List UInt8
  | .lf p, n => emP p n false
  | .un p t, n => if p.kind = 5 then brT t (n + p.n) else brT t n
  | .cat _ a b, n => brT a n ++ brT b n
theorem byT_br : ∀ (t : Tr) (n u : Int), (byT [] t n false u).1 = brT t n
  | .lf p, n, u => by
    simp only [byT, brT, emP]
    repeat' split
    all_goals first | rfl | (rename_i h; cases h)
  | .un p t, n, u => by
    simp only [byT, brT]
    have : chosen [] u = false := by unfold chosen; rw [if_neg (by simp only [List.length_nil]; omega)]
    split
    · exact byT_br t _ u
    · rw [if_neg (by decide), this]; exact byT_br t n (u + 1)
  | .cat p a b, n, u => by
    simp only [byT, brT]
    rw [byT_br a n u, byT_br b n _]
/-- The text ahead of the next place for a new line. -/
def leadX : DocT → List UInt8
  | [] => []
  | p :: d => if p.kind = 0 then bts p.text ++ leadX d else if isBr p.kind = true then [] else leadX d
theorem leadX_len : ∀ d : DocT, ((leadX d).length : Int) = (leadD d).1
  | [] => rfl
  | p :: d => by
    simp only [leadX, leadD]
    split
    · rw [List.length_append, bts_len, Int.natCast_add, leadX_len d]
    · split
      · rfl
      · exact leadX_len d
def Rel (rest : DocT) (R : List UInt8) : Prop := ∃ R', R = leadX rest ++ R'
theorem leadX_thin {p : PartT} (h0 : p.kind ≠ 0) (hb : isBr p.kind = false) (d : DocT) : leadX (p :: d) = leadX d := by
  simp only [leadX]; rw [if_neg h0, hb]; rfl
theorem thin5 {k : Int} (h : k = 4 ∨ k = 5 ∨ k = 6 ∨ k = 7) : k ≠ 0 ∧ isBr k = false := by
  rcases h with rfl | rfl | rfl | rfl <;> exact ⟨by decide, by decide⟩
theorem rel_tree : ∀ (t : Tr), t.ok → ∀ (n : Int) (rest : DocT) (R : List UInt8), Rel rest R → Rel (t.flat ++ rest) (brT t n ++ R)
  | .lf p, ht, n, rest, R, h => by
    obtain ⟨R', rfl⟩ := h
    simp only [Tr.flat, List.cons_append, List.nil_append, brT]
    rcases t0 ht.2 with h | h | h | h | h
    · refine ⟨R', ?_⟩
      simp [leadX, emP, h]
    · exact ⟨_, by simp [leadX, isBr, h]; rfl⟩
    · exact ⟨_, by simp [leadX, isBr, h]; rfl⟩
    · exact ⟨_, by simp [leadX, isBr, h]; rfl⟩
    · obtain ⟨a1, a2⟩ := thin5 (k := p.kind) (by omega)
      refine ⟨R', ?_⟩
      rw [leadX_thin a1 a2]
      simp [emP, h]
  | .un p t, ht, n, rest, R, h => by
    obtain ⟨a1, a2⟩ := thin5 (k := p.kind) (by rcases t1 ht.2.1 with h | h <;> omega)
    have h2 : Rel (p :: rest) R := by
      obtain ⟨R', rfl⟩ := h
      exact ⟨R', by rw [leadX_thin a1 a2]⟩
    have e : (Tr.un p t).flat ++ rest = t.flat ++ (p :: rest) := by simp [Tr.flat]
    rw [e]
    simp only [brT]
    split
    · exact rel_tree t ht.2.2 _ _ _ h2
    · exact rel_tree t ht.2.2 _ _ _ h2
  | .cat p a b, ht, n, rest, R, h => by
    obtain ⟨a1, a2⟩ := thin5 (k := p.kind) (by have := t2 ht.2.1; omega)
    have h2 : Rel (p :: rest) R := by
      obtain ⟨R', rfl⟩ := h
      exact ⟨R', by rw [leadX_thin a1 a2]⟩
    have e : (Tr.cat p a b).flat ++ rest = a.flat ++ (b.flat ++ (p :: rest)) := by simp [Tr.flat]
    rw [e]
    simp only [brT]
    rw [List.append_assoc]
    exact rel_tree a ht.2.2.1 n _ _ (rel_tree b ht.2.2.2 n _ _ h2)
theorem leadX_mid {p : PartT} (h0 : p.kind ≠ 0) (hb : isBr p.kind = false) : ∀ (a d : DocT), leadX (a ++ p :: d) = leadX (a ++ d)
  | [], d => leadX_thin h0 hb d
  | q :: a, d => by simp only [List.cons_append, leadX, leadX_mid h0 hb a d]
theorem leadD_mid {p : PartT} (h0 : p.kind ≠ 0) (hb : isBr p.kind = false) (a d : DocT) : leadX ((a ++ [p]) ++ d) = leadX (a ++ d) := by
  rw [List.append_assoc]; exact leadX_mid h0 hb a d
/-- In one line, a tree is its text. -/
theorem flat_lay (w : Int) : ∀ (t : Tr), t.ok → ∀ (n : Int) (rest : DocT) (bs fb : List UInt8), flatD t.flat = some fb → layT w t n true rest bs = bs ++ fb
  | .lf p, ht, n, rest, bs, fb, h => by
    simp only [Tr.flat, flatD] at h
    simp only [layT]
    rcases t0 ht.2 with h1 | h1 | h1 | h1 | h1
    all_goals
      simp [flatP, h1] at h
    · subst h; simp [emP, h1]
    · subst h; simp [emP, h1]
    · subst h; simp [emP, h1]
    · subst h; simp [emP, h1]
  | .un p t, ht, n, rest, bs, fb, h => by
    have hp : flatP p = some [] := by rcases t1 ht.2.1 with h | h <;> simp [flatP, h]
    have h2 : flatD t.flat = some fb := by
      simp only [Tr.flat, flatD_append] at h
      cases ho : flatD t.flat with
      | none => rw [ho] at h; cases h
      | some x => rw [ho] at h; simpa [flatD, hp] using h
    simp only [layT, Bool.true_or]
    split
    · exact flat_lay w t ht.2.2 _ rest bs fb h2
    · exact flat_lay w t ht.2.2 _ rest bs fb h2
  | .cat p a b, ht, n, rest, bs, fb, h => by
    have hp : flatP p = some [] := by simp [flatP, t2 ht.2.1]
    simp only [Tr.flat, flatD_append] at h
    cases ho : flatD a.flat with
    | none => rw [ho] at h; cases h
    | some x =>
      cases ho2 : flatD b.flat with
      | none => rw [ho, ho2] at h; cases h
      | some y =>
        rw [ho, ho2] at h
        have h : x ++ y = fb := by simpa [flatD, hp] using h
        simp only [layT]
        rw [flat_lay w a ht.2.2.1 n _ bs x ho, flat_lay w b ht.2.2.2 n rest _ y ho2, ← h, List.append_assoc]
theorem colF_line (c : Int) {n : Int} (h : 0 ≤ n) : colF c (lineB n) = n := by
  unfold lineB colF
  rw [List.foldl_cons]
  have : ∀ (k : Nat) (c : Int), (List.replicate k (32 : UInt8)).foldl stepC c = c + k := fun k c => fold_rep k c
  rw [this]
  unfold stepC
  rw [if_pos rfl]; omega
theorem okW_line {m c n : Int} (hc : c ≤ m) (h0 : 0 ≤ n) (hn : n ≤ m) : okW m c (lineB n) := by
  unfold lineB
  refine ⟨hc, ?_⟩
  unfold stepC
  rw [if_pos rfl]
  exact okW_len _ (Int.le_refl 0) (by rw [List.length_replicate]; omega)
/-- What is laid stays as narrow as all lines broken, or as the width. -/
theorem narrow {w m : Int} (hwm : w ≤ m) : ∀ (t : Tr), t.ok → ∀ (n : Int) (rest : DocT) (bs R : List UInt8) (c' : Int), 0 ≤ n → 0 ≤ c' → Rel rest R → okW m (colB bs) (leadX (t.flat ++ rest)) → okW m c' (brT t n ++ R) → okW m 0 bs →
    okW m (colB (layT w t n false rest bs)) (leadX rest) ∧ okW m 0 (layT w t n false rest bs)
  | .lf p, ht, n, rest, bs, R, c', h0, hc0, hr, hA, hB, hC => by
    simp only [layT]
    have hcb : colF 0 bs = colB bs := rfl
    simp only [Tr.flat, List.cons_append, List.nil_append] at hA
    have key : emP p n false = lineB n → okW m (colB (bs ++ emP p n false)) (leadX rest) ∧ okW m 0 (bs ++ emP p n false) := fun e => by
      simp only [brT] at hB
      rw [e] at hB ⊢
      obtain ⟨_, hB2⟩ := okW_app.1 hB
      rw [colF_line _ h0] at hB2
      obtain ⟨R', rfl⟩ := hr
      have hL := (okW_app.1 hB2).1
      rw [colB_eq, colF_line _ h0]
      exact ⟨hL, okW_app.2 ⟨hC, okW_line (okW_head hA) h0 (okW_head hL)⟩⟩
    rcases t0 ht.2 with h | h | h | h | h
    · have e : emP p n false = bts p.text := by simp [emP, h]
      rw [e]
      have hx : leadX (p :: rest) = bts p.text ++ leadX rest := by simp only [leadX]; rw [if_pos h]
      rw [hx] at hA
      obtain ⟨h1, h2⟩ := okW_app.1 hA
      rw [colB_eq]
      exact ⟨h2, okW_app.2 ⟨hC, h1⟩⟩
    · exact key (by simp [emP, h])
    · exact key (by simp [emP, h])
    · exact key (by simp [emP, h])
    · have e : emP p n false = [] := by simp [emP, h]
      obtain ⟨a1, a2⟩ := thin5 (k := p.kind) (by omega)
      rw [leadX_thin a1 a2] at hA
      rw [e, List.append_nil]
      exact ⟨hA, hC⟩
  | .un p t, ht, n, rest, bs, R, c', h0, hc0, hr, hA, hB, hC => by
    obtain ⟨a1, a2⟩ := thin5 (k := p.kind) (by rcases t1 ht.2.1 with h | h <;> omega)
    simp only [Tr.flat] at hA
    rw [leadD_mid a1 a2] at hA
    simp only [layT]
    rcases t1 ht.2.1 with h | h
    · have := pn_bd ht.1 h
      simp only [brT, if_pos h] at hB
      rw [if_pos h]
      exact narrow hwm t ht.2.2 (n + p.n) rest bs R c' (by omega) hc0 hr hA hB hC
    · have h5 : ¬ p.kind = 5 := by omega
      simp only [brT, if_neg h5] at hB
      rw [if_neg h5, Bool.false_or]
      cases hf : fitsT w t rest (colB bs)
      · exact narrow hwm t ht.2.2 n rest bs R c' h0 hc0 hr hA hB hC
      · unfold fitsT at hf
        cases ho : flatD t.flat with
        | none => rw [ho] at hf; cases hf
        | some fb =>
          rw [ho] at hf
          have hf := of_decide_eq_true hf
          have hcb := (colB_bd bs).1
          rw [flat_lay w t ht.2.2 n rest bs fb ho]
          have hall : okW m (colB bs) (fb ++ leadX rest) := okW_len _ hcb (by rw [List.length_append]; have := leadX_len rest; omega)
          obtain ⟨h1, h2⟩ := okW_app.1 hall
          rw [colB_eq]
          exact ⟨h2, okW_app.2 ⟨hC, h1⟩⟩
  | .cat p a b, ht, n, rest, bs, R, c', h0, hc0, hr, hA, hB, hC => by
    obtain ⟨a1, a2⟩ := thin5 (k := p.kind) (by have := t2 ht.2.1; omega)
    simp only [Tr.flat] at hA
    rw [leadD_mid a1 a2, List.append_assoc] at hA
    simp only [layT]
    simp only [brT] at hB
    rw [List.append_assoc] at hB
    obtain ⟨q1, q2⟩ := narrow hwm a ht.2.2.1 n (b.flat ++ rest) bs (brT b n ++ R) c' h0 hc0 (rel_tree b ht.2.2.2 n _ _ hr) hA hB hC
    exact narrow hwm b ht.2.2.2 n rest (layT w a n false (b.flat ++ rest) bs) R (colF c' (brT a n)) h0 (colF_nn _ hc0) hr q1 (okW_app.1 hB).2 q2
theorem narrow_top {w m : Int} (hwm : w ≤ m) {t : Tr} (ht : t.ok) (h : okW m 0 (brT t 0)) : okW m 0 (layT w t 0 false [] []) := by
  have hr : Rel [] [] := ⟨[], rfl⟩
  obtain ⟨R', hR⟩ := rel_tree t ht 0 [] [] hr
  rw [List.append_nil] at hR
  refine (narrow hwm t ht 0 [] [] [] 0 (by omega) (by omega) hr ?_ (by rw [List.append_nil]; exact h) (by have := okW_head h; unfold okW; omega)).2
  rw [hR] at h
  exact (okW_app.1 h).1
theorem fn55 : Try.prog.funcs[55]? = some Try.f55 := by kernel_rfl
theorem fn13 : Try.prog.funcs[13]? = some Try.f13 := by kernel_rfl
theorem fn14 : Try.prog.funcs[14]? = some Try.f14 := by kernel_rfl
/-! ### The widest line -/
def wideG : List UInt8 → Int → Int → Int
  | [], _, m => m
  | b :: bs, c, m => wideG bs (stepC c b) (max m (stepC c b))
theorem wideG_iff {w : Int} : ∀ (bs : List UInt8) (c m : Int), c ≤ m → (wideG bs c m ≤ w ↔ m ≤ w ∧ okW w c bs)
  | [], c, m, h => by unfold wideG okW; omega
  | b :: bs, c, m, h => by
    unfold wideG
    rw [wideG_iff bs _ _ (by omega), show okW w c (b :: bs) ↔ c ≤ w ∧ okW w (stepC c b) bs from Iff.rfl]
    constructor
    · rintro ⟨h1, h2⟩; exact ⟨by omega, by omega, h2⟩
    · rintro ⟨h1, h2, h3⟩; have := okW_head h3; exact ⟨by omega, h3⟩
def wideB (bs : List UInt8) : Int := wideG bs 0 0
theorem wideB_iff {w : Int} (hw : 0 ≤ w) {bs : List UInt8} : wideB bs ≤ w ↔ okW w 0 bs := by
  unfold wideB
  rw [wideG_iff bs 0 0 (Int.le_refl 0)]
  exact ⟨fun h => h.2, fun h => ⟨hw, h⟩⟩
def WdAt (s : ByteArray) (i c m : Int) : Prop := 0 ≤ i ∧ i ≤ s.size ∧ 0 ≤ c ∧ c ≤ i ∧ wideG ((bts s).drop i.toNat) c m = wideB (bts s)
theorem wdAt_zero (s : ByteArray) : WdAt s 0 0 0 := ⟨by omega, by omega, by omega, by omega, rfl⟩
theorem wdAt_end {s : ByteArray} {i c m : Int} (h : WdAt s i c m) (hc : decide (i < (s.size : Int)) = false) : m = wideB (bts s) := by
  obtain ⟨h0, h1, _, _, h2⟩ := h
  have hc := of_decide_eq_false hc
  rw [List.drop_of_length_le (by rw [bts_len]; omega)] at h2
  exact h2
theorem wdAt_step {s : ByteArray} (hb : s.size ≤ 100000000) {i c m : Int} (h : WdAt s i c m) (hc : decide (i < (s.size : Int)) = true) : ∃ v : Int, evP Try.prog (Instr.index 9 (.string s) (.int .i64 i)) = some (.flat (.int .u8 v)) ∧
    arI .add .i64 c 1 = c + 1 ∧ arI .add .i64 i 1 = i + 1 ∧ (decide (v = 10) = true → WdAt s (i + 1) 0 (max m 0)) ∧ (decide (v = 10) = false → WdAt s (i + 1) (c + 1) (max m (c + 1))) ∧ ((s.size : Int) - (i + 1)).toNat < ((s.size : Int) - i).toNat := by
  obtain ⟨h0, h1, h3, h4, h2⟩ := h
  have hc := of_decide_eq_true hc
  obtain ⟨v, b, q1, q2, _, q3⟩ := str_at h0 hc
  have hd : (bts s).drop i.toNat = b :: (bts s).drop (i + 1).toNat := by
    have hl : i.toNat < (bts s).length := by rw [bts_len]; omega
    have e : (i + 1).toNat = i.toNat + 1 := by omega
    rw [e] at q3 ⊢
    rw [List.take_add_one, List.getElem?_eq_getElem hl] at q3
    have hb2 := List.append_cancel_left q3
    simp only [Option.toList_some, List.cons.injEq, and_true] at hb2
    rw [← hb2]
    exact List.drop_eq_getElem_cons hl
  rw [hd] at h2
  unfold wideG at h2
  refine ⟨v, q1, ar_add64 (by omega) (by omega), ar_add64 (by omega) (by omega), fun e => ?_, fun e => ?_, by omega⟩
  · rw [q2] at e
    unfold stepC at h2
    rw [if_pos (of_decide_eq_true e)] at h2
    exact ⟨by omega, by omega, by omega, by omega, h2⟩
  · rw [q2] at e
    unfold stepC at h2
    rw [if_neg (of_decide_eq_false e)] at h2
    exact ⟨by omega, by omega, by omega, by omega, h2⟩
theorem wide_calls (s : ByteArray) (hb : s.size ≤ 100000000) : ACalls Try.prog 55 [.flat (.string s)] (fun _ => .flat (.int .i64 (wideB (bts s)))) (fun _ => []) := by
  have hz := wdAt_zero s
  have hend0 := fun i c m (h : WdAt s i c m) hc => wdAt_end h hc
  have hstep0 := fun i c m (h : WdAt s i c m) hc => wdAt_step hb h hc
  generalize wideB (bts s) = r at hend0 ⊢
  refine acalls_symF tabF_ok fn55 rfl rfl rfl (by kernel_rfl) ?_
  have hfin : ∀ st, resA Try.prog Try.f55 st = some (.flat (.int .i64 r)) → G.Leaves Try.prog Try.f55 (fun _ => .flat (.int .i64 r)) (fun _ => []) st := fun st h => G.Leaves.plain h rfl
  rintro ⟨lt, le, eq, se, ar, dv, una, conv, len, sln, nat, nth, ixs, cel, sto, app, cpy, slc, mak, ixv, oth, dk, ib, call⟩ hS hm Q hQ
  obtain ⟨hlt, hle, heq, hse, har, hdv, huna, hconv, hlen, hsln, hnat, hnth, hixs, hcel, hsto, happ, hcpy, hslc, hmak, hixv, hoth, hdk, hib, hcall⟩ := Sym.mk.inj hS
  clear hS
  have hnt : ∀ n : Nat, nat n = U.natI n := fun n => by rw [hnat]; rfl
  have hbox : ∀ e c off, cel (some ⟨e, [c]⟩) 0 off = if off ≤ c.length then some (c.drop off) else none := fun e c off => by rw [hcel]; rfl
  have hsbox : ∀ e c off sz y, sto (some ⟨e, [c]⟩) 0 off sz y = if y.cells.length = sz ∧ off + sz ≤ c.length ∧ y.cells.all AV.one = true then some ⟨e, [spl c off y.cells]⟩ else none := fun e c off sz y => by rw [hsto]; rfl
  have hcaw : ∀ {f args T base K}, CallK Try.prog f args T base K → call f args T base K := fun h => by rw [hcall]; exact h
  have hcal : ∀ {f args T base} {K : AV → Table → List Nat → List Nat → Prop}, (∃ args' ids val rows, Hands T ids args args' (val base) (rows base) ∧ ACalls Try.prog f args' val rows ∧ (rows base).length ≤ 8 ∧ K (val base) (adopt T base (rows base)) ids ((List.range (rows base).length).map (base + ·))) → call f args T base K := fun h => hcaw (call_own h)
  have hsz : sln s = (s.size : Int) := by rw [hsln]
  have hstep2 : ∀ i c m, WdAt s i c m → lt i (sln s) = true → _ := fun i c m h h2 => hstep0 i c m h (by rw [hlt, hsz] at h2; exact h2)
  have hend2 : ∀ i c m, WdAt s i c m → lt i (sln s) = false → m = r := fun i c m h h2 => hend0 i c m h (by rw [hlt, hsz] at h2; exact h2)
  clear hend0 hstep0
  have hmx : ∀ (T : Table) (id : Nat) (ρ : Operand → Option AV) (ty : TypeId) (x y : Operand) ts (a b : Int), ρ x = some (.flat (.int .i64 a)) → ρ y = some (.flat (.int .i64 b)) → oth T id ρ ty (.call { callee := .builtin .max, args := #[x, y], argTypes := ts }) = some (.flat (.int .i64 (max a b)), T) := fun T id ρ ty x y ts a b h1 h2 => by
    rw [hoth]; exact oth_max h1 h2
  cbv
  refine MW_loop hm [] [0, 3, 4, 5] 6 (by simp) (fun mz st => ∃ (i x m : Int), WdAt s i x m ∧ mz = ((s.size : Int) - i).toNat ∧ st = stOf [.flat (.string s), .dead, .dead, .flat (.int .i64 x), .flat (.int .i64 m), .flat (.int .i64 i)] [] 0) (((s.size : Int) - 0).toNat) ?_ ?_
  · exact ⟨0, 0, 0, hz, rfl, cut_eq (by cbv) (by rfl)⟩
  rintro mz st ⟨i, x, m, hi, hmz, rfl⟩
  cases hcc : lt i (sln s)
  · obtain rfl := hend2 _ _ _ hi hcc
    cbv
    rw [hcc]; cbv
    exact hQ _ _ trivial (hfin _ (by cbv))
  obtain ⟨v, q1, q2, q3, q4, q5, q6⟩ := hstep2 _ _ _ hi hcc
  have hx : ixv 9 (.flat (.string s)) (.flat (.int .i64 i)) = some (.flat (.int .u8 v)) := by rw [hixv]; exact q1
  rw [← har] at q2 q3
  have e5 : eq v 10 = decide (v = 10) := by rw [heq]
  generalize i + 1 = i2 at q3 q4 q5 q6
  generalize x + 1 = x2 at q2 q5
  generalize hm1 : max m x2 = m1 at q5
  generalize hm0 : max m 0 = m0 at q4
  generalize decide (v = 10) = b at e5 q4 q5
  cases b
  · replace q5 := q5 rfl
    cbv
    rw [hcc]; cbv
    repeat (first | (rw [hbox]; cbv) | (rw [hsbox]; cbv) | (rw [q2]; cbv) | (rw [hx]; cbv) | (rw [e5]; cbv))
    rw [hmx _ _ _ _ _ _ _ _ _ (by rfl) (by rfl), hm1]; cbv
    rw [q3]
    exact ⟨[], [0, 3, 4, 5], 6, ((s.size : Int) - i2).toNat, hmz ▸ q6, by simp, i2, x2, m1, q5, rfl, cut_eq (by cbv) (by rfl)⟩
  replace q4 := q4 rfl
  cbv
  rw [hcc]; cbv
  repeat (first | (rw [hbox]; cbv) | (rw [hsbox]; cbv) | (rw [q2]; cbv) | (rw [hx]; cbv) | (rw [e5]; cbv))
  rw [hmx _ _ _ _ _ _ _ _ _ (by rfl) (by rfl), hm0]; cbv
  rw [q3]
  exact ⟨[], [0, 3, 4, 5], 6, ((s.size : Int) - i2).toNat, hmz ▸ q6, by simp, i2, 0, m0, q4, rfl, cut_eq (by cbv) (by rfl)⟩
theorem wid_u8 {m : Int} (h0 : 0 ≤ m) (h1 : m < 256) : wid m = m := by unfold wid; omega
theorem rend_len {t : Tr} (ht : t.ok) (hs : Small t.flat) (w : Int) : (rendT w t).length ≤ 13320000 := by
  have := layT_len (wid w) t ht hs.2 0 false [] [] (by have := hs.1; omega)
  have h1 := hs.1
  unfold rendT
  simp only [List.length_nil] at this
  omega
theorem best_good {d : DocT} (hf : fewD d = true) (hk : checkD d = 0) {m : Int} (h0 : 0 ≤ m) (h1 : m < 256) : ∃ (s s2 : ByteArray) (u w1 w2 : Int), ACalls Try.prog 45 [.ro (d.map partC), .ro []] (fun _ => .tup [.flat (.string s), .flat (.int .i64 u), .flat (.int .i64 0)]) (fun _ => []) ∧
    ACalls Try.prog 49 [.ro (d.map partC), .flat (.int .i64 m)] (fun _ => .tup [.flat (.string s2), .flat (.int .i64 0)]) (fun _ => []) ∧ ACalls Try.prog 55 [.flat (.string s)] (fun _ => .flat (.int .i64 w1)) (fun _ => []) ∧ ACalls Try.prog 55 [.flat (.string s2)] (fun _ => .flat (.int .i64 w2)) (fun _ => []) ∧ (decide (m < w1) = false → decide (w2 ≤ m) = true) := by
  have hs := few_small hf
  obtain ⟨t, ht, rfl⟩ := tree_of hk
  have hB := by_calls ht hs []
  have hl1 := byT_small [] ht hs false 0
  rw [byT_br] at hl1
  unfold byV at hB
  rw [byT_br] at hB
  have hl2 := rend_len ht hs m
  have hw1 := wide_calls (txt (brT t 0)) (by rw [size_txt]; omega)
  have hw2 := wide_calls (txt (rendT m t)) (by rw [size_txt]; omega)
  rw [bts_txt] at hw1 hw2
  refine ⟨_, _, _, _, _, hB, render_calls ht hs m, hw1, hw2, fun h => decide_eq_true ?_⟩
  have h := of_decide_eq_false h
  rw [wideB_iff h0]
  unfold rendT
  rw [wid_u8 h0 h1]
  exact narrow_top (Int.le_refl m) ht ((wideB_iff h0).1 (by omega))
theorem layBest_calls (d : DocT) (m : Nat) (hmm : m < 256) : ACalls Try.prog 14 [.ro (d.map partC), .flat (.int .u8 (m : Int))] (fun _ => .flat (.bool true)) (fun _ => []) := by
  have hm0 : 0 ≤ (m : Int) := by omega
  have hm1 : (m : Int) < 256 := by omega
  generalize (m : Int) = mi at hm0 hm1 ⊢
  have hcvt := conv_u8 mi hm0 hm1
  have hcA := awakeL_calls
  have hcF := fewD_calls d
  have hcR : fewD d = true → ACalls Try.prog 22 [.ro (d.map partC)] (fun _ => .flat (.int .i64 (checkD d))) (fun _ => []) := fun h => refCheck_calls d (by have := (few_small h).1; omega)
  have hg : fewD d = true → decide (checkD d = 0) = true → _ := fun hf hk => best_good hf (of_decide_eq_true hk) hm0 hm1
  generalize d.map partC = X at hcF hcR hg ⊢
  generalize fewD d = fw at hcF hcR hg
  refine acalls_symF tabF_ok fn14 rfl rfl rfl (by kernel_rfl) ?_
  have hfin : ∀ st, resA Try.prog Try.f14 st = some (.flat (.bool true)) → G.Leaves Try.prog Try.f14 (fun _ => .flat (.bool true)) (fun _ => []) st := fun st h => G.Leaves.plain h rfl
  rintro ⟨lt, le, eq, se, ar, dv, una, conv, len, sln, nat, nth, ixs, cel, sto, app, cpy, slc, mak, ixv, oth, dk, ib, call⟩ hS hm Q hQ
  obtain ⟨hlt, hle, heq, hse, har, hdv, huna, hconv, hlen, hsln, hnat, hnth, hixs, hcel, hsto, happ, hcpy, hslc, hmak, hixv, hoth, hdk, hib, hcall⟩ := Sym.mk.inj hS
  clear hS
  have hnt : ∀ n : Nat, nat n = U.natI n := fun n => by rw [hnat]; rfl
  have hbox : ∀ e c off, cel (some ⟨e, [c]⟩) 0 off = if off ≤ c.length then some (c.drop off) else none := fun e c off => by rw [hcel]; rfl
  have hsbox : ∀ e c off sz y, sto (some ⟨e, [c]⟩) 0 off sz y = if y.cells.length = sz ∧ off + sz ≤ c.length ∧ y.cells.all AV.one = true then some ⟨e, [spl c off y.cells]⟩ else none := fun e c off sz y => by rw [hsto]; rfl
  have hcaw : ∀ {f args T base K}, CallK Try.prog f args T base K → call f args T base K := fun h => by rw [hcall]; exact h
  have hcal : ∀ {f args T base} {K : AV → Table → List Nat → List Nat → Prop}, (∃ args' ids val rows, Hands T ids args args' (val base) (rows base) ∧ ACalls Try.prog f args' val rows ∧ (rows base).length ≤ 8 ∧ K (val base) (adopt T base (rows base)) ids ((List.range (rows base).length).map (base + ·))) → call f args T base K := fun h => hcaw (call_own h)
  have heqr : ∀ v, eq v v = true := fun v => by rw [heq]; exact decide_eq_true rfl
  have hcv2 : ∀ T, conv T 5 3 (.flat (.int .u8 mi)) = some (.flat (.int .i64 mi)) := fun T => by rw [hconv]; exact hcvt
  have e2 : eq (checkD d) 0 = decide (checkD d = 0) := by rw [heq]
  have hlt2 : ∀ a b, lt a b = decide (a < b) := fun a b => by rw [hlt]
  have hle2 : ∀ a b, le a b = decide (a ≤ b) := fun a b => by rw [hle]
  clear hcvt
  generalize decide (checkD d = 0) = b1 at e2 hg
  generalize checkD d = ck at e2 hcR
  cbv
  refine hcal ⟨_, [], _, _, .inl ⟨rfl, by cbv⟩, hcA, by simp, ?_⟩
  cbv
  refine hcal ⟨_, [], _, _, .inl ⟨rfl, by cbv⟩, hcF, by simp, ?_⟩
  cbv
  cases fw
  · cbv
    exact hQ _ _ trivial (hfin _ (by cbv))
  replace hcR := hcR rfl
  cbv
  refine hcal ⟨_, [], _, _, .inl ⟨rfl, by cbv⟩, hcR, by simp, ?_⟩
  cbv
  rw [e2]
  cases b1
  · cbv
    exact hQ _ _ trivial (hfin _ (by cbv))
  obtain ⟨s, s2, u, w1, w2, g1, g2, g3, g4, g5⟩ := hg rfl rfl
  have e5 := hlt2 mi w1
  have e6 := hle2 w2 mi
  generalize decide (mi < w1) = b5 at e5 g5
  generalize decide (w2 ≤ mi) = b6 at e6 g5
  clear hlt2 hle2
  cbv
  refine hcal ⟨[.ro X, .ro []], [], _, _, hands_deep ⟨.id rfl, .nil, trivial⟩ rfl (fun r hr => by cases hr), g1, by simp, ?_⟩
  cbv
  rw [hcv2]; cbv
  refine hcal ⟨_, [], _, _, .inl ⟨rfl, by cbv⟩, g2, by simp, ?_⟩
  cbv
  repeat (first | (rw [heqr]; cbv) | (rw [hcv2]; cbv))
  refine hcal ⟨_, [], _, _, .inl ⟨rfl, by cbv⟩, g3, by simp, ?_⟩
  cbv
  repeat (first | (rw [hcv2]; cbv))
  rw [e5]
  cases b5
  · obtain rfl := g5 rfl
    cbv
    refine hcal ⟨_, [], _, _, .inl ⟨rfl, by cbv⟩, g4, by simp, ?_⟩
    cbv
    repeat (first | (rw [hcv2]; cbv))
    rw [e6]; cbv
    exact hQ _ _ trivial (hfin _ (by cbv))
  cbv
  exact hQ _ _ trivial (hfin _ (by cbv))
/-! ### One of all -/
def memS (l : List ByteArray) (s : ByteArray) : Bool := l.any fun x => x == s
theorem memS_take {l : List ByteArray} {s : ByteArray} {i : Int} (h0 : 0 ≤ i) (h1 : i < l.length) : memS (l.take (i + 1).toNat) s = (memS (l.take i.toNat) s || (atI l i == s)) := by
  rw [take_next h0 h1]
  simp [memS]
theorem memS_mem {l : List ByteArray} {s : ByteArray} (h : s ∈ l) : memS l s = true := by
  unfold memS
  exact List.any_eq_true.2 ⟨s, h, (ba_beq s s).2 rfl⟩
theorem has_good {d : DocT} (hf : fewD d = true) (hk : checkD d = 0) (hg : kindCount d ≤ 7) (m : Int) : ∃ (l : List ByteArray) (n : Nat) (s : ByteArray), n = l.length ∧ l.length ≤ 128 ∧ memS l s = true ∧
    ACalls Try.prog 42 [.ro (d.map partC), .flat (.int .i64 1000)] (fun k => .tup [.sl k 0 n, .flat (.int .i64 0)]) (fun _ => [⟨9, l.map strC⟩]) ∧
    ACalls Try.prog 49 [.ro (d.map partC), .flat (.int .i64 m)] (fun _ => .tup [.flat (.string s), .flat (.int .i64 0)]) (fun _ => []) := by
  have hs := few_small hf
  obtain ⟨t, ht, rfl⟩ := tree_of hk
  have hg2 : groupsT t ≤ 7 := by rw [groups_count t ht]; exact hg
  have hl := allT_len hg2 []
  have e : (allT t []).take (1000 : Int).toNat = allT t [] := List.take_of_length_le (by have : (1000 : Int).toNat = 1000 := rfl; omega)
  have hA := all_calls ht hs hg2 1000 (n := (allT t []).length) (by rw [e])
  rw [e] at hA
  refine ⟨allT t [], _, _, rfl, hl, memS_mem ?_, hA, render_calls ht hs m⟩
  obtain ⟨ch, hch⟩ := rend_run (wid m) t
  unfold rendT
  rw [hch]
  exact any_text ht ch
theorem layHas_calls (d : DocT) (m : Nat) (hmm : m < 256) : ACalls Try.prog 13 [.ro (d.map partC), .flat (.int .u8 (m : Int))] (fun _ => .flat (.bool true)) (fun _ => []) := by
  have hm0 : 0 ≤ (m : Int) := by omega
  have hm1 : (m : Int) < 256 := by omega
  generalize (m : Int) = mi at hm0 hm1 ⊢
  have hcvt := conv_u8 mi hm0 hm1
  have hcA := awakeL_calls
  have hcF := fewD_calls d
  have hcR : fewD d = true → ACalls Try.prog 22 [.ro (d.map partC)] (fun _ => .flat (.int .i64 (checkD d))) (fun _ => []) := fun h => refCheck_calls d (by have := (few_small h).1; omega)
  have hcG : fewD d = true → ACalls Try.prog 41 [.ro (d.map partC)] (fun _ => .flat (.int .i64 (natI (kindCount d)))) (fun _ => []) := fun h => groups_calls d (by have := (few_small h).1; omega)
  have hg : fewD d = true → decide (checkD d = 0) = true → kindCount d ≤ 7 → _ := fun hf hk h7 => has_good hf (of_decide_eq_true hk) h7 mi
  have h7 : decide (7 < natI (kindCount d)) = false → kindCount d ≤ 7 := fun h => by have := of_decide_eq_false h; unfold natI at this; omega
  generalize d.map partC = X at hcF hcR hcG hg ⊢
  generalize natI (kindCount d) = kc at hcG h7
  generalize fewD d = fw at hcF hcR hcG hg
  refine acalls_symF tabF_ok fn13 rfl rfl rfl (by kernel_rfl) ?_
  have hfin : ∀ st, resA Try.prog Try.f13 st = some (.flat (.bool true)) → G.Leaves Try.prog Try.f13 (fun _ => .flat (.bool true)) (fun _ => []) st := fun st h => G.Leaves.plain h rfl
  rintro ⟨lt, le, eq, se, ar, dv, una, conv, len, sln, nat, nth, ixs, cel, sto, app, cpy, slc, mak, ixv, oth, dk, ib, call⟩ hS hm Q hQ
  obtain ⟨hlt, hle, heq, hse, har, hdv, huna, hconv, hlen, hsln, hnat, hnth, hixs, hcel, hsto, happ, hcpy, hslc, hmak, hixv, hoth, hdk, hib, hcall⟩ := Sym.mk.inj hS
  clear hS
  have hnt : ∀ n : Nat, nat n = U.natI n := fun n => by rw [hnat]; rfl
  have hbox : ∀ e c off, cel (some ⟨e, [c]⟩) 0 off = if off ≤ c.length then some (c.drop off) else none := fun e c off => by rw [hcel]; rfl
  have hsbox : ∀ e c off sz y, sto (some ⟨e, [c]⟩) 0 off sz y = if y.cells.length = sz ∧ off + sz ≤ c.length ∧ y.cells.all AV.one = true then some ⟨e, [spl c off y.cells]⟩ else none := fun e c off sz y => by rw [hsto]; rfl
  have hcaw : ∀ {f args T base K}, CallK Try.prog f args T base K → call f args T base K := fun h => by rw [hcall]; exact h
  have hcal : ∀ {f args T base} {K : AV → Table → List Nat → List Nat → Prop}, (∃ args' ids val rows, Hands T ids args args' (val base) (rows base) ∧ ACalls Try.prog f args' val rows ∧ (rows base).length ≤ 8 ∧ K (val base) (adopt T base (rows base)) ids ((List.range (rows base).length).map (base + ·))) → call f args T base K := fun h => hcaw (call_own h)
  have heqr : ∀ v, eq v v = true := fun v => by rw [heq]; exact decide_eq_true rfl
  have hcv2 : ∀ T, conv T 5 3 (.flat (.int .u8 mi)) = some (.flat (.int .i64 mi)) := fun T => by rw [hconv]; exact hcvt
  have e2 : eq (checkD d) 0 = decide (checkD d = 0) := by rw [heq]
  have e7 : lt 7 kc = decide (7 < kc) := by rw [hlt]
  clear hcvt
  generalize decide (7 < kc) = b7 at e7 h7
  generalize decide (checkD d = 0) = b1 at e2 hg
  generalize checkD d = ck at e2 hcR
  cbv
  refine hcal ⟨_, [], _, _, .inl ⟨rfl, by cbv⟩, hcA, by simp, ?_⟩
  cbv
  refine hcal ⟨_, [], _, _, .inl ⟨rfl, by cbv⟩, hcF, by simp, ?_⟩
  cbv
  cases fw
  · cbv
    exact hQ _ _ trivial (hfin _ (by cbv))
  replace hcR := hcR rfl
  replace hcG := hcG rfl
  replace hg := hg rfl
  cbv
  refine hcal ⟨_, [], _, _, .inl ⟨rfl, by cbv⟩, hcG, by simp, ?_⟩
  cbv
  rw [e7]
  cases b7
  rotate_left
  · cbv
    exact hQ _ _ trivial (hfin _ (by cbv))
  cbv
  refine hcal ⟨_, [], _, _, .inl ⟨rfl, by cbv⟩, hcR, by simp, ?_⟩
  cbv
  rw [e2]
  cases b1
  · cbv
    exact hQ _ _ trivial (hfin _ (by cbv))
  obtain ⟨l, n, s, hn, hll, hany, g1, g2⟩ := hg rfl (h7 rfl)
  clear hg h7
  obtain ⟨R, hR⟩ : ∃ R, R = l.map strC := ⟨_, rfl⟩
  rw [← hR] at g1
  have hRcl := closed_str hR
  have hend : ∀ (i : Int) (b : Bool), At l i → b = memS (l.take i.toNat) s → lt i (nat n) = false → b = true := fun i b hi hb hc => by
    rw [hlt, hnt, hn] at hc
    rw [hb, take_end hi hc, hany]
  have hstep : ∀ (i : Int) (b : Bool), At l i → b = memS (l.take i.toNat) s → lt i (nat n) = true → (∀ id, ixs (some ⟨9, R⟩) id 0 n i 1 = some (.ptr id i.toNat 0)) ∧ cel (some ⟨9, R⟩) i.toNat 0 = some (strC (atI l i)) ∧ ar .add .i64 i 1 = i + 1 ∧ At l (i + 1) ∧ se (atI l i) s = (atI l i == s) ∧ (b || (atI l i == s)) = memS (l.take (i + 1).toNat) s ∧ (n - (i + 1).toNat) < (n - i.toNat) := fun i b hi hb hc => by
    rw [hlt, hnt, hn] at hc
    obtain ⟨_, h0, h1⟩ := at_lt hi hc
    refine ⟨fun id => by rw [hixs]; exact own_ix c9 h0 (by rw [hn]; exact h1) id, ?_, by rw [har, ar_add64 (by omega) (by omega)], (at_step hi hc).1, by rw [hse]; exact se_eq _ _, by rw [hb, memS_take h0 h1], by omega⟩
    rw [hcel, hR, own_cel (get_map h0 h1) (Nat.zero_le _)]; rfl
  have hz := at_zero l
  have hb0 : false = memS (l.take (0 : Int).toNat) s := rfl
  cbv
  refine hcal ⟨_, [], _, _, .inl ⟨rfl, by cbv⟩, g1, by simp, ?_⟩
  cbv
  rw [hcv2]; cbv
  refine hcal ⟨_, [], _, _, .inl ⟨rfl, by cbv⟩, g2, by simp, ?_⟩
  cbv
  refine MW_loop hm [136] [5, 6, 7, 8, 9, 10] 11 (by simp) (fun mz st => ∃ (i : Int) (b : Bool), At l i ∧ b = memS (l.take i.toNat) s ∧ mz = n - i.toNat ∧ st = stOf [.dead, .dead, .dead, .dead, .dead, .sl 0 0 n, .flat (.int .i64 0), .flat (.string s), .flat (.int .i64 0), .flat (.bool b), .flat (.int .i64 i)] [some ⟨9, R⟩] 1) (n - (0 : Int).toNat) ?_ ?_
  · exact ⟨0, false, hz, hb0, rfl, cut_eq (by cbv) (cutRows_cons (by rfl) (hRcl) rfl)⟩
  rintro mz st ⟨i, b, hi, hb, hmz, rfl⟩
  cases hcc : lt i (nat n)
  · obtain rfl := hend _ _ hi hb hcc
    cbv
    rw [hcc]; cbv
    repeat (first | (rw [heqr]; cbv))
    exact hQ _ _ trivial (hfin _ (by cbv))
  obtain ⟨x1, x2, x3, x4, x5, x6, x7⟩ := hstep _ _ hi hb hcc
  unfold strC at x2
  generalize (atI l i == s) = be at x5 x6
  generalize atI l i = a at x2 x5
  generalize i.toNat = iN at x1 x2 x7 hmz
  generalize i + 1 = i2 at x3 x4 x6 x7
  cases b
  · cbv
    rw [hcc]; cbv
    repeat (first | (rw [hbox]; cbv) | (rw [hsbox]; cbv) | (rw [x1]; cbv) | (rw [x2]; cbv) | (rw [x5]; cbv))
    rw [x3]
    exact ⟨[0], [5, 6, 7, 8, 9, 10], 11, n - i2.toNat, hmz ▸ x7, by simp, i2, _, x4, x6, rfl, cut_eq (by cbv) (cutRows_cons (by rfl) (hRcl) rfl)⟩
  cbv
  rw [hcc]; cbv
  rw [x3]
  exact ⟨[0], [5, 6, 7, 8, 9, 10], 11, n - i2.toNat, hmz ▸ x7, by simp, i2, _, x4, x6, rfl, cut_eq (by cbv) (cutRows_cons (by rfl) (hRcl) rfl)⟩
end Go.Proofs.Ytagflbmonlaioaa.D
