/- Plain: the documents of RenderWide; lines. -/
import Derived.Test.YtagflbmonlaioaaM4
namespace Go.Proofs.Ytagflbmonlaioaa.D
open Go G U K
set_option linter.unusedVariables false
set_option linter.unusedSimpArgs false
set_option maxRecDepth 100000
set_option maxHeartbeats 4000000
def xW (m : Nat) : List UInt8 := List.replicate (m % 9 + 1) 120
def IsT (d : DocT) : Prop := ∃ t : Tr, t.ok ∧ t.flat = d
theorem isT_text (s : ByteArray) : IsT (textD s) := ⟨.lf ⟨0, 0, s⟩, ⟨by simp [partOk, takes], by simp [takes]⟩, rfl⟩
theorem isT_of1 : IsT (ofD 1) := ⟨.lf (partK 1 0), ⟨by decide +kernel, by decide +kernel⟩, rfl⟩
theorem isT_of7 : IsT (ofD 7) := ⟨.lf (partK 7 0), ⟨by decide +kernel, by decide +kernel⟩, rfl⟩
theorem isT_group {d : DocT} (h : IsT d) : IsT (groupD d) := by
  obtain ⟨t, ht, rfl⟩ := h
  exact ⟨.un (partK 6 0) t, ⟨by decide +kernel, by decide +kernel, ht⟩, rfl⟩
theorem isT_step {d e : DocT} (h : IsT d) (h2 : IsT e) : IsT (catStep d e) := by
  obtain ⟨t, ht, rfl⟩ := h
  obtain ⟨u, hu, rfl⟩ := h2
  exact ⟨.cat (partK 4 0) t u, ⟨by decide +kernel, by decide +kernel, ht, hu⟩, rfl⟩
theorem isT_fold : ∀ (l : List DocT) (d : DocT), IsT d → (∀ x ∈ l, IsT x) → IsT (l.foldl catStep d)
  | [], d, h, _ => h
  | x :: l, d, h, hl => isT_fold l _ (isT_step h (hl x (by simp))) fun y hy => hl y (by simp [hy])
theorem isT_cat (l : List DocT) (h : ∀ x ∈ l, IsT x) : IsT (catD l) := by
  cases l with
  | nil => exact isT_of7
  | cons d l => exact isT_fold l d (h d (by simp)) fun y hy => h y (by simp [hy])
/-! ### All documents of a kind -/
/-- No nesting, short texts. -/
def Mld (d : DocT) : Prop := ∀ p ∈ d, p.kind ≠ 5 ∧ p.text.size ≤ 1000
theorem mld_app {a b : DocT} (ha : Mld a) (hb : Mld b) : Mld (a ++ b) := fun p hp => (List.mem_append.1 hp).elim (ha p) (hb p)
theorem mld_one {k : Int} (h : k ≠ 5) : Mld [partK k 0] := fun p hp => by
  simp only [List.mem_cons, List.not_mem_nil, or_false] at hp; subst hp; exact ⟨h, show (0 : Nat) ≤ 1000 by decide⟩
theorem mld_fold : ∀ (l : List DocT) (d : DocT), Mld d → (∀ x ∈ l, Mld x) → Mld (l.foldl catStep d)
  | [], d, h, _ => h
  | x :: l, d, h, hl => mld_fold l _ (mld_app (mld_app h (hl x (by simp))) (mld_one (by decide))) fun y hy => hl y (by simp [hy])
theorem mld_cat (l : List DocT) (h : ∀ x ∈ l, Mld x) : Mld (catD l) := by
  cases l with
  | nil => exact mld_one (k := 7) (by decide)
  | cons d l => exact mld_fold l d (h d (by simp)) fun y hy => h y (by simp [hy])
/-! ### Their bytes, all lines broken -/
def brF (d : DocT) : List UInt8 := d.flatMap fun p => emP p 0 false
theorem brF_app (a b : DocT) : brF (a ++ b) = brF a ++ brF b := List.flatMap_append
theorem brF_one {k : Int} (h : k = 4 ∨ k = 6 ∨ k = 7) : brF [partK k 0] = [] := by
  rcases h with rfl | rfl | rfl <;> decide +kernel
theorem brF_fold : ∀ (l : List DocT) (d : DocT), brF (l.foldl catStep d) = brF d ++ l.flatMap brF
  | [], d => by simp
  | x :: l, d => by
    rw [List.foldl_cons, brF_fold l, List.flatMap_cons]
    unfold catStep
    rw [brF_app, brF_app, brF_one (by simp), List.append_nil, List.append_assoc]
theorem brF_cat (l : List DocT) : brF (catD l) = l.flatMap brF := by
  cases l with
  | nil => exact brF_one (k := 7) (by simp)
  | cons d l => exact brF_fold l d
theorem brT_F : ∀ (t : Tr), t.ok → (∀ p ∈ t.flat, p.kind ≠ 5) → brT t 0 = brF t.flat
  | .lf p, ht, h => by simp [brT, brF, Tr.flat]
  | .un p t, ht, h => by
    have h5 : p.kind ≠ 5 := h p (by simp [Tr.flat])
    have h6 : p.kind = 6 := (t1 ht.2.1).elim (fun h => absurd h h5) id
    have he : emP p 0 false = [] := by simp [emP, h6]
    simp only [brT, if_neg h5, Tr.flat, brF_app]
    rw [brT_F t ht.2.2 fun q hq => h q (by simp [Tr.flat, hq])]
    simp [brF, he]
  | .cat p a b, ht, h => by
    have he : emP p 0 false = [] := by simp [emP, t2 ht.2.1]
    simp only [brT, Tr.flat, brF_app]
    rw [brT_F a ht.2.2.1 fun q hq => h q (by simp [Tr.flat, hq]), brT_F b ht.2.2.2 fun q hq => h q (by simp [Tr.flat, hq])]
    simp [brF, he]
/-! ### The rows of documents -/
def joinD (l : List DocT) (d : DocT) : List DocT := if l.length = 0 then [d] else (l ++ [ofD 1]) ++ [d]
def inL (r : List Nat) : List DocT := r.foldl (fun l m => joinD l (textD (txt (xW m)))) []
def ouL (ws : List (List Nat)) : List DocT := ws.foldl (fun l r => joinD l (groupD (catD (inL r)))) []
theorem inL_app (r : List Nat) (m : Nat) : inL (r ++ [m]) = joinD (inL r) (textD (txt (xW m))) := List.foldl_append
theorem ouL_app (ws : List (List Nat)) (r : List Nat) : ouL (ws ++ [r]) = joinD (ouL ws) (groupD (catD (inL r))) := List.foldl_append
theorem join_len (l : List DocT) (d : DocT) : (joinD l d).length ≤ l.length + 2 ∧ 0 < (joinD l d).length := by
  unfold joinD; split <;> simp
theorem join_mem {l : List DocT} {d x : DocT} (h : x ∈ joinD l d) : x ∈ l ∨ x = d ∨ x = ofD 1 := by
  unfold joinD at h
  split at h
  · simp at h; exact .inr (.inl h)
  · simp at h
    rcases h with h | h | h
    · exact .inl h
    · exact .inr (.inr h)
    · exact .inr (.inl h)
def psum (l : List DocT) : Nat := (l.map List.length).sum
theorem psum_app (a b : List DocT) : psum (a ++ b) = psum a + psum b := by simp [psum]
theorem join_sum (l : List DocT) (d : DocT) : psum (joinD l d) ≤ psum l + 1 + d.length := by
  unfold joinD
  split
  · simp [psum]
  · rw [psum_app, psum_app]; simp [psum, ofD]
theorem fold_len : ∀ (l : List DocT) (d : DocT), (l.foldl catStep d).length = d.length + psum l + l.length
  | [], d => by simp [psum]
  | x :: l, d => by
    rw [List.foldl_cons, fold_len l]
    unfold catStep psum
    simp only [List.length_append, List.length_cons, List.length_nil, List.map_cons, List.sum_cons]; omega
theorem cat_len (l : List DocT) : (catD l).length ≤ psum l + l.length + 1 := by
  cases l with
  | nil => simp [catD, ofD, psum]
  | cons d l =>
    show (l.foldl catStep d).length ≤ _
    rw [fold_len]
    simp only [psum, List.map_cons, List.sum_cons, List.length_cons]; omega
theorem inL_bd (r : List Nat) : (inL r).length ≤ 2 * r.length ∧ psum (inL r) ≤ 2 * r.length ∧ ∀ x ∈ inL r, IsT x ∧ Mld x := by
  refine rev_ind (Q := fun r => (inL r).length ≤ 2 * r.length ∧ psum (inL r) ≤ 2 * r.length ∧ ∀ x ∈ inL r, IsT x ∧ Mld x) ⟨by simp [inL], by simp [inL, psum], fun x hx => by simp [inL] at hx⟩ (fun r m ih => ?_) r
  obtain ⟨h1, h2, h3⟩ := ih
  rw [inL_app, List.length_append]
  have a1 := (join_len (inL r) (textD (txt (xW m)))).1
  have a2 := join_sum (inL r) (textD (txt (xW m)))
  refine ⟨by simp only [List.length_cons, List.length_nil]; omega, by simp only [textD, List.length_cons, List.length_nil] at a2 ⊢; exact Nat.le_trans a2 (by omega), fun x hx => ?_⟩
  rcases join_mem hx with h | rfl | rfl
  · exact h3 x h
  · refine ⟨isT_text _, fun p hp => ?_⟩
    simp only [textD, List.mem_cons, List.not_mem_nil, or_false] at hp
    subst hp
    refine ⟨show (0 : Int) ≠ 5 by decide, ?_⟩
    show (txt (xW m)).size ≤ 1000
    rw [size_txt]; unfold xW; rw [List.length_replicate]; omega
  · exact ⟨isT_of1, mld_one (k := 1) (by decide)⟩
theorem grp_bd {r : List Nat} (h : r.length ≤ 6) : (groupD (catD (inL r))).length ≤ 26 ∧ (catD (inL r)).length ≤ 25 ∧ IsT (groupD (catD (inL r))) ∧ Mld (groupD (catD (inL r))) := by
  obtain ⟨h1, h2, h3⟩ := inL_bd r
  have h4 := cat_len (inL r)
  exact ⟨by unfold groupD; rw [List.length_append]; simp only [List.length_cons, List.length_nil]; omega, by omega, isT_group (isT_cat _ fun x hx => (h3 x hx).1), mld_app (mld_cat _ fun x hx => (h3 x hx).2) (mld_one (by decide))⟩
theorem ouL_bd (ws : List (List Nat)) : (∀ r ∈ ws, r.length ≤ 6) → (ouL ws).length ≤ 2 * ws.length ∧ psum (ouL ws) ≤ 27 * ws.length ∧ ∀ x ∈ ouL ws, IsT x ∧ Mld x := by
  refine rev_ind (Q := fun ws => (∀ r ∈ ws, r.length ≤ 6) → (ouL ws).length ≤ 2 * ws.length ∧ psum (ouL ws) ≤ 27 * ws.length ∧ ∀ x ∈ ouL ws, IsT x ∧ Mld x) (fun _ => ⟨by simp [ouL], by simp [ouL, psum], fun x hx => by simp [ouL] at hx⟩) (fun ws r ih hall => ?_) ws
  obtain ⟨h1, h2, h3⟩ := ih fun q hq => hall q (by simp [hq])
  obtain ⟨g1, _, g2, g3⟩ := grp_bd (hall r (by simp))
  rw [ouL_app, List.length_append]
  have a1 := (join_len (ouL ws) (groupD (catD (inL r)))).1
  have a2 := join_sum (ouL ws) (groupD (catD (inL r)))
  refine ⟨by simp only [List.length_cons, List.length_nil]; omega, by simp only [List.length_cons, List.length_nil]; omega, fun x hx => ?_⟩
  rcases join_mem hx with h | rfl | rfl
  · exact h3 x h
  · exact ⟨g2, g3⟩
  · exact ⟨isT_of1, mld_one (k := 1) (by decide)⟩
theorem okW_join {w : Int} {l : List DocT} {d : DocT} (hw : 0 ≤ w) (h : okW w 0 (l.flatMap brF)) (hd : okW w 0 (brF d)) : okW w 0 ((joinD l d).flatMap brF) := by
  unfold joinD
  split
  · simpa using hd
  · rw [List.flatMap_append, List.flatMap_append]
    have e1 : [ofD 1].flatMap brF = [10] := by decide +kernel
    have e2 : [d].flatMap brF = brF d := by simp
    rw [e1, e2, List.append_assoc]
    refine okW_app.2 ⟨h, ?_⟩
    have hc : okW w (colF 0 (l.flatMap brF)) [] := (okW_app.1 (by rw [List.append_nil]; exact h)).2
    exact ⟨hc, hd⟩
theorem brF_text (m : Nat) : brF (textD (txt (xW m))) = xW m := by
  have : emP ⟨0, 0, txt (xW m)⟩ 0 false = xW m := by simp [emP, bts_txt]
  simp [brF, textD, this]
theorem inL_ok {w : Int} (hw : 0 ≤ w) (r : List Nat) : (∀ m ∈ r, ((m % 9 + 1 : Nat) : Int) ≤ w) → okW w 0 ((inL r).flatMap brF) := by
  refine rev_ind (Q := fun r => (∀ m ∈ r, ((m % 9 + 1 : Nat) : Int) ≤ w) → okW w 0 ((inL r).flatMap brF)) (fun _ => hw) (fun r m ih hall => ?_) r
  rw [inL_app]
  refine okW_join hw (ih fun q hq => hall q (by simp [hq])) ?_
  rw [brF_text]
  exact okW_len _ (Int.le_refl 0) (by have := hall m (by simp); unfold xW; rw [List.length_replicate]; omega)
theorem ouL_ok {w : Int} (hw : 0 ≤ w) (ws : List (List Nat)) : (∀ r ∈ ws, ∀ m ∈ r, ((m % 9 + 1 : Nat) : Int) ≤ w) → okW w 0 ((ouL ws).flatMap brF) := by
  refine rev_ind (Q := fun ws => (∀ r ∈ ws, ∀ m ∈ r, ((m % 9 + 1 : Nat) : Int) ≤ w) → okW w 0 ((ouL ws).flatMap brF)) (fun _ => hw) (fun ws r ih hall => ?_) ws
  rw [ouL_app]
  refine okW_join hw (ih fun q hq => hall q (by simp [hq])) ?_
  unfold groupD
  rw [brF_app, brF_cat, brF_one (by simp), List.append_nil]
  exact inL_ok hw r (hall r (by simp))
/-- The whole document. -/
theorem wide_doc {ws : List (List Nat)} {w : Int} (hw : 0 ≤ w) (hn : ws.length ≤ 12) (h6 : ∀ r ∈ ws, r.length ≤ 6) (hall : ∀ r ∈ ws, ∀ m ∈ r, ((m % 9 + 1 : Nat) : Int) ≤ w) :
    ∃ t : Tr, t.ok ∧ t.flat = catD (ouL ws) ∧ (catD (ouL ws)).length ≤ 360 ∧ (∀ p ∈ catD (ouL ws), p.text.size ≤ 1000) ∧ okW w 0 (brT t 0) := by
  obtain ⟨h1, h2, h3⟩ := ouL_bd ws h6
  obtain ⟨t, ht, hf⟩ := isT_cat (ouL ws) fun x hx => (h3 x hx).1
  have hm := mld_cat (ouL ws) fun x hx => (h3 x hx).2
  refine ⟨t, ht, hf, by have := cat_len (ouL ws); omega, fun p hp => (hm p hp).2, ?_⟩
  rw [brT_F t ht (by rw [hf]; exact fun p hp => (hm p hp).1), hf, brF_cat]
  exact ouL_ok hw ws hall
/-! ### Lines -/
def linesG : List UInt8 → List UInt8 → List (List UInt8)
  | cur, [] => [cur]
  | cur, b :: bs => if b = 10 then cur :: linesG [] bs else linesG (cur ++ [b]) bs
theorem linesG_ok {w : Int} : ∀ (bs cur : List UInt8), okW w cur.length bs → ∀ l ∈ linesG cur bs, (l.length : Int) ≤ w
  | [], cur, h, l, hl => by
    simp only [linesG, List.mem_cons, List.not_mem_nil, or_false] at hl
    subst hl; exact h
  | b :: bs, cur, h, l, hl => by
    simp only [linesG] at hl
    obtain ⟨h1, h2⟩ := h
    unfold stepC at h2
    split at hl
    · rename_i hb
      rw [if_pos hb] at h2
      rcases List.mem_cons.1 hl with rfl | hl
      · exact h1
      · exact linesG_ok bs [] h2 l hl
    · rename_i hb
      rw [if_neg hb] at h2
      exact linesG_ok bs (cur ++ [b]) (by simpa using h2) l hl
theorem linesG_len : ∀ (bs cur : List UInt8), (linesG cur bs).length ≤ bs.length + 1
  | [], cur => by simp [linesG]
  | b :: bs, cur => by
    simp only [linesG]
    split
    · have := linesG_len bs []; simp only [List.length_cons]; omega
    · have := linesG_len bs (cur ++ [b]); simp only [List.length_cons]; omega
end Go.Proofs.Ytagflbmonlaioaa.D
