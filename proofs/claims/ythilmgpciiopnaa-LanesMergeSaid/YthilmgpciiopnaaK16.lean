/- Plain law: the notes, told from the head on. No program in sight. -/
import Derived.Test.YthilmgpciiopnaaK15
namespace Go.Proofs.Ythilmgpciiopnaa.K
set_option linter.unusedVariables false
set_option linter.unusedSimpArgs false
open Go G
set_option maxRecDepth 100000
set_option maxHeartbeats 4000000
def specN (ks : List Int) : Int → Bool → List Tok → List NoteT
  | _, _, [] => []
  | A, B, t :: r => if kindOf ks t.r = 0 then specN ks (A + 1) false r else if kindOf ks t.r = 2 then ⟨t, A, B, nl t.s || behindF ks r⟩ :: specN ks A (nl t.s) r else specN ks A (B || nl t.s) r
theorem counts_main {ks : List Int} {r : Int} (h : kindOf ks r = 0) : countsT ks r = true := by simp [countsT, h]
theorem counts_com {ks : List Int} {r : Int} (h : kindOf ks r = 2) : countsT ks r = true := by simp [countsT, h]
theorem counts_oth {ks : List Int} {r : Int} (h : kindOf ks r ≠ 0) (h2 : kindOf ks r ≠ 2) : countsT ks r = false := by simp [countsT, h, h2]
theorem nstep_com {ks : List Int} {s : NSt} {t : Tok} (h : kindOf ks t.r = 2) : nstep ks s t = ⟨s.out ++ [⟨t, s.ahead, s.line, nl t.s⟩], s.ahead, nl t.s⟩ := by
  cases hn : nl t.s
  · exact nstep_comF h hn
  · exact nstep_comT h hn
theorem notes_spec (ks : List Int) : ∀ (l : List Tok) (A : Int) (B : Bool), (l.foldl (nstep ks) ⟨[], A, B⟩).out = specN ks A B l ∧
    ∀ (O : List NoteT) (N : NoteT), N.ahead ≤ A → (N.ahead = A → N.behind = B) → (l.foldl (nstep ks) ⟨O ++ [N], A, B⟩).out = O ++ [{ N with behind := N.behind || (decide (N.ahead = A) && behindF ks l) }] ++ specN ks A B l
  | [], A, B => by
    refine ⟨rfl, fun O N _ _ => ?_⟩
    simp [specN, behindF]
  | t :: l, A, B => by
    rw [List.foldl_cons]
    by_cases h0 : kindOf ks t.r = 0
    · have ih := notes_spec ks l (A + 1) false
      refine ⟨?_, fun O N hN hB => ?_⟩
      · rw [nstep_main h0]
        simp only [specN, if_pos h0]
        exact ih.1
      · rw [List.foldl_cons, nstep_main h0]
        simp only [specN, if_pos h0]
        have e : ¬ N.ahead = A + 1 := by omega
        rw [ih.2 O N (by omega) (fun h => absurd h e)]
        simp [e, behindF, counts_main h0]
    · by_cases h2 : kindOf ks t.r = 2
      · have ih := fun O N => (notes_spec ks l A (nl t.s)).2 O N
        refine ⟨?_, fun O N hN hB => ?_⟩
        · rw [nstep_com h2]
          simp only [specN, if_neg h0, if_pos h2]
          rw [ih [] ⟨t, A, B, nl t.s⟩ (Int.le_refl _) (fun _ => rfl)]
          simp
        · rw [List.foldl_cons, nstep_com h2]
          simp only [specN, if_neg h0, if_pos h2]
          rw [ih (O ++ [N]) ⟨t, A, B, nl t.s⟩ (Int.le_refl _) (fun _ => rfl)]
          simp [behindF, counts_com h2]
      · have hc := counts_oth h0 h2
        cases hb : (B || nl t.s)
        · have hn : nl t.s = false := by cases B <;> simp_all
          have hB0 : B = false := by cases B <;> simp_all
          subst hB0
          have ih := notes_spec ks l A false
          refine ⟨?_, fun O N hN hB => ?_⟩
          · rw [nstep_defF h0 h2 hb]
            simp only [specN, if_neg h0, if_neg h2, hb]
            exact ih.1
          · rw [List.foldl_cons, nstep_defF h0 h2 hb]
            simp only [specN, if_neg h0, if_neg h2, hb]
            rw [ih.2 O N hN hB]
            simp [behindF, hc, hn]
        · have ih := notes_spec ks l A true
          refine ⟨?_, fun O N hN hB => ?_⟩
          · rw [nstep_defT h0 h2 hb]
            simp only [specN, if_neg h0, if_neg h2, hb]
            exact ih.1
          · rw [List.foldl_cons, nstep_defT h0 h2 hb, mark_snoc]
            simp only [specN, if_neg h0, if_neg h2, hb]
            rw [ih.2 O ⟨N.t, N.ahead, N.before, N.behind || decide (N.ahead = A)⟩ hN (fun h => by have h' : N.ahead = A := h; simp [h'])]
            congr 4
            simp only
            by_cases hA : N.ahead = A
            · have := hB hA
              rw [this]
              simp only [hA, decide_true, Bool.or_true, Bool.true_or, Bool.true_and, behindF, hc]
              cases hn : nl t.s
              · rw [hn] at hb
                simp at hb
                simp [hb]
              · simp
            · simp [hA]
theorem notes_eq (ks : List Int) (l : List Tok) : notesT ks l = specN ks 0 true l := (notes_spec ks l 0 true).1

/-- Where the law's loop stands. -/
def LN (ks : List Int) (l : List Tok) (i k A : Int) : Prop := 0 ≤ i ∧ i ≤ l.length ∧ 0 ≤ k ∧ k ≤ i ∧ 0 ≤ A ∧ A ≤ i ∧ specN ks A (beforeT ks l i) (l.drop i.toNat) = (notesT ks l).drop k.toNat ∧ k ≤ (notesT ks l).length
theorem ln_zero (ks : List Int) (l : List Tok) : LN ks l 0 0 0 := ⟨by omega, by omega, by omega, by omega, by omega, by omega, by
  rw [notes_eq]; rfl, by omega⟩
theorem ln_end {ks : List Int} {l : List Tok} {i k A : Int} (h : LN ks l i k A) (hc : decide (i < (l.length : Int)) = false) : k = (notesT ks l).length := by
  obtain ⟨h0, h1, h2, h3, h4, h5, h6, h7⟩ := h
  simp only [decide_eq_false_iff_not] at hc
  rw [List.drop_eq_nil_of_le (by omega)] at h6
  have := congrArg List.length h6
  simp [specN] at this
  omega
theorem ln_at {ks : List Int} {l : List Tok} {i k A : Int} (h : LN ks l i k A) : At (fun _ => True) l i := ⟨h.1, h.2.1, fun _ _ => trivial⟩
theorem drop_tok {l : List Tok} {i : Int} (h0 : 0 ≤ i) (h1 : i < l.length) : l.drop i.toNat = tokAt l i :: l.drop (i + 1).toNat := by
  have hl : i.toNat < l.length := by omega
  have e : (i + 1).toNat = i.toNat + 1 := by omega
  have hg : tokAt l i = l[i.toNat] := by simp [tokAt, List.getD, hl]
  rw [List.drop_eq_getElem_cons hl, ← hg, e]
theorem ln_main {ks : List Int} {l : List Tok} {i k A : Int} (h : LN ks l i k A) (hc : decide (i < (l.length : Int)) = true) (hk : kindOf ks (tokAt l i).r = 0) : LN ks l (i + 1) k (A + 1) := by
  obtain ⟨h0, h1, h2, h3, h4, h5, h6, h7⟩ := h
  simp only [decide_eq_true_eq] at hc
  refine ⟨by omega, by omega, h2, by omega, by omega, by omega, ?_, h7⟩
  rw [drop_tok h0 hc, specN, if_pos hk] at h6
  rw [before_next h0 hc, counts_main hk, if_pos rfl, hk]
  simpa using h6
theorem ln_oth {ks : List Int} {l : List Tok} {i k A : Int} (h : LN ks l i k A) (hc : decide (i < (l.length : Int)) = true) (hk : kindOf ks (tokAt l i).r ≠ 0) (hk2 : kindOf ks (tokAt l i).r ≠ 2) : LN ks l (i + 1) k A := by
  obtain ⟨h0, h1, h2, h3, h4, h5, h6, h7⟩ := h
  simp only [decide_eq_true_eq] at hc
  refine ⟨by omega, by omega, h2, by omega, by omega, by omega, ?_, h7⟩
  rw [drop_tok h0 hc, specN, if_neg hk, if_neg hk2] at h6
  rw [before_next h0 hc, counts_oth hk hk2, ← h6]
  cases nl (tokAt l i).s <;> simp
def noteAt (l : List NoteT) (i : Int) : NoteT := l.getD i.toNat default
theorem ln_com {ks : List Int} {l : List Tok} {i k A : Int} (h : LN ks l i k A) (hc : decide (i < (l.length : Int)) = true) (hk : kindOf ks (tokAt l i).r = 2) : LN ks l (i + 1) (k + 1) A ∧ 0 ≤ k ∧ k < (notesT ks l).length ∧ (notesT ks l)[k.toNat]? = some ⟨tokAt l i, A, beforeT ks l i, behindT ks l i⟩ := by
  obtain ⟨h0, h1, h2, h3, h4, h5, h6, h7⟩ := h
  simp only [decide_eq_true_eq] at hc
  have hk0 : kindOf ks (tokAt l i).r ≠ 0 := by rw [hk]; decide
  rw [drop_tok h0 hc, specN, if_neg hk0, if_pos hk] at h6
  have hg : (notesT ks l)[k.toNat]? = some ⟨tokAt l i, A, beforeT ks l i, behindT ks l i⟩ := by
    have := congrArg (·[0]?) h6
    simp only [List.getElem?_cons_zero, List.getElem?_drop, Nat.add_zero] at this
    rw [← this, behindT]
    cases nl (tokAt l i).s <;> simp
  have hlt := (List.getElem?_eq_some_iff.1 hg).1
  refine ⟨⟨by omega, by omega, by omega, by omega, h4, by omega, ?_, by omega⟩, h2, by omega, hg⟩
  rw [before_next h0 hc, counts_com hk, if_pos rfl, hk]
  have e : (k + 1).toNat = k.toNat + 1 := by omega
  have := congrArg List.tail h6
  simp only [List.tail_cons, List.tail_drop] at this
  rw [e, ← this]
  simp
theorem note_at (l : List NoteT) {k : Int} {N : NoteT} (h : l[k.toNat]? = some N) : (noteE l)[k.toNat]? = some (noteC N) := by
  simp [noteE, h]
theorem ln_adds {ks : List Int} {l : List Tok} {i k A : Int} (h : LN ks l i k A) (hs : l.length ≤ 1000) : arI .add .i64 i 1 = i + 1 ∧ arI .add .i64 k 1 = k + 1 ∧ arI .add .i64 A 1 = A + 1 := by
  obtain ⟨h0, h1, h2, h3, h4, h5, h6, h7⟩ := h
  exact ⟨ar_add64 (by omega) (by omega), ar_add64 (by omega) (by omega), ar_add64 (by omega) (by omega)⟩
theorem ln_left {ks : List Int} {l : List Tok} {i k A : Int} (h : LN ks l i k A) (hc : decide (i < (l.length : Int)) = true) : left l.length (i + 1) < left l.length i := by
  simp only [decide_eq_true_eq] at hc
  have := h.1
  unfold left; omega
theorem flat_note (l : List NoteT) : flatRow (noteE l) := by
  intro c hc x hx
  obtain ⟨t, _, rfl⟩ := List.mem_map.1 hc
  simp only [noteC, List.mem_cons, List.not_mem_nil, or_false] at hx
  rcases hx with rfl | rfl | rfl | rfl | rfl | rfl <;> exact ⟨rfl, rfl⟩
theorem c36 : Try.prog.cellsOf 36 = 6 := by kernel_rfl
end Go.Proofs.Ythilmgpciiopnaa.K
