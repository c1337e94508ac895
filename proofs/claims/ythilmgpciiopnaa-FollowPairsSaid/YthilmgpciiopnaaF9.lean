/- Plain law: the rounds, and what they come to. No program in sight. -/
import Derived.Test.YthilmgpciiopnaaF8
namespace Go.Proofs.Ythilmgpciiopnaa.F
open Go G U K
set_option linter.unusedVariables false
set_option linter.unusedSimpArgs false
set_option maxRecDepth 100000
set_option maxHeartbeats 4000000
variable {P : List ProdT} {n : Nat} {E : List Bool} {F : List Nat}
def symOk (n : Nat) (out : List Bool) (s : SymT) : Bool := s.sort && (decide (0 ≤ s.n) && (decide (s.n < (n : Int)) && atI out s.n))
theorem symOk_iff {s : SymT} : symOk n E s = true ↔ s.sort = true ∧ okI n s.n ∧ atI E s.n = true := by
  unfold symOk okI
  simp [and_assoc]
def emptyStep (n : Nat) (out : List Bool) (p : ProdT) : List Bool := if p.body.all (symOk n out) = true ∧ okI n p.sort then out.set p.sort.toNat true else out
def emptyRound (P : List ProdT) (n : Nat) (out : List Bool) : List Bool := P.foldl (emptyStep n) out
def emptyT (P : List ProdT) (n : Nat) : List Bool := iter (emptyRound P n) (n + 1) (List.replicate n false)
theorem all_iff {l : List SymT} : l.all (symOk n E) = true ↔ ∀ s ∈ l, s.sort = true ∧ okI n s.n ∧ atI E s.n = true := by
  simp only [List.all_eq_true, symOk_iff]
theorem emptyStep_sound {p : ProdT} (hp : p ∈ P) (h : SoundE P n E) : SoundE P n (emptyStep n E p) := by
  unfold emptyStep
  split
  · rename_i hc
    exact soundE_set h hc.2 fun _ => sound_null h hp hc.2 (all_iff.1 hc.1)
  · exact h
theorem emptyFold_sound : ∀ (l : List ProdT), (∀ p ∈ l, p ∈ P) → ∀ E, SoundE P n E → SoundE P n (l.foldl (emptyStep n) E)
  | [], _, E, h => h
  | p :: l, hl, E, h => emptyFold_sound l (fun q hq => hl q (by simp [hq])) _ (emptyStep_sound (hl p (by simp)) h)
theorem empty_up : Up cntB (fun E => E.length = n) (emptyStep n) := by
  intro E p hE
  unfold emptyStep
  split
  · refine ⟨by show (E.set p.sort.toNat true).length = n; rw [List.length_set]; exact hE, cnt_set E _⟩
  · exact ⟨hE, .inl rfl⟩
theorem emptyRound_sound (h : SoundE P n E) : SoundE P n (emptyRound P n E) := emptyFold_sound P (fun _ h => h) E h
theorem empty_fix (hE : E.length = n) (h : emptyRound P n E = E) : ClosedE P n E := by
  intro p hp hs hb
  rcases (up_fold empty_up P E hE).2 with ⟨_, h1⟩ | h1
  · have := h1 p hp
    unfold emptyStep at this
    rw [if_pos ⟨all_iff.2 hb, hs⟩] at this
    have h2 := at_set (v := true) hE hs hs
    rw [this, if_pos rfl] at h2
    exact h2
  · unfold emptyRound at h
    rw [h] at h1
    exact absurd h1 (Nat.lt_irrefl _)
theorem iter_sound : ∀ k, SoundE P n (iter (emptyRound P n) k (List.replicate n false))
  | 0 => sound_zero P n
  | k + 1 => emptyRound_sound (iter_sound k)
theorem empty_ok (P : List ProdT) (n : Nat) : SoundE P n (emptyT P n) ∧ ClosedE P n (emptyT P n) := by
  have hs := iter_sound (P := P) (n := n) (n + 1)
  refine ⟨hs, empty_fix hs.1 ?_⟩
  obtain ⟨_, h2⟩ := up_iter (m := cntB) (ok := fun E => E.length = n) (f := emptyRound P n) (fun E hE => by
    obtain ⟨h1, h2⟩ := up_fold empty_up P E hE
    exact ⟨h1, h2.imp (fun h => h.1) id⟩) (List.replicate n false) (by simp) (n + 1)
  rcases h2 with h2 | h2
  · exact h2
  · have := cnt_le (iter (emptyRound P n) (n + 1) (List.replicate n false))
    rw [hs.1] at this
    exact absurd (Nat.le_trans h2 this) (by omega)
/-! ### The tokens ahead -/
structure FS where
  F : List Nat
  ch : Bool
def firstStep (n : Nat) (E : List Bool) (s : FS) (p : ProdT) : FS := if okI n p.sort then ⟨s.F.set p.sort.toNat ((rowT E s.F p.body).1 ||| atI s.F p.sort), s.ch || !decide ((rowT E s.F p.body).1 ||| atI s.F p.sort = atI s.F p.sort)⟩ else s
theorem sets_set (h : Sets F) {i v : Nat} (hv : v < 18446744073709551616) : Sets (F.set i v) := by
  intro x hx
  rcases List.mem_or_eq_of_mem_set hx with hx | rfl
  · exact h x hx
  · exact hv
theorem set_same {i : Int} (hF : F.length = n) (hi : okI n i) : F.set i.toNat (atI F i) = F := by
  have hg := at_get (l := F) hi.1 (by rw [hF]; exact hi.2)
  apply List.ext_getElem?
  intro j
  rw [List.getElem?_set]
  split
  · rename_i h; subst h
    rw [hg, if_pos (List.getElem?_eq_some_iff.1 hg).1]
  · rfl
def OkF (P : List ProdT) (n : Nat) (F : List Nat) : Prop := SoundF P n F ∧ Sets F
def ClosedAt (n : Nat) (E : List Bool) (F : List Nat) (p : ProdT) : Prop := okI n p.sort → ∀ t, (rowT E F p.body).1.testBit t = true → (atI F p.sort).testBit t = true
theorem okF_set {p : ProdT} (hE : SoundE P n E) (hp : p ∈ P) (h : OkF P n F) (hs : okI n p.sort) : OkF P n (F.set p.sort.toNat ((rowT E F p.body).1 ||| atI F p.sort)) := by
  refine ⟨soundF_set h.1 hs fun t ht => ?_, sets_set h.2 (or_lt (rowT_lt h.2 _) (sets_at h.2 hs.1 (by rw [h.1.1]; exact hs.2)))⟩
  rw [Nat.testBit_or, Bool.or_eq_true] at ht
  rcases ht with ht | ht
  · exact sound_row hE h.1 hp hs ht
  · exact h.1.2 _ _ hs ht
theorem or_sub {x y t : Nat} (h : x ||| y = y) (ht : x.testBit t = true) : y.testBit t = true := by
  have := congrArg (Nat.testBit · t) h
  simp only [Nat.testBit_or, ht, Bool.true_or] at this
  exact this.symm
theorem firstStep_up {p : ProdT} (hE : SoundE P n E) (hp : p ∈ P) (s : FS) (h : OkF P n s.F) : OkF P n (firstStep n E s p).F ∧
    ((firstStep n E s p = s ∧ ClosedAt n E s.F p) ∨ ((firstStep n E s p).ch = true ∧ cntS s.F < cntS (firstStep n E s p).F)) := by
  unfold firstStep
  by_cases hs : okI n p.sort
  · rw [if_pos hs]
    refine ⟨okF_set hE hp h hs, ?_⟩
    have hlt := rowT_lt (E := E) h.2 p.body
    have hF := sets_at h.2 hs.1 (by rw [h.1.1]; exact hs.2)
    by_cases heq : (rowT E s.F p.body).1 ||| atI s.F p.sort = atI s.F p.sort
    · left
      rw [heq, set_same h.1.1 hs]
      refine ⟨by simp, fun _ t ht => or_sub heq ht⟩
    · right
      refine ⟨by simp [heq], ?_⟩
      have hg := at_get (l := s.F) hs.1 (by rw [h.1.1]; exact hs.2)
      rcases bitc_or hF hlt with h1 | h1
      · rw [Nat.or_comm] at h1; exact absurd h1 heq
      · rw [Nat.or_comm] at h1
        rcases cntS_set s.F p.sort.toNat (atI s.F p.sort) _ hg (.inr h1) with h2 | h2
        · exfalso
          have h3 := at_set (v := (rowT E s.F p.body).1 ||| atI s.F p.sort) h.1.1 hs hs
          rw [h2, if_pos rfl] at h3
          exact heq h3.symm
        · exact h2
  · rw [if_neg hs]
    exact ⟨h, .inl ⟨rfl, fun h => absurd h hs⟩⟩
theorem firstFold (hE : SoundE P n E) : ∀ (l : List ProdT), (∀ p ∈ l, p ∈ P) → ∀ s : FS, OkF P n s.F → OkF P n (l.foldl (firstStep n E) s).F ∧
    ((l.foldl (firstStep n E) s = s ∧ ∀ p ∈ l, ClosedAt n E s.F p) ∨ ((l.foldl (firstStep n E) s).ch = true ∧ cntS s.F < cntS (l.foldl (firstStep n E) s).F))
  | [], _, s, h => ⟨h, .inl ⟨rfl, fun p hp => by simp at hp⟩⟩
  | p :: l, hl, s, h => by
    obtain ⟨h1, h2⟩ := firstStep_up hE (hl p (by simp)) s h
    obtain ⟨h3, h4⟩ := firstFold hE l (fun q hq => hl q (by simp [hq])) _ h1
    rw [List.foldl_cons]
    refine ⟨h3, ?_⟩
    rcases h2 with ⟨h2, hc⟩ | ⟨h2, hc⟩
    · rw [h2] at h4 ⊢
      rcases h4 with ⟨h4, h5⟩ | h4
      · exact .inl ⟨h4, fun q hq => by
          rcases List.mem_cons.1 hq with rfl | hq
          · exact hc
          · exact h5 q hq⟩
      · exact .inr h4
    · right
      rcases h4 with ⟨h4, _⟩ | ⟨h4, h5⟩
      · rw [h4]; exact ⟨h2, hc⟩
      · exact ⟨h4, Nat.lt_trans hc h5⟩
def firstRound (P : List ProdT) (n : Nat) (E : List Bool) (F : List Nat) : FS := P.foldl (firstStep n E) ⟨F, false⟩
def firstLoop (P : List ProdT) (n : Nat) (E : List Bool) : Nat → List Nat → List Nat
  | 0, F => F
  | k + 1, F => if (firstRound P n E F).ch = true then firstLoop P n E k (firstRound P n E F).F else (firstRound P n E F).F
def firstT (P : List ProdT) (n : Nat) : List Nat := firstLoop P n (emptyT P n) (64 * n + 1) (List.replicate n 0)
theorem firstRound_ok (hE : SoundE P n E) (h : OkF P n F) : OkF P n (firstRound P n E F).F ∧ (((firstRound P n E F).ch = false ∧ (firstRound P n E F).F = F ∧ ClosedF P n E F) ∨ ((firstRound P n E F).ch = true ∧ cntS F < cntS (firstRound P n E F).F)) := by
  obtain ⟨h1, h2⟩ := firstFold hE P (fun _ h => h) ⟨F, false⟩ h
  refine ⟨h1, ?_⟩
  rcases h2 with ⟨h2, h3⟩ | h2
  · left
    unfold firstRound
    rw [h2]
    exact ⟨rfl, rfl, fun p hp => h3 p hp⟩
  · exact .inr h2
theorem firstLoop_ok (hE : SoundE P n E) : ∀ (k : Nat) (F : List Nat), OkF P n F → 64 * n < k + cntS F → OkF P n (firstLoop P n E k F) ∧ ClosedF P n E (firstLoop P n E k F)
  | 0, F, h, hk => by
    have := cntS_le F
    rw [h.1.1] at this
    omega
  | k + 1, F, h, hk => by
    obtain ⟨h1, h2⟩ := firstRound_ok hE h
    rw [firstLoop]
    rcases h2 with ⟨h2, h3, h4⟩ | ⟨h2, h3⟩
    · rw [if_neg (by rw [h2]; decide), h3]
      exact ⟨h, h4⟩
    · rw [if_pos h2]
      exact firstLoop_ok hE k _ h1 (by omega)
theorem okF_zero (P : List ProdT) (n : Nat) : OkF P n (List.replicate n 0) := ⟨soundF_zero P n, fun x hx => by
  rw [(List.mem_replicate.1 hx).2]; decide⟩
theorem first_ok (P : List ProdT) (n : Nat) : OkF P n (firstT P n) ∧ ClosedF P n (emptyT P n) (firstT P n) :=
  firstLoop_ok (empty_ok P n).1 _ _ (okF_zero P n) (by omega)
/-! ### Both at once -/
structure OS where
  E : List Bool
  F : List Nat
  more : Bool
def ofTest (s : OS) (p : ProdT) : Bool := !decide (atI s.F p.sort ||| (rowT s.E s.F p.body).1 = atI s.F p.sort) || ((rowT s.E s.F p.body).2 && !atI s.E p.sort)
def ofStep (n : Nat) (s : OS) (p : ProdT) : OS := if okI n p.sort then
    if ofTest s p = true then ⟨s.E.set p.sort.toNat (atI s.E p.sort || (rowT s.E s.F p.body).2), s.F.set p.sort.toNat (atI s.F p.sort ||| (rowT s.E s.F p.body).1), true⟩ else s
  else s
def OkO (P : List ProdT) (n : Nat) (s : OS) : Prop := SoundE P n s.E ∧ OkF P n s.F
def ClosedO (n : Nat) (s : OS) (p : ProdT) : Prop := okI n p.sort → ofTest s p = false
def cntO (s : OS) : Nat := cntB s.E + cntS s.F
theorem setB_same {i : Int} (hE : E.length = n) (hi : okI n i) : E.set i.toNat (atI E i) = E := by
  have hg := at_get (l := E) hi.1 (by rw [hE]; exact hi.2)
  apply List.ext_getElem?
  intro j
  rw [List.getElem?_set]
  split
  · rename_i h; subst h
    rw [hg, if_pos (List.getElem?_eq_some_iff.1 hg).1]
  · rfl
theorem ofStep_up {p : ProdT} (hp : p ∈ P) (s : OS) (h : OkO P n s) : OkO P n (ofStep n s p) ∧ ((ofStep n s p = s ∧ ClosedO n s p) ∨ ((ofStep n s p).more = true ∧ cntO s < cntO (ofStep n s p))) := by
  unfold ofStep
  by_cases hs : okI n p.sort
  · rw [if_pos hs]
    by_cases ht : ofTest s p = true
    · rw [if_pos ht]
      have hlt := rowT_lt (E := s.E) h.2.2 p.body
      have hF := sets_at h.2.2 hs.1 (by rw [h.2.1.1]; exact hs.2)
      have hOF : OkF P n (s.F.set p.sort.toNat (atI s.F p.sort ||| (rowT s.E s.F p.body).1)) := by
        rw [Nat.or_comm]; exact okF_set h.1 hp h.2 hs
      refine ⟨⟨soundE_set h.1 hs fun hb => ?_, hOF⟩, .inr ⟨rfl, ?_⟩⟩
      · rw [Bool.or_eq_true] at hb
        rcases hb with hb | hb
        · exact h.1.2 _ hs hb
        · exact sound_null h.1 hp hs ((row2_iff h.1.1 h.2.1.1 _).1 hb)
      · have hg := at_get (l := s.F) hs.1 (by rw [h.2.1.1]; exact hs.2)
        have hm1 : cntS s.F ≤ cntS (s.F.set p.sort.toNat (atI s.F p.sort ||| (rowT s.E s.F p.body).1)) ∧ (¬ atI s.F p.sort ||| (rowT s.E s.F p.body).1 = atI s.F p.sort → cntS s.F < cntS (s.F.set p.sort.toNat (atI s.F p.sort ||| (rowT s.E s.F p.body).1))) := by
          have hb := bitc_or hF hlt
          have hc := cntS_set s.F p.sort.toNat _ _ hg hb
          refine ⟨?_, fun hne => ?_⟩
          · rcases hc with hc | hc
            · rw [hc]; exact Nat.le_refl _
            · exact Nat.le_of_lt hc
          · rcases hc with hc | hc
            · exfalso
              have h3 := at_set (v := atI s.F p.sort ||| (rowT s.E s.F p.body).1) h.2.1.1 hs hs
              rw [hc, if_pos rfl] at h3
              exact hne h3.symm
            · exact hc
        have hm2 : cntB s.E ≤ cntB (s.E.set p.sort.toNat (atI s.E p.sort || (rowT s.E s.F p.body).2)) ∧ ((rowT s.E s.F p.body).2 = true ∧ atI s.E p.sort = false → cntB s.E < cntB (s.E.set p.sort.toNat (atI s.E p.sort || (rowT s.E s.F p.body).2))) := by
          cases ha : atI s.E p.sort
          · cases hr : (rowT s.E s.F p.body).2
            · have := setB_same h.1.1 hs
              rw [ha] at this
              simp [this]
            · simp only [Bool.or_true]
              rcases cnt_set s.E p.sort.toNat with hc | hc
              · exfalso
                have h3 := at_set (v := true) h.1.1 hs hs
                rw [hc, if_pos rfl, ha] at h3
                cases h3
              · exact ⟨Nat.le_of_lt hc, fun _ => hc⟩
          · have := setB_same h.1.1 hs
            rw [ha] at this
            simp [this]
        unfold cntO
        simp only [ofTest, Bool.or_eq_true, Bool.not_eq_true', decide_eq_false_iff_not, Bool.and_eq_true] at ht
        show cntB s.E + cntS s.F < cntB (s.E.set p.sort.toNat (atI s.E p.sort || (rowT s.E s.F p.body).2)) + cntS (s.F.set p.sort.toNat (atI s.F p.sort ||| (rowT s.E s.F p.body).1))
        rcases ht with ht | ht
        · have := hm1.2 ht; have := hm2.1; omega
        · have := hm2.2 ⟨ht.1, ht.2⟩; have := hm1.1; omega
    · rw [if_neg ht]
      exact ⟨h, .inl ⟨rfl, fun _ => by simpa using ht⟩⟩
  · rw [if_neg hs]
    exact ⟨h, .inl ⟨rfl, fun h => absurd h hs⟩⟩
theorem ofFold : ∀ (l : List ProdT), (∀ p ∈ l, p ∈ P) → ∀ s : OS, OkO P n s → OkO P n (l.foldl (ofStep n) s) ∧
    ((l.foldl (ofStep n) s = s ∧ ∀ p ∈ l, ClosedO n s p) ∨ ((l.foldl (ofStep n) s).more = true ∧ cntO s < cntO (l.foldl (ofStep n) s)))
  | [], _, s, h => ⟨h, .inl ⟨rfl, fun p hp => by simp at hp⟩⟩
  | p :: l, hl, s, h => by
    obtain ⟨h1, h2⟩ := ofStep_up (hl p (by simp)) s h
    obtain ⟨h3, h4⟩ := ofFold l (fun q hq => hl q (by simp [hq])) _ h1
    rw [List.foldl_cons]
    refine ⟨h3, ?_⟩
    rcases h2 with ⟨h2, hc⟩ | ⟨h2, hc⟩
    · rw [h2] at h4 ⊢
      rcases h4 with ⟨h4, h5⟩ | h4
      · exact .inl ⟨h4, fun q hq => by
          rcases List.mem_cons.1 hq with rfl | hq
          · exact hc
          · exact h5 q hq⟩
      · exact .inr h4
    · right
      rcases h4 with ⟨h4, _⟩ | ⟨h4, h5⟩
      · rw [h4]; exact ⟨h2, hc⟩
      · exact ⟨h4, Nat.lt_trans hc h5⟩
theorem cntO_le (s : OS) (h : OkO P n s) : cntO s ≤ 65 * n := by
  have h1 := cnt_le s.E
  have h2 := cntS_le s.F
  rw [h.1.1] at h1
  rw [h.2.1.1] at h2
  unfold cntO; omega
/-- Where nothing more comes, both are what they are by definition. -/
theorem of_fixed {s : OS} (h : OkO P n s) (hc : ∀ p ∈ P, ClosedO n s p) : s.E = emptyT P n ∧ s.F = firstT P n := by
  have hcE : ClosedE P n s.E := fun p hp hs hb => by
    have h1 := hc p hp hs
    simp only [ofTest, Bool.or_eq_false_iff] at h1
    have h2 := h1.2
    rw [(row2_iff h.1.1 h.2.1.1 _).2 hb] at h2
    simpa using h2
  have hcF : ClosedF P n s.E s.F := fun p hp hs t ht => by
    have h1 := hc p hp hs
    simp only [ofTest, Bool.or_eq_false_iff, Bool.not_eq_false', decide_eq_true_eq] at h1
    have h2 := h1.1
    rw [Nat.or_comm] at h2
    exact or_sub h2 ht
  have e1 := uniqE h.1 hcE (empty_ok P n).1 (empty_ok P n).2
  refine ⟨e1, ?_⟩
  rw [e1] at hcF
  exact uniqF (empty_ok P n).1 (empty_ok P n).2 h.2.1 hcF (first_ok P n).1.1 (first_ok P n).2
end Go.Proofs.Ythilmgpciiopnaa.F
