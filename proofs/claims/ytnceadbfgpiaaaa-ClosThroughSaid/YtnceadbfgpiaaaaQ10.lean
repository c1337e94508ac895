/- A9, A10, A11, A12, one behind the other. -/
import Derived.Test.YtnceadbfgpiaaaaQ9
/- Plain law: the rounds, and what they come to. No program in sight. -/
namespace Go.Proofs.Ytnceadbfgpiaaaa.F
open Go G U K J
set_option linter.unusedVariables false
set_option linter.unusedSimpArgs false
set_option maxRecDepth 100000
set_option maxHeartbeats 4000000
variable {P : List ProdT} {n : Nat} {E : List Bool} {F : List Nat}
def symOk (n : Nat) (out : List Bool) (s : SymT) : Bool := s.sort && (decide (0 ≤ s.n) && (decide (s.n < (n : Int)) && atI out s.n))
theorem symOk_iff {s : SymT} : symOk n E s = true ↔ s.sort = true ∧ okI n s.n ∧ atI E s.n = true := by
  unfold symOk okI
  simp [and_assoc]
def emptyStep (n : Nat) (out : List Bool) (p : ProdT) : List Bool := if p.body.all (symOk n out) = true ∧ okI n p.sort then out.set p.sort.toNat true else out
def emptyRound (P : List ProdT) (n : Nat) (out : List Bool) : List Bool := P.foldl (emptyStep n) out
def emptyT (P : List ProdT) (n : Nat) : List Bool := iter (emptyRound P n) (n + 1) (List.replicate n false)
theorem all_iff {l : List SymT} : l.all (symOk n E) = true ↔ ∀ s ∈ l, s.sort = true ∧ okI n s.n ∧ atI E s.n = true := by
  simp only [List.all_eq_true, symOk_iff]
theorem emptyStep_sound {p : ProdT} (hp : p ∈ P) (h : SoundE P n E) : SoundE P n (emptyStep n E p) := by
  unfold emptyStep
  split
  · rename_i hc
    exact soundE_set h hc.2 fun _ => sound_null h hp hc.2 (all_iff.1 hc.1)
  · exact h
theorem emptyFold_sound : ∀ (l : List ProdT), (∀ p ∈ l, p ∈ P) → ∀ E, SoundE P n E → SoundE P n (l.foldl (emptyStep n) E)
  | [], _, E, h => h
  | p :: l, hl, E, h => emptyFold_sound l (fun q hq => hl q (by simp [hq])) _ (emptyStep_sound (hl p (by simp)) h)
theorem empty_up : Up cntB (fun E => E.length = n) (emptyStep n) := by
  intro E p hE
  unfold emptyStep
  split
  · refine ⟨by show (E.set p.sort.toNat true).length = n; rw [List.length_set]; exact hE, cnt_set E _⟩
  · exact ⟨hE, .inl rfl⟩
theorem emptyRound_sound (h : SoundE P n E) : SoundE P n (emptyRound P n E) := emptyFold_sound P (fun _ h => h) E h
theorem empty_fix (hE : E.length = n) (h : emptyRound P n E = E) : ClosedE P n E := by
  intro p hp hs hb
  rcases (up_fold empty_up P E hE).2 with ⟨_, h1⟩ | h1
  · have := h1 p hp
    unfold emptyStep at this
    rw [if_pos ⟨all_iff.2 hb, hs⟩] at this
    have h2 := at_set (v := true) hE hs hs
    rw [this, if_pos rfl] at h2
    exact h2
  · unfold emptyRound at h
    rw [h] at h1
    exact absurd h1 (Nat.lt_irrefl _)
theorem iter_sound : ∀ k, SoundE P n (iter (emptyRound P n) k (List.replicate n false))
  | 0 => sound_zero P n
  | k + 1 => emptyRound_sound (iter_sound k)
theorem empty_ok (P : List ProdT) (n : Nat) : SoundE P n (emptyT P n) ∧ ClosedE P n (emptyT P n) := by
  have hs := iter_sound (P := P) (n := n) (n + 1)
  refine ⟨hs, empty_fix hs.1 ?_⟩
  obtain ⟨_, h2⟩ := up_iter (m := cntB) (ok := fun E => E.length = n) (f := emptyRound P n) (fun E hE => by
    obtain ⟨h1, h2⟩ := up_fold empty_up P E hE
    exact ⟨h1, h2.imp (fun h => h.1) id⟩) (List.replicate n false) (by simp) (n + 1)
  rcases h2 with h2 | h2
  · exact h2
  · have := cnt_le (iter (emptyRound P n) (n + 1) (List.replicate n false))
    rw [hs.1] at this
    exact absurd (Nat.le_trans h2 this) (by omega)
/-! ### The tokens ahead -/
structure FS where
  F : List Nat
  ch : Bool
def firstStep (n : Nat) (E : List Bool) (s : FS) (p : ProdT) : FS := if okI n p.sort then ⟨s.F.set p.sort.toNat ((rowT E s.F p.body).1 ||| atI s.F p.sort), s.ch || !decide ((rowT E s.F p.body).1 ||| atI s.F p.sort = atI s.F p.sort)⟩ else s
theorem sets_set (h : Sets F) {i v : Nat} (hv : v < 18446744073709551616) : Sets (F.set i v) := by
  intro x hx
  rcases List.mem_or_eq_of_mem_set hx with hx | rfl
  · exact h x hx
  · exact hv
theorem set_same {i : Int} (hF : F.length = n) (hi : okI n i) : F.set i.toNat (atI F i) = F := by
  have hg := at_get (l := F) hi.1 (by rw [hF]; exact hi.2)
  apply List.ext_getElem?
  intro j
  rw [List.getElem?_set]
  split
  · rename_i h; subst h
    rw [hg, if_pos (List.getElem?_eq_some_iff.1 hg).1]
  · rfl
def OkF (P : List ProdT) (n : Nat) (F : List Nat) : Prop := SoundF P n F ∧ Sets F
def ClosedAt (n : Nat) (E : List Bool) (F : List Nat) (p : ProdT) : Prop := okI n p.sort → ∀ t, (rowT E F p.body).1.testBit t = true → (atI F p.sort).testBit t = true
theorem okF_set {p : ProdT} (hE : SoundE P n E) (hp : p ∈ P) (h : OkF P n F) (hs : okI n p.sort) : OkF P n (F.set p.sort.toNat ((rowT E F p.body).1 ||| atI F p.sort)) := by
  refine ⟨soundF_set h.1 hs fun t ht => ?_, sets_set h.2 (or_lt (rowT_lt h.2 _) (sets_at h.2 hs.1 (by rw [h.1.1]; exact hs.2)))⟩
  rw [Nat.testBit_or, Bool.or_eq_true] at ht
  rcases ht with ht | ht
  · exact sound_row hE h.1 hp hs ht
  · exact h.1.2 _ _ hs ht
theorem or_sub {x y t : Nat} (h : x ||| y = y) (ht : x.testBit t = true) : y.testBit t = true := by
  have := congrArg (Nat.testBit · t) h
  simp only [Nat.testBit_or, ht, Bool.true_or] at this
  exact this.symm
theorem firstStep_up {p : ProdT} (hE : SoundE P n E) (hp : p ∈ P) (s : FS) (h : OkF P n s.F) : OkF P n (firstStep n E s p).F ∧
    ((firstStep n E s p = s ∧ ClosedAt n E s.F p) ∨ ((firstStep n E s p).ch = true ∧ cntS s.F < cntS (firstStep n E s p).F)) := by
  unfold firstStep
  by_cases hs : okI n p.sort
  · rw [if_pos hs]
    refine ⟨okF_set hE hp h hs, ?_⟩
    have hlt := rowT_lt (E := E) h.2 p.body
    have hF := sets_at h.2 hs.1 (by rw [h.1.1]; exact hs.2)
    by_cases heq : (rowT E s.F p.body).1 ||| atI s.F p.sort = atI s.F p.sort
    · left
      rw [heq, set_same h.1.1 hs]
      refine ⟨by simp, fun _ t ht => or_sub heq ht⟩
    · right
      refine ⟨by simp [heq], ?_⟩
      have hg := at_get (l := s.F) hs.1 (by rw [h.1.1]; exact hs.2)
      rcases bitc_or hF hlt with h1 | h1
      · rw [Nat.or_comm] at h1; exact absurd h1 heq
      · rw [Nat.or_comm] at h1
        rcases cntS_set s.F p.sort.toNat (atI s.F p.sort) _ hg (.inr h1) with h2 | h2
        · exfalso
          have h3 := at_set (v := (rowT E s.F p.body).1 ||| atI s.F p.sort) h.1.1 hs hs
          rw [h2, if_pos rfl] at h3
          exact heq h3.symm
        · exact h2
  · rw [if_neg hs]
    exact ⟨h, .inl ⟨rfl, fun h => absurd h hs⟩⟩
theorem firstFold (hE : SoundE P n E) : ∀ (l : List ProdT), (∀ p ∈ l, p ∈ P) → ∀ s : FS, OkF P n s.F → OkF P n (l.foldl (firstStep n E) s).F ∧
    ((l.foldl (firstStep n E) s = s ∧ ∀ p ∈ l, ClosedAt n E s.F p) ∨ ((l.foldl (firstStep n E) s).ch = true ∧ cntS s.F < cntS (l.foldl (firstStep n E) s).F))
  | [], _, s, h => ⟨h, .inl ⟨rfl, fun p hp => by simp at hp⟩⟩
  | p :: l, hl, s, h => by
    obtain ⟨h1, h2⟩ := firstStep_up hE (hl p (by simp)) s h
    obtain ⟨h3, h4⟩ := firstFold hE l (fun q hq => hl q (by simp [hq])) _ h1
    rw [List.foldl_cons]
    refine ⟨h3, ?_⟩
    rcases h2 with ⟨h2, hc⟩ | ⟨h2, hc⟩
    · rw [h2] at h4 ⊢
      rcases h4 with ⟨h4, h5⟩ | h4
      · exact .inl ⟨h4, fun q hq => by
          rcases List.mem_cons.1 hq with rfl | hq
          · exact hc
          · exact h5 q hq⟩
      · exact .inr h4
    · right
      rcases h4 with ⟨h4, _⟩ | ⟨h4, h5⟩
      · rw [h4]; exact ⟨h2, hc⟩
      · exact ⟨h4, Nat.lt_trans hc h5⟩
def firstRound (P : List ProdT) (n : Nat) (E : List Bool) (F : List Nat) : FS := P.foldl (firstStep n E) ⟨F, false⟩
def firstLoop (P : List ProdT) (n : Nat) (E : List Bool) : Nat → List Nat → List Nat
  | 0, F => F
  | k + 1, F => if (firstRound P n E F).ch = true then firstLoop P n E k (firstRound P n E F).F else (firstRound P n E F).F
def firstT (P : List ProdT) (n : Nat) : List Nat := firstLoop P n (emptyT P n) (64 * n + 1) (List.replicate n 0)
theorem firstRound_ok (hE : SoundE P n E) (h : OkF P n F) : OkF P n (firstRound P n E F).F ∧ (((firstRound P n E F).ch = false ∧ (firstRound P n E F).F = F ∧ ClosedF P n E F) ∨ ((firstRound P n E F).ch = true ∧ cntS F < cntS (firstRound P n E F).F)) := by
  obtain ⟨h1, h2⟩ := firstFold hE P (fun _ h => h) ⟨F, false⟩ h
  refine ⟨h1, ?_⟩
  rcases h2 with ⟨h2, h3⟩ | h2
  · left
    unfold firstRound
    rw [h2]
    exact ⟨rfl, rfl, fun p hp => h3 p hp⟩
  · exact .inr h2
theorem firstLoop_ok (hE : SoundE P n E) : ∀ (k : Nat) (F : List Nat), OkF P n F → 64 * n < k + cntS F → OkF P n (firstLoop P n E k F) ∧ ClosedF P n E (firstLoop P n E k F)
  | 0, F, h, hk => by
    have := cntS_le F
    rw [h.1.1] at this
    omega
  | k + 1, F, h, hk => by
    obtain ⟨h1, h2⟩ := firstRound_ok hE h
    rw [firstLoop]
    rcases h2 with ⟨h2, h3, h4⟩ | ⟨h2, h3⟩
    · rw [if_neg (by rw [h2]; decide), h3]
      exact ⟨h, h4⟩
    · rw [if_pos h2]
      exact firstLoop_ok hE k _ h1 (by omega)
theorem okF_zero (P : List ProdT) (n : Nat) : OkF P n (List.replicate n 0) := ⟨soundF_zero P n, fun x hx => by
  rw [(List.mem_replicate.1 hx).2]; decide⟩
theorem first_ok (P : List ProdT) (n : Nat) : OkF P n (firstT P n) ∧ ClosedF P n (emptyT P n) (firstT P n) :=
  firstLoop_ok (empty_ok P n).1 _ _ (okF_zero P n) (by omega)
/-! ### Both at once -/
structure OS where
  E : List Bool
  F : List Nat
  more : Bool
def ofTest (s : OS) (p : ProdT) : Bool := !decide (atI s.F p.sort ||| (rowT s.E s.F p.body).1 = atI s.F p.sort) || ((rowT s.E s.F p.body).2 && !atI s.E p.sort)
def ofStep (n : Nat) (s : OS) (p : ProdT) : OS := if okI n p.sort then
    if ofTest s p = true then ⟨s.E.set p.sort.toNat (atI s.E p.sort || (rowT s.E s.F p.body).2), s.F.set p.sort.toNat (atI s.F p.sort ||| (rowT s.E s.F p.body).1), true⟩ else s
  else s
def OkO (P : List ProdT) (n : Nat) (s : OS) : Prop := SoundE P n s.E ∧ OkF P n s.F
def ClosedO (n : Nat) (s : OS) (p : ProdT) : Prop := okI n p.sort → ofTest s p = false
def cntO (s : OS) : Nat := cntB s.E + cntS s.F
theorem setB_same {i : Int} (hE : E.length = n) (hi : okI n i) : E.set i.toNat (atI E i) = E := by
  have hg := at_get (l := E) hi.1 (by rw [hE]; exact hi.2)
  apply List.ext_getElem?
  intro j
  rw [List.getElem?_set]
  split
  · rename_i h; subst h
    rw [hg, if_pos (List.getElem?_eq_some_iff.1 hg).1]
  · rfl
theorem ofStep_up {p : ProdT} (hp : p ∈ P) (s : OS) (h : OkO P n s) : OkO P n (ofStep n s p) ∧ ((ofStep n s p = s ∧ ClosedO n s p) ∨ ((ofStep n s p).more = true ∧ cntO s < cntO (ofStep n s p))) := by
  unfold ofStep
  by_cases hs : okI n p.sort
  · rw [if_pos hs]
    by_cases ht : ofTest s p = true
    · rw [if_pos ht]
      have hlt := rowT_lt (E := s.E) h.2.2 p.body
      have hF := sets_at h.2.2 hs.1 (by rw [h.2.1.1]; exact hs.2)
      have hOF : OkF P n (s.F.set p.sort.toNat (atI s.F p.sort ||| (rowT s.E s.F p.body).1)) := by
        rw [Nat.or_comm]; exact okF_set h.1 hp h.2 hs
      refine ⟨⟨soundE_set h.1 hs fun hb => ?_, hOF⟩, .inr ⟨rfl, ?_⟩⟩
      · rw [Bool.or_eq_true] at hb
        rcases hb with hb | hb
        · exact h.1.2 _ hs hb
        · exact sound_null h.1 hp hs ((row2_iff h.1.1 h.2.1.1 _).1 hb)
      · have hg := at_get (l := s.F) hs.1 (by rw [h.2.1.1]; exact hs.2)
        have hm1 : cntS s.F ≤ cntS (s.F.set p.sort.toNat (atI s.F p.sort ||| (rowT s.E s.F p.body).1)) ∧ (¬ atI s.F p.sort ||| (rowT s.E s.F p.body).1 = atI s.F p.sort → cntS s.F < cntS (s.F.set p.sort.toNat (atI s.F p.sort ||| (rowT s.E s.F p.body).1))) := by
          have hb := bitc_or hF hlt
          have hc := cntS_set s.F p.sort.toNat _ _ hg hb
          refine ⟨?_, fun hne => ?_⟩
          · rcases hc with hc | hc
            · rw [hc]; exact Nat.le_refl _
            · exact Nat.le_of_lt hc
          · rcases hc with hc | hc
            · exfalso
              have h3 := at_set (v := atI s.F p.sort ||| (rowT s.E s.F p.body).1) h.2.1.1 hs hs
              rw [hc, if_pos rfl] at h3
              exact hne h3.symm
            · exact hc
        have hm2 : cntB s.E ≤ cntB (s.E.set p.sort.toNat (atI s.E p.sort || (rowT s.E s.F p.body).2)) ∧ ((rowT s.E s.F p.body).2 = true ∧ atI s.E p.sort = false → cntB s.E < cntB (s.E.set p.sort.toNat (atI s.E p.sort || (rowT s.E s.F p.body).2))) := by
          cases ha : atI s.E p.sort
          · cases hr : (rowT s.E s.F p.body).2
            · have := setB_same h.1.1 hs
              rw [ha] at this
              simp [this]
            · simp only [Bool.or_true]
              rcases cnt_set s.E p.sort.toNat with hc | hc
              · exfalso
                have h3 := at_set (v := true) h.1.1 hs hs
                rw [hc, if_pos rfl, ha] at h3
                cases h3
              · exact ⟨Nat.le_of_lt hc, fun _ => hc⟩
          · have := setB_same h.1.1 hs
            rw [ha] at this
            simp [this]
        unfold cntO
        simp only [ofTest, Bool.or_eq_true, Bool.not_eq_true', decide_eq_false_iff_not, Bool.and_eq_true] at ht
        show cntB s.E + cntS s.F < cntB (s.E.set p.sort.toNat (atI s.E p.sort || (rowT s.E s.F p.body).2)) + cntS (s.F.set p.sort.toNat (atI s.F p.sort ||| (rowT s.E s.F p.body).1))
        rcases ht with ht | ht
        · have := hm1.2 ht; have := hm2.1; omega
        · have := hm2.2 ⟨ht.1, ht.2⟩; have := hm1.1; omega
    · rw [if_neg ht]
      exact ⟨h, .inl ⟨rfl, fun _ => by simpa using ht⟩⟩
  · rw [if_neg hs]
    exact ⟨h, .inl ⟨rfl, fun h => absurd h hs⟩⟩
theorem ofFold : ∀ (l : List ProdT), (∀ p ∈ l, p ∈ P) → ∀ s : OS, OkO P n s → OkO P n (l.foldl (ofStep n) s) ∧
    ((l.foldl (ofStep n) s = s ∧ ∀ p ∈ l, ClosedO n s p) ∨ ((l.foldl (ofStep n) s).more = true ∧ cntO s < cntO (l.foldl (ofStep n) s)))
  | [], _, s, h => ⟨h, .inl ⟨rfl, fun p hp => by simp at hp⟩⟩
  | p :: l, hl, s, h => by
    obtain ⟨h1, h2⟩ := ofStep_up (hl p (by simp)) s h
    obtain ⟨h3, h4⟩ := ofFold l (fun q hq => hl q (by simp [hq])) _ h1
    rw [List.foldl_cons]
    refine ⟨h3, ?_⟩
    rcases h2 with ⟨h2, hc⟩ | ⟨h2, hc⟩
    · rw [h2] at h4 ⊢
      rcases h4 with ⟨h4, h5⟩ | h4
      · exact .inl ⟨h4, fun q hq => by
          rcases List.mem_cons.1 hq with rfl | hq
          · exact hc
          · exact h5 q hq⟩
      · exact .inr h4
    · right
      rcases h4 with ⟨h4, _⟩ | ⟨h4, h5⟩
      · rw [h4]; exact ⟨h2, hc⟩
      · exact ⟨h4, Nat.lt_trans hc h5⟩
theorem cntO_le (s : OS) (h : OkO P n s) : cntO s ≤ 65 * n := by
  have h1 := cnt_le s.E
  have h2 := cntS_le s.F
  rw [h.1.1] at h1
  rw [h.2.1.1] at h2
  unfold cntO; omega
/-- Where nothing more comes, both are what they are by definition. -/
theorem of_fixed {s : OS} (h : OkO P n s) (hc : ∀ p ∈ P, ClosedO n s p) : s.E = emptyT P n ∧ s.F = firstT P n := by
  have hcE : ClosedE P n s.E := fun p hp hs hb => by
    have h1 := hc p hp hs
    simp only [ofTest, Bool.or_eq_false_iff] at h1
    have h2 := h1.2
    rw [(row2_iff h.1.1 h.2.1.1 _).2 hb] at h2
    simpa using h2
  have hcF : ClosedF P n s.E s.F := fun p hp hs t ht => by
    have h1 := hc p hp hs
    simp only [ofTest, Bool.or_eq_false_iff, Bool.not_eq_false', decide_eq_true_eq] at h1
    have h2 := h1.1
    rw [Nat.or_comm] at h2
    exact or_sub h2 ht
  have e1 := uniqE h.1 hcE (empty_ok P n).1 (empty_ok P n).2
  refine ⟨e1, ?_⟩
  rw [e1] at hcF
  exact uniqF (empty_ok P n).1 (empty_ok P n).2 h.2.1 hcF (first_ok P n).1.1 (first_ok P n).2
end Go.Proofs.Ytnceadbfgpiaaaa.F
/- Contracts: bosketref21.Empty. -/
namespace Go.Proofs.Ytnceadbfgpiaaaa.F
open Go G U K J
set_option linter.unusedVariables false
set_option linter.unusedSimpArgs false
set_option maxRecDepth 100000
set_option maxHeartbeats 4000000
theorem fn41 : Try.prog.funcs[41]? = some Try.f41 := by kernel_rfl
/-- Where the rounds stand. -/
def KAt (n : Nat) (k : Int) : Prop := 0 ≤ k ∧ k ≤ (n : Int) + 1
theorem kAt_zero (n : Nat) : KAt n 0 := ⟨by omega, by omega⟩
theorem kAt_end {n : Nat} {k : Int} (h : KAt n k) (hc : decide (k ≤ (n : Int)) = false) : k.toNat = n + 1 := by
  obtain ⟨h0, h1⟩ := h
  simp only [decide_eq_false_iff_not] at hc
  omega
theorem kAt_step {n : Nat} {k : Int} (hn : n ≤ 1000) (h : KAt n k) (hc : decide (k ≤ (n : Int)) = true) : KAt n (k + 1) ∧ U.left (n + 1) (k + 1) < U.left (n + 1) k ∧ arI .add .i64 k 1 = k + 1 ∧ (k + 1).toNat = k.toNat + 1 := by
  obtain ⟨h0, h1⟩ := h
  simp only [decide_eq_true_eq] at hc
  exact ⟨⟨by omega, by omega⟩, by unfold U.left; omega, ar_add64 (by omega) (by omega), by omega⟩
theorem own_bool {Y : List (List AV)} {l : List Bool} (hY : Y = l.map boolC) {n : Nat} (hn : l.length = n) {i : Int} (h : okI n i) : (∀ id, ixSl Try.prog (some ⟨4, Y⟩) id 0 n i 1 = some (.ptr id i.toNat 0)) ∧ ptrCells (some ⟨4, Y⟩) i.toNat 0 = some [.flat (.bool (atI l i))] ∧ ∀ v, storeRow (some ⟨4, Y⟩) i.toNat 0 1 (.flat (.bool v)) = some ⟨4, (l.set i.toNat v).map boolC⟩ := by
  have hg := at_get (l := l) h.1 (by rw [hn]; exact h.2)
  subst hY
  exact ⟨fun id => own_ix c4 h.1 h.2 id, own_cel (get_map h.1 (by rw [hn]; exact h.2)) (Nat.zero_le _), fun v => own_sto hg v rfl (Nat.le_refl 1) rfl rfl⟩
theorem mak_bool (T : Table) (id n : Nat) (hn : n ≤ 1000000) : evMake Try.prog T id 53 (.flat (.int .i64 (n : Int))) (.flat (.int .i64 (n : Int))) = some (.sl id 0 n, T.set id (some ⟨4, (List.replicate n false).map boolC⟩)) := by
  have := mak_zero (P := Try.prog) (T := T) (id := id) (t := 53) (e := 4) (z := .bool false) (sz := 1) (b := 1) (n := n) (k := .i64) (k' := .i64) (by kernel_rfl) (by kernel_rfl) (by decide) rfl rfl (by decide) hn
  rw [show zeroAV (.bool false) = [AV.flat (.bool false)] from rfl, rep_map] at this
  exact this
theorem closed_bool {Y : List (List AV)} {l : List Bool} (hY : Y = l.map boolC) : ∀ c ∈ Y, closedAll [] c = true := by
  rw [hY]; exact closed_map fun _ => rfl
/-- The test over a body, so far. -/
def BAt (n : Nat) (out : List Bool) (body : List SymT) (i : Int) (b : Bool) : Prop := At body i ∧ b = (body.take i.toNat).all (symOk n out)
theorem bAt_next {n : Nat} {out : List Bool} {body : List SymT} {i : Int} {b w : Bool} (h : BAt n out body i b) (hc : decide (i < (body.length : Int)) = true) (hw : w = (b && symOk n out (atI body i))) : BAt n out body (i + 1) w := by
  obtain ⟨_, h0, h1⟩ := at_lt h.1 hc
  refine ⟨(at_step h.1 hc).1, ?_⟩
  rw [take_next h0 h1, List.all_append, hw, h.2]
  simp
theorem bAt_end {n : Nat} {out : List Bool} {body : List SymT} {i : Int} {b : Bool} (h : BAt n out body i b) (hc : decide (i < (body.length : Int)) = false) : b = body.all (symOk n out) := by
  rw [h.2, take_end h.1 hc]
theorem refEmpty_calls (g : GramT) (hs : g.sorts.length ≤ 1000) (hp : g.prods.length ≤ 1000) (hb : ∀ p ∈ g.prods, p.body.length ≤ 1000) :
    ACalls Try.prog 41 [gramV g] (fun k => .sl k 0 g.sorts.length) (fun _ => [⟨4, (emptyT g.prods g.sorts.length).map boolC⟩]) := by
  obtain ⟨rules, sorts, prods, levels, start⟩ := g
  dsimp only at hs hp hb ⊢
  unfold gramV gramL
  dsimp only
  obtain ⟨R, hR⟩ : ∃ X, X = rules.map ruleC := ⟨_, rfl⟩
  obtain ⟨S, hSS⟩ : ∃ X, X = sorts.map strC := ⟨_, rfl⟩
  obtain ⟨D, hD⟩ : ∃ X, X = prods.map prodC := ⟨_, rfl⟩
  obtain ⟨V, hV⟩ : ∃ X, X = levels.map levC := ⟨_, rfl⟩
  rw [← hR, ← hSS, ← hD, ← hV]
  have hlS : lenE S = sorts.length := by rw [hSS, len_map]
  generalize sorts.length = n at hs hlS ⊢
  have hz0 : iter (emptyRound prods n) 0 (List.replicate n false) = List.replicate n false := rfl
  have hzl : ∀ k, (iter (emptyRound prods n) k (List.replicate n false)).length = n := fun k => (iter_sound k).1
  have hup : ∀ (l : List ProdT) (E : List Bool), E.length = n → (l.foldl (emptyStep n) E).length = n := fun l E hE => (up_fold empty_up l E hE).1
  obtain ⟨Y0, hY0⟩ : ∃ Y, Y = (List.replicate n false).map boolC := ⟨_, rfl⟩
  obtain ⟨Z, hZ⟩ : ∃ Z, Z = (emptyT prods n).map boolC := ⟨_, rfl⟩
  rw [← hZ]
  refine acalls_symF tabF_ok fn41 rfl rfl rfl (by kernel_rfl) ?_
  rintro ⟨lt, le, eq, se, ar, dv, una, conv, len, sln, nat, nth, ixs, cel, sto, app, cpy, slc, mak, ixv, oth, dk, ib, call⟩ hS hm Q hQ
  obtain ⟨hlt, hle, heq, hse, har, hdv, huna, hconv, hlen, hsln, hnat, hnth, hixs, hcel, hsto, happ, hcpy, hslc, hmak, hixv, hoth, hdk, hib, hcall⟩ := Sym.mk.inj hS
  clear hS
  have hnt : ∀ n : Nat, nat n = U.natI n := fun n => by rw [hnat]; rfl
  have hbox : ∀ e c off, cel (some ⟨e, [c]⟩) 0 off = if off ≤ c.length then some (c.drop off) else none := fun e c off => by rw [hcel]; rfl
  have hsbox : ∀ e c off sz y, sto (some ⟨e, [c]⟩) 0 off sz y = if y.cells.length = sz ∧ off + sz ≤ c.length ∧ y.cells.all AV.one = true then some ⟨e, [spl c off y.cells]⟩ else none := fun e c off sz y => by rw [hsto]; rfl
  have hcaw : ∀ {f args T base K}, CallK Try.prog f args T base K → call f args T base K := fun h => by rw [hcall]; exact h
  have hcal : ∀ {f args T base} {K : AV → Table → List Nat → List Nat → Prop}, (∃ args' ids val rows, Hands T ids args args' (val base) (rows base) ∧ ACalls Try.prog f args' val rows ∧ (rows base).length ≤ 8 ∧ K (val base) (adopt T base (rows base)) ids ((List.range (rows base).length).map (base + ·))) → call f args T base K := fun h => hcaw (call_own h)
  have hnS : len S = nat n := by rw [hlen, hnat]; exact hlS
  have hnD : len D = prods.length := by rw [hlen, hD, len_map]
  have hmk : ∀ T id, mak T id 53 (.flat (.int .i64 (len S))) (.flat (.int .i64 (len S))) = some (.sl id 0 n, T.set id (some ⟨4, Y0⟩)) := fun T id => by
    rw [hmak, hnS, hnat, hY0]
    exact mak_bool T id n (Nat.le_trans hs (by decide))
  have hlk : ∀ k, le k (nat n) = decide (k ≤ (n : Int)) := fun k => by rw [hle, hnat]
  cbv
  repeat (first | (rw [hbox]; cbv))
  rw [hmk]; cbv
  refine MW_loop hm [0, 40] [1, 3, 4] 5 (by simp) (fun m st => ∃ (k : Int) (out : List Bool) (Y : List (List AV)), KAt n k ∧ out = iter (emptyRound prods n) k.toNat (List.replicate n false) ∧ Y = out.map boolC ∧ m = U.left (n + 1) k ∧
    st = stOf [.dead, .ptr 0 0 0, .dead, .sl 1 0 n, .flat (.int .i64 k)] [some ⟨39, [[.ro R, .ro S, .ro D, .ro V, .flat (.int .i64 start)]]⟩, some ⟨4, Y⟩] 2) (U.left (n + 1) 0) ?_ ?_
  · exact ⟨0, _, Y0, kAt_zero n, rfl, by rw [hY0]; rfl, rfl, cut_eq (by cbv) (cutRows_cons (by rfl) (by simp [closedAll, closedIn]) (cutRows_cons (by rfl) (closed_bool hY0) rfl))⟩
  rintro m st ⟨k, out, Y, hk, hout, hY, hmk', rfl⟩
  cases hc : le k (nat n)
  · have hc' := (hlk k).symm.trans hc
    have hkn := kAt_end hk hc'
    have hYZ : Y = Z := by rw [hY, hZ, hout, hkn]; rfl
    have hcl := closed_bool hY
    cbv
    rw [hc]; cbv
    refine hQ _ _ trivial ?_
    rw [← hYZ]
    exact G.Leaves.row (k := 1) (r := ⟨4, Y⟩) (by cbv) (by rfl) hcl
  have hc' := (hlk k).symm.trans hc
  obtain ⟨k1, k2, k3, k4⟩ := kAt_step hs hk hc'
  rw [← har] at k3
  have hol : out.length = n := by rw [hout]; exact hzl _
  have hnext : emptyRound prods n out = iter (emptyRound prods n) (k + 1).toNat (List.replicate n false) := by rw [k4, hout]; rfl
  generalize k + 1 = kk at k1 k2 k3 hnext
  cbv
  rw [hc]; cbv
  refine MW_loop hm [0, 1] [1, 3, 4, 5] 6 (by simp) (fun m st => ∃ (i : Int) (o : List Bool) (Y : List (List AV)), At prods i ∧ o = (prods.take i.toNat).foldl (emptyStep n) out ∧ o.length = n ∧ Y = o.map boolC ∧ m = U.left prods.length i ∧
    st = stOf [.dead, .ptr 0 0 0, .dead, .sl 1 0 n, .flat (.int .i64 k), .flat (.int .i64 i)] [some ⟨39, [[.ro R, .ro S, .ro D, .ro V, .flat (.int .i64 start)]]⟩, some ⟨4, Y⟩] 2) (U.left prods.length 0) ?_ ?_
  · exact ⟨0, out, Y, at_zero prods, rfl, hol, hY, rfl, cut_eq (by cbv) (cutRows_cons (by rfl) (by simp [closedAll, closedIn]) (cutRows_cons (by rfl) (closed_bool hY) rfl))⟩
  clear hY Y
  rintro m2 st ⟨i, o, Y, hi, ho, hol', hY, hm2, rfl⟩
  cases hc2 : lt i (len D)
  · have hc2' : decide (i < (prods.length : Int)) = false := by rw [hlt, hnD] at hc2; exact hc2
    rw [take_end hi hc2'] at ho
    have ho2 : o = iter (emptyRound prods n) kk.toNat (List.replicate n false) := ho.trans hnext
    cbv
    rw [hbox]; cbv
    rw [hc2]; cbv
    rw [k3]
    exact ⟨[0, 1], [1, 3, 4], 5, U.left (n + 1) kk, hmk' ▸ k2, by simp, kk, o, Y, k1, ho2, hY, rfl, cut_eq (by cbv) (cutRows_cons (by rfl) (by simp [closedAll, closedIn]) (cutRows_cons (by rfl) (closed_bool hY) rfl))⟩
  have hc2' : decide (i < (prods.length : Int)) = true := by rw [hlt, hnD] at hc2; exact hc2
  obtain ⟨_, i0, i1⟩ := at_lt hi hc2'
  obtain ⟨q1, q2⟩ := at_step hi hc2'
  have hadd : ar .add .i64 i 1 = i + 1 := by rw [har]; exact at_add (Nat.le_trans hp (by decide)) hi hc2'
  have hix : nth D i 6 = some (.rp (prodC (atI prods i))) := by rw [hnth, hD]; exact nth_map (fun _ => rfl) i0 i1
  have hstep := fold_next (emptyStep n) out i0 i1
  rw [← ho] at hstep
  have hbody := hb _ (at_mem i0 i1)
  generalize atI prods i = p at hix hstep hbody
  obtain ⟨ps, pc, pb, pp, pe, ph⟩ := p
  dsimp only at hbody
  obtain ⟨B, hB⟩ : ∃ X, X = pb.map symC := ⟨_, rfl⟩
  obtain ⟨H, hH⟩ : ∃ X, X = ph.map intC := ⟨_, rfl⟩
  unfold prodC at hix
  dsimp only at hix
  rw [← hB, ← hH] at hix
  have hnB : len B = pb.length := by rw [hlen, hB, len_map]
  generalize i + 1 = i2 at q1 q2 hadd hstep
  have hsetl : (o.set ps.toNat true).length = n := by rw [List.length_set]; exact hol'
  have hno : pb.all (symOk n o) = false ∨ ¬ okI n ps → o = (prods.take i2.toNat).foldl (emptyStep n) out := fun h => by
    rw [hstep]
    unfold emptyStep
    rw [if_neg]
    rintro ⟨a, b⟩
    rcases h with h | h
    · rw [a] at h; cases h
    · exact h b
  have hyes : pb.all (symOk n o) = true → okI n ps → o.set ps.toNat true = (prods.take i2.toNat).foldl (emptyStep n) out := fun h1 h2 => by
    rw [hstep]
    unfold emptyStep
    rw [if_pos ⟨h1, h2⟩]
  have hps0 : le 0 ps = decide (0 ≤ ps) := by rw [hle]
  have hps1 : lt ps (nat n) = decide (ps < (n : Int)) := by rw [hlt, hnat]
  cbv
  rw [hbox]; cbv
  rw [hc2]; cbv
  repeat (first | (rw [hbox]; cbv) | (rw [hix]; cbv) | (rw [hsbox]; cbv))
  refine MW_loop hm [0, 1, 82] [1, 3, 4, 5, 6, 7, 8] 9 (by simp) (fun m st => ∃ (j : Int) (b : Bool), BAt n o pb j b ∧ m = U.left pb.length j ∧
    st = stOf [.dead, .ptr 0 0 0, .dead, .sl 1 0 n, .flat (.int .i64 k), .flat (.int .i64 i), .ptr 2 0 0, .flat (.bool b), .flat (.int .i64 j)] [some ⟨39, [[.ro R, .ro S, .ro D, .ro V, .flat (.int .i64 start)]]⟩, some ⟨4, Y⟩, some ⟨75, [[.flat (.int .i64 ps), .flat (.string pc), .ro B, .flat (.bool pp), .flat (.int .i64 pe), .ro H]]⟩] 3) (U.left pb.length 0) ?_ ?_
  · exact ⟨0, true, ⟨at_zero pb, rfl⟩, rfl, cut_eq (by cbv) (cutRows_cons (by rfl) (by simp [closedAll, closedIn]) (cutRows_cons (by rfl) (closed_bool hY) (cutRows_cons (by rfl) (by simp [closedAll, closedIn]) rfl)))⟩
  rintro m3 st ⟨j, b, hj, hm3, rfl⟩
  cases hc3 : lt j (len B)
  · have hc3' : decide (j < (pb.length : Int)) = false := by rw [hlt, hnB] at hc3; exact hc3
    have hbe := bAt_end hj hc3'
    have hown : okI n ps → _ := fun h => own_bool hY hol' h
    rw [← hixs, ← hcel, ← hsto] at hown
    obtain ⟨Y2, hY2⟩ : ∃ X, X = (o.set ps.toNat true).map boolC := ⟨_, rfl⟩
    have hown2 : okI n ps → (∀ id, ixs (some ⟨4, Y⟩) id 0 n ps 1 = some (.ptr id ps.toNat 0)) ∧ sto (some ⟨4, Y⟩) ps.toNat 0 1 (.flat (.bool true)) = some ⟨4, Y2⟩ := fun h => ⟨(hown h).1, by rw [hY2]; exact (hown h).2.2 true⟩
    clear hown
    generalize ps.toNat = pj at hown2 hyes hY2 hsetl
    cbv
    repeat (first | (rw [hbox]; cbv) | (rw [hc3]; cbv))
    cases b
    · have ho2 := hno (.inl hbe.symm)
      cbv
      rw [hadd]
      exact ⟨[0, 1], [1, 3, 4, 5], 6, U.left prods.length i2, hm2 ▸ q2, by simp, i2, o, Y, q1, ho2, hol', hY, rfl, cut_eq (by cbv) (cutRows_cons (by rfl) (by simp [closedAll, closedIn]) (cutRows_cons (by rfl) (closed_bool hY) rfl))⟩
    cbv
    repeat (first | (rw [hbox]; cbv))
    cases e1 : le 0 ps
    · have ho2 := hno (.inr fun h => of_decide_eq_false (hps0.symm.trans e1) h.1)
      cbv
      rw [hadd]
      exact ⟨[0, 1], [1, 3, 4, 5], 6, U.left prods.length i2, hm2 ▸ q2, by simp, i2, o, Y, q1, ho2, hol', hY, rfl, cut_eq (by cbv) (cutRows_cons (by rfl) (by simp [closedAll, closedIn]) (cutRows_cons (by rfl) (closed_bool hY) rfl))⟩
    cbv
    repeat (first | (rw [hbox]; cbv))
    cases e2 : lt ps (nat n)
    · have ho2 := hno (.inr fun h => of_decide_eq_false (hps1.symm.trans e2) h.2)
      cbv
      rw [hadd]
      exact ⟨[0, 1], [1, 3, 4, 5], 6, U.left prods.length i2, hm2 ▸ q2, by simp, i2, o, Y, q1, ho2, hol', hY, rfl, cut_eq (by cbv) (cutRows_cons (by rfl) (by simp [closedAll, closedIn]) (cutRows_cons (by rfl) (closed_bool hY) rfl))⟩
    have hok : okI n ps := ⟨of_decide_eq_true (hps0.symm.trans e1), of_decide_eq_true (hps1.symm.trans e2)⟩
    obtain ⟨hix2, hst2⟩ := hown2 hok
    have ho2 := hyes hbe.symm hok
    cbv
    repeat (first | (rw [hbox]; cbv) | (rw [hix2]; cbv))
    rw [hst2]; cbv
    rw [hadd]
    exact ⟨[0, 1], [1, 3, 4, 5], 6, U.left prods.length i2, hm2 ▸ q2, by simp, i2, _, Y2, q1, ho2, hsetl, hY2, rfl, cut_eq (by cbv) (cutRows_cons (by rfl) (by simp [closedAll, closedIn]) (cutRows_cons (by rfl) (closed_bool hY2) rfl))⟩
  have hc3' : decide (j < (pb.length : Int)) = true := by rw [hlt, hnB] at hc3; exact hc3
  obtain ⟨_, j0, j1⟩ := at_lt hj.1 hc3'
  have r2 := (at_step hj.1 hc3').2
  have hadd3 : ar .add .i64 j 1 = j + 1 := by rw [har]; exact at_add (Nat.le_trans hbody (by decide)) hj.1 hc3'
  have hix3 : nth B j 2 = some (.rp (symC (atI pb j))) := by rw [hnth, hB]; exact nth_map (fun _ => rfl) j0 j1
  have hnx := fun w => bAt_next (w := w) hj hc3'
  generalize atI pb j = s at hix3 hnx
  obtain ⟨ss, sn⟩ := s
  have hsym : symOk n o ⟨ss, sn⟩ = (ss && (le 0 sn && (lt sn (nat n) && atI o sn))) := by rw [hle, hlt, hnat]; rfl
  rw [hsym] at hnx
  have hel : le 0 sn = true → lt sn (nat n) = true → (∀ id, ixs (some ⟨4, Y⟩) id 0 n sn 1 = some (.ptr id sn.toNat 0)) ∧ cel (some ⟨4, Y⟩) sn.toNat 0 = some [.flat (.bool (atI o sn))] := fun h1 h2 => by
    have hok : okI n sn := ⟨by rw [hle] at h1; exact of_decide_eq_true h1, by rw [hlt, hnat] at h2; exact of_decide_eq_true h2⟩
    rw [hixs, hcel]
    exact ⟨(own_bool hY hol' hok).1, (own_bool hY hol' hok).2.1⟩
  generalize atI o sn = ev at hel hnx
  generalize sn.toNat = sj at hel
  generalize j + 1 = j2 at r2 hadd3 hnx
  have hcr : ∀ T : Table, T 0 = some ⟨39, [[.ro R, .ro S, .ro D, .ro V, .flat (.int .i64 start)]]⟩ → T 1 = some ⟨4, Y⟩ → T 2 = some ⟨75, [[.flat (.int .i64 ps), .flat (.string pc), .ro B, .flat (.bool pp), .flat (.int .i64 pe), .ro H]]⟩ → cutRows [0, 1, 2] T [0, 1, 2] = [some ⟨39, [[.ro R, .ro S, .ro D, .ro V, .flat (.int .i64 start)]]⟩, some ⟨4, Y⟩, some ⟨75, [[.flat (.int .i64 ps), .flat (.string pc), .ro B, .flat (.bool pp), .flat (.int .i64 pe), .ro H]]⟩] := fun T h1 h2 h3 => cutRows_cons h1 (by simp [closedAll, closedIn]) (cutRows_cons h2 (closed_bool hY) (cutRows_cons h3 (by simp [closedAll, closedIn]) rfl))
  cbv
  repeat (first | (rw [hbox]; cbv) | (rw [hc3]; cbv) | (rw [hix3]; cbv) | (rw [hsbox]; cbv))
  cases b
  · have hw := hnx false rfl
    cbv
    rw [hadd3]
    exact ⟨[0, 1, 2], [1, 3, 4, 5, 6, 7, 8], 9, U.left pb.length j2, hm3 ▸ r2, by simp, j2, _, hw, rfl, cut_eq (by cbv) (hcr _ (by rfl) (by rfl) (by rfl))⟩
  cbv
  repeat (first | (rw [hbox]; cbv))
  cases ss
  · have hw := hnx false rfl
    cbv
    rw [hadd3]
    exact ⟨[0, 1, 2], [1, 3, 4, 5, 6, 7, 8], 9, U.left pb.length j2, hm3 ▸ r2, by simp, j2, _, hw, rfl, cut_eq (by cbv) (hcr _ (by rfl) (by rfl) (by rfl))⟩
  cbv
  repeat (first | (rw [hbox]; cbv))
  cases e1 : le 0 sn
  · have hw := hnx false (by rw [e1]; rfl)
    cbv
    rw [hadd3]
    exact ⟨[0, 1, 2], [1, 3, 4, 5, 6, 7, 8], 9, U.left pb.length j2, hm3 ▸ r2, by simp, j2, _, hw, rfl, cut_eq (by cbv) (hcr _ (by rfl) (by rfl) (by rfl))⟩
  cbv
  repeat (first | (rw [hbox]; cbv))
  cases e2 : lt sn (nat n)
  · have hw := hnx false (by rw [e1, e2]; rfl)
    cbv
    rw [hadd3]
    exact ⟨[0, 1, 2], [1, 3, 4, 5, 6, 7, 8], 9, U.left pb.length j2, hm3 ▸ r2, by simp, j2, _, hw, rfl, cut_eq (by cbv) (hcr _ (by rfl) (by rfl) (by rfl))⟩
  obtain ⟨hel1, hel2⟩ := hel e1 e2
  have hw := hnx ev (by rw [e1, e2]; rfl)
  cbv
  repeat (first | (rw [hbox]; cbv) | (rw [hel1]; cbv) | (rw [hel2]; cbv))
  rw [hadd3]
  exact ⟨[0, 1, 2], [1, 3, 4, 5, 6, 7, 8], 9, U.left pb.length j2, hm3 ▸ r2, by simp, j2, _, hw, rfl, cut_eq (by cbv) (hcr _ (by rfl) (by rfl) (by rfl))⟩
end Go.Proofs.Ytnceadbfgpiaaaa.F
/- Contracts: bosketref21.First. -/
namespace Go.Proofs.Ytnceadbfgpiaaaa.F
open Go G U K J
set_option linter.unusedVariables false
set_option linter.unusedSimpArgs false
set_option maxRecDepth 100000
set_option maxHeartbeats 4000000
theorem fn42 : Try.prog.funcs[42]? = some Try.f42 := by kernel_rfl
theorem own_set {Y : List (List AV)} {l : List Nat} (hY : Y = l.map setC) {n : Nat} (hn : l.length = n) {i : Int} (h : okI n i) : (∀ id, ixSl Try.prog (some ⟨26, Y⟩) id 0 n i 1 = some (.ptr id i.toNat 0)) ∧ ptrCells (some ⟨26, Y⟩) i.toNat 0 = some [.flat (.int .u64 ((atI l i : Nat) : Int))] ∧ ∀ v : Nat, storeRow (some ⟨26, Y⟩) i.toNat 0 1 (.flat (.int .u64 (v : Int))) = some ⟨26, (l.set i.toNat v).map setC⟩ := by
  have hg := at_get (l := l) h.1 (by rw [hn]; exact h.2)
  subst hY
  exact ⟨fun id => own_ix c22 h.1 h.2 id, own_cel (get_map h.1 (by rw [hn]; exact h.2)) (Nat.zero_le _), fun v => own_sto hg v rfl (Nat.le_refl 1) rfl rfl⟩
theorem rep_set (n : Nat) : List.replicate n [AV.flat (.int .u64 0)] = (List.replicate n 0).map setC := by simp [setC]
theorem mak_set (T : Table) (id n : Nat) (hn : n ≤ 1000000) : evMake Try.prog T id 54 (.flat (.int .i64 (n : Int))) (.flat (.int .i64 (n : Int))) = some (.sl id 0 n, T.set id (some ⟨26, (List.replicate n 0).map setC⟩)) := by
  have := mak_zero (P := Try.prog) (T := T) (id := id) (t := 54) (e := 26) (z := .int .u64 0) (sz := 1) (b := 8) (n := n) (k := .i64) (k' := .i64) (by kernel_rfl) (by kernel_rfl) (by decide) rfl rfl (by decide) hn
  rw [show zeroAV (.int .u64 0) = [AV.flat (.int .u64 0)] from rfl, rep_set] at this
  exact this
theorem closed_set {Y : List (List AV)} {l : List Nat} (hY : Y = l.map setC) : ∀ c ∈ Y, closedAll [] c = true := by
  rw [hY]; exact closed_map fun _ => rfl
/-- Where the rounds stand. -/
def FK (P : List ProdT) (n : Nat) (F : List Nat) (k : Int) : Prop := 0 ≤ k ∧ k ≤ 64 * (n : Int) + 1 ∧ OkF P n F ∧ firstLoop P n (emptyT P n) (64 * (n : Int) + 1 - k).toNat F = firstT P n
section
variable {P : List ProdT} {n : Nat} {F : List Nat} {k : Int}
theorem fK_zero (P : List ProdT) (n : Nat) : FK P n (List.replicate n 0) 0 := ⟨by omega, by omega, okF_zero P n, by
  rw [show (64 * (n : Int) + 1 - 0).toNat = 64 * n + 1 by omega]; rfl⟩
theorem fK_end (h : FK P n F k) (hc : decide (k ≤ 64 * (n : Int)) = false) : F = firstT P n := by
  obtain ⟨h0, h1, h2, h3⟩ := h
  simp only [decide_eq_false_iff_not] at hc
  rw [show (64 * (n : Int) + 1 - k).toNat = 0 by omega] at h3
  exact h3
theorem fK_step (hn : n ≤ 1000) (h : FK P n F k) (hc : decide (k ≤ 64 * (n : Int)) = true) : arI .add .i64 k 1 = k + 1 ∧ U.left (64 * n + 1) (k + 1) < U.left (64 * n + 1) k ∧
    ((firstRound P n (emptyT P n) F).ch = false → (firstRound P n (emptyT P n) F).F = firstT P n) ∧ ((firstRound P n (emptyT P n) F).ch = true → FK P n (firstRound P n (emptyT P n) F).F (k + 1)) := by
  obtain ⟨h0, h1, h2, h3⟩ := h
  simp only [decide_eq_true_eq] at hc
  have e : (64 * (n : Int) + 1 - k).toNat = (64 * (n : Int) + 1 - (k + 1)).toNat + 1 := by omega
  rw [e, firstLoop] at h3
  refine ⟨ar_add64 (by omega) (by omega), by unfold U.left; omega, fun hh => ?_, fun hh => ?_⟩
  · rw [if_neg (by rw [hh]; decide)] at h3; exact h3
  · rw [if_pos hh] at h3
    exact ⟨by omega, by omega, (firstRound_ok (empty_ok P n).1 h2).1, h3⟩
/-- Within a round. -/
def FI (P : List ProdT) (n : Nat) (F : List Nat) (i : Int) (s : FS) : Prop := At P i ∧ s = (P.take i.toNat).foldl (firstStep n (emptyT P n)) ⟨F, false⟩ ∧ OkF P n s.F
theorem fI_zero (h : OkF P n F) : FI P n F 0 ⟨F, false⟩ := ⟨at_zero P, rfl, h⟩
theorem fI_end {i : Int} {s : FS} (h : FI P n F i s) (hc : decide (i < (P.length : Int)) = false) : s = firstRound P n (emptyT P n) F := by
  rw [h.2.1, take_end h.1 hc]; rfl
theorem fI_next {i : Int} {s : FS} (h : FI P n F i s) (hc : decide (i < (P.length : Int)) = true) : FI P n F (i + 1) (firstStep n (emptyT P n) s (atI P i)) := by
  obtain ⟨_, h0, h1⟩ := at_lt h.1 hc
  refine ⟨(at_step h.1 hc).1, ?_, (firstStep_up (empty_ok P n).1 (at_mem h0 h1) s h.2.2).1⟩
  rw [fold_next _ _ h0 h1, ← h.2.1]
end
theorem mul64 {n : Nat} (hn : n ≤ 1000) : arI .mul .i64 64 (n : Int) = 64 * (n : Int) := by
  show IntKind.i64.wrap (64 * (n : Int)) = _
  rw [IntKind.wrap_i64]
  omega
theorem refFirst_calls (g : GramT) (hs : g.sorts.length ≤ 1000) (hp : g.prods.length ≤ 1000) (hb : ∀ p ∈ g.prods, p.body.length ≤ 1000) :
    ACalls Try.prog 42 [gramV g] (fun k => .sl k 0 g.sorts.length) (fun _ => [⟨26, (firstT g.prods g.sorts.length).map setC⟩]) := by
  have hcE := refEmpty_calls g hs hp hb
  obtain ⟨rules, sorts, prods, levels, start⟩ := g
  unfold gramV gramL at hcE ⊢
  dsimp only at hs hp hb hcE ⊢
  obtain ⟨R, hR⟩ : ∃ X, X = rules.map ruleC := ⟨_, rfl⟩
  obtain ⟨S, hSS⟩ : ∃ X, X = sorts.map strC := ⟨_, rfl⟩
  obtain ⟨D, hD⟩ : ∃ X, X = prods.map prodC := ⟨_, rfl⟩
  obtain ⟨V, hV⟩ : ∃ X, X = levels.map levC := ⟨_, rfl⟩
  rw [← hR, ← hSS, ← hD, ← hV] at hcE ⊢
  have hlS : lenE S = sorts.length := by rw [hSS, len_map]
  generalize sorts.length = n at hs hlS hcE ⊢
  have hE := empty_ok prods n
  have hK0 := fK_zero prods n
  have hcRow := fun F (hF : Sets F) (p : ProdT) => refRow_calls (emptyT prods n) F hF p.body
  obtain ⟨EE, hEE⟩ : ∃ Y, Y = (emptyT prods n).map boolC := ⟨_, rfl⟩
  have hEl : n = EE.length := by rw [hEE, List.length_map, hE.1.1]
  have hEf : flatRow EE := by rw [hEE]; exact flat_bool _
  rw [← hEE] at hcE
  obtain ⟨Y0, hY0⟩ : ∃ Y, Y = (List.replicate n 0).map setC := ⟨_, rfl⟩
  obtain ⟨Z, hZ⟩ : ∃ Z, Z = (firstT prods n).map setC := ⟨_, rfl⟩
  rw [← hZ]
  refine acalls_symF tabF_ok fn42 rfl rfl rfl (by kernel_rfl) ?_
  rintro ⟨lt, le, eq, se, ar, dv, una, conv, len, sln, nat, nth, ixs, cel, sto, app, cpy, slc, mak, ixv, oth, dk, ib, call⟩ hS hm Q hQ
  obtain ⟨hlt, hle, heq, hse, har, hdv, huna, hconv, hlen, hsln, hnat, hnth, hixs, hcel, hsto, happ, hcpy, hslc, hmak, hixv, hoth, hdk, hib, hcall⟩ := Sym.mk.inj hS
  clear hS
  have hnt : ∀ n : Nat, nat n = U.natI n := fun n => by rw [hnat]; rfl
  have hbox : ∀ e c off, cel (some ⟨e, [c]⟩) 0 off = if off ≤ c.length then some (c.drop off) else none := fun e c off => by rw [hcel]; rfl
  have hsbox : ∀ e c off sz y, sto (some ⟨e, [c]⟩) 0 off sz y = if y.cells.length = sz ∧ off + sz ≤ c.length ∧ y.cells.all AV.one = true then some ⟨e, [spl c off y.cells]⟩ else none := fun e c off sz y => by rw [hsto]; rfl
  have hcaw : ∀ {f args T base K}, CallK Try.prog f args T base K → call f args T base K := fun h => by rw [hcall]; exact h
  have hcal : ∀ {f args T base} {K : AV → Table → List Nat → List Nat → Prop}, (∃ args' ids val rows, Hands T ids args args' (val base) (rows base) ∧ ACalls Try.prog f args' val rows ∧ (rows base).length ≤ 8 ∧ K (val base) (adopt T base (rows base)) ids ((List.range (rows base).length).map (base + ·))) → call f args T base K := fun h => hcaw (call_own h)
  have hnS : len S = nat n := by rw [hlen, hnat]; exact hlS
  have hnD : len D = prods.length := by rw [hlen, hD, len_map]
  have hmk : ∀ T id, mak T id 54 (.flat (.int .i64 (len S))) (.flat (.int .i64 (len S))) = some (.sl id 0 n, T.set id (some ⟨26, Y0⟩)) := fun T id => by
    rw [hmak, hnS, hnat, hY0]
    exact mak_set T id n (Nat.le_trans hs (by decide))
  obtain ⟨lim, hlim⟩ : ∃ lim, lim = ar .mul .i64 64 (nat n) := ⟨_, rfl⟩
  have hlk : ∀ k, le k lim = decide (k ≤ 64 * (n : Int)) := fun k => by
    rw [hlim, hle, har, hnat]
    show decide (k ≤ arI .mul .i64 64 (n : Int)) = _
    rw [mul64 hs]
  replace hlim := hlim.symm
  cbv
  repeat (first | (rw [hbox]; cbv))
  refine hcal ⟨_, [], _, _, .inl ⟨rfl, by cbv⟩, hcE, by simp, ?_⟩
  cbv
  repeat (first | (rw [hbox]; cbv))
  rw [hmk]; cbv
  refine MW_loop hm [0, 24, 64] [1, 3, 4, 5] 6 (by simp) (fun m st => ∃ (k : Int) (F : List Nat) (Y : List (List AV)), FK prods n F k ∧ Y = F.map setC ∧ m = U.left (64 * n + 1) k ∧
    st = stOf [.dead, .ptr 0 0 0, .dead, .sl 1 0 n, .sl 2 0 n, .flat (.int .i64 k)] [some ⟨39, [[.ro R, .ro S, .ro D, .ro V, .flat (.int .i64 start)]]⟩, some ⟨4, EE⟩, some ⟨26, Y⟩] 3) (U.left (64 * n + 1) 0) ?_ ?_
  · exact ⟨0, _, Y0, hK0, hY0, rfl, cut_eq (by cbv) (cutRows_cons (by rfl) (by simp [closedAll, closedIn]) (cutRows_cons (by rfl) (closed_bool hEE) (cutRows_cons (by rfl) (closed_set hY0) rfl)))⟩
  rintro m st ⟨k, F, Y, hk, hY, hm1, rfl⟩
  cases hc : le k lim
  · have hc' := (hlk k).symm.trans hc
    have hYZ : Y = Z := by rw [hY, hZ, fK_end hk hc']
    have hcl := closed_set hY
    cbv
    rw [hlim, hc]; cbv
    refine hQ _ _ trivial ?_
    rw [← hYZ]
    exact G.Leaves.row (k := 2) (r := ⟨26, Y⟩) (by cbv) (by rfl) hcl
  have hc' := (hlk k).symm.trans hc
  obtain ⟨k3, k2, kend, knext⟩ := fK_step hs hk hc'
  have hI0 := fI_zero (F := F) hk.2.2.1
  have hYI : Y = (FS.mk F false).F.map setC := hY
  rw [← har] at k3
  generalize k + 1 = kk at k2 k3 knext
  cbv
  rw [hlim, hc]; cbv
  refine MW_loop hm [0, 1, 2] [1, 3, 4, 5, 6, 7] 8 (by simp) (fun m st => ∃ (i : Int) (F' : List Nat) (ch : Bool) (Y : List (List AV)), FI prods n F i ⟨F', ch⟩ ∧ Y = F'.map setC ∧ m = U.left prods.length i ∧
    st = stOf [.dead, .ptr 0 0 0, .dead, .sl 1 0 n, .sl 2 0 n, .flat (.int .i64 k), .flat (.bool ch), .flat (.int .i64 i)] [some ⟨39, [[.ro R, .ro S, .ro D, .ro V, .flat (.int .i64 start)]]⟩, some ⟨4, EE⟩, some ⟨26, Y⟩] 3) (U.left prods.length 0) ?_ ?_
  · exact ⟨0, F, false, Y, hI0, hY, rfl, cut_eq (by cbv) (cutRows_cons (by rfl) (by simp [closedAll, closedIn]) (cutRows_cons (by rfl) (closed_bool hEE) (cutRows_cons (by rfl) (closed_set hY) rfl)))⟩
  clear hY hYI Y
  rintro m2 st ⟨i, F', ch, Y, hi, hY, hm2, rfl⟩
  have hcr : ∀ {T : Table} {Y : List (List AV)} {l : List Nat}, Y = l.map setC → T 0 = some ⟨39, [[.ro R, .ro S, .ro D, .ro V, .flat (.int .i64 start)]]⟩ → T 1 = some ⟨4, EE⟩ → T 2 = some ⟨26, Y⟩ → cutRows [0, 1, 2] T [0, 1, 2] = [some ⟨39, [[.ro R, .ro S, .ro D, .ro V, .flat (.int .i64 start)]]⟩, some ⟨4, EE⟩, some ⟨26, Y⟩] := fun hy h1 h2 h3 => cutRows_cons h1 (by simp [closedAll, closedIn]) (cutRows_cons h2 (closed_bool hEE) (cutRows_cons h3 (closed_set hy) rfl))
  cases hc2 : lt i (len D)
  · have hc2' : decide (i < (prods.length : Int)) = false := by rw [hlt, hnD] at hc2; exact hc2
    have hend := fI_end hi hc2'
    rw [← hend] at kend knext
    dsimp only at kend knext
    cbv
    repeat (first | (rw [hbox]; cbv) | (rw [hc2]; cbv))
    cases ch
    · have hYZ : Y = Z := by rw [hY, hZ, kend rfl]
      have hcl := closed_set hY
      cbv
      refine hQ _ _ trivial ?_
      rw [← hYZ]
      exact G.Leaves.row (k := 2) (r := ⟨26, Y⟩) (by cbv) (by rfl) hcl
    · have hkk := knext rfl
      cbv
      rw [k3]
      exact ⟨[0, 1, 2], [1, 3, 4, 5], 6, U.left (64 * n + 1) kk, hm1 ▸ k2, by simp, kk, F', Y, hkk, hY, rfl, cut_eq (by cbv) (hcr hY (by rfl) (by rfl) (by rfl))⟩
  have hc2' : decide (i < (prods.length : Int)) = true := by rw [hlt, hnD] at hc2; exact hc2
  obtain ⟨_, i0, i1⟩ := at_lt hi.1 hc2'
  have q2 := (at_step hi.1 hc2').2
  have hadd : ar .add .i64 i 1 = i + 1 := by rw [har]; exact at_add (Nat.le_trans hp (by decide)) hi.1 hc2'
  have hix : nth D i 6 = some (.rp (prodC (atI prods i))) := by rw [hnth, hD]; exact nth_map (fun _ => rfl) i0 i1
  have hnx := fI_next hi hc2'
  have hF' : Sets F' := hi.2.2.2
  have hFl : F'.length = n := hi.2.2.1.1
  have hcR := hcRow F' hF' (atI prods i)
  have hrl := rowT_lt (E := emptyT prods n) hF' (atI prods i).body
  have hno : ¬ okI n (atI prods i).sort → FI prods n F (i + 1) ⟨F', ch⟩ := fun h => by
    have := hnx
    unfold firstStep at this
    rw [if_neg h] at this
    exact this
  have hyes : okI n (atI prods i).sort → ∃ (fx wx : Int) (w : Nat) (eqv : Bool), (∀ id, ixs (some ⟨26, Y⟩) id 0 n (atI prods i).sort 1 = some (.ptr id (atI prods i).sort.toNat 0)) ∧ cel (some ⟨26, Y⟩) (atI prods i).sort.toNat 0 = some [.flat (.int .u64 fx)] ∧
      sto (some ⟨26, Y⟩) (atI prods i).sort.toNat 0 1 (.flat (.int .u64 wx)) = some ⟨26, (F'.set (atI prods i).sort.toNat w).map setC⟩ ∧ ACalls Try.prog 56 [uV (rowT (emptyT prods n) F' (atI prods i).body).1, .flat (.int .u64 fx)] (fun _ => .flat (.int .u64 wx)) (fun _ => []) ∧
      eq wx fx = eqv ∧ FI prods n F (i + 1) ⟨F'.set (atI prods i).sort.toNat w, ch || !eqv⟩ := fun h => by
    obtain ⟨h1, h2, h3⟩ := own_set hY hFl h
    refine ⟨((atI F' (atI prods i).sort : Nat) : Int), _, (rowT (emptyT prods n) F' (atI prods i).body).1 ||| atI F' (atI prods i).sort, decide ((rowT (emptyT prods n) F' (atI prods i).body).1 ||| atI F' (atI prods i).sort = atI F' (atI prods i).sort), by rw [hixs]; exact h1, by rw [hcel]; exact h2, by rw [hsto]; exact h3 _, or_calls _ _ hrl (sets_at hF' h.1 (by rw [hFl]; exact h.2)), ?_, ?_⟩
    · rw [heq]
      rw [decide_eq_decide]
      exact Int.natCast_inj
    · have := hnx
      unfold firstStep at this
      rw [if_pos h] at this
      exact this
  obtain ⟨FF, hFF⟩ : ∃ X, X = F'.map setC := ⟨_, rfl⟩
  have hYf : flatRow Y := by rw [hY]; exact flat_set _
  have hYl : n = Y.length := by rw [hY, List.length_map, hFl]
  rw [← hEE, ← hY] at hcR
  clear hnx hrl
  generalize atI prods i = p at hix hcR hno hyes
  obtain ⟨ps, pc, pb, pp, pe, ph⟩ := p
  obtain ⟨B, hB⟩ : ∃ X, X = pb.map symC := ⟨_, rfl⟩
  obtain ⟨H, hH⟩ : ∃ X, X = ph.map intC := ⟨_, rfl⟩
  unfold prodC at hix
  unfold uV at hcR hyes
  dsimp only at hix hcR hno hyes
  rw [← hB, ← hH] at hix
  rw [← hB] at hcR
  generalize (((rowT (emptyT prods n) F' pb).1 : Nat) : Int) = rx at hcR hyes
  generalize (rowT (emptyT prods n) F' pb).2 = r2 at hcR
  generalize i + 1 = i2 at q2 hadd hno hyes
  have hps0 : lt ps 0 = decide (ps < 0) := by rw [hlt]
  have hps1 : le (nat n) ps = decide ((n : Int) ≤ ps) := by rw [hle, hnat]
  have hokI : lt ps 0 = false → le (nat n) ps = false → okI n ps := fun h1 h2 => ⟨Int.not_lt.1 (of_decide_eq_false (hps0.symm.trans h1)), Int.not_le.1 (of_decide_eq_false (hps1.symm.trans h2))⟩
  have hnokA : lt ps 0 = true → ¬ okI n ps := fun h1 h2 => absurd h2.1 (Int.not_le.2 (of_decide_eq_true (hps0.symm.trans h1)))
  have hnokB : le (nat n) ps = true → ¬ okI n ps := fun h1 h2 => absurd h2.2 (Int.not_lt.2 (of_decide_eq_true (hps1.symm.trans h1)))
  generalize ps.toNat = pj at hyes
  cbv
  repeat (first | (rw [hbox]; cbv) | (rw [hc2]; cbv) | (rw [hix]; cbv) | (rw [hsbox]; cbv))
  cases e1 : lt ps 0
  rotate_left
  · have q1 := hno (hnokA e1)
    cbv
    rw [hadd]
    exact ⟨[0, 1, 2], [1, 3, 4, 5, 6, 7], 8, U.left prods.length i2, hm2 ▸ q2, by simp, i2, F', ch, Y, q1, hY, rfl, cut_eq (by cbv) (hcr hY (by rfl) (by rfl) (by rfl))⟩
  cbv
  repeat (first | (rw [hbox]; cbv))
  cases e2 : le (nat n) ps
  rotate_left
  · have q1 := hno (hnokB e2)
    cbv
    rw [hadd]
    exact ⟨[0, 1, 2], [1, 3, 4, 5, 6, 7], 8, U.left prods.length i2, hm2 ▸ q2, by simp, i2, F', ch, Y, q1, hY, rfl, cut_eq (by cbv) (hcr hY (by rfl) (by rfl) (by rfl))⟩
  obtain ⟨fx, wx, w, eqv, g1, g2, g3, hcO, g4, g5⟩ := hyes (hokI e1 e2)
  obtain ⟨Y2, hY2⟩ : ∃ X, X = (F'.set pj w).map setC := ⟨_, rfl⟩
  rw [← hY2] at g3
  generalize F'.set pj w = F2 at g5 hY2
  cbv
  repeat (first | (rw [hbox]; cbv))
  refine hcal ⟨[.ro EE, .ro Y, .ro B], [1, 2], _, _, hands_deep ⟨deep_row (by simp) (by rfl) hEl hEf.read, deep_row (by simp) (by rfl) hYl hYf.read, .id rfl, trivial⟩ rfl (fun r hr => by cases hr), hcR, by simp, ?_⟩
  cbv
  repeat (first | (rw [hbox]; cbv) | (rw [g1]; cbv) | (rw [g2]; cbv))
  refine hcal ⟨_, [], _, _, .inl ⟨rfl, by cbv⟩, hcO, by simp, ?_⟩
  cbv
  cases ch
  · rw [Bool.false_or] at g5
    cbv
    repeat (first | (rw [hbox]; cbv) | (rw [g1]; cbv) | (rw [g2]; cbv) | (rw [g4]; cbv))
    rw [g3]; cbv
    rw [hadd]
    exact ⟨[0, 1, 2], [1, 3, 4, 5, 6, 7], 8, U.left prods.length i2, hm2 ▸ q2, by simp, i2, F2, _, Y2, g5, hY2, rfl, cut_eq (by cases eqv <;> cbv) (hcr hY2 (by rfl) (by rfl) (by rfl))⟩
  · rw [Bool.true_or] at g5
    cbv
    repeat (first | (rw [hbox]; cbv) | (rw [g1]; cbv))
    rw [g3]; cbv
    rw [hadd]
    exact ⟨[0, 1, 2], [1, 3, 4, 5, 6, 7], 8, U.left prods.length i2, hm2 ▸ q2, by simp, i2, F2, _, Y2, g5, hY2, rfl, cut_eq (by cbv) (hcr hY2 (by rfl) (by rfl) (by rfl))⟩
end Go.Proofs.Ytnceadbfgpiaaaa.F
/- Contracts: first.Of. -/
namespace Go.Proofs.Ytnceadbfgpiaaaa.F
open Go G U K J
set_option linter.unusedVariables false
set_option linter.unusedSimpArgs false
set_option maxRecDepth 100000
set_option maxHeartbeats 4000000
theorem fn24 : Try.prog.funcs[24]? = some Try.f24 := by kernel_rfl
theorem cutRows_any {ks l : List Nat} {T : Table} {k : Nat} {e : TypeId} {X X' : List (List AV)} {R : List (Option Row)} (hT : T k = some ⟨e, X⟩) (h1 : closedEls ks X = true) (h2 : renEls (newName ks 0) X = X') (h : cutRows ks T l = R) : cutRows ks T (k :: l) = some ⟨e, X'⟩ :: R := by
  simp only [cutRows, hT, h1, h2, if_true, h]
theorem leaves_two {P : Program} {fn : Func} {a b n m : Nat} {r1 r2 : Row} {st : St} (h : resA P fn st = some (.agg [.sl a 0 n, .sl b 0 m])) (hab : a ≠ b) (h1 : st.T a = some r1) (h2 : st.T b = some r2) (c1 : ∀ e ∈ r1.els, closedAll [] e = true) (c2 : ∀ e ∈ r2.els, closedAll [] e = true) :
    G.Leaves P fn (fun k => .agg [.sl k 0 n, .sl (k + 1) 0 m]) (fun _ => [r1, r2]) st := by
  refine ⟨[], [], [a, b], _, [r1, r2], h, by simp [hab], by simp, by simp [closedIn, closedAll], by simp [frz, nils, h1, h2], ?_, fun k => ⟨?_, ?_⟩⟩
  · intro r hr e he
    simp only [List.mem_cons, List.not_mem_nil, or_false] at hr
    rcases hr with rfl | rfl
    · exact closed_ups e (c1 e he)
    · exact closed_ups e (c2 e he)
  · have : (a == b) = false := by simpa using hab
    simp [ren, rens, newName, List.idxOf_cons, this]
  · have key : ∀ r : Row, (∀ e ∈ r.els, closedAll [] e = true) → renRow (newName [a, b] k) r = r := fun r hc => by
      unfold renRow
      have : r.els.map (rens (newName [a, b] k)) = r.els := by
        conv => rhs; rw [← List.map_id r.els]
        exact List.map_congr_left fun c hc' => rens_nil _ c (hc c hc')
      rw [this]
    simp [key r1 c1, key r2 c2]
/-- Within a round. -/
def OI (P : List ProdT) (n : Nat) (s0 : OS) (i : Int) (s : OS) : Prop := At P i ∧ s = (P.take i.toNat).foldl (ofStep n) s0 ∧ OkO P n s
/-- Where the rounds stand. -/
def OK (P : List ProdT) (n : Nat) (E : List Bool) (F : List Nat) (more : Bool) : Prop := OkO P n ⟨E, F, false⟩ ∧ (more = false → ∀ p ∈ P, ClosedO n ⟨E, F, false⟩ p)
def roomO (n : Nat) (E : List Bool) (F : List Nat) (more : Bool) : Nat := if more = true then 1 + (65 * n - cntO ⟨E, F, false⟩) else 0
section
variable {P : List ProdT} {n : Nat} {E : List Bool} {F : List Nat}
theorem oK_zero (P : List ProdT) (n : Nat) : OK P n (List.replicate n false) (List.replicate n 0) true := ⟨⟨sound_zero P n, okF_zero P n⟩, fun h => by cases h⟩
theorem oK_end (h : OK P n E F false) : E = emptyT P n ∧ F = firstT P n := of_fixed h.1 (h.2 rfl)
theorem oI_zero (h : OkO P n ⟨E, F, false⟩) : OI P n ⟨E, F, false⟩ 0 ⟨E, F, false⟩ := ⟨at_zero P, rfl, h⟩
theorem oI_next {s0 s : OS} {i : Int} (h : OI P n s0 i s) (hc : decide (i < (P.length : Int)) = true) : OI P n s0 (i + 1) (ofStep n s (atI P i)) := by
  obtain ⟨_, h0, h1⟩ := at_lt h.1 hc
  refine ⟨(at_step h.1 hc).1, ?_, (ofStep_up (at_mem h0 h1) s h.2.2).1⟩
  rw [fold_next _ _ h0 h1, ← h.2.1]
theorem oI_end {E' : List Bool} {F' : List Nat} {m : Bool} {i : Int} (h0 : OkO P n ⟨E, F, false⟩) (h : OI P n ⟨E, F, false⟩ i ⟨E', F', m⟩) (hc : decide (i < (P.length : Int)) = false) : OK P n E' F' m ∧ roomO n E' F' m < roomO n E F true := by
  obtain ⟨_, h2⟩ := ofFold (n := n) P (fun _ h => h) ⟨E, F, false⟩ h0
  have he := h.2.1
  rw [take_end h.1 hc] at he
  rw [← he] at h2
  have hok : OkO P n ⟨E', F', false⟩ := h.2.2
  have hle := cntO_le _ hok
  rcases h2 with ⟨h2, h3⟩ | ⟨h2, h3⟩
  · obtain ⟨rfl, rfl, rfl⟩ := OS.mk.inj h2
    exact ⟨⟨hok, fun _ => h3⟩, by unfold roomO; rw [if_neg (by decide), if_pos rfl]; omega⟩
  · dsimp only at h2
    subst h2
    refine ⟨⟨hok, fun h => by cases h⟩, ?_⟩
    unfold roomO
    rw [if_pos rfl, if_pos rfl]
    have h4 : cntO ⟨E, F, false⟩ < cntO ⟨E', F', false⟩ := h3
    omega
end
theorem of_calls (g : GramT) (hs : g.sorts.length ≤ 1000) (hp : g.prods.length ≤ 1000) (hb : ∀ p ∈ g.prods, p.body.length ≤ 1000) :
    ACalls Try.prog 24 [gramV g] (fun k => .agg [.sl k 0 g.sorts.length, .sl (k + 1) 0 g.sorts.length]) (fun _ => [⟨4, (emptyT g.prods g.sorts.length).map boolC⟩, ⟨26, (firstT g.prods g.sorts.length).map setC⟩]) := by
  obtain ⟨rules, sorts, prods, levels, start⟩ := g
  unfold gramV gramL
  dsimp only at hs hp hb ⊢
  obtain ⟨R, hR⟩ : ∃ X, X = rules.map ruleC := ⟨_, rfl⟩
  obtain ⟨S, hSS⟩ : ∃ X, X = sorts.map strC := ⟨_, rfl⟩
  obtain ⟨D, hD⟩ : ∃ X, X = prods.map prodC := ⟨_, rfl⟩
  obtain ⟨V, hV⟩ : ∃ X, X = levels.map levC := ⟨_, rfl⟩
  rw [← hR, ← hSS, ← hD, ← hV]
  have hlS : lenE S = sorts.length := by rw [hSS, len_map]
  generalize sorts.length = n at hs hlS ⊢
  have hK0 := oK_zero prods n
  have hcRow := fun (E : List Bool) (F : List Nat) (hF : Sets F) (p : ProdT) (hpl : p.body.length ≤ 1000) => row_calls E F p.body hF (Nat.le_trans hpl (by decide))
  obtain ⟨Y0, hY0⟩ : ∃ Y, Y = (List.replicate n false).map boolC := ⟨_, rfl⟩
  obtain ⟨Z0, hZ0⟩ : ∃ Y, Y = (List.replicate n 0).map setC := ⟨_, rfl⟩
  obtain ⟨EZ, hEZ⟩ : ∃ Z, Z = (emptyT prods n).map boolC := ⟨_, rfl⟩
  obtain ⟨FZ, hFZ⟩ : ∃ Z, Z = (firstT prods n).map setC := ⟨_, rfl⟩
  rw [← hEZ, ← hFZ]
  refine acalls_symF tabF_ok fn24 rfl rfl rfl (by kernel_rfl) ?_
  rintro ⟨lt, le, eq, se, ar, dv, una, conv, len, sln, nat, nth, ixs, cel, sto, app, cpy, slc, mak, ixv, oth, dk, ib, call⟩ hS hm Q hQ
  obtain ⟨hlt, hle, heq, hse, har, hdv, huna, hconv, hlen, hsln, hnat, hnth, hixs, hcel, hsto, happ, hcpy, hslc, hmak, hixv, hoth, hdk, hib, hcall⟩ := Sym.mk.inj hS
  clear hS
  have hnt : ∀ n : Nat, nat n = U.natI n := fun n => by rw [hnat]; rfl
  have hbox : ∀ e c off, cel (some ⟨e, [c]⟩) 0 off = if off ≤ c.length then some (c.drop off) else none := fun e c off => by rw [hcel]; rfl
  have hsbox : ∀ e c off sz y, sto (some ⟨e, [c]⟩) 0 off sz y = if y.cells.length = sz ∧ off + sz ≤ c.length ∧ y.cells.all AV.one = true then some ⟨e, [spl c off y.cells]⟩ else none := fun e c off sz y => by rw [hsto]; rfl
  have hcaw : ∀ {f args T base K}, CallK Try.prog f args T base K → call f args T base K := fun h => by rw [hcall]; exact h
  have hcal : ∀ {f args T base} {K : AV → Table → List Nat → List Nat → Prop}, (∃ args' ids val rows, Hands T ids args args' (val base) (rows base) ∧ ACalls Try.prog f args' val rows ∧ (rows base).length ≤ 8 ∧ K (val base) (adopt T base (rows base)) ids ((List.range (rows base).length).map (base + ·))) → call f args T base K := fun h => hcaw (call_own h)
  have hnS : len S = nat n := by rw [hlen, hnat]; exact hlS
  have hnD : len D = prods.length := by rw [hlen, hD, len_map]
  have hmk : ∀ T id, mak T id 53 (.flat (.int .i64 (len S))) (.flat (.int .i64 (len S))) = some (.sl id 0 n, T.set id (some ⟨4, Y0⟩)) := fun T id => by
    rw [hmak, hnS, hnat, hY0]
    exact mak_bool T id n (Nat.le_trans hs (by decide))
  have hmk2 : ∀ T id, mak T id 54 (.flat (.int .i64 (len S))) (.flat (.int .i64 (len S))) = some (.sl id 0 n, T.set id (some ⟨26, Z0⟩)) := fun T id => by
    rw [hmak, hnS, hnat, hZ0]
    exact mak_set T id n (Nat.le_trans hs (by decide))
  have hcr : ∀ {ks : List Nat} {a b c d e : Nat} {Tt : Table} {Y Z : List (List AV)} {l : List Bool} {l2 : List Nat}, ks = [a, b, c, d, e] → Y = l.map boolC → Z = l2.map setC → Tt a = some ⟨39, [[.ro R, .ro S, .ro D, .ro V, .flat (.int .i64 start)]]⟩ → Tt b = some ⟨56, [[.flat (.slice none 0 0), .flat (.slice none 0 0)]]⟩ →
      Tt c = some ⟨56, [[.sl d 0 n, .sl e 0 n]]⟩ → Tt d = some ⟨4, Y⟩ → Tt e = some ⟨26, Z⟩ → closedEls ks [[.sl d 0 n, .sl e 0 n]] = true → renEls (newName ks 0) [[.sl d 0 n, .sl e 0 n]] = [[.sl 3 0 n, .sl 4 0 n]] → cutRows ks Tt [a, b, c, d, e] = [some ⟨39, [[.ro R, .ro S, .ro D, .ro V, .flat (.int .i64 start)]]⟩, some ⟨56, [[.flat (.slice none 0 0), .flat (.slice none 0 0)]]⟩, some ⟨56, [[.sl 3 0 n, .sl 4 0 n]]⟩, some ⟨4, Y⟩, some ⟨26, Z⟩] :=
    fun hk hy hz h1 h2 h3 h4 h5 h6 h7 => cutRows_cons h1 (by simp [closedAll, closedIn]) (cutRows_cons h2 (by simp [closedAll, closedIn]) (cutRows_any h3 h6 h7 (cutRows_cons h4 (closed_bool hy) (cutRows_cons h5 (closed_set hz) rfl))))
  cbv
  refine ⟨by rw [hdk]; kernel_rfl, ?_⟩
  repeat (first | (rw [hbox]; cbv) | (rw [hmk]; cbv) | (rw [hmk2]; cbv) | (rw [hsbox]; cbv))
  refine ⟨by rw [hib]; kernel_rfl, ?_⟩
  cbv
  refine MW_loop hm [0, 8, 88, 40, 72] [1, 2, 3, 4] 5 (by simp) (fun m st => ∃ (E : List Bool) (F : List Nat) (more : Bool) (Y Z : List (List AV)), OK prods n E F more ∧ Y = E.map boolC ∧ Z = F.map setC ∧ m = roomO n E F more ∧
    st = stOf [.dead, .ptr 0 0 0, .ptr 1 0 0, .ptr 2 0 0, .flat (.bool more)] [some ⟨39, [[.ro R, .ro S, .ro D, .ro V, .flat (.int .i64 start)]]⟩, some ⟨56, [[.flat (.slice none 0 0), .flat (.slice none 0 0)]]⟩, some ⟨56, [[.sl 3 0 n, .sl 4 0 n]]⟩, some ⟨4, Y⟩, some ⟨26, Z⟩] 5) (roomO n (List.replicate n false) (List.replicate n 0) true) ?_ ?_
  · exact ⟨List.replicate n false, List.replicate n 0, true, Y0, Z0, hK0, hY0, hZ0, rfl, cut_eq (by cbv) (hcr rfl hY0 hZ0 (by rfl) (by rfl) (by rfl) (by rfl) (by rfl) (by rfl) (by rfl))⟩
  rintro m st ⟨E, F, more, Y, Z, hk, hY, hZ, hm1, rfl⟩
  cases more
  · obtain ⟨hE, hF⟩ := oK_end hk
    have hYE : Y = EZ := by rw [hY, hEZ, hE]
    have hZF : Z = FZ := by rw [hZ, hFZ, hF]
    have c1 := closed_bool hY
    have c2 := closed_set hZ
    cbv
    repeat (first | (rw [hbox]; cbv) | (rw [hsbox]; cbv))
    refine hQ _ _ trivial ?_
    rw [← hYE, ← hZF]
    exact leaves_two (a := 3) (b := 4) (r1 := ⟨4, Y⟩) (r2 := ⟨26, Z⟩) (by cbv) (by decide) (by rfl) (by rfl) c1 c2
  have hI0 := oI_zero hk.1
  cbv
  rw [hbox]; cbv
  refine MW_loop hm [0, 1, 2, 3, 4] [1, 2, 3, 4, 20, 21, 22] 23 (by simp) (fun m st => ∃ (i : Int) (E' : List Bool) (F' : List Nat) (more : Bool) (Y Z : List (List AV)), OI prods n ⟨E, F, false⟩ i ⟨E', F', more⟩ ∧ Y = E'.map boolC ∧ Z = F'.map setC ∧ m = U.left prods.length i ∧
    st = stOf [.dead, .ptr 0 0 0, .ptr 1 0 0, .ptr 2 0 0, .flat (.bool more), .dead, .dead, .dead, .dead, .dead, .dead, .dead, .dead, .dead, .dead, .dead, .dead, .dead, .dead, .dead, .ro D, .flat (.int .i64 (len D)), .flat (.int .i64 i)] [some ⟨39, [[.ro R, .ro S, .ro D, .ro V, .flat (.int .i64 start)]]⟩, some ⟨56, [[.flat (.slice none 0 0), .flat (.slice none 0 0)]]⟩, some ⟨56, [[.sl 3 0 n, .sl 4 0 n]]⟩, some ⟨4, Y⟩, some ⟨26, Z⟩] 5) (U.left prods.length 0) ?_ ?_
  · exact ⟨0, E, F, false, Y, Z, hI0, hY, hZ, rfl, cut_eq (by cbv) (hcr rfl hY hZ (by rfl) (by rfl) (by rfl) (by rfl) (by rfl) (by rfl) (by rfl))⟩
  clear hY hZ Y Z
  rintro m2 st ⟨i, E', F', more, Y, Z, hi, hY, hZ, hm2, rfl⟩
  cases hc2 : lt i (len D)
  · have hc2' : decide (i < (prods.length : Int)) = false := by rw [hlt, hnD] at hc2; exact hc2
    obtain ⟨q1, q2⟩ := oI_end hk.1 hi hc2'
    cbv
    rw [hc2]; cbv
    exact ⟨[0, 1, 2, 3, 4], [1, 2, 3, 4], 5, _, hm1 ▸ q2, by simp, E', F', more, Y, Z, q1, hY, hZ, rfl, cut_eq (by cbv) (hcr rfl hY hZ (by rfl) (by rfl) (by rfl) (by rfl) (by rfl) (by rfl) (by rfl))⟩
  have hc2' : decide (i < (prods.length : Int)) = true := by rw [hlt, hnD] at hc2; exact hc2
  obtain ⟨_, i0, i1⟩ := at_lt hi.1 hc2'
  have q2 := (at_step hi.1 hc2').2
  have hadd : ar .add .i64 i 1 = i + 1 := by rw [har]; exact at_add (Nat.le_trans hp (by decide)) hi.1 hc2'
  have hix : nth D i 6 = some (.rp (prodC (atI prods i))) := by rw [hnth, hD]; exact nth_map (fun _ => rfl) i0 i1
  have hnx := oI_next hi hc2'
  have hF' : Sets F' := hi.2.2.2.2
  have hFl : F'.length = n := hi.2.2.2.1.1
  have hEl : E'.length = n := hi.2.2.1.1
  have hcR := hcRow E' F' hF' (atI prods i) (hb _ (at_mem i0 i1))
  have hrl := rowT_lt (E := E') hF' (atI prods i).body
  have hno : ¬ okI n (atI prods i).sort → OI prods n ⟨E, F, false⟩ (i + 1) ⟨E', F', more⟩ := fun h => by
    have := hnx
    unfold ofStep at this
    rw [if_neg h] at this
    exact this
  have hyes : okI n (atI prods i).sort → ∃ (fx wx : Int) (w : Nat) (eqv ev : Bool), (∀ id, ixs (some ⟨26, Z⟩) id 0 n (atI prods i).sort 1 = some (.ptr id (atI prods i).sort.toNat 0)) ∧ cel (some ⟨26, Z⟩) (atI prods i).sort.toNat 0 = some [.flat (.int .u64 fx)] ∧
      sto (some ⟨26, Z⟩) (atI prods i).sort.toNat 0 1 (.flat (.int .u64 wx)) = some ⟨26, (F'.set (atI prods i).sort.toNat w).map setC⟩ ∧ ar .or .u64 fx (((rowT E' F' (atI prods i).body).1 : Nat) : Int) = wx ∧ eq wx fx = eqv ∧
      (∀ id, ixs (some ⟨4, Y⟩) id 0 n (atI prods i).sort 1 = some (.ptr id (atI prods i).sort.toNat 0)) ∧ cel (some ⟨4, Y⟩) (atI prods i).sort.toNat 0 = some [.flat (.bool ev)] ∧ (∀ v, sto (some ⟨4, Y⟩) (atI prods i).sort.toNat 0 1 (.flat (.bool v)) = some ⟨4, (E'.set (atI prods i).sort.toNat v).map boolC⟩) ∧
      ((!eqv || ((rowT E' F' (atI prods i).body).2 && !ev)) = false → OI prods n ⟨E, F, false⟩ (i + 1) ⟨E', F', more⟩) ∧
      ((!eqv || ((rowT E' F' (atI prods i).body).2 && !ev)) = true → OI prods n ⟨E, F, false⟩ (i + 1) ⟨E'.set (atI prods i).sort.toNat (ev || (rowT E' F' (atI prods i).body).2), F'.set (atI prods i).sort.toNat w, true⟩) := fun h => by
    obtain ⟨h1, h2, h3⟩ := own_set hZ hFl h
    obtain ⟨h4, h5, h6⟩ := own_bool hY hEl h
    have h7 := or_u (sets_at hF' h.1 (by rw [hFl]; exact h.2)) hrl
    refine ⟨((atI F' (atI prods i).sort : Nat) : Int), _, atI F' (atI prods i).sort ||| (rowT E' F' (atI prods i).body).1, decide (atI F' (atI prods i).sort ||| (rowT E' F' (atI prods i).body).1 = atI F' (atI prods i).sort), atI E' (atI prods i).sort, by rw [hixs]; exact h1, by rw [hcel]; exact h2, by rw [hsto]; exact h3 _, by rw [har]; exact h7, ?_, by rw [hixs]; exact h4, by rw [hcel]; exact h5, by rw [hsto]; exact h6, fun hh => ?_, fun hh => ?_⟩
    · rw [heq, decide_eq_decide]
      exact Int.natCast_inj
    · have h8 := hnx
      unfold ofStep at h8
      rw [if_pos h, if_neg (by unfold ofTest; dsimp only; rw [hh]; decide)] at h8
      exact h8
    · have h8 := hnx
      unfold ofStep at h8
      rw [if_pos h, if_pos (by unfold ofTest; dsimp only; rw [hh])] at h8
      exact h8
  have hYf : flatRow Y := by rw [hY]; exact flat_bool _
  have hYl : n = Y.length := by rw [hY, List.length_map, hEl]
  have hZf : flatRow Z := by rw [hZ]; exact flat_set _
  have hZl : n = Z.length := by rw [hZ, List.length_map, hFl]
  rw [← hY, ← hZ] at hcR
  clear hnx hrl
  generalize atI prods i = p at hix hcR hno hyes
  obtain ⟨ps, pc, pb, pp, pe, ph⟩ := p
  obtain ⟨B, hB⟩ : ∃ X, X = pb.map symC := ⟨_, rfl⟩
  obtain ⟨H, hH⟩ : ∃ X, X = ph.map intC := ⟨_, rfl⟩
  unfold prodC at hix
  unfold uV at hcR
  dsimp only at hix hcR hno hyes
  rw [← hB, ← hH] at hix
  rw [← hB] at hcR
  generalize (((rowT E' F' pb).1 : Nat) : Int) = rx at hcR hyes
  generalize (rowT E' F' pb).2 = r2 at hcR hyes
  generalize i + 1 = i2 at q2 hadd hno hyes
  have hps0 : lt ps 0 = decide (ps < 0) := by rw [hlt]
  have hps1 : le (len S) ps = decide ((n : Int) ≤ ps) := by rw [hle, hnS, hnat]
  have hokI : lt ps 0 = false → le (len S) ps = false → okI n ps := fun h1 h2 => ⟨Int.not_lt.1 (of_decide_eq_false (hps0.symm.trans h1)), Int.not_le.1 (of_decide_eq_false (hps1.symm.trans h2))⟩
  have hnokA : lt ps 0 = true → ¬ okI n ps := fun h1 h2 => absurd h2.1 (Int.not_le.2 (of_decide_eq_true (hps0.symm.trans h1)))
  have hnokB : le (len S) ps = true → ¬ okI n ps := fun h1 h2 => absurd h2.2 (Int.not_lt.2 (of_decide_eq_true (hps1.symm.trans h1)))
  generalize ps.toNat = pj at hyes
  cbv
  rw [hc2]; cbv
  repeat (first | (rw [hbox]; cbv) | (rw [hix]; cbv) | (rw [hsbox]; cbv))
  cases e1 : lt ps 0
  rotate_left
  · have q1 := hno (hnokA e1)
    cbv
    rw [hadd]
    exact ⟨[0, 1, 2, 3, 4], [1, 2, 3, 4, 20, 21, 22], 23, U.left prods.length i2, hm2 ▸ q2, by simp, i2, E', F', more, Y, Z, q1, hY, hZ, rfl, cut_eq (by cbv) (hcr rfl hY hZ (by rfl) (by rfl) (by rfl) (by rfl) (by rfl) (by rfl) (by rfl))⟩
  cbv
  repeat (first | (rw [hbox]; cbv))
  cases e2 : le (len S) ps
  rotate_left
  · have q1 := hno (hnokB e2)
    cbv
    rw [hadd]
    exact ⟨[0, 1, 2, 3, 4], [1, 2, 3, 4, 20, 21, 22], 23, U.left prods.length i2, hm2 ▸ q2, by simp, i2, E', F', more, Y, Z, q1, hY, hZ, rfl, cut_eq (by cbv) (hcr rfl hY hZ (by rfl) (by rfl) (by rfl) (by rfl) (by rfl) (by rfl) (by rfl))⟩
  obtain ⟨fx, wx, w, eqv, ev, g1, g2, g3, g4, g5, g6, g7, g8, g9, g10⟩ := hyes (hokI e1 e2)
  cbv
  repeat (first | (rw [hbox]; cbv))
  refine hcal ⟨[.agg [.ro Y, .ro Z], .ro B], [3, 4], _, _, hands_deep ⟨deep_agg ⟨deep_row (by simp) (by rfl) hYl hYf.read, deep_row (by simp) (by rfl) hZl hZf.read, trivial⟩, .id rfl, trivial⟩ rfl (fun r hr => by cases hr), hcR, by simp, ?_⟩
  cbv
  refine ⟨by rw [hdk]; kernel_rfl, ?_⟩
  repeat (first | (rw [hbox]; cbv) | (rw [g1]; cbv) | (rw [g2]; cbv) | (rw [g4]; cbv) | (rw [g5]; cbv))
  cases eqv
  · have q1 := g10 rfl
    obtain ⟨Z2, hZ2⟩ : ∃ X, X = (F'.set pj w).map setC := ⟨_, rfl⟩
    obtain ⟨Y2, hY2⟩ : ∃ X, X = (E'.set pj (ev || r2)).map boolC := ⟨_, rfl⟩
    have g8 := g8 (ev || r2)
    rw [← hY2] at g8
    rw [← hZ2] at g3
    clear g9 g10
    generalize F'.set pj w = F2 at hZ2 q1
    generalize E'.set pj (ev || r2) = E2 at hY2 q1
    cbv
    refine ⟨by rw [hib]; kernel_rfl, ?_⟩
    cbv
    repeat (first | (rw [hbox]; cbv) | (rw [g1]; cbv) | (rw [g2]; cbv) | (rw [g4]; cbv))
    rw [g3]; cbv
    refine ⟨by rw [hdk]; kernel_rfl, ?_⟩
    repeat (first | (rw [hbox]; cbv) | (rw [g6]; cbv) | (rw [g7]; cbv))
    cases ev
    · rw [Bool.false_or] at g8
      cbv
      repeat (first | (rw [g6]; cbv) | (rw [g8]; cbv))
      refine ⟨by rw [hib]; kernel_rfl, ?_⟩
      cbv
      rw [hadd]
      exact ⟨[0, 1, 2, 3, 4], [1, 2, 3, 4, 20, 21, 22], 23, U.left prods.length i2, hm2 ▸ q2, by simp, i2, E2, F2, true, Y2, Z2, q1, hY2, hZ2, rfl, cut_eq (by cbv) (hcr rfl hY2 hZ2 (by rfl) (by rfl) (by rfl) (by rfl) (by rfl) (by rfl) (by rfl))⟩
    · rw [Bool.true_or] at g8
      cbv
      repeat (first | (rw [g6]; cbv) | (rw [g8]; cbv))
      refine ⟨by rw [hib]; kernel_rfl, ?_⟩
      cbv
      rw [hadd]
      exact ⟨[0, 1, 2, 3, 4], [1, 2, 3, 4, 20, 21, 22], 23, U.left prods.length i2, hm2 ▸ q2, by simp, i2, E2, F2, true, Y2, Z2, q1, hY2, hZ2, rfl, cut_eq (by cbv) (hcr rfl hY2 hZ2 (by rfl) (by rfl) (by rfl) (by rfl) (by rfl) (by rfl) (by rfl))⟩
  cases r2
  · have q1 := g9 rfl
    cbv
    refine ⟨by rw [hib]; kernel_rfl, ?_⟩
    cbv
    rw [hadd]
    exact ⟨[0, 1, 2, 3, 4], [1, 2, 3, 4, 20, 21, 22], 23, U.left prods.length i2, hm2 ▸ q2, by simp, i2, E', F', more, Y, Z, q1, hY, hZ, rfl, cut_eq (by cbv) (hcr rfl hY hZ (by rfl) (by rfl) (by rfl) (by rfl) (by rfl) (by rfl) (by rfl))⟩
  cbv
  repeat (first | (rw [hbox]; cbv) | (rw [g6]; cbv) | (rw [g7]; cbv))
  cases ev
  rotate_left
  · have q1 := g9 rfl
    cbv
    refine ⟨by rw [hib]; kernel_rfl, ?_⟩
    cbv
    rw [hadd]
    exact ⟨[0, 1, 2, 3, 4], [1, 2, 3, 4, 20, 21, 22], 23, U.left prods.length i2, hm2 ▸ q2, by simp, i2, E', F', more, Y, Z, q1, hY, hZ, rfl, cut_eq (by cbv) (hcr rfl hY hZ (by rfl) (by rfl) (by rfl) (by rfl) (by rfl) (by rfl) (by rfl))⟩
  have q1 := g10 rfl
  obtain ⟨Z2, hZ2⟩ : ∃ X, X = (F'.set pj w).map setC := ⟨_, rfl⟩
  obtain ⟨Y2, hY2⟩ : ∃ X, X = (E'.set pj (false || true)).map boolC := ⟨_, rfl⟩
  have g8 : sto _ _ _ _ (.flat (.bool true)) = _ := g8 (false || true)
  rw [← hY2] at g8
  rw [← hZ2] at g3
  clear g9 g10
  generalize F'.set pj w = F2 at hZ2 q1
  generalize E'.set pj (false || true) = E2 at hY2 q1
  cbv
  refine ⟨by rw [hib]; kernel_rfl, ?_⟩
  cbv
  repeat (first | (rw [hbox]; cbv) | (rw [g1]; cbv) | (rw [g2]; cbv) | (rw [g4]; cbv))
  rw [g3]; cbv
  refine ⟨by rw [hdk]; kernel_rfl, ?_⟩
  repeat (first | (rw [hbox]; cbv) | (rw [g6]; cbv) | (rw [g7]; cbv))
  rw [g8]; cbv
  refine ⟨by rw [hib]; kernel_rfl, ?_⟩
  cbv
  rw [hadd]
  exact ⟨[0, 1, 2, 3, 4], [1, 2, 3, 4, 20, 21, 22], 23, U.left prods.length i2, hm2 ▸ q2, by simp, i2, E2, F2, true, Y2, Z2, q1, hY2, hZ2, rfl, cut_eq (by cbv) (hcr rfl hY2 hZ2 (by rfl) (by rfl) (by rfl) (by rfl) (by rfl) (by rfl) (by rfl))⟩
end Go.Proofs.Ytnceadbfgpiaaaa.F
