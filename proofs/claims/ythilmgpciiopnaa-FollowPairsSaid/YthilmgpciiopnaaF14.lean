/- Plain law: what may stand behind a sort. No program in sight. -/
import Derived.Test.YthilmgpciiopnaaF13
namespace Go.Proofs.Ythilmgpciiopnaa.F
open Go G U K
set_option linter.unusedVariables false
set_option linter.unusedSimpArgs false
set_option maxRecDepth 100000
set_option maxHeartbeats 4000000
/-- May a token stand behind a sort? -/
inductive Fol (P : List ProdT) (n : Nat) (start : Int) (E1 : List Bool) (F1 : List Nat) : Int → Nat → Prop
  | init (h : okI n start) : Fol P n start E1 F1 start 63
  | row (p : ProdT) (t : Nat) (pre post : List SymT) (s : SymT) (hp : p ∈ P) (hs : okI n p.sort) (hb : p.body = pre ++ s :: post) (h1 : s.sort = true) (h2 : okI n s.n) (h3 : (rowT E1 F1 post).1.testBit t = true) : Fol P n start E1 F1 s.n t
  | on (p : ProdT) (t : Nat) (pre post : List SymT) (s : SymT) (hp : p ∈ P) (hs : okI n p.sort) (hb : p.body = pre ++ s :: post) (h1 : s.sort = true) (h2 : okI n s.n) (h3 : (rowT E1 F1 post).2 = true) (h4 : Fol P n start E1 F1 p.sort t) : Fol P n start E1 F1 s.n t
variable {P : List ProdT} {n : Nat} {start : Int} {E1 : List Bool} {F1 F : List Nat}
def folSet (E1 : List Bool) (F1 : List Nat) (p : ProdT) (F : List Nat) (i : Int) : Nat := atI F (atI p.body i).n ||| withT E1 F1 (p.body.drop (i + 1).toNat) (atI F p.sort)
def folOk (n : Nat) (p : ProdT) (i : Int) : Prop := okI n p.sort ∧ (atI p.body i).sort = true ∧ okI n (atI p.body i).n
instance (n : Nat) (p : ProdT) (i : Int) : Decidable (folOk n p i) := inferInstanceAs (Decidable (_ ∧ _))
def folStep (n : Nat) (E1 : List Bool) (F1 : List Nat) (p : ProdT) (s : FS) (i : Int) : FS :=
  if folOk n p i then (if folSet E1 F1 p s.F i = atI s.F (atI p.body i).n then s else ⟨s.F.set (atI p.body i).n.toNat (folSet E1 F1 p s.F i), true⟩) else s
def ixs0 (m : Int) : List Int := (List.range m.toNat).map fun (k : Nat) => (k : Int)
def folBody (n : Nat) (E1 : List Bool) (F1 : List Nat) (s : FS) (p : ProdT) : FS := (ixs0 p.body.length).foldl (folStep n E1 F1 p) s
def SoundG (P : List ProdT) (n : Nat) (start : Int) (E1 : List Bool) (F1 : List Nat) (F : List Nat) : Prop := F.length = n ∧ (∀ i t, okI n i → (atI F i).testBit t = true → Fol P n start E1 F1 i t) ∧ Sets F ∧ (okI n start → (atI F start).testBit 63 = true)
def ClosedG (n : Nat) (E1 : List Bool) (F1 : List Nat) (F : List Nat) (p : ProdT) : Prop := ∀ i : Int, 0 ≤ i → i < p.body.length → folOk n p i → folSet E1 F1 p F i = atI F (atI p.body i).n
theorem with_bit {E : List Bool} {l : List SymT} {b t : Nat} : (withT E F1 l b).testBit t = true ↔ (rowT E F1 l).1.testBit t = true ∨ ((rowT E F1 l).2 = true ∧ b.testBit t = true) := by
  unfold withT
  split
  · rename_i h; rw [Nat.testBit_or, Bool.or_eq_true]; simp [h]
  · rename_i h; simp [h]
theorem with_lt {E : List Bool} (h1 : Sets F1) {l : List SymT} {b : Nat} (hb : b < 18446744073709551616) : withT E F1 l b < 18446744073709551616 := by
  unfold withT
  split
  · exact or_lt (rowT_lt h1 l) hb
  · exact rowT_lt h1 l
theorem body_split {l : List SymT} {i : Int} (h0 : 0 ≤ i) (h1 : i < l.length) : l = l.take i.toNat ++ atI l i :: l.drop (i + 1).toNat := by
  rw [← drop_next h0 h1, List.take_append_drop]
theorem folStep_up (h1 : Sets F1) {p : ProdT} (hp : p ∈ P) {i : Int} (i0 : 0 ≤ i) (i1 : i < p.body.length) (s : FS) (h : SoundG P n start E1 F1 s.F) : SoundG P n start E1 F1 (folStep n E1 F1 p s i).F ∧
    ((folStep n E1 F1 p s i = s ∧ (folOk n p i → folSet E1 F1 p s.F i = atI s.F (atI p.body i).n)) ∨ ((folStep n E1 F1 p s i).ch = true ∧ cntS s.F < cntS (folStep n E1 F1 p s i).F)) := by
  unfold folStep
  by_cases hk : folOk n p i
  · rw [if_pos hk]
    by_cases he : folSet E1 F1 p s.F i = atI s.F (atI p.body i).n
    · rw [if_pos he]
      exact ⟨h, .inl ⟨rfl, fun _ => he⟩⟩
    · rw [if_neg he]
      obtain ⟨k1, k2, k3⟩ := hk
      have hb := body_split i0 i1
      have hv := sets_at h.2.2.1 k3.1 (by rw [h.1]; exact k3.2)
      have hw := with_lt (E := E1) h1 (l := p.body.drop (i + 1).toNat) (sets_at h.2.2.1 k1.1 (by rw [h.1]; exact k1.2))
      have hg := at_get (l := s.F) k3.1 (by rw [h.1]; exact k3.2)
      refine ⟨⟨by rw [List.length_set]; exact h.1, fun j t hj hh => ?_, sets_set h.2.2.1 (or_lt hv hw), fun hs => ?_⟩, .inr ⟨rfl, ?_⟩⟩
      · rw [at_set h.1 k3 hj] at hh
        by_cases hij : (atI p.body i).n = j
        · rw [if_pos hij] at hh
          rw [← hij]
          unfold folSet at hh
          rw [Nat.testBit_or, Bool.or_eq_true, with_bit] at hh
          rcases hh with hh | hh | ⟨hh, hh2⟩
          · exact h.2.1 _ _ k3 hh
          · exact .row p t _ _ _ hp k1 hb k2 k3 hh
          · exact .on p t _ _ _ hp k1 hb k2 k3 hh (h.2.1 _ _ k1 hh2)
        · rw [if_neg hij] at hh; exact h.2.1 j t hj hh
      · rw [at_set h.1 k3 hs]
        split
        · rename_i he
          unfold folSet
          rw [Nat.testBit_or, he, h.2.2.2 hs]; rfl
        · exact h.2.2.2 hs
      · rcases bitc_or hv hw with h3 | h3
        · exact absurd h3 he
        · rcases cntS_set s.F (atI p.body i).n.toNat _ (folSet E1 F1 p s.F i) hg (.inr h3) with h4 | h4
          · exfalso
            have h5 := at_set (v := folSet E1 F1 p s.F i) h.1 k3 k3
            rw [h4, if_pos rfl] at h5
            exact he h5.symm
          · exact h4
  · rw [if_neg hk]
    exact ⟨h, .inl ⟨rfl, fun h => absurd h hk⟩⟩
/-- A fold of steps that go up. -/
theorem fs_fold {α : Type} {ok : List Nat → Prop} {f : FS → α → FS} {cl : List Nat → α → Prop} : ∀ (l : List α), (∀ a ∈ l, ∀ s : FS, ok s.F → ok (f s a).F ∧ ((f s a = s ∧ cl s.F a) ∨ ((f s a).ch = true ∧ cntS s.F < cntS (f s a).F))) →
    ∀ s : FS, ok s.F → ok (l.foldl f s).F ∧ ((l.foldl f s = s ∧ ∀ a ∈ l, cl s.F a) ∨ ((l.foldl f s).ch = true ∧ cntS s.F < cntS (l.foldl f s).F))
  | [], _, s, h => ⟨h, .inl ⟨rfl, fun p hp => by simp at hp⟩⟩
  | p :: l, hl, s, h => by
    obtain ⟨h1, h2⟩ := hl p (by simp) s h
    obtain ⟨h3, h4⟩ := fs_fold (cl := cl) l (fun q hq => hl q (by simp [hq])) _ h1
    rw [List.foldl_cons]
    refine ⟨h3, ?_⟩
    rcases h2 with ⟨h2, hc⟩ | ⟨h2, hc⟩
    · rw [h2] at h4 ⊢
      rcases h4 with ⟨h4, h5⟩ | h4
      · exact .inl ⟨h4, fun q hq => by
          rcases List.mem_cons.1 hq with rfl | hq
          · exact hc
          · exact h5 q hq⟩
      · exact .inr h4
    · right
      rcases h4 with ⟨h4, _⟩ | ⟨h4, h5⟩
      · rw [h4]; exact ⟨h2, hc⟩
      · exact ⟨h4, Nat.lt_trans hc h5⟩
theorem mem_ixs0 {m i : Int} : i ∈ ixs0 m ↔ 0 ≤ i ∧ i < m := by
  unfold ixs0
  simp only [List.mem_map, List.mem_range]
  constructor
  · rintro ⟨k, hk, rfl⟩; omega
  · rintro ⟨h0, h1⟩; exact ⟨i.toNat, by omega, by omega⟩
theorem ixs0_next {i : Int} (h0 : 0 ≤ i) : ixs0 (i + 1) = ixs0 i ++ [i] := by
  have e : (i + 1).toNat = i.toNat + 1 := by omega
  have e2 : ((i.toNat : Nat) : Int) = i := by omega
  rw [ixs0, e, List.range_succ, List.map_append]
  simp only [List.map_cons, List.map_nil, e2]
  rfl
theorem folBody_up (h1 : Sets F1) {p : ProdT} (hp : p ∈ P) (s : FS) (h : SoundG P n start E1 F1 s.F) : SoundG P n start E1 F1 (folBody n E1 F1 s p).F ∧
    ((folBody n E1 F1 s p = s ∧ ClosedG n E1 F1 s.F p) ∨ ((folBody n E1 F1 s p).ch = true ∧ cntS s.F < cntS (folBody n E1 F1 s p).F)) := by
  obtain ⟨h2, h3⟩ := fs_fold (ok := SoundG P n start E1 F1) (cl := fun F i => folOk n p i → folSet E1 F1 p F i = atI F (atI p.body i).n) (f := folStep n E1 F1 p) (ixs0 p.body.length)
    (fun i hi s hs => folStep_up h1 hp (mem_ixs0.1 hi).1 (mem_ixs0.1 hi).2 s hs) s h
  refine ⟨h2, h3.imp (fun h3 => ⟨h3.1, fun i i0 i1 hk => h3.2 i (mem_ixs0.2 ⟨i0, i1⟩) hk⟩) id⟩
def folRound (P : List ProdT) (n : Nat) (E1 : List Bool) (F1 : List Nat) (F : List Nat) : FS := P.foldl (folBody n E1 F1) ⟨F, false⟩
theorem folRound_up (h1 : Sets F1) (h : SoundG P n start E1 F1 F) : SoundG P n start E1 F1 (folRound P n E1 F1 F).F ∧ ((folRound P n E1 F1 F = ⟨F, false⟩ ∧ ∀ p ∈ P, ClosedG n E1 F1 F p) ∨ ((folRound P n E1 F1 F).ch = true ∧ cntS F < cntS (folRound P n E1 F1 F).F)) :=
  fs_fold (ok := SoundG P n start E1 F1) (cl := ClosedG n E1 F1) (f := folBody n E1 F1) P (fun p hp s hs => folBody_up h1 hp s hs) ⟨F, false⟩ h
def folLoop (P : List ProdT) (n : Nat) (E1 : List Bool) (F1 : List Nat) : Nat → List Nat → List Nat
  | 0, F => F
  | k + 1, F => if (folRound P n E1 F1 F).ch = true then folLoop P n E1 F1 k (folRound P n E1 F1 F).F else (folRound P n E1 F1 F).F
def folInit (n : Nat) (start : Int) : List Nat := if okI n start then (List.replicate n 0).set start.toNat (bitN 63) else List.replicate n 0
def folT (P : List ProdT) (n : Nat) (start : Int) : List Nat := folLoop P n (emptyT P n) (firstT P n) (64 * n + 1) (folInit n start)
theorem at_rep {α : Type} [Inhabited α] {v : α} {i : Int} (hi : okI n i) : atI (List.replicate n v) i = v := by
  unfold okI at hi
  simp only [atI, List.getD_eq_getElem?_getD, List.getElem?_replicate]
  rw [if_pos (by omega)]; rfl
theorem folInit_ok : SoundG P n start E1 F1 (folInit n start) := by
  unfold folInit
  split
  · rename_i hs
    have hl : (List.replicate n 0).length = n := by simp
    refine ⟨by simp, fun i t hi h => ?_, sets_set (fun x hx => by rw [(List.mem_replicate.1 hx).2]; decide) (bitN_lt _), fun _ => ?_⟩
    · rw [at_set hl hs hi] at h
      by_cases he : start = i
      · rw [if_pos he] at h
        have : t = 63 := by
          rw [show bitN 63 = 2 ^ 63 from rfl, Nat.testBit_two_pow] at h
          have := of_decide_eq_true h
          omega
        subst this
        exact he ▸ .init hs
      · rw [if_neg he, at_rep hi] at h
        simp at h
    · rw [at_set hl hs hs, if_pos rfl]; rfl
  · rename_i hs
    refine ⟨by simp, fun i t hi h => ?_, fun x hx => by rw [(List.mem_replicate.1 hx).2]; decide, fun h => absurd h hs⟩
    rw [at_rep hi] at h
    simp at h
theorem folLoop_ok (h1 : Sets F1) : ∀ (k : Nat) (F : List Nat), SoundG P n start E1 F1 F → 64 * n < k + cntS F → SoundG P n start E1 F1 (folLoop P n E1 F1 k F) ∧ ∀ p ∈ P, ClosedG n E1 F1 (folLoop P n E1 F1 k F) p
  | 0, F, h, hk => by
    have := cntS_le F
    rw [h.1] at this
    omega
  | k + 1, F, h, hk => by
    obtain ⟨h2, h3⟩ := folRound_up h1 h
    rw [folLoop]
    rcases h3 with ⟨h3, h4⟩ | ⟨h3, h4⟩
    · rw [h3, if_neg (by simp)]
      exact ⟨h, h4⟩
    · rw [if_pos h3]
      exact folLoop_ok h1 k _ h2 (by omega)
theorem fol_in (h : SoundG P n start E1 F1 F) (hc : ∀ p ∈ P, ClosedG n E1 F1 F p) {i : Int} {t : Nat} (hf : Fol P n start E1 F1 i t) : (atI F i).testBit t = true := by
  have key : ∀ (p : ProdT) (t : Nat) (pre post : List SymT) (s : SymT), p ∈ P → okI n p.sort → p.body = pre ++ s :: post → s.sort = true → okI n s.n → (withT E1 F1 post (atI F p.sort)).testBit t = true → (atI F s.n).testBit t = true := by
    intro p t pre post s hp hs hb g1 g2 g3
    have hi : ((pre.length : Nat) : Int) < p.body.length := by rw [hb]; simp; omega
    have e1 : atI p.body (pre.length : Int) = s := by
      simp [atI, hb, List.getD]
    have e2 : p.body.drop ((pre.length : Int) + 1).toNat = post := by
      rw [show ((pre.length : Int) + 1).toNat = pre.length + 1 by omega, hb, ← List.drop_drop]
      simp
    have h4 := hc p hp (pre.length : Int) (by omega) hi ⟨hs, by rw [e1]; exact g1, by rw [e1]; exact g2⟩
    unfold folSet at h4
    rw [e1, e2] at h4
    rw [← h4, Nat.testBit_or, g3, Bool.or_true]
  induction hf with
  | init hs => exact h.2.2.2 hs
  | row p t pre post s hp hs hb g1 g2 g3 => exact key p t pre post s hp hs hb g1 g2 (with_bit.2 (.inl g3))
  | on p t pre post s hp hs hb g1 g2 g3 _ ih => exact key p t pre post s hp hs hb g1 g2 (with_bit.2 (.inr ⟨g3, ih⟩))
theorem uniqG {F' : List Nat} (h : SoundG P n start E1 F1 F) (hc : ∀ p ∈ P, ClosedG n E1 F1 F p) (h' : SoundG P n start E1 F1 F') (hc' : ∀ p ∈ P, ClosedG n E1 F1 F' p) : F = F' := by
  refine ext_at h.1 h'.1 fun i hi => ?_
  apply Nat.eq_of_testBit_eq
  intro t
  rw [Bool.eq_iff_iff]
  exact ⟨fun g => fol_in h' hc' (h.2.1 i t hi g), fun g => fol_in h hc (h'.2.1 i t hi g)⟩
theorem folT_ok (P : List ProdT) (n : Nat) (start : Int) : SoundG P n start (emptyT P n) (firstT P n) (folT P n start) ∧ ∀ p ∈ P, ClosedG n (emptyT P n) (firstT P n) (folT P n start) p :=
  folLoop_ok (first_ok P n).1.2 _ _ folInit_ok (by omega)
/-! ### Where the loops stand -/
abbrev Snd (P : List ProdT) (n : Nat) (start : Int) (F : List Nat) : Prop := SoundG P n start (emptyT P n) (firstT P n) F
def GK (P : List ProdT) (n : Nat) (start : Int) (F : List Nat) (more : Bool) : Prop := Snd P n start F ∧ (more = false → ∀ p ∈ P, ClosedG n (emptyT P n) (firstT P n) F p)
def roomG (n : Nat) (F : List Nat) (more : Bool) : Nat := if more = true then 1 + (64 * n - cntS F) else 0
theorem gK_zero (P : List ProdT) (n : Nat) (start : Int) : GK P n start (folInit n start) true := ⟨folInit_ok, fun h => by cases h⟩
theorem gK_end (h : GK P n start F false) : F = folT P n start := uniqG h.1 (h.2 rfl) (folT_ok P n start).1 (folT_ok P n start).2
/-- Over the productions. -/
def GI (P : List ProdT) (n : Nat) (start : Int) (F : List Nat) (i : Int) (s : FS) : Prop := At P i ∧ s = (P.take i.toNat).foldl (folBody n (emptyT P n) (firstT P n)) ⟨F, false⟩ ∧ Snd P n start s.F
theorem gI_zero (h : Snd P n start F) : GI P n start F 0 ⟨F, false⟩ := ⟨at_zero P, rfl, h⟩
theorem gI_end {F' : List Nat} {m : Bool} {i : Int} (h0 : Snd P n start F) (h : GI P n start F i ⟨F', m⟩) (hc : decide (i < (P.length : Int)) = false) : GK P n start F' m ∧ roomG n F' m < roomG n F true := by
  obtain ⟨_, h2⟩ := folRound_up (first_ok P n).1.2 h0
  have he := h.2.1
  rw [take_end h.1 hc] at he
  have he : (⟨F', m⟩ : FS) = folRound P n (emptyT P n) (firstT P n) F := he
  rw [← he] at h2
  rcases h2 with ⟨h2, h3⟩ | ⟨h2, h3⟩
  · obtain ⟨rfl, rfl⟩ := FS.mk.inj h2
    exact ⟨⟨h.2.2, fun _ => h3⟩, by unfold roomG; rw [if_neg (by decide), if_pos rfl]; omega⟩
  · dsimp only at h2 h3
    subst h2
    have := cntS_le F'
    rw [h.2.2.1] at this
    exact ⟨⟨h.2.2, fun h => by cases h⟩, by unfold roomG; rw [if_pos rfl, if_pos rfl]; omega⟩
/-- Over a body. -/
def GB (P : List ProdT) (n : Nat) (start : Int) (p : ProdT) (s0 : FS) (j : Int) (s : FS) : Prop := At p.body j ∧ s = (ixs0 j).foldl (folStep n (emptyT P n) (firstT P n) p) s0 ∧ Snd P n start s.F
theorem gB_zero {p : ProdT} {s0 : FS} (h : Snd P n start s0.F) : GB P n start p s0 0 s0 := ⟨at_zero _, rfl, h⟩
theorem gB_next {p : ProdT} {s0 s : FS} {j : Int} (hp : p ∈ P) (h : GB P n start p s0 j s) (hc : decide (j < (p.body.length : Int)) = true) : GB P n start p s0 (j + 1) (folStep n (emptyT P n) (firstT P n) p s j) := by
  obtain ⟨_, h0, h1⟩ := at_lt h.1 hc
  refine ⟨(at_step h.1 hc).1, ?_, (folStep_up (first_ok P n).1.2 hp h0 h1 s h.2.2).1⟩
  rw [ixs0_next h0, List.foldl_append, ← h.2.1]
  rfl
theorem gI_next {s : FS} {i j : Int} {s' : FS} (h : GI P n start F i s) (hc : decide (i < (P.length : Int)) = true) (hb : GB P n start (atI P i) s j s') (hj : decide (j < ((atI P i).body.length : Int)) = false) : GI P n start F (i + 1) s' := by
  obtain ⟨_, h0, h1⟩ := at_lt h.1 hc
  refine ⟨(at_step h.1 hc).1, ?_, hb.2.2⟩
  rw [fold_next _ _ h0 h1, ← h.2.1, hb.2.1, at_end hb.1 hj]
  rfl
theorem folBody_off {p : ProdT} {s : FS} (hs : ¬ okI n p.sort) : folBody n E1 F1 s p = s := by
  unfold folBody
  have : ∀ (l : List Int), l.foldl (folStep n E1 F1 p) s = s := by
    intro l
    induction l with
    | nil => rfl
    | cons a l ih =>
      rw [List.foldl_cons]
      have : folStep n E1 F1 p s a = s := by unfold folStep; rw [if_neg (fun h => hs h.1)]
      rw [this]; exact ih
  exact this _
theorem gI_off {s : FS} {i : Int} (h : GI P n start F i s) (hc : decide (i < (P.length : Int)) = true) (hs : ¬ okI n (atI P i).sort) : GI P n start F (i + 1) s := by
  obtain ⟨_, h0, h1⟩ := at_lt h.1 hc
  refine ⟨(at_step h.1 hc).1, ?_, h.2.2⟩
  rw [fold_next _ _ h0 h1, ← h.2.1, folBody_off hs]
theorem slc_drop (T : Table) (l : List SymT) (j : Int) (h0 : 0 ≤ j) (h1 : j ≤ l.length) : evSlice Try.prog T 59 (.ro (l.map symC)) (some (.flat (.int .i64 j))) none = some (.ro ((l.drop j.toNat).map symC)) := by
  have h : ∀ c ∈ l.map symC, c.length = 2 := fun c hc => by obtain ⟨u, _, rfl⟩ := List.mem_map.1 hc; rfl
  simp only [evSlice, u59, z78, if_pos h]
  simp only [bndsA, hiA, loA, intOf, List.length_map, Option.bind_some, Option.map_some]
  rw [if_pos ⟨h0, h1⟩]
  simp [List.take_of_length_le, List.map_drop]
end Go.Proofs.Ythilmgpciiopnaa.F
