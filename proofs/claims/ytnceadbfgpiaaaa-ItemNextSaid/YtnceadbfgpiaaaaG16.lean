/- From what a row says of its arguments to what the abstract machine is told of them, and back behind the call. Plain theorems over any program. -/
import Derived.Test.YtnceadbfgpiaaaaG15
import Derived.ReadAgain
import Derived.Below
import Derived.ChangeSame
import Derived.ChangeArms
import Derived.Deep.Slices
namespace Go.Proofs.Ytnceadbfgpiaaaa.G
set_option linter.unusedVariables false
set_option linter.unusedSimpArgs false
open Go Go.RowKit
variable {P : Program} {H : Type} {enc : TypeId × Value → H} {W W' : World} {base : Nat} {sp : Nat → Bool} {held : Bool}

theorem mapM_step {α β : Type} {f g : α → Option β} : ∀ {l : List α} {ys : List β}, l.mapM f = some ys → (∀ x y, x ∈ l → f x = some y → g x = some y) → l.mapM g = some ys := by
  intro l
  induction l with
  | nil => intro ys h _; simpa using h
  | cons x l ih =>
    intro ys h hg
    rw [List.mapM_cons] at h ⊢
    obtain ⟨y, hy, h⟩ := Option.bind_eq_some_iff.1 h
    obtain ⟨zs, hz, h⟩ := Option.bind_eq_some_iff.1 h
    refine Option.bind_eq_some_iff.2 ⟨y, hg x y (by simp) hy, Option.bind_eq_some_iff.2 ⟨zs, ih hz fun a b ha => hg a b (by simp [ha]), h⟩⟩

theorem cells_stand (hb : Below W.heap.size W W') {a : Addr} {n : Nat} {cs : List Value} (h : W.cells? base a n = some cs) : W'.cells? base a n = some cs := by
  unfold World.cells? at h ⊢
  split at h
  · rename_i hc
    rw [if_pos hc]
    refine mapM_step h fun i v hi hv => ?_
    unfold World.cell? at hv ⊢
    split at hv
    · rename_i c e fz hg
      have hlt := (Array.getElem?_eq_some_iff.1 hg).1
      rw [hb.block _ hlt, hg]
      exact hv
    · cases hv
  · cases h

theorem trodStep_stand (hb : Below W.heap.size W W') {r r' : TypeId → List Value → Option (DataW H × List MemPlace)} (hr : ∀ t cs x, r t cs = some x → r' t cs = some x) {t : TypeId} {cs : List Value} {x : DataW H × List MemPlace}
    (h : DataW.trodStep enc P W base sp held r t cs = some x) : DataW.trodStep enc P W' base sp held r' t cs = some x := by
  unfold DataW.trodStep at h ⊢
  have one : ∀ {a : Addr} {n : Nat} {e : TypeId} {y : DataW H × List MemPlace}, (W.cells? base a n).bind (r e) = some y → (W'.cells? base a n).bind (r' e) = some y := by
    intro a n e y hy
    obtain ⟨cs', hc, hy⟩ := Option.bind_eq_some_iff.1 hy
    exact Option.bind_eq_some_iff.2 ⟨cs', cells_stand hb hc, hr _ _ _ hy⟩
  split at h
  case h_6 e a _ =>
    obtain ⟨y, hy, rfl⟩ := Option.map_eq_some_iff.1 h
    exact Option.map_eq_some_iff.2 ⟨y, one hy, rfl⟩
  case h_8 e a len cap _ =>
    simp only at h ⊢
    split at h
    · rename_i hc
      rw [if_pos hc]
      obtain ⟨elems, he, h⟩ := Option.bind_eq_some_iff.1 h
      obtain ⟨rest, hrest, rfl⟩ := Option.map_eq_some_iff.1 h
      refine Option.bind_eq_some_iff.2 ⟨elems, mapM_step he fun i y _ hy => one hy, Option.map_eq_some_iff.2 ⟨rest, ?_, rfl⟩⟩
      split at hrest
      · rename_i hs
        rw [if_pos hs]
        exact mapM_step hrest fun i y _ hy => one hy
      · rename_i hs
        rw [if_neg hs]
        exact hrest
    · cases h
  case h_9 =>
    split at h
    · rename_i hc
      rw [if_pos hc]
      obtain ⟨xs, hx, rfl⟩ := Option.map_eq_some_iff.1 h
      exact Option.map_eq_some_iff.2 ⟨xs, mapM_step hx fun f y _ hy => hr _ _ _ hy, rfl⟩
    · cases h
  case h_10 =>
    split at h
    · rename_i hc
      rw [if_pos hc]
      obtain ⟨xs, hx, rfl⟩ := Option.map_eq_some_iff.1 h
      exact Option.map_eq_some_iff.2 ⟨xs, mapM_step hx fun f y _ hy => hr _ _ _ hy, rfl⟩
    · cases h
  case h_12 =>
    split at h
    · exact h
    · obtain ⟨y, hy, rfl⟩ := Option.map_eq_some_iff.1 h
      exact Option.map_eq_some_iff.2 ⟨y, hr _ _ _ hy, rfl⟩
    · cases h
  case h_14 k e b _ =>
    split at h
    · rename_i es clock hbk
      have hlt := (Array.getElem?_eq_some_iff.1 hbk).1
      rw [hb.block _ hlt, hbk]
      simp only
      split at h
      · rename_i hc
        rw [if_pos hc]
        obtain ⟨entries, he, hd⟩ := Option.bind_eq_some_iff.1 h
        refine Option.bind_eq_some_iff.2 ⟨entries, mapM_step he fun x y _ hy => ?_, hd⟩
        obtain ⟨key, hk, hz⟩ := Option.bind_eq_some_iff.1 hy
        refine Option.bind_eq_some_iff.2 ⟨key, hk, ?_⟩
        split at hz
        · rename_i hf
          rw [if_pos hf]
          obtain ⟨q, hq, rfl⟩ := Option.map_eq_some_iff.1 hz
          exact Option.map_eq_some_iff.2 ⟨q, hr _ _ _ hq, rfl⟩
        · cases hz
      · cases h
    · cases h
  all_goals exact h

theorem trod_stand (hb : Below W.heap.size W W') : ∀ (n : Nat) (t : TypeId) (cs : List Value) (x : DataW H × List MemPlace), DataW.trod enc P W base sp held n t cs = some x → DataW.trod enc P W' base sp held n t cs = some x := by
  intro n
  induction n with
  | zero => intro t cs x h; simp [DataW.trod] at h
  | succ n ih =>
    intro t cs x h
    rw [DataW.trod_step] at h ⊢
    exact trodStep_stand hb ih h

theorem trodAll_stand (hb : Below W.heap.size W W') : ∀ {ts : List TypeId} {vs : List Value} {ds : List (DataW H)} {ps : List MemPlace}, DataW.TrodAll enc P W base sp held ts vs ds ps → DataW.TrodAll enc P W' base sp held ts vs ds ps
  | [], [], [], ps, h => h
  | t :: ts, v :: vs, d :: ds, ps, ⟨p, q, ⟨n, h1⟩, h2, h3⟩ => ⟨p, q, ⟨n, trod_stand hb n _ _ _ h1⟩, trodAll_stand hb h2, h3⟩
  | [], _ :: _, _, _, h => by simp [DataW.TrodAll] at h
  | [], [], _ :: _, _, h => by simp [DataW.TrodAll] at h
  | _ :: _, [], _, _, h => by simp [DataW.TrodAll] at h
  | _ :: _, _ :: _, [], _, h => by simp [DataW.TrodAll] at h

/-! ### What is read, as the abstract machine has it -/
def tiles (P : Program) : Nat → List Field → Nat → Bool
  | o, [], m => o == m
  | o, f :: l, m => f.offset == o && tiles P (o + P.cellsOf f.type) l m
def plainB (P : Program) : Nat → TypeId → Bool
  | 0, _ => false
  | n + 1, t => match P.underlying t with
    | some .bool | some (.int _) | some .string => P.cellsOf t == 1
    | some (.slice e) => (P.cellsOf t == 1) && (decide (0 < P.cellsOf e) && plainB P n e)
    | some (.struct fs) => tiles P 0 fs.toList (P.cellsOf t) && fs.toList.all fun f => plainB P n f.type
    | _ => false
/-- The cells of a value of a type, as they are told. -/
def Shape (P : Program) : Nat → TypeId → List AV → Prop
  | 0, _, _ => False
  | n + 1, t, xs => match P.underlying t with
    | some .bool => ∃ b, xs = [.flat (.bool b)]
    | some (.int k) => ∃ m, xs = [.flat (.int k m)] ∧ (Lit.int k m).wf = true
    | some .string => ∃ s, xs = [.flat (.string s)] ∧ s.size ≤ maxLen
    | some (.slice e) => ∃ els, xs = [.ro els] ∧ els.length ≤ maxLen ∧ ∀ c ∈ els, Shape P n e c
    | some (.struct fs) => xs.length = P.cellsOf t ∧ ∀ f ∈ fs.toList, Shape P n f.type ((xs.drop f.offset).take (P.cellsOf f.type))
    | _ => False

def Told (W : World) (cs : List Value) (xs : List AV) : Prop :=
  cs.length = xs.length ∧ ∀ (i : Nat) (x : AV), xs[i]? = some x → ∃ u, cs[i]? = some u ∧ u.oneCell' = true ∧ VRel W (fun _ => False) Map.empty u x

theorem Told.one {v : Value} {x : AV} (h1 : v.oneCell' = true) (h : VRel W (fun _ => False) Map.empty v x) : Told W [v] [x] := ⟨rfl, fun i y hy => by
  cases i with
  | zero => simp at hy; subst hy; exact ⟨v, rfl, h1, h⟩
  | succ i => simp at hy⟩
theorem Told.append {a b : List Value} {x y : List AV} (h : Told W a x) (k : Told W b y) : Told W (a ++ b) (x ++ y) := by
  refine ⟨by simp [h.1, k.1], fun i z hz => ?_⟩
  by_cases hlt : i < x.length
  · rw [List.getElem?_append_left hlt] at hz
    obtain ⟨u, hu, r⟩ := h.2 i z hz
    exact ⟨u, by rw [List.getElem?_append_left (by rw [h.1]; exact hlt)]; exact hu, r⟩
  · rw [List.getElem?_append_right (by omega)] at hz
    obtain ⟨u, hu, r⟩ := k.2 _ z hz
    exact ⟨u, by rw [List.getElem?_append_right (by rw [h.1]; omega), h.1]; exact hu, r⟩

theorem choose_list {α : Type} {Q : Nat → α → Prop} : ∀ (n : Nat), (∀ i, i < n → ∃ x, Q i x) → ∃ l : List α, l.length = n ∧ ∀ i x, l[i]? = some x → Q i x := by
  intro n
  induction n with
  | zero => intro _; exact ⟨[], rfl, fun i x h => by simp at h⟩
  | succ n ih =>
    intro h
    obtain ⟨l, hl, hq⟩ := ih fun i hi => h i (by omega)
    obtain ⟨x, hx⟩ := h n (by omega)
    refine ⟨l ++ [x], by simp [hl], fun i y hy => ?_⟩
    by_cases hlt : i < l.length
    · rw [List.getElem?_append_left hlt] at hy; exact hq i y hy
    · have hi : i = n := by
        have := (List.getElem?_eq_some_iff.1 hy).1
        simp at this; omega
      subst hi
      rw [List.getElem?_append_right (by omega)] at hy
      simp [hl] at hy; subst hy; exact hx

theorem told_fields {Q : Field → List AV → Prop} : ∀ (fs : List Field) (o m : Nat) (cs : List Value), tiles P o fs m = true → o + cs.length = m →
    (∀ f ∈ fs, ∃ ys, Told W ((cs.drop (f.offset - o)).take (P.cellsOf f.type)) ys ∧ ys.length = P.cellsOf f.type ∧ Q f ys) →
    ∃ xs, Told W cs xs ∧ ∀ f ∈ fs, o ≤ f.offset ∧ Q f ((xs.drop (f.offset - o)).take (P.cellsOf f.type)) := by
  intro fs
  induction fs with
  | nil =>
    intro o m cs ht hm _
    simp only [tiles, beq_iff_eq] at ht
    have : cs = [] := List.eq_nil_of_length_eq_zero (by omega)
    subst this
    exact ⟨[], ⟨rfl, fun i x h => by simp at h⟩, fun f hf => by simp at hf⟩
  | cons f fs ih =>
    intro o m cs ht hm h
    simp only [tiles, Bool.and_eq_true, beq_iff_eq] at ht
    obtain ⟨ho, ht⟩ := ht
    have hge : ∀ (l : List Field) (o' : Nat), tiles P o' l m = true → o' ≤ m ∧ ∀ g ∈ l, o' ≤ g.offset := by
      intro l
      induction l with
      | nil => intro o' h; simp only [tiles, beq_iff_eq] at h; exact ⟨by omega, fun g hg => by simp at hg⟩
      | cons g l ihl =>
        intro o' h
        simp only [tiles, Bool.and_eq_true, beq_iff_eq] at h
        obtain ⟨h1, h2⟩ := ihl _ h.2
        refine ⟨by omega, fun g' hg' => ?_⟩
        rcases List.mem_cons.1 hg' with rfl | hg'
        · omega
        · have := h2 g' hg'; omega
    obtain ⟨hle, hoff⟩ := hge fs _ ht
    obtain ⟨ys, hy, hyl, hq⟩ := h f (by simp)
    have e0 : f.offset - o = 0 := by omega
    rw [e0, List.drop_zero] at hy
    obtain ⟨zs, hz, hzq⟩ := ih (o + P.cellsOf f.type) m (cs.drop (P.cellsOf f.type)) ht (by rw [List.length_drop]; omega) fun g hg => by
      obtain ⟨ws, hw, hwl, hwq⟩ := h g (by simp [hg])
      refine ⟨ws, ?_, hwl, hwq⟩
      have := hoff g hg
      rw [List.drop_drop]
      have e : P.cellsOf f.type + (g.offset - (o + P.cellsOf f.type)) = g.offset - o := by omega
      rw [e]; exact hw
    refine ⟨ys ++ zs, ?_, fun g hg => ?_⟩
    · have := hy.append hz
      rw [List.take_append_drop] at this
      exact this
    · rcases List.mem_cons.1 hg with rfl | hg
      · refine ⟨by omega, ?_⟩
        rw [e0, List.drop_zero, List.take_append_of_le_length (by omega), ← hyl, List.take_length]
        exact hq
      · obtain ⟨h1, h2⟩ := hzq g hg
        refine ⟨by omega, ?_⟩
        have e : g.offset - o = ys.length + (g.offset - (o + P.cellsOf f.type)) := by omega
        have e2 : (ys ++ zs).drop (ys.length + (g.offset - (o + P.cellsOf f.type))) = zs.drop (g.offset - (o + P.cellsOf f.type)) := by
          rw [← List.drop_drop, List.drop_left]
        rw [e, e2]
        exact h2

theorem mapM_range_get {α : Type} {f : Nat → Option α} : ∀ {n : Nat} {l : List α}, (List.range n).mapM f = some l → ∀ j, j < n → f j = l[j]? := by
  intro n l h
  have := mapM_len h
  intro j hj
  obtain ⟨b, hb, hf⟩ := this.2 j j (by rw [List.getElem?_range hj])
  rw [hf, hb]

theorem told_of_trod : ∀ (n : Nat) (t : TypeId), plainB P n t = true → ∀ (fuel : Nat) (cs : List Value) (x : DataW H × List MemPlace), DataW.trod enc P W base sp held fuel t cs = some x →
    ∃ xs, Told W cs xs ∧ cs.length = P.cellsOf t ∧ Shape P n t xs := by
  intro n
  induction n with
  | zero => intro t h; cases h
  | succ n ih =>
    intro t hp fuel cs x hx
    unfold plainB at hp
    unfold Shape
    split at hp
    · rename_i ht
      obtain ⟨b, rfl, _⟩ := DataW.trod_bool ht hx
      try simp only [ht]
      have hc1 := eq_of_beq hp
      exact ⟨[.flat (.bool b)], .one rfl (.flat _ rfl), hc1.symm, b, rfl⟩
    · rename_i k ht
      obtain ⟨m, rfl, _, hw⟩ := DataW.trod_int ht hx
      try simp only [ht]
      have hc1 := eq_of_beq hp
      exact ⟨[.flat (.int k m)], .one rfl (.flat _ rfl), hc1.symm, m, rfl, hw⟩
    · rename_i ht
      obtain ⟨s, rfl, _, hw⟩ := DataW.trod_string ht hx
      try simp only [ht]
      have hc1 := eq_of_beq hp
      exact ⟨[.flat (.string s)], .one rfl (.flat _ rfl), hc1.symm, s, rfl, hw⟩
    · rename_i e ht
      simp only [Bool.and_eq_true, decide_eq_true_eq] at hp
      try simp only [ht]
      obtain ⟨hc1, hp⟩ := hp
      have hc1 := eq_of_beq hc1
      rcases Go.Deep.open_slice ht hx with ⟨rfl, _⟩ | ⟨a, len, cap, m, k, D, Pl, rfl, hb, hlc, hcm, hm, _, hel⟩
      · exact ⟨[.ro []], .one rfl (.ro 0 (fun _ _ => undef) rfl (Nat.le_refl _) (fun e h => by simp at h) (fun h => absurd h (by omega)) (fun i j h => absurd h (by omega)) fun i e j x h => by simp at h), hc1.symm, [], rfl, by simp, fun c hc => by simp at hc⟩
      · have hlm : len ≤ m := by rw [hm]; split <;> omega
        obtain ⟨els, hl, hels⟩ := choose_list (Q := fun i (c : List AV) => ∃ cs', W.cells? base (a.add (i * P.cellsOf e)) (P.cellsOf e) = some cs' ∧ Told W cs' c ∧ cs'.length = P.cellsOf e ∧ Shape P n e c) len fun i hi => by
          obtain ⟨cs', hc, ht'⟩ := hel i (by omega)
          obtain ⟨c, h1, h2, h3⟩ := ih e hp.2 k cs' _ ht'
          exact ⟨c, cs', hc, h1, h2, h3⟩
        have cell : ∀ i j c, els[i]? = some c → j < P.cellsOf e → ∃ u x, W.cell? (a.add (i * P.cellsOf e + j)) = some u ∧ c[j]? = some x ∧ u.oneCell' = true ∧ VRel W (fun _ => False) Map.empty u x := by
          intro i j c hc hj
          obtain ⟨cs', h1, h2, h3, _⟩ := hels i c hc
          have hlt : j < c.length := by rw [← h2.1, h3]; exact hj
          obtain ⟨u, hu, h4, h5⟩ := h2.2 j c[j] (List.getElem?_eq_getElem hlt)
          refine ⟨u, c[j], ?_, List.getElem?_eq_getElem hlt, h4, h5⟩
          unfold World.cells? at h1
          split at h1
          · have := mapM_range_get h1 j hj
            rw [add_add] at this
            rw [this, hu]
          · cases h1
        have hsz : ∀ c ∈ els, c.length = P.cellsOf e := by
          intro c hc
          obtain ⟨i, hi⟩ := List.mem_iff_getElem?.1 hc
          obtain ⟨cs', _, h2, h3, _⟩ := hels i c hi
          rw [← h2.1, h3]
        refine ⟨[.ro els], .one rfl (.ro (P.cellsOf e) (fun i j => (W.cell? (a.add (i * P.cellsOf e + j))).getD undef) hl.symm hlc hsz (fun h0 => ⟨a, rfl, fun h => h, ?_, fun i j hi hj => ?_⟩) (fun i j hi hj => ?_) fun i c j x hc hx => ?_), hc1.symm, els, rfl, by omega, fun c hc => ?_⟩
        · obtain ⟨u, _, hu, _⟩ := cell 0 0 els[0] (List.getElem?_eq_getElem (by omega)) hp.1
          unfold World.cell? at hu
          split at hu
          · rename_i hg
            have := (Array.getElem?_eq_some_iff.1 hg).1
            rwa [add_block] at this
          · cases hu
        · obtain ⟨u, _, hu, _⟩ := cell i j els[i] (List.getElem?_eq_getElem (by omega)) hj
          rw [hu]; rfl
        · obtain ⟨u, _, hu, _, h1, _⟩ := cell i j els[i] (List.getElem?_eq_getElem (by omega)) hj
          rw [hu]; exact h1
        · have hj : j < P.cellsOf e := by rw [← hsz c (List.mem_of_getElem? hc)]; exact (List.getElem?_eq_some_iff.1 hx).1
          obtain ⟨u, y, hu, hy, _, hv⟩ := cell i j c hc hj
          rw [hx] at hy
          obtain rfl := Option.some.inj hy
          rw [hu]; exact hv
        · obtain ⟨i, hi⟩ := List.mem_iff_getElem?.1 hc
          obtain ⟨_, _, _, _, h4⟩ := hels i c hi
          exact h4
    · rename_i fs ht
      simp only [Bool.and_eq_true, List.all_eq_true] at hp
      try simp only [ht]
      obtain ⟨xs0, m, _, _, hlen, hxl, hfs⟩ := DataW.trod_struct ht hx
      obtain ⟨xs, h1, h2⟩ := told_fields (W := W) (Q := fun f ys => Shape P n f.type ys) fs.toList 0 (P.cellsOf t) cs hp.1 (by omega) fun f hf => by
        obtain ⟨i, hi⟩ := List.mem_iff_getElem?.1 hf
        have hi' : fs[i]? = some f := by simpa using hi
        have hlt : i < xs0.length := by rw [hxl]; exact (Array.getElem?_eq_some_iff.1 hi').1
        have := hfs i f hi'
        rw [List.getElem?_eq_getElem hlt] at this
        obtain ⟨ys, h1, h2, h3⟩ := ih f.type (hp.2 f hf) m _ _ this
        exact ⟨ys, by simpa using h1, by rw [← h1.1, h2], h3⟩
      exact ⟨xs, h1, hlen, h1.1.symm.trans hlen, fun f hf => by simpa using (h2 f hf).2⟩
    · cases hp
end Go.Proofs.Ytnceadbfgpiaaaa.G
