/- Steps of the abstract machine on the table of one's own rows, against memory. Plain theorems over any program. -/
import Derived.Test.YtnceadbfgpiaaaaG2
namespace Go.Proofs.Ytnceadbfgpiaaaa.G
set_option linter.unusedVariables false
set_option linter.unusedSimpArgs false
open Go
variable {P : Program} {w w' : World} {L L' : Nat → Prop} {μ μ' : Map} {T T' : Table}

theorem RowAt.lt {p : Place} {r : Row} (h : RowAt P w L μ p r) : p.g < w.heap.size := by
  obtain ⟨cur, hg, _⟩ := h.cur
  exact (Array.getElem?_eq_some_iff.1 hg).1

/-- One row is new, or written; the others stand. -/
theorem TRel.step (hT : TRel P w L μ T) (hb : ∀ b, b < w.heap.size → ¬ L b → w'.heap[b]? = w.heap[b]?) (hs : w.heap.size ≤ w'.heap.size)
    (hL : ∀ b, b < w.heap.size → (L' b ↔ L b)) (hμ : ∀ id q, μ id = some q → μ' id = some q) (k : Nat) (rk : Row) (qk : Option Place) (hqk : μ' k = some qk)
    (hk : ∀ p, qk = some p → RowAt P w' L' μ' p rk) (hk0 : qk = none → rk.els = [])
    (hT' : ∀ i r, T' i = some r → (i ≠ k ∧ T i = some r ∧ ∀ p, μ i = some (some p) → w'.heap[p.g]? = w.heap[p.g]? ∧ ∀ pk, qk = some pk → p.g ≠ pk.g) ∨ (i = k ∧ r = rk)) :
    TRel P w' L' μ' T' := by
  constructor
  · intro i r hr
    rcases hT' i r hr with ⟨hne, hi, hp⟩ | ⟨rfl, rfl⟩
    · obtain ⟨q, hq, hrow, hnil⟩ := hT.row i r hi
      refine ⟨q, hμ _ _ hq, fun p he => ?_, hnil⟩
      subst he
      have hr0 := hrow p rfl
      exact hr0.mono hb hs (fun b hb' => (hL b hb').1) hμ (hp p hq).1 ((hL _ hr0.lt).2 hr0.live)
    · exact ⟨qk, hqk, hk, hk0⟩
  · intro i i' r r' p p' hr hr' hp hp' hne
    have old : ∀ j rj pj, T j = some rj → μ' j = some (some pj) → μ j = some (some pj) := by
      intro j rj pj hj hpj
      obtain ⟨q, hq, _⟩ := hT.row j rj hj
      rw [hμ _ _ hq] at hpj
      rw [hq, Option.some.inj hpj]
    rcases hT' i r hr with ⟨hn, hi, hpi⟩ | ⟨rfl, rfl⟩
    · have ho := old i r p hi hp
      rcases hT' i' r' hr' with ⟨hn', hi', hpi'⟩ | ⟨rfl, rfl⟩
      · exact hT.apart i i' r r' p p' hi hi' ho (old i' r' p' hi' hp') hne
      · rw [hp'] at hqk
        exact (hpi p ho).2 p' (Option.some.inj hqk).symm
    · rcases hT' i' r' hr' with ⟨hn', hi', hpi'⟩ | ⟨rfl, rfl⟩
      · rw [hp] at hqk
        have := (hpi' p' (old i' r' p' hi' hp')).2 p (Option.some.inj hqk).symm
        exact fun e => this e.symm
      · exact absurd rfl hne

def newL (w : World) (L : Nat → Prop) : Nat → Prop := fun b => L b ∨ b = w.heap.size

theorem Map.set_ext {id : Nat} (hid : μ id = none) (q : Option Place) : ∀ i x, μ i = some x → (μ.set id q) i = some x := by
  intro i x hx
  unfold Map.set
  split
  · subst_vars; rw [hid] at hx; cases hx
  · exact hx

/-- A new block. -/
theorem alloc_core {w1 : World} (hT : TRel P w L μ T) {id : Nat} (hid : μ id = none) (hh : w1.heap = w.heap) (ho : w1.os = w.os) (ht : w1.tape = w.tape) (hu : w1.output = w.output)
    (cur : Array Value) (e : TypeId) (cap sz : Nat) (els : List (List AV)) (hsz : cur.size = cap * sz) (hc : CurRel w L μ cur 0 sz els) (hlen : els.length ≤ cap) (hs : ∀ e ∈ els, e.length = sz)
    (hszT : sz = P.cellsOf e) (hcap : cap ≤ maxLen) :
    Ext w L μ T (w1.alloc (.cells cur e)) (newL w L) (μ.set id (some ⟨w.heap.size, 0, cap, sz⟩)) (T.set id (some ⟨e, els⟩)) ∧
      TRel P (w1.alloc (.cells cur e)) (newL w L) (μ.set id (some ⟨w.heap.size, 0, cap, sz⟩)) (T.set id (some ⟨e, els⟩)) := by
  have hn : (w1.alloc (.cells cur e)).heap[w.heap.size]? = some (.cells cur e) := by rw [← hh]; exact heap_alloc_new w1 _
  have hold : ∀ b, b < w.heap.size → (w1.alloc (.cells cur e)).heap[b]? = w.heap[b]? := by
    intro b hb
    rw [← hh]; exact Go.RowKit.Below.heap_alloc w1 _ b (by rw [hh]; exact hb)
  have hsize : w.heap.size ≤ (w1.alloc (.cells cur e)).heap.size := by simp [World.alloc, hh]
  have hL : ∀ b, b < w.heap.size → (newL w L b ↔ L b) := by
    intro b hb
    unfold newL
    constructor
    · rintro (h | h)
      · exact h
      · omega
    · exact .inl
  have hμ := Map.set_ext hid (some ⟨w.heap.size, 0, cap, sz⟩)
  have hTid : ∀ i r, T i = some r → i ≠ id := by
    rintro i r hi rfl
    obtain ⟨q, hq, _⟩ := hT.row i r hi
    rw [hid] at hq; cases hq
  constructor
  · refine ⟨ho, ht, hu, hsize, fun b hb _ => hold b hb, hL, hμ, fun i r p hr hp => ?_⟩
    unfold Table.set at hr
    split at hr
    · subst_vars
      simp only [Map.set, if_true, Option.some.injEq] at hp
      subst hp
      exact .inl (Nat.le_refl _)
    · rename_i hne
      simp only [Map.set, hne, if_false] at hp
      exact .inr ⟨i, r, p, hr, hp, rfl⟩
  · refine hT.step (fun b hb _ => hold b hb) hsize hL hμ id ⟨e, els⟩ (some ⟨w.heap.size, 0, cap, sz⟩) (by simp [Map.set]) ?_ (fun h => by cases h) ?_
    · intro p hp
      obtain rfl := Option.some.inj hp
      refine ⟨⟨cur, hn, by simpa using hsz, fun i e' j x he hx => ?_⟩, hlen, hs, hszT, hcap, .inr rfl⟩
      obtain ⟨u, hu, h1, hv⟩ := hc i e' j x he hx
      exact ⟨u, hu, h1, hv.mono (fun b hb _ => hold b hb) hsize (fun b hb => (hL b hb).1) hμ⟩
    · intro i r hr
      unfold Table.set at hr
      split at hr
      · subst_vars
        exact .inr ⟨rfl, (Option.some.inj hr).symm⟩
      · rename_i hne
        refine .inl ⟨hne, hr, fun p hp => ⟨hold _ ((hT.cell hr hp).lt), fun pk hpk => ?_⟩⟩
        obtain rfl := Option.some.inj hpk
        have := (hT.cell hr hp).lt
        simp only
        omega

/-- A row is written in its place. -/
theorem store_core (hT : TRel P w L μ T) {id : Nat} {r : Row} {p : Place} (hr : T id = some r) (hp : μ id = some (some p)) {cur cur' : Array Value} (hg : w.heap[p.g]? = some (.cells cur r.elem (0, 0)))
    (hsz : cur'.size = cur.size) {els : List (List AV)} (hc : CurRel w L μ cur' p.b p.sz els) (hlen : els.length ≤ p.cap) (hs : ∀ e ∈ els, e.length = p.sz) :
    Ext w L μ T (w.setRow p.g cur') L μ (T.set id (some ⟨r.elem, els⟩)) ∧ TRel P (w.setRow p.g cur') L μ (T.set id (some ⟨r.elem, els⟩)) := by
  have hrow := hT.cell hr hp
  have hother : ∀ b, b ≠ p.g → (w.setRow p.g cur').heap[b]? = w.heap[b]? := fun b hb => setRow_other w p.g b _ hb
  have hsize : w.heap.size ≤ (w.setRow p.g cur').heap.size := by simp [World.setRow]
  have hbl : ∀ b, b < w.heap.size → ¬ L b → (w.setRow p.g cur').heap[b]? = w.heap[b]? := fun b _ hL => hother b fun e => hL (e ▸ hrow.live)
  have hcur : cur'.size = p.b + p.cap * p.sz := by
    obtain ⟨c0, h0, h1, _⟩ := hrow.cur
    rw [hg] at h0
    injection h0 with h0
    injection h0 with h0
    subst h0
    omega
  constructor
  · refine ⟨rfl, rfl, rfl, hsize, fun b hb hn => hother b fun e => hn id r p hr hp e.symm, fun _ _ => Iff.rfl, fun _ _ h => h, fun i r' p' hr' hp' => ?_⟩
    unfold Table.set at hr'
    split at hr'
    · subst_vars
      rw [hp] at hp'
      injection hp' with hp'
      injection hp' with hp'
      subst hp'
      exact .inr ⟨i, r, p, hr, hp, rfl⟩
    · exact .inr ⟨i, r', p', hr', hp', rfl⟩
  · refine hT.step hbl hsize (fun _ _ => Iff.rfl) (fun _ _ h => h) id ⟨r.elem, els⟩ (some p) hp ?_ (fun h => by cases h) ?_
    · intro p' hp'
      obtain rfl := Option.some.inj hp'
      refine ⟨⟨cur', setRow_heap w p.g cur cur' _ _ hg, hcur, fun i e' j x he hx => ?_⟩, hlen, hs, hrow.szT, hrow.cap, hrow.live⟩
      obtain ⟨u, hu, h1, hv⟩ := hc i e' j x he hx
      exact ⟨u, hu, h1, hv.mono hbl hsize (fun b hb h => h) (fun _ _ h => h)⟩
    · intro i r' hr'
      unfold Table.set at hr'
      split at hr'
      · subst_vars
        exact .inr ⟨rfl, (Option.some.inj hr').symm⟩
      · rename_i hne
        refine .inl ⟨hne, hr', fun p' hp' => ?_⟩
        have hap := hT.apart i id r' r p' p hr' hr hp' hp hne
        refine ⟨hother _ hap, fun pk hpk => ?_⟩
        obtain rfl := Option.some.inj hpk
        exact hap

/-- A row is written on: from one of its elements on it has a new name, the old one is given up. -/
theorem move_core (hT : TRel P w L μ T) {id id' : Nat} (hid : μ id' = none) {r : Row} {p p' : Place} (hr : T id = some r) (hp : μ id = some (some p)) {cur cur' : Array Value} (hg : w.heap[p.g]? = some (.cells cur r.elem (0, 0)))
    (hg' : p'.g = p.g) (hsz : cur'.size = p'.b + p'.cap * p'.sz) (hszT : p'.sz = P.cellsOf r.elem) (hcap : p'.cap ≤ maxLen) {els : List (List AV)} (hc : CurRel w L μ cur' p'.b p'.sz els) (hlen : els.length ≤ p'.cap) (hs : ∀ e ∈ els, e.length = p'.sz) :
    Ext w L μ T (w.setRow p.g cur') L (μ.set id' (some p')) ((T.set id none).set id' (some ⟨r.elem, els⟩)) ∧ TRel P (w.setRow p.g cur') L (μ.set id' (some p')) ((T.set id none).set id' (some ⟨r.elem, els⟩)) := by
  have hrow := hT.cell hr hp
  have hother : ∀ b, b ≠ p.g → (w.setRow p.g cur').heap[b]? = w.heap[b]? := fun b hb => setRow_other w p.g b _ hb
  have hsize : w.heap.size ≤ (w.setRow p.g cur').heap.size := by simp [World.setRow]
  have hbl : ∀ b, b < w.heap.size → ¬ L b → (w.setRow p.g cur').heap[b]? = w.heap[b]? := fun b _ hL => hother b fun e => hL (e ▸ hrow.live)
  have hμ := Map.set_ext hid (some p')
  constructor
  · refine ⟨rfl, rfl, rfl, hsize, fun b hb hn => hother b fun e => hn id r p hr hp e.symm, fun _ _ => Iff.rfl, hμ, fun i r' q hr' hq => ?_⟩
    unfold Table.set at hr'
    split at hr'
    · subst_vars
      simp only [Map.set, if_true, Option.some.injEq] at hq
      subst hq
      exact .inr ⟨id, r, p, hr, hp, hg'.symm⟩
    · rename_i hne
      simp only [Map.set, hne, if_false] at hq
      split at hr'
      · cases hr'
      · exact .inr ⟨i, r', q, hr', hq, rfl⟩
  · refine hT.step hbl hsize (fun _ _ => Iff.rfl) hμ id' ⟨r.elem, els⟩ (some p') (by simp [Map.set]) ?_ (fun h => by cases h) ?_
    · intro q hq
      obtain rfl := Option.some.inj hq
      refine ⟨⟨cur', by rw [hg']; exact setRow_heap w p.g cur cur' _ _ hg, hsz, fun i e' j x he hx => ?_⟩, hlen, hs, hszT, hcap, by rw [hg']; exact hrow.live⟩
      obtain ⟨u, hu, h1, hv⟩ := hc i e' j x he hx
      exact ⟨u, hu, h1, hv.mono hbl hsize (fun b hb h => h) hμ⟩
    · intro i r' hr'
      unfold Table.set at hr'
      split at hr'
      · subst_vars
        exact .inr ⟨rfl, (Option.some.inj hr').symm⟩
      · rename_i hne
        split at hr'
        · cases hr'
        · rename_i hne2
          refine .inl ⟨hne, hr', fun q hq => ?_⟩
          have hap := hT.apart i id r' r q p hr' hr hq hp hne2
          refine ⟨hother _ hap, fun pk hpk => ?_⟩
          obtain rfl := Option.some.inj hpk
          rw [hg']; exact hap

/-- A row without a place (nil) has a new name; nothing changes. -/
theorem nil_core (hT : TRel P w L μ T) {id id' : Nat} (hid : μ id' = none) (e : TypeId) :
    Ext w L μ T w L (μ.set id' none) ((T.set id none).set id' (some ⟨e, []⟩)) ∧ TRel P w L (μ.set id' none) ((T.set id none).set id' (some ⟨e, []⟩)) := by
  have hμ := Map.set_ext hid none
  constructor
  · refine ⟨rfl, rfl, rfl, Nat.le_refl _, fun _ _ _ => rfl, fun _ _ => Iff.rfl, hμ, fun i r' q hr' hq => ?_⟩
    unfold Table.set at hr'
    split at hr'
    · subst_vars
      simp only [Map.set, if_true, Option.some.injEq] at hq
      cases hq
    · rename_i hne
      simp only [Map.set, hne, if_false] at hq
      split at hr'
      · cases hr'
      · exact .inr ⟨i, r', q, hr', hq, rfl⟩
  · refine hT.step (fun _ _ _ => rfl) (Nat.le_refl _) (fun _ _ => Iff.rfl) hμ id' ⟨e, []⟩ none (by simp [Map.set]) (fun p h => by cases h) (fun _ => rfl) ?_
    intro i r' hr'
    unfold Table.set at hr'
    split at hr'
    · subst_vars
      exact .inr ⟨rfl, (Option.some.inj hr').symm⟩
    · rename_i hne
      split at hr'
      · cases hr'
      · exact .inl ⟨hne, hr', fun q hq => ⟨rfl, fun pk h => by cases h⟩⟩

/-- Rows given up. -/
theorem drop_core (hT : TRel P w L μ T) (id : Nat) : Ext w L μ T w L μ (T.set id none) ∧ TRel P w L μ (T.set id none) := by
  have hsub : ∀ i r, (T.set id none) i = some r → T i = some r := by
    intro i r h
    unfold Table.set at h
    split at h
    · cases h
    · exact h
  exact ⟨⟨rfl, rfl, rfl, Nat.le_refl _, fun _ _ _ => rfl, fun _ _ => Iff.rfl, fun _ _ h => h, fun i r p hr hp => .inr ⟨i, r, p, hsub i r hr, hp, rfl⟩⟩,
    ⟨fun i r hr => hT.row i r (hsub i r hr), fun i i' r r' p p' h h' => hT.apart i i' r r' p p' (hsub i r h) (hsub i' r' h')⟩⟩
end Go.Proofs.Ytnceadbfgpiaaaa.G
