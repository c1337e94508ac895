/- G13, G14, one behind the other. -/
import Derived.Test.YtnceadbfgpiaaaaQ1
import Derived.LoopN
import Derived.Laws.Sem
/- That the machine's own run does what the abstract machine tells: one operation, regions in the text's order, code. Plain theorems over any program. -/
namespace Go.Proofs.Ytnceadbfgpiaaaa.G
set_option linter.unusedVariables false
set_option linter.unusedSimpArgs false
open Go
variable {P : Program}

/-- What the run started from: the world, what may change there, the frame's size. -/
structure Start where
  w0 : World
  L0 : Nat → Prop
  old : Nat → Prop
  n : Nat
  pm : Nat
  pin : Nat → Option Place

/-- The run stands where the abstract machine stands. -/
structure Core (P : Program) (S : Start) (fresh : Nat → Prop) (st : St) (a : Act) (w : World) (L : Nat → Prop) (μ : Map) : Prop where
  size : a.tmps.size = S.n
  defers : a.defers = []
  slot : ∀ t, (st.s t).isDead = false → VRel w L μ (a.tmps.getD t undef) (st.s t)
  tab : TRel P w L μ st.T
  fresh : ∀ id, fresh id → μ id = none
  os : w.os = S.w0.os
  tape : w.tape = S.w0.tape
  output : w.output = S.w0.output
  grown : S.w0.heap.size ≤ w.heap.size
  block : ∀ b, b < S.w0.heap.size → ¬ S.old b → w.heap[b]? = S.w0.heap[b]?
  L : ∀ b, b < S.w0.heap.size → (L b ↔ S.L0 b)
  place : ∀ id r p, st.T id = some r → μ id = some (some p) → S.w0.heap.size ≤ p.g ∨ S.old p.g
  pinned : ∀ id, id < S.pm → μ id = some (S.pin id)

def Rel (P : Program) (S : Start) (fresh : Nat → Prop) (st : St) (a : Act) (w : World) : Prop := ∃ L μ, Core P S fresh st a w L μ

theorem Core.op {S : Start} {fresh : Nat → Prop} {st : St} {a : Act} {w : World} {L : Nat → Prop} {μ : Map} (h : Core P S fresh st a w L μ) (x : Operand) (y : AV) (hx : st.op x = some y) : VRel w L μ (a.eval x) y := by
  cases x with
  | tmp t =>
    simp only [St.op] at hx
    split at hx
    · cases hx
    · rename_i hd
      obtain rfl := Option.some.inj hx
      exact h.slot t (by simpa using hd)
  | const v =>
    simp only [St.op] at hx
    split at hx
    · rename_i hv; obtain rfl := Option.some.inj hx; exact .flat v hv
    · cases hx
  | global g => cases hx
  | func f => simp only [St.op, Option.some.injEq] at hx; subst hx; exact .flat _ rfl

theorem put_getD (a : Act) (d : Option Tmp) (v : Value) (hd : ∀ k, d = some k → k < a.tmps.size) (t : Nat) : (a.put d v).tmps.getD t undef = if d = some t then v else a.tmps.getD t undef := by
  cases d with
  | none => simp [Act.put]
  | some k =>
    have hk := hd k rfl
    simp only [Act.put, Option.some.injEq, Array.getD_eq_getD_getElem?, Array.getElem?_setIfInBounds]
    by_cases e : k = t
    · subst e; simp [hk]
    · simp [e]
theorem put_size (a : Act) (d : Option Tmp) (v : Value) : (a.put d v).tmps.size = a.tmps.size := by cases d <;> simp [Act.put]
theorem put_defers (a : Act) (d : Option Tmp) (v : Value) : (a.put d v).defers = a.defers := by cases d <;> simp [Act.put]
theorem St.put_s (st : St) (d : Option Tmp) (v : AV) (t : Nat) : (st.put d v).s t = if d = some t then v else st.s t := by
  cases d with
  | none => simp [St.put]
  | some k =>
    simp only [St.put, upd, Option.some.injEq]
    by_cases e : t = k
    · subst e; simp
    · rw [if_neg e, if_neg (fun h => e h.symm)]
theorem St.put_T (st : St) (d : Option Tmp) (v : AV) : (st.put d v).T = st.T := by cases d <;> rfl
theorem St.put_nx (st : St) (d : Option Tmp) (v : AV) : (st.put d v).nx = st.nx := by cases d <;> rfl

/-- A step that keeps to its rows. -/
theorem Core.step {S : Start} {fresh fresh' : Nat → Prop} {st : St} {a : Act} {w w' : World} {L L' : Nat → Prop} {μ μ' : Map} {T' : Table} (h : Core P S fresh st a w L μ) {d : Option Tmp} (hd : ∀ k, d = some k → k < S.n)
    {v : Value} {x : AV} (he : Ext w L μ st.T w' L' μ' T') (hT' : TRel P w' L' μ' T') (hv : VRel w' L' μ' v x) (hf : ∀ id, fresh' id → μ' id = none) :
    Core P S fresh' { st.put d x with T := T' } (a.put d v) w' L' μ' := by
  refine ⟨(put_size _ _ _).trans h.size, (put_defers _ _ _).trans h.defers, fun t ht => ?_, hT', hf, he.os.trans h.os, he.tape.trans h.tape, he.output.trans h.output, Nat.le_trans h.grown he.size, fun b hb ho => ?_, fun b hb => (he.L b (Nat.lt_of_lt_of_le hb h.grown)).trans (h.L b hb), fun id r p hr hp => ?_, fun id hid => he.map _ _ (h.pinned id hid)⟩
  · have ht' : ((st.put d x).s t).isDead = false := ht
    show VRel w' L' μ' _ ((st.put d x).s t)
    rw [St.put_s] at ht'
    rw [put_getD a d v (fun k hk => by rw [h.size]; exact hd k hk), St.put_s]
    split
    · exact hv
    · rename_i hne
      rw [if_neg hne] at ht'
      exact he.vrel h.tab (h.slot t ht')
  · refine (he.block b (Nat.lt_of_lt_of_le hb h.grown) fun id r p hr hp e => ?_).trans (h.block b hb ho)
    rcases h.place id r p hr hp with hge | hge
    · omega
    · exact ho (e ▸ hge)
  · rcases he.place id r p hr hp with hge | ⟨id0, r0, p0, h0, h1, h2⟩
    · exact .inl (Nat.le_trans h.grown hge)
    · rw [← h2]; exact h.place id0 r0 p0 h0 h1

theorem wanted_sound {S : Start} {fresh : Nat → Prop} {st : St} {a : Act} {w : World} {L : Nat → Prop} {μ : Map} (h : Core P S fresh st a w L μ) {ops : Array Oper} {o : Oper} {b : Bool} (hw : wantedA st ops o = some b)
    (hd : ∀ (j : Nat) (o : Oper) (d : Tmp), ops[j]? = some o → o.dst = some d → d < S.n) : Region.wanted o (yielded ops a.tmps) = b := by
  unfold wantedA at hw
  unfold Region.wanted
  split at hw
  · rename_i hg; obtain rfl := Option.some.inj hw; simp [hg]
  · rename_i j want hg
    simp only [hg]
    cases ho : (ops[j]?).bind (·.dst) with
    | none => simp only [ho] at hw; cases hw
    | some d =>
      simp only [ho] at hw
      obtain ⟨oj, hoj, hdj⟩ := Option.bind_eq_some_iff.1 ho
      have hlt : d < a.tmps.size := by rw [h.size]; exact hd j oj d hoj hdj
      have hg' : a.tmps.getD d undef = a.tmps[d] := by simp [Array.getD, hlt]
      unfold yielded
      simp only [ho, Option.bind_some, Array.getElem?_eq_getElem hlt]
      split at hw
      · rename_i b' hb'
        have hs := h.slot d (by rw [hb']; rfl)
        rw [hg', hb'] at hs
        generalize a.tmps[d] = u at hs
        have := flat_eq hs
        subst this
        simp only [Option.some.injEq] at hw
        subst hw
        cases b' <;> cases want <;> rfl
      · rename_i b' hb'
        have hs := h.slot d (by rw [hb']; rfl)
        rw [hg', hb'] at hs
        generalize a.tmps[d] = u at hs
        have := flat_eq hs
        subst this
        simp only [Option.some.injEq] at hw
        subst hw
        rfl
      · cases hw

/-! ### Calls -/
theorem noId_rel {w : World} {L L' : Nat → Prop} {μ : Map} {v : Value} {x : AV} (h : VRel w L μ v x) (hx : x.noId = true) (hL : ∀ b, b < w.heap.size → L' b → L b) : VRel w L' Map.empty v x := by
  have hm : VRel w L' μ v x := h.mono (fun _ _ _ => rfl) (Nat.le_refl _) hL (fun _ _ h => h)
  cases hm with
  | flat v hv => exact .flat v hv
  | ro sz U hn hc hs hA h1 hh => exact .ro sz U hn hc hs hA h1 hh
  | rp U hb hl hc h1 hh => exact .rp U hb hl hc h1 hh
  | agg => cases hx
  | tup => cases hx
  | sl => cases hx
  | ptr => cases hx

theorem noIds_rel {w : World} {L L' : Nat → Prop} {μ : Map} {v : Value} {x : AV} (h : VRel w L μ v x) (hx : x.noIds = true) (hL : ∀ b, b < w.heap.size → L' b → L b) : VRel w L' Map.empty v x := by
  cases h with
  | agg hl hh =>
    simp only [AV.noIds, List.all_eq_true] at hx
    exact .agg hl fun i y hy => noId_rel (hh i y hy) (hx y (List.mem_of_getElem? hy)) hL
  | flat v hv => exact noId_rel (μ := μ) (.flat v hv) hx hL
  | ro sz U hn hc hs hA h1 hh => exact noId_rel (μ := μ) (.ro sz U hn hc hs hA h1 hh) hx hL
  | rp U hb hl hc h1 hh => exact noId_rel (μ := μ) (.rp U hb hl hc h1 hh) hx hL
  | tup => cases hx
  | sl => cases hx
  | ptr => cases hx

theorem deep_rel {w : World} {L : Nat → Prop} {μ : Map} {T : Table} (hT : TRel P w L μ T) {ids : List Nat} {v : Value} {x y : AV} (hd : Deep T ids x y) (h : VRel w L μ v x) : VRel w (fun _ => False) Map.empty v y := by
  induction hd generalizing v with
  | id hx => exact noId_rel h hx fun _ _ h => h.elim
  | nil =>
    cases h with
    | flat v hv => exact .ro 0 (fun _ _ => undef) rfl (Nat.le_refl _) (fun e h => by cases h) (fun h => absurd h (by decide)) (fun i j h => absurd h (by omega)) fun i e j x h => by simp at h
  | @agg cs cs' hl hh ih =>
    cases h with
    | @agg _ us _ hu h =>
      refine .agg (hu.trans hl) fun i y hy => ?_
      have hlt : i < cs.length := by rw [hl]; exact (List.getElem?_eq_some_iff.1 hy).1
      exact ih i cs[i] y (List.getElem?_eq_getElem hlt) hy (h i _ (List.getElem?_eq_getElem hlt))
  | @sl id off n r els' hid hr hle hl hs hh ih =>
    cases h with
    | @sl _ _ _ _ v q hq hok =>
      cases q with
      | none =>
        obtain ⟨rfl, rfl, rfl⟩ := hok
        have : els' = [] := List.eq_nil_of_length_eq_zero hl
        subst this
        exact .ro 0 (fun _ _ => undef) rfl (Nat.le_refl _) (fun e h => by cases h) (fun h => absurd h (by omega)) (fun i j h => absurd h (by omega)) fun i e j x h => by simp at h
      | some p =>
        obtain ⟨hcap, A, rfl, hA⟩ := hok
        have hrow := hT.cell hr hq
        obtain ⟨cur, hg, hsz, hc⟩ := hrow.cur
        have cell : ∀ k, w.cell? ⟨p.g, k, none⟩ = cur[k]? := fun k => cell_of_row w p.g k cur r.elem (0, 0) hg
        have key : ∀ i (e e' : List AV) j y, (r.els.drop off)[i]? = some e → els'[i]? = some e' → e'[j]? = some y → ∃ u, cur[p.b + (off + i) * p.sz + j]? = some u ∧ u.oneCell' = true ∧ VRel w (fun _ => False) Map.empty u y := by
          intro i e e' j y he he' hy
          have hll := hs i e e' he he'
          have hlt : j < e.length := by rw [hll]; exact (List.getElem?_eq_some_iff.1 hy).1
          obtain ⟨u, hu, h1, hv⟩ := hc (off + i) e j e[j] (by rw [List.getElem?_drop] at he; exact he) (List.getElem?_eq_getElem hlt)
          exact ⟨u, hu, h1, ih i e e' j e[j] y he he' (List.getElem?_eq_getElem hlt) hy hv⟩
        have elt : ∀ i, i < n → ∃ e e', (r.els.drop off)[i]? = some e ∧ els'[i]? = some e' ∧ e.length = p.sz ∧ e'.length = p.sz := by
          intro i hi
          have h1 : i < (r.els.drop off).length := by rw [List.length_drop]; omega
          have h2 : i < els'.length := by omega
          refine ⟨_, _, List.getElem?_eq_getElem h1, List.getElem?_eq_getElem h2, ?_, ?_⟩
          · apply hrow.sz; rw [List.getElem_drop]; exact List.getElem_mem _
          · rw [← hs i _ _ (List.getElem?_eq_getElem h1) (List.getElem?_eq_getElem h2)]
            apply hrow.sz; rw [List.getElem_drop]; exact List.getElem_mem _
        have full : ∀ i j, i < n → j < p.sz → ∃ u, cur[p.b + (off + i) * p.sz + j]? = some u ∧ u.oneCell' = true := by
          intro i j hi hj
          obtain ⟨e, e', h1, h2, h3, h4⟩ := elt i hi
          obtain ⟨u, hu, h5, _⟩ := key i e e' j (e'[j]'(by omega)) h1 h2 (List.getElem?_eq_getElem _)
          exact ⟨u, hu, h5⟩
        refine .ro p.sz (fun i j => (cur[p.b + (off + i) * p.sz + j]?).getD undef) hl.symm (by omega) ?_ (fun hp => ?_) ?_ ?_
        · intro e he
          obtain ⟨i, hi, rfl⟩ := List.getElem_of_mem he
          obtain ⟨e1, e2, h1, h2, h3, h4⟩ := elt i (by omega)
          rw [List.getElem?_eq_getElem hi] at h2
          obtain rfl := Option.some.inj h2
          exact h4
        · have hne : off < p.cap := by omega
          refine ⟨_, hA hne, fun h => h, (Array.getElem?_eq_some_iff.1 hg).1, fun i j hi hj => ?_⟩
          obtain ⟨u, hu, _⟩ := full i j hi hj
          have e1 : p.b + off * p.sz + (i * p.sz + j) = p.b + (off + i) * p.sz + j := by rw [Nat.add_mul]; omega
          rw [add_lit, cell, e1, hu]; rfl
        · intro i j hi hj
          obtain ⟨u, hu, h1⟩ := full i j hi hj
          rw [hu]; exact h1
        · intro i e' j y he' hy
          have hi : i < n := by rw [← hl]; exact (List.getElem?_eq_some_iff.1 he').1
          obtain ⟨e, e2, h1, h2, _⟩ := elt i hi
          rw [he'] at h2
          obtain rfl := Option.some.inj h2
          obtain ⟨u, hu, _, hv⟩ := key i e e' j y h1 he' hy
          rw [hu]; exact hv
  | @ptr id i off r e cs' hid hr he hl hlt hh ih =>
    cases h with
    | @ptr _ _ _ _ p hq =>
      have hrow := hT.cell hr hq
      obtain ⟨cur, hg, hsz, hc⟩ := hrow.cur
      have cell : ∀ k, w.cell? ⟨p.g, k, none⟩ = cur[k]? := fun k => cell_of_row w p.g k cur r.elem (0, 0) hg
      have key : ∀ j y, cs'[j]? = some y → ∃ u, cur[p.b + i * p.sz + off + j]? = some u ∧ u.oneCell' = true ∧ VRel w (fun _ => False) Map.empty u y := by
        intro j y hy
        have hj : j < (e.drop off).length := by rw [hl]; exact (List.getElem?_eq_some_iff.1 hy).1
        have hx := List.getElem?_eq_getElem hj
        obtain ⟨u, hu, h1, hv⟩ := hc i e (off + j) _ he (by rw [List.getElem?_drop] at hx; exact hx)
        exact ⟨u, by rw [← hu]; congr 1; omega, h1, ih j _ y hx hy hv⟩
      refine .rp (fun j => (cur[p.b + i * p.sz + off + j]?).getD undef) (fun h => h) (Array.getElem?_eq_some_iff.1 hg).1 (fun j hj => ?_) (fun j hj => ?_) fun j y hy => ?_
      · obtain ⟨u, hu, _⟩ := key j _ (List.getElem?_eq_getElem hj)
        rw [add_lit, cell, hu]; rfl
      · obtain ⟨u, hu, h1, _⟩ := key j _ (List.getElem?_eq_getElem hj)
        rw [hu]; exact h1
      · obtain ⟨u, hu, _, hv⟩ := key j y hy
        rw [hu]; exact hv

theorem noRo1_rel {w : World} {L L' : Nat → Prop} {μ : Map} {v : Value} {x : AV} (h : VRel w L μ v x) (hx : x.noRo1 = true) : VRel w L' μ v x := by
  cases h with
  | flat v hv => exact .flat v hv
  | sl hq hh => exact .sl hq hh
  | ptr hq => exact .ptr hq
  | @ro _ A n c els sz U hn hc hs hA h1 hh =>
    simp only [AV.noRo1, List.isEmpty_iff] at hx
    subst hx
    subst hn
    exact .ro sz U rfl hc hs (fun h => absurd h (by simp)) (fun i j h => absurd h (by simp)) (fun i e j x h => by simp at h)
  | rp => cases hx
  | agg => cases hx
  | tup => cases hx

theorem noRo_rel {w : World} {L L' : Nat → Prop} {μ : Map} {v : Value} {x : AV} (h : VRel w L μ v x) (hx : x.noRo = true) : VRel w L' μ v x := by
  have agg : ∀ {v : Value} {cs : List AV}, VRel w L μ v (.agg cs) → cs.all AV.noRo1 = true → VRel w L' μ v (.agg cs) := by
    intro v cs h hx
    cases h with
    | agg hl hh =>
      simp only [List.all_eq_true] at hx
      exact .agg hl fun i y hy => noRo1_rel (hh i y hy) (hx y (List.mem_of_getElem? hy))
  cases x with
  | agg cs => exact agg h hx
  | tup cs =>
    cases h with
    | tup hl hh =>
      simp only [AV.noRo, List.all_eq_true] at hx
      refine .tup hl fun i y hy => ?_
      have hy' := hx y (List.mem_of_getElem? hy)
      cases y with
      | agg cs => exact agg (hh i _ hy) hy'
      | tup cs => cases hy'
      | _ => exact noRo1_rel (hh i _ hy) hy'
  | _ => exact noRo1_rel h hx

theorem adopt_spec (T : Table) : ∀ (rows : List Row) (base id : Nat), adopt T base rows id = if base ≤ id ∧ id < base + rows.length then rows[id - base]? else T id := by
  intro rows
  induction rows with
  | nil => intro base id; simp only [adopt, List.length_nil]; rw [if_neg (by omega)]
  | cons r rs ih =>
    intro base id
    simp only [adopt, Table.set, List.length_cons]
    split
    · subst_vars
      rw [if_pos (by omega)]; simp
    · rw [ih]
      by_cases h : base + 1 ≤ id ∧ id < base + 1 + rs.length
      · rw [if_pos h, if_pos (by omega)]
        have e1 : id - base = (id - (base + 1)) + 1 := by omega
        rw [e1, List.getElem?_cons_succ]
      · rw [if_neg h, if_neg (by omega)]

theorem evArgs_sound {st : St} {σ : Operand → Value} {w : World} {L : Nat → Prop} {μ : Map} (hρ : ∀ x y, st.op x = some y → VRel w L μ (σ x) y) : ∀ {l : List Operand} {xs : List AV}, evArgs st l = some xs → l.length = xs.length ∧ ∀ i x, xs[i]? = some x → VRel w L μ ((l.map σ).toArray.getD i undef) x := by
  intro l
  induction l with
  | nil => intro xs h; simp only [evArgs, Option.some.injEq] at h; subst h; exact ⟨rfl, fun i x h => by simp at h⟩
  | cons o l ih =>
    intro xs h
    simp only [evArgs] at h
    split at h
    · rename_i a r ha hr
      obtain rfl := Option.some.inj h
      obtain ⟨h1, h2⟩ := ih hr
      refine ⟨by simp [h1], fun i x hx => ?_⟩
      cases i with
      | zero => simp at hx; subst hx; simpa [Array.getD] using hρ o a ha
      | succ i =>
        have := h2 i x (by simpa using hx)
        simpa [Array.getD_eq_getD_getElem?] using this
    · cases h

/-- What a call has done, as a step of the caller. -/
theorem adopt_core {w w' : World} {L L' : Nat → Prop} {μ μ' : Map} {T : Table} (hT : TRel P w L μ T) {base : Nat} (hfr : ∀ k, k < 8 → μ (base + k) = none) {v : Value} {x : AV} {rows : List Row}
    (hv : VRel w' L' μ' v x) (hR : TRel P w' L' μ' (tabAt base rows)) (hid : ∀ id q, μ' id = some q → base ≤ id ∧ id < base + 8)
    (ho : w'.os = w.os) (ht : w'.tape = w.tape) (hu : w'.output = w.output) (hs : w.heap.size ≤ w'.heap.size) (hb : ∀ b, b < w.heap.size → w'.heap[b]? = w.heap[b]?)
    (hp : ∀ id r p, tabAt base rows id = some r → μ' id = some (some p) → w.heap.size ≤ p.g) (h8 : rows.length ≤ 8)
    (hL : (∀ b, b < w.heap.size → (L' b ↔ L b)) ∨ (x.noRo = true ∧ ∀ r ∈ rows, ∀ e ∈ r.els, ∀ y ∈ e, y.noRo1 = true)) :
    ∃ L'' μ'', Ext w L μ T w' L'' μ'' (adopt T base rows) ∧ TRel P w' L'' μ'' (adopt T base rows) ∧ VRel w' L'' μ'' v x ∧ ∀ id, ¬ (base ≤ id ∧ id < base + 8) → μ'' id = μ id := by
  refine ⟨fun b => if b < w.heap.size then L b else L' b, fun id => if base ≤ id ∧ id < base + 8 then μ' id else μ id, ?_⟩
  have hLb : ∀ b, b < w.heap.size → ((if b < w.heap.size then L b else L' b) ↔ L b) := fun b hb => by rw [if_pos hb]
  have hLn : ∀ b, ¬ b < w.heap.size → ((if b < w.heap.size then L b else L' b) ↔ L' b) := fun b hb => by rw [if_neg hb]
  have hμ1 : ∀ id q, μ id = some q → (if base ≤ id ∧ id < base + 8 then μ' id else μ id) = some q := by
    intro id q hq
    rw [if_neg]
    · exact hq
    · intro h
      have := hfr (id - base) (by omega)
      have e : base + (id - base) = id := by omega
      rw [e, hq] at this
      cases this
  have hμ2 : ∀ id q, μ' id = some q → (if base ≤ id ∧ id < base + 8 then μ' id else μ id) = some q := by
    intro id q hq
    rw [if_pos (hid id q hq)]; exact hq
  have hμ3 : ∀ id q, ¬ (base ≤ id ∧ id < base + 8) → (if base ≤ id ∧ id < base + 8 then μ' id else μ id) = some q → μ id = some q := by
    intro id q h hq; rw [if_neg h] at hq; exact hq
  have hTid : ∀ id r, T id = some r → ¬ (base ≤ id ∧ id < base + 8) := by
    intro id r hr h
    obtain ⟨q, hq, _⟩ := hT.row id r hr
    have := hfr (id - base) (by omega)
    have e : base + (id - base) = id := by omega
    rw [e, hq] at this
    cases this
  have up : ∀ {u : Value} {y : AV}, VRel w' L' μ' u y → (y.noRo1 = true ∨ ∀ b, b < w.heap.size → (L' b ↔ L b)) → VRel w' (fun b => if b < w.heap.size then L b else L' b) (fun id => if base ≤ id ∧ id < base + 8 then μ' id else μ id) u y := by
    intro u y h hc
    have h1 := h.mono (w' := w') (L' := L') (μ' := fun id => if base ≤ id ∧ id < base + 8 then μ' id else μ id) (fun _ _ _ => rfl) (Nat.le_refl _) (fun _ _ h => h) hμ2
    rcases hc with hc | hc
    · exact noRo1_rel h1 hc
    · refine h1.mono (fun _ _ _ => rfl) (Nat.le_refl _) (fun b _ hb => ?_) (fun _ _ h => h)
      by_cases hlt : b < w.heap.size
      · exact (hc b hlt).2 ((hLb b hlt).1 hb)
      · exact (hLn b hlt).1 hb
  have hTA : ∀ id r, adopt T base rows id = some r → (base ≤ id ∧ id < base + 8 ∧ tabAt base rows id = some r) ∨ (¬ (base ≤ id ∧ id < base + 8) ∧ T id = some r) := by
    intro id r h
    rw [adopt_spec] at h
    split at h
    · rename_i hh
      exact .inl ⟨hh.1, by omega, by unfold tabAt; rw [if_pos hh.1]; exact h⟩
    · exact .inr ⟨hTid id r h, h⟩
  have rowold : ∀ {p : Place} {r : Row}, RowAt P w L μ p r → RowAt P w' (fun b => if b < w.heap.size then L b else L' b) (fun id => if base ≤ id ∧ id < base + 8 then μ' id else μ id) p r := by
    intro p r h
    exact h.mono (fun b hlt _ => hb b hlt) hs (fun b hlt => (hLb b hlt).1) hμ1 (hb _ h.lt) ((hLb _ h.lt).2 h.live)
  have hv' : VRel w' (fun b => if b < w.heap.size then L b else L' b) (fun id => if base ≤ id ∧ id < base + 8 then μ' id else μ id) v x := by
    have h1 := hv.mono (w' := w') (L' := L') (μ' := fun id => if base ≤ id ∧ id < base + 8 then μ' id else μ id) (fun _ _ _ => rfl) (Nat.le_refl _) (fun _ _ h => h) hμ2
    rcases hL with hc | hc
    · refine h1.mono (fun _ _ _ => rfl) (Nat.le_refl _) (fun b _ hb => ?_) (fun _ _ h => h)
      by_cases hlt : b < w.heap.size
      · exact (hc b hlt).2 ((hLb b hlt).1 hb)
      · exact (hLn b hlt).1 hb
    · exact noRo_rel h1 hc.1
  refine ⟨⟨ho, ht, hu, hs, fun b hlt _ => hb b hlt, hLb, hμ1, ?_⟩, ⟨?_, ?_⟩, hv', fun id h => if_neg h⟩
  · intro id r p hr hpp
    rcases hTA id r hr with ⟨h1, h2, h3⟩ | ⟨h1, h2⟩
    · rw [if_pos ⟨h1, h2⟩] at hpp
      exact .inl (hp id r p h3 hpp)
    · exact .inr ⟨id, r, p, h2, hμ3 _ _ h1 hpp, rfl⟩
  · intro id r hr
    rcases hTA id r hr with ⟨h1, h2, h3⟩ | ⟨h1, h2⟩
    · obtain ⟨q, hq, hrow, hnil⟩ := hR.row id r h3
      refine ⟨q, hμ2 _ _ hq, fun p hpq => ?_, hnil⟩
      subst hpq
      have h4 := hrow p rfl
      obtain ⟨cur, hg, hsz, hc⟩ := h4.cur
      have hpg := hp id r p h3 hq
      refine ⟨⟨cur, hg, hsz, fun i e j y he hy => ?_⟩, h4.len, h4.sz, h4.szT, h4.cap, (hLn _ (by omega)).2 h4.live⟩
      obtain ⟨u, hu, h5, h6⟩ := hc i e j y he hy
      refine ⟨u, hu, h5, up h6 ?_⟩
      rcases hL with hL | hL
      · exact .inr hL
      · refine .inl (hL.2 r ?_ e (List.mem_of_getElem? he) y (List.mem_of_getElem? hy))
        unfold tabAt at h3
        rw [if_pos h1] at h3
        exact List.mem_of_getElem? h3
    · obtain ⟨q, hq, hrow, hnil⟩ := hT.row id r h2
      exact ⟨q, hμ1 _ _ hq, fun p hpq => rowold (hrow p hpq), hnil⟩
  · intro id id' r r' p p' hr hr' hpp hpp' hne
    rcases hTA id r hr with ⟨h1, h2, h3⟩ | ⟨h1, h2⟩
    · rcases hTA id' r' hr' with ⟨h1', h2', h3'⟩ | ⟨h1', h2'⟩
      · rw [if_pos ⟨h1, h2⟩] at hpp
        rw [if_pos ⟨h1', h2'⟩] at hpp'
        exact hR.apart id id' r r' p p' h3 h3' hpp hpp' hne
      · rw [if_pos ⟨h1, h2⟩] at hpp
        have := hp id r p h3 hpp
        have := (hT.cell h2' (hμ3 _ _ h1' hpp')).lt
        omega
    · rcases hTA id' r' hr' with ⟨h1', h2', h3'⟩ | ⟨h1', h2'⟩
      · rw [if_pos ⟨h1', h2'⟩] at hpp'
        have := hp id' r' p' h3' hpp'
        have := (hT.cell h2 (hμ3 _ _ h1 hpp)).lt
        omega
      · exact hT.apart id id' r r' p p' h2 h2' (hμ3 _ _ h1 hpp) (hμ3 _ _ h1' hpp') hne

/-! ### Calls with rows of the caller's -/
theorem rens_map (m : Nat → Nat) (l : List AV) : rens m l = l.map (ren m) := by
  induction l with
  | nil => rfl
  | cons x l ih => simp [rens, ih]
theorem closedAll_all (ks : List Nat) (l : List AV) : closedAll ks l = l.all (closedIn ks) := by
  induction l with
  | nil => rfl
  | cons x l ih => simp [closedAll, ih]
def renMap (μ : Map) (ks : List Nat) (n : Nat) : Map := fun id => if n ≤ id ∧ id < n + ks.length then (ks[id - n]?).bind μ else none

theorem renMap_name {μ : Map} {ks : List Nat} {n k : Nat} (h : k ∈ ks) : renMap μ ks n (newName ks n k) = μ k := by
  have hlt := List.idxOf_lt_length_of_mem h
  unfold renMap newName
  rw [if_pos (by omega)]
  have e : n + ks.idxOf k - n = ks.idxOf k := by omega
  rw [e, List.getElem?_eq_getElem hlt]
  simp

theorem ren_rel {w : World} {L : Nat → Prop} {μ : Map} {ks : List Nat} {n : Nat} {v : Value} {x : AV} (h : VRel w L μ v x) (hk : closedIn ks x = true) : VRel w L (renMap μ ks n) v (ren (newName ks n) x) := by
  induction h with
  | flat v hv => exact .flat v hv
  | agg hl hh ih =>
    simp only [closedIn, closedAll_all, List.all_eq_true] at hk
    simp only [ren, rens_map]
    refine .agg (by simpa using hl) fun i y hy => ?_
    rw [List.getElem?_map] at hy
    obtain ⟨x, hx, rfl⟩ := Option.map_eq_some_iff.1 hy
    exact ih i x hx (hk x (List.mem_of_getElem? hx))
  | tup hl hh ih =>
    simp only [closedIn, closedAll_all, List.all_eq_true] at hk
    simp only [ren, rens_map]
    refine .tup (by simpa using hl) fun i y hy => ?_
    rw [List.getElem?_map] at hy
    obtain ⟨x, hx, rfl⟩ := Option.map_eq_some_iff.1 hy
    exact ih i x hx (hk x (List.mem_of_getElem? hx))
  | ro sz U hn hc hs hA h1 hh ih => exact .ro sz U hn hc hs hA h1 hh
  | rp U hb hl hc h1 hh ih => exact .rp U hb hl hc h1 hh
  | sl hq hh =>
    simp only [closedIn, List.contains_iff_mem] at hk
    exact .sl ((renMap_name hk).trans hq) hh
  | ptr hq =>
    simp only [closedIn, List.contains_iff_mem] at hk
    exact .ptr ((renMap_name hk).trans hq)

theorem nodup_inj {l : List Nat} (h : l.Nodup) {i j : Nat} (hi : i < l.length) (hj : j < l.length) (e : l[i] = l[j]) : i = j := by
  have h' := List.pairwise_iff_getElem.1 h
  rcases Nat.lt_trichotomy i j with hlt | rfl | hlt
  · exact absurd e (h' i j hi hj hlt)
  · rfl
  · exact absurd e.symm (h' j i hj hi hlt)

theorem hmapR {μ : Map} {ks : List Nat} {n : Nat} {id k : Nat} (hle : n ≤ id) (hk : ks[id - n]? = some k) : renMap μ ks n id = μ k := by
  have hlt := (List.getElem?_eq_some_iff.1 hk).1
  unfold renMap
  rw [if_pos (by omega), hk]; rfl

theorem row_ren {w : World} {L : Nat → Prop} {μ : Map} {ks : List Nat} {n : Nat} {p : Place} {r0 : Row} (h0 : RowAt P w L μ p r0) (hc0 : ∀ e ∈ r0.els, closedAll ks e = true) : RowAt P w L (renMap μ ks n) p (renRow (newName ks n) r0) := by
  obtain ⟨cur, hg, hsz, hc⟩ := h0.cur
  refine ⟨⟨cur, hg, hsz, fun i e j y he hy => ?_⟩, by simpa [renRow] using h0.len, fun e he => ?_, h0.szT, h0.cap, h0.live⟩
  · simp only [renRow, List.getElem?_map] at he
    obtain ⟨e0, he0, rfl⟩ := Option.map_eq_some_iff.1 he
    rw [rens_map, List.getElem?_map] at hy
    obtain ⟨y0, hy0, rfl⟩ := Option.map_eq_some_iff.1 hy
    obtain ⟨u, hu, h3, h4⟩ := hc i e0 j y0 he0 hy0
    refine ⟨u, hu, h3, ren_rel h4 ?_⟩
    have := hc0 e0 (List.mem_of_getElem? he0)
    rw [closedAll_all, List.all_eq_true] at this
    exact this y0 (List.mem_of_getElem? hy0)
  · simp only [renRow, List.mem_map] at he
    obtain ⟨e0, he0, rfl⟩ := he
    rw [rens_map, List.length_map]
    exact h0.sz e0 he0

theorem ren_gen {w : World} {L : Nat → Prop} {μ μ'' : Map} {m : Nat → Nat} {v : Value} {x : AV} (h : VRel w L μ v x) (hm : ∀ id q, μ id = some q → μ'' (m id) = some q) : VRel w L μ'' v (ren m x) := by
  induction h with
  | flat v hv => exact .flat v hv
  | agg hl hh ih =>
    simp only [ren, rens_map]
    refine .agg (by simpa using hl) fun i y hy => ?_
    rw [List.getElem?_map] at hy
    obtain ⟨x, hx, rfl⟩ := Option.map_eq_some_iff.1 hy
    exact ih i x hx hm
  | tup hl hh ih =>
    simp only [ren, rens_map]
    refine .tup (by simpa using hl) fun i y hy => ?_
    rw [List.getElem?_map] at hy
    obtain ⟨x, hx, rfl⟩ := Option.map_eq_some_iff.1 hy
    exact ih i x hx hm
  | ro sz U hn hc hs hA h1 hh ih => exact .ro sz U hn hc hs hA h1 hh
  | rp U hb hl hc h1 hh ih => exact .rp U hb hl hc h1 hh
  | sl hq hh => exact .sl (hm _ _ hq) hh
  | ptr hq => exact .ptr (hm _ _ hq)
theorem row_gen {w : World} {L : Nat → Prop} {μ μ'' : Map} {m : Nat → Nat} {p : Place} {r0 : Row} (h0 : RowAt P w L μ p r0) (hm : ∀ id q, μ id = some q → μ'' (m id) = some q) : RowAt P w L μ'' p (renRow m r0) := by
  obtain ⟨cur, hg, hsz, hc⟩ := h0.cur
  refine ⟨⟨cur, hg, hsz, fun i e j y he hy => ?_⟩, by simpa [renRow] using h0.len, fun e he => ?_, h0.szT, h0.cap, h0.live⟩
  · simp only [renRow, List.getElem?_map] at he
    obtain ⟨e0, he0, rfl⟩ := Option.map_eq_some_iff.1 he
    rw [rens_map, List.getElem?_map] at hy
    obtain ⟨y0, hy0, rfl⟩ := Option.map_eq_some_iff.1 hy
    obtain ⟨u, hu, h3, h4⟩ := hc i e0 j y0 he0 hy0
    exact ⟨u, hu, h3, ren_gen h4 hm⟩
  · simp only [renRow, List.mem_map] at he
    obtain ⟨e0, he0, rfl⟩ := he
    rw [rens_map, List.length_map]
    exact h0.sz e0 he0

/-- What a call with rows of the caller's has done, as a step of the caller. -/
theorem merge_core {w w' : World} {L L' : Nat → Prop} {μ μ' : Map} {T : Table} (hT : TRel P w L μ T) {base : Nat} (hfr : ∀ k, k < 8 → μ (base + k) = none) {m : Nat} {ms : List Nat} {rs : List Row} (hnd : ms.Nodup) (hml : m ≤ ms.length) (hms : ms.map T = rs.map some) (hrs : ∀ r ∈ rs, closedEls ms r.els = true)
    {v : Value} {val : AV} {R1 : List (Option Row)} (hv : VRel w' L' μ' v val) (hR : TRel P w' L' μ' (tabO R1)) (hE : PExt w L (renMap μ ms 0) (tabO ((rs.map (renRow (newName ms 0))).map some)) m w' L' μ' (tabO R1)) (hno : ∀ id, m + 8 ≤ id → μ' id = none) :
    ∃ μ'', Ext w L μ T w' L' μ'' (merge T ms m base (renRows (backName ms m base) R1)) ∧ TRel P w' L' μ'' (merge T ms m base (renRows (backName ms m base) R1)) ∧ VRel w' L' μ'' v (ren (backName ms m base) val) ∧ ∀ id, ¬ (base ≤ id ∧ id < base + 8) → μ'' id = μ id := by
  have hlen : ms.length = rs.length := by simpa using congrArg List.length hms
  have hrow : ∀ (i k : Nat), ms[i]? = some k → ∃ r, rs[i]? = some r ∧ T k = some r := by
    intro i k hk
    have hlt : i < rs.length := by rw [← hlen]; exact (List.getElem?_eq_some_iff.1 hk).1
    have := congrArg (·[i]?) hms
    simp only [List.getElem?_map, hk, List.getElem?_eq_getElem hlt, Option.map_some, Option.some.injEq] at this
    exact ⟨_, List.getElem?_eq_getElem hlt, this⟩
  have hsome : ∀ k ∈ ms, ∃ q r, μ k = some q ∧ T k = some r := by
    intro k hk
    obtain ⟨i, hi⟩ := List.mem_iff_getElem?.1 hk
    obtain ⟨r, _, hr⟩ := hrow i k hi
    obtain ⟨q, hq, _⟩ := hT.row k r hr
    exact ⟨q, r, hq, hr⟩
  have hnew : ∀ k ∈ ms, ¬ (base ≤ k ∧ k < base + 8) := by
    intro k hk h
    obtain ⟨q, _, hq, _⟩ := hsome k hk
    have := hfr (k - base) (by omega)
    have e : base + (k - base) = k := by omega
    rw [e, hq] at this
    cases this
  have hcal : ∀ (i k : Nat), ms[i]? = some k → renMap μ ms 0 i = μ k := fun i k hk => hmapR (Nat.zero_le _) hk
  -- the callee's rows at the start
  have h0row : ∀ i r, tabO ((rs.map (renRow (newName ms 0))).map some) i = some r → ∃ k r0, ms[i]? = some k ∧ T k = some r0 := by
    intro i r h
    unfold tabO at h
    have hlt : i < ms.length := by
      by_cases hlt : i < ms.length
      · exact hlt
      · rw [List.getElem?_eq_none (by simp; omega)] at h; cases h
    obtain ⟨r0, _, hr0⟩ := hrow i _ (List.getElem?_eq_getElem hlt)
    exact ⟨_, r0, List.getElem?_eq_getElem hlt, hr0⟩
  let μ'' : Map := fun id => if ms.contains id = true then μ id else if base ≤ id ∧ id < base + 8 then μ' (m + (id - base)) else μ id
  have e1 : ∀ id, id ∈ ms → μ'' id = μ id := fun id h => if_pos (List.contains_iff_mem.2 h)
  have e2 : ∀ id, id ∉ ms → (base ≤ id ∧ id < base + 8) → μ'' id = μ' (m + (id - base)) := fun id h h2 => by
    show (if ms.contains id = true then _ else _) = _
    rw [if_neg (fun h' => h (List.contains_iff_mem.1 h')), if_pos h2]
  have e3 : ∀ id, ¬ (base ≤ id ∧ id < base + 8) → μ'' id = μ id := fun id h => by
    by_cases hm : id ∈ ms
    · exact e1 id hm
    · show (if ms.contains id = true then _ else _) = _
      rw [if_neg (fun h' => hm (List.contains_iff_mem.1 h')), if_neg h]
  have hfrm : ∀ id q, μ id = some q → ¬ (base ≤ id ∧ id < base + 8) := by
    intro id q hq h
    have := hfr (id - base) (by omega)
    have e : base + (id - base) = id := by omega
    rw [e, hq] at this
    cases this
  have hname : ∀ id q, μ' id = some q → μ'' (backName ms m base id) = some q := by
    intro id q hq
    unfold backName
    split
    · rename_i hlt
      have hlt' : id < ms.length := by omega
      have hg : ms.getD id 0 = ms[id] := by simp [List.getD, List.getElem?_eq_getElem hlt']
      rw [hg, e1 _ (List.getElem_mem hlt')]
      obtain ⟨q0, r0, hq0, _⟩ := hsome ms[id] (List.getElem_mem hlt')
      have h1 : renMap μ ms 0 id = some q0 := (hcal id _ (List.getElem?_eq_getElem hlt')).trans hq0
      have h2 := hE.map id q0 hlt h1
      rw [hq] at h2
      rw [hq0, Option.some.inj h2]
    · rename_i hge
      have hlt : id < m + 8 := by
        apply Nat.lt_of_not_le
        intro h
        rw [hno id h] at hq; cases hq
      have hnm : base + (id - m) ∉ ms := fun h => hnew _ h ⟨by omega, by omega⟩
      rw [e2 _ hnm ⟨by omega, by omega⟩]
      have e : m + (base + (id - m) - base) = id := by omega
      rw [e]; exact hq
  -- the rows behind the call
  have hTM : ∀ id r, merge T ms m base (renRows (backName ms m base) R1) id = some r → (∃ i r1, tabO R1 i = some r1 ∧ r = renRow (backName ms m base) r1 ∧ (∀ q, μ'' id = some q → μ' i = some q) ∧ (∀ q, μ' i = some q → μ'' id = some q) ∧ (id ∈ ms ∨ (base ≤ id ∧ id < base + 8)) ∧ backName ms m base i = id) ∨ (id ∉ ms ∧ ¬ (base ≤ id ∧ id < base + 8) ∧ T id = some r) := by
    have pick : ∀ i r, ((renRows (backName ms m base) R1)[i]?).getD none = some r → ∃ r1, tabO R1 i = some r1 ∧ r = renRow (backName ms m base) r1 := by
      intro i r h
      unfold renRows at h
      rw [List.getElem?_map] at h
      unfold tabO
      cases hg : R1[i]? with
      | none => rw [hg] at h; cases h
      | some o =>
        rw [hg] at h
        cases o with
        | none => cases h
        | some r1 => exact ⟨r1, rfl, (Option.some.inj h).symm⟩
    intro id r h
    unfold merge at h
    split at h
    · rename_i hm
      split at h
      · rename_i hix
        have hm' := List.contains_iff_mem.1 hm
        obtain ⟨r1, h1, h2⟩ := pick _ _ h
        have hlt := List.idxOf_lt_length_of_mem hm'
        have hb : backName ms m base (ms.idxOf id) = id := by
          unfold backName
          rw [if_pos hix]
          simp [List.getD, List.getElem?_eq_getElem hlt]
        obtain ⟨q0, r0, hq0, _⟩ := hsome id hm'
        have hk : ms[ms.idxOf id]? = some id := by rw [List.getElem?_eq_getElem hlt]; simp
        have hq1 : μ' (ms.idxOf id) = some q0 := hE.map _ _ hix ((hcal _ _ hk).trans hq0)
        refine .inl ⟨_, r1, h1, h2, fun q hq => ?_, fun q hq => ?_, .inl hm', hb⟩
        · rw [e1 id hm', hq0] at hq; rw [hq1, hq]
        · rw [e1 id hm', hq0, ← hq1, hq]
      · cases h
    · rename_i hm
      have hm' : id ∉ ms := fun h' => hm (List.contains_iff_mem.2 h')
      split at h
      · rename_i hr
        obtain ⟨r1, h1, h2⟩ := pick _ _ h
        refine .inl ⟨_, r1, h1, h2, fun q hq => ?_, fun q hq => ?_, .inr hr, ?_⟩
        · rw [← e2 id hm' hr]; exact hq
        · rw [e2 id hm' hr]; exact hq
        · unfold backName
          rw [if_neg (by omega)]; omega
      · rename_i hr
        exact .inr ⟨hm', hr, h⟩
  have hold : ∀ id r p, id ∉ ms → T id = some r → μ id = some (some p) → ∀ i r0 p0, tabO ((rs.map (renRow (newName ms 0))).map some) i = some r0 → renMap μ ms 0 i = some (some p0) → p0.g ≠ p.g := by
    intro id r p hn hr hp i r0 p0 h0 hp0
    obtain ⟨k, rk, hk, hTk⟩ := h0row i r0 h0
    rw [hcal i k hk] at hp0
    exact hT.apart k id rk r p0 p hTk hr hp0 hp (fun e => hn (e ▸ List.mem_of_getElem? hk))
  have hTR0 : ∀ b, b < w.heap.size → ¬ L b → w'.heap[b]? = w.heap[b]? := by
    intro b hb hnL
    refine hE.block b hb fun i r p hr hp e => ?_
    obtain ⟨k, rk, hk, hTk⟩ := h0row i r hr
    rw [hcal i k hk] at hp
    subst e
    exact hnL (hT.cell hTk hp).live
  have hμ1 : ∀ id q, μ id = some q → μ'' id = some q := fun id q hq => by rw [e3 id (hfrm id q hq)]; exact hq
  refine ⟨μ'', ⟨hE.os, hE.tape, hE.output, hE.size, fun b hb hn => ?_, hE.L, hμ1, fun id r p hr hp => ?_⟩, ⟨fun id r hr => ?_, fun id id' r r' p p' hr hr' hp hp' hne => ?_⟩, ren_gen hv hname, e3⟩
  · refine hE.block b hb fun i r p hr hp => ?_
    obtain ⟨k, rk, hk, hTk⟩ := h0row i r hr
    rw [hcal i k hk] at hp
    exact hn k rk p hTk hp
  · rcases hTM id r hr with ⟨i, r1, h1, rfl, h2, _⟩ | ⟨hn, hnr, h⟩
    · rcases hE.place i r1 p h1 (h2 _ hp) with hge | ⟨i0, r0, p0, h3, h4, h5⟩
      · exact .inl hge
      · obtain ⟨k, rk, hk, hTk⟩ := h0row i0 r0 h3
        rw [hcal i0 k hk] at h4
        exact .inr ⟨k, rk, p0, hTk, h4, h5⟩
    · rw [e3 id hnr] at hp
      exact .inr ⟨id, r, p, h, hp, rfl⟩
  · rcases hTM id r hr with ⟨i, r1, h1, rfl, _, h3, _⟩ | ⟨hn, hnr, h⟩
    · obtain ⟨q, hq, hrow1, hnil⟩ := hR.row i r1 h1
      exact ⟨q, h3 q hq, fun p hp => row_gen (hrow1 p hp) hname, fun hq => by simp [renRow, hnil hq]⟩
    · obtain ⟨q, hq, hrow1, hnil⟩ := hT.row id r h
      refine ⟨q, hμ1 id q hq, fun p hp => ?_, hnil⟩
      subst hp
      have hr1 := hrow1 p rfl
      refine hr1.mono hTR0 hE.size (fun b hb => (hE.L b hb).1) hμ1 (hE.block _ hr1.lt fun i r0 p0 h0 hp0 => hold id r p hn h hq i r0 p0 h0 hp0) ((hE.L _ hr1.lt).2 hr1.live)
  · have mix : ∀ {i id' : Nat} {r1 r' : Row} {p p' : Place}, tabO R1 i = some r1 → μ' i = some (some p) → id' ∉ ms → T id' = some r' → μ id' = some (some p') → p.g ≠ p'.g := by
      intro i id' r1 r' p p' h1 hp hn h hp'
      rcases hE.place i r1 p h1 hp with hge | ⟨i0, r0, p0, h3, h4, h5⟩
      · have := (hT.cell h hp').lt
        omega
      · rw [← h5]
        exact hold id' r' p' hn h hp' i0 r0 p0 h3 h4
    rcases hTM id r hr with ⟨i, r1, h1, rfl, h2, _, _, hb⟩ | ⟨hn, hnr, h⟩
    · rcases hTM id' r' hr' with ⟨i', r1', h1', rfl, h2', _, _, hb'⟩ | ⟨hn', hnr', h'⟩
      · exact hR.apart i i' r1 r1' p p' h1 h1' (h2 _ hp) (h2' _ hp') (fun e => hne (by rw [← hb, ← hb', e]))
      · rw [e3 id' hnr'] at hp'
        exact mix h1 (h2 _ hp) hn' h' hp'
    · rw [e3 id hnr] at hp
      rcases hTM id' r' hr' with ⟨i', r1', h1', rfl, h2', _⟩ | ⟨hn', hnr', h'⟩
      · exact (mix h1' (h2' _ hp') hn h hp).symm
      · rw [e3 id' hnr'] at hp'
        exact hT.apart id id' r r' p p' h h' hp hp' hne

/-- A call, as a step of the caller. -/
theorem calld_sound {w : World} {L : Nat → Prop} {μ : Map} {T : Table} (hT : TRel P w L μ T) {base : Nat} (hfr : ∀ k, k < 8 → μ (base + k) = none) {f : FuncId} {args : List AV} {v : AV} {T' : Table} {rd wr : List Nat} (h : CallD P T base f args v T' rd wr)
    {vs : Array Value} (hs : vs.size = args.length) (hv : ∀ (j : Nat) (x : AV), args[j]? = some x → VRel w L μ (vs.getD j undef) x) :
    (∃ fn, P.funcs[f]? = some fn ∧ (fn.name == "runtime.NumGoroutine") = false ∧ fn.body.isNone = false) ∧
    Calls P f vs w fun e w' => ∃ v0 L' μ', e = .returned v0 ∧ Ext w L μ T w' L' μ' T' ∧ TRel P w' L' μ' T' ∧ VRel w' L' μ' v0 v ∧ ∀ id, ¬ (base ≤ id ∧ id < base + 8) → μ' id = μ id := by
  rcases h with ⟨args', ids, val, rows, hands, hA, h8, rfl, rfl, rfl, rfl⟩ | ⟨m, ms, rs, R0, val, R1, hnd, hml, hms, hcl, hrs, rfl, hP, rfl, rfl, _, _⟩
  · obtain ⟨hfn, hcalls⟩ := hA
    refine ⟨hfn, ?_⟩
    have hrel : ∃ Lc : Nat → Prop, (∀ j x, args'[j]? = some x → VRel w Lc Map.empty (vs.getD j undef) x) ∧ args.length = args'.length ∧
        ((∀ b, b < w.heap.size → (Lc b ↔ L b)) ∨ ((val base).noRo = true ∧ ∀ r ∈ rows base, ∀ e ∈ r.els, ∀ y ∈ e, y.noRo1 = true)) := by
      rcases hands with ⟨rfl, hno⟩ | ⟨⟨hl, hdeep⟩, h1, h2⟩
      · refine ⟨L, fun j x hx => ?_, rfl, .inl fun _ _ => Iff.rfl⟩
        simp only [List.all_eq_true] at hno
        exact noIds_rel (hv j x hx) (hno x (List.mem_of_getElem? hx)) (fun _ _ h => h)
      · refine ⟨fun _ => False, fun j y hy => ?_, hl, .inr ⟨h1, h2⟩⟩
        have hlt : j < args.length := by rw [hl]; exact (List.getElem?_eq_some_iff.1 hy).1
        exact deep_rel hT (hdeep j args[j] y (List.getElem?_eq_getElem hlt) hy) (hv j _ (List.getElem?_eq_getElem hlt))
    obtain ⟨Lc, hvr, hlen, hLc⟩ := hrel
    refine (hcalls base w Lc vs (hs.trans hlen) hvr).mono ?_
    rintro e w' ⟨v, L', μ', rfl, hv, hTR, hids, q1, q2, q3, q4, q5, q6, q7⟩
    have hL : (∀ b, b < w.heap.size → (L' b ↔ L b)) ∨ ((val base).noRo = true ∧ ∀ r ∈ rows base, ∀ e ∈ r.els, ∀ y ∈ e, y.noRo1 = true) := by
      rcases hLc with hLc | hLc
      · exact .inl fun b hb => (q6 b hb).trans (hLc b hb)
      · exact .inr hLc
    obtain ⟨L'', μ'', hE, hT'', hv'', hμ''⟩ := adopt_core hT hfr hv hTR hids q1 q2 q3 q4 q5 q7 h8 hL
    exact ⟨v, L'', μ'', rfl, hE, hT'', hv'', hμ''⟩
  · obtain ⟨hfn, hcalls⟩ := hP
    refine ⟨hfn, ?_⟩
    have hlen : ms.length = rs.length := by simpa using congrArg List.length hms
    have hargs : ∀ (j : Nat) (y : AV), (rens (newName ms 0) args)[j]? = some y → VRel w L (renMap μ ms 0) (vs.getD j undef) y := by
      intro j y hy
      rw [rens_map, List.getElem?_map] at hy
      obtain ⟨x, hx, rfl⟩ := Option.map_eq_some_iff.1 hy
      refine ren_rel (hv j x hx) ?_
      rw [closedAll_all, List.all_eq_true] at hcl
      exact hcl x (List.mem_of_getElem? hx)
    have htab : ∀ id r, tabO ((rs.map (renRow (newName ms 0))).map some) id = some r → ∃ k r0, ms[id]? = some k ∧ T k = some r0 ∧ r = renRow (newName ms 0) r0 ∧ r0 ∈ rs := by
      intro id r h
      unfold tabO at h
      rw [List.map_map, List.getElem?_map] at h
      cases hg : rs[id]? with
      | none => rw [hg] at h; cases h
      | some r0 =>
        rw [hg] at h
        have hlt : id < ms.length := by rw [hlen]; exact (List.getElem?_eq_some_iff.1 hg).1
        have h3 := congrArg (·[id]?) hms
        simp only [List.getElem?_map, hg, List.getElem?_eq_getElem hlt, Option.map_some, Option.some.injEq] at h3
        exact ⟨_, r0, List.getElem?_eq_getElem hlt, h3, (Option.some.inj h).symm, List.mem_of_getElem? hg⟩
    have hclr : ∀ r0 ∈ rs, ∀ e ∈ r0.els, closedAll ms e = true := fun r0 h0 e he => List.all_eq_true.1 (hrs r0 h0) e he
    have hR0 : TRel P w L (renMap μ ms 0) (tabO ((rs.map (renRow (newName ms 0))).map some)) := by
      refine ⟨fun id r hr => ?_, fun id id' r r' p p' hr hr' hp hp' hne => ?_⟩
      · obtain ⟨k, r0, hk, h0, rfl, hm⟩ := htab id r hr
        obtain ⟨q, hq, hrow, hnil⟩ := hT.row k r0 h0
        exact ⟨q, (hmapR (Nat.zero_le _) hk).trans hq, fun p hp => row_ren (hrow p hp) (hclr r0 hm), fun hq => by simp [renRow, hnil hq]⟩
      · obtain ⟨k, r0, hk, h0, rfl, _⟩ := htab id r hr
        obtain ⟨k', r0', hk', h0', rfl, _⟩ := htab id' r' hr'
        rw [hmapR (Nat.zero_le _) hk] at hp
        rw [hmapR (Nat.zero_le _) hk'] at hp'
        refine hT.apart k k' r0 r0' p p' h0 h0' hp hp' fun e => ?_
        subst e
        obtain ⟨l1, e1⟩ := List.getElem?_eq_some_iff.1 hk
        obtain ⟨l2, e2⟩ := List.getElem?_eq_some_iff.1 hk'
        exact hne (nodup_inj hnd l1 l2 (e1.trans e2.symm))
    have hsz : vs.size = (rens (newName ms 0) args).length := by rw [rens_map, List.length_map]; exact hs
    refine (hcalls w L (renMap μ ms 0) vs hsz hargs hR0 fun id hid => ?_).mono ?_
    · have hid' : ms.length ≤ id := by simpa [hlen] using hid
      unfold renMap
      rw [if_neg (by omega)]
    · rintro e w' ⟨v, L', μ', rfl, hv', hTR, hE, hno⟩
      obtain ⟨μ'', h1, h2, h3, h4⟩ := merge_core hT hfr hnd hml hms hrs hv' hTR hE hno
      exact ⟨v, L', μ'', rfl, h1, h2, h3, h4⟩

theorem calln_sound {w : World} {L : Nat → Prop} {μ : Map} {T : Table} (hT : TRel P w L μ T) {base : Nat} (hfr : ∀ k, k < 8 → μ (base + k) = none) {f : FuncId} {args : List AV} {K : AV → Table → Prop} (h : CallN P T base f args K)
    {vs : Array Value} (hs : vs.size = args.length) (hv : ∀ (j : Nat) (x : AV), args[j]? = some x → VRel w L μ (vs.getD j undef) x) :
    (∃ fn, P.funcs[f]? = some fn ∧ (fn.name == "runtime.NumGoroutine") = false ∧ fn.body.isNone = false) ∧
    Calls P f vs w fun e w' => ∃ v T', K v T' ∧ ∃ v0 L' μ', e = .returned v0 ∧ Ext w L μ T w' L' μ' T' ∧ TRel P w' L' μ' T' ∧ VRel w' L' μ' v0 v ∧ ∀ id, ¬ (base ≤ id ∧ id < base + 8) → μ' id = μ id := by
  obtain ⟨args', ids, R, hA, hands, hK⟩ := h
  obtain ⟨hfn, hcalls⟩ := hA
  refine ⟨hfn, ?_⟩
  have hrel : ∃ Lc : Nat → Prop, (∀ j x, args'[j]? = some x → VRel w Lc Map.empty (vs.getD j undef) x) ∧ args.length = args'.length ∧
      ((∀ b, b < w.heap.size → (Lc b ↔ L b)) ∨ ∀ val rows, R val rows → (val base).noRo = true ∧ ∀ r ∈ rows base, ∀ e ∈ r.els, ∀ y ∈ e, y.noRo1 = true) := by
    rcases hands with ⟨rfl, hno⟩ | ⟨⟨hl, hdeep⟩, h1⟩
    · refine ⟨L, fun j x hx => ?_, rfl, .inl fun _ _ => Iff.rfl⟩
      simp only [List.all_eq_true] at hno
      exact noIds_rel (hv j x hx) (hno x (List.mem_of_getElem? hx)) (fun _ _ h => h)
    · refine ⟨fun _ => False, fun j y hy => ?_, hl, .inr h1⟩
      have hlt : j < args.length := by rw [hl]; exact (List.getElem?_eq_some_iff.1 hy).1
      exact deep_rel hT (hdeep j args[j] y (List.getElem?_eq_getElem hlt) hy) (hv j _ (List.getElem?_eq_getElem hlt))
  obtain ⟨Lc, hvr, hlen, hLc⟩ := hrel
  refine (hcalls base w Lc vs (hs.trans hlen) hvr).mono ?_
  rintro e w' ⟨val, rows, hR, v, L', μ', rfl, hv, hTR, hids, q1, q2, q3, q4, q5, q6, q7⟩
  obtain ⟨h8, hKv⟩ := hK val rows hR
  have hL : (∀ b, b < w.heap.size → (L' b ↔ L b)) ∨ ((val base).noRo = true ∧ ∀ r ∈ rows base, ∀ e ∈ r.els, ∀ y ∈ e, y.noRo1 = true) := by
    rcases hLc with hLc | hLc
    · exact .inl fun b hb => (q6 b hb).trans (hLc b hb)
    · exact .inr (hLc val rows hR)
  obtain ⟨L'', μ'', hE, hT'', hv'', hμ''⟩ := adopt_core hT hfr hv hTR hids q1 q2 q3 q4 q5 q7 h8 hL
  exact ⟨_, _, hKv, v, L'', μ'', rfl, hE, hT'', hv'', hμ''⟩

/-! ### One operation -/
def opsOk (n : Nat) (ops : Array Oper) : Prop := ∀ (j : Nat) (o : Oper) (d : Tmp), ops[j]? = some o → o.dst = some d → d < n

theorem step_sound {S : Start} {fresh : Nat → Prop} {st : St} {a : Act} {w : World} {ops : Array Oper} {Q : Exit → Act → World → Prop} {base i : Nat} {K : St → Foot → Prop} (hR : Rel P S fresh st a w)
    (hfr : ∀ k, k < 8 → fresh (base + 8 * i + k)) (ho : opsOk S.n ops) (h : AStepF P ops base i st K) :
    ∃ st' ft, K st' ft ∧ wpOp P ops Q i (fun a' w' => Rel P S (fun id => fresh id ∧ ¬ (base + 8 * i ≤ id ∧ id < base + 8 * i + 8)) st' a' w') a w := by
  obtain ⟨L, μ, hC⟩ := hR
  unfold AStepF at h
  unfold wpOp
  split at h
  · exact h.elim
  · rename_i o hoo
    simp only [hoo]
    have hd : ∀ k, o.dst = some k → k < S.n := fun k hk => ho i o k hoo hk
    have hid : μ (base + 8 * i) = none := hC.fresh _ (by simpa using hfr 0 (by omega))
    split at h
    · exact h.elim
    · rename_i hw
      refine ⟨_, _, h, ?_⟩
      rw [wanted_sound hC hw ho, if_neg (by simp)]
      refine ⟨L, μ, ?_⟩
      have := hC.step (d := o.dst) hd (v := undef) (x := .flat undef) (Ext.refl _ _ _ _) hC.tab (.flat _ rfl) (fresh' := fun id => fresh id ∧ ¬ (base + 8 * i ≤ id ∧ id < base + 8 * i + 8)) (fun id h => hC.fresh id h.1)
      have e : st.put o.dst (.flat undef) = { st.put o.dst (.flat undef) with T := st.T } := by rw [← St.put_T st o.dst (.flat undef)]
      rw [e]; exact this
    · rename_i hw
      simp only [wanted_sound hC hw ho, if_true]
      split at h
      · rename_i hcall
        obtain ⟨f, xs, args, v, T', rd, wr, hcf, hargs, hD, hK⟩ := h
        refine ⟨_, _, hK, .inl ?_⟩
        unfold callOf at hcf
        split at hcf
        · rename_i fo as ts hop
          split at hcf
          · rename_i k c1 c2 hfo
            split at hcf
            · rename_i hz
              simp only [Option.some.injEq, Prod.mk.injEq] at hcf
              obtain ⟨rfl, rfl⟩ := hcf
              have hf : a.eval fo = .func (.func k) c1 c2 := flat_eq (hC.op fo _ hfo)
              obtain ⟨ha1, ha2⟩ := evArgs_sound (σ := a.eval) (fun x y => hC.op x y) hargs
              have hmap : as.map a.eval = (as.toList.map a.eval).toArray := by cases as; simp
              obtain ⟨⟨fn, hfn, hname, hbody⟩, hcalls⟩ := calld_sound hC.tab (base := base + 8 * i) (fun k hk => hC.fresh _ (hfr k hk)) hD (vs := as.map a.eval) (by rw [Array.size_map, ← ha1, Array.length_toList]) (fun j x hx => by rw [hmap]; exact ha2 j x hx)
              have e1 : c1 = #[] := Array.eq_empty_of_size_eq_zero hz.1
              have e2 : c2 = #[] := Array.eq_empty_of_size_eq_zero hz.2
              subst e1; subst e2
              have hrun : (execOp a.eval o).run P w = .ok (.enter k (as.map a.eval)) w := by
                unfold execOp
                simp only [hop, resolve, hf, Deferred.ofValue]
                rw [run_bind _ _ (by exact (rfl : (pure _ : Sem Deferred).run P w = .ok _ w))]
                simp only [Array.empty_append, invoke, Array.append_empty]
                unfold callFunc
                rw [run_bind _ _ (by exact (rfl : (program : Sem Program).run P w = .ok P w))]
                simp only [hfn, hname, hbody, Bool.false_eq_true, if_false]
                rfl
              unfold Oper.wp
              rw [hrun, Oper.upon_enter]
              refine hcalls.mono ?_
              rintro e w' ⟨v0, L'', μ'', rfl, hE, hT'', hv'', hμ''⟩
              exact ⟨L'', μ'', hC.step hd hE hT'' hv'' fun id hf => by rw [hμ'' id hf.2]; exact hC.fresh id hf.1⟩
            · cases hcf
          · cases hcf
        · cases hcf
      · split at h
        · rename_i v T' hev
          refine ⟨_, _, h, .inl ?_⟩
          obtain ⟨nx, u, w', L', μ', hrun, hnx, hE, hT', hv, hμ⟩ := evOp_gives hC.tab hid (fun x y => hC.op x y) hev
          have hnew := hC.step hd hE hT' hv (fresh' := fun id => fresh id ∧ ¬ (base + 8 * i ≤ id ∧ id < base + 8 * i + 8)) fun id hf => by
            rw [hμ id (fun e => hf.2 (by omega))]; exact hC.fresh id hf.1
          unfold Oper.wp
          rw [hrun]
          cases nx with
          | value v0 => obtain rfl := Option.some.inj hnx; exact ⟨L', μ', hnew⟩
          | skip => obtain rfl := Option.some.inj hnx; exact ⟨L', μ', hnew⟩
          | _ => cases hnx
        · exact h.elim

theorem stepR_sound {S : Start} {fresh : Nat → Prop} {st : St} {a : Act} {w : World} {ops : Array Oper} {Q : Exit → Act → World → Prop} {base i : Nat} {K : St → Prop} (hR : Rel P S fresh st a w)
    (hfr : ∀ k, k < 8 → fresh (base + 8 * i + k)) (ho : opsOk S.n ops) (h : AStepR P ops base i st K) :
    wpOp P ops Q i (fun a' w' => ∃ st', K st' ∧ Rel P S (fun id => fresh id ∧ ¬ (base + 8 * i ≤ id ∧ id < base + 8 * i + 8)) st' a' w') a w := by
  obtain ⟨L, μ, hC⟩ := hR
  unfold AStepR at h
  unfold wpOp
  split at h
  · exact h.elim
  · rename_i o hoo
    simp only [hoo]
    have hd : ∀ k, o.dst = some k → k < S.n := fun k hk => ho i o k hoo hk
    obtain ⟨hw, hcall, f, xs, args, hcf, hargs, hN⟩ := h
    simp only [wanted_sound hC hw ho, if_true]
    refine .inl ?_
    unfold callOf at hcf
    split at hcf
    · rename_i fo as ts hop
      split at hcf
      · rename_i k c1 c2 hfo
        split at hcf
        · rename_i hz
          simp only [Option.some.injEq, Prod.mk.injEq] at hcf
          obtain ⟨rfl, rfl⟩ := hcf
          have hf : a.eval fo = .func (.func k) c1 c2 := flat_eq (hC.op fo _ hfo)
          obtain ⟨ha1, ha2⟩ := evArgs_sound (σ := a.eval) (fun x y => hC.op x y) hargs
          have hmap : as.map a.eval = (as.toList.map a.eval).toArray := by cases as; simp
          obtain ⟨⟨fn, hfn, hname, hbody⟩, hcalls⟩ := calln_sound hC.tab (base := base + 8 * i) (fun k hk => hC.fresh _ (hfr k hk)) hN (vs := as.map a.eval) (by rw [Array.size_map, ← ha1, Array.length_toList]) (fun j x hx => by rw [hmap]; exact ha2 j x hx)
          have e1 : c1 = #[] := Array.eq_empty_of_size_eq_zero hz.1
          have e2 : c2 = #[] := Array.eq_empty_of_size_eq_zero hz.2
          subst e1; subst e2
          have hrun : (execOp a.eval o).run P w = .ok (.enter k (as.map a.eval)) w := by
            unfold execOp
            simp only [hop, resolve, hf, Deferred.ofValue]
            rw [run_bind _ _ (by exact (rfl : (pure _ : Sem Deferred).run P w = .ok _ w))]
            simp only [Array.empty_append, invoke, Array.append_empty]
            unfold callFunc
            rw [run_bind _ _ (by exact (rfl : (program : Sem Program).run P w = .ok P w))]
            simp only [hfn, hname, hbody, Bool.false_eq_true, if_false]
            rfl
          unfold Oper.wp
          rw [hrun, Oper.upon_enter]
          refine hcalls.mono ?_
          rintro e w' ⟨v, T', hK, v0, L'', μ'', rfl, hE, hT'', hv'', hμ''⟩
          exact ⟨_, hK, L'', μ'', hC.step hd hE hT'' hv'' fun id hf => by rw [hμ'' id hf.2]; exact hC.fresh id hf.1⟩
        · cases hcf
      · cases hcf
    · cases hcf

/-! ### Regions in the text's order -/
theorem Rel.weak {S : Start} {fresh fresh' : Nat → Prop} {st : St} {a : Act} {w : World} (h : Rel P S fresh st a w) (hf : ∀ id, fresh' id → fresh id) : Rel P S fresh' st a w := by
  obtain ⟨L, μ, hC⟩ := h
  exact ⟨L, μ, { hC with fresh := fun id h => hC.fresh id (hf id h) }⟩

theorem ops_sound {S : Start} {ops : Array Oper} {Q : Exit → Act → World → Prop} {base : Nat} {K : St → Prop} (ho : opsOk S.n ops) {fin : Nat → Prop} : ∀ (l : List Nat) (fresh : Nat → Prop) (st : St) (a : Act) (w : World), l.Nodup →
    (∀ i ∈ l, ∀ k, k < 8 → fresh (base + 8 * i + k)) → (∀ id, fin id → fresh id) → (∀ id i, fin id → i ∈ l → ¬ (base + 8 * i ≤ id ∧ id < base + 8 * i + 8)) → Rel P S fresh st a w → AOps P ops base l st K →
    (∀ st' a' w', K st' → Rel P S fin st' a' w' → Q .normal a' w') → wpOps P ops Q l a w := by
  intro l
  induction l with
  | nil => intro fresh st a w _ _ hfin _ hR h hQ; exact hQ st a w h (hR.weak hfin)
  | cons i l ih =>
    intro fresh st a w hnd hfr hfin hfi hR h hQ
    rw [wpOps_cons]
    obtain ⟨hni, hnd'⟩ := List.nodup_cons.1 hnd
    have key : wpOp P ops Q i (fun a' w' => ∃ st', AOps P ops base l st' K ∧ Rel P S (fun id => fresh id ∧ ¬ (base + 8 * i ≤ id ∧ id < base + 8 * i + 8)) st' a' w') a w := by
      rcases h with h | h
      · obtain ⟨st', ft, hK, hw⟩ := step_sound (Q := Q) hR (hfr i (by simp)) ho h
        exact wpOp_mono (fun a' w' hR' => ⟨st', hK, hR'⟩) hw
      · exact stepR_sound hR (hfr i (by simp)) ho h
    refine wpOp_mono (fun a' w' hR' => ?_) key
    obtain ⟨st', hK, hR'⟩ := hR'
    refine ih _ st' a' w' hnd' (fun j hj k hk => ⟨hfr j (by simp [hj]) k hk, ?_⟩) (fun id h => ⟨hfin id h, hfi id i h (by simp)⟩) (fun id j h hj => hfi id j h (by simp [hj])) hR' hK hQ
    have : i ≠ j := fun e => hni (e ▸ hj)
    omega

theorem region_sound {S : Start} {ops : Array Oper} {Q : Exit → Act → World → Prop} {K : St → Prop} {id : Nat} {st : St} {a : Act} {w : World} (ho : opsOk S.n ops) (hR : Rel P S (st.nx ≤ ·) st a w)
    (h : AOps P ops st.nx (List.range ops.size) st K) (hQ : ∀ st' a' w', K st' → Rel P S (st.nx + 8 * ops.size ≤ ·) st' a' w' → Q .normal a' w') : (Code.region id ops false).wp P Q a w := by
  refine wp_region (ops_sound ho (List.range ops.size) (st.nx ≤ ·) st a w List.nodup_range (fun i hi k hk => ?_) (fun id h => ?_) (fun id i h hi => ?_) hR h hQ)
  · show st.nx ≤ _; omega
  · have h' : st.nx + 8 * ops.size ≤ id := h
    show st.nx ≤ id; omega
  · have h' : st.nx + 8 * ops.size ≤ id := h
    have := List.mem_range.1 hi
    omega

/-! ### A state is cut -/
theorem cutVals_get (ks live : List Nat) (s : Nat → AV) : ∀ (l : List Nat) (i : Nat), ((cutVals ks live s l).getD i .dead).isDead = false → ∃ t, l[i]? = some t ∧ closedIn ks (s t) = true ∧ (cutVals ks live s l).getD i .dead = ren (newName ks 0) (s t) := by
  intro l
  induction l with
  | nil => intro i h; simp [cutVals, AV.dead, AV.isDead] at h
  | cons t l ih =>
    intro i h
    cases i with
    | zero =>
      simp only [cutVals, List.getD_cons_zero] at h ⊢
      split at h
      · rename_i hc
        simp only [Bool.and_eq_true] at hc
        exact ⟨t, rfl, hc.2, by rw [if_pos (by rw [hc.1, hc.2]; rfl)]⟩
      · simp [AV.dead, AV.isDead] at h
    | succ i =>
      simp only [cutVals, List.getD_cons_succ] at h ⊢
      simpa using ih i h

theorem cutRows_get (ks : List Nat) (T : Table) : ∀ (l : List Nat) (i : Nat) (r : Row), (cutRows ks T l).getD i none = some r → ∃ k r0, l[i]? = some k ∧ T k = some r0 ∧ (∀ e ∈ r0.els, closedAll ks e = true) ∧ r = renRow (newName ks 0) r0 := by
  intro l
  induction l with
  | nil => intro i r h; simp [cutRows] at h
  | cons t l ih =>
    intro i r h
    cases i with
    | zero =>
      simp only [cutRows, List.getD_cons_zero] at h
      split at h
      · rename_i r0 h0
        split at h
        · rename_i hc
          obtain rfl := Option.some.inj h
          exact ⟨t, r0, rfl, h0, List.all_eq_true.1 hc, rfl⟩
        · cases h
      · cases h
    | succ i =>
      simp only [cutRows, List.getD_cons_succ] at h
      simpa using ih i r h

theorem isDead_eq {x : AV} (h : x.isDead = true) : x = .dead := by
  unfold AV.isDead at h
  split at h
  · rfl
  · cases h

theorem cut_core {S : Start} {fresh : Nat → Prop} {st : St} {a : Act} {w : World} {L : Nat → Prop} {μ : Map} (hC : Core P S fresh st a w L μ) (ks live : List Nat) (n : Nat) (hnd : ks.Nodup) (hpin : ks.take S.pm = List.range S.pm) : Core P S (ks.length ≤ ·) (cut ks live n st) a w L (renMap μ ks 0) := by
  refine ⟨hC.size, hC.defers, fun t ht => ?_, ⟨fun id r hr => ?_, fun id id' r r' p p' hr hr' hp hp' hne => ?_⟩, fun id hid => ?_, hC.os, hC.tape, hC.output, hC.grown, hC.block, hC.L, fun id r p hr hp => ?_, fun id hid => ?_⟩
  · obtain ⟨t', ht', hcl, he⟩ := cutVals_get ks live st.s (List.range n) t ht
    have e : t' = t := by
      have hlt := (List.getElem?_eq_some_iff.1 ht').1
      rw [List.getElem?_range (by simpa using hlt)] at ht'
      exact (Option.some.inj ht').symm
    subst e
    have hd : (st.s t').isDead = false := by
      cases hx : (st.s t').isDead with
      | false => rfl
      | true =>
        have := isDead_eq hx
        rw [this] at he
        have e2 : (cut ks live n st).s t' = .dead := he
        rw [e2] at ht
        simp [AV.dead, AV.isDead] at ht
    show VRel w L _ _ ((cutVals ks live st.s (List.range n)).getD t' .dead)
    rw [he]
    exact ren_rel (hC.slot t' hd) hcl
  · obtain ⟨k, r0, hk, h0, hcl, rfl⟩ := cutRows_get ks st.T ks id r hr
    obtain ⟨q, hq, hrow, hnil⟩ := hC.tab.row k r0 h0
    exact ⟨q, (hmapR (Nat.zero_le _) hk).trans hq, fun p hp => row_ren (hrow p hp) hcl, fun hq => by simp [renRow, hnil hq]⟩
  · obtain ⟨k, r0, hk, h0, hcl, rfl⟩ := cutRows_get ks st.T ks id r hr
    obtain ⟨k', r0', hk', h0', hcl', rfl⟩ := cutRows_get ks st.T ks id' r' hr'
    rw [hmapR (Nat.zero_le _) hk] at hp
    rw [hmapR (Nat.zero_le _) hk'] at hp'
    refine hC.tab.apart k k' r0 r0' p p' h0 h0' hp hp' fun e => ?_
    subst e
    obtain ⟨l1, e1⟩ := List.getElem?_eq_some_iff.1 hk
    obtain ⟨l2, e2⟩ := List.getElem?_eq_some_iff.1 hk'
    exact hne (nodup_inj hnd l1 l2 (e1.trans e2.symm))
  · unfold renMap
    have h' : ks.length ≤ id := hid
    rw [if_neg (by omega)]
  · obtain ⟨k, r0, hk, h0, hcl, rfl⟩ := cutRows_get ks st.T ks id r hr
    rw [hmapR (Nat.zero_le _) hk] at hp
    exact hC.place k r0 p h0 hp
  · have hg : (ks.take S.pm)[id]? = some id := by rw [hpin, List.getElem?_range hid]
    rw [List.getElem?_take, if_pos hid] at hg
    exact (hmapR (Nat.zero_le _) hg).trans (hC.pinned id hid)
theorem cut_sound {S : Start} {fresh : Nat → Prop} {st : St} {a : Act} {w : World} (h : Rel P S fresh st a w) (ks live : List Nat) (n : Nat) (hnd : ks.Nodup) (hpin : ks.take S.pm = List.range S.pm) : Rel P S (ks.length ≤ ·) (cut ks live n st) a w := by
  obtain ⟨L, μ, hC⟩ := h
  exact ⟨L, _, cut_core hC ks live n hnd hpin⟩

/-- A slice that is nil is an empty row. -/
theorem Core.nil {S : Start} {st : St} {a : Act} {w : World} {L : Nat → Prop} {μ : Map} (hC : Core P S (st.nx ≤ ·) st a w L μ) {s' : Nat → AV} {T' : Table} {e : TypeId} (hs : ∀ t, (s' t).isDead = false → (st.s t).isDead = false ∧ (s' t = st.s t ∨ (st.s t = .flat (.slice none 0 0) ∧ s' t = .sl st.nx 0 0)))
    (hT' : T' st.nx = some ⟨e, []⟩) (hTo : ∀ id r, id ≠ st.nx → T' id = some r → ∃ r0, st.T id = some r0 ∧ r.elem = r0.elem ∧ r.els.length = r0.els.length ∧ ∀ (i : Nat) (c : List AV), r.els[i]? = some c → ∃ c0, r0.els[i]? = some c0 ∧ c.length = c0.length ∧
      ∀ (j : Nat) (x : AV), c[j]? = some x → c0[j]? = some x ∨ (c0[j]? = some (.flat (.slice none 0 0)) ∧ x = .sl st.nx 0 0)) :
    Rel P S (st.nx + 1 ≤ ·) ⟨s', T', st.nx + 1⟩ a w := by
  have hfr : μ st.nx = none := hC.fresh _ (Nat.le_refl _)
  have hμ : ∀ id q, μ id = some q → (μ.set st.nx none) id = some q := fun id q hq => by
    unfold Map.set
    rw [if_neg (fun e => by rw [e, hfr] at hq; cases hq)]; exact hq
  have hμn : (μ.set st.nx none) st.nx = some none := if_pos rfl
  have hμ2 : ∀ id q, id ≠ st.nx → (μ.set st.nx none) id = some q → μ id = some q := fun id q hne hq => by
    unfold Map.set at hq
    rw [if_neg hne] at hq; exact hq
  have up : ∀ {v : Value} {x : AV}, VRel w L μ v x → VRel w L (μ.set st.nx none) v x := fun h => h.mono (fun _ _ _ => rfl) (Nat.le_refl _) (fun _ _ h => h) hμ
  have nilv : ∀ {v : Value}, VRel w L μ v (.flat (.slice none 0 0)) → VRel w L (μ.set st.nx none) v (.sl st.nx 0 0) := fun h => by
    cases h with
    | flat v hv => exact .sl hμn ⟨rfl, rfl, rfl⟩
  refine ⟨L, μ.set st.nx none, hC.size, hC.defers, fun t ht => ?_, ⟨fun id r hr => ?_, fun id id' r r' p p' hr hr' hp hp' hne => ?_⟩, fun id hid => ?_, hC.os, hC.tape, hC.output, hC.grown, hC.block, hC.L, fun id r p hr hp => ?_, fun id hid => hμ _ _ (hC.pinned id hid)⟩
  · obtain ⟨hd, h | ⟨h1, h2⟩⟩ := hs t ht
    · show VRel w L _ _ (s' t)
      rw [h]; exact up (hC.slot t hd)
    · show VRel w L _ _ (s' t)
      rw [h2]
      have := hC.slot t hd
      rw [h1] at this
      exact nilv this
  · by_cases he : id = st.nx
    · subst he
      have h2 : r = ⟨e, []⟩ := by
        have : T' st.nx = some r := hr
        rw [hT'] at this; exact (Option.some.inj this).symm
      subst h2
      exact ⟨none, hμn, fun p hp => (by cases hp), fun _ => rfl⟩
    · obtain ⟨r0, h0, h1, h2, h3⟩ := hTo id r he hr
      obtain ⟨q, hq, hrow, hnil⟩ := hC.tab.row id r0 h0
      refine ⟨q, hμ _ _ hq, fun p hp => ?_, fun hq => ?_⟩
      · have hr0 := hrow p hp
        obtain ⟨cur, hg, hsz, hc⟩ := hr0.cur
        refine ⟨⟨cur, by rw [h1]; exact hg, hsz, fun i c j x hi hx => ?_⟩, by rw [h2]; exact hr0.len, fun c hc' => ?_, by rw [h1]; exact hr0.szT, hr0.cap, hr0.live⟩
        · obtain ⟨c0, hc0, hl, hx0⟩ := h3 i c hi
          rcases hx0 j x hx with h | ⟨h, rfl⟩
          · obtain ⟨u, hu, hone, hv⟩ := hc i c0 j x hc0 h
            exact ⟨u, hu, hone, up hv⟩
          · obtain ⟨u, hu, hone, hv⟩ := hc i c0 j _ hc0 h
            exact ⟨u, hu, hone, nilv hv⟩
        · obtain ⟨i, hi⟩ := List.mem_iff_getElem?.1 hc'
          obtain ⟨c0, hc0, hl, _⟩ := h3 i c hi
          rw [hl]; exact hr0.sz c0 (List.mem_of_getElem? hc0)
      · have := hnil hq
        rw [this] at h2
        exact List.eq_nil_of_length_eq_zero h2
  · have n1 : id ≠ st.nx := fun e => by rw [e, hμn] at hp; cases hp
    have n2 : id' ≠ st.nx := fun e => by rw [e, hμn] at hp'; cases hp'
    obtain ⟨r0, h0, _⟩ := hTo id r n1 hr
    obtain ⟨r0', h0', _⟩ := hTo id' r' n2 hr'
    exact hC.tab.apart id id' r0 r0' p p' h0 h0' (hμ2 _ _ n1 hp) (hμ2 _ _ n2 hp') hne
  · have h1 : st.nx + 1 ≤ id := hid
    unfold Map.set
    rw [if_neg (by omega)]
    exact hC.fresh id (by show st.nx ≤ id; omega)
  · have n1 : id ≠ st.nx := fun e => by rw [e, hμn] at hp; cases hp
    obtain ⟨r0, h0, _⟩ := hTo id r n1 hr
    exact hC.place id r0 p h0 (hμ2 _ _ n1 hp)
theorem nil1_sound {S : Start} {st : St} {a : Act} {w : World} (h : Rel P S (st.nx ≤ ·) st a w) (x : NilAt) : Rel P S ((nil1 x st).nx ≤ ·) (nil1 x st) a w := by
  obtain ⟨L, μ, hC⟩ := h
  have hnoT : st.T st.nx = none := by
    cases hT : st.T st.nx with
    | none => rfl
    | some r =>
      obtain ⟨q, hq, _⟩ := hC.tab.row _ r hT
      rw [hC.fresh _ (Nat.le_refl _)] at hq; cases hq
  have hset : ∀ (T : Table) (e : TypeId) (id : Nat) (r : Row), id ≠ st.nx → (T.set st.nx (some ⟨e, []⟩)) id = some r → T id = some r := fun T e id r hne h => by
    unfold Table.set at h
    rw [if_neg hne] at h; exact h
  cases x with
  | slot t e =>
    show Rel P S ((nilSlot t e st).nx ≤ ·) (nilSlot t e st) a w
    unfold nilSlot
    split
    · rename_i hst
      refine hC.nil (e := e) (fun t' ht' => ?_) (if_pos rfl) fun id r hne hr => ⟨r, hset _ _ id r hne hr, rfl, rfl, fun i c hi => ⟨c, hi, rfl, fun j x hx => .inl hx⟩⟩
      unfold upd at ht' ⊢
      by_cases he : t' = t
      · subst he
        rw [hst, if_pos rfl]
        exact ⟨rfl, .inr ⟨rfl, rfl⟩⟩
      · rw [if_neg he] at ht' ⊢
        exact ⟨ht', .inl rfl⟩
    · exact ⟨L, μ, hC⟩
  | cell k i j e =>
    show Rel P S ((nilCell k i j e st).nx ≤ ·) (nilCell k i j e st) a w
    unfold nilCell
    split
    · rename_i r hr
      split
      · rename_i c hc
        split
        · rename_i hj
          have hk : k ≠ st.nx := fun e => by rw [e, hnoT] at hr; cases hr
          refine hC.nil (e := e) (fun t' ht' => ⟨ht', .inl rfl⟩) (if_pos rfl) fun id r' hne hr' => ?_
          have h2 := hset _ _ id r' hne hr'
          unfold Table.set at h2
          by_cases he : id = k
          · subst he
            rw [if_pos rfl] at h2
            obtain rfl := Option.some.inj h2
            refine ⟨r, hr, rfl, by simp, fun i' c' hi' => ?_⟩
            simp only [List.getElem?_set] at hi'
            split at hi'
            · rename_i hii
              subst hii
              split at hi'
              · obtain rfl := Option.some.inj hi'
                refine ⟨c, hc, by simp, fun j' x hx => ?_⟩
                simp only [List.getElem?_set] at hx
                split at hx
                · rename_i hjj
                  subst hjj
                  split at hx
                  · exact .inr ⟨hj, (Option.some.inj hx).symm⟩
                  · cases hx
                · exact .inl hx
              · cases hi'
            · exact ⟨c', hi', rfl, fun j x hx => .inl hx⟩
          · rw [if_neg he] at h2
            exact ⟨r', h2, rfl, rfl, fun i c hi => ⟨c, hi, rfl, fun j x hx => .inl hx⟩⟩
        · exact ⟨L, μ, hC⟩
      · exact ⟨L, μ, hC⟩
    · exact ⟨L, μ, hC⟩
  | trim k n =>
    show Rel P S ((match st.T k with | some r => { st with T := st.T.set k (some ⟨r.elem, r.els.take n⟩) } | none => st : St).nx ≤ ·) (match st.T k with | some r => { st with T := st.T.set k (some ⟨r.elem, r.els.take n⟩) } | none => st : St) a w
    split
    · rename_i r hr
      refine ⟨L, μ, hC.size, hC.defers, hC.slot, trim_core hC.tab hr n, hC.fresh, hC.os, hC.tape, hC.output, hC.grown, hC.block, hC.L, fun id r' p h hp => ?_, hC.pinned⟩
      have h' : (st.T.set k (some ⟨r.elem, r.els.take n⟩)) id = some r' := h
      unfold Table.set at h'
      split at h'
      · rename_i e; subst e; exact hC.place id r p hr hp
      · exact hC.place id r' p h' hp
    · exact ⟨L, μ, hC⟩
theorem nils_sound {S : Start} {a : Act} {w : World} : ∀ (l : List NilAt) {st : St}, Rel P S (st.nx ≤ ·) st a w → Rel P S ((nils l st).nx ≤ ·) (nils l st) a w
  | [], st, h => h
  | x :: l, st, h => nils_sound l (nil1_sound h x)

mutual
theorem ren_nil (m : Nat → Nat) : ∀ (x : AV), closedIn [] x = true → ren m x = x
  | .sl id off n, h => by simp [closedIn] at h
  | .ptr id i off, h => by simp [closedIn] at h
  | .agg cs, h => by simp only [ren, rens_nil m cs (by simpa [closedIn] using h)]
  | .tup cs, h => by simp only [ren, rens_nil m cs (by simpa [closedIn] using h)]
  | .flat v, _ => rfl
  | .ro els, _ => rfl
  | .rp cs, _ => rfl
theorem rens_nil (m : Nat → Nat) : ∀ (l : List AV), closedAll [] l = true → rens m l = l
  | [], _ => rfl
  | x :: l, h => by
    simp only [closedAll, Bool.and_eq_true] at h
    simp only [rens, ren_nil m x h.1, rens_nil m l h.2]
end

theorem frzVs_get {k : Nat} {els : List (List AV)} : ∀ {l : List AV} {i : Nat} {y : AV}, (frzVs k els l)[i]? = some y → ∃ x, l[i]? = some x ∧ y = frzV k els x
  | [], i, y, h => by simp [frzVs] at h
  | x :: l, 0, y, h => by simp [frzVs] at h; exact ⟨x, rfl, h.symm⟩
  | x :: l, i + 1, y, h => by
    simp only [frzVs, List.getElem?_cons_succ] at h ⊢
    exact frzVs_get h
theorem frzVs_len {k : Nat} {els : List (List AV)} : ∀ (l : List AV), (frzVs k els l).length = l.length
  | [] => rfl
  | x :: l => by simp [frzVs, frzVs_len l]
theorem badVs_mem {k n : Nat} : ∀ {l : List AV}, badVs k n l = false → ∀ x ∈ l, badV k n x = false
  | [], _, x, hx => by simp at hx
  | a :: l, h, x, hx => by
    simp only [badVs, Bool.or_eq_false_iff] at h
    rcases List.mem_cons.1 hx with rfl | hx
    · exact h.1
    · exact badVs_mem h.2 x hx

section
variable {w : World} {L L' : Nat → Prop} {μ μ' : Map} {k : Nat} {r : Row} {q : Option Place}
theorem closedAll_mem {ks : List Nat} : ∀ {l : List AV}, closedAll ks l = true → ∀ x ∈ l, closedIn ks x = true
  | [], _, x, hx => by simp at hx
  | a :: l, h, x, hx => by
    simp only [closedAll, Bool.and_eq_true] at h
    rcases List.mem_cons.1 hx with rfl | hx
    · exact h.1
    · exact closedAll_mem h.2 x hx
theorem closed_rel {v : Value} {x : AV} (h : VRel w L μ v x) (hc : closedIn [] x = true) (hL : ∀ b, b < w.heap.size → L' b → L b) : VRel w L' μ' v x := by
  have h1 := ren_rel (n := 0) h hc
  rw [ren_nil _ _ hc] at h1
  refine h1.mono (fun _ _ _ => rfl) (Nat.le_refl _) hL fun id q hq => ?_
  unfold renMap at hq
  split at hq
  · rename_i hh; simp at hh
  · cases hq
/-- A slice of the row, told as what stays. -/
theorem frz_sl (hrow : ∀ p, q = some p → RowAt P w L μ p r) (hcl : closedEls [] r.els = true) (hL : ∀ b, b < w.heap.size → L' b → L b) (hLp : ∀ p, q = some p → ¬ L' p.g) {v : Value} {off n : Nat} (hok : slOk q off n v) (hle : off + n ≤ r.els.length) : VRel w L' μ' v (.ro ((r.els.drop off).take n)) := by
  cases q with
  | none =>
    obtain ⟨rfl, rfl, rfl⟩ := hok
    exact .ro 0 (fun _ _ => undef) (by simp) (Nat.le_refl _) (fun e h => by simp at h) (fun h => absurd h (by omega)) (fun i j h => absurd h (by omega)) fun i e j x h => by simp at h
  | some p =>
    obtain ⟨hcap, A, rfl, hA⟩ := hok
    have hr := hrow p rfl
    obtain ⟨cur, hg, hsz, hc⟩ := hr.cur
    have cell : ∀ k, w.cell? ⟨p.g, k, none⟩ = cur[k]? := fun k => cell_of_row w p.g k cur r.elem (0, 0) hg
    have get : ∀ i e, ((r.els.drop off).take n)[i]? = some e → i < n ∧ r.els[off + i]? = some e := by
      intro i e he
      rw [List.getElem?_take] at he
      split at he
      · rename_i hi
        rw [List.getElem?_drop] at he
        exact ⟨hi, he⟩
      · cases he
    have key : ∀ i e j y, ((r.els.drop off).take n)[i]? = some e → e[j]? = some y → ∃ u, cur[p.b + (off + i) * p.sz + j]? = some u ∧ u.oneCell' = true ∧ VRel w L' Map.empty u y := by
      intro i e j y he hy
      obtain ⟨_, he⟩ := get i e he
      obtain ⟨u, hu, h1, hv⟩ := hc (off + i) e j y he hy
      refine ⟨u, hu, h1, ?_⟩
      have hm := List.all_eq_true.1 hcl e (List.mem_of_getElem? he)
      exact closed_rel hv (closedAll_mem hm y (List.mem_of_getElem? hy)) hL
    have full : ∀ i j, i < n → j < p.sz → ∃ u, cur[p.b + (off + i) * p.sz + j]? = some u ∧ u.oneCell' = true := by
      intro i j hi hj
      have h1 : off + i < r.els.length := by omega
      have he : ((r.els.drop off).take n)[i]? = some r.els[off + i] := by
        rw [List.getElem?_take, if_pos hi, List.getElem?_drop, List.getElem?_eq_getElem h1]
      have hl : j < r.els[off + i].length := by rw [hr.sz _ (List.getElem_mem h1)]; exact hj
      obtain ⟨u, hu, h2, _⟩ := key i _ j _ he (List.getElem?_eq_getElem hl)
      exact ⟨u, hu, h2⟩
    refine .ro p.sz (fun i j => (cur[p.b + (off + i) * p.sz + j]?).getD undef) (by simp; omega) (by omega) ?_ (fun hp => ?_) ?_ ?_
    · intro e he
      exact hr.sz e (List.mem_of_mem_drop (List.mem_of_mem_take he))
    · have hne : off < p.cap := by omega
      refine ⟨_, hA hne, hLp p rfl, (Array.getElem?_eq_some_iff.1 hg).1, fun i j hi hj => ?_⟩
      obtain ⟨u, hu, _⟩ := full i j hi hj
      have e1 : p.b + off * p.sz + (i * p.sz + j) = p.b + (off + i) * p.sz + j := by rw [Nat.add_mul]; omega
      rw [add_lit, cell, e1, hu]; rfl
    · intro i j hi hj
      obtain ⟨u, hu, h1⟩ := full i j hi hj
      rw [hu]; exact h1
    · intro i e j y he hy
      obtain ⟨u, hu, _, hv⟩ := key i e j y he hy
      rw [hu]; exact hv
def AllV (Q : AV → Prop) : List AV → Prop
  | [] => True
  | a :: l => Q a ∧ AllV Q l
theorem allV_mem {Q : AV → Prop} : ∀ {l : List AV}, AllV Q l → ∀ x ∈ l, Q x
  | [], _, x, hx => by simp at hx
  | a :: l, h, x, hx => by
    rcases List.mem_cons.1 hx with rfl | hx
    · exact h.1
    · exact allV_mem h.2 x hx
mutual
theorem frzV_rel (hrow : ∀ p, q = some p → RowAt P w L μ p r) (hk : μ k = some q) (hcl : closedEls [] r.els = true) (hL : ∀ b, b < w.heap.size → L' b → L b) (hLp : ∀ p, q = some p → ¬ L' p.g) (hμ : ∀ id q, id ≠ k → μ id = some q → μ' id = some q) :
    ∀ (x : AV) (v : Value), VRel w L μ v x → badV k r.els.length x = false → VRel w L' μ' v (frzV k r.els x)
  | .sl id off n, v, h, hb => by
    cases h with
    | sl hq hok =>
      unfold frzV
      by_cases he : id = k
      · subst he
        rw [if_pos rfl]
        rw [hk] at hq
        obtain rfl := Option.some.inj hq
        have hle : off + n ≤ r.els.length := by
          simp only [badV, beq_self_eq_true, Bool.true_and, decide_eq_false_iff_not] at hb
          omega
        exact frz_sl hrow hcl hL hLp hok hle
      · rw [if_neg he]
        exact .sl (hμ _ _ he hq) hok
  | .ptr id i off, v, h, hb => by
    cases h with
    | ptr hq =>
      have he : id ≠ k := by simpa [badV] using hb
      exact .ptr (hμ _ _ he hq)
  | .agg cs, v, h, hb => by
    cases h with
    | agg hl hh =>
      unfold frzV
      refine .agg (by rw [frzVs_len]; exact hl) fun i y hy => ?_
      obtain ⟨x, hx, rfl⟩ := frzVs_get hy
      exact allV_mem (frzVs_rel hrow hk hcl hL hLp hμ cs hb) x (List.mem_of_getElem? hx) _ (hh i x hx)
  | .tup cs, v, h, hb => by
    cases h with
    | tup hl hh =>
      unfold frzV
      refine .tup (by rw [frzVs_len]; exact hl) fun i y hy => ?_
      obtain ⟨x, hx, rfl⟩ := frzVs_get hy
      exact allV_mem (frzVs_rel hrow hk hcl hL hLp hμ cs hb) x (List.mem_of_getElem? hx) _ (hh i x hx)
  | .flat u, v, h, hb => closed_rel h rfl hL
  | .ro els, v, h, hb => closed_rel h rfl hL
  | .rp cs, v, h, hb => closed_rel h rfl hL
theorem frzVs_rel (hrow : ∀ p, q = some p → RowAt P w L μ p r) (hk : μ k = some q) (hcl : closedEls [] r.els = true) (hL : ∀ b, b < w.heap.size → L' b → L b) (hLp : ∀ p, q = some p → ¬ L' p.g) (hμ : ∀ id q, id ≠ k → μ id = some q → μ' id = some q) :
    ∀ (l : List AV), badVs k r.els.length l = false → AllV (fun x => ∀ v : Value, VRel w L μ v x → VRel w L' μ' v (frzV k r.els x)) l
  | [], _ => trivial
  | a :: l, hb => by
    simp only [badVs, Bool.or_eq_false_iff] at hb
    exact ⟨fun v h => frzV_rel hrow hk hcl hL hLp hμ a v h hb.1, frzVs_rel hrow hk hcl hL hLp hμ l hb.2⟩
end
end
theorem frz_sound {S : Start} {fresh : Nat → Prop} {st : St} {a : Act} {w : World} (hpm : S.pm = 0) (hold : ∀ b, ¬ S.old b) (h : Rel P S fresh st a w) (k : Nat) : Rel P S fresh (frz1 k st) a w := by
  obtain ⟨L, μ, hC⟩ := h
  unfold frz1
  cases hT : st.T k with
  | none => exact ⟨L, μ, hC⟩
  | some r =>
    dsimp only
    by_cases hcl : closedEls [] r.els = true
    · rw [if_pos hcl]
      obtain ⟨q, hq, hrow, hnil⟩ := hC.tab.row k r hT
      have hL : ∀ b, b < w.heap.size → (L b ∧ ∀ p, q = some p → b ≠ p.g) → L b := fun b _ h => h.1
      have hLp : ∀ p, q = some p → ¬ (L p.g ∧ ∀ p', q = some p' → p.g ≠ p'.g) := fun p hp h => h.2 p hp rfl
      have hμ : ∀ id q', id ≠ k → μ id = some q' → (fun id => if id = k then none else μ id) id = some q' := fun id q' hne h => by
        show (if id = k then none else μ id) = _
        rw [if_neg hne]; exact h
      have rel : ∀ (x : AV) (v : Value), VRel w L μ v x → badV k r.els.length x = false → VRel w (fun b => L b ∧ ∀ p, q = some p → b ≠ p.g) (fun id => if id = k then none else μ id) v (frzV k r.els x) :=
        frzV_rel (L' := fun b => L b ∧ ∀ p, q = some p → b ≠ p.g) (μ' := fun id => if id = k then none else μ id) hrow hq hcl hL hLp hμ
      have tabAt : ∀ id r', frzT k r.els st.T id = some r' → id ≠ k ∧ ∃ r0, st.T id = some r0 ∧ r0.els.any (badVs k r.els.length) = false ∧ r' = ⟨r0.elem, r0.els.map (frzVs k r.els)⟩ := by
        intro id r' h
        unfold frzT at h
        split at h
        · cases h
        · rename_i hne
          obtain ⟨r0, h0, h⟩ := Option.bind_eq_some_iff.1 h
          unfold frzRow at h
          split at h
          · cases h
          · rename_i hb
            exact ⟨hne, r0, h0, by simpa using hb, (Option.some.inj h).symm⟩
      refine ⟨fun b => L b ∧ ∀ p, q = some p → b ≠ p.g, fun id => if id = k then none else μ id, hC.size, hC.defers, fun t ht => ?_, ⟨fun id r' hr => ?_, fun id id' r1 r2 p1 p2 h1 h2 hp1 hp2 hne => ?_⟩, fun id hid => ?_, hC.os, hC.tape, hC.output, hC.grown, hC.block, fun b hb => ?_, fun id r' p hr hp => ?_, fun id hid => by omega⟩
      · show VRel w _ _ _ (frzS k r.els st.s t)
        have ht : (frzS k r.els st.s t).isDead = false := ht
        unfold frzS at ht ⊢
        split at ht
        · simp [AV.dead, AV.isDead] at ht
        · rename_i hb
          rw [if_neg hb]
          refine rel _ _ (hC.slot t ?_) (by simpa using hb)
          cases hx : (st.s t).isDead with
          | false => rfl
          | true =>
            rw [isDead_eq hx] at ht
            simp [AV.dead, AV.isDead, frzV, frzVs] at ht
      · obtain ⟨hne, r0, h0, hb, rfl⟩ := tabAt id r' hr
        obtain ⟨q0, hq0, hrow0, hnil0⟩ := hC.tab.row id r0 h0
        refine ⟨q0, hμ id q0 hne hq0, fun p0 hp0 => ?_, fun hn => by simp [hnil0 hn]⟩
        have hr0 := hrow0 p0 hp0
        obtain ⟨cur, hg, hsz, hc⟩ := hr0.cur
        refine ⟨⟨cur, hg, hsz, fun i e j x he hx => ?_⟩, by simpa using hr0.len, fun e he => ?_, hr0.szT, hr0.cap, hr0.live, fun p hp => ?_⟩
        · simp only [List.getElem?_map, Option.map_eq_some_iff] at he
          obtain ⟨e0, he0, rfl⟩ := he
          obtain ⟨x0, hx0, rfl⟩ := frzVs_get hx
          obtain ⟨u, hu, h1, hv⟩ := hc i e0 j x0 he0 hx0
          have hbe : badVs k r.els.length e0 = false := by
            have := List.any_eq_false.1 hb e0 (List.mem_of_getElem? he0)
            simpa using this
          exact ⟨u, hu, h1, rel _ _ hv (badVs_mem hbe x0 (List.mem_of_getElem? hx0))⟩
        · obtain ⟨e0, he0, rfl⟩ := List.mem_map.1 he
          rw [frzVs_len]; exact hr0.sz e0 he0
        · subst hp0
          subst hp
          exact hC.tab.apart id k r0 r p0 p h0 hT hq0 hq hne
      · obtain ⟨hn1, r01, h01, _, rfl⟩ := tabAt id r1 h1
        obtain ⟨hn2, r02, h02, _, rfl⟩ := tabAt id' r2 h2
        have e1 : μ id = some (some p1) := by simpa [hn1] using hp1
        have e2 : μ id' = some (some p2) := by simpa [hn2] using hp2
        exact hC.tab.apart id id' r01 r02 p1 p2 h01 h02 e1 e2 hne
      · show (if id = k then none else μ id) = none
        split
        · rfl
        · exact hC.fresh id hid
      · rw [← hC.L b hb]
        refine ⟨fun h => h.1, fun h => ⟨h, fun p hp he => ?_⟩⟩
        subst hp
        rcases hC.place k r p hT hq with h1 | h1
        · omega
        · exact hold _ h1
      · obtain ⟨hne, r0, h0, _, rfl⟩ := tabAt id r' hr
        have e1 : μ id = some (some p) := by simpa [hne] using hp
        exact hC.place id r0 p h0 e1
    · rw [if_neg hcl]
      exact ⟨L, μ, hC⟩
theorem frzs_sound {S : Start} {fresh : Nat → Prop} {a : Act} {w : World} (hpm : S.pm = 0) (hold : ∀ b, ¬ S.old b) : ∀ (fz : List Nat) {st : St}, Rel P S fresh st a w → Rel P S fresh (frz fz st) a w
  | [], st, h => h
  | k :: fz, st, h => frzs_sound hpm hold fz (frz_sound hpm hold h k)

/-- What a region that draws its order must come to. -/
def DrawSound (P : Program) : Prop := ∀ (S : Start) (ops : Array Oper) (Q : Exit → Act → World → Prop) (K : St → Prop) (id : Nat) (st : St) (a : Act) (w : World), opsOk S.n ops → Rel P S (st.nx ≤ ·) st a w →
    ADraw P ops st K → (∀ st' a' w', K st' → Rel P S (st.nx + 8 * ops.size ≤ ·) st' a' w' → Q .normal a' w') → (Code.region id ops true).wp P Q a w

theorem opsOk_of {n : Nat} {id : Nat} {ops : Array Oper} {d : Bool} (h : dstsOk n (.region id ops d) = true) : opsOk n ops := by
  intro j o k hj hk
  simp only [dstsOk, Array.all_eq_true_iff_forall_mem] at h
  have := h o (Array.mem_of_getElem? hj)
  simp only [hk, decide_eq_true_eq] at this
  exact this

theorem AW_sound (hD : DrawSound P) {S : Start} (hold : S.pm = 0 → ∀ b, ¬ S.old b) : ∀ (c : Code) (st : St) (Q : Exit → St → Prop) (Q' : Exit → Act → World → Prop) (a : Act) (w : World), dstsOk S.n c = true → Rel P S (st.nx ≤ ·) st a w → AW P S.pm c st Q →
    (∀ e st' a' w', Q e st' → Rel P S (st'.nx ≤ ·) st' a' w' → Q' e a' w') → c.wp P Q' a w := by
  intro c
  induction c with
  | skip => intro st Q Q' a w hd hR h hQ; exact wp_skip (hQ _ _ _ _ h hR)
  | exit id => intro st Q Q' a w hd hR h hQ; exact wp_exit (hQ _ _ _ _ h hR)
  | ret => intro st Q Q' a w hd hR h hQ; exact wp_ret (hQ _ _ _ _ h hR)
  | region id ops draw =>
    intro st Q Q' a w hd hR h hQ
    cases draw with
    | true => exact hD S ops _ _ id st a w (opsOk_of hd) hR h fun st' a' w' hK hR' => hQ _ _ _ _ hK (by obtain ⟨L, μ, hC⟩ := hR'; exact ⟨L, μ, hC.1, hC.2, hC.3, hC.4, hC.5, hC.6, hC.7, hC.8, hC.9, hC.10, hC.11, hC.12, hC.13⟩)
    | false => exact region_sound (opsOk_of hd) hR h fun st' a' w' hK hR' => hQ _ _ _ _ hK (by obtain ⟨L, μ, hC⟩ := hR'; exact ⟨L, μ, hC.1, hC.2, hC.3, hC.4, hC.5, hC.6, hC.7, hC.8, hC.9, hC.10, hC.11, hC.12, hC.13⟩)
  | seq x y ihx ihy =>
    intro st Q Q' a w hd hR h hQ
    simp only [dstsOk, Bool.and_eq_true] at hd
    refine wp_seq (ihx st _ _ a w hd.1 hR h fun e st' a' w' hq hR' => ?_)
    cases e with
    | normal => exact ihy st' Q Q' a' w' hd.2 hR' hq hQ
    | _ => exact hQ _ _ _ _ hq hR'
  | cond c x y ihx ihy =>
    intro st Q Q' a w hd hR h hQ
    simp only [dstsOk, Bool.and_eq_true] at hd
    simp only [AW] at h
    split at h
    · rename_i t hc
      obtain ⟨L, μ, hC⟩ := id hR
      have he : a.eval c = .bool t := flat_eq (hC.op c _ hc)
      refine wp_cond he ?_
      cases t with
      | true => exact ihx st Q Q' a w hd.1 hR (by simpa using h) hQ
      | false => exact ihy st Q Q' a w hd.2 hR (by simpa using h) hQ
    · exact h.elim
  | block id c ih =>
    intro st Q Q' a w hd hR h hQ
    refine wp_block (ih st _ _ a w hd hR h fun e st' a' w' hq hR' => ?_)
    cases e with
    | exit i =>
      simp only [Exit.inBlock]
      by_cases hi : i = id
      · simp only [hi, if_true] at hq ⊢; exact hQ _ _ _ _ hq hR'
      · simp only [hi, if_false] at hq ⊢; exact hQ _ _ _ _ hq hR'
    | _ => exact hQ _ _ _ _ hq hR'
  | loop c ih =>
    intro st Q Q' a w hd hR h hQ
    obtain ⟨nz, fz, ks, live, k, n, hco, h⟩ := h
    have fzs : ∀ {fresh : Nat → Prop} {fz ks : List Nat} {st : St} {a : Act} {w : World}, cutOk S.pm fz ks → Rel P S fresh st a w → Rel P S fresh (frz fz st) a w := by
      intro fresh fz ks st a w hco hR
      rcases hco.2.2 with h0 | rfl
      · exact frzs_sound h0 (hold h0) fz hR
      · exact hR
    have key : ∀ (n : Nat) (st : St) (a : Act) (w : World), Rel P S (st.nx ≤ ·) st a w → ALoop S.pm (AW P S.pm c) Q n st → Code.rounds P c Q' n a w := by
      intro n
      induction n with
      | zero => intro st a w _ h; exact h.elim
      | succ n ihn =>
        intro st a w hR h
        rw [rounds_succ]
        refine ih st _ _ a w hd hR h fun e st' a' w' hq hR' => ?_
        cases e with
        | normal =>
          obtain ⟨nz, fz, ks, live, k, hco, hq⟩ := hq
          exact ihn _ a' w' (cut_sound (fzs hco (nils_sound nz hR')) ks live k hco.1 hco.2.1) hq
        | _ => exact hQ _ _ _ _ hq hR'
    exact wp_loop_rounds n (key n _ a w (cut_sound (fzs hco (nils_sound nz hR)) ks live k hco.1 hco.2.1) h)
  | _ => intro st Q Q' a w hd hR h hQ; exact h.elim
end Go.Proofs.Ytnceadbfgpiaaaa.G
/- A function is called: its body told by the abstract machine gives its contract; the rows that it hands back have new names. Plain theorems over any program. -/
namespace Go.Proofs.Ytnceadbfgpiaaaa.G
set_option linter.unusedVariables false
set_option linter.unusedSimpArgs false
open Go
variable {P : Program}

def resV (P : Program) (st : St) : List ResultVar → Option (List AV)
  | [] => some []
  | .tmp t :: l => (st.op (.tmp t)).bind fun x => (resV P st l).map (x :: ·)
  | .cell a t :: l => (st.op (.tmp a)).bind fun b => (evLoad P st.T t b).bind fun x => (resV P st l).map (x :: ·)
def oneOf : List AV → AV
  | [x] => x
  | l => .tup l
def resA (P : Program) (fn : Func) (st : St) : Option AV := (resV P st fn.results.toList).map oneOf

theorem resV_sound {S : Start} {fresh : Nat → Prop} {st : St} {a : Act} {w : World} {L : Nat → Prop} {μ : Map} (h : Core P S fresh st a w L μ) : ∀ {l : List ResultVar} {xs : List AV}, resV P st l = some xs →
    ∃ us : List Value, (l.mapM (fun | .tmp t => (pure (a.tmps.getD t undef) : Sem Value) | .cell b t => do loadVar t (← asAddr (a.tmps.getD b undef))) : Sem (List Value)).run P w = .ok us w ∧ us.length = xs.length ∧ ∀ i x, xs[i]? = some x → VRel w L μ (us.toArray.getD i undef) x := by
  intro l
  induction l with
  | nil => intro xs hx; simp only [resV, Option.some.injEq] at hx; subst hx; exact ⟨[], rfl, rfl, fun i x h => by simp at h⟩
  | cons r l ih =>
    intro xs hx
    have fin : ∀ {u : Value} {y : AV} {ys : List AV} {us : List Value} {m : Sem Value}, m.run P w = .ok u w → VRel w L μ u y → (l.mapM (fun | .tmp t => (pure (a.tmps.getD t undef) : Sem Value) | .cell b t => do loadVar t (← asAddr (a.tmps.getD b undef))) : Sem (List Value)).run P w = .ok us w →
        us.length = ys.length → (∀ i x, ys[i]? = some x → VRel w L μ (us.toArray.getD i undef) x) → (do let v ← m; let vs ← (l.mapM (fun | .tmp t => (pure (a.tmps.getD t undef) : Sem Value) | .cell b t => do loadVar t (← asAddr (a.tmps.getD b undef))) : Sem (List Value)); pure (v :: vs) : Sem (List Value)).run P w = .ok (u :: us) w ∧
          (u :: us).length = (y :: ys).length ∧ ∀ i x, (y :: ys)[i]? = some x → VRel w L μ ((u :: us).toArray.getD i undef) x := by
      intro u y ys us m hm hu hr hl hh
      refine ⟨?_, by simp [hl], fun i x hx => ?_⟩
      · rw [run_bind _ _ hm, run_bind _ _ hr]; rfl
      · cases i with
        | zero => simp at hx; subst hx; simpa [Array.getD] using hu
        | succ i => have := hh i x (by simpa using hx); simpa [Array.getD_eq_getD_getElem?] using this
    cases r with
    | tmp t =>
      simp only [resV] at hx
      obtain ⟨x0, hx0, hx⟩ := Option.bind_eq_some_iff.1 hx
      obtain ⟨ys, hys, rfl⟩ := Option.map_eq_some_iff.1 hx
      obtain ⟨us, hr, hl, hh⟩ := ih hys
      refine ⟨a.tmps.getD t undef :: us, ?_⟩
      rw [List.mapM_cons]
      exact fin (u := a.tmps.getD t undef) (by rfl) (h.op (.tmp t) x0 hx0) hr hl hh
    | cell b t =>
      simp only [resV] at hx
      obtain ⟨b0, hb0, hx⟩ := Option.bind_eq_some_iff.1 hx
      obtain ⟨y, hy, hx⟩ := Option.bind_eq_some_iff.1 hx
      obtain ⟨ys, hys, rfl⟩ := Option.map_eq_some_iff.1 hx
      obtain ⟨us, hr, hl, hh⟩ := ih hys
      unfold evLoad at hy
      obtain ⟨cs, hcs, hy⟩ := Option.bind_eq_some_iff.1 hy
      obtain ⟨ad, ha, hc⟩ := cellsAt_sound h.tab (h.op (.tmp b) b0 hb0) hcs
      obtain ⟨u, hru, hu⟩ := ofCells_sound hc hy
      refine ⟨u :: us, ?_⟩
      rw [List.mapM_cons]
      refine fin ?_ hu hr hl hh
      show (do loadVar t (← asAddr (a.tmps.getD b undef)) : Sem Value).run P w = .ok u w
      have ha' : a.tmps.getD b undef = .pointer (some ad) := ha
      rw [ha']
      exact (run_bind _ _ (by rfl : (asAddr (.pointer (some ad))).run P w = .ok ad w)).trans hru

theorem resA_sound {S : Start} {fresh : Nat → Prop} {st : St} {a : Act} {w : World} {L : Nat → Prop} {μ : Map} (h : Core P S fresh st a w L μ) {fn : Func} {x : AV} (hx : resA P fn st = some x) : ∃ v, (results fn a.tmps).run P w = .ok v w ∧ VRel w L μ v x := by
  obtain ⟨xs, hxs, rfl⟩ := Option.map_eq_some_iff.1 hx
  obtain ⟨us, hr, hl, hh⟩ := resV_sound h hxs
  have e : results fn a.tmps = (do let vs ← (List.toArray <$> (fn.results.toList.mapM (fun | .tmp t => (pure (a.tmps.getD t undef) : Sem Value) | .cell b t => do loadVar t (← asAddr (a.tmps.getD b undef))) : Sem (List Value)) : Sem (Array Value)); pure (if h : vs.size = 1 then vs[0] else .tuple vs)) := by
    unfold results
    rw [Array.mapM_eq_mapM_toList]
    rfl
  rw [e, map_eq_pure_bind]
  refine ⟨if h : us.toArray.size = 1 then us.toArray[0] else .tuple us.toArray, ?_, ?_⟩
  · rw [run_bind _ _ (run_bind _ _ hr)]
    rfl
  · match xs, us, hl, hh with
    | [], [], _, hh => exact .tup rfl fun i x h => by simp at h
    | [x], [u], _, hh =>
      have := hh 0 x rfl
      simpa [Array.getD, oneOf] using this
    | x :: y :: xs, u :: z :: us, hl, hh =>
      rw [dif_neg (by simp)]
      exact .tup (by simpa using hl) hh

/-- What a body leaves: its results, and of its rows those that the results lead to, under new names. -/
def LeavesC (P : Program) (fn : Func) (val : Nat → AV) (rows : Nat → List Row) (st : St) : Prop :=
  ∃ (ks : List Nat) (x : AV) (rs : List Row), resA P fn st = some x ∧ ks.Nodup ∧ ks.length ≤ 8 ∧ closedIn ks x = true ∧ ks.map st.T = rs.map some ∧ (∀ r ∈ rs, ∀ e ∈ r.els, closedAll ks e = true) ∧
    ∀ n, ren (newName ks n) x = val n ∧ rs.map (renRow (newName ks n)) = rows n

/-- .. behind some steps that change nothing in memory. -/
def Leaves (P : Program) (fn : Func) (val : Nat → AV) (rows : Nat → List Row) (st : St) : Prop := ∃ nz fz, LeavesC P fn val rows (frz fz (nils nz st))
/-- What a body leaves that was handed rows of the caller's. -/
def PLeaves (P : Program) (fn : Func) (m : Nat) (val : AV) (R1 : List (Option Row)) (st : St) : Prop :=
  ∃ nz ks x, resA P fn (nils nz st) = some x ∧ cutOk m [] ks ∧ ks.length ≤ m + 8 ∧ closedIn ks x = true ∧ ren (newName ks 0) x = val ∧ cutRows ks (nils nz st).T ks = R1
def stP (args : List AV) (R0 : List Row) : St := ⟨fun t => (args[t]?).getD (.flat undef), tabO (R0.map some), R0.length⟩

def st0 (args : List AV) : St := ⟨fun t => (args[t]?).getD (.flat undef), fun _ => none, 0⟩
def endOk : Exit → Prop
  | .normal | .ret => True
  | _ => False

theorem LeavesC.cut {S : Start} {fn : Func} {val : Nat → AV} {rows : Nat → List Row} {fresh : Nat → Prop} {st : St} {a : Act} {w : World} {L : Nat → Prop} {μ : Map} (hC : Core P S fresh st a w L μ) (h : LeavesC P fn val rows st) (n : Nat) :
    ∃ v μ', (results fn a.tmps).run P w = .ok v w ∧ VRel w L μ' v (val n) ∧ TRel P w L μ' (tabAt n (rows n)) ∧ (∀ id q, μ' id = some q → n ≤ id ∧ id < n + 8) ∧
      ∀ id r p, tabAt n (rows n) id = some r → μ' id = some (some p) → S.w0.heap.size ≤ p.g ∨ S.old p.g := by
  obtain ⟨ks, x, rs, hx, hnd, h8, hcl, hrs, hcr, hn⟩ := h
  obtain ⟨v, hr, hv⟩ := resA_sound hC hx
  obtain ⟨h1, h2⟩ := hn n
  have hlen : ks.length = rs.length := by simpa using congrArg List.length hrs
  have hT : ∀ id r, tabAt n (rows n) id = some r → n ≤ id ∧ ∃ k r0, ks[id - n]? = some k ∧ st.T k = some r0 ∧ r = renRow (newName ks n) r0 ∧ ∀ e ∈ r0.els, closedAll ks e = true := by
    intro id r h
    unfold tabAt at h
    split at h
    · rename_i hle
      refine ⟨hle, ?_⟩
      rw [← h2, List.getElem?_map] at h
      obtain ⟨r0, hr0, rfl⟩ := Option.map_eq_some_iff.1 h
      have hlt : id - n < ks.length := by rw [hlen]; exact (List.getElem?_eq_some_iff.1 hr0).1
      have := congrArg (·[id - n]?) hrs
      simp only [List.getElem?_map, hr0, List.getElem?_eq_getElem hlt, Option.map_some, Option.some.injEq] at this
      exact ⟨_, r0, List.getElem?_eq_getElem hlt, this, rfl, hcr r0 (List.mem_of_getElem? hr0)⟩
    · cases h
  refine ⟨v, renMap μ ks n, hr, h1 ▸ ren_rel hv hcl, ⟨fun id r h => ?_, fun id id' r r' p p' h h' hp hp' hne => ?_⟩, fun id q hq => ?_, fun id r p h hp => ?_⟩
  · obtain ⟨hle, k, r0, hk, hT0, rfl, hc0⟩ := hT id r h
    obtain ⟨q, hq, hrow, hnil⟩ := hC.tab.row k r0 hT0
    exact ⟨q, (hmapR hle hk).trans hq, fun p hp => row_ren (hrow p hp) hc0, fun hq => by simp [renRow, hnil hq]⟩
  · obtain ⟨hle, k, r0, hk, hT0, rfl, _⟩ := hT id r h
    obtain ⟨hle', k', r0', hk', hT0', rfl, _⟩ := hT id' r' h'
    rw [hmapR hle hk] at hp
    rw [hmapR hle' hk'] at hp'
    refine hC.tab.apart k k' r0 r0' p p' hT0 hT0' hp hp' fun e => ?_
    subst e
    obtain ⟨l1, e1⟩ := List.getElem?_eq_some_iff.1 hk
    obtain ⟨l2, e2⟩ := List.getElem?_eq_some_iff.1 hk'
    have := nodup_inj hnd l1 l2 (e1.trans e2.symm)
    omega
  · unfold renMap at hq
    split at hq
    · omega
    · cases hq
  · obtain ⟨hle, k, r0, hk, hT0, rfl, _⟩ := hT id r h
    rw [hmapR hle hk] at hp
    exact hC.place k r0 p hT0 hp

theorem acalls_of' (hD : DrawSound P) {f : FuncId} {fn : Func} {c : Code} {args : List AV} {val : Nat → AV} {rows : Nat → List Row} (hf : P.funcs[f]? = some fn) (hb : fn.body = some c) (hname : (fn.name == "runtime.NumGoroutine") = false)
    (hn : args.length ≤ fn.ntmps) (hd : dstsOk fn.ntmps c = true) (h : AW P 0 c (st0 args) fun e st => endOk e ∧ Leaves P fn val rows st) : ACalls P f args val rows := by
  refine ⟨⟨fn, hf, hname, by rw [hb]; rfl⟩, fun n w L vs hs hvs => ?_⟩
  refine calls_of_wp hf hb ?_
  have hsz : (vs ++ Array.replicate (fn.ntmps - vs.size) undef).size = fn.ntmps := by simp; omega
  have hC : Core P ⟨w, L, fun _ => False, fn.ntmps, 0, fun _ => none⟩ (fun id => 0 ≤ id) (st0 args) { tmps := vs ++ Array.replicate (fn.ntmps - vs.size) undef, defers := [] } w L Map.empty := by
    refine ⟨hsz, rfl, fun t _ => ?_, ⟨fun id r h => (by cases h), fun id id' r r' p p' h => (by cases h)⟩, fun _ _ => rfl, rfl, rfl, rfl, Nat.le_refl _, fun _ _ _ => rfl, fun _ _ => Iff.rfl, fun id r p h => (by cases h), fun id h => absurd h (Nat.not_lt_zero _)⟩
    show VRel w L Map.empty ((vs ++ Array.replicate (fn.ntmps - vs.size) undef).getD t undef) ((args[t]?).getD (.flat undef))
    by_cases ht : t < vs.size
    · have e1 : (vs ++ Array.replicate (fn.ntmps - vs.size) undef).getD t undef = vs.getD t undef := by simp [Array.getD_eq_getD_getElem?, Array.getElem?_append, ht]
      rw [e1]
      have hlt : t < args.length := by omega
      rw [List.getElem?_eq_getElem hlt]
      exact hvs t _ (List.getElem?_eq_getElem hlt)
    · have e1 : (vs ++ Array.replicate (fn.ntmps - vs.size) undef).getD t undef = undef := by
        simp only [Array.getD_eq_getD_getElem?, Array.getElem?_append, ht, if_false, Array.getElem?_replicate]
        split <;> rfl
      rw [e1, List.getElem?_eq_none (by omega)]
      exact .flat _ rfl
  refine AW_sound hD (fun _ _ h => h) c (st0 args) _ _ _ w hd ⟨L, Map.empty, hC⟩ h fun e st a w' he hR => ?_
  obtain ⟨hend, nz, fz, hl⟩ := he
  obtain ⟨L', μ, hC'⟩ := frzs_sound rfl (fun _ h => h) fz (nils_sound nz hR)
  obtain ⟨v, μ', hr, hv, hT, hid, hp⟩ := hl.cut hC' n
  have fin : a.defers = [] ∧ ∃ v, (results fn a.tmps).run P w' = .ok v w' ∧ ∃ v_1 L' μ', Ending.returned v = .returned v_1 ∧ VRel w' L' μ' v_1 (val n) ∧ TRel P w' L' μ' (tabAt n (rows n)) ∧ (∀ id q, μ' id = some q → n ≤ id ∧ id < n + 8) ∧
      w'.os = w.os ∧ w'.tape = w.tape ∧ w'.output = w.output ∧ w.heap.size ≤ w'.heap.size ∧ (∀ b, b < w.heap.size → w'.heap[b]? = w.heap[b]?) ∧ (∀ b, b < w.heap.size → (L' b ↔ L b)) ∧
      (∀ id r p, tabAt n (rows n) id = some r → μ' id = some (some p) → w.heap.size ≤ p.g) :=
    ⟨hC'.defers, v, hr, v, L', μ', rfl, hv, hT, hid, hC'.os, hC'.tape, hC'.output, hC'.grown, fun b hb => hC'.block b hb (fun h => h), hC'.L, fun id r p h hp' => (hp id r p h hp').elim (fun h => h) (fun h => h.elim)⟩
  cases e with
  | normal => exact fin
  | ret => exact fin
  | _ => exact hend.elim

/-- .. of a contract that tells a result by a property. -/
theorem ncalls_of' (hD : DrawSound P) {f : FuncId} {fn : Func} {c : Code} {args : List AV} {R : (Nat → AV) → (Nat → List Row) → Prop} (hf : P.funcs[f]? = some fn) (hb : fn.body = some c) (hname : (fn.name == "runtime.NumGoroutine") = false)
    (hn : args.length ≤ fn.ntmps) (hd : dstsOk fn.ntmps c = true) (h : AW P 0 c (st0 args) fun e st => endOk e ∧ ∃ val rows, R val rows ∧ Leaves P fn val rows st) : NCalls P f args R := by
  refine ⟨⟨fn, hf, hname, by rw [hb]; rfl⟩, fun n w L vs hs hvs => ?_⟩
  refine calls_of_wp hf hb ?_
  have hsz : (vs ++ Array.replicate (fn.ntmps - vs.size) undef).size = fn.ntmps := by simp; omega
  have hC : Core P ⟨w, L, fun _ => False, fn.ntmps, 0, fun _ => none⟩ (fun id => 0 ≤ id) (st0 args) { tmps := vs ++ Array.replicate (fn.ntmps - vs.size) undef, defers := [] } w L Map.empty := by
    refine ⟨hsz, rfl, fun t _ => ?_, ⟨fun id r h => (by cases h), fun id id' r r' p p' h => (by cases h)⟩, fun _ _ => rfl, rfl, rfl, rfl, Nat.le_refl _, fun _ _ _ => rfl, fun _ _ => Iff.rfl, fun id r p h => (by cases h), fun id h => absurd h (Nat.not_lt_zero _)⟩
    show VRel w L Map.empty ((vs ++ Array.replicate (fn.ntmps - vs.size) undef).getD t undef) ((args[t]?).getD (.flat undef))
    by_cases ht : t < vs.size
    · have e1 : (vs ++ Array.replicate (fn.ntmps - vs.size) undef).getD t undef = vs.getD t undef := by simp [Array.getD_eq_getD_getElem?, Array.getElem?_append, ht]
      rw [e1]
      have hlt : t < args.length := by omega
      rw [List.getElem?_eq_getElem hlt]
      exact hvs t _ (List.getElem?_eq_getElem hlt)
    · have e1 : (vs ++ Array.replicate (fn.ntmps - vs.size) undef).getD t undef = undef := by
        simp only [Array.getD_eq_getD_getElem?, Array.getElem?_append, ht, if_false, Array.getElem?_replicate]
        split <;> rfl
      rw [e1, List.getElem?_eq_none (by omega)]
      exact .flat _ rfl
  refine AW_sound hD (fun _ _ h => h) c (st0 args) _ _ _ w hd ⟨L, Map.empty, hC⟩ h fun e st a w' he hR => ?_
  obtain ⟨hend, val, rows, hRv, nz, fz, hl⟩ := he
  obtain ⟨L', μ, hC'⟩ := frzs_sound rfl (fun _ h => h) fz (nils_sound nz hR)
  obtain ⟨v, μ', hr, hv, hT, hid, hp⟩ := hl.cut hC' n
  have fin : a.defers = [] ∧ ∃ v, (results fn a.tmps).run P w' = .ok v w' ∧ ∃ val rows, R val rows ∧ ∃ v_1 L' μ', Ending.returned v = .returned v_1 ∧ VRel w' L' μ' v_1 (val n) ∧ TRel P w' L' μ' (tabAt n (rows n)) ∧ (∀ id q, μ' id = some q → n ≤ id ∧ id < n + 8) ∧
      w'.os = w.os ∧ w'.tape = w.tape ∧ w'.output = w.output ∧ w.heap.size ≤ w'.heap.size ∧ (∀ b, b < w.heap.size → w'.heap[b]? = w.heap[b]?) ∧ (∀ b, b < w.heap.size → (L' b ↔ L b)) ∧
      (∀ id r p, tabAt n (rows n) id = some r → μ' id = some (some p) → w.heap.size ≤ p.g) :=
    ⟨hC'.defers, v, hr, val, rows, hRv, v, L', μ', rfl, hv, hT, hid, hC'.os, hC'.tape, hC'.output, hC'.grown, fun b hb => hC'.block b hb (fun h => h), hC'.L, fun id r p h hp' => (hp id r p h hp').elim (fun h => h) (fun h => h.elim)⟩
  cases e with
  | normal => exact fin
  | ret => exact fin
  | _ => exact hend.elim

theorem pcalls_of' (hD : DrawSound P) {f : FuncId} {fn : Func} {c : Code} {args : List AV} {R0 : List Row} {val : AV} {R1 : List (Option Row)} {m : Nat} (hm0 : 0 < m) (hml : m ≤ R0.length) (hf : P.funcs[f]? = some fn) (hb : fn.body = some c) (hname : (fn.name == "runtime.NumGoroutine") = false)
    (hn : args.length ≤ fn.ntmps) (hd : dstsOk fn.ntmps c = true) (h : AW P m c (stP args R0) fun e st => endOk e ∧ PLeaves P fn m val R1 st) : PCalls P f m args R0 val R1 := by
  refine ⟨⟨fn, hf, hname, by rw [hb]; rfl⟩, fun w L μ vs hs hvs hT hno => ?_⟩
  refine calls_of_wp hf hb ?_
  have hrow : ∀ id, id < R0.length → ∃ q, μ id = some q := fun id hid => by
    obtain ⟨q, hq, _⟩ := hT.row id R0[id] (by simp [tabO, List.getElem?_eq_getElem hid])
    exact ⟨q, hq⟩
  have hlt : ∀ id r, tabO (R0.map some) id = some r → id < R0.length := fun id r hr => by
    apply Nat.lt_of_not_le
    intro h
    unfold tabO at hr
    rw [List.getElem?_eq_none (by simpa using h)] at hr
    cases hr
  have hsz : (vs ++ Array.replicate (fn.ntmps - vs.size) undef).size = fn.ntmps := by simp; omega
  have hC : Core P ⟨w, L, fun b => ∃ id r p, tabO (R0.map some) id = some r ∧ μ id = some (some p) ∧ p.g = b, fn.ntmps, m, fun id => (μ id).getD none⟩ ((stP args R0).nx ≤ ·) (stP args R0) { tmps := vs ++ Array.replicate (fn.ntmps - vs.size) undef, defers := [] } w L μ := by
    refine ⟨hsz, rfl, fun t _ => ?_, hT, hno, rfl, rfl, rfl, Nat.le_refl _, fun _ _ _ => rfl, fun _ _ => Iff.rfl, fun id r p h hp => .inr ⟨id, r, p, h, hp, rfl⟩, fun id h => ?_⟩
    · show VRel w L μ ((vs ++ Array.replicate (fn.ntmps - vs.size) undef).getD t undef) ((args[t]?).getD (.flat undef))
      by_cases ht : t < vs.size
      · have e1 : (vs ++ Array.replicate (fn.ntmps - vs.size) undef).getD t undef = vs.getD t undef := by simp [Array.getD_eq_getD_getElem?, Array.getElem?_append, ht]
        rw [e1]
        have hlt : t < args.length := by omega
        rw [List.getElem?_eq_getElem hlt]
        exact hvs t _ (List.getElem?_eq_getElem hlt)
      · have e1 : (vs ++ Array.replicate (fn.ntmps - vs.size) undef).getD t undef = undef := by
          simp only [Array.getD_eq_getD_getElem?, Array.getElem?_append, ht, if_false, Array.getElem?_replicate]
          split <;> rfl
        rw [e1, List.getElem?_eq_none (by omega)]
        exact .flat _ rfl
    · obtain ⟨q, hq⟩ := hrow id (Nat.lt_of_lt_of_le h hml)
      show μ id = some ((μ id).getD none)
      rw [hq]; rfl
  refine AW_sound hD (fun h0 b hb => ?_) c (stP args R0) _ _ _ w hd ⟨L, μ, hC⟩ h fun e st a w' he hR => ?_
  · exact absurd h0 (Nat.ne_of_gt hm0)
  obtain ⟨hend, nz, ks, x, hx, hco, h8, hcl, hval, hR1⟩ := he
  obtain ⟨L', μ1, hC1⟩ := nils_sound nz hR
  obtain ⟨v, hr, hv⟩ := resA_sound hC1 hx
  have hC2 := cut_core hC1 ks [] 0 hco.1 hco.2.1
  have hv2 := ren_rel (n := 0) hv hcl
  rw [hval] at hv2
  have hT2 : (cut ks [] 0 (nils nz st)).T = tabO R1 := by rw [← hR1]; rfl
  have fin : a.defers = [] ∧ ∃ v, (results fn a.tmps).run P w' = .ok v w' ∧ ∃ v_1 L' μ', Ending.returned v = .returned v_1 ∧ VRel w' L' μ' v_1 val ∧ TRel P w' L' μ' (tabO R1) ∧ PExt w L μ (tabO (R0.map some)) m w' L' μ' (tabO R1) ∧ ∀ id, m + 8 ≤ id → μ' id = none := by
    refine ⟨hC1.defers, v, hr, v, L', renMap μ1 ks 0, rfl, hv2, hT2 ▸ hC2.tab, ⟨hC2.os, hC2.tape, hC2.output, hC2.grown, fun b hb hn => hC2.block b hb ?_, hC2.L, fun id q hid hq => ?_, fun id r p hr hp => ?_⟩, fun id hid => hC2.fresh id (by show ks.length ≤ id; omega)⟩
    · rintro ⟨id, r, p, h1, h2, h3⟩
      exact hn id r p h1 h2 h3
    · have := hC2.pinned id hid
      rw [this]
      show some ((μ id).getD none) = some q
      rw [hq]; rfl
    · rcases hC2.place id r p (by rw [hT2]; exact hr) hp with h | ⟨id0, r0, p0, h1, h2, h3⟩
      · exact .inl h
      · exact .inr ⟨id0, r0, p0, h1, h2, h3⟩
  cases e with
  | normal => exact fin
  | ret => exact fin
  | _ => exact hend.elim
end Go.Proofs.Ytnceadbfgpiaaaa.G
