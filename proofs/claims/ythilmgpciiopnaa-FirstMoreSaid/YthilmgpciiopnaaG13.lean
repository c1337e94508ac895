/- That the machine's own run does what the abstract machine tells: one operation, regions in the text's order, code. Plain theorems over any program. -/
import Derived.Test.YthilmgpciiopnaaG12
import Derived.LoopN
namespace Go.Proofs.Ythilmgpciiopnaa.G
set_option linter.unusedVariables false
set_option linter.unusedSimpArgs false
open Go
variable {P : Program}

/-- What the run started from: the world, what may change there, the frame's size. -/
structure Start where
  w0 : World
  L0 : Nat → Prop
  old : Nat → Prop
  n : Nat

/-- The run stands where the abstract machine stands. -/
structure Core (P : Program) (S : Start) (fresh : Nat → Prop) (st : St) (a : Act) (w : World) (L : Nat → Prop) (μ : Map) : Prop where
  size : a.tmps.size = S.n
  defers : a.defers = []
  slot : ∀ t, (st.s t).isDead = false → VRel w L μ (a.tmps.getD t undef) (st.s t)
  tab : TRel P w L μ st.T
  fresh : ∀ id, fresh id → μ id = none
  os : w.os = S.w0.os
  tape : w.tape = S.w0.tape
  output : w.output = S.w0.output
  grown : S.w0.heap.size ≤ w.heap.size
  block : ∀ b, b < S.w0.heap.size → ¬ S.old b → w.heap[b]? = S.w0.heap[b]?
  L : ∀ b, b < S.w0.heap.size → (L b ↔ S.L0 b)
  place : ∀ id r p, st.T id = some r → μ id = some (some p) → S.w0.heap.size ≤ p.g ∨ S.old p.g

def Rel (P : Program) (S : Start) (fresh : Nat → Prop) (st : St) (a : Act) (w : World) : Prop := ∃ L μ, Core P S fresh st a w L μ

theorem Core.op {S : Start} {fresh : Nat → Prop} {st : St} {a : Act} {w : World} {L : Nat → Prop} {μ : Map} (h : Core P S fresh st a w L μ) (x : Operand) (y : AV) (hx : st.op x = some y) : VRel w L μ (a.eval x) y := by
  cases x with
  | tmp t =>
    simp only [St.op] at hx
    split at hx
    · cases hx
    · rename_i hd
      obtain rfl := Option.some.inj hx
      exact h.slot t (by simpa using hd)
  | const v =>
    simp only [St.op] at hx
    split at hx
    · rename_i hv; obtain rfl := Option.some.inj hx; exact .flat v hv
    · cases hx
  | global g => cases hx
  | func f => simp only [St.op, Option.some.injEq] at hx; subst hx; exact .flat _ rfl

theorem put_getD (a : Act) (d : Option Tmp) (v : Value) (hd : ∀ k, d = some k → k < a.tmps.size) (t : Nat) : (a.put d v).tmps.getD t undef = if d = some t then v else a.tmps.getD t undef := by
  cases d with
  | none => simp [Act.put]
  | some k =>
    have hk := hd k rfl
    simp only [Act.put, Option.some.injEq, Array.getD_eq_getD_getElem?, Array.getElem?_setIfInBounds]
    by_cases e : k = t
    · subst e; simp [hk]
    · simp [e]
theorem put_size (a : Act) (d : Option Tmp) (v : Value) : (a.put d v).tmps.size = a.tmps.size := by cases d <;> simp [Act.put]
theorem put_defers (a : Act) (d : Option Tmp) (v : Value) : (a.put d v).defers = a.defers := by cases d <;> simp [Act.put]
theorem St.put_s (st : St) (d : Option Tmp) (v : AV) (t : Nat) : (st.put d v).s t = if d = some t then v else st.s t := by
  cases d with
  | none => simp [St.put]
  | some k =>
    simp only [St.put, upd, Option.some.injEq]
    by_cases e : t = k
    · subst e; simp
    · rw [if_neg e, if_neg (fun h => e h.symm)]
theorem St.put_T (st : St) (d : Option Tmp) (v : AV) : (st.put d v).T = st.T := by cases d <;> rfl
theorem St.put_nx (st : St) (d : Option Tmp) (v : AV) : (st.put d v).nx = st.nx := by cases d <;> rfl

/-- A step that keeps to its rows. -/
theorem Core.step {S : Start} {fresh fresh' : Nat → Prop} {st : St} {a : Act} {w w' : World} {L L' : Nat → Prop} {μ μ' : Map} {T' : Table} (h : Core P S fresh st a w L μ) {d : Option Tmp} (hd : ∀ k, d = some k → k < S.n)
    {v : Value} {x : AV} (he : Ext w L μ st.T w' L' μ' T') (hT' : TRel P w' L' μ' T') (hv : VRel w' L' μ' v x) (hf : ∀ id, fresh' id → μ' id = none) :
    Core P S fresh' { st.put d x with T := T' } (a.put d v) w' L' μ' := by
  refine ⟨(put_size _ _ _).trans h.size, (put_defers _ _ _).trans h.defers, fun t ht => ?_, hT', hf, he.os.trans h.os, he.tape.trans h.tape, he.output.trans h.output, Nat.le_trans h.grown he.size, fun b hb ho => ?_, fun b hb => (he.L b (Nat.lt_of_lt_of_le hb h.grown)).trans (h.L b hb), fun id r p hr hp => ?_⟩
  · have ht' : ((st.put d x).s t).isDead = false := ht
    show VRel w' L' μ' _ ((st.put d x).s t)
    rw [St.put_s] at ht'
    rw [put_getD a d v (fun k hk => by rw [h.size]; exact hd k hk), St.put_s]
    split
    · exact hv
    · rename_i hne
      rw [if_neg hne] at ht'
      exact he.vrel h.tab (h.slot t ht')
  · refine (he.block b (Nat.lt_of_lt_of_le hb h.grown) fun id r p hr hp e => ?_).trans (h.block b hb ho)
    rcases h.place id r p hr hp with hge | hge
    · omega
    · exact ho (e ▸ hge)
  · rcases he.place id r p hr hp with hge | ⟨id0, r0, p0, h0, h1, h2⟩
    · exact .inl (Nat.le_trans h.grown hge)
    · rw [← h2]; exact h.place id0 r0 p0 h0 h1

theorem wanted_sound {S : Start} {fresh : Nat → Prop} {st : St} {a : Act} {w : World} {L : Nat → Prop} {μ : Map} (h : Core P S fresh st a w L μ) {ops : Array Oper} {o : Oper} {b : Bool} (hw : wantedA st ops o = some b)
    (hd : ∀ (j : Nat) (o : Oper) (d : Tmp), ops[j]? = some o → o.dst = some d → d < S.n) : Region.wanted o (yielded ops a.tmps) = b := by
  unfold wantedA at hw
  unfold Region.wanted
  split at hw
  · rename_i hg; obtain rfl := Option.some.inj hw; simp [hg]
  · rename_i j want hg
    simp only [hg]
    cases ho : (ops[j]?).bind (·.dst) with
    | none => simp only [ho] at hw; cases hw
    | some d =>
      simp only [ho] at hw
      obtain ⟨oj, hoj, hdj⟩ := Option.bind_eq_some_iff.1 ho
      have hlt : d < a.tmps.size := by rw [h.size]; exact hd j oj d hoj hdj
      have hg' : a.tmps.getD d undef = a.tmps[d] := by simp [Array.getD, hlt]
      unfold yielded
      simp only [ho, Option.bind_some, Array.getElem?_eq_getElem hlt]
      split at hw
      · rename_i b' hb'
        have hs := h.slot d (by rw [hb']; rfl)
        rw [hg', hb'] at hs
        generalize a.tmps[d] = u at hs
        have := flat_eq hs
        subst this
        simp only [Option.some.injEq] at hw
        subst hw
        cases b' <;> cases want <;> rfl
      · rename_i b' hb'
        have hs := h.slot d (by rw [hb']; rfl)
        rw [hg', hb'] at hs
        generalize a.tmps[d] = u at hs
        have := flat_eq hs
        subst this
        simp only [Option.some.injEq] at hw
        subst hw
        rfl
      · cases hw

/-! ### Calls -/
theorem noId_rel {w : World} {L L' : Nat → Prop} {μ : Map} {v : Value} {x : AV} (h : VRel w L μ v x) (hx : x.noId = true) (hL : ∀ b, b < w.heap.size → L' b → L b) : VRel w L' Map.empty v x := by
  have hm : VRel w L' μ v x := h.mono (fun _ _ _ => rfl) (Nat.le_refl _) hL (fun _ _ h => h)
  cases hm with
  | flat v hv => exact .flat v hv
  | ro sz U hn hc hs hA h1 hh => exact .ro sz U hn hc hs hA h1 hh
  | rp U hb hl hc h1 hh => exact .rp U hb hl hc h1 hh
  | agg => cases hx
  | tup => cases hx
  | sl => cases hx
  | ptr => cases hx

theorem noIds_rel {w : World} {L L' : Nat → Prop} {μ : Map} {v : Value} {x : AV} (h : VRel w L μ v x) (hx : x.noIds = true) (hL : ∀ b, b < w.heap.size → L' b → L b) : VRel w L' Map.empty v x := by
  cases h with
  | agg hl hh =>
    simp only [AV.noIds, List.all_eq_true] at hx
    exact .agg hl fun i y hy => noId_rel (hh i y hy) (hx y (List.mem_of_getElem? hy)) hL
  | flat v hv => exact noId_rel (μ := μ) (.flat v hv) hx hL
  | ro sz U hn hc hs hA h1 hh => exact noId_rel (μ := μ) (.ro sz U hn hc hs hA h1 hh) hx hL
  | rp U hb hl hc h1 hh => exact noId_rel (μ := μ) (.rp U hb hl hc h1 hh) hx hL
  | tup => cases hx
  | sl => cases hx
  | ptr => cases hx

theorem deep_rel {w : World} {L : Nat → Prop} {μ : Map} {T : Table} (hT : TRel P w L μ T) {ids : List Nat} {v : Value} {x y : AV} (hd : Deep T ids x y) (h : VRel w L μ v x) : VRel w (fun _ => False) Map.empty v y := by
  induction hd generalizing v with
  | id hx => exact noId_rel h hx fun _ _ h => h.elim
  | nil =>
    cases h with
    | flat v hv => exact .ro 0 (fun _ _ => undef) rfl (Nat.le_refl _) (fun e h => by cases h) (fun h => absurd h (by decide)) (fun i j h => absurd h (by omega)) fun i e j x h => by simp at h
  | @agg cs cs' hl hh ih =>
    cases h with
    | @agg _ us _ hu h =>
      refine .agg (hu.trans hl) fun i y hy => ?_
      have hlt : i < cs.length := by rw [hl]; exact (List.getElem?_eq_some_iff.1 hy).1
      exact ih i cs[i] y (List.getElem?_eq_getElem hlt) hy (h i _ (List.getElem?_eq_getElem hlt))
  | @sl id off n r els' hid hr hle hl hs hh ih =>
    cases h with
    | @sl _ _ _ _ v q hq hok =>
      cases q with
      | none =>
        obtain ⟨rfl, rfl, rfl⟩ := hok
        have : els' = [] := List.eq_nil_of_length_eq_zero hl
        subst this
        exact .ro 0 (fun _ _ => undef) rfl (Nat.le_refl _) (fun e h => by cases h) (fun h => absurd h (by omega)) (fun i j h => absurd h (by omega)) fun i e j x h => by simp at h
      | some p =>
        obtain ⟨hcap, A, rfl, hA⟩ := hok
        have hrow := hT.cell hr hq
        obtain ⟨cur, hg, hsz, hc⟩ := hrow.cur
        have cell : ∀ k, w.cell? ⟨p.g, k, none⟩ = cur[k]? := fun k => cell_of_row w p.g k cur r.elem (0, 0) hg
        have key : ∀ i (e e' : List AV) j y, (r.els.drop off)[i]? = some e → els'[i]? = some e' → e'[j]? = some y → ∃ u, cur[p.b + (off + i) * p.sz + j]? = some u ∧ u.oneCell' = true ∧ VRel w (fun _ => False) Map.empty u y := by
          intro i e e' j y he he' hy
          have hll := hs i e e' he he'
          have hlt : j < e.length := by rw [hll]; exact (List.getElem?_eq_some_iff.1 hy).1
          obtain ⟨u, hu, h1, hv⟩ := hc (off + i) e j e[j] (by rw [List.getElem?_drop] at he; exact he) (List.getElem?_eq_getElem hlt)
          exact ⟨u, hu, h1, ih i e e' j e[j] y he he' (List.getElem?_eq_getElem hlt) hy hv⟩
        have elt : ∀ i, i < n → ∃ e e', (r.els.drop off)[i]? = some e ∧ els'[i]? = some e' ∧ e.length = p.sz ∧ e'.length = p.sz := by
          intro i hi
          have h1 : i < (r.els.drop off).length := by rw [List.length_drop]; omega
          have h2 : i < els'.length := by omega
          refine ⟨_, _, List.getElem?_eq_getElem h1, List.getElem?_eq_getElem h2, ?_, ?_⟩
          · apply hrow.sz; rw [List.getElem_drop]; exact List.getElem_mem _
          · rw [← hs i _ _ (List.getElem?_eq_getElem h1) (List.getElem?_eq_getElem h2)]
            apply hrow.sz; rw [List.getElem_drop]; exact List.getElem_mem _
        have full : ∀ i j, i < n → j < p.sz → ∃ u, cur[p.b + (off + i) * p.sz + j]? = some u ∧ u.oneCell' = true := by
          intro i j hi hj
          obtain ⟨e, e', h1, h2, h3, h4⟩ := elt i hi
          obtain ⟨u, hu, h5, _⟩ := key i e e' j (e'[j]'(by omega)) h1 h2 (List.getElem?_eq_getElem _)
          exact ⟨u, hu, h5⟩
        refine .ro p.sz (fun i j => (cur[p.b + (off + i) * p.sz + j]?).getD undef) hl.symm (by omega) ?_ (fun hp => ?_) ?_ ?_
        · intro e he
          obtain ⟨i, hi, rfl⟩ := List.getElem_of_mem he
          obtain ⟨e1, e2, h1, h2, h3, h4⟩ := elt i (by omega)
          rw [List.getElem?_eq_getElem hi] at h2
          obtain rfl := Option.some.inj h2
          exact h4
        · have hne : off < p.cap := by omega
          refine ⟨_, hA hne, fun h => h, (Array.getElem?_eq_some_iff.1 hg).1, fun i j hi hj => ?_⟩
          obtain ⟨u, hu, _⟩ := full i j hi hj
          have e1 : p.b + off * p.sz + (i * p.sz + j) = p.b + (off + i) * p.sz + j := by rw [Nat.add_mul]; omega
          rw [add_lit, cell, e1, hu]; rfl
        · intro i j hi hj
          obtain ⟨u, hu, h1⟩ := full i j hi hj
          rw [hu]; exact h1
        · intro i e' j y he' hy
          have hi : i < n := by rw [← hl]; exact (List.getElem?_eq_some_iff.1 he').1
          obtain ⟨e, e2, h1, h2, _⟩ := elt i hi
          rw [he'] at h2
          obtain rfl := Option.some.inj h2
          obtain ⟨u, hu, _, hv⟩ := key i e e' j y h1 he' hy
          rw [hu]; exact hv

theorem noRo1_rel {w : World} {L L' : Nat → Prop} {μ : Map} {v : Value} {x : AV} (h : VRel w L μ v x) (hx : x.noRo1 = true) : VRel w L' μ v x := by
  cases h with
  | flat v hv => exact .flat v hv
  | sl hq hh => exact .sl hq hh
  | ptr hq => exact .ptr hq
  | @ro _ A n c els sz U hn hc hs hA h1 hh =>
    simp only [AV.noRo1, List.isEmpty_iff] at hx
    subst hx
    subst hn
    exact .ro sz U rfl hc hs (fun h => absurd h (by simp)) (fun i j h => absurd h (by simp)) (fun i e j x h => by simp at h)
  | rp => cases hx
  | agg => cases hx
  | tup => cases hx

theorem noRo_rel {w : World} {L L' : Nat → Prop} {μ : Map} {v : Value} {x : AV} (h : VRel w L μ v x) (hx : x.noRo = true) : VRel w L' μ v x := by
  have agg : ∀ {v : Value} {cs : List AV}, VRel w L μ v (.agg cs) → cs.all AV.noRo1 = true → VRel w L' μ v (.agg cs) := by
    intro v cs h hx
    cases h with
    | agg hl hh =>
      simp only [List.all_eq_true] at hx
      exact .agg hl fun i y hy => noRo1_rel (hh i y hy) (hx y (List.mem_of_getElem? hy))
  cases x with
  | agg cs => exact agg h hx
  | tup cs =>
    cases h with
    | tup hl hh =>
      simp only [AV.noRo, List.all_eq_true] at hx
      refine .tup hl fun i y hy => ?_
      have hy' := hx y (List.mem_of_getElem? hy)
      cases y with
      | agg cs => exact agg (hh i _ hy) hy'
      | tup cs => cases hy'
      | _ => exact noRo1_rel (hh i _ hy) hy'
  | _ => exact noRo1_rel h hx

theorem adopt_spec (T : Table) : ∀ (rows : List Row) (base id : Nat), adopt T base rows id = if base ≤ id ∧ id < base + rows.length then rows[id - base]? else T id := by
  intro rows
  induction rows with
  | nil => intro base id; simp only [adopt, List.length_nil]; rw [if_neg (by omega)]
  | cons r rs ih =>
    intro base id
    simp only [adopt, Table.set, List.length_cons]
    split
    · subst_vars
      rw [if_pos (by omega)]; simp
    · rw [ih]
      by_cases h : base + 1 ≤ id ∧ id < base + 1 + rs.length
      · rw [if_pos h, if_pos (by omega)]
        have e1 : id - base = (id - (base + 1)) + 1 := by omega
        rw [e1, List.getElem?_cons_succ]
      · rw [if_neg h, if_neg (by omega)]

theorem evArgs_sound {st : St} {σ : Operand → Value} {w : World} {L : Nat → Prop} {μ : Map} (hρ : ∀ x y, st.op x = some y → VRel w L μ (σ x) y) : ∀ {l : List Operand} {xs : List AV}, evArgs st l = some xs → l.length = xs.length ∧ ∀ i x, xs[i]? = some x → VRel w L μ ((l.map σ).toArray.getD i undef) x := by
  intro l
  induction l with
  | nil => intro xs h; simp only [evArgs, Option.some.injEq] at h; subst h; exact ⟨rfl, fun i x h => by simp at h⟩
  | cons o l ih =>
    intro xs h
    simp only [evArgs] at h
    split at h
    · rename_i a r ha hr
      obtain rfl := Option.some.inj h
      obtain ⟨h1, h2⟩ := ih hr
      refine ⟨by simp [h1], fun i x hx => ?_⟩
      cases i with
      | zero => simp at hx; subst hx; simpa [Array.getD] using hρ o a ha
      | succ i =>
        have := h2 i x (by simpa using hx)
        simpa [Array.getD_eq_getD_getElem?] using this
    · cases h

/-- What a call has done, as a step of the caller. -/
theorem adopt_core {w w' : World} {L L' : Nat → Prop} {μ μ' : Map} {T : Table} (hT : TRel P w L μ T) {base : Nat} (hfr : ∀ k, k < 8 → μ (base + k) = none) {v : Value} {x : AV} {rows : List Row}
    (hv : VRel w' L' μ' v x) (hR : TRel P w' L' μ' (tabAt base rows)) (hid : ∀ id q, μ' id = some q → base ≤ id ∧ id < base + 8)
    (ho : w'.os = w.os) (ht : w'.tape = w.tape) (hu : w'.output = w.output) (hs : w.heap.size ≤ w'.heap.size) (hb : ∀ b, b < w.heap.size → w'.heap[b]? = w.heap[b]?)
    (hp : ∀ id r p, tabAt base rows id = some r → μ' id = some (some p) → w.heap.size ≤ p.g) (h8 : rows.length ≤ 8)
    (hL : (∀ b, b < w.heap.size → (L' b ↔ L b)) ∨ (x.noRo = true ∧ ∀ r ∈ rows, ∀ e ∈ r.els, ∀ y ∈ e, y.noRo1 = true)) :
    ∃ L'' μ'', Ext w L μ T w' L'' μ'' (adopt T base rows) ∧ TRel P w' L'' μ'' (adopt T base rows) ∧ VRel w' L'' μ'' v x ∧ ∀ id, ¬ (base ≤ id ∧ id < base + 8) → μ'' id = μ id := by
  refine ⟨fun b => if b < w.heap.size then L b else L' b, fun id => if base ≤ id ∧ id < base + 8 then μ' id else μ id, ?_⟩
  have hLb : ∀ b, b < w.heap.size → ((if b < w.heap.size then L b else L' b) ↔ L b) := fun b hb => by rw [if_pos hb]
  have hLn : ∀ b, ¬ b < w.heap.size → ((if b < w.heap.size then L b else L' b) ↔ L' b) := fun b hb => by rw [if_neg hb]
  have hμ1 : ∀ id q, μ id = some q → (if base ≤ id ∧ id < base + 8 then μ' id else μ id) = some q := by
    intro id q hq
    rw [if_neg]
    · exact hq
    · intro h
      have := hfr (id - base) (by omega)
      have e : base + (id - base) = id := by omega
      rw [e, hq] at this
      cases this
  have hμ2 : ∀ id q, μ' id = some q → (if base ≤ id ∧ id < base + 8 then μ' id else μ id) = some q := by
    intro id q hq
    rw [if_pos (hid id q hq)]; exact hq
  have hμ3 : ∀ id q, ¬ (base ≤ id ∧ id < base + 8) → (if base ≤ id ∧ id < base + 8 then μ' id else μ id) = some q → μ id = some q := by
    intro id q h hq; rw [if_neg h] at hq; exact hq
  have hTid : ∀ id r, T id = some r → ¬ (base ≤ id ∧ id < base + 8) := by
    intro id r hr h
    obtain ⟨q, hq, _⟩ := hT.row id r hr
    have := hfr (id - base) (by omega)
    have e : base + (id - base) = id := by omega
    rw [e, hq] at this
    cases this
  have up : ∀ {u : Value} {y : AV}, VRel w' L' μ' u y → (y.noRo1 = true ∨ ∀ b, b < w.heap.size → (L' b ↔ L b)) → VRel w' (fun b => if b < w.heap.size then L b else L' b) (fun id => if base ≤ id ∧ id < base + 8 then μ' id else μ id) u y := by
    intro u y h hc
    have h1 := h.mono (w' := w') (L' := L') (μ' := fun id => if base ≤ id ∧ id < base + 8 then μ' id else μ id) (fun _ _ _ => rfl) (Nat.le_refl _) (fun _ _ h => h) hμ2
    rcases hc with hc | hc
    · exact noRo1_rel h1 hc
    · refine h1.mono (fun _ _ _ => rfl) (Nat.le_refl _) (fun b _ hb => ?_) (fun _ _ h => h)
      by_cases hlt : b < w.heap.size
      · exact (hc b hlt).2 ((hLb b hlt).1 hb)
      · exact (hLn b hlt).1 hb
  have hTA : ∀ id r, adopt T base rows id = some r → (base ≤ id ∧ id < base + 8 ∧ tabAt base rows id = some r) ∨ (¬ (base ≤ id ∧ id < base + 8) ∧ T id = some r) := by
    intro id r h
    rw [adopt_spec] at h
    split at h
    · rename_i hh
      exact .inl ⟨hh.1, by omega, by unfold tabAt; rw [if_pos hh.1]; exact h⟩
    · exact .inr ⟨hTid id r h, h⟩
  have rowold : ∀ {p : Place} {r : Row}, RowAt P w L μ p r → RowAt P w' (fun b => if b < w.heap.size then L b else L' b) (fun id => if base ≤ id ∧ id < base + 8 then μ' id else μ id) p r := by
    intro p r h
    exact h.mono (fun b hlt _ => hb b hlt) hs (fun b hlt => (hLb b hlt).1) hμ1 (hb _ h.lt) ((hLb _ h.lt).2 h.live)
  have hv' : VRel w' (fun b => if b < w.heap.size then L b else L' b) (fun id => if base ≤ id ∧ id < base + 8 then μ' id else μ id) v x := by
    have h1 := hv.mono (w' := w') (L' := L') (μ' := fun id => if base ≤ id ∧ id < base + 8 then μ' id else μ id) (fun _ _ _ => rfl) (Nat.le_refl _) (fun _ _ h => h) hμ2
    rcases hL with hc | hc
    · refine h1.mono (fun _ _ _ => rfl) (Nat.le_refl _) (fun b _ hb => ?_) (fun _ _ h => h)
      by_cases hlt : b < w.heap.size
      · exact (hc b hlt).2 ((hLb b hlt).1 hb)
      · exact (hLn b hlt).1 hb
    · exact noRo_rel h1 hc.1
  refine ⟨⟨ho, ht, hu, hs, fun b hlt _ => hb b hlt, hLb, hμ1, ?_⟩, ⟨?_, ?_⟩, hv', fun id h => if_neg h⟩
  · intro id r p hr hpp
    rcases hTA id r hr with ⟨h1, h2, h3⟩ | ⟨h1, h2⟩
    · rw [if_pos ⟨h1, h2⟩] at hpp
      exact .inl (hp id r p h3 hpp)
    · exact .inr ⟨id, r, p, h2, hμ3 _ _ h1 hpp, rfl⟩
  · intro id r hr
    rcases hTA id r hr with ⟨h1, h2, h3⟩ | ⟨h1, h2⟩
    · obtain ⟨q, hq, hrow, hnil⟩ := hR.row id r h3
      refine ⟨q, hμ2 _ _ hq, fun p hpq => ?_, hnil⟩
      subst hpq
      have h4 := hrow p rfl
      obtain ⟨cur, hg, hsz, hc⟩ := h4.cur
      have hpg := hp id r p h3 hq
      refine ⟨⟨cur, hg, hsz, fun i e j y he hy => ?_⟩, h4.len, h4.sz, h4.szT, h4.cap, (hLn _ (by omega)).2 h4.live⟩
      obtain ⟨u, hu, h5, h6⟩ := hc i e j y he hy
      refine ⟨u, hu, h5, up h6 ?_⟩
      rcases hL with hL | hL
      · exact .inr hL
      · refine .inl (hL.2 r ?_ e (List.mem_of_getElem? he) y (List.mem_of_getElem? hy))
        unfold tabAt at h3
        rw [if_pos h1] at h3
        exact List.mem_of_getElem? h3
    · obtain ⟨q, hq, hrow, hnil⟩ := hT.row id r h2
      exact ⟨q, hμ1 _ _ hq, fun p hpq => rowold (hrow p hpq), hnil⟩
  · intro id id' r r' p p' hr hr' hpp hpp' hne
    rcases hTA id r hr with ⟨h1, h2, h3⟩ | ⟨h1, h2⟩
    · rcases hTA id' r' hr' with ⟨h1', h2', h3'⟩ | ⟨h1', h2'⟩
      · rw [if_pos ⟨h1, h2⟩] at hpp
        rw [if_pos ⟨h1', h2'⟩] at hpp'
        exact hR.apart id id' r r' p p' h3 h3' hpp hpp' hne
      · rw [if_pos ⟨h1, h2⟩] at hpp
        have := hp id r p h3 hpp
        have := (hT.cell h2' (hμ3 _ _ h1' hpp')).lt
        omega
    · rcases hTA id' r' hr' with ⟨h1', h2', h3'⟩ | ⟨h1', h2'⟩
      · rw [if_pos ⟨h1', h2'⟩] at hpp'
        have := hp id' r' p' h3' hpp'
        have := (hT.cell h2 (hμ3 _ _ h1 hpp)).lt
        omega
      · exact hT.apart id id' r r' p p' h2 h2' (hμ3 _ _ h1 hpp) (hμ3 _ _ h1' hpp') hne

/-! ### One operation -/
def opsOk (n : Nat) (ops : Array Oper) : Prop := ∀ (j : Nat) (o : Oper) (d : Tmp), ops[j]? = some o → o.dst = some d → d < n

theorem step_sound {S : Start} {fresh : Nat → Prop} {st : St} {a : Act} {w : World} {ops : Array Oper} {Q : Exit → Act → World → Prop} {base i : Nat} {K : St → Foot → Prop} (hR : Rel P S fresh st a w)
    (hfr : ∀ k, k < 8 → fresh (base + 8 * i + k)) (ho : opsOk S.n ops) (h : AStepF P ops base i st K) :
    ∃ st' ft, K st' ft ∧ wpOp P ops Q i (fun a' w' => Rel P S (fun id => fresh id ∧ ¬ (base + 8 * i ≤ id ∧ id < base + 8 * i + 8)) st' a' w') a w := by
  obtain ⟨L, μ, hC⟩ := hR
  unfold AStepF at h
  unfold wpOp
  split at h
  · exact h.elim
  · rename_i o hoo
    simp only [hoo]
    have hd : ∀ k, o.dst = some k → k < S.n := fun k hk => ho i o k hoo hk
    have hid : μ (base + 8 * i) = none := hC.fresh _ (by simpa using hfr 0 (by omega))
    split at h
    · exact h.elim
    · rename_i hw
      refine ⟨_, _, h, ?_⟩
      rw [wanted_sound hC hw ho, if_neg (by simp)]
      refine ⟨L, μ, ?_⟩
      have := hC.step (d := o.dst) hd (v := undef) (x := .flat undef) (Ext.refl _ _ _ _) hC.tab (.flat _ rfl) (fresh' := fun id => fresh id ∧ ¬ (base + 8 * i ≤ id ∧ id < base + 8 * i + 8)) (fun id h => hC.fresh id h.1)
      have e : st.put o.dst (.flat undef) = { st.put o.dst (.flat undef) with T := st.T } := by rw [← St.put_T st o.dst (.flat undef)]
      rw [e]; exact this
    · rename_i hw
      simp only [wanted_sound hC hw ho, if_true]
      split at h
      · rename_i hcall
        obtain ⟨f, xs, args, args', ids, val, rows, hcf, hargs, hands, hA, h8, hK⟩ := h
        refine ⟨_, _, hK, .inl ?_⟩
        unfold callOf at hcf
        split at hcf
        · rename_i fo as ts hop
          split at hcf
          · rename_i k c1 c2 hfo
            split at hcf
            · rename_i hz
              simp only [Option.some.injEq, Prod.mk.injEq] at hcf
              obtain ⟨rfl, rfl⟩ := hcf
              have hf : a.eval fo = .func (.func k) c1 c2 := flat_eq (hC.op fo _ hfo)
              obtain ⟨ha1, ha2⟩ := evArgs_sound (σ := a.eval) (fun x y => hC.op x y) hargs
              obtain ⟨⟨fn, hfn, hname, hbody⟩, hcalls⟩ := hA
              have e1 : c1 = #[] := Array.eq_empty_of_size_eq_zero hz.1
              have e2 : c2 = #[] := Array.eq_empty_of_size_eq_zero hz.2
              subst e1; subst e2
              have hrun : (execOp a.eval o).run P w = .ok (.enter k (as.map a.eval)) w := by
                unfold execOp
                simp only [hop, resolve, hf, Deferred.ofValue]
                rw [run_bind _ _ (by exact (rfl : (pure _ : Sem Deferred).run P w = .ok _ w))]
                simp only [Array.empty_append, invoke, Array.append_empty]
                unfold callFunc
                rw [run_bind _ _ (by exact (rfl : (program : Sem Program).run P w = .ok P w))]
                simp only [hfn, hname, hbody, Bool.false_eq_true, if_false]
                rfl
              unfold Oper.wp
              rw [hrun, Oper.upon_enter]
              have hmap : as.map a.eval = (as.toList.map a.eval).toArray := by cases as; simp
              have hrel : ∃ Lc : Nat → Prop, (∀ j x, args'[j]? = some x → VRel w Lc Map.empty ((as.map a.eval).getD j undef) x) ∧ args.length = args'.length ∧
                  ((∀ b, b < w.heap.size → (Lc b ↔ L b)) ∨ ((val (base + 8 * i)).noRo = true ∧ ∀ r ∈ rows (base + 8 * i), ∀ e ∈ r.els, ∀ y ∈ e, y.noRo1 = true)) := by
                rcases hands with ⟨rfl, hno⟩ | ⟨⟨hl, hdeep⟩, h1, h2⟩
                · refine ⟨L, fun j x hx => ?_, rfl, .inl fun _ _ => Iff.rfl⟩
                  simp only [List.all_eq_true] at hno
                  rw [hmap]
                  exact noIds_rel (ha2 j x hx) (hno x (List.mem_of_getElem? hx)) (fun _ _ h => h)
                · refine ⟨fun _ => False, fun j y hy => ?_, hl, .inr ⟨h1, h2⟩⟩
                  have hlt : j < args.length := by rw [hl]; exact (List.getElem?_eq_some_iff.1 hy).1
                  rw [hmap]
                  exact deep_rel hC.tab (hdeep j args[j] y (List.getElem?_eq_getElem hlt) hy) (ha2 j _ (List.getElem?_eq_getElem hlt))
              obtain ⟨Lc, hvr, hlen, hLc⟩ := hrel
              have hlen' : (as.map a.eval).size = args'.length := by rw [Array.size_map, ← hlen, ← ha1, Array.length_toList]
              refine (hcalls (base + 8 * i) w Lc (as.map a.eval) hlen' hvr).mono ?_
              rintro e w' ⟨v, L', μ', rfl, hv, hTR, hids, q1, q2, q3, q4, q5, q6, q7⟩
              have hL : (∀ b, b < w.heap.size → (L' b ↔ L b)) ∨ ((val (base + 8 * i)).noRo = true ∧ ∀ r ∈ rows (base + 8 * i), ∀ e ∈ r.els, ∀ y ∈ e, y.noRo1 = true) := by
                rcases hLc with hLc | hLc
                · exact .inl fun b hb => (q6 b hb).trans (hLc b hb)
                · exact .inr hLc
              obtain ⟨L'', μ'', hE, hT'', hv'', hμ''⟩ := adopt_core hC.tab (base := base + 8 * i) (fun k hk => hC.fresh _ (hfr k hk)) hv hTR hids q1 q2 q3 q4 q5 q7 h8 hL
              exact ⟨L'', μ'', hC.step hd hE hT'' hv'' fun id hf => by rw [hμ'' id hf.2]; exact hC.fresh id hf.1⟩
            · cases hcf
          · cases hcf
        · cases hcf
      · split at h
        · rename_i v T' hev
          refine ⟨_, _, h, .inl ?_⟩
          obtain ⟨nx, u, w', L', μ', hrun, hnx, hE, hT', hv, hμ⟩ := evOp_gives hC.tab hid (fun x y => hC.op x y) hev
          have hnew := hC.step hd hE hT' hv (fresh' := fun id => fresh id ∧ ¬ (base + 8 * i ≤ id ∧ id < base + 8 * i + 8)) fun id hf => by
            rw [hμ id (fun e => hf.2 (by omega))]; exact hC.fresh id hf.1
          unfold Oper.wp
          rw [hrun]
          cases nx with
          | value v0 => obtain rfl := Option.some.inj hnx; exact ⟨L', μ', hnew⟩
          | skip => obtain rfl := Option.some.inj hnx; exact ⟨L', μ', hnew⟩
          | _ => cases hnx
        · exact h.elim

/-! ### Regions in the text's order -/
theorem Rel.weak {S : Start} {fresh fresh' : Nat → Prop} {st : St} {a : Act} {w : World} (h : Rel P S fresh st a w) (hf : ∀ id, fresh' id → fresh id) : Rel P S fresh' st a w := by
  obtain ⟨L, μ, hC⟩ := h
  exact ⟨L, μ, { hC with fresh := fun id h => hC.fresh id (hf id h) }⟩

theorem ops_sound {S : Start} {ops : Array Oper} {Q : Exit → Act → World → Prop} {base : Nat} {K : St → Prop} (ho : opsOk S.n ops) {fin : Nat → Prop} : ∀ (l : List Nat) (fresh : Nat → Prop) (st : St) (a : Act) (w : World), l.Nodup →
    (∀ i ∈ l, ∀ k, k < 8 → fresh (base + 8 * i + k)) → (∀ id, fin id → fresh id) → (∀ id i, fin id → i ∈ l → ¬ (base + 8 * i ≤ id ∧ id < base + 8 * i + 8)) → Rel P S fresh st a w → AOps P ops base l st K →
    (∀ st' a' w', K st' → Rel P S fin st' a' w' → Q .normal a' w') → wpOps P ops Q l a w := by
  intro l
  induction l with
  | nil => intro fresh st a w _ _ hfin _ hR h hQ; exact hQ st a w h (hR.weak hfin)
  | cons i l ih =>
    intro fresh st a w hnd hfr hfin hfi hR h hQ
    rw [wpOps_cons]
    obtain ⟨st', ft, hK, hw⟩ := step_sound (Q := Q) hR (hfr i (by simp)) ho h
    obtain ⟨hni, hnd'⟩ := List.nodup_cons.1 hnd
    refine wpOp_mono (fun a' w' hR' => ?_) hw
    refine ih _ st' a' w' hnd' (fun j hj k hk => ⟨hfr j (by simp [hj]) k hk, ?_⟩) (fun id h => ⟨hfin id h, hfi id i h (by simp)⟩) (fun id j h hj => hfi id j h (by simp [hj])) hR' hK hQ
    have : i ≠ j := fun e => hni (e ▸ hj)
    omega

theorem region_sound {S : Start} {ops : Array Oper} {Q : Exit → Act → World → Prop} {K : St → Prop} {id : Nat} {st : St} {a : Act} {w : World} (ho : opsOk S.n ops) (hR : Rel P S (st.nx ≤ ·) st a w)
    (h : AOps P ops st.nx (List.range ops.size) st K) (hQ : ∀ st' a' w', K st' → Rel P S (st.nx + 8 * ops.size ≤ ·) st' a' w' → Q .normal a' w') : (Code.region id ops false).wp P Q a w := by
  refine wp_region (ops_sound ho (List.range ops.size) (st.nx ≤ ·) st a w List.nodup_range (fun i hi k hk => ?_) (fun id h => ?_) (fun id i h hi => ?_) hR h hQ)
  · show st.nx ≤ _; omega
  · have h' : st.nx + 8 * ops.size ≤ id := h
    show st.nx ≤ id; omega
  · have h' : st.nx + 8 * ops.size ≤ id := h
    have := List.mem_range.1 hi
    omega

/-! ### A state is cut -/
theorem rens_map (m : Nat → Nat) (l : List AV) : rens m l = l.map (ren m) := by
  induction l with
  | nil => rfl
  | cons x l ih => simp [rens, ih]
theorem closedAll_all (ks : List Nat) (l : List AV) : closedAll ks l = l.all (closedIn ks) := by
  induction l with
  | nil => rfl
  | cons x l ih => simp [closedAll, ih]
def renMap (μ : Map) (ks : List Nat) (n : Nat) : Map := fun id => if n ≤ id ∧ id < n + ks.length then (ks[id - n]?).bind μ else none

theorem renMap_name {μ : Map} {ks : List Nat} {n k : Nat} (h : k ∈ ks) : renMap μ ks n (newName ks n k) = μ k := by
  have hlt := List.idxOf_lt_length_of_mem h
  unfold renMap newName
  rw [if_pos (by omega)]
  have e : n + ks.idxOf k - n = ks.idxOf k := by omega
  rw [e, List.getElem?_eq_getElem hlt]
  simp

theorem ren_rel {w : World} {L : Nat → Prop} {μ : Map} {ks : List Nat} {n : Nat} {v : Value} {x : AV} (h : VRel w L μ v x) (hk : closedIn ks x = true) : VRel w L (renMap μ ks n) v (ren (newName ks n) x) := by
  induction h with
  | flat v hv => exact .flat v hv
  | agg hl hh ih =>
    simp only [closedIn, closedAll_all, List.all_eq_true] at hk
    simp only [ren, rens_map]
    refine .agg (by simpa using hl) fun i y hy => ?_
    rw [List.getElem?_map] at hy
    obtain ⟨x, hx, rfl⟩ := Option.map_eq_some_iff.1 hy
    exact ih i x hx (hk x (List.mem_of_getElem? hx))
  | tup hl hh ih =>
    simp only [closedIn, closedAll_all, List.all_eq_true] at hk
    simp only [ren, rens_map]
    refine .tup (by simpa using hl) fun i y hy => ?_
    rw [List.getElem?_map] at hy
    obtain ⟨x, hx, rfl⟩ := Option.map_eq_some_iff.1 hy
    exact ih i x hx (hk x (List.mem_of_getElem? hx))
  | ro sz U hn hc hs hA h1 hh ih => exact .ro sz U hn hc hs hA h1 hh
  | rp U hb hl hc h1 hh ih => exact .rp U hb hl hc h1 hh
  | sl hq hh =>
    simp only [closedIn, List.contains_iff_mem] at hk
    exact .sl ((renMap_name hk).trans hq) hh
  | ptr hq =>
    simp only [closedIn, List.contains_iff_mem] at hk
    exact .ptr ((renMap_name hk).trans hq)

theorem nodup_inj {l : List Nat} (h : l.Nodup) {i j : Nat} (hi : i < l.length) (hj : j < l.length) (e : l[i] = l[j]) : i = j := by
  have h' := List.pairwise_iff_getElem.1 h
  rcases Nat.lt_trichotomy i j with hlt | rfl | hlt
  · exact absurd e (h' i j hi hj hlt)
  · rfl
  · exact absurd e.symm (h' j i hj hi hlt)

theorem hmapR {μ : Map} {ks : List Nat} {n : Nat} {id k : Nat} (hle : n ≤ id) (hk : ks[id - n]? = some k) : renMap μ ks n id = μ k := by
  have hlt := (List.getElem?_eq_some_iff.1 hk).1
  unfold renMap
  rw [if_pos (by omega), hk]; rfl

theorem row_ren {w : World} {L : Nat → Prop} {μ : Map} {ks : List Nat} {n : Nat} {p : Place} {r0 : Row} (h0 : RowAt P w L μ p r0) (hc0 : ∀ e ∈ r0.els, closedAll ks e = true) : RowAt P w L (renMap μ ks n) p (renRow (newName ks n) r0) := by
  obtain ⟨cur, hg, hsz, hc⟩ := h0.cur
  refine ⟨⟨cur, hg, hsz, fun i e j y he hy => ?_⟩, by simpa [renRow] using h0.len, fun e he => ?_, h0.szT, h0.cap, h0.live⟩
  · simp only [renRow, List.getElem?_map] at he
    obtain ⟨e0, he0, rfl⟩ := Option.map_eq_some_iff.1 he
    rw [rens_map, List.getElem?_map] at hy
    obtain ⟨y0, hy0, rfl⟩ := Option.map_eq_some_iff.1 hy
    obtain ⟨u, hu, h3, h4⟩ := hc i e0 j y0 he0 hy0
    refine ⟨u, hu, h3, ren_rel h4 ?_⟩
    have := hc0 e0 (List.mem_of_getElem? he0)
    rw [closedAll_all, List.all_eq_true] at this
    exact this y0 (List.mem_of_getElem? hy0)
  · simp only [renRow, List.mem_map] at he
    obtain ⟨e0, he0, rfl⟩ := he
    rw [rens_map, List.length_map]
    exact h0.sz e0 he0

theorem cutVals_get (ks live : List Nat) (s : Nat → AV) : ∀ (l : List Nat) (i : Nat), ((cutVals ks live s l).getD i .dead).isDead = false → ∃ t, l[i]? = some t ∧ closedIn ks (s t) = true ∧ (cutVals ks live s l).getD i .dead = ren (newName ks 0) (s t) := by
  intro l
  induction l with
  | nil => intro i h; simp [cutVals, AV.dead, AV.isDead] at h
  | cons t l ih =>
    intro i h
    cases i with
    | zero =>
      simp only [cutVals, List.getD_cons_zero] at h ⊢
      split at h
      · rename_i hc
        simp only [Bool.and_eq_true] at hc
        exact ⟨t, rfl, hc.2, by rw [if_pos (by rw [hc.1, hc.2]; rfl)]⟩
      · simp [AV.dead, AV.isDead] at h
    | succ i =>
      simp only [cutVals, List.getD_cons_succ] at h ⊢
      simpa using ih i h

theorem cutRows_get (ks : List Nat) (T : Table) : ∀ (l : List Nat) (i : Nat) (r : Row), (cutRows ks T l).getD i none = some r → ∃ k r0, l[i]? = some k ∧ T k = some r0 ∧ (∀ e ∈ r0.els, closedAll ks e = true) ∧ r = renRow (newName ks 0) r0 := by
  intro l
  induction l with
  | nil => intro i r h; simp [cutRows] at h
  | cons t l ih =>
    intro i r h
    cases i with
    | zero =>
      simp only [cutRows, List.getD_cons_zero] at h
      split at h
      · rename_i r0 h0
        split at h
        · rename_i hc
          obtain rfl := Option.some.inj h
          exact ⟨t, r0, rfl, h0, List.all_eq_true.1 hc, rfl⟩
        · cases h
      · cases h
    | succ i =>
      simp only [cutRows, List.getD_cons_succ] at h
      simpa using ih i r h

theorem isDead_eq {x : AV} (h : x.isDead = true) : x = .dead := by
  unfold AV.isDead at h
  split at h
  · rfl
  · cases h

theorem cut_sound {S : Start} {fresh : Nat → Prop} {st : St} {a : Act} {w : World} (h : Rel P S fresh st a w) (ks live : List Nat) (n : Nat) (hnd : ks.Nodup) : Rel P S (ks.length ≤ ·) (cut ks live n st) a w := by
  obtain ⟨L, μ, hC⟩ := h
  refine ⟨L, renMap μ ks 0, hC.size, hC.defers, fun t ht => ?_, ⟨fun id r hr => ?_, fun id id' r r' p p' hr hr' hp hp' hne => ?_⟩, fun id hid => ?_, hC.os, hC.tape, hC.output, hC.grown, hC.block, hC.L, fun id r p hr hp => ?_⟩
  · obtain ⟨t', ht', hcl, he⟩ := cutVals_get ks live st.s (List.range n) t ht
    have e : t' = t := by
      have hlt := (List.getElem?_eq_some_iff.1 ht').1
      rw [List.getElem?_range (by simpa using hlt)] at ht'
      exact (Option.some.inj ht').symm
    subst e
    have hd : (st.s t').isDead = false := by
      cases hx : (st.s t').isDead with
      | false => rfl
      | true =>
        have := isDead_eq hx
        rw [this] at he
        have e2 : (cut ks live n st).s t' = .dead := he
        rw [e2] at ht
        simp [AV.dead, AV.isDead] at ht
    show VRel w L _ _ ((cutVals ks live st.s (List.range n)).getD t' .dead)
    rw [he]
    exact ren_rel (hC.slot t' hd) hcl
  · obtain ⟨k, r0, hk, h0, hcl, rfl⟩ := cutRows_get ks st.T ks id r hr
    obtain ⟨q, hq, hrow, hnil⟩ := hC.tab.row k r0 h0
    exact ⟨q, (hmapR (Nat.zero_le _) hk).trans hq, fun p hp => row_ren (hrow p hp) hcl, fun hq => by simp [renRow, hnil hq]⟩
  · obtain ⟨k, r0, hk, h0, hcl, rfl⟩ := cutRows_get ks st.T ks id r hr
    obtain ⟨k', r0', hk', h0', hcl', rfl⟩ := cutRows_get ks st.T ks id' r' hr'
    rw [hmapR (Nat.zero_le _) hk] at hp
    rw [hmapR (Nat.zero_le _) hk'] at hp'
    refine hC.tab.apart k k' r0 r0' p p' h0 h0' hp hp' fun e => ?_
    subst e
    obtain ⟨l1, e1⟩ := List.getElem?_eq_some_iff.1 hk
    obtain ⟨l2, e2⟩ := List.getElem?_eq_some_iff.1 hk'
    exact hne (nodup_inj hnd l1 l2 (e1.trans e2.symm))
  · unfold renMap
    have h' : ks.length ≤ id := hid
    rw [if_neg (by omega)]
  · obtain ⟨k, r0, hk, h0, hcl, rfl⟩ := cutRows_get ks st.T ks id r hr
    rw [hmapR (Nat.zero_le _) hk] at hp
    exact hC.place k r0 p h0 hp

/-- What a region that draws its order must come to. -/
def DrawSound (P : Program) : Prop := ∀ (S : Start) (ops : Array Oper) (Q : Exit → Act → World → Prop) (K : St → Prop) (id : Nat) (st : St) (a : Act) (w : World), opsOk S.n ops → Rel P S (st.nx ≤ ·) st a w →
    ADraw P ops st K → (∀ st' a' w', K st' → Rel P S (st.nx + 8 * ops.size ≤ ·) st' a' w' → Q .normal a' w') → (Code.region id ops true).wp P Q a w

theorem opsOk_of {n : Nat} {id : Nat} {ops : Array Oper} {d : Bool} (h : dstsOk n (.region id ops d) = true) : opsOk n ops := by
  intro j o k hj hk
  simp only [dstsOk, Array.all_eq_true_iff_forall_mem] at h
  have := h o (Array.mem_of_getElem? hj)
  simp only [hk, decide_eq_true_eq] at this
  exact this

theorem AW_sound (hD : DrawSound P) {S : Start} : ∀ (c : Code) (st : St) (Q : Exit → St → Prop) (Q' : Exit → Act → World → Prop) (a : Act) (w : World), dstsOk S.n c = true → Rel P S (st.nx ≤ ·) st a w → AW P c st Q →
    (∀ e st' a' w', Q e st' → Rel P S (st'.nx ≤ ·) st' a' w' → Q' e a' w') → c.wp P Q' a w := by
  intro c
  induction c with
  | skip => intro st Q Q' a w hd hR h hQ; exact wp_skip (hQ _ _ _ _ h hR)
  | exit id => intro st Q Q' a w hd hR h hQ; exact wp_exit (hQ _ _ _ _ h hR)
  | ret => intro st Q Q' a w hd hR h hQ; exact wp_ret (hQ _ _ _ _ h hR)
  | region id ops draw =>
    intro st Q Q' a w hd hR h hQ
    cases draw with
    | true => exact hD S ops _ _ id st a w (opsOk_of hd) hR h fun st' a' w' hK hR' => hQ _ _ _ _ hK (by obtain ⟨L, μ, hC⟩ := hR'; exact ⟨L, μ, hC.1, hC.2, hC.3, hC.4, hC.5, hC.6, hC.7, hC.8, hC.9, hC.10, hC.11, hC.12⟩)
    | false => exact region_sound (opsOk_of hd) hR h fun st' a' w' hK hR' => hQ _ _ _ _ hK (by obtain ⟨L, μ, hC⟩ := hR'; exact ⟨L, μ, hC.1, hC.2, hC.3, hC.4, hC.5, hC.6, hC.7, hC.8, hC.9, hC.10, hC.11, hC.12⟩)
  | seq x y ihx ihy =>
    intro st Q Q' a w hd hR h hQ
    simp only [dstsOk, Bool.and_eq_true] at hd
    refine wp_seq (ihx st _ _ a w hd.1 hR h fun e st' a' w' hq hR' => ?_)
    cases e with
    | normal => exact ihy st' Q Q' a' w' hd.2 hR' hq hQ
    | _ => exact hQ _ _ _ _ hq hR'
  | cond c x y ihx ihy =>
    intro st Q Q' a w hd hR h hQ
    simp only [dstsOk, Bool.and_eq_true] at hd
    simp only [AW] at h
    split at h
    · rename_i t hc
      obtain ⟨L, μ, hC⟩ := id hR
      have he : a.eval c = .bool t := flat_eq (hC.op c _ hc)
      refine wp_cond he ?_
      cases t with
      | true => exact ihx st Q Q' a w hd.1 hR (by simpa using h) hQ
      | false => exact ihy st Q Q' a w hd.2 hR (by simpa using h) hQ
    · exact h.elim
  | block id c ih =>
    intro st Q Q' a w hd hR h hQ
    refine wp_block (ih st _ _ a w hd hR h fun e st' a' w' hq hR' => ?_)
    cases e with
    | exit i =>
      simp only [Exit.inBlock]
      by_cases hi : i = id
      · simp only [hi, if_true] at hq ⊢; exact hQ _ _ _ _ hq hR'
      · simp only [hi, if_false] at hq ⊢; exact hQ _ _ _ _ hq hR'
    | _ => exact hQ _ _ _ _ hq hR'
  | loop c ih =>
    intro st Q Q' a w hd hR h hQ
    obtain ⟨ks, live, k, n, hnd, h⟩ := h
    have key : ∀ (n : Nat) (st : St) (a : Act) (w : World), Rel P S (st.nx ≤ ·) st a w → ALoop (AW P c) Q n st → Code.rounds P c Q' n a w := by
      intro n
      induction n with
      | zero => intro st a w _ h; exact h.elim
      | succ n ihn =>
        intro st a w hR h
        rw [rounds_succ]
        refine ih st _ _ a w hd hR h fun e st' a' w' hq hR' => ?_
        cases e with
        | normal =>
          obtain ⟨ks, live, k, hnd, hq⟩ := hq
          exact ihn _ a' w' (cut_sound hR' ks live k hnd) hq
        | _ => exact hQ _ _ _ _ hq hR'
    exact wp_loop_rounds n (key n _ a w (cut_sound hR ks live k hnd) h)
  | _ => intro st Q Q' a w hd hR h hQ; exact h.elim
end Go.Proofs.Ythilmgpciiopnaa.G
