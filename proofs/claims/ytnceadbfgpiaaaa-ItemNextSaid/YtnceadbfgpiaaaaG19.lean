/- Code over the record: the twin of 'AW', for evaluation. Plain theorems over any program. -/
import Derived.Test.YtnceadbfgpiaaaaG18
namespace Go.Proofs.Ytnceadbfgpiaaaa.G
set_option linter.unusedVariables false
set_option linter.unusedSimpArgs false
open Go
variable {P : Program}

/-- A call of a function that has a contract. -/
def CallK (P : Program) (f : FuncId) (args : List AV) (T : Table) (base : Nat) (K : AV → Table → List Nat → List Nat → Prop) : Prop :=
  ∃ v T' rd wr, CallD P T base f args v T' rd wr ∧ K v T' rd wr
/-- .. that is handed what it reads alone. -/
theorem call_own {f : FuncId} {args : List AV} {T : Table} {base : Nat} {K : AV → Table → List Nat → List Nat → Prop}
    (h : ∃ args' ids val rows, Hands T ids args args' (val base) (rows base) ∧ ACalls P f args' val rows ∧ (rows base).length ≤ 8 ∧ K (val base) (adopt T base (rows base)) ids ((List.range (rows base).length).map (base + ·))) : CallK P f args T base K := by
  obtain ⟨args', ids, val, rows, h1, h2, h3, h4⟩ := h
  exact ⟨_, _, _, _, .inl ⟨args', ids, val, rows, h1, h2, h3, rfl, rfl, rfl, rfl⟩, h4⟩
theorem rows_of_cut {ks : List Nat} {T : Table} : ∀ {l : List Nat} {R0 : List Row}, cutRows ks T l = R0.map some → ∃ rs : List Row, l.map T = rs.map some ∧ (∀ r ∈ rs, closedEls ks r.els = true) ∧ rs.map (renRow (newName ks 0)) = R0
  | [], [], _ => ⟨[], rfl, fun r h => (by cases h), rfl⟩
  | [], r :: R0, h => by cases h
  | k :: l, [], h => by cases h
  | k :: l, r :: R0, h => by
    simp only [cutRows, List.map_cons, List.cons.injEq] at h
    obtain ⟨h1, h2⟩ := h
    obtain ⟨rs, q1, q2, q3⟩ := rows_of_cut h2
    split at h1
    · rename_i r0 hr0
      split at h1
      · rename_i hc
        refine ⟨r0 :: rs, by simp [hr0, q1], fun r hr => ?_, ?_⟩
        · rcases List.mem_cons.1 hr with rfl | hr
          · exact hc
          · exact q2 r hr
        · rw [List.map_cons, q3, ← Option.some.inj h1]; rfl
      · cases h1
    · cases h1
/-- .. that is handed addresses in rows of the caller's. -/
theorem call_with {f : FuncId} {args : List AV} {T : Table} {base : Nat} {K : AV → Table → List Nat → List Nat → Prop} (ms : List Nat) {m : Nat} {args0 : List AV} {R0 : List Row} {val v' : AV} {R1 R1' : List (Option Row)} (hP : PCalls P f m args0 R0 val R1)
    (hnd : ms.Nodup) (hml : m ≤ ms.length) (hR : cutRows ms T ms = R0.map some) (ha : rens (newName ms 0) args = args0) (hc : closedAll ms args = true) (hv : ren (backName ms m base) val = v') (hR1 : renRows (backName ms m base) R1 = R1')
    (hK : K v' (merge T ms m base R1') ms (ms ++ (List.range 8).map (base + ·))) : CallK P f args T base K := by
  subst ha hv hR1
  obtain ⟨rs, q1, q2, q3⟩ := rows_of_cut hR
  exact ⟨_, _, _, _, .inr ⟨m, ms, rs, R0, val, R1, hnd, hml, q1, hc, q2, q3, hP, rfl, rfl, rfl, rfl⟩, hK⟩

structure Mach where
  ev : Table → Nat → (Operand → Option AV) → TypeId → Op → Option (AV × Table)
  dk : Array Oper → Bool
  ib : Array Oper → List Foot → Bool
  call : FuncId → List AV → Table → Nat → (AV → Table → List Nat → List Nat → Prop) → Prop
  pm : Nat

structure Mach.Ok (P : Program) (M : Mach) : Prop where
  ev : ∀ T id ρ ty op r, M.ev T id ρ ty op = some r → evOp P T id ρ ty op = some r
  dk : ∀ ops, M.dk ops = true → drawOk P ops = true
  ib : ∀ ops fs, M.ib ops fs = true → indepB ops fs = true
  call : ∀ f args T base K, M.call f args T base K → CallK P f args T base K

def MStep (M : Mach) (ops : Array Oper) (base i : Nat) (o : Oper) (st : St) (K : St → Foot → Prop) : Prop :=
  match wantedA st ops o with
  | none => False
  | some false => K (st.put o.dst (.flat undef)) ⟨i, [], []⟩
  | some true =>
    match isCall o.op with
    | true =>
      match callOf st o.op with
      | some (f, xs) =>
        match evArgs st xs with
        | some args => M.call f args st.T (base + 8 * i) fun v T' rd wr => K { st.put o.dst v with T := T' } ⟨i, rd, wr⟩
        | none => False
      | none => False
    | false => match M.ev st.T (base + 8 * i) st.op o.type o.op with
      | some (v, T') => K { st.put o.dst v with T := T' } ⟨i, readsOf st o.op, writesOf st (base + 8 * i) o.op⟩
      | none => False

def MOps (M : Mach) (ops : Array Oper) (base : Nat) : List Oper → Nat → St → (St → Prop) → Prop
  | [], _, st, Q => Q st
  | o :: l, i, st, Q => MStep M ops base i o st fun st' _ => MOps M ops base l (i + 1) st' Q
def MOpsD (M : Mach) (ops : Array Oper) (base : Nat) : List Oper → Nat → St → List Foot → (St → List Foot → Prop) → Prop
  | [], _, st, fs, Q => Q st fs
  | o :: l, i, st, fs, Q => MStep M ops base i o st fun st' f => MOpsD M ops base l (i + 1) st' (fs ++ [f]) Q

def MLoop (pm : Nat) (F : St → (Exit → St → Prop) → Prop) (Q : Exit → St → Prop) : Nat → St → Prop
  | 0, _ => False
  | n + 1, st => F st fun e st' => match e with
    | .normal => ∃ nz fz ks live k, cutOk pm fz ks ∧ MLoop pm F Q n (cut ks live k (frz fz (nils nz st')))
    | e => Q e st'

def MW (M : Mach) : Code → St → (Exit → St → Prop) → Prop
  | .skip, st, Q => Q .normal st
  | .region _ ops draw, st, Q => match draw with
    | true => M.dk ops = true ∧ MOpsD M ops st.nx ops.toList 0 st [] fun st' fs => M.ib ops fs = true ∧ Q .normal { st' with nx := st.nx + 8 * ops.size }
    | false => MOps M ops st.nx ops.toList 0 st fun st' => Q .normal { st' with nx := st.nx + 8 * ops.size }
  | .seq a b, st, Q => MW M a st fun e st' => match e with
    | .normal => MW M b st' Q
    | e => Q e st'
  | .cond c a b, st, Q => match st.op c with
    | some (.flat (.bool t)) => (match t with
      | true => MW M a st Q
      | false => MW M b st Q)
    | _ => False
  | .block id c, st, Q => MW M c st fun e st' => match e with
    | .exit i => if i = id then Q .normal st' else Q (.exit i) st'
    | e => Q e st'
  | .loop c, st, Q => ∃ nz fz ks live k n, cutOk M.pm fz ks ∧ MLoop M.pm (MW M c) Q n (cut ks live k (frz fz (nils nz st)))
  | .exit id, st, Q => Q (.exit id) st
  | .ret, st, Q => Q .ret st
  | _, _, _ => False

variable {M : Mach}
theorem call_mono {f : FuncId} {args : List AV} {T : Table} {base : Nat} {K K' : AV → Table → List Nat → List Nat → Prop} (h : CallK P f args T base K) (hk : ∀ v T' rd wr, K v T' rd wr → K' v T' rd wr) : CallK P f args T base K' := by
  obtain ⟨v, T', rd, wr, h1, h2⟩ := h
  exact ⟨v, T', rd, wr, h1, hk _ _ _ _ h2⟩

theorem MStep_ok (hM : M.Ok P) {ops : Array Oper} {base i : Nat} {o : Oper} {st : St} {K K' : St → Foot → Prop} (ho : ops[i]? = some o) (h : MStep M ops base i o st K) (hk : ∀ s f, K s f → K' s f) : AStepF P ops base i st K' := by
  unfold MStep at h
  unfold AStepF
  simp only [ho]
  split at h
  · exact h.elim
  · rename_i hw; simp only [hw]; exact hk _ _ h
  · rename_i hw
    simp only [hw]
    split at h
    · rename_i hc
      rw [if_pos hc]
      split at h
      · rename_i f xs hcf
        split at h
        · rename_i args ha
          obtain ⟨v, T', rd, wr, h1, h4⟩ := hM.call _ _ _ _ _ h
          exact ⟨f, xs, args, v, T', rd, wr, hcf, ha, h1, hk _ _ h4⟩
        · exact h.elim
      · exact h.elim
    · rename_i hc
      rw [if_neg (by simp [hc])]
      split at h
      · rename_i v T' he
        simp only [hM.ev _ _ _ _ _ _ he]
        exact hk _ _ h
      · exact h.elim

theorem range_drop {n i : Nat} (h : i < n) : (List.range n).drop i = i :: (List.range n).drop (i + 1) := by
  have hl : i < (List.range n).length := by simpa using h
  rw [List.drop_eq_getElem_cons hl]
  simp

theorem MOps_ok (hM : M.Ok P) {ops : Array Oper} {base : Nat} {K K' : St → Prop} (hk : ∀ s, K s → K' s) : ∀ (l : List Oper) (i : Nat) (st : St), ops.toList.drop i = l → MOps M ops base l i st K → AOps P ops base ((List.range ops.size).drop i) st K' := by
  intro l
  induction l with
  | nil =>
    intro i st hl h
    have hle : ops.size ≤ i := by
      have := congrArg List.length hl
      simp at this; omega
    rw [List.drop_eq_nil_of_le (by simpa using hle)]
    exact hk _ h
  | cons o l ih =>
    intro i st hl h
    have hlt : i < ops.size := by
      have := congrArg List.length hl
      simp at this; omega
    have ho : ops[i]? = some o := by
      have := congrArg (·[0]?) hl
      simpa using this
    rw [range_drop hlt]
    refine MStep_ok hM ho h fun s f hs => ih (i + 1) s ?_ hs
    have := congrArg List.tail hl
    simpa using this

theorem MOpsD_ok (hM : M.Ok P) {ops : Array Oper} {base : Nat} {K K' : St → List Foot → Prop} (hk : ∀ s f, K s f → K' s f) : ∀ (l : List Oper) (i : Nat) (st : St) (fs : List Foot), ops.toList.drop i = l → MOpsD M ops base l i st fs K → AOpsD P ops base ((List.range ops.size).drop i) st fs K' := by
  intro l
  induction l with
  | nil =>
    intro i st fs hl h
    have hle : ops.size ≤ i := by
      have := congrArg List.length hl
      simp at this; omega
    rw [List.drop_eq_nil_of_le (by simpa using hle)]
    exact hk _ _ h
  | cons o l ih =>
    intro i st fs hl h
    have hlt : i < ops.size := by
      have := congrArg List.length hl
      simp at this; omega
    have ho : ops[i]? = some o := by
      have := congrArg (·[0]?) hl
      simpa using this
    rw [range_drop hlt]
    refine MStep_ok hM ho h fun s f hs => ih (i + 1) s _ ?_ hs
    have := congrArg List.tail hl
    simpa using this

theorem MW_ok (hM : M.Ok P) : ∀ (c : Code) (st : St) (Q Q' : Exit → St → Prop), (∀ e s, Q e s → Q' e s) → MW M c st Q → AW P M.pm c st Q' := by
  intro c
  induction c with
  | skip => intro st Q Q' hq h; exact hq _ _ h
  | exit id => intro st Q Q' hq h; exact hq _ _ h
  | ret => intro st Q Q' hq h; exact hq _ _ h
  | region id ops draw =>
    intro st Q Q' hq h
    cases draw with
    | true =>
      obtain ⟨h1, h2⟩ := h
      refine ⟨hM.dk _ h1, ?_⟩
      have := MOpsD_ok hM (K' := fun st' fs => indepB ops fs = true ∧ Q' .normal { st' with nx := st.nx + 8 * ops.size }) (fun s f hs => ⟨hM.ib _ _ hs.1, hq _ _ hs.2⟩) _ 0 st [] rfl h2
      simpa using this
    | false =>
      have := MOps_ok hM (K' := fun st' => Q' .normal { st' with nx := st.nx + 8 * ops.size }) (fun s hs => hq _ _ hs) _ 0 st rfl h
      have e : AW P M.pm (.region id ops false) st Q' = AOps P ops st.nx (List.range ops.size) st fun st' => Q' .normal { st' with nx := st.nx + 8 * ops.size } := rfl
      rw [e]
      simpa using this
  | seq a b iha ihb =>
    intro st Q Q' hq h
    refine iha st _ _ (fun e s hs => ?_) h
    cases e with
    | normal => exact ihb s Q Q' hq hs
    | _ => exact hq _ _ hs
  | cond c a b iha ihb =>
    intro st Q Q' hq h
    simp only [MW] at h
    simp only [AW]
    split at h
    · rename_i t hc
      simp only [hc]
      cases t with
      | true => exact iha st Q Q' hq h
      | false => exact ihb st Q Q' hq h
    · exact h.elim
  | block id c ih =>
    intro st Q Q' hq h
    refine ih st _ _ (fun e s hs => ?_) h
    cases e with
    | exit i =>
      simp only at hs ⊢
      split at hs
      · rename_i hi; rw [if_pos hi]; exact hq _ _ hs
      · rename_i hi; rw [if_neg hi]; exact hq _ _ hs
    | _ => exact hq _ _ hs
  | loop c ih =>
    intro st Q Q' hq h
    obtain ⟨nz, fz, ks, live, k, n, hnd, h⟩ := h
    refine ⟨nz, fz, ks, live, k, n, hnd, ?_⟩
    revert h
    generalize cut ks live k (frz fz (nils nz st)) = s0
    induction n generalizing s0 with
    | zero => intro h; exact h.elim
    | succ n ihn =>
      intro h
      refine ih s0 _ _ (fun e s hs => ?_) h
      cases e with
      | normal =>
        obtain ⟨nz, fz, ks, live, k, hnd, hs⟩ := hs
        exact ⟨nz, fz, ks, live, k, hnd, ihn _ hs⟩
      | _ => exact hq _ _ hs
  | _ => intro st Q Q' hq h; exact h.elim

/-- The record is monotone, too. -/
def Mach.MonoP (M : Mach) : Prop := ∀ f args T base K K', (∀ v T' rd wr, K v T' rd wr → K' v T' rd wr) → M.call f args T base K → M.call f args T base K'
/-- .. and no rows were handed in. -/
structure Mach.Mono (M : Mach) : Prop where
  mono : M.MonoP
  pm : M.pm = 0
theorem MStep_mono (hm : M.MonoP) {ops : Array Oper} {base i : Nat} {o : Oper} {st : St} {K K' : St → Foot → Prop} (h : MStep M ops base i o st K) (hk : ∀ s f, K s f → K' s f) : MStep M ops base i o st K' := by
  unfold MStep at h ⊢
  split at h
  · exact h.elim
  · exact hk _ _ h
  · split at h
    · split at h
      · split at h
        · exact hm _ _ _ _ _ _ (fun v T' rd wr hv => hk _ _ hv) h
        · exact h.elim
      · exact h.elim
    · split at h
      · exact hk _ _ h
      · exact h.elim
theorem MOps_mono (hm : M.MonoP) {ops : Array Oper} {base : Nat} {K K' : St → Prop} (hk : ∀ s, K s → K' s) : ∀ (l : List Oper) (i : Nat) (st : St), MOps M ops base l i st K → MOps M ops base l i st K' := by
  intro l
  induction l with
  | nil => intro i st h; exact hk _ h
  | cons o l ih => intro i st h; exact MStep_mono hm h fun s f hs => ih _ _ hs
theorem MOpsD_mono (hm : M.MonoP) {ops : Array Oper} {base : Nat} {K K' : St → List Foot → Prop} (hk : ∀ s f, K s f → K' s f) : ∀ (l : List Oper) (i : Nat) (st : St) (fs : List Foot), MOpsD M ops base l i st fs K → MOpsD M ops base l i st fs K' := by
  intro l
  induction l with
  | nil => intro i st fs h; exact hk _ _ h
  | cons o l ih => intro i st fs h; exact MStep_mono hm h fun s f hs => ih _ _ _ hs
theorem MW_mono (hm : M.MonoP) : ∀ (c : Code) (st : St) (Q Q' : Exit → St → Prop), (∀ e s, Q e s → Q' e s) → MW M c st Q → MW M c st Q' := by
  intro c
  induction c with
  | skip => intro st Q Q' hq h; exact hq _ _ h
  | exit id => intro st Q Q' hq h; exact hq _ _ h
  | ret => intro st Q Q' hq h; exact hq _ _ h
  | region id ops draw =>
    intro st Q Q' hq h
    cases draw with
    | true => exact ⟨h.1, MOpsD_mono hm (fun s f hs => ⟨hs.1, hq _ _ hs.2⟩) _ _ _ _ h.2⟩
    | false => exact MOps_mono hm (fun s hs => hq _ _ hs) _ _ _ h
  | seq a b iha ihb =>
    intro st Q Q' hq h
    refine iha st _ _ (fun e s hs => ?_) h
    cases e with
    | normal => exact ihb s Q Q' hq hs
    | _ => exact hq _ _ hs
  | cond c a b iha ihb =>
    intro st Q Q' hq h
    simp only [MW] at h ⊢
    split at h
    · rename_i t hc
      cases t with
      | true => exact iha st Q Q' hq h
      | false => exact ihb st Q Q' hq h
    · exact h.elim
  | block id c ih =>
    intro st Q Q' hq h
    refine ih st _ _ (fun e s hs => ?_) h
    cases e with
    | exit i =>
      simp only at hs ⊢
      split at hs
      · rename_i hi; rw [if_pos hi]; exact hq _ _ hs
      · rename_i hi; rw [if_neg hi]; exact hq _ _ hs
    | _ => exact hq _ _ hs
  | loop c ih =>
    intro st Q Q' hq h
    obtain ⟨nz, fz, ks, live, k, n, hnd, h⟩ := h
    refine ⟨nz, fz, ks, live, k, n, hnd, ?_⟩
    revert h
    generalize cut ks live k (frz fz (nils nz st)) = s0
    induction n generalizing s0 with
    | zero => intro h; exact h.elim
    | succ n ihn =>
      intro h
      refine ih s0 _ _ (fun e s hs => ?_) h
      cases e with
      | normal =>
        obtain ⟨nz, fz, ks, live, k, hnd, hs⟩ := hs
        exact ⟨nz, fz, ks, live, k, hnd, ihn _ hs⟩
      | _ => exact hq _ _ hs
  | _ => intro st Q Q' hq h; exact h.elim

/-- A loop with a measure: 'I k' of the states that a round begins with. -/
theorem loop_ruleN (hm : M.MonoP) {c : Code} {Q : Exit → St → Prop} (I : Nat → St → Prop)
    (h : ∀ k st, I k st → MW M c st fun e st' => match e with
      | .normal => ∃ nz fz ks live n k', k' < k ∧ cutOk M.pm fz ks ∧ I k' (cut ks live n (frz fz (nils nz st')))
      | e => Q e st') : ∀ k st, I k st → ∃ n, MLoop M.pm (MW M c) Q n st := by
  have key : ∀ n k st, k < n → I k st → MLoop M.pm (MW M c) Q n st := by
    intro n
    induction n with
    | zero => intro k st hk; omega
    | succ n ih =>
      intro k st hk hI
      refine MW_mono hm c st _ _ (fun e s hs => ?_) (h k st hI)
      cases e with
      | normal =>
        obtain ⟨nz, fz, ks, live, m, k', hlt, hnd, hI'⟩ := hs
        exact ⟨nz, fz, ks, live, m, hnd, ih k' _ (by omega) hI'⟩
      | _ => exact hs
  exact fun k st hI => ⟨k + 1, key (k + 1) k st (by omega) hI⟩

/-- The loop as it stands in code: slices that are nil become rows, rows may be frozen. -/
theorem MW_loopN (hm : M.MonoP) {c : Code} {Q : Exit → St → Prop} {st : St} (nz : List NilAt) (fz ks live : List Nat) (n : Nat) (hco : cutOk M.pm fz ks) (I : Nat → St → Prop) (k : Nat) (h0 : I k (cut ks live n (frz fz (nils nz st))))
    (h : ∀ k st, I k st → MW M c st fun e st' => match e with
      | .normal => ∃ nz fz ks live n k', k' < k ∧ cutOk M.pm fz ks ∧ I k' (cut ks live n (frz fz (nils nz st')))
      | e => Q e st') : ∃ nz fz ks live k n, cutOk M.pm fz ks ∧ MLoop M.pm (MW M c) Q n (cut ks live k (frz fz (nils nz st))) := by
  obtain ⟨m, hm⟩ := loop_ruleN hm I h k _ h0
  exact ⟨nz, fz, ks, live, n, m, hco, hm⟩

theorem cutOk_of (h : M.pm = 0) {fz ks : List Nat} (hnd : ks.Nodup) : cutOk M.pm fz ks := by
  rw [h]
  exact ⟨hnd, rfl, .inl rfl⟩

/-- .. with rows frozen. -/
theorem MW_loopF (hm : M.Mono) {c : Code} {Q : Exit → St → Prop} {st : St} (fz ks live : List Nat) (n : Nat) (hnd : ks.Nodup) (I : Nat → St → Prop) (k : Nat) (h0 : I k (cut ks live n (frz fz st)))
    (h : ∀ k st, I k st → MW M c st fun e st' => match e with
      | .normal => ∃ fz ks live n k', k' < k ∧ ks.Nodup ∧ I k' (cut ks live n (frz fz st'))
      | e => Q e st') : ∃ nz fz ks live k n, cutOk M.pm fz ks ∧ MLoop M.pm (MW M c) Q n (cut ks live k (frz fz (nils nz st))) :=
  MW_loopN hm.mono [] fz ks live n (cutOk_of hm.pm hnd) I k h0 fun k st hI => MW_mono hm.mono c st _ _ (fun e s hs => by
    cases e with
    | normal =>
      obtain ⟨fz, ks, live, m, k', hlt, hnd, hI'⟩ := hs
      exact ⟨[], fz, ks, live, m, k', hlt, cutOk_of hm.pm hnd, hI'⟩
    | _ => exact hs) (h k st hI)

/-- .. with slices that are nil ahead of it. -/
theorem MW_loopZ (hm : M.Mono) {c : Code} {Q : Exit → St → Prop} {st : St} (nz : List NilAt) (ks live : List Nat) (n : Nat) (hnd : ks.Nodup) (I : Nat → St → Prop) (k : Nat) (h0 : I k (cut ks live n (nils nz st)))
    (h : ∀ k st, I k st → MW M c st fun e st' => match e with
      | .normal => ∃ ks live n k', k' < k ∧ ks.Nodup ∧ I k' (cut ks live n st')
      | e => Q e st') : ∃ nz fz ks live k n, cutOk M.pm fz ks ∧ MLoop M.pm (MW M c) Q n (cut ks live k (frz fz (nils nz st))) :=
  MW_loopN hm.mono nz [] ks live n (cutOk_of hm.pm hnd) I k h0 fun k st hI => MW_mono hm.mono c st _ _ (fun e s hs => by
    cases e with
    | normal =>
      obtain ⟨ks, live, m, k', hlt, hnd, hI'⟩ := hs
      exact ⟨[], [], ks, live, m, k', hlt, cutOk_of hm.pm hnd, hI'⟩
    | _ => exact hs) (h k st hI)

/-- .. as it stands. -/
theorem MW_loop (hm : M.Mono) {c : Code} {Q : Exit → St → Prop} {st : St} (ks live : List Nat) (n : Nat) (hnd : ks.Nodup) (I : Nat → St → Prop) (k : Nat) (h0 : I k (cut ks live n st))
    (h : ∀ k st, I k st → MW M c st fun e st' => match e with
      | .normal => ∃ ks live n k', k' < k ∧ ks.Nodup ∧ I k' (cut ks live n st')
      | e => Q e st') : ∃ nz fz ks live k n, cutOk M.pm fz ks ∧ MLoop M.pm (MW M c) Q n (cut ks live k (frz fz (nils nz st))) :=
  MW_loopZ hm [] ks live n hnd I k h0 h

/-- .. where rows were handed in. -/
theorem MW_loopP (hm : M.MonoP) {c : Code} {Q : Exit → St → Prop} {st : St} (ks live : List Nat) (n : Nat) (hnd : ks.Nodup ∧ ks.take M.pm = List.range M.pm) (I : Nat → St → Prop) (k : Nat) (h0 : I k (cut ks live n st))
    (h : ∀ k st, I k st → MW M c st fun e st' => match e with
      | .normal => ∃ ks live n k', k' < k ∧ (ks.Nodup ∧ ks.take M.pm = List.range M.pm) ∧ I k' (cut ks live n st')
      | e => Q e st') : ∃ nz fz ks live k n, cutOk M.pm fz ks ∧ MLoop M.pm (MW M c) Q n (cut ks live k (frz fz (nils nz st))) :=
  MW_loopN hm [] [] ks live n ⟨hnd.1, hnd.2, .inr rfl⟩ I k h0 fun k st hI => MW_mono hm c st _ _ (fun e s hs => by
    cases e with
    | normal =>
      obtain ⟨ks, live, m, k', hlt, hnd, hI'⟩ := hs
      exact ⟨[], [], ks, live, m, k', hlt, ⟨hnd.1, hnd.2, .inr rfl⟩, hI'⟩
    | _ => exact hs) (h k st hI)
end Go.Proofs.Ytnceadbfgpiaaaa.G
