/- A function is called: its body told by the abstract machine gives its contract; the rows that it hands back have new names. Plain theorems over any program. -/
import Derived.Test.YtnceadbfgpiaaaaG13
import Derived.Laws.Sem
namespace Go.Proofs.Ytnceadbfgpiaaaa.G
set_option linter.unusedVariables false
set_option linter.unusedSimpArgs false
open Go
variable {P : Program}

def resV (P : Program) (st : St) : List ResultVar → Option (List AV)
  | [] => some []
  | .tmp t :: l => (st.op (.tmp t)).bind fun x => (resV P st l).map (x :: ·)
  | .cell a t :: l => (st.op (.tmp a)).bind fun b => (evLoad P st.T t b).bind fun x => (resV P st l).map (x :: ·)
def oneOf : List AV → AV
  | [x] => x
  | l => .tup l
def resA (P : Program) (fn : Func) (st : St) : Option AV := (resV P st fn.results.toList).map oneOf

theorem resV_sound {S : Start} {fresh : Nat → Prop} {st : St} {a : Act} {w : World} {L : Nat → Prop} {μ : Map} (h : Core P S fresh st a w L μ) : ∀ {l : List ResultVar} {xs : List AV}, resV P st l = some xs →
    ∃ us : List Value, (l.mapM (fun | .tmp t => (pure (a.tmps.getD t undef) : Sem Value) | .cell b t => do loadVar t (← asAddr (a.tmps.getD b undef))) : Sem (List Value)).run P w = .ok us w ∧ us.length = xs.length ∧ ∀ i x, xs[i]? = some x → VRel w L μ (us.toArray.getD i undef) x := by
  intro l
  induction l with
  | nil => intro xs hx; simp only [resV, Option.some.injEq] at hx; subst hx; exact ⟨[], rfl, rfl, fun i x h => by simp at h⟩
  | cons r l ih =>
    intro xs hx
    have fin : ∀ {u : Value} {y : AV} {ys : List AV} {us : List Value} {m : Sem Value}, m.run P w = .ok u w → VRel w L μ u y → (l.mapM (fun | .tmp t => (pure (a.tmps.getD t undef) : Sem Value) | .cell b t => do loadVar t (← asAddr (a.tmps.getD b undef))) : Sem (List Value)).run P w = .ok us w →
        us.length = ys.length → (∀ i x, ys[i]? = some x → VRel w L μ (us.toArray.getD i undef) x) → (do let v ← m; let vs ← (l.mapM (fun | .tmp t => (pure (a.tmps.getD t undef) : Sem Value) | .cell b t => do loadVar t (← asAddr (a.tmps.getD b undef))) : Sem (List Value)); pure (v :: vs) : Sem (List Value)).run P w = .ok (u :: us) w ∧
          (u :: us).length = (y :: ys).length ∧ ∀ i x, (y :: ys)[i]? = some x → VRel w L μ ((u :: us).toArray.getD i undef) x := by
      intro u y ys us m hm hu hr hl hh
      refine ⟨?_, by simp [hl], fun i x hx => ?_⟩
      · rw [run_bind _ _ hm, run_bind _ _ hr]; rfl
      · cases i with
        | zero => simp at hx; subst hx; simpa [Array.getD] using hu
        | succ i => have := hh i x (by simpa using hx); simpa [Array.getD_eq_getD_getElem?] using this
    cases r with
    | tmp t =>
      simp only [resV] at hx
      obtain ⟨x0, hx0, hx⟩ := Option.bind_eq_some_iff.1 hx
      obtain ⟨ys, hys, rfl⟩ := Option.map_eq_some_iff.1 hx
      obtain ⟨us, hr, hl, hh⟩ := ih hys
      refine ⟨a.tmps.getD t undef :: us, ?_⟩
      rw [List.mapM_cons]
      exact fin (u := a.tmps.getD t undef) (by rfl) (h.op (.tmp t) x0 hx0) hr hl hh
    | cell b t =>
      simp only [resV] at hx
      obtain ⟨b0, hb0, hx⟩ := Option.bind_eq_some_iff.1 hx
      obtain ⟨y, hy, hx⟩ := Option.bind_eq_some_iff.1 hx
      obtain ⟨ys, hys, rfl⟩ := Option.map_eq_some_iff.1 hx
      obtain ⟨us, hr, hl, hh⟩ := ih hys
      unfold evLoad at hy
      obtain ⟨cs, hcs, hy⟩ := Option.bind_eq_some_iff.1 hy
      obtain ⟨ad, ha, hc⟩ := cellsAt_sound h.tab (h.op (.tmp b) b0 hb0) hcs
      obtain ⟨u, hru, hu⟩ := ofCells_sound hc hy
      refine ⟨u :: us, ?_⟩
      rw [List.mapM_cons]
      refine fin ?_ hu hr hl hh
      show (do loadVar t (← asAddr (a.tmps.getD b undef)) : Sem Value).run P w = .ok u w
      have ha' : a.tmps.getD b undef = .pointer (some ad) := ha
      rw [ha']
      exact (run_bind _ _ (by rfl : (asAddr (.pointer (some ad))).run P w = .ok ad w)).trans hru

theorem resA_sound {S : Start} {fresh : Nat → Prop} {st : St} {a : Act} {w : World} {L : Nat → Prop} {μ : Map} (h : Core P S fresh st a w L μ) {fn : Func} {x : AV} (hx : resA P fn st = some x) : ∃ v, (results fn a.tmps).run P w = .ok v w ∧ VRel w L μ v x := by
  obtain ⟨xs, hxs, rfl⟩ := Option.map_eq_some_iff.1 hx
  obtain ⟨us, hr, hl, hh⟩ := resV_sound h hxs
  have e : results fn a.tmps = (do let vs ← (List.toArray <$> (fn.results.toList.mapM (fun | .tmp t => (pure (a.tmps.getD t undef) : Sem Value) | .cell b t => do loadVar t (← asAddr (a.tmps.getD b undef))) : Sem (List Value)) : Sem (Array Value)); pure (if h : vs.size = 1 then vs[0] else .tuple vs)) := by
    unfold results
    rw [Array.mapM_eq_mapM_toList]
    rfl
  rw [e, map_eq_pure_bind]
  refine ⟨if h : us.toArray.size = 1 then us.toArray[0] else .tuple us.toArray, ?_, ?_⟩
  · rw [run_bind _ _ (run_bind _ _ hr)]
    rfl
  · match xs, us, hl, hh with
    | [], [], _, hh => exact .tup rfl fun i x h => by simp at h
    | [x], [u], _, hh =>
      have := hh 0 x rfl
      simpa [Array.getD, oneOf] using this
    | x :: y :: xs, u :: z :: us, hl, hh =>
      rw [dif_neg (by simp)]
      exact .tup (by simpa using hl) hh

/-- What a body leaves: its results, and of its rows those that the results lead to, under new names. -/
def LeavesC (P : Program) (fn : Func) (val : Nat → AV) (rows : Nat → List Row) (st : St) : Prop :=
  ∃ (ks : List Nat) (x : AV) (rs : List Row), resA P fn st = some x ∧ ks.Nodup ∧ ks.length ≤ 8 ∧ closedIn ks x = true ∧ ks.map st.T = rs.map some ∧ (∀ r ∈ rs, ∀ e ∈ r.els, closedAll ks e = true) ∧
    ∀ n, ren (newName ks n) x = val n ∧ rs.map (renRow (newName ks n)) = rows n

/-- .. behind some steps that change nothing in memory. -/
def Leaves (P : Program) (fn : Func) (val : Nat → AV) (rows : Nat → List Row) (st : St) : Prop := ∃ nz fz, LeavesC P fn val rows (frz fz (nils nz st))
/-- What a body leaves that was handed rows of the caller's. -/
def PLeaves (P : Program) (fn : Func) (m : Nat) (val : AV) (R1 : List (Option Row)) (st : St) : Prop :=
  ∃ nz ks x, resA P fn (nils nz st) = some x ∧ cutOk m [] ks ∧ ks.length ≤ m + 8 ∧ closedIn ks x = true ∧ ren (newName ks 0) x = val ∧ cutRows ks (nils nz st).T ks = R1
def stP (args : List AV) (R0 : List Row) : St := ⟨fun t => (args[t]?).getD (.flat undef), tabO (R0.map some), R0.length⟩

def st0 (args : List AV) : St := ⟨fun t => (args[t]?).getD (.flat undef), fun _ => none, 0⟩
def endOk : Exit → Prop
  | .normal | .ret => True
  | _ => False

theorem LeavesC.cut {S : Start} {fn : Func} {val : Nat → AV} {rows : Nat → List Row} {fresh : Nat → Prop} {st : St} {a : Act} {w : World} {L : Nat → Prop} {μ : Map} (hC : Core P S fresh st a w L μ) (h : LeavesC P fn val rows st) (n : Nat) :
    ∃ v μ', (results fn a.tmps).run P w = .ok v w ∧ VRel w L μ' v (val n) ∧ TRel P w L μ' (tabAt n (rows n)) ∧ (∀ id q, μ' id = some q → n ≤ id ∧ id < n + 8) ∧
      ∀ id r p, tabAt n (rows n) id = some r → μ' id = some (some p) → S.w0.heap.size ≤ p.g ∨ S.old p.g := by
  obtain ⟨ks, x, rs, hx, hnd, h8, hcl, hrs, hcr, hn⟩ := h
  obtain ⟨v, hr, hv⟩ := resA_sound hC hx
  obtain ⟨h1, h2⟩ := hn n
  have hlen : ks.length = rs.length := by simpa using congrArg List.length hrs
  have hT : ∀ id r, tabAt n (rows n) id = some r → n ≤ id ∧ ∃ k r0, ks[id - n]? = some k ∧ st.T k = some r0 ∧ r = renRow (newName ks n) r0 ∧ ∀ e ∈ r0.els, closedAll ks e = true := by
    intro id r h
    unfold tabAt at h
    split at h
    · rename_i hle
      refine ⟨hle, ?_⟩
      rw [← h2, List.getElem?_map] at h
      obtain ⟨r0, hr0, rfl⟩ := Option.map_eq_some_iff.1 h
      have hlt : id - n < ks.length := by rw [hlen]; exact (List.getElem?_eq_some_iff.1 hr0).1
      have := congrArg (·[id - n]?) hrs
      simp only [List.getElem?_map, hr0, List.getElem?_eq_getElem hlt, Option.map_some, Option.some.injEq] at this
      exact ⟨_, r0, List.getElem?_eq_getElem hlt, this, rfl, hcr r0 (List.mem_of_getElem? hr0)⟩
    · cases h
  refine ⟨v, renMap μ ks n, hr, h1 ▸ ren_rel hv hcl, ⟨fun id r h => ?_, fun id id' r r' p p' h h' hp hp' hne => ?_⟩, fun id q hq => ?_, fun id r p h hp => ?_⟩
  · obtain ⟨hle, k, r0, hk, hT0, rfl, hc0⟩ := hT id r h
    obtain ⟨q, hq, hrow, hnil⟩ := hC.tab.row k r0 hT0
    exact ⟨q, (hmapR hle hk).trans hq, fun p hp => row_ren (hrow p hp) hc0, fun hq => by simp [renRow, hnil hq]⟩
  · obtain ⟨hle, k, r0, hk, hT0, rfl, _⟩ := hT id r h
    obtain ⟨hle', k', r0', hk', hT0', rfl, _⟩ := hT id' r' h'
    rw [hmapR hle hk] at hp
    rw [hmapR hle' hk'] at hp'
    refine hC.tab.apart k k' r0 r0' p p' hT0 hT0' hp hp' fun e => ?_
    subst e
    obtain ⟨l1, e1⟩ := List.getElem?_eq_some_iff.1 hk
    obtain ⟨l2, e2⟩ := List.getElem?_eq_some_iff.1 hk'
    have := nodup_inj hnd l1 l2 (e1.trans e2.symm)
    omega
  · unfold renMap at hq
    split at hq
    · omega
    · cases hq
  · obtain ⟨hle, k, r0, hk, hT0, rfl, _⟩ := hT id r h
    rw [hmapR hle hk] at hp
    exact hC.place k r0 p hT0 hp

theorem acalls_of' (hD : DrawSound P) {f : FuncId} {fn : Func} {c : Code} {args : List AV} {val : Nat → AV} {rows : Nat → List Row} (hf : P.funcs[f]? = some fn) (hb : fn.body = some c) (hname : (fn.name == "runtime.NumGoroutine") = false)
    (hn : args.length ≤ fn.ntmps) (hd : dstsOk fn.ntmps c = true) (h : AW P 0 c (st0 args) fun e st => endOk e ∧ Leaves P fn val rows st) : ACalls P f args val rows := by
  refine ⟨⟨fn, hf, hname, by rw [hb]; rfl⟩, fun n w L vs hs hvs => ?_⟩
  refine calls_of_wp hf hb ?_
  have hsz : (vs ++ Array.replicate (fn.ntmps - vs.size) undef).size = fn.ntmps := by simp; omega
  have hC : Core P ⟨w, L, fun _ => False, fn.ntmps, 0, fun _ => none⟩ (fun id => 0 ≤ id) (st0 args) { tmps := vs ++ Array.replicate (fn.ntmps - vs.size) undef, defers := [] } w L Map.empty := by
    refine ⟨hsz, rfl, fun t _ => ?_, ⟨fun id r h => (by cases h), fun id id' r r' p p' h => (by cases h)⟩, fun _ _ => rfl, rfl, rfl, rfl, Nat.le_refl _, fun _ _ _ => rfl, fun _ _ => Iff.rfl, fun id r p h => (by cases h), fun id h => absurd h (Nat.not_lt_zero _)⟩
    show VRel w L Map.empty ((vs ++ Array.replicate (fn.ntmps - vs.size) undef).getD t undef) ((args[t]?).getD (.flat undef))
    by_cases ht : t < vs.size
    · have e1 : (vs ++ Array.replicate (fn.ntmps - vs.size) undef).getD t undef = vs.getD t undef := by simp [Array.getD_eq_getD_getElem?, Array.getElem?_append, ht]
      rw [e1]
      have hlt : t < args.length := by omega
      rw [List.getElem?_eq_getElem hlt]
      exact hvs t _ (List.getElem?_eq_getElem hlt)
    · have e1 : (vs ++ Array.replicate (fn.ntmps - vs.size) undef).getD t undef = undef := by
        simp only [Array.getD_eq_getD_getElem?, Array.getElem?_append, ht, if_false, Array.getElem?_replicate]
        split <;> rfl
      rw [e1, List.getElem?_eq_none (by omega)]
      exact .flat _ rfl
  refine AW_sound hD (fun _ _ h => h) c (st0 args) _ _ _ w hd ⟨L, Map.empty, hC⟩ h fun e st a w' he hR => ?_
  obtain ⟨hend, nz, fz, hl⟩ := he
  obtain ⟨L', μ, hC'⟩ := frzs_sound rfl (fun _ h => h) fz (nils_sound nz hR)
  obtain ⟨v, μ', hr, hv, hT, hid, hp⟩ := hl.cut hC' n
  have fin : a.defers = [] ∧ ∃ v, (results fn a.tmps).run P w' = .ok v w' ∧ ∃ v_1 L' μ', Ending.returned v = .returned v_1 ∧ VRel w' L' μ' v_1 (val n) ∧ TRel P w' L' μ' (tabAt n (rows n)) ∧ (∀ id q, μ' id = some q → n ≤ id ∧ id < n + 8) ∧
      w'.os = w.os ∧ w'.tape = w.tape ∧ w'.output = w.output ∧ w.heap.size ≤ w'.heap.size ∧ (∀ b, b < w.heap.size → w'.heap[b]? = w.heap[b]?) ∧ (∀ b, b < w.heap.size → (L' b ↔ L b)) ∧
      (∀ id r p, tabAt n (rows n) id = some r → μ' id = some (some p) → w.heap.size ≤ p.g) :=
    ⟨hC'.defers, v, hr, v, L', μ', rfl, hv, hT, hid, hC'.os, hC'.tape, hC'.output, hC'.grown, fun b hb => hC'.block b hb (fun h => h), hC'.L, fun id r p h hp' => (hp id r p h hp').elim (fun h => h) (fun h => h.elim)⟩
  cases e with
  | normal => exact fin
  | ret => exact fin
  | _ => exact hend.elim

theorem pcalls_of' (hD : DrawSound P) {f : FuncId} {fn : Func} {c : Code} {args : List AV} {R0 : List Row} {val : AV} {R1 : List (Option Row)} {m : Nat} (hm0 : 0 < m) (hml : m ≤ R0.length) (hf : P.funcs[f]? = some fn) (hb : fn.body = some c) (hname : (fn.name == "runtime.NumGoroutine") = false)
    (hn : args.length ≤ fn.ntmps) (hd : dstsOk fn.ntmps c = true) (h : AW P m c (stP args R0) fun e st => endOk e ∧ PLeaves P fn m val R1 st) : PCalls P f m args R0 val R1 := by
  refine ⟨⟨fn, hf, hname, by rw [hb]; rfl⟩, fun w L μ vs hs hvs hT hno => ?_⟩
  refine calls_of_wp hf hb ?_
  have hrow : ∀ id, id < R0.length → ∃ q, μ id = some q := fun id hid => by
    obtain ⟨q, hq, _⟩ := hT.row id R0[id] (by simp [tabO, List.getElem?_eq_getElem hid])
    exact ⟨q, hq⟩
  have hlt : ∀ id r, tabO (R0.map some) id = some r → id < R0.length := fun id r hr => by
    apply Nat.lt_of_not_le
    intro h
    unfold tabO at hr
    rw [List.getElem?_eq_none (by simpa using h)] at hr
    cases hr
  have hsz : (vs ++ Array.replicate (fn.ntmps - vs.size) undef).size = fn.ntmps := by simp; omega
  have hC : Core P ⟨w, L, fun b => ∃ id r p, tabO (R0.map some) id = some r ∧ μ id = some (some p) ∧ p.g = b, fn.ntmps, m, fun id => (μ id).getD none⟩ ((stP args R0).nx ≤ ·) (stP args R0) { tmps := vs ++ Array.replicate (fn.ntmps - vs.size) undef, defers := [] } w L μ := by
    refine ⟨hsz, rfl, fun t _ => ?_, hT, hno, rfl, rfl, rfl, Nat.le_refl _, fun _ _ _ => rfl, fun _ _ => Iff.rfl, fun id r p h hp => .inr ⟨id, r, p, h, hp, rfl⟩, fun id h => ?_⟩
    · show VRel w L μ ((vs ++ Array.replicate (fn.ntmps - vs.size) undef).getD t undef) ((args[t]?).getD (.flat undef))
      by_cases ht : t < vs.size
      · have e1 : (vs ++ Array.replicate (fn.ntmps - vs.size) undef).getD t undef = vs.getD t undef := by simp [Array.getD_eq_getD_getElem?, Array.getElem?_append, ht]
        rw [e1]
        have hlt : t < args.length := by omega
        rw [List.getElem?_eq_getElem hlt]
        exact hvs t _ (List.getElem?_eq_getElem hlt)
      · have e1 : (vs ++ Array.replicate (fn.ntmps - vs.size) undef).getD t undef = undef := by
          simp only [Array.getD_eq_getD_getElem?, Array.getElem?_append, ht, if_false, Array.getElem?_replicate]
          split <;> rfl
        rw [e1, List.getElem?_eq_none (by omega)]
        exact .flat _ rfl
    · obtain ⟨q, hq⟩ := hrow id (Nat.lt_of_lt_of_le h hml)
      show μ id = some ((μ id).getD none)
      rw [hq]; rfl
  refine AW_sound hD (fun h0 b hb => ?_) c (stP args R0) _ _ _ w hd ⟨L, μ, hC⟩ h fun e st a w' he hR => ?_
  · exact absurd h0 (Nat.ne_of_gt hm0)
  obtain ⟨hend, nz, ks, x, hx, hco, h8, hcl, hval, hR1⟩ := he
  obtain ⟨L', μ1, hC1⟩ := nils_sound nz hR
  obtain ⟨v, hr, hv⟩ := resA_sound hC1 hx
  have hC2 := cut_core hC1 ks [] 0 hco.1 hco.2.1
  have hv2 := ren_rel (n := 0) hv hcl
  rw [hval] at hv2
  have hT2 : (cut ks [] 0 (nils nz st)).T = tabO R1 := by rw [← hR1]; rfl
  have fin : a.defers = [] ∧ ∃ v, (results fn a.tmps).run P w' = .ok v w' ∧ ∃ v_1 L' μ', Ending.returned v = .returned v_1 ∧ VRel w' L' μ' v_1 val ∧ TRel P w' L' μ' (tabO R1) ∧ PExt w L μ (tabO (R0.map some)) m w' L' μ' (tabO R1) ∧ ∀ id, m + 8 ≤ id → μ' id = none := by
    refine ⟨hC1.defers, v, hr, v, L', renMap μ1 ks 0, rfl, hv2, hT2 ▸ hC2.tab, ⟨hC2.os, hC2.tape, hC2.output, hC2.grown, fun b hb hn => hC2.block b hb ?_, hC2.L, fun id q hid hq => ?_, fun id r p hr hp => ?_⟩, fun id hid => hC2.fresh id (by show ks.length ≤ id; omega)⟩
    · rintro ⟨id, r, p, h1, h2, h3⟩
      exact hn id r p h1 h2 h3
    · have := hC2.pinned id hid
      rw [this]
      show some ((μ id).getD none) = some q
      rw [hq]; rfl
    · rcases hC2.place id r p (by rw [hT2]; exact hr) hp with h | ⟨id0, r0, p0, h1, h2, h3⟩
      · exact .inl h
      · exact .inr ⟨id0, r0, p0, h1, h2, h3⟩
  cases e with
  | normal => exact fin
  | ret => exact fin
  | _ => exact hend.elim
end Go.Proofs.Ytnceadbfgpiaaaa.G
