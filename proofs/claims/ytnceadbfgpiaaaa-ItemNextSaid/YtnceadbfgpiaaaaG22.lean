/- Small goals: types are told by functions, and operations without their places and edges. Plain theorems over any program. -/
import Derived.Test.YtnceadbfgpiaaaaG21
namespace Go.Proofs.Ytnceadbfgpiaaaa.G
set_option linter.unusedVariables false
set_option linter.unusedSimpArgs false
open Go
variable {P : Program}

structure TabF where
  ti : TypeId → Option (Option Value × Nat × Nat)
  un : TypeId → Option TypeDesc
  pl : TypeId → Option (List (Nat × Nat))
structure TabF.Ok (P : Program) (tf : TabF) : Prop where
  ti : ∀ t x, tf.ti t = some x → tinfo P t = some x
  un : ∀ t x, tf.un t = some x → P.underlying t = some x
  pl : ∀ t l, tf.pl t = some l → ∃ f, placesOf P t = some f ∧ ∀ i, f i = l[i]?

def envF (tf : TabF) (S : Sym) : Env := { ti := tf.ti, un := tf.un, pl := tf.pl, bin := binF S, una := unF S, conv := S.conv, len := S.len, sln := S.sln, nat := S.nat, nth := S.nth, ixs := S.ixs, cel := S.cel, sto := S.sto, app := S.app, cpy := S.cpy, slc := S.slc, mak := S.mak, ixv := S.ixv, oth := S.oth }
def machP (pm : Nat) (tf : TabF) (S : Sym) : Mach where
  ev := evE (envF tf S)
  dk := S.dk
  ib := S.ib
  call := S.call
  pm := pm
def machF (tf : TabF) (S : Sym) : Mach where
  ev := evE (envF tf S)
  dk := S.dk
  ib := S.ib
  call := S.call
  pm := 0
theorem machP_ok {tf : TabF} (pm : Nat) (ht : tf.Ok P) : (machP pm tf (realSym P)).Ok P where
  ev T id ρ ty op r h := evE_ok (P := P) {
    ti := ht.ti
    un := ht.un
    pl := ht.pl
    bin := fun op t a b x y r h => binF_ok h
    una := fun op a r h => unF_ok h
    conv := fun T s d a r h => h
    len := rfl
    sln := rfl
    nat := rfl
    nth := rfl
    ixs := rfl
    cel := rfl
    sto := rfl
    app := fun T id t u s x r h => h
    cpy := fun T t s x r h => h
    slc := fun T t a l h r hh => hh
    mak := fun T id t a b r h => h
    ixv := fun t a b r h => h
    oth := fun T id ρ ty op r h => h } h
  dk ops h := h
  ib ops fs h := h
  call f args T base K h := h
theorem machF_ok {tf : TabF} (ht : tf.Ok P) : (machF tf (realSym P)).Ok P := machP_ok 0 ht
theorem machF_mono {tf : TabF} : (machF tf (realSym P)).Mono := ⟨fun f args T base K K' hk h => call_mono h hk, rfl⟩
theorem machP_mono {pm : Nat} {tf : TabF} : (machP pm tf (realSym P)).MonoP := fun f args T base K K' hk h => call_mono h hk

/-- An operation without its place and its edges. -/
def sop (o : Oper) : Oper := { o with pos := "", after := #[] }
def stripC : Code → Code
  | .region id ops false => .region id ⟨ops.toList.map sop⟩ false
  | .seq a b => .seq (stripC a) (stripC b)
  | .cond c a b => .cond c (stripC a) (stripC b)
  | .block id c => .block id (stripC c)
  | .loop c => .loop (stripC c)
  | c => c
theorem get_sop (ops : Array Oper) (j : Nat) : ((⟨ops.toList.map sop⟩ : Array Oper)[j]?).bind (·.dst) = (ops[j]?).bind (·.dst) := by
  rw [← Array.getElem?_toList]
  show ((ops.toList.map sop)[j]?).bind (·.dst) = _
  rw [List.getElem?_map, ← Array.getElem?_toList]
  cases ops.toList[j]? <;> rfl
theorem step_sop {M : Mach} {ops : Array Oper} {base i : Nat} {o : Oper} {st : St} {K : St → Foot → Prop} : MStep M ⟨ops.toList.map sop⟩ base i (sop o) st K = MStep M ops base i o st K := by
  have hw : wantedA st ⟨ops.toList.map sop⟩ (sop o) = wantedA st ops o := by
    unfold wantedA
    simp only [get_sop]
    rfl
  unfold MStep
  rw [hw]
  rfl
theorem ops_sop {M : Mach} {ops : Array Oper} {base : Nat} : ∀ (l : List Oper) (i : Nat) (st : St) (K : St → Prop), MOps M ⟨ops.toList.map sop⟩ base (l.map sop) i st K = MOps M ops base l i st K
  | [], i, st, K => rfl
  | o :: l, i, st, K => by
    show MStep M _ base i (sop o) st _ = MStep M ops base i o st _
    rw [step_sop]
    simp only [ops_sop l]
theorem MW_strip {M : Mach} : ∀ (c : Code), MW M (stripC c) = MW M c := by
  intro c
  induction c with
  | region id ops draw =>
    cases draw with
    | true => rfl
    | false =>
      funext st Q
      show MOps M _ st.nx (ops.toList.map sop) 0 st _ = MOps M ops st.nx ops.toList 0 st _
      rw [ops_sop]
      have e : (⟨ops.toList.map sop⟩ : Array Oper).size = ops.size := by simp
      rw [e]
  | seq a b iha ihb =>
    funext st Q
    show MW M (stripC a) st _ = MW M a st _
    rw [iha, ihb]
  | cond c a b iha ihb =>
    funext st Q
    simp only [stripC, MW, iha, ihb]
  | block id c ih =>
    funext st Q
    show MW M (stripC c) st _ = MW M c st _
    rw [ih]
  | loop c ih =>
    funext st Q
    simp only [stripC, MW, ih]
  | _ => rfl

/-- A function's contract, from its body, by evaluation. -/
theorem acalls_symF {tf : TabF} (ht : tf.Ok P) {f : FuncId} {fn : Func} {c : Code} {args : List AV} {val : Nat → AV} {rows : Nat → List Row} (hf : P.funcs[f]? = some fn) (hb : fn.body = some c) (hname : (fn.name == "runtime.NumGoroutine") = false)
    (hn : Nat.ble args.length fn.ntmps = true) (hd : dstsOk fn.ntmps c = true)
    (h : ∀ S : Sym, S = realSym P → (machF tf S).Mono → ∀ Q : Exit → St → Prop, (∀ e st, endOk e → Leaves P fn val rows st → Q e st) → MW (machF tf S) (stripC c) (st0 args) Q) : ACalls P f args val rows :=
  acalls_of hf hb hname hn hd fun Q hQ => MW_ok (machF_ok ht) c _ _ _ (fun _ _ h => h) (by
    have := h _ rfl machF_mono Q hQ
    rw [MW_strip] at this
    exact this)
/-- .. of a function that is handed rows of the caller's. -/
theorem pcalls_symF {tf : TabF} (ht : tf.Ok P) {f : FuncId} {fn : Func} {c : Code} {args : List AV} {R0 : List Row} {val : AV} {R1 : List (Option Row)} (pm : Nat) (hm0 : 0 < pm) (hml : pm ≤ R0.length) (hf : P.funcs[f]? = some fn) (hb : fn.body = some c) (hname : (fn.name == "runtime.NumGoroutine") = false)
    (hn : Nat.ble args.length fn.ntmps = true) (hd : dstsOk fn.ntmps c = true)
    (h : ∀ S : Sym, S = realSym P → (machP pm tf S).MonoP → ∀ Q : Exit → St → Prop, (∀ e st, endOk e → PLeaves P fn pm val R1 st → Q e st) → MW (machP pm tf S) (stripC c) (stP args R0) Q) : PCalls P f pm args R0 val R1 := by
  refine pcalls_of hm0 hml hf hb hname hn hd fun Q hQ => MW_ok (machP_ok pm ht) c _ _ _ (fun _ _ h => h) ?_
  have := h _ rfl machP_mono Q hQ
  rw [MW_strip] at this
  exact this
/-- A slice that is nil, handed back: an empty row. -/
theorem Leaves.nil {fn : Func} {st : St} (t : Nat) (e : TypeId) (hr : fn.results.toList = [.tmp t]) (h : st.s t = .flat (.slice none 0 0)) : Leaves P fn (fun m => .sl m 0 0) (fun _ => [⟨e, []⟩]) st := by
  refine ⟨[.slot t e], [], [st.nx], .sl st.nx 0 0, [⟨e, []⟩], ?_, by simp, by simp, by simp [closedIn], ?_, ?_, fun m => ⟨by simp [ren, newName], by simp [renRow]⟩⟩
  · show resA P fn (nilSlot t e st) = _
    unfold nilSlot
    rw [h]
    simp [resA, hr, resV, St.op, upd, AV.isDead, oneOf]
  · show [st.nx].map (nilSlot t e st).T = _
    unfold nilSlot
    rw [h]
    simp [Table.set]
  · intro r hr' e' he'
    simp at hr'
    subst hr'
    cases he'
end Go.Proofs.Ytnceadbfgpiaaaa.G
