/- The record, laid over tables of types; what stays folded is named. Plain theorems over any program. -/
import Derived.Test.YtnceadbfgpiaaaaG19
namespace Go.Proofs.Ytnceadbfgpiaaaa.G
set_option linter.unusedVariables false
set_option linter.unusedSimpArgs false
open Go
variable {P : Program}

/-- What stays folded while a body is evaluated. -/
structure Sym where
  lt : Int → Int → Bool
  le : Int → Int → Bool
  eq : Int → Int → Bool
  se : ByteArray → ByteArray → Bool
  ar : BinOp → IntKind → Int → Int → Int
  dv : BinOp → TypeId → AV → AV → Option AV
  una : UnOp → AV → Option AV
  conv : Table → TypeId → TypeId → AV → Option AV
  len : List (List AV) → Int
  sln : ByteArray → Int
  nat : Nat → Int
  nth : List (List AV) → Int → Nat → Option AV
  ixs : Option Row → Nat → Nat → Nat → Int → Nat → Option AV
  cel : Option Row → Nat → Nat → Option (List AV)
  sto : Option Row → Nat → Nat → Nat → AV → Option Row
  app : Table → Nat → TypeId → TypeId → AV → AV → Option (AV × Table)
  cpy : Table → TypeId → AV → AV → Option (AV × Table)
  slc : Table → TypeId → AV → Option AV → Option AV → Option AV
  mak : Table → Nat → TypeId → AV → AV → Option (AV × Table)
  ixv : TypeId → AV → AV → Option AV
  oth : Table → Nat → (Operand → Option AV) → TypeId → Op → Option (AV × Table)
  dk : Array Oper → Bool
  ib : Array Oper → List Foot → Bool
  call : FuncId → List AV → Table → Nat → (AV → Table → List Nat → List Nat → Prop) → Prop

open Classical in
noncomputable def dvOf (P : Program) (op : BinOp) (t : TypeId) (a b : AV) : Option AV :=
  if h : ∃ r, ∀ x y, evBin P op t x y a b = some r then some (Classical.choose h) else none
theorem dvOf_eq {op : BinOp} {t : TypeId} {a b r : AV} : dvOf P op t a b = some r ↔ ∀ x y, evBin P op t x y a b = some r := by
  unfold dvOf
  constructor
  · intro h x y
    split at h
    · rename_i hh
      obtain rfl := Option.some.inj h
      exact Classical.choose_spec hh x y
    · cases h
  · intro h
    have hh : ∃ r, ∀ x y, evBin P op t x y a b = some r := ⟨r, h⟩
    rw [dif_pos hh]
    have := Classical.choose_spec hh default default
    rw [h] at this
    exact this.symm

def arI (op : BinOp) (k : IntKind) (a b : Int) : Int := match op with
  | .add => k.wrap (a + b)
  | .sub => k.wrap (a - b)
  | .mul => k.wrap (a * b)
  | .and => k.wrap ((BitVec.ofInt k.bits a &&& BitVec.ofInt k.bits b).toNat : Nat)
  | .or => k.wrap ((BitVec.ofInt k.bits a ||| BitVec.ofInt k.bits b).toNat : Nat)
  | _ => 0

noncomputable def realSym (P : Program) : Sym where
  lt a b := decide (a < b)
  le a b := decide (a ≤ b)
  eq a b := decide (a = b)
  se a b := a.toList == b.toList
  ar := arI
  dv := dvOf P
  una op a := a.val?.bind fun u => evP P (Op.unary op u)
  conv T s d a := match a with | .flat u => evP P (convert s d u) | a => evBytes P T s d a
  len := lenE
  sln s := s.size
  nat n := n
  nth := nthE
  ixs := ixSl P
  cel := ptrCells
  sto := storeRow
  app := evAppend P
  cpy := evCopy P
  slc := evSlice P
  mak := evMake P
  ixv t a b := match a, b with | .flat u, .flat v => evP P (Instr.index t u v) | a, b => evIndexArr P t a b
  oth := evOp P
  dk := drawOk P
  ib := indepB
  call := CallK P

def look {α : Type} : List (Nat × α) → Nat → Option α
  | [], _ => none
  | (k, v) :: l, t => if k = t then some v else look l t
def AllOk {α : Type} (p : Nat → α → Prop) : List (Nat × α) → Prop
  | [] => True
  | (k, v) :: l => p k v ∧ AllOk p l
theorem look_ok {α : Type} {p : Nat → α → Prop} : ∀ {l : List (Nat × α)}, AllOk p l → ∀ t x, look l t = some x → p t x
  | [], _, t, x, h => by cases h
  | (k, v) :: l, hl, t, x, h => by
    simp only [look] at h
    split at h
    · rename_i e
      obtain rfl := Option.some.inj h
      exact e ▸ hl.1
    · exact look_ok hl.2 t x h

structure Tabs where
  ti : List (Nat × (Option Value × Nat × Nat))
  un : List (Nat × TypeDesc)
  pl : List (Nat × List (Nat × Nat))
structure Tabs.Ok (P : Program) (tab : Tabs) : Prop where
  ti : AllOk (fun t x => tinfo P t = some x) tab.ti
  un : AllOk (fun t x => P.underlying t = some x) tab.un
  pl : AllOk (fun t l => ∃ f, placesOf P t = some f ∧ ∀ i, f i = l[i]?) tab.pl

def binF (S : Sym) (op : BinOp) (t : TypeId) (a b : AV) : Option AV :=
  match a, b with
  | .flat (.int k m), .flat (.int k' n) => (match op with
    | .lss => if k = k' then some (.flat (.bool (S.lt m n))) else none
    | .leq => if k = k' then some (.flat (.bool (S.le m n))) else none
    | .gtr => if k = k' then some (.flat (.bool (S.lt n m))) else none
    | .geq => if k = k' then some (.flat (.bool (S.le n m))) else none
    | .eql => if k = k' then some (.flat (.bool (S.eq m n))) else none
    | .neq => if k = k' then some (.flat (.bool (!S.eq m n))) else none
    | .add => if k = k' then some (.flat (.int k (S.ar .add k m n))) else none
    | .sub => if k = k' then some (.flat (.int k (S.ar .sub k m n))) else none
    | .mul => if k = k' then some (.flat (.int k (S.ar .mul k m n))) else none
    | .and => if k = k' then some (.flat (.int k (S.ar .and k m n))) else none
    | .or => if k = k' then some (.flat (.int k (S.ar .or k m n))) else none
    | op => S.dv op t a b)
  | .flat (.string p), .flat (.string q) => (match op with
    | .eql => some (.flat (.bool (S.se p q)))
    | .neq => some (.flat (.bool (!S.se p q)))
    | op => S.dv op t a b)
  | a, b => S.dv op t a b

def unF (S : Sym) (op : UnOp) (a : AV) : Option AV :=
  match op, a with
  | .not, .flat (.bool b) => some (.flat (.bool (!b)))
  | op, a => S.una op a

def machOf (tab : Tabs) (S : Sym) : Mach where
  ev := evE { ti := look tab.ti, un := look tab.un, pl := look tab.pl, bin := binF S, una := unF S, conv := S.conv, len := S.len, sln := S.sln, nat := S.nat, nth := S.nth, ixs := S.ixs, cel := S.cel, sto := S.sto, app := S.app, cpy := S.cpy, slc := S.slc, mak := S.mak, ixv := S.ixv, oth := S.oth }
  dk := S.dk
  ib := S.ib
  call := S.call
  pm := 0

theorem binF_ok {op : BinOp} {t : TypeId} {a b : AV} {x y : Operand} {r : AV} (h : binF (realSym P) op t a b = some r) : evBin P op t x y a b = some r := by
  unfold binF at h
  split at h
  · rename_i k m k' n
    split at h
    all_goals first
      | exact dvOf_eq.1 h x y
      | (split at h
         · rename_i e
           subst e
           obtain rfl := Option.some.inj h
           cases k <;> rfl
         · cases h)
  · rename_i p q
    split at h
    · obtain rfl := Option.some.inj h; rfl
    · obtain rfl := Option.some.inj h; rfl
    · exact dvOf_eq.1 h x y
  · exact dvOf_eq.1 h x y

theorem unF_ok {op : UnOp} {a : AV} {r : AV} (h : unF (realSym P) op a = some r) : (a.val?.bind fun u => evP P (Op.unary op u)) = some r := by
  unfold unF at h
  split at h
  · obtain rfl := Option.some.inj h; rfl
  · exact h

theorem machOf_ok {tab : Tabs} (ht : tab.Ok P) : (machOf tab (realSym P)).Ok P where
  ev T id ρ ty op r h := evE_ok (P := P) {
    ti := look_ok ht.ti
    un := look_ok ht.un
    pl := look_ok ht.pl
    bin := fun op t a b x y r h => binF_ok h
    una := fun op a r h => unF_ok h
    conv := fun T s d a r h => h
    len := rfl
    sln := rfl
    nat := rfl
    nth := rfl
    ixs := rfl
    cel := rfl
    sto := rfl
    app := fun T id t u s x r h => h
    cpy := fun T t s x r h => h
    slc := fun T t a l h r hh => hh
    mak := fun T id t a b r h => h
    ixv := fun t a b r h => h
    oth := fun T id ρ ty op r h => h } h
  dk ops h := h
  ib ops fs h := h
  call f args T base K h := h
theorem machOf_mono {tab : Tabs} : (machOf tab (realSym P)).Mono := ⟨fun f args T base K K' hk h => call_mono h hk, rfl⟩

/-- A function's contract, from its body, by evaluation. -/
theorem acalls_sym {tab : Tabs} (ht : tab.Ok P) {f : FuncId} {fn : Func} {c : Code} {args : List AV} {val : Nat → AV} {rows : Nat → List Row} (hf : P.funcs[f]? = some fn) (hb : fn.body = some c) (hname : (fn.name == "runtime.NumGoroutine") = false)
    (hn : Nat.ble args.length fn.ntmps = true) (hd : dstsOk fn.ntmps c = true)
    (h : ∀ S : Sym, S = realSym P → (machOf tab S).Mono → ∀ Q : Exit → St → Prop, (∀ e st, endOk e → Leaves P fn val rows st → Q e st) → MW (machOf tab S) c (st0 args) Q) : ACalls P f args val rows :=
  acalls_of hf hb hname hn hd fun Q hQ => MW_ok (machOf_ok ht) c _ _ _ (fun _ _ h => h) (h _ rfl machOf_mono Q hQ)
end Go.Proofs.Ytnceadbfgpiaaaa.G
