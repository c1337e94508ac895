/- The abstract machine: states, calls, regions, code. What it says is proved in the next texts. -/
import Derived.Test.YtnceadbfgpiaaaaG11
import Derived.Orders
namespace Go.Proofs.Ytnceadbfgpiaaaa.G
set_option linter.unusedVariables false
set_option linter.unusedSimpArgs false
open Go

/-- Nothing is known of a slot. -/
def AV.dead : AV := .tup [.tup [.tup []]]
def AV.isDead : AV → Bool
  | .tup [.tup [.tup []]] => true
  | _ => false

structure St where
  s : Nat → AV
  T : Table
  nx : Nat

def upd (s : Nat → AV) (d : Nat) (v : AV) : Nat → AV := fun i => if i = d then v else s i
def St.put (st : St) (d : Option Tmp) (v : AV) : St :=
  match d with
  | some d => { st with s := upd st.s d v }
  | none => st

def St.op (st : St) : Operand → Option AV
  | .tmp t => if (st.s t).isDead = true then none else some (st.s t)
  | .const v => if notAgg v = true then some (.flat v) else none
  | .func f => some (.flat (.func (.func f) #[] #[]))
  | .global _ => none

def wantedA (st : St) (ops : Array Oper) (o : Oper) : Option Bool :=
  match o.guard with
  | none => some true
  | some (j, want) =>
    match (ops[j]?).bind (·.dst) with
    | none => none
    | some d => match st.s d with
      | .flat (.bool b) => some (match want with | true => b | false => !b)
      | .flat (.tuple _) => some false
      | _ => none

/-! ### What leads to one's own, and what does not -/
def AV.noId : AV → Bool
  | .sl .. | .ptr .. | .agg _ | .tup _ => false
  | _ => true
def AV.noIds : AV → Bool
  | .agg cs => cs.all AV.noId
  | x => x.noId
/-- Does it lead to nothing that stays as it is (so that nothing can lie in what was lent)? -/
def AV.noRo1 : AV → Bool
  | .flat _ | .sl .. | .ptr .. => true
  | .ro els => els.isEmpty
  | _ => false
def AV.noRo : AV → Bool
  | .agg cs => cs.all AV.noRo1
  | .tup cs => cs.all fun x => match x with
    | .agg cs => cs.all AV.noRo1
    | x => x.noRo1
  | x => x.noRo1

/-- As it is read by a callee: rows of one's own as slices of what stays. 'ids': the rows that are read. -/
inductive Deep (T : Table) (ids : List Nat) : AV → AV → Prop
  | id {x : AV} (h : x.noId = true) : Deep T ids x x
  | nil : Deep T ids (.flat (.slice none 0 0)) (.ro [])
  | agg {cs cs' : List AV} (hl : cs.length = cs'.length) (h : ∀ (i : Nat) (x y : AV), cs[i]? = some x → cs'[i]? = some y → Deep T ids x y) : Deep T ids (.agg cs) (.agg cs')
  | sl {id off n : Nat} {r : Row} {els' : List (List AV)} (hid : id ∈ ids) (hr : T id = some r) (hle : off + n ≤ r.els.length) (hl : els'.length = n)
      (hs : ∀ (i : Nat) (e e' : List AV), (r.els.drop off)[i]? = some e → els'[i]? = some e' → e.length = e'.length)
      (h : ∀ (i : Nat) (e e' : List AV) (j : Nat) (x y : AV), (r.els.drop off)[i]? = some e → els'[i]? = some e' → e[j]? = some x → e'[j]? = some y → Deep T ids x y) : Deep T ids (.sl id off n) (.ro els')
  | ptr {id i off : Nat} {r : Row} {e cs' : List AV} (hid : id ∈ ids) (hr : T id = some r) (he : r.els[i]? = some e) (hl : (e.drop off).length = cs'.length) (hlt : off < e.length)
      (h : ∀ (j : Nat) (x y : AV), (e.drop off)[j]? = some x → cs'[j]? = some y → Deep T ids x y) : Deep T ids (.ptr id i off) (.rp cs')

/-- Rows that a callee has made, under new names. -/
def adopt (T : Table) (base : Nat) : List Row → Table
  | [] => T
  | r :: rs => (adopt T (base + 1) rs).set base (some r)
def tabAt (n : Nat) (rows : List Row) : Table := fun id => if n ≤ id then rows[id - n]? else none

/-- A contract: called with such arguments the function returns such a value, its rows new; all that was there stands. -/
def ACalls (P : Program) (f : FuncId) (args : List AV) (val : Nat → AV) (rows : Nat → List Row) : Prop :=
  (∃ fn, P.funcs[f]? = some fn ∧ (fn.name == "runtime.NumGoroutine") = false ∧ fn.body.isNone = false) ∧
  ∀ (n : Nat) (w : World) (L : Nat → Prop) (vs : Array Value), vs.size = args.length → (∀ (i : Nat) (x : AV), args[i]? = some x → VRel w L Map.empty (vs.getD i undef) x) →
    Calls P f vs w fun e w' => ∃ v L' μ', e = .returned v ∧ VRel w' L' μ' v (val n) ∧ TRel P w' L' μ' (tabAt n (rows n)) ∧ (∀ id q, μ' id = some q → n ≤ id ∧ id < n + 8) ∧
      w'.os = w.os ∧ w'.tape = w.tape ∧ w'.output = w.output ∧ w.heap.size ≤ w'.heap.size ∧ (∀ b, b < w.heap.size → w'.heap[b]? = w.heap[b]?) ∧ (∀ b, b < w.heap.size → (L' b ↔ L b)) ∧
      (∀ id r p, tabAt n (rows n) id = some r → μ' id = some (some p) → w.heap.size ≤ p.g)

/-! ### Names of rows -/
mutual
def ren (m : Nat → Nat) : AV → AV
  | .sl id off n => .sl (m id) off n
  | .ptr id i off => .ptr (m id) i off
  | .agg cs => .agg (rens m cs)
  | .tup cs => .tup (rens m cs)
  | x => x
def rens (m : Nat → Nat) : List AV → List AV
  | [] => []
  | x :: l => ren m x :: rens m l
end
mutual
def closedIn (ks : List Nat) : AV → Bool
  | .sl id _ _ => ks.contains id
  | .ptr id _ _ => ks.contains id
  | .agg cs => closedAll ks cs
  | .tup cs => closedAll ks cs
  | _ => true
def closedAll (ks : List Nat) : List AV → Bool
  | [] => true
  | x :: l => closedIn ks x && closedAll ks l
end
def renRow (m : Nat → Nat) (r : Row) : Row := ⟨r.elem, r.els.map (rens m)⟩
/-- The new name of a row that is handed on. -/
def newName (ks : List Nat) (n id : Nat) : Nat := n + ks.idxOf id
def renEls (m : Nat → Nat) (els : List (List AV)) : List (List AV) := els.map (rens m)
def closedEls (ks : List Nat) (els : List (List AV)) : Bool := els.all (closedAll ks)

/-- Rows by their numbers. -/
def tabO (R : List (Option Row)) : Table := fun id => (R[id]?).getD none

/-- What such a call has done to memory: the first rows lie where they lay. -/
structure PExt (w : World) (L : Nat → Prop) (μ : Map) (T : Table) (m : Nat) (w' : World) (L' : Nat → Prop) (μ' : Map) (T' : Table) : Prop where
  os : w'.os = w.os
  tape : w'.tape = w.tape
  output : w'.output = w.output
  size : w.heap.size ≤ w'.heap.size
  block : ∀ b, b < w.heap.size → (∀ id r p, T id = some r → μ id = some (some p) → p.g ≠ b) → w'.heap[b]? = w.heap[b]?
  L : ∀ b, b < w.heap.size → (L' b ↔ L b)
  map : ∀ id q, id < m → μ id = some q → μ' id = some q
  place : ∀ id r p, T' id = some r → μ' id = some (some p) → w.heap.size ≤ p.g ∨ ∃ id0 r0 p0, T id0 = some r0 ∧ μ id0 = some (some p0) ∧ p0.g = p.g

/-- A contract of a function that is handed addresses in rows of the caller's: the rows 'R0', numbered from 0 on, become 'R1'; the first 'm' lie where they lay. -/
def PCalls (P : Program) (f : FuncId) (m : Nat) (args : List AV) (R0 : List Row) (val : AV) (R1 : List (Option Row)) : Prop :=
  (∃ fn, P.funcs[f]? = some fn ∧ (fn.name == "runtime.NumGoroutine") = false ∧ fn.body.isNone = false) ∧
  ∀ (w : World) (L : Nat → Prop) (μ : Map) (vs : Array Value), vs.size = args.length → (∀ (i : Nat) (x : AV), args[i]? = some x → VRel w L μ (vs.getD i undef) x) → TRel P w L μ (tabO (R0.map some)) → (∀ id, R0.length ≤ id → μ id = none) →
    Calls P f vs w fun e w' => ∃ v L' μ', e = .returned v ∧ VRel w' L' μ' v val ∧ TRel P w' L' μ' (tabO R1) ∧ PExt w L μ (tabO (R0.map some)) m w' L' μ' (tabO R1) ∧ ∀ id, m + 8 ≤ id → μ' id = none

/-- From the callee's numbers to the caller's. -/
def backName (ms : List Nat) (m base i : Nat) : Nat := if i < m then ms.getD i 0 else base + (i - m)
/-- The caller's rows behind the call. -/
def merge (T : Table) (ms : List Nat) (m base : Nat) (R : List (Option Row)) : Table := fun id =>
  if ms.contains id = true then (if ms.idxOf id < m then (R[ms.idxOf id]?).getD none else none) else if base ≤ id ∧ id < base + 8 then (R[m + (id - base)]?).getD none else T id
def renRows (m : Nat → Nat) (R : List (Option Row)) : List (Option Row) := R.map (Option.map (renRow m))

def isCall : Op → Bool
  | .call { callee := .value _, .. } => true
  | _ => false
def callOf (st : St) : Op → Option (FuncId × List Operand)
  | .call { callee := .value f, args, .. } => match st.op f with
    | some (.flat (.func (.func k) a b)) => if a.size = 0 ∧ b.size = 0 then some (k, args.toList) else none
    | _ => none
  | _ => none
def evArgs (st : St) : List Operand → Option (List AV)
  | [] => some []
  | x :: l => match st.op x, evArgs st l with
    | some a, some r => some (a :: r)
    | _, _ => none

/-- The arguments as the callee sees them. -/
def Hands (T : Table) (ids : List Nat) (args args' : List AV) (val : AV) (rows : List Row) : Prop :=
  (args' = args ∧ args.all AV.noIds = true) ∨
  ((args.length = args'.length ∧ ∀ (i : Nat) (x y : AV), args[i]? = some x → args'[i]? = some y → Deep T ids x y) ∧ val.noRo = true ∧ ∀ r ∈ rows, ∀ e ∈ r.els, ∀ x ∈ e, x.noRo1 = true)

/-- What a call does: its value, the rows behind it, what it reads and writes. -/
def CallD (P : Program) (T : Table) (base : Nat) (f : FuncId) (args : List AV) (v : AV) (T' : Table) (rd wr : List Nat) : Prop :=
  (∃ args' ids val rows, Hands T ids args args' (val base) (rows base) ∧ ACalls P f args' val rows ∧ (rows base).length ≤ 8 ∧ v = val base ∧ T' = adopt T base (rows base) ∧ rd = ids ∧ wr = (List.range (rows base).length).map (base + ·)) ∨
  (∃ (m : Nat) (ms : List Nat) (rs R0 : List Row) (val : AV) (R1 : List (Option Row)), ms.Nodup ∧ m ≤ ms.length ∧ ms.map T = rs.map some ∧ closedAll ms args = true ∧ (∀ r ∈ rs, closedEls ms r.els = true) ∧ rs.map (renRow (newName ms 0)) = R0 ∧ PCalls P f m (rens (newName ms 0) args) R0 val R1 ∧
    v = ren (backName ms m base) val ∧ T' = merge T ms m base (renRows (backName ms m base) R1) ∧ rd = ms ∧ wr = ms ++ (List.range 8).map (base + ·))

/-! ### A region that draws its order -/
structure Foot where
  i : Nat
  rd : List Nat
  wr : List Nat

def idOf : AV → List Nat
  | .sl id _ _ | .ptr id _ _ => [id]
  | _ => []
def opIds (st : St) (x : Operand) : List Nat := match st.op x with
  | some a => idOf a
  | none => []
def readsOf (st : St) (o : Op) : List Nat := o.operands.toList.flatMap (opIds st)
def writesOf (st : St) (id : Nat) : Op → List Nat
  | .alloc _ | .box _ _ | .buildSlice _ _ _ | .makeSlice _ _ _ => [id]
  | .store _ x _ => opIds st x
  | .call { callee := .builtin .append, args, .. } => id :: args.toList.flatMap (opIds st)
  | .call { callee := .builtin .copy, args, .. } => args.toList.flatMap (opIds st)
  | _ => []

/-- One operation of a region; what is behind it is told with what it reads and writes. -/
def AStepF (P : Program) (ops : Array Oper) (base i : Nat) (st : St) (K : St → Foot → Prop) : Prop :=
  match ops[i]? with
  | none => False
  | some o =>
    match wantedA st ops o with
    | none => False
    | some false => K (st.put o.dst (.flat undef)) ⟨i, [], []⟩
    | some true =>
      if isCall o.op = true then
        ∃ f xs args v T' rd wr, callOf st o.op = some (f, xs) ∧ evArgs st xs = some args ∧ CallD P st.T (base + 8 * i) f args v T' rd wr ∧ K { st.put o.dst v with T := T' } ⟨i, rd, wr⟩
      else match evOp P st.T (base + 8 * i) st.op o.type o.op with
        | some (v, T') => K { st.put o.dst v with T := T' } ⟨i, readsOf st o.op, writesOf st (base + 8 * i) o.op⟩
        | none => False

/-- A region in the text's order. -/
def AOps (P : Program) (ops : Array Oper) (base : Nat) : List Nat → St → (St → Prop) → Prop
  | [], st, Q => Q st
  | i :: l, st, Q => AStepF P ops base i st fun st' _ => AOps P ops base l st' Q

/-- As 'AOps', and what each operation reads and writes. -/
def AOpsD (P : Program) (ops : Array Oper) (base : Nat) : List Nat → St → List Foot → (St → List Foot → Prop) → Prop
  | [], st, fs, Q => Q st fs
  | i :: l, st, fs, Q => AStepF P ops base i st fun st' f => AOpsD P ops base l st' (fs ++ [f]) Q

/-- What is behind what, by whatever chain of edges: a number for each operation, its bits those that are ahead. -/
def maskOf (acc : List Nat) : List Edge → Nat
  | [] => 0
  | e :: l => if Region.binds .any e = true then (2 ^ e.on ||| acc.getD e.on 0) ||| maskOf acc l else maskOf acc l
def masks : List Oper → List Nat → List Nat
  | [], acc => acc
  | o :: l, acc => masks l (acc ++ [maskOf acc o.after.toList])
def aheadB (m : List Nat) (i j : Nat) : Bool := (m.getD j 0).testBit i
/-- Neither writes what the other reads or writes. -/
def apartB (x y : Foot) : Bool := (x.wr.all fun k => !y.rd.contains k && !y.wr.contains k) && (y.wr.all fun k => !x.rd.contains k)
def indepB (ops : Array Oper) (fs : List Foot) : Bool :=
  let m := masks ops.toList []
  (List.range fs.length).all fun j => (List.range j).all fun i => aheadB m i j || match fs[i]?, fs[j]? with
    | some x, some y => apartB x y
    | _, _ => false
/-- The region's own shape: edges lead back; two that are not ordered don't name each other's places. -/
def namesApart (ops : Array Oper) : Bool :=
  let m := masks ops.toList []
  (List.range ops.size).all fun j => (List.range j).all fun i => aheadB m i j || match ops[i]?, ops[j]? with
    | some x, some y => x.apart ops y
    | _, _ => false
def backward (ops : Array Oper) : Bool := (List.range ops.size).all fun i => match ops[i]? with
  | some o => o.after.toList.all fun e => !Region.binds .any e || decide (e.on < i)
  | none => false
def drawOk (P : Program) (ops : Array Oper) : Bool := P.follows .mixedOrders && backward ops && namesApart ops

def ADraw (P : Program) (ops : Array Oper) (st : St) (Q : St → Prop) : Prop :=
  drawOk P ops = true ∧ AOpsD P ops st.nx (List.range ops.size) st [] fun st' fs => indepB ops fs = true ∧ Q st'

/-! ### Code -/
/-- A state that is cut: of the rows and the slots, those that are named; the rows have new names. -/
def cutVals (ks live : List Nat) (s : Nat → AV) : List Nat → List AV
  | [] => []
  | t :: l => (if live.contains t && closedIn ks (s t) then ren (newName ks 0) (s t) else .dead) :: cutVals ks live s l
def cutRows (ks : List Nat) (T : Table) : List Nat → List (Option Row)
  | [] => []
  | k :: l => (match T k with
    | some r => if closedEls ks r.els then some ⟨r.elem, renEls (newName ks 0) r.els⟩ else none
    | none => none) :: cutRows ks T l
def stOf (vals : List AV) (rows : List (Option Row)) (nx : Nat) : St := ⟨fun t => vals.getD t .dead, fun i => rows.getD i none, nx⟩
def cut (ks live : List Nat) (n : Nat) (st : St) : St := stOf (cutVals ks live st.s (List.range n)) (cutRows ks st.T ks) ks.length

/-! ### Rows that are written no more -/
mutual
/-- Does it lead to the row other than by a slice of what is there? -/
def badV (k n : Nat) : AV → Bool
  | .ptr id _ _ => id == k
  | .sl id off m => id == k && decide (n < off + m)
  | .agg cs => badVs k n cs
  | .tup cs => badVs k n cs
  | _ => false
def badVs (k n : Nat) : List AV → Bool
  | [] => false
  | x :: l => badV k n x || badVs k n l
end
mutual
def frzV (k : Nat) (els : List (List AV)) : AV → AV
  | .sl id off n => if id = k then .ro ((els.drop off).take n) else .sl id off n
  | .agg cs => .agg (frzVs k els cs)
  | .tup cs => .tup (frzVs k els cs)
  | x => x
def frzVs (k : Nat) (els : List (List AV)) : List AV → List AV
  | [] => []
  | x :: l => frzV k els x :: frzVs k els l
end
def frzRow (k : Nat) (els : List (List AV)) (r : Row) : Option Row := if r.els.any (badVs k els.length) then none else some ⟨r.elem, r.els.map (frzVs k els)⟩
def frzT (k : Nat) (els : List (List AV)) (T : Table) : Table := fun i => if i = k then none else (T i).bind (frzRow k els)
def frzS (k : Nat) (els : List (List AV)) (s : Nat → AV) : Nat → AV := fun t => if badV k els.length (s t) then .dead else frzV k els (s t)
def frz1 (k : Nat) (st : St) : St := match st.T k with
  | some r => if closedEls [] r.els then ⟨frzS k r.els st.s, frzT k r.els st.T, st.nx⟩ else st
  | none => st
/-- Rows that are written no more. -/
def frz (fz : List Nat) (st : St) : St := fz.foldl (fun st k => frz1 k st) st

/-! ### Slices that are nil, as empty rows of one's own -/
inductive NilAt where
  | slot (t : Nat) (e : TypeId)
  | cell (k i j : Nat) (e : TypeId)
  | trim (k n : Nat)
def nilSlot (t : Nat) (e : TypeId) (st : St) : St := match st.s t with
  | .flat (.slice none 0 0) => ⟨upd st.s t (.sl st.nx 0 0), st.T.set st.nx (some ⟨e, []⟩), st.nx + 1⟩
  | _ => st
def nilCell (k i j : Nat) (e : TypeId) (st : St) : St := match st.T k with
  | some r => (match r.els[i]? with
    | some c => (match c[j]? with
      | some (.flat (.slice none 0 0)) => ⟨st.s, (st.T.set k (some ⟨r.elem, r.els.set i (c.set j (.sl st.nx 0 0))⟩)).set st.nx (some ⟨e, []⟩), st.nx + 1⟩
      | _ => st)
    | none => st)
  | none => st
def nil1 (x : NilAt) (st : St) : St := match x with
  | .slot t e => nilSlot t e st
  | .cell k i j e => nilCell k i j e st
  | .trim k n => (match st.T k with
    | some r => { st with T := st.T.set k (some ⟨r.elem, r.els.take n⟩) }
    | none => st)
def nils : List NilAt → St → St
  | [], st => st
  | x :: l, st => nils l (nil1 x st)

/-- A cut keeps the rows that were handed in where they are. -/
def cutOk (pm : Nat) (fz ks : List Nat) : Prop := ks.Nodup ∧ ks.take pm = List.range pm ∧ (pm = 0 ∨ fz = [])

def ALoop (pm : Nat) (F : St → (Exit → St → Prop) → Prop) (Q : Exit → St → Prop) : Nat → St → Prop
  | 0, _ => False
  | n + 1, st => F st fun e st' => match e with
    | .normal => ∃ nz fz ks live k, cutOk pm fz ks ∧ ALoop pm F Q n (cut ks live k (frz fz (nils nz st')))
    | e => Q e st'

def AW (P : Program) (pm : Nat) : Code → St → (Exit → St → Prop) → Prop
  | .skip, st, Q => Q .normal st
  | .region _ ops draw, st, Q => if draw = true then ADraw P ops st fun st' => Q .normal { st' with nx := st.nx + 8 * ops.size }
      else AOps P ops st.nx (List.range ops.size) st fun st' => Q .normal { st' with nx := st.nx + 8 * ops.size }
  | .seq a b, st, Q => AW P pm a st fun e st' => match e with
    | .normal => AW P pm b st' Q
    | e => Q e st'
  | .cond c a b, st, Q => match st.op c with
    | some (.flat (.bool t)) => if t = true then AW P pm a st Q else AW P pm b st Q
    | _ => False
  | .block id c, st, Q => AW P pm c st fun e st' => match e with
    | .exit i => if i = id then Q .normal st' else Q (.exit i) st'
    | e => Q e st'
  | .loop c, st, Q => ∃ nz fz ks live k n, cutOk pm fz ks ∧ ALoop pm (AW P pm c) Q n (cut ks live k (frz fz (nils nz st)))
  | .exit id, st, Q => Q (.exit id) st
  | .ret, st, Q => Q .ret st
  | _, _, _ => False

def dstsOk (n : Nat) : Code → Bool
  | .region _ ops _ => ops.all fun o => match o.dst with
    | some d => decide (d < n)
    | none => true
  | .seq a b | .cond _ a b => dstsOk n a && dstsOk n b
  | .block _ c | .loop c => dstsOk n c
  | _ => true
end Go.Proofs.Ytnceadbfgpiaaaa.G
