/- G1, G2, G3, G4, G5, G6, G7, G8, G9, G10, G11, G12, one behind the other. -/
import Derived.Laws.OwnMore
import Derived.Calls
import Derived.Below
import Derived.Tactics
import Derived.WalkKit
import Derived.Laws.BytesString
import Derived.Laws.StructEq
import Derived.Orders
/- The abstract machine's values and how they lie in memory: what a value of the machine is told as, and that this stands where memory only grows. Plain theorems over any program. -/
namespace Go.Proofs.Ytnceadbfgpiaaaa.G
set_option linter.unusedVariables false
set_option linter.unusedSimpArgs false
open Go

/-- What a value is told as. 'ro': a slice of what stays as it is, element by element, each by its cells; 'rp': an address in such memory: the cells from there on;
    'sl', 'ptr': a slice, an address into a row of one's own ('id' in the table). -/
inductive AV where
  | flat (v : Value)
  | agg (cs : List AV)
  | tup (vs : List AV)
  | ro (els : List (List AV))
  | rp (cs : List AV)
  | sl (id off n : Nat)
  | ptr (id i off : Nat)
  deriving Inhabited

def AV.cells : AV → List AV
  | .agg l => l
  | x => [x]
def notAgg : Value → Bool
  | .agg _ => false
  | _ => true
/-- A constant, a zero value. -/
def AV.ofV : Value → AV
  | .agg cs => .agg (cs.toList.map .flat)
  | v => .flat v
/-- Told of one cell. -/
def AV.one : AV → Bool
  | .flat v => v.oneCell'
  | .agg _ | .tup _ => false
  | _ => true

/-- Where a row of one's own lies: its block, its first cell, how many elements there is room for from there on, how many cells an element has. -/
structure Place where
  g : Nat
  b : Nat
  cap : Nat
  sz : Nat

/-- A row of one's own: its element type, its elements by their cells. -/
structure Row where
  elem : TypeId
  els : List (List AV)

abbrev Table := Nat → Option Row
abbrev Map := Nat → Option (Option Place)

def Table.set (T : Table) (id : Nat) (r : Option Row) : Table := fun i => if i = id then r else T i
def Map.set (μ : Map) (id : Nat) (p : Option Place) : Map := fun i => if i = id then some p else μ i

def slOk : Option Place → Nat → Nat → Value → Prop
  | none, off, n, v => off = 0 ∧ n = 0 ∧ v = .slice none 0 0
  | some p, off, n, v => off + n ≤ p.cap ∧ ∃ A, v = .slice A n (p.cap - off) ∧ (off < p.cap → A = some ⟨p.g, p.b + off * p.sz, none⟩)

abbrev Map.empty : Map := fun _ => none

/-- A value is told as this. 'L': the blocks that may still change. What stays as it is leads to nothing that is one's own. -/
inductive VRel (w : World) (L : Nat → Prop) : Map → Value → AV → Prop
  | flat {μ : Map} (v : Value) (hv : notAgg v = true) : VRel w L μ v (.flat v)
  | agg {μ : Map} {cs : Array Value} {l : List AV} (hl : cs.size = l.length) (h : ∀ (i : Nat) (x : AV), l[i]? = some x → VRel w L μ (cs.getD i undef) x) : VRel w L μ (.agg cs) (.agg l)
  | tup {μ : Map} {cs : Array Value} {l : List AV} (hl : cs.size = l.length) (h : ∀ (i : Nat) (x : AV), l[i]? = some x → VRel w L μ (cs.getD i undef) x) : VRel w L μ (.tuple cs) (.tup l)
  | ro {μ : Map} {A : Option Addr} {n c : Nat} {els : List (List AV)} (sz : Nat) (U : Nat → Nat → Value) (hn : n = els.length) (hc : n ≤ c) (hs : ∀ e ∈ els, e.length = sz)
      (hA : 0 < n → ∃ a, A = some a ∧ ¬ L a.block ∧ a.block < w.heap.size ∧ ∀ i j, i < n → j < sz → w.cell? (a.add (i * sz + j)) = some (U i j))
      (h1 : ∀ i j, i < n → j < sz → (U i j).oneCell' = true)
      (h : ∀ (i : Nat) (e : List AV) (j : Nat) (x : AV), els[i]? = some e → e[j]? = some x → VRel w L Map.empty (U i j) x) : VRel w L μ (.slice A n c) (.ro els)
  | rp {μ : Map} {a : Addr} {cs : List AV} (U : Nat → Value) (hL : ¬ L a.block) (hb : a.block < w.heap.size) (hc : ∀ j, j < cs.length → w.cell? (a.add j) = some (U j))
      (h1 : ∀ j, j < cs.length → (U j).oneCell' = true)
      (h : ∀ (j : Nat) (x : AV), cs[j]? = some x → VRel w L Map.empty (U j) x) : VRel w L μ (.pointer (some a)) (.rp cs)
  | sl {μ : Map} {id off n : Nat} {v : Value} {q : Option Place} (hq : μ id = some q) (h : slOk q off n v) : VRel w L μ v (.sl id off n)
  | ptr {μ : Map} {id i off : Nat} {p : Place} (hq : μ id = some (some p)) : VRel w L μ (.pointer (some ⟨p.g, p.b + i * p.sz + off, none⟩)) (.ptr id i off)

/-- What is told stands where memory only grows, and where what may change has changed alone. -/
theorem VRel.mono {w w' : World} {L L' : Nat → Prop} {μ μ' : Map} (hb : ∀ b, b < w.heap.size → ¬ L b → w'.heap[b]? = w.heap[b]?) (hs : w.heap.size ≤ w'.heap.size)
    (hL : ∀ b, b < w.heap.size → L' b → L b) (hμ : ∀ id q, μ id = some q → μ' id = some q) {v : Value} {x : AV} (h : VRel w L μ v x) : VRel w' L' μ' v x := by
  induction h generalizing μ' with
  | flat v hv => exact .flat v hv
  | agg hl _ ih => exact .agg hl fun i x hx => ih i x hx hμ
  | tup hl _ ih => exact .tup hl fun i x hx => ih i x hx hμ
  | ro sz U hn hc hsz hA h1 _ ih =>
    refine .ro sz U hn hc hsz (fun hp => ?_) h1 fun i e j x he hx => ih i e j x he hx (fun _ _ h => h)
    obtain ⟨a, rfl, hLa, hlt, hcell⟩ := hA hp
    refine ⟨a, rfl, fun h => hLa (hL _ hlt h), Nat.lt_of_lt_of_le hlt hs, fun i j hi hj => ?_⟩
    rw [← hcell i j hi hj]
    apply World.cell?_of_block
    have e : (a.add (i * sz + j)).block = a.block := by unfold Addr.add; split <;> rfl
    rw [e]
    exact hb _ hlt hLa
  | @rp _ a cs U hLa hlt hcell h1 _ ih =>
    refine .rp U (fun h => hLa (hL _ hlt h)) (Nat.lt_of_lt_of_le hlt hs) (fun j hj => ?_) h1 fun j x hx => ih j x hx (fun _ _ h => h)
    rw [← hcell j hj]
    apply World.cell?_of_block
    have e : (a.add j).block = a.block := by unfold Addr.add; split <;> rfl
    rw [e]
    exact hb _ hlt hLa
  | sl hq h => exact .sl (hμ _ _ hq) h
  | ptr hq => exact .ptr (hμ _ _ hq)

theorem VRel.up {w : World} {L : Nat → Prop} {μ : Map} {v : Value} {x : AV} (h : VRel w L Map.empty v x) : VRel w L μ v x :=
  h.mono (fun _ _ _ => rfl) (Nat.le_refl _) (fun _ _ h => h) (fun _ _ h => by cases h)

theorem VRel.one {w : World} {L : Nat → Prop} {μ : Map} {v : Value} {x : AV} (h : VRel w L μ v x) (hx : x.one = true) : v.oneCell' = true := by
  cases h with
  | flat v _ => exact hx
  | agg => cases hx
  | tup => cases hx
  | ro => rfl
  | rp => rfl
  | @sl _ id off n v q hq h =>
    cases q with
    | none => obtain ⟨_, _, rfl⟩ := h; rfl
    | some p => obtain ⟨_, A, rfl, _⟩ := h; rfl
  | ptr => rfl

/-- Values by values. -/
def Rels (w : World) (L : Nat → Prop) (μ : Map) (us : List Value) (xs : List AV) : Prop :=
  us.length = xs.length ∧ ∀ (j : Nat) (x : AV), xs[j]? = some x → ∃ u, us[j]? = some u ∧ VRel w L μ u x

theorem VRel.cells {w : World} {L : Nat → Prop} {μ : Map} {v : Value} {x : AV} (h : VRel w L μ v x) : Rels w L μ v.cells.toList x.cells := by
  have one : ∀ {v : Value} {x : AV}, VRel w L μ v x → Rels w L μ [v] [x] := fun {v x} h => ⟨rfl, fun j y hj => by
    cases j with
    | zero => simp at hj; subst hj; exact ⟨v, rfl, h⟩
    | succ j => simp at hj⟩
  cases h with
  | flat v hv => cases v <;> first | exact one (.flat _ hv) | cases hv
  | @agg _ cs l hl h =>
    refine ⟨by simpa [Value.cells, AV.cells] using hl, fun j x hj => ⟨cs.getD j undef, ?_, h j x hj⟩⟩
    have hlt : j < cs.size := by
      rw [hl]; exact (List.getElem?_eq_some_iff.1 hj).1
    simp [Value.cells, Array.getD, hlt]
  | tup hl h => exact one (.tup hl h)
  | ro sz U hn hc hs hA h1 h => exact one (.ro sz U hn hc hs hA h1 h)
  | rp U hL hb hc h1 h => exact one (.rp U hL hb hc h1 h)
  | @sl _ id off n v q hq h =>
    cases q with
    | none => obtain ⟨h0, h1, rfl⟩ := h; exact one (.sl hq ⟨h0, h1, rfl⟩)
    | some p => obtain ⟨h0, A, rfl, h1⟩ := h; exact one (.sl hq ⟨h0, A, rfl, h1⟩)
  | ptr hq => exact one (.ptr hq)

/-- A row of one's own, as it lies in its block. -/
structure RowAt (P : Program) (w : World) (L : Nat → Prop) (μ : Map) (p : Place) (r : Row) : Prop where
  cur : ∃ cur, w.heap[p.g]? = some (.cells cur r.elem (0, 0)) ∧ cur.size = p.b + p.cap * p.sz ∧
    ∀ i e j x, r.els[i]? = some e → e[j]? = some x → ∃ u, cur[p.b + i * p.sz + j]? = some u ∧ u.oneCell' = true ∧ VRel w L μ u x
  len : r.els.length ≤ p.cap
  sz : ∀ e ∈ r.els, e.length = p.sz
  szT : p.sz = P.cellsOf r.elem
  cap : p.cap ≤ maxLen
  live : L p.g

structure TRel (P : Program) (w : World) (L : Nat → Prop) (μ : Map) (T : Table) : Prop where
  row : ∀ id r, T id = some r → ∃ q, μ id = some q ∧ (∀ p, q = some p → RowAt P w L μ p r) ∧ (q = none → r.els = [])
  apart : ∀ id id' r r' p p', T id = some r → T id' = some r' → μ id = some (some p) → μ id' = some (some p') → id ≠ id' → p.g ≠ p'.g

theorem RowAt.mono {P : Program} {w w' : World} {L L' : Nat → Prop} {μ μ' : Map} {p : Place} {r : Row} (hb : ∀ b, b < w.heap.size → ¬ L b → w'.heap[b]? = w.heap[b]?) (hs : w.heap.size ≤ w'.heap.size)
    (hL : ∀ b, b < w.heap.size → L' b → L b) (hμ : ∀ id q, μ id = some q → μ' id = some q) (hp : w'.heap[p.g]? = w.heap[p.g]?) (hLp : L' p.g) (h : RowAt P w L μ p r) : RowAt P w' L' μ' p r := by
  obtain ⟨cur, hg, hsz, hc⟩ := h.cur
  refine ⟨⟨cur, hp.trans hg, hsz, fun i e j x he hx => ?_⟩, h.len, h.sz, h.szT, h.cap, hLp⟩
  obtain ⟨u, hu, h1, hv⟩ := hc i e j x he hx
  exact ⟨u, hu, h1, hv.mono hb hs hL hμ⟩

/-- What a step has done to memory: blocks that are no row's stand; new rows lie in new blocks, or where an old one lay. -/
structure Ext (w : World) (L : Nat → Prop) (μ : Map) (T : Table) (w' : World) (L' : Nat → Prop) (μ' : Map) (T' : Table) : Prop where
  os : w'.os = w.os
  tape : w'.tape = w.tape
  output : w'.output = w.output
  size : w.heap.size ≤ w'.heap.size
  block : ∀ b, b < w.heap.size → (∀ id r p, T id = some r → μ id = some (some p) → p.g ≠ b) → w'.heap[b]? = w.heap[b]?
  L : ∀ b, b < w.heap.size → (L' b ↔ L b)
  map : ∀ id q, μ id = some q → μ' id = some q
  place : ∀ id r p, T' id = some r → μ' id = some (some p) → w.heap.size ≤ p.g ∨ ∃ id0 r0 p0, T id0 = some r0 ∧ μ id0 = some (some p0) ∧ p0.g = p.g

theorem Ext.refl (w : World) (L : Nat → Prop) (μ : Map) (T : Table) : Ext w L μ T w L μ T :=
  ⟨rfl, rfl, rfl, Nat.le_refl _, fun _ _ _ => rfl, fun _ _ => Iff.rfl, fun _ _ h => h, fun id r p h hp => .inr ⟨id, r, p, h, hp, rfl⟩⟩

theorem Ext.unlive {P : Program} {w w' : World} {L L' : Nat → Prop} {μ μ' : Map} {T T' : Table} (h : Ext w L μ T w' L' μ' T') (hT : TRel P w L μ T) : ∀ b, b < w.heap.size → ¬ L b → w'.heap[b]? = w.heap[b]? := by
  intro b hb hL
  refine h.block b hb fun id r p hr hp e => ?_
  obtain ⟨q, hq, hrow, _⟩ := hT.row id r hr
  rw [hp] at hq
  obtain rfl := Option.some.inj hq
  subst e
  exact hL (hrow p rfl).live

theorem Ext.vrel {P : Program} {w w' : World} {L L' : Nat → Prop} {μ μ' : Map} {T T' : Table} (h : Ext w L μ T w' L' μ' T') (hT : TRel P w L μ T) {v : Value} {x : AV} (hv : VRel w L μ v x) : VRel w' L' μ' v x :=
  hv.mono (h.unlive hT) h.size (fun b hb => (h.L b hb).1) h.map

theorem Ext.trans {w w' w'' : World} {L L' L'' : Nat → Prop} {μ μ' μ'' : Map} {T T' T'' : Table} (h : Ext w L μ T w' L' μ' T') (k : Ext w' L' μ' T' w'' L'' μ'' T'') : Ext w L μ T w'' L'' μ'' T'' := by
  refine ⟨k.os.trans h.os, k.tape.trans h.tape, k.output.trans h.output, Nat.le_trans h.size k.size, fun b hb hn => ?_, fun b hb => (k.L b (Nat.lt_of_lt_of_le hb h.size)).trans (h.L b hb), fun id q hq => k.map _ _ (h.map _ _ hq), fun id r p hr hp => ?_⟩
  · refine (k.block b (Nat.lt_of_lt_of_le hb h.size) fun id r p hr hp e => ?_).trans (h.block b hb hn)
    rcases h.place id r p hr hp with hge | ⟨id0, r0, p0, h0, h1, h2⟩
    · omega
    · exact hn id0 r0 p0 h0 h1 (h2.trans e)
  · rcases k.place id r p hr hp with hge | ⟨id0, r0, p0, h0, h1, h2⟩
    · exact .inl (Nat.le_trans h.size hge)
    · rcases h.place id0 r0 p0 h0 h1 with hge | ⟨i1, r1, p1, h3, h4, h5⟩
      · exact .inl (by omega)
      · exact .inr ⟨i1, r1, p1, h3, h4, h5.trans h2⟩

/-- A row of another block than one that was written stands, too. -/
theorem TRel.cell {P : Program} {w : World} {L : Nat → Prop} {μ : Map} {T : Table} (h : TRel P w L μ T) {id : Nat} {r : Row} {p : Place} (hr : T id = some r) (hp : μ id = some (some p)) : RowAt P w L μ p r := by
  obtain ⟨q, hq, hrow, _⟩ := h.row id r hr
  rw [hp] at hq
  exact hrow p (Option.some.inj hq).symm

end Go.Proofs.Ytnceadbfgpiaaaa.G
/- What the model's own operations on memory come to, in the forms that the abstract machine's proofs ask for. Plain theorems over any program. -/
namespace Go.Proofs.Ytnceadbfgpiaaaa.G
set_option linter.unusedVariables false
set_option linter.unusedSimpArgs false
open Go
variable {P : Program} {w : World}

theorem run_bind {α β : Type} (x : Sem α) (f : α → Sem β) {a : α} {w' : World} (h : x.run P w = .ok a w') : (x >>= f).run P w = (f a).run P w' := by
  rw [show (x >>= f) = x.bind f from rfl, Sem.run_bind', h]; rfl
theorem run_ret {α : Type} (a : α) : (pure a : Sem α).run P w = .ok a w := rfl
theorem run_under {t : TypeId} {d : TypeDesc} (h : P.underlying t = some d) : (underlying t).run P w = .ok d w := run_underlying h w
theorem run_size {t : TypeId} {i : TypeInfo} (h : P.info? t = some i) : (sizeOf t).run P w = .ok i.size w := by simp [sizeOf, typeInfo, h]
theorem run_zero {t : TypeId} {i : TypeInfo} {z : Value} (h : P.info? t = some i) (hz : i.zero = some z) : (zeroValue t).run P w = .ok z w := by simp [zeroValue, typeInfo, h, hz]
theorem run_newRow (e : TypeId) (cs : Array Value) : (newRow e cs).run P w = .ok ⟨w.heap.size, 0, none⟩ (w.alloc (.cells cs e)) := by
  simp only [newRow, newObj]
  exact run_bind _ _ rfl

theorem run_alloc {e : TypeId} {i : TypeInfo} {z : Value} (hi : P.info? e = some i) (hz : i.zero = some z) :
    (Instr.alloc e true (.tuple #[])).run P w = .ok (.pointer (some ⟨w.heap.size, 0, none⟩)) (w.alloc (.cells z.cells e)) := by
  unfold Instr.alloc
  rw [run_bind _ _ (run_zero hi hz)]
  exact run_bind _ _ (run_newRow e z.cells)
theorem run_box {e : TypeId} {x : Value} : (Instr.box e x).run P w = .ok (.pointer (some ⟨w.heap.size, 0, none⟩)) (w.alloc (.cells x.cells e)) := by
  unfold Instr.box
  exact run_bind _ _ (run_newRow e x.cells)

def aggT (P : Program) (t : TypeId) : Option Bool := (P.underlying t).map fun | .struct _ | .array _ _ => true | _ => false
theorem run_isAgg {t : TypeId} {b : Bool} (h : aggT P t = some b) : (isAgg t).run P w = .ok b w := by
  unfold aggT at h
  obtain ⟨d, hd, rfl⟩ := Option.map_eq_some_iff.1 h
  unfold isAgg
  rw [run_bind _ _ (run_under hd)]
  cases d <;> rfl

theorem run_load {a : Addr} {v : Value} (h : w.cell? a = some v) : (load a).run P w = .ok v w := by
  simp [load, Sem.run, h]
theorem run_loadVar_one {t : TypeId} {a : Addr} {v : Value} (ht : aggT P t = some false) (h : w.cell? a = some v) : (loadVar t a).run P w = .ok v w := by
  unfold loadVar
  rw [run_bind _ _ (run_isAgg ht)]
  exact run_load h
theorem run_loadVar_agg {t : TypeId} {i : TypeInfo} {a : Addr} {cs : List Value} (ht : aggT P t = some true) (hi : P.info? t = some i) (hl : cs.length = i.size) (h : ∀ j v, cs[j]? = some v → w.cell? (a.add j) = some v) :
    (loadVar t a).run P w = .ok (.agg cs.toArray) w := by
  unfold loadVar
  rw [run_bind _ _ (run_isAgg ht)]
  simp only [if_true]
  rw [run_bind _ _ (run_size hi), ← hl, run_bind _ _ (run_loadCells_list w a cs h)]
  rfl
theorem run_storeVar {t : TypeId} {i : TypeInfo} {v : Value} {g o : Nat} {e : TypeId} {cur : Array Value} (hi : P.info? t = some i) (hl : v.cells.size = i.size) (hg : w.heap[g]? = some (.cells cur e (0, 0)))
    (hfit : o + v.cells.size ≤ cur.size) (h1 : ∀ u ∈ v.cells.toList, u.oneCell' = true) :
    (storeVar t ⟨g, o, none⟩ v).run P w = .ok () (w.setRow g (cur.toList.take o ++ v.cells.toList ++ cur.toList.drop (o + v.cells.size)).toArray) := by
  unfold storeVar
  rw [run_bind _ _ (run_size hi)]
  have hs := run_storeCells_at P g o e v.cells.toList 0 cur w hg (by simpa using hfit) h1
  rw [if_neg (by simpa using hl)]
  simpa using hs

/-- A part of the pure evaluation: what needs no memory. -/
def evPure {α : Type} (P : Program) : Sem α → Option α
  | .pure a => some a
  | .program k => evPure P (k P)
  | .mark _ k => evPure P k
  | .choose q k => if q.forced then evPure P (k 0) else none
  | _ => none
theorem evPure_run {α : Type} {s : Sem α} {a : α} (h : evPure P s = some a) : s.run P w = .ok a w := by
  induction s generalizing w with
  | pure b => simp only [evPure, Option.some.injEq] at h; subst h; rfl
  | program k ih => exact ih P h
  | mark m k ih => exact ih h
  | choose q k ih =>
    simp only [evPure] at h
    split at h
    · rename_i hq
      simp only [Sem.run, hq, if_true]
      exact ih 0 h
    · cases h
  | load m a k ih => cases h
  | store m a v k ih => cases h
  | new o k ih => cases h
  | shape r k ih => cases h
  | freeze a n k ih => cases h
  | frozen a k ih => cases h
  | getObj r k ih => cases h
  | setObj r o k ih => cases h
  | sys c k ih => cases h
  | halt x => cases h
theorem evPure_bind {α β : Type} (s : Sem α) (f : α → Sem β) : evPure P (s >>= f) = (evPure P s).bind fun a => evPure P (f a) := by
  show evPure P (s.bind f) = _
  induction s with
  | pure b => rfl
  | program k ih => exact ih P
  | mark m k ih => exact ih
  | choose q k ih =>
    simp only [Sem.bind, evPure]
    split
    · exact ih 0
    · rfl
  | load m a k ih => rfl
  | store m a v k ih => rfl
  | new o k ih => rfl
  | shape r k ih => rfl
  | freeze a n k ih => rfl
  | frozen a k ih => rfl
  | getObj r k ih => rfl
  | setObj r o k ih => rfl
  | sys c k ih => rfl
  | halt x => rfl
theorem evPure_pure {α : Type} (a : α) : evPure P (pure a : Sem α) = some a := rfl

/-! Appending. -/
theorem run_append_in {t u ty e : TypeId} {d : TypeDesc} {i : TypeInfo} {g b n cap : Nat} {cur : Array Value} {x : Value} {m : Nat} {news : List Value}
    (ht : P.underlying t = some (.slice e)) (hi : P.info? e = some i) (hu : P.underlying u = some d) (hd : (∃ e', d = .slice e') ∨ d = .string) (hg : w.heap[g]? = some (.cells cur e (0, 0)))
    (hx : (Builtin.lenOf x).run P w = .ok m w) (hc : (Builtin.firstCells i.size m x).run P w = .ok news.toArray w)
    (hroom : n + m ≤ cap) (hfit : b + n * i.size + news.length ≤ cur.size) (h1 : ∀ u ∈ news, u.oneCell' = true) :
    (Builtin.append_ #[t, u] ty #[.slice (some ⟨g, b, none⟩) n cap, x]).run P w =
      .ok (.slice (some ⟨g, b, none⟩) (n + m) cap) (w.setRow g (cur.toList.take (b + n * i.size) ++ news ++ cur.toList.drop (b + n * i.size + news.length)).toArray) := by
  have hst := run_storeCells_at P g (b + n * i.size) e news 0 cur w hg (by simpa using hfit) h1
  simp only [Nat.add_zero] at hst
  have ha : (⟨g, b, none⟩ : Addr).add (n * i.size) = ⟨g, b + n * i.size, none⟩ := by unfold Addr.add; split <;> simp_all
  generalize hF : Builtin.firstCells i.size m x = F at hc
  rcases hd with ⟨e', rfl⟩ | rfl
  · simp [Builtin.append_, run_underlying ht, run_underlying hu, sizeOf, typeInfo, hi, hx, hroom, hF, hc, ha, hst]
  · simp [Builtin.append_, run_underlying ht, run_underlying hu, sizeOf, typeInfo, hi, hx, hroom, hF, hc, ha, hst]

theorem run_append_new {t u ty e : TypeId} {d : TypeDesc} {i : TypeInfo} {z : Value} {A : Option Addr} {n cap : Nat} {x : Value} {m : Nat} {news olds : List Value}
    (ht : P.underlying t = some (.slice e)) (hi : P.info? e = some i) (hz : i.zero = some z) (hu : P.underlying u = some d) (hd : (∃ e', d = .slice e') ∨ d = .string)
    (hx : (Builtin.lenOf x).run P w = .ok m w) (hc : (Builtin.firstCells i.size m x).run P w.drew = .ok news.toArray w.drew)
    (ho : (Builtin.firstCells i.size n (.slice A n cap)).run P w.drew = .ok olds.toArray w.drew)
    (hroom : ¬ n + m ≤ cap) (h63 : ((n + m : Nat) : Int) ≤ 9223372036854775807) (hby : (n + m) * i.bytes ≤ 140737488355328) :
    (Builtin.append_ #[t, u] ty #[.slice A n cap, x]).run P w =
      .ok (.slice (some ⟨w.heap.size, 0, none⟩) (n + m) (grownCap w (n + m) cap e))
        (w.drew.alloc (.cells (olds.toArray ++ news.toArray ++ Builtin.zeroCells z.cells (grownCap w (n + m) cap e - (n + m))) e)) := by
  have hf : Builtin.nextslicecap (n + m) cap * i.bytes ≤ 281474976710656 := growslice_fits (by omega) hby
  have h63' : ¬ (9223372036854775807 < ((n : Int) + (m : Int))) := by omega
  have h48' : ¬ (281474976710656 < Builtin.nextslicecap (n + m) cap * i.bytes) := by omega
  generalize hF : Builtin.firstCells i.size m x = F at hc
  generalize hG : Builtin.firstCells i.size n (.slice A n cap) = G at ho
  rcases hd with ⟨e', rfl⟩ | rfl
  · simp [Builtin.append_, run_underlying ht, run_underlying hu, sizeOf, typeInfo, zeroValue, hi, hz, hx, hroom, h63', h48', Question.forced, hF, hc, hG, ho, newRow, grownCap]
    congr 2
    apply Array.ext'
    simp [List.append_assoc]
  · simp [Builtin.append_, run_underlying ht, run_underlying hu, sizeOf, typeInfo, zeroValue, hi, hz, hx, hroom, h63', h48', Question.forced, hF, hc, hG, ho, newRow, grownCap]
    congr 2
    apply Array.ext'
    simp [List.append_assoc]

/-! Rows as they lie, and what writing does to them. -/
def CurRel (w : World) (L : Nat → Prop) (μ : Map) (cur : Array Value) (b sz : Nat) (els : List (List AV)) : Prop :=
  ∀ i e j x, els[i]? = some e → e[j]? = some x → ∃ u, cur[b + i * sz + j]? = some u ∧ u.oneCell' = true ∧ VRel w L μ u x

def spl (e : List AV) (o : Nat) (vs : List AV) : List AV := e.take o ++ vs ++ e.drop (o + vs.length)

theorem length_spl {e : List AV} {o : Nat} {vs : List AV} (h : o + vs.length ≤ e.length) : (spl e o vs).length = e.length := by
  simp only [spl, List.length_append, List.length_take, List.length_drop]; omega

theorem get_seg {α : Type} (l : List α) (o : Nat) (us : List α) (h : o + us.length ≤ l.length) (k : Nat) :
    (l.take o ++ us ++ l.drop (o + us.length))[k]? = if k < o then l[k]? else if k < o + us.length then us[k - o]? else l[k]? := by
  have hl : (l.take o).length = o := by rw [List.length_take]; omega
  by_cases h1 : k < o
  · rw [if_pos h1, List.append_assoc, List.getElem?_append_left (by omega), List.getElem?_take, if_pos h1]
  · rw [if_neg h1]
    by_cases h2 : k < o + us.length
    · rw [if_pos h2, List.append_assoc, List.getElem?_append_right (by omega), hl, List.getElem?_append_left (by omega)]
    · rw [if_neg h2, List.getElem?_append_right (by simp; omega), List.getElem?_drop]
      congr 1
      simp only [List.length_append, hl]
      omega

theorem mul_lt_lem {i i' sz : Nat} (h : i < i') : i * sz + sz ≤ i' * sz := by
  have := Nat.mul_le_mul_right sz (show i + 1 ≤ i' by omega)
  rw [Nat.add_mul, Nat.one_mul] at this
  exact this

/-- A part of one element is written. -/
theorem CurRel.write {w : World} {L : Nat → Prop} {μ : Map} {cur : Array Value} {b sz : Nat} {els : List (List AV)} (h : CurRel w L μ cur b sz els) (hs : ∀ e ∈ els, e.length = sz)
    {i : Nat} {e : List AV} (he : els[i]? = some e) {o : Nat} {us : List Value} {vs : List AV} (hv : Rels w L μ us vs) (h1 : ∀ x ∈ vs, x.one = true) (hfit : o + vs.length ≤ sz) (hcap : b + els.length * sz ≤ cur.size) :
    CurRel w L μ (cur.toList.take (b + i * sz + o) ++ us ++ cur.toList.drop (b + i * sz + o + us.length)).toArray b sz (els.set i (spl e o vs)) := by
  intro i' e' j x he' hx
  have hi : i < els.length := (List.getElem?_eq_some_iff.1 he).1
  have hle : e.length = sz := hs e (List.mem_of_getElem? he)
  have hil := mul_lt_lem (sz := sz) hi
  have hul : us.length = vs.length := hv.1
  rw [List.getElem?_toArray, get_seg _ _ _ (by simp; omega)]
  by_cases hii : i' = i
  · subst hii
    rw [List.getElem?_set_self hi] at he'
    obtain rfl := Option.some.inj he'
    unfold spl at hx
    rw [get_seg _ _ _ (by omega)] at hx
    have hjl : j < sz := by
      by_cases hj : j < o
      · omega
      · rw [if_neg hj] at hx
        by_cases hj2 : j < o + vs.length
        · omega
        · rw [if_neg hj2] at hx
          have := (List.getElem?_eq_some_iff.1 hx).1
          omega
    by_cases hj : j < o
    · rw [if_pos hj] at hx
      rw [if_pos (by omega)]
      obtain ⟨u, hu, hr⟩ := h i' e j x he hx
      exact ⟨u, by simpa using hu, hr⟩
    · rw [if_neg hj] at hx
      rw [if_neg (by omega)]
      by_cases hj2 : j < o + vs.length
      · rw [if_pos hj2] at hx
        rw [if_pos (by omega)]
        obtain ⟨u, hu, hr⟩ := hv.2 (j - o) x hx
        refine ⟨u, ?_, hr.one (h1 x (List.mem_of_getElem? hx)), hr⟩
        rw [← hu]; congr 1; omega
      · rw [if_neg hj2] at hx
        rw [if_neg (by omega)]
        obtain ⟨u, hu, hr⟩ := h i' e j x he hx
        exact ⟨u, by simpa using hu, hr⟩
  · rw [List.getElem?_set_ne (by omega)] at he'
    obtain ⟨u, hu, hr⟩ := h i' e' j x he' hx
    have hjl : j < sz := by
      have h1 := (List.getElem?_eq_some_iff.1 hx).1
      have h2 := hs e' (List.mem_of_getElem? he')
      omega
    refine ⟨u, ?_, hr⟩
    rcases Nat.lt_or_gt_of_ne hii with hlt | hlt
    · have := mul_lt_lem (sz := sz) hlt
      rw [if_pos (by omega)]; simpa using hu
    · have := mul_lt_lem (sz := sz) hlt
      rw [if_neg (by omega), if_neg (by omega)]; simpa using hu

/-- Elements are written from element n on, over what stood there or behind it. -/
theorem CurRel.over {w : World} {L : Nat → Prop} {μ : Map} {cur : Array Value} {b sz : Nat} {els : List (List AV)} (h : CurRel w L μ cur b sz els) (hs : ∀ e ∈ els, e.length = sz)
    {n : Nat} (hn : n ≤ els.length) {us : List Value} {news : List (List AV)} (hns : ∀ e ∈ news, e.length = sz) (hul : us.length = news.length * sz)
    (hv : ∀ i e j x, news[i]? = some e → e[j]? = some x → ∃ u, us[i * sz + j]? = some u ∧ u.oneCell' = true ∧ VRel w L μ u x)
    (hcap : b + n * sz + us.length ≤ cur.size) :
    CurRel w L μ (cur.toList.take (b + n * sz) ++ us ++ cur.toList.drop (b + n * sz + us.length)).toArray b sz (els.take n ++ news ++ els.drop (n + news.length)) := by
  intro i e j x he hx
  rw [List.getElem?_toArray, get_seg _ _ _ (by simpa using hcap)]
  have key : ∀ k, (els.take n ++ news ++ els.drop (n + news.length))[k]? = if k < n then els[k]? else if k < n + news.length then news[k - n]? else els[k]? := by
    intro k
    have hl : (els.take n).length = n := by rw [List.length_take]; omega
    by_cases h1 : k < n
    · rw [if_pos h1, List.append_assoc, List.getElem?_append_left (by omega), List.getElem?_take, if_pos h1]
    · rw [if_neg h1]
      by_cases h2 : k < n + news.length
      · rw [if_pos h2, List.append_assoc, List.getElem?_append_right (by omega), hl, List.getElem?_append_left (by omega)]
      · rw [if_neg h2, List.getElem?_append_right (by simp; omega), List.getElem?_drop]
        congr 1
        simp only [List.length_append, hl]
        omega
  rw [key] at he
  by_cases h1 : i < n
  · rw [if_pos h1] at he
    have hjl : j < sz := by
      have q1 := (List.getElem?_eq_some_iff.1 hx).1
      have q2 := hs e (List.mem_of_getElem? he)
      omega
    have := mul_lt_lem (sz := sz) h1
    obtain ⟨u, hu, hr⟩ := h i e j x he hx
    rw [if_pos (by omega)]
    exact ⟨u, by simpa using hu, hr⟩
  · rw [if_neg h1] at he
    have hge : n * sz ≤ i * sz := Nat.mul_le_mul_right sz (by omega)
    rw [if_neg (by omega)]
    by_cases h2 : i < n + news.length
    · rw [if_pos h2] at he
      have hjl : j < sz := by
        have q1 := (List.getElem?_eq_some_iff.1 hx).1
        have q2 := hns e (List.mem_of_getElem? he)
        omega
      have q3 := mul_lt_lem (sz := sz) (show i - n < news.length by omega)
      have q4 : i * sz = n * sz + (i - n) * sz := by rw [← Nat.add_mul]; congr 1; omega
      rw [if_pos (by omega)]
      obtain ⟨u, hu, hr⟩ := hv (i - n) e j x he hx
      refine ⟨u, ?_, hr⟩
      rw [← hu]; congr 1; omega
    · rw [if_neg h2] at he
      have hge : (n + news.length) * sz ≤ i * sz := Nat.mul_le_mul_right sz (by omega)
      rw [Nat.add_mul] at hge
      rw [if_neg (by omega)]
      obtain ⟨u, hu, hr⟩ := h i e j x he hx
      exact ⟨u, by simpa using hu, hr⟩

theorem run_indexAt_slice {t e : TypeId} {i : TypeInfo} {a : Addr} {n cap : Nat} {k : IntKind} {ix : Int} (ht : P.underlying t = some (.slice e)) (hi : P.info? e = some i) (h0 : 0 ≤ ix) (h1 : ix < n) :
    (Instr.indexAt t (.slice (some a) n cap) (.int k ix)).run P w = .ok (.pointer (some (a.add (ix.toNat * i.size)))) w := by
  simp [Instr.indexAt, asIntOf, run_underlying ht, h0, h1, sizeOf, typeInfo, hi]
theorem run_indexAt_array {t e : TypeId} {len : Nat} {i : TypeInfo} {a : Addr} {k : IntKind} {ix : Int} (ht : P.underlying t = some (.array len e)) (hi : P.info? e = some i) (h0 : 0 ≤ ix) (h1 : ix < len) :
    (Instr.indexAt t (.pointer (some a)) (.int k ix)).run P w = .ok (.pointer (some (a.add (ix.toNat * i.size)))) w := by
  simp [Instr.indexAt, asIntOf, run_underlying ht, h0, h1, sizeOf, typeInfo, hi, Instr.sureAddr]
theorem run_fieldAt {s : TypeId} {fs : Array Field} {f : Nat} {fd : Field} {i : TypeInfo} {a : Addr} (hs : P.underlying s = some (.struct fs)) (hf : fs[f]? = some fd) (hi : P.info? fd.type = some i) (hz : i.size ≠ 0) :
    (Instr.fieldAt s (.pointer (some a)) f).run P w = .ok (.pointer (some (a.add fd.offset))) w := by
  simp [Instr.fieldAt, run_underlying hs, hf, Instr.sureAddr, fieldPlace, sizeOf, typeInfo, hi, hz]
end Go.Proofs.Ytnceadbfgpiaaaa.G
/- Steps of the abstract machine on the table of one's own rows, against memory. Plain theorems over any program. -/
namespace Go.Proofs.Ytnceadbfgpiaaaa.G
set_option linter.unusedVariables false
set_option linter.unusedSimpArgs false
open Go
variable {P : Program} {w w' : World} {L L' : Nat → Prop} {μ μ' : Map} {T T' : Table}

theorem RowAt.lt {p : Place} {r : Row} (h : RowAt P w L μ p r) : p.g < w.heap.size := by
  obtain ⟨cur, hg, _⟩ := h.cur
  exact (Array.getElem?_eq_some_iff.1 hg).1

/-- One row is new, or written; the others stand. -/
theorem TRel.step (hT : TRel P w L μ T) (hb : ∀ b, b < w.heap.size → ¬ L b → w'.heap[b]? = w.heap[b]?) (hs : w.heap.size ≤ w'.heap.size)
    (hL : ∀ b, b < w.heap.size → (L' b ↔ L b)) (hμ : ∀ id q, μ id = some q → μ' id = some q) (k : Nat) (rk : Row) (qk : Option Place) (hqk : μ' k = some qk)
    (hk : ∀ p, qk = some p → RowAt P w' L' μ' p rk) (hk0 : qk = none → rk.els = [])
    (hT' : ∀ i r, T' i = some r → (i ≠ k ∧ T i = some r ∧ ∀ p, μ i = some (some p) → w'.heap[p.g]? = w.heap[p.g]? ∧ ∀ pk, qk = some pk → p.g ≠ pk.g) ∨ (i = k ∧ r = rk)) :
    TRel P w' L' μ' T' := by
  constructor
  · intro i r hr
    rcases hT' i r hr with ⟨hne, hi, hp⟩ | ⟨rfl, rfl⟩
    · obtain ⟨q, hq, hrow, hnil⟩ := hT.row i r hi
      refine ⟨q, hμ _ _ hq, fun p he => ?_, hnil⟩
      subst he
      have hr0 := hrow p rfl
      exact hr0.mono hb hs (fun b hb' => (hL b hb').1) hμ (hp p hq).1 ((hL _ hr0.lt).2 hr0.live)
    · exact ⟨qk, hqk, hk, hk0⟩
  · intro i i' r r' p p' hr hr' hp hp' hne
    have old : ∀ j rj pj, T j = some rj → μ' j = some (some pj) → μ j = some (some pj) := by
      intro j rj pj hj hpj
      obtain ⟨q, hq, _⟩ := hT.row j rj hj
      rw [hμ _ _ hq] at hpj
      rw [hq, Option.some.inj hpj]
    rcases hT' i r hr with ⟨hn, hi, hpi⟩ | ⟨rfl, rfl⟩
    · have ho := old i r p hi hp
      rcases hT' i' r' hr' with ⟨hn', hi', hpi'⟩ | ⟨rfl, rfl⟩
      · exact hT.apart i i' r r' p p' hi hi' ho (old i' r' p' hi' hp') hne
      · rw [hp'] at hqk
        exact (hpi p ho).2 p' (Option.some.inj hqk).symm
    · rcases hT' i' r' hr' with ⟨hn', hi', hpi'⟩ | ⟨rfl, rfl⟩
      · rw [hp] at hqk
        have := (hpi' p' (old i' r' p' hi' hp')).2 p (Option.some.inj hqk).symm
        exact fun e => this e.symm
      · exact absurd rfl hne

def newL (w : World) (L : Nat → Prop) : Nat → Prop := fun b => L b ∨ b = w.heap.size

theorem Map.set_ext {id : Nat} (hid : μ id = none) (q : Option Place) : ∀ i x, μ i = some x → (μ.set id q) i = some x := by
  intro i x hx
  unfold Map.set
  split
  · subst_vars; rw [hid] at hx; cases hx
  · exact hx

/-- A new block. -/
theorem alloc_core {w1 : World} (hT : TRel P w L μ T) {id : Nat} (hid : μ id = none) (hh : w1.heap = w.heap) (ho : w1.os = w.os) (ht : w1.tape = w.tape) (hu : w1.output = w.output)
    (cur : Array Value) (e : TypeId) (cap sz : Nat) (els : List (List AV)) (hsz : cur.size = cap * sz) (hc : CurRel w L μ cur 0 sz els) (hlen : els.length ≤ cap) (hs : ∀ e ∈ els, e.length = sz)
    (hszT : sz = P.cellsOf e) (hcap : cap ≤ maxLen) :
    Ext w L μ T (w1.alloc (.cells cur e)) (newL w L) (μ.set id (some ⟨w.heap.size, 0, cap, sz⟩)) (T.set id (some ⟨e, els⟩)) ∧
      TRel P (w1.alloc (.cells cur e)) (newL w L) (μ.set id (some ⟨w.heap.size, 0, cap, sz⟩)) (T.set id (some ⟨e, els⟩)) := by
  have hn : (w1.alloc (.cells cur e)).heap[w.heap.size]? = some (.cells cur e) := by rw [← hh]; exact heap_alloc_new w1 _
  have hold : ∀ b, b < w.heap.size → (w1.alloc (.cells cur e)).heap[b]? = w.heap[b]? := by
    intro b hb
    rw [← hh]; exact Go.RowKit.Below.heap_alloc w1 _ b (by rw [hh]; exact hb)
  have hsize : w.heap.size ≤ (w1.alloc (.cells cur e)).heap.size := by simp [World.alloc, hh]
  have hL : ∀ b, b < w.heap.size → (newL w L b ↔ L b) := by
    intro b hb
    unfold newL
    constructor
    · rintro (h | h)
      · exact h
      · omega
    · exact .inl
  have hμ := Map.set_ext hid (some ⟨w.heap.size, 0, cap, sz⟩)
  have hTid : ∀ i r, T i = some r → i ≠ id := by
    rintro i r hi rfl
    obtain ⟨q, hq, _⟩ := hT.row i r hi
    rw [hid] at hq; cases hq
  constructor
  · refine ⟨ho, ht, hu, hsize, fun b hb _ => hold b hb, hL, hμ, fun i r p hr hp => ?_⟩
    unfold Table.set at hr
    split at hr
    · subst_vars
      simp only [Map.set, if_true, Option.some.injEq] at hp
      subst hp
      exact .inl (Nat.le_refl _)
    · rename_i hne
      simp only [Map.set, hne, if_false] at hp
      exact .inr ⟨i, r, p, hr, hp, rfl⟩
  · refine hT.step (fun b hb _ => hold b hb) hsize hL hμ id ⟨e, els⟩ (some ⟨w.heap.size, 0, cap, sz⟩) (by simp [Map.set]) ?_ (fun h => by cases h) ?_
    · intro p hp
      obtain rfl := Option.some.inj hp
      refine ⟨⟨cur, hn, by simpa using hsz, fun i e' j x he hx => ?_⟩, hlen, hs, hszT, hcap, .inr rfl⟩
      obtain ⟨u, hu, h1, hv⟩ := hc i e' j x he hx
      exact ⟨u, hu, h1, hv.mono (fun b hb _ => hold b hb) hsize (fun b hb => (hL b hb).1) hμ⟩
    · intro i r hr
      unfold Table.set at hr
      split at hr
      · subst_vars
        exact .inr ⟨rfl, (Option.some.inj hr).symm⟩
      · rename_i hne
        refine .inl ⟨hne, hr, fun p hp => ⟨hold _ ((hT.cell hr hp).lt), fun pk hpk => ?_⟩⟩
        obtain rfl := Option.some.inj hpk
        have := (hT.cell hr hp).lt
        simp only
        omega

/-- A row is written in its place. -/
theorem store_core (hT : TRel P w L μ T) {id : Nat} {r : Row} {p : Place} (hr : T id = some r) (hp : μ id = some (some p)) {cur cur' : Array Value} (hg : w.heap[p.g]? = some (.cells cur r.elem (0, 0)))
    (hsz : cur'.size = cur.size) {els : List (List AV)} (hc : CurRel w L μ cur' p.b p.sz els) (hlen : els.length ≤ p.cap) (hs : ∀ e ∈ els, e.length = p.sz) :
    Ext w L μ T (w.setRow p.g cur') L μ (T.set id (some ⟨r.elem, els⟩)) ∧ TRel P (w.setRow p.g cur') L μ (T.set id (some ⟨r.elem, els⟩)) := by
  have hrow := hT.cell hr hp
  have hother : ∀ b, b ≠ p.g → (w.setRow p.g cur').heap[b]? = w.heap[b]? := fun b hb => setRow_other w p.g b _ hb
  have hsize : w.heap.size ≤ (w.setRow p.g cur').heap.size := by simp [World.setRow]
  have hbl : ∀ b, b < w.heap.size → ¬ L b → (w.setRow p.g cur').heap[b]? = w.heap[b]? := fun b _ hL => hother b fun e => hL (e ▸ hrow.live)
  have hcur : cur'.size = p.b + p.cap * p.sz := by
    obtain ⟨c0, h0, h1, _⟩ := hrow.cur
    rw [hg] at h0
    injection h0 with h0
    injection h0 with h0
    subst h0
    omega
  constructor
  · refine ⟨rfl, rfl, rfl, hsize, fun b hb hn => hother b fun e => hn id r p hr hp e.symm, fun _ _ => Iff.rfl, fun _ _ h => h, fun i r' p' hr' hp' => ?_⟩
    unfold Table.set at hr'
    split at hr'
    · subst_vars
      rw [hp] at hp'
      injection hp' with hp'
      injection hp' with hp'
      subst hp'
      exact .inr ⟨i, r, p, hr, hp, rfl⟩
    · exact .inr ⟨i, r', p', hr', hp', rfl⟩
  · refine hT.step hbl hsize (fun _ _ => Iff.rfl) (fun _ _ h => h) id ⟨r.elem, els⟩ (some p) hp ?_ (fun h => by cases h) ?_
    · intro p' hp'
      obtain rfl := Option.some.inj hp'
      refine ⟨⟨cur', setRow_heap w p.g cur cur' _ _ hg, hcur, fun i e' j x he hx => ?_⟩, hlen, hs, hrow.szT, hrow.cap, hrow.live⟩
      obtain ⟨u, hu, h1, hv⟩ := hc i e' j x he hx
      exact ⟨u, hu, h1, hv.mono hbl hsize (fun b hb h => h) (fun _ _ h => h)⟩
    · intro i r' hr'
      unfold Table.set at hr'
      split at hr'
      · subst_vars
        exact .inr ⟨rfl, (Option.some.inj hr').symm⟩
      · rename_i hne
        refine .inl ⟨hne, hr', fun p' hp' => ?_⟩
        have hap := hT.apart i id r' r p' p hr' hr hp' hp hne
        refine ⟨hother _ hap, fun pk hpk => ?_⟩
        obtain rfl := Option.some.inj hpk
        exact hap

/-- A row is written on: from one of its elements on it has a new name, the old one is given up. -/
theorem move_core (hT : TRel P w L μ T) {id id' : Nat} (hid : μ id' = none) {r : Row} {p p' : Place} (hr : T id = some r) (hp : μ id = some (some p)) {cur cur' : Array Value} (hg : w.heap[p.g]? = some (.cells cur r.elem (0, 0)))
    (hg' : p'.g = p.g) (hsz : cur'.size = p'.b + p'.cap * p'.sz) (hszT : p'.sz = P.cellsOf r.elem) (hcap : p'.cap ≤ maxLen) {els : List (List AV)} (hc : CurRel w L μ cur' p'.b p'.sz els) (hlen : els.length ≤ p'.cap) (hs : ∀ e ∈ els, e.length = p'.sz) :
    Ext w L μ T (w.setRow p.g cur') L (μ.set id' (some p')) ((T.set id none).set id' (some ⟨r.elem, els⟩)) ∧ TRel P (w.setRow p.g cur') L (μ.set id' (some p')) ((T.set id none).set id' (some ⟨r.elem, els⟩)) := by
  have hrow := hT.cell hr hp
  have hother : ∀ b, b ≠ p.g → (w.setRow p.g cur').heap[b]? = w.heap[b]? := fun b hb => setRow_other w p.g b _ hb
  have hsize : w.heap.size ≤ (w.setRow p.g cur').heap.size := by simp [World.setRow]
  have hbl : ∀ b, b < w.heap.size → ¬ L b → (w.setRow p.g cur').heap[b]? = w.heap[b]? := fun b _ hL => hother b fun e => hL (e ▸ hrow.live)
  have hμ := Map.set_ext hid (some p')
  constructor
  · refine ⟨rfl, rfl, rfl, hsize, fun b hb hn => hother b fun e => hn id r p hr hp e.symm, fun _ _ => Iff.rfl, hμ, fun i r' q hr' hq => ?_⟩
    unfold Table.set at hr'
    split at hr'
    · subst_vars
      simp only [Map.set, if_true, Option.some.injEq] at hq
      subst hq
      exact .inr ⟨id, r, p, hr, hp, hg'.symm⟩
    · rename_i hne
      simp only [Map.set, hne, if_false] at hq
      split at hr'
      · cases hr'
      · exact .inr ⟨i, r', q, hr', hq, rfl⟩
  · refine hT.step hbl hsize (fun _ _ => Iff.rfl) hμ id' ⟨r.elem, els⟩ (some p') (by simp [Map.set]) ?_ (fun h => by cases h) ?_
    · intro q hq
      obtain rfl := Option.some.inj hq
      refine ⟨⟨cur', by rw [hg']; exact setRow_heap w p.g cur cur' _ _ hg, hsz, fun i e' j x he hx => ?_⟩, hlen, hs, hszT, hcap, by rw [hg']; exact hrow.live⟩
      obtain ⟨u, hu, h1, hv⟩ := hc i e' j x he hx
      exact ⟨u, hu, h1, hv.mono hbl hsize (fun b hb h => h) hμ⟩
    · intro i r' hr'
      unfold Table.set at hr'
      split at hr'
      · subst_vars
        exact .inr ⟨rfl, (Option.some.inj hr').symm⟩
      · rename_i hne
        split at hr'
        · cases hr'
        · rename_i hne2
          refine .inl ⟨hne, hr', fun q hq => ?_⟩
          have hap := hT.apart i id r' r q p hr' hr hq hp hne2
          refine ⟨hother _ hap, fun pk hpk => ?_⟩
          obtain rfl := Option.some.inj hpk
          rw [hg']; exact hap

/-- A row without a place (nil) has a new name; nothing changes. -/
theorem nil_core (hT : TRel P w L μ T) {id id' : Nat} (hid : μ id' = none) (e : TypeId) :
    Ext w L μ T w L (μ.set id' none) ((T.set id none).set id' (some ⟨e, []⟩)) ∧ TRel P w L (μ.set id' none) ((T.set id none).set id' (some ⟨e, []⟩)) := by
  have hμ := Map.set_ext hid none
  constructor
  · refine ⟨rfl, rfl, rfl, Nat.le_refl _, fun _ _ _ => rfl, fun _ _ => Iff.rfl, hμ, fun i r' q hr' hq => ?_⟩
    unfold Table.set at hr'
    split at hr'
    · subst_vars
      simp only [Map.set, if_true, Option.some.injEq] at hq
      cases hq
    · rename_i hne
      simp only [Map.set, hne, if_false] at hq
      split at hr'
      · cases hr'
      · exact .inr ⟨i, r', q, hr', hq, rfl⟩
  · refine hT.step (fun _ _ _ => rfl) (Nat.le_refl _) (fun _ _ => Iff.rfl) hμ id' ⟨e, []⟩ none (by simp [Map.set]) (fun p h => by cases h) (fun _ => rfl) ?_
    intro i r' hr'
    unfold Table.set at hr'
    split at hr'
    · subst_vars
      exact .inr ⟨rfl, (Option.some.inj hr').symm⟩
    · rename_i hne
      split at hr'
      · cases hr'
      · exact .inl ⟨hne, hr', fun q hq => ⟨rfl, fun pk h => by cases h⟩⟩

/-- Rows given up. -/
theorem drop_core (hT : TRel P w L μ T) (id : Nat) : Ext w L μ T w L μ (T.set id none) ∧ TRel P w L μ (T.set id none) := by
  have hsub : ∀ i r, (T.set id none) i = some r → T i = some r := by
    intro i r h
    unfold Table.set at h
    split at h
    · cases h
    · exact h
  exact ⟨⟨rfl, rfl, rfl, Nat.le_refl _, fun _ _ _ => rfl, fun _ _ => Iff.rfl, fun _ _ h => h, fun i r p hr hp => .inr ⟨i, r, p, hsub i r hr, hp, rfl⟩⟩,
    ⟨fun i r hr => hT.row i r (hsub i r hr), fun i i' r r' p p' h h' => hT.apart i i' r r' p p' (hsub i r h) (hsub i' r' h')⟩⟩
end Go.Proofs.Ytnceadbfgpiaaaa.G
/- The abstract machine's operations, and that the model's own operations do just this to memory. Plain theorems over any program. -/
namespace Go.Proofs.Ytnceadbfgpiaaaa.G
set_option linter.unusedVariables false
set_option linter.unusedSimpArgs false
open Go
variable {P : Program} {w w' : World} {L L' : Nat → Prop} {μ μ' : Map} {T T' : Table}

def tinfo (P : Program) (t : TypeId) : Option (Option Value × Nat × Nat) := (P.info? t).map fun i => (i.zero, i.size, i.bytes)
theorem tinfo_some {t : TypeId} {z : Option Value} {sz by_ : Nat} (h : tinfo P t = some (z, sz, by_)) : ∃ i, P.info? t = some i ∧ i.zero = z ∧ i.size = sz ∧ i.bytes = by_ ∧ P.cellsOf t = sz := by
  unfold tinfo at h
  obtain ⟨i, hi, he⟩ := Option.map_eq_some_iff.1 h
  simp only [Prod.mk.injEq] at he
  exact ⟨i, hi, he.1, he.2.1, he.2.2, by simp [Program.cellsOf, hi, he.2.1]⟩

/-- What an operation comes to. -/
def Gives (P : Program) (w : World) (L : Nat → Prop) (μ : Map) (T : Table) (id : Nat) (m : Sem Value) (y : AV) (T' : Table) : Prop :=
  ∃ v w' L' μ', m.run P w = .ok v w' ∧ Ext w L μ T w' L' μ' T' ∧ TRel P w' L' μ' T' ∧ VRel w' L' μ' v y ∧ ∀ i, i ≠ id → μ' i = μ i

theorem Gives.same (hT : TRel P w L μ T) {id : Nat} {m : Sem Value} {v : Value} {y : AV} (hr : m.run P w = .ok v w) (hv : VRel w L μ v y) : Gives P w L μ T id m y T :=
  ⟨v, w, L, μ, hr, Ext.refl _ _ _ _, hT, hv, fun _ _ => rfl⟩

theorem map_set_ne {id i : Nat} {q : Option Place} (h : i ≠ id) : (μ.set id q) i = μ i := by simp [Map.set, h]
theorem map_set_self {id : Nat} {q : Option Place} : (μ.set id q) id = some q := by simp [Map.set]

theorem add_block (a : Addr) (n : Nat) : (a.add n).block = a.block := by unfold Addr.add; split <;> rfl
theorem add_add (a : Addr) (n m : Nat) : (a.add n).add m = a.add (n + m) := by
  unfold Addr.add
  by_cases h1 : n = 0
  · subst h1; simp
  · by_cases h2 : m = 0
    · subst h2; simp
    · rw [if_neg h1, if_neg h2, if_neg (by omega)]; simp; omega
theorem add_lit (g o n : Nat) : (⟨g, o, none⟩ : Addr).add n = ⟨g, o + n, none⟩ := by unfold Addr.add; split <;> simp_all

/-! ### A variable, a struct's value -/
def evBox (P : Program) (T : Table) (id : Nat) (e : TypeId) (cs : List AV) : Option (AV × Table) :=
  match tinfo P e with
  | some (_, sz, _) => if cs.length = sz ∧ cs.all AV.one = true then some (.ptr id 0 0, T.set id (some ⟨e, [cs]⟩)) else none
  | none => none

theorem rels_cur {us : List Value} {xs : List AV} (h : Rels w L μ us xs) (h1 : xs.all AV.one = true) {sz : Nat} (hs : xs.length = sz) : CurRel w L μ us.toArray 0 sz [xs] := by
  intro i e j x he hx
  cases i with
  | succ i => simp at he
  | zero =>
    simp at he; subst he
    obtain ⟨u, hu, hv⟩ := h.2 j x hx
    exact ⟨u, by simpa using hu, hv.one (List.all_eq_true.1 h1 x (List.mem_of_getElem? hx)), hv⟩

theorem new_gives {w1 : World} (hT : TRel P w L μ T) {id : Nat} (hid : μ id = none) (hh : w1.heap = w.heap) (ho : w1.os = w.os) (ht : w1.tape = w.tape) (hu : w1.output = w.output) {m : Sem Value} {v : Value}
    (cur : Array Value) (e : TypeId) (cap sz : Nat) (els : List (List AV)) (hsz : cur.size = cap * sz) (hc : CurRel w L μ cur 0 sz els) (hlen : els.length ≤ cap) (hs : ∀ e ∈ els, e.length = sz)
    (hszT : sz = P.cellsOf e) (hcap : cap ≤ maxLen) (hr : m.run P w = .ok v (w1.alloc (.cells cur e))) {y : AV} (T' : Table) (hT' : T' = T.set id (some ⟨e, els⟩))
    (hv : VRel (w1.alloc (.cells cur e)) (newL w L) (μ.set id (some ⟨w.heap.size, 0, cap, sz⟩)) v y) : Gives P w L μ T id m y T' := by
  obtain ⟨h1, h2⟩ := alloc_core hT hid hh ho ht hu cur e cap sz els hsz hc hlen hs hszT hcap
  subst hT'
  exact ⟨v, _, _, _, hr, h1, h2, hv, fun i hi => map_set_ne hi⟩

theorem evBox_gives (hT : TRel P w L μ T) {id : Nat} (hid : μ id = none) {e : TypeId} {v : Value} {xs : List AV} (hv : Rels w L μ v.cells.toList xs) {m : Sem Value}
    (hr : m.run P w = .ok (.pointer (some ⟨w.heap.size, 0, none⟩)) (w.alloc (.cells v.cells e))) {y : AV} (h : evBox P T id e xs = some (y, T')) : Gives P w L μ T id m y T' := by
  unfold evBox at h
  split at h
  · rename_i z sz b ht
    obtain ⟨i, hi, _, hsz, _, hcs⟩ := tinfo_some ht
    split at h
    · rename_i hc
      obtain ⟨hl, h1⟩ := hc
      simp only [Option.some.injEq, Prod.mk.injEq] at h
      obtain ⟨rfl, rfl⟩ := h
      refine new_gives hT hid rfl rfl rfl rfl v.cells e 1 sz [xs] ?_ ?_ (by simp) (by simpa using hl) hcs.symm (by simp [maxLen]) hr _ rfl ?_
      · have := hv.1; simp at this; omega
      · have := rels_cur hv h1 hl; simpa using this
      · have := VRel.ptr (w := w.alloc (.cells v.cells e)) (L := newL w L) (i := 0) (off := 0) (map_set_self (μ := μ) (id := id) (q := some ⟨w.heap.size, 0, 1, sz⟩))
        simpa using this
    · cases h
  · cases h

/-! ### Structs by value -/
def fillA (place : Nat → Option (Nat × Nat)) : List AV → List (Nat × AV) → Option (List AV)
  | cells, [] => some cells
  | cells, (i, v) :: rest =>
    match place i with
    | none => none
    | some (off, size) => if v.cells.length = size ∧ off + size ≤ cells.length then fillA place (spl cells off v.cells) rest else none

theorem foldl_set (us : List Value) : ∀ (off k : Nat) (cs : Array Value), off + k + us.length ≤ cs.size →
    ((us.zipIdx k).foldl (fun cs (c, j) => cs.setIfInBounds (off + j) c) cs).toList = cs.toList.take (off + k) ++ us ++ cs.toList.drop (off + k + us.length) := by
  induction us with
  | nil => intro off k cs h; simp
  | cons u us ih =>
    intro off k cs h
    simp only [List.zipIdx_cons, List.foldl_cons]
    rw [show ((us.zipIdx (k + 1)).foldl (fun cs (c, j) => cs.setIfInBounds (off + j) c) (cs.setIfInBounds (off + k) u)).toList = _ from ih off (k + 1) _ (by simp at h ⊢; omega)]
    apply List.ext_getElem?
    intro i
    have hl : off + k + (u :: us).length ≤ cs.toList.length := by simpa using h
    have hl2 : off + (k + 1) + us.length ≤ (cs.setIfInBounds (off + k) u).toList.length := by simp at h ⊢; omega
    rw [get_seg _ _ _ hl, get_seg _ _ _ hl2]
    simp only [Array.toList_setIfInBounds, List.length_cons]
    by_cases h1 : i < off + k
    · rw [if_pos h1, if_pos (by omega), List.getElem?_set_ne (by omega)]
    · rw [if_neg h1]
      by_cases h2 : i = off + k
      · subst h2
        rw [if_pos (by omega), if_pos (by omega), List.getElem?_set_self (by simp at hl ⊢; omega)]
        simp
      · rw [if_neg (by omega)]
        by_cases h3 : i < off + (k + 1) + us.length
        · rw [if_pos h3, if_pos (by omega)]
          rw [show i - (off + k) = (i - (off + (k + 1))) + 1 by omega, List.getElem?_cons_succ]
        · rw [if_neg h3, if_neg (by omega), List.getElem?_set_ne (by omega)]

theorem Rels.spl {us : List Value} {xs : List AV} {vs : List Value} {ys : List AV} (h : Rels w L μ us xs) (hv : Rels w L μ vs ys) {o : Nat} (ho : o + ys.length ≤ xs.length) :
    Rels w L μ (us.take o ++ vs ++ us.drop (o + vs.length)) (spl xs o ys) := by
  have h1 := h.1
  have h2 := hv.1
  refine ⟨by rw [length_spl ho]; simp; omega, fun j x hx => ?_⟩
  unfold G.spl at hx
  rw [get_seg _ _ _ (by omega)] at hx
  rw [get_seg _ _ _ (by omega), h2]
  by_cases q1 : j < o
  · rw [if_pos q1] at hx ⊢
    exact h.2 j x hx
  · rw [if_neg q1] at hx ⊢
    by_cases q2 : j < o + ys.length
    · rw [if_pos q2] at hx ⊢
      exact hv.2 (j - o) x hx
    · rw [if_neg q2] at hx ⊢
      exact h.2 j x hx

theorem fillA_sound {place : Nat → Option (Nat × Nat)} : ∀ (parts : List (Nat × AV)) (vs : List (Nat × Value)) (cs : Array Value) (xs ys : List AV), Rels w L μ cs.toList xs →
    (vs.map (·.1) = parts.map (·.1)) → (∀ (k : Nat) (v : Nat × Value) (x : Nat × AV), vs[k]? = some v → parts[k]? = some x → VRel w L μ v.2 x.2) → fillA place xs parts = some ys →
    ∃ cs', Instr.fill place cs vs = some cs' ∧ Rels w L μ cs'.toList ys := by
  intro parts
  induction parts with
  | nil =>
    intro vs cs xs ys hr hm hv h
    have : vs = [] := by cases vs <;> simp_all
    subst this
    simp only [fillA, Option.some.injEq] at h
    subst h
    exact ⟨cs, rfl, hr⟩
  | cons p parts ih =>
    intro vs cs xs ys hr hm hv h
    obtain ⟨i, x⟩ := p
    cases vs with
    | nil => simp at hm
    | cons q vs =>
      obtain ⟨i', v⟩ := q
      simp only [List.map_cons, List.cons.injEq] at hm
      obtain ⟨rfl, hm⟩ := hm
      simp only [fillA] at h
      split at h
      · cases h
      · rename_i off size hp
        split at h
        · rename_i hc
          obtain ⟨hsz, hfit⟩ := hc
          have hvx : VRel w L μ v x := hv 0 (i', v) (i', x) rfl rfl
          have hcv := hvx.cells
          have hl1 := hr.1
          have hl2 := hcv.1
          have hns : Rels w L μ ((v.cells.zipIdx.foldl (fun cs (c, j) => cs.setIfInBounds (off + j) c) cs)).toList (spl xs off x.cells) := by
            have e : (v.cells.zipIdx.foldl (fun cs (c, j) => cs.setIfInBounds (off + j) c) cs).toList = cs.toList.take off ++ v.cells.toList ++ cs.toList.drop (off + v.cells.toList.length) := by
              have := foldl_set v.cells.toList off 0 cs (by simp at hl1 hl2 ⊢; omega)
              rw [← Array.foldl_toList]
              simpa using this
            rw [e]
            exact hr.spl hcv (by omega)
          obtain ⟨cs', h1, h2⟩ := ih vs _ _ _ hns hm (fun k v x h1 h2 => hv (k + 1) v x h1 h2) h
          refine ⟨cs', ?_, h2⟩
          simp only [Instr.fill, hp]
          rw [if_neg (by simp at hl1 hl2 ⊢; omega)]
          exact h1
        · cases h

def zeroAV (z : Value) : List AV := z.cells.toList.map .flat
theorem zero_rels (z : Value) (h : z.cells.toList.all notAgg = true) : Rels w L μ z.cells.toList (zeroAV z) := by
  refine ⟨by simp [zeroAV], fun j x hx => ?_⟩
  unfold zeroAV at hx
  rw [List.getElem?_map] at hx
  obtain ⟨u, hu, rfl⟩ := Option.map_eq_some_iff.1 hx
  exact ⟨u, hu, .flat u (List.all_eq_true.1 h u (List.mem_of_getElem? hu))⟩

/-- Where the parts of a struct (or an array) lie: offset and cells. -/
def placesOf (P : Program) (t : TypeId) : Option (Nat → Option (Nat × Nat)) :=
  match P.underlying t with
  | some (.struct fs) => (fs.mapM fun f => (tinfo P f.type).map fun x => (f.offset, x.2.1)).map fun (l : Array (Nat × Nat)) => fun i => l[i]?
  | some (.array _ e) => (tinfo P e).map fun x => fun i => some (i * x.2.1, x.2.1)
  | _ => none

def evBuild (P : Program) (t : TypeId) (parts : List (Nat × AV)) : Option AV :=
  match tinfo P t, placesOf P t with
  | some (some z, _, _), some pl => if z.cells.toList.all notAgg = true then (fillA pl (zeroAV z) parts).map .agg else none
  | _, _ => none

theorem run_mapM_array {α β : Type} (f : α → Sem β) (g : α → Option β) (h : ∀ a b, g a = some b → (f a).run P w = .ok b w) : ∀ (l : List α) (bs : List β), l.mapM g = some bs → (l.mapM f).run P w = .ok bs w := by
  intro l
  induction l with
  | nil => intro bs hb; simp at hb; subst hb; simp [Sem.run_pure]
  | cons a l ih =>
    intro bs hb
    simp only [List.mapM_cons, Option.bind_eq_bind, Option.bind_eq_some_iff, Option.pure_def, Option.some.injEq] at hb
    obtain ⟨b, hb1, bs', hb2, rfl⟩ := hb
    rw [List.mapM_cons, run_bind _ _ (h a b hb1), run_bind _ _ (ih bs' hb2)]
    rfl

theorem run_build {t : TypeId} {i : TypeInfo} {z : Value} {pl : Nat → Option (Nat × Nat)} {parts : Array (Nat × Value)} {cs : Array Value} (hi : P.info? t = some i) (hz : i.zero = some z) (hp : placesOf P t = some pl)
    (hf : Instr.fill pl z.cells parts.toList = some cs) : (Instr.build t parts).run P w = .ok (.agg cs) w := by
  unfold placesOf at hp
  split at hp
  · rename_i fs hu
    obtain ⟨l, hl, rfl⟩ := Option.map_eq_some_iff.1 hp
    have hm : (fs.mapM fun f => do pure (f.offset, ← sizeOf f.type) : Sem (Array (Nat × Nat))).run P w = .ok l w := by
      rw [Array.mapM_eq_mapM_toList] at hl ⊢
      obtain ⟨l', hl', rfl⟩ := Option.map_eq_some_iff.1 hl
      have := run_mapM_array (P := P) (w := w) (fun f : Field => do pure (f.offset, ← sizeOf f.type)) (fun f => (tinfo P f.type).map fun x => (f.offset, x.2.1)) (by
        intro f b hb
        obtain ⟨x, hx, rfl⟩ := Option.map_eq_some_iff.1 hb
        obtain ⟨i', hi', _, hs, _, _⟩ := tinfo_some hx
        rw [run_bind _ _ (run_size hi'), hs]
        rfl) fs.toList l' hl'
      exact run_bind _ _ this
    unfold Instr.build
    rw [run_bind _ _ (run_zero hi hz), run_bind _ _ (run_under hu)]
    simp only
    rw [run_bind _ _ hm]
    simp only [hf]
    rfl
  · rename_i e hu
    obtain ⟨x, hx, rfl⟩ := Option.map_eq_some_iff.1 hp
    obtain ⟨i', hi', _, hs, _, _⟩ := tinfo_some hx
    unfold Instr.build
    rw [run_bind _ _ (run_zero hi hz), run_bind _ _ (run_under hu)]
    simp only
    rw [run_bind _ _ (run_size hi'), hs]
    simp only [hf]
    rfl
  · cases hp

theorem evBuild_gives (hT : TRel P w L μ T) {id : Nat} {t : TypeId} {parts : List (Nat × AV)} {vs : Array (Nat × Value)} (hm : vs.toList.map (·.1) = parts.map (·.1))
    (hv : ∀ (k : Nat) (v : Nat × Value) (x : Nat × AV), vs.toList[k]? = some v → parts[k]? = some x → VRel w L μ v.2 x.2) {y : AV} (h : evBuild P t parts = some y) : Gives P w L μ T id (Instr.build t vs) y T := by
  unfold evBuild at h
  split at h
  · rename_i z sz b pl ht hp
    obtain ⟨i, hi, hz, _, _, _⟩ := tinfo_some ht
    split at h
    · rename_i hz1
      obtain ⟨ys, hf, rfl⟩ := Option.map_eq_some_iff.1 h
      obtain ⟨cs', h1, h2⟩ := fillA_sound parts vs.toList z.cells _ ys (zero_rels (w := w) (L := L) (μ := μ) z hz1) hm hv hf
      refine Gives.same hT (run_build hi hz hp h1) (.agg (by simpa using h2.1) fun j x hx => ?_)
      obtain ⟨u, hu, hr⟩ := h2.2 j x hx
      have : cs'.getD j undef = u := by
        rw [Array.getElem?_toList] at hu
        simp [Array.getD_eq_getD_getElem?, hu]
      rw [this]; exact hr
    · cases h
  · cases h

/-! ### Slice literals -/
def setEls : List (List AV) → List (Nat × AV) → Nat → Option (List (List AV))
  | els, [], _ => some els
  | els, (i, v) :: rest, sz => if v.cells.length = sz ∧ i < els.length ∧ v.cells.all AV.one = true then setEls (els.set i v.cells) rest sz else none

def evBuildSlice (P : Program) (T : Table) (id : Nat) (t : TypeId) (len : Nat) (parts : List (Nat × AV)) : Option (AV × Table) :=
  match P.underlying t with
  | some (.slice e) =>
    match tinfo P e with
    | some (some z, sz, _) =>
      if len * sz ≤ 16777216 ∧ 0 < sz ∧ (zeroAV z).length = sz ∧ (zeroAV z).all AV.one = true then
        (setEls (List.replicate len (zeroAV z)) parts sz).map fun els => (.sl id 0 len, T.set id (some ⟨e, els⟩))
      else none
    | _ => none
  | _ => none

theorem all_notAgg_of_one {z : Value} (h : (zeroAV z).all AV.one = true) : z.cells.toList.all notAgg = true := by
  unfold zeroAV at h
  rw [List.all_map] at h
  rw [List.all_eq_true] at h ⊢
  intro u hu
  have := h u hu
  cases u <;> first | rfl | cases this

theorem madeCells_rel (z : Value) (len : Nat) (h0 : 0 < (zeroAV z).length) (h : (zeroAV z).all AV.one = true) : CurRel w L μ (madeCells z.cells (len * (zeroAV z).length)) 0 (zeroAV z).length (List.replicate len (zeroAV z)) := by
  intro i e j x he hx
  rw [List.getElem?_replicate] at he
  split at he
  · rename_i hi
    obtain rfl := Option.some.inj he
    obtain ⟨u, hu, hv⟩ := (zero_rels (w := w) (L := L) (μ := μ) z (all_notAgg_of_one h)).2 j x hx
    have hj := (List.getElem?_eq_some_iff.1 hx).1
    have hlt : i * (zeroAV z).length + j < len * (zeroAV z).length := by
      have := mul_lt_lem (sz := (zeroAV z).length) hi; omega
    have hzl : z.cells.size = (zeroAV z).length := by simp [zeroAV]
    refine ⟨u, ?_, hv.one (List.all_eq_true.1 h x (List.mem_of_getElem? hx)), hv⟩
    simp only [madeCells, Nat.zero_add, Array.getElem?_map, Array.getElem?_range, hlt, if_true, Option.map_some]
    rw [hzl, Nat.add_comm, Nat.add_mul_mod_self_right, Nat.mod_eq_of_lt hj]
    rw [Array.getElem?_toList] at hu
    simp [getElem!_def, hu]
  · cases he

theorem setEls_sound {sz : Nat} : ∀ (parts : List (Nat × AV)) (vs : List (Nat × Value)) (cs : Array Value) (els els' : List (List AV)), CurRel w L μ cs 0 sz els → (∀ e ∈ els, e.length = sz) → els.length * sz ≤ cs.size →
    (vs.map (·.1) = parts.map (·.1)) → (∀ (k : Nat) (v : Nat × Value) (x : Nat × AV), vs[k]? = some v → parts[k]? = some x → VRel w L μ v.2 x.2) → setEls els parts sz = some els' →
    ∃ cs', Instr.fill (fun i => some (i * sz, sz)) cs vs = some cs' ∧ cs'.size = cs.size ∧ CurRel w L μ cs' 0 sz els' ∧ (∀ e ∈ els', e.length = sz) ∧ els'.length = els.length := by
  intro parts
  induction parts with
  | nil =>
    intro vs cs els els' hr hs hc hm hv h
    have : vs = [] := by cases vs <;> simp_all
    subst this
    simp only [setEls, Option.some.injEq] at h
    subst h
    exact ⟨cs, rfl, rfl, hr, hs, rfl⟩
  | cons p parts ih =>
    intro vs cs els els' hr hs hc hm hv h
    obtain ⟨i, x⟩ := p
    cases vs with
    | nil => simp at hm
    | cons q vs =>
      obtain ⟨i', v⟩ := q
      simp only [List.map_cons, List.cons.injEq] at hm
      obtain ⟨rfl, hm⟩ := hm
      simp only [setEls] at h
      split at h
      · rename_i hcnd
        obtain ⟨hsz, hi, h1⟩ := hcnd
        have hvx : VRel w L μ v x := hv 0 (i', v) (i', x) rfl rfl
        have hcv := hvx.cells
        have hl2 := hcv.1
        have hil := mul_lt_lem (sz := sz) hi
        have hvl : v.cells.size = sz := by simp at hl2; omega
        obtain ⟨e0, he0⟩ : ∃ e0, els[i']? = some e0 := ⟨els[i'], List.getElem?_eq_getElem hi⟩
        have hw := hr.write hs he0 (o := 0) hcv (fun x hx => List.all_eq_true.1 h1 x hx) (by omega) (by omega)
        have hel : e0.length = sz := hs e0 (List.mem_of_getElem? he0)
        have hspl : spl e0 0 x.cells = x.cells := by
          unfold spl; simp; omega
        rw [hspl] at hw
        have e : (v.cells.zipIdx.foldl (fun cs (c, j) => cs.setIfInBounds (i' * sz + j) c) cs) = (cs.toList.take (0 + i' * sz + 0) ++ v.cells.toList ++ cs.toList.drop (0 + i' * sz + 0 + v.cells.toList.length)).toArray := by
          have := foldl_set v.cells.toList (i' * sz) 0 cs (by simp; omega)
          apply Array.ext'
          rw [← Array.foldl_toList]
          simpa using this
        obtain ⟨cs', q1, q2, q3, q4, q5⟩ := ih vs (v.cells.zipIdx.foldl (fun cs (c, j) => cs.setIfInBounds (i' * sz + j) c) cs) _ els' (by rw [e]; exact hw) (by
          intro e he
          rcases List.mem_or_eq_of_mem_set he with h | rfl
          · exact hs e h
          · exact hsz) (by rw [e]; simp; omega) hm (fun k v x h1 h2 => hv (k + 1) v x h1 h2) h
        refine ⟨cs', ?_, ?_, q3, q4, by simpa using q5⟩
        · simp only [Instr.fill]
          rw [if_neg (by simp; omega)]
          exact q1
        · rw [q2, e]; simp; omega
      · cases h

theorem evBuildSlice_gives (hT : TRel P w L μ T) {id : Nat} (hid : μ id = none) {t : TypeId} {len : Nat} {parts : List (Nat × AV)} {vs : Array (Nat × Value)} (hm : vs.toList.map (·.1) = parts.map (·.1))
    (hv : ∀ (k : Nat) (v : Nat × Value) (x : Nat × AV), vs.toList[k]? = some v → parts[k]? = some x → VRel w L μ v.2 x.2) {y : AV} (h : evBuildSlice P T id t len parts = some (y, T')) :
    Gives P w L μ T id (Instr.buildSlice t len vs) y T' := by
  unfold evBuildSlice at h
  split at h
  · rename_i e hu
    split at h
    · rename_i z sz b ht
      obtain ⟨i, hi, hz, hsz, _, hcs⟩ := tinfo_some ht
      split at h
      · rename_i hc
        obtain ⟨hbig, h0, hzl, hz1⟩ := hc
        obtain ⟨els, hf, he⟩ := Option.map_eq_some_iff.1 h
        simp only [Prod.mk.injEq] at he
        obtain ⟨rfl, rfl⟩ := he
        have hmade := madeCells_rel (w := w) (L := L) (μ := μ) z len (by omega) hz1
        rw [hzl] at hmade
        obtain ⟨cs', h1, h2, h3, h4, h5⟩ := setEls_sound parts vs.toList _ _ els hmade (by
          intro e he
          rw [List.mem_replicate] at he
          rw [he.2]; exact hzl) (by simp [size_madeCells]) hm hv hf
        have hlen : els.length = len := by simpa using h5
        have hrun : (Instr.buildSlice t len vs).run P w = .ok (.slice (some ⟨w.heap.size, 0, none⟩) len len) (w.alloc (.cells cs' e)) := by
          unfold Instr.buildSlice
          rw [run_bind _ _ (run_under hu)]
          simp only
          rw [run_bind _ _ (run_size hi), hsz]
          have hb : ¬ (len * sz > 2 ^ 24) := by omega
          simp only [hb, if_false]
          by_cases hn : len * sz = 0
          · simp only [hn, if_true]
            have hl0 : len = 0 := by
              rcases Nat.mul_eq_zero.1 hn with h | h
              · exact h
              · omega
            rw [hn] at h1
            have e0 : (Array.range 0).map (fun x => (#[] : Array Value)[x % (#[] : Array Value).size]!) = madeCells z.cells 0 := by simp [madeCells]
            rw [run_bind _ _ (run_ret (#[] : Array Value)), e0, h1]
            exact run_bind _ _ (run_newRow e cs')
          · simp only [hn, if_false]
            rw [run_bind _ _ (run_zero hi hz), run_bind _ _ (run_ret z.cells)]
            have e1 : (Array.range (len * sz)).map (fun x => z.cells[x % z.cells.size]!) = madeCells z.cells (len * sz) := rfl
            rw [e1, h1]
            exact run_bind _ _ (run_newRow e cs')
        refine new_gives hT hid rfl rfl rfl rfl cs' e len sz els (by rw [h2, size_madeCells]) h3 (by omega) h4 hcs.symm ?_ hrun _ rfl ?_
        · have : len ≤ len * sz := Nat.le_mul_of_pos_right _ h0
          simp only [maxLen]; omega
        · exact .sl map_set_self ⟨by simp, some ⟨w.heap.size, 0, none⟩, by simp, fun _ => by simp⟩
      · cases h
    · cases h
  · cases h
end Go.Proofs.Ytnceadbfgpiaaaa.G
/- The abstract machine's operations on addresses and slices, and that the model's own operations do just this. Plain theorems over any program. -/
namespace Go.Proofs.Ytnceadbfgpiaaaa.G
set_option linter.unusedVariables false
set_option linter.unusedSimpArgs false
open Go
variable {P : Program} {w w' : World} {L L' : Nat → Prop} {μ μ' : Map} {T T' : Table}

theorem run_sureAddr (a : Addr) : (Instr.sureAddr (.pointer (some a))).run P w = .ok a w := rfl
theorem run_asIntOf (k : IntKind) (n : Int) : (asIntOf (.int k n)).run P w = .ok (k, n) w := rfl
theorem run_asAgg (cs : Array Value) : (asAgg (.agg cs)).run P w = .ok cs w := rfl

/-- Cells as they lie from an address on. -/
def cellsAt (T : Table) : AV → Option (List AV)
  | .ptr id i off => (T id).bind fun r => (r.els[i]?).bind fun e => if off ≤ e.length then some (e.drop off) else none
  | .rp cs => some cs
  | _ => none

theorem cellsAt_sound (hT : TRel P w L μ T) {v : Value} {x : AV} (hv : VRel w L μ v x) {cs : List AV} (h : cellsAt T x = some cs) :
    ∃ a, v = .pointer (some a) ∧ ∀ j y, cs[j]? = some y → ∃ u, w.cell? (a.add j) = some u ∧ u.oneCell' = true ∧ VRel w L μ u y := by
  cases hv with
  | @ptr _ id i off p hq =>
    simp only [cellsAt] at h
    obtain ⟨r, hr, h⟩ := Option.bind_eq_some_iff.1 h
    obtain ⟨e, he, h⟩ := Option.bind_eq_some_iff.1 h
    split at h
    · rename_i hle
      obtain rfl := Option.some.inj h
      refine ⟨_, rfl, fun j y hy => ?_⟩
      obtain ⟨cur, hg, hsz, hc⟩ := (hT.cell hr hq).cur
      rw [List.getElem?_drop] at hy
      obtain ⟨u, hu, h1, hv⟩ := hc i e (off + j) y he hy
      refine ⟨u, ?_, h1, hv⟩
      rw [add_lit, cell_of_row w p.g _ cur r.elem (0, 0) hg, ← hu]
      congr 1; omega
    · cases h
  | @rp _ a cs0 U hL hb hc h1 hvr =>
    simp only [cellsAt, Option.some.injEq] at h
    subst h
    exact ⟨a, rfl, fun j y hy => ⟨U j, hc j (List.getElem?_eq_some_iff.1 hy).1, h1 j (List.getElem?_eq_some_iff.1 hy).1, (hvr j y hy).up⟩⟩
  | flat => cases h
  | agg => cases h
  | tup => cases h
  | ro => cases h
  | sl => cases h

/-- A variable's value out of its cells. -/
def ofCells (P : Program) (t : TypeId) (cs : List AV) : Option AV :=
  match aggT P t with
  | some true => match tinfo P t with
    | some (_, sz, _) => if sz ≤ cs.length then some (.agg (cs.take sz)) else none
    | none => none
  | some false => cs[0]?
  | none => none

theorem ofCells_sound {t : TypeId} {a : Addr} {cs : List AV} (hc : ∀ (j : Nat) (y : AV), cs[j]? = some y → ∃ u, w.cell? (a.add j) = some u ∧ u.oneCell' = true ∧ VRel w L μ u y) {y : AV} (h : ofCells P t cs = some y) :
    ∃ v, (loadVar t a).run P w = .ok v w ∧ VRel w L μ v y := by
  unfold ofCells at h
  split at h
  · rename_i ha
    split at h
    · rename_i z sz b ht
      obtain ⟨i, hi, _, hs, _, _⟩ := tinfo_some ht
      split at h
      · rename_i hle
        obtain rfl := Option.some.inj h
        let us : List Value := (List.range sz).map fun j => (w.cell? (a.add j)).getD undef
        have hus : ∀ (j : Nat) v, us[j]? = some v → w.cell? (a.add j) = some v := by
          intro j v hj
          simp only [us, List.getElem?_map] at hj
          obtain ⟨k, hk, rfl⟩ := Option.map_eq_some_iff.1 hj
          have hlt := (List.getElem?_eq_some_iff.1 hk).1
          rw [List.getElem?_range (by simpa using hlt)] at hk
          obtain rfl := Option.some.inj hk
          simp at hlt
          obtain ⟨u, hu, _⟩ := hc j cs[j] (List.getElem?_eq_getElem (by omega))
          rw [hu]; rfl
        refine ⟨.agg us.toArray, run_loadVar_agg ha hi (by simp [us, hs]) hus, .agg (by simp [us, List.length_take]; omega) fun j x hx => ?_⟩
        rw [List.getElem?_take] at hx
        split at hx
        · rename_i hj
          obtain ⟨u, hu, _, hv⟩ := hc j x hx
          have : us.toArray.getD j undef = u := by simp [us, Array.getD, hj, hu]
          rw [this]; exact hv
        · cases hx
      · cases h
    · cases h
  · rename_i ha
    obtain ⟨u, hu, _, hv⟩ := hc 0 y h
    exact ⟨u, run_loadVar_one ha (by simpa [Addr.add] using hu), hv⟩
  · cases h

def evLoad (P : Program) (T : Table) (t : TypeId) (x : AV) : Option AV := (cellsAt T x).bind (ofCells P t)

theorem evLoad_gives (hT : TRel P w L μ T) {id : Nat} {t : TypeId} {v : Value} {x y : AV} (hv : VRel w L μ v x) (h : evLoad P T t x = some y) : Gives P w L μ T id (Instr.loadAt t v) y T := by
  obtain ⟨cs, hcs, h⟩ := Option.bind_eq_some_iff.1 h
  obtain ⟨a, rfl, hc⟩ := cellsAt_sound hT hv hcs
  obtain ⟨u, hr, hu⟩ := ofCells_sound hc h
  refine Gives.same hT ?_ hu
  unfold Instr.loadAt
  exact (run_bind _ _ (run_ret a)).trans hr

def evStore (P : Program) (T : Table) (t : TypeId) (x y : AV) : Option Table :=
  match x, tinfo P t with
  | .ptr id i off, some (_, sz, _) => (T id).bind fun r => (r.els[i]?).bind fun e =>
    if y.cells.length = sz ∧ off + sz ≤ e.length ∧ y.cells.all AV.one = true then some (T.set id (some ⟨r.elem, r.els.set i (spl e off y.cells)⟩)) else none
  | _, _ => none

theorem evStore_gives (hT : TRel P w L μ T) {t : TypeId} {v u : Value} {x y : AV} (hv : VRel w L μ v x) (hu : VRel w L μ u y) (h : evStore P T t x y = some T') :
    ∃ w', (Instr.storeAt t v u).run P w = .ok () w' ∧ Ext w L μ T w' L μ T' ∧ TRel P w' L μ T' := by
  unfold evStore at h
  split at h
  · rename_i id i off z sz b ht
    obtain ⟨ti, hi, _, hs, _, _⟩ := tinfo_some ht
    obtain ⟨r, hr, h⟩ := Option.bind_eq_some_iff.1 h
    obtain ⟨e, he, h⟩ := Option.bind_eq_some_iff.1 h
    split at h
    · rename_i hc
      obtain ⟨hl, hfit, h1⟩ := hc
      obtain rfl := Option.some.inj h
      cases hv with
      | @ptr _ _ _ _ p hq =>
        have hrow := hT.cell hr hq
        obtain ⟨cur, hg, hsz, hcr⟩ := hrow.cur
        have hcu := hu.cells
        have hul := hcu.1
        have hone : ∀ z ∈ u.cells.toList, z.oneCell' = true := by
          intro z hz
          obtain ⟨j, hj, rfl⟩ := List.mem_iff_getElem.1 hz
          obtain ⟨u', hu', hv'⟩ := hcu.2 j y.cells[j] (List.getElem?_eq_getElem (by omega))
          rw [List.getElem?_eq_getElem hj] at hu'
          obtain rfl := Option.some.inj hu'
          exact hv'.one (List.all_eq_true.1 h1 _ (List.getElem_mem _))
        have hei := (List.getElem?_eq_some_iff.1 he).1
        have hel : e.length = p.sz := hrow.sz e (List.mem_of_getElem? he)
        have hlen := hrow.len
        have hil := mul_lt_lem (sz := p.sz) (show i < p.cap by omega)
        have hlm : r.els.length * p.sz ≤ p.cap * p.sz := Nat.mul_le_mul_right _ hlen
        have hus : u.cells.size = sz := by simp at hul; omega
        have hw := CurRel.write (w := w) (L := L) (μ := μ) (cur := cur) (b := p.b) hcr hrow.sz he (o := off) hcu (fun x hx => List.all_eq_true.1 h1 x hx) (by omega) (by omega)
        have hst := run_storeVar (P := P) (w := w) (v := u) (g := p.g) (o := p.b + i * p.sz + off) hi (by omega) hg (by omega) hone
        obtain ⟨q1, q2⟩ := store_core hT hr hq hg (cur' := (cur.toList.take (p.b + i * p.sz + off) ++ u.cells.toList ++ cur.toList.drop (p.b + i * p.sz + off + u.cells.toList.length)).toArray)
          (by simp; omega) hw (by simpa using hlen) (by
            intro e' he'
            rcases List.mem_or_eq_of_mem_set he' with h | rfl
            · exact hrow.sz e' h
            · rw [length_spl (by omega)]; exact hel)
        refine ⟨_, ?_, q1, q2⟩
        unfold Instr.storeAt
        rw [run_bind _ _ (run_sureAddr _)]
        simpa using hst
    · cases h
  · cases h

def intOf : AV → Option Int
  | .flat (.int _ n) => some n
  | _ => none

def evIndexAddr (P : Program) (T : Table) (t : TypeId) (x ix : AV) : Option AV :=
  match P.underlying t, intOf ix with
  | some (.slice e), some n =>
    match tinfo P e with
    | some (_, sz, _) =>
      match x with
      | .ro els => if 0 ≤ n then (els[n.toNat]?).bind fun c => if c.length = sz then some (.rp c) else none else none
      | .sl id off m => (T id).bind fun r => if 0 ≤ n ∧ n < m ∧ P.cellsOf r.elem = sz then some (.ptr id (off + n.toNat) 0) else none
      | _ => none
    | none => none
  | some (.array len e), some n =>
    match tinfo P e with
    | some (_, sz, _) =>
      match x with
      | .ptr id i off => if 0 ≤ n ∧ n < len then some (.ptr id i (off + n.toNat * sz)) else none
      | .rp cs => if 0 ≤ n ∧ n < len ∧ n.toNat * sz ≤ cs.length then some (.rp (cs.drop (n.toNat * sz))) else none
      | _ => none
    | none => none
  | _, _ => none

theorem intOf_rel {v : Value} {x : AV} (hv : VRel w L μ v x) {n : Int} (h : intOf x = some n) : ∃ k, v = .int k n := by
  unfold intOf at h
  split at h
  · cases hv with
    | flat v hv => exact ⟨_, by rw [Option.some.inj h]⟩
  · cases h

theorem VRel.drop_rp {a : Addr} {cs : List AV} (h : VRel w L μ (.pointer (some a)) (.rp cs)) (k : Nat) : VRel w L μ (.pointer (some (a.add k))) (.rp (cs.drop k)) := by
  cases h with
  | rp U hL hb hc h1 hvr =>
    refine .rp (fun j => U (k + j)) (by rw [add_block]; exact hL) (by rw [add_block]; exact hb) (fun j hj => ?_) (fun j hj => h1 _ (by simp at hj; omega)) fun j x hx => ?_
    · rw [add_add]; exact hc _ (by simp at hj; omega)
    · rw [List.getElem?_drop] at hx
      exact hvr _ x hx

theorem evIndexAddr_gives (hT : TRel P w L μ T) {id : Nat} {t : TypeId} {v u : Value} {x ix y : AV} (hv : VRel w L μ v x) (hu : VRel w L μ u ix) (h : evIndexAddr P T t x ix = some y) :
    Gives P w L μ T id (Instr.indexAt t v u) y T := by
  unfold evIndexAddr at h
  split at h
  · rename_i e n ht hn
    obtain ⟨k, rfl⟩ := intOf_rel hu hn
    split at h
    · rename_i z sz b hti
      obtain ⟨i, hi, _, hs, _, _⟩ := tinfo_some hti
      split at h
      · rename_i els
        split at h
        · rename_i h0
          obtain ⟨c, hc, h⟩ := Option.bind_eq_some_iff.1 h
          split at h
          · rename_i hcl
            obtain rfl := Option.some.inj h
            cases hv with
            | ro sz0 U hn' hcap hsz hA h1 hvr =>
              have hlt := (List.getElem?_eq_some_iff.1 hc).1
              have hsz0 : sz0 = sz := by rw [← hsz c (List.mem_of_getElem? hc), hcl]
              subst hsz0
              obtain ⟨a, rfl, hLa, hb, hcell⟩ := hA (by omega)
              refine Gives.same hT (run_indexAt_slice ht hi h0 (by omega)) ?_
              rw [hs]
              refine .rp (fun j => U n.toNat j) (by rw [add_block]; exact hLa) (by rw [add_block]; exact hb) (fun j hj => ?_) (fun j hj => h1 _ _ (by omega) (by omega)) fun j x hx => hvr _ _ _ x hc hx
              rw [add_add]; exact hcell _ _ (by omega) (by omega)
          · cases h
        · cases h
      · rename_i id' off m
        obtain ⟨r, hr, h⟩ := Option.bind_eq_some_iff.1 h
        split at h
        · rename_i hc
          obtain ⟨h0, hm, hcs⟩ := hc
          obtain rfl := Option.some.inj h
          cases hv with
          | @sl _ _ _ _ _ q hq hok =>
            cases q with
            | none => obtain ⟨_, rfl, _⟩ := hok; omega
            | some p =>
              obtain ⟨hle, A, rfl, hA⟩ := hok
              have hA' := hA (by omega)
              subst hA'
              have hszp := (hT.cell hr hq).szT
              refine Gives.same hT (run_indexAt_slice ht hi h0 (by omega)) ?_
              have := VRel.ptr (w := w) (L := L) (μ := μ) (i := off + n.toNat) (off := 0) hq
              rw [add_lit, hs, ← hcs, ← hszp]
              have e1 : p.b + off * p.sz + n.toNat * p.sz = p.b + (off + n.toNat) * p.sz + 0 := by rw [Nat.add_mul]; omega
              rw [e1]; exact this
        · cases h
      · cases h
    · cases h
  · rename_i len e n ht hn
    obtain ⟨k, rfl⟩ := intOf_rel hu hn
    split at h
    · rename_i z sz b hti
      obtain ⟨i, hi, _, hs, _, _⟩ := tinfo_some hti
      split at h
      · rename_i id' i' off
        split at h
        · rename_i hc
          obtain rfl := Option.some.inj h
          cases hv with
          | @ptr _ _ _ _ p hq =>
            refine Gives.same hT (run_indexAt_array ht hi hc.1 hc.2) ?_
            rw [add_lit, hs, Nat.add_assoc]
            exact VRel.ptr hq
        · cases h
      · rename_i cs
        split at h
        · rename_i hc
          obtain rfl := Option.some.inj h
          obtain ⟨a, rfl⟩ : ∃ a, v = .pointer (some a) := by cases hv; exact ⟨_, rfl⟩
          refine Gives.same hT (run_indexAt_array ht hi hc.1 hc.2.1) ?_
          rw [hs]
          exact hv.drop_rp _
        · cases h
      · cases h
    · cases h
  · cases h

def evFieldAddr (P : Program) (s : TypeId) (x : AV) (f : Nat) : Option AV :=
  match P.underlying s with
  | some (.struct fs) => (fs[f]?).bind fun fd =>
    match tinfo P fd.type with
    | some (_, sz, _) => if sz = 0 then none else
      match x with
      | .ptr id i off => some (.ptr id i (off + fd.offset))
      | .rp cs => some (.rp (cs.drop fd.offset))
      | _ => none
    | none => none
  | _ => none

theorem evFieldAddr_gives (hT : TRel P w L μ T) {id : Nat} {s : TypeId} {v : Value} {x y : AV} {f : Nat} (hv : VRel w L μ v x) (h : evFieldAddr P s x f = some y) : Gives P w L μ T id (Instr.fieldAt s v f) y T := by
  unfold evFieldAddr at h
  split at h
  · rename_i fs hs
    obtain ⟨fd, hf, h⟩ := Option.bind_eq_some_iff.1 h
    split at h
    · rename_i z sz b hti
      obtain ⟨i, hi, _, hsz, _, _⟩ := tinfo_some hti
      split at h
      · cases h
      · rename_i hne
        split at h
        · obtain rfl := Option.some.inj h
          cases hv with
          | ptr hq =>
            refine Gives.same hT (run_fieldAt hs hf hi (by omega)) ?_
            rw [add_lit, Nat.add_assoc]
            exact VRel.ptr hq
        · obtain rfl := Option.some.inj h
          obtain ⟨a, rfl⟩ : ∃ a, v = .pointer (some a) := by cases hv; exact ⟨_, rfl⟩
          exact Gives.same hT (run_fieldAt hs hf hi (by omega)) (hv.drop_rp _)
        · cases h
    · cases h
  · cases h

def partA (P : Program) (t : TypeId) (cs : List AV) (off : Nat) : Option AV :=
  match aggT P t with
  | some true => match tinfo P t with
    | some (_, sz, _) => if off + sz ≤ cs.length then some (.agg ((cs.drop off).take sz)) else none
    | none => none
  | some false => cs[off]?
  | none => none

theorem getD_of {us : Array Value} {j : Nat} {u : Value} (h : us[j]? = some u) : us.getD j undef = u := by simp [Array.getD_eq_getD_getElem?, h]

theorem partA_sound {us : Array Value} {cs : List AV} (hl : us.size = cs.length) (hr : ∀ (i : Nat) (x : AV), cs[i]? = some x → VRel w L μ (us.getD i undef) x) {t : TypeId} {off : Nat} {y : AV} (h : partA P t cs off = some y) :
    ∃ v, (part t us off).run P w = .ok v w ∧ VRel w L μ v y := by
  unfold partA at h
  split at h
  · rename_i ha
    split at h
    · rename_i z sz b ht
      obtain ⟨i, hi, _, hs, _, _⟩ := tinfo_some ht
      split at h
      · rename_i hle
        obtain rfl := Option.some.inj h
        refine ⟨.agg (us.extract off (off + sz)), ?_, .agg (by simp; omega) fun j x hx => ?_⟩
        · unfold part
          rw [run_bind _ _ (run_isAgg ha)]
          simp only [if_true]
          rw [run_bind _ _ (run_size hi), hs]
          rfl
        · rw [List.getElem?_take] at hx
          split at hx
          · rename_i hj
            rw [List.getElem?_drop] at hx
            have h1 := hr _ x hx
            have e : (us.extract off (off + sz)).getD j undef = us.getD (off + j) undef := by
              have hlt : off + j < us.size := by omega
              rw [getD_of (us := us) (Array.getElem?_eq_getElem hlt)]
              apply getD_of
              rw [Array.getElem?_extract]
              rw [if_pos (by omega)]
              exact Array.getElem?_eq_getElem hlt
            rw [e]; exact h1
          · cases hx
      · cases h
    · cases h
  · rename_i ha
    have hlt := (List.getElem?_eq_some_iff.1 h).1
    refine ⟨us.getD off undef, ?_, hr _ _ h⟩
    unfold part
    rw [run_bind _ _ (run_isAgg ha)]
    have hg : us[off]? = some us[off] := Array.getElem?_eq_getElem (by omega)
    simp only [Bool.false_eq_true, if_false, hg]
    rw [getD_of hg]
    rfl
  · cases h

def evField (P : Program) (t : TypeId) (x : AV) (f : Nat) : Option AV :=
  match P.underlying t, x with
  | some (.struct fs), .agg cs => (fs[f]?).bind fun fd => partA P fd.type cs fd.offset
  | _, _ => none

theorem evField_gives (hT : TRel P w L μ T) {id : Nat} {t : TypeId} {v : Value} {x y : AV} {f : Nat} (hv : VRel w L μ v x) (h : evField P t x f = some y) : Gives P w L μ T id (Instr.field t v f) y T := by
  unfold evField at h
  split at h
  · rename_i fs cs hs
    obtain ⟨fd, hf, h⟩ := Option.bind_eq_some_iff.1 h
    cases hv with
    | agg hl hr =>
      obtain ⟨u, hu, hvu⟩ := partA_sound hl hr h
      refine Gives.same hT ?_ hvu
      unfold Instr.field
      rw [run_bind _ _ (run_under hs)]
      simp only [hf]
      exact (run_bind _ _ (run_ret _)).trans hu
  · cases h

def evIndexArr (P : Program) (t : TypeId) (x ix : AV) : Option AV :=
  match P.underlying t, x, intOf ix with
  | some (.array len e), .agg cs, some n => match tinfo P e with
    | some (_, sz, _) => if 0 ≤ n ∧ n < len then partA P e cs (n.toNat * sz) else none
    | none => none
  | _, _, _ => none

theorem evIndexArr_gives (hT : TRel P w L μ T) {id : Nat} {t : TypeId} {v u : Value} {x ix y : AV} (hv : VRel w L μ v x) (hu : VRel w L μ u ix) (h : evIndexArr P t x ix = some y) : Gives P w L μ T id (Instr.index t v u) y T := by
  unfold evIndexArr at h
  split at h
  · rename_i len e cs n ht hn
    obtain ⟨k, rfl⟩ := intOf_rel hu hn
    split at h
    · rename_i z sz b hti
      obtain ⟨i, hi, _, hs, _, _⟩ := tinfo_some hti
      split at h
      · rename_i hc
        cases hv with
        | agg hl hr =>
          obtain ⟨u, hu, hvu⟩ := partA_sound hl hr h
          refine Gives.same hT ?_ hvu
          unfold Instr.index
          rw [run_bind _ _ (run_asIntOf k n), run_bind _ _ (run_under ht)]
          simp only
          rw [if_pos hc, run_bind _ _ (run_size hi), hs]
          exact hu
      · cases h
    · cases h
  · cases h
end Go.Proofs.Ytnceadbfgpiaaaa.G
/- The abstract machine's operations on slices: cutting, making, appending, copying, their lengths. Plain theorems over any program. -/
namespace Go.Proofs.Ytnceadbfgpiaaaa.G
set_option linter.unusedVariables false
set_option linter.unusedSimpArgs false
open Go
variable {P : Program} {w w' : World} {L L' : Nat → Prop} {μ μ' : Map} {T T' : Table}

/-- A slice's elements, as they are read. -/
def srcEls (T : Table) : AV → Option (List (List AV))
  | .ro els => some els
  | .sl id off n => (T id).bind fun r => if off + n ≤ r.els.length then some ((r.els.drop off).take n) else none
  | .flat (.string s) => some (s.data.toList.map fun b => [.flat (.int .u8 b.toNat)])
  | .flat (.slice _ 0 _) => some []
  | _ => none

theorem loadCells_gen {a : Addr} {k : Nat} (U : Nat → Value) (h : ∀ j, j < k → w.cell? (a.add j) = some (U j)) : (loadCells a k).run P w = .ok ((List.range k).map U).toArray w := by
  have := run_loadCells_list (P := P) w a ((List.range k).map U) (by
    intro j v hj
    rw [List.getElem?_map] at hj
    obtain ⟨i, hi, rfl⟩ := Option.map_eq_some_iff.1 hj
    have hlt := (List.getElem?_eq_some_iff.1 hi).1
    rw [List.getElem?_range (by simpa using hlt)] at hi
    obtain rfl := Option.some.inj hi
    exact h j (by simpa using hlt))
  simpa using this

/-- What a source of elements is to the model: how many, and its cells, in any memory that has the same blocks. -/
theorem srcEls_sound (hT : TRel P w L μ T) {v : Value} {x : AV} (hv : VRel w L μ v x) {els : List (List AV)} (h : srcEls T x = some els) {sz : Nat} (hs : ∀ e ∈ els, e.length = sz)
    (h0 : 0 < sz) (hstr : ∀ s, x = .flat (.string s) → sz = 1) (hown : ∀ id off n r, x = .sl id off n → T id = some r → P.cellsOf r.elem = sz) :
    (Builtin.lenOf v).run P w = .ok els.length w ∧ ∀ m, m ≤ els.length → ∃ us : List Value, (∀ w1 : World, w1.heap = w.heap → (Builtin.firstCells sz m v).run P w1 = .ok us.toArray w1) ∧ us.length = m * sz ∧
      ∀ i e j x, i < m → els[i]? = some e → e[j]? = some x → ∃ u, us[i * sz + j]? = some u ∧ u.oneCell' = true ∧ VRel w L μ u x := by
  cases hv with
  | flat v hf =>
    cases v with
    | string s =>
      simp only [srcEls, Option.some.injEq] at h
      subst h
      have := hstr s rfl
      subst this
      refine ⟨by rw [List.length_map, Array.length_toList]; rfl, fun m hm => ⟨(s.extract 0 m).data.toList.map fun b => .int .u8 b.toNat, fun w1 _ => ?_, ?_, ?_⟩⟩
      · simp only [Builtin.firstCells]
        rw [run_ret]
        congr 1
        apply Array.ext'
        simp
      · simp at hm ⊢; omega
      · intro i e j x hi he hx
        rw [List.getElem?_map] at he
        obtain ⟨b, hb, rfl⟩ := Option.map_eq_some_iff.1 he
        cases j with
        | succ j => simp at hx
        | zero =>
          simp at hx; subst hx
          refine ⟨.int .u8 b.toNat, ?_, rfl, .flat _ rfl⟩
          have hb' : s.data[i]? = some b := by simpa using hb
          have hlt := (Array.getElem?_eq_some_iff.1 hb').1
          rw [List.getElem?_map]
          have e1 : (s.extract 0 m).data.toList[i * 1 + 0]? = some b := by
            simp only [Nat.mul_one, Nat.add_zero, ByteArray.data_extract, Array.getElem?_toList, Array.getElem?_extract]
            rw [if_pos (by omega)]
            simpa using hb'
          rw [e1]; rfl
    | slice A n c =>
      cases n with
      | succ n => cases h
      | zero =>
        simp only [srcEls, Option.some.injEq] at h
        subst h
        refine ⟨rfl, fun m hm => ⟨[], fun w1 _ => ?_, by (have h0m : m = 0 := by simpa using hm); subst h0m; simp, fun i e j x hi he => by simp at he⟩⟩
        have h0m : m = 0 := by simpa using hm
        subst h0m
        cases A with
        | none => rfl
        | some a =>
          show (loadCells a (0 * sz)).run P w1 = _
          rw [Nat.zero_mul]
          have := run_loadCells_list (P := P) w1 a [] (fun j v hj => by simp at hj)
          exact this
    | _ => cases h
  | @ro _ A n c els0 sz0 U hn hc hs0 hA h1 hvr =>
    simp only [srcEls, Option.some.injEq] at h
    subst h
    refine ⟨by simp [Builtin.lenOf, Sem.run_pure, hn], fun m hm => ?_⟩
    by_cases hm0 : m = 0
    · subst hm0
      refine ⟨[], fun w1 _ => ?_, by simp, fun i e j x hi => absurd hi (by omega)⟩
      cases A with
      | none => rfl
      | some a => simp only [Builtin.firstCells, Nat.zero_mul]; rfl
    · obtain ⟨a, rfl, hLa, hb, hcell⟩ := hA (by omega)
      have hsz : sz0 = sz := by
        have hlt : 0 < els0.length := by omega
        rw [← hs0 els0[0] (List.getElem_mem _), hs els0[0] (List.getElem_mem _)]
      subst hsz
      refine ⟨(List.range (m * sz0)).map fun k => U (k / sz0) (k % sz0), fun w1 hw => ?_, by simp, ?_⟩
      · simp only [Builtin.firstCells]
        refine loadCells_gen _ fun k hk => ?_
        have h2 : k / sz0 < m := Nat.div_lt_of_lt_mul (by rw [Nat.mul_comm]; exact hk)
        have h3 : k % sz0 < sz0 := Nat.mod_lt _ h0
        have := hcell (k / sz0) (k % sz0) (by omega) h3
        rw [Nat.mul_comm, Nat.div_add_mod] at this
        rw [← this]
        simp [World.cell?, hw]
      · intro i e j x hi he hx
        have hj : j < sz0 := by
          have q1 := (List.getElem?_eq_some_iff.1 hx).1
          have q2 := hs0 e (List.mem_of_getElem? he)
          omega
        have hlt : i * sz0 + j < m * sz0 := by have := mul_lt_lem (sz := sz0) hi; omega
        refine ⟨U i j, ?_, h1 i j (by omega) hj, (hvr i e j x he hx).up⟩
        rw [List.getElem?_map, List.getElem?_range hlt]
        have e1 : (i * sz0 + j) / sz0 = i := by
          rw [Nat.mul_comm, Nat.mul_add_div h0, Nat.div_eq_of_lt hj]; omega
        have e2 : (i * sz0 + j) % sz0 = j := by
          rw [Nat.mul_comm, Nat.mul_add_mod, Nat.mod_eq_of_lt hj]
        simp [e1, e2]
  | @sl _ id off n v q hq hok =>
    simp only [srcEls] at h
    obtain ⟨r, hr, h⟩ := Option.bind_eq_some_iff.1 h
    split at h
    · rename_i hle
      obtain rfl := Option.some.inj h
      have hlen : ((r.els.drop off).take n).length = n := by simp; omega
      cases q with
      | none =>
        obtain ⟨rfl, rfl, rfl⟩ := hok
        refine ⟨by simp [Builtin.lenOf, Sem.run_pure], fun m hm => ⟨[], fun w1 _ => ?_, by (have h0m : m = 0 := by simpa using hm); subst h0m; simp, fun i e j x hi => ?_⟩⟩
        · have : m = 0 := by simp at hm; omega
          subst this
          rfl
        · simp at hm; omega
      | some p =>
        obtain ⟨hle2, A, rfl, hA⟩ := hok
        refine ⟨by simp [Builtin.lenOf, Sem.run_pure]; omega, fun m hm => ?_⟩
        rw [hlen] at hm
        by_cases hm0 : m = 0
        · subst hm0
          refine ⟨[], fun w1 _ => ?_, by simp, fun i e j x hi => absurd hi (by omega)⟩
          cases A with
          | none => rfl
          | some a => simp only [Builtin.firstCells, Nat.zero_mul]; rfl
        · have hA' := hA (by omega)
          subst hA'
          have hrow := hT.cell hr hq
          obtain ⟨cur, hg, hsz, hcr⟩ := hrow.cur
          have hszp : p.sz = sz := by rw [hrow.szT]; exact hown id off n r rfl hr
          have hcap := hrow.len
          have hbnd : ∀ k, k < m * sz → p.b + off * p.sz + k < cur.size := by
            intro k hk
            have h3 : (off + m) * p.sz ≤ p.cap * p.sz := Nat.mul_le_mul_right _ (by omega)
            rw [Nat.add_mul] at h3
            rw [← hszp] at hk
            omega
          refine ⟨(List.range (m * sz)).map fun k => cur.getD (p.b + off * p.sz + k) undef, fun w1 hw => ?_, by simp, ?_⟩
          · simp only [Builtin.firstCells]
            refine loadCells_gen _ fun k hk => ?_
            rw [add_lit]
            have hk2 := hbnd k hk
            have : w1.cell? ⟨p.g, p.b + off * p.sz + k, none⟩ = cur[p.b + off * p.sz + k]? := cell_of_row w1 p.g _ cur r.elem (0, 0) (by rw [hw]; exact hg)
            rw [this, Array.getElem?_eq_getElem hk2]
            simp [Array.getD, hk2]
          · intro i e j x hi he hx
            rw [List.getElem?_take, if_pos (by omega), List.getElem?_drop] at he
            obtain ⟨u, hu, h1, hv⟩ := hcr (off + i) e j x he hx
            have hj : j < sz := by
              have q1 := (List.getElem?_eq_some_iff.1 hx).1
              have q2 := hrow.sz e (List.mem_of_getElem? he)
              omega
            have hlt : i * sz + j < m * sz := by have := mul_lt_lem (sz := sz) hi; omega
            refine ⟨u, ?_, h1, hv⟩
            rw [List.getElem?_map, List.getElem?_range hlt]
            have e1 : p.b + off * p.sz + (i * sz + j) = p.b + (off + i) * p.sz + j := by rw [Nat.add_mul, hszp]; omega
            simp only [Option.map_some]
            rw [e1, getD_of hu]
    · cases h
  | agg => cases h
  | tup => cases h
  | rp => cases h
  | ptr => cases h
end Go.Proofs.Ytnceadbfgpiaaaa.G
/- The abstract machine's operations on slices: cutting, making, appending, copying, their lengths; and what needs no memory. Plain theorems over any program. -/
namespace Go.Proofs.Ytnceadbfgpiaaaa.G
set_option linter.unusedVariables false
set_option linter.unusedSimpArgs false
open Go
variable {P : Program} {w w' : World} {L L' : Nat → Prop} {μ μ' : Map} {T T' : Table}

/-! ### Cutting -/
def hiA (n m : Nat) : Option AV → Option Nat
  | none => some n
  | some x => (intOf x).bind fun i => if 0 ≤ i ∧ i ≤ m then some i.toNat else none
def loA (h : Nat) : Option AV → Option Nat
  | none => some 0
  | some x => (intOf x).bind fun i => if 0 ≤ i ∧ i ≤ h then some i.toNat else none
/-- The bounds of a cut: low, high, within what is there. -/
def bndsA (n m : Nat) (lo hi : Option AV) : Option (Nat × Nat) := (hiA n m hi).bind fun h => (loA h lo).map fun l => (l, h)

def ORel (w : World) (L : Nat → Prop) (μ : Map) : Option Value → Option AV → Prop
  | none, none => True
  | some v, some x => VRel w L μ v x
  | _, _ => False

theorem run_sliceBound {v : Value} {x : AV} (hv : VRel w L μ v x) {i : Int} (hi : intOf x = some i) {y : Nat} {c : BoundsCode} (h0 : 0 ≤ i) (h1 : i ≤ y) : (Instr.sliceBound v y c).run P w = .ok i.toNat w := by
  obtain ⟨k, rfl⟩ := intOf_rel hv hi
  unfold Instr.sliceBound
  rw [run_bind _ _ (run_asIntOf k i)]
  simp only
  rw [if_pos ⟨h0, h1⟩]
  rfl

theorem bndsA_sound {n m cap : Nat} (hn : n ≤ cap) (hm : m ≤ cap) {b : Bool} {lo hi : Option Value} {lo' hi' : Option AV} (hlo : ORel w L μ lo lo') (hhi : ORel w L μ hi hi') {l h : Nat} (hb : bndsA n m lo' hi' = some (l, h)) (hnm : n ≤ m) :
    (Instr.sliceBounds b n cap lo hi none).run P w = .ok (l, h, cap) w ∧ l ≤ h ∧ h ≤ m := by
  unfold bndsA at hb
  obtain ⟨h', hh, hb⟩ := Option.bind_eq_some_iff.1 hb
  obtain ⟨l', hl, hb⟩ := Option.map_eq_some_iff.1 hb
  simp only [Prod.mk.injEq] at hb
  obtain ⟨rfl, rfl⟩ := hb
  have low : ((lo = none ∧ l' = 0) ∨ ∃ v, lo = some v ∧ ∀ c, (Instr.sliceBound v h' c).run P w = .ok l' w) ∧ l' ≤ h' := by
    cases lo with
    | none => cases lo' with
      | none =>
        simp only [loA, Option.some.injEq] at hl
        subst hl
        exact ⟨.inl ⟨rfl, rfl⟩, Nat.zero_le _⟩
      | some x => exact hlo.elim
    | some v => cases lo' with
      | none => exact hlo.elim
      | some x =>
        simp only [loA] at hl
        obtain ⟨i, hi, hl⟩ := Option.bind_eq_some_iff.1 hl
        split at hl
        · rename_i hc
          obtain rfl := Option.some.inj hl
          exact ⟨.inr ⟨v, rfl, fun c => run_sliceBound hlo hi hc.1 (by omega)⟩, by omega⟩
        · cases hl
  clear hlo
  have hle : h' ≤ m ∧ ((Instr.sliceBounds b n cap lo hi none).run P w = .ok (l', h', cap) w) := by
    cases hi with
    | none => cases hi' with
      | none =>
        simp only [hiA, Option.some.injEq] at hh
        subst hh
        refine ⟨hnm, ?_⟩
        unfold Instr.sliceBounds
        simp only
        rw [run_bind _ _ (run_ret cap), run_bind _ _ (run_ret n)]
        rcases low.1 with ⟨rfl, rfl⟩ | ⟨v, rfl, hv⟩
        · exact run_bind _ _ (run_ret 0)
        · exact run_bind _ _ (hv _)
      | some x => exact hhi.elim
    | some u => cases hi' with
      | none => exact hhi.elim
      | some x =>
        simp only [hiA] at hh
        obtain ⟨i, hi, hh⟩ := Option.bind_eq_some_iff.1 hh
        split at hh
        · rename_i hc
          obtain rfl := Option.some.inj hh
          refine ⟨by omega, ?_⟩
          unfold Instr.sliceBounds
          simp only
          rw [run_bind _ _ (run_ret cap), run_bind _ _ (run_sliceBound hhi hi hc.1 (by omega))]
          rcases low.1 with ⟨rfl, rfl⟩ | ⟨v, rfl, hv⟩
          · exact run_bind _ _ (run_ret 0)
          · exact run_bind _ _ (hv _)
        · cases hh
  exact ⟨hle.2, low.2, hle.1⟩

def evSlice (P : Program) (T : Table) (t : TypeId) (x : AV) (lo hi : Option AV) : Option AV :=
  match P.underlying t with
  | some (.slice e) =>
    match tinfo P e with
    | some (_, sz, _) =>
      match x with
      | .ro els => if ∀ c ∈ els, c.length = sz then (bndsA els.length els.length lo hi).map fun b => .ro ((els.take b.2).drop b.1) else none
      | .sl id off n => (T id).bind fun r => if off + n ≤ r.els.length ∧ P.cellsOf r.elem = sz then (bndsA n (r.els.length - off) lo hi).map fun b => .sl id (off + b.1) (b.2 - b.1) else none
      | .flat (.slice none 0 0) => (bndsA 0 0 lo hi).map fun _ => .flat (.slice none 0 0)
      | _ => none
    | none => none
  | some .string =>
    match x with
    | .flat (.string s) => (bndsA s.size s.size lo hi).map fun b => .flat (.string (s.extract b.1 b.2))
    | _ => none
  | _ => none

theorem run_sliceAt_slice {t e : TypeId} {i : TypeInfo} {A : Option Addr} {n cap l h : Nat} {lo hi : Option Value} (ht : P.underlying t = some (.slice e)) (hi' : P.info? e = some i)
    (hb : (Instr.sliceBounds true n cap lo hi none).run P w = .ok (l, h, cap) w) :
    (Instr.sliceAt t (.slice A n cap) lo hi none).run P w = .ok (.slice (if cap = l then A else A.map (·.add (l * i.size))) (h - l) (cap - l)) w := by
  unfold Instr.sliceAt
  rw [run_bind _ _ (run_under ht)]
  simp only
  unfold Instr.slice
  rw [run_bind _ _ (run_under ht)]
  simp only
  rw [run_bind _ _ hb]
  simp only
  rw [run_bind _ _ (run_size hi')]
  rfl

theorem evSlice_gives (hT : TRel P w L μ T) {id : Nat} {t : TypeId} {v : Value} {x y : AV} {lo hi : Option Value} {lo' hi' : Option AV} (hv : VRel w L μ v x)
    (hlo : ORel w L μ lo lo') (hhi : ORel w L μ hi hi')
    (h : evSlice P T t x lo' hi' = some y) : Gives P w L μ T id (Instr.sliceAt t v lo hi none) y T := by
  unfold evSlice at h
  split at h
  · rename_i e ht
    split at h
    · rename_i z sz b hti
      obtain ⟨i, hi1, _, hs, _, _⟩ := tinfo_some hti
      split at h
      · rename_i els
        split at h
        · rename_i hall
          obtain ⟨⟨l, h2⟩, hb, rfl⟩ := Option.map_eq_some_iff.1 h
          cases hv with
          | @ro _ A n c _ sz0 U hn hc hs0 hA h1 hvr =>
            subst hn
            obtain ⟨hr, hlh, hhm⟩ := bndsA_sound (P := P) (b := true) hc hc hlo hhi hb (Nat.le_refl _)
            refine Gives.same hT (run_sliceAt_slice ht hi1 hr) ?_
            rw [hs]
            refine .ro sz0 (fun i j => U (l + i) j) (by simp; omega) (by omega) (fun e he => hs0 e (List.mem_of_mem_take (List.mem_of_mem_drop he))) (fun hp => ?_) (fun i j hi hj => h1 _ _ (by omega) hj) fun i e j x he hx => ?_
            · obtain ⟨a, rfl, hLa, hb2, hcell⟩ := hA (by omega)
              have hsz : sz0 = sz := by
                have hlt : 0 < els.length := by omega
                rw [← hs0 els[0] (List.getElem_mem _), hall els[0] (List.getElem_mem _)]
              subst hsz
              rw [if_neg (by omega)]
              refine ⟨a.add (l * sz0), rfl, by rw [add_block]; exact hLa, by rw [add_block]; exact hb2, fun i j hi hj => ?_⟩
              rw [add_add, ← Nat.add_assoc, ← Nat.add_mul]
              exact hcell _ _ (by omega) hj
            · rw [List.getElem?_drop, List.getElem?_take] at he
              split at he
              · exact hvr _ _ _ _ he hx
              · cases he
        · cases h
      · rename_i id' off n
        obtain ⟨r, hr, h⟩ := Option.bind_eq_some_iff.1 h
        split at h
        · rename_i hc
          obtain ⟨hle, hcs⟩ := hc
          obtain ⟨⟨l, h2⟩, hb, rfl⟩ := Option.map_eq_some_iff.1 h
          cases hv with
          | @sl _ _ _ _ _ q hq hok =>
            cases q with
            | none =>
              obtain ⟨rfl, rfl, rfl⟩ := hok
              have hnil : r.els = [] := by
                obtain ⟨q, hq', _, hn⟩ := hT.row id' r hr
                rw [hq] at hq'
                exact hn (Option.some.inj hq').symm
              obtain ⟨hrun, hlh, hhm⟩ := bndsA_sound (P := P) (b := true) (n := 0) (m := r.els.length - 0) (cap := 0) (Nat.le_refl _) (by simp [hnil]) hlo hhi hb (Nat.zero_le _)
              have h20 : h2 = 0 := by simp [hnil] at hhm; omega
              subst h20
              have hl0 : l = 0 := by omega
              subst hl0
              refine Gives.same hT (run_sliceAt_slice ht hi1 hrun) ?_
              exact .sl hq ⟨rfl, rfl, rfl⟩
            | some p =>
              obtain ⟨hle2, A, rfl, hA⟩ := hok
              have hrow := hT.cell hr hq
              have hlen := hrow.len
              obtain ⟨hrun, hlh, hhm⟩ := bndsA_sound (P := P) (b := true) (n := n) (m := r.els.length - off) (cap := p.cap - off) (by omega) (by omega) hlo hhi hb (by omega)
              refine Gives.same hT (run_sliceAt_slice ht hi1 hrun) ?_
              refine .sl hq ⟨by simp only; omega, (if p.cap - off = l then A else A.map (·.add (l * i.size))), ?_, fun hlt => ?_⟩
              · rw [show p.cap - off - l = p.cap - (off + l) by omega]
              · simp only at hlt
                rw [if_neg (by omega), hA (by omega)]
                simp only [Option.map_some, add_lit]
                rw [hs, ← hcs, ← hrow.szT, Nat.add_assoc, ← Nat.add_mul]
        · cases h
      · obtain ⟨⟨l, h2⟩, hb, rfl⟩ := Option.map_eq_some_iff.1 h
        cases hv with
        | flat v _ =>
          obtain ⟨hr, hlh, hhm⟩ := bndsA_sound (P := P) (b := true) (n := 0) (m := 0) (cap := 0) (Nat.le_refl _) (Nat.le_refl _) hlo hhi hb (Nat.le_refl _)
          have h20 : h2 = 0 := by omega
          subst h20
          have hl0 : l = 0 := by omega
          subst hl0
          exact Gives.same hT (run_sliceAt_slice ht hi1 hr) (.flat _ rfl)
      · cases h
    · cases h
  · rename_i ht
    split at h
    · rename_i s
      obtain ⟨⟨l, h2⟩, hb, rfl⟩ := Option.map_eq_some_iff.1 h
      cases hv with
      | flat v _ =>
        obtain ⟨hr, hlh, hhm⟩ := bndsA_sound (P := P) (b := false) (n := s.size) (m := s.size) (cap := s.size) (Nat.le_refl _) (Nat.le_refl _) hlo hhi hb (Nat.le_refl _)
        refine Gives.same hT ?_ (.flat _ rfl)
        unfold Instr.sliceAt
        rw [run_bind _ _ (run_under ht)]
        simp only
        unfold Instr.slice
        rw [run_bind _ _ (run_under ht)]
        simp only [Option.isSome_none, Bool.false_eq_true, if_false]
        rw [run_bind _ _ hr]
        rfl
    · cases h
  · cases h

/-! ### Making -/
def evMake (P : Program) (T : Table) (id : Nat) (t : TypeId) (l c : AV) : Option (AV × Table) :=
  match P.underlying t, l, c with
  | some (.slice e), .flat (.int _ n), .flat (.int _ n') =>
    match tinfo P e with
    | some (some z, sz, by_) =>
      if n ≤ n' ∧ 0 ≤ n ∧ (by_ : Int) * n' ≤ 281474976710656 ∧ n' ≤ 9223372036854775807 ∧ 0 < sz ∧ (zeroAV z).length = sz ∧ (zeroAV z).all AV.one = true then
        some (.sl id 0 n.toNat, T.set id (some ⟨e, List.replicate n'.toNat (zeroAV z)⟩))
      else none
    | _ => none
  | _, _, _ => none

theorem evMake_gives (hT : TRel P w L μ T) {id : Nat} (hid : μ id = none) {t : TypeId} {l c y : AV} {vl vc : Value} (hl : VRel w L μ vl l) (hc : VRel w L μ vc c) (h : evMake P T id t l c = some (y, T')) :
    Gives P w L μ T id (Instr.makeSlice t vl vc) y T' := by
  unfold evMake at h
  split at h
  · rename_i e k n k' n' ht
    split at h
    · rename_i z sz b hti
      obtain ⟨i, hi, hz, hs, hb, hcs⟩ := tinfo_some hti
      split at h
      · rename_i hcnd
        obtain ⟨hnn, h0, hby, h63, hsz0, hzl, hz1⟩ := hcnd
        simp only [Option.some.injEq, Prod.mk.injEq] at h
        obtain ⟨rfl, rfl⟩ := h
        cases hl with
        | flat v _ =>
          cases hc with
          | flat v _ =>
            have hr := run_make (P := P) w t e i z ht hi hz k k' n n' h0 hnn (by rw [hb]; exact hby) h63
            have hmade := madeCells_rel (w := w) (L := L) (μ := μ) z n'.toNat (by omega) hz1
            rw [hzl] at hmade
            rw [hs] at hr
            refine new_gives hT hid rfl rfl rfl rfl _ e n'.toNat sz _ (by rw [size_madeCells]) hmade (by simp) (by
              intro e he
              rw [List.mem_replicate] at he
              rw [he.2]; exact hzl) hcs.symm (by simp only [maxLen]; omega) hr _ rfl ?_
            exact .sl map_set_self ⟨by show 0 + n.toNat ≤ n'.toNat; omega, some ⟨w.heap.size, 0, none⟩, by simp, fun _ => by simp⟩
      · cases h
    · cases h
  · cases h

/-! ### Lengths -/
def evLen (P : Program) (t : TypeId) (x : AV) : Option AV :=
  match P.underlying t, x with
  | some (.slice _), .ro els => some (.flat (.int .i64 els.length))
  | some (.slice _), .sl _ _ n => some (.flat (.int .i64 n))
  | some (.slice _), .flat (.slice none 0 0) => some (.flat (.int .i64 0))
  | some .string, .flat (.string s) => some (.flat (.int .i64 s.size))
  | _, _ => none

theorem evLen_gives (hT : TRel P w L μ T) {id : Nat} {t ty : TypeId} {v : Value} {x y : AV} (hv : VRel w L μ v x) (h : evLen P t x = some y) : Gives P w L μ T id (Builtin.len_ #[t] ty #[v]) y T := by
  have run : ∀ {d : TypeDesc} {m : Sem Value} {u : Value}, P.underlying t = some d → (Builtin.len_ #[t] ty #[v]).run P w = .ok u w → (Builtin.len_ #[t] ty #[v]).run P w = .ok u w := fun _ h => h
  unfold evLen at h
  split at h
  · rename_i e els ht
    obtain rfl := Option.some.inj h
    cases hv with
    | ro sz U hn hc hs hA h1 hvr =>
      refine Gives.same hT (v := .int .i64 els.length) ?_ (.flat _ rfl)
      subst hn
      simp [Builtin.len_, run_underlying ht, goInt]
  · rename_i e id' off n ht
    obtain rfl := Option.some.inj h
    cases hv with
    | @sl _ _ _ _ _ q hq hok =>
      refine Gives.same hT (v := .int .i64 n) ?_ (.flat _ rfl)
      cases q with
      | none => obtain ⟨_, rfl, rfl⟩ := hok; simp [Builtin.len_, run_underlying ht, goInt]
      | some p => obtain ⟨_, A, rfl, _⟩ := hok; simp [Builtin.len_, run_underlying ht, goInt]
  · rename_i e ht
    obtain rfl := Option.some.inj h
    cases hv with
    | flat v _ =>
      refine Gives.same hT (v := .int .i64 0) ?_ (.flat _ rfl)
      simp [Builtin.len_, run_underlying ht, goInt]
  · rename_i s ht
    obtain rfl := Option.some.inj h
    cases hv with
    | flat v _ =>
      refine Gives.same hT (v := .int .i64 s.size) ?_ (.flat _ rfl)
      simp [Builtin.len_, run_underlying ht, goInt]
  · cases h
end Go.Proofs.Ytnceadbfgpiaaaa.G
/- The abstract machine's appending and copying, and that the model's own operations do just this. Plain theorems over any program. -/
namespace Go.Proofs.Ytnceadbfgpiaaaa.G
set_option linter.unusedVariables false
set_option linter.unusedSimpArgs false
open Go
variable {P : Program} {w w' : World} {L L' : Nat → Prop} {μ μ' : Map} {T T' : Table}

/-- May a source be read for elements of so many cells? -/
def srcFit (P : Program) (T : Table) (sz : Nat) : AV → Bool
  | .flat (.string _) => sz == 1
  | .sl id _ _ => match T id with
    | some r => P.cellsOf r.elem == sz
    | none => false
  | _ => true

theorem srcFit_str {sz : Nat} {x : AV} (h : srcFit P T sz x = true) : ∀ s, x = .flat (.string s) → sz = 1 := by
  rintro s rfl
  simpa [srcFit] using h
theorem srcFit_own {sz : Nat} {x : AV} (h : srcFit P T sz x = true) : ∀ id off n r, x = .sl id off n → T id = some r → P.cellsOf r.elem = sz := by
  rintro id off n r rfl hr
  simpa [srcFit, hr] using h

/-- The row that is written on, from the slice on: its elements behind the slice's first one, how many the slice has. -/
def baseEls (T : Table) : AV → Option (List (List AV))
  | .flat (.slice none 0 0) => some []
  | .sl id off n => (T id).bind fun r => if off + n = r.els.length then some (r.els.drop off) else none
  | _ => none
def baseId : AV → Option Nat
  | .sl id _ _ => some id
  | _ => none

def srcT : TypeDesc → Bool
  | .slice _ | .string => true
  | _ => false
theorem srcT_or {d : TypeDesc} (h : srcT d = true) : (∃ e', d = .slice e') ∨ d = .string := by
  cases d <;> first | exact .inl ⟨_, rfl⟩ | exact .inr rfl | cases h

/-- 'append' behind a row's end: the row has a new name. Ahead of the end: in place. -/
def evApp0 (P : Program) (T : Table) (id : Nat) (t u : TypeId) (s x : AV) : Option (AV × Table) :=
  match P.underlying t, P.underlying u with
  | some (.slice e), some du =>
    match tinfo P e with
    | some (some z, sz, by_) =>
      if 0 < sz ∧ srcT du = true ∧ srcFit P T sz x = true ∧ z.cells.size = sz then
        (srcEls T x).bind fun news =>
          if ∀ c ∈ news, c.length = sz then
            match s with
            | .flat (.slice none 0 0) =>
              if news.length * by_ ≤ 140737488355328 ∧ news.length ≤ maxLen then some (.sl id 0 news.length, T.set id (some ⟨e, news⟩)) else none
            | .sl id0 off n => (T id0).bind fun r =>
              if r.elem = e ∧ off + n = r.els.length then
                if (n + news.length) * by_ ≤ 140737488355328 ∧ n + news.length ≤ maxLen then some (.sl id 0 (n + news.length), (T.set id0 none).set id (some ⟨e, r.els.drop off ++ news⟩)) else none
              else if r.elem = e ∧ off + n + news.length ≤ r.els.length then
                some (.sl id0 off (n + news.length), T.set id0 (some ⟨e, r.els.take (off + n) ++ news ++ r.els.drop (off + n + news.length)⟩))
              else none
            | _ => none
          else none
      else none
    | _ => none
  | _, _ => none

theorem ext_drew (hT : TRel P w L μ T) : True := trivial

theorem zeros_len (z : Array Value) (n : Nat) : (Builtin.zeroCells z n).size = n * z.size := by simp [Builtin.zeroCells]

/-- A new row of the old elements and the new ones. -/
theorem grown_gives (hT : TRel P w L μ T) {id : Nat} (hid : μ id = none) {e : TypeId} {z : Value} {sz : Nat} (hszT : sz = P.cellsOf e) (hz : z.cells.size = sz) {us : List Value} {all : List (List AV)} {n : Nat} (hn : all.length = n) (hs : ∀ c ∈ all, c.length = sz)
    (hul : us.length = n * sz) (hv : ∀ i e j x, all[i]? = some e → e[j]? = some x → ∃ u, us[i * sz + j]? = some u ∧ u.oneCell' = true ∧ VRel w L μ u x) {cap : Nat} (hcap : n ≤ cap) (hcm : cap ≤ maxLen)
    {w1 : World} (hh : w1.heap = w.heap) (ho : w1.os = w.os) (ht : w1.tape = w.tape) (hu : w1.output = w.output) {cur : Array Value} (hcur : cur.toList = us ++ (Builtin.zeroCells z.cells (cap - n)).toList) :
    Ext w L μ T (w1.alloc (.cells cur e)) (newL w L) (μ.set id (some ⟨w.heap.size, 0, cap, sz⟩)) (T.set id (some ⟨e, all⟩)) ∧ TRel P (w1.alloc (.cells cur e)) (newL w L) (μ.set id (some ⟨w.heap.size, 0, cap, sz⟩)) (T.set id (some ⟨e, all⟩)) := by
  have hcs : cur.size = cap * sz := by
    rw [← Array.length_toList, hcur, List.length_append, hul, Array.length_toList, zeros_len, hz, ← Nat.add_mul]
    congr 1; omega
  refine alloc_core hT hid hh ho ht hu cur e cap sz all hcs ?_ (by omega) hs hszT hcm
  intro i c j x hc hx
  obtain ⟨u, hu, h1, hr⟩ := hv i c j x hc hx
  refine ⟨u, ?_, h1, hr⟩
  have hlt := (List.getElem?_eq_some_iff.1 hu).1
  rw [← Array.getElem?_toList, hcur, Nat.zero_add, List.getElem?_append_left hlt]
  exact hu

theorem evApp0_gives (hT : TRel P w L μ T) {id : Nat} (hid : μ id = none) {t u ty : TypeId} {v vx : Value} {s x y : AV} (hs : VRel w L μ v s) (hx : VRel w L μ vx x) (h : evApp0 P T id t u s x = some (y, T')) :
    Gives P w L μ T id (Builtin.append_ #[t, u] ty #[v, vx]) y T' := by
  unfold evApp0 at h
  split at h
  · rename_i e du ht hu
    split at h
    · rename_i z sz b hti
      obtain ⟨i, hi, hz, hsz, hb, hcs⟩ := tinfo_some hti
      split at h
      · rename_i hc0
        obtain ⟨hsz0, hd0, hfit, hzs⟩ := hc0
        have hd := srcT_or hd0
        obtain ⟨news, hnews, h⟩ := Option.bind_eq_some_iff.1 h
        split at h
        · rename_i hall
          obtain ⟨hlen, hsrc⟩ := srcEls_sound hT hx hnews hall hsz0 (srcFit_str hfit) (srcFit_own hfit)
          obtain ⟨us, hus, husl, husv⟩ := hsrc news.length (Nat.le_refl _)
          have h1us : ∀ q ∈ us, q.oneCell' = true := by
            intro q hq
            obtain ⟨k, hk, rfl⟩ := List.mem_iff_getElem.1 hq
            have hk2 : k / sz < news.length := Nat.div_lt_of_lt_mul (by rw [Nat.mul_comm, ← husl]; exact hk)
            have hk3 : k % sz < sz := Nat.mod_lt _ hsz0
            have hcl := hall news[k / sz] (List.getElem_mem _)
            obtain ⟨q, hq, h1, _⟩ := husv (k / sz) news[k / sz] (k % sz) (news[k / sz][k % sz]'(by omega)) hk2 (List.getElem?_eq_getElem hk2) (List.getElem?_eq_getElem (by omega))
            rw [Nat.mul_comm, Nat.div_add_mod, List.getElem?_eq_getElem hk] at hq
            obtain rfl := Option.some.inj hq
            exact h1
          split at h
          · -- onto nil
            split at h
            · rename_i hbnd
              simp only [Option.some.injEq, Prod.mk.injEq] at h
              obtain ⟨rfl, rfl⟩ := h
              cases hs with
              | flat v _ =>
                by_cases hm : news.length = 0
                · have hn0 : news = [] := List.eq_nil_of_length_eq_zero hm
                  subst hn0
                  have hu0 : us = [] := List.eq_nil_of_length_eq_zero (by simpa using husl)
                  subst hu0
                  refine ⟨.slice none 0 0, w, L, μ.set id none, ?_, ?_, ?_, .sl map_set_self ⟨rfl, rfl, rfl⟩, fun i hi => map_set_ne hi⟩
                  · generalize hF : Builtin.firstCells i.size 0 vx = F
                    have hc1 := hus w rfl
                    rw [← hsz] at hc1
                    simp only [List.length_nil] at hc1 hlen
                    rw [hF] at hc1
                    rcases hd with ⟨e', rfl⟩ | rfl
                    · simp [Builtin.append_, run_underlying ht, run_underlying hu, sizeOf, typeInfo, hi, hlen, hF, hc1]
                    · simp [Builtin.append_, run_underlying ht, run_underlying hu, sizeOf, typeInfo, hi, hlen, hF, hc1]
                  · have hnc := (nil_core (P := P) hT (id := id) hid e).1
                    have e0 : (T.set id none).set id (some ⟨e, []⟩) = T.set id (some ⟨e, []⟩) := by funext k; simp only [Table.set]; split <;> rfl
                    rwa [e0] at hnc
                  · have hnc := (nil_core (P := P) hT (id := id) hid e).2
                    have e0 : (T.set id none).set id (some ⟨e, []⟩) = T.set id (some ⟨e, []⟩) := by funext k; simp only [Table.set]; split <;> rfl
                    rwa [e0] at hnc
                · have hrun := run_append_new (P := P) (w := w) (ty := ty) (A := none) (n := 0) (cap := 0) (olds := []) ht hi hz hu hd hlen (by rw [hsz]; exact hus w.drew rfl) rfl (by omega) (by have := hbnd.2; simp only [maxLen] at this; omega) (by rw [hb]; simpa using hbnd.1)
                  have hge := grownCap_ge w (0 + news.length) 0 e
                  have hgm := grownCap_le_maxLen w (0 + news.length) 0 e (by simpa using hbnd.2)
                  obtain ⟨q1, q2⟩ := grown_gives (w1 := w.drew) hT hid (e := e) (z := z) hcs.symm hzs (us := us) (all := news) rfl hall husl (fun i c j x hc hx => husv i c j x (List.getElem?_eq_some_iff.1 hc).1 hc hx) (cap := grownCap w (0 + news.length) 0 e) (by omega) hgm rfl rfl rfl rfl
                    (cur := #[] ++ us.toArray ++ Builtin.zeroCells z.cells (grownCap w (0 + news.length) 0 e - (0 + news.length))) (by simp)
                  refine ⟨_, _, _, _, hrun, q1, q2, ?_, fun i hi => map_set_ne hi⟩
                  exact .sl map_set_self ⟨by simp only; omega, some ⟨w.heap.size, 0, none⟩, by simp, fun _ => by simp⟩
            · cases h
          · -- onto a row
            rename_i id0 off n hcopy
            obtain ⟨r, hr, h⟩ := Option.bind_eq_some_iff.1 h
            cases hs with
            | @sl _ _ _ _ _ q hq hok =>
              split at h
              · rename_i hcnd
                obtain ⟨rfl, htip⟩ := hcnd
                split at h
                · rename_i hbnd
                  simp only [Option.some.injEq, Prod.mk.injEq] at h
                  obtain ⟨rfl, rfl⟩ := h
                  cases q with
                  | none =>
                    obtain ⟨rfl, rfl, rfl⟩ := hok
                    have hnil : r.els = [] := List.eq_nil_of_length_eq_zero htip.symm
                    by_cases hm : news.length = 0
                    · have hn0 : news = [] := List.eq_nil_of_length_eq_zero hm
                      subst hn0
                      have hu0 : us = [] := List.eq_nil_of_length_eq_zero (by simpa using husl)
                      subst hu0
                      refine ⟨.slice none 0 0, w, L, μ.set id none, ?_, ?_, ?_, .sl map_set_self ⟨rfl, rfl, rfl⟩, fun i hi => map_set_ne hi⟩
                      · generalize hF : Builtin.firstCells i.size 0 vx = F
                        have hc1 := hus w rfl
                        rw [← hsz] at hc1
                        simp only [List.length_nil] at hc1 hlen
                        rw [hF] at hc1
                        rcases hd with ⟨e', rfl⟩ | rfl
                        · simp [Builtin.append_, run_underlying ht, run_underlying hu, sizeOf, typeInfo, hi, hlen, hF, hc1]
                        · simp [Builtin.append_, run_underlying ht, run_underlying hu, sizeOf, typeInfo, hi, hlen, hF, hc1]
                      · have hnc := (nil_core (P := P) hT (id := id0) (id' := id) hid r.elem).1
                        simpa [hnil] using hnc
                      · have hnc := (nil_core (P := P) hT (id := id0) (id' := id) hid r.elem).2
                        simpa [hnil] using hnc
                    · have hrun := run_append_new (P := P) (w := w) (ty := ty) (A := none) (n := 0) (cap := 0) (olds := []) ht hi hz hu hd hlen (by rw [hsz]; exact hus w.drew rfl) rfl (by omega) (by have := hbnd.2; simp only [maxLen] at this; omega) (by rw [hb]; simpa using hbnd.1)
                      have hge := grownCap_ge w (0 + news.length) 0 r.elem
                      have hgm := grownCap_le_maxLen w (0 + news.length) 0 r.elem (by simpa using hbnd.2)
                      have hdrop := drop_core hT id0
                      obtain ⟨q1, q2⟩ := grown_gives (w1 := w.drew) hdrop.2 hid (e := r.elem) (z := z) hcs.symm hzs (us := us) (all := news) rfl hall husl (fun i c j x hc hx => husv i c j x (List.getElem?_eq_some_iff.1 hc).1 hc hx) (cap := grownCap w (0 + news.length) 0 r.elem) (by omega) hgm rfl rfl rfl rfl
                        (cur := #[] ++ us.toArray ++ Builtin.zeroCells z.cells (grownCap w (0 + news.length) 0 r.elem - (0 + news.length))) (by simp)
                      have e0 : r.els.drop 0 ++ news = news := by simp [hnil]
                      rw [e0]
                      refine ⟨_, _, _, _, hrun, hdrop.1.trans q1, q2, ?_, fun i hi => map_set_ne hi⟩
                      exact .sl map_set_self ⟨by simp only; omega, some ⟨w.heap.size, 0, none⟩, by simp, fun _ => by simp⟩
                  | some p =>
                    obtain ⟨hle, A, rfl, hA⟩ := hok
                    have hrow := hT.cell hr hq
                    obtain ⟨cur, hg, hcsz, hcr⟩ := hrow.cur
                    have hrlen := hrow.len
                    have hpsz : p.sz = sz := by rw [hrow.szT, hcs]
                    have hdl : (r.els.drop off).length = n := by simp; omega
                    by_cases hroom : n + news.length ≤ p.cap - off
                    · -- in place
                      have hlast : (p.b + p.cap * p.sz) = p.b + off * p.sz + (p.cap - off) * p.sz := by
                        rw [Nat.add_assoc, ← Nat.add_mul]; congr 2; omega
                      have hmul : (n + news.length) * p.sz ≤ (p.cap - off) * p.sz := Nat.mul_le_mul_right _ hroom
                      have hmul2 : (n + news.length) * p.sz = n * p.sz + news.length * p.sz := Nat.add_mul _ _ _
                      rw [← hpsz] at husl
                      have hcr' : CurRel w L μ cur (p.b + off * p.sz) p.sz (r.els.drop off) := by
                        intro i c j x hc hx
                        rw [List.getElem?_drop] at hc
                        obtain ⟨u, hu, h1, hr⟩ := hcr (off + i) c j x hc hx
                        refine ⟨u, ?_, h1, hr⟩
                        rw [← hu]; congr 1; rw [Nat.add_mul]; omega
                      have hsd : ∀ c ∈ r.els.drop off, c.length = p.sz := fun c hc => hrow.sz c (List.mem_of_mem_drop hc)
                      have hov := hcr'.over hsd (n := n) (by omega) (us := us) (news := news) (by rw [hpsz]; exact hall) husl
                        (by rw [hpsz]; exact fun i c j x hc hx => husv i c j x (List.getElem?_eq_some_iff.1 hc).1 hc hx) (by omega)
                      have ee : (r.els.drop off).take n ++ news ++ (r.els.drop off).drop (n + news.length) = r.els.drop off ++ news := by
                        have hd2 : (r.els.drop off).drop (n + news.length) = [] := List.drop_of_length_le (by omega)
                        have hd3 : (r.els.drop off).take n = r.els.drop off := List.take_of_length_le (by omega)
                        rw [hd2, hd3, List.append_nil]
                      rw [ee] at hov
                      have hcap0 : off < p.cap ∨ (n = 0 ∧ news.length = 0) := by omega
                      rcases Nat.lt_or_ge off p.cap with hlt | hge
                      · have hA' := hA hlt
                        subst hA'
                        have hrun := run_append_in (P := P) (w := w) (ty := ty) (n := n) (b := p.b + off * p.sz) (cap := p.cap - off) ht hi hu hd hg hlen (by rw [hsz]; exact hus w rfl) hroom (by rw [hsz, ← hpsz]; omega) h1us
                        rw [hsz, ← hpsz] at hrun
                        obtain ⟨q1, q2⟩ := move_core hT hid hr hq hg (p' := ⟨p.g, p.b + off * p.sz, p.cap - off, p.sz⟩) rfl (by simp only; simp; omega) hrow.szT (by have := hrow.cap; simp only; omega) (els := r.els.drop off ++ news) hov (by simp only; simp; omega) (by
                          intro c hc
                          rcases List.mem_append.1 hc with h | h
                          · exact hsd c h
                          · rw [hpsz]; exact hall c h)
                        refine ⟨_, _, _, _, hrun, q1, q2, ?_, fun i hi => map_set_ne hi⟩
                        exact .sl map_set_self ⟨by simp only; omega, some ⟨p.g, p.b + off * p.sz, none⟩, by simp, fun _ => by simp⟩
                      · -- nothing is appended, no room is left
                        have hn0 : n = 0 := by omega
                        have hm0 : news.length = 0 := by omega
                        subst hn0
                        have hnn : news = [] := List.eq_nil_of_length_eq_zero hm0
                        subst hnn
                        have hu0 : us = [] := List.eq_nil_of_length_eq_zero (by simpa using husl)
                        subst hu0
                        have hc0 : p.cap - off = 0 := by omega
                        have hd0 : r.els.drop off ++ [] = [] := by
                          rw [List.append_nil]; exact List.drop_of_length_le (by omega)
                        have hsame : w.setRow p.g cur = w := setRow_self w p.g cur r.elem (0, 0) hg
                        obtain ⟨q1, q2⟩ := move_core hT hid hr hq hg (cur' := cur) (p' := ⟨p.g, p.b + off * p.sz, p.cap - off, p.sz⟩) rfl (by simp only; omega) hrow.szT (by have := hrow.cap; simp only; omega) (els := r.els.drop off ++ []) (by
                          rw [hd0]; intro i c j x hc; simp at hc) (by rw [hd0]; simp) (by rw [hd0]; simp)
                        rw [hsame] at q1 q2
                        refine ⟨.slice A 0 0, w, _, _, ?_, q1, q2, .sl map_set_self ⟨by simp, A, by simp [hc0], fun h => by simp only at h; omega⟩, fun i hi => map_set_ne hi⟩
                        rw [hc0]
                        generalize hF : Builtin.firstCells i.size 0 vx = F
                        have hc1 := hus w rfl
                        rw [← hsz] at hc1
                        simp only [List.length_nil] at hc1 hlen
                        rw [hF] at hc1
                        cases A with
                        | none =>
                          rcases hd with ⟨e', rfl⟩ | rfl
                          · simp [Builtin.append_, run_underlying ht, run_underlying hu, sizeOf, typeInfo, hi, hlen, hF, hc1]
                          · simp [Builtin.append_, run_underlying ht, run_underlying hu, sizeOf, typeInfo, hi, hlen, hF, hc1]
                        | some a =>
                          rcases hd with ⟨e', rfl⟩ | rfl
                          · simp [Builtin.append_, run_underlying ht, run_underlying hu, sizeOf, typeInfo, hi, hlen, hF, hc1, storeCells]
                          · simp [Builtin.append_, run_underlying ht, run_underlying hu, sizeOf, typeInfo, hi, hlen, hF, hc1, storeCells]
                    · -- a new row
                      have hslv : VRel w L μ (.slice A n (p.cap - off)) (.sl id0 off n) := .sl hq ⟨hle, A, rfl, hA⟩
                      have hse : srcEls T (.sl id0 off n) = some ((r.els.drop off).take n) := by
                        simp only [srcEls, hr, Option.bind_some]
                        rw [if_pos (by omega)]
                      have hall2 : ∀ c ∈ (r.els.drop off).take n, c.length = sz := fun c hc => by rw [← hpsz]; exact hrow.sz c (List.mem_of_mem_drop (List.mem_of_mem_take hc))
                      obtain ⟨_, hold⟩ := srcEls_sound hT hslv hse hall2 hsz0 (fun s h => by cases h) (fun id1 off1 n1 r1 h hr1 => by
                        injection h with h1 h2 h3
                        subst h1
                        rw [hr] at hr1
                        obtain rfl := Option.some.inj hr1
                        exact hcs)
                      have htk : (r.els.drop off).take n = r.els.drop off := List.take_of_length_le (by omega)
                      rw [htk] at hold
                      obtain ⟨os, hos, hosl, hosv⟩ := hold n (by omega)
                      have hrun := run_append_new (P := P) (w := w) (ty := ty) (A := A) (n := n) (cap := p.cap - off) (olds := os) ht hi hz hu hd hlen (by rw [hsz]; exact hus w.drew rfl) (by rw [hsz]; exact hos w.drew rfl) hroom (by have := hbnd.2; simp only [maxLen] at this; omega) (by rw [hb]; exact hbnd.1)
                      have hge := grownCap_ge w (n + news.length) (p.cap - off) r.elem
                      have hgm := grownCap_le_maxLen w (n + news.length) (p.cap - off) r.elem hbnd.2
                      have hdrop := drop_core hT id0
                      obtain ⟨q1, q2⟩ := grown_gives (w1 := w.drew) hdrop.2 hid (e := r.elem) (z := z) hcs.symm hzs (us := os ++ us) (all := r.els.drop off ++ news) (n := n + news.length) (by rw [List.length_append, hdl]) (by
                          intro c hc
                          rcases List.mem_append.1 hc with h | h
                          · rw [← hpsz]; exact hrow.sz c (List.mem_of_mem_drop h)
                          · exact hall c h) (by rw [List.length_append, hosl, husl, Nat.add_mul]) (fun i c j x hc hx => by
                          by_cases hin : i < n
                          · rw [List.getElem?_append_left (by omega)] at hc
                            obtain ⟨u, hu, hr⟩ := hosv i c j x hin hc hx
                            refine ⟨u, ?_, hr⟩
                            rw [List.getElem?_append_left (List.getElem?_eq_some_iff.1 hu).1]; exact hu
                          · rw [List.getElem?_append_right (by omega), hdl] at hc
                            obtain ⟨u, hu, hr⟩ := husv (i - n) c j x (List.getElem?_eq_some_iff.1 hc).1 hc hx
                            refine ⟨u, ?_, hr⟩
                            have e1 : i * sz = n * sz + (i - n) * sz := by rw [← Nat.add_mul]; congr 1; omega
                            rw [List.getElem?_append_right (by omega), hosl, ← hu]
                            congr 1; omega) (cap := grownCap w (n + news.length) (p.cap - off) r.elem) hge hgm rfl rfl rfl rfl
                        (cur := os.toArray ++ us.toArray ++ Builtin.zeroCells z.cells (grownCap w (n + news.length) (p.cap - off) r.elem - (n + news.length))) (by simp)
                      refine ⟨_, _, _, _, hrun, hdrop.1.trans q1, q2, ?_, fun i hi => map_set_ne hi⟩
                      exact .sl map_set_self ⟨by simp only; omega, some ⟨w.heap.size, 0, none⟩, by simp, fun _ => by simp⟩
                · cases h
              · split at h
                · rename_i hnt hcnd
                  obtain ⟨rfl, hin⟩ := hcnd
                  simp only [Option.some.injEq, Prod.mk.injEq] at h
                  obtain ⟨rfl, rfl⟩ := h
                  cases q with
                  | none =>
                    obtain ⟨rfl, rfl, rfl⟩ := hok
                    have hnil : r.els = [] := by
                      obtain ⟨q, hq', _, hn⟩ := hT.row id0 r hr
                      rw [hq] at hq'
                      exact hn (Option.some.inj hq').symm
                    exact absurd ⟨rfl, by simp [hnil]⟩ hnt
                  | some p =>
                    obtain ⟨hle, A, rfl, hA⟩ := hok
                    have hrow := hT.cell hr hq
                    obtain ⟨cur, hg, hcsz, hcr⟩ := hrow.cur
                    have hrlen := hrow.len
                    have hpsz : p.sz = sz := by rw [hrow.szT, hcs]
                    have hoff : off < p.cap := by
                      rcases Nat.lt_or_ge off p.cap with h | h
                      · exact h
                      · exact absurd ⟨rfl, by omega⟩ hnt
                    have hA' := hA hoff
                    subst hA'
                    rw [← hpsz] at husl
                    have hmul : (off + n + news.length) * p.sz ≤ p.cap * p.sz := Nat.mul_le_mul_right _ (by omega)
                    have hmul2 : (off + n + news.length) * p.sz = off * p.sz + n * p.sz + news.length * p.sz := by rw [Nat.add_mul, Nat.add_mul]
                    have hcr' : CurRel w L μ cur p.b p.sz r.els := hcr
                    have hov := hcr'.over hrow.sz (n := off + n) (by omega) (us := us) (news := news) (by rw [hpsz]; exact hall) husl
                      (by rw [hpsz]; exact fun i c j x hc hx => husv i c j x (List.getElem?_eq_some_iff.1 hc).1 hc hx) (by rw [Nat.add_mul]; omega)
                    have hrun := run_append_in (P := P) (w := w) (ty := ty) (n := n) (b := p.b + off * p.sz) (cap := p.cap - off) ht hi hu hd hg hlen (by rw [hsz]; exact hus w rfl) (by omega) (by rw [hsz, ← hpsz]; omega) h1us
                    rw [hsz, ← hpsz] at hrun
                    have e1 : p.b + off * p.sz + n * p.sz = p.b + (off + n) * p.sz := by rw [Nat.add_mul]; omega
                    rw [e1] at hrun
                    obtain ⟨q1, q2⟩ := store_core hT hr hq hg (cur' := (cur.toList.take (p.b + (off + n) * p.sz) ++ us ++ cur.toList.drop (p.b + (off + n) * p.sz + us.length)).toArray) (by simp; rw [Nat.add_mul]; omega) hov (by simp; omega) (by
                      intro c hc
                      rcases List.mem_append.1 hc with h | h
                      · rcases List.mem_append.1 h with h | h
                        · exact hrow.sz c (List.mem_of_mem_take h)
                        · rw [hpsz]; exact hall c h
                      · exact hrow.sz c (List.mem_of_mem_drop h))
                    refine ⟨_, _, _, _, hrun, q1, q2, ?_, fun _ _ => rfl⟩
                    exact .sl hq ⟨by omega, some ⟨p.g, p.b + off * p.sz, none⟩, rfl, fun _ => rfl⟩
                · cases h
          · cases h
        · cases h
      · cases h
    · cases h
  · cases h
/-! ### Appending ahead of a row's end: what is behind is told no more -/
def trimS (T : Table) (s : AV) : Table := match s with
  | .sl id off n => (match T id with
    | some r => T.set id (some ⟨r.elem, r.els.take (off + n)⟩)
    | none => T)
  | _ => T
def evAppend (P : Program) (T : Table) (id : Nat) (t u : TypeId) (s x : AV) : Option (AV × Table) := evApp0 P (trimS T s) id t u s x
theorem trim_core {T : Table} {id : Nat} {r : Row} (hT : TRel P w L μ T) (hr : T id = some r) (n : Nat) : TRel P w L μ (T.set id (some ⟨r.elem, r.els.take n⟩)) := by
  have hid : ∀ k r', (T.set id (some ⟨r.elem, r.els.take n⟩)) k = some r' → ∃ r0, T k = some r0 ∧ r'.elem = r0.elem ∧ ∃ m, r'.els = r0.els.take m := by
    intro k r' h
    unfold Table.set at h
    split at h
    · rename_i e; subst e; obtain rfl := Option.some.inj h; exact ⟨r, hr, rfl, n, rfl⟩
    · exact ⟨r', h, rfl, r'.els.length, by simp⟩
  refine ⟨fun k r' h => ?_, fun k k' r1 r2 p p' h h' hp hp' hne => ?_⟩
  · obtain ⟨r0, h0, h1, m, h2⟩ := hid k r' h
    obtain ⟨q, hq, hrow, hnil⟩ := hT.row k r0 h0
    refine ⟨q, hq, fun p hp => ?_, fun hq => by rw [h2, hnil hq]; simp⟩
    have hp0 := hrow p hp
    obtain ⟨cur, hg, hsz, hc⟩ := hp0.cur
    refine ⟨⟨cur, by rw [h1]; exact hg, hsz, fun i e j x he hx => ?_⟩, ?_, fun e he => ?_, by rw [h1]; exact hp0.szT, hp0.cap, hp0.live⟩
    · rw [h2, List.getElem?_take] at he
      split at he
      · exact hc i e j x he hx
      · cases he
    · have := hp0.len
      rw [h2, List.length_take]; omega
    · rw [h2] at he
      exact hp0.sz e (List.mem_of_mem_take he)
  · obtain ⟨r0, h0, _⟩ := hid k r1 h
    obtain ⟨r0', h0', _⟩ := hid k' r2 h'
    exact hT.apart k k' r0 r0' p p' h0 h0' hp hp' hne
theorem trim_ext {T : Table} {id : Nat} {r : Row} (hr : T id = some r) {r' : Row} {w' : World} {L' : Nat → Prop} {μ' : Map} {T' : Table} (h : Ext w L μ (T.set id (some r')) w' L' μ' T') : Ext w L μ T w' L' μ' T' := by
  have back : ∀ k r1, (T.set id (some r')) k = some r1 → ∃ r0, T k = some r0 := by
    intro k r1 h
    unfold Table.set at h
    split at h
    · rename_i e; subst e; exact ⟨r, hr⟩
    · exact ⟨r1, h⟩
  refine ⟨h.os, h.tape, h.output, h.size, fun b hb hn => h.block b hb fun k r1 p hk hp => ?_, h.L, h.map, fun k r1 p hk hp => ?_⟩
  · obtain ⟨r0, h0⟩ := back k r1 hk
    exact hn k r0 p h0 hp
  · rcases h.place k r1 p hk hp with hge | ⟨i0, r0, p0, h1, h2, h3⟩
    · exact .inl hge
    · obtain ⟨r0', h0'⟩ := back i0 r0 h1
      exact .inr ⟨i0, r0', p0, h0', h2, h3⟩
theorem evAppend_gives (hT : TRel P w L μ T) {id : Nat} (hid : μ id = none) {t u ty : TypeId} {v vx : Value} {s x y : AV} (hs : VRel w L μ v s) (hx : VRel w L μ vx x) (h : evAppend P T id t u s x = some (y, T')) :
    Gives P w L μ T id (Builtin.append_ #[t, u] ty #[v, vx]) y T' := by
  unfold evAppend trimS at h
  split at h
  · rename_i id0 off n
    split at h
    · rename_i r hr
      obtain ⟨v', w', L', μ', h1, h2, h3, h4, h5⟩ := evApp0_gives (ty := ty) (trim_core hT hr (off + n)) hid hs hx h
      exact ⟨v', w', L', μ', h1, trim_ext hr h2, h3, h4, h5⟩
    · exact evApp0_gives hT hid hs hx h
  · exact evApp0_gives hT hid hs hx h
end Go.Proofs.Ytnceadbfgpiaaaa.G
/- All operations of the abstract machine, and that the model's own operation does just this. Plain theorems over any program. -/
namespace Go.Proofs.Ytnceadbfgpiaaaa.G
set_option linter.unusedVariables false
set_option linter.unusedSimpArgs false
open Go
variable {P : Program} {w w' : World} {L L' : Nat → Prop} {μ μ' : Map} {T T' : Table}

/-! ### What needs no memory -/
def flats : List AV → Option (List Value)
  | [] => some []
  | .flat v :: l => (flats l).map (v :: ·)
  | _ => none
def AV.val? : AV → Option Value
  | .flat v => some v
  | .agg cs => (flats cs).map fun l => .agg l.toArray
  | _ => none

theorem flats_sound : ∀ (xs : List AV) (us : List Value) (vs : List Value), us.length = xs.length → (∀ (i : Nat) (x : AV), xs[i]? = some x → ∃ u, us[i]? = some u ∧ VRel w L μ u x) → flats xs = some vs → us = vs := by
  intro xs
  induction xs with
  | nil => intro us vs hl _ h; simp only [flats, Option.some.injEq] at h; subst h; exact List.eq_nil_of_length_eq_zero hl
  | cons x xs ih =>
    intro us vs hl hr h
    cases us with
    | nil => simp at hl
    | cons u us =>
      cases x with
      | flat v =>
        simp only [flats] at h
        obtain ⟨l, hl', rfl⟩ := Option.map_eq_some_iff.1 h
        obtain ⟨u', hu', hv⟩ := hr 0 (.flat v) rfl
        simp at hu'
        subst hu'
        cases hv with
        | flat v _ => rw [ih us l (by simpa using hl) (fun i x hx => hr (i + 1) x hx) hl']
      | _ => cases h

theorem val_sound {v u : Value} {x : AV} (hv : VRel w L μ v x) (h : x.val? = some u) : v = u := by
  cases hv with
  | flat v _ => simpa [AV.val?] using h
  | @agg _ cs l hl hr =>
    simp only [AV.val?] at h
    obtain ⟨us, hus, rfl⟩ := Option.map_eq_some_iff.1 h
    have := flats_sound (w := w) (L := L) (μ := μ) l cs.toList us (by simpa using hl) (fun i x hx => ⟨cs.getD i undef, by
      have hlt : i < cs.size := by rw [hl]; exact (List.getElem?_eq_some_iff.1 hx).1
      simp [Array.getD, hlt], hr i x hx⟩) hus
    rw [← this]
  | tup => cases h
  | ro => cases h
  | rp => cases h
  | sl => cases h
  | ptr => cases h

def evP (P : Program) (m : Sem Value) : Option AV := (evPure P m).bind fun v => if notAgg v = true then some (.flat v) else none
theorem evP_gives (hT : TRel P w L μ T) {id : Nat} {m : Sem Value} {y : AV} (h : evP P m = some y) : Gives P w L μ T id m y T := by
  unfold evP at h
  obtain ⟨v, hv, h⟩ := Option.bind_eq_some_iff.1 h
  split at h
  · rename_i hn
    obtain rfl := Option.some.inj h
    exact Gives.same hT (evPure_run hv) (.flat v hn)
  · cases h

/-! ### Comparing structs of plain fields -/
def eqCell : Value → Value → Option Bool
  | .bool a, .bool b => some (a == b)
  | .int k a, .int k' b => if k = k' then some (a == b) else none
  | .string a, .string b => some (a == b)
  | _, _ => none
def plainT : TypeDesc → Bool
  | .bool | .int _ | .string => true
  | _ => false
def fitsT : TypeDesc → Value → Bool
  | .bool, .bool _ | .int _, .int _ _ | .string, .string _ => true
  | _, _ => false
def eqFields (P : Program) (xs ys : Array Value) : List Field → Option Bool
  | [] => some true
  | f :: fs =>
    match P.underlying f.type, xs[f.offset]?, ys[f.offset]? with
    | some d, some x, some y => if f.name ≠ "_" ∧ fitsT d x = true ∧ fitsT d y = true then (eqCell x y).bind fun b => (eqFields P xs ys fs).map fun r => b && r else none
    | _, _, _ => none

theorem run_equalIn_cell {t : TypeId} {d : TypeDesc} {x y : Value} {b : Bool} {n : Nat} (ht : P.underlying t = some d) (hx : fitsT d x = true) (hy : fitsT d y = true) (h : eqCell x y = some b) : (Op.equalIn (n + 1) t x y).run P w = .ok b w := by
  unfold Op.equalIn
  rw [run_bind _ _ (run_under ht)]
  cases d <;> cases x <;> first | (cases hx; done) | skip
  all_goals (cases y <;> first | (cases hy; done) | skip)
  · simp only [eqCell, Option.some.injEq] at h; subst h; rfl
  · simp only [eqCell] at h
    split at h
    · rename_i hk
      subst hk
      simp only [Option.some.injEq] at h; subst h
      simp only [if_true]
      rfl
    · cases h
  · simp only [eqCell, Option.some.injEq] at h; subst h; rfl

theorem aggT_fits {t : TypeId} {d : TypeDesc} {x : Value} (ht : P.underlying t = some d) (hx : fitsT d x = true) : aggT P t = some false := by
  unfold aggT
  rw [ht]
  cases d <;> first | rfl | (cases x <;> cases hx)

theorem run_part_cell {t : TypeId} {cs : Array Value} {off : Nat} {v : Value} (ha : aggT P t = some false) (h : cs[off]? = some v) : (part t cs off).run P w = .ok v w := by
  unfold part
  rw [run_bind _ _ (run_isAgg ha)]
  simp only [Bool.false_eq_true, if_false, h]
  rfl

theorem run_eqFields {xs ys : Array Value} {n : Nat} : ∀ (l : List Field) (b : Bool), eqFields P xs ys l = some b → (Op.eqFields (n + 1) xs ys l).run P w = .ok b w := by
  intro l
  induction l with
  | nil => intro b hb; simp only [eqFields, Option.some.injEq] at hb; subst hb; rfl
  | cons f l ih =>
    intro b hb
    simp only [eqFields] at hb
    split at hb
    · rename_i d x y hd hx hy
      split at hb
      · rename_i hc
        obtain ⟨hnm, hfx, hfy⟩ := hc
        obtain ⟨b1, hb1, hb⟩ := Option.bind_eq_some_iff.1 hb
        obtain ⟨b2, hb2, rfl⟩ := Option.map_eq_some_iff.1 hb
        have ha := aggT_fits hd hfx
        unfold Op.eqFields
        rw [if_pos hnm, run_bind _ _ (run_part_cell ha hx), run_bind _ _ (run_part_cell ha hy), run_bind _ _ (run_equalIn_cell hd hfx hfy hb1)]
        cases b1
        · rfl
        · simpa using ih b2 hb2
      · cases hb
    · cases hb

def eqElems (d : TypeDesc) (xs ys : Array Value) : List Nat → Option Bool
  | [] => some true
  | i :: l => match xs[i]?, ys[i]? with
    | some x, some y => if fitsT d x = true ∧ fitsT d y = true then (eqCell x y).bind fun b => (eqElems d xs ys l).map fun r => b && r else none
    | _, _ => none
theorem run_eqElems {t e : TypeId} {d : TypeDesc} {i : TypeInfo} {len : Nat} {xs ys : Array Value} {b : Bool} {n : Nat} (ht : P.underlying t = some (.array len e)) (he : P.underlying e = some d) (hi : P.info? e = some i) (h1 : i.size = 1) (h : eqElems d xs ys (List.range len) = some b) :
    (Op.equalIn (n + 2) t (.agg xs) (.agg ys)).run P w = .ok b w := by
  unfold Op.equalIn
  rw [run_bind _ _ (run_under ht)]
  simp only
  rw [run_bind _ _ (run_size hi), h1]
  simp only [Std.Legacy.Range.forIn_eq_forIn_range', Std.Legacy.Range.size, Nat.sub_zero, Nat.add_sub_cancel, Nat.div_one]
  rw [← List.range_eq_range']
  revert h
  generalize List.range len = l
  intro h
  induction l generalizing b with
  | nil => simp only [eqElems, Option.some.injEq] at h; subst h; rfl
  | cons j l ih =>
    simp only [eqElems] at h
    split at h
    · rename_i x y hx hy
      split at h
      · rename_i hc
        obtain ⟨hfx, hfy⟩ := hc
        obtain ⟨b1, hb1, h⟩ := Option.bind_eq_some_iff.1 h
        obtain ⟨b2, hb2, rfl⟩ := Option.map_eq_some_iff.1 h
        have ha := aggT_fits he hfx
        have e1 : j * 1 = j := Nat.mul_one j
        have ih2 := ih hb2
        simp only [List.forIn_cons, Sem.run_bind, e1, run_part_cell ha hx, run_part_cell ha hy, run_equalIn_cell he hfx hfy hb1, Result.andThen_ok]
        cases b1
        · rfl
        · simp only [Bool.not_true, Bool.false_eq_true, if_false, Bool.true_and, Sem.run_pure, Result.andThen_ok]
          simpa only [Sem.run_bind] using ih2
      · cases h
    · cases h

def eqStruct (P : Program) (t : TypeId) (xs ys : Array Value) : Option Bool :=
  match P.underlying t with
  | some (.struct fs) => if P.stoodInHeld t = false ∧ P.eqGuardType P.depth t = false then eqFields P xs ys fs.toList else none
  | some (.array len e) => match P.underlying e, P.info? e with
    | some d, some i => if i.size = 1 ∧ P.eqGuardType P.depth t = false then eqElems d xs ys (List.range len) else none
    | _, _ => none
  | _ => none

theorem run_eqGuard {op : BinOp} {t : TypeId} {x y : Operand} {xs ys : Array Value} (h : P.eqGuardType P.depth t = false) : (eqGuard op t x y (.agg xs) (.agg ys)).run P w = .ok () w := by
  cases op <;> first | rfl | simp [eqGuard, h]

theorem eqStruct_run {t : TypeId} {xs ys : Array Value} {b : Bool} (h : eqStruct P t xs ys = some b) : (Op.equal t (.agg xs) (.agg ys)).run P w = .ok b w ∧ P.eqGuardType P.depth t = false := by
  unfold eqStruct at h
  split at h
  · rename_i fs hu
    split at h
    · rename_i hc
      have hf : P.fieldsOf t = fs := by simp [Program.fieldsOf, hu]
      refine ⟨?_, hc.2⟩
      unfold Op.equal Op.maxDepth
      rw [Go.run_equalIn_struct (P := P) w 9999 t xs ys (by rw [hf]; exact hu) hc.1, hf]
      exact run_eqFields fs.toList b h
    · cases h
  · rename_i len e hu
    split at h
    · rename_i d i hd hi
      split at h
      · rename_i hc
        refine ⟨?_, hc.2⟩
        unfold Op.equal Op.maxDepth
        exact run_eqElems (n := 9998) hu hd hi hc.1 h
      · cases h
    · cases h
  · cases h

/-! ### Operators -/
def sliceLike : AV → Bool
  | .ro (_ :: _) => true
  | .sl _ _ (_ + 1) => true
  | _ => false
def ptrLike : AV → Bool
  | .ptr .. | .rp _ => true
  | _ => false
def isNilSl : AV → Bool
  | .flat (.slice none 0 0) => true
  | _ => false
def isNilPtr : AV → Bool
  | .flat (.pointer none) => true
  | _ => false

/-- A row, or memory, is compared with nil. -/
def evNil (P : Program) (t : TypeId) (a b : AV) : Bool :=
  match P.underlying t with
  | some (.slice _) => (sliceLike a && isNilSl b) || (isNilSl a && sliceLike b)
  | some (.pointer _) => (ptrLike a && isNilPtr b) || (isNilPtr a && ptrLike b)
  | _ => false

def evBin (P : Program) (op : BinOp) (t : TypeId) (x y : Operand) (a b : AV) : Option AV :=
  match op, a.val?, b.val? with
  | .eql, some (.agg xs), some (.agg ys) => (eqStruct P t xs ys).map fun r => .flat (.bool r)
  | .neq, some (.agg xs), some (.agg ys) => (eqStruct P t xs ys).map fun r => .flat (.bool (!r))
  | op, some u, some v => evP P (do eqGuard op t x y u v; binOp op t u v)
  | .eql, _, _ => if evNil P t a b = true then some (.flat (.bool false)) else none
  | .neq, _, _ => if evNil P t a b = true then some (.flat (.bool true)) else none
  | _, _, _ => none

theorem sliceLike_sound {v : Value} {x : AV} (hv : VRel w L μ v x) (h : sliceLike x = true) : ∃ a n c, v = .slice (some a) n c := by
  cases hv with
  | @ro _ A n c els sz U hn hc hs hA h1 hvr =>
    cases els with
    | nil => cases h
    | cons e els =>
      obtain ⟨a, rfl, _⟩ := hA (by simp at hn; omega)
      exact ⟨a, n, c, rfl⟩
  | @sl _ id off n v q hq hok =>
    cases n with
    | zero => cases h
    | succ n =>
      cases q with
      | none => obtain ⟨_, h0, _⟩ := hok; omega
      | some p =>
        obtain ⟨hle, A, rfl, hA⟩ := hok
        exact ⟨_, _, _, by rw [hA (by omega)]⟩
  | flat => cases h
  | agg => cases h
  | tup => cases h
  | rp => cases h
  | ptr => cases h
theorem ptrLike_sound {v : Value} {x : AV} (hv : VRel w L μ v x) (h : ptrLike x = true) : ∃ a, v = .pointer (some a) := by
  cases hv with
  | rp => exact ⟨_, rfl⟩
  | ptr => exact ⟨_, rfl⟩
  | flat => cases h
  | agg => cases h
  | tup => cases h
  | ro => cases h
  | sl => cases h
theorem isNilSl_sound {v : Value} {x : AV} (hv : VRel w L μ v x) (h : isNilSl x = true) : v = .slice none 0 0 := by
  cases hv with
  | flat v _ => 
    unfold isNilSl at h
    split at h
    · rename_i he; injection he
    · cases h
  | _ => cases h
theorem isNilPtr_sound {v : Value} {x : AV} (hv : VRel w L μ v x) (h : isNilPtr x = true) : v = .pointer none := by
  cases hv with
  | flat v _ => 
    unfold isNilPtr at h
    split at h
    · rename_i he; injection he
    · cases h
  | _ => cases h

theorem eqIn_sl1 {d : Nat} {t e : TypeId} {a : Addr} {n c : Nat} (ht : P.underlying t = some (.slice e)) : (Op.equalIn (d + 1) t (.slice (some a) n c) (.slice none 0 0)).run P w = .ok false w := by
  unfold Op.equalIn
  rw [run_bind _ _ (run_under ht)]
  rfl
theorem eqIn_sl2 {d : Nat} {t e : TypeId} {a : Addr} {n c : Nat} (ht : P.underlying t = some (.slice e)) : (Op.equalIn (d + 1) t (.slice none 0 0) (.slice (some a) n c)).run P w = .ok false w := by
  unfold Op.equalIn
  rw [run_bind _ _ (run_under ht)]
  rfl
theorem eqIn_pt1 {d : Nat} {t e : TypeId} {a : Addr} (ht : P.underlying t = some (.pointer e)) : (Op.equalIn (d + 1) t (.pointer (some a)) (.pointer none)).run P w = .ok false w := by
  unfold Op.equalIn
  rw [run_bind _ _ (run_under ht)]
  rfl
theorem eqIn_pt2 {d : Nat} {t e : TypeId} {a : Addr} (ht : P.underlying t = some (.pointer e)) : (Op.equalIn (d + 1) t (.pointer none) (.pointer (some a))).run P w = .ok false w := by
  unfold Op.equalIn
  rw [run_bind _ _ (run_under ht)]
  rfl
theorem evNil_sound {t : TypeId} {u v : Value} {a b : AV} (hu : VRel w L μ u a) (hv : VRel w L μ v b) (h : evNil P t a b = true) : (Op.equal t u v).run P w = .ok false w ∧ (∀ op x y, (eqGuard op t x y u v).run P w = .ok () w) ∧
    ((∃ a n c, u = .slice a n c) ∨ ∃ a, u = .pointer a) := by
  unfold evNil at h
  split at h
  · rename_i e ht
    rw [Bool.or_eq_true, Bool.and_eq_true, Bool.and_eq_true] at h
    rcases h with ⟨h1, h2⟩ | ⟨h1, h2⟩
    · obtain ⟨a, n, c, rfl⟩ := sliceLike_sound hu h1
      obtain rfl := isNilSl_sound hv h2
      refine ⟨?_, fun op x y => ?_, .inl ⟨_, _, _, rfl⟩⟩
      · exact eqIn_sl1 (d := 9999) ht
      · cases op <;> rfl
    · obtain ⟨a, n, c, rfl⟩ := sliceLike_sound hv h2
      obtain rfl := isNilSl_sound hu h1
      refine ⟨?_, fun op x y => ?_, .inl ⟨_, _, _, rfl⟩⟩
      · exact eqIn_sl2 (d := 9999) ht
      · cases op <;> rfl
  · rename_i e ht
    rw [Bool.or_eq_true, Bool.and_eq_true, Bool.and_eq_true] at h
    rcases h with ⟨h1, h2⟩ | ⟨h1, h2⟩
    · obtain ⟨a, rfl⟩ := ptrLike_sound hu h1
      obtain rfl := isNilPtr_sound hv h2
      refine ⟨?_, fun op x y => ?_, .inr ⟨_, rfl⟩⟩
      · exact eqIn_pt1 (d := 9999) ht
      · cases op <;> rfl
    · obtain ⟨a, rfl⟩ := ptrLike_sound hv h2
      obtain rfl := isNilPtr_sound hu h1
      refine ⟨?_, fun op x y => ?_, .inr ⟨_, rfl⟩⟩
      · exact eqIn_pt2 (d := 9999) ht
      · cases op <;> rfl
  · cases h

theorem evBin_gives (hT : TRel P w L μ T) {id : Nat} {op : BinOp} {t : TypeId} {x y : Operand} {a b z : AV} {u v : Value} (hu : VRel w L μ u a) (hv : VRel w L μ v b) (h : evBin P op t x y a b = some z) :
    Gives P w L μ T id (do eqGuard op t x y u v; binOp op t u v) z T := by
  unfold evBin at h
  split at h
  · rename_i xs ys ha hb
    obtain ⟨r, hr, rfl⟩ := Option.map_eq_some_iff.1 h
    obtain rfl := val_sound hu ha
    obtain rfl := val_sound hv hb
    obtain ⟨h1, h2⟩ := eqStruct_run (w := w) hr
    refine Gives.same hT ?_ (.flat _ rfl)
    rw [run_bind _ _ (run_eqGuard h2)]
    exact (run_bind _ _ h1)
  · rename_i xs ys ha hb
    obtain ⟨r, hr, rfl⟩ := Option.map_eq_some_iff.1 h
    obtain rfl := val_sound hu ha
    obtain rfl := val_sound hv hb
    obtain ⟨h1, h2⟩ := eqStruct_run (w := w) hr
    refine Gives.same hT ?_ (.flat _ rfl)
    rw [run_bind _ _ (run_eqGuard h2)]
    exact (run_bind _ _ h1)
  · rename_i u' v' _ _ ha hb
    obtain rfl := val_sound hu ha
    obtain rfl := val_sound hv hb
    exact evP_gives hT h
  · split at h
    · rename_i hn
      obtain rfl := Option.some.inj h
      obtain ⟨h1, h2, h3⟩ := evNil_sound hu hv hn
      refine Gives.same hT ?_ (.flat _ rfl)
      rw [run_bind _ _ (h2 _ _ _)]
      rcases h3 with ⟨a, n, c, rfl⟩ | ⟨a, rfl⟩
      · cases v <;> exact (run_bind _ _ h1)
      · cases v <;> exact (run_bind _ _ h1)
    · cases h
  · split at h
    · rename_i hn
      obtain rfl := Option.some.inj h
      obtain ⟨h1, h2, h3⟩ := evNil_sound hu hv hn
      refine Gives.same hT ?_ (.flat _ rfl)
      rw [run_bind _ _ (h2 _ _ _)]
      rcases h3 with ⟨a, n, c, rfl⟩ | ⟨a, rfl⟩
      · cases v <;> exact (run_bind _ _ h1)
      · cases v <;> exact (run_bind _ _ h1)
    · cases h
  · cases h
end Go.Proofs.Ytnceadbfgpiaaaa.G
/- All operations of the abstract machine in one table, and that the model's own operation does just this. Plain theorems over any program. -/
namespace Go.Proofs.Ytnceadbfgpiaaaa.G
set_option linter.unusedVariables false
set_option linter.unusedSimpArgs false
open Go
variable {P : Program} {w w' : World} {L L' : Nat → Prop} {μ μ' : Map} {T T' : Table}

/-! ### Bytes to a string -/
def byteOfAV : List AV → Option UInt8
  | [.flat (.int .u8 n)] => some (UInt8.ofNat n.toNat)
  | _ => none
def evBytes (P : Program) (T : Table) (src dst : TypeId) (x : AV) : Option AV :=
  match P.underlying src, P.underlying dst with
  | some (.slice e), some .string =>
    match P.underlying e, tinfo P e with
    | some (.int .u8), some (_, 1, _) => if srcFit P T 1 x = true then
        match x with
        | .flat _ => none
        | x => (srcEls T x).bind fun els => (els.mapM byteOfAV).map fun bs => .flat (.string ⟨bs.toArray⟩)
      else none
    | _, _ => none
  | _, _ => none

theorem mapM_len {α β : Type} {f : α → Option β} : ∀ {l : List α} {r : List β}, l.mapM f = some r → r.length = l.length ∧ ∀ (i : Nat) a, l[i]? = some a → ∃ b, r[i]? = some b ∧ f a = some b := by
  intro l
  induction l with
  | nil => intro r h; simp at h; subst h; exact ⟨rfl, fun i a h => by simp at h⟩
  | cons x l ih =>
    intro r h
    simp only [List.mapM_cons, Option.bind_eq_bind, Option.bind_eq_some_iff, Option.pure_def, Option.some.injEq] at h
    obtain ⟨b, hb, bs, hbs, rfl⟩ := h
    obtain ⟨h1, h2⟩ := ih hbs
    refine ⟨by simp [h1], fun i a hi => ?_⟩
    cases i with
    | zero => simp at hi; subst hi; exact ⟨b, rfl, hb⟩
    | succ i => exact h2 i a hi

theorem run_bytes {a : Option Addr} {n c : Nat} {us : List Value} {bs : List UInt8} (hc : (Builtin.firstCells 1 n (.slice a n c)).run P w = .ok us.toArray w) (hl : us.length = bs.length)
    (hn : n = bs.length) (hu : ∀ (i : Nat) b, bs[i]? = some b → ∃ k : Int, us[i]? = some (.int .u8 k) ∧ UInt8.ofNat k.toNat = b) : (Conv.bytesToString (.slice a n c)).run P w = .ok (.string ⟨bs.toArray⟩) w := by
  cases a with
  | none =>
    simp only [Builtin.firstCells] at hc
    have he : us = [] := by
      have := hc
      rw [run_ret] at this
      injection this with h1 h2
      have := congrArg Array.toList h1
      simpa using this.symm
    subst he
    have hb : bs = [] := List.eq_nil_of_length_eq_zero (by simpa using hl.symm)
    subst hb
    rfl
  | some a =>
    simp only [Builtin.firstCells, Nat.mul_one] at hc
    let ns : List Int := us.map fun | .int _ k => k | _ => 0
    have hns : us = ns.map (Value.int .u8) := by
      apply List.ext_getElem?
      intro i
      simp only [ns, List.map_map, List.getElem?_map]
      rcases Nat.lt_or_ge i bs.length with h | h
      · obtain ⟨k, hk, _⟩ := hu i bs[i] (List.getElem?_eq_getElem h)
        rw [hk]; rfl
      · rw [List.getElem?_eq_none (by omega)]; rfl
    have hr := run_bytesToString (P := P) w a n c ns (by rw [← hns]; exact hc)
    rw [hr]
    congr 2
    rw [foldl_push_bytes]
    congr 1
    apply Array.ext'
    simp only [ByteArray.empty, ByteArray.emptyWithCapacity]
    have : (ns.map fun n => UInt8.ofNat n.toNat) = bs := by
      apply List.ext_getElem?
      intro i
      simp only [ns, List.map_map, List.getElem?_map]
      rcases Nat.lt_or_ge i bs.length with h | h
      · obtain ⟨k, hk, hkb⟩ := hu i bs[i] (List.getElem?_eq_getElem h)
        rw [hk, List.getElem?_eq_getElem h]
        simp [hkb]
      · rw [List.getElem?_eq_none (by omega), List.getElem?_eq_none h]; rfl
    rw [this]
    simp only [Array.toList_append, List.nil_append]
    rfl

theorem evBytes_gives (hT : TRel P w L μ T) {id : Nat} {src dst : TypeId} {v : Value} {x y : AV} (hv : VRel w L μ v x) (h : evBytes P T src dst x = some y) : Gives P w L μ T id (convert src dst v) y T := by
  unfold evBytes at h
  split at h
  · rename_i e hs hd
    split at h
    · rename_i z b he hti
      split at h
      · rename_i hfit
        split at h
        · cases h
        · rename_i hnf
          obtain ⟨els, hels, h⟩ := Option.bind_eq_some_iff.1 h
          obtain ⟨bs, hbs, rfl⟩ := Option.map_eq_some_iff.1 h
          obtain ⟨hbl, hbf⟩ := mapM_len hbs
          have hall : ∀ c ∈ els, c.length = 1 := by
            intro c hc
            obtain ⟨i, hi, rfl⟩ := List.mem_iff_getElem.1 hc
            obtain ⟨b, _, hb⟩ := hbf i els[i] (List.getElem?_eq_getElem hi)
            unfold byteOfAV at hb
            split at hb
            · rename_i hee; rw [hee]; rfl
            · cases hb
          obtain ⟨hlen, hsrc⟩ := srcEls_sound hT hv hels hall (by omega) (srcFit_str hfit) (srcFit_own hfit)
          obtain ⟨us, hus, husl, husv⟩ := hsrc els.length (Nat.le_refl _)
          obtain ⟨a, n, c, rfl⟩ : ∃ a n c, v = .slice a n c := by
            cases hv with
            | flat v _ => exact absurd rfl (hnf v)
            | ro => exact ⟨_, _, _, rfl⟩
            | @sl _ _ _ _ _ q hq hok =>
              cases q with
              | none => obtain ⟨_, _, rfl⟩ := hok; exact ⟨_, _, _, rfl⟩
              | some p => obtain ⟨_, A, rfl, _⟩ := hok; exact ⟨_, _, _, rfl⟩
            | agg => cases hels
            | tup => cases hels
            | rp => cases hels
            | ptr => cases hels
          have hn : n = els.length := by
            simp only [Builtin.lenOf, run_ret] at hlen
            injection hlen
          subst hn
          have hr := run_bytes (P := P) (w := w) (a := a) (n := els.length) (c := c) (us := us) (bs := bs) (hus w rfl) (by omega) (by omega) (by
            intro i b hb
            have hlt := (List.getElem?_eq_some_iff.1 hb).1
            have hi : i < els.length := by omega
            obtain ⟨b', hb', hf⟩ := hbf i els[i] (List.getElem?_eq_getElem hi)
            rw [hb] at hb'
            obtain rfl := Option.some.inj hb'
            unfold byteOfAV at hf
            split at hf
            · rename_i k hee
              obtain ⟨u, hu, _, hv⟩ := husv i els[i] 0 (.flat (.int .u8 k)) hi (List.getElem?_eq_getElem hi) (by rw [hee]; rfl)
              cases hv
              exact ⟨k, by simpa using hu, Option.some.inj hf⟩
            · cases hf)
          refine Gives.same hT ?_ (.flat _ rfl)
          unfold convert
          rw [run_bind _ _ (run_under hs), run_bind _ _ (run_under hd)]
          simp only
          rw [run_bind _ _ (run_under he)]
          exact hr
      · cases h
    · cases h
  · cases h

/-! ### Copying -/
def evCopy (P : Program) (T : Table) (t : TypeId) (d x : AV) : Option (AV × Table) :=
  match P.underlying t, d with
  | some (.slice e), .sl id off n =>
    match tinfo P e with
    | some (_, sz, _) =>
      if 0 < sz ∧ srcFit P T sz x = true then
        (srcEls T x).bind fun els => (T id).bind fun r =>
          if (∀ c ∈ els, c.length = sz) ∧ P.cellsOf r.elem = sz ∧ off + n ≤ r.els.length then
            some (.flat (.int .i64 (min els.length n : Nat)), T.set id (some ⟨r.elem, r.els.take off ++ els.take (min els.length n) ++ r.els.drop (off + (els.take (min els.length n)).length)⟩))
          else none
      else none
    | none => none
  | _, _ => none

theorem evCopy_gives (hT : TRel P w L μ T) {id : Nat} {t u ty : TypeId} {v vx : Value} {d x y : AV} (hd : VRel w L μ v d) (hx : VRel w L μ vx x) (h : evCopy P T t d x = some (y, T')) :
    Gives P w L μ T id (Builtin.copy_ #[t, u] ty #[v, vx]) y T' := by
  unfold evCopy at h
  split at h
  · rename_i e id0 off n ht
    split at h
    · rename_i z sz b hti
      obtain ⟨i, hi, _, hsz, _, hcs⟩ := tinfo_some hti
      split at h
      · rename_i hc0
        obtain ⟨els, hels, h⟩ := Option.bind_eq_some_iff.1 h
        obtain ⟨r, hr, h⟩ := Option.bind_eq_some_iff.1 h
        split at h
        · rename_i hc
          obtain ⟨hall, hcr, hle⟩ := hc
          simp only [Option.some.injEq, Prod.mk.injEq] at h
          obtain ⟨rfl, rfl⟩ := h
          obtain ⟨hlen, hsrc⟩ := srcEls_sound hT hx hels hall hc0.1 (srcFit_str hc0.2) (srcFit_own hc0.2)
          obtain ⟨us, hus, husl, husv⟩ := hsrc (min els.length n) (Nat.min_le_left _ _)
          have hk : min els.length n ≤ n := Nat.min_le_right _ _
          have hk2 : min els.length n ≤ els.length := Nat.min_le_left _ _
          generalize hkk : min els.length n = k at *
          have h1us : ∀ q ∈ us, q.oneCell' = true := by
            intro q hq
            obtain ⟨j, hj, rfl⟩ := List.mem_iff_getElem.1 hq
            have hj2 : j / sz < k := Nat.div_lt_of_lt_mul (by rw [Nat.mul_comm, ← husl]; exact hj)
            have hj3 : j % sz < sz := Nat.mod_lt _ hc0.1
            have hjl : j / sz < els.length := by omega
            have hcl := hall els[j / sz] (List.getElem_mem _)
            obtain ⟨q, hq, h1, _⟩ := husv (j / sz) els[j / sz] (j % sz) (els[j / sz][j % sz]'(by omega)) hj2 (List.getElem?_eq_getElem hjl) (List.getElem?_eq_getElem (by omega))
            rw [Nat.mul_comm, Nat.div_add_mod, List.getElem?_eq_getElem hj] at hq
            obtain rfl := Option.some.inj hq
            exact h1
          have htl : (els.take k).length = k := by rw [List.length_take]; omega
          cases hd with
          | @sl _ _ _ _ _ q hq hok =>
            cases q with
            | none =>
              obtain ⟨rfl, rfl, rfl⟩ := hok
              have hnil : r.els = [] := by
                obtain ⟨q, hq', _, hn⟩ := hT.row id0 r hr
                rw [hq] at hq'
                exact hn (Option.some.inj hq').symm
              have hk0 : k = 0 := by omega
              subst hk0
              have hu0 : us = [] := List.eq_nil_of_length_eq_zero (by simpa using husl)
              subst hu0
              have hsame : T.set id0 (some ⟨r.elem, r.els.take 0 ++ els.take 0 ++ r.els.drop (0 + (els.take 0).length)⟩) = T := by
                funext j
                simp only [Table.set]
                split
                · subst_vars; rw [hr]; simp
                · rfl
              rw [hsame]
              refine Gives.same hT (v := goInt 0) ?_ (.flat _ rfl)
              have hc1 := hus w rfl
              rw [← hsz] at hc1
              generalize hF : Builtin.firstCells i.size 0 vx = F at hc1
              have hkm : Nat.min els.length 0 = 0 := hkk
              simp [Builtin.copy_, run_underlying ht, sizeOf, typeInfo, hi, hlen, hkm, hF, hc1]
            | some p =>
              obtain ⟨hle2, A, rfl, hA⟩ := hok
              have hrow := hT.cell hr hq
              obtain ⟨cur, hg, hcsz, hcrr⟩ := hrow.cur
              have hpsz : p.sz = sz := by rw [hrow.szT, hcr]
              have hrlen := hrow.len
              rw [← hpsz] at husl husv
              have hmul : (off + k) * p.sz ≤ p.cap * p.sz := Nat.mul_le_mul_right _ (by omega)
              rw [Nat.add_mul] at hmul
              have hcrr' : CurRel w L μ cur p.b p.sz r.els := hcrr
              have hov := hcrr'.over hrow.sz (n := off) (by omega) (us := us) (news := els.take k) (by rw [hpsz]; exact fun c hc => hall c (List.mem_of_mem_take hc)) (by rw [htl]; exact husl)
                (by
                  intro i c j x hc hx
                  rw [List.getElem?_take] at hc
                  split at hc
                  · rename_i hik; exact husv i c j x hik hc hx
                  · cases hc) (by omega)
              obtain ⟨q1, q2⟩ := store_core hT hr hq hg (cur' := (cur.toList.take (p.b + off * p.sz) ++ us ++ cur.toList.drop (p.b + off * p.sz + us.length)).toArray) (by simp; omega) hov (by simp; omega) (by
                intro c hc
                rcases List.mem_append.1 hc with h | h
                · rcases List.mem_append.1 h with h | h
                  · exact hrow.sz c (List.mem_of_mem_take h)
                  · rw [hpsz]; exact hall c (List.mem_of_mem_take h)
                · exact hrow.sz c (List.mem_of_mem_drop h))
              have hc1 := hus w rfl
              rw [← hsz] at hc1
              generalize hF : Builtin.firstCells i.size k vx = F at hc1
              have hkm : Nat.min els.length n = k := hkk
              by_cases hoff : off < p.cap
              · have hA' := hA hoff
                subst hA'
                have hst := run_storeCells_at P p.g (p.b + off * p.sz) r.elem us 0 cur w hg (by simp; omega) h1us
                simp only [Nat.add_zero] at hst
                refine ⟨goInt k, _, L, μ, ?_, q1, q2, .flat _ rfl, fun _ _ => rfl⟩
                simp [Builtin.copy_, run_underlying ht, sizeOf, typeInfo, hi, hlen, hkm, hF, hc1, hst]
              · have hk0 : k = 0 := by omega
                subst hk0
                have hu0 : us = [] := List.eq_nil_of_length_eq_zero (by simpa using husl)
                subst hu0
                have hsame : (w.setRow p.g (cur.toList.take (p.b + off * p.sz) ++ [] ++ cur.toList.drop (p.b + off * p.sz + ([] : List Value).length)).toArray) = w := by
                  simp only [List.append_nil, List.length_nil, Nat.add_zero, List.take_append_drop]
                  exact setRow_self w p.g cur r.elem (0, 0) hg
                rw [hsame] at q1 q2
                refine ⟨goInt 0, w, L, μ, ?_, q1, q2, .flat _ rfl, fun _ _ => rfl⟩
                cases A with
                | none => simp [Builtin.copy_, run_underlying ht, sizeOf, typeInfo, hi, hlen, hkm, hF, hc1]
                | some a => simp [Builtin.copy_, run_underlying ht, sizeOf, typeInfo, hi, hlen, hkm, hF, hc1, storeCells]
        · cases h
      · cases h
    · cases h
  · cases h
end Go.Proofs.Ytnceadbfgpiaaaa.G
/- All operations of the abstract machine in one table, and that the model's own operation does just this. Plain theorems over any program. -/
namespace Go.Proofs.Ytnceadbfgpiaaaa.G
set_option linter.unusedVariables false
set_option linter.unusedSimpArgs false
open Go
variable {P : Program} {w w' : World} {L L' : Nat → Prop} {μ μ' : Map} {T T' : Table}

def evParts (ρ : Operand → Option AV) : List (Nat × Operand) → Option (List (Nat × AV))
  | [] => some []
  | (i, x) :: l => match ρ x, evParts ρ l with
    | some a, some r => some ((i, a) :: r)
    | _, _ => none
def optA (ρ : Operand → Option AV) : Option Operand → Option (Option AV)
  | none => some none
  | some x => (ρ x).map some
def evVals (ρ : Operand → Option AV) : List Operand → Option (List Value)
  | [] => some []
  | x :: l => match (ρ x).bind AV.val?, evVals ρ l with
    | some a, some r => some (a :: r)
    | _, _ => none

def evBuiltin (P : Program) (T : Table) (id : Nat) (ρ : Operand → Option AV) (ty : TypeId) (b : Builtin) (args : List Operand) (ts : List TypeId) : Option (AV × Table) :=
  match b, args, ts with
  | .len, [x], [t] => (ρ x).bind fun a => (evLen P t a).map (·, T)
  | .append, [s, x], [t, u] => (ρ s).bind fun a => (ρ x).bind fun c => evAppend P T id t u a c
  | .copy, [s, x], [t, u] => (ρ s).bind fun a => (ρ x).bind fun c => evCopy P T t a c
  | .max, l, _ => (evVals ρ l).bind fun us => (evP P (Builtin.max_ #[] ty us.toArray)).map (·, T)
  | .min, l, _ => (evVals ρ l).bind fun us => (evP P (Builtin.min_ #[] ty us.toArray)).map (·, T)
  | _, _, _ => none

def fnFlat : AV → Bool
  | .flat (.func (.func _) _ _) => true
  | _ => false

/-- One operation, but for calls of functions: what it comes to, and the table behind it. 'id': the name of the row that it makes. -/
def evOp (P : Program) (T : Table) (id : Nat) (ρ : Operand → Option AV) (ty : TypeId) : Op → Option (AV × Table)
  | .move x | .assign x => (ρ x).map (·, T)
  | .pick c a b => (ρ c).bind fun c => match c with
    | .flat (.bool t) => (if t = true then ρ a else ρ b).map (·, T)
    | _ => none
  | .alloc e => match tinfo P e with
    | some (some z, _, _) => if z.cells.toList.all notAgg = true then evBox P T id e (zeroAV z) else none
    | _ => none
  | .box e x => (ρ x).bind fun a => evBox P T id e a.cells
  | .build t parts => (evParts ρ parts.toList).bind fun ps => (evBuild P t ps).map (·, T)
  | .buildSlice t len parts => (evParts ρ parts.toList).bind fun ps => evBuildSlice P T id t len ps
  | .load t x => (ρ x).bind fun a => (evLoad P T t a).map (·, T)
  | .store t x y => (ρ x).bind fun a => (ρ y).bind fun b => (evStore P T t a b).map fun T' => (.flat undef, T')
  | .nilCheck x => (ρ x).bind fun a => if ptrLike a = true ∨ fnFlat a = true then some (a, T) else none
  | .binOp op t x y _ => (ρ x).bind fun a => (ρ y).bind fun b => (evBin P op t x y a b).map (·, T)
  | .unOp op _ x => (ρ x).bind fun a => a.val?.bind fun u => (evP P (Op.unary op u)).map (·, T)
  | .convert s d x => (ρ x).bind fun a => match a with
    | .flat u => (evP P (convert s d u)).map (·, T)
    | a => (evBytes P T s d a).map (·, T)
  | .makeInterface t x => (ρ x).bind fun a => a.val?.bind fun u => (evP P (Instr.makeInterface t u)).map (·, T)
  | .makeFunc fn first captured => if first.size = 0 ∧ captured.size = 0 then (evP P (Instr.makeFunc fn #[] #[])).map (·, T) else none
  | .makeSlice t l c => (ρ l).bind fun a => (ρ c).bind fun b => evMake P T id t a b
  | .slice t x lo hi none => (ρ x).bind fun a => (optA ρ lo).bind fun l => (optA ρ hi).bind fun h => (evSlice P T t a l h).map (·, T)
  | .fieldAddr s x f => (ρ x).bind fun a => (evFieldAddr P s a f).map (·, T)
  | .field t x f => (ρ x).bind fun a => (evField P t a f).map (·, T)
  | .indexAddr t x i => (ρ x).bind fun a => (ρ i).bind fun b => (evIndexAddr P T t a b).map (·, T)
  | .index t x i => (ρ x).bind fun a => (ρ i).bind fun b => match a, b with
    | .flat u, .flat v => (evP P (Instr.index t u v)).map (·, T)
    | a, b => (evIndexArr P t a b).map (·, T)
  | .typeAssert x t a ok => (ρ x).bind fun c => c.val?.bind fun u => (evP P (Instr.typeAssert u t a ok)).map (·, T)
  | .extract x i => (ρ x).bind fun a => match a with
    | .tup l => (l[i]?).map (·, T)
    | _ => none
  | .call { callee := .builtin b, args, argTypes } => evBuiltin P T id ρ ty b args.toList argTypes.toList
  | _ => none

/-- What the machine goes on with behind an operation. -/
def nextV : Next → Option Value
  | .value v => some v
  | .skip => some undef
  | _ => none

def GivesN (P : Program) (w : World) (L : Nat → Prop) (μ : Map) (T : Table) (id : Nat) (m : Sem Next) (y : AV) (T' : Table) : Prop :=
  ∃ nx v w' L' μ', m.run P w = .ok nx w' ∧ nextV nx = some v ∧ Ext w L μ T w' L' μ' T' ∧ TRel P w' L' μ' T' ∧ VRel w' L' μ' v y ∧ ∀ i, i ≠ id → μ' i = μ i

theorem Gives.next {id : Nat} {m : Sem Value} {y : AV} (h : Gives P w L μ T id m y T') : GivesN P w L μ T id (do pure (.value (← m))) y T' := by
  obtain ⟨v, w', L', μ', hr, h1, h2, h3, h4⟩ := h
  exact ⟨.value v, v, w', L', μ', run_bind _ _ hr, rfl, h1, h2, h3, h4⟩

theorem evParts_sound {ρ : Operand → Option AV} {σ : Operand → Value} (hρ : ∀ x y, ρ x = some y → VRel w L μ (σ x) y) : ∀ {l : List (Nat × Operand)} {ps : List (Nat × AV)}, evParts ρ l = some ps →
    (l.map fun (i, x) => (i, σ x)).map (·.1) = ps.map (·.1) ∧ ∀ (k : Nat) (v : Nat × Value) (x : Nat × AV), (l.map fun (i, x) => (i, σ x))[k]? = some v → ps[k]? = some x → VRel w L μ v.2 x.2 := by
  intro l
  induction l with
  | nil => intro ps h; simp only [evParts, Option.some.injEq] at h; subst h; exact ⟨rfl, fun k v x h => by simp at h⟩
  | cons p l ih =>
    intro ps h
    obtain ⟨i, x⟩ := p
    simp only [evParts] at h
    split at h
    · rename_i a r ha hr
      obtain rfl := Option.some.inj h
      obtain ⟨h1, h2⟩ := ih hr
      refine ⟨by simp at h1 ⊢; exact h1, fun k v y hv hy => ?_⟩
      cases k with
      | zero => simp at hv hy; subst hv; subst hy; exact hρ x a ha
      | succ k => exact h2 k v y (by simpa using hv) (by simpa using hy)
    · cases h

theorem evVals_sound {ρ : Operand → Option AV} {σ : Operand → Value} (hρ : ∀ x y, ρ x = some y → VRel w L μ (σ x) y) : ∀ {l : List Operand} {us : List Value}, evVals ρ l = some us → l.map σ = us := by
  intro l
  induction l with
  | nil => intro us h; simp only [evVals, Option.some.injEq] at h; subst h; rfl
  | cons x l ih =>
    intro us h
    simp only [evVals] at h
    split at h
    · rename_i a r ha hr
      obtain rfl := Option.some.inj h
      obtain ⟨y, hy, hv⟩ := Option.bind_eq_some_iff.1 ha
      simp only [List.map_cons]
      rw [ih hr, val_sound (hρ x y hy) hv]
    · cases h

theorem optA_sound {ρ : Operand → Option AV} {σ : Operand → Value} (hρ : ∀ x y, ρ x = some y → VRel w L μ (σ x) y) {x : Option Operand} {y : Option AV} (h : optA ρ x = some y) : ORel w L μ (x.map σ) y := by
  cases x with
  | none => simp only [optA, Option.some.injEq] at h; subst h; trivial
  | some x =>
    simp only [optA] at h
    obtain ⟨a, ha, rfl⟩ := Option.map_eq_some_iff.1 h
    exact hρ x a ha

theorem flat_eq {v u : Value} (h : VRel w L μ v (.flat u)) : v = u := by cases h; rfl
theorem array1 {α : Type} {a : Array α} {x : α} (h : a.toList = [x]) : a = #[x] := by cases a; simp_all
theorem array2 {α : Type} {a : Array α} {x y : α} (h : a.toList = [x, y]) : a = #[x, y] := by cases a; simp_all

theorem evOp_gives (hT : TRel P w L μ T) {id : Nat} (hid : μ id = none) {a : Act} {ρ : Operand → Option AV} (hρ : ∀ x y, ρ x = some y → VRel w L μ (a.eval x) y) {o : Oper} {y : AV} (h : evOp P T id ρ o.type o.op = some (y, T')) :
    GivesN P w L μ T id (execOp a.eval o) y T' := by
  have pairT : ∀ {z : Option AV}, z.map (·, T) = some (y, T') → z = some y ∧ T' = T := by
    intro z hz
    obtain ⟨c, hc, he⟩ := Option.map_eq_some_iff.1 hz
    simp only [Prod.mk.injEq] at he
    exact ⟨by rw [hc, he.1], he.2.symm⟩
  unfold execOp
  generalize hop : o.op = op at h
  cases op with
  | move x =>
    obtain ⟨h1, rfl⟩ := pairT h
    exact ⟨_, _, w, L, μ, rfl, rfl, Ext.refl _ _ _ _, hT, hρ _ _ h1, fun _ _ => rfl⟩
  | assign x =>
    obtain ⟨h1, rfl⟩ := pairT h
    exact ⟨_, _, w, L, μ, rfl, rfl, Ext.refl _ _ _ _, hT, hρ _ _ h1, fun _ _ => rfl⟩
  | pick c x z =>
    simp only [evOp] at h
    obtain ⟨cv, hc, h⟩ := Option.bind_eq_some_iff.1 h
    split at h
    · rename_i t
      obtain ⟨h1, rfl⟩ := pairT h
      have hcv := hρ _ _ hc
      have he : a.eval c = .bool t := flat_eq hcv
      refine ⟨.value (if t = true then a.eval x else a.eval z), _, w, L, μ, ?_, rfl, Ext.refl _ _ _ _, hT, ?_, fun _ _ => rfl⟩
      · simp only [he]
        rfl
      · cases t
        · exact hρ _ _ h1
        · exact hρ _ _ h1
    · cases h
  | alloc e =>
    simp only [evOp] at h
    split at h
    · rename_i z sz b ht
      split at h
      · rename_i hz
        obtain ⟨i, hi, hz', _⟩ := tinfo_some ht
        exact (evBox_gives hT hid (zero_rels z hz) (run_alloc hi hz') h).next
      · cases h
    · cases h
  | box e x =>
    simp only [evOp] at h
    obtain ⟨c, hc, h⟩ := Option.bind_eq_some_iff.1 h
    exact (evBox_gives hT hid (hρ _ _ hc).cells run_box h).next
  | build t parts =>
    simp only [evOp] at h
    obtain ⟨ps, hps, h⟩ := Option.bind_eq_some_iff.1 h
    obtain ⟨h1, rfl⟩ := pairT h
    obtain ⟨q1, q2⟩ := evParts_sound hρ hps
    have hg := evBuild_gives (P := P) hT (id := id) (vs := parts.map fun (i, x) => (i, a.eval x)) (by rw [Array.toList_map]; exact q1) (by rw [Array.toList_map]; exact q2) h1
    exact hg.next
  | buildSlice t len parts =>
    simp only [evOp] at h
    obtain ⟨ps, hps, h⟩ := Option.bind_eq_some_iff.1 h
    obtain ⟨q1, q2⟩ := evParts_sound hρ hps
    have hg := evBuildSlice_gives (P := P) hT hid (vs := parts.map fun (i, x) => (i, a.eval x)) (by rw [Array.toList_map]; exact q1) (by rw [Array.toList_map]; exact q2) h
    exact hg.next
  | load t x =>
    simp only [evOp] at h
    obtain ⟨c, hc, h⟩ := Option.bind_eq_some_iff.1 h
    obtain ⟨h1, rfl⟩ := pairT h
    exact (evLoad_gives hT (hρ _ _ hc) h1).next
  | store t x z =>
    simp only [evOp] at h
    obtain ⟨c, hc, h⟩ := Option.bind_eq_some_iff.1 h
    obtain ⟨d, hd, h⟩ := Option.bind_eq_some_iff.1 h
    obtain ⟨T1, h1, he⟩ := Option.map_eq_some_iff.1 h
    simp only [Prod.mk.injEq] at he
    obtain ⟨rfl, rfl⟩ := he
    obtain ⟨w', hr, q1, q2⟩ := evStore_gives hT (hρ _ _ hc) (hρ _ _ hd) h1
    exact ⟨.skip, undef, w', L, μ, run_bind _ _ hr, rfl, q1, q2, .flat _ rfl, fun _ _ => rfl⟩
  | nilCheck x =>
    simp only [evOp] at h
    obtain ⟨c, hc, h⟩ := Option.bind_eq_some_iff.1 h
    split at h
    · rename_i hp
      simp only [Option.some.injEq, Prod.mk.injEq] at h
      obtain ⟨rfl, rfl⟩ := h
      have hv := hρ _ _ hc
      rcases hp with hp | hp
      · obtain ⟨ad, he⟩ := ptrLike_sound hv hp
        rw [he] at hv
        simp only [he]
        exact ⟨_, _, w, L, μ, rfl, rfl, Ext.refl _ _ _ _, hT, hv, fun _ _ => rfl⟩
      · unfold fnFlat at hp
        split at hp
        · rename_i f f1 f2
          have he : a.eval x = .func (.func f) f1 f2 := flat_eq hv
          rw [he] at hv
          simp only [he]
          exact ⟨_, _, w, L, μ, rfl, rfl, Ext.refl _ _ _ _, hT, hv, fun _ _ => rfl⟩
        · cases hp
    · cases h
  | binOp op t x z yt =>
    simp only [evOp] at h
    obtain ⟨c, hc, h⟩ := Option.bind_eq_some_iff.1 h
    obtain ⟨d, hd, h⟩ := Option.bind_eq_some_iff.1 h
    obtain ⟨h1, rfl⟩ := pairT h
    exact (evBin_gives hT (hρ _ _ hc) (hρ _ _ hd) h1).next
  | unOp op t x =>
    simp only [evOp] at h
    obtain ⟨c, hc, h⟩ := Option.bind_eq_some_iff.1 h
    obtain ⟨u, hu, h⟩ := Option.bind_eq_some_iff.1 h
    obtain ⟨h1, rfl⟩ := pairT h
    have := val_sound (hρ _ _ hc) hu
    subst this
    exact (evP_gives hT h1).next
  | convert s d x =>
    simp only [evOp] at h
    obtain ⟨c, hc, h⟩ := Option.bind_eq_some_iff.1 h
    split at h
    · rename_i u
      obtain ⟨h1, rfl⟩ := pairT h
      have he : a.eval x = u := flat_eq (hρ _ _ hc)
      subst he
      exact (evP_gives hT h1).next
    · obtain ⟨h1, rfl⟩ := pairT h
      exact (evBytes_gives hT (hρ _ _ hc) h1).next
  | makeInterface t x =>
    simp only [evOp] at h
    obtain ⟨c, hc, h⟩ := Option.bind_eq_some_iff.1 h
    obtain ⟨u, hu, h⟩ := Option.bind_eq_some_iff.1 h
    obtain ⟨h1, rfl⟩ := pairT h
    have := val_sound (hρ _ _ hc) hu
    subst this
    exact (evP_gives hT h1).next
  | makeFunc fn first captured =>
    simp only [evOp] at h
    split at h
    · rename_i hs
      obtain ⟨h1, rfl⟩ := pairT h
      have e1 : first = #[] := Array.eq_empty_of_size_eq_zero hs.1
      have e2 : captured = #[] := Array.eq_empty_of_size_eq_zero hs.2
      subst e1; subst e2
      have e3 : (#[] : Array Operand).map a.eval = #[] := by simp
      simp only [e3]
      exact (evP_gives hT h1).next
    · cases h
  | makeSlice t l c =>
    simp only [evOp] at h
    obtain ⟨c1, hc1, h⟩ := Option.bind_eq_some_iff.1 h
    obtain ⟨d, hd, h⟩ := Option.bind_eq_some_iff.1 h
    exact (evMake_gives hT hid (hρ _ _ hc1) (hρ _ _ hd) h).next
  | slice t x lo hi mx =>
    cases mx with
    | some m => cases h
    | none =>
      simp only [evOp] at h
      obtain ⟨c, hc, h⟩ := Option.bind_eq_some_iff.1 h
      obtain ⟨l, hl, h⟩ := Option.bind_eq_some_iff.1 h
      obtain ⟨h', hh, h⟩ := Option.bind_eq_some_iff.1 h
      obtain ⟨h1, rfl⟩ := pairT h
      exact (evSlice_gives hT (hρ _ _ hc) (optA_sound hρ hl) (optA_sound hρ hh) h1).next
  | fieldAddr s x f =>
    simp only [evOp] at h
    obtain ⟨c, hc, h⟩ := Option.bind_eq_some_iff.1 h
    obtain ⟨h1, rfl⟩ := pairT h
    exact (evFieldAddr_gives hT (hρ _ _ hc) h1).next
  | field t x f =>
    simp only [evOp] at h
    obtain ⟨c, hc, h⟩ := Option.bind_eq_some_iff.1 h
    obtain ⟨h1, rfl⟩ := pairT h
    exact (evField_gives hT (hρ _ _ hc) h1).next
  | indexAddr t x i =>
    simp only [evOp] at h
    obtain ⟨c, hc, h⟩ := Option.bind_eq_some_iff.1 h
    obtain ⟨d, hd, h⟩ := Option.bind_eq_some_iff.1 h
    obtain ⟨h1, rfl⟩ := pairT h
    exact (evIndexAddr_gives hT (hρ _ _ hc) (hρ _ _ hd) h1).next
  | index t x i =>
    simp only [evOp] at h
    obtain ⟨c, hc, h⟩ := Option.bind_eq_some_iff.1 h
    obtain ⟨d, hd, h⟩ := Option.bind_eq_some_iff.1 h
    split at h
    · rename_i _ u v _
      obtain ⟨h1, rfl⟩ := pairT h
      have e1 : a.eval x = u := flat_eq (hρ _ _ hc)
      have e2 : a.eval i = v := flat_eq (hρ _ _ hd)
      subst e1; subst e2
      exact (evP_gives hT h1).next
    · obtain ⟨h1, rfl⟩ := pairT h
      exact (evIndexArr_gives hT (hρ _ _ hc) (hρ _ _ hd) h1).next
  | typeAssert x t s ok =>
    simp only [evOp] at h
    obtain ⟨c, hc, h⟩ := Option.bind_eq_some_iff.1 h
    obtain ⟨u, hu, h⟩ := Option.bind_eq_some_iff.1 h
    obtain ⟨h1, rfl⟩ := pairT h
    have := val_sound (hρ _ _ hc) hu
    subst this
    exact (evP_gives hT h1).next
  | extract x i =>
    simp only [evOp] at h
    obtain ⟨c, hc, h⟩ := Option.bind_eq_some_iff.1 h
    split at h
    · rename_i l
      obtain ⟨h1, rfl⟩ := pairT h
      have hv := hρ _ _ hc
      generalize hev : a.eval x = ev at hv
      cases hv with
      | @tup _ cs l hl hr =>
        have hlt : i < cs.size := by rw [hl]; exact (List.getElem?_eq_some_iff.1 h1).1
        refine Gives.next (Gives.same hT (v := cs.getD i undef) ?_ (hr i y h1))
        rw [hev]
        unfold Instr.extract
        simp only [Array.getElem?_eq_getElem hlt]
        rw [getD_of (Array.getElem?_eq_getElem hlt)]
        rfl
    · cases h
  | call c =>
    obtain ⟨callee, args, ts⟩ := c
    cases callee with
    | value f => cases h
    | invoke r m => cases h
    | builtin b =>
      simp only [evOp, evBuiltin] at h
      have mk : ∀ {m : Sem Value} {y T'}, Gives P w L μ T id m y T' → (∀ (w' : World), (do let d ← resolve a.eval { callee := .builtin b, args, argTypes := ts } o.type; invoke d.target d.args : Sem Next).run P w' = (do pure (.value (← m)) : Sem Next).run P w') → GivesN P w L μ T id (do let d ← resolve a.eval { callee := .builtin b, args, argTypes := ts } o.type; invoke d.target d.args) y T' := by
        intro m y T' hg he
        obtain ⟨nx, v, w', L', μ', hr, rest⟩ := hg.next
        exact ⟨nx, v, w', L', μ', (he w).trans hr, rest⟩
      split at h
      · rename_i x t hargs hts
        obtain ⟨c, hc, h⟩ := Option.bind_eq_some_iff.1 h
        obtain ⟨h1, rfl⟩ := pairT h
        obtain rfl := array1 hargs
        obtain rfl := array1 hts
        exact mk (evLen_gives hT (hρ _ _ hc) h1 (ty := o.type)) fun w' => by simp only [resolve, List.map_toArray, List.map_cons, List.map_nil]; rfl
      · rename_i s x t u hargs hts
        obtain ⟨c, hc, h⟩ := Option.bind_eq_some_iff.1 h
        obtain ⟨d, hd, h⟩ := Option.bind_eq_some_iff.1 h
        obtain rfl := array2 hargs
        obtain rfl := array2 hts
        exact mk (evAppend_gives hT hid (hρ _ _ hc) (hρ _ _ hd) h (ty := o.type)) fun w' => by simp only [resolve, List.map_toArray, List.map_cons, List.map_nil]; rfl
      · rename_i s x t u hargs hts
        obtain ⟨c, hc, h⟩ := Option.bind_eq_some_iff.1 h
        obtain ⟨d, hd, h⟩ := Option.bind_eq_some_iff.1 h
        obtain rfl := array2 hargs
        obtain rfl := array2 hts
        exact mk (evCopy_gives hT (hρ _ _ hc) (hρ _ _ hd) h (ty := o.type) (u := u)) fun w' => by simp only [resolve, List.map_toArray, List.map_cons, List.map_nil]; rfl
      · obtain ⟨us, hus, h⟩ := Option.bind_eq_some_iff.1 h
        obtain ⟨h1, rfl⟩ := pairT h
        have hv := evVals_sound hρ hus
        refine mk (evP_gives hT h1) fun w' => ?_
        have : args.map a.eval = us.toArray := by rw [← hv]; cases args; simp
        unfold resolve
        simp only [this]
        rfl
      · obtain ⟨us, hus, h⟩ := Option.bind_eq_some_iff.1 h
        obtain ⟨h1, rfl⟩ := pairT h
        have hv := evVals_sound hρ hus
        refine mk (evP_gives hT h1) fun w' => ?_
        have : args.map a.eval = us.toArray := by rw [← hv]; cases args; simp
        unfold resolve
        simp only [this]
        rfl
      · cases h
  | _ => cases h
end Go.Proofs.Ytnceadbfgpiaaaa.G
/- The abstract machine: states, calls, regions, code. What it says is proved in the next texts. -/
namespace Go.Proofs.Ytnceadbfgpiaaaa.G
set_option linter.unusedVariables false
set_option linter.unusedSimpArgs false
open Go

/-- Nothing is known of a slot. -/
def AV.dead : AV := .tup [.tup [.tup []]]
def AV.isDead : AV → Bool
  | .tup [.tup [.tup []]] => true
  | _ => false

structure St where
  s : Nat → AV
  T : Table
  nx : Nat

def upd (s : Nat → AV) (d : Nat) (v : AV) : Nat → AV := fun i => if i = d then v else s i
def St.put (st : St) (d : Option Tmp) (v : AV) : St :=
  match d with
  | some d => { st with s := upd st.s d v }
  | none => st

def St.op (st : St) : Operand → Option AV
  | .tmp t => if (st.s t).isDead = true then none else some (st.s t)
  | .const v => if notAgg v = true then some (.flat v) else none
  | .func f => some (.flat (.func (.func f) #[] #[]))
  | .global _ => none

def wantedA (st : St) (ops : Array Oper) (o : Oper) : Option Bool :=
  match o.guard with
  | none => some true
  | some (j, want) =>
    match (ops[j]?).bind (·.dst) with
    | none => none
    | some d => match st.s d with
      | .flat (.bool b) => some (match want with | true => b | false => !b)
      | .flat (.tuple _) => some false
      | _ => none

/-! ### What leads to one's own, and what does not -/
def AV.noId : AV → Bool
  | .sl .. | .ptr .. | .agg _ | .tup _ => false
  | _ => true
def AV.noIds : AV → Bool
  | .agg cs => cs.all AV.noId
  | x => x.noId
/-- Does it lead to nothing that stays as it is (so that nothing can lie in what was lent)? -/
def AV.noRo1 : AV → Bool
  | .flat _ | .sl .. | .ptr .. => true
  | .ro els => els.isEmpty
  | _ => false
def AV.noRo : AV → Bool
  | .agg cs => cs.all AV.noRo1
  | .tup cs => cs.all fun x => match x with
    | .agg cs => cs.all AV.noRo1
    | x => x.noRo1
  | x => x.noRo1

/-- As it is read by a callee: rows of one's own as slices of what stays. 'ids': the rows that are read. -/
inductive Deep (T : Table) (ids : List Nat) : AV → AV → Prop
  | id {x : AV} (h : x.noId = true) : Deep T ids x x
  | nil : Deep T ids (.flat (.slice none 0 0)) (.ro [])
  | agg {cs cs' : List AV} (hl : cs.length = cs'.length) (h : ∀ (i : Nat) (x y : AV), cs[i]? = some x → cs'[i]? = some y → Deep T ids x y) : Deep T ids (.agg cs) (.agg cs')
  | sl {id off n : Nat} {r : Row} {els' : List (List AV)} (hid : id ∈ ids) (hr : T id = some r) (hle : off + n ≤ r.els.length) (hl : els'.length = n)
      (hs : ∀ (i : Nat) (e e' : List AV), (r.els.drop off)[i]? = some e → els'[i]? = some e' → e.length = e'.length)
      (h : ∀ (i : Nat) (e e' : List AV) (j : Nat) (x y : AV), (r.els.drop off)[i]? = some e → els'[i]? = some e' → e[j]? = some x → e'[j]? = some y → Deep T ids x y) : Deep T ids (.sl id off n) (.ro els')
  | ptr {id i off : Nat} {r : Row} {e cs' : List AV} (hid : id ∈ ids) (hr : T id = some r) (he : r.els[i]? = some e) (hl : (e.drop off).length = cs'.length) (hlt : off < e.length)
      (h : ∀ (j : Nat) (x y : AV), (e.drop off)[j]? = some x → cs'[j]? = some y → Deep T ids x y) : Deep T ids (.ptr id i off) (.rp cs')

/-- Rows that a callee has made, under new names. -/
def adopt (T : Table) (base : Nat) : List Row → Table
  | [] => T
  | r :: rs => (adopt T (base + 1) rs).set base (some r)
def tabAt (n : Nat) (rows : List Row) : Table := fun id => if n ≤ id then rows[id - n]? else none

/-- A contract: called with such arguments the function returns such a value, its rows new; all that was there stands. -/
def ACalls (P : Program) (f : FuncId) (args : List AV) (val : Nat → AV) (rows : Nat → List Row) : Prop :=
  (∃ fn, P.funcs[f]? = some fn ∧ (fn.name == "runtime.NumGoroutine") = false ∧ fn.body.isNone = false) ∧
  ∀ (n : Nat) (w : World) (L : Nat → Prop) (vs : Array Value), vs.size = args.length → (∀ (i : Nat) (x : AV), args[i]? = some x → VRel w L Map.empty (vs.getD i undef) x) →
    Calls P f vs w fun e w' => ∃ v L' μ', e = .returned v ∧ VRel w' L' μ' v (val n) ∧ TRel P w' L' μ' (tabAt n (rows n)) ∧ (∀ id q, μ' id = some q → n ≤ id ∧ id < n + 8) ∧
      w'.os = w.os ∧ w'.tape = w.tape ∧ w'.output = w.output ∧ w.heap.size ≤ w'.heap.size ∧ (∀ b, b < w.heap.size → w'.heap[b]? = w.heap[b]?) ∧ (∀ b, b < w.heap.size → (L' b ↔ L b)) ∧
      (∀ id r p, tabAt n (rows n) id = some r → μ' id = some (some p) → w.heap.size ≤ p.g)

/-- A contract that tells a result by a property alone. -/
def NCalls (P : Program) (f : FuncId) (args : List AV) (R : (Nat → AV) → (Nat → List Row) → Prop) : Prop :=
  (∃ fn, P.funcs[f]? = some fn ∧ (fn.name == "runtime.NumGoroutine") = false ∧ fn.body.isNone = false) ∧
  ∀ (n : Nat) (w : World) (L : Nat → Prop) (vs : Array Value), vs.size = args.length → (∀ (i : Nat) (x : AV), args[i]? = some x → VRel w L Map.empty (vs.getD i undef) x) →
    Calls P f vs w fun e w' => ∃ val rows, R val rows ∧ ∃ v L' μ', e = .returned v ∧ VRel w' L' μ' v (val n) ∧ TRel P w' L' μ' (tabAt n (rows n)) ∧ (∀ id q, μ' id = some q → n ≤ id ∧ id < n + 8) ∧
      w'.os = w.os ∧ w'.tape = w.tape ∧ w'.output = w.output ∧ w.heap.size ≤ w'.heap.size ∧ (∀ b, b < w.heap.size → w'.heap[b]? = w.heap[b]?) ∧ (∀ b, b < w.heap.size → (L' b ↔ L b)) ∧
      (∀ id r p, tabAt n (rows n) id = some r → μ' id = some (some p) → w.heap.size ≤ p.g)

/-! ### Names of rows -/
mutual
def ren (m : Nat → Nat) : AV → AV
  | .sl id off n => .sl (m id) off n
  | .ptr id i off => .ptr (m id) i off
  | .agg cs => .agg (rens m cs)
  | .tup cs => .tup (rens m cs)
  | x => x
def rens (m : Nat → Nat) : List AV → List AV
  | [] => []
  | x :: l => ren m x :: rens m l
end
mutual
def closedIn (ks : List Nat) : AV → Bool
  | .sl id _ _ => ks.contains id
  | .ptr id _ _ => ks.contains id
  | .agg cs => closedAll ks cs
  | .tup cs => closedAll ks cs
  | _ => true
def closedAll (ks : List Nat) : List AV → Bool
  | [] => true
  | x :: l => closedIn ks x && closedAll ks l
end
def renRow (m : Nat → Nat) (r : Row) : Row := ⟨r.elem, r.els.map (rens m)⟩
/-- The new name of a row that is handed on. -/
def newName (ks : List Nat) (n id : Nat) : Nat := n + ks.idxOf id
def renEls (m : Nat → Nat) (els : List (List AV)) : List (List AV) := els.map (rens m)
def closedEls (ks : List Nat) (els : List (List AV)) : Bool := els.all (closedAll ks)

/-- Rows by their numbers. -/
def tabO (R : List (Option Row)) : Table := fun id => (R[id]?).getD none

/-- What such a call has done to memory: the first rows lie where they lay. -/
structure PExt (w : World) (L : Nat → Prop) (μ : Map) (T : Table) (m : Nat) (w' : World) (L' : Nat → Prop) (μ' : Map) (T' : Table) : Prop where
  os : w'.os = w.os
  tape : w'.tape = w.tape
  output : w'.output = w.output
  size : w.heap.size ≤ w'.heap.size
  block : ∀ b, b < w.heap.size → (∀ id r p, T id = some r → μ id = some (some p) → p.g ≠ b) → w'.heap[b]? = w.heap[b]?
  L : ∀ b, b < w.heap.size → (L' b ↔ L b)
  map : ∀ id q, id < m → μ id = some q → μ' id = some q
  place : ∀ id r p, T' id = some r → μ' id = some (some p) → w.heap.size ≤ p.g ∨ ∃ id0 r0 p0, T id0 = some r0 ∧ μ id0 = some (some p0) ∧ p0.g = p.g

/-- A contract of a function that is handed addresses in rows of the caller's: the rows 'R0', numbered from 0 on, become 'R1'; the first 'm' lie where they lay. -/
def PCalls (P : Program) (f : FuncId) (m : Nat) (args : List AV) (R0 : List Row) (val : AV) (R1 : List (Option Row)) : Prop :=
  (∃ fn, P.funcs[f]? = some fn ∧ (fn.name == "runtime.NumGoroutine") = false ∧ fn.body.isNone = false) ∧
  ∀ (w : World) (L : Nat → Prop) (μ : Map) (vs : Array Value), vs.size = args.length → (∀ (i : Nat) (x : AV), args[i]? = some x → VRel w L μ (vs.getD i undef) x) → TRel P w L μ (tabO (R0.map some)) → (∀ id, R0.length ≤ id → μ id = none) →
    Calls P f vs w fun e w' => ∃ v L' μ', e = .returned v ∧ VRel w' L' μ' v val ∧ TRel P w' L' μ' (tabO R1) ∧ PExt w L μ (tabO (R0.map some)) m w' L' μ' (tabO R1) ∧ ∀ id, m + 8 ≤ id → μ' id = none

/-- From the callee's numbers to the caller's. -/
def backName (ms : List Nat) (m base i : Nat) : Nat := if i < m then ms.getD i 0 else base + (i - m)
/-- The caller's rows behind the call. -/
def merge (T : Table) (ms : List Nat) (m base : Nat) (R : List (Option Row)) : Table := fun id =>
  if ms.contains id = true then (if ms.idxOf id < m then (R[ms.idxOf id]?).getD none else none) else if base ≤ id ∧ id < base + 8 then (R[m + (id - base)]?).getD none else T id
def renRows (m : Nat → Nat) (R : List (Option Row)) : List (Option Row) := R.map (Option.map (renRow m))

def isCall : Op → Bool
  | .call { callee := .value _, .. } => true
  | _ => false
def callOf (st : St) : Op → Option (FuncId × List Operand)
  | .call { callee := .value f, args, .. } => match st.op f with
    | some (.flat (.func (.func k) a b)) => if a.size = 0 ∧ b.size = 0 then some (k, args.toList) else none
    | _ => none
  | _ => none
def evArgs (st : St) : List Operand → Option (List AV)
  | [] => some []
  | x :: l => match st.op x, evArgs st l with
    | some a, some r => some (a :: r)
    | _, _ => none

/-- The arguments as the callee sees them. -/
def Hands (T : Table) (ids : List Nat) (args args' : List AV) (val : AV) (rows : List Row) : Prop :=
  (args' = args ∧ args.all AV.noIds = true) ∨
  ((args.length = args'.length ∧ ∀ (i : Nat) (x y : AV), args[i]? = some x → args'[i]? = some y → Deep T ids x y) ∧ val.noRo = true ∧ ∀ r ∈ rows, ∀ e ∈ r.els, ∀ x ∈ e, x.noRo1 = true)

/-- What a call does: its value, the rows behind it, what it reads and writes. -/
def CallD (P : Program) (T : Table) (base : Nat) (f : FuncId) (args : List AV) (v : AV) (T' : Table) (rd wr : List Nat) : Prop :=
  (∃ args' ids val rows, Hands T ids args args' (val base) (rows base) ∧ ACalls P f args' val rows ∧ (rows base).length ≤ 8 ∧ v = val base ∧ T' = adopt T base (rows base) ∧ rd = ids ∧ wr = (List.range (rows base).length).map (base + ·)) ∨
  (∃ (m : Nat) (ms : List Nat) (rs R0 : List Row) (val : AV) (R1 : List (Option Row)), ms.Nodup ∧ m ≤ ms.length ∧ ms.map T = rs.map some ∧ closedAll ms args = true ∧ (∀ r ∈ rs, closedEls ms r.els = true) ∧ rs.map (renRow (newName ms 0)) = R0 ∧ PCalls P f m (rens (newName ms 0) args) R0 val R1 ∧
    v = ren (backName ms m base) val ∧ T' = merge T ms m base (renRows (backName ms m base) R1) ∧ rd = ms ∧ wr = ms ++ (List.range 8).map (base + ·))

/-- A call of a function whose result is told by a property: what follows must hold of each such result. -/
def CallN (P : Program) (T : Table) (base : Nat) (f : FuncId) (args : List AV) (K : AV → Table → Prop) : Prop :=
  ∃ args' ids R, NCalls P f args' R ∧ ((args' = args ∧ args.all AV.noIds = true) ∨
    ((args.length = args'.length ∧ ∀ (i : Nat) (x y : AV), args[i]? = some x → args'[i]? = some y → Deep T ids x y) ∧ ∀ val rows, R val rows → (val base).noRo = true ∧ ∀ r ∈ rows base, ∀ e ∈ r.els, ∀ x ∈ e, x.noRo1 = true)) ∧
    ∀ val rows, R val rows → (rows base).length ≤ 8 ∧ K (val base) (adopt T base (rows base))

/-! ### A region that draws its order -/
structure Foot where
  i : Nat
  rd : List Nat
  wr : List Nat

def idOf : AV → List Nat
  | .sl id _ _ | .ptr id _ _ => [id]
  | _ => []
def opIds (st : St) (x : Operand) : List Nat := match st.op x with
  | some a => idOf a
  | none => []
def readsOf (st : St) (o : Op) : List Nat := o.operands.toList.flatMap (opIds st)
def writesOf (st : St) (id : Nat) : Op → List Nat
  | .alloc _ | .box _ _ | .buildSlice _ _ _ | .makeSlice _ _ _ => [id]
  | .store _ x _ => opIds st x
  | .call { callee := .builtin .append, args, .. } => id :: args.toList.flatMap (opIds st)
  | .call { callee := .builtin .copy, args, .. } => args.toList.flatMap (opIds st)
  | _ => []

/-- One operation of a region; what is behind it is told with what it reads and writes. -/
def AStepF (P : Program) (ops : Array Oper) (base i : Nat) (st : St) (K : St → Foot → Prop) : Prop :=
  match ops[i]? with
  | none => False
  | some o =>
    match wantedA st ops o with
    | none => False
    | some false => K (st.put o.dst (.flat undef)) ⟨i, [], []⟩
    | some true =>
      if isCall o.op = true then
        ∃ f xs args v T' rd wr, callOf st o.op = some (f, xs) ∧ evArgs st xs = some args ∧ CallD P st.T (base + 8 * i) f args v T' rd wr ∧ K { st.put o.dst v with T := T' } ⟨i, rd, wr⟩
      else match evOp P st.T (base + 8 * i) st.op o.type o.op with
        | some (v, T') => K { st.put o.dst v with T := T' } ⟨i, readsOf st o.op, writesOf st (base + 8 * i) o.op⟩
        | none => False

def AStepR (P : Program) (ops : Array Oper) (base i : Nat) (st : St) (K : St → Prop) : Prop :=
  match ops[i]? with
  | none => False
  | some o => wantedA st ops o = some true ∧ isCall o.op = true ∧ ∃ f xs args, callOf st o.op = some (f, xs) ∧ evArgs st xs = some args ∧ CallN P st.T (base + 8 * i) f args fun v T' => K { st.put o.dst v with T := T' }

/-- A region in the text's order. -/
def AOps (P : Program) (ops : Array Oper) (base : Nat) : List Nat → St → (St → Prop) → Prop
  | [], st, Q => Q st
  | i :: l, st, Q => (AStepF P ops base i st fun st' _ => AOps P ops base l st' Q) ∨ (AStepR P ops base i st fun st' => AOps P ops base l st' Q)

/-- As 'AOps', and what each operation reads and writes. -/
def AOpsD (P : Program) (ops : Array Oper) (base : Nat) : List Nat → St → List Foot → (St → List Foot → Prop) → Prop
  | [], st, fs, Q => Q st fs
  | i :: l, st, fs, Q => AStepF P ops base i st fun st' f => AOpsD P ops base l st' (fs ++ [f]) Q

/-- What is behind what, by whatever chain of edges: a number for each operation, its bits those that are ahead. -/
def maskOf (acc : List Nat) : List Edge → Nat
  | [] => 0
  | e :: l => if Region.binds .any e = true then (2 ^ e.on ||| acc.getD e.on 0) ||| maskOf acc l else maskOf acc l
def masks : List Oper → List Nat → List Nat
  | [], acc => acc
  | o :: l, acc => masks l (acc ++ [maskOf acc o.after.toList])
def aheadB (m : List Nat) (i j : Nat) : Bool := (m.getD j 0).testBit i
/-- Neither writes what the other reads or writes. -/
def apartB (x y : Foot) : Bool := (x.wr.all fun k => !y.rd.contains k && !y.wr.contains k) && (y.wr.all fun k => !x.rd.contains k)
def indepB (ops : Array Oper) (fs : List Foot) : Bool :=
  let m := masks ops.toList []
  (List.range fs.length).all fun j => (List.range j).all fun i => aheadB m i j || match fs[i]?, fs[j]? with
    | some x, some y => apartB x y
    | _, _ => false
/-- The region's own shape: edges lead back; two that are not ordered don't name each other's places. -/
def namesApart (ops : Array Oper) : Bool :=
  let m := masks ops.toList []
  (List.range ops.size).all fun j => (List.range j).all fun i => aheadB m i j || match ops[i]?, ops[j]? with
    | some x, some y => x.apart ops y
    | _, _ => false
def backward (ops : Array Oper) : Bool := (List.range ops.size).all fun i => match ops[i]? with
  | some o => o.after.toList.all fun e => !Region.binds .any e || decide (e.on < i)
  | none => false
def drawOk (P : Program) (ops : Array Oper) : Bool := P.follows .mixedOrders && backward ops && namesApart ops

def ADraw (P : Program) (ops : Array Oper) (st : St) (Q : St → Prop) : Prop :=
  drawOk P ops = true ∧ AOpsD P ops st.nx (List.range ops.size) st [] fun st' fs => indepB ops fs = true ∧ Q st'

/-! ### Code -/
/-- A state that is cut: of the rows and the slots, those that are named; the rows have new names. -/
def cutVals (ks live : List Nat) (s : Nat → AV) : List Nat → List AV
  | [] => []
  | t :: l => (if live.contains t && closedIn ks (s t) then ren (newName ks 0) (s t) else .dead) :: cutVals ks live s l
def cutRows (ks : List Nat) (T : Table) : List Nat → List (Option Row)
  | [] => []
  | k :: l => (match T k with
    | some r => if closedEls ks r.els then some ⟨r.elem, renEls (newName ks 0) r.els⟩ else none
    | none => none) :: cutRows ks T l
def stOf (vals : List AV) (rows : List (Option Row)) (nx : Nat) : St := ⟨fun t => vals.getD t .dead, fun i => rows.getD i none, nx⟩
def cut (ks live : List Nat) (n : Nat) (st : St) : St := stOf (cutVals ks live st.s (List.range n)) (cutRows ks st.T ks) ks.length

/-! ### Rows that are written no more -/
mutual
/-- Does it lead to the row other than by a slice of what is there? -/
def badV (k n : Nat) : AV → Bool
  | .ptr id _ _ => id == k
  | .sl id off m => id == k && decide (n < off + m)
  | .agg cs => badVs k n cs
  | .tup cs => badVs k n cs
  | _ => false
def badVs (k n : Nat) : List AV → Bool
  | [] => false
  | x :: l => badV k n x || badVs k n l
end
mutual
def frzV (k : Nat) (els : List (List AV)) : AV → AV
  | .sl id off n => if id = k then .ro ((els.drop off).take n) else .sl id off n
  | .agg cs => .agg (frzVs k els cs)
  | .tup cs => .tup (frzVs k els cs)
  | x => x
def frzVs (k : Nat) (els : List (List AV)) : List AV → List AV
  | [] => []
  | x :: l => frzV k els x :: frzVs k els l
end
def frzRow (k : Nat) (els : List (List AV)) (r : Row) : Option Row := if r.els.any (badVs k els.length) then none else some ⟨r.elem, r.els.map (frzVs k els)⟩
def frzT (k : Nat) (els : List (List AV)) (T : Table) : Table := fun i => if i = k then none else (T i).bind (frzRow k els)
def frzS (k : Nat) (els : List (List AV)) (s : Nat → AV) : Nat → AV := fun t => if badV k els.length (s t) then .dead else frzV k els (s t)
def frz1 (k : Nat) (st : St) : St := match st.T k with
  | some r => if closedEls [] r.els then ⟨frzS k r.els st.s, frzT k r.els st.T, st.nx⟩ else st
  | none => st
/-- Rows that are written no more. -/
def frz (fz : List Nat) (st : St) : St := fz.foldl (fun st k => frz1 k st) st

/-! ### Slices that are nil, as empty rows of one's own -/
inductive NilAt where
  | slot (t : Nat) (e : TypeId)
  | cell (k i j : Nat) (e : TypeId)
  | trim (k n : Nat)
def nilSlot (t : Nat) (e : TypeId) (st : St) : St := match st.s t with
  | .flat (.slice none 0 0) => ⟨upd st.s t (.sl st.nx 0 0), st.T.set st.nx (some ⟨e, []⟩), st.nx + 1⟩
  | _ => st
def nilCell (k i j : Nat) (e : TypeId) (st : St) : St := match st.T k with
  | some r => (match r.els[i]? with
    | some c => (match c[j]? with
      | some (.flat (.slice none 0 0)) => ⟨st.s, (st.T.set k (some ⟨r.elem, r.els.set i (c.set j (.sl st.nx 0 0))⟩)).set st.nx (some ⟨e, []⟩), st.nx + 1⟩
      | _ => st)
    | none => st)
  | none => st
def nil1 (x : NilAt) (st : St) : St := match x with
  | .slot t e => nilSlot t e st
  | .cell k i j e => nilCell k i j e st
  | .trim k n => (match st.T k with
    | some r => { st with T := st.T.set k (some ⟨r.elem, r.els.take n⟩) }
    | none => st)
def nils : List NilAt → St → St
  | [], st => st
  | x :: l, st => nils l (nil1 x st)

/-- A cut keeps the rows that were handed in where they are. -/
def cutOk (pm : Nat) (fz ks : List Nat) : Prop := ks.Nodup ∧ ks.take pm = List.range pm ∧ (pm = 0 ∨ fz = [])

def ALoop (pm : Nat) (F : St → (Exit → St → Prop) → Prop) (Q : Exit → St → Prop) : Nat → St → Prop
  | 0, _ => False
  | n + 1, st => F st fun e st' => match e with
    | .normal => ∃ nz fz ks live k, cutOk pm fz ks ∧ ALoop pm F Q n (cut ks live k (frz fz (nils nz st')))
    | e => Q e st'

def AW (P : Program) (pm : Nat) : Code → St → (Exit → St → Prop) → Prop
  | .skip, st, Q => Q .normal st
  | .region _ ops draw, st, Q => if draw = true then ADraw P ops st fun st' => Q .normal { st' with nx := st.nx + 8 * ops.size }
      else AOps P ops st.nx (List.range ops.size) st fun st' => Q .normal { st' with nx := st.nx + 8 * ops.size }
  | .seq a b, st, Q => AW P pm a st fun e st' => match e with
    | .normal => AW P pm b st' Q
    | e => Q e st'
  | .cond c a b, st, Q => match st.op c with
    | some (.flat (.bool t)) => if t = true then AW P pm a st Q else AW P pm b st Q
    | _ => False
  | .block id c, st, Q => AW P pm c st fun e st' => match e with
    | .exit i => if i = id then Q .normal st' else Q (.exit i) st'
    | e => Q e st'
  | .loop c, st, Q => ∃ nz fz ks live k n, cutOk pm fz ks ∧ ALoop pm (AW P pm c) Q n (cut ks live k (frz fz (nils nz st)))
  | .exit id, st, Q => Q (.exit id) st
  | .ret, st, Q => Q .ret st
  | _, _, _ => False

def dstsOk (n : Nat) : Code → Bool
  | .region _ ops _ => ops.all fun o => match o.dst with
    | some d => decide (d < n)
    | none => true
  | .seq a b | .cond _ a b => dstsOk n a && dstsOk n b
  | .block _ c | .loop c => dstsOk n c
  | _ => true
end Go.Proofs.Ytnceadbfgpiaaaa.G
