/- The abstract machine's values and how they lie in memory: what a value of the machine is told as, and that this stands where memory only grows. Plain theorems over any program. -/
import Derived.Laws.OwnMore
import Derived.Calls
import Derived.Below
namespace Go.Proofs.Ytnceadbfgpiaaaa.G
set_option linter.unusedVariables false
set_option linter.unusedSimpArgs false
open Go

/-- What a value is told as. 'ro': a slice of what stays as it is, element by element, each by its cells; 'rp': an address in such memory: the cells from there on;
    'sl', 'ptr': a slice, an address into a row of one's own ('id' in the table). -/
inductive AV where
  | flat (v : Value)
  | agg (cs : List AV)
  | tup (vs : List AV)
  | ro (els : List (List AV))
  | rp (cs : List AV)
  | sl (id off n : Nat)
  | ptr (id i off : Nat)
  deriving Inhabited

def AV.cells : AV → List AV
  | .agg l => l
  | x => [x]
def notAgg : Value → Bool
  | .agg _ => false
  | _ => true
/-- A constant, a zero value. -/
def AV.ofV : Value → AV
  | .agg cs => .agg (cs.toList.map .flat)
  | v => .flat v
/-- Told of one cell. -/
def AV.one : AV → Bool
  | .flat v => v.oneCell'
  | .agg _ | .tup _ => false
  | _ => true

/-- Where a row of one's own lies: its block, its first cell, how many elements there is room for from there on, how many cells an element has. -/
structure Place where
  g : Nat
  b : Nat
  cap : Nat
  sz : Nat

/-- A row of one's own: its element type, its elements by their cells. -/
structure Row where
  elem : TypeId
  els : List (List AV)

abbrev Table := Nat → Option Row
abbrev Map := Nat → Option (Option Place)

def Table.set (T : Table) (id : Nat) (r : Option Row) : Table := fun i => if i = id then r else T i
def Map.set (μ : Map) (id : Nat) (p : Option Place) : Map := fun i => if i = id then some p else μ i

def slOk : Option Place → Nat → Nat → Value → Prop
  | none, off, n, v => off = 0 ∧ n = 0 ∧ v = .slice none 0 0
  | some p, off, n, v => off + n ≤ p.cap ∧ ∃ A, v = .slice A n (p.cap - off) ∧ (off < p.cap → A = some ⟨p.g, p.b + off * p.sz, none⟩)

abbrev Map.empty : Map := fun _ => none

/-- A value is told as this. 'L': the blocks that may still change. What stays as it is leads to nothing that is one's own. -/
inductive VRel (w : World) (L : Nat → Prop) : Map → Value → AV → Prop
  | flat {μ : Map} (v : Value) (hv : notAgg v = true) : VRel w L μ v (.flat v)
  | agg {μ : Map} {cs : Array Value} {l : List AV} (hl : cs.size = l.length) (h : ∀ (i : Nat) (x : AV), l[i]? = some x → VRel w L μ (cs.getD i undef) x) : VRel w L μ (.agg cs) (.agg l)
  | tup {μ : Map} {cs : Array Value} {l : List AV} (hl : cs.size = l.length) (h : ∀ (i : Nat) (x : AV), l[i]? = some x → VRel w L μ (cs.getD i undef) x) : VRel w L μ (.tuple cs) (.tup l)
  | ro {μ : Map} {A : Option Addr} {n c : Nat} {els : List (List AV)} (sz : Nat) (U : Nat → Nat → Value) (hn : n = els.length) (hc : n ≤ c) (hs : ∀ e ∈ els, e.length = sz)
      (hA : 0 < n → ∃ a, A = some a ∧ ¬ L a.block ∧ a.block < w.heap.size ∧ ∀ i j, i < n → j < sz → w.cell? (a.add (i * sz + j)) = some (U i j))
      (h1 : ∀ i j, i < n → j < sz → (U i j).oneCell' = true)
      (h : ∀ (i : Nat) (e : List AV) (j : Nat) (x : AV), els[i]? = some e → e[j]? = some x → VRel w L Map.empty (U i j) x) : VRel w L μ (.slice A n c) (.ro els)
  | rp {μ : Map} {a : Addr} {cs : List AV} (U : Nat → Value) (hL : ¬ L a.block) (hb : a.block < w.heap.size) (hc : ∀ j, j < cs.length → w.cell? (a.add j) = some (U j))
      (h1 : ∀ j, j < cs.length → (U j).oneCell' = true)
      (h : ∀ (j : Nat) (x : AV), cs[j]? = some x → VRel w L Map.empty (U j) x) : VRel w L μ (.pointer (some a)) (.rp cs)
  | sl {μ : Map} {id off n : Nat} {v : Value} {q : Option Place} (hq : μ id = some q) (h : slOk q off n v) : VRel w L μ v (.sl id off n)
  | ptr {μ : Map} {id i off : Nat} {p : Place} (hq : μ id = some (some p)) : VRel w L μ (.pointer (some ⟨p.g, p.b + i * p.sz + off, none⟩)) (.ptr id i off)

/-- What is told stands where memory only grows, and where what may change has changed alone. -/
theorem VRel.mono {w w' : World} {L L' : Nat → Prop} {μ μ' : Map} (hb : ∀ b, b < w.heap.size → ¬ L b → w'.heap[b]? = w.heap[b]?) (hs : w.heap.size ≤ w'.heap.size)
    (hL : ∀ b, b < w.heap.size → L' b → L b) (hμ : ∀ id q, μ id = some q → μ' id = some q) {v : Value} {x : AV} (h : VRel w L μ v x) : VRel w' L' μ' v x := by
  induction h generalizing μ' with
  | flat v hv => exact .flat v hv
  | agg hl _ ih => exact .agg hl fun i x hx => ih i x hx hμ
  | tup hl _ ih => exact .tup hl fun i x hx => ih i x hx hμ
  | ro sz U hn hc hsz hA h1 _ ih =>
    refine .ro sz U hn hc hsz (fun hp => ?_) h1 fun i e j x he hx => ih i e j x he hx (fun _ _ h => h)
    obtain ⟨a, rfl, hLa, hlt, hcell⟩ := hA hp
    refine ⟨a, rfl, fun h => hLa (hL _ hlt h), Nat.lt_of_lt_of_le hlt hs, fun i j hi hj => ?_⟩
    rw [← hcell i j hi hj]
    apply World.cell?_of_block
    have e : (a.add (i * sz + j)).block = a.block := by unfold Addr.add; split <;> rfl
    rw [e]
    exact hb _ hlt hLa
  | @rp _ a cs U hLa hlt hcell h1 _ ih =>
    refine .rp U (fun h => hLa (hL _ hlt h)) (Nat.lt_of_lt_of_le hlt hs) (fun j hj => ?_) h1 fun j x hx => ih j x hx (fun _ _ h => h)
    rw [← hcell j hj]
    apply World.cell?_of_block
    have e : (a.add j).block = a.block := by unfold Addr.add; split <;> rfl
    rw [e]
    exact hb _ hlt hLa
  | sl hq h => exact .sl (hμ _ _ hq) h
  | ptr hq => exact .ptr (hμ _ _ hq)

theorem VRel.up {w : World} {L : Nat → Prop} {μ : Map} {v : Value} {x : AV} (h : VRel w L Map.empty v x) : VRel w L μ v x :=
  h.mono (fun _ _ _ => rfl) (Nat.le_refl _) (fun _ _ h => h) (fun _ _ h => by cases h)

theorem VRel.one {w : World} {L : Nat → Prop} {μ : Map} {v : Value} {x : AV} (h : VRel w L μ v x) (hx : x.one = true) : v.oneCell' = true := by
  cases h with
  | flat v _ => exact hx
  | agg => cases hx
  | tup => cases hx
  | ro => rfl
  | rp => rfl
  | @sl _ id off n v q hq h =>
    cases q with
    | none => obtain ⟨_, _, rfl⟩ := h; rfl
    | some p => obtain ⟨_, A, rfl, _⟩ := h; rfl
  | ptr => rfl

/-- Values by values. -/
def Rels (w : World) (L : Nat → Prop) (μ : Map) (us : List Value) (xs : List AV) : Prop :=
  us.length = xs.length ∧ ∀ (j : Nat) (x : AV), xs[j]? = some x → ∃ u, us[j]? = some u ∧ VRel w L μ u x

theorem VRel.cells {w : World} {L : Nat → Prop} {μ : Map} {v : Value} {x : AV} (h : VRel w L μ v x) : Rels w L μ v.cells.toList x.cells := by
  have one : ∀ {v : Value} {x : AV}, VRel w L μ v x → Rels w L μ [v] [x] := fun {v x} h => ⟨rfl, fun j y hj => by
    cases j with
    | zero => simp at hj; subst hj; exact ⟨v, rfl, h⟩
    | succ j => simp at hj⟩
  cases h with
  | flat v hv => cases v <;> first | exact one (.flat _ hv) | cases hv
  | @agg _ cs l hl h =>
    refine ⟨by simpa [Value.cells, AV.cells] using hl, fun j x hj => ⟨cs.getD j undef, ?_, h j x hj⟩⟩
    have hlt : j < cs.size := by
      rw [hl]; exact (List.getElem?_eq_some_iff.1 hj).1
    simp [Value.cells, Array.getD, hlt]
  | tup hl h => exact one (.tup hl h)
  | ro sz U hn hc hs hA h1 h => exact one (.ro sz U hn hc hs hA h1 h)
  | rp U hL hb hc h1 h => exact one (.rp U hL hb hc h1 h)
  | @sl _ id off n v q hq h =>
    cases q with
    | none => obtain ⟨h0, h1, rfl⟩ := h; exact one (.sl hq ⟨h0, h1, rfl⟩)
    | some p => obtain ⟨h0, A, rfl, h1⟩ := h; exact one (.sl hq ⟨h0, A, rfl, h1⟩)
  | ptr hq => exact one (.ptr hq)

/-- A row of one's own, as it lies in its block. -/
structure RowAt (P : Program) (w : World) (L : Nat → Prop) (μ : Map) (p : Place) (r : Row) : Prop where
  cur : ∃ cur, w.heap[p.g]? = some (.cells cur r.elem (0, 0)) ∧ cur.size = p.b + p.cap * p.sz ∧
    ∀ i e j x, r.els[i]? = some e → e[j]? = some x → ∃ u, cur[p.b + i * p.sz + j]? = some u ∧ u.oneCell' = true ∧ VRel w L μ u x
  len : r.els.length ≤ p.cap
  sz : ∀ e ∈ r.els, e.length = p.sz
  szT : p.sz = P.cellsOf r.elem
  cap : p.cap ≤ maxLen
  live : L p.g

structure TRel (P : Program) (w : World) (L : Nat → Prop) (μ : Map) (T : Table) : Prop where
  row : ∀ id r, T id = some r → ∃ q, μ id = some q ∧ (∀ p, q = some p → RowAt P w L μ p r) ∧ (q = none → r.els = [])
  apart : ∀ id id' r r' p p', T id = some r → T id' = some r' → μ id = some (some p) → μ id' = some (some p') → id ≠ id' → p.g ≠ p'.g

theorem RowAt.mono {P : Program} {w w' : World} {L L' : Nat → Prop} {μ μ' : Map} {p : Place} {r : Row} (hb : ∀ b, b < w.heap.size → ¬ L b → w'.heap[b]? = w.heap[b]?) (hs : w.heap.size ≤ w'.heap.size)
    (hL : ∀ b, b < w.heap.size → L' b → L b) (hμ : ∀ id q, μ id = some q → μ' id = some q) (hp : w'.heap[p.g]? = w.heap[p.g]?) (hLp : L' p.g) (h : RowAt P w L μ p r) : RowAt P w' L' μ' p r := by
  obtain ⟨cur, hg, hsz, hc⟩ := h.cur
  refine ⟨⟨cur, hp.trans hg, hsz, fun i e j x he hx => ?_⟩, h.len, h.sz, h.szT, h.cap, hLp⟩
  obtain ⟨u, hu, h1, hv⟩ := hc i e j x he hx
  exact ⟨u, hu, h1, hv.mono hb hs hL hμ⟩

/-- What a step has done to memory: blocks that are no row's stand; new rows lie in new blocks, or where an old one lay. -/
structure Ext (w : World) (L : Nat → Prop) (μ : Map) (T : Table) (w' : World) (L' : Nat → Prop) (μ' : Map) (T' : Table) : Prop where
  os : w'.os = w.os
  tape : w'.tape = w.tape
  output : w'.output = w.output
  size : w.heap.size ≤ w'.heap.size
  block : ∀ b, b < w.heap.size → (∀ id r p, T id = some r → μ id = some (some p) → p.g ≠ b) → w'.heap[b]? = w.heap[b]?
  L : ∀ b, b < w.heap.size → (L' b ↔ L b)
  map : ∀ id q, μ id = some q → μ' id = some q
  place : ∀ id r p, T' id = some r → μ' id = some (some p) → w.heap.size ≤ p.g ∨ ∃ id0 r0 p0, T id0 = some r0 ∧ μ id0 = some (some p0) ∧ p0.g = p.g

theorem Ext.refl (w : World) (L : Nat → Prop) (μ : Map) (T : Table) : Ext w L μ T w L μ T :=
  ⟨rfl, rfl, rfl, Nat.le_refl _, fun _ _ _ => rfl, fun _ _ => Iff.rfl, fun _ _ h => h, fun id r p h hp => .inr ⟨id, r, p, h, hp, rfl⟩⟩

theorem Ext.unlive {P : Program} {w w' : World} {L L' : Nat → Prop} {μ μ' : Map} {T T' : Table} (h : Ext w L μ T w' L' μ' T') (hT : TRel P w L μ T) : ∀ b, b < w.heap.size → ¬ L b → w'.heap[b]? = w.heap[b]? := by
  intro b hb hL
  refine h.block b hb fun id r p hr hp e => ?_
  obtain ⟨q, hq, hrow, _⟩ := hT.row id r hr
  rw [hp] at hq
  obtain rfl := Option.some.inj hq
  subst e
  exact hL (hrow p rfl).live

theorem Ext.vrel {P : Program} {w w' : World} {L L' : Nat → Prop} {μ μ' : Map} {T T' : Table} (h : Ext w L μ T w' L' μ' T') (hT : TRel P w L μ T) {v : Value} {x : AV} (hv : VRel w L μ v x) : VRel w' L' μ' v x :=
  hv.mono (h.unlive hT) h.size (fun b hb => (h.L b hb).1) h.map

theorem Ext.trans {w w' w'' : World} {L L' L'' : Nat → Prop} {μ μ' μ'' : Map} {T T' T'' : Table} (h : Ext w L μ T w' L' μ' T') (k : Ext w' L' μ' T' w'' L'' μ'' T'') : Ext w L μ T w'' L'' μ'' T'' := by
  refine ⟨k.os.trans h.os, k.tape.trans h.tape, k.output.trans h.output, Nat.le_trans h.size k.size, fun b hb hn => ?_, fun b hb => (k.L b (Nat.lt_of_lt_of_le hb h.size)).trans (h.L b hb), fun id q hq => k.map _ _ (h.map _ _ hq), fun id r p hr hp => ?_⟩
  · refine (k.block b (Nat.lt_of_lt_of_le hb h.size) fun id r p hr hp e => ?_).trans (h.block b hb hn)
    rcases h.place id r p hr hp with hge | ⟨id0, r0, p0, h0, h1, h2⟩
    · omega
    · exact hn id0 r0 p0 h0 h1 (h2.trans e)
  · rcases k.place id r p hr hp with hge | ⟨id0, r0, p0, h0, h1, h2⟩
    · exact .inl (Nat.le_trans h.size hge)
    · rcases h.place id0 r0 p0 h0 h1 with hge | ⟨i1, r1, p1, h3, h4, h5⟩
      · exact .inl (by omega)
      · exact .inr ⟨i1, r1, p1, h3, h4, h5.trans h2⟩

/-- A row of another block than one that was written stands, too. -/
theorem TRel.cell {P : Program} {w : World} {L : Nat → Prop} {μ : Map} {T : Table} (h : TRel P w L μ T) {id : Nat} {r : Row} {p : Place} (hr : T id = some r) (hp : μ id = some (some p)) : RowAt P w L μ p r := by
  obtain ⟨q, hq, hrow, _⟩ := h.row id r hr
  rw [hp] at hq
  exact hrow p (Option.some.inj hq).symm

end Go.Proofs.Ytnceadbfgpiaaaa.G
