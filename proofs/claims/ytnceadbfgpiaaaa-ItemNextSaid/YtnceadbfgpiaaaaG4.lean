/- The abstract machine's operations, and that the model's own operations do just this to memory. Plain theorems over any program. -/
import Derived.Test.YtnceadbfgpiaaaaG3
namespace Go.Proofs.Ytnceadbfgpiaaaa.G
set_option linter.unusedVariables false
set_option linter.unusedSimpArgs false
open Go
variable {P : Program} {w w' : World} {L L' : Nat → Prop} {μ μ' : Map} {T T' : Table}

def tinfo (P : Program) (t : TypeId) : Option (Option Value × Nat × Nat) := (P.info? t).map fun i => (i.zero, i.size, i.bytes)
theorem tinfo_some {t : TypeId} {z : Option Value} {sz by_ : Nat} (h : tinfo P t = some (z, sz, by_)) : ∃ i, P.info? t = some i ∧ i.zero = z ∧ i.size = sz ∧ i.bytes = by_ ∧ P.cellsOf t = sz := by
  unfold tinfo at h
  obtain ⟨i, hi, he⟩ := Option.map_eq_some_iff.1 h
  simp only [Prod.mk.injEq] at he
  exact ⟨i, hi, he.1, he.2.1, he.2.2, by simp [Program.cellsOf, hi, he.2.1]⟩

/-- What an operation comes to. -/
def Gives (P : Program) (w : World) (L : Nat → Prop) (μ : Map) (T : Table) (id : Nat) (m : Sem Value) (y : AV) (T' : Table) : Prop :=
  ∃ v w' L' μ', m.run P w = .ok v w' ∧ Ext w L μ T w' L' μ' T' ∧ TRel P w' L' μ' T' ∧ VRel w' L' μ' v y ∧ ∀ i, i ≠ id → μ' i = μ i

theorem Gives.same (hT : TRel P w L μ T) {id : Nat} {m : Sem Value} {v : Value} {y : AV} (hr : m.run P w = .ok v w) (hv : VRel w L μ v y) : Gives P w L μ T id m y T :=
  ⟨v, w, L, μ, hr, Ext.refl _ _ _ _, hT, hv, fun _ _ => rfl⟩

theorem map_set_ne {id i : Nat} {q : Option Place} (h : i ≠ id) : (μ.set id q) i = μ i := by simp [Map.set, h]
theorem map_set_self {id : Nat} {q : Option Place} : (μ.set id q) id = some q := by simp [Map.set]

theorem add_block (a : Addr) (n : Nat) : (a.add n).block = a.block := by unfold Addr.add; split <;> rfl
theorem add_add (a : Addr) (n m : Nat) : (a.add n).add m = a.add (n + m) := by
  unfold Addr.add
  by_cases h1 : n = 0
  · subst h1; simp
  · by_cases h2 : m = 0
    · subst h2; simp
    · rw [if_neg h1, if_neg h2, if_neg (by omega)]; simp; omega
theorem add_lit (g o n : Nat) : (⟨g, o, none⟩ : Addr).add n = ⟨g, o + n, none⟩ := by unfold Addr.add; split <;> simp_all

/-! ### A variable, a struct's value -/
def evBox (P : Program) (T : Table) (id : Nat) (e : TypeId) (cs : List AV) : Option (AV × Table) :=
  match tinfo P e with
  | some (_, sz, _) => if cs.length = sz ∧ cs.all AV.one = true then some (.ptr id 0 0, T.set id (some ⟨e, [cs]⟩)) else none
  | none => none

theorem rels_cur {us : List Value} {xs : List AV} (h : Rels w L μ us xs) (h1 : xs.all AV.one = true) {sz : Nat} (hs : xs.length = sz) : CurRel w L μ us.toArray 0 sz [xs] := by
  intro i e j x he hx
  cases i with
  | succ i => simp at he
  | zero =>
    simp at he; subst he
    obtain ⟨u, hu, hv⟩ := h.2 j x hx
    exact ⟨u, by simpa using hu, hv.one (List.all_eq_true.1 h1 x (List.mem_of_getElem? hx)), hv⟩

theorem new_gives {w1 : World} (hT : TRel P w L μ T) {id : Nat} (hid : μ id = none) (hh : w1.heap = w.heap) (ho : w1.os = w.os) (ht : w1.tape = w.tape) (hu : w1.output = w.output) {m : Sem Value} {v : Value}
    (cur : Array Value) (e : TypeId) (cap sz : Nat) (els : List (List AV)) (hsz : cur.size = cap * sz) (hc : CurRel w L μ cur 0 sz els) (hlen : els.length ≤ cap) (hs : ∀ e ∈ els, e.length = sz)
    (hszT : sz = P.cellsOf e) (hcap : cap ≤ maxLen) (hr : m.run P w = .ok v (w1.alloc (.cells cur e))) {y : AV} (T' : Table) (hT' : T' = T.set id (some ⟨e, els⟩))
    (hv : VRel (w1.alloc (.cells cur e)) (newL w L) (μ.set id (some ⟨w.heap.size, 0, cap, sz⟩)) v y) : Gives P w L μ T id m y T' := by
  obtain ⟨h1, h2⟩ := alloc_core hT hid hh ho ht hu cur e cap sz els hsz hc hlen hs hszT hcap
  subst hT'
  exact ⟨v, _, _, _, hr, h1, h2, hv, fun i hi => map_set_ne hi⟩

theorem evBox_gives (hT : TRel P w L μ T) {id : Nat} (hid : μ id = none) {e : TypeId} {v : Value} {xs : List AV} (hv : Rels w L μ v.cells.toList xs) {m : Sem Value}
    (hr : m.run P w = .ok (.pointer (some ⟨w.heap.size, 0, none⟩)) (w.alloc (.cells v.cells e))) {y : AV} (h : evBox P T id e xs = some (y, T')) : Gives P w L μ T id m y T' := by
  unfold evBox at h
  split at h
  · rename_i z sz b ht
    obtain ⟨i, hi, _, hsz, _, hcs⟩ := tinfo_some ht
    split at h
    · rename_i hc
      obtain ⟨hl, h1⟩ := hc
      simp only [Option.some.injEq, Prod.mk.injEq] at h
      obtain ⟨rfl, rfl⟩ := h
      refine new_gives hT hid rfl rfl rfl rfl v.cells e 1 sz [xs] ?_ ?_ (by simp) (by simpa using hl) hcs.symm (by simp [maxLen]) hr _ rfl ?_
      · have := hv.1; simp at this; omega
      · have := rels_cur hv h1 hl; simpa using this
      · have := VRel.ptr (w := w.alloc (.cells v.cells e)) (L := newL w L) (i := 0) (off := 0) (map_set_self (μ := μ) (id := id) (q := some ⟨w.heap.size, 0, 1, sz⟩))
        simpa using this
    · cases h
  · cases h

/-! ### Structs by value -/
def fillA (place : Nat → Option (Nat × Nat)) : List AV → List (Nat × AV) → Option (List AV)
  | cells, [] => some cells
  | cells, (i, v) :: rest =>
    match place i with
    | none => none
    | some (off, size) => if v.cells.length = size ∧ off + size ≤ cells.length then fillA place (spl cells off v.cells) rest else none

theorem foldl_set (us : List Value) : ∀ (off k : Nat) (cs : Array Value), off + k + us.length ≤ cs.size →
    ((us.zipIdx k).foldl (fun cs (c, j) => cs.setIfInBounds (off + j) c) cs).toList = cs.toList.take (off + k) ++ us ++ cs.toList.drop (off + k + us.length) := by
  induction us with
  | nil => intro off k cs h; simp
  | cons u us ih =>
    intro off k cs h
    simp only [List.zipIdx_cons, List.foldl_cons]
    rw [show ((us.zipIdx (k + 1)).foldl (fun cs (c, j) => cs.setIfInBounds (off + j) c) (cs.setIfInBounds (off + k) u)).toList = _ from ih off (k + 1) _ (by simp at h ⊢; omega)]
    apply List.ext_getElem?
    intro i
    have hl : off + k + (u :: us).length ≤ cs.toList.length := by simpa using h
    have hl2 : off + (k + 1) + us.length ≤ (cs.setIfInBounds (off + k) u).toList.length := by simp at h ⊢; omega
    rw [get_seg _ _ _ hl, get_seg _ _ _ hl2]
    simp only [Array.toList_setIfInBounds, List.length_cons]
    by_cases h1 : i < off + k
    · rw [if_pos h1, if_pos (by omega), List.getElem?_set_ne (by omega)]
    · rw [if_neg h1]
      by_cases h2 : i = off + k
      · subst h2
        rw [if_pos (by omega), if_pos (by omega), List.getElem?_set_self (by simp at hl ⊢; omega)]
        simp
      · rw [if_neg (by omega)]
        by_cases h3 : i < off + (k + 1) + us.length
        · rw [if_pos h3, if_pos (by omega)]
          rw [show i - (off + k) = (i - (off + (k + 1))) + 1 by omega, List.getElem?_cons_succ]
        · rw [if_neg h3, if_neg (by omega), List.getElem?_set_ne (by omega)]

theorem Rels.spl {us : List Value} {xs : List AV} {vs : List Value} {ys : List AV} (h : Rels w L μ us xs) (hv : Rels w L μ vs ys) {o : Nat} (ho : o + ys.length ≤ xs.length) :
    Rels w L μ (us.take o ++ vs ++ us.drop (o + vs.length)) (spl xs o ys) := by
  have h1 := h.1
  have h2 := hv.1
  refine ⟨by rw [length_spl ho]; simp; omega, fun j x hx => ?_⟩
  unfold G.spl at hx
  rw [get_seg _ _ _ (by omega)] at hx
  rw [get_seg _ _ _ (by omega), h2]
  by_cases q1 : j < o
  · rw [if_pos q1] at hx ⊢
    exact h.2 j x hx
  · rw [if_neg q1] at hx ⊢
    by_cases q2 : j < o + ys.length
    · rw [if_pos q2] at hx ⊢
      exact hv.2 (j - o) x hx
    · rw [if_neg q2] at hx ⊢
      exact h.2 j x hx

theorem fillA_sound {place : Nat → Option (Nat × Nat)} : ∀ (parts : List (Nat × AV)) (vs : List (Nat × Value)) (cs : Array Value) (xs ys : List AV), Rels w L μ cs.toList xs →
    (vs.map (·.1) = parts.map (·.1)) → (∀ (k : Nat) (v : Nat × Value) (x : Nat × AV), vs[k]? = some v → parts[k]? = some x → VRel w L μ v.2 x.2) → fillA place xs parts = some ys →
    ∃ cs', Instr.fill place cs vs = some cs' ∧ Rels w L μ cs'.toList ys := by
  intro parts
  induction parts with
  | nil =>
    intro vs cs xs ys hr hm hv h
    have : vs = [] := by cases vs <;> simp_all
    subst this
    simp only [fillA, Option.some.injEq] at h
    subst h
    exact ⟨cs, rfl, hr⟩
  | cons p parts ih =>
    intro vs cs xs ys hr hm hv h
    obtain ⟨i, x⟩ := p
    cases vs with
    | nil => simp at hm
    | cons q vs =>
      obtain ⟨i', v⟩ := q
      simp only [List.map_cons, List.cons.injEq] at hm
      obtain ⟨rfl, hm⟩ := hm
      simp only [fillA] at h
      split at h
      · cases h
      · rename_i off size hp
        split at h
        · rename_i hc
          obtain ⟨hsz, hfit⟩ := hc
          have hvx : VRel w L μ v x := hv 0 (i', v) (i', x) rfl rfl
          have hcv := hvx.cells
          have hl1 := hr.1
          have hl2 := hcv.1
          have hns : Rels w L μ ((v.cells.zipIdx.foldl (fun cs (c, j) => cs.setIfInBounds (off + j) c) cs)).toList (spl xs off x.cells) := by
            have e : (v.cells.zipIdx.foldl (fun cs (c, j) => cs.setIfInBounds (off + j) c) cs).toList = cs.toList.take off ++ v.cells.toList ++ cs.toList.drop (off + v.cells.toList.length) := by
              have := foldl_set v.cells.toList off 0 cs (by simp at hl1 hl2 ⊢; omega)
              rw [← Array.foldl_toList]
              simpa using this
            rw [e]
            exact hr.spl hcv (by omega)
          obtain ⟨cs', h1, h2⟩ := ih vs _ _ _ hns hm (fun k v x h1 h2 => hv (k + 1) v x h1 h2) h
          refine ⟨cs', ?_, h2⟩
          simp only [Instr.fill, hp]
          rw [if_neg (by simp at hl1 hl2 ⊢; omega)]
          exact h1
        · cases h

def zeroAV (z : Value) : List AV := z.cells.toList.map .flat
theorem zero_rels (z : Value) (h : z.cells.toList.all notAgg = true) : Rels w L μ z.cells.toList (zeroAV z) := by
  refine ⟨by simp [zeroAV], fun j x hx => ?_⟩
  unfold zeroAV at hx
  rw [List.getElem?_map] at hx
  obtain ⟨u, hu, rfl⟩ := Option.map_eq_some_iff.1 hx
  exact ⟨u, hu, .flat u (List.all_eq_true.1 h u (List.mem_of_getElem? hu))⟩

/-- Where the parts of a struct (or an array) lie: offset and cells. -/
def placesOf (P : Program) (t : TypeId) : Option (Nat → Option (Nat × Nat)) :=
  match P.underlying t with
  | some (.struct fs) => (fs.mapM fun f => (tinfo P f.type).map fun x => (f.offset, x.2.1)).map fun (l : Array (Nat × Nat)) => fun i => l[i]?
  | some (.array _ e) => (tinfo P e).map fun x => fun i => some (i * x.2.1, x.2.1)
  | _ => none

def evBuild (P : Program) (t : TypeId) (parts : List (Nat × AV)) : Option AV :=
  match tinfo P t, placesOf P t with
  | some (some z, _, _), some pl => if z.cells.toList.all notAgg = true then (fillA pl (zeroAV z) parts).map .agg else none
  | _, _ => none

theorem run_mapM_array {α β : Type} (f : α → Sem β) (g : α → Option β) (h : ∀ a b, g a = some b → (f a).run P w = .ok b w) : ∀ (l : List α) (bs : List β), l.mapM g = some bs → (l.mapM f).run P w = .ok bs w := by
  intro l
  induction l with
  | nil => intro bs hb; simp at hb; subst hb; simp [Sem.run_pure]
  | cons a l ih =>
    intro bs hb
    simp only [List.mapM_cons, Option.bind_eq_bind, Option.bind_eq_some_iff, Option.pure_def, Option.some.injEq] at hb
    obtain ⟨b, hb1, bs', hb2, rfl⟩ := hb
    rw [List.mapM_cons, run_bind _ _ (h a b hb1), run_bind _ _ (ih bs' hb2)]
    rfl

theorem run_build {t : TypeId} {i : TypeInfo} {z : Value} {pl : Nat → Option (Nat × Nat)} {parts : Array (Nat × Value)} {cs : Array Value} (hi : P.info? t = some i) (hz : i.zero = some z) (hp : placesOf P t = some pl)
    (hf : Instr.fill pl z.cells parts.toList = some cs) : (Instr.build t parts).run P w = .ok (.agg cs) w := by
  unfold placesOf at hp
  split at hp
  · rename_i fs hu
    obtain ⟨l, hl, rfl⟩ := Option.map_eq_some_iff.1 hp
    have hm : (fs.mapM fun f => do pure (f.offset, ← sizeOf f.type) : Sem (Array (Nat × Nat))).run P w = .ok l w := by
      rw [Array.mapM_eq_mapM_toList] at hl ⊢
      obtain ⟨l', hl', rfl⟩ := Option.map_eq_some_iff.1 hl
      have := run_mapM_array (P := P) (w := w) (fun f : Field => do pure (f.offset, ← sizeOf f.type)) (fun f => (tinfo P f.type).map fun x => (f.offset, x.2.1)) (by
        intro f b hb
        obtain ⟨x, hx, rfl⟩ := Option.map_eq_some_iff.1 hb
        obtain ⟨i', hi', _, hs, _, _⟩ := tinfo_some hx
        rw [run_bind _ _ (run_size hi'), hs]
        rfl) fs.toList l' hl'
      exact run_bind _ _ this
    unfold Instr.build
    rw [run_bind _ _ (run_zero hi hz), run_bind _ _ (run_under hu)]
    simp only
    rw [run_bind _ _ hm]
    simp only [hf]
    rfl
  · rename_i e hu
    obtain ⟨x, hx, rfl⟩ := Option.map_eq_some_iff.1 hp
    obtain ⟨i', hi', _, hs, _, _⟩ := tinfo_some hx
    unfold Instr.build
    rw [run_bind _ _ (run_zero hi hz), run_bind _ _ (run_under hu)]
    simp only
    rw [run_bind _ _ (run_size hi'), hs]
    simp only [hf]
    rfl
  · cases hp

theorem evBuild_gives (hT : TRel P w L μ T) {id : Nat} {t : TypeId} {parts : List (Nat × AV)} {vs : Array (Nat × Value)} (hm : vs.toList.map (·.1) = parts.map (·.1))
    (hv : ∀ (k : Nat) (v : Nat × Value) (x : Nat × AV), vs.toList[k]? = some v → parts[k]? = some x → VRel w L μ v.2 x.2) {y : AV} (h : evBuild P t parts = some y) : Gives P w L μ T id (Instr.build t vs) y T := by
  unfold evBuild at h
  split at h
  · rename_i z sz b pl ht hp
    obtain ⟨i, hi, hz, _, _, _⟩ := tinfo_some ht
    split at h
    · rename_i hz1
      obtain ⟨ys, hf, rfl⟩ := Option.map_eq_some_iff.1 h
      obtain ⟨cs', h1, h2⟩ := fillA_sound parts vs.toList z.cells _ ys (zero_rels (w := w) (L := L) (μ := μ) z hz1) hm hv hf
      refine Gives.same hT (run_build hi hz hp h1) (.agg (by simpa using h2.1) fun j x hx => ?_)
      obtain ⟨u, hu, hr⟩ := h2.2 j x hx
      have : cs'.getD j undef = u := by
        rw [Array.getElem?_toList] at hu
        simp [Array.getD_eq_getD_getElem?, hu]
      rw [this]; exact hr
    · cases h
  · cases h

/-! ### Slice literals -/
def setEls : List (List AV) → List (Nat × AV) → Nat → Option (List (List AV))
  | els, [], _ => some els
  | els, (i, v) :: rest, sz => if v.cells.length = sz ∧ i < els.length ∧ v.cells.all AV.one = true then setEls (els.set i v.cells) rest sz else none

def evBuildSlice (P : Program) (T : Table) (id : Nat) (t : TypeId) (len : Nat) (parts : List (Nat × AV)) : Option (AV × Table) :=
  match P.underlying t with
  | some (.slice e) =>
    match tinfo P e with
    | some (some z, sz, _) =>
      if len * sz ≤ 16777216 ∧ 0 < sz ∧ (zeroAV z).length = sz ∧ (zeroAV z).all AV.one = true then
        (setEls (List.replicate len (zeroAV z)) parts sz).map fun els => (.sl id 0 len, T.set id (some ⟨e, els⟩))
      else none
    | _ => none
  | _ => none

theorem all_notAgg_of_one {z : Value} (h : (zeroAV z).all AV.one = true) : z.cells.toList.all notAgg = true := by
  unfold zeroAV at h
  rw [List.all_map] at h
  rw [List.all_eq_true] at h ⊢
  intro u hu
  have := h u hu
  cases u <;> first | rfl | cases this

theorem madeCells_rel (z : Value) (len : Nat) (h0 : 0 < (zeroAV z).length) (h : (zeroAV z).all AV.one = true) : CurRel w L μ (madeCells z.cells (len * (zeroAV z).length)) 0 (zeroAV z).length (List.replicate len (zeroAV z)) := by
  intro i e j x he hx
  rw [List.getElem?_replicate] at he
  split at he
  · rename_i hi
    obtain rfl := Option.some.inj he
    obtain ⟨u, hu, hv⟩ := (zero_rels (w := w) (L := L) (μ := μ) z (all_notAgg_of_one h)).2 j x hx
    have hj := (List.getElem?_eq_some_iff.1 hx).1
    have hlt : i * (zeroAV z).length + j < len * (zeroAV z).length := by
      have := mul_lt_lem (sz := (zeroAV z).length) hi; omega
    have hzl : z.cells.size = (zeroAV z).length := by simp [zeroAV]
    refine ⟨u, ?_, hv.one (List.all_eq_true.1 h x (List.mem_of_getElem? hx)), hv⟩
    simp only [madeCells, Nat.zero_add, Array.getElem?_map, Array.getElem?_range, hlt, if_true, Option.map_some]
    rw [hzl, Nat.add_comm, Nat.add_mul_mod_self_right, Nat.mod_eq_of_lt hj]
    rw [Array.getElem?_toList] at hu
    simp [getElem!_def, hu]
  · cases he

theorem setEls_sound {sz : Nat} : ∀ (parts : List (Nat × AV)) (vs : List (Nat × Value)) (cs : Array Value) (els els' : List (List AV)), CurRel w L μ cs 0 sz els → (∀ e ∈ els, e.length = sz) → els.length * sz ≤ cs.size →
    (vs.map (·.1) = parts.map (·.1)) → (∀ (k : Nat) (v : Nat × Value) (x : Nat × AV), vs[k]? = some v → parts[k]? = some x → VRel w L μ v.2 x.2) → setEls els parts sz = some els' →
    ∃ cs', Instr.fill (fun i => some (i * sz, sz)) cs vs = some cs' ∧ cs'.size = cs.size ∧ CurRel w L μ cs' 0 sz els' ∧ (∀ e ∈ els', e.length = sz) ∧ els'.length = els.length := by
  intro parts
  induction parts with
  | nil =>
    intro vs cs els els' hr hs hc hm hv h
    have : vs = [] := by cases vs <;> simp_all
    subst this
    simp only [setEls, Option.some.injEq] at h
    subst h
    exact ⟨cs, rfl, rfl, hr, hs, rfl⟩
  | cons p parts ih =>
    intro vs cs els els' hr hs hc hm hv h
    obtain ⟨i, x⟩ := p
    cases vs with
    | nil => simp at hm
    | cons q vs =>
      obtain ⟨i', v⟩ := q
      simp only [List.map_cons, List.cons.injEq] at hm
      obtain ⟨rfl, hm⟩ := hm
      simp only [setEls] at h
      split at h
      · rename_i hcnd
        obtain ⟨hsz, hi, h1⟩ := hcnd
        have hvx : VRel w L μ v x := hv 0 (i', v) (i', x) rfl rfl
        have hcv := hvx.cells
        have hl2 := hcv.1
        have hil := mul_lt_lem (sz := sz) hi
        have hvl : v.cells.size = sz := by simp at hl2; omega
        obtain ⟨e0, he0⟩ : ∃ e0, els[i']? = some e0 := ⟨els[i'], List.getElem?_eq_getElem hi⟩
        have hw := hr.write hs he0 (o := 0) hcv (fun x hx => List.all_eq_true.1 h1 x hx) (by omega) (by omega)
        have hel : e0.length = sz := hs e0 (List.mem_of_getElem? he0)
        have hspl : spl e0 0 x.cells = x.cells := by
          unfold spl; simp; omega
        rw [hspl] at hw
        have e : (v.cells.zipIdx.foldl (fun cs (c, j) => cs.setIfInBounds (i' * sz + j) c) cs) = (cs.toList.take (0 + i' * sz + 0) ++ v.cells.toList ++ cs.toList.drop (0 + i' * sz + 0 + v.cells.toList.length)).toArray := by
          have := foldl_set v.cells.toList (i' * sz) 0 cs (by simp; omega)
          apply Array.ext'
          rw [← Array.foldl_toList]
          simpa using this
        obtain ⟨cs', q1, q2, q3, q4, q5⟩ := ih vs (v.cells.zipIdx.foldl (fun cs (c, j) => cs.setIfInBounds (i' * sz + j) c) cs) _ els' (by rw [e]; exact hw) (by
          intro e he
          rcases List.mem_or_eq_of_mem_set he with h | rfl
          · exact hs e h
          · exact hsz) (by rw [e]; simp; omega) hm (fun k v x h1 h2 => hv (k + 1) v x h1 h2) h
        refine ⟨cs', ?_, ?_, q3, q4, by simpa using q5⟩
        · simp only [Instr.fill]
          rw [if_neg (by simp; omega)]
          exact q1
        · rw [q2, e]; simp; omega
      · cases h

theorem evBuildSlice_gives (hT : TRel P w L μ T) {id : Nat} (hid : μ id = none) {t : TypeId} {len : Nat} {parts : List (Nat × AV)} {vs : Array (Nat × Value)} (hm : vs.toList.map (·.1) = parts.map (·.1))
    (hv : ∀ (k : Nat) (v : Nat × Value) (x : Nat × AV), vs.toList[k]? = some v → parts[k]? = some x → VRel w L μ v.2 x.2) {y : AV} (h : evBuildSlice P T id t len parts = some (y, T')) :
    Gives P w L μ T id (Instr.buildSlice t len vs) y T' := by
  unfold evBuildSlice at h
  split at h
  · rename_i e hu
    split at h
    · rename_i z sz b ht
      obtain ⟨i, hi, hz, hsz, _, hcs⟩ := tinfo_some ht
      split at h
      · rename_i hc
        obtain ⟨hbig, h0, hzl, hz1⟩ := hc
        obtain ⟨els, hf, he⟩ := Option.map_eq_some_iff.1 h
        simp only [Prod.mk.injEq] at he
        obtain ⟨rfl, rfl⟩ := he
        have hmade := madeCells_rel (w := w) (L := L) (μ := μ) z len (by omega) hz1
        rw [hzl] at hmade
        obtain ⟨cs', h1, h2, h3, h4, h5⟩ := setEls_sound parts vs.toList _ _ els hmade (by
          intro e he
          rw [List.mem_replicate] at he
          rw [he.2]; exact hzl) (by simp [size_madeCells]) hm hv hf
        have hlen : els.length = len := by simpa using h5
        have hrun : (Instr.buildSlice t len vs).run P w = .ok (.slice (some ⟨w.heap.size, 0, none⟩) len len) (w.alloc (.cells cs' e)) := by
          unfold Instr.buildSlice
          rw [run_bind _ _ (run_under hu)]
          simp only
          rw [run_bind _ _ (run_size hi), hsz]
          have hb : ¬ (len * sz > 2 ^ 24) := by omega
          simp only [hb, if_false]
          by_cases hn : len * sz = 0
          · simp only [hn, if_true]
            have hl0 : len = 0 := by
              rcases Nat.mul_eq_zero.1 hn with h | h
              · exact h
              · omega
            rw [hn] at h1
            have e0 : (Array.range 0).map (fun x => (#[] : Array Value)[x % (#[] : Array Value).size]!) = madeCells z.cells 0 := by simp [madeCells]
            rw [run_bind _ _ (run_ret (#[] : Array Value)), e0, h1]
            exact run_bind _ _ (run_newRow e cs')
          · simp only [hn, if_false]
            rw [run_bind _ _ (run_zero hi hz), run_bind _ _ (run_ret z.cells)]
            have e1 : (Array.range (len * sz)).map (fun x => z.cells[x % z.cells.size]!) = madeCells z.cells (len * sz) := rfl
            rw [e1, h1]
            exact run_bind _ _ (run_newRow e cs')
        refine new_gives hT hid rfl rfl rfl rfl cs' e len sz els (by rw [h2, size_madeCells]) h3 (by omega) h4 hcs.symm ?_ hrun _ rfl ?_
        · have : len ≤ len * sz := Nat.le_mul_of_pos_right _ h0
          simp only [maxLen]; omega
        · exact .sl map_set_self ⟨by simp, some ⟨w.heap.size, 0, none⟩, by simp, fun _ => by simp⟩
      · cases h
    · cases h
  · cases h
end Go.Proofs.Ytnceadbfgpiaaaa.G
