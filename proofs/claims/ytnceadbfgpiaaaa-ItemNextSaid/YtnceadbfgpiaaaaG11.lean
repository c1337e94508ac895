/- All operations of the abstract machine in one table, and that the model's own operation does just this. Plain theorems over any program. -/
import Derived.Test.YtnceadbfgpiaaaaG10
namespace Go.Proofs.Ytnceadbfgpiaaaa.G
set_option linter.unusedVariables false
set_option linter.unusedSimpArgs false
open Go
variable {P : Program} {w w' : World} {L L' : Nat → Prop} {μ μ' : Map} {T T' : Table}

def evParts (ρ : Operand → Option AV) : List (Nat × Operand) → Option (List (Nat × AV))
  | [] => some []
  | (i, x) :: l => match ρ x, evParts ρ l with
    | some a, some r => some ((i, a) :: r)
    | _, _ => none
def optA (ρ : Operand → Option AV) : Option Operand → Option (Option AV)
  | none => some none
  | some x => (ρ x).map some
def evVals (ρ : Operand → Option AV) : List Operand → Option (List Value)
  | [] => some []
  | x :: l => match (ρ x).bind AV.val?, evVals ρ l with
    | some a, some r => some (a :: r)
    | _, _ => none

def evBuiltin (P : Program) (T : Table) (id : Nat) (ρ : Operand → Option AV) (ty : TypeId) (b : Builtin) (args : List Operand) (ts : List TypeId) : Option (AV × Table) :=
  match b, args, ts with
  | .len, [x], [t] => (ρ x).bind fun a => (evLen P t a).map (·, T)
  | .append, [s, x], [t, u] => (ρ s).bind fun a => (ρ x).bind fun c => evAppend P T id t u a c
  | .copy, [s, x], [t, u] => (ρ s).bind fun a => (ρ x).bind fun c => evCopy P T t a c
  | .max, l, _ => (evVals ρ l).bind fun us => (evP P (Builtin.max_ #[] ty us.toArray)).map (·, T)
  | .min, l, _ => (evVals ρ l).bind fun us => (evP P (Builtin.min_ #[] ty us.toArray)).map (·, T)
  | _, _, _ => none

def fnFlat : AV → Bool
  | .flat (.func (.func _) _ _) => true
  | _ => false

/-- One operation, but for calls of functions: what it comes to, and the table behind it. 'id': the name of the row that it makes. -/
def evOp (P : Program) (T : Table) (id : Nat) (ρ : Operand → Option AV) (ty : TypeId) : Op → Option (AV × Table)
  | .move x | .assign x => (ρ x).map (·, T)
  | .pick c a b => (ρ c).bind fun c => match c with
    | .flat (.bool t) => (if t = true then ρ a else ρ b).map (·, T)
    | _ => none
  | .alloc e => match tinfo P e with
    | some (some z, _, _) => if z.cells.toList.all notAgg = true then evBox P T id e (zeroAV z) else none
    | _ => none
  | .box e x => (ρ x).bind fun a => evBox P T id e a.cells
  | .build t parts => (evParts ρ parts.toList).bind fun ps => (evBuild P t ps).map (·, T)
  | .buildSlice t len parts => (evParts ρ parts.toList).bind fun ps => evBuildSlice P T id t len ps
  | .load t x => (ρ x).bind fun a => (evLoad P T t a).map (·, T)
  | .store t x y => (ρ x).bind fun a => (ρ y).bind fun b => (evStore P T t a b).map fun T' => (.flat undef, T')
  | .nilCheck x => (ρ x).bind fun a => if ptrLike a = true ∨ fnFlat a = true then some (a, T) else none
  | .binOp op t x y _ => (ρ x).bind fun a => (ρ y).bind fun b => (evBin P op t x y a b).map (·, T)
  | .unOp op _ x => (ρ x).bind fun a => a.val?.bind fun u => (evP P (Op.unary op u)).map (·, T)
  | .convert s d x => (ρ x).bind fun a => match a with
    | .flat u => (evP P (convert s d u)).map (·, T)
    | a => (evBytes P T s d a).map (·, T)
  | .makeInterface t x => (ρ x).bind fun a => a.val?.bind fun u => (evP P (Instr.makeInterface t u)).map (·, T)
  | .makeFunc fn first captured => if first.size = 0 ∧ captured.size = 0 then (evP P (Instr.makeFunc fn #[] #[])).map (·, T) else none
  | .makeSlice t l c => (ρ l).bind fun a => (ρ c).bind fun b => evMake P T id t a b
  | .slice t x lo hi none => (ρ x).bind fun a => (optA ρ lo).bind fun l => (optA ρ hi).bind fun h => (evSlice P T t a l h).map (·, T)
  | .fieldAddr s x f => (ρ x).bind fun a => (evFieldAddr P s a f).map (·, T)
  | .field t x f => (ρ x).bind fun a => (evField P t a f).map (·, T)
  | .indexAddr t x i => (ρ x).bind fun a => (ρ i).bind fun b => (evIndexAddr P T t a b).map (·, T)
  | .index t x i => (ρ x).bind fun a => (ρ i).bind fun b => match a, b with
    | .flat u, .flat v => (evP P (Instr.index t u v)).map (·, T)
    | a, b => (evIndexArr P t a b).map (·, T)
  | .typeAssert x t a ok => (ρ x).bind fun c => c.val?.bind fun u => (evP P (Instr.typeAssert u t a ok)).map (·, T)
  | .extract x i => (ρ x).bind fun a => match a with
    | .tup l => (l[i]?).map (·, T)
    | _ => none
  | .call { callee := .builtin b, args, argTypes } => evBuiltin P T id ρ ty b args.toList argTypes.toList
  | _ => none

/-- What the machine goes on with behind an operation. -/
def nextV : Next → Option Value
  | .value v => some v
  | .skip => some undef
  | _ => none

def GivesN (P : Program) (w : World) (L : Nat → Prop) (μ : Map) (T : Table) (id : Nat) (m : Sem Next) (y : AV) (T' : Table) : Prop :=
  ∃ nx v w' L' μ', m.run P w = .ok nx w' ∧ nextV nx = some v ∧ Ext w L μ T w' L' μ' T' ∧ TRel P w' L' μ' T' ∧ VRel w' L' μ' v y ∧ ∀ i, i ≠ id → μ' i = μ i

theorem Gives.next {id : Nat} {m : Sem Value} {y : AV} (h : Gives P w L μ T id m y T') : GivesN P w L μ T id (do pure (.value (← m))) y T' := by
  obtain ⟨v, w', L', μ', hr, h1, h2, h3, h4⟩ := h
  exact ⟨.value v, v, w', L', μ', run_bind _ _ hr, rfl, h1, h2, h3, h4⟩

theorem evParts_sound {ρ : Operand → Option AV} {σ : Operand → Value} (hρ : ∀ x y, ρ x = some y → VRel w L μ (σ x) y) : ∀ {l : List (Nat × Operand)} {ps : List (Nat × AV)}, evParts ρ l = some ps →
    (l.map fun (i, x) => (i, σ x)).map (·.1) = ps.map (·.1) ∧ ∀ (k : Nat) (v : Nat × Value) (x : Nat × AV), (l.map fun (i, x) => (i, σ x))[k]? = some v → ps[k]? = some x → VRel w L μ v.2 x.2 := by
  intro l
  induction l with
  | nil => intro ps h; simp only [evParts, Option.some.injEq] at h; subst h; exact ⟨rfl, fun k v x h => by simp at h⟩
  | cons p l ih =>
    intro ps h
    obtain ⟨i, x⟩ := p
    simp only [evParts] at h
    split at h
    · rename_i a r ha hr
      obtain rfl := Option.some.inj h
      obtain ⟨h1, h2⟩ := ih hr
      refine ⟨by simp at h1 ⊢; exact h1, fun k v y hv hy => ?_⟩
      cases k with
      | zero => simp at hv hy; subst hv; subst hy; exact hρ x a ha
      | succ k => exact h2 k v y (by simpa using hv) (by simpa using hy)
    · cases h

theorem evVals_sound {ρ : Operand → Option AV} {σ : Operand → Value} (hρ : ∀ x y, ρ x = some y → VRel w L μ (σ x) y) : ∀ {l : List Operand} {us : List Value}, evVals ρ l = some us → l.map σ = us := by
  intro l
  induction l with
  | nil => intro us h; simp only [evVals, Option.some.injEq] at h; subst h; rfl
  | cons x l ih =>
    intro us h
    simp only [evVals] at h
    split at h
    · rename_i a r ha hr
      obtain rfl := Option.some.inj h
      obtain ⟨y, hy, hv⟩ := Option.bind_eq_some_iff.1 ha
      simp only [List.map_cons]
      rw [ih hr, val_sound (hρ x y hy) hv]
    · cases h

theorem optA_sound {ρ : Operand → Option AV} {σ : Operand → Value} (hρ : ∀ x y, ρ x = some y → VRel w L μ (σ x) y) {x : Option Operand} {y : Option AV} (h : optA ρ x = some y) : ORel w L μ (x.map σ) y := by
  cases x with
  | none => simp only [optA, Option.some.injEq] at h; subst h; trivial
  | some x =>
    simp only [optA] at h
    obtain ⟨a, ha, rfl⟩ := Option.map_eq_some_iff.1 h
    exact hρ x a ha

theorem flat_eq {v u : Value} (h : VRel w L μ v (.flat u)) : v = u := by cases h; rfl
theorem array1 {α : Type} {a : Array α} {x : α} (h : a.toList = [x]) : a = #[x] := by cases a; simp_all
theorem array2 {α : Type} {a : Array α} {x y : α} (h : a.toList = [x, y]) : a = #[x, y] := by cases a; simp_all

theorem evOp_gives (hT : TRel P w L μ T) {id : Nat} (hid : μ id = none) {a : Act} {ρ : Operand → Option AV} (hρ : ∀ x y, ρ x = some y → VRel w L μ (a.eval x) y) {o : Oper} {y : AV} (h : evOp P T id ρ o.type o.op = some (y, T')) :
    GivesN P w L μ T id (execOp a.eval o) y T' := by
  have pairT : ∀ {z : Option AV}, z.map (·, T) = some (y, T') → z = some y ∧ T' = T := by
    intro z hz
    obtain ⟨c, hc, he⟩ := Option.map_eq_some_iff.1 hz
    simp only [Prod.mk.injEq] at he
    exact ⟨by rw [hc, he.1], he.2.symm⟩
  unfold execOp
  generalize hop : o.op = op at h
  cases op with
  | move x =>
    obtain ⟨h1, rfl⟩ := pairT h
    exact ⟨_, _, w, L, μ, rfl, rfl, Ext.refl _ _ _ _, hT, hρ _ _ h1, fun _ _ => rfl⟩
  | assign x =>
    obtain ⟨h1, rfl⟩ := pairT h
    exact ⟨_, _, w, L, μ, rfl, rfl, Ext.refl _ _ _ _, hT, hρ _ _ h1, fun _ _ => rfl⟩
  | pick c x z =>
    simp only [evOp] at h
    obtain ⟨cv, hc, h⟩ := Option.bind_eq_some_iff.1 h
    split at h
    · rename_i t
      obtain ⟨h1, rfl⟩ := pairT h
      have hcv := hρ _ _ hc
      have he : a.eval c = .bool t := flat_eq hcv
      refine ⟨.value (if t = true then a.eval x else a.eval z), _, w, L, μ, ?_, rfl, Ext.refl _ _ _ _, hT, ?_, fun _ _ => rfl⟩
      · simp only [he]
        rfl
      · cases t
        · exact hρ _ _ h1
        · exact hρ _ _ h1
    · cases h
  | alloc e =>
    simp only [evOp] at h
    split at h
    · rename_i z sz b ht
      split at h
      · rename_i hz
        obtain ⟨i, hi, hz', _⟩ := tinfo_some ht
        exact (evBox_gives hT hid (zero_rels z hz) (run_alloc hi hz') h).next
      · cases h
    · cases h
  | box e x =>
    simp only [evOp] at h
    obtain ⟨c, hc, h⟩ := Option.bind_eq_some_iff.1 h
    exact (evBox_gives hT hid (hρ _ _ hc).cells run_box h).next
  | build t parts =>
    simp only [evOp] at h
    obtain ⟨ps, hps, h⟩ := Option.bind_eq_some_iff.1 h
    obtain ⟨h1, rfl⟩ := pairT h
    obtain ⟨q1, q2⟩ := evParts_sound hρ hps
    have hg := evBuild_gives (P := P) hT (id := id) (vs := parts.map fun (i, x) => (i, a.eval x)) (by rw [Array.toList_map]; exact q1) (by rw [Array.toList_map]; exact q2) h1
    exact hg.next
  | buildSlice t len parts =>
    simp only [evOp] at h
    obtain ⟨ps, hps, h⟩ := Option.bind_eq_some_iff.1 h
    obtain ⟨q1, q2⟩ := evParts_sound hρ hps
    have hg := evBuildSlice_gives (P := P) hT hid (vs := parts.map fun (i, x) => (i, a.eval x)) (by rw [Array.toList_map]; exact q1) (by rw [Array.toList_map]; exact q2) h
    exact hg.next
  | load t x =>
    simp only [evOp] at h
    obtain ⟨c, hc, h⟩ := Option.bind_eq_some_iff.1 h
    obtain ⟨h1, rfl⟩ := pairT h
    exact (evLoad_gives hT (hρ _ _ hc) h1).next
  | store t x z =>
    simp only [evOp] at h
    obtain ⟨c, hc, h⟩ := Option.bind_eq_some_iff.1 h
    obtain ⟨d, hd, h⟩ := Option.bind_eq_some_iff.1 h
    obtain ⟨T1, h1, he⟩ := Option.map_eq_some_iff.1 h
    simp only [Prod.mk.injEq] at he
    obtain ⟨rfl, rfl⟩ := he
    obtain ⟨w', hr, q1, q2⟩ := evStore_gives hT (hρ _ _ hc) (hρ _ _ hd) h1
    exact ⟨.skip, undef, w', L, μ, run_bind _ _ hr, rfl, q1, q2, .flat _ rfl, fun _ _ => rfl⟩
  | nilCheck x =>
    simp only [evOp] at h
    obtain ⟨c, hc, h⟩ := Option.bind_eq_some_iff.1 h
    split at h
    · rename_i hp
      simp only [Option.some.injEq, Prod.mk.injEq] at h
      obtain ⟨rfl, rfl⟩ := h
      have hv := hρ _ _ hc
      rcases hp with hp | hp
      · obtain ⟨ad, he⟩ := ptrLike_sound hv hp
        rw [he] at hv
        simp only [he]
        exact ⟨_, _, w, L, μ, rfl, rfl, Ext.refl _ _ _ _, hT, hv, fun _ _ => rfl⟩
      · unfold fnFlat at hp
        split at hp
        · rename_i f f1 f2
          have he : a.eval x = .func (.func f) f1 f2 := flat_eq hv
          rw [he] at hv
          simp only [he]
          exact ⟨_, _, w, L, μ, rfl, rfl, Ext.refl _ _ _ _, hT, hv, fun _ _ => rfl⟩
        · cases hp
    · cases h
  | binOp op t x z yt =>
    simp only [evOp] at h
    obtain ⟨c, hc, h⟩ := Option.bind_eq_some_iff.1 h
    obtain ⟨d, hd, h⟩ := Option.bind_eq_some_iff.1 h
    obtain ⟨h1, rfl⟩ := pairT h
    exact (evBin_gives hT (hρ _ _ hc) (hρ _ _ hd) h1).next
  | unOp op t x =>
    simp only [evOp] at h
    obtain ⟨c, hc, h⟩ := Option.bind_eq_some_iff.1 h
    obtain ⟨u, hu, h⟩ := Option.bind_eq_some_iff.1 h
    obtain ⟨h1, rfl⟩ := pairT h
    have := val_sound (hρ _ _ hc) hu
    subst this
    exact (evP_gives hT h1).next
  | convert s d x =>
    simp only [evOp] at h
    obtain ⟨c, hc, h⟩ := Option.bind_eq_some_iff.1 h
    split at h
    · rename_i u
      obtain ⟨h1, rfl⟩ := pairT h
      have he : a.eval x = u := flat_eq (hρ _ _ hc)
      subst he
      exact (evP_gives hT h1).next
    · obtain ⟨h1, rfl⟩ := pairT h
      exact (evBytes_gives hT (hρ _ _ hc) h1).next
  | makeInterface t x =>
    simp only [evOp] at h
    obtain ⟨c, hc, h⟩ := Option.bind_eq_some_iff.1 h
    obtain ⟨u, hu, h⟩ := Option.bind_eq_some_iff.1 h
    obtain ⟨h1, rfl⟩ := pairT h
    have := val_sound (hρ _ _ hc) hu
    subst this
    exact (evP_gives hT h1).next
  | makeFunc fn first captured =>
    simp only [evOp] at h
    split at h
    · rename_i hs
      obtain ⟨h1, rfl⟩ := pairT h
      have e1 : first = #[] := Array.eq_empty_of_size_eq_zero hs.1
      have e2 : captured = #[] := Array.eq_empty_of_size_eq_zero hs.2
      subst e1; subst e2
      have e3 : (#[] : Array Operand).map a.eval = #[] := by simp
      simp only [e3]
      exact (evP_gives hT h1).next
    · cases h
  | makeSlice t l c =>
    simp only [evOp] at h
    obtain ⟨c1, hc1, h⟩ := Option.bind_eq_some_iff.1 h
    obtain ⟨d, hd, h⟩ := Option.bind_eq_some_iff.1 h
    exact (evMake_gives hT hid (hρ _ _ hc1) (hρ _ _ hd) h).next
  | slice t x lo hi mx =>
    cases mx with
    | some m => cases h
    | none =>
      simp only [evOp] at h
      obtain ⟨c, hc, h⟩ := Option.bind_eq_some_iff.1 h
      obtain ⟨l, hl, h⟩ := Option.bind_eq_some_iff.1 h
      obtain ⟨h', hh, h⟩ := Option.bind_eq_some_iff.1 h
      obtain ⟨h1, rfl⟩ := pairT h
      exact (evSlice_gives hT (hρ _ _ hc) (optA_sound hρ hl) (optA_sound hρ hh) h1).next
  | fieldAddr s x f =>
    simp only [evOp] at h
    obtain ⟨c, hc, h⟩ := Option.bind_eq_some_iff.1 h
    obtain ⟨h1, rfl⟩ := pairT h
    exact (evFieldAddr_gives hT (hρ _ _ hc) h1).next
  | field t x f =>
    simp only [evOp] at h
    obtain ⟨c, hc, h⟩ := Option.bind_eq_some_iff.1 h
    obtain ⟨h1, rfl⟩ := pairT h
    exact (evField_gives hT (hρ _ _ hc) h1).next
  | indexAddr t x i =>
    simp only [evOp] at h
    obtain ⟨c, hc, h⟩ := Option.bind_eq_some_iff.1 h
    obtain ⟨d, hd, h⟩ := Option.bind_eq_some_iff.1 h
    obtain ⟨h1, rfl⟩ := pairT h
    exact (evIndexAddr_gives hT (hρ _ _ hc) (hρ _ _ hd) h1).next
  | index t x i =>
    simp only [evOp] at h
    obtain ⟨c, hc, h⟩ := Option.bind_eq_some_iff.1 h
    obtain ⟨d, hd, h⟩ := Option.bind_eq_some_iff.1 h
    split at h
    · rename_i _ u v _
      obtain ⟨h1, rfl⟩ := pairT h
      have e1 : a.eval x = u := flat_eq (hρ _ _ hc)
      have e2 : a.eval i = v := flat_eq (hρ _ _ hd)
      subst e1; subst e2
      exact (evP_gives hT h1).next
    · obtain ⟨h1, rfl⟩ := pairT h
      exact (evIndexArr_gives hT (hρ _ _ hc) (hρ _ _ hd) h1).next
  | typeAssert x t s ok =>
    simp only [evOp] at h
    obtain ⟨c, hc, h⟩ := Option.bind_eq_some_iff.1 h
    obtain ⟨u, hu, h⟩ := Option.bind_eq_some_iff.1 h
    obtain ⟨h1, rfl⟩ := pairT h
    have := val_sound (hρ _ _ hc) hu
    subst this
    exact (evP_gives hT h1).next
  | extract x i =>
    simp only [evOp] at h
    obtain ⟨c, hc, h⟩ := Option.bind_eq_some_iff.1 h
    split at h
    · rename_i l
      obtain ⟨h1, rfl⟩ := pairT h
      have hv := hρ _ _ hc
      generalize hev : a.eval x = ev at hv
      cases hv with
      | @tup _ cs l hl hr =>
        have hlt : i < cs.size := by rw [hl]; exact (List.getElem?_eq_some_iff.1 h1).1
        refine Gives.next (Gives.same hT (v := cs.getD i undef) ?_ (hr i y h1))
        rw [hev]
        unfold Instr.extract
        simp only [Array.getElem?_eq_getElem hlt]
        rw [getD_of (Array.getElem?_eq_getElem hlt)]
        rfl
    · cases h
  | call c =>
    obtain ⟨callee, args, ts⟩ := c
    cases callee with
    | value f => cases h
    | invoke r m => cases h
    | builtin b =>
      simp only [evOp, evBuiltin] at h
      have mk : ∀ {m : Sem Value} {y T'}, Gives P w L μ T id m y T' → (∀ (w' : World), (do let d ← resolve a.eval { callee := .builtin b, args, argTypes := ts } o.type; invoke d.target d.args : Sem Next).run P w' = (do pure (.value (← m)) : Sem Next).run P w') → GivesN P w L μ T id (do let d ← resolve a.eval { callee := .builtin b, args, argTypes := ts } o.type; invoke d.target d.args) y T' := by
        intro m y T' hg he
        obtain ⟨nx, v, w', L', μ', hr, rest⟩ := hg.next
        exact ⟨nx, v, w', L', μ', (he w).trans hr, rest⟩
      split at h
      · rename_i x t hargs hts
        obtain ⟨c, hc, h⟩ := Option.bind_eq_some_iff.1 h
        obtain ⟨h1, rfl⟩ := pairT h
        obtain rfl := array1 hargs
        obtain rfl := array1 hts
        exact mk (evLen_gives hT (hρ _ _ hc) h1 (ty := o.type)) fun w' => by simp only [resolve, List.map_toArray, List.map_cons, List.map_nil]; rfl
      · rename_i s x t u hargs hts
        obtain ⟨c, hc, h⟩ := Option.bind_eq_some_iff.1 h
        obtain ⟨d, hd, h⟩ := Option.bind_eq_some_iff.1 h
        obtain rfl := array2 hargs
        obtain rfl := array2 hts
        exact mk (evAppend_gives hT hid (hρ _ _ hc) (hρ _ _ hd) h (ty := o.type)) fun w' => by simp only [resolve, List.map_toArray, List.map_cons, List.map_nil]; rfl
      · rename_i s x t u hargs hts
        obtain ⟨c, hc, h⟩ := Option.bind_eq_some_iff.1 h
        obtain ⟨d, hd, h⟩ := Option.bind_eq_some_iff.1 h
        obtain rfl := array2 hargs
        obtain rfl := array2 hts
        exact mk (evCopy_gives hT (hρ _ _ hc) (hρ _ _ hd) h (ty := o.type) (u := u)) fun w' => by simp only [resolve, List.map_toArray, List.map_cons, List.map_nil]; rfl
      · obtain ⟨us, hus, h⟩ := Option.bind_eq_some_iff.1 h
        obtain ⟨h1, rfl⟩ := pairT h
        have hv := evVals_sound hρ hus
        refine mk (evP_gives hT h1) fun w' => ?_
        have : args.map a.eval = us.toArray := by rw [← hv]; cases args; simp
        unfold resolve
        simp only [this]
        rfl
      · obtain ⟨us, hus, h⟩ := Option.bind_eq_some_iff.1 h
        obtain ⟨h1, rfl⟩ := pairT h
        have hv := evVals_sound hρ hus
        refine mk (evP_gives hT h1) fun w' => ?_
        have : args.map a.eval = us.toArray := by rw [← hv]; cases args; simp
        unfold resolve
        simp only [this]
        rfl
      · cases h
  | _ => cases h
end Go.Proofs.Ytnceadbfgpiaaaa.G
