/- The abstract machine over a record of functions: what must stay folded while a body is evaluated is a variable there, types are tables. What it comes to is what the machine itself comes to. Plain theorems over any program. -/
import Derived.Test.YtnceadbfgpiaaaaG17
namespace Go.Proofs.Ytnceadbfgpiaaaa.G
set_option linter.unusedVariables false
set_option linter.unusedSimpArgs false
open Go
variable {P : Program}

/-- How many. -/
def lenE (X : List (List AV)) : Int := X.length
/-- An element of what stays. -/
def nthE (X : List (List AV)) (n : Int) (sz : Nat) : Option AV := if 0 ≤ n then (X[n.toNat]?).bind fun c => if c.length = sz then some (.rp c) else none else none
/-- An element's place in a row of one's own. -/
def ixSl (P : Program) (r : Option Row) (id off m : Nat) (n : Int) (sz : Nat) : Option AV := r.bind fun r => if 0 ≤ n ∧ n < m ∧ P.cellsOf r.elem = sz then some (.ptr id (off + n.toNat) 0) else none
/-- The cells from a place in a row on. -/
def ptrCells (r : Option Row) (i off : Nat) : Option (List AV) := r.bind fun r => (r.els[i]?).bind fun e => if off ≤ e.length then some (e.drop off) else none
/-- A row, written. -/
def storeRow (r : Option Row) (i off sz : Nat) (y : AV) : Option Row := r.bind fun r => (r.els[i]?).bind fun e => if y.cells.length = sz ∧ off + sz ≤ e.length ∧ y.cells.all AV.one = true then some ⟨r.elem, r.els.set i (spl e off y.cells)⟩ else none

structure Env where
  ti : TypeId → Option (Option Value × Nat × Nat)
  un : TypeId → Option TypeDesc
  pl : TypeId → Option (List (Nat × Nat))
  bin : BinOp → TypeId → AV → AV → Option AV
  una : UnOp → AV → Option AV
  conv : Table → TypeId → TypeId → AV → Option AV
  len : List (List AV) → Int
  sln : ByteArray → Int
  nat : Nat → Int
  nth : List (List AV) → Int → Nat → Option AV
  ixs : Option Row → Nat → Nat → Nat → Int → Nat → Option AV
  cel : Option Row → Nat → Nat → Option (List AV)
  sto : Option Row → Nat → Nat → Nat → AV → Option Row
  app : Table → Nat → TypeId → TypeId → AV → AV → Option (AV × Table)
  cpy : Table → TypeId → AV → AV → Option (AV × Table)
  slc : Table → TypeId → AV → Option AV → Option AV → Option AV
  mak : Table → Nat → TypeId → AV → AV → Option (AV × Table)
  ixv : TypeId → AV → AV → Option AV
  oth : Table → Nat → (Operand → Option AV) → TypeId → Op → Option (AV × Table)

structure Env.Ok (P : Program) (E : Env) : Prop where
  ti : ∀ t x, E.ti t = some x → tinfo P t = some x
  un : ∀ t x, E.un t = some x → P.underlying t = some x
  pl : ∀ t l, E.pl t = some l → ∃ f, placesOf P t = some f ∧ ∀ i, f i = l[i]?
  bin : ∀ op t a b x y r, E.bin op t a b = some r → evBin P op t x y a b = some r
  una : ∀ op a r, E.una op a = some r → (a.val?.bind fun u => evP P (Op.unary op u)) = some r
  conv : ∀ T s d a r, E.conv T s d a = some r → (match a with | .flat u => evP P (convert s d u) | a => evBytes P T s d a) = some r
  len : E.len = lenE
  sln : E.sln = fun s => (s.size : Int)
  nat : E.nat = fun (n : Nat) => (n : Int)
  nth : E.nth = nthE
  ixs : E.ixs = ixSl P
  cel : E.cel = ptrCells
  sto : E.sto = storeRow
  app : ∀ T id t u s x r, E.app T id t u s x = some r → evAppend P T id t u s x = some r
  cpy : ∀ T t s x r, E.cpy T t s x = some r → evCopy P T t s x = some r
  slc : ∀ T t a l h r, E.slc T t a l h = some r → evSlice P T t a l h = some r
  mak : ∀ T id t a b r, E.mak T id t a b = some r → evMake P T id t a b = some r
  ixv : ∀ t a b r, E.ixv t a b = some r → (match a, b with | .flat u, .flat v => evP P (Instr.index t u v) | a, b => evIndexArr P t a b) = some r
  oth : ∀ T id ρ ty op r, E.oth T id ρ ty op = some r → evOp P T id ρ ty op = some r

section
variable (E : Env)
def boxE (T : Table) (id : Nat) (e : TypeId) (cs : List AV) : Option (AV × Table) :=
  match E.ti e with
  | some (_, sz, _) => if cs.length = sz ∧ cs.all AV.one = true then some (.ptr id 0 0, T.set id (some ⟨e, [cs]⟩)) else none
  | none => none
def ofE (t : TypeId) (cs : List AV) : Option AV :=
  match E.un t with
  | some (.struct _) | some (.array _ _) => (match E.ti t with
    | some (_, sz, _) => if sz ≤ cs.length then some (.agg (cs.take sz)) else none
    | none => none)
  | some _ => cs[0]?
  | none => none
def cellsE (T : Table) : AV → Option (List AV)
  | .ptr id i off => E.cel (T id) i off
  | .rp cs => some cs
  | _ => none
def storeE (T : Table) (t : TypeId) (x y : AV) : Option Table :=
  match x, E.ti t with
  | .ptr id i off, some (_, sz, _) => (E.sto (T id) i off sz y).map fun r => T.set id (some r)
  | _, _ => none
def faddrE (s : TypeId) (x : AV) (f : Nat) : Option AV :=
  match E.un s with
  | some (.struct fs) => (fs[f]?).bind fun fd =>
    match E.ti fd.type with
    | some (_, sz, _) => if sz = 0 then none else
      match x with
      | .ptr id i off => some (.ptr id i (off + fd.offset))
      | .rp cs => some (.rp (cs.drop fd.offset))
      | _ => none
    | none => none
  | _ => none
def fieldE (t : TypeId) (x : AV) (f : Nat) : Option AV :=
  match E.un t, x with
  | some (.struct fs), .agg cs => (fs[f]?).bind fun fd =>
    match E.un fd.type with
    | some (.struct _) | some (.array _ _) => (match E.ti fd.type with
      | some (_, sz, _) => if fd.offset + sz ≤ cs.length then some (.agg ((cs.drop fd.offset).take sz)) else none
      | none => none)
    | some _ => cs[fd.offset]?
    | none => none
  | _, _ => none
def iaddrE (T : Table) (t : TypeId) (x ix : AV) : Option AV :=
  match E.un t, intOf ix with
  | some (.slice e), some n =>
    match E.ti e with
    | some (_, sz, _) =>
      match x with
      | .ro els => E.nth els n sz
      | .sl id off m => E.ixs (T id) id off m n sz
      | _ => none
    | none => none
  | _, _ => none
def lenOfE (t : TypeId) (x : AV) : Option AV :=
  match E.un t, x with
  | some (.slice _), .ro els => some (.flat (.int .i64 (E.len els)))
  | some (.slice _), .sl _ _ n => some (.flat (.int .i64 (E.nat n)))
  | some (.slice _), .flat (.slice none 0 0) => some (.flat (.int .i64 0))
  | some .string, .flat (.string s) => some (.flat (.int .i64 (E.sln s)))
  | _, _ => none
def buildE (t : TypeId) (parts : List (Nat × AV)) : Option AV :=
  match E.ti t, E.pl t with
  | some (some z, _, _), some pl => if z.cells.toList.all notAgg = true then (fillA (fun i => pl[i]?) (zeroAV z) parts).map .agg else none
  | _, _ => none
def buildSliceE (T : Table) (id : Nat) (t : TypeId) (len : Nat) (parts : List (Nat × AV)) : Option (AV × Table) :=
  match E.un t with
  | some (.slice e) =>
    match E.ti e with
    | some (some z, sz, _) =>
      if len * sz ≤ 16777216 ∧ 0 < sz ∧ (zeroAV z).length = sz ∧ (zeroAV z).all AV.one = true then
        (setEls (List.replicate len (zeroAV z)) parts sz).map fun els => (.sl id 0 len, T.set id (some ⟨e, els⟩))
      else none
    | _ => none
  | _ => none

/-- One operation, over the record. -/
def evE (T : Table) (id : Nat) (ρ : Operand → Option AV) (ty : TypeId) : Op → Option (AV × Table)
  | .move x | .assign x => (ρ x).map (·, T)
  | .pick c a b => (ρ c).bind fun c => match c with
    | .flat (.bool t) => (if t = true then ρ a else ρ b).map (·, T)
    | _ => none
  | .alloc e => match E.ti e with
    | some (some z, _, _) => if z.cells.toList.all notAgg = true then boxE E T id e (zeroAV z) else none
    | _ => none
  | .box e x => (ρ x).bind fun a => boxE E T id e a.cells
  | .build t parts => (evParts ρ parts.toList).bind fun ps => (buildE E t ps).map (·, T)
  | .buildSlice t len parts => (evParts ρ parts.toList).bind fun ps => buildSliceE E T id t len ps
  | .load t x => (ρ x).bind fun a => ((cellsE E T a).bind (ofE E t)).map (·, T)
  | .store t x y => (ρ x).bind fun a => (ρ y).bind fun b => (storeE E T t a b).map fun T' => (.flat undef, T')
  | .binOp op t x y _ => (ρ x).bind fun a => (ρ y).bind fun b => (E.bin op t a b).map (·, T)
  | .unOp op _ x => (ρ x).bind fun a => (E.una op a).map (·, T)
  | .convert s d x => (ρ x).bind fun a => (E.conv T s d a).map (·, T)
  | .makeSlice t l c => (ρ l).bind fun a => (ρ c).bind fun b => E.mak T id t a b
  | .slice t x lo hi none => (ρ x).bind fun a => (optA ρ lo).bind fun l => (optA ρ hi).bind fun h => (E.slc T t a l h).map (·, T)
  | .fieldAddr s x f => (ρ x).bind fun a => (faddrE E s a f).map (·, T)
  | .field t x f => (ρ x).bind fun a => (fieldE E t a f).map (·, T)
  | .indexAddr t x i => (ρ x).bind fun a => (ρ i).bind fun b => (iaddrE E T t a b).map (·, T)
  | .index t x i => (ρ x).bind fun a => (ρ i).bind fun b => (E.ixv t a b).map (·, T)
  | .extract x i => (ρ x).bind fun a => match a with
    | .tup l => (l[i]?).map (·, T)
    | _ => none
  | .call { callee := .builtin b, args, argTypes } => match b, args.toList, argTypes.toList with
    | .len, [x], [t] => (ρ x).bind fun a => (lenOfE E t a).map (·, T)
    | .append, [s, x], [t, u] => (ρ s).bind fun a => (ρ x).bind fun c => E.app T id t u a c
    | .copy, [s, x], [t, u] => (ρ s).bind fun a => (ρ x).bind fun c => E.cpy T t a c
    | _, _, _ => E.oth T id ρ ty (.call { callee := .builtin b, args, argTypes })
  | .nilCheck x => (ρ x).bind fun a => match a with
    | .ptr _ _ _ => some (a, T)
    | .rp _ => some (a, T)
    | _ => none
  | op => E.oth T id ρ ty op
end

variable {E : Env}
theorem boxE_ok (hE : E.Ok P) {T : Table} {id : Nat} {e : TypeId} {cs : List AV} {r : AV × Table} (h : boxE E T id e cs = some r) : evBox P T id e cs = some r := by
  unfold boxE at h
  unfold evBox
  split at h
  · rename_i z sz b ht
    simp only [hE.ti _ _ ht]
    exact h
  · cases h
def isAggD : TypeDesc → Bool
  | .struct _ | .array _ _ => true
  | _ => false
theorem agg_of {t : TypeId} {d : TypeDesc} (h : P.underlying t = some d) : aggT P t = some (isAggD d) := by
  unfold aggT
  rw [h, Option.map_some]
  cases d <;> rfl
theorem ofE_ok (hE : E.Ok P) {t : TypeId} {cs : List AV} {r : AV} (h : ofE E t cs = some r) : ofCells P t cs = some r := by
  unfold ofE at h
  unfold ofCells
  split at h
  · rename_i fs hu
    rw [agg_of (hE.un _ _ hu)]
    split at h
    · rename_i ht; simp only [hE.ti _ _ ht]; exact h
    · cases h
  · rename_i n e hu
    rw [agg_of (hE.un _ _ hu)]
    split at h
    · rename_i ht; simp only [hE.ti _ _ ht]; exact h
    · cases h
  · rename_i d h1 h2 hu
    rw [agg_of (hE.un _ _ hu)]
    cases d with
    | struct fs => exact absurd rfl (h1 fs)
    | array n e => exact absurd rfl (h2 n e)
    | _ => exact h
  · cases h
theorem cellsE_ok (hE : E.Ok P) {T : Table} {a : AV} {r : List AV} (h : cellsE E T a = some r) : cellsAt T a = some r := by
  cases a with
  | ptr id i off => simp only [cellsE, hE.cel] at h; exact h
  | rp cs => exact h
  | _ => cases h
theorem storeE_ok (hE : E.Ok P) {T T' : Table} {t : TypeId} {x y : AV} (h : storeE E T t x y = some T') : evStore P T t x y = some T' := by
  unfold storeE at h
  split at h
  · rename_i id i off z sz b ht
    simp only [evStore, hE.ti _ _ ht]
    rw [hE.sto] at h
    unfold storeRow at h
    obtain ⟨r, hr, rfl⟩ := Option.map_eq_some_iff.1 h
    obtain ⟨r0, hr0, hr⟩ := Option.bind_eq_some_iff.1 hr
    obtain ⟨e, he, hr⟩ := Option.bind_eq_some_iff.1 hr
    split at hr
    · rename_i hc
      obtain rfl := Option.some.inj hr
      simp only [hr0, Option.bind_some, he]
      rw [if_pos hc]
    · cases hr
  · cases h
theorem faddrE_ok (hE : E.Ok P) {s : TypeId} {x : AV} {f : Nat} {r : AV} (h : faddrE E s x f = some r) : evFieldAddr P s x f = some r := by
  unfold faddrE at h
  unfold evFieldAddr
  split at h
  · rename_i fs hu
    simp only [hE.un _ _ hu]
    obtain ⟨fd, hf, h⟩ := Option.bind_eq_some_iff.1 h
    simp only [hf, Option.bind_some]
    split at h
    · rename_i ht; simp only [hE.ti _ _ ht]; exact h
    · cases h
  · cases h
theorem iaddrE_ok (hE : E.Ok P) {T : Table} {t : TypeId} {x ix : AV} {r : AV} (h : iaddrE E T t x ix = some r) : evIndexAddr P T t x ix = some r := by
  unfold iaddrE at h
  unfold evIndexAddr
  split at h
  · rename_i e n hu hn
    simp only [hE.un _ _ hu, hn]
    split at h
    · rename_i ht
      simp only [hE.ti _ _ ht]
      split at h
      · rw [hE.nth] at h; exact h
      · rw [hE.ixs] at h; exact h
      · cases h
    · cases h
  · cases h
theorem lenE_ok (hE : E.Ok P) {t : TypeId} {x : AV} {r : AV} (h : lenOfE E t x = some r) : evLen P t x = some r := by
  unfold lenOfE at h
  unfold evLen
  split at h
  · rename_i hu; simp only [hE.un _ _ hu]; rw [hE.len] at h; exact h
  · rename_i hu; simp only [hE.un _ _ hu]; rw [hE.nat] at h; exact h
  · rename_i hu; simp only [hE.un _ _ hu]; exact h
  · rename_i hu; simp only [hE.un _ _ hu]; rw [hE.sln] at h; exact h
  · cases h
theorem fillA_congr {f g : Nat → Option (Nat × Nat)} (h : ∀ i, f i = g i) : f = g := funext h
theorem buildE_ok (hE : E.Ok P) {t : TypeId} {ps : List (Nat × AV)} {r : AV} (h : buildE E t ps = some r) : evBuild P t ps = some r := by
  unfold buildE at h
  unfold evBuild
  split at h
  · rename_i z sz b pl ht hp
    obtain ⟨f, hf, he⟩ := hE.pl _ _ hp
    have : f = fun i => pl[i]? := funext he
    simp only [hE.ti _ _ ht, hf, this]
    exact h
  · cases h
theorem buildSliceE_ok (hE : E.Ok P) {T : Table} {id : Nat} {t : TypeId} {n : Nat} {ps : List (Nat × AV)} {r : AV × Table} (h : buildSliceE E T id t n ps = some r) : evBuildSlice P T id t n ps = some r := by
  unfold buildSliceE at h
  unfold evBuildSlice
  split at h
  · rename_i e hu
    simp only [hE.un _ _ hu]
    split at h
    · rename_i ht; simp only [hE.ti _ _ ht]; exact h
    · cases h
  · cases h
theorem fieldE_ok (hE : E.Ok P) {t : TypeId} {x : AV} {f : Nat} {r : AV} (h : fieldE E t x f = some r) : evField P t x f = some r := by
  unfold fieldE at h
  unfold evField
  split at h
  · rename_i fs cs hu
    simp only [hE.un _ _ hu]
    obtain ⟨fd, hf, h⟩ := Option.bind_eq_some_iff.1 h
    simp only [hf, Option.bind_some]
    unfold partA
    split at h
    · rename_i hu2
      rw [agg_of (hE.un _ _ hu2)]
      split at h
      · rename_i ht; simp only [hE.ti _ _ ht]; exact h
      · cases h
    · rename_i hu2
      rw [agg_of (hE.un _ _ hu2)]
      split at h
      · rename_i ht; simp only [hE.ti _ _ ht]; exact h
      · cases h
    · rename_i d h1 h2 hu2
      rw [agg_of (hE.un _ _ hu2)]
      cases d with
      | struct fs => exact absurd rfl (h1 fs)
      | array n e => exact absurd rfl (h2 n e)
      | _ => exact h
    · cases h
  · cases h

theorem evE_ok (hE : E.Ok P) {T : Table} {id : Nat} {ρ : Operand → Option AV} {ty : TypeId} {op : Op} {r : AV × Table} (h : evE E T id ρ ty op = some r) : evOp P T id ρ ty op = some r := by
  have mp : ∀ {a b : Option AV}, (∀ x, a = some x → b = some x) → a.map (·, T) = some r → b.map (·, T) = some r := by
    intro a b hab h
    obtain ⟨x, hx, rfl⟩ := Option.map_eq_some_iff.1 h
    rw [hab x hx]; rfl
  cases op with
  | alloc e =>
    simp only [evE] at h
    simp only [evOp]
    split at h
    · rename_i ht
      simp only [hE.ti _ _ ht]
      split at h
      · rename_i hc; rw [if_pos hc]; exact boxE_ok hE h
      · cases h
    · cases h
  | box e x =>
    obtain ⟨a, ha, h⟩ := Option.bind_eq_some_iff.1 h
    exact Option.bind_eq_some_iff.2 ⟨a, ha, boxE_ok hE h⟩
  | build t ps =>
    obtain ⟨a, ha, h⟩ := Option.bind_eq_some_iff.1 h
    exact Option.bind_eq_some_iff.2 ⟨a, ha, mp (fun x hx => buildE_ok hE hx) h⟩
  | buildSlice t n ps =>
    obtain ⟨a, ha, h⟩ := Option.bind_eq_some_iff.1 h
    exact Option.bind_eq_some_iff.2 ⟨a, ha, buildSliceE_ok hE h⟩
  | load t x =>
    obtain ⟨a, ha, h⟩ := Option.bind_eq_some_iff.1 h
    refine Option.bind_eq_some_iff.2 ⟨a, ha, mp (fun y hy => ?_) h⟩
    obtain ⟨cs, hc, hy⟩ := Option.bind_eq_some_iff.1 hy
    exact Option.bind_eq_some_iff.2 ⟨cs, cellsE_ok hE hc, ofE_ok hE hy⟩
  | store t x y =>
    obtain ⟨a, ha, h⟩ := Option.bind_eq_some_iff.1 h
    obtain ⟨b, hb, h⟩ := Option.bind_eq_some_iff.1 h
    obtain ⟨T', hT', rfl⟩ := Option.map_eq_some_iff.1 h
    exact Option.bind_eq_some_iff.2 ⟨a, ha, Option.bind_eq_some_iff.2 ⟨b, hb, Option.map_eq_some_iff.2 ⟨T', storeE_ok hE hT', rfl⟩⟩⟩
  | binOp o t x y yt =>
    obtain ⟨a, ha, h⟩ := Option.bind_eq_some_iff.1 h
    obtain ⟨b, hb, h⟩ := Option.bind_eq_some_iff.1 h
    exact Option.bind_eq_some_iff.2 ⟨a, ha, Option.bind_eq_some_iff.2 ⟨b, hb, mp (fun z hz => hE.bin _ _ _ _ _ _ _ hz) h⟩⟩
  | unOp o t x =>
    obtain ⟨a, ha, h⟩ := Option.bind_eq_some_iff.1 h
    refine Option.bind_eq_some_iff.2 ⟨a, ha, ?_⟩
    obtain ⟨y, hy, rfl⟩ := Option.map_eq_some_iff.1 h
    obtain ⟨u, hu, hy⟩ := Option.bind_eq_some_iff.1 (hE.una _ _ _ hy)
    exact Option.bind_eq_some_iff.2 ⟨u, hu, by rw [hy]; rfl⟩
  | convert s d x =>
    obtain ⟨a, ha, h⟩ := Option.bind_eq_some_iff.1 h
    refine Option.bind_eq_some_iff.2 ⟨a, ha, ?_⟩
    obtain ⟨y, hy, rfl⟩ := Option.map_eq_some_iff.1 h
    have := hE.conv _ _ _ _ _ hy
    cases a <;> simp only at this ⊢ <;> rw [this] <;> rfl
  | makeSlice t l c =>
    obtain ⟨a, ha, h⟩ := Option.bind_eq_some_iff.1 h
    obtain ⟨b, hb, h⟩ := Option.bind_eq_some_iff.1 h
    exact Option.bind_eq_some_iff.2 ⟨a, ha, Option.bind_eq_some_iff.2 ⟨b, hb, hE.mak _ _ _ _ _ _ h⟩⟩
  | slice t x lo hi m =>
    cases m with
    | some m => exact hE.oth _ _ _ _ _ _ h
    | none =>
      obtain ⟨a, ha, h⟩ := Option.bind_eq_some_iff.1 h
      obtain ⟨b, hb, h⟩ := Option.bind_eq_some_iff.1 h
      obtain ⟨c, hc, h⟩ := Option.bind_eq_some_iff.1 h
      exact Option.bind_eq_some_iff.2 ⟨a, ha, Option.bind_eq_some_iff.2 ⟨b, hb, Option.bind_eq_some_iff.2 ⟨c, hc, mp (fun z hz => hE.slc _ _ _ _ _ _ hz) h⟩⟩⟩
  | fieldAddr s x f =>
    obtain ⟨a, ha, h⟩ := Option.bind_eq_some_iff.1 h
    exact Option.bind_eq_some_iff.2 ⟨a, ha, mp (fun z hz => faddrE_ok hE hz) h⟩
  | field t x f =>
    obtain ⟨a, ha, h⟩ := Option.bind_eq_some_iff.1 h
    exact Option.bind_eq_some_iff.2 ⟨a, ha, mp (fun z hz => fieldE_ok hE hz) h⟩
  | indexAddr t x i =>
    obtain ⟨a, ha, h⟩ := Option.bind_eq_some_iff.1 h
    obtain ⟨b, hb, h⟩ := Option.bind_eq_some_iff.1 h
    exact Option.bind_eq_some_iff.2 ⟨a, ha, Option.bind_eq_some_iff.2 ⟨b, hb, mp (fun z hz => iaddrE_ok hE hz) h⟩⟩
  | index t x i =>
    obtain ⟨a, ha, h⟩ := Option.bind_eq_some_iff.1 h
    obtain ⟨b, hb, h⟩ := Option.bind_eq_some_iff.1 h
    refine Option.bind_eq_some_iff.2 ⟨a, ha, Option.bind_eq_some_iff.2 ⟨b, hb, ?_⟩⟩
    obtain ⟨y, hy, rfl⟩ := Option.map_eq_some_iff.1 h
    have := hE.ixv _ _ _ _ hy
    cases a <;> cases b <;> simp only at this ⊢ <;> rw [this] <;> rfl
  | call c =>
    obtain ⟨callee, args, ts⟩ := c
    cases callee with
    | value f => exact hE.oth _ _ _ _ _ _ h
    | invoke r m => exact hE.oth _ _ _ _ _ _ h
    | builtin b =>
      simp only [evE] at h
      split at h
      · rename_i x t hargs hts
        simp only [evOp, evBuiltin, hargs, hts]
        obtain ⟨a, ha, h⟩ := Option.bind_eq_some_iff.1 h
        exact Option.bind_eq_some_iff.2 ⟨a, ha, mp (fun z hz => lenE_ok hE hz) h⟩
      · rename_i s x t u hargs hts
        simp only [evOp, evBuiltin, hargs, hts]
        obtain ⟨a, ha, h⟩ := Option.bind_eq_some_iff.1 h
        obtain ⟨c, hc, h⟩ := Option.bind_eq_some_iff.1 h
        exact Option.bind_eq_some_iff.2 ⟨a, ha, Option.bind_eq_some_iff.2 ⟨c, hc, hE.app _ _ _ _ _ _ _ h⟩⟩
      · rename_i s x t u hargs hts
        simp only [evOp, evBuiltin, hargs, hts]
        obtain ⟨a, ha, h⟩ := Option.bind_eq_some_iff.1 h
        obtain ⟨c, hc, h⟩ := Option.bind_eq_some_iff.1 h
        exact Option.bind_eq_some_iff.2 ⟨a, ha, Option.bind_eq_some_iff.2 ⟨c, hc, hE.cpy _ _ _ _ _ h⟩⟩
      · exact hE.oth _ _ _ _ _ _ h
  | nilCheck x =>
    obtain ⟨a, ha, h⟩ := Option.bind_eq_some_iff.1 h
    refine Option.bind_eq_some_iff.2 ⟨a, ha, ?_⟩
    cases a with
    | ptr i j k => rw [if_pos (.inl rfl)]; exact h
    | rp cs => rw [if_pos (.inl rfl)]; exact h
    | _ => cases h
  | move x => exact h
  | assign x => exact h
  | pick c a b => exact h
  | extract x i => exact h
  | _ => exact hE.oth _ _ _ _ _ _ h
end Go.Proofs.Ytnceadbfgpiaaaa.G
