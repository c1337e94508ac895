/- All operations of the abstract machine, and that the model's own operation does just this. Plain theorems over any program. -/
import Derived.Test.YtnceadbfgpiaaaaG8
import Derived.Laws.BytesString
import Derived.Laws.StructEq
namespace Go.Proofs.Ytnceadbfgpiaaaa.G
set_option linter.unusedVariables false
set_option linter.unusedSimpArgs false
open Go
variable {P : Program} {w w' : World} {L L' : Nat → Prop} {μ μ' : Map} {T T' : Table}

/-! ### What needs no memory -/
def flats : List AV → Option (List Value)
  | [] => some []
  | .flat v :: l => (flats l).map (v :: ·)
  | _ => none
def AV.val? : AV → Option Value
  | .flat v => some v
  | .agg cs => (flats cs).map fun l => .agg l.toArray
  | _ => none

theorem flats_sound : ∀ (xs : List AV) (us : List Value) (vs : List Value), us.length = xs.length → (∀ (i : Nat) (x : AV), xs[i]? = some x → ∃ u, us[i]? = some u ∧ VRel w L μ u x) → flats xs = some vs → us = vs := by
  intro xs
  induction xs with
  | nil => intro us vs hl _ h; simp only [flats, Option.some.injEq] at h; subst h; exact List.eq_nil_of_length_eq_zero hl
  | cons x xs ih =>
    intro us vs hl hr h
    cases us with
    | nil => simp at hl
    | cons u us =>
      cases x with
      | flat v =>
        simp only [flats] at h
        obtain ⟨l, hl', rfl⟩ := Option.map_eq_some_iff.1 h
        obtain ⟨u', hu', hv⟩ := hr 0 (.flat v) rfl
        simp at hu'
        subst hu'
        cases hv with
        | flat v _ => rw [ih us l (by simpa using hl) (fun i x hx => hr (i + 1) x hx) hl']
      | _ => cases h

theorem val_sound {v u : Value} {x : AV} (hv : VRel w L μ v x) (h : x.val? = some u) : v = u := by
  cases hv with
  | flat v _ => simpa [AV.val?] using h
  | @agg _ cs l hl hr =>
    simp only [AV.val?] at h
    obtain ⟨us, hus, rfl⟩ := Option.map_eq_some_iff.1 h
    have := flats_sound (w := w) (L := L) (μ := μ) l cs.toList us (by simpa using hl) (fun i x hx => ⟨cs.getD i undef, by
      have hlt : i < cs.size := by rw [hl]; exact (List.getElem?_eq_some_iff.1 hx).1
      simp [Array.getD, hlt], hr i x hx⟩) hus
    rw [← this]
  | tup => cases h
  | ro => cases h
  | rp => cases h
  | sl => cases h
  | ptr => cases h

def evP (P : Program) (m : Sem Value) : Option AV := (evPure P m).bind fun v => if notAgg v = true then some (.flat v) else none
theorem evP_gives (hT : TRel P w L μ T) {id : Nat} {m : Sem Value} {y : AV} (h : evP P m = some y) : Gives P w L μ T id m y T := by
  unfold evP at h
  obtain ⟨v, hv, h⟩ := Option.bind_eq_some_iff.1 h
  split at h
  · rename_i hn
    obtain rfl := Option.some.inj h
    exact Gives.same hT (evPure_run hv) (.flat v hn)
  · cases h

/-! ### Comparing structs of plain fields -/
def eqCell : Value → Value → Option Bool
  | .bool a, .bool b => some (a == b)
  | .int k a, .int k' b => if k = k' then some (a == b) else none
  | .string a, .string b => some (a == b)
  | _, _ => none
def plainT : TypeDesc → Bool
  | .bool | .int _ | .string => true
  | _ => false
def fitsT : TypeDesc → Value → Bool
  | .bool, .bool _ | .int _, .int _ _ | .string, .string _ => true
  | _, _ => false
def eqFields (P : Program) (xs ys : Array Value) : List Field → Option Bool
  | [] => some true
  | f :: fs =>
    match P.underlying f.type, xs[f.offset]?, ys[f.offset]? with
    | some d, some x, some y => if f.name ≠ "_" ∧ fitsT d x = true ∧ fitsT d y = true then (eqCell x y).bind fun b => (eqFields P xs ys fs).map fun r => b && r else none
    | _, _, _ => none

theorem run_equalIn_cell {t : TypeId} {d : TypeDesc} {x y : Value} {b : Bool} {n : Nat} (ht : P.underlying t = some d) (hx : fitsT d x = true) (hy : fitsT d y = true) (h : eqCell x y = some b) : (Op.equalIn (n + 1) t x y).run P w = .ok b w := by
  unfold Op.equalIn
  rw [run_bind _ _ (run_under ht)]
  cases d <;> cases x <;> first | (cases hx; done) | skip
  all_goals (cases y <;> first | (cases hy; done) | skip)
  · simp only [eqCell, Option.some.injEq] at h; subst h; rfl
  · simp only [eqCell] at h
    split at h
    · rename_i hk
      subst hk
      simp only [Option.some.injEq] at h; subst h
      simp only [if_true]
      rfl
    · cases h
  · simp only [eqCell, Option.some.injEq] at h; subst h; rfl

theorem aggT_fits {t : TypeId} {d : TypeDesc} {x : Value} (ht : P.underlying t = some d) (hx : fitsT d x = true) : aggT P t = some false := by
  unfold aggT
  rw [ht]
  cases d <;> first | rfl | (cases x <;> cases hx)

theorem run_part_cell {t : TypeId} {cs : Array Value} {off : Nat} {v : Value} (ha : aggT P t = some false) (h : cs[off]? = some v) : (part t cs off).run P w = .ok v w := by
  unfold part
  rw [run_bind _ _ (run_isAgg ha)]
  simp only [Bool.false_eq_true, if_false, h]
  rfl

theorem run_eqFields {xs ys : Array Value} {n : Nat} : ∀ (l : List Field) (b : Bool), eqFields P xs ys l = some b → (Op.eqFields (n + 1) xs ys l).run P w = .ok b w := by
  intro l
  induction l with
  | nil => intro b hb; simp only [eqFields, Option.some.injEq] at hb; subst hb; rfl
  | cons f l ih =>
    intro b hb
    simp only [eqFields] at hb
    split at hb
    · rename_i d x y hd hx hy
      split at hb
      · rename_i hc
        obtain ⟨hnm, hfx, hfy⟩ := hc
        obtain ⟨b1, hb1, hb⟩ := Option.bind_eq_some_iff.1 hb
        obtain ⟨b2, hb2, rfl⟩ := Option.map_eq_some_iff.1 hb
        have ha := aggT_fits hd hfx
        unfold Op.eqFields
        rw [if_pos hnm, run_bind _ _ (run_part_cell ha hx), run_bind _ _ (run_part_cell ha hy), run_bind _ _ (run_equalIn_cell hd hfx hfy hb1)]
        cases b1
        · rfl
        · simpa using ih b2 hb2
      · cases hb
    · cases hb

def eqStruct (P : Program) (t : TypeId) (xs ys : Array Value) : Option Bool :=
  match P.underlying t with
  | some (.struct fs) => if P.stoodInHeld t = false ∧ P.eqGuardType P.depth t = false then eqFields P xs ys fs.toList else none
  | _ => none

theorem run_eqGuard {op : BinOp} {t : TypeId} {x y : Operand} {xs ys : Array Value} (h : P.eqGuardType P.depth t = false) : (eqGuard op t x y (.agg xs) (.agg ys)).run P w = .ok () w := by
  cases op <;> first | rfl | simp [eqGuard, h]

theorem eqStruct_run {t : TypeId} {xs ys : Array Value} {b : Bool} (h : eqStruct P t xs ys = some b) : (Op.equal t (.agg xs) (.agg ys)).run P w = .ok b w ∧ P.eqGuardType P.depth t = false := by
  unfold eqStruct at h
  split at h
  · rename_i fs hu
    split at h
    · rename_i hc
      have hf : P.fieldsOf t = fs := by simp [Program.fieldsOf, hu]
      refine ⟨?_, hc.2⟩
      unfold Op.equal Op.maxDepth
      rw [Go.run_equalIn_struct (P := P) w 9999 t xs ys (by rw [hf]; exact hu) hc.1, hf]
      exact run_eqFields fs.toList b h
    · cases h
  · cases h

/-! ### Operators -/
def sliceLike : AV → Bool
  | .ro (_ :: _) => true
  | .sl _ _ (_ + 1) => true
  | _ => false
def ptrLike : AV → Bool
  | .ptr .. | .rp _ => true
  | _ => false
def isNilSl : AV → Bool
  | .flat (.slice none 0 0) => true
  | _ => false
def isNilPtr : AV → Bool
  | .flat (.pointer none) => true
  | _ => false

/-- A row, or memory, is compared with nil. -/
def evNil (P : Program) (t : TypeId) (a b : AV) : Bool :=
  match P.underlying t with
  | some (.slice _) => (sliceLike a && isNilSl b) || (isNilSl a && sliceLike b)
  | some (.pointer _) => (ptrLike a && isNilPtr b) || (isNilPtr a && ptrLike b)
  | _ => false

def evBin (P : Program) (op : BinOp) (t : TypeId) (x y : Operand) (a b : AV) : Option AV :=
  match op, a.val?, b.val? with
  | .eql, some (.agg xs), some (.agg ys) => (eqStruct P t xs ys).map fun r => .flat (.bool r)
  | .neq, some (.agg xs), some (.agg ys) => (eqStruct P t xs ys).map fun r => .flat (.bool (!r))
  | op, some u, some v => evP P (do eqGuard op t x y u v; binOp op t u v)
  | .eql, _, _ => if evNil P t a b = true then some (.flat (.bool false)) else none
  | .neq, _, _ => if evNil P t a b = true then some (.flat (.bool true)) else none
  | _, _, _ => none

theorem sliceLike_sound {v : Value} {x : AV} (hv : VRel w L μ v x) (h : sliceLike x = true) : ∃ a n c, v = .slice (some a) n c := by
  cases hv with
  | @ro _ A n c els sz U hn hc hs hA h1 hvr =>
    cases els with
    | nil => cases h
    | cons e els =>
      obtain ⟨a, rfl, _⟩ := hA (by simp at hn; omega)
      exact ⟨a, n, c, rfl⟩
  | @sl _ id off n v q hq hok =>
    cases n with
    | zero => cases h
    | succ n =>
      cases q with
      | none => obtain ⟨_, h0, _⟩ := hok; omega
      | some p =>
        obtain ⟨hle, A, rfl, hA⟩ := hok
        exact ⟨_, _, _, by rw [hA (by omega)]⟩
  | flat => cases h
  | agg => cases h
  | tup => cases h
  | rp => cases h
  | ptr => cases h
theorem ptrLike_sound {v : Value} {x : AV} (hv : VRel w L μ v x) (h : ptrLike x = true) : ∃ a, v = .pointer (some a) := by
  cases hv with
  | rp => exact ⟨_, rfl⟩
  | ptr => exact ⟨_, rfl⟩
  | flat => cases h
  | agg => cases h
  | tup => cases h
  | ro => cases h
  | sl => cases h
theorem isNilSl_sound {v : Value} {x : AV} (hv : VRel w L μ v x) (h : isNilSl x = true) : v = .slice none 0 0 := by
  cases hv with
  | flat v _ => 
    unfold isNilSl at h
    split at h
    · rename_i he; injection he
    · cases h
  | _ => cases h
theorem isNilPtr_sound {v : Value} {x : AV} (hv : VRel w L μ v x) (h : isNilPtr x = true) : v = .pointer none := by
  cases hv with
  | flat v _ => 
    unfold isNilPtr at h
    split at h
    · rename_i he; injection he
    · cases h
  | _ => cases h

theorem eqIn_sl1 {d : Nat} {t e : TypeId} {a : Addr} {n c : Nat} (ht : P.underlying t = some (.slice e)) : (Op.equalIn (d + 1) t (.slice (some a) n c) (.slice none 0 0)).run P w = .ok false w := by
  unfold Op.equalIn
  rw [run_bind _ _ (run_under ht)]
  rfl
theorem eqIn_sl2 {d : Nat} {t e : TypeId} {a : Addr} {n c : Nat} (ht : P.underlying t = some (.slice e)) : (Op.equalIn (d + 1) t (.slice none 0 0) (.slice (some a) n c)).run P w = .ok false w := by
  unfold Op.equalIn
  rw [run_bind _ _ (run_under ht)]
  rfl
theorem eqIn_pt1 {d : Nat} {t e : TypeId} {a : Addr} (ht : P.underlying t = some (.pointer e)) : (Op.equalIn (d + 1) t (.pointer (some a)) (.pointer none)).run P w = .ok false w := by
  unfold Op.equalIn
  rw [run_bind _ _ (run_under ht)]
  rfl
theorem eqIn_pt2 {d : Nat} {t e : TypeId} {a : Addr} (ht : P.underlying t = some (.pointer e)) : (Op.equalIn (d + 1) t (.pointer none) (.pointer (some a))).run P w = .ok false w := by
  unfold Op.equalIn
  rw [run_bind _ _ (run_under ht)]
  rfl
theorem evNil_sound {t : TypeId} {u v : Value} {a b : AV} (hu : VRel w L μ u a) (hv : VRel w L μ v b) (h : evNil P t a b = true) : (Op.equal t u v).run P w = .ok false w ∧ (∀ op x y, (eqGuard op t x y u v).run P w = .ok () w) ∧
    ((∃ a n c, u = .slice a n c) ∨ ∃ a, u = .pointer a) := by
  unfold evNil at h
  split at h
  · rename_i e ht
    rw [Bool.or_eq_true, Bool.and_eq_true, Bool.and_eq_true] at h
    rcases h with ⟨h1, h2⟩ | ⟨h1, h2⟩
    · obtain ⟨a, n, c, rfl⟩ := sliceLike_sound hu h1
      obtain rfl := isNilSl_sound hv h2
      refine ⟨?_, fun op x y => ?_, .inl ⟨_, _, _, rfl⟩⟩
      · exact eqIn_sl1 (d := 9999) ht
      · cases op <;> rfl
    · obtain ⟨a, n, c, rfl⟩ := sliceLike_sound hv h2
      obtain rfl := isNilSl_sound hu h1
      refine ⟨?_, fun op x y => ?_, .inl ⟨_, _, _, rfl⟩⟩
      · exact eqIn_sl2 (d := 9999) ht
      · cases op <;> rfl
  · rename_i e ht
    rw [Bool.or_eq_true, Bool.and_eq_true, Bool.and_eq_true] at h
    rcases h with ⟨h1, h2⟩ | ⟨h1, h2⟩
    · obtain ⟨a, rfl⟩ := ptrLike_sound hu h1
      obtain rfl := isNilPtr_sound hv h2
      refine ⟨?_, fun op x y => ?_, .inr ⟨_, rfl⟩⟩
      · exact eqIn_pt1 (d := 9999) ht
      · cases op <;> rfl
    · obtain ⟨a, rfl⟩ := ptrLike_sound hv h2
      obtain rfl := isNilPtr_sound hu h1
      refine ⟨?_, fun op x y => ?_, .inr ⟨_, rfl⟩⟩
      · exact eqIn_pt2 (d := 9999) ht
      · cases op <;> rfl
  · cases h

theorem evBin_gives (hT : TRel P w L μ T) {id : Nat} {op : BinOp} {t : TypeId} {x y : Operand} {a b z : AV} {u v : Value} (hu : VRel w L μ u a) (hv : VRel w L μ v b) (h : evBin P op t x y a b = some z) :
    Gives P w L μ T id (do eqGuard op t x y u v; binOp op t u v) z T := by
  unfold evBin at h
  split at h
  · rename_i xs ys ha hb
    obtain ⟨r, hr, rfl⟩ := Option.map_eq_some_iff.1 h
    obtain rfl := val_sound hu ha
    obtain rfl := val_sound hv hb
    obtain ⟨h1, h2⟩ := eqStruct_run (w := w) hr
    refine Gives.same hT ?_ (.flat _ rfl)
    rw [run_bind _ _ (run_eqGuard h2)]
    exact (run_bind _ _ h1)
  · rename_i xs ys ha hb
    obtain ⟨r, hr, rfl⟩ := Option.map_eq_some_iff.1 h
    obtain rfl := val_sound hu ha
    obtain rfl := val_sound hv hb
    obtain ⟨h1, h2⟩ := eqStruct_run (w := w) hr
    refine Gives.same hT ?_ (.flat _ rfl)
    rw [run_bind _ _ (run_eqGuard h2)]
    exact (run_bind _ _ h1)
  · rename_i u' v' _ _ ha hb
    obtain rfl := val_sound hu ha
    obtain rfl := val_sound hv hb
    exact evP_gives hT h
  · split at h
    · rename_i hn
      obtain rfl := Option.some.inj h
      obtain ⟨h1, h2, h3⟩ := evNil_sound hu hv hn
      refine Gives.same hT ?_ (.flat _ rfl)
      rw [run_bind _ _ (h2 _ _ _)]
      rcases h3 with ⟨a, n, c, rfl⟩ | ⟨a, rfl⟩
      · cases v <;> exact (run_bind _ _ h1)
      · cases v <;> exact (run_bind _ _ h1)
    · cases h
  · split at h
    · rename_i hn
      obtain rfl := Option.some.inj h
      obtain ⟨h1, h2, h3⟩ := evNil_sound hu hv hn
      refine Gives.same hT ?_ (.flat _ rfl)
      rw [run_bind _ _ (h2 _ _ _)]
      rcases h3 with ⟨a, n, c, rfl⟩ | ⟨a, rfl⟩
      · cases v <;> exact (run_bind _ _ h1)
      · cases v <;> exact (run_bind _ _ h1)
    · cases h
  · cases h
end Go.Proofs.Ytnceadbfgpiaaaa.G
