/- The abstract machine's operations on addresses and slices, and that the model's own operations do just this. Plain theorems over any program. -/
import Derived.Test.YtnceadbfgpiaaaaG4
namespace Go.Proofs.Ytnceadbfgpiaaaa.G
set_option linter.unusedVariables false
set_option linter.unusedSimpArgs false
open Go
variable {P : Program} {w w' : World} {L L' : Nat → Prop} {μ μ' : Map} {T T' : Table}

theorem run_sureAddr (a : Addr) : (Instr.sureAddr (.pointer (some a))).run P w = .ok a w := rfl
theorem run_asIntOf (k : IntKind) (n : Int) : (asIntOf (.int k n)).run P w = .ok (k, n) w := rfl
theorem run_asAgg (cs : Array Value) : (asAgg (.agg cs)).run P w = .ok cs w := rfl

/-- Cells as they lie from an address on. -/
def cellsAt (T : Table) : AV → Option (List AV)
  | .ptr id i off => (T id).bind fun r => (r.els[i]?).bind fun e => if off ≤ e.length then some (e.drop off) else none
  | .rp cs => some cs
  | _ => none

theorem cellsAt_sound (hT : TRel P w L μ T) {v : Value} {x : AV} (hv : VRel w L μ v x) {cs : List AV} (h : cellsAt T x = some cs) :
    ∃ a, v = .pointer (some a) ∧ ∀ j y, cs[j]? = some y → ∃ u, w.cell? (a.add j) = some u ∧ u.oneCell' = true ∧ VRel w L μ u y := by
  cases hv with
  | @ptr _ id i off p hq =>
    simp only [cellsAt] at h
    obtain ⟨r, hr, h⟩ := Option.bind_eq_some_iff.1 h
    obtain ⟨e, he, h⟩ := Option.bind_eq_some_iff.1 h
    split at h
    · rename_i hle
      obtain rfl := Option.some.inj h
      refine ⟨_, rfl, fun j y hy => ?_⟩
      obtain ⟨cur, hg, hsz, hc⟩ := (hT.cell hr hq).cur
      rw [List.getElem?_drop] at hy
      obtain ⟨u, hu, h1, hv⟩ := hc i e (off + j) y he hy
      refine ⟨u, ?_, h1, hv⟩
      rw [add_lit, cell_of_row w p.g _ cur r.elem (0, 0) hg, ← hu]
      congr 1; omega
    · cases h
  | @rp _ a cs0 U hL hb hc h1 hvr =>
    simp only [cellsAt, Option.some.injEq] at h
    subst h
    exact ⟨a, rfl, fun j y hy => ⟨U j, hc j (List.getElem?_eq_some_iff.1 hy).1, h1 j (List.getElem?_eq_some_iff.1 hy).1, (hvr j y hy).up⟩⟩
  | flat => cases h
  | agg => cases h
  | tup => cases h
  | ro => cases h
  | sl => cases h

/-- A variable's value out of its cells. -/
def ofCells (P : Program) (t : TypeId) (cs : List AV) : Option AV :=
  match aggT P t with
  | some true => match tinfo P t with
    | some (_, sz, _) => if sz ≤ cs.length then some (.agg (cs.take sz)) else none
    | none => none
  | some false => cs[0]?
  | none => none

theorem ofCells_sound {t : TypeId} {a : Addr} {cs : List AV} (hc : ∀ (j : Nat) (y : AV), cs[j]? = some y → ∃ u, w.cell? (a.add j) = some u ∧ u.oneCell' = true ∧ VRel w L μ u y) {y : AV} (h : ofCells P t cs = some y) :
    ∃ v, (loadVar t a).run P w = .ok v w ∧ VRel w L μ v y := by
  unfold ofCells at h
  split at h
  · rename_i ha
    split at h
    · rename_i z sz b ht
      obtain ⟨i, hi, _, hs, _, _⟩ := tinfo_some ht
      split at h
      · rename_i hle
        obtain rfl := Option.some.inj h
        let us : List Value := (List.range sz).map fun j => (w.cell? (a.add j)).getD undef
        have hus : ∀ (j : Nat) v, us[j]? = some v → w.cell? (a.add j) = some v := by
          intro j v hj
          simp only [us, List.getElem?_map] at hj
          obtain ⟨k, hk, rfl⟩ := Option.map_eq_some_iff.1 hj
          have hlt := (List.getElem?_eq_some_iff.1 hk).1
          rw [List.getElem?_range (by simpa using hlt)] at hk
          obtain rfl := Option.some.inj hk
          simp at hlt
          obtain ⟨u, hu, _⟩ := hc j cs[j] (List.getElem?_eq_getElem (by omega))
          rw [hu]; rfl
        refine ⟨.agg us.toArray, run_loadVar_agg ha hi (by simp [us, hs]) hus, .agg (by simp [us, List.length_take]; omega) fun j x hx => ?_⟩
        rw [List.getElem?_take] at hx
        split at hx
        · rename_i hj
          obtain ⟨u, hu, _, hv⟩ := hc j x hx
          have : us.toArray.getD j undef = u := by simp [us, Array.getD, hj, hu]
          rw [this]; exact hv
        · cases hx
      · cases h
    · cases h
  · rename_i ha
    obtain ⟨u, hu, _, hv⟩ := hc 0 y h
    exact ⟨u, run_loadVar_one ha (by simpa [Addr.add] using hu), hv⟩
  · cases h

def evLoad (P : Program) (T : Table) (t : TypeId) (x : AV) : Option AV := (cellsAt T x).bind (ofCells P t)

theorem evLoad_gives (hT : TRel P w L μ T) {id : Nat} {t : TypeId} {v : Value} {x y : AV} (hv : VRel w L μ v x) (h : evLoad P T t x = some y) : Gives P w L μ T id (Instr.loadAt t v) y T := by
  obtain ⟨cs, hcs, h⟩ := Option.bind_eq_some_iff.1 h
  obtain ⟨a, rfl, hc⟩ := cellsAt_sound hT hv hcs
  obtain ⟨u, hr, hu⟩ := ofCells_sound hc h
  refine Gives.same hT ?_ hu
  unfold Instr.loadAt
  exact (run_bind _ _ (run_ret a)).trans hr

def evStore (P : Program) (T : Table) (t : TypeId) (x y : AV) : Option Table :=
  match x, tinfo P t with
  | .ptr id i off, some (_, sz, _) => (T id).bind fun r => (r.els[i]?).bind fun e =>
    if y.cells.length = sz ∧ off + sz ≤ e.length ∧ y.cells.all AV.one = true then some (T.set id (some ⟨r.elem, r.els.set i (spl e off y.cells)⟩)) else none
  | _, _ => none

theorem evStore_gives (hT : TRel P w L μ T) {t : TypeId} {v u : Value} {x y : AV} (hv : VRel w L μ v x) (hu : VRel w L μ u y) (h : evStore P T t x y = some T') :
    ∃ w', (Instr.storeAt t v u).run P w = .ok () w' ∧ Ext w L μ T w' L μ T' ∧ TRel P w' L μ T' := by
  unfold evStore at h
  split at h
  · rename_i id i off z sz b ht
    obtain ⟨ti, hi, _, hs, _, _⟩ := tinfo_some ht
    obtain ⟨r, hr, h⟩ := Option.bind_eq_some_iff.1 h
    obtain ⟨e, he, h⟩ := Option.bind_eq_some_iff.1 h
    split at h
    · rename_i hc
      obtain ⟨hl, hfit, h1⟩ := hc
      obtain rfl := Option.some.inj h
      cases hv with
      | @ptr _ _ _ _ p hq =>
        have hrow := hT.cell hr hq
        obtain ⟨cur, hg, hsz, hcr⟩ := hrow.cur
        have hcu := hu.cells
        have hul := hcu.1
        have hone : ∀ z ∈ u.cells.toList, z.oneCell' = true := by
          intro z hz
          obtain ⟨j, hj, rfl⟩ := List.mem_iff_getElem.1 hz
          obtain ⟨u', hu', hv'⟩ := hcu.2 j y.cells[j] (List.getElem?_eq_getElem (by omega))
          rw [List.getElem?_eq_getElem hj] at hu'
          obtain rfl := Option.some.inj hu'
          exact hv'.one (List.all_eq_true.1 h1 _ (List.getElem_mem _))
        have hei := (List.getElem?_eq_some_iff.1 he).1
        have hel : e.length = p.sz := hrow.sz e (List.mem_of_getElem? he)
        have hlen := hrow.len
        have hil := mul_lt_lem (sz := p.sz) (show i < p.cap by omega)
        have hlm : r.els.length * p.sz ≤ p.cap * p.sz := Nat.mul_le_mul_right _ hlen
        have hus : u.cells.size = sz := by simp at hul; omega
        have hw := CurRel.write (w := w) (L := L) (μ := μ) (cur := cur) (b := p.b) hcr hrow.sz he (o := off) hcu (fun x hx => List.all_eq_true.1 h1 x hx) (by omega) (by omega)
        have hst := run_storeVar (P := P) (w := w) (v := u) (g := p.g) (o := p.b + i * p.sz + off) hi (by omega) hg (by omega) hone
        obtain ⟨q1, q2⟩ := store_core hT hr hq hg (cur' := (cur.toList.take (p.b + i * p.sz + off) ++ u.cells.toList ++ cur.toList.drop (p.b + i * p.sz + off + u.cells.toList.length)).toArray)
          (by simp; omega) hw (by simpa using hlen) (by
            intro e' he'
            rcases List.mem_or_eq_of_mem_set he' with h | rfl
            · exact hrow.sz e' h
            · rw [length_spl (by omega)]; exact hel)
        refine ⟨_, ?_, q1, q2⟩
        unfold Instr.storeAt
        rw [run_bind _ _ (run_sureAddr _)]
        simpa using hst
    · cases h
  · cases h

def intOf : AV → Option Int
  | .flat (.int _ n) => some n
  | _ => none

def evIndexAddr (P : Program) (T : Table) (t : TypeId) (x ix : AV) : Option AV :=
  match P.underlying t, intOf ix with
  | some (.slice e), some n =>
    match tinfo P e with
    | some (_, sz, _) =>
      match x with
      | .ro els => if 0 ≤ n then (els[n.toNat]?).bind fun c => if c.length = sz then some (.rp c) else none else none
      | .sl id off m => (T id).bind fun r => if 0 ≤ n ∧ n < m ∧ P.cellsOf r.elem = sz then some (.ptr id (off + n.toNat) 0) else none
      | _ => none
    | none => none
  | some (.array len e), some n =>
    match tinfo P e with
    | some (_, sz, _) =>
      match x with
      | .ptr id i off => if 0 ≤ n ∧ n < len then some (.ptr id i (off + n.toNat * sz)) else none
      | .rp cs => if 0 ≤ n ∧ n < len ∧ n.toNat * sz ≤ cs.length then some (.rp (cs.drop (n.toNat * sz))) else none
      | _ => none
    | none => none
  | _, _ => none

theorem intOf_rel {v : Value} {x : AV} (hv : VRel w L μ v x) {n : Int} (h : intOf x = some n) : ∃ k, v = .int k n := by
  unfold intOf at h
  split at h
  · cases hv with
    | flat v hv => exact ⟨_, by rw [Option.some.inj h]⟩
  · cases h

theorem VRel.drop_rp {a : Addr} {cs : List AV} (h : VRel w L μ (.pointer (some a)) (.rp cs)) (k : Nat) : VRel w L μ (.pointer (some (a.add k))) (.rp (cs.drop k)) := by
  cases h with
  | rp U hL hb hc h1 hvr =>
    refine .rp (fun j => U (k + j)) (by rw [add_block]; exact hL) (by rw [add_block]; exact hb) (fun j hj => ?_) (fun j hj => h1 _ (by simp at hj; omega)) fun j x hx => ?_
    · rw [add_add]; exact hc _ (by simp at hj; omega)
    · rw [List.getElem?_drop] at hx
      exact hvr _ x hx

theorem evIndexAddr_gives (hT : TRel P w L μ T) {id : Nat} {t : TypeId} {v u : Value} {x ix y : AV} (hv : VRel w L μ v x) (hu : VRel w L μ u ix) (h : evIndexAddr P T t x ix = some y) :
    Gives P w L μ T id (Instr.indexAt t v u) y T := by
  unfold evIndexAddr at h
  split at h
  · rename_i e n ht hn
    obtain ⟨k, rfl⟩ := intOf_rel hu hn
    split at h
    · rename_i z sz b hti
      obtain ⟨i, hi, _, hs, _, _⟩ := tinfo_some hti
      split at h
      · rename_i els
        split at h
        · rename_i h0
          obtain ⟨c, hc, h⟩ := Option.bind_eq_some_iff.1 h
          split at h
          · rename_i hcl
            obtain rfl := Option.some.inj h
            cases hv with
            | ro sz0 U hn' hcap hsz hA h1 hvr =>
              have hlt := (List.getElem?_eq_some_iff.1 hc).1
              have hsz0 : sz0 = sz := by rw [← hsz c (List.mem_of_getElem? hc), hcl]
              subst hsz0
              obtain ⟨a, rfl, hLa, hb, hcell⟩ := hA (by omega)
              refine Gives.same hT (run_indexAt_slice ht hi h0 (by omega)) ?_
              rw [hs]
              refine .rp (fun j => U n.toNat j) (by rw [add_block]; exact hLa) (by rw [add_block]; exact hb) (fun j hj => ?_) (fun j hj => h1 _ _ (by omega) (by omega)) fun j x hx => hvr _ _ _ x hc hx
              rw [add_add]; exact hcell _ _ (by omega) (by omega)
          · cases h
        · cases h
      · rename_i id' off m
        obtain ⟨r, hr, h⟩ := Option.bind_eq_some_iff.1 h
        split at h
        · rename_i hc
          obtain ⟨h0, hm, hcs⟩ := hc
          obtain rfl := Option.some.inj h
          cases hv with
          | @sl _ _ _ _ _ q hq hok =>
            cases q with
            | none => obtain ⟨_, rfl, _⟩ := hok; omega
            | some p =>
              obtain ⟨hle, A, rfl, hA⟩ := hok
              have hA' := hA (by omega)
              subst hA'
              have hszp := (hT.cell hr hq).szT
              refine Gives.same hT (run_indexAt_slice ht hi h0 (by omega)) ?_
              have := VRel.ptr (w := w) (L := L) (μ := μ) (i := off + n.toNat) (off := 0) hq
              rw [add_lit, hs, ← hcs, ← hszp]
              have e1 : p.b + off * p.sz + n.toNat * p.sz = p.b + (off + n.toNat) * p.sz + 0 := by rw [Nat.add_mul]; omega
              rw [e1]; exact this
        · cases h
      · cases h
    · cases h
  · rename_i len e n ht hn
    obtain ⟨k, rfl⟩ := intOf_rel hu hn
    split at h
    · rename_i z sz b hti
      obtain ⟨i, hi, _, hs, _, _⟩ := tinfo_some hti
      split at h
      · rename_i id' i' off
        split at h
        · rename_i hc
          obtain rfl := Option.some.inj h
          cases hv with
          | @ptr _ _ _ _ p hq =>
            refine Gives.same hT (run_indexAt_array ht hi hc.1 hc.2) ?_
            rw [add_lit, hs, Nat.add_assoc]
            exact VRel.ptr hq
        · cases h
      · rename_i cs
        split at h
        · rename_i hc
          obtain rfl := Option.some.inj h
          obtain ⟨a, rfl⟩ : ∃ a, v = .pointer (some a) := by cases hv; exact ⟨_, rfl⟩
          refine Gives.same hT (run_indexAt_array ht hi hc.1 hc.2.1) ?_
          rw [hs]
          exact hv.drop_rp _
        · cases h
      · cases h
    · cases h
  · cases h

def evFieldAddr (P : Program) (s : TypeId) (x : AV) (f : Nat) : Option AV :=
  match P.underlying s with
  | some (.struct fs) => (fs[f]?).bind fun fd =>
    match tinfo P fd.type with
    | some (_, sz, _) => if sz = 0 then none else
      match x with
      | .ptr id i off => some (.ptr id i (off + fd.offset))
      | .rp cs => some (.rp (cs.drop fd.offset))
      | _ => none
    | none => none
  | _ => none

theorem evFieldAddr_gives (hT : TRel P w L μ T) {id : Nat} {s : TypeId} {v : Value} {x y : AV} {f : Nat} (hv : VRel w L μ v x) (h : evFieldAddr P s x f = some y) : Gives P w L μ T id (Instr.fieldAt s v f) y T := by
  unfold evFieldAddr at h
  split at h
  · rename_i fs hs
    obtain ⟨fd, hf, h⟩ := Option.bind_eq_some_iff.1 h
    split at h
    · rename_i z sz b hti
      obtain ⟨i, hi, _, hsz, _, _⟩ := tinfo_some hti
      split at h
      · cases h
      · rename_i hne
        split at h
        · obtain rfl := Option.some.inj h
          cases hv with
          | ptr hq =>
            refine Gives.same hT (run_fieldAt hs hf hi (by omega)) ?_
            rw [add_lit, Nat.add_assoc]
            exact VRel.ptr hq
        · obtain rfl := Option.some.inj h
          obtain ⟨a, rfl⟩ : ∃ a, v = .pointer (some a) := by cases hv; exact ⟨_, rfl⟩
          exact Gives.same hT (run_fieldAt hs hf hi (by omega)) (hv.drop_rp _)
        · cases h
    · cases h
  · cases h

def partA (P : Program) (t : TypeId) (cs : List AV) (off : Nat) : Option AV :=
  match aggT P t with
  | some true => match tinfo P t with
    | some (_, sz, _) => if off + sz ≤ cs.length then some (.agg ((cs.drop off).take sz)) else none
    | none => none
  | some false => cs[off]?
  | none => none

theorem getD_of {us : Array Value} {j : Nat} {u : Value} (h : us[j]? = some u) : us.getD j undef = u := by simp [Array.getD_eq_getD_getElem?, h]

theorem partA_sound {us : Array Value} {cs : List AV} (hl : us.size = cs.length) (hr : ∀ (i : Nat) (x : AV), cs[i]? = some x → VRel w L μ (us.getD i undef) x) {t : TypeId} {off : Nat} {y : AV} (h : partA P t cs off = some y) :
    ∃ v, (part t us off).run P w = .ok v w ∧ VRel w L μ v y := by
  unfold partA at h
  split at h
  · rename_i ha
    split at h
    · rename_i z sz b ht
      obtain ⟨i, hi, _, hs, _, _⟩ := tinfo_some ht
      split at h
      · rename_i hle
        obtain rfl := Option.some.inj h
        refine ⟨.agg (us.extract off (off + sz)), ?_, .agg (by simp; omega) fun j x hx => ?_⟩
        · unfold part
          rw [run_bind _ _ (run_isAgg ha)]
          simp only [if_true]
          rw [run_bind _ _ (run_size hi), hs]
          rfl
        · rw [List.getElem?_take] at hx
          split at hx
          · rename_i hj
            rw [List.getElem?_drop] at hx
            have h1 := hr _ x hx
            have e : (us.extract off (off + sz)).getD j undef = us.getD (off + j) undef := by
              have hlt : off + j < us.size := by omega
              rw [getD_of (us := us) (Array.getElem?_eq_getElem hlt)]
              apply getD_of
              rw [Array.getElem?_extract]
              rw [if_pos (by omega)]
              exact Array.getElem?_eq_getElem hlt
            rw [e]; exact h1
          · cases hx
      · cases h
    · cases h
  · rename_i ha
    have hlt := (List.getElem?_eq_some_iff.1 h).1
    refine ⟨us.getD off undef, ?_, hr _ _ h⟩
    unfold part
    rw [run_bind _ _ (run_isAgg ha)]
    have hg : us[off]? = some us[off] := Array.getElem?_eq_getElem (by omega)
    simp only [Bool.false_eq_true, if_false, hg]
    rw [getD_of hg]
    rfl
  · cases h

def evField (P : Program) (t : TypeId) (x : AV) (f : Nat) : Option AV :=
  match P.underlying t, x with
  | some (.struct fs), .agg cs => (fs[f]?).bind fun fd => partA P fd.type cs fd.offset
  | _, _ => none

theorem evField_gives (hT : TRel P w L μ T) {id : Nat} {t : TypeId} {v : Value} {x y : AV} {f : Nat} (hv : VRel w L μ v x) (h : evField P t x f = some y) : Gives P w L μ T id (Instr.field t v f) y T := by
  unfold evField at h
  split at h
  · rename_i fs cs hs
    obtain ⟨fd, hf, h⟩ := Option.bind_eq_some_iff.1 h
    cases hv with
    | agg hl hr =>
      obtain ⟨u, hu, hvu⟩ := partA_sound hl hr h
      refine Gives.same hT ?_ hvu
      unfold Instr.field
      rw [run_bind _ _ (run_under hs)]
      simp only [hf]
      exact (run_bind _ _ (run_ret _)).trans hu
  · cases h

def evIndexArr (P : Program) (t : TypeId) (x ix : AV) : Option AV :=
  match P.underlying t, x, intOf ix with
  | some (.array len e), .agg cs, some n => match tinfo P e with
    | some (_, sz, _) => if 0 ≤ n ∧ n < len then partA P e cs (n.toNat * sz) else none
    | none => none
  | _, _, _ => none

theorem evIndexArr_gives (hT : TRel P w L μ T) {id : Nat} {t : TypeId} {v u : Value} {x ix y : AV} (hv : VRel w L μ v x) (hu : VRel w L μ u ix) (h : evIndexArr P t x ix = some y) : Gives P w L μ T id (Instr.index t v u) y T := by
  unfold evIndexArr at h
  split at h
  · rename_i len e cs n ht hn
    obtain ⟨k, rfl⟩ := intOf_rel hu hn
    split at h
    · rename_i z sz b hti
      obtain ⟨i, hi, _, hs, _, _⟩ := tinfo_some hti
      split at h
      · rename_i hc
        cases hv with
        | agg hl hr =>
          obtain ⟨u, hu, hvu⟩ := partA_sound hl hr h
          refine Gives.same hT ?_ hvu
          unfold Instr.index
          rw [run_bind _ _ (run_asIntOf k n), run_bind _ _ (run_under ht)]
          simp only
          rw [if_pos hc, run_bind _ _ (run_size hi), hs]
          exact hu
      · cases h
    · cases h
  · cases h
end Go.Proofs.Ytnceadbfgpiaaaa.G
