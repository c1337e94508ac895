/- Contracts: bosketlaw14.awake; bosketref14.Before, Behind. Rows of one's own, handed on to be read. -/
import Derived.Test.YthilmgpciiopnaaK12
namespace Go.Proofs.Ythilmgpciiopnaa.K
set_option linter.unusedVariables false
set_option linter.unusedSimpArgs false
open Go G
set_option maxRecDepth 100000
set_option maxHeartbeats 4000000
theorem fn18 : Try.prog.funcs[18]? = some Try.f18 := by kernel_rfl
theorem fn22 : Try.prog.funcs[22]? = some Try.f22 := by kernel_rfl
theorem fn23 : Try.prog.funcs[23]? = some Try.f23 := by kernel_rfl
def Deeps (T : Table) (ids : List Nat) : List AV → List AV → Prop
  | [], [] => True
  | x :: l, y :: r => Deep T ids x y ∧ Deeps T ids l r
  | _, _ => False
theorem deeps_len {T : Table} {ids : List Nat} : ∀ {l r : List AV}, Deeps T ids l r → l.length = r.length ∧ ∀ (i : Nat) (x y : AV), l[i]? = some x → r[i]? = some y → Deep T ids x y
  | [], [], _ => ⟨rfl, fun i x y h => by simp at h⟩
  | x :: l, [], h => h.elim
  | [], y :: r, h => h.elim
  | x :: l, y :: r, h => by
    obtain ⟨h1, h2⟩ := deeps_len h.2
    refine ⟨by simp [h1], fun i a b ha hb => ?_⟩
    cases i with
    | zero => simp at ha hb; subst ha hb; exact h.1
    | succ i => simp at ha hb; exact h2 i a b ha hb
theorem hands_deep {T : Table} {ids : List Nat} {args args' : List AV} {val : AV} {rows : List Row} (h : Deeps T ids args args') (hv : val.noRo = true) (hr : ∀ r ∈ rows, ∀ e ∈ r.els, ∀ x ∈ e, x.noRo1 = true) : Hands T ids args args' val rows :=
  .inr ⟨deeps_len h, hv, hr⟩
def flatRow (X : List (List AV)) : Prop := ∀ c ∈ X, ∀ x ∈ c, x.noId = true ∧ x.noRo1 = true
theorem deep_flat {T : Table} {ids : List Nat} {id n : Nat} {e : TypeId} {X : List (List AV)} (hid : id ∈ ids) (hT : T id = some ⟨e, X⟩) (hn : n = X.length) (hX : flatRow X) : Deep T ids (.sl id 0 n) (.ro X) := by
  subst hn
  refine .sl hid hT (by simp) rfl (fun i e e' h1 h2 => ?_) fun i e e' j x y h1 h2 hx hy => ?_
  · simp only [List.drop_zero] at h1; rw [h1] at h2; rw [Option.some.inj h2]
  · simp only [List.drop_zero] at h1; rw [h1] at h2; rw [← Option.some.inj h2, hx] at hy
    obtain rfl := Option.some.inj hy
    exact .id (hX e (List.mem_of_getElem? h1) x (List.mem_of_getElem? hx)).1
theorem flat_tok (l : List Tok) : flatRow (tokE l) := by
  intro c hc x hx
  obtain ⟨t, _, rfl⟩ := List.mem_map.1 hc
  simp only [tokC, List.mem_cons, List.not_mem_nil, or_false] at hx
  rcases hx with rfl | rfl | rfl <;> exact ⟨rfl, rfl⟩
theorem flat_int (l : List Int) : flatRow (intE l) := by
  intro c hc x hx
  obtain ⟨t, _, rfl⟩ := List.mem_map.1 hc
  simp only [List.mem_cons, List.not_mem_nil, or_false] at hx
  subst hx; exact ⟨rfl, rfl⟩
theorem notes_one : notesT [2] [⟨0, ⟨#[35]⟩, 0⟩] = [⟨⟨0, ⟨#[35]⟩, 0⟩, 0, true, false⟩] := by kernel_rfl
theorem awake_calls : ACalls Try.prog 18 [] (fun _ => .flat (.bool true)) (fun _ => []) := by
  refine acalls_sym tab_ok fn18 rfl rfl rfl (by kernel_rfl) ?_
  have hfin : ∀ st, resA Try.prog Try.f18 st = some (.flat (.bool true)) → G.Leaves Try.prog Try.f18 (fun _ => .flat (.bool true)) (fun _ => []) st := fun st h => G.Leaves.plain h rfl
  have hcallN : ACalls Try.prog 20 [.ro [[.flat (.int .i64 2)]], .ro [[.flat (.int .i64 0), .flat (.string ⟨#[35]⟩), .flat (.int .i64 0)]]] (fun n => .sl n 0 1) (fun _ => [⟨36, [[.flat (.int .i64 0), .flat (.string ⟨#[35]⟩), .flat (.int .i64 0), .flat (.int .i64 0), .flat (.bool true), .flat (.bool false)]]⟩]) := by
    have h := notes_calls [2] [⟨0, ⟨#[35]⟩, 0⟩] (by decide) (fun t ht => by simp at ht; subst ht; decide)
    rw [notes_one] at h
    exact h
  rintro ⟨lt, le, eq, se, ar, dv, una, conv, len, sln, nat, nth, ixs, cel, sto, app, cpy, slc, mak, ixv, oth, dk, ib, call⟩ hS hm Q hQ
  obtain ⟨hlt, hle, heq, hse, har, hdv, huna, hconv, hlen, hsln, hnat, hnth, hixs, hcel, hsto, happ, hcpy, hslc, hmak, hixv, hoth, hdk, hib, hcall⟩ := Sym.mk.inj hS
  clear hS
  have hbox : ∀ e c off, cel (some ⟨e, [c]⟩) 0 off = if off ≤ c.length then some (c.drop off) else none := fun e c off => by rw [hcel]; rfl
  have hsbox : ∀ e c off sz y, sto (some ⟨e, [c]⟩) 0 off sz y = if y.cells.length = sz ∧ off + sz ≤ c.length ∧ y.cells.all AV.one = true then some ⟨e, [spl c off y.cells]⟩ else none := fun e c off sz y => by rw [hsto]; rfl
  have hcal : ∀ {f args T base K}, CallK Try.prog f args T base K → call f args T base K := fun h => by rw [hcall]; exact h
  have hix : ∀ id c, ixs (some ⟨36, [c]⟩) id 0 1 0 6 = some (.ptr id 0 0) := fun id c => by
    rw [hixs, ixSl, Option.bind_some, if_pos ⟨by decide, by decide, by kernel_rfl⟩]; rfl
  have h11 : eq (nat 1) 1 = true := by rw [heq, hnat]; rfl
  have h00 : eq 0 0 = true := by rw [heq]; rfl
  cbv
  refine hcal ⟨[.ro [[.flat (.int .i64 2)]], .ro [[.flat (.int .i64 0), .flat (.string ⟨#[35]⟩), .flat (.int .i64 0)]]], [8, 24], _, _, hands_deep ⟨deep_flat (by simp) (by rfl) rfl (flat_int [2]), deep_flat (by simp) (by rfl) rfl (flat_tok [⟨0, ⟨#[35]⟩, 0⟩]), trivial⟩ rfl ?_, hcallN, by simp, ?_⟩
  · intro r hr e he x hx
    simp only [List.mem_cons, List.not_mem_nil, or_false] at hr
    subst hr
    simp only [List.mem_cons, List.not_mem_nil, or_false] at he
    subst he
    simp only [List.mem_cons, List.not_mem_nil, or_false] at hx
    rcases hx with rfl | rfl | rfl | rfl | rfl | rfl <;> rfl
  cbv
  rw [h11]; cbv
  repeat (first | (rw [hix]; cbv) | (rw [hbox]; cbv) | (rw [h00]; cbv))
  exact hQ _ _ trivial (hfin _ (by cbv))

def beforeR (ks : List Int) : List Tok → Bool
  | [] => true
  | t :: r => if countsT ks t.r = true then decide (kindOf ks t.r = 2) && nl t.s else if nl t.s = true then true else beforeR ks r
def beforeT (ks : List Int) (l : List Tok) (i : Int) : Bool := beforeR ks (l.take i.toNat).reverse
theorem before_next {ks : List Int} {l : List Tok} {i : Int} (h0 : 0 ≤ i) (h1 : i < l.length) : beforeT ks l (i + 1) = if countsT ks (tokAt l i).r = true then decide (kindOf ks (tokAt l i).r = 2) && nl (tokAt l i).s else if nl (tokAt l i).s = true then true else beforeT ks l i := by
  have hl : i.toNat < l.length := by omega
  have e : (i + 1).toNat = i.toNat + 1 := by omega
  have hg : tokAt l i = l[i.toNat] := by simp [tokAt, List.getD, hl]
  rw [beforeT, e, List.take_add_one, List.getElem?_eq_getElem hl, ← hg, List.reverse_append]
  rfl
theorem at_ix {α : Type} {p : α → Prop} {l : List α} {i : Int} (h0 : 0 ≤ i) (h1 : i < l.length) : At (fun _ => True) l i ∧ decide (i < (l.length : Int)) = true := ⟨⟨h0, by omega, fun _ _ => trivial⟩, by simpa using h1⟩
/-- How far a place is from the head. -/
def BAt (ks : List Int) (l : List Tok) (z : Bool) (i : Int) : Prop := -1 ≤ i ∧ i < l.length ∧ beforeT ks l (i + 1) = z
def upto (i : Int) : Nat := (i + 1).toNat
theorem bAt_zero {ks : List Int} {l : List Tok} {at' : Int} (h0 : 0 ≤ at') (h1 : at' ≤ l.length) : BAt ks l (beforeT ks l at') (at' - 1) := by
  refine ⟨by omega, by omega, ?_⟩
  rw [show at' - 1 + 1 = at' by omega]
theorem bAt_end {ks : List Int} {l : List Tok} {z : Bool} {i : Int} (h : BAt ks l z i) (hc : decide ((0 : Int) ≤ i) = false) : z = true := by
  obtain ⟨h0, h1, h2⟩ := h
  simp only [decide_eq_false_iff_not] at hc
  have : i = -1 := by omega
  subst this
  rw [← h2]; rfl
theorem bAt_in {ks : List Int} {l : List Tok} {z : Bool} {i : Int} (h : BAt ks l z i) (hc : decide ((0 : Int) ≤ i) = true) : 0 ≤ i ∧ i < l.length := ⟨by simpa using hc, h.2.1⟩
theorem bAt_step {ks : List Int} {l : List Tok} {z : Bool} {i : Int} (h : BAt ks l z i) (hc : decide ((0 : Int) ≤ i) = true) (hk : countsT ks (tokAt l i).r = false) (hn : nl (tokAt l i).s = false) : BAt ks l z (i - 1) ∧ upto (i - 1) < upto i := by
  obtain ⟨h0, h1, h2⟩ := h
  simp only [decide_eq_true_eq] at hc
  rw [before_next hc h1, hk, hn] at h2
  refine ⟨⟨by omega, by omega, ?_⟩, by unfold upto; omega⟩
  rw [show i - 1 + 1 = i by omega]
  exact h2
theorem bAt_hit {ks : List Int} {l : List Tok} {z : Bool} {i : Int} (h : BAt ks l z i) (hc : decide ((0 : Int) ≤ i) = true) (hk : countsT ks (tokAt l i).r = true) : z = (decide (kindOf ks (tokAt l i).r = 2) && nl (tokAt l i).s) := by
  obtain ⟨h0, h1, h2⟩ := h
  simp only [decide_eq_true_eq] at hc
  rw [before_next hc h1, hk] at h2
  exact h2.symm
theorem bAt_nl {ks : List Int} {l : List Tok} {z : Bool} {i : Int} (h : BAt ks l z i) (hc : decide ((0 : Int) ≤ i) = true) (hk : countsT ks (tokAt l i).r = false) (hn : nl (tokAt l i).s = true) : z = true := by
  obtain ⟨h0, h1, h2⟩ := h
  simp only [decide_eq_true_eq] at hc
  rw [before_next hc h1, hk, hn] at h2
  exact h2.symm
theorem tok_mem {l : List Tok} {i : Int} (h0 : 0 ≤ i) (h1 : i < l.length) : tokAt l i ∈ l := by
  have hl : i.toNat < l.length := by omega
  simp only [tokAt, List.getD, List.getElem?_eq_getElem hl, Option.getD_some]
  exact List.getElem_mem hl

theorem before_calls (ks : List Int) (l : List Tok) (at' : Int) (h0 : 0 ≤ at') (h1 : at' ≤ l.length) (hs : l.length ≤ 1000) (hb : ∀ t ∈ l, t.s.size ≤ maxLen) : ACalls Try.prog 22 [.ro (intE ks), .ro (tokE l), .flat (.int .i64 at')] (fun _ => .flat (.bool (beforeT ks l at'))) (fun _ => []) := by
  refine acalls_sym tab_ok fn22 rfl rfl rfl (by kernel_rfl) ?_
  have hfin : ∀ st, resA Try.prog Try.f22 st = some (.flat (.bool (beforeT ks l at'))) → G.Leaves Try.prog Try.f22 (fun _ => .flat (.bool (beforeT ks l at'))) (fun _ => []) st := fun st h => G.Leaves.plain h rfl
  have hz0 := bAt_zero (ks := ks) h0 h1
  generalize beforeT ks l at' = z at hz0 hfin ⊢
  generalize hKs : intE ks = K
  generalize hX : tokE l = X
  rintro ⟨lt, le, eq, se, ar, dv, una, conv, len, sln, nat, nth, ixs, cel, sto, app, cpy, slc, mak, ixv, oth, dk, ib, call⟩ hS hm Q hQ
  obtain ⟨hlt, hle, heq, hse, har, hdv, huna, hconv, hlen, hsln, hnat, hnth, hixs, hcel, hsto, happ, hcpy, hslc, hmak, hixv, hoth, hdk, hib, hcall⟩ := Sym.mk.inj hS
  clear hS
  have hbox : ∀ e c off, cel (some ⟨e, [c]⟩) 0 off = if off ≤ c.length then some (c.drop off) else none := fun e c off => by rw [hcel]; rfl
  have hsbox : ∀ e c off sz y, sto (some ⟨e, [c]⟩) 0 off sz y = if y.cells.length = sz ∧ off + sz ≤ c.length ∧ y.cells.all AV.one = true then some ⟨e, [spl c off y.cells]⟩ else none := fun e c off sz y => by rw [hsto]; rfl
  have hcal : ∀ {f args T base K}, CallK Try.prog f args T base K → call f args T base K := fun h => by rw [hcall]; exact h
  have hsub : ar .sub .i64 at' 1 = at' - 1 := by rw [har]; exact ar_sub64 (by omega) (by omega)
  cbv
  rw [hsub]
  generalize at' - 1 = i0 at hz0 ⊢
  refine MW_loop hm [] [0, 1, 7] 8 List.nodup_nil (fun k st => ∃ i : Int, BAt ks l z i ∧ k = upto i ∧ st = stOf [.ro K, .ro X, .dead, .dead, .dead, .dead, .dead, .flat (.int .i64 i)] [] 0) (upto i0) ?_ ?_
  · exact ⟨i0, hz0, rfl, cut_eq (by cbv) (by cbv)⟩
  · rintro k st ⟨i, hi, hk, rfl⟩
    cbv
    cases hc : le 0 i
    · have hc' : decide ((0 : Int) ≤ i) = false := by rw [hle] at hc; exact hc
      cbv
      obtain rfl := bAt_end hi hc'
      exact hQ _ _ trivial (hfin _ (by cbv))
    · have hc' : decide ((0 : Int) ≤ i) = true := by rw [hle] at hc; exact hc
      obtain ⟨hi0, hi1⟩ := bAt_in hi hc'
      have hat := at_ix (p := fun _ => True) hi0 hi1
      have hix : nth X i 3 = some (.rp (tokC (tokAt l i))) := by rw [hnth, ← hX]; exact nth_tok hat.1 hat.2
      have hsub : ar .sub .i64 i 1 = i - 1 := by rw [har]; exact ar_sub64 (by omega) (by omega)
      have hbt := hb _ (tok_mem hi0 hi1)
      have hstep := bAt_step hi hc'
      have hhit := bAt_hit hi hc'
      have hnl := bAt_nl hi hc'
      generalize ht : tokAt l i = t at hix hbt hstep hhit hnl
      obtain ⟨tr, ts, ta⟩ := t
      have hcallC := counts_calls ks tr ts ta
      have hcallK := refKind_calls ks tr ts ta
      have hcallB := refBreaks_calls ts hbt
      dsimp only at hstep hhit hnl
      generalize countsT ks tr = c at hcallC hstep hhit hnl
      generalize kindOf ks tr = q at hcallK hhit
      generalize nl ts = w at hcallB hstep hhit hnl
      rw [hKs] at hcallK hcallC
      cbv
      rw [hix]; cbv
      refine hcal ⟨_, [], _, _, .inl ⟨rfl, by cbv⟩, hcallC, by simp, ?_⟩
      cbv
      cases c
      · cbv
        rw [hix]; cbv
        refine hcal ⟨_, [], _, _, .inl ⟨rfl, by cbv⟩, hcallB, by simp, ?_⟩
        cbv
        cases w
        · cbv
          rw [hsub]
          obtain ⟨q1, q2⟩ := hstep rfl rfl
          generalize i - 1 = i2 at q1 q2 ⊢
          exact ⟨[], [0, 1, 7], 8, upto i2, hk ▸ q2, List.nodup_nil, i2, q1, rfl, cut_eq (by cbv) (by cbv)⟩
        · cbv
          obtain rfl := hnl rfl rfl
          exact hQ _ _ trivial (hfin _ (by cbv))
      · have hz := hhit rfl
        rw [show decide (q = 2) = eq q 2 by rw [heq]] at hz
        cbv
        rw [hix]; cbv
        refine hcal ⟨_, [], _, _, .inl ⟨rfl, by cbv⟩, hcallK, by simp, ?_⟩
        cbv
        cases he : eq q 2
        · cbv
          rw [he, Bool.false_and] at hz
          subst hz
          exact hQ _ _ trivial (hfin _ (by cbv))
        · cbv
          rw [he, Bool.true_and] at hz
          rw [hix]; cbv
          refine hcal ⟨_, [], _, _, .inl ⟨rfl, by cbv⟩, hcallB, by simp, ?_⟩
          cbv
          rw [← hz]
          exact hQ _ _ trivial (hfin _ (by cbv))

def behindF (ks : List Int) : List Tok → Bool
  | [] => false
  | t :: r => if countsT ks t.r = true then false else if nl t.s = true then true else behindF ks r
def FAt (ks : List Int) (l : List Tok) (z : Bool) (i : Int) : Prop := 0 ≤ i ∧ i ≤ l.length ∧ behindF ks (l.drop i.toNat) = z
def behindT (ks : List Int) (l : List Tok) (i : Int) : Bool := if nl (tokAt l i).s = true then true else behindF ks (l.drop (i + 1).toNat)
theorem fAt_end {ks : List Int} {l : List Tok} {z : Bool} {i : Int} (h : FAt ks l z i) (hc : decide (i < (l.length : Int)) = false) : z = false := by
  obtain ⟨h0, h1, h2⟩ := h
  simp only [decide_eq_false_iff_not] at hc
  rw [List.drop_eq_nil_of_le (by omega)] at h2
  exact h2.symm
theorem fAt_at {ks : List Int} {l : List Tok} {z : Bool} {i : Int} (h : FAt ks l z i) : At (fun _ => True) l i := ⟨h.1, h.2.1, fun _ _ => trivial⟩
theorem behind_next {ks : List Int} {l : List Tok} {i : Int} (h0 : 0 ≤ i) (h1 : i < l.length) : behindF ks (l.drop i.toNat) = if countsT ks (tokAt l i).r = true then false else if nl (tokAt l i).s = true then true else behindF ks (l.drop (i + 1).toNat) := by
  have hl : i.toNat < l.length := by omega
  have e : (i + 1).toNat = i.toNat + 1 := by omega
  have hg : tokAt l i = l[i.toNat] := by simp [tokAt, List.getD, hl]
  rw [List.drop_eq_getElem_cons hl, ← hg, e]
  rfl
theorem fAt_step {ks : List Int} {l : List Tok} {z : Bool} {i : Int} (h : FAt ks l z i) (hc : decide (i < (l.length : Int)) = true) (hk : countsT ks (tokAt l i).r = false) (hn : nl (tokAt l i).s = false) : FAt ks l z (i + 1) ∧ left l.length (i + 1) < left l.length i := by
  obtain ⟨h0, h1, h2⟩ := h
  simp only [decide_eq_true_eq] at hc
  rw [behind_next h0 hc, hk, hn] at h2
  exact ⟨⟨by omega, by omega, h2⟩, by unfold left; omega⟩
theorem fAt_hit {ks : List Int} {l : List Tok} {z : Bool} {i : Int} (h : FAt ks l z i) (hc : decide (i < (l.length : Int)) = true) (hk : countsT ks (tokAt l i).r = true) : z = false := by
  obtain ⟨h0, h1, h2⟩ := h
  simp only [decide_eq_true_eq] at hc
  rw [behind_next h0 hc, hk] at h2
  exact h2.symm
theorem fAt_nl {ks : List Int} {l : List Tok} {z : Bool} {i : Int} (h : FAt ks l z i) (hc : decide (i < (l.length : Int)) = true) (hk : countsT ks (tokAt l i).r = false) (hn : nl (tokAt l i).s = true) : z = true := by
  obtain ⟨h0, h1, h2⟩ := h
  simp only [decide_eq_true_eq] at hc
  rw [behind_next h0 hc, hk, hn] at h2
  exact h2.symm
theorem behind_calls (ks : List Int) (l : List Tok) (at' : Int) (h0 : 0 ≤ at') (h1 : at' < l.length) (hs : l.length ≤ 1000) (hb : ∀ t ∈ l, t.s.size ≤ maxLen) : ACalls Try.prog 23 [.ro (intE ks), .ro (tokE l), .flat (.int .i64 at')] (fun _ => .flat (.bool (behindT ks l at'))) (fun _ => []) := by
  refine acalls_sym tab_ok fn23 rfl rfl rfl (by kernel_rfl) ?_
  have hfin : ∀ st, resA Try.prog Try.f23 st = some (.flat (.bool (behindT ks l at'))) → G.Leaves Try.prog Try.f23 (fun _ => .flat (.bool (behindT ks l at'))) (fun _ => []) st := fun st h => G.Leaves.plain h rfl
  have hz0 : FAt ks l (behindF ks (l.drop (at' + 1).toNat)) (at' + 1) := ⟨by omega, by omega, rfl⟩
  unfold behindT at hfin
  rw [show behindT ks l at' = _ from rfl]
  unfold behindT
  have hat := at_ix (p := fun _ => True) h0 h1
  have hcallB := refBreaks_calls _ (hb _ (tok_mem h0 h1))
  have hix1 := nth_tok hat.1 hat.2
  generalize tokAt l at' = t at hcallB hix1 hfin
  obtain ⟨tr, ts, ta⟩ := t
  dsimp only at hcallB hix1 hfin
  generalize behindF ks (l.drop (at' + 1).toNat) = z at hz0 hfin ⊢
  generalize nl ts = w at hcallB hfin ⊢
  generalize hKs : intE ks = K
  generalize hX : tokE l = X at hix1
  rintro ⟨lt, le, eq, se, ar, dv, una, conv, len, sln, nat, nth, ixs, cel, sto, app, cpy, slc, mak, ixv, oth, dk, ib, call⟩ hS hm Q hQ
  obtain ⟨hlt, hle, heq, hse, har, hdv, huna, hconv, hlen, hsln, hnat, hnth, hixs, hcel, hsto, happ, hcpy, hslc, hmak, hixv, hoth, hdk, hib, hcall⟩ := Sym.mk.inj hS
  clear hS
  have hbox : ∀ e c off, cel (some ⟨e, [c]⟩) 0 off = if off ≤ c.length then some (c.drop off) else none := fun e c off => by rw [hcel]; rfl
  have hsbox : ∀ e c off sz y, sto (some ⟨e, [c]⟩) 0 off sz y = if y.cells.length = sz ∧ off + sz ≤ c.length ∧ y.cells.all AV.one = true then some ⟨e, [spl c off y.cells]⟩ else none := fun e c off sz y => by rw [hsto]; rfl
  have hcal : ∀ {f args T base K}, CallK Try.prog f args T base K → call f args T base K := fun h => by rw [hcall]; exact h
  rw [← hnth] at hix1
  have hadd : ar .add .i64 at' 1 = at' + 1 := by rw [har]; exact ar_add64 (by omega) (by omega)
  have hn : len X = l.length := by rw [hlen, ← hX, len_tok]
  cbv
  rw [hix1]; cbv
  refine hcal ⟨_, [], _, _, .inl ⟨rfl, by cbv⟩, hcallB, by simp, ?_⟩
  cbv
  cases w
  · cbv
    rw [hadd]
    have hfin : ∀ st, resA Try.prog Try.f23 st = some (.flat (.bool z)) → G.Leaves Try.prog Try.f23 (fun _ => .flat (.bool z)) (fun _ => []) st := fun st h => G.Leaves.plain h rfl
    generalize at' + 1 = i0 at hz0 ⊢
    refine MW_loop hm [] [0, 1, 7] 8 List.nodup_nil (fun k st => ∃ i : Int, FAt ks l z i ∧ k = left l.length i ∧ st = stOf [.ro K, .ro X, .dead, .dead, .dead, .dead, .dead, .flat (.int .i64 i)] [] 0) (left l.length i0) ?_ ?_
    · exact ⟨i0, hz0, rfl, cut_eq (by cbv) (by cbv)⟩
    · rintro k st ⟨i, hi, hk, rfl⟩
      cbv
      cases hc : lt i (len X)
      · have hc' : decide (i < (l.length : Int)) = false := by rw [hlt, hn] at hc; exact hc
        cbv
        obtain rfl := fAt_end hi hc'
        exact hQ _ _ trivial (hfin _ (by cbv))
      · have hc' : decide (i < (l.length : Int)) = true := by rw [hlt, hn] at hc; exact hc
        have hat := fAt_at hi
        have hix : nth X i 3 = some (.rp (tokC (tokAt l i))) := by rw [hnth, ← hX]; exact nth_tok hat hc'
        have hadd : ar .add .i64 i 1 = i + 1 := by rw [har]; exact at_add (Nat.le_trans hs (by decide)) hat hc'
        obtain ⟨_, hi0, hi1⟩ := at_lt hat hc'
        have hbt := hb _ (tok_mem hi0 hi1)
        have hstep := fAt_step hi hc'
        have hhit := fAt_hit hi hc'
        have hnl := fAt_nl hi hc'
        generalize ht : tokAt l i = t at hix hbt hstep hhit hnl
        obtain ⟨tr, ts, ta⟩ := t
        have hcallC := counts_calls ks tr ts ta
        have hcallB := refBreaks_calls ts hbt
        dsimp only at hstep hhit hnl
        generalize countsT ks tr = c at hcallC hstep hhit hnl
        generalize nl ts = w at hcallB hstep hnl
        rw [hKs] at hcallC
        cbv
        rw [hix]; cbv
        refine hcal ⟨_, [], _, _, .inl ⟨rfl, by cbv⟩, hcallC, by simp, ?_⟩
        cbv
        cases c
        · cbv
          rw [hix]; cbv
          refine hcal ⟨_, [], _, _, .inl ⟨rfl, by cbv⟩, hcallB, by simp, ?_⟩
          cbv
          cases w
          · cbv
            rw [hadd]
            obtain ⟨q1, q2⟩ := hstep rfl rfl
            generalize i + 1 = i2 at q1 q2 ⊢
            exact ⟨[], [0, 1, 7], 8, left l.length i2, hk ▸ q2, List.nodup_nil, i2, q1, rfl, cut_eq (by cbv) (by cbv)⟩
          · cbv
            obtain rfl := hnl rfl rfl
            exact hQ _ _ trivial (hfin _ (by cbv))
        · cbv
          obtain rfl := hhit rfl
          exact hQ _ _ trivial (hfin _ (by cbv))
  · cbv
    exact hQ _ _ trivial (hfin _ (by cbv))
end Go.Proofs.Ythilmgpciiopnaa.K
