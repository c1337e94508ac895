/- Contracts: bosketlaw14.same: rows of tokens, alike? A region that draws its order. -/
import Derived.Test.YthilmgpciiopnaaK7
namespace Go.Proofs.Ythilmgpciiopnaa.K
set_option linter.unusedVariables false
set_option linter.unusedSimpArgs false
open Go G
set_option maxRecDepth 100000
theorem fn26 : Try.prog.funcs[26]? = some Try.f26 := by kernel_rfl
def tokEq (t u : Tok) : Bool := (t.r == u.r) && ((t.s == u.s) && ((t.a == u.a) && true))
theorem eq34 (t u : Tok) : eqStruct Try.prog 34 #[.int .i64 t.r, .string t.s, .int .i64 t.a] #[.int .i64 u.r, .string u.s, .int .i64 u.a] = some (tokEq t u) := by kernel_rfl
theorem ba_beq (s t : ByteArray) : (s == t) = true ↔ s = t := by
  cases s with | mk a => cases t with | mk b =>
  show (a == b) = true ↔ _
  simp
theorem tokEq_iff {t u : Tok} : tokEq t u = true ↔ t = u := by
  cases t; cases u
  simp [tokEq, ba_beq]
theorem dv_neq34 (t u : Tok) : dvOf Try.prog .neq 34 (.agg (tokC t)) (.agg (tokC u)) = some (.flat (.bool (!tokEq t u))) := by
  rw [dvOf_eq]
  intro x y
  have h := eq34 t u
  show (eqStruct Try.prog 34 #[.int .i64 t.r, .string t.s, .int .i64 t.a] #[.int .i64 u.r, .string u.s, .int .i64 u.a]).map _ = _
  rw [h]; rfl
def sameT (a b : List Tok) : Bool := decide ((a.length : Int) = b.length) && (a.zip b).all fun p => tokEq p.1 p.2
theorem sameT_iff {a b : List Tok} : sameT a b = true ↔ a = b := by
  simp only [sameT, Bool.and_eq_true, decide_eq_true_eq, List.all_eq_true]
  constructor
  · rintro ⟨hl, h⟩
    apply List.ext_getElem (by omega)
    intro i h1 h2
    exact tokEq_iff.1 (h (a[i], b[i]) (by
      have : i < (a.zip b).length := by simp; omega
      have e : (a.zip b)[i] = (a[i], b[i]) := by simp
      rw [← e]; exact List.getElem_mem this))
  · rintro rfl
    refine ⟨rfl, fun p hp => ?_⟩
    rw [tokEq_iff]
    obtain ⟨i, hi, rfl⟩ := List.getElem_of_mem hp
    simp
def SameAt (a b : List Tok) (i : Int) : Prop := 0 ≤ i ∧ i ≤ a.length ∧ a.length = b.length ∧ a.take i.toNat = b.take i.toNat
theorem sameAt_zero {a b : List Tok} (h : decide ((a.length : Int) = b.length) = true) : SameAt a b 0 := by
  simp only [decide_eq_true_eq] at h
  exact ⟨by omega, by omega, by omega, rfl⟩
theorem sameAt_not {a b : List Tok} (h : decide ((a.length : Int) = b.length) = false) : sameT a b = false := by
  rw [sameT, h]; rfl
theorem sameAt_end {a b : List Tok} {i : Int} (h : SameAt a b i) (hc : decide (i < (a.length : Int)) = false) : sameT a b = true := by
  obtain ⟨h0, h1, h2, h3⟩ := h
  simp only [decide_eq_false_iff_not] at hc
  rw [List.take_of_length_le (by omega), List.take_of_length_le (by omega)] at h3
  exact sameT_iff.2 h3
theorem sameAt_at {a b : List Tok} {i : Int} (h : SameAt a b i) : At (fun _ => True) a i ∧ At (fun _ => True) b i := ⟨⟨h.1, h.2.1, fun _ _ => trivial⟩, ⟨h.1, by have := h.2.1; have := h.2.2.1; omega, fun _ _ => trivial⟩⟩
theorem sameAt_lt {a b : List Tok} {i : Int} (h : SameAt a b i) (hc : decide (i < (a.length : Int)) = true) : decide (i < (b.length : Int)) = true := by
  simp only [decide_eq_true_eq] at hc ⊢
  have := h.2.2.1; omega
theorem sameAt_step {a b : List Tok} {i : Int} (h : SameAt a b i) (hc : decide (i < (a.length : Int)) = true) (he : tokEq (tokAt a i) (tokAt b i) = true) : SameAt a b (i + 1) ∧ left a.length (i + 1) < left a.length i := by
  obtain ⟨h0, h1, h2, h3⟩ := h
  simp only [decide_eq_true_eq] at hc
  have e : (i + 1).toNat = i.toNat + 1 := by omega
  have ha : i.toNat < a.length := by omega
  have hb : i.toNat < b.length := by omega
  rw [tokEq_iff] at he
  have ea : tokAt a i = a[i.toNat] := by simp [tokAt, List.getD, ha]
  have eb : tokAt b i = b[i.toNat] := by simp [tokAt, List.getD, hb]
  refine ⟨⟨by omega, by omega, h2, ?_⟩, by unfold left; omega⟩
  rw [e, List.take_add_one, List.take_add_one, h3, List.getElem?_eq_getElem ha, List.getElem?_eq_getElem hb, ← ea, ← eb, he]
theorem sameAt_hit {a b : List Tok} {i : Int} (h : SameAt a b i) (hc : decide (i < (a.length : Int)) = true) (he : tokEq (tokAt a i) (tokAt b i) = false) : sameT a b = false := by
  cases hs : sameT a b with
  | false => rfl
  | true =>
    rw [sameT_iff] at hs
    subst hs
    rw [tokEq_iff.2 rfl] at he
    cases he

theorem same_calls (a b : List Tok) (hs : a.length ≤ maxLen) : ACalls Try.prog 26 [.ro (tokE a), .ro (tokE b)] (fun _ => .flat (.bool (sameT a b))) (fun _ => []) := by
  refine acalls_sym tab_ok fn26 rfl rfl rfl (by kernel_rfl) ?_
  have hfin : ∀ st, resA Try.prog Try.f26 st = some (.flat (.bool (sameT a b))) → G.Leaves Try.prog Try.f26 (fun _ => .flat (.bool (sameT a b))) (fun _ => []) st := fun st h => G.Leaves.plain h rfl
  generalize hK : sameT a b = z at hfin ⊢
  generalize hX : tokE a = X
  generalize hY : tokE b = Y
  rintro ⟨lt, le, eq, se, ar, dv, una, conv, len, sln, nat, nth, ixs, cel, sto, app, cpy, slc, mak, ixv, oth, dk, ib, call⟩ hS hm Q hQ
  obtain ⟨hlt, hle, heq, hse, har, hdv, huna, hconv, hlen, hsln, hnat, hnth, hixs, hcel, hsto, happ, hcpy, hslc, hmak, hixv, hoth, hdk, hib, hcall⟩ := Sym.mk.inj hS
  clear hS
  have hn : len X = a.length := by rw [hlen, ← hX, len_tok]
  have hn2 : len Y = b.length := by rw [hlen, ← hY, len_tok]
  cbv
  cases h60 : eq (len X) (len Y)
  · have h60' : decide ((a.length : Int) = b.length) = false := by rw [heq, hn, hn2] at h60; exact h60
    cbv
    have hz : z = false := hK.symm.trans (sameAt_not h60')
    subst hz
    exact hQ _ _ trivial (hfin _ (by cbv))
  · have h60' : decide ((a.length : Int) = b.length) = true := by rw [heq, hn, hn2] at h60; exact h60
    cbv
    refine MW_loop hm [] [0, 1, 5] 6 List.nodup_nil (fun k st => ∃ i : Int, SameAt a b i ∧ k = left a.length i ∧ st = stOf [.ro X, .ro Y, .dead, .dead, .dead, .flat (.int .i64 i)] [] 0) (left a.length 0) ?_ ?_
    · exact ⟨0, sameAt_zero h60', rfl, cut_eq (by cbv) (by cbv)⟩
    · rintro k st ⟨i, hi, hk, rfl⟩
      cbv
      cases hc : lt i (len X)
      · have hc' : decide (i < (a.length : Int)) = false := by rw [hlt, hn] at hc; exact hc
        cbv
        have hz : z = true := hK.symm.trans (sameAt_end hi hc')
        subst hz
        exact hQ _ _ trivial (hfin _ (by cbv))
      · have hc' : decide (i < (a.length : Int)) = true := by rw [hlt, hn] at hc; exact hc
        cbv
        have hix : nth X i 3 = some (.rp (tokC (tokAt a i))) := by rw [hnth, ← hX]; exact nth_tok (sameAt_at hi).1 hc'
        have hix2 : nth Y i 3 = some (.rp (tokC (tokAt b i))) := by rw [hnth, ← hY]; exact nth_tok (sameAt_at hi).2 (sameAt_lt hi hc')
        have hadd : ar .add .i64 i 1 = i + 1 := by rw [har]; exact at_add hs (sameAt_at hi).1 hc'
        have hstep := sameAt_step hi hc'
        have hhit := sameAt_hit hi hc'
        have hdv' : dv .neq 34 (.agg (tokC (tokAt a i))) (.agg (tokC (tokAt b i))) = some (.flat (.bool (!tokEq (tokAt a i) (tokAt b i)))) := by rw [hdv]; exact dv_neq34 _ _
        generalize hte : tokEq (tokAt a i) (tokAt b i) = te at hdv' hstep hhit
        generalize ht : tokAt a i = t at hix hdv'
        generalize hu : tokAt b i = u at hix2 hdv'
        obtain ⟨tr, ts, ta⟩ := t
        obtain ⟨ur, us, ua⟩ := u
        refine ⟨by rw [hdk]; kernel_rfl, ?_⟩
        rw [hix]; cbv
        rw [hix2]; cbv
        have hdv2 : dv .neq 34 (.agg [.flat (.int .i64 tr), .flat (.string ts), .flat (.int .i64 ta)]) (.agg [.flat (.int .i64 ur), .flat (.string us), .flat (.int .i64 ua)]) = some (.flat (.bool (!te))) := hdv'
        rw [hdv2]; cbv
        cases te
        · cbv
          refine ⟨by rw [hib]; kernel_rfl, ?_⟩
          cbv
          have hz : z = false := hK.symm.trans (hhit rfl)
          subst hz
          exact hQ _ _ trivial (hfin _ (by cbv))
        · cbv
          refine ⟨by rw [hib]; kernel_rfl, ?_⟩
          cbv
          rw [hadd]
          obtain ⟨q1, q2⟩ := hstep rfl
          exact ⟨[], [0, 1, 5], 6, left a.length (i + 1), hk ▸ q2, List.nodup_nil, i + 1, q1, rfl, cut_eq (by cbv) (by cbv)⟩
end Go.Proofs.Ythilmgpciiopnaa.K
