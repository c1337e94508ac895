/- Tokens; contracts: bosketlaw14.few. -/
import Derived.Test.YthilmgpciiopnaaK4
namespace Go.Proofs.Ythilmgpciiopnaa.K
set_option linter.unusedVariables false
set_option linter.unusedSimpArgs false
open Go G
set_option maxRecDepth 100000
theorem fn19 : Try.prog.funcs[19]? = some Try.f19 := by kernel_rfl
structure Tok where
  r : Int
  s : ByteArray
  a : Int
instance : Inhabited Tok := ⟨⟨0, ⟨#[]⟩, 0⟩⟩
def tokC (t : Tok) : List AV := [.flat (.int .i64 t.r), .flat (.string t.s), .flat (.int .i64 t.a)]
def tokE (l : List Tok) : List (List AV) := l.map tokC
def tokAt (l : List Tok) (i : Int) : Tok := l.getD i.toNat default
theorem len_tok (l : List Tok) : lenE (tokE l) = l.length := by simp [lenE, tokE]
/-- An index that runs over a list, and what is known of those ahead of it. -/
def At {α : Type} (p : α → Prop) (l : List α) (i : Int) : Prop := 0 ≤ i ∧ i ≤ l.length ∧ ∀ x ∈ l.take i.toNat, p x
theorem at_zero {α : Type} {p : α → Prop} (l : List α) : At p l 0 := ⟨by omega, by omega, fun x hx => by simp at hx⟩
theorem at_end {α : Type} {p : α → Prop} {l : List α} {i : Int} (h : At p l i) (hc : decide (i < (l.length : Int)) = false) : ∀ x ∈ l, p x := by
  obtain ⟨h0, h1, h2⟩ := h
  simp only [decide_eq_false_iff_not] at hc
  rw [List.take_of_length_le (by omega)] at h2
  exact h2
theorem at_lt {α : Type} {p : α → Prop} {l : List α} {i : Int} (h : At p l i) (hc : decide (i < (l.length : Int)) = true) : i.toNat < l.length ∧ 0 ≤ i ∧ i < l.length := by
  simp only [decide_eq_true_eq] at hc
  have := h.1
  exact ⟨by omega, this, hc⟩
theorem at_step {α : Type} {p : α → Prop} {l : List α} {i : Int} [Inhabited α] (h : At p l i) (hc : decide (i < (l.length : Int)) = true) (hp : p (l.getD i.toNat default)) : At p l (i + 1) ∧ left l.length (i + 1) < left l.length i := by
  obtain ⟨hl, h0, h1⟩ := at_lt h hc
  refine ⟨⟨by omega, by omega, fun x hx => ?_⟩, by unfold left; omega⟩
  have e : (i + 1).toNat = i.toNat + 1 := by omega
  rw [e, List.take_add_one, List.mem_append] at hx
  rcases hx with hx | hx
  · exact h.2.2 x hx
  · have hg : l.getD i.toNat default = l[i.toNat] := by simp [List.getD, hl]
    rw [hg] at hp
    rw [List.getElem?_eq_getElem hl] at hx
    simp at hx
    rw [hx]; exact hp
theorem at_add {α : Type} {p : α → Prop} {l : List α} {i : Int} (hs : l.length ≤ maxLen) (h : At p l i) (hc : decide (i < (l.length : Int)) = true) : arI .add .i64 i 1 = i + 1 := by
  obtain ⟨h0, h1, h2⟩ := h
  simp only [decide_eq_true_eq] at hc
  have : (maxLen : Int) ≤ 9223372036854775807 := by decide
  have hs' : (l.length : Int) ≤ maxLen := by omega
  exact ar_add64 (by omega) (by omega)
theorem nth_tok {p : Tok → Prop} {l : List Tok} {i : Int} (h : At p l i) (hc : decide (i < (l.length : Int)) = true) : nthE (tokE l) i 3 = some (.rp (tokC (tokAt l i))) := by
  obtain ⟨hl, h0, h1⟩ := at_lt h hc
  have hg : tokAt l i = l[i.toNat] := by simp [tokAt, List.getD, hl]
  rw [hg]
  simp [nthE, h0, tokE, List.getElem?_eq_getElem hl, tokC]

def short (t : Tok) : Prop := (t.s.size : Int) ≤ 60
def fewT (l : List Tok) : Bool := decide ((l.length : Int) ≤ 60) && l.all fun t => decide ((t.s.size : Int) ≤ 60)
theorem few_long {l : List Tok} (h : decide ((60 : Int) < (l.length : Int)) = true) : fewT l = false := by
  simp only [decide_eq_true_eq] at h
  simp only [fewT, Bool.and_eq_false_iff, decide_eq_false_iff_not]
  left; omega
theorem few_end {l : List Tok} {i : Int} (h : At short l i) (hl : decide ((60 : Int) < (l.length : Int)) = false) (hc : decide (i < (l.length : Int)) = false) : fewT l = true := by
  simp only [decide_eq_false_iff_not] at hl
  have := at_end h hc
  simp only [fewT, Bool.and_eq_true, decide_eq_true_eq, List.all_eq_true]
  exact ⟨by omega, fun x hx => this x hx⟩
theorem few_hit {l : List Tok} {i : Int} (h : At short l i) (hc : decide (i < (l.length : Int)) = true) (he : decide ((60 : Int) < ((tokAt l i).s.size : Int)) = true) : fewT l = false := by
  obtain ⟨hl, h0, h1⟩ := at_lt h hc
  have hg : tokAt l i = l[i.toNat] := by simp [tokAt, List.getD, hl]
  simp only [decide_eq_true_eq] at he
  simp only [fewT, Bool.and_eq_false_iff, List.all_eq_false, decide_eq_true_eq]
  refine .inr ⟨l[i.toNat], List.getElem_mem hl, ?_⟩
  rw [← hg]; omega

theorem few_small {l : List Tok} (h : decide ((60 : Int) < (l.length : Int)) = false) : l.length ≤ maxLen := by
  have : (60 : Nat) ≤ maxLen := by decide
  simp only [decide_eq_false_iff_not] at h
  omega
theorem few_calls (l : List Tok) : ACalls Try.prog 19 [.ro (tokE l)] (fun _ => .flat (.bool (fewT l))) (fun _ => []) := by
  refine acalls_sym tab_ok fn19 rfl rfl rfl (by kernel_rfl) ?_
  have hfin : ∀ st, resA Try.prog Try.f19 st = some (.flat (.bool (fewT l))) → G.Leaves Try.prog Try.f19 (fun _ => .flat (.bool (fewT l))) (fun _ => []) st := fun st h => G.Leaves.plain h rfl
  generalize hK : fewT l = z at hfin ⊢
  generalize hX : tokE l = X
  rintro ⟨lt, le, eq, se, ar, dv, una, conv, len, sln, nat, nth, ixs, cel, sto, app, cpy, slc, mak, ixv, oth, dk, ib, call⟩ hS hm Q hQ
  obtain ⟨hlt, hle, heq, hse, har, hdv, huna, hconv, hlen, hsln, hnat, hnth, hixs, hcel, hsto, happ, hcpy, hslc, hmak, hixv, hoth, hdk, hib, hcall⟩ := Sym.mk.inj hS
  clear hS
  have hn : len X = l.length := by rw [hlen, ← hX, len_tok]
  cbv
  cases h60 : lt 60 (len X)
  · have h60' : decide ((60 : Int) < (l.length : Int)) = false := by rw [hlt, hn] at h60; exact h60
    cbv
    refine MW_loop hm [] [0, 3] 4 List.nodup_nil (fun k st => ∃ i : Int, At short l i ∧ k = left l.length i ∧ st = stOf [.ro X, .dead, .dead, .flat (.int .i64 i)] [] 0) (left l.length 0) ?_ ?_
    · exact ⟨0, at_zero l, rfl, cut_eq (by cbv) (by cbv)⟩
    · rintro k st ⟨i, hi, hk, rfl⟩
      cbv
      cases hc : lt i (len X)
      · have hc' : decide (i < (l.length : Int)) = false := by rw [hlt, hn] at hc; exact hc
        cbv
        have hz : z = true := hK.symm.trans (few_end hi h60' hc')
        subst hz
        exact hQ _ _ trivial (hfin _ (by cbv))
      · have hc' : decide (i < (l.length : Int)) = true := by rw [hlt, hn] at hc; exact hc
        cbv
        have hix : nth X i 3 = some (.rp (tokC (tokAt l i))) := by rw [hnth, ← hX]; exact nth_tok hi hc'
        have hhit := few_hit hi hc'
        have hstep := at_step hi hc'
        generalize ht : tokAt l i = t at hix hhit
        obtain ⟨tr, ts, ta⟩ := t
        rw [hix]; cbv
        cases he : lt 60 (sln ts)
        · have he' : decide ((60 : Int) < (ts.size : Int)) = false := by rw [hlt, hsln] at he; exact he
          cbv
          rw [show ar .add .i64 i 1 = i + 1 by rw [har]; exact at_add (few_small h60') hi hc']
          obtain ⟨q1, q2⟩ := hstep (by
            show short (tokAt l i)
            rw [ht]
            unfold short
            simpa using he')
          exact ⟨[], [0, 3], 4, left l.length (i + 1), hk ▸ q2, List.nodup_nil, i + 1, q1, rfl, cut_eq (by cbv) (by cbv)⟩
        · have he' : decide ((60 : Int) < (ts.size : Int)) = true := by rw [hlt, hsln] at he; exact he
          cbv
          have hz : z = false := hK.symm.trans (hhit he')
          subst hz
          exact hQ _ _ trivial (hfin _ (by cbv))
  · have h60' : decide ((60 : Int) < (l.length : Int)) = true := by rw [hlt, hn] at h60; exact h60
    cbv
    have hz : z = false := hK.symm.trans (few_long h60')
    subst hz
    exact hQ _ _ trivial (hfin _ (by cbv))
end Go.Proofs.Ythilmgpciiopnaa.K
