/- Contracts: lanes.breaks: is a new line within? What the walk needs of numbers is shown ahead of it, in plain Lean. -/
import Derived.Test.YthilmgpciiopnaaK2
import Derived.Test.YthilmgpciiopnaaG21
namespace Go.Proofs.Ythilmgpciiopnaa.K
set_option linter.unusedVariables false
set_option linter.unusedSimpArgs false
open Go G
set_option maxRecDepth 100000
theorem fn51 : Try.prog.funcs[51]? = some Try.f51 := by kernel_rfl
def nl (s : ByteArray) : Bool := s.data.toList.any fun b => b == 10
def NlAt (s : ByteArray) (i : Int) : Prop := 0 ≤ i ∧ i ≤ s.size ∧ ∀ j : Nat, (j : Int) < i → s.data.toList.getD j 0 ≠ 10
def left (n i : Int) : Nat := (n - i).toNat
def byteAt (s : ByteArray) (i : Int) : Int := (s.data.toList.getD i.toNat 0).toNat
theorem nlAt_zero (s : ByteArray) : NlAt s 0 := ⟨by omega, by omega, fun j hj => by omega⟩
theorem len_toList (s : ByteArray) : s.data.toList.length = s.size := by simp
theorem nlAt_end {s : ByteArray} {i : Int} (h : NlAt s i) (hc : decide (i < (s.size : Int)) = false) : nl s = false := by
  obtain ⟨h0, h1, h2⟩ := h
  simp only [decide_eq_false_iff_not] at hc
  rw [nl, List.any_eq_false]
  intro b hb
  obtain ⟨j, hj⟩ := List.mem_iff_getElem?.1 hb
  have hlt := (List.getElem?_eq_some_iff.1 hj).1
  have hl := len_toList s
  have := h2 j (by omega)
  simp [List.getD, hj] at this
  simpa using this
theorem nlAt_ix {P : Program} {t : TypeId} (ht : P.underlying t = some .string) {s : ByteArray} {i : Int} (h : NlAt s i) (hc : decide (i < (s.size : Int)) = true) : evP P (Instr.index t (.string s) (.int .i64 i)) = some (.flat (.int .u8 (byteAt s i))) :=
  ix_str ht h.1 (by simpa using hc)
theorem nlAt_add {s : ByteArray} {i : Int} (hs : s.size ≤ maxLen) (h : NlAt s i) (hc : decide (i < (s.size : Int)) = true) : arI .add .i64 i 1 = i + 1 := by
  obtain ⟨h0, h1, h2⟩ := h
  simp only [decide_eq_true_eq] at hc
  have : (maxLen : Int) ≤ 9223372036854775807 := by decide
  have hs' : (s.size : Int) ≤ maxLen := by omega
  exact ar_add64 (by omega) (by omega)
theorem nlAt_step {s : ByteArray} {i : Int} (h : NlAt s i) (hc : decide (i < (s.size : Int)) = true) (he : decide (byteAt s i = 10) = false) : NlAt s (i + 1) ∧ left s.size (i + 1) < left s.size i := by
  obtain ⟨h0, h1, h2⟩ := h
  simp only [decide_eq_true_eq, decide_eq_false_iff_not] at hc he
  refine ⟨⟨by omega, by omega, fun j hj => ?_⟩, by unfold left; omega⟩
  by_cases hji : (j : Int) < i
  · exact h2 j hji
  · have : j = i.toNat := by omega
    subst this
    intro h10
    apply he
    rw [byteAt, h10]; rfl
theorem nlAt_hit {s : ByteArray} {i : Int} (h : NlAt s i) (hc : decide (i < (s.size : Int)) = true) (he : decide (byteAt s i = 10) = true) : nl s = true := by
  obtain ⟨h0, h1, h2⟩ := h
  simp only [decide_eq_true_eq] at hc he
  have hl : i.toNat < s.data.toList.length := by rw [len_toList]; omega
  have hg : s.data.toList.getD i.toNat 0 = s.data.toList[i.toNat] := by
    rw [List.getD, List.getElem?_eq_getElem hl]; rfl
  rw [nl, List.any_eq_true]
  refine ⟨s.data.toList[i.toNat], List.getElem_mem hl, ?_⟩
  rw [byteAt, hg] at he
  have : s.data.toList[i.toNat] = 10 := by
    apply UInt8.toNat_inj.1
    show _ = 10
    omega
  rw [this]; rfl

theorem breaks_calls (s : ByteArray) (hs : s.size ≤ maxLen) : ACalls Try.prog 51 [.flat (.string s)] (fun _ => .flat (.bool (nl s))) (fun _ => []) := by
  refine acalls_sym tab_ok fn51 rfl rfl rfl (by kernel_rfl) ?_
  have hfin : ∀ st, resA Try.prog Try.f51 st = some (.flat (.bool (nl s))) → G.Leaves Try.prog Try.f51 (fun _ => .flat (.bool (nl s))) (fun _ => []) st := fun st h => G.Leaves.plain h rfl
  generalize hK : nl s = z at hfin ⊢
  rintro ⟨lt, le, eq, se, ar, dv, una, conv, len, sln, nat, nth, ixs, cel, sto, app, cpy, slc, mak, ixv, oth, dk, ib, call⟩ hS hm Q hQ
  obtain ⟨hlt, hle, heq, hse, har, hdv, huna, hconv, hlen, hsln, hnat, hnth, hixs, hcel, hsto, happ, hcpy, hslc, hmak, hixv, hoth, hdk, hib, hcall⟩ := Sym.mk.inj hS
  clear hS
  cbv
  refine MW_loop hm [] [0, 5, 6] 7 List.nodup_nil (fun k st => ∃ i : Int, NlAt s i ∧ k = left s.size i ∧ st = stOf [.flat (.string s), .dead, .dead, .dead, .dead, .flat (.int .i64 (sln s)), .flat (.int .i64 i)] [] 0) (left s.size 0) ?_ ?_
  · exact ⟨0, nlAt_zero s, rfl, cut_eq (by cbv) (by cbv)⟩
  · rintro k st ⟨i, hi, hk, rfl⟩
    cbv
    cases hc : lt i (sln s)
    · have hc' : decide (i < (s.size : Int)) = false := by rw [hlt, hsln] at hc; exact hc
      cbv
      have hz : z = false := hK.symm.trans (nlAt_end hi hc')
      subst hz
      exact hQ _ _ trivial (hfin _ (by cbv))
    · have hc' : decide (i < (s.size : Int)) = true := by rw [hlt, hsln] at hc; exact hc
      cbv
      have hix : ixv 9 (.flat (.string s)) (.flat (.int .i64 i)) = some (.flat (.int .u8 (byteAt s i))) := by
        rw [hixv]
        exact nlAt_ix (by kernel_rfl) hi hc'
      generalize hb : byteAt s i = m at hix
      rw [hix]; cbv
      cases he : eq m 10
      · have he' : decide (byteAt s i = 10) = false := by rw [heq] at he; rw [hb]; exact he
        cbv
        rw [show ar .add .i64 i 1 = i + 1 by rw [har]; exact nlAt_add hs hi hc']
        obtain ⟨q1, q2⟩ := nlAt_step hi hc' he'
        exact ⟨[], [0, 5, 6], 7, left s.size (i + 1), hk ▸ q2, List.nodup_nil, i + 1, q1, rfl, cut_eq (by cbv) (by cbv)⟩
      · have he' : decide (byteAt s i = 10) = true := by rw [heq] at he; rw [hb]; exact he
        cbv
        have hz : z = true := hK.symm.trans (nlAt_hit hi hc' he')
        subst hz
        exact hQ _ _ trivial (hfin _ (by cbv))
end Go.Proofs.Ythilmgpciiopnaa.K
