/- Contracts: bosketref14.Kind, bosketref14.Breaks: as those of lanes. -/
import Derived.Test.YthilmgpciiopnaaK3
namespace Go.Proofs.Ythilmgpciiopnaa.K
set_option linter.unusedVariables false
set_option linter.unusedSimpArgs false
open Go G
set_option maxRecDepth 100000
theorem fn21 : Try.prog.funcs[21]? = some Try.f21 := by kernel_rfl
theorem fn40 : Try.prog.funcs[40]? = some Try.f40 := by kernel_rfl
theorem refKind_calls (ks : List Int) (r : Int) (s : ByteArray) (a : Int) : ACalls Try.prog 21 [.ro (intE ks), tokA r s a] (fun _ => .flat (.int .i64 (kindOf ks r))) (fun _ => []) := by
  refine acalls_sym tab_ok fn21 rfl rfl rfl (by kernel_rfl) ?_
  generalize hX : intE ks = X
  unfold tokA
  have hfin : ∀ st, resA Try.prog Try.f21 st = some (.flat (.int .i64 (kindOf ks r))) → G.Leaves Try.prog Try.f21 (fun _ => .flat (.int .i64 (kindOf ks r))) (fun _ => []) st := fun st h => G.Leaves.plain h rfl
  generalize hK : kindOf ks r = z at hfin ⊢
  rintro ⟨lt, le, eq, se, ar, dv, una, conv, len, sln, nat, nth, ixs, cel, sto, app, cpy, slc, mak, ixv, oth, dk, ib, call⟩ hS hm Q hQ
  obtain ⟨hlt, hle, heq, hse, har, hdv, huna, hconv, hlen, hsln, hnat, hnth, hixs, hcel, hsto, happ, hcpy, hslc, hmak, hixv, hoth, hdk, hib, hcall⟩ := Sym.mk.inj hS
  clear hm hS
  have hbox : ∀ e c off, cel (some ⟨e, [c]⟩) 0 off = if off ≤ c.length then some (c.drop off) else none := fun e c off => by rw [hcel]; rfl
  cbv
  rw [hbox]; cbv
  cases h1 : lt r 0
  · cbv
    rw [hbox]; cbv
    cases h2 : le (len X) r
    · cbv
      rw [hbox]; cbv
      have h3 : nth X r 1 = some (.rp [.flat (.int .i64 z)]) := by
        rw [hlt] at h1
        rw [hle, hlen, ← hX, len_int] at h2
        simp only [decide_eq_false_iff_not] at h1 h2
        rw [hnth, ← hX, ← hK, nth_int ks r (by omega) (by omega), kindOf, if_neg (by omega)]
      rw [h3]; cbv
      exact hQ _ _ trivial (hfin _ (by cbv))
    · cbv
      have : z = 1 := by
        rw [hle, hlen, ← hX, len_int] at h2
        simp only [decide_eq_true_eq] at h2
        rw [← hK, kindOf, if_pos (by omega)]
      subst this
      exact hQ _ _ trivial (hfin _ (by cbv))
  · cbv
    have : z = 1 := by
      rw [hlt] at h1
      simp only [decide_eq_true_eq] at h1
      rw [← hK, kindOf, if_pos (by omega)]
    subst this
    exact hQ _ _ trivial (hfin _ (by cbv))
theorem refBreaks_calls (s : ByteArray) (hs : s.size ≤ maxLen) : ACalls Try.prog 40 [.flat (.string s)] (fun _ => .flat (.bool (nl s))) (fun _ => []) := by
  refine acalls_sym tab_ok fn40 rfl rfl rfl (by kernel_rfl) ?_
  have hfin : ∀ st, resA Try.prog Try.f40 st = some (.flat (.bool (nl s))) → G.Leaves Try.prog Try.f40 (fun _ => .flat (.bool (nl s))) (fun _ => []) st := fun st h => G.Leaves.plain h rfl
  generalize hK : nl s = z at hfin ⊢
  rintro ⟨lt, le, eq, se, ar, dv, una, conv, len, sln, nat, nth, ixs, cel, sto, app, cpy, slc, mak, ixv, oth, dk, ib, call⟩ hS hm Q hQ
  obtain ⟨hlt, hle, heq, hse, har, hdv, huna, hconv, hlen, hsln, hnat, hnth, hixs, hcel, hsto, happ, hcpy, hslc, hmak, hixv, hoth, hdk, hib, hcall⟩ := Sym.mk.inj hS
  clear hS
  cbv
  refine MW_loop hm [] [0, 3] 4 List.nodup_nil (fun k st => ∃ i : Int, NlAt s i ∧ k = left s.size i ∧ st = stOf [.flat (.string s), .dead, .dead, .flat (.int .i64 i)] [] 0) (left s.size 0) ?_ ?_
  · exact ⟨0, nlAt_zero s, rfl, cut_eq (by cbv) (by cbv)⟩
  · rintro k st ⟨i, hi, hk, rfl⟩
    cbv
    cases hc : lt i (sln s)
    · have hc' : decide (i < (s.size : Int)) = false := by rw [hlt, hsln] at hc; exact hc
      cbv
      have hz : z = false := hK.symm.trans (nlAt_end hi hc')
      subst hz
      exact hQ _ _ trivial (hfin _ (by cbv))
    · have hc' : decide (i < (s.size : Int)) = true := by rw [hlt, hsln] at hc; exact hc
      cbv
      have hix : ixv 9 (.flat (.string s)) (.flat (.int .i64 i)) = some (.flat (.int .u8 (byteAt s i))) := by
        rw [hixv]
        exact nlAt_ix (by kernel_rfl) hi hc'
      generalize hb : byteAt s i = m at hix
      rw [hix]; cbv
      cases he : eq m 10
      · have he' : decide (byteAt s i = 10) = false := by rw [heq] at he; rw [hb]; exact he
        cbv
        rw [show ar .add .i64 i 1 = i + 1 by rw [har]; exact nlAt_add hs hi hc']
        obtain ⟨q1, q2⟩ := nlAt_step hi hc' he'
        exact ⟨[], [0, 3], 4, left s.size (i + 1), hk ▸ q2, List.nodup_nil, i + 1, q1, rfl, cut_eq (by cbv) (by cbv)⟩
      · have he' : decide (byteAt s i = 10) = true := by rw [heq] at he; rw [hb]; exact he
        cbv
        have hz : z = true := hK.symm.trans (nlAt_hit hi hc' he')
        subst hz
        exact hQ _ _ trivial (hfin _ (by cbv))
end Go.Proofs.Ythilmgpciiopnaa.K
