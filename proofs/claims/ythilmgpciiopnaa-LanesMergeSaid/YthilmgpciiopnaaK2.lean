/- Contracts: lanes.Kind. -/
import Derived.Test.YthilmgpciiopnaaK1
namespace Go.Proofs.Ythilmgpciiopnaa.K
set_option linter.unusedVariables false
set_option linter.unusedSimpArgs false
open Go G
set_option maxRecDepth 100000
def tokA (r : Int) (s : ByteArray) (a : Int) : AV := .agg [.flat (.int .i64 r), .flat (.string s), .flat (.int .i64 a)]
def intE (l : List Int) : List (List AV) := l.map fun k => [.flat (.int .i64 k)]
def kindOf (ks : List Int) (r : Int) : Int := if r < 0 ∨ (ks.length : Int) ≤ r then 1 else ks.getD r.toNat 0
theorem len_int (ks : List Int) : lenE (intE ks) = ks.length := by simp [lenE, intE]
theorem nth_int (ks : List Int) (r : Int) (h0 : 0 ≤ r) (h1 : r < ks.length) : nthE (intE ks) r 1 = some (.rp [.flat (.int .i64 (ks.getD r.toNat 0))]) := by
  have hlt : r.toNat < ks.length := by omega
  simp [nthE, h0, intE, List.getElem?_eq_getElem hlt]
theorem kind_calls (ks : List Int) (r : Int) (s : ByteArray) (a : Int) : ACalls Try.prog 38 [.ro (intE ks), tokA r s a] (fun _ => .flat (.int .i64 (kindOf ks r))) (fun _ => []) := by
  refine acalls_sym tab_ok fn38 rfl rfl rfl (by kernel_rfl) ?_
  generalize hX : intE ks = X
  unfold tokA
  have hfin : ∀ st, resA Try.prog Try.f38 st = some (.flat (.int .i64 (kindOf ks r))) → G.Leaves Try.prog Try.f38 (fun _ => .flat (.int .i64 (kindOf ks r))) (fun _ => []) st := fun st h => G.Leaves.plain h rfl
  generalize hK : kindOf ks r = z at hfin ⊢
  rintro ⟨lt, le, eq, se, ar, dv, una, conv, len, sln, nat, nth, ixs, cel, sto, app, cpy, slc, mak, ixv, oth, dk, ib, call⟩ hS hm Q hQ
  obtain ⟨hlt, hle, heq, hse, har, hdv, huna, hconv, hlen, hsln, hnat, hnth, hixs, hcel, hsto, happ, hcpy, hslc, hmak, hixv, hoth, hdk, hib, hcall⟩ := Sym.mk.inj hS
  clear hm hS
  have hbox : ∀ e c off, cel (some ⟨e, [c]⟩) 0 off = if off ≤ c.length then some (c.drop off) else none := fun e c off => by rw [hcel]; rfl
  cbv
  rw [hbox]; cbv
  cases h1 : lt r 0
  · cbv
    rw [hbox]; cbv
    cases h2 : le (len X) r
    · cbv
      rw [hbox]; cbv
      have h3 : nth X r 1 = some (.rp [.flat (.int .i64 z)]) := by
        rw [hlt] at h1
        rw [hle, hlen, ← hX, len_int] at h2
        simp only [decide_eq_false_iff_not] at h1 h2
        rw [hnth, ← hX, ← hK, nth_int ks r (by omega) (by omega), kindOf, if_neg (by omega)]
      rw [h3]; cbv
      exact hQ _ _ trivial (hfin _ (by cbv))
    · cbv
      have : z = 1 := by
        rw [hle, hlen, ← hX, len_int] at h2
        simp only [decide_eq_true_eq] at h2
        rw [← hK, kindOf, if_pos (by omega)]
      subst this
      exact hQ _ _ trivial (hfin _ (by cbv))
  · cbv
    have : z = 1 := by
      rw [hlt] at h1
      simp only [decide_eq_true_eq] at h1
      rw [← hK, kindOf, if_pos (by omega)]
    subst this
    exact hQ _ _ trivial (hfin _ (by cbv))
end Go.Proofs.Ythilmgpciiopnaa.K
