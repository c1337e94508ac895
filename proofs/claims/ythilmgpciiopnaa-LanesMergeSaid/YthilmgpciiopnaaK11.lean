/- Contracts: lanes.Breaks; bosketref14.counts. -/
import Derived.Test.YthilmgpciiopnaaK10
namespace Go.Proofs.Ythilmgpciiopnaa.K
set_option linter.unusedVariables false
set_option linter.unusedSimpArgs false
open Go G
set_option maxRecDepth 100000
theorem fn39 : Try.prog.funcs[39]? = some Try.f39 := by kernel_rfl
theorem fn52 : Try.prog.funcs[52]? = some Try.f52 := by kernel_rfl
theorem Breaks_calls (s : ByteArray) (hs : s.size ≤ maxLen) : ACalls Try.prog 39 [.flat (.string s)] (fun _ => .flat (.bool (nl s))) (fun _ => []) := by
  refine acalls_sym tab_ok fn39 rfl rfl rfl (by kernel_rfl) ?_
  have hfin : ∀ st, resA Try.prog Try.f39 st = some (.flat (.bool (nl s))) → G.Leaves Try.prog Try.f39 (fun _ => .flat (.bool (nl s))) (fun _ => []) st := fun st h => G.Leaves.plain h rfl
  have hcallK := breaks_calls s hs
  generalize hK : nl s = z at hfin hcallK ⊢
  rintro ⟨lt, le, eq, se, ar, dv, una, conv, len, sln, nat, nth, ixs, cel, sto, app, cpy, slc, mak, ixv, oth, dk, ib, call⟩ hS hm Q hQ
  obtain ⟨hlt, hle, heq, hse, har, hdv, huna, hconv, hlen, hsln, hnat, hnth, hixs, hcel, hsto, happ, hcpy, hslc, hmak, hixv, hoth, hdk, hib, hcall⟩ := Sym.mk.inj hS
  clear hm hS
  cbv
  rw [hcall]
  refine ⟨_, [], _, _, .inl ⟨rfl, by cbv⟩, hcallK, by simp, ?_⟩
  cbv
  exact hQ _ _ trivial (hfin _ (by cbv))
def countsT (ks : List Int) (r : Int) : Bool := decide (kindOf ks r = 0) || decide (kindOf ks r = 2)
theorem counts_calls (ks : List Int) (r : Int) (s : ByteArray) (a : Int) : ACalls Try.prog 52 [.ro (intE ks), tokA r s a] (fun _ => .flat (.bool (countsT ks r))) (fun _ => []) := by
  refine acalls_sym tab_ok fn52 rfl rfl rfl (by kernel_rfl) ?_
  have hcallK := refKind_calls ks r s a
  have hc0 : countsT ks r = (decide (kindOf ks r = 0) || decide (kindOf ks r = 2)) := rfl
  have hfin : ∀ st, resA Try.prog Try.f52 st = some (.flat (.bool (countsT ks r))) → G.Leaves Try.prog Try.f52 (fun _ => .flat (.bool (countsT ks r))) (fun _ => []) st := fun st h => G.Leaves.plain h rfl
  generalize countsT ks r = z at hfin hc0 ⊢
  generalize kindOf ks r = q at hcallK hc0
  generalize intE ks = X at hcallK ⊢
  unfold tokA at hcallK ⊢
  rintro ⟨lt, le, eq, se, ar, dv, una, conv, len, sln, nat, nth, ixs, cel, sto, app, cpy, slc, mak, ixv, oth, dk, ib, call⟩ hS hm Q hQ
  obtain ⟨hlt, hle, heq, hse, har, hdv, huna, hconv, hlen, hsln, hnat, hnth, hixs, hcel, hsto, happ, hcpy, hslc, hmak, hixv, hoth, hdk, hib, hcall⟩ := Sym.mk.inj hS
  clear hm hS
  have hbox : ∀ e c off, cel (some ⟨e, [c]⟩) 0 off = if off ≤ c.length then some (c.drop off) else none := fun e c off => by rw [hcel]; rfl
  have h0 : eq q 0 = decide (q = 0) := by rw [heq]
  have h2 : eq q 2 = decide (q = 2) := by rw [heq]
  rw [← h0, ← h2] at hc0
  cbv
  try (rw [hbox]; cbv)
  rw [hcall]
  refine ⟨_, [], _, _, .inl ⟨rfl, by cbv⟩, hcallK, by simp, ?_⟩
  cbv
  cases e0 : eq q 0
  · cbv
    rw [e0, Bool.false_or] at hc0
    rw [← hc0]
    exact hQ _ _ trivial (hfin _ (by cbv))
  · cbv
    rw [e0, Bool.true_or] at hc0
    subst hc0
    exact hQ _ _ trivial (hfin _ (by cbv))
end Go.Proofs.Ythilmgpciiopnaa.K
