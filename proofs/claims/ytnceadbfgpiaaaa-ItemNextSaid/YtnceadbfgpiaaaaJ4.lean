/- Contracts: the example of bosketlaw24; few items. -/
import Derived.Test.YtnceadbfgpiaaaaJ3
namespace Go.Proofs.Ytnceadbfgpiaaaa.J
open Go G U K I
set_option linter.unusedVariables false
set_option linter.unusedSimpArgs false
set_option maxRecDepth 100000
set_option maxHeartbeats 4000000
def AllAt {α : Type} (p : α → Bool) (l : List α) (i : Int) : Prop := At l i ∧ (l.take i.toNat).all p = true
section
variable {α : Type} {p : α → Bool} {l : List α} {i : Int}
theorem all_zero (p : α → Bool) (l : List α) : AllAt p l 0 := ⟨⟨by omega, by omega⟩, rfl⟩
theorem all_end [Inhabited α] (h : AllAt p l i) (hc : decide (i < (l.length : Int)) = false) : l.all p = true := by
  have := h.2
  rwa [take_end h.1 hc] at this
theorem all_step [Inhabited α] (h : AllAt p l i) (hc : decide (i < (l.length : Int)) = true) (hp : p (atI l i) = true) : AllAt p l (i + 1) := by
  obtain ⟨_, h0, h1⟩ := at_lt h.1 hc
  refine ⟨(at_step h.1 hc).1, ?_⟩
  rw [take_next h0 h1, List.all_append, h.2]
  simp [hp]
theorem all_hit [Inhabited α] (h : AllAt p l i) (hc : decide (i < (l.length : Int)) = true) (hp : p (atI l i) = false) : l.all p = false := by
  obtain ⟨_, h0, h1⟩ := at_lt h.1 hc
  rw [List.all_eq_false]
  exact ⟨_, at_mem h0 h1, by rw [hp]; decide⟩
end
def fewB (x : ItemT) : Bool := !decide (x.prod < 0) && (!decide ((65535 : Int) < x.prod) && (!decide (x.dot < 0) && !decide ((65535 : Int) < x.dot)))
def fewL (l : List ItemT) : Bool := !decide ((30 : Int) < (l.length : Int)) && l.all fewB
theorem fewL_facts {l : List ItemT} (hok : ∀ x ∈ l, okI64 x) (h : fewL l = true) : l.length ≤ 30 ∧ ∀ x ∈ l, fewI x := by
  unfold fewL at h
  rw [Bool.and_eq_true, Bool.not_eq_true'] at h
  have h1 := of_decide_eq_false h.1
  refine ⟨by omega, fun x hx => ?_⟩
  have h2 := List.all_eq_true.1 h.2 x hx
  unfold fewB at h2
  simp only [Bool.and_eq_true, Bool.not_eq_true', decide_eq_false_iff_not] at h2
  exact ⟨by omega, by omega, by omega, by omega, hok x hx⟩
theorem awake_calls : ACalls Try.prog 7 [] (fun _ => .flat (.bool true)) (fun _ => []) := by
  have hcO : ACalls Try.prog 9 [.ro [[.flat (.int .i64 1), .flat (.int .i64 0), .flat (.int .u64 1)], [.flat (.int .i64 0), .flat (.int .i64 2), .flat (.int .u64 2)], [.flat (.int .i64 1), .flat (.int .i64 0), .flat (.int .u64 4)]]] (fun k => .sl k 0 2) (fun _ => [⟨28, [[.flat (.int .i64 0), .flat (.int .i64 2), .flat (.int .u64 2)], [.flat (.int .i64 1), .flat (.int .i64 0), .flat (.int .u64 5)]]⟩]) := by
    have h := of_calls [⟨1, 0, 1⟩, ⟨0, 2, 2⟩, ⟨1, 0, 4⟩] (by decide) (fun x hx => by
      simp only [List.mem_cons, List.not_mem_nil, or_false] at hx
      rcases hx with rfl | rfl | rfl <;> (unfold okI64; decide))
    have e : ofT [⟨1, 0, 1⟩, ⟨0, 2, 2⟩, ⟨1, 0, 4⟩] = [⟨0, 2, 2⟩, ⟨1, 0, 5⟩] := by kernel_rfl
    rw [e] at h
    exact h
  have hf := flat_items [⟨0, 2, 2⟩, ⟨1, 0, 5⟩]
  have hr : readRow [[AV.flat (.int .i64 1), .flat (.int .i64 0), .flat (.int .u64 1)], [.flat (.int .i64 0), .flat (.int .i64 2), .flat (.int .u64 2)], [.flat (.int .i64 1), .flat (.int .i64 0), .flat (.int .u64 4)]] := (flat_items [⟨1, 0, 1⟩, ⟨0, 2, 2⟩, ⟨1, 0, 4⟩]).read
  have d1 : dvOf Try.prog .eql 28 (.agg [AV.flat (.int .i64 0), .flat (.int .i64 2), .flat (.int .u64 2)]) (.agg [.flat (.int .i64 0), .flat (.int .i64 2), .flat (.int .u64 2)]) = some (.flat (.bool true)) := by
    rw [dvOf_eq]; intro x y; kernel_rfl
  have d2 : dvOf Try.prog .eql 28 (.agg [AV.flat (.int .i64 1), .flat (.int .i64 0), .flat (.int .u64 5)]) (.agg [.flat (.int .i64 1), .flat (.int .i64 0), .flat (.int .u64 5)]) = some (.flat (.bool true)) := by
    rw [dvOf_eq]; intro x y; kernel_rfl
  change ∀ c ∈ [[AV.flat (.int .i64 0), .flat (.int .i64 2), .flat (.int .u64 2)], [.flat (.int .i64 1), .flat (.int .i64 0), .flat (.int .u64 5)]], _ at hf
  refine acalls_symF tabF_ok fn7 rfl rfl rfl (by kernel_rfl) ?_
  have hfin : ∀ st, resA Try.prog Try.f7 st = some (.flat (.bool true)) → G.Leaves Try.prog Try.f7 (fun _ => .flat (.bool true)) (fun _ => []) st := fun st h => G.Leaves.plain h rfl
  rintro ⟨lt, le, eq, se, ar, dv, una, conv, len, sln, nat, nth, ixs, cel, sto, app, cpy, slc, mak, ixv, oth, dk, ib, call⟩ hS hm Q hQ
  obtain ⟨hlt, hle, heq, hse, har, hdv, huna, hconv, hlen, hsln, hnat, hnth, hixs, hcel, hsto, happ, hcpy, hslc, hmak, hixv, hoth, hdk, hib, hcall⟩ := Sym.mk.inj hS
  clear hS
  have hnt : ∀ n : Nat, nat n = U.natI n := fun n => by rw [hnat]; rfl
  have hbox : ∀ e c off, cel (some ⟨e, [c]⟩) 0 off = if off ≤ c.length then some (c.drop off) else none := fun e c off => by rw [hcel]; rfl
  have hsbox : ∀ e c off sz y, sto (some ⟨e, [c]⟩) 0 off sz y = if y.cells.length = sz ∧ off + sz ≤ c.length ∧ y.cells.all AV.one = true then some ⟨e, [spl c off y.cells]⟩ else none := fun e c off sz y => by rw [hsto]; rfl
  have hcaw : ∀ {f args T base K}, CallK Try.prog f args T base K → call f args T base K := fun h => by rw [hcall]; exact h
  have hcal : ∀ {f args T base} {K : AV → Table → List Nat → List Nat → Prop}, (∃ args' ids val rows, Hands T ids args args' (val base) (rows base) ∧ ACalls Try.prog f args' val rows ∧ (rows base).length ≤ 8 ∧ K (val base) (adopt T base (rows base)) ids ((List.range (rows base).length).map (base + ·))) → call f args T base K := fun h => hcaw (call_own h)
  have x1 : ∀ id, ixs (some ⟨28, [[AV.flat (.int .i64 0), .flat (.int .i64 2), .flat (.int .u64 2)], [.flat (.int .i64 1), .flat (.int .i64 0), .flat (.int .u64 5)]]⟩) id 0 2 0 3 = some (.ptr id 0 0) := fun id => by rw [hixs]; exact own_ix (i := 0) c28 (by decide) (by decide) id
  have x2 : ∀ id, ixs (some ⟨28, [[AV.flat (.int .i64 0), .flat (.int .i64 2), .flat (.int .u64 2)], [.flat (.int .i64 1), .flat (.int .i64 0), .flat (.int .u64 5)]]⟩) id 0 2 1 3 = some (.ptr id 1 0) := fun id => by rw [hixs]; exact own_ix (i := 1) c28 (by decide) (by decide) id
  have x3 : cel (some ⟨28, [[AV.flat (.int .i64 0), .flat (.int .i64 2), .flat (.int .u64 2)], [.flat (.int .i64 1), .flat (.int .i64 0), .flat (.int .u64 5)]]⟩) 0 0 = some [AV.flat (.int .i64 0), .flat (.int .i64 2), .flat (.int .u64 2)] := by rw [hcel]; rfl
  have x4 : cel (some ⟨28, [[AV.flat (.int .i64 0), .flat (.int .i64 2), .flat (.int .u64 2)], [.flat (.int .i64 1), .flat (.int .i64 0), .flat (.int .u64 5)]]⟩) 1 0 = some [AV.flat (.int .i64 1), .flat (.int .i64 0), .flat (.int .u64 5)] := by rw [hcel]; rfl
  have x5 : eq (nat 2) 2 = true := by rw [heq, hnat]; rfl
  have x6 : dv .eql 28 (.agg [AV.flat (.int .i64 0), .flat (.int .i64 2), .flat (.int .u64 2)]) (.agg [.flat (.int .i64 0), .flat (.int .i64 2), .flat (.int .u64 2)]) = some (.flat (.bool true)) := by rw [hdv]; exact d1
  have x7 : dv .eql 28 (.agg [AV.flat (.int .i64 1), .flat (.int .i64 0), .flat (.int .u64 5)]) (.agg [.flat (.int .i64 1), .flat (.int .i64 0), .flat (.int .u64 5)]) = some (.flat (.bool true)) := by rw [hdv]; exact d2
  cbv
  refine hcal ⟨[.ro [[.flat (.int .i64 1), .flat (.int .i64 0), .flat (.int .u64 1)], [.flat (.int .i64 0), .flat (.int .i64 2), .flat (.int .u64 2)], [.flat (.int .i64 1), .flat (.int .i64 0), .flat (.int .u64 4)]]], [32], _, _, hands_deep ⟨deep_row (by simp) (by rfl) rfl hr, trivial⟩ rfl (noRo_flat hf), hcO, by simp, ?_⟩
  cbv
  repeat (first | (rw [hbox]; cbv) | (rw [hsbox]; cbv) | (rw [x5]; cbv) | (rw [x1]; cbv) | (rw [x2]; cbv) | (rw [x3]; cbv) | (rw [x4]; cbv) | (rw [x6]; cbv) | (rw [x7]; cbv))
  exact hQ _ _ trivial (hfin _ (by cbv))
theorem few_calls (l : List ItemT) : ACalls Try.prog 8 [.ro (l.map itemC)] (fun _ => .flat (.bool (fewL l))) (fun _ => []) := by
  obtain ⟨r, hr⟩ : ∃ r, r = fewL l := ⟨_, rfl⟩
  have h1 : decide ((30 : Int) < (l.length : Int)) = true → r = false := fun h => by rw [hr]; unfold fewL; rw [h]; rfl
  have h2 : decide ((30 : Int) < (l.length : Int)) = false → l.all fewB = r := fun h => by rw [hr]; unfold fewL; rw [h]; rfl
  have hz := all_zero fewB l
  have hend : ∀ i, AllAt fewB l i → decide (i < (l.length : Int)) = false → l.all fewB = true := fun i h hc => all_end h hc
  have hstep : ∀ i, l.length ≤ 30 → AllAt fewB l i → decide (i < (l.length : Int)) = true → ∃ x : ItemT, nthE (l.map itemC) i 3 = some (.rp (itemC x)) ∧ (fewB x = true → AllAt fewB l (i + 1)) ∧ (fewB x = false → l.all fewB = false) ∧ arI .add .i64 i 1 = i + 1 ∧ (l.length - (i + 1).toNat < l.length - i.toNat) := fun i hs h hc => by
    obtain ⟨_, h0, h1⟩ := at_lt h.1 hc
    exact ⟨_, nth_map (fun _ => rfl) h0 h1, fun e => all_step h hc e, fun e => all_hit h hc e, ar_add64 (by omega) (by omega), by omega⟩
  rw [← hr]
  clear hr
  obtain ⟨X, hX⟩ : ∃ X, X = l.map itemC := ⟨_, rfl⟩
  have hXl : lenE X = (l.length : Int) := by rw [hX, len_map]
  rw [← hX] at hstep ⊢
  clear hX
  refine acalls_symF tabF_ok fn8 rfl rfl rfl (by kernel_rfl) ?_
  have hfin : ∀ st, resA Try.prog Try.f8 st = some (.flat (.bool r)) → G.Leaves Try.prog Try.f8 (fun _ => .flat (.bool r)) (fun _ => []) st := fun st h => G.Leaves.plain h rfl
  rintro ⟨lt, le, eq, se, ar, dv, una, conv, len, sln, nat, nth, ixs, cel, sto, app, cpy, slc, mak, ixv, oth, dk, ib, call⟩ hS hm Q hQ
  obtain ⟨hlt, hle, heq, hse, har, hdv, huna, hconv, hlen, hsln, hnat, hnth, hixs, hcel, hsto, happ, hcpy, hslc, hmak, hixv, hoth, hdk, hib, hcall⟩ := Sym.mk.inj hS
  clear hS
  have hnt : ∀ n : Nat, nat n = U.natI n := fun n => by rw [hnat]; rfl
  have hbox : ∀ e c off, cel (some ⟨e, [c]⟩) 0 off = if off ≤ c.length then some (c.drop off) else none := fun e c off => by rw [hcel]; rfl
  have hsbox : ∀ e c off sz y, sto (some ⟨e, [c]⟩) 0 off sz y = if y.cells.length = sz ∧ off + sz ≤ c.length ∧ y.cells.all AV.one = true then some ⟨e, [spl c off y.cells]⟩ else none := fun e c off sz y => by rw [hsto]; rfl
  have hcaw : ∀ {f args T base K}, CallK Try.prog f args T base K → call f args T base K := fun h => by rw [hcall]; exact h
  have hcal : ∀ {f args T base} {K : AV → Table → List Nat → List Nat → Prop}, (∃ args' ids val rows, Hands T ids args args' (val base) (rows base) ∧ ACalls Try.prog f args' val rows ∧ (rows base).length ≤ 8 ∧ K (val base) (adopt T base (rows base)) ids ((List.range (rows base).length).map (base + ·))) → call f args T base K := fun h => hcaw (call_own h)
  have g1 : lt 30 (len X) = decide ((30 : Int) < (l.length : Int)) := by rw [hlt, hlen, hXl]
  have hend2 : ∀ i, AllAt fewB l i → lt i (len X) = false → l.all fewB = true := fun i h hc => hend i h (by rw [hlt, hlen, hXl] at hc; exact hc)
  have hstep2 : ∀ i, l.length ≤ 30 → AllAt fewB l i → lt i (len X) = true → ∃ a b c : Int, nth X i 3 = some (.rp [.flat (.int .i64 a), .flat (.int .i64 b), .flat (.int .u64 c)]) ∧ ((!lt a 0 && (!lt 65535 a && (!lt b 0 && !lt 65535 b))) = true → AllAt fewB l (i + 1)) ∧ ((!lt a 0 && (!lt 65535 a && (!lt b 0 && !lt 65535 b))) = false → l.all fewB = false) ∧ ar .add .i64 i 1 = i + 1 ∧ (l.length - (i + 1).toNat < l.length - i.toNat) := fun i hs h hc => by
    rw [hlt, hlen, hXl] at hc
    obtain ⟨x, q1, q2, q3, q4, q5⟩ := hstep i hs h hc
    exact ⟨_, _, _, by rw [hnth]; exact q1, fun e => q2 (by rw [hlt] at e; exact e), fun e => q3 (by rw [hlt] at e; exact e), by rw [har]; exact q4, q5⟩
  rw [← g1] at h1 h2
  have h30 : lt 30 (len X) = false → l.length ≤ 30 := fun h => by rw [g1] at h; have := of_decide_eq_false h; omega
  clear g1 hend hstep
  cbv
  cases e1 : lt 30 (len X)
  rotate_left
  · have := h1 e1
    subst this
    cbv
    exact hQ _ _ trivial (hfin _ (by cbv))
  have hr := h2 e1
  have hs := h30 e1
  cbv
  refine MW_loop hm [] [0, 3] 4 (by simp) (fun mz st => ∃ (i : Int), AllAt fewB l i ∧ mz = l.length - i.toNat ∧ st = stOf [.ro X, .dead, .dead, .flat (.int .i64 i)] [] 0) (l.length - (0 : Int).toNat) ?_ ?_
  · exact ⟨0, hz, rfl, cut_eq (by cbv) (by rfl)⟩
  rintro mz st ⟨i, hi, hmz, rfl⟩
  cases hc : lt i (len X)
  · have := hend2 i hi hc
    rw [this] at hr
    subst hr
    cbv
    rw [hc]; cbv
    exact hQ _ _ trivial (hfin _ (by cbv))
  obtain ⟨a, b, c, q1, q2, q3, q4, q5⟩ := hstep2 i hs hi hc
  generalize i + 1 = i2 at q2 q4 q5
  cases k1 : lt a 0
  rotate_left
  · have := q3 (by rw [k1]; rfl)
    rw [this] at hr
    subst hr
    cbv
    rw [hc]; cbv
    repeat (first | (rw [hbox]; cbv) | (rw [hsbox]; cbv) | (rw [q1]; cbv))
    rw [k1]; cbv
    exact hQ _ _ trivial (hfin _ (by cbv))
  cases k2 : lt 65535 a
  rotate_left
  · have := q3 (by rw [k1, k2]; rfl)
    rw [this] at hr
    subst hr
    cbv
    rw [hc]; cbv
    repeat (first | (rw [hbox]; cbv) | (rw [hsbox]; cbv) | (rw [q1]; cbv))
    rw [k1]; cbv
    repeat (first | (rw [hbox]; cbv) | (rw [hsbox]; cbv) | (rw [q1]; cbv))
    rw [k2]; cbv
    exact hQ _ _ trivial (hfin _ (by cbv))
  cases k3 : lt b 0
  rotate_left
  · have := q3 (by rw [k1, k2, k3]; rfl)
    rw [this] at hr
    subst hr
    cbv
    rw [hc]; cbv
    repeat (first | (rw [hbox]; cbv) | (rw [hsbox]; cbv) | (rw [q1]; cbv))
    rw [k1]; cbv
    repeat (first | (rw [hbox]; cbv) | (rw [hsbox]; cbv) | (rw [q1]; cbv))
    rw [k2]; cbv
    repeat (first | (rw [hbox]; cbv) | (rw [hsbox]; cbv) | (rw [q1]; cbv))
    rw [k3]; cbv
    exact hQ _ _ trivial (hfin _ (by cbv))
  cases k4 : lt 65535 b
  rotate_left
  · have := q3 (by rw [k1, k2, k3, k4]; rfl)
    rw [this] at hr
    subst hr
    cbv
    rw [hc]; cbv
    repeat (first | (rw [hbox]; cbv) | (rw [hsbox]; cbv) | (rw [q1]; cbv))
    rw [k1]; cbv
    repeat (first | (rw [hbox]; cbv) | (rw [hsbox]; cbv) | (rw [q1]; cbv))
    rw [k2]; cbv
    repeat (first | (rw [hbox]; cbv) | (rw [hsbox]; cbv) | (rw [q1]; cbv))
    rw [k3]; cbv
    repeat (first | (rw [hbox]; cbv) | (rw [hsbox]; cbv) | (rw [q1]; cbv))
    rw [k4]; cbv
    exact hQ _ _ trivial (hfin _ (by cbv))
  have k5 := q2 (by rw [k1, k2, k3, k4]; rfl)
  cbv
  rw [hc]; cbv
  repeat (first | (rw [hbox]; cbv) | (rw [hsbox]; cbv) | (rw [q1]; cbv))
  rw [k1]; cbv
  repeat (first | (rw [hbox]; cbv) | (rw [hsbox]; cbv) | (rw [q1]; cbv))
  rw [k2]; cbv
  repeat (first | (rw [hbox]; cbv) | (rw [hsbox]; cbv) | (rw [q1]; cbv))
  rw [k3]; cbv
  repeat (first | (rw [hbox]; cbv) | (rw [hsbox]; cbv) | (rw [q1]; cbv))
  rw [k4]; cbv
  rw [q4]
  exact ⟨[], [0, 3], 4, l.length - i2.toNat, hmz ▸ q5, by simp, i2, k5, rfl, cut_eq (by cbv) (by rfl)⟩
end Go.Proofs.Ytnceadbfgpiaaaa.J
