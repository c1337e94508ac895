/- Contracts: the example of bosketlaw22; the law FollowOf. -/
import Derived.Test.YthilmgpciiopnaaF15
import Derived.Test.YthilmgpciiopnaaF16
namespace Go.Proofs.Ythilmgpciiopnaa.F
open Go G U K
set_option linter.unusedVariables false
set_option linter.unusedSimpArgs false
set_option maxRecDepth 100000
set_option maxHeartbeats 4000000
theorem fn41 : Try.prog.funcs[41]? = some Try.f41 := by kernel_rfl
theorem fn9 : Try.prog.funcs[9]? = some Try.f9 := by kernel_rfl
theorem deep_row1 {T : Table} {ids : List Nat} {id : Nat} {e : TypeId} {c c' : List AV} (hid : id ∈ ids) (hT : T id = some ⟨e, [c]⟩) (h : Deeps T ids c c') : Deep T ids (.sl id 0 1) (.ro [c']) := by
  obtain ⟨h1, h2⟩ := deeps_len h
  refine .sl hid hT (by simp) rfl (fun i x y hx hy => ?_) fun i x y j a b hx hy ha hb => ?_
  · cases i with
    | zero => simp at hx hy; rw [← hx, ← hy, h1]
    | succ i => simp at hx
  · cases i with
    | zero => simp at hx hy; subst hx hy; exact h2 j a b ha hb
    | succ i => simp at hx
def g0 : GramT := ⟨[], [⟨#[83]⟩], [⟨0, ⟨#[]⟩, [⟨false, 0⟩], false, 0, []⟩], [], 0⟩
theorem fol_g0 : folT g0.prods 1 0 = [9223372036854775808] := by kernel_rfl
theorem awake22_calls : ACalls Try.prog 41 [] (fun _ => .flat (.bool true)) (fun _ => []) := by
  refine acalls_symF tabF_ok fn41 rfl rfl rfl (by kernel_rfl) ?_
  have hfin : ∀ st, resA Try.prog Try.f41 st = some (.flat (.bool true)) → G.Leaves Try.prog Try.f41 (fun _ => .flat (.bool true)) (fun _ => []) st := fun st h => G.Leaves.plain h rfl
  have hcF : ACalls Try.prog 42 [.agg [.ro [], .ro [[.flat (.string ⟨#[83]⟩)]], .ro [[.flat (.int .i64 0), .flat (.string ⟨#[]⟩), .ro [[.flat (.bool false), .flat (.int .i64 0)]], .flat (.bool false), .flat (.int .i64 0), .ro []]], .ro [], .flat (.int .i64 0)]] (fun k => .sl k 0 1) (fun _ => [⟨22, [[.flat (.int .u64 9223372036854775808)]]⟩]) := by
    have h := folOf_calls g0 (by decide) (by decide) (by decide)
    have e : folT g0.prods g0.sorts.length g0.start = [9223372036854775808] := fol_g0
    rw [e] at h
    exact h
  rintro ⟨lt, le, eq, se, ar, dv, una, conv, len, sln, nat, nth, ixs, cel, sto, app, cpy, slc, mak, ixv, oth, dk, ib, call⟩ hS hm Q hQ
  obtain ⟨hlt, hle, heq, hse, har, hdv, huna, hconv, hlen, hsln, hnat, hnth, hixs, hcel, hsto, happ, hcpy, hslc, hmak, hixv, hoth, hdk, hib, hcall⟩ := Sym.mk.inj hS
  clear hS
  have hnt : ∀ n : Nat, nat n = U.natI n := fun n => by rw [hnat]; rfl
  have hbox : ∀ e c off, cel (some ⟨e, [c]⟩) 0 off = if off ≤ c.length then some (c.drop off) else none := fun e c off => by rw [hcel]; rfl
  have hsbox : ∀ e c off sz y, sto (some ⟨e, [c]⟩) 0 off sz y = if y.cells.length = sz ∧ off + sz ≤ c.length ∧ y.cells.all AV.one = true then some ⟨e, [spl c off y.cells]⟩ else none := fun e c off sz y => by rw [hsto]; rfl
  have hcaw : ∀ {f args T base K}, CallK Try.prog f args T base K → call f args T base K := fun h => by rw [hcall]; exact h
  have hcal : ∀ {f args T base} {K : AV → Table → List Nat → List Nat → Prop}, (∃ args' ids val rows, Hands T ids args args' (val base) (rows base) ∧ ACalls Try.prog f args' val rows ∧ (rows base).length ≤ 8 ∧ K (val base) (adopt T base (rows base)) ids ((List.range (rows base).length).map (base + ·))) → call f args T base K := fun h => hcaw (call_own h)
  have hix : ∀ id c, ixs (some ⟨22, [c]⟩) id 0 1 0 1 = some (.ptr id 0 0) := fun id c => by
    rw [hixs]; exact own_ix (i := 0) c22 (by decide) (by decide) id
  have h11 : eq (nat 1) 1 = true := by rw [heq, hnat]; rfl
  have hbb : eq 9223372036854775808 9223372036854775808 = true := by rw [heq]; rfl
  cbv
  refine hcal ⟨[.agg [.ro [], .ro [[.flat (.string ⟨#[83]⟩)]], .ro [[.flat (.int .i64 0), .flat (.string ⟨#[]⟩), .ro [[.flat (.bool false), .flat (.int .i64 0)]], .flat (.bool false), .flat (.int .i64 0), .ro []]], .ro [], .flat (.int .i64 0)]], [8, 24, 40], _, _, hands_deep ⟨deep_agg ⟨.nil, deep_row1 (c := [.flat (.string ⟨#[83]⟩)]) (by simp) (by rfl) ⟨.id rfl, trivial⟩, deep_row1 (c := [.flat (.int .i64 0), .flat (.string ⟨#[]⟩), .sl 24 0 1, .flat (.bool false), .flat (.int .i64 0), .flat (.slice none 0 0)]) (by simp) (by rfl) ⟨.id rfl, .id rfl, deep_row1 (c := [.flat (.bool false), .flat (.int .i64 0)]) (by simp) (by rfl) ⟨.id rfl, .id rfl, trivial⟩, .id rfl, .id rfl, .nil, trivial⟩, .nil, .id rfl, trivial⟩, trivial⟩ rfl (noRo_flat (flat_set [9223372036854775808])), hcF, by simp, ?_⟩
  cbv
  repeat (first | (rw [h11]; cbv) | (rw [hix]; cbv) | (rw [hbox]; cbv) | (rw [hbb]; cbv))
  exact hQ _ _ trivial (hfin _ (by cbv))
theorem followOf_calls (g : GramT) : ACalls Try.prog 9 [gramV g] (fun _ => .flat (.bool true)) (fun _ => []) := by
  refine acalls_symF tabF_ok fn9 rfl rfl rfl (by kernel_rfl) ?_
  have hfin : ∀ st, resA Try.prog Try.f9 st = some (.flat (.bool true)) → G.Leaves Try.prog Try.f9 (fun _ => .flat (.bool true)) (fun _ => []) st := fun st h => G.Leaves.plain h rfl
  have hcA := awake22_calls
  have hcF := fewG_calls g
  have hfew := @few_1000 g
  have hcO := folOf_calls g
  have hcR := refFolOf_calls g
  have hcS := sameSet_calls (folT g.prods g.sorts.length g.start)
  have hl : (folT g.prods g.sorts.length g.start).length = g.sorts.length := (folT_ok _ _ _).1.1
  rw [hl] at hcS
  obtain ⟨FF, hFF⟩ : ∃ X, X = (folT g.prods g.sorts.length g.start).map setC := ⟨_, rfl⟩
  have hFf : flatRow FF := by rw [hFF]; exact flat_set _
  have hFn : g.sorts.length = FF.length := by rw [hFF, List.length_map, hl]
  rw [← hFF] at hcO hcR hcS
  generalize hf0 : fewG g = fw at hcF hfew
  unfold gramV gramL at *
  clear hl hFF
  generalize g.rules.map ruleC = R at *
  generalize g.sorts.map strC = S at *
  generalize g.prods.map prodC = D at *
  generalize g.levels.map levC = V at *
  generalize g.start = start at *
  generalize g.sorts.length = n at *
  rintro ⟨lt, le, eq, se, ar, dv, una, conv, len, sln, nat, nth, ixs, cel, sto, app, cpy, slc, mak, ixv, oth, dk, ib, call⟩ hS hm Q hQ
  obtain ⟨hlt, hle, heq, hse, har, hdv, huna, hconv, hlen, hsln, hnat, hnth, hixs, hcel, hsto, happ, hcpy, hslc, hmak, hixv, hoth, hdk, hib, hcall⟩ := Sym.mk.inj hS
  clear hS
  have hnt : ∀ n : Nat, nat n = U.natI n := fun n => by rw [hnat]; rfl
  have hbox : ∀ e c off, cel (some ⟨e, [c]⟩) 0 off = if off ≤ c.length then some (c.drop off) else none := fun e c off => by rw [hcel]; rfl
  have hsbox : ∀ e c off sz y, sto (some ⟨e, [c]⟩) 0 off sz y = if y.cells.length = sz ∧ off + sz ≤ c.length ∧ y.cells.all AV.one = true then some ⟨e, [spl c off y.cells]⟩ else none := fun e c off sz y => by rw [hsto]; rfl
  have hcaw : ∀ {f args T base K}, CallK Try.prog f args T base K → call f args T base K := fun h => by rw [hcall]; exact h
  have hcal : ∀ {f args T base} {K : AV → Table → List Nat → List Nat → Prop}, (∃ args' ids val rows, Hands T ids args args' (val base) (rows base) ∧ ACalls Try.prog f args' val rows ∧ (rows base).length ≤ 8 ∧ K (val base) (adopt T base (rows base)) ids ((List.range (rows base).length).map (base + ·))) → call f args T base K := fun h => hcaw (call_own h)
  cbv
  refine hcal ⟨_, [], _, _, .inl ⟨rfl, by cbv⟩, hcA, by simp, ?_⟩
  cbv
  refine ⟨by rw [hdk]; kernel_rfl, ?_⟩
  repeat (first | (rw [hbox]; cbv))
  refine hcal ⟨_, [], _, _, .inl ⟨rfl, by cbv⟩, hcF, by simp, ?_⟩
  cbv
  cases fw
  · cbv
    refine ⟨by rw [hib]; kernel_rfl, ?_⟩
    cbv
    exact hQ _ _ trivial (hfin _ (by cbv))
  obtain ⟨f1, f2, f3⟩ := hfew rfl
  replace hcO := hcO f1 f2 f3
  replace hcR := hcR f1 f2 f3
  replace hcS := hcS f1
  cbv
  repeat (first | (rw [hbox]; cbv))
  refine hcal ⟨_, [], _, _, .inl ⟨rfl, by cbv⟩, hcO, by simp, ?_⟩
  cbv
  repeat (first | (rw [hbox]; cbv))
  refine hcal ⟨_, [], _, _, .inl ⟨rfl, by cbv⟩, hcR, by simp, ?_⟩
  cbv
  refine hcal ⟨[.ro FF, .ro FF], [72, 88], _, _, hands_deep ⟨deep_row (by simp) (by rfl) hFn hFf.read, deep_row (by simp) (by rfl) hFn hFf.read, trivial⟩ rfl (fun r hr => by cases hr), hcS, by simp, ?_⟩
  cbv
  refine ⟨by rw [hib]; kernel_rfl, ?_⟩
  cbv
  exact hQ _ _ trivial (hfin _ (by cbv))
end Go.Proofs.Ythilmgpciiopnaa.F
