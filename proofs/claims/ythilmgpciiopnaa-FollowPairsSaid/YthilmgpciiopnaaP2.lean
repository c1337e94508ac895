/- Contracts: follow.Last, follow.Ahead; the law FollowEnds. -/
import Derived.Test.YthilmgpciiopnaaF17
import Derived.Test.YthilmgpciiopnaaP1
namespace Go.Proofs.Ythilmgpciiopnaa.F
open Go G U K
set_option linter.unusedVariables false
set_option linter.unusedSimpArgs false
set_option maxRecDepth 100000
set_option maxHeartbeats 4000000
theorem fn45 : Try.prog.funcs[45]? = some Try.f45 := by kernel_rfl
theorem fn46 : Try.prog.funcs[46]? = some Try.f46 := by kernel_rfl
theorem fn10 : Try.prog.funcs[10]? = some Try.f10 := by kernel_rfl
theorem mir_facts {g : GramT} (hp : g.prods.length ≤ 1000) (hb : ∀ p ∈ g.prods, p.body.length ≤ 1000) : (mirG g).prods.length ≤ 1000 ∧ ∀ p ∈ (mirG g).prods, p.body.length ≤ 1000 := by
  refine ⟨by simpa [mirG] using hp, fun p hp => ?_⟩
  obtain ⟨q, hq, rfl⟩ := List.mem_map.1 hp
  simpa [mirP] using hb q hq
def lastT (g : GramT) : List Nat := firstT (mirG g).prods g.sorts.length
def aheadT (g : GramT) : List Nat := folT (mirG g).prods g.sorts.length g.start
theorem last_len (g : GramT) : (lastT g).length = g.sorts.length := (first_ok _ _).1.1.1
theorem ahead_len (g : GramT) : (aheadT g).length = g.sorts.length := (folT_ok _ _ _).1.1
theorem last_two (g : GramT) : lastT (mirG g) = firstT g.prods g.sorts.length := by
  unfold lastT
  rw [mirG_two]; rfl

theorem last_calls (g : GramT) (hs : g.sorts.length ≤ 1000) (hp : g.prods.length ≤ 1000) (hb : ∀ p ∈ g.prods, p.body.length ≤ 1000) : ACalls Try.prog 45 [gramV g] (fun k => .sl k 0 g.sorts.length) (fun _ => [⟨22, (lastT g).map setC⟩]) := by
  obtain ⟨hmp, hmb⟩ := mir_facts hp hb
  have hcM := mirror_calls g hp hb
  have hcO := of_calls (mirG g) hs hmp hmb
  have hFl : (lastT g).length = g.sorts.length := last_len g
  have hEf : flatRow ((emptyT (mirG g).prods g.sorts.length).map boolC) := flat_bool _
  have hFf : flatRow ((lastT g).map setC) := flat_set _
  unfold gramV gramL at hcM hcO ⊢
  rw [show (mirG g).sorts.length = g.sorts.length from rfl] at hcO
  rw [show firstT (mirG g).prods g.sorts.length = lastT g from rfl] at hcO
  have hFcl : ∀ c ∈ (lastT g).map setC, closedAll [] c = true := closed_map fun _ => rfl
  generalize (emptyT (mirG g).prods g.sorts.length).map boolC = EE at *
  generalize (lastT g).map setC = FF at *
  have hDr : readRow ((mirG g).prods.map prodC) := read_prods _
  have hDn : (mirG g).prods.length = ((mirG g).prods.map prodC).length := by rw [List.length_map]
  rw [show (mirG g).rules.map ruleC = g.rules.map ruleC from rfl, show (mirG g).sorts.map strC = g.sorts.map strC from rfl, show (mirG g).levels.map levC = g.levels.map levC from rfl, show (mirG g).start = g.start from rfl] at hcM hcO
  generalize (mirG g).prods.map prodC = DD at *
  generalize (mirG g).prods.length = pn at *
  generalize g.rules.map ruleC = R at *
  generalize g.sorts.map strC = S at *
  generalize g.prods.map prodC = D at *
  generalize g.levels.map levC = V at *
  generalize g.start = start at *
  generalize g.sorts.length = n at *
  clear hp hb hmp hmb
  refine acalls_symF tabF_ok fn45 rfl rfl rfl (by kernel_rfl) ?_
  rintro ⟨lt, le, eq, se, ar, dv, una, conv, len, sln, nat, nth, ixs, cel, sto, app, cpy, slc, mak, ixv, oth, dk, ib, call⟩ hS hm Q hQ
  obtain ⟨hlt, hle, heq, hse, har, hdv, huna, hconv, hlen, hsln, hnat, hnth, hixs, hcel, hsto, happ, hcpy, hslc, hmak, hixv, hoth, hdk, hib, hcall⟩ := Sym.mk.inj hS
  clear hS
  have hnt : ∀ n : Nat, nat n = U.natI n := fun n => by rw [hnat]; rfl
  have hbox : ∀ e c off, cel (some ⟨e, [c]⟩) 0 off = if off ≤ c.length then some (c.drop off) else none := fun e c off => by rw [hcel]; rfl
  have hsbox : ∀ e c off sz y, sto (some ⟨e, [c]⟩) 0 off sz y = if y.cells.length = sz ∧ off + sz ≤ c.length ∧ y.cells.all AV.one = true then some ⟨e, [spl c off y.cells]⟩ else none := fun e c off sz y => by rw [hsto]; rfl
  have hcaw : ∀ {f args T base K}, CallK Try.prog f args T base K → call f args T base K := fun h => by rw [hcall]; exact h
  have hcal : ∀ {f args T base} {K : AV → Table → List Nat → List Nat → Prop}, (∃ args' ids val rows, Hands T ids args args' (val base) (rows base) ∧ ACalls Try.prog f args' val rows ∧ (rows base).length ≤ 8 ∧ K (val base) (adopt T base (rows base)) ids ((List.range (rows base).length).map (base + ·))) → call f args T base K := fun h => hcaw (call_own h)
  cbv
  repeat (first | (rw [hbox]; cbv) | (rw [hsbox]; cbv))
  refine hcal ⟨_, [], _, _, .inl ⟨rfl, by cbv⟩, hcM, by simp, ?_⟩
  cbv
  refine hcal ⟨[.agg [.ro R, .ro S, .ro DD, .ro V, .flat (.int .i64 start)]], [24], _, _, hands_deep ⟨deep_agg ⟨.id rfl, .id rfl, deep_row (by simp) (by rfl) hDn hDr, .id rfl, .id rfl, trivial⟩, trivial⟩ rfl (noRo_flat2 hEf hFf), hcO, by simp, ?_⟩
  cbv
  refine hQ _ _ trivial ?_
  exact leaves_own (k := 33) (by cbv) (by rfl) hFcl
theorem ahead_calls (g : GramT) (hs : g.sorts.length ≤ 1000) (hp : g.prods.length ≤ 1000) (hb : ∀ p ∈ g.prods, p.body.length ≤ 1000) : ACalls Try.prog 46 [gramV g] (fun k => .sl k 0 g.sorts.length) (fun _ => [⟨22, (aheadT g).map setC⟩]) := by
  obtain ⟨hmp, hmb⟩ := mir_facts hp hb
  have hcM := mirror_calls g hp hb
  have hcO := folOf_calls (mirG g) hs hmp hmb
  have hFl : (aheadT g).length = g.sorts.length := ahead_len g
  have hFf : flatRow ((aheadT g).map setC) := flat_set _
  unfold gramV gramL at hcM hcO ⊢
  rw [show (mirG g).sorts.length = g.sorts.length from rfl] at hcO
  rw [show folT (mirG g).prods g.sorts.length (mirG g).start = aheadT g from rfl] at hcO
  have hFcl : ∀ c ∈ (aheadT g).map setC, closedAll [] c = true := closed_map fun _ => rfl
  generalize (aheadT g).map setC = FF at *
  have hDr : readRow ((mirG g).prods.map prodC) := read_prods _
  have hDn : (mirG g).prods.length = ((mirG g).prods.map prodC).length := by rw [List.length_map]
  rw [show (mirG g).rules.map ruleC = g.rules.map ruleC from rfl, show (mirG g).sorts.map strC = g.sorts.map strC from rfl, show (mirG g).levels.map levC = g.levels.map levC from rfl, show (mirG g).start = g.start from rfl] at hcM hcO
  generalize (mirG g).prods.map prodC = DD at *
  generalize (mirG g).prods.length = pn at *
  generalize g.rules.map ruleC = R at *
  generalize g.sorts.map strC = S at *
  generalize g.prods.map prodC = D at *
  generalize g.levels.map levC = V at *
  generalize g.start = start at *
  generalize g.sorts.length = n at *
  clear hp hb hmp hmb
  refine acalls_symF tabF_ok fn46 rfl rfl rfl (by kernel_rfl) ?_
  rintro ⟨lt, le, eq, se, ar, dv, una, conv, len, sln, nat, nth, ixs, cel, sto, app, cpy, slc, mak, ixv, oth, dk, ib, call⟩ hS hm Q hQ
  obtain ⟨hlt, hle, heq, hse, har, hdv, huna, hconv, hlen, hsln, hnat, hnth, hixs, hcel, hsto, happ, hcpy, hslc, hmak, hixv, hoth, hdk, hib, hcall⟩ := Sym.mk.inj hS
  clear hS
  have hnt : ∀ n : Nat, nat n = U.natI n := fun n => by rw [hnat]; rfl
  have hbox : ∀ e c off, cel (some ⟨e, [c]⟩) 0 off = if off ≤ c.length then some (c.drop off) else none := fun e c off => by rw [hcel]; rfl
  have hsbox : ∀ e c off sz y, sto (some ⟨e, [c]⟩) 0 off sz y = if y.cells.length = sz ∧ off + sz ≤ c.length ∧ y.cells.all AV.one = true then some ⟨e, [spl c off y.cells]⟩ else none := fun e c off sz y => by rw [hsto]; rfl
  have hcaw : ∀ {f args T base K}, CallK Try.prog f args T base K → call f args T base K := fun h => by rw [hcall]; exact h
  have hcal : ∀ {f args T base} {K : AV → Table → List Nat → List Nat → Prop}, (∃ args' ids val rows, Hands T ids args args' (val base) (rows base) ∧ ACalls Try.prog f args' val rows ∧ (rows base).length ≤ 8 ∧ K (val base) (adopt T base (rows base)) ids ((List.range (rows base).length).map (base + ·))) → call f args T base K := fun h => hcaw (call_own h)
  cbv
  repeat (first | (rw [hbox]; cbv) | (rw [hsbox]; cbv))
  refine hcal ⟨_, [], _, _, .inl ⟨rfl, by cbv⟩, hcM, by simp, ?_⟩
  cbv
  refine hcal ⟨[.agg [.ro R, .ro S, .ro DD, .ro V, .flat (.int .i64 start)]], [24], _, _, hands_deep ⟨deep_agg ⟨.id rfl, .id rfl, deep_row (by simp) (by rfl) hDn hDr, .id rfl, .id rfl, trivial⟩, trivial⟩ rfl (noRo_flat hFf), hcO, by simp, ?_⟩
  cbv
  refine hQ _ _ trivial ?_
  exact leaves_own (k := 32) (by cbv) (by rfl) hFcl
theorem followEnds_calls (g : GramT) : ACalls Try.prog 10 [gramV g] (fun _ => .flat (.bool true)) (fun _ => []) := by
  have hcA := awake22_calls
  have hcF := fewG_calls g
  obtain ⟨L, hL⟩ : ∃ L, L = (lastT g).map setC := ⟨_, rfl⟩
  obtain ⟨W, hW⟩ : ∃ L, L = (aheadT g).map setC := ⟨_, rfl⟩
  obtain ⟨F, hF⟩ : ∃ L, L = (firstT g.prods g.sorts.length).map setC := ⟨_, rfl⟩
  have hFl : (firstT g.prods g.sorts.length).length = g.sorts.length := (first_ok _ _).1.1.1
  have hLf : flatRow L := by rw [hL]; exact flat_set _
  have hWf : flatRow W := by rw [hW]; exact flat_set _
  have hFf : flatRow F := by rw [hF]; exact flat_set _
  have hLn : g.sorts.length = L.length := by rw [hL, List.length_map, last_len]
  have hWn : g.sorts.length = W.length := by rw [hW, List.length_map, ahead_len]
  have hFn : g.sorts.length = F.length := by rw [hF, List.length_map, hFl]
  obtain ⟨DD, hDD⟩ : ∃ X, X = (mirG g).prods.map prodC := ⟨_, rfl⟩
  have hDr : readRow DD := by rw [hDD]; exact read_prods _
  have hDn : (mirG g).prods.length = DD.length := by rw [hDD, List.length_map]
  have hall : fewG g = true → ACalls Try.prog 44 [gramV g] (fun k => .agg [.ro (g.rules.map ruleC), .ro (g.sorts.map strC), .sl k 0 (mirG g).prods.length, .ro (g.levels.map levC), .flat (.int .i64 g.start)]) (fun _ => [⟨61, DD⟩]) ∧
      ACalls Try.prog 45 [gramV g] (fun k => .sl k 0 g.sorts.length) (fun _ => [⟨22, L⟩]) ∧
      ACalls Try.prog 46 [gramV g] (fun k => .sl k 0 g.sorts.length) (fun _ => [⟨22, W⟩]) ∧
      ACalls Try.prog 32 [gramV g] (fun k => .sl k 0 g.sorts.length) (fun _ => [⟨22, F⟩]) ∧
      ACalls Try.prog 32 [.agg [.ro (g.rules.map ruleC), .ro (g.sorts.map strC), .ro DD, .ro (g.levels.map levC), .flat (.int .i64 g.start)]] (fun k => .sl k 0 g.sorts.length) (fun _ => [⟨22, L⟩]) ∧
      ACalls Try.prog 43 [.agg [.ro (g.rules.map ruleC), .ro (g.sorts.map strC), .ro DD, .ro (g.levels.map levC), .flat (.int .i64 g.start)]] (fun k => .sl k 0 g.sorts.length) (fun _ => [⟨22, W⟩]) ∧
      ACalls Try.prog 45 [.agg [.ro (g.rules.map ruleC), .ro (g.sorts.map strC), .ro DD, .ro (g.levels.map levC), .flat (.int .i64 g.start)]] (fun k => .sl k 0 g.sorts.length) (fun _ => [⟨22, F⟩]) ∧
      ACalls Try.prog 31 [.ro L, .ro L] (fun _ => .flat (.bool true)) (fun _ => []) ∧ ACalls Try.prog 31 [.ro W, .ro W] (fun _ => .flat (.bool true)) (fun _ => []) ∧ ACalls Try.prog 31 [.ro F, .ro F] (fun _ => .flat (.bool true)) (fun _ => []) := fun h => by
    obtain ⟨hs, hp, hb⟩ := few_1000 h
    obtain ⟨hmp, hmb⟩ := mir_facts hp hb
    have hlt := last_two g
    subst hL hW hF hDD
    have k1 := last_calls (mirG g) hs hmp hmb
    rw [hlt] at k1
    exact ⟨refMirror_calls g hp hb, last_calls g hs hp hb, ahead_calls g hs hp hb, refFirst_calls g hs hp hb, refFirst_calls (mirG g) hs hmp hmb, refFolOf_calls (mirG g) hs hmp hmb, k1, sameSet_calls _ (by rw [last_len]; exact hs), sameSet_calls _ (by rw [ahead_len]; exact hs), sameSet_calls _ (by rw [hFl]; exact hs)⟩
  generalize hf0 : fewG g = fw at hcF hall
  unfold gramV gramL at *
  clear hL hW hF hDD hFl
  generalize g.rules.map ruleC = R at *
  generalize g.sorts.map strC = S at *
  generalize g.prods.map prodC = D at *
  generalize g.levels.map levC = V at *
  generalize g.start = start at *
  generalize g.sorts.length = n at *
  generalize (mirG g).prods.length = pn at *
  refine acalls_symF tabF_ok fn10 rfl rfl rfl (by kernel_rfl) ?_
  have hfin : ∀ st, resA Try.prog Try.f10 st = some (.flat (.bool true)) → G.Leaves Try.prog Try.f10 (fun _ => .flat (.bool true)) (fun _ => []) st := fun st h => G.Leaves.plain h rfl
  rintro ⟨lt, le, eq, se, ar, dv, una, conv, len, sln, nat, nth, ixs, cel, sto, app, cpy, slc, mak, ixv, oth, dk, ib, call⟩ hS hm Q hQ
  obtain ⟨hlt, hle, heq, hse, har, hdv, huna, hconv, hlen, hsln, hnat, hnth, hixs, hcel, hsto, happ, hcpy, hslc, hmak, hixv, hoth, hdk, hib, hcall⟩ := Sym.mk.inj hS
  clear hS
  have hnt : ∀ n : Nat, nat n = U.natI n := fun n => by rw [hnat]; rfl
  have hbox : ∀ e c off, cel (some ⟨e, [c]⟩) 0 off = if off ≤ c.length then some (c.drop off) else none := fun e c off => by rw [hcel]; rfl
  have hsbox : ∀ e c off sz y, sto (some ⟨e, [c]⟩) 0 off sz y = if y.cells.length = sz ∧ off + sz ≤ c.length ∧ y.cells.all AV.one = true then some ⟨e, [spl c off y.cells]⟩ else none := fun e c off sz y => by rw [hsto]; rfl
  have hcaw : ∀ {f args T base K}, CallK Try.prog f args T base K → call f args T base K := fun h => by rw [hcall]; exact h
  have hcal : ∀ {f args T base} {K : AV → Table → List Nat → List Nat → Prop}, (∃ args' ids val rows, Hands T ids args args' (val base) (rows base) ∧ ACalls Try.prog f args' val rows ∧ (rows base).length ≤ 8 ∧ K (val base) (adopt T base (rows base)) ids ((List.range (rows base).length).map (base + ·))) → call f args T base K := fun h => hcaw (call_own h)
  cbv
  refine hcal ⟨_, [], _, _, .inl ⟨rfl, by cbv⟩, hcA, by simp, ?_⟩
  cbv
  repeat (first | (rw [hbox]; cbv) | (rw [hsbox]; cbv))
  refine hcal ⟨_, [], _, _, .inl ⟨rfl, by cbv⟩, hcF, by simp, ?_⟩
  cbv
  cases fw
  · cbv
    exact hQ _ _ trivial (hfin _ (by cbv))
  obtain ⟨c1, c2, c3, c4, c5, c6, c7, c8, c9, c10⟩ := hall rfl
  cbv
  repeat (first | (rw [hbox]; cbv) | (rw [hsbox]; cbv))
  refine hcal ⟨_, [], _, _, .inl ⟨rfl, by cbv⟩, c1, by simp, ?_⟩
  cbv
  repeat (first | (rw [hbox]; cbv) | (rw [hsbox]; cbv))
  refine ⟨by rw [hdk]; kernel_rfl, ?_⟩
  repeat (first | (rw [hbox]; cbv) | (rw [hsbox]; cbv))
  refine hcal ⟨_, [], _, _, .inl ⟨rfl, by cbv⟩, c2, by simp, ?_⟩
  cbv
  repeat (first | (rw [hbox]; cbv) | (rw [hsbox]; cbv))
  refine hcal ⟨[.agg [.ro R, .ro S, .ro DD, .ro V, .flat (.int .i64 start)]], [64], _, _, hands_deep ⟨deep_agg ⟨.id rfl, .id rfl, deep_row (by simp) (by rfl) hDn hDr, .id rfl, .id rfl, trivial⟩, trivial⟩ rfl (noRo_flat hLf), c5, by simp, ?_⟩
  cbv
  refine hcal ⟨[.ro L, .ro L], [96, 112], _, _, hands_deep ⟨deep_row (by simp) (by rfl) hLn hLf.read, deep_row (by simp) (by rfl) hLn hLf.read, trivial⟩ rfl (fun r hr => by cases hr), c8, by simp, ?_⟩
  cbv
  repeat (first | (rw [hbox]; cbv) | (rw [hsbox]; cbv))
  refine hcal ⟨_, [], _, _, .inl ⟨rfl, by cbv⟩, c3, by simp, ?_⟩
  cbv
  repeat (first | (rw [hbox]; cbv) | (rw [hsbox]; cbv))
  refine hcal ⟨[.agg [.ro R, .ro S, .ro DD, .ro V, .flat (.int .i64 start)]], [64], _, _, hands_deep ⟨deep_agg ⟨.id rfl, .id rfl, deep_row (by simp) (by rfl) hDn hDr, .id rfl, .id rfl, trivial⟩, trivial⟩ rfl (noRo_flat hWf), c6, by simp, ?_⟩
  cbv
  refine hcal ⟨[.ro W, .ro W], [144, 160], _, _, hands_deep ⟨deep_row (by simp) (by rfl) hWn hWf.read, deep_row (by simp) (by rfl) hWn hWf.read, trivial⟩ rfl (fun r hr => by cases hr), c9, by simp, ?_⟩
  cbv
  repeat (first | (rw [hbox]; cbv) | (rw [hsbox]; cbv))
  refine hcal ⟨[.agg [.ro R, .ro S, .ro DD, .ro V, .flat (.int .i64 start)]], [64], _, _, hands_deep ⟨deep_agg ⟨.id rfl, .id rfl, deep_row (by simp) (by rfl) hDn hDr, .id rfl, .id rfl, trivial⟩, trivial⟩ rfl (noRo_flat hFf), c7, by simp, ?_⟩
  cbv
  repeat (first | (rw [hbox]; cbv) | (rw [hsbox]; cbv))
  refine hcal ⟨_, [], _, _, .inl ⟨rfl, by cbv⟩, c4, by simp, ?_⟩
  cbv
  refine hcal ⟨[.ro F, .ro F], [200, 216], _, _, hands_deep ⟨deep_row (by simp) (by rfl) hFn hFf.read, deep_row (by simp) (by rfl) hFn hFf.read, trivial⟩ rfl (fun r hr => by cases hr), c10, by simp, ?_⟩
  cbv
  refine ⟨by rw [hib]; kernel_rfl, ?_⟩
  cbv
  exact hQ _ _ trivial (hfin _ (by cbv))
end Go.Proofs.Ythilmgpciiopnaa.F
