/- The laws LayBy and LayAll: their contracts. -/
import Derived.Test.YtagflbmonlaioaaE6
import Derived.Test.YtagflbmonlaioaaD13
import Derived.Test.YtagflbmonlaioaaDt
namespace Go.Proofs.Ytagflbmonlaioaa.D
open Go G U K
set_option linter.unusedVariables false
set_option linter.unusedSimpArgs false
set_option maxRecDepth 100000
set_option maxHeartbeats 4000000
theorem fn40 : Try.prog.funcs[40]? = some Try.f40 := by kernel_rfl
theorem fn9 : Try.prog.funcs[9]? = some Try.f9 := by kernel_rfl
theorem fn8 : Try.prog.funcs[8]? = some Try.f8 := by kernel_rfl
theorem leaves_nilpair {P : Program} {fn : Func} {st : St} {w : Value} (t t2 : Nat) (e : TypeId) (hr : fn.results.toList = [.tmp t, .tmp t2]) (h : st.s t = .flat (.slice none 0 0)) (h2 : st.s t2 = .flat w) (hne : t2 ≠ t) : G.Leaves P fn (fun m => .tup [.sl m 0 0, .flat w]) (fun _ => [⟨e, []⟩]) st := by
  refine ⟨[.slot t e], [], [st.nx], .tup [.sl st.nx 0 0, .flat w], [⟨e, []⟩], ?_, by simp, by simp, by simp [closedIn, closedAll], ?_, ?_, fun m => ⟨by simp [ren, rens, newName], by simp [renRow]⟩⟩
  · show resA P fn (nilSlot t e st) = _
    unfold nilSlot
    rw [h]
    simp [resA, hr, resV, St.op, upd, AV.isDead, oneOf, hne, h2]
  · show [st.nx].map (nilSlot t e st).T = _
    unfold nilSlot
    rw [h]
    simp [Table.set]
  · intro r hr' e' he'
    simp at hr'
    subst hr'
    cases he'
theorem all_bad {d : DocT} (hs : d.length ≤ 1000000) (hc : checkD d ≠ 0) (most : Int) : ACalls Try.prog 42 [.ro (d.map partC), .flat (.int .i64 most)] (fun k => .tup [.sl k 0 0, .flat (.int .i64 (checkD d))]) (fun _ => [⟨9, []⟩]) := by
  have hcC := check_calls d hs
  have hB := by_bad hs hc []
  unfold byV at hB
  rw [show txt [] = (⟨#[]⟩ : ByteArray) from rfl] at hB
  generalize d.map partC = X at hcC hB ⊢
  generalize checkD d = ck at hc hcC hB ⊢
  refine acalls_symF tabF_ok fn42 rfl rfl rfl (by kernel_rfl) ?_
  rintro ⟨lt, le, eq, se, ar, dv, una, conv, len, sln, nat, nth, ixs, cel, sto, app, cpy, slc, mak, ixv, oth, dk, ib, call⟩ hS hm Q hQ
  obtain ⟨hlt, hle, heq, hse, har, hdv, huna, hconv, hlen, hsln, hnat, hnth, hixs, hcel, hsto, happ, hcpy, hslc, hmak, hixv, hoth, hdk, hib, hcall⟩ := Sym.mk.inj hS
  clear hS
  have hnt : ∀ n : Nat, nat n = U.natI n := fun n => by rw [hnat]; rfl
  have hbox : ∀ e c off, cel (some ⟨e, [c]⟩) 0 off = if off ≤ c.length then some (c.drop off) else none := fun e c off => by rw [hcel]; rfl
  have hsbox : ∀ e c off sz y, sto (some ⟨e, [c]⟩) 0 off sz y = if y.cells.length = sz ∧ off + sz ≤ c.length ∧ y.cells.all AV.one = true then some ⟨e, [spl c off y.cells]⟩ else none := fun e c off sz y => by rw [hsto]; rfl
  have hcaw : ∀ {f args T base K}, CallK Try.prog f args T base K → call f args T base K := fun h => by rw [hcall]; exact h
  have hcal : ∀ {f args T base} {K : AV → Table → List Nat → List Nat → Prop}, (∃ args' ids val rows, Hands T ids args args' (val base) (rows base) ∧ ACalls Try.prog f args' val rows ∧ (rows base).length ≤ 8 ∧ K (val base) (adopt T base (rows base)) ids ((List.range (rows base).length).map (base + ·))) → call f args T base K := fun h => hcaw (call_own h)
  have e2 : le 2000 0 = false := by rw [hle]; rfl
  have e3 : eq ck 0 = false := by rw [heq]; exact decide_eq_false hc
  cbv
  refine MW_loopZ hm [.slot 6 9, .slot 7 4] [40, 41] [0, 1, 6, 7, 8] 9 (by simp) (fun mz st => ∃ (u : Nat), u = 0 ∧ mz = 0 ∧ st = stOf [.ro X, .flat (.int .i64 most), .dead, .dead, .dead, .dead, .sl 0 0 0, .sl 1 0 0, .flat (.int .i64 0)] [some ⟨9, []⟩, some ⟨4, []⟩] 2) (0) ?_ ?_
  · exact ⟨0, rfl, rfl, cut_eq (by cbv) (cutRows_cons (by rfl) (fun c hc => by cases hc) (cutRows_cons (by rfl) (fun c hc => by cases hc) rfl))⟩
  rintro mz st ⟨u, hu, hmz, rfl⟩
  cases h1 : lt (nat 0) most
  · cbv
    have h1' : lt 0 most = false := by rw [hnt] at h1; exact h1
    first | rw [h1'] | rw [h1]
    cbv
    refine hcal ⟨_, [], _, _, .inl ⟨rfl, by cbv⟩, hcC, by simp, ?_⟩
    cbv
    exact hQ _ _ trivial (leaves_pair (k := 0) (by cbv) rfl (by rfl) (fun c hc => by cases hc))
  cbv
  have h1' : lt 0 most = true := by rw [hnt] at h1; exact h1
  first | rw [h1'] | rw [h1]
  cbv
  rw [e2]; cbv
  refine MW_loop hm [0, 1] [0, 1, 6, 7, 8] 9 (by simp) (fun mz st => ∃ (u : Nat), u = 0 ∧ mz = 0 ∧ st = stOf [.ro X, .flat (.int .i64 most), .dead, .dead, .dead, .dead, .sl 0 0 0, .sl 1 0 0, .flat (.int .i64 0)] [some ⟨9, []⟩, some ⟨4, []⟩] 2) (0) ?_ ?_
  · exact ⟨0, rfl, rfl, cut_eq (by cbv) (cutRows_cons (by rfl) (fun c hc => by cases hc) (cutRows_cons (by rfl) (fun c hc => by cases hc) rfl))⟩
  rintro ma st ⟨u2, hu2, hma, rfl⟩
  cbv
  refine hcal ⟨[.ro X, .ro []], [1], _, _, hands_deep ⟨.id rfl, deep_row (X := []) (by simp) (by rfl) rfl (by exact (flat_bool (l := []) rfl).read), trivial⟩ rfl (fun r hr => by cases hr), hB, by simp, ?_⟩
  cbv
  rw [e3]; cbv
  exact hQ _ _ trivial (leaves_nilpair 4 5 9 rfl (by cbv) (by cbv) (by decide))
def exT : Tr := .un (partK 6 0) (.cat (partK 4 0) (.cat (partK 4 0) (.lf ⟨0, 0, ⟨#[97]⟩⟩) (.lf (partK 1 0))) (.lf ⟨0, 0, ⟨#[98]⟩⟩))
theorem exT_flat : exT.flat = groupD exD := rfl
theorem exT_ok : exT.ok := by unfold exT; simp only [Tr.ok]; decide +kernel
theorem exT_all : (allT exT []).take (9 : Int).toNat = [⟨#[97, 32, 98]⟩, ⟨#[97, 10, 98]⟩] := by decide +kernel
theorem exT_small : Small exT.flat := ⟨by decide +kernel, by decide +kernel⟩
theorem awakeL_calls : ACalls Try.prog 40 [] (fun _ => .flat (.bool true)) (fun _ => []) := by
  have hcA := text_calls ⟨#[97]⟩
  have hcB := text_calls ⟨#[98]⟩
  have hcO := of_calls 1
  have hcC := cat_calls (textD ⟨#[97]⟩) [ofD 1, textD ⟨#[98]⟩] (by decide) (by decide) rfl
  have hcG := group_calls exD (by decide) rfl
  have hcW := all_calls exT_ok exT_small (by decide) 9 (n := 2) (by rw [exT_all]; rfl)
  have hcS := sameS_calls [⟨#[97, 32, 98]⟩, ⟨#[97, 10, 98]⟩] (by decide)
  rw [exT_all, exT_flat] at hcW
  obtain ⟨Y, hY⟩ : ∃ Y, Y = exD.map partC := ⟨_, rfl⟩
  obtain ⟨Z, hZ⟩ : ∃ Y, Y = (groupD exD).map partC := ⟨_, rfl⟩
  have hYf := flat_of hY
  have hZf := flat_of hZ
  have hYl : 5 = Y.length := by rw [hY]; rfl
  have hZl : 6 = Z.length := by rw [hZ]; rfl
  obtain ⟨R, hR⟩ : ∃ R, R = [(⟨#[97, 32, 98]⟩ : ByteArray), ⟨#[97, 10, 98]⟩].map strC := ⟨_, rfl⟩
  have hRf := flat_str hR
  have hRl : 2 = R.length := by rw [hR]; rfl
  rw [← hR] at hcS hcW
  have hR2 : [[.flat (.string ⟨#[97, 32, 98]⟩)], [.flat (.string ⟨#[97, 10, 98]⟩)]] = R := hR.symm
  rw [show catD (textD ⟨#[97]⟩ :: [ofD 1, textD ⟨#[98]⟩]) = exD from rfl, show exD.length = 5 from rfl, ← hY] at hcC
  rw [show exD.length + 1 = 6 from rfl, ← hY, ← hZ] at hcG
  rw [← hZ] at hcW
  refine acalls_symF tabF_ok fn40 rfl rfl rfl (by kernel_rfl) ?_
  have hfin : ∀ st, resA Try.prog Try.f40 st = some (.flat (.bool true)) → G.Leaves Try.prog Try.f40 (fun _ => .flat (.bool true)) (fun _ => []) st := fun st h => G.Leaves.plain h rfl
  rintro ⟨lt, le, eq, se, ar, dv, una, conv, len, sln, nat, nth, ixs, cel, sto, app, cpy, slc, mak, ixv, oth, dk, ib, call⟩ hS hm Q hQ
  obtain ⟨hlt, hle, heq, hse, har, hdv, huna, hconv, hlen, hsln, hnat, hnth, hixs, hcel, hsto, happ, hcpy, hslc, hmak, hixv, hoth, hdk, hib, hcall⟩ := Sym.mk.inj hS
  clear hS
  have hnt : ∀ n : Nat, nat n = U.natI n := fun n => by rw [hnat]; rfl
  have hbox : ∀ e c off, cel (some ⟨e, [c]⟩) 0 off = if off ≤ c.length then some (c.drop off) else none := fun e c off => by rw [hcel]; rfl
  have hsbox : ∀ e c off sz y, sto (some ⟨e, [c]⟩) 0 off sz y = if y.cells.length = sz ∧ off + sz ≤ c.length ∧ y.cells.all AV.one = true then some ⟨e, [spl c off y.cells]⟩ else none := fun e c off sz y => by rw [hsto]; rfl
  have hcaw : ∀ {f args T base K}, CallK Try.prog f args T base K → call f args T base K := fun h => by rw [hcall]; exact h
  have hcal : ∀ {f args T base} {K : AV → Table → List Nat → List Nat → Prop}, (∃ args' ids val rows, Hands T ids args args' (val base) (rows base) ∧ ACalls Try.prog f args' val rows ∧ (rows base).length ≤ 8 ∧ K (val base) (adopt T base (rows base)) ids ((List.range (rows base).length).map (base + ·))) → call f args T base K := fun h => hcaw (call_own h)
  have q1 : eq 0 0 = true := by rw [heq]; rfl
  cbv
  refine hcal ⟨_, [], _, _, .inl ⟨rfl, by cbv⟩, hcA, by simp, ?_⟩
  cbv
  refine hcal ⟨_, [], _, _, .inl ⟨rfl, by cbv⟩, hcO, by simp, ?_⟩
  cbv
  refine hcal ⟨_, [], _, _, .inl ⟨rfl, by cbv⟩, hcB, by simp, ?_⟩
  cbv
  refine hcal ⟨[.ro [docC (textD ⟨#[97]⟩), docC (ofD 1), docC (textD ⟨#[98]⟩)]], [32, 8, 16, 24], _, _, hands_deep ⟨deep_els (X := [[.sl 8 0 1], [.sl 16 0 1], [.sl 24 0 1]]) (by simp) (by rfl) rfl ⟨⟨deep_row (by simp) (by rfl) rfl (flat_part _).read, trivial⟩, ⟨deep_row (by simp) (by rfl) rfl (flat_part _).read, trivial⟩, ⟨deep_row (by simp) (by rfl) rfl (flat_part _).read, trivial⟩, trivial⟩, trivial⟩ rfl (noRo_flat hYf), hcC, by simp, ?_⟩
  cbv
  refine hcal ⟨[.ro Y], [40], _, _, hands_deep ⟨deep_row (by simp) (by rfl) hYl hYf.read, trivial⟩ rfl (noRo_flat hZf), hcG, by simp, ?_⟩
  cbv
  refine hcal ⟨[.ro Z, .flat (.int .i64 9)], [48], _, _, hands_deep ⟨deep_row (by simp) (by rfl) hZl hZf.read, .id rfl, trivial⟩ rfl (noRo_flat hRf), hcW, by simp, ?_⟩
  cbv
  rw [q1]; cbv
  refine hcal ⟨[.ro R, .ro R], [56, 136], _, _, hands_deep ⟨deep_row (by simp) (by rfl) hRl hRf.read, deep_row (by simp) (by first | rfl | (rw [hR]; rfl)) hRl hRf.read, trivial⟩ rfl (fun r hr => by cases hr), hcS, by simp, ?_⟩
  cbv
  exact hQ _ _ trivial (hfin _ (by cbv))
theorem by_ref {t : Tr} (ht : t.ok) (hs : Small t.flat) (ch : List Bool) : ACalls Try.prog 47 [.ro (t.flat.map partC), .flat (.int .i64 0), .flat (.bool false), .ro (ch.map boolC), .flat (.int .i64 0)] (fun _ => refV (byT ch t 0 false 0)) (fun _ => []) := by
  have hl := hs.1
  have hbs := byT_small ch ht hs false 0
  exact refBy_calls ch t ht (by omega) 0 false 0 (by omega) (by omega) (by omega) (by omega) (by omega)
theorem by_good {d : DocT} (hf : fewD d = true) (hk : checkD d = 0) (ch : List Bool) : ∃ (s s0 : ByteArray) (u u0 : Int),
    ACalls Try.prog 45 [.ro (d.map partC), .ro (ch.map boolC)] (fun _ => .tup [.flat (.string s), .flat (.int .i64 u), .flat (.int .i64 0)]) (fun _ => []) ∧
    ACalls Try.prog 46 [.ro (d.map partC)] (fun _ => .flat (.int .i64 u0)) (fun _ => []) ∧
    ACalls Try.prog 47 [.ro (d.map partC), .flat (.int .i64 0), .flat (.bool false), .ro (ch.map boolC), .flat (.int .i64 0)] (fun _ => .tup [.flat (.string s), .flat (.int .i64 u)]) (fun _ => []) ∧
    ACalls Try.prog 47 [.ro (d.map partC), .flat (.int .i64 0), .flat (.bool false), .ro [], .flat (.int .i64 0)] (fun _ => .tup [.flat (.string s0), .flat (.int .i64 u0)]) (fun _ => []) := by
  have hs := few_small hf
  obtain ⟨t, ht, rfl⟩ := tree_of hk
  exact ⟨_, _, _, _, by_calls ht hs ch, count_calls (r := .dead) (by_calls ht hs []), by_ref ht hs ch, by_ref ht hs []⟩
theorem by_none {d : DocT} (hf : fewD d = true) (hk : checkD d ≠ 0) (ch : List Bool) :
    ACalls Try.prog 45 [.ro (d.map partC), .ro (ch.map boolC)] (fun _ => .tup [.flat (.string ⟨#[]⟩), .flat (.int .i64 0), .flat (.int .i64 (checkD d))]) (fun _ => []) ∧
    ACalls Try.prog 46 [.ro (d.map partC)] (fun _ => .flat (.int .i64 0)) (fun _ => []) := by
  have hs : d.length ≤ 1000000 := by have := (few_small hf).1; omega
  exact ⟨by_bad hs hk _, count_calls (r := .dead) (by_bad hs hk [])⟩
theorem layBy_calls (d : DocT) (ch : List Bool) : ACalls Try.prog 9 [.ro (d.map partC), .ro (ch.map boolC)] (fun _ => .flat (.bool true)) (fun _ => []) := by
  have hcA := awakeL_calls
  have hcF := fewD_calls d
  have hcR : fewD d = true → ACalls Try.prog 22 [.ro (d.map partC)] (fun _ => .flat (.int .i64 (checkD d))) (fun _ => []) := fun h => refCheck_calls d (by have := (few_small h).1; omega)
  have hg : fewD d = true → decide (checkD d = 0) = true → _ := fun hf hk => by_good hf (of_decide_eq_true hk) ch
  have hb : fewD d = true → decide (checkD d = 0) = false → _ := fun hf hk => by_none hf (of_decide_eq_false hk) ch
  generalize d.map partC = X at hcF hcR hg hb ⊢
  generalize ch.map boolC = C at hg hb ⊢
  generalize fewD d = fw at hcF hcR hg hb
  refine acalls_symF tabF_ok fn9 rfl rfl rfl (by kernel_rfl) ?_
  have hfin : ∀ st, resA Try.prog Try.f9 st = some (.flat (.bool true)) → G.Leaves Try.prog Try.f9 (fun _ => .flat (.bool true)) (fun _ => []) st := fun st h => G.Leaves.plain h rfl
  rintro ⟨lt, le, eq, se, ar, dv, una, conv, len, sln, nat, nth, ixs, cel, sto, app, cpy, slc, mak, ixv, oth, dk, ib, call⟩ hS hm Q hQ
  obtain ⟨hlt, hle, heq, hse, har, hdv, huna, hconv, hlen, hsln, hnat, hnth, hixs, hcel, hsto, happ, hcpy, hslc, hmak, hixv, hoth, hdk, hib, hcall⟩ := Sym.mk.inj hS
  clear hS
  have hnt : ∀ n : Nat, nat n = U.natI n := fun n => by rw [hnat]; rfl
  have hbox : ∀ e c off, cel (some ⟨e, [c]⟩) 0 off = if off ≤ c.length then some (c.drop off) else none := fun e c off => by rw [hcel]; rfl
  have hsbox : ∀ e c off sz y, sto (some ⟨e, [c]⟩) 0 off sz y = if y.cells.length = sz ∧ off + sz ≤ c.length ∧ y.cells.all AV.one = true then some ⟨e, [spl c off y.cells]⟩ else none := fun e c off sz y => by rw [hsto]; rfl
  have hcaw : ∀ {f args T base K}, CallK Try.prog f args T base K → call f args T base K := fun h => by rw [hcall]; exact h
  have hcal : ∀ {f args T base} {K : AV → Table → List Nat → List Nat → Prop}, (∃ args' ids val rows, Hands T ids args args' (val base) (rows base) ∧ ACalls Try.prog f args' val rows ∧ (rows base).length ≤ 8 ∧ K (val base) (adopt T base (rows base)) ids ((List.range (rows base).length).map (base + ·))) → call f args T base K := fun h => hcaw (call_own h)
  have heqr : ∀ v, eq v v = true := fun v => by rw [heq]; exact decide_eq_true rfl
  have hser : ∀ v, se v v = true := fun v => by rw [hse]; exact beq_self_eq_true _
  have e2 : eq (checkD d) 0 = decide (checkD d = 0) := by rw [heq]
  have hz : decide (checkD d = 0) = true → checkD d = 0 := of_decide_eq_true
  generalize decide (checkD d = 0) = b1 at e2 hg hb hz
  generalize checkD d = ck at e2 hcR hb hz
  cbv
  refine hcal ⟨_, [], _, _, .inl ⟨rfl, by cbv⟩, hcA, by simp, ?_⟩
  cbv
  refine hcal ⟨_, [], _, _, .inl ⟨rfl, by cbv⟩, hcF, by simp, ?_⟩
  cbv
  cases fw
  · cbv
    exact hQ _ _ trivial (hfin _ (by cbv))
  replace hcR := hcR rfl
  cases h30 : lt 30 (len C)
  rotate_left
  · cbv
    rw [h30]; cbv
    exact hQ _ _ trivial (hfin _ (by cbv))
  cases b1
  · obtain ⟨hB, hN⟩ := hb rfl rfl
    clear hg hb
    cbv
    rw [h30]; cbv
    refine hcal ⟨_, [], _, _, .inl ⟨rfl, by cbv⟩, hB, by simp, ?_⟩
    cbv
    refine hcal ⟨_, [], _, _, .inl ⟨rfl, by cbv⟩, hcR, by simp, ?_⟩
    cbv
    rw [e2]; cbv
    repeat (first | (rw [heqr]; cbv) | (rw [hser]; cbv))
    refine hcal ⟨_, [], _, _, .inl ⟨rfl, by cbv⟩, hN, by simp, ?_⟩
    cbv
    repeat (first | (rw [heqr]; cbv) | (rw [hser]; cbv))
    exact hQ _ _ trivial (hfin _ (by cbv))
  obtain ⟨s, s0, u, u0, hB, hN, hR1, hR2⟩ := hg rfl rfl
  obtain rfl := hz rfl
  clear hg hb
  cbv
  rw [h30]; cbv
  refine hcal ⟨_, [], _, _, .inl ⟨rfl, by cbv⟩, hB, by simp, ?_⟩
  cbv
  refine hcal ⟨_, [], _, _, .inl ⟨rfl, by cbv⟩, hcR, by simp, ?_⟩
  cbv
  rw [e2]; cbv
  refine hcal ⟨_, [], _, _, .inl ⟨rfl, by cbv⟩, hR1, by simp, ?_⟩
  cbv
  refine hcal ⟨[.ro X, .flat (.int .i64 0), .flat (.bool false), .ro [], .flat (.int .i64 0)], [], _, _, hands_deep ⟨.id rfl, .id rfl, .id rfl, .nil, .id rfl, trivial⟩ rfl (fun r hr => by cases hr), hR2, by simp, ?_⟩
  cbv
  repeat (first | (rw [heqr]; cbv) | (rw [hser]; cbv))
  refine hcal ⟨_, [], _, _, .inl ⟨rfl, by cbv⟩, hN, by simp, ?_⟩
  cbv
  repeat (first | (rw [heqr]; cbv) | (rw [hser]; cbv))
  exact hQ _ _ trivial (hfin _ (by cbv))
theorem all_good {d : DocT} (hf : fewD d = true) (hk : checkD d = 0) (hg : kindCount d ≤ 7) (most : Int) : ∃ (l : List ByteArray) (n1 n : Nat), n = l.length ∧ n1 = (l.take most.toNat).length ∧ l.length ≤ 128 ∧
    ACalls Try.prog 42 [.ro (d.map partC), .flat (.int .i64 most)] (fun k => .tup [.sl k 0 n1, .flat (.int .i64 0)]) (fun _ => [⟨9, (l.take most.toNat).map strC⟩]) ∧
    ACalls Try.prog 43 [.ro (d.map partC), .ro []] (fun k => .sl k 0 n) (fun _ => [⟨9, l.map strC⟩]) ∧
    ACalls Try.prog 44 [.ro ((l.take most.toNat).map strC), .ro ((l.take most.toNat).map strC)] (fun _ => .flat (.bool true)) (fun _ => []) := by
  have hs := few_small hf
  obtain ⟨t, ht, rfl⟩ := tree_of hk
  have hg2 : groupsT t ≤ 7 := by rw [groups_count t ht]; exact hg
  have hl := allT_len hg2 []
  exact ⟨allT t [], _, _, rfl, rfl, hl, all_calls ht hs hg2 most rfl, refAll_calls ht hs hg2 _ [] tight_nil rfl, sameS_calls _ (by rw [List.length_take]; omega)⟩
theorem layAll_calls (d : DocT) (most : Int) : ACalls Try.prog 8 [.ro (d.map partC), .flat (.int .i64 most)] (fun _ => .flat (.bool true)) (fun _ => []) := by
  have hcA := awakeL_calls
  have hcF := fewD_calls d
  have hcR : fewD d = true → ACalls Try.prog 22 [.ro (d.map partC)] (fun _ => .flat (.int .i64 (checkD d))) (fun _ => []) := fun h => refCheck_calls d (by have := (few_small h).1; omega)
  have hcG : fewD d = true → ACalls Try.prog 41 [.ro (d.map partC)] (fun _ => .flat (.int .i64 (natI (kindCount d)))) (fun _ => []) := fun h => groups_calls d (by have := (few_small h).1; omega)
  have hg : fewD d = true → decide (checkD d = 0) = true → kindCount d ≤ 7 → _ := fun hf hk h7 => all_good hf (of_decide_eq_true hk) h7 most
  have hb : fewD d = true → decide (checkD d = 0) = false → _ := fun hf hk => all_bad (d := d) (by have := (few_small hf).1; omega) (of_decide_eq_false hk) most
  have h7 : decide (7 < natI (kindCount d)) = false → kindCount d ≤ 7 := fun h => by have := of_decide_eq_false h; unfold natI at this; omega
  generalize d.map partC = X at hcF hcR hcG hg hb ⊢
  generalize natI (kindCount d) = kc at hcG h7
  generalize fewD d = fw at hcF hcR hcG hg hb
  refine acalls_symF tabF_ok fn8 rfl rfl rfl (by kernel_rfl) ?_
  have hfin : ∀ st, resA Try.prog Try.f8 st = some (.flat (.bool true)) → G.Leaves Try.prog Try.f8 (fun _ => .flat (.bool true)) (fun _ => []) st := fun st h => G.Leaves.plain h rfl
  rintro ⟨lt, le, eq, se, ar, dv, una, conv, len, sln, nat, nth, ixs, cel, sto, app, cpy, slc, mak, ixv, oth, dk, ib, call⟩ hS hm Q hQ
  obtain ⟨hlt, hle, heq, hse, har, hdv, huna, hconv, hlen, hsln, hnat, hnth, hixs, hcel, hsto, happ, hcpy, hslc, hmak, hixv, hoth, hdk, hib, hcall⟩ := Sym.mk.inj hS
  clear hS
  have hnt : ∀ n : Nat, nat n = U.natI n := fun n => by rw [hnat]; rfl
  have hbox : ∀ e c off, cel (some ⟨e, [c]⟩) 0 off = if off ≤ c.length then some (c.drop off) else none := fun e c off => by rw [hcel]; rfl
  have hsbox : ∀ e c off sz y, sto (some ⟨e, [c]⟩) 0 off sz y = if y.cells.length = sz ∧ off + sz ≤ c.length ∧ y.cells.all AV.one = true then some ⟨e, [spl c off y.cells]⟩ else none := fun e c off sz y => by rw [hsto]; rfl
  have hcaw : ∀ {f args T base K}, CallK Try.prog f args T base K → call f args T base K := fun h => by rw [hcall]; exact h
  have hcal : ∀ {f args T base} {K : AV → Table → List Nat → List Nat → Prop}, (∃ args' ids val rows, Hands T ids args args' (val base) (rows base) ∧ ACalls Try.prog f args' val rows ∧ (rows base).length ≤ 8 ∧ K (val base) (adopt T base (rows base)) ids ((List.range (rows base).length).map (base + ·))) → call f args T base K := fun h => hcaw (call_own h)
  have heqr : ∀ v, eq v v = true := fun v => by rw [heq]; exact decide_eq_true rfl
  have e2 : eq (checkD d) 0 = decide (checkD d = 0) := by rw [heq]
  have hz : decide (checkD d = 0) = true → checkD d = 0 := of_decide_eq_true
  have e7 : lt 7 kc = decide (7 < kc) := by rw [hlt]
  generalize decide (7 < kc) = b7 at e7 h7
  generalize decide (checkD d = 0) = b1 at e2 hg hb hz
  generalize checkD d = ck at e2 hcR hb hz
  cbv
  refine hcal ⟨_, [], _, _, .inl ⟨rfl, by cbv⟩, hcA, by simp, ?_⟩
  cbv
  refine hcal ⟨_, [], _, _, .inl ⟨rfl, by cbv⟩, hcF, by simp, ?_⟩
  cbv
  cases fw
  · cbv
    exact hQ _ _ trivial (hfin _ (by cbv))
  replace hcR := hcR rfl
  replace hcG := hcG rfl
  replace hg := hg rfl
  replace hb := hb rfl
  cbv
  refine hcal ⟨_, [], _, _, .inl ⟨rfl, by cbv⟩, hcG, by simp, ?_⟩
  cbv
  rw [e7]
  cases b7
  rotate_left
  · cbv
    exact hQ _ _ trivial (hfin _ (by cbv))
  cases b1
  · replace hb := hb rfl
    clear hg
    have e0 : eq (nat 0) 0 = true := by rw [hnt]; exact heqr 0
    cbv
    refine hcal ⟨_, [], _, _, .inl ⟨rfl, by cbv⟩, hb, by simp, ?_⟩
    cbv
    refine hcal ⟨_, [], _, _, .inl ⟨rfl, by cbv⟩, hcR, by simp, ?_⟩
    cbv
    rw [e2]; cbv
    repeat (first | (rw [e0]; cbv) | (rw [heqr]; cbv))
    exact hQ _ _ trivial (hfin _ (by cbv))
  obtain ⟨l, n1, n, hn, hn1, hll, hA, hW, hS⟩ := hg rfl (h7 rfl)
  obtain rfl := hz rfl
  clear hg hb
  obtain ⟨R, hR⟩ : ∃ R, R = (l.take most.toNat).map strC := ⟨_, rfl⟩
  obtain ⟨Z, hZ⟩ : ∃ R, R = l.map strC := ⟨_, rfl⟩
  rw [← hR] at hA hS
  rw [← hZ] at hW
  have hRf := flat_str hR
  have hZf := flat_str hZ
  have hRl : n1 = R.length := by rw [hR, hn1, List.length_map]
  have hZl : n1 ≤ Z.length := by rw [hZ, hn1, List.length_map, List.length_take]; omega
  have hZt : Z.take n1 = R := by
    rw [hZ, hR, hn1, ← List.map_take, List.length_take]
    congr 1
    rw [← List.take_take, List.take_length]
  have hnc : nat n = (n : Int) := hnt n
  have e4 : lt most (nat n) = decide (most < (n : Int)) := by rw [hlt, hnc]
  have k1 : decide (most < (n : Int)) = true → ∀ (T : Table) id, T id = some ⟨9, Z⟩ → slc T 47 (.sl id 0 n) none (some (.flat (.int .i64 (max most 0)))) = some (.sl id 0 n1) := fun h T id hT => by
    have h := of_decide_eq_true h
    have e5 : (max most 0).toNat = n1 := by rw [hn1, List.length_take]; omega
    rw [hslc, slc_sl u47 z9 hT c9 (by rw [hZ, List.length_map, hn]; exact Nat.le_refl _) (bnd_hi (by omega) (by rw [hZ, List.length_map]; omega)), e5]
    simp
  have k2 : decide (most < (n : Int)) = false → n = n1 := fun h => by
    have h := of_decide_eq_false h
    rw [hn1, List.length_take]; omega
  generalize hmax : max most 0 = mx at k1
  generalize decide (most < (n : Int)) = b4 at e4 k1 k2
  cbv
  refine hcal ⟨_, [], _, _, .inl ⟨rfl, by cbv⟩, hA, by simp, ?_⟩
  cbv
  refine hcal ⟨_, [], _, _, .inl ⟨rfl, by cbv⟩, hcR, by simp, ?_⟩
  cbv
  rw [heqr]; cbv
  refine hcal ⟨[.ro X, .ro []], [], _, _, hands_deep ⟨.id rfl, .nil, trivial⟩ rfl (noRo_flat hZf), hW, by simp, ?_⟩
  cbv
  rw [e4]
  cases b4
  · obtain rfl := k2 rfl
    cbv
    rw [heqr]; cbv
    refine hcal ⟨[.ro R, .ro R], [104, 200], _, _, hands_deep ⟨deep_row (by simp) (by rfl) hRl hRf.read, hZt ▸ deep_part (by simp) (by rfl) hZl hZf.read, trivial⟩ rfl (fun r hr => by cases hr), hS, by simp, ?_⟩
    cbv
    exact hQ _ _ trivial (hfin _ (by cbv))
  replace k1 := k1 rfl
  rw [show (most : Int) = most from rfl]
  have hmx : ∀ (T : Table) (id : Nat) (ρ : Operand → Option AV) (ty : TypeId) (x y : Operand) ts (a b : Int), ρ x = some (.flat (.int .i64 a)) → ρ y = some (.flat (.int .i64 b)) → oth T id ρ ty (.call { callee := .builtin .max, args := #[x, y], argTypes := ts }) = some (.flat (.int .i64 (max a b)), T) := fun T id ρ ty x y ts a b h1 h2 => by
    rw [hoth]; exact oth_max h1 h2
  cbv
  rw [hmx _ _ _ _ _ _ _ _ _ (by rfl) (by rfl), hmax]; cbv
  rw [k1 _ _ (by rfl)]; cbv
  rw [heqr]; cbv
  refine hcal ⟨[.ro R, .ro R], [104, 200], _, _, hands_deep ⟨deep_row (by simp) (by rfl) hRl hRf.read, hZt ▸ deep_part (by simp) (by rfl) hZl hZf.read, trivial⟩ rfl (fun r hr => by cases hr), hS, by simp, ?_⟩
  cbv
  exact hQ _ _ trivial (hfin _ (by cbv))
end Go.Proofs.Ytagflbmonlaioaa.D
