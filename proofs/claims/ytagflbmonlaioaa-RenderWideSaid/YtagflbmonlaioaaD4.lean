/- Contracts: slices.Clone, Cat, Nest, Group; the example. -/
import Derived.Test.YtagflbmonlaioaaD3
namespace Go.Proofs.Ytagflbmonlaioaa.D
open Go G U K
set_option linter.unusedVariables false
set_option linter.unusedSimpArgs false
set_option maxRecDepth 100000
set_option maxHeartbeats 4000000
theorem fn56 : Try.prog.funcs[56]? = some Try.f56 := by kernel_rfl
theorem fn17 : Try.prog.funcs[17]? = some Try.f17 := by kernel_rfl
theorem fn18 : Try.prog.funcs[18]? = some Try.f18 := by kernel_rfl
theorem fn19 : Try.prog.funcs[19]? = some Try.f19 := by kernel_rfl
theorem fn15 : Try.prog.funcs[15]? = some Try.f15 := by kernel_rfl
theorem u23 : Try.prog.underlying 23 = some (.slice 27) := by kernel_rfl
theorem z27 : tinfo Try.prog 27 = some (some (.agg #[.int .i64 0, .int .i64 0, .string ⟨#[]⟩]), 3, 32) := by kernel_rfl
theorem dvn (c : Nat) : dvOf Try.prog .eql 23 (.flat (.slice none 0 c)) (.flat (.slice none 0 0)) = some (.flat (.bool true)) := by
  rw [dvOf_eq]
  intro x y
  kernel_rfl
theorem dvs (a : Addr) (c : Nat) : dvOf Try.prog .eql 23 (.flat (.slice (some a) 0 c)) (.flat (.slice none 0 0)) = some (.flat (.bool false)) := by
  rw [dvOf_eq]
  intro x y
  kernel_rfl
theorem dvr (e : List AV) (X : List (List AV)) : dvOf Try.prog .eql 23 (.ro (e :: X)) (.flat (.slice none 0 0)) = some (.flat (.bool false)) := by
  rw [dvOf_eq]
  intro x y
  kernel_rfl
theorem len3 {Y : List (List AV)} {l : DocT} (hY : Y = l.map partC) : ∀ c ∈ Y, c.length = 3 := by
  rw [hY]; intro c hc; obtain ⟨p, _, rfl⟩ := List.mem_map.1 hc; rfl
theorem clone_nil : ACalls Try.prog 56 [.ro []] (fun k => .sl k 0 0) (fun _ => [⟨27, []⟩]) := by
  refine acalls_empty fun a c => ?_
  refine acalls_symF tabF_ok fn56 rfl rfl rfl (by kernel_rfl) ?_
  rintro ⟨lt, le, eq, se, ar, dv, una, conv, len, sln, nat, nth, ixs, cel, sto, app, cpy, slc, mak, ixv, oth, dk, ib, call⟩ hS hm Q hQ
  obtain ⟨hlt, hle, heq, hse, har, hdv, huna, hconv, hlen, hsln, hnat, hnth, hixs, hcel, hsto, happ, hcpy, hslc, hmak, hixv, hoth, hdk, hib, hcall⟩ := Sym.mk.inj hS
  clear hS
  have hbox : ∀ e c off, cel (some ⟨e, [c]⟩) 0 off = if off ≤ c.length then some (c.drop off) else none := fun e c off => by rw [hcel]; rfl
  have hsbox : ∀ e c off sz y, sto (some ⟨e, [c]⟩) 0 off sz y = if y.cells.length = sz ∧ off + sz ≤ c.length ∧ y.cells.all AV.one = true then some ⟨e, [spl c off y.cells]⟩ else none := fun e c off sz y => by rw [hsto]; rfl
  have hcaw : ∀ {f args T base K}, CallK Try.prog f args T base K → call f args T base K := fun h => by rw [hcall]; exact h
  have hcal : ∀ {f args T base} {K : AV → Table → List Nat → List Nat → Prop}, (∃ args' ids val rows, Hands T ids args args' (val base) (rows base) ∧ ACalls Try.prog f args' val rows ∧ (rows base).length ≤ 8 ∧ K (val base) (adopt T base (rows base)) ids ((List.range (rows base).length).map (base + ·))) → call f args T base K := fun h => hcaw (call_own h)
  cases a with
  | none =>
    have hd := dvn c
    rw [← hdv] at hd
    cbv
    rw [hd]; cbv
    exact hQ _ _ trivial (leaves_nil 2 rfl (by rfl) rfl rfl)
  | some a =>
    have hd := dvs a c
    rw [← hdv] at hd
    obtain ⟨Y, hY⟩ : ∃ Y : List (List AV), Y = [] := ⟨_, rfl⟩
    have ha : ∀ (T : Table) id k0, T k0 = some ⟨27, []⟩ → app T id 23 23 (.sl k0 0 0) (.flat (.slice (some a) 0 c)) = some (.sl id 0 0, (T.set k0 none).set id (some ⟨27, Y⟩)) := fun T id k0 hT => by
      rw [happ]
      exact app_gen u23 u23 rfl z27 (by decide) rfl (by decide) hT rfl rfl (fun c hc => by cases hc) (Nat.le_refl _) rfl hY (by decide)
    cbv
    rw [hd]; cbv
    rw [ha _ _ _ (by rfl)]; cbv
    exact hQ _ _ trivial (leaves_own (k := 40) (by cbv) (by rw [← hY]; rfl) (fun c hc => by cases hc))
theorem clone_calls (d : DocT) (hs : d.length ≤ 1000000) {n : Nat} (hn : n = d.length) : ACalls Try.prog 56 [.ro (d.map partC)] (fun k => .sl k 0 n) (fun _ => [⟨27, d.map partC⟩]) := by
  cases d with
  | nil => subst hn; exact clone_nil
  | cons p d =>
  obtain ⟨X, hX⟩ : ∃ X, X = (p :: d).map partC := ⟨_, rfl⟩
  have hd := dvr (partC p) (d.map partC)
  rw [show partC p :: d.map partC = (p :: d).map partC from rfl, ← hX] at hd
  rw [← hX]
  have hnX : n = X.length := by rw [hX, hn, List.length_map]
  have h3 := len3 hX
  have hcl := closed_part hX
  have hnle : n ≤ 100000000 := by omega
  clear hn hX
  refine acalls_symF tabF_ok fn56 rfl rfl rfl (by kernel_rfl) ?_
  rintro ⟨lt, le, eq, se, ar, dv, una, conv, len, sln, nat, nth, ixs, cel, sto, app, cpy, slc, mak, ixv, oth, dk, ib, call⟩ hS hm Q hQ
  obtain ⟨hlt, hle, heq, hse, har, hdv, huna, hconv, hlen, hsln, hnat, hnth, hixs, hcel, hsto, happ, hcpy, hslc, hmak, hixv, hoth, hdk, hib, hcall⟩ := Sym.mk.inj hS
  clear hS
  have hbox : ∀ e c off, cel (some ⟨e, [c]⟩) 0 off = if off ≤ c.length then some (c.drop off) else none := fun e c off => by rw [hcel]; rfl
  have hsbox : ∀ e c off sz y, sto (some ⟨e, [c]⟩) 0 off sz y = if y.cells.length = sz ∧ off + sz ≤ c.length ∧ y.cells.all AV.one = true then some ⟨e, [spl c off y.cells]⟩ else none := fun e c off sz y => by rw [hsto]; rfl
  have hcaw : ∀ {f args T base K}, CallK Try.prog f args T base K → call f args T base K := fun h => by rw [hcall]; exact h
  have hcal : ∀ {f args T base} {K : AV → Table → List Nat → List Nat → Prop}, (∃ args' ids val rows, Hands T ids args args' (val base) (rows base) ∧ ACalls Try.prog f args' val rows ∧ (rows base).length ≤ 8 ∧ K (val base) (adopt T base (rows base)) ids ((List.range (rows base).length).map (base + ·))) → call f args T base K := fun h => hcaw (call_own h)
  rw [← hdv] at hd
  have ha : ∀ (T : Table) id k0, T k0 = some ⟨27, []⟩ → app T id 23 23 (.sl k0 0 0) (.ro X) = some (.sl id 0 n, (T.set k0 none).set id (some ⟨27, X⟩)) := fun T id k0 hT => by
    rw [happ]
    exact app_ro u23 u23 z27 (by decide) rfl (by decide) hT h3 (Nat.le_refl _) (by rw [hnX]; exact (Nat.zero_add _).symm) rfl hnle
  cbv
  rw [hd]; cbv
  rw [ha _ _ _ (by rfl)]; cbv
  exact hQ _ _ trivial (leaves_own (k := 40) (by cbv) (by rfl) hcl)
theorem flat_of {Y : List (List AV)} {l : DocT} (hY : Y = l.map partC) : flatRow Y := by rw [hY]; exact flat_part l
/-- What is handed over is a document. -/
def partK (k n : Int) : PartT := ⟨k, n, ⟨#[]⟩⟩
def nestD (n : Int) (d : DocT) : DocT := d ++ [partK 5 n]
def groupD (d : DocT) : DocT := d ++ [partK 6 0]
theorem nest_calls (pn : Int) (d : DocT) (hs : d.length ≤ 100000) {n : Nat} (hn : n = d.length + 1) : ACalls Try.prog 18 [.flat (.int .i64 pn), .ro (d.map partC)] (fun k => .sl k 0 n) (fun _ => [⟨27, (nestD pn d).map partC⟩]) := by
  obtain ⟨X, hX⟩ : ∃ X, X = d.map partC := ⟨_, rfl⟩
  have hcC := clone_calls d (by omega) rfl
  obtain ⟨Y, hY⟩ : ∃ Y, Y = (nestD pn d).map partC := ⟨_, rfl⟩
  have hcl := closed_part hY
  have hY2 : Y = X.take d.length ++ [[.flat (.int .i64 5), .flat (.int .i64 pn), .flat (.string ⟨#[]⟩)]] := by rw [hY, hX, ← List.map_take, List.take_length]; unfold nestD partK; rw [List.map_append]; rfl
  have hnX : d.length ≤ X.length := by rw [hX, List.length_map]; exact Nat.le_refl _
  rw [← hX] at hcC
  rw [← hX, ← hY]
  generalize d.length = m at hs hn hY2 hcC hnX
  have hnle : n ≤ 100000000 := by omega
  refine acalls_symF tabF_ok fn18 rfl rfl rfl (by kernel_rfl) ?_
  rintro ⟨lt, le, eq, se, ar, dv, una, conv, len, sln, nat, nth, ixs, cel, sto, app, cpy, slc, mak, ixv, oth, dk, ib, call⟩ hS hm Q hQ
  obtain ⟨hlt, hle, heq, hse, har, hdv, huna, hconv, hlen, hsln, hnat, hnth, hixs, hcel, hsto, happ, hcpy, hslc, hmak, hixv, hoth, hdk, hib, hcall⟩ := Sym.mk.inj hS
  clear hS
  have hbox : ∀ e c off, cel (some ⟨e, [c]⟩) 0 off = if off ≤ c.length then some (c.drop off) else none := fun e c off => by rw [hcel]; rfl
  have hsbox : ∀ e c off sz y, sto (some ⟨e, [c]⟩) 0 off sz y = if y.cells.length = sz ∧ off + sz ≤ c.length ∧ y.cells.all AV.one = true then some ⟨e, [spl c off y.cells]⟩ else none := fun e c off sz y => by rw [hsto]; rfl
  have hcaw : ∀ {f args T base K}, CallK Try.prog f args T base K → call f args T base K := fun h => by rw [hcall]; exact h
  have hcal : ∀ {f args T base} {K : AV → Table → List Nat → List Nat → Prop}, (∃ args' ids val rows, Hands T ids args args' (val base) (rows base) ∧ ACalls Try.prog f args' val rows ∧ (rows base).length ≤ 8 ∧ K (val base) (adopt T base (rows base)) ids ((List.range (rows base).length).map (base + ·))) → call f args T base K := fun h => hcaw (call_own h)
  have ha : ∀ (T : Table) id k0 k, T k0 = some ⟨27, X⟩ → T k = some ⟨27, [[.flat (.int .i64 5), .flat (.int .i64 pn), .flat (.string ⟨#[]⟩)]]⟩ → k ≠ k0 → app T id 23 23 (.sl k0 0 m) (.sl k 0 1) = some (.sl id 0 n, (T.set k0 none).set id (some ⟨27, Y⟩)) := fun T id k0 k h1 h2 h3 => by
    rw [happ]
    exact app_tip u23 z27 c27 (by decide) rfl (by decide) h1 h2 h3 rfl hnX hn hY2 hnle
  cbv
  refine hcal ⟨_, [], _, _, .inl ⟨rfl, by cbv⟩, hcC, by simp, ?_⟩
  cbv
  rw [ha _ _ _ _ (by rfl) (by rfl) (by decide)]; cbv
  exact hQ _ _ trivial (leaves_own (k := 48) (by cbv) (by rfl) hcl)
theorem group_calls (d : DocT) (hs : d.length ≤ 100000) {n : Nat} (hn : n = d.length + 1) : ACalls Try.prog 19 [.ro (d.map partC)] (fun k => .sl k 0 n) (fun _ => [⟨27, (groupD d).map partC⟩]) := by
  obtain ⟨X, hX⟩ : ∃ X, X = d.map partC := ⟨_, rfl⟩
  have hcC := clone_calls d (by omega) rfl
  obtain ⟨Y, hY⟩ : ∃ Y, Y = (groupD d).map partC := ⟨_, rfl⟩
  have hcl := closed_part hY
  have hY2 : Y = X.take d.length ++ [[.flat (.int .i64 6), .flat (.int .i64 0), .flat (.string ⟨#[]⟩)]] := by rw [hY, hX, ← List.map_take, List.take_length]; unfold groupD partK; rw [List.map_append]; rfl
  have hnX : d.length ≤ X.length := by rw [hX, List.length_map]; exact Nat.le_refl _
  rw [← hX] at hcC
  rw [← hX, ← hY]
  generalize d.length = m at hs hn hY2 hcC hnX
  have hnle : n ≤ 100000000 := by omega
  refine acalls_symF tabF_ok fn19 rfl rfl rfl (by kernel_rfl) ?_
  rintro ⟨lt, le, eq, se, ar, dv, una, conv, len, sln, nat, nth, ixs, cel, sto, app, cpy, slc, mak, ixv, oth, dk, ib, call⟩ hS hm Q hQ
  obtain ⟨hlt, hle, heq, hse, har, hdv, huna, hconv, hlen, hsln, hnat, hnth, hixs, hcel, hsto, happ, hcpy, hslc, hmak, hixv, hoth, hdk, hib, hcall⟩ := Sym.mk.inj hS
  clear hS
  have hbox : ∀ e c off, cel (some ⟨e, [c]⟩) 0 off = if off ≤ c.length then some (c.drop off) else none := fun e c off => by rw [hcel]; rfl
  have hsbox : ∀ e c off sz y, sto (some ⟨e, [c]⟩) 0 off sz y = if y.cells.length = sz ∧ off + sz ≤ c.length ∧ y.cells.all AV.one = true then some ⟨e, [spl c off y.cells]⟩ else none := fun e c off sz y => by rw [hsto]; rfl
  have hcaw : ∀ {f args T base K}, CallK Try.prog f args T base K → call f args T base K := fun h => by rw [hcall]; exact h
  have hcal : ∀ {f args T base} {K : AV → Table → List Nat → List Nat → Prop}, (∃ args' ids val rows, Hands T ids args args' (val base) (rows base) ∧ ACalls Try.prog f args' val rows ∧ (rows base).length ≤ 8 ∧ K (val base) (adopt T base (rows base)) ids ((List.range (rows base).length).map (base + ·))) → call f args T base K := fun h => hcaw (call_own h)
  have ha : ∀ (T : Table) id k0 k, T k0 = some ⟨27, X⟩ → T k = some ⟨27, [[.flat (.int .i64 6), .flat (.int .i64 0), .flat (.string ⟨#[]⟩)]]⟩ → k ≠ k0 → app T id 23 23 (.sl k0 0 m) (.sl k 0 1) = some (.sl id 0 n, (T.set k0 none).set id (some ⟨27, Y⟩)) := fun T id k0 k h1 h2 h3 => by
    rw [happ]
    exact app_tip u23 z27 c27 (by decide) rfl (by decide) h1 h2 h3 rfl hnX hn hY2 hnle
  cbv
  refine hcal ⟨_, [], _, _, .inl ⟨rfl, by cbv⟩, hcC, by simp, ?_⟩
  cbv
  rw [ha _ _ _ _ (by rfl) (by rfl) (by decide)]; cbv
  exact hQ _ _ trivial (leaves_own (k := 40) (by cbv) (by rfl) hcl)
/-! ### Cat -/
def catStep (o x : DocT) : DocT := (o ++ x) ++ [partK 4 0]
def catD : List DocT → DocT
  | [] => ofD 7
  | d :: l => l.foldl catStep d
theorem cat_mono (l : List DocT) : ∀ d : DocT, d.length ≤ (l.foldl catStep d).length := by
  induction l with
  | nil => intro d; exact Nat.le_refl _
  | cons x l ih =>
    intro d
    refine Nat.le_trans ?_ (ih (catStep d x))
    unfold catStep
    rw [List.length_append, List.length_append]; omega
def CtAt (d : DocT) (l : List DocT) (i : Int) (o : DocT) : Prop := At l i ∧ l.foldl catStep d = (l.drop i.toNat).foldl catStep o
theorem ctAt_end {d o : DocT} {l : List DocT} {i : Int} (h : CtAt d l i o) (hc : decide (i < (l.length : Int)) = false) : l.foldl catStep d = o := by
  rw [h.2, drop_end h.1 hc]; rfl
theorem ctAt_step {d o : DocT} {l : List DocT} {i : Int} {N : Nat} (hN : (l.foldl catStep d).length ≤ N) (h : CtAt d l i o) (hc : decide (i < (l.length : Int)) = true) : CtAt d l (i + 1) ((o ++ atI l i) ++ [partK 4 0]) ∧ o.length + (atI l i).length + 1 ≤ N := by
  obtain ⟨_, h0, h1⟩ := at_lt h.1 hc
  have h2 := h.2
  rw [drop_next h0 h1, List.foldl_cons] at h2
  refine ⟨⟨(at_step h.1 hc).1, h2⟩, ?_⟩
  have := cat_mono (l.drop (i + 1).toNat) (catStep o (atI l i))
  rw [← h2] at this
  have e : (catStep o (atI l i)).length = o.length + (atI l i).length + 1 := by unfold catStep; simp only [List.length_append, List.length_cons, List.length_nil]
  omega
theorem u64 : Try.prog.underlying 64 = some (.slice 23) := by kernel_rfl
theorem z23 : tinfo Try.prog 23 = some (some (.slice none 0 0), 1, 24) := by kernel_rfl
theorem cat_nil : ACalls Try.prog 17 [.ro []] (fun k => .sl k 0 1) (fun _ => [⟨27, (catD []).map partC⟩]) := by
  have hc := of_calls 7
  obtain ⟨Y, hY⟩ : ∃ Y, Y = (ofD 7).map partC := ⟨_, rfl⟩
  have hcl := closed_part hY
  unfold catD
  rw [← hY] at hc ⊢
  refine acalls_symF tabF_ok fn17 rfl rfl rfl (by kernel_rfl) ?_
  rintro ⟨lt, le, eq, se, ar, dv, una, conv, len, sln, nat, nth, ixs, cel, sto, app, cpy, slc, mak, ixv, oth, dk, ib, call⟩ hS hm Q hQ
  obtain ⟨hlt, hle, heq, hse, har, hdv, huna, hconv, hlen, hsln, hnat, hnth, hixs, hcel, hsto, happ, hcpy, hslc, hmak, hixv, hoth, hdk, hib, hcall⟩ := Sym.mk.inj hS
  clear hS
  have hbox : ∀ e c off, cel (some ⟨e, [c]⟩) 0 off = if off ≤ c.length then some (c.drop off) else none := fun e c off => by rw [hcel]; rfl
  have hsbox : ∀ e c off sz y, sto (some ⟨e, [c]⟩) 0 off sz y = if y.cells.length = sz ∧ off + sz ≤ c.length ∧ y.cells.all AV.one = true then some ⟨e, [spl c off y.cells]⟩ else none := fun e c off sz y => by rw [hsto]; rfl
  have hcaw : ∀ {f args T base K}, CallK Try.prog f args T base K → call f args T base K := fun h => by rw [hcall]; exact h
  have hcal : ∀ {f args T base} {K : AV → Table → List Nat → List Nat → Prop}, (∃ args' ids val rows, Hands T ids args args' (val base) (rows base) ∧ ACalls Try.prog f args' val rows ∧ (rows base).length ≤ 8 ∧ K (val base) (adopt T base (rows base)) ids ((List.range (rows base).length).map (base + ·))) → call f args T base K := fun h => hcaw (call_own h)
  have e1 : eq (len []) 0 = true := by rw [heq, hlen]; rfl
  cbv
  rw [e1]; cbv
  refine hcal ⟨_, [], _, _, .inl ⟨rfl, by cbv⟩, hc, by simp, ?_⟩
  cbv
  exact hQ _ _ trivial (leaves_own (k := 32) (by cbv) (by rfl) hcl)
theorem cat_calls (d : DocT) (l : List DocT) (hl : l.length ≤ 1000000) (hs : (catD (d :: l)).length ≤ 100000) {n : Nat} (hn : n = (catD (d :: l)).length) : ACalls Try.prog 17 [.ro ((d :: l).map docC)] (fun k => .sl k 0 n) (fun _ => [⟨27, (catD (d :: l)).map partC⟩]) := by
  have hd : d.length ≤ 100000 := Nat.le_trans (cat_mono l d) hs
  obtain ⟨nd, hnd⟩ : ∃ nd, nd = d.length := ⟨_, rfl⟩
  have hcC := clone_calls d (by omega) hnd
  obtain ⟨Z, hZ⟩ : ∃ Z, Z = (d :: l).map docC := ⟨_, rfl⟩
  obtain ⟨X, hX⟩ : ∃ X, X = l.map docC := ⟨_, rfl⟩
  obtain ⟨D, hD⟩ : ∃ X, X = d.map partC := ⟨_, rfl⟩
  have hZX : Z = [.ro D] :: X := by rw [hZ, hX, hD]; rfl
  have hz1 : ∀ c ∈ Z, c.length = 1 := by rw [hZ]; intro c hc; obtain ⟨p, _, rfl⟩ := List.mem_map.1 hc; rfl
  have hcl := closed_part (l := catD (d :: l)) rfl
  rw [← hZ]
  rw [← hD] at hcC
  have hcatl : catD (d :: l) = l.foldl catStep d := rfl
  rw [hcatl] at hs hn hcl ⊢
  refine acalls_symF tabF_ok fn17 rfl rfl rfl (by kernel_rfl) ?_
  rintro ⟨lt, le, eq, se, ar, dv, una, conv, len, sln, nat, nth, ixs, cel, sto, app, cpy, slc, mak, ixv, oth, dk, ib, call⟩ hS hm Q hQ
  obtain ⟨hlt, hle, heq, hse, har, hdv, huna, hconv, hlen, hsln, hnat, hnth, hixs, hcel, hsto, happ, hcpy, hslc, hmak, hixv, hoth, hdk, hib, hcall⟩ := Sym.mk.inj hS
  clear hS
  have hbox : ∀ e c off, cel (some ⟨e, [c]⟩) 0 off = if off ≤ c.length then some (c.drop off) else none := fun e c off => by rw [hcel]; rfl
  have hsbox : ∀ e c off sz y, sto (some ⟨e, [c]⟩) 0 off sz y = if y.cells.length = sz ∧ off + sz ≤ c.length ∧ y.cells.all AV.one = true then some ⟨e, [spl c off y.cells]⟩ else none := fun e c off sz y => by rw [hsto]; rfl
  have hcaw : ∀ {f args T base K}, CallK Try.prog f args T base K → call f args T base K := fun h => by rw [hcall]; exact h
  have hcal : ∀ {f args T base} {K : AV → Table → List Nat → List Nat → Prop}, (∃ args' ids val rows, Hands T ids args args' (val base) (rows base) ∧ ACalls Try.prog f args' val rows ∧ (rows base).length ≤ 8 ∧ K (val base) (adopt T base (rows base)) ids ((List.range (rows base).length).map (base + ·))) → call f args T base K := fun h => hcaw (call_own h)
  have hnZ : len Z = l.length + 1 := by rw [hlen, hZ, len_map]; simp
  have hnX : len X = l.length := by rw [hlen, hX, len_map]
  have e1 : eq (len Z) 0 = false := by rw [heq, hnZ]; exact decide_eq_false (by omega)
  have hix : nth Z 0 1 = some (.rp [.ro D]) := by rw [hnth, hZX]; rfl
  have hsl : ∀ T, slc T 64 (.ro Z) (some (.flat (.int .i64 1))) none = some (.ro X) := fun T => by
    rw [hslc, slc_ro u64 z23 hz1 (bnd_lo (by omega) (by rw [hZ, List.length_map]; simp only [List.length_cons]; omega)), List.take_length, hZX]; rfl
  clear hnZ
  cbv
  rw [e1]; cbv
  repeat (first | (rw [hbox]; cbv) | (rw [hsbox]; cbv) | (rw [hix]; cbv))
  refine hcal ⟨_, [], _, _, .inl ⟨rfl, by cbv⟩, hcC, by simp, ?_⟩
  cbv
  rw [hsl]; cbv
  refine MW_loop hm [56] [3, 15, 16, 17] 18 (by simp) (fun mz st => ∃ (i : Int) (o : DocT) (m : Nat) (Y : List (List AV)), CtAt d l i o ∧ Y = o.map partC ∧ m = o.length ∧ mz = U.left l.length i ∧ st = stOf [.dead, .dead, .dead, .sl 0 0 m, .dead, .dead, .dead, .dead, .dead, .dead, .dead, .dead, .dead, .dead, .dead, .ro X, .flat (.int .i64 (len X)), .flat (.int .i64 i)] [some ⟨27, Y⟩] 1) (U.left l.length 0) ?_ ?_
  · exact ⟨0, d, nd, D, ⟨at_zero l, rfl⟩, hD, hnd, rfl, cut_eq (by cbv) (cutRows_cons (by rfl) (closed_part hD) rfl)⟩
  rintro mz st ⟨i, o, m, Y, hi, hY, hmo, hmz, rfl⟩
  cases hc : lt i (len X)
  · have hc' : decide (i < (l.length : Int)) = false := by rw [hlt, hnX] at hc; exact hc
    have hend := ctAt_end hi hc'
    cbv
    rw [hc]; cbv
    have e2 : m = n := by rw [hmo, hn, hend]
    subst e2
    exact hQ _ _ trivial (leaves_own (k := 0) (by cbv) (by rw [hend, ← hY]; rfl) hcl)
  have hc' : decide (i < (l.length : Int)) = true := by rw [hlt, hnX] at hc; exact hc
  obtain ⟨hix2, hadd, q1, q2, hmem, hdr, htk⟩ := at_round (sz := 1) hX (fun _ => rfl) hl hi.1 hc'
  rw [← hnth] at hix2
  rw [← har] at hadd
  obtain ⟨hnext, hbd⟩ := ctAt_step hs hi hc'
  generalize i + 1 = i2 at hadd q1 q2 hnext
  generalize atI l i = x at hix2 hnext hbd
  unfold docC at hix2
  obtain ⟨R, hR⟩ : ∃ R, R = x.map partC := ⟨_, rfl⟩
  rw [← hR] at hix2
  obtain ⟨Y1, hY1⟩ : ∃ Y1, Y1 = (o ++ x).map partC := ⟨_, rfl⟩
  obtain ⟨Y2, hY2⟩ : ∃ Y2, Y2 = ((o ++ x) ++ [partK 4 0]).map partC := ⟨_, rfl⟩
  obtain ⟨m1, hm1⟩ : ∃ m1, m1 = m + x.length := ⟨_, rfl⟩
  obtain ⟨m2, hm2⟩ : ∃ m2, m2 = m1 + 1 := ⟨_, rfl⟩
  have hYl : m ≤ Y.length := by rw [hY, List.length_map, hmo]; exact Nat.le_refl _
  have hY1l : m1 ≤ Y1.length := by rw [hY1, List.length_map, List.length_append, hm1, hmo]; exact Nat.le_refl _
  have hm2l : m2 = (o ++ x ++ [partK 4 0]).length := by rw [hm2, hm1, hmo]; simp only [List.length_append, List.length_cons, List.length_nil]
  have hb1 : m1 ≤ 100000000 := by omega
  have hb2 : m2 ≤ 100000000 := by omega
  have ha1 : ∀ (T : Table) id k0, T k0 = some ⟨27, Y⟩ → app T id 23 23 (.sl k0 0 m) (.ro R) = some (.sl id 0 m1, (T.set k0 none).set id (some ⟨27, Y1⟩)) := fun T id k0 hT => by
    rw [happ]
    exact app_ro u23 u23 z27 (by decide) rfl (by decide) hT (len3 hR) hYl (by rw [hR, List.length_map]; exact hm1) (by rw [hY1, hY, hR, List.map_append, hmo, ← List.map_take, List.take_length]) hb1
  have ha2 : ∀ (T : Table) id k0 k, T k0 = some ⟨27, Y1⟩ → T k = some ⟨27, [[.flat (.int .i64 4), .flat (.int .i64 0), .flat (.string ⟨#[]⟩)]]⟩ → k ≠ k0 → app T id 23 23 (.sl k0 0 m1) (.sl k 0 1) = some (.sl id 0 m2, (T.set k0 none).set id (some ⟨27, Y2⟩)) := fun T id k0 k h1 h2 h3 => by
    rw [happ]
    exact app_tip u23 z27 c27 (by decide) rfl (by decide) h1 h2 h3 rfl hY1l hm2 (by rw [hY2, hY1, List.map_append, hm1, hmo, ← List.map_take, ← List.length_append, List.take_length]; rfl) hb2
  cbv
  rw [hc]; cbv
  repeat (first | (rw [hbox]; cbv) | (rw [hsbox]; cbv) | (rw [hix2]; cbv))
  rw [ha1 _ _ _ (by rfl)]; cbv
  rw [ha2 _ _ _ _ (by rfl) (by rfl) (by decide)]; cbv
  rw [hadd]
  exact ⟨[73], [3, 15, 16, 17], 18, U.left l.length i2, hmz ▸ q2, by simp, i2, _, m2, Y2, hnext, hY2, hm2l, rfl, cut_eq (by cbv) (cutRows_cons (by rfl) (closed_part hY2) rfl)⟩
/-! ### The example -/
theorem awake_calls : ACalls Try.prog 15 [] (fun _ => .flat (.bool true)) (fun _ => []) := by
  have hcA := text_calls ⟨#[97]⟩
  have hcB := text_calls ⟨#[98]⟩
  have hcC := cat_calls (textD ⟨#[97]⟩) [textD ⟨#[98]⟩] (by decide) (by decide) rfl
  obtain ⟨Y, hY⟩ : ∃ Y, Y = (catD (textD ⟨#[97]⟩ :: [textD ⟨#[98]⟩])).map partC := ⟨_, rfl⟩
  have hYf := flat_of hY
  rw [← hY, show (catD (textD ⟨#[97]⟩ :: [textD ⟨#[98]⟩])).length = 3 from rfl] at hcC
  refine acalls_symF tabF_ok fn15 rfl rfl rfl (by kernel_rfl) ?_
  have hfin : ∀ st, resA Try.prog Try.f15 st = some (.flat (.bool true)) → G.Leaves Try.prog Try.f15 (fun _ => .flat (.bool true)) (fun _ => []) st := fun st h => G.Leaves.plain h rfl
  rintro ⟨lt, le, eq, se, ar, dv, una, conv, len, sln, nat, nth, ixs, cel, sto, app, cpy, slc, mak, ixv, oth, dk, ib, call⟩ hS hm Q hQ
  obtain ⟨hlt, hle, heq, hse, har, hdv, huna, hconv, hlen, hsln, hnat, hnth, hixs, hcel, hsto, happ, hcpy, hslc, hmak, hixv, hoth, hdk, hib, hcall⟩ := Sym.mk.inj hS
  clear hS
  have hbox : ∀ e c off, cel (some ⟨e, [c]⟩) 0 off = if off ≤ c.length then some (c.drop off) else none := fun e c off => by rw [hcel]; rfl
  have hsbox : ∀ e c off sz y, sto (some ⟨e, [c]⟩) 0 off sz y = if y.cells.length = sz ∧ off + sz ≤ c.length ∧ y.cells.all AV.one = true then some ⟨e, [spl c off y.cells]⟩ else none := fun e c off sz y => by rw [hsto]; rfl
  have hcaw : ∀ {f args T base K}, CallK Try.prog f args T base K → call f args T base K := fun h => by rw [hcall]; exact h
  have hcal : ∀ {f args T base} {K : AV → Table → List Nat → List Nat → Prop}, (∃ args' ids val rows, Hands T ids args args' (val base) (rows base) ∧ ACalls Try.prog f args' val rows ∧ (rows base).length ≤ 8 ∧ K (val base) (adopt T base (rows base)) ids ((List.range (rows base).length).map (base + ·))) → call f args T base K := fun h => hcaw (call_own h)
  have q1 : eq (nat 3) 3 = true := by rw [heq, hnat]; rfl
  have q2 : eq 4 4 = true := by rw [heq]; rfl
  have q3 : se ⟨#[97]⟩ ⟨#[97]⟩ = true := by rw [hse]; exact beq_self_eq_true _
  have i1 : ∀ id, ixs (some ⟨27, Y⟩) id 0 3 0 3 = some (.ptr id 0 0) := fun id => by rw [hixs]; exact own_ix c27 (by decide) (by decide) id
  have i2 : ∀ id, ixs (some ⟨27, Y⟩) id 0 3 2 3 = some (.ptr id 2 0) := fun id => by rw [hixs]; exact own_ix c27 (by decide) (by decide) id
  have i3 : cel (some ⟨27, Y⟩) 0 2 = some [.flat (.string ⟨#[97]⟩)] := by rw [hcel, hY]; rfl
  have i4 : cel (some ⟨27, Y⟩) 2 0 = some (partC (partK 4 0)) := by rw [hcel, hY]; rfl
  cbv
  refine hcal ⟨_, [], _, _, .inl ⟨rfl, by cbv⟩, hcA, by simp, ?_⟩
  cbv
  refine hcal ⟨_, [], _, _, .inl ⟨rfl, by cbv⟩, hcB, by simp, ?_⟩
  cbv
  refine hcal ⟨[.ro [docC (textD ⟨#[97]⟩), docC (textD ⟨#[98]⟩)]], [24, 8, 16], _, _, hands_deep ⟨deep_els (X := [[.sl 8 0 1], [.sl 16 0 1]]) (by simp) (by rfl) rfl ⟨⟨deep_row (by simp) (by rfl) rfl (flat_part _).read, trivial⟩, ⟨deep_row (by simp) (by rfl) rfl (flat_part _).read, trivial⟩, trivial⟩, trivial⟩ rfl (noRo_flat hYf), hcC, by simp, ?_⟩
  cbv
  repeat (first | (rw [hbox]; cbv) | (rw [hsbox]; cbv) | (rw [q1]; cbv) | (rw [q2]; cbv) | (rw [q3]; cbv) | (rw [i1]; cbv) | (rw [i2]; cbv) | (rw [i3]; cbv) | (rw [i4]; cbv))
  exact hQ _ _ trivial (hfin _ (by cbv))
end Go.Proofs.Ytagflbmonlaioaa.D
