/- Contracts: rows of strings alike, Index, Contains, Clone of tests; bosketref40.All; groups. -/
import Derived.Test.YtagflbmonlaioaaE4
namespace Go.Proofs.Ytagflbmonlaioaa.D
open Go G U K
set_option linter.unusedVariables false
set_option linter.unusedSimpArgs false
set_option maxRecDepth 100000
set_option maxHeartbeats 4000000
theorem fn44 : Try.prog.funcs[44]? = some Try.f44 := by kernel_rfl
theorem fn66 : Try.prog.funcs[66]? = some Try.f66 := by kernel_rfl
theorem fn60 : Try.prog.funcs[60]? = some Try.f60 := by kernel_rfl
theorem fn61 : Try.prog.funcs[61]? = some Try.f61 := by kernel_rfl
theorem fn43 : Try.prog.funcs[43]? = some Try.f43 := by kernel_rfl
theorem fn41 : Try.prog.funcs[41]? = some Try.f41 := by kernel_rfl
theorem c9 : Try.prog.cellsOf 9 = 1 := by kernel_rfl
theorem u47 : Try.prog.underlying 47 = some (.slice 9) := by kernel_rfl
theorem z9 : tinfo Try.prog 9 = some (some (.string ⟨#[]⟩), 1, 16) := by kernel_rfl
theorem u52 : Try.prog.underlying 52 = some (.slice 4) := by kernel_rfl
theorem z4 : tinfo Try.prog 4 = some (some (.bool false), 1, 1) := by kernel_rfl
theorem closed_str {Y : List (List AV)} {l : List ByteArray} (hY : Y = l.map strC) : ∀ c ∈ Y, closedAll [] c = true := by
  rw [hY]; exact closed_map fun _ => rfl
theorem closed_bool {Y : List (List AV)} {l : List Bool} (hY : Y = l.map boolC) : ∀ c ∈ Y, closedAll [] c = true := by
  rw [hY]; exact closed_map fun _ => rfl
theorem flat_str {Y : List (List AV)} {l : List ByteArray} (hY : Y = l.map strC) : flatRow Y := by
  rw [hY]
  exact flat_map (fun a x hx => by simp only [strC, List.mem_cons, List.not_mem_nil, or_false] at hx; subst hx; exact ⟨rfl, rfl⟩) l
theorem flat_bool {Y : List (List AV)} {l : List Bool} (hY : Y = l.map boolC) : flatRow Y := by
  rw [hY]
  exact flat_map (fun a x hx => by simp only [boolC, List.mem_cons, List.not_mem_nil, or_false] at hx; subst hx; exact ⟨rfl, rfl⟩) l
theorem len1b {Y : List (List AV)} {l : List Bool} (hY : Y = l.map boolC) : ∀ c ∈ Y, c.length = 1 := by
  rw [hY]; intro c hc; obtain ⟨p, _, rfl⟩ := List.mem_map.1 hc; rfl
theorem se_eq (s t : ByteArray) : (s.toList == t.toList) = (s == t) := ba_toList s t
theorem sameS_calls (a : List ByteArray) (hs : a.length ≤ 1000000) : ACalls Try.prog 44 [.ro (a.map strC), .ro (a.map strC)] (fun _ => .flat (.bool true)) (fun _ => []) := by
  obtain ⟨X, hX⟩ : ∃ X, X = a.map strC := ⟨_, rfl⟩
  rw [← hX]
  refine acalls_symF tabF_ok fn44 rfl rfl rfl (by kernel_rfl) ?_
  have hfin : ∀ st, resA Try.prog Try.f44 st = some (.flat (.bool true)) → G.Leaves Try.prog Try.f44 (fun _ => .flat (.bool true)) (fun _ => []) st := fun st h => G.Leaves.plain h rfl
  rintro ⟨lt, le, eq, se, ar, dv, una, conv, len, sln, nat, nth, ixs, cel, sto, app, cpy, slc, mak, ixv, oth, dk, ib, call⟩ hS hm Q hQ
  obtain ⟨hlt, hle, heq, hse, har, hdv, huna, hconv, hlen, hsln, hnat, hnth, hixs, hcel, hsto, happ, hcpy, hslc, hmak, hixv, hoth, hdk, hib, hcall⟩ := Sym.mk.inj hS
  clear hS
  have hnt : ∀ n : Nat, nat n = U.natI n := fun n => by rw [hnat]; rfl
  have hbox : ∀ e c off, cel (some ⟨e, [c]⟩) 0 off = if off ≤ c.length then some (c.drop off) else none := fun e c off => by rw [hcel]; rfl
  have hsbox : ∀ e c off sz y, sto (some ⟨e, [c]⟩) 0 off sz y = if y.cells.length = sz ∧ off + sz ≤ c.length ∧ y.cells.all AV.one = true then some ⟨e, [spl c off y.cells]⟩ else none := fun e c off sz y => by rw [hsto]; rfl
  have hcaw : ∀ {f args T base K}, CallK Try.prog f args T base K → call f args T base K := fun h => by rw [hcall]; exact h
  have hcal : ∀ {f args T base} {K : AV → Table → List Nat → List Nat → Prop}, (∃ args' ids val rows, Hands T ids args args' (val base) (rows base) ∧ ACalls Try.prog f args' val rows ∧ (rows base).length ≤ 8 ∧ K (val base) (adopt T base (rows base)) ids ((List.range (rows base).length).map (base + ·))) → call f args T base K := fun h => hcaw (call_own h)
  have hnX : len X = a.length := by rw [hlen, hX, len_map]
  have heqr : ∀ v, eq v v = true := fun v => by rw [heq]; exact decide_eq_true rfl
  have hser : ∀ v, se v v = true := fun v => by rw [hse]; exact beq_self_eq_true _
  cbv
  rw [heqr]; cbv
  refine MW_loop hm [] [0, 1, 5] 6 (by simp) (fun mz st => ∃ (i : Int), At a i ∧ mz = U.left a.length i ∧ st = stOf [.ro X, .ro X, .dead, .dead, .dead, .flat (.int .i64 i)] [] 0) (U.left a.length 0) ?_ ?_
  · exact ⟨0, at_zero a, rfl, cut_eq (by cbv) (by rfl)⟩
  rintro mz st ⟨i, hi, hmz, rfl⟩
  cases hc : lt i (len X)
  · cbv
    rw [hc]; cbv
    exact hQ _ _ trivial (hfin _ (by cbv))
  have hc' : decide (i < (a.length : Int)) = true := by rw [hlt, hnX] at hc; exact hc
  obtain ⟨hix, hadd, q1, q2, _, _, _⟩ := at_round (sz := 1) hX (fun _ => rfl) hs hi hc'
  rw [← hnth] at hix
  rw [← har] at hadd
  unfold strC at hix
  generalize atI a i = s at hix
  generalize i + 1 = i2 at hadd q1 q2
  cbv
  rw [hc]; cbv
  refine ⟨by rw [hdk]; kernel_rfl, ?_⟩
  repeat (first | (rw [hbox]; cbv) | (rw [hsbox]; cbv) | (rw [hix]; cbv) | (rw [hser]; cbv))
  refine ⟨by rw [hib]; kernel_rfl, ?_⟩
  cbv
  rw [hadd]
  exact ⟨[], [0, 1, 5], 6, U.left a.length i2, hmz ▸ q2, by simp, i2, q1, rfl, cut_eq (by cbv) (by rfl)⟩
def idxF (s : ByteArray) : List ByteArray → Int → Int
  | [], _ => -1
  | a :: l, k => if (s == a) = true then k else idxF s l (k + 1)
theorem idxF_iff (s : ByteArray) : ∀ (l : List ByteArray) (k : Int), 0 ≤ k → (0 ≤ idxF s l k ↔ l.contains s = true)
  | [], k, hk => by simp [idxF]
  | a :: l, k, hk => by
    have ih := idxF_iff s l (k + 1) (by omega)
    rw [List.contains_cons]
    show (0 ≤ (if (s == a) = true then k else idxF s l (k + 1))) ↔ _
    by_cases h : (s == a) = true
    · rw [if_pos h]; simp [h, hk]
    · rw [if_neg h, ih]; simp [h]
theorem idxF_pos (s : ByteArray) (l : List ByteArray) (k : Int) (hk : 0 ≤ k) : decide (0 ≤ idxF s l k) = l.contains s := by
  rw [Bool.eq_iff_iff]
  exact ⟨fun h => (idxF_iff s l k hk).1 (of_decide_eq_true h), fun h => decide_eq_true ((idxF_iff s l k hk).2 h)⟩
theorem index_calls (l : List ByteArray) (s : ByteArray) (hs : l.length ≤ 1000000) : ACalls Try.prog 66 [.ro (l.map strC), .flat (.string s)] (fun _ => .flat (.int .i64 (idxF s l 0))) (fun _ => []) := by
  obtain ⟨r, hr⟩ : ∃ r, r = idxF s l 0 := ⟨_, rfl⟩
  rw [← hr]
  obtain ⟨X, hX⟩ : ∃ X, X = l.map strC := ⟨_, rfl⟩
  rw [← hX]
  refine acalls_symF tabF_ok fn66 rfl rfl rfl (by kernel_rfl) ?_
  have hfin : ∀ st, resA Try.prog Try.f66 st = some (.flat (.int .i64 r)) → G.Leaves Try.prog Try.f66 (fun _ => .flat (.int .i64 r)) (fun _ => []) st := fun st h => G.Leaves.plain h rfl
  rintro ⟨lt, le, eq, se, ar, dv, una, conv, len, sln, nat, nth, ixs, cel, sto, app, cpy, slc, mak, ixv, oth, dk, ib, call⟩ hS hm Q hQ
  obtain ⟨hlt, hle, heq, hse, har, hdv, huna, hconv, hlen, hsln, hnat, hnth, hixs, hcel, hsto, happ, hcpy, hslc, hmak, hixv, hoth, hdk, hib, hcall⟩ := Sym.mk.inj hS
  clear hS
  have hnt : ∀ n : Nat, nat n = U.natI n := fun n => by rw [hnat]; rfl
  have hbox : ∀ e c off, cel (some ⟨e, [c]⟩) 0 off = if off ≤ c.length then some (c.drop off) else none := fun e c off => by rw [hcel]; rfl
  have hsbox : ∀ e c off sz y, sto (some ⟨e, [c]⟩) 0 off sz y = if y.cells.length = sz ∧ off + sz ≤ c.length ∧ y.cells.all AV.one = true then some ⟨e, [spl c off y.cells]⟩ else none := fun e c off sz y => by rw [hsto]; rfl
  have hcaw : ∀ {f args T base K}, CallK Try.prog f args T base K → call f args T base K := fun h => by rw [hcall]; exact h
  have hcal : ∀ {f args T base} {K : AV → Table → List Nat → List Nat → Prop}, (∃ args' ids val rows, Hands T ids args args' (val base) (rows base) ∧ ACalls Try.prog f args' val rows ∧ (rows base).length ≤ 8 ∧ K (val base) (adopt T base (rows base)) ids ((List.range (rows base).length).map (base + ·))) → call f args T base K := fun h => hcaw (call_own h)
  have hnX : len X = l.length := by rw [hlen, hX, len_map]
  cbv
  refine MW_loop hm [] [0, 1, 7, 8] 9 (by simp) (fun mz st => ∃ (i : Int), (At l i ∧ r = idxF s (l.drop i.toNat) i) ∧ mz = U.left l.length i ∧ st = stOf [.ro X, .flat (.string s), .dead, .dead, .dead, .dead, .dead, .flat (.int .i64 (len X)), .flat (.int .i64 i)] [] 0) (U.left l.length 0) ?_ ?_
  · exact ⟨0, ⟨at_zero l, hr⟩, rfl, cut_eq (by cbv) (by rfl)⟩
  rintro mz st ⟨i, hi, hmz, rfl⟩
  cases hc : lt i (len X)
  · have hc' : decide (i < (l.length : Int)) = false := by rw [hlt, hnX] at hc; exact hc
    have : r = -1 := by rw [hi.2, drop_end hi.1 hc']; rfl
    subst this
    cbv
    rw [hc]; cbv
    exact hQ _ _ trivial (hfin _ (by cbv))
  have hc' : decide (i < (l.length : Int)) = true := by rw [hlt, hnX] at hc; exact hc
  obtain ⟨hix, hadd, q1, q2, _, hdr, _⟩ := at_round (sz := 1) hX (fun _ => rfl) hs hi.1 hc'
  rw [← hnth] at hix
  rw [← har] at hadd
  have hi2 := hi.2
  rw [hdr] at hi2
  simp only [idxF] at hi2
  have e1 : se s (atI l i) = (s == atI l i) := by rw [hse]; exact ba_toList _ _
  unfold strC at hix
  generalize (s == atI l i) = b at e1 hi2
  generalize atI l i = a at hix e1
  have hnext : b = false → At l (i + 1) ∧ r = idxF s (l.drop (i + 1).toNat) (i + 1) := fun h => ⟨q1, by rw [hi2, h]; rfl⟩
  generalize i + 1 = i2 at hadd q1 q2 hnext hi2
  cbv
  rw [hc]; cbv
  repeat (first | (rw [hbox]; cbv) | (rw [hsbox]; cbv) | (rw [hix]; cbv))
  rw [e1]; cases b
  rotate_left
  · have : r = i := hi2
    subst this
    cbv
    exact hQ _ _ trivial (hfin _ (by cbv))
  cbv
  rw [hadd]
  exact ⟨[], [0, 1, 7, 8], 9, U.left l.length i2, hmz ▸ q2, by simp, i2, hnext rfl, rfl, cut_eq (by cbv) (by rfl)⟩
theorem contains_calls (l : List ByteArray) (s : ByteArray) (hs : l.length ≤ 1000000) : ACalls Try.prog 60 [.ro (l.map strC), .flat (.string s)] (fun _ => .flat (.bool (l.contains s))) (fun _ => []) := by
  have hc := index_calls l s hs
  have hp := idxF_pos s l 0 (Int.le_refl 0)
  generalize l.map strC = X at hc ⊢
  generalize idxF s l 0 = v at hc hp
  generalize l.contains s = b at hp ⊢
  refine acalls_symF tabF_ok fn60 rfl rfl rfl (by kernel_rfl) ?_
  have hfin : ∀ st, resA Try.prog Try.f60 st = some (.flat (.bool b)) → G.Leaves Try.prog Try.f60 (fun _ => .flat (.bool b)) (fun _ => []) st := fun st h => G.Leaves.plain h rfl
  rintro ⟨lt, le, eq, se, ar, dv, una, conv, len, sln, nat, nth, ixs, cel, sto, app, cpy, slc, mak, ixv, oth, dk, ib, call⟩ hS hm Q hQ
  obtain ⟨hlt, hle, heq, hse, har, hdv, huna, hconv, hlen, hsln, hnat, hnth, hixs, hcel, hsto, happ, hcpy, hslc, hmak, hixv, hoth, hdk, hib, hcall⟩ := Sym.mk.inj hS
  clear hS
  have hnt : ∀ n : Nat, nat n = U.natI n := fun n => by rw [hnat]; rfl
  have hbox : ∀ e c off, cel (some ⟨e, [c]⟩) 0 off = if off ≤ c.length then some (c.drop off) else none := fun e c off => by rw [hcel]; rfl
  have hsbox : ∀ e c off sz y, sto (some ⟨e, [c]⟩) 0 off sz y = if y.cells.length = sz ∧ off + sz ≤ c.length ∧ y.cells.all AV.one = true then some ⟨e, [spl c off y.cells]⟩ else none := fun e c off sz y => by rw [hsto]; rfl
  have hcaw : ∀ {f args T base K}, CallK Try.prog f args T base K → call f args T base K := fun h => by rw [hcall]; exact h
  have hcal : ∀ {f args T base} {K : AV → Table → List Nat → List Nat → Prop}, (∃ args' ids val rows, Hands T ids args args' (val base) (rows base) ∧ ACalls Try.prog f args' val rows ∧ (rows base).length ≤ 8 ∧ K (val base) (adopt T base (rows base)) ids ((List.range (rows base).length).map (base + ·))) → call f args T base K := fun h => hcaw (call_own h)
  have e1 : le 0 v = b := by rw [hle]; exact hp
  cbv
  refine hcal ⟨_, [], _, _, .inl ⟨rfl, by cbv⟩, hc, by simp, ?_⟩
  cbv
  rw [e1]; cbv
  exact hQ _ _ trivial (hfin _ (by cbv))
theorem dvn2 (c : Nat) : dvOf Try.prog .eql 52 (.flat (.slice none 0 c)) (.flat (.slice none 0 0)) = some (.flat (.bool true)) := by
  rw [dvOf_eq]
  intro x y
  kernel_rfl
theorem dvs2 (a : Addr) (c : Nat) : dvOf Try.prog .eql 52 (.flat (.slice (some a) 0 c)) (.flat (.slice none 0 0)) = some (.flat (.bool false)) := by
  rw [dvOf_eq]
  intro x y
  kernel_rfl
theorem dvr2 (e : List AV) (X : List (List AV)) : dvOf Try.prog .eql 52 (.ro (e :: X)) (.flat (.slice none 0 0)) = some (.flat (.bool false)) := by
  rw [dvOf_eq]
  intro x y
  kernel_rfl
theorem cloneB_calls (d : List Bool) (hs : d.length ≤ 1000000) (hne : d ≠ []) {n : Nat} (hn : n = d.length) : ACalls Try.prog 61 [.ro (d.map boolC)] (fun k => .sl k 0 n) (fun _ => [⟨4, d.map boolC⟩]) := by
  cases d with
  | nil => exact absurd rfl hne
  | cons p d =>
  obtain ⟨X, hX⟩ : ∃ X, X = (p :: d).map boolC := ⟨_, rfl⟩
  have hd := dvr2 (boolC p) (d.map boolC)
  rw [show boolC p :: d.map boolC = (p :: d).map boolC from rfl, ← hX] at hd
  rw [← hX]
  have hnX : n = X.length := by rw [hX, hn, List.length_map]
  have h3 := len1b hX
  have hcl := closed_bool hX
  have hnle : n ≤ 100000000 := by omega
  clear hn hX
  refine acalls_symF tabF_ok fn61 rfl rfl rfl (by kernel_rfl) ?_
  rintro ⟨lt, le, eq, se, ar, dv, una, conv, len, sln, nat, nth, ixs, cel, sto, app, cpy, slc, mak, ixv, oth, dk, ib, call⟩ hS hm Q hQ
  obtain ⟨hlt, hle, heq, hse, har, hdv, huna, hconv, hlen, hsln, hnat, hnth, hixs, hcel, hsto, happ, hcpy, hslc, hmak, hixv, hoth, hdk, hib, hcall⟩ := Sym.mk.inj hS
  clear hS
  have hnt : ∀ n : Nat, nat n = U.natI n := fun n => by rw [hnat]; rfl
  have hbox : ∀ e c off, cel (some ⟨e, [c]⟩) 0 off = if off ≤ c.length then some (c.drop off) else none := fun e c off => by rw [hcel]; rfl
  have hsbox : ∀ e c off sz y, sto (some ⟨e, [c]⟩) 0 off sz y = if y.cells.length = sz ∧ off + sz ≤ c.length ∧ y.cells.all AV.one = true then some ⟨e, [spl c off y.cells]⟩ else none := fun e c off sz y => by rw [hsto]; rfl
  have hcaw : ∀ {f args T base K}, CallK Try.prog f args T base K → call f args T base K := fun h => by rw [hcall]; exact h
  have hcal : ∀ {f args T base} {K : AV → Table → List Nat → List Nat → Prop}, (∃ args' ids val rows, Hands T ids args args' (val base) (rows base) ∧ ACalls Try.prog f args' val rows ∧ (rows base).length ≤ 8 ∧ K (val base) (adopt T base (rows base)) ids ((List.range (rows base).length).map (base + ·))) → call f args T base K := fun h => hcaw (call_own h)
  rw [← hdv] at hd
  have ha : ∀ (T : Table) id k0, T k0 = some ⟨4, []⟩ → app T id 52 52 (.sl k0 0 0) (.ro X) = some (.sl id 0 n, (T.set k0 none).set id (some ⟨4, X⟩)) := fun T id k0 hT => by
    rw [happ]
    exact app_ro u52 u52 z4 (by decide) rfl (by decide) hT h3 (Nat.le_refl _) (by rw [hnX]; exact (Nat.zero_add _).symm) rfl hnle
  cbv
  rw [hd]; cbv
  rw [ha _ _ _ (by rfl)]; cbv
  exact hQ _ _ trivial (leaves_own (k := 40) (by cbv) (by rfl) hcl)
theorem groups_calls (d : DocT) (hs : d.length ≤ 1000000) : ACalls Try.prog 41 [.ro (d.map partC)] (fun _ => .flat (.int .i64 (natI (kindCount d)))) (fun _ => []) := by
  obtain ⟨r, hr⟩ : ∃ r, r = natI (kindCount d) := ⟨_, rfl⟩
  rw [← hr]
  have hend : ∀ i n, At d i → n = natI (kindCount (d.take i.toNat)) → decide (i < (d.length : Int)) = false → n = r := fun i n hi hn hc => by rw [hn, hr, take_end hi hc]
  have hstep : ∀ i n, At d i → n = natI (kindCount (d.take i.toNat)) → decide (i < (d.length : Int)) = true → (decide ((atI d i).kind = 6) = true → n + 1 = natI (kindCount (d.take (i + 1).toNat)) ∧ arI .add .i64 n 1 = n + 1) ∧ (decide ((atI d i).kind = 6) = false → n = natI (kindCount (d.take (i + 1).toNat))) := fun i n hi hn hc => by
    obtain ⟨_, h0, h1⟩ := at_lt hi hc
    have hl : (d.take i.toNat).length ≤ d.length := by rw [List.length_take]; omega
    have hk : kindCount (d.take i.toNat) ≤ (d.take i.toNat).length := List.length_filter_le _ _
    have e : kindCount (d.take (i + 1).toNat) = kindCount (d.take i.toNat) + if decide ((atI d i).kind = 6) = true then 1 else 0 := by
      rw [take_next h0 h1]
      unfold kindCount
      rw [List.filter_append, List.length_append]
      cases h : decide ((atI d i).kind = 6) <;> simp [List.filter_cons, h]
    rw [e, hn]
    unfold natI
    refine ⟨fun h => ?_, fun h => by rw [h]; simp⟩
    rw [h]
    exact ⟨by simp, ar_add64 (by omega) (by omega)⟩
  have hz : (0 : Int) = natI (kindCount (d.take (0 : Int).toNat)) := rfl
  have hia : ∀ i, At d i → decide (i < (d.length : Int)) = true → _ := fun i hi hc => at_round (sz := 3) (f := partC) rfl (fun _ => rfl) hs hi hc
  obtain ⟨X, hX⟩ : ∃ X, X = d.map partC := ⟨_, rfl⟩
  rw [← hX] at hia ⊢
  refine acalls_symF tabF_ok fn41 rfl rfl rfl (by kernel_rfl) ?_
  have hfin : ∀ st, resA Try.prog Try.f41 st = some (.flat (.int .i64 r)) → G.Leaves Try.prog Try.f41 (fun _ => .flat (.int .i64 r)) (fun _ => []) st := fun st h => G.Leaves.plain h rfl
  rintro ⟨lt, le, eq, se, ar, dv, una, conv, len, sln, nat, nth, ixs, cel, sto, app, cpy, slc, mak, ixv, oth, dk, ib, call⟩ hS hm Q hQ
  obtain ⟨hlt, hle, heq, hse, har, hdv, huna, hconv, hlen, hsln, hnat, hnth, hixs, hcel, hsto, happ, hcpy, hslc, hmak, hixv, hoth, hdk, hib, hcall⟩ := Sym.mk.inj hS
  clear hS
  have hnt : ∀ n : Nat, nat n = U.natI n := fun n => by rw [hnat]; rfl
  have hbox : ∀ e c off, cel (some ⟨e, [c]⟩) 0 off = if off ≤ c.length then some (c.drop off) else none := fun e c off => by rw [hcel]; rfl
  have hsbox : ∀ e c off sz y, sto (some ⟨e, [c]⟩) 0 off sz y = if y.cells.length = sz ∧ off + sz ≤ c.length ∧ y.cells.all AV.one = true then some ⟨e, [spl c off y.cells]⟩ else none := fun e c off sz y => by rw [hsto]; rfl
  have hcaw : ∀ {f args T base K}, CallK Try.prog f args T base K → call f args T base K := fun h => by rw [hcall]; exact h
  have hcal : ∀ {f args T base} {K : AV → Table → List Nat → List Nat → Prop}, (∃ args' ids val rows, Hands T ids args args' (val base) (rows base) ∧ ACalls Try.prog f args' val rows ∧ (rows base).length ≤ 8 ∧ K (val base) (adopt T base (rows base)) ids ((List.range (rows base).length).map (base + ·))) → call f args T base K := fun h => hcaw (call_own h)
  have hnX : len X = d.length := by rw [hlen, hX, len_map]
  cbv
  refine MW_loop hm [] [0, 3, 4] 5 (by simp) (fun mz st => ∃ (i n : Int), At d i ∧ n = natI (kindCount (d.take i.toNat)) ∧ mz = U.left d.length i ∧ st = stOf [.ro X, .dead, .dead, .flat (.int .i64 n), .flat (.int .i64 i)] [] 0) (U.left d.length 0) ?_ ?_
  · exact ⟨0, 0, at_zero d, hz, rfl, cut_eq (by cbv) (by rfl)⟩
  rintro mz st ⟨i, n, hi, hn, hmz, rfl⟩
  cases hc : lt i (len X)
  · have hc' : decide (i < (d.length : Int)) = false := by rw [hlt, hnX] at hc; exact hc
    obtain rfl := hend i n hi hn hc'
    cbv
    rw [hc]; cbv
    exact hQ _ _ trivial (hfin _ (by cbv))
  have hc' : decide (i < (d.length : Int)) = true := by rw [hlt, hnX] at hc; exact hc
  obtain ⟨hix, hadd, q1, q2, _, _, _⟩ := hia i hi hc'
  obtain ⟨r1, r2⟩ := hstep i n hi hn hc'
  rw [← hnth] at hix
  rw [← har] at hadd r1
  have e6 : eq (atI d i).kind 6 = decide ((atI d i).kind = 6) := by rw [heq]
  generalize decide ((atI d i).kind = 6) = b6 at e6 r1 r2
  clear hend hstep hia hn
  generalize i + 1 = i2 at hadd q1 q2 r1 r2
  generalize atI d i = p at hix e6
  obtain ⟨kd, pn, tx⟩ := p
  unfold partC at hix
  dsimp only at hix e6
  cbv
  rw [hc]; cbv
  repeat (first | (rw [hbox]; cbv) | (rw [hsbox]; cbv) | (rw [hix]; cbv))
  rw [e6]; cases b6
  · cbv
    rw [hadd]
    exact ⟨[], [0, 3, 4], 5, U.left d.length i2, hmz ▸ q2, by simp, i2, n, q1, r2 rfl, rfl, cut_eq (by cbv) (by rfl)⟩
  obtain ⟨g1, g2⟩ := r1 rfl
  generalize n + 1 = n2 at g1 g2
  cbv
  rw [g2]; cbv
  rw [hadd]
  exact ⟨[], [0, 3, 4], 5, U.left d.length i2, hmz ▸ q2, by simp, i2, n2, q1, g1, rfl, cut_eq (by cbv) (by rfl)⟩
/-! ### The document's answer: all ways -/
def anyS (o : List ByteArray) (x : ByteArray) : Bool := o.any fun a => a == x
theorem anyS_con (o : List ByteArray) (x : ByteArray) : anyS o x = o.contains x := by
  induction o with
  | nil => rfl
  | cons a o ih =>
    have h : (a == x) = (x == a) := by rw [Bool.eq_iff_iff, ba_beq, ba_beq]; exact ⟨Eq.symm, Eq.symm⟩
    rw [List.contains_cons, ← ih, ← h]; rfl
def AnAt (o : List ByteArray) (x : ByteArray) (k : Int) (b : Bool) : Prop := At o k ∧ b = anyS (o.take k.toNat) x
theorem anAt_end {o : List ByteArray} {x : ByteArray} {k : Int} {b : Bool} (h : AnAt o x k b) (hc : decide (k < (o.length : Int)) = false) : b = o.contains x := by
  rw [h.2, take_end h.1 hc, anyS_con]
theorem anAt_step {o : List ByteArray} {x : ByteArray} {k : Int} {b : Bool} (h : AnAt o x k b) (hc : decide (k < (o.length : Int)) = true) : AnAt o x (k + 1) (b || (atI o k == x)) := by
  obtain ⟨_, h0, h1⟩ := at_lt h.1 hc
  refine ⟨(at_step h.1 hc).1, ?_⟩
  rw [take_next h0 h1, anyS, List.any_append, h.2]
  simp [anyS]
def MgAt (A B : List ByteArray) (i : Int) (o : List ByteArray) : Prop := At B i ∧ mergeN A (B.take i.toNat) = o
theorem mgAt_zero (A B : List ByteArray) : MgAt A B 0 A := ⟨at_zero B, rfl⟩
theorem mgAt_end {A B o : List ByteArray} {i : Int} (h : MgAt A B i o) (hc : decide (i < (B.length : Int)) = false) : mergeN A B = o := by
  have := h.2
  rwa [take_end h.1 hc] at this
theorem mgAt_step {A B o : List ByteArray} {i : Int} (h : MgAt A B i o) (hc : decide (i < (B.length : Int)) = true) : (o.contains (atI B i) = true → MgAt A B (i + 1) o) ∧ (o.contains (atI B i) = false → MgAt A B (i + 1) (o ++ [atI B i])) := by
  obtain ⟨_, h0, h1⟩ := at_lt h.1 hc
  have e : mergeN A (B.take (i + 1).toNat) = stepN o (atI B i) := by
    rw [take_next h0 h1, merge_append, h.2]; rfl
  have hq := (at_step h.1 hc).1
  unfold stepN at e
  exact ⟨fun hb => ⟨hq, by rw [e, if_pos hb]⟩, fun hb => ⟨hq, by rw [e, if_neg (by rw [hb]; decide)]⟩⟩
theorem own_str {Y : List (List AV)} {l : List ByteArray} (hY : Y = l.map strC) {n : Nat} (hn : l.length = n) {i : Int} (h0 : 0 ≤ i) (h1 : i < n) : (∀ id, ixSl Try.prog (some ⟨9, Y⟩) id 0 n i 1 = some (.ptr id i.toNat 0)) ∧ ptrCells (some ⟨9, Y⟩) i.toNat 0 = some [.flat (.string (atI l i))] := by
  subst hY
  exact ⟨fun id => own_ix c9 h0 h1 id, own_cel (get_map h0 (by rw [hn]; exact h1)) (Nat.zero_le _)⟩
theorem refAll_done {t : Tr} (ht : t.ok) (hs : Small t.flat) {ch : List Bool} (hc : (run t ch).2 ≤ ch.length) : ACalls Try.prog 43 [.ro (t.flat.map partC), .ro (ch.map boolC)] (fun k => .sl k 0 1) (fun _ => [⟨9, (allT t ch).map strC⟩]) := by
  have hb := byT_small ch ht hs false 0
  have hB := refBy_calls ch t ht (by have := hs.1; omega) 0 false 0 (by omega) (by have := hs.1; omega) (by omega) (by have := hs.1; omega) (by omega)
  rw [allT_done hc]
  change ACalls Try.prog 47 _ (fun _ => refV (run t ch)) _ at hB
  unfold refV at hB
  obtain ⟨X, hX⟩ : ∃ X, X = t.flat.map partC := ⟨_, rfl⟩
  obtain ⟨CH, hCH⟩ : ∃ X, X = ch.map boolC := ⟨_, rfl⟩
  have hl : lenE CH = (ch.length : Int) := by rw [hCH, len_map]
  have hc' : decide ((run t ch).2 ≤ (ch.length : Int)) = true := decide_eq_true hc
  rw [← hX, ← hCH] at hB ⊢
  obtain ⟨s, hs2⟩ : ∃ s, s = txt (run t ch).1 := ⟨_, rfl⟩
  rw [← hs2] at hB ⊢
  generalize (run t ch).2 = u at hB hc'
  refine acalls_symF tabF_ok fn43 rfl rfl rfl (by kernel_rfl) ?_
  rintro ⟨lt, le, eq, se, ar, dv, una, conv, len, sln, nat, nth, ixs, cel, sto, app, cpy, slc, mak, ixv, oth, dk, ib, call⟩ hS hm Q hQ
  obtain ⟨hlt, hle, heq, hse, har, hdv, huna, hconv, hlen, hsln, hnat, hnth, hixs, hcel, hsto, happ, hcpy, hslc, hmak, hixv, hoth, hdk, hib, hcall⟩ := Sym.mk.inj hS
  clear hS
  have hnt : ∀ n : Nat, nat n = U.natI n := fun n => by rw [hnat]; rfl
  have hbox : ∀ e c off, cel (some ⟨e, [c]⟩) 0 off = if off ≤ c.length then some (c.drop off) else none := fun e c off => by rw [hcel]; rfl
  have hsbox : ∀ e c off sz y, sto (some ⟨e, [c]⟩) 0 off sz y = if y.cells.length = sz ∧ off + sz ≤ c.length ∧ y.cells.all AV.one = true then some ⟨e, [spl c off y.cells]⟩ else none := fun e c off sz y => by rw [hsto]; rfl
  have hcaw : ∀ {f args T base K}, CallK Try.prog f args T base K → call f args T base K := fun h => by rw [hcall]; exact h
  have hcal : ∀ {f args T base} {K : AV → Table → List Nat → List Nat → Prop}, (∃ args' ids val rows, Hands T ids args args' (val base) (rows base) ∧ ACalls Try.prog f args' val rows ∧ (rows base).length ≤ 8 ∧ K (val base) (adopt T base (rows base)) ids ((List.range (rows base).length).map (base + ·))) → call f args T base K := fun h => hcaw (call_own h)
  have e1 : le u (len CH) = true := by rw [hle, hlen, hl]; exact hc'
  cbv
  refine hcal ⟨_, [], _, _, .inl ⟨rfl, by cbv⟩, hB, by simp, ?_⟩
  cbv
  rw [e1]; cbv
  exact hQ _ _ trivial (leaves_own (k := 112) (by cbv) (by rfl) (by intro c hc; simp [strC] at hc; subst hc; rfl))
theorem refAll_more {t : Tr} (ht : t.ok) (hs : Small t.flat) {ch : List Bool} (hlc : ch.length ≤ 100) (hc : ¬ (run t ch).2 ≤ ch.length) {A B : List ByteArray} (hA : A.length ≤ 10000) (hB : B.length ≤ 10000)
    (hcA : ACalls Try.prog 43 [.ro (t.flat.map partC), .ro ((ch ++ [true]).map boolC)] (fun k => .sl k 0 A.length) (fun _ => [⟨9, A.map strC⟩])) (hcB : ACalls Try.prog 43 [.ro (t.flat.map partC), .ro ((ch ++ [false]).map boolC)] (fun k => .sl k 0 B.length) (fun _ => [⟨9, B.map strC⟩])) {n : Nat} (hn : n = (mergeN A B).length) :
    ACalls Try.prog 43 [.ro (t.flat.map partC), .ro (ch.map boolC)] (fun k => .sl k 0 n) (fun _ => [⟨9, (mergeN A B).map strC⟩]) := by
  have hb := byT_small ch ht hs false 0
  have hBy := refBy_calls ch t ht (by have := hs.1; omega) 0 false 0 (by omega) (by have := hs.1; omega) (by omega) (by have := hs.1; omega) (by omega)
  change ACalls Try.prog 47 _ (fun _ => refV (run t ch)) _ at hBy
  unfold refV at hBy
  obtain ⟨X, hX⟩ : ∃ X, X = t.flat.map partC := ⟨_, rfl⟩
  obtain ⟨CH, hCH⟩ : ∃ X, X = ch.map boolC := ⟨_, rfl⟩
  obtain ⟨CT, hCT⟩ : ∃ X, X = (ch ++ [true]).map boolC := ⟨_, rfl⟩
  obtain ⟨CF, hCF⟩ : ∃ X, X = (ch ++ [false]).map boolC := ⟨_, rfl⟩
  obtain ⟨YA, hYA⟩ : ∃ X, X = A.map strC := ⟨_, rfl⟩
  obtain ⟨YB, hYB⟩ : ∃ X, X = B.map strC := ⟨_, rfl⟩
  obtain ⟨na, hna⟩ : ∃ k, k = A.length := ⟨_, rfl⟩
  obtain ⟨nb, hnb⟩ : ∃ k, k = B.length := ⟨_, rfl⟩
  obtain ⟨nc, hnc⟩ : ∃ k, k = ch.length := ⟨_, rfl⟩
  obtain ⟨nc1, hnc1⟩ : ∃ k, k = nc + 1 := ⟨_, rfl⟩
  have hl : lenE CH = (ch.length : Int) := by rw [hCH, len_map]
  have hc' : decide ((run t ch).2 ≤ (ch.length : Int)) = false := decide_eq_false hc
  have hCTl : nc1 = CT.length := by rw [hCT, List.length_map, hnc1, hnc]; simp
  have hCFl : nc1 = CF.length := by rw [hCF, List.length_map, hnc1, hnc]; simp
  have hCTf := flat_bool hCT
  have hCFf := flat_bool hCF
  have hYAf := flat_str hYA
  have hYBf := flat_str hYB
  have hYBc := closed_str hYB
  have hmb : ∀ i o, MgAt A B i o → o.length ≤ 20000 := fun i o h => by
    have h1 := merge_len (B.take i.toNat) A
    rw [h.2, List.length_take] at h1; omega
  have hfin := closed_str (l := mergeN A B) rfl
  rw [← hX, ← hCH] at hBy ⊢
  rw [← hX, ← hCT, ← hYA, ← hna] at hcA
  rw [← hX, ← hCF, ← hYB, ← hnb] at hcB
  generalize (run t ch).2 = u at hBy hc'
  generalize txt (run t ch).1 = s at hBy
  have b1 : nc ≤ 100000000 := by omega
  have b2 : nc1 ≤ 100000000 := by omega
  have hCHl : nc ≤ CH.length := by rw [hCH, List.length_map, hnc]; exact Nat.le_refl _
  have hCTe : CT = CH.take nc ++ [[.flat (.bool true)]] := by rw [hCT, hCH, List.map_append, hnc, ← List.map_take, List.take_length]; rfl
  have hCFe : CF = CH.take nc ++ [[.flat (.bool false)]] := by rw [hCF, hCH, List.map_append, hnc, ← List.map_take, List.take_length]; rfl
  refine acalls_symF tabF_ok fn43 rfl rfl rfl (by kernel_rfl) ?_
  rintro ⟨lt, le, eq, se, ar, dv, una, conv, len, sln, nat, nth, ixs, cel, sto, app, cpy, slc, mak, ixv, oth, dk, ib, call⟩ hS hm Q hQ
  obtain ⟨hlt, hle, heq, hse, har, hdv, huna, hconv, hlen, hsln, hnat, hnth, hixs, hcel, hsto, happ, hcpy, hslc, hmak, hixv, hoth, hdk, hib, hcall⟩ := Sym.mk.inj hS
  clear hS
  have hnt : ∀ n : Nat, nat n = U.natI n := fun n => by rw [hnat]; rfl
  have hbox : ∀ e c off, cel (some ⟨e, [c]⟩) 0 off = if off ≤ c.length then some (c.drop off) else none := fun e c off => by rw [hcel]; rfl
  have hsbox : ∀ e c off sz y, sto (some ⟨e, [c]⟩) 0 off sz y = if y.cells.length = sz ∧ off + sz ≤ c.length ∧ y.cells.all AV.one = true then some ⟨e, [spl c off y.cells]⟩ else none := fun e c off sz y => by rw [hsto]; rfl
  have hcaw : ∀ {f args T base K}, CallK Try.prog f args T base K → call f args T base K := fun h => by rw [hcall]; exact h
  have hcal : ∀ {f args T base} {K : AV → Table → List Nat → List Nat → Prop}, (∃ args' ids val rows, Hands T ids args args' (val base) (rows base) ∧ ACalls Try.prog f args' val rows ∧ (rows base).length ≤ 8 ∧ K (val base) (adopt T base (rows base)) ids ((List.range (rows base).length).map (base + ·))) → call f args T base K := fun h => hcaw (call_own h)
  have e1 : le u (len CH) = false := by rw [hle, hlen, hl]; exact hc'
  have a0 : ∀ (T : Table) id k0, T k0 = some ⟨4, []⟩ → app T id 52 52 (.sl k0 0 0) (.ro CH) = some (.sl id 0 nc, (T.set k0 none).set id (some ⟨4, CH⟩)) := fun T id k0 hT => by
    rw [happ]
    exact app_ro u52 u52 z4 (by decide) rfl (by decide) hT (len1b hCH) (Nat.le_refl _) (by rw [hCH, List.length_map, hnc]; exact (Nat.zero_add _).symm) rfl b1
  have at' : ∀ (T : Table) id k0 k, T k0 = some ⟨4, CH⟩ → T k = some ⟨4, [[.flat (.bool true)]]⟩ → k ≠ k0 → app T id 52 52 (.sl k0 0 nc) (.sl k 0 1) = some (.sl id 0 nc1, (T.set k0 none).set id (some ⟨4, CT⟩)) := fun T id k0 k h1 h2 h3 => by
    rw [happ]
    exact app_tip u52 z4 c4 (by decide) rfl (by decide) h1 h2 h3 rfl hCHl hnc1 hCTe b2
  have af' : ∀ (T : Table) id k0 k, T k0 = some ⟨4, CH⟩ → T k = some ⟨4, [[.flat (.bool false)]]⟩ → k ≠ k0 → app T id 52 52 (.sl k0 0 nc) (.sl k 0 1) = some (.sl id 0 nc1, (T.set k0 none).set id (some ⟨4, CF⟩)) := fun T id k0 k h1 h2 h3 => by
    rw [happ]
    exact app_tip u52 z4 c4 (by decide) rfl (by decide) h1 h2 h3 rfl hCHl hnc1 hCFe b2
  have hlt2 : ∀ i, lt i (nat nb) = decide (i < (B.length : Int)) := fun i => by rw [hlt, hnt, hnb]; rfl
  cbv
  refine hcal ⟨_, [], _, _, .inl ⟨rfl, by cbv⟩, hBy, by simp, ?_⟩
  cbv
  rw [e1]; cbv
  rw [a0 _ _ _ (by rfl)]; cbv
  rw [at' _ _ _ _ (by rfl) (by rfl) (by decide)]; cbv
  refine hcal ⟨[.ro X, .ro CT], [144], _, _, hands_deep ⟨.id rfl, deep_row (by simp) (by rfl) hCTl hCTf.read, trivial⟩ rfl (noRo_flat hYAf), hcA, by simp, ?_⟩
  cbv
  rw [a0 _ _ _ (by rfl)]; cbv
  rw [af' _ _ _ _ (by rfl) (by rfl) (by decide)]; cbv
  refine hcal ⟨[.ro X, .ro CF], [208], _, _, hands_deep ⟨.id rfl, deep_row (by simp) (by rfl) hCFl hCFf.read, trivial⟩ rfl (noRo_flat hYBf), hcB, by simp, ?_⟩
  cbv
  refine MW_loop hm [152, 216] [7, 8, 9] 10 (by simp) (fun mz st => ∃ (i : Int) (o : List ByteArray) (m : Nat) (Y : List (List AV)), MgAt A B i o ∧ Y = o.map strC ∧ m = o.length ∧ mz = U.left B.length i ∧ st = stOf [.dead, .dead, .dead, .dead, .dead, .dead, .dead, .sl 0 0 m, .sl 1 0 nb, .flat (.int .i64 i)] [some ⟨9, Y⟩, some ⟨9, YB⟩] 2) (U.left B.length 0) ?_ ?_
  · exact ⟨0, A, na, YA, mgAt_zero A B, hYA, hna, rfl, cut_eq (by cbv) (cutRows_cons (by rfl) (closed_str hYA) (cutRows_cons (by rfl) (hYBc) rfl))⟩
  rintro mz st ⟨i, o, m, Y, hi, hY, hm1, hmz, rfl⟩
  cases hc : lt i (nat nb)
  · have hc' := (hlt2 i).symm.trans hc
    have hend := mgAt_end hi hc'
    cbv
    rw [hc]; cbv
    have : m = n := by rw [hm1, hn, hend]
    subst this
    exact hQ _ _ trivial (leaves_own (k := 0) (by cbv) (by rw [hend, ← hY]; rfl) hfin)
  have hc' := (hlt2 i).symm.trans hc
  obtain ⟨_, i0, i1⟩ := at_lt hi.1 hc'
  obtain ⟨q1, q2⟩ := at_step hi.1 hc'
  have hadd : ar .add .i64 i 1 = i + 1 := by rw [har]; exact at_add (by omega) hi.1 hc'
  obtain ⟨x1, x2⟩ := own_str hYB hnb.symm i0 (by rw [hnb]; exact i1)
  rw [← hixs] at x1
  rw [← hcel] at x2
  obtain ⟨s1, s2⟩ := mgAt_step hi hc'
  have hob := hmb i o hi
  generalize atI B i = x at x2 s1 s2
  generalize i.toNat = iN at x1 x2
  have hlt3 : ∀ k, lt k (nat m) = decide (k < (o.length : Int)) := fun k => by rw [hlt, hnt, hm1]; rfl
  have hown : ∀ k, At o k → decide (k < (o.length : Int)) = true → (∀ id, ixs (some ⟨9, Y⟩) id 0 m k 1 = some (.ptr id k.toNat 0)) ∧ cel (some ⟨9, Y⟩) k.toNat 0 = some [.flat (.string (atI o k))] ∧ ar .add .i64 k 1 = k + 1 := fun k hk hck => by
    obtain ⟨_, k0, k1⟩ := at_lt hk hck
    obtain ⟨y1, y2⟩ := own_str hY hm1.symm k0 (by rw [hm1]; exact k1)
    rw [hixs, hcel, har]
    exact ⟨y1, y2, at_add (by omega) hk hck⟩
  generalize i + 1 = i2 at hadd q1 q2 s1 s2
  have hz : AnAt o x 0 false := ⟨at_zero o, rfl⟩
  cbv
  rw [hc]; cbv
  refine MW_loop hm [0, 1] [7, 8, 9, 10, 11] 12 (by simp) (fun mz st => ∃ (k : Int) (b : Bool), AnAt o x k b ∧ mz = U.left o.length k ∧ st = stOf [.dead, .dead, .dead, .dead, .dead, .dead, .dead, .sl 0 0 m, .sl 1 0 nb, .flat (.int .i64 i), .flat (.bool b), .flat (.int .i64 k)] [some ⟨9, Y⟩, some ⟨9, YB⟩] 2) (U.left o.length 0) ?_ ?_
  · exact ⟨0, false, hz, rfl, cut_eq (by cbv) (cutRows_cons (by rfl) (closed_str hY) (cutRows_cons (by rfl) (hYBc) rfl))⟩
  rintro mk st ⟨k, b, hk, hmk, rfl⟩
  cases hck : lt k (nat m)
  · have hck' := (hlt3 k).symm.trans hck
    have hb := anAt_end hk hck'
    cases b
    · have g := s2 hb.symm
      obtain ⟨m2, hm2⟩ : ∃ m2, m2 = m + 1 := ⟨_, rfl⟩
      obtain ⟨Y2, hY2⟩ : ∃ Y2, Y2 = (o ++ [x]).map strC := ⟨_, rfl⟩
      have hm3 : m2 = (o ++ [x]).length := by rw [hm2, hm1]; simp
      have ap : ∀ (T : Table) id k0 k, T k0 = some ⟨9, Y⟩ → T k = some ⟨9, [[.flat (.string x)]]⟩ → k ≠ k0 → app T id 47 47 (.sl k0 0 m) (.sl k 0 1) = some (.sl id 0 m2, (T.set k0 none).set id (some ⟨9, Y2⟩)) := fun T id k0 k h1 h2 h3 => by
        rw [happ]
        exact app_tip u47 z9 c9 (by decide) rfl (by decide) h1 h2 h3 rfl (by rw [hY, List.length_map, hm1]; exact Nat.le_refl _) hm2 (by rw [hY2, hY, List.map_append, hm1, ← List.map_take, List.take_length]; rfl) (by omega)
      cbv
      rw [hck]; cbv
      rw [x1]; cbv
      rw [x2]; cbv
      rw [ap _ _ _ _ (by rfl) (by rfl) (by decide)]; cbv
      rw [hadd]
      exact ⟨[98, 1], [7, 8, 9], 10, U.left B.length i2, hmz ▸ q2, by simp, i2, _, m2, Y2, g, hY2, hm3, rfl, cut_eq (by cbv) (cutRows_cons (by rfl) (closed_str hY2) (cutRows_cons (by rfl) (hYBc) rfl))⟩
    · have g := s1 hb.symm
      cbv
      rw [hck]; cbv
      rw [hadd]
      exact ⟨[0, 1], [7, 8, 9], 10, U.left B.length i2, hmz ▸ q2, by simp, i2, o, m, Y, g, hY, hm1, rfl, cut_eq (by cbv) (cutRows_cons (by rfl) (closed_str hY) (cutRows_cons (by rfl) (hYBc) rfl))⟩
  have hck' := (hlt3 k).symm.trans hck
  obtain ⟨y1, y2, y3⟩ := hown k hk.1 hck'
  have hnext := anAt_step hk hck'
  obtain ⟨p1, p2⟩ := at_step hk.1 hck'
  have hse2 : se (atI o k) x = (atI o k == x) := by rw [hse]; exact ba_toList _ _
  generalize (atI o k == x) = bb at hse2 hnext
  generalize atI o k = ok at y2 hse2
  generalize k.toNat = kN at y1 y2
  generalize k + 1 = k2 at y3 p1 p2 hnext
  cases b
  · cbv
    rw [hck]; cbv
    refine ⟨by rw [hdk]; kernel_rfl, ?_⟩
    repeat (first | (rw [hbox]; cbv) | (rw [hsbox]; cbv) | (rw [y1]; cbv) | (rw [y2]; cbv) | (rw [x1]; cbv) | (rw [x2]; cbv) | (rw [hse2]; cbv))
    refine ⟨by rw [hib]; kernel_rfl, ?_⟩
    cbv
    rw [y3]
    exact ⟨[0, 1], [7, 8, 9, 10, 11], 12, U.left o.length k2, hmk ▸ p2, by simp, k2, _, hnext, rfl, cut_eq (by cbv) (cutRows_cons (by rfl) (closed_str hY) (cutRows_cons (by rfl) (hYBc) rfl))⟩
  · cbv
    rw [hck]; cbv
    refine ⟨by rw [hdk]; kernel_rfl, ?_⟩
    refine ⟨by rw [hib]; kernel_rfl, ?_⟩
    cbv
    rw [y3]
    exact ⟨[0, 1], [7, 8, 9, 10, 11], 12, U.left o.length k2, hmk ▸ p2, by simp, k2, _, hnext, rfl, cut_eq (by cbv) (cutRows_cons (by rfl) (closed_str hY) (cutRows_cons (by rfl) (hYBc) rfl))⟩
/-- All ways behind some choices. -/
theorem refAll_calls {t : Tr} (ht : t.ok) (hs : Small t.flat) (hg : groupsT t ≤ 7) : ∀ (f : Nat) (ch : List Bool), Tight t ch → groupsT t - ch.length = f → ACalls Try.prog 43 [.ro (t.flat.map partC), .ro (ch.map boolC)] (fun k => .sl k 0 (allT t ch).length) (fun _ => [⟨9, (allT t ch).map strC⟩]) := by
  intro f
  induction f with
  | zero =>
    intro ch hT hf
    have h1 := byT_groups ch t ht 0 false 0
    have hc : (run t ch).2 ≤ ch.length := by unfold run; omega
    have := refAll_done ht hs hc
    rw [show (allT t ch).length = 1 by rw [allT_done hc]; rfl]
    exact this
  | succ f ih =>
    intro ch hT hf
    by_cases hc : (run t ch).2 ≤ ch.length
    · have := refAll_done ht hs hc
      rw [show (allT t ch).length = 1 by rw [allT_done hc]; rfl]
      exact this
    · have hlt : (ch.length : Int) < (run t ch).2 := by omega
      have hA := ih (ch ++ [true]) (tight_app true hlt) (by simp; omega)
      have hB := ih (ch ++ [false]) (tight_app false hlt) (by simp; omega)
      have h1 := allT_len hg (ch ++ [true])
      have h2 := allT_len hg (ch ++ [false])
      have hl := tight_le ht hT
      rw [allT_more ht hT hc]
      exact refAll_more ht hs (by omega) hc (by omega) (by omega) hA hB rfl
end Go.Proofs.Ytagflbmonlaioaa.D
