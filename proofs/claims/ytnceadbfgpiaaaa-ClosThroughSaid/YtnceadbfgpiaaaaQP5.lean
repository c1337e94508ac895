/- Contracts: the example of bosketlaw25, Light, fits. -/
import Derived.Test.YtnceadbfgpiaaaaQP4
import Derived.Test.YtnceadbfgpiaaaaQ16
namespace Go.Proofs.Ytnceadbfgpiaaaa.C
open Go G U K I J F N
set_option linter.unusedVariables false
set_option linter.unusedSimpArgs false
set_option maxRecDepth 100000
set_option maxHeartbeats 4000000
theorem fn21 : Try.prog.funcs[21]? = some Try.f21 := by kernel_rfl
theorem fn22 : Try.prog.funcs[22]? = some Try.f22 := by kernel_rfl
theorem fn23 : Try.prog.funcs[23]? = some Try.f23 := by kernel_rfl
theorem awake25_calls : ACalls Try.prog 21 [] (fun _ => .flat (.bool true)) (fun _ => []) := by
  have hcS : ACalls Try.prog 35 [.agg [.ro [], .ro [], .ro [], .ro [], .flat (.int .i64 0)]] (fun k => .sl k 0 1) (fun _ => [⟨28, [[.flat (.int .i64 0), .flat (.int .i64 0), .flat (.int .u64 9223372036854775808)]]⟩]) := by
    have h := start35_calls ⟨[], [], [], [], 0⟩
    have e : (startT ⟨[], [], [], [], 0⟩).map itemC = [[.flat (.int .i64 0), .flat (.int .i64 0), .flat (.int .u64 9223372036854775808)]] := by
      unfold startT
      have : bitN 63 = 9223372036854775808 := by decide
      rw [this]; rfl
    rw [e] at h
    exact h
  have hf : flatRow [[AV.flat (.int .i64 0), .flat (.int .i64 0), .flat (.int .u64 9223372036854775808)]] := flat_item [⟨0, 0, 9223372036854775808⟩]
  have d1 : dvOf Try.prog .eql 28 (.agg [AV.flat (.int .i64 0), .flat (.int .i64 0), .flat (.int .u64 9223372036854775808)]) (.agg [.flat (.int .i64 0), .flat (.int .i64 0), .flat (.int .u64 9223372036854775808)]) = some (.flat (.bool true)) := by
    rw [dvOf_eq]; intro x y; kernel_rfl
  refine acalls_symF tabF_ok fn21 rfl rfl rfl (by kernel_rfl) ?_
  have hfin : ∀ st, resA Try.prog Try.f21 st = some (.flat (.bool true)) → G.Leaves Try.prog Try.f21 (fun _ => .flat (.bool true)) (fun _ => []) st := fun st h => G.Leaves.plain h rfl
  rintro ⟨lt, le, eq, se, ar, dv, una, conv, len, sln, nat, nth, ixs, cel, sto, app, cpy, slc, mak, ixv, oth, dk, ib, call⟩ hS hm Q hQ
  obtain ⟨hlt, hle, heq, hse, har, hdv, huna, hconv, hlen, hsln, hnat, hnth, hixs, hcel, hsto, happ, hcpy, hslc, hmak, hixv, hoth, hdk, hib, hcall⟩ := Sym.mk.inj hS
  clear hS
  have hnt : ∀ n : Nat, nat n = U.natI n := fun n => by rw [hnat]; rfl
  have hbox : ∀ e c off, cel (some ⟨e, [c]⟩) 0 off = if off ≤ c.length then some (c.drop off) else none := fun e c off => by rw [hcel]; rfl
  have hsbox : ∀ e c off sz y, sto (some ⟨e, [c]⟩) 0 off sz y = if y.cells.length = sz ∧ off + sz ≤ c.length ∧ y.cells.all AV.one = true then some ⟨e, [spl c off y.cells]⟩ else none := fun e c off sz y => by rw [hsto]; rfl
  have hcaw : ∀ {f args T base K}, CallK Try.prog f args T base K → call f args T base K := fun h => by rw [hcall]; exact h
  have hcal : ∀ {f args T base} {K : AV → Table → List Nat → List Nat → Prop}, (∃ args' ids val rows, Hands T ids args args' (val base) (rows base) ∧ ACalls Try.prog f args' val rows ∧ (rows base).length ≤ 8 ∧ K (val base) (adopt T base (rows base)) ids ((List.range (rows base).length).map (base + ·))) → call f args T base K := fun h => hcaw (call_own h)
  have x1 : ∀ id, ixs (some ⟨28, [[AV.flat (.int .i64 0), .flat (.int .i64 0), .flat (.int .u64 9223372036854775808)]]⟩) id 0 1 0 3 = some (.ptr id 0 0) := fun id => by rw [hixs]; exact own_ix (i := 0) c28 (by decide) (by decide) id
  have x3 : cel (some ⟨28, [[AV.flat (.int .i64 0), .flat (.int .i64 0), .flat (.int .u64 9223372036854775808)]]⟩) 0 0 = some [AV.flat (.int .i64 0), .flat (.int .i64 0), .flat (.int .u64 9223372036854775808)] := by rw [hcel]; rfl
  have x5 : eq (nat 1) 1 = true := by rw [heq, hnat]; rfl
  have x6 : dv .eql 28 (.agg [AV.flat (.int .i64 0), .flat (.int .i64 0), .flat (.int .u64 9223372036854775808)]) (.agg [.flat (.int .i64 0), .flat (.int .i64 0), .flat (.int .u64 9223372036854775808)]) = some (.flat (.bool true)) := by rw [hdv]; exact d1
  cbv
  refine hcal ⟨[.agg [.ro [], .ro [], .ro [], .ro [], .flat (.int .i64 0)]], [], _, _, hands_deep ⟨deep_agg ⟨.nil, .nil, .nil, .nil, .id rfl, trivial⟩, trivial⟩ rfl (noRo_flat hf), hcS, by simp, ?_⟩
  cbv
  repeat (first | (rw [hbox]; cbv) | (rw [hsbox]; cbv) | (rw [x5]; cbv) | (rw [x1]; cbv) | (rw [x3]; cbv) | (rw [x6]; cbv))
  exact hQ _ _ trivial (hfin _ (by cbv))
def lightG (g : GramT) : Bool := fewG g && !decide ((12 : Int) < (g.prods.length : Int))
theorem light_no (g : GramT) (h : lightG g = false) : ACalls Try.prog 22 [gramV g] (fun _ => .flat (.bool false)) (fun _ => []) := by
  have hcF := fewG_calls g
  have hDl : lenE (g.prods.map prodC) = (g.prods.length : Int) := len_map _ _
  have hb : fewG g = true → decide ((12 : Int) < (g.prods.length : Int)) = true := fun e => by
    unfold lightG at h
    rw [e] at h
    cases hd : decide ((12 : Int) < (g.prods.length : Int))
    · rw [hd] at h; cases h
    · rfl
  clear h
  generalize fewG g = fw at *
  unfold gramV gramL at *
  generalize g.rules.map ruleC = R at *
  generalize g.sorts.map strC = S at *
  generalize g.prods.map prodC = D at *
  generalize g.levels.map levC = V at *
  generalize g.start = start at *
  refine acalls_symF tabF_ok fn22 rfl rfl rfl (by kernel_rfl) ?_
  have hfin : ∀ st, resA Try.prog Try.f22 st = some (.flat (.bool false)) → G.Leaves Try.prog Try.f22 (fun _ => .flat (.bool false)) (fun _ => []) st := fun st h => G.Leaves.plain h rfl
  rintro ⟨lt, le, eq, se, ar, dv, una, conv, len, sln, nat, nth, ixs, cel, sto, app, cpy, slc, mak, ixv, oth, dk, ib, call⟩ hS hm Q hQ
  obtain ⟨hlt, hle, heq, hse, har, hdv, huna, hconv, hlen, hsln, hnat, hnth, hixs, hcel, hsto, happ, hcpy, hslc, hmak, hixv, hoth, hdk, hib, hcall⟩ := Sym.mk.inj hS
  clear hS
  have hnt : ∀ n : Nat, nat n = U.natI n := fun n => by rw [hnat]; rfl
  have hbox : ∀ e c off, cel (some ⟨e, [c]⟩) 0 off = if off ≤ c.length then some (c.drop off) else none := fun e c off => by rw [hcel]; rfl
  have hsbox : ∀ e c off sz y, sto (some ⟨e, [c]⟩) 0 off sz y = if y.cells.length = sz ∧ off + sz ≤ c.length ∧ y.cells.all AV.one = true then some ⟨e, [spl c off y.cells]⟩ else none := fun e c off sz y => by rw [hsto]; rfl
  have hcaw : ∀ {f args T base K}, CallK Try.prog f args T base K → call f args T base K := fun h => by rw [hcall]; exact h
  have hcal : ∀ {f args T base} {K : AV → Table → List Nat → List Nat → Prop}, (∃ args' ids val rows, Hands T ids args args' (val base) (rows base) ∧ ACalls Try.prog f args' val rows ∧ (rows base).length ≤ 8 ∧ K (val base) (adopt T base (rows base)) ids ((List.range (rows base).length).map (base + ·))) → call f args T base K := fun h => hcaw (call_own h)
  have hb2 : fw = true → lt 12 (len D) = true := fun e => by rw [hlt, hlen, hDl]; exact hb e
  clear hb hDl
  cases fw
  · cbv
    repeat (first | (rw [hbox]; cbv) | (rw [hsbox]; cbv))
    refine hcal ⟨_, [], _, _, .inl ⟨rfl, by cbv⟩, hcF, by simp, ?_⟩
    cbv
    repeat (first | (rw [hbox]; cbv) | (rw [hsbox]; cbv))
    exact hQ _ _ trivial (hfin _ (by cbv))
  have hb2 := hb2 rfl
  cbv
  repeat (first | (rw [hbox]; cbv) | (rw [hsbox]; cbv))
  refine hcal ⟨_, [], _, _, .inl ⟨rfl, by cbv⟩, hcF, by simp, ?_⟩
  cbv
  repeat (first | (rw [hbox]; cbv) | (rw [hsbox]; cbv) | (rw [hb2]; cbv))
  exact hQ _ _ trivial (hfin _ (by cbv))
theorem light_n (g : GramT) (h : lightG g = true) : NCalls Try.prog 22 [gramV g] (RS isB) := by
  unfold lightG at h
  obtain ⟨h1, h2⟩ := Bool.and_eq_true_iff.1 h
  have hcF := fewG_calls g
  rw [h1] at hcF
  have hDl : lenE (g.prods.map prodC) = (g.prods.length : Int) := len_map _ _
  have hRl : (g.rules.map ruleC).length ≤ 1000000 := by rw [List.length_map]; exact Nat.le_trans (gb_few h1).rl (by decide)
  have hR3 : ∀ c ∈ g.rules.map ruleC, ∃ (a b : ByteArray) (k : Int), c = [.flat (.string a), .flat (.int .i64 k), .flat (.string b)] := fun c hc => by
    obtain ⟨r, _, rfl⟩ := List.mem_map.1 hc
    exact ⟨_, _, _, rfl⟩
  have hR4 : ∀ c ∈ g.rules.map ruleC, c.length = 3 := fun c hc => by
    obtain ⟨_, _, _, rfl⟩ := hR3 c hc; rfl
  have hcC := check_n g (gb_few h1)
  have h3 : decide ((12 : Int) < (g.prods.length : Int)) = false := by
    cases hd : decide ((12 : Int) < (g.prods.length : Int))
    · rfl
    · rw [hd] at h2; cases h2
  clear h1 h2 h
  unfold gramV gramL at *
  generalize g.rules.map ruleC = R at *
  generalize g.sorts.map strC = S at *
  generalize g.prods.map prodC = D at *
  generalize g.levels.map levC = V at *
  generalize g.start = start at *
  refine ncalls_symN tabF_ok fn22 rfl rfl rfl (by kernel_rfl) ?_
  have hfin : ∀ st, shOk isB (resA Try.prog Try.f22 st) = true → ∃ val rows, RS isB val rows ∧ G.Leaves Try.prog Try.f22 val rows st := fun st h => rs_leaves h
  rintro N hN ⟨lt, le, eq, se, ar, dv, una, conv, len, sln, nat, nth, ixs, cel, sto, app, cpy, slc, mak, ixv, oth, dk, ib, call⟩ hS hm Q hQ
  obtain ⟨hlt, hle, heq, hse, har, hdv, huna, hconv, hlen, hsln, hnat, hnth, hixs, hcel, hsto, happ, hcpy, hslc, hmak, hixv, hoth, hdk, hib, hcall⟩ := Sym.mk.inj hS
  clear hS
  have hnt : ∀ n : Nat, nat n = U.natI n := fun n => by rw [hnat]; rfl
  have hbox : ∀ e c off, cel (some ⟨e, [c]⟩) 0 off = if off ≤ c.length then some (c.drop off) else none := fun e c off => by rw [hcel]; rfl
  have hsbox : ∀ e c off sz y, sto (some ⟨e, [c]⟩) 0 off sz y = if y.cells.length = sz ∧ off + sz ≤ c.length ∧ y.cells.all AV.one = true then some ⟨e, [spl c off y.cells]⟩ else none := fun e c off sz y => by rw [hsto]; rfl
  have hcaw : ∀ {f args T base K}, CallK Try.prog f args T base K → call f args T base K := fun h => by rw [hcall]; exact h
  have hcal : ∀ {f args T base} {K : AV → Table → List Nat → List Nat → Prop}, (∃ args' ids val rows, Hands T ids args args' (val base) (rows base) ∧ ACalls Try.prog f args' val rows ∧ (rows base).length ≤ 8 ∧ K (val base) (adopt T base (rows base)) ids ((List.range (rows base).length).map (base + ·))) → call f args T base K := fun h => hcaw (call_own h)
  have hcn : ∀ {f args T base} {K : AV → Table → Prop}, CallN Try.prog T base f args K → N f args T base K := fun h => by rw [hN]; exact h
  have hsx : ∀ (s : ByteArray) (i : Int), s.size ≤ 1000000 → 0 ≤ i → lt i (sln s) = true → ∃ v, ixv 9 (.flat (.string s)) (.flat (.int .i64 i)) = some (.flat (.int .u8 v)) ∧ 0 ≤ v ∧ v < 256 ∧ ar .add .i64 i 1 = i + 1 ∧ 0 ≤ i + 1 ∧ (s.size - (i + 1).toNat < s.size - i.toNat) ∧ i < s.size := fun s i hs h0 hc => by
    rw [hlt, hsln] at hc
    rw [hixv, har]
    exact ix_next s hs h0 hc
  have hrx : ∀ (X : List (List AV)) (sz : Nat) (i : Int), (∀ c ∈ X, c.length = sz) → X.length ≤ 1000000 → 0 ≤ i → lt i (len X) = true → ∃ c ∈ X, nth X i sz = some (.rp c) ∧ ar .add .i64 i 1 = i + 1 ∧ 0 ≤ i + 1 ∧ (X.length - (i + 1).toNat < X.length - i.toNat) ∧ i < X.length := fun X sz i hX hl h0 hc => by
    rw [hlt, hlen] at hc
    rw [hnth, har]
    exact row_next X hX hl h0 hc
  have h4 : lt 12 (len D) = false := by rw [hlt, hlen, hDl]; exact h3
  have hrr := fun (i : Int) => hrx R 3 i hR4 hRl
  have hz0 : (0 : Int) ≤ 0 := Int.le_refl 0
  clear hDl h3 hrx hsx
  cbv
  repeat (first | (rw [hbox]; cbv) | (rw [hsbox]; cbv))
  refine .inl (hcal ⟨_, [], _, _, .inl ⟨rfl, by cbv⟩, hcF, by simp, ?_⟩)
  cbv
  repeat (first | (rw [hbox]; cbv) | (rw [hsbox]; cbv) | (rw [h4]; cbv))
  refine MW_loop hm [0] [1, 3] 4 (by simp) (fun mz st => ∃ (i : Int), 0 ≤ i ∧ mz = R.length - i.toNat ∧ st = stOf [.dead, .ptr 0 0 0, .dead, .flat (.int .i64 i)] [some ⟨39, [[.ro R, .ro S, .ro D, .ro V, .flat (.int .i64 start)]]⟩] 1) (R.length - (0 : Int).toNat) ?_ ?_
  · exact ⟨0, hz0, rfl, cut_eq (by cbv) (cutRows_cons (by rfl) (by simp [closedAll, closedIn]) rfl)⟩
  rintro mz st ⟨i, hi, hmz, rfl⟩
  cases hc : lt i (len R)
  · cbv
    repeat (first | (rw [hbox]; cbv) | (rw [hsbox]; cbv) | (rw [hc]; cbv))
    refine .inr (hcn ⟨_, [], _, hcC, .inl ⟨rfl, by cbv⟩, ?_⟩)
    rintro _ _ ⟨x0, hx0, rfl, rfl⟩
    obtain ⟨p0, w0, z0, rfl⟩ := isIII_of hx0
    refine ⟨Nat.zero_le _, ?_⟩
    cbv
    exact hQ _ _ trivial (hfin _ (by cbv))
  obtain ⟨c, hcm, q1, q2, q3, q4, q5⟩ := hrr i hi hc
  obtain ⟨sa, sb, sk, rfl⟩ := hR3 c hcm
  generalize i + 1 = i2 at q2 q3 q4
  generalize hse2 : sln sb = zb
  cases hd : lt 12 zb
  rotate_left
  · cbv
    repeat (first | (rw [hbox]; cbv) | (rw [hsbox]; cbv) | (rw [hc]; cbv) | (rw [q1]; cbv) | (rw [hse2]; cbv) | (rw [hd]; cbv))
    exact hQ _ _ trivial (hfin _ (by cbv))
  cbv
  repeat (first | (rw [hbox]; cbv) | (rw [hsbox]; cbv) | (rw [hc]; cbv) | (rw [q1]; cbv) | (rw [hse2]; cbv) | (rw [hd]; cbv))
  rw [q2]
  exact ⟨[0], [1, 3], 4, R.length - i2.toNat, hmz ▸ q4, by simp, i2, q3, rfl, cut_eq (by cbv) (cutRows_cons (by rfl) (by simp [closedAll, closedIn]) rfl)⟩
/-! ### fits -/
def fit1 (g : GramT) (x : ItemT) : Bool := bodyOk g x.prod && (!decide (x.dot < 0) && !decide (((bodyL g x.prod).length : Int) < x.dot))
def fitL (g : GramT) (l : List ItemT) : Bool := !decide ((10 : Int) < (l.length : Int)) && l.all (fit1 g)
theorem fits_calls (g : GramT) (l : List ItemT) : ACalls Try.prog 23 [gramV g, .ro (l.map itemC)] (fun _ => .flat (.bool (fitL g l))) (fun _ => []) := by
  obtain ⟨r, hr⟩ : ∃ r, r = fitL g l := ⟨_, rfl⟩
  have h1 : decide ((10 : Int) < (l.length : Int)) = true → r = false := fun h => by rw [hr]; unfold fitL; rw [h]; rfl
  have h2 : decide ((10 : Int) < (l.length : Int)) = false → l.all (fit1 g) = r := fun h => by rw [hr]; unfold fitL; rw [h]; rfl
  have hz := all_zero (fit1 g) l
  have hend : ∀ i, AllAt (fit1 g) l i → decide (i < (l.length : Int)) = false → l.all (fit1 g) = true := fun i h hc => all_end h hc
  have hstep : ∀ i, l.length ≤ 10 → AllAt (fit1 g) l i → decide (i < (l.length : Int)) = true → ∃ (p d look : Int) (ok : Bool) (BB : List (List AV)), nthE (l.map itemC) i 3 = some (.rp [.flat (.int .i64 p), .flat (.int .i64 d), .flat (.int .u64 look)]) ∧
      ACalls Try.prog 16 [gramV g, .flat (.int .i64 p)] (fun _ => .tup [.ro BB, .flat (.bool ok)]) (fun _ => []) ∧
      ((ok && (!decide (d < 0) && !decide (lenE BB < d))) = true → AllAt (fit1 g) l (i + 1)) ∧ ((ok && (!decide (d < 0) && !decide (lenE BB < d))) = false → l.all (fit1 g) = false) ∧ arI .add .i64 i 1 = i + 1 ∧ (l.length - (i + 1).toNat < l.length - i.toNat) := fun i hs h hc => by
    obtain ⟨_, h0, h1⟩ := at_lt h.1 hc
    have e : fit1 g (atI l i) = (bodyOk g (atI l i).prod && (!decide ((atI l i).dot < 0) && !decide (lenE ((bodyL g (atI l i).prod).map symC) < (atI l i).dot))) := by
      unfold fit1; rw [len_map]
    exact ⟨(atI l i).prod, (atI l i).dot, ((atI l i).look : Int), bodyOk g (atI l i).prod, (bodyL g (atI l i).prod).map symC, nth_map (f := itemC) (fun _ => rfl) h0 h1, refBody_calls g (atI l i).prod, fun q => all_step h hc (e.trans q), fun q => all_hit h hc (e.trans q), ar_add64 (by omega) (by omega), by omega⟩
  rw [← hr]
  clear hr
  have hXl : lenE (l.map itemC) = (l.length : Int) := len_map _ _
  generalize AllAt (fit1 g) l = AA at *
  generalize l.all (fit1 g) = al at *
  unfold gramV gramL at *
  generalize l.map itemC = X at *
  generalize g.rules.map ruleC = R at *
  generalize g.sorts.map strC = S at *
  generalize g.prods.map prodC = D at *
  generalize g.levels.map levC = V at *
  generalize g.start = start at *
  refine acalls_symF tabF_ok fn23 rfl rfl rfl (by kernel_rfl) ?_
  have hfin : ∀ st, resA Try.prog Try.f23 st = some (.flat (.bool r)) → G.Leaves Try.prog Try.f23 (fun _ => .flat (.bool r)) (fun _ => []) st := fun st h => G.Leaves.plain h rfl
  rintro ⟨lt, le, eq, se, ar, dv, una, conv, len, sln, nat, nth, ixs, cel, sto, app, cpy, slc, mak, ixv, oth, dk, ib, call⟩ hS hm Q hQ
  obtain ⟨hlt, hle, heq, hse, har, hdv, huna, hconv, hlen, hsln, hnat, hnth, hixs, hcel, hsto, happ, hcpy, hslc, hmak, hixv, hoth, hdk, hib, hcall⟩ := Sym.mk.inj hS
  clear hS
  have hnt : ∀ n : Nat, nat n = U.natI n := fun n => by rw [hnat]; rfl
  have hbox : ∀ e c off, cel (some ⟨e, [c]⟩) 0 off = if off ≤ c.length then some (c.drop off) else none := fun e c off => by rw [hcel]; rfl
  have hsbox : ∀ e c off sz y, sto (some ⟨e, [c]⟩) 0 off sz y = if y.cells.length = sz ∧ off + sz ≤ c.length ∧ y.cells.all AV.one = true then some ⟨e, [spl c off y.cells]⟩ else none := fun e c off sz y => by rw [hsto]; rfl
  have hcaw : ∀ {f args T base K}, CallK Try.prog f args T base K → call f args T base K := fun h => by rw [hcall]; exact h
  have hcal : ∀ {f args T base} {K : AV → Table → List Nat → List Nat → Prop}, (∃ args' ids val rows, Hands T ids args args' (val base) (rows base) ∧ ACalls Try.prog f args' val rows ∧ (rows base).length ≤ 8 ∧ K (val base) (adopt T base (rows base)) ids ((List.range (rows base).length).map (base + ·))) → call f args T base K := fun h => hcaw (call_own h)
  have g1 : lt 10 (len X) = decide ((10 : Int) < (l.length : Int)) := by rw [hlt, hlen, hXl]
  have hend2 : ∀ i, AA i → lt i (len X) = false → al = true := fun i h hc => hend i h (by rw [hlt, hlen, hXl] at hc; exact hc)
  have hstep2 : ∀ i, l.length ≤ 10 → AA i → lt i (len X) = true → ∃ (p d look i2 : Int) (ok : Bool) (BB : List (List AV)), nth X i 3 = some (.rp [.flat (.int .i64 p), .flat (.int .i64 d), .flat (.int .u64 look)]) ∧
      ACalls Try.prog 16 [.agg [.ro R, .ro S, .ro D, .ro V, .flat (.int .i64 start)], .flat (.int .i64 p)] (fun _ => .tup [.ro BB, .flat (.bool ok)]) (fun _ => []) ∧
      ((ok && (!lt d 0 && !lt (len BB) d)) = true → AA i2) ∧ ((ok && (!lt d 0 && !lt (len BB) d)) = false → al = false) ∧ ar .add .i64 i 1 = i2 ∧ (l.length - i2.toNat < l.length - i.toNat) := fun i hs h hc => by
    rw [hlt, hlen, hXl] at hc
    obtain ⟨p, d, look, ok, BB, q1, q2, q3, q4, q5, q6⟩ := hstep i hs h hc
    exact ⟨p, d, look, i + 1, ok, BB, by rw [hnth]; exact q1, q2, by rw [hlt, hlen]; exact q3, by rw [hlt, hlen]; exact q4, by rw [har]; exact q5, q6⟩
  have h3 : decide ((10 : Int) < (l.length : Int)) = false → l.length ≤ 10 := fun h => by have := of_decide_eq_false h; omega
  generalize decide ((10 : Int) < (l.length : Int)) = b10 at *
  clear hend hstep hXl
  cases b10
  rotate_left
  · obtain rfl := h1 rfl
    cbv
    rw [g1]; cbv
    exact hQ _ _ trivial (hfin _ (by cbv))
  have h2 := h2 rfl
  have h3 := h3 rfl
  have hstep2 := fun i => hstep2 i h3
  cbv
  rw [g1]; cbv
  refine MW_loop hm [0] [1, 2, 5] 6 (by simp) (fun mz st => ∃ (i : Int), AA i ∧ mz = l.length - i.toNat ∧ st = stOf [.dead, .ro X, .ptr 0 0 0, .dead, .dead, .flat (.int .i64 i)] [some ⟨39, [[.ro R, .ro S, .ro D, .ro V, .flat (.int .i64 start)]]⟩] 1) (l.length - (0 : Int).toNat) ?_ ?_
  · exact ⟨0, hz, rfl, cut_eq (by cbv) (cutRows_cons (by rfl) (by simp [closedAll, closedIn]) rfl)⟩
  rintro mz st ⟨i, hi, hmz, rfl⟩
  cases hc : lt i (len X)
  · obtain rfl := hend2 _ hi hc
    subst h2
    cbv
    rw [hc]; cbv
    exact hQ _ _ trivial (hfin _ (by cbv))
  obtain ⟨p, d, look, i2, ok, BB, q1, q2, q3, q4, q5, q6⟩ := hstep2 _ hi hc
  clear hend2 hstep2
  cases ok
  · obtain rfl := q4 rfl
    subst h2
    cbv
    rw [hc]; cbv
    refine ⟨by rw [hdk]; kernel_rfl, ?_⟩
    repeat (first | (rw [hbox]; cbv) | (rw [hsbox]; cbv) | (rw [q1]; cbv))
    refine hcal ⟨_, [], _, _, .inl ⟨rfl, by cbv⟩, q2, by simp, ?_⟩
    cbv
    repeat (first | (rw [hbox]; cbv) | (rw [hsbox]; cbv))
    refine ⟨by rw [hib]; kernel_rfl, ?_⟩
    cbv
    repeat (first | (rw [hbox]; cbv) | (rw [hsbox]; cbv) | (rw [q1]; cbv))
    exact hQ _ _ trivial (hfin _ (by cbv))
  cases e1 : lt d 0
  rotate_left
  · rw [e1] at q4
    obtain rfl := q4 rfl
    subst h2
    cbv
    rw [hc]; cbv
    refine ⟨by rw [hdk]; kernel_rfl, ?_⟩
    repeat (first | (rw [hbox]; cbv) | (rw [hsbox]; cbv) | (rw [q1]; cbv))
    refine hcal ⟨_, [], _, _, .inl ⟨rfl, by cbv⟩, q2, by simp, ?_⟩
    cbv
    repeat (first | (rw [hbox]; cbv) | (rw [hsbox]; cbv))
    refine ⟨by rw [hib]; kernel_rfl, ?_⟩
    cbv
    repeat (first | (rw [hbox]; cbv) | (rw [hsbox]; cbv) | (rw [q1]; cbv) | (rw [e1]; cbv))
    exact hQ _ _ trivial (hfin _ (by cbv))
  cases e2 : lt (len BB) d
  rotate_left
  · rw [e1, e2] at q4
    obtain rfl := q4 rfl
    subst h2
    cbv
    rw [hc]; cbv
    refine ⟨by rw [hdk]; kernel_rfl, ?_⟩
    repeat (first | (rw [hbox]; cbv) | (rw [hsbox]; cbv) | (rw [q1]; cbv))
    refine hcal ⟨_, [], _, _, .inl ⟨rfl, by cbv⟩, q2, by simp, ?_⟩
    cbv
    repeat (first | (rw [hbox]; cbv) | (rw [hsbox]; cbv))
    refine ⟨by rw [hib]; kernel_rfl, ?_⟩
    cbv
    repeat (first | (rw [hbox]; cbv) | (rw [hsbox]; cbv) | (rw [q1]; cbv) | (rw [e1]; cbv) | (rw [e2]; cbv))
    exact hQ _ _ trivial (hfin _ (by cbv))
  rw [e1, e2] at q3
  have q3 := q3 rfl
  clear q4
  cbv
  rw [hc]; cbv
  refine ⟨by rw [hdk]; kernel_rfl, ?_⟩
  repeat (first | (rw [hbox]; cbv) | (rw [hsbox]; cbv) | (rw [q1]; cbv))
  refine hcal ⟨_, [], _, _, .inl ⟨rfl, by cbv⟩, q2, by simp, ?_⟩
  cbv
  repeat (first | (rw [hbox]; cbv) | (rw [hsbox]; cbv))
  refine ⟨by rw [hib]; kernel_rfl, ?_⟩
  cbv
  repeat (first | (rw [hbox]; cbv) | (rw [hsbox]; cbv) | (rw [q1]; cbv) | (rw [e1]; cbv) | (rw [e2]; cbv))
  rw [q5]
  exact ⟨[0], [1, 2, 5], 6, l.length - i2.toNat, hmz ▸ q6, by simp, i2, q3, rfl, cut_eq (by cbv) (cutRows_cons (by rfl) (by simp [closedAll, closedIn]) rfl)⟩
end Go.Proofs.Ytnceadbfgpiaaaa.C
