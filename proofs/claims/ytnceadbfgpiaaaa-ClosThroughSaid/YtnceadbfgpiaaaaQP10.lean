/- Contracts: clos.Through, the law ClosThrough. -/
import Derived.Test.YtnceadbfgpiaaaaQC11
import Derived.Test.YtnceadbfgpiaaaaQP5
namespace Go.Proofs.Ytnceadbfgpiaaaa.C
open Go G U K I J F N
set_option linter.unusedVariables false
set_option linter.unusedSimpArgs false
set_option maxRecDepth 100000
set_option maxHeartbeats 4000000
theorem fn29 : Try.prog.funcs[29]? = some Try.f29 := by kernel_rfl
theorem fn6 : Try.prog.funcs[6]? = some Try.f6 := by kernel_rfl
theorem through_calls {R SS D V EE FF X0 Rw O0 RR : List (List AV)} {start : Int} {n0 rn nr : Nat} {TA : Int → List (List AV) → Nat → Prop} (H : ThF (fun a b => decide (a < b)) (fun a b => decide (a = b)) lenE nthE arI natI (.agg [.ro R, .ro SS, .ro D, .ro V, .flat (.int .i64 start)]) EE FF X0 Rw O0 RR n0 rn nr TA) (hRc : ∀ c ∈ RR, closedAll [] c = true) :
    ACalls Try.prog 29 [.agg [.ro R, .ro SS, .ro D, .ro V, .flat (.int .i64 start)], .agg [.ro EE, .ro FF], .ro Rw] (fun k => .sl k 0 rn) (fun _ => [⟨28, RR⟩]) := by
  refine acalls_symF tabF_ok fn29 rfl rfl rfl (by kernel_rfl) ?_
  rintro ⟨lt, le, eq, se, ar, dv, una, conv, len, sln, nat, nth, ixs, cel, sto, app, cpy, slc, mak, ixv, oth, dk, ib, call⟩ hS hm Q hQ
  obtain ⟨hlt, hle, heq, hse, har, hdv, huna, hconv, hlen, hsln, hnat, hnth, hixs, hcel, hsto, happ, hcpy, hslc, hmak, hixv, hoth, hdk, hib, hcall⟩ := Sym.mk.inj hS
  clear hS
  have hnt : ∀ n : Nat, nat n = U.natI n := fun n => by rw [hnat]; rfl
  have hbox : ∀ e c off, cel (some ⟨e, [c]⟩) 0 off = if off ≤ c.length then some (c.drop off) else none := fun e c off => by rw [hcel]; rfl
  have hsbox : ∀ e c off sz y, sto (some ⟨e, [c]⟩) 0 off sz y = if y.cells.length = sz ∧ off + sz ≤ c.length ∧ y.cells.all AV.one = true then some ⟨e, [spl c off y.cells]⟩ else none := fun e c off sz y => by rw [hsto]; rfl
  have hcaw : ∀ {f args T base K}, CallK Try.prog f args T base K → call f args T base K := fun h => by rw [hcall]; exact h
  have hcal : ∀ {f args T base} {K : AV → Table → List Nat → List Nat → Prop}, (∃ args' ids val rows, Hands T ids args args' (val base) (rows base) ∧ ACalls Try.prog f args' val rows ∧ (rows base).length ≤ 8 ∧ K (val base) (adopt T base (rows base)) ids ((List.range (rows base).length).map (base + ·))) → call f args T base K := fun h => hcaw (call_own h)
  replace H : ThF lt eq len nth ar nat (.agg [.ro R, .ro SS, .ro D, .ro V, .flat (.int .i64 start)]) EE FF X0 Rw O0 RR n0 rn nr TA := by rw [hlt, heq, hlen, hnth, har, hnat]; exact H
  obtain ⟨z, s1, s2, c1, c2, fx, fl, cl, fin, rnd⟩ := H
  clear s2 c2
  cbv
  refine ⟨by rw [hdk]; kernel_rfl, ?_⟩
  repeat (first | (rw [hbox]; cbv) | (rw [hsbox]; cbv))
  refine hcal ⟨_, [], _, _, .inl ⟨rfl, by cbv⟩, s1, by simp, ?_⟩
  cbv
  repeat (first | (rw [hbox]; cbv) | (rw [hsbox]; cbv))
  refine hcal ⟨[.agg [.ro R, .ro SS, .ro D, .ro V, .flat (.int .i64 start)], .agg [.ro EE, .ro FF], .ro X0], [48], _, _, hands_deep ⟨deep_agg ⟨.id rfl, .id rfl, .id rfl, .id rfl, .id rfl, trivial⟩, deep_agg ⟨.id rfl, .id rfl, trivial⟩, deep_row (by simp) (by rfl) fx.2 fx.1.read, trivial⟩ rfl (noRo_flat (fl _ _ _ z).1), c1, by simp, ?_⟩
  cbv
  repeat (first | (rw [hbox]; cbv) | (rw [hsbox]; cbv))
  refine ⟨by rw [hib]; kernel_rfl, ?_⟩
  cbv
  refine MW_loop hm [0, 8, 56] [3, 4, 7, 15, 16, 17] 18 (by simp) (fun mz st => ∃ (i : Int) (O : List (List AV)) (n : Nat), TA i O n ∧ mz = nr - i.toNat ∧ st = stOf [.dead, .dead, .dead, .ptr 0 0 0, .ptr 1 0 0, .dead, .dead, .sl 2 0 n, .dead, .dead, .dead, .dead, .dead, .dead, .dead, .ro Rw, .flat (.int .i64 (len Rw)), .flat (.int .i64 i)] [some ⟨39, [[.ro R, .ro SS, .ro D, .ro V, .flat (.int .i64 start)]]⟩, some ⟨56, [[.ro EE, .ro FF]]⟩, some ⟨28, O⟩] 3) (nr - (0 : Int).toNat) ?_ ?_
  · exact ⟨0, O0, n0, z, rfl, cut_eq (by cbv) (cutRows_cons (by rfl) (by simp [closedAll, closedIn]) (cutRows_cons (by rfl) (by simp [closedAll, closedIn]) (cutRows_cons (by rfl) (cl _ _ _ z) rfl)))⟩
  rintro mz st ⟨i, O, n, hi, hmz, rfl⟩
  obtain ⟨l1, l2⟩ := fl i O n hi
  cases hc : lt i (len Rw)
  · obtain ⟨rfl, rfl⟩ := fin _ _ _ hi hc
    cbv
    rw [hc]; cbv
    exact hQ _ _ trivial (leaves_own (by cbv) (by rfl) hRc)
  obtain ⟨sb, sv, i2, G1, O2, n1, n2, q1, q2, q3, q4, q5, q6, q7, q8, q9, q10, q11, q12⟩ := rnd _ _ _ hi hc
  clear fin rnd q3 q7
  cases e0 : eq (nat n2) 0
  rotate_left
  · obtain ⟨e1, e2⟩ := q11 e0
    cbv
    rw [hc]; cbv
    repeat (first | (rw [hbox]; cbv) | (rw [hsbox]; cbv) | (rw [q1]; cbv))
    refine ⟨by rw [hdk]; kernel_rfl, ?_⟩
    repeat (first | (rw [hbox]; cbv) | (rw [hsbox]; cbv))
    refine hcal ⟨[.agg [.ro R, .ro SS, .ro D, .ro V, .flat (.int .i64 start)], .ro O, .agg [.flat (.bool sb), .flat (.int .i64 sv)]], [2], _, _, hands_deep ⟨deep_agg ⟨.id rfl, .id rfl, .id rfl, .id rfl, .id rfl, trivial⟩, deep_row (by simp) (by rfl) l2 l1.read, deep_agg ⟨.id rfl, .id rfl, trivial⟩, trivial⟩ rfl (noRo_flat q4), q2, by simp, ?_⟩
    cbv
    repeat (first | (rw [hbox]; cbv) | (rw [hsbox]; cbv))
    refine hcal ⟨[.agg [.ro R, .ro SS, .ro D, .ro V, .flat (.int .i64 start)], .agg [.ro EE, .ro FF], .ro G1], [83], _, _, hands_deep ⟨deep_agg ⟨.id rfl, .id rfl, .id rfl, .id rfl, .id rfl, trivial⟩, deep_agg ⟨.id rfl, .id rfl, trivial⟩, deep_row (by simp) (by rfl) q5 q4.read, trivial⟩ rfl (noRo_flat q8), q6, by simp, ?_⟩
    cbv
    repeat (first | (rw [hbox]; cbv) | (rw [hsbox]; cbv))
    refine ⟨by rw [hib]; kernel_rfl, ?_⟩
    cbv
    repeat (first | (rw [hbox]; cbv) | (rw [hsbox]; cbv) | (rw [e0]; cbv))
    exact hQ _ _ trivial (leaves_nil 6 rfl (by rfl) e1 e2)
  cbv
  rw [hc]; cbv
  repeat (first | (rw [hbox]; cbv) | (rw [hsbox]; cbv) | (rw [q1]; cbv))
  refine ⟨by rw [hdk]; kernel_rfl, ?_⟩
  repeat (first | (rw [hbox]; cbv) | (rw [hsbox]; cbv))
  refine hcal ⟨[.agg [.ro R, .ro SS, .ro D, .ro V, .flat (.int .i64 start)], .ro O, .agg [.flat (.bool sb), .flat (.int .i64 sv)]], [2], _, _, hands_deep ⟨deep_agg ⟨.id rfl, .id rfl, .id rfl, .id rfl, .id rfl, trivial⟩, deep_row (by simp) (by rfl) l2 l1.read, deep_agg ⟨.id rfl, .id rfl, trivial⟩, trivial⟩ rfl (noRo_flat q4), q2, by simp, ?_⟩
  cbv
  repeat (first | (rw [hbox]; cbv) | (rw [hsbox]; cbv))
  refine hcal ⟨[.agg [.ro R, .ro SS, .ro D, .ro V, .flat (.int .i64 start)], .agg [.ro EE, .ro FF], .ro G1], [83], _, _, hands_deep ⟨deep_agg ⟨.id rfl, .id rfl, .id rfl, .id rfl, .id rfl, trivial⟩, deep_agg ⟨.id rfl, .id rfl, trivial⟩, deep_row (by simp) (by rfl) q5 q4.read, trivial⟩ rfl (noRo_flat q8), q6, by simp, ?_⟩
  cbv
  repeat (first | (rw [hbox]; cbv) | (rw [hsbox]; cbv))
  refine ⟨by rw [hib]; kernel_rfl, ?_⟩
  cbv
  repeat (first | (rw [hbox]; cbv) | (rw [hsbox]; cbv) | (rw [e0]; cbv))
  rw [q9]
  exact ⟨[0, 1, 91], [3, 4, 7, 15, 16, 17], 18, nr - i2.toNat, hmz ▸ q10, by simp, i2, O2, n2, q12, rfl, cut_eq (by cbv) (cutRows_cons (by rfl) (by simp [closedAll, closedIn]) (cutRows_cons (by rfl) (by simp [closedAll, closedIn]) (cutRows_cons (by rfl) (cl _ _ _ q12) rfl)))⟩
theorem closThrough_calls (g : GramT) (row : List SymT) : ACalls Try.prog 6 [gramV g, .ro (row.map symC)] (fun _ => .flat (.bool true)) (fun _ => []) := by
  have hcA := awake25_calls
  have hcL := light_no g
  have hcN := light_n g
  have hXl : lenE (row.map symC) = (row.length : Int) := len_map _ _
  have hz : lightG g = true → row.length ≤ 12 → ∃ (EE FF X0 O0 RR : List (List AV)) (ns n0 rn nr : Nat) (TA : Int → List (List AV) → Nat → Prop), ThF (fun a b => decide (a < b)) (fun a b => decide (a = b)) lenE nthE arI natI (gramV g) EE FF X0 (row.map symC) O0 RR n0 rn nr TA ∧
      ns = EE.length ∧ ns = FF.length ∧ flatRow EE ∧ flatRow FF ∧ flatRow RR ∧ rn = RR.length ∧
      ACalls Try.prog 24 [gramV g] (fun k => .agg [.sl k 0 ns, .sl (k + 1) 0 ns]) (fun _ => [⟨4, EE⟩, ⟨26, FF⟩]) ∧ ACalls Try.prog 29 [gramV g, .agg [.ro EE, .ro FF], .ro (row.map symC)] (fun k => .sl k 0 rn) (fun _ => [⟨28, RR⟩]) ∧
      ACalls Try.prog 11 [.ro RR] (fun k => .sl k 0 rn) (fun _ => [⟨41, RR⟩]) ∧ ACalls Try.prog 10 [.ro RR, .ro RR] (fun _ => .flat (.bool true)) (fun _ => []) := fun h1 hr => by
    obtain ⟨hfew, h2⟩ := Bool.and_eq_true_iff.1 h1
    have hG := gb_few hfew
    have hb : ∀ p ∈ g.prods, p.body.length ≤ 1000 := fun p hp => (hG.p p hp).2.1
    rw [Bool.not_eq_true'] at h2
    have hpl : g.prods.length ≤ 12 := by have := of_decide_eq_false h2; omega
    obtain ⟨W, TA, H, hbig⟩ := thF_ok (g := g) row hG.sl hpl hb hr
    have hok := first_ok g.prods g.sorts.length
    have hek := empty_ok g.prods g.sorts.length
    have hRc : ∀ c ∈ (W row.length).map itemC, closedAll [] c = true := closed_map fun _ => rfl
    have hT := through_calls H hRc
    have e5 := J.refSame_calls (W row.length) (W row.length) hbig
    rw [decide_eq_true rfl] at e5
    exact ⟨_, _, _, _, (W row.length).map itemC, g.sorts.length, _, (W row.length).length, _, TA, H, by rw [List.length_map]; exact hek.1.1.symm, by rw [List.length_map]; exact hok.1.1.1.symm, flat_bool _, flat_set _, flat_item _, (List.length_map ..).symm, F.of_calls g hG.sl (by omega) hb, hT, J.ref_calls (W row.length) hbig, e5⟩
  have hr12 : decide ((12 : Int) < lenE (row.map symC)) = false → row.length ≤ 12 := fun h => by
    rw [hXl] at h
    have := of_decide_eq_false h
    omega
  clear hXl
  generalize row.map symC = Rw at *
  generalize lightG g = lg at *
  unfold gramV gramL at *
  generalize g.rules.map ruleC = R at *
  generalize g.sorts.map strC = SS at *
  generalize g.prods.map prodC = D at *
  generalize g.levels.map levC = V at *
  generalize g.start = start at *
  refine acalls_symN tabF_ok fn6 rfl rfl rfl (by kernel_rfl) ?_
  have hfin : ∀ st, resA Try.prog Try.f6 st = some (.flat (.bool true)) → G.Leaves Try.prog Try.f6 (fun _ => .flat (.bool true)) (fun _ => []) st := fun st h => G.Leaves.plain h rfl
  rintro N hN ⟨lt, le, eq, se, ar, dv, una, conv, len, sln, nat, nth, ixs, cel, sto, app, cpy, slc, mak, ixv, oth, dk, ib, call⟩ hS hm Q hQ
  obtain ⟨hlt, hle, heq, hse, har, hdv, huna, hconv, hlen, hsln, hnat, hnth, hixs, hcel, hsto, happ, hcpy, hslc, hmak, hixv, hoth, hdk, hib, hcall⟩ := Sym.mk.inj hS
  clear hS
  have hnt : ∀ n : Nat, nat n = U.natI n := fun n => by rw [hnat]; rfl
  have hbox : ∀ e c off, cel (some ⟨e, [c]⟩) 0 off = if off ≤ c.length then some (c.drop off) else none := fun e c off => by rw [hcel]; rfl
  have hsbox : ∀ e c off sz y, sto (some ⟨e, [c]⟩) 0 off sz y = if y.cells.length = sz ∧ off + sz ≤ c.length ∧ y.cells.all AV.one = true then some ⟨e, [spl c off y.cells]⟩ else none := fun e c off sz y => by rw [hsto]; rfl
  have hcaw : ∀ {f args T base K}, CallK Try.prog f args T base K → call f args T base K := fun h => by rw [hcall]; exact h
  have hcal : ∀ {f args T base} {K : AV → Table → List Nat → List Nat → Prop}, (∃ args' ids val rows, Hands T ids args args' (val base) (rows base) ∧ ACalls Try.prog f args' val rows ∧ (rows base).length ≤ 8 ∧ K (val base) (adopt T base (rows base)) ids ((List.range (rows base).length).map (base + ·))) → call f args T base K := fun h => hcaw (call_own h)
  have hcn : ∀ {f args T base} {K : AV → Table → Prop}, CallN Try.prog T base f args K → N f args T base K := fun h => by rw [hN]; exact h
  have hsx : ∀ (s : ByteArray) (i : Int), s.size ≤ 1000000 → 0 ≤ i → lt i (sln s) = true → ∃ v, ixv 9 (.flat (.string s)) (.flat (.int .i64 i)) = some (.flat (.int .u8 v)) ∧ 0 ≤ v ∧ v < 256 ∧ ar .add .i64 i 1 = i + 1 ∧ 0 ≤ i + 1 ∧ (s.size - (i + 1).toNat < s.size - i.toNat) ∧ i < s.size := fun s i hs h0 hc => by
    rw [hlt, hsln] at hc
    rw [hixv, har]
    exact ix_next s hs h0 hc
  have hrx : ∀ (X : List (List AV)) (sz : Nat) (i : Int), (∀ c ∈ X, c.length = sz) → X.length ≤ 1000000 → 0 ≤ i → lt i (len X) = true → ∃ c ∈ X, nth X i sz = some (.rp c) ∧ ar .add .i64 i 1 = i + 1 ∧ 0 ≤ i + 1 ∧ (X.length - (i + 1).toNat < X.length - i.toNat) ∧ i < X.length := fun X sz i hX hl h0 hc => by
    rw [hlt, hlen] at hc
    rw [hnth, har]
    exact row_next X hX hl h0 hc
  replace hr12 : lt 12 (len Rw) = false → row.length ≤ 12 := fun h => hr12 (by rw [hlt, hlen] at h; exact h)
  clear hsx hrx
  cases lg
  · have hcL := hcL rfl
    clear hcN hz
    cbv
    repeat (first | (rw [hbox]; cbv) | (rw [hsbox]; cbv))
    refine .inl (hcal ⟨_, [], _, _, .inl ⟨rfl, by cbv⟩, hcA, by simp, ?_⟩)
    cbv
    repeat (first | (rw [hbox]; cbv) | (rw [hsbox]; cbv))
    refine .inl (hcal ⟨_, [], _, _, .inl ⟨rfl, by cbv⟩, hcL, by simp, ?_⟩)
    cbv
    repeat (first | (rw [hbox]; cbv) | (rw [hsbox]; cbv))
    exact hQ _ _ trivial (hfin _ (by cbv))
  have hcN := hcN rfl
  have hz := hz rfl
  clear hcL
  cbv
  repeat (first | (rw [hbox]; cbv) | (rw [hsbox]; cbv))
  refine .inl (hcal ⟨_, [], _, _, .inl ⟨rfl, by cbv⟩, hcA, by simp, ?_⟩)
  cbv
  repeat (first | (rw [hbox]; cbv) | (rw [hsbox]; cbv))
  refine .inr (hcn ⟨_, [], _, hcN, .inl ⟨rfl, by cbv⟩, ?_⟩)
  rintro _ _ ⟨x0, hx0, rfl, rfl⟩
  obtain ⟨b, rfl⟩ := isB_of hx0
  refine ⟨Nat.zero_le _, ?_⟩
  cbv
  cases b
  · cbv
    repeat (first | (rw [hbox]; cbv) | (rw [hsbox]; cbv))
    exact hQ _ _ trivial (hfin _ (by cbv))
  cases h12 : lt 12 (len Rw)
  rotate_left
  · cbv
    repeat (first | (rw [hbox]; cbv) | (rw [hsbox]; cbv) | (rw [h12]; cbv))
    exact hQ _ _ trivial (hfin _ (by cbv))
  obtain ⟨EE, FF, X0, O0, RR, ns, n0, rn, nr, TA, H, y1, y2, y3, y4, y5, y6, y7, y8, y9, y10⟩ := hz (hr12 h12)
  replace H : ThF lt eq len nth ar nat (.agg [.ro R, .ro SS, .ro D, .ro V, .flat (.int .i64 start)]) EE FF X0 Rw O0 RR n0 rn nr TA := by rw [hlt, heq, hlen, hnth, har, hnat]; exact H
  obtain ⟨z, s1, s2, c1, c2, fx, fl, cl, fin, rnd⟩ := H
  clear s1 c1 hcN hcA hz hr12
  cbv
  repeat (first | (rw [hbox]; cbv) | (rw [hsbox]; cbv) | (rw [h12]; cbv))
  refine ⟨by rw [hdk]; kernel_rfl, ?_⟩
  repeat (first | (rw [hbox]; cbv) | (rw [hsbox]; cbv))
  refine hcal ⟨_, [], _, _, .inl ⟨rfl, by cbv⟩, s2, by simp, ?_⟩
  cbv
  repeat (first | (rw [hbox]; cbv) | (rw [hsbox]; cbv))
  refine hcal ⟨[.agg [.ro R, .ro SS, .ro D, .ro V, .flat (.int .i64 start)], .ro X0], [112], _, _, hands_deep ⟨deep_agg ⟨.id rfl, .id rfl, .id rfl, .id rfl, .id rfl, trivial⟩, deep_row (by simp) (by rfl) fx.2 fx.1.read, trivial⟩ rfl (noRo_flat (fl _ _ _ z).1), c2, by simp, ?_⟩
  cbv
  repeat (first | (rw [hbox]; cbv) | (rw [hsbox]; cbv))
  refine ⟨by rw [hib]; kernel_rfl, ?_⟩
  cbv
  repeat (first | (rw [hbox]; cbv) | (rw [hsbox]; cbv))
  refine MW_loop hm [0, 120] [1, 2, 5, 6] 7 (by simp) (fun mz st => ∃ (i : Int) (O : List (List AV)) (n : Nat), TA i O n ∧ mz = nr - i.toNat ∧ st = stOf [.dead, .ro Rw, .ptr 0 0 0, .dead, .dead, .sl 1 0 n, .flat (.int .i64 i)] [some ⟨39, [[.ro R, .ro SS, .ro D, .ro V, .flat (.int .i64 start)]]⟩, some ⟨41, O⟩] 2) (nr - (0 : Int).toNat) ?_ ?_
  · exact ⟨0, O0, n0, z, rfl, cut_eq (by cbv) (cutRows_cons (by rfl) (by simp [closedAll, closedIn]) (cutRows_cons (by rfl) (cl _ _ _ z) rfl))⟩
  rintro mz st ⟨i, O, n, hi, hmz, rfl⟩
  obtain ⟨l1, l2⟩ := fl i O n hi
  cases hc : lt i (len Rw)
  · obtain ⟨rfl, rfl⟩ := fin _ _ _ hi hc
    cbv
    rw [hc]; cbv
    refine ⟨by rw [hdk]; kernel_rfl, ?_⟩
    repeat (first | (rw [hbox]; cbv) | (rw [hsbox]; cbv))
    refine hcal ⟨_, [], _, _, .inl ⟨rfl, by cbv⟩, y7, by simp, ?_⟩
    cbv
    repeat (first | (rw [hbox]; cbv) | (rw [hsbox]; cbv))
    refine hcal ⟨[.agg [.ro R, .ro SS, .ro D, .ro V, .flat (.int .i64 start)], .agg [.ro EE, .ro FF], .ro Rw], [50, 51], _, _, hands_deep ⟨deep_agg ⟨.id rfl, .id rfl, .id rfl, .id rfl, .id rfl, trivial⟩, deep_agg ⟨deep_row (by simp) (by rfl) y1 y3.read, deep_row (by simp) (by rfl) y2 y4.read, trivial⟩, .id rfl, trivial⟩ rfl (noRo_flat y5), y8, by simp, ?_⟩
    cbv
    repeat (first | (rw [hbox]; cbv) | (rw [hsbox]; cbv))
    refine hcal ⟨[.ro O], [66], _, _, hands_deep ⟨deep_row (by simp) (by rfl) y6 y5.read, trivial⟩ rfl (noRo_flat y5), y9, by simp, ?_⟩
    cbv
    repeat (first | (rw [hbox]; cbv) | (rw [hsbox]; cbv))
    refine hcal ⟨[.ro O, .ro O], [74, 1], _, _, hands_deep ⟨deep_row (by simp) (by rfl) y6 y5.read, deep_row (by simp) (by rfl) y6 y5.read, trivial⟩ rfl (fun r hr => by cases hr), y10, by simp, ?_⟩
    cbv
    repeat (first | (rw [hbox]; cbv) | (rw [hsbox]; cbv))
    refine ⟨by rw [hib]; kernel_rfl, ?_⟩
    cbv
    repeat (first | (rw [hbox]; cbv) | (rw [hsbox]; cbv))
    exact hQ _ _ trivial (hfin _ (by cbv))
  obtain ⟨sb, sv, i2, G1, O2, n1, n2, q1, q2, q3, q4, q5, q6, q7, q8, q9, q10, q11, q12⟩ := rnd _ _ _ hi hc
  clear fin rnd q2 q6 q11
  cbv
  rw [hc]; cbv
  refine ⟨by rw [hdk]; kernel_rfl, ?_⟩
  repeat (first | (rw [hbox]; cbv) | (rw [hsbox]; cbv) | (rw [q1]; cbv))
  refine hcal ⟨[.agg [.ro R, .ro SS, .ro D, .ro V, .flat (.int .i64 start)], .ro O, .agg [.flat (.bool sb), .flat (.int .i64 sv)]], [1], _, _, hands_deep ⟨deep_agg ⟨.id rfl, .id rfl, .id rfl, .id rfl, .id rfl, trivial⟩, deep_row (by simp) (by rfl) l2 l1.read, deep_agg ⟨.id rfl, .id rfl, trivial⟩, trivial⟩ rfl (noRo_flat q4), q3, by simp, ?_⟩
  cbv
  repeat (first | (rw [hbox]; cbv) | (rw [hsbox]; cbv))
  refine hcal ⟨[.agg [.ro R, .ro SS, .ro D, .ro V, .flat (.int .i64 start)], .ro G1], [90], _, _, hands_deep ⟨deep_agg ⟨.id rfl, .id rfl, .id rfl, .id rfl, .id rfl, trivial⟩, deep_row (by simp) (by rfl) q5 q4.read, trivial⟩ rfl (noRo_flat q8), q7, by simp, ?_⟩
  cbv
  repeat (first | (rw [hbox]; cbv) | (rw [hsbox]; cbv))
  refine ⟨by rw [hib]; kernel_rfl, ?_⟩
  cbv
  repeat (first | (rw [hbox]; cbv) | (rw [hsbox]; cbv))
  rw [q9]
  exact ⟨[0, 98], [1, 2, 5, 6], 7, nr - i2.toNat, hmz ▸ q10, by simp, i2, O2, n2, q12, rfl, cut_eq (by cbv) (cutRows_cons (by rfl) (by simp [closedAll, closedIn]) (cutRows_cons (by rfl) (cl _ _ _ q12) rfl))⟩
end Go.Proofs.Ytnceadbfgpiaaaa.C
