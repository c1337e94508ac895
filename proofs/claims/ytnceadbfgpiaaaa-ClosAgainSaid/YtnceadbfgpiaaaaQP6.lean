/- Contracts: the law ClosAgain. -/
import Derived.Test.YtnceadbfgpiaaaaQP5
namespace Go.Proofs.Ytnceadbfgpiaaaa.C
open Go G U K I J F N
set_option linter.unusedVariables false
set_option linter.unusedSimpArgs false
set_option maxRecDepth 100000
set_option maxHeartbeats 4000000
theorem fn5 : Try.prog.funcs[5]? = some Try.f5 := by kernel_rfl
theorem closAgain_calls (g : GramT) (l : List ItemT) (x : ItemT) (hl : ∀ y ∈ l, okI64 y) (hx : okI64 x) : ACalls Try.prog 5 [gramV g, .ro (l.map itemC), .agg (itemC x)] (fun _ => .flat (.bool true)) (fun _ => []) := by
  have hcA := awake25_calls
  have hcL := light_no g
  have hcN := light_n g
  have hf1 := fits_calls g l
  have hf2 := fits_calls g [x]
  have hz : lightG g = true → fitL g l = true → ∃ (EE FF RA RB : List (List AV)) (ns na nb : Nat), ns = EE.length ∧ ns = FF.length ∧ flatRow EE ∧ flatRow FF ∧ na = RA.length ∧ nb = RB.length ∧ flatRow RA ∧ flatRow RB ∧
      na ≤ 100000 ∧ nb ≤ 100000 ∧ (l.map itemC).length ≤ 10 ∧ (∀ c ∈ RA, c.length = 3) ∧ (∀ c ∈ RB, c.length = 3) ∧
      ACalls Try.prog 24 [gramV g] (fun k => .agg [.sl k 0 ns, .sl (k + 1) 0 ns]) (fun _ => [⟨4, EE⟩, ⟨26, FF⟩]) ∧
      ACalls Try.prog 25 [gramV g, .agg [.ro EE, .ro FF], .ro (l.map itemC)] (fun k => .sl k 0 na) (fun _ => [⟨28, RA⟩]) ∧
      ACalls Try.prog 25 [gramV g, .agg [.ro EE, .ro FF], .ro (l.map itemC ++ [itemC x])] (fun k => .sl k 0 nb) (fun _ => [⟨28, RB⟩]) ∧
      ACalls Try.prog 25 [gramV g, .agg [.ro EE, .ro FF], .ro RA] (fun k => .sl k 0 na) (fun _ => [⟨28, RA⟩]) ∧
      ACalls Try.prog 9 [.ro (RA ++ RB)] (fun k => .sl k 0 nb) (fun _ => [⟨28, RB⟩]) ∧
      ACalls Try.prog 13 [.ro RA, .ro RA] (fun _ => .flat (.bool true)) (fun _ => []) ∧ ACalls Try.prog 13 [.ro RB, .ro RB] (fun _ => .flat (.bool true)) (fun _ => []) := fun h1 h2 => by
    have hfew : fewG g = true := (Bool.and_eq_true_iff.1 h1).1
    have hG := gb_few hfew
    have hb : ∀ p ∈ g.prods, p.body.length ≤ 1000 := fun p hp => (hG.p p hp).2.1
    have hll : l.length ≤ 10 := by
      have h3 := (Bool.and_eq_true_iff.1 h2).1
      rw [Bool.not_eq_true'] at h3
      have := of_decide_eq_false h3
      omega
    have hok := first_ok g.prods g.sorts.length
    have hek := empty_ok g.prods g.sorts.length
    have hF : Sets (firstT g.prods g.sorts.length) := hok.1.2
    have hpl := hG.pl
    obtain ⟨A, a1, a2, a3⟩ := cl_ex g (emptyT g.prods g.sorts.length) (firstT g.prods g.sorts.length) l hF hl
    have hlx : ∀ y ∈ l ++ [x], okI64 y := fun y hy => by
      rcases List.mem_append.1 hy with h | h
      · exact hl y h
      · rw [List.mem_singleton.1 h]; exact hx
    obtain ⟨B, b1, b2, b3⟩ := cl_ex g (emptyT g.prods g.sorts.length) (firstT g.prods g.sorts.length) (l ++ [x]) hF hlx
    obtain ⟨A2, c1, _, _⟩ := cl_ex g (emptyT g.prods g.sorts.length) (firstT g.prods g.sorts.length) A hF a2
    obtain rfl : A2 = A := cl_again a1 c1
    have hlx2 : (l ++ [x]).length = l.length + 1 := by simp
    have e1 := close_calls g _ _ l A2 hF hpl hb (by omega) hl a1
    have e2 := close_calls g _ _ (l ++ [x]) B hF hpl hb (by omega) hlx b1
    have e3 := close_calls g _ _ A2 A2 hF hpl hb (by omega) a2 c1
    have e4 := J.of_calls (A2 ++ B) (by rw [List.length_append]; omega) fun y hy => (List.mem_append.1 hy).elim (a2 y) (b2 y)
    rw [cl_more a1 b1, List.map_append] at e4
    have e5 := J.itemSame_calls A2 A2 (by omega)
    have e6 := J.itemSame_calls B B (by omega)
    rw [decide_eq_true rfl] at e5 e6
    rw [List.map_append] at e2
    exact ⟨_, _, A2.map itemC, B.map itemC, g.sorts.length, A2.length, B.length, by rw [List.length_map]; exact hek.1.1.symm, by rw [List.length_map]; exact hok.1.1.1.symm, flat_bool _, flat_set _, (List.length_map ..).symm, (List.length_map ..).symm, flat_item _, flat_item _, by omega, by omega, by rw [List.length_map]; exact hll, len3 rfl, len3 rfl,
      F.of_calls g hG.sl hpl hb, e1, e2, e3, e4, e5, e6⟩
  have hXx : readRow [itemC x] := (flat_item [x]).read
  have hfX := flat_item (l ++ [x])
  rw [List.map_append] at hfX
  change flatRow (l.map itemC ++ [itemC x]) at hfX
  have h3 := len3 (Y := l.map itemC) rfl
  change ACalls Try.prog 23 [gramV g, .ro [itemC x]] _ _ at hf2
  generalize hXe : l.map itemC = X at *
  obtain ⟨p, d, lk⟩ := x
  unfold itemC at *
  dsimp only at *
  generalize (lk : Int) = lkI at *
  clear hXe
  generalize lightG g = lg at *
  generalize fitL g l = fl at *
  generalize fitL g [⟨p, d, lk⟩] = fx at *
  unfold gramV gramL at *
  generalize g.rules.map ruleC = R at *
  generalize g.sorts.map strC = S at *
  generalize g.prods.map prodC = D at *
  generalize g.levels.map levC = V at *
  generalize g.start = start at *
  clear hl hx
  refine acalls_symN tabF_ok fn5 rfl rfl rfl (by kernel_rfl) ?_
  have hfin : ∀ st, resA Try.prog Try.f5 st = some (.flat (.bool true)) → G.Leaves Try.prog Try.f5 (fun _ => .flat (.bool true)) (fun _ => []) st := fun st h => G.Leaves.plain h rfl
  rintro N hN ⟨lt, le, eq, se, ar, dv, una, conv, len, sln, nat, nth, ixs, cel, sto, app, cpy, slc, mak, ixv, oth, dk, ib, call⟩ hS hm Q hQ
  obtain ⟨hlt, hle, heq, hse, har, hdv, huna, hconv, hlen, hsln, hnat, hnth, hixs, hcel, hsto, happ, hcpy, hslc, hmak, hixv, hoth, hdk, hib, hcall⟩ := Sym.mk.inj hS
  clear hS
  have hnt : ∀ n : Nat, nat n = U.natI n := fun n => by rw [hnat]; rfl
  have hbox : ∀ e c off, cel (some ⟨e, [c]⟩) 0 off = if off ≤ c.length then some (c.drop off) else none := fun e c off => by rw [hcel]; rfl
  have hsbox : ∀ e c off sz y, sto (some ⟨e, [c]⟩) 0 off sz y = if y.cells.length = sz ∧ off + sz ≤ c.length ∧ y.cells.all AV.one = true then some ⟨e, [spl c off y.cells]⟩ else none := fun e c off sz y => by rw [hsto]; rfl
  have hcaw : ∀ {f args T base K}, CallK Try.prog f args T base K → call f args T base K := fun h => by rw [hcall]; exact h
  have hcal : ∀ {f args T base} {K : AV → Table → List Nat → List Nat → Prop}, (∃ args' ids val rows, Hands T ids args args' (val base) (rows base) ∧ ACalls Try.prog f args' val rows ∧ (rows base).length ≤ 8 ∧ K (val base) (adopt T base (rows base)) ids ((List.range (rows base).length).map (base + ·))) → call f args T base K := fun h => hcaw (call_own h)
  have hcn : ∀ {f args T base} {K : AV → Table → Prop}, CallN Try.prog T base f args K → N f args T base K := fun h => by rw [hN]; exact h
  have hsx : ∀ (s : ByteArray) (i : Int), s.size ≤ 1000000 → 0 ≤ i → lt i (sln s) = true → ∃ v, ixv 9 (.flat (.string s)) (.flat (.int .i64 i)) = some (.flat (.int .u8 v)) ∧ 0 ≤ v ∧ v < 256 ∧ ar .add .i64 i 1 = i + 1 ∧ 0 ≤ i + 1 ∧ (s.size - (i + 1).toNat < s.size - i.toNat) ∧ i < s.size := fun s i hs h0 hc => by
    rw [hlt, hsln] at hc
    rw [hixv, har]
    exact ix_next s hs h0 hc
  have hrx : ∀ (X : List (List AV)) (sz : Nat) (i : Int), (∀ c ∈ X, c.length = sz) → X.length ≤ 1000000 → 0 ≤ i → lt i (len X) = true → ∃ c ∈ X, nth X i sz = some (.rp c) ∧ ar .add .i64 i 1 = i + 1 ∧ 0 ≤ i + 1 ∧ (X.length - (i + 1).toNat < X.length - i.toNat) ∧ i < X.length := fun X sz i hX hl h0 hc => by
    rw [hlt, hlen] at hc
    rw [hnth, har]
    exact row_next X hX hl h0 hc
  clear hsx hrx
  cases lg
  · have hcL := hcL rfl
    clear hcN hz
    cbv
    repeat (first | (rw [hbox]; cbv) | (rw [hsbox]; cbv))
    refine .inl (hcal ⟨_, [], _, _, .inl ⟨rfl, by cbv⟩, hcA, by simp, ?_⟩)
    cbv
    repeat (first | (rw [hbox]; cbv) | (rw [hsbox]; cbv))
    refine .inl (hcal ⟨_, [], _, _, .inl ⟨rfl, by cbv⟩, hcL, by simp, ?_⟩)
    cbv
    repeat (first | (rw [hbox]; cbv) | (rw [hsbox]; cbv))
    exact hQ _ _ trivial (hfin _ (by cbv))
  have hcN := hcN rfl
  have hz := hz rfl
  clear hcL
  cbv
  repeat (first | (rw [hbox]; cbv) | (rw [hsbox]; cbv))
  refine .inl (hcal ⟨_, [], _, _, .inl ⟨rfl, by cbv⟩, hcA, by simp, ?_⟩)
  cbv
  repeat (first | (rw [hbox]; cbv) | (rw [hsbox]; cbv))
  refine .inr (hcn ⟨_, [], _, hcN, .inl ⟨rfl, by cbv⟩, ?_⟩)
  rintro _ _ ⟨x0, hx0, rfl, rfl⟩
  obtain ⟨b, rfl⟩ := isB_of hx0
  refine ⟨Nat.zero_le _, ?_⟩
  cbv
  cases b
  · cbv
    repeat (first | (rw [hbox]; cbv) | (rw [hsbox]; cbv))
    exact hQ _ _ trivial (hfin _ (by cbv))
  cbv
  repeat (first | (rw [hbox]; cbv) | (rw [hsbox]; cbv))
  refine .inl (hcal ⟨_, [], _, _, .inl ⟨rfl, by cbv⟩, hf1, by simp, ?_⟩)
  cbv
  cases fl
  · cbv
    repeat (first | (rw [hbox]; cbv) | (rw [hsbox]; cbv))
    exact hQ _ _ trivial (hfin _ (by cbv))
  obtain ⟨EE, FF, RA, RB, ns, na, nb, y1, y2, y3, y4, y5, y6, y7, y8, y9, y10, y11, y12, y13, z1, z2, z3, z4, z5, z6, z7⟩ := hz rfl
  cbv
  repeat (first | (rw [hbox]; cbv) | (rw [hsbox]; cbv))
  refine .inl (hcal ⟨[.agg [.ro R, .ro S, .ro D, .ro V, .flat (.int .i64 start)], .ro [[.flat (.int .i64 p), .flat (.int .i64 d), .flat (.int .u64 lkI)]]], [136], _, _, hands_deep ⟨deep_agg ⟨.id rfl, .id rfl, .id rfl, .id rfl, .id rfl, trivial⟩, deep_row (by simp) (by rfl) rfl hXx, trivial⟩ rfl (fun r hr => by cases hr), hf2, by simp, ?_⟩)
  cbv
  cases fx
  · cbv
    repeat (first | (rw [hbox]; cbv) | (rw [hsbox]; cbv))
    exact hQ _ _ trivial (hfin _ (by cbv))
  obtain ⟨XX, hXX⟩ : ∃ XX, XX = X ++ [[AV.flat (.int .i64 p), .flat (.int .i64 d), .flat (.int .u64 lkI)]] := ⟨_, rfl⟩
  obtain ⟨Y0, hY0⟩ : ∃ Y : List (List AV), Y = [] := ⟨_, rfl⟩
  have hXl : XX.length = X.length + 1 := by rw [hXX]; simp
  have ha1 : ∀ (T : Table) (id k0 : Nat), T k0 = some ⟨28, []⟩ → app T id 22 22 (.sl k0 0 0) (.ro X) = some (.sl id 0 X.length, (T.set k0 none).set id (some ⟨28, X⟩)) := fun T id k0 h => by
    rw [happ]
    exact app_ro u22 u22 z28 (by decide) rfl (by decide) h h3 (Nat.le_refl _) (Nat.zero_add _).symm rfl (by omega)
  have ha2 : ∀ (T : Table) (id k0 k n : Nat), n = X.length → T k0 = some ⟨28, X⟩ → T k = some ⟨28, [[.flat (.int .i64 p), .flat (.int .i64 d), .flat (.int .u64 lkI)]]⟩ → k ≠ k0 → app T id 22 22 (.sl k0 0 n) (.sl k 0 1) = some (.sl id 0 (n + 1), (T.set k0 none).set id (some ⟨28, XX⟩)) := fun T id k0 k n hn a b c => by
    rw [happ]
    exact app_tip u22 z28 c28 (by decide) rfl (by decide) a b c rfl (by omega) rfl (by rw [hn, List.take_length]; exact hXX) (by omega)
  have ha3 : ∀ (T : Table) (id k0 k : Nat), T k0 = some ⟨28, []⟩ → T k = some ⟨28, RA⟩ → k ≠ k0 → app T id 22 22 (.sl k0 0 0) (.sl k 0 na) = some (.sl id 0 na, (T.set k0 none).set id (some ⟨28, RA⟩)) := fun T id k0 k a b c => by
    rw [happ]
    exact app_sl u22 u22 z28 c28 (by decide) rfl (by decide) a b c y12 (Nat.le_refl _) (by omega) (by omega) (by rw [y5, List.take_length]; rfl) (by omega)
  obtain ⟨RC, hRC⟩ : ∃ RC, RC = RA ++ RB := ⟨_, rfl⟩
  have hRCf : flatRow RC := by
    rw [hRC]; intro c hc
    exact (List.mem_append.1 hc).elim (y7 c) (y8 c)
  have hRCl : na + nb = RC.length := by rw [hRC, List.length_append, y5, y6]
  have ha4 : ∀ (T : Table) (id k0 k : Nat), T k0 = some ⟨28, RA⟩ → T k = some ⟨28, RB⟩ → k ≠ k0 → app T id 22 22 (.sl k0 0 na) (.sl k 0 nb) = some (.sl id 0 (na + nb), (T.set k0 none).set id (some ⟨28, RC⟩)) := fun T id k0 k a b c => by
    rw [happ]
    exact app_sl u22 u22 z28 c28 (by decide) rfl (by decide) a b c y13 (by omega) (by omega) rfl (by rw [y5, y6, List.take_length, List.take_length]; exact hRC) (by omega)
  rw [← hXX] at z3 hfX
  rw [← hRC] at z5
  have z3b : (X.length + 1) = XX.length := hXl.symm
  clear hXX hRC hXl
  generalize na + nb = nc at hRCl ha4
  have hYn : X.length = X.length := rfl
  obtain ⟨nx, hnx⟩ : ∃ nx, nx = X.length := ⟨_, rfl⟩
  have ha2 := fun (T : Table) (id k0 k : Nat) => ha2 T id k0 k nx hnx
  rw [← hnx] at ha1 z3b
  generalize nx + 1 = nx1 at ha2 z3b
  clear hnx hYn
  cbv
  repeat (first | (rw [hbox]; cbv) | (rw [hsbox]; cbv))
  refine .inl (hcal ⟨_, [], _, _, .inl ⟨rfl, by cbv⟩, z1, by simp, ?_⟩)
  cbv
  repeat (first | (rw [hbox]; cbv) | (rw [hsbox]; cbv))
  refine .inl (hcal ⟨[.agg [.ro R, .ro S, .ro D, .ro V, .flat (.int .i64 start)], .agg [.ro EE, .ro FF], .ro X], [176, 177], _, _, hands_deep ⟨deep_agg ⟨.id rfl, .id rfl, .id rfl, .id rfl, .id rfl, trivial⟩, deep_agg ⟨deep_row (by simp) (by rfl) y1 y3.read, deep_row (by simp) (by rfl) y2 y4.read, trivial⟩, .id rfl, trivial⟩ rfl (noRo_flat y7), z2, by simp, ?_⟩)
  cbv
  repeat (first | (rw [hbox]; cbv) | (rw [hsbox]; cbv))
  refine ⟨by rw [hdk]; kernel_rfl, ?_⟩
  repeat (first | (rw [hbox]; cbv) | (rw [hsbox]; cbv))
  rw [ha1 _ _ _ (by rfl)]; cbv
  repeat (first | (rw [hbox]; cbv) | (rw [hsbox]; cbv))
  rw [ha2 _ _ _ _ (by rfl) (by rfl) (by decide)]; cbv
  repeat (first | (rw [hbox]; cbv) | (rw [hsbox]; cbv))
  refine hcal ⟨[.agg [.ro R, .ro S, .ro D, .ro V, .flat (.int .i64 start)], .agg [.ro EE, .ro FF], .ro XX], [176, 177, 296], _, _, hands_deep ⟨deep_agg ⟨.id rfl, .id rfl, .id rfl, .id rfl, .id rfl, trivial⟩, deep_agg ⟨deep_row (by simp) (by rfl) y1 y3.read, deep_row (by simp) (by rfl) y2 y4.read, trivial⟩, deep_row (by simp) (by rfl) z3b hfX.read, trivial⟩ rfl (noRo_flat y8), z3, by simp, ?_⟩
  cbv
  repeat (first | (rw [hbox]; cbv) | (rw [hsbox]; cbv))
  refine ⟨by rw [hib]; kernel_rfl, ?_⟩
  cbv
  repeat (first | (rw [hbox]; cbv) | (rw [hsbox]; cbv))
  rw [ha3 _ _ _ _ (by rfl) (by rfl) (by decide)]; cbv
  repeat (first | (rw [hbox]; cbv) | (rw [hsbox]; cbv))
  rw [ha4 _ _ _ _ (by rfl) (by rfl) (by decide)]; cbv
  repeat (first | (rw [hbox]; cbv) | (rw [hsbox]; cbv))
  refine .inl (hcal ⟨[.ro RC], [352], _, _, hands_deep ⟨deep_row (by simp) (by rfl) hRCl hRCf.read, trivial⟩ rfl (noRo_flat y8), z5, by simp, ?_⟩)
  cbv
  repeat (first | (rw [hbox]; cbv) | (rw [hsbox]; cbv))
  refine .inl (hcal ⟨[.agg [.ro R, .ro S, .ro D, .ro V, .flat (.int .i64 start)], .agg [.ro EE, .ro FF], .ro RA], [176, 177, 224], _, _, hands_deep ⟨deep_agg ⟨.id rfl, .id rfl, .id rfl, .id rfl, .id rfl, trivial⟩, deep_agg ⟨deep_row (by simp) (by rfl) y1 y3.read, deep_row (by simp) (by rfl) y2 y4.read, trivial⟩, deep_row (by simp) (by rfl) y5 y7.read, trivial⟩ rfl (noRo_flat y7), z4, by simp, ?_⟩)
  cbv
  repeat (first | (rw [hbox]; cbv) | (rw [hsbox]; cbv))
  refine .inl (hcal ⟨[.ro RA, .ro RA], [400, 224], _, _, hands_deep ⟨deep_row (by simp) (by rfl) y5 y7.read, deep_row (by simp) (by rfl) y5 y7.read, trivial⟩ rfl (fun r hr => by cases hr), z6, by simp, ?_⟩)
  cbv
  repeat (first | (rw [hbox]; cbv) | (rw [hsbox]; cbv))
  refine .inl (hcal ⟨[.ro RB, .ro RB], [360, 304], _, _, hands_deep ⟨deep_row (by simp) (by rfl) y6 y8.read, deep_row (by simp) (by rfl) y6 y8.read, trivial⟩ rfl (fun r hr => by cases hr), z7, by simp, ?_⟩)
  cbv
  repeat (first | (rw [hbox]; cbv) | (rw [hsbox]; cbv))
  exact hQ _ _ trivial (hfin _ (by cbv))
end Go.Proofs.Ytnceadbfgpiaaaa.C
