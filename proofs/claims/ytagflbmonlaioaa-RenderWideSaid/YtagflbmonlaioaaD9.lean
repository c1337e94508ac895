/- Contracts: Depth; the law DocChecks. -/
import Derived.Test.YtagflbmonlaioaaD8
namespace Go.Proofs.Ytagflbmonlaioaa.D
open Go G U K
set_option linter.unusedVariables false
set_option linter.unusedSimpArgs false
set_option maxRecDepth 100000
set_option maxHeartbeats 4000000
theorem fn5 : Try.prog.funcs[5]? = some Try.f5 := by kernel_rfl
theorem own_ix_off {P : Program} {e : TypeId} {X : List (List AV)} {off n sz : Nat} {i : Int} (hc : P.cellsOf e = sz) (h0 : 0 ≤ i) (h1 : i < n) (id : Nat) : ixSl P (some ⟨e, X⟩) id off n i sz = some (.ptr id (off + i.toNat) 0) := by
  simp only [ixSl, Option.bind_some]
  rw [if_pos ⟨h0, h1, hc⟩]
def deps (ts : List Tr) : List Int := ts.map Tr.depth
theorem deepTo_le {N : Int} (hN : 0 ≤ N) : ∀ (l : List Tr), (∀ t ∈ l, t.depth ≤ N) → deepTo l ≤ N := by
  have key : ∀ (l : List Tr) (a : Int), a ≤ N → (∀ t ∈ l, t.depth ≤ N) → l.foldl (fun (m : Int) t => max m t.depth) a ≤ N := by
    intro l
    induction l with
    | nil => intro a h _; exact h
    | cons x l ih => intro a h hl; exact ih _ (by show max a x.depth ≤ N; have := hl x (by simp); omega) fun t ht => hl t (by simp [ht])
  exact fun l => key l 0 hN
theorem deepTo_pos (l : List Tr) : 0 ≤ deepTo l := by
  have : ∀ (l : List Tr) (a : Int), a ≤ l.foldl (fun (m : Int) t => max m t.depth) a := by
    intro l
    induction l with
    | nil => intro a; exact Int.le_refl a
    | cons x l ih => intro a; exact Int.le_trans (by omega) (ih (max a x.depth))
  exact this l 0
theorem mk_depth {p : PartT} {ps : List Tr} (h : ps.length ≤ 2) : (mkT p ps).depth = deepTo ps + 1 := by
  match ps, h with
  | [], _ => rfl
  | [t], _ => rfl
  | [a, b], _ => rfl
  | a :: b :: c :: l, h => exact absurd h (by simp)
theorem flats_le {t : Tr} {ts : List Tr} (h : t ∈ ts) : t.flat.length ≤ (flats ts).length := by
  induction ts with
  | nil => cases h
  | cons u l ih =>
    have e : (flats (u :: l)).length = u.flat.length + (flats l).length := by simp [flats]
    rcases List.mem_cons.1 h with rfl | h
    · omega
    · have := ih h; omega
theorem ts_le (ts : List Tr) : ts.length ≤ (flats ts).length := by
  induction ts with
  | nil => exact Nat.zero_le _
  | cons u l ih =>
    have e : (flats (u :: l)).length = u.flat.length + (flats l).length := by simp [flats]
    have := flat_pos u
    simp only [List.length_cons]; omega
theorem depth_calls (t : Tr) (ht : t.ok) (hs : t.flat.length ≤ 20000) : ACalls Try.prog 33 [.ro (t.flat.map partC)] (fun _ => .flat (.int .i64 t.depth)) (fun _ => []) := by
  have hd := tree_check ht hs
  have hend := @stk_end t
  obtain ⟨d, hdd⟩ : ∃ d, d = t.flat := ⟨_, rfl⟩
  rw [← hdd] at hs hd hend ⊢
  have hs1 : d.length ≤ 1000000 := by omega
  obtain ⟨X, hX⟩ : ∃ X, X = d.map partC := ⟨_, rfl⟩
  rw [← hX]
  generalize hr : t.depth = r
  refine acalls_symF tabF_ok fn33 rfl rfl rfl (by kernel_rfl) ?_
  have hfin : ∀ st, resA Try.prog Try.f33 st = some (.flat (.int .i64 r)) → G.Leaves Try.prog Try.f33 (fun _ => .flat (.int .i64 r)) (fun _ => []) st := fun st h => G.Leaves.plain h rfl
  rintro ⟨lt, le, eq, se, ar, dv, una, conv, len, sln, nat, nth, ixs, cel, sto, app, cpy, slc, mak, ixv, oth, dk, ib, call⟩ hS hm Q hQ
  obtain ⟨hlt, hle, heq, hse, har, hdv, huna, hconv, hlen, hsln, hnat, hnth, hixs, hcel, hsto, happ, hcpy, hslc, hmak, hixv, hoth, hdk, hib, hcall⟩ := Sym.mk.inj hS
  clear hS
  have hnt : ∀ n : Nat, nat n = U.natI n := fun n => by rw [hnat]; rfl
  have hbox : ∀ e c off, cel (some ⟨e, [c]⟩) 0 off = if off ≤ c.length then some (c.drop off) else none := fun e c off => by rw [hcel]; rfl
  have hsbox : ∀ e c off sz y, sto (some ⟨e, [c]⟩) 0 off sz y = if y.cells.length = sz ∧ off + sz ≤ c.length ∧ y.cells.all AV.one = true then some ⟨e, [spl c off y.cells]⟩ else none := fun e c off sz y => by rw [hsto]; rfl
  have hcaw : ∀ {f args T base K}, CallK Try.prog f args T base K → call f args T base K := fun h => by rw [hcall]; exact h
  have hcal : ∀ {f args T base} {K : AV → Table → List Nat → List Nat → Prop}, (∃ args' ids val rows, Hands T ids args args' (val base) (rows base) ∧ ACalls Try.prog f args' val rows ∧ (rows base).length ≤ 8 ∧ K (val base) (adopt T base (rows base)) ids ((List.range (rows base).length).map (base + ·))) → call f args T base K := fun h => hcaw (call_own h)
  have hnX : len X = d.length := by rw [hlen, hX, len_map]
  have hmx : ∀ (T : Table) id ρ x y ts a b, ρ x = some (.flat (.int .i64 a)) → ρ y = some (.flat (.int .i64 b)) → oth T id ρ 3 (.call { callee := .builtin .max, args := #[x, y], argTypes := ts }) = some (.flat (.int .i64 (max a b)), T) := fun T id ρ x y ts a b h1 h2 => by
    rw [hoth]; exact oth_max h1 h2
  cbv
  refine MW_loopZ hm [.slot 3 3] [40] [3, 10, 11, 12] 13 (by simp) (fun mz st => ∃ (i : Int) (ts : List Tr) (m : Nat) (Z : List (List AV)), StkAt d i ts ∧ Z = (deps ts).map intC ∧ m = ts.length ∧ mz = U.left d.length i ∧ st = stOf [.dead, .dead, .dead, .sl 0 0 m, .dead, .dead, .dead, .dead, .dead, .dead, .ro X, .flat (.int .i64 (len X)), .flat (.int .i64 i)] [some ⟨3, Z⟩] 1) (U.left d.length 0) ?_ ?_
  · exact ⟨0, [], 0, [], stk_zero d, rfl, rfl, rfl, cut_eq (by cbv) (cutRows_cons (by rfl) (fun c hc => by cases hc) rfl)⟩
  rintro mz st ⟨i, ts, m, Z, hi, hZ, hm1, hmz, rfl⟩
  cases hc : lt i (len X)
  · have hc' : decide (i < (d.length : Int)) = false := by rw [hlt, hnX] at hc; exact hc
    obtain rfl := hend ht hi hc'
    have hm2 : m = 1 := hm1
    subst hm2
    obtain ⟨x1, x2, _⟩ := own_int hZ (n := 1) (i := 0) rfl (by decide) (by decide)
    rw [show atI (deps [t]) 0 = t.depth from rfl, hr] at x2
    rw [← hixs] at x1
    rw [← hcel] at x2
    have e1 : eq (nat 1) 0 = false := by rw [heq, hnt]; unfold natI; decide
    have e2 : ar .sub .i64 (nat 1) 1 = 0 := by rw [har, hnt]; unfold natI; decide
    rw [show (0 : Int).toNat = 0 from rfl] at x1 x2
    cbv
    rw [hc]; cbv
    rw [e1]; cbv
    rw [e2]; cbv
    rw [x1]; cbv
    rw [x2]; cbv
    exact hQ _ _ trivial (hfin _ (by cbv))
  have hc' : decide (i < (d.length : Int)) = true := by rw [hlt, hnX] at hc; exact hc
  obtain ⟨hix, hadd, q1, q2, hmem, hdr, htk⟩ := at_round (sz := 3) hX (fun _ => rfl) hs1 hi.1 hc'
  rw [← hnth] at hix
  rw [← har] at hadd
  obtain ⟨r1, r2, r3, r4, _⟩ := stk_step hd hi hc'
  have htc := takes_calls (atI d i).kind
  obtain ⟨k, hk⟩ : ∃ k : Nat, takes (atI d i).kind = k := ⟨_, (Int.toNat_of_nonneg r2).symm⟩
  have hk1 : (takes (atI d i).kind).toNat = k := by omega
  have hk4 := (takes_le (atI d i).kind).2
  have hk2 : k ≤ m := by omega
  have hfl : (flats ts).length ≤ 20000 := by rw [hi.2.2.1, List.length_take]; omega
  have hmb : m ≤ 20000 := by have := ts_le ts; omega
  obtain ⟨ps, hps⟩ : ∃ ps, ps = popT ts k := ⟨_, rfl⟩
  rw [hk1, ← hps] at r4
  have hpd : ∀ u ∈ ps, u.depth ≤ 20000 := fun u hu => by
    rw [hps] at hu
    have h1 := flats_le (List.mem_of_mem_drop hu)
    have h2 := (depth_bound u).2
    omega
  have hdp := deepTo_le (by decide) ps hpd
  have hdp0 := deepTo_pos ps
  have hpush : deps (pushT ts (atI d i)) = (deps ts).take (m - k) ++ [deepTo ps + 1] := by
    unfold pushT deps
    rw [hk1, List.map_append, ← hps, List.map_cons, List.map_nil, mk_depth (by omega)]
    unfold restT
    rw [List.map_take, hm1]
  have hZl : Z.length = m := by rw [hZ, hm1]; simp [deps]
  have hsub : ar .sub .i64 (nat m) (takes (atI d i).kind) = ((m - k : Nat) : Int) := by rw [har, hnt, hk]; unfold natI; rw [ar_sub64 (by omega) (by omega)]; omega
  have hmax : max ((m - k : Nat) : Int) 0 = ((m - k : Nat) : Int) := by omega
  have hsl1 : ∀ (T : Table) id, T id = some ⟨3, Z⟩ → slc T 40 (.sl id 0 m) (some (.flat (.int .i64 ((m - k : Nat) : Int)))) none = some (.sl id (m - k) k) := fun T id hT => by
    rw [hslc, slc_sl u40 z3 hT c3 (by omega) (bnd_lo (by omega) (by omega))]
    rw [Int.toNat_natCast, show m - (m - k) = k by omega]
  have hsl2 : ∀ (T : Table) id, T id = some ⟨3, Z⟩ → slc T 40 (.sl id 0 m) none (some (.flat (.int .i64 ((m - k : Nat) : Int)))) = some (.sl id 0 (m - k)) := fun T id hT => by
    rw [hslc, slc_sl u40 z3 hT c3 (by omega) (bnd_hi (by omega) (by omega))]
    simp
  obtain ⟨m2, hm2⟩ : ∃ m2, m2 = m - k + 1 := ⟨_, rfl⟩
  obtain ⟨Z2, hZ2⟩ : ∃ Z2, Z2 = (deps (pushT ts (atI d i))).map intC := ⟨_, rfl⟩
  have hdeep : ∀ dp, dp = deepTo ps → ar .add .i64 dp 1 = dp + 1 ∧ ∀ (T : Table) id k0 kk, T k0 = some ⟨3, Z⟩ → T kk = some ⟨3, [[.flat (.int .i64 (dp + 1))]]⟩ → kk ≠ k0 → app T id 40 40 (.sl k0 0 (m - k)) (.sl kk 0 1) = some (.sl id 0 m2, (T.set k0 none).set id (some ⟨3, Z2⟩)) := fun dp hdd => by
    subst hdd
    refine ⟨by rw [har]; exact ar_add64 (by omega) (by omega), fun T id k0 kk h1 h2 h3 => ?_⟩
    rw [happ]
    exact app_tip u40 z3 c3 (by decide) rfl (by decide) h1 h2 h3 rfl (by omega) hm2 (by rw [hZ2, hpush, hZ, List.map_append, List.map_take]; rfl) (by omega)
  have hm3 : m2 = (pushT ts (atI d i)).length := by
    have h1 := congrArg List.length hpush
    unfold deps at h1
    rw [List.length_append, List.length_take, List.length_map, List.length_map] at h1
    simp at h1; omega
  have hinner : ∀ j, At ps j → decide (j < (ps.length : Int)) = true → (∀ id, ixs (some ⟨3, Z⟩) id (m - k) k j 1 = some (.ptr id (m - k + j.toNat) 0)) ∧ cel (some ⟨3, Z⟩) (m - k + j.toNat) 0 = some [.flat (.int .i64 (atI ps j).depth)] ∧ ar .add .i64 j 1 = j + 1 := fun j hj hcj => by
    obtain ⟨jl, j0, j1⟩ := at_lt hj hcj
    refine ⟨fun id => by rw [hixs]; exact own_ix_off c3 j0 (by omega) id, ?_, by rw [har]; exact at_add (by omega) hj hcj⟩
    rw [hcel, hZ]
    have hg : ((deps ts).map intC)[m - k + j.toNat]? = some (intC (atI ps j).depth) := by
      have h1 := at_get j0 j1
      have h2 : ps = ts.drop (m - k) := by rw [hps]; unfold popT; rw [← hm1]
      rw [h2] at h1 ⊢
      rw [List.getElem?_drop] at h1
      unfold deps
      rw [List.map_map, List.getElem?_map, h1]; rfl
    rw [own_cel hg (Nat.zero_le _)]; rfl
  have hkl : ps.length = k := r4
  have hz0 : DpAt ps 0 0 := ⟨at_zero ps, rfl⟩
  generalize pushT ts (atI d i) = ts2 at r1 hZ2 hm3
  generalize i + 1 = i2 at hadd q1 q2 r1
  generalize (((m - k : Nat) : Int)) = jI at hsub hsl1 hsl2 hmax
  generalize m - k = mk at hsl1 hsl2 hdeep hinner
  clear hmem hdr htk hk1 r2 r3 hpush hm2 hk hfl hps hpd hdp hdp0
  generalize atI d i = p at hix htc hsub
  obtain ⟨kd, pn, tx⟩ := p
  unfold partC at hix
  dsimp only at hix htc hsub
  generalize takes kd = tk at htc hsub
  have hnk : ∀ j, lt j (nat k) = decide (j < (ps.length : Int)) := fun j => by rw [hlt, hnt, hkl]; rfl
  clear hkl
  cbv
  rw [hc]; cbv
  repeat (first | (rw [hbox]; cbv) | (rw [hsbox]; cbv) | (rw [hix]; cbv))
  refine hcal ⟨_, [], _, _, .inl ⟨rfl, by cbv⟩, htc, by simp, ?_⟩
  cbv
  rw [hsub]; cbv
  rw [hmx _ _ _ _ _ _ _ _ (by rfl) (by rfl), hmax]; cbv
  rw [hsl1 _ _ (by rfl)]; cbv
  refine MW_loop hm [0] [3, 6, 7, 10, 11, 12, 25, 26, 27] 28 (by simp) (fun mz st => ∃ (j dp : Int), DpAt ps j dp ∧ mz = U.left ps.length j ∧ st = stOf [.dead, .dead, .dead, .sl 0 0 m, .dead, .dead, .flat (.int .i64 jI), .flat (.int .i64 dp), .dead, .dead, .ro X, .flat (.int .i64 (len X)), .flat (.int .i64 i), .dead, .dead, .dead, .dead, .dead, .dead, .dead, .dead, .dead, .dead, .dead, .dead, .sl 0 mk k, .flat (.int .i64 (nat k)), .flat (.int .i64 j)] [some ⟨3, Z⟩] 1) (U.left ps.length 0) ?_ ?_
  · exact ⟨0, 0, hz0, rfl, cut_eq (by cbv) (cutRows_cons (by rfl) (closed_int hZ) rfl)⟩
  rintro mj st ⟨j, dp, hj, hmj, rfl⟩
  cases hcj : lt j (nat k)
  · have hcj' := (hnk j).symm.trans hcj
    obtain ⟨r8, r9⟩ := hdeep dp (dpAt_end hj hcj')
    generalize dp + 1 = dp1 at r8 r9
    cbv
    rw [hcj]; cbv
    rw [hsl2 _ _ (by rfl)]; cbv
    rw [r8]; cbv
    rw [r9 _ _ _ _ (by rfl) (by rfl) (by decide)]; cbv
    rw [hadd]
    exact ⟨[57], [3, 10, 11, 12], 13, U.left d.length i2, hmz ▸ q2, by simp, i2, ts2, m2, Z2, r1, hZ2, hm3, rfl, cut_eq (by cbv) (cutRows_cons (by rfl) (closed_int hZ2) rfl)⟩
  have hcj' := (hnk j).symm.trans hcj
  obtain ⟨y1, y2, y3⟩ := hinner j hj.1 hcj'
  have hnext := dpAt_step hj hcj'
  obtain ⟨s1, s2⟩ := at_step hj.1 hcj'
  obtain ⟨dp2, hdp2⟩ : ∃ m2, m2 = max dp (atI ps j).depth := ⟨_, rfl⟩
  rw [← hdp2] at hnext
  generalize (atI ps j).depth = dd at y2 hdp2
  generalize mk + j.toNat = jN at y1 y2
  generalize j + 1 = j2 at y3 s1 s2 hnext
  cbv
  rw [hcj]; cbv
  rw [y1]; cbv
  rw [y2]; cbv
  rw [hmx _ _ _ _ _ _ _ _ (by rfl) (by rfl), ← hdp2]; cbv
  rw [y3]
  exact ⟨[0], [3, 6, 7, 10, 11, 12, 25, 26, 27], 28, U.left ps.length j2, hmj ▸ s2, by simp, j2, dp2, hnext, rfl, cut_eq (by cbv) (cutRows_cons (by rfl) (closed_int hZ) rfl)⟩
theorem docChecks_calls (d : DocT) (kind : Int) : ACalls Try.prog 5 [.ro (d.map partC), .flat (.int .i64 kind)] (fun _ => .flat (.bool true)) (fun _ => []) := by
  have hcA := awake_calls
  have hcF := fewD_calls d
  have hfew := @few_facts d
  have hcR := refCheck_calls d
  have hcC := check_calls d
  have hcT := takes_calls kind
  have hcU := refTakes_calls kind
  have hcS := docSame_calls d d
  rw [sameL_refl] at hcS
  have hcG : d.length ≤ 80 → checkD d = 0 → ∃ dp, ACalls Try.prog 32 [.ro (d.map partC)] (fun k => .sl k 0 d.length) (fun _ => [⟨3, (startsD d).map intC⟩]) ∧ ACalls Try.prog 33 [.ro (d.map partC)] (fun _ => .flat (.int .i64 dp)) (fun _ => []) ∧ ACalls Try.prog 34 [.ro (d.map partC)] (fun _ => .flat (.int .i64 dp)) (fun _ => []) := fun h1 h2 => by
    obtain ⟨t, ht, hd⟩ := tree_of h2
    have hs : t.flat.length ≤ 20000 := by rw [hd]; omega
    refine ⟨t.depth, starts_calls d h2 rfl, ?_, ?_⟩
    · rw [← hd]; exact depth_calls t ht hs
    · rw [← hd]; exact refDepth_calls t ht hs
  have hcB : d.length ≤ 80 → ∀ i, At d i → decide (i < (d.length : Int)) = true → ACalls Try.prog 35 [.ro (d.map partC), .flat (.int .i64 i)] (fun _ => .flat (.int .i64 (startD d i))) (fun _ => []) ∧ arI .add .i64 i 1 = i + 1 := fun h1 i hi hc => by
    obtain ⟨_, h3, h4⟩ := at_lt hi hc
    exact ⟨refStart_calls d (by omega) i h3 h4, at_add (by omega) hi hc⟩
  have hown : ∀ i, At d i → decide (i < (d.length : Int)) = true → _ := fun i hi hc => own_int (Y := (startsD d).map intC) (l := startsD d) rfl (n := d.length) (by simp [startsD]) (at_lt hi hc).2.1 (at_lt hi hc).2.2
  have hat : ∀ i, At d i → decide (i < (d.length : Int)) = true → atI (startsD d) i = startD d i := fun i hi hc => by
    obtain ⟨h2, h3, h4⟩ := at_lt hi hc
    simp only [atI, startsD, List.getD, List.getElem?_map, List.getElem?_range h2, Option.map_some, Option.getD_some]
    rw [Int.toNat_of_nonneg h3]
  obtain ⟨X, hX⟩ : ∃ X, X = d.map partC := ⟨_, rfl⟩
  obtain ⟨Y, hY⟩ : ∃ X, X = (startsD d).map intC := ⟨_, rfl⟩
  have hcl := closed_int hY
  rw [← hX] at hcF hcR hcC hcS hcG hcB ⊢
  rw [← hY] at hcG hown
  have hnX : lenE X = (d.length : Int) := by rw [hX, len_map]
  generalize fewD d = fw at hcF hfew
  generalize checkD d = ck at hcR hcC hcG
  generalize takes kind = tk at hcT hcU
  refine acalls_symF tabF_ok fn5 rfl rfl rfl (by kernel_rfl) ?_
  have hfin : ∀ st, resA Try.prog Try.f5 st = some (.flat (.bool true)) → G.Leaves Try.prog Try.f5 (fun _ => .flat (.bool true)) (fun _ => []) st := fun st h => G.Leaves.plain h rfl
  rintro ⟨lt, le, eq, se, ar, dv, una, conv, len, sln, nat, nth, ixs, cel, sto, app, cpy, slc, mak, ixv, oth, dk, ib, call⟩ hS hm Q hQ
  obtain ⟨hlt, hle, heq, hse, har, hdv, huna, hconv, hlen, hsln, hnat, hnth, hixs, hcel, hsto, happ, hcpy, hslc, hmak, hixv, hoth, hdk, hib, hcall⟩ := Sym.mk.inj hS
  clear hS
  have hnt : ∀ n : Nat, nat n = U.natI n := fun n => by rw [hnat]; rfl
  have hbox : ∀ e c off, cel (some ⟨e, [c]⟩) 0 off = if off ≤ c.length then some (c.drop off) else none := fun e c off => by rw [hcel]; rfl
  have hsbox : ∀ e c off sz y, sto (some ⟨e, [c]⟩) 0 off sz y = if y.cells.length = sz ∧ off + sz ≤ c.length ∧ y.cells.all AV.one = true then some ⟨e, [spl c off y.cells]⟩ else none := fun e c off sz y => by rw [hsto]; rfl
  have hcaw : ∀ {f args T base K}, CallK Try.prog f args T base K → call f args T base K := fun h => by rw [hcall]; exact h
  have hcal : ∀ {f args T base} {K : AV → Table → List Nat → List Nat → Prop}, (∃ args' ids val rows, Hands T ids args args' (val base) (rows base) ∧ ACalls Try.prog f args' val rows ∧ (rows base).length ≤ 8 ∧ K (val base) (adopt T base (rows base)) ids ((List.range (rows base).length).map (base + ·))) → call f args T base K := fun h => hcaw (call_own h)
  have heqr : ∀ v, eq v v = true := fun v => by rw [heq]; exact decide_eq_true rfl
  have e1 : eq (nat d.length) (len X) = true := by rw [heq, hnt, hlen, hnX]; unfold natI; exact decide_eq_true rfl
  have e2 : eq ck 0 = decide (ck = 0) := by rw [heq]
  have hcG2 : d.length ≤ 80 → decide (ck = 0) = true → _ := fun h1 h2 => hcG h1 (of_decide_eq_true h2)
  generalize decide (ck = 0) = b1 at e2 hcG2
  clear hcG
  have hlt2 : ∀ i, lt i (nat d.length) = decide (i < (d.length : Int)) := fun i => by rw [hlt, hnt]; rfl
  obtain ⟨n, hn⟩ : ∃ n, n = d.length := ⟨_, rfl⟩
  rw [← hn] at e1 hcG2 hlt2 hown
  cbv
  refine hcal ⟨_, [], _, _, .inl ⟨rfl, by cbv⟩, hcA, by simp, ?_⟩
  cbv
  refine hcal ⟨_, [], _, _, .inl ⟨rfl, by cbv⟩, hcF, by simp, ?_⟩
  cbv
  cases fw
  · cbv
    exact hQ _ _ trivial (hfin _ (by cbv))
  obtain ⟨hl, _⟩ := hfew rfl
  replace hcR := hcR (Nat.le_trans hl (by decide))
  replace hcC := hcC (Nat.le_trans hl (by decide))
  replace hcS := hcS (Nat.le_trans hl (by decide)) (Nat.le_trans hl (by decide))
  replace hcB := hcB hl
  replace hcG2 := hcG2 (by rw [hn]; exact hl)
  cbv
  refine hcal ⟨_, [], _, _, .inl ⟨rfl, by cbv⟩, hcR, by simp, ?_⟩
  cbv
  refine hcal ⟨_, [], _, _, .inl ⟨rfl, by cbv⟩, hcC, by simp, ?_⟩
  cbv
  rw [heqr]; cbv
  refine hcal ⟨_, [], _, _, .inl ⟨rfl, by cbv⟩, hcT, by simp, ?_⟩
  cbv
  refine hcal ⟨_, [], _, _, .inl ⟨rfl, by cbv⟩, hcU, by simp, ?_⟩
  cbv
  rw [heqr]; cbv
  refine hcal ⟨_, [], _, _, .inl ⟨rfl, by cbv⟩, hcS, by simp, ?_⟩
  cbv
  rw [e2]
  cases b1
  · cbv
    exact hQ _ _ trivial (hfin _ (by cbv))
  obtain ⟨dp, g1, g2, g3⟩ := hcG2 rfl
  cbv
  refine hcal ⟨_, [], _, _, .inl ⟨rfl, by cbv⟩, g1, by simp, ?_⟩
  cbv
  rw [e1]; cbv
  refine hcal ⟨_, [], _, _, .inl ⟨rfl, by cbv⟩, g2, by simp, ?_⟩
  cbv
  refine hcal ⟨_, [], _, _, .inl ⟨rfl, by cbv⟩, g3, by simp, ?_⟩
  cbv
  rw [heqr]; cbv
  refine MW_loop hm [232] [0, 6, 7] 8 (by simp) (fun mz st => ∃ (i : Int), At d i ∧ mz = U.left d.length i ∧ st = stOf [.ro X, .dead, .dead, .dead, .dead, .dead, .sl 0 0 n, .flat (.int .i64 i)] [some ⟨3, Y⟩] 1) (U.left d.length 0) ?_ ?_
  · exact ⟨0, at_zero d, rfl, cut_eq (by cbv) (cutRows_cons (by rfl) (hcl) rfl)⟩
  rintro mz st ⟨i, hi, hmz, rfl⟩
  cases hc : lt i (nat n)
  · cbv
    rw [hc]; cbv
    exact hQ _ _ trivial (hfin _ (by cbv))
  have hc' := (hlt2 i).symm.trans hc
  rw [hn] at hc'
  obtain ⟨g4, hadd⟩ := hcB i hi hc'
  obtain ⟨x1, x2, _⟩ := hown i hi (by rw [hn]; exact hc')
  rw [hat i hi hc'] at x2
  obtain ⟨q1, q2⟩ := at_step hi hc'
  rw [← har] at hadd
  rw [← hixs] at x1
  rw [← hcel] at x2
  generalize startD d i = sv at g4 x2
  generalize i.toNat = iN at x1 x2
  generalize i + 1 = i2 at hadd q1 q2
  cbv
  rw [hc]; cbv
  refine ⟨by rw [hdk]; kernel_rfl, ?_⟩
  cbv
  rw [x1]; cbv
  rw [x2]; cbv
  refine hcal ⟨_, [], _, _, .inl ⟨rfl, by cbv⟩, g4, by simp, ?_⟩
  cbv
  rw [heqr]; cbv
  refine ⟨by rw [hib]; kernel_rfl, ?_⟩
  cbv
  rw [hadd]
  exact ⟨[0], [0, 6, 7], 8, U.left d.length i2, hmz ▸ q2, by simp, i2, q1, rfl, cut_eq (by cbv) (cutRows_cons (by rfl) (hcl) rfl)⟩
end Go.Proofs.Ytagflbmonlaioaa.D
