/- Contracts: Starts, Depth, bosketref37.Start, Parts, Depth. -/
import Derived.Test.YtagflbmonlaioaaD6
import Derived.Test.YtagflbmonlaioaaU2
namespace Go.Proofs.Ytagflbmonlaioaa.D
open Go G U K
set_option linter.unusedVariables false
set_option linter.unusedSimpArgs false
set_option maxRecDepth 100000
set_option maxHeartbeats 4000000
theorem fn32 : Try.prog.funcs[32]? = some Try.f32 := by kernel_rfl
theorem fn33 : Try.prog.funcs[33]? = some Try.f33 := by kernel_rfl
theorem fn34 : Try.prog.funcs[34]? = some Try.f34 := by kernel_rfl
theorem fn35 : Try.prog.funcs[35]? = some Try.f35 := by kernel_rfl
theorem fn59 : Try.prog.funcs[59]? = some Try.f59 := by kernel_rfl
theorem u40 : Try.prog.underlying 40 = some (.slice 3) := by kernel_rfl
theorem z3 : tinfo Try.prog 3 = some (some (.int .i64 0), 1, 8) := by kernel_rfl
theorem own_int {Y : List (List AV)} {l : List Int} (hY : Y = l.map intC) {n : Nat} (hn : l.length = n) {i : Int} (h0 : 0 ≤ i) (h1 : i < n) : (∀ id, ixSl Try.prog (some ⟨3, Y⟩) id 0 n i 1 = some (.ptr id i.toNat 0)) ∧ ptrCells (some ⟨3, Y⟩) i.toNat 0 = some [.flat (.int .i64 (atI l i))] ∧ ∀ v, storeRow (some ⟨3, Y⟩) i.toNat 0 1 (.flat (.int .i64 v)) = some ⟨3, (l.set i.toNat v).map intC⟩ := by
  have hg := at_get (l := l) h0 (by rw [hn]; exact h1)
  subst hY
  exact ⟨fun id => own_ix c3 h0 h1 id, own_cel (get_map h0 (by rw [hn]; exact h1)) (Nat.zero_le _), fun v => own_sto hg v rfl (Nat.le_refl 1) rfl rfl⟩
theorem rep_map {α : Type} {f : α → List AV} (n : Nat) (x : α) : List.replicate n (f x) = (List.replicate n x).map f := by simp
theorem mak_int (T : Table) (id n : Nat) (hn : n ≤ 1000000) : evMake Try.prog T id 40 (.flat (.int .i64 (n : Int))) (.flat (.int .i64 (n : Int))) = some (.sl id 0 n, T.set id (some ⟨3, (List.replicate n 0).map intC⟩)) := by
  have := mak_zero (P := Try.prog) (T := T) (id := id) (t := 40) (e := 3) (z := .int .i64 0) (sz := 1) (b := 8) (n := n) (k := .i64) (k' := .i64) (by kernel_rfl) (by kernel_rfl) (by decide) rfl rfl (by decide) hn
  rw [show zeroAV (.int .i64 0) = intC 0 from rfl, rep_map] at this
  exact this
def startsD (d : DocT) : List Int := (List.range d.length).map fun (j : Nat) => startD d j
def OutAt (d : DocT) (i : Int) (o : List Int) : Prop := o.length = d.length ∧ ∀ j : Nat, (j : Int) < i → o[j]? = some (startD d j)
theorem outAt_zero (d : DocT) : OutAt d 0 (List.replicate d.length 0) := ⟨by simp, fun j hj => by omega⟩
theorem outAt_end {d : DocT} {i : Int} {o : List Int} (h : OutAt d i o) (hi : At d i) (hc : decide (i < (d.length : Int)) = false) : o = startsD d := by
  have := at_end hi hc
  apply List.ext_getElem (by rw [h.1]; simp [startsD])
  intro j h1 h2
  have h3 := h.2 j (by have := h.1; omega)
  rw [List.getElem?_eq_getElem h1] at h3
  rw [Option.some.inj h3]
  simp [startsD]
theorem outAt_set {d : DocT} {i v : Int} {o : List Int} (h : OutAt d i o) (h0 : 0 ≤ i) (h1 : i < d.length) (hv : v = startD d i) : OutAt d (i + 1) (o.set i.toNat v) := by
  refine ⟨by rw [List.length_set]; exact h.1, fun j hj => ?_⟩
  rw [List.getElem?_set]
  have hl := h.1
  by_cases e : i.toNat = j
  · rw [if_pos e, if_pos (by omega), hv]
    have : (j : Int) = i := by omega
    rw [this]
  · rw [if_neg e]
    exact h.2 j (by omega)
theorem popoff {ts : List Tr} {k : Nat} {v : Int} {p : PartT} (hk : (takes p.kind).toNat = k) (hv : v = ((flats (restT ts k)).length : Int)) : offs (pushT ts p) 0 = (offs ts 0).take (ts.length - k) ++ [v] := by
  unfold pushT
  rw [hk, offs_append, offs_take, hv]
  simp [offs, restT]
theorem starts_calls (d : DocT) (hd : checkD d = 0) {n : Nat} (hn : n = d.length) : ACalls Try.prog 32 [.ro (d.map partC)] (fun k => .sl k 0 n) (fun _ => [⟨3, (startsD d).map intC⟩]) := by
  have hs := check_len hd
  have hs1 : d.length ≤ 1000000 := by omega
  obtain ⟨X, hX⟩ : ∃ X, X = d.map partC := ⟨_, rfl⟩
  obtain ⟨Y0, hY0⟩ : ∃ Y, Y = (List.replicate d.length (0 : Int)).map intC := ⟨_, rfl⟩
  have hcl := closed_int (l := startsD d) rfl
  rw [← hX]
  refine acalls_symF tabF_ok fn32 rfl rfl rfl (by kernel_rfl) ?_
  rintro ⟨lt, le, eq, se, ar, dv, una, conv, len, sln, nat, nth, ixs, cel, sto, app, cpy, slc, mak, ixv, oth, dk, ib, call⟩ hS hm Q hQ
  obtain ⟨hlt, hle, heq, hse, har, hdv, huna, hconv, hlen, hsln, hnat, hnth, hixs, hcel, hsto, happ, hcpy, hslc, hmak, hixv, hoth, hdk, hib, hcall⟩ := Sym.mk.inj hS
  clear hS
  have hnt : ∀ n : Nat, nat n = U.natI n := fun n => by rw [hnat]; rfl
  have hbox : ∀ e c off, cel (some ⟨e, [c]⟩) 0 off = if off ≤ c.length then some (c.drop off) else none := fun e c off => by rw [hcel]; rfl
  have hsbox : ∀ e c off sz y, sto (some ⟨e, [c]⟩) 0 off sz y = if y.cells.length = sz ∧ off + sz ≤ c.length ∧ y.cells.all AV.one = true then some ⟨e, [spl c off y.cells]⟩ else none := fun e c off sz y => by rw [hsto]; rfl
  have hcaw : ∀ {f args T base K}, CallK Try.prog f args T base K → call f args T base K := fun h => by rw [hcall]; exact h
  have hcal : ∀ {f args T base} {K : AV → Table → List Nat → List Nat → Prop}, (∃ args' ids val rows, Hands T ids args args' (val base) (rows base) ∧ ACalls Try.prog f args' val rows ∧ (rows base).length ≤ 8 ∧ K (val base) (adopt T base (rows base)) ids ((List.range (rows base).length).map (base + ·))) → call f args T base K := fun h => hcaw (call_own h)
  have hnX : len X = d.length := by rw [hlen, hX, len_map]
  have hmk : ∀ (T : Table) id, mak T id 40 (.flat (.int .i64 (len X))) (.flat (.int .i64 (len X))) = some (.sl id 0 n, T.set id (some ⟨3, Y0⟩)) := fun T id => by
    rw [hmak, hnX, hY0, hn]
    exact mak_int T id d.length hs1
  have hmx : ∀ (T : Table) id ρ x y ts a b, ρ x = some (.flat (.int .i64 a)) → ρ y = some (.flat (.int .i64 b)) → oth T id ρ 3 (.call { callee := .builtin .max, args := #[x, y], argTypes := ts }) = some (.flat (.int .i64 (max a b)), T) := fun T id ρ x y ts a b h1 h2 => by
    rw [hoth]; exact oth_max h1 h2
  cbv
  rw [hmk]; cbv
  refine MW_loopZ hm [.slot 4 3] [24, 72] [3, 4, 11, 12, 13] 14 (by simp) (fun mz st => ∃ (i : Int) (o : List Int) (ts : List Tr) (m : Nat) (Y Z : List (List AV)), StkAt d i ts ∧ OutAt d i o ∧ Y = o.map intC ∧ Z = (offs ts 0).map intC ∧ m = ts.length ∧ mz = U.left d.length i ∧ st = stOf [.dead, .dead, .dead, .sl 0 0 n, .sl 1 0 m, .dead, .dead, .dead, .dead, .dead, .dead, .ro X, .flat (.int .i64 (len X)), .flat (.int .i64 i)] [some ⟨3, Y⟩, some ⟨3, Z⟩] 2) (U.left d.length 0) ?_ ?_
  · exact ⟨0, _, [], 0, Y0, [], stk_zero d, outAt_zero d, hY0, rfl, rfl, rfl, cut_eq (by cbv) (cutRows_cons (by rfl) (closed_int hY0) (cutRows_cons (by rfl) (fun c hc => by cases hc) rfl))⟩
  rintro mz st ⟨i, o, ts, m, Y, Z, hi, ho, hY, hZ, hm1, hmz, rfl⟩
  cases hc : lt i (len X)
  · have hc' : decide (i < (d.length : Int)) = false := by rw [hlt, hnX] at hc; exact hc
    have hend := outAt_end ho hi.1 hc'
    cbv
    rw [hc]; cbv
    exact hQ _ _ trivial (leaves_own (k := 0) (by cbv) (by rw [← hend, ← hY]; rfl) hcl)
  have hc' : decide (i < (d.length : Int)) = true := by rw [hlt, hnX] at hc; exact hc
  obtain ⟨hix, hadd, q1, q2, hmem, hdr, htk⟩ := at_round (sz := 3) hX (fun _ => rfl) hs1 hi.1 hc'
  rw [← hnth] at hix
  rw [← har] at hadd
  obtain ⟨_, i0, i1⟩ := at_lt hi.1 hc'
  obtain ⟨r1, r2, r3, r4, r5⟩ := stk_step hd hi hc'
  have htc := takes_calls (atI d i).kind
  obtain ⟨k, hk⟩ : ∃ k : Nat, takes (atI d i).kind = k := ⟨_, (Int.toNat_of_nonneg r2).symm⟩
  have hk1 : (takes (atI d i).kind).toNat = k := by omega
  rw [hk1] at r5
  have hpo := popoff (ts := ts) hk1 r5
  have hset := outAt_set ho i0 i1 rfl
  have hn0 : o.length = n := by rw [hn]; exact ho.1
  obtain ⟨w1, w2, w3⟩ := own_int hY hn0 i0 (by rw [hn]; exact i1)
  obtain ⟨Y1, hY1⟩ : ∃ Y1, Y1 = (o.set i.toNat i).map intC := ⟨_, rfl⟩
  obtain ⟨Y2, hY2⟩ : ∃ Y2, Y2 = (o.set i.toNat (startD d i)).map intC := ⟨_, rfl⟩
  obtain ⟨Z2, hZ2⟩ : ∃ Z2, Z2 = (offs (pushT ts (atI d i)) 0).map intC := ⟨_, rfl⟩
  have hmb : m ≤ 1000000 := by
    have h := congrArg List.length hi.2.2.1
    rw [List.length_take] at h
    have : ts.length ≤ (flats ts).length := by
      clear hpo hi hZ hm1 r1 r3 r4 r5 hZ2 hk h
      induction ts with
      | nil => exact Nat.zero_le _
      | cons t l ih => have := flat_pos t; simp only [flats, List.flatMap_cons, List.length_cons, List.length_append] at ih ⊢; omega
    omega
  have hk2 : k ≤ m := by omega
  have hsub : ar .sub .i64 (nat m) (takes (atI d i).kind) = ((m - k : Nat) : Int) := by rw [har, hnt, hk]; unfold natI; rw [ar_sub64 (by omega) (by omega)]; omega
  have hl1 : (o.set i.toNat i).length = n := by rw [List.length_set]; exact hn0
  obtain ⟨v1, v2, v3⟩ := own_int hY1 hl1 i0 (by rw [hn]; exact i1)
  have hgi : (o.set i.toNat i)[i.toNat]? = some i := by rw [List.getElem?_set, if_pos rfl, if_pos (by omega)]
  have hat1 : atI (o.set i.toNat i) i = i := by simp [atI, List.getD, hgi]
  have hss : (o.set i.toNat i).set i.toNat (startD d i) = o.set i.toNat (startD d i) := by rw [List.set_set]
  have hs0 : k = 0 → startD d i = i := fun h => by
    subst h
    rw [r5]
    have : restT ts 0 = ts := by simp [restT]
    rw [this, hi.2.2.1, List.length_take]
    have := (at_lt hi.1 hc').1
    omega
  have hg2 : k ≠ 0 → (∀ id, ixSl Try.prog (some ⟨3, Z⟩) id 0 m ((m - k : Nat) : Int) 1 = some (.ptr id ((m - k : Nat) : Int).toNat 0)) ∧ ptrCells (some ⟨3, Z⟩) ((m - k : Nat) : Int).toNat 0 = some [.flat (.int .i64 (startD d i))] := fun h => by
    have hol : (offs ts 0).length = m := by rw [offs_len, hm1]
    obtain ⟨x1, x2, _⟩ := own_int hZ hol (i := ((m - k : Nat) : Int)) (by omega) (by omega)
    refine ⟨x1, x2.trans ?_⟩
    have hg := offs_get (ts := ts) (k := m - k) (by omega)
    have : atI (offs ts 0) ((m - k : Nat) : Int) = startD d i := by
      simp only [atI, List.getD, Int.toNat_natCast, hg]
      rw [r5, hm1]; rfl
    rw [this]
  have hZl : m ≤ Z.length := by rw [hZ, List.length_map, offs_len, hm1]; exact Nat.le_refl _
  have hsl : ∀ (T : Table) id, T id = some ⟨3, Z⟩ → slc T 40 (.sl id 0 m) none (some (.flat (.int .i64 ((m - k : Nat) : Int)))) = some (.sl id 0 (m - k)) := fun T id hT => by
    rw [hslc, slc_sl u40 z3 hT c3 hZl (bnd_hi (by omega) (by omega))]
    simp
  obtain ⟨m2, hm2⟩ : ∃ m2, m2 = m - k + 1 := ⟨_, rfl⟩
  have hap : ∀ (T : Table) id k0 kk, T k0 = some ⟨3, Z⟩ → T kk = some ⟨3, [[.flat (.int .i64 (startD d i))]]⟩ → kk ≠ k0 → app T id 40 40 (.sl k0 0 (m - k)) (.sl kk 0 1) = some (.sl id 0 m2, (T.set k0 none).set id (some ⟨3, Z2⟩)) := fun T id k0 kk h1 h2 h3 => by
    rw [happ]
    exact app_tip u40 z3 c3 (by decide) rfl (by decide) h1 h2 h3 rfl (by omega) hm2 (by rw [hZ2, hpo, hZ, List.map_append, hm1, List.map_take]; rfl) (by omega)
  have hm3 : m2 = (pushT ts (atI d i)).length := by
    have h1 := congrArg List.length hpo
    rw [offs_len, List.length_append, List.length_take, offs_len] at h1
    simp at h1; omega
  have hl2 : (o.set i.toNat (startD d i)).length = n := by rw [List.length_set]; exact hn0
  obtain ⟨u1, u2, _⟩ := own_int hY2 hl2 i0 (by rw [hn]; exact i1)
  have hgi2 : (o.set i.toNat (startD d i))[i.toNat]? = some (startD d i) := by rw [List.getElem?_set, if_pos rfl, if_pos (by omega)]
  have hat2 : atI (o.set i.toNat (startD d i)) i = startD d i := by simp [atI, List.getD, hgi2]
  rw [hat2, ← hcel] at u2
  rw [← hixs] at u1
  rw [← hixs] at w1 v1 hg2
  rw [← hcel] at v2 hg2
  rw [← hsto] at w3 v3
  have w3 := w3 i
  have v3 := v3 (startD d i)
  rw [hat1] at v2
  rw [hss] at v3
  rw [← hY1] at w3
  rw [← hY2] at v3
  have hmax : max ((m - k : Nat) : Int) 0 = ((m - k : Nat) : Int) := by omega
  have e1 : le 0 ((m - k : Nat) : Int) = true := by rw [hle]; exact decide_eq_true (by omega)
  have e2 : lt ((m - k : Nat) : Int) (nat m) = decide (k ≠ 0) := by rw [hlt, hnt]; unfold natI; rw [decide_eq_decide]; omega
  have hg3 : decide (k ≠ 0) = true → _ := fun h => hg2 (of_decide_eq_true h)
  have hs3 : decide (k ≠ 0) = false → startD d i = i := fun h => hs0 (by simpa using h)
  generalize decide (k ≠ 0) = b2 at e2 hg3 hs3
  generalize pushT ts (atI d i) = ts2 at r1 hZ2 hm3
  generalize i.toNat = iN at w1 v1 v2 w3 v3 u1 u2 hY1 hY2 hset
  generalize startD d i = sv at v3 u2 hY2 hset hg3 hs3 hap
  generalize i + 1 = i2 at hadd q1 q2 r1 hset
  clear hl2 hgi2 hat2 hg2 hs0 hpo hk1 r4 r5 r2 r3 hmem hdr htk hss hat1 hgi w2 hk
  generalize (((m - k : Nat) : Int)).toNat = jN at hg3
  generalize (((m - k : Nat) : Int)) = jI at hsub hsl e1 e2 hg3 hmax
  generalize m - k = mk at hsl hap
  generalize atI d i = p at hix htc hsub
  obtain ⟨kd, pn, tx⟩ := p
  unfold partC at hix
  dsimp only at hix htc hsub
  generalize takes kd = tk at htc hsub
  cbv
  rw [hc]; cbv
  repeat (first | (rw [hbox]; cbv) | (rw [hsbox]; cbv) | (rw [hix]; cbv))
  refine hcal ⟨_, [], _, _, .inl ⟨rfl, by cbv⟩, htc, by simp, ?_⟩
  cbv
  rw [hsub]; cbv
  repeat (first | (rw [hbox]; cbv) | (rw [hsbox]; cbv) | (rw [w1]; cbv) | (rw [w3]; cbv) | (rw [e1]; cbv) | (rw [e2]; cbv))
  cases b2
  · obtain rfl := hs3 rfl
    cbv
    refine ⟨by rw [hdk]; kernel_rfl, ?_⟩
    rw [hmx _ _ _ _ _ _ _ _ (by rfl) (by rfl), hmax]; cbv
    rw [hsl _ _ (by rfl)]; cbv
    rw [v1]; cbv
    rw [v2]; cbv
    rw [hap _ _ _ _ (by rfl) (by rfl) (by decide)]; cbv
    refine ⟨by rw [hib]; kernel_rfl, ?_⟩
    cbv
    rw [hadd]
    exact ⟨[0, 290], [3, 4, 11, 12, 13], 14, U.left d.length i2, hmz ▸ q2, by simp, i2, _, ts2, m2, Y1, Z2, r1, hset, hY1, hZ2, hm3, rfl, cut_eq (by cbv) (cutRows_cons (by rfl) (closed_int hY1) (cutRows_cons (by rfl) (closed_int hZ2) rfl))⟩
  · obtain ⟨x1, x2⟩ := hg3 rfl
    cbv
    rw [x1]; cbv
    rw [x2]; cbv
    rw [v1]; cbv
    rw [v3]
    cbv
    refine ⟨by rw [hdk]; kernel_rfl, ?_⟩
    rw [hmx _ _ _ _ _ _ _ _ (by rfl) (by rfl), hmax]; cbv
    rw [hsl _ _ (by rfl)]; cbv
    rw [u1]; cbv
    rw [u2]; cbv
    rw [hap _ _ _ _ (by rfl) (by rfl) (by decide)]; cbv
    refine ⟨by rw [hib]; kernel_rfl, ?_⟩
    cbv
    rw [hadd]
    exact ⟨[0, 354], [3, 4, 11, 12, 13], 14, U.left d.length i2, hmz ▸ q2, by simp, i2, _, ts2, m2, Y2, Z2, r1, hset, hY2, hZ2, hm3, rfl, cut_eq (by cbv) (cutRows_cons (by rfl) (closed_int hY2) (cutRows_cons (by rfl) (closed_int hZ2) rfl))⟩
end Go.Proofs.Ytagflbmonlaioaa.D
