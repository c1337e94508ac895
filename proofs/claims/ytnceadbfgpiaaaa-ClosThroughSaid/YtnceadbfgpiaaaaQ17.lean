/- P2, P3, C7, one behind the other. -/
import Derived.Test.YtnceadbfgpiaaaaQ11
/- Contracts: clos.closer.begin. -/
namespace Go.Proofs.Ytnceadbfgpiaaaa.C
open Go G U K I J F
set_option linter.unusedVariables false
set_option linter.unusedSimpArgs false
set_option maxRecDepth 100000
set_option maxHeartbeats 4000000
theorem fn39 : Try.prog.funcs[39]? = some Try.f39 := by kernel_rfl
theorem pleaves {P : Program} {fn : Func} {m : Nat} {st : St} {v : AV} {R1 : List (Option Row)} (ks : List Nat) (h : resA P fn st = some v) (hv : closedIn [] v = true) (hnd : ks.Nodup) (hp : ks.take m = List.range m) (h8 : ks.length ≤ m + 8) (hR : cutRows ks st.T ks = R1) : PLeaves P fn m v R1 st :=
  ⟨[], ks, v, h, ⟨hnd, hp, .inr rfl⟩, h8, closed_up v hv, ren_nil _ v hv, hR⟩
theorem begin_calls (g : GramT) (N : Int) (look : Nat) (s0 : WS) (j0 : Nat) (O0 : List (List AV)) (H : BgH g look s0 j0 O0) (h0 : ∀ c ∈ O0, closedAll [] c = true) (EE FF TH LK TH2 LK2 O2 : List (List AV)) (n0 j2 n2 : Nat) (e1 : TH = s0.th.map boolC) (e2 : LK = s0.lk.map setC) (e3 : n0 = s0.op.length)
    (d1 : TH2 = (bgT g N look g.prods.length s0).th.map boolC) (d2 : LK2 = (bgT g N look g.prods.length s0).lk.map setC) (d3 : OpAt s0 (bgT g N look g.prods.length s0) j0 O0 j2 O2 n2) (np : Nat) (hnp : np = g.prods.length) :
    PCalls Try.prog 39 3 [.ptr 0 0 0, .flat (.int .i64 N), .flat (.int .u64 (look : Int))] [⟨88, [gramL g ++ [.ro EE, .ro FF, .sl 1 0 np, .sl 2 0 np, .sl 3 j0 n0]]⟩, ⟨4, TH⟩, ⟨26, LK⟩, ⟨28, O0⟩] (.tup [])
      [some ⟨88, [gramL g ++ [.ro EE, .ro FF, .sl 1 0 np, .sl 2 0 np, .sl 3 j2 n2]]⟩, some ⟨4, TH2⟩, some ⟨26, LK2⟩, some ⟨28, O2⟩] := by
  have hz : BgAt g N look s0 j0 O0 0 TH LK j0 O0 n0 := by rw [e1, e2, e3]; exact bgAt_zero H
  have hend : ∀ (i : Int) (TH' LK' O : List (List AV)) (j n : Nat), BgAt g N look s0 j0 O0 i TH' LK' j O n → ¬ i < np → TH' = TH2 ∧ LK' = LK2 ∧ j = j2 ∧ O = O2 ∧ n = n2 := fun i TH' LK' O j n h hi => bgAt_end h (by rw [← hnp]; exact hi) d1 d2 d3
  have hrd := fun (i : Int) (TH' LK' O : List (List AV)) (j n : Nat) (h : BgAt g N look s0 j0 O0 i TH' LK' j O n) (hi : i < g.prods.length) => bg_round H h hi
  have hcl := fun (i : Int) (TH' LK' O : List (List AV)) (j n : Nat) (h : BgAt g N look s0 j0 O0 i TH' LK' j O n) => bgAt_closed h h0
  have hi0 : ∀ (i : Int) (TH' LK' O : List (List AV)) (j n : Nat), BgAt g N look s0 j0 O0 i TH' LK' j O n → 0 ≤ i := fun i TH' LK' O j n h => h.i0
  have hDl : lenE (g.prods.map prodC) = (np : Int) := by rw [hnp]; exact len_map _ _
  have hnth : ∀ i : Int, 0 ≤ i → i < np → nthE (g.prods.map prodC) i 6 = some (.rp (prodC (atI g.prods i))) := fun i a b => nth_map (f := prodC) (fun _ => rfl) a (by rw [← hnp]; exact b)
  have hb : np ≤ 1000 := by rw [hnp]; exact H.np
  rw [← hnp] at hrd
  clear d1 d2 d3 e1 e2 e3 H
  generalize hBA : BgAt g N look s0 j0 O0 = BA at *
  have hrd2 : ∀ (i : Int) (TH' LK' O : List (List AV)) (j n : Nat), BA i TH' LK' j O n → i < np → ∃ (srt pc : Int) (con : ByteArray) (bd hn : List (List AV)) (pr tk : Bool) (lx ox : Int),
      nthE (g.prods.map prodC) i 6 = some (.rp [.flat (.int .i64 srt), .flat (.string con), .ro bd, .flat (.bool pr), .flat (.int .i64 pc), .ro hn]) ∧
      (∀ id, ixSl Try.prog (some ⟨4, TH'⟩) id 0 np i 1 = some (.ptr id i.toNat 0)) ∧ ptrCells (some ⟨4, TH'⟩) i.toNat 0 = some [.flat (.bool tk)] ∧
      (∀ id, ixSl Try.prog (some ⟨26, LK'⟩) id 0 np i 1 = some (.ptr id i.toNat 0)) ∧ ptrCells (some ⟨26, LK'⟩) i.toNat 0 = some [.flat (.int .u64 lx)] ∧ arI .or .u64 lx (look : Int) = ox ∧
      (¬ srt = N → BA (i + 1) TH' LK' j O n) ∧ (srt = N → tk = true → ox = lx → BA (i + 1) TH' LK' j O n) ∧
      (srt = N → (tk = false ∨ ¬ ox = lx) → ∃ T2 L2 O2, storeRow (some ⟨4, TH'⟩) i.toNat 0 1 (.flat (.bool true)) = some ⟨4, T2⟩ ∧ storeRow (some ⟨26, LK'⟩) i.toNat 0 1 (.flat (.int .u64 ox)) = some ⟨26, L2⟩ ∧ ptrCells (some ⟨26, L2⟩) i.toNat 0 = some [.flat (.int .u64 ox)] ∧
        (∀ id, ixSl Try.prog (some ⟨26, L2⟩) id 0 np i 1 = some (.ptr id i.toNat 0)) ∧
        (∀ (T : Table) (id k0 k : Nat), T k0 = some ⟨28, O⟩ → T k = some ⟨28, [[.flat (.int .i64 i), .flat (.int .i64 0), .flat (.int .u64 ox)]]⟩ → k ≠ k0 → evAppend Try.prog T id 22 22 (.sl k0 j n) (.sl k 0 1) = some (.sl id 0 (n + 1), (T.set k0 none).set id (some ⟨28, O2⟩))) ∧
        BA (i + 1) T2 L2 0 O2 (n + 1)) ∧ arI .add .i64 i 1 = i + 1 ∧ np - (i + 1).toNat < np - i.toNat := fun i TH' LK' O j n h hi => by
    have q0 := hi0 i TH' LK' O j n h
    obtain ⟨tk, lx, ox, r1, r2, r3, r4, r5, r6, r7, r8⟩ := hrd i TH' LK' O j n h hi
    exact ⟨_, _, _, _, _, _, tk, lx, ox, hnth i q0 hi, r1, r2, r3, r4, r5, r6, r7, r8, ar_add64 (by omega) (by omega), by omega⟩
  clear hrd hnth hb hi0 hBA hnp h0
  generalize (look : Int) = lookI at *
  unfold gramL
  generalize g.rules.map ruleC = R at *
  generalize g.sorts.map strC = S at *
  generalize g.prods.map prodC = D at *
  generalize g.levels.map levC = V at *
  generalize g.start = start at *
  refine pcalls_symF tabF_ok 3 (by decide) (by simp) fn39 rfl rfl rfl (by kernel_rfl) ?_
  rintro ⟨lt, le, eq, se, ar, dv, una, conv, len, sln, nat, nth, ixs, cel, sto, app, cpy, slc, mak, ixv, oth, dk, ib, call⟩ hS hm Q hQ
  obtain ⟨hlt, hle, heq, hse, har, hdv, huna, hconv, hlen, hsln, hnat, hnth, hixs, hcel, hsto, happ, hcpy, hslc, hmak, hixv, hoth, hdk, hib, hcall⟩ := Sym.mk.inj hS
  clear hS
  have hnt : ∀ n : Nat, nat n = U.natI n := fun n => by rw [hnat]; rfl
  have hbox : ∀ e c off, cel (some ⟨e, [c]⟩) 0 off = if off ≤ c.length then some (c.drop off) else none := fun e c off => by rw [hcel]; rfl
  have hsbox : ∀ e c off sz y, sto (some ⟨e, [c]⟩) 0 off sz y = if y.cells.length = sz ∧ off + sz ≤ c.length ∧ y.cells.all AV.one = true then some ⟨e, [spl c off y.cells]⟩ else none := fun e c off sz y => by rw [hsto]; rfl
  have hcaw : ∀ {f args T base K}, CallK Try.prog f args T base K → call f args T base K := fun h => by rw [hcall]; exact h
  have hcal : ∀ {f args T base} {K : AV → Table → List Nat → List Nat → Prop}, (∃ args' ids val rows, Hands T ids args args' (val base) (rows base) ∧ ACalls Try.prog f args' val rows ∧ (rows base).length ≤ 8 ∧ K (val base) (adopt T base (rows base)) ids ((List.range (rows base).length).map (base + ·))) → call f args T base K := fun h => hcaw (call_own h)
  have hX2 : len D = (np : Int) := by rw [hlen]; exact hDl
  replace hrd2 : ∀ (i : Int) (TH' LK' O : List (List AV)) (j n : Nat), BA i TH' LK' j O n → lt i (len D) = true → ∃ (srt pc : Int) (con : ByteArray) (bd hn : List (List AV)) (pr tk : Bool) (lx ox : Int) (n3 : Nat) (i2 : Int) (iN : Nat), i2.toNat = iN + 1 ∧ i.toNat = iN ∧
      nth D i 6 = some (.rp [.flat (.int .i64 srt), .flat (.string con), .ro bd, .flat (.bool pr), .flat (.int .i64 pc), .ro hn]) ∧
      (∀ id, ixs (some ⟨4, TH'⟩) id 0 np i 1 = some (.ptr id iN 0)) ∧ cel (some ⟨4, TH'⟩) iN 0 = some [.flat (.bool tk)] ∧
      (∀ id, ixs (some ⟨26, LK'⟩) id 0 np i 1 = some (.ptr id iN 0)) ∧ cel (some ⟨26, LK'⟩) iN 0 = some [.flat (.int .u64 lx)] ∧ ar .or .u64 lx lookI = ox ∧
      (eq srt N = false → BA i2 TH' LK' j O n) ∧ (eq srt N = true → tk = true → eq ox lx = true → BA i2 TH' LK' j O n) ∧
      (eq srt N = true → (tk = false ∨ eq ox lx = false) → ∃ T2 L2 O2, sto (some ⟨4, TH'⟩) iN 0 1 (.flat (.bool true)) = some ⟨4, T2⟩ ∧ sto (some ⟨26, LK'⟩) iN 0 1 (.flat (.int .u64 ox)) = some ⟨26, L2⟩ ∧ cel (some ⟨26, L2⟩) iN 0 = some [.flat (.int .u64 ox)] ∧
        (∀ id, ixs (some ⟨26, L2⟩) id 0 np i 1 = some (.ptr id iN 0)) ∧
        (∀ (T : Table) (id k0 k : Nat), T k0 = some ⟨28, O⟩ → T k = some ⟨28, [[.flat (.int .i64 i), .flat (.int .i64 0), .flat (.int .u64 ox)]]⟩ → k ≠ k0 → app T id 22 22 (.sl k0 j n) (.sl k 0 1) = some (.sl id 0 n3, (T.set k0 none).set id (some ⟨28, O2⟩))) ∧
        BA i2 T2 L2 0 O2 n3) ∧ ar .add .i64 i 1 = i2 ∧ np - i2.toNat < np - iN := fun i TH' LK' O j n h hc => by
    rw [hlt, hX2] at hc
    obtain ⟨srt, pc, con, bd, hn, pr, tk, lx, ox, r1, r2, r3, r4, r5, r6, r7, r8, r9, r10, r11⟩ := hrd2 i TH' LK' O j n h (of_decide_eq_true hc)
    refine ⟨srt, pc, con, bd, hn, pr, tk, lx, ox, n + 1, i + 1, i.toNat, by omega, rfl, by rw [hnth]; exact r1, fun id => by rw [hixs]; exact r2 id, by rw [hcel]; exact r3, fun id => by rw [hixs]; exact r4 id, by rw [hcel]; exact r5, by rw [har]; exact r6, fun e => r7 ?_, fun e t o => r8 ?_ t ?_, fun e o => ?_, by rw [har]; exact r10, r11⟩
    · rw [heq] at e; exact of_decide_eq_false e
    · rw [heq] at e; exact of_decide_eq_true e
    · rw [heq] at o; exact of_decide_eq_true o
    · obtain ⟨T2, L2, O2, s1, s2, s3, s4, s5, s6⟩ := r9 (by rw [heq] at e; exact of_decide_eq_true e) (o.imp id fun o => by rw [heq] at o; exact of_decide_eq_false o)
      exact ⟨T2, L2, O2, by rw [hsto]; exact s1, by rw [hsto]; exact s2, by rw [hcel]; exact s3, fun id => by rw [hixs]; exact s4 id, fun T id k0 k a b c => by rw [happ]; exact s5 T id k0 k a b c, s6⟩
  replace hend : ∀ (i : Int) (TH' LK' O : List (List AV)) (j n : Nat), BA i TH' LK' j O n → lt i (len D) = false → TH' = TH2 ∧ LK' = LK2 ∧ j = j2 ∧ O = O2 ∧ n = n2 := fun i TH' LK' O j n h hc => by
    rw [hlt, hX2] at hc
    exact hend i TH' LK' O j n h (of_decide_eq_false hc)
  clear hX2 hDl
  obtain ⟨cl1, cl2, cl3⟩ := hcl _ _ _ _ _ _ hz
  cbv
  repeat (first | (rw [hbox]; cbv) | (rw [hsbox]; cbv))
  refine MW_loopP hm [0, 1, 2, 3] [0, 1, 2, 12, 13, 14] 15 ⟨by simp, by rfl⟩ (fun mz st => ∃ (i : Int) (TH' LK' O : List (List AV)) (j n : Nat), BA i TH' LK' j O n ∧ mz = np - i.toNat ∧ st = stOf [.ptr 0 0 0, .flat (.int .i64 N), .flat (.int .u64 lookI), .dead, .dead, .dead, .dead, .dead, .dead, .dead, .dead, .dead, .ro D, .flat (.int .i64 (len D)), .flat (.int .i64 i)] [some ⟨88, [[.ro R, .ro S, .ro D, .ro V, .flat (.int .i64 start), .ro EE, .ro FF, .sl 1 0 np, .sl 2 0 np, .sl 3 j n]]⟩, some ⟨4, TH'⟩, some ⟨26, LK'⟩, some ⟨28, O⟩] 4) (np - (0 : Int).toNat) ?_ ?_
  · exact ⟨0, TH, LK, O0, j0, n0, hz, rfl, cut_eq (by cbv) (cutRows_box (by rfl) (by rfl) (by rfl) (cutRows_cons (by rfl) (cl1) (cutRows_cons (by rfl) (cl2) (cutRows_cons (by rfl) (cl3) rfl))))⟩
  rintro mz st ⟨i, TH', LK', O, j, n, hi, hmz, rfl⟩
  obtain ⟨k1, k2, k3⟩ := hcl _ _ _ _ _ _ hi
  cases hc : lt i (len D)
  · obtain ⟨rfl, rfl, rfl, rfl, rfl⟩ := hend _ _ _ _ _ _ hi hc
    cbv
    rw [hc]; cbv
    exact hQ _ _ trivial (pleaves [0, 1, 2, 3] (by cbv) rfl (by simp) (by rfl) (by simp) (cutRows_box (by rfl) (by rfl) (by rfl) (cutRows_cons (by rfl) (k1) (cutRows_cons (by rfl) (k2) (cutRows_cons (by rfl) (k3) rfl)))))
  obtain ⟨srt, pc, con, bd, hn, pr, tk, lx, ox, n3, i2, iN, v1, v2, r1, r2, r3, r4, r5, r6, r7, r8, r9, r10, r11⟩ := hrd2 _ _ _ _ _ _ hi hc
  rw [v2] at hmz
  clear hrd2 hend v1 v2
  cases es : eq srt N
  · have r7 := r7 es
    cbv
    rw [hc]; cbv
    rw [r1]; cbv
    repeat (first | (rw [hbox]; cbv) | (rw [hsbox]; cbv) | (rw [r1]; cbv))
    refine ⟨by rw [hdk]; kernel_rfl, ?_⟩
    repeat (first | (rw [hbox]; cbv) | (rw [hsbox]; cbv) | (rw [es]; cbv))
    refine ⟨by rw [hib]; kernel_rfl, ?_⟩
    cbv
    rw [r10]
    exact ⟨[0, 1, 2, 3], [0, 1, 2, 12, 13, 14], 15, np - i2.toNat, hmz ▸ r11, ⟨by simp, by rfl⟩, i2, TH', LK', O, j, n, r7, rfl, cut_eq (by cbv) (cutRows_box (by rfl) (by rfl) (by rfl) (cutRows_cons (by rfl) (k1) (cutRows_cons (by rfl) (k2) (cutRows_cons (by rfl) (k3) rfl))))⟩
  cases tk
  · obtain ⟨T2, L2, O3, s1, s2, s3, s4, s5, s6⟩ := r9 es (.inl rfl)
    obtain ⟨k4, k5, k6⟩ := hcl _ _ _ _ _ _ s6
    cbv
    rw [hc]; cbv
    repeat (first | (rw [hbox]; cbv) | (rw [hsbox]; cbv) | (rw [r1]; cbv))
    refine ⟨by rw [hdk]; kernel_rfl, ?_⟩
    repeat (first | (rw [hbox]; cbv) | (rw [hsbox]; cbv) | (rw [es]; cbv) | (rw [r2]; cbv) | (rw [r3]; cbv))
    refine ⟨by rw [hib]; kernel_rfl, ?_⟩
    cbv
    repeat (first | (rw [hbox]; cbv) | (rw [hsbox]; cbv) | (rw [s1]; cbv) | (rw [r2]; cbv) | (rw [r4]; cbv) | (rw [r5]; cbv) | (rw [r6]; cbv) | (rw [s2]; cbv))
    refine ⟨by rw [hdk]; kernel_rfl, ?_⟩
    repeat (first | (rw [hbox]; cbv) | (rw [hsbox]; cbv) | (rw [s3]; cbv) | (rw [s4]; cbv))
    rw [s5 _ _ _ _ (by rfl) (by rfl) (by decide)]; cbv
    repeat (first | (rw [hbox]; cbv) | (rw [hsbox]; cbv))
    refine ⟨by rw [hib]; kernel_rfl, ?_⟩
    cbv
    rw [r10]
    exact ⟨[0, 1, 2, 580], [0, 1, 2, 12, 13, 14], 15, np - i2.toNat, hmz ▸ r11, ⟨by simp, by rfl⟩, i2, T2, L2, O3, 0, n3, s6, rfl, cut_eq (by cbv) (cutRows_box (by rfl) (by rfl) (by rfl) (cutRows_cons (by rfl) (k4) (cutRows_cons (by rfl) (k5) (cutRows_cons (by rfl) (k6) rfl))))⟩
  cases eo : eq ox lx
  rotate_left
  · have r8 := r8 es rfl eo
    cbv
    rw [hc]; cbv
    repeat (first | (rw [hbox]; cbv) | (rw [hsbox]; cbv) | (rw [r1]; cbv))
    refine ⟨by rw [hdk]; kernel_rfl, ?_⟩
    repeat (first | (rw [hbox]; cbv) | (rw [hsbox]; cbv) | (rw [es]; cbv) | (rw [r2]; cbv) | (rw [r3]; cbv) | (rw [r4]; cbv) | (rw [r5]; cbv) | (rw [r6]; cbv) | (rw [eo]; cbv))
    refine ⟨by rw [hib]; kernel_rfl, ?_⟩
    cbv
    rw [r10]
    exact ⟨[0, 1, 2, 3], [0, 1, 2, 12, 13, 14], 15, np - i2.toNat, hmz ▸ r11, ⟨by simp, by rfl⟩, i2, TH', LK', O, j, n, r8, rfl, cut_eq (by cbv) (cutRows_box (by rfl) (by rfl) (by rfl) (cutRows_cons (by rfl) (k1) (cutRows_cons (by rfl) (k2) (cutRows_cons (by rfl) (k3) rfl))))⟩
  obtain ⟨T2, L2, O3, s1, s2, s3, s4, s5, s6⟩ := r9 es (.inr eo)
  obtain ⟨k4, k5, k6⟩ := hcl _ _ _ _ _ _ s6
  cbv
  rw [hc]; cbv
  repeat (first | (rw [hbox]; cbv) | (rw [hsbox]; cbv) | (rw [r1]; cbv))
  refine ⟨by rw [hdk]; kernel_rfl, ?_⟩
  repeat (first | (rw [hbox]; cbv) | (rw [hsbox]; cbv) | (rw [es]; cbv) | (rw [r2]; cbv) | (rw [r3]; cbv) | (rw [r4]; cbv) | (rw [r5]; cbv) | (rw [r6]; cbv) | (rw [eo]; cbv))
  refine ⟨by rw [hib]; kernel_rfl, ?_⟩
  cbv
  repeat (first | (rw [hbox]; cbv) | (rw [hsbox]; cbv) | (rw [s1]; cbv) | (rw [r2]; cbv) | (rw [r4]; cbv) | (rw [r5]; cbv) | (rw [r6]; cbv) | (rw [s2]; cbv))
  refine ⟨by rw [hdk]; kernel_rfl, ?_⟩
  repeat (first | (rw [hbox]; cbv) | (rw [hsbox]; cbv) | (rw [s3]; cbv) | (rw [s4]; cbv))
  rw [s5 _ _ _ _ (by rfl) (by rfl) (by decide)]; cbv
  repeat (first | (rw [hbox]; cbv) | (rw [hsbox]; cbv))
  refine ⟨by rw [hib]; kernel_rfl, ?_⟩
  cbv
  rw [r10]
  exact ⟨[0, 1, 2, 580], [0, 1, 2, 12, 13, 14], 15, np - i2.toNat, hmz ▸ r11, ⟨by simp, by rfl⟩, i2, T2, L2, O3, 0, n3, s6, rfl, cut_eq (by cbv) (cutRows_box (by rfl) (by rfl) (by rfl) (cutRows_cons (by rfl) (k4) (cutRows_cons (by rfl) (k5) (cutRows_cons (by rfl) (k6) rfl))))⟩
end Go.Proofs.Ytnceadbfgpiaaaa.C
/- Contracts: slices.Clone of items; the closed set is there. The second in plain Lean. -/
namespace Go.Proofs.Ytnceadbfgpiaaaa.C
open Go G U K I J F
set_option linter.unusedVariables false
set_option linter.unusedSimpArgs false
set_option maxRecDepth 100000
set_option maxHeartbeats 4000000
theorem fn38 : Try.prog.funcs[38]? = some Try.f38 := by kernel_rfl
theorem dvn (c : Nat) : dvOf Try.prog .eql 22 (.flat (.slice none 0 c)) (.flat (.slice none 0 0)) = some (.flat (.bool true)) := by
  rw [dvOf_eq]
  intro x y
  kernel_rfl
theorem dvs (a : Addr) (c : Nat) : dvOf Try.prog .eql 22 (.flat (.slice (some a) 0 c)) (.flat (.slice none 0 0)) = some (.flat (.bool false)) := by
  rw [dvOf_eq]
  intro x y
  kernel_rfl
theorem dvr (e : List AV) (X : List (List AV)) : dvOf Try.prog .eql 22 (.ro (e :: X)) (.flat (.slice none 0 0)) = some (.flat (.bool false)) := by
  rw [dvOf_eq]
  intro x y
  kernel_rfl
theorem len3 {Y : List (List AV)} {l : List ItemT} (hY : Y = l.map itemC) : ∀ c ∈ Y, c.length = 3 := by
  rw [hY]; intro c hc; obtain ⟨p, _, rfl⟩ := List.mem_map.1 hc; rfl
theorem clone_nil : ACalls Try.prog 38 [.ro []] (fun k => .sl k 0 0) (fun _ => [⟨28, []⟩]) := by
  refine acalls_empty fun a c => ?_
  refine acalls_symF tabF_ok fn38 rfl rfl rfl (by kernel_rfl) ?_
  rintro ⟨lt, le, eq, se, ar, dv, una, conv, len, sln, nat, nth, ixs, cel, sto, app, cpy, slc, mak, ixv, oth, dk, ib, call⟩ hS hm Q hQ
  obtain ⟨hlt, hle, heq, hse, har, hdv, huna, hconv, hlen, hsln, hnat, hnth, hixs, hcel, hsto, happ, hcpy, hslc, hmak, hixv, hoth, hdk, hib, hcall⟩ := Sym.mk.inj hS
  clear hS
  have hnt : ∀ n : Nat, nat n = U.natI n := fun n => by rw [hnat]; rfl
  have hbox : ∀ e c off, cel (some ⟨e, [c]⟩) 0 off = if off ≤ c.length then some (c.drop off) else none := fun e c off => by rw [hcel]; rfl
  have hsbox : ∀ e c off sz y, sto (some ⟨e, [c]⟩) 0 off sz y = if y.cells.length = sz ∧ off + sz ≤ c.length ∧ y.cells.all AV.one = true then some ⟨e, [spl c off y.cells]⟩ else none := fun e c off sz y => by rw [hsto]; rfl
  have hcaw : ∀ {f args T base K}, CallK Try.prog f args T base K → call f args T base K := fun h => by rw [hcall]; exact h
  have hcal : ∀ {f args T base} {K : AV → Table → List Nat → List Nat → Prop}, (∃ args' ids val rows, Hands T ids args args' (val base) (rows base) ∧ ACalls Try.prog f args' val rows ∧ (rows base).length ≤ 8 ∧ K (val base) (adopt T base (rows base)) ids ((List.range (rows base).length).map (base + ·))) → call f args T base K := fun h => hcaw (call_own h)
  cases a with
  | none =>
    have hd := dvn c
    rw [← hdv] at hd
    cbv
    rw [hd]; cbv
    exact hQ _ _ trivial (leaves_nil 2 rfl (by rfl) rfl rfl)
  | some a =>
    have hd := dvs a c
    rw [← hdv] at hd
    obtain ⟨Y, hY⟩ : ∃ Y : List (List AV), Y = [] := ⟨_, rfl⟩
    have ha : ∀ (T : Table) id k0, T k0 = some ⟨28, []⟩ → app T id 22 22 (.sl k0 0 0) (.flat (.slice (some a) 0 c)) = some (.sl id 0 0, (T.set k0 none).set id (some ⟨28, Y⟩)) := fun T id k0 hT => by
      rw [happ]
      exact app_gen u22 u22 rfl z28 (by decide) rfl (by decide) hT rfl rfl (fun c hc => by cases hc) (Nat.le_refl _) rfl hY (by decide)
    cbv
    rw [hd]; cbv
    rw [ha _ _ _ (by rfl)]; cbv
    exact hQ _ _ trivial (leaves_own (k := 40) (by cbv) (by rw [← hY]; rfl) (fun c hc => by cases hc))
theorem clone_calls (d : List ItemT) (hs : d.length ≤ 1000000) {n : Nat} (hn : n = d.length) : ACalls Try.prog 38 [.ro (d.map itemC)] (fun k => .sl k 0 n) (fun _ => [⟨28, d.map itemC⟩]) := by
  cases d with
  | nil => subst hn; exact clone_nil
  | cons p d =>
  obtain ⟨X, hX⟩ : ∃ X, X = (p :: d).map itemC := ⟨_, rfl⟩
  have hd := dvr (itemC p) (d.map itemC)
  rw [show itemC p :: d.map itemC = (p :: d).map itemC from rfl, ← hX] at hd
  rw [← hX]
  have hnX : n = X.length := by rw [hX, hn, List.length_map]
  have h3 := len3 hX
  have hcl : ∀ c ∈ X, closedAll [] c = true := by rw [hX]; exact closed_map fun _ => rfl
  have hnle : n ≤ 100000000 := by omega
  clear hn hX
  refine acalls_symF tabF_ok fn38 rfl rfl rfl (by kernel_rfl) ?_
  rintro ⟨lt, le, eq, se, ar, dv, una, conv, len, sln, nat, nth, ixs, cel, sto, app, cpy, slc, mak, ixv, oth, dk, ib, call⟩ hS hm Q hQ
  obtain ⟨hlt, hle, heq, hse, har, hdv, huna, hconv, hlen, hsln, hnat, hnth, hixs, hcel, hsto, happ, hcpy, hslc, hmak, hixv, hoth, hdk, hib, hcall⟩ := Sym.mk.inj hS
  clear hS
  have hnt : ∀ n : Nat, nat n = U.natI n := fun n => by rw [hnat]; rfl
  have hbox : ∀ e c off, cel (some ⟨e, [c]⟩) 0 off = if off ≤ c.length then some (c.drop off) else none := fun e c off => by rw [hcel]; rfl
  have hsbox : ∀ e c off sz y, sto (some ⟨e, [c]⟩) 0 off sz y = if y.cells.length = sz ∧ off + sz ≤ c.length ∧ y.cells.all AV.one = true then some ⟨e, [spl c off y.cells]⟩ else none := fun e c off sz y => by rw [hsto]; rfl
  have hcaw : ∀ {f args T base K}, CallK Try.prog f args T base K → call f args T base K := fun h => by rw [hcall]; exact h
  have hcal : ∀ {f args T base} {K : AV → Table → List Nat → List Nat → Prop}, (∃ args' ids val rows, Hands T ids args args' (val base) (rows base) ∧ ACalls Try.prog f args' val rows ∧ (rows base).length ≤ 8 ∧ K (val base) (adopt T base (rows base)) ids ((List.range (rows base).length).map (base + ·))) → call f args T base K := fun h => hcaw (call_own h)
  rw [← hdv] at hd
  have ha : ∀ (T : Table) id k0, T k0 = some ⟨28, []⟩ → app T id 22 22 (.sl k0 0 0) (.ro X) = some (.sl id 0 n, (T.set k0 none).set id (some ⟨28, X⟩)) := fun T id k0 hT => by
    rw [happ]
    exact app_ro u22 u22 z28 (by decide) rfl (by decide) hT h3 (Nat.le_refl _) (by rw [hnX]; exact (Nat.zero_add _).symm) rfl hnle
  cbv
  rw [hd]; cbv
  rw [ha _ _ _ (by rfl)]; cbv
  exact hQ _ _ trivial (leaves_own (k := 40) (by cbv) (by rfl) hcl)
/-! ### The closed set is there -/
theorem held_len {n : Nat} {st : WS} : (held n st).length ≤ n := by
  unfold held
  rw [List.length_map]
  exact Nat.le_trans (List.length_filter_le _ _) (by simp)
theorem held_ok {n : Nat} {st : WS} (h : ∀ q, st.l q < 18446744073709551616) : ∀ x ∈ held n st, okI64 x := fun x hx => by
  obtain ⟨q, _, _, rfl⟩ := held_mem.1 hx
  exact h q
theorem rule_nx {g : GramT} {E : List Bool} {F : List Nat} (x : ItemT) : (rule g E F).nx x.prod x.dot = if nextOk g x = true ∧ (nextS g x).sort = true then some (nextS g x).n else none := rfl
theorem insT_len {l : List ItemT} {x : ItemT} : (insT l x).length ≤ l.length + 1 := by
  unfold insT
  split
  · simp
  · simp only [List.length_append, List.length_take, List.length_drop, List.length_singleton]; omega
theorem ofT_len (l : List ItemT) : (ofT l).length ≤ l.length := by
  have key : ∀ (l a : List ItemT), (l.foldl insT a).length ≤ a.length + l.length := by
    intro l
    induction l with
    | nil => intro a; simp
    | cons x l ih =>
      intro a
      rw [List.foldl_cons, List.length_cons]
      have h1 := ih (insT a x)
      have h2 := insT_len (l := a) (x := x)
      omega
  have h := key l []
  simp only [List.length_nil, Nat.zero_add] at h
  exact h
theorem ofT_okI {l : List ItemT} (h : ∀ x ∈ l, okI64 x) : ∀ x ∈ ofT l, okI64 x := by
  have key : ∀ (l a : List ItemT), Sorted a → (∀ y ∈ a, okI64 y) → (∀ x ∈ l, okI64 x) → ∀ y ∈ l.foldl insT a, okI64 y := by
    intro l
    induction l with
    | nil => intro a _ h _; exact h
    | cons x l ih =>
      intro a hs ha hl
      rw [List.foldl_cons]
      exact ih _ (ins_sorted hs) (ins_ok ha hs (hl x (List.mem_cons_self ..))) fun y hy => hl y (List.mem_cons_of_mem _ hy)
  exact key l [] List.Pairwise.nil (fun y hy => by cases hy) h
section
variable {g : GramT} {E : List Bool} {F : List Nat} {l : List ItemT}
theorem cl_st (hF : Sets F) : ∀ (m : Nat) (st : WS), WI g E F l st → 2 * miss g.prods.length (held g.prods.length st) + st.op.length = m → ∃ st', WI g E F l st' ∧ st'.op = [] := by
  intro m
  induction m using Nat.strongRecOn with
  | ind m ih =>
    intro st h hm
    cases ho : st.op with
    | nil => exact ⟨st, h, ho⟩
    | cons x r =>
      cases hn : (rule g E F).nx x.prod x.dot with
      | none =>
        refine ih _ ?_ ⟨st.th, st.lk, r⟩ (wi_pop h ho hn) rfl
        have h2 : held g.prods.length ⟨st.th, st.lk, r⟩ = held g.prods.length st := rfl
        rw [h2, ← hm, ho]
        simp
      | some N =>
        obtain ⟨h1, h2⟩ := wi_begin hF h ho hn
        exact ih _ (by omega) _ h1 rfl
theorem cl_ex (g : GramT) (E : List Bool) (F : List Nat) (l : List ItemT) (hF : Sets F) (hl : ∀ x ∈ l, okI64 x) : ∃ S, CL (rule g E F) l S ∧ (∀ x ∈ S, okI64 x) ∧ S.length ≤ l.length + g.prods.length := by
  obtain ⟨st, h1, h2⟩ := cl_st hF _ _ (wi_zero (g := g) (E := E) (F := F) hl) rfl
  refine ⟨_, wi_end h1 h2, ?_, ?_⟩
  · refine ofT_okI fun x hx => ?_
    rcases List.mem_append.1 hx with h | h
    · exact hl x h
    · exact held_ok h1.ok x h
  · refine Nat.le_trans (ofT_len _) ?_
    rw [List.length_append]
    have := held_len (n := g.prods.length) (st := st)
    omega
end
end Go.Proofs.Ytnceadbfgpiaaaa.C
/- What clos.Close's walk stands on. No code is walked. -/
namespace Go.Proofs.Ytnceadbfgpiaaaa.C
open Go G U K I J F
set_option linter.unusedVariables false
set_option linter.unusedSimpArgs false
theorem c28b : Try.prog.cellsOf 28 = 3 := c28
/-- Within Close's loop. -/
structure ClAt (g : GramT) (E : List Bool) (F : List Nat) (l : List ItemT) (TH LK OP : List (List AV)) (j n m : Nat) (st : WS) : Prop where
  wi : WI g E F l st
  th : TH = st.th.map boolC
  lk : LK = st.lk.map setC
  row : OP.drop j = st.op.map itemC
  all : j + n = OP.length
  pn : n = st.op.length
  pm : m = 2 * miss g.prods.length (held g.prods.length st) + st.op.length
  le : m ≤ 1000000
  cl : ∀ c ∈ OP, closedAll [] c = true
def ClE (g : GramT) (E : List Bool) (F : List Nat) (l : List ItemT) (TH LK OP : List (List AV)) (j n m : Nat) : Prop := ∃ st, ClAt g E F l TH LK OP j n m st
section
variable {g : GramT} {E : List Bool} {F : List Nat} {l : List ItemT} {TH LK OP : List (List AV)} {j n m : Nat}
theorem miss_le (n : Nat) (out : List ItemT) : miss n out ≤ 65 * n := by
  unfold miss
  refine Nat.le_trans List.countP_le_length ?_
  unfold pairs
  have key : ∀ (l : List Nat), (l.flatMap fun q => (List.range 65).map fun j => (q, j)).length = 65 * l.length := by
    intro l
    induction l with
    | nil => rfl
    | cons x l ih =>
      rw [List.flatMap_cons, List.length_append, ih, List.length_map, List.length_range, List.length_cons]
      omega
  rw [key, List.length_range]
  exact Nat.le_refl _
theorem clE_zero (hl : ∀ x ∈ l, okI64 x) (hp : g.prods.length ≤ 1000) (hn : l.length ≤ 100000) : ∃ m, ClE g E F l ((List.replicate g.prods.length false).map boolC) ((List.replicate g.prods.length 0).map setC) (l.map itemC) 0 l.length m := by
  refine ⟨_, ws0 g.prods.length l, wi_zero hl, rfl, rfl, List.drop_zero, by simp, rfl, rfl, ?_, closed_map fun _ => rfl⟩
  have h1 := miss_le g.prods.length (held g.prods.length (ws0 g.prods.length l))
  have h2 : (ws0 g.prods.length l).op.length = l.length := rfl
  omega
theorem clE_cl (h : ClE g E F l TH LK OP j n m) : (∀ c ∈ TH, closedAll [] c = true) ∧ (∀ c ∈ LK, closedAll [] c = true) ∧ ∀ c ∈ OP, closedAll [] c = true := by
  obtain ⟨st, h⟩ := h
  exact ⟨closed_bool h.th, closed_set h.lk, h.cl⟩
theorem slc_off {P : Program} {T : Table} {t e : TypeId} {z : Option Value} {id off n sz b l h : Nat} {e' : TypeId} {X : List (List AV)} {lo hi : Option AV} (hu : P.underlying t = some (.slice e)) (hti : tinfo P e = some (z, sz, b)) (hT : T id = some ⟨e', X⟩) (hco : P.cellsOf e' = sz) (hn : off + n ≤ X.length) (hb : bndsA n (X.length - off) lo hi = some (l, h)) :
    evSlice P T t (.sl id off n) lo hi = some (.sl id (off + l) (h - l)) := by
  simp only [evSlice, hu, hti, hT, Option.bind_some]
  rw [if_pos ⟨hn, hco⟩, hb]; rfl
theorem own_ix_off {P : Program} {e : TypeId} {X : List (List AV)} {off n sz : Nat} {i : Int} (hc : P.cellsOf e = sz) (h0 : 0 ≤ i) (h1 : i < n) (id : Nat) : ixSl P (some ⟨e, X⟩) id off n i sz = some (.ptr id (off + i.toNat) 0) := by
  simp only [ixSl, Option.bind_some]
  rw [if_pos ⟨h0, h1, hc⟩]
theorem body_lenI (hb : ∀ p ∈ g.prods, p.body.length ≤ 1000) (x : ItemT) : (restL g x).length ≤ 1000000 := by
  unfold restL
  split
  · rw [List.length_drop]
    have := body_len hb x.prod
    omega
  · exact Nat.zero_le _
/-- A round of Close's loop. -/
theorem clE_round (hF : Sets F) (hp : g.prods.length ≤ 1000) (hb : ∀ p ∈ g.prods, p.body.length ≤ 1000) (h : ClE g E F l TH LK OP j n m) (h0 : 0 < n) :
    ∃ (p d look N look2 : Int) (ok sb : Bool) (RB : List (List AV)),
      (∀ id, ixSl Try.prog (some ⟨28, OP⟩) id j n 0 3 = some (.ptr id j 0)) ∧ ptrCells (some ⟨28, OP⟩) j 0 = some [.flat (.int .i64 p), .flat (.int .i64 d), .flat (.int .u64 look)] ∧
      (∀ (T : Table) id, T id = some ⟨28, OP⟩ → evSlice Try.prog T 22 (.sl id j n) (some (.flat (.int .i64 1))) none = some (.sl id (j + 1) (n - 1))) ∧
      ACalls Try.prog 17 [gramV g, .agg [.flat (.int .i64 p), .flat (.int .i64 d), .flat (.int .u64 look)]] (fun _ => .tup [.agg [.flat (.bool sb), .flat (.int .i64 N)], .flat (.bool ok)]) (fun _ => []) ∧
      ((ok && sb) = false → ∃ m2, m2 < m ∧ ClE g E F l TH LK OP (j + 1) (n - 1) m2) ∧
      ((ok && sb) = true → ACalls Try.prog 19 [gramV g, .agg [.flat (.int .i64 p), .flat (.int .i64 d), .flat (.int .u64 look)]] (fun _ => .ro RB) (fun _ => []) ∧
        ACalls Try.prog 40 [.agg [.ro (E.map boolC), .ro (F.map setC)], .ro RB, .flat (.int .u64 look)] (fun _ => .flat (.int .u64 look2)) (fun _ => []) ∧
        ∃ m2 TH2 LK2 O2 j2 n2, m2 < m ∧ ClE g E F l TH2 LK2 O2 j2 n2 m2 ∧
          PCalls Try.prog 39 3 [.ptr 0 0 0, .flat (.int .i64 N), .flat (.int .u64 look2)] [⟨88, [gramL g ++ [.ro (E.map boolC), .ro (F.map setC), .sl 1 0 g.prods.length, .sl 2 0 g.prods.length, .sl 3 (j + 1) (n - 1)]]⟩, ⟨4, TH⟩, ⟨26, LK⟩, ⟨28, OP⟩] (.tup [])
            [some ⟨88, [gramL g ++ [.ro (E.map boolC), .ro (F.map setC), .sl 1 0 g.prods.length, .sl 2 0 g.prods.length, .sl 3 j2 n2]]⟩, some ⟨4, TH2⟩, some ⟨26, LK2⟩, some ⟨28, O2⟩]) := by
  obtain ⟨st, h⟩ := h
  cases ho : st.op with
  | nil => have := h.pn; rw [ho] at this; simp at this; omega
  | cons x r =>
  have hjlt : j < OP.length := by have := h.all; omega
  have hdrop : OP.drop j = itemC x :: r.map itemC := by rw [h.row, ho]; rfl
  have hget : OP[j]? = some (itemC x) := by
    have := congrArg (fun l => l[0]?) hdrop
    simpa using this
  have hdrop2 : OP.drop (j + 1) = r.map itemC := by
    rw [← List.drop_drop, hdrop]; rfl
  have hnr : n - 1 = r.length := by have := h.pn; rw [ho] at this; simp at this; omega
  refine ⟨x.prod, x.dot, (x.look : Int), (nextS g x).n, ((withT E F (restL g x) x.look : Nat) : Int), nextOk g x, (nextS g x).sort, (restL g x).map symC, fun id => ?_, ?_, fun T id hT => ?_, next_calls g x hb, fun hn => ?_, fun hn => ⟨rest_calls g x hb, ?_, ?_⟩⟩
  · have := own_ix_off (P := Try.prog) (e := 28) (X := OP) (off := j) (n := n) (sz := 3) (i := 0) c28 (Int.le_refl 0) (by omega) id
    simpa using this
  · have := own_cel (e := 28) (X := OP) (j := j) (off := 0) hget (Nat.zero_le _)
    rw [this]; rfl
  · have := slc_off (P := Try.prog) (t := 22) (e := 28) u22 z28 hT c28 (by have := h.all; omega) (bnd_lo (n := n) (m := OP.length - j) (k := .i64) (l := 1) (by omega) (by omega))
    exact this
  · have hnx : (rule g E F).nx x.prod x.dot = none := by
      rw [rule_nx, if_neg]
      rintro ⟨a, b⟩
      rw [a, b] at hn; cases hn
    refine ⟨_, ?_, ⟨st.th, st.lk, r⟩, wi_pop h.wi ho hnx, h.th, h.lk, hdrop2, by have := h.all; omega, hnr, rfl, ?_, h.cl⟩
    all_goals
      have h2 : held g.prods.length ⟨st.th, st.lk, r⟩ = held g.prods.length st := rfl
      have h3 := h.pm
      have h4 := h.le
      rw [ho] at h3
      have h5 : (x :: r).length = r.length + 1 := rfl
      have h6 : (⟨st.th, st.lk, r⟩ : WS).op.length = r.length := rfl
      rw [h2]
      omega
  · exact with_calls E F (restL g x) x.look hF (h.wi.oks x (by rw [ho]; exact List.mem_cons_self ..)) (body_lenI hb x)
  · have hnx : (rule g E F).nx x.prod x.dot = some (nextS g x).n := by
      rw [rule_nx, if_pos]
      exact Bool.and_eq_true_iff.1 hn
    obtain ⟨w1, w2⟩ := wi_begin hF h.wi ho hnx
    have hlook : withT E F (restL g x) x.look < 18446744073709551616 := withT_lt hF (h.wi.oks x (by rw [ho]; exact List.mem_cons_self ..))
    have h2 : held g.prods.length ⟨st.th, st.lk, r⟩ = held g.prods.length st := rfl
    have h3 := h.pm
    have h4 := h.le
    have h5 : st.op.length = r.length + 1 := by rw [ho]; rfl
    have H : BgH g (withT E F (restL g x) x.look) ⟨st.th, st.lk, r⟩ (j + 1) OP := ⟨hlook, h.wi.th, h.wi.lk, h.wi.zero, h.wi.ok, hdrop2, by show j + 1 + r.length = _; have := h.all; omega, hp, by rw [h2]; show 2 * _ + r.length ≤ _; omega⟩
    have hle := bgT_len (g := g) (N := (nextS g x).n) (look := withT E F (restL g x) x.look) (st := ⟨st.th, st.lk, r⟩) g.prods.length
    obtain ⟨j2, O2, hO⟩ := opAt_get (s0 := ⟨st.th, st.lk, r⟩) (st := bgT g (nextS g x).n (withT E F (restL g x) x.look) g.prods.length ⟨st.th, st.lk, r⟩) (j0 := j + 1) (O0 := OP) H.row H.all hle.1 (fun e => by rw [hle.2 e])
    refine ⟨_, _, _, O2, j2, _, ?_, ⟨_, w1, rfl, rfl, hO.row, hO.all, rfl, rfl, by omega, ?_⟩, begin_calls g _ _ ⟨st.th, st.lk, r⟩ (j + 1) OP H h.cl _ _ TH LK _ _ O2 (n - 1) j2 _ h.th h.lk hnr rfl rfl hO _ rfl⟩
    · omega
    · rw [hO.pO]
      split
      · exact h.cl
      · exact closed_map fun _ => rfl
theorem held_next {st : WS} {k : Nat} : held (k + 1) st = held k st ++ (if st.t k = true then [⟨(k : Int), 0, st.l k⟩] else []) := by
  unfold held
  rw [List.range_succ, List.filter_append, List.map_append]
  congr 1
  cases h : st.t k <;> simp [h]
/-- What is held, put behind the items. -/
theorem clE_end (hl : ∀ x ∈ l, okI64 x) (hp : g.prods.length ≤ 1000) (hn : l.length ≤ 50000) {S : List ItemT} (hS : CL (rule g E F) l S) (h : ClE g E F l TH LK OP j n m) (h0 : n = 0) :
    ∃ HO : Int → List (List AV), HO 0 = l.map itemC ∧ (∀ i, flatRow (HO i)) ∧ (∀ i, ∀ c ∈ HO i, closedAll [] c = true) ∧
      (∀ i : Int, 0 ≤ i → i < g.prods.length → ∃ (tk : Bool) (lx : Int), (∀ id, ixSl Try.prog (some ⟨4, TH⟩) id 0 g.prods.length i 1 = some (.ptr id i.toNat 0)) ∧ ptrCells (some ⟨4, TH⟩) i.toNat 0 = some [.flat (.bool tk)] ∧
        (∀ id, ixSl Try.prog (some ⟨26, LK⟩) id 0 g.prods.length i 1 = some (.ptr id i.toNat 0)) ∧ ptrCells (some ⟨26, LK⟩) i.toNat 0 = some [.flat (.int .u64 lx)] ∧ (HO i).length ≤ 100000 ∧
        (tk = false → HO (i + 1) = HO i) ∧ (tk = true → HO (i + 1) = HO i ++ [[.flat (.int .i64 i), .flat (.int .i64 0), .flat (.int .u64 lx)]])) ∧
      ACalls Try.prog 9 [.ro (HO g.prods.length)] (fun k => .sl k 0 S.length) (fun _ => [⟨28, S.map itemC⟩]) := by
  obtain ⟨st, h⟩ := h
  have ho : st.op = [] := List.eq_nil_of_length_eq_zero (by rw [← h.pn]; exact h0)
  refine ⟨fun i => (l ++ held i.toNat st).map itemC, ?_, fun i => flat_item _, fun i => closed_map fun _ => rfl, fun i hi0 hi1 => ?_, ?_⟩
  · show (l ++ held 0 st).map itemC = _
    have : held 0 st = [] := rfl
    rw [this, List.append_nil]
  · have hoki : okI g.prods.length i := ⟨hi0, hi1⟩
    obtain ⟨a1, a2, a3⟩ := own_bool h.th h.wi.th hoki
    obtain ⟨c1, c2, c3⟩ := own_set h.lk h.wi.lk hoki
    have htk : atI st.th i = st.t i.toNat := atI_getD hi0 (by rw [h.wi.th]; exact hi1)
    have hlx : atI st.lk i = st.l i.toNat := atI_getD hi0 (by rw [h.wi.lk]; exact hi1)
    have hnx : (i + 1).toNat = i.toNat + 1 := by omega
    have hcast : ((i.toNat : Nat) : Int) = i := Int.toNat_of_nonneg hi0
    refine ⟨st.t i.toNat, _, a1, by rw [a2, htk], c1, by rw [c2, hlx], ?_, fun ht => ?_, fun ht => ?_⟩
    · show ((l ++ held i.toNat st).map itemC).length ≤ _
      rw [List.length_map, List.length_append]
      have := held_len (n := i.toNat) (st := st)
      omega
    · show (l ++ held (i + 1).toNat st).map itemC = (l ++ held i.toNat st).map itemC
      rw [hnx, held_next, if_neg (by rw [ht]; decide), List.append_nil]
    · show (l ++ held (i + 1).toNat st).map itemC = (l ++ held i.toNat st).map itemC ++ _
      rw [hnx, held_next, if_pos ht, ← List.append_assoc, List.map_append]
      show _ ++ [itemC _] = _
      unfold itemC
      rw [hcast]
  · have e : S = ofT (l ++ held g.prods.length st) := cl_one hS (wi_end h.wi ho)
    rw [e]
    refine J.of_calls (l ++ held (g.prods.length : Int).toNat st) ?_ fun x hx => ?_
    · rw [List.length_append]
      have := held_len (n := (g.prods.length : Int).toNat) (st := st)
      omega
    · rcases List.mem_append.1 hx with h1 | h1
      · exact hl x h1
      · exact held_ok h.wi.ok x h1
end
end Go.Proofs.Ytnceadbfgpiaaaa.C
