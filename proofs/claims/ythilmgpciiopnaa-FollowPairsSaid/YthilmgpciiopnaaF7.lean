/- Contracts: bosketref21.Row, bosketref22.With. -/
import Derived.Test.YthilmgpciiopnaaF6
namespace Go.Proofs.Ythilmgpciiopnaa.F
open Go G U K
set_option linter.unusedVariables false
set_option linter.unusedSimpArgs false
set_option maxRecDepth 100000
set_option maxHeartbeats 4000000
theorem fn54 : Try.prog.funcs[54]? = some Try.f54 := by kernel_rfl
theorem fn56 : Try.prog.funcs[56]? = some Try.f56 := by kernel_rfl
theorem z78 : tinfo Try.prog 78 = some (some (.agg #[.bool false, .int .i64 0]), 2, 16) := by kernel_rfl
theorem u59 : Try.prog.underlying 59 = some (.slice 78) := by kernel_rfl
theorem slc_tail (T : Table) (t : SymT) (l : List SymT) : evSlice Try.prog T 59 (.ro ((t :: l).map symC)) (some (.flat (.int .i64 1))) none = some (.ro (l.map symC)) := by
  have h : ∀ c ∈ (t :: l).map symC, c.length = 2 := fun c hc => by obtain ⟨u, _, rfl⟩ := List.mem_map.1 hc; rfl
  simp only [evSlice, u59, z78, if_pos h]
  simp [bndsA, hiA, loA, intOf, List.take_of_length_le]
  omega
theorem nth_head (t : SymT) (l : List SymT) : nthE ((t :: l).map symC) 0 2 = some (.rp (symC t)) := by
  simp [nthE, symC]
theorem refRow_calls (E : List Bool) (F : List Nat) (hF : Sets F) : ∀ (body : List SymT),
    ACalls Try.prog 54 [.ro (E.map boolC), .ro (F.map setC), .ro (body.map symC)] (fun _ => .tup [uV (rowT E F body).1, .flat (.bool (rowT E F body).2)]) (fun _ => [])
  | [] => by
    refine acalls_symF tabF_ok fn54 rfl rfl rfl (by kernel_rfl) ?_
    have hfin : ∀ st, resA Try.prog Try.f54 st = some (.tup [uV (rowT E F []).1, .flat (.bool (rowT E F []).2)]) → G.Leaves Try.prog Try.f54 (fun _ => .tup [uV (rowT E F []).1, .flat (.bool (rowT E F []).2)]) (fun _ => []) st := fun st h => G.Leaves.plain h rfl
    have hfin : ∀ st, resA Try.prog Try.f54 st = some (.tup [.flat (.int .u64 0), .flat (.bool true)]) → G.Leaves Try.prog Try.f54 (fun _ => .tup [uV (rowT E F []).1, .flat (.bool (rowT E F []).2)]) (fun _ => []) st := hfin
    generalize (fun _ : Nat => AV.tup [uV (rowT E F []).1, .flat (.bool (rowT E F []).2)]) = val at hfin ⊢
    generalize E.map boolC = EE
    generalize F.map setC = FF
    have hX : lenE ([].map symC) = 0 := rfl
    generalize [].map symC = X at hX ⊢
    rintro ⟨lt, le, eq, se, ar, dv, una, conv, len, sln, nat, nth, ixs, cel, sto, app, cpy, slc, mak, ixv, oth, dk, ib, call⟩ hS hm Q hQ
    obtain ⟨hlt, hle, heq, hse, har, hdv, huna, hconv, hlen, hsln, hnat, hnth, hixs, hcel, hsto, happ, hcpy, hslc, hmak, hixv, hoth, hdk, hib, hcall⟩ := Sym.mk.inj hS
    clear hS
    have hnt : ∀ n : Nat, nat n = U.natI n := fun n => by rw [hnat]; rfl
    have hbox : ∀ e c off, cel (some ⟨e, [c]⟩) 0 off = if off ≤ c.length then some (c.drop off) else none := fun e c off => by rw [hcel]; rfl
    have hsbox : ∀ e c off sz y, sto (some ⟨e, [c]⟩) 0 off sz y = if y.cells.length = sz ∧ off + sz ≤ c.length ∧ y.cells.all AV.one = true then some ⟨e, [spl c off y.cells]⟩ else none := fun e c off sz y => by rw [hsto]; rfl
    have hcaw : ∀ {f args T base K}, CallK Try.prog f args T base K → call f args T base K := fun h => by rw [hcall]; exact h
    have hcal : ∀ {f args T base} {K : AV → Table → List Nat → List Nat → Prop}, (∃ args' ids val rows, Hands T ids args args' (val base) (rows base) ∧ ACalls Try.prog f args' val rows ∧ (rows base).length ≤ 8 ∧ K (val base) (adopt T base (rows base)) ids ((List.range (rows base).length).map (base + ·))) → call f args T base K := fun h => hcaw (call_own h)
    have hl : eq (len X) 0 = true := by rw [heq, hlen, hX]; rfl
    cbv
    rw [hl]; cbv
    exact hQ _ _ trivial (hfin _ (by cbv))
  | s :: body => by
    have ih := refRow_calls E F hF body
    have hlt := rowT_lt (E := E) hF body
    obtain ⟨ss, sn⟩ := s
    have hcB := one_calls sn
    have htok : ss = false → rowT E F (⟨ss, sn⟩ :: body) = (bitN sn, false) := fun h => by rw [rowT, if_pos h]
    have hout : ss = true → (sn < 0 ∨ (E.length : Int) ≤ sn ∨ (F.length : Int) ≤ sn) → rowT E F (⟨ss, sn⟩ :: body) = (0, false) := fun h hn => by rw [rowT, if_neg (by rw [h]; simp), if_pos hn]
    have hin : ss = true → 0 ≤ sn → sn < E.length → sn < F.length → rowT E F (⟨ss, sn⟩ :: body) = if atI E sn = false then (atI F sn, false) else (atI F sn ||| (rowT E F body).1, (rowT E F body).2) := fun h h0 h1 h2 => by
      rw [rowT, if_neg (by rw [h]; simp), if_neg (by dsimp only; omega)]
    have hsl := fun T => slc_tail T ⟨ss, sn⟩ body
    have hnh := nth_head ⟨ss, sn⟩ body
    have hl0 : lenE ((⟨ss, sn⟩ :: body : List SymT).map symC) ≠ 0 := by rw [len_map, List.length_cons]; omega
    generalize hz : rowT E F (⟨ss, sn⟩ :: body) = z at htok hout hin
    obtain ⟨z1, z2⟩ := z
    have hcO := fun h0 h2 => or_calls (atI F sn) (rowT E F body).1 (sets_at hF (n := sn) h0 h2) hlt
    generalize (rowT E F body).1 = r1 at ih hin hcO
    generalize (rowT E F body).2 = r2 at ih hin
    unfold uV at ih hcB hcO ⊢
    obtain ⟨r1x, hr1x⟩ : ∃ x : Int, x = (r1 : Int) := ⟨_, rfl⟩
    rw [← hr1x] at ih hcO
    obtain ⟨zx, hzx⟩ : ∃ x : Int, x = (z1 : Int) := ⟨_, rfl⟩
    dsimp only
    rw [← hzx]
    obtain ⟨bx, hbx⟩ : ∃ x : Int, x = ((bitN sn : Nat) : Int) := ⟨_, rfl⟩
    rw [← hbx] at hcB
    have htok' : ss = false → zx = bx ∧ z2 = false := fun h => by
      obtain ⟨h1, h2⟩ := Prod.mk.inj (htok h)
      exact ⟨by rw [hzx, hbx, h1], h2⟩
    have hout' : ss = true → (sn < 0 ∨ (E.length : Int) ≤ sn ∨ (F.length : Int) ≤ sn) → zx = 0 ∧ z2 = false := fun h hn => by
      obtain ⟨h1, h2⟩ := Prod.mk.inj (hout h hn)
      exact ⟨by rw [hzx, h1]; rfl, h2⟩
    have hin' : ss = true → ¬ sn < 0 → ¬ (E.length : Int) ≤ sn → ¬ (F.length : Int) ≤ sn → ∃ (ev : Bool) (fx ox2 : Int), nthE (E.map boolC) sn 1 = some (.rp [.flat (.bool ev)]) ∧ nthE (F.map setC) sn 1 = some (.rp [.flat (.int .u64 fx)]) ∧
        ACalls Try.prog 34 [.flat (.int .u64 fx), .flat (.int .u64 r1x)] (fun _ => .flat (.int .u64 ox2)) (fun _ => []) ∧ (ev = false → zx = fx ∧ z2 = false) ∧ (ev = true → zx = ox2 ∧ z2 = r2) := fun h g1 g2 g3 => by
      have hi := hin h (Int.not_lt.1 g1) (Int.not_le.1 g2) (Int.not_le.1 g3)
      refine ⟨atI E sn, ((atI F sn : Nat) : Int), _, nth_map (fun _ => rfl) (Int.not_lt.1 g1) (Int.not_le.1 g2), nth_map (fun _ => rfl) (Int.not_lt.1 g1) (Int.not_le.1 g3), hcO (Int.not_lt.1 g1) (Int.not_le.1 g3), fun he => ?_, fun he => ?_⟩
      · rw [if_pos he] at hi
        obtain ⟨h1, h2⟩ := Prod.mk.inj hi
        exact ⟨by rw [hzx, h1], h2⟩
      · rw [if_neg (by rw [he]; decide)] at hi
        obtain ⟨h1, h2⟩ := Prod.mk.inj hi
        exact ⟨by rw [hzx, h1], h2⟩
    have hnE : lenE (E.map boolC) = E.length := len_map _ _
    have hnF : lenE (F.map setC) = F.length := len_map _ _
    clear hin hout htok hcO hz hlt hF
    generalize E.map boolC = EE at *
    generalize F.map setC = FF at *
    generalize body.map symC = X2 at *
    generalize (⟨ss, sn⟩ :: body : List SymT).map symC = X at *
    unfold symC at hnh
    dsimp only at hnh
    refine acalls_symF tabF_ok fn54 rfl rfl rfl (by kernel_rfl) ?_
    have hfin : ∀ st, resA Try.prog Try.f54 st = some (.tup [.flat (.int .u64 zx), .flat (.bool z2)]) → G.Leaves Try.prog Try.f54 (fun _ => .tup [.flat (.int .u64 zx), .flat (.bool z2)]) (fun _ => []) st := fun st h => G.Leaves.plain h rfl
    rintro ⟨lt, le, eq, se, ar, dv, una, conv, len, sln, nat, nth, ixs, cel, sto, app, cpy, slc, mak, ixv, oth, dk, ib, call⟩ hS hm Q hQ
    obtain ⟨hlt, hle, heq, hse, har, hdv, huna, hconv, hlen, hsln, hnat, hnth, hixs, hcel, hsto, happ, hcpy, hslc, hmak, hixv, hoth, hdk, hib, hcall⟩ := Sym.mk.inj hS
    clear hS
    have hnt : ∀ n : Nat, nat n = U.natI n := fun n => by rw [hnat]; rfl
    have hbox : ∀ e c off, cel (some ⟨e, [c]⟩) 0 off = if off ≤ c.length then some (c.drop off) else none := fun e c off => by rw [hcel]; rfl
    have hsbox : ∀ e c off sz y, sto (some ⟨e, [c]⟩) 0 off sz y = if y.cells.length = sz ∧ off + sz ≤ c.length ∧ y.cells.all AV.one = true then some ⟨e, [spl c off y.cells]⟩ else none := fun e c off sz y => by rw [hsto]; rfl
    have hcaw : ∀ {f args T base K}, CallK Try.prog f args T base K → call f args T base K := fun h => by rw [hcall]; exact h
    have hcal : ∀ {f args T base} {K : AV → Table → List Nat → List Nat → Prop}, (∃ args' ids val rows, Hands T ids args args' (val base) (rows base) ∧ ACalls Try.prog f args' val rows ∧ (rows base).length ≤ 8 ∧ K (val base) (adopt T base (rows base)) ids ((List.range (rows base).length).map (base + ·))) → call f args T base K := fun h => hcaw (call_own h)
    rw [← hnth] at hin' hnh
    rw [← hslc] at hsl
    have hl : eq (len X) 0 = false := by rw [heq, hlen]; exact decide_eq_false hl0
    have hn1 : lt sn 0 = decide (sn < 0) := by rw [hlt]
    have hn2 : le (len EE) sn = decide ((E.length : Int) ≤ sn) := by rw [hle, hlen, hnE]
    have hn3 : le (len FF) sn = decide ((F.length : Int) ≤ sn) := by rw [hle, hlen, hnF]
    cbv
    rw [hl]; cbv
    repeat (first | (rw [hnh]; cbv) | (rw [hsbox]; cbv) | (rw [hbox]; cbv))
    cases ss
    · obtain ⟨rfl, rfl⟩ := htok' rfl
      cbv
      repeat (first | (rw [hbox]; cbv))
      refine hcal ⟨_, [], _, _, .inl ⟨rfl, by cbv⟩, hcB, by simp, ?_⟩
      cbv
      exact hQ _ _ trivial (hfin _ (by cbv))
    cbv
    repeat (first | (rw [hbox]; cbv))
    cases e1 : lt sn 0
    rotate_left
    · obtain ⟨rfl, rfl⟩ := hout' rfl (.inl (of_decide_eq_true (hn1.symm.trans e1)))
      cbv
      exact hQ _ _ trivial (hfin _ (by cbv))
    cbv
    repeat (first | (rw [hbox]; cbv))
    cases e2 : le (len EE) sn
    rotate_left
    · obtain ⟨rfl, rfl⟩ := hout' rfl (.inr (.inl (of_decide_eq_true (hn2.symm.trans e2))))
      cbv
      exact hQ _ _ trivial (hfin _ (by cbv))
    cbv
    repeat (first | (rw [hbox]; cbv))
    cases e3 : le (len FF) sn
    rotate_left
    · obtain ⟨rfl, rfl⟩ := hout' rfl (.inr (.inr (of_decide_eq_true (hn3.symm.trans e3))))
      cbv
      exact hQ _ _ trivial (hfin _ (by cbv))
    obtain ⟨ev, fx, ox2, hiE, hiF, hcO, hstop, hgo⟩ := hin' rfl (of_decide_eq_false (hn1.symm.trans e1)) (of_decide_eq_false (hn2.symm.trans e2)) (of_decide_eq_false (hn3.symm.trans e3))
    cbv
    repeat (first | (rw [hbox]; cbv) | (rw [hiE]; cbv))
    cases ev
    · obtain ⟨rfl, rfl⟩ := hstop rfl
      cbv
      repeat (first | (rw [hbox]; cbv) | (rw [hiF]; cbv))
      exact hQ _ _ trivial (hfin _ (by cbv))
    obtain ⟨rfl, rfl⟩ := hgo rfl
    cbv
    repeat (first | (rw [hsl]; cbv))
    refine hcal ⟨_, [], _, _, .inl ⟨rfl, by cbv⟩, ih, by simp, ?_⟩
    cbv
    repeat (first | (rw [hbox]; cbv) | (rw [hiF]; cbv))
    refine hcal ⟨_, [], _, _, .inl ⟨rfl, by cbv⟩, hcO, by simp, ?_⟩
    cbv
    exact hQ _ _ trivial (hfin _ (by cbv))
theorem refWith_calls (E : List Bool) (F : List Nat) (body : List SymT) (b : Nat) (hF : Sets F) (hb : b < 18446744073709551616) :
    ACalls Try.prog 56 [.ro (E.map boolC), .ro (F.map setC), .ro (body.map symC), uV b] (fun _ => uV (withT E F body b)) (fun _ => []) := by
  have hcR := refRow_calls E F hF body
  have hlt := rowT_lt (E := E) hF body
  unfold withT
  generalize (rowT E F body).1 = z1 at hcR hlt ⊢
  generalize (rowT E F body).2 = z2 at hcR ⊢
  have hcO := or_calls z1 b hlt hb
  unfold uV at hcR hcO ⊢
  generalize E.map boolC = EE at hcR ⊢
  generalize F.map setC = FF at hcR ⊢
  generalize body.map symC = X at hcR ⊢
  obtain ⟨w, hw⟩ : ∃ x : Int, x = ((if z2 = true then z1 ||| b else z1 : Nat) : Int) := ⟨_, rfl⟩
  rw [← hw]
  obtain ⟨zx, hzx⟩ : ∃ x : Int, x = (z1 : Int) := ⟨_, rfl⟩
  obtain ⟨bx, hbx⟩ : ∃ x : Int, x = (b : Int) := ⟨_, rfl⟩
  obtain ⟨ux, hux⟩ : ∃ x : Int, x = ((z1 ||| b : Nat) : Int) := ⟨_, rfl⟩
  rw [← hzx, ← hbx, ← hux] at hcO
  rw [← hzx] at hcR
  rw [← hbx]
  have hT : z2 = true → ux = w := fun h => by rw [hux, hw, if_pos h]
  have hFz : z2 = false → zx = w := fun h => by rw [hzx, hw, if_neg (by rw [h]; decide)]
  refine acalls_symF tabF_ok fn56 rfl rfl rfl (by kernel_rfl) ?_
  have hfin : ∀ st, resA Try.prog Try.f56 st = some (.flat (.int .u64 w)) → G.Leaves Try.prog Try.f56 (fun _ => .flat (.int .u64 w)) (fun _ => []) st := fun st h => G.Leaves.plain h rfl
  rintro ⟨lt, le, eq, se, ar, dv, una, conv, len, sln, nat, nth, ixs, cel, sto, app, cpy, slc, mak, ixv, oth, dk, ib, call⟩ hS hm Q hQ
  obtain ⟨hlt, hle, heq, hse, har, hdv, huna, hconv, hlen, hsln, hnat, hnth, hixs, hcel, hsto, happ, hcpy, hslc, hmak, hixv, hoth, hdk, hib, hcall⟩ := Sym.mk.inj hS
  clear hS
  have hnt : ∀ n : Nat, nat n = U.natI n := fun n => by rw [hnat]; rfl
  have hbox : ∀ e c off, cel (some ⟨e, [c]⟩) 0 off = if off ≤ c.length then some (c.drop off) else none := fun e c off => by rw [hcel]; rfl
  have hsbox : ∀ e c off sz y, sto (some ⟨e, [c]⟩) 0 off sz y = if y.cells.length = sz ∧ off + sz ≤ c.length ∧ y.cells.all AV.one = true then some ⟨e, [spl c off y.cells]⟩ else none := fun e c off sz y => by rw [hsto]; rfl
  have hcaw : ∀ {f args T base K}, CallK Try.prog f args T base K → call f args T base K := fun h => by rw [hcall]; exact h
  have hcal : ∀ {f args T base} {K : AV → Table → List Nat → List Nat → Prop}, (∃ args' ids val rows, Hands T ids args args' (val base) (rows base) ∧ ACalls Try.prog f args' val rows ∧ (rows base).length ≤ 8 ∧ K (val base) (adopt T base (rows base)) ids ((List.range (rows base).length).map (base + ·))) → call f args T base K := fun h => hcaw (call_own h)
  cbv
  refine hcal ⟨_, [], _, _, .inl ⟨rfl, by cbv⟩, hcR, by simp, ?_⟩
  cbv
  cases z2
  · obtain rfl := hFz rfl
    cbv
    exact hQ _ _ trivial (hfin _ (by cbv))
  · obtain rfl := hT rfl
    cbv
    refine hcal ⟨_, [], _, _, .inl ⟨rfl, by cbv⟩, hcO, by simp, ?_⟩
    cbv
    exact hQ _ _ trivial (hfin _ (by cbv))
end Go.Proofs.Ythilmgpciiopnaa.F
