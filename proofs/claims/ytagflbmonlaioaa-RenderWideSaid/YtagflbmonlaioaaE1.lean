/- Contracts: lay.chooser: choose, line. -/
import Derived.Test.YtagflbmonlaioaaD10
import Derived.Test.YtagflbmonlaioaaD7
import Derived.Test.YtagflbmonlaioaaU2
namespace Go.Proofs.Ytagflbmonlaioaa.D
open Go G U K
set_option linter.unusedVariables false
set_option linter.unusedSimpArgs false
set_option maxRecDepth 100000
set_option maxHeartbeats 4000000
theorem fn68 : Try.prog.funcs[68]? = some Try.f68 := by kernel_rfl
theorem fn67 : Try.prog.funcs[67]? = some Try.f67 := by kernel_rfl
/-! ### Functions that are handed rows -/
theorem pleaves {P : Program} {fn : Func} {m : Nat} {st : St} {v : AV} {R1 : List (Option Row)} (ks : List Nat) (h : resA P fn st = some v) (hv : closedIn [] v = true) (hnd : ks.Nodup) (hp : ks.take m = List.range m) (h8 : ks.length ≤ m + 8) (hR : cutRows ks st.T ks = R1) : PLeaves P fn m v R1 st :=
  ⟨[], ks, v, h, ⟨hnd, hp, .inr rfl⟩, h8, closed_up v hv, ren_nil _ v hv, hR⟩
/-! ### All ways, by choices -/
def lineB (n : Int) : List UInt8 := 10 :: List.replicate n.toNat 32
def chosen (ch : List Bool) (u : Int) : Bool := if 0 ≤ u ∧ u < ch.length then atI ch u else false
theorem c4 : Try.prog.cellsOf 4 = 1 := by kernel_rfl
theorem choose_end {ch : List Bool} {u : Int} (h : decide (u + 1 ≤ (ch.length : Int)) = false) : chosen ch u = false := by
  simp only [decide_eq_false_iff_not] at h
  unfold chosen
  rw [if_neg (by omega)]
theorem choose_at {ch : List Bool} {u : Int} (h0 : 0 ≤ u) (hu : u ≤ 1000000000) (h : decide (u + 1 ≤ (ch.length : Int)) = true) : At ch u ∧ decide (u < (ch.length : Int)) = true ∧ chosen ch u = atI ch u ∧ arI .sub .i64 (u + 1) 1 = u := by
  simp only [decide_eq_true_eq] at h
  refine ⟨⟨h0, by omega⟩, by simp; omega, ?_, ?_⟩
  · unfold chosen; rw [if_pos ⟨h0, by omega⟩]
  · rw [ar_sub64 (by omega) (by omega)]; omega
def chooserC (X CH : List (List AV)) (ns no : Nat) (u : Int) (si oi : Nat) : List AV := [.ro X, .sl si 0 ns, .ro CH, .flat (.int .i64 u), .sl oi 0 no]
theorem choose_calls (X : List (List AV)) (ch : List Bool) (ns no : Nat) (u : Int) (S Z : List (List AV)) (h0 : 0 ≤ u) (hu : u ≤ 1000000000) (hS : ∀ c ∈ S, closedAll [] c = true) (hZ : ∀ c ∈ Z, closedAll [] c = true) :
    PCalls Try.prog 68 1 [.ptr 0 0 0] [⟨77, [chooserC X (ch.map boolC) ns no u 1 2]⟩, ⟨3, S⟩, ⟨5, Z⟩] (.flat (.bool (chosen ch u))) [some ⟨77, [chooserC X (ch.map boolC) ns no (u + 1) 1 2]⟩, some ⟨3, S⟩, some ⟨5, Z⟩] := by
  have hend := @choose_end ch u
  have hat := @choose_at ch u h0 hu
  have hadd : arI .add .i64 u 1 = u + 1 := ar_add64 (by omega) (by omega)
  have hg : At ch u → decide (u < (ch.length : Int)) = true → nthE (ch.map boolC) u 1 = some (.rp (boolC (atI ch u))) := fun h1 h2 => nth_map (fun _ => rfl) h0 (at_lt h1 h2).2.2
  obtain ⟨CH, hCH⟩ : ∃ X, X = ch.map boolC := ⟨_, rfl⟩
  have hl : lenE CH = (ch.length : Int) := by rw [hCH, len_map]
  rw [← hCH] at hg ⊢
  generalize chosen ch u = r at hend hat ⊢
  unfold chooserC
  refine pcalls_symF tabF_ok 1 (by decide) (by simp) fn68 rfl rfl rfl (by kernel_rfl) ?_
  rintro ⟨lt, le, eq, se, ar, dv, una, conv, len, sln, nat, nth, ixs, cel, sto, app, cpy, slc, mak, ixv, oth, dk, ib, call⟩ hS hm Q hQ
  obtain ⟨hlt, hle, heq, hse, har, hdv, huna, hconv, hlen, hsln, hnat, hnth, hixs, hcel, hsto, happ, hcpy, hslc, hmak, hixv, hoth, hdk, hib, hcall⟩ := Sym.mk.inj hS
  clear hS
  have hnt : ∀ n : Nat, nat n = U.natI n := fun n => by rw [hnat]; rfl
  have hbox : ∀ e c off, cel (some ⟨e, [c]⟩) 0 off = if off ≤ c.length then some (c.drop off) else none := fun e c off => by rw [hcel]; rfl
  have hsbox : ∀ e c off sz y, sto (some ⟨e, [c]⟩) 0 off sz y = if y.cells.length = sz ∧ off + sz ≤ c.length ∧ y.cells.all AV.one = true then some ⟨e, [spl c off y.cells]⟩ else none := fun e c off sz y => by rw [hsto]; rfl
  have hcaw : ∀ {f args T base K}, CallK Try.prog f args T base K → call f args T base K := fun h => by rw [hcall]; exact h
  have hcal : ∀ {f args T base} {K : AV → Table → List Nat → List Nat → Prop}, (∃ args' ids val rows, Hands T ids args args' (val base) (rows base) ∧ ACalls Try.prog f args' val rows ∧ (rows base).length ≤ 8 ∧ K (val base) (adopt T base (rows base)) ids ((List.range (rows base).length).map (base + ·))) → call f args T base K := fun h => hcaw (call_own h)
  have e1 : le (u + 1) (len CH) = decide (u + 1 ≤ (ch.length : Int)) := by rw [hle, hlen, hl]
  rw [← har] at hadd hat
  rw [← hnth] at hg
  generalize decide (u + 1 ≤ (ch.length : Int)) = b1 at e1 hend hat
  generalize u + 1 = u2 at hadd e1 hat hQ
  cbv
  repeat (first | (rw [hbox]; cbv) | (rw [hsbox]; cbv) | (rw [hadd]; cbv))
  refine ⟨by rw [hdk]; kernel_rfl, ?_⟩
  repeat (first | (rw [hbox]; cbv) | (rw [hsbox]; cbv))
  rw [e1]; cases b1
  · obtain rfl := hend rfl
    cbv
    refine ⟨by rw [hib]; kernel_rfl, ?_⟩
    cbv
    exact hQ _ _ trivial (pleaves [0, 1, 2] (by cbv) rfl (by simp) (by rfl) (by simp) (cutRows_box (by rfl) (by rfl) (by rfl) (cutRows_cons (by rfl) (hS) (cutRows_cons (by rfl) (hZ) rfl))))
  obtain ⟨g1, g2, rfl, g4⟩ := hat rfl
  have hx := hg g1 g2
  unfold boolC at hx
  generalize atI ch u = bb at hx hQ
  cbv
  repeat (first | (rw [hbox]; cbv) | (rw [hsbox]; cbv) | (rw [g4]; cbv) | (rw [hx]; cbv))
  refine ⟨by rw [hib]; kernel_rfl, ?_⟩
  cbv
  exact hQ _ _ trivial (pleaves [0, 1, 2] (by cbv) rfl (by simp) (by rfl) (by simp) (cutRows_box (by rfl) (by rfl) (by rfl) (cutRows_cons (by rfl) (hS) (cutRows_cons (by rfl) (hZ) rfl))))
/-- Blanks, so far. -/
def LnAt (bs : List UInt8) (n i : Int) (cs : List UInt8) : Prop := 0 ≤ i ∧ (i ≤ n ∨ i = 0) ∧ cs = bs ++ (10 :: List.replicate i.toNat 32)
theorem lnAt_zero (bs : List UInt8) (n : Int) : LnAt bs n 0 (bs ++ [10]) := ⟨by omega, .inr rfl, rfl⟩
theorem lnAt_end {bs cs : List UInt8} {n i : Int} (h : LnAt bs n i cs) (hc : decide (i < n) = false) : cs = bs ++ lineB n := by
  obtain ⟨h0, h1, h2⟩ := h
  simp only [decide_eq_false_iff_not] at hc
  rw [h2]
  unfold lineB
  have : i.toNat = n.toNat := by omega
  rw [this]
theorem lnAt_step {bs cs : List UInt8} {n i : Int} (hb : bs.length + 1 + n.toNat ≤ 100000000) (h : LnAt bs n i cs) (hc : decide (i < n) = true) : LnAt bs n (i + 1) (cs ++ [32]) ∧ arI .add .i64 i 1 = i + 1 ∧ (n - (i + 1)).toNat < (n - i).toNat ∧ cs.length + 1 ≤ 100000000 := by
  obtain ⟨h0, h1, h2⟩ := h
  simp only [decide_eq_true_eq] at hc
  refine ⟨⟨by omega, .inl (by omega), ?_⟩, ar_add64 (by omega) (by omega), by omega, ?_⟩
  · rw [h2, show (i + 1).toNat = i.toNat + 1 by omega, List.replicate_succ', List.append_assoc]; rfl
  · rw [h2, List.length_append, List.length_cons, List.length_replicate]; omega
theorem tip_byte (T : Table) {id k0 k n n2 : Nat} {bs : List UInt8} {b : UInt8} {X Y : List (List AV)} {c : List AV} (hX : X = bs.map byteC) (hY : Y = (bs ++ [b]).map byteC) (hc : c = byteC b) (hn : n = bs.length) (hn2 : n2 = n + 1) (hb : n2 ≤ 100000000) (hT : T k0 = some ⟨5, X⟩) (hk : T k = some ⟨5, [c]⟩) (hne : k ≠ k0) :
    evAppend Try.prog T id 65 65 (.sl k0 0 n) (.sl k 0 1) = some (.sl id 0 n2, (T.set k0 none).set id (some ⟨5, Y⟩)) :=
  app_tip u65 z5 c5 (by decide) rfl (by decide) hT hk hne (by rw [hc]; rfl) (by rw [hX, List.length_map, hn]; exact Nat.le_refl _) hn2 (by rw [hY, hX, hc, List.map_append, hn, ← List.map_take, List.take_length]; rfl) hb
theorem line_calls (X CH : List (List AV)) (ns k k2 : Nat) (u n : Int) (S : List (List AV)) (bs : List UInt8) (hS : ∀ c ∈ S, closedAll [] c = true) (hb : bs.length + 1 + n.toNat ≤ 100000000) (hk : k = bs.length) (hk2 : k2 = (bs ++ lineB n).length) :
    PCalls Try.prog 67 1 [.ptr 0 0 0, .flat (.int .i64 n)] [⟨77, [chooserC X CH ns k u 1 2]⟩, ⟨3, S⟩, ⟨5, bs.map byteC⟩] (.tup []) [some ⟨77, [chooserC X CH ns k2 u 1 2]⟩, some ⟨3, S⟩, some ⟨5, (bs ++ lineB n).map byteC⟩] := by
  obtain ⟨Z, hZ⟩ : ∃ Z, Z = bs.map byteC := ⟨_, rfl⟩
  obtain ⟨Z2, hZ2⟩ : ∃ Z, Z = (bs ++ lineB n).map byteC := ⟨_, rfl⟩
  obtain ⟨Z1, hZ1⟩ : ∃ Z, Z = (bs ++ [10]).map byteC := ⟨_, rfl⟩
  obtain ⟨k1, hk1⟩ : ∃ k1, k1 = k + 1 := ⟨_, rfl⟩
  have hk1l : k1 = (bs ++ [10]).length := by rw [List.length_append, hk1, hk]; rfl
  have hz := lnAt_zero bs n
  rw [← hZ, ← hZ2]
  unfold chooserC
  refine pcalls_symF tabF_ok 1 (by decide) (by simp) fn67 rfl rfl rfl (by kernel_rfl) ?_
  rintro ⟨lt, le, eq, se, ar, dv, una, conv, len, sln, nat, nth, ixs, cel, sto, app, cpy, slc, mak, ixv, oth, dk, ib, call⟩ hS hm Q hQ
  obtain ⟨hlt, hle, heq, hse, har, hdv, huna, hconv, hlen, hsln, hnat, hnth, hixs, hcel, hsto, happ, hcpy, hslc, hmak, hixv, hoth, hdk, hib, hcall⟩ := Sym.mk.inj hS
  clear hS
  have hnt : ∀ n : Nat, nat n = U.natI n := fun n => by rw [hnat]; rfl
  have hbox : ∀ e c off, cel (some ⟨e, [c]⟩) 0 off = if off ≤ c.length then some (c.drop off) else none := fun e c off => by rw [hcel]; rfl
  have hsbox : ∀ e c off sz y, sto (some ⟨e, [c]⟩) 0 off sz y = if y.cells.length = sz ∧ off + sz ≤ c.length ∧ y.cells.all AV.one = true then some ⟨e, [spl c off y.cells]⟩ else none := fun e c off sz y => by rw [hsto]; rfl
  have hcaw : ∀ {f args T base K}, CallK Try.prog f args T base K → call f args T base K := fun h => by rw [hcall]; exact h
  have hcal : ∀ {f args T base} {K : AV → Table → List Nat → List Nat → Prop}, (∃ args' ids val rows, Hands T ids args args' (val base) (rows base) ∧ ACalls Try.prog f args' val rows ∧ (rows base).length ≤ 8 ∧ K (val base) (adopt T base (rows base)) ids ((List.range (rows base).length).map (base + ·))) → call f args T base K := fun h => hcaw (call_own h)
  have a1 : ∀ (T : Table) id k0 kk, T k0 = some ⟨5, Z⟩ → T kk = some ⟨5, [[.flat (.int .u8 10)]]⟩ → kk ≠ k0 → app T id 65 65 (.sl k0 0 k) (.sl kk 0 1) = some (.sl id 0 k1, (T.set k0 none).set id (some ⟨5, Z1⟩)) := fun T id k0 kk h1 h2 h3 => by
    rw [happ]; exact tip_byte T hZ hZ1 rfl hk hk1 (by omega) h1 h2 h3
  cbv
  repeat (first | (rw [hbox]; cbv) | (rw [hsbox]; cbv))
  rw [a1 _ _ _ _ (by rfl) (by rfl) (by decide)]; cbv
  repeat (first | (rw [hbox]; cbv) | (rw [hsbox]; cbv))
  refine MW_loopP hm [0, 1, 51] [0, 1, 13, 14] 15 ⟨by simp, by rfl⟩ (fun mz st => ∃ (i : Int) (cs : List UInt8) (m : Nat) (Y : List (List AV)), LnAt bs n i cs ∧ Y = cs.map byteC ∧ m = cs.length ∧ mz = (n - i).toNat ∧ st = stOf [.ptr 0 0 0, .flat (.int .i64 n), .dead, .dead, .dead, .dead, .dead, .dead, .dead, .dead, .dead, .dead, .dead, .flat (.int .i64 n), .flat (.int .i64 i)] [some ⟨77, [[.ro X, .sl 1 0 ns, .ro CH, .flat (.int .i64 u), .sl 2 0 m]]⟩, some ⟨3, S⟩, some ⟨5, Y⟩] 3) ((n - 0).toNat) ?_ ?_
  · exact ⟨0, _, k1, Z1, hz, hZ1, hk1l, rfl, cut_eq (by cbv) (cutRows_box (by rfl) (by rfl) (by rfl) (cutRows_cons (by rfl) (hS) (cutRows_cons (by rfl) (closed_byte hZ1) rfl)))⟩
  rintro mz st ⟨i, cs, m, Y, hi, hY, hm1, hmz, rfl⟩
  cases hc : lt i n
  · have hc' : decide (i < n) = false := by rw [hlt] at hc; exact hc
    have hend := lnAt_end hi hc'
    cbv
    rw [hc]; cbv
    repeat (first | (rw [hbox]; cbv) | (rw [hsbox]; cbv))
    have e1 : m = k2 := by rw [hm1, hk2, hend]
    have e2 : Y = Z2 := by rw [hY, hZ2, hend]
    subst e1 e2
    exact hQ _ _ trivial (pleaves [0, 1, 2] (by cbv) rfl (by simp) (by rfl) (by simp) (cutRows_box (by rfl) (by rfl) (by rfl) (cutRows_cons (by rfl) (hS) (cutRows_cons (by rfl) (closed_byte hY) rfl))))
  have hc' : decide (i < n) = true := by rw [hlt] at hc; exact hc
  obtain ⟨r1, r2, r3, r4⟩ := lnAt_step hb hi hc'
  rw [← har] at r2
  obtain ⟨Y2, hY2⟩ : ∃ Z, Z = (cs ++ [32]).map byteC := ⟨_, rfl⟩
  obtain ⟨m2, hm2⟩ : ∃ k1, k1 = m + 1 := ⟨_, rfl⟩
  have hm2l : m2 = (cs ++ [32]).length := by rw [List.length_append, hm2, hm1]; rfl
  have a2 : ∀ (T : Table) id k0 kk, T k0 = some ⟨5, Y⟩ → T kk = some ⟨5, [[.flat (.int .u8 32)]]⟩ → kk ≠ k0 → app T id 65 65 (.sl k0 0 m) (.sl kk 0 1) = some (.sl id 0 m2, (T.set k0 none).set id (some ⟨5, Y2⟩)) := fun T id k0 kk h1 h2 h3 => by
    rw [happ]; exact tip_byte T hY hY2 rfl hm1 hm2 (by omega) h1 h2 h3
  generalize i + 1 = i2 at r1 r2 r3
  generalize cs ++ [32] = cs2 at r1 hY2 hm2l
  cbv
  rw [hc]; cbv
  repeat (first | (rw [hbox]; cbv) | (rw [hsbox]; cbv))
  rw [a2 _ _ _ _ (by rfl) (by rfl) (by decide)]; cbv
  repeat (first | (rw [hbox]; cbv) | (rw [hsbox]; cbv))
  rw [r2]
  exact ⟨[0, 1, 59], [0, 1, 13, 14], 15, (n - i2).toNat, hmz ▸ r3, ⟨by simp, by rfl⟩, i2, cs2, m2, Y2, r1, hY2, hm2l, rfl, cut_eq (by cbv) (cutRows_box (by rfl) (by rfl) (by rfl) (cutRows_cons (by rfl) (hS) (cutRows_cons (by rfl) (closed_byte hY2) rfl)))⟩
end Go.Proofs.Ytagflbmonlaioaa.D
