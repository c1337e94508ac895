/- Contracts: lay.chooser.do: a part, laid by choices. -/
import Derived.Test.YtagflbmonlaioaaE1
import Derived.Test.YtagflbmonlaioaaD11
namespace Go.Proofs.Ytagflbmonlaioaa.D
open Go G U K
set_option linter.unusedVariables false
set_option linter.unusedSimpArgs false
set_option maxRecDepth 100000
set_option maxHeartbeats 4000000
theorem fn62 : Try.prog.funcs[62]? = some Try.f62 := by kernel_rfl
def byT (ch : List Bool) : Tr → Int → Bool → Int → List UInt8 × Int
  | .lf p, n, fl, u => if p.kind = 0 then (bts p.text, u) else if p.kind = 1 then (if fl = true then [32] else lineB n, u) else if p.kind = 2 then (if fl = true then [] else lineB n, u) else if p.kind = 3 then (lineB n, u) else ([], u)
  | .un p t, n, fl, u => if p.kind = 5 then byT ch t (n + p.n) fl u else if fl = true then byT ch t n true u else byT ch t n (chosen ch u) (u + 1)
  | .cat _ a b, n, fl, u => ((byT ch a n fl u).1 ++ (byT ch b n fl (byT ch a n fl u).2).1, (byT ch b n fl (byT ch a n fl u).2).2)
theorem byT_used (ch : List Bool) : ∀ (t : Tr) (n : Int) (fl : Bool) (u : Int), u ≤ (byT ch t n fl u).2 ∧ (byT ch t n fl u).2 ≤ u + t.flat.length
  | .lf p, n, fl, u => by
    simp only [byT, Tr.flat, List.length_cons, List.length_nil]
    repeat' split
    all_goals exact ⟨show u ≤ u by omega, show u ≤ _ by omega⟩
  | .un p t, n, fl, u => by
    simp only [byT, Tr.flat, List.length_append, List.length_cons, List.length_nil]
    split
    · have := byT_used ch t (n + p.n) fl u; omega
    · split
      · have := byT_used ch t n true u; omega
      · have := byT_used ch t n (chosen ch u) (u + 1); omega
  | .cat p a b, n, fl, u => by
    simp only [byT, Tr.flat, List.length_append, List.length_cons, List.length_nil]
    have h1 := byT_used ch a n fl u
    have h2 := byT_used ch b n fl (byT ch a n fl u).2
    omega
theorem start_sub {d pre : DocT} {t : Tr} {i : Int} (ht : t.ok) (h : pre ++ t.flat = d.take (i + 1).toNat) : startD d i = pre.length := by
  unfold startD
  rw [← h, List.reverse_append, back_tree t _ 1 ht (Int.le_refl 1), if_pos rfl, List.length_reverse]
/-- The call for a part. -/
def DoK (d : DocT) (ch : List Bool) (a n : Int) (fl : Bool) (u : Int) (bs out : List UInt8) (u2 : Int) : Prop :=
  ∀ (ns k k2 : Nat), ns = d.length → k = bs.length → k2 = (bs ++ out).length → PCalls Try.prog 62 1 [.ptr 0 0 0, .flat (.int .i64 a), .flat (.int .i64 n), .flat (.bool fl)]
    [⟨77, [chooserC (d.map partC) (ch.map boolC) ns k u 1 2]⟩, ⟨3, (startsD d).map intC⟩, ⟨5, bs.map byteC⟩] (.tup []) [some ⟨77, [chooserC (d.map partC) (ch.map boolC) ns k2 u2 1 2]⟩, some ⟨3, (startsD d).map intC⟩, some ⟨5, (bs ++ out).map byteC⟩]
theorem at_mid {d pre post l : DocT} {p : PartT} (h : d = pre ++ (l ++ [p]) ++ post) (a : Int) (ha : a = pre.length + (l ++ [p]).length - 1) : nthE (d.map partC) a 3 = some (.rp (partC p)) ∧ 0 ≤ a ∧ a < d.length := by
  have hl : (l ++ [p]).length = l.length + 1 := by simp
  have h0 : 0 ≤ a := by omega
  have h1 : a < d.length := by rw [h]; simp only [List.length_append, List.length_cons, List.length_nil]; omega
  refine ⟨?_, h0, h1⟩
  rw [nth_map (sz := 3) (fun _ => rfl) h0 h1]
  have : d[a.toNat]? = some p := by
    have e : a.toNat = (pre ++ l).length := by rw [List.length_append]; omega
    rw [h, e, show pre ++ (l ++ [p]) ++ post = (pre ++ l) ++ (p :: post) by simp, List.getElem?_append_right (Nat.le_refl _)]
    simp
  simp [atI, List.getD, this]
theorem t0 {k : Int} (h : takes k = 0) : k = 0 ∨ k = 1 ∨ k = 2 ∨ k = 3 ∨ k = 7 := by
  unfold takes at h
  by_cases h0 : k = 0 ∨ k = 1 ∨ k = 2 ∨ k = 3 ∨ k = 7
  · exact h0
  · rw [if_neg h0] at h; split at h
    · cases h
    · split at h <;> cases h
theorem t1 {k : Int} (h : takes k = 1) : k = 5 ∨ k = 6 := by
  unfold takes at h
  split at h
  · cases h
  · split at h
    · assumption
    · split at h <;> cases h
theorem t2 {k : Int} (h : takes k = 2) : k = 4 := by
  unfold takes at h
  split at h
  · cases h
  · split at h
    · cases h
    · split at h
      · assumption
      · cases h
theorem str_byte (T : Table) {id k0 n n2 : Nat} {bs : List UInt8} {s : ByteArray} {X Y : List (List AV)} (hX : X = bs.map byteC) (hY : Y = (bs ++ bts s).map byteC) (hn : n = bs.length) (hn2 : n2 = n + s.size) (hb : n2 ≤ 100000000) (hT : T k0 = some ⟨5, X⟩) :
    evAppend Try.prog T id 65 9 (.sl k0 0 n) (.flat (.string s)) = some (.sl id 0 n2, (T.set k0 none).set id (some ⟨5, Y⟩)) :=
  app_str u65 u9 z5 rfl (by decide) hT (by rw [hX, List.length_map, hn]; exact Nat.le_refl _) hn2 (by rw [hY, List.map_append, hX, hn, ← List.map_take, List.take_length]; rfl) hb

theorem do_lf0 {d pre post : DocT} {ch : List Bool} {p : PartT} {a n u : Int} {fl : Bool} {bs : List UInt8} (hd : d = pre ++ ([] ++ [p]) ++ post) (ha : a = pre.length + ([] ++ [p]).length - 1) (hkd : p.kind = 0) (hb : bs.length + (bts p.text).length ≤ 100000000) : DoK d ch a n fl u bs (bts p.text) u := by
  unfold DoK
  intro ns k k2 hns hk hk2
  obtain ⟨hix, ha0, ha1⟩ := at_mid hd a ha
  have hScl := closed_int (l := startsD d) rfl
  have hZcl := closed_byte (l := bs) rfl
  obtain ⟨kd, pn, tx⟩ := p
  dsimp only at hkd hb hk2
  subst hkd
  obtain ⟨X, hX⟩ : ∃ X, X = d.map partC := ⟨_, rfl⟩
  obtain ⟨S, hS⟩ : ∃ X, X = (startsD d).map intC := ⟨_, rfl⟩
  obtain ⟨CH, hCH⟩ : ∃ X, X = ch.map boolC := ⟨_, rfl⟩
  obtain ⟨Z, hZ⟩ : ∃ X, X = bs.map byteC := ⟨_, rfl⟩
  obtain ⟨Z2, hZ2⟩ : ∃ X, X = (bs ++ bts tx).map byteC := ⟨_, rfl⟩
  rw [← hX, ← hS, ← hCH, ← hZ, ← hZ2]
  rw [← hX] at hix
  rw [← hS] at hScl
  rw [← hZ] at hZcl
  have hZ2cl := closed_byte hZ2
  unfold partC at hix
  dsimp only at hix
  unfold chooserC
  refine pcalls_symF tabF_ok 1 (by decide) (by simp) fn62 rfl rfl rfl (by kernel_rfl) ?_
  rintro ⟨lt, le, eq, se, ar, dv, una, conv, len, sln, nat, nth, ixs, cel, sto, app, cpy, slc, mak, ixv, oth, dk, ib, call⟩ hS hm Q hQ
  obtain ⟨hlt, hle, heq, hse, har, hdv, huna, hconv, hlen, hsln, hnat, hnth, hixs, hcel, hsto, happ, hcpy, hslc, hmak, hixv, hoth, hdk, hib, hcall⟩ := Sym.mk.inj hS
  clear hS
  have hnt : ∀ n : Nat, nat n = U.natI n := fun n => by rw [hnat]; rfl
  have hbox : ∀ e c off, cel (some ⟨e, [c]⟩) 0 off = if off ≤ c.length then some (c.drop off) else none := fun e c off => by rw [hcel]; rfl
  have hsbox : ∀ e c off sz y, sto (some ⟨e, [c]⟩) 0 off sz y = if y.cells.length = sz ∧ off + sz ≤ c.length ∧ y.cells.all AV.one = true then some ⟨e, [spl c off y.cells]⟩ else none := fun e c off sz y => by rw [hsto]; rfl
  have hcaw : ∀ {f args T base K}, CallK Try.prog f args T base K → call f args T base K := fun h => by rw [hcall]; exact h
  have hcal : ∀ {f args T base} {K : AV → Table → List Nat → List Nat → Prop}, (∃ args' ids val rows, Hands T ids args args' (val base) (rows base) ∧ ACalls Try.prog f args' val rows ∧ (rows base).length ≤ 8 ∧ K (val base) (adopt T base (rows base)) ids ((List.range (rows base).length).map (base + ·))) → call f args T base K := fun h => hcaw (call_own h)
  have hE : ∀ x y, eq x y = decide (x = y) := fun x y => by rw [heq]
  rw [← hnth] at hix
  cbv
  repeat (first | (rw [hbox]; cbv) | (rw [hsbox]; cbv) | (rw [hix]; cbv))
  repeat (first | (rw [hbox]; cbv) | (rw [hsbox]; cbv) | (rw [hE]; cbv))
  have ha : ∀ (T : Table) id k0, T k0 = some ⟨5, Z⟩ → app T id 65 9 (.sl k0 0 k) (.flat (.string tx)) = some (.sl id 0 k2, (T.set k0 none).set id (some ⟨5, Z2⟩)) := fun T id k0 h => by
    rw [happ]
    have e : k2 = k + tx.size := by rw [hk2, List.length_append, hk, bts_len]
    exact str_byte T hZ hZ2 hk e (by rw [e, hk]; rw [bts_len] at hb; exact hb) h
  refine ⟨by rw [hdk]; kernel_rfl, ?_⟩
  repeat (first | (rw [hbox]; cbv) | (rw [hsbox]; cbv))
  rw [ha _ _ _ (by rfl)]; cbv
  repeat (first | (rw [hbox]; cbv) | (rw [hsbox]; cbv))
  refine ⟨by rw [hib]; kernel_rfl, ?_⟩
  cbv
  exact hQ _ _ trivial (pleaves [0, 1, 163] (by cbv) rfl (by simp) (by rfl) (by simp) (cutRows_box (by rfl) (by rfl) (by rfl) (cutRows_cons (by rfl) (hScl) (cutRows_cons (by rfl) (hZ2cl) rfl))))
theorem do_lf1t {d pre post : DocT} {ch : List Bool} {p : PartT} {a n u : Int} {fl : Bool} {bs : List UInt8} (hd : d = pre ++ ([] ++ [p]) ++ post) (ha : a = pre.length + ([] ++ [p]).length - 1) (hkd : p.kind = 1) (hb : bs.length + [32].length ≤ 100000000) : DoK d ch a n true u bs [32] u := by
  unfold DoK
  intro ns k k2 hns hk hk2
  obtain ⟨hix, ha0, ha1⟩ := at_mid hd a ha
  have hScl := closed_int (l := startsD d) rfl
  have hZcl := closed_byte (l := bs) rfl
  obtain ⟨kd, pn, tx⟩ := p
  dsimp only at hkd hb hk2
  subst hkd
  obtain ⟨X, hX⟩ : ∃ X, X = d.map partC := ⟨_, rfl⟩
  obtain ⟨S, hS⟩ : ∃ X, X = (startsD d).map intC := ⟨_, rfl⟩
  obtain ⟨CH, hCH⟩ : ∃ X, X = ch.map boolC := ⟨_, rfl⟩
  obtain ⟨Z, hZ⟩ : ∃ X, X = bs.map byteC := ⟨_, rfl⟩
  obtain ⟨Z2, hZ2⟩ : ∃ X, X = (bs ++ [32]).map byteC := ⟨_, rfl⟩
  rw [← hX, ← hS, ← hCH, ← hZ, ← hZ2]
  rw [← hX] at hix
  rw [← hS] at hScl
  rw [← hZ] at hZcl
  have hZ2cl := closed_byte hZ2
  unfold partC at hix
  dsimp only at hix
  unfold chooserC
  refine pcalls_symF tabF_ok 1 (by decide) (by simp) fn62 rfl rfl rfl (by kernel_rfl) ?_
  rintro ⟨lt, le, eq, se, ar, dv, una, conv, len, sln, nat, nth, ixs, cel, sto, app, cpy, slc, mak, ixv, oth, dk, ib, call⟩ hS hm Q hQ
  obtain ⟨hlt, hle, heq, hse, har, hdv, huna, hconv, hlen, hsln, hnat, hnth, hixs, hcel, hsto, happ, hcpy, hslc, hmak, hixv, hoth, hdk, hib, hcall⟩ := Sym.mk.inj hS
  clear hS
  have hnt : ∀ n : Nat, nat n = U.natI n := fun n => by rw [hnat]; rfl
  have hbox : ∀ e c off, cel (some ⟨e, [c]⟩) 0 off = if off ≤ c.length then some (c.drop off) else none := fun e c off => by rw [hcel]; rfl
  have hsbox : ∀ e c off sz y, sto (some ⟨e, [c]⟩) 0 off sz y = if y.cells.length = sz ∧ off + sz ≤ c.length ∧ y.cells.all AV.one = true then some ⟨e, [spl c off y.cells]⟩ else none := fun e c off sz y => by rw [hsto]; rfl
  have hcaw : ∀ {f args T base K}, CallK Try.prog f args T base K → call f args T base K := fun h => by rw [hcall]; exact h
  have hcal : ∀ {f args T base} {K : AV → Table → List Nat → List Nat → Prop}, (∃ args' ids val rows, Hands T ids args args' (val base) (rows base) ∧ ACalls Try.prog f args' val rows ∧ (rows base).length ≤ 8 ∧ K (val base) (adopt T base (rows base)) ids ((List.range (rows base).length).map (base + ·))) → call f args T base K := fun h => hcaw (call_own h)
  have hE : ∀ x y, eq x y = decide (x = y) := fun x y => by rw [heq]
  rw [← hnth] at hix
  cbv
  repeat (first | (rw [hbox]; cbv) | (rw [hsbox]; cbv) | (rw [hix]; cbv))
  repeat (first | (rw [hbox]; cbv) | (rw [hsbox]; cbv) | (rw [hE]; cbv))
  have ha : ∀ (T : Table) id k0 kk, T k0 = some ⟨5, Z⟩ → T kk = some ⟨5, [[.flat (.int .u8 32)]]⟩ → kk ≠ k0 → app T id 65 65 (.sl k0 0 k) (.sl kk 0 1) = some (.sl id 0 k2, (T.set k0 none).set id (some ⟨5, Z2⟩)) := fun T id k0 kk h1 h2 h3 => by
    rw [happ]
    have e : k2 = k + 1 := by rw [hk2, List.length_append, hk]; rfl
    exact tip_byte T hZ hZ2 rfl hk e (by rw [e, hk]; exact hb) h1 h2 h3
  rw [ha _ _ _ _ (by rfl) (by rfl) (by decide)]; cbv
  repeat (first | (rw [hbox]; cbv) | (rw [hsbox]; cbv))
  exact hQ _ _ trivial (pleaves [0, 1, 179] (by cbv) rfl (by simp) (by rfl) (by simp) (cutRows_box (by rfl) (by rfl) (by rfl) (cutRows_cons (by rfl) (hScl) (cutRows_cons (by rfl) (hZ2cl) rfl))))
theorem do_lf1f {d pre post : DocT} {ch : List Bool} {p : PartT} {a n u : Int} {fl : Bool} {bs : List UInt8} (hd : d = pre ++ ([] ++ [p]) ++ post) (ha : a = pre.length + ([] ++ [p]).length - 1) (hkd : p.kind = 1) (hb : bs.length + (lineB n).length ≤ 100000000) : DoK d ch a n false u bs (lineB n) u := by
  unfold DoK
  intro ns k k2 hns hk hk2
  obtain ⟨hix, ha0, ha1⟩ := at_mid hd a ha
  have hScl := closed_int (l := startsD d) rfl
  have hZcl := closed_byte (l := bs) rfl
  have hl := line_calls (d.map partC) (ch.map boolC) ns k k2 u n ((startsD d).map intC) bs hScl (by unfold lineB at hb; rw [List.length_cons, List.length_replicate] at hb; omega) hk hk2
  obtain ⟨kd, pn, tx⟩ := p
  dsimp only at hkd hb hk2
  subst hkd
  unfold chooserC at hl
  obtain ⟨X, hX⟩ : ∃ X, X = d.map partC := ⟨_, rfl⟩
  obtain ⟨S, hS⟩ : ∃ X, X = (startsD d).map intC := ⟨_, rfl⟩
  obtain ⟨CH, hCH⟩ : ∃ X, X = ch.map boolC := ⟨_, rfl⟩
  obtain ⟨Z, hZ⟩ : ∃ X, X = bs.map byteC := ⟨_, rfl⟩
  obtain ⟨Z2, hZ2⟩ : ∃ X, X = (bs ++ (lineB n)).map byteC := ⟨_, rfl⟩
  rw [← hX, ← hS, ← hCH, ← hZ, ← hZ2]
  rw [← hX] at hix
  rw [← hS] at hScl
  rw [← hZ] at hZcl
  have hZ2cl := closed_byte hZ2
  rw [← hX, ← hS, ← hCH, ← hZ, ← hZ2] at hl
  unfold partC at hix
  dsimp only at hix
  unfold chooserC
  refine pcalls_symF tabF_ok 1 (by decide) (by simp) fn62 rfl rfl rfl (by kernel_rfl) ?_
  rintro ⟨lt, le, eq, se, ar, dv, una, conv, len, sln, nat, nth, ixs, cel, sto, app, cpy, slc, mak, ixv, oth, dk, ib, call⟩ hS hm Q hQ
  obtain ⟨hlt, hle, heq, hse, har, hdv, huna, hconv, hlen, hsln, hnat, hnth, hixs, hcel, hsto, happ, hcpy, hslc, hmak, hixv, hoth, hdk, hib, hcall⟩ := Sym.mk.inj hS
  clear hS
  have hnt : ∀ n : Nat, nat n = U.natI n := fun n => by rw [hnat]; rfl
  have hbox : ∀ e c off, cel (some ⟨e, [c]⟩) 0 off = if off ≤ c.length then some (c.drop off) else none := fun e c off => by rw [hcel]; rfl
  have hsbox : ∀ e c off sz y, sto (some ⟨e, [c]⟩) 0 off sz y = if y.cells.length = sz ∧ off + sz ≤ c.length ∧ y.cells.all AV.one = true then some ⟨e, [spl c off y.cells]⟩ else none := fun e c off sz y => by rw [hsto]; rfl
  have hcaw : ∀ {f args T base K}, CallK Try.prog f args T base K → call f args T base K := fun h => by rw [hcall]; exact h
  have hcal : ∀ {f args T base} {K : AV → Table → List Nat → List Nat → Prop}, (∃ args' ids val rows, Hands T ids args args' (val base) (rows base) ∧ ACalls Try.prog f args' val rows ∧ (rows base).length ≤ 8 ∧ K (val base) (adopt T base (rows base)) ids ((List.range (rows base).length).map (base + ·))) → call f args T base K := fun h => hcaw (call_own h)
  have hE : ∀ x y, eq x y = decide (x = y) := fun x y => by rw [heq]
  rw [← hnth] at hix
  cbv
  repeat (first | (rw [hbox]; cbv) | (rw [hsbox]; cbv) | (rw [hix]; cbv))
  repeat (first | (rw [hbox]; cbv) | (rw [hsbox]; cbv) | (rw [hE]; cbv))
  refine hcaw (call_with [0, 1, 2] hl (by simp) (by decide) (cutRows_box (by rfl) (by rfl) (by rfl) (cutRows_cons (by rfl) (hScl) (cutRows_cons (by rfl) (hZcl) rfl))) (by rfl) (by rfl) (by rfl) (renRows_box (by rfl) (renRows_cons (hScl) (renRows_cons (hZ2cl) rfl))) ?_)
  cbv
  exact hQ _ _ trivial (pleaves [0, 147, 148] (by cbv) rfl (by simp) (by rfl) (by simp) (cutRows_box (by rfl) (by rfl) (by rfl) (cutRows_cons (by rfl) (hScl) (cutRows_cons (by rfl) (hZ2cl) rfl))))
theorem do_lf2t {d pre post : DocT} {ch : List Bool} {p : PartT} {a n u : Int} {fl : Bool} {bs : List UInt8} (hd : d = pre ++ ([] ++ [p]) ++ post) (ha : a = pre.length + ([] ++ [p]).length - 1) (hkd : p.kind = 2) (hb : bs.length + ([] : List UInt8).length ≤ 100000000) : DoK d ch a n true u bs ([] : List UInt8) u := by
  unfold DoK
  intro ns k k2 hns hk hk2
  obtain ⟨hix, ha0, ha1⟩ := at_mid hd a ha
  have hScl := closed_int (l := startsD d) rfl
  have hZcl := closed_byte (l := bs) rfl
  obtain ⟨kd, pn, tx⟩ := p
  dsimp only at hkd hb hk2
  subst hkd
  obtain ⟨X, hX⟩ : ∃ X, X = d.map partC := ⟨_, rfl⟩
  obtain ⟨S, hS⟩ : ∃ X, X = (startsD d).map intC := ⟨_, rfl⟩
  obtain ⟨CH, hCH⟩ : ∃ X, X = ch.map boolC := ⟨_, rfl⟩
  obtain ⟨Z, hZ⟩ : ∃ X, X = bs.map byteC := ⟨_, rfl⟩
  obtain ⟨Z2, hZ2⟩ : ∃ X, X = (bs ++ ([] : List UInt8)).map byteC := ⟨_, rfl⟩
  rw [← hX, ← hS, ← hCH, ← hZ, ← hZ2]
  rw [← hX] at hix
  rw [← hS] at hScl
  rw [← hZ] at hZcl
  have hZ2cl := closed_byte hZ2
  unfold partC at hix
  dsimp only at hix
  unfold chooserC
  refine pcalls_symF tabF_ok 1 (by decide) (by simp) fn62 rfl rfl rfl (by kernel_rfl) ?_
  rintro ⟨lt, le, eq, se, ar, dv, una, conv, len, sln, nat, nth, ixs, cel, sto, app, cpy, slc, mak, ixv, oth, dk, ib, call⟩ hS hm Q hQ
  obtain ⟨hlt, hle, heq, hse, har, hdv, huna, hconv, hlen, hsln, hnat, hnth, hixs, hcel, hsto, happ, hcpy, hslc, hmak, hixv, hoth, hdk, hib, hcall⟩ := Sym.mk.inj hS
  clear hS
  have hnt : ∀ n : Nat, nat n = U.natI n := fun n => by rw [hnat]; rfl
  have hbox : ∀ e c off, cel (some ⟨e, [c]⟩) 0 off = if off ≤ c.length then some (c.drop off) else none := fun e c off => by rw [hcel]; rfl
  have hsbox : ∀ e c off sz y, sto (some ⟨e, [c]⟩) 0 off sz y = if y.cells.length = sz ∧ off + sz ≤ c.length ∧ y.cells.all AV.one = true then some ⟨e, [spl c off y.cells]⟩ else none := fun e c off sz y => by rw [hsto]; rfl
  have hcaw : ∀ {f args T base K}, CallK Try.prog f args T base K → call f args T base K := fun h => by rw [hcall]; exact h
  have hcal : ∀ {f args T base} {K : AV → Table → List Nat → List Nat → Prop}, (∃ args' ids val rows, Hands T ids args args' (val base) (rows base) ∧ ACalls Try.prog f args' val rows ∧ (rows base).length ≤ 8 ∧ K (val base) (adopt T base (rows base)) ids ((List.range (rows base).length).map (base + ·))) → call f args T base K := fun h => hcaw (call_own h)
  have hE : ∀ x y, eq x y = decide (x = y) := fun x y => by rw [heq]
  rw [← hnth] at hix
  cbv
  repeat (first | (rw [hbox]; cbv) | (rw [hsbox]; cbv) | (rw [hix]; cbv))
  repeat (first | (rw [hbox]; cbv) | (rw [hsbox]; cbv) | (rw [hE]; cbv))
  have e1 : Z2 = Z := by rw [hZ2, hZ, List.append_nil]
  have e2 : k2 = k := by rw [hk2, hk, List.append_nil]
  subst e1 e2
  exact hQ _ _ trivial (pleaves [0, 1, 2] (by cbv) rfl (by simp) (by rfl) (by simp) (cutRows_box (by rfl) (by rfl) (by rfl) (cutRows_cons (by rfl) (hScl) (cutRows_cons (by rfl) (hZcl) rfl))))
theorem do_lf2f {d pre post : DocT} {ch : List Bool} {p : PartT} {a n u : Int} {fl : Bool} {bs : List UInt8} (hd : d = pre ++ ([] ++ [p]) ++ post) (ha : a = pre.length + ([] ++ [p]).length - 1) (hkd : p.kind = 2) (hb : bs.length + (lineB n).length ≤ 100000000) : DoK d ch a n false u bs (lineB n) u := by
  unfold DoK
  intro ns k k2 hns hk hk2
  obtain ⟨hix, ha0, ha1⟩ := at_mid hd a ha
  have hScl := closed_int (l := startsD d) rfl
  have hZcl := closed_byte (l := bs) rfl
  have hl := line_calls (d.map partC) (ch.map boolC) ns k k2 u n ((startsD d).map intC) bs hScl (by unfold lineB at hb; rw [List.length_cons, List.length_replicate] at hb; omega) hk hk2
  obtain ⟨kd, pn, tx⟩ := p
  dsimp only at hkd hb hk2
  subst hkd
  unfold chooserC at hl
  obtain ⟨X, hX⟩ : ∃ X, X = d.map partC := ⟨_, rfl⟩
  obtain ⟨S, hS⟩ : ∃ X, X = (startsD d).map intC := ⟨_, rfl⟩
  obtain ⟨CH, hCH⟩ : ∃ X, X = ch.map boolC := ⟨_, rfl⟩
  obtain ⟨Z, hZ⟩ : ∃ X, X = bs.map byteC := ⟨_, rfl⟩
  obtain ⟨Z2, hZ2⟩ : ∃ X, X = (bs ++ (lineB n)).map byteC := ⟨_, rfl⟩
  rw [← hX, ← hS, ← hCH, ← hZ, ← hZ2]
  rw [← hX] at hix
  rw [← hS] at hScl
  rw [← hZ] at hZcl
  have hZ2cl := closed_byte hZ2
  rw [← hX, ← hS, ← hCH, ← hZ, ← hZ2] at hl
  unfold partC at hix
  dsimp only at hix
  unfold chooserC
  refine pcalls_symF tabF_ok 1 (by decide) (by simp) fn62 rfl rfl rfl (by kernel_rfl) ?_
  rintro ⟨lt, le, eq, se, ar, dv, una, conv, len, sln, nat, nth, ixs, cel, sto, app, cpy, slc, mak, ixv, oth, dk, ib, call⟩ hS hm Q hQ
  obtain ⟨hlt, hle, heq, hse, har, hdv, huna, hconv, hlen, hsln, hnat, hnth, hixs, hcel, hsto, happ, hcpy, hslc, hmak, hixv, hoth, hdk, hib, hcall⟩ := Sym.mk.inj hS
  clear hS
  have hnt : ∀ n : Nat, nat n = U.natI n := fun n => by rw [hnat]; rfl
  have hbox : ∀ e c off, cel (some ⟨e, [c]⟩) 0 off = if off ≤ c.length then some (c.drop off) else none := fun e c off => by rw [hcel]; rfl
  have hsbox : ∀ e c off sz y, sto (some ⟨e, [c]⟩) 0 off sz y = if y.cells.length = sz ∧ off + sz ≤ c.length ∧ y.cells.all AV.one = true then some ⟨e, [spl c off y.cells]⟩ else none := fun e c off sz y => by rw [hsto]; rfl
  have hcaw : ∀ {f args T base K}, CallK Try.prog f args T base K → call f args T base K := fun h => by rw [hcall]; exact h
  have hcal : ∀ {f args T base} {K : AV → Table → List Nat → List Nat → Prop}, (∃ args' ids val rows, Hands T ids args args' (val base) (rows base) ∧ ACalls Try.prog f args' val rows ∧ (rows base).length ≤ 8 ∧ K (val base) (adopt T base (rows base)) ids ((List.range (rows base).length).map (base + ·))) → call f args T base K := fun h => hcaw (call_own h)
  have hE : ∀ x y, eq x y = decide (x = y) := fun x y => by rw [heq]
  rw [← hnth] at hix
  cbv
  repeat (first | (rw [hbox]; cbv) | (rw [hsbox]; cbv) | (rw [hix]; cbv))
  repeat (first | (rw [hbox]; cbv) | (rw [hsbox]; cbv) | (rw [hE]; cbv))
  refine hcaw (call_with [0, 1, 2] hl (by simp) (by decide) (cutRows_box (by rfl) (by rfl) (by rfl) (cutRows_cons (by rfl) (hScl) (cutRows_cons (by rfl) (hZcl) rfl))) (by rfl) (by rfl) (by rfl) (renRows_box (by rfl) (renRows_cons (hScl) (renRows_cons (hZ2cl) rfl))) ?_)
  cbv
  exact hQ _ _ trivial (pleaves [0, 171, 172] (by cbv) rfl (by simp) (by rfl) (by simp) (cutRows_box (by rfl) (by rfl) (by rfl) (cutRows_cons (by rfl) (hScl) (cutRows_cons (by rfl) (hZ2cl) rfl))))
theorem do_lf3 {d pre post : DocT} {ch : List Bool} {p : PartT} {a n u : Int} {fl : Bool} {bs : List UInt8} (hd : d = pre ++ ([] ++ [p]) ++ post) (ha : a = pre.length + ([] ++ [p]).length - 1) (hkd : p.kind = 3) (hb : bs.length + (lineB n).length ≤ 100000000) : DoK d ch a n fl u bs (lineB n) u := by
  unfold DoK
  intro ns k k2 hns hk hk2
  obtain ⟨hix, ha0, ha1⟩ := at_mid hd a ha
  have hScl := closed_int (l := startsD d) rfl
  have hZcl := closed_byte (l := bs) rfl
  have hl := line_calls (d.map partC) (ch.map boolC) ns k k2 u n ((startsD d).map intC) bs hScl (by unfold lineB at hb; rw [List.length_cons, List.length_replicate] at hb; omega) hk hk2
  obtain ⟨kd, pn, tx⟩ := p
  dsimp only at hkd hb hk2
  subst hkd
  unfold chooserC at hl
  obtain ⟨X, hX⟩ : ∃ X, X = d.map partC := ⟨_, rfl⟩
  obtain ⟨S, hS⟩ : ∃ X, X = (startsD d).map intC := ⟨_, rfl⟩
  obtain ⟨CH, hCH⟩ : ∃ X, X = ch.map boolC := ⟨_, rfl⟩
  obtain ⟨Z, hZ⟩ : ∃ X, X = bs.map byteC := ⟨_, rfl⟩
  obtain ⟨Z2, hZ2⟩ : ∃ X, X = (bs ++ (lineB n)).map byteC := ⟨_, rfl⟩
  rw [← hX, ← hS, ← hCH, ← hZ, ← hZ2]
  rw [← hX] at hix
  rw [← hS] at hScl
  rw [← hZ] at hZcl
  have hZ2cl := closed_byte hZ2
  rw [← hX, ← hS, ← hCH, ← hZ, ← hZ2] at hl
  unfold partC at hix
  dsimp only at hix
  unfold chooserC
  refine pcalls_symF tabF_ok 1 (by decide) (by simp) fn62 rfl rfl rfl (by kernel_rfl) ?_
  rintro ⟨lt, le, eq, se, ar, dv, una, conv, len, sln, nat, nth, ixs, cel, sto, app, cpy, slc, mak, ixv, oth, dk, ib, call⟩ hS hm Q hQ
  obtain ⟨hlt, hle, heq, hse, har, hdv, huna, hconv, hlen, hsln, hnat, hnth, hixs, hcel, hsto, happ, hcpy, hslc, hmak, hixv, hoth, hdk, hib, hcall⟩ := Sym.mk.inj hS
  clear hS
  have hnt : ∀ n : Nat, nat n = U.natI n := fun n => by rw [hnat]; rfl
  have hbox : ∀ e c off, cel (some ⟨e, [c]⟩) 0 off = if off ≤ c.length then some (c.drop off) else none := fun e c off => by rw [hcel]; rfl
  have hsbox : ∀ e c off sz y, sto (some ⟨e, [c]⟩) 0 off sz y = if y.cells.length = sz ∧ off + sz ≤ c.length ∧ y.cells.all AV.one = true then some ⟨e, [spl c off y.cells]⟩ else none := fun e c off sz y => by rw [hsto]; rfl
  have hcaw : ∀ {f args T base K}, CallK Try.prog f args T base K → call f args T base K := fun h => by rw [hcall]; exact h
  have hcal : ∀ {f args T base} {K : AV → Table → List Nat → List Nat → Prop}, (∃ args' ids val rows, Hands T ids args args' (val base) (rows base) ∧ ACalls Try.prog f args' val rows ∧ (rows base).length ≤ 8 ∧ K (val base) (adopt T base (rows base)) ids ((List.range (rows base).length).map (base + ·))) → call f args T base K := fun h => hcaw (call_own h)
  have hE : ∀ x y, eq x y = decide (x = y) := fun x y => by rw [heq]
  rw [← hnth] at hix
  cbv
  repeat (first | (rw [hbox]; cbv) | (rw [hsbox]; cbv) | (rw [hix]; cbv))
  repeat (first | (rw [hbox]; cbv) | (rw [hsbox]; cbv) | (rw [hE]; cbv))
  refine hcaw (call_with [0, 1, 2] hl (by simp) (by decide) (cutRows_box (by rfl) (by rfl) (by rfl) (cutRows_cons (by rfl) (hScl) (cutRows_cons (by rfl) (hZcl) rfl))) (by rfl) (by rfl) (by rfl) (renRows_box (by rfl) (renRows_cons (hScl) (renRows_cons (hZ2cl) rfl))) ?_)
  cbv
  exact hQ _ _ trivial (pleaves [0, 171, 172] (by cbv) rfl (by simp) (by rfl) (by simp) (cutRows_box (by rfl) (by rfl) (by rfl) (cutRows_cons (by rfl) (hScl) (cutRows_cons (by rfl) (hZ2cl) rfl))))
theorem do_lf7 {d pre post : DocT} {ch : List Bool} {p : PartT} {a n u : Int} {fl : Bool} {bs : List UInt8} (hd : d = pre ++ ([] ++ [p]) ++ post) (ha : a = pre.length + ([] ++ [p]).length - 1) (hkd : p.kind = 7) (hb : bs.length + ([] : List UInt8).length ≤ 100000000) : DoK d ch a n fl u bs ([] : List UInt8) u := by
  unfold DoK
  intro ns k k2 hns hk hk2
  obtain ⟨hix, ha0, ha1⟩ := at_mid hd a ha
  have hScl := closed_int (l := startsD d) rfl
  have hZcl := closed_byte (l := bs) rfl
  obtain ⟨kd, pn, tx⟩ := p
  dsimp only at hkd hb hk2
  subst hkd
  obtain ⟨X, hX⟩ : ∃ X, X = d.map partC := ⟨_, rfl⟩
  obtain ⟨S, hS⟩ : ∃ X, X = (startsD d).map intC := ⟨_, rfl⟩
  obtain ⟨CH, hCH⟩ : ∃ X, X = ch.map boolC := ⟨_, rfl⟩
  obtain ⟨Z, hZ⟩ : ∃ X, X = bs.map byteC := ⟨_, rfl⟩
  obtain ⟨Z2, hZ2⟩ : ∃ X, X = (bs ++ ([] : List UInt8)).map byteC := ⟨_, rfl⟩
  rw [← hX, ← hS, ← hCH, ← hZ, ← hZ2]
  rw [← hX] at hix
  rw [← hS] at hScl
  rw [← hZ] at hZcl
  have hZ2cl := closed_byte hZ2
  unfold partC at hix
  dsimp only at hix
  unfold chooserC
  refine pcalls_symF tabF_ok 1 (by decide) (by simp) fn62 rfl rfl rfl (by kernel_rfl) ?_
  rintro ⟨lt, le, eq, se, ar, dv, una, conv, len, sln, nat, nth, ixs, cel, sto, app, cpy, slc, mak, ixv, oth, dk, ib, call⟩ hS hm Q hQ
  obtain ⟨hlt, hle, heq, hse, har, hdv, huna, hconv, hlen, hsln, hnat, hnth, hixs, hcel, hsto, happ, hcpy, hslc, hmak, hixv, hoth, hdk, hib, hcall⟩ := Sym.mk.inj hS
  clear hS
  have hnt : ∀ n : Nat, nat n = U.natI n := fun n => by rw [hnat]; rfl
  have hbox : ∀ e c off, cel (some ⟨e, [c]⟩) 0 off = if off ≤ c.length then some (c.drop off) else none := fun e c off => by rw [hcel]; rfl
  have hsbox : ∀ e c off sz y, sto (some ⟨e, [c]⟩) 0 off sz y = if y.cells.length = sz ∧ off + sz ≤ c.length ∧ y.cells.all AV.one = true then some ⟨e, [spl c off y.cells]⟩ else none := fun e c off sz y => by rw [hsto]; rfl
  have hcaw : ∀ {f args T base K}, CallK Try.prog f args T base K → call f args T base K := fun h => by rw [hcall]; exact h
  have hcal : ∀ {f args T base} {K : AV → Table → List Nat → List Nat → Prop}, (∃ args' ids val rows, Hands T ids args args' (val base) (rows base) ∧ ACalls Try.prog f args' val rows ∧ (rows base).length ≤ 8 ∧ K (val base) (adopt T base (rows base)) ids ((List.range (rows base).length).map (base + ·))) → call f args T base K := fun h => hcaw (call_own h)
  have hE : ∀ x y, eq x y = decide (x = y) := fun x y => by rw [heq]
  rw [← hnth] at hix
  cbv
  repeat (first | (rw [hbox]; cbv) | (rw [hsbox]; cbv) | (rw [hix]; cbv))
  repeat (first | (rw [hbox]; cbv) | (rw [hsbox]; cbv) | (rw [hE]; cbv))
  have e1 : Z2 = Z := by rw [hZ2, hZ, List.append_nil]
  have e2 : k2 = k := by rw [hk2, hk, List.append_nil]
  subst e1 e2
  exact hQ _ _ trivial (pleaves [0, 1, 2] (by cbv) rfl (by simp) (by rfl) (by simp) (cutRows_box (by rfl) (by rfl) (by rfl) (cutRows_cons (by rfl) (hScl) (cutRows_cons (by rfl) (hZcl) rfl))))
theorem end_mid {d pre post l : DocT} {p : PartT} (h : d = pre ++ (l ++ [p]) ++ post) (hs : d.length ≤ 20000) (hl : l ≠ []) {a : Int} (ha : a = pre.length + (l ++ [p]).length - 1) : arI .sub .i64 a 1 = pre.length + l.length - 1 ∧ d = pre ++ l ++ (p :: post) := by
  have h1 : (l ++ [p]).length = l.length + 1 := by simp
  have h2 : 0 < l.length := List.length_pos_iff.2 hl
  have h3 : pre.length + l.length ≤ d.length := by rw [h]; simp only [List.length_append, List.length_cons, List.length_nil]; omega
  refine ⟨?_, by rw [h]; simp⟩
  rw [ar_sub64 (by omega) (by omega)]; omega

theorem do_nest {d pre post : DocT} {ch : List Bool} {p : PartT} {t : Tr} {a n u : Int} {fl : Bool} {bs : List UInt8} (hs : d.length ≤ 20000) (hd : d = pre ++ (t.flat ++ [p]) ++ post) (ha : a = pre.length + (t.flat ++ [p]).length - 1) (hkd : p.kind = 5) {out : List UInt8} {u2 : Int} (hn : arI .add .i64 n p.n = n + p.n) (hin : DoK d ch (pre.length + t.flat.length - 1) (n + p.n) fl u bs out u2) : DoK d ch a n fl u bs out u2 := by
  unfold DoK
  intro ns k k2 hns hk hk2
  obtain ⟨hix, ha0, ha1⟩ := at_mid hd a ha
  have hScl := closed_int (l := startsD d) rfl
  have hZcl := closed_byte (l := bs) rfl
  obtain ⟨hsub, _⟩ := end_mid hd hs (flat_ne t) ha
  have hi := hin ns k k2 hns hk hk2
  generalize (pre.length : Int) + t.flat.length - 1 = a2 at hsub hi
  obtain ⟨kd, pn, tx⟩ := p
  dsimp only at hkd hk2 hi hn
  subst hkd
  obtain ⟨X, hX⟩ : ∃ X, X = d.map partC := ⟨_, rfl⟩
  obtain ⟨S, hS⟩ : ∃ X, X = (startsD d).map intC := ⟨_, rfl⟩
  obtain ⟨Z, hZ⟩ : ∃ X, X = bs.map byteC := ⟨_, rfl⟩
  obtain ⟨Z2, hZ2⟩ : ∃ X, X = (bs ++ out).map byteC := ⟨_, rfl⟩
  rw [← hX, ← hS, ← hZ, ← hZ2]
  rw [← hX, ← hS, ← hZ, ← hZ2] at hi
  rw [← hX] at hix
  rw [← hS] at hScl
  rw [← hZ] at hZcl
  have hZ2cl := closed_byte hZ2
  unfold partC at hix
  dsimp only at hix
  unfold chooserC at hi
  obtain ⟨CH, hCH⟩ : ∃ X, X = ch.map boolC := ⟨_, rfl⟩
  rw [← hCH] at hi ⊢
  generalize n + pn = n2 at hn hi
  unfold chooserC
  refine pcalls_symF tabF_ok 1 (by decide) (by simp) fn62 rfl rfl rfl (by kernel_rfl) ?_
  rintro ⟨lt, le, eq, se, ar, dv, una, conv, len, sln, nat, nth, ixs, cel, sto, app, cpy, slc, mak, ixv, oth, dk, ib, call⟩ hS hm Q hQ
  obtain ⟨hlt, hle, heq, hse, har, hdv, huna, hconv, hlen, hsln, hnat, hnth, hixs, hcel, hsto, happ, hcpy, hslc, hmak, hixv, hoth, hdk, hib, hcall⟩ := Sym.mk.inj hS
  clear hS
  have hnt : ∀ n : Nat, nat n = U.natI n := fun n => by rw [hnat]; rfl
  have hbox : ∀ e c off, cel (some ⟨e, [c]⟩) 0 off = if off ≤ c.length then some (c.drop off) else none := fun e c off => by rw [hcel]; rfl
  have hsbox : ∀ e c off sz y, sto (some ⟨e, [c]⟩) 0 off sz y = if y.cells.length = sz ∧ off + sz ≤ c.length ∧ y.cells.all AV.one = true then some ⟨e, [spl c off y.cells]⟩ else none := fun e c off sz y => by rw [hsto]; rfl
  have hcaw : ∀ {f args T base K}, CallK Try.prog f args T base K → call f args T base K := fun h => by rw [hcall]; exact h
  have hcal : ∀ {f args T base} {K : AV → Table → List Nat → List Nat → Prop}, (∃ args' ids val rows, Hands T ids args args' (val base) (rows base) ∧ ACalls Try.prog f args' val rows ∧ (rows base).length ≤ 8 ∧ K (val base) (adopt T base (rows base)) ids ((List.range (rows base).length).map (base + ·))) → call f args T base K := fun h => hcaw (call_own h)
  rw [← har] at hsub hn
  have hE : ∀ x y, eq x y = decide (x = y) := fun x y => by rw [heq]
  rw [← hnth] at hix
  cbv
  repeat (first | (rw [hbox]; cbv) | (rw [hsbox]; cbv) | (rw [hix]; cbv))
  repeat (first | (rw [hbox]; cbv) | (rw [hsbox]; cbv) | (rw [hE]; cbv))
  repeat (first | (rw [hbox]; cbv) | (rw [hsbox]; cbv) | (rw [hsub]; cbv) | (rw [hn]; cbv))
  refine hcaw (call_with [0, 1, 2] hi (by simp) (by decide) (cutRows_box (by rfl) (by rfl) (by rfl) (cutRows_cons (by rfl) (hScl) (cutRows_cons (by rfl) (hZcl) rfl))) (by rfl) (by rfl) (by rfl) (renRows_box (by rfl) (renRows_cons (hScl) (renRows_cons (hZ2cl) rfl))) ?_)
  cbv
  exact hQ _ _ trivial (pleaves [0, 251, 252] (by cbv) rfl (by simp) (by rfl) (by simp) (cutRows_box (by rfl) (by rfl) (by rfl) (cutRows_cons (by rfl) (hScl) (cutRows_cons (by rfl) (hZ2cl) rfl))))
theorem do_gt {d pre post : DocT} {ch : List Bool} {p : PartT} {t : Tr} {a n u : Int} {fl : Bool} {bs : List UInt8} (hs : d.length ≤ 20000) (hd : d = pre ++ (t.flat ++ [p]) ++ post) (ha : a = pre.length + (t.flat ++ [p]).length - 1) (hkd : p.kind = 6) {out : List UInt8} {u2 : Int} (hin : DoK d ch (pre.length + t.flat.length - 1) n true u bs out u2) : DoK d ch a n true u bs out u2 := by
  unfold DoK
  intro ns k k2 hns hk hk2
  obtain ⟨hix, ha0, ha1⟩ := at_mid hd a ha
  have hScl := closed_int (l := startsD d) rfl
  have hZcl := closed_byte (l := bs) rfl
  obtain ⟨hsub, _⟩ := end_mid hd hs (flat_ne t) ha
  have hi := hin ns k k2 hns hk hk2
  generalize (pre.length : Int) + t.flat.length - 1 = a2 at hsub hi
  obtain ⟨kd, pn, tx⟩ := p
  dsimp only at hkd hk2 hi
  subst hkd
  obtain ⟨X, hX⟩ : ∃ X, X = d.map partC := ⟨_, rfl⟩
  obtain ⟨S, hS⟩ : ∃ X, X = (startsD d).map intC := ⟨_, rfl⟩
  obtain ⟨Z, hZ⟩ : ∃ X, X = bs.map byteC := ⟨_, rfl⟩
  obtain ⟨Z2, hZ2⟩ : ∃ X, X = (bs ++ out).map byteC := ⟨_, rfl⟩
  rw [← hX, ← hS, ← hZ, ← hZ2]
  rw [← hX, ← hS, ← hZ, ← hZ2] at hi
  rw [← hX] at hix
  rw [← hS] at hScl
  rw [← hZ] at hZcl
  have hZ2cl := closed_byte hZ2
  unfold partC at hix
  dsimp only at hix
  unfold chooserC at hi
  obtain ⟨CH, hCH⟩ : ∃ X, X = ch.map boolC := ⟨_, rfl⟩
  rw [← hCH] at hi ⊢
  unfold chooserC
  refine pcalls_symF tabF_ok 1 (by decide) (by simp) fn62 rfl rfl rfl (by kernel_rfl) ?_
  rintro ⟨lt, le, eq, se, ar, dv, una, conv, len, sln, nat, nth, ixs, cel, sto, app, cpy, slc, mak, ixv, oth, dk, ib, call⟩ hS hm Q hQ
  obtain ⟨hlt, hle, heq, hse, har, hdv, huna, hconv, hlen, hsln, hnat, hnth, hixs, hcel, hsto, happ, hcpy, hslc, hmak, hixv, hoth, hdk, hib, hcall⟩ := Sym.mk.inj hS
  clear hS
  have hnt : ∀ n : Nat, nat n = U.natI n := fun n => by rw [hnat]; rfl
  have hbox : ∀ e c off, cel (some ⟨e, [c]⟩) 0 off = if off ≤ c.length then some (c.drop off) else none := fun e c off => by rw [hcel]; rfl
  have hsbox : ∀ e c off sz y, sto (some ⟨e, [c]⟩) 0 off sz y = if y.cells.length = sz ∧ off + sz ≤ c.length ∧ y.cells.all AV.one = true then some ⟨e, [spl c off y.cells]⟩ else none := fun e c off sz y => by rw [hsto]; rfl
  have hcaw : ∀ {f args T base K}, CallK Try.prog f args T base K → call f args T base K := fun h => by rw [hcall]; exact h
  have hcal : ∀ {f args T base} {K : AV → Table → List Nat → List Nat → Prop}, (∃ args' ids val rows, Hands T ids args args' (val base) (rows base) ∧ ACalls Try.prog f args' val rows ∧ (rows base).length ≤ 8 ∧ K (val base) (adopt T base (rows base)) ids ((List.range (rows base).length).map (base + ·))) → call f args T base K := fun h => hcaw (call_own h)
  rw [← har] at hsub
  have hE : ∀ x y, eq x y = decide (x = y) := fun x y => by rw [heq]
  rw [← hnth] at hix
  cbv
  repeat (first | (rw [hbox]; cbv) | (rw [hsbox]; cbv) | (rw [hix]; cbv))
  repeat (first | (rw [hbox]; cbv) | (rw [hsbox]; cbv) | (rw [hE]; cbv))
  repeat (first | (rw [hbox]; cbv) | (rw [hsbox]; cbv) | (rw [hsub]; cbv))
  refine hcaw (call_with [0, 1, 2] hi (by simp) (by decide) (cutRows_box (by rfl) (by rfl) (by rfl) (cutRows_cons (by rfl) (hScl) (cutRows_cons (by rfl) (hZcl) rfl))) (by rfl) (by rfl) (by rfl) (renRows_box (by rfl) (renRows_cons (hScl) (renRows_cons (hZ2cl) rfl))) ?_)
  cbv
  exact hQ _ _ trivial (pleaves [0, 275, 276] (by cbv) rfl (by simp) (by rfl) (by simp) (cutRows_box (by rfl) (by rfl) (by rfl) (cutRows_cons (by rfl) (hScl) (cutRows_cons (by rfl) (hZ2cl) rfl))))
theorem do_gf {d pre post : DocT} {ch : List Bool} {p : PartT} {t : Tr} {a n u : Int} {fl : Bool} {bs : List UInt8} (hs : d.length ≤ 20000) (hd : d = pre ++ (t.flat ++ [p]) ++ post) (ha : a = pre.length + (t.flat ++ [p]).length - 1) (hkd : p.kind = 6) {out : List UInt8} {u2 : Int} (h0 : 0 ≤ u) (hu : u ≤ 1000000000) (hin : DoK d ch (pre.length + t.flat.length - 1) n (chosen ch u) (u + 1) bs out u2) : DoK d ch a n false u bs out u2 := by
  unfold DoK
  intro ns k k2 hns hk hk2
  obtain ⟨hix, ha0, ha1⟩ := at_mid hd a ha
  have hScl := closed_int (l := startsD d) rfl
  have hZcl := closed_byte (l := bs) rfl
  obtain ⟨hsub, _⟩ := end_mid hd hs (flat_ne t) ha
  have hi := hin ns k k2 hns hk hk2
  generalize (pre.length : Int) + t.flat.length - 1 = a2 at hsub hi
  obtain ⟨kd, pn, tx⟩ := p
  dsimp only at hkd hk2 hi
  subst hkd
  obtain ⟨X, hX⟩ : ∃ X, X = d.map partC := ⟨_, rfl⟩
  obtain ⟨S, hS⟩ : ∃ X, X = (startsD d).map intC := ⟨_, rfl⟩
  obtain ⟨Z, hZ⟩ : ∃ X, X = bs.map byteC := ⟨_, rfl⟩
  obtain ⟨Z2, hZ2⟩ : ∃ X, X = (bs ++ out).map byteC := ⟨_, rfl⟩
  rw [← hX, ← hS, ← hZ, ← hZ2]
  rw [← hX, ← hS, ← hZ, ← hZ2] at hi
  rw [← hX] at hix
  rw [← hS] at hScl
  rw [← hZ] at hZcl
  have hZ2cl := closed_byte hZ2
  unfold partC at hix
  dsimp only at hix
  unfold chooserC at hi
  have hc := choose_calls X ch ns k u S Z h0 hu hScl hZcl
  generalize chosen ch u = fl2 at hi hc
  unfold chooserC at hc
  obtain ⟨CH, hCH⟩ : ∃ X, X = ch.map boolC := ⟨_, rfl⟩
  rw [← hCH] at hi hc ⊢
  generalize u + 1 = u1 at hi hc
  unfold chooserC
  refine pcalls_symF tabF_ok 1 (by decide) (by simp) fn62 rfl rfl rfl (by kernel_rfl) ?_
  rintro ⟨lt, le, eq, se, ar, dv, una, conv, len, sln, nat, nth, ixs, cel, sto, app, cpy, slc, mak, ixv, oth, dk, ib, call⟩ hS hm Q hQ
  obtain ⟨hlt, hle, heq, hse, har, hdv, huna, hconv, hlen, hsln, hnat, hnth, hixs, hcel, hsto, happ, hcpy, hslc, hmak, hixv, hoth, hdk, hib, hcall⟩ := Sym.mk.inj hS
  clear hS
  have hnt : ∀ n : Nat, nat n = U.natI n := fun n => by rw [hnat]; rfl
  have hbox : ∀ e c off, cel (some ⟨e, [c]⟩) 0 off = if off ≤ c.length then some (c.drop off) else none := fun e c off => by rw [hcel]; rfl
  have hsbox : ∀ e c off sz y, sto (some ⟨e, [c]⟩) 0 off sz y = if y.cells.length = sz ∧ off + sz ≤ c.length ∧ y.cells.all AV.one = true then some ⟨e, [spl c off y.cells]⟩ else none := fun e c off sz y => by rw [hsto]; rfl
  have hcaw : ∀ {f args T base K}, CallK Try.prog f args T base K → call f args T base K := fun h => by rw [hcall]; exact h
  have hcal : ∀ {f args T base} {K : AV → Table → List Nat → List Nat → Prop}, (∃ args' ids val rows, Hands T ids args args' (val base) (rows base) ∧ ACalls Try.prog f args' val rows ∧ (rows base).length ≤ 8 ∧ K (val base) (adopt T base (rows base)) ids ((List.range (rows base).length).map (base + ·))) → call f args T base K := fun h => hcaw (call_own h)
  rw [← har] at hsub
  have hE : ∀ x y, eq x y = decide (x = y) := fun x y => by rw [heq]
  rw [← hnth] at hix
  cbv
  repeat (first | (rw [hbox]; cbv) | (rw [hsbox]; cbv) | (rw [hix]; cbv))
  repeat (first | (rw [hbox]; cbv) | (rw [hsbox]; cbv) | (rw [hE]; cbv))
  repeat (first | (rw [hbox]; cbv) | (rw [hsbox]; cbv) | (rw [hsub]; cbv))
  refine hcaw (call_with [0, 1, 2] hc (by simp) (by decide) (cutRows_box (by rfl) (by rfl) (by rfl) (cutRows_cons (by rfl) (hScl) (cutRows_cons (by rfl) (hZcl) rfl))) (by rfl) (by rfl) (by rfl) (renRows_box (by rfl) (renRows_cons (hScl) (renRows_cons (hZcl) rfl))) ?_)
  cbv
  refine hcaw (call_with [0, 259, 260] hi (by simp) (by decide) (cutRows_box (by rfl) (by rfl) (by rfl) (cutRows_cons (by rfl) (hScl) (cutRows_cons (by rfl) (hZcl) rfl))) (by rfl) (by rfl) (by rfl) (renRows_box (by rfl) (renRows_cons (hScl) (renRows_cons (hZ2cl) rfl))) ?_)
  cbv
  exact hQ _ _ trivial (pleaves [0, 275, 276] (by cbv) rfl (by simp) (by rfl) (by simp) (cutRows_box (by rfl) (by rfl) (by rfl) (cutRows_cons (by rfl) (hScl) (cutRows_cons (by rfl) (hZ2cl) rfl))))
theorem do_cat {d pre post : DocT} {ch : List Bool} {p : PartT} {ta tb : Tr} {a n u : Int} {fl : Bool} {bs : List UInt8} (hs : d.length ≤ 20000) (hta : ta.ok) (htb : tb.ok) (hd : d = pre ++ ((ta.flat ++ tb.flat) ++ [p]) ++ post) (ha : a = pre.length + ((ta.flat ++ tb.flat) ++ [p]).length - 1) (hkd : p.kind = 4) {o1 o2 : List UInt8} {u1 u2 : Int}
    (hi1 : DoK d ch (pre.length + ta.flat.length - 1) n fl u bs o1 u1) (hi2 : DoK d ch ((pre ++ ta.flat).length + tb.flat.length - 1) n fl u1 (bs ++ o1) o2 u2) : DoK d ch a n fl u bs (o1 ++ o2) u2 := by
  unfold DoK
  intro ns k k2 hns hk hk2
  obtain ⟨hix, ha0, ha1⟩ := at_mid hd a ha
  have hScl := closed_int (l := startsD d) rfl
  have hZcl := closed_byte (l := bs) rfl
  have hne : ta.flat ++ tb.flat ≠ [] := by have := flat_ne ta; simp [this]
  obtain ⟨hsub, hd2⟩ := end_mid hd hs hne ha
  have hpa := flat_pos ta
  have hpb := flat_pos tb
  have hl2 : (pre ++ ta.flat).length = pre.length + ta.flat.length := List.length_append
  have hl3 : (ta.flat ++ tb.flat).length = ta.flat.length + tb.flat.length := List.length_append
  have hl5 : (pre ++ ta.flat ++ tb.flat).length = (pre ++ ta.flat).length + tb.flat.length := List.length_append
  have hl4 : pre.length + (ta.flat.length + tb.flat.length) < d.length := by rw [hd]; simp only [List.length_append, List.length_cons, List.length_nil]; omega
  have e2 : (pre.length : Int) + (ta.flat ++ tb.flat).length - 1 = (pre ++ ta.flat).length + tb.flat.length - 1 := by rw [hl2, hl3]; omega
  rw [e2] at hsub
  have hst : startD d ((pre ++ ta.flat).length + tb.flat.length - 1) = (pre.length : Int) + ta.flat.length := by
    have := start_sub (d := d) (pre := pre ++ ta.flat) (t := tb) (i := ((pre ++ ta.flat).length : Int) + tb.flat.length - 1) htb (by
      have e : (((pre ++ ta.flat).length : Int) + tb.flat.length - 1 + 1).toNat = (pre ++ ta.flat ++ tb.flat).length := by omega
      rw [e, hd, show pre ++ (ta.flat ++ tb.flat ++ [p]) ++ post = (pre ++ ta.flat ++ tb.flat) ++ (p :: post) by simp, List.take_left' rfl])
    rw [this, hl2]; omega
  have hlt : (((pre ++ ta.flat).length : Int) + tb.flat.length - 1) < d.length := by omega
  have hge : 0 ≤ (((pre ++ ta.flat).length : Int) + tb.flat.length - 1) := by omega
  obtain ⟨x1, x2, _⟩ := own_int (Y := (startsD d).map intC) (l := startsD d) rfl (n := d.length) (by simp [startsD]) hge hlt
  have hat : atI (startsD d) (((pre ++ ta.flat).length : Int) + tb.flat.length - 1) = (pre.length : Int) + ta.flat.length := by
    rw [← hst]
    have h2 : (((pre ++ ta.flat).length : Int) + tb.flat.length - 1).toNat < d.length := by omega
    simp only [atI, startsD, List.getD, List.getElem?_map, List.getElem?_range h2, Option.map_some, Option.getD_some]
    rw [Int.toNat_of_nonneg hge]
  rw [hat] at x2
  have hsb : arI .sub .i64 ((pre.length : Int) + ta.flat.length) 1 = (pre.length : Int) + ta.flat.length - 1 := ar_sub64 (by omega) (by omega)
  obtain ⟨k1, hk1⟩ : ∃ k1, k1 = (bs ++ o1).length := ⟨_, rfl⟩
  have h1 := hi1 ns k k1 hns hk hk1
  have h2 := hi2 ns k1 k2 hns hk1 (by rw [hk2, List.append_assoc])
  rw [← hns] at x1
  clear hst hat hlt hge hl2 hl3 hl5 hl4 e2 hd2 hne hpa hpb hi1 hi2
  generalize (((pre ++ ta.flat).length : Int) + tb.flat.length - 1).toNat = a1N at x1 x2
  generalize (((pre ++ ta.flat).length : Int) + tb.flat.length - 1) = a1 at hsub x1 h2
  generalize (pre.length : Int) + ta.flat.length - 1 = a3 at hsb h1
  generalize (pre.length : Int) + ta.flat.length = a2 at hsb x2
  obtain ⟨kd, pn, tx⟩ := p
  dsimp only at hkd
  subst hkd
  obtain ⟨X, hX⟩ : ∃ X, X = d.map partC := ⟨_, rfl⟩
  obtain ⟨S, hS⟩ : ∃ X, X = (startsD d).map intC := ⟨_, rfl⟩
  obtain ⟨Z, hZ⟩ : ∃ X, X = bs.map byteC := ⟨_, rfl⟩
  obtain ⟨Z1, hZ1⟩ : ∃ X, X = (bs ++ o1).map byteC := ⟨_, rfl⟩
  obtain ⟨Z2, hZ2⟩ : ∃ X, X = (bs ++ (o1 ++ o2)).map byteC := ⟨_, rfl⟩
  have hZ2' : Z2 = (bs ++ o1 ++ o2).map byteC := by rw [hZ2, List.append_assoc]
  obtain ⟨CH, hCH⟩ : ∃ X, X = ch.map boolC := ⟨_, rfl⟩
  rw [← hX, ← hS, ← hCH, ← hZ, ← hZ2]
  rw [← hX, ← hS, ← hCH, ← hZ, ← hZ1] at h1
  rw [← hX, ← hS, ← hCH, ← hZ1, ← hZ2'] at h2
  rw [← hX] at hix
  rw [← hS] at hScl x1 x2
  rw [← hZ] at hZcl
  have hZ1cl := closed_byte hZ1
  have hZ2cl := closed_byte hZ2
  unfold partC at hix
  dsimp only at hix
  unfold chooserC at h1 h2 ⊢
  refine pcalls_symF tabF_ok 1 (by decide) (by simp) fn62 rfl rfl rfl (by kernel_rfl) ?_
  rintro ⟨lt, le, eq, se, ar, dv, una, conv, len, sln, nat, nth, ixs, cel, sto, app, cpy, slc, mak, ixv, oth, dk, ib, call⟩ hS hm Q hQ
  obtain ⟨hlt, hle, heq, hse, har, hdv, huna, hconv, hlen, hsln, hnat, hnth, hixs, hcel, hsto, happ, hcpy, hslc, hmak, hixv, hoth, hdk, hib, hcall⟩ := Sym.mk.inj hS
  clear hS
  have hnt : ∀ n : Nat, nat n = U.natI n := fun n => by rw [hnat]; rfl
  have hbox : ∀ e c off, cel (some ⟨e, [c]⟩) 0 off = if off ≤ c.length then some (c.drop off) else none := fun e c off => by rw [hcel]; rfl
  have hsbox : ∀ e c off sz y, sto (some ⟨e, [c]⟩) 0 off sz y = if y.cells.length = sz ∧ off + sz ≤ c.length ∧ y.cells.all AV.one = true then some ⟨e, [spl c off y.cells]⟩ else none := fun e c off sz y => by rw [hsto]; rfl
  have hcaw : ∀ {f args T base K}, CallK Try.prog f args T base K → call f args T base K := fun h => by rw [hcall]; exact h
  have hcal : ∀ {f args T base} {K : AV → Table → List Nat → List Nat → Prop}, (∃ args' ids val rows, Hands T ids args args' (val base) (rows base) ∧ ACalls Try.prog f args' val rows ∧ (rows base).length ≤ 8 ∧ K (val base) (adopt T base (rows base)) ids ((List.range (rows base).length).map (base + ·))) → call f args T base K := fun h => hcaw (call_own h)
  rw [← har] at hsub hsb
  rw [← hixs] at x1
  rw [← hcel] at x2
  have hE : ∀ x y, eq x y = decide (x = y) := fun x y => by rw [heq]
  rw [← hnth] at hix
  cbv
  repeat (first | (rw [hbox]; cbv) | (rw [hsbox]; cbv) | (rw [hix]; cbv))
  repeat (first | (rw [hbox]; cbv) | (rw [hsbox]; cbv) | (rw [hE]; cbv))
  repeat (first | (rw [hbox]; cbv) | (rw [hsbox]; cbv) | (rw [hsub]; cbv) | (rw [x1]; cbv) | (rw [x2]; cbv) | (rw [hsb]; cbv))
  refine hcaw (call_with [0, 1, 2] h1 (by simp) (by decide) (cutRows_box (by rfl) (by rfl) (by rfl) (cutRows_cons (by rfl) (hScl) (cutRows_cons (by rfl) (hZcl) rfl))) (by rfl) (by rfl) (by rfl) (renRows_box (by rfl) (renRows_cons (hScl) (renRows_cons (hZ1cl) rfl))) ?_)
  cbv
  repeat (first | (rw [hbox]; cbv) | (rw [hsbox]; cbv) | (rw [hsub]; cbv))
  refine hcaw (call_with [0, 267, 268] h2 (by simp) (by decide) (cutRows_box (by rfl) (by rfl) (by rfl) (cutRows_cons (by rfl) (hScl) (cutRows_cons (by rfl) (hZ1cl) rfl))) (by rfl) (by rfl) (by rfl) (renRows_box (by rfl) (renRows_cons (hScl) (renRows_cons (hZ2cl) rfl))) ?_)
  cbv
  exact hQ _ _ trivial (pleaves [0, 315, 316] (by cbv) rfl (by simp) (by rfl) (by simp) (cutRows_box (by rfl) (by rfl) (by rfl) (cutRows_cons (by rfl) (hScl) (cutRows_cons (by rfl) (hZ2cl) rfl))))
/-- A part, laid by choices, within a document. -/
theorem do_calls {d : DocT} (hs : d.length ≤ 20000) (ch : List Bool) : ∀ (t : Tr), t.ok → ∀ (pre post : DocT) (a n : Int) (fl : Bool) (u : Int) (bs : List UInt8), d = pre ++ t.flat ++ post → a = pre.length + t.flat.length - 1 →
    0 ≤ n → n + 100 * t.flat.length ≤ 100000000 → 0 ≤ u → u + t.flat.length ≤ 1000000000 → bs.length + (byT ch t n fl u).1.length ≤ 100000000 → DoK d ch a n fl u bs (byT ch t n fl u).1 (byT ch t n fl u).2 := by
  intro t
  induction t with
  | lf p =>
    intro ht pre post a n fl u bs hd ha h0 hn hu0 hu hb
    have hk := t0 ht.2
    rcases hk with h | h | h | h | h
    · have e : byT ch (.lf p) n fl u = (bts p.text, u) := by simp [byT, h]
      rw [e] at hb ⊢
      exact do_lf0 hd ha h hb
    · cases fl
      · have e : byT ch (.lf p) n false u = (lineB n, u) := by simp [byT, h]
        rw [e] at hb ⊢
        exact do_lf1f (fl := false) hd ha h hb
      · have e : byT ch (.lf p) n true u = ([32], u) := by simp [byT, h]
        rw [e] at hb ⊢
        exact do_lf1t (fl := true) hd ha h hb
    · cases fl
      · have e : byT ch (.lf p) n false u = (lineB n, u) := by simp [byT, h]
        rw [e] at hb ⊢
        exact do_lf2f (fl := false) hd ha h hb
      · have e : byT ch (.lf p) n true u = ([], u) := by simp [byT, h]
        rw [e] at hb ⊢
        exact do_lf2t (fl := true) hd ha h hb
    · have e : byT ch (.lf p) n fl u = (lineB n, u) := by simp [byT, h]
      rw [e] at hb ⊢
      exact do_lf3 hd ha h hb
    · have e : byT ch (.lf p) n fl u = ([], u) := by simp [byT, h]
      rw [e] at hb ⊢
      exact do_lf7 hd ha h hb
  | un p t ih =>
    intro ht pre post a n fl u bs hd ha h0 hn hu0 hu hb
    have hl : (t.flat ++ [p]).length = t.flat.length + 1 := by simp
    have hd2 : d = pre ++ t.flat ++ (p :: post) := by rw [hd]; simp [Tr.flat]
    change n + 100 * ((t.flat ++ [p]).length : Int) ≤ _ at hn
    change u + ((t.flat ++ [p]).length : Int) ≤ _ at hu
    rcases t1 ht.2.1 with h | h
    · have e : byT ch (.un p t) n fl u = byT ch t (n + p.n) fl u := by simp [byT, h]
      rw [e] at hb ⊢
      have hpn : 0 ≤ p.n ∧ p.n ≤ 100 := by
        have h1 := ht.1
        unfold partOk at h1
        split at h1
        · cases h1
        · simpa [h] using h1
      exact do_nest hs hd ha h (ar_add64 (by omega) (by omega)) (ih ht.2.2 pre (p :: post) _ _ _ _ _ hd2 rfl (by omega) (by omega) hu0 (by omega) hb)
    · have h5 : ¬ p.kind = 5 := by omega
      cases fl
      · have e : byT ch (.un p t) n false u = byT ch t n (chosen ch u) (u + 1) := by simp [byT, h5]
        rw [e] at hb ⊢
        exact do_gf (fl := false) hs hd ha h hu0 (by omega) (ih ht.2.2 pre (p :: post) _ _ _ _ _ hd2 rfl h0 (by omega) (by omega) (by omega) hb)
      · have e : byT ch (.un p t) n true u = byT ch t n true u := by simp [byT, h5]
        rw [e] at hb ⊢
        exact do_gt (fl := true) hs hd ha h (ih ht.2.2 pre (p :: post) _ _ _ _ _ hd2 rfl h0 (by omega) hu0 (by omega) hb)
  | cat p ta tb iha ihb =>
    intro ht pre post a n fl u bs hd ha h0 hn hu0 hu hb
    have hl : ((ta.flat ++ tb.flat) ++ [p]).length = ta.flat.length + tb.flat.length + 1 := by simp only [List.length_append, List.length_cons, List.length_nil]
    change n + 100 * (((ta.flat ++ tb.flat) ++ [p]).length : Int) ≤ _ at hn
    change u + (((ta.flat ++ tb.flat) ++ [p]).length : Int) ≤ _ at hu
    have hda : d = pre ++ ta.flat ++ (tb.flat ++ p :: post) := by rw [hd]; simp [Tr.flat]
    have hdb : d = (pre ++ ta.flat) ++ tb.flat ++ (p :: post) := by rw [hd]; simp [Tr.flat]
    have hus := byT_used ch ta n fl u
    have hb' : bs.length + ((byT ch ta n fl u).1 ++ (byT ch tb n fl (byT ch ta n fl u).2).1).length ≤ 100000000 := hb
    rw [List.length_append] at hb'
    exact do_cat hs ht.2.2.1 ht.2.2.2 hd ha (t2 ht.2.1) (iha ht.2.2.1 pre _ _ _ _ _ _ hda rfl h0 (by omega) hu0 (by omega) (by omega))
      (ihb ht.2.2.2 (pre ++ ta.flat) _ _ _ _ _ _ hdb rfl h0 (by omega) (by omega) (by omega) (by rw [List.length_append]; omega))
end Go.Proofs.Ytagflbmonlaioaa.D
