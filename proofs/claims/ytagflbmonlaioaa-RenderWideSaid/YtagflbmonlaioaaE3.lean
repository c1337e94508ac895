/- Contracts: lay.By, Count; bosketref40.line, By. -/
import Derived.Test.YtagflbmonlaioaaE2
import Derived.Test.YtagflbmonlaioaaD9
import Derived.Test.YtagflbmonlaioaaG23
namespace Go.Proofs.Ytagflbmonlaioaa.D
open Go G U K
set_option linter.unusedVariables false
set_option linter.unusedSimpArgs false
set_option maxRecDepth 100000
set_option maxHeartbeats 4000000
theorem fn45 : Try.prog.funcs[45]? = some Try.f45 := by kernel_rfl
theorem fn46 : Try.prog.funcs[46]? = some Try.f46 := by kernel_rfl
theorem fn63 : Try.prog.funcs[63]? = some Try.f63 := by kernel_rfl
theorem fn47 : Try.prog.funcs[47]? = some Try.f47 := by kernel_rfl
/-! ### Sizes -/
def Small (d : DocT) : Prop := d.length ≤ 100 ∧ ∀ p ∈ d, p.text.size ≤ 1000
theorem byT_len (ch : List Bool) : ∀ (t : Tr), t.ok → (∀ p ∈ t.flat, p.text.size ≤ 1000) → ∀ (n : Int) (fl : Bool) (u : Int), 0 ≤ n → ((byT ch t n fl u).1.length : Int) ≤ t.flat.length * (1001 + n + 100 * t.flat.length)
  | .lf p, ht, hp, n, fl, u, hn => by
    have h1 := hp p (by simp [Tr.flat])
    simp only [byT, Tr.flat, List.length_cons, List.length_nil]
    have hl : (lineB n).length = n.toNat + 1 := by simp [lineB]
    split
    · show ((bts p.text).length : Int) ≤ _
      rw [bts_len]; omega
    · split
      · cases fl
        · show ((lineB n).length : Int) ≤ _
          omega
        · show (([32] : List UInt8).length : Int) ≤ _
          simp; omega
      · split
        · cases fl
          · show ((lineB n).length : Int) ≤ _
            omega
          · show (([] : List UInt8).length : Int) ≤ _
            simp; omega
        · split
          · show ((lineB n).length : Int) ≤ _
            omega
          · show (([] : List UInt8).length : Int) ≤ _
            simp; omega
  | .un p t, ht, hp, n, fl, u, hn => by
    have hq : ∀ q ∈ t.flat, q.text.size ≤ 1000 := fun q h => hp q (by simp [Tr.flat, h])
    have hl : (Tr.un p t).flat.length = t.flat.length + 1 := by simp [Tr.flat]
    rw [hl]
    have mono : ∀ (L N M : Int), 0 ≤ L → 0 ≤ M → M ≤ N → L * M ≤ (L + 1) * N := fun L N M h1 h2 h3 => by
      have := Int.mul_le_mul_of_nonneg_left h3 h1
      have : (L + 1) * N = L * N + N := by rw [Int.add_mul, Int.one_mul]
      omega
    simp only [byT]
    split
    · rename_i h5
      have hpn : 0 ≤ p.n ∧ p.n ≤ 100 := by
        have h1 := ht.1
        unfold partOk at h1
        split at h1
        · cases h1
        · simpa [h5] using h1
      refine Int.le_trans (byT_len ch t ht.2.2 hq (n + p.n) fl u (by omega)) ?_
      have := mono (t.flat.length : Int) (1001 + n + 100 * ((t.flat.length : Int) + 1)) (1001 + (n + p.n) + 100 * (t.flat.length : Int)) (by omega) (by omega) (by omega)
      simpa using this
    · have key : ∀ fl2 u2, ((byT ch t n fl2 u2).1.length : Int) ≤ ((t.flat.length + 1 : Nat) : Int) * (1001 + n + 100 * ((t.flat.length + 1 : Nat) : Int)) := fun fl2 u2 => by
        refine Int.le_trans (byT_len ch t ht.2.2 hq n fl2 u2 hn) ?_
        have := mono (t.flat.length : Int) (1001 + n + 100 * ((t.flat.length : Int) + 1)) (1001 + n + 100 * (t.flat.length : Int)) (by omega) (by omega) (by omega)
        simpa using this
      split
      · exact key _ _
      · exact key _ _
  | .cat p a b, ht, hp, n, fl, u, hn => by
    have hqa : ∀ q ∈ a.flat, q.text.size ≤ 1000 := fun q h => hp q (by simp [Tr.flat, h])
    have hqb : ∀ q ∈ b.flat, q.text.size ≤ 1000 := fun q h => hp q (by simp [Tr.flat, h])
    have hl : (Tr.cat p a b).flat.length = a.flat.length + b.flat.length + 1 := by simp only [Tr.flat, List.length_append, List.length_cons, List.length_nil]
    rw [hl]
    simp only [byT, List.length_append]
    have h1 := byT_len ch a ht.2.2.1 hqa n fl u hn
    have h2 := byT_len ch b ht.2.2.2 hqb n fl (byT ch a n fl u).2 hn
    have mono : ∀ (L N M : Int), 0 ≤ L → M ≤ N → L * M ≤ L * N := fun L N M h1 h3 => Int.mul_le_mul_of_nonneg_left h3 h1
    have e1 := mono (a.flat.length : Int) (1001 + n + 100 * ((a.flat.length : Int) + b.flat.length + 1)) (1001 + n + 100 * (a.flat.length : Int)) (by omega) (by omega)
    have e2 := mono (b.flat.length : Int) (1001 + n + 100 * ((a.flat.length : Int) + b.flat.length + 1)) (1001 + n + 100 * (b.flat.length : Int)) (by omega) (by omega)
    have e3 : ((a.flat.length : Int) + b.flat.length + 1) * (1001 + n + 100 * ((a.flat.length : Int) + b.flat.length + 1)) = (a.flat.length : Int) * (1001 + n + 100 * ((a.flat.length : Int) + b.flat.length + 1)) + (b.flat.length : Int) * (1001 + n + 100 * ((a.flat.length : Int) + b.flat.length + 1)) + (1001 + n + 100 * ((a.flat.length : Int) + b.flat.length + 1)) := by
      rw [Int.add_mul, Int.add_mul, Int.one_mul]
    have e4 : (((a.flat.length + b.flat.length + 1 : Nat)) : Int) = (a.flat.length : Int) + b.flat.length + 1 := by omega
    rw [e4, e3]
    simp only [Int.natCast_add]
    omega
theorem byT_small (ch : List Bool) {t : Tr} (ht : t.ok) (hs : Small t.flat) (fl : Bool) (u : Int) : (byT ch t 0 fl u).1.length ≤ 2000000 := by
  have h := byT_len ch t ht hs.2 0 fl u (Int.le_refl 0)
  have h1 := hs.1
  have h2 : (t.flat.length : Int) * (1001 + 0 + 100 * t.flat.length) ≤ 100 * (1001 + 0 + 100 * 100) := Int.mul_le_mul (by omega) (by omega) (by omega) (by omega)
  omega
theorem small_mild {d : DocT} (h : Small d) : Mild d := ⟨by have := h.1; omega, h.2⟩
theorem few_small {d : DocT} (h : fewD d = true) : Small d := by
  obtain ⟨h1, h2⟩ := few_facts h
  exact ⟨by omega, fun p hp => Nat.le_trans (h2 p hp) (by decide)⟩
/-! ### By -/
def byV (bs : List UInt8) (u c : Int) : AV := .tup [.flat (.string (txt bs)), .flat (.int .i64 u), .flat (.int .i64 c)]
theorem by_bad {d : DocT} (hs : d.length ≤ 1000000) (hc : checkD d ≠ 0) (ch : List (List AV)) : ACalls Try.prog 45 [.ro (d.map partC), .ro ch] (fun _ => byV [] 0 (checkD d)) (fun _ => []) := by
  have hcC := check_calls d hs
  unfold byV
  rw [show txt [] = (⟨#[]⟩ : ByteArray) from rfl]
  generalize d.map partC = X at hcC ⊢
  generalize checkD d = c at hc hcC ⊢
  refine acalls_symF tabF_ok fn45 rfl rfl rfl (by kernel_rfl) ?_
  have hfin : ∀ st, resA Try.prog Try.f45 st = some (.tup [.flat (.string ⟨#[]⟩), .flat (.int .i64 0), .flat (.int .i64 c)]) → G.Leaves Try.prog Try.f45 (fun _ => .tup [.flat (.string ⟨#[]⟩), .flat (.int .i64 0), .flat (.int .i64 c)]) (fun _ => []) st := fun st h => G.Leaves.plain h rfl
  rintro ⟨lt, le, eq, se, ar, dv, una, conv, len, sln, nat, nth, ixs, cel, sto, app, cpy, slc, mak, ixv, oth, dk, ib, call⟩ hS hm Q hQ
  obtain ⟨hlt, hle, heq, hse, har, hdv, huna, hconv, hlen, hsln, hnat, hnth, hixs, hcel, hsto, happ, hcpy, hslc, hmak, hixv, hoth, hdk, hib, hcall⟩ := Sym.mk.inj hS
  clear hS
  have hnt : ∀ n : Nat, nat n = U.natI n := fun n => by rw [hnat]; rfl
  have hbox : ∀ e c off, cel (some ⟨e, [c]⟩) 0 off = if off ≤ c.length then some (c.drop off) else none := fun e c off => by rw [hcel]; rfl
  have hsbox : ∀ e c off sz y, sto (some ⟨e, [c]⟩) 0 off sz y = if y.cells.length = sz ∧ off + sz ≤ c.length ∧ y.cells.all AV.one = true then some ⟨e, [spl c off y.cells]⟩ else none := fun e c off sz y => by rw [hsto]; rfl
  have hcaw : ∀ {f args T base K}, CallK Try.prog f args T base K → call f args T base K := fun h => by rw [hcall]; exact h
  have hcal : ∀ {f args T base} {K : AV → Table → List Nat → List Nat → Prop}, (∃ args' ids val rows, Hands T ids args args' (val base) (rows base) ∧ ACalls Try.prog f args' val rows ∧ (rows base).length ≤ 8 ∧ K (val base) (adopt T base (rows base)) ids ((List.range (rows base).length).map (base + ·))) → call f args T base K := fun h => hcaw (call_own h)
  have e1 : eq c 0 = false := by rw [heq]; exact decide_eq_false hc
  cbv
  refine hcal ⟨_, [], _, _, .inl ⟨rfl, by cbv⟩, hcC, by simp, ?_⟩
  cbv
  rw [e1]; cbv
  exact hQ _ _ trivial (hfin _ (by cbv))
theorem by_calls {t : Tr} (ht : t.ok) (hs : Small t.flat) (ch : List Bool) : ACalls Try.prog 45 [.ro (t.flat.map partC), .ro (ch.map boolC)] (fun _ => byV (byT ch t 0 false 0).1 (byT ch t 0 false 0).2 0) (fun _ => []) := by
  have hl := hs.1
  have hck := tree_check ht (Nat.le_trans hl (by decide))
  have hcC := check_calls t.flat (Nat.le_trans hl (by decide))
  rw [hck] at hcC
  have hcD := depth_calls t ht (Nat.le_trans hl (by decide))
  have hdb := (depth_bound t).2
  have hbs := byT_small ch ht hs false 0
  obtain ⟨n, hn⟩ : ∃ n, n = t.flat.length := ⟨_, rfl⟩
  obtain ⟨k2, hk2⟩ : ∃ n, n = ([] ++ (byT ch t 0 false 0).1).length := ⟨_, rfl⟩
  have hcS := starts_calls t.flat hck hn
  have hdo := do_calls (d := t.flat) (Nat.le_trans hl (by decide)) ch t ht [] [] (t.flat.length - 1) 0 false 0 [] (by simp) (by simp) (by omega) (by omega) (by omega) (by omega) (by simp only [List.length_nil]; omega)
  have hd2 := hdo n 0 k2 hn rfl hk2
  have hsub : arI .sub .i64 (lenE (t.flat.map partC)) 1 = (t.flat.length : Int) - 1 := by rw [len_map, ar_sub64 (by omega) (by omega)]
  generalize byT ch t 0 false 0 = r at hbs hk2 hd2 ⊢
  obtain ⟨out, u⟩ := r
  dsimp only at hbs hk2 hd2 ⊢
  rw [List.nil_append] at hk2 hd2
  obtain ⟨X, hX⟩ : ∃ X, X = t.flat.map partC := ⟨_, rfl⟩
  obtain ⟨S, hS⟩ : ∃ X, X = (startsD t.flat).map intC := ⟨_, rfl⟩
  obtain ⟨Z2, hZ2⟩ : ∃ X, X = out.map byteC := ⟨_, rfl⟩
  obtain ⟨CH, hCH⟩ : ∃ X, X = ch.map boolC := ⟨_, rfl⟩
  have hScl := closed_int hS
  have hZ2cl := closed_byte hZ2
  rw [← hX, ← hCH]
  rw [← hX] at hcC hcD hcS hsub
  rw [← hS] at hcS
  rw [← hX, ← hS, ← hCH, ← hZ2] at hd2
  unfold chooserC at hd2
  have hd3 := pcalls_nil (R0' := [⟨77, [[.ro X, .sl 1 0 n, .ro CH, .flat (.int .i64 0), .flat (.slice none 0 0)]]⟩, ⟨3, S⟩]) (e := 5) (by simp) rfl rfl (fun id r h hlt => by
    match id, h, hlt with
    | 0, h, _ =>
      obtain rfl := Option.some.inj h
      refine ⟨_, rfl, rfl, rfl, fun i c hi => ?_⟩
      match i, hi with
      | 0, hi =>
        obtain rfl := Option.some.inj hi
        refine ⟨_, rfl, rfl, fun j x hx => ?_⟩
        match j, hx with
        | 0, hx => exact .inl hx
        | 1, hx => exact .inl hx
        | 2, hx => exact .inl hx
        | 3, hx => exact .inl hx
        | 4, hx => exact .inr ⟨rfl, (Option.some.inj hx).symm⟩
        | j + 5, hx => simp at hx
      | i + 1, hi => simp at hi
    | 1, h, _ =>
      obtain rfl := Option.some.inj h
      exact ⟨_, rfl, rfl, rfl, fun i c hi => ⟨c, hi, rfl, fun j x hx => .inl hx⟩⟩
    | i + 2, h, hlt => exact absurd hlt (by simp)) hd2
  unfold byV
  obtain ⟨s, hs2⟩ : ∃ s, s = txt out := ⟨_, rfl⟩
  rw [← hs2]
  have hdl : decide (2000 < t.depth) = false := decide_eq_false (by omega)
  generalize t.depth = dp at hcD hdl
  generalize (t.flat.length : Int) - 1 = a1 at hsub hd3

  clear hd2 hdo hck hl hdb
  refine acalls_symF tabF_ok fn45 rfl rfl rfl (by kernel_rfl) ?_
  have hfin : ∀ st, resA Try.prog Try.f45 st = some (.tup [.flat (.string s), .flat (.int .i64 u), .flat (.int .i64 0)]) → G.Leaves Try.prog Try.f45 (fun _ => .tup [.flat (.string s), .flat (.int .i64 u), .flat (.int .i64 0)]) (fun _ => []) st := fun st h => G.Leaves.plain h rfl
  rintro ⟨lt, le, eq, se, ar, dv, una, conv, len, sln, nat, nth, ixs, cel, sto, app, cpy, slc, mak, ixv, oth, dk, ib, call⟩ hS hm Q hQ
  obtain ⟨hlt, hle, heq, hse, har, hdv, huna, hconv, hlen, hsln, hnat, hnth, hixs, hcel, hsto, happ, hcpy, hslc, hmak, hixv, hoth, hdk, hib, hcall⟩ := Sym.mk.inj hS
  clear hS
  have hnt : ∀ n : Nat, nat n = U.natI n := fun n => by rw [hnat]; rfl
  have hbox : ∀ e c off, cel (some ⟨e, [c]⟩) 0 off = if off ≤ c.length then some (c.drop off) else none := fun e c off => by rw [hcel]; rfl
  have hsbox : ∀ e c off sz y, sto (some ⟨e, [c]⟩) 0 off sz y = if y.cells.length = sz ∧ off + sz ≤ c.length ∧ y.cells.all AV.one = true then some ⟨e, [spl c off y.cells]⟩ else none := fun e c off sz y => by rw [hsto]; rfl
  have hcaw : ∀ {f args T base K}, CallK Try.prog f args T base K → call f args T base K := fun h => by rw [hcall]; exact h
  have hcal : ∀ {f args T base} {K : AV → Table → List Nat → List Nat → Prop}, (∃ args' ids val rows, Hands T ids args args' (val base) (rows base) ∧ ACalls Try.prog f args' val rows ∧ (rows base).length ≤ 8 ∧ K (val base) (adopt T base (rows base)) ids ((List.range (rows base).length).map (base + ·))) → call f args T base K := fun h => hcaw (call_own h)
  have e1 : eq 0 0 = true := by rw [heq]; rfl
  have e2 : lt 2000 dp = false := by rw [hlt]; exact hdl
  rw [← hlen, ← har] at hsub
  have hcv : ∀ (T : Table) id, T id = some ⟨5, Z2⟩ → conv T 65 9 (.sl id 0 k2) = some (.flat (.string s)) := fun T id hT => by
    rw [hconv, hs2]; exact conv_bytes hZ2 hk2 hT
  cbv
  refine hcal ⟨_, [], _, _, .inl ⟨rfl, by cbv⟩, hcC, by simp, ?_⟩
  cbv
  rw [e1]; cbv
  refine hcal ⟨_, [], _, _, .inl ⟨rfl, by cbv⟩, hcD, by simp, ?_⟩
  cbv
  rw [e2]; cbv
  refine hcal ⟨_, [], _, _, .inl ⟨rfl, by cbv⟩, hcS, by simp, ?_⟩
  cbv
  repeat (first | (rw [hbox]; cbv) | (rw [hsbox]; cbv) | (rw [hsub]; cbv))
  refine hcaw (call_with [128, 104] hd3 (by simp) (by decide) (cutRows_box (by rfl) (by rfl) (by rfl) (cutRows_cons (by rfl) (hScl) rfl)) (by rfl) (by rfl) (by rfl) (renRows_box (by rfl) (renRows_cons (hScl) (renRows_cons (hZ2cl) rfl))) ?_)
  cbv
  refine ⟨by rw [hdk]; kernel_rfl, ?_⟩
  repeat (first | (rw [hbox]; cbv) | (rw [hsbox]; cbv))
  rw [hcv _ _ (by rfl)]; cbv
  repeat (first | (rw [hbox]; cbv) | (rw [hsbox]; cbv))
  refine ⟨by rw [hib]; kernel_rfl, ?_⟩
  cbv
  exact hQ _ _ trivial (hfin _ (by cbv))
theorem count_calls {d : DocT} {r : AV} {s : ByteArray} {u c : Int} (h : ACalls Try.prog 45 [.ro (d.map partC), .ro []] (fun _ => .tup [.flat (.string s), .flat (.int .i64 u), .flat (.int .i64 c)]) (fun _ => [])) : ACalls Try.prog 46 [.ro (d.map partC)] (fun _ => .flat (.int .i64 u)) (fun _ => []) := by
  generalize d.map partC = X at h ⊢
  refine acalls_symF tabF_ok fn46 rfl rfl rfl (by kernel_rfl) ?_
  have hfin : ∀ st, resA Try.prog Try.f46 st = some (.flat (.int .i64 u)) → G.Leaves Try.prog Try.f46 (fun _ => .flat (.int .i64 u)) (fun _ => []) st := fun st h => G.Leaves.plain h rfl
  rintro ⟨lt, le, eq, se, ar, dv, una, conv, len, sln, nat, nth, ixs, cel, sto, app, cpy, slc, mak, ixv, oth, dk, ib, call⟩ hS hm Q hQ
  obtain ⟨hlt, hle, heq, hse, har, hdv, huna, hconv, hlen, hsln, hnat, hnth, hixs, hcel, hsto, happ, hcpy, hslc, hmak, hixv, hoth, hdk, hib, hcall⟩ := Sym.mk.inj hS
  clear hS
  have hnt : ∀ n : Nat, nat n = U.natI n := fun n => by rw [hnat]; rfl
  have hbox : ∀ e c off, cel (some ⟨e, [c]⟩) 0 off = if off ≤ c.length then some (c.drop off) else none := fun e c off => by rw [hcel]; rfl
  have hsbox : ∀ e c off sz y, sto (some ⟨e, [c]⟩) 0 off sz y = if y.cells.length = sz ∧ off + sz ≤ c.length ∧ y.cells.all AV.one = true then some ⟨e, [spl c off y.cells]⟩ else none := fun e c off sz y => by rw [hsto]; rfl
  have hcaw : ∀ {f args T base K}, CallK Try.prog f args T base K → call f args T base K := fun h => by rw [hcall]; exact h
  have hcal : ∀ {f args T base} {K : AV → Table → List Nat → List Nat → Prop}, (∃ args' ids val rows, Hands T ids args args' (val base) (rows base) ∧ ACalls Try.prog f args' val rows ∧ (rows base).length ≤ 8 ∧ K (val base) (adopt T base (rows base)) ids ((List.range (rows base).length).map (base + ·))) → call f args T base K := fun h => hcaw (call_own h)
  cbv
  refine hcal ⟨[.ro X, .ro []], [], _, _, hands_deep ⟨.id rfl, .nil, trivial⟩ rfl (fun r hr => by cases hr), h, by simp, ?_⟩
  cbv
  exact hQ _ _ trivial (hfin _ (by cbv))
theorem refLine_calls (n : Int) (hn : n ≤ 10000000) : ACalls Try.prog 63 [.flat (.int .i64 n)] (fun _ => .flat (.string (txt (lineB n)))) (fun _ => []) := by
  have hz := lnAt_zero [] n
  have hb : ([] : List UInt8).length + 1 + n.toNat ≤ 100000000 := by simp; omega
  have hcat : ∀ cs : List UInt8, cs.length ≤ 100000000 → dvOf Try.prog .add 9 (.flat (.string (txt cs))) (.flat (.string ⟨#[32]⟩)) = some (.flat (.string (txt (cs ++ [32])))) := fun cs h => by
    have := dv_cat (txt cs) (txt [32]) (by rw [size_txt, size_txt]; simp; omega)
    rw [txt_append] at this
    exact this
  obtain ⟨r, hr⟩ : ∃ r, r = txt (lineB n) := ⟨_, rfl⟩
  rw [← hr]
  refine acalls_symF tabF_ok fn63 rfl rfl rfl (by kernel_rfl) ?_
  have hfin : ∀ st, resA Try.prog Try.f63 st = some (.flat (.string r)) → G.Leaves Try.prog Try.f63 (fun _ => .flat (.string r)) (fun _ => []) st := fun st h => G.Leaves.plain h rfl
  rintro ⟨lt, le, eq, se, ar, dv, una, conv, len, sln, nat, nth, ixs, cel, sto, app, cpy, slc, mak, ixv, oth, dk, ib, call⟩ hS hm Q hQ
  obtain ⟨hlt, hle, heq, hse, har, hdv, huna, hconv, hlen, hsln, hnat, hnth, hixs, hcel, hsto, happ, hcpy, hslc, hmak, hixv, hoth, hdk, hib, hcall⟩ := Sym.mk.inj hS
  clear hS
  have hnt : ∀ n : Nat, nat n = U.natI n := fun n => by rw [hnat]; rfl
  have hbox : ∀ e c off, cel (some ⟨e, [c]⟩) 0 off = if off ≤ c.length then some (c.drop off) else none := fun e c off => by rw [hcel]; rfl
  have hsbox : ∀ e c off sz y, sto (some ⟨e, [c]⟩) 0 off sz y = if y.cells.length = sz ∧ off + sz ≤ c.length ∧ y.cells.all AV.one = true then some ⟨e, [spl c off y.cells]⟩ else none := fun e c off sz y => by rw [hsto]; rfl
  have hcaw : ∀ {f args T base K}, CallK Try.prog f args T base K → call f args T base K := fun h => by rw [hcall]; exact h
  have hcal : ∀ {f args T base} {K : AV → Table → List Nat → List Nat → Prop}, (∃ args' ids val rows, Hands T ids args args' (val base) (rows base) ∧ ACalls Try.prog f args' val rows ∧ (rows base).length ≤ 8 ∧ K (val base) (adopt T base (rows base)) ids ((List.range (rows base).length).map (base + ·))) → call f args T base K := fun h => hcaw (call_own h)
  rw [← hdv] at hcat
  cbv
  refine MW_loop hm [] [0, 3, 4] 5 (by simp) (fun mz st => ∃ (i : Int) (cs : List UInt8) (s : ByteArray), LnAt [] n i cs ∧ s = txt cs ∧ mz = (n - i).toNat ∧ st = stOf [.flat (.int .i64 n), .dead, .dead, .flat (.string s), .flat (.int .i64 i)] [] 0) ((n - 0).toNat) ?_ ?_
  · exact ⟨0, _, ⟨#[10]⟩, hz, rfl, rfl, cut_eq (by cbv) (by rfl)⟩
  rintro mz st ⟨i, cs, s, hi, hs, hmz, rfl⟩
  cases hc : lt i n
  · have hc' : decide (i < n) = false := by rw [hlt] at hc; exact hc
    have hend := lnAt_end hi hc'
    rw [List.nil_append] at hend
    have : s = r := by rw [hs, hr, hend]
    subst this
    cbv
    rw [hc]; cbv
    exact hQ _ _ trivial (hfin _ (by cbv))
  have hc' : decide (i < n) = true := by rw [hlt] at hc; exact hc
  obtain ⟨r1, r2, r3, r4⟩ := lnAt_step hb hi hc'
  rw [← har] at r2
  have hcs := hcat cs (by omega)
  rw [← hs] at hcs
  obtain ⟨s2, hs2⟩ : ∃ s2, s2 = txt (cs ++ [32]) := ⟨_, rfl⟩
  rw [← hs2] at hcs
  generalize i + 1 = i2 at r1 r2 r3
  generalize cs ++ [32] = cs2 at r1 hs2
  cbv
  rw [hc]; cbv
  rw [hcs]; cbv
  rw [r2]
  exact ⟨[], [0, 3, 4], 5, (n - i2).toNat, hmz ▸ r3, by simp, i2, cs2, s2, r1, hs2, rfl, cut_eq (by cbv) (by rfl)⟩
/-! ### The document's answer -/
def refV (r : List UInt8 × Int) : AV := .tup [.flat (.string (txt r.1)), .flat (.int .i64 r.2)]
def RefK (ch : List Bool) (t : Tr) : Prop := ∀ (n : Int) (fl : Bool) (u : Int), 0 ≤ n → n + 100 * t.flat.length ≤ 10000000 → 0 ≤ u → u + t.flat.length ≤ 1000000000 → (byT ch t n fl u).1.length ≤ 100000000 →
  ACalls Try.prog 47 [.ro (t.flat.map partC), .flat (.int .i64 n), .flat (.bool fl), .ro (ch.map boolC), .flat (.int .i64 u)] (fun _ => refV (byT ch t n fl u)) (fun _ => [])
theorem ref_lf0 {ch : List Bool} {p : PartT} {n u : Int} {fl : Bool} (ht : (Tr.lf p).ok) (hm : (Tr.lf p).flat.length ≤ 20000) (hkd : p.kind = 0) (hn : n ≤ 10000000) : ACalls Try.prog 47 [.ro ((Tr.lf p).flat.map partC), .flat (.int .i64 n), .flat (.bool fl), .ro (ch.map boolC), .flat (.int .i64 u)] (fun _ => .tup [.flat (.string (txt (bts p.text))), .flat (.int .i64 u)]) (fun _ => []) := by
  have hcP := parts_calls (Tr.lf p) ht hm
  obtain ⟨kl, hkl, hlast⟩ := last_top (t := Tr.lf p) hm
  have hK : (kids (Tr.lf p)).map kidC = [] := rfl
  have hKl : (kids (Tr.lf p)).length = 0 := rfl
  rw [hK, hKl] at hcP
  change nthE _ _ _ = some (.rp (partC p)) at hlast
  generalize (Tr.lf p).flat.map partC = X at hcP hlast hkl ⊢
  obtain ⟨kd, pn, tx⟩ := p
  dsimp only at hkd
  subst hkd
  unfold partC at hlast
  dsimp only at hlast
  generalize ch.map boolC = CH
  rw [txt_bts]
  refine acalls_symF tabF_ok fn47 rfl rfl rfl (by kernel_rfl) ?_
  rintro ⟨lt, le, eq, se, ar, dv, una, conv, len, sln, nat, nth, ixs, cel, sto, app, cpy, slc, mak, ixv, oth, dk, ib, call⟩ hS hm Q hQ
  obtain ⟨hlt, hle, heq, hse, har, hdv, huna, hconv, hlen, hsln, hnat, hnth, hixs, hcel, hsto, happ, hcpy, hslc, hmak, hixv, hoth, hdk, hib, hcall⟩ := Sym.mk.inj hS
  clear hS
  have hnt : ∀ n : Nat, nat n = U.natI n := fun n => by rw [hnat]; rfl
  have hbox : ∀ e c off, cel (some ⟨e, [c]⟩) 0 off = if off ≤ c.length then some (c.drop off) else none := fun e c off => by rw [hcel]; rfl
  have hsbox : ∀ e c off sz y, sto (some ⟨e, [c]⟩) 0 off sz y = if y.cells.length = sz ∧ off + sz ≤ c.length ∧ y.cells.all AV.one = true then some ⟨e, [spl c off y.cells]⟩ else none := fun e c off sz y => by rw [hsto]; rfl
  have hcaw : ∀ {f args T base K}, CallK Try.prog f args T base K → call f args T base K := fun h => by rw [hcall]; exact h
  have hcal : ∀ {f args T base} {K : AV → Table → List Nat → List Nat → Prop}, (∃ args' ids val rows, Hands T ids args args' (val base) (rows base) ∧ ACalls Try.prog f args' val rows ∧ (rows base).length ≤ 8 ∧ K (val base) (adopt T base (rows base)) ids ((List.range (rows base).length).map (base + ·))) → call f args T base K := fun h => hcaw (call_own h)
  have hE : ∀ x y, eq x y = decide (x = y) := fun x y => by rw [heq]
  rw [← hlen, ← har] at hkl
  rw [← hnth] at hlast
  cbv
  rw [hkl]; cbv
  repeat (first | (rw [hbox]; cbv) | (rw [hsbox]; cbv) | (rw [hlast]; cbv))
  refine hcal ⟨_, [], _, _, .inl ⟨rfl, by cbv⟩, hcP, by simp, ?_⟩
  cbv
  repeat (first | (rw [hbox]; cbv) | (rw [hsbox]; cbv) | (rw [hE]; cbv))
  exact hQ _ _ trivial (G.Leaves.plain (by cbv) rfl)
theorem ref_lf1t {ch : List Bool} {p : PartT} {n u : Int} {fl : Bool} (ht : (Tr.lf p).ok) (hm : (Tr.lf p).flat.length ≤ 20000) (hkd : p.kind = 1) (hn : n ≤ 10000000) : ACalls Try.prog 47 [.ro ((Tr.lf p).flat.map partC), .flat (.int .i64 n), .flat (.bool true), .ro (ch.map boolC), .flat (.int .i64 u)] (fun _ => .tup [.flat (.string (txt [32])), .flat (.int .i64 u)]) (fun _ => []) := by
  have hcP := parts_calls (Tr.lf p) ht hm
  obtain ⟨kl, hkl, hlast⟩ := last_top (t := Tr.lf p) hm
  have hK : (kids (Tr.lf p)).map kidC = [] := rfl
  have hKl : (kids (Tr.lf p)).length = 0 := rfl
  rw [hK, hKl] at hcP
  change nthE _ _ _ = some (.rp (partC p)) at hlast
  generalize (Tr.lf p).flat.map partC = X at hcP hlast hkl ⊢
  obtain ⟨kd, pn, tx⟩ := p
  dsimp only at hkd
  subst hkd
  unfold partC at hlast
  dsimp only at hlast
  generalize ch.map boolC = CH
  refine acalls_symF tabF_ok fn47 rfl rfl rfl (by kernel_rfl) ?_
  rintro ⟨lt, le, eq, se, ar, dv, una, conv, len, sln, nat, nth, ixs, cel, sto, app, cpy, slc, mak, ixv, oth, dk, ib, call⟩ hS hm Q hQ
  obtain ⟨hlt, hle, heq, hse, har, hdv, huna, hconv, hlen, hsln, hnat, hnth, hixs, hcel, hsto, happ, hcpy, hslc, hmak, hixv, hoth, hdk, hib, hcall⟩ := Sym.mk.inj hS
  clear hS
  have hnt : ∀ n : Nat, nat n = U.natI n := fun n => by rw [hnat]; rfl
  have hbox : ∀ e c off, cel (some ⟨e, [c]⟩) 0 off = if off ≤ c.length then some (c.drop off) else none := fun e c off => by rw [hcel]; rfl
  have hsbox : ∀ e c off sz y, sto (some ⟨e, [c]⟩) 0 off sz y = if y.cells.length = sz ∧ off + sz ≤ c.length ∧ y.cells.all AV.one = true then some ⟨e, [spl c off y.cells]⟩ else none := fun e c off sz y => by rw [hsto]; rfl
  have hcaw : ∀ {f args T base K}, CallK Try.prog f args T base K → call f args T base K := fun h => by rw [hcall]; exact h
  have hcal : ∀ {f args T base} {K : AV → Table → List Nat → List Nat → Prop}, (∃ args' ids val rows, Hands T ids args args' (val base) (rows base) ∧ ACalls Try.prog f args' val rows ∧ (rows base).length ≤ 8 ∧ K (val base) (adopt T base (rows base)) ids ((List.range (rows base).length).map (base + ·))) → call f args T base K := fun h => hcaw (call_own h)
  have hE : ∀ x y, eq x y = decide (x = y) := fun x y => by rw [heq]
  rw [← hlen, ← har] at hkl
  rw [← hnth] at hlast
  cbv
  rw [hkl]; cbv
  repeat (first | (rw [hbox]; cbv) | (rw [hsbox]; cbv) | (rw [hlast]; cbv))
  refine hcal ⟨_, [], _, _, .inl ⟨rfl, by cbv⟩, hcP, by simp, ?_⟩
  cbv
  repeat (first | (rw [hbox]; cbv) | (rw [hsbox]; cbv) | (rw [hE]; cbv))
  exact hQ _ _ trivial (G.Leaves.plain (by cbv) rfl)
theorem ref_lf1f {ch : List Bool} {p : PartT} {n u : Int} {fl : Bool} (ht : (Tr.lf p).ok) (hm : (Tr.lf p).flat.length ≤ 20000) (hkd : p.kind = 1) (hn : n ≤ 10000000) : ACalls Try.prog 47 [.ro ((Tr.lf p).flat.map partC), .flat (.int .i64 n), .flat (.bool false), .ro (ch.map boolC), .flat (.int .i64 u)] (fun _ => .tup [.flat (.string (txt (lineB n))), .flat (.int .i64 u)]) (fun _ => []) := by
  have hcP := parts_calls (Tr.lf p) ht hm
  obtain ⟨kl, hkl, hlast⟩ := last_top (t := Tr.lf p) hm
  have hK : (kids (Tr.lf p)).map kidC = [] := rfl
  have hKl : (kids (Tr.lf p)).length = 0 := rfl
  rw [hK, hKl] at hcP
  change nthE _ _ _ = some (.rp (partC p)) at hlast
  generalize (Tr.lf p).flat.map partC = X at hcP hlast hkl ⊢
  obtain ⟨kd, pn, tx⟩ := p
  dsimp only at hkd
  subst hkd
  unfold partC at hlast
  dsimp only at hlast
  generalize ch.map boolC = CH
  have hl := refLine_calls n hn
  generalize txt (lineB n) = s at hl ⊢
  refine acalls_symF tabF_ok fn47 rfl rfl rfl (by kernel_rfl) ?_
  rintro ⟨lt, le, eq, se, ar, dv, una, conv, len, sln, nat, nth, ixs, cel, sto, app, cpy, slc, mak, ixv, oth, dk, ib, call⟩ hS hm Q hQ
  obtain ⟨hlt, hle, heq, hse, har, hdv, huna, hconv, hlen, hsln, hnat, hnth, hixs, hcel, hsto, happ, hcpy, hslc, hmak, hixv, hoth, hdk, hib, hcall⟩ := Sym.mk.inj hS
  clear hS
  have hnt : ∀ n : Nat, nat n = U.natI n := fun n => by rw [hnat]; rfl
  have hbox : ∀ e c off, cel (some ⟨e, [c]⟩) 0 off = if off ≤ c.length then some (c.drop off) else none := fun e c off => by rw [hcel]; rfl
  have hsbox : ∀ e c off sz y, sto (some ⟨e, [c]⟩) 0 off sz y = if y.cells.length = sz ∧ off + sz ≤ c.length ∧ y.cells.all AV.one = true then some ⟨e, [spl c off y.cells]⟩ else none := fun e c off sz y => by rw [hsto]; rfl
  have hcaw : ∀ {f args T base K}, CallK Try.prog f args T base K → call f args T base K := fun h => by rw [hcall]; exact h
  have hcal : ∀ {f args T base} {K : AV → Table → List Nat → List Nat → Prop}, (∃ args' ids val rows, Hands T ids args args' (val base) (rows base) ∧ ACalls Try.prog f args' val rows ∧ (rows base).length ≤ 8 ∧ K (val base) (adopt T base (rows base)) ids ((List.range (rows base).length).map (base + ·))) → call f args T base K := fun h => hcaw (call_own h)
  have hE : ∀ x y, eq x y = decide (x = y) := fun x y => by rw [heq]
  rw [← hlen, ← har] at hkl
  rw [← hnth] at hlast
  cbv
  rw [hkl]; cbv
  repeat (first | (rw [hbox]; cbv) | (rw [hsbox]; cbv) | (rw [hlast]; cbv))
  refine hcal ⟨_, [], _, _, .inl ⟨rfl, by cbv⟩, hcP, by simp, ?_⟩
  cbv
  repeat (first | (rw [hbox]; cbv) | (rw [hsbox]; cbv) | (rw [hE]; cbv))
  refine hcal ⟨_, [], _, _, .inl ⟨rfl, by cbv⟩, hl, by simp, ?_⟩
  cbv
  exact hQ _ _ trivial (G.Leaves.plain (by cbv) rfl)
theorem ref_lf2t {ch : List Bool} {p : PartT} {n u : Int} {fl : Bool} (ht : (Tr.lf p).ok) (hm : (Tr.lf p).flat.length ≤ 20000) (hkd : p.kind = 2) (hn : n ≤ 10000000) : ACalls Try.prog 47 [.ro ((Tr.lf p).flat.map partC), .flat (.int .i64 n), .flat (.bool true), .ro (ch.map boolC), .flat (.int .i64 u)] (fun _ => .tup [.flat (.string (txt [])), .flat (.int .i64 u)]) (fun _ => []) := by
  have hcP := parts_calls (Tr.lf p) ht hm
  obtain ⟨kl, hkl, hlast⟩ := last_top (t := Tr.lf p) hm
  have hK : (kids (Tr.lf p)).map kidC = [] := rfl
  have hKl : (kids (Tr.lf p)).length = 0 := rfl
  rw [hK, hKl] at hcP
  change nthE _ _ _ = some (.rp (partC p)) at hlast
  generalize (Tr.lf p).flat.map partC = X at hcP hlast hkl ⊢
  obtain ⟨kd, pn, tx⟩ := p
  dsimp only at hkd
  subst hkd
  unfold partC at hlast
  dsimp only at hlast
  generalize ch.map boolC = CH
  refine acalls_symF tabF_ok fn47 rfl rfl rfl (by kernel_rfl) ?_
  rintro ⟨lt, le, eq, se, ar, dv, una, conv, len, sln, nat, nth, ixs, cel, sto, app, cpy, slc, mak, ixv, oth, dk, ib, call⟩ hS hm Q hQ
  obtain ⟨hlt, hle, heq, hse, har, hdv, huna, hconv, hlen, hsln, hnat, hnth, hixs, hcel, hsto, happ, hcpy, hslc, hmak, hixv, hoth, hdk, hib, hcall⟩ := Sym.mk.inj hS
  clear hS
  have hnt : ∀ n : Nat, nat n = U.natI n := fun n => by rw [hnat]; rfl
  have hbox : ∀ e c off, cel (some ⟨e, [c]⟩) 0 off = if off ≤ c.length then some (c.drop off) else none := fun e c off => by rw [hcel]; rfl
  have hsbox : ∀ e c off sz y, sto (some ⟨e, [c]⟩) 0 off sz y = if y.cells.length = sz ∧ off + sz ≤ c.length ∧ y.cells.all AV.one = true then some ⟨e, [spl c off y.cells]⟩ else none := fun e c off sz y => by rw [hsto]; rfl
  have hcaw : ∀ {f args T base K}, CallK Try.prog f args T base K → call f args T base K := fun h => by rw [hcall]; exact h
  have hcal : ∀ {f args T base} {K : AV → Table → List Nat → List Nat → Prop}, (∃ args' ids val rows, Hands T ids args args' (val base) (rows base) ∧ ACalls Try.prog f args' val rows ∧ (rows base).length ≤ 8 ∧ K (val base) (adopt T base (rows base)) ids ((List.range (rows base).length).map (base + ·))) → call f args T base K := fun h => hcaw (call_own h)
  have hE : ∀ x y, eq x y = decide (x = y) := fun x y => by rw [heq]
  rw [← hlen, ← har] at hkl
  rw [← hnth] at hlast
  cbv
  rw [hkl]; cbv
  repeat (first | (rw [hbox]; cbv) | (rw [hsbox]; cbv) | (rw [hlast]; cbv))
  refine hcal ⟨_, [], _, _, .inl ⟨rfl, by cbv⟩, hcP, by simp, ?_⟩
  cbv
  repeat (first | (rw [hbox]; cbv) | (rw [hsbox]; cbv) | (rw [hE]; cbv))
  exact hQ _ _ trivial (G.Leaves.plain (by cbv) rfl)
theorem ref_lf2f {ch : List Bool} {p : PartT} {n u : Int} {fl : Bool} (ht : (Tr.lf p).ok) (hm : (Tr.lf p).flat.length ≤ 20000) (hkd : p.kind = 2) (hn : n ≤ 10000000) : ACalls Try.prog 47 [.ro ((Tr.lf p).flat.map partC), .flat (.int .i64 n), .flat (.bool false), .ro (ch.map boolC), .flat (.int .i64 u)] (fun _ => .tup [.flat (.string (txt (lineB n))), .flat (.int .i64 u)]) (fun _ => []) := by
  have hcP := parts_calls (Tr.lf p) ht hm
  obtain ⟨kl, hkl, hlast⟩ := last_top (t := Tr.lf p) hm
  have hK : (kids (Tr.lf p)).map kidC = [] := rfl
  have hKl : (kids (Tr.lf p)).length = 0 := rfl
  rw [hK, hKl] at hcP
  change nthE _ _ _ = some (.rp (partC p)) at hlast
  generalize (Tr.lf p).flat.map partC = X at hcP hlast hkl ⊢
  obtain ⟨kd, pn, tx⟩ := p
  dsimp only at hkd
  subst hkd
  unfold partC at hlast
  dsimp only at hlast
  generalize ch.map boolC = CH
  have hl := refLine_calls n hn
  generalize txt (lineB n) = s at hl ⊢
  refine acalls_symF tabF_ok fn47 rfl rfl rfl (by kernel_rfl) ?_
  rintro ⟨lt, le, eq, se, ar, dv, una, conv, len, sln, nat, nth, ixs, cel, sto, app, cpy, slc, mak, ixv, oth, dk, ib, call⟩ hS hm Q hQ
  obtain ⟨hlt, hle, heq, hse, har, hdv, huna, hconv, hlen, hsln, hnat, hnth, hixs, hcel, hsto, happ, hcpy, hslc, hmak, hixv, hoth, hdk, hib, hcall⟩ := Sym.mk.inj hS
  clear hS
  have hnt : ∀ n : Nat, nat n = U.natI n := fun n => by rw [hnat]; rfl
  have hbox : ∀ e c off, cel (some ⟨e, [c]⟩) 0 off = if off ≤ c.length then some (c.drop off) else none := fun e c off => by rw [hcel]; rfl
  have hsbox : ∀ e c off sz y, sto (some ⟨e, [c]⟩) 0 off sz y = if y.cells.length = sz ∧ off + sz ≤ c.length ∧ y.cells.all AV.one = true then some ⟨e, [spl c off y.cells]⟩ else none := fun e c off sz y => by rw [hsto]; rfl
  have hcaw : ∀ {f args T base K}, CallK Try.prog f args T base K → call f args T base K := fun h => by rw [hcall]; exact h
  have hcal : ∀ {f args T base} {K : AV → Table → List Nat → List Nat → Prop}, (∃ args' ids val rows, Hands T ids args args' (val base) (rows base) ∧ ACalls Try.prog f args' val rows ∧ (rows base).length ≤ 8 ∧ K (val base) (adopt T base (rows base)) ids ((List.range (rows base).length).map (base + ·))) → call f args T base K := fun h => hcaw (call_own h)
  have hE : ∀ x y, eq x y = decide (x = y) := fun x y => by rw [heq]
  rw [← hlen, ← har] at hkl
  rw [← hnth] at hlast
  cbv
  rw [hkl]; cbv
  repeat (first | (rw [hbox]; cbv) | (rw [hsbox]; cbv) | (rw [hlast]; cbv))
  refine hcal ⟨_, [], _, _, .inl ⟨rfl, by cbv⟩, hcP, by simp, ?_⟩
  cbv
  repeat (first | (rw [hbox]; cbv) | (rw [hsbox]; cbv) | (rw [hE]; cbv))
  refine hcal ⟨_, [], _, _, .inl ⟨rfl, by cbv⟩, hl, by simp, ?_⟩
  cbv
  exact hQ _ _ trivial (G.Leaves.plain (by cbv) rfl)
theorem ref_lf3 {ch : List Bool} {p : PartT} {n u : Int} {fl : Bool} (ht : (Tr.lf p).ok) (hm : (Tr.lf p).flat.length ≤ 20000) (hkd : p.kind = 3) (hn : n ≤ 10000000) : ACalls Try.prog 47 [.ro ((Tr.lf p).flat.map partC), .flat (.int .i64 n), .flat (.bool fl), .ro (ch.map boolC), .flat (.int .i64 u)] (fun _ => .tup [.flat (.string (txt (lineB n))), .flat (.int .i64 u)]) (fun _ => []) := by
  have hcP := parts_calls (Tr.lf p) ht hm
  obtain ⟨kl, hkl, hlast⟩ := last_top (t := Tr.lf p) hm
  have hK : (kids (Tr.lf p)).map kidC = [] := rfl
  have hKl : (kids (Tr.lf p)).length = 0 := rfl
  rw [hK, hKl] at hcP
  change nthE _ _ _ = some (.rp (partC p)) at hlast
  generalize (Tr.lf p).flat.map partC = X at hcP hlast hkl ⊢
  obtain ⟨kd, pn, tx⟩ := p
  dsimp only at hkd
  subst hkd
  unfold partC at hlast
  dsimp only at hlast
  generalize ch.map boolC = CH
  have hl := refLine_calls n hn
  generalize txt (lineB n) = s at hl ⊢
  refine acalls_symF tabF_ok fn47 rfl rfl rfl (by kernel_rfl) ?_
  rintro ⟨lt, le, eq, se, ar, dv, una, conv, len, sln, nat, nth, ixs, cel, sto, app, cpy, slc, mak, ixv, oth, dk, ib, call⟩ hS hm Q hQ
  obtain ⟨hlt, hle, heq, hse, har, hdv, huna, hconv, hlen, hsln, hnat, hnth, hixs, hcel, hsto, happ, hcpy, hslc, hmak, hixv, hoth, hdk, hib, hcall⟩ := Sym.mk.inj hS
  clear hS
  have hnt : ∀ n : Nat, nat n = U.natI n := fun n => by rw [hnat]; rfl
  have hbox : ∀ e c off, cel (some ⟨e, [c]⟩) 0 off = if off ≤ c.length then some (c.drop off) else none := fun e c off => by rw [hcel]; rfl
  have hsbox : ∀ e c off sz y, sto (some ⟨e, [c]⟩) 0 off sz y = if y.cells.length = sz ∧ off + sz ≤ c.length ∧ y.cells.all AV.one = true then some ⟨e, [spl c off y.cells]⟩ else none := fun e c off sz y => by rw [hsto]; rfl
  have hcaw : ∀ {f args T base K}, CallK Try.prog f args T base K → call f args T base K := fun h => by rw [hcall]; exact h
  have hcal : ∀ {f args T base} {K : AV → Table → List Nat → List Nat → Prop}, (∃ args' ids val rows, Hands T ids args args' (val base) (rows base) ∧ ACalls Try.prog f args' val rows ∧ (rows base).length ≤ 8 ∧ K (val base) (adopt T base (rows base)) ids ((List.range (rows base).length).map (base + ·))) → call f args T base K := fun h => hcaw (call_own h)
  have hE : ∀ x y, eq x y = decide (x = y) := fun x y => by rw [heq]
  rw [← hlen, ← har] at hkl
  rw [← hnth] at hlast
  cbv
  rw [hkl]; cbv
  repeat (first | (rw [hbox]; cbv) | (rw [hsbox]; cbv) | (rw [hlast]; cbv))
  refine hcal ⟨_, [], _, _, .inl ⟨rfl, by cbv⟩, hcP, by simp, ?_⟩
  cbv
  repeat (first | (rw [hbox]; cbv) | (rw [hsbox]; cbv) | (rw [hE]; cbv))
  refine hcal ⟨_, [], _, _, .inl ⟨rfl, by cbv⟩, hl, by simp, ?_⟩
  cbv
  exact hQ _ _ trivial (G.Leaves.plain (by cbv) rfl)
theorem ref_lf7 {ch : List Bool} {p : PartT} {n u : Int} {fl : Bool} (ht : (Tr.lf p).ok) (hm : (Tr.lf p).flat.length ≤ 20000) (hkd : p.kind = 7) (hn : n ≤ 10000000) : ACalls Try.prog 47 [.ro ((Tr.lf p).flat.map partC), .flat (.int .i64 n), .flat (.bool fl), .ro (ch.map boolC), .flat (.int .i64 u)] (fun _ => .tup [.flat (.string (txt [])), .flat (.int .i64 u)]) (fun _ => []) := by
  have hcP := parts_calls (Tr.lf p) ht hm
  obtain ⟨kl, hkl, hlast⟩ := last_top (t := Tr.lf p) hm
  have hK : (kids (Tr.lf p)).map kidC = [] := rfl
  have hKl : (kids (Tr.lf p)).length = 0 := rfl
  rw [hK, hKl] at hcP
  change nthE _ _ _ = some (.rp (partC p)) at hlast
  generalize (Tr.lf p).flat.map partC = X at hcP hlast hkl ⊢
  obtain ⟨kd, pn, tx⟩ := p
  dsimp only at hkd
  subst hkd
  unfold partC at hlast
  dsimp only at hlast
  generalize ch.map boolC = CH
  refine acalls_symF tabF_ok fn47 rfl rfl rfl (by kernel_rfl) ?_
  rintro ⟨lt, le, eq, se, ar, dv, una, conv, len, sln, nat, nth, ixs, cel, sto, app, cpy, slc, mak, ixv, oth, dk, ib, call⟩ hS hm Q hQ
  obtain ⟨hlt, hle, heq, hse, har, hdv, huna, hconv, hlen, hsln, hnat, hnth, hixs, hcel, hsto, happ, hcpy, hslc, hmak, hixv, hoth, hdk, hib, hcall⟩ := Sym.mk.inj hS
  clear hS
  have hnt : ∀ n : Nat, nat n = U.natI n := fun n => by rw [hnat]; rfl
  have hbox : ∀ e c off, cel (some ⟨e, [c]⟩) 0 off = if off ≤ c.length then some (c.drop off) else none := fun e c off => by rw [hcel]; rfl
  have hsbox : ∀ e c off sz y, sto (some ⟨e, [c]⟩) 0 off sz y = if y.cells.length = sz ∧ off + sz ≤ c.length ∧ y.cells.all AV.one = true then some ⟨e, [spl c off y.cells]⟩ else none := fun e c off sz y => by rw [hsto]; rfl
  have hcaw : ∀ {f args T base K}, CallK Try.prog f args T base K → call f args T base K := fun h => by rw [hcall]; exact h
  have hcal : ∀ {f args T base} {K : AV → Table → List Nat → List Nat → Prop}, (∃ args' ids val rows, Hands T ids args args' (val base) (rows base) ∧ ACalls Try.prog f args' val rows ∧ (rows base).length ≤ 8 ∧ K (val base) (adopt T base (rows base)) ids ((List.range (rows base).length).map (base + ·))) → call f args T base K := fun h => hcaw (call_own h)
  have hE : ∀ x y, eq x y = decide (x = y) := fun x y => by rw [heq]
  rw [← hlen, ← har] at hkl
  rw [← hnth] at hlast
  cbv
  rw [hkl]; cbv
  repeat (first | (rw [hbox]; cbv) | (rw [hsbox]; cbv) | (rw [hlast]; cbv))
  refine hcal ⟨_, [], _, _, .inl ⟨rfl, by cbv⟩, hcP, by simp, ?_⟩
  cbv
  repeat (first | (rw [hbox]; cbv) | (rw [hsbox]; cbv) | (rw [hE]; cbv))
  exact hQ _ _ trivial (G.Leaves.plain (by cbv) rfl)
theorem ref_nest {ch : List Bool} {p : PartT} {t : Tr} {n u : Int} {fl : Bool} (ht : (Tr.un p t).ok) (hm : (Tr.un p t).flat.length ≤ 20000) (hkd : p.kind = 5) (hn : arI .add .i64 n p.n = n + p.n) {s : ByteArray} {u2 : Int} (hi : ACalls Try.prog 47 [.ro (t.flat.map partC), .flat (.int .i64 (n + p.n)), .flat (.bool fl), .ro (ch.map boolC), .flat (.int .i64 u)] (fun _ => .tup [.flat (.string s), .flat (.int .i64 u2)]) (fun _ => [])) : ACalls Try.prog 47 [.ro ((Tr.un p t).flat.map partC), .flat (.int .i64 n), .flat (.bool fl), .ro (ch.map boolC), .flat (.int .i64 u)] (fun _ => .tup [.flat (.string s), .flat (.int .i64 u2)]) (fun _ => []) := by
  have hcP := parts_calls (Tr.un p t) ht hm
  obtain ⟨kl, hkl, hlast⟩ := last_top (t := Tr.un p t) hm
  have hK : (kids (Tr.un p t)).map kidC = [docC t.flat] := rfl
  have hKl : (kids (Tr.un p t)).length = 1 := rfl
  rw [hK, hKl] at hcP
  change nthE _ _ _ = some (.rp (partC p)) at hlast
  generalize (Tr.un p t).flat.map partC = X at hcP hlast hkl ⊢
  obtain ⟨kd, pn, tx⟩ := p
  dsimp only at hkd hn hi
  subst hkd
  unfold partC at hlast
  dsimp only at hlast
  unfold docC at hcP
  generalize t.flat.map partC = B at hcP hi
  generalize n + pn = n2 at hn hi
  generalize ch.map boolC = CH at hi ⊢
  refine acalls_symF tabF_ok fn47 rfl rfl rfl (by kernel_rfl) ?_
  rintro ⟨lt, le, eq, se, ar, dv, una, conv, len, sln, nat, nth, ixs, cel, sto, app, cpy, slc, mak, ixv, oth, dk, ib, call⟩ hS hm Q hQ
  obtain ⟨hlt, hle, heq, hse, har, hdv, huna, hconv, hlen, hsln, hnat, hnth, hixs, hcel, hsto, happ, hcpy, hslc, hmak, hixv, hoth, hdk, hib, hcall⟩ := Sym.mk.inj hS
  clear hS
  have hnt : ∀ n : Nat, nat n = U.natI n := fun n => by rw [hnat]; rfl
  have hbox : ∀ e c off, cel (some ⟨e, [c]⟩) 0 off = if off ≤ c.length then some (c.drop off) else none := fun e c off => by rw [hcel]; rfl
  have hsbox : ∀ e c off sz y, sto (some ⟨e, [c]⟩) 0 off sz y = if y.cells.length = sz ∧ off + sz ≤ c.length ∧ y.cells.all AV.one = true then some ⟨e, [spl c off y.cells]⟩ else none := fun e c off sz y => by rw [hsto]; rfl
  have hcaw : ∀ {f args T base K}, CallK Try.prog f args T base K → call f args T base K := fun h => by rw [hcall]; exact h
  have hcal : ∀ {f args T base} {K : AV → Table → List Nat → List Nat → Prop}, (∃ args' ids val rows, Hands T ids args args' (val base) (rows base) ∧ ACalls Try.prog f args' val rows ∧ (rows base).length ≤ 8 ∧ K (val base) (adopt T base (rows base)) ids ((List.range (rows base).length).map (base + ·))) → call f args T base K := fun h => hcaw (call_own h)
  have i0 : ∀ id, ixs (some ⟨23, [[.ro B]]⟩) id 0 1 0 1 = some (.ptr id 0 0) := fun id => by rw [hixs]; exact own_ix u64' (by decide) (by decide) id
  rw [← har] at hn
  have hE : ∀ x y, eq x y = decide (x = y) := fun x y => by rw [heq]
  rw [← hlen, ← har] at hkl
  rw [← hnth] at hlast
  cbv
  rw [hkl]; cbv
  repeat (first | (rw [hbox]; cbv) | (rw [hsbox]; cbv) | (rw [hlast]; cbv))
  refine hcal ⟨_, [], _, _, .inl ⟨rfl, by cbv⟩, hcP, by simp, ?_⟩
  cbv
  repeat (first | (rw [hbox]; cbv) | (rw [hsbox]; cbv) | (rw [hE]; cbv))
  refine ⟨by rw [hdk]; kernel_rfl, ?_⟩
  repeat (first | (rw [hbox]; cbv) | (rw [hsbox]; cbv) | (rw [i0]; cbv) | (rw [hn]; cbv))
  refine hcal ⟨_, [], _, _, .inl ⟨rfl, by cbv⟩, hi, by simp, ?_⟩
  cbv
  refine ⟨by rw [hib]; kernel_rfl, ?_⟩
  cbv
  exact hQ _ _ trivial (G.Leaves.plain (by cbv) rfl)
theorem ref_gt {ch : List Bool} {p : PartT} {t : Tr} {n u : Int} {fl : Bool} (ht : (Tr.un p t).ok) (hm : (Tr.un p t).flat.length ≤ 20000) (hkd : p.kind = 6) {s : ByteArray} {u2 : Int} (hi : ACalls Try.prog 47 [.ro (t.flat.map partC), .flat (.int .i64 n), .flat (.bool true), .ro (ch.map boolC), .flat (.int .i64 u)] (fun _ => .tup [.flat (.string s), .flat (.int .i64 u2)]) (fun _ => [])) : ACalls Try.prog 47 [.ro ((Tr.un p t).flat.map partC), .flat (.int .i64 n), .flat (.bool true), .ro (ch.map boolC), .flat (.int .i64 u)] (fun _ => .tup [.flat (.string s), .flat (.int .i64 u2)]) (fun _ => []) := by
  have hcP := parts_calls (Tr.un p t) ht hm
  obtain ⟨kl, hkl, hlast⟩ := last_top (t := Tr.un p t) hm
  have hK : (kids (Tr.un p t)).map kidC = [docC t.flat] := rfl
  have hKl : (kids (Tr.un p t)).length = 1 := rfl
  rw [hK, hKl] at hcP
  change nthE _ _ _ = some (.rp (partC p)) at hlast
  generalize (Tr.un p t).flat.map partC = X at hcP hlast hkl ⊢
  obtain ⟨kd, pn, tx⟩ := p
  dsimp only at hkd
  subst hkd
  unfold partC at hlast
  dsimp only at hlast
  unfold docC at hcP
  generalize t.flat.map partC = B at hcP hi
  generalize ch.map boolC = CH at hi ⊢
  refine acalls_symF tabF_ok fn47 rfl rfl rfl (by kernel_rfl) ?_
  rintro ⟨lt, le, eq, se, ar, dv, una, conv, len, sln, nat, nth, ixs, cel, sto, app, cpy, slc, mak, ixv, oth, dk, ib, call⟩ hS hm Q hQ
  obtain ⟨hlt, hle, heq, hse, har, hdv, huna, hconv, hlen, hsln, hnat, hnth, hixs, hcel, hsto, happ, hcpy, hslc, hmak, hixv, hoth, hdk, hib, hcall⟩ := Sym.mk.inj hS
  clear hS
  have hnt : ∀ n : Nat, nat n = U.natI n := fun n => by rw [hnat]; rfl
  have hbox : ∀ e c off, cel (some ⟨e, [c]⟩) 0 off = if off ≤ c.length then some (c.drop off) else none := fun e c off => by rw [hcel]; rfl
  have hsbox : ∀ e c off sz y, sto (some ⟨e, [c]⟩) 0 off sz y = if y.cells.length = sz ∧ off + sz ≤ c.length ∧ y.cells.all AV.one = true then some ⟨e, [spl c off y.cells]⟩ else none := fun e c off sz y => by rw [hsto]; rfl
  have hcaw : ∀ {f args T base K}, CallK Try.prog f args T base K → call f args T base K := fun h => by rw [hcall]; exact h
  have hcal : ∀ {f args T base} {K : AV → Table → List Nat → List Nat → Prop}, (∃ args' ids val rows, Hands T ids args args' (val base) (rows base) ∧ ACalls Try.prog f args' val rows ∧ (rows base).length ≤ 8 ∧ K (val base) (adopt T base (rows base)) ids ((List.range (rows base).length).map (base + ·))) → call f args T base K := fun h => hcaw (call_own h)
  have i0 : ∀ id, ixs (some ⟨23, [[.ro B]]⟩) id 0 1 0 1 = some (.ptr id 0 0) := fun id => by rw [hixs]; exact own_ix u64' (by decide) (by decide) id
  have hE : ∀ x y, eq x y = decide (x = y) := fun x y => by rw [heq]
  rw [← hlen, ← har] at hkl
  rw [← hnth] at hlast
  cbv
  rw [hkl]; cbv
  repeat (first | (rw [hbox]; cbv) | (rw [hsbox]; cbv) | (rw [hlast]; cbv))
  refine hcal ⟨_, [], _, _, .inl ⟨rfl, by cbv⟩, hcP, by simp, ?_⟩
  cbv
  repeat (first | (rw [hbox]; cbv) | (rw [hsbox]; cbv) | (rw [hE]; cbv))
  repeat (first | (rw [hbox]; cbv) | (rw [hsbox]; cbv) | (rw [i0]; cbv))
  refine hcal ⟨_, [], _, _, .inl ⟨rfl, by cbv⟩, hi, by simp, ?_⟩
  cbv
  exact hQ _ _ trivial (G.Leaves.plain (by cbv) rfl)
theorem ref_gf {ch : List Bool} {p : PartT} {t : Tr} {n u : Int} {fl : Bool} (ht : (Tr.un p t).ok) (hm : (Tr.un p t).flat.length ≤ 20000) (hkd : p.kind = 6) (h0 : 0 ≤ u) (hu : u ≤ 1000000000) {s : ByteArray} {u2 : Int} (hi : ACalls Try.prog 47 [.ro (t.flat.map partC), .flat (.int .i64 n), .flat (.bool (chosen ch u)), .ro (ch.map boolC), .flat (.int .i64 (u + 1))] (fun _ => .tup [.flat (.string s), .flat (.int .i64 u2)]) (fun _ => [])) : ACalls Try.prog 47 [.ro ((Tr.un p t).flat.map partC), .flat (.int .i64 n), .flat (.bool false), .ro (ch.map boolC), .flat (.int .i64 u)] (fun _ => .tup [.flat (.string s), .flat (.int .i64 u2)]) (fun _ => []) := by
  have hcP := parts_calls (Tr.un p t) ht hm
  obtain ⟨kl, hkl, hlast⟩ := last_top (t := Tr.un p t) hm
  have hK : (kids (Tr.un p t)).map kidC = [docC t.flat] := rfl
  have hKl : (kids (Tr.un p t)).length = 1 := rfl
  rw [hK, hKl] at hcP
  change nthE _ _ _ = some (.rp (partC p)) at hlast
  generalize (Tr.un p t).flat.map partC = X at hcP hlast hkl ⊢
  obtain ⟨kd, pn, tx⟩ := p
  dsimp only at hkd
  subst hkd
  unfold partC at hlast
  dsimp only at hlast
  unfold docC at hcP
  generalize t.flat.map partC = B at hcP hi
  have hadd : arI .add .i64 u 1 = u + 1 := ar_add64 (by omega) (by omega)
  have hce : decide (u < (ch.length : Int)) = false → chosen ch u = false := fun h => by
    simp only [decide_eq_false_iff_not] at h
    unfold chosen
    rw [if_neg (by omega)]
  have hca : decide (u < (ch.length : Int)) = true → nthE (ch.map boolC) u 1 = some (.rp [.flat (.bool (chosen ch u))]) := fun h => by
    simp only [decide_eq_true_eq] at h
    have e : chosen ch u = atI ch u := by unfold chosen; rw [if_pos ⟨h0, h⟩]
    rw [e]
    exact nth_map (f := boolC) (fun _ => rfl) h0 h
  have hlc : lenE (ch.map boolC) = (ch.length : Int) := len_map _ _
  generalize ch.map boolC = CH at hi hca hlc ⊢
  generalize chosen ch u = cu at hi hce hca
  refine acalls_symF tabF_ok fn47 rfl rfl rfl (by kernel_rfl) ?_
  rintro ⟨lt, le, eq, se, ar, dv, una, conv, len, sln, nat, nth, ixs, cel, sto, app, cpy, slc, mak, ixv, oth, dk, ib, call⟩ hS hm Q hQ
  obtain ⟨hlt, hle, heq, hse, har, hdv, huna, hconv, hlen, hsln, hnat, hnth, hixs, hcel, hsto, happ, hcpy, hslc, hmak, hixv, hoth, hdk, hib, hcall⟩ := Sym.mk.inj hS
  clear hS
  have hnt : ∀ n : Nat, nat n = U.natI n := fun n => by rw [hnat]; rfl
  have hbox : ∀ e c off, cel (some ⟨e, [c]⟩) 0 off = if off ≤ c.length then some (c.drop off) else none := fun e c off => by rw [hcel]; rfl
  have hsbox : ∀ e c off sz y, sto (some ⟨e, [c]⟩) 0 off sz y = if y.cells.length = sz ∧ off + sz ≤ c.length ∧ y.cells.all AV.one = true then some ⟨e, [spl c off y.cells]⟩ else none := fun e c off sz y => by rw [hsto]; rfl
  have hcaw : ∀ {f args T base K}, CallK Try.prog f args T base K → call f args T base K := fun h => by rw [hcall]; exact h
  have hcal : ∀ {f args T base} {K : AV → Table → List Nat → List Nat → Prop}, (∃ args' ids val rows, Hands T ids args args' (val base) (rows base) ∧ ACalls Try.prog f args' val rows ∧ (rows base).length ≤ 8 ∧ K (val base) (adopt T base (rows base)) ids ((List.range (rows base).length).map (base + ·))) → call f args T base K := fun h => hcaw (call_own h)
  have i0 : ∀ id, ixs (some ⟨23, [[.ro B]]⟩) id 0 1 0 1 = some (.ptr id 0 0) := fun id => by rw [hixs]; exact own_ix u64' (by decide) (by decide) id
  rw [← har] at hadd
  rw [← hnth] at hca
  have e9 : lt u (len CH) = decide (u < (ch.length : Int)) := by rw [hlt, hlen, hlc]
  generalize decide (u < (ch.length : Int)) = b9 at e9 hce hca
  generalize u + 1 = u1 at hadd hi
  have hE : ∀ x y, eq x y = decide (x = y) := fun x y => by rw [heq]
  rw [← hlen, ← har] at hkl
  rw [← hnth] at hlast
  cbv
  rw [hkl]; cbv
  repeat (first | (rw [hbox]; cbv) | (rw [hsbox]; cbv) | (rw [hlast]; cbv))
  refine hcal ⟨_, [], _, _, .inl ⟨rfl, by cbv⟩, hcP, by simp, ?_⟩
  cbv
  repeat (first | (rw [hbox]; cbv) | (rw [hsbox]; cbv) | (rw [hE]; cbv))
  refine ⟨by rw [hdk]; kernel_rfl, ?_⟩
  repeat (first | (rw [hbox]; cbv) | (rw [hsbox]; cbv) | (rw [i0]; cbv))
  rw [e9]; cases b9
  · obtain rfl := hce rfl
    cbv
    repeat (first | (rw [hbox]; cbv) | (rw [hsbox]; cbv) | (rw [hadd]; cbv))
    refine hcal ⟨_, [], _, _, .inl ⟨rfl, by cbv⟩, hi, by simp, ?_⟩
    cbv
    refine ⟨by rw [hib]; kernel_rfl, ?_⟩
    cbv
    exact hQ _ _ trivial (G.Leaves.plain (by cbv) rfl)
  have hx := hca rfl
  cbv
  repeat (first | (rw [hbox]; cbv) | (rw [hsbox]; cbv) | (rw [hx]; cbv) | (rw [hadd]; cbv))
  refine hcal ⟨_, [], _, _, .inl ⟨rfl, by cbv⟩, hi, by simp, ?_⟩
  cbv
  refine ⟨by rw [hib]; kernel_rfl, ?_⟩
  cbv
  exact hQ _ _ trivial (G.Leaves.plain (by cbv) rfl)
theorem ref_cat {ch : List Bool} {p : PartT} {a b : Tr} {n u : Int} {fl : Bool} (ht : (Tr.cat p a b).ok) (hm : (Tr.cat p a b).flat.length ≤ 20000) (hkd : p.kind = 4) {s1 s2 s3 : ByteArray} {u1 u2 : Int} (h3 : dvOf Try.prog .add 9 (.flat (.string s1)) (.flat (.string s2)) = some (.flat (.string s3))) (hi : ACalls Try.prog 47 [.ro (a.flat.map partC), .flat (.int .i64 n), .flat (.bool fl), .ro (ch.map boolC), .flat (.int .i64 u)] (fun _ => .tup [.flat (.string s1), .flat (.int .i64 u1)]) (fun _ => [])) (hj : ACalls Try.prog 47 [.ro (b.flat.map partC), .flat (.int .i64 n), .flat (.bool fl), .ro (ch.map boolC), .flat (.int .i64 u1)] (fun _ => .tup [.flat (.string s2), .flat (.int .i64 u2)]) (fun _ => [])) : ACalls Try.prog 47 [.ro ((Tr.cat p a b).flat.map partC), .flat (.int .i64 n), .flat (.bool fl), .ro (ch.map boolC), .flat (.int .i64 u)] (fun _ => .tup [.flat (.string s3), .flat (.int .i64 u2)]) (fun _ => []) := by
  have hcP := parts_calls (Tr.cat p a b) ht hm
  obtain ⟨kl, hkl, hlast⟩ := last_top (t := Tr.cat p a b) hm
  have hK : (kids (Tr.cat p a b)).map kidC = [docC a.flat, docC b.flat] := rfl
  have hKl : (kids (Tr.cat p a b)).length = 2 := rfl
  rw [hK, hKl] at hcP
  change nthE _ _ _ = some (.rp (partC p)) at hlast
  generalize (Tr.cat p a b).flat.map partC = X at hcP hlast hkl ⊢
  obtain ⟨kd, pn, tx⟩ := p
  dsimp only at hkd
  subst hkd
  unfold partC at hlast
  dsimp only at hlast
  unfold docC at hcP
  generalize a.flat.map partC = B at hcP hi
  generalize b.flat.map partC = C at hcP hj
  generalize ch.map boolC = CH at hi hj ⊢
  refine acalls_symF tabF_ok fn47 rfl rfl rfl (by kernel_rfl) ?_
  rintro ⟨lt, le, eq, se, ar, dv, una, conv, len, sln, nat, nth, ixs, cel, sto, app, cpy, slc, mak, ixv, oth, dk, ib, call⟩ hS hm Q hQ
  obtain ⟨hlt, hle, heq, hse, har, hdv, huna, hconv, hlen, hsln, hnat, hnth, hixs, hcel, hsto, happ, hcpy, hslc, hmak, hixv, hoth, hdk, hib, hcall⟩ := Sym.mk.inj hS
  clear hS
  have hnt : ∀ n : Nat, nat n = U.natI n := fun n => by rw [hnat]; rfl
  have hbox : ∀ e c off, cel (some ⟨e, [c]⟩) 0 off = if off ≤ c.length then some (c.drop off) else none := fun e c off => by rw [hcel]; rfl
  have hsbox : ∀ e c off sz y, sto (some ⟨e, [c]⟩) 0 off sz y = if y.cells.length = sz ∧ off + sz ≤ c.length ∧ y.cells.all AV.one = true then some ⟨e, [spl c off y.cells]⟩ else none := fun e c off sz y => by rw [hsto]; rfl
  have hcaw : ∀ {f args T base K}, CallK Try.prog f args T base K → call f args T base K := fun h => by rw [hcall]; exact h
  have hcal : ∀ {f args T base} {K : AV → Table → List Nat → List Nat → Prop}, (∃ args' ids val rows, Hands T ids args args' (val base) (rows base) ∧ ACalls Try.prog f args' val rows ∧ (rows base).length ≤ 8 ∧ K (val base) (adopt T base (rows base)) ids ((List.range (rows base).length).map (base + ·))) → call f args T base K := fun h => hcaw (call_own h)
  have i0 : ∀ id, ixs (some ⟨23, [[.ro B], [.ro C]]⟩) id 0 2 0 1 = some (.ptr id 0 0) := fun id => by rw [hixs]; exact own_ix u64' (by decide) (by decide) id
  have i1 : ∀ id, ixs (some ⟨23, [[.ro B], [.ro C]]⟩) id 0 2 1 1 = some (.ptr id 1 0) := fun id => by rw [hixs]; exact own_ix u64' (by decide) (by decide) id
  have j0 : cel (some ⟨23, [[.ro B], [.ro C]]⟩) 0 0 = some [.ro B] := by rw [hcel]; rfl
  have j1 : cel (some ⟨23, [[.ro B], [.ro C]]⟩) 1 0 = some [.ro C] := by rw [hcel]; rfl
  rw [← hdv] at h3
  have hE : ∀ x y, eq x y = decide (x = y) := fun x y => by rw [heq]
  rw [← hlen, ← har] at hkl
  rw [← hnth] at hlast
  cbv
  rw [hkl]; cbv
  repeat (first | (rw [hbox]; cbv) | (rw [hsbox]; cbv) | (rw [hlast]; cbv))
  refine hcal ⟨_, [], _, _, .inl ⟨rfl, by cbv⟩, hcP, by simp, ?_⟩
  cbv
  repeat (first | (rw [hbox]; cbv) | (rw [hsbox]; cbv) | (rw [hE]; cbv))
  repeat (first | (rw [hbox]; cbv) | (rw [hsbox]; cbv) | (rw [i0]; cbv) | (rw [j0]; cbv))
  refine hcal ⟨_, [], _, _, .inl ⟨rfl, by cbv⟩, hi, by simp, ?_⟩
  cbv
  repeat (first | (rw [hbox]; cbv) | (rw [hsbox]; cbv) | (rw [i1]; cbv) | (rw [j1]; cbv))
  refine hcal ⟨_, [], _, _, .inl ⟨rfl, by cbv⟩, hj, by simp, ?_⟩
  cbv
  repeat (first | (rw [hbox]; cbv) | (rw [hsbox]; cbv) | (rw [h3]; cbv))
  exact hQ _ _ trivial (G.Leaves.plain (by cbv) rfl)
theorem refBy_calls (ch : List Bool) : ∀ (t : Tr), t.ok → t.flat.length ≤ 20000 → RefK ch t := by
  intro t
  induction t with
  | lf p =>
    intro ht hm n fl u h0 hn hu0 hu hb
    have hl : (Tr.lf p).flat.length = 1 := rfl
    rw [hl] at hn
    have hn2 : n ≤ 10000000 := by omega
    rcases t0 ht.2 with h | h | h | h | h
    · have e : byT ch (.lf p) n fl u = (bts p.text, u) := by simp [byT, h]
      rw [e]
      exact ref_lf0 ht hm h hn2
    · cases fl
      · have e : byT ch (.lf p) n false u = (lineB n, u) := by simp [byT, h]
        rw [e]
        exact ref_lf1f (fl := false) ht hm h hn2
      · have e : byT ch (.lf p) n true u = ([32], u) := by simp [byT, h]
        rw [e]
        exact ref_lf1t (fl := true) ht hm h hn2
    · cases fl
      · have e : byT ch (.lf p) n false u = (lineB n, u) := by simp [byT, h]
        rw [e]
        exact ref_lf2f (fl := false) ht hm h hn2
      · have e : byT ch (.lf p) n true u = ([], u) := by simp [byT, h]
        rw [e]
        exact ref_lf2t (fl := true) ht hm h hn2
    · have e : byT ch (.lf p) n fl u = (lineB n, u) := by simp [byT, h]
      rw [e]
      exact ref_lf3 ht hm h hn2
    · have e : byT ch (.lf p) n fl u = ([], u) := by simp [byT, h]
      rw [e]
      exact ref_lf7 ht hm h hn2
  | un p t ih =>
    intro ht hm n fl u h0 hn hu0 hu hb
    have hl : (Tr.un p t).flat.length = t.flat.length + 1 := by simp only [Tr.flat, List.length_append, List.length_cons, List.length_nil]
    rw [hl] at hn hu
    have hi := ih ht.2.2 (by omega)
    rcases t1 ht.2.1 with h | h
    · have e : byT ch (.un p t) n fl u = byT ch t (n + p.n) fl u := by simp [byT, h]
      rw [e] at hb ⊢
      have hpn : 0 ≤ p.n ∧ p.n ≤ 100 := by
        have h1 := ht.1
        unfold partOk at h1
        split at h1
        · cases h1
        · simpa [h] using h1
      exact ref_nest ht hm h (ar_add64 (by omega) (by omega)) (hi _ _ _ (by omega) (by omega) hu0 (by omega) hb)
    · have h5 : ¬ p.kind = 5 := by omega
      cases fl
      · have e : byT ch (.un p t) n false u = byT ch t n (chosen ch u) (u + 1) := by simp [byT, h5]
        rw [e] at hb ⊢
        exact ref_gf (fl := false) ht hm h hu0 (by omega) (hi _ _ _ h0 (by omega) (by omega) (by omega) hb)
      · have e : byT ch (.un p t) n true u = byT ch t n true u := by simp [byT, h5]
        rw [e] at hb ⊢
        exact ref_gt (fl := true) ht hm h (hi _ _ _ h0 (by omega) hu0 (by omega) hb)
  | cat p a b iha ihb =>
    intro ht hm n fl u h0 hn hu0 hu hb
    have hl : (Tr.cat p a b).flat.length = a.flat.length + b.flat.length + 1 := by simp only [Tr.flat, List.length_append, List.length_cons, List.length_nil]
    rw [hl] at hn hu
    have hus := byT_used ch a n fl u
    have hb' : ((byT ch a n fl u).1 ++ (byT ch b n fl (byT ch a n fl u).2).1).length ≤ 100000000 := hb
    rw [List.length_append] at hb'
    have h3 := dv_cat (txt (byT ch a n fl u).1) (txt (byT ch b n fl (byT ch a n fl u).2).1) (by rw [size_txt, size_txt]; omega)
    rw [txt_append] at h3
    exact ref_cat ht hm (t2 ht.2.1) h3 (iha ht.2.2.1 (by omega) _ _ _ h0 (by omega) hu0 (by omega) (by omega)) (ihb ht.2.2.2 (by omega) _ _ _ h0 (by omega) (by omega) (by omega) (by omega))
end Go.Proofs.Ytagflbmonlaioaa.D
