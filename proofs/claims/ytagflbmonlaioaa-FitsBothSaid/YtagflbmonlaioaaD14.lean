/- The law FitsBoth: its contract. -/
import Derived.Test.YtagflbmonlaioaaD13
namespace Go.Proofs.Ytagflbmonlaioaa.D
open Go G U K
set_option linter.unusedVariables false
set_option linter.unusedSimpArgs false
set_option maxRecDepth 100000
set_option maxHeartbeats 4000000
theorem flat_hard : ∀ (d : DocT), (flatD d).isSome = !hardD d
  | [] => rfl
  | p :: d => by
    have ih := flat_hard d
    have e : hardD (p :: d) = (decide (p.kind = 3) || hardD d) := rfl
    rw [e]
    simp only [flatD, flatP]
    by_cases h0 : p.kind = 0
    · simp [h0, ih]
    · by_cases h1 : p.kind = 1
      · simp [h1, ih]
      · by_cases h3 : p.kind = 3
        · simp [h3]
        · simp [h0, h1, h3, ih]
theorem lead_flat : ∀ (d : DocT) (bs : List UInt8), flatD d = some bs → (leadD d).1 ≤ (bs.length : Int)
  | [], bs, h => by simp [flatD] at h; subst h; simp [leadD]
  | p :: d, bs, h => by
    simp only [flatD] at h
    split at h
    · cases h
    · rename_i a ha
      obtain ⟨b, hb, rfl⟩ := Option.map_eq_some_iff.1 h
      have ih := lead_flat d b hb
      simp only [leadD, List.length_append]
      unfold flatP at ha
      split at ha
      · rename_i h0
        rw [if_pos h0]
        obtain rfl := Option.some.inj ha
        rw [bts_len]
        show (p.text.size : Int) + (leadD d).1 ≤ _
        omega
      · rename_i h0
        rw [if_neg h0]
        split
        · show (0 : Int) ≤ _
          omega
        · omega
theorem flat_rev : ∀ (d : DocT) (bs : List UInt8), flatD d = some bs → ∃ bs', flatD d.reverse = some bs' ∧ bs'.length = bs.length
  | [], bs, h => ⟨bs, h, rfl⟩
  | p :: d, bs, h => by
    simp only [flatD] at h
    split at h
    · cases h
    · rename_i a ha
      obtain ⟨b, hb, rfl⟩ := Option.map_eq_some_iff.1 h
      obtain ⟨b', hb', hl⟩ := flat_rev d b hb
      refine ⟨b' ++ a, ?_, by simp [hl, Nat.add_comm]⟩
      rw [List.reverse_cons, flatD_append, hb']
      simp [flatD, ha]
theorem tail_flat (d : DocT) (bs : List UInt8) (h : flatD d = some bs) : (tailD d).1 ≤ (bs.length : Int) := by
  obtain ⟨b', h1, h2⟩ := flat_rev d bs h
  have := lead_flat _ _ h1
  unfold tailD
  omega
theorem flat_one {a : DocT} {k n : Int} (h : k ≠ 0 ∧ k ≠ 1 ∧ k ≠ 3) : flatD (a ++ [partK k n]) = flatD a := by
  have : flatP (partK k n) = some [] := by unfold flatP partK; simp [h.1, h.2.1, h.2.2]
  rw [flatD_append]
  simp only [flatD, this]
  cases flatD a <;> simp
theorem cat2 (a b : DocT) : catD [a, b] = (a ++ b) ++ [partK 4 0] := rfl
theorem both_facts {a b : DocT} (ha : fewD a = true) (hb : fewD b = true) (ca : checkD a = 0) (cb : checkD b = 0) (k : Int) (k0 : 0 ≤ k) (k1 : k ≤ 100) :
    (Mild (catD [a, b]) ∧ Mild (groupD a) ∧ Mild (nestD k a)) ∧ (checkD (catD [a, b]) = 0 ∧ checkD (groupD a) = 0 ∧ checkD (nestD k a) = 0) ∧
    flatD (groupD a) = flatD a ∧ flatD (nestD k a) = flatD a ∧ flatD (catD [a, b]) = (flatD a).bind fun x => (flatD b).map (x ++ ·) := by
  obtain ⟨la, ta⟩ := few_facts ha
  obtain ⟨lb, tb⟩ := few_facts hb
  have tk : ∀ x y, (partK x y).text.size ≤ 1000 := fun x y => by show (0 : Nat) ≤ 1000; decide
  have ta' : ∀ p ∈ a, p.text.size ≤ 1000 := fun p hp => Nat.le_trans (ta p hp) (by decide)
  have tb' : ∀ p ∈ b, p.text.size ≤ 1000 := fun p hp => Nat.le_trans (tb p hp) (by decide)
  have m1 : Mild (catD [a, b]) := by
    refine ⟨by rw [cat2]; simp; omega, fun p hp => ?_⟩
    rw [cat2] at hp
    simp only [List.mem_append, List.mem_cons, List.not_mem_nil, or_false] at hp
    rcases hp with (h | h) | rfl
    · exact ta' p h
    · exact tb' p h
    · exact tk _ _
  have m2 : Mild (groupD a) := by
    refine ⟨by unfold groupD; simp; omega, fun p hp => ?_⟩
    unfold groupD at hp
    simp only [List.mem_append, List.mem_cons, List.not_mem_nil, or_false] at hp
    rcases hp with h | rfl
    · exact ta' p h
    · exact tk _ _
  have m3 : Mild (nestD k a) := by
    refine ⟨by unfold nestD; simp; omega, fun p hp => ?_⟩
    unfold nestD at hp
    simp only [List.mem_append, List.mem_cons, List.not_mem_nil, or_false] at hp
    rcases hp with h | rfl
    · exact ta' p h
    · exact tk _ _
  rw [check_ok (by omega)] at ca cb
  refine ⟨⟨m1, m2, m3⟩, ⟨(check_ok m1.1).2 ?_, (check_ok m2.1).2 (group_ok ca), (check_ok m3.1).2 ?_⟩, flat_one (by decide), flat_one (by decide), ?_⟩
  · rw [cat2]
    exact cat_ok ca (by simpa using chk_more (k := 1) (by decide) b 0 1 cb) (by decide)
  · rw [nest_ok k ca, if_pos]
    simp [k0, k1]
  · rw [cat2, flat_one (by decide), flatD_append]
theorem hard_cat (a b : DocT) : hardD (catD [a, b]) = (hardD a || hardD b) := by
  rw [cat2]
  simp [hardD, partK]
theorem fitsBoth_calls (a b : DocT) (m : Nat) (hmm : m < 256) : ACalls Try.prog 7 [.ro (a.map partC), .ro (b.map partC), .flat (.int .u8 (m : Int))] (fun _ => .flat (.bool true)) (fun _ => []) := by
  have hk0 : 0 ≤ ((m : Int) % 100) := by omega
  have hk1 : ((m : Int) % 100) ≤ 100 := by omega
  have hrm := rem_u8 (m : Int) 100 (by omega) (by decide)
  have hcvt := conv_u8 ((m : Int) % 100) hk0 (by omega)
  generalize ((m : Int) % 100) = k at hk0 hk1 hrm hcvt
  have hcA := awakeF_calls
  have hcFa := fewD_calls a
  have hcFb := fewD_calls b
  have hfa := @few_mild a
  have hfb := @few_mild b
  have hcRa := refCheck_calls a
  have hcRb := refCheck_calls b
  have hB : fewD a = true → fewD b = true → decide (checkD a = 0) = true → decide (checkD b = 0) = true → _ := fun h1 h2 h3 h4 => both_facts h1 h2 (of_decide_eq_true h3) (of_decide_eq_true h4) k hk0 hk1
  have hcWa := width_calls a
  have hcWb := width_calls b
  have hcC := cat_calls a [b]
  have hcWc := width_calls (catD [a, b])
  have hcG := group_calls a
  have hcWg := width_calls (groupD a)
  have hcN := nest_calls k a
  have hcWn := width_calls (nestD k a)
  have hcLa := lead_calls a
  have hcTb := tail_calls b
  have hcH := hard_calls (catD [a, b])
  obtain ⟨A, hA⟩ : ∃ X, X = a.map partC := ⟨_, rfl⟩
  obtain ⟨B, hBB⟩ : ∃ X, X = b.map partC := ⟨_, rfl⟩
  obtain ⟨C, hC⟩ : ∃ X, X = (catD [a, b]).map partC := ⟨_, rfl⟩
  obtain ⟨N, hN⟩ : ∃ X, X = (nestD k a).map partC := ⟨_, rfl⟩
  obtain ⟨Gp, hGp⟩ : ∃ X, X = (groupD a).map partC := ⟨_, rfl⟩
  obtain ⟨nc, hnc⟩ : ∃ n, n = (catD [a, b]).length := ⟨_, rfl⟩
  obtain ⟨n1, hn1⟩ : ∃ n, n = a.length + 1 := ⟨_, rfl⟩
  have hCf := flat_of hC
  have hNf := flat_of hN
  have hGf := flat_of hGp
  have hCn : nc = C.length := by rw [hC, List.length_map]; exact hnc
  have hNn : n1 = N.length := by rw [hN, List.length_map, hn1]; unfold nestD; rw [List.length_append]; rfl
  have hGn : n1 = Gp.length := by rw [hGp, List.length_map, hn1]; unfold groupD; rw [List.length_append]; rfl
  have hXd : [a, b].map docC = [[.ro A], [.ro B]] := by rw [hA, hBB]; rfl
  rw [← hA, ← hBB]
  rw [← hA] at hcFa hcRa hcWa hcG hcN hcLa
  rw [← hBB] at hcFb hcRb hcWb hcTb
  rw [← hC] at hcWc hcH
  rw [← hGp] at hcG hcWg
  rw [← hN] at hcN hcWn
  have hla : ∀ bs, flatD a = some bs → (leadD a).1 ≤ (bs.length : Int) := lead_flat a
  have htb : ∀ bs, flatD b = some bs → (tailD b).1 ≤ (bs.length : Int) := tail_flat b
  have hfl : ∀ bs, flatD a = some bs → a.length ≤ 20000 → (∀ p ∈ a, p.text.size ≤ 1000) → bs.length ≤ 20000000 := fun bs h h1 h2 => by have := flatD_len h h2; omega
  have hfl2 : ∀ bs, flatD b = some bs → b.length ≤ 20000 → (∀ p ∈ b, p.text.size ≤ 1000) → bs.length ≤ 20000000 := fun bs h h1 h2 => by have := flatD_len h h2; omega
  have hhc : (flatD a).isSome = false ∨ (flatD b).isSome = false → hardD (catD [a, b]) = true := fun h => by
    rw [flat_hard, flat_hard] at h
    rw [hard_cat]
    rcases h with h | h <;> simp at h <;> simp [h]
  unfold leadV at hcLa hcTb
  generalize hfwa : fewD a = fa at hcFa hfa hB
  generalize hfwb : fewD b = fb at hcFb hfb hB
  refine acalls_symF tabF_ok fn7 rfl rfl rfl (by kernel_rfl) ?_
  have hfin : ∀ st, resA Try.prog Try.f7 st = some (.flat (.bool true)) → G.Leaves Try.prog Try.f7 (fun _ => .flat (.bool true)) (fun _ => []) st := fun st h => G.Leaves.plain h rfl
  rintro ⟨lt, le, eq, se, ar, dv, una, conv, len, sln, nat, nth, ixs, cel, sto, app, cpy, slc, mak, ixv, oth, dk, ib, call⟩ hS hm Q hQ
  obtain ⟨hlt, hle, heq, hse, har, hdv, huna, hconv, hlen, hsln, hnat, hnth, hixs, hcel, hsto, happ, hcpy, hslc, hmak, hixv, hoth, hdk, hib, hcall⟩ := Sym.mk.inj hS
  clear hS
  have hnt : ∀ n : Nat, nat n = U.natI n := fun n => by rw [hnat]; rfl
  have hbox : ∀ e c off, cel (some ⟨e, [c]⟩) 0 off = if off ≤ c.length then some (c.drop off) else none := fun e c off => by rw [hcel]; rfl
  have hsbox : ∀ e c off sz y, sto (some ⟨e, [c]⟩) 0 off sz y = if y.cells.length = sz ∧ off + sz ≤ c.length ∧ y.cells.all AV.one = true then some ⟨e, [spl c off y.cells]⟩ else none := fun e c off sz y => by rw [hsto]; rfl
  have hcaw : ∀ {f args T base K}, CallK Try.prog f args T base K → call f args T base K := fun h => by rw [hcall]; exact h
  have hcal : ∀ {f args T base} {K : AV → Table → List Nat → List Nat → Prop}, (∃ args' ids val rows, Hands T ids args args' (val base) (rows base) ∧ ACalls Try.prog f args' val rows ∧ (rows base).length ≤ 8 ∧ K (val base) (adopt T base (rows base)) ids ((List.range (rows base).length).map (base + ·))) → call f args T base K := fun h => hcaw (call_own h)
  have heqr : ∀ v, eq v v = true := fun v => by rw [heq]; exact decide_eq_true rfl
  have e1 : eq (checkD a) 0 = decide (checkD a = 0) := by rw [heq]
  have e2 : eq (checkD b) 0 = decide (checkD b = 0) := by rw [heq]
  have hcWa : decide (checkD a = 0) = true → a.length ≤ 20000 → (∀ p ∈ a, p.text.size ≤ 1000) → ACalls Try.prog 28 [.ro A] (fun _ => .flat (.int .i64 (widthO (flatD a)))) (fun _ => []) := fun h l t => by
    have := hcWa l t
    rw [if_pos (of_decide_eq_true h)] at this
    exact this
  have hcWb : decide (checkD b = 0) = true → b.length ≤ 20000 → (∀ p ∈ b, p.text.size ≤ 1000) → ACalls Try.prog 28 [.ro B] (fun _ => .flat (.int .i64 (widthO (flatD b)))) (fun _ => []) := fun h l t => by
    have := hcWb l t
    rw [if_pos (of_decide_eq_true h)] at this
    exact this
  generalize decide (checkD a = 0) = c1 at e1 hB hcWa
  generalize decide (checkD b = 0) = c2 at e2 hB hcWb
  generalize checkD a = ka at e1 hcRa
  generalize checkD b = kb at e2 hcRb
  have hrm2 : dv .rem 5 (.flat (.int .u8 (m : Int))) (.flat (.int .u8 100)) = some (.flat (.int .u8 k)) := by rw [hdv]; exact hrm
  have hcv2 : ∀ T, conv T 5 3 (.flat (.int .u8 k)) = some (.flat (.int .i64 k)) := fun T => by rw [hconv]; exact hcvt
  clear hrm hcvt
  generalize (m : Int) = mi at hrm2
  cbv
  refine hcal ⟨_, [], _, _, .inl ⟨rfl, by cbv⟩, hcA, by simp, ?_⟩
  cbv
  refine hcal ⟨_, [], _, _, .inl ⟨rfl, by cbv⟩, hcFa, by simp, ?_⟩
  cbv
  cases fa
  · cbv
    exact hQ _ _ trivial (hfin _ (by cbv))
  cbv
  refine hcal ⟨_, [], _, _, .inl ⟨rfl, by cbv⟩, hcFb, by simp, ?_⟩
  cbv
  cases fb
  · cbv
    exact hQ _ _ trivial (hfin _ (by cbv))
  obtain ⟨la, ta⟩ := hfa rfl
  obtain ⟨lb, tb⟩ := hfb rfl
  replace hcRa := hcRa (Nat.le_trans la (by decide))
  replace hcRb := hcRb (Nat.le_trans lb (by decide))
  cbv
  refine hcal ⟨_, [], _, _, .inl ⟨rfl, by cbv⟩, hcRa, by simp, ?_⟩
  cbv
  rw [e1]
  cases c1
  · cbv
    exact hQ _ _ trivial (hfin _ (by cbv))
  cbv
  refine hcal ⟨_, [], _, _, .inl ⟨rfl, by cbv⟩, hcRb, by simp, ?_⟩
  cbv
  rw [e2]
  cases c2
  · cbv
    exact hQ _ _ trivial (hfin _ (by cbv))
  obtain ⟨⟨m1, m2, m3⟩, ⟨k1, k2, k3⟩, f1, f2, f3⟩ := hB rfl rfl rfl rfl
  replace hcWa := hcWa rfl la ta
  replace hcWb := hcWb rfl lb tb
  replace hcC := hcC (by simp) (Nat.le_trans m1.1 (by decide)) hnc
  replace hcWc := hcWc m1.1 m1.2
  replace hcG := hcG (Nat.le_trans la (by decide)) hn1
  replace hcWg := hcWg m2.1 m2.2
  replace hcN := hcN (Nat.le_trans la (by decide)) hn1
  replace hcWn := hcWn m3.1 m3.2
  replace hcLa := hcLa la ta
  replace hcTb := hcTb lb tb
  replace hcH := hcH (Nat.le_trans m1.1 (by decide))
  rw [hXd, ← hC] at hcC
  rw [if_pos k1, f3] at hcWc
  rw [if_pos k2, f1] at hcWg
  rw [if_pos k3, f2] at hcWn
  replace hfl := fun bs h => hfl bs h la ta
  replace hfl2 := fun bs h => hfl2 bs h lb tb
  clear m1 m2 m3 k1 k2 k3 f1 f2 f3 hB
  generalize flatD a = oa at hcWa hcWc hcWg hcWn hla hhc hfl
  generalize flatD b = ob at hcWb hcWc htb hhc hfl2
  have hxw : lt (widthO oa) 0 = !oa.isSome := by rw [hlt]; cases oa with | none => decide | some bs => exact decide_eq_false (show ¬ (bs.length : Int) < 0 by omega)
  have hyw : lt (widthO ob) 0 = !ob.isSome := by rw [hlt]; cases ob with | none => decide | some bs => exact decide_eq_false (show ¬ (bs.length : Int) < 0 by omega)
  have hadd : oa.isSome = true → ob.isSome = true → ar .add .i64 (widthO oa) (widthO ob) = widthO (oa.bind fun x => ob.map (x ++ ·)) := fun h1 h2 => by
    obtain ⟨x, rfl⟩ := Option.isSome_iff_exists.1 h1
    obtain ⟨y, rfl⟩ := Option.isSome_iff_exists.1 h2
    have := hfl x rfl
    have := hfl2 y rfl
    show ar .add .i64 (x.length : Int) (y.length : Int) = ((x ++ y).length : Int)
    rw [har, ar_add64 (by omega) (by omega), List.length_append]; omega
  have hbn : oa.isSome = false ∨ ob.isSome = false → widthO (oa.bind fun x => ob.map (x ++ ·)) = -1 := fun h => by
    cases oa with
    | none => rfl
    | some x => cases ob with
      | none => rfl
      | some y => rcases h with h | h <;> cases h
  have hl1 : oa.isSome = true → le (leadD a).1 (widthO oa) = true := fun h => by
    obtain ⟨x, rfl⟩ := Option.isSome_iff_exists.1 h
    rw [hle]; exact decide_eq_true (hla x rfl)
  have hl2 : ob.isSome = true → le (tailD b).1 (widthO ob) = true := fun h => by
    obtain ⟨x, rfl⟩ := Option.isSome_iff_exists.1 h
    rw [hle]; exact decide_eq_true (htb x rfl)
  clear hla htb hfl hfl2
  generalize widthO (oa.bind fun x => ob.map (x ++ ·)) = wc at hcWc hadd hbn
  generalize widthO oa = wa at hcWa hcWg hcWn hxw hadd hl1
  generalize widthO ob = wb at hcWb hyw hadd hl2
  generalize oa.isSome = sa at hxw hadd hbn hl1 hhc
  generalize ob.isSome = sb at hyw hadd hbn hl2 hhc
  generalize hardD (catD [a, b]) = hd at hcH hhc
  generalize leadD a = r1 at hcLa hl1
  generalize tailD b = r2 at hcTb hl2
  obtain ⟨x1, x2⟩ := r1
  obtain ⟨y1, y2⟩ := r2
  dsimp only at hcLa hcTb hl1 hl2
  cbv
  refine hcal ⟨_, [], _, _, .inl ⟨rfl, by cbv⟩, hcWa, by simp, ?_⟩
  cbv
  refine hcal ⟨_, [], _, _, .inl ⟨rfl, by cbv⟩, hcWb, by simp, ?_⟩
  cbv
  refine hcal ⟨[.ro [[.ro A], [.ro B]]], [216], _, _, hands_deep ⟨deep_row (by simp) (by rfl) rfl (by intro c hc x hx; simp at hc; rcases hc with rfl | rfl <;> (simp at hx; subst hx; rfl)), trivial⟩ rfl (noRo_flat hCf), hcC, by simp, ?_⟩
  cbv
  refine hcal ⟨[.ro C], [224], _, _, hands_deep ⟨deep_row (by simp) (by rfl) hCn hCf.read, trivial⟩ rfl (fun r hr => by cases hr), hcWc, by simp, ?_⟩
  cbv
  refine hcal ⟨_, [], _, _, .inl ⟨rfl, by cbv⟩, hcG, by simp, ?_⟩
  cbv
  refine hcal ⟨[.ro Gp], [272], _, _, hands_deep ⟨deep_row (by simp) (by rfl) hGn hGf.read, trivial⟩ rfl (fun r hr => by cases hr), hcWg, by simp, ?_⟩
  cbv
  rw [heqr]; cbv
  rw [hrm2]; cbv
  rw [hcv2]; cbv
  refine hcal ⟨_, [], _, _, .inl ⟨rfl, by cbv⟩, hcN, by simp, ?_⟩
  cbv
  refine hcal ⟨[.ro N], [344], _, _, hands_deep ⟨deep_row (by simp) (by rfl) hNn hNf.read, trivial⟩ rfl (fun r hr => by cases hr), hcWn, by simp, ?_⟩
  cbv
  rw [heqr]; cbv
  refine hcal ⟨_, [], _, _, .inl ⟨rfl, by cbv⟩, hcLa, by simp, ?_⟩
  cbv
  refine hcal ⟨_, [], _, _, .inl ⟨rfl, by cbv⟩, hcTb, by simp, ?_⟩
  cbv
  rw [hxw]
  cases sa
  · obtain rfl := hbn (.inl rfl)
    have hh := hhc (.inl rfl)
    rw [hh] at hcH
    cbv
    rw [heqr]; cbv
    refine hcal ⟨[.ro [[.ro A], [.ro B]]], [584], _, _, hands_deep ⟨deep_row (by simp) (by rfl) rfl (by intro c hc x hx; simp at hc; rcases hc with rfl | rfl <;> (simp at hx; subst hx; rfl)), trivial⟩ rfl (noRo_flat hCf), hcC, by simp, ?_⟩
    cbv
    refine hcal ⟨[.ro C], [592], _, _, hands_deep ⟨deep_row (by simp) (by rfl) hCn hCf.read, trivial⟩ rfl (fun r hr => by cases hr), hcH, by simp, ?_⟩
    cbv
    exact hQ _ _ trivial (hfin _ (by cbv))
  cbv
  rw [hyw]
  cases sb
  · obtain rfl := hbn (.inr rfl)
    have hh := hhc (.inr rfl)
    rw [hh] at hcH
    cbv
    rw [heqr]; cbv
    refine hcal ⟨[.ro [[.ro A], [.ro B]]], [584], _, _, hands_deep ⟨deep_row (by simp) (by rfl) rfl (by intro c hc x hx; simp at hc; rcases hc with rfl | rfl <;> (simp at hx; subst hx; rfl)), trivial⟩ rfl (noRo_flat hCf), hcC, by simp, ?_⟩
    cbv
    refine hcal ⟨[.ro C], [592], _, _, hands_deep ⟨deep_row (by simp) (by rfl) hCn hCf.read, trivial⟩ rfl (fun r hr => by cases hr), hcH, by simp, ?_⟩
    cbv
    exact hQ _ _ trivial (hfin _ (by cbv))
  have hadd := hadd rfl rfl
  cbv
  rw [hadd]; cbv
  rw [heqr]; cbv
  rw [hl1 rfl]; cbv
  rw [hl2 rfl]; cbv
  exact hQ _ _ trivial (hfin _ (by cbv))
end Go.Proofs.Ytagflbmonlaioaa.D
