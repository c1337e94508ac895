/- The law ItemNext: its contract. -/
import Derived.Test.YtnceadbfgpiaaaaJ9
namespace Go.Proofs.Ytnceadbfgpiaaaa.J
open Go G U K I
set_option linter.unusedVariables false
set_option linter.unusedSimpArgs false
set_option maxRecDepth 100000
set_option maxHeartbeats 4000000
theorem fn4 : Try.prog.funcs[4]? = some Try.f4 := by kernel_rfl
theorem neq_sym (s : SymT) : dvOf Try.prog .neq 46 (.agg (symC s)) (.agg (symC s)) = some (.flat (.bool false)) := by
  rw [dvOf_eq]
  intro p q
  have h : evBin Try.prog .neq 46 p q (.agg (symC s)) (.agg (symC s)) = some (.flat (.bool (!(s.sort == s.sort && (s.n == s.n && true))))) := by kernel_rfl
  rw [h, beq_self_eq_true, beq_self_eq_true]; rfl
theorem neq_b (b : Bool) : dvOf Try.prog .neq 4 (.flat (.bool b)) (.flat (.bool b)) = some (.flat (.bool false)) := by
  rw [dvOf_eq]
  intro x y
  cases b <;> kernel_rfl
theorem itemNext_calls (g : GramT) (x : ItemT) : ACalls Try.prog 4 [gramV g, .agg (itemC x)] (fun _ => .flat (.bool true)) (fun _ => []) := by
  have hcA := awake_calls
  have hcF := fewG_calls g
  have hcR := ref_calls [x] (by simp)
  obtain ⟨BL, hBL⟩ : ∃ B, B = bodyL g x.prod := ⟨_, rfl⟩
  obtain ⟨BB, hBB⟩ : ∃ B, B = BL.map symC := ⟨_, rfl⟩
  obtain ⟨RR, hRR⟩ : ∃ B, B = (restL g x).map symC := ⟨_, rfl⟩
  have hall : fewG g = true → BL.length ≤ 1000 ∧ ACalls Try.prog 15 [gramV g, .flat (.int .i64 x.prod)] (fun _ => .tup [.ro BB, .flat (.bool (bodyOk g x.prod))]) (fun _ => []) ∧ ACalls Try.prog 16 [gramV g, .flat (.int .i64 x.prod)] (fun _ => .tup [.ro BB, .flat (.bool (bodyOk g x.prod))]) (fun _ => []) ∧
      ACalls Try.prog 17 [gramV g, .agg (itemC x)] (fun _ => .tup [.agg (symC (nextS g x)), .flat (.bool (nextOk g x))]) (fun _ => []) ∧ ACalls Try.prog 18 [gramV g, .agg (itemC x)] (fun _ => .tup [.agg (symC (nextS g x)), .flat (.bool (nextOk g x))]) (fun _ => []) ∧
      ACalls Try.prog 19 [gramV g, .agg (itemC x)] (fun _ => .ro RR) (fun _ => []) ∧ ACalls Try.prog 20 [gramV g, .agg (itemC x)] (fun _ => .flat (.bool (wholeB g x))) (fun _ => []) := fun h => by
    have hb : ∀ p ∈ g.prods, p.body.length ≤ 1000 := fun p hp => Nat.le_trans ((few_facts h).2.2.2 p hp) (by decide)
    subst hBL hBB hRR
    exact ⟨body_len hb _, body_calls g _, refBody_calls g _, next_calls g x hb, refNext_calls g x hb, rest_calls g x hb, whole_calls g x hb⟩
  have hw1 : bodyOk g x.prod = false → wholeB g x = false := fun h => by unfold wholeB; rw [h]; rfl
  have hw2 : bodyOk g x.prod = true → wholeB g x = decide (x.dot = (BL.length : Int)) := fun h => by unfold wholeB; rw [h, hBL]; rfl
  have hr1 : ¬ (0 ≤ x.dot ∧ x.dot < (BL.length : Int)) → RR.length = 0 := fun h => by
    rw [hRR]; unfold restL
    rw [if_neg (fun h2 => h (by rw [hBL]; omega))]; rfl
  have hr2 : 0 ≤ x.dot → x.dot < (BL.length : Int) → (RR.length : Int) = (BL.length : Int) - 1 - x.dot := fun h0 h1 => by
    rw [hRR, List.length_map]
    unfold restL
    rw [← hBL]
    split
    · rw [List.length_drop]; omega
    · simp only [List.length_nil]; omega
  have hr3 : ∀ i : Int, 0 ≤ i → i < (RR.length : Int) → 0 ≤ x.dot → ∃ s : SymT, nthE RR i 2 = some (.rp (symC s)) ∧ nthE BB (x.dot + 1 + i) 2 = some (.rp (symC s)) := fun i h0 h1 h2 => by
    have h3 : restL g x = if 0 ≤ x.dot ∧ x.dot < (BL.length : Int) - 1 then BL.drop (x.dot + 1).toNat else [] := by rw [hBL]; rfl
    rw [hRR, List.length_map, h3] at h1
    rw [hRR, hBB, h3]
    split at h1
    · rename_i hc
      rw [if_pos hc]
      rw [List.length_drop] at h1
      refine ⟨atI (BL.drop (x.dot + 1).toNat) i, nth_map (fun _ => rfl) h0 (by rw [List.length_drop]; omega), ?_⟩
      rw [nth_map (f := symC) (sz := 2) (fun _ => rfl) (by omega) (by omega)]
      have : atI BL (x.dot + 1 + i) = atI (BL.drop (x.dot + 1).toNat) i := by
        unfold atI
        rw [List.getD, List.getD, List.getElem?_drop, show (x.dot + 1 + i).toNat = (x.dot + 1).toNat + i.toNat by omega]
      rw [this]
    · simp at h1; omega
  have hb1 : ∀ i : Int, 0 ≤ i → i < (BL.length : Int) → ∃ s : SymT, nthE BB i 2 = some (.rp (symC s)) := fun i h0 h1 => ⟨_, by rw [hBB]; exact nth_map (fun _ => rfl) h0 h1⟩
  have hBl : lenE BB = (BL.length : Int) := by rw [hBB, len_map]
  generalize hf0 : fewG g = fw at hcF hall
  unfold gramV gramL at *
  clear hBB hRR hBL hf0
  generalize g.rules.map ruleC = R at *
  generalize g.sorts.map strC = S at *
  generalize g.prods.map prodC = D at *
  generalize g.levels.map levC = V at *
  generalize g.start = start at *
  generalize bodyOk g x.prod = ok at *
  generalize nextOk g x = no at *
  generalize nextS g x = ns at *
  generalize wholeB g x = wb at *
  generalize BL.length = bn at *
  obtain ⟨nb, nv⟩ := ns
  obtain ⟨xa, xb, xc⟩ := x
  have hdS := neq_sym ⟨nb, nv⟩
  have hdS2 := neq_sym
  unfold symC itemC at *
  dsimp only at hall hw2 hr1 hr2 hr3 hdS ⊢
  change ACalls Try.prog 11 [.ro [[.flat (.int .i64 xa), .flat (.int .i64 xb), .flat (.int .u64 (xc : Int))]]] (fun k => .sl k 0 1) (fun _ => [⟨41, [[.flat (.int .i64 xa), .flat (.int .i64 xb), .flat (.int .u64 (xc : Int))]]⟩]) at hcR
  generalize (xc : Int) = xi at *
  have hRf : flatRow [[AV.flat (.int .i64 xa), .flat (.int .i64 xb), .flat (.int .u64 xi)]] := fun c hc y hy => by
    simp only [List.mem_cons, List.not_mem_nil, or_false] at hc
    subst hc
    simp only [List.mem_cons, List.not_mem_nil, or_false] at hy
    rcases hy with rfl | rfl | rfl <;> exact ⟨rfl, rfl⟩
  refine acalls_symF tabF_ok fn4 rfl rfl rfl (by kernel_rfl) ?_
  have hfin : ∀ st, resA Try.prog Try.f4 st = some (.flat (.bool true)) → G.Leaves Try.prog Try.f4 (fun _ => .flat (.bool true)) (fun _ => []) st := fun st h => G.Leaves.plain h rfl
  rintro ⟨lt, le, eq, se, ar, dv, una, conv, len, sln, nat, nth, ixs, cel, sto, app, cpy, slc, mak, ixv, oth, dk, ib, call⟩ hS hm Q hQ
  obtain ⟨hlt, hle, heq, hse, har, hdv, huna, hconv, hlen, hsln, hnat, hnth, hixs, hcel, hsto, happ, hcpy, hslc, hmak, hixv, hoth, hdk, hib, hcall⟩ := Sym.mk.inj hS
  clear hS
  have hnt : ∀ n : Nat, nat n = U.natI n := fun n => by rw [hnat]; rfl
  have hbox : ∀ e c off, cel (some ⟨e, [c]⟩) 0 off = if off ≤ c.length then some (c.drop off) else none := fun e c off => by rw [hcel]; rfl
  have hsbox : ∀ e c off sz y, sto (some ⟨e, [c]⟩) 0 off sz y = if y.cells.length = sz ∧ off + sz ≤ c.length ∧ y.cells.all AV.one = true then some ⟨e, [spl c off y.cells]⟩ else none := fun e c off sz y => by rw [hsto]; rfl
  have hcaw : ∀ {f args T base K}, CallK Try.prog f args T base K → call f args T base K := fun h => by rw [hcall]; exact h
  have hcal : ∀ {f args T base} {K : AV → Table → List Nat → List Nat → Prop}, (∃ args' ids val rows, Hands T ids args args' (val base) (rows base) ∧ ACalls Try.prog f args' val rows ∧ (rows base).length ≤ 8 ∧ K (val base) (adopt T base (rows base)) ids ((List.range (rows base).length).map (base + ·))) → call f args T base K := fun h => hcaw (call_own h)
  have dS : dv .neq 46 (.agg [.flat (.bool nb), .flat (.int .i64 nv)]) (.agg [.flat (.bool nb), .flat (.int .i64 nv)]) = some (.flat (.bool false)) := by rw [hdv]; exact hdS
  have dS2 : ∀ (b : Bool) (v : Int), dv .neq 46 (.agg [.flat (.bool b), .flat (.int .i64 v)]) (.agg [.flat (.bool b), .flat (.int .i64 v)]) = some (.flat (.bool false)) := fun b v => by rw [hdv]; exact hdS2 ⟨b, v⟩
  have dB : ∀ b, dv .neq 4 (.flat (.bool b)) (.flat (.bool b)) = some (.flat (.bool false)) := fun b => by rw [hdv]; exact neq_b b
  have heqr : ∀ v, eq v v = true := fun v => by rw [heq]; exact decide_eq_true rfl
  have hix : ∀ id c, ixs (some ⟨41, [c]⟩) id 0 1 0 3 = some (.ptr id 0 0) := fun id c => by rw [hixs]; exact own_ix (i := 0) c41 (by decide) (by decide) id
  have eA : lt xb 0 = decide (xb < 0) := by rw [hlt]
  have eB : le (len BB) xb = decide ((bn : Int) ≤ xb) := by rw [hle, hlen, hBl]
  have eC : eq xb (len BB) = decide (xb = (bn : Int)) := by rw [heq, hlen, hBl]
  have w1 : ok = false → wb = false := hw1
  have w2 : ok = true → wb = eq xb (len BB) := fun h => by rw [hw2 h, eC]
  have r1 : lt xb 0 = true ∨ le (len BB) xb = true → eq (len RR) 0 = true := fun h => by
    have hz := hr1 (by
      rcases h with h | h
      · have := of_decide_eq_true (eA ▸ h); omega
      · have := of_decide_eq_true (eB ▸ h); omega)
    rw [heq, hlen]; exact decide_eq_true (by show (RR.length : Int) = 0; omega)
  have r2 : bn ≤ 1000 → lt xb 0 = false → le (len BB) xb = false → ∃ b1 b2, ar .sub .i64 (len BB) 1 = b1 ∧ ar .sub .i64 b1 xb = b2 ∧ eq (len RR) b2 = true := fun hn h1 h2 => by
    have h1 := of_decide_eq_false (eA ▸ h1)
    have h2 := of_decide_eq_false (eB ▸ h2)
    refine ⟨(bn : Int) - 1, (bn : Int) - 1 - xb, by rw [har, hlen, hBl]; exact ar_sub64 (by omega) (by omega), by rw [har]; exact ar_sub64 (by omega) (by omega), ?_⟩
    rw [heq, hlen]
    exact decide_eq_true (hr2 (by omega) (by omega))
  have hB1 : ∀ i, 0 ≤ i → lt i (len BB) = true → bn ≤ 1000 → ∃ (b : Bool) (v : Int), nth BB i 2 = some (.rp [.flat (.bool b), .flat (.int .i64 v)]) ∧ ar .add .i64 i 1 = i + 1 ∧ 0 ≤ i + 1 ∧ (bn - (i + 1).toNat < bn - i.toNat) := fun i h0 hc hn => by
    rw [hlt, hlen, hBl] at hc
    have hc := of_decide_eq_true hc
    obtain ⟨s, hs⟩ := hb1 i h0 hc
    exact ⟨_, _, by rw [hnth]; exact hs, by rw [har, ar_add64 (by omega) (by omega)], by omega, by omega⟩
  have hR1 : bn ≤ 1000 → lt xb 0 = false → le (len BB) xb = false → ∃ d1, ar .add .i64 xb 1 = d1 ∧ ∀ i, 0 ≤ i → lt i (len RR) = true → ∃ (b : Bool) (v d2 : Int), nth RR i 2 = some (.rp [.flat (.bool b), .flat (.int .i64 v)]) ∧ ar .add .i64 d1 i = d2 ∧ nth BB d2 2 = some (.rp [.flat (.bool b), .flat (.int .i64 v)]) ∧ ar .add .i64 i 1 = i + 1 ∧ 0 ≤ i + 1 ∧ (RR.length - (i + 1).toNat < RR.length - i.toNat) := fun hn h1 h2 => by
    have h1 := of_decide_eq_false (eA ▸ h1)
    have h2 := of_decide_eq_false (eB ▸ h2)
    have hrl := hr2 (by omega) (by omega)
    refine ⟨xb + 1, by rw [har]; exact ar_add64 (by omega) (by omega), fun i h0 hc => ?_⟩
    rw [hlt, hlen] at hc
    have hc : i < (RR.length : Int) := of_decide_eq_true hc
    obtain ⟨s, q1, q2⟩ := hr3 i h0 hc (by omega)
    exact ⟨_, _, xb + 1 + i, by rw [hnth]; exact q1, by rw [har]; exact ar_add64 (by omega) (by omega), by rw [hnth]; exact q2, by rw [har, ar_add64 (by omega) (by omega)], by omega, by omega⟩
  generalize RR.length = rn at hR1
  clear hw1 hw2 hr1 hr2 hr3 hb1 hBl hdS hdS2 eA eB eC
  cbv
  refine hcal ⟨_, [], _, _, .inl ⟨rfl, by cbv⟩, hcA, by simp, ?_⟩
  cbv
  repeat (first | (rw [hbox]; cbv) | (rw [hsbox]; cbv))
  refine hcal ⟨_, [], _, _, .inl ⟨rfl, by cbv⟩, hcF, by simp, ?_⟩
  cbv
  cases fw
  · cbv
    exact hQ _ _ trivial (hfin _ (by cbv))
  obtain ⟨hn, c1, c2, c3, c4, c5, c6⟩ := hall rfl
  have hz0 : (0 : Int) ≤ 0 := Int.le_refl 0
  cbv
  repeat (first | (rw [hbox]; cbv) | (rw [hsbox]; cbv))
  refine hcal ⟨[.ro [[.flat (.int .i64 xa), .flat (.int .i64 xb), .flat (.int .u64 xi)]]], [72], _, _, hands_deep ⟨deep_row (by simp) (by rfl) rfl hRf.read, trivial⟩ rfl (noRo_flat hRf), hcR, by simp, ?_⟩
  cbv
  repeat (first | (rw [hbox]; cbv) | (rw [hsbox]; cbv) | (rw [hix]; cbv))
  refine hcal ⟨_, [], _, _, .inl ⟨rfl, by cbv⟩, c1, by simp, ?_⟩
  cbv
  repeat (first | (rw [hbox]; cbv) | (rw [hsbox]; cbv))
  refine hcal ⟨_, [], _, _, .inl ⟨rfl, by cbv⟩, c2, by simp, ?_⟩
  cbv
  repeat (first | (rw [hbox]; cbv) | (rw [hsbox]; cbv))
  refine hcal ⟨_, [], _, _, .inl ⟨rfl, by cbv⟩, c3, by simp, ?_⟩
  cbv
  repeat (first | (rw [hbox]; cbv) | (rw [hsbox]; cbv))
  refine hcal ⟨_, [], _, _, .inl ⟨rfl, by cbv⟩, c4, by simp, ?_⟩
  cbv
  repeat (first | (rw [hbox]; cbv) | (rw [hsbox]; cbv))
  refine hcal ⟨_, [], _, _, .inl ⟨rfl, by cbv⟩, c5, by simp, ?_⟩
  cbv
  repeat (first | (rw [hbox]; cbv) | (rw [hsbox]; cbv))
  rw [dB]; cbv
  repeat (first | (rw [hbox]; cbv) | (rw [hsbox]; cbv))
  rw [heqr]; cbv
  repeat (first | (rw [hbox]; cbv) | (rw [hsbox]; cbv))
  rw [dS]; cbv
  repeat (first | (rw [hbox]; cbv) | (rw [hsbox]; cbv))
  rw [dB]; cbv
  repeat (first | (rw [hbox]; cbv) | (rw [hsbox]; cbv))
  refine hcal ⟨_, [], _, _, .inl ⟨rfl, by cbv⟩, c6, by simp, ?_⟩
  cbv
  repeat (first | (rw [hbox]; cbv) | (rw [hsbox]; cbv))
  cases ok
  · have := w1 rfl
    subst this
    cbv
    repeat (first | (rw [hbox]; cbv) | (rw [hsbox]; cbv))
    rw [dB]; cbv
    refine MW_loop hm [8] [3, 6, 8, 14, 15] 16 (by simp) (fun mz st => ∃ (i : Int), 0 ≤ i ∧ mz = bn - i.toNat ∧ st = stOf [.dead, .dead, .dead, .ptr 0 0 0, .dead, .dead, .ro BB, .dead, .ro BB, .dead, .dead, .dead, .dead, .dead, .ro RR, .flat (.int .i64 i)] [some ⟨28, [[.flat (.int .i64 xa), .flat (.int .i64 xb), .flat (.int .u64 xi)]]⟩] 1) (bn - (0 : Int).toNat) ?_ ?_
    · exact ⟨0, hz0, rfl, cut_eq (by cbv) (cutRows_cons (by rfl) (by simp [closedAll, closedIn]) rfl)⟩
    rintro mz st ⟨i, hi, hmz, rfl⟩
    cases hc : lt i (len BB)
    rotate_left
    · obtain ⟨b, v, q1, q2, q3, q4⟩ := hB1 i hi hc hn
      generalize i + 1 = i2 at q2 q3 q4
      cbv
      rw [hc]; cbv
      refine ⟨by rw [hdk]; kernel_rfl, ?_⟩
      repeat (first | (rw [hbox]; cbv) | (rw [hsbox]; cbv) | (rw [q1]; cbv))
      rw [dS2]; cbv
      refine ⟨by rw [hib]; kernel_rfl, ?_⟩
      cbv
      rw [q2]
      exact ⟨[0], [3, 6, 8, 14, 15], 16, bn - i2.toNat, hmz ▸ q4, by simp, i2, q3, rfl, cut_eq (by cbv) (cutRows_cons (by rfl) (by simp [closedAll, closedIn]) rfl)⟩
    cases e1 : lt xb 0
    rotate_left
    · have hr := r1 (.inl e1)
      cbv
      rw [hc]; cbv
      repeat (first | (rw [hbox]; cbv) | (rw [hsbox]; cbv))
      rw [e1]; cbv
      repeat (first | (rw [hbox]; cbv) | (rw [hsbox]; cbv))
      rw [hr]; cbv
      exact hQ _ _ trivial (hfin _ (by cbv))
    cases e2 : le (len BB) xb
    rotate_left
    · have hr := r1 (.inr e2)
      cbv
      rw [hc]; cbv
      repeat (first | (rw [hbox]; cbv) | (rw [hsbox]; cbv))
      rw [e1]; cbv
      repeat (first | (rw [hbox]; cbv) | (rw [hsbox]; cbv))
      rw [e2]; cbv
      rw [hr]; cbv
      exact hQ _ _ trivial (hfin _ (by cbv))
    obtain ⟨b1, b2, y1, y2, y3⟩ := r2 hn e1 e2
    obtain ⟨d1, y4, y5⟩ := hR1 hn e1 e2
    cbv
    rw [hc]; cbv
    repeat (first | (rw [hbox]; cbv) | (rw [hsbox]; cbv))
    rw [e1]; cbv
    repeat (first | (rw [hbox]; cbv) | (rw [hsbox]; cbv))
    rw [e2]; cbv
    rw [y1]; cbv
    repeat (first | (rw [hbox]; cbv) | (rw [hsbox]; cbv))
    rw [y2]; cbv
    rw [y3]; cbv
    refine MW_loop hm [0] [3, 8, 14, 16] 17 (by simp) (fun mz st => ∃ (i : Int), 0 ≤ i ∧ mz = rn - i.toNat ∧ st = stOf [.dead, .dead, .dead, .ptr 0 0 0, .dead, .dead, .dead, .dead, .ro BB, .dead, .dead, .dead, .dead, .dead, .ro RR, .dead, .flat (.int .i64 i)] [some ⟨28, [[.flat (.int .i64 xa), .flat (.int .i64 xb), .flat (.int .u64 xi)]]⟩] 1) (rn - (0 : Int).toNat) ?_ ?_
    · exact ⟨0, hz0, rfl, cut_eq (by cbv) (cutRows_cons (by rfl) (by simp [closedAll, closedIn]) rfl)⟩
    rintro mb st ⟨i, hi, hmb, rfl⟩
    cases hc2 : lt i (len RR)
    · cbv
      rw [hc2]; cbv
      exact hQ _ _ trivial (hfin _ (by cbv))
    obtain ⟨b, v, d2, q1, q2, q3, q4, q5, q6⟩ := y5 i hi hc2
    generalize i + 1 = i2 at q4 q5 q6
    cbv
    rw [hc2]; cbv
    refine ⟨by rw [hdk]; kernel_rfl, ?_⟩
    repeat (first | (rw [hbox]; cbv) | (rw [hsbox]; cbv) | (rw [q1]; cbv))
    rw [y4]; cbv
    rw [q2]; cbv
    repeat (first | (rw [hbox]; cbv) | (rw [hsbox]; cbv) | (rw [q3]; cbv))
    rw [dS2]; cbv
    refine ⟨by rw [hib]; kernel_rfl, ?_⟩
    cbv
    rw [q4]
    exact ⟨[0], [3, 8, 14, 16], 17, rn - i2.toNat, hmb ▸ q6, by simp, i2, q5, rfl, cut_eq (by cbv) (cutRows_cons (by rfl) (by simp [closedAll, closedIn]) rfl)⟩
  have := w2 rfl
  subst this
  cbv
  repeat (first | (rw [hbox]; cbv) | (rw [hsbox]; cbv))
  rw [dB]; cbv
  refine MW_loop hm [8] [3, 6, 8, 14, 15] 16 (by simp) (fun mz st => ∃ (i : Int), 0 ≤ i ∧ mz = bn - i.toNat ∧ st = stOf [.dead, .dead, .dead, .ptr 0 0 0, .dead, .dead, .ro BB, .dead, .ro BB, .dead, .dead, .dead, .dead, .dead, .ro RR, .flat (.int .i64 i)] [some ⟨28, [[.flat (.int .i64 xa), .flat (.int .i64 xb), .flat (.int .u64 xi)]]⟩] 1) (bn - (0 : Int).toNat) ?_ ?_
  · exact ⟨0, hz0, rfl, cut_eq (by cbv) (cutRows_cons (by rfl) (by simp [closedAll, closedIn]) rfl)⟩
  rintro mz st ⟨i, hi, hmz, rfl⟩
  cases hc : lt i (len BB)
  rotate_left
  · obtain ⟨b, v, q1, q2, q3, q4⟩ := hB1 i hi hc hn
    generalize i + 1 = i2 at q2 q3 q4
    cbv
    rw [hc]; cbv
    refine ⟨by rw [hdk]; kernel_rfl, ?_⟩
    repeat (first | (rw [hbox]; cbv) | (rw [hsbox]; cbv) | (rw [q1]; cbv))
    rw [dS2]; cbv
    refine ⟨by rw [hib]; kernel_rfl, ?_⟩
    cbv
    rw [q2]
    exact ⟨[0], [3, 6, 8, 14, 15], 16, bn - i2.toNat, hmz ▸ q4, by simp, i2, q3, rfl, cut_eq (by cbv) (cutRows_cons (by rfl) (by simp [closedAll, closedIn]) rfl)⟩
  cases e1 : lt xb 0
  rotate_left
  · have hr := r1 (.inl e1)
    cbv
    rw [hc]; cbv
    repeat (first | (rw [hbox]; cbv) | (rw [hsbox]; cbv))
    rw [e1]; cbv
    repeat (first | (rw [hbox]; cbv) | (rw [hsbox]; cbv))
    rw [hr]; cbv
    exact hQ _ _ trivial (hfin _ (by cbv))
  cases e2 : le (len BB) xb
  rotate_left
  · have hr := r1 (.inr e2)
    cbv
    rw [hc]; cbv
    repeat (first | (rw [hbox]; cbv) | (rw [hsbox]; cbv))
    rw [e1]; cbv
    repeat (first | (rw [hbox]; cbv) | (rw [hsbox]; cbv))
    rw [e2]; cbv
    rw [hr]; cbv
    exact hQ _ _ trivial (hfin _ (by cbv))
  obtain ⟨b1, b2, y1, y2, y3⟩ := r2 hn e1 e2
  obtain ⟨d1, y4, y5⟩ := hR1 hn e1 e2
  cbv
  rw [hc]; cbv
  repeat (first | (rw [hbox]; cbv) | (rw [hsbox]; cbv))
  rw [e1]; cbv
  repeat (first | (rw [hbox]; cbv) | (rw [hsbox]; cbv))
  rw [e2]; cbv
  rw [y1]; cbv
  repeat (first | (rw [hbox]; cbv) | (rw [hsbox]; cbv))
  rw [y2]; cbv
  rw [y3]; cbv
  refine MW_loop hm [0] [3, 8, 14, 16] 17 (by simp) (fun mz st => ∃ (i : Int), 0 ≤ i ∧ mz = rn - i.toNat ∧ st = stOf [.dead, .dead, .dead, .ptr 0 0 0, .dead, .dead, .dead, .dead, .ro BB, .dead, .dead, .dead, .dead, .dead, .ro RR, .dead, .flat (.int .i64 i)] [some ⟨28, [[.flat (.int .i64 xa), .flat (.int .i64 xb), .flat (.int .u64 xi)]]⟩] 1) (rn - (0 : Int).toNat) ?_ ?_
  · exact ⟨0, hz0, rfl, cut_eq (by cbv) (cutRows_cons (by rfl) (by simp [closedAll, closedIn]) rfl)⟩
  rintro mb st ⟨i, hi, hmb, rfl⟩
  cases hc2 : lt i (len RR)
  · cbv
    rw [hc2]; cbv
    exact hQ _ _ trivial (hfin _ (by cbv))
  obtain ⟨b, v, d2, q1, q2, q3, q4, q5, q6⟩ := y5 i hi hc2
  generalize i + 1 = i2 at q4 q5 q6
  cbv
  rw [hc2]; cbv
  refine ⟨by rw [hdk]; kernel_rfl, ?_⟩
  repeat (first | (rw [hbox]; cbv) | (rw [hsbox]; cbv) | (rw [q1]; cbv))
  rw [y4]; cbv
  rw [q2]; cbv
  repeat (first | (rw [hbox]; cbv) | (rw [hsbox]; cbv) | (rw [q3]; cbv))
  rw [dS2]; cbv
  refine ⟨by rw [hib]; kernel_rfl, ?_⟩
  cbv
  rw [q4]
  exact ⟨[0], [3, 8, 14, 16], 17, rn - i2.toNat, hmb ▸ q6, by simp, i2, q5, rfl, cut_eq (by cbv) (cutRows_cons (by rfl) (by simp [closedAll, closedIn]) rfl)⟩
end Go.Proofs.Ytnceadbfgpiaaaa.J
