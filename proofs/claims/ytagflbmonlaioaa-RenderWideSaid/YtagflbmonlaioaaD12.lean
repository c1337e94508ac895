/- Contracts: bosketref38.Flat, Lead, Tail. -/
import Derived.Test.YtagflbmonlaioaaD11
namespace Go.Proofs.Ytagflbmonlaioaa.D
open Go G U K
set_option linter.unusedVariables false
set_option linter.unusedSimpArgs false
set_option maxRecDepth 100000
set_option maxHeartbeats 4000000
/-- Over the trees within. -/
def NAt (ks : List Tr) (i m : Int) : Prop := At ks i ∧ LdAt (flats ks) (flats (ks.drop i.toNat)) m ∧ 0 ≤ m ∧ m ≤ 20000000 * i
theorem nAt_zero (ks : List Tr) : NAt ks 0 0 := ⟨at_zero ks, by unfold LdAt; simp, by omega, by omega⟩
theorem nAt_end {ks : List Tr} {i m : Int} (h : NAt ks i m) (hc : decide (i < (ks.length : Int)) = false) : leadD (flats ks) = (m, false) := by
  have := h.2.1
  rw [drop_end h.1 hc] at this
  exact ld_nil this
theorem ld_part {d a l : DocT} {m : Int} (h : LdAt d (a ++ l) m) : ((leadD a).2 = true → leadD d = (m + (leadD a).1, true)) ∧ ((leadD a).2 = false → LdAt d l (m + (leadD a).1)) := by
  unfold LdAt at h ⊢
  rw [leadD_append] at h
  refine ⟨fun e => ?_, fun e => ?_⟩
  · rw [h, if_pos e, e]
  · rw [h, e]; simp [Int.add_assoc]
theorem nAt_round {ks : List Tr} {i m : Int} (hk : ks.length ≤ 2) (hb : ∀ u ∈ ks, Mild u.flat) (h : NAt ks i m) (hc : decide (i < (ks.length : Int)) = true) :
    arI .add .i64 m (leadD (atI ks i).flat).1 = m + (leadD (atI ks i).flat).1 ∧ ((leadD (atI ks i).flat).2 = true → leadD (flats ks) = (m + (leadD (atI ks i).flat).1, true)) ∧ ((leadD (atI ks i).flat).2 = false → NAt ks (i + 1) (m + (leadD (atI ks i).flat).1)) := by
  obtain ⟨_, h0, h1⟩ := at_lt h.1 hc
  obtain ⟨ha, h2, h3, h4⟩ := h
  rw [drop_next h0 h1, flats_cons] at h2
  obtain ⟨r1, r2⟩ := ld_part h2
  obtain ⟨m1, m2⟩ := hb _ (at_mem h0 h1)
  obtain ⟨b1, b2⟩ := leadD_bd _ m2
  exact ⟨ar_add64 (by omega) (by omega), r1, fun e => ⟨(at_step ha hc).1, r2 e, by omega, by omega⟩⟩
def MAt (ks : List Tr) (i m : Int) : Prop := -1 ≤ i ∧ i < ks.length ∧ LdAt (flats ks).reverse (flats (ks.take (i + 1).toNat)).reverse m ∧ 0 ≤ m ∧ m ≤ 20000000 * (ks.length - i)
theorem mAt_zero (ks : List Tr) : MAt ks (ks.length - 1) 0 := ⟨by omega, by omega, by
  rw [show ((ks.length : Int) - 1 + 1).toNat = ks.length by omega, List.take_length]; unfold LdAt; simp, by omega, by omega⟩
theorem mAt_end {ks : List Tr} {i m : Int} (h : MAt ks i m) (hc : decide (0 ≤ i) = false) : tailD (flats ks) = (m, false) := by
  simp only [decide_eq_false_iff_not] at hc
  have : i = -1 := by have := h.1; omega
  subst this
  exact ld_nil h.2.2.1
theorem mAt_round {ks : List Tr} {i m : Int} (hk : ks.length ≤ 2) (hb : ∀ u ∈ ks, Mild u.flat) (h : MAt ks i m) (hc : decide (0 ≤ i) = true) :
    arI .add .i64 m (tailD (atI ks i).flat).1 = m + (tailD (atI ks i).flat).1 ∧ ((tailD (atI ks i).flat).2 = true → tailD (flats ks) = (m + (tailD (atI ks i).flat).1, true)) ∧ ((tailD (atI ks i).flat).2 = false → MAt ks (i - 1) (m + (tailD (atI ks i).flat).1)) ∧
    arI .sub .i64 i 1 = i - 1 ∧ (i - 1 + 1).toNat < (i + 1).toNat ∧ atI ks i ∈ ks ∧ 0 ≤ i ∧ i < ks.length := by
  obtain ⟨h0, h1, h2, h3, h4⟩ := h
  simp only [decide_eq_true_eq] at hc
  rw [take_next hc h1, flats_append, flats_one, List.reverse_append] at h2
  obtain ⟨r1, r2⟩ := ld_part h2
  obtain ⟨m1, m2⟩ := hb _ (at_mem hc h1)
  have hbd := leadD_bd (atI ks i).flat.reverse fun p hp => m2 p (List.mem_reverse.1 hp)
  rw [List.length_reverse] at hbd
  obtain ⟨b1, b2⟩ := hbd
  unfold tailD
  have e : i - 1 + 1 = i := by omega
  exact ⟨ar_add64 (by omega) (by omega), r1, fun e2 => ⟨by omega, by omega, by rw [e]; exact r2 e2, by omega, by omega⟩, ar_sub64 (by omega) (by omega), by omega, at_mem hc h1, hc, h1⟩

theorem refLead_calls : ∀ (t : Tr), t.ok → Mild t.flat → ACalls Try.prog 37 [.ro (t.flat.map partC)] (fun _ => leadV (leadD t.flat)) (fun _ => []) := by
  refine tree_rec fun t ht hk hm => ?_
  have hcP := parts_calls t ht hm.1
  obtain ⟨kl, hkl, hlast⟩ := last_top hm.1
  have hkm : ∀ u ∈ kids t, ACalls Try.prog 37 [.ro (u.flat.map partC)] (fun _ => leadV (leadD u.flat)) (fun _ => []) := fun u hu => hk u hu (mild_kid ht hm hu)
  have hbd : ∀ u ∈ kids t, Mild u.flat := fun u hu => mild_kid ht hm hu
  have h0 : decide ((top t).kind = 0) = true → leadD t.flat = (szI (top t), false) ∧ kids t = [] := fun h => by
    have h2 := of_decide_eq_true h
    cases t with
    | lf p => exact ⟨by simp only [Tr.flat, top] at h2 ⊢; simp [tailD, leadD, h2, szI], rfl⟩
    | un p t => have := ht.2.1; simp only [top] at h2; rw [h2] at this; simp [takes] at this
    | cat p a b => have := ht.2.1; simp only [top] at h2; rw [h2] at this; simp [takes] at this
  have h1 : (decide (1 ≤ (top t).kind) && decide ((top t).kind ≤ 3)) = true → leadD t.flat = (0, true) := fun h => by
    simp only [Bool.and_eq_true, decide_eq_true_eq] at h
    have hb : isBr (top t).kind = true := by
      unfold isBr
      simp only [Bool.or_eq_true, decide_eq_true_eq]; omega
    cases t with
    | lf p => simp only [Tr.flat, top] at h hb ⊢; simp [tailD, leadD, hb]; omega
    | un p t => have := ht.2.1; simp only [top] at h; have h5 : p.kind = 1 ∨ p.kind = 2 ∨ p.kind = 3 := by omega
                rcases h5 with h5 | h5 | h5 <;> (rw [h5] at this; simp [takes] at this)
    | cat p a b => have := ht.2.1; simp only [top] at h; have h5 : p.kind = 1 ∨ p.kind = 2 ∨ p.kind = 3 := by omega
                   rcases h5 with h5 | h5 | h5 <;> (rw [h5] at this; simp [takes] at this)
  have h4 : (decide (1 ≤ (top t).kind) && decide ((top t).kind ≤ 3)) = false → decide ((top t).kind = 0) = false → leadD t.flat = leadD (flats (kids t)) := fun h h2 => by
    refine lead_top h2 ?_
    unfold isBr
    simp only [Bool.and_eq_false_iff, decide_eq_false_iff_not] at h
    simp only [Bool.or_eq_false_iff, decide_eq_false_iff_not]; omega
  have hsz : szI (top t) = natI (top t).text.size := rfl
  rw [hsz] at h0
  obtain ⟨ks, hks⟩ : ∃ ks, ks = kids t := ⟨_, rfl⟩
  have hk2 : ks.length ≤ 2 := by rw [hks]; exact kids_le t
  have hk1 : ks.length ≤ 1000000 := by omega
  rw [← hks] at hcP hkm hbd h4 h0
  obtain ⟨K, hK⟩ : ∃ K, K = ks.map kidC := ⟨_, rfl⟩
  have hKc : ∀ c ∈ K, closedAll [] c = true := by rw [hK]; exact closed_map fun _ => rfl
  rw [← hK] at hcP
  obtain ⟨n, hn⟩ : ∃ n, n = ks.length := ⟨_, rfl⟩
  rw [← hn] at hcP
  generalize t.flat.map partC = X at hcP hlast hkl ⊢
  generalize top t = p at hlast h0 h1 h4
  obtain ⟨kd, pn, tx⟩ := p
  unfold partC at hlast
  dsimp only at hlast h0 h1 h4
  clear hk hks hm ht
  generalize leadD t.flat = r at h0 h1 h4 ⊢
  unfold leadV
  refine acalls_symF tabF_ok fn37 rfl rfl rfl (by kernel_rfl) ?_
  rintro ⟨lt, le, eq, se, ar, dv, una, conv, len, sln, nat, nth, ixs, cel, sto, app, cpy, slc, mak, ixv, oth, dk, ib, call⟩ hS hm Q hQ
  obtain ⟨hlt, hle, heq, hse, har, hdv, huna, hconv, hlen, hsln, hnat, hnth, hixs, hcel, hsto, happ, hcpy, hslc, hmak, hixv, hoth, hdk, hib, hcall⟩ := Sym.mk.inj hS
  clear hS
  have hnt : ∀ n : Nat, nat n = U.natI n := fun n => by rw [hnat]; rfl
  have hbox : ∀ e c off, cel (some ⟨e, [c]⟩) 0 off = if off ≤ c.length then some (c.drop off) else none := fun e c off => by rw [hcel]; rfl
  have hsbox : ∀ e c off sz y, sto (some ⟨e, [c]⟩) 0 off sz y = if y.cells.length = sz ∧ off + sz ≤ c.length ∧ y.cells.all AV.one = true then some ⟨e, [spl c off y.cells]⟩ else none := fun e c off sz y => by rw [hsto]; rfl
  have hcaw : ∀ {f args T base K}, CallK Try.prog f args T base K → call f args T base K := fun h => by rw [hcall]; exact h
  have hcal : ∀ {f args T base} {K : AV → Table → List Nat → List Nat → Prop}, (∃ args' ids val rows, Hands T ids args args' (val base) (rows base) ∧ ACalls Try.prog f args' val rows ∧ (rows base).length ≤ 8 ∧ K (val base) (adopt T base (rows base)) ids ((List.range (rows base).length).map (base + ·))) → call f args T base K := fun h => hcaw (call_own h)
  have hk9 : ar .sub .i64 (nat n) 1 = (ks.length : Int) - 1 := by rw [har, hnt, hn]; unfold natI; rw [ar_sub64 (by omega) (by omega)]
  have hz9 := mAt_zero ks
  generalize (ks.length : Int) - 1 = i9 at hk9 hz9
  have hfin : ∀ m b st, r = (m, b) → resA Try.prog Try.f37 st = some (.tup [.flat (.int .i64 m), .flat (.bool b)]) → G.Leaves Try.prog Try.f37 (fun _ => .tup [.flat (.int .i64 r.1), .flat (.bool r.2)]) (fun _ => []) st := fun m b st h1 h => by
    rw [h1]; exact G.Leaves.plain h rfl
  rw [← hlen, ← har] at hkl
  rw [← hnth] at hlast
  have hsz2 : sln tx = natI tx.size := by rw [hsln]; rfl
  rw [← hsz2] at h0
  have e0 : eq kd 0 = decide (kd = 0) := by rw [heq]
  have e1 : le 1 kd = decide (1 ≤ kd) := by rw [hle]
  have e3 : le kd 3 = decide (kd ≤ 3) := by rw [hle]
  generalize decide (kd = 0) = b0 at e0 h0 h4
  generalize decide (1 ≤ kd) = b1 at e1 h1 h4
  generalize decide (kd ≤ 3) = b3 at e3 h1 h4
  cbv
  rw [hkl]; cbv
  repeat (first | (rw [hbox]; cbv) | (rw [hsbox]; cbv) | (rw [hlast]; cbv))
  repeat' (first | (rw [hbox]; cbv) | (rw [hsbox]; cbv) | (rw [e1]; cases b1 <;> cbv) | (rw [e3]; cases b3 <;> cbv))
  all_goals first
    | (have g := h1 rfl; exact hQ _ _ trivial (hfin _ _ _ g (by cbv)))
    | skip
  all_goals (replace h4 := h4 rfl)
  all_goals (rw [e0]; cases b0)
  all_goals first
    | (have g := (h0 rfl).1; cbv; repeat (first | (rw [hbox]; cbv)); exact hQ _ _ trivial (hfin _ _ _ g (by cbv)))
    | skip
  all_goals (replace h4 := h4 rfl)
  all_goals cbv
  all_goals (refine hcal ⟨_, [], _, _, .inl ⟨rfl, by cbv⟩, hcP, by simp, ?_⟩; cbv)
  all_goals
    refine MW_loop hm [184] [5, 6, 7] 8 (by simp) (fun mz st => ∃ (i m : Int), NAt ks i m ∧ mz = U.left ks.length i ∧ st = stOf [.dead, .dead, .dead, .dead, .dead, .flat (.int .i64 m), .sl 0 0 n, .flat (.int .i64 i)] [some ⟨23, K⟩] 1) (U.left ks.length 0) ?_ ?_
    · exact ⟨0, 0, nAt_zero ks, rfl, cut_eq (by cbv) (cutRows_cons (by rfl) (hKc) rfl)⟩
    rintro mz st ⟨i, m, hi, hmz, rfl⟩
    cases hc : lt i (nat n)
    · have hc' : decide (i < (ks.length : Int)) = false := by rw [hlt, hnt] at hc; unfold natI at hc; rw [hn] at hc; exact hc
      have hend := h4.trans (nAt_end hi hc')
      cbv
      rw [hc]; cbv
      exact hQ _ _ trivial (hfin _ _ _ hend (by cbv))
    have hc' : decide (i < (ks.length : Int)) = true := by rw [hlt, hnt] at hc; unfold natI at hc; rw [hn] at hc; exact hc
    obtain ⟨_, i0, i1⟩ := at_lt hi.1 hc'
    obtain ⟨r1, r2, r3⟩ := nAt_round hk2 hbd hi hc'
    obtain ⟨_, hadd, q1, q2, hmem, _, _⟩ := at_round (sz := 1) hK (fun _ => rfl) hk1 hi.1 hc'

    have hx1 : ∀ id, ixs (some ⟨23, K⟩) id 0 n i 1 = some (.ptr id i.toNat 0) := fun id => by rw [hixs]; exact own_ix u64' i0 (by rw [hn]; exact i1) id
    have hx2 : cel (some ⟨23, K⟩) i.toNat 0 = some (kidC (atI ks i)) := by rw [hcel, hK, own_cel (get_map i0 i1) (Nat.zero_le _)]; rfl
    have hcI := hkm _ hmem
    rw [← har] at hadd r1
    unfold kidC docC at hx2
    unfold leadV at hcI
    generalize leadD (atI ks i).flat = rr at hcI r1 r2 r3
    generalize (atI ks i).flat.map partC = UU at hcI hx2
    obtain ⟨k1, k2⟩ := rr
    dsimp only at hcI r1 r2 r3
    generalize m + k1 = m2 at r1 r2 r3
    generalize i.toNat = iN at hx1 hx2
    generalize i + 1 = i2 at hadd q1 q2 r3
    cbv
    rw [hc]; cbv
    repeat (first | (rw [hbox]; cbv) | (rw [hsbox]; cbv) | (rw [hx1]; cbv) | (rw [hx2]; cbv))
    refine hcal ⟨_, [], _, _, .inl ⟨rfl, by cbv⟩, hcI, by simp, ?_⟩
    cbv
    rw [r1]; cbv
    cases k2
    rotate_left
    · have hend := h4.trans (r2 rfl)
      cbv
      exact hQ _ _ trivial (hfin _ _ _ hend (by cbv))
    cbv
    rw [hadd]
    exact ⟨[0], [5, 6, 7], 8, U.left ks.length i2, hmz ▸ q2, by simp, i2, m2, r3 rfl, rfl, cut_eq (by cbv) (cutRows_cons (by rfl) (hKc) rfl)⟩
theorem refTail_calls : ∀ (t : Tr), t.ok → Mild t.flat → ACalls Try.prog 39 [.ro (t.flat.map partC)] (fun _ => leadV (tailD t.flat)) (fun _ => []) := by
  refine tree_rec fun t ht hk hm => ?_
  have hcP := parts_calls t ht hm.1
  obtain ⟨kl, hkl, hlast⟩ := last_top hm.1
  have hkm : ∀ u ∈ kids t, ACalls Try.prog 39 [.ro (u.flat.map partC)] (fun _ => leadV (tailD u.flat)) (fun _ => []) := fun u hu => hk u hu (mild_kid ht hm hu)
  have hbd : ∀ u ∈ kids t, Mild u.flat := fun u hu => mild_kid ht hm hu
  have h0 : decide ((top t).kind = 0) = true → tailD t.flat = (szI (top t), false) ∧ kids t = [] := fun h => by
    have h2 := of_decide_eq_true h
    cases t with
    | lf p => exact ⟨by simp only [Tr.flat, top] at h2 ⊢; simp [tailD, leadD, h2, szI], rfl⟩
    | un p t => have := ht.2.1; simp only [top] at h2; rw [h2] at this; simp [takes] at this
    | cat p a b => have := ht.2.1; simp only [top] at h2; rw [h2] at this; simp [takes] at this
  have h1 : (decide (1 ≤ (top t).kind) && decide ((top t).kind ≤ 3)) = true → tailD t.flat = (0, true) := fun h => by
    simp only [Bool.and_eq_true, decide_eq_true_eq] at h
    have hb : isBr (top t).kind = true := by
      unfold isBr
      simp only [Bool.or_eq_true, decide_eq_true_eq]; omega
    cases t with
    | lf p => simp only [Tr.flat, top] at h hb ⊢; simp [tailD, leadD, hb]; omega
    | un p t => have := ht.2.1; simp only [top] at h; have h5 : p.kind = 1 ∨ p.kind = 2 ∨ p.kind = 3 := by omega
                rcases h5 with h5 | h5 | h5 <;> (rw [h5] at this; simp [takes] at this)
    | cat p a b => have := ht.2.1; simp only [top] at h; have h5 : p.kind = 1 ∨ p.kind = 2 ∨ p.kind = 3 := by omega
                   rcases h5 with h5 | h5 | h5 <;> (rw [h5] at this; simp [takes] at this)
  have h4 : (decide (1 ≤ (top t).kind) && decide ((top t).kind ≤ 3)) = false → decide ((top t).kind = 0) = false → tailD t.flat = tailD (flats (kids t)) := fun h h2 => by
    refine tail_top h2 ?_
    unfold isBr
    simp only [Bool.and_eq_false_iff, decide_eq_false_iff_not] at h
    simp only [Bool.or_eq_false_iff, decide_eq_false_iff_not]; omega
  have hsz : szI (top t) = natI (top t).text.size := rfl
  rw [hsz] at h0
  obtain ⟨ks, hks⟩ : ∃ ks, ks = kids t := ⟨_, rfl⟩
  have hk2 : ks.length ≤ 2 := by rw [hks]; exact kids_le t
  have hk1 : ks.length ≤ 1000000 := by omega
  rw [← hks] at hcP hkm hbd h4 h0
  obtain ⟨K, hK⟩ : ∃ K, K = ks.map kidC := ⟨_, rfl⟩
  have hKc : ∀ c ∈ K, closedAll [] c = true := by rw [hK]; exact closed_map fun _ => rfl
  rw [← hK] at hcP
  obtain ⟨n, hn⟩ : ∃ n, n = ks.length := ⟨_, rfl⟩
  rw [← hn] at hcP
  generalize t.flat.map partC = X at hcP hlast hkl ⊢
  generalize top t = p at hlast h0 h1 h4
  obtain ⟨kd, pn, tx⟩ := p
  unfold partC at hlast
  dsimp only at hlast h0 h1 h4
  clear hk hks hm ht
  generalize tailD t.flat = r at h0 h1 h4 ⊢
  unfold leadV
  refine acalls_symF tabF_ok fn39 rfl rfl rfl (by kernel_rfl) ?_
  rintro ⟨lt, le, eq, se, ar, dv, una, conv, len, sln, nat, nth, ixs, cel, sto, app, cpy, slc, mak, ixv, oth, dk, ib, call⟩ hS hm Q hQ
  obtain ⟨hlt, hle, heq, hse, har, hdv, huna, hconv, hlen, hsln, hnat, hnth, hixs, hcel, hsto, happ, hcpy, hslc, hmak, hixv, hoth, hdk, hib, hcall⟩ := Sym.mk.inj hS
  clear hS
  have hnt : ∀ n : Nat, nat n = U.natI n := fun n => by rw [hnat]; rfl
  have hbox : ∀ e c off, cel (some ⟨e, [c]⟩) 0 off = if off ≤ c.length then some (c.drop off) else none := fun e c off => by rw [hcel]; rfl
  have hsbox : ∀ e c off sz y, sto (some ⟨e, [c]⟩) 0 off sz y = if y.cells.length = sz ∧ off + sz ≤ c.length ∧ y.cells.all AV.one = true then some ⟨e, [spl c off y.cells]⟩ else none := fun e c off sz y => by rw [hsto]; rfl
  have hcaw : ∀ {f args T base K}, CallK Try.prog f args T base K → call f args T base K := fun h => by rw [hcall]; exact h
  have hcal : ∀ {f args T base} {K : AV → Table → List Nat → List Nat → Prop}, (∃ args' ids val rows, Hands T ids args args' (val base) (rows base) ∧ ACalls Try.prog f args' val rows ∧ (rows base).length ≤ 8 ∧ K (val base) (adopt T base (rows base)) ids ((List.range (rows base).length).map (base + ·))) → call f args T base K := fun h => hcaw (call_own h)
  have hk9 : ar .sub .i64 (nat n) 1 = (ks.length : Int) - 1 := by rw [har, hnt, hn]; unfold natI; rw [ar_sub64 (by omega) (by omega)]
  have hz9 := mAt_zero ks
  generalize (ks.length : Int) - 1 = i9 at hk9 hz9
  have hfin : ∀ m b st, r = (m, b) → resA Try.prog Try.f39 st = some (.tup [.flat (.int .i64 m), .flat (.bool b)]) → G.Leaves Try.prog Try.f39 (fun _ => .tup [.flat (.int .i64 r.1), .flat (.bool r.2)]) (fun _ => []) st := fun m b st h1 h => by
    rw [h1]; exact G.Leaves.plain h rfl
  rw [← hlen, ← har] at hkl
  rw [← hnth] at hlast
  have hsz2 : sln tx = natI tx.size := by rw [hsln]; rfl
  rw [← hsz2] at h0
  have e0 : eq kd 0 = decide (kd = 0) := by rw [heq]
  have e1 : le 1 kd = decide (1 ≤ kd) := by rw [hle]
  have e3 : le kd 3 = decide (kd ≤ 3) := by rw [hle]
  generalize decide (kd = 0) = b0 at e0 h0 h4
  generalize decide (1 ≤ kd) = b1 at e1 h1 h4
  generalize decide (kd ≤ 3) = b3 at e3 h1 h4
  cbv
  rw [hkl]; cbv
  repeat (first | (rw [hbox]; cbv) | (rw [hsbox]; cbv) | (rw [hlast]; cbv))
  repeat' (first | (rw [hbox]; cbv) | (rw [hsbox]; cbv) | (rw [e1]; cases b1 <;> cbv) | (rw [e3]; cases b3 <;> cbv))
  all_goals first
    | (have g := h1 rfl; exact hQ _ _ trivial (hfin _ _ _ g (by cbv)))
    | skip
  all_goals (replace h4 := h4 rfl)
  all_goals (rw [e0]; cases b0)
  all_goals first
    | (have g := (h0 rfl).1; cbv; repeat (first | (rw [hbox]; cbv)); exact hQ _ _ trivial (hfin _ _ _ g (by cbv)))
    | skip
  all_goals (replace h4 := h4 rfl)
  all_goals cbv
  all_goals (refine hcal ⟨_, [], _, _, .inl ⟨rfl, by cbv⟩, hcP, by simp, ?_⟩; cbv)
  all_goals
    rw [hk9]; cbv
    refine MW_loop hm [184] [5, 6, 7] 8 (by simp) (fun mz st => ∃ (i m : Int), MAt ks i m ∧ mz = (i + 1).toNat ∧ st = stOf [.dead, .dead, .dead, .dead, .dead, .flat (.int .i64 m), .sl 0 0 n, .flat (.int .i64 i)] [some ⟨23, K⟩] 1) ((i9 + 1).toNat) ?_ ?_
    · exact ⟨i9, 0, hz9, rfl, cut_eq (by cbv) (cutRows_cons (by rfl) (hKc) rfl)⟩
    rintro mz st ⟨i, m, hi, hmz, rfl⟩
    cases hc : le 0 i
    · have hc' : decide (0 ≤ i) = false := by rw [hle] at hc; exact hc
      have hend := h4.trans (mAt_end hi hc')
      cbv
      rw [hc]; cbv
      exact hQ _ _ trivial (hfin _ _ _ hend (by cbv))
    have hc' : decide (0 ≤ i) = true := by rw [hle] at hc; exact hc
    obtain ⟨r1, r2, r3, hadd, q2, hmem, i0, i1⟩ := mAt_round hk2 hbd hi hc'

    have hx1 : ∀ id, ixs (some ⟨23, K⟩) id 0 n i 1 = some (.ptr id i.toNat 0) := fun id => by rw [hixs]; exact own_ix u64' i0 (by rw [hn]; exact i1) id
    have hx2 : cel (some ⟨23, K⟩) i.toNat 0 = some (kidC (atI ks i)) := by rw [hcel, hK, own_cel (get_map i0 i1) (Nat.zero_le _)]; rfl
    have hcI := hkm _ hmem
    rw [← har] at hadd r1
    unfold kidC docC at hx2
    unfold leadV at hcI
    generalize tailD (atI ks i).flat = rr at hcI r1 r2 r3
    generalize (atI ks i).flat.map partC = UU at hcI hx2
    obtain ⟨k1, k2⟩ := rr
    dsimp only at hcI r1 r2 r3
    generalize m + k1 = m2 at r1 r2 r3
    generalize i.toNat = iN at hx1 hx2
    generalize i - 1 = i2 at hadd q2 r3
    cbv
    rw [hc]; cbv
    repeat (first | (rw [hbox]; cbv) | (rw [hsbox]; cbv) | (rw [hx1]; cbv) | (rw [hx2]; cbv))
    refine hcal ⟨_, [], _, _, .inl ⟨rfl, by cbv⟩, hcI, by simp, ?_⟩
    cbv
    rw [r1]; cbv
    cases k2
    rotate_left
    · have hend := h4.trans (r2 rfl)
      cbv
      exact hQ _ _ trivial (hfin _ _ _ hend (by cbv))
    cbv
    rw [hadd]
    exact ⟨[0], [5, 6, 7], 8, (i2 + 1).toNat, hmz ▸ q2, by simp, i2, m2, r3 rfl, rfl, cut_eq (by cbv) (cutRows_cons (by rfl) (hKc) rfl)⟩
theorem flatV_eq (o : Option (List UInt8)) : flatV o = .tup [.flat (.string (txt (o.getD []))), .flat (.bool o.isSome)] := by cases o <;> rfl
def FkAt (ks : List Tr) (i : Int) (sb : List UInt8) (ok : Bool) : Prop := At ks i ∧ sb = (ks.take i.toNat).flatMap (fun u => (flatD u.flat).getD []) ∧ ok = (ks.take i.toNat).all (fun u => (flatD u.flat).isSome) ∧ (sb.length : Int) ≤ 20000000 * i
theorem fkAt_zero (ks : List Tr) : FkAt ks 0 [] true := ⟨at_zero ks, rfl, rfl, by simp⟩
theorem fkAt_end {ks : List Tr} {i : Int} {sb : List UInt8} {ok : Bool} (h : FkAt ks i sb ok) (hc : decide (i < (ks.length : Int)) = false) : flatD (flats ks) = if ok = true then some sb else none := by
  obtain ⟨h1, h2, h3, _⟩ := h
  rw [take_end h1 hc] at h2 h3
  rw [flatD_flats, ← h2, ← h3]
theorem fkAt_round {ks : List Tr} {i : Int} {sb : List UInt8} {ok : Bool} (hk : ks.length ≤ 2) (hb : ∀ u ∈ ks, Mild u.flat) (h : FkAt ks i sb ok) (hc : decide (i < (ks.length : Int)) = true) :
    FkAt ks (i + 1) (sb ++ (flatD (atI ks i).flat).getD []) (ok && (flatD (atI ks i).flat).isSome) ∧ (txt sb).size + (txt ((flatD (atI ks i).flat).getD [])).size ≤ 1000000000 := by
  obtain ⟨_, h0, h1⟩ := at_lt h.1 hc
  obtain ⟨ha, h2, h3, h4⟩ := h
  obtain ⟨m1, m2⟩ := hb _ (at_mem h0 h1)
  have hl : ((flatD (atI ks i).flat).getD []).length ≤ 20000000 := by
    cases e : flatD (atI ks i).flat with
    | none => simp
    | some a => have := flatD_len e m2; simp only [Option.getD_some]; omega
  refine ⟨⟨(at_step ha hc).1, ?_, ?_, ?_⟩, ?_⟩
  · rw [take_next h0 h1, List.flatMap_append, h2]; simp
  · rw [take_next h0 h1, List.all_append, h3]; simp
  · rw [List.length_append]; omega
  · rw [size_txt, size_txt]; omega

theorem refFlat_calls : ∀ (t : Tr), t.ok → Mild t.flat → ACalls Try.prog 29 [.ro (t.flat.map partC)] (fun _ => flatV (flatD t.flat)) (fun _ => []) := by
  refine tree_rec fun t ht hk hm => ?_
  have hcP := parts_calls t ht hm.1
  obtain ⟨kl, hkl, hlast⟩ := last_top hm.1
  have hkm : ∀ u ∈ kids t, ACalls Try.prog 29 [.ro (u.flat.map partC)] (fun _ => flatV (flatD u.flat)) (fun _ => []) := fun u hu => hk u hu (mild_kid ht hm hu)
  have hbd : ∀ u ∈ kids t, Mild u.flat := fun u hu => mild_kid ht hm hu
  have h0 : decide ((top t).kind = 0) = true → flatD t.flat = some (bts (top t).text) := fun h => by
    have h2 := of_decide_eq_true h
    cases t with
    | lf p => simp only [Tr.flat, top] at h2 ⊢; simp [flatD, flatP, h2]
    | un p t => have := ht.2.1; simp only [top] at h2; rw [h2] at this; simp [takes] at this
    | cat p a b => have := ht.2.1; simp only [top] at h2; rw [h2] at this; simp [takes] at this
  have h1 : decide ((top t).kind = 1) = true → flatD t.flat = some [32] := fun h => by
    have h2 := of_decide_eq_true h
    cases t with
    | lf p => simp only [Tr.flat, top] at h2 ⊢; simp [flatD, flatP, h2]
    | un p t => have := ht.2.1; simp only [top] at h2; rw [h2] at this; simp [takes] at this
    | cat p a b => have := ht.2.1; simp only [top] at h2; rw [h2] at this; simp [takes] at this
  have h3 : decide ((top t).kind = 3) = true → flatD t.flat = none := fun h => by
    have h2 := of_decide_eq_true h
    cases t with
    | lf p => simp only [Tr.flat, top] at h2 ⊢; simp [flatD, flatP, h2]
    | un p t => have := ht.2.1; simp only [top] at h2; rw [h2] at this; simp [takes] at this
    | cat p a b => have := ht.2.1; simp only [top] at h2; rw [h2] at this; simp [takes] at this
  have h4 : decide ((top t).kind = 0) = false → decide ((top t).kind = 1) = false → decide ((top t).kind = 3) = false → flatD t.flat = flatD (flats (kids t)) := fun g1 g2 g3 => by
    refine flat_top ?_
    unfold flatP
    rw [if_neg (of_decide_eq_false g1), if_neg (of_decide_eq_false g2), if_neg (of_decide_eq_false g3)]
  obtain ⟨ks, hks⟩ : ∃ ks, ks = kids t := ⟨_, rfl⟩
  have hk2 : ks.length ≤ 2 := by rw [hks]; exact kids_le t
  have hk1 : ks.length ≤ 1000000 := by omega
  rw [← hks] at hcP hkm hbd h4
  obtain ⟨K, hK⟩ : ∃ K, K = ks.map kidC := ⟨_, rfl⟩
  have hKc : ∀ c ∈ K, closedAll [] c = true := by rw [hK]; exact closed_map fun _ => rfl
  rw [← hK] at hcP
  obtain ⟨n, hn⟩ : ∃ n, n = ks.length := ⟨_, rfl⟩
  rw [← hn] at hcP
  generalize t.flat.map partC = X at hcP hlast hkl ⊢
  generalize top t = p at hlast h0 h1 h3 h4
  obtain ⟨kd, pn, tx⟩ := p
  unfold partC at hlast
  dsimp only at hlast h0 h1 h3 h4
  clear hk hks hm ht
  generalize flatD t.flat = r at h0 h1 h3 h4 ⊢
  refine acalls_symF tabF_ok fn29 rfl rfl rfl (by kernel_rfl) ?_
  rintro ⟨lt, le, eq, se, ar, dv, una, conv, len, sln, nat, nth, ixs, cel, sto, app, cpy, slc, mak, ixv, oth, dk, ib, call⟩ hS hm Q hQ
  obtain ⟨hlt, hle, heq, hse, har, hdv, huna, hconv, hlen, hsln, hnat, hnth, hixs, hcel, hsto, happ, hcpy, hslc, hmak, hixv, hoth, hdk, hib, hcall⟩ := Sym.mk.inj hS
  clear hS
  have hnt : ∀ n : Nat, nat n = U.natI n := fun n => by rw [hnat]; rfl
  have hbox : ∀ e c off, cel (some ⟨e, [c]⟩) 0 off = if off ≤ c.length then some (c.drop off) else none := fun e c off => by rw [hcel]; rfl
  have hsbox : ∀ e c off sz y, sto (some ⟨e, [c]⟩) 0 off sz y = if y.cells.length = sz ∧ off + sz ≤ c.length ∧ y.cells.all AV.one = true then some ⟨e, [spl c off y.cells]⟩ else none := fun e c off sz y => by rw [hsto]; rfl
  have hcaw : ∀ {f args T base K}, CallK Try.prog f args T base K → call f args T base K := fun h => by rw [hcall]; exact h
  have hcal : ∀ {f args T base} {K : AV → Table → List Nat → List Nat → Prop}, (∃ args' ids val rows, Hands T ids args args' (val base) (rows base) ∧ ACalls Try.prog f args' val rows ∧ (rows base).length ≤ 8 ∧ K (val base) (adopt T base (rows base)) ids ((List.range (rows base).length).map (base + ·))) → call f args T base K := fun h => hcaw (call_own h)
  have hfin : ∀ o st, r = o → resA Try.prog Try.f29 st = some (flatV o) → G.Leaves Try.prog Try.f29 (fun _ => flatV r) (fun _ => []) st := fun o st h1 h => by
    rw [h1]
    exact G.Leaves.plain h (by cases o <;> rfl)
  rw [← hlen, ← har] at hkl
  rw [← hnth] at hlast
  have e0 : eq kd 0 = decide (kd = 0) := by rw [heq]
  have e1 : eq kd 1 = decide (kd = 1) := by rw [heq]
  have e3 : eq kd 3 = decide (kd = 3) := by rw [heq]
  generalize decide (kd = 0) = b0 at e0 h0 h4
  generalize decide (kd = 1) = b1 at e1 h1 h4
  generalize decide (kd = 3) = b3 at e3 h3 h4
  cbv
  rw [hkl]; cbv
  repeat (first | (rw [hbox]; cbv) | (rw [hsbox]; cbv) | (rw [hlast]; cbv))
  rw [e0]; cases b0
  rotate_left
  · have g := h0 rfl
    cbv
    repeat (first | (rw [hbox]; cbv))
    refine hQ _ _ trivial (hfin _ _ g ?_)
    unfold flatV
    dsimp only
    rw [txt_bts]
    cbv
  cbv
  rw [e1]; cases b1
  rotate_left
  · have g := h1 rfl
    cbv
    exact hQ _ _ trivial (hfin _ _ g (by cbv))
  cbv
  rw [e3]; cases b3
  rotate_left
  · have g := h3 rfl
    cbv
    exact hQ _ _ trivial (hfin _ _ g (by cbv))
  replace h4 := h4 rfl rfl rfl
  cbv
  refine hcal ⟨_, [], _, _, .inl ⟨rfl, by cbv⟩, hcP, by simp, ?_⟩
  cbv
  refine MW_loop hm [168] [5, 6, 7, 8] 9 (by simp) (fun mz st => ∃ (i : Int) (sb : List UInt8) (ok : Bool) (s : ByteArray), FkAt ks i sb ok ∧ s = txt sb ∧ mz = U.left ks.length i ∧ st = stOf [.dead, .dead, .dead, .dead, .dead, .flat (.string s), .flat (.bool ok), .sl 0 0 n, .flat (.int .i64 i)] [some ⟨23, K⟩] 1) (U.left ks.length 0) ?_ ?_
  · exact ⟨0, [], true, ⟨#[]⟩, fkAt_zero ks, rfl, rfl, cut_eq (by cbv) (cutRows_cons (by rfl) (hKc) rfl)⟩
  rintro mz st ⟨i, sb, ok, s, hi, hs, hmz, rfl⟩
  cases hc : lt i (nat n)
  · have hc' : decide (i < (ks.length : Int)) = false := by rw [hlt, hnt] at hc; unfold natI at hc; rw [hn] at hc; exact hc
    have hend := h4.trans (fkAt_end hi hc')
    cases ok
    · cbv
      rw [hc]; cbv
      exact hQ _ _ trivial (hfin none _ (hend.trans (if_neg (by decide))) (by cbv))
    · cbv
      rw [hc]; cbv
      refine hQ _ _ trivial (hfin (some sb) _ (hend.trans (if_pos rfl)) ?_)
      unfold flatV
      dsimp only
      rw [← hs]
      cbv
  have hc' : decide (i < (ks.length : Int)) = true := by rw [hlt, hnt] at hc; unfold natI at hc; rw [hn] at hc; exact hc
  obtain ⟨_, i0, i1⟩ := at_lt hi.1 hc'
  obtain ⟨r1, r2⟩ := fkAt_round hk2 hbd hi hc'
  obtain ⟨_, hadd, q1, q2, hmem, _, _⟩ := at_round (sz := 1) hK (fun _ => rfl) hk1 hi.1 hc'
  have hx1 : ∀ id, ixs (some ⟨23, K⟩) id 0 n i 1 = some (.ptr id i.toNat 0) := fun id => by rw [hixs]; exact own_ix u64' i0 (by rw [hn]; exact i1) id
  have hx2 : cel (some ⟨23, K⟩) i.toNat 0 = some (kidC (atI ks i)) := by rw [hcel, hK, own_cel (get_map i0 i1) (Nat.zero_le _)]; rfl
  have hcI := hkm _ hmem
  rw [← har] at hadd
  unfold kidC docC at hx2
  rw [flatV_eq] at hcI
  generalize (flatD (atI ks i).flat).getD [] = ub at hcI r1 r2
  generalize (flatD (atI ks i).flat).isSome = uo at hcI r1
  generalize (atI ks i).flat.map partC = UU at hcI hx2
  have hcat := dv_cat _ _ r2
  rw [txt_append, ← hdv, ← hs] at hcat
  obtain ⟨s2, hs2⟩ : ∃ s2, s2 = txt (sb ++ ub) := ⟨_, rfl⟩
  rw [← hs2] at hcat
  generalize sb ++ ub = sb2 at r1 hs2
  generalize txt ub = us at hcI hcat
  generalize i.toNat = iN at hx1 hx2
  generalize i + 1 = i2 at hadd q1 q2 r1
  clear r2
  cbv
  rw [hc]; cbv
  repeat (first | (rw [hbox]; cbv) | (rw [hsbox]; cbv) | (rw [hx1]; cbv) | (rw [hx2]; cbv))
  refine hcal ⟨_, [], _, _, .inl ⟨rfl, by cbv⟩, hcI, by simp, ?_⟩
  cbv
  rw [hcat]; cbv
  cases ok
  · cbv
    rw [hadd]
    exact ⟨[0], [5, 6, 7, 8], 9, U.left ks.length i2, hmz ▸ q2, by simp, i2, sb2, _, s2, r1, hs2, rfl, cut_eq (by cbv) (cutRows_cons (by rfl) (hKc) rfl)⟩
  · cbv
    rw [hadd]
    exact ⟨[0], [5, 6, 7, 8], 9, U.left ks.length i2, hmz ▸ q2, by simp, i2, sb2, _, s2, r1, hs2, rfl, cut_eq (by cbv) (cutRows_cons (by rfl) (hKc) rfl)⟩
end Go.Proofs.Ytagflbmonlaioaa.D
