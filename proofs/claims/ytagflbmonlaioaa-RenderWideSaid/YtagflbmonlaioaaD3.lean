/- Contracts: bosketref37.Check, Same, slices.Equal, Of, Text, Few. -/
import Derived.Test.YtagflbmonlaioaaD2
namespace Go.Proofs.Ytagflbmonlaioaa.D
open Go G U K
set_option linter.unusedVariables false
set_option linter.unusedSimpArgs false
set_option maxRecDepth 100000
set_option maxHeartbeats 4000000
theorem fn20 : Try.prog.funcs[20]? = some Try.f20 := by kernel_rfl
theorem fn57 : Try.prog.funcs[57]? = some Try.f57 := by kernel_rfl
theorem fn23 : Try.prog.funcs[23]? = some Try.f23 := by kernel_rfl
theorem fn21 : Try.prog.funcs[21]? = some Try.f21 := by kernel_rfl
theorem fn53 : Try.prog.funcs[53]? = some Try.f53 := by kernel_rfl
theorem fn16 : Try.prog.funcs[16]? = some Try.f16 := by kernel_rfl
theorem refCheck_calls (d : DocT) (hs : d.length ≤ 1000000) : ACalls Try.prog 22 [.ro (d.map partC)] (fun _ => .flat (.int .i64 (checkD d))) (fun _ => []) := by
  obtain ⟨c, hcd⟩ : ∃ c, c = checkD d := ⟨_, rfl⟩
  rw [← hcd]
  unfold checkD at hcd
  obtain ⟨X, hX⟩ : ∃ X, X = d.map partC := ⟨_, rfl⟩
  rw [← hX]
  refine acalls_symF tabF_ok fn22 rfl rfl rfl (by kernel_rfl) ?_
  have hfin : ∀ st, resA Try.prog Try.f22 st = some (.flat (.int .i64 c)) → G.Leaves Try.prog Try.f22 (fun _ => .flat (.int .i64 c)) (fun _ => []) st := fun st h => G.Leaves.plain h rfl
  rintro ⟨lt, le, eq, se, ar, dv, una, conv, len, sln, nat, nth, ixs, cel, sto, app, cpy, slc, mak, ixv, oth, dk, ib, call⟩ hS hm Q hQ
  obtain ⟨hlt, hle, heq, hse, har, hdv, huna, hconv, hlen, hsln, hnat, hnth, hixs, hcel, hsto, happ, hcpy, hslc, hmak, hixv, hoth, hdk, hib, hcall⟩ := Sym.mk.inj hS
  clear hS
  have hbox : ∀ e c off, cel (some ⟨e, [c]⟩) 0 off = if off ≤ c.length then some (c.drop off) else none := fun e c off => by rw [hcel]; rfl
  have hsbox : ∀ e c off sz y, sto (some ⟨e, [c]⟩) 0 off sz y = if y.cells.length = sz ∧ off + sz ≤ c.length ∧ y.cells.all AV.one = true then some ⟨e, [spl c off y.cells]⟩ else none := fun e c off sz y => by rw [hsto]; rfl
  have hcaw : ∀ {f args T base K}, CallK Try.prog f args T base K → call f args T base K := fun h => by rw [hcall]; exact h
  have hcal : ∀ {f args T base} {K : AV → Table → List Nat → List Nat → Prop}, (∃ args' ids val rows, Hands T ids args args' (val base) (rows base) ∧ ACalls Try.prog f args' val rows ∧ (rows base).length ≤ 8 ∧ K (val base) (adopt T base (rows base)) ids ((List.range (rows base).length).map (base + ·))) → call f args T base K := fun h => hcaw (call_own h)
  have hn : len X = d.length := by rw [hlen, hX, len_map]
  have e1 : lt 20000 (len X) = decide (20000 < (d.length : Int)) := by rw [hlt, hn]
  have hcd1 : decide (20000 < (d.length : Int)) = true → c = 6 := fun h => hcd.trans (if_pos (of_decide_eq_true h))
  have hcd2 : decide (20000 < (d.length : Int)) = false → c = match chk d 0 with | none => 4 | some n => if n = 1 then 0 else 4 := fun h => hcd.trans (if_neg (of_decide_eq_false h))
  generalize decide (20000 < (d.length : Int)) = b1 at e1 hcd1 hcd2
  clear hcd
  cbv
  rw [e1]
  cases b1
  rotate_left
  · obtain rfl := hcd1 rfl
    cbv
    exact hQ _ _ trivial (hfin _ (by cbv))
  replace hcd2 := hcd2 rfl
  cbv
  refine MW_loop hm [] [0, 3, 4] 5 (by simp) (fun m st => ∃ (i n : Int), CkAt d i n ∧ m = U.left d.length i ∧ st = stOf [.ro X, .dead, .dead, .flat (.int .i64 n), .flat (.int .i64 i)] [] 0) (U.left d.length 0) ?_ ?_
  · exact ⟨0, 0, ckAt_zero d, rfl, cut_eq (by cbv) (by rfl)⟩
  rintro m st ⟨i, n, hi, hm, rfl⟩
  cases hc : lt i (len X)
  · have hc' : decide (i < (d.length : Int)) = false := by rw [hlt, hn] at hc; exact hc
    have hend := ckAt_end hi hc'
    rw [hend] at hcd2
    have e2 : eq n 1 = decide (n = 1) := by rw [heq]
    have hcd3 : c = if decide (n = 1) = true then 0 else 4 := by rw [hcd2]; simp only [decide_eq_true_eq]
    generalize decide (n = 1) = b2 at e2 hcd3
    cbv
    rw [hc]; cbv
    rw [e2]; cases b2 <;> cbv
    all_goals (subst hcd3; exact hQ _ _ trivial (hfin _ (by cbv)))
  have hc' : decide (i < (d.length : Int)) = true := by rw [hlt, hn] at hc; exact hc
  obtain ⟨hix, hadd, q1, q2, hmem, hdr, htk⟩ := at_round (sz := 3) hX (fun _ => rfl) hs hi.1 hc'
  rw [← hnth] at hix
  rw [← har] at hadd
  have hbad := ckAt_bad hi hc'
  have hok := ckAt_step hs hi hc'
  rw [← har] at hok
  generalize atI d i = p at hix hbad hok
  generalize i + 1 = i2 at hadd q1 q2 hok
  have htc := refTakes_calls p.kind
  have hbb := refBad_eq p n
  generalize bad p n = bd at hbb hbad hok
  generalize takes p.kind = t at htc hbb hok
  obtain ⟨kd, pn, tx⟩ := p
  unfold partC at hix
  unfold refBad at hbb
  dsimp only at hix htc hbb
  have e3 : lt t 0 = decide (t < 0) := by rw [hlt]
  have e4 : lt n t = decide (n < t) := by rw [hlt]
  have e5 : se tx ⟨#[]⟩ = noText tx := by rw [hse]; rfl
  have e6 : eq kd 0 = decide (kd = 0) := by rw [heq]
  have e7 : eq pn 0 = decide (pn = 0) := by rw [heq]
  have e8 : eq kd 5 = decide (kd = 5) := by rw [heq]
  have e9 : lt pn 0 = decide (pn < 0) := by rw [hlt]
  have e10 : lt 100 pn = decide (100 < pn) := by rw [hlt]
  generalize decide (t < 0) = b3 at e3 hbb
  generalize decide (n < t) = b4 at e4 hbb
  generalize noText tx = b5 at e5 hbb
  generalize decide (kd = 0) = b6 at e6 hbb
  generalize decide (pn = 0) = b7 at e7 hbb
  generalize decide (kd = 5) = b8 at e8 hbb
  generalize decide (pn < 0) = b9 at e9 hbb
  generalize decide (100 < pn) = b10 at e10 hbb
  cbv
  rw [hc]; cbv
  repeat (first | (rw [hbox]; cbv) | (rw [hsbox]; cbv) | (rw [hix]; cbv))
  refine hcal ⟨_, [], _, _, .inl ⟨rfl, by cbv⟩, htc, by simp, ?_⟩
  cbv
  repeat' (first | (rw [hbox]; cbv) | (rw [hsbox]; cbv) | (rw [e3]; cases b3 <;> cbv) | (rw [e4]; cases b4 <;> cbv) | (rw [e5]; cases b5 <;> cbv) | (rw [e6]; cases b6 <;> cbv) | (rw [e7]; cases b7 <;> cbv) | (rw [e8]; cases b8 <;> cbv) | (rw [e9]; cases b9 <;> cbv) | (rw [e10]; cases b10 <;> cbv))
  all_goals first
    | (have h6 := hbad (hbb.symm.trans (by rfl)); rw [h6] at hcd2; subst hcd2; exact hQ _ _ trivial (hfin _ (by cbv)))
    | skip
  all_goals (obtain ⟨r1, _, _, r2, r3⟩ := hok (hbb.symm.trans (by rfl)); rw [r2, r3, hadd])
  all_goals
    exact ⟨[], [0, 3, 4], 5, U.left d.length i2, hm ▸ q2, by simp, i2, n + (1 - t), r1, rfl, cut_eq (by cbv) (by rfl)⟩
/-! ### Alike -/
theorem eq27 (p q : PartT) : eqStruct Try.prog 27 #[.int .i64 p.kind, .int .i64 p.n, .string p.text] #[.int .i64 q.kind, .int .i64 q.n, .string q.text] = some ((p.kind == q.kind) && ((p.n == q.n) && ((p.text == q.text) && true))) := by kernel_rfl
theorem ba_toList (s t : ByteArray) : (s.toList == t.toList) = (s == t) := by
  rw [Bool.eq_iff_iff, ba_beq, beq_iff_eq]
  refine ⟨fun h => ?_, fun h => by rw [h]⟩
  rw [ByteArray.toList_eq, ByteArray.toList_eq] at h
  cases s; cases t
  simpa using h
def sameP (p q : PartT) : Bool := (p.kind == q.kind) && ((p.n == q.n) && ((p.text == q.text) && true))
theorem sameP_iff {p q : PartT} : sameP p q = true ↔ p = q := by
  cases p; cases q
  simp [sameP, ba_beq]
theorem dv27 (p q : PartT) : dvOf Try.prog .neq 27 (.agg (partC p)) (.agg (partC q)) = some (.flat (.bool (!sameP p q))) := by
  rw [dvOf_eq]
  intro x y
  have h := eq27 p q
  show (eqStruct Try.prog 27 #[.int .i64 p.kind, .int .i64 p.n, .string p.text] #[.int .i64 q.kind, .int .i64 q.n, .string q.text]).map _ = _
  rw [h]; rfl
def sameL : DocT → DocT → Bool
  | [], [] => true
  | p :: a, q :: b => if sameP p q = true then sameL a b else false
  | _, _ => false
theorem sameL_iff : ∀ {a b : DocT}, sameL a b = true ↔ a = b
  | [], [] => by simp [sameL]
  | [], q :: b => by simp [sameL]
  | p :: a, [] => by simp [sameL]
  | p :: a, q :: b => by
    simp only [sameL]
    cases h : sameP p q
    · have : p ≠ q := fun e => by rw [sameP_iff.2 e] at h; cases h
      simp [this]
    · simp [sameP_iff.1 h, sameL_iff (a := a) (b := b)]
def SmAt (a b : DocT) (i : Int) : Prop := At a i ∧ a.length = b.length ∧ sameL a b = sameL (a.drop i.toNat) (b.drop i.toNat)
theorem smAt_no {a b : DocT} (h : decide ((a.length : Int) = b.length) = false) : sameL a b = false := by
  simp only [decide_eq_false_iff_not] at h
  cases hs : sameL a b with
  | false => rfl
  | true => rw [sameL_iff.1 hs] at h; omega
theorem smAt_zero {a b : DocT} (h : decide ((a.length : Int) = b.length) = true) : SmAt a b 0 := by
  simp only [decide_eq_true_eq] at h
  exact ⟨at_zero a, by omega, rfl⟩
theorem smAt_end {a b : DocT} {i : Int} (h : SmAt a b i) (hc : decide (i < (a.length : Int)) = false) : sameL a b = true := by
  have := at_end h.1 hc
  have h2 := h.2.1
  rw [h.2.2, List.drop_eq_nil_of_le (by omega), List.drop_eq_nil_of_le (by omega)]
  rfl
theorem smAt_at {a b : DocT} {i : Int} (h : SmAt a b i) (hc : decide (i < (a.length : Int)) = true) : At b i ∧ decide (i < (b.length : Int)) = true := by
  obtain ⟨⟨h0, h1⟩, h2, _⟩ := h
  simp only [decide_eq_true_eq] at hc ⊢
  exact ⟨⟨h0, by omega⟩, by omega⟩
theorem smAt_step {a b : DocT} {i : Int} (h : SmAt a b i) (hc : decide (i < (a.length : Int)) = true) : (sameP (atI a i) (atI b i) = true → SmAt a b (i + 1)) ∧ (sameP (atI a i) (atI b i) = false → sameL a b = false) := by
  obtain ⟨_, h0, h1⟩ := at_lt h.1 hc
  obtain ⟨hb, hbc⟩ := smAt_at h hc
  obtain ⟨_, _, hb1⟩ := at_lt hb hbc
  have h3 := h.2.2
  rw [drop_next h0 h1, drop_next h0 hb1] at h3
  simp only [sameL] at h3
  refine ⟨fun he => ⟨(at_step h.1 hc).1, h.2.1, by rw [h3, if_pos he]⟩, fun he => by rw [h3, if_neg (by rw [he]; decide)]⟩

theorem same20_calls (a b : DocT) (ha : a.length ≤ 1000000) (hb : b.length ≤ 1000000) : ACalls Try.prog 20 [.ro (a.map partC), .ro (b.map partC)] (fun _ => .flat (.bool (sameL a b))) (fun _ => []) := by
  have hno := @smAt_no a b
  obtain ⟨r, hr⟩ : ∃ r, r = sameL a b := ⟨_, rfl⟩
  have hz := @smAt_zero a b
  have hend := @smAt_end a b
  have hstep := @smAt_step a b
  rw [← hr] at hno hend hstep ⊢
  obtain ⟨X, hX⟩ : ∃ X, X = a.map partC := ⟨_, rfl⟩
  obtain ⟨Y, hY⟩ : ∃ X, X = b.map partC := ⟨_, rfl⟩
  rw [← hX, ← hY]
  refine acalls_symF tabF_ok fn20 rfl rfl rfl (by kernel_rfl) ?_
  have hfin : ∀ st, resA Try.prog Try.f20 st = some (.flat (.bool r)) → G.Leaves Try.prog Try.f20 (fun _ => .flat (.bool r)) (fun _ => []) st := fun st h => G.Leaves.plain h rfl
  rintro ⟨lt, le, eq, se, ar, dv, una, conv, len, sln, nat, nth, ixs, cel, sto, app, cpy, slc, mak, ixv, oth, dk, ib, call⟩ hS hm Q hQ
  obtain ⟨hlt, hle, heq, hse, har, hdv, huna, hconv, hlen, hsln, hnat, hnth, hixs, hcel, hsto, happ, hcpy, hslc, hmak, hixv, hoth, hdk, hib, hcall⟩ := Sym.mk.inj hS
  clear hS
  have hbox : ∀ e c off, cel (some ⟨e, [c]⟩) 0 off = if off ≤ c.length then some (c.drop off) else none := fun e c off => by rw [hcel]; rfl
  have hsbox : ∀ e c off sz y, sto (some ⟨e, [c]⟩) 0 off sz y = if y.cells.length = sz ∧ off + sz ≤ c.length ∧ y.cells.all AV.one = true then some ⟨e, [spl c off y.cells]⟩ else none := fun e c off sz y => by rw [hsto]; rfl
  have hcaw : ∀ {f args T base K}, CallK Try.prog f args T base K → call f args T base K := fun h => by rw [hcall]; exact h
  have hcal : ∀ {f args T base} {K : AV → Table → List Nat → List Nat → Prop}, (∃ args' ids val rows, Hands T ids args args' (val base) (rows base) ∧ ACalls Try.prog f args' val rows ∧ (rows base).length ≤ 8 ∧ K (val base) (adopt T base (rows base)) ids ((List.range (rows base).length).map (base + ·))) → call f args T base K := fun h => hcaw (call_own h)
  have hn : len X = a.length := by rw [hlen, hX, len_map]
  have hm2 : len Y = b.length := by rw [hlen, hY, len_map]
  have e1 : eq (len X) (len Y) = decide ((a.length : Int) = b.length) := by rw [heq, hn, hm2]
  generalize hb1 : decide ((a.length : Int) = b.length) = b1 at e1 hno hz
  cbv
  rw [e1]
  cases b1
  · obtain rfl := hno rfl
    cbv
    exact hQ _ _ trivial (hfin _ (by cbv))
  cbv
  refine MW_loop hm [] [0, 1, 5] 6 (by simp) (fun m st => ∃ (i : Int), SmAt a b i ∧ m = U.left a.length i ∧ st = stOf [.ro X, .ro Y, .dead, .dead, .dead, .flat (.int .i64 i)] [] 0) (U.left a.length 0) ?_ ?_
  · exact ⟨0, hz rfl, rfl, cut_eq (by cbv) (by rfl)⟩
  rintro m st ⟨i, hi, hm, rfl⟩
  cases hc : lt i (len X)
  · have hc' : decide (i < (a.length : Int)) = false := by rw [hlt, hn] at hc; exact hc
    obtain rfl := hend hi hc'
    cbv
    rw [hc]; cbv
    exact hQ _ _ trivial (hfin _ (by cbv))
  have hc' : decide (i < (a.length : Int)) = true := by rw [hlt, hn] at hc; exact hc
  obtain ⟨hbi, hbc⟩ := smAt_at hi hc'
  obtain ⟨hix, hadd, q1, q2, _, _, _⟩ := at_round (sz := 3) hX (fun _ => rfl) ha hi.1 hc'
  obtain ⟨hiy, _, _, _, _, _, _⟩ := at_round (sz := 3) hY (fun _ => rfl) hb hbi hbc
  rw [← hnth] at hix hiy
  rw [← har] at hadd
  obtain ⟨hs1, hs2⟩ := hstep hi hc'
  have hd := dv27 (atI a i) (atI b i)
  rw [← hdv] at hd
  generalize sameP (atI a i) (atI b i) = s at hs1 hs2 hd
  generalize i + 1 = i2 at hadd q1 q2 hs1
  generalize atI a i = p at hix hd
  generalize atI b i = q at hiy hd
  unfold partC at hix hiy hd
  cbv
  rw [hc]; cbv
  refine ⟨by rw [hdk]; kernel_rfl, ?_⟩
  repeat (first | (rw [hbox]; cbv) | (rw [hsbox]; cbv) | (rw [hix]; cbv) | (rw [hiy]; cbv) | (rw [hd]; cbv))
  refine ⟨by rw [hib]; kernel_rfl, ?_⟩
  cbv
  cases s
  · obtain rfl := hs2 rfl
    cbv
    exact hQ _ _ trivial (hfin _ (by cbv))
  cbv
  rw [hadd]
  exact ⟨[], [0, 1, 5], 6, U.left a.length i2, hm ▸ q2, by simp, i2, hs1 rfl, rfl, cut_eq (by cbv) (by rfl)⟩
theorem same57_calls (a b : DocT) (ha : a.length ≤ 1000000) (hb : b.length ≤ 1000000) : ACalls Try.prog 57 [.ro (a.map partC), .ro (b.map partC)] (fun _ => .flat (.bool (sameL a b))) (fun _ => []) := by
  have hno := @smAt_no a b
  obtain ⟨r, hr⟩ : ∃ r, r = sameL a b := ⟨_, rfl⟩
  have hz := @smAt_zero a b
  have hend := @smAt_end a b
  have hstep := @smAt_step a b
  rw [← hr] at hno hend hstep ⊢
  obtain ⟨X, hX⟩ : ∃ X, X = a.map partC := ⟨_, rfl⟩
  obtain ⟨Y, hY⟩ : ∃ X, X = b.map partC := ⟨_, rfl⟩
  rw [← hX, ← hY]
  refine acalls_symF tabF_ok fn57 rfl rfl rfl (by kernel_rfl) ?_
  have hfin : ∀ st, resA Try.prog Try.f57 st = some (.flat (.bool r)) → G.Leaves Try.prog Try.f57 (fun _ => .flat (.bool r)) (fun _ => []) st := fun st h => G.Leaves.plain h rfl
  rintro ⟨lt, le, eq, se, ar, dv, una, conv, len, sln, nat, nth, ixs, cel, sto, app, cpy, slc, mak, ixv, oth, dk, ib, call⟩ hS hm Q hQ
  obtain ⟨hlt, hle, heq, hse, har, hdv, huna, hconv, hlen, hsln, hnat, hnth, hixs, hcel, hsto, happ, hcpy, hslc, hmak, hixv, hoth, hdk, hib, hcall⟩ := Sym.mk.inj hS
  clear hS
  have hbox : ∀ e c off, cel (some ⟨e, [c]⟩) 0 off = if off ≤ c.length then some (c.drop off) else none := fun e c off => by rw [hcel]; rfl
  have hsbox : ∀ e c off sz y, sto (some ⟨e, [c]⟩) 0 off sz y = if y.cells.length = sz ∧ off + sz ≤ c.length ∧ y.cells.all AV.one = true then some ⟨e, [spl c off y.cells]⟩ else none := fun e c off sz y => by rw [hsto]; rfl
  have hcaw : ∀ {f args T base K}, CallK Try.prog f args T base K → call f args T base K := fun h => by rw [hcall]; exact h
  have hcal : ∀ {f args T base} {K : AV → Table → List Nat → List Nat → Prop}, (∃ args' ids val rows, Hands T ids args args' (val base) (rows base) ∧ ACalls Try.prog f args' val rows ∧ (rows base).length ≤ 8 ∧ K (val base) (adopt T base (rows base)) ids ((List.range (rows base).length).map (base + ·))) → call f args T base K := fun h => hcaw (call_own h)
  have hn : len X = a.length := by rw [hlen, hX, len_map]
  have hm2 : len Y = b.length := by rw [hlen, hY, len_map]
  have e1 : eq (len X) (len Y) = decide ((a.length : Int) = b.length) := by rw [heq, hn, hm2]
  generalize hb1 : decide ((a.length : Int) = b.length) = b1 at e1 hno hz
  cbv
  rw [e1]
  cases b1
  · obtain rfl := hno rfl
    cbv
    exact hQ _ _ trivial (hfin _ (by cbv))
  cbv
  refine MW_loop hm [] [0, 1, 12, 13] 14 (by simp) (fun m st => ∃ (i : Int), SmAt a b i ∧ m = U.left a.length i ∧ st = stOf [.ro X, .ro Y, .dead, .dead, .dead, .dead, .dead, .dead, .dead, .dead, .dead, .dead, .flat (.int .i64 (len X)), .flat (.int .i64 i)] [] 0) (U.left a.length 0) ?_ ?_
  · exact ⟨0, hz rfl, rfl, cut_eq (by cbv) (by rfl)⟩
  rintro m st ⟨i, hi, hm, rfl⟩
  cases hc : lt i (len X)
  · have hc' : decide (i < (a.length : Int)) = false := by rw [hlt, hn] at hc; exact hc
    obtain rfl := hend hi hc'
    cbv
    rw [hc]; cbv
    exact hQ _ _ trivial (hfin _ (by cbv))
  have hc' : decide (i < (a.length : Int)) = true := by rw [hlt, hn] at hc; exact hc
  obtain ⟨hbi, hbc⟩ := smAt_at hi hc'
  obtain ⟨hix, hadd, q1, q2, _, _, _⟩ := at_round (sz := 3) hX (fun _ => rfl) ha hi.1 hc'
  obtain ⟨hiy, _, _, _, _, _, _⟩ := at_round (sz := 3) hY (fun _ => rfl) hb hbi hbc
  rw [← hnth] at hix hiy
  rw [← har] at hadd
  obtain ⟨hs1, hs2⟩ := hstep hi hc'
  have hd := dv27 (atI a i) (atI b i)
  rw [← hdv] at hd
  generalize sameP (atI a i) (atI b i) = s at hs1 hs2 hd
  generalize i + 1 = i2 at hadd q1 q2 hs1
  generalize atI a i = p at hix hd
  generalize atI b i = q at hiy hd
  unfold partC at hix hiy hd
  cbv
  rw [hc]; cbv
  refine ⟨by rw [hdk]; kernel_rfl, ?_⟩
  repeat (first | (rw [hbox]; cbv) | (rw [hsbox]; cbv) | (rw [hix]; cbv) | (rw [hiy]; cbv) | (rw [hd]; cbv))
  refine ⟨by rw [hib]; kernel_rfl, ?_⟩
  cbv
  cases s
  · obtain rfl := hs2 rfl
    cbv
    exact hQ _ _ trivial (hfin _ (by cbv))
  cbv
  rw [hadd]
  exact ⟨[], [0, 1, 12, 13], 14, U.left a.length i2, hm ▸ q2, by simp, i2, hs1 rfl, rfl, cut_eq (by cbv) (by rfl)⟩
theorem docSame_calls (a b : DocT) (ha : a.length ≤ 1000000) (hb : b.length ≤ 1000000) : ACalls Try.prog 23 [.ro (a.map partC), .ro (b.map partC)] (fun _ => .flat (.bool (sameL a b))) (fun _ => []) := by
  have hc := same57_calls a b ha hb
  generalize sameL a b = r at hc ⊢
  generalize a.map partC = X at hc ⊢
  generalize b.map partC = Y at hc ⊢
  refine acalls_symF tabF_ok fn23 rfl rfl rfl (by kernel_rfl) ?_
  have hfin : ∀ st, resA Try.prog Try.f23 st = some (.flat (.bool r)) → G.Leaves Try.prog Try.f23 (fun _ => .flat (.bool r)) (fun _ => []) st := fun st h => G.Leaves.plain h rfl
  rintro ⟨lt, le, eq, se, ar, dv, una, conv, len, sln, nat, nth, ixs, cel, sto, app, cpy, slc, mak, ixv, oth, dk, ib, call⟩ hS hm Q hQ
  obtain ⟨hlt, hle, heq, hse, har, hdv, huna, hconv, hlen, hsln, hnat, hnth, hixs, hcel, hsto, happ, hcpy, hslc, hmak, hixv, hoth, hdk, hib, hcall⟩ := Sym.mk.inj hS
  clear hS
  have hbox : ∀ e c off, cel (some ⟨e, [c]⟩) 0 off = if off ≤ c.length then some (c.drop off) else none := fun e c off => by rw [hcel]; rfl
  have hsbox : ∀ e c off sz y, sto (some ⟨e, [c]⟩) 0 off sz y = if y.cells.length = sz ∧ off + sz ≤ c.length ∧ y.cells.all AV.one = true then some ⟨e, [spl c off y.cells]⟩ else none := fun e c off sz y => by rw [hsto]; rfl
  have hcaw : ∀ {f args T base K}, CallK Try.prog f args T base K → call f args T base K := fun h => by rw [hcall]; exact h
  have hcal : ∀ {f args T base} {K : AV → Table → List Nat → List Nat → Prop}, (∃ args' ids val rows, Hands T ids args args' (val base) (rows base) ∧ ACalls Try.prog f args' val rows ∧ (rows base).length ≤ 8 ∧ K (val base) (adopt T base (rows base)) ids ((List.range (rows base).length).map (base + ·))) → call f args T base K := fun h => hcaw (call_own h)
  cbv
  refine hcal ⟨_, [], _, _, .inl ⟨rfl, by cbv⟩, hc, by simp, ?_⟩
  cbv
  exact hQ _ _ trivial (hfin _ (by cbv))
/-! ### One part alone -/
def ofD (k : Int) : DocT := [⟨k, 0, ⟨#[]⟩⟩]
def textD (s : ByteArray) : DocT := [⟨0, 0, s⟩]
theorem of_calls (k : Int) : ACalls Try.prog 21 [.flat (.int .i64 k)] (fun m => .sl m 0 1) (fun _ => [⟨27, (ofD k).map partC⟩]) := by
  obtain ⟨Y, hY⟩ : ∃ Y, Y = (ofD k).map partC := ⟨_, rfl⟩
  have hcl := closed_part hY
  have hY' : [[AV.flat (.int .i64 k), .flat (.int .i64 0), .flat (.string ⟨#[]⟩)]] = Y := hY.symm
  rw [← hY]
  refine acalls_symF tabF_ok fn21 rfl rfl rfl (by kernel_rfl) ?_
  rintro ⟨lt, le, eq, se, ar, dv, una, conv, len, sln, nat, nth, ixs, cel, sto, app, cpy, slc, mak, ixv, oth, dk, ib, call⟩ hS hm Q hQ
  obtain ⟨hlt, hle, heq, hse, har, hdv, huna, hconv, hlen, hsln, hnat, hnth, hixs, hcel, hsto, happ, hcpy, hslc, hmak, hixv, hoth, hdk, hib, hcall⟩ := Sym.mk.inj hS
  clear hS
  have hbox : ∀ e c off, cel (some ⟨e, [c]⟩) 0 off = if off ≤ c.length then some (c.drop off) else none := fun e c off => by rw [hcel]; rfl
  have hsbox : ∀ e c off sz y, sto (some ⟨e, [c]⟩) 0 off sz y = if y.cells.length = sz ∧ off + sz ≤ c.length ∧ y.cells.all AV.one = true then some ⟨e, [spl c off y.cells]⟩ else none := fun e c off sz y => by rw [hsto]; rfl
  have hcaw : ∀ {f args T base K}, CallK Try.prog f args T base K → call f args T base K := fun h => by rw [hcall]; exact h
  have hcal : ∀ {f args T base} {K : AV → Table → List Nat → List Nat → Prop}, (∃ args' ids val rows, Hands T ids args args' (val base) (rows base) ∧ ACalls Try.prog f args' val rows ∧ (rows base).length ≤ 8 ∧ K (val base) (adopt T base (rows base)) ids ((List.range (rows base).length).map (base + ·))) → call f args T base K := fun h => hcaw (call_own h)
  cbv
  exact hQ _ _ trivial (leaves_own (k := 24) (by cbv) (by rw [← hY']; rfl) hcl)
theorem text_calls (s : ByteArray) : ACalls Try.prog 53 [.flat (.string s)] (fun m => .sl m 0 1) (fun _ => [⟨27, (textD s).map partC⟩]) := by
  obtain ⟨Y, hY⟩ : ∃ Y, Y = (textD s).map partC := ⟨_, rfl⟩
  have hcl := closed_part hY
  have hY' : [[AV.flat (.int .i64 0), .flat (.int .i64 0), .flat (.string s)]] = Y := hY.symm
  rw [← hY]
  refine acalls_symF tabF_ok fn53 rfl rfl rfl (by kernel_rfl) ?_
  rintro ⟨lt, le, eq, se, ar, dv, una, conv, len, sln, nat, nth, ixs, cel, sto, app, cpy, slc, mak, ixv, oth, dk, ib, call⟩ hS hm Q hQ
  obtain ⟨hlt, hle, heq, hse, har, hdv, huna, hconv, hlen, hsln, hnat, hnth, hixs, hcel, hsto, happ, hcpy, hslc, hmak, hixv, hoth, hdk, hib, hcall⟩ := Sym.mk.inj hS
  clear hS
  have hbox : ∀ e c off, cel (some ⟨e, [c]⟩) 0 off = if off ≤ c.length then some (c.drop off) else none := fun e c off => by rw [hcel]; rfl
  have hsbox : ∀ e c off sz y, sto (some ⟨e, [c]⟩) 0 off sz y = if y.cells.length = sz ∧ off + sz ≤ c.length ∧ y.cells.all AV.one = true then some ⟨e, [spl c off y.cells]⟩ else none := fun e c off sz y => by rw [hsto]; rfl
  have hcaw : ∀ {f args T base K}, CallK Try.prog f args T base K → call f args T base K := fun h => by rw [hcall]; exact h
  have hcal : ∀ {f args T base} {K : AV → Table → List Nat → List Nat → Prop}, (∃ args' ids val rows, Hands T ids args args' (val base) (rows base) ∧ ACalls Try.prog f args' val rows ∧ (rows base).length ≤ 8 ∧ K (val base) (adopt T base (rows base)) ids ((List.range (rows base).length).map (base + ·))) → call f args T base K := fun h => hcaw (call_own h)
  cbv
  exact hQ _ _ trivial (leaves_own (k := 24) (by cbv) (by rw [← hY']; rfl) hcl)
/-! ### Few -/
def fewD (d : DocT) : Bool := if decide (80 < (d.length : Int)) then false else d.all fun p => !decide (40 < (p.text.size : Int))
theorem few_facts {d : DocT} (h : fewD d = true) : d.length ≤ 80 ∧ ∀ p ∈ d, p.text.size ≤ 40 := by
  unfold fewD at h
  split at h
  · cases h
  · rename_i hl
    simp only [decide_eq_true_eq] at hl
    simp only [List.all_eq_true, Bool.not_eq_true', decide_eq_false_iff_not] at h
    exact ⟨by omega, fun p hp => by have := h p hp; omega⟩
def FwAt (d : DocT) (i : Int) : Prop := At d i ∧ (d.all fun p => !decide (40 < (p.text.size : Int))) = ((d.drop i.toNat).all fun p => !decide (40 < (p.text.size : Int)))
theorem fewD_calls (d : DocT) : ACalls Try.prog 16 [.ro (d.map partC)] (fun _ => .flat (.bool (fewD d))) (fun _ => []) := by
  obtain ⟨r, hr⟩ : ∃ r, r = fewD d := ⟨_, rfl⟩
  rw [← hr]
  unfold fewD at hr
  obtain ⟨X, hX⟩ : ∃ X, X = d.map partC := ⟨_, rfl⟩
  rw [← hX]
  refine acalls_symF tabF_ok fn16 rfl rfl rfl (by kernel_rfl) ?_
  have hfin : ∀ st, resA Try.prog Try.f16 st = some (.flat (.bool r)) → G.Leaves Try.prog Try.f16 (fun _ => .flat (.bool r)) (fun _ => []) st := fun st h => G.Leaves.plain h rfl
  rintro ⟨lt, le, eq, se, ar, dv, una, conv, len, sln, nat, nth, ixs, cel, sto, app, cpy, slc, mak, ixv, oth, dk, ib, call⟩ hS hm Q hQ
  obtain ⟨hlt, hle, heq, hse, har, hdv, huna, hconv, hlen, hsln, hnat, hnth, hixs, hcel, hsto, happ, hcpy, hslc, hmak, hixv, hoth, hdk, hib, hcall⟩ := Sym.mk.inj hS
  clear hS
  have hbox : ∀ e c off, cel (some ⟨e, [c]⟩) 0 off = if off ≤ c.length then some (c.drop off) else none := fun e c off => by rw [hcel]; rfl
  have hsbox : ∀ e c off sz y, sto (some ⟨e, [c]⟩) 0 off sz y = if y.cells.length = sz ∧ off + sz ≤ c.length ∧ y.cells.all AV.one = true then some ⟨e, [spl c off y.cells]⟩ else none := fun e c off sz y => by rw [hsto]; rfl
  have hcaw : ∀ {f args T base K}, CallK Try.prog f args T base K → call f args T base K := fun h => by rw [hcall]; exact h
  have hcal : ∀ {f args T base} {K : AV → Table → List Nat → List Nat → Prop}, (∃ args' ids val rows, Hands T ids args args' (val base) (rows base) ∧ ACalls Try.prog f args' val rows ∧ (rows base).length ≤ 8 ∧ K (val base) (adopt T base (rows base)) ids ((List.range (rows base).length).map (base + ·))) → call f args T base K := fun h => hcaw (call_own h)
  have hn : len X = d.length := by rw [hlen, hX, len_map]
  have e1 : lt 80 (len X) = decide (80 < (d.length : Int)) := by rw [hlt, hn]
  have hsz : decide (80 < (d.length : Int)) = false → d.length ≤ 1000000 := fun h => by simp only [decide_eq_false_iff_not] at h; omega
  generalize decide (80 < (d.length : Int)) = b1 at e1 hr hsz
  cbv
  rw [e1]
  cases b1
  rotate_left
  · subst hr
    cbv
    exact hQ _ _ trivial (hfin _ (by cbv))
  rw [if_neg (by decide)] at hr
  have hs := hsz rfl
  cbv
  refine MW_loop hm [] [0, 3] 4 (by simp) (fun m st => ∃ (i : Int), FwAt d i ∧ m = U.left d.length i ∧ st = stOf [.ro X, .dead, .dead, .flat (.int .i64 i)] [] 0) (U.left d.length 0) ?_ ?_
  · exact ⟨0, ⟨at_zero d, rfl⟩, rfl, cut_eq (by cbv) (by rfl)⟩
  rintro m st ⟨i, hi, hm, rfl⟩
  cases hc : lt i (len X)
  · have hc' : decide (i < (d.length : Int)) = false := by rw [hlt, hn] at hc; exact hc
    have : r = true := by rw [hr, hi.2, drop_end hi.1 hc']; rfl
    subst this
    cbv
    rw [hc]; cbv
    exact hQ _ _ trivial (hfin _ (by cbv))
  have hc' : decide (i < (d.length : Int)) = true := by rw [hlt, hn] at hc; exact hc
  obtain ⟨hix, hadd, q1, q2, _, hdr, _⟩ := at_round (sz := 3) hX (fun _ => rfl) hs hi.1 hc'
  rw [← hnth] at hix
  rw [← har] at hadd
  have hi2 := hi.2
  rw [hdr, List.all_cons, ← hr] at hi2
  have e2 : lt 40 (sln (atI d i).text) = decide (40 < ((atI d i).text.size : Int)) := by rw [hlt, hsln]
  generalize decide (40 < ((atI d i).text.size : Int)) = b2 at e2 hi2
  have hnext : b2 = false → FwAt d (i + 1) := fun h => ⟨q1, by rw [← hr, hi2, h]; rfl⟩
  generalize i + 1 = i2 at hadd q1 q2 hnext
  generalize atI d i = p at hix e2
  obtain ⟨kd, pn, tx⟩ := p
  unfold partC at hix
  dsimp only at hix e2
  cbv
  rw [hc]; cbv
  repeat (first | (rw [hbox]; cbv) | (rw [hsbox]; cbv) | (rw [hix]; cbv))
  rw [e2]; cases b2
  rotate_left
  · subst hi2
    cbv
    exact hQ _ _ trivial (hfin _ (by cbv))
  cbv
  rw [hadd]
  exact ⟨[], [0, 3], 4, U.left d.length i2, hm ▸ q2, by simp, i2, hnext rfl, rfl, cut_eq (by cbv) (by rfl)⟩
end Go.Proofs.Ytagflbmonlaioaa.D
