/- The laws FitsFlat, FitsEnds, FitsBoth: their contracts. -/
import Derived.Test.YtagflbmonlaioaaD12
import Derived.Test.YtagflbmonlaioaaD9
namespace Go.Proofs.Ytagflbmonlaioaa.D
open Go G U K
set_option linter.unusedVariables false
set_option linter.unusedSimpArgs false
set_option maxRecDepth 100000
set_option maxHeartbeats 4000000
theorem fn25 : Try.prog.funcs[25]? = some Try.f25 := by kernel_rfl
theorem fn4 : Try.prog.funcs[4]? = some Try.f4 := by kernel_rfl
theorem fn6 : Try.prog.funcs[6]? = some Try.f6 := by kernel_rfl
theorem fn7 : Try.prog.funcs[7]? = some Try.f7 := by kernel_rfl
theorem conv_u8 (m : Int) (h0 : 0 ≤ m) (h1 : m < 256) : evP Try.prog (convert 5 3 (.int .u8 m)) = some (.flat (.int .i64 m)) := by
  have e : evPure Try.prog (convert 5 3 (.int .u8 m)) = some (.int .i64 (IntKind.i64.wrap m)) := by kernel_rfl
  have e2 : IntKind.i64.wrap m = m := by rw [IntKind.wrap_i64]; omega
  unfold evP
  rw [e, e2]; rfl
theorem rem_u8 (a b : Int) (h0 : 0 ≤ a) (hb : 0 < b) : dvOf Try.prog .rem 5 (.flat (.int .u8 a)) (.flat (.int .u8 b)) = some (.flat (.int .u8 (a % b))) := by
  rw [dvOf_eq]
  intro x y
  have e : evPure Try.prog (Op.intDiv .rem .u8 a b) = some (.int .u8 (a.tmod b)) := by
    unfold Op.intDiv
    rw [if_neg (by omega)]
    rfl
  have e2 : (evPure Try.prog (do eqGuard .rem 5 x y (.int .u8 a) (.int .u8 b); binOp .rem 5 (.int .u8 a) (.int .u8 b))) = some (.int .u8 (a.tmod b)) := e
  show evP Try.prog _ = _
  unfold evP
  rw [e2, Int.tmod_eq_emod_of_nonneg h0]
  rfl

theorem dvnb (b : Bool) : dvOf Try.prog .neq 4 (.flat (.bool b)) (.flat (.bool b)) = some (.flat (.bool false)) := by
  rw [dvOf_eq]
  intro x y
  cases b <;> kernel_rfl
def exD : DocT := catD [textD ⟨#[97]⟩, ofD 1, textD ⟨#[98]⟩]
theorem exD_ok : checkD exD = 0 ∧ flatD exD = some [97, 32, 98] := by decide +kernel
theorem exD_mild : ∀ p ∈ exD, p.text.size ≤ 1000 := by decide +kernel
theorem awakeF_calls : ACalls Try.prog 25 [] (fun _ => .flat (.bool true)) (fun _ => []) := by
  have hcA := text_calls ⟨#[97]⟩
  have hcB := text_calls ⟨#[98]⟩
  have hcO := of_calls 1
  have hcC := cat_calls (textD ⟨#[97]⟩) [ofD 1, textD ⟨#[98]⟩] (by decide) (by decide) rfl
  have hcW := width_calls exD (by decide) exD_mild
  rw [if_pos exD_ok.1, exD_ok.2] at hcW
  change ACalls Try.prog 28 _ (fun _ => .flat (.int .i64 3)) _ at hcW
  obtain ⟨Y, hY⟩ : ∃ Y, Y = exD.map partC := ⟨_, rfl⟩
  have hYf := flat_of hY
  have hYl : 5 = Y.length := by rw [hY]; rfl
  rw [show catD (textD ⟨#[97]⟩ :: [ofD 1, textD ⟨#[98]⟩]) = exD from rfl, show exD.length = 5 from rfl, ← hY] at hcC
  rw [← hY] at hcW
  refine acalls_symF tabF_ok fn25 rfl rfl rfl (by kernel_rfl) ?_
  have hfin : ∀ st, resA Try.prog Try.f25 st = some (.flat (.bool true)) → G.Leaves Try.prog Try.f25 (fun _ => .flat (.bool true)) (fun _ => []) st := fun st h => G.Leaves.plain h rfl
  rintro ⟨lt, le, eq, se, ar, dv, una, conv, len, sln, nat, nth, ixs, cel, sto, app, cpy, slc, mak, ixv, oth, dk, ib, call⟩ hS hm Q hQ
  obtain ⟨hlt, hle, heq, hse, har, hdv, huna, hconv, hlen, hsln, hnat, hnth, hixs, hcel, hsto, happ, hcpy, hslc, hmak, hixv, hoth, hdk, hib, hcall⟩ := Sym.mk.inj hS
  clear hS
  have hnt : ∀ n : Nat, nat n = U.natI n := fun n => by rw [hnat]; rfl
  have hbox : ∀ e c off, cel (some ⟨e, [c]⟩) 0 off = if off ≤ c.length then some (c.drop off) else none := fun e c off => by rw [hcel]; rfl
  have hsbox : ∀ e c off sz y, sto (some ⟨e, [c]⟩) 0 off sz y = if y.cells.length = sz ∧ off + sz ≤ c.length ∧ y.cells.all AV.one = true then some ⟨e, [spl c off y.cells]⟩ else none := fun e c off sz y => by rw [hsto]; rfl
  have hcaw : ∀ {f args T base K}, CallK Try.prog f args T base K → call f args T base K := fun h => by rw [hcall]; exact h
  have hcal : ∀ {f args T base} {K : AV → Table → List Nat → List Nat → Prop}, (∃ args' ids val rows, Hands T ids args args' (val base) (rows base) ∧ ACalls Try.prog f args' val rows ∧ (rows base).length ≤ 8 ∧ K (val base) (adopt T base (rows base)) ids ((List.range (rows base).length).map (base + ·))) → call f args T base K := fun h => hcaw (call_own h)
  have q1 : eq 3 3 = true := by rw [heq]; rfl
  cbv
  refine hcal ⟨_, [], _, _, .inl ⟨rfl, by cbv⟩, hcA, by simp, ?_⟩
  cbv
  refine hcal ⟨_, [], _, _, .inl ⟨rfl, by cbv⟩, hcO, by simp, ?_⟩
  cbv
  refine hcal ⟨_, [], _, _, .inl ⟨rfl, by cbv⟩, hcB, by simp, ?_⟩
  cbv
  refine hcal ⟨[.ro [docC (textD ⟨#[97]⟩), docC (ofD 1), docC (textD ⟨#[98]⟩)]], [32, 8, 16, 24], _, _, hands_deep ⟨deep_els (X := [[.sl 8 0 1], [.sl 16 0 1], [.sl 24 0 1]]) (by simp) (by rfl) rfl ⟨⟨deep_row (by simp) (by rfl) rfl (flat_part _).read, trivial⟩, ⟨deep_row (by simp) (by rfl) rfl (flat_part _).read, trivial⟩, ⟨deep_row (by simp) (by rfl) rfl (flat_part _).read, trivial⟩, trivial⟩, trivial⟩ rfl (noRo_flat hYf), hcC, by simp, ?_⟩
  cbv
  refine hcal ⟨[.ro Y], [40], _, _, hands_deep ⟨deep_row (by simp) (by rfl) hYl hYf.read, trivial⟩ rfl (fun r hr => by cases hr), hcW, by simp, ?_⟩
  cbv
  rw [q1]; cbv
  exact hQ _ _ trivial (hfin _ (by cbv))
theorem few_mild {d : DocT} (h : fewD d = true) : d.length ≤ 20000 ∧ ∀ p ∈ d, p.text.size ≤ 1000 := by
  obtain ⟨h1, h2⟩ := few_facts h
  exact ⟨by omega, fun p hp => Nat.le_trans (h2 p hp) (by decide)⟩
theorem tree_flat {d : DocT} (h : checkD d = 0) (hm : d.length ≤ 20000 ∧ ∀ p ∈ d, p.text.size ≤ 1000) : ACalls Try.prog 29 [.ro (d.map partC)] (fun _ => flatV (flatD d)) (fun _ => []) ∧ ACalls Try.prog 37 [.ro (d.map partC)] (fun _ => leadV (leadD d)) (fun _ => []) ∧ ACalls Try.prog 39 [.ro (d.map partC)] (fun _ => leadV (tailD d)) (fun _ => []) := by
  obtain ⟨t, ht, rfl⟩ := tree_of h
  exact ⟨refFlat_calls t ht hm, refLead_calls t ht hm, refTail_calls t ht hm⟩
theorem fitsFlat_calls (d : DocT) : ACalls Try.prog 4 [.ro (d.map partC)] (fun _ => .flat (.bool true)) (fun _ => []) := by
  have hcA := awakeF_calls
  have hcF := fewD_calls d
  have hfew := @few_mild d
  have hcR := refCheck_calls d
  have hcL := flat_calls d
  have hcW := width_calls d
  have hcH := hard_calls d
  have hcT := @tree_flat d
  obtain ⟨o, ho⟩ : ∃ o, o = (if checkD d = 0 then flatD d else none) := ⟨_, rfl⟩
  rw [← ho, flatV_eq] at hcL
  rw [← ho] at hcW
  have ho1 : decide (checkD d = 0) = false → o = none := fun h => ho.trans (if_neg (of_decide_eq_false h))
  have ho2 : decide (checkD d = 0) = true → o = flatD d := fun h => ho.trans (if_pos (of_decide_eq_true h))
  have hcT2 : decide (checkD d = 0) = true → (d.length ≤ 20000 ∧ ∀ p ∈ d, p.text.size ≤ 1000) → ACalls Try.prog 29 [.ro (d.map partC)] (fun _ => flatV o) (fun _ => []) := fun h hm => by
    rw [ho2 h]; exact (hcT (of_decide_eq_true h) hm).1
  rw [flatV_eq] at hcT2
  have hwo : o.isSome = true → widthO o = ((txt (o.getD [])).size : Int) := fun h => by
    cases o with
    | none => cases h
    | some bs => rw [Option.getD_some, size_txt]; rfl
  have hwn : o.isSome = false → widthO o = -1 ∧ txt (o.getD []) = ⟨#[]⟩ := fun h => by
    cases o with
    | none => exact ⟨rfl, rfl⟩
    | some bs => cases h
  have hon : o = none → o.isSome = false := fun h => by rw [h]; rfl
  obtain ⟨X, hX⟩ : ∃ X, X = d.map partC := ⟨_, rfl⟩
  rw [← hX] at hcF hcR hcL hcW hcH hcT2 ⊢
  have hhd : ∀ i, At d i → decide (i < (d.length : Int)) = true → hardD (d.take (i + 1).toNat) = (hardD (d.take i.toNat) || decide ((atI d i).kind = 3)) := fun i hi hc => by
    obtain ⟨_, h0, h1⟩ := at_lt hi hc
    rw [take_next h0 h1]
    simp [hardD]
  clear hcT ho
  generalize hfw : fewD d = fw at hcF hfew
  refine acalls_symF tabF_ok fn4 rfl rfl rfl (by kernel_rfl) ?_
  have hfin : ∀ st, resA Try.prog Try.f4 st = some (.flat (.bool true)) → G.Leaves Try.prog Try.f4 (fun _ => .flat (.bool true)) (fun _ => []) st := fun st h => G.Leaves.plain h rfl
  rintro ⟨lt, le, eq, se, ar, dv, una, conv, len, sln, nat, nth, ixs, cel, sto, app, cpy, slc, mak, ixv, oth, dk, ib, call⟩ hS hm Q hQ
  obtain ⟨hlt, hle, heq, hse, har, hdv, huna, hconv, hlen, hsln, hnat, hnth, hixs, hcel, hsto, happ, hcpy, hslc, hmak, hixv, hoth, hdk, hib, hcall⟩ := Sym.mk.inj hS
  clear hS
  have hnt : ∀ n : Nat, nat n = U.natI n := fun n => by rw [hnat]; rfl
  have hbox : ∀ e c off, cel (some ⟨e, [c]⟩) 0 off = if off ≤ c.length then some (c.drop off) else none := fun e c off => by rw [hcel]; rfl
  have hsbox : ∀ e c off sz y, sto (some ⟨e, [c]⟩) 0 off sz y = if y.cells.length = sz ∧ off + sz ≤ c.length ∧ y.cells.all AV.one = true then some ⟨e, [spl c off y.cells]⟩ else none := fun e c off sz y => by rw [hsto]; rfl
  have hcaw : ∀ {f args T base K}, CallK Try.prog f args T base K → call f args T base K := fun h => by rw [hcall]; exact h
  have hcal : ∀ {f args T base} {K : AV → Table → List Nat → List Nat → Prop}, (∃ args' ids val rows, Hands T ids args args' (val base) (rows base) ∧ ACalls Try.prog f args' val rows ∧ (rows base).length ≤ 8 ∧ K (val base) (adopt T base (rows base)) ids ((List.range (rows base).length).map (base + ·))) → call f args T base K := fun h => hcaw (call_own h)
  have hnX : len X = d.length := by rw [hlen, hX, len_map]
  have heqr : ∀ v, eq v v = true := fun v => by rw [heq]; exact decide_eq_true rfl
  have hser : ∀ v, se v v = true := fun v => by rw [hse]; exact beq_self_eq_true _
  have hdb : ∀ b, dv .eql 4 (.flat (.bool b)) (.flat (.bool b)) = some (.flat (.bool true)) := fun b => by rw [hdv]; exact dvbb b
  have hdn : ∀ b, dv .neq 4 (.flat (.bool b)) (.flat (.bool b)) = some (.flat (.bool false)) := fun b => by rw [hdv]; exact dvnb b
  have e2 : eq (checkD d) 0 = decide (checkD d = 0) := by rw [heq]
  have hwo : o.isSome = true → sln (txt (o.getD [])) = widthO o := fun h => by rw [hwo h, hsln]
  have hon2 : decide (checkD d = 0) = false → o.isSome = false := fun h => hon (ho1 h)
  generalize decide (checkD d = 0) = b1 at e2 ho1 ho2 hcT2 hon2
  generalize checkD d = ck at e2 hcR
  generalize widthO o = w at hcW hwo hwn
  generalize txt (o.getD []) = s at hcL hwo hwn hcT2
  generalize o.isSome = so at hcL hwo hwn hcT2 hon hon2
  clear hon ho1 ho2
  cbv
  refine hcal ⟨_, [], _, _, .inl ⟨rfl, by cbv⟩, hcA, by simp, ?_⟩
  cbv
  refine hcal ⟨_, [], _, _, .inl ⟨rfl, by cbv⟩, hcF, by simp, ?_⟩
  cbv
  cases fw
  · cbv
    exact hQ _ _ trivial (hfin _ (by cbv))
  have hm0 := hfew rfl
  obtain ⟨hl, hp⟩ := hm0
  have hl1 : d.length ≤ 1000000 := Nat.le_trans hl (by decide)
  replace hcR := hcR hl1
  replace hcL := hcL hl hp
  replace hcW := hcW hl hp
  replace hcH := hcH hl1
  replace hcT2 := fun h => hcT2 h ⟨hl, hp⟩
  cbv
  refine hcal ⟨_, [], _, _, .inl ⟨rfl, by cbv⟩, hcL, by simp, ?_⟩
  cbv
  refine MW_loop hm [] [0, 3, 4, 5, 6] 7 (by simp) (fun mz st => ∃ (i : Int) (hd : Bool), At d i ∧ hd = hardD (d.take i.toNat) ∧ mz = U.left d.length i ∧ st = stOf [.ro X, .dead, .dead, .flat (.string s), .flat (.bool so), .flat (.bool hd), .flat (.int .i64 i)] [] 0) (U.left d.length 0) ?_ ?_
  · exact ⟨0, false, at_zero d, rfl, rfl, cut_eq (by cbv) (by rfl)⟩
  rintro mz st ⟨i, hd, hi, hhi, hmz, rfl⟩
  cases hc : lt i (len X)
  rotate_left
  · have hc' : decide (i < (d.length : Int)) = true := by rw [hlt, hnX] at hc; exact hc
    obtain ⟨hix, hadd, q1, q2, _, _, _⟩ := at_round (sz := 3) hX (fun _ => rfl) hl1 hi hc'
    rw [← hnth] at hix
    rw [← har] at hadd
    have hn := hhd i hi hc'
    have e3 : eq (atI d i).kind 3 = decide ((atI d i).kind = 3) := by rw [heq]
    rw [← hhi] at hn
    generalize decide ((atI d i).kind = 3) = b3 at e3 hn
    generalize i + 1 = i2 at hadd q1 q2 hn
    generalize atI d i = p at hix e3
    obtain ⟨kd, pn, tx⟩ := p
    unfold partC at hix
    dsimp only at hix e3
    cases hd
    · cbv
      rw [hc]; cbv
      rw [hix]; cbv
      rw [e3]; cbv
      rw [hadd]
      exact ⟨[], [0, 3, 4, 5, 6], 7, U.left d.length i2, hmz ▸ q2, by simp, i2, _, q1, hn.symm, rfl, cut_eq (by cbv) (by rfl)⟩
    · cbv
      rw [hc]; cbv
      rw [hadd]
      exact ⟨[], [0, 3, 4, 5, 6], 7, U.left d.length i2, hmz ▸ q2, by simp, i2, _, q1, hn.symm, rfl, cut_eq (by cbv) (by rfl)⟩
  have hc' : decide (i < (d.length : Int)) = false := by rw [hlt, hnX] at hc; exact hc
  rw [take_end hi hc'] at hhi
  subst hhi
  cbv
  rw [hc]; cbv
  refine hcal ⟨_, [], _, _, .inl ⟨rfl, by cbv⟩, hcH, by simp, ?_⟩
  cbv
  rw [hdn]; cbv
  refine hcal ⟨_, [], _, _, .inl ⟨rfl, by cbv⟩, hcR, by simp, ?_⟩
  cbv
  rw [e2]
  cases b1
  · obtain rfl := hon2 rfl
    obtain ⟨rfl, rfl⟩ := hwn rfl
    cbv
    rw [hser]; cbv
    refine hcal ⟨_, [], _, _, .inl ⟨rfl, by cbv⟩, hcW, by simp, ?_⟩
    cbv
    rw [heqr]; cbv
    exact hQ _ _ trivial (hfin _ (by cbv))
  replace hcT2 := hcT2 rfl
  cbv
  refine hcal ⟨_, [], _, _, .inl ⟨rfl, by cbv⟩, hcT2, by simp, ?_⟩
  cbv
  cases so
  · obtain ⟨rfl, rfl⟩ := hwn rfl
    cbv
    rw [hser]; cbv
    rw [hdb]; cbv
    refine hcal ⟨_, [], _, _, .inl ⟨rfl, by cbv⟩, hcW, by simp, ?_⟩
    cbv
    rw [heqr]; cbv
    exact hQ _ _ trivial (hfin _ (by cbv))
  have hw2 := hwo rfl
  cbv
  rw [hw2]; cbv
  rw [hser]; cbv
  rw [hdb]; cbv
  refine hcal ⟨_, [], _, _, .inl ⟨rfl, by cbv⟩, hcW, by simp, ?_⟩
  cbv
  rw [heqr]; cbv
  exact hQ _ _ trivial (hfin _ (by cbv))
theorem fitsEnds_calls (d : DocT) : ACalls Try.prog 6 [.ro (d.map partC)] (fun _ => .flat (.bool true)) (fun _ => []) := by
  have hcA := awakeF_calls
  have hcF := fewD_calls d
  have hfew := @few_mild d
  have hcR := refCheck_calls d
  have hcL := lead_calls d
  have hcT := tail_calls d
  have hcX : decide (checkD d = 0) = true → (d.length ≤ 20000 ∧ ∀ p ∈ d, p.text.size ≤ 1000) → _ := fun h hm => tree_flat (of_decide_eq_true h) hm
  generalize leadD d = r1 at hcL hcX
  generalize tailD d = r2 at hcT hcX
  obtain ⟨a1, a2⟩ := r1
  obtain ⟨c1, c2⟩ := r2
  unfold leadV at hcL hcT hcX
  dsimp only at hcL hcT hcX
  generalize d.map partC = X at hcF hcR hcL hcT hcX ⊢
  generalize hfw : fewD d = fw at hcF hfew
  refine acalls_symF tabF_ok fn6 rfl rfl rfl (by kernel_rfl) ?_
  have hfin : ∀ st, resA Try.prog Try.f6 st = some (.flat (.bool true)) → G.Leaves Try.prog Try.f6 (fun _ => .flat (.bool true)) (fun _ => []) st := fun st h => G.Leaves.plain h rfl
  rintro ⟨lt, le, eq, se, ar, dv, una, conv, len, sln, nat, nth, ixs, cel, sto, app, cpy, slc, mak, ixv, oth, dk, ib, call⟩ hS hm Q hQ
  obtain ⟨hlt, hle, heq, hse, har, hdv, huna, hconv, hlen, hsln, hnat, hnth, hixs, hcel, hsto, happ, hcpy, hslc, hmak, hixv, hoth, hdk, hib, hcall⟩ := Sym.mk.inj hS
  clear hS
  have hnt : ∀ n : Nat, nat n = U.natI n := fun n => by rw [hnat]; rfl
  have hbox : ∀ e c off, cel (some ⟨e, [c]⟩) 0 off = if off ≤ c.length then some (c.drop off) else none := fun e c off => by rw [hcel]; rfl
  have hsbox : ∀ e c off sz y, sto (some ⟨e, [c]⟩) 0 off sz y = if y.cells.length = sz ∧ off + sz ≤ c.length ∧ y.cells.all AV.one = true then some ⟨e, [spl c off y.cells]⟩ else none := fun e c off sz y => by rw [hsto]; rfl
  have hcaw : ∀ {f args T base K}, CallK Try.prog f args T base K → call f args T base K := fun h => by rw [hcall]; exact h
  have hcal : ∀ {f args T base} {K : AV → Table → List Nat → List Nat → Prop}, (∃ args' ids val rows, Hands T ids args args' (val base) (rows base) ∧ ACalls Try.prog f args' val rows ∧ (rows base).length ≤ 8 ∧ K (val base) (adopt T base (rows base)) ids ((List.range (rows base).length).map (base + ·))) → call f args T base K := fun h => hcaw (call_own h)
  have heqr : ∀ v, eq v v = true := fun v => by rw [heq]; exact decide_eq_true rfl
  have hdb : ∀ b, dv .eql 4 (.flat (.bool b)) (.flat (.bool b)) = some (.flat (.bool true)) := fun b => by rw [hdv]; exact dvbb b
  have e2 : eq (checkD d) 0 = decide (checkD d = 0) := by rw [heq]
  generalize decide (checkD d = 0) = b1 at e2 hcX
  generalize checkD d = ck at e2 hcR
  cbv
  refine hcal ⟨_, [], _, _, .inl ⟨rfl, by cbv⟩, hcA, by simp, ?_⟩
  cbv
  refine hcal ⟨_, [], _, _, .inl ⟨rfl, by cbv⟩, hcF, by simp, ?_⟩
  cbv
  cases fw
  · cbv
    exact hQ _ _ trivial (hfin _ (by cbv))
  obtain ⟨hl, hp⟩ := hfew rfl
  replace hcR := hcR (Nat.le_trans hl (by decide))
  replace hcL := hcL hl hp
  replace hcT := hcT hl hp
  replace hcX := fun h => hcX h ⟨hl, hp⟩
  cbv
  refine hcal ⟨_, [], _, _, .inl ⟨rfl, by cbv⟩, hcR, by simp, ?_⟩
  cbv
  rw [e2]
  cases b1
  · cbv
    exact hQ _ _ trivial (hfin _ (by cbv))
  obtain ⟨_, g1, g2⟩ := hcX rfl
  cbv
  refine hcal ⟨_, [], _, _, .inl ⟨rfl, by cbv⟩, hcL, by simp, ?_⟩
  cbv
  refine hcal ⟨_, [], _, _, .inl ⟨rfl, by cbv⟩, g1, by simp, ?_⟩
  cbv
  refine hcal ⟨_, [], _, _, .inl ⟨rfl, by cbv⟩, hcT, by simp, ?_⟩
  cbv
  refine hcal ⟨_, [], _, _, .inl ⟨rfl, by cbv⟩, g2, by simp, ?_⟩
  cbv
  repeat (first | (rw [hbox]; cbv) | (rw [hsbox]; cbv) | (rw [heqr]; cbv) | (rw [hdb]; cbv))
  exact hQ _ _ trivial (hfin _ (by cbv))
end Go.Proofs.Ytagflbmonlaioaa.D
