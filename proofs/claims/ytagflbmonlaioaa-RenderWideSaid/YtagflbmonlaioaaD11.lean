/- Contracts: fits.Lead, Tail; the document answers Flat, Lead, Tail. -/
import Derived.Test.YtagflbmonlaioaaD10
import Derived.Test.YtagflbmonlaioaaD8
namespace Go.Proofs.Ytagflbmonlaioaa.D
open Go G U K
set_option linter.unusedVariables false
set_option linter.unusedSimpArgs false
set_option maxRecDepth 100000
set_option maxHeartbeats 4000000
theorem fn29 : Try.prog.funcs[29]? = some Try.f29 := by kernel_rfl
theorem fn37 : Try.prog.funcs[37]? = some Try.f37 := by kernel_rfl
theorem fn39 : Try.prog.funcs[39]? = some Try.f39 := by kernel_rfl
/-! ### Ahead of the first place for a new line -/
def isBr (k : Int) : Bool := (decide (k = 1) || decide (k = 2)) || decide (k = 3)
def leadD : DocT → Int × Bool
  | [] => (0, false)
  | p :: d => if p.kind = 0 then ((p.text.size : Int) + (leadD d).1, (leadD d).2) else if isBr p.kind = true then (0, true) else leadD d
def tailD (d : DocT) : Int × Bool := leadD d.reverse
def leadV (r : Int × Bool) : AV := .tup [.flat (.int .i64 r.1), .flat (.bool r.2)]
theorem leadD_append : ∀ (a b : DocT), leadD (a ++ b) = if (leadD a).2 = true then leadD a else ((leadD a).1 + (leadD b).1, (leadD b).2)
  | [], b => by simp [leadD]
  | p :: a, b => by
    simp only [List.cons_append, leadD, leadD_append a b]
    by_cases h0 : p.kind = 0
    · simp only [h0, if_true]
      cases h : (leadD a).2 <;> simp [Int.add_assoc, h]
    · simp only [h0, if_false]
      cases isBr p.kind <;> simp
theorem leadD_bd : ∀ (d : DocT), (∀ p ∈ d, p.text.size ≤ 1000) → 0 ≤ (leadD d).1 ∧ (leadD d).1 ≤ 1000 * (d.length : Int)
  | [], _ => by simp [leadD]
  | p :: d, h => by
    obtain ⟨h1, h2⟩ := leadD_bd d fun q hq => h q (by simp [hq])
    have hp := h p (by simp)
    simp only [leadD, List.length_cons]
    split
    · exact ⟨show 0 ≤ (p.text.size : Int) + (leadD d).1 by omega, show (p.text.size : Int) + (leadD d).1 ≤ _ by omega⟩
    · split
      · exact ⟨by decide, show (0 : Int) ≤ _ by omega⟩
      · exact ⟨h1, by omega⟩
def szI (p : PartT) : Int := p.text.size
def LdAt (d : DocT) (l : DocT) (n : Int) : Prop := leadD d = (n + (leadD l).1, (leadD l).2)
theorem ld_nil {d : DocT} {n : Int} (h : LdAt d [] n) : leadD d = (n, false) := by rw [h]; simp [leadD]
theorem ld_text {d l : DocT} {p : PartT} {n : Int} (h : LdAt d (p :: l) n) (h0 : decide (p.kind = 0) = true) : LdAt d l (n + szI p) := by
  unfold szI
  unfold LdAt at h ⊢
  rw [h]
  simp only [leadD]
  rw [if_pos (of_decide_eq_true h0)]
  simp [Int.add_assoc]
theorem ld_br {d l : DocT} {p : PartT} {n : Int} (h : LdAt d (p :: l) n) (h0 : decide (p.kind = 0) = false) (hb : isBr p.kind = true) : leadD d = (n, true) := by
  rw [h]
  simp only [leadD]
  rw [if_neg (of_decide_eq_false h0), if_pos hb]
  simp
theorem ld_skip {d l : DocT} {p : PartT} {n : Int} (h : LdAt d (p :: l) n) (h0 : decide (p.kind = 0) = false) (hb : isBr p.kind = false) : LdAt d l n := by
  unfold LdAt at h ⊢
  rw [h]
  simp only [leadD]
  rw [if_neg (of_decide_eq_false h0), hb]
  simp
def LeAt (d : DocT) (i n : Int) : Prop := At d i ∧ LdAt d (d.drop i.toNat) n ∧ 0 ≤ n ∧ n ≤ 1000 * i
theorem leAt_zero (d : DocT) : LeAt d 0 0 := ⟨at_zero d, by unfold LdAt; simp, by omega, by omega⟩
theorem leAt_end {d : DocT} {i n : Int} (h : LeAt d i n) (hc : decide (i < (d.length : Int)) = false) : leadD d = (n, false) := by
  have := h.2.1
  rw [drop_end h.1 hc] at this
  exact ld_nil this
theorem leAt_round {d : DocT} {i n : Int} (hs : d.length ≤ 20000) (ht : ∀ p ∈ d, p.text.size ≤ 1000) (h : LeAt d i n) (hc : decide (i < (d.length : Int)) = true) :
    (decide ((atI d i).kind = 0) = true → LeAt d (i + 1) (n + szI (atI d i)) ∧ arI .add .i64 n (szI (atI d i)) = n + szI (atI d i)) ∧
    (decide ((atI d i).kind = 0) = false → isBr (atI d i).kind = true → leadD d = (n, true)) ∧ (decide ((atI d i).kind = 0) = false → isBr (atI d i).kind = false → LeAt d (i + 1) n) := by
  obtain ⟨_, h0, h1⟩ := at_lt h.1 hc
  obtain ⟨ha, h2, h3, h4⟩ := h
  rw [drop_next h0 h1] at h2
  have hq := (at_step ha hc).1
  have hp := ht _ (at_mem h0 h1)
  have hsz : szI (atI d i) = ((atI d i).text.size : Int) := rfl
  exact ⟨fun e => ⟨⟨hq, ld_text h2 e, by omega, by omega⟩, ar_add64 (by omega) (by omega)⟩, fun e e2 => ld_br h2 e e2, fun e e2 => ⟨hq, ld_skip h2 e e2, h3, by omega⟩⟩
def TlAt (d : DocT) (i n : Int) : Prop := -1 ≤ i ∧ i < d.length ∧ LdAt d.reverse (d.take (i + 1).toNat).reverse n ∧ 0 ≤ n ∧ n ≤ 1000 * (d.length - i)
theorem tlAt_zero (d : DocT) : TlAt d (d.length - 1) 0 := ⟨by omega, by omega, by
  rw [show ((d.length : Int) - 1 + 1).toNat = d.length by omega, List.take_length]; unfold LdAt; simp, by omega, by omega⟩
theorem tlAt_end {d : DocT} {i n : Int} (h : TlAt d i n) (hc : decide (0 ≤ i) = false) : tailD d = (n, false) := by
  simp only [decide_eq_false_iff_not] at hc
  have : i = -1 := by have := h.1; omega
  subst this
  exact ld_nil h.2.2.1
theorem tlAt_round {d : DocT} {i n : Int} (hs : d.length ≤ 20000) (ht : ∀ p ∈ d, p.text.size ≤ 1000) (h : TlAt d i n) (hc : decide (0 ≤ i) = true) :
    (decide ((atI d i).kind = 0) = true → TlAt d (i - 1) (n + szI (atI d i)) ∧ arI .add .i64 n (szI (atI d i)) = n + szI (atI d i)) ∧
    (decide ((atI d i).kind = 0) = false → isBr (atI d i).kind = true → tailD d = (n, true)) ∧ (decide ((atI d i).kind = 0) = false → isBr (atI d i).kind = false → TlAt d (i - 1) n) ∧
    arI .sub .i64 i 1 = i - 1 ∧ (i - 1 + 1).toNat < (i + 1).toNat ∧ At d i ∧ decide (i < (d.length : Int)) = true := by
  obtain ⟨h0, h1, h2, h3, h4⟩ := h
  simp only [decide_eq_true_eq] at hc
  rw [take_next hc h1, List.reverse_append, List.reverse_cons, List.reverse_nil, List.nil_append, List.singleton_append] at h2
  have hp := ht _ (at_mem hc h1)
  have hsz : szI (atI d i) = ((atI d i).text.size : Int) := rfl
  have e : i - 1 + 1 = i := by omega
  exact ⟨fun e1 => ⟨⟨by omega, by omega, by rw [e]; exact ld_text h2 e1, by omega, by omega⟩, ar_add64 (by omega) (by omega)⟩, fun e1 e2 => ld_br h2 e1 e2, fun e1 e2 => ⟨by omega, by omega, by rw [e]; exact ld_skip h2 e1 e2, h3, by omega⟩,
    ar_sub64 (by omega) (by omega), by omega, ⟨hc, by omega⟩, by simpa using h1⟩

theorem lead_calls (d : DocT) (hs : d.length ≤ 20000) (ht : ∀ p ∈ d, p.text.size ≤ 1000) : ACalls Try.prog 36 [.ro (d.map partC)] (fun _ => leadV (leadD d)) (fun _ => []) := by
  have hs1 : d.length ≤ 1000000 := Nat.le_trans hs (by decide)
  have hrd := @leAt_round d
  have hend := @leAt_end d
  have hia : ∀ i, At d i → decide (i < (d.length : Int)) = true → _ := fun i hi hc => at_round (sz := 3) (f := partC) rfl (fun _ => rfl) hs1 hi hc
  obtain ⟨r, hr⟩ : ∃ r, r = leadD d := ⟨_, rfl⟩
  rw [← hr] at hrd hend ⊢
  unfold leadV
  obtain ⟨X, hX⟩ : ∃ X, X = d.map partC := ⟨_, rfl⟩
  rw [← hX] at hia ⊢
  refine acalls_symF tabF_ok fn36 rfl rfl rfl (by kernel_rfl) ?_
  rintro ⟨lt, le, eq, se, ar, dv, una, conv, len, sln, nat, nth, ixs, cel, sto, app, cpy, slc, mak, ixv, oth, dk, ib, call⟩ hS hm Q hQ
  obtain ⟨hlt, hle, heq, hse, har, hdv, huna, hconv, hlen, hsln, hnat, hnth, hixs, hcel, hsto, happ, hcpy, hslc, hmak, hixv, hoth, hdk, hib, hcall⟩ := Sym.mk.inj hS
  clear hS
  have hnt : ∀ n : Nat, nat n = U.natI n := fun n => by rw [hnat]; rfl
  have hbox : ∀ e c off, cel (some ⟨e, [c]⟩) 0 off = if off ≤ c.length then some (c.drop off) else none := fun e c off => by rw [hcel]; rfl
  have hsbox : ∀ e c off sz y, sto (some ⟨e, [c]⟩) 0 off sz y = if y.cells.length = sz ∧ off + sz ≤ c.length ∧ y.cells.all AV.one = true then some ⟨e, [spl c off y.cells]⟩ else none := fun e c off sz y => by rw [hsto]; rfl
  have hcaw : ∀ {f args T base K}, CallK Try.prog f args T base K → call f args T base K := fun h => by rw [hcall]; exact h
  have hcal : ∀ {f args T base} {K : AV → Table → List Nat → List Nat → Prop}, (∃ args' ids val rows, Hands T ids args args' (val base) (rows base) ∧ ACalls Try.prog f args' val rows ∧ (rows base).length ≤ 8 ∧ K (val base) (adopt T base (rows base)) ids ((List.range (rows base).length).map (base + ·))) → call f args T base K := fun h => hcaw (call_own h)
  have hfin : ∀ n b st, r = (n, b) → resA Try.prog Try.f36 st = some (.tup [.flat (.int .i64 n), .flat (.bool b)]) → G.Leaves Try.prog Try.f36 (fun _ => .tup [.flat (.int .i64 r.1), .flat (.bool r.2)]) (fun _ => []) st := fun n b st h1 h => by
    rw [h1]; exact G.Leaves.plain h rfl
  have hnX : len X = d.length := by rw [hlen, hX, len_map]
  cbv
  refine MW_loop hm [] [4, 7, 8, 9] 10 (by simp) (fun mz st => ∃ (i n : Int), LeAt d i n ∧ mz = U.left d.length i ∧ st = stOf [.dead, .dead, .dead, .dead, .flat (.int .i64 n), .dead, .dead, .ro X, .flat (.int .i64 (len X)), .flat (.int .i64 i)] [] 0) (U.left d.length 0) ?_ ?_
  · exact ⟨0, 0, leAt_zero d, rfl, cut_eq (by cbv) (by rfl)⟩
  rintro mz st ⟨i, n, hi, hmz, rfl⟩
  cases hc : lt i (len X)
  · have hc' : decide (i < (d.length : Int)) = false := by rw [hlt, hnX] at hc; exact hc
    have hend := hend hi hc'
    cbv
    rw [hc]; cbv
    exact hQ _ _ trivial (hfin _ _ _ hend (by cbv))
  have hc' : decide (i < (d.length : Int)) = true := by rw [hlt, hnX] at hc; exact hc
  obtain ⟨hix, hadd, q1, q2, _, _, _⟩ := hia i hi.1 hc'
  obtain ⟨r1, r2, r3⟩ := hrd hs ht hi hc'

  rw [← hnth] at hix
  rw [← har] at hadd r1
  have hsz : sln (atI d i).text = szI (atI d i) := by rw [hsln]; rfl
  rw [← hsz] at r1
  have e0 : eq (atI d i).kind 0 = decide ((atI d i).kind = 0) := by rw [heq]
  have e1 : eq (atI d i).kind 1 = decide ((atI d i).kind = 1) := by rw [heq]
  have e2 : eq (atI d i).kind 2 = decide ((atI d i).kind = 2) := by rw [heq]
  have e3 : eq (atI d i).kind 3 = decide ((atI d i).kind = 3) := by rw [heq]
  unfold isBr at r2 r3
  clear hend hia hrd hsz
  generalize decide ((atI d i).kind = 0) = b0 at e0 r1 r2 r3
  generalize decide ((atI d i).kind = 1) = b1 at e1 r2 r3
  generalize decide ((atI d i).kind = 2) = b2 at e2 r2 r3
  generalize decide ((atI d i).kind = 3) = b3 at e3 r2 r3
  generalize i + 1 = i2 at hadd q2 r1 r3 q1
  generalize atI d i = p at hix e0 e1 e2 e3 r1
  obtain ⟨kd, pn, tx⟩ := p
  unfold partC at hix
  dsimp only at hix e0 e1 e2 e3 r1
  generalize n + sln tx = n2 at r1
  cbv
  rw [hc]; cbv
  repeat (first | (rw [hbox]; cbv) | (rw [hsbox]; cbv) | (rw [hix]; cbv))
  rw [e0]; cases b0
  rotate_left
  · obtain ⟨g1, g2⟩ := r1 rfl
    cbv
    repeat (first | (rw [hbox]; cbv) | (rw [hsbox]; cbv) | (rw [hix]; cbv) | (rw [g2]; cbv) | (rw [hadd]; cbv))
    exact ⟨[], [4, 7, 8, 9], 10, U.left d.length i2, hmz ▸ q2, by simp, i2, n2, g1, rfl, cut_eq (by cbv) (by rfl)⟩
  cbv
  repeat' (first | (rw [hbox]; cbv) | (rw [hsbox]; cbv) | (rw [e1]; cases b1 <;> cbv) | (rw [e2]; cases b2 <;> cbv) | (rw [e3]; cases b3 <;> cbv))
  all_goals first
    | (have g := r2 rfl rfl; exact hQ _ _ trivial (hfin _ _ _ g (by cbv)))
    | skip
  rw [hadd]
  exact ⟨[], [4, 7, 8, 9], 10, U.left d.length i2, hmz ▸ q2, by simp, i2, n, r3 rfl rfl, rfl, cut_eq (by cbv) (by rfl)⟩
theorem tail_calls (d : DocT) (hs : d.length ≤ 20000) (ht : ∀ p ∈ d, p.text.size ≤ 1000) : ACalls Try.prog 38 [.ro (d.map partC)] (fun _ => leadV (tailD d)) (fun _ => []) := by
  have hs1 : d.length ≤ 1000000 := Nat.le_trans hs (by decide)
  have hrd := @tlAt_round d
  have hend := @tlAt_end d
  have hia : ∀ i, At d i → decide (i < (d.length : Int)) = true → _ := fun i hi hc => at_round (sz := 3) (f := partC) rfl (fun _ => rfl) hs1 hi hc
  obtain ⟨r, hr⟩ : ∃ r, r = tailD d := ⟨_, rfl⟩
  rw [← hr] at hrd hend ⊢
  unfold leadV
  obtain ⟨X, hX⟩ : ∃ X, X = d.map partC := ⟨_, rfl⟩
  rw [← hX] at hia ⊢
  refine acalls_symF tabF_ok fn38 rfl rfl rfl (by kernel_rfl) ?_
  rintro ⟨lt, le, eq, se, ar, dv, una, conv, len, sln, nat, nth, ixs, cel, sto, app, cpy, slc, mak, ixv, oth, dk, ib, call⟩ hS hm Q hQ
  obtain ⟨hlt, hle, heq, hse, har, hdv, huna, hconv, hlen, hsln, hnat, hnth, hixs, hcel, hsto, happ, hcpy, hslc, hmak, hixv, hoth, hdk, hib, hcall⟩ := Sym.mk.inj hS
  clear hS
  have hnt : ∀ n : Nat, nat n = U.natI n := fun n => by rw [hnat]; rfl
  have hbox : ∀ e c off, cel (some ⟨e, [c]⟩) 0 off = if off ≤ c.length then some (c.drop off) else none := fun e c off => by rw [hcel]; rfl
  have hsbox : ∀ e c off sz y, sto (some ⟨e, [c]⟩) 0 off sz y = if y.cells.length = sz ∧ off + sz ≤ c.length ∧ y.cells.all AV.one = true then some ⟨e, [spl c off y.cells]⟩ else none := fun e c off sz y => by rw [hsto]; rfl
  have hcaw : ∀ {f args T base K}, CallK Try.prog f args T base K → call f args T base K := fun h => by rw [hcall]; exact h
  have hcal : ∀ {f args T base} {K : AV → Table → List Nat → List Nat → Prop}, (∃ args' ids val rows, Hands T ids args args' (val base) (rows base) ∧ ACalls Try.prog f args' val rows ∧ (rows base).length ≤ 8 ∧ K (val base) (adopt T base (rows base)) ids ((List.range (rows base).length).map (base + ·))) → call f args T base K := fun h => hcaw (call_own h)
  have hfin : ∀ n b st, r = (n, b) → resA Try.prog Try.f38 st = some (.tup [.flat (.int .i64 n), .flat (.bool b)]) → G.Leaves Try.prog Try.f38 (fun _ => .tup [.flat (.int .i64 r.1), .flat (.bool r.2)]) (fun _ => []) st := fun n b st h1 h => by
    rw [h1]; exact G.Leaves.plain h rfl
  have hnX : len X = d.length := by rw [hlen, hX, len_map]
  have k1 : ar .sub .i64 (len X) 1 = (d.length : Int) - 1 := by rw [har, hnX, ar_sub64 (by omega) (by omega)]
  have hz := tlAt_zero d
  generalize (d.length : Int) - 1 = i0 at k1 hz
  cbv
  rw [k1]; cbv
  refine MW_loop hm [] [0, 4, 5] 6 (by simp) (fun mz st => ∃ (i n : Int), TlAt d i n ∧ mz = (i + 1).toNat ∧ st = stOf [.ro X, .dead, .dead, .dead, .flat (.int .i64 n), .flat (.int .i64 i)] [] 0) ((i0 + 1).toNat) ?_ ?_
  · exact ⟨i0, 0, hz, rfl, cut_eq (by cbv) (by rfl)⟩
  rintro mz st ⟨i, n, hi, hmz, rfl⟩
  cases hc : le 0 i
  · have hc' : decide (0 ≤ i) = false := by rw [hle] at hc; exact hc
    have hend := hend hi hc'
    cbv
    rw [hc]; cbv
    exact hQ _ _ trivial (hfin _ _ _ hend (by cbv))
  have hc' : decide (0 ≤ i) = true := by rw [hle] at hc; exact hc
  obtain ⟨r1, r2, r3, hadd, q2, ha1, ha2⟩ := hrd hs ht hi hc'
  obtain ⟨hix, _, _, _, _, _, _⟩ := hia i ha1 ha2

  rw [← hnth] at hix
  rw [← har] at hadd r1
  have hsz : sln (atI d i).text = szI (atI d i) := by rw [hsln]; rfl
  rw [← hsz] at r1
  have e0 : eq (atI d i).kind 0 = decide ((atI d i).kind = 0) := by rw [heq]
  have e1 : eq (atI d i).kind 1 = decide ((atI d i).kind = 1) := by rw [heq]
  have e2 : eq (atI d i).kind 2 = decide ((atI d i).kind = 2) := by rw [heq]
  have e3 : eq (atI d i).kind 3 = decide ((atI d i).kind = 3) := by rw [heq]
  unfold isBr at r2 r3
  clear hend hia hrd hsz
  generalize decide ((atI d i).kind = 0) = b0 at e0 r1 r2 r3
  generalize decide ((atI d i).kind = 1) = b1 at e1 r2 r3
  generalize decide ((atI d i).kind = 2) = b2 at e2 r2 r3
  generalize decide ((atI d i).kind = 3) = b3 at e3 r2 r3
  generalize i - 1 = i2 at hadd q2 r1 r3
  generalize atI d i = p at hix e0 e1 e2 e3 r1
  obtain ⟨kd, pn, tx⟩ := p
  unfold partC at hix
  dsimp only at hix e0 e1 e2 e3 r1
  generalize n + sln tx = n2 at r1
  cbv
  rw [hc]; cbv
  repeat (first | (rw [hbox]; cbv) | (rw [hsbox]; cbv) | (rw [hix]; cbv))
  rw [e0]; cases b0
  rotate_left
  · obtain ⟨g1, g2⟩ := r1 rfl
    cbv
    repeat (first | (rw [hbox]; cbv) | (rw [hsbox]; cbv) | (rw [hix]; cbv) | (rw [g2]; cbv) | (rw [hadd]; cbv))
    exact ⟨[], [0, 4, 5], 6, (i2 + 1).toNat, hmz ▸ q2, by simp, i2, n2, g1, rfl, cut_eq (by cbv) (by rfl)⟩
  cbv
  repeat' (first | (rw [hbox]; cbv) | (rw [hsbox]; cbv) | (rw [e1]; cases b1 <;> cbv) | (rw [e2]; cases b2 <;> cbv) | (rw [e3]; cases b3 <;> cbv))
  all_goals first
    | (have g := r2 rfl rfl; exact hQ _ _ trivial (hfin _ _ _ g (by cbv)))
    | skip
  rw [hadd]
  exact ⟨[], [0, 4, 5], 6, (i2 + 1).toNat, hmz ▸ q2, by simp, i2, n, r3 rfl rfl, rfl, cut_eq (by cbv) (by rfl)⟩
/-! ### By trees -/
def top : Tr → PartT
  | .lf p => p
  | .un p _ => p
  | .cat p _ _ => p
theorem flat_kids (t : Tr) : t.flat = flats (kids t) ++ [top t] := by cases t <;> simp [Tr.flat, kids, top, flats]
theorem flats_cons (t : Tr) (l : List Tr) : flats (t :: l) = t.flat ++ flats l := by simp [flats]
theorem flatD_flats : ∀ (l : List Tr), flatD (flats l) = if (l.all fun u => (flatD u.flat).isSome) = true then some (l.flatMap fun u => (flatD u.flat).getD []) else none
  | [] => by simp [flats, flatD]
  | t :: l => by
    rw [flats_cons, flatD_append, flatD_flats l]
    simp only [List.all_cons, List.flatMap_cons]
    cases flatD t.flat with
    | none => simp
    | some a => cases (l.all fun u => (flatD u.flat).isSome) <;> simp
theorem flat_top {t : Tr} (h : flatP (top t) = some []) : flatD t.flat = flatD (flats (kids t)) := by
  rw [flat_kids, flatD_append]
  simp only [flatD, h]
  cases flatD (flats (kids t)) <;> simp
theorem lead_top {t : Tr} (h0 : decide ((top t).kind = 0) = false) (hb : isBr (top t).kind = false) : leadD t.flat = leadD (flats (kids t)) := by
  rw [flat_kids, leadD_append]
  have : leadD [top t] = (0, false) := by
    simp only [leadD]
    rw [if_neg (of_decide_eq_false h0), hb]; rfl
  rw [this]
  cases h : (leadD (flats (kids t))).2
  · simp only [Bool.false_eq_true, if_false, Int.add_zero]
    rw [← h]
  · simp
theorem tail_top {t : Tr} (h0 : decide ((top t).kind = 0) = false) (hb : isBr (top t).kind = false) : tailD t.flat = tailD (flats (kids t)) := by
  rw [flat_kids]
  unfold tailD
  rw [List.reverse_append, List.reverse_cons, List.reverse_nil, List.nil_append, List.singleton_append]
  simp only [leadD]
  rw [if_neg (of_decide_eq_false h0), hb]; rfl
theorem kids_ok {t u : Tr} (ht : t.ok) (h : u ∈ kids t) : u.ok ∧ u.flat.length < t.flat.length ∧ ∀ p ∈ u.flat, p ∈ t.flat := by
  cases t with
  | lf p => cases h
  | un p t =>
    simp only [kids, List.mem_cons, List.not_mem_nil, or_false] at h
    subst h
    exact ⟨ht.2.2, by simp [Tr.flat], fun p hp => by simp [Tr.flat, hp]⟩
  | cat p a b =>
    simp only [kids, List.mem_cons, List.not_mem_nil, or_false] at h
    rcases h with rfl | rfl
    · exact ⟨ht.2.2.1, by simp only [Tr.flat, List.length_append, List.length_cons, List.length_nil]; omega, fun p hp => by simp [Tr.flat, hp]⟩
    · exact ⟨ht.2.2.2, by simp only [Tr.flat, List.length_append, List.length_cons, List.length_nil]; omega, fun p hp => by simp [Tr.flat, hp]⟩
theorem kids_le (t : Tr) : (kids t).length ≤ 2 := by cases t <;> simp [kids]
theorem last_top {t : Tr} (hs : t.flat.length ≤ 20000) : ∃ k : Int, arI .sub .i64 (lenE (t.flat.map partC)) 1 = k ∧ nthE (t.flat.map partC) k 3 = some (.rp (partC (top t))) := by
  obtain ⟨h1, h2⟩ := last_at (p := top t) (d := flats (kids t)) (l := t.flat) (flat_kids t) (by omega)
  exact ⟨_, h1, h2⟩
/-- A tree by trees within it. -/
theorem tree_rec {Q : Tr → Prop} (h : ∀ t : Tr, t.ok → (∀ u ∈ kids t, Q u) → Q t) : ∀ t : Tr, t.ok → Q t := by
  intro t
  induction t with
  | lf p => exact fun ht => h _ ht fun u hu => by cases hu
  | un p t ih =>
    intro ht
    refine h _ ht fun u hu => ?_
    simp only [kids, List.mem_cons, List.not_mem_nil, or_false] at hu
    subst hu
    exact ih ht.2.2
  | cat p a b iha ihb =>
    intro ht
    refine h _ ht fun u hu => ?_
    simp only [kids, List.mem_cons, List.not_mem_nil, or_false] at hu
    rcases hu with rfl | rfl
    · exact iha ht.2.2.1
    · exact ihb ht.2.2.2
def Mild (d : DocT) : Prop := d.length ≤ 20000 ∧ ∀ p ∈ d, p.text.size ≤ 1000
theorem mild_kid {t u : Tr} (ht : t.ok) (hm : Mild t.flat) (h : u ∈ kids t) : Mild u.flat := by
  obtain ⟨_, h2, h3⟩ := kids_ok ht h
  exact ⟨by have := hm.1; omega, fun p hp => hm.2 p (h3 p hp)⟩

end Go.Proofs.Ytagflbmonlaioaa.D
