/- Contracts: bosketref37.Start, Parts, Depth. -/
import Derived.Test.YtagflbmonlaioaaD7
namespace Go.Proofs.Ytagflbmonlaioaa.D
open Go G U K
set_option linter.unusedVariables false
set_option linter.unusedSimpArgs false
set_option maxRecDepth 100000
set_option maxHeartbeats 4000000
def BkAt (d : DocT) (at_ i need : Int) : Prop := -1 ≤ i ∧ i ≤ at_ ∧ startD d at_ = back (d.take (i + 1).toNat).reverse need ∧ -(2 * (at_ - i) + 1) ≤ need ∧ need ≤ 2 * (at_ - i) + 1
theorem bkAt_zero {d : DocT} {a : Int} (h0 : 0 ≤ a) : BkAt d a a 1 := ⟨by omega, by omega, rfl, by omega, by omega⟩
theorem bkAt_end {d : DocT} {a i need : Int} (h : BkAt d a i need) (hc : decide (0 ≤ i) = false) : startD d a = 0 := by
  simp only [decide_eq_false_iff_not] at hc
  have : i = -1 := by have := h.1; omega
  subst this
  exact h.2.2.1
theorem bkAt_step {d : DocT} {a i need : Int} (hs : d.length ≤ 1000000) (ha : a < d.length) (h : BkAt d a i need) (hc : decide (0 ≤ i) = true) :
    arI .sub .i64 need 1 = need - 1 ∧ arI .add .i64 (need - 1) (takes (atI d i).kind) = need - 1 + takes (atI d i).kind ∧ arI .sub .i64 i 1 = i - 1 ∧
    (need - 1 + takes (atI d i).kind = 0 → startD d a = i) ∧ (need - 1 + takes (atI d i).kind ≠ 0 → BkAt d a (i - 1) (need - 1 + takes (atI d i).kind)) ∧ (i - 1 + 1).toNat < (i + 1).toNat := by
  obtain ⟨h0, h1, h2, h3, h4⟩ := h
  simp only [decide_eq_true_eq] at hc
  have ht := takes_le (atI d i).kind
  rw [take_next hc (by omega), List.reverse_append, List.reverse_cons, List.reverse_nil, List.nil_append, List.singleton_append] at h2
  simp only [back] at h2
  refine ⟨ar_sub64 (by omega) (by omega), ar_add64 (by omega) (by omega), ar_sub64 (by omega) (by omega), fun h => ?_, fun h => ⟨by omega, by omega, ?_, by omega, by omega⟩, by omega⟩
  · rw [h2, if_pos h, List.length_reverse, List.length_take]; omega
  · rw [h2, if_neg h, show i - 1 + 1 = i by omega]
theorem refStart_calls (d : DocT) (hs : d.length ≤ 1000000) (a : Int) (h0 : 0 ≤ a) (h1 : a < d.length) : ACalls Try.prog 35 [.ro (d.map partC), .flat (.int .i64 a)] (fun _ => .flat (.int .i64 (startD d a))) (fun _ => []) := by
  have hz := bkAt_zero (d := d) h0
  have hend := @bkAt_end d a
  have hstep := @bkAt_step d a
  have hia : ∀ i, At d i → decide (i < (d.length : Int)) = true → _ := fun i hi hc => at_round (sz := 3) (f := partC) rfl (fun _ => rfl) hs hi hc
  have hat : ∀ i need, BkAt d a i need → decide (0 ≤ i) = true → At d i ∧ decide (i < (d.length : Int)) = true := fun i need h hc => by
    simp only [decide_eq_true_eq] at hc ⊢
    have := h.2.1
    exact ⟨⟨hc, by omega⟩, by omega⟩
  generalize startD d a = r at hend hstep ⊢
  obtain ⟨X, hX⟩ : ∃ X, X = d.map partC := ⟨_, rfl⟩
  rw [← hX] at hia ⊢
  refine acalls_symF tabF_ok fn35 rfl rfl rfl (by kernel_rfl) ?_
  have hfin : ∀ st, resA Try.prog Try.f35 st = some (.flat (.int .i64 r)) → G.Leaves Try.prog Try.f35 (fun _ => .flat (.int .i64 r)) (fun _ => []) st := fun st h => G.Leaves.plain h rfl
  rintro ⟨lt, le, eq, se, ar, dv, una, conv, len, sln, nat, nth, ixs, cel, sto, app, cpy, slc, mak, ixv, oth, dk, ib, call⟩ hS hm Q hQ
  obtain ⟨hlt, hle, heq, hse, har, hdv, huna, hconv, hlen, hsln, hnat, hnth, hixs, hcel, hsto, happ, hcpy, hslc, hmak, hixv, hoth, hdk, hib, hcall⟩ := Sym.mk.inj hS
  clear hS
  have hnt : ∀ n : Nat, nat n = U.natI n := fun n => by rw [hnat]; rfl
  have hbox : ∀ e c off, cel (some ⟨e, [c]⟩) 0 off = if off ≤ c.length then some (c.drop off) else none := fun e c off => by rw [hcel]; rfl
  have hsbox : ∀ e c off sz y, sto (some ⟨e, [c]⟩) 0 off sz y = if y.cells.length = sz ∧ off + sz ≤ c.length ∧ y.cells.all AV.one = true then some ⟨e, [spl c off y.cells]⟩ else none := fun e c off sz y => by rw [hsto]; rfl
  have hcaw : ∀ {f args T base K}, CallK Try.prog f args T base K → call f args T base K := fun h => by rw [hcall]; exact h
  have hcal : ∀ {f args T base} {K : AV → Table → List Nat → List Nat → Prop}, (∃ args' ids val rows, Hands T ids args args' (val base) (rows base) ∧ ACalls Try.prog f args' val rows ∧ (rows base).length ≤ 8 ∧ K (val base) (adopt T base (rows base)) ids ((List.range (rows base).length).map (base + ·))) → call f args T base K := fun h => hcaw (call_own h)
  cbv
  refine MW_loop hm [] [0, 5, 6] 7 (by simp) (fun mz st => ∃ (i need : Int), BkAt d a i need ∧ mz = (i + 1).toNat ∧ st = stOf [.ro X, .dead, .dead, .dead, .dead, .flat (.int .i64 need), .flat (.int .i64 i)] [] 0) ((a + 1).toNat) ?_ ?_
  · exact ⟨a, 1, hz, rfl, cut_eq (by cbv) (by rfl)⟩
  rintro mz st ⟨i, need, hi, hmz, rfl⟩
  cases hc : le 0 i
  · have hc' : decide (0 ≤ i) = false := by rw [hle] at hc; exact hc
    obtain rfl := hend hi hc'
    cbv
    rw [hc]; cbv
    exact hQ _ _ trivial (hfin _ (by cbv))
  have hc' : decide (0 ≤ i) = true := by rw [hle] at hc; exact hc
  obtain ⟨hia1, hia2⟩ := hat i need hi hc'
  obtain ⟨hix, _, _, _, _, _, _⟩ := hia i hia1 hia2
  obtain ⟨r1, r2, r3, r4, r5, r6⟩ := hstep hs h1 hi hc'
  have htc := refTakes_calls (atI d i).kind
  rw [← hnth] at hix
  rw [← har] at r1 r2 r3
  have e1 : eq (need - 1 + takes (atI d i).kind) 0 = decide (need - 1 + takes (atI d i).kind = 0) := by rw [heq]
  have r4' : decide (need - 1 + takes (atI d i).kind = 0) = true → r = i := fun h => r4 (of_decide_eq_true h)
  have r5' : decide (need - 1 + takes (atI d i).kind = 0) = false → _ := fun h => r5 (of_decide_eq_false h)
  generalize decide (need - 1 + takes (atI d i).kind = 0) = b1 at e1 r4' r5'
  clear r4 r5 hend hstep hia hat
  generalize atI d i = p at hix r2 htc r5' e1
  obtain ⟨kd, pn, tx⟩ := p
  unfold partC at hix
  dsimp only at hix htc r2 r5' e1
  generalize takes kd = tk at htc r2 r5' e1
  generalize need - 1 + tk = nd2 at r2 r5' e1
  generalize need - 1 = nd1 at r1 r2
  generalize i - 1 = i2 at r3 r5' r6
  cbv
  rw [hc]; cbv
  rw [r1]; cbv
  repeat (first | (rw [hbox]; cbv) | (rw [hsbox]; cbv) | (rw [hix]; cbv))
  refine hcal ⟨_, [], _, _, .inl ⟨rfl, by cbv⟩, htc, by simp, ?_⟩
  cbv
  repeat (first | (rw [hbox]; cbv) | (rw [hsbox]; cbv) | (rw [r2]; cbv) | (rw [e1]; cbv))
  cases b1
  rotate_left
  · obtain rfl := r4' rfl
    cbv
    exact hQ _ _ trivial (hfin _ (by cbv))
  cbv
  rw [r3]
  exact ⟨[], [0, 5, 6], 7, (i2 + 1).toNat, hmz ▸ r6, by simp, i2, nd2, r5' rfl, rfl, cut_eq (by cbv) (by rfl)⟩
/-! ### Parts -/
def kids : Tr → List Tr
  | .lf _ => []
  | .un _ t => [t]
  | .cat _ a b => [a, b]
def kidC (t : Tr) : List AV := docC t.flat
theorem last_at {p : PartT} {d : DocT} {l : DocT} (h : l = d ++ [p]) (hs : l.length ≤ 1000000) : arI .sub .i64 (lenE (l.map partC)) 1 = d.length ∧ nthE (l.map partC) (d.length : Int) 3 = some (.rp (partC p)) := by
  subst h
  have hl : (d ++ [p]).length = d.length + 1 := by simp
  refine ⟨?_, ?_⟩
  · rw [len_map, hl, ar_sub64 (by omega) (by omega)]; omega
  · have := nth_map (f := partC) (l := d ++ [p]) (i := (d.length : Int)) (sz := 3) (fun _ => rfl) (by omega) (by rw [hl]; omega)
    rw [this]
    simp [atI, List.getD]
theorem parts_calls (t : Tr) (ht : t.ok) (hs : t.flat.length ≤ 20000) : ACalls Try.prog 59 [.ro (t.flat.map partC)] (fun k => .sl k 0 (kids t).length) (fun _ => [⟨23, (kids t).map kidC⟩]) := by
  cases t with
  | lf p =>
    have htc := refTakes_calls p.kind
    rw [ht.2] at htc
    obtain ⟨k1, k2⟩ := last_at (p := p) (d := []) (l := [p]) rfl (Nat.le_trans hs (by decide))
    obtain ⟨X, hX⟩ : ∃ X, X = ([p]).map partC := ⟨_, rfl⟩
    have hX3 := len3 hX
    have hXl : X.length = ([] : DocT).length + 1 := by rw [hX, List.length_map]; first | rfl | rw [List.length_append]; rfl
    unfold Tr.flat
    rw [← hX] at k1 k2 ⊢
    refine acalls_symF tabF_ok fn59 rfl rfl rfl (by kernel_rfl) ?_
    rintro ⟨lt, le, eq, se, ar, dv, una, conv, len, sln, nat, nth, ixs, cel, sto, app, cpy, slc, mak, ixv, oth, dk, ib, call⟩ hS hm Q hQ
    obtain ⟨hlt, hle, heq, hse, har, hdv, huna, hconv, hlen, hsln, hnat, hnth, hixs, hcel, hsto, happ, hcpy, hslc, hmak, hixv, hoth, hdk, hib, hcall⟩ := Sym.mk.inj hS
    clear hS
    have hnt : ∀ n : Nat, nat n = U.natI n := fun n => by rw [hnat]; rfl
    have hbox : ∀ e c off, cel (some ⟨e, [c]⟩) 0 off = if off ≤ c.length then some (c.drop off) else none := fun e c off => by rw [hcel]; rfl
    have hsbox : ∀ e c off sz y, sto (some ⟨e, [c]⟩) 0 off sz y = if y.cells.length = sz ∧ off + sz ≤ c.length ∧ y.cells.all AV.one = true then some ⟨e, [spl c off y.cells]⟩ else none := fun e c off sz y => by rw [hsto]; rfl
    have hcaw : ∀ {f args T base K}, CallK Try.prog f args T base K → call f args T base K := fun h => by rw [hcall]; exact h
    have hcal : ∀ {f args T base} {K : AV → Table → List Nat → List Nat → Prop}, (∃ args' ids val rows, Hands T ids args args' (val base) (rows base) ∧ ACalls Try.prog f args' val rows ∧ (rows base).length ≤ 8 ∧ K (val base) (adopt T base (rows base)) ids ((List.range (rows base).length).map (base + ·))) → call f args T base K := fun h => hcaw (call_own h)
    rw [← hlen, ← har] at k1
    rw [← hnth] at k2
    have e1 : eq 0 1 = false := by rw [heq]; decide
    have e2 : eq 0 2 = false := by rw [heq]; decide
    generalize (([] : DocT).length : Int) = L at k1 k2
    obtain ⟨kd, pn, tx⟩ := p
    unfold partC at k2
    dsimp only at k2 htc
    cbv
    rw [k1]; cbv
    repeat (first | (rw [hbox]; cbv) | (rw [hsbox]; cbv) | (rw [k2]; cbv))
    refine hcal ⟨_, [], _, _, .inl ⟨rfl, by cbv⟩, htc, by simp, ?_⟩
    cbv
    repeat (first | (rw [hbox]; cbv) | (rw [hsbox]; cbv) | (rw [e1]; cbv) | (rw [e2]; cbv))
    exact hQ _ _ trivial (leaves_nil 2 rfl (by rfl) rfl rfl)
  | un p t =>
    have htc := refTakes_calls p.kind
    rw [ht.2.1] at htc
    obtain ⟨k1, k2⟩ := last_at (p := p) (d := t.flat) (l := t.flat ++ [p]) rfl (Nat.le_trans hs (by decide))
    obtain ⟨X, hX⟩ : ∃ X, X = (t.flat ++ [p]).map partC := ⟨_, rfl⟩
    have hX3 := len3 hX
    have hXl : X.length = t.flat.length + 1 := by rw [hX, List.length_map]; first | rfl | rw [List.length_append]; rfl
    unfold Tr.flat
    rw [← hX] at k1 k2 ⊢
    have hXt : X.take t.flat.length = t.flat.map partC := by rw [hX, ← List.map_take, List.take_left' rfl]
    have htoN : ((t.flat.length : Int)).toNat = t.flat.length := by omega
    refine acalls_symF tabF_ok fn59 rfl rfl rfl (by kernel_rfl) ?_
    rintro ⟨lt, le, eq, se, ar, dv, una, conv, len, sln, nat, nth, ixs, cel, sto, app, cpy, slc, mak, ixv, oth, dk, ib, call⟩ hS hm Q hQ
    obtain ⟨hlt, hle, heq, hse, har, hdv, huna, hconv, hlen, hsln, hnat, hnth, hixs, hcel, hsto, happ, hcpy, hslc, hmak, hixv, hoth, hdk, hib, hcall⟩ := Sym.mk.inj hS
    clear hS
    have hnt : ∀ n : Nat, nat n = U.natI n := fun n => by rw [hnat]; rfl
    have hbox : ∀ e c off, cel (some ⟨e, [c]⟩) 0 off = if off ≤ c.length then some (c.drop off) else none := fun e c off => by rw [hcel]; rfl
    have hsbox : ∀ e c off sz y, sto (some ⟨e, [c]⟩) 0 off sz y = if y.cells.length = sz ∧ off + sz ≤ c.length ∧ y.cells.all AV.one = true then some ⟨e, [spl c off y.cells]⟩ else none := fun e c off sz y => by rw [hsto]; rfl
    have hcaw : ∀ {f args T base K}, CallK Try.prog f args T base K → call f args T base K := fun h => by rw [hcall]; exact h
    have hcal : ∀ {f args T base} {K : AV → Table → List Nat → List Nat → Prop}, (∃ args' ids val rows, Hands T ids args args' (val base) (rows base) ∧ ACalls Try.prog f args' val rows ∧ (rows base).length ≤ 8 ∧ K (val base) (adopt T base (rows base)) ids ((List.range (rows base).length).map (base + ·))) → call f args T base K := fun h => hcaw (call_own h)
    rw [← hlen, ← har] at k1
    rw [← hnth] at k2
    have e1 : eq 1 1 = true := by rw [heq]; decide
    have e2 : eq 1 2 = false := by rw [heq]; decide
    have hsl : ∀ T, slc T 23 (.ro X) none (some (.flat (.int .i64 ((t.flat).length : Int)))) = some (.ro (t.flat.map partC)) := fun T => by
      rw [hslc, slc_ro u23 z27 hX3 (bnd_hi (by omega) (by omega)), htoN, hXt]; rfl
    generalize ((t.flat).length : Int) = L at k1 k2 hsl
    obtain ⟨Y, hY⟩ : ∃ Y, Y = t.flat.map partC := ⟨_, rfl⟩
    rw [← hY] at hsl
    have hkid : (kids (.un p t)).map kidC = [[.ro Y]] := by rw [hY]; rfl
    obtain ⟨kd, pn, tx⟩ := p
    unfold partC at k2
    dsimp only at k2 htc
    cbv
    rw [k1]; cbv
    repeat (first | (rw [hbox]; cbv) | (rw [hsbox]; cbv) | (rw [k2]; cbv))
    refine hcal ⟨_, [], _, _, .inl ⟨rfl, by cbv⟩, htc, by simp, ?_⟩
    cbv
    repeat (first | (rw [hbox]; cbv) | (rw [hsbox]; cbv) | (rw [e1]; cbv) | (rw [e2]; cbv))
    rw [hsl]; cbv
    exact hQ _ _ trivial (leaves_own (k := 128) (by cbv) (by rw [hkid]; rfl) (by rw [hkid]; intro c hc; simp at hc; subst hc; rfl))
  | cat p a b =>
    have htc := refTakes_calls p.kind
    rw [ht.2.1] at htc
    obtain ⟨k1, k2⟩ := last_at (p := p) (d := (a.flat ++ b.flat)) (l := (a.flat ++ b.flat) ++ [p]) rfl (Nat.le_trans hs (by decide))
    obtain ⟨X, hX⟩ : ∃ X, X = ((a.flat ++ b.flat) ++ [p]).map partC := ⟨_, rfl⟩
    have hX3 := len3 hX
    have hXl : X.length = (a.flat ++ b.flat).length + 1 := by rw [hX, List.length_map]; first | rfl | rw [List.length_append]; rfl
    unfold Tr.flat
    rw [← hX] at k1 k2 ⊢
    have hs' : (a.flat ++ b.flat).length ≤ 20000 := by have h := hs; unfold Tr.flat at h; rw [List.length_append] at h; omega
    have hXt : X.take a.flat.length = a.flat.map partC := by rw [hX, ← List.map_take, List.append_assoc, List.take_left' rfl]
    have hXu : (X.take (a.flat ++ b.flat).length).drop a.flat.length = b.flat.map partC := by rw [hX, ← List.map_take, ← List.map_drop, List.take_left' rfl, List.drop_left' rfl]
    have hbp := flat_pos b
    have hl2 : (a.flat ++ b.flat).length = a.flat.length + b.flat.length := List.length_append
    have hst : startD ((a.flat ++ b.flat) ++ [p]) (((a.flat ++ b.flat).length : Int) - 1) = (a.flat.length : Int) := by
      have := start_last (d := (a.flat ++ b.flat) ++ [p]) (ts := [a]) (t := b) (i := ((a.flat ++ b.flat).length : Int) - 1) (by omega) ht.2.2.2 (by
        rw [flats_one, show ((((a.flat ++ b.flat).length : Int) - 1 + 1).toNat) = (a.flat ++ b.flat).length by omega, List.take_left' rfl])
      rw [flats_one] at this
      exact this
    have hcS := refStart_calls ((a.flat ++ b.flat) ++ [p]) (Nat.le_trans hs (by decide)) (((a.flat ++ b.flat).length : Int) - 1) (by omega) (by rw [List.length_append]; simp; omega)
    rw [hst, ← hX] at hcS
    refine acalls_symF tabF_ok fn59 rfl rfl rfl (by kernel_rfl) ?_
    rintro ⟨lt, le, eq, se, ar, dv, una, conv, len, sln, nat, nth, ixs, cel, sto, app, cpy, slc, mak, ixv, oth, dk, ib, call⟩ hS hm Q hQ
    obtain ⟨hlt, hle, heq, hse, har, hdv, huna, hconv, hlen, hsln, hnat, hnth, hixs, hcel, hsto, happ, hcpy, hslc, hmak, hixv, hoth, hdk, hib, hcall⟩ := Sym.mk.inj hS
    clear hS
    have hnt : ∀ n : Nat, nat n = U.natI n := fun n => by rw [hnat]; rfl
    have hbox : ∀ e c off, cel (some ⟨e, [c]⟩) 0 off = if off ≤ c.length then some (c.drop off) else none := fun e c off => by rw [hcel]; rfl
    have hsbox : ∀ e c off sz y, sto (some ⟨e, [c]⟩) 0 off sz y = if y.cells.length = sz ∧ off + sz ≤ c.length ∧ y.cells.all AV.one = true then some ⟨e, [spl c off y.cells]⟩ else none := fun e c off sz y => by rw [hsto]; rfl
    have hcaw : ∀ {f args T base K}, CallK Try.prog f args T base K → call f args T base K := fun h => by rw [hcall]; exact h
    have hcal : ∀ {f args T base} {K : AV → Table → List Nat → List Nat → Prop}, (∃ args' ids val rows, Hands T ids args args' (val base) (rows base) ∧ ACalls Try.prog f args' val rows ∧ (rows base).length ≤ 8 ∧ K (val base) (adopt T base (rows base)) ids ((List.range (rows base).length).map (base + ·))) → call f args T base K := fun h => hcaw (call_own h)
    rw [← hlen, ← har] at k1
    rw [← hnth] at k2
    have e1 : eq 2 1 = false := by rw [heq]; decide
    have e2 : eq 2 2 = true := by rw [heq]; decide
    have k3 : ar .sub .i64 ((a.flat ++ b.flat).length : Int) 1 = ((a.flat ++ b.flat).length : Int) - 1 := by rw [har, ar_sub64 (by omega) (by omega)]
    have hsl : ∀ T, slc T 23 (.ro X) none (some (.flat (.int .i64 (a.flat.length : Int)))) = some (.ro (a.flat.map partC)) := fun T => by
      rw [hslc, slc_ro u23 z27 hX3 (bnd_hi (by omega) (by omega)), show ((a.flat.length : Int)).toNat = a.flat.length by omega, hXt]; rfl
    have hsl2 : ∀ T, slc T 23 (.ro X) (some (.flat (.int .i64 (a.flat.length : Int)))) (some (.flat (.int .i64 ((a.flat ++ b.flat).length : Int)))) = some (.ro (b.flat.map partC)) := fun T => by
      rw [hslc, slc_ro u23 z27 hX3 (bnd_both (by omega) (by omega) (by omega)), show ((a.flat.length : Int)).toNat = a.flat.length by omega, show (((a.flat ++ b.flat).length : Int)).toNat = (a.flat ++ b.flat).length by omega, hXu]
    generalize ((a.flat ++ b.flat).length : Int) = L at k1 k2 k3 hcS hsl2
    generalize L - 1 = L2 at k3 hcS
    generalize (a.flat.length : Int) = La at hcS hsl hsl2
    obtain ⟨Y, hY⟩ : ∃ Y, Y = a.flat.map partC := ⟨_, rfl⟩
    obtain ⟨Z, hZ⟩ : ∃ Y, Y = b.flat.map partC := ⟨_, rfl⟩
    rw [← hY] at hsl
    rw [← hZ] at hsl2
    have hkid : (kids (.cat p a b)).map kidC = [[.ro Y], [.ro Z]] := by rw [hY, hZ]; rfl
    obtain ⟨kd, pn, tx⟩ := p
    unfold partC at k2
    dsimp only at k2 htc
    cbv
    rw [k1]; cbv
    repeat (first | (rw [hbox]; cbv) | (rw [hsbox]; cbv) | (rw [k2]; cbv))
    refine hcal ⟨_, [], _, _, .inl ⟨rfl, by cbv⟩, htc, by simp, ?_⟩
    cbv
    repeat (first | (rw [hbox]; cbv) | (rw [hsbox]; cbv) | (rw [e1]; cbv) | (rw [e2]; cbv))
    rw [k3]; cbv
    refine hcal ⟨_, [], _, _, .inl ⟨rfl, by cbv⟩, hcS, by simp, ?_⟩
    cbv
    refine ⟨by rw [hdk]; kernel_rfl, ?_⟩
    cbv
    rw [hsl]; cbv
    rw [hsl2]; cbv
    refine ⟨by rw [hib]; kernel_rfl, ?_⟩
    cbv
    exact hQ _ _ trivial (leaves_own (k := 216) (by cbv) (by rw [hkid]; rfl) (by rw [hkid]; intro c hc; simp at hc; rcases hc with rfl | rfl <;> rfl))
/-! ### Depth, part within part -/
theorem u64' : Try.prog.cellsOf 23 = 1 := by kernel_rfl
def deepTo (l : List Tr) : Int := l.foldl (fun (m : Int) t => max m t.depth) 0
theorem depth_kids (t : Tr) : t.depth = deepTo (kids t) + 1 := by cases t <;> rfl
theorem depth_bound : ∀ t : Tr, 1 ≤ t.depth ∧ t.depth ≤ (t.flat.length : Int)
  | .lf p => by simp [Tr.depth, Tr.flat]
  | .un p t => by have := depth_bound t; simp only [Tr.depth, Tr.flat, List.length_append, List.length_cons, List.length_nil]; omega
  | .cat p a b => by have := depth_bound a; have := depth_bound b; simp only [Tr.depth, Tr.flat, List.length_append, List.length_cons, List.length_nil]; omega
def DpAt (l : List Tr) (i m : Int) : Prop := At l i ∧ m = deepTo (l.take i.toNat)
theorem dpAt_end {l : List Tr} {i m : Int} (h : DpAt l i m) (hc : decide (i < (l.length : Int)) = false) : m = deepTo l := by rw [h.2, take_end h.1 hc]
theorem dpAt_step {l : List Tr} {i m : Int} (h : DpAt l i m) (hc : decide (i < (l.length : Int)) = true) : DpAt l (i + 1) (max m (atI l i).depth) := by
  obtain ⟨_, h0, h1⟩ := at_lt h.1 hc
  refine ⟨(at_step h.1 hc).1, ?_⟩
  rw [take_next h0 h1, deepTo, List.foldl_append, h.2]; rfl
theorem refDepth_calls : ∀ (t : Tr), t.ok → t.flat.length ≤ 20000 → ACalls Try.prog 34 [.ro (t.flat.map partC)] (fun _ => .flat (.int .i64 t.depth)) (fun _ => []) := by
  have key : ∀ (t : Tr), t.ok → t.flat.length ≤ 20000 → (∀ u ∈ kids t, ACalls Try.prog 34 [.ro (u.flat.map partC)] (fun _ => .flat (.int .i64 u.depth)) (fun _ => [])) → ACalls Try.prog 34 [.ro (t.flat.map partC)] (fun _ => .flat (.int .i64 t.depth)) (fun _ => []) := by
    intro t ht hs hk
    have hcP := parts_calls t ht hs
    have hdb := (depth_bound t).2
    rw [depth_kids t] at hdb ⊢
    obtain ⟨ks, hks⟩ : ∃ ks, ks = kids t := ⟨_, rfl⟩
    rw [← hks] at hcP hk hdb ⊢
    have hkl : ks.length ≤ 2 := by rw [hks]; cases t <;> simp [kids]
    obtain ⟨n, hn⟩ : ∃ n, n = ks.length := ⟨_, rfl⟩
    rw [← hn] at hcP
    have hend := @dpAt_end ks
    obtain ⟨K, hK⟩ : ∃ K, K = ks.map kidC := ⟨_, rfl⟩
    have hKc : ∀ c ∈ K, closedAll [] c = true := by rw [hK]; exact closed_map fun _ => rfl
    have hb0 : 0 ≤ deepTo ks := by
      have : ∀ (l : List Tr) (a : Int), a ≤ l.foldl (fun (m : Int) t => max m t.depth) a := by
        intro l
        induction l with
        | nil => intro a; exact Int.le_refl a
        | cons x l ih => intro a; exact Int.le_trans (by omega) (ih (max a x.depth))
      exact this ks 0
    have hadd1 : arI .add .i64 (deepTo ks) 1 = deepTo ks + 1 := ar_add64 (by omega) (by omega)
    have hks1 : ks.length ≤ 1000000 := by omega
    rw [← hK] at hcP
    generalize t.flat.map partC = X at hcP ⊢
    generalize deepTo ks = dk at hend hdb hadd1 hb0 ⊢
    generalize dk + 1 = r at hadd1 hdb ⊢
    clear hks hdb hb0 hs ht
    refine acalls_symF tabF_ok fn34 rfl rfl rfl (by kernel_rfl) ?_
    have hfin : ∀ st, resA Try.prog Try.f34 st = some (.flat (.int .i64 r)) → G.Leaves Try.prog Try.f34 (fun _ => .flat (.int .i64 r)) (fun _ => []) st := fun st h => G.Leaves.plain h rfl
    rintro ⟨lt, le, eq, se, ar, dv, una, conv, len, sln, nat, nth, ixs, cel, sto, app, cpy, slc, mak, ixv, oth, dk, ib, call⟩ hS hm Q hQ
    obtain ⟨hlt, hle, heq, hse, har, hdv, huna, hconv, hlen, hsln, hnat, hnth, hixs, hcel, hsto, happ, hcpy, hslc, hmak, hixv, hoth, hdk, hib, hcall⟩ := Sym.mk.inj hS
    clear hS
    have hnt : ∀ n : Nat, nat n = U.natI n := fun n => by rw [hnat]; rfl
    have hbox : ∀ e c off, cel (some ⟨e, [c]⟩) 0 off = if off ≤ c.length then some (c.drop off) else none := fun e c off => by rw [hcel]; rfl
    have hsbox : ∀ e c off sz y, sto (some ⟨e, [c]⟩) 0 off sz y = if y.cells.length = sz ∧ off + sz ≤ c.length ∧ y.cells.all AV.one = true then some ⟨e, [spl c off y.cells]⟩ else none := fun e c off sz y => by rw [hsto]; rfl
    have hcaw : ∀ {f args T base K}, CallK Try.prog f args T base K → call f args T base K := fun h => by rw [hcall]; exact h
    have hcal : ∀ {f args T base} {K : AV → Table → List Nat → List Nat → Prop}, (∃ args' ids val rows, Hands T ids args args' (val base) (rows base) ∧ ACalls Try.prog f args' val rows ∧ (rows base).length ≤ 8 ∧ K (val base) (adopt T base (rows base)) ids ((List.range (rows base).length).map (base + ·))) → call f args T base K := fun h => hcaw (call_own h)
    have hmx : ∀ (T : Table) id ρ x y ts a b, ρ x = some (.flat (.int .i64 a)) → ρ y = some (.flat (.int .i64 b)) → oth T id ρ 3 (.call { callee := .builtin .max, args := #[x, y], argTypes := ts }) = some (.flat (.int .i64 (max a b)), T) := fun T id ρ x y ts a b h1 h2 => by
      rw [hoth]; exact oth_max h1 h2
    rw [← har] at hadd1
    cbv
    refine hcal ⟨_, [], _, _, .inl ⟨rfl, by cbv⟩, hcP, by simp, ?_⟩
    cbv
    refine MW_loop hm [24] [3, 4, 5] 6 (by simp) (fun mz st => ∃ (i m : Int), DpAt ks i m ∧ mz = U.left ks.length i ∧ st = stOf [.dead, .dead, .dead, .flat (.int .i64 m), .sl 0 0 n, .flat (.int .i64 i)] [some ⟨23, K⟩] 1) (U.left ks.length 0) ?_ ?_
    · exact ⟨0, 0, ⟨at_zero ks, rfl⟩, rfl, cut_eq (by cbv) (cutRows_cons (by rfl) (hKc) rfl)⟩
    rintro mz st ⟨i, m, hi, hmz, rfl⟩
    cases hc : lt i (nat n)
    · have hc' : decide (i < (ks.length : Int)) = false := by rw [hlt, hnt] at hc; unfold natI at hc; rw [hn] at hc; exact hc
      obtain rfl := hend hi hc'
      cbv
      rw [hc]; cbv
      rw [hadd1]; cbv
      exact hQ _ _ trivial (hfin _ (by cbv))
    have hc' : decide (i < (ks.length : Int)) = true := by rw [hlt, hnt] at hc; unfold natI at hc; rw [hn] at hc; exact hc
    obtain ⟨_, hadd, q1, q2, hmem, hdr, htk⟩ := at_round (sz := 1) hK (fun _ => rfl) hks1 hi.1 hc'
    obtain ⟨_, i0, i1⟩ := at_lt hi.1 hc'
    have hx1 : ∀ id, ixs (some ⟨23, K⟩) id 0 n i 1 = some (.ptr id i.toNat 0) := fun id => by rw [hixs]; exact own_ix u64' i0 (by rw [hn]; exact i1) id
    have hx2 : cel (some ⟨23, K⟩) i.toNat 0 = some (kidC (atI ks i)) := by rw [hcel, hK, own_cel (get_map i0 i1) (Nat.zero_le _)]; rfl
    have hcI := hk _ hmem
    have hnext := dpAt_step hi hc'
    rw [← har] at hadd
    unfold kidC docC at hx2
    obtain ⟨m2, hm2⟩ : ∃ m2, m2 = max m (atI ks i).depth := ⟨_, rfl⟩
    rw [← hm2] at hnext
    generalize (atI ks i).depth = dd at hcI hm2
    generalize (atI ks i).flat.map partC = UU at hcI hx2
    generalize i.toNat = iN at hx1 hx2
    generalize i + 1 = i2 at hadd q1 q2 hnext
    cbv
    rw [hc]; cbv
    repeat (first | (rw [hbox]; cbv) | (rw [hsbox]; cbv) | (rw [hx1]; cbv) | (rw [hx2]; cbv))
    refine hcal ⟨_, [], _, _, .inl ⟨rfl, by cbv⟩, hcI, by simp, ?_⟩
    cbv
    rw [hmx _ _ _ _ _ _ _ _ (by rfl) (by rfl), ← hm2]; cbv
    rw [hadd]
    exact ⟨[0], [3, 4, 5], 6, U.left ks.length i2, hmz ▸ q2, by simp, i2, m2, hnext, rfl, cut_eq (by cbv) (cutRows_cons (by rfl) (hKc) rfl)⟩
  intro t
  induction t with
  | lf p => exact fun ht hs => key _ ht hs fun u hu => by cases hu
  | un p t ih =>
    intro ht hs
    refine key _ ht hs fun u hu => ?_
    simp only [kids, List.mem_cons, List.not_mem_nil, or_false] at hu
    subst hu
    exact ih ht.2.2 (by unfold Tr.flat at hs; rw [List.length_append] at hs; omega)
  | cat p a b iha ihb =>
    intro ht hs
    refine key _ ht hs fun u hu => ?_
    unfold Tr.flat at hs
    rw [List.length_append, List.length_append] at hs
    simp only [kids, List.mem_cons, List.not_mem_nil, or_false] at hu
    rcases hu with rfl | rfl
    · exact iha ht.2.2.1 (by omega)
    · exact ihb ht.2.2.2 (by omega)
end Go.Proofs.Ytagflbmonlaioaa.D
