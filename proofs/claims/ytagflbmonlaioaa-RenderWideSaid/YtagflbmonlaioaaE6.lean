/- Contracts: lay.All. -/
import Derived.Test.YtagflbmonlaioaaE5
namespace Go.Proofs.Ytagflbmonlaioaa.D
open Go G U K
set_option linter.unusedVariables false
set_option linter.unusedSimpArgs false
set_option maxRecDepth 100000
set_option maxHeartbeats 4000000
theorem fn42 : Try.prog.funcs[42]? = some Try.f42 := by kernel_rfl
theorem leaves_pair {P : Program} {fn : Func} {e : TypeId} {X : List (List AV)} {st : St} {k n : Nat} {v : AV} (h : resA P fn st = some (.tup [.sl k 0 n, v])) (hv : closedIn [] v = true) (hT : st.T k = some ⟨e, X⟩) (hX : ∀ c ∈ X, closedAll [] c = true) : G.Leaves P fn (fun m => .tup [.sl m 0 n, v]) (fun _ => [⟨e, X⟩]) st := by
  refine ⟨[], [], [k], .tup [.sl k 0 n, v], [⟨e, X⟩], h, by simp, by simp, by simp [closedIn, closedAll, closed_up v hv], by simp [frz, nils, hT], ?_, fun m => ⟨by simp [ren, rens, newName, ren_nil _ v hv], ?_⟩⟩
  · intro r hr c hc
    simp at hr; subst hr
    exact closed_ups c (hX c hc)
  · simp only [List.map_cons, List.map_nil, List.cons.injEq, and_true]
    unfold renRow
    have : X.map (rens (newName [k] m)) = X := by
      conv => rhs; rw [← List.map_id X]
      exact List.map_congr_left fun c hc => rens_nil _ c (hX c hc)
    simp only [this]
section
variable {t : Tr}
inductive Good (t : Tr) : List Bool → Prop
  | nil : Good t []
  | app {ch : List Bool} (h : Good t ch) (hl : (ch.length : Int) < (run t ch).2) (b : Bool) : Good t (ch ++ [b])
theorem good_tight {ch : List Bool} (h : Good t ch) : Tight t ch := by
  cases h with
  | nil => exact tight_nil
  | app h hl b => exact tight_app b hl
theorem good_init {ch : List Bool} {b : Bool} (h : Good t (ch ++ [b])) : Good t ch ∧ (ch.length : Int) < (run t ch).2 := by
  generalize e : ch ++ [b] = c at h
  cases h with
  | nil => simp at e
  | app h hl b2 =>
    have := List.append_inj' e rfl
    rw [this.1]
    exact ⟨h, hl⟩
theorem good_len (ht : t.ok) {ch : List Bool} (h : Good t ch) : ch.length ≤ groupsT t := tight_le ht (good_tight h)
/-- Where all ways stand: what was laid, what is to be laid. -/
def AlAt (t : Tr) (most : Int) (done : List (List Bool)) (ch : List Bool) (out : List ByteArray) : Prop :=
  Good t ch ∧ done ++ (LV t ch ++ after t ch) = LV t [] ∧ out = nub (texts t done) ∧ (out.length : Int) ≤ max most 0
theorem alAt_zero (most : Int) : AlAt t most [] [] [] := ⟨.nil, by simp [after_nil], rfl, by simp; omega⟩
theorem alAt_done {most : Int} {done : List (List Bool)} {ch : List Bool} {out : List ByteArray} (hg : groupsT t ≤ 7) (h : AlAt t most done ch out) : done.length ≤ 128 := by
  have h1 := LV_len hg []
  rw [← h.2.1, List.length_append] at h1
  omega
theorem alAt_full {most : Int} {done : List (List Bool)} {ch : List Bool} {out : List ByteArray} (h : AlAt t most done ch out) (hc : ¬ (out.length : Int) < most) : out = (allT t []).take most.toNat := by
  obtain ⟨_, h2, h3, h4⟩ := h
  have e : out.length = most.toNat := by omega
  unfold allT
  rw [← h2, texts, List.map_append]
  have : nub (done.map (fun ch => txt (run t ch).1) ++ (LV t ch ++ after t ch).map fun ch => txt (run t ch).1) = mergeN out ((LV t ch ++ after t ch).map fun ch => txt (run t ch).1) := by
    unfold nub
    rw [merge_append, h3]; rfl
  rw [this]
  obtain ⟨r, hr⟩ := merge_prefix ((LV t ch ++ after t ch).map fun ch => txt (run t ch).1) out
  rw [hr, ← e, List.take_left' rfl]
/-- One more is asked for. -/
theorem alAt_more (ht : t.ok) {most : Int} {done : List (List Bool)} {ch : List Bool} {out : List ByteArray} (h : AlAt t most done ch out) (hc : ¬ (run t ch).2 ≤ ch.length) : AlAt t most done (ch ++ [true]) out ∧ groupsT t - (ch ++ [true]).length < groupsT t - ch.length := by
  obtain ⟨h1, h2, h3, h4⟩ := h
  have hl : (ch.length : Int) < (run t ch).2 := by omega
  have hg := good_len ht (.app h1 hl true)
  simp only [List.length_append, List.length_cons, List.length_nil] at hg ⊢
  refine ⟨⟨.app h1 hl true, ?_, h3, h4⟩, by omega⟩
  rw [← h2, after_true, LV_more ht (good_tight h1) hc, List.append_assoc]
theorem good_full {ch : List Bool} (h : Good t ch) (hc : (run t ch).2 ≤ ch.length) : (run t ch).2 = ch.length := by
  have := good_tight h
  unfold Tight at this
  omega
/-- A way is laid. -/
def BkAt2 (t : Tr) (most : Int) (done : List (List Bool)) (ch : List Bool) (out : List ByteArray) : Prop :=
  Good t ch ∧ done ++ after t ch = LV t [] ∧ out = nub (texts t done) ∧ (out.length : Int) ≤ max most 0
theorem laid {most : Int} {done : List (List Bool)} {ch : List Bool} {out : List ByteArray} (h : AlAt t most done ch out) (hc : (run t ch).2 ≤ ch.length) (hm : (out.length : Int) < most) : BkAt2 t most (done ++ [ch]) ch (stepN out (txt (run t ch).1)) := by
  obtain ⟨h1, h2, h3, h4⟩ := h
  refine ⟨h1, ?_, ?_, ?_⟩
  · rw [← h2, LV_done hc, List.append_assoc]
  · rw [h3]
    unfold nub texts
    rw [List.map_append, merge_append]; rfl
  · have := (step_len out (txt (run t ch).1)).2
    omega
theorem bk_drop {most : Int} {done : List (List Bool)} {ch : List Bool} {out : List ByteArray} (h : BkAt2 t most done (ch ++ [false]) out) : BkAt2 t most done ch out := by
  obtain ⟨h1, h2, h3, h4⟩ := h
  exact ⟨(good_init h1).1, by rw [← h2, after_false], h3, h4⟩
theorem bk_end {most : Int} {done : List (List Bool)} {out : List ByteArray} (hm : 0 ≤ most) (h : BkAt2 t most done [] out) : out = (allT t []).take most.toNat := by
  obtain ⟨_, h2, h3, h4⟩ := h
  rw [after_nil, List.append_nil] at h2
  have : allT t [] = out := by unfold allT; rw [← h2, h3]
  rw [this, List.take_of_length_le (by omega)]
theorem bk_turn {most : Int} {done : List (List Bool)} {ch : List Bool} {out : List ByteArray} (h : BkAt2 t most done (ch ++ [true]) out) : AlAt t most done (ch ++ [false]) out := by
  obtain ⟨h1, h2, h3, h4⟩ := h
  obtain ⟨g1, g2⟩ := good_init h1
  exact ⟨.app g1 g2 false, by rw [← h2, after_true, after_false], h3, h4⟩
end
theorem take_last {l : List Bool} {c : Nat} (h0 : c ≠ 0) (hc : c ≤ l.length) : l.take c = l.take (c - 1) ++ [atI l ((c : Int) - 1)] := by
  have e : c = (c - 1) + 1 := by omega
  have hl : c - 1 < l.length := by omega
  conv => lhs; rw [e]
  rw [List.take_add_one, List.getElem?_eq_getElem hl]
  have e2 : ((c : Int) - 1).toNat = c - 1 := by omega
  simp only [atI, e2, List.getD, List.getElem?_eq_getElem hl]
  rfl
theorem all_calls {t : Tr} (ht : t.ok) (hs : Small t.flat) (hg : groupsT t ≤ 7) (most : Int) {n : Nat} (hn : n = ((allT t []).take most.toNat).length) : ACalls Try.prog 42 [.ro (t.flat.map partC), .flat (.int .i64 most)] (fun k => .tup [.sl k 0 n, .flat (.int .i64 0)]) (fun _ => [⟨9, ((allT t []).take most.toNat).map strC⟩]) := by
  have hck := tree_check ht (by have := hs.1; omega)
  have hcC := check_calls t.flat (by have := hs.1; omega)
  rw [hck] at hcC
  have hBy := fun ch => by_calls ht hs ch
  change ∀ ch, ACalls Try.prog 45 _ (fun _ => byV (run t ch).1 (run t ch).2 0) _ at hBy
  unfold byV at hBy
  have hfull := fun done ch out h hc => alAt_full (t := t) (most := most) (done := done) (ch := ch) (out := out) h hc
  have hbe := fun done out hm h => bk_end (t := t) (most := most) (done := done) (out := out) hm h
  have hfc := closed_str (l := (allT t []).take most.toNat) rfl
  have halen : ((allT t []).take most.toNat).length ≤ 128 := by have := allT_len hg []; rw [List.length_take]; omega
  generalize hall : (allT t []).take most.toNat = all at hn hfull hbe hfc halen ⊢
  generalize t.flat.map partC = X at hcC hBy ⊢
  clear hall
  refine acalls_symF tabF_ok fn42 rfl rfl rfl (by kernel_rfl) ?_
  rintro ⟨lt, le, eq, se, ar, dv, una, conv, len, sln, nat, nth, ixs, cel, sto, app, cpy, slc, mak, ixv, oth, dk, ib, call⟩ hS hm Q hQ
  obtain ⟨hlt, hle, heq, hse, har, hdv, huna, hconv, hlen, hsln, hnat, hnth, hixs, hcel, hsto, happ, hcpy, hslc, hmak, hixv, hoth, hdk, hib, hcall⟩ := Sym.mk.inj hS
  clear hS
  have hnt : ∀ n : Nat, nat n = U.natI n := fun n => by rw [hnat]; rfl
  have hbox : ∀ e c off, cel (some ⟨e, [c]⟩) 0 off = if off ≤ c.length then some (c.drop off) else none := fun e c off => by rw [hcel]; rfl
  have hsbox : ∀ e c off sz y, sto (some ⟨e, [c]⟩) 0 off sz y = if y.cells.length = sz ∧ off + sz ≤ c.length ∧ y.cells.all AV.one = true then some ⟨e, [spl c off y.cells]⟩ else none := fun e c off sz y => by rw [hsto]; rfl
  have hcaw : ∀ {f args T base K}, CallK Try.prog f args T base K → call f args T base K := fun h => by rw [hcall]; exact h
  have hcal : ∀ {f args T base} {K : AV → Table → List Nat → List Nat → Prop}, (∃ args' ids val rows, Hands T ids args args' (val base) (rows base) ∧ ACalls Try.prog f args' val rows ∧ (rows base).length ≤ 8 ∧ K (val base) (adopt T base (rows base)) ids ((List.range (rows base).length).map (base + ·))) → call f args T base K := fun h => hcaw (call_own h)
  have heqr : ∀ v, eq v v = true := fun v => by rw [heq]; exact decide_eq_true rfl
  cbv
  refine MW_loopZ hm [.slot 6 9, .slot 7 4] [40, 41] [0, 1, 6, 7, 8] 9 (by simp) (fun mz st => ∃ (done : List (List Bool)) (l : List Bool) (c : Nat) (out : List ByteArray) (m : Nat) (Y Z : List (List AV)) (tr : Int), AlAt t most done (l.take c) out ∧ c ≤ l.length ∧ Z = l.map boolC ∧ Y = out.map strC ∧ m = out.length ∧ tr = natI done.length ∧ mz = (1000 - done.length) ∧ st = stOf [.ro X, .flat (.int .i64 most), .dead, .dead, .dead, .dead, .sl 0 0 m, .sl 1 0 c, .flat (.int .i64 tr)] [some ⟨9, Y⟩, some ⟨4, Z⟩] 2) ((1000 - 0)) ?_ ?_
  · exact ⟨[], [], 0, [], 0, [], [], 0, alAt_zero most, Nat.le_refl _, rfl, rfl, rfl, rfl, rfl, cut_eq (by cbv) (cutRows_cons (by rfl) (fun c hc => by cases hc) (cutRows_cons (by rfl) (fun c hc => by cases hc) rfl))⟩
  rintro mz st ⟨done, l, c, out, m, Y, Z, tr, ha, hcl, hZ, hY, hm1, htr, hmz, rfl⟩
  have hdl := alAt_done hg ha
  have e1 : lt (nat m) most = decide ((out.length : Int) < most) := by rw [hlt, hnt, hm1]; rfl
  have hf2 : decide ((out.length : Int) < most) = false → out = all := fun h => hfull _ _ _ ha (of_decide_eq_false h)
  have hmo : decide ((out.length : Int) < most) = true → (out.length : Int) < most ∧ 0 ≤ most := fun h => have := of_decide_eq_true h; ⟨this, by omega⟩
  generalize decide ((out.length : Int) < most) = b1 at e1 hf2 hmo
  cases b1
  · have := hf2 rfl
    subst this
    have hnm : m = n := by rw [hm1, hn]
    subst hnm
    cbv
    rw [e1]; cbv
    refine hcal ⟨_, [], _, _, .inl ⟨rfl, by cbv⟩, hcC, by simp, ?_⟩
    cbv
    exact hQ _ _ trivial (leaves_pair (k := 0) (by cbv) rfl (by rw [← hY]; rfl) hfc)
  obtain ⟨hmo, hm0⟩ := hmo rfl
  have e2 : le 2000 tr = false := by rw [hle, htr]; unfold natI; exact decide_eq_false (by omega)
  have e3 : ar .add .i64 tr 1 = natI (done.length + 1) := by rw [har, htr]; unfold natI; rw [ar_add64 (by omega) (by omega)]; omega
  cbv
  rw [e1]; cbv
  rw [e2]; cbv
  refine MW_loop hm [0, 1] [0, 1, 6, 7, 8] 9 (by simp) (fun mz st => ∃ (l : List Bool) (c : Nat) (Z : List (List AV)), AlAt t most done (l.take c) out ∧ c ≤ l.length ∧ Z = l.map boolC ∧ mz = (100 + groupsT t - c) ∧ st = stOf [.ro X, .flat (.int .i64 most), .dead, .dead, .dead, .dead, .sl 0 0 m, .sl 1 0 c, .flat (.int .i64 tr)] [some ⟨9, Y⟩, some ⟨4, Z⟩] 2) ((100 + groupsT t - c)) ?_ ?_
  · exact ⟨l, c, Z, ha, hcl, hZ, rfl, cut_eq (by cbv) (cutRows_cons (by rfl) (closed_str hY) (cutRows_cons (by rfl) (closed_bool hZ) rfl))⟩
  rintro ma st ⟨l, c, Z, ha, hcl, hZ, hma, rfl⟩
  have hcn : c = (l.take c).length := by rw [List.length_take]; omega
  have hcg : c ≤ groupsT t := by rw [hcn]; exact good_len ht ha.1
  have hB := hBy (l.take c)
  have hfb := good_full ha.1
  have hmore := fun h => alAt_more ht ha h
  have hlaid := fun h => laid ha h hmo
  rw [← hcn] at hfb hmore hlaid
  have hZt : Z.take c = (l.take c).map boolC := by rw [hZ, List.map_take]
  have hZl : c ≤ Z.length := by rw [hZ, List.length_map]; exact hcl
  have hZf := flat_bool hZ
  rw [← hZt] at hB
  have hoc := contains_calls out (txt (run t (l.take c)).1) (by have h2 := merge_len (texts t done) []; unfold texts at h2; rw [List.length_map] at h2; rw [ha.2.2.1]; unfold nub texts; simp at h2 ⊢; omega)
  have hol : out.length ≤ 128 := by have h2 := merge_len (texts t done) []; unfold texts at h2; rw [List.length_map] at h2; rw [ha.2.2.1]; unfold nub texts; simp at h2 ⊢; omega
  have hfu : (run t (l.take c)).2 ≤ (c : Int) → (run t (l.take c)).2 = natI c := hfb
  have e4 : le (run t (l.take c)).2 (nat c) = decide ((run t (l.take c)).2 ≤ (c : Int)) := by rw [hle, hnt]; rfl
  have d1 : decide ((run t (l.take c)).2 ≤ (c : Int)) = true → (run t (l.take c)).2 = natI c ∧ _ := fun h => ⟨hfu (of_decide_eq_true h), hlaid (of_decide_eq_true h)⟩
  have d2 : decide ((run t (l.take c)).2 ≤ (c : Int)) = false → _ := fun h => hmore (of_decide_eq_false h)
  have hstep : stepN out (txt (run t (l.take c)).1) = if out.contains (txt (run t (l.take c)).1) = true then out else out ++ [txt (run t (l.take c)).1] := rfl
  rw [hstep] at d1
  generalize hs9 : txt (run t (l.take c)).1 = s at hB hoc d1
  generalize hu9 : (run t (l.take c)).2 = u at hB e4 d1 d2
  clear hs9 hu9 hfb hmore hlaid hfu hstep
  generalize decide (u ≤ (c : Int)) = b4 at e4 d1 d2
  generalize hb5 : out.contains s = b5 at hoc d1
  cbv
  refine hcal ⟨[.ro X, .ro (Z.take c)], [1], _, _, hands_deep ⟨.id rfl, deep_part (by simp) (by rfl) hZl hZf.read, trivial⟩ rfl (fun r hr => by cases hr), hB, by simp, ?_⟩
  cbv
  rw [heqr]; cbv
  rw [e4]; cbv
  cases b4
  · obtain ⟨g1, g2⟩ := d2 rfl
    obtain ⟨c2, hc2⟩ : ∃ c2, c2 = c + 1 := ⟨_, rfl⟩
    obtain ⟨Z2, hZ2⟩ : ∃ Z2, Z2 = (l.take c ++ [true]).map boolC := ⟨_, rfl⟩
    have hl2 : c2 = (l.take c ++ [true]).length := by rw [List.length_append, ← hcn, hc2]; rfl
    have ap : ∀ (T : Table) id k0 k, T k0 = some ⟨4, Z⟩ → T k = some ⟨4, [[.flat (.bool true)]]⟩ → k ≠ k0 → app T id 52 52 (.sl k0 0 c) (.sl k 0 1) = some (.sl id 0 c2, (T.set k0 none).set id (some ⟨4, Z2⟩)) := fun T id k0 k h1 h2 h3 => by
      rw [happ]
      exact app_tip u52 z4 c4 (by decide) rfl (by decide) h1 h2 h3 rfl hZl hc2 (by rw [hZ2, hZt, List.map_append]; rfl) (by omega)
    have g3 : AlAt t most done ((l.take c ++ [true]).take c2) out := by rw [hl2, List.take_length]; exact g1
    cbv
    rw [ap _ _ _ _ (by rfl) (by rfl) (by decide)]; cbv
    exact ⟨[0, 146], [0, 1, 6, 7, 8], 9, (100 + groupsT t - c2), by rw [hma, hc2]; omega, by simp, l.take c ++ [true], c2, Z2, g3, (by rw [hl2]; exact Nat.le_refl _), hZ2, rfl, cut_eq (by cbv) (cutRows_cons (by rfl) (closed_str hY) (cutRows_cons (by rfl) (closed_bool hZ2) rfl))⟩
  obtain ⟨g1, g2⟩ := d1 rfl
  clear d1 d2
  have hsl : ∀ (T : Table) id, T id = some ⟨4, Z⟩ → slc T 52 (.sl id 0 c) none (some (.flat (.int .i64 u))) = some (.sl id 0 c) := fun T id hT => by
    rw [hslc, g1]
    unfold natI
    rw [slc_sl u52 z4 hT c4 hZl (bnd_hi (by omega) (by omega))]
    simp
  cbv
  rw [hsl _ _ (by rfl)]; cbv
  refine hcal ⟨[.ro X, .ro (Z.take c)], [1], _, _, hands_deep ⟨.id rfl, deep_part (by simp) (by rfl) hZl hZf.read, trivial⟩ rfl (fun r hr => by cases hr), hB, by simp, ?_⟩
  cbv
  have hYf := flat_str hY
  have hYn : m = Y.length := by rw [hY, List.length_map, hm1]
  rw [← hY] at hoc
  refine hcal ⟨[.ro Y, .flat (.string s)], [0], _, _, hands_deep ⟨deep_row (by simp) (by rfl) hYn hYf.read, .id rfl, trivial⟩ rfl (fun r hr => by cases hr), hoc, by simp, ?_⟩
  cbv
  clear hb5
  have hcase : ∃ (out2 : List ByteArray) (m2 : Nat) (Y2 : List (List AV)), BkAt2 t most (done ++ [l.take c]) (l.take c) out2 ∧ Y2 = out2.map strC ∧ m2 = out2.length ∧ ((b5 = true ∧ out2 = out ∧ m2 = m ∧ Y2 = Y) ∨ (b5 = false ∧ ∀ (T : Table) id k0 k, T k0 = some ⟨9, Y⟩ → T k = some ⟨9, [[.flat (.string s)]]⟩ → k ≠ k0 → app T id 47 47 (.sl k0 0 m) (.sl k 0 1) = some (.sl id 0 m2, (T.set k0 none).set id (some ⟨9, Y2⟩)))) := by
    cases b5
    · refine ⟨_, m + 1, _, g2, rfl, by rw [if_neg (by decide)]; simp [hm1], .inr ⟨rfl, fun T id k0 k h1 h2 h3 => ?_⟩⟩
      rw [happ]
      exact app_tip u47 z9 c9 (by decide) rfl (by decide) h1 h2 h3 rfl (by omega) rfl (by rw [if_neg (by decide), List.map_append, hYn, List.take_length, hY]; rfl) (by omega)
    · exact ⟨_, m, Y, g2, hY, hm1, .inl ⟨rfl, rfl, rfl, rfl⟩⟩
  obtain ⟨out2, m2, Y2, hbk, hY2, hm2, hcs⟩ := hcase
  rcases hcs with ⟨rfl, rfl, rfl, rfl⟩ | ⟨rfl, ap⟩
  · cbv
    refine MW_loop hm [0, 1] [0, 1, 6, 7, 8] 9 (by simp) (fun mz st => ∃ (k : Nat), BkAt2 t most (done ++ [l.take c]) (l.take k) out2 ∧ k ≤ l.length ∧ mz = k ∧ st = stOf [.ro X, .flat (.int .i64 most), .dead, .dead, .dead, .dead, .sl 0 0 m2, .sl 1 0 k, .flat (.int .i64 tr)] [some ⟨9, Y2⟩, some ⟨4, Z⟩] 2) (c) ?_ ?_
    · exact ⟨c, hbk, hcl, rfl, cut_eq (by cbv) (cutRows_cons (by rfl) (closed_str hY2) (cutRows_cons (by rfl) (closed_bool hZ) rfl))⟩
    rintro mb st ⟨k, hk, hkl, hmb, rfl⟩
    have hk7 : k ≤ 7 := by have := good_len ht hk.1; rw [List.length_take] at this; omega
    have e5 : lt 0 (nat k) = decide (k ≠ 0) := by rw [hlt, hnt]; unfold natI; rw [decide_eq_decide]; omega
    have e6 : eq (nat k) 0 = !decide (k ≠ 0) := by rw [heq, hnt]; unfold natI; by_cases h : k = 0 <;> simp [h]
    have h0 : decide (k ≠ 0) = false → k = 0 := fun h => by simpa using h
    have h1 : decide (k ≠ 0) = true → ar .sub .i64 (nat k) 1 = natI (k - 1) ∧ (∀ id, ixs (some ⟨4, Z⟩) id 0 k (natI (k - 1)) 1 = some (.ptr id (k - 1) 0)) ∧ cel (some ⟨4, Z⟩) (k - 1) 0 = some [.flat (.bool (atI l ((k : Int) - 1)))] ∧
        (∀ (T : Table) id, T id = some ⟨4, Z⟩ → slc T 52 (.sl id 0 k) none (some (.flat (.int .i64 (natI (k - 1))))) = some (.sl id 0 (k - 1))) ∧ l.take k = l.take (k - 1) ++ [atI l ((k : Int) - 1)] ∧ k - 1 < k := fun h => by
      have hk0 : k ≠ 0 := of_decide_eq_true h
      refine ⟨?_, fun id => ?_, ?_, fun T id hT => ?_, take_last hk0 hkl, by omega⟩
      · rw [har, hnt]; unfold natI; rw [ar_sub64 (by omega) (by omega)]; omega
      · rw [hixs]
        have := own_ix (P := Try.prog) (e := 4) (X := Z) (n := k) (sz := 1) (i := natI (k - 1)) c4 (by unfold natI; omega) (by unfold natI; omega) id
        rw [this]; unfold natI; simp
      · rw [hcel, hZ]
        have hg2 : (l.map boolC)[k - 1]? = some (boolC (atI l ((k : Int) - 1))) := by
          have hl : k - 1 < l.length := by omega
          have e2 : ((k : Int) - 1).toNat = k - 1 := by omega
          simp only [List.getElem?_map, atI, e2, List.getD, List.getElem?_eq_getElem hl]; rfl
        rw [own_cel hg2 (Nat.zero_le _)]; rfl
      · rw [hslc, slc_sl u52 z4 hT c4 (by rw [hZ, List.length_map]; exact hkl) (bnd_hi (by unfold natI; omega) (by unfold natI; rw [hZ, List.length_map]; omega))]
        unfold natI; simp
    generalize hb7 : decide (k ≠ 0) = b7 at e5 e6 h0 h1
    cases b7
    · obtain rfl := h0 rfl
      have hend := hbe _ _ hm0 (show BkAt2 t most _ [] _ from hk)
      cbv
      rw [e5]; cbv
      rw [e6]; cbv
      have hnm : m2 = n := by rw [hm2, hn, hend]
      subst hnm
      exact hQ _ _ trivial (leaves_pair (k := 0) (by cbv) rfl (by rw [← hend, ← hY2]; rfl) hfc)
    obtain ⟨p1, p2, p3, p4, p5, p6⟩ := h1 rfl
    rw [p5] at hk
    have hkt : (l.take k).length = k := by rw [List.length_take]; omega
    have hkt1 : (l.take (k - 1)).length = k - 1 := by rw [List.length_take]; omega
    have hk0 : k = (k - 1) + 1 := by omega
    generalize k - 1 = k1 at p1 p2 p3 p4 p5 p6 hk hkt1 hk0
    generalize atI l ((k : Int) - 1) = la at p3 p5 hk
    cases la
    · have g3 := bk_drop hk
      cbv
      rw [e5]; cbv
      rw [p1]; cbv
      rw [p2]; cbv
      rw [p3]; cbv
      rw [p1]; cbv
      rw [p4 _ _ (by rfl)]; cbv
      skip
      exact ⟨[0, 1], [0, 1, 6, 7, 8], 9, k1, hmb ▸ p6, by simp, k1, g3, (by omega), rfl, cut_eq (by cbv) (cutRows_cons (by rfl) (closed_str hY2) (cutRows_cons (by rfl) (closed_bool hZ) rfl))⟩
    have g3 := bk_turn hk
    have hcz := cloneB_calls (l.take k) (by rw [List.length_take]; omega) (by rw [p5]; simp) (n := k) (by rw [List.length_take]; omega)
    obtain ⟨Z3, hZ3⟩ : ∃ Z3, Z3 = (l.take k).map boolC := ⟨_, rfl⟩
    obtain ⟨Z4, hZ4⟩ : ∃ Z4, Z4 = (l.take k1 ++ [false]).map boolC := ⟨_, rfl⟩
    have hZ3l : Z.take k = Z3 := by rw [hZ3, hZ, List.map_take]
    have hZ3f := flat_bool hZ3
    have hZkl : k ≤ Z.length := by rw [hZ, List.length_map]; exact hkl
    rw [← hZ3] at hcz
    rw [← hZ3l] at hcz
    have p7 : ∀ id, ixs (some ⟨4, Z.take k⟩) id 0 k (natI k1) 1 = some (.ptr id k1 0) := fun id => by
      rw [hixs]
      have := own_ix (P := Try.prog) (e := 4) (X := Z.take k) (n := k) (sz := 1) (i := natI k1) c4 (by unfold natI; omega) (by unfold natI; omega) id
      rw [this]; unfold natI; simp
    have p8 : sto (some ⟨4, Z.take k⟩) k1 0 1 (.flat (.bool false)) = some ⟨4, Z4⟩ := by
      have hg : (l.take k)[k1]? = some true := by
        rw [p5, List.getElem?_append_right (by rw [List.length_take]; omega)]
        have : k1 - (l.take k1).length = 0 := by rw [List.length_take]; omega
        rw [this]; rfl
      rw [hsto, hZ3l, hZ3, own_sto (e := 4) (f := boolC) (l := l.take k) (off := 0) (sz := 1) (y := .flat (.bool false)) hg false rfl (Nat.le_refl 1) rfl rfl, hZ4]
      congr 2
      rw [p5, List.set_append_right _ _ (by rw [List.length_take]; omega)]
      have : k1 - (l.take k1).length = 0 := by rw [List.length_take]; omega
      rw [this]; simp
    have g4 : AlAt t most (done ++ [l.take c]) ((l.take k1 ++ [false]).take k) out2 := by
      have : k = (l.take k1 ++ [false]).length := by rw [List.length_append, List.length_take]; simp; omega
      rw [List.take_of_length_le (i := k) (l := l.take k1 ++ [false]) (by omega)]
      exact g3
    have hl4 : k ≤ (l.take k1 ++ [false]).length := by rw [List.length_append, List.length_take]; simp; omega
    have htr2 : natI (done.length + 1) = natI (done ++ [l.take c]).length := by simp
    have hmm : 1000 - (done ++ [l.take c]).length < 1000 - done.length := by simp; omega
    have hZ3cl : ∀ c ∈ Z.take k, closedAll [] c = true := by rw [hZ3l]; exact closed_bool hZ3
    have hZ3l2 : ∀ {T : Table}, T 1 = some ⟨4, Z⟩ → Deep T [1] (.sl 1 0 k) (.ro (Z.take k)) := fun h => deep_part (by simp) h hZkl (flat_bool hZ).read
    generalize Z.take k = Z5 at hcz p7 p8 hZ3l hZ3cl hZ3l2
    cbv
    rw [e5]; cbv
    rw [p1]; cbv
    rw [p2]; cbv
    rw [p3]; cbv
    rw [e6]; cbv
    refine hcal ⟨[.ro Z5], [1], _, _, hands_deep ⟨hZ3l2 (by rfl), trivial⟩ rfl (noRo_flat (by rw [hZ3l]; exact hZ3f)), hcz, by simp, ?_⟩
    cbv
    rw [p1]; cbv
    rw [p7]; cbv
    rw [p8]; cbv
    rw [e3]
    exact ⟨[0, 130], [0, 1, 6, 7, 8], 9, 1000 - (done ++ [l.take c]).length, hmz ▸ hmm, by simp, _, _, k, out2, m2, Y2, Z4, _, g4, hl4, hZ4, hY2, hm2, htr2, rfl, cut_eq (by cbv) (cutRows_cons (by rfl) (closed_str hY2) (cutRows_cons (by rfl) (closed_bool hZ4) rfl))⟩
  · cbv
    rw [ap _ _ _ _ (by rfl) (by rfl) (by decide)]; cbv
    refine MW_loop hm [298, 1] [0, 1, 6, 7, 8] 9 (by simp) (fun mz st => ∃ (k : Nat), BkAt2 t most (done ++ [l.take c]) (l.take k) out2 ∧ k ≤ l.length ∧ mz = k ∧ st = stOf [.ro X, .flat (.int .i64 most), .dead, .dead, .dead, .dead, .sl 0 0 m2, .sl 1 0 k, .flat (.int .i64 tr)] [some ⟨9, Y2⟩, some ⟨4, Z⟩] 2) (c) ?_ ?_
    · exact ⟨c, hbk, hcl, rfl, cut_eq (by cbv) (cutRows_cons (by rfl) (closed_str hY2) (cutRows_cons (by rfl) (closed_bool hZ) rfl))⟩
    rintro mb st ⟨k, hk, hkl, hmb, rfl⟩
    have hk7 : k ≤ 7 := by have := good_len ht hk.1; rw [List.length_take] at this; omega
    have e5 : lt 0 (nat k) = decide (k ≠ 0) := by rw [hlt, hnt]; unfold natI; rw [decide_eq_decide]; omega
    have e6 : eq (nat k) 0 = !decide (k ≠ 0) := by rw [heq, hnt]; unfold natI; by_cases h : k = 0 <;> simp [h]
    have h0 : decide (k ≠ 0) = false → k = 0 := fun h => by simpa using h
    have h1 : decide (k ≠ 0) = true → ar .sub .i64 (nat k) 1 = natI (k - 1) ∧ (∀ id, ixs (some ⟨4, Z⟩) id 0 k (natI (k - 1)) 1 = some (.ptr id (k - 1) 0)) ∧ cel (some ⟨4, Z⟩) (k - 1) 0 = some [.flat (.bool (atI l ((k : Int) - 1)))] ∧
        (∀ (T : Table) id, T id = some ⟨4, Z⟩ → slc T 52 (.sl id 0 k) none (some (.flat (.int .i64 (natI (k - 1))))) = some (.sl id 0 (k - 1))) ∧ l.take k = l.take (k - 1) ++ [atI l ((k : Int) - 1)] ∧ k - 1 < k := fun h => by
      have hk0 : k ≠ 0 := of_decide_eq_true h
      refine ⟨?_, fun id => ?_, ?_, fun T id hT => ?_, take_last hk0 hkl, by omega⟩
      · rw [har, hnt]; unfold natI; rw [ar_sub64 (by omega) (by omega)]; omega
      · rw [hixs]
        have := own_ix (P := Try.prog) (e := 4) (X := Z) (n := k) (sz := 1) (i := natI (k - 1)) c4 (by unfold natI; omega) (by unfold natI; omega) id
        rw [this]; unfold natI; simp
      · rw [hcel, hZ]
        have hg2 : (l.map boolC)[k - 1]? = some (boolC (atI l ((k : Int) - 1))) := by
          have hl : k - 1 < l.length := by omega
          have e2 : ((k : Int) - 1).toNat = k - 1 := by omega
          simp only [List.getElem?_map, atI, e2, List.getD, List.getElem?_eq_getElem hl]; rfl
        rw [own_cel hg2 (Nat.zero_le _)]; rfl
      · rw [hslc, slc_sl u52 z4 hT c4 (by rw [hZ, List.length_map]; exact hkl) (bnd_hi (by unfold natI; omega) (by unfold natI; rw [hZ, List.length_map]; omega))]
        unfold natI; simp
    generalize hb7 : decide (k ≠ 0) = b7 at e5 e6 h0 h1
    cases b7
    · obtain rfl := h0 rfl
      have hend := hbe _ _ hm0 (show BkAt2 t most _ [] _ from hk)
      cbv
      rw [e5]; cbv
      rw [e6]; cbv
      have hnm : m2 = n := by rw [hm2, hn, hend]
      subst hnm
      exact hQ _ _ trivial (leaves_pair (k := 0) (by cbv) rfl (by rw [← hend, ← hY2]; rfl) hfc)
    obtain ⟨p1, p2, p3, p4, p5, p6⟩ := h1 rfl
    rw [p5] at hk
    have hkt : (l.take k).length = k := by rw [List.length_take]; omega
    have hkt1 : (l.take (k - 1)).length = k - 1 := by rw [List.length_take]; omega
    have hk0 : k = (k - 1) + 1 := by omega
    generalize k - 1 = k1 at p1 p2 p3 p4 p5 p6 hk hkt1 hk0
    generalize atI l ((k : Int) - 1) = la at p3 p5 hk
    cases la
    · have g3 := bk_drop hk
      cbv
      rw [e5]; cbv
      rw [p1]; cbv
      rw [p2]; cbv
      rw [p3]; cbv
      rw [p1]; cbv
      rw [p4 _ _ (by rfl)]; cbv
      skip
      exact ⟨[0, 1], [0, 1, 6, 7, 8], 9, k1, hmb ▸ p6, by simp, k1, g3, (by omega), rfl, cut_eq (by cbv) (cutRows_cons (by rfl) (closed_str hY2) (cutRows_cons (by rfl) (closed_bool hZ) rfl))⟩
    have g3 := bk_turn hk
    have hcz := cloneB_calls (l.take k) (by rw [List.length_take]; omega) (by rw [p5]; simp) (n := k) (by rw [List.length_take]; omega)
    obtain ⟨Z3, hZ3⟩ : ∃ Z3, Z3 = (l.take k).map boolC := ⟨_, rfl⟩
    obtain ⟨Z4, hZ4⟩ : ∃ Z4, Z4 = (l.take k1 ++ [false]).map boolC := ⟨_, rfl⟩
    have hZ3l : Z.take k = Z3 := by rw [hZ3, hZ, List.map_take]
    have hZ3f := flat_bool hZ3
    have hZkl : k ≤ Z.length := by rw [hZ, List.length_map]; exact hkl
    rw [← hZ3] at hcz
    rw [← hZ3l] at hcz
    have p7 : ∀ id, ixs (some ⟨4, Z.take k⟩) id 0 k (natI k1) 1 = some (.ptr id k1 0) := fun id => by
      rw [hixs]
      have := own_ix (P := Try.prog) (e := 4) (X := Z.take k) (n := k) (sz := 1) (i := natI k1) c4 (by unfold natI; omega) (by unfold natI; omega) id
      rw [this]; unfold natI; simp
    have p8 : sto (some ⟨4, Z.take k⟩) k1 0 1 (.flat (.bool false)) = some ⟨4, Z4⟩ := by
      have hg : (l.take k)[k1]? = some true := by
        rw [p5, List.getElem?_append_right (by rw [List.length_take]; omega)]
        have : k1 - (l.take k1).length = 0 := by rw [List.length_take]; omega
        rw [this]; rfl
      rw [hsto, hZ3l, hZ3, own_sto (e := 4) (f := boolC) (l := l.take k) (off := 0) (sz := 1) (y := .flat (.bool false)) hg false rfl (Nat.le_refl 1) rfl rfl, hZ4]
      congr 2
      rw [p5, List.set_append_right _ _ (by rw [List.length_take]; omega)]
      have : k1 - (l.take k1).length = 0 := by rw [List.length_take]; omega
      rw [this]; simp
    have g4 : AlAt t most (done ++ [l.take c]) ((l.take k1 ++ [false]).take k) out2 := by
      have : k = (l.take k1 ++ [false]).length := by rw [List.length_append, List.length_take]; simp; omega
      rw [List.take_of_length_le (i := k) (l := l.take k1 ++ [false]) (by omega)]
      exact g3
    have hl4 : k ≤ (l.take k1 ++ [false]).length := by rw [List.length_append, List.length_take]; simp; omega
    have htr2 : natI (done.length + 1) = natI (done ++ [l.take c]).length := by simp
    have hmm : 1000 - (done ++ [l.take c]).length < 1000 - done.length := by simp; omega
    have hZ3cl : ∀ c ∈ Z.take k, closedAll [] c = true := by rw [hZ3l]; exact closed_bool hZ3
    have hZ3l2 : ∀ {T : Table}, T 1 = some ⟨4, Z⟩ → Deep T [1] (.sl 1 0 k) (.ro (Z.take k)) := fun h => deep_part (by simp) h hZkl (flat_bool hZ).read
    generalize Z.take k = Z5 at hcz p7 p8 hZ3l hZ3cl hZ3l2
    cbv
    rw [e5]; cbv
    rw [p1]; cbv
    rw [p2]; cbv
    rw [p3]; cbv
    rw [e6]; cbv
    refine hcal ⟨[.ro Z5], [1], _, _, hands_deep ⟨hZ3l2 (by rfl), trivial⟩ rfl (noRo_flat (by rw [hZ3l]; exact hZ3f)), hcz, by simp, ?_⟩
    cbv
    rw [p1]; cbv
    rw [p7]; cbv
    rw [p8]; cbv
    rw [e3]
    exact ⟨[0, 130], [0, 1, 6, 7, 8], 9, 1000 - (done ++ [l.take c]).length, hmz ▸ hmm, by simp, _, _, k, out2, m2, Y2, Z4, _, g4, hl4, hZ4, hY2, hm2, htr2, rfl, cut_eq (by cbv) (cutRows_cons (by rfl) (closed_str hY2) (cutRows_cons (by rfl) (closed_bool hZ4) rfl))⟩
end Go.Proofs.Ytagflbmonlaioaa.D
