/- Render: H7, H8, H9. -/
import Derived.Test.YtagflbmonlaioaaM2
namespace Go.Proofs.Ytagflbmonlaioaa.D
open Go G U K
set_option linter.unusedVariables false
set_option linter.unusedSimpArgs false
set_option maxRecDepth 100000
set_option maxHeartbeats 4000000
theorem fn49 : Try.prog.funcs[49]? = some Try.f49 := by kernel_rfl
/-- Where the laying stands. -/
structure TeAt (d : DocT) (w : Int) (fin : List UInt8) (st : List Fr) (J : List (List AV)) (nj : Nat) (bs : List UInt8) : Prop where
  hst : ∀ g ∈ st, FrB d g
  hl : (flF st).length ≤ 360
  hb : bs.length + 37000 * (flF st).length ≤ 13320000
  hfin : layS w st bs = fin
  hJ : J.take nj = st.reverse.map jobC
  hnj : nj = st.length
  hJn : nj ≤ J.length
  hcl : ∀ c ∈ J, closedAll [] c = true
  hfl : flatRow J
theorem te_end {d : DocT} {w : Int} {fin : List UInt8} {st : List Fr} {J : List (List AV)} {nj : Nat} {bs : List UInt8} (h : TeAt d w fin st J nj bs) (h0 : decide ((0 : Int) < natI nj) = false) : bs = fin := by
  have h0 := of_decide_eq_false h0
  have := h.hnj
  cases st with
  | nil => exact h.hfin
  | cons f r => simp only [List.length_cons] at this; unfold natI at h0; omega
theorem te_step {d : DocT} (hs : Small3 d) {w : Int} (hw : 0 ≤ w ∧ w ≤ 1048576) {fin : List UInt8} {st : List Fr} {J : List (List AV)} {nj : Nat} {bs : List UInt8} (h : TeAt d w fin st J nj bs) (h0 : decide ((0 : Int) < natI nj) = true) :
    ∃ (m : Nat) (a n : Int) (fl : Bool), arI .sub .i64 (natI nj) 1 = natI m ∧ (∀ id, ixSl Try.prog (some ⟨82, J⟩) id 0 nj (natI m) 3 = some (.ptr id m 0)) ∧ ptrCells (some ⟨82, J⟩) m 0 = some (jobA a n fl) ∧ (∀ T id, T id = some ⟨82, J⟩ → evSlice Try.prog T 83 (.sl id 0 nj) none (some (.flat (.int .i64 (natI m)))) = some (.sl id 0 m)) ∧
      ∃ (K : List Int) (out : List UInt8) (n2 : Int) (fl2 : Bool) (st2 : List Fr), DoR (d.map partC) ((startsD d).map intC) w J m K a n fl bs out n2 fl2 ∧ TeAt d w fin st2 (pushJ J m n2 fl2 K) (m + K.length) (bs ++ out) ∧ (flF st2).length < (flF st).length := by
  have h0 := of_decide_eq_true h0
  obtain ⟨h1, h2, h3, h4, h5, h6, h7, h8, h9⟩ := h
  cases st with
  | nil => simp only [List.length_nil] at h6; unfold natI at h0; omega
  | cons f r =>
    have hm : nj = r.length + 1 := by rw [h6, List.length_cons]
    have hle := flF_le (f :: r)
    rw [List.length_cons] at hle
    have hJ0 : J.take r.length = r.reverse.map jobC := by
      have : (J.take nj).take r.length = ((f :: r).reverse.map jobC).take r.length := by rw [h5]
      rw [List.take_take, Nat.min_eq_left (by omega)] at this
      rw [this, List.reverse_cons, List.map_append, List.take_left' (by rw [List.length_map, List.length_reverse])]
    have hg : J[r.length]? = some (jobC f) := by
      have e : J[r.length]? = (J.take nj)[r.length]? := by rw [List.getElem?_take, if_pos (by omega)]
      rw [e, h5, List.reverse_cons, List.map_append, List.getElem?_append_right (by rw [List.length_map, List.length_reverse]; exact Nat.le_refl _)]
      simp
    obtain ⟨K, out, n2, fl2, r2, q1, q2, q3, q4, q5, q6, q7⟩ := do2_calls hs hw (h1 f (by simp)) (fun g hg => h1 g (by simp [hg])) h2 h3 (nj := r.length) rfl (by omega) hJ0 h8 h9
    have hx := own_ix (P := Try.prog) (e := 82) (X := J) (n := nj) (sz := 3) (i := natI r.length) c82 (by unfold natI; omega) (by unfold natI; omega)
    refine ⟨r.length, f.a, f.n, f.fl, ?_, fun id => by rw [hx id]; unfold natI; simp, own_cel hg (Nat.zero_le _), fun T id hT => ?_, K, out, n2, fl2, r2, q1, ⟨q2, by omega, by omega, by rw [q4]; exact h4, q6, q7.symm, ?_, push_closed h8, push_flat h9⟩, by omega⟩
    · unfold natI; rw [ar_sub64 (by omega) (by omega)]; omega
    · rw [slc_sl u83 z82 hT c82 h7 (bnd_hi (by unfold natI; omega) (by unfold natI; omega))]
      unfold natI; simp
    · have := congrArg List.length q6
      rw [List.length_take, List.length_map, List.length_reverse] at this
      omega
def wid (w : Int) : Int := min (max w 0) 1048576
/-- The document, laid. -/
def rendT (w : Int) (t : Tr) : List UInt8 := layT (wid w) t 0 false [] []
theorem te_zero {t : Tr} (ht : t.ok) (hs : Small3 t.flat) (w : Int) : TeAt t.flat (wid w) (rendT w t) [⟨t, (t.flat.length : Int) - 1, 0, false⟩] [jobA ((t.flat.length : Int) - 1) 0 false] 1 [] := by
  have h1 := hs.1
  have hf : (flF [⟨t, (t.flat.length : Int) - 1, 0, false⟩]).length = t.flat.length := by rw [flF_len]; simp [flF]
  refine ⟨fun g hg => ?_, by omega, by rw [hf]; simp only [List.length_nil]; omega, rfl, rfl, rfl, by simp, fun c hc => ?_, fun c hc x hx => ?_⟩
  · simp only [List.mem_cons, List.not_mem_nil, or_false] at hg
    subst hg
    exact ⟨⟨ht, [], [], by simp, by simp⟩, Int.le_refl 0, show (0 : Int) + 100 * (t.flat.length : Int) ≤ 36000 by omega⟩
  · simp only [List.mem_cons, List.not_mem_nil, or_false] at hc
    subst hc; rfl
  · simp only [List.mem_cons, List.not_mem_nil, or_false] at hc
    subst hc
    simp only [jobA, List.mem_cons, List.not_mem_nil, or_false] at hx
    rcases hx with rfl | rfl | rfl <;> exact ⟨rfl, rfl⟩
def textV (bs : List UInt8) (c : Int) : AV := .tup [.flat (.string (txt bs)), .flat (.int .i64 c)]
theorem text_bad {d : DocT} (hs : d.length ≤ 1000000) (hc : checkD d ≠ 0) (w : Int) : ACalls Try.prog 49 [.ro (d.map partC), .flat (.int .i64 w)] (fun _ => .tup [.flat (.string ⟨#[]⟩), .flat (.int .i64 (checkD d))]) (fun _ => []) := by
  have hcC := check_calls d hs
  generalize d.map partC = X at hcC ⊢
  generalize checkD d = c at hc hcC ⊢
  refine acalls_symF tabF_ok fn49 rfl rfl rfl (by kernel_rfl) ?_
  have hfin : ∀ st, resA Try.prog Try.f49 st = some (.tup [.flat (.string ⟨#[]⟩), .flat (.int .i64 c)]) → G.Leaves Try.prog Try.f49 (fun _ => .tup [.flat (.string ⟨#[]⟩), .flat (.int .i64 c)]) (fun _ => []) st := fun st h => G.Leaves.plain h rfl
  rintro ⟨lt, le, eq, se, ar, dv, una, conv, len, sln, nat, nth, ixs, cel, sto, app, cpy, slc, mak, ixv, oth, dk, ib, call⟩ hS hm Q hQ
  obtain ⟨hlt, hle, heq, hse, har, hdv, huna, hconv, hlen, hsln, hnat, hnth, hixs, hcel, hsto, happ, hcpy, hslc, hmak, hixv, hoth, hdk, hib, hcall⟩ := Sym.mk.inj hS
  clear hS
  have hnt : ∀ n : Nat, nat n = U.natI n := fun n => by rw [hnat]; rfl
  have hbox : ∀ e c off, cel (some ⟨e, [c]⟩) 0 off = if off ≤ c.length then some (c.drop off) else none := fun e c off => by rw [hcel]; rfl
  have hsbox : ∀ e c off sz y, sto (some ⟨e, [c]⟩) 0 off sz y = if y.cells.length = sz ∧ off + sz ≤ c.length ∧ y.cells.all AV.one = true then some ⟨e, [spl c off y.cells]⟩ else none := fun e c off sz y => by rw [hsto]; rfl
  have hcaw : ∀ {f args T base K}, CallK Try.prog f args T base K → call f args T base K := fun h => by rw [hcall]; exact h
  have hcal : ∀ {f args T base} {K : AV → Table → List Nat → List Nat → Prop}, (∃ args' ids val rows, Hands T ids args args' (val base) (rows base) ∧ ACalls Try.prog f args' val rows ∧ (rows base).length ≤ 8 ∧ K (val base) (adopt T base (rows base)) ids ((List.range (rows base).length).map (base + ·))) → call f args T base K := fun h => hcaw (call_own h)
  have e1 : eq c 0 = false := by rw [heq]; exact decide_eq_false hc
  cbv
  refine hcal ⟨_, [], _, _, .inl ⟨rfl, by cbv⟩, hcC, by simp, ?_⟩
  cbv
  rw [e1]; cbv
  exact hQ _ _ trivial (hfin _ (by cbv))
theorem render3_calls {t : Tr} (ht : t.ok) (hs : Small3 t.flat) (w0 : Int) : ACalls Try.prog 49 [.ro (t.flat.map partC), .flat (.int .i64 w0)] (fun _ => .tup [.flat (.string (txt (rendT w0 t))), .flat (.int .i64 0)]) (fun _ => []) := by
  have hl := hs.1
  have hck := tree_check ht (Nat.le_trans hl (by decide))
  have hcC := check_calls t.flat (Nat.le_trans hl (by decide))
  rw [hck] at hcC
  obtain ⟨ns, hns⟩ : ∃ n, n = t.flat.length := ⟨_, rfl⟩
  have hcS := starts_calls t.flat hck hns
  have hz := te_zero ht hs w0
  have hsub : arI .sub .i64 (lenE (t.flat.map partC)) 1 = (t.flat.length : Int) - 1 := by rw [len_map, ar_sub64 (by omega) (by omega)]
  have hwb : 0 ≤ wid w0 ∧ wid w0 ≤ 1048576 := by unfold wid; omega
  have hend := fun st J nj bs (h : TeAt t.flat (wid w0) (rendT w0 t) st J nj bs) h0 => te_end h h0
  have hstep := fun st J nj bs (h : TeAt t.flat (wid w0) (rendT w0 t) st J nj bs) h0 => te_step hs hwb h h0
  obtain ⟨X, hX⟩ : ∃ X, X = t.flat.map partC := ⟨_, rfl⟩
  obtain ⟨S, hS⟩ : ∃ X, X = (startsD t.flat).map intC := ⟨_, rfl⟩
  have hScl := closed_int hS
  have hnS : ns = S.length := by rw [hS, hns]; simp [startsD]
  rw [← hX]
  rw [← hX] at hcC hcS hsub hstep
  rw [← hS] at hcS hstep
  have hw : wid w0 = min (max w0 0) 1048576 := rfl
  generalize rendT w0 t = fin at hz hend hstep ⊢
  generalize wid w0 = w at hz hend hstep hw
  generalize (t.flat.length : Int) - 1 = a1 at hz hsub
  clear hwb hck hl
  obtain ⟨s, hs2⟩ : ∃ s, s = txt fin := ⟨_, rfl⟩
  rw [← hs2]
  generalize hmax : max w0 0 = w1 at hw
  have hmin : min w1 1048576 = w := hw.symm
  clear hw
  refine acalls_symF tabF_ok fn49 rfl rfl rfl (by kernel_rfl) ?_
  have hfin : ∀ st, resA Try.prog Try.f49 st = some (.tup [.flat (.string s), .flat (.int .i64 0)]) → G.Leaves Try.prog Try.f49 (fun _ => .tup [.flat (.string s), .flat (.int .i64 0)]) (fun _ => []) st := fun st h => G.Leaves.plain h rfl
  rintro ⟨lt, le, eq, se, ar, dv, una, conv, len, sln, nat, nth, ixs, cel, sto, app, cpy, slc, mak, ixv, oth, dk, ib, call⟩ hS hm Q hQ
  obtain ⟨hlt, hle, heq, hse, har, hdv, huna, hconv, hlen, hsln, hnat, hnth, hixs, hcel, hsto, happ, hcpy, hslc, hmak, hixv, hoth, hdk, hib, hcall⟩ := Sym.mk.inj hS
  clear hS
  have hnt : ∀ n : Nat, nat n = U.natI n := fun n => by rw [hnat]; rfl
  have hbox : ∀ e c off, cel (some ⟨e, [c]⟩) 0 off = if off ≤ c.length then some (c.drop off) else none := fun e c off => by rw [hcel]; rfl
  have hsbox : ∀ e c off sz y, sto (some ⟨e, [c]⟩) 0 off sz y = if y.cells.length = sz ∧ off + sz ≤ c.length ∧ y.cells.all AV.one = true then some ⟨e, [spl c off y.cells]⟩ else none := fun e c off sz y => by rw [hsto]; rfl
  have hcaw : ∀ {f args T base K}, CallK Try.prog f args T base K → call f args T base K := fun h => by rw [hcall]; exact h
  have hcal : ∀ {f args T base} {K : AV → Table → List Nat → List Nat → Prop}, (∃ args' ids val rows, Hands T ids args args' (val base) (rows base) ∧ ACalls Try.prog f args' val rows ∧ (rows base).length ≤ 8 ∧ K (val base) (adopt T base (rows base)) ids ((List.range (rows base).length).map (base + ·))) → call f args T base K := fun h => hcaw (call_own h)
  have e1 : eq 0 0 = true := by rw [heq]; rfl
  rw [← hlen, ← har] at hsub
  have hmx : ∀ (T : Table) (id : Nat) (ρ : Operand → Option AV) (ty : TypeId) (x y : Operand) ts (a b : Int), ρ x = some (.flat (.int .i64 a)) → ρ y = some (.flat (.int .i64 b)) → oth T id ρ ty (.call { callee := .builtin .max, args := #[x, y], argTypes := ts }) = some (.flat (.int .i64 (max a b)), T) := fun T id ρ ty x y ts a b h1 h2 => by
    rw [hoth]; exact oth_max h1 h2
  have hmn : ∀ (T : Table) (id : Nat) (ρ : Operand → Option AV) (ty : TypeId) (x y : Operand) ts (a b : Int), ρ x = some (.flat (.int .i64 a)) → ρ y = some (.flat (.int .i64 b)) → oth T id ρ ty (.call { callee := .builtin .min, args := #[x, y], argTypes := ts }) = some (.flat (.int .i64 (min a b)), T) := fun T id ρ ty x y ts a b h1 h2 => by
    rw [hoth]; exact oth_min h1 h2
  have hendL : ∀ st J nj bs, TeAt t.flat w fin st J nj bs → lt 0 (nat nj) = false → bs = fin := fun st J nj bs h h0 => hend st J nj bs h (by rw [hlt, hnt] at h0; exact h0)
  have hstepL : ∀ st J nj bs, TeAt t.flat w fin st J nj bs → lt 0 (nat nj) = true → _ := fun st J nj bs h h0 => hstep st J nj bs h (by rw [hlt, hnt] at h0; exact h0)
  have hcol0 : colB [] = 0 := rfl
  have hcl0 : ∀ c ∈ [jobA a1 0 false], closedAll [] c = true := hz.hcl
  clear hend hstep
  cbv
  refine hcal ⟨_, [], _, _, .inl ⟨rfl, by cbv⟩, hcC, by simp, ?_⟩
  cbv
  rw [e1]; cbv
  rw [hmx _ _ _ _ _ _ _ _ _ (by rfl) (by rfl), hmax]; cbv
  rw [hmn _ _ _ _ _ _ _ _ _ (by rfl) (by rfl), hmin]; cbv
  refine hcal ⟨_, [], _, _, .inl ⟨rfl, by cbv⟩, hcS, by simp, ?_⟩
  cbv
  repeat (first | (rw [hbox]; cbv) | (rw [hsbox]; cbv) | (rw [hsub]; cbv))
  refine MW_loopZ hm [.cell 168 0 4 5] [168, 104, 152, 184] [7] 8 (by simp) (fun mz st => ∃ (fs : List Fr) (J Z : List (List AV)) (nj k : Nat) (c : Int) (bs : List UInt8), TeAt t.flat w fin fs J nj bs ∧ Z = bs.map byteC ∧ k = bs.length ∧ c = colB bs ∧ mz = (flF fs).length ∧ st = stOf [.dead, .dead, .dead, .dead, .dead, .dead, .dead, .ptr 0 0 0] [some ⟨85, [[.ro X, .sl 1 0 ns, .flat (.int .i64 w), .sl 2 0 nj, .sl 3 0 k, .flat (.int .i64 c)]]⟩, some ⟨3, S⟩, some ⟨82, J⟩, some ⟨5, Z⟩] 4) ((flF [⟨t, a1, 0, false⟩]).length) ?_ ?_
  · exact ⟨_, [jobA a1 0 false], [], 1, 0, 0, [], hz, rfl, rfl, rfl, rfl, cut_eq (by cbv) (cutRows_box (by rfl) (by rfl) (by rfl) (cutRows_cons (by rfl) (hScl) (cutRows_cons (by rfl) (hcl0) (cutRows_cons (by rfl) (fun c hc => by cases hc) rfl))))⟩
  rintro mz st ⟨fs, J, Z, nj, k, c, bs, hi, hZ, hk, hc, hmz, rfl⟩
  cases h0 : lt 0 (nat nj)
  · obtain rfl := hendL _ _ _ _ hi h0
    have hcv : ∀ (T : Table) id, T id = some ⟨5, Z⟩ → conv T 65 9 (.sl id 0 k) = some (.flat (.string s)) := fun T id hT => by
      rw [hconv, hs2]; exact conv_bytes hZ hk hT
    cbv
    repeat (first | (rw [hbox]; cbv) | (rw [hsbox]; cbv) | (rw [h0]; cbv))
    rw [hcv _ _ (by rfl)]; cbv
    exact hQ _ _ trivial (hfin _ (by cbv))
  obtain ⟨m, a, n, fl, x1, x2, x3, x4, K, out, n2, fl2, st2, x5, x6, x7⟩ := hstepL _ _ _ _ hi h0
  obtain ⟨k2, hk2⟩ : ∃ k2, k2 = (bs ++ out).length := ⟨_, rfl⟩
  obtain ⟨nj2, hnj2⟩ : ∃ k2, k2 = m + K.length := ⟨_, rfl⟩
  have hdo := x5 ns k k2 nj2 hnS hk hk2 hnj2
  rw [← hnj2] at x6
  have e16 : lt 16777216 (nat k2) = false := by
    rw [hlt, hnt, hk2]
    have := x6.hb
    exact decide_eq_false (by unfold natI; omega)
  have hJ2cl := x6.hcl
  obtain ⟨Z2, hZ2⟩ : ∃ Z, Z = (bs ++ out).map byteC := ⟨_, rfl⟩
  rw [← hZ, ← hZ2] at hdo
  have hZcl := closed_byte hZ
  have hZ2cl := closed_byte hZ2
  have hJcl := hi.hcl
  rw [← hc] at hdo
  rw [← har, ← hnt] at x1
  rw [← hixs] at x2
  rw [← hcel] at x3
  have x1' : ar .sub .i64 (nat nj) 1 = nat m := by rw [hnt m]; exact x1
  have x2' : ∀ id, ixs (some ⟨82, J⟩) id 0 nj (nat m) 3 = some (.ptr id m 0) := fun id => by rw [hnt m]; exact x2 id
  have x4' : ∀ (T : Table) id, T id = some ⟨82, J⟩ → slc T 83 (.sl id 0 nj) none (some (.flat (.int .i64 (nat m)))) = some (.sl id 0 m) := fun T id hT => by rw [hslc, hnt m]; exact x4 T id hT
  clear x1 x2 x4 x5
  generalize hc2 : colB (bs ++ out) = c2 at hdo
  generalize pushJ J m n2 fl2 K = J2 at x6 hdo hJ2cl
  unfold jobA at x3
  unfold layerC at hdo
  cbv
  repeat (first | (rw [hbox]; cbv) | (rw [hsbox]; cbv) | (rw [h0]; cbv))
  refine ⟨by rw [hdk]; kernel_rfl, ?_⟩
  repeat (first | (rw [hbox]; cbv) | (rw [hsbox]; cbv) | (rw [x1']; cbv) | (rw [x2']; cbv) | (rw [x3]; cbv))
  refine ⟨by rw [hib]; kernel_rfl, ?_⟩
  cbv
  refine ⟨by rw [hdk]; kernel_rfl, ?_⟩
  repeat (first | (rw [hbox]; cbv) | (rw [hsbox]; cbv) | (rw [x1']; cbv))
  rw [x4' _ _ (by rfl)]; cbv
  repeat (first | (rw [hbox]; cbv) | (rw [hsbox]; cbv))
  refine ⟨by rw [hib]; kernel_rfl, ?_⟩
  cbv
  repeat (first | (rw [hbox]; cbv) | (rw [hsbox]; cbv))
  refine hcaw (call_with [0, 1, 2, 3] hdo (by simp) (by decide) (cutRows_box (by rfl) (by rfl) (by rfl) (cutRows_cons (by rfl) (hScl) (cutRows_cons (by rfl) (hJcl) (cutRows_cons (by rfl) (hZcl) rfl)))) (by rfl) (by rfl) (by rfl) (renRows_box (by rfl) (renRows_cons (hScl) (renRows_cons (hJ2cl) (renRows_cons (hZ2cl) rfl)))) ?_)
  cbv
  repeat (first | (rw [hbox]; cbv) | (rw [hsbox]; cbv))
  rw [e16]; cbv
  exact ⟨[0, 300, 301, 302], [7], 8, (flF st2).length, hmz ▸ x7, by simp, st2, J2, Z2, nj2, k2, c2, bs ++ out, x6, hZ2, hk2, hc2.symm, rfl, cut_eq (by cbv) (cutRows_box (by rfl) (by rfl) (by rfl) (cutRows_cons (by rfl) (hScl) (cutRows_cons (by rfl) (hJ2cl) (cutRows_cons (by rfl) (hZ2cl) rfl))))⟩
theorem render_calls {t : Tr} (ht : t.ok) (hs : Small t.flat) (w0 : Int) : ACalls Try.prog 49 [.ro (t.flat.map partC), .flat (.int .i64 w0)] (fun _ => .tup [.flat (.string (txt (rendT w0 t))), .flat (.int .i64 0)]) (fun _ => []) := render3_calls ht (small3 hs) w0
theorem fn74 : Try.prog.funcs[74]? = some Try.f74 := by kernel_rfl
theorem fn73 : Try.prog.funcs[73]? = some Try.f73 := by kernel_rfl
theorem fn65 : Try.prog.funcs[65]? = some Try.f65 := by kernel_rfl
theorem fn50 : Try.prog.funcs[50]? = some Try.f50 := by kernel_rfl
theorem column_calls (s : ByteArray) (hb : s.size ≤ 100000000) : ACalls Try.prog 74 [.flat (.string s)] (fun _ => .flat (.int .i64 (colB (bts s)))) (fun _ => []) := by
  have hz := txAt_zero s []
  have hend0 := @txAt_end s []
  rw [List.nil_append] at hend0
  have hstep0 := @txAt_step s []
  have hc0 : colB [] = 0 := rfl
  rw [hc0] at hz
  generalize colB (bts s) = r at hend0 ⊢
  refine acalls_symF tabF_ok fn74 rfl rfl rfl (by kernel_rfl) ?_
  have hfin : ∀ st, resA Try.prog Try.f74 st = some (.flat (.int .i64 r)) → G.Leaves Try.prog Try.f74 (fun _ => .flat (.int .i64 r)) (fun _ => []) st := fun st h => G.Leaves.plain h rfl
  rintro ⟨lt, le, eq, se, ar, dv, una, conv, len, sln, nat, nth, ixs, cel, sto, app, cpy, slc, mak, ixv, oth, dk, ib, call⟩ hS hm Q hQ
  obtain ⟨hlt, hle, heq, hse, har, hdv, huna, hconv, hlen, hsln, hnat, hnth, hixs, hcel, hsto, happ, hcpy, hslc, hmak, hixv, hoth, hdk, hib, hcall⟩ := Sym.mk.inj hS
  clear hS
  have hnt : ∀ n : Nat, nat n = U.natI n := fun n => by rw [hnat]; rfl
  have hbox : ∀ e c off, cel (some ⟨e, [c]⟩) 0 off = if off ≤ c.length then some (c.drop off) else none := fun e c off => by rw [hcel]; rfl
  have hsbox : ∀ e c off sz y, sto (some ⟨e, [c]⟩) 0 off sz y = if y.cells.length = sz ∧ off + sz ≤ c.length ∧ y.cells.all AV.one = true then some ⟨e, [spl c off y.cells]⟩ else none := fun e c off sz y => by rw [hsto]; rfl
  have hcaw : ∀ {f args T base K}, CallK Try.prog f args T base K → call f args T base K := fun h => by rw [hcall]; exact h
  have hcal : ∀ {f args T base} {K : AV → Table → List Nat → List Nat → Prop}, (∃ args' ids val rows, Hands T ids args args' (val base) (rows base) ∧ ACalls Try.prog f args' val rows ∧ (rows base).length ≤ 8 ∧ K (val base) (adopt T base (rows base)) ids ((List.range (rows base).length).map (base + ·))) → call f args T base K := fun h => hcaw (call_own h)
  have hsz : sln s = (s.size : Int) := by rw [hsln]
  have hstep2 : ∀ i c, TxAt s [] i c → lt i (sln s) = true → _ := fun i c h h2 => hstep0 (i := i) (c := c) (by simp only [List.length_nil]; omega) h (by rw [hlt, hsz] at h2; exact h2)
  have hend2 : ∀ i c, TxAt s [] i c → lt i (sln s) = false → c = r := fun i c h h2 => hend0 h (by rw [hlt, hsz] at h2; exact h2)
  clear hend0 hstep0
  cbv
  refine MW_loop hm [] [0, 3, 4] 5 (by simp) (fun mz st => ∃ (i x : Int), TxAt s [] i x ∧ mz = ((s.size : Int) - i).toNat ∧ st = stOf [.flat (.string s), .dead, .dead, .flat (.int .i64 x), .flat (.int .i64 i)] [] 0) (((s.size : Int) - 0).toNat) ?_ ?_
  · exact ⟨0, 0, hz, rfl, cut_eq (by cbv) (by rfl)⟩
  rintro mz st ⟨i, x, hi, hmz, rfl⟩
  cases hcc : lt i (sln s)
  · obtain rfl := hend2 _ _ hi hcc
    cbv
    rw [hcc]; cbv
    exact hQ _ _ trivial (hfin _ (by cbv))
  obtain ⟨v, q1, q2, q3, q4, q5, q6⟩ := hstep2 _ _ hi hcc
  have hx : ixv 9 (.flat (.string s)) (.flat (.int .i64 i)) = some (.flat (.int .u8 v)) := by rw [hixv]; exact q1
  rw [← har] at q2 q3
  have e5 : eq v 10 = decide (v = 10) := by rw [heq]
  generalize i + 1 = i2 at q3 q4 q5 q6
  generalize x + 1 = x2 at q2 q5
  generalize decide (v = 10) = b at e5 q4 q5
  cases b
  · replace q5 := q5 rfl
    cbv
    rw [hcc]; cbv
    repeat (first | (rw [hbox]; cbv) | (rw [hsbox]; cbv) | (rw [q2]; cbv) | (rw [hx]; cbv) | (rw [e5]; cbv))
    rw [q3]
    exact ⟨[], [0, 3, 4], 5, ((s.size : Int) - i2).toNat, hmz ▸ q6, by simp, i2, x2, q5, rfl, cut_eq (by cbv) (by rfl)⟩
  replace q4 := q4 rfl
  cbv
  rw [hcc]; cbv
  repeat (first | (rw [hbox]; cbv) | (rw [hsbox]; cbv) | (rw [q2]; cbv) | (rw [hx]; cbv) | (rw [e5]; cbv))
  rw [q3]
  exact ⟨[], [0, 3, 4], 5, ((s.size : Int) - i2).toNat, hmz ▸ q6, by simp, i2, 0, q4, rfl, cut_eq (by cbv) (by rfl)⟩
theorem refLine2_calls (n : Int) (hn : n ≤ 10000000) : ACalls Try.prog 73 [.flat (.int .i64 n)] (fun _ => .flat (.string (txt (lineB n)))) (fun _ => []) := by
  have hz := lnAt_zero [] n
  have hb : ([] : List UInt8).length + 1 + n.toNat ≤ 100000000 := by simp; omega
  have hcat : ∀ cs : List UInt8, cs.length ≤ 100000000 → dvOf Try.prog .add 9 (.flat (.string (txt cs))) (.flat (.string ⟨#[32]⟩)) = some (.flat (.string (txt (cs ++ [32])))) := fun cs h => by
    have := dv_cat (txt cs) (txt [32]) (by rw [size_txt, size_txt]; simp; omega)
    rw [txt_append] at this
    exact this
  obtain ⟨r, hr⟩ : ∃ r, r = txt (lineB n) := ⟨_, rfl⟩
  rw [← hr]
  refine acalls_symF tabF_ok fn73 rfl rfl rfl (by kernel_rfl) ?_
  have hfin : ∀ st, resA Try.prog Try.f73 st = some (.flat (.string r)) → G.Leaves Try.prog Try.f73 (fun _ => .flat (.string r)) (fun _ => []) st := fun st h => G.Leaves.plain h rfl
  rintro ⟨lt, le, eq, se, ar, dv, una, conv, len, sln, nat, nth, ixs, cel, sto, app, cpy, slc, mak, ixv, oth, dk, ib, call⟩ hS hm Q hQ
  obtain ⟨hlt, hle, heq, hse, har, hdv, huna, hconv, hlen, hsln, hnat, hnth, hixs, hcel, hsto, happ, hcpy, hslc, hmak, hixv, hoth, hdk, hib, hcall⟩ := Sym.mk.inj hS
  clear hS
  have hnt : ∀ n : Nat, nat n = U.natI n := fun n => by rw [hnat]; rfl
  have hbox : ∀ e c off, cel (some ⟨e, [c]⟩) 0 off = if off ≤ c.length then some (c.drop off) else none := fun e c off => by rw [hcel]; rfl
  have hsbox : ∀ e c off sz y, sto (some ⟨e, [c]⟩) 0 off sz y = if y.cells.length = sz ∧ off + sz ≤ c.length ∧ y.cells.all AV.one = true then some ⟨e, [spl c off y.cells]⟩ else none := fun e c off sz y => by rw [hsto]; rfl
  have hcaw : ∀ {f args T base K}, CallK Try.prog f args T base K → call f args T base K := fun h => by rw [hcall]; exact h
  have hcal : ∀ {f args T base} {K : AV → Table → List Nat → List Nat → Prop}, (∃ args' ids val rows, Hands T ids args args' (val base) (rows base) ∧ ACalls Try.prog f args' val rows ∧ (rows base).length ≤ 8 ∧ K (val base) (adopt T base (rows base)) ids ((List.range (rows base).length).map (base + ·))) → call f args T base K := fun h => hcaw (call_own h)
  rw [← hdv] at hcat
  cbv
  refine MW_loop hm [] [0, 3, 4] 5 (by simp) (fun mz st => ∃ (i : Int) (cs : List UInt8) (s : ByteArray), LnAt [] n i cs ∧ s = txt cs ∧ mz = (n - i).toNat ∧ st = stOf [.flat (.int .i64 n), .dead, .dead, .flat (.string s), .flat (.int .i64 i)] [] 0) ((n - 0).toNat) ?_ ?_
  · exact ⟨0, _, ⟨#[10]⟩, hz, rfl, rfl, cut_eq (by cbv) (by rfl)⟩
  rintro mz st ⟨i, cs, s, hi, hs, hmz, rfl⟩
  cases hc : lt i n
  · have hc' : decide (i < n) = false := by rw [hlt] at hc; exact hc
    have hend := lnAt_end hi hc'
    rw [List.nil_append] at hend
    have : s = r := by rw [hs, hr, hend]
    subst this
    cbv
    rw [hc]; cbv
    exact hQ _ _ trivial (hfin _ (by cbv))
  have hc' : decide (i < n) = true := by rw [hlt] at hc; exact hc
  obtain ⟨r1, r2, r3, r4⟩ := lnAt_step hb hi hc'
  rw [← har] at r2
  have hcs := hcat cs (by omega)
  rw [← hs] at hcs
  obtain ⟨s2, hs2⟩ : ∃ s2, s2 = txt (cs ++ [32]) := ⟨_, rfl⟩
  rw [← hs2] at hcs
  generalize i + 1 = i2 at r1 r2 r3
  generalize cs ++ [32] = cs2 at r1 hs2
  cbv
  rw [hc]; cbv
  rw [hcs]; cbv
  rw [r2]
  exact ⟨[], [0, 3, 4], 5, (n - i2).toNat, hmz ▸ r3, by simp, i2, cs2, s2, r1, hs2, rfl, cut_eq (by cbv) (by rfl)⟩
theorem lay_lf0 {p : PartT} {s3 : ByteArray} {n w fol : Int} {s : ByteArray} {fl : Bool} (ht : (Tr.lf p).ok) (hm : (Tr.lf p).flat.length ≤ 20000) (hkd : p.kind = 0) (hn : n ≤ 10000000) (h3 : dvOf Try.prog .add 9 (.flat (.string s)) (.flat (.string p.text)) = some (.flat (.string s3))) : ACalls Try.prog 65 [.flat (.string s), .ro ((Tr.lf p).flat.map partC), .flat (.int .i64 n), .flat (.int .i64 w), .flat (.bool fl), .flat (.int .i64 fol)] (fun _ => .flat (.string s3)) (fun _ => []) := by
  have hcP := parts_calls (Tr.lf p) ht hm
  obtain ⟨kl, hkl, hlast⟩ := last_top (t := Tr.lf p) hm
  have hK : (kids (Tr.lf p)).map kidC = [] := rfl
  have hKl : (kids (Tr.lf p)).length = 0 := rfl
  rw [hK, hKl] at hcP
  change nthE _ _ _ = some (.rp (partC p)) at hlast
  generalize (Tr.lf p).flat.map partC = X at hcP hlast hkl ⊢
  obtain ⟨kd, pn, tx⟩ := p
  dsimp only at hkd h3
  subst hkd
  unfold partC at hlast
  dsimp only at hlast
  refine acalls_symF tabF_ok fn65 rfl rfl rfl (by kernel_rfl) ?_
  rintro ⟨lt, le, eq, se, ar, dv, una, conv, len, sln, nat, nth, ixs, cel, sto, app, cpy, slc, mak, ixv, oth, dk, ib, call⟩ hS hm Q hQ
  obtain ⟨hlt, hle, heq, hse, har, hdv, huna, hconv, hlen, hsln, hnat, hnth, hixs, hcel, hsto, happ, hcpy, hslc, hmak, hixv, hoth, hdk, hib, hcall⟩ := Sym.mk.inj hS
  clear hS
  have hnt : ∀ n : Nat, nat n = U.natI n := fun n => by rw [hnat]; rfl
  have hbox : ∀ e c off, cel (some ⟨e, [c]⟩) 0 off = if off ≤ c.length then some (c.drop off) else none := fun e c off => by rw [hcel]; rfl
  have hsbox : ∀ e c off sz y, sto (some ⟨e, [c]⟩) 0 off sz y = if y.cells.length = sz ∧ off + sz ≤ c.length ∧ y.cells.all AV.one = true then some ⟨e, [spl c off y.cells]⟩ else none := fun e c off sz y => by rw [hsto]; rfl
  have hcaw : ∀ {f args T base K}, CallK Try.prog f args T base K → call f args T base K := fun h => by rw [hcall]; exact h
  have hcal : ∀ {f args T base} {K : AV → Table → List Nat → List Nat → Prop}, (∃ args' ids val rows, Hands T ids args args' (val base) (rows base) ∧ ACalls Try.prog f args' val rows ∧ (rows base).length ≤ 8 ∧ K (val base) (adopt T base (rows base)) ids ((List.range (rows base).length).map (base + ·))) → call f args T base K := fun h => hcaw (call_own h)
  rw [← hdv] at h3
  have hE : ∀ x y, eq x y = decide (x = y) := fun x y => by rw [heq]
  rw [← hlen, ← har] at hkl
  rw [← hnth] at hlast
  cbv
  rw [hkl]; cbv
  repeat (first | (rw [hbox]; cbv) | (rw [hsbox]; cbv) | (rw [hlast]; cbv))
  refine hcal ⟨_, [], _, _, .inl ⟨rfl, by cbv⟩, hcP, by simp, ?_⟩
  cbv
  repeat (first | (rw [hbox]; cbv) | (rw [hsbox]; cbv) | (rw [hE]; cbv))
  repeat (first | (rw [hbox]; cbv) | (rw [hsbox]; cbv) | (rw [h3]; cbv))
  exact hQ _ _ trivial (G.Leaves.plain (by cbv) rfl)
theorem lay_lf1t {p : PartT} {s3 : ByteArray} {n w fol : Int} {s : ByteArray} {fl : Bool} (ht : (Tr.lf p).ok) (hm : (Tr.lf p).flat.length ≤ 20000) (hkd : p.kind = 1) (hn : n ≤ 10000000) (h3 : dvOf Try.prog .add 9 (.flat (.string s)) (.flat (.string ⟨#[32]⟩)) = some (.flat (.string s3))) : ACalls Try.prog 65 [.flat (.string s), .ro ((Tr.lf p).flat.map partC), .flat (.int .i64 n), .flat (.int .i64 w), .flat (.bool true), .flat (.int .i64 fol)] (fun _ => .flat (.string s3)) (fun _ => []) := by
  have hcP := parts_calls (Tr.lf p) ht hm
  obtain ⟨kl, hkl, hlast⟩ := last_top (t := Tr.lf p) hm
  have hK : (kids (Tr.lf p)).map kidC = [] := rfl
  have hKl : (kids (Tr.lf p)).length = 0 := rfl
  rw [hK, hKl] at hcP
  change nthE _ _ _ = some (.rp (partC p)) at hlast
  generalize (Tr.lf p).flat.map partC = X at hcP hlast hkl ⊢
  obtain ⟨kd, pn, tx⟩ := p
  dsimp only at hkd h3
  subst hkd
  unfold partC at hlast
  dsimp only at hlast
  refine acalls_symF tabF_ok fn65 rfl rfl rfl (by kernel_rfl) ?_
  rintro ⟨lt, le, eq, se, ar, dv, una, conv, len, sln, nat, nth, ixs, cel, sto, app, cpy, slc, mak, ixv, oth, dk, ib, call⟩ hS hm Q hQ
  obtain ⟨hlt, hle, heq, hse, har, hdv, huna, hconv, hlen, hsln, hnat, hnth, hixs, hcel, hsto, happ, hcpy, hslc, hmak, hixv, hoth, hdk, hib, hcall⟩ := Sym.mk.inj hS
  clear hS
  have hnt : ∀ n : Nat, nat n = U.natI n := fun n => by rw [hnat]; rfl
  have hbox : ∀ e c off, cel (some ⟨e, [c]⟩) 0 off = if off ≤ c.length then some (c.drop off) else none := fun e c off => by rw [hcel]; rfl
  have hsbox : ∀ e c off sz y, sto (some ⟨e, [c]⟩) 0 off sz y = if y.cells.length = sz ∧ off + sz ≤ c.length ∧ y.cells.all AV.one = true then some ⟨e, [spl c off y.cells]⟩ else none := fun e c off sz y => by rw [hsto]; rfl
  have hcaw : ∀ {f args T base K}, CallK Try.prog f args T base K → call f args T base K := fun h => by rw [hcall]; exact h
  have hcal : ∀ {f args T base} {K : AV → Table → List Nat → List Nat → Prop}, (∃ args' ids val rows, Hands T ids args args' (val base) (rows base) ∧ ACalls Try.prog f args' val rows ∧ (rows base).length ≤ 8 ∧ K (val base) (adopt T base (rows base)) ids ((List.range (rows base).length).map (base + ·))) → call f args T base K := fun h => hcaw (call_own h)
  rw [← hdv] at h3
  have hE : ∀ x y, eq x y = decide (x = y) := fun x y => by rw [heq]
  rw [← hlen, ← har] at hkl
  rw [← hnth] at hlast
  cbv
  rw [hkl]; cbv
  repeat (first | (rw [hbox]; cbv) | (rw [hsbox]; cbv) | (rw [hlast]; cbv))
  refine hcal ⟨_, [], _, _, .inl ⟨rfl, by cbv⟩, hcP, by simp, ?_⟩
  cbv
  repeat (first | (rw [hbox]; cbv) | (rw [hsbox]; cbv) | (rw [hE]; cbv))
  repeat (first | (rw [hbox]; cbv) | (rw [hsbox]; cbv) | (rw [h3]; cbv))
  exact hQ _ _ trivial (G.Leaves.plain (by cbv) rfl)
theorem lay_lf1f {p : PartT} {s3 : ByteArray} {n w fol : Int} {s : ByteArray} {fl : Bool} (ht : (Tr.lf p).ok) (hm : (Tr.lf p).flat.length ≤ 20000) (hkd : p.kind = 1) (hn : n ≤ 10000000) (h3 : dvOf Try.prog .add 9 (.flat (.string s)) (.flat (.string (txt (lineB n)))) = some (.flat (.string s3))) : ACalls Try.prog 65 [.flat (.string s), .ro ((Tr.lf p).flat.map partC), .flat (.int .i64 n), .flat (.int .i64 w), .flat (.bool false), .flat (.int .i64 fol)] (fun _ => .flat (.string s3)) (fun _ => []) := by
  have hcP := parts_calls (Tr.lf p) ht hm
  obtain ⟨kl, hkl, hlast⟩ := last_top (t := Tr.lf p) hm
  have hK : (kids (Tr.lf p)).map kidC = [] := rfl
  have hKl : (kids (Tr.lf p)).length = 0 := rfl
  rw [hK, hKl] at hcP
  change nthE _ _ _ = some (.rp (partC p)) at hlast
  generalize (Tr.lf p).flat.map partC = X at hcP hlast hkl ⊢
  obtain ⟨kd, pn, tx⟩ := p
  dsimp only at hkd h3
  subst hkd
  unfold partC at hlast
  dsimp only at hlast
  have hl := refLine2_calls n hn
  generalize txt (lineB n) = sl at hl h3
  refine acalls_symF tabF_ok fn65 rfl rfl rfl (by kernel_rfl) ?_
  rintro ⟨lt, le, eq, se, ar, dv, una, conv, len, sln, nat, nth, ixs, cel, sto, app, cpy, slc, mak, ixv, oth, dk, ib, call⟩ hS hm Q hQ
  obtain ⟨hlt, hle, heq, hse, har, hdv, huna, hconv, hlen, hsln, hnat, hnth, hixs, hcel, hsto, happ, hcpy, hslc, hmak, hixv, hoth, hdk, hib, hcall⟩ := Sym.mk.inj hS
  clear hS
  have hnt : ∀ n : Nat, nat n = U.natI n := fun n => by rw [hnat]; rfl
  have hbox : ∀ e c off, cel (some ⟨e, [c]⟩) 0 off = if off ≤ c.length then some (c.drop off) else none := fun e c off => by rw [hcel]; rfl
  have hsbox : ∀ e c off sz y, sto (some ⟨e, [c]⟩) 0 off sz y = if y.cells.length = sz ∧ off + sz ≤ c.length ∧ y.cells.all AV.one = true then some ⟨e, [spl c off y.cells]⟩ else none := fun e c off sz y => by rw [hsto]; rfl
  have hcaw : ∀ {f args T base K}, CallK Try.prog f args T base K → call f args T base K := fun h => by rw [hcall]; exact h
  have hcal : ∀ {f args T base} {K : AV → Table → List Nat → List Nat → Prop}, (∃ args' ids val rows, Hands T ids args args' (val base) (rows base) ∧ ACalls Try.prog f args' val rows ∧ (rows base).length ≤ 8 ∧ K (val base) (adopt T base (rows base)) ids ((List.range (rows base).length).map (base + ·))) → call f args T base K := fun h => hcaw (call_own h)
  rw [← hdv] at h3
  have hE : ∀ x y, eq x y = decide (x = y) := fun x y => by rw [heq]
  rw [← hlen, ← har] at hkl
  rw [← hnth] at hlast
  cbv
  rw [hkl]; cbv
  repeat (first | (rw [hbox]; cbv) | (rw [hsbox]; cbv) | (rw [hlast]; cbv))
  refine hcal ⟨_, [], _, _, .inl ⟨rfl, by cbv⟩, hcP, by simp, ?_⟩
  cbv
  repeat (first | (rw [hbox]; cbv) | (rw [hsbox]; cbv) | (rw [hE]; cbv))
  refine hcal ⟨_, [], _, _, .inl ⟨rfl, by cbv⟩, hl, by simp, ?_⟩
  cbv
  repeat (first | (rw [hbox]; cbv) | (rw [hsbox]; cbv) | (rw [h3]; cbv))
  exact hQ _ _ trivial (G.Leaves.plain (by cbv) rfl)
theorem lay_lf2t {p : PartT}  {n w fol : Int} {s : ByteArray} {fl : Bool} (ht : (Tr.lf p).ok) (hm : (Tr.lf p).flat.length ≤ 20000) (hkd : p.kind = 2) (hn : n ≤ 10000000)  : ACalls Try.prog 65 [.flat (.string s), .ro ((Tr.lf p).flat.map partC), .flat (.int .i64 n), .flat (.int .i64 w), .flat (.bool true), .flat (.int .i64 fol)] (fun _ => .flat (.string s)) (fun _ => []) := by
  have hcP := parts_calls (Tr.lf p) ht hm
  obtain ⟨kl, hkl, hlast⟩ := last_top (t := Tr.lf p) hm
  have hK : (kids (Tr.lf p)).map kidC = [] := rfl
  have hKl : (kids (Tr.lf p)).length = 0 := rfl
  rw [hK, hKl] at hcP
  change nthE _ _ _ = some (.rp (partC p)) at hlast
  generalize (Tr.lf p).flat.map partC = X at hcP hlast hkl ⊢
  obtain ⟨kd, pn, tx⟩ := p
  dsimp only at hkd
  subst hkd
  unfold partC at hlast
  dsimp only at hlast
  refine acalls_symF tabF_ok fn65 rfl rfl rfl (by kernel_rfl) ?_
  rintro ⟨lt, le, eq, se, ar, dv, una, conv, len, sln, nat, nth, ixs, cel, sto, app, cpy, slc, mak, ixv, oth, dk, ib, call⟩ hS hm Q hQ
  obtain ⟨hlt, hle, heq, hse, har, hdv, huna, hconv, hlen, hsln, hnat, hnth, hixs, hcel, hsto, happ, hcpy, hslc, hmak, hixv, hoth, hdk, hib, hcall⟩ := Sym.mk.inj hS
  clear hS
  have hnt : ∀ n : Nat, nat n = U.natI n := fun n => by rw [hnat]; rfl
  have hbox : ∀ e c off, cel (some ⟨e, [c]⟩) 0 off = if off ≤ c.length then some (c.drop off) else none := fun e c off => by rw [hcel]; rfl
  have hsbox : ∀ e c off sz y, sto (some ⟨e, [c]⟩) 0 off sz y = if y.cells.length = sz ∧ off + sz ≤ c.length ∧ y.cells.all AV.one = true then some ⟨e, [spl c off y.cells]⟩ else none := fun e c off sz y => by rw [hsto]; rfl
  have hcaw : ∀ {f args T base K}, CallK Try.prog f args T base K → call f args T base K := fun h => by rw [hcall]; exact h
  have hcal : ∀ {f args T base} {K : AV → Table → List Nat → List Nat → Prop}, (∃ args' ids val rows, Hands T ids args args' (val base) (rows base) ∧ ACalls Try.prog f args' val rows ∧ (rows base).length ≤ 8 ∧ K (val base) (adopt T base (rows base)) ids ((List.range (rows base).length).map (base + ·))) → call f args T base K := fun h => hcaw (call_own h)
  have hE : ∀ x y, eq x y = decide (x = y) := fun x y => by rw [heq]
  rw [← hlen, ← har] at hkl
  rw [← hnth] at hlast
  cbv
  rw [hkl]; cbv
  repeat (first | (rw [hbox]; cbv) | (rw [hsbox]; cbv) | (rw [hlast]; cbv))
  refine hcal ⟨_, [], _, _, .inl ⟨rfl, by cbv⟩, hcP, by simp, ?_⟩
  cbv
  repeat (first | (rw [hbox]; cbv) | (rw [hsbox]; cbv) | (rw [hE]; cbv))
  exact hQ _ _ trivial (G.Leaves.plain (by cbv) rfl)
theorem lay_lf2f {p : PartT} {s3 : ByteArray} {n w fol : Int} {s : ByteArray} {fl : Bool} (ht : (Tr.lf p).ok) (hm : (Tr.lf p).flat.length ≤ 20000) (hkd : p.kind = 2) (hn : n ≤ 10000000) (h3 : dvOf Try.prog .add 9 (.flat (.string s)) (.flat (.string (txt (lineB n)))) = some (.flat (.string s3))) : ACalls Try.prog 65 [.flat (.string s), .ro ((Tr.lf p).flat.map partC), .flat (.int .i64 n), .flat (.int .i64 w), .flat (.bool false), .flat (.int .i64 fol)] (fun _ => .flat (.string s3)) (fun _ => []) := by
  have hcP := parts_calls (Tr.lf p) ht hm
  obtain ⟨kl, hkl, hlast⟩ := last_top (t := Tr.lf p) hm
  have hK : (kids (Tr.lf p)).map kidC = [] := rfl
  have hKl : (kids (Tr.lf p)).length = 0 := rfl
  rw [hK, hKl] at hcP
  change nthE _ _ _ = some (.rp (partC p)) at hlast
  generalize (Tr.lf p).flat.map partC = X at hcP hlast hkl ⊢
  obtain ⟨kd, pn, tx⟩ := p
  dsimp only at hkd h3
  subst hkd
  unfold partC at hlast
  dsimp only at hlast
  have hl := refLine2_calls n hn
  generalize txt (lineB n) = sl at hl h3
  refine acalls_symF tabF_ok fn65 rfl rfl rfl (by kernel_rfl) ?_
  rintro ⟨lt, le, eq, se, ar, dv, una, conv, len, sln, nat, nth, ixs, cel, sto, app, cpy, slc, mak, ixv, oth, dk, ib, call⟩ hS hm Q hQ
  obtain ⟨hlt, hle, heq, hse, har, hdv, huna, hconv, hlen, hsln, hnat, hnth, hixs, hcel, hsto, happ, hcpy, hslc, hmak, hixv, hoth, hdk, hib, hcall⟩ := Sym.mk.inj hS
  clear hS
  have hnt : ∀ n : Nat, nat n = U.natI n := fun n => by rw [hnat]; rfl
  have hbox : ∀ e c off, cel (some ⟨e, [c]⟩) 0 off = if off ≤ c.length then some (c.drop off) else none := fun e c off => by rw [hcel]; rfl
  have hsbox : ∀ e c off sz y, sto (some ⟨e, [c]⟩) 0 off sz y = if y.cells.length = sz ∧ off + sz ≤ c.length ∧ y.cells.all AV.one = true then some ⟨e, [spl c off y.cells]⟩ else none := fun e c off sz y => by rw [hsto]; rfl
  have hcaw : ∀ {f args T base K}, CallK Try.prog f args T base K → call f args T base K := fun h => by rw [hcall]; exact h
  have hcal : ∀ {f args T base} {K : AV → Table → List Nat → List Nat → Prop}, (∃ args' ids val rows, Hands T ids args args' (val base) (rows base) ∧ ACalls Try.prog f args' val rows ∧ (rows base).length ≤ 8 ∧ K (val base) (adopt T base (rows base)) ids ((List.range (rows base).length).map (base + ·))) → call f args T base K := fun h => hcaw (call_own h)
  rw [← hdv] at h3
  have hE : ∀ x y, eq x y = decide (x = y) := fun x y => by rw [heq]
  rw [← hlen, ← har] at hkl
  rw [← hnth] at hlast
  cbv
  rw [hkl]; cbv
  repeat (first | (rw [hbox]; cbv) | (rw [hsbox]; cbv) | (rw [hlast]; cbv))
  refine hcal ⟨_, [], _, _, .inl ⟨rfl, by cbv⟩, hcP, by simp, ?_⟩
  cbv
  repeat (first | (rw [hbox]; cbv) | (rw [hsbox]; cbv) | (rw [hE]; cbv))
  refine hcal ⟨_, [], _, _, .inl ⟨rfl, by cbv⟩, hl, by simp, ?_⟩
  cbv
  repeat (first | (rw [hbox]; cbv) | (rw [hsbox]; cbv) | (rw [h3]; cbv))
  exact hQ _ _ trivial (G.Leaves.plain (by cbv) rfl)
theorem lay_lf3 {p : PartT} {s3 : ByteArray} {n w fol : Int} {s : ByteArray} {fl : Bool} (ht : (Tr.lf p).ok) (hm : (Tr.lf p).flat.length ≤ 20000) (hkd : p.kind = 3) (hn : n ≤ 10000000) (h3 : dvOf Try.prog .add 9 (.flat (.string s)) (.flat (.string (txt (lineB n)))) = some (.flat (.string s3))) : ACalls Try.prog 65 [.flat (.string s), .ro ((Tr.lf p).flat.map partC), .flat (.int .i64 n), .flat (.int .i64 w), .flat (.bool fl), .flat (.int .i64 fol)] (fun _ => .flat (.string s3)) (fun _ => []) := by
  have hcP := parts_calls (Tr.lf p) ht hm
  obtain ⟨kl, hkl, hlast⟩ := last_top (t := Tr.lf p) hm
  have hK : (kids (Tr.lf p)).map kidC = [] := rfl
  have hKl : (kids (Tr.lf p)).length = 0 := rfl
  rw [hK, hKl] at hcP
  change nthE _ _ _ = some (.rp (partC p)) at hlast
  generalize (Tr.lf p).flat.map partC = X at hcP hlast hkl ⊢
  obtain ⟨kd, pn, tx⟩ := p
  dsimp only at hkd h3
  subst hkd
  unfold partC at hlast
  dsimp only at hlast
  have hl := refLine2_calls n hn
  generalize txt (lineB n) = sl at hl h3
  refine acalls_symF tabF_ok fn65 rfl rfl rfl (by kernel_rfl) ?_
  rintro ⟨lt, le, eq, se, ar, dv, una, conv, len, sln, nat, nth, ixs, cel, sto, app, cpy, slc, mak, ixv, oth, dk, ib, call⟩ hS hm Q hQ
  obtain ⟨hlt, hle, heq, hse, har, hdv, huna, hconv, hlen, hsln, hnat, hnth, hixs, hcel, hsto, happ, hcpy, hslc, hmak, hixv, hoth, hdk, hib, hcall⟩ := Sym.mk.inj hS
  clear hS
  have hnt : ∀ n : Nat, nat n = U.natI n := fun n => by rw [hnat]; rfl
  have hbox : ∀ e c off, cel (some ⟨e, [c]⟩) 0 off = if off ≤ c.length then some (c.drop off) else none := fun e c off => by rw [hcel]; rfl
  have hsbox : ∀ e c off sz y, sto (some ⟨e, [c]⟩) 0 off sz y = if y.cells.length = sz ∧ off + sz ≤ c.length ∧ y.cells.all AV.one = true then some ⟨e, [spl c off y.cells]⟩ else none := fun e c off sz y => by rw [hsto]; rfl
  have hcaw : ∀ {f args T base K}, CallK Try.prog f args T base K → call f args T base K := fun h => by rw [hcall]; exact h
  have hcal : ∀ {f args T base} {K : AV → Table → List Nat → List Nat → Prop}, (∃ args' ids val rows, Hands T ids args args' (val base) (rows base) ∧ ACalls Try.prog f args' val rows ∧ (rows base).length ≤ 8 ∧ K (val base) (adopt T base (rows base)) ids ((List.range (rows base).length).map (base + ·))) → call f args T base K := fun h => hcaw (call_own h)
  rw [← hdv] at h3
  have hE : ∀ x y, eq x y = decide (x = y) := fun x y => by rw [heq]
  rw [← hlen, ← har] at hkl
  rw [← hnth] at hlast
  cbv
  rw [hkl]; cbv
  repeat (first | (rw [hbox]; cbv) | (rw [hsbox]; cbv) | (rw [hlast]; cbv))
  refine hcal ⟨_, [], _, _, .inl ⟨rfl, by cbv⟩, hcP, by simp, ?_⟩
  cbv
  repeat (first | (rw [hbox]; cbv) | (rw [hsbox]; cbv) | (rw [hE]; cbv))
  refine hcal ⟨_, [], _, _, .inl ⟨rfl, by cbv⟩, hl, by simp, ?_⟩
  cbv
  repeat (first | (rw [hbox]; cbv) | (rw [hsbox]; cbv) | (rw [h3]; cbv))
  exact hQ _ _ trivial (G.Leaves.plain (by cbv) rfl)
theorem lay_lf7 {p : PartT}  {n w fol : Int} {s : ByteArray} {fl : Bool} (ht : (Tr.lf p).ok) (hm : (Tr.lf p).flat.length ≤ 20000) (hkd : p.kind = 7) (hn : n ≤ 10000000)  : ACalls Try.prog 65 [.flat (.string s), .ro ((Tr.lf p).flat.map partC), .flat (.int .i64 n), .flat (.int .i64 w), .flat (.bool fl), .flat (.int .i64 fol)] (fun _ => .flat (.string s)) (fun _ => []) := by
  have hcP := parts_calls (Tr.lf p) ht hm
  obtain ⟨kl, hkl, hlast⟩ := last_top (t := Tr.lf p) hm
  have hK : (kids (Tr.lf p)).map kidC = [] := rfl
  have hKl : (kids (Tr.lf p)).length = 0 := rfl
  rw [hK, hKl] at hcP
  change nthE _ _ _ = some (.rp (partC p)) at hlast
  generalize (Tr.lf p).flat.map partC = X at hcP hlast hkl ⊢
  obtain ⟨kd, pn, tx⟩ := p
  dsimp only at hkd
  subst hkd
  unfold partC at hlast
  dsimp only at hlast
  refine acalls_symF tabF_ok fn65 rfl rfl rfl (by kernel_rfl) ?_
  rintro ⟨lt, le, eq, se, ar, dv, una, conv, len, sln, nat, nth, ixs, cel, sto, app, cpy, slc, mak, ixv, oth, dk, ib, call⟩ hS hm Q hQ
  obtain ⟨hlt, hle, heq, hse, har, hdv, huna, hconv, hlen, hsln, hnat, hnth, hixs, hcel, hsto, happ, hcpy, hslc, hmak, hixv, hoth, hdk, hib, hcall⟩ := Sym.mk.inj hS
  clear hS
  have hnt : ∀ n : Nat, nat n = U.natI n := fun n => by rw [hnat]; rfl
  have hbox : ∀ e c off, cel (some ⟨e, [c]⟩) 0 off = if off ≤ c.length then some (c.drop off) else none := fun e c off => by rw [hcel]; rfl
  have hsbox : ∀ e c off sz y, sto (some ⟨e, [c]⟩) 0 off sz y = if y.cells.length = sz ∧ off + sz ≤ c.length ∧ y.cells.all AV.one = true then some ⟨e, [spl c off y.cells]⟩ else none := fun e c off sz y => by rw [hsto]; rfl
  have hcaw : ∀ {f args T base K}, CallK Try.prog f args T base K → call f args T base K := fun h => by rw [hcall]; exact h
  have hcal : ∀ {f args T base} {K : AV → Table → List Nat → List Nat → Prop}, (∃ args' ids val rows, Hands T ids args args' (val base) (rows base) ∧ ACalls Try.prog f args' val rows ∧ (rows base).length ≤ 8 ∧ K (val base) (adopt T base (rows base)) ids ((List.range (rows base).length).map (base + ·))) → call f args T base K := fun h => hcaw (call_own h)
  have hE : ∀ x y, eq x y = decide (x = y) := fun x y => by rw [heq]
  rw [← hlen, ← har] at hkl
  rw [← hnth] at hlast
  cbv
  rw [hkl]; cbv
  repeat (first | (rw [hbox]; cbv) | (rw [hsbox]; cbv) | (rw [hlast]; cbv))
  refine hcal ⟨_, [], _, _, .inl ⟨rfl, by cbv⟩, hcP, by simp, ?_⟩
  cbv
  repeat (first | (rw [hbox]; cbv) | (rw [hsbox]; cbv) | (rw [hE]; cbv))
  exact hQ _ _ trivial (G.Leaves.plain (by cbv) rfl)
theorem lay_nest {p : PartT} {t : Tr} {s3 : ByteArray} {n w fol : Int} {s : ByteArray} {fl : Bool} (ht : (Tr.un p t).ok) (hm : (Tr.un p t).flat.length ≤ 20000) (hkd : p.kind = 5) (hn : arI .add .i64 n p.n = n + p.n) (hi : ACalls Try.prog 65 [.flat (.string s), .ro ((t).flat.map partC), .flat (.int .i64 (n + p.n)), .flat (.int .i64 w), .flat (.bool fl), .flat (.int .i64 fol)] (fun _ => .flat (.string s3)) (fun _ => [])) : ACalls Try.prog 65 [.flat (.string s), .ro ((Tr.un p t).flat.map partC), .flat (.int .i64 n), .flat (.int .i64 w), .flat (.bool fl), .flat (.int .i64 fol)] (fun _ => .flat (.string s3)) (fun _ => []) := by
  have hcP := parts_calls (Tr.un p t) ht hm
  obtain ⟨kl, hkl, hlast⟩ := last_top (t := Tr.un p t) hm
  have hK : (kids (Tr.un p t)).map kidC = [docC t.flat] := rfl
  have hKl : (kids (Tr.un p t)).length = 1 := rfl
  rw [hK, hKl] at hcP
  change nthE _ _ _ = some (.rp (partC p)) at hlast
  generalize (Tr.un p t).flat.map partC = X at hcP hlast hkl ⊢
  obtain ⟨kd, pn, tx⟩ := p
  dsimp only at hkd hn hi
  subst hkd
  unfold partC at hlast
  dsimp only at hlast
  unfold docC at hcP
  generalize t.flat.map partC = B at hcP hi
  generalize n + pn = n2 at hn hi
  refine acalls_symF tabF_ok fn65 rfl rfl rfl (by kernel_rfl) ?_
  rintro ⟨lt, le, eq, se, ar, dv, una, conv, len, sln, nat, nth, ixs, cel, sto, app, cpy, slc, mak, ixv, oth, dk, ib, call⟩ hS hm Q hQ
  obtain ⟨hlt, hle, heq, hse, har, hdv, huna, hconv, hlen, hsln, hnat, hnth, hixs, hcel, hsto, happ, hcpy, hslc, hmak, hixv, hoth, hdk, hib, hcall⟩ := Sym.mk.inj hS
  clear hS
  have hnt : ∀ n : Nat, nat n = U.natI n := fun n => by rw [hnat]; rfl
  have hbox : ∀ e c off, cel (some ⟨e, [c]⟩) 0 off = if off ≤ c.length then some (c.drop off) else none := fun e c off => by rw [hcel]; rfl
  have hsbox : ∀ e c off sz y, sto (some ⟨e, [c]⟩) 0 off sz y = if y.cells.length = sz ∧ off + sz ≤ c.length ∧ y.cells.all AV.one = true then some ⟨e, [spl c off y.cells]⟩ else none := fun e c off sz y => by rw [hsto]; rfl
  have hcaw : ∀ {f args T base K}, CallK Try.prog f args T base K → call f args T base K := fun h => by rw [hcall]; exact h
  have hcal : ∀ {f args T base} {K : AV → Table → List Nat → List Nat → Prop}, (∃ args' ids val rows, Hands T ids args args' (val base) (rows base) ∧ ACalls Try.prog f args' val rows ∧ (rows base).length ≤ 8 ∧ K (val base) (adopt T base (rows base)) ids ((List.range (rows base).length).map (base + ·))) → call f args T base K := fun h => hcaw (call_own h)
  have i0 : ∀ id, ixs (some ⟨23, [[.ro B]]⟩) id 0 1 0 1 = some (.ptr id 0 0) := fun id => by rw [hixs]; exact own_ix u64' (by decide) (by decide) id
  rw [← har] at hn
  have hE : ∀ x y, eq x y = decide (x = y) := fun x y => by rw [heq]
  rw [← hlen, ← har] at hkl
  rw [← hnth] at hlast
  cbv
  rw [hkl]; cbv
  repeat (first | (rw [hbox]; cbv) | (rw [hsbox]; cbv) | (rw [hlast]; cbv))
  refine hcal ⟨_, [], _, _, .inl ⟨rfl, by cbv⟩, hcP, by simp, ?_⟩
  cbv
  repeat (first | (rw [hbox]; cbv) | (rw [hsbox]; cbv) | (rw [hE]; cbv))
  refine ⟨by rw [hdk]; kernel_rfl, ?_⟩
  repeat (first | (rw [hbox]; cbv) | (rw [hsbox]; cbv) | (rw [i0]; cbv) | (rw [hn]; cbv))
  refine hcal ⟨_, [], _, _, .inl ⟨rfl, by cbv⟩, hi, by simp, ?_⟩
  cbv
  refine ⟨by rw [hib]; kernel_rfl, ?_⟩
  cbv
  exact hQ _ _ trivial (G.Leaves.plain (by cbv) rfl)
theorem lay_gt {p : PartT} {t : Tr} {s3 : ByteArray} {n w fol : Int} {s : ByteArray} {fl : Bool} (ht : (Tr.un p t).ok) (hm : (Tr.un p t).flat.length ≤ 20000) (hkd : p.kind = 6) (hi : ACalls Try.prog 65 [.flat (.string s), .ro ((t).flat.map partC), .flat (.int .i64 n), .flat (.int .i64 w), .flat (.bool true), .flat (.int .i64 fol)] (fun _ => .flat (.string s3)) (fun _ => [])) : ACalls Try.prog 65 [.flat (.string s), .ro ((Tr.un p t).flat.map partC), .flat (.int .i64 n), .flat (.int .i64 w), .flat (.bool true), .flat (.int .i64 fol)] (fun _ => .flat (.string s3)) (fun _ => []) := by
  have hcP := parts_calls (Tr.un p t) ht hm
  obtain ⟨kl, hkl, hlast⟩ := last_top (t := Tr.un p t) hm
  have hK : (kids (Tr.un p t)).map kidC = [docC t.flat] := rfl
  have hKl : (kids (Tr.un p t)).length = 1 := rfl
  rw [hK, hKl] at hcP
  change nthE _ _ _ = some (.rp (partC p)) at hlast
  generalize (Tr.un p t).flat.map partC = X at hcP hlast hkl ⊢
  obtain ⟨kd, pn, tx⟩ := p
  dsimp only at hkd
  subst hkd
  unfold partC at hlast
  dsimp only at hlast
  unfold docC at hcP
  generalize t.flat.map partC = B at hcP hi
  refine acalls_symF tabF_ok fn65 rfl rfl rfl (by kernel_rfl) ?_
  rintro ⟨lt, le, eq, se, ar, dv, una, conv, len, sln, nat, nth, ixs, cel, sto, app, cpy, slc, mak, ixv, oth, dk, ib, call⟩ hS hm Q hQ
  obtain ⟨hlt, hle, heq, hse, har, hdv, huna, hconv, hlen, hsln, hnat, hnth, hixs, hcel, hsto, happ, hcpy, hslc, hmak, hixv, hoth, hdk, hib, hcall⟩ := Sym.mk.inj hS
  clear hS
  have hnt : ∀ n : Nat, nat n = U.natI n := fun n => by rw [hnat]; rfl
  have hbox : ∀ e c off, cel (some ⟨e, [c]⟩) 0 off = if off ≤ c.length then some (c.drop off) else none := fun e c off => by rw [hcel]; rfl
  have hsbox : ∀ e c off sz y, sto (some ⟨e, [c]⟩) 0 off sz y = if y.cells.length = sz ∧ off + sz ≤ c.length ∧ y.cells.all AV.one = true then some ⟨e, [spl c off y.cells]⟩ else none := fun e c off sz y => by rw [hsto]; rfl
  have hcaw : ∀ {f args T base K}, CallK Try.prog f args T base K → call f args T base K := fun h => by rw [hcall]; exact h
  have hcal : ∀ {f args T base} {K : AV → Table → List Nat → List Nat → Prop}, (∃ args' ids val rows, Hands T ids args args' (val base) (rows base) ∧ ACalls Try.prog f args' val rows ∧ (rows base).length ≤ 8 ∧ K (val base) (adopt T base (rows base)) ids ((List.range (rows base).length).map (base + ·))) → call f args T base K := fun h => hcaw (call_own h)
  have i0 : ∀ id, ixs (some ⟨23, [[.ro B]]⟩) id 0 1 0 1 = some (.ptr id 0 0) := fun id => by rw [hixs]; exact own_ix u64' (by decide) (by decide) id
  have hE : ∀ x y, eq x y = decide (x = y) := fun x y => by rw [heq]
  rw [← hlen, ← har] at hkl
  rw [← hnth] at hlast
  cbv
  rw [hkl]; cbv
  repeat (first | (rw [hbox]; cbv) | (rw [hsbox]; cbv) | (rw [hlast]; cbv))
  refine hcal ⟨_, [], _, _, .inl ⟨rfl, by cbv⟩, hcP, by simp, ?_⟩
  cbv
  repeat (first | (rw [hbox]; cbv) | (rw [hsbox]; cbv) | (rw [hE]; cbv))
  repeat (first | (rw [hbox]; cbv) | (rw [hsbox]; cbv) | (rw [i0]; cbv))
  refine hcal ⟨_, [], _, _, .inl ⟨rfl, by cbv⟩, hi, by simp, ?_⟩
  cbv
  exact hQ _ _ trivial (G.Leaves.plain (by cbv) rfl)
theorem lay_gf {p : PartT} {t : Tr} {s3 : ByteArray} {o : Option (List UInt8)} {cl x1 x2 : Int} {fl2 : Bool} {n w fol : Int} {s : ByteArray} {fl : Bool} (ht : (Tr.un p t).ok) (hm : (Tr.un p t).flat.length ≤ 20000) (hkd : p.kind = 6) (hcF : ACalls Try.prog 29 [.ro (t.flat.map partC)] (fun _ => flatV o) (fun _ => [])) (hcC : ACalls Try.prog 74 [.flat (.string s)] (fun _ => .flat (.int .i64 cl)) (fun _ => [])) (h1 : arI .sub .i64 w cl = x1) (h2 : arI .sub .i64 x1 fol = x2) (f1 : o = none → fl2 = false) (f2 : ∀ bs, o = some bs → fl2 = decide ((bs.length : Int) ≤ x2)) (hi : ACalls Try.prog 65 [.flat (.string s), .ro ((t).flat.map partC), .flat (.int .i64 n), .flat (.int .i64 w), .flat (.bool fl2), .flat (.int .i64 fol)] (fun _ => .flat (.string s3)) (fun _ => [])) : ACalls Try.prog 65 [.flat (.string s), .ro ((Tr.un p t).flat.map partC), .flat (.int .i64 n), .flat (.int .i64 w), .flat (.bool false), .flat (.int .i64 fol)] (fun _ => .flat (.string s3)) (fun _ => []) := by
  have hcP := parts_calls (Tr.un p t) ht hm
  obtain ⟨kl, hkl, hlast⟩ := last_top (t := Tr.un p t) hm
  have hK : (kids (Tr.un p t)).map kidC = [docC t.flat] := rfl
  have hKl : (kids (Tr.un p t)).length = 1 := rfl
  rw [hK, hKl] at hcP
  change nthE _ _ _ = some (.rp (partC p)) at hlast
  generalize (Tr.un p t).flat.map partC = X at hcP hlast hkl ⊢
  obtain ⟨kd, pn, tx⟩ := p
  dsimp only at hkd
  subst hkd
  unfold partC at hlast
  dsimp only at hlast
  unfold docC at hcP
  generalize t.flat.map partC = B at hcP hi hcF
  cases o with
  | none =>
    obtain rfl := f1 rfl
    unfold flatV at hcF
    dsimp only at hcF
    clear f2
    refine acalls_symF tabF_ok fn65 rfl rfl rfl (by kernel_rfl) ?_
    rintro ⟨lt, le, eq, se, ar, dv, una, conv, len, sln, nat, nth, ixs, cel, sto, app, cpy, slc, mak, ixv, oth, dk, ib, call⟩ hS hm Q hQ
    obtain ⟨hlt, hle, heq, hse, har, hdv, huna, hconv, hlen, hsln, hnat, hnth, hixs, hcel, hsto, happ, hcpy, hslc, hmak, hixv, hoth, hdk, hib, hcall⟩ := Sym.mk.inj hS
    clear hS
    have hnt : ∀ n : Nat, nat n = U.natI n := fun n => by rw [hnat]; rfl
    have hbox : ∀ e c off, cel (some ⟨e, [c]⟩) 0 off = if off ≤ c.length then some (c.drop off) else none := fun e c off => by rw [hcel]; rfl
    have hsbox : ∀ e c off sz y, sto (some ⟨e, [c]⟩) 0 off sz y = if y.cells.length = sz ∧ off + sz ≤ c.length ∧ y.cells.all AV.one = true then some ⟨e, [spl c off y.cells]⟩ else none := fun e c off sz y => by rw [hsto]; rfl
    have hcaw : ∀ {f args T base K}, CallK Try.prog f args T base K → call f args T base K := fun h => by rw [hcall]; exact h
    have hcal : ∀ {f args T base} {K : AV → Table → List Nat → List Nat → Prop}, (∃ args' ids val rows, Hands T ids args args' (val base) (rows base) ∧ ACalls Try.prog f args' val rows ∧ (rows base).length ≤ 8 ∧ K (val base) (adopt T base (rows base)) ids ((List.range (rows base).length).map (base + ·))) → call f args T base K := fun h => hcaw (call_own h)
    have i0 : ∀ id, ixs (some ⟨23, [[.ro B]]⟩) id 0 1 0 1 = some (.ptr id 0 0) := fun id => by rw [hixs]; exact own_ix u64' (by decide) (by decide) id
    have hE : ∀ x y, eq x y = decide (x = y) := fun x y => by rw [heq]
    rw [← hlen, ← har] at hkl
    rw [← hnth] at hlast
    cbv
    rw [hkl]; cbv
    repeat (first | (rw [hbox]; cbv) | (rw [hsbox]; cbv) | (rw [hlast]; cbv))
    refine hcal ⟨_, [], _, _, .inl ⟨rfl, by cbv⟩, hcP, by simp, ?_⟩
    cbv
    repeat (first | (rw [hbox]; cbv) | (rw [hsbox]; cbv) | (rw [hE]; cbv))
    repeat (first | (rw [hbox]; cbv) | (rw [hsbox]; cbv) | (rw [i0]; cbv))
    refine hcal ⟨_, [], _, _, .inl ⟨rfl, by cbv⟩, hcF, by simp, ?_⟩
    cbv
    repeat (first | (rw [hbox]; cbv) | (rw [hsbox]; cbv) | (rw [i0]; cbv))
    refine hcal ⟨_, [], _, _, .inl ⟨rfl, by cbv⟩, hi, by simp, ?_⟩
    cbv
    exact hQ _ _ trivial (G.Leaves.plain (by cbv) rfl)
  | some bs =>
    obtain rfl := f2 _ rfl
    unfold flatV at hcF
    dsimp only at hcF
    clear f1 f2
    have hsz0 : ((txt bs).size : Int) = (bs.length : Int) := by rw [size_txt]
    generalize txt bs = sb at hcF hsz0
    rw [← hsz0] at hi
    clear hsz0
    refine acalls_symF tabF_ok fn65 rfl rfl rfl (by kernel_rfl) ?_
    rintro ⟨lt, le, eq, se, ar, dv, una, conv, len, sln, nat, nth, ixs, cel, sto, app, cpy, slc, mak, ixv, oth, dk, ib, call⟩ hS hm Q hQ
    obtain ⟨hlt, hle, heq, hse, har, hdv, huna, hconv, hlen, hsln, hnat, hnth, hixs, hcel, hsto, happ, hcpy, hslc, hmak, hixv, hoth, hdk, hib, hcall⟩ := Sym.mk.inj hS
    clear hS
    have hnt : ∀ n : Nat, nat n = U.natI n := fun n => by rw [hnat]; rfl
    have hbox : ∀ e c off, cel (some ⟨e, [c]⟩) 0 off = if off ≤ c.length then some (c.drop off) else none := fun e c off => by rw [hcel]; rfl
    have hsbox : ∀ e c off sz y, sto (some ⟨e, [c]⟩) 0 off sz y = if y.cells.length = sz ∧ off + sz ≤ c.length ∧ y.cells.all AV.one = true then some ⟨e, [spl c off y.cells]⟩ else none := fun e c off sz y => by rw [hsto]; rfl
    have hcaw : ∀ {f args T base K}, CallK Try.prog f args T base K → call f args T base K := fun h => by rw [hcall]; exact h
    have hcal : ∀ {f args T base} {K : AV → Table → List Nat → List Nat → Prop}, (∃ args' ids val rows, Hands T ids args args' (val base) (rows base) ∧ ACalls Try.prog f args' val rows ∧ (rows base).length ≤ 8 ∧ K (val base) (adopt T base (rows base)) ids ((List.range (rows base).length).map (base + ·))) → call f args T base K := fun h => hcaw (call_own h)
    have i0 : ∀ id, ixs (some ⟨23, [[.ro B]]⟩) id 0 1 0 1 = some (.ptr id 0 0) := fun id => by rw [hixs]; exact own_ix u64' (by decide) (by decide) id
    rw [← har] at h1 h2
    have e7 : le (sln sb) x2 = decide ((sb.size : Int) ≤ x2) := by rw [hle, hsln]
    generalize decide ((sb.size : Int) ≤ x2) = b7 at e7 hi
    have hE : ∀ x y, eq x y = decide (x = y) := fun x y => by rw [heq]
    rw [← hlen, ← har] at hkl
    rw [← hnth] at hlast
    cbv
    rw [hkl]; cbv
    repeat (first | (rw [hbox]; cbv) | (rw [hsbox]; cbv) | (rw [hlast]; cbv))
    refine hcal ⟨_, [], _, _, .inl ⟨rfl, by cbv⟩, hcP, by simp, ?_⟩
    cbv
    repeat (first | (rw [hbox]; cbv) | (rw [hsbox]; cbv) | (rw [hE]; cbv))
    repeat (first | (rw [hbox]; cbv) | (rw [hsbox]; cbv) | (rw [i0]; cbv))
    refine hcal ⟨_, [], _, _, .inl ⟨rfl, by cbv⟩, hcF, by simp, ?_⟩
    cbv
    refine hcal ⟨_, [], _, _, .inl ⟨rfl, by cbv⟩, hcC, by simp, ?_⟩
    cbv
    repeat (first | (rw [hbox]; cbv) | (rw [hsbox]; cbv) | (rw [h1]; cbv) | (rw [h2]; cbv) | (rw [e7]; cbv) | (rw [i0]; cbv))
    refine hcal ⟨_, [], _, _, .inl ⟨rfl, by cbv⟩, hi, by simp, ?_⟩
    cbv
    exact hQ _ _ trivial (G.Leaves.plain (by cbv) rfl)
theorem lay_catf {p : PartT} {a b : Tr} {s2 s3 : ByteArray} {lw x1 : Int} {n w fol : Int} {s : ByteArray} {fl : Bool} (ht : (Tr.cat p a b).ok) (hm : (Tr.cat p a b).flat.length ≤ 20000) (hkd : p.kind = 4) (hcL : ACalls Try.prog 37 [.ro (b.flat.map partC)] (fun _ => leadV (lw, false)) (fun _ => [])) (h1 : arI .add .i64 lw fol = x1) (hi : ACalls Try.prog 65 [.flat (.string s), .ro ((a).flat.map partC), .flat (.int .i64 n), .flat (.int .i64 w), .flat (.bool fl), .flat (.int .i64 x1)] (fun _ => .flat (.string s2)) (fun _ => [])) (hj : ACalls Try.prog 65 [.flat (.string s2), .ro ((b).flat.map partC), .flat (.int .i64 n), .flat (.int .i64 w), .flat (.bool fl), .flat (.int .i64 fol)] (fun _ => .flat (.string s3)) (fun _ => [])) : ACalls Try.prog 65 [.flat (.string s), .ro ((Tr.cat p a b).flat.map partC), .flat (.int .i64 n), .flat (.int .i64 w), .flat (.bool fl), .flat (.int .i64 fol)] (fun _ => .flat (.string s3)) (fun _ => []) := by
  have hcP := parts_calls (Tr.cat p a b) ht hm
  obtain ⟨kl, hkl, hlast⟩ := last_top (t := Tr.cat p a b) hm
  have hK : (kids (Tr.cat p a b)).map kidC = [docC a.flat, docC b.flat] := rfl
  have hKl : (kids (Tr.cat p a b)).length = 2 := rfl
  rw [hK, hKl] at hcP
  change nthE _ _ _ = some (.rp (partC p)) at hlast
  generalize (Tr.cat p a b).flat.map partC = X at hcP hlast hkl ⊢
  obtain ⟨kd, pn, tx⟩ := p
  dsimp only at hkd
  subst hkd
  unfold partC at hlast
  dsimp only at hlast
  unfold docC at hcP
  unfold leadV at hcL
  dsimp only at hcL
  generalize a.flat.map partC = B at hcP hi
  generalize b.flat.map partC = C at hcP hj hcL
  refine acalls_symF tabF_ok fn65 rfl rfl rfl (by kernel_rfl) ?_
  rintro ⟨lt, le, eq, se, ar, dv, una, conv, len, sln, nat, nth, ixs, cel, sto, app, cpy, slc, mak, ixv, oth, dk, ib, call⟩ hS hm Q hQ
  obtain ⟨hlt, hle, heq, hse, har, hdv, huna, hconv, hlen, hsln, hnat, hnth, hixs, hcel, hsto, happ, hcpy, hslc, hmak, hixv, hoth, hdk, hib, hcall⟩ := Sym.mk.inj hS
  clear hS
  have hnt : ∀ n : Nat, nat n = U.natI n := fun n => by rw [hnat]; rfl
  have hbox : ∀ e c off, cel (some ⟨e, [c]⟩) 0 off = if off ≤ c.length then some (c.drop off) else none := fun e c off => by rw [hcel]; rfl
  have hsbox : ∀ e c off sz y, sto (some ⟨e, [c]⟩) 0 off sz y = if y.cells.length = sz ∧ off + sz ≤ c.length ∧ y.cells.all AV.one = true then some ⟨e, [spl c off y.cells]⟩ else none := fun e c off sz y => by rw [hsto]; rfl
  have hcaw : ∀ {f args T base K}, CallK Try.prog f args T base K → call f args T base K := fun h => by rw [hcall]; exact h
  have hcal : ∀ {f args T base} {K : AV → Table → List Nat → List Nat → Prop}, (∃ args' ids val rows, Hands T ids args args' (val base) (rows base) ∧ ACalls Try.prog f args' val rows ∧ (rows base).length ≤ 8 ∧ K (val base) (adopt T base (rows base)) ids ((List.range (rows base).length).map (base + ·))) → call f args T base K := fun h => hcaw (call_own h)
  have i0 : ∀ id, ixs (some ⟨23, [[.ro B], [.ro C]]⟩) id 0 2 0 1 = some (.ptr id 0 0) := fun id => by rw [hixs]; exact own_ix u64' (by decide) (by decide) id
  have i1 : ∀ id, ixs (some ⟨23, [[.ro B], [.ro C]]⟩) id 0 2 1 1 = some (.ptr id 1 0) := fun id => by rw [hixs]; exact own_ix u64' (by decide) (by decide) id
  have j0 : cel (some ⟨23, [[.ro B], [.ro C]]⟩) 0 0 = some [.ro B] := by rw [hcel]; rfl
  have j1 : cel (some ⟨23, [[.ro B], [.ro C]]⟩) 1 0 = some [.ro C] := by rw [hcel]; rfl
  rw [← har] at h1
  have hE : ∀ x y, eq x y = decide (x = y) := fun x y => by rw [heq]
  rw [← hlen, ← har] at hkl
  rw [← hnth] at hlast
  cbv
  rw [hkl]; cbv
  repeat (first | (rw [hbox]; cbv) | (rw [hsbox]; cbv) | (rw [hlast]; cbv))
  refine hcal ⟨_, [], _, _, .inl ⟨rfl, by cbv⟩, hcP, by simp, ?_⟩
  cbv
  repeat (first | (rw [hbox]; cbv) | (rw [hsbox]; cbv) | (rw [hE]; cbv))
  repeat (first | (rw [hbox]; cbv) | (rw [hsbox]; cbv) | (rw [i1]; cbv) | (rw [j1]; cbv))
  refine hcal ⟨_, [], _, _, .inl ⟨rfl, by cbv⟩, hcL, by simp, ?_⟩
  cbv
  repeat (first | (rw [hbox]; cbv) | (rw [hsbox]; cbv) | (rw [h1]; cbv))
  refine ⟨by rw [hdk]; kernel_rfl, ?_⟩
  repeat (first | (rw [hbox]; cbv) | (rw [hsbox]; cbv) | (rw [i0]; cbv) | (rw [j0]; cbv))
  refine hcal ⟨_, [], _, _, .inl ⟨rfl, by cbv⟩, hi, by simp, ?_⟩
  cbv
  repeat (first | (rw [hbox]; cbv) | (rw [hsbox]; cbv) | (rw [i1]; cbv) | (rw [j1]; cbv))
  refine hcal ⟨_, [], _, _, .inl ⟨rfl, by cbv⟩, hj, by simp, ?_⟩
  cbv
  refine ⟨by rw [hib]; kernel_rfl, ?_⟩
  cbv
  exact hQ _ _ trivial (G.Leaves.plain (by cbv) rfl)
theorem lay_catt {p : PartT} {a b : Tr} {s2 s3 : ByteArray} {lw x1 : Int} {n w fol : Int} {s : ByteArray} {fl : Bool} (ht : (Tr.cat p a b).ok) (hm : (Tr.cat p a b).flat.length ≤ 20000) (hkd : p.kind = 4) (hcL : ACalls Try.prog 37 [.ro (b.flat.map partC)] (fun _ => leadV (lw, true)) (fun _ => []))  (hi : ACalls Try.prog 65 [.flat (.string s), .ro ((a).flat.map partC), .flat (.int .i64 n), .flat (.int .i64 w), .flat (.bool fl), .flat (.int .i64 lw)] (fun _ => .flat (.string s2)) (fun _ => [])) (hj : ACalls Try.prog 65 [.flat (.string s2), .ro ((b).flat.map partC), .flat (.int .i64 n), .flat (.int .i64 w), .flat (.bool fl), .flat (.int .i64 fol)] (fun _ => .flat (.string s3)) (fun _ => [])) : ACalls Try.prog 65 [.flat (.string s), .ro ((Tr.cat p a b).flat.map partC), .flat (.int .i64 n), .flat (.int .i64 w), .flat (.bool fl), .flat (.int .i64 fol)] (fun _ => .flat (.string s3)) (fun _ => []) := by
  have hcP := parts_calls (Tr.cat p a b) ht hm
  obtain ⟨kl, hkl, hlast⟩ := last_top (t := Tr.cat p a b) hm
  have hK : (kids (Tr.cat p a b)).map kidC = [docC a.flat, docC b.flat] := rfl
  have hKl : (kids (Tr.cat p a b)).length = 2 := rfl
  rw [hK, hKl] at hcP
  change nthE _ _ _ = some (.rp (partC p)) at hlast
  generalize (Tr.cat p a b).flat.map partC = X at hcP hlast hkl ⊢
  obtain ⟨kd, pn, tx⟩ := p
  dsimp only at hkd
  subst hkd
  unfold partC at hlast
  dsimp only at hlast
  unfold docC at hcP
  unfold leadV at hcL
  dsimp only at hcL
  generalize a.flat.map partC = B at hcP hi
  generalize b.flat.map partC = C at hcP hj hcL
  refine acalls_symF tabF_ok fn65 rfl rfl rfl (by kernel_rfl) ?_
  rintro ⟨lt, le, eq, se, ar, dv, una, conv, len, sln, nat, nth, ixs, cel, sto, app, cpy, slc, mak, ixv, oth, dk, ib, call⟩ hS hm Q hQ
  obtain ⟨hlt, hle, heq, hse, har, hdv, huna, hconv, hlen, hsln, hnat, hnth, hixs, hcel, hsto, happ, hcpy, hslc, hmak, hixv, hoth, hdk, hib, hcall⟩ := Sym.mk.inj hS
  clear hS
  have hnt : ∀ n : Nat, nat n = U.natI n := fun n => by rw [hnat]; rfl
  have hbox : ∀ e c off, cel (some ⟨e, [c]⟩) 0 off = if off ≤ c.length then some (c.drop off) else none := fun e c off => by rw [hcel]; rfl
  have hsbox : ∀ e c off sz y, sto (some ⟨e, [c]⟩) 0 off sz y = if y.cells.length = sz ∧ off + sz ≤ c.length ∧ y.cells.all AV.one = true then some ⟨e, [spl c off y.cells]⟩ else none := fun e c off sz y => by rw [hsto]; rfl
  have hcaw : ∀ {f args T base K}, CallK Try.prog f args T base K → call f args T base K := fun h => by rw [hcall]; exact h
  have hcal : ∀ {f args T base} {K : AV → Table → List Nat → List Nat → Prop}, (∃ args' ids val rows, Hands T ids args args' (val base) (rows base) ∧ ACalls Try.prog f args' val rows ∧ (rows base).length ≤ 8 ∧ K (val base) (adopt T base (rows base)) ids ((List.range (rows base).length).map (base + ·))) → call f args T base K := fun h => hcaw (call_own h)
  have i0 : ∀ id, ixs (some ⟨23, [[.ro B], [.ro C]]⟩) id 0 2 0 1 = some (.ptr id 0 0) := fun id => by rw [hixs]; exact own_ix u64' (by decide) (by decide) id
  have i1 : ∀ id, ixs (some ⟨23, [[.ro B], [.ro C]]⟩) id 0 2 1 1 = some (.ptr id 1 0) := fun id => by rw [hixs]; exact own_ix u64' (by decide) (by decide) id
  have j0 : cel (some ⟨23, [[.ro B], [.ro C]]⟩) 0 0 = some [.ro B] := by rw [hcel]; rfl
  have j1 : cel (some ⟨23, [[.ro B], [.ro C]]⟩) 1 0 = some [.ro C] := by rw [hcel]; rfl
  have hE : ∀ x y, eq x y = decide (x = y) := fun x y => by rw [heq]
  rw [← hlen, ← har] at hkl
  rw [← hnth] at hlast
  cbv
  rw [hkl]; cbv
  repeat (first | (rw [hbox]; cbv) | (rw [hsbox]; cbv) | (rw [hlast]; cbv))
  refine hcal ⟨_, [], _, _, .inl ⟨rfl, by cbv⟩, hcP, by simp, ?_⟩
  cbv
  repeat (first | (rw [hbox]; cbv) | (rw [hsbox]; cbv) | (rw [hE]; cbv))
  repeat (first | (rw [hbox]; cbv) | (rw [hsbox]; cbv) | (rw [i1]; cbv) | (rw [j1]; cbv))
  refine hcal ⟨_, [], _, _, .inl ⟨rfl, by cbv⟩, hcL, by simp, ?_⟩
  cbv
  repeat (first | (rw [hbox]; cbv) | (rw [hsbox]; cbv))
  refine ⟨by rw [hdk]; kernel_rfl, ?_⟩
  repeat (first | (rw [hbox]; cbv) | (rw [hsbox]; cbv) | (rw [i0]; cbv) | (rw [j0]; cbv))
  refine hcal ⟨_, [], _, _, .inl ⟨rfl, by cbv⟩, hi, by simp, ?_⟩
  cbv
  repeat (first | (rw [hbox]; cbv) | (rw [hsbox]; cbv) | (rw [i1]; cbv) | (rw [j1]; cbv))
  refine hcal ⟨_, [], _, _, .inl ⟨rfl, by cbv⟩, hj, by simp, ?_⟩
  cbv
  refine ⟨by rw [hib]; kernel_rfl, ?_⟩
  cbv
  exact hQ _ _ trivial (G.Leaves.plain (by cbv) rfl)
theorem fn48 : Try.prog.funcs[48]? = some Try.f48 := by kernel_rfl
theorem fn10 : Try.prog.funcs[10]? = some Try.f10 := by kernel_rfl
theorem layT_len (w : Int) : ∀ (t : Tr), t.ok → (∀ p ∈ t.flat, p.text.size ≤ 1000) → ∀ (n : Int) (fl : Bool) (rest : DocT) (bs : List UInt8), n + 100 * (t.flat.length : Int) ≤ 36000 → (layT w t n fl rest bs).length ≤ bs.length + 37000 * t.flat.length
  | .lf p, ht, hp, n, fl, rest, bs, hn => by
    have h := emP_len (fl := fl) (n := n) (p := p) (by simp only [Tr.flat, List.length_cons, List.length_nil] at hn; omega) (hp p (by simp [Tr.flat]))
    simp only [layT, List.length_append, Tr.flat, List.length_cons, List.length_nil]; omega
  | .un p t, ht, hp, n, fl, rest, bs, hn => by
    have hl : (Tr.un p t).flat.length = t.flat.length + 1 := by simp [Tr.flat]
    have hq : ∀ q ∈ t.flat, q.text.size ≤ 1000 := fun q h => hp q (by simp [Tr.flat, h])
    rw [hl] at hn ⊢
    simp only [layT]
    split
    · rename_i h5
      have := pn_bd ht.1 h5
      have := layT_len w t ht.2.2 hq (n + p.n) fl rest bs (by omega)
      omega
    · have := layT_len w t ht.2.2 hq n (fl || fitsT w t rest (colB bs)) rest bs (by omega)
      omega
  | .cat p a b, ht, hp, n, fl, rest, bs, hn => by
    have hl : (Tr.cat p a b).flat.length = a.flat.length + b.flat.length + 1 := by simp only [Tr.flat, List.length_append, List.length_cons, List.length_nil]
    have hqa : ∀ q ∈ a.flat, q.text.size ≤ 1000 := fun q h => hp q (by simp [Tr.flat, h])
    have hqb : ∀ q ∈ b.flat, q.text.size ≤ 1000 := fun q h => hp q (by simp [Tr.flat, h])
    rw [hl] at hn ⊢
    simp only [layT]
    have h1 := layT_len w a ht.2.2.1 hqa n fl (b.flat ++ rest) bs (by omega)
    have h2 := layT_len w b ht.2.2.2 hqb n fl rest (layT w a n fl (b.flat ++ rest) bs) (by omega)
    omega
def LayK (w : Int) (t : Tr) : Prop := ∀ (n : Int) (fl : Bool) (rest : DocT) (bs : List UInt8), 0 ≤ n → n + 100 * (t.flat.length : Int) ≤ 36000 → (∀ p ∈ rest, p.text.size ≤ 1000) → rest.length + t.flat.length ≤ 100 → bs.length + 37000 * t.flat.length ≤ 13320000 →
  ACalls Try.prog 65 [.flat (.string (txt bs)), .ro (t.flat.map partC), .flat (.int .i64 n), .flat (.int .i64 w), .flat (.bool fl), .flat (.int .i64 (leadD rest).1)] (fun _ => .flat (.string (txt (layT w t n fl rest bs)))) (fun _ => [])
theorem refLay_calls {w : Int} (hw : 0 ≤ w ∧ w ≤ 1048576) : ∀ (t : Tr), t.ok → (∀ p ∈ t.flat, p.text.size ≤ 1000) → LayK w t := by
  intro t
  induction t with
  | lf p =>
    intro ht hp n fl rest bs h0 hn hr hl hb
    have hlf : (Tr.lf p).flat.length = 1 := rfl
    rw [hlf] at hn hb
    have hm : (Tr.lf p).flat.length ≤ 20000 := by rw [hlf]; decide
    have hn2 : n ≤ 10000000 := by omega
    have he := emP_len (fl := fl) (n := n) (p := p) (by omega) (hp p (by simp [Tr.flat]))
    have hcat := dv_cat (txt bs) (txt (emP p n fl)) (by rw [size_txt, size_txt]; omega)
    rw [txt_append] at hcat
    simp only [layT]
    rcases t0 ht.2 with h | h | h | h | h
    · have e : emP p n fl = bts p.text := by simp [emP, h]
      rw [e] at hcat ⊢
      rw [txt_bts] at hcat
      exact lay_lf0 ht hm h hn2 hcat
    · cases fl
      · have e : emP p n false = lineB n := by simp [emP, h]
        rw [e] at hcat ⊢
        exact lay_lf1f (fl := false) ht hm h hn2 hcat
      · have e : emP p n true = [32] := by simp [emP, h]
        rw [e] at hcat ⊢
        exact lay_lf1t (fl := true) ht hm h hn2 hcat
    · cases fl
      · have e : emP p n false = lineB n := by simp [emP, h]
        rw [e] at hcat ⊢
        exact lay_lf2f (fl := false) ht hm h hn2 hcat
      · have e : emP p n true = [] := by simp [emP, h]
        rw [e, List.append_nil]
        exact lay_lf2t (fl := true) ht hm h hn2
    · have e : emP p n fl = lineB n := by simp [emP, h]
      rw [e] at hcat ⊢
      exact lay_lf3 ht hm h hn2 hcat
    · have e : emP p n fl = [] := by simp [emP, h]
      rw [e, List.append_nil]
      exact lay_lf7 ht hm h hn2
  | un p t ih =>
    intro ht hp n fl rest bs h0 hn hr hl hb
    have hll : (Tr.un p t).flat.length = t.flat.length + 1 := by simp [Tr.flat]
    have hq : ∀ q ∈ t.flat, q.text.size ≤ 1000 := fun q h => hp q (by simp [Tr.flat, h])
    have hm : (Tr.un p t).flat.length ≤ 20000 := by omega
    rw [hll] at hn hl hb
    simp only [layT]
    rcases t1 ht.2.1 with h | h
    · have hpn := pn_bd ht.1 h
      rw [if_pos h]
      exact lay_nest ht hm h (ar_add64 (by omega) (by omega)) (ih ht.2.2 hq _ _ _ _ (by omega) (by omega) hr (by omega) (by omega))
    · rw [if_neg (by omega)]
      cases fl
      · rw [Bool.false_or]
        have hcb := colB_bd bs
        have hld := leadD_bd rest hr
        have hcC := column_calls (txt bs) (by rw [size_txt]; omega)
        rw [bts_txt] at hcC
        refine lay_gf (fl := false) (o := flatD t.flat) (cl := colB bs) (x1 := w - colB bs) (x2 := w - colB bs - (leadD rest).1) (fl2 := fitsT w t rest (colB bs)) ht hm h (refFlat_calls t ht.2.2 ⟨by omega, hq⟩) hcC (ar_sub64 (by omega) (by omega)) (ar_sub64 (by omega) (by omega)) (fun ho => by unfold fitsT; rw [ho]) (fun b ho => by unfold fitsT; rw [ho]) (ih ht.2.2 hq _ _ _ _ h0 (by omega) hr (by omega) (by omega))
      · rw [Bool.true_or]
        exact lay_gt (fl := true) ht hm h (ih ht.2.2 hq _ _ _ _ h0 (by omega) hr (by omega) (by omega))
  | cat p a b iha ihb =>
    intro ht hp n fl rest bs h0 hn hr hl hb
    have hll : (Tr.cat p a b).flat.length = a.flat.length + b.flat.length + 1 := by simp only [Tr.flat, List.length_append, List.length_cons, List.length_nil]
    have hqa : ∀ q ∈ a.flat, q.text.size ≤ 1000 := fun q h => hp q (by simp [Tr.flat, h])
    have hqb : ∀ q ∈ b.flat, q.text.size ≤ 1000 := fun q h => hp q (by simp [Tr.flat, h])
    have hm : (Tr.cat p a b).flat.length ≤ 20000 := by omega
    rw [hll] at hn hl hb
    simp only [layT]
    have hlen := layT_len w a ht.2.2.1 hqa n fl (b.flat ++ rest) bs (by omega)
    have hi := iha ht.2.2.1 hqa n fl (b.flat ++ rest) bs h0 (by omega) (fun q h => (List.mem_append.1 h).elim (hqb q) (hr q)) (by rw [List.length_append]; omega) (by omega)
    have hj := ihb ht.2.2.2 hqb n fl rest (layT w a n fl (b.flat ++ rest) bs) h0 (by omega) hr (by omega) (by omega)
    have hcL := refLead_calls b ht.2.2.2 ⟨by omega, hqb⟩
    have hl1 := leadD_bd rest hr
    have hl2 := leadD_bd b.flat hqb
    rw [leadD_append] at hi
    generalize layT w a n fl (b.flat ++ rest) bs = o1 at hi hj ⊢
    generalize leadD b.flat = ld at hcL hi hl2
    obtain ⟨lw, lh⟩ := ld
    cases lh
    · exact lay_catf ht hm (t2 ht.2.1) hcL (ar_add64 (by dsimp only at hl2; omega) (by dsimp only at hl2; omega)) hi hj
    · exact lay_catt (x1 := 0) ht hm (t2 ht.2.1) hcL hi hj
theorem refText_calls {t : Tr} (ht : t.ok) (hs : Small t.flat) (w0 : Int) : ACalls Try.prog 50 [.ro (t.flat.map partC), .flat (.int .i64 w0)] (fun _ => .flat (.string (txt (rendT w0 t)))) (fun _ => []) := by
  have h1 := hs.1
  have hwb : 0 ≤ wid w0 ∧ wid w0 ≤ 1048576 := by unfold wid; omega
  have hL := refLay_calls hwb t ht hs.2 0 false [] [] (by omega) (by omega) (fun p hp => by cases hp) (by simp only [List.length_nil]; omega) (by simp only [List.length_nil]; omega)
  have hl0 : (leadD []).1 = 0 := rfl
  rw [hl0, show txt [] = (⟨#[]⟩ : ByteArray) from rfl] at hL
  unfold rendT
  generalize txt (layT (wid w0) t 0 false [] []) = r at hL ⊢
  have hw : wid w0 = min (max w0 0) 1048576 := rfl
  generalize wid w0 = w at hL hw
  generalize hmax : max w0 0 = w1 at hw
  have hmin : min w1 1048576 = w := hw.symm
  generalize t.flat.map partC = X at hL ⊢
  clear hw hwb h1
  refine acalls_symF tabF_ok fn50 rfl rfl rfl (by kernel_rfl) ?_
  have hfin : ∀ st, resA Try.prog Try.f50 st = some (.flat (.string r)) → G.Leaves Try.prog Try.f50 (fun _ => .flat (.string r)) (fun _ => []) st := fun st h => G.Leaves.plain h rfl
  rintro ⟨lt, le, eq, se, ar, dv, una, conv, len, sln, nat, nth, ixs, cel, sto, app, cpy, slc, mak, ixv, oth, dk, ib, call⟩ hS hm Q hQ
  obtain ⟨hlt, hle, heq, hse, har, hdv, huna, hconv, hlen, hsln, hnat, hnth, hixs, hcel, hsto, happ, hcpy, hslc, hmak, hixv, hoth, hdk, hib, hcall⟩ := Sym.mk.inj hS
  clear hS
  have hnt : ∀ n : Nat, nat n = U.natI n := fun n => by rw [hnat]; rfl
  have hbox : ∀ e c off, cel (some ⟨e, [c]⟩) 0 off = if off ≤ c.length then some (c.drop off) else none := fun e c off => by rw [hcel]; rfl
  have hsbox : ∀ e c off sz y, sto (some ⟨e, [c]⟩) 0 off sz y = if y.cells.length = sz ∧ off + sz ≤ c.length ∧ y.cells.all AV.one = true then some ⟨e, [spl c off y.cells]⟩ else none := fun e c off sz y => by rw [hsto]; rfl
  have hcaw : ∀ {f args T base K}, CallK Try.prog f args T base K → call f args T base K := fun h => by rw [hcall]; exact h
  have hcal : ∀ {f args T base} {K : AV → Table → List Nat → List Nat → Prop}, (∃ args' ids val rows, Hands T ids args args' (val base) (rows base) ∧ ACalls Try.prog f args' val rows ∧ (rows base).length ≤ 8 ∧ K (val base) (adopt T base (rows base)) ids ((List.range (rows base).length).map (base + ·))) → call f args T base K := fun h => hcaw (call_own h)
  have hmx : ∀ (T : Table) (id : Nat) (ρ : Operand → Option AV) (ty : TypeId) (x y : Operand) ts (a b : Int), ρ x = some (.flat (.int .i64 a)) → ρ y = some (.flat (.int .i64 b)) → oth T id ρ ty (.call { callee := .builtin .max, args := #[x, y], argTypes := ts }) = some (.flat (.int .i64 (max a b)), T) := fun T id ρ ty x y ts a b h1 h2 => by
    rw [hoth]; exact oth_max h1 h2
  have hmn : ∀ (T : Table) (id : Nat) (ρ : Operand → Option AV) (ty : TypeId) (x y : Operand) ts (a b : Int), ρ x = some (.flat (.int .i64 a)) → ρ y = some (.flat (.int .i64 b)) → oth T id ρ ty (.call { callee := .builtin .min, args := #[x, y], argTypes := ts }) = some (.flat (.int .i64 (min a b)), T) := fun T id ρ ty x y ts a b h1 h2 => by
    rw [hoth]; exact oth_min h1 h2
  cbv
  rw [hmx _ _ _ _ _ _ _ _ _ (by rfl) (by rfl), hmax]; cbv
  rw [hmn _ _ _ _ _ _ _ _ _ (by rfl) (by rfl), hmin]; cbv
  refine hcal ⟨_, [], _, _, .inl ⟨rfl, by cbv⟩, hL, by simp, ?_⟩
  cbv
  exact hQ _ _ trivial (hfin _ (by cbv))
def exW : DocT := catD [textD ⟨#[97, 97]⟩, ofD 1, textD ⟨#[98, 98]⟩]
def exV : Tr := .un (partK 6 0) (.cat (partK 4 0) (.cat (partK 4 0) (.lf ⟨0, 0, ⟨#[97, 97]⟩⟩) (.lf (partK 1 0))) (.lf ⟨0, 0, ⟨#[98, 98]⟩⟩))
theorem exV_flat : exV.flat = groupD exW := rfl
theorem exV_ok : exV.ok := by unfold exV; simp only [Tr.ok]; decide +kernel
theorem exV_small : Small exV.flat := ⟨by decide +kernel, by decide +kernel⟩
theorem exV_4 : rendT 4 exV = [97, 97, 10, 98, 98] := by decide +kernel
theorem exV_5 : rendT 5 exV = [97, 97, 32, 98, 98] := by decide +kernel
theorem awakeR_calls : ACalls Try.prog 48 [] (fun _ => .flat (.bool true)) (fun _ => []) := by
  have hcA := text_calls ⟨#[97, 97]⟩
  have hcB := text_calls ⟨#[98, 98]⟩
  have hcO := of_calls 1
  have hcC := cat_calls (textD ⟨#[97, 97]⟩) [ofD 1, textD ⟨#[98, 98]⟩] (by decide) (by decide) rfl
  have hcG := group_calls exW (by decide) rfl
  have hc4 := render_calls exV_ok exV_small 4
  have hc5 := render_calls exV_ok exV_small 5
  rw [exV_4, exV_flat] at hc4
  rw [exV_5, exV_flat] at hc5
  rw [show txt [97, 97, 10, 98, 98] = (⟨#[97, 97, 10, 98, 98]⟩ : ByteArray) from rfl] at hc4
  rw [show txt [97, 97, 32, 98, 98] = (⟨#[97, 97, 32, 98, 98]⟩ : ByteArray) from rfl] at hc5
  obtain ⟨Y, hY⟩ : ∃ Y, Y = exW.map partC := ⟨_, rfl⟩
  obtain ⟨Z, hZ⟩ : ∃ Y, Y = (groupD exW).map partC := ⟨_, rfl⟩
  have hYf := flat_of hY
  have hZf := flat_of hZ
  have hYl : 5 = Y.length := by rw [hY]; rfl
  have hZl : 6 = Z.length := by rw [hZ]; rfl
  rw [show catD (textD ⟨#[97, 97]⟩ :: [ofD 1, textD ⟨#[98, 98]⟩]) = exW from rfl, show exW.length = 5 from rfl, ← hY] at hcC
  rw [show exW.length + 1 = 6 from rfl, ← hY, ← hZ] at hcG
  rw [← hZ] at hc4 hc5
  refine acalls_symF tabF_ok fn48 rfl rfl rfl (by kernel_rfl) ?_
  have hfin : ∀ st, resA Try.prog Try.f48 st = some (.flat (.bool true)) → G.Leaves Try.prog Try.f48 (fun _ => .flat (.bool true)) (fun _ => []) st := fun st h => G.Leaves.plain h rfl
  rintro ⟨lt, le, eq, se, ar, dv, una, conv, len, sln, nat, nth, ixs, cel, sto, app, cpy, slc, mak, ixv, oth, dk, ib, call⟩ hS hm Q hQ
  obtain ⟨hlt, hle, heq, hse, har, hdv, huna, hconv, hlen, hsln, hnat, hnth, hixs, hcel, hsto, happ, hcpy, hslc, hmak, hixv, hoth, hdk, hib, hcall⟩ := Sym.mk.inj hS
  clear hS
  have hnt : ∀ n : Nat, nat n = U.natI n := fun n => by rw [hnat]; rfl
  have hbox : ∀ e c off, cel (some ⟨e, [c]⟩) 0 off = if off ≤ c.length then some (c.drop off) else none := fun e c off => by rw [hcel]; rfl
  have hsbox : ∀ e c off sz y, sto (some ⟨e, [c]⟩) 0 off sz y = if y.cells.length = sz ∧ off + sz ≤ c.length ∧ y.cells.all AV.one = true then some ⟨e, [spl c off y.cells]⟩ else none := fun e c off sz y => by rw [hsto]; rfl
  have hcaw : ∀ {f args T base K}, CallK Try.prog f args T base K → call f args T base K := fun h => by rw [hcall]; exact h
  have hcal : ∀ {f args T base} {K : AV → Table → List Nat → List Nat → Prop}, (∃ args' ids val rows, Hands T ids args args' (val base) (rows base) ∧ ACalls Try.prog f args' val rows ∧ (rows base).length ≤ 8 ∧ K (val base) (adopt T base (rows base)) ids ((List.range (rows base).length).map (base + ·))) → call f args T base K := fun h => hcaw (call_own h)
  have q1 : eq 0 0 = true := by rw [heq]; rfl
  have hser : ∀ v, se v v = true := fun v => by rw [hse]; exact beq_self_eq_true _
  cbv
  refine hcal ⟨_, [], _, _, .inl ⟨rfl, by cbv⟩, hcA, by simp, ?_⟩
  cbv
  refine hcal ⟨_, [], _, _, .inl ⟨rfl, by cbv⟩, hcO, by simp, ?_⟩
  cbv
  refine hcal ⟨_, [], _, _, .inl ⟨rfl, by cbv⟩, hcB, by simp, ?_⟩
  cbv
  refine hcal ⟨[.ro [docC (textD ⟨#[97, 97]⟩), docC (ofD 1), docC (textD ⟨#[98, 98]⟩)]], [32, 8, 16, 24], _, _, hands_deep ⟨deep_els (X := [[.sl 8 0 1], [.sl 16 0 1], [.sl 24 0 1]]) (by simp) (by rfl) rfl ⟨⟨deep_row (by simp) (by rfl) rfl (flat_part _).read, trivial⟩, ⟨deep_row (by simp) (by rfl) rfl (flat_part _).read, trivial⟩, ⟨deep_row (by simp) (by rfl) rfl (flat_part _).read, trivial⟩, trivial⟩, trivial⟩ rfl (noRo_flat hYf), hcC, by simp, ?_⟩
  cbv
  refine hcal ⟨[.ro Y], [40], _, _, hands_deep ⟨deep_row (by simp) (by rfl) hYl hYf.read, trivial⟩ rfl (noRo_flat hZf), hcG, by simp, ?_⟩
  cbv
  refine hcal ⟨[.ro Z, .flat (.int .i64 4)], [48], _, _, hands_deep ⟨deep_row (by simp) (by rfl) hZl hZf.read, .id rfl, trivial⟩ rfl (fun r hr => by cases hr), hc4, by simp, ?_⟩
  cbv
  refine hcal ⟨[.ro Z, .flat (.int .i64 5)], [48], _, _, hands_deep ⟨deep_row (by simp) (by rfl) hZl hZf.read, .id rfl, trivial⟩ rfl (fun r hr => by cases hr), hc5, by simp, ?_⟩
  cbv
  repeat (first | (rw [q1]; cbv) | (rw [hser]; cbv))
  exact hQ _ _ trivial (hfin _ (by cbv))
theorem rend_good {d : DocT} (hf : fewD d = true) (hk : checkD d = 0) (w : Int) : ∃ s : ByteArray, ACalls Try.prog 49 [.ro (d.map partC), .flat (.int .i64 w)] (fun _ => .tup [.flat (.string s), .flat (.int .i64 0)]) (fun _ => []) ∧ ACalls Try.prog 50 [.ro (d.map partC), .flat (.int .i64 w)] (fun _ => .flat (.string s)) (fun _ => []) := by
  have hs := few_small hf
  obtain ⟨t, ht, rfl⟩ := tree_of hk
  exact ⟨_, render_calls ht hs w, refText_calls ht hs w⟩
theorem renderTexts_calls (d : DocT) (w : Int) : ACalls Try.prog 10 [.ro (d.map partC), .flat (.int .i64 w)] (fun _ => .flat (.bool true)) (fun _ => []) := by
  have hcA := awakeR_calls
  have hcF := fewD_calls d
  have hcR : fewD d = true → ACalls Try.prog 22 [.ro (d.map partC)] (fun _ => .flat (.int .i64 (checkD d))) (fun _ => []) := fun h => refCheck_calls d (by have := (few_small h).1; omega)
  have hg : fewD d = true → decide (checkD d = 0) = true → _ := fun hf hk => rend_good hf (of_decide_eq_true hk) w
  have hb : fewD d = true → decide (checkD d = 0) = false → _ := fun hf hk => text_bad (d := d) (by have := (few_small hf).1; omega) (of_decide_eq_false hk) w
  generalize d.map partC = X at hcF hcR hg hb ⊢
  generalize fewD d = fw at hcF hcR hg hb
  refine acalls_symF tabF_ok fn10 rfl rfl rfl (by kernel_rfl) ?_
  have hfin : ∀ st, resA Try.prog Try.f10 st = some (.flat (.bool true)) → G.Leaves Try.prog Try.f10 (fun _ => .flat (.bool true)) (fun _ => []) st := fun st h => G.Leaves.plain h rfl
  rintro ⟨lt, le, eq, se, ar, dv, una, conv, len, sln, nat, nth, ixs, cel, sto, app, cpy, slc, mak, ixv, oth, dk, ib, call⟩ hS hm Q hQ
  obtain ⟨hlt, hle, heq, hse, har, hdv, huna, hconv, hlen, hsln, hnat, hnth, hixs, hcel, hsto, happ, hcpy, hslc, hmak, hixv, hoth, hdk, hib, hcall⟩ := Sym.mk.inj hS
  clear hS
  have hnt : ∀ n : Nat, nat n = U.natI n := fun n => by rw [hnat]; rfl
  have hbox : ∀ e c off, cel (some ⟨e, [c]⟩) 0 off = if off ≤ c.length then some (c.drop off) else none := fun e c off => by rw [hcel]; rfl
  have hsbox : ∀ e c off sz y, sto (some ⟨e, [c]⟩) 0 off sz y = if y.cells.length = sz ∧ off + sz ≤ c.length ∧ y.cells.all AV.one = true then some ⟨e, [spl c off y.cells]⟩ else none := fun e c off sz y => by rw [hsto]; rfl
  have hcaw : ∀ {f args T base K}, CallK Try.prog f args T base K → call f args T base K := fun h => by rw [hcall]; exact h
  have hcal : ∀ {f args T base} {K : AV → Table → List Nat → List Nat → Prop}, (∃ args' ids val rows, Hands T ids args args' (val base) (rows base) ∧ ACalls Try.prog f args' val rows ∧ (rows base).length ≤ 8 ∧ K (val base) (adopt T base (rows base)) ids ((List.range (rows base).length).map (base + ·))) → call f args T base K := fun h => hcaw (call_own h)
  have heqr : ∀ v, eq v v = true := fun v => by rw [heq]; exact decide_eq_true rfl
  have hser : ∀ v, se v v = true := fun v => by rw [hse]; exact beq_self_eq_true _
  have e2 : eq (checkD d) 0 = decide (checkD d = 0) := by rw [heq]
  have hz : decide (checkD d = 0) = true → checkD d = 0 := of_decide_eq_true
  generalize decide (checkD d = 0) = b1 at e2 hg hb hz
  generalize checkD d = ck at e2 hcR hb hz
  cbv
  refine hcal ⟨_, [], _, _, .inl ⟨rfl, by cbv⟩, hcA, by simp, ?_⟩
  cbv
  refine hcal ⟨_, [], _, _, .inl ⟨rfl, by cbv⟩, hcF, by simp, ?_⟩
  cbv
  cases fw
  · cbv
    exact hQ _ _ trivial (hfin _ (by cbv))
  replace hcR := hcR rfl
  cases b1
  · replace hb := hb rfl rfl
    clear hg
    cbv
    refine hcal ⟨_, [], _, _, .inl ⟨rfl, by cbv⟩, hb, by simp, ?_⟩
    cbv
    refine hcal ⟨_, [], _, _, .inl ⟨rfl, by cbv⟩, hcR, by simp, ?_⟩
    cbv
    rw [e2]; cbv
    repeat (first | (rw [heqr]; cbv) | (rw [hser]; cbv))
    exact hQ _ _ trivial (hfin _ (by cbv))
  obtain ⟨s, hA, hB⟩ := hg rfl rfl
  obtain rfl := hz rfl
  clear hg hb
  cbv
  refine hcal ⟨_, [], _, _, .inl ⟨rfl, by cbv⟩, hA, by simp, ?_⟩
  cbv
  refine hcal ⟨_, [], _, _, .inl ⟨rfl, by cbv⟩, hcR, by simp, ?_⟩
  cbv
  repeat (first | (rw [heqr]; cbv) | (rw [hser]; cbv))
  refine hcal ⟨_, [], _, _, .inl ⟨rfl, by cbv⟩, hB, by simp, ?_⟩
  cbv
  repeat (first | (rw [heqr]; cbv) | (rw [hser]; cbv))
  exact hQ _ _ trivial (hfin _ (by cbv))
end Go.Proofs.Ytagflbmonlaioaa.D
