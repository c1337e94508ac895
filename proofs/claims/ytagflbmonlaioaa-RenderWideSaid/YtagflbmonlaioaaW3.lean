/- The law RenderWide: its contract. -/
import Derived.Test.YtagflbmonlaioaaW2
import Derived.Test.YtagflbmonlaioaaDt
namespace Go.Proofs.Ytagflbmonlaioaa.D
open Go G U K
set_option linter.unusedVariables false
set_option linter.unusedSimpArgs false
set_option maxRecDepth 100000
set_option maxHeartbeats 4000000
theorem fn12 : Try.prog.funcs[12]? = some Try.f12 := by kernel_rfl
/-! ### The longest word -/
def mostR (r : List Nat) (a : Int) : Int := r.foldl (fun a m => max a ((m % 9 + 1 : Nat) : Int)) a
def mostL (ws : List (List Nat)) : Int := ws.foldl (fun a r => mostR r a) 0
theorem mostR_app (r : List Nat) (m : Nat) (a : Int) : mostR (r ++ [m]) a = max (mostR r a) ((m % 9 + 1 : Nat) : Int) := List.foldl_append
theorem mostL_app (ws : List (List Nat)) (r : List Nat) : mostL (ws ++ [r]) = mostR r (mostL ws) := List.foldl_append
theorem mostR_bd (r : List Nat) : ∀ a : Int, 0 ≤ a → a ≤ 9 → a ≤ mostR r a ∧ mostR r a ≤ 9 ∧ ∀ m ∈ r, ((m % 9 + 1 : Nat) : Int) ≤ mostR r a := by
  intro a h0 h9
  refine rev_ind (Q := fun r => a ≤ mostR r a ∧ mostR r a ≤ 9 ∧ ∀ m ∈ r, ((m % 9 + 1 : Nat) : Int) ≤ mostR r a) ⟨Int.le_refl a, h9, fun m hm => by cases hm⟩ (fun r m ih => ?_) r
  obtain ⟨h1, h2, h3⟩ := ih
  rw [mostR_app]
  refine ⟨by omega, by omega, fun q hq => ?_⟩
  rcases List.mem_append.1 hq with h | h
  · have := h3 q h; omega
  · simp only [List.mem_cons, List.not_mem_nil, or_false] at h
    subst h; omega
theorem mostL_bd (ws : List (List Nat)) : 0 ≤ mostL ws ∧ mostL ws ≤ 9 ∧ ∀ r ∈ ws, ∀ m ∈ r, ((m % 9 + 1 : Nat) : Int) ≤ mostL ws := by
  refine rev_ind (Q := fun ws => 0 ≤ mostL ws ∧ mostL ws ≤ 9 ∧ ∀ r ∈ ws, ∀ m ∈ r, ((m % 9 + 1 : Nat) : Int) ≤ mostL ws) ⟨by decide, by decide, fun r hr => by cases hr⟩ (fun ws r ih => ?_) ws
  obtain ⟨h1, h2, h3⟩ := ih
  obtain ⟨g1, g2, g3⟩ := mostR_bd r (mostL ws) h1 h2
  rw [mostL_app]
  refine ⟨by omega, g2, fun q hq m hm => ?_⟩
  rcases List.mem_append.1 hq with h | h
  · have := h3 q h m hm; omega
  · simp only [List.mem_cons, List.not_mem_nil, or_false] at h
    subst h; exact g3 m hm
/-! ### Rows of documents -/
theorem catX_calls (l : List DocT) (hl : l.length ≤ 1000000) (hs : (catD l).length ≤ 100000) {n : Nat} (hn : n = (catD l).length) : ACalls Try.prog 17 [.ro (l.map docC)] (fun k => .sl k 0 n) (fun _ => [⟨27, (catD l).map partC⟩]) := by
  cases l with
  | nil => subst hn; exact cat_nil
  | cons d l => exact cat_calls d l (by simp only [List.length_cons] at hl; omega) hs hn
theorem closed_docs {Y : List (List AV)} {l : List DocT} (hY : Y = l.map docC) : ∀ c ∈ Y, closedAll [] c = true := by
  rw [hY]; exact closed_map fun _ => rfl
theorem read_docs {Y : List (List AV)} {l : List DocT} (hY : Y = l.map docC) : readRow Y := by
  rw [hY]; intro c hc x hx
  obtain ⟨d, _, rfl⟩ := List.mem_map.1 hc
  simp only [docC, List.mem_cons, List.not_mem_nil, or_false] at hx
  subst hx; rfl
theorem c23 : Try.prog.cellsOf 23 = 1 := by kernel_rfl
theorem app_doc {T : Table} {id k0 k n n2 kd nd : Nat} {X : List (List AV)} (hn : n = X.length) (hn2 : n2 = n + 1) (hb : n2 ≤ 100000000) (hT : T k0 = some ⟨23, X⟩) (hk : T k = some ⟨23, [[.sl kd 0 nd]]⟩) (hne : k ≠ k0) :
    evAppend Try.prog T id 64 64 (.sl k0 0 n) (.sl k 0 1) = some (.sl id 0 n2, (T.set k0 none).set id (some ⟨23, X ++ [[.sl kd 0 nd]]⟩)) :=
  app_tip u64 z23 c23 (by decide) rfl (by decide) hT hk hne rfl (by omega) hn2 (by rw [hn, List.take_length]) hb
theorem frz_bad {k n : Nat} {Y : List (List AV)} (hn : n = Y.length) : badVs k Y.length [.sl k 0 n] = false := by
  simp [badVs, badV, hn]
theorem frz_cell {k n : Nat} {Y : List (List AV)} (hn : n = Y.length) : frzVs k Y [.sl k 0 n] = [.ro Y] := by
  simp [frzVs, frzV, hn]
theorem frz_bad2 {k k2 n : Nat} {Y : List (List AV)} (h : k2 ≠ k) : badVs k Y.length [.sl k2 0 n] = false := by
  simp [badVs, badV, h]
theorem frz_cell2 {k k2 n : Nat} {Y : List (List AV)} (h : k2 ≠ k) : frzVs k Y [.sl k2 0 n] = [.sl k2 0 n] := by
  simp [frzVs, frzV, h]
theorem frz_ro {k : Nat} {X Y : List (List AV)} : badVs k Y.length [.ro X] = false ∧ frzVs k Y [.ro X] = [.ro X] := ⟨rfl, rfl⟩
/-- One row led to. -/
theorem frz_one {T : Table} {k id n : Nat} {X Y Z : List (List AV)} (hZ : Z = X ++ [[.sl k 0 n]]) (hT : T id = some ⟨23, Z⟩) (hne : id ≠ k) (hX : ∀ c ∈ X, closedAll [] c = true) (hn : n = Y.length) : frzT k Y T id = some ⟨23, X ++ [[.ro Y]]⟩ :=
  frzT_app (hZ ▸ hT) hne hX (by rw [List.any_cons, frz_bad hn]; rfl) (by rw [List.map_cons, frz_cell hn]; rfl)
/-- Two rows led to. -/
theorem frz_two {T : Table} {k k2 id n n2 : Nat} {X Y Y2 Z Z2 : List (List AV)} (hZ : Z = X ++ [[.sl k 0 n]]) (hZ2 : Z2 = Z ++ [[.sl k2 0 n2]]) (hT : T id = some ⟨23, Z2⟩) (hne : id ≠ k) (hne2 : id ≠ k2) (hkk : k2 ≠ k) (hX : ∀ c ∈ X, closedAll [] c = true) (hn : n = Y.length) (hn2 : n2 = Y2.length) : frzT k2 Y2 (frzT k Y T) id = some ⟨23, (X ++ [[.ro Y]]) ++ [[.ro Y2]]⟩ := by
  rw [hZ2, hZ, List.append_assoc] at hT
  rw [List.append_assoc]
  have h1 := frzT_app (k := k) (Y := Y) (R' := [[.ro Y], [.sl k2 0 n2]]) hT hne hX (by
    show ((badVs k Y.length [.sl k 0 n]) || ((badVs k Y.length [.sl k2 0 n2]) || false)) = false
    rw [frz_bad hn, frz_bad2 hkk]; rfl) (by
    show [frzVs k Y [.sl k 0 n], frzVs k Y [.sl k2 0 n2]] = _
    rw [frz_cell hn, frz_cell2 hkk])
  exact frzT_app h1 hne2 hX (by
    show ((badVs k2 Y2.length [.ro Y]) || ((badVs k2 Y2.length [.sl k2 0 n2]) || false)) = false
    rw [frz_ro.1, frz_bad hn2]; rfl) (by
    show [frzVs k2 Y2 [.ro Y], frzVs k2 Y2 [.sl k2 0 n2]] = _
    rw [frz_ro.2, frz_cell hn2]; rfl)
theorem closed_two {X : List (List AV)} {A B : List (List AV)} (hX : ∀ c ∈ X, closedAll [] c = true) : ∀ c ∈ (X ++ [[.ro A]]) ++ [[.ro B]], closedAll [] c = true := by
  intro c hc
  rcases List.mem_append.1 hc with h | h
  · rcases List.mem_append.1 h with h | h
    · exact hX c h
    · simp only [List.mem_cons, List.not_mem_nil, or_false] at h; subst h; rfl
  · simp only [List.mem_cons, List.not_mem_nil, or_false] at h; subst h; rfl
theorem closed_one {X : List (List AV)} {A : List (List AV)} (hX : ∀ c ∈ X, closedAll [] c = true) : ∀ c ∈ X ++ [[.ro A]], closedAll [] c = true := by
  intro c hc
  rcases List.mem_append.1 hc with h | h
  · exact hX c h
  · simp only [List.mem_cons, List.not_mem_nil, or_false] at h; subst h; rfl
theorem join_map {Y D : List (List AV)} {l : List DocT} {d : DocT} (hY : Y = l.map docC) (hD : D = d.map partC) : (l.length = 0 → Y ++ [[.ro D]] = (joinD l d).map docC) ∧ (l.length ≠ 0 → (Y ++ [[.ro ((ofD 1).map partC)]]) ++ [[.ro D]] = (joinD l d).map docC) := by
  subst hY hD
  refine ⟨fun h => ?_, fun h => ?_⟩
  · unfold joinD; rw [if_pos h, List.eq_nil_of_length_eq_zero h]; rfl
  · unfold joinD; rw [if_neg h]; simp [docC]
theorem join_n {l : List DocT} {d : DocT} : (l.length = 0 → (joinD l d).length = l.length + 1) ∧ (l.length ≠ 0 → (joinD l d).length = l.length + 1 + 1) := by
  unfold joinD
  exact ⟨fun h => by rw [if_pos h, h]; rfl, fun h => by rw [if_neg h]; simp⟩
theorem inL_len0 (r : List Nat) : (inL r).length = 0 ↔ r.length = 0 := by
  refine rev_ind (Q := fun r => (inL r).length = 0 ↔ r.length = 0) (by simp [inL]) (fun r m _ => ?_) r
  rw [inL_app]
  have := (join_len (inL r) (textD (txt (xW m)))).2
  simp only [List.length_append, List.length_cons, List.length_nil]; omega
theorem ouL_len0 (ws : List (List Nat)) : (ouL ws).length = 0 ↔ ws.length = 0 := by
  refine rev_ind (Q := fun ws => (ouL ws).length = 0 ↔ ws.length = 0) (by simp [ouL]) (fun ws r _ => ?_) ws
  rw [ouL_app]
  have := (join_len (ouL ws) (groupD (catD (inL r)))).2
  simp only [List.length_append, List.length_cons, List.length_nil]; omega
/-- Words, so far. -/
def IwAt (r : List Nat) (a : Int) (j : Int) (L : List DocT) (mo : Int) : Prop := At r j ∧ L = inL (r.take j.toNat) ∧ mo = mostR (r.take j.toNat) a
theorem iw_zero (r : List Nat) (a : Int) : IwAt r a 0 [] a := ⟨at_zero r, rfl, rfl⟩
theorem iw_end {r : List Nat} {a j mo : Int} {L : List DocT} (h : IwAt r a j L mo) (hc : decide (j < (r.length : Int)) = false) : L = inL r ∧ mo = mostR r a := by
  obtain ⟨h1, h2, h3⟩ := h
  rw [take_end h1 hc] at h2 h3
  exact ⟨h2, h3⟩
theorem iw_step {r : List Nat} {a j mo : Int} {L : List DocT} (h : IwAt r a j L mo) (hc : decide (j < (r.length : Int)) = true) : IwAt r a (j + 1) (joinD L (textD (txt (xW (atI r j))))) (max mo ((txt (xW (atI r j))).size : Int)) ∧ (decide (0 < j) = false → L.length = 0) ∧ (decide (0 < j) = true → L.length ≠ 0) ∧ L.length ≤ 2 * r.length := by
  obtain ⟨h1, h2, h3⟩ := h
  obtain ⟨_, h0, h4⟩ := at_lt h1 hc
  have hl : (r.take j.toNat).length = j.toNat := by rw [List.length_take]; omega
  have hz := inL_len0 (r.take j.toNat)
  rw [hl, ← h2] at hz
  refine ⟨⟨(at_step h1 hc).1, ?_, ?_⟩, fun e => ?_, fun e => ?_, ?_⟩
  · rw [take_next h0 h4, inL_app, h2]
  · rw [take_next h0 h4, mostR_app, h3, size_txt]
    unfold xW
    rw [List.length_replicate]
  · have := of_decide_eq_false e; omega
  · have := of_decide_eq_true e; omega
  · have := (inL_bd (r.take j.toNat)).1
    rw [← h2] at this; omega
def OwAt (ws : List (List Nat)) (i : Int) (L : List DocT) (mo : Int) : Prop := At ws i ∧ (∀ r ∈ ws.take i.toNat, r.length ≤ 6) ∧ L = ouL (ws.take i.toNat) ∧ mo = mostL (ws.take i.toNat)
theorem ow_zero (ws : List (List Nat)) : OwAt ws 0 [] 0 := ⟨at_zero ws, fun r hr => by simp at hr, rfl, rfl⟩
theorem ow_end {ws : List (List Nat)} {i mo : Int} {L : List DocT} (h : OwAt ws i L mo) (hc : decide (i < (ws.length : Int)) = false) : (∀ r ∈ ws, r.length ≤ 6) ∧ L = ouL ws ∧ mo = mostL ws := by
  obtain ⟨h1, h2, h3, h4⟩ := h
  rw [take_end h1 hc] at h2 h3 h4
  exact ⟨h2, h3, h4⟩
theorem ow_step {ws : List (List Nat)} {i mo : Int} {L : List DocT} (hn : ws.length ≤ 12) (h : OwAt ws i L mo) (hc : decide (i < (ws.length : Int)) = true) (h6 : (atI ws i).length ≤ 6) : OwAt ws (i + 1) (joinD L (groupD (catD (inL (atI ws i))))) (mostR (atI ws i) mo) ∧ (decide (0 < i) = false → L.length = 0) ∧ (decide (0 < i) = true → L.length ≠ 0) ∧ L.length ≤ 24 := by
  obtain ⟨h1, h2, h3, h4⟩ := h
  obtain ⟨_, h0, h5⟩ := at_lt h1 hc
  have hl : (ws.take i.toNat).length = i.toNat := by rw [List.length_take]; omega
  have hz := ouL_len0 (ws.take i.toNat)
  rw [hl, ← h3] at hz
  refine ⟨⟨(at_step h1 hc).1, ?_, ?_, ?_⟩, fun e => ?_, fun e => ?_, ?_⟩
  · rw [take_next h0 h5]
    intro r hr
    rcases List.mem_append.1 hr with h | h
    · exact h2 r h
    · simp only [List.mem_cons, List.not_mem_nil, or_false] at h; subst h; exact h6
  · rw [take_next h0 h5, ouL_app, h3]
  · rw [take_next h0 h5, mostL_app, h4]
  · have := of_decide_eq_false e; omega
  · have := of_decide_eq_true e; omega
  · have := (ouL_bd (ws.take i.toNat) h2).1
    rw [← h3] at this; omega
/-- What is laid of it. -/
theorem wide_rend {ws : List (List Nat)} (hn : ws.length ≤ 12) (h6 : ∀ r ∈ ws, r.length ≤ 6) {m : Int} (h0 : 0 ≤ m) (h1 : m < 256) : ∃ bs : List UInt8, ACalls Try.prog 49 [.ro ((catD (ouL ws)).map partC), .flat (.int .i64 m)] (fun _ => .tup [.flat (.string (txt bs)), .flat (.int .i64 0)]) (fun _ => []) ∧ bs.length ≤ 20000000 ∧
    (∀ l ∈ linesG [] bs, (l.length : Int) ≤ max m (mostL ws)) := by
  obtain ⟨b0, b1, b2⟩ := mostL_bd ws
  obtain ⟨t, ht, hf, hl, hp, hok⟩ := wide_doc (ws := ws) (w := max m (mostL ws)) (by omega) hn h6 (fun r hr q hq => by have := b2 r hr q hq; omega)
  have hR := render3_calls ht (by rw [hf]; exact ⟨hl, hp⟩) m
  rw [hf] at hR
  have hnar := narrow_top (w := wid m) (m := max m (mostL ws)) (by rw [wid_u8 h0 h1]; omega) ht hok
  refine ⟨rendT m t, hR, ?_, linesG_ok _ [] hnar⟩
  have := layT_len (wid m) t ht (by rw [hf]; exact hp) 0 false [] [] (by rw [hf]; omega)
  rw [hf] at this
  unfold rendT
  simp only [List.length_nil] at this
  omega
theorem renderWide_calls (ws : List (List Nat)) (hws : ∀ w ∈ ws, ∀ m ∈ w, m < 256) (m : Nat) (hmm : m < 256) : ACalls Try.prog 12 [.ro (ws.map wordC), .flat (.int .u8 (m : Int))] (fun _ => .flat (.bool true)) (fun _ => []) := by
  have hm0 : 0 ≤ (m : Int) := by omega
  have hm1 : (m : Int) < 256 := by omega
  generalize (m : Int) = mi at hm0 hm1 ⊢
  have hcvt := conv_u8 mi hm0 hm1
  have hcA := awakeR_calls
  have hcO := of_calls 1
  have hjm := @join_map
  obtain ⟨OF, hOF⟩ : ∃ X, X = (ofD 1).map partC := ⟨_, rfl⟩
  have hOFcl := closed_part hOF
  have hOFn : 1 = OF.length := by rw [hOF]; rfl
  rw [← hOF] at hcO hjm
  obtain ⟨X, hX⟩ : ∃ X, X = ws.map wordC := ⟨_, rfl⟩
  rw [← hX]
  have hXl : lenE X = (ws.length : Int) := by rw [hX, len_map]
  have hXn : ∀ i : Int, At ws i → decide (i < (ws.length : Int)) = true → nthE X i 1 = some (.rp (wordC (atI ws i))) ∧ (∀ q ∈ atI ws i, q < 256) := fun i hi hc => by
    obtain ⟨_, h0, h1⟩ := at_lt hi hc
    exact ⟨by rw [hX]; exact nth_map (fun _ => rfl) h0 h1, hws _ (at_mem h0 h1)⟩
  have hRn : ∀ (r : List Nat) (j : Int), At r j → decide (j < (r.length : Int)) = true → nthE (r.map fun (m : Nat) => u8C (m : Int)) j 1 = some (.rp (u8C (atI r j : Nat))) ∧ atI r j ∈ r := fun r j hj hc => by
    obtain ⟨_, h0, h1⟩ := at_lt hj hc
    exact ⟨nth_map (fun _ => rfl) h0 h1, at_mem h0 h1⟩
  have hrend := @wide_rend ws
  clear hws hX hOF
  refine acalls_symF tabF_ok fn12 rfl rfl rfl (by kernel_rfl) ?_
  have hfin : ∀ st, resA Try.prog Try.f12 st = some (.flat (.bool true)) → G.Leaves Try.prog Try.f12 (fun _ => .flat (.bool true)) (fun _ => []) st := fun st h => G.Leaves.plain h rfl
  rintro ⟨lt, le, eq, se, ar, dv, una, conv, len, sln, nat, nth, ixs, cel, sto, app, cpy, slc, mak, ixv, oth, dk, ib, call⟩ hS hm Q hQ
  obtain ⟨hlt, hle, heq, hse, har, hdv, huna, hconv, hlen, hsln, hnat, hnth, hixs, hcel, hsto, happ, hcpy, hslc, hmak, hixv, hoth, hdk, hib, hcall⟩ := Sym.mk.inj hS
  clear hS
  have hnt : ∀ n : Nat, nat n = U.natI n := fun n => by rw [hnat]; rfl
  have hbox : ∀ e c off, cel (some ⟨e, [c]⟩) 0 off = if off ≤ c.length then some (c.drop off) else none := fun e c off => by rw [hcel]; rfl
  have hsbox : ∀ e c off sz y, sto (some ⟨e, [c]⟩) 0 off sz y = if y.cells.length = sz ∧ off + sz ≤ c.length ∧ y.cells.all AV.one = true then some ⟨e, [spl c off y.cells]⟩ else none := fun e c off sz y => by rw [hsto]; rfl
  have hcaw : ∀ {f args T base K}, CallK Try.prog f args T base K → call f args T base K := fun h => by rw [hcall]; exact h
  have hcal : ∀ {f args T base} {K : AV → Table → List Nat → List Nat → Prop}, (∃ args' ids val rows, Hands T ids args args' (val base) (rows base) ∧ ACalls Try.prog f args' val rows ∧ (rows base).length ≤ 8 ∧ K (val base) (adopt T base (rows base)) ids ((List.range (rows base).length).map (base + ·))) → call f args T base K := fun h => hcaw (call_own h)
  have heqr : ∀ v, eq v v = true := fun v => by rw [heq]; exact decide_eq_true rfl
  have hcv2 : ∀ T, conv T 5 3 (.flat (.int .u8 mi)) = some (.flat (.int .i64 mi)) := fun T => by rw [hconv]; exact hcvt
  have hmx : ∀ (T : Table) (id : Nat) (ρ : Operand → Option AV) (ty : TypeId) (x y : Operand) ts (a b : Int), ρ x = some (.flat (.int .i64 a)) → ρ y = some (.flat (.int .i64 b)) → oth T id ρ ty (.call { callee := .builtin .max, args := #[x, y], argTypes := ts }) = some (.flat (.int .i64 (max a b)), T) := fun T id ρ ty x y ts a b h1 h2 => by
    rw [hoth]; exact oth_max h1 h2
  have e12 : lt 12 (len X) = decide (12 < (ws.length : Int)) := by rw [hlt, hlen, hXl]
  have hn12 : decide (12 < (ws.length : Int)) = false → ws.length ≤ 12 := fun h => by have := of_decide_eq_false h; omega
  generalize decide (12 < (ws.length : Int)) = b12 at e12 hn12
  cases b12
  rotate_left
  · cbv
    refine hcal ⟨_, [], _, _, .inl ⟨rfl, by cbv⟩, hcA, by simp, ?_⟩
    cbv
    rw [e12]; cbv
    exact hQ _ _ trivial (hfin _ (by cbv))
  have hn := hn12 rfl
  have hlX : ∀ i, lt i (len X) = decide (i < (ws.length : Int)) := fun i => by rw [hlt, hlen, hXl]
  have hround : ∀ i L mo, OwAt ws i L mo → lt i (len X) = true → ∃ r : List Nat, nth X i 1 = some (.rp [.ro (r.map fun (m : Nat) => u8C (m : Int))]) ∧ (∀ q ∈ r, q < 256) ∧ ar .add .i64 i 1 = i + 1 ∧ (ws.length - (i + 1).toNat < ws.length - i.toNat) ∧ (r.length ≤ 6 → OwAt ws (i + 1) (joinD L (groupD (catD (inL r)))) (mostR r mo) ∧ (lt 0 i = false → L.length = 0) ∧ (lt 0 i = true → L.length ≠ 0) ∧ L.length ≤ 24) := fun i L mo hi hc => by
    rw [hlX] at hc
    obtain ⟨q1, q2⟩ := hXn i hi.1 hc
    obtain ⟨_, h0, h1⟩ := at_lt hi.1 hc
    refine ⟨atI ws i, by rw [hnth]; exact q1, q2, by rw [har, ar_add64 (by omega) (by omega)], by omega, fun h6 => ?_⟩
    obtain ⟨p1, p2, p3, p4⟩ := ow_step hn hi hc h6
    exact ⟨p1, fun h => p2 (by rw [hlt] at h; exact h), fun h => p3 (by rw [hlt] at h; exact h), p4⟩
  have hdone : ∀ i L mo, OwAt ws i L mo → lt i (len X) = false → (∀ r ∈ ws, r.length ≤ 6) ∧ L = ouL ws ∧ mo = mostL ws := fun i L mo hi hc => ow_end hi (by rw [hlX] at hc; exact hc)
  have hlR : ∀ (r : List Nat), len (r.map fun (m : Nat) => u8C (m : Int)) = (r.length : Int) := fun r => by rw [hlen, len_map]
  have hin : ∀ (r : List Nat) (a j : Int) (L : List DocT) (mo : Int), r.length ≤ 6 → (∀ q ∈ r, q < 256) → IwAt r a j L mo → lt j (len (r.map fun (m : Nat) => u8C (m : Int))) = true → ∃ (q : Nat) (qi : Int), qi = natI q ∧ q < 256 ∧ nth (r.map fun (m : Nat) => u8C (m : Int)) j 1 = some (.rp (u8C qi)) ∧ ar .add .i64 j 1 = j + 1 ∧ (r.length - (j + 1).toNat < r.length - j.toNat) ∧ IwAt r a (j + 1) (joinD L (textD (txt (xW q)))) (max mo (sln (txt (xW q)))) ∧ (lt 0 j = false → L.length = 0) ∧ (lt 0 j = true → L.length ≠ 0) ∧ L.length ≤ 12 := fun r a j L mo h6 hq hi hc => by
    rw [hlt, hlR] at hc
    obtain ⟨p1, p2⟩ := hRn r j hi.1 hc
    obtain ⟨_, h0, h1⟩ := at_lt hi.1 hc
    obtain ⟨s1, s2, s3, s4⟩ := iw_step hi hc
    exact ⟨atI r j, _, rfl, hq _ p2, by rw [hnth]; exact p1, by rw [har, ar_add64 (by omega) (by omega)], by omega, by rw [hsln]; exact s1, fun h => s2 (by rw [hlt] at h; exact h), fun h => s3 (by rw [hlt] at h; exact h), by omega⟩
  have hind : ∀ (r : List Nat) (a j : Int) (L : List DocT) (mo : Int), IwAt r a j L mo → lt j (len (r.map fun (m : Nat) => u8C (m : Int))) = false → L = inL r ∧ mo = mostR r a := fun r a j L mo hi hc => iw_end hi (by rw [hlt, hlR] at hc; exact hc)
  have h6t : ∀ (r : List Nat), lt 6 (len (r.map fun (m : Nat) => u8C (m : Int))) = false → r.length ≤ 6 := fun r h => by
    rw [hlt, hlR] at h
    have := of_decide_eq_false h
    omega
  have hap : ∀ (T : Table) (id k0 k n n2 kd nd : Nat) (Y Y2 : List (List AV)), Y2 = Y ++ [[.sl kd 0 nd]] → n = Y.length → n2 = n + 1 → n ≤ 1000 → T k0 = some ⟨23, Y⟩ → T k = some ⟨23, [[.sl kd 0 nd]]⟩ → k ≠ k0 → app T id 64 64 (.sl k0 0 n) (.sl k 0 1) = some (.sl id 0 n2, (T.set k0 none).set id (some ⟨23, Y2⟩)) := fun T id k0 k n n2 kd nd Y Y2 h0 h1 h2 h3 h4 h5 h6 => by
    subst h0; rw [happ]; exact app_doc h1 h2 (by omega) h4 h5 h6
  have hz := ow_zero ws
  clear hcvt hRn hXn hXl hlX hn12
  cbv
  refine hcal ⟨_, [], _, _, .inl ⟨rfl, by cbv⟩, hcA, by simp, ?_⟩
  cbv
  rw [e12]; cbv
  refine MW_loopN hm.mono [.slot 5 23] [] [72] [0, 1, 5, 6, 7] 8 (cutOk_of hm.pm (by decide)) (fun mz st => ∃ (i : Int) (L : List DocT) (mo : Int) (no : Nat) (O : List (List AV)), OwAt ws i L mo ∧ O = L.map docC ∧ no = L.length ∧ mz = ws.length - i.toNat ∧ st = stOf [.ro X, .flat (.int .u8 mi), .dead, .dead, .dead, .sl 0 0 no, .flat (.int .i64 mo), .flat (.int .i64 i)] [some ⟨23, O⟩] 1) (ws.length - (0 : Int).toNat) ?_ ?_
  · exact ⟨0, [], 0, 0, [], hz, rfl, rfl, rfl, cut_eq (by cbv) (cutRows_cons (by rfl) (fun c hc => by cases hc) rfl)⟩
  rintro mz st ⟨i, L, mo, no, O, hi, hO, hno, hmz, rfl⟩
  have hOcl := closed_docs hO
  have hOn : no = O.length := by rw [hO, List.length_map, hno]
  cases hcc : lt i (len X)
  · obtain ⟨g6, g1, g2⟩ := hdone _ _ _ hi hcc
    subst g1
    obtain ⟨bs, r1, r2, r3⟩ := hrend hn g6 hm0 hm1
    obtain ⟨gb0, gb1, gb2⟩ := ouL_bd ws g6
    obtain ⟨mb0, mb1, _⟩ := mostL_bd ws
    obtain ⟨nd, hnd⟩ : ∃ nd, nd = (catD (ouL ws)).length := ⟨_, rfl⟩
    have hcC := catX_calls (ouL ws) (by omega) (by have := cat_len (ouL ws); omega) hnd
    rw [← hO] at hcC
    obtain ⟨D, hD⟩ : ∃ D, D = (catD (ouL ws)).map partC := ⟨_, rfl⟩
    have hDf := flat_of hD
    have hDn : nd = D.length := by rw [hD, List.length_map, hnd]
    rw [← hD] at hcC r1
    obtain ⟨nl, hnl⟩ : ∃ nl, nl = (linesG [] bs).length := ⟨_, rfl⟩
    have hcL := lines_calls (txt bs) (by rw [size_txt]; omega) (n := nl) (by rw [bts_txt]; exact hnl)
    rw [bts_txt] at hcL
    obtain ⟨LR, hLR⟩ : ∃ LR, LR = (linesG [] bs).map lineC := ⟨_, rfl⟩
    have hLRcl := closed_lines hLR
    rw [← hLR] at hcL
    have hOr := read_docs hO
    have hll := linesG_len bs []
    have hmo9 : le mo 9 = true := by rw [hle, g2]; exact decide_eq_true mb1
    have hst : ∀ k : Int, At (linesG [] bs) k → lt k (nat nl) = true → (∀ id, ixs (some ⟨9, LR⟩) id 0 nl k 1 = some (.ptr id k.toNat 0)) ∧ ∃ s : ByteArray, cel (some ⟨9, LR⟩) k.toNat 0 = some [.flat (.string s)] ∧ ar .add .i64 k 1 = k + 1 ∧ At (linesG [] bs) (k + 1) ∧ (nl - (k + 1).toNat < nl - k.toNat) ∧ lt (max mi mo) (sln s) = false := fun k hk hc => by
      rw [hlt, hnt, hnl] at hc
      obtain ⟨_, h0, h1⟩ := at_lt hk hc
      refine ⟨fun id => by rw [hixs]; exact own_ix c9 h0 (by rw [hnl]; exact h1) id, txt (atI (linesG [] bs) k), ?_, by rw [har, ar_add64 (by omega) (by omega)], (at_step hk hc).1, by omega, ?_⟩
      · rw [hcel, hLR, own_cel (get_map h0 h1) (Nat.zero_le _)]; rfl
      · have hr3 := r3 _ (at_mem h0 h1)
        rw [hlt, hsln]
        show decide (max mi mo < ((txt (atI (linesG [] bs) k)).size : Int)) = false
        rw [size_txt, g2]
        exact decide_eq_false (Int.not_lt.2 hr3)
    have hk0 := at_zero (linesG [] bs)
    generalize hmxm : max mi mo = mm at hst
    generalize txt bs = tb at r1 hcL
    clear r3 hll r2 mb0 mb1 gb0 gb1 gb2 g6
    cbv
    rw [hcc]; cbv
    refine hcal ⟨[.ro O], [0], _, _, hands_deep ⟨deep_row (by simp) (by rfl) hOn hOr, trivial⟩ rfl (noRo_flat hDf), hcC, by simp, ?_⟩
    cbv
    rw [hcv2]; cbv
    refine hcal ⟨[.ro D, .flat (.int .i64 mi)], [41], _, _, hands_deep ⟨deep_row (by simp) (by rfl) hDn hDf.read, .id rfl, trivial⟩ rfl (fun r hr => by cases hr), r1, by simp, ?_⟩
    cbv
    refine hcal ⟨_, [], _, _, .inl ⟨rfl, by cbv⟩, hcL, by simp, ?_⟩
    cbv
    refine MW_loop hm [121] [1, 6, 12, 13, 14] 15 (by simp) (fun mz st => ∃ (k : Int), At (linesG [] bs) k ∧ mz = nl - k.toNat ∧ st = stOf [.dead, .flat (.int .u8 mi), .dead, .dead, .dead, .dead, .flat (.int .i64 mo), .dead, .dead, .dead, .dead, .dead, .flat (.int .i64 0), .sl 0 0 nl, .flat (.int .i64 k)] [some ⟨9, LR⟩] 1) (nl - (0 : Int).toNat) ?_ ?_
    · exact ⟨0, hk0, rfl, cut_eq (by cbv) (cutRows_cons (by rfl) (hLRcl) rfl)⟩
    rintro mb st ⟨k, hk, hmb, rfl⟩
    cases hc2 : lt k (nat nl)
    · cbv
      rw [hc2]; cbv
      rw [heqr]; cbv
      rw [hmo9]; cbv
      exact hQ _ _ trivial (hfin _ (by cbv))
    obtain ⟨x1, s, x2, x3, x4, x5, x6⟩ := hst k hk hc2
    generalize k.toNat = kN at x1 x2 x5 hmb
    generalize k + 1 = k2 at x3 x4 x5
    cbv
    rw [hc2]; cbv
    repeat (first | (rw [hbox]; cbv) | (rw [hsbox]; cbv) | (rw [x1]; cbv) | (rw [x2]; cbv) | (rw [hcv2]; cbv))
    rw [hmx _ _ _ _ _ _ _ _ _ (by rfl) (by rfl), hmxm]; cbv
    rw [x6]; cbv
    rw [x3]
    exact ⟨[0], [1, 6, 12, 13, 14], 15, nl - k2.toNat, hmb ▸ x5, by simp, k2, x4, rfl, cut_eq (by cbv) (cutRows_cons (by rfl) (hLRcl) rfl)⟩
  obtain ⟨r, x1, x2, x3, x4, x5⟩ := hround _ _ _ hi hcc
  cases h6 : lt 6 (len (r.map fun (m : Nat) => u8C (m : Int)))
  rotate_left
  · generalize (r.map fun (m : Nat) => u8C (m : Int)) = R at x1 h6
    cbv
    rw [hcc]; cbv
    rw [x1]; cbv
    rw [h6]; cbv
    exact hQ _ _ trivial (hfin _ (by cbv))
  have hr6 := h6t _ h6
  obtain ⟨p1, p2, p3, p4⟩ := x5 hr6
  have hin2 := fun j L2 mo2 h hc => hin r mo j L2 mo2 hr6 x2 h hc
  have hind2 := fun j L2 mo2 h hc => hind r mo j L2 mo2 h hc
  have hiz := iw_zero r mo
  obtain ⟨R, hR⟩ : ∃ R, R = r.map fun (m : Nat) => u8C (m : Int) := ⟨_, rfl⟩
  rw [← hR] at x1 h6 hin2 hind2
  generalize i + 1 = i2 at x3 x4 p1
  clear hin hind h6t hround hdone x5
  cbv
  rw [hcc]; cbv
  rw [x1]; cbv
  rw [h6]; cbv
  refine MW_loopN hm.mono [.slot 8 23] [] [0, 97] [0, 1, 5, 6, 7, 8, 9] 10 (cutOk_of hm.pm (by decide)) (fun mz st => ∃ (j : Int) (L2 : List DocT) (mo2 : Int) (nn : Nat) (N : List (List AV)), IwAt r mo j L2 mo2 ∧ N = L2.map docC ∧ nn = L2.length ∧ mz = r.length - j.toNat ∧ st = stOf [.ro X, .flat (.int .u8 mi), .dead, .dead, .dead, .sl 0 0 no, .flat (.int .i64 mo2), .flat (.int .i64 i), .sl 1 0 nn, .flat (.int .i64 j)] [some ⟨23, O⟩, some ⟨23, N⟩] 2) (r.length - (0 : Int).toNat) ?_ ?_
  · exact ⟨0, [], mo, 0, [], hiz, rfl, rfl, rfl, cut_eq (by cbv) (cutRows_cons (by rfl) hOcl (cutRows_cons (by rfl) (fun c hc => by cases hc) rfl))⟩
  rintro mb st ⟨j, L2, mo2, nn, N, hj, hN, hnn, hmb, rfl⟩
  have hNcl := closed_docs hN
  have hNn : nn = N.length := by rw [hN, List.length_map, hnn]
  cases hc2 : lt j (len R)
  · obtain ⟨g1, g2⟩ := hind2 _ _ _ hj hc2
    subst g1 g2
    obtain ⟨b1, b2, b3⟩ := inL_bd r
    have hcl0 := cat_len (inL r)
    obtain ⟨nc, hnc⟩ : ∃ n, n = (catD (inL r)).length := ⟨_, rfl⟩
    obtain ⟨ng, hng⟩ : ∃ n, n = (catD (inL r)).length + 1 := ⟨_, rfl⟩
    have hcC := catX_calls (inL r) (by omega) (by omega) hnc
    have hcG := group_calls (catD (inL r)) (by omega) hng
    rw [← hN] at hcC
    obtain ⟨C, hC⟩ : ∃ D, D = (catD (inL r)).map partC := ⟨_, rfl⟩
    obtain ⟨GG, hGG⟩ : ∃ D, D = (groupD (catD (inL r))).map partC := ⟨_, rfl⟩
    have hCf := flat_of hC
    have hGf := flat_of hGG
    have hGcl := closed_part hGG
    have hCn : nc = C.length := by rw [hC, List.length_map, hnc]
    have hGn : ng = GG.length := by rw [hGG, List.length_map, hng]; unfold groupD; rw [List.length_append]; rfl
    rw [← hC] at hcC hcG
    rw [← hGG] at hcG
    have hNr := read_docs hN
    obtain ⟨jm1, jm2⟩ := hjm (l := L) (d := groupD (catD (inL r))) hO hGG
    obtain ⟨jn1, jn2⟩ := join_n (l := L) (d := groupD (catD (inL r)))
    generalize joinD L (groupD (catD (inL r))) = L3 at p1 jm1 jm2 jn1 jn2
    generalize mostR r mo = mo3 at p1
    obtain ⟨no2, hno2⟩ : ∃ n, n = no + 1 := ⟨_, rfl⟩
    obtain ⟨no3, hno3⟩ : ∃ n, n = no2 + 1 := ⟨_, rfl⟩
    clear b1 b2 b3 hcl0
    cases h0 : lt 0 i
    · have hL0 := p2 h0
      obtain ⟨Oa, hOa⟩ : ∃ Z, Z = O ++ [[.sl 98 0 ng]] := ⟨_, rfl⟩
      have ha := fun T id k0 k => hap T id k0 k no no2 98 ng O Oa hOa hOn hno2 (by omega)
      cbv
      rw [x1]; cbv
      rw [hc2]; cbv
      rw [h0]; cbv
      refine hcal ⟨[.ro N], [1], _, _, hands_deep ⟨deep_row (by simp) (by rfl) hNn hNr, trivial⟩ rfl (noRo_flat hCf), hcC, by simp, ?_⟩
      cbv
      refine hcal ⟨[.ro C], [90], _, _, hands_deep ⟨deep_row (by simp) (by rfl) hCn hCf.read, trivial⟩ rfl (noRo_flat hGf), hcG, by simp, ?_⟩
      cbv
      rw [ha _ _ _ _ (by rfl) (by rfl) (by decide)]; cbv
      rw [x3]
      exact ⟨[], [98], [114], [0, 1, 5, 6, 7], 8, ws.length - i2.toNat, hmz ▸ x4, cutOk_of hm.pm (by decide), i2, L3, mo3, no2, O ++ [[.ro GG]], p1, jm1 hL0, by rw [jn1 hL0, hno2, hno], rfl, cut_frz1 (k := 98) (by rfl) hGcl (by decide) (by cbv) (by cbv) (cutRows_cons (frz_one hOa (by rfl) (by decide) hOcl hGn) (closed_one hOcl) rfl)⟩
    have hL0 := p3 h0
    obtain ⟨Oa, hOa⟩ : ∃ Z, Z = O ++ [[.sl 82 0 1]] := ⟨_, rfl⟩
    obtain ⟨Ob, hOb⟩ : ∃ Z, Z = Oa ++ [[.sl 138 0 ng]] := ⟨_, rfl⟩
    have ha := fun T id k0 k => hap T id k0 k no no2 82 1 O Oa hOa hOn hno2 (by omega)
    have ha2 := fun T id k0 k => hap T id k0 k no2 no3 138 ng Oa Ob hOb (by rw [hOa, List.length_append, ← hOn, hno2]; rfl) hno3 (by omega)
    cbv
    rw [x1]; cbv
    rw [hc2]; cbv
    rw [h0]; cbv
    refine hcal ⟨_, [], _, _, .inl ⟨rfl, by cbv⟩, hcO, by simp, ?_⟩
    cbv
    rw [ha _ _ _ _ (by rfl) (by rfl) (by decide)]; cbv
    refine hcal ⟨[.ro N], [1], _, _, hands_deep ⟨deep_row (by simp) (by rfl) hNn hNr, trivial⟩ rfl (noRo_flat hCf), hcC, by simp, ?_⟩
    cbv
    refine hcal ⟨[.ro C], [130], _, _, hands_deep ⟨deep_row (by simp) (by rfl) hCn hCf.read, trivial⟩ rfl (noRo_flat hGf), hcG, by simp, ?_⟩
    cbv
    rw [ha2 _ _ _ _ (by rfl) (by rfl) (by decide)]; cbv
    rw [x3]
    exact ⟨[], [82, 138], [154], [0, 1, 5, 6, 7], 8, ws.length - i2.toNat, hmz ▸ x4, cutOk_of hm.pm (by decide), i2, L3, mo3, no3, (O ++ [[.ro OF]]) ++ [[.ro GG]], p1, jm2 hL0, by rw [jn2 hL0, hno3, hno2, hno], rfl, cut_frz2 (k := 82) (k2 := 138) (by rfl) hOFcl (by rfl) hGcl (by decide) (by decide) (by decide) (by cbv) (by cbv) (cutRows_cons (frz_two hOa hOb (by rfl) (by decide) (by decide) (by decide) hOcl hOFn hGn) (closed_two hOcl) rfl)⟩
  obtain ⟨q, qi, hqi, y1, y2, y3, y4, y5, y6, y7, y8⟩ := hin2 _ _ _ hj hc2
  have hcW : ACalls Try.prog 52 [.flat (.int .u8 qi)] (fun _ => .flat (.string (txt (xW q)))) (fun _ => []) := by rw [hqi]; exact word_calls q y1
  obtain ⟨w, hw⟩ : ∃ w, w = txt (xW q) := ⟨_, rfl⟩
  rw [← hw] at hcW y5
  have hcT := text_calls w
  obtain ⟨TX, hTX⟩ : ∃ D, D = (textD w).map partC := ⟨_, rfl⟩
  have hTXcl := closed_part hTX
  have hTXn : 1 = TX.length := by rw [hTX]; rfl
  rw [← hTX] at hcT
  obtain ⟨jm1, jm2⟩ := hjm (l := L2) (d := textD w) hN hTX
  obtain ⟨jn1, jn2⟩ := join_n (l := L2) (d := textD w)
  generalize joinD L2 (textD w) = L3 at y5 jm1 jm2 jn1 jn2
  obtain ⟨n2, hn2⟩ : ∃ n, n = nn + 1 := ⟨_, rfl⟩
  obtain ⟨n3, hn3⟩ : ∃ n, n = n2 + 1 := ⟨_, rfl⟩
  generalize hm3 : max mo2 (sln w) = mo3 at y5
  unfold u8C at y2
  generalize j + 1 = j2 at y3 y4 y5
  cases h0 : lt 0 j
  · have hL0 := y6 h0
    obtain ⟨Na, hNa⟩ : ∃ Z, Z = N ++ [[.sl 202 0 1]] := ⟨_, rfl⟩
    have ha := fun T id k0 k => hap T id k0 k nn n2 202 1 N Na hNa hNn hn2 (by omega)
    cbv
    rw [x1]; cbv
    rw [hc2]; cbv
    rw [x1]; cbv
    rw [y2]; cbv
    refine hcal ⟨_, [], _, _, .inl ⟨rfl, by cbv⟩, hcW, by simp, ?_⟩
    cbv
    rw [hmx _ _ _ _ _ _ _ _ _ (by rfl) (by rfl), hm3]; cbv
    rw [h0]; cbv
    refine hcal ⟨_, [], _, _, .inl ⟨rfl, by cbv⟩, hcT, by simp, ?_⟩
    cbv
    rw [ha _ _ _ _ (by rfl) (by rfl) (by decide)]; cbv
    rw [y3]
    exact ⟨[], [202], [0, 218], [0, 1, 5, 6, 7, 8, 9], 10, r.length - j2.toNat, hmb ▸ y4, cutOk_of hm.pm (by decide), j2, L3, mo3, n2, N ++ [[.ro TX]], y5, jm1 hL0, by rw [jn1 hL0, hn2, hnn], rfl, cut_frz1 (k := 202) (by rfl) hTXcl (by decide) (by cbv) (by cbv) (cutRows_cons (frzT_cl (by rfl) (by decide) hOcl) hOcl (cutRows_cons (frz_one hNa (by rfl) (by decide) hNcl hTXn) (closed_one hNcl) rfl))⟩
  have hL0 := y7 h0
  obtain ⟨Na, hNa⟩ : ∃ Z, Z = N ++ [[.sl 194 0 1]] := ⟨_, rfl⟩
  obtain ⟨Nb, hNb⟩ : ∃ Z, Z = Na ++ [[.sl 242 0 1]] := ⟨_, rfl⟩
  have ha := fun T id k0 k => hap T id k0 k nn n2 194 1 N Na hNa hNn hn2 (by omega)
  have ha2 := fun T id k0 k => hap T id k0 k n2 n3 242 1 Na Nb hNb (by rw [hNa, List.length_append, ← hNn, hn2]; rfl) hn3 (by omega)
  cbv
  rw [x1]; cbv
  rw [hc2]; cbv
  rw [x1]; cbv
  rw [y2]; cbv
  refine hcal ⟨_, [], _, _, .inl ⟨rfl, by cbv⟩, hcW, by simp, ?_⟩
  cbv
  rw [hmx _ _ _ _ _ _ _ _ _ (by rfl) (by rfl), hm3]; cbv
  rw [h0]; cbv
  refine hcal ⟨_, [], _, _, .inl ⟨rfl, by cbv⟩, hcO, by simp, ?_⟩
  cbv
  rw [ha _ _ _ _ (by rfl) (by rfl) (by decide)]; cbv
  refine hcal ⟨_, [], _, _, .inl ⟨rfl, by cbv⟩, hcT, by simp, ?_⟩
  cbv
  rw [ha2 _ _ _ _ (by rfl) (by rfl) (by decide)]; cbv
  rw [y3]
  exact ⟨[], [194, 242], [0, 258], [0, 1, 5, 6, 7, 8, 9], 10, r.length - j2.toNat, hmb ▸ y4, cutOk_of hm.pm (by decide), j2, L3, mo3, n3, (N ++ [[.ro OF]]) ++ [[.ro TX]], y5, jm2 hL0, by rw [jn2 hL0, hn3, hn2, hnn], rfl, cut_frz2 (k := 194) (k2 := 242) (by rfl) hOFcl (by rfl) hTXcl (by decide) (by decide) (by decide) (by cbv) (by cbv) (cutRows_cons (frzT_cl (frzT_cl (by rfl) (by decide) hOcl) (by decide) hOcl) hOcl (cutRows_cons (frz_two hNa hNb (by rfl) (by decide) (by decide) (by decide) hNcl hOFn hTXn) (closed_two hNcl) rfl))⟩
end Go.Proofs.Ytagflbmonlaioaa.D
