/- Words of the walks, of any program: rows by their parts, indexes, appending, rows that are handed on to be read. Plain theorems. -/
import Derived.Test.YtnceadbfgpiaaaaG22
namespace Go.Proofs.Ytnceadbfgpiaaaa.U
open Go G
set_option linter.unusedVariables false
set_option linter.unusedSimpArgs false
set_option maxRecDepth 100000
set_option maxHeartbeats 4000000
set_option linter.unusedSectionVars false
/-! ### Indexes -/
/-- A number of elements, its cast hidden. -/
def natI (n : Nat) : Int := n
def left (n i : Int) : Nat := (n - i).toNat
def atI {α : Type} [Inhabited α] (l : List α) (i : Int) : α := l.getD i.toNat default
/-- An index that runs over a list. -/
def At {α : Type} (l : List α) (i : Int) : Prop := 0 ≤ i ∧ i ≤ l.length
section
variable {α β : Type} [Inhabited α] {l : List α} {i : Int}
theorem at_zero (l : List α) : At l 0 := ⟨by omega, by omega⟩
theorem at_end (h : At l i) (hc : decide (i < (l.length : Int)) = false) : i = l.length := by
  obtain ⟨h0, h1⟩ := h
  simp only [decide_eq_false_iff_not] at hc
  omega
theorem at_lt (h : At l i) (hc : decide (i < (l.length : Int)) = true) : i.toNat < l.length ∧ 0 ≤ i ∧ i < l.length := by
  simp only [decide_eq_true_eq] at hc
  have := h.1
  exact ⟨by omega, this, hc⟩
theorem at_step (h : At l i) (hc : decide (i < (l.length : Int)) = true) : At l (i + 1) ∧ left l.length (i + 1) < left l.length i := by
  obtain ⟨hl, h0, h1⟩ := at_lt h hc
  exact ⟨⟨by omega, by omega⟩, by unfold left; omega⟩
theorem at_add (hs : l.length ≤ 1000000) (h : At l i) (hc : decide (i < (l.length : Int)) = true) : arI .add .i64 i 1 = i + 1 := by
  obtain ⟨hl, h0, h1⟩ := at_lt h hc
  exact ar_add64 (by omega) (by omega)
theorem at_ix (h0 : 0 ≤ i) (h1 : i < l.length) : At l i ∧ decide (i < (l.length : Int)) = true := ⟨⟨h0, by omega⟩, by simpa using h1⟩
theorem at_get (h0 : 0 ≤ i) (h1 : i < l.length) : l[i.toNat]? = some (atI l i) := by
  have hl : i.toNat < l.length := by omega
  simp [atI, List.getD, List.getElem?_eq_getElem hl]
theorem at_mem (h0 : 0 ≤ i) (h1 : i < l.length) : atI l i ∈ l := List.mem_of_getElem? (at_get h0 h1)
theorem take_next (h0 : 0 ≤ i) (h1 : i < l.length) : l.take (i + 1).toNat = l.take i.toNat ++ [atI l i] := by
  have e : (i + 1).toNat = i.toNat + 1 := by omega
  rw [e, List.take_add_one, at_get h0 h1]; rfl
theorem drop_next (h0 : 0 ≤ i) (h1 : i < l.length) : l.drop i.toNat = atI l i :: l.drop (i + 1).toNat := by
  have hl : i.toNat < l.length := by omega
  have e : (i + 1).toNat = i.toNat + 1 := by omega
  have hg := at_get h0 h1
  rw [List.getElem?_eq_getElem hl] at hg
  rw [List.drop_eq_getElem_cons hl, Option.some.inj hg, e]
theorem take_end (h : At l i) (hc : decide (i < (l.length : Int)) = false) : l.take i.toNat = l := by
  have := at_end h hc
  rw [List.take_of_length_le (by omega)]
theorem drop_end (h : At l i) (hc : decide (i < (l.length : Int)) = false) : l.drop i.toNat = [] := by
  have := at_end h hc
  rw [List.drop_eq_nil_of_le (by omega)]
theorem fold_next (f : β → α → β) (s : β) (h0 : 0 ≤ i) (h1 : i < l.length) : (l.take (i + 1).toNat).foldl f s = f ((l.take i.toNat).foldl f s) (atI l i) := by
  rw [take_next h0 h1, List.foldl_append]; rfl
/-! ### Rows by their parts -/
theorem len_map (f : α → List AV) (l : List α) : lenE (l.map f) = l.length := by simp [lenE]
theorem nth_map {f : α → List AV} {sz : Nat} (hf : ∀ x, (f x).length = sz) (h0 : 0 ≤ i) (h1 : i < l.length) : nthE (l.map f) i sz = some (.rp (f (atI l i))) := by
  simp [nthE, h0, at_get h0 h1, hf]
theorem get_map {f : α → List AV} (h0 : 0 ≤ i) (h1 : i < l.length) : (l.map f)[i.toNat]? = some (f (atI l i)) := by
  simp [at_get h0 h1]
theorem closed_map {f : α → List AV} (hf : ∀ x, closedAll [] (f x) = true) : ∀ c ∈ l.map f, closedAll [] c = true := by
  intro c hc
  obtain ⟨t, _, rfl⟩ := List.mem_map.1 hc
  exact hf t
theorem own_ix {P : Program} {e : TypeId} {X : List (List AV)} {n sz : Nat} {i : Int} (hc : P.cellsOf e = sz) (h0 : 0 ≤ i) (h1 : i < n) (id : Nat) : ixSl P (some ⟨e, X⟩) id 0 n i sz = some (.ptr id i.toNat 0) := by
  simp only [ixSl, Option.bind_some]
  rw [if_pos ⟨h0, h1, hc⟩]
  simp
theorem own_cel {e : TypeId} {X : List (List AV)} {j off : Nat} {c : List AV} (hX : X[j]? = some c) (ho : off ≤ c.length) : ptrCells (some ⟨e, X⟩) j off = some (c.drop off) := by
  simp only [ptrCells, Option.bind_some, hX]
  rw [if_pos ho]
theorem own_sto {e : TypeId} {f : α → List AV} {j off sz : Nat} {y : AV} {x : α} (hx : l[j]? = some x) (v : α) (hy : y.cells.length = sz) (ho : off + sz ≤ (f x).length) (h1 : y.cells.all AV.one = true) (hs : spl (f x) off y.cells = f v) :
    storeRow (some ⟨e, l.map f⟩) j off sz y = some ⟨e, (l.set j v).map f⟩ := by
  have hX : (l.map f)[j]? = some (f x) := by simp [hx]
  simp only [storeRow, Option.bind_some, hX]
  rw [if_pos ⟨hy, ho, h1⟩, hs, List.map_set]
end
/-! ### Cutting -/
theorem cutRows_cons {ks l : List Nat} {T : Table} {k : Nat} {e : TypeId} {X : List (List AV)} {R : List (Option Row)} (hT : T k = some ⟨e, X⟩) (hX : ∀ c ∈ X, closedAll [] c = true) (h : cutRows ks T l = R) : cutRows ks T (k :: l) = some ⟨e, X⟩ :: R := by
  have h1 : closedEls ks X = true := by
    unfold closedEls
    exact List.all_eq_true.2 fun c hc => closed_ups c (hX c hc)
  have h2 : renEls (newName ks 0) X = X := by
    unfold renEls
    conv => rhs; rw [← List.map_id X]
    exact List.map_congr_left fun c hc => rens_nil _ c (hX c hc)
  simp only [cutRows, hT, h1, h2, if_true, h]
/-! ### Appending -/
theorem app_gen {P : Program} {T : Table} {id k0 n n' sz b : Nat} {t u e : TypeId} {du : TypeDesc} {z : Value} {X Y news : List (List AV)} {x : AV} (hu : P.underlying t = some (.slice e)) (hu2 : P.underlying u = some du) (hd : srcT du = true) (hti : tinfo P e = some (some z, sz, b)) (h0 : 0 < sz) (hz : z.cells.size = sz) (hb : b ≤ 1000)
    (hT0 : T k0 = some ⟨e, X⟩) (hfit : srcFit P (T.set k0 (some ⟨e, X.take n⟩)) sz x = true) (hsrc : srcEls (T.set k0 (some ⟨e, X.take n⟩)) x = some news) (hall : ∀ c ∈ news, c.length = sz) (hn : n ≤ X.length) (hn' : n' = n + news.length) (hY : Y = X.take n ++ news) (hle : n' ≤ 100000000) :
    evAppend P T id t u (.sl k0 0 n) x = some (.sl id 0 n', (T.set k0 none).set id (some ⟨e, Y⟩)) := by
  have hm : (100000000 : Nat) ≤ maxLen := by decide
  have h1 : n' * b ≤ 140737488355328 := Nat.le_trans (Nat.mul_le_mul hle hb) (by decide)
  have h2 : n' ≤ maxLen := by omega
  have ht : trimS T (.sl k0 0 n) = T.set k0 (some ⟨e, X.take n⟩) := by simp [trimS, hT0]
  have hk : (T.set k0 (some ⟨e, X.take n⟩)) k0 = some ⟨e, X.take n⟩ := if_pos rfl
  have hl : 0 + n = (X.take n).length := by rw [List.length_take]; omega
  have hss : ((T.set k0 (some ⟨e, X.take n⟩)).set k0 none) = T.set k0 none := by
    funext k; unfold Table.set; split <;> rfl
  subst hn' hY
  simp only [evAppend, ht, evApp0, hu, hti, hu2]
  rw [if_pos ⟨h0, hd, hfit, hz⟩, hsrc]
  simp only [Option.bind_some]
  rw [if_pos hall]
  simp only [hk, Option.bind_some]
  rw [if_pos ⟨trivial, hl⟩, if_pos ⟨h1, h2⟩, hss, List.drop_zero]
/-- One element more. -/
theorem app_tip {P : Program} {T : Table} {id k0 k n n' sz b : Nat} {t e : TypeId} {z : Value} {X Y : List (List AV)} {c : List AV} (hu : P.underlying t = some (.slice e)) (hti : tinfo P e = some (some z, sz, b)) (hco : P.cellsOf e = sz) (h0 : 0 < sz) (hz : z.cells.size = sz) (hb : b ≤ 1000)
    (hT0 : T k0 = some ⟨e, X⟩) (hT : T k = some ⟨e, [c]⟩) (hne : k ≠ k0) (hc : c.length = sz) (hn : n ≤ X.length) (hn' : n' = n + 1) (hY : Y = X.take n ++ [c]) (hle : n' ≤ 100000000) :
    evAppend P T id t t (.sl k0 0 n) (.sl k 0 1) = some (.sl id 0 n', (T.set k0 none).set id (some ⟨e, Y⟩)) := by
  have hk : (T.set k0 (some ⟨e, X.take n⟩)) k = some ⟨e, [c]⟩ := by unfold Table.set; rw [if_neg hne]; exact hT
  exact app_gen hu hu rfl hti h0 hz hb hT0 (by simp [srcFit, hk, hco]) (by simp [srcEls, hk]) (by simpa using hc) hn (by simpa using hn') hY hle
/-- Elements that stay. -/
theorem app_ro {P : Program} {T : Table} {id k0 n n' sz b : Nat} {t u e : TypeId} {z : Value} {X Y R : List (List AV)} (hu : P.underlying t = some (.slice e)) (hu2 : P.underlying u = some (.slice e)) (hti : tinfo P e = some (some z, sz, b)) (h0 : 0 < sz) (hz : z.cells.size = sz) (hb : b ≤ 1000)
    (hT0 : T k0 = some ⟨e, X⟩) (hall : ∀ c ∈ R, c.length = sz) (hn : n ≤ X.length) (hn' : n' = n + R.length) (hY : Y = X.take n ++ R) (hle : n' ≤ 100000000) :
    evAppend P T id t u (.sl k0 0 n) (.ro R) = some (.sl id 0 n', (T.set k0 none).set id (some ⟨e, Y⟩)) :=
  app_gen hu hu2 rfl hti h0 hz hb hT0 rfl rfl hall hn hn' hY hle
/-- Elements of another row. -/
theorem app_sl {P : Program} {T : Table} {id k0 k n m n' sz b : Nat} {t u e : TypeId} {z : Value} {X Y R : List (List AV)} (hu : P.underlying t = some (.slice e)) (hu2 : P.underlying u = some (.slice e)) (hti : tinfo P e = some (some z, sz, b)) (hco : P.cellsOf e = sz) (h0 : 0 < sz) (hz : z.cells.size = sz) (hb : b ≤ 1000)
    (hT0 : T k0 = some ⟨e, X⟩) (hT : T k = some ⟨e, R⟩) (hne : k ≠ k0) (hall : ∀ c ∈ R, c.length = sz) (hn : n ≤ X.length) (hm : m ≤ R.length) (hn' : n' = n + m) (hY : Y = X.take n ++ R.take m) (hle : n' ≤ 100000000) :
    evAppend P T id t u (.sl k0 0 n) (.sl k 0 m) = some (.sl id 0 n', (T.set k0 none).set id (some ⟨e, Y⟩)) := by
  have hk : (T.set k0 (some ⟨e, X.take n⟩)) k = some ⟨e, R⟩ := by unfold Table.set; rw [if_neg hne]; exact hT
  exact app_gen hu hu2 rfl hti h0 hz hb hT0 (by simp [srcFit, hk, hco]) (by simp only [srcEls, hk, Option.bind_some]; rw [if_pos (by omega)]; rfl) (fun c hc => hall c (List.mem_of_mem_take hc)) hn (by rw [hn', List.length_take]; omega) hY hle
def byteC (b : UInt8) : List AV := [.flat (.int .u8 b.toNat)]
/-- A string's bytes. -/
theorem app_str {P : Program} {T : Table} {id k0 n n' : Nat} {t u e b : Nat} {z : Value} {X Y : List (List AV)} {s : ByteArray} (hu : P.underlying t = some (.slice e)) (hu2 : P.underlying u = some .string) (hti : tinfo P e = some (some z, 1, b)) (hz : z.cells.size = 1) (hb : b ≤ 1000)
    (hT0 : T k0 = some ⟨e, X⟩) (hn : n ≤ X.length) (hn' : n' = n + s.size) (hY : Y = X.take n ++ s.data.toList.map byteC) (hle : n' ≤ 100000000) :
    evAppend P T id t u (.sl k0 0 n) (.flat (.string s)) = some (.sl id 0 n', (T.set k0 none).set id (some ⟨e, Y⟩)) :=
  app_gen hu hu2 rfl hti (by decide) hz hb hT0 rfl rfl (fun c hc => by obtain ⟨b, _, rfl⟩ := List.mem_map.1 hc; rfl) hn (by rw [hn', List.length_map]; rfl) hY hle
theorem trims_id {T : Table} {s : AV} (h : ∀ id off n, s ≠ .sl id off n) : trimS T s = T := by
  cases s <;> first | rfl | exact absurd rfl (h _ _ _)
theorem app_nil {P : Program} {T : Table} {id k n sz b : Nat} {t e : TypeId} {z : Value} {c : List AV} {Y : List (List AV)} (hu : P.underlying t = some (.slice e)) (hti : tinfo P e = some (some z, sz, b)) (hco : P.cellsOf e = sz) (h0 : 0 < sz) (hz : z.cells.size = sz) (hb : b ≤ 1000)
    (hT : T k = some ⟨e, [c]⟩) (hc : c.length = sz) (hn : n = 1) (hY : Y = [c]) : evAppend P T id t t (.flat (.slice none 0 0)) (.sl k 0 1) = some (.sl id 0 n, T.set id (some ⟨e, Y⟩)) := by
  have hm : (1 : Nat) ≤ maxLen := by decide
  have hb' : b ≤ 140737488355328 := by omega
  subst hn hY
  simp only [evAppend, trims_id (T := T) (s := .flat (.slice none 0 0)) (fun _ _ _ h => by cases h), evApp0, hu, hti, srcT, srcFit, hT, hco, srcEls, Option.bind_some]
  rw [if_pos ⟨h0, by simp, by simp, hz⟩]
  simp [hc, hm, hb']
/-! ### A round over a list -/
theorem at_round {α : Type} [Inhabited α] {l : List α} {X : List (List AV)} {f : α → List AV} {sz : Nat} {i : Int} (hX : X = l.map f) (hf : ∀ x, (f x).length = sz) (hs : l.length ≤ 1000000) (h : At l i) (hc : decide (i < (l.length : Int)) = true) :
    nthE X i sz = some (.rp (f (atI l i))) ∧ arI .add .i64 i 1 = i + 1 ∧ At l (i + 1) ∧ left l.length (i + 1) < left l.length i ∧ atI l i ∈ l ∧ l.drop i.toNat = atI l i :: l.drop (i + 1).toNat ∧ l.take (i + 1).toNat = l.take i.toNat ++ [atI l i] := by
  obtain ⟨_, h0, h1⟩ := at_lt h hc
  obtain ⟨q1, q2⟩ := at_step h hc
  exact ⟨by rw [hX]; exact nth_map hf h0 h1, at_add hs h hc, q1, q2, at_mem h0 h1, drop_next h0 h1, take_next h0 h1⟩
theorem cutRows_box {ks l : List Nat} {T : Table} {k : Nat} {e : TypeId} {X X' : List (List AV)} {R : List (Option Row)} (hT : T k = some ⟨e, X⟩) (h1 : closedEls ks X = true) (h2 : renEls (newName ks 0) X = X') (h : cutRows ks T l = R) : cutRows ks T (k :: l) = some ⟨e, X'⟩ :: R := by
  simp only [cutRows, hT, h1, if_true, h, h2]
theorem cutRows_none {ks l : List Nat} {T : Table} {k : Nat} {R : List (Option Row)} (hT : T k = none) (h : cutRows ks T l = R) : cutRows ks T (k :: l) = none :: R := by
  simp only [cutRows, hT, h]
theorem renRows_nil (m : Nat → Nat) : renRows m [] = [] := rfl
theorem renRows_cons {m : Nat → Nat} {e : TypeId} {X : List (List AV)} {R R' : List (Option Row)} (hX : ∀ c ∈ X, closedAll [] c = true) (h : renRows m R = R') : renRows m (some ⟨e, X⟩ :: R) = some ⟨e, X⟩ :: R' := by
  have h2 : X.map (rens m) = X := by
    conv => rhs; rw [← List.map_id X]
    exact List.map_congr_left fun c hc => rens_nil _ c (hX c hc)
  simp only [renRows] at h
  simp only [renRows, List.map_cons, h, Option.map_some, renRow, h2]
theorem renRows_box {m : Nat → Nat} {e : TypeId} {X X' : List (List AV)} {R R' : List (Option Row)} (hX : X.map (rens m) = X') (h : renRows m R = R') : renRows m (some ⟨e, X⟩ :: R) = some ⟨e, X'⟩ :: R' := by
  simp only [renRows] at h
  simp only [renRows, List.map_cons, h, Option.map_some, renRow, hX]
theorem renRows_none {m : Nat → Nat} {R R' : List (Option Row)} (h : renRows m R = R') : renRows m (none :: R) = none :: R' := by
  simp only [renRows] at h
  simp only [renRows, List.map_cons, h, Option.map_none]
/-- A row of zeroes. -/
theorem mak_zero {P : Program} {T : Table} {id sz b : Nat} {t e : TypeId} {z : Value} {n : Nat} {k k' : IntKind} (hu : P.underlying t = some (.slice e)) (hti : tinfo P e = some (some z, sz, b)) (h0 : 0 < sz) (hz : (zeroAV z).length = sz) (h1 : (zeroAV z).all AV.one = true) (hb : b ≤ 1000) (hn : n ≤ 1000000) :
    evMake P T id t (.flat (.int k n)) (.flat (.int k' n)) = some (.sl id 0 n, T.set id (some ⟨e, List.replicate n (zeroAV z)⟩)) := by
  have hm : (b : Int) * n ≤ 281474976710656 := by
    have : b * n ≤ 1000 * 1000000 := Nat.mul_le_mul hb hn
    have : ((b * n : Nat) : Int) ≤ 1000000000 := by omega
    rw [Int.natCast_mul] at this
    omega
  simp only [evMake, hu, hti]
  rw [if_pos ⟨Int.le_refl _, by omega, hm, by omega, h0, hz, h1⟩]
  simp
/-- .. with room for more. -/
theorem mak_cap {P : Program} {T : Table} {id sz b : Nat} {t e : TypeId} {z : Value} {n m : Nat} {k k' : IntKind} (hu : P.underlying t = some (.slice e)) (hti : tinfo P e = some (some z, sz, b)) (h0 : 0 < sz) (hz : (zeroAV z).length = sz) (h1 : (zeroAV z).all AV.one = true) (hb : b ≤ 1000) (hnm : n ≤ m) (hn : m ≤ 1000000) :
    evMake P T id t (.flat (.int k n)) (.flat (.int k' m)) = some (.sl id 0 n, T.set id (some ⟨e, List.replicate m (zeroAV z)⟩)) := by
  have hm : (b : Int) * m ≤ 281474976710656 := by
    have : b * m ≤ 1000 * 1000000 := Nat.mul_le_mul hb hn
    have : ((b * m : Nat) : Int) ≤ 1000000000 := by omega
    rw [Int.natCast_mul] at this
    omega
  simp only [evMake, hu, hti]
  rw [if_pos ⟨by omega, by omega, hm, by omega, h0, hz, h1⟩]
  simp
/-! ### Cutting slices -/
theorem bnd_lo {n m : Nat} {k : IntKind} {l : Int} (h0 : 0 ≤ l) (h1 : l ≤ n) : bndsA n m (some (.flat (.int k l))) none = some (l.toNat, n) := by
  simp only [bndsA, hiA, loA, intOf, Option.bind_some]
  rw [if_pos ⟨h0, h1⟩]; rfl
theorem bnd_hi {n m : Nat} {k : IntKind} {h : Int} (h0 : 0 ≤ h) (h1 : h ≤ m) : bndsA n m none (some (.flat (.int k h))) = some (0, h.toNat) := by
  simp only [bndsA, hiA, loA, intOf, Option.bind_some]
  rw [if_pos ⟨h0, h1⟩]; rfl
theorem bnd_both {n m : Nat} {k k' : IntKind} {l h : Int} (h0 : 0 ≤ l) (h1 : l ≤ h) (h2 : h ≤ m) : bndsA n m (some (.flat (.int k l))) (some (.flat (.int k' h))) = some (l.toNat, h.toNat) := by
  simp only [bndsA, hiA, loA, intOf, Option.bind_some]
  rw [if_pos ⟨by omega, h2⟩]
  simp only [Option.bind_some]
  rw [if_pos ⟨h0, by omega⟩]; rfl
theorem slc_ro {P : Program} {T : Table} {t e : TypeId} {z : Option Value} {sz b l h : Nat} {X : List (List AV)} {lo hi : Option AV} (hu : P.underlying t = some (.slice e)) (hti : tinfo P e = some (z, sz, b)) (hall : ∀ c ∈ X, c.length = sz) (hb : bndsA X.length X.length lo hi = some (l, h)) :
    evSlice P T t (.ro X) lo hi = some (.ro ((X.take h).drop l)) := by
  simp only [evSlice, hu, hti]
  rw [if_pos hall, hb]; rfl
theorem slc_sl {P : Program} {T : Table} {t e e' : TypeId} {z : Option Value} {id n sz b l h : Nat} {X : List (List AV)} {lo hi : Option AV} (hu : P.underlying t = some (.slice e)) (hti : tinfo P e = some (z, sz, b)) (hT : T id = some ⟨e', X⟩) (hco : P.cellsOf e' = sz) (hn : n ≤ X.length) (hb : bndsA n X.length lo hi = some (l, h)) :
    evSlice P T t (.sl id 0 n) lo hi = some (.sl id l (h - l)) := by
  simp only [evSlice, hu, hti, hT, Option.bind_some]
  rw [if_pos ⟨by omega, hco⟩, Nat.sub_zero, hb]
  simp
/-! ### Results -/
theorem leaves_own {P : Program} {fn : Func} {e : TypeId} {X : List (List AV)} {st : St} {k n : Nat} (h : resA P fn st = some (.sl k 0 n)) (hT : st.T k = some ⟨e, X⟩) (hX : ∀ c ∈ X, closedAll [] c = true) : G.Leaves P fn (fun k => .sl k 0 n) (fun _ => [⟨e, X⟩]) st :=
  G.Leaves.row h hT hX
theorem leaves_nil {P : Program} {fn : Func} {e : TypeId} {X : List (List AV)} {st : St} {n : Nat} (t : Nat) (hr : fn.results.toList = [.tmp t]) (h : st.s t = .flat (.slice none 0 0)) (hX : X = []) (hn : n = 0) : G.Leaves P fn (fun k => .sl k 0 n) (fun _ => [⟨e, X⟩]) st := by
  subst hX hn
  exact G.Leaves.nil t e hr h
/-- A slice that has nothing, nil or not. -/
theorem acalls_empty {P : Program} {f : FuncId} {val : Nat → AV} {rows : Nat → List Row} (h : ∀ A c, ACalls P f [.flat (.slice A 0 c)] val rows) : ACalls P f [.ro []] val rows := by
  refine ⟨(h none 0).1, fun n w L vs hs hv => ?_⟩
  have h0 := hv 0 (.ro []) rfl
  have h0' : ∃ A c, vs.getD 0 undef = .slice A 0 c := by
    generalize vs.getD 0 undef = v at h0
    cases h0 with
    | ro sz U hn hc hs hA h1 hh => exact ⟨_, _, by rw [hn]; rfl⟩
  obtain ⟨A, c, he⟩ := h0'
  refine (h A c).2 n w L vs hs fun i x hx => ?_
  match i, hx with
  | 0, hx =>
    obtain rfl := Option.some.inj hx
    rw [he]
    exact .flat _ rfl
  | i + 1, hx => simp at hx
/-! ### Rows of one's own, handed on -/
def Deeps (T : Table) (ids : List Nat) : List AV → List AV → Prop
  | [], [] => True
  | x :: l, y :: r => Deep T ids x y ∧ Deeps T ids l r
  | _, _ => False
theorem deeps_len {T : Table} {ids : List Nat} : ∀ {l r : List AV}, Deeps T ids l r → l.length = r.length ∧ ∀ (i : Nat) (x y : AV), l[i]? = some x → r[i]? = some y → Deep T ids x y
  | [], [], _ => ⟨rfl, fun i x y h => by simp at h⟩
  | x :: l, [], h => h.elim
  | [], y :: r, h => h.elim
  | x :: l, y :: r, h => by
    obtain ⟨h1, h2⟩ := deeps_len h.2
    refine ⟨by simp [h1], fun i a b ha hb => ?_⟩
    cases i with
    | zero => simp at ha hb; subst ha hb; exact h.1
    | succ i => simp at ha hb; exact h2 i a b ha hb
theorem deep_agg {T : Table} {ids : List Nat} {l r : List AV} (h : Deeps T ids l r) : Deep T ids (.agg l) (.agg r) := .agg (deeps_len h).1 (deeps_len h).2
theorem hands_deep {T : Table} {ids : List Nat} {args args' : List AV} {val : AV} {rows : List Row} (h : Deeps T ids args args') (hv : val.noRo = true) (hr : ∀ r ∈ rows, ∀ e ∈ r.els, ∀ x ∈ e, x.noRo1 = true) : Hands T ids args args' val rows :=
  .inr ⟨deeps_len h, hv, hr⟩
def readRow (X : List (List AV)) : Prop := ∀ c ∈ X, ∀ x ∈ c, x.noId = true
def flatRow (X : List (List AV)) : Prop := ∀ c ∈ X, ∀ x ∈ c, x.noId = true ∧ x.noRo1 = true
theorem flatRow.read {X : List (List AV)} (h : flatRow X) : readRow X := fun c hc x hx => (h c hc x hx).1
theorem deep_row {T : Table} {ids : List Nat} {id n : Nat} {e : TypeId} {X : List (List AV)} (hid : id ∈ ids) (hT : T id = some ⟨e, X⟩) (hn : n = X.length) (hX : readRow X) : Deep T ids (.sl id 0 n) (.ro X) := by
  subst hn
  refine .sl hid hT (by simp) rfl (fun i e e' h1 h2 => ?_) fun i e e' j x y h1 h2 hx hy => ?_
  · simp only [List.drop_zero] at h1; rw [h1] at h2; rw [Option.some.inj h2]
  · simp only [List.drop_zero] at h1; rw [h1] at h2; rw [← Option.some.inj h2, hx] at hy
    obtain rfl := Option.some.inj hy
    exact .id (hX e (List.mem_of_getElem? h1) x (List.mem_of_getElem? hx))
def DeepEls (T : Table) (ids : List Nat) : List (List AV) → List (List AV) → Prop
  | [], [] => True
  | e :: l, e' :: r => Deeps T ids e e' ∧ DeepEls T ids l r
  | _, _ => False
theorem deepEls_len {T : Table} {ids : List Nat} : ∀ {l r : List (List AV)}, DeepEls T ids l r → l.length = r.length ∧ ∀ (i : Nat) (x y : List AV), l[i]? = some x → r[i]? = some y → Deeps T ids x y
  | [], [], _ => ⟨rfl, fun i x y h => by simp at h⟩
  | x :: l, [], h => h.elim
  | [], y :: r, h => h.elim
  | x :: l, y :: r, h => by
    obtain ⟨h1, h2⟩ := deepEls_len h.2
    refine ⟨by simp [h1], fun i a b ha hb => ?_⟩
    cases i with
    | zero => simp at ha hb; subst ha hb; exact h.1
    | succ i => simp at ha hb; exact h2 i a b ha hb
/-- A row of rows, as its callee reads it. -/
theorem deep_els {T : Table} {ids : List Nat} {id n : Nat} {e : TypeId} {X Y : List (List AV)} (hid : id ∈ ids) (hT : T id = some ⟨e, X⟩) (hn : n = X.length) (h : DeepEls T ids X Y) : Deep T ids (.sl id 0 n) (.ro Y) := by
  subst hn
  obtain ⟨h1, h2⟩ := deepEls_len h
  refine .sl hid hT (by simp) h1.symm (fun i e e' q1 q2 => ?_) fun i e e' j x y q1 q2 hx hy => ?_
  · simp only [List.drop_zero] at q1
    exact (deeps_len (h2 i e e' q1 q2)).1
  · simp only [List.drop_zero] at q1
    exact (deeps_len (h2 i e e' q1 q2)).2 j x y hx hy
/-- A row that is longer than the slice. -/
theorem deep_part {T : Table} {ids : List Nat} {id n : Nat} {e : TypeId} {X : List (List AV)} (hid : id ∈ ids) (hT : T id = some ⟨e, X⟩) (hn : n ≤ X.length) (hX : readRow X) : Deep T ids (.sl id 0 n) (.ro (X.take n)) := by
  refine .sl hid hT (by simpa using hn) (by rw [List.length_take]; omega) (fun i e e' h1 h2 => ?_) fun i e e' j x y h1 h2 hx hy => ?_
  all_goals
    simp only [List.drop_zero] at h1
    rw [List.getElem?_take] at h2
    split at h2
    · rw [h1] at h2
      obtain rfl := Option.some.inj h2
      first
        | rfl
        | (rw [hx] at hy; obtain rfl := Option.some.inj hy; exact .id (hX e (List.mem_of_getElem? h1) x (List.mem_of_getElem? hx)))
    · cases h2
theorem noRo_flat {e : TypeId} {X : List (List AV)} (hX : flatRow X) : ∀ r ∈ [(⟨e, X⟩ : Row)], ∀ c ∈ r.els, ∀ x ∈ c, x.noRo1 = true := by
  intro r hr c hc x hx
  simp only [List.mem_cons, List.not_mem_nil, or_false] at hr
  subst hr
  exact (hX c hc x hx).2
theorem noRo_flat2 {e e2 : TypeId} {X X2 : List (List AV)} (hX : flatRow X) (hX2 : flatRow X2) : ∀ r ∈ [(⟨e, X⟩ : Row), ⟨e2, X2⟩], ∀ c ∈ r.els, ∀ x ∈ c, x.noRo1 = true := by
  intro r hr c hc x hx
  simp only [List.mem_cons, List.not_mem_nil, or_false] at hr
  rcases hr with rfl | rfl
  · exact (hX c hc x hx).2
  · exact (hX2 c hc x hx).2
theorem flat_map {α : Type} {f : α → List AV} (hf : ∀ a, ∀ x ∈ f a, x.noId = true ∧ x.noRo1 = true) (l : List α) : flatRow (l.map f) := by
  intro c hc x hx
  obtain ⟨t, _, rfl⟩ := List.mem_map.1 hc
  exact hf t x hx
/-! ### Letters -/
theorem ba_beq (s t : ByteArray) : (s == t) = true ↔ s = t := by
  cases s with | mk a => cases t with | mk b =>
  show (a == b) = true ↔ _
  simp
/-! ### A law's arguments -/
def fieldsOf : TypeDesc → Option (List (Nat × Nat))
  | .struct fs => some (fs.toList.map fun f => (f.type, f.offset))
  | _ => none
theorem fld_of {P : Program} {t : TypeId} {l : List (Nat × Nat)} (h : (P.underlying t).bind fieldsOf = some l) : ∃ fs, P.underlying t = some (.struct fs) ∧ fs.toList.map (fun f => (f.type, f.offset)) = l := by
  cases hu : P.underlying t with
  | none => rw [hu] at h; cases h
  | some d =>
    rw [hu] at h
    cases d with
    | struct fs => exact ⟨fs, rfl, Option.some.inj h⟩
    | _ => cases h
theorem list_of {α : Type} {f : α → List AV} {p : α → Prop} : ∀ {X : List (List AV)}, (∀ c ∈ X, ∃ t, c = f t ∧ p t) → ∃ l : List α, X = l.map f ∧ ∀ t ∈ l, p t
  | [], _ => ⟨[], rfl, fun t h => by simp at h⟩
  | c :: X, h => by
    obtain ⟨t, rfl, ht⟩ := h c (by simp)
    obtain ⟨l, rfl, hl⟩ := list_of (X := X) fun d hd => h d (by simp [hd])
    refine ⟨t :: l, rfl, fun u hu => ?_⟩
    rcases List.mem_cons.1 hu with rfl | hu
    · exact ht
    · exact hl u hu
variable {P : Program} {n : Nat} {t e : TypeId} {xs : List AV} {x : AV}
theorem shape_int {k : IntKind} (hu : P.underlying t = some (.int k)) (h : Shape P (n + 1) t xs) : ∃ m, xs = [.flat (.int k m)] ∧ (Lit.int k m).wf = true := by
  simp only [Shape, hu] at h; exact h
theorem shape_str (hu : P.underlying t = some .string) (h : Shape P (n + 1) t xs) : ∃ s, xs = [.flat (.string s)] ∧ s.size ≤ maxLen := by
  simp only [Shape, hu] at h; exact h
theorem shape_bool (hu : P.underlying t = some .bool) (h : Shape P (n + 1) t xs) : ∃ b, xs = [.flat (.bool b)] := by
  simp only [Shape, hu] at h; exact h
theorem shape_slice {α : Type} {f : α → List AV} {p : α → Prop} (hu : P.underlying t = some (.slice e)) (hf : ∀ {c}, Shape P n e c → ∃ a, c = f a ∧ p a) (h : Shape P (n + 1) t xs) : ∃ l : List α, xs = [.ro (l.map f)] ∧ l.length ≤ maxLen ∧ ∀ a ∈ l, p a := by
  simp only [Shape, hu] at h
  obtain ⟨X, rfl, hl, hX⟩ := h
  obtain ⟨l, rfl, hp⟩ := list_of (f := f) (p := p) fun c hc => hf (hX c hc)
  exact ⟨l, rfl, by simpa using hl, hp⟩
theorem shape_struct {l : List (Nat × Nat)} {sz : Nat} (hu : (P.underlying t).bind fieldsOf = some l) (hc : P.cellsOf t = sz) (h : Shape P (n + 1) t xs) : xs.length = sz ∧ ∀ p ∈ l, Shape P n p.1 ((xs.drop p.2).take (P.cellsOf p.1)) := by
  obtain ⟨fs, hu', rfl⟩ := fld_of hu
  simp only [Shape, hu'] at h
  refine ⟨h.1.trans hc, fun p hp => ?_⟩
  obtain ⟨f, hf, rfl⟩ := List.mem_map.1 hp
  exact h.2 f hf
theorem arg_one {d : TypeDesc} (hu : P.underlying t = some d) (hd : fieldsOf d = none) (ha : argA P t xs x) : xs = [x] := by
  unfold argA at ha
  rw [hu] at ha
  cases d <;> first | exact ha | cases hd
theorem arg_agg {l : List (Nat × Nat)} (hu : (P.underlying t).bind fieldsOf = some l) (ha : argA P t xs x) : x = .agg xs := by
  obtain ⟨fs, hu', rfl⟩ := fld_of hu
  unfold argA at ha
  rw [hu'] at ha
  exact ha
end Go.Proofs.Ytnceadbfgpiaaaa.U
