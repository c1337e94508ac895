/- Rows that are written no more, at a cut; contracts: word, Lines. -/
import Derived.Test.YtagflbmonlaioaaW1
namespace Go.Proofs.Ytagflbmonlaioaa.D
open Go G U K
set_option linter.unusedVariables false
set_option linter.unusedSimpArgs false
set_option maxRecDepth 100000
set_option maxHeartbeats 4000000
theorem fn52 : Try.prog.funcs[52]? = some Try.f52 := by kernel_rfl
theorem fn54 : Try.prog.funcs[54]? = some Try.f54 := by kernel_rfl
/-! ### Rows that are written no more -/
mutual
theorem frzV_cl (k n : Nat) (els : List (List AV)) : ∀ (x : AV), closedIn [] x = true → frzV k els x = x ∧ badV k n x = false
  | .sl id off m, h => by simp [closedIn] at h
  | .ptr id i off, h => by simp [closedIn] at h
  | .agg cs, h => by
    have := frzVs_cl k n els cs (by simpa [closedIn] using h)
    exact ⟨by simp only [frzV, this.1], by simp only [badV, this.2]⟩
  | .tup cs, h => by
    have := frzVs_cl k n els cs (by simpa [closedIn] using h)
    exact ⟨by simp only [frzV, this.1], by simp only [badV, this.2]⟩
  | .flat v, _ => ⟨rfl, rfl⟩
  | .ro els, _ => ⟨rfl, rfl⟩
  | .rp cs, _ => ⟨rfl, rfl⟩
theorem frzVs_cl (k n : Nat) (els : List (List AV)) : ∀ (l : List AV), closedAll [] l = true → frzVs k els l = l ∧ badVs k n l = false
  | [], _ => ⟨rfl, rfl⟩
  | x :: l, h => by
    simp only [closedAll, Bool.and_eq_true] at h
    have h1 := frzV_cl k n els x h.1
    have h2 := frzVs_cl k n els l h.2
    exact ⟨by simp only [frzVs, h1.1, h2.1], by simp only [badVs, h1.2, h2.2, Bool.or_false]⟩
end
theorem frzRow_app {k : Nat} {Y : List (List AV)} {e : TypeId} {X R R' : List (List AV)} (hX : ∀ c ∈ X, closedAll [] c = true) (hb : R.any (badVs k Y.length) = false) (hR : R.map (frzVs k Y) = R') : frzRow k Y ⟨e, X ++ R⟩ = some ⟨e, X ++ R'⟩ := by
  unfold frzRow
  have h1 : (X ++ R).any (badVs k Y.length) = false := by
    rw [List.any_append, hb, Bool.or_false, List.any_eq_false]
    intro c hc
    rw [(frzVs_cl k Y.length Y c (hX c hc)).2]; decide
  have h2 : X.map (frzVs k Y) = X := by
    conv => rhs; rw [← List.map_id X]
    exact List.map_congr_left fun c hc => (frzVs_cl k 0 Y c (hX c hc)).1
  simp only [h1, List.map_append, h2, hR]
  rfl
theorem frzT_app {T : Table} {k id : Nat} {Y : List (List AV)} {e : TypeId} {X R R' : List (List AV)} (hT : T id = some ⟨e, X ++ R⟩) (hne : id ≠ k) (hX : ∀ c ∈ X, closedAll [] c = true) (hb : R.any (badVs k Y.length) = false) (hR : R.map (frzVs k Y) = R') : frzT k Y T id = some ⟨e, X ++ R'⟩ := by
  unfold frzT
  rw [if_neg hne, hT]
  exact frzRow_app hX hb hR
theorem frzT_cl {T : Table} {k id : Nat} {Y : List (List AV)} {e : TypeId} {X : List (List AV)} (hT : T id = some ⟨e, X⟩) (hne : id ≠ k) (hX : ∀ c ∈ X, closedAll [] c = true) : frzT k Y T id = some ⟨e, X⟩ := by
  have := frzT_app (T := T) (k := k) (id := id) (Y := Y) (e := e) (X := X) (R := []) (R' := []) (by rw [List.append_nil]; exact hT) hne hX rfl rfl
  rwa [List.append_nil] at this
theorem frz1_at {st : St} {k : Nat} {e : TypeId} {Y : List (List AV)} (hT : st.T k = some ⟨e, Y⟩) (hY : ∀ c ∈ Y, closedAll [] c = true) : frz1 k st = ⟨frzS k Y st.s, frzT k Y st.T, st.nx⟩ := by
  unfold frz1
  rw [hT]
  have : closedEls [] Y = true := List.all_eq_true.2 hY
  simp only [this, if_true]
mutual
theorem frzV_ks {ks : List Nat} {k : Nat} (hk : ks.contains k = false) (n : Nat) (els : List (List AV)) : ∀ (x : AV), closedIn ks x = true → frzV k els x = x ∧ badV k n x = false
  | .sl id off m, h => by
    have hne : id ≠ k := fun e => by subst e; simp only [closedIn] at h; rw [h] at hk; cases hk
    exact ⟨by simp only [frzV]; rw [if_neg hne], by simp [badV, hne]⟩
  | .ptr id i off, h => by
    have hne : id ≠ k := fun e => by subst e; simp only [closedIn] at h; rw [h] at hk; cases hk
    exact ⟨rfl, by simp [badV, hne]⟩
  | .agg cs, h => by
    have := frzVs_ks hk n els cs (by simpa [closedIn] using h)
    exact ⟨by simp only [frzV, this.1], by simp only [badV, this.2]⟩
  | .tup cs, h => by
    have := frzVs_ks hk n els cs (by simpa [closedIn] using h)
    exact ⟨by simp only [frzV, this.1], by simp only [badV, this.2]⟩
  | .flat v, _ => ⟨rfl, rfl⟩
  | .ro els, _ => ⟨rfl, rfl⟩
  | .rp cs, _ => ⟨rfl, rfl⟩
theorem frzVs_ks {ks : List Nat} {k : Nat} (hk : ks.contains k = false) (n : Nat) (els : List (List AV)) : ∀ (l : List AV), closedAll ks l = true → frzVs k els l = l ∧ badVs k n l = false
  | [], _ => ⟨rfl, rfl⟩
  | x :: l, h => by
    simp only [closedAll, Bool.and_eq_true] at h
    have h1 := frzV_ks hk n els x h.1
    have h2 := frzVs_ks hk n els l h.2
    exact ⟨by simp only [frzVs, h1.1, h2.1], by simp only [badVs, h1.2, h2.2, Bool.or_false]⟩
end
theorem frzS_ks {ks : List Nat} {k : Nat} (hk : ks.contains k = false) (Y : List (List AV)) {s : Nat → AV} {t : Nat} (h : closedIn ks (s t) = true) : frzS k Y s t = s t := by
  unfold frzS
  have := frzV_ks hk Y.length Y (s t) h
  rw [this.1, this.2]; rfl
theorem cutVals_frz {ks live : List Nat} {k : Nat} (hk : ks.contains k = false) (Y : List (List AV)) {s : Nat → AV} : ∀ (l : List Nat), (∀ t ∈ l, live.contains t = true → closedIn ks (s t) = true) → cutVals ks live (frzS k Y s) l = cutVals ks live s l
  | [], _ => rfl
  | t :: l, h => by
    simp only [cutVals]
    rw [cutVals_frz hk Y l fun q hq => h q (by simp [hq])]
    cases hl : live.contains t
    · simp
    · rw [frzS_ks hk Y (h t (by simp) hl)]
def liveOk (ks live : List Nat) (s : Nat → AV) : List Nat → Bool
  | [] => true
  | t :: l => (if closedIn ks (s t) = true then true else false) && liveOk ks live s l
theorem liveOk_all {ks live : List Nat} {s : Nat → AV} : ∀ {l : List Nat}, liveOk ks live s l = true → ∀ t ∈ l, closedIn ks (s t) = true
  | t :: l, h, q, hq => by
    simp only [liveOk, Bool.and_eq_true] at h
    rcases List.mem_cons.1 hq with rfl | hq
    · by_cases h2 : closedIn ks (s q) = true
      · exact h2
      · rw [if_neg h2] at h; exact absurd h.1 (by decide)
    · exact liveOk_all h.2 q hq
theorem cut_frz1 {ks live : List Nat} {n : Nat} {st : St} {k : Nat} {e : TypeId} {Y : List (List AV)} {vals : List AV} {rows : List (Option Row)} (hT : st.T k = some ⟨e, Y⟩) (hY : ∀ c ∈ Y, closedAll [] c = true) (hk : ks.contains k = false) (ho : liveOk ks live st.s live = true) (h1 : cutVals ks live st.s (List.range n) = vals) (h2 : cutRows ks (frzT k Y st.T) ks = rows) : cut ks live n (frz [k] st) = stOf vals rows ks.length := by
  have e : frz [k] st = ⟨frzS k Y st.s, frzT k Y st.T, st.nx⟩ := frz1_at hT hY
  rw [e]
  exact cut_eq ((cutVals_frz hk Y _ fun t _ hl => liveOk_all ho t (List.contains_iff_mem.1 hl)).trans h1) h2
theorem cut_frz2 {ks live : List Nat} {n : Nat} {st : St} {k k2 : Nat} {e e2 : TypeId} {Y Y2 : List (List AV)} {vals : List AV} {rows : List (Option Row)} (hT : st.T k = some ⟨e, Y⟩) (hY : ∀ c ∈ Y, closedAll [] c = true) (hT2 : st.T k2 = some ⟨e2, Y2⟩) (hY2 : ∀ c ∈ Y2, closedAll [] c = true) (hne : k2 ≠ k)
    (hk : ks.contains k = false) (hk2 : ks.contains k2 = false) (ho : liveOk ks live st.s live = true) (h1 : cutVals ks live st.s (List.range n) = vals) (h2 : cutRows ks (frzT k2 Y2 (frzT k Y st.T)) ks = rows) : cut ks live n (frz [k, k2] st) = stOf vals rows ks.length := by
  have e : frz [k, k2] st = ⟨frzS k2 Y2 (frzS k Y st.s), frzT k2 Y2 (frzT k Y st.T), st.nx⟩ := by
    show frz1 k2 (frz1 k st) = _
    rw [frz1_at hT hY]
    exact frz1_at (frzT_cl hT2 hne hY2) hY2
  rw [e]
  have hl : ∀ t ∈ List.range n, live.contains t = true → closedIn ks (st.s t) = true := fun t _ hl => liveOk_all ho t (List.contains_iff_mem.1 hl)
  refine cut_eq (((cutVals_frz hk2 Y2 _ fun t ht hl2 => ?_).trans (cutVals_frz hk Y _ hl)).trans h1) h2
  rw [frzS_ks hk Y (hl t ht hl2)]
  exact hl t ht hl2
/-! ### A word -/
def XwAt (m : Nat) (i : Int) (s : ByteArray) : Prop := 0 ≤ i ∧ i ≤ m % 9 + 1 ∧ s = txt (List.replicate i.toNat 120)
theorem word_calls (m : Nat) (hm : m < 256) : ACalls Try.prog 52 [.flat (.int .u8 (m : Int))] (fun _ => .flat (.string (txt (xW m)))) (fun _ => []) := by
  have hrm := rem_u8 (m : Int) 9 (by omega) (by decide)
  have hcvt := conv_u8 ((m : Int) % 9) (by omega) (by omega)
  obtain ⟨r, hr⟩ : ∃ r, r = txt (xW m) := ⟨_, rfl⟩
  have hz : XwAt m 0 ⟨#[]⟩ := ⟨by omega, by omega, rfl⟩
  have hend : ∀ i s, XwAt m i s → decide (i ≤ (m : Int) % 9) = false → s = r := fun i s h hc => by
    have hc := of_decide_eq_false hc
    obtain ⟨h0, h1, h2⟩ := h
    have e : i.toNat = m % 9 + 1 := by omega
    rw [h2, hr, e]; rfl
  have hstep : ∀ i s, XwAt m i s → decide (i ≤ (m : Int) % 9) = true → ∃ s2, XwAt m (i + 1) s2 ∧ dvOf Try.prog .add 9 (.flat (.string s)) (.flat (.string ⟨#[120]⟩)) = some (.flat (.string s2)) ∧ arI .add .i64 i 1 = i + 1 ∧ (10 - (i + 1)).toNat < (10 - i).toNat := fun i s h hc => by
    have hc := of_decide_eq_true hc
    obtain ⟨h0, h1, h2⟩ := h
    refine ⟨txt (List.replicate (i + 1).toNat 120), ⟨by omega, by omega, rfl⟩, ?_, ar_add64 (by omega) (by omega), by omega⟩
    have := dv_cat s (txt [120]) (by rw [h2, size_txt, size_txt, List.length_replicate]; simp only [List.length_cons, List.length_nil]; omega)
    rw [show (⟨#[120]⟩ : ByteArray) = txt [120] from rfl, this, h2, txt_append, show (i + 1).toNat = i.toNat + 1 by omega, List.replicate_succ']
  rw [← hr]
  generalize (m : Int) % 9 = k at hrm hcvt hend hstep
  generalize (m : Int) = mi at hrm ⊢
  refine acalls_symF tabF_ok fn52 rfl rfl rfl (by kernel_rfl) ?_
  have hfin : ∀ st, resA Try.prog Try.f52 st = some (.flat (.string r)) → G.Leaves Try.prog Try.f52 (fun _ => .flat (.string r)) (fun _ => []) st := fun st h => G.Leaves.plain h rfl
  rintro ⟨lt, le, eq, se, ar, dv, una, conv, len, sln, nat, nth, ixs, cel, sto, app, cpy, slc, mak, ixv, oth, dk, ib, call⟩ hS hm Q hQ
  obtain ⟨hlt, hle, heq, hse, har, hdv, huna, hconv, hlen, hsln, hnat, hnth, hixs, hcel, hsto, happ, hcpy, hslc, hmak, hixv, hoth, hdk, hib, hcall⟩ := Sym.mk.inj hS
  clear hS
  have hnt : ∀ n : Nat, nat n = U.natI n := fun n => by rw [hnat]; rfl
  have hbox : ∀ e c off, cel (some ⟨e, [c]⟩) 0 off = if off ≤ c.length then some (c.drop off) else none := fun e c off => by rw [hcel]; rfl
  have hsbox : ∀ e c off sz y, sto (some ⟨e, [c]⟩) 0 off sz y = if y.cells.length = sz ∧ off + sz ≤ c.length ∧ y.cells.all AV.one = true then some ⟨e, [spl c off y.cells]⟩ else none := fun e c off sz y => by rw [hsto]; rfl
  have hcaw : ∀ {f args T base K}, CallK Try.prog f args T base K → call f args T base K := fun h => by rw [hcall]; exact h
  have hcal : ∀ {f args T base} {K : AV → Table → List Nat → List Nat → Prop}, (∃ args' ids val rows, Hands T ids args args' (val base) (rows base) ∧ ACalls Try.prog f args' val rows ∧ (rows base).length ≤ 8 ∧ K (val base) (adopt T base (rows base)) ids ((List.range (rows base).length).map (base + ·))) → call f args T base K := fun h => hcaw (call_own h)
  have hrm2 : dv .rem 5 (.flat (.int .u8 mi)) (.flat (.int .u8 9)) = some (.flat (.int .u8 k)) := by rw [hdv]; exact hrm
  have hcv2 : ∀ T, conv T 5 3 (.flat (.int .u8 k)) = some (.flat (.int .i64 k)) := fun T => by rw [hconv]; exact hcvt
  have hend2 : ∀ i s, XwAt m i s → le i k = false → s = r := fun i s h hc => hend i s h (by rw [hle] at hc; exact hc)
  have hstep2 : ∀ i s, XwAt m i s → le i k = true → _ := fun i s h hc => hstep i s h (by rw [hle] at hc; exact hc)
  clear hrm hcvt hend hstep
  cbv
  refine MW_loop hm [] [0, 3, 4] 5 (by simp) (fun mz st => ∃ (i : Int) (s : ByteArray), XwAt m i s ∧ mz = (10 - i).toNat ∧ st = stOf [.flat (.int .u8 mi), .dead, .dead, .flat (.string s), .flat (.int .i64 i)] [] 0) ((10 - (0 : Int)).toNat) ?_ ?_
  · exact ⟨0, ⟨#[]⟩, hz, rfl, cut_eq (by cbv) (by rfl)⟩
  rintro mz st ⟨i, s, hi, hmz, rfl⟩
  cases hcc : le i k
  · obtain rfl := hend2 _ _ hi hcc
    cbv
    rw [hrm2]; cbv
    rw [hcv2]; cbv
    rw [hcc]; cbv
    exact hQ _ _ trivial (hfin _ (by cbv))
  obtain ⟨s2, q1, q2, q3, q4⟩ := hstep2 _ _ hi hcc
  rw [← hdv] at q2
  rw [← har] at q3
  generalize i + 1 = i2 at q1 q3 q4
  cbv
  rw [hrm2]; cbv
  rw [hcv2]; cbv
  rw [hcc]; cbv
  rw [q2]; cbv
  rw [q3]
  exact ⟨[], [0, 3, 4], 5, (10 - i2).toNat, hmz ▸ q4, by simp, i2, s2, q1, rfl, cut_eq (by cbv) (by rfl)⟩
/-! ### Lines -/
def LiAt (s : ByteArray) (done : List (List UInt8)) (a i : Int) : Prop := 0 ≤ a ∧ a ≤ i ∧ i ≤ s.size ∧ done.length ≤ i ∧ linesG [] (bts s) = done ++ linesG (((bts s).take i.toNat).drop a.toNat) ((bts s).drop i.toNat)
theorem liAt_zero (s : ByteArray) : LiAt s [] 0 0 := ⟨by omega, by omega, by omega, by simp, by simp⟩
theorem drop_str {s : ByteArray} {i : Int} {b : UInt8} (h0 : 0 ≤ i) (h1 : i < s.size) (q3 : (bts s).take (i + 1).toNat = (bts s).take i.toNat ++ [b]) : (bts s).drop i.toNat = b :: (bts s).drop (i + 1).toNat := by
  have hl : i.toNat < (bts s).length := by rw [bts_len]; omega
  have e : (i + 1).toNat = i.toNat + 1 := by omega
  rw [e] at q3 ⊢
  rw [List.take_add_one, List.getElem?_eq_getElem hl] at q3
  have hb2 := List.append_cancel_left q3
  simp only [Option.toList_some, List.cons.injEq, and_true] at hb2
  rw [← hb2]
  exact List.drop_eq_getElem_cons hl
theorem str_cut {s : ByteArray} {a i : Int} (h0 : 0 ≤ a) (h1 : a ≤ i) : s.extract a.toNat i.toNat = txt (((bts s).take i.toNat).drop a.toNat) := by
  apply ByteArray.ext
  apply Array.toList_inj.1
  show _ = ((bts s).take i.toNat).drop a.toNat
  rw [ByteArray.data_extract, Array.toList_extract, List.extract_eq_take_drop, List.drop_take]; rfl
theorem liAt_step {s : ByteArray} (hb : s.size ≤ 100000000) {done : List (List UInt8)} {a i : Int} (h : LiAt s done a i) (hc : decide (i < (s.size : Int)) = true) : ∃ (v : Int) (l : List UInt8), evP Try.prog (Instr.index 9 (.string s) (.int .i64 i)) = some (.flat (.int .u8 v)) ∧ arI .add .i64 i 1 = i + 1 ∧
    (∀ T, evSlice Try.prog T 9 (.flat (.string s)) (some (.flat (.int .i64 a))) (some (.flat (.int .i64 i))) = some (.flat (.string (txt l)))) ∧
    (decide (v = 10) = true → LiAt s (done ++ [l]) (i + 1) (i + 1)) ∧ (decide (v = 10) = false → LiAt s done a (i + 1)) ∧ ((s.size : Int) - (i + 1)).toNat < ((s.size : Int) - i).toNat := by
  obtain ⟨h0, h1, h2, h3, h4⟩ := h
  have hc := of_decide_eq_true hc
  obtain ⟨v, b, q1, q2, _, q3⟩ := str_at (by omega) hc
  rw [drop_str (by omega) hc q3] at h4
  refine ⟨v, ((bts s).take i.toNat).drop a.toNat, q1, ar_add64 (by omega) (by omega), fun T => ?_, fun e => ⟨by omega, by omega, by omega, by simp only [List.length_append, List.length_cons, List.length_nil]; omega, ?_⟩, fun e => ⟨by omega, by omega, by omega, by omega, ?_⟩, by omega⟩
  · simp only [evSlice, u9]
    rw [bnd_both h0 (by omega) (by omega)]
    simp only [Option.map_some]
    rw [str_cut h0 h1]
  · rw [q2] at e
    simp only [linesG] at h4
    rw [if_pos (of_decide_eq_true e)] at h4
    have e0 : ((bts s).take (i + 1).toNat).drop (i + 1).toNat = [] := List.drop_of_length_le (by rw [List.length_take]; omega)
    rw [h4, e0, List.append_assoc]; rfl
  · rw [q2] at e
    simp only [linesG] at h4
    rw [if_neg (of_decide_eq_false e)] at h4
    rw [h4, q3, List.drop_append_of_le_length (by rw [List.length_take, bts_len]; omega)]
theorem liAt_end {s : ByteArray} {done : List (List UInt8)} {a i : Int} (h : LiAt s done a i) (hc : decide (i < (s.size : Int)) = false) : ∃ l, (∀ T, evSlice Try.prog T 9 (.flat (.string s)) (some (.flat (.int .i64 a))) none = some (.flat (.string (txt l)))) ∧ linesG [] (bts s) = done ++ [l] := by
  obtain ⟨h0, h1, h2, h3, h4⟩ := h
  have hc := of_decide_eq_false hc
  have hi : i = s.size := by omega
  refine ⟨((bts s).take i.toNat).drop a.toNat, fun T => ?_, ?_⟩
  · simp only [evSlice, u9]
    rw [bnd_lo h0 (by omega)]
    simp only [Option.map_some]
    rw [← str_cut h0 h1, hi]; rfl
  · rw [h4, List.drop_of_length_le (i := i.toNat) (by rw [bts_len]; omega)]; rfl
def lineC (l : List UInt8) : List AV := strC (txt l)
theorem closed_lines {Y : List (List AV)} {l : List (List UInt8)} (hY : Y = l.map lineC) : ∀ c ∈ Y, closedAll [] c = true := by
  rw [hY]; exact closed_map fun _ => rfl
theorem lines_calls (s : ByteArray) (hb : s.size ≤ 20000000) {n : Nat} (hn : n = (linesG [] (bts s)).length) : ACalls Try.prog 54 [.flat (.string s)] (fun k => .sl k 0 n) (fun _ => [⟨9, (linesG [] (bts s)).map lineC⟩]) := by
  have hz := liAt_zero s
  have hend0 := fun done a i (h : LiAt s done a i) hc => liAt_end h hc
  have hstep0 := fun done a i (h : LiAt s done a i) hc => liAt_step (by omega) h hc
  generalize linesG [] (bts s) = all at hn hend0 ⊢
  obtain ⟨RA, hRA⟩ : ∃ RA, RA = all.map lineC := ⟨_, rfl⟩
  have hall := closed_lines hRA
  rw [← hRA]
  refine acalls_symF tabF_ok fn54 rfl rfl rfl (by kernel_rfl) ?_
  rintro ⟨lt, le, eq, se, ar, dv, una, conv, len, sln, nat, nth, ixs, cel, sto, app, cpy, slc, mak, ixv, oth, dk, ib, call⟩ hS hm Q hQ
  obtain ⟨hlt, hle, heq, hse, har, hdv, huna, hconv, hlen, hsln, hnat, hnth, hixs, hcel, hsto, happ, hcpy, hslc, hmak, hixv, hoth, hdk, hib, hcall⟩ := Sym.mk.inj hS
  clear hS
  have hnt : ∀ n : Nat, nat n = U.natI n := fun n => by rw [hnat]; rfl
  have hbox : ∀ e c off, cel (some ⟨e, [c]⟩) 0 off = if off ≤ c.length then some (c.drop off) else none := fun e c off => by rw [hcel]; rfl
  have hsbox : ∀ e c off sz y, sto (some ⟨e, [c]⟩) 0 off sz y = if y.cells.length = sz ∧ off + sz ≤ c.length ∧ y.cells.all AV.one = true then some ⟨e, [spl c off y.cells]⟩ else none := fun e c off sz y => by rw [hsto]; rfl
  have hcaw : ∀ {f args T base K}, CallK Try.prog f args T base K → call f args T base K := fun h => by rw [hcall]; exact h
  have hcal : ∀ {f args T base} {K : AV → Table → List Nat → List Nat → Prop}, (∃ args' ids val rows, Hands T ids args args' (val base) (rows base) ∧ ACalls Try.prog f args' val rows ∧ (rows base).length ≤ 8 ∧ K (val base) (adopt T base (rows base)) ids ((List.range (rows base).length).map (base + ·))) → call f args T base K := fun h => hcaw (call_own h)
  have hsz : sln s = (s.size : Int) := by rw [hsln]
  have hstep2 : ∀ done a i, LiAt s done a i → lt i (sln s) = true → _ := fun done a i h h2 => hstep0 done a i h (by rw [hlt, hsz] at h2; exact h2)
  have hend2 : ∀ done a i, LiAt s done a i → lt i (sln s) = false → _ := fun done a i h h2 => hend0 done a i h (by rw [hlt, hsz] at h2; exact h2)
  clear hend0 hstep0
  have hap : ∀ (done : List (List UInt8)) (l : List UInt8) (m m2 : Nat) (Y : List (List AV)), Y = done.map lineC → m = done.length → m2 = m + 1 → m2 ≤ 100000000 → ∀ (T : Table) id k0 k, T k0 = some ⟨9, Y⟩ → T k = some ⟨9, [[.flat (.string (txt l))]]⟩ → k ≠ k0 → app T id 47 47 (.sl k0 0 m) (.sl k 0 1) = some (.sl id 0 m2, (T.set k0 none).set id (some ⟨9, (done ++ [l]).map lineC⟩)) := fun done l m m2 Y hY hm hm2 hle T id k0 k h1 h2 h3 => by
    rw [happ]
    exact app_tip u47 z9 c9 (by decide) rfl (by decide) h1 h2 h3 rfl (by rw [hY, List.length_map, hm]; exact Nat.le_refl _) hm2 (by rw [hY, hm, ← List.map_take, List.take_length, List.map_append]; rfl) hle
  cbv
  refine MW_loopZ hm [.slot 3 9] [32] [0, 3, 4, 5] 6 (by simp) (fun mz st => ∃ (done : List (List UInt8)) (a i : Int) (m : Nat) (Y : List (List AV)), LiAt s done a i ∧ Y = done.map lineC ∧ m = done.length ∧ mz = ((s.size : Int) - i).toNat ∧ st = stOf [.flat (.string s), .dead, .dead, .sl 0 0 m, .flat (.int .i64 a), .flat (.int .i64 i)] [some ⟨9, Y⟩] 1) (((s.size : Int) - 0).toNat) ?_ ?_
  · exact ⟨[], 0, 0, 0, [], hz, rfl, rfl, rfl, cut_eq (by cbv) (cutRows_cons (by rfl) (fun c hc => by cases hc) rfl)⟩
  rintro mz st ⟨done, a, i, m, Y, hi, hY, hm1, hmz, rfl⟩
  have hdl : done.length ≤ 20000000 := by have := hi.2.2.2.1; have := hi.2.2.1; omega
  cases hcc : lt i (sln s)
  · obtain ⟨l, g1, g2⟩ := hend2 _ _ _ hi hcc
    have hsl : ∀ T, slc T 9 (.flat (.string s)) (some (.flat (.int .i64 a))) none = some (.flat (.string (txt l))) := fun T => by rw [hslc]; exact g1 T
    have ha := hap done l m n Y hY hm1 (by rw [hn, g2, hm1]; simp) (by rw [hn, g2]; simp; omega)
    rw [← g2, ← hRA] at ha
    generalize txt l = sl at hsl ha
    clear g1
    cbv
    rw [hcc]; cbv
    rw [hsl]; cbv
    rw [ha _ _ _ _ (by rfl) (by rfl) (by decide)]; cbv
    exact hQ _ _ trivial (leaves_own (by cbv) (by rfl) hall)
  obtain ⟨v, l, q1, q2, q3, q4, q5, q6⟩ := hstep2 _ _ _ hi hcc
  have hx : ixv 9 (.flat (.string s)) (.flat (.int .i64 i)) = some (.flat (.int .u8 v)) := by rw [hixv]; exact q1
  have hsl : ∀ T, slc T 9 (.flat (.string s)) (some (.flat (.int .i64 a))) (some (.flat (.int .i64 i))) = some (.flat (.string (txt l))) := fun T => by rw [hslc]; exact q3 T
  obtain ⟨m2, hm2⟩ : ∃ m2, m2 = m + 1 := ⟨_, rfl⟩
  have ha := hap done l m m2 Y hY hm1 hm2 (by omega)
  obtain ⟨Y2, hY2⟩ : ∃ Y2, Y2 = (done ++ [l]).map lineC := ⟨_, rfl⟩
  rw [← hY2] at ha
  have hm2l : m2 = (done ++ [l]).length := by rw [hm2, hm1]; simp
  rw [← har] at q2
  have e5 : eq v 10 = decide (v = 10) := by rw [heq]
  clear q3 q1
  generalize txt l = sl at hsl ha
  generalize done ++ [l] = done2 at q4 hY2 hm2l
  generalize i + 1 = i2 at q2 q4 q5 q6
  generalize decide (v = 10) = b1 at e5 q4 q5
  cases b1
  · replace q5 := q5 rfl
    cbv
    rw [hcc]; cbv
    repeat (first | (rw [hbox]; cbv) | (rw [hsbox]; cbv) | (rw [hx]; cbv) | (rw [e5]; cbv))
    rw [q2]
    exact ⟨[0], [0, 3, 4, 5], 6, ((s.size : Int) - i2).toNat, hmz ▸ q6, by simp, done, a, i2, m, Y, q5, hY, hm1, rfl, cut_eq (by cbv) (cutRows_cons (by rfl) (closed_lines hY) rfl)⟩
  replace q4 := q4 rfl
  cbv
  rw [hcc]; cbv
  repeat (first | (rw [hbox]; cbv) | (rw [hsbox]; cbv) | (rw [hx]; cbv) | (rw [e5]; cbv))
  rw [hsl]; cbv
  rw [ha _ _ _ _ (by rfl) (by rfl) (by decide)]; cbv
  repeat (first | (rw [hbox]; cbv) | (rw [hsbox]; cbv) | (rw [q2]; cbv))
  exact ⟨[113], [0, 3, 4, 5], 6, ((s.size : Int) - i2).toNat, hmz ▸ q6, by simp, done2, i2, i2, m2, Y2, q4, hY2, hm2l, rfl, cut_eq (by cbv) (cutRows_cons (by rfl) (closed_lines hY2) rfl)⟩
end Go.Proofs.Ytagflbmonlaioaa.D
