/- Rows that are written no more, at a cut. Plain theorems over any program. -/
import Derived.Test.YtnceadbfgpiaaaaG23
namespace Go.Proofs.Ytnceadbfgpiaaaa.G
set_option linter.unusedVariables false
set_option linter.unusedSimpArgs false
open Go
/-! ### Rows that are written no more -/
mutual
theorem frzV_cl (k n : Nat) (els : List (List AV)) : ∀ (x : AV), closedIn [] x = true → frzV k els x = x ∧ badV k n x = false
  | .sl id off m, h => by simp [closedIn] at h
  | .ptr id i off, h => by simp [closedIn] at h
  | .agg cs, h => by
    have := frzVs_cl k n els cs (by simpa [closedIn] using h)
    exact ⟨by simp only [frzV, this.1], by simp only [badV, this.2]⟩
  | .tup cs, h => by
    have := frzVs_cl k n els cs (by simpa [closedIn] using h)
    exact ⟨by simp only [frzV, this.1], by simp only [badV, this.2]⟩
  | .flat v, _ => ⟨rfl, rfl⟩
  | .ro els, _ => ⟨rfl, rfl⟩
  | .rp cs, _ => ⟨rfl, rfl⟩
theorem frzVs_cl (k n : Nat) (els : List (List AV)) : ∀ (l : List AV), closedAll [] l = true → frzVs k els l = l ∧ badVs k n l = false
  | [], _ => ⟨rfl, rfl⟩
  | x :: l, h => by
    simp only [closedAll, Bool.and_eq_true] at h
    have h1 := frzV_cl k n els x h.1
    have h2 := frzVs_cl k n els l h.2
    exact ⟨by simp only [frzVs, h1.1, h2.1], by simp only [badVs, h1.2, h2.2, Bool.or_false]⟩
end
theorem frzRow_app {k : Nat} {Y : List (List AV)} {e : TypeId} {X R R' : List (List AV)} (hX : ∀ c ∈ X, closedAll [] c = true) (hb : R.any (badVs k Y.length) = false) (hR : R.map (frzVs k Y) = R') : frzRow k Y ⟨e, X ++ R⟩ = some ⟨e, X ++ R'⟩ := by
  unfold frzRow
  have h1 : (X ++ R).any (badVs k Y.length) = false := by
    rw [List.any_append, hb, Bool.or_false, List.any_eq_false]
    intro c hc
    rw [(frzVs_cl k Y.length Y c (hX c hc)).2]; decide
  have h2 : X.map (frzVs k Y) = X := by
    conv => rhs; rw [← List.map_id X]
    exact List.map_congr_left fun c hc => (frzVs_cl k 0 Y c (hX c hc)).1
  simp only [h1, List.map_append, h2, hR]
  rfl
theorem frzT_app {T : Table} {k id : Nat} {Y : List (List AV)} {e : TypeId} {X R R' : List (List AV)} (hT : T id = some ⟨e, X ++ R⟩) (hne : id ≠ k) (hX : ∀ c ∈ X, closedAll [] c = true) (hb : R.any (badVs k Y.length) = false) (hR : R.map (frzVs k Y) = R') : frzT k Y T id = some ⟨e, X ++ R'⟩ := by
  unfold frzT
  rw [if_neg hne, hT]
  exact frzRow_app hX hb hR
theorem frzT_cl {T : Table} {k id : Nat} {Y : List (List AV)} {e : TypeId} {X : List (List AV)} (hT : T id = some ⟨e, X⟩) (hne : id ≠ k) (hX : ∀ c ∈ X, closedAll [] c = true) : frzT k Y T id = some ⟨e, X⟩ := by
  have := frzT_app (T := T) (k := k) (id := id) (Y := Y) (e := e) (X := X) (R := []) (R' := []) (by rw [List.append_nil]; exact hT) hne hX rfl rfl
  rwa [List.append_nil] at this
theorem frz1_at {st : St} {k : Nat} {e : TypeId} {Y : List (List AV)} (hT : st.T k = some ⟨e, Y⟩) (hY : ∀ c ∈ Y, closedAll [] c = true) : frz1 k st = ⟨frzS k Y st.s, frzT k Y st.T, st.nx⟩ := by
  unfold frz1
  rw [hT]
  have : closedEls [] Y = true := List.all_eq_true.2 hY
  simp only [this, if_true]
mutual
theorem frzV_ks {ks : List Nat} {k : Nat} (hk : ks.contains k = false) (n : Nat) (els : List (List AV)) : ∀ (x : AV), closedIn ks x = true → frzV k els x = x ∧ badV k n x = false
  | .sl id off m, h => by
    have hne : id ≠ k := fun e => by subst e; simp only [closedIn] at h; rw [h] at hk; cases hk
    exact ⟨by simp only [frzV]; rw [if_neg hne], by simp [badV, hne]⟩
  | .ptr id i off, h => by
    have hne : id ≠ k := fun e => by subst e; simp only [closedIn] at h; rw [h] at hk; cases hk
    exact ⟨rfl, by simp [badV, hne]⟩
  | .agg cs, h => by
    have := frzVs_ks hk n els cs (by simpa [closedIn] using h)
    exact ⟨by simp only [frzV, this.1], by simp only [badV, this.2]⟩
  | .tup cs, h => by
    have := frzVs_ks hk n els cs (by simpa [closedIn] using h)
    exact ⟨by simp only [frzV, this.1], by simp only [badV, this.2]⟩
  | .flat v, _ => ⟨rfl, rfl⟩
  | .ro els, _ => ⟨rfl, rfl⟩
  | .rp cs, _ => ⟨rfl, rfl⟩
theorem frzVs_ks {ks : List Nat} {k : Nat} (hk : ks.contains k = false) (n : Nat) (els : List (List AV)) : ∀ (l : List AV), closedAll ks l = true → frzVs k els l = l ∧ badVs k n l = false
  | [], _ => ⟨rfl, rfl⟩
  | x :: l, h => by
    simp only [closedAll, Bool.and_eq_true] at h
    have h1 := frzV_ks hk n els x h.1
    have h2 := frzVs_ks hk n els l h.2
    exact ⟨by simp only [frzVs, h1.1, h2.1], by simp only [badVs, h1.2, h2.2, Bool.or_false]⟩
end
theorem frzS_ks {ks : List Nat} {k : Nat} (hk : ks.contains k = false) (Y : List (List AV)) {s : Nat → AV} {t : Nat} (h : closedIn ks (s t) = true) : frzS k Y s t = s t := by
  unfold frzS
  have := frzV_ks hk Y.length Y (s t) h
  rw [this.1, this.2]; rfl
theorem cutVals_frz {ks live : List Nat} {k : Nat} (hk : ks.contains k = false) (Y : List (List AV)) {s : Nat → AV} : ∀ (l : List Nat), (∀ t ∈ l, live.contains t = true → closedIn ks (s t) = true) → cutVals ks live (frzS k Y s) l = cutVals ks live s l
  | [], _ => rfl
  | t :: l, h => by
    simp only [cutVals]
    rw [cutVals_frz hk Y l fun q hq => h q (by simp [hq])]
    cases hl : live.contains t
    · simp
    · rw [frzS_ks hk Y (h t (by simp) hl)]
def liveOk (ks live : List Nat) (s : Nat → AV) : List Nat → Bool
  | [] => true
  | t :: l => (if closedIn ks (s t) = true then true else false) && liveOk ks live s l
theorem liveOk_all {ks live : List Nat} {s : Nat → AV} : ∀ {l : List Nat}, liveOk ks live s l = true → ∀ t ∈ l, closedIn ks (s t) = true
  | t :: l, h, q, hq => by
    simp only [liveOk, Bool.and_eq_true] at h
    rcases List.mem_cons.1 hq with rfl | hq
    · by_cases h2 : closedIn ks (s q) = true
      · exact h2
      · rw [if_neg h2] at h; exact absurd h.1 (by decide)
    · exact liveOk_all h.2 q hq
theorem cut_frz1 {ks live : List Nat} {n : Nat} {st : St} {k : Nat} {e : TypeId} {Y : List (List AV)} {vals : List AV} {rows : List (Option Row)} (hT : st.T k = some ⟨e, Y⟩) (hY : ∀ c ∈ Y, closedAll [] c = true) (hk : ks.contains k = false) (ho : liveOk ks live st.s live = true) (h1 : cutVals ks live st.s (List.range n) = vals) (h2 : cutRows ks (frzT k Y st.T) ks = rows) : cut ks live n (frz [k] st) = stOf vals rows ks.length := by
  have e : frz [k] st = ⟨frzS k Y st.s, frzT k Y st.T, st.nx⟩ := frz1_at hT hY
  rw [e]
  exact cut_eq ((cutVals_frz hk Y _ fun t _ hl => liveOk_all ho t (List.contains_iff_mem.1 hl)).trans h1) h2
theorem cut_frz2 {ks live : List Nat} {n : Nat} {st : St} {k k2 : Nat} {e e2 : TypeId} {Y Y2 : List (List AV)} {vals : List AV} {rows : List (Option Row)} (hT : st.T k = some ⟨e, Y⟩) (hY : ∀ c ∈ Y, closedAll [] c = true) (hT2 : st.T k2 = some ⟨e2, Y2⟩) (hY2 : ∀ c ∈ Y2, closedAll [] c = true) (hne : k2 ≠ k)
    (hk : ks.contains k = false) (hk2 : ks.contains k2 = false) (ho : liveOk ks live st.s live = true) (h1 : cutVals ks live st.s (List.range n) = vals) (h2 : cutRows ks (frzT k2 Y2 (frzT k Y st.T)) ks = rows) : cut ks live n (frz [k, k2] st) = stOf vals rows ks.length := by
  have e : frz [k, k2] st = ⟨frzS k2 Y2 (frzS k Y st.s), frzT k2 Y2 (frzT k Y st.T), st.nx⟩ := by
    show frz1 k2 (frz1 k st) = _
    rw [frz1_at hT hY]
    exact frz1_at (frzT_cl hT2 hne hY2) hY2
  rw [e]
  have hl : ∀ t ∈ List.range n, live.contains t = true → closedIn ks (st.s t) = true := fun t _ hl => liveOk_all ho t (List.contains_iff_mem.1 hl)
  refine cut_eq (((cutVals_frz hk2 Y2 _ fun t ht hl2 => ?_).trans (cutVals_frz hk Y _ hl)).trans h1) h2
  rw [frzS_ks hk Y (hl t ht hl2)]
  exact hl t ht hl2
end Go.Proofs.Ytnceadbfgpiaaaa.G
