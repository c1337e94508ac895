/- G23, G24, G25, U1, one behind the other. -/
import Derived.Test.YtnceadbfgpiaaaaQ3
/- A function that is handed rows of the caller's, one of which is nil there: its contract over an empty row is one over nil. Plain theorems over any program. -/
namespace Go.Proofs.Ytnceadbfgpiaaaa.G
set_option linter.unusedVariables false
set_option linter.unusedSimpArgs false
open Go
variable {P : Program}

/-- The same cells, but for a nil that is told as an empty row. -/
def nilCells (n : Nat) (c0 c : List AV) : Prop := c.length = c0.length ∧ ∀ (j : Nat) (x : AV), c[j]? = some x → c0[j]? = some x ∨ (c0[j]? = some (.flat (.slice none 0 0)) ∧ x = .sl n 0 0)
def nilRow (n : Nat) (r0 r : Row) : Prop := r.elem = r0.elem ∧ r.els.length = r0.els.length ∧ ∀ (i : Nat) (c : List AV), r.els[i]? = some c → ∃ c0, r0.els[i]? = some c0 ∧ nilCells n c0 c

theorem pcalls_nil {f : FuncId} {m : Nat} {args : List AV} {R0 R0' : List Row} {val : AV} {R1 : List (Option Row)} {e : TypeId} (hm : m ≤ R0'.length) (hR : R0.length = R0'.length + 1) (hlast : R0[R0'.length]? = some ⟨e, []⟩)
    (hrows : ∀ (id : Nat) (r : Row), R0[id]? = some r → id < R0'.length → ∃ r0, R0'[id]? = some r0 ∧ nilRow R0'.length r0 r) (h : PCalls P f m args R0 val R1) : PCalls P f m args R0' val R1 := by
  refine ⟨h.1, fun w L μ vs hs hv hT hno => ?_⟩
  obtain ⟨n, hn⟩ : ∃ n, n = R0'.length := ⟨_, rfl⟩
  rw [← hn] at hm hR hlast hrows hno
  have hfr : μ n = none := hno n (Nat.le_refl _)
  have hμ : ∀ id q, μ id = some q → (μ.set n none) id = some q := fun id q hq => by
    unfold Map.set
    rw [if_neg (fun e => by rw [e, hfr] at hq; cases hq)]; exact hq
  have hμn : (μ.set n none) n = some none := if_pos rfl
  have hμ2 : ∀ id q, id ≠ n → (μ.set n none) id = some q → μ id = some q := fun id q hne hq => by
    unfold Map.set at hq
    rw [if_neg hne] at hq; exact hq
  have up : ∀ {v : Value} {x : AV}, VRel w L μ v x → VRel w L (μ.set n none) v x := fun h => h.mono (fun _ _ _ => rfl) (Nat.le_refl _) (fun _ _ h => h) hμ
  have nilv : ∀ {v : Value}, VRel w L μ v (.flat (.slice none 0 0)) → VRel w L (μ.set n none) v (.sl n 0 0) := fun h => by
    cases h with
    | flat v hv => exact .sl hμn ⟨rfl, rfl, rfl⟩
  have tabs : ∀ (R : List Row) id r, tabO (R.map some) id = some r → R[id]? = some r := fun R id r h => by
    unfold tabO at h
    rw [List.getElem?_map] at h
    cases hg : R[id]? with
    | none => rw [hg] at h; cases h
    | some r0 => rw [hg] at h; exact h
  have tabs2 : ∀ (R : List Row) id r, R[id]? = some r → tabO (R.map some) id = some r := fun R id r h => by
    unfold tabO
    rw [List.getElem?_map, h]; rfl
  have split : ∀ id r, tabO (R0.map some) id = some r → (id = n ∧ r = ⟨e, []⟩) ∨ (id ≠ n ∧ ∃ r0, tabO (R0'.map some) id = some r0 ∧ nilRow n r0 r) := fun id r h => by
    have h1 := tabs R0 id r h
    have hlt := (List.getElem?_eq_some_iff.1 h1).1
    by_cases he : id = n
    · subst he
      rw [hlast] at h1
      exact .inl ⟨rfl, (Option.some.inj h1).symm⟩
    · obtain ⟨r0, h2, h3⟩ := hrows id r h1 (by omega)
      exact .inr ⟨he, r0, tabs2 _ _ _ h2, h3⟩
  have hT0 : TRel P w L (μ.set n none) (tabO (R0.map some)) := by
    refine ⟨fun id r hr => ?_, fun id id' r r' p p' hr hr' hp hp' hne => ?_⟩
    · rcases split id r hr with ⟨rfl, rfl⟩ | ⟨hne, r0, h0, h1, h2, h3⟩
      · exact ⟨none, hμn, fun p hp => (by cases hp), fun _ => rfl⟩
      · obtain ⟨q, hq, hrow, hnil⟩ := hT.row id r0 h0
        refine ⟨q, hμ _ _ hq, fun p hp => ?_, fun hq => ?_⟩
        · have hr0 := hrow p hp
          obtain ⟨cur, hg, hsz, hc⟩ := hr0.cur
          refine ⟨⟨cur, by rw [h1]; exact hg, hsz, fun i c j x hi hx => ?_⟩, by rw [h2]; exact hr0.len, fun c hc' => ?_, by rw [h1]; exact hr0.szT, hr0.cap, hr0.live⟩
          · obtain ⟨c0, hc0, hl, hx0⟩ := h3 i c hi
            rcases hx0 j x hx with h | ⟨h, rfl⟩
            · obtain ⟨u, hu, hone, hv⟩ := hc i c0 j x hc0 h
              exact ⟨u, hu, hone, up hv⟩
            · obtain ⟨u, hu, hone, hv⟩ := hc i c0 j _ hc0 h
              exact ⟨u, hu, hone, nilv hv⟩
          · obtain ⟨i, hi⟩ := List.mem_iff_getElem?.1 hc'
            obtain ⟨c0, hc0, hl, _⟩ := h3 i c hi
            rw [hl]; exact hr0.sz c0 (List.mem_of_getElem? hc0)
        · have := hnil hq
          rw [this] at h2
          exact List.eq_nil_of_length_eq_zero h2
    · have n1 : id ≠ n := fun e => by rw [e, hμn] at hp; cases hp
      have n2 : id' ≠ n := fun e => by rw [e, hμn] at hp'; cases hp'
      rcases split id r hr with ⟨he, _⟩ | ⟨_, r0, h0, _⟩
      · exact absurd he n1
      rcases split id' r' hr' with ⟨he, _⟩ | ⟨_, r0', h0', _⟩
      · exact absurd he n2
      exact hT.apart id id' r0 r0' p p' h0 h0' (hμ2 _ _ n1 hp) (hμ2 _ _ n2 hp') hne
  refine (h.2 w L (μ.set n none) vs hs (fun i x hx => up (hv i x hx)) hT0 (fun id hid => ?_)).mono ?_
  · unfold Map.set
    rw [if_neg (by omega)]
    exact hno id (by omega)
  · rintro e' w' ⟨v, L', μ', rfl, h1, h2, h3, h4⟩
    refine ⟨v, L', μ', rfl, h1, h2, ⟨h3.os, h3.tape, h3.output, h3.size, fun b hb hn' => h3.block b hb fun id r p hr hp => ?_, h3.L, fun id q hid hq => h3.map id q hid (hμ _ _ hq), fun id r p hr hp => ?_⟩, h4⟩
    · have n1 : id ≠ n := fun e => by rw [e, hμn] at hp; cases hp
      rcases split id r hr with ⟨he, _⟩ | ⟨_, r0, h0, _⟩
      · exact absurd he n1
      · exact hn' id r0 p h0 (hμ2 _ _ n1 hp)
    · rcases h3.place id r p hr hp with hge | ⟨id0, r0, p0, q1, q2, q3⟩
      · exact .inl hge
      · have n1 : id0 ≠ n := fun e => by rw [e, hμn] at q2; cases q2
        rcases split id0 r0 q1 with ⟨he, _⟩ | ⟨_, r0', h0', _⟩
        · exact absurd he n1
        · exact .inr ⟨id0, r0', p0, h0', hμ2 _ _ n1 q2, q3⟩
end Go.Proofs.Ytnceadbfgpiaaaa.G
/- Rows that are written no more, at a cut. Plain theorems over any program. -/
namespace Go.Proofs.Ytnceadbfgpiaaaa.G
set_option linter.unusedVariables false
set_option linter.unusedSimpArgs false
open Go
/-! ### Rows that are written no more -/
mutual
theorem frzV_cl (k n : Nat) (els : List (List AV)) : ∀ (x : AV), closedIn [] x = true → frzV k els x = x ∧ badV k n x = false
  | .sl id off m, h => by simp [closedIn] at h
  | .ptr id i off, h => by simp [closedIn] at h
  | .agg cs, h => by
    have := frzVs_cl k n els cs (by simpa [closedIn] using h)
    exact ⟨by simp only [frzV, this.1], by simp only [badV, this.2]⟩
  | .tup cs, h => by
    have := frzVs_cl k n els cs (by simpa [closedIn] using h)
    exact ⟨by simp only [frzV, this.1], by simp only [badV, this.2]⟩
  | .flat v, _ => ⟨rfl, rfl⟩
  | .ro els, _ => ⟨rfl, rfl⟩
  | .rp cs, _ => ⟨rfl, rfl⟩
theorem frzVs_cl (k n : Nat) (els : List (List AV)) : ∀ (l : List AV), closedAll [] l = true → frzVs k els l = l ∧ badVs k n l = false
  | [], _ => ⟨rfl, rfl⟩
  | x :: l, h => by
    simp only [closedAll, Bool.and_eq_true] at h
    have h1 := frzV_cl k n els x h.1
    have h2 := frzVs_cl k n els l h.2
    exact ⟨by simp only [frzVs, h1.1, h2.1], by simp only [badVs, h1.2, h2.2, Bool.or_false]⟩
end
theorem frzRow_app {k : Nat} {Y : List (List AV)} {e : TypeId} {X R R' : List (List AV)} (hX : ∀ c ∈ X, closedAll [] c = true) (hb : R.any (badVs k Y.length) = false) (hR : R.map (frzVs k Y) = R') : frzRow k Y ⟨e, X ++ R⟩ = some ⟨e, X ++ R'⟩ := by
  unfold frzRow
  have h1 : (X ++ R).any (badVs k Y.length) = false := by
    rw [List.any_append, hb, Bool.or_false, List.any_eq_false]
    intro c hc
    rw [(frzVs_cl k Y.length Y c (hX c hc)).2]; decide
  have h2 : X.map (frzVs k Y) = X := by
    conv => rhs; rw [← List.map_id X]
    exact List.map_congr_left fun c hc => (frzVs_cl k 0 Y c (hX c hc)).1
  simp only [h1, List.map_append, h2, hR]
  rfl
theorem frzT_app {T : Table} {k id : Nat} {Y : List (List AV)} {e : TypeId} {X R R' : List (List AV)} (hT : T id = some ⟨e, X ++ R⟩) (hne : id ≠ k) (hX : ∀ c ∈ X, closedAll [] c = true) (hb : R.any (badVs k Y.length) = false) (hR : R.map (frzVs k Y) = R') : frzT k Y T id = some ⟨e, X ++ R'⟩ := by
  unfold frzT
  rw [if_neg hne, hT]
  exact frzRow_app hX hb hR
theorem frzT_cl {T : Table} {k id : Nat} {Y : List (List AV)} {e : TypeId} {X : List (List AV)} (hT : T id = some ⟨e, X⟩) (hne : id ≠ k) (hX : ∀ c ∈ X, closedAll [] c = true) : frzT k Y T id = some ⟨e, X⟩ := by
  have := frzT_app (T := T) (k := k) (id := id) (Y := Y) (e := e) (X := X) (R := []) (R' := []) (by rw [List.append_nil]; exact hT) hne hX rfl rfl
  rwa [List.append_nil] at this
theorem frz1_at {st : St} {k : Nat} {e : TypeId} {Y : List (List AV)} (hT : st.T k = some ⟨e, Y⟩) (hY : ∀ c ∈ Y, closedAll [] c = true) : frz1 k st = ⟨frzS k Y st.s, frzT k Y st.T, st.nx⟩ := by
  unfold frz1
  rw [hT]
  have : closedEls [] Y = true := List.all_eq_true.2 hY
  simp only [this, if_true]
mutual
theorem frzV_ks {ks : List Nat} {k : Nat} (hk : ks.contains k = false) (n : Nat) (els : List (List AV)) : ∀ (x : AV), closedIn ks x = true → frzV k els x = x ∧ badV k n x = false
  | .sl id off m, h => by
    have hne : id ≠ k := fun e => by subst e; simp only [closedIn] at h; rw [h] at hk; cases hk
    exact ⟨by simp only [frzV]; rw [if_neg hne], by simp [badV, hne]⟩
  | .ptr id i off, h => by
    have hne : id ≠ k := fun e => by subst e; simp only [closedIn] at h; rw [h] at hk; cases hk
    exact ⟨rfl, by simp [badV, hne]⟩
  | .agg cs, h => by
    have := frzVs_ks hk n els cs (by simpa [closedIn] using h)
    exact ⟨by simp only [frzV, this.1], by simp only [badV, this.2]⟩
  | .tup cs, h => by
    have := frzVs_ks hk n els cs (by simpa [closedIn] using h)
    exact ⟨by simp only [frzV, this.1], by simp only [badV, this.2]⟩
  | .flat v, _ => ⟨rfl, rfl⟩
  | .ro els, _ => ⟨rfl, rfl⟩
  | .rp cs, _ => ⟨rfl, rfl⟩
theorem frzVs_ks {ks : List Nat} {k : Nat} (hk : ks.contains k = false) (n : Nat) (els : List (List AV)) : ∀ (l : List AV), closedAll ks l = true → frzVs k els l = l ∧ badVs k n l = false
  | [], _ => ⟨rfl, rfl⟩
  | x :: l, h => by
    simp only [closedAll, Bool.and_eq_true] at h
    have h1 := frzV_ks hk n els x h.1
    have h2 := frzVs_ks hk n els l h.2
    exact ⟨by simp only [frzVs, h1.1, h2.1], by simp only [badVs, h1.2, h2.2, Bool.or_false]⟩
end
theorem frzS_ks {ks : List Nat} {k : Nat} (hk : ks.contains k = false) (Y : List (List AV)) {s : Nat → AV} {t : Nat} (h : closedIn ks (s t) = true) : frzS k Y s t = s t := by
  unfold frzS
  have := frzV_ks hk Y.length Y (s t) h
  rw [this.1, this.2]; rfl
theorem cutVals_frz {ks live : List Nat} {k : Nat} (hk : ks.contains k = false) (Y : List (List AV)) {s : Nat → AV} : ∀ (l : List Nat), (∀ t ∈ l, live.contains t = true → closedIn ks (s t) = true) → cutVals ks live (frzS k Y s) l = cutVals ks live s l
  | [], _ => rfl
  | t :: l, h => by
    simp only [cutVals]
    rw [cutVals_frz hk Y l fun q hq => h q (by simp [hq])]
    cases hl : live.contains t
    · simp
    · rw [frzS_ks hk Y (h t (by simp) hl)]
def liveOk (ks live : List Nat) (s : Nat → AV) : List Nat → Bool
  | [] => true
  | t :: l => (if closedIn ks (s t) = true then true else false) && liveOk ks live s l
theorem liveOk_all {ks live : List Nat} {s : Nat → AV} : ∀ {l : List Nat}, liveOk ks live s l = true → ∀ t ∈ l, closedIn ks (s t) = true
  | t :: l, h, q, hq => by
    simp only [liveOk, Bool.and_eq_true] at h
    rcases List.mem_cons.1 hq with rfl | hq
    · by_cases h2 : closedIn ks (s q) = true
      · exact h2
      · rw [if_neg h2] at h; exact absurd h.1 (by decide)
    · exact liveOk_all h.2 q hq
theorem cut_frz1 {ks live : List Nat} {n : Nat} {st : St} {k : Nat} {e : TypeId} {Y : List (List AV)} {vals : List AV} {rows : List (Option Row)} (hT : st.T k = some ⟨e, Y⟩) (hY : ∀ c ∈ Y, closedAll [] c = true) (hk : ks.contains k = false) (ho : liveOk ks live st.s live = true) (h1 : cutVals ks live st.s (List.range n) = vals) (h2 : cutRows ks (frzT k Y st.T) ks = rows) : cut ks live n (frz [k] st) = stOf vals rows ks.length := by
  have e : frz [k] st = ⟨frzS k Y st.s, frzT k Y st.T, st.nx⟩ := frz1_at hT hY
  rw [e]
  exact cut_eq ((cutVals_frz hk Y _ fun t _ hl => liveOk_all ho t (List.contains_iff_mem.1 hl)).trans h1) h2
theorem cut_frz2 {ks live : List Nat} {n : Nat} {st : St} {k k2 : Nat} {e e2 : TypeId} {Y Y2 : List (List AV)} {vals : List AV} {rows : List (Option Row)} (hT : st.T k = some ⟨e, Y⟩) (hY : ∀ c ∈ Y, closedAll [] c = true) (hT2 : st.T k2 = some ⟨e2, Y2⟩) (hY2 : ∀ c ∈ Y2, closedAll [] c = true) (hne : k2 ≠ k)
    (hk : ks.contains k = false) (hk2 : ks.contains k2 = false) (ho : liveOk ks live st.s live = true) (h1 : cutVals ks live st.s (List.range n) = vals) (h2 : cutRows ks (frzT k2 Y2 (frzT k Y st.T)) ks = rows) : cut ks live n (frz [k, k2] st) = stOf vals rows ks.length := by
  have e : frz [k, k2] st = ⟨frzS k2 Y2 (frzS k Y st.s), frzT k2 Y2 (frzT k Y st.T), st.nx⟩ := by
    show frz1 k2 (frz1 k st) = _
    rw [frz1_at hT hY]
    exact frz1_at (frzT_cl hT2 hne hY2) hY2
  rw [e]
  have hl : ∀ t ∈ List.range n, live.contains t = true → closedIn ks (st.s t) = true := fun t _ hl => liveOk_all ho t (List.contains_iff_mem.1 hl)
  refine cut_eq (((cutVals_frz hk2 Y2 _ fun t ht hl2 => ?_).trans (cutVals_frz hk Y _ hl)).trans h1) h2
  rw [frzS_ks hk Y (hl t ht hl2)]
  exact hl t ht hl2
end Go.Proofs.Ytnceadbfgpiaaaa.G
/- Rows frozen between the parts of a body, over any program. -/
namespace Go.Proofs.Ytnceadbfgpiaaaa.G
set_option linter.unusedVariables false
set_option linter.unusedSimpArgs false
open Go
variable {P : Program} {M : Mach}

def AWs (P : Program) : Code → St → (Exit → St → Prop) → Prop
  | .seq a b, st, Q => AW P 0 a st fun e st' => match e with
    | .normal => ∃ fz, AWs P b (frz fz st') Q
    | e => Q e st'
  | c, st, Q => AW P 0 c st Q
def MWs (M : Mach) : Code → St → (Exit → St → Prop) → Prop
  | .seq a b, st, Q => MW M a st fun e st' => match e with
    | .normal => ∃ fz, MWs M b (frz fz st') Q
    | e => Q e st'
  | c, st, Q => MW M c st Q

theorem AWs_sound {S : Start} (hpm : S.pm = 0) (hold : ∀ b, ¬ S.old b) : ∀ (c : Code) (st : St) (Q : Exit → St → Prop) (Q' : Exit → Act → World → Prop) (a : Act) (w : World), dstsOk S.n c = true → Rel P S (st.nx ≤ ·) st a w → AWs P c st Q →
    (∀ e st' a' w', Q e st' → Rel P S (st'.nx ≤ ·) st' a' w' → Q' e a' w') → c.wp P Q' a w := by
  intro c
  induction c with
  | seq x y ihx ihy =>
    intro st Q Q' a w hd hR h hQ
    simp only [dstsOk, Bool.and_eq_true] at hd
    have h : AW P 0 x st (fun e st' => match e with
      | .normal => ∃ fz, AWs P y (frz fz st') Q
      | e => Q e st') := h
    rw [← hpm] at h
    refine wp_seq (AW_sound draw_sound (fun _ => hold) x st _ _ a w hd.1 hR h fun e st' a' w' hq hR' => ?_)
    cases e with
    | normal =>
      obtain ⟨fz, hq⟩ := hq
      have h2 := frzs_sound hpm hold fz hR'
      have hnx : ∀ (fz : List Nat) (st : St), (frz fz st).nx = st.nx := by
        intro fz
        induction fz with
        | nil => intro st; rfl
        | cons k fz ih =>
          intro st
          show (frz fz (frz1 k st)).nx = _
          rw [ih]
          unfold frz1
          split
          · split <;> rfl
          · rfl
      exact ihy (frz fz st') Q Q' a' w' hd.2 (by rw [hnx]; exact h2) hq hQ
    | _ => exact hQ _ _ _ _ hq hR'
  | _ =>
    intro st Q Q' a w hd hR h hQ
    unfold AWs at h
    rw [← hpm] at h
    exact AW_sound draw_sound (fun _ => hold) _ st Q Q' a w hd hR h hQ

theorem MWs_ok (hM : M.Ok P) (hpm : M.pm = 0) : ∀ (c : Code) (st : St) (Q : Exit → St → Prop), MWs M c st Q → AWs P c st Q := by
  intro c
  induction c with
  | seq x y ihx ihy =>
    intro st Q h
    have := MW_ok hM x st _ (fun e st' => match e with
      | .normal => ∃ fz, AWs P y (frz fz st') Q
      | e => Q e st') (fun e s hs => by
        cases e with
        | normal => obtain ⟨fz, hs⟩ := hs; exact ⟨fz, ihy _ _ hs⟩
        | _ => exact hs) h
    rw [hpm] at this
    exact this
  | _ =>
    intro st Q h
    have := MW_ok hM _ st _ _ (fun _ _ h => h) h
    rw [hpm] at this
    exact this

theorem ncalls_symZ {tf : TabF} (ht : tf.Ok P) {f : FuncId} {fn : Func} {c : Code} {args : List AV} {R : (Nat → AV) → (Nat → List Row) → Prop} (hf : P.funcs[f]? = some fn) (hb : fn.body = some c) (hname : (fn.name == "runtime.NumGoroutine") = false)
    (hn : Nat.ble args.length fn.ntmps = true) (hd : dstsOk fn.ntmps c = true)
    (h : ∀ (N : FuncId → List AV → Table → Nat → (AV → Table → Prop) → Prop), N = NC P → ∀ S : Sym, S = realSym P → (machN tf S N).Mono → ∀ Q : Exit → St → Prop, (∀ e st, endOk e → (∃ val rows, R val rows ∧ Leaves P fn val rows st) → Q e st) → MWs (machN tf S N) c (st0 args) Q) : NCalls P f args R := by
  have hn := Nat.le_of_ble_eq_true hn
  have h : AWs P c (st0 args) fun e st => endOk e ∧ ∃ val rows, R val rows ∧ Leaves P fn val rows st :=
    MWs_ok (machN_ok ht) rfl c _ _ (h _ rfl _ rfl machN_mono _ fun _ _ h1 h2 => ⟨h1, h2⟩)
  refine ⟨⟨fn, hf, hname, by rw [hb]; rfl⟩, fun n w L vs hs hvs => ?_⟩
  refine calls_of_wp hf hb ?_
  have hsz : (vs ++ Array.replicate (fn.ntmps - vs.size) undef).size = fn.ntmps := by simp; omega
  have hC : Core P ⟨w, L, fun _ => False, fn.ntmps, 0, fun _ => none⟩ (fun id => 0 ≤ id) (st0 args) { tmps := vs ++ Array.replicate (fn.ntmps - vs.size) undef, defers := [] } w L Map.empty := by
    refine ⟨hsz, rfl, fun t _ => ?_, ⟨fun id r h => (by cases h), fun id id' r r' p p' h => (by cases h)⟩, fun _ _ => rfl, rfl, rfl, rfl, Nat.le_refl _, fun _ _ _ => rfl, fun _ _ => Iff.rfl, fun id r p h => (by cases h), fun id h => absurd h (Nat.not_lt_zero _)⟩
    show VRel w L Map.empty ((vs ++ Array.replicate (fn.ntmps - vs.size) undef).getD t undef) ((args[t]?).getD (.flat undef))
    by_cases ht : t < vs.size
    · have e1 : (vs ++ Array.replicate (fn.ntmps - vs.size) undef).getD t undef = vs.getD t undef := by simp [Array.getD_eq_getD_getElem?, Array.getElem?_append, ht]
      rw [e1]
      have hlt : t < args.length := by omega
      rw [List.getElem?_eq_getElem hlt]
      exact hvs t _ (List.getElem?_eq_getElem hlt)
    · have e1 : (vs ++ Array.replicate (fn.ntmps - vs.size) undef).getD t undef = undef := by
        simp only [Array.getD_eq_getD_getElem?, Array.getElem?_append, ht, if_false, Array.getElem?_replicate]
        split <;> rfl
      rw [e1, List.getElem?_eq_none (by omega)]
      exact .flat _ rfl
  refine AWs_sound rfl (fun _ h => h) c (st0 args) _ _ _ w hd ⟨L, Map.empty, hC⟩ h fun e st a w' he hR => ?_
  obtain ⟨hend, val, rows, hRv, nz, fz, hl⟩ := he
  obtain ⟨L', μ, hC'⟩ := frzs_sound rfl (fun _ h => h) fz (nils_sound nz hR)
  obtain ⟨v, μ', hr, hv, hT, hid, hp⟩ := hl.cut hC' n
  have fin : a.defers = [] ∧ ∃ v, (results fn a.tmps).run P w' = .ok v w' ∧ ∃ val rows, R val rows ∧ ∃ v_1 L' μ', Ending.returned v = .returned v_1 ∧ VRel w' L' μ' v_1 (val n) ∧ TRel P w' L' μ' (tabAt n (rows n)) ∧ (∀ id q, μ' id = some q → n ≤ id ∧ id < n + 8) ∧
      w'.os = w.os ∧ w'.tape = w.tape ∧ w'.output = w.output ∧ w.heap.size ≤ w'.heap.size ∧ (∀ b, b < w.heap.size → w'.heap[b]? = w.heap[b]?) ∧ (∀ b, b < w.heap.size → (L' b ↔ L b)) ∧
      (∀ id r p, tabAt n (rows n) id = some r → μ' id = some (some p) → w.heap.size ≤ p.g) :=
    ⟨hC'.defers, v, hr, val, rows, hRv, v, L', μ', rfl, hv, hT, hid, hC'.os, hC'.tape, hC'.output, hC'.grown, fun b hb => hC'.block b hb (fun h => h), hC'.L, fun id r p h hp' => (hp id r p h hp').elim (fun h => h) (fun h => h.elim)⟩
  cases e with
  | normal => exact fin
  | ret => exact fin
  | _ => exact hend.elim
end Go.Proofs.Ytnceadbfgpiaaaa.G
/- Words of the walks, of any program: rows by their parts, indexes, appending, rows that are handed on to be read. Plain theorems. -/
namespace Go.Proofs.Ytnceadbfgpiaaaa.U
open Go G
set_option linter.unusedVariables false
set_option linter.unusedSimpArgs false
set_option maxRecDepth 100000
set_option maxHeartbeats 4000000
set_option linter.unusedSectionVars false
/-! ### Indexes -/
/-- A number of elements, its cast hidden. -/
def natI (n : Nat) : Int := n
def left (n i : Int) : Nat := (n - i).toNat
def atI {α : Type} [Inhabited α] (l : List α) (i : Int) : α := l.getD i.toNat default
/-- An index that runs over a list. -/
def At {α : Type} (l : List α) (i : Int) : Prop := 0 ≤ i ∧ i ≤ l.length
section
variable {α β : Type} [Inhabited α] {l : List α} {i : Int}
theorem at_zero (l : List α) : At l 0 := ⟨by omega, by omega⟩
theorem at_end (h : At l i) (hc : decide (i < (l.length : Int)) = false) : i = l.length := by
  obtain ⟨h0, h1⟩ := h
  simp only [decide_eq_false_iff_not] at hc
  omega
theorem at_lt (h : At l i) (hc : decide (i < (l.length : Int)) = true) : i.toNat < l.length ∧ 0 ≤ i ∧ i < l.length := by
  simp only [decide_eq_true_eq] at hc
  have := h.1
  exact ⟨by omega, this, hc⟩
theorem at_step (h : At l i) (hc : decide (i < (l.length : Int)) = true) : At l (i + 1) ∧ left l.length (i + 1) < left l.length i := by
  obtain ⟨hl, h0, h1⟩ := at_lt h hc
  exact ⟨⟨by omega, by omega⟩, by unfold left; omega⟩
theorem at_add (hs : l.length ≤ 1000000) (h : At l i) (hc : decide (i < (l.length : Int)) = true) : arI .add .i64 i 1 = i + 1 := by
  obtain ⟨hl, h0, h1⟩ := at_lt h hc
  exact ar_add64 (by omega) (by omega)
theorem at_ix (h0 : 0 ≤ i) (h1 : i < l.length) : At l i ∧ decide (i < (l.length : Int)) = true := ⟨⟨h0, by omega⟩, by simpa using h1⟩
theorem at_get (h0 : 0 ≤ i) (h1 : i < l.length) : l[i.toNat]? = some (atI l i) := by
  have hl : i.toNat < l.length := by omega
  simp [atI, List.getD, List.getElem?_eq_getElem hl]
theorem at_mem (h0 : 0 ≤ i) (h1 : i < l.length) : atI l i ∈ l := List.mem_of_getElem? (at_get h0 h1)
theorem take_next (h0 : 0 ≤ i) (h1 : i < l.length) : l.take (i + 1).toNat = l.take i.toNat ++ [atI l i] := by
  have e : (i + 1).toNat = i.toNat + 1 := by omega
  rw [e, List.take_add_one, at_get h0 h1]; rfl
theorem drop_next (h0 : 0 ≤ i) (h1 : i < l.length) : l.drop i.toNat = atI l i :: l.drop (i + 1).toNat := by
  have hl : i.toNat < l.length := by omega
  have e : (i + 1).toNat = i.toNat + 1 := by omega
  have hg := at_get h0 h1
  rw [List.getElem?_eq_getElem hl] at hg
  rw [List.drop_eq_getElem_cons hl, Option.some.inj hg, e]
theorem take_end (h : At l i) (hc : decide (i < (l.length : Int)) = false) : l.take i.toNat = l := by
  have := at_end h hc
  rw [List.take_of_length_le (by omega)]
theorem drop_end (h : At l i) (hc : decide (i < (l.length : Int)) = false) : l.drop i.toNat = [] := by
  have := at_end h hc
  rw [List.drop_eq_nil_of_le (by omega)]
theorem fold_next (f : β → α → β) (s : β) (h0 : 0 ≤ i) (h1 : i < l.length) : (l.take (i + 1).toNat).foldl f s = f ((l.take i.toNat).foldl f s) (atI l i) := by
  rw [take_next h0 h1, List.foldl_append]; rfl
/-! ### Rows by their parts -/
theorem len_map (f : α → List AV) (l : List α) : lenE (l.map f) = l.length := by simp [lenE]
theorem nth_map {f : α → List AV} {sz : Nat} (hf : ∀ x, (f x).length = sz) (h0 : 0 ≤ i) (h1 : i < l.length) : nthE (l.map f) i sz = some (.rp (f (atI l i))) := by
  simp [nthE, h0, at_get h0 h1, hf]
theorem get_map {f : α → List AV} (h0 : 0 ≤ i) (h1 : i < l.length) : (l.map f)[i.toNat]? = some (f (atI l i)) := by
  simp [at_get h0 h1]
theorem closed_map {f : α → List AV} (hf : ∀ x, closedAll [] (f x) = true) : ∀ c ∈ l.map f, closedAll [] c = true := by
  intro c hc
  obtain ⟨t, _, rfl⟩ := List.mem_map.1 hc
  exact hf t
theorem own_ix {P : Program} {e : TypeId} {X : List (List AV)} {n sz : Nat} {i : Int} (hc : P.cellsOf e = sz) (h0 : 0 ≤ i) (h1 : i < n) (id : Nat) : ixSl P (some ⟨e, X⟩) id 0 n i sz = some (.ptr id i.toNat 0) := by
  simp only [ixSl, Option.bind_some]
  rw [if_pos ⟨h0, h1, hc⟩]
  simp
theorem own_cel {e : TypeId} {X : List (List AV)} {j off : Nat} {c : List AV} (hX : X[j]? = some c) (ho : off ≤ c.length) : ptrCells (some ⟨e, X⟩) j off = some (c.drop off) := by
  simp only [ptrCells, Option.bind_some, hX]
  rw [if_pos ho]
theorem own_sto {e : TypeId} {f : α → List AV} {j off sz : Nat} {y : AV} {x : α} (hx : l[j]? = some x) (v : α) (hy : y.cells.length = sz) (ho : off + sz ≤ (f x).length) (h1 : y.cells.all AV.one = true) (hs : spl (f x) off y.cells = f v) :
    storeRow (some ⟨e, l.map f⟩) j off sz y = some ⟨e, (l.set j v).map f⟩ := by
  have hX : (l.map f)[j]? = some (f x) := by simp [hx]
  simp only [storeRow, Option.bind_some, hX]
  rw [if_pos ⟨hy, ho, h1⟩, hs, List.map_set]
end
/-! ### Cutting -/
theorem cutRows_cons {ks l : List Nat} {T : Table} {k : Nat} {e : TypeId} {X : List (List AV)} {R : List (Option Row)} (hT : T k = some ⟨e, X⟩) (hX : ∀ c ∈ X, closedAll [] c = true) (h : cutRows ks T l = R) : cutRows ks T (k :: l) = some ⟨e, X⟩ :: R := by
  have h1 : closedEls ks X = true := by
    unfold closedEls
    exact List.all_eq_true.2 fun c hc => closed_ups c (hX c hc)
  have h2 : renEls (newName ks 0) X = X := by
    unfold renEls
    conv => rhs; rw [← List.map_id X]
    exact List.map_congr_left fun c hc => rens_nil _ c (hX c hc)
  simp only [cutRows, hT, h1, h2, if_true, h]
/-! ### Appending -/
theorem app_gen {P : Program} {T : Table} {id k0 n n' sz b : Nat} {t u e : TypeId} {du : TypeDesc} {z : Value} {X Y news : List (List AV)} {x : AV} (hu : P.underlying t = some (.slice e)) (hu2 : P.underlying u = some du) (hd : srcT du = true) (hti : tinfo P e = some (some z, sz, b)) (h0 : 0 < sz) (hz : z.cells.size = sz) (hb : b ≤ 1000)
    (hT0 : T k0 = some ⟨e, X⟩) (hfit : srcFit P (T.set k0 (some ⟨e, X.take n⟩)) sz x = true) (hsrc : srcEls (T.set k0 (some ⟨e, X.take n⟩)) x = some news) (hall : ∀ c ∈ news, c.length = sz) (hn : n ≤ X.length) (hn' : n' = n + news.length) (hY : Y = X.take n ++ news) (hle : n' ≤ 100000000) :
    evAppend P T id t u (.sl k0 0 n) x = some (.sl id 0 n', (T.set k0 none).set id (some ⟨e, Y⟩)) := by
  have hm : (100000000 : Nat) ≤ maxLen := by decide
  have h1 : n' * b ≤ 140737488355328 := Nat.le_trans (Nat.mul_le_mul hle hb) (by decide)
  have h2 : n' ≤ maxLen := by omega
  have ht : trimS T (.sl k0 0 n) = T.set k0 (some ⟨e, X.take n⟩) := by simp [trimS, hT0]
  have hk : (T.set k0 (some ⟨e, X.take n⟩)) k0 = some ⟨e, X.take n⟩ := if_pos rfl
  have hl : 0 + n = (X.take n).length := by rw [List.length_take]; omega
  have hss : ((T.set k0 (some ⟨e, X.take n⟩)).set k0 none) = T.set k0 none := by
    funext k; unfold Table.set; split <;> rfl
  subst hn' hY
  simp only [evAppend, ht, evApp0, hu, hti, hu2]
  rw [if_pos ⟨h0, hd, hfit, hz⟩, hsrc]
  simp only [Option.bind_some]
  rw [if_pos hall]
  simp only [hk, Option.bind_some]
  rw [if_pos ⟨trivial, hl⟩, if_pos ⟨h1, h2⟩, hss, List.drop_zero]
/-- One element more. -/
theorem app_tip {P : Program} {T : Table} {id k0 k n n' sz b : Nat} {t e : TypeId} {z : Value} {X Y : List (List AV)} {c : List AV} (hu : P.underlying t = some (.slice e)) (hti : tinfo P e = some (some z, sz, b)) (hco : P.cellsOf e = sz) (h0 : 0 < sz) (hz : z.cells.size = sz) (hb : b ≤ 1000)
    (hT0 : T k0 = some ⟨e, X⟩) (hT : T k = some ⟨e, [c]⟩) (hne : k ≠ k0) (hc : c.length = sz) (hn : n ≤ X.length) (hn' : n' = n + 1) (hY : Y = X.take n ++ [c]) (hle : n' ≤ 100000000) :
    evAppend P T id t t (.sl k0 0 n) (.sl k 0 1) = some (.sl id 0 n', (T.set k0 none).set id (some ⟨e, Y⟩)) := by
  have hk : (T.set k0 (some ⟨e, X.take n⟩)) k = some ⟨e, [c]⟩ := by unfold Table.set; rw [if_neg hne]; exact hT
  exact app_gen hu hu rfl hti h0 hz hb hT0 (by simp [srcFit, hk, hco]) (by simp [srcEls, hk]) (by simpa using hc) hn (by simpa using hn') hY hle
/-- Elements that stay. -/
theorem app_ro {P : Program} {T : Table} {id k0 n n' sz b : Nat} {t u e : TypeId} {z : Value} {X Y R : List (List AV)} (hu : P.underlying t = some (.slice e)) (hu2 : P.underlying u = some (.slice e)) (hti : tinfo P e = some (some z, sz, b)) (h0 : 0 < sz) (hz : z.cells.size = sz) (hb : b ≤ 1000)
    (hT0 : T k0 = some ⟨e, X⟩) (hall : ∀ c ∈ R, c.length = sz) (hn : n ≤ X.length) (hn' : n' = n + R.length) (hY : Y = X.take n ++ R) (hle : n' ≤ 100000000) :
    evAppend P T id t u (.sl k0 0 n) (.ro R) = some (.sl id 0 n', (T.set k0 none).set id (some ⟨e, Y⟩)) :=
  app_gen hu hu2 rfl hti h0 hz hb hT0 rfl rfl hall hn hn' hY hle
/-- Elements of another row. -/
theorem app_sl {P : Program} {T : Table} {id k0 k n m n' sz b : Nat} {t u e : TypeId} {z : Value} {X Y R : List (List AV)} (hu : P.underlying t = some (.slice e)) (hu2 : P.underlying u = some (.slice e)) (hti : tinfo P e = some (some z, sz, b)) (hco : P.cellsOf e = sz) (h0 : 0 < sz) (hz : z.cells.size = sz) (hb : b ≤ 1000)
    (hT0 : T k0 = some ⟨e, X⟩) (hT : T k = some ⟨e, R⟩) (hne : k ≠ k0) (hall : ∀ c ∈ R, c.length = sz) (hn : n ≤ X.length) (hm : m ≤ R.length) (hn' : n' = n + m) (hY : Y = X.take n ++ R.take m) (hle : n' ≤ 100000000) :
    evAppend P T id t u (.sl k0 0 n) (.sl k 0 m) = some (.sl id 0 n', (T.set k0 none).set id (some ⟨e, Y⟩)) := by
  have hk : (T.set k0 (some ⟨e, X.take n⟩)) k = some ⟨e, R⟩ := by unfold Table.set; rw [if_neg hne]; exact hT
  exact app_gen hu hu2 rfl hti h0 hz hb hT0 (by simp [srcFit, hk, hco]) (by simp only [srcEls, hk, Option.bind_some]; rw [if_pos (by omega)]; rfl) (fun c hc => hall c (List.mem_of_mem_take hc)) hn (by rw [hn', List.length_take]; omega) hY hle
def byteC (b : UInt8) : List AV := [.flat (.int .u8 b.toNat)]
/-- A string's bytes. -/
theorem app_str {P : Program} {T : Table} {id k0 n n' : Nat} {t u e b : Nat} {z : Value} {X Y : List (List AV)} {s : ByteArray} (hu : P.underlying t = some (.slice e)) (hu2 : P.underlying u = some .string) (hti : tinfo P e = some (some z, 1, b)) (hz : z.cells.size = 1) (hb : b ≤ 1000)
    (hT0 : T k0 = some ⟨e, X⟩) (hn : n ≤ X.length) (hn' : n' = n + s.size) (hY : Y = X.take n ++ s.data.toList.map byteC) (hle : n' ≤ 100000000) :
    evAppend P T id t u (.sl k0 0 n) (.flat (.string s)) = some (.sl id 0 n', (T.set k0 none).set id (some ⟨e, Y⟩)) :=
  app_gen hu hu2 rfl hti (by decide) hz hb hT0 rfl rfl (fun c hc => by obtain ⟨b, _, rfl⟩ := List.mem_map.1 hc; rfl) hn (by rw [hn', List.length_map]; rfl) hY hle
theorem trims_id {T : Table} {s : AV} (h : ∀ id off n, s ≠ .sl id off n) : trimS T s = T := by
  cases s <;> first | rfl | exact absurd rfl (h _ _ _)
theorem app_nil {P : Program} {T : Table} {id k n sz b : Nat} {t e : TypeId} {z : Value} {c : List AV} {Y : List (List AV)} (hu : P.underlying t = some (.slice e)) (hti : tinfo P e = some (some z, sz, b)) (hco : P.cellsOf e = sz) (h0 : 0 < sz) (hz : z.cells.size = sz) (hb : b ≤ 1000)
    (hT : T k = some ⟨e, [c]⟩) (hc : c.length = sz) (hn : n = 1) (hY : Y = [c]) : evAppend P T id t t (.flat (.slice none 0 0)) (.sl k 0 1) = some (.sl id 0 n, T.set id (some ⟨e, Y⟩)) := by
  have hm : (1 : Nat) ≤ maxLen := by decide
  have hb' : b ≤ 140737488355328 := by omega
  subst hn hY
  simp only [evAppend, trims_id (T := T) (s := .flat (.slice none 0 0)) (fun _ _ _ h => by cases h), evApp0, hu, hti, srcT, srcFit, hT, hco, srcEls, Option.bind_some]
  rw [if_pos ⟨h0, by simp, by simp, hz⟩]
  simp [hc, hm, hb']
/-! ### A round over a list -/
theorem at_round {α : Type} [Inhabited α] {l : List α} {X : List (List AV)} {f : α → List AV} {sz : Nat} {i : Int} (hX : X = l.map f) (hf : ∀ x, (f x).length = sz) (hs : l.length ≤ 1000000) (h : At l i) (hc : decide (i < (l.length : Int)) = true) :
    nthE X i sz = some (.rp (f (atI l i))) ∧ arI .add .i64 i 1 = i + 1 ∧ At l (i + 1) ∧ left l.length (i + 1) < left l.length i ∧ atI l i ∈ l ∧ l.drop i.toNat = atI l i :: l.drop (i + 1).toNat ∧ l.take (i + 1).toNat = l.take i.toNat ++ [atI l i] := by
  obtain ⟨_, h0, h1⟩ := at_lt h hc
  obtain ⟨q1, q2⟩ := at_step h hc
  exact ⟨by rw [hX]; exact nth_map hf h0 h1, at_add hs h hc, q1, q2, at_mem h0 h1, drop_next h0 h1, take_next h0 h1⟩
theorem cutRows_box {ks l : List Nat} {T : Table} {k : Nat} {e : TypeId} {X X' : List (List AV)} {R : List (Option Row)} (hT : T k = some ⟨e, X⟩) (h1 : closedEls ks X = true) (h2 : renEls (newName ks 0) X = X') (h : cutRows ks T l = R) : cutRows ks T (k :: l) = some ⟨e, X'⟩ :: R := by
  simp only [cutRows, hT, h1, if_true, h, h2]
theorem cutRows_none {ks l : List Nat} {T : Table} {k : Nat} {R : List (Option Row)} (hT : T k = none) (h : cutRows ks T l = R) : cutRows ks T (k :: l) = none :: R := by
  simp only [cutRows, hT, h]
theorem renRows_nil (m : Nat → Nat) : renRows m [] = [] := rfl
theorem renRows_cons {m : Nat → Nat} {e : TypeId} {X : List (List AV)} {R R' : List (Option Row)} (hX : ∀ c ∈ X, closedAll [] c = true) (h : renRows m R = R') : renRows m (some ⟨e, X⟩ :: R) = some ⟨e, X⟩ :: R' := by
  have h2 : X.map (rens m) = X := by
    conv => rhs; rw [← List.map_id X]
    exact List.map_congr_left fun c hc => rens_nil _ c (hX c hc)
  simp only [renRows] at h
  simp only [renRows, List.map_cons, h, Option.map_some, renRow, h2]
theorem renRows_box {m : Nat → Nat} {e : TypeId} {X X' : List (List AV)} {R R' : List (Option Row)} (hX : X.map (rens m) = X') (h : renRows m R = R') : renRows m (some ⟨e, X⟩ :: R) = some ⟨e, X'⟩ :: R' := by
  simp only [renRows] at h
  simp only [renRows, List.map_cons, h, Option.map_some, renRow, hX]
theorem renRows_none {m : Nat → Nat} {R R' : List (Option Row)} (h : renRows m R = R') : renRows m (none :: R) = none :: R' := by
  simp only [renRows] at h
  simp only [renRows, List.map_cons, h, Option.map_none]
/-- A row of zeroes. -/
theorem mak_zero {P : Program} {T : Table} {id sz b : Nat} {t e : TypeId} {z : Value} {n : Nat} {k k' : IntKind} (hu : P.underlying t = some (.slice e)) (hti : tinfo P e = some (some z, sz, b)) (h0 : 0 < sz) (hz : (zeroAV z).length = sz) (h1 : (zeroAV z).all AV.one = true) (hb : b ≤ 1000) (hn : n ≤ 1000000) :
    evMake P T id t (.flat (.int k n)) (.flat (.int k' n)) = some (.sl id 0 n, T.set id (some ⟨e, List.replicate n (zeroAV z)⟩)) := by
  have hm : (b : Int) * n ≤ 281474976710656 := by
    have : b * n ≤ 1000 * 1000000 := Nat.mul_le_mul hb hn
    have : ((b * n : Nat) : Int) ≤ 1000000000 := by omega
    rw [Int.natCast_mul] at this
    omega
  simp only [evMake, hu, hti]
  rw [if_pos ⟨Int.le_refl _, by omega, hm, by omega, h0, hz, h1⟩]
  simp
/-- .. with room for more. -/
theorem mak_cap {P : Program} {T : Table} {id sz b : Nat} {t e : TypeId} {z : Value} {n m : Nat} {k k' : IntKind} (hu : P.underlying t = some (.slice e)) (hti : tinfo P e = some (some z, sz, b)) (h0 : 0 < sz) (hz : (zeroAV z).length = sz) (h1 : (zeroAV z).all AV.one = true) (hb : b ≤ 1000) (hnm : n ≤ m) (hn : m ≤ 1000000) :
    evMake P T id t (.flat (.int k n)) (.flat (.int k' m)) = some (.sl id 0 n, T.set id (some ⟨e, List.replicate m (zeroAV z)⟩)) := by
  have hm : (b : Int) * m ≤ 281474976710656 := by
    have : b * m ≤ 1000 * 1000000 := Nat.mul_le_mul hb hn
    have : ((b * m : Nat) : Int) ≤ 1000000000 := by omega
    rw [Int.natCast_mul] at this
    omega
  simp only [evMake, hu, hti]
  rw [if_pos ⟨by omega, by omega, hm, by omega, h0, hz, h1⟩]
  simp
/-! ### Cutting slices -/
theorem bnd_lo {n m : Nat} {k : IntKind} {l : Int} (h0 : 0 ≤ l) (h1 : l ≤ n) : bndsA n m (some (.flat (.int k l))) none = some (l.toNat, n) := by
  simp only [bndsA, hiA, loA, intOf, Option.bind_some]
  rw [if_pos ⟨h0, h1⟩]; rfl
theorem bnd_hi {n m : Nat} {k : IntKind} {h : Int} (h0 : 0 ≤ h) (h1 : h ≤ m) : bndsA n m none (some (.flat (.int k h))) = some (0, h.toNat) := by
  simp only [bndsA, hiA, loA, intOf, Option.bind_some]
  rw [if_pos ⟨h0, h1⟩]; rfl
theorem bnd_both {n m : Nat} {k k' : IntKind} {l h : Int} (h0 : 0 ≤ l) (h1 : l ≤ h) (h2 : h ≤ m) : bndsA n m (some (.flat (.int k l))) (some (.flat (.int k' h))) = some (l.toNat, h.toNat) := by
  simp only [bndsA, hiA, loA, intOf, Option.bind_some]
  rw [if_pos ⟨by omega, h2⟩]
  simp only [Option.bind_some]
  rw [if_pos ⟨h0, by omega⟩]; rfl
theorem slc_ro {P : Program} {T : Table} {t e : TypeId} {z : Option Value} {sz b l h : Nat} {X : List (List AV)} {lo hi : Option AV} (hu : P.underlying t = some (.slice e)) (hti : tinfo P e = some (z, sz, b)) (hall : ∀ c ∈ X, c.length = sz) (hb : bndsA X.length X.length lo hi = some (l, h)) :
    evSlice P T t (.ro X) lo hi = some (.ro ((X.take h).drop l)) := by
  simp only [evSlice, hu, hti]
  rw [if_pos hall, hb]; rfl
theorem slc_sl {P : Program} {T : Table} {t e e' : TypeId} {z : Option Value} {id n sz b l h : Nat} {X : List (List AV)} {lo hi : Option AV} (hu : P.underlying t = some (.slice e)) (hti : tinfo P e = some (z, sz, b)) (hT : T id = some ⟨e', X⟩) (hco : P.cellsOf e' = sz) (hn : n ≤ X.length) (hb : bndsA n X.length lo hi = some (l, h)) :
    evSlice P T t (.sl id 0 n) lo hi = some (.sl id l (h - l)) := by
  simp only [evSlice, hu, hti, hT, Option.bind_some]
  rw [if_pos ⟨by omega, hco⟩, Nat.sub_zero, hb]
  simp
/-! ### Results -/
theorem leaves_own {P : Program} {fn : Func} {e : TypeId} {X : List (List AV)} {st : St} {k n : Nat} (h : resA P fn st = some (.sl k 0 n)) (hT : st.T k = some ⟨e, X⟩) (hX : ∀ c ∈ X, closedAll [] c = true) : G.Leaves P fn (fun k => .sl k 0 n) (fun _ => [⟨e, X⟩]) st :=
  G.Leaves.row h hT hX
theorem leaves_nil {P : Program} {fn : Func} {e : TypeId} {X : List (List AV)} {st : St} {n : Nat} (t : Nat) (hr : fn.results.toList = [.tmp t]) (h : st.s t = .flat (.slice none 0 0)) (hX : X = []) (hn : n = 0) : G.Leaves P fn (fun k => .sl k 0 n) (fun _ => [⟨e, X⟩]) st := by
  subst hX hn
  exact G.Leaves.nil t e hr h
/-- A slice that has nothing, nil or not. -/
theorem acalls_empty {P : Program} {f : FuncId} {val : Nat → AV} {rows : Nat → List Row} (h : ∀ A c, ACalls P f [.flat (.slice A 0 c)] val rows) : ACalls P f [.ro []] val rows := by
  refine ⟨(h none 0).1, fun n w L vs hs hv => ?_⟩
  have h0 := hv 0 (.ro []) rfl
  have h0' : ∃ A c, vs.getD 0 undef = .slice A 0 c := by
    generalize vs.getD 0 undef = v at h0
    cases h0 with
    | ro sz U hn hc hs hA h1 hh => exact ⟨_, _, by rw [hn]; rfl⟩
  obtain ⟨A, c, he⟩ := h0'
  refine (h A c).2 n w L vs hs fun i x hx => ?_
  match i, hx with
  | 0, hx =>
    obtain rfl := Option.some.inj hx
    rw [he]
    exact .flat _ rfl
  | i + 1, hx => simp at hx
/-! ### Rows of one's own, handed on -/
def Deeps (T : Table) (ids : List Nat) : List AV → List AV → Prop
  | [], [] => True
  | x :: l, y :: r => Deep T ids x y ∧ Deeps T ids l r
  | _, _ => False
theorem deeps_len {T : Table} {ids : List Nat} : ∀ {l r : List AV}, Deeps T ids l r → l.length = r.length ∧ ∀ (i : Nat) (x y : AV), l[i]? = some x → r[i]? = some y → Deep T ids x y
  | [], [], _ => ⟨rfl, fun i x y h => by simp at h⟩
  | x :: l, [], h => h.elim
  | [], y :: r, h => h.elim
  | x :: l, y :: r, h => by
    obtain ⟨h1, h2⟩ := deeps_len h.2
    refine ⟨by simp [h1], fun i a b ha hb => ?_⟩
    cases i with
    | zero => simp at ha hb; subst ha hb; exact h.1
    | succ i => simp at ha hb; exact h2 i a b ha hb
theorem deep_agg {T : Table} {ids : List Nat} {l r : List AV} (h : Deeps T ids l r) : Deep T ids (.agg l) (.agg r) := .agg (deeps_len h).1 (deeps_len h).2
theorem hands_deep {T : Table} {ids : List Nat} {args args' : List AV} {val : AV} {rows : List Row} (h : Deeps T ids args args') (hv : val.noRo = true) (hr : ∀ r ∈ rows, ∀ e ∈ r.els, ∀ x ∈ e, x.noRo1 = true) : Hands T ids args args' val rows :=
  .inr ⟨deeps_len h, hv, hr⟩
def readRow (X : List (List AV)) : Prop := ∀ c ∈ X, ∀ x ∈ c, x.noId = true
def flatRow (X : List (List AV)) : Prop := ∀ c ∈ X, ∀ x ∈ c, x.noId = true ∧ x.noRo1 = true
theorem flatRow.read {X : List (List AV)} (h : flatRow X) : readRow X := fun c hc x hx => (h c hc x hx).1
theorem deep_row {T : Table} {ids : List Nat} {id n : Nat} {e : TypeId} {X : List (List AV)} (hid : id ∈ ids) (hT : T id = some ⟨e, X⟩) (hn : n = X.length) (hX : readRow X) : Deep T ids (.sl id 0 n) (.ro X) := by
  subst hn
  refine .sl hid hT (by simp) rfl (fun i e e' h1 h2 => ?_) fun i e e' j x y h1 h2 hx hy => ?_
  · simp only [List.drop_zero] at h1; rw [h1] at h2; rw [Option.some.inj h2]
  · simp only [List.drop_zero] at h1; rw [h1] at h2; rw [← Option.some.inj h2, hx] at hy
    obtain rfl := Option.some.inj hy
    exact .id (hX e (List.mem_of_getElem? h1) x (List.mem_of_getElem? hx))
def DeepEls (T : Table) (ids : List Nat) : List (List AV) → List (List AV) → Prop
  | [], [] => True
  | e :: l, e' :: r => Deeps T ids e e' ∧ DeepEls T ids l r
  | _, _ => False
theorem deepEls_len {T : Table} {ids : List Nat} : ∀ {l r : List (List AV)}, DeepEls T ids l r → l.length = r.length ∧ ∀ (i : Nat) (x y : List AV), l[i]? = some x → r[i]? = some y → Deeps T ids x y
  | [], [], _ => ⟨rfl, fun i x y h => by simp at h⟩
  | x :: l, [], h => h.elim
  | [], y :: r, h => h.elim
  | x :: l, y :: r, h => by
    obtain ⟨h1, h2⟩ := deepEls_len h.2
    refine ⟨by simp [h1], fun i a b ha hb => ?_⟩
    cases i with
    | zero => simp at ha hb; subst ha hb; exact h.1
    | succ i => simp at ha hb; exact h2 i a b ha hb
/-- A row of rows, as its callee reads it. -/
theorem deep_els {T : Table} {ids : List Nat} {id n : Nat} {e : TypeId} {X Y : List (List AV)} (hid : id ∈ ids) (hT : T id = some ⟨e, X⟩) (hn : n = X.length) (h : DeepEls T ids X Y) : Deep T ids (.sl id 0 n) (.ro Y) := by
  subst hn
  obtain ⟨h1, h2⟩ := deepEls_len h
  refine .sl hid hT (by simp) h1.symm (fun i e e' q1 q2 => ?_) fun i e e' j x y q1 q2 hx hy => ?_
  · simp only [List.drop_zero] at q1
    exact (deeps_len (h2 i e e' q1 q2)).1
  · simp only [List.drop_zero] at q1
    exact (deeps_len (h2 i e e' q1 q2)).2 j x y hx hy
/-- A row that is longer than the slice. -/
theorem deep_part {T : Table} {ids : List Nat} {id n : Nat} {e : TypeId} {X : List (List AV)} (hid : id ∈ ids) (hT : T id = some ⟨e, X⟩) (hn : n ≤ X.length) (hX : readRow X) : Deep T ids (.sl id 0 n) (.ro (X.take n)) := by
  refine .sl hid hT (by simpa using hn) (by rw [List.length_take]; omega) (fun i e e' h1 h2 => ?_) fun i e e' j x y h1 h2 hx hy => ?_
  all_goals
    simp only [List.drop_zero] at h1
    rw [List.getElem?_take] at h2
    split at h2
    · rw [h1] at h2
      obtain rfl := Option.some.inj h2
      first
        | rfl
        | (rw [hx] at hy; obtain rfl := Option.some.inj hy; exact .id (hX e (List.mem_of_getElem? h1) x (List.mem_of_getElem? hx)))
    · cases h2
theorem noRo_flat {e : TypeId} {X : List (List AV)} (hX : flatRow X) : ∀ r ∈ [(⟨e, X⟩ : Row)], ∀ c ∈ r.els, ∀ x ∈ c, x.noRo1 = true := by
  intro r hr c hc x hx
  simp only [List.mem_cons, List.not_mem_nil, or_false] at hr
  subst hr
  exact (hX c hc x hx).2
theorem noRo_flat2 {e e2 : TypeId} {X X2 : List (List AV)} (hX : flatRow X) (hX2 : flatRow X2) : ∀ r ∈ [(⟨e, X⟩ : Row), ⟨e2, X2⟩], ∀ c ∈ r.els, ∀ x ∈ c, x.noRo1 = true := by
  intro r hr c hc x hx
  simp only [List.mem_cons, List.not_mem_nil, or_false] at hr
  rcases hr with rfl | rfl
  · exact (hX c hc x hx).2
  · exact (hX2 c hc x hx).2
theorem flat_map {α : Type} {f : α → List AV} (hf : ∀ a, ∀ x ∈ f a, x.noId = true ∧ x.noRo1 = true) (l : List α) : flatRow (l.map f) := by
  intro c hc x hx
  obtain ⟨t, _, rfl⟩ := List.mem_map.1 hc
  exact hf t x hx
/-! ### Letters -/
theorem ba_beq (s t : ByteArray) : (s == t) = true ↔ s = t := by
  cases s with | mk a => cases t with | mk b =>
  show (a == b) = true ↔ _
  simp
/-! ### A law's arguments -/
def fieldsOf : TypeDesc → Option (List (Nat × Nat))
  | .struct fs => some (fs.toList.map fun f => (f.type, f.offset))
  | _ => none
theorem fld_of {P : Program} {t : TypeId} {l : List (Nat × Nat)} (h : (P.underlying t).bind fieldsOf = some l) : ∃ fs, P.underlying t = some (.struct fs) ∧ fs.toList.map (fun f => (f.type, f.offset)) = l := by
  cases hu : P.underlying t with
  | none => rw [hu] at h; cases h
  | some d =>
    rw [hu] at h
    cases d with
    | struct fs => exact ⟨fs, rfl, Option.some.inj h⟩
    | _ => cases h
theorem list_of {α : Type} {f : α → List AV} {p : α → Prop} : ∀ {X : List (List AV)}, (∀ c ∈ X, ∃ t, c = f t ∧ p t) → ∃ l : List α, X = l.map f ∧ ∀ t ∈ l, p t
  | [], _ => ⟨[], rfl, fun t h => by simp at h⟩
  | c :: X, h => by
    obtain ⟨t, rfl, ht⟩ := h c (by simp)
    obtain ⟨l, rfl, hl⟩ := list_of (X := X) fun d hd => h d (by simp [hd])
    refine ⟨t :: l, rfl, fun u hu => ?_⟩
    rcases List.mem_cons.1 hu with rfl | hu
    · exact ht
    · exact hl u hu
variable {P : Program} {n : Nat} {t e : TypeId} {xs : List AV} {x : AV}
theorem shape_int {k : IntKind} (hu : P.underlying t = some (.int k)) (h : Shape P (n + 1) t xs) : ∃ m, xs = [.flat (.int k m)] ∧ (Lit.int k m).wf = true := by
  simp only [Shape, hu] at h; exact h
theorem shape_str (hu : P.underlying t = some .string) (h : Shape P (n + 1) t xs) : ∃ s, xs = [.flat (.string s)] ∧ s.size ≤ maxLen := by
  simp only [Shape, hu] at h; exact h
theorem shape_bool (hu : P.underlying t = some .bool) (h : Shape P (n + 1) t xs) : ∃ b, xs = [.flat (.bool b)] := by
  simp only [Shape, hu] at h; exact h
theorem shape_slice {α : Type} {f : α → List AV} {p : α → Prop} (hu : P.underlying t = some (.slice e)) (hf : ∀ {c}, Shape P n e c → ∃ a, c = f a ∧ p a) (h : Shape P (n + 1) t xs) : ∃ l : List α, xs = [.ro (l.map f)] ∧ l.length ≤ maxLen ∧ ∀ a ∈ l, p a := by
  simp only [Shape, hu] at h
  obtain ⟨X, rfl, hl, hX⟩ := h
  obtain ⟨l, rfl, hp⟩ := list_of (f := f) (p := p) fun c hc => hf (hX c hc)
  exact ⟨l, rfl, by simpa using hl, hp⟩
theorem shape_struct {l : List (Nat × Nat)} {sz : Nat} (hu : (P.underlying t).bind fieldsOf = some l) (hc : P.cellsOf t = sz) (h : Shape P (n + 1) t xs) : xs.length = sz ∧ ∀ p ∈ l, Shape P n p.1 ((xs.drop p.2).take (P.cellsOf p.1)) := by
  obtain ⟨fs, hu', rfl⟩ := fld_of hu
  simp only [Shape, hu'] at h
  refine ⟨h.1.trans hc, fun p hp => ?_⟩
  obtain ⟨f, hf, rfl⟩ := List.mem_map.1 hp
  exact h.2 f hf
theorem arg_one {d : TypeDesc} (hu : P.underlying t = some d) (hd : fieldsOf d = none) (ha : argA P t xs x) : xs = [x] := by
  unfold argA at ha
  rw [hu] at ha
  cases d <;> first | exact ha | cases hd
theorem arg_agg {l : List (Nat × Nat)} (hu : (P.underlying t).bind fieldsOf = some l) (ha : argA P t xs x) : x = .agg xs := by
  obtain ⟨fs, hu', rfl⟩ := fld_of hu
  unfold argA at ha
  rw [hu'] at ha
  exact ha
end Go.Proofs.Ytnceadbfgpiaaaa.U
