/- A function that is handed rows of the caller's, one of which is nil there: its contract over an empty row is one over nil. Plain theorems over any program. -/
import Derived.Test.YtnceadbfgpiaaaaG22
namespace Go.Proofs.Ytnceadbfgpiaaaa.G
set_option linter.unusedVariables false
set_option linter.unusedSimpArgs false
open Go
variable {P : Program}

/-- The same cells, but for a nil that is told as an empty row. -/
def nilCells (n : Nat) (c0 c : List AV) : Prop := c.length = c0.length ∧ ∀ (j : Nat) (x : AV), c[j]? = some x → c0[j]? = some x ∨ (c0[j]? = some (.flat (.slice none 0 0)) ∧ x = .sl n 0 0)
def nilRow (n : Nat) (r0 r : Row) : Prop := r.elem = r0.elem ∧ r.els.length = r0.els.length ∧ ∀ (i : Nat) (c : List AV), r.els[i]? = some c → ∃ c0, r0.els[i]? = some c0 ∧ nilCells n c0 c

theorem pcalls_nil {f : FuncId} {m : Nat} {args : List AV} {R0 R0' : List Row} {val : AV} {R1 : List (Option Row)} {e : TypeId} (hm : m ≤ R0'.length) (hR : R0.length = R0'.length + 1) (hlast : R0[R0'.length]? = some ⟨e, []⟩)
    (hrows : ∀ (id : Nat) (r : Row), R0[id]? = some r → id < R0'.length → ∃ r0, R0'[id]? = some r0 ∧ nilRow R0'.length r0 r) (h : PCalls P f m args R0 val R1) : PCalls P f m args R0' val R1 := by
  refine ⟨h.1, fun w L μ vs hs hv hT hno => ?_⟩
  obtain ⟨n, hn⟩ : ∃ n, n = R0'.length := ⟨_, rfl⟩
  rw [← hn] at hm hR hlast hrows hno
  have hfr : μ n = none := hno n (Nat.le_refl _)
  have hμ : ∀ id q, μ id = some q → (μ.set n none) id = some q := fun id q hq => by
    unfold Map.set
    rw [if_neg (fun e => by rw [e, hfr] at hq; cases hq)]; exact hq
  have hμn : (μ.set n none) n = some none := if_pos rfl
  have hμ2 : ∀ id q, id ≠ n → (μ.set n none) id = some q → μ id = some q := fun id q hne hq => by
    unfold Map.set at hq
    rw [if_neg hne] at hq; exact hq
  have up : ∀ {v : Value} {x : AV}, VRel w L μ v x → VRel w L (μ.set n none) v x := fun h => h.mono (fun _ _ _ => rfl) (Nat.le_refl _) (fun _ _ h => h) hμ
  have nilv : ∀ {v : Value}, VRel w L μ v (.flat (.slice none 0 0)) → VRel w L (μ.set n none) v (.sl n 0 0) := fun h => by
    cases h with
    | flat v hv => exact .sl hμn ⟨rfl, rfl, rfl⟩
  have tabs : ∀ (R : List Row) id r, tabO (R.map some) id = some r → R[id]? = some r := fun R id r h => by
    unfold tabO at h
    rw [List.getElem?_map] at h
    cases hg : R[id]? with
    | none => rw [hg] at h; cases h
    | some r0 => rw [hg] at h; exact h
  have tabs2 : ∀ (R : List Row) id r, R[id]? = some r → tabO (R.map some) id = some r := fun R id r h => by
    unfold tabO
    rw [List.getElem?_map, h]; rfl
  have split : ∀ id r, tabO (R0.map some) id = some r → (id = n ∧ r = ⟨e, []⟩) ∨ (id ≠ n ∧ ∃ r0, tabO (R0'.map some) id = some r0 ∧ nilRow n r0 r) := fun id r h => by
    have h1 := tabs R0 id r h
    have hlt := (List.getElem?_eq_some_iff.1 h1).1
    by_cases he : id = n
    · subst he
      rw [hlast] at h1
      exact .inl ⟨rfl, (Option.some.inj h1).symm⟩
    · obtain ⟨r0, h2, h3⟩ := hrows id r h1 (by omega)
      exact .inr ⟨he, r0, tabs2 _ _ _ h2, h3⟩
  have hT0 : TRel P w L (μ.set n none) (tabO (R0.map some)) := by
    refine ⟨fun id r hr => ?_, fun id id' r r' p p' hr hr' hp hp' hne => ?_⟩
    · rcases split id r hr with ⟨rfl, rfl⟩ | ⟨hne, r0, h0, h1, h2, h3⟩
      · exact ⟨none, hμn, fun p hp => (by cases hp), fun _ => rfl⟩
      · obtain ⟨q, hq, hrow, hnil⟩ := hT.row id r0 h0
        refine ⟨q, hμ _ _ hq, fun p hp => ?_, fun hq => ?_⟩
        · have hr0 := hrow p hp
          obtain ⟨cur, hg, hsz, hc⟩ := hr0.cur
          refine ⟨⟨cur, by rw [h1]; exact hg, hsz, fun i c j x hi hx => ?_⟩, by rw [h2]; exact hr0.len, fun c hc' => ?_, by rw [h1]; exact hr0.szT, hr0.cap, hr0.live⟩
          · obtain ⟨c0, hc0, hl, hx0⟩ := h3 i c hi
            rcases hx0 j x hx with h | ⟨h, rfl⟩
            · obtain ⟨u, hu, hone, hv⟩ := hc i c0 j x hc0 h
              exact ⟨u, hu, hone, up hv⟩
            · obtain ⟨u, hu, hone, hv⟩ := hc i c0 j _ hc0 h
              exact ⟨u, hu, hone, nilv hv⟩
          · obtain ⟨i, hi⟩ := List.mem_iff_getElem?.1 hc'
            obtain ⟨c0, hc0, hl, _⟩ := h3 i c hi
            rw [hl]; exact hr0.sz c0 (List.mem_of_getElem? hc0)
        · have := hnil hq
          rw [this] at h2
          exact List.eq_nil_of_length_eq_zero h2
    · have n1 : id ≠ n := fun e => by rw [e, hμn] at hp; cases hp
      have n2 : id' ≠ n := fun e => by rw [e, hμn] at hp'; cases hp'
      rcases split id r hr with ⟨he, _⟩ | ⟨_, r0, h0, _⟩
      · exact absurd he n1
      rcases split id' r' hr' with ⟨he, _⟩ | ⟨_, r0', h0', _⟩
      · exact absurd he n2
      exact hT.apart id id' r0 r0' p p' h0 h0' (hμ2 _ _ n1 hp) (hμ2 _ _ n2 hp') hne
  refine (h.2 w L (μ.set n none) vs hs (fun i x hx => up (hv i x hx)) hT0 (fun id hid => ?_)).mono ?_
  · unfold Map.set
    rw [if_neg (by omega)]
    exact hno id (by omega)
  · rintro e' w' ⟨v, L', μ', rfl, h1, h2, h3, h4⟩
    refine ⟨v, L', μ', rfl, h1, h2, ⟨h3.os, h3.tape, h3.output, h3.size, fun b hb hn' => h3.block b hb fun id r p hr hp => ?_, h3.L, fun id q hid hq => h3.map id q hid (hμ _ _ hq), fun id r p hr hp => ?_⟩, h4⟩
    · have n1 : id ≠ n := fun e => by rw [e, hμn] at hp; cases hp
      rcases split id r hr with ⟨he, _⟩ | ⟨_, r0, h0, _⟩
      · exact absurd he n1
      · exact hn' id r0 p h0 (hμ2 _ _ n1 hp)
    · rcases h3.place id r p hr hp with hge | ⟨id0, r0, p0, q1, q2, q3⟩
      · exact .inl hge
      · have n1 : id0 ≠ n := fun e => by rw [e, hμn] at q2; cases q2
        rcases split id0 r0 q1 with ⟨he, _⟩ | ⟨_, r0', h0', _⟩
        · exact absurd he n1
        · exact .inr ⟨id0, r0', p0, h0', hμ2 _ _ n1 q2, q3⟩
end Go.Proofs.Ytnceadbfgpiaaaa.G
