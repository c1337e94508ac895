/- A law's row from its contract: called with what the row's arguments are told as, it returns true, and all that was there stands. Plain theorems over any program. -/
import Derived.Test.YtnceadbfgpiaaaaG16
import Derived.OpenShut
import Derived.ChangeShapes
namespace Go.Proofs.Ytnceadbfgpiaaaa.G
set_option linter.unusedVariables false
set_option linter.unusedSimpArgs false
open Go Go.RowKit Go.ChangeShapes Go.WideShapes
variable {P : Program} {H : Type} {enc : TypeId × Value → H} {W W' : World} {base : Nat} {sp : Nat → Bool} {held : Bool}

def slicesB (P : Program) : Bool := (List.range P.types.size).all fun t => match P.underlying t with
  | some (.slice e) => decide (0 < P.cellsOf e)
  | _ => true

/-- An argument, told: a structure by its cells, all else as its one cell. -/
def argA (P : Program) (t : TypeId) (xs : List AV) (x : AV) : Prop := match P.underlying t with
  | some (.struct _) => x = .agg xs
  | _ => xs = [x]

theorem arg_told {n : Nat} {t : TypeId} (hp : plainB P n t = true) {r : Reach} {b0 : Nat} {v : Value} {d : DataW H} {ps : List MemPlace} (hval : Value.okWide P W r b0 t v) (h : DataW.Trod enc P W base sp held t v d ps) :
    ∃ xs x, Shape P n t xs ∧ argA P t xs x ∧ VRel W (fun _ => False) Map.empty v x := by
  obtain ⟨fuel, h⟩ := h
  obtain ⟨xs, h1, h2, h3⟩ := told_of_trod n t hp fuel _ _ h
  have single : ∀ {d : TypeDesc}, P.underlying t = some d → (∀ fs, d ≠ .struct fs) → notAgg v = true → ∃ xs x, Shape P n t xs ∧ argA P t xs x ∧ VRel W (fun _ => False) Map.empty v x := by
    intro d ht hd hv
    have hc : v.cells.toList = [v] := by cases v <;> first | rfl | cases hv
    rw [hc] at h1
    have hl : xs.length = 1 := by rw [← h1.1]; rfl
    obtain ⟨x, rfl⟩ := List.length_eq_one_iff.1 hl
    obtain ⟨u, hu, _, hr⟩ := h1.2 0 x rfl
    simp at hu; subst hu
    refine ⟨[x], x, h3, ?_, hr⟩
    unfold argA
    rw [ht]
    split
    · rename_i fs he; exact absurd (Option.some.inj he) (hd fs)
    · rfl
  cases n with
  | zero => cases hp
  | succ n =>
    unfold plainB at hp
    split at hp
    · rename_i ht
      refine single ht (by simp) ?_
      simp only [Value.okWide, Cell.okWide, Cell.ok, ht] at hval
      cases v <;> first | rfl | simp at hval
    · rename_i ht
      refine single ht (by simp) ?_
      simp only [Value.okWide, Cell.okWide, Cell.ok, ht] at hval
      cases v <;> first | rfl | simp at hval
    · rename_i ht
      refine single ht (by simp) ?_
      simp only [Value.okWide, Cell.okWide, Cell.ok, ht] at hval
      cases v <;> first | rfl | simp at hval
    · rename_i ht
      refine single ht (by simp) ?_
      simp only [Value.okWide, Cell.okWide, Cell.ok, ht] at hval
      cases v <;> first | rfl | simp at hval
    · rename_i fs ht
      simp only [Value.okWide, ht] at hval
      obtain ⟨cs, rfl, hs, _⟩ := hval
      refine ⟨xs, .agg xs, h3, by unfold argA; rw [ht], .agg (by simpa [Value.cells] using h1.1) fun i y hy => ?_⟩
      obtain ⟨u, hu, _, hr⟩ := h1.2 i y hy
      have : cs[i]? = some u := by simpa [Value.cells] using hu
      have e : cs.getD i undef = u := by simp [Array.getD_eq_getD_getElem?, this]
      rw [e]; exact hr
    · cases hp

/-- The row's last step. -/
theorem law_fin {fn : Func} {s : ChangeSpec} {f : FuncId} {args : Array Value} {ds gs : List (DataW H)} {before : List MemPlace} {apart : Bool} {tb : TypeId} (hl : laidOutB P = true) (hm : mapsRowed P = true) (hz : slicesB P = true)
    (hv : s.vars = []) (hres : fn.resultTypes = #[tb]) (htb : P.underlying tb = some .bool) (hT : ∀ t ∈ fn.params.toList, t < P.types.size) (hfn : s.fn H (ds ++ gs) = { results := [.lit (.bool true)], args := ds })
    (hW : DataW.Whole enc P fn.params.toList s.vars apart W args.toList ds gs before)
    {xs : List AV} (hsz : args.size = xs.length) (hx : ∀ (i : Nat) (x : AV), xs[i]? = some x → VRel W (fun _ => False) Map.empty (args.getD i undef) x) (hA : ACalls P f xs (fun _ => .flat (.bool true)) (fun _ => [])) :
    Calls P f args W fun e W' => ∃ v, e = .returned v ∧ s.post enc P fn apart true false false W args v W' := by
  refine (hA.2 0 W (fun _ => False) args hsz hx).mono ?_
  rintro e W' ⟨v, L', μ', rfl, hvr, _, _, h1, h2, h3, h4, h5, _, _⟩
  have hb : Below W.heap.size W W' := ⟨h1, h2, h3, h4, h5⟩
  obtain rfl := flat_eq hvr
  have hW' := hW
  obtain ⟨p, q, hA0, hV, rfl, hfz, hnd⟩ := hW
  have hV' := hV
  rw [hv] at hV
  obtain ⟨hgs, hq⟩ := trodVars_none hV
  subst hq
  refine ⟨_, rfl, ds, gs, _, [], p, [], hW', ?_, ?_, ?_, hb.frame _, fun h => by cases h⟩
  · rw [hfn, hres]
    exact trodAll_mk1 (shut_bool htb _)
  · rw [hfn]
    have hk := DataW.TrodAll.respare (enc := enc) (w := W') (base := 0) (spare' := fun b => decide (b < W.heap.size)) (kids_rows hl hm) (fun t e ht hte => ?_) hT (trodAll_stand hb hA0) ?_
    · exact hk
    · simp only [slicesB, List.all_eq_true] at hz
      have := hz t (List.mem_range.2 ht)
      simpa [hte] using this
    · intro x hx
      simpa using hW'.lt x (by simp [hx])
  · rw [hfn, hv]
    rfl
end Go.Proofs.Ytnceadbfgpiaaaa.G
