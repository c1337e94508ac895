/- What the walks of Through and of its law stand on. No code is walked. -/
import Derived.Test.YtnceadbfgpiaaaaQ20
import Derived.Test.YtnceadbfgpiaaaaQP4
namespace Go.Proofs.Ytnceadbfgpiaaaa.C
open Go G U K I J F
set_option linter.unusedVariables false
set_option linter.unusedSimpArgs false
structure ThF (lt eq : Int → Int → Bool) (len : List (List AV) → Int) (nth : List (List AV) → Int → Nat → Option AV) (ar : BinOp → IntKind → Int → Int → Int) (nat : Nat → Int) (gv : AV) (EE FF X0 Rw O0 RR : List (List AV)) (n0 rn nr : Nat) (TA : Int → List (List AV) → Nat → Prop) : Prop where
  z : TA 0 O0 n0
  s1 : ACalls Try.prog 35 [gv] (fun k => .sl k 0 1) (fun _ => [⟨28, X0⟩])
  s2 : ACalls Try.prog 27 [gv] (fun k => .sl k 0 1) (fun _ => [⟨41, X0⟩])
  c1 : ACalls Try.prog 25 [gv, .agg [.ro EE, .ro FF], .ro X0] (fun k => .sl k 0 n0) (fun _ => [⟨28, O0⟩])
  c2 : ACalls Try.prog 26 [gv, .ro X0] (fun k => .sl k 0 n0) (fun _ => [⟨41, O0⟩])
  fx : flatRow X0 ∧ 1 = X0.length
  fl : ∀ i O n, TA i O n → flatRow O ∧ n = O.length
  cl : ∀ i O n, TA i O n → ∀ c ∈ O, closedAll [] c = true
  fin : ∀ i O n, TA i O n → lt i (len Rw) = false → O = RR ∧ n = rn
  rnd : ∀ i O n, TA i O n → lt i (len Rw) = true → ∃ (sb : Bool) (sv i2 : Int) (G1 O2 : List (List AV)) (n1 n2 : Nat), nth Rw i 2 = some (.rp [.flat (.bool sb), .flat (.int .i64 sv)]) ∧
    ACalls Try.prog 46 [gv, .ro O, .agg [.flat (.bool sb), .flat (.int .i64 sv)]] (fun k => .sl k 0 n1) (fun _ => [⟨28, G1⟩]) ∧ ACalls Try.prog 28 [gv, .ro O, .agg [.flat (.bool sb), .flat (.int .i64 sv)]] (fun k => .sl k 0 n1) (fun _ => [⟨41, G1⟩]) ∧ flatRow G1 ∧ n1 = G1.length ∧
    ACalls Try.prog 25 [gv, .agg [.ro EE, .ro FF], .ro G1] (fun k => .sl k 0 n2) (fun _ => [⟨28, O2⟩]) ∧ ACalls Try.prog 26 [gv, .ro G1] (fun k => .sl k 0 n2) (fun _ => [⟨41, O2⟩]) ∧ flatRow O2 ∧ ar .add .i64 i 1 = i2 ∧ nr - i2.toNat < nr - i.toNat ∧ (eq (nat n2) 0 = true → RR = [] ∧ rn = 0) ∧ TA i2 O2 n2
theorem cl_nil {R : Ru} {S : List ItemT} (h : CL R [] S) : S = [] := by
  have key : ∀ p d, ¬ KD R [] p d := by
    intro p d hk
    induction hk with
    | base h => obtain ⟨x, hx, _⟩ := h; cases hx
    | step _ _ _ ih => exact ih
  cases S with
  | nil => rfl
  | cons x S => exact absurd ((h.k x.prod x.dot).1 ⟨x, List.mem_cons_self .., rfl, rfl⟩) (key _ _)
section
variable {g : GramT} {E : List Bool} {F : List Nat}
theorem start_ok (g : GramT) : ∀ x ∈ startT g, okI64 x := by
  intro x hx
  rw [List.mem_singleton.1 hx]
  show bitN 63 < _
  decide
theorem chain_ex (hF : Sets F) (row : List SymT) : ∃ W : Nat → List ItemT, CL (rule g E F) (startT g) (W 0) ∧ (∀ i : Nat, CL (rule g E F) (ofT (goL g (W i) (atI row (i : Int)))) (W (i + 1))) ∧ (∀ i, ∀ x ∈ W i, okI64 x) ∧ ∀ i, (W i).length ≤ 1 + (i + 1) * g.prods.length := by
  have h : ∀ l : List ItemT, ∃ S, (∀ x ∈ l, okI64 x) → CL (rule g E F) l S ∧ (∀ x ∈ S, okI64 x) ∧ S.length ≤ l.length + g.prods.length := fun l => by
    by_cases hl : ∀ x ∈ l, okI64 x
    · obtain ⟨S, hS⟩ := cl_ex g E F l hF hl
      exact ⟨S, fun _ => hS⟩
    · exact ⟨[], fun h => absurd h hl⟩
  obtain ⟨f, hf⟩ := Classical.skolem.1 h
  have hs := hf (startT g) (start_ok g)
  refine ⟨fun i => Nat.rec (f (startT g)) (fun i w => f (ofT (goL g w (atI row (i : Int))))) i, hs.1, ?_⟩
  have hok : ∀ i : Nat, ∀ x ∈ (Nat.rec (f (startT g)) (fun i w => f (ofT (goL g w (atI row (i : Int))))) i : List ItemT), okI64 x := by
    intro i
    induction i with
    | zero => exact hs.2.1
    | succ i ih => exact (hf _ (ofT_okI (go_ok ih))).2.1
  refine ⟨fun i => (hf _ (ofT_okI (go_ok (hok i)))).1, hok, fun i => ?_⟩
  induction i with
  | zero =>
    have h1 := hs.2.2
    have h2 : (startT g).length = 1 := rfl
    show (f (startT g)).length ≤ _
    rw [Nat.zero_add, Nat.one_mul]
    omega
  | succ i ih =>
    have h1 := (hf _ (ofT_okI (go_ok (s := atI row (i : Int)) (g := g) (hok i)))).2.2
    have h2 := ofT_len (goL g (Nat.rec (f (startT g)) (fun i w => f (ofT (goL g w (atI row (i : Int))))) i : List ItemT) (atI row (i : Int)))
    have h3 := go_len (g := g) (s := atI row (i : Int)) (Nat.rec (f (startT g)) (fun i w => f (ofT (goL g w (atI row (i : Int))))) i : List ItemT)
    refine Nat.le_trans h1 ?_
    have h4 : (i + 1 + 1) * g.prods.length = (i + 1) * g.prods.length + g.prods.length := by rw [Nat.add_mul, Nat.one_mul]
    rw [h4]
    generalize (i + 1) * g.prods.length = z at ih ⊢
    have ih : (Nat.rec (f (startT g)) (fun i w => f (ofT (goL g w (atI row (i : Int))))) i : List ItemT).length ≤ 1 + z := ih
    omega
theorem thF_ok (row : List SymT) (hs : g.sorts.length ≤ 1000) (hp : g.prods.length ≤ 12) (hb : ∀ p ∈ g.prods, p.body.length ≤ 1000) (hr : row.length ≤ 12) :
    ∃ (W : Nat → List ItemT) (TA : Int → List (List AV) → Nat → Prop), ThF (fun a b => decide (a < b)) (fun a b => decide (a = b)) lenE nthE arI natI (gramV g) ((emptyT g.prods g.sorts.length).map boolC) ((firstT g.prods g.sorts.length).map setC) ((startT g).map itemC) (row.map symC) ((W 0).map itemC) ((W row.length).map itemC) (W 0).length (W row.length).length row.length TA ∧ (W row.length).length ≤ 1000000 := by
  have hok := first_ok g.prods g.sorts.length
  have hF : Sets (firstT g.prods g.sorts.length) := hok.1.2
  obtain ⟨W, w0, w1, w2, w3⟩ := chain_ex (g := g) (E := emptyT g.prods g.sorts.length) hF row
  have hlen : ∀ i, i ≤ row.length → (W i).length ≤ 400 := fun i hi => by
    have h1 := w3 i
    have h2 : (i + 1) * g.prods.length ≤ 13 * 12 := Nat.mul_le_mul (by omega) hp
    omega
  have hz : ∀ i, W i = [] → ∀ j, W (i + j) = [] := fun i h j => by
    induction j with
    | zero => exact h
    | succ j ih =>
      have h1 := w1 (i + j)
      rw [ih] at h1
      exact cl_nil h1
  have hsl : (startT g).length = 1 := rfl
  have hbnd : ∀ (l S : List ItemT), (∀ x ∈ l, okI64 x) → CL (rule g (emptyT g.prods g.sorts.length) (firstT g.prods g.sorts.length)) l S → S.length ≤ l.length + g.prods.length := fun l S hl h => by
    obtain ⟨S2, h1, _, h3⟩ := cl_ex g (emptyT g.prods g.sorts.length) (firstT g.prods g.sorts.length) l hF hl
    rw [cl_one h h1]; exact h3
  refine ⟨W, fun i O n => 0 ≤ i ∧ i ≤ row.length ∧ O = (W i.toNat).map itemC ∧ n = (W i.toNat).length, ?_, Nat.le_trans (hlen _ (Nat.le_refl _)) (by decide)⟩
  refine ⟨⟨Int.le_refl 0, by omega, rfl, rfl⟩, start35_calls g, start27_calls g, close_calls g _ _ (startT g) (W 0) hF (by omega) hb (by omega) (start_ok g) w0, refClose_calls g (startT g) (W 0) hs (by omega) hb (by omega) (start_ok g) w0 (hbnd _ _ (start_ok g) w0), ⟨flat_item _, rfl⟩,
    fun i O n h => ⟨by rw [h.2.2.1]; exact flat_item _, by rw [h.2.2.1, List.length_map]; exact h.2.2.2⟩, fun i O n h => by rw [h.2.2.1]; exact closed_map fun _ => rfl, fun i O n h hc => ?_, fun i O n h hc => ?_⟩
  · obtain ⟨i0, i1, rfl, rfl⟩ := h
    have hc : ¬ i < lenE (row.map symC) := of_decide_eq_false hc
    rw [len_map] at hc
    have e : i.toNat = row.length := by omega
    rw [e]
    exact ⟨rfl, rfl⟩
  · obtain ⟨i0, i1, rfl, rfl⟩ := h
    have hc : i < lenE (row.map symC) := of_decide_eq_true hc
    rw [len_map] at hc
    have hcast : ((i.toNat : Nat) : Int) = i := Int.toNat_of_nonneg i0
    have hst := w1 i.toNat
    rw [hcast] at hst
    have hgo : ∀ x ∈ ofT (goL g (W i.toNat) (atI row i)), okI64 x := ofT_okI (go_ok (w2 i.toNat))
    have h1 := hlen i.toNat (by omega)
    have h2 := ofT_len (goL g (W i.toNat) (atI row i))
    have h3 := go_len (g := g) (s := atI row i) (W i.toNat)
    have e2 : (i + 1).toNat = i.toNat + 1 := by omega
    refine ⟨(atI row i).sort, (atI row i).n, i + 1, (ofT (goL g (W i.toNat) (atI row i))).map itemC, (W (i.toNat + 1)).map itemC, (ofT (goL g (W i.toNat) (atI row i))).length, (W (i.toNat + 1)).length, nth_map (f := symC) (fun _ => rfl) i0 hc, go_calls g (W i.toNat) (atI row i) hb (by omega) (w2 _), refGo_calls g (W i.toNat) (atI row i) hb (by omega) (w2 _), flat_item _, (List.length_map ..).symm,
      close_calls g _ _ _ _ hF (by omega) hb (by omega) hgo hst, refClose_calls g _ _ hs (by omega) hb (by omega) hgo hst (hbnd _ _ hgo hst), flat_item _, ar_add64 (by omega) (by omega), by omega, fun he => ?_, by omega, by omega, by rw [e2], by rw [e2]⟩
    have he : natI (W (i.toNat + 1)).length = 0 := of_decide_eq_true he
    have he : (((W (i.toNat + 1)).length : Nat) : Int) = 0 := he
    have h4 : W (i.toNat + 1) = [] := List.eq_nil_of_length_eq_zero (by omega)
    have h5 := hz _ h4 (row.length - (i.toNat + 1))
    rw [show i.toNat + 1 + (row.length - (i.toNat + 1)) = row.length by omega] at h5
    rw [h5]
    exact ⟨rfl, rfl⟩
end
end Go.Proofs.Ytnceadbfgpiaaaa.C
