/- Contracts: cmp.Compare, Item.compare, slices.BinarySearchFunc, item.Of. -/
import Derived.Test.YtnceadbfgpiaaaaJ0
import Derived.Test.YtnceadbfgpiaaaaI2
namespace Go.Proofs.Ytnceadbfgpiaaaa.J
open Go G U K I
set_option linter.unusedVariables false
set_option linter.unusedSimpArgs false
set_option maxRecDepth 100000
set_option maxHeartbeats 4000000
theorem fn58 : Try.prog.funcs[58]? = some Try.f58 := by kernel_rfl
theorem fn47 : Try.prog.funcs[47]? = some Try.f47 := by kernel_rfl
theorem fn31 : Try.prog.funcs[31]? = some Try.f31 := by kernel_rfl
theorem fn30 : Try.prog.funcs[30]? = some Try.f30 := by kernel_rfl
theorem fn9 : Try.prog.funcs[9]? = some Try.f9 := by kernel_rfl
theorem shr_eval (t : TypeId) (k yk : IntKind) (a b : Int) (h0 : 0 ≤ b) : dvOf Try.prog .shr t (.flat (.int k a)) (.flat (.int yk b)) = some (.flat (.int k (a.fdiv (2 ^ min b.toNat k.bits)))) := by
  rw [dvOf_eq]
  intro x y
  have e : evPure Try.prog (Op.shift .shr k a yk b) = some (.int k (a.fdiv (2 ^ min b.toNat k.bits))) := by
    unfold Op.shift
    rw [if_neg (by omega)]
    rfl
  have e2 : (evPure Try.prog (do eqGuard .shr t x y (.int k a) (.int yk b); binOp .shr t (.int k a) (.int yk b))) = some (.int k (a.fdiv (2 ^ min b.toNat k.bits))) := e
  show evP Try.prog _ = _
  unfold evP
  rw [e2]; rfl
theorem conv_i (a : Int) (h0 : 0 ≤ a) (h1 : a ≤ 9223372036854775807) : evP Try.prog (convert 3 71 (.int .i64 a)) = some (.flat (.int .u64 a)) := by
  have h : evP Try.prog (convert 3 71 (.int .i64 a)) = some (.flat (.int .u64 (IntKind.u64.wrap a))) := by kernel_rfl
  rw [h, show IntKind.u64.wrap a = a from by show a % 18446744073709551616 = a; omega]
theorem conv_u (a : Int) (h0 : 0 ≤ a) (h1 : a ≤ 9223372036854775807) : evP Try.prog (convert 71 3 (.int .u64 a)) = some (.flat (.int .i64 a)) := by
  have h : evP Try.prog (convert 71 3 (.int .u64 a)) = some (.flat (.int .i64 (IntKind.i64.wrap a))) := by kernel_rfl
  rw [h, IntKind.wrap_i64]
  congr 3
  omega
theorem isNaN_calls (a : Int) : ACalls Try.prog 58 [.flat (.int .i64 a)] (fun _ => .flat (.bool false)) (fun _ => []) := by
  refine acalls_symF tabF_ok fn58 rfl rfl rfl (by kernel_rfl) ?_
  have hfin : ∀ st, resA Try.prog Try.f58 st = some (.flat (.bool false)) → G.Leaves Try.prog Try.f58 (fun _ => .flat (.bool false)) (fun _ => []) st := fun st h => G.Leaves.plain h rfl
  rintro ⟨lt, le, eq, se, ar, dv, una, conv, len, sln, nat, nth, ixs, cel, sto, app, cpy, slc, mak, ixv, oth, dk, ib, call⟩ hS hm Q hQ
  obtain ⟨hlt, hle, heq, hse, har, hdv, huna, hconv, hlen, hsln, hnat, hnth, hixs, hcel, hsto, happ, hcpy, hslc, hmak, hixv, hoth, hdk, hib, hcall⟩ := Sym.mk.inj hS
  clear hS
  have hnt : ∀ n : Nat, nat n = U.natI n := fun n => by rw [hnat]; rfl
  have hbox : ∀ e c off, cel (some ⟨e, [c]⟩) 0 off = if off ≤ c.length then some (c.drop off) else none := fun e c off => by rw [hcel]; rfl
  have hsbox : ∀ e c off sz y, sto (some ⟨e, [c]⟩) 0 off sz y = if y.cells.length = sz ∧ off + sz ≤ c.length ∧ y.cells.all AV.one = true then some ⟨e, [spl c off y.cells]⟩ else none := fun e c off sz y => by rw [hsto]; rfl
  have hcaw : ∀ {f args T base K}, CallK Try.prog f args T base K → call f args T base K := fun h => by rw [hcall]; exact h
  have hcal : ∀ {f args T base} {K : AV → Table → List Nat → List Nat → Prop}, (∃ args' ids val rows, Hands T ids args args' (val base) (rows base) ∧ ACalls Try.prog f args' val rows ∧ (rows base).length ≤ 8 ∧ K (val base) (adopt T base (rows base)) ids ((List.range (rows base).length).map (base + ·))) → call f args T base K := fun h => hcaw (call_own h)
  have heqr : ∀ v, eq v v = true := fun v => by rw [heq]; exact decide_eq_true rfl
  cbv
  rw [heqr]; cbv
  exact hQ _ _ trivial (hfin _ (by cbv))
theorem cmpZ_calls (a b : Int) : ACalls Try.prog 47 [.flat (.int .i64 a), .flat (.int .i64 b)] (fun _ => .flat (.int .i64 (cmpZ a b))) (fun _ => []) := by
  have hc1 := isNaN_calls a
  have hc2 := isNaN_calls b
  have h1 : decide (a < b) = true → cmpZ a b = -1 := fun h => by unfold cmpZ; rw [if_pos (of_decide_eq_true h)]
  have h2 : decide (a < b) = false → decide (b < a) = true → cmpZ a b = 1 := fun h k => by unfold cmpZ; rw [if_neg (of_decide_eq_false h), if_pos (of_decide_eq_true k)]
  have h3 : decide (a < b) = false → decide (b < a) = false → cmpZ a b = 0 := fun h k => by unfold cmpZ; rw [if_neg (of_decide_eq_false h), if_neg (of_decide_eq_false k)]
  generalize cmpZ a b = r at h1 h2 h3
  refine acalls_symF tabF_ok fn47 rfl rfl rfl (by kernel_rfl) ?_
  have hfin : ∀ st, resA Try.prog Try.f47 st = some (.flat (.int .i64 r)) → G.Leaves Try.prog Try.f47 (fun _ => .flat (.int .i64 r)) (fun _ => []) st := fun st h => G.Leaves.plain h rfl
  rintro ⟨lt, le, eq, se, ar, dv, una, conv, len, sln, nat, nth, ixs, cel, sto, app, cpy, slc, mak, ixv, oth, dk, ib, call⟩ hS hm Q hQ
  obtain ⟨hlt, hle, heq, hse, har, hdv, huna, hconv, hlen, hsln, hnat, hnth, hixs, hcel, hsto, happ, hcpy, hslc, hmak, hixv, hoth, hdk, hib, hcall⟩ := Sym.mk.inj hS
  clear hS
  have hnt : ∀ n : Nat, nat n = U.natI n := fun n => by rw [hnat]; rfl
  have hbox : ∀ e c off, cel (some ⟨e, [c]⟩) 0 off = if off ≤ c.length then some (c.drop off) else none := fun e c off => by rw [hcel]; rfl
  have hsbox : ∀ e c off sz y, sto (some ⟨e, [c]⟩) 0 off sz y = if y.cells.length = sz ∧ off + sz ≤ c.length ∧ y.cells.all AV.one = true then some ⟨e, [spl c off y.cells]⟩ else none := fun e c off sz y => by rw [hsto]; rfl
  have hcaw : ∀ {f args T base K}, CallK Try.prog f args T base K → call f args T base K := fun h => by rw [hcall]; exact h
  have hcal : ∀ {f args T base} {K : AV → Table → List Nat → List Nat → Prop}, (∃ args' ids val rows, Hands T ids args args' (val base) (rows base) ∧ ACalls Try.prog f args' val rows ∧ (rows base).length ≤ 8 ∧ K (val base) (adopt T base (rows base)) ids ((List.range (rows base).length).map (base + ·))) → call f args T base K := fun h => hcaw (call_own h)
  rw [show decide (a < b) = lt a b by rw [hlt]] at h1 h2 h3
  rw [show decide (b < a) = lt b a by rw [hlt]] at h2 h3
  cbv
  refine hcal ⟨_, [], _, _, .inl ⟨rfl, by cbv⟩, hc1, by simp, ?_⟩
  cbv
  refine hcal ⟨_, [], _, _, .inl ⟨rfl, by cbv⟩, hc2, by simp, ?_⟩
  cbv
  cases e1 : lt a b
  rotate_left
  · have := h1 e1
    subst this
    cbv
    exact hQ _ _ trivial (hfin _ (by cbv))
  cbv
  cases e2 : lt b a
  rotate_left
  · have := h2 e1 e2
    subst this
    cbv
    exact hQ _ _ trivial (hfin _ (by cbv))
  have := h3 e1 e2
  subst this
  cbv
  exact hQ _ _ trivial (hfin _ (by cbv))
theorem cmpI_calls (x y : ItemT) : ACalls Try.prog 31 [.agg (itemC x), .agg (itemC y)] (fun _ => .flat (.int .i64 (cmpI x y))) (fun _ => []) := by
  obtain ⟨a, b, c⟩ := x
  obtain ⟨a', b', c'⟩ := y
  have hc1 := cmpZ_calls a a'
  have hc2 := cmpZ_calls b b'
  have h1 : decide (a = a') = true → cmpI ⟨a, b, c⟩ ⟨a', b', c'⟩ = cmpZ b b' := fun h => by unfold cmpI; rw [if_pos (of_decide_eq_true h)]
  have h2 : decide (a = a') = false → cmpI ⟨a, b, c⟩ ⟨a', b', c'⟩ = cmpZ a a' := fun h => by unfold cmpI; rw [if_neg (of_decide_eq_false h)]
  unfold itemC
  dsimp only
  generalize cmpI ⟨a, b, c⟩ ⟨a', b', c'⟩ = r at h1 h2 ⊢
  generalize cmpZ a a' = r1 at hc1 h2
  generalize cmpZ b b' = r2 at hc2 h1
  generalize (c : Int) = ci
  generalize (c' : Int) = ci2
  refine acalls_symF tabF_ok fn31 rfl rfl rfl (by kernel_rfl) ?_
  have hfin : ∀ st, resA Try.prog Try.f31 st = some (.flat (.int .i64 r)) → G.Leaves Try.prog Try.f31 (fun _ => .flat (.int .i64 r)) (fun _ => []) st := fun st h => G.Leaves.plain h rfl
  rintro ⟨lt, le, eq, se, ar, dv, una, conv, len, sln, nat, nth, ixs, cel, sto, app, cpy, slc, mak, ixv, oth, dk, ib, call⟩ hS hm Q hQ
  obtain ⟨hlt, hle, heq, hse, har, hdv, huna, hconv, hlen, hsln, hnat, hnth, hixs, hcel, hsto, happ, hcpy, hslc, hmak, hixv, hoth, hdk, hib, hcall⟩ := Sym.mk.inj hS
  clear hS
  have hnt : ∀ n : Nat, nat n = U.natI n := fun n => by rw [hnat]; rfl
  have hbox : ∀ e c off, cel (some ⟨e, [c]⟩) 0 off = if off ≤ c.length then some (c.drop off) else none := fun e c off => by rw [hcel]; rfl
  have hsbox : ∀ e c off sz y, sto (some ⟨e, [c]⟩) 0 off sz y = if y.cells.length = sz ∧ off + sz ≤ c.length ∧ y.cells.all AV.one = true then some ⟨e, [spl c off y.cells]⟩ else none := fun e c off sz y => by rw [hsto]; rfl
  have hcaw : ∀ {f args T base K}, CallK Try.prog f args T base K → call f args T base K := fun h => by rw [hcall]; exact h
  have hcal : ∀ {f args T base} {K : AV → Table → List Nat → List Nat → Prop}, (∃ args' ids val rows, Hands T ids args args' (val base) (rows base) ∧ ACalls Try.prog f args' val rows ∧ (rows base).length ≤ 8 ∧ K (val base) (adopt T base (rows base)) ids ((List.range (rows base).length).map (base + ·))) → call f args T base K := fun h => hcaw (call_own h)
  rw [show decide (a = a') = eq a a' by rw [heq]] at h1 h2
  cbv
  repeat (first | (rw [hbox]; cbv) | (rw [hsbox]; cbv))
  cases e1 : eq a a'
  · have := h2 e1
    subst this
    cbv
    repeat (first | (rw [hbox]; cbv) | (rw [hsbox]; cbv))
    refine hcal ⟨_, [], _, _, .inl ⟨rfl, by cbv⟩, hc1, by simp, ?_⟩
    cbv
    exact hQ _ _ trivial (hfin _ (by cbv))
  have := h1 e1
  subst this
  cbv
  repeat (first | (rw [hbox]; cbv) | (rw [hsbox]; cbv))
  refine hcal ⟨_, [], _, _, .inl ⟨rfl, by cbv⟩, hc2, by simp, ?_⟩
  cbv
  exact hQ _ _ trivial (hfin _ (by cbv))
/-- Where the search stands. -/
def BsAt (n p : Nat) (i j : Int) : Prop := 0 ≤ i ∧ i ≤ (p : Int) ∧ (p : Int) ≤ j ∧ j ≤ (n : Int)
theorem bs_mid {n p : Nat} {i j : Int} (hn : n ≤ 1000000) (h : BsAt n p i j) (hc : decide (i < j) = true) : ∃ m : Int, arI .add .i64 i j = i + j ∧ evP Try.prog (convert 3 71 (.int .i64 (i + j))) = some (.flat (.int .u64 (i + j))) ∧ dvOf Try.prog .shr 71 (.flat (.int .u64 (i + j))) (.flat (.int .u64 1)) = some (.flat (.int .u64 m)) ∧ evP Try.prog (convert 71 3 (.int .u64 m)) = some (.flat (.int .i64 m)) ∧ 0 ≤ m ∧ m < (n : Int) ∧ arI .add .i64 m 1 = m + 1 ∧
    (m < (p : Int) → BsAt n p (m + 1) j ∧ (j - (m + 1)).toNat < (j - i).toNat) ∧ (¬ m < (p : Int) → BsAt n p i m ∧ (m - i).toNat < (j - i).toNat) := by
  have hc := of_decide_eq_true hc
  obtain ⟨h0, h1, h2, h3⟩ := h
  have e : (i + j).fdiv (2 ^ min (1 : Int).toNat IntKind.u64.bits) = (i + j) / 2 := by
    rw [Int.fdiv_eq_ediv_of_nonneg _ (by decide)]; rfl
  refine ⟨(i + j) / 2, ar_add64 (by omega) (by omega), conv_i _ (by omega) (by omega), ?_, conv_u _ (by omega) (by omega), by omega, by omega, ar_add64 (by omega) (by omega), fun h => ⟨⟨by omega, by omega, h2, h3⟩, by omega⟩, fun h => ⟨⟨h0, h1, by omega, by omega⟩, by omega⟩⟩
  rw [shr_eval _ _ _ _ _ (by decide), e]
theorem bs_calls (l : List ItemT) (x : ItemT) (hs : Sorted l) (hn : l.length ≤ 1000000) : ACalls Try.prog 30 [.ro (l.map itemC), .agg (itemC x), .flat (.func (.func 31) #[] #[])] (fun _ => .tup [.flat (.int .i64 (natI (posI l x))), .flat (.bool (foundI l x))]) (fun _ => []) := by
  have hpl := pos_le l x
  have hstep : ∀ m : Int, 0 ≤ m → m < l.length → ∃ r, ACalls Try.prog 31 [.agg (itemC (atI l m)), .agg (itemC x)] (fun _ => .flat (.int .i64 r)) (fun _ => []) ∧ (decide (r < 0) = true → m < (posI l x : Int)) ∧ (decide (r < 0) = false → ¬ m < (posI l x : Int)) := fun m h0 h1 => by
    refine ⟨_, cmpI_calls _ _, fun h => ?_, fun h => ?_⟩
    · rw [cmp_lt] at h
      apply Int.not_le.1
      intro hge
      rw [pos_ge hs (by omega) (at_get h0 h1)] at h; cases h
    · rw [cmp_lt] at h
      intro hlt
      rw [pos_lt (by omega) (at_get h0 h1)] at h; cases h
  have hlast1 : decide ((posI l x : Int) < (l.length : Int)) = false → foundI l x = false := fun h => by
    have h := of_decide_eq_false h
    unfold foundI
    rw [List.getElem?_eq_none (by omega)]
  have hlast2 : decide ((posI l x : Int) < (l.length : Int)) = true → ∃ r, ACalls Try.prog 31 [.agg (itemC (atI l (posI l x))), .agg (itemC x)] (fun _ => .flat (.int .i64 r)) (fun _ => []) ∧ decide (r = 0) = foundI l x := fun h => by
    have h := of_decide_eq_true h
    refine ⟨_, cmpI_calls _ _, ?_⟩
    rw [cmp_eq]
    unfold foundI
    have := at_get (l := l) (i := (posI l x : Int)) (by omega) h
    rw [Int.toNat_natCast] at this
    rw [this]
  have hmid := fun i j h hc => bs_mid (n := l.length) (p := posI l x) (i := i) (j := j) hn h hc
  have hz : BsAt l.length (posI l x) 0 l.length := ⟨by omega, by omega, by omega, by omega⟩
  have hend : ∀ i j, BsAt l.length (posI l x) i j → decide (i < j) = false → i = natI (posI l x) := fun i j h hc => by
    have := of_decide_eq_false hc
    obtain ⟨h0, h1, h2, h3⟩ := h
    unfold natI; omega
  have hPn : (posI l x : Int) = natI (posI l x) := rfl
  rw [hPn] at hstep hlast1 hlast2
  have hp0 : 0 ≤ natI (posI l x) := by unfold natI; omega
  obtain ⟨X, hX⟩ : ∃ X, X = l.map itemC := ⟨_, rfl⟩
  have hXl : lenE X = (l.length : Int) := by rw [hX, len_map]
  have hXn : ∀ m : Int, 0 ≤ m → m < l.length → nthE X m 3 = some (.rp (itemC (atI l m))) := fun m h0 h1 => by rw [hX]; exact nth_map (fun _ => rfl) h0 h1
  rw [← hX]
  generalize foundI l x = fd at hlast1 hlast2 ⊢
  generalize hp : posI l x = p at hmid hz hend hstep hlast1 hlast2 hp0 ⊢
  generalize hpi : natI p = pi at hstep hlast1 hlast2 hend hp0 ⊢
  obtain ⟨xa, xb, xc⟩ := x
  clear hX hPn hpl
  unfold itemC at *
  dsimp only at hstep hlast2
  generalize (xc : Int) = xi at hstep hlast2
  refine acalls_symF tabF_ok fn30 rfl rfl rfl (by kernel_rfl) ?_
  have hfin : ∀ st, resA Try.prog Try.f30 st = some (.tup [.flat (.int .i64 pi), .flat (.bool fd)]) → G.Leaves Try.prog Try.f30 (fun _ => .tup [.flat (.int .i64 pi), .flat (.bool fd)]) (fun _ => []) st := fun st h => G.Leaves.plain h rfl
  rintro ⟨lt, le, eq, se, ar, dv, una, conv, len, sln, nat, nth, ixs, cel, sto, app, cpy, slc, mak, ixv, oth, dk, ib, call⟩ hS hm Q hQ
  obtain ⟨hlt, hle, heq, hse, har, hdv, huna, hconv, hlen, hsln, hnat, hnth, hixs, hcel, hsto, happ, hcpy, hslc, hmak, hixv, hoth, hdk, hib, hcall⟩ := Sym.mk.inj hS
  clear hS
  have hnt : ∀ n : Nat, nat n = U.natI n := fun n => by rw [hnat]; rfl
  have hbox : ∀ e c off, cel (some ⟨e, [c]⟩) 0 off = if off ≤ c.length then some (c.drop off) else none := fun e c off => by rw [hcel]; rfl
  have hsbox : ∀ e c off sz y, sto (some ⟨e, [c]⟩) 0 off sz y = if y.cells.length = sz ∧ off + sz ≤ c.length ∧ y.cells.all AV.one = true then some ⟨e, [spl c off y.cells]⟩ else none := fun e c off sz y => by rw [hsto]; rfl
  have hcaw : ∀ {f args T base K}, CallK Try.prog f args T base K → call f args T base K := fun h => by rw [hcall]; exact h
  have hcal : ∀ {f args T base} {K : AV → Table → List Nat → List Nat → Prop}, (∃ args' ids val rows, Hands T ids args args' (val base) (rows base) ∧ ACalls Try.prog f args' val rows ∧ (rows base).length ≤ 8 ∧ K (val base) (adopt T base (rows base)) ids ((List.range (rows base).length).map (base + ·))) → call f args T base K := fun h => hcaw (call_own h)
  have hmid2 : ∀ i j, BsAt l.length p i j → lt i j = true → ∃ (m a b c : Int) (r : Int), ar .add .i64 i j = i + j ∧ (∀ T, conv T 3 71 (.flat (.int .i64 (i + j))) = some (.flat (.int .u64 (i + j)))) ∧ dv .shr 71 (.flat (.int .u64 (i + j))) (.flat (.int .u64 1)) = some (.flat (.int .u64 m)) ∧ (∀ T, conv T 71 3 (.flat (.int .u64 m)) = some (.flat (.int .i64 m))) ∧ nth X m 3 = some (.rp [.flat (.int .i64 a), .flat (.int .i64 b), .flat (.int .u64 c)]) ∧
      ACalls Try.prog 31 [.agg [.flat (.int .i64 a), .flat (.int .i64 b), .flat (.int .u64 c)], .agg [.flat (.int .i64 xa), .flat (.int .i64 xb), .flat (.int .u64 xi)]] (fun _ => .flat (.int .i64 r)) (fun _ => []) ∧ ar .add .i64 m 1 = m + 1 ∧ (lt r 0 = true → BsAt l.length p (m + 1) j ∧ (j - (m + 1)).toNat < (j - i).toNat) ∧ (lt r 0 = false → BsAt l.length p i m ∧ (m - i).toNat < (j - i).toNat) := fun i j h hc => by
    rw [hlt] at hc
    obtain ⟨m, q1, q2, q3, q4, q5, q6, q7, q8, q9⟩ := hmid i j h hc
    obtain ⟨r, c1, c2, c3⟩ := hstep m q5 q6
    exact ⟨m, _, _, _, r, by rw [har]; exact q1, fun T => by rw [hconv]; exact q2, by rw [hdv]; exact q3, fun T => by rw [hconv]; exact q4, by rw [hnth]; exact hXn m q5 q6, c1, by rw [har]; exact q7, fun h => q8 (by have := c2 (by rw [hlt] at h; exact h); rw [← hpi] at this; exact this), fun h => q9 (by have := c3 (by rw [hlt] at h; exact h); rw [← hpi] at this; exact this)⟩
  have hz2 : BsAt l.length p 0 (len X) := by rw [hlen, hXl]; exact hz
  have hend2 : ∀ i j, BsAt l.length p i j → lt i j = false → i = pi := fun i j h hc => hend i j h (by rw [hlt] at hc; exact hc)
  have hl1 : lt pi (len X) = false → fd = false := fun h => hlast1 (by rw [hlt, hlen, hXl] at h; exact h)
  have hl2 : lt pi (len X) = true → ∃ (a b c r : Int), nth X pi 3 = some (.rp [.flat (.int .i64 a), .flat (.int .i64 b), .flat (.int .u64 c)]) ∧ ACalls Try.prog 31 [.agg [.flat (.int .i64 a), .flat (.int .i64 b), .flat (.int .u64 c)], .agg [.flat (.int .i64 xa), .flat (.int .i64 xb), .flat (.int .u64 xi)]] (fun _ => .flat (.int .i64 r)) (fun _ => []) ∧ eq r 0 = fd := fun h => by
    rw [hlt, hlen, hXl] at h
    obtain ⟨r, c1, c2⟩ := hlast2 h
    exact ⟨_, _, _, r, by rw [hnth]; exact hXn pi hp0 (of_decide_eq_true h), c1, by rw [heq]; exact c2⟩
  clear hmid hstep hXn hz hend hlast1 hlast2 hXl hpi hp hp0
  cbv
  refine MW_loop hm [0] [0, 2, 4, 8, 9, 10] 11 (by simp) (fun mz st => ∃ (i j : Int), BsAt l.length p i j ∧ mz = (j - i).toNat ∧ st = stOf [.ro X, .dead, .flat (.func (.func 31) #[] #[]), .dead, .ptr 0 0 0, .dead, .dead, .dead, .flat (.int .i64 (len X)), .flat (.int .i64 i), .flat (.int .i64 j)] [some ⟨28, [[.flat (.int .i64 xa), .flat (.int .i64 xb), .flat (.int .u64 xi)]]⟩] 1) ((len X - 0).toNat) ?_ ?_
  · exact ⟨0, len X, hz2, rfl, cut_eq (by cbv) (cutRows_cons (by rfl) (by simp [closedAll, closedIn]) rfl)⟩
  rintro mz st ⟨i, j, hi, hmz, rfl⟩
  cases hc : lt i j
  · have he := hend2 i j hi hc
    subst he
    cases hc2 : lt i (len X)
    · have hf := hl1 hc2
      subst hf
      cbv
      rw [hc]; cbv
      refine ⟨by rw [hdk]; kernel_rfl, ?_⟩
      rw [hc2]; cbv
      repeat (first | (rw [hbox]; cbv) | (rw [hsbox]; cbv))
      refine ⟨by rw [hib]; kernel_rfl, ?_⟩
      cbv
      exact hQ _ _ trivial (hfin _ (by cbv))
    obtain ⟨a, b, c, r, y1, hcY, y2⟩ := hl2 hc2
    cbv
    rw [hc]; cbv
    refine ⟨by rw [hdk]; kernel_rfl, ?_⟩
    rw [hc2]; cbv
    repeat (first | (rw [hbox]; cbv) | (rw [hsbox]; cbv) | (rw [y1]; cbv))
    refine hcal ⟨_, [], _, _, .inl ⟨rfl, by cbv⟩, hcY, by simp, ?_⟩
    cbv
    rw [y2]; cbv
    refine ⟨by rw [hib]; kernel_rfl, ?_⟩
    cbv
    exact hQ _ _ trivial (hfin _ (by cbv))
  obtain ⟨m, a, b, c, r, q1, q2, q3, q4, q5, hcC, q6, q7, q8⟩ := hmid2 i j hi hc
  generalize i + j = s at q1 q2 q3
  generalize hm1 : m + 1 = m1 at q6 q7
  cases hr : lt r 0
  · obtain ⟨k1, k2⟩ := q8 hr
    cbv
    rw [hc]; cbv
    rw [q1]; cbv
    repeat (first | (rw [hbox]; cbv) | (rw [hsbox]; cbv) | (rw [q2]; cbv) | (rw [q3]; cbv) | (rw [q4]; cbv))
    refine ⟨by rw [hdk]; kernel_rfl, ?_⟩
    repeat (first | (rw [hbox]; cbv) | (rw [hsbox]; cbv) | (rw [q5]; cbv))
    refine hcal ⟨_, [], _, _, .inl ⟨rfl, by cbv⟩, hcC, by simp, ?_⟩
    cbv
    rw [hr]; cbv
    refine ⟨by rw [hib]; kernel_rfl, ?_⟩
    cbv
    exact ⟨[0], [0, 2, 4, 8, 9, 10], 11, (m - i).toNat, hmz ▸ k2, by simp, i, m, k1, rfl, cut_eq (by cbv) (cutRows_cons (by rfl) (by simp [closedAll, closedIn]) rfl)⟩
  obtain ⟨k1, k2⟩ := q7 hr
  cbv
  rw [hc]; cbv
  rw [q1]; cbv
  repeat (first | (rw [hbox]; cbv) | (rw [hsbox]; cbv) | (rw [q2]; cbv) | (rw [q3]; cbv) | (rw [q4]; cbv))
  refine ⟨by rw [hdk]; kernel_rfl, ?_⟩
  repeat (first | (rw [hbox]; cbv) | (rw [hsbox]; cbv) | (rw [q5]; cbv))
  refine hcal ⟨_, [], _, _, .inl ⟨rfl, by cbv⟩, hcC, by simp, ?_⟩
  cbv
  rw [hr]; cbv
  refine ⟨by rw [hib]; kernel_rfl, ?_⟩
  cbv
  rw [q6]
  exact ⟨[0], [0, 2, 4, 8, 9, 10], 11, (j - m1).toNat, hmz ▸ k2, by simp, m1, j, k1, rfl, cut_eq (by cbv) (cutRows_cons (by rfl) (by simp [closedAll, closedIn]) rfl)⟩
end Go.Proofs.Ytnceadbfgpiaaaa.J
