/- N3, N4, one behind the other. -/
import Derived.Test.YtnceadbfgpiaaaaQ12
import Derived.Test.YtnceadbfgpiaaaaQ4
/- Regular expressions as trees; contracts: bosketref04.Takes, Start. -/
namespace Go.Proofs.Ytnceadbfgpiaaaa.N
open Go G U K I J
set_option linter.unusedVariables false
set_option linter.unusedSimpArgs false
set_option maxRecDepth 100000
set_option maxHeartbeats 4000000
theorem fn81 : Try.prog.funcs[81]? = some Try.f81 := by kernel_rfl
theorem fn82 : Try.prog.funcs[82]? = some Try.f82 := by kernel_rfl
inductive Rx where
  | eps
  | set (a b c d : Int)
  | cat (x y : Rx)
  | alt (x y : Rx)
  | un (k : Fin 3) (x : Rx)
def pc (k a b c d : Int) : List AV := [.flat (.int .i64 k), .flat (.int .u64 a), .flat (.int .u64 b), .flat (.int .u64 c), .flat (.int .u64 d)]
namespace Rx
def root : Rx → List AV
  | eps => pc 0 0 0 0 0
  | set a b c d => pc 1 a b c d
  | cat _ _ => pc 2 0 0 0 0
  | alt _ _ => pc 3 0 0 0 0
  | un k _ => pc (4 + (k.val : Int)) 0 0 0 0
def kind : Rx → Int
  | eps => 0
  | set _ _ _ _ => 1
  | cat _ _ => 2
  | alt _ _ => 3
  | un k _ => 4 + (k.val : Int)
def post : Rx → List (List AV)
  | cat x y => post x ++ post y ++ [pc 2 0 0 0 0]
  | alt x y => post x ++ post y ++ [pc 3 0 0 0 0]
  | un k x => post x ++ [pc (4 + (k.val : Int)) 0 0 0 0]
  | eps => [pc 0 0 0 0 0]
  | set a b c d => [pc 1 a b c d]
/-- Its parts, the last one first. -/
def kids : Rx → List Rx
  | cat x y | alt x y => [y, x]
  | un _ x => [x]
  | _ => []
/-- Pieces of trees, the last one first. -/
def fl : List Rx → List (List AV)
  | [] => []
  | u :: r => fl r ++ post u
theorem post_kids (u : Rx) (r : List Rx) : fl (u :: r) = fl (u.kids ++ r) ++ [u.root] := by
  cases u <;> simp [fl, kids, post, root, List.append_assoc]
theorem post_pos (u : Rx) : 0 < (post u).length := by
  cases u <;> simp only [post, List.length_append, List.length_cons, List.length_nil] <;> omega
theorem fl_pos (u : Rx) (r : List Rx) : 0 < (fl (u :: r)).length := by
  have := post_pos u
  simp only [fl, List.length_append]; omega
theorem root_shape (u : Rx) : ∃ a b c d, u.root = pc u.kind a b c d := by
  cases u <;> exact ⟨_, _, _, _, rfl⟩
theorem kind_ge (u : Rx) : 0 ≤ u.kind ∧ u.kind ≤ 6 := by
  cases u <;> simp [kind]
  omega
theorem cells (u : Rx) : ∀ c ∈ post u, c.length = 5 ∧ closedAll [] c = true := by
  induction u with
  | eps => intro c hc; simp [post] at hc; subst hc; exact ⟨rfl, rfl⟩
  | set a b c d => intro c hc; simp [post] at hc; subst hc; exact ⟨rfl, rfl⟩
  | cat x y hx hy =>
    intro c hc; simp only [post, List.mem_append, List.mem_singleton] at hc
    rcases hc with (hc | hc) | rfl
    · exact hx c hc
    · exact hy c hc
    · exact ⟨rfl, rfl⟩
  | alt x y hx hy =>
    intro c hc; simp only [post, List.mem_append, List.mem_singleton] at hc
    rcases hc with (hc | hc) | rfl
    · exact hx c hc
    · exact hy c hc
    · exact ⟨rfl, rfl⟩
  | un k x hx =>
    intro c hc; simp only [post, List.mem_append, List.mem_singleton] at hc
    rcases hc with hc | rfl
    · exact hx c hc
    · exact ⟨rfl, rfl⟩
end Rx
def takesI (k : Int) : Int := if k = 2 then 2 else if k = 3 then 2 else if 4 ≤ k then 1 else 0
theorem takes_kids (u : Rx) : takesI u.kind = (u.kids.length : Int) := by
  cases u with
  | un k x =>
    have h1 : ¬ (4 + (k.val : Int) = 2) := by omega
    have h2 : ¬ (4 + (k.val : Int) = 3) := by omega
    have h3 : 4 ≤ 4 + (k.val : Int) := by omega
    show takesI (4 + (k.val : Int)) = 1
    unfold takesI
    rw [if_neg h1, if_neg h2, if_pos h3]
  | _ => rfl
theorem takes_calls (k : Int) (h0 : 0 ≤ k) (h6 : k ≤ 6) : ACalls Try.prog 81 [.flat (.int .i64 k)] (fun _ => .flat (.int .i64 (takesI k))) (fun _ => []) := by
  have h : k = 0 ∨ k = 1 ∨ k = 2 ∨ k = 3 ∨ k = 4 ∨ k = 5 ∨ k = 6 := by omega
  rcases h with rfl | rfl | rfl | rfl | rfl | rfl | rfl
  · skip
    refine acalls_symF tabF_ok fn81 rfl rfl rfl (by kernel_rfl) ?_
    have hfin : ∀ st, resA Try.prog Try.f81 st = some (.flat (.int .i64 (takesI 0))) → G.Leaves Try.prog Try.f81 (fun _ => .flat (.int .i64 (takesI 0))) (fun _ => []) st := fun st h => G.Leaves.plain h rfl
    rintro ⟨lt, le, eq, se, ar, dv, una, conv, len, sln, nat, nth, ixs, cel, sto, app, cpy, slc, mak, ixv, oth, dk, ib, call⟩ hS hm Q hQ
    obtain ⟨hlt, hle, heq, hse, har, hdv, huna, hconv, hlen, hsln, hnat, hnth, hixs, hcel, hsto, happ, hcpy, hslc, hmak, hixv, hoth, hdk, hib, hcall⟩ := Sym.mk.inj hS
    clear hS
    have hnt : ∀ n : Nat, nat n = U.natI n := fun n => by rw [hnat]; rfl
    have hbox : ∀ e c off, cel (some ⟨e, [c]⟩) 0 off = if off ≤ c.length then some (c.drop off) else none := fun e c off => by rw [hcel]; rfl
    have hsbox : ∀ e c off sz y, sto (some ⟨e, [c]⟩) 0 off sz y = if y.cells.length = sz ∧ off + sz ≤ c.length ∧ y.cells.all AV.one = true then some ⟨e, [spl c off y.cells]⟩ else none := fun e c off sz y => by rw [hsto]; rfl
    have hcaw : ∀ {f args T base K}, CallK Try.prog f args T base K → call f args T base K := fun h => by rw [hcall]; exact h
    have hcal : ∀ {f args T base} {K : AV → Table → List Nat → List Nat → Prop}, (∃ args' ids val rows, Hands T ids args args' (val base) (rows base) ∧ ACalls Try.prog f args' val rows ∧ (rows base).length ≤ 8 ∧ K (val base) (adopt T base (rows base)) ids ((List.range (rows base).length).map (base + ·))) → call f args T base K := fun h => hcaw (call_own h)
    have e1 : lt 0 0 = false := by rw [hlt]; decide
    have e2 : lt 6 0 = false := by rw [hlt]; decide
    cbv
    rw [e1]; cbv
    rw [e2]; cbv
    rw [hixs, hcel]; cbv
    exact hQ _ _ trivial (hfin _ (by cbv))
  · skip
    refine acalls_symF tabF_ok fn81 rfl rfl rfl (by kernel_rfl) ?_
    have hfin : ∀ st, resA Try.prog Try.f81 st = some (.flat (.int .i64 (takesI 1))) → G.Leaves Try.prog Try.f81 (fun _ => .flat (.int .i64 (takesI 1))) (fun _ => []) st := fun st h => G.Leaves.plain h rfl
    rintro ⟨lt, le, eq, se, ar, dv, una, conv, len, sln, nat, nth, ixs, cel, sto, app, cpy, slc, mak, ixv, oth, dk, ib, call⟩ hS hm Q hQ
    obtain ⟨hlt, hle, heq, hse, har, hdv, huna, hconv, hlen, hsln, hnat, hnth, hixs, hcel, hsto, happ, hcpy, hslc, hmak, hixv, hoth, hdk, hib, hcall⟩ := Sym.mk.inj hS
    clear hS
    have hnt : ∀ n : Nat, nat n = U.natI n := fun n => by rw [hnat]; rfl
    have hbox : ∀ e c off, cel (some ⟨e, [c]⟩) 0 off = if off ≤ c.length then some (c.drop off) else none := fun e c off => by rw [hcel]; rfl
    have hsbox : ∀ e c off sz y, sto (some ⟨e, [c]⟩) 0 off sz y = if y.cells.length = sz ∧ off + sz ≤ c.length ∧ y.cells.all AV.one = true then some ⟨e, [spl c off y.cells]⟩ else none := fun e c off sz y => by rw [hsto]; rfl
    have hcaw : ∀ {f args T base K}, CallK Try.prog f args T base K → call f args T base K := fun h => by rw [hcall]; exact h
    have hcal : ∀ {f args T base} {K : AV → Table → List Nat → List Nat → Prop}, (∃ args' ids val rows, Hands T ids args args' (val base) (rows base) ∧ ACalls Try.prog f args' val rows ∧ (rows base).length ≤ 8 ∧ K (val base) (adopt T base (rows base)) ids ((List.range (rows base).length).map (base + ·))) → call f args T base K := fun h => hcaw (call_own h)
    have e1 : lt 1 0 = false := by rw [hlt]; decide
    have e2 : lt 6 1 = false := by rw [hlt]; decide
    cbv
    rw [e1]; cbv
    rw [e2]; cbv
    rw [hixs, hcel]; cbv
    exact hQ _ _ trivial (hfin _ (by cbv))
  · skip
    refine acalls_symF tabF_ok fn81 rfl rfl rfl (by kernel_rfl) ?_
    have hfin : ∀ st, resA Try.prog Try.f81 st = some (.flat (.int .i64 (takesI 2))) → G.Leaves Try.prog Try.f81 (fun _ => .flat (.int .i64 (takesI 2))) (fun _ => []) st := fun st h => G.Leaves.plain h rfl
    rintro ⟨lt, le, eq, se, ar, dv, una, conv, len, sln, nat, nth, ixs, cel, sto, app, cpy, slc, mak, ixv, oth, dk, ib, call⟩ hS hm Q hQ
    obtain ⟨hlt, hle, heq, hse, har, hdv, huna, hconv, hlen, hsln, hnat, hnth, hixs, hcel, hsto, happ, hcpy, hslc, hmak, hixv, hoth, hdk, hib, hcall⟩ := Sym.mk.inj hS
    clear hS
    have hnt : ∀ n : Nat, nat n = U.natI n := fun n => by rw [hnat]; rfl
    have hbox : ∀ e c off, cel (some ⟨e, [c]⟩) 0 off = if off ≤ c.length then some (c.drop off) else none := fun e c off => by rw [hcel]; rfl
    have hsbox : ∀ e c off sz y, sto (some ⟨e, [c]⟩) 0 off sz y = if y.cells.length = sz ∧ off + sz ≤ c.length ∧ y.cells.all AV.one = true then some ⟨e, [spl c off y.cells]⟩ else none := fun e c off sz y => by rw [hsto]; rfl
    have hcaw : ∀ {f args T base K}, CallK Try.prog f args T base K → call f args T base K := fun h => by rw [hcall]; exact h
    have hcal : ∀ {f args T base} {K : AV → Table → List Nat → List Nat → Prop}, (∃ args' ids val rows, Hands T ids args args' (val base) (rows base) ∧ ACalls Try.prog f args' val rows ∧ (rows base).length ≤ 8 ∧ K (val base) (adopt T base (rows base)) ids ((List.range (rows base).length).map (base + ·))) → call f args T base K := fun h => hcaw (call_own h)
    have e1 : lt 2 0 = false := by rw [hlt]; decide
    have e2 : lt 6 2 = false := by rw [hlt]; decide
    cbv
    rw [e1]; cbv
    rw [e2]; cbv
    rw [hixs, hcel]; cbv
    exact hQ _ _ trivial (hfin _ (by cbv))
  · skip
    refine acalls_symF tabF_ok fn81 rfl rfl rfl (by kernel_rfl) ?_
    have hfin : ∀ st, resA Try.prog Try.f81 st = some (.flat (.int .i64 (takesI 3))) → G.Leaves Try.prog Try.f81 (fun _ => .flat (.int .i64 (takesI 3))) (fun _ => []) st := fun st h => G.Leaves.plain h rfl
    rintro ⟨lt, le, eq, se, ar, dv, una, conv, len, sln, nat, nth, ixs, cel, sto, app, cpy, slc, mak, ixv, oth, dk, ib, call⟩ hS hm Q hQ
    obtain ⟨hlt, hle, heq, hse, har, hdv, huna, hconv, hlen, hsln, hnat, hnth, hixs, hcel, hsto, happ, hcpy, hslc, hmak, hixv, hoth, hdk, hib, hcall⟩ := Sym.mk.inj hS
    clear hS
    have hnt : ∀ n : Nat, nat n = U.natI n := fun n => by rw [hnat]; rfl
    have hbox : ∀ e c off, cel (some ⟨e, [c]⟩) 0 off = if off ≤ c.length then some (c.drop off) else none := fun e c off => by rw [hcel]; rfl
    have hsbox : ∀ e c off sz y, sto (some ⟨e, [c]⟩) 0 off sz y = if y.cells.length = sz ∧ off + sz ≤ c.length ∧ y.cells.all AV.one = true then some ⟨e, [spl c off y.cells]⟩ else none := fun e c off sz y => by rw [hsto]; rfl
    have hcaw : ∀ {f args T base K}, CallK Try.prog f args T base K → call f args T base K := fun h => by rw [hcall]; exact h
    have hcal : ∀ {f args T base} {K : AV → Table → List Nat → List Nat → Prop}, (∃ args' ids val rows, Hands T ids args args' (val base) (rows base) ∧ ACalls Try.prog f args' val rows ∧ (rows base).length ≤ 8 ∧ K (val base) (adopt T base (rows base)) ids ((List.range (rows base).length).map (base + ·))) → call f args T base K := fun h => hcaw (call_own h)
    have e1 : lt 3 0 = false := by rw [hlt]; decide
    have e2 : lt 6 3 = false := by rw [hlt]; decide
    cbv
    rw [e1]; cbv
    rw [e2]; cbv
    rw [hixs, hcel]; cbv
    exact hQ _ _ trivial (hfin _ (by cbv))
  · skip
    refine acalls_symF tabF_ok fn81 rfl rfl rfl (by kernel_rfl) ?_
    have hfin : ∀ st, resA Try.prog Try.f81 st = some (.flat (.int .i64 (takesI 4))) → G.Leaves Try.prog Try.f81 (fun _ => .flat (.int .i64 (takesI 4))) (fun _ => []) st := fun st h => G.Leaves.plain h rfl
    rintro ⟨lt, le, eq, se, ar, dv, una, conv, len, sln, nat, nth, ixs, cel, sto, app, cpy, slc, mak, ixv, oth, dk, ib, call⟩ hS hm Q hQ
    obtain ⟨hlt, hle, heq, hse, har, hdv, huna, hconv, hlen, hsln, hnat, hnth, hixs, hcel, hsto, happ, hcpy, hslc, hmak, hixv, hoth, hdk, hib, hcall⟩ := Sym.mk.inj hS
    clear hS
    have hnt : ∀ n : Nat, nat n = U.natI n := fun n => by rw [hnat]; rfl
    have hbox : ∀ e c off, cel (some ⟨e, [c]⟩) 0 off = if off ≤ c.length then some (c.drop off) else none := fun e c off => by rw [hcel]; rfl
    have hsbox : ∀ e c off sz y, sto (some ⟨e, [c]⟩) 0 off sz y = if y.cells.length = sz ∧ off + sz ≤ c.length ∧ y.cells.all AV.one = true then some ⟨e, [spl c off y.cells]⟩ else none := fun e c off sz y => by rw [hsto]; rfl
    have hcaw : ∀ {f args T base K}, CallK Try.prog f args T base K → call f args T base K := fun h => by rw [hcall]; exact h
    have hcal : ∀ {f args T base} {K : AV → Table → List Nat → List Nat → Prop}, (∃ args' ids val rows, Hands T ids args args' (val base) (rows base) ∧ ACalls Try.prog f args' val rows ∧ (rows base).length ≤ 8 ∧ K (val base) (adopt T base (rows base)) ids ((List.range (rows base).length).map (base + ·))) → call f args T base K := fun h => hcaw (call_own h)
    have e1 : lt 4 0 = false := by rw [hlt]; decide
    have e2 : lt 6 4 = false := by rw [hlt]; decide
    cbv
    rw [e1]; cbv
    rw [e2]; cbv
    rw [hixs, hcel]; cbv
    exact hQ _ _ trivial (hfin _ (by cbv))
  · skip
    refine acalls_symF tabF_ok fn81 rfl rfl rfl (by kernel_rfl) ?_
    have hfin : ∀ st, resA Try.prog Try.f81 st = some (.flat (.int .i64 (takesI 5))) → G.Leaves Try.prog Try.f81 (fun _ => .flat (.int .i64 (takesI 5))) (fun _ => []) st := fun st h => G.Leaves.plain h rfl
    rintro ⟨lt, le, eq, se, ar, dv, una, conv, len, sln, nat, nth, ixs, cel, sto, app, cpy, slc, mak, ixv, oth, dk, ib, call⟩ hS hm Q hQ
    obtain ⟨hlt, hle, heq, hse, har, hdv, huna, hconv, hlen, hsln, hnat, hnth, hixs, hcel, hsto, happ, hcpy, hslc, hmak, hixv, hoth, hdk, hib, hcall⟩ := Sym.mk.inj hS
    clear hS
    have hnt : ∀ n : Nat, nat n = U.natI n := fun n => by rw [hnat]; rfl
    have hbox : ∀ e c off, cel (some ⟨e, [c]⟩) 0 off = if off ≤ c.length then some (c.drop off) else none := fun e c off => by rw [hcel]; rfl
    have hsbox : ∀ e c off sz y, sto (some ⟨e, [c]⟩) 0 off sz y = if y.cells.length = sz ∧ off + sz ≤ c.length ∧ y.cells.all AV.one = true then some ⟨e, [spl c off y.cells]⟩ else none := fun e c off sz y => by rw [hsto]; rfl
    have hcaw : ∀ {f args T base K}, CallK Try.prog f args T base K → call f args T base K := fun h => by rw [hcall]; exact h
    have hcal : ∀ {f args T base} {K : AV → Table → List Nat → List Nat → Prop}, (∃ args' ids val rows, Hands T ids args args' (val base) (rows base) ∧ ACalls Try.prog f args' val rows ∧ (rows base).length ≤ 8 ∧ K (val base) (adopt T base (rows base)) ids ((List.range (rows base).length).map (base + ·))) → call f args T base K := fun h => hcaw (call_own h)
    have e1 : lt 5 0 = false := by rw [hlt]; decide
    have e2 : lt 6 5 = false := by rw [hlt]; decide
    cbv
    rw [e1]; cbv
    rw [e2]; cbv
    rw [hixs, hcel]; cbv
    exact hQ _ _ trivial (hfin _ (by cbv))
  · skip
    refine acalls_symF tabF_ok fn81 rfl rfl rfl (by kernel_rfl) ?_
    have hfin : ∀ st, resA Try.prog Try.f81 st = some (.flat (.int .i64 (takesI 6))) → G.Leaves Try.prog Try.f81 (fun _ => .flat (.int .i64 (takesI 6))) (fun _ => []) st := fun st h => G.Leaves.plain h rfl
    rintro ⟨lt, le, eq, se, ar, dv, una, conv, len, sln, nat, nth, ixs, cel, sto, app, cpy, slc, mak, ixv, oth, dk, ib, call⟩ hS hm Q hQ
    obtain ⟨hlt, hle, heq, hse, har, hdv, huna, hconv, hlen, hsln, hnat, hnth, hixs, hcel, hsto, happ, hcpy, hslc, hmak, hixv, hoth, hdk, hib, hcall⟩ := Sym.mk.inj hS
    clear hS
    have hnt : ∀ n : Nat, nat n = U.natI n := fun n => by rw [hnat]; rfl
    have hbox : ∀ e c off, cel (some ⟨e, [c]⟩) 0 off = if off ≤ c.length then some (c.drop off) else none := fun e c off => by rw [hcel]; rfl
    have hsbox : ∀ e c off sz y, sto (some ⟨e, [c]⟩) 0 off sz y = if y.cells.length = sz ∧ off + sz ≤ c.length ∧ y.cells.all AV.one = true then some ⟨e, [spl c off y.cells]⟩ else none := fun e c off sz y => by rw [hsto]; rfl
    have hcaw : ∀ {f args T base K}, CallK Try.prog f args T base K → call f args T base K := fun h => by rw [hcall]; exact h
    have hcal : ∀ {f args T base} {K : AV → Table → List Nat → List Nat → Prop}, (∃ args' ids val rows, Hands T ids args args' (val base) (rows base) ∧ ACalls Try.prog f args' val rows ∧ (rows base).length ≤ 8 ∧ K (val base) (adopt T base (rows base)) ids ((List.range (rows base).length).map (base + ·))) → call f args T base K := fun h => hcaw (call_own h)
    have e1 : lt 6 0 = false := by rw [hlt]; decide
    have e2 : lt 6 6 = false := by rw [hlt]; decide
    cbv
    rw [e1]; cbv
    rw [e2]; cbv
    rw [hixs, hcel]; cbv
    exact hQ _ _ trivial (hfin _ (by cbv))
def SI (pre X : List (List AV)) (i w : Int) : Prop := ∃ us suf, X = pre ++ Rx.fl us ++ suf ∧ us ≠ [] ∧ i = pre.length + (Rx.fl us).length - 1 ∧ w = us.length
theorem fl_len (us : List Rx) : us.length ≤ (Rx.fl us).length := by
  induction us with
  | nil => simp [Rx.fl]
  | cons u r ih =>
    have := Rx.post_pos u
    simp only [Rx.fl, List.length_append, List.length_cons]; omega
theorem si_step {pre X : List (List AV)} {i w : Int} (hl : X.length ≤ 1000000) (h : SI pre X i w) : ∃ k a b c d : Int, nthE X i 5 = some (.rp (pc k a b c d)) ∧ 0 ≤ k ∧ k ≤ 6 ∧ 0 ≤ i ∧ ((i - 1 + 1).toNat < (i + 1).toNat) ∧ arI .sub .i64 i 1 = i - 1 ∧ ∃ w1 w2, arI .sub .i64 w 1 = w1 ∧ arI .add .i64 w1 (takesI k) = w2 ∧ (w2 = 0 → i = pre.length) ∧ (w2 ≠ 0 → SI pre X (i - 1) w2) := by
  obtain ⟨us, suf, hX, hne, hi, hw⟩ := h
  cases us with
  | nil => exact absurd rfl hne
  | cons u r =>
    obtain ⟨a, b, c, d, hr⟩ := Rx.root_shape u
    have hk := Rx.kind_ge u
    have hp := Rx.fl_pos u r
    have e := Rx.post_kids u r
    have hlen : (Rx.fl (u :: r)).length = (Rx.fl (u.kids ++ r)).length + 1 := by rw [e]; simp
    have hX2 : X = (pre ++ Rx.fl (u.kids ++ r)) ++ (u.root :: suf) := by rw [hX, e]; simp [List.append_assoc]
    have hXl : X.length = pre.length + (Rx.fl (u.kids ++ r)).length + 1 + suf.length := by rw [hX2]; simp; omega
    have hi2 : i.toNat = (pre ++ Rx.fl (u.kids ++ r)).length := by rw [List.length_append]; omega
    have hkl := fl_len (u.kids ++ r)
    have hkl2 : (u.kids ++ r).length = u.kids.length + r.length := List.length_append
    have hkk : u.kids.length ≤ 2 := by cases u <;> simp [Rx.kids]
    have ht := takes_kids u
    have hwr : w = (r.length : Int) + 1 := by rw [hw]; simp
    refine ⟨u.kind, a, b, c, d, ?_, hk.1, hk.2, by omega, by omega, ar_sub64 (by omega) (by omega), w - 1, w - 1 + takesI u.kind, ar_sub64 (by omega) (by omega), ar_add64 (by omega) (by omega), fun hz => ?_, fun hz => ⟨u.kids ++ r, u.root :: suf, hX2, fun hn => ?_, by omega, by omega⟩⟩
    · unfold nthE
      rw [if_pos (by omega), hX2, hi2, List.getElem?_append_right (Nat.le_refl _), Nat.sub_self]
      simp only [List.getElem?_cons_zero, Option.bind_some]
      rw [hr]; rfl
    · have h1 : (u.kids ++ r).length = 0 := by omega
      have h2 : u.kids ++ r = [] := List.length_eq_zero_iff.1 h1
      rw [h2] at hlen
      simp only [Rx.fl, List.length_nil] at hlen
      simp only [Rx.fl] at hi
      omega
    · have h1 : (u.kids ++ r).length = 0 := by rw [hn]; rfl
      omega
theorem start_calls (pre suf : List (List AV)) (u : Rx) (hl : (pre ++ u.post ++ suf).length ≤ 1000000) (i : Int) (hi : i = pre.length + u.post.length - 1) : ACalls Try.prog 82 [.ro (pre ++ u.post ++ suf), .flat (.int .i64 i)] (fun _ => .flat (.int .i64 (pre.length : Int))) (fun _ => []) := by
  have hz : SI pre (pre ++ u.post ++ suf) i 1 := ⟨[u], suf, by simp [Rx.fl], by simp, by simpa [Rx.fl] using hi, rfl⟩
  generalize pre ++ u.post ++ suf = X at *
  clear hi
  refine acalls_symF tabF_ok fn82 rfl rfl rfl (by kernel_rfl) ?_
  have hfin : ∀ st, resA Try.prog Try.f82 st = some (.flat (.int .i64 (pre.length : Int))) → G.Leaves Try.prog Try.f82 (fun _ => .flat (.int .i64 (pre.length : Int))) (fun _ => []) st := fun st h => G.Leaves.plain h rfl
  rintro ⟨lt, le, eq, se, ar, dv, una, conv, len, sln, nat, nth, ixs, cel, sto, app, cpy, slc, mak, ixv, oth, dk, ib, call⟩ hS hm Q hQ
  obtain ⟨hlt, hle, heq, hse, har, hdv, huna, hconv, hlen, hsln, hnat, hnth, hixs, hcel, hsto, happ, hcpy, hslc, hmak, hixv, hoth, hdk, hib, hcall⟩ := Sym.mk.inj hS
  clear hS
  have hnt : ∀ n : Nat, nat n = U.natI n := fun n => by rw [hnat]; rfl
  have hbox : ∀ e c off, cel (some ⟨e, [c]⟩) 0 off = if off ≤ c.length then some (c.drop off) else none := fun e c off => by rw [hcel]; rfl
  have hsbox : ∀ e c off sz y, sto (some ⟨e, [c]⟩) 0 off sz y = if y.cells.length = sz ∧ off + sz ≤ c.length ∧ y.cells.all AV.one = true then some ⟨e, [spl c off y.cells]⟩ else none := fun e c off sz y => by rw [hsto]; rfl
  have hcaw : ∀ {f args T base K}, CallK Try.prog f args T base K → call f args T base K := fun h => by rw [hcall]; exact h
  have hcal : ∀ {f args T base} {K : AV → Table → List Nat → List Nat → Prop}, (∃ args' ids val rows, Hands T ids args args' (val base) (rows base) ∧ ACalls Try.prog f args' val rows ∧ (rows base).length ≤ 8 ∧ K (val base) (adopt T base (rows base)) ids ((List.range (rows base).length).map (base + ·))) → call f args T base K := fun h => hcaw (call_own h)
  have hstep : ∀ i w, SI pre X i w → ∃ k a b c d : Int, nth X i 5 = some (.rp (pc k a b c d)) ∧ le 0 i = true ∧ ((i - 1 + 1).toNat < (i + 1).toNat) ∧ ar .sub .i64 i 1 = i - 1 ∧ ∃ w1 w2 w3, ar .sub .i64 w 1 = w1 ∧ ar .add .i64 w1 w2 = w3 ∧ (eq w3 0 = true → i = pre.length) ∧ (eq w3 0 = false → SI pre X (i - 1) w3) ∧ ACalls Try.prog 81 [.flat (.int .i64 k)] (fun _ => .flat (.int .i64 w2)) (fun _ => []) := fun i w h => by
    obtain ⟨k, a, b, c, d, q1, q2, q3, q4, q5, q6, w1, w2, q7, q8, q9, q10⟩ := si_step hl h
    refine ⟨k, a, b, c, d, by rw [hnth]; exact q1, by rw [hle]; exact decide_eq_true q4, q5, by rw [har]; exact q6, w1, takesI k, w2, by rw [har]; exact q7, by rw [har]; exact q8, fun h => q9 ?_, fun h => q10 ?_, takes_calls k q2 q3⟩
    · rw [heq] at h; exact of_decide_eq_true h
    · rw [heq] at h; exact of_decide_eq_false h
  generalize (pre.length : Int) = pl at *
  clear hl
  cbv
  refine MW_loop hm [] [0, 5, 6] 7 (by simp) (fun mz st => ∃ (j w : Int), SI pre X j w ∧ mz = (j + 1).toNat ∧ st = stOf [.ro X, .dead, .dead, .dead, .dead, .flat (.int .i64 w), .flat (.int .i64 j)] [] 0) ((i + 1).toNat) ?_ ?_
  · exact ⟨_, _, hz, rfl, cut_eq (by cbv) (by rfl)⟩
  rintro mz st ⟨j, w, hj, hmz, rfl⟩
  obtain ⟨k, a, b, c, d, q1, q2, q3, q4, w1, w2, w3, q5, q6, q7, q8, q9⟩ := hstep j w hj
  unfold pc at q1
  generalize j - 1 = j2 at q3 q4 q8
  cbv
  rw [q2]; cbv
  rw [q1]; cbv
  rw [q5]; cbv
  refine hcal ⟨_, [], _, _, .inl ⟨rfl, by cbv⟩, q9, by simp, ?_⟩
  cbv
  rw [q6]; cbv
  cases e1 : eq w3 0
  · cbv
    rw [q4]
    exact ⟨[], [0, 5, 6], 7, (j2 + 1).toNat, hmz ▸ q3, by simp, j2, w3, q8 e1, rfl, cut_eq (by cbv) (by rfl)⟩
  have e2 := q7 e1
  subst e2
  cbv
  exact hQ _ _ trivial (hfin _ (by cbv))
end Go.Proofs.Ytnceadbfgpiaaaa.N
/- Contracts: bosketref04.Parts, or. -/
namespace Go.Proofs.Ytnceadbfgpiaaaa.N
open Go G U K I J
set_option linter.unusedVariables false
set_option linter.unusedSimpArgs false
set_option maxRecDepth 100000
set_option maxHeartbeats 4000000
theorem fn75 : Try.prog.funcs[75]? = some Try.f75 := by kernel_rfl
theorem fn77 : Try.prog.funcs[77]? = some Try.f77 := by kernel_rfl
instance : Inhabited Rx := ⟨.eps⟩
theorem leaves_frz1 {P : Program} {fn : Func} {st : St} {k n t1 : Nat} {e : TypeId} {Y : List (List AV)} (hr : fn.results.toList = [.tmp t1]) (h1 : st.s t1 = .sl k 0 n) (hT : st.T k = some ⟨e, Y⟩) (hn : n = Y.length) (hY : ∀ c ∈ Y, closedAll [] c = true) : G.Leaves P fn (fun _ => .ro Y) (fun _ => []) st := by
  refine ⟨[], [k], [], .ro Y, [], ?_, List.nodup_nil, Nat.zero_le _, by simp [closedIn, closedAll], rfl, (fun r hr => by cases hr), fun m => ⟨ren_nil _ _ (by simp [closedIn, closedAll]), rfl⟩⟩
  show resA P fn (frz1 k st) = _
  rw [frz1_at hT hY]
  simp [resA, hr, resV, St.op, frzS, h1, badV, frzV, hn, AV.isDead, oneOf]
theorem u114 : Try.prog.underlying 114 = some (.slice 126) := by kernel_rfl
theorem u127 : Try.prog.underlying 127 = some (.slice 114) := by kernel_rfl
theorem z126 : tinfo Try.prog 126 = some (some (.agg #[.int .i64 0, .int .u64 0, .int .u64 0, .int .u64 0, .int .u64 0]), 5, 40) := by kernel_rfl
theorem z114 : tinfo Try.prog 114 = some (some (.slice none 0 0), 1, 24) := by kernel_rfl
theorem c114 : Try.prog.cellsOf 114 = 1 := by kernel_rfl
def partC (u : Rx) : List AV := [.ro u.post]
def partsC (u : Rx) : List (List AV) := u.kids.reverse.map partC
theorem fl_app (a b : List Rx) : Rx.fl (a ++ b) = Rx.fl b ++ Rx.fl a := by
  induction a with
  | nil => simp [Rx.fl]
  | cons x a ih => simp only [List.cons_append, Rx.fl, ih, List.append_assoc]
theorem closed_part {O : List (List AV)} {l : List Rx} (h : O = l.map partC) : ∀ c ∈ O, closedAll [] c = true := by
  rw [h]; exact closed_map fun _ => rfl
def PI (u : Rx) (k e : Int) (O : List (List AV)) : Prop := ∃ d r, u.kids = d ++ r ∧ k = r.length ∧ e = (Rx.fl r).length ∧ O = d.reverse.map partC
theorem post_at (u : Rx) : nthE u.post ((Rx.fl u.kids).length : Int) 5 = some (.rp u.root) ∧ u.post.length = (Rx.fl u.kids).length + 1 := by
  have e := Rx.post_kids u []
  simp only [Rx.fl, List.nil_append, List.append_nil] at e
  obtain ⟨a, b, c, d, hr⟩ := Rx.root_shape u
  refine ⟨?_, by rw [e]; simp⟩
  unfold nthE
  rw [if_pos (by omega), e, Int.toNat_natCast, List.getElem?_append_right (Nat.le_refl _), Nat.sub_self]
  simp only [List.getElem?_cons_zero, Option.bind_some]
  rw [hr]; rfl
theorem parts_len (u : Rx) {k e : Int} {O : List (List AV)} (h : PI u k e O) : O.length ≤ 2 ∧ ∀ c ∈ O, closedAll [] c = true ∧ c.length = 1 := by
  obtain ⟨d, r, h1, _, _, rfl⟩ := h
  have : u.kids.length ≤ 2 := by cases u <;> simp [Rx.kids]
  rw [h1, List.length_append] at this
  refine ⟨by simp; omega, fun c hc => ?_⟩
  obtain ⟨x, _, rfl⟩ := List.mem_map.1 hc
  exact ⟨rfl, rfl⟩
theorem parts_step {u : Rx} (hl : u.post.length ≤ 1000000) {k e : Int} {O : List (List AV)} (h : PI u k e O) (hk : 0 < k) : ∃ v s, arI .sub .i64 e 1 = e - 1 ∧ arI .sub .i64 k 1 = k - 1 ∧ (k - 1).toNat < k.toNat ∧ ACalls Try.prog 82 [.ro u.post, .flat (.int .i64 (e - 1))] (fun _ => .flat (.int .i64 s)) (fun _ => []) ∧ 0 ≤ s ∧ s ≤ e ∧ e ≤ u.post.length ∧ (u.post.take e.toNat).drop s.toNat = Rx.post v ∧ PI u (k - 1) s (partC v :: O) := by
  obtain ⟨d, r, h1, rfl, rfl, rfl⟩ := h
  cases r with
  | nil => simp at hk
  | cons v r =>
    have e1 := Rx.post_kids u []
    simp only [Rx.fl, List.nil_append, List.append_nil] at e1
    rw [h1, fl_app] at e1
    have e2 : u.post = Rx.fl r ++ v.post ++ (Rx.fl d ++ [u.root]) := by rw [e1]; simp [Rx.fl, List.append_assoc]
    have hvl := Rx.post_pos v
    have hul : u.post.length = (Rx.fl r).length + v.post.length + (Rx.fl d).length + 1 := by rw [e2]; simp; omega
    have hfl : (Rx.fl (v :: r)).length = (Rx.fl r).length + v.post.length := by simp [Rx.fl]
    have hc := start_calls (Rx.fl r) (Rx.fl d ++ [u.root]) v (by rw [← e2]; exact hl) (((Rx.fl (v :: r)).length : Int) - 1) (by rw [hfl]; omega)
    rw [← e2] at hc
    refine ⟨v, ((Rx.fl r).length : Int), ar_sub64 (by omega) (by omega), ar_sub64 (by omega) ?_, by simp, hc, by omega, by omega, by omega, ?_, d ++ [v], r, by rw [h1]; simp, by simp, rfl, by simp⟩
    · have := fl_len (v :: r); omega
    · rw [Int.toNat_natCast, Int.toNat_natCast, hfl, e2]
      rw [List.take_append_of_le_length (by simp), List.take_of_length_le (by simp), List.drop_left']
      rfl
theorem parts_calls (u : Rx) (hl : u.post.length ≤ 1000000) : ACalls Try.prog 75 [.ro u.post] (fun _ => .ro (partsC u)) (fun _ => []) := by
  obtain ⟨a, b, c, d, hr⟩ := Rx.root_shape u
  have hcT := takes_calls u.kind (Rx.kind_ge u).1 (Rx.kind_ge u).2
  rw [takes_kids] at hcT
  obtain ⟨hat, hpl⟩ := post_at u
  rw [hr] at hat
  have hstep := fun {k e : Int} {O : List (List AV)} => @parts_step u hl k e O
  have hlen2 := fun {k e : Int} {O : List (List AV)} => @parts_len u k e O
  have hsl : ∀ (T : Table) (i j : Int), 0 ≤ i → i ≤ j → j ≤ u.post.length → evSlice Try.prog T 114 (.ro u.post) (some (.flat (.int .i64 i))) (some (.flat (.int .i64 j))) = some (.ro ((u.post.take j.toNat).drop i.toNat)) := fun T i j h0 h1 h2 => slc_ro u114 z126 (fun c hc => (Rx.cells u c hc).1) (bnd_both h0 h1 h2)
  have hz : PI u (u.kids.length : Int) ((Rx.fl u.kids).length : Int) [] := ⟨[], u.kids, rfl, rfl, rfl, rfl⟩
  have hnk : (u.kids.length : Int).toNat = u.kids.length := Int.toNat_natCast _
  have hres : ∀ {e : Int} {k : Int} {O : List (List AV)}, PI u k e O → ¬ (0 < k) → O = partsC u := fun {e k O} h hk => by
    obtain ⟨d, r, h1, rfl, h3, h4⟩ := h
    have h0 : r.length = 0 := by omega
    have h5 : r = [] := List.length_eq_zero_iff.1 h0
    rw [h5, List.append_nil] at h1
    rw [h4, ← h1]; rfl
  have hap : ∀ (T : Table) (id k0 k n n2 : Nat) (c : List AV) (O Y : List (List AV)), Y = c :: O → O.length ≤ 2 → (∀ c ∈ O, c.length = 1) → c.length = 1 → n = O.length → n2 = n + 1 → T k0 = some ⟨114, [c]⟩ → T k = some ⟨114, O⟩ → k ≠ k0 → evAppend Try.prog T id 127 127 (.sl k0 0 1) (.sl k 0 n) = some (.sl id 0 n2, (T.set k0 none).set id (some ⟨114, Y⟩)) := fun T id k0 k n n2 c O Y h1 h2 h3 h4 h5 h6 h7 h8 h9 => by
    subst h1 h5 h6
    exact app_sl u127 u127 z114 c114 (by decide) rfl (by decide) h7 h8 h9 h3 (by simp) (Nat.le_refl _) (by omega) (by simp) (by omega)
  generalize hPk : PI u = PK at *
  have hXl : lenE u.post = (u.post.length : Int) := rfl
  generalize partsC u = RR at *
  generalize u.kids.length = kn at *
  generalize u.kind = uk at *
  generalize Rx.fl u.kids = FK at *
  generalize u.post = X at *
  generalize FK.length = m at *
  refine acalls_symF tabF_ok fn75 rfl rfl rfl (by kernel_rfl) ?_
  rintro ⟨lt, le, eq, se, ar, dv, una, conv, len, sln, nat, nth, ixs, cel, sto, app, cpy, slc, mak, ixv, oth, dk, ib, call⟩ hS hm Q hQ
  obtain ⟨hlt, hle, heq, hse, har, hdv, huna, hconv, hlen, hsln, hnat, hnth, hixs, hcel, hsto, happ, hcpy, hslc, hmak, hixv, hoth, hdk, hib, hcall⟩ := Sym.mk.inj hS
  clear hS
  have hnt : ∀ n : Nat, nat n = U.natI n := fun n => by rw [hnat]; rfl
  have hbox : ∀ e c off, cel (some ⟨e, [c]⟩) 0 off = if off ≤ c.length then some (c.drop off) else none := fun e c off => by rw [hcel]; rfl
  have hsbox : ∀ e c off sz y, sto (some ⟨e, [c]⟩) 0 off sz y = if y.cells.length = sz ∧ off + sz ≤ c.length ∧ y.cells.all AV.one = true then some ⟨e, [spl c off y.cells]⟩ else none := fun e c off sz y => by rw [hsto]; rfl
  have hcaw : ∀ {f args T base K}, CallK Try.prog f args T base K → call f args T base K := fun h => by rw [hcall]; exact h
  have hcal : ∀ {f args T base} {K : AV → Table → List Nat → List Nat → Prop}, (∃ args' ids val rows, Hands T ids args args' (val base) (rows base) ∧ ACalls Try.prog f args' val rows ∧ (rows base).length ≤ 8 ∧ K (val base) (adopt T base (rows base)) ids ((List.range (rows base).length).map (base + ·))) → call f args T base K := fun h => hcaw (call_own h)
  have hm1 : ar .sub .i64 (len X) 1 = (m : Int) := by
    rw [hlen, hXl, har, ar_sub64 (by omega) (by omega)]; omega
  have hat : nth X (m : Int) 5 = some (.rp (pc uk a b c d)) := by rw [hnth]; exact hat
  have hst : ∀ {k e : Int} {O : List (List AV)}, PK k e O → lt 0 k = true → ∃ v s, ar .sub .i64 e 1 = e - 1 ∧ ar .sub .i64 k 1 = k - 1 ∧ (k - 1).toNat < k.toNat ∧ ACalls Try.prog 82 [.ro X, .flat (.int .i64 (e - 1))] (fun _ => .flat (.int .i64 s)) (fun _ => []) ∧ (∀ T, slc T 114 (.ro X) (some (.flat (.int .i64 s))) (some (.flat (.int .i64 e))) = some (.ro (Rx.post v))) ∧ PK (k - 1) s (partC v :: O) := fun {k e O} h hc => by
    rw [hlt] at hc
    obtain ⟨v, s, q1, q2, q3, q4, q5, q6, q7, q8, q9⟩ := hstep h (of_decide_eq_true hc)
    exact ⟨v, s, by rw [har]; exact q1, by rw [har]; exact q2, q3, q4, fun T => by rw [hslc, hsl T s e q5 q6 q7, q8], q9⟩
  have hres : ∀ {e k : Int} {O : List (List AV)}, PK k e O → lt 0 k = false → O = RR := fun {e k O} h hc => by
    rw [hlt] at hc
    exact hres h (of_decide_eq_false hc)
  replace hap : ∀ (T : Table) (id k0 k n n2 : Nat) (c : List AV) (O Y : List (List AV)), Y = c :: O → O.length ≤ 2 → (∀ c ∈ O, c.length = 1) → c.length = 1 → n = O.length → n2 = n + 1 → T k0 = some ⟨114, [c]⟩ → T k = some ⟨114, O⟩ → k ≠ k0 → app T id 127 127 (.sl k0 0 1) (.sl k 0 n) = some (.sl id 0 n2, (T.set k0 none).set id (some ⟨114, Y⟩)) := by rw [happ]; exact hap
  generalize hM : (m : Int) = mI at hm1 hat hz
  generalize hKn : (kn : Int) = kI at *
  clear hstep hsl hpl hXl hM hl hr
  unfold pc at hat
  cbv
  rw [hm1]; cbv
  rw [hat]; cbv
  refine hcal ⟨_, [], _, _, .inl ⟨rfl, by cbv⟩, hcT, by simp, ?_⟩
  cbv
  refine MW_loopZ hm [.slot 4 114] [120] [0, 4, 5, 6] 7 (by simp) (fun mz st => ∃ (k e : Int) (n : Nat) (O : List (List AV)), PK k e O ∧ n = O.length ∧ mz = k.toNat ∧ st = stOf [.ro X, .dead, .dead, .dead, .sl 0 0 n, .flat (.int .i64 e), .flat (.int .i64 k)] [some ⟨114, O⟩] 1) (kI.toNat) ?_ ?_
  · exact ⟨_, _, 0, [], hz, rfl, rfl, cut_eq (by cbv) (cutRows_cons (by rfl) (fun c hc => by cases hc) rfl)⟩
  rintro mz st ⟨k, e, n, O, hO, hn, hmz, rfl⟩
  have hO2 := hlen2 hO
  cases hc : lt 0 k
  · have e1 := hres hO hc
    cbv
    rw [hc]; cbv
    subst e1
    exact hQ _ _ trivial (leaves_frz1 rfl rfl rfl hn fun c hc => (hO2.2 c hc).1)
  obtain ⟨v, s, q1, q2, q3, q4, q5, q6⟩ := hst hO hc
  generalize e - 1 = e2 at q1 q4
  generalize k - 1 = k2 at q2 q3 q6
  obtain ⟨O2, hOO⟩ : ∃ O2, O2 = partC v :: O := ⟨_, rfl⟩
  rw [← hOO] at q6
  have hap2 := fun (T : Table) (id k0 k : Nat) => hap T id k0 k n (n + 1) (partC v) O O2 hOO hO2.1 (fun c hc => (hO2.2 c hc).2) rfl hn rfl
  have hn2 : n + 1 = O2.length := by rw [hOO, hn]; rfl
  have hO3 := (hlen2 q6).2
  clear hOO hap
  unfold partC at hap2
  generalize Rx.post v = pv at q5 hap2
  generalize n + 1 = n2 at hap2 hn2
  cbv
  rw [hc]; cbv
  rw [q1]; cbv
  refine hcal ⟨_, [], _, _, .inl ⟨rfl, by cbv⟩, q4, by simp, ?_⟩
  cbv
  rw [q5]; cbv
  rw [hap2 _ _ _ _ rfl rfl (by decide)]; cbv
  rw [q2]
  exact ⟨[105], [0, 4, 5, 6], 7, k2.toNat, hmz ▸ q3, by simp, k2, _, n2, O2, q6, hn2, rfl, cut_eq (by cbv) (cutRows_cons (by rfl) (fun c hc => (hO3 c hc).1) rfl)⟩
def bC (b : Bool) : List (List AV) := [[.flat (.bool b)]]
theorem u53 : Try.prog.underlying 53 = some (.slice 4) := by kernel_rfl
theorem z4 : tinfo Try.prog 4 = some (some (.bool false), 1, 1) := by kernel_rfl
theorem c4 : Try.prog.cellsOf 4 = 1 := by kernel_rfl
theorem or_calls (a b : Bool) : ACalls Try.prog 77 [.ro (bC a), .ro (bC b)] (fun _ => .ro (bC (a || b))) (fun _ => []) := by
  have hA : lenE (bC a) = 1 ∧ nthE (bC a) 0 1 = some (.rp [.flat (.bool a)]) := ⟨rfl, rfl⟩
  have hB : lenE (bC b) = 1 ∧ nthE (bC b) 0 1 = some (.rp [.flat (.bool b)]) := ⟨rfl, rfl⟩
  generalize bC a = A at *
  generalize bC b = B at *
  refine acalls_symF tabF_ok fn77 rfl rfl rfl (by kernel_rfl) ?_
  rintro ⟨lt, le, eq, se, ar, dv, una, conv, len, sln, nat, nth, ixs, cel, sto, app, cpy, slc, mak, ixv, oth, dk, ib, call⟩ hS hm Q hQ
  obtain ⟨hlt, hle, heq, hse, har, hdv, huna, hconv, hlen, hsln, hnat, hnth, hixs, hcel, hsto, happ, hcpy, hslc, hmak, hixv, hoth, hdk, hib, hcall⟩ := Sym.mk.inj hS
  clear hS
  have hnt : ∀ n : Nat, nat n = U.natI n := fun n => by rw [hnat]; rfl
  have hbox : ∀ e c off, cel (some ⟨e, [c]⟩) 0 off = if off ≤ c.length then some (c.drop off) else none := fun e c off => by rw [hcel]; rfl
  have hsbox : ∀ e c off sz y, sto (some ⟨e, [c]⟩) 0 off sz y = if y.cells.length = sz ∧ off + sz ≤ c.length ∧ y.cells.all AV.one = true then some ⟨e, [spl c off y.cells]⟩ else none := fun e c off sz y => by rw [hsto]; rfl
  have hcaw : ∀ {f args T base K}, CallK Try.prog f args T base K → call f args T base K := fun h => by rw [hcall]; exact h
  have hcal : ∀ {f args T base} {K : AV → Table → List Nat → List Nat → Prop}, (∃ args' ids val rows, Hands T ids args args' (val base) (rows base) ∧ ACalls Try.prog f args' val rows ∧ (rows base).length ≤ 8 ∧ K (val base) (adopt T base (rows base)) ids ((List.range (rows base).length).map (base + ·))) → call f args T base K := fun h => hcaw (call_own h)
  have hA : len A = 1 ∧ nth A 0 1 = some (.rp [.flat (.bool a)]) := by rw [hlen, hnth]; exact hA
  have hB : nth B 0 1 = some (.rp [.flat (.bool b)]) := by rw [hnth]; exact hB.2
  have e0 : lt 0 1 = true := by rw [hlt]; decide
  have e1 : lt 1 1 = false := by rw [hlt]; decide
  have e2 : ar .add .i64 0 1 = 1 := by rw [har]; rfl
  obtain ⟨hA1, hA2⟩ := hA
  have hap : ∀ (T : Table) (id k0 k : Nat) (v : Bool), T k0 = some ⟨4, []⟩ → T k = some ⟨4, [[.flat (.bool v)]]⟩ → k ≠ k0 → app T id 53 53 (.sl k0 0 0) (.sl k 0 1) = some (.sl id 0 1, (T.set k0 none).set id (some ⟨4, bC v⟩)) := fun T id k0 k v h1 h2 h3 => by
    rw [happ]
    exact app_tip u53 z4 c4 (by decide) rfl (by decide) h1 h2 h3 rfl (by simp) rfl rfl (by decide)
  have hcl : ∀ v, ∀ c ∈ bC v, closedAll [] c = true := fun v c hc => by simp only [bC, List.mem_singleton] at hc; subst hc; rfl
  have hbl : ∀ v, 1 = (bC v).length := fun v => rfl
  generalize hR : bC (a || b) = R
  cbv
  refine MW_loopZ hm [.slot 5 4] [24] [0, 1, 5, 6] 7 (by simp) (fun mz st => ∃ (i : Int) (n : Nat) (O : List (List AV)), ((i = 0 ∧ n = 0 ∧ O = []) ∨ (i = 1 ∧ n = 1 ∧ O = R)) ∧ mz = (1 - i).toNat ∧ st = stOf [.ro A, .ro B, .dead, .dead, .dead, .sl 0 0 n, .flat (.int .i64 i)] [some ⟨4, O⟩] 1) (((1 : Int) - 0).toNat) ?_ ?_
  · exact ⟨0, 0, [], .inl ⟨rfl, rfl, rfl⟩, rfl, cut_eq (by cbv) (cutRows_cons (by rfl) (fun c hc => by cases hc) rfl)⟩
  rintro mz st ⟨i, n, O, hO, hmz, rfl⟩
  rcases hO with ⟨rfl, rfl, rfl⟩ | ⟨rfl, rfl, rfl⟩
  rotate_left
  · cbv
    rw [hA1]; cbv
    rw [e1]; cbv
    subst hR
    exact hQ _ _ trivial (leaves_frz1 rfl rfl rfl (hbl _) (hcl _))
  cbv
  rw [hA1]; cbv
  rw [e0]; cbv
  rw [hA2]; cbv
  cases a
  · cbv
    rw [hB]; cbv
    rw [hap _ _ _ _ _ rfl rfl (by decide)]; cbv
    rw [e2]
    subst hR
    exact ⟨[129], [0, 1, 5, 6], 7, 0, by rw [hmz]; decide, by simp, 1, 1, _, .inr ⟨rfl, rfl, rfl⟩, rfl, cut_eq (by cbv) (cutRows_cons (by rfl) (hcl _) rfl)⟩
  cbv
  rw [hap _ _ _ _ _ rfl rfl (by decide)]; cbv
  rw [e2]
  subst hR
  exact ⟨[129], [0, 1, 5, 6], 7, 0, by rw [hmz]; decide, by simp, 1, 1, _, .inr ⟨rfl, rfl, rfl⟩, rfl, cut_eq (by cbv) (cutRows_cons (by rfl) (hcl _) rfl)⟩
end Go.Proofs.Ytnceadbfgpiaaaa.N
