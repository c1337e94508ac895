/- N5, N6, one behind the other. -/
import Derived.Test.YtnceadbfgpiaaaaQ13
import Derived.Test.YtnceadbfgpiaaaaQ10
/- Contracts: bosketref04.again, ends, Has, on the empty text. -/
namespace Go.Proofs.Ytnceadbfgpiaaaa.N
open Go G U K I J
set_option linter.unusedVariables false
set_option linter.unusedSimpArgs false
set_option maxRecDepth 100000
set_option maxHeartbeats 4000000
theorem fn71 : Try.prog.funcs[71]? = some Try.f71 := by kernel_rfl
theorem fn78 : Try.prog.funcs[78]? = some Try.f78 := by kernel_rfl
theorem fn68 : Try.prog.funcs[68]? = some Try.f68 := by kernel_rfl
theorem dvb4 (a b : Bool) : dvOf Try.prog .eql 4 (.flat (.bool a)) (.flat (.bool b)) = some (.flat (.bool (a == b))) := by
  rw [dvOf_eq]
  intro x y
  cases a <;> cases b <;> kernel_rfl
def eTx : ByteArray := ⟨#[]⟩
theorem again_calls (x : Rx) (b e : Bool) (hx : ACalls Try.prog 71 [.ro x.post, .flat (.string eTx), .ro (bC b)] (fun _ => .ro (bC e)) (fun _ => [])) : ACalls Try.prog 78 [.ro x.post, .flat (.string eTx), .ro (bC b)] (fun _ => .ro (bC (b || e))) (fun _ => []) := by
  have hor := or_calls b e
  have hA : lenE (bC b) = 1 ∧ nthE (bC b) 0 1 = some (.rp [.flat (.bool b)]) := ⟨rfl, rfl⟩
  have hB : lenE (bC (b || e)) = 1 ∧ nthE (bC (b || e)) 0 1 = some (.rp [.flat (.bool (b || e))]) := ⟨rfl, rfl⟩
  obtain ⟨s, hs⟩ : ∃ s, s = eTx := ⟨_, rfl⟩
  rw [← hs] at hx ⊢
  have hs0 : (s.size : Int) = 0 := by rw [hs]; rfl
  clear hs
  generalize bC b = A at *
  generalize bC e = E at *
  generalize (b || e) = m at *
  generalize bC m = M at *
  generalize x.post = X at *
  refine acalls_symF tabF_ok fn78 rfl rfl rfl (by kernel_rfl) ?_
  have hfin : ∀ st, resA Try.prog Try.f78 st = some (.ro M) → G.Leaves Try.prog Try.f78 (fun _ => .ro M) (fun _ => []) st := fun st h => G.Leaves.plain h rfl
  rintro ⟨lt, le, eq, se, ar, dv, una, conv, len, sln, nat, nth, ixs, cel, sto, app, cpy, slc, mak, ixv, oth, dk, ib, call⟩ hS hm Q hQ
  obtain ⟨hlt, hle, heq, hse, har, hdv, huna, hconv, hlen, hsln, hnat, hnth, hixs, hcel, hsto, happ, hcpy, hslc, hmak, hixv, hoth, hdk, hib, hcall⟩ := Sym.mk.inj hS
  clear hS
  have hnt : ∀ n : Nat, nat n = U.natI n := fun n => by rw [hnat]; rfl
  have hbox : ∀ e c off, cel (some ⟨e, [c]⟩) 0 off = if off ≤ c.length then some (c.drop off) else none := fun e c off => by rw [hcel]; rfl
  have hsbox : ∀ e c off sz y, sto (some ⟨e, [c]⟩) 0 off sz y = if y.cells.length = sz ∧ off + sz ≤ c.length ∧ y.cells.all AV.one = true then some ⟨e, [spl c off y.cells]⟩ else none := fun e c off sz y => by rw [hsto]; rfl
  have hcaw : ∀ {f args T base K}, CallK Try.prog f args T base K → call f args T base K := fun h => by rw [hcall]; exact h
  have hcal : ∀ {f args T base} {K : AV → Table → List Nat → List Nat → Prop}, (∃ args' ids val rows, Hands T ids args args' (val base) (rows base) ∧ ACalls Try.prog f args' val rows ∧ (rows base).length ≤ 8 ∧ K (val base) (adopt T base (rows base)) ids ((List.range (rows base).length).map (base + ·))) → call f args T base K := fun h => hcaw (call_own h)
  have hA : len A = 1 ∧ nth A 0 1 = some (.rp [.flat (.bool b)]) := by rw [hlen, hnth]; exact hA
  have hB : len M = 1 ∧ nth M 0 1 = some (.rp [.flat (.bool m)]) := by rw [hlen, hnth]; exact hB
  have hs1 : sln s = 0 := by rw [hsln]; exact hs0
  have l0 : lt 0 1 = true := by rw [hlt]; decide
  have l1 : lt 1 1 = false := by rw [hlt]; decide
  have g0 : le 0 0 = true := by rw [hle]; decide
  have g1 : le 1 0 = false := by rw [hle]; decide
  have e2 : ar .add .i64 0 1 = 1 := by rw [har]; rfl
  have hdb : dv .eql 4 (.flat (.bool m)) (.flat (.bool b)) = some (.flat (.bool (m == b))) := by rw [hdv]; exact dvb4 m b
  obtain ⟨hA1, hA2⟩ := hA
  obtain ⟨hB1, hB2⟩ := hB
  clear hs0
  generalize hsame : (m == b) = same at hdb
  clear hsame
  cbv
  refine MW_loop hm [] [0, 1, 2, 7] 8 (by simp) (fun mz st => ∃ (i : Int) (F : List (List AV)), ((i = 0 ∧ F = A) ∨ (i = 1 ∧ F = M)) ∧ mz = (1 - i).toNat ∧ st = stOf [.ro X, .flat (.string s), .ro F, .dead, .dead, .dead, .dead, .flat (.int .i64 i)] [] 0) (((1 : Int) - 0).toNat) ?_ ?_
  · exact ⟨0, A, .inl ⟨rfl, rfl⟩, rfl, cut_eq (by cbv) (by rfl)⟩
  rintro mz st ⟨i, F, hF, hmz, rfl⟩
  rcases hF with ⟨rfl, rfl⟩ | ⟨rfl, rfl⟩
  rotate_left
  · cbv
    rw [hs1]; cbv
    rw [g1]; cbv
    exact hQ _ _ trivial (hfin _ (by cbv))
  cbv
  rw [hs1]; cbv
  rw [g0]; cbv
  refine hcal ⟨_, [], _, _, .inl ⟨rfl, by cbv⟩, hx, by simp, ?_⟩
  cbv
  refine hcal ⟨_, [], _, _, .inl ⟨rfl, by cbv⟩, hor, by simp, ?_⟩
  cbv
  refine MW_loop hm [] [0, 1, 2, 7, 8, 9, 10] 11 (by simp) (fun mz st => ∃ (j : Int) (q : Bool), ((j = 0 ∧ q = true) ∨ (j = 1 ∧ q = same)) ∧ mz = (1 - j).toNat ∧ st = stOf [.ro X, .flat (.string s), .ro F, .dead, .dead, .dead, .dead, .flat (.int .i64 0), .ro M, .flat (.bool q), .flat (.int .i64 j)] [] 0) (((1 : Int) - 0).toNat) ?_ ?_
  · exact ⟨0, true, .inl ⟨rfl, rfl⟩, rfl, cut_eq (by cbv) (by rfl)⟩
  rintro mb st ⟨j, q, hj, hmb, rfl⟩
  rcases hj with ⟨rfl, rfl⟩ | ⟨rfl, rfl⟩
  · cbv
    rw [hB1]; cbv
    rw [l0]; cbv
    refine ⟨by rw [hdk]; kernel_rfl, ?_⟩
    rw [hB2]; cbv
    rw [hA2]; cbv
    rw [hdb]; cbv
    refine ⟨by rw [hib]; kernel_rfl, ?_⟩
    cbv
    rw [e2]
    exact ⟨[], [0, 1, 2, 7, 8, 9, 10], 11, 0, by rw [hmb]; decide, by simp, 1, same, .inr ⟨rfl, rfl⟩, rfl, cut_eq (by cbv) (by rfl)⟩
  cbv
  rw [hB1]; cbv
  rw [l1]; cbv
  cases q
  · cbv
    rw [e2]
    exact ⟨[], [0, 1, 2, 7], 8, 0, by rw [hmz]; decide, by simp, 1, M, .inr ⟨rfl, rfl⟩, rfl, cut_eq (by cbv) (by rfl)⟩
  cbv
  exact hQ _ _ trivial (hfin _ (by cbv))
def eT : Rx → Bool → Bool
  | .eps, b => b
  | .set _ _ _ _, _ => false
  | .cat x y, b => eT y (eT x b)
  | .alt x y, b => eT x b || eT y b
  | .un k x, b => if k.val = 1 then eT x b || eT x (eT x b) else b || eT x b
theorem ends_eps (b : Bool) (hl : (Rx.eps).post.length ≤ 1000000) : ACalls Try.prog 71 [.ro (Rx.eps).post, .flat (.string eTx), .ro (bC b)] (fun _ => .ro (bC (b))) (fun _ => []) := by
  have hcP := parts_calls (Rx.eps) hl
  obtain ⟨hat, hpl⟩ := post_at (Rx.eps)
  have hPP : partsC (Rx.eps) = [] := rfl
  have hXl : lenE (Rx.eps).post = ((Rx.fl (Rx.eps).kids).length : Int) + 1 := by rw [← Int.natCast_succ, Nat.succ_eq_add_one, ← hpl]; rfl
  rw [hPP] at hcP
  have hA : lenE (bC b) = 1 := rfl
  obtain ⟨s, hs⟩ : ∃ s, s = eTx := ⟨_, rfl⟩
  have hs0 : (s.size : Int) = 0 := by rw [hs]; rfl
  rw [← hs] at ⊢
  clear hs
  obtain ⟨m, hm⟩ : ∃ m : Nat, m = (Rx.fl (Rx.eps).kids).length := ⟨_, rfl⟩
  rw [← hm] at hat hXl hpl
  have hmr : m ≤ 1000000 := by omega
  clear hm hPP hpl hl
  generalize (Rx.eps).post = X at hat hXl hcP ⊢
  unfold Rx.root pc at hat
  generalize bC b = A at *
  refine acalls_symF tabF_ok fn71 rfl rfl rfl (by kernel_rfl) ?_
  have hfin : ∀ st, resA Try.prog Try.f71 st = some (.ro A) → G.Leaves Try.prog Try.f71 (fun _ => .ro A) (fun _ => []) st := fun st h => G.Leaves.plain h rfl
  rintro ⟨lt, le, eq, se, ar, dv, una, conv, len, sln, nat, nth, ixs, cel, sto, app, cpy, slc, mak, ixv, oth, dk, ib, call⟩ hS hm Q hQ
  obtain ⟨hlt, hle, heq, hse, har, hdv, huna, hconv, hlen, hsln, hnat, hnth, hixs, hcel, hsto, happ, hcpy, hslc, hmak, hixv, hoth, hdk, hib, hcall⟩ := Sym.mk.inj hS
  clear hS
  have hnt : ∀ n : Nat, nat n = U.natI n := fun n => by rw [hnat]; rfl
  have hbox : ∀ e c off, cel (some ⟨e, [c]⟩) 0 off = if off ≤ c.length then some (c.drop off) else none := fun e c off => by rw [hcel]; rfl
  have hsbox : ∀ e c off sz y, sto (some ⟨e, [c]⟩) 0 off sz y = if y.cells.length = sz ∧ off + sz ≤ c.length ∧ y.cells.all AV.one = true then some ⟨e, [spl c off y.cells]⟩ else none := fun e c off sz y => by rw [hsto]; rfl
  have hcaw : ∀ {f args T base K}, CallK Try.prog f args T base K → call f args T base K := fun h => by rw [hcall]; exact h
  have hcal : ∀ {f args T base} {K : AV → Table → List Nat → List Nat → Prop}, (∃ args' ids val rows, Hands T ids args args' (val base) (rows base) ∧ ACalls Try.prog f args' val rows ∧ (rows base).length ≤ 8 ∧ K (val base) (adopt T base (rows base)) ids ((List.range (rows base).length).map (base + ·))) → call f args T base K := fun h => hcaw (call_own h)
  have hm1 : ar .sub .i64 (len X) 1 = (m : Int) := by
    rw [hlen, hXl, har, ar_sub64 (by omega) (by omega)]; omega
  replace hat := (show nth X (m : Int) 5 = nthE X (m : Int) 5 from by rw [hnth]).trans hat
  have hA1 : len A = 1 := by rw [hlen]; exact hA
  have hs1 : sln s = 0 := by rw [hsln]; exact hs0
  have hmk : mak (fun x => none) 24 53 (.flat (.int .i64 1)) (.flat (.int .i64 1)) = some (.sl 24 0 1, Table.set (fun x => none) 24 (some ⟨4, bC false⟩)) := by
    rw [hmak]; exact mak_zero (n := 1) u53 z4 (by decide) rfl rfl (by decide) (by decide)
  have k0 : eq 0 0 = true := by rw [heq]; decide
  generalize hM : (m : Int) = mI at hm1 hat
  clear hXl hmr hM hA hs0
  cbv
  rw [hA1]; cbv
  rw [hmk]; cbv
  refine hcal ⟨_, [], _, _, .inl ⟨rfl, by cbv⟩, hcP, by simp, ?_⟩
  cbv
  rw [hm1]; cbv
  rw [hat]; cbv
  rw [k0]; cbv
  exact hQ _ _ trivial (hfin _ (by cbv))
theorem ends_set (p q r t : Int) (b : Bool) (hl : (Rx.set p q r t).post.length ≤ 1000000) : ACalls Try.prog 71 [.ro (Rx.set p q r t).post, .flat (.string eTx), .ro (bC b)] (fun _ => .ro (bC (false))) (fun _ => []) := by
  have hcP := parts_calls (Rx.set p q r t) hl
  obtain ⟨hat, hpl⟩ := post_at (Rx.set p q r t)
  have hPP : partsC (Rx.set p q r t) = [] := rfl
  have hXl : lenE (Rx.set p q r t).post = ((Rx.fl (Rx.set p q r t).kids).length : Int) + 1 := by rw [← Int.natCast_succ, Nat.succ_eq_add_one, ← hpl]; rfl
  rw [hPP] at hcP
  have hA : lenE (bC b) = 1 := rfl
  obtain ⟨s, hs⟩ : ∃ s, s = eTx := ⟨_, rfl⟩
  have hs0 : (s.size : Int) = 0 := by rw [hs]; rfl
  rw [← hs] at ⊢
  clear hs
  obtain ⟨m, hm⟩ : ∃ m : Nat, m = (Rx.fl (Rx.set p q r t).kids).length := ⟨_, rfl⟩
  rw [← hm] at hat hXl hpl
  have hmr : m ≤ 1000000 := by omega
  clear hm hPP hpl hl
  generalize (Rx.set p q r t).post = X at hat hXl hcP ⊢
  unfold Rx.root pc at hat
  generalize bC b = A at *
  refine acalls_symF tabF_ok fn71 rfl rfl rfl (by kernel_rfl) ?_
  rintro ⟨lt, le, eq, se, ar, dv, una, conv, len, sln, nat, nth, ixs, cel, sto, app, cpy, slc, mak, ixv, oth, dk, ib, call⟩ hS hm Q hQ
  obtain ⟨hlt, hle, heq, hse, har, hdv, huna, hconv, hlen, hsln, hnat, hnth, hixs, hcel, hsto, happ, hcpy, hslc, hmak, hixv, hoth, hdk, hib, hcall⟩ := Sym.mk.inj hS
  clear hS
  have hnt : ∀ n : Nat, nat n = U.natI n := fun n => by rw [hnat]; rfl
  have hbox : ∀ e c off, cel (some ⟨e, [c]⟩) 0 off = if off ≤ c.length then some (c.drop off) else none := fun e c off => by rw [hcel]; rfl
  have hsbox : ∀ e c off sz y, sto (some ⟨e, [c]⟩) 0 off sz y = if y.cells.length = sz ∧ off + sz ≤ c.length ∧ y.cells.all AV.one = true then some ⟨e, [spl c off y.cells]⟩ else none := fun e c off sz y => by rw [hsto]; rfl
  have hcaw : ∀ {f args T base K}, CallK Try.prog f args T base K → call f args T base K := fun h => by rw [hcall]; exact h
  have hcal : ∀ {f args T base} {K : AV → Table → List Nat → List Nat → Prop}, (∃ args' ids val rows, Hands T ids args args' (val base) (rows base) ∧ ACalls Try.prog f args' val rows ∧ (rows base).length ≤ 8 ∧ K (val base) (adopt T base (rows base)) ids ((List.range (rows base).length).map (base + ·))) → call f args T base K := fun h => hcaw (call_own h)
  have hm1 : ar .sub .i64 (len X) 1 = (m : Int) := by
    rw [hlen, hXl, har, ar_sub64 (by omega) (by omega)]; omega
  replace hat := (show nth X (m : Int) 5 = nthE X (m : Int) 5 from by rw [hnth]).trans hat
  have hA1 : len A = 1 := by rw [hlen]; exact hA
  have hs1 : sln s = 0 := by rw [hsln]; exact hs0
  have hmk : mak (fun x => none) 24 53 (.flat (.int .i64 1)) (.flat (.int .i64 1)) = some (.sl 24 0 1, Table.set (fun x => none) 24 (some ⟨4, bC false⟩)) := by
    rw [hmak]; exact mak_zero (n := 1) u53 z4 (by decide) rfl rfl (by decide) (by decide)
  have k0 : eq 1 0 = false := by rw [heq]; decide
  have k1 : eq 1 1 = true := by rw [heq]; decide
  have l0 : lt 0 0 = false := by rw [hlt]; decide
  have hcl : ∀ c ∈ bC false, closedAll [] c = true := fun c hc => by simp only [bC, List.mem_singleton] at hc; subst hc; rfl
  have hbl : 1 = (bC false).length := rfl
  generalize bC false = FF at *
  generalize hM : (m : Int) = mI at hm1 hat
  clear hXl hmr hM hA hs0
  cbv
  rw [hA1]; cbv
  rw [hmk]; cbv
  refine hcal ⟨_, [], _, _, .inl ⟨rfl, by cbv⟩, hcP, by simp, ?_⟩
  cbv
  rw [hm1]; cbv
  rw [hat]; cbv
  rw [k0]; cbv
  rw [k1]; cbv
  refine MW_loop hm [24] [0, 1, 2, 7, 9] 10 (by simp) (fun mz st => mz = 0 ∧ st = stOf [.ro X, .flat (.string s), .ro A, .dead, .dead, .dead, .dead, .sl 0 0 1, .dead, .flat (.int .i64 0)] [some ⟨4, FF⟩] 1) (0) ?_ ?_
  · exact ⟨rfl, cut_eq (by cbv) (cutRows_cons (by rfl) (hcl) rfl)⟩
  rintro mz st ⟨hmz, rfl⟩
  cbv
  rw [hs1]; cbv
  rw [l0]; cbv
  exact hQ _ _ trivial (leaves_frz1 rfl rfl rfl hbl hcl)
theorem ends_cat (x y : Rx) (b : Bool) (hl : (Rx.cat x y).post.length ≤ 1000000) (e : Bool) (hx : ACalls Try.prog 71 [.ro x.post, .flat (.string eTx), .ro (bC b)] (fun _ => .ro (bC e)) (fun _ => [])) (f : Bool) (hy : ACalls Try.prog 71 [.ro y.post, .flat (.string eTx), .ro (bC e)] (fun _ => .ro (bC f)) (fun _ => [])) : ACalls Try.prog 71 [.ro (Rx.cat x y).post, .flat (.string eTx), .ro (bC b)] (fun _ => .ro (bC (f))) (fun _ => []) := by
  have hcP := parts_calls (Rx.cat x y) hl
  obtain ⟨hat, hpl⟩ := post_at (Rx.cat x y)
  have hPP : partsC (Rx.cat x y) = [partC x, partC y] := rfl
  have hXl : lenE (Rx.cat x y).post = ((Rx.fl (Rx.cat x y).kids).length : Int) + 1 := by rw [← Int.natCast_succ, Nat.succ_eq_add_one, ← hpl]; rfl
  rw [hPP] at hcP
  have hA : lenE (bC b) = 1 := rfl
  obtain ⟨s, hs⟩ : ∃ s, s = eTx := ⟨_, rfl⟩
  have hs0 : (s.size : Int) = 0 := by rw [hs]; rfl
  rw [← hs] at hx hy ⊢
  clear hs
  obtain ⟨m, hm⟩ : ∃ m : Nat, m = (Rx.fl (Rx.cat x y).kids).length := ⟨_, rfl⟩
  rw [← hm] at hat hXl hpl
  have hmr : m ≤ 1000000 := by omega
  clear hm hPP hpl hl
  generalize (Rx.cat x y).post = X at hat hXl hcP ⊢
  unfold Rx.root pc at hat
  unfold partC at hcP
  generalize Rx.post x = xp at *
  generalize Rx.post y = yp at *
  obtain ⟨PP, hPP⟩ : ∃ PP : List (List AV), PP = [[.ro xp], [.ro yp]] := ⟨_, rfl⟩
  rw [← hPP] at hcP
  generalize bC b = A at *
  generalize bC e = E at *
  generalize bC f = F at *
  refine acalls_symF tabF_ok fn71 rfl rfl rfl (by kernel_rfl) ?_
  have hfin : ∀ st, resA Try.prog Try.f71 st = some (.ro F) → G.Leaves Try.prog Try.f71 (fun _ => .ro F) (fun _ => []) st := fun st h => G.Leaves.plain h rfl
  rintro ⟨lt, le, eq, se, ar, dv, una, conv, len, sln, nat, nth, ixs, cel, sto, app, cpy, slc, mak, ixv, oth, dk, ib, call⟩ hS hm Q hQ
  obtain ⟨hlt, hle, heq, hse, har, hdv, huna, hconv, hlen, hsln, hnat, hnth, hixs, hcel, hsto, happ, hcpy, hslc, hmak, hixv, hoth, hdk, hib, hcall⟩ := Sym.mk.inj hS
  clear hS
  have hnt : ∀ n : Nat, nat n = U.natI n := fun n => by rw [hnat]; rfl
  have hbox : ∀ e c off, cel (some ⟨e, [c]⟩) 0 off = if off ≤ c.length then some (c.drop off) else none := fun e c off => by rw [hcel]; rfl
  have hsbox : ∀ e c off sz y, sto (some ⟨e, [c]⟩) 0 off sz y = if y.cells.length = sz ∧ off + sz ≤ c.length ∧ y.cells.all AV.one = true then some ⟨e, [spl c off y.cells]⟩ else none := fun e c off sz y => by rw [hsto]; rfl
  have hcaw : ∀ {f args T base K}, CallK Try.prog f args T base K → call f args T base K := fun h => by rw [hcall]; exact h
  have hcal : ∀ {f args T base} {K : AV → Table → List Nat → List Nat → Prop}, (∃ args' ids val rows, Hands T ids args args' (val base) (rows base) ∧ ACalls Try.prog f args' val rows ∧ (rows base).length ≤ 8 ∧ K (val base) (adopt T base (rows base)) ids ((List.range (rows base).length).map (base + ·))) → call f args T base K := fun h => hcaw (call_own h)
  have hm1 : ar .sub .i64 (len X) 1 = (m : Int) := by
    rw [hlen, hXl, har, ar_sub64 (by omega) (by omega)]; omega
  replace hat := (show nth X (m : Int) 5 = nthE X (m : Int) 5 from by rw [hnth]).trans hat
  have hA1 : len A = 1 := by rw [hlen]; exact hA
  have hs1 : sln s = 0 := by rw [hsln]; exact hs0
  have hmk : mak (fun x => none) 24 53 (.flat (.int .i64 1)) (.flat (.int .i64 1)) = some (.sl 24 0 1, Table.set (fun x => none) 24 (some ⟨4, bC false⟩)) := by
    rw [hmak]; exact mak_zero (n := 1) u53 z4 (by decide) rfl rfl (by decide) (by decide)
  have k0 : eq 2 0 = false := by rw [heq]; decide
  have k1 : eq 2 1 = false := by rw [heq]; decide
  have k2 : eq 2 2 = true := by rw [heq]; decide
  have q0 : nth PP 0 1 = some (.rp [.ro xp]) := by rw [hnth, hPP]; rfl
  have q1 : nth PP 1 1 = some (.rp [.ro yp]) := by rw [hnth, hPP]; rfl
  clear hPP
  generalize hM : (m : Int) = mI at hm1 hat
  clear hXl hmr hM hA hs0
  cbv
  rw [hA1]; cbv
  rw [hmk]; cbv
  refine hcal ⟨_, [], _, _, .inl ⟨rfl, by cbv⟩, hcP, by simp, ?_⟩
  cbv
  rw [hm1]; cbv
  rw [hat]; cbv
  rw [k0]; cbv
  rw [k1]; cbv
  rw [k2]; cbv
  refine ⟨by rw [hdk]; kernel_rfl, ?_⟩
  rw [q1]; cbv
  rw [q0]; cbv
  refine hcal ⟨_, [], _, _, .inl ⟨rfl, by cbv⟩, hx, by simp, ?_⟩
  cbv
  refine hcal ⟨_, [], _, _, .inl ⟨rfl, by cbv⟩, hy, by simp, ?_⟩
  cbv
  refine ⟨by rw [hib]; kernel_rfl, ?_⟩
  cbv
  exact hQ _ _ trivial (hfin _ (by cbv))
theorem ends_alt (x y : Rx) (b : Bool) (hl : (Rx.alt x y).post.length ≤ 1000000) (e : Bool) (hx : ACalls Try.prog 71 [.ro x.post, .flat (.string eTx), .ro (bC b)] (fun _ => .ro (bC e)) (fun _ => [])) (f : Bool) (hy : ACalls Try.prog 71 [.ro y.post, .flat (.string eTx), .ro (bC b)] (fun _ => .ro (bC f)) (fun _ => [])) : ACalls Try.prog 71 [.ro (Rx.alt x y).post, .flat (.string eTx), .ro (bC b)] (fun _ => .ro (bC (e || f))) (fun _ => []) := by
  have hcP := parts_calls (Rx.alt x y) hl
  obtain ⟨hat, hpl⟩ := post_at (Rx.alt x y)
  have hPP : partsC (Rx.alt x y) = [partC x, partC y] := rfl
  have hXl : lenE (Rx.alt x y).post = ((Rx.fl (Rx.alt x y).kids).length : Int) + 1 := by rw [← Int.natCast_succ, Nat.succ_eq_add_one, ← hpl]; rfl
  rw [hPP] at hcP
  have hA : lenE (bC b) = 1 := rfl
  obtain ⟨s, hs⟩ : ∃ s, s = eTx := ⟨_, rfl⟩
  have hs0 : (s.size : Int) = 0 := by rw [hs]; rfl
  rw [← hs] at hx hy ⊢
  clear hs
  obtain ⟨m, hm⟩ : ∃ m : Nat, m = (Rx.fl (Rx.alt x y).kids).length := ⟨_, rfl⟩
  rw [← hm] at hat hXl hpl
  have hmr : m ≤ 1000000 := by omega
  clear hm hPP hpl hl
  generalize (Rx.alt x y).post = X at hat hXl hcP ⊢
  unfold Rx.root pc at hat
  unfold partC at hcP
  generalize Rx.post x = xp at *
  generalize Rx.post y = yp at *
  obtain ⟨PP, hPP⟩ : ∃ PP : List (List AV), PP = [[.ro xp], [.ro yp]] := ⟨_, rfl⟩
  rw [← hPP] at hcP
  have hor := or_calls e f
  generalize bC b = A at *
  generalize bC e = E at *
  generalize bC f = F at *
  generalize bC (e || f) = M at *
  refine acalls_symF tabF_ok fn71 rfl rfl rfl (by kernel_rfl) ?_
  have hfin : ∀ st, resA Try.prog Try.f71 st = some (.ro M) → G.Leaves Try.prog Try.f71 (fun _ => .ro M) (fun _ => []) st := fun st h => G.Leaves.plain h rfl
  rintro ⟨lt, le, eq, se, ar, dv, una, conv, len, sln, nat, nth, ixs, cel, sto, app, cpy, slc, mak, ixv, oth, dk, ib, call⟩ hS hm Q hQ
  obtain ⟨hlt, hle, heq, hse, har, hdv, huna, hconv, hlen, hsln, hnat, hnth, hixs, hcel, hsto, happ, hcpy, hslc, hmak, hixv, hoth, hdk, hib, hcall⟩ := Sym.mk.inj hS
  clear hS
  have hnt : ∀ n : Nat, nat n = U.natI n := fun n => by rw [hnat]; rfl
  have hbox : ∀ e c off, cel (some ⟨e, [c]⟩) 0 off = if off ≤ c.length then some (c.drop off) else none := fun e c off => by rw [hcel]; rfl
  have hsbox : ∀ e c off sz y, sto (some ⟨e, [c]⟩) 0 off sz y = if y.cells.length = sz ∧ off + sz ≤ c.length ∧ y.cells.all AV.one = true then some ⟨e, [spl c off y.cells]⟩ else none := fun e c off sz y => by rw [hsto]; rfl
  have hcaw : ∀ {f args T base K}, CallK Try.prog f args T base K → call f args T base K := fun h => by rw [hcall]; exact h
  have hcal : ∀ {f args T base} {K : AV → Table → List Nat → List Nat → Prop}, (∃ args' ids val rows, Hands T ids args args' (val base) (rows base) ∧ ACalls Try.prog f args' val rows ∧ (rows base).length ≤ 8 ∧ K (val base) (adopt T base (rows base)) ids ((List.range (rows base).length).map (base + ·))) → call f args T base K := fun h => hcaw (call_own h)
  have hm1 : ar .sub .i64 (len X) 1 = (m : Int) := by
    rw [hlen, hXl, har, ar_sub64 (by omega) (by omega)]; omega
  replace hat := (show nth X (m : Int) 5 = nthE X (m : Int) 5 from by rw [hnth]).trans hat
  have hA1 : len A = 1 := by rw [hlen]; exact hA
  have hs1 : sln s = 0 := by rw [hsln]; exact hs0
  have hmk : mak (fun x => none) 24 53 (.flat (.int .i64 1)) (.flat (.int .i64 1)) = some (.sl 24 0 1, Table.set (fun x => none) 24 (some ⟨4, bC false⟩)) := by
    rw [hmak]; exact mak_zero (n := 1) u53 z4 (by decide) rfl rfl (by decide) (by decide)
  have k0 : eq 3 0 = false := by rw [heq]; decide
  have k1 : eq 3 1 = false := by rw [heq]; decide
  have k2 : eq 3 2 = false := by rw [heq]; decide
  have k3 : eq 3 3 = true := by rw [heq]; decide
  have q0 : nth PP 0 1 = some (.rp [.ro xp]) := by rw [hnth, hPP]; rfl
  have q1 : nth PP 1 1 = some (.rp [.ro yp]) := by rw [hnth, hPP]; rfl
  clear hPP
  generalize hM : (m : Int) = mI at hm1 hat
  clear hXl hmr hM hA hs0
  cbv
  rw [hA1]; cbv
  rw [hmk]; cbv
  refine hcal ⟨_, [], _, _, .inl ⟨rfl, by cbv⟩, hcP, by simp, ?_⟩
  cbv
  rw [hm1]; cbv
  rw [hat]; cbv
  rw [k0]; cbv
  rw [k1]; cbv
  rw [k2]; cbv
  rw [k3]; cbv
  refine ⟨by rw [hdk]; kernel_rfl, ?_⟩
  rw [q0]; cbv
  refine hcal ⟨_, [], _, _, .inl ⟨rfl, by cbv⟩, hx, by simp, ?_⟩
  cbv
  rw [q1]; cbv
  refine hcal ⟨_, [], _, _, .inl ⟨rfl, by cbv⟩, hy, by simp, ?_⟩
  cbv
  refine hcal ⟨_, [], _, _, .inl ⟨rfl, by cbv⟩, hor, by simp, ?_⟩
  cbv
  refine ⟨by rw [hib]; kernel_rfl, ?_⟩
  cbv
  exact hQ _ _ trivial (hfin _ (by cbv))
theorem ends_opt (x : Rx) (b : Bool) (hl : (Rx.un 2 x).post.length ≤ 1000000) (e : Bool) (hx : ACalls Try.prog 71 [.ro x.post, .flat (.string eTx), .ro (bC b)] (fun _ => .ro (bC e)) (fun _ => [])) : ACalls Try.prog 71 [.ro (Rx.un 2 x).post, .flat (.string eTx), .ro (bC b)] (fun _ => .ro (bC (b || e))) (fun _ => []) := by
  have hcP := parts_calls (Rx.un 2 x) hl
  obtain ⟨hat, hpl⟩ := post_at (Rx.un 2 x)
  have hPP : partsC (Rx.un 2 x) = [partC x] := rfl
  have hXl : lenE (Rx.un 2 x).post = ((Rx.fl (Rx.un 2 x).kids).length : Int) + 1 := by rw [← Int.natCast_succ, Nat.succ_eq_add_one, ← hpl]; rfl
  rw [hPP] at hcP
  have hA : lenE (bC b) = 1 := rfl
  obtain ⟨s, hs⟩ : ∃ s, s = eTx := ⟨_, rfl⟩
  have hs0 : (s.size : Int) = 0 := by rw [hs]; rfl
  rw [← hs] at hx ⊢
  clear hs
  obtain ⟨m, hm⟩ : ∃ m : Nat, m = (Rx.fl (Rx.un 2 x).kids).length := ⟨_, rfl⟩
  rw [← hm] at hat hXl hpl
  have hmr : m ≤ 1000000 := by omega
  clear hm hPP hpl hl
  generalize (Rx.un 2 x).post = X at hat hXl hcP ⊢
  unfold Rx.root pc at hat
  unfold partC at hcP
  generalize Rx.post x = xp at *
  obtain ⟨PP, hPP⟩ : ∃ PP : List (List AV), PP = [[.ro xp]] := ⟨_, rfl⟩
  rw [← hPP] at hcP
  have hor := or_calls b e
  generalize bC b = A at *
  generalize bC e = E at *
  generalize bC (b || e) = M at *
  refine acalls_symF tabF_ok fn71 rfl rfl rfl (by kernel_rfl) ?_
  have hfin : ∀ st, resA Try.prog Try.f71 st = some (.ro M) → G.Leaves Try.prog Try.f71 (fun _ => .ro M) (fun _ => []) st := fun st h => G.Leaves.plain h rfl
  rintro ⟨lt, le, eq, se, ar, dv, una, conv, len, sln, nat, nth, ixs, cel, sto, app, cpy, slc, mak, ixv, oth, dk, ib, call⟩ hS hm Q hQ
  obtain ⟨hlt, hle, heq, hse, har, hdv, huna, hconv, hlen, hsln, hnat, hnth, hixs, hcel, hsto, happ, hcpy, hslc, hmak, hixv, hoth, hdk, hib, hcall⟩ := Sym.mk.inj hS
  clear hS
  have hnt : ∀ n : Nat, nat n = U.natI n := fun n => by rw [hnat]; rfl
  have hbox : ∀ e c off, cel (some ⟨e, [c]⟩) 0 off = if off ≤ c.length then some (c.drop off) else none := fun e c off => by rw [hcel]; rfl
  have hsbox : ∀ e c off sz y, sto (some ⟨e, [c]⟩) 0 off sz y = if y.cells.length = sz ∧ off + sz ≤ c.length ∧ y.cells.all AV.one = true then some ⟨e, [spl c off y.cells]⟩ else none := fun e c off sz y => by rw [hsto]; rfl
  have hcaw : ∀ {f args T base K}, CallK Try.prog f args T base K → call f args T base K := fun h => by rw [hcall]; exact h
  have hcal : ∀ {f args T base} {K : AV → Table → List Nat → List Nat → Prop}, (∃ args' ids val rows, Hands T ids args args' (val base) (rows base) ∧ ACalls Try.prog f args' val rows ∧ (rows base).length ≤ 8 ∧ K (val base) (adopt T base (rows base)) ids ((List.range (rows base).length).map (base + ·))) → call f args T base K := fun h => hcaw (call_own h)
  have hm1 : ar .sub .i64 (len X) 1 = (m : Int) := by
    rw [hlen, hXl, har, ar_sub64 (by omega) (by omega)]; omega
  replace hat := (show nth X (m : Int) 5 = nthE X (m : Int) 5 from by rw [hnth]).trans hat
  have hA1 : len A = 1 := by rw [hlen]; exact hA
  have hs1 : sln s = 0 := by rw [hsln]; exact hs0
  have hmk : mak (fun x => none) 24 53 (.flat (.int .i64 1)) (.flat (.int .i64 1)) = some (.sl 24 0 1, Table.set (fun x => none) 24 (some ⟨4, bC false⟩)) := by
    rw [hmak]; exact mak_zero (n := 1) u53 z4 (by decide) rfl rfl (by decide) (by decide)
  have k0 : eq 6 0 = false := by rw [heq]; decide
  have k1 : eq 6 1 = false := by rw [heq]; decide
  have k2 : eq 6 2 = false := by rw [heq]; decide
  have k3 : eq 6 3 = false := by rw [heq]; decide
  have k6 : eq 6 6 = true := by rw [heq]; decide
  have q0 : nth PP 0 1 = some (.rp [.ro xp]) := by rw [hnth, hPP]; rfl
  clear hPP
  replace hat : nth X (m : Int) 5 = some (.rp [.flat (.int .i64 6), .flat (.int .u64 0), .flat (.int .u64 0), .flat (.int .u64 0), .flat (.int .u64 0)]) := hat
  generalize hM : (m : Int) = mI at hm1 hat
  clear hXl hmr hM hA hs0
  cbv
  rw [hA1]; cbv
  rw [hmk]; cbv
  refine hcal ⟨_, [], _, _, .inl ⟨rfl, by cbv⟩, hcP, by simp, ?_⟩
  cbv
  rw [hm1]; cbv
  rw [hat]; cbv
  rw [k0]; cbv
  rw [k1]; cbv
  rw [k2]; cbv
  rw [k3]; cbv
  rw [k6]; cbv
  rw [q0]; cbv
  refine hcal ⟨_, [], _, _, .inl ⟨rfl, by cbv⟩, hx, by simp, ?_⟩
  cbv
  refine hcal ⟨_, [], _, _, .inl ⟨rfl, by cbv⟩, hor, by simp, ?_⟩
  cbv
  exact hQ _ _ trivial (hfin _ (by cbv))
theorem ends_star (x : Rx) (b : Bool) (hl : (Rx.un 0 x).post.length ≤ 1000000) (f : Bool) (hy : ACalls Try.prog 78 [.ro x.post, .flat (.string eTx), .ro (bC b)] (fun _ => .ro (bC f)) (fun _ => [])) : ACalls Try.prog 71 [.ro (Rx.un 0 x).post, .flat (.string eTx), .ro (bC b)] (fun _ => .ro (bC (f))) (fun _ => []) := by
  have hcP := parts_calls (Rx.un 0 x) hl
  obtain ⟨hat, hpl⟩ := post_at (Rx.un 0 x)
  have hPP : partsC (Rx.un 0 x) = [partC x] := rfl
  have hXl : lenE (Rx.un 0 x).post = ((Rx.fl (Rx.un 0 x).kids).length : Int) + 1 := by rw [← Int.natCast_succ, Nat.succ_eq_add_one, ← hpl]; rfl
  rw [hPP] at hcP
  have hA : lenE (bC b) = 1 := rfl
  obtain ⟨s, hs⟩ : ∃ s, s = eTx := ⟨_, rfl⟩
  have hs0 : (s.size : Int) = 0 := by rw [hs]; rfl
  rw [← hs] at hy ⊢
  clear hs
  obtain ⟨m, hm⟩ : ∃ m : Nat, m = (Rx.fl (Rx.un 0 x).kids).length := ⟨_, rfl⟩
  rw [← hm] at hat hXl hpl
  have hmr : m ≤ 1000000 := by omega
  clear hm hPP hpl hl
  generalize (Rx.un 0 x).post = X at hat hXl hcP ⊢
  unfold Rx.root pc at hat
  unfold partC at hcP
  generalize Rx.post x = xp at *
  obtain ⟨PP, hPP⟩ : ∃ PP : List (List AV), PP = [[.ro xp]] := ⟨_, rfl⟩
  rw [← hPP] at hcP
  generalize bC b = A at *
  generalize bC f = F at *
  refine acalls_symF tabF_ok fn71 rfl rfl rfl (by kernel_rfl) ?_
  have hfin : ∀ st, resA Try.prog Try.f71 st = some (.ro F) → G.Leaves Try.prog Try.f71 (fun _ => .ro F) (fun _ => []) st := fun st h => G.Leaves.plain h rfl
  rintro ⟨lt, le, eq, se, ar, dv, una, conv, len, sln, nat, nth, ixs, cel, sto, app, cpy, slc, mak, ixv, oth, dk, ib, call⟩ hS hm Q hQ
  obtain ⟨hlt, hle, heq, hse, har, hdv, huna, hconv, hlen, hsln, hnat, hnth, hixs, hcel, hsto, happ, hcpy, hslc, hmak, hixv, hoth, hdk, hib, hcall⟩ := Sym.mk.inj hS
  clear hS
  have hnt : ∀ n : Nat, nat n = U.natI n := fun n => by rw [hnat]; rfl
  have hbox : ∀ e c off, cel (some ⟨e, [c]⟩) 0 off = if off ≤ c.length then some (c.drop off) else none := fun e c off => by rw [hcel]; rfl
  have hsbox : ∀ e c off sz y, sto (some ⟨e, [c]⟩) 0 off sz y = if y.cells.length = sz ∧ off + sz ≤ c.length ∧ y.cells.all AV.one = true then some ⟨e, [spl c off y.cells]⟩ else none := fun e c off sz y => by rw [hsto]; rfl
  have hcaw : ∀ {f args T base K}, CallK Try.prog f args T base K → call f args T base K := fun h => by rw [hcall]; exact h
  have hcal : ∀ {f args T base} {K : AV → Table → List Nat → List Nat → Prop}, (∃ args' ids val rows, Hands T ids args args' (val base) (rows base) ∧ ACalls Try.prog f args' val rows ∧ (rows base).length ≤ 8 ∧ K (val base) (adopt T base (rows base)) ids ((List.range (rows base).length).map (base + ·))) → call f args T base K := fun h => hcaw (call_own h)
  have hm1 : ar .sub .i64 (len X) 1 = (m : Int) := by
    rw [hlen, hXl, har, ar_sub64 (by omega) (by omega)]; omega
  replace hat := (show nth X (m : Int) 5 = nthE X (m : Int) 5 from by rw [hnth]).trans hat
  have hA1 : len A = 1 := by rw [hlen]; exact hA
  have hs1 : sln s = 0 := by rw [hsln]; exact hs0
  have hmk : mak (fun x => none) 24 53 (.flat (.int .i64 1)) (.flat (.int .i64 1)) = some (.sl 24 0 1, Table.set (fun x => none) 24 (some ⟨4, bC false⟩)) := by
    rw [hmak]; exact mak_zero (n := 1) u53 z4 (by decide) rfl rfl (by decide) (by decide)
  have k0 : eq 4 0 = false := by rw [heq]; decide
  have k1 : eq 4 1 = false := by rw [heq]; decide
  have k2 : eq 4 2 = false := by rw [heq]; decide
  have k3 : eq 4 3 = false := by rw [heq]; decide
  have k6 : eq 4 6 = false := by rw [heq]; decide
  have k4 : eq 4 4 = true := by rw [heq]; decide
  have q0 : nth PP 0 1 = some (.rp [.ro xp]) := by rw [hnth, hPP]; rfl
  clear hPP
  replace hat : nth X (m : Int) 5 = some (.rp [.flat (.int .i64 4), .flat (.int .u64 0), .flat (.int .u64 0), .flat (.int .u64 0), .flat (.int .u64 0)]) := hat
  generalize hM : (m : Int) = mI at hm1 hat
  clear hXl hmr hM hA hs0
  cbv
  rw [hA1]; cbv
  rw [hmk]; cbv
  refine hcal ⟨_, [], _, _, .inl ⟨rfl, by cbv⟩, hcP, by simp, ?_⟩
  cbv
  rw [hm1]; cbv
  rw [hat]; cbv
  rw [k0]; cbv
  rw [k1]; cbv
  rw [k2]; cbv
  rw [k3]; cbv
  rw [k6]; cbv
  rw [hm1]; cbv
  rw [hat]; cbv
  rw [k4]; cbv
  rw [q0]; cbv
  refine hcal ⟨_, [], _, _, .inl ⟨rfl, by cbv⟩, hy, by simp, ?_⟩
  cbv
  exact hQ _ _ trivial (hfin _ (by cbv))
theorem ends_plus (x : Rx) (b : Bool) (hl : (Rx.un 1 x).post.length ≤ 1000000) (e : Bool) (hx : ACalls Try.prog 71 [.ro x.post, .flat (.string eTx), .ro (bC b)] (fun _ => .ro (bC e)) (fun _ => [])) (f : Bool) (hy : ACalls Try.prog 78 [.ro x.post, .flat (.string eTx), .ro (bC e)] (fun _ => .ro (bC f)) (fun _ => [])) : ACalls Try.prog 71 [.ro (Rx.un 1 x).post, .flat (.string eTx), .ro (bC b)] (fun _ => .ro (bC (f))) (fun _ => []) := by
  have hcP := parts_calls (Rx.un 1 x) hl
  obtain ⟨hat, hpl⟩ := post_at (Rx.un 1 x)
  have hPP : partsC (Rx.un 1 x) = [partC x] := rfl
  have hXl : lenE (Rx.un 1 x).post = ((Rx.fl (Rx.un 1 x).kids).length : Int) + 1 := by rw [← Int.natCast_succ, Nat.succ_eq_add_one, ← hpl]; rfl
  rw [hPP] at hcP
  have hA : lenE (bC b) = 1 := rfl
  obtain ⟨s, hs⟩ : ∃ s, s = eTx := ⟨_, rfl⟩
  have hs0 : (s.size : Int) = 0 := by rw [hs]; rfl
  rw [← hs] at hx hy ⊢
  clear hs
  obtain ⟨m, hm⟩ : ∃ m : Nat, m = (Rx.fl (Rx.un 1 x).kids).length := ⟨_, rfl⟩
  rw [← hm] at hat hXl hpl
  have hmr : m ≤ 1000000 := by omega
  clear hm hPP hpl hl
  generalize (Rx.un 1 x).post = X at hat hXl hcP ⊢
  unfold Rx.root pc at hat
  unfold partC at hcP
  generalize Rx.post x = xp at *
  obtain ⟨PP, hPP⟩ : ∃ PP : List (List AV), PP = [[.ro xp]] := ⟨_, rfl⟩
  rw [← hPP] at hcP
  generalize bC b = A at *
  generalize bC e = E at *
  generalize bC f = F at *
  refine acalls_symF tabF_ok fn71 rfl rfl rfl (by kernel_rfl) ?_
  have hfin : ∀ st, resA Try.prog Try.f71 st = some (.ro F) → G.Leaves Try.prog Try.f71 (fun _ => .ro F) (fun _ => []) st := fun st h => G.Leaves.plain h rfl
  rintro ⟨lt, le, eq, se, ar, dv, una, conv, len, sln, nat, nth, ixs, cel, sto, app, cpy, slc, mak, ixv, oth, dk, ib, call⟩ hS hm Q hQ
  obtain ⟨hlt, hle, heq, hse, har, hdv, huna, hconv, hlen, hsln, hnat, hnth, hixs, hcel, hsto, happ, hcpy, hslc, hmak, hixv, hoth, hdk, hib, hcall⟩ := Sym.mk.inj hS
  clear hS
  have hnt : ∀ n : Nat, nat n = U.natI n := fun n => by rw [hnat]; rfl
  have hbox : ∀ e c off, cel (some ⟨e, [c]⟩) 0 off = if off ≤ c.length then some (c.drop off) else none := fun e c off => by rw [hcel]; rfl
  have hsbox : ∀ e c off sz y, sto (some ⟨e, [c]⟩) 0 off sz y = if y.cells.length = sz ∧ off + sz ≤ c.length ∧ y.cells.all AV.one = true then some ⟨e, [spl c off y.cells]⟩ else none := fun e c off sz y => by rw [hsto]; rfl
  have hcaw : ∀ {f args T base K}, CallK Try.prog f args T base K → call f args T base K := fun h => by rw [hcall]; exact h
  have hcal : ∀ {f args T base} {K : AV → Table → List Nat → List Nat → Prop}, (∃ args' ids val rows, Hands T ids args args' (val base) (rows base) ∧ ACalls Try.prog f args' val rows ∧ (rows base).length ≤ 8 ∧ K (val base) (adopt T base (rows base)) ids ((List.range (rows base).length).map (base + ·))) → call f args T base K := fun h => hcaw (call_own h)
  have hm1 : ar .sub .i64 (len X) 1 = (m : Int) := by
    rw [hlen, hXl, har, ar_sub64 (by omega) (by omega)]; omega
  replace hat := (show nth X (m : Int) 5 = nthE X (m : Int) 5 from by rw [hnth]).trans hat
  have hA1 : len A = 1 := by rw [hlen]; exact hA
  have hs1 : sln s = 0 := by rw [hsln]; exact hs0
  have hmk : mak (fun x => none) 24 53 (.flat (.int .i64 1)) (.flat (.int .i64 1)) = some (.sl 24 0 1, Table.set (fun x => none) 24 (some ⟨4, bC false⟩)) := by
    rw [hmak]; exact mak_zero (n := 1) u53 z4 (by decide) rfl rfl (by decide) (by decide)
  have k0 : eq 5 0 = false := by rw [heq]; decide
  have k1 : eq 5 1 = false := by rw [heq]; decide
  have k2 : eq 5 2 = false := by rw [heq]; decide
  have k3 : eq 5 3 = false := by rw [heq]; decide
  have k6 : eq 5 6 = false := by rw [heq]; decide
  have k4 : eq 5 4 = false := by rw [heq]; decide
  have q0 : nth PP 0 1 = some (.rp [.ro xp]) := by rw [hnth, hPP]; rfl
  clear hPP
  replace hat : nth X (m : Int) 5 = some (.rp [.flat (.int .i64 5), .flat (.int .u64 0), .flat (.int .u64 0), .flat (.int .u64 0), .flat (.int .u64 0)]) := hat
  generalize hM : (m : Int) = mI at hm1 hat
  clear hXl hmr hM hA hs0
  cbv
  rw [hA1]; cbv
  rw [hmk]; cbv
  refine hcal ⟨_, [], _, _, .inl ⟨rfl, by cbv⟩, hcP, by simp, ?_⟩
  cbv
  rw [hm1]; cbv
  rw [hat]; cbv
  rw [k0]; cbv
  rw [k1]; cbv
  rw [k2]; cbv
  rw [k3]; cbv
  rw [k6]; cbv
  rw [hm1]; cbv
  rw [hat]; cbv
  rw [k4]; cbv
  refine ⟨by rw [hdk]; kernel_rfl, ?_⟩
  repeat (rw [q0]; cbv)
  refine hcal ⟨_, [], _, _, .inl ⟨rfl, by cbv⟩, hx, by simp, ?_⟩
  cbv
  refine hcal ⟨_, [], _, _, .inl ⟨rfl, by cbv⟩, hy, by simp, ?_⟩
  cbv
  refine ⟨by rw [hib]; kernel_rfl, ?_⟩
  cbv
  exact hQ _ _ trivial (hfin _ (by cbv))
theorem ends_calls (u : Rx) : ∀ b, u.post.length ≤ 1000000 → ACalls Try.prog 71 [.ro u.post, .flat (.string eTx), .ro (bC b)] (fun _ => .ro (bC (eT u b))) (fun _ => []) := by
  induction u with
  | eps => intro b hl; exact ends_eps b hl
  | set p q r t => intro b hl; exact ends_set p q r t b hl
  | cat x y hx hy =>
    intro b hl
    have h : (Rx.cat x y).post.length = x.post.length + y.post.length + 1 := by simp [Rx.post]; omega
    exact ends_cat x y b hl _ (hx b (by omega)) _ (hy _ (by omega))
  | alt x y hx hy =>
    intro b hl
    have h : (Rx.alt x y).post.length = x.post.length + y.post.length + 1 := by simp [Rx.post]; omega
    exact ends_alt x y b hl _ (hx b (by omega)) _ (hy b (by omega))
  | un k x hx =>
    intro b hl
    have h : (Rx.un k x).post.length = x.post.length + 1 := by simp [Rx.post]
    have hk : k = 0 ∨ k = 1 ∨ k = 2 := by omega
    rcases hk with rfl | rfl | rfl
    · exact ends_star x b hl _ (again_calls x b _ (hx b (by omega)))
    · exact ends_plus x b hl _ (hx b (by omega)) _ (again_calls x _ _ (hx _ (by omega)))
    · exact ends_opt x b hl _ (hx b (by omega))
theorem rhas_n (u : Rx) (hl : u.post.length ≤ 1000000) : NCalls Try.prog 68 [.ro u.post, .flat (.string eTx)] (RS isB) := by
  have hc := ends_calls u true hl
  have hB : nthE (bC (eT u true)) 0 1 = some (.rp [.flat (.bool (eT u true))]) := rfl
  obtain ⟨s, hs⟩ : ∃ s, s = eTx := ⟨_, rfl⟩
  have hs0 : (s.size : Int) = 0 := by rw [hs]; rfl
  rw [← hs] at hc ⊢
  clear hs
  obtain ⟨A, hA⟩ : ∃ A, A = bC true := ⟨_, rfl⟩
  rw [← hA] at hc
  unfold bC at hA
  generalize bC (eT u true) = B at *
  generalize eT u true = r at *
  generalize u.post = X at *
  refine ncalls_symZ tabF_ok fn68 rfl rfl rfl (by kernel_rfl) ?_
  have hfin : ∀ st, shOk isB (resA Try.prog Try.f68 st) = true → ∃ val rows, RS isB val rows ∧ G.Leaves Try.prog Try.f68 val rows st := fun st h => rs_leaves h
  rintro N hN ⟨lt, le, eq, se, ar, dv, una, conv, len, sln, nat, nth, ixs, cel, sto, app, cpy, slc, mak, ixv, oth, dk, ib, call⟩ hS hm Q hQ
  obtain ⟨hlt, hle, heq, hse, har, hdv, huna, hconv, hlen, hsln, hnat, hnth, hixs, hcel, hsto, happ, hcpy, hslc, hmak, hixv, hoth, hdk, hib, hcall⟩ := Sym.mk.inj hS
  clear hS
  have hnt : ∀ n : Nat, nat n = U.natI n := fun n => by rw [hnat]; rfl
  have hbox : ∀ e c off, cel (some ⟨e, [c]⟩) 0 off = if off ≤ c.length then some (c.drop off) else none := fun e c off => by rw [hcel]; rfl
  have hsbox : ∀ e c off sz y, sto (some ⟨e, [c]⟩) 0 off sz y = if y.cells.length = sz ∧ off + sz ≤ c.length ∧ y.cells.all AV.one = true then some ⟨e, [spl c off y.cells]⟩ else none := fun e c off sz y => by rw [hsto]; rfl
  have hcaw : ∀ {f args T base K}, CallK Try.prog f args T base K → call f args T base K := fun h => by rw [hcall]; exact h
  have hcal : ∀ {f args T base} {K : AV → Table → List Nat → List Nat → Prop}, (∃ args' ids val rows, Hands T ids args args' (val base) (rows base) ∧ ACalls Try.prog f args' val rows ∧ (rows base).length ≤ 8 ∧ K (val base) (adopt T base (rows base)) ids ((List.range (rows base).length).map (base + ·))) → call f args T base K := fun h => hcaw (call_own h)
  have hcn : ∀ {f args T base} {K : AV → Table → Prop}, CallN Try.prog T base f args K → N f args T base K := fun h => by rw [hN]; exact h
  have hsx : ∀ (s : ByteArray) (i : Int), s.size ≤ 1000000 → 0 ≤ i → lt i (sln s) = true → ∃ v, ixv 9 (.flat (.string s)) (.flat (.int .i64 i)) = some (.flat (.int .u8 v)) ∧ 0 ≤ v ∧ v < 256 ∧ ar .add .i64 i 1 = i + 1 ∧ 0 ≤ i + 1 ∧ (s.size - (i + 1).toNat < s.size - i.toNat) ∧ i < s.size := fun s i hs h0 hc => by
    rw [hlt, hsln] at hc
    rw [hixv, har]
    exact ix_next s hs h0 hc
  have hrx : ∀ (X : List (List AV)) (sz : Nat) (i : Int), (∀ c ∈ X, c.length = sz) → X.length ≤ 1000000 → 0 ≤ i → lt i (len X) = true → ∃ c ∈ X, nth X i sz = some (.rp c) ∧ ar .add .i64 i 1 = i + 1 ∧ 0 ≤ i + 1 ∧ (X.length - (i + 1).toNat < X.length - i.toNat) ∧ i < X.length := fun X sz i hX hl h0 hc => by
    rw [hlt, hlen] at hc
    rw [hnth, har]
    exact row_next X hX hl h0 hc
  have hs1 : sln s = 0 := by rw [hsln]; exact hs0
  have e1 : ar .add .i64 0 1 = 1 := by rw [har]; rfl
  have hB2 : nth B 0 1 = some (.rp [.flat (.bool r)]) := by rw [hnth]; exact hB
  have hmk : mak (fun x => none) 32 53 (.flat (.int .i64 1)) (.flat (.int .i64 1)) = some (.sl 32 0 1, Table.set (fun x => none) 32 (some ⟨4, bC false⟩)) := by
    rw [hmak]; exact mak_zero (n := 1) u53 z4 (by decide) rfl rfl (by decide) (by decide)
  cbv
  refine ⟨[], ?_⟩
  cbv
  rw [hs1]; cbv
  rw [e1]; cbv
  rw [hmk]; cbv
  refine ⟨[], ?_⟩
  cbv
  rw [hixs]; cbv
  rw [hsto]; cbv
  refine ⟨[32], ?_⟩
  cbv
  subst hA
  refine .inl (hcal ⟨_, [], _, _, .inl ⟨rfl, by cbv⟩, hc, by simp, ?_⟩)
  cbv
  rw [hs1]; cbv
  rw [hB2]; cbv
  refine ⟨[], ?_⟩
  cbv
  exact hQ _ _ trivial (hfin _ (by cbv))
end Go.Proofs.Ytnceadbfgpiaaaa.N
/- Contracts: bosketref02.Has, Of, Put. -/
namespace Go.Proofs.Ytnceadbfgpiaaaa.N
open Go G U K I J F
set_option linter.unusedVariables false
set_option linter.unusedSimpArgs false
set_option maxRecDepth 100000
set_option maxHeartbeats 4000000
theorem fn76 : Try.prog.funcs[76]? = some Try.f76 := by kernel_rfl
theorem fn84 : Try.prog.funcs[84]? = some Try.f84 := by kernel_rfl
theorem fn87 : Try.prog.funcs[87]? = some Try.f87 := by kernel_rfl
theorem quo3 (a k : Int) (h0 : 0 ≤ a) (h1 : a < 9223372036854775808) (hk : 0 < k) : dvOf Try.prog .quo 3 (.flat (.int .i64 a)) (.flat (.int .i64 k)) = some (.flat (.int .i64 (a / k))) := by
  rw [dvOf_eq]
  intro x y
  have e : evPure Try.prog (Op.intDiv .quo .i64 a k) = some (.int .i64 (IntKind.i64.wrap (a.tdiv k))) := by
    unfold Op.intDiv
    rw [if_neg (by omega)]
    rfl
  have e2 : (evPure Try.prog (do eqGuard .quo 3 x y (.int .i64 a) (.int .i64 k); binOp .quo 3 (.int .i64 a) (.int .i64 k))) = some (.int .i64 (IntKind.i64.wrap (a.tdiv k))) := e
  have e3 : IntKind.i64.wrap (a.tdiv k) = a / k := by
    rw [Int.tdiv_eq_ediv_of_nonneg h0, IntKind.wrap_i64]
    have := Int.ediv_nonneg h0 (Int.le_of_lt hk)
    have := Int.ediv_le_self k h0
    generalize a / k = q at *
    omega
  show evP Try.prog _ = _
  unfold evP
  rw [e2, e3]
  rfl
theorem rem3 (a k : Int) (h0 : 0 ≤ a) (hk : 0 < k) : dvOf Try.prog .rem 3 (.flat (.int .i64 a)) (.flat (.int .i64 k)) = some (.flat (.int .i64 (a % k))) := by
  rw [dvOf_eq]
  intro x y
  have e : evPure Try.prog (Op.intDiv .rem .i64 a k) = some (.int .i64 (a.tmod k)) := by
    unfold Op.intDiv
    rw [if_neg (by omega)]
    rfl
  have e2 : (evPure Try.prog (do eqGuard .rem 3 x y (.int .i64 a) (.int .i64 k); binOp .rem 3 (.int .i64 a) (.int .i64 k))) = some (.int .i64 (a.tmod k)) := e
  show evP Try.prog _ = _
  unfold evP
  rw [e2, Int.tmod_eq_emod_of_nonneg h0]
  rfl
def W64 (a : Int) : Prop := ∃ n : Nat, a = n ∧ n < 18446744073709551616
theorem shas0 (w0 w1 w2 w3 b : Int) (hw : W64 w0) (hb : b / 64 = 0) (h0 : 0 ≤ b) (h1 : b < 256) : ∃ r : Bool, ACalls Try.prog 76 [.agg [.flat (.int .u64 w0), .flat (.int .u64 w1), .flat (.int .u64 w2), .flat (.int .u64 w3)], .flat (.int .i64 b)] (fun _ => .flat (.bool r)) (fun _ => []) := by
  obtain ⟨s, rfl, hs⟩ := hw
  have hz := hAt_zero s (n := b % 64) (by omega) (by omega)
  have hend := fun i a h1 h2 => @hAt_end s (b % 64) i a h1 h2
  have hr : dvOf Try.prog .rem 3 (.flat (.int .i64 b)) (.flat (.int .i64 64)) = some (.flat (.int .i64 (b % 64))) := rem3 b 64 h0 (by decide)
  have hq : dvOf Try.prog .quo 3 (.flat (.int .i64 b)) (.flat (.int .i64 64)) = some (.flat (.int .i64 0)) := by rw [quo3 b 64 h0 (by omega) (by decide), hb]
  refine ⟨hasN s (b % 64), ?_⟩
  clear hb h0 h1
  generalize b % 64 = n at *
  generalize hasN s n = z at *
  refine acalls_symF tabF_ok fn76 rfl rfl rfl (by kernel_rfl) ?_
  have hfin : ∀ st, resA Try.prog Try.f76 st = some (.flat (.bool z)) → G.Leaves Try.prog Try.f76 (fun _ => .flat (.bool z)) (fun _ => []) st := fun st h => G.Leaves.plain h rfl
  rintro ⟨lt, le, eq, se, ar, dv, una, conv, len, sln, nat, nth, ixs, cel, sto, app, cpy, slc, mak, ixv, oth, dk, ib, call⟩ hS hm Q hQ
  obtain ⟨hlt, hle, heq, hse, har, hdv, huna, hconv, hlen, hsln, hnat, hnth, hixs, hcel, hsto, happ, hcpy, hslc, hmak, hixv, hoth, hdk, hib, hcall⟩ := Sym.mk.inj hS
  clear hS
  have hnt : ∀ n : Nat, nat n = U.natI n := fun n => by rw [hnat]; rfl
  have hbox : ∀ e c off, cel (some ⟨e, [c]⟩) 0 off = if off ≤ c.length then some (c.drop off) else none := fun e c off => by rw [hcel]; rfl
  have hsbox : ∀ e c off sz y, sto (some ⟨e, [c]⟩) 0 off sz y = if y.cells.length = sz ∧ off + sz ≤ c.length ∧ y.cells.all AV.one = true then some ⟨e, [spl c off y.cells]⟩ else none := fun e c off sz y => by rw [hsto]; rfl
  have hcaw : ∀ {f args T base K}, CallK Try.prog f args T base K → call f args T base K := fun h => by rw [hcall]; exact h
  have hcal : ∀ {f args T base} {K : AV → Table → List Nat → List Nat → Prop}, (∃ args' ids val rows, Hands T ids args args' (val base) (rows base) ∧ ACalls Try.prog f args' val rows ∧ (rows base).length ≤ 8 ∧ K (val base) (adopt T base (rows base)) ids ((List.range (rows base).length).map (base + ·))) → call f args T base K := fun h => hcaw (call_own h)
  have hq : dv .quo 3 (.flat (.int .i64 b)) (.flat (.int .i64 64)) = some (.flat (.int .i64 0)) := by rw [hdv]; exact hq
  have hr : dv .rem 3 (.flat (.int .i64 b)) (.flat (.int .i64 64)) = some (.flat (.int .i64 n)) := by rw [hdv]; exact hr
  generalize hS : (s : Int) = sI at hz
  cbv
  rw [hq]; cbv
  repeat (first | (rw [hbox]; cbv) | (rw [hsbox]; cbv))
  refine MW_loop hm [] [1, 5, 6] 7 (by simp) (fun mz st => ∃ (i a : Int), HAt s n i a ∧ mz = U.left n i ∧ st = stOf [.dead, .flat (.int .i64 b), .dead, .dead, .dead, .flat (.int .u64 a), .flat (.int .i64 i)] [] 0) (U.left n 0) ?_ ?_
  · exact ⟨0, sI, hz, rfl, cut_eq (by cbv) (by rfl)⟩
  rintro mz st ⟨i, a, hi, hmz, rfl⟩
  obtain ⟨ha0, ha1⟩ := hAt_range hs hi
  cases hc : lt i n
  · have hc' : decide (i < n) = false := by rw [hlt] at hc; exact hc
    have hr2 : dv .rem 26 (.flat (.int .u64 a)) (.flat (.int .u64 2)) = some (.flat (.int .u64 (a % 2))) := by rw [hdv]; exact rem2 a ha0 ha1
    have he : eq (a % 2) 1 = z := by rw [heq]; exact hend i a hi hc'
    generalize a % 2 = r at hr2 he
    cbv
    rw [hr]; cbv
    rw [hc]; cbv
    rw [hr2]; cbv
    rw [he]
    exact hQ _ _ trivial (hfin _ (by cbv))
  have hc' : decide (i < n) = true := by rw [hlt] at hc; exact hc
  obtain ⟨q1, q2, q3⟩ := hAt_step hi hc'
  rw [← har] at q3
  have hq2 : dv .quo 26 (.flat (.int .u64 a)) (.flat (.int .u64 2)) = some (.flat (.int .u64 (a / 2))) := by rw [hdv]; exact quo2 a ha0 ha1
  generalize a / 2 = a2 at hq2 q1
  generalize i + 1 = i2 at q1 q2 q3
  cbv
  rw [hr]; cbv
  rw [hc]; cbv
  rw [hq2]; cbv
  rw [q3]
  exact ⟨[], [1, 5, 6], 7, U.left n i2, hmz ▸ q2, by simp, i2, a2, q1, rfl, cut_eq (by cbv) (by rfl)⟩
theorem shas1 (w0 w1 w2 w3 b : Int) (hw : W64 w1) (hb : b / 64 = 1) (h0 : 0 ≤ b) (h1 : b < 256) : ∃ r : Bool, ACalls Try.prog 76 [.agg [.flat (.int .u64 w0), .flat (.int .u64 w1), .flat (.int .u64 w2), .flat (.int .u64 w3)], .flat (.int .i64 b)] (fun _ => .flat (.bool r)) (fun _ => []) := by
  obtain ⟨s, rfl, hs⟩ := hw
  have hz := hAt_zero s (n := b % 64) (by omega) (by omega)
  have hend := fun i a h1 h2 => @hAt_end s (b % 64) i a h1 h2
  have hr : dvOf Try.prog .rem 3 (.flat (.int .i64 b)) (.flat (.int .i64 64)) = some (.flat (.int .i64 (b % 64))) := rem3 b 64 h0 (by decide)
  have hq : dvOf Try.prog .quo 3 (.flat (.int .i64 b)) (.flat (.int .i64 64)) = some (.flat (.int .i64 1)) := by rw [quo3 b 64 h0 (by omega) (by decide), hb]
  refine ⟨hasN s (b % 64), ?_⟩
  clear hb h0 h1
  generalize b % 64 = n at *
  generalize hasN s n = z at *
  refine acalls_symF tabF_ok fn76 rfl rfl rfl (by kernel_rfl) ?_
  have hfin : ∀ st, resA Try.prog Try.f76 st = some (.flat (.bool z)) → G.Leaves Try.prog Try.f76 (fun _ => .flat (.bool z)) (fun _ => []) st := fun st h => G.Leaves.plain h rfl
  rintro ⟨lt, le, eq, se, ar, dv, una, conv, len, sln, nat, nth, ixs, cel, sto, app, cpy, slc, mak, ixv, oth, dk, ib, call⟩ hS hm Q hQ
  obtain ⟨hlt, hle, heq, hse, har, hdv, huna, hconv, hlen, hsln, hnat, hnth, hixs, hcel, hsto, happ, hcpy, hslc, hmak, hixv, hoth, hdk, hib, hcall⟩ := Sym.mk.inj hS
  clear hS
  have hnt : ∀ n : Nat, nat n = U.natI n := fun n => by rw [hnat]; rfl
  have hbox : ∀ e c off, cel (some ⟨e, [c]⟩) 0 off = if off ≤ c.length then some (c.drop off) else none := fun e c off => by rw [hcel]; rfl
  have hsbox : ∀ e c off sz y, sto (some ⟨e, [c]⟩) 0 off sz y = if y.cells.length = sz ∧ off + sz ≤ c.length ∧ y.cells.all AV.one = true then some ⟨e, [spl c off y.cells]⟩ else none := fun e c off sz y => by rw [hsto]; rfl
  have hcaw : ∀ {f args T base K}, CallK Try.prog f args T base K → call f args T base K := fun h => by rw [hcall]; exact h
  have hcal : ∀ {f args T base} {K : AV → Table → List Nat → List Nat → Prop}, (∃ args' ids val rows, Hands T ids args args' (val base) (rows base) ∧ ACalls Try.prog f args' val rows ∧ (rows base).length ≤ 8 ∧ K (val base) (adopt T base (rows base)) ids ((List.range (rows base).length).map (base + ·))) → call f args T base K := fun h => hcaw (call_own h)
  have hq : dv .quo 3 (.flat (.int .i64 b)) (.flat (.int .i64 64)) = some (.flat (.int .i64 1)) := by rw [hdv]; exact hq
  have hr : dv .rem 3 (.flat (.int .i64 b)) (.flat (.int .i64 64)) = some (.flat (.int .i64 n)) := by rw [hdv]; exact hr
  generalize hS : (s : Int) = sI at hz
  cbv
  rw [hq]; cbv
  repeat (first | (rw [hbox]; cbv) | (rw [hsbox]; cbv))
  refine MW_loop hm [] [1, 5, 6] 7 (by simp) (fun mz st => ∃ (i a : Int), HAt s n i a ∧ mz = U.left n i ∧ st = stOf [.dead, .flat (.int .i64 b), .dead, .dead, .dead, .flat (.int .u64 a), .flat (.int .i64 i)] [] 0) (U.left n 0) ?_ ?_
  · exact ⟨0, sI, hz, rfl, cut_eq (by cbv) (by rfl)⟩
  rintro mz st ⟨i, a, hi, hmz, rfl⟩
  obtain ⟨ha0, ha1⟩ := hAt_range hs hi
  cases hc : lt i n
  · have hc' : decide (i < n) = false := by rw [hlt] at hc; exact hc
    have hr2 : dv .rem 26 (.flat (.int .u64 a)) (.flat (.int .u64 2)) = some (.flat (.int .u64 (a % 2))) := by rw [hdv]; exact rem2 a ha0 ha1
    have he : eq (a % 2) 1 = z := by rw [heq]; exact hend i a hi hc'
    generalize a % 2 = r at hr2 he
    cbv
    rw [hr]; cbv
    rw [hc]; cbv
    rw [hr2]; cbv
    rw [he]
    exact hQ _ _ trivial (hfin _ (by cbv))
  have hc' : decide (i < n) = true := by rw [hlt] at hc; exact hc
  obtain ⟨q1, q2, q3⟩ := hAt_step hi hc'
  rw [← har] at q3
  have hq2 : dv .quo 26 (.flat (.int .u64 a)) (.flat (.int .u64 2)) = some (.flat (.int .u64 (a / 2))) := by rw [hdv]; exact quo2 a ha0 ha1
  generalize a / 2 = a2 at hq2 q1
  generalize i + 1 = i2 at q1 q2 q3
  cbv
  rw [hr]; cbv
  rw [hc]; cbv
  rw [hq2]; cbv
  rw [q3]
  exact ⟨[], [1, 5, 6], 7, U.left n i2, hmz ▸ q2, by simp, i2, a2, q1, rfl, cut_eq (by cbv) (by rfl)⟩
theorem shas2 (w0 w1 w2 w3 b : Int) (hw : W64 w2) (hb : b / 64 = 2) (h0 : 0 ≤ b) (h1 : b < 256) : ∃ r : Bool, ACalls Try.prog 76 [.agg [.flat (.int .u64 w0), .flat (.int .u64 w1), .flat (.int .u64 w2), .flat (.int .u64 w3)], .flat (.int .i64 b)] (fun _ => .flat (.bool r)) (fun _ => []) := by
  obtain ⟨s, rfl, hs⟩ := hw
  have hz := hAt_zero s (n := b % 64) (by omega) (by omega)
  have hend := fun i a h1 h2 => @hAt_end s (b % 64) i a h1 h2
  have hr : dvOf Try.prog .rem 3 (.flat (.int .i64 b)) (.flat (.int .i64 64)) = some (.flat (.int .i64 (b % 64))) := rem3 b 64 h0 (by decide)
  have hq : dvOf Try.prog .quo 3 (.flat (.int .i64 b)) (.flat (.int .i64 64)) = some (.flat (.int .i64 2)) := by rw [quo3 b 64 h0 (by omega) (by decide), hb]
  refine ⟨hasN s (b % 64), ?_⟩
  clear hb h0 h1
  generalize b % 64 = n at *
  generalize hasN s n = z at *
  refine acalls_symF tabF_ok fn76 rfl rfl rfl (by kernel_rfl) ?_
  have hfin : ∀ st, resA Try.prog Try.f76 st = some (.flat (.bool z)) → G.Leaves Try.prog Try.f76 (fun _ => .flat (.bool z)) (fun _ => []) st := fun st h => G.Leaves.plain h rfl
  rintro ⟨lt, le, eq, se, ar, dv, una, conv, len, sln, nat, nth, ixs, cel, sto, app, cpy, slc, mak, ixv, oth, dk, ib, call⟩ hS hm Q hQ
  obtain ⟨hlt, hle, heq, hse, har, hdv, huna, hconv, hlen, hsln, hnat, hnth, hixs, hcel, hsto, happ, hcpy, hslc, hmak, hixv, hoth, hdk, hib, hcall⟩ := Sym.mk.inj hS
  clear hS
  have hnt : ∀ n : Nat, nat n = U.natI n := fun n => by rw [hnat]; rfl
  have hbox : ∀ e c off, cel (some ⟨e, [c]⟩) 0 off = if off ≤ c.length then some (c.drop off) else none := fun e c off => by rw [hcel]; rfl
  have hsbox : ∀ e c off sz y, sto (some ⟨e, [c]⟩) 0 off sz y = if y.cells.length = sz ∧ off + sz ≤ c.length ∧ y.cells.all AV.one = true then some ⟨e, [spl c off y.cells]⟩ else none := fun e c off sz y => by rw [hsto]; rfl
  have hcaw : ∀ {f args T base K}, CallK Try.prog f args T base K → call f args T base K := fun h => by rw [hcall]; exact h
  have hcal : ∀ {f args T base} {K : AV → Table → List Nat → List Nat → Prop}, (∃ args' ids val rows, Hands T ids args args' (val base) (rows base) ∧ ACalls Try.prog f args' val rows ∧ (rows base).length ≤ 8 ∧ K (val base) (adopt T base (rows base)) ids ((List.range (rows base).length).map (base + ·))) → call f args T base K := fun h => hcaw (call_own h)
  have hq : dv .quo 3 (.flat (.int .i64 b)) (.flat (.int .i64 64)) = some (.flat (.int .i64 2)) := by rw [hdv]; exact hq
  have hr : dv .rem 3 (.flat (.int .i64 b)) (.flat (.int .i64 64)) = some (.flat (.int .i64 n)) := by rw [hdv]; exact hr
  generalize hS : (s : Int) = sI at hz
  cbv
  rw [hq]; cbv
  repeat (first | (rw [hbox]; cbv) | (rw [hsbox]; cbv))
  refine MW_loop hm [] [1, 5, 6] 7 (by simp) (fun mz st => ∃ (i a : Int), HAt s n i a ∧ mz = U.left n i ∧ st = stOf [.dead, .flat (.int .i64 b), .dead, .dead, .dead, .flat (.int .u64 a), .flat (.int .i64 i)] [] 0) (U.left n 0) ?_ ?_
  · exact ⟨0, sI, hz, rfl, cut_eq (by cbv) (by rfl)⟩
  rintro mz st ⟨i, a, hi, hmz, rfl⟩
  obtain ⟨ha0, ha1⟩ := hAt_range hs hi
  cases hc : lt i n
  · have hc' : decide (i < n) = false := by rw [hlt] at hc; exact hc
    have hr2 : dv .rem 26 (.flat (.int .u64 a)) (.flat (.int .u64 2)) = some (.flat (.int .u64 (a % 2))) := by rw [hdv]; exact rem2 a ha0 ha1
    have he : eq (a % 2) 1 = z := by rw [heq]; exact hend i a hi hc'
    generalize a % 2 = r at hr2 he
    cbv
    rw [hr]; cbv
    rw [hc]; cbv
    rw [hr2]; cbv
    rw [he]
    exact hQ _ _ trivial (hfin _ (by cbv))
  have hc' : decide (i < n) = true := by rw [hlt] at hc; exact hc
  obtain ⟨q1, q2, q3⟩ := hAt_step hi hc'
  rw [← har] at q3
  have hq2 : dv .quo 26 (.flat (.int .u64 a)) (.flat (.int .u64 2)) = some (.flat (.int .u64 (a / 2))) := by rw [hdv]; exact quo2 a ha0 ha1
  generalize a / 2 = a2 at hq2 q1
  generalize i + 1 = i2 at q1 q2 q3
  cbv
  rw [hr]; cbv
  rw [hc]; cbv
  rw [hq2]; cbv
  rw [q3]
  exact ⟨[], [1, 5, 6], 7, U.left n i2, hmz ▸ q2, by simp, i2, a2, q1, rfl, cut_eq (by cbv) (by rfl)⟩
theorem shas3 (w0 w1 w2 w3 b : Int) (hw : W64 w3) (hb : b / 64 = 3) (h0 : 0 ≤ b) (h1 : b < 256) : ∃ r : Bool, ACalls Try.prog 76 [.agg [.flat (.int .u64 w0), .flat (.int .u64 w1), .flat (.int .u64 w2), .flat (.int .u64 w3)], .flat (.int .i64 b)] (fun _ => .flat (.bool r)) (fun _ => []) := by
  obtain ⟨s, rfl, hs⟩ := hw
  have hz := hAt_zero s (n := b % 64) (by omega) (by omega)
  have hend := fun i a h1 h2 => @hAt_end s (b % 64) i a h1 h2
  have hr : dvOf Try.prog .rem 3 (.flat (.int .i64 b)) (.flat (.int .i64 64)) = some (.flat (.int .i64 (b % 64))) := rem3 b 64 h0 (by decide)
  have hq : dvOf Try.prog .quo 3 (.flat (.int .i64 b)) (.flat (.int .i64 64)) = some (.flat (.int .i64 3)) := by rw [quo3 b 64 h0 (by omega) (by decide), hb]
  refine ⟨hasN s (b % 64), ?_⟩
  clear hb h0 h1
  generalize b % 64 = n at *
  generalize hasN s n = z at *
  refine acalls_symF tabF_ok fn76 rfl rfl rfl (by kernel_rfl) ?_
  have hfin : ∀ st, resA Try.prog Try.f76 st = some (.flat (.bool z)) → G.Leaves Try.prog Try.f76 (fun _ => .flat (.bool z)) (fun _ => []) st := fun st h => G.Leaves.plain h rfl
  rintro ⟨lt, le, eq, se, ar, dv, una, conv, len, sln, nat, nth, ixs, cel, sto, app, cpy, slc, mak, ixv, oth, dk, ib, call⟩ hS hm Q hQ
  obtain ⟨hlt, hle, heq, hse, har, hdv, huna, hconv, hlen, hsln, hnat, hnth, hixs, hcel, hsto, happ, hcpy, hslc, hmak, hixv, hoth, hdk, hib, hcall⟩ := Sym.mk.inj hS
  clear hS
  have hnt : ∀ n : Nat, nat n = U.natI n := fun n => by rw [hnat]; rfl
  have hbox : ∀ e c off, cel (some ⟨e, [c]⟩) 0 off = if off ≤ c.length then some (c.drop off) else none := fun e c off => by rw [hcel]; rfl
  have hsbox : ∀ e c off sz y, sto (some ⟨e, [c]⟩) 0 off sz y = if y.cells.length = sz ∧ off + sz ≤ c.length ∧ y.cells.all AV.one = true then some ⟨e, [spl c off y.cells]⟩ else none := fun e c off sz y => by rw [hsto]; rfl
  have hcaw : ∀ {f args T base K}, CallK Try.prog f args T base K → call f args T base K := fun h => by rw [hcall]; exact h
  have hcal : ∀ {f args T base} {K : AV → Table → List Nat → List Nat → Prop}, (∃ args' ids val rows, Hands T ids args args' (val base) (rows base) ∧ ACalls Try.prog f args' val rows ∧ (rows base).length ≤ 8 ∧ K (val base) (adopt T base (rows base)) ids ((List.range (rows base).length).map (base + ·))) → call f args T base K := fun h => hcaw (call_own h)
  have hq : dv .quo 3 (.flat (.int .i64 b)) (.flat (.int .i64 64)) = some (.flat (.int .i64 3)) := by rw [hdv]; exact hq
  have hr : dv .rem 3 (.flat (.int .i64 b)) (.flat (.int .i64 64)) = some (.flat (.int .i64 n)) := by rw [hdv]; exact hr
  generalize hS : (s : Int) = sI at hz
  cbv
  rw [hq]; cbv
  repeat (first | (rw [hbox]; cbv) | (rw [hsbox]; cbv))
  refine MW_loop hm [] [1, 5, 6] 7 (by simp) (fun mz st => ∃ (i a : Int), HAt s n i a ∧ mz = U.left n i ∧ st = stOf [.dead, .flat (.int .i64 b), .dead, .dead, .dead, .flat (.int .u64 a), .flat (.int .i64 i)] [] 0) (U.left n 0) ?_ ?_
  · exact ⟨0, sI, hz, rfl, cut_eq (by cbv) (by rfl)⟩
  rintro mz st ⟨i, a, hi, hmz, rfl⟩
  obtain ⟨ha0, ha1⟩ := hAt_range hs hi
  cases hc : lt i n
  · have hc' : decide (i < n) = false := by rw [hlt] at hc; exact hc
    have hr2 : dv .rem 26 (.flat (.int .u64 a)) (.flat (.int .u64 2)) = some (.flat (.int .u64 (a % 2))) := by rw [hdv]; exact rem2 a ha0 ha1
    have he : eq (a % 2) 1 = z := by rw [heq]; exact hend i a hi hc'
    generalize a % 2 = r at hr2 he
    cbv
    rw [hr]; cbv
    rw [hc]; cbv
    rw [hr2]; cbv
    rw [he]
    exact hQ _ _ trivial (hfin _ (by cbv))
  have hc' : decide (i < n) = true := by rw [hlt] at hc; exact hc
  obtain ⟨q1, q2, q3⟩ := hAt_step hi hc'
  rw [← har] at q3
  have hq2 : dv .quo 26 (.flat (.int .u64 a)) (.flat (.int .u64 2)) = some (.flat (.int .u64 (a / 2))) := by rw [hdv]; exact quo2 a ha0 ha1
  generalize a / 2 = a2 at hq2 q1
  generalize i + 1 = i2 at q1 q2 q3
  cbv
  rw [hr]; cbv
  rw [hc]; cbv
  rw [hq2]; cbv
  rw [q3]
  exact ⟨[], [1, 5, 6], 7, U.left n i2, hmz ▸ q2, by simp, i2, a2, q1, rfl, cut_eq (by cbv) (by rfl)⟩
theorem shas_calls (w0 w1 w2 w3 b : Int) (v0 : W64 w0) (v1 : W64 w1) (v2 : W64 w2) (v3 : W64 w3) (h0 : 0 ≤ b) (h1 : b < 256) : ∃ r : Bool, ACalls Try.prog 76 [.agg [.flat (.int .u64 w0), .flat (.int .u64 w1), .flat (.int .u64 w2), .flat (.int .u64 w3)], .flat (.int .i64 b)] (fun _ => .flat (.bool r)) (fun _ => []) := by
  have h : b / 64 = 0 ∨ b / 64 = 1 ∨ b / 64 = 2 ∨ b / 64 = 3 := by omega
  rcases h with h | h | h | h
  · exact shas0 _ _ _ _ _ v0 h h0 h1
  · exact shas1 _ _ _ _ _ v1 h h0 h1
  · exact shas2 _ _ _ _ _ v2 h h0 h1
  · exact shas3 _ _ _ _ _ v3 h h0 h1
def RSet (val : Nat → AV) (rows : Nat → List Row) : Prop := ∃ a b c d, (W64 a ∧ W64 b ∧ W64 c ∧ W64 d) ∧ val = (fun _ => .agg [.flat (.int .u64 a), .flat (.int .u64 b), .flat (.int .u64 c), .flat (.int .u64 d)]) ∧ rows = fun _ => []
theorem rset_leaves {P : Program} {fn : Func} {st : St} {a b c d : Int} (hw : W64 a ∧ W64 b ∧ W64 c ∧ W64 d) (h : resA P fn st = some (.agg [.flat (.int .u64 a), .flat (.int .u64 b), .flat (.int .u64 c), .flat (.int .u64 d)])) : ∃ val rows, RSet val rows ∧ G.Leaves P fn val rows st :=
  ⟨_, _, ⟨a, b, c, d, hw, rfl, rfl⟩, G.Leaves.plain h rfl⟩
theorem w64_wrap (a : Int) : W64 (IntKind.u64.wrap a) := by
  have h : IntKind.u64.wrap a = a % 18446744073709551616 := rfl
  rw [h]
  exact ⟨(a % 18446744073709551616).toNat, by omega, by omega⟩
theorem w64_add (a b : Int) : W64 (arI .add .u64 a b) := w64_wrap (a + b)
theorem w64_zero : W64 0 := ⟨0, rfl, by decide⟩
theorem bool_cells {L : List Bool} : ∀ c ∈ L.map boolC, c.length = 1 := fun c hc => by obtain ⟨x, _, rfl⟩ := List.mem_map.1 hc; rfl
theorem sof_n (L : List Bool) (hl : L.length ≤ 1000000) : NCalls Try.prog 87 [.ro (L.map boolC)] RSet := by
  refine ncalls_symN tabF_ok fn87 rfl rfl rfl (by kernel_rfl) ?_
  rintro N hN ⟨lt, le, eq, se, ar, dv, una, conv, len, sln, nat, nth, ixs, cel, sto, app, cpy, slc, mak, ixv, oth, dk, ib, call⟩ hS hm Q hQ
  obtain ⟨hlt, hle, heq, hse, har, hdv, huna, hconv, hlen, hsln, hnat, hnth, hixs, hcel, hsto, happ, hcpy, hslc, hmak, hixv, hoth, hdk, hib, hcall⟩ := Sym.mk.inj hS
  clear hS
  have hnt : ∀ n : Nat, nat n = U.natI n := fun n => by rw [hnat]; rfl
  have hbox : ∀ e c off, cel (some ⟨e, [c]⟩) 0 off = if off ≤ c.length then some (c.drop off) else none := fun e c off => by rw [hcel]; rfl
  have hsbox : ∀ e c off sz y, sto (some ⟨e, [c]⟩) 0 off sz y = if y.cells.length = sz ∧ off + sz ≤ c.length ∧ y.cells.all AV.one = true then some ⟨e, [spl c off y.cells]⟩ else none := fun e c off sz y => by rw [hsto]; rfl
  have hcaw : ∀ {f args T base K}, CallK Try.prog f args T base K → call f args T base K := fun h => by rw [hcall]; exact h
  have hcal : ∀ {f args T base} {K : AV → Table → List Nat → List Nat → Prop}, (∃ args' ids val rows, Hands T ids args args' (val base) (rows base) ∧ ACalls Try.prog f args' val rows ∧ (rows base).length ≤ 8 ∧ K (val base) (adopt T base (rows base)) ids ((List.range (rows base).length).map (base + ·))) → call f args T base K := fun h => hcaw (call_own h)
  have hcn : ∀ {f args T base} {K : AV → Table → Prop}, CallN Try.prog T base f args K → N f args T base K := fun h => by rw [hN]; exact h
  have hsx : ∀ (s : ByteArray) (i : Int), s.size ≤ 1000000 → 0 ≤ i → lt i (sln s) = true → ∃ v, ixv 9 (.flat (.string s)) (.flat (.int .i64 i)) = some (.flat (.int .u8 v)) ∧ 0 ≤ v ∧ v < 256 ∧ ar .add .i64 i 1 = i + 1 ∧ 0 ≤ i + 1 ∧ (s.size - (i + 1).toNat < s.size - i.toNat) ∧ i < s.size := fun s i hs h0 hc => by
    rw [hlt, hsln] at hc
    rw [hixv, har]
    exact ix_next s hs h0 hc
  have hrx : ∀ (X : List (List AV)) (sz : Nat) (i : Int), (∀ c ∈ X, c.length = sz) → X.length ≤ 1000000 → 0 ≤ i → lt i (len X) = true → ∃ c ∈ X, nth X i sz = some (.rp c) ∧ ar .add .i64 i 1 = i + 1 ∧ 0 ≤ i + 1 ∧ (X.length - (i + 1).toNat < X.length - i.toNat) ∧ i < X.length := fun X sz i hX hl h0 hc => by
    rw [hlt, hlen] at hc
    rw [hnth, har]
    exact row_next X hX hl h0 hc
  have hb1 : ∀ a : Int, 0 ≤ a → lt a 256 = true → lt a (len (L.map boolC)) = true → ∃ (v : Bool) (k j : Int), nth (L.map boolC) a 1 = some (.rp [.flat (.bool v)]) ∧ ar .add .i64 a 1 = a + 1 ∧ 0 ≤ a + 1 ∧ (L.length - (a + 1).toNat < L.length - a.toNat) ∧ dv .quo 3 (.flat (.int .i64 a)) (.flat (.int .i64 64)) = some (.flat (.int .i64 j)) ∧ (j = 0 ∨ j = 1 ∨ j = 2 ∨ j = 3) ∧ dv .rem 3 (.flat (.int .i64 a)) (.flat (.int .i64 64)) = some (.flat (.int .i64 k)) ∧ (∀ T, conv T 3 71 (.flat (.int .i64 k)) = some (.flat (.int .u64 k))) ∧ ∃ z : Int, dv .shl 26 (.flat (.int .u64 1)) (.flat (.int .u64 k)) = some (.flat (.int .u64 z)) := fun a q0 h2 hc => by
    rw [hlt] at h2
    have h2 := of_decide_eq_true h2
    obtain ⟨c, hc1, q1, q2, q3, q4, _⟩ := hrx (L.map boolC) 1 a bool_cells (by rw [List.length_map]; omega) q0 hc
    obtain ⟨x, _, rfl⟩ := List.mem_map.1 hc1
    rw [List.length_map] at q4
    refine ⟨x, a % 64, a / 64, q1, q2, q3, q4, ?_, by omega, ?_, fun T => ?_, ((bitN (a % 64) : Nat) : Int), ?_⟩
    · rw [hdv]; exact quo3 a 64 q0 (by omega) (by decide)
    · rw [hdv]; exact rem3 a 64 q0 (by decide)
    · rw [hconv]; exact conv71 _ (by omega) (by omega)
    · rw [hdv]; exact shl1 _ (by omega) (by omega)
  have hadd : ∀ a b, W64 (ar .add .u64 a b) := fun a b => by rw [har]; exact w64_add a b
  have hz0 : (0 : Int) ≤ 0 := Int.le_refl 0
  have hzw := w64_zero
  generalize L.length = ln at hb1
  generalize L.map boolC = X at *
  clear hl
  cbv
  refine MW_loop hm [0, 8] [0, 2, 3, 4] 5 (by simp) (fun mz st => ∃ (i w0 w1 w2 w3 : Int), 0 ≤ i ∧ (W64 w0 ∧ W64 w1 ∧ W64 w2 ∧ W64 w3) ∧ mz = ln - i.toNat ∧ st = stOf [.ro X, .dead, .ptr 0 0 0, .ptr 1 0 0, .flat (.int .i64 i)] [some ⟨124, [[.flat (.int .u64 0), .flat (.int .u64 0), .flat (.int .u64 0), .flat (.int .u64 0)]]⟩, some ⟨124, [[.flat (.int .u64 w0), .flat (.int .u64 w1), .flat (.int .u64 w2), .flat (.int .u64 w3)]]⟩] 2) (ln - (0 : Int).toNat) ?_ ?_
  · exact ⟨0, 0, 0, 0, 0, hz0, ⟨hzw, hzw, hzw, hzw⟩, rfl, cut_eq (by cbv) (cutRows_cons (by rfl) (by simp [closedAll, closedIn]) (cutRows_cons (by rfl) (by simp [closedAll, closedIn]) rfl))⟩
  rintro mz st ⟨i, w0, w1, w2, w3, hi, hw, hmz, rfl⟩
  cases hc : lt i 256
  · cbv
    rw [hc]; cbv
    repeat (first | (rw [hbox]; cbv) | (rw [hsbox]; cbv))
    exact hQ _ _ trivial (rset_leaves hw (by cbv))
  cases hc2 : lt i (len X)
  · cbv
    rw [hc]; cbv
    rw [hc2]; cbv
    repeat (first | (rw [hbox]; cbv) | (rw [hsbox]; cbv))
    exact hQ _ _ trivial (rset_leaves hw (by cbv))
  obtain ⟨v, k, j, q1, q2, q3, q4, q5, q6, q7, q8, z, q9⟩ := hb1 i hi hc hc2
  generalize i + 1 = i2 at q2 q3 q4
  obtain ⟨u0, u1, u2, u3⟩ := hw
  cases v
  · cbv
    rw [hc]; cbv
    rw [hc2]; cbv
    rw [q1]; cbv
    rw [q2]
    exact ⟨[0, 1], [0, 2, 3, 4], 5, ln - i2.toNat, hmz ▸ q4, by simp, i2, w0, w1, w2, w3, q3, ⟨u0, u1, u2, u3⟩, rfl, cut_eq (by cbv) (cutRows_cons (by rfl) (by simp [closedAll, closedIn]) (cutRows_cons (by rfl) (by simp [closedAll, closedIn]) rfl))⟩
  rcases q6 with rfl | rfl | rfl | rfl
  · cbv
    have hu := hadd w0 z
    generalize hy : ar .add .u64 w0 z = y at hu
    rw [hc]; cbv
    rw [hc2]; cbv
    rw [q1]; cbv
    rw [q5]; cbv
    repeat (first | (rw [hbox]; cbv) | (rw [hsbox]; cbv) | (rw [q5]; cbv) | (rw [q7]; cbv) | (rw [q8]; cbv) | (rw [q9]; cbv) | (rw [hy]; cbv))
    rw [q2]
    exact ⟨[0, 1], [0, 2, 3, 4], 5, ln - i2.toNat, hmz ▸ q4, by simp, i2, y, w1, w2, w3, q3, ⟨hu, u1, u2, u3⟩, rfl, cut_eq (by cbv) (cutRows_cons (by rfl) (by simp [closedAll, closedIn]) (cutRows_cons (by rfl) (by simp [closedAll, closedIn]) rfl))⟩
  · cbv
    have hu := hadd w1 z
    generalize hy : ar .add .u64 w1 z = y at hu
    rw [hc]; cbv
    rw [hc2]; cbv
    rw [q1]; cbv
    rw [q5]; cbv
    repeat (first | (rw [hbox]; cbv) | (rw [hsbox]; cbv) | (rw [q5]; cbv) | (rw [q7]; cbv) | (rw [q8]; cbv) | (rw [q9]; cbv) | (rw [hy]; cbv))
    rw [q2]
    exact ⟨[0, 1], [0, 2, 3, 4], 5, ln - i2.toNat, hmz ▸ q4, by simp, i2, w0, y, w2, w3, q3, ⟨u0, hu, u2, u3⟩, rfl, cut_eq (by cbv) (cutRows_cons (by rfl) (by simp [closedAll, closedIn]) (cutRows_cons (by rfl) (by simp [closedAll, closedIn]) rfl))⟩
  · cbv
    have hu := hadd w2 z
    generalize hy : ar .add .u64 w2 z = y at hu
    rw [hc]; cbv
    rw [hc2]; cbv
    rw [q1]; cbv
    rw [q5]; cbv
    repeat (first | (rw [hbox]; cbv) | (rw [hsbox]; cbv) | (rw [q5]; cbv) | (rw [q7]; cbv) | (rw [q8]; cbv) | (rw [q9]; cbv) | (rw [hy]; cbv))
    rw [q2]
    exact ⟨[0, 1], [0, 2, 3, 4], 5, ln - i2.toNat, hmz ▸ q4, by simp, i2, w0, w1, y, w3, q3, ⟨u0, u1, hu, u3⟩, rfl, cut_eq (by cbv) (cutRows_cons (by rfl) (by simp [closedAll, closedIn]) (cutRows_cons (by rfl) (by simp [closedAll, closedIn]) rfl))⟩
  · cbv
    have hu := hadd w3 z
    generalize hy : ar .add .u64 w3 z = y at hu
    rw [hc]; cbv
    rw [hc2]; cbv
    rw [q1]; cbv
    rw [q5]; cbv
    repeat (first | (rw [hbox]; cbv) | (rw [hsbox]; cbv) | (rw [q5]; cbv) | (rw [q7]; cbv) | (rw [q8]; cbv) | (rw [q9]; cbv) | (rw [hy]; cbv))
    rw [q2]
    exact ⟨[0, 1], [0, 2, 3, 4], 5, ln - i2.toNat, hmz ▸ q4, by simp, i2, w0, w1, w2, y, q3, ⟨u0, u1, u2, hu⟩, rfl, cut_eq (by cbv) (cutRows_cons (by rfl) (by simp [closedAll, closedIn]) (cutRows_cons (by rfl) (by simp [closedAll, closedIn]) rfl))⟩
theorem rset_noRo {base : Nat} : ∀ val rows, RSet val rows → (val base).noRo = true ∧ ∀ r ∈ rows base, ∀ e ∈ r.els, ∀ x ∈ e, x.noRo1 = true := by
  rintro _ _ ⟨a, b, c, d, hw, rfl, rfl⟩
  exact ⟨rfl, fun r hr => by cases hr⟩
def setV (a b c d : Int) : AV := .agg [.flat (.int .u64 a), .flat (.int .u64 b), .flat (.int .u64 c), .flat (.int .u64 d)]
theorem sput_n (a0 a1 a2 a3 b0 b1 b2 b3 : Int) (ha : W64 a0 ∧ W64 a1 ∧ W64 a2 ∧ W64 a3) (hb : W64 b0 ∧ W64 b1 ∧ W64 b2 ∧ W64 b3) : NCalls Try.prog 84 [.flat (.int .i64 3), setV a0 a1 a2 a3, setV b0 b1 b2 b3] RSet := by
  unfold setV
  have hO := sof_n
  refine ncalls_symN tabF_ok fn84 rfl rfl rfl (by kernel_rfl) ?_
  rintro N hN ⟨lt, le, eq, se, ar, dv, una, conv, len, sln, nat, nth, ixs, cel, sto, app, cpy, slc, mak, ixv, oth, dk, ib, call⟩ hS hm Q hQ
  obtain ⟨hlt, hle, heq, hse, har, hdv, huna, hconv, hlen, hsln, hnat, hnth, hixs, hcel, hsto, happ, hcpy, hslc, hmak, hixv, hoth, hdk, hib, hcall⟩ := Sym.mk.inj hS
  clear hS
  have hnt : ∀ n : Nat, nat n = U.natI n := fun n => by rw [hnat]; rfl
  have hbox : ∀ e c off, cel (some ⟨e, [c]⟩) 0 off = if off ≤ c.length then some (c.drop off) else none := fun e c off => by rw [hcel]; rfl
  have hsbox : ∀ e c off sz y, sto (some ⟨e, [c]⟩) 0 off sz y = if y.cells.length = sz ∧ off + sz ≤ c.length ∧ y.cells.all AV.one = true then some ⟨e, [spl c off y.cells]⟩ else none := fun e c off sz y => by rw [hsto]; rfl
  have hcaw : ∀ {f args T base K}, CallK Try.prog f args T base K → call f args T base K := fun h => by rw [hcall]; exact h
  have hcal : ∀ {f args T base} {K : AV → Table → List Nat → List Nat → Prop}, (∃ args' ids val rows, Hands T ids args args' (val base) (rows base) ∧ ACalls Try.prog f args' val rows ∧ (rows base).length ≤ 8 ∧ K (val base) (adopt T base (rows base)) ids ((List.range (rows base).length).map (base + ·))) → call f args T base K := fun h => hcaw (call_own h)
  have hcn : ∀ {f args T base} {K : AV → Table → Prop}, CallN Try.prog T base f args K → N f args T base K := fun h => by rw [hN]; exact h
  have hsx : ∀ (s : ByteArray) (i : Int), s.size ≤ 1000000 → 0 ≤ i → lt i (sln s) = true → ∃ v, ixv 9 (.flat (.string s)) (.flat (.int .i64 i)) = some (.flat (.int .u8 v)) ∧ 0 ≤ v ∧ v < 256 ∧ ar .add .i64 i 1 = i + 1 ∧ 0 ≤ i + 1 ∧ (s.size - (i + 1).toNat < s.size - i.toNat) ∧ i < s.size := fun s i hs h0 hc => by
    rw [hlt, hsln] at hc
    rw [hixv, har]
    exact ix_next s hs h0 hc
  have hrx : ∀ (X : List (List AV)) (sz : Nat) (i : Int), (∀ c ∈ X, c.length = sz) → X.length ≤ 1000000 → 0 ≤ i → lt i (len X) = true → ∃ c ∈ X, nth X i sz = some (.rp c) ∧ ar .add .i64 i 1 = i + 1 ∧ 0 ≤ i + 1 ∧ (X.length - (i + 1).toNat < X.length - i.toNat) ∧ i < X.length := fun X sz i hX hl h0 hc => by
    rw [hlt, hlen] at hc
    rw [hnth, har]
    exact row_next X hX hl h0 hc
  have hst : ∀ (i : Int) (L : List Bool) (n : Nat), 0 ≤ i → i ≤ 256 → n = L.length → n = i.toNat → lt i 256 = true → ∃ r1 r2 : Bool, ACalls Try.prog 76 [.agg [.flat (.int .u64 a0), .flat (.int .u64 a1), .flat (.int .u64 a2), .flat (.int .u64 a3)], .flat (.int .i64 i)] (fun _ => .flat (.bool r1)) (fun _ => []) ∧ ACalls Try.prog 76 [.agg [.flat (.int .u64 b0), .flat (.int .u64 b1), .flat (.int .u64 b2), .flat (.int .u64 b3)], .flat (.int .i64 i)] (fun _ => .flat (.bool r2)) (fun _ => []) ∧ ar .add .i64 i 1 = i + 1 ∧ 0 ≤ i + 1 ∧ i + 1 ≤ 256 ∧ (256 - (i + 1)).toNat < (256 - i).toNat ∧ n + 1 = (i + 1).toNat ∧ ∀ b, n + 1 = (L ++ [b]).length ∧ ∀ (T : Table) (id k0 k : Nat), T k0 = some ⟨4, L.map boolC⟩ → T k = some ⟨4, [[.flat (.bool b)]]⟩ → k ≠ k0 → app T id 53 53 (.sl k0 0 n) (.sl k 0 1) = some (.sl id 0 (n + 1), (T.set k0 none).set id (some ⟨4, (L ++ [b]).map boolC⟩)) := fun i L n h0 h1 hn hn2 hc => by
    rw [hlt] at hc
    have hc := of_decide_eq_true hc
    obtain ⟨r1, c1⟩ := shas_calls a0 a1 a2 a3 i ha.1 ha.2.1 ha.2.2.1 ha.2.2.2 h0 hc
    obtain ⟨r2, c2⟩ := shas_calls b0 b1 b2 b3 i hb.1 hb.2.1 hb.2.2.1 hb.2.2.2 h0 hc
    refine ⟨r1, r2, c1, c2, by rw [har, ar_add64 (by omega) (by omega)], by omega, by omega, by omega, by omega, fun b => ⟨by simp [hn], fun T id k0 k h1 h2 h3 => ?_⟩⟩
    rw [happ]
    exact app_tip u53 z4 c4 (by decide) rfl (by decide) h1 h2 h3 rfl (by rw [List.length_map]; omega) rfl (by rw [hn, List.map_append, List.take_of_length_le (by simp)]; rfl) (by omega)
  have hof : ∀ (L : List Bool) (n : Nat) (i : Int), n = L.length → n = i.toNat → i ≤ 256 → NCalls Try.prog 87 [.ro (L.map boolC)] RSet := fun L n i h1 h2 h3 => hO L (by omega)
  have hcl : ∀ (L : List Bool) {O : List (List AV)}, O = L.map boolC → ∀ c ∈ O, closedAll [] c = true := fun L O h => h ▸ closed_map fun _ => rfl
  have hrd : ∀ L : List Bool, readRow (L.map boolC) := fun L => (flat_bool L).read
  have hml : ∀ L : List Bool, (L.map boolC).length = L.length := fun L => List.length_map _
  have hz0 : (0 : Int) ≤ 0 := Int.le_refl 0
  have hz1 : (0 : Int) ≤ 256 := by decide
  have k0 : eq 3 0 = false := by rw [heq]; decide
  have k1 : eq 3 1 = false := by rw [heq]; decide
  have k2 : eq 3 2 = false := by rw [heq]; decide
  clear ha hb hO
  cbv
  refine MW_loopZ hm [.slot 7 4] [0, 8, 16, 40] [0, 4, 5, 6, 7, 8] 9 (by simp) (fun mz st => ∃ (i : Int) (n : Nat) (L : List Bool) (O : List (List AV)), 0 ≤ i ∧ i ≤ 256 ∧ n = L.length ∧ n = i.toNat ∧ O = L.map boolC ∧ mz = (256 - i).toNat ∧ st = stOf [.flat (.int .i64 3), .dead, .dead, .dead, .ptr 0 0 0, .ptr 1 0 0, .ptr 2 0 0, .sl 3 0 n, .flat (.int .i64 i)] [some ⟨124, [[.flat (.int .u64 a0), .flat (.int .u64 a1), .flat (.int .u64 a2), .flat (.int .u64 a3)]]⟩, some ⟨124, [[.flat (.int .u64 b0), .flat (.int .u64 b1), .flat (.int .u64 b2), .flat (.int .u64 b3)]]⟩, some ⟨124, [[.flat (.int .u64 0), .flat (.int .u64 0), .flat (.int .u64 0), .flat (.int .u64 0)]]⟩, some ⟨4, O⟩] 4) (((256 : Int) - 0).toNat) ?_ ?_
  · exact ⟨0, 0, [], [], hz0, hz1, rfl, rfl, rfl, rfl, cut_eq (by cbv) (cutRows_cons (by rfl) (by simp [closedAll, closedIn]) (cutRows_cons (by rfl) (by simp [closedAll, closedIn]) (cutRows_cons (by rfl) (by simp [closedAll, closedIn]) (cutRows_cons (by rfl) (fun c hc => by cases hc) rfl))))⟩
  rintro mz st ⟨i, n, L, O, h0, h1, hn, hn2, hO, hmz, rfl⟩
  cases hc : lt i 256
  · have hL := hof L n i hn hn2 h1
    have hnX : n = (L.map boolC).length := (hn.trans (hml L).symm)
    have hrd2 := hrd L
    rw [← hO] at hL hnX hrd2
    clear hO
    cbv
    rw [hc]; cbv
    refine .inr (hcn ⟨[.ro O], [3], RSet, hL, .inr ⟨deeps_len ⟨deep_row (by simp) (by rfl) hnX hrd2, trivial⟩, rset_noRo⟩, ?_⟩)
    rintro _ _ ⟨a, b, c, d, hw, rfl, rfl⟩
    refine ⟨Nat.zero_le _, ?_⟩
    cbv
    repeat (first | (rw [hbox]; cbv) | (rw [hsbox]; cbv))
    exact hQ _ _ trivial (rset_leaves hw (by cbv))
  obtain ⟨r1, r2, c1, c2, q1, q2, q3, q4, q5, q6⟩ := hst i L n h0 h1 hn hn2 hc
  generalize i + 1 = i2 at q1 q2 q3 q4 q5
  generalize n + 1 = n2 at q5 q6
  cases r1
  · skip
    obtain ⟨q6, q7⟩ := q6 true
    rw [← hO] at q7
    obtain ⟨O2, hO2⟩ : ∃ O2, O2 = (L ++ [true]).map boolC := ⟨_, rfl⟩
    rw [← hO2] at q7
    generalize L ++ [true] = L2 at q6 hO2
    cbv
    rw [hc]; cbv
    refine ⟨by rw [hdk]; kernel_rfl, ?_⟩
    repeat (first | (rw [hbox]; cbv) | (rw [hsbox]; cbv))
    refine hcal ⟨_, [], _, _, .inl ⟨rfl, by cbv⟩, c1, by simp, ?_⟩
    cbv
    repeat (first | (rw [hbox]; cbv) | (rw [hsbox]; cbv))
    refine hcal ⟨_, [], _, _, .inl ⟨rfl, by cbv⟩, c2, by simp, ?_⟩
    cbv
    refine ⟨by rw [hib]; kernel_rfl, ?_⟩
    cbv
    rw [k0]; cbv
    rw [k1]; cbv
    rw [k2]; cbv
    rw [q7 _ _ _ _ rfl rfl (by decide)]; cbv
    rw [q1]
    exact ⟨[0, 1, 2, 172], [0, 4, 5, 6, 7, 8], 9, (256 - i2).toNat, hmz ▸ q4, by simp, i2, n2, L2, O2, q2, q3, q6, q5, hO2, rfl, cut_eq (by cbv) (cutRows_cons (by rfl) (by simp [closedAll, closedIn]) (cutRows_cons (by rfl) (by simp [closedAll, closedIn]) (cutRows_cons (by rfl) (by simp [closedAll, closedIn]) (cutRows_cons (by rfl) (hcl _ hO2) rfl))))⟩
  · skip
    obtain ⟨q6, q7⟩ := q6 false
    rw [← hO] at q7
    obtain ⟨O2, hO2⟩ : ∃ O2, O2 = (L ++ [false]).map boolC := ⟨_, rfl⟩
    rw [← hO2] at q7
    generalize L ++ [false] = L2 at q6 hO2
    cbv
    rw [hc]; cbv
    refine ⟨by rw [hdk]; kernel_rfl, ?_⟩
    repeat (first | (rw [hbox]; cbv) | (rw [hsbox]; cbv))
    refine hcal ⟨_, [], _, _, .inl ⟨rfl, by cbv⟩, c1, by simp, ?_⟩
    cbv
    repeat (first | (rw [hbox]; cbv) | (rw [hsbox]; cbv))
    refine hcal ⟨_, [], _, _, .inl ⟨rfl, by cbv⟩, c2, by simp, ?_⟩
    cbv
    refine ⟨by rw [hib]; kernel_rfl, ?_⟩
    cbv
    rw [k0]; cbv
    rw [k1]; cbv
    rw [k2]; cbv
    rw [q7 _ _ _ _ rfl rfl (by decide)]; cbv
    rw [q1]
    exact ⟨[0, 1, 2, 172], [0, 4, 5, 6, 7, 8], 9, (256 - i2).toNat, hmz ▸ q4, by simp, i2, n2, L2, O2, q2, q3, q6, q5, hO2, rfl, cut_eq (by cbv) (cutRows_cons (by rfl) (by simp [closedAll, closedIn]) (cutRows_cons (by rfl) (by simp [closedAll, closedIn]) (cutRows_cons (by rfl) (by simp [closedAll, closedIn]) (cutRows_cons (by rfl) (hcl _ hO2) rfl))))⟩
end Go.Proofs.Ytnceadbfgpiaaaa.N
