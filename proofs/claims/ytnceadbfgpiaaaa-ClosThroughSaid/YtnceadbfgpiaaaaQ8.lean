/- J7, J8, J9, one behind the other. -/
import Derived.Test.YtnceadbfgpiaaaaQ7
/- Grammars; contracts: bosketlaw11.Few, bosketlaw17.Few. -/
namespace Go.Proofs.Ytnceadbfgpiaaaa.J
open Go G U K I
set_option linter.unusedVariables false
set_option linter.unusedSimpArgs false
set_option maxRecDepth 100000
set_option maxHeartbeats 4000000
theorem fn34 : Try.prog.funcs[34]? = some Try.f34 := by kernel_rfl
theorem fn14 : Try.prog.funcs[14]? = some Try.f14 := by kernel_rfl
structure RuleT where
  name : ByteArray
  kind : Int
  regex : ByteArray
instance : Inhabited RuleT := ⟨⟨⟨#[]⟩, 0, ⟨#[]⟩⟩⟩
def intC (k : Int) : List AV := [.flat (.int .i64 k)]
def ruleC (r : RuleT) : List AV := [.flat (.string r.name), .flat (.int .i64 r.kind), .flat (.string r.regex)]
structure SymT where
  sort : Bool
  n : Int
instance : Inhabited SymT := ⟨⟨false, 0⟩⟩
def symC (s : SymT) : List AV := [.flat (.bool s.sort), .flat (.int .i64 s.n)]
structure ProdT where
  sort : Int
  con : ByteArray
  body : List SymT
  paren : Bool
  prec : Int
  hints : List Int
instance : Inhabited ProdT := ⟨⟨0, ⟨#[]⟩, [], false, 0, []⟩⟩
def prodC (p : ProdT) : List AV := [.flat (.int .i64 p.sort), .flat (.string p.con), .ro (p.body.map symC), .flat (.bool p.paren), .flat (.int .i64 p.prec), .ro (p.hints.map intC)]
structure LevT where
  side : Int
  rules : List Int
instance : Inhabited LevT := ⟨⟨0, []⟩⟩
def levC (l : LevT) : List AV := [.flat (.int .i64 l.side), .ro (l.rules.map intC)]
instance : Inhabited ByteArray := ⟨⟨#[]⟩⟩
def strC (s : ByteArray) : List AV := [.flat (.string s)]
structure GramT where
  rules : List RuleT
  sorts : List ByteArray
  prods : List ProdT
  levels : List LevT
  start : Int
def gramL (g : GramT) : List AV := [.ro (g.rules.map ruleC), .ro (g.sorts.map strC), .ro (g.prods.map prodC), .ro (g.levels.map levC), .flat (.int .i64 g.start)]
def gramV (g : GramT) : AV := .agg (gramL g)

theorem len_small {n : Nat} {k : Int} (hk : k ≤ 1000000) (h : decide (k < (n : Int)) = false) : n ≤ 1000000 := by
  simp only [decide_eq_false_iff_not] at h
  omega
def ruleOk (r : RuleT) : Bool := !decide ((40 : Int) < (r.regex.size : Int)) && !decide ((100 : Int) < (r.name.size : Int))
def fewR (l : List RuleT) : Bool := !decide ((20 : Int) < (l.length : Int)) && l.all ruleOk
theorem fewR_calls (l : List RuleT) : ACalls Try.prog 34 [.ro (l.map ruleC)] (fun _ => .flat (.bool (fewR l))) (fun _ => []) := by
  have hz : fewR l = (!decide ((20 : Int) < (l.length : Int)) && l.all ruleOk) := rfl
  generalize fewR l = z at hz ⊢
  obtain ⟨X, hX⟩ : ∃ X, X = l.map ruleC := ⟨_, rfl⟩
  rw [← hX]
  refine acalls_symF tabF_ok fn34 rfl rfl rfl (by kernel_rfl) ?_
  have hfin : ∀ st, resA Try.prog Try.f34 st = some (.flat (.bool z)) → G.Leaves Try.prog Try.f34 (fun _ => .flat (.bool z)) (fun _ => []) st := fun st h => G.Leaves.plain h rfl
  rintro ⟨lt, le, eq, se, ar, dv, una, conv, len, sln, nat, nth, ixs, cel, sto, app, cpy, slc, mak, ixv, oth, dk, ib, call⟩ hS hm Q hQ
  obtain ⟨hlt, hle, heq, hse, har, hdv, huna, hconv, hlen, hsln, hnat, hnth, hixs, hcel, hsto, happ, hcpy, hslc, hmak, hixv, hoth, hdk, hib, hcall⟩ := Sym.mk.inj hS
  clear hS
  have hnt : ∀ n : Nat, nat n = U.natI n := fun n => by rw [hnat]; rfl
  have hbox : ∀ e c off, cel (some ⟨e, [c]⟩) 0 off = if off ≤ c.length then some (c.drop off) else none := fun e c off => by rw [hcel]; rfl
  have hsbox : ∀ e c off sz y, sto (some ⟨e, [c]⟩) 0 off sz y = if y.cells.length = sz ∧ off + sz ≤ c.length ∧ y.cells.all AV.one = true then some ⟨e, [spl c off y.cells]⟩ else none := fun e c off sz y => by rw [hsto]; rfl
  have hcaw : ∀ {f args T base K}, CallK Try.prog f args T base K → call f args T base K := fun h => by rw [hcall]; exact h
  have hcal : ∀ {f args T base} {K : AV → Table → List Nat → List Nat → Prop}, (∃ args' ids val rows, Hands T ids args args' (val base) (rows base) ∧ ACalls Try.prog f args' val rows ∧ (rows base).length ≤ 8 ∧ K (val base) (adopt T base (rows base)) ids ((List.range (rows base).length).map (base + ·))) → call f args T base K := fun h => hcaw (call_own h)
  have hn : len X = l.length := by rw [hlen, hX, len_map]
  have hl0 : lt 20 (len X) = decide ((20 : Int) < (l.length : Int)) := by rw [hlt, hn]
  rw [← hl0] at hz
  cbv
  cases h20 : lt 20 (len X)
  · have hs : l.length ≤ 1000000 := len_small (k := 20) (by decide) (hl0.symm.trans h20)
    rw [h20, Bool.not_false, Bool.true_and] at hz
    cbv
    refine MW_loop hm [] [0, 3] 4 List.nodup_nil (fun k st => ∃ i : Int, AllAt ruleOk l i ∧ k = U.left l.length i ∧ st = stOf [.ro X, .dead, .dead, .flat (.int .i64 i)] [] 0) (U.left l.length 0) ?_ ?_
    · exact ⟨0, all_zero _ l, rfl, cut_eq (by cbv) (by cbv)⟩
    · rintro k st ⟨i, hi, hk, rfl⟩
      cbv
      cases hc : lt i (len X)
      · have hc' : decide (i < (l.length : Int)) = false := by rw [hlt, hn] at hc; exact hc
        rw [all_end hi hc'] at hz
        subst hz
        cbv
        exact hQ _ _ trivial (hfin _ (by cbv))
      · have hc' : decide (i < (l.length : Int)) = true := by rw [hlt, hn] at hc; exact hc
        obtain ⟨_, h0, h1⟩ := at_lt hi.1 hc'
        have q2 := (at_step hi.1 hc').2
        have hadd : ar .add .i64 i 1 = i + 1 := by rw [har]; exact at_add hs hi.1 hc'
        have hix : nth X i 3 = some (.rp (ruleC (atI l i))) := by rw [hnth, hX]; exact nth_map (fun _ => rfl) h0 h1
        have hstep := all_step hi hc'
        have hhit := all_hit hi hc'
        generalize atI l i = t at hix hstep hhit
        obtain ⟨rn, rk, rr⟩ := t
        have hok : ruleOk ⟨rn, rk, rr⟩ = (!lt 40 (sln rr) && !lt 100 (sln rn)) := by rw [hlt, hsln]; rfl
        rw [hok] at hstep hhit
        generalize i + 1 = i2 at hadd hstep q2
        cbv
        rw [hix]; cbv
        cases h40 : lt 40 (sln rr)
        · cbv
          rw [hix]; cbv
          cases h100 : lt 100 (sln rn)
          · have q1 := hstep (by rw [h40, h100]; rfl)
            cbv
            rw [hadd]
            exact ⟨[], [0, 3], 4, U.left l.length i2, hk ▸ q2, List.nodup_nil, i2, q1, rfl, cut_eq (by cbv) (by cbv)⟩
          · rw [hhit (by rw [h100, Bool.not_true, Bool.and_false])] at hz
            subst hz
            cbv
            exact hQ _ _ trivial (hfin _ (by cbv))
        · rw [hhit (by rw [h40]; rfl)] at hz
          subst hz
          cbv
          exact hQ _ _ trivial (hfin _ (by cbv))
  · rw [h20] at hz
    simp only [Bool.not_true, Bool.false_and] at hz
    subst hz
    cbv
    exact hQ _ _ trivial (hfin _ (by cbv))

def prodOk (p : ProdT) : Bool := !decide ((20 : Int) < (p.body.length : Int)) && (!decide ((20 : Int) < (p.hints.length : Int)) && !decide ((100 : Int) < (p.con.size : Int)))
def levOk (l : LevT) : Bool := !decide ((20 : Int) < (l.rules.length : Int))
def sortOk (s : ByteArray) : Bool := !decide ((100 : Int) < (s.size : Int))
def fewG (g : GramT) : Bool := fewR g.rules && (!decide ((20 : Int) < (g.sorts.length : Int)) && (!decide ((40 : Int) < (g.prods.length : Int)) && (!decide ((20 : Int) < (g.levels.length : Int)) && (g.sorts.all sortOk && (g.prods.all prodOk && g.levels.all levOk)))))
theorem fewG_calls (g : GramT) : ACalls Try.prog 14 [gramV g] (fun _ => .flat (.bool (fewG g))) (fun _ => []) := by
  obtain ⟨rules, sorts, prods, levels, start⟩ := g
  have hz : fewG ⟨rules, sorts, prods, levels, start⟩ = (fewR rules && (!decide ((20 : Int) < (sorts.length : Int)) && (!decide ((40 : Int) < (prods.length : Int)) && (!decide ((20 : Int) < (levels.length : Int)) && (sorts.all sortOk && (prods.all prodOk && levels.all levOk)))))) := rfl
  generalize fewG ⟨rules, sorts, prods, levels, start⟩ = z at hz ⊢
  have hcR := fewR_calls rules
  generalize fewR rules = fr at hz hcR
  unfold gramV gramL
  dsimp only
  obtain ⟨R, hR⟩ : ∃ X, X = rules.map ruleC := ⟨_, rfl⟩
  obtain ⟨S, hSS⟩ : ∃ X, X = sorts.map strC := ⟨_, rfl⟩
  obtain ⟨D, hD⟩ : ∃ X, X = prods.map prodC := ⟨_, rfl⟩
  obtain ⟨V, hV⟩ : ∃ X, X = levels.map levC := ⟨_, rfl⟩
  rw [← hR] at hcR ⊢
  rw [← hSS, ← hD, ← hV]
  refine acalls_symF tabF_ok fn14 rfl rfl rfl (by kernel_rfl) ?_
  have hfin : ∀ st, resA Try.prog Try.f14 st = some (.flat (.bool z)) → G.Leaves Try.prog Try.f14 (fun _ => .flat (.bool z)) (fun _ => []) st := fun st h => G.Leaves.plain h rfl
  rintro ⟨lt, le, eq, se, ar, dv, una, conv, len, sln, nat, nth, ixs, cel, sto, app, cpy, slc, mak, ixv, oth, dk, ib, call⟩ hS hm Q hQ
  obtain ⟨hlt, hle, heq, hse, har, hdv, huna, hconv, hlen, hsln, hnat, hnth, hixs, hcel, hsto, happ, hcpy, hslc, hmak, hixv, hoth, hdk, hib, hcall⟩ := Sym.mk.inj hS
  clear hS
  have hnt : ∀ n : Nat, nat n = U.natI n := fun n => by rw [hnat]; rfl
  have hbox : ∀ e c off, cel (some ⟨e, [c]⟩) 0 off = if off ≤ c.length then some (c.drop off) else none := fun e c off => by rw [hcel]; rfl
  have hsbox : ∀ e c off sz y, sto (some ⟨e, [c]⟩) 0 off sz y = if y.cells.length = sz ∧ off + sz ≤ c.length ∧ y.cells.all AV.one = true then some ⟨e, [spl c off y.cells]⟩ else none := fun e c off sz y => by rw [hsto]; rfl
  have hcaw : ∀ {f args T base K}, CallK Try.prog f args T base K → call f args T base K := fun h => by rw [hcall]; exact h
  have hcal : ∀ {f args T base} {K : AV → Table → List Nat → List Nat → Prop}, (∃ args' ids val rows, Hands T ids args args' (val base) (rows base) ∧ ACalls Try.prog f args' val rows ∧ (rows base).length ≤ 8 ∧ K (val base) (adopt T base (rows base)) ids ((List.range (rows base).length).map (base + ·))) → call f args T base K := fun h => hcaw (call_own h)
  have hnS : len S = sorts.length := by rw [hlen, hSS, len_map]
  have hnD : len D = prods.length := by rw [hlen, hD, len_map]
  have hnV : len V = levels.length := by rw [hlen, hV, len_map]
  have hS0 : lt 20 (len S) = decide ((20 : Int) < (sorts.length : Int)) := by rw [hlt, hnS]
  have hD0 : lt 40 (len D) = decide ((40 : Int) < (prods.length : Int)) := by rw [hlt, hnD]
  have hV0 : lt 20 (len V) = decide ((20 : Int) < (levels.length : Int)) := by rw [hlt, hnV]
  rw [← hS0, ← hD0, ← hV0] at hz
  have done : z = false → ∀ st, resA Try.prog Try.f14 st = some (.flat (.bool false)) → Q .ret st := fun h st hr => hQ _ _ trivial (hfin _ (by rw [h]; exact hr))
  cbv
  repeat (first | (rw [hbox]; cbv))
  refine hcal ⟨_, [], _, _, .inl ⟨rfl, by cbv⟩, hcR, by simp, ?_⟩
  cbv
  cases fr
  · cbv
    exact done (by rw [hz, Bool.false_and]) _ (by cbv)
  rw [Bool.true_and] at hz
  cbv
  repeat (first | (rw [hbox]; cbv))
  cases h1 : lt 20 (len S)
  rotate_left
  · rw [h1, Bool.not_true, Bool.false_and] at hz
    cbv
    exact done hz _ (by cbv)
  have hs1 : sorts.length ≤ 1000000 := len_small (k := 20) (by decide) (hS0.symm.trans h1)
  rw [h1, Bool.not_false, Bool.true_and] at hz
  cbv
  repeat (first | (rw [hbox]; cbv))
  cases h2 : lt 40 (len D)
  rotate_left
  · rw [h2, Bool.not_true, Bool.false_and] at hz
    cbv
    exact done hz _ (by cbv)
  have hs2 : prods.length ≤ 1000000 := len_small (k := 40) (by decide) (hD0.symm.trans h2)
  rw [h2, Bool.not_false, Bool.true_and] at hz
  cbv
  repeat (first | (rw [hbox]; cbv))
  cases h3 : lt 20 (len V)
  rotate_left
  · rw [h3, Bool.not_true, Bool.false_and] at hz
    cbv
    exact done hz _ (by cbv)
  have hs3 : levels.length ≤ 1000000 := len_small (k := 20) (by decide) (hV0.symm.trans h3)
  rw [h3, Bool.not_false, Bool.true_and] at hz
  cbv
  refine MW_loop hm [0] [1, 3] 4 (by simp) (fun k st => ∃ i : Int, AllAt sortOk sorts i ∧ k = U.left sorts.length i ∧ st = stOf [.dead, .ptr 0 0 0, .dead, .flat (.int .i64 i)] [some ⟨39, [[.ro R, .ro S, .ro D, .ro V, .flat (.int .i64 start)]]⟩] 1) (U.left sorts.length 0) ?_ ?_
  · exact ⟨0, all_zero _ sorts, rfl, cut_eq (by cbv) (by cbv)⟩
  rintro k st ⟨i, hi, hk, rfl⟩
  cbv
  rw [hbox]; cbv
  cases hc : lt i (len S)
  rotate_left
  · have hc' : decide (i < (sorts.length : Int)) = true := by rw [hlt, hnS] at hc; exact hc
    obtain ⟨_, h0, h1⟩ := at_lt hi.1 hc'
    have q2 := (at_step hi.1 hc').2
    have hadd : ar .add .i64 i 1 = i + 1 := by rw [har]; exact at_add hs1 hi.1 hc'
    have hix : nth S i 1 = some (.rp (strC (atI sorts i))) := by rw [hnth, hSS]; exact nth_map (fun _ => rfl) h0 h1
    have hstep := all_step hi hc'
    have hhit := all_hit hi hc'
    generalize atI sorts i = t at hix hstep hhit
    have hok : sortOk t = !lt 100 (sln t) := by rw [hlt, hsln]; rfl
    rw [hok] at hstep hhit
    generalize i + 1 = i2 at hadd hstep q2
    cbv
    repeat (first | (rw [hbox]; cbv) | (rw [hix]; cbv))
    cases h100 : lt 100 (sln t)
    · have q1 := hstep (by rw [h100]; rfl)
      cbv
      rw [hadd]
      exact ⟨[0], [1, 3], 4, U.left sorts.length i2, hk ▸ q2, by simp, i2, q1, rfl, cut_eq (by cbv) (by cbv)⟩
    · rw [hhit (by rw [h100]; rfl), Bool.false_and] at hz
      cbv
      exact done hz _ (by cbv)
  have hc' : decide (i < (sorts.length : Int)) = false := by rw [hlt, hnS] at hc; exact hc
  rw [all_end hi hc', Bool.true_and] at hz
  clear hc hc' hi hk
  cbv
  refine MW_loop hm [0] [1, 4] 5 (by simp) (fun k st => ∃ i : Int, AllAt prodOk prods i ∧ k = U.left prods.length i ∧ st = stOf [.dead, .ptr 0 0 0, .dead, .dead, .flat (.int .i64 i)] [some ⟨39, [[.ro R, .ro S, .ro D, .ro V, .flat (.int .i64 start)]]⟩] 1) (U.left prods.length 0) ?_ ?_
  · exact ⟨0, all_zero _ prods, rfl, cut_eq (by cbv) (by cbv)⟩
  clear i k
  rintro k st ⟨i, hi, hk, rfl⟩
  cbv
  rw [hbox]; cbv
  cases hc : lt i (len D)
  rotate_left
  · have hc' : decide (i < (prods.length : Int)) = true := by rw [hlt, hnD] at hc; exact hc
    obtain ⟨_, h0, h1⟩ := at_lt hi.1 hc'
    have q2 := (at_step hi.1 hc').2
    have hadd : ar .add .i64 i 1 = i + 1 := by rw [har]; exact at_add hs2 hi.1 hc'
    have hix : nth D i 6 = some (.rp (prodC (atI prods i))) := by rw [hnth, hD]; exact nth_map (fun _ => rfl) h0 h1
    have hstep := all_step hi hc'
    have hhit := all_hit hi hc'
    generalize atI prods i = t at hix hstep hhit
    obtain ⟨ps, pc, pb, pp, pe, ph⟩ := t
    obtain ⟨B, hB⟩ : ∃ X, X = pb.map symC := ⟨_, rfl⟩
    obtain ⟨H, hH⟩ : ∃ X, X = ph.map intC := ⟨_, rfl⟩
    have hok : prodOk ⟨ps, pc, pb, pp, pe, ph⟩ = (!lt 20 (len B) && (!lt 20 (len H) && !lt 100 (sln pc))) := by rw [hlt, hsln, hlen, hB, hH, len_map, len_map]; rfl
    rw [hok] at hstep hhit
    unfold prodC at hix
    dsimp only at hix
    rw [← hB, ← hH] at hix
    generalize i + 1 = i2 at hadd hstep q2
    cbv
    repeat (first | (rw [hbox]; cbv) | (rw [hix]; cbv))
    cases h20 : lt 20 (len B)
    rotate_left
    · rw [hhit (by rw [h20]; rfl), Bool.false_and] at hz
      cbv
      exact done hz _ (by cbv)
    cbv
    repeat (first | (rw [hbox]; cbv) | (rw [hix]; cbv))
    cases h21 : lt 20 (len H)
    rotate_left
    · rw [hhit (by rw [h20, h21]; rfl), Bool.false_and] at hz
      cbv
      exact done hz _ (by cbv)
    cbv
    repeat (first | (rw [hbox]; cbv) | (rw [hix]; cbv))
    cases h100 : lt 100 (sln pc)
    rotate_left
    · rw [hhit (by rw [h20, h21, h100]; rfl), Bool.false_and] at hz
      cbv
      exact done hz _ (by cbv)
    have q1 := hstep (by rw [h20, h21, h100]; rfl)
    cbv
    rw [hadd]
    exact ⟨[0], [1, 4], 5, U.left prods.length i2, hk ▸ q2, by simp, i2, q1, rfl, cut_eq (by cbv) (by cbv)⟩
  have hc' : decide (i < (prods.length : Int)) = false := by rw [hlt, hnD] at hc; exact hc
  rw [all_end hi hc', Bool.true_and] at hz
  clear hc hc' hi hk
  cbv
  refine MW_loop hm [0] [1, 5] 6 (by simp) (fun k st => ∃ i : Int, AllAt levOk levels i ∧ k = U.left levels.length i ∧ st = stOf [.dead, .ptr 0 0 0, .dead, .dead, .dead, .flat (.int .i64 i)] [some ⟨39, [[.ro R, .ro S, .ro D, .ro V, .flat (.int .i64 start)]]⟩] 1) (U.left levels.length 0) ?_ ?_
  · exact ⟨0, all_zero _ levels, rfl, cut_eq (by cbv) (by cbv)⟩
  clear i k
  rintro k st ⟨i, hi, hk, rfl⟩
  cbv
  rw [hbox]; cbv
  cases hc : lt i (len V)
  rotate_left
  · have hc' : decide (i < (levels.length : Int)) = true := by rw [hlt, hnV] at hc; exact hc
    obtain ⟨_, h0, h1⟩ := at_lt hi.1 hc'
    have q2 := (at_step hi.1 hc').2
    have hadd : ar .add .i64 i 1 = i + 1 := by rw [har]; exact at_add hs3 hi.1 hc'
    have hix : nth V i 2 = some (.rp (levC (atI levels i))) := by rw [hnth, hV]; exact nth_map (fun _ => rfl) h0 h1
    have hstep := all_step hi hc'
    have hhit := all_hit hi hc'
    generalize atI levels i = t at hix hstep hhit
    obtain ⟨vs, vr⟩ := t
    obtain ⟨H, hH⟩ : ∃ X, X = vr.map intC := ⟨_, rfl⟩
    have hok : levOk ⟨vs, vr⟩ = !lt 20 (len H) := by rw [hlt, hlen, hH, len_map]; rfl
    rw [hok] at hstep hhit
    unfold levC at hix
    dsimp only at hix
    rw [← hH] at hix
    generalize i + 1 = i2 at hadd hstep q2
    cbv
    repeat (first | (rw [hbox]; cbv) | (rw [hix]; cbv))
    cases h20 : lt 20 (len H)
    rotate_left
    · rw [hhit (by rw [h20]; rfl)] at hz
      cbv
      exact done hz _ (by cbv)
    have q1 := hstep (by rw [h20]; rfl)
    cbv
    rw [hadd]
    exact ⟨[0], [1, 5], 6, U.left levels.length i2, hk ▸ q2, by simp, i2, q1, rfl, cut_eq (by cbv) (by cbv)⟩
  have hc' : decide (i < (levels.length : Int)) = false := by rw [hlt, hnV] at hc; exact hc
  rw [all_end hi hc'] at hz
  subst hz
  cbv
  exact hQ _ _ trivial (hfin _ (by cbv))
theorem few_facts {g : GramT} (h : fewG g = true) : g.rules.length ≤ 20 ∧ g.sorts.length ≤ 20 ∧ g.prods.length ≤ 40 ∧ ∀ p ∈ g.prods, p.body.length ≤ 20 := by
  simp only [fewG, fewR, Bool.and_eq_true, Bool.not_eq_true', decide_eq_false_iff_not, List.all_eq_true, prodOk] at h
  obtain ⟨⟨h0, _⟩, h1, h2, h3, h4, h5, h6⟩ := h
  exact ⟨by omega, by omega, by omega, fun p hp => by have := (h5 p hp).1; omega⟩
end Go.Proofs.Ytnceadbfgpiaaaa.J
/- Contracts: item.Body, Next, Rest, Whole, and the document's. -/
namespace Go.Proofs.Ytnceadbfgpiaaaa.J
open Go G U K I
set_option linter.unusedVariables false
set_option linter.unusedSimpArgs false
set_option maxRecDepth 100000
set_option maxHeartbeats 4000000
theorem fn15 : Try.prog.funcs[15]? = some Try.f15 := by kernel_rfl
theorem fn16 : Try.prog.funcs[16]? = some Try.f16 := by kernel_rfl
theorem fn17 : Try.prog.funcs[17]? = some Try.f17 := by kernel_rfl
theorem fn18 : Try.prog.funcs[18]? = some Try.f18 := by kernel_rfl
theorem fn19 : Try.prog.funcs[19]? = some Try.f19 := by kernel_rfl
theorem fn20 : Try.prog.funcs[20]? = some Try.f20 := by kernel_rfl
theorem leaves_frz2 {P : Program} {fn : Func} {st : St} {k n t1 t2 : Nat} {e : TypeId} {Y : List (List AV)} {v : Value} (hr : fn.results.toList = [.tmp t1, .tmp t2]) (h1 : st.s t1 = .sl k 0 n) (h2 : st.s t2 = .flat v) (hT : st.T k = some ⟨e, Y⟩) (hn : n = Y.length) (hY : ∀ c ∈ Y, closedAll [] c = true) : G.Leaves P fn (fun _ => .tup [.ro Y, .flat v]) (fun _ => []) st := by
  refine ⟨[], [k], [], .tup [.ro Y, .flat v], [], ?_, List.nodup_nil, Nat.zero_le _, by simp [closedIn, closedAll], rfl, (fun r hr => by cases hr), fun m => ⟨ren_nil _ _ (by simp [closedIn, closedAll]), rfl⟩⟩
  show resA P fn (frz1 k st) = _
  rw [frz1_at hT hY]
  simp [resA, hr, resV, St.op, frzS, h1, h2, badV, frzV, hn, AV.isDead, oneOf]
theorem frz_nil {st : St} {t : Nat} {e : TypeId} (h1 : st.s t = .flat (.slice none 0 0)) : frz [st.nx] (nils [.slot t e] st) = ⟨frzS st.nx [] (upd st.s t (.sl st.nx 0 0)), frzT st.nx [] (st.T.set st.nx (some ⟨e, []⟩)), st.nx + 1⟩ := by
  have h : nils [.slot t e] st = ⟨upd st.s t (.sl st.nx 0 0), st.T.set st.nx (some ⟨e, []⟩), st.nx + 1⟩ := by
    show nilSlot t e st = _
    unfold nilSlot
    rw [h1]; rfl
  rw [h]
  show frz1 st.nx _ = _
  exact frz1_at (e := e) (Y := []) (by simp [Table.set]) (fun c hc => by cases hc)
theorem leaves_nil2 {P : Program} {fn : Func} {st : St} {t1 t2 : Nat} {v : Value} (e : TypeId) (hr : fn.results.toList = [.tmp t1, .tmp t2]) (hne : t2 ≠ t1) (h1 : st.s t1 = .flat (.slice none 0 0)) (h2 : st.s t2 = .flat v) : G.Leaves P fn (fun _ => .tup [.ro [], .flat v]) (fun _ => []) st := by
  refine ⟨[.slot t1 e], [st.nx], [], .tup [.ro [], .flat v], [], ?_, List.nodup_nil, Nat.zero_le _, by simp [closedIn, closedAll], rfl, (fun r hr => by cases hr), fun m => ⟨ren_nil _ _ (by simp [closedIn, closedAll]), rfl⟩⟩
  rw [frz_nil h1]
  simp [resA, hr, resV, St.op, frzS, upd, h2, hne, badV, frzV, AV.isDead, oneOf]
theorem leaves_nil1 {P : Program} {fn : Func} {st : St} {t1 : Nat} (e : TypeId) (hr : fn.results.toList = [.tmp t1]) (h1 : st.s t1 = .flat (.slice none 0 0)) : G.Leaves P fn (fun _ => .ro []) (fun _ => []) st := by
  refine ⟨[.slot t1 e], [st.nx], [], .ro [], [], ?_, List.nodup_nil, Nat.zero_le _, by simp [closedIn, closedAll], rfl, (fun r hr => by cases hr), fun m => ⟨ren_nil _ _ (by simp [closedIn, closedAll]), rfl⟩⟩
  rw [frz_nil h1]
  simp [resA, hr, resV, St.op, frzS, upd, badV, frzV, AV.isDead, oneOf]
def bodyL (g : GramT) (p : Int) : List SymT := if 0 ≤ p ∧ p < g.prods.length then (atI g.prods p).body else if p = g.prods.length then [⟨true, g.start⟩] else []
def bodyOk (g : GramT) (p : Int) : Bool := decide (0 ≤ p ∧ p ≤ g.prods.length)
def nextOk (g : GramT) (x : ItemT) : Bool := decide (0 ≤ x.dot ∧ x.dot < (bodyL g x.prod).length)
def nextS (g : GramT) (x : ItemT) : SymT := if nextOk g x = true then atI (bodyL g x.prod) x.dot else ⟨false, 0⟩
def restL (g : GramT) (x : ItemT) : List SymT := if 0 ≤ x.dot ∧ x.dot < ((bodyL g x.prod).length : Int) - 1 then (bodyL g x.prod).drop (x.dot + 1).toNat else []
def wholeB (g : GramT) (x : ItemT) : Bool := bodyOk g x.prod && decide (x.dot = ((bodyL g x.prod).length : Int))
theorem body_off {g : GramT} {p : Int} (h : bodyOk g p = false) : bodyL g p = [] := by
  have h := of_decide_eq_false h
  unfold bodyL
  rw [if_neg (by omega), if_neg (by omega)]
theorem body_len {g : GramT} (hb : ∀ p ∈ g.prods, p.body.length ≤ 1000) (p : Int) : (bodyL g p).length ≤ 1000 := by
  unfold bodyL
  split
  · rename_i h; exact hb _ (at_mem h.1 h.2)
  · split <;> simp
theorem c75 : Try.prog.cellsOf 75 = 6 := by kernel_rfl
theorem u42 : Try.prog.underlying 42 = some (.slice 46) := by kernel_rfl
theorem z46 : tinfo Try.prog 46 = some (some (.agg #[.bool false, .int .i64 0]), 2, 16) := by kernel_rfl

theorem body_calls (g : GramT) (p : Int) : ACalls Try.prog 15 [gramV g, .flat (.int .i64 p)] (fun _ => .tup [.ro ((bodyL g p).map symC), .flat (.bool (bodyOk g p))]) (fun _ => []) := by
  have f1 : 0 ≤ p → p < (g.prods.length : Int) → nthE (g.prods.map prodC) p 6 = some (.rp (prodC (atI g.prods p))) ∧ bodyL g p = (atI g.prods p).body ∧ bodyOk g p = true := fun h0 h1 => by
    refine ⟨nth_map (fun _ => rfl) h0 h1, ?_, ?_⟩
    · unfold bodyL; rw [if_pos ⟨h0, h1⟩]
    · exact decide_eq_true ⟨h0, by omega⟩
  have f2 : p = (g.prods.length : Int) → bodyL g p = [⟨true, g.start⟩] ∧ bodyOk g p = true := fun h => by
    refine ⟨?_, decide_eq_true (by omega)⟩
    unfold bodyL; rw [if_neg (by omega), if_pos h]
  have f3 : (p < 0 ∨ (g.prods.length : Int) < p) → bodyL g p = [] ∧ bodyOk g p = false := fun h => by
    have : bodyOk g p = false := decide_eq_false (by omega)
    exact ⟨body_off this, this⟩
  obtain ⟨rules, sorts, prods, levels, start⟩ := g
  generalize hbl : bodyL ⟨rules, sorts, prods, levels, start⟩ p = bl at *
  generalize bodyOk ⟨rules, sorts, prods, levels, start⟩ p = ok at *
  unfold gramV gramL
  dsimp only at f1 f2 f3 ⊢
  have f1' : 0 ≤ p → p < (prods.length : Int) → ∃ (ps : Int) (pc : ByteArray) (pp : Bool) (pe : Int) (H : List (List AV)), nthE (prods.map prodC) p 6 = some (.rp [.flat (.int .i64 ps), .flat (.string pc), .ro (bl.map symC), .flat (.bool pp), .flat (.int .i64 pe), .ro H]) ∧ ok = true := fun h0 h1 => by
    obtain ⟨q1, q2, q3⟩ := f1 h0 h1
    rw [q2]
    exact ⟨_, _, _, _, _, q1, q3⟩
  have f2' : p = (prods.length : Int) → bl.map symC = [[.flat (.bool true), .flat (.int .i64 start)]] ∧ ok = true := fun h => by
    obtain ⟨q1, q2⟩ := f2 h
    rw [q1]; exact ⟨rfl, q2⟩
  have f3' : (p < 0 ∨ (prods.length : Int) < p) → bl.map symC = [] ∧ ok = false := fun h => by
    obtain ⟨q1, q2⟩ := f3 h
    rw [q1]; exact ⟨rfl, q2⟩
  clear f1 f2 f3 hbl
  have hDl : lenE (prods.map prodC) = (prods.length : Int) := len_map _ _
  generalize prods.length = pn at *
  generalize prods.map prodC = D at *
  generalize rules.map ruleC = R at *
  generalize sorts.map strC = S at *
  generalize levels.map levC = V at *
  obtain ⟨BB, hBB⟩ : ∃ B, B = bl.map symC := ⟨_, rfl⟩
  rw [← hBB] at f1' f2' f3' ⊢
  clear hBB
  refine acalls_symF tabF_ok fn15 rfl rfl rfl (by kernel_rfl) ?_
  have hfin : ∀ st, resA Try.prog Try.f15 st = some (.tup [.ro BB, .flat (.bool ok)]) → G.Leaves Try.prog Try.f15 (fun _ => .tup [.ro BB, .flat (.bool ok)]) (fun _ => []) st := fun st h => G.Leaves.plain h rfl
  rintro ⟨lt, le, eq, se, ar, dv, una, conv, len, sln, nat, nth, ixs, cel, sto, app, cpy, slc, mak, ixv, oth, dk, ib, call⟩ hS hm Q hQ
  obtain ⟨hlt, hle, heq, hse, har, hdv, huna, hconv, hlen, hsln, hnat, hnth, hixs, hcel, hsto, happ, hcpy, hslc, hmak, hixv, hoth, hdk, hib, hcall⟩ := Sym.mk.inj hS
  clear hS
  have hnt : ∀ n : Nat, nat n = U.natI n := fun n => by rw [hnat]; rfl
  have hbox : ∀ e c off, cel (some ⟨e, [c]⟩) 0 off = if off ≤ c.length then some (c.drop off) else none := fun e c off => by rw [hcel]; rfl
  have hsbox : ∀ e c off sz y, sto (some ⟨e, [c]⟩) 0 off sz y = if y.cells.length = sz ∧ off + sz ≤ c.length ∧ y.cells.all AV.one = true then some ⟨e, [spl c off y.cells]⟩ else none := fun e c off sz y => by rw [hsto]; rfl
  have hcaw : ∀ {f args T base K}, CallK Try.prog f args T base K → call f args T base K := fun h => by rw [hcall]; exact h
  have hcal : ∀ {f args T base} {K : AV → Table → List Nat → List Nat → Prop}, (∃ args' ids val rows, Hands T ids args args' (val base) (rows base) ∧ ACalls Try.prog f args' val rows ∧ (rows base).length ≤ 8 ∧ K (val base) (adopt T base (rows base)) ids ((List.range (rows base).length).map (base + ·))) → call f args T base K := fun h => hcaw (call_own h)
  have eA : le 0 p = decide (0 ≤ p) := by rw [hle]
  have eB : lt p (len D) = decide (p < (pn : Int)) := by rw [hlt, hlen, hDl]
  have eC : eq p (len D) = decide (p = (pn : Int)) := by rw [heq, hlen, hDl]
  have eD : lt p 0 = decide (p < 0) := by rw [hlt]
  have eE : lt (len D) p = decide ((pn : Int) < p) := by rw [hlt, hlen, hDl]
  have k1 : le 0 p = true → lt p (len D) = true → ∃ (ps : Int) (pc : ByteArray) (pp : Bool) (pe : Int) (H : List (List AV)), nth D p 6 = some (.rp [.flat (.int .i64 ps), .flat (.string pc), .ro BB, .flat (.bool pp), .flat (.int .i64 pe), .ro H]) ∧ ok = true := fun h1 h2 => by
    rw [hnth]; exact f1' (of_decide_eq_true (eA ▸ h1)) (of_decide_eq_true (eB ▸ h2))
  have k2 : eq p (len D) = true → BB = [[.flat (.bool true), .flat (.int .i64 start)]] ∧ ok = true := fun h => f2' (of_decide_eq_true (eC ▸ h))
  have k3 : (le 0 p = false ∨ lt p (len D) = false) → eq p (len D) = false → BB = [] ∧ ok = false := fun h h2 => f3' (by
    have h2 := of_decide_eq_false (eC ▸ h2)
    rcases h with h | h
    · have := of_decide_eq_false (eA ▸ h); omega
    · have := of_decide_eq_false (eB ▸ h); omega)
  have k4 : lt p 0 = true ∨ lt (len D) p = true → BB = [] ∧ ok = false := fun h => f3' (by
    rcases h with h | h
    · exact .inl (of_decide_eq_true (eD ▸ h))
    · exact .inr (of_decide_eq_true (eE ▸ h)))
  have k5 : lt p 0 = false → lt (len D) p = false → eq p (len D) = false → le 0 p = true ∧ lt p (len D) = true := fun h1 h2 h3 => by
    have h1 := of_decide_eq_false (eD ▸ h1)
    have h2 := of_decide_eq_false (eE ▸ h2)
    have h3 := of_decide_eq_false (eC ▸ h3)
    exact ⟨by rw [eA]; exact decide_eq_true (by omega), by rw [eB]; exact decide_eq_true (by omega)⟩
  clear f1' f2' f3' eA eB eC eD eE
  cases e1 : le 0 p
  · clear k1
    cases e3 : eq p (len D)
    · cbv
      repeat (first | (rw [hbox]; cbv) | (rw [hsbox]; cbv))
      rw [e1]; cbv
      repeat (first | (rw [hbox]; cbv) | (rw [hsbox]; cbv))
      rw [e3]; cbv
      obtain ⟨q1, q2⟩ := k3 (.inl e1) e3
      subst q1 q2
      exact hQ _ _ trivial (leaves_nil2 (t1 := 4) (t2 := 5) 46 rfl (by decide) (by rfl) (by rfl))
    cbv
    repeat (first | (rw [hbox]; cbv) | (rw [hsbox]; cbv))
    rw [e1]; cbv
    repeat (first | (rw [hbox]; cbv) | (rw [hsbox]; cbv))
    rw [e3]; cbv
    repeat (first | (rw [hbox]; cbv) | (rw [hsbox]; cbv))
    obtain ⟨q1, q2⟩ := k2 e3
    subst q1 q2
    exact hQ _ _ trivial (leaves_frz2 (k := 176) (t1 := 4) (t2 := 5) rfl (by rfl) (by rfl) (by rfl) rfl (fun c hc => by simp only [List.mem_cons, List.not_mem_nil, or_false] at hc; subst hc; rfl))
  cases e2 : lt p (len D)
  · clear k1
    cases e3 : eq p (len D)
    · cbv
      repeat (first | (rw [hbox]; cbv) | (rw [hsbox]; cbv))
      rw [e1]; cbv
      repeat (first | (rw [hbox]; cbv) | (rw [hsbox]; cbv))
      rw [e2]; cbv
      repeat (first | (rw [hbox]; cbv) | (rw [hsbox]; cbv))
      rw [e3]; cbv
      obtain ⟨q1, q2⟩ := k3 (.inr e2) e3
      subst q1 q2
      exact hQ _ _ trivial (leaves_nil2 (t1 := 4) (t2 := 5) 46 rfl (by decide) (by rfl) (by rfl))
    cbv
    repeat (first | (rw [hbox]; cbv) | (rw [hsbox]; cbv))
    rw [e1]; cbv
    repeat (first | (rw [hbox]; cbv) | (rw [hsbox]; cbv))
    rw [e2]; cbv
    repeat (first | (rw [hbox]; cbv) | (rw [hsbox]; cbv))
    rw [e3]; cbv
    repeat (first | (rw [hbox]; cbv) | (rw [hsbox]; cbv))
    obtain ⟨q1, q2⟩ := k2 e3
    subst q1 q2
    exact hQ _ _ trivial (leaves_frz2 (k := 176) (t1 := 4) (t2 := 5) rfl (by rfl) (by rfl) (by rfl) rfl (fun c hc => by simp only [List.mem_cons, List.not_mem_nil, or_false] at hc; subst hc; rfl))
  obtain ⟨ps, pc, pp, pe, H, q1, q2⟩ := k1 e1 e2
  subst q2
  cbv
  repeat (first | (rw [hbox]; cbv) | (rw [hsbox]; cbv))
  rw [e1]; cbv
  repeat (first | (rw [hbox]; cbv) | (rw [hsbox]; cbv))
  rw [e2]; cbv
  repeat (first | (rw [hbox]; cbv) | (rw [hsbox]; cbv) | (rw [q1]; cbv))
  exact hQ _ _ trivial (hfin _ (by cbv))
theorem refBody_calls (g : GramT) (p : Int) : ACalls Try.prog 16 [gramV g, .flat (.int .i64 p)] (fun _ => .tup [.ro ((bodyL g p).map symC), .flat (.bool (bodyOk g p))]) (fun _ => []) := by
  have f1 : 0 ≤ p → p < (g.prods.length : Int) → nthE (g.prods.map prodC) p 6 = some (.rp (prodC (atI g.prods p))) ∧ bodyL g p = (atI g.prods p).body ∧ bodyOk g p = true := fun h0 h1 => by
    refine ⟨nth_map (fun _ => rfl) h0 h1, ?_, ?_⟩
    · unfold bodyL; rw [if_pos ⟨h0, h1⟩]
    · exact decide_eq_true ⟨h0, by omega⟩
  have f2 : p = (g.prods.length : Int) → bodyL g p = [⟨true, g.start⟩] ∧ bodyOk g p = true := fun h => by
    refine ⟨?_, decide_eq_true (by omega)⟩
    unfold bodyL; rw [if_neg (by omega), if_pos h]
  have f3 : (p < 0 ∨ (g.prods.length : Int) < p) → bodyL g p = [] ∧ bodyOk g p = false := fun h => by
    have : bodyOk g p = false := decide_eq_false (by omega)
    exact ⟨body_off this, this⟩
  obtain ⟨rules, sorts, prods, levels, start⟩ := g
  generalize hbl : bodyL ⟨rules, sorts, prods, levels, start⟩ p = bl at *
  generalize bodyOk ⟨rules, sorts, prods, levels, start⟩ p = ok at *
  unfold gramV gramL
  dsimp only at f1 f2 f3 ⊢
  have f1' : 0 ≤ p → p < (prods.length : Int) → ∃ (ps : Int) (pc : ByteArray) (pp : Bool) (pe : Int) (H : List (List AV)), nthE (prods.map prodC) p 6 = some (.rp [.flat (.int .i64 ps), .flat (.string pc), .ro (bl.map symC), .flat (.bool pp), .flat (.int .i64 pe), .ro H]) ∧ ok = true := fun h0 h1 => by
    obtain ⟨q1, q2, q3⟩ := f1 h0 h1
    rw [q2]
    exact ⟨_, _, _, _, _, q1, q3⟩
  have f2' : p = (prods.length : Int) → bl.map symC = [[.flat (.bool true), .flat (.int .i64 start)]] ∧ ok = true := fun h => by
    obtain ⟨q1, q2⟩ := f2 h
    rw [q1]; exact ⟨rfl, q2⟩
  have f3' : (p < 0 ∨ (prods.length : Int) < p) → bl.map symC = [] ∧ ok = false := fun h => by
    obtain ⟨q1, q2⟩ := f3 h
    rw [q1]; exact ⟨rfl, q2⟩
  clear f1 f2 f3 hbl
  have hDl : lenE (prods.map prodC) = (prods.length : Int) := len_map _ _
  generalize prods.length = pn at *
  generalize prods.map prodC = D at *
  generalize rules.map ruleC = R at *
  generalize sorts.map strC = S at *
  generalize levels.map levC = V at *
  obtain ⟨BB, hBB⟩ : ∃ B, B = bl.map symC := ⟨_, rfl⟩
  rw [← hBB] at f1' f2' f3' ⊢
  clear hBB
  refine acalls_symF tabF_ok fn16 rfl rfl rfl (by kernel_rfl) ?_
  have hfin : ∀ st, resA Try.prog Try.f16 st = some (.tup [.ro BB, .flat (.bool ok)]) → G.Leaves Try.prog Try.f16 (fun _ => .tup [.ro BB, .flat (.bool ok)]) (fun _ => []) st := fun st h => G.Leaves.plain h rfl
  rintro ⟨lt, le, eq, se, ar, dv, una, conv, len, sln, nat, nth, ixs, cel, sto, app, cpy, slc, mak, ixv, oth, dk, ib, call⟩ hS hm Q hQ
  obtain ⟨hlt, hle, heq, hse, har, hdv, huna, hconv, hlen, hsln, hnat, hnth, hixs, hcel, hsto, happ, hcpy, hslc, hmak, hixv, hoth, hdk, hib, hcall⟩ := Sym.mk.inj hS
  clear hS
  have hnt : ∀ n : Nat, nat n = U.natI n := fun n => by rw [hnat]; rfl
  have hbox : ∀ e c off, cel (some ⟨e, [c]⟩) 0 off = if off ≤ c.length then some (c.drop off) else none := fun e c off => by rw [hcel]; rfl
  have hsbox : ∀ e c off sz y, sto (some ⟨e, [c]⟩) 0 off sz y = if y.cells.length = sz ∧ off + sz ≤ c.length ∧ y.cells.all AV.one = true then some ⟨e, [spl c off y.cells]⟩ else none := fun e c off sz y => by rw [hsto]; rfl
  have hcaw : ∀ {f args T base K}, CallK Try.prog f args T base K → call f args T base K := fun h => by rw [hcall]; exact h
  have hcal : ∀ {f args T base} {K : AV → Table → List Nat → List Nat → Prop}, (∃ args' ids val rows, Hands T ids args args' (val base) (rows base) ∧ ACalls Try.prog f args' val rows ∧ (rows base).length ≤ 8 ∧ K (val base) (adopt T base (rows base)) ids ((List.range (rows base).length).map (base + ·))) → call f args T base K := fun h => hcaw (call_own h)
  have eA : le 0 p = decide (0 ≤ p) := by rw [hle]
  have eB : lt p (len D) = decide (p < (pn : Int)) := by rw [hlt, hlen, hDl]
  have eC : eq p (len D) = decide (p = (pn : Int)) := by rw [heq, hlen, hDl]
  have eD : lt p 0 = decide (p < 0) := by rw [hlt]
  have eE : lt (len D) p = decide ((pn : Int) < p) := by rw [hlt, hlen, hDl]
  have k1 : le 0 p = true → lt p (len D) = true → ∃ (ps : Int) (pc : ByteArray) (pp : Bool) (pe : Int) (H : List (List AV)), nth D p 6 = some (.rp [.flat (.int .i64 ps), .flat (.string pc), .ro BB, .flat (.bool pp), .flat (.int .i64 pe), .ro H]) ∧ ok = true := fun h1 h2 => by
    rw [hnth]; exact f1' (of_decide_eq_true (eA ▸ h1)) (of_decide_eq_true (eB ▸ h2))
  have k2 : eq p (len D) = true → BB = [[.flat (.bool true), .flat (.int .i64 start)]] ∧ ok = true := fun h => f2' (of_decide_eq_true (eC ▸ h))
  have k3 : (le 0 p = false ∨ lt p (len D) = false) → eq p (len D) = false → BB = [] ∧ ok = false := fun h h2 => f3' (by
    have h2 := of_decide_eq_false (eC ▸ h2)
    rcases h with h | h
    · have := of_decide_eq_false (eA ▸ h); omega
    · have := of_decide_eq_false (eB ▸ h); omega)
  have k4 : lt p 0 = true ∨ lt (len D) p = true → BB = [] ∧ ok = false := fun h => f3' (by
    rcases h with h | h
    · exact .inl (of_decide_eq_true (eD ▸ h))
    · exact .inr (of_decide_eq_true (eE ▸ h)))
  have k5 : lt p 0 = false → lt (len D) p = false → eq p (len D) = false → le 0 p = true ∧ lt p (len D) = true := fun h1 h2 h3 => by
    have h1 := of_decide_eq_false (eD ▸ h1)
    have h2 := of_decide_eq_false (eE ▸ h2)
    have h3 := of_decide_eq_false (eC ▸ h3)
    exact ⟨by rw [eA]; exact decide_eq_true (by omega), by rw [eB]; exact decide_eq_true (by omega)⟩
  clear f1' f2' f3' eA eB eC eD eE
  cases e1 : lt p 0
  rotate_left
  · cbv
    rw [e1]; cbv
    obtain ⟨q1, q2⟩ := k4 (.inl e1)
    subst q1 q2
    exact hQ _ _ trivial (leaves_nil2 (t1 := 4) (t2 := 5) 46 rfl (by decide) (by rfl) (by rfl))
  cases e2 : lt (len D) p
  rotate_left
  · cbv
    rw [e1]; cbv
    repeat (first | (rw [hbox]; cbv) | (rw [hsbox]; cbv))
    rw [e2]; cbv
    obtain ⟨q1, q2⟩ := k4 (.inr e2)
    subst q1 q2
    exact hQ _ _ trivial (leaves_nil2 (t1 := 4) (t2 := 5) 46 rfl (by decide) (by rfl) (by rfl))
  cases e3 : eq p (len D)
  · obtain ⟨d1, d2⟩ := k5 e1 e2 e3
    obtain ⟨ps, pc, pp, pe, H, q1, q2⟩ := k1 d1 d2
    subst q2
    cbv
    rw [e1]; cbv
    repeat (first | (rw [hbox]; cbv) | (rw [hsbox]; cbv))
    rw [e2]; cbv
    repeat (first | (rw [hbox]; cbv) | (rw [hsbox]; cbv))
    rw [e3]; cbv
    repeat (first | (rw [hbox]; cbv) | (rw [hsbox]; cbv) | (rw [q1]; cbv))
    exact hQ _ _ trivial (hfin _ (by cbv))
  cbv
  rw [e1]; cbv
  repeat (first | (rw [hbox]; cbv) | (rw [hsbox]; cbv))
  rw [e2]; cbv
  repeat (first | (rw [hbox]; cbv) | (rw [hsbox]; cbv))
  rw [e3]; cbv
  repeat (first | (rw [hbox]; cbv) | (rw [hsbox]; cbv))
  obtain ⟨q1, q2⟩ := k2 e3
  subst q1 q2
  exact hQ _ _ trivial (leaves_frz2 (k := 160) (t1 := 4) (t2 := 5) rfl (by rfl) (by rfl) (by rfl) rfl (fun c hc => by simp only [List.mem_cons, List.not_mem_nil, or_false] at hc; subst hc; rfl))
end Go.Proofs.Ytnceadbfgpiaaaa.J
/- Contracts: item.Next, Rest, Whole; the law ItemNext. -/
namespace Go.Proofs.Ytnceadbfgpiaaaa.J
open Go G U K I
set_option linter.unusedVariables false
set_option linter.unusedSimpArgs false
set_option maxRecDepth 100000
set_option maxHeartbeats 4000000
theorem next_on {g : GramT} {x : ItemT} (h : nextOk g x = true) : bodyOk g x.prod = true ∧ 0 ≤ x.dot ∧ x.dot < (bodyL g x.prod).length ∧ nthE ((bodyL g x.prod).map symC) x.dot 2 = some (.rp (symC (nextS g x))) := by
  have h2 := of_decide_eq_true h
  refine ⟨?_, h2.1, h2.2, ?_⟩
  · cases hb : bodyOk g x.prod
    · rw [body_off hb] at h2; have := h2.2; simp at this; omega
    · rfl
  · unfold nextS; rw [if_pos h]; exact nth_map (fun _ => rfl) h2.1 h2.2
theorem next_off {g : GramT} {x : ItemT} (h : nextOk g x = false) : nextS g x = ⟨false, 0⟩ ∧ ¬ (0 ≤ x.dot ∧ x.dot < (bodyL g x.prod).length) :=
  ⟨by unfold nextS; rw [if_neg (by rw [h]; decide)], of_decide_eq_false h⟩
theorem slc_sym (T : Table) (l : List SymT) (j : Int) (h0 : 0 ≤ j) (h1 : j ≤ l.length) : evSlice Try.prog T 42 (.ro (l.map symC)) (some (.flat (.int .i64 j))) none = some (.ro ((l.drop j.toNat).map symC)) := by
  have := slc_ro (P := Try.prog) (T := T) (t := 42) (X := l.map symC) (lo := some (.flat (.int .i64 j))) (hi := none) u42 z46 (fun c hc => by obtain ⟨s, _, rfl⟩ := List.mem_map.1 hc; rfl) (bnd_lo (k := .i64) h0 (by rw [List.length_map]; exact h1))
  rw [this, List.take_of_length_le (by simp), List.map_drop]
theorem next_calls (g : GramT) (x : ItemT) (hb : ∀ p ∈ g.prods, p.body.length ≤ 1000) : ACalls Try.prog 17 [gramV g, .agg (itemC x)] (fun _ => .tup [.agg (symC (nextS g x)), .flat (.bool (nextOk g x))]) (fun _ => []) := by
  have hcB := body_calls g x.prod
  have hBl : lenE ((bodyL g x.prod).map symC) = ((bodyL g x.prod).length : Int) := len_map _ _
  have hl := body_len hb x.prod
  have hN1 := @next_on g x
  have hN2 := @next_off g x
  generalize nextOk g x = no at *
  generalize nextS g x = ns at *
  unfold gramV gramL at hcB ⊢
  generalize g.rules.map ruleC = R at *
  generalize g.sorts.map strC = S at *
  generalize g.prods.map prodC = D at *
  generalize g.levels.map levC = V at *
  generalize g.start = start at *
  obtain ⟨BB, hBB⟩ : ∃ B, B = (bodyL g x.prod).map symC := ⟨_, rfl⟩
  rw [← hBB] at hcB hBl hN1
  generalize bodyOk g x.prod = ok at *
  generalize (bodyL g x.prod).length = bn at *
  obtain ⟨xa, xb, xc⟩ := x
  unfold itemC
  dsimp only at *
  clear hBB hb
  generalize (xc : Int) = xi
  obtain ⟨nb, nv⟩ := ns
  unfold symC at hN1 ⊢
  dsimp only at hN1 hN2 ⊢
  refine acalls_symF tabF_ok fn17 rfl rfl rfl (by kernel_rfl) ?_
  have hfin : ∀ st, resA Try.prog Try.f17 st = some (.tup [.agg [.flat (.bool nb), .flat (.int .i64 nv)], .flat (.bool no)]) → G.Leaves Try.prog Try.f17 (fun _ => .tup [.agg [.flat (.bool nb), .flat (.int .i64 nv)], .flat (.bool no)]) (fun _ => []) st := fun st h => G.Leaves.plain h rfl
  rintro ⟨lt, le, eq, se, ar, dv, una, conv, len, sln, nat, nth, ixs, cel, sto, app, cpy, slc, mak, ixv, oth, dk, ib, call⟩ hS hm Q hQ
  obtain ⟨hlt, hle, heq, hse, har, hdv, huna, hconv, hlen, hsln, hnat, hnth, hixs, hcel, hsto, happ, hcpy, hslc, hmak, hixv, hoth, hdk, hib, hcall⟩ := Sym.mk.inj hS
  clear hS
  have hnt : ∀ n : Nat, nat n = U.natI n := fun n => by rw [hnat]; rfl
  have hbox : ∀ e c off, cel (some ⟨e, [c]⟩) 0 off = if off ≤ c.length then some (c.drop off) else none := fun e c off => by rw [hcel]; rfl
  have hsbox : ∀ e c off sz y, sto (some ⟨e, [c]⟩) 0 off sz y = if y.cells.length = sz ∧ off + sz ≤ c.length ∧ y.cells.all AV.one = true then some ⟨e, [spl c off y.cells]⟩ else none := fun e c off sz y => by rw [hsto]; rfl
  have hcaw : ∀ {f args T base K}, CallK Try.prog f args T base K → call f args T base K := fun h => by rw [hcall]; exact h
  have hcal : ∀ {f args T base} {K : AV → Table → List Nat → List Nat → Prop}, (∃ args' ids val rows, Hands T ids args args' (val base) (rows base) ∧ ACalls Try.prog f args' val rows ∧ (rows base).length ≤ 8 ∧ K (val base) (adopt T base (rows base)) ids ((List.range (rows base).length).map (base + ·))) → call f args T base K := fun h => hcaw (call_own h)
  have eA : lt xb 0 = decide (xb < 0) := by rw [hlt]
  have eB : le (len BB) xb = decide ((bn : Int) ≤ xb) := by rw [hle, hlen, hBl]
  have k1 : no = true → ok = true ∧ lt xb 0 = false ∧ le (len BB) xb = false ∧ nth BB xb 2 = some (.rp [.flat (.bool nb), .flat (.int .i64 nv)]) := fun h => by
    obtain ⟨q1, q2, q3, q4⟩ := hN1 h
    exact ⟨q1, by rw [eA]; exact decide_eq_false (by omega), by rw [eB]; exact decide_eq_false (by omega), by rw [hnth]; exact q4⟩
  have k2 : no = false → nb = false ∧ nv = 0 := fun h => by
    have := (hN2 h).1
    exact ⟨congrArg SymT.sort this, congrArg SymT.n this⟩
  have k3 : no = false → lt xb 0 = false → le (len BB) xb = false → False := fun h h1 h2 => (hN2 h).2 ⟨by have := of_decide_eq_false (eA ▸ h1); omega, by have := of_decide_eq_false (eB ▸ h2); omega⟩
  clear hN1 hN2 eA eB hBl
  cases no
  · obtain ⟨q1, q2⟩ := k2 rfl
    subst q1 q2
    clear k1
    cases ok
    · skip
      cbv
      repeat (first | (rw [hbox]; cbv) | (rw [hsbox]; cbv))
      refine hcal ⟨_, [], _, _, .inl ⟨rfl, by cbv⟩, hcB, by simp, ?_⟩
      cbv
      repeat (first | (rw [hbox]; cbv) | (rw [hsbox]; cbv))
      exact hQ _ _ trivial (hfin _ (by cbv))
    cases e1 : lt xb 0
    rotate_left
    · skip
      cbv
      repeat (first | (rw [hbox]; cbv) | (rw [hsbox]; cbv))
      refine hcal ⟨_, [], _, _, .inl ⟨rfl, by cbv⟩, hcB, by simp, ?_⟩
      cbv
      repeat (first | (rw [hbox]; cbv) | (rw [hsbox]; cbv))
      rw [e1]; cbv
      repeat (first | (rw [hbox]; cbv) | (rw [hsbox]; cbv))
      exact hQ _ _ trivial (hfin _ (by cbv))
    cases e2 : le (len BB) xb
    · exact (k3 rfl e1 e2).elim
    cbv
    repeat (first | (rw [hbox]; cbv) | (rw [hsbox]; cbv))
    refine hcal ⟨_, [], _, _, .inl ⟨rfl, by cbv⟩, hcB, by simp, ?_⟩
    cbv
    repeat (first | (rw [hbox]; cbv) | (rw [hsbox]; cbv))
    rw [e1]; cbv
    repeat (first | (rw [hbox]; cbv) | (rw [hsbox]; cbv))
    rw [e2]; cbv
    repeat (first | (rw [hbox]; cbv) | (rw [hsbox]; cbv))
    exact hQ _ _ trivial (hfin _ (by cbv))
  obtain ⟨q1, q2, q3, q4⟩ := k1 rfl
  subst q1
  cbv
  repeat (first | (rw [hbox]; cbv) | (rw [hsbox]; cbv))
  refine hcal ⟨_, [], _, _, .inl ⟨rfl, by cbv⟩, hcB, by simp, ?_⟩
  cbv
  repeat (first | (rw [hbox]; cbv) | (rw [hsbox]; cbv))
  rw [q2]; cbv
  repeat (first | (rw [hbox]; cbv) | (rw [hsbox]; cbv))
  rw [q3]; cbv
  repeat (first | (rw [hbox]; cbv) | (rw [hsbox]; cbv) | (rw [q4]; cbv))
  exact hQ _ _ trivial (hfin _ (by cbv))
theorem refNext_calls (g : GramT) (x : ItemT) (hb : ∀ p ∈ g.prods, p.body.length ≤ 1000) : ACalls Try.prog 18 [gramV g, .agg (itemC x)] (fun _ => .tup [.agg (symC (nextS g x)), .flat (.bool (nextOk g x))]) (fun _ => []) := by
  have hcB := refBody_calls g x.prod
  have hBl : lenE ((bodyL g x.prod).map symC) = ((bodyL g x.prod).length : Int) := len_map _ _
  have hl := body_len hb x.prod
  have hN1 := @next_on g x
  have hN2 := @next_off g x
  generalize nextOk g x = no at *
  generalize nextS g x = ns at *
  unfold gramV gramL at hcB ⊢
  generalize g.rules.map ruleC = R at *
  generalize g.sorts.map strC = S at *
  generalize g.prods.map prodC = D at *
  generalize g.levels.map levC = V at *
  generalize g.start = start at *
  obtain ⟨BB, hBB⟩ : ∃ B, B = (bodyL g x.prod).map symC := ⟨_, rfl⟩
  rw [← hBB] at hcB hBl hN1
  generalize bodyOk g x.prod = ok at *
  generalize (bodyL g x.prod).length = bn at *
  obtain ⟨xa, xb, xc⟩ := x
  unfold itemC
  dsimp only at *
  clear hBB hb
  generalize (xc : Int) = xi
  obtain ⟨nb, nv⟩ := ns
  unfold symC at hN1 ⊢
  dsimp only at hN1 hN2 ⊢
  refine acalls_symF tabF_ok fn18 rfl rfl rfl (by kernel_rfl) ?_
  have hfin : ∀ st, resA Try.prog Try.f18 st = some (.tup [.agg [.flat (.bool nb), .flat (.int .i64 nv)], .flat (.bool no)]) → G.Leaves Try.prog Try.f18 (fun _ => .tup [.agg [.flat (.bool nb), .flat (.int .i64 nv)], .flat (.bool no)]) (fun _ => []) st := fun st h => G.Leaves.plain h rfl
  rintro ⟨lt, le, eq, se, ar, dv, una, conv, len, sln, nat, nth, ixs, cel, sto, app, cpy, slc, mak, ixv, oth, dk, ib, call⟩ hS hm Q hQ
  obtain ⟨hlt, hle, heq, hse, har, hdv, huna, hconv, hlen, hsln, hnat, hnth, hixs, hcel, hsto, happ, hcpy, hslc, hmak, hixv, hoth, hdk, hib, hcall⟩ := Sym.mk.inj hS
  clear hS
  have hnt : ∀ n : Nat, nat n = U.natI n := fun n => by rw [hnat]; rfl
  have hbox : ∀ e c off, cel (some ⟨e, [c]⟩) 0 off = if off ≤ c.length then some (c.drop off) else none := fun e c off => by rw [hcel]; rfl
  have hsbox : ∀ e c off sz y, sto (some ⟨e, [c]⟩) 0 off sz y = if y.cells.length = sz ∧ off + sz ≤ c.length ∧ y.cells.all AV.one = true then some ⟨e, [spl c off y.cells]⟩ else none := fun e c off sz y => by rw [hsto]; rfl
  have hcaw : ∀ {f args T base K}, CallK Try.prog f args T base K → call f args T base K := fun h => by rw [hcall]; exact h
  have hcal : ∀ {f args T base} {K : AV → Table → List Nat → List Nat → Prop}, (∃ args' ids val rows, Hands T ids args args' (val base) (rows base) ∧ ACalls Try.prog f args' val rows ∧ (rows base).length ≤ 8 ∧ K (val base) (adopt T base (rows base)) ids ((List.range (rows base).length).map (base + ·))) → call f args T base K := fun h => hcaw (call_own h)
  have eA : lt xb 0 = decide (xb < 0) := by rw [hlt]
  have eB : le (len BB) xb = decide ((bn : Int) ≤ xb) := by rw [hle, hlen, hBl]
  have k1 : no = true → ok = true ∧ lt xb 0 = false ∧ le (len BB) xb = false ∧ nth BB xb 2 = some (.rp [.flat (.bool nb), .flat (.int .i64 nv)]) := fun h => by
    obtain ⟨q1, q2, q3, q4⟩ := hN1 h
    exact ⟨q1, by rw [eA]; exact decide_eq_false (by omega), by rw [eB]; exact decide_eq_false (by omega), by rw [hnth]; exact q4⟩
  have k2 : no = false → nb = false ∧ nv = 0 := fun h => by
    have := (hN2 h).1
    exact ⟨congrArg SymT.sort this, congrArg SymT.n this⟩
  have k3 : no = false → lt xb 0 = false → le (len BB) xb = false → False := fun h h1 h2 => (hN2 h).2 ⟨by have := of_decide_eq_false (eA ▸ h1); omega, by have := of_decide_eq_false (eB ▸ h2); omega⟩
  clear hN1 hN2 eA eB hBl
  cases no
  · obtain ⟨q1, q2⟩ := k2 rfl
    subst q1 q2
    clear k1
    cases e1 : lt xb 0
    rotate_left
    · skip
      cbv
      repeat (first | (rw [hbox]; cbv) | (rw [hsbox]; cbv))
      refine hcal ⟨_, [], _, _, .inl ⟨rfl, by cbv⟩, hcB, by simp, ?_⟩
      cbv
      repeat (first | (rw [hbox]; cbv) | (rw [hsbox]; cbv))
      rw [e1]; cbv
      repeat (first | (rw [hbox]; cbv) | (rw [hsbox]; cbv))
      exact hQ _ _ trivial (hfin _ (by cbv))
    cases e2 : le (len BB) xb
    · exact (k3 rfl e1 e2).elim
    cbv
    repeat (first | (rw [hbox]; cbv) | (rw [hsbox]; cbv))
    refine hcal ⟨_, [], _, _, .inl ⟨rfl, by cbv⟩, hcB, by simp, ?_⟩
    cbv
    repeat (first | (rw [hbox]; cbv) | (rw [hsbox]; cbv))
    rw [e1]; cbv
    repeat (first | (rw [hbox]; cbv) | (rw [hsbox]; cbv))
    rw [e2]; cbv
    repeat (first | (rw [hbox]; cbv) | (rw [hsbox]; cbv))
    exact hQ _ _ trivial (hfin _ (by cbv))
  obtain ⟨q1, q2, q3, q4⟩ := k1 rfl
  subst q1
  cbv
  repeat (first | (rw [hbox]; cbv) | (rw [hsbox]; cbv))
  refine hcal ⟨_, [], _, _, .inl ⟨rfl, by cbv⟩, hcB, by simp, ?_⟩
  cbv
  repeat (first | (rw [hbox]; cbv) | (rw [hsbox]; cbv))
  rw [q2]; cbv
  repeat (first | (rw [hbox]; cbv) | (rw [hsbox]; cbv))
  rw [q3]; cbv
  repeat (first | (rw [hbox]; cbv) | (rw [hsbox]; cbv) | (rw [q4]; cbv))
  exact hQ _ _ trivial (hfin _ (by cbv))
theorem rest_calls (g : GramT) (x : ItemT) (hb : ∀ p ∈ g.prods, p.body.length ≤ 1000) : ACalls Try.prog 19 [gramV g, .agg (itemC x)] (fun _ => .ro ((restL g x).map symC)) (fun _ => []) := by
  have hcB := body_calls g x.prod
  have hBl : lenE ((bodyL g x.prod).map symC) = ((bodyL g x.prod).length : Int) := len_map _ _
  have hl := body_len hb x.prod
  have hN1 : 0 ≤ x.dot → x.dot < ((bodyL g x.prod).length : Int) - 1 → ∀ T, evSlice Try.prog T 42 (.ro ((bodyL g x.prod).map symC)) (some (.flat (.int .i64 (x.dot + 1)))) none = some (.ro ((restL g x).map symC)) := fun h0 h1 T => by
    unfold restL; rw [if_pos ⟨h0, h1⟩]; exact slc_sym T _ _ (by omega) (by omega)
  have hN2 : ¬ (0 ≤ x.dot ∧ x.dot < ((bodyL g x.prod).length : Int) - 1) → (restL g x).map symC = [] := fun h => by unfold restL; rw [if_neg h]; rfl
  generalize (restL g x).map symC = RR at *
  unfold gramV gramL at hcB ⊢
  generalize g.rules.map ruleC = R at *
  generalize g.sorts.map strC = S at *
  generalize g.prods.map prodC = D at *
  generalize g.levels.map levC = V at *
  generalize g.start = start at *
  obtain ⟨BB, hBB⟩ : ∃ B, B = (bodyL g x.prod).map symC := ⟨_, rfl⟩
  rw [← hBB] at hcB hBl hN1
  generalize bodyOk g x.prod = ok at *
  generalize (bodyL g x.prod).length = bn at *
  obtain ⟨xa, xb, xc⟩ := x
  unfold itemC
  dsimp only at *
  clear hBB hb
  generalize (xc : Int) = xi
  refine acalls_symF tabF_ok fn19 rfl rfl rfl (by kernel_rfl) ?_
  have hfin : ∀ st, resA Try.prog Try.f19 st = some (.ro RR) → G.Leaves Try.prog Try.f19 (fun _ => .ro RR) (fun _ => []) st := fun st h => G.Leaves.plain h rfl
  rintro ⟨lt, le, eq, se, ar, dv, una, conv, len, sln, nat, nth, ixs, cel, sto, app, cpy, slc, mak, ixv, oth, dk, ib, call⟩ hS hm Q hQ
  obtain ⟨hlt, hle, heq, hse, har, hdv, huna, hconv, hlen, hsln, hnat, hnth, hixs, hcel, hsto, happ, hcpy, hslc, hmak, hixv, hoth, hdk, hib, hcall⟩ := Sym.mk.inj hS
  clear hS
  have hnt : ∀ n : Nat, nat n = U.natI n := fun n => by rw [hnat]; rfl
  have hbox : ∀ e c off, cel (some ⟨e, [c]⟩) 0 off = if off ≤ c.length then some (c.drop off) else none := fun e c off => by rw [hcel]; rfl
  have hsbox : ∀ e c off sz y, sto (some ⟨e, [c]⟩) 0 off sz y = if y.cells.length = sz ∧ off + sz ≤ c.length ∧ y.cells.all AV.one = true then some ⟨e, [spl c off y.cells]⟩ else none := fun e c off sz y => by rw [hsto]; rfl
  have hcaw : ∀ {f args T base K}, CallK Try.prog f args T base K → call f args T base K := fun h => by rw [hcall]; exact h
  have hcal : ∀ {f args T base} {K : AV → Table → List Nat → List Nat → Prop}, (∃ args' ids val rows, Hands T ids args args' (val base) (rows base) ∧ ACalls Try.prog f args' val rows ∧ (rows base).length ≤ 8 ∧ K (val base) (adopt T base (rows base)) ids ((List.range (rows base).length).map (base + ·))) → call f args T base K := fun h => hcaw (call_own h)
  obtain ⟨b1, hb1⟩ : ∃ b, b = (bn : Int) - 1 := ⟨_, rfl⟩
  obtain ⟨d1, hd1⟩ : ∃ b, b = xb + 1 := ⟨_, rfl⟩
  rw [← hb1, ← hd1] at hN1
  rw [← hb1] at hN2
  have eS : ar .sub .i64 (len BB) 1 = b1 := by rw [har, hlen, hBl, hb1]; exact ar_sub64 (by omega) (by omega)
  have eA : lt xb 0 = decide (xb < 0) := by rw [hlt]
  have eB : le b1 xb = decide (b1 ≤ xb) := by rw [hle]
  have eD : lt xb 0 = false → le b1 xb = false → ar .add .i64 xb 1 = d1 ∧ ∀ T, slc T 42 (.ro BB) (some (.flat (.int .i64 d1))) none = some (.ro RR) := fun h1 h2 => by
    have h1 := of_decide_eq_false (eA ▸ h1)
    have h2 := of_decide_eq_false (eB ▸ h2)
    exact ⟨by rw [har, hd1]; exact ar_add64 (by omega) (by omega), fun T => by rw [hslc]; exact hN1 (by omega) (by omega) T⟩
  have k2 : lt xb 0 = true ∨ le b1 xb = true → RR = [] := fun h => hN2 (by
    rcases h with h | h
    · have := of_decide_eq_true (eA ▸ h); omega
    · have := of_decide_eq_true (eB ▸ h); omega)
  clear hN1 hN2 eA eB hBl hb1 hd1 hl
  cases e1 : lt xb 0
  rotate_left
  · have := k2 (.inl e1)
    subst this
    cbv
    repeat (first | (rw [hbox]; cbv) | (rw [hsbox]; cbv))
    refine hcal ⟨_, [], _, _, .inl ⟨rfl, by cbv⟩, hcB, by simp, ?_⟩
    cbv
    repeat (first | (rw [hbox]; cbv) | (rw [hsbox]; cbv))
    rw [e1]; cbv
    exact hQ _ _ trivial (leaves_nil1 (t1 := 4) 46 rfl (by rfl))
  cases e2 : le b1 xb
  rotate_left
  · have := k2 (.inr e2)
    subst this
    cbv
    repeat (first | (rw [hbox]; cbv) | (rw [hsbox]; cbv))
    refine hcal ⟨_, [], _, _, .inl ⟨rfl, by cbv⟩, hcB, by simp, ?_⟩
    cbv
    repeat (first | (rw [hbox]; cbv) | (rw [hsbox]; cbv))
    rw [e1]; cbv
    repeat (first | (rw [hbox]; cbv) | (rw [hsbox]; cbv))
    rw [eS]; cbv
    rw [e2]; cbv
    exact hQ _ _ trivial (leaves_nil1 (t1 := 4) 46 rfl (by rfl))
  obtain ⟨q1, q2⟩ := eD e1 e2
  cbv
  repeat (first | (rw [hbox]; cbv) | (rw [hsbox]; cbv))
  refine hcal ⟨_, [], _, _, .inl ⟨rfl, by cbv⟩, hcB, by simp, ?_⟩
  cbv
  repeat (first | (rw [hbox]; cbv) | (rw [hsbox]; cbv))
  rw [e1]; cbv
  repeat (first | (rw [hbox]; cbv) | (rw [hsbox]; cbv))
  rw [eS]; cbv
  rw [e2]; cbv
  repeat (first | (rw [hbox]; cbv) | (rw [hsbox]; cbv))
  rw [q1]; cbv
  rw [q2]; cbv
  exact hQ _ _ trivial (hfin _ (by cbv))
theorem whole_calls (g : GramT) (x : ItemT) (hb : ∀ p ∈ g.prods, p.body.length ≤ 1000) : ACalls Try.prog 20 [gramV g, .agg (itemC x)] (fun _ => .flat (.bool (wholeB g x))) (fun _ => []) := by
  have hcB := body_calls g x.prod
  have hBl : lenE ((bodyL g x.prod).map symC) = ((bodyL g x.prod).length : Int) := len_map _ _
  have hl := body_len hb x.prod
  have hN1 : wholeB g x = (bodyOk g x.prod && decide (x.dot = ((bodyL g x.prod).length : Int))) := rfl
  generalize wholeB g x = wb at *
  unfold gramV gramL at hcB ⊢
  generalize g.rules.map ruleC = R at *
  generalize g.sorts.map strC = S at *
  generalize g.prods.map prodC = D at *
  generalize g.levels.map levC = V at *
  generalize g.start = start at *
  obtain ⟨BB, hBB⟩ : ∃ B, B = (bodyL g x.prod).map symC := ⟨_, rfl⟩
  rw [← hBB] at hcB hBl
  generalize bodyOk g x.prod = ok at *
  generalize (bodyL g x.prod).length = bn at *
  obtain ⟨xa, xb, xc⟩ := x
  unfold itemC
  dsimp only at *
  clear hBB hb
  generalize (xc : Int) = xi
  refine acalls_symF tabF_ok fn20 rfl rfl rfl (by kernel_rfl) ?_
  have hfin : ∀ st, resA Try.prog Try.f20 st = some (.flat (.bool wb)) → G.Leaves Try.prog Try.f20 (fun _ => .flat (.bool wb)) (fun _ => []) st := fun st h => G.Leaves.plain h rfl
  rintro ⟨lt, le, eq, se, ar, dv, una, conv, len, sln, nat, nth, ixs, cel, sto, app, cpy, slc, mak, ixv, oth, dk, ib, call⟩ hS hm Q hQ
  obtain ⟨hlt, hle, heq, hse, har, hdv, huna, hconv, hlen, hsln, hnat, hnth, hixs, hcel, hsto, happ, hcpy, hslc, hmak, hixv, hoth, hdk, hib, hcall⟩ := Sym.mk.inj hS
  clear hS
  have hnt : ∀ n : Nat, nat n = U.natI n := fun n => by rw [hnat]; rfl
  have hbox : ∀ e c off, cel (some ⟨e, [c]⟩) 0 off = if off ≤ c.length then some (c.drop off) else none := fun e c off => by rw [hcel]; rfl
  have hsbox : ∀ e c off sz y, sto (some ⟨e, [c]⟩) 0 off sz y = if y.cells.length = sz ∧ off + sz ≤ c.length ∧ y.cells.all AV.one = true then some ⟨e, [spl c off y.cells]⟩ else none := fun e c off sz y => by rw [hsto]; rfl
  have hcaw : ∀ {f args T base K}, CallK Try.prog f args T base K → call f args T base K := fun h => by rw [hcall]; exact h
  have hcal : ∀ {f args T base} {K : AV → Table → List Nat → List Nat → Prop}, (∃ args' ids val rows, Hands T ids args args' (val base) (rows base) ∧ ACalls Try.prog f args' val rows ∧ (rows base).length ≤ 8 ∧ K (val base) (adopt T base (rows base)) ids ((List.range (rows base).length).map (base + ·))) → call f args T base K := fun h => hcaw (call_own h)
  rw [show decide (xb = (bn : Int)) = eq xb (len BB) by rw [heq, hlen, hBl]] at hN1
  clear hBl hl
  cases ok
  · have : wb = false := hN1
    subst this
    cbv
    repeat (first | (rw [hbox]; cbv) | (rw [hsbox]; cbv))
    refine hcal ⟨_, [], _, _, .inl ⟨rfl, by cbv⟩, hcB, by simp, ?_⟩
    cbv
    repeat (first | (rw [hbox]; cbv) | (rw [hsbox]; cbv))
    exact hQ _ _ trivial (hfin _ (by cbv))
  have : wb = eq xb (len BB) := hN1
  subst this
  cbv
  repeat (first | (rw [hbox]; cbv) | (rw [hsbox]; cbv))
  refine hcal ⟨_, [], _, _, .inl ⟨rfl, by cbv⟩, hcB, by simp, ?_⟩
  cbv
  repeat (first | (rw [hbox]; cbv) | (rw [hsbox]; cbv))
  exact hQ _ _ trivial (hfin _ (by cbv))
end Go.Proofs.Ytnceadbfgpiaaaa.J
