/- Grammars; contracts: bosketlaw11.Few, bosketlaw17.Few. -/
import Derived.Test.YtnceadbfgpiaaaaJ4
namespace Go.Proofs.Ytnceadbfgpiaaaa.J
open Go G U K I
set_option linter.unusedVariables false
set_option linter.unusedSimpArgs false
set_option maxRecDepth 100000
set_option maxHeartbeats 4000000
theorem fn34 : Try.prog.funcs[34]? = some Try.f34 := by kernel_rfl
theorem fn14 : Try.prog.funcs[14]? = some Try.f14 := by kernel_rfl
structure RuleT where
  name : ByteArray
  kind : Int
  regex : ByteArray
instance : Inhabited RuleT := ⟨⟨⟨#[]⟩, 0, ⟨#[]⟩⟩⟩
def intC (k : Int) : List AV := [.flat (.int .i64 k)]
def ruleC (r : RuleT) : List AV := [.flat (.string r.name), .flat (.int .i64 r.kind), .flat (.string r.regex)]
structure SymT where
  sort : Bool
  n : Int
instance : Inhabited SymT := ⟨⟨false, 0⟩⟩
def symC (s : SymT) : List AV := [.flat (.bool s.sort), .flat (.int .i64 s.n)]
structure ProdT where
  sort : Int
  con : ByteArray
  body : List SymT
  paren : Bool
  prec : Int
  hints : List Int
instance : Inhabited ProdT := ⟨⟨0, ⟨#[]⟩, [], false, 0, []⟩⟩
def prodC (p : ProdT) : List AV := [.flat (.int .i64 p.sort), .flat (.string p.con), .ro (p.body.map symC), .flat (.bool p.paren), .flat (.int .i64 p.prec), .ro (p.hints.map intC)]
structure LevT where
  side : Int
  rules : List Int
instance : Inhabited LevT := ⟨⟨0, []⟩⟩
def levC (l : LevT) : List AV := [.flat (.int .i64 l.side), .ro (l.rules.map intC)]
instance : Inhabited ByteArray := ⟨⟨#[]⟩⟩
def strC (s : ByteArray) : List AV := [.flat (.string s)]
structure GramT where
  rules : List RuleT
  sorts : List ByteArray
  prods : List ProdT
  levels : List LevT
  start : Int
def gramL (g : GramT) : List AV := [.ro (g.rules.map ruleC), .ro (g.sorts.map strC), .ro (g.prods.map prodC), .ro (g.levels.map levC), .flat (.int .i64 g.start)]
def gramV (g : GramT) : AV := .agg (gramL g)

theorem len_small {n : Nat} {k : Int} (hk : k ≤ 1000000) (h : decide (k < (n : Int)) = false) : n ≤ 1000000 := by
  simp only [decide_eq_false_iff_not] at h
  omega
def ruleOk (r : RuleT) : Bool := !decide ((40 : Int) < (r.regex.size : Int)) && !decide ((100 : Int) < (r.name.size : Int))
def fewR (l : List RuleT) : Bool := !decide ((20 : Int) < (l.length : Int)) && l.all ruleOk
theorem fewR_calls (l : List RuleT) : ACalls Try.prog 34 [.ro (l.map ruleC)] (fun _ => .flat (.bool (fewR l))) (fun _ => []) := by
  have hz : fewR l = (!decide ((20 : Int) < (l.length : Int)) && l.all ruleOk) := rfl
  generalize fewR l = z at hz ⊢
  obtain ⟨X, hX⟩ : ∃ X, X = l.map ruleC := ⟨_, rfl⟩
  rw [← hX]
  refine acalls_symF tabF_ok fn34 rfl rfl rfl (by kernel_rfl) ?_
  have hfin : ∀ st, resA Try.prog Try.f34 st = some (.flat (.bool z)) → G.Leaves Try.prog Try.f34 (fun _ => .flat (.bool z)) (fun _ => []) st := fun st h => G.Leaves.plain h rfl
  rintro ⟨lt, le, eq, se, ar, dv, una, conv, len, sln, nat, nth, ixs, cel, sto, app, cpy, slc, mak, ixv, oth, dk, ib, call⟩ hS hm Q hQ
  obtain ⟨hlt, hle, heq, hse, har, hdv, huna, hconv, hlen, hsln, hnat, hnth, hixs, hcel, hsto, happ, hcpy, hslc, hmak, hixv, hoth, hdk, hib, hcall⟩ := Sym.mk.inj hS
  clear hS
  have hnt : ∀ n : Nat, nat n = U.natI n := fun n => by rw [hnat]; rfl
  have hbox : ∀ e c off, cel (some ⟨e, [c]⟩) 0 off = if off ≤ c.length then some (c.drop off) else none := fun e c off => by rw [hcel]; rfl
  have hsbox : ∀ e c off sz y, sto (some ⟨e, [c]⟩) 0 off sz y = if y.cells.length = sz ∧ off + sz ≤ c.length ∧ y.cells.all AV.one = true then some ⟨e, [spl c off y.cells]⟩ else none := fun e c off sz y => by rw [hsto]; rfl
  have hcaw : ∀ {f args T base K}, CallK Try.prog f args T base K → call f args T base K := fun h => by rw [hcall]; exact h
  have hcal : ∀ {f args T base} {K : AV → Table → List Nat → List Nat → Prop}, (∃ args' ids val rows, Hands T ids args args' (val base) (rows base) ∧ ACalls Try.prog f args' val rows ∧ (rows base).length ≤ 8 ∧ K (val base) (adopt T base (rows base)) ids ((List.range (rows base).length).map (base + ·))) → call f args T base K := fun h => hcaw (call_own h)
  have hn : len X = l.length := by rw [hlen, hX, len_map]
  have hl0 : lt 20 (len X) = decide ((20 : Int) < (l.length : Int)) := by rw [hlt, hn]
  rw [← hl0] at hz
  cbv
  cases h20 : lt 20 (len X)
  · have hs : l.length ≤ 1000000 := len_small (k := 20) (by decide) (hl0.symm.trans h20)
    rw [h20, Bool.not_false, Bool.true_and] at hz
    cbv
    refine MW_loop hm [] [0, 3] 4 List.nodup_nil (fun k st => ∃ i : Int, AllAt ruleOk l i ∧ k = U.left l.length i ∧ st = stOf [.ro X, .dead, .dead, .flat (.int .i64 i)] [] 0) (U.left l.length 0) ?_ ?_
    · exact ⟨0, all_zero _ l, rfl, cut_eq (by cbv) (by cbv)⟩
    · rintro k st ⟨i, hi, hk, rfl⟩
      cbv
      cases hc : lt i (len X)
      · have hc' : decide (i < (l.length : Int)) = false := by rw [hlt, hn] at hc; exact hc
        rw [all_end hi hc'] at hz
        subst hz
        cbv
        exact hQ _ _ trivial (hfin _ (by cbv))
      · have hc' : decide (i < (l.length : Int)) = true := by rw [hlt, hn] at hc; exact hc
        obtain ⟨_, h0, h1⟩ := at_lt hi.1 hc'
        have q2 := (at_step hi.1 hc').2
        have hadd : ar .add .i64 i 1 = i + 1 := by rw [har]; exact at_add hs hi.1 hc'
        have hix : nth X i 3 = some (.rp (ruleC (atI l i))) := by rw [hnth, hX]; exact nth_map (fun _ => rfl) h0 h1
        have hstep := all_step hi hc'
        have hhit := all_hit hi hc'
        generalize atI l i = t at hix hstep hhit
        obtain ⟨rn, rk, rr⟩ := t
        have hok : ruleOk ⟨rn, rk, rr⟩ = (!lt 40 (sln rr) && !lt 100 (sln rn)) := by rw [hlt, hsln]; rfl
        rw [hok] at hstep hhit
        generalize i + 1 = i2 at hadd hstep q2
        cbv
        rw [hix]; cbv
        cases h40 : lt 40 (sln rr)
        · cbv
          rw [hix]; cbv
          cases h100 : lt 100 (sln rn)
          · have q1 := hstep (by rw [h40, h100]; rfl)
            cbv
            rw [hadd]
            exact ⟨[], [0, 3], 4, U.left l.length i2, hk ▸ q2, List.nodup_nil, i2, q1, rfl, cut_eq (by cbv) (by cbv)⟩
          · rw [hhit (by rw [h100, Bool.not_true, Bool.and_false])] at hz
            subst hz
            cbv
            exact hQ _ _ trivial (hfin _ (by cbv))
        · rw [hhit (by rw [h40]; rfl)] at hz
          subst hz
          cbv
          exact hQ _ _ trivial (hfin _ (by cbv))
  · rw [h20] at hz
    simp only [Bool.not_true, Bool.false_and] at hz
    subst hz
    cbv
    exact hQ _ _ trivial (hfin _ (by cbv))

def prodOk (p : ProdT) : Bool := !decide ((20 : Int) < (p.body.length : Int)) && (!decide ((20 : Int) < (p.hints.length : Int)) && !decide ((100 : Int) < (p.con.size : Int)))
def levOk (l : LevT) : Bool := !decide ((20 : Int) < (l.rules.length : Int))
def sortOk (s : ByteArray) : Bool := !decide ((100 : Int) < (s.size : Int))
def fewG (g : GramT) : Bool := fewR g.rules && (!decide ((20 : Int) < (g.sorts.length : Int)) && (!decide ((40 : Int) < (g.prods.length : Int)) && (!decide ((20 : Int) < (g.levels.length : Int)) && (g.sorts.all sortOk && (g.prods.all prodOk && g.levels.all levOk)))))
theorem fewG_calls (g : GramT) : ACalls Try.prog 14 [gramV g] (fun _ => .flat (.bool (fewG g))) (fun _ => []) := by
  obtain ⟨rules, sorts, prods, levels, start⟩ := g
  have hz : fewG ⟨rules, sorts, prods, levels, start⟩ = (fewR rules && (!decide ((20 : Int) < (sorts.length : Int)) && (!decide ((40 : Int) < (prods.length : Int)) && (!decide ((20 : Int) < (levels.length : Int)) && (sorts.all sortOk && (prods.all prodOk && levels.all levOk)))))) := rfl
  generalize fewG ⟨rules, sorts, prods, levels, start⟩ = z at hz ⊢
  have hcR := fewR_calls rules
  generalize fewR rules = fr at hz hcR
  unfold gramV gramL
  dsimp only
  obtain ⟨R, hR⟩ : ∃ X, X = rules.map ruleC := ⟨_, rfl⟩
  obtain ⟨S, hSS⟩ : ∃ X, X = sorts.map strC := ⟨_, rfl⟩
  obtain ⟨D, hD⟩ : ∃ X, X = prods.map prodC := ⟨_, rfl⟩
  obtain ⟨V, hV⟩ : ∃ X, X = levels.map levC := ⟨_, rfl⟩
  rw [← hR] at hcR ⊢
  rw [← hSS, ← hD, ← hV]
  refine acalls_symF tabF_ok fn14 rfl rfl rfl (by kernel_rfl) ?_
  have hfin : ∀ st, resA Try.prog Try.f14 st = some (.flat (.bool z)) → G.Leaves Try.prog Try.f14 (fun _ => .flat (.bool z)) (fun _ => []) st := fun st h => G.Leaves.plain h rfl
  rintro ⟨lt, le, eq, se, ar, dv, una, conv, len, sln, nat, nth, ixs, cel, sto, app, cpy, slc, mak, ixv, oth, dk, ib, call⟩ hS hm Q hQ
  obtain ⟨hlt, hle, heq, hse, har, hdv, huna, hconv, hlen, hsln, hnat, hnth, hixs, hcel, hsto, happ, hcpy, hslc, hmak, hixv, hoth, hdk, hib, hcall⟩ := Sym.mk.inj hS
  clear hS
  have hnt : ∀ n : Nat, nat n = U.natI n := fun n => by rw [hnat]; rfl
  have hbox : ∀ e c off, cel (some ⟨e, [c]⟩) 0 off = if off ≤ c.length then some (c.drop off) else none := fun e c off => by rw [hcel]; rfl
  have hsbox : ∀ e c off sz y, sto (some ⟨e, [c]⟩) 0 off sz y = if y.cells.length = sz ∧ off + sz ≤ c.length ∧ y.cells.all AV.one = true then some ⟨e, [spl c off y.cells]⟩ else none := fun e c off sz y => by rw [hsto]; rfl
  have hcaw : ∀ {f args T base K}, CallK Try.prog f args T base K → call f args T base K := fun h => by rw [hcall]; exact h
  have hcal : ∀ {f args T base} {K : AV → Table → List Nat → List Nat → Prop}, (∃ args' ids val rows, Hands T ids args args' (val base) (rows base) ∧ ACalls Try.prog f args' val rows ∧ (rows base).length ≤ 8 ∧ K (val base) (adopt T base (rows base)) ids ((List.range (rows base).length).map (base + ·))) → call f args T base K := fun h => hcaw (call_own h)
  have hnS : len S = sorts.length := by rw [hlen, hSS, len_map]
  have hnD : len D = prods.length := by rw [hlen, hD, len_map]
  have hnV : len V = levels.length := by rw [hlen, hV, len_map]
  have hS0 : lt 20 (len S) = decide ((20 : Int) < (sorts.length : Int)) := by rw [hlt, hnS]
  have hD0 : lt 40 (len D) = decide ((40 : Int) < (prods.length : Int)) := by rw [hlt, hnD]
  have hV0 : lt 20 (len V) = decide ((20 : Int) < (levels.length : Int)) := by rw [hlt, hnV]
  rw [← hS0, ← hD0, ← hV0] at hz
  have done : z = false → ∀ st, resA Try.prog Try.f14 st = some (.flat (.bool false)) → Q .ret st := fun h st hr => hQ _ _ trivial (hfin _ (by rw [h]; exact hr))
  cbv
  repeat (first | (rw [hbox]; cbv))
  refine hcal ⟨_, [], _, _, .inl ⟨rfl, by cbv⟩, hcR, by simp, ?_⟩
  cbv
  cases fr
  · cbv
    exact done (by rw [hz, Bool.false_and]) _ (by cbv)
  rw [Bool.true_and] at hz
  cbv
  repeat (first | (rw [hbox]; cbv))
  cases h1 : lt 20 (len S)
  rotate_left
  · rw [h1, Bool.not_true, Bool.false_and] at hz
    cbv
    exact done hz _ (by cbv)
  have hs1 : sorts.length ≤ 1000000 := len_small (k := 20) (by decide) (hS0.symm.trans h1)
  rw [h1, Bool.not_false, Bool.true_and] at hz
  cbv
  repeat (first | (rw [hbox]; cbv))
  cases h2 : lt 40 (len D)
  rotate_left
  · rw [h2, Bool.not_true, Bool.false_and] at hz
    cbv
    exact done hz _ (by cbv)
  have hs2 : prods.length ≤ 1000000 := len_small (k := 40) (by decide) (hD0.symm.trans h2)
  rw [h2, Bool.not_false, Bool.true_and] at hz
  cbv
  repeat (first | (rw [hbox]; cbv))
  cases h3 : lt 20 (len V)
  rotate_left
  · rw [h3, Bool.not_true, Bool.false_and] at hz
    cbv
    exact done hz _ (by cbv)
  have hs3 : levels.length ≤ 1000000 := len_small (k := 20) (by decide) (hV0.symm.trans h3)
  rw [h3, Bool.not_false, Bool.true_and] at hz
  cbv
  refine MW_loop hm [0] [1, 3] 4 (by simp) (fun k st => ∃ i : Int, AllAt sortOk sorts i ∧ k = U.left sorts.length i ∧ st = stOf [.dead, .ptr 0 0 0, .dead, .flat (.int .i64 i)] [some ⟨39, [[.ro R, .ro S, .ro D, .ro V, .flat (.int .i64 start)]]⟩] 1) (U.left sorts.length 0) ?_ ?_
  · exact ⟨0, all_zero _ sorts, rfl, cut_eq (by cbv) (by cbv)⟩
  rintro k st ⟨i, hi, hk, rfl⟩
  cbv
  rw [hbox]; cbv
  cases hc : lt i (len S)
  rotate_left
  · have hc' : decide (i < (sorts.length : Int)) = true := by rw [hlt, hnS] at hc; exact hc
    obtain ⟨_, h0, h1⟩ := at_lt hi.1 hc'
    have q2 := (at_step hi.1 hc').2
    have hadd : ar .add .i64 i 1 = i + 1 := by rw [har]; exact at_add hs1 hi.1 hc'
    have hix : nth S i 1 = some (.rp (strC (atI sorts i))) := by rw [hnth, hSS]; exact nth_map (fun _ => rfl) h0 h1
    have hstep := all_step hi hc'
    have hhit := all_hit hi hc'
    generalize atI sorts i = t at hix hstep hhit
    have hok : sortOk t = !lt 100 (sln t) := by rw [hlt, hsln]; rfl
    rw [hok] at hstep hhit
    generalize i + 1 = i2 at hadd hstep q2
    cbv
    repeat (first | (rw [hbox]; cbv) | (rw [hix]; cbv))
    cases h100 : lt 100 (sln t)
    · have q1 := hstep (by rw [h100]; rfl)
      cbv
      rw [hadd]
      exact ⟨[0], [1, 3], 4, U.left sorts.length i2, hk ▸ q2, by simp, i2, q1, rfl, cut_eq (by cbv) (by cbv)⟩
    · rw [hhit (by rw [h100]; rfl), Bool.false_and] at hz
      cbv
      exact done hz _ (by cbv)
  have hc' : decide (i < (sorts.length : Int)) = false := by rw [hlt, hnS] at hc; exact hc
  rw [all_end hi hc', Bool.true_and] at hz
  clear hc hc' hi hk
  cbv
  refine MW_loop hm [0] [1, 4] 5 (by simp) (fun k st => ∃ i : Int, AllAt prodOk prods i ∧ k = U.left prods.length i ∧ st = stOf [.dead, .ptr 0 0 0, .dead, .dead, .flat (.int .i64 i)] [some ⟨39, [[.ro R, .ro S, .ro D, .ro V, .flat (.int .i64 start)]]⟩] 1) (U.left prods.length 0) ?_ ?_
  · exact ⟨0, all_zero _ prods, rfl, cut_eq (by cbv) (by cbv)⟩
  clear i k
  rintro k st ⟨i, hi, hk, rfl⟩
  cbv
  rw [hbox]; cbv
  cases hc : lt i (len D)
  rotate_left
  · have hc' : decide (i < (prods.length : Int)) = true := by rw [hlt, hnD] at hc; exact hc
    obtain ⟨_, h0, h1⟩ := at_lt hi.1 hc'
    have q2 := (at_step hi.1 hc').2
    have hadd : ar .add .i64 i 1 = i + 1 := by rw [har]; exact at_add hs2 hi.1 hc'
    have hix : nth D i 6 = some (.rp (prodC (atI prods i))) := by rw [hnth, hD]; exact nth_map (fun _ => rfl) h0 h1
    have hstep := all_step hi hc'
    have hhit := all_hit hi hc'
    generalize atI prods i = t at hix hstep hhit
    obtain ⟨ps, pc, pb, pp, pe, ph⟩ := t
    obtain ⟨B, hB⟩ : ∃ X, X = pb.map symC := ⟨_, rfl⟩
    obtain ⟨H, hH⟩ : ∃ X, X = ph.map intC := ⟨_, rfl⟩
    have hok : prodOk ⟨ps, pc, pb, pp, pe, ph⟩ = (!lt 20 (len B) && (!lt 20 (len H) && !lt 100 (sln pc))) := by rw [hlt, hsln, hlen, hB, hH, len_map, len_map]; rfl
    rw [hok] at hstep hhit
    unfold prodC at hix
    dsimp only at hix
    rw [← hB, ← hH] at hix
    generalize i + 1 = i2 at hadd hstep q2
    cbv
    repeat (first | (rw [hbox]; cbv) | (rw [hix]; cbv))
    cases h20 : lt 20 (len B)
    rotate_left
    · rw [hhit (by rw [h20]; rfl), Bool.false_and] at hz
      cbv
      exact done hz _ (by cbv)
    cbv
    repeat (first | (rw [hbox]; cbv) | (rw [hix]; cbv))
    cases h21 : lt 20 (len H)
    rotate_left
    · rw [hhit (by rw [h20, h21]; rfl), Bool.false_and] at hz
      cbv
      exact done hz _ (by cbv)
    cbv
    repeat (first | (rw [hbox]; cbv) | (rw [hix]; cbv))
    cases h100 : lt 100 (sln pc)
    rotate_left
    · rw [hhit (by rw [h20, h21, h100]; rfl), Bool.false_and] at hz
      cbv
      exact done hz _ (by cbv)
    have q1 := hstep (by rw [h20, h21, h100]; rfl)
    cbv
    rw [hadd]
    exact ⟨[0], [1, 4], 5, U.left prods.length i2, hk ▸ q2, by simp, i2, q1, rfl, cut_eq (by cbv) (by cbv)⟩
  have hc' : decide (i < (prods.length : Int)) = false := by rw [hlt, hnD] at hc; exact hc
  rw [all_end hi hc', Bool.true_and] at hz
  clear hc hc' hi hk
  cbv
  refine MW_loop hm [0] [1, 5] 6 (by simp) (fun k st => ∃ i : Int, AllAt levOk levels i ∧ k = U.left levels.length i ∧ st = stOf [.dead, .ptr 0 0 0, .dead, .dead, .dead, .flat (.int .i64 i)] [some ⟨39, [[.ro R, .ro S, .ro D, .ro V, .flat (.int .i64 start)]]⟩] 1) (U.left levels.length 0) ?_ ?_
  · exact ⟨0, all_zero _ levels, rfl, cut_eq (by cbv) (by cbv)⟩
  clear i k
  rintro k st ⟨i, hi, hk, rfl⟩
  cbv
  rw [hbox]; cbv
  cases hc : lt i (len V)
  rotate_left
  · have hc' : decide (i < (levels.length : Int)) = true := by rw [hlt, hnV] at hc; exact hc
    obtain ⟨_, h0, h1⟩ := at_lt hi.1 hc'
    have q2 := (at_step hi.1 hc').2
    have hadd : ar .add .i64 i 1 = i + 1 := by rw [har]; exact at_add hs3 hi.1 hc'
    have hix : nth V i 2 = some (.rp (levC (atI levels i))) := by rw [hnth, hV]; exact nth_map (fun _ => rfl) h0 h1
    have hstep := all_step hi hc'
    have hhit := all_hit hi hc'
    generalize atI levels i = t at hix hstep hhit
    obtain ⟨vs, vr⟩ := t
    obtain ⟨H, hH⟩ : ∃ X, X = vr.map intC := ⟨_, rfl⟩
    have hok : levOk ⟨vs, vr⟩ = !lt 20 (len H) := by rw [hlt, hlen, hH, len_map]; rfl
    rw [hok] at hstep hhit
    unfold levC at hix
    dsimp only at hix
    rw [← hH] at hix
    generalize i + 1 = i2 at hadd hstep q2
    cbv
    repeat (first | (rw [hbox]; cbv) | (rw [hix]; cbv))
    cases h20 : lt 20 (len H)
    rotate_left
    · rw [hhit (by rw [h20]; rfl)] at hz
      cbv
      exact done hz _ (by cbv)
    have q1 := hstep (by rw [h20]; rfl)
    cbv
    rw [hadd]
    exact ⟨[0], [1, 5], 6, U.left levels.length i2, hk ▸ q2, by simp, i2, q1, rfl, cut_eq (by cbv) (by cbv)⟩
  have hc' : decide (i < (levels.length : Int)) = false := by rw [hlt, hnV] at hc; exact hc
  rw [all_end hi hc'] at hz
  subst hz
  cbv
  exact hQ _ _ trivial (hfin _ (by cbv))
theorem few_facts {g : GramT} (h : fewG g = true) : g.rules.length ≤ 20 ∧ g.sorts.length ≤ 20 ∧ g.prods.length ≤ 40 ∧ ∀ p ∈ g.prods, p.body.length ≤ 20 := by
  simp only [fewG, fewR, Bool.and_eq_true, Bool.not_eq_true', decide_eq_false_iff_not, List.all_eq_true, prodOk] at h
  obtain ⟨⟨h0, _⟩, h1, h2, h3, h4, h5, h6⟩ := h
  exact ⟨by omega, by omega, by omega, fun p hp => by have := (h5 p hp).1; omega⟩
end Go.Proofs.Ytnceadbfgpiaaaa.J
