/- Contracts: first.Table's Row and With. -/
import Derived.Test.YthilmgpciiopnaaF5
namespace Go.Proofs.Ythilmgpciiopnaa.F
open Go G U K
set_option linter.unusedVariables false
set_option linter.unusedSimpArgs false
set_option maxRecDepth 100000
set_option maxHeartbeats 4000000
theorem fn33 : Try.prog.funcs[33]? = some Try.f33 := by kernel_rfl
theorem fn55 : Try.prog.funcs[55]? = some Try.f55 := by kernel_rfl
/-- With which tokens a row begins, by a table, and whether it may be nothing. -/
def rowT (E : List Bool) (F : List Nat) : List SymT → Nat × Bool
  | [] => (0, true)
  | s :: r => if s.sort = false then (bitN s.n, false) else if s.n < 0 ∨ (E.length : Int) ≤ s.n ∨ (F.length : Int) ≤ s.n then (0, false) else
    if atI E s.n = false then (atI F s.n, false) else (atI F s.n ||| (rowT E F r).1, (rowT E F r).2)
def Sets (F : List Nat) : Prop := ∀ x ∈ F, x < 18446744073709551616
theorem sets_at {F : List Nat} (h : Sets F) {n : Int} (h0 : 0 ≤ n) (h1 : n < F.length) : atI F n < 18446744073709551616 := h _ (at_mem h0 h1)
theorem rowT_lt {E : List Bool} {F : List Nat} (h : Sets F) : ∀ l, (rowT E F l).1 < 18446744073709551616
  | [] => by simp [rowT]
  | s :: r => by
    have ih := rowT_lt (E := E) h r
    rw [rowT]
    by_cases hs : s.sort = false
    · rw [if_pos hs]; exact bitN_lt _
    · rw [if_neg hs]
      by_cases hr : s.n < 0 ∨ (E.length : Int) ≤ s.n ∨ (F.length : Int) ≤ s.n
      · rw [if_pos hr]; simp
      · rw [if_neg hr]
        have := sets_at h (n := s.n) (by omega) (by omega)
        split
        · exact this
        · exact or_lt this ih
/-- Where the loop stands. -/
def RAt (E : List Bool) (F : List Nat) (body : List SymT) (z1 : Nat) (z2 : Bool) (i : Int) (o : Nat) : Prop := At body i ∧ o < 18446744073709551616 ∧ z1 = o ||| (rowT E F (body.drop i.toNat)).1 ∧ z2 = (rowT E F (body.drop i.toNat)).2
section
variable {E : List Bool} {F : List Nat} {body : List SymT} {z1 o : Nat} {z2 : Bool} {i : Int}
theorem rAt_zero (E : List Bool) (F : List Nat) (body : List SymT) : RAt E F body (rowT E F body).1 (rowT E F body).2 0 0 := ⟨at_zero _, by decide, by simp, rfl⟩
theorem rAt_end (h : RAt E F body z1 z2 i o) (hc : decide (i < (body.length : Int)) = false) : o = z1 ∧ z2 = true := by
  obtain ⟨h0, h1, h2, h3⟩ := h
  rw [drop_end h0 hc] at h2 h3
  exact ⟨by rw [h2]; simp [rowT], h3⟩
theorem rAt_tok (h : RAt E F body z1 z2 i o) (hc : decide (i < (body.length : Int)) = true) (hs : (atI body i).sort = false) : z2 = false ∧ arI .or .u64 (o : Int) ((bitN (atI body i).n : Nat) : Int) = (z1 : Int) := by
  obtain ⟨h0, h1, h2, h3⟩ := h
  obtain ⟨_, hi0, hi1⟩ := at_lt h0 hc
  rw [drop_next hi0 hi1, rowT, if_pos hs] at h2 h3
  exact ⟨h3, by rw [or_u h1 (bitN_lt _), h2]⟩
theorem rAt_out (h : RAt E F body z1 z2 i o) (hc : decide (i < (body.length : Int)) = true) (hs : (atI body i).sort = true) (hn : (atI body i).n < 0 ∨ (E.length : Int) ≤ (atI body i).n ∨ (F.length : Int) ≤ (atI body i).n) : z2 = false ∧ o = z1 := by
  obtain ⟨h0, h1, h2, h3⟩ := h
  obtain ⟨_, hi0, hi1⟩ := at_lt h0 hc
  rw [drop_next hi0 hi1, rowT, if_neg (by rw [hs]; decide), if_pos hn] at h2 h3
  exact ⟨h3, by rw [h2]; simp⟩
theorem rAt_in (hF : Sets F) (h : RAt E F body z1 z2 i o) (hc : decide (i < (body.length : Int)) = true) (hs : (atI body i).sort = true) (hn : 0 ≤ (atI body i).n ∧ (atI body i).n < E.length ∧ (atI body i).n < F.length) :
    arI .or .u64 (o : Int) ((atI F (atI body i).n : Nat) : Int) = ((o ||| atI F (atI body i).n : Nat) : Int) ∧
    (atI E (atI body i).n = false → z2 = false ∧ o ||| atI F (atI body i).n = z1) ∧ (atI E (atI body i).n = true → RAt E F body z1 z2 (i + 1) (o ||| atI F (atI body i).n)) := by
  obtain ⟨h0, h1, h2, h3⟩ := h
  obtain ⟨_, hi0, hi1⟩ := at_lt h0 hc
  have hlt := sets_at hF hn.1 hn.2.2
  rw [drop_next hi0 hi1, rowT, if_neg (by rw [hs]; decide), if_neg (by omega)] at h2 h3
  refine ⟨or_u h1 hlt, fun he => ?_, fun he => ?_⟩
  · rw [if_pos he] at h2 h3
    exact ⟨h3, h2.symm⟩
  · rw [if_neg (by rw [he]; decide)] at h2 h3
    refine ⟨(at_step h0 hc).1, or_lt h1 hlt, ?_, h3⟩
    rw [h2]
    simp only [Nat.or_assoc]
end
theorem c22 : Try.prog.cellsOf 22 = 1 := by kernel_rfl
theorem row_calls (E : List Bool) (F : List Nat) (body : List SymT) (hF : Sets F) (hs : body.length ≤ 1000000) :
    ACalls Try.prog 33 [.agg [.ro (E.map boolC), .ro (F.map setC)], .ro (body.map symC)] (fun _ => .tup [uV (rowT E F body).1, .flat (.bool (rowT E F body).2)]) (fun _ => []) := by
  have hz0 := rAt_zero E F body
  generalize (rowT E F body).1 = z1 at hz0 ⊢
  generalize (rowT E F body).2 = z2 at hz0 ⊢
  unfold uV
  obtain ⟨zx, hzx⟩ : ∃ x : Int, x = (z1 : Int) := ⟨_, rfl⟩
  rw [← hzx]
  obtain ⟨EE, hE⟩ : ∃ X, X = E.map boolC := ⟨_, rfl⟩
  obtain ⟨FF, hFF⟩ : ∃ X, X = F.map setC := ⟨_, rfl⟩
  obtain ⟨X, hX⟩ : ∃ X, X = body.map symC := ⟨_, rfl⟩
  rw [← hE, ← hFF, ← hX]
  refine acalls_symF tabF_ok fn33 rfl rfl rfl (by kernel_rfl) ?_
  have hfin : ∀ st, resA Try.prog Try.f33 st = some (.tup [.flat (.int .u64 zx), .flat (.bool z2)]) → G.Leaves Try.prog Try.f33 (fun _ => .tup [.flat (.int .u64 zx), .flat (.bool z2)]) (fun _ => []) st := fun st h => G.Leaves.plain h rfl
  rintro ⟨lt, le, eq, se, ar, dv, una, conv, len, sln, nat, nth, ixs, cel, sto, app, cpy, slc, mak, ixv, oth, dk, ib, call⟩ hS hm Q hQ
  obtain ⟨hlt, hle, heq, hse, har, hdv, huna, hconv, hlen, hsln, hnat, hnth, hixs, hcel, hsto, happ, hcpy, hslc, hmak, hixv, hoth, hdk, hib, hcall⟩ := Sym.mk.inj hS
  clear hS
  have hnt : ∀ n : Nat, nat n = U.natI n := fun n => by rw [hnat]; rfl
  have hbox : ∀ e c off, cel (some ⟨e, [c]⟩) 0 off = if off ≤ c.length then some (c.drop off) else none := fun e c off => by rw [hcel]; rfl
  have hsbox : ∀ e c off sz y, sto (some ⟨e, [c]⟩) 0 off sz y = if y.cells.length = sz ∧ off + sz ≤ c.length ∧ y.cells.all AV.one = true then some ⟨e, [spl c off y.cells]⟩ else none := fun e c off sz y => by rw [hsto]; rfl
  have hcaw : ∀ {f args T base K}, CallK Try.prog f args T base K → call f args T base K := fun h => by rw [hcall]; exact h
  have hcal : ∀ {f args T base} {K : AV → Table → List Nat → List Nat → Prop}, (∃ args' ids val rows, Hands T ids args args' (val base) (rows base) ∧ ACalls Try.prog f args' val rows ∧ (rows base).length ≤ 8 ∧ K (val base) (adopt T base (rows base)) ids ((List.range (rows base).length).map (base + ·))) → call f args T base K := fun h => hcaw (call_own h)
  have hn : len X = body.length := by rw [hlen, hX, len_map]
  have hnE : len EE = E.length := by rw [hlen, hE, len_map]
  have hnF : len FF = F.length := by rw [hlen, hFF, len_map]
  cbv
  refine MW_loop hm [0] [2, 6, 9, 10, 11] 12 (by simp) (fun k st => ∃ (i : Int) (o : Nat) (ox : Int), RAt E F body z1 z2 i o ∧ ox = (o : Int) ∧ k = U.left body.length i ∧ st = stOf [.dead, .dead, .ptr 0 0 0, .dead, .dead, .dead, .flat (.int .u64 ox), .dead, .dead, .ro X, .flat (.int .i64 (len X)), .flat (.int .i64 i)] [some ⟨53, [[.ro EE, .ro FF]]⟩] 1) (U.left body.length 0) ?_ ?_
  · exact ⟨0, 0, 0, hz0, rfl, rfl, cut_eq (by cbv) (by cbv)⟩
  rintro k st ⟨i, o, ox, hi, hox, hk, rfl⟩
  cases hc : lt i (len X)
  · have hc' : decide (i < (body.length : Int)) = false := by rw [hlt, hn] at hc; exact hc
    obtain ⟨ho, rfl⟩ := rAt_end hi hc'
    have : ox = zx := by rw [hox, ho]; exact hzx.symm
    subst this
    cbv
    rw [hc]; cbv
    exact hQ _ _ trivial (hfin _ (by cbv))
  have hc' : decide (i < (body.length : Int)) = true := by rw [hlt, hn] at hc; exact hc
  obtain ⟨_, h0, h1⟩ := at_lt hi.1 hc'
  have q2 := (at_step hi.1 hc').2
  have hadd : ar .add .i64 i 1 = i + 1 := by rw [har]; exact at_add hs hi.1 hc'
  have hix : nth X i 2 = some (.rp (symC (atI body i))) := by rw [hnth, hX]; exact nth_map (fun _ => rfl) h0 h1
  have htok := rAt_tok hi hc'
  have hout := rAt_out hi hc'
  have hin := rAt_in hF hi hc'
  have hcB := bit_calls (atI body i).n
  generalize atI body i = s at hix htok hout hin hcB
  obtain ⟨ss, sn⟩ := s
  unfold uV at hcB
  dsimp only at htok hout hin hcB
  obtain ⟨bx, hbx⟩ : ∃ x : Int, x = ((bitN sn : Nat) : Int) := ⟨_, rfl⟩
  rw [← hbx] at hcB
  replace htok : ss = false → z2 = false ∧ ar .or .u64 ox bx = zx := fun h => ⟨(htok h).1, by rw [har, hox, hbx]; exact (htok h).2.trans hzx.symm⟩
  generalize i + 1 = i2 at hadd q2 hin
  have houtx : sn < 0 ∨ (E.length : Int) ≤ sn ∨ (F.length : Int) ≤ sn → ss = true → z2 = false ∧ ox = zx := fun h hs => by
    obtain ⟨a, b⟩ := hout hs h
    exact ⟨a, by rw [hox, b]; exact hzx.symm⟩
  have hn1 : lt sn 0 = decide (sn < 0) := by rw [hlt]
  have hn2 : le (len EE) sn = decide ((E.length : Int) ≤ sn) := by rw [hle, hnE]
  have hn3 : le (len FF) sn = decide ((F.length : Int) ≤ sn) := by rw [hle, hnF]
  have hinx : ss = true → ¬ sn < 0 → ¬ (E.length : Int) ≤ sn → ¬ (F.length : Int) ≤ sn → ∃ (ev : Bool) (fx ox2 : Int) (o2 : Nat), nth EE sn 1 = some (.rp [.flat (.bool ev)]) ∧ nth FF sn 1 = some (.rp [.flat (.int .u64 fx)]) ∧ ar .or .u64 ox fx = ox2 ∧ (ev = false → z2 = false ∧ ox2 = zx) ∧ (ev = true → RAt E F body z1 z2 i2 o2 ∧ ox2 = (o2 : Int)) := fun hs g1 g2 g3 => by
    obtain ⟨hor, hstop, hgo⟩ := hin hs ⟨Int.not_lt.1 g1, Int.not_le.1 g2, Int.not_le.1 g3⟩
    refine ⟨atI E sn, ((atI F sn : Nat) : Int), ((o ||| atI F sn : Nat) : Int), o ||| atI F sn, ?_, ?_, by rw [har, hox]; exact hor, fun h => ?_, fun h => ⟨hgo h, rfl⟩⟩
    · rw [hnth, hE]; exact nth_map (fun _ => rfl) (Int.not_lt.1 g1) (Int.not_le.1 g2)
    · rw [hnth, hFF]; exact nth_map (fun _ => rfl) (Int.not_lt.1 g1) (Int.not_le.1 g3)
    · obtain ⟨a, b⟩ := hstop h
      exact ⟨a, by rw [b]; exact hzx.symm⟩
  clear hin hout
  cbv
  rw [hc]; cbv
  repeat (first | (rw [hix]; cbv) | (rw [hsbox]; cbv) | (rw [hbox]; cbv))
  cases ss
  · obtain ⟨rfl, hor⟩ := htok rfl
    cbv
    repeat (first | (rw [hbox]; cbv))
    refine hcal ⟨_, [], _, _, .inl ⟨rfl, by cbv⟩, hcB, by simp, ?_⟩
    cbv
    rw [hor]
    exact hQ _ _ trivial (hfin _ (by cbv))
  cbv
  repeat (first | (rw [hbox]; cbv))
  cases e1 : lt sn 0
  rotate_left
  · obtain ⟨rfl, rfl⟩ := houtx (.inl (of_decide_eq_true (hn1.symm.trans e1))) rfl
    cbv
    exact hQ _ _ trivial (hfin _ (by cbv))
  cbv
  repeat (first | (rw [hbox]; cbv))
  cases e2 : le (len EE) sn
  rotate_left
  · obtain ⟨rfl, rfl⟩ := houtx (.inr (.inl (of_decide_eq_true (hn2.symm.trans e2)))) rfl
    cbv
    exact hQ _ _ trivial (hfin _ (by cbv))
  cbv
  repeat (first | (rw [hbox]; cbv))
  cases e3 : le (len FF) sn
  rotate_left
  · obtain ⟨rfl, rfl⟩ := houtx (.inr (.inr (of_decide_eq_true (hn3.symm.trans e3)))) rfl
    cbv
    exact hQ _ _ trivial (hfin _ (by cbv))
  obtain ⟨ev, fx, ox2, o2, hiE, hiF, hor, hstop, hgo⟩ := hinx rfl (of_decide_eq_false (hn1.symm.trans e1)) (of_decide_eq_false (hn2.symm.trans e2)) (of_decide_eq_false (hn3.symm.trans e3))
  cbv
  repeat (first | (rw [hbox]; cbv) | (rw [hiF]; cbv) | (rw [hor]; cbv) | (rw [hiE]; cbv))
  cases ev
  · obtain ⟨rfl, rfl⟩ := hstop rfl
    cbv
    exact hQ _ _ trivial (hfin _ (by cbv))
  obtain ⟨q1, hox2⟩ := hgo rfl
  cbv
  rw [hadd]
  exact ⟨[0], [2, 6, 9, 10, 11], 12, U.left body.length i2, hk ▸ q2, by simp, i2, o2, ox2, q1, hox2, rfl, cut_eq (by cbv) (by cbv)⟩
def withT (E : List Bool) (F : List Nat) (body : List SymT) (b : Nat) : Nat := if (rowT E F body).2 = true then (rowT E F body).1 ||| b else (rowT E F body).1
theorem with_calls (E : List Bool) (F : List Nat) (body : List SymT) (b : Nat) (hF : Sets F) (hb : b < 18446744073709551616) (hs : body.length ≤ 1000000) :
    ACalls Try.prog 55 [.agg [.ro (E.map boolC), .ro (F.map setC)], .ro (body.map symC), uV b] (fun _ => uV (withT E F body b)) (fun _ => []) := by
  have hcR := row_calls E F body hF hs
  have hlt := rowT_lt (E := E) hF body
  unfold withT
  generalize (rowT E F body).1 = z1 at hcR hlt ⊢
  generalize (rowT E F body).2 = z2 at hcR ⊢
  have hor := or_u hlt hb
  unfold uV at hcR ⊢
  generalize E.map boolC = EE at hcR ⊢
  generalize F.map setC = FF at hcR ⊢
  generalize body.map symC = X at hcR ⊢
  obtain ⟨w, hw⟩ : ∃ x : Int, x = ((if z2 = true then z1 ||| b else z1 : Nat) : Int) := ⟨_, rfl⟩
  rw [← hw]
  obtain ⟨zx, hzx⟩ : ∃ x : Int, x = (z1 : Int) := ⟨_, rfl⟩
  obtain ⟨bx, hbx⟩ : ∃ x : Int, x = (b : Int) := ⟨_, rfl⟩
  rw [← hzx, ← hbx] at hor
  rw [← hzx] at hcR
  rw [← hbx]
  have hT : z2 = true → arI .or .u64 zx bx = w := fun h => by rw [hor, hw, if_pos h]
  have hFz : z2 = false → zx = w := fun h => by rw [hzx, hw, if_neg (by rw [h]; decide)]
  clear hor
  refine acalls_symF tabF_ok fn55 rfl rfl rfl (by kernel_rfl) ?_
  have hfin : ∀ st, resA Try.prog Try.f55 st = some (.flat (.int .u64 w)) → G.Leaves Try.prog Try.f55 (fun _ => .flat (.int .u64 w)) (fun _ => []) st := fun st h => G.Leaves.plain h rfl
  rintro ⟨lt, le, eq, se, ar, dv, una, conv, len, sln, nat, nth, ixs, cel, sto, app, cpy, slc, mak, ixv, oth, dk, ib, call⟩ hS hm Q hQ
  obtain ⟨hlt, hle, heq, hse, har, hdv, huna, hconv, hlen, hsln, hnat, hnth, hixs, hcel, hsto, happ, hcpy, hslc, hmak, hixv, hoth, hdk, hib, hcall⟩ := Sym.mk.inj hS
  clear hS
  have hnt : ∀ n : Nat, nat n = U.natI n := fun n => by rw [hnat]; rfl
  have hbox : ∀ e c off, cel (some ⟨e, [c]⟩) 0 off = if off ≤ c.length then some (c.drop off) else none := fun e c off => by rw [hcel]; rfl
  have hsbox : ∀ e c off sz y, sto (some ⟨e, [c]⟩) 0 off sz y = if y.cells.length = sz ∧ off + sz ≤ c.length ∧ y.cells.all AV.one = true then some ⟨e, [spl c off y.cells]⟩ else none := fun e c off sz y => by rw [hsto]; rfl
  have hcaw : ∀ {f args T base K}, CallK Try.prog f args T base K → call f args T base K := fun h => by rw [hcall]; exact h
  have hcal : ∀ {f args T base} {K : AV → Table → List Nat → List Nat → Prop}, (∃ args' ids val rows, Hands T ids args args' (val base) (rows base) ∧ ACalls Try.prog f args' val rows ∧ (rows base).length ≤ 8 ∧ K (val base) (adopt T base (rows base)) ids ((List.range (rows base).length).map (base + ·))) → call f args T base K := fun h => hcaw (call_own h)
  rw [← har] at hT
  cbv
  repeat (first | (rw [hbox]; cbv))
  refine hcal ⟨_, [], _, _, .inl ⟨rfl, by cbv⟩, hcR, by simp, ?_⟩
  cbv
  cases z2
  · obtain rfl := hFz rfl
    cbv
    exact hQ _ _ trivial (hfin _ (by cbv))
  · have hT := hT rfl
    cbv
    rw [hT]
    exact hQ _ _ trivial (hfin _ (by cbv))
end Go.Proofs.Ythilmgpciiopnaa.F
