/- The law RenderFits: its contracts. -/
import Derived.Test.YtagflbmonlaioaaM4
namespace Go.Proofs.Ytagflbmonlaioaa.D
open Go G U K
set_option linter.unusedVariables false
set_option linter.unusedSimpArgs false
set_option maxRecDepth 100000
set_option maxHeartbeats 4000000
theorem fn51 : Try.prog.funcs[51]? = some Try.f51 := by kernel_rfl
theorem fn11 : Try.prog.funcs[11]? = some Try.f11 := by kernel_rfl
/-! ### Words -/
def blank (b : UInt8) : Bool := decide (b = 32) || decide (b = 10)
def wordsB (bs : List UInt8) : List UInt8 := bs.filter fun b => !blank b
theorem wordsB_app (a b : List UInt8) : wordsB (a ++ b) = wordsB a ++ wordsB b := List.filter_append ..
theorem wordsB_line (n : Int) : wordsB (lineB n) = [] := by
  unfold wordsB lineB
  rw [List.filter_eq_nil_iff]
  intro b hb
  simp only [List.mem_cons, List.mem_replicate] at hb
  rcases hb with rfl | ⟨_, rfl⟩ <;> decide
def coreT : Tr → List UInt8
  | .lf p => if p.kind = 0 then wordsB (bts p.text) else []
  | .un _ t => coreT t
  | .cat _ a b => coreT a ++ coreT b
theorem words_lay (w : Int) : ∀ (t : Tr) (n : Int) (fl : Bool) (rest : DocT) (bs : List UInt8), wordsB (layT w t n fl rest bs) = wordsB bs ++ coreT t
  | .lf p, n, fl, rest, bs => by
    simp only [layT, coreT, wordsB_app, emP]
    congr 1
    split
    · rfl
    · split
      · split
        · rfl
        · exact wordsB_line n
      · split
        · split
          · rfl
          · exact wordsB_line n
        · split
          · exact wordsB_line n
          · rfl
  | .un p t, n, fl, rest, bs => by
    simp only [layT, coreT]
    split
    · exact words_lay w t _ _ rest bs
    · exact words_lay w t _ _ rest bs
  | .cat p a b, n, fl, rest, bs => by
    simp only [layT, coreT]
    rw [words_lay w b n fl rest _, words_lay w a n fl _ bs, List.append_assoc]
theorem str_one {s : ByteArray} {i : Int} {b : UInt8} (h0 : 0 ≤ i) (q3 : (bts s).take (i + 1).toNat = (bts s).take i.toNat ++ [b]) : s.extract i.toNat (i + 1).toNat = txt [b] := by
  apply ByteArray.ext
  apply Array.toList_inj.1
  have e : (i + 1).toNat = i.toNat + 1 := by omega
  rw [e] at q3 ⊢
  have hd : ((bts s).take (i.toNat + 1)).drop i.toNat = [b] := by
    have hl := congrArg List.length q3
    rw [List.length_take, List.length_append, List.length_take] at hl
    simp only [List.length_cons, List.length_nil] at hl
    rw [q3, List.drop_left' (by rw [List.length_take]; omega)]
  show _ = [b]
  rw [ByteArray.data_extract, Array.toList_extract, List.extract_eq_take_drop]
  rw [← hd, List.drop_take]; rfl
def WrAt (s : ByteArray) (i : Int) (a : ByteArray) : Prop := 0 ≤ i ∧ i ≤ s.size ∧ a = txt (wordsB ((bts s).take i.toNat))
theorem wrAt_zero (s : ByteArray) : WrAt s 0 ⟨#[]⟩ := ⟨by omega, by omega, rfl⟩
theorem wrAt_end {s : ByteArray} {i : Int} {a : ByteArray} (h : WrAt s i a) (hc : decide (i < (s.size : Int)) = false) : a = txt (wordsB (bts s)) := by
  obtain ⟨h0, h1, h2⟩ := h
  have hc := of_decide_eq_false hc
  rw [h2, List.take_of_length_le (by rw [bts_len]; omega)]
theorem wrAt_step {s : ByteArray} (hb : s.size ≤ 100000000) {i : Int} {a : ByteArray} (h : WrAt s i a) (hc : decide (i < (s.size : Int)) = true) : ∃ (v : Int) (c a2 : ByteArray), evP Try.prog (Instr.index 9 (.string s) (.int .i64 i)) = some (.flat (.int .u8 v)) ∧ arI .add .i64 i 1 = i + 1 ∧
    (∀ T, evSlice Try.prog T 9 (.flat (.string s)) (some (.flat (.int .i64 i))) (some (.flat (.int .i64 (i + 1)))) = some (.flat (.string c))) ∧ dvOf Try.prog .add 9 (.flat (.string a)) (.flat (.string c)) = some (.flat (.string a2)) ∧
    (decide (v = 32) = true → WrAt s (i + 1) a) ∧ (decide (v = 10) = true → WrAt s (i + 1) a) ∧ (decide (v = 32) = false → decide (v = 10) = false → WrAt s (i + 1) a2) ∧ ((s.size : Int) - (i + 1)).toNat < ((s.size : Int) - i).toNat := by
  obtain ⟨h0, h1, h2⟩ := h
  have hc := of_decide_eq_true hc
  obtain ⟨v, b, q1, q2, q4, q3⟩ := str_at h0 hc
  have hl : (wordsB ((bts s).take i.toNat)).length ≤ s.size := by
    refine Nat.le_trans (List.length_filter_le _ _) ?_
    rw [List.length_take, bts_len]; omega
  have hw : wordsB ((bts s).take (i + 1).toNat) = wordsB ((bts s).take i.toNat) ++ wordsB [b] := by rw [q3, wordsB_app]
  refine ⟨v, txt [b], txt (wordsB ((bts s).take i.toNat) ++ [b]), q1, ar_add64 (by omega) (by omega), fun T => ?_, ?_, fun e => ?_, fun e => ?_, fun e e2 => ?_, by omega⟩
  · simp only [evSlice, u9]
    rw [bnd_both h0 (by omega) (by omega)]
    simp only [Option.map_some]
    rw [str_one h0 q3]
  · rw [h2, dv_cat _ _ (by rw [size_txt, size_txt]; simp only [List.length_cons, List.length_nil]; omega), txt_append]
  · rw [q4] at e
    refine ⟨by omega, by omega, ?_⟩
    rw [hw, of_decide_eq_true e, h2, show wordsB [32] = [] by rfl, List.append_nil]
  · rw [q2] at e
    refine ⟨by omega, by omega, ?_⟩
    rw [hw, of_decide_eq_true e, h2, show wordsB [10] = [] by rfl, List.append_nil]
  · rw [q4] at e
    rw [q2] at e2
    refine ⟨by omega, by omega, ?_⟩
    rw [hw]
    have : wordsB [b] = [b] := by simp [wordsB, blank, e, e2]
    rw [this]
theorem words_calls (s : ByteArray) (hb : s.size ≤ 100000000) : ACalls Try.prog 51 [.flat (.string s)] (fun _ => .flat (.string (txt (wordsB (bts s))))) (fun _ => []) := by
  have hz := wrAt_zero s
  have hend0 := fun i a (h : WrAt s i a) hc => wrAt_end h hc
  have hstep0 := fun i a (h : WrAt s i a) hc => wrAt_step hb h hc
  generalize txt (wordsB (bts s)) = r at hend0 ⊢
  refine acalls_symF tabF_ok fn51 rfl rfl rfl (by kernel_rfl) ?_
  have hfin : ∀ st, resA Try.prog Try.f51 st = some (.flat (.string r)) → G.Leaves Try.prog Try.f51 (fun _ => .flat (.string r)) (fun _ => []) st := fun st h => G.Leaves.plain h rfl
  rintro ⟨lt, le, eq, se, ar, dv, una, conv, len, sln, nat, nth, ixs, cel, sto, app, cpy, slc, mak, ixv, oth, dk, ib, call⟩ hS hm Q hQ
  obtain ⟨hlt, hle, heq, hse, har, hdv, huna, hconv, hlen, hsln, hnat, hnth, hixs, hcel, hsto, happ, hcpy, hslc, hmak, hixv, hoth, hdk, hib, hcall⟩ := Sym.mk.inj hS
  clear hS
  have hnt : ∀ n : Nat, nat n = U.natI n := fun n => by rw [hnat]; rfl
  have hbox : ∀ e c off, cel (some ⟨e, [c]⟩) 0 off = if off ≤ c.length then some (c.drop off) else none := fun e c off => by rw [hcel]; rfl
  have hsbox : ∀ e c off sz y, sto (some ⟨e, [c]⟩) 0 off sz y = if y.cells.length = sz ∧ off + sz ≤ c.length ∧ y.cells.all AV.one = true then some ⟨e, [spl c off y.cells]⟩ else none := fun e c off sz y => by rw [hsto]; rfl
  have hcaw : ∀ {f args T base K}, CallK Try.prog f args T base K → call f args T base K := fun h => by rw [hcall]; exact h
  have hcal : ∀ {f args T base} {K : AV → Table → List Nat → List Nat → Prop}, (∃ args' ids val rows, Hands T ids args args' (val base) (rows base) ∧ ACalls Try.prog f args' val rows ∧ (rows base).length ≤ 8 ∧ K (val base) (adopt T base (rows base)) ids ((List.range (rows base).length).map (base + ·))) → call f args T base K := fun h => hcaw (call_own h)
  have hsz : sln s = (s.size : Int) := by rw [hsln]
  have hstep2 : ∀ i a, WrAt s i a → lt i (sln s) = true → _ := fun i a h h2 => hstep0 i a h (by rw [hlt, hsz] at h2; exact h2)
  have hend2 : ∀ i a, WrAt s i a → lt i (sln s) = false → a = r := fun i a h h2 => hend0 i a h (by rw [hlt, hsz] at h2; exact h2)
  clear hend0 hstep0
  cbv
  refine MW_loop hm [] [0, 3, 4] 5 (by simp) (fun mz st => ∃ (i : Int) (a : ByteArray), WrAt s i a ∧ mz = ((s.size : Int) - i).toNat ∧ st = stOf [.flat (.string s), .dead, .dead, .flat (.string a), .flat (.int .i64 i)] [] 0) (((s.size : Int) - 0).toNat) ?_ ?_
  · exact ⟨0, ⟨#[]⟩, hz, rfl, cut_eq (by cbv) (by rfl)⟩
  rintro mz st ⟨i, a, hi, hmz, rfl⟩
  cases hcc : lt i (sln s)
  · obtain rfl := hend2 _ _ hi hcc
    cbv
    rw [hcc]; cbv
    exact hQ _ _ trivial (hfin _ (by cbv))
  obtain ⟨v, c, a2, q1, q2, q3, q4, q5, q6, q7, q8⟩ := hstep2 _ _ hi hcc
  have hx : ixv 9 (.flat (.string s)) (.flat (.int .i64 i)) = some (.flat (.int .u8 v)) := by rw [hixv]; exact q1
  have hsl : ∀ T, slc T 9 (.flat (.string s)) (some (.flat (.int .i64 i))) (some (.flat (.int .i64 (i + 1)))) = some (.flat (.string c)) := fun T => by rw [hslc]; exact q3 T
  rw [← har] at q2
  rw [← hdv] at q4
  have e5 : eq v 10 = decide (v = 10) := by rw [heq]
  have e6 : eq v 32 = decide (v = 32) := by rw [heq]
  clear q3 q1
  generalize i + 1 = i2 at q2 hsl q5 q6 q7 q8
  generalize decide (v = 10) = b1 at e5 q6 q7
  generalize decide (v = 32) = b2 at e6 q5 q7
  cases b2
  · cases b1
    · replace q7 := q7 rfl rfl
      cbv
      rw [hcc]; cbv
      repeat (first | (rw [hbox]; cbv) | (rw [hsbox]; cbv) | (rw [hx]; cbv) | (rw [e5]; cbv) | (rw [e6]; cbv) | (rw [q2]; cbv) | (rw [hsl]; cbv) | (rw [q4]; cbv))
      exact ⟨[], [0, 3, 4], 5, ((s.size : Int) - i2).toNat, hmz ▸ q8, by simp, i2, a2, q7, rfl, cut_eq (by cbv) (by rfl)⟩
    · replace q6 := q6 rfl
      cbv
      rw [hcc]; cbv
      repeat (first | (rw [hbox]; cbv) | (rw [hsbox]; cbv) | (rw [hx]; cbv) | (rw [e5]; cbv) | (rw [e6]; cbv))
      rw [q2]
      exact ⟨[], [0, 3, 4], 5, ((s.size : Int) - i2).toNat, hmz ▸ q8, by simp, i2, a, q6, rfl, cut_eq (by cbv) (by rfl)⟩
  replace q5 := q5 rfl
  cbv
  rw [hcc]; cbv
  repeat (first | (rw [hbox]; cbv) | (rw [hsbox]; cbv) | (rw [hx]; cbv) | (rw [e5]; cbv) | (rw [e6]; cbv))
  rw [q2]
  exact ⟨[], [0, 3, 4], 5, ((s.size : Int) - i2).toNat, hmz ▸ q8, by simp, i2, a, q5, rfl, cut_eq (by cbv) (by rfl)⟩
theorem group_tree {t : Tr} (ht : t.ok) : (Tr.un (partK 6 0) t).ok ∧ (Tr.un (partK 6 0) t).flat = groupD t.flat := ⟨⟨by decide +kernel, by decide +kernel, ht⟩, rfl⟩
theorem fits_good {d : DocT} (hf : fewD d = true) (hk : checkD d = 0) {m : Int} (h0 : 0 ≤ m) (h1 : m < 256) : ∃ (s5 s9 s11 wd : ByteArray) (o : Option (List UInt8)),
    ACalls Try.prog 49 [.ro ((groupD d).map partC), .flat (.int .i64 m)] (fun _ => .tup [.flat (.string s5), .flat (.int .i64 0)]) (fun _ => []) ∧
    ACalls Try.prog 29 [.ro (d.map partC)] (fun _ => flatV o) (fun _ => []) ∧
    ACalls Try.prog 49 [.ro (d.map partC), .flat (.int .i64 m)] (fun _ => .tup [.flat (.string s9), .flat (.int .i64 0)]) (fun _ => []) ∧
    ACalls Try.prog 49 [.ro (d.map partC), .flat (.int .i64 1048576)] (fun _ => .tup [.flat (.string s11), .flat (.int .i64 0)]) (fun _ => []) ∧
    ACalls Try.prog 51 [.flat (.string s5)] (fun _ => .flat (.string wd)) (fun _ => []) ∧ ACalls Try.prog 51 [.flat (.string s9)] (fun _ => .flat (.string wd)) (fun _ => []) ∧ ACalls Try.prog 51 [.flat (.string s11)] (fun _ => .flat (.string wd)) (fun _ => []) ∧
    (∀ fb, o = some fb → decide ((fb.length : Int) ≤ m) = true → s5 = txt fb) := by
  have hs := few_small hf
  have hff := few_facts hf
  obtain ⟨t, ht, rfl⟩ := tree_of hk
  obtain ⟨hg1, hg2⟩ := group_tree ht
  have hsg : Small (Tr.un (partK 6 0) t).flat := by
    rw [hg2]
    refine ⟨by unfold groupD; rw [List.length_append]; have := hff.1; simp; omega, fun p hp => ?_⟩
    rcases List.mem_append.1 hp with h | h
    · exact hs.2 p h
    · simp only [List.mem_cons, List.not_mem_nil, or_false] at h
      subst h; decide
  have l5 := rend_len hg1 hsg m
  have l9 := rend_len ht hs m
  have l11 := rend_len ht hs 1048576
  have r5 := render_calls hg1 hsg m
  rw [hg2] at r5
  have w5 := words_calls (txt (rendT m (Tr.un (partK 6 0) t))) (by rw [size_txt]; omega)
  have w9 := words_calls (txt (rendT m t)) (by rw [size_txt]; omega)
  have w11 := words_calls (txt (rendT 1048576 t)) (by rw [size_txt]; omega)
  rw [bts_txt] at w5 w9 w11
  unfold rendT at w5 w9 w11
  rw [words_lay] at w5 w9 w11
  refine ⟨_, _, _, txt (coreT t), flatD t.flat, r5, refFlat_calls t ht (small_mild hs), render_calls ht hs m, render_calls ht hs 1048576, w5, w9, w11, fun fb ho hle => ?_⟩
  have hle := of_decide_eq_true hle
  unfold rendT
  simp only [layT]
  rw [if_neg (by decide), wid_u8 h0 h1]
  have hfit : fitsT m t [] (colB []) = true := by
    unfold fitsT
    rw [ho]
    have e1 : colB [] = 0 := rfl
    have e2 : (leadD []).1 = 0 := rfl
    rw [e1, e2]
    exact decide_eq_true (by omega)
  rw [hfit, Bool.or_true, flat_lay m t ht 0 [] [] fb ho, List.nil_append]
theorem renderFits_calls (d : DocT) (m : Nat) (hmm : m < 256) : ACalls Try.prog 11 [.ro (d.map partC), .flat (.int .u8 (m : Int))] (fun _ => .flat (.bool true)) (fun _ => []) := by
  have hm0 : 0 ≤ (m : Int) := by omega
  have hm1 : (m : Int) < 256 := by omega
  generalize (m : Int) = mi at hm0 hm1 ⊢
  have hcvt := conv_u8 mi hm0 hm1
  have hcA := awakeR_calls
  have hcF := fewD_calls d
  have hcR : fewD d = true → ACalls Try.prog 22 [.ro (d.map partC)] (fun _ => .flat (.int .i64 (checkD d))) (fun _ => []) := fun h => refCheck_calls d (by have := (few_small h).1; omega)
  obtain ⟨n1, hn1⟩ : ∃ n, n = d.length + 1 := ⟨_, rfl⟩
  have hcG : fewD d = true → _ := fun h => group_calls d (by have := (few_small h).1; omega) hn1
  have hg : fewD d = true → decide (checkD d = 0) = true → _ := fun hf hk => fits_good hf (of_decide_eq_true hk) hm0 hm1
  obtain ⟨Gp, hGp⟩ : ∃ X, X = (groupD d).map partC := ⟨_, rfl⟩
  have hGf := flat_of hGp
  have hGn : n1 = Gp.length := by rw [hGp, List.length_map, hn1]; unfold groupD; rw [List.length_append]; rfl
  rw [← hGp] at hcG hg
  generalize d.map partC = X at hcF hcR hcG hg ⊢
  generalize fewD d = fw at hcF hcR hcG hg
  refine acalls_symF tabF_ok fn11 rfl rfl rfl (by kernel_rfl) ?_
  have hfin : ∀ st, resA Try.prog Try.f11 st = some (.flat (.bool true)) → G.Leaves Try.prog Try.f11 (fun _ => .flat (.bool true)) (fun _ => []) st := fun st h => G.Leaves.plain h rfl
  rintro ⟨lt, le, eq, se, ar, dv, una, conv, len, sln, nat, nth, ixs, cel, sto, app, cpy, slc, mak, ixv, oth, dk, ib, call⟩ hS hm Q hQ
  obtain ⟨hlt, hle, heq, hse, har, hdv, huna, hconv, hlen, hsln, hnat, hnth, hixs, hcel, hsto, happ, hcpy, hslc, hmak, hixv, hoth, hdk, hib, hcall⟩ := Sym.mk.inj hS
  clear hS
  have hnt : ∀ n : Nat, nat n = U.natI n := fun n => by rw [hnat]; rfl
  have hbox : ∀ e c off, cel (some ⟨e, [c]⟩) 0 off = if off ≤ c.length then some (c.drop off) else none := fun e c off => by rw [hcel]; rfl
  have hsbox : ∀ e c off sz y, sto (some ⟨e, [c]⟩) 0 off sz y = if y.cells.length = sz ∧ off + sz ≤ c.length ∧ y.cells.all AV.one = true then some ⟨e, [spl c off y.cells]⟩ else none := fun e c off sz y => by rw [hsto]; rfl
  have hcaw : ∀ {f args T base K}, CallK Try.prog f args T base K → call f args T base K := fun h => by rw [hcall]; exact h
  have hcal : ∀ {f args T base} {K : AV → Table → List Nat → List Nat → Prop}, (∃ args' ids val rows, Hands T ids args args' (val base) (rows base) ∧ ACalls Try.prog f args' val rows ∧ (rows base).length ≤ 8 ∧ K (val base) (adopt T base (rows base)) ids ((List.range (rows base).length).map (base + ·))) → call f args T base K := fun h => hcaw (call_own h)
  have heqr : ∀ v, eq v v = true := fun v => by rw [heq]; exact decide_eq_true rfl
  have hser : ∀ v, se v v = true := fun v => by rw [hse]; exact beq_self_eq_true _
  have hcv2 : ∀ T, conv T 5 3 (.flat (.int .u8 mi)) = some (.flat (.int .i64 mi)) := fun T => by rw [hconv]; exact hcvt
  have e2 : eq (checkD d) 0 = decide (checkD d = 0) := by rw [heq]
  have hle2 : ∀ (s : ByteArray), le (sln s) mi = decide ((s.size : Int) ≤ mi) := fun s => by rw [hle, hsln]
  clear hcvt
  generalize decide (checkD d = 0) = b1 at e2 hg
  generalize checkD d = ck at e2 hcR
  cbv
  refine hcal ⟨_, [], _, _, .inl ⟨rfl, by cbv⟩, hcA, by simp, ?_⟩
  cbv
  refine hcal ⟨_, [], _, _, .inl ⟨rfl, by cbv⟩, hcF, by simp, ?_⟩
  cbv
  cases fw
  · cbv
    exact hQ _ _ trivial (hfin _ (by cbv))
  replace hcR := hcR rfl
  replace hcG := hcG rfl
  cases h60 : lt 60 (len X)
  rotate_left
  · cbv
    rw [h60]; cbv
    exact hQ _ _ trivial (hfin _ (by cbv))
  cbv
  rw [h60]; cbv
  refine hcal ⟨_, [], _, _, .inl ⟨rfl, by cbv⟩, hcR, by simp, ?_⟩
  cbv
  rw [e2]
  cases b1
  · cbv
    exact hQ _ _ trivial (hfin _ (by cbv))
  obtain ⟨s5, s9, s11, wd, o, g1, g2, g3, g4, g5, g6, g7, g8⟩ := hg rfl rfl
  clear hg
  have fin : ∀ (f1 : Bool) (sf : ByteArray), True := fun _ _ => trivial
  clear fin
  cases o with
  | none =>
    unfold flatV at g2
    dsimp only at g2
    clear g8
    cbv
    refine hcal ⟨_, [], _, _, .inl ⟨rfl, by cbv⟩, hcG, by simp, ?_⟩
    cbv
    repeat (first | (rw [hcv2]; cbv))
    refine hcal ⟨[.ro Gp, .flat (.int .i64 mi)], [136], _, _, hands_deep ⟨deep_row (by simp) (by rfl) hGn hGf.read, .id rfl, trivial⟩ rfl (fun r hr => by cases hr), g1, by simp, ?_⟩
    cbv
    refine hcal ⟨_, [], _, _, .inl ⟨rfl, by cbv⟩, g2, by simp, ?_⟩
    cbv
    repeat (first | (rw [heqr]; cbv) | (rw [hcv2]; cbv))
    refine hcal ⟨_, [], _, _, .inl ⟨rfl, by cbv⟩, g3, by simp, ?_⟩
    cbv
    refine hcal ⟨_, [], _, _, .inl ⟨rfl, by cbv⟩, g4, by simp, ?_⟩
    cbv
    refine hcal ⟨_, [], _, _, .inl ⟨rfl, by cbv⟩, g6, by simp, ?_⟩
    cbv
    refine hcal ⟨_, [], _, _, .inl ⟨rfl, by cbv⟩, g7, by simp, ?_⟩
    cbv
    repeat (first | (rw [hser]; cbv))
    refine hcal ⟨_, [], _, _, .inl ⟨rfl, by cbv⟩, g5, by simp, ?_⟩
    cbv
    refine hcal ⟨_, [], _, _, .inl ⟨rfl, by cbv⟩, g6, by simp, ?_⟩
    cbv
    repeat (first | (rw [hser]; cbv))
    exact hQ _ _ trivial (hfin _ (by cbv))
  | some fb =>
    unfold flatV at g2
    dsimp only at g2
    have g9 := g8 fb rfl
    have e9 := hle2 (txt fb)
    rw [size_txt] at e9
    clear g8 hle2
    generalize txt fb = sf at g2 g9 e9
    generalize decide ((fb.length : Int) ≤ mi) = b9 at g9 e9
    cases b9
    · clear g9
      cbv
      refine hcal ⟨_, [], _, _, .inl ⟨rfl, by cbv⟩, hcG, by simp, ?_⟩
      cbv
      repeat (first | (rw [hcv2]; cbv))
      refine hcal ⟨[.ro Gp, .flat (.int .i64 mi)], [136], _, _, hands_deep ⟨deep_row (by simp) (by rfl) hGn hGf.read, .id rfl, trivial⟩ rfl (fun r hr => by cases hr), g1, by simp, ?_⟩
      cbv
      refine hcal ⟨_, [], _, _, .inl ⟨rfl, by cbv⟩, g2, by simp, ?_⟩
      cbv
      repeat (first | (rw [heqr]; cbv) | (rw [hcv2]; cbv) | (rw [e9]; cbv))
      refine hcal ⟨_, [], _, _, .inl ⟨rfl, by cbv⟩, g3, by simp, ?_⟩
      cbv
      refine hcal ⟨_, [], _, _, .inl ⟨rfl, by cbv⟩, g4, by simp, ?_⟩
      cbv
      refine hcal ⟨_, [], _, _, .inl ⟨rfl, by cbv⟩, g6, by simp, ?_⟩
      cbv
      refine hcal ⟨_, [], _, _, .inl ⟨rfl, by cbv⟩, g7, by simp, ?_⟩
      cbv
      repeat (first | (rw [hser]; cbv))
      refine hcal ⟨_, [], _, _, .inl ⟨rfl, by cbv⟩, g5, by simp, ?_⟩
      cbv
      refine hcal ⟨_, [], _, _, .inl ⟨rfl, by cbv⟩, g6, by simp, ?_⟩
      cbv
      repeat (first | (rw [hser]; cbv))
      exact hQ _ _ trivial (hfin _ (by cbv))
    · obtain rfl := g9 rfl
      cbv
      refine hcal ⟨_, [], _, _, .inl ⟨rfl, by cbv⟩, hcG, by simp, ?_⟩
      cbv
      repeat (first | (rw [hcv2]; cbv))
      refine hcal ⟨[.ro Gp, .flat (.int .i64 mi)], [136], _, _, hands_deep ⟨deep_row (by simp) (by rfl) hGn hGf.read, .id rfl, trivial⟩ rfl (fun r hr => by cases hr), g1, by simp, ?_⟩
      cbv
      refine hcal ⟨_, [], _, _, .inl ⟨rfl, by cbv⟩, g2, by simp, ?_⟩
      cbv
      repeat (first | (rw [heqr]; cbv) | (rw [hcv2]; cbv) | (rw [e9]; cbv) | (rw [hser]; cbv))
      refine hcal ⟨_, [], _, _, .inl ⟨rfl, by cbv⟩, g3, by simp, ?_⟩
      cbv
      refine hcal ⟨_, [], _, _, .inl ⟨rfl, by cbv⟩, g4, by simp, ?_⟩
      cbv
      refine hcal ⟨_, [], _, _, .inl ⟨rfl, by cbv⟩, g6, by simp, ?_⟩
      cbv
      refine hcal ⟨_, [], _, _, .inl ⟨rfl, by cbv⟩, g7, by simp, ?_⟩
      cbv
      repeat (first | (rw [hser]; cbv))
      refine hcal ⟨_, [], _, _, .inl ⟨rfl, by cbv⟩, g5, by simp, ?_⟩
      cbv
      refine hcal ⟨_, [], _, _, .inl ⟨rfl, by cbv⟩, g6, by simp, ?_⟩
      cbv
      repeat (first | (rw [hser]; cbv))
      exact hQ _ _ trivial (hfin _ (by cbv))
end Go.Proofs.Ytagflbmonlaioaa.D
