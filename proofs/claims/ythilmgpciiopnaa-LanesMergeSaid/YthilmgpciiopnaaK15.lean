/- Rows of one's own, read by index; contracts: the law LanesOf. -/
import Derived.Test.YthilmgpciiopnaaK14
namespace Go.Proofs.Ythilmgpciiopnaa.K
set_option linter.unusedVariables false
set_option linter.unusedSimpArgs false
open Go G
set_option maxRecDepth 100000
set_option maxHeartbeats 4000000
theorem fn8 : Try.prog.funcs[8]? = some Try.f8 := by kernel_rfl
theorem cutRows_cons {ks l : List Nat} {T : Table} {k : Nat} {e : TypeId} {X : List (List AV)} {R : List (Option Row)} (hT : T k = some ⟨e, X⟩) (hX : ∀ c ∈ X, closedAll [] c = true) (h : cutRows ks T l = R) : cutRows ks T (k :: l) = some ⟨e, X⟩ :: R := by
  have h1 : closedEls ks X = true := by
    unfold closedEls
    exact List.all_eq_true.2 fun c hc => closed_ups c (hX c hc)
  have h2 : renEls (newName ks 0) X = X := by
    unfold renEls
    conv => rhs; rw [← List.map_id X]
    exact List.map_congr_left fun c hc => rens_nil _ c (hX c hc)
  simp only [cutRows, hT, h1, h2, if_true, h]
theorem own_ix {P : Program} {e : TypeId} {X : List (List AV)} {n sz : Nat} {i : Int} (hc : P.cellsOf e = sz) (h0 : 0 ≤ i) (h1 : i < n) (id : Nat) : ixSl P (some ⟨e, X⟩) id 0 n i sz = some (.ptr id i.toNat 0) := by
  simp only [ixSl, Option.bind_some]
  rw [if_pos ⟨h0, h1, hc⟩]
  simp
theorem own_cel {e : TypeId} {X : List (List AV)} {j off : Nat} {c : List AV} (hX : X[j]? = some c) (ho : off ≤ c.length) : ptrCells (some ⟨e, X⟩) j off = some (c.drop off) := by
  simp only [ptrCells, Option.bind_some, hX]
  rw [if_pos ho]
theorem dvb (t : TypeId) (b : Bool) : dvOf Try.prog .neq 4 (.flat (.bool b)) (.flat (.bool b)) = some (.flat (.bool false)) := by
  rw [dvOf_eq]
  intro x y
  cases b <;> kernel_rfl
theorem c9 : Try.prog.cellsOf 9 = 1 := by kernel_rfl
theorem c3 : Try.prog.cellsOf 3 = 1 := by kernel_rfl
theorem texts_at {l : List Tok} {i : Int} (h0 : 0 ≤ i) (h1 : i < l.length) : (strE (textsT l))[i.toNat]? = some [.flat (.string (tokAt l i).s)] := by
  have hl : i.toNat < l.length := by omega
  simp [strE, textsT, tokAt, List.getD, List.getElem?_eq_getElem hl]
theorem rules_at {l : List Tok} {i : Int} (h0 : 0 ≤ i) (h1 : i < l.length) : (intE (rulesT l))[i.toNat]? = some [.flat (.int .i64 (tokAt l i).r)] := by
  have hl : i.toNat < l.length := by omega
  simp [intE, rulesT, tokAt, List.getD, List.getElem?_eq_getElem hl]
theorem few_le {l : List Tok} (h : fewT l = true) : l.length ≤ 60 ∧ ∀ t ∈ l, t.s.size ≤ maxLen := by
  simp only [fewT, Bool.and_eq_true, decide_eq_true_eq, List.all_eq_true] at h
  have : (60 : Nat) ≤ maxLen := by decide
  exact ⟨by omega, fun t ht => by have := h.2 t ht; omega⟩
theorem texts_nil : textsT [] = [] := rfl
/-- A result that may be empty: what the call gives, either way. -/
def Res (P : Program) (f : FuncId) (args : List AV) (e : TypeId) (X : List (List AV)) : Prop :=
  (X = [] ∧ ACalls P f args (fun _ => .flat (.slice none 0 0)) (fun _ => [])) ∨ ∃ n : Nat, n ≠ 0 ∧ n = X.length ∧ ACalls P f args (fun k => .sl k 0 n) (fun _ => [⟨e, X⟩])
theorem res_of {P : Program} {f : FuncId} {args : List AV} {e : TypeId} {X : List (List AV)} {n : Nat} (hn : n = X.length) (h : ACalls P f args (fun k => slV k n) (fun _ => slR e X)) : Res P f args e X := by
  subst hn
  by_cases h0 : X.length = 0
  · refine .inl ⟨List.eq_nil_of_length_eq_zero h0, ?_⟩
    have e1 : (fun k => slV k X.length) = fun _ => AV.flat (.slice none 0 0) := by funext k; unfold slV; rw [if_pos h0]
    have e2 : slR e X = [] := by unfold slR; rw [if_pos h0]
    rw [e1, e2] at h
    exact h
  · refine .inr ⟨_, h0, rfl, ?_⟩
    have e1 : (fun k => slV k X.length) = fun k => AV.sl k 0 X.length := by funext k; unfold slV; rw [if_neg h0]
    have e2 : slR e X = [⟨e, X⟩] := by unfold slR; rw [if_neg h0]
    rw [e1, e2] at h
    exact h

theorem lanesOf_calls (ks : List Int) (l : List Tok) (kind : Int) : ACalls Try.prog 8 [.ro (intE ks), .ro (tokE l), .flat (.int .i64 kind)] (fun _ => .flat (.bool true)) (fun _ => []) := by
  refine acalls_sym tab_ok fn8 rfl rfl rfl (by kernel_rfl) ?_
  have hfin : ∀ st, resA Try.prog Try.f8 st = some (.flat (.bool true)) → G.Leaves Try.prog Try.f8 (fun _ => .flat (.bool true)) (fun _ => []) st := fun st h => G.Leaves.plain h rfl
  have hcF := few_calls l
  have hcA := awake_calls
  have hcT := fun hs => res_of (by simp [strE, textsT]) (texts_calls l hs)
  have hcR := fun hs => res_of (by simp [intE, rulesT]) (rules_calls l hs)
  have hcO := fun hs => res_of (by simp [tokE]) (of_calls ks l kind hs)
  have hcO2 := fun hs => res_of (by simp [tokE]) (refOf_calls ks l kind hs)
  have hcS := same_calls (ofK ks kind l) (ofK ks kind l)
  rw [sameT_iff.2 rfl] at hcS
  have hfl := flat_tok (ofK ks kind l)
  have hlen0 : (ofK ks kind l).length ≤ l.length := List.length_filter_le _ _
  have hfew := @few_le l
  generalize hf0 : fewT l = F at hcF hfew
  have hKs : ∃ K, K = intE ks := ⟨_, rfl⟩
  obtain ⟨K, hK⟩ := hKs
  obtain ⟨X, hX⟩ : ∃ X, X = tokE l := ⟨_, rfl⟩
  obtain ⟨O, hO⟩ : ∃ O, O = tokE (ofK ks kind l) := ⟨_, rfl⟩
  obtain ⟨Z, hZ⟩ : ∃ Z, Z = strE (textsT l) := ⟨_, rfl⟩
  obtain ⟨R, hR⟩ : ∃ R, R = intE (rulesT l) := ⟨_, rfl⟩
  have hZl : Z.length = l.length := by rw [hZ]; simp [strE, textsT]
  have hRl : R.length = l.length := by rw [hR]; simp [intE, rulesT]
  have hOl : O.length = (ofK ks kind l).length := by rw [hO]; simp [tokE]
  rw [← hO] at hcO hcO2 hcS hfl
  rw [← hK] at hcO hcO2 ⊢
  rw [← hX] at hcF hcT hcR hcO hcO2 ⊢
  rw [← hZ] at hcT
  rw [← hR] at hcR
  rintro ⟨lt, le, eq, se, ar, dv, una, conv, len, sln, nat, nth, ixs, cel, sto, app, cpy, slc, mak, ixv, oth, dk, ib, call⟩ hS hm Q hQ
  obtain ⟨hlt, hle, heq, hse, har, hdv, huna, hconv, hlen, hsln, hnat, hnth, hixs, hcel, hsto, happ, hcpy, hslc, hmak, hixv, hoth, hdk, hib, hcall⟩ := Sym.mk.inj hS
  clear hS
  have hbox : ∀ e c off, cel (some ⟨e, [c]⟩) 0 off = if off ≤ c.length then some (c.drop off) else none := fun e c off => by rw [hcel]; rfl
  have hsbox : ∀ e c off sz y, sto (some ⟨e, [c]⟩) 0 off sz y = if y.cells.length = sz ∧ off + sz ≤ c.length ∧ y.cells.all AV.one = true then some ⟨e, [spl c off y.cells]⟩ else none := fun e c off sz y => by rw [hsto]; rfl
  have hcal : ∀ {f args T base K}, CallK Try.prog f args T base K → call f args T base K := fun h => by rw [hcall]; exact h
  have hn : len X = l.length := by rw [hlen, hX, len_tok]
  have hnz : ∀ m : Nat, m = l.length → eq (nat m) (len X) = true := fun m hm => by rw [heq, hnat, hn, hm]; exact decide_eq_true rfl
  have hnz0 : l.length = 0 → eq 0 (len X) = true := fun hm => by rw [heq, hn, hm]; rfl
  have hlz0 : l.length = 0 → lt 0 (len X) = false := fun hm => by rw [hlt, hn, hm]; rfl
  have heqr : ∀ a, eq a a = true := fun a => by rw [heq]; exact decide_eq_true rfl
  have hser : ∀ a, se a a = true := fun a => by rw [hse]; exact beq_self_eq_true _
  have hdvb : ∀ b, dv .neq 4 (.flat (.bool b)) (.flat (.bool b)) = some (.flat (.bool false)) := fun b => by rw [hdv]; exact dvb 4 b
  cbv
  refine hcal ⟨_, [], _, _, .inl ⟨rfl, by cbv⟩, hcA, by simp, ?_⟩
  cbv
  refine hcal ⟨_, [], _, _, .inl ⟨rfl, by cbv⟩, hcF, by simp, ?_⟩
  cbv
  cases F
  · cbv
    exact hQ _ _ trivial (hfin _ (by cbv))
  cbv
  cases hk60 : lt 60 (len K)
  rotate_left
  · cbv
    exact hQ _ _ trivial (hfin _ (by cbv))
  cbv
  obtain ⟨hl60, hby⟩ := hfew rfl
  have hs : l.length ≤ 1000 := Nat.le_trans hl60 (by decide)
  replace hcT := hcT hs
  replace hcR := hcR hs
  replace hcO := hcO hs
  replace hcO2 := hcO2 hs
  replace hcS := hcS (Nat.le_trans hlen0 (Nat.le_trans hl60 (by decide)))
  rcases hcT with ⟨hZ0, hcT⟩ | ⟨m, hm0, hml, hcT⟩
  · rcases hcR with ⟨hR0, hcR⟩ | ⟨m2, hm20, hml2, hcR⟩
    rotate_left
    · exfalso
      rw [hZ0] at hZl
      apply hm20
      rw [hml2, hRl, ← hZl]; rfl
    have hl0 : l.length = 0 := by rw [← hZl, hZ0]; rfl
    rcases hcO with ⟨hO0, hcO⟩ | ⟨m3, hm30, hml3, hcO⟩
    rotate_left
    · exfalso
      apply hm30
      rw [hml3, hOl]; omega
    rcases hcO2 with ⟨hO0', hcO2⟩ | ⟨m3, hm30, hml3, hcO2⟩
    rotate_left
    · exfalso
      apply hm30
      rw [hml3, hOl]; omega
    rw [hO0] at hcS
    refine hcal ⟨_, [], _, _, .inl ⟨rfl, by cbv⟩, hcT, by simp, ?_⟩
    cbv
    refine hcal ⟨_, [], _, _, .inl ⟨rfl, by cbv⟩, hcR, by simp, ?_⟩
    cbv
    rw [hnz0 hl0]; cbv
    rw [hnz0 hl0]; cbv
    refine hcal ⟨_, [], _, _, .inl ⟨rfl, by cbv⟩, hcO, by simp, ?_⟩
    cbv
    refine hcal ⟨_, [], _, _, .inl ⟨rfl, by cbv⟩, hcO2, by simp, ?_⟩
    cbv
    refine hcal ⟨[.ro [], .ro []], [], _, _, hands_deep ⟨.nil, .nil, trivial⟩ rfl (fun r hr => by cases hr), hcS, by simp, ?_⟩
    cbv
    refine MW_loop hm [] [1, 9] 10 List.nodup_nil (fun k st => st = stOf [.dead, .ro X, .dead, .dead, .dead, .dead, .dead, .dead, .dead, .flat (.int .i64 0)] [] 0) 0 ?_ ?_
    · exact cut_eq (by cbv) (by cbv)
    · rintro k st rfl
      cbv
      rw [hlz0 hl0]; cbv
      exact hQ _ _ trivial (hfin _ (by cbv))
  · have hl0 : l.length ≠ 0 := by rw [← hZl, ← hml]; exact hm0
    rcases hcR with ⟨hR0, hcR⟩ | ⟨m2, hm20, hml2, hcR⟩
    · exfalso
      apply hl0
      rw [← hRl, hR0]; rfl
    have hlm : m = l.length := by rw [hml, hZl]
    obtain rfl : m2 = m := by rw [hml2, hRl, hlm]
    refine hcal ⟨_, [], _, _, .inl ⟨rfl, by cbv⟩, hcT, by simp, ?_⟩
    cbv
    refine hcal ⟨_, [], _, _, .inl ⟨rfl, by cbv⟩, hcR, by simp, ?_⟩
    cbv
    rw [hnz _ hlm]; cbv
    rw [hnz _ hlm]; cbv
    rcases hcO with ⟨hO0, hcO⟩ | ⟨m3, hm30, hml3, hcO⟩
    · rcases hcO2 with ⟨hO0', hcO2⟩ | ⟨m4, hm40, hml4, hcO2⟩
      rotate_left
      · exfalso
        apply hm40
        rw [hml4, hO0]; rfl
      refine hcal ⟨_, [], _, _, .inl ⟨rfl, by cbv⟩, hcO, by simp, ?_⟩
      cbv
      refine hcal ⟨_, [], _, _, .inl ⟨rfl, by cbv⟩, hcO2, by simp, ?_⟩
      cbv
      rw [hO0] at hcS
      refine hcal ⟨[.ro [], .ro []], [], _, _, hands_deep ⟨.nil, .nil, trivial⟩ rfl (fun r hr => by cases hr), hcS, by simp, ?_⟩
      cbv
      refine MW_loop hm [96, 112] [0, 1, 7, 8, 9] 10 (by simp) (fun k st => ∃ i : Int, At (fun _ => True) l i ∧ k = left l.length i ∧ st = stOf [.ro K, .ro X, .dead, .dead, .dead, .dead, .dead, .sl 0 0 m2, .sl 1 0 m2, .flat (.int .i64 i)] [some ⟨9, Z⟩, some ⟨3, R⟩] 2) (left l.length 0) ?_ ?_
      · refine ⟨0, at_zero l, rfl, cut_eq (by cbv) (cutRows_cons (by rfl) ?_ (cutRows_cons (by rfl) ?_ rfl))⟩
        · rw [hZ]; exact strE_closed
        · rw [hR]; exact intE_closed
      · rintro k st ⟨i, hi, hk, rfl⟩
        cbv
        cases hc : lt i (len X)
        · cbv
          exact hQ _ _ trivial (hfin _ (by cbv))
        · have hc' : decide (i < (l.length : Int)) = true := by rw [hlt, hn] at hc; exact hc
          cbv
          obtain ⟨_, hi0, hi1⟩ := at_lt hi hc'
          obtain ⟨q1, q2⟩ := at_step hi hc' trivial
          have hix : nth X i 3 = some (.rp (tokC (tokAt l i))) := by rw [hnth, hX]; exact nth_tok hi hc'
          have hadd : ar .add .i64 i 1 = i + 1 := by rw [har]; exact at_add (Nat.le_trans hs (by decide)) hi hc'
          have hiZ : ∀ id, ixs (some ⟨9, Z⟩) id 0 m2 i 1 = some (.ptr id i.toNat 0) := fun id => by rw [hixs]; exact own_ix c9 hi0 (hlm ▸ hi1) id
          have hiR : ∀ id, ixs (some ⟨3, R⟩) id 0 m2 i 1 = some (.ptr id i.toNat 0) := fun id => by rw [hixs]; exact own_ix c3 hi0 (hlm ▸ hi1) id
          have hcZ : cel (some ⟨9, Z⟩) i.toNat 0 = some [.flat (.string (tokAt l i).s)] := by rw [hcel]; exact own_cel (by rw [hZ]; exact texts_at hi0 hi1) (Nat.zero_le _)
          have hcR : cel (some ⟨3, R⟩) i.toNat 0 = some [.flat (.int .i64 (tokAt l i).r)] := by rw [hcel]; exact own_cel (by rw [hR]; exact rules_at hi0 hi1) (Nat.zero_le _)
          have hbt := hby _ (tok_mem hi0 hi1)
          generalize ht : tokAt l i = t at hix hcZ hcR hbt
          generalize i.toNat = j at hiZ hiR hcZ hcR
          obtain ⟨tr, ts, ta⟩ := t
          dsimp only at hcZ hcR hbt
          have hcK := kind_calls ks tr ts ta
          have hcK2 := refKind_calls ks tr ts ta
          have hcB := Breaks_calls ts hbt
          have hcB2 := refBreaks_calls ts hbt
          rw [← hK] at hcK hcK2
          generalize kindOf ks tr = q at hcK hcK2
          generalize nl ts = w at hcB hcB2
          refine ⟨by rw [hdk]; kernel_rfl, ?_⟩
          repeat (first | (rw [hiZ]; cbv) | (rw [hcZ]; cbv) | (rw [hix]; cbv) | (rw [hser]; cbv) | (rw [hiR]; cbv) | (rw [hcR]; cbv) | (rw [heqr]; cbv))
          refine hcal ⟨_, [], _, _, .inl ⟨rfl, by cbv⟩, hcK, by simp, ?_⟩
          cbv
          repeat (first | (rw [hix]; cbv))
          refine hcal ⟨_, [], _, _, .inl ⟨rfl, by cbv⟩, hcK2, by simp, ?_⟩
          cbv
          repeat (first | (rw [hiZ]; cbv) | (rw [hcZ]; cbv) | (rw [hix]; cbv) | (rw [heqr]; cbv))
          refine hcal ⟨_, [], _, _, .inl ⟨rfl, by cbv⟩, hcB, by simp, ?_⟩
          cbv
          repeat (first | (rw [hiZ]; cbv) | (rw [hcZ]; cbv))
          refine hcal ⟨_, [], _, _, .inl ⟨rfl, by cbv⟩, hcB2, by simp, ?_⟩
          cbv
          rw [hdvb]; cbv
          refine ⟨by rw [hib]; kernel_rfl, ?_⟩
          cbv
          rw [hadd]
          generalize i + 1 = i2 at q1 q2 ⊢
          refine ⟨[0, 1], [0, 1, 7, 8, 9], 10, left l.length i2, hk ▸ q2, by simp, i2, q1, rfl, cut_eq (by cbv) (cutRows_cons (by rfl) ?_ (cutRows_cons (by rfl) ?_ rfl))⟩
          · rw [hZ]; exact strE_closed
          · rw [hR]; exact intE_closed
    · rcases hcO2 with ⟨hO0', hcO2⟩ | ⟨m4, hm40, hml4, hcO2⟩
      · exfalso
        apply hm30
        rw [hml3, hO0']; rfl
      refine hcal ⟨_, [], _, _, .inl ⟨rfl, by cbv⟩, hcO, by simp, ?_⟩
      cbv
      refine hcal ⟨_, [], _, _, .inl ⟨rfl, by cbv⟩, hcO2, by simp, ?_⟩
      cbv
      refine hcal ⟨[.ro O, .ro O], [264, 296], _, _, hands_deep ⟨deep_flat (by simp) (by rfl) hml3 hfl, deep_flat (by simp) (by rfl) hml4 hfl, trivial⟩ rfl (fun r hr => by cases hr), hcS, by simp, ?_⟩
      cbv
      refine MW_loop hm [96, 112] [0, 1, 7, 8, 9] 10 (by simp) (fun k st => ∃ i : Int, At (fun _ => True) l i ∧ k = left l.length i ∧ st = stOf [.ro K, .ro X, .dead, .dead, .dead, .dead, .dead, .sl 0 0 m2, .sl 1 0 m2, .flat (.int .i64 i)] [some ⟨9, Z⟩, some ⟨3, R⟩] 2) (left l.length 0) ?_ ?_
      · refine ⟨0, at_zero l, rfl, cut_eq (by cbv) (cutRows_cons (by rfl) ?_ (cutRows_cons (by rfl) ?_ rfl))⟩
        · rw [hZ]; exact strE_closed
        · rw [hR]; exact intE_closed
      · rintro k st ⟨i, hi, hk, rfl⟩
        cbv
        cases hc : lt i (len X)
        · cbv
          exact hQ _ _ trivial (hfin _ (by cbv))
        · have hc' : decide (i < (l.length : Int)) = true := by rw [hlt, hn] at hc; exact hc
          cbv
          obtain ⟨_, hi0, hi1⟩ := at_lt hi hc'
          obtain ⟨q1, q2⟩ := at_step hi hc' trivial
          have hix : nth X i 3 = some (.rp (tokC (tokAt l i))) := by rw [hnth, hX]; exact nth_tok hi hc'
          have hadd : ar .add .i64 i 1 = i + 1 := by rw [har]; exact at_add (Nat.le_trans hs (by decide)) hi hc'
          have hiZ : ∀ id, ixs (some ⟨9, Z⟩) id 0 m2 i 1 = some (.ptr id i.toNat 0) := fun id => by rw [hixs]; exact own_ix c9 hi0 (hlm ▸ hi1) id
          have hiR : ∀ id, ixs (some ⟨3, R⟩) id 0 m2 i 1 = some (.ptr id i.toNat 0) := fun id => by rw [hixs]; exact own_ix c3 hi0 (hlm ▸ hi1) id
          have hcZ : cel (some ⟨9, Z⟩) i.toNat 0 = some [.flat (.string (tokAt l i).s)] := by rw [hcel]; exact own_cel (by rw [hZ]; exact texts_at hi0 hi1) (Nat.zero_le _)
          have hcR : cel (some ⟨3, R⟩) i.toNat 0 = some [.flat (.int .i64 (tokAt l i).r)] := by rw [hcel]; exact own_cel (by rw [hR]; exact rules_at hi0 hi1) (Nat.zero_le _)
          have hbt := hby _ (tok_mem hi0 hi1)
          generalize ht : tokAt l i = t at hix hcZ hcR hbt
          generalize i.toNat = j at hiZ hiR hcZ hcR
          obtain ⟨tr, ts, ta⟩ := t
          dsimp only at hcZ hcR hbt
          have hcK := kind_calls ks tr ts ta
          have hcK2 := refKind_calls ks tr ts ta
          have hcB := Breaks_calls ts hbt
          have hcB2 := refBreaks_calls ts hbt
          rw [← hK] at hcK hcK2
          generalize kindOf ks tr = q at hcK hcK2
          generalize nl ts = w at hcB hcB2
          refine ⟨by rw [hdk]; kernel_rfl, ?_⟩
          repeat (first | (rw [hiZ]; cbv) | (rw [hcZ]; cbv) | (rw [hix]; cbv) | (rw [hser]; cbv) | (rw [hiR]; cbv) | (rw [hcR]; cbv) | (rw [heqr]; cbv))
          refine hcal ⟨_, [], _, _, .inl ⟨rfl, by cbv⟩, hcK, by simp, ?_⟩
          cbv
          repeat (first | (rw [hix]; cbv))
          refine hcal ⟨_, [], _, _, .inl ⟨rfl, by cbv⟩, hcK2, by simp, ?_⟩
          cbv
          repeat (first | (rw [hiZ]; cbv) | (rw [hcZ]; cbv) | (rw [hix]; cbv) | (rw [heqr]; cbv))
          refine hcal ⟨_, [], _, _, .inl ⟨rfl, by cbv⟩, hcB, by simp, ?_⟩
          cbv
          repeat (first | (rw [hiZ]; cbv) | (rw [hcZ]; cbv))
          refine hcal ⟨_, [], _, _, .inl ⟨rfl, by cbv⟩, hcB2, by simp, ?_⟩
          cbv
          rw [hdvb]; cbv
          refine ⟨by rw [hib]; kernel_rfl, ?_⟩
          cbv
          rw [hadd]
          generalize i + 1 = i2 at q1 q2 ⊢
          refine ⟨[0, 1], [0, 1, 7, 8, 9], 10, left l.length i2, hk ▸ q2, by simp, i2, q1, rfl, cut_eq (by cbv) (cutRows_cons (by rfl) ?_ (cutRows_cons (by rfl) ?_ rfl))⟩
          · rw [hZ]; exact strE_closed
          · rw [hR]; exact intE_closed
end Go.Proofs.Ythilmgpciiopnaa.K
