/- Contracts: lanes.Of. -/
import Derived.Test.YthilmgpciiopnaaK5
namespace Go.Proofs.Ythilmgpciiopnaa.K
set_option linter.unusedVariables false
set_option linter.unusedSimpArgs false
open Go G
set_option maxRecDepth 100000
theorem fn37 : Try.prog.funcs[37]? = some Try.f37 := by kernel_rfl
theorem z34 : tinfo Try.prog 34 = some (some (.agg #[.int .i64 0, .string ⟨#[]⟩, .int .i64 0]), 3, 32) := by kernel_rfl
theorem u28 : Try.prog.underlying 28 = some (.slice 34) := by kernel_rfl
theorem c34 : Try.prog.cellsOf 34 = 3 := by kernel_rfl
theorem app34_nil {T : Table} {id k : Nat} {c : List AV} (hT : T k = some ⟨34, [c]⟩) (hc : c.length = 3) :
    evAppend Try.prog T id 28 28 (.flat (.slice none 0 0)) (.sl k 0 1) = some (.sl id 0 1, T.set id (some ⟨34, [c]⟩)) := by
  have hm : (1 : Nat) ≤ maxLen := by decide
  simp only [evAppend, u28, z34, srcT, srcFit, hT, c34, srcEls, Option.bind_some]
  rw [if_pos (by simp [Value.cells])]
  simp [hc, hm]
theorem app34_tip {T : Table} {id k0 k n n' : Nat} {X Y : List (List AV)} {c : List AV} (hT0 : T k0 = some ⟨34, X⟩) (hT : T k = some ⟨34, [c]⟩) (hc : c.length = 3) (hn : n = X.length) (hn' : n' = n + 1) (hY : Y = X ++ [c]) (hb : n' ≤ 1000000) :
    evAppend Try.prog T id 28 28 (.sl k0 0 n) (.sl k 0 1) = some (.sl id 0 n', (T.set k0 none).set id (some ⟨34, Y⟩)) := by
  have hm : (1000000 : Nat) ≤ maxLen := by decide
  subst hn' hY hn
  simp only [evAppend, u28, z34, srcT, srcFit, hT, c34, srcEls, Option.bind_some, hT0]
  rw [if_pos (by simp [Value.cells])]
  have h1 : (X.length + 1) * 32 ≤ 140737488355328 := by omega
  have h2 : X.length + 1 ≤ maxLen := by omega
  simp [hc, h1, h2]

theorem cutRows1 {T : Table} {k : Nat} {e : TypeId} {X : List (List AV)} (hT : T k = some ⟨e, X⟩) (hX : ∀ c ∈ X, closedAll [] c = true) : cutRows [k] T [k] = [some ⟨e, X⟩] := by
  have h1 : closedEls [k] X = true := by
    unfold closedEls
    exact List.all_eq_true.2 fun c hc => closed_ups c (hX c hc)
  have h2 : renEls (newName [k] 0) X = X := by
    unfold renEls
    conv => rhs; rw [← List.map_id X]
    exact List.map_congr_left fun c hc => rens_nil _ c (hX c hc)
  simp only [cutRows, hT, h1, h2, if_true]
theorem tok_closed {l : List Tok} : ∀ c ∈ tokE l, closedAll [] c = true := by
  intro c hc
  obtain ⟨t, _, rfl⟩ := List.mem_map.1 hc
  rfl
/-- Those of a kind. -/
def ofK (ks : List Int) (kind : Int) (l : List Tok) : List Tok := l.filter fun t => decide (kindOf ks t.r = kind)
def slV (k n : Nat) : AV := if n = 0 then .flat (.slice none 0 0) else .sl k 0 n
def slR (e : TypeId) (X : List (List AV)) : List Row := if X.length = 0 then [] else [⟨e, X⟩]

theorem of_end {ks : List Int} {kind : Int} {l : List Tok} {i : Int} (h : At (fun _ => True) l i) (hc : decide (i < (l.length : Int)) = false) : ofK ks kind (l.take i.toNat) = ofK ks kind l := by
  obtain ⟨h0, h1, _⟩ := h
  simp only [decide_eq_false_iff_not] at hc
  rw [List.take_of_length_le (by omega)]
theorem of_next {ks : List Int} {kind : Int} {l : List Tok} {i : Int} (h : At (fun _ => True) l i) (hc : decide (i < (l.length : Int)) = true) :
    ofK ks kind (l.take (i + 1).toNat) = ofK ks kind (l.take i.toNat) ++ if kindOf ks (tokAt l i).r = kind then [tokAt l i] else [] := by
  obtain ⟨hl, h0, h1⟩ := at_lt h hc
  have e : (i + 1).toNat = i.toNat + 1 := by omega
  have hg : tokAt l i = l[i.toNat] := by simp [tokAt, List.getD, hl]
  rw [e, List.take_add_one, ofK, List.filter_append, List.getElem?_eq_getElem hl, hg]
  simp only [ofK, Option.toList_some, List.filter_cons, List.filter_nil]
  congr 1
  by_cases hk : kindOf ks l[i.toNat].r = kind <;> simp [hk]
theorem of_len {ks : List Int} {kind : Int} {l : List Tok} {i : Int} : (ofK ks kind (l.take i.toNat)).length ≤ l.length := by
  refine Nat.le_trans (List.length_filter_le _ _) ?_
  rw [List.length_take]; omega
theorem tokE_app (a b : List Tok) : tokE (a ++ b) = tokE a ++ tokE b := by simp [tokE]
theorem tokE_len (a : List Tok) : (tokE a).length = a.length := by simp [tokE]

theorem of_calls (ks : List Int) (l : List Tok) (kind : Int) (hs : l.length ≤ 1000) : ACalls Try.prog 37 [.ro (intE ks), .ro (tokE l), .flat (.int .i64 kind)] (fun n => slV n (ofK ks kind l).length) (fun _ => slR 34 (tokE (ofK ks kind l))) := by
  refine acalls_sym tab_ok fn37 rfl rfl rfl (by kernel_rfl) ?_
  generalize hKs : intE ks = K
  generalize hX : tokE l = X
  rintro ⟨lt, le, eq, se, ar, dv, una, conv, len, sln, nat, nth, ixs, cel, sto, app, cpy, slc, mak, ixv, oth, dk, ib, call⟩ hS hm Q hQ
  obtain ⟨hlt, hle, heq, hse, har, hdv, huna, hconv, hlen, hsln, hnat, hnth, hixs, hcel, hsto, happ, hcpy, hslc, hmak, hixv, hoth, hdk, hib, hcall⟩ := Sym.mk.inj hS
  clear hS
  have hn : len X = l.length := by rw [hlen, ← hX, len_tok]
  have hbox : ∀ e c off, cel (some ⟨e, [c]⟩) 0 off = if off ≤ c.length then some (c.drop off) else none := fun e c off => by rw [hcel]; rfl
  have hsbox : ∀ e c off sz y, sto (some ⟨e, [c]⟩) 0 off sz y = if y.cells.length = sz ∧ off + sz ≤ c.length ∧ y.cells.all AV.one = true then some ⟨e, [spl c off y.cells]⟩ else none := fun e c off sz y => by rw [hsto]; rfl
  cbv
  refine MW_loop hm [] [0, 2, 7, 10, 11, 12] 13 List.nodup_nil (fun k st => ∃ i : Int, At (fun _ => True) l i ∧ k = left l.length i ∧
    ((ofK ks kind (l.take i.toNat) = [] ∧ st = stOf [.ro K, .dead, .flat (.int .i64 kind), .dead, .dead, .dead, .dead, .flat (.slice none 0 0), .dead, .dead, .ro X, .flat (.int .i64 (len X)), .flat (.int .i64 i)] [] 0) ∨
     ∃ (n : Nat) (Y : List (List AV)), n ≠ 0 ∧ Y = tokE (ofK ks kind (l.take i.toNat)) ∧ n = Y.length ∧ st = stOf [.ro K, .dead, .flat (.int .i64 kind), .dead, .dead, .dead, .dead, .sl 0 0 n, .dead, .dead, .ro X, .flat (.int .i64 (len X)), .flat (.int .i64 i)] [some ⟨34, Y⟩] 1)) (left l.length 0) ?_ ?_
  · exact ⟨0, at_zero l, rfl, .inl ⟨rfl, cut_eq (by cbv) (by cbv)⟩⟩
  · rintro k st ⟨i, hi, hk, ⟨h0, rfl⟩ | ⟨n, Y, hn0, hY, hnY, rfl⟩⟩
    · cbv
      cases hc : lt i (len X)
      · have hc' : decide (i < (l.length : Int)) = false := by rw [hlt, hn] at hc; exact hc
        cbv
        have hres := (of_end (ks := ks) (kind := kind) hi hc')
        rw [h0] at hres
        refine hQ _ _ trivial ?_
        rw [← hres]
        exact G.Leaves.plain (x := .flat (.slice none 0 0)) (by cbv) rfl
      · have hc' : decide (i < (l.length : Int)) = true := by rw [hlt, hn] at hc; exact hc
        cbv
        have hix : nth X i 3 = some (.rp (tokC (tokAt l i))) := by rw [hnth, ← hX]; exact nth_tok hi hc'
        obtain ⟨q1, q2⟩ := at_step hi hc' trivial
        have hadd : ar .add .i64 i 1 = i + 1 := by rw [har]; exact at_add (Nat.le_trans hs (by decide)) hi hc'
        generalize ht : tokAt l i = t at hix
        obtain ⟨tr, ts, ta⟩ := t
        have hcallK := kind_calls ks tr ts ta
        generalize hq : kindOf ks tr = q at hcallK
        rw [hKs] at hcallK
        rw [hix]; cbv
        rw [hsbox]; cbv
        rw [hbox]; cbv
        rw [hcall]
        refine ⟨_, [], _, _, .inl ⟨rfl, by cbv⟩, hcallK, by simp, ?_⟩
        cbv
        cases he : eq q kind
        · have hek : ¬ q = kind := by rw [heq] at he; exact of_decide_eq_false he
          cbv
          rw [hadd]
          refine ⟨[], [0, 2, 7, 10, 11, 12], 13, left l.length (i + 1), hk ▸ q2, List.nodup_nil, i + 1, q1, rfl, .inl ⟨?_, cut_eq (by cbv) (by cbv)⟩⟩
          rw [of_next hi hc', h0, ht, if_neg (by rw [hq]; exact hek)]; rfl
        · have hek : q = kind := by rw [heq] at he; exact of_decide_eq_true he
          cbv
          rw [hbox]; cbv
          rw [happ, app34_nil (by rfl) rfl]; cbv
          rw [hadd]
          refine ⟨[104], [0, 2, 7, 10, 11, 12], 13, left l.length (i + 1), hk ▸ q2, by simp, i + 1, q1, rfl, .inr ⟨1, [tokC ⟨tr, ts, ta⟩], by simp, ?_, rfl, cut_eq (by cbv) (cutRows1 (by rfl) (tok_closed (l := [⟨tr, ts, ta⟩])))⟩⟩
          rw [of_next hi hc', h0, ht, if_pos (by rw [hq]; exact hek), List.nil_append]; rfl
    · cbv
      cases hc : lt i (len X)
      · have hc' : decide (i < (l.length : Int)) = false := by rw [hlt, hn] at hc; exact hc
        cbv
        have hres := (of_end (ks := ks) (kind := kind) hi hc')
        refine hQ _ _ trivial ?_
        rw [← hres]
        have e1 : (ofK ks kind (l.take i.toNat)).length = n := by rw [hnY, hY, tokE_len]
        rw [e1, ← hY]
        have e2 : slR 34 Y = [⟨34, Y⟩] := by unfold slR; rw [if_neg (by rw [← hnY]; exact hn0)]
        have e3 : (fun m => slV m n) = fun m => AV.sl m 0 n := by funext m; unfold slV; rw [if_neg hn0]
        rw [e2, e3]
        exact G.Leaves.row (k := 0) (r := ⟨34, Y⟩) (by cbv) (by rfl) (fun e he => by
          rw [hY] at he
          obtain ⟨t, _, rfl⟩ := List.mem_map.1 he
          rfl)
      · have hc' : decide (i < (l.length : Int)) = true := by rw [hlt, hn] at hc; exact hc
        cbv
        have hix : nth X i 3 = some (.rp (tokC (tokAt l i))) := by rw [hnth, ← hX]; exact nth_tok hi hc'
        obtain ⟨q1, q2⟩ := at_step hi hc' trivial
        have hadd : ar .add .i64 i 1 = i + 1 := by rw [har]; exact at_add (Nat.le_trans hs (by decide)) hi hc'
        generalize ht : tokAt l i = t at hix
        obtain ⟨tr, ts, ta⟩ := t
        have hcallK := kind_calls ks tr ts ta
        generalize hq : kindOf ks tr = q at hcallK
        rw [hKs] at hcallK
        rw [hix]; cbv
        rw [hsbox]; cbv
        rw [hbox]; cbv
        rw [hcall]
        refine ⟨_, [], _, _, .inl ⟨rfl, by cbv⟩, hcallK, by simp, ?_⟩
        cbv
        cases he : eq q kind
        · have hek : ¬ q = kind := by rw [heq] at he; exact of_decide_eq_false he
          cbv
          rw [hadd]
          refine ⟨[0], [0, 2, 7, 10, 11, 12], 13, left l.length (i + 1), hk ▸ q2, by simp, i + 1, q1, rfl, .inr ⟨n, Y, hn0, ?_, hnY, cut_eq (by cbv) (cutRows1 (by rfl) (by rw [hY]; exact tok_closed))⟩⟩
          rw [of_next hi hc', ht, if_neg (by rw [hq]; exact hek), List.append_nil]; exact hY
        · have hek : q = kind := by rw [heq] at he; exact of_decide_eq_true he
          cbv
          rw [hbox]; cbv
          obtain ⟨n', hn'⟩ : ∃ n', n' = n + 1 := ⟨_, rfl⟩
          obtain ⟨Y', hY'⟩ : ∃ Y', Y' = Y ++ [tokC ⟨tr, ts, ta⟩] := ⟨_, rfl⟩
          have hle : n' ≤ 1000000 := by
            have := of_len (ks := ks) (kind := kind) (l := l) (i := i)
            have e1 : (ofK ks kind (l.take i.toNat)).length = n := by rw [hnY, hY, tokE_len]
            omega
          rw [happ, app34_tip (X := Y) (Y := Y') (n' := n') (by rfl) (by rfl) rfl hnY hn' hY' hle]; cbv
          rw [hadd]
          refine ⟨[105], [0, 2, 7, 10, 11, 12], 13, left l.length (i + 1), hk ▸ q2, by simp, i + 1, q1, rfl, .inr ⟨n', Y', by omega, ?_, by rw [hY', hn', hnY]; simp, cut_eq (by cbv) (cutRows1 (by rfl) (by rw [hY', hY, show [tokC ⟨tr, ts, ta⟩] = tokE [⟨tr, ts, ta⟩] from rfl, ← tokE_app]; exact tok_closed))⟩⟩
          rw [of_next hi hc', ht, if_pos (by rw [hq]; exact hek), tokE_app, ← hY, hY']; rfl
end Go.Proofs.Ythilmgpciiopnaa.K
