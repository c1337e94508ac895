/- Contracts: lanes.Rules. -/
import Derived.Test.YthilmgpciiopnaaK9
namespace Go.Proofs.Ythilmgpciiopnaa.K
set_option linter.unusedVariables false
set_option linter.unusedSimpArgs false
open Go G
set_option maxRecDepth 100000
theorem fn36 : Try.prog.funcs[36]? = some Try.f36 := by kernel_rfl
theorem intE_closed {l : List Int} : ∀ c ∈ intE l, closedAll [] c = true := by
  intro c hc
  obtain ⟨t, _, rfl⟩ := List.mem_map.1 hc
  rfl
theorem intE_app (a b : List Int) : intE (a ++ b) = intE a ++ intE b := by simp [intE]
def rulesT (l : List Tok) : List Int := l.map (·.r)
theorem rules_next {l : List Tok} {i : Int} (h : At (fun _ => True) l i) (hc : decide (i < (l.length : Int)) = true) : rulesT (l.take (i + 1).toNat) = rulesT (l.take i.toNat) ++ [(tokAt l i).r] := by
  obtain ⟨hl, h0, h1⟩ := at_lt h hc
  have e : (i + 1).toNat = i.toNat + 1 := by omega
  have hg : tokAt l i = l[i.toNat] := by simp [tokAt, List.getD, hl]
  rw [e, List.take_add_one, List.getElem?_eq_getElem hl, hg, rulesT, List.map_append]
  rfl
theorem rules_end {l : List Tok} {i : Int} (h : At (fun _ => True) l i) (hc : decide (i < (l.length : Int)) = false) : rulesT (l.take i.toNat) = rulesT l := by
  obtain ⟨h0, h1, _⟩ := h
  simp only [decide_eq_false_iff_not] at hc
  rw [List.take_of_length_le (by omega)]
theorem rules_len {l : List Tok} {i : Int} : (rulesT (l.take i.toNat)).length ≤ l.length := by
  simp [rulesT]; omega

theorem rules_calls (l : List Tok) (hs : l.length ≤ 1000) : ACalls Try.prog 36 [.ro (tokE l)] (fun n => slV n (rulesT l).length) (fun _ => slR 3 (intE (rulesT l))) := by
  refine acalls_sym tab_ok fn36 rfl rfl rfl (by kernel_rfl) ?_
  generalize hX : tokE l = X
  rintro ⟨lt, le, eq, se, ar, dv, una, conv, len, sln, nat, nth, ixs, cel, sto, app, cpy, slc, mak, ixv, oth, dk, ib, call⟩ hS hm Q hQ
  obtain ⟨hlt, hle, heq, hse, har, hdv, huna, hconv, hlen, hsln, hnat, hnth, hixs, hcel, hsto, happ, hcpy, hslc, hmak, hixv, hoth, hdk, hib, hcall⟩ := Sym.mk.inj hS
  clear hS
  have hn : len X = l.length := by rw [hlen, ← hX, len_tok]
  have hbox : ∀ e c off, cel (some ⟨e, [c]⟩) 0 off = if off ≤ c.length then some (c.drop off) else none := fun e c off => by rw [hcel]; rfl
  have hsbox : ∀ e c off sz y, sto (some ⟨e, [c]⟩) 0 off sz y = if y.cells.length = sz ∧ off + sz ≤ c.length ∧ y.cells.all AV.one = true then some ⟨e, [spl c off y.cells]⟩ else none := fun e c off sz y => by rw [hsto]; rfl
  cbv
  refine MW_loop hm [] [3, 6, 7, 8] 9 List.nodup_nil (fun k st => ∃ i : Int, At (fun _ => True) l i ∧ k = left l.length i ∧
    ((rulesT (l.take i.toNat) = [] ∧ st = stOf [.dead, .dead, .dead, .flat (.slice none 0 0), .dead, .dead, .ro X, .flat (.int .i64 (len X)), .flat (.int .i64 i)] [] 0) ∨
     ∃ (n : Nat) (Y : List (List AV)), n ≠ 0 ∧ Y = intE (rulesT (l.take i.toNat)) ∧ n = Y.length ∧ st = stOf [.dead, .dead, .dead, .sl 0 0 n, .dead, .dead, .ro X, .flat (.int .i64 (len X)), .flat (.int .i64 i)] [some ⟨3, Y⟩] 1)) (left l.length 0) ?_ ?_
  · exact ⟨0, at_zero l, rfl, .inl ⟨rfl, cut_eq (by cbv) (by cbv)⟩⟩
  · rintro k st ⟨i, hi, hk, ⟨h0, rfl⟩ | ⟨n, Y, hn0, hY, hnY, rfl⟩⟩
    · cbv
      cases hc : lt i (len X)
      · have hc' : decide (i < (l.length : Int)) = false := by rw [hlt, hn] at hc; exact hc
        cbv
        have hres := rules_end hi hc'
        rw [h0] at hres
        refine hQ _ _ trivial ?_
        rw [← hres]
        exact G.Leaves.plain (x := .flat (.slice none 0 0)) (by cbv) rfl
      · have hc' : decide (i < (l.length : Int)) = true := by rw [hlt, hn] at hc; exact hc
        cbv
        have hix : nth X i 3 = some (.rp (tokC (tokAt l i))) := by rw [hnth, ← hX]; exact nth_tok hi hc'
        obtain ⟨q1, q2⟩ := at_step hi hc' trivial
        have hadd : ar .add .i64 i 1 = i + 1 := by rw [har]; exact at_add (Nat.le_trans hs (by decide)) hi hc'
        generalize ht : tokAt l i = t at hix
        obtain ⟨tr, ts, ta⟩ := t
        rw [hix]; cbv
        rw [hsbox]; cbv
        rw [hbox]; cbv
        rw [happ, app_nil (z := .int .i64 0) (sz := 1) (b := 8) (by kernel_rfl) (by kernel_rfl) (by kernel_rfl) (by decide) rfl (by decide) (by rfl) rfl]; cbv
        rw [hadd]
        refine ⟨[72], [3, 6, 7, 8], 9, left l.length (i + 1), hk ▸ q2, by simp, i + 1, q1, rfl, .inr ⟨1, intE [tr], by simp, ?_, rfl, cut_eq (by cbv) (cutRows1 (by rfl) intE_closed)⟩⟩
        rw [rules_next hi hc', h0, ht, List.nil_append]
    · cbv
      cases hc : lt i (len X)
      · have hc' : decide (i < (l.length : Int)) = false := by rw [hlt, hn] at hc; exact hc
        cbv
        have hres := rules_end hi hc'
        refine hQ _ _ trivial ?_
        rw [← hres]
        have e1 : (rulesT (l.take i.toNat)).length = n := by rw [hnY, hY, intE, List.length_map]
        rw [e1, ← hY]
        have e2 : slR 3 Y = [⟨3, Y⟩] := by unfold slR; rw [if_neg (by rw [← hnY]; exact hn0)]
        have e3 : (fun m => slV m n) = fun m => AV.sl m 0 n := by funext m; unfold slV; rw [if_neg hn0]
        rw [e2, e3]
        exact G.Leaves.row (k := 0) (r := ⟨3, Y⟩) (by cbv) (by rfl) (fun e he => by rw [hY] at he; exact intE_closed e he)
      · have hc' : decide (i < (l.length : Int)) = true := by rw [hlt, hn] at hc; exact hc
        cbv
        have hix : nth X i 3 = some (.rp (tokC (tokAt l i))) := by rw [hnth, ← hX]; exact nth_tok hi hc'
        obtain ⟨q1, q2⟩ := at_step hi hc' trivial
        have hadd : ar .add .i64 i 1 = i + 1 := by rw [har]; exact at_add (Nat.le_trans hs (by decide)) hi hc'
        generalize ht : tokAt l i = t at hix
        obtain ⟨tr, ts, ta⟩ := t
        rw [hix]; cbv
        rw [hsbox]; cbv
        rw [hbox]; cbv
        obtain ⟨n', hn'⟩ : ∃ n', n' = n + 1 := ⟨_, rfl⟩
        obtain ⟨Y', hY'⟩ : ∃ Y', Y' = Y ++ [[.flat (.int .i64 tr)]] := ⟨_, rfl⟩
        have hle' : n' ≤ 1000000 := by
          have := rules_len (l := l) (i := i)
          have e1 : (rulesT (l.take i.toNat)).length = n := by rw [hnY, hY, intE, List.length_map]
          omega
        rw [happ, app_tip (X := Y) (Y := Y') (n' := n') (z := .int .i64 0) (sz := 1) (b := 8) (by kernel_rfl) (by kernel_rfl) (by kernel_rfl) (by decide) rfl (by decide) (by rfl) (by rfl) rfl hnY hn' hY' hle']; cbv
        rw [hadd]
        refine ⟨[73], [3, 6, 7, 8], 9, left l.length (i + 1), hk ▸ q2, by simp, i + 1, q1, rfl, .inr ⟨n', Y', by omega, ?_, by rw [hY', hn', hnY]; simp, cut_eq (by cbv) (cutRows1 (by rfl) (by rw [hY', hY, show [[AV.flat (Value.int .i64 tr)]] = intE [tr] from rfl, ← intE_app]; exact intE_closed))⟩⟩
        rw [rules_next hi hc', ht, intE_app, ← hY, hY']; rfl
end Go.Proofs.Ythilmgpciiopnaa.K
