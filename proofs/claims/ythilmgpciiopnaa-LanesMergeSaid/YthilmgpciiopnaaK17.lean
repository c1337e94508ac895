/- Contracts: the law LanesNotes. -/
import Derived.Test.YthilmgpciiopnaaK16
namespace Go.Proofs.Ythilmgpciiopnaa.K
set_option linter.unusedVariables false
set_option linter.unusedSimpArgs false
open Go G
set_option maxRecDepth 100000
set_option maxHeartbeats 4000000
theorem fn4 : Try.prog.funcs[4]? = some Try.f4 := by kernel_rfl
theorem lanesNotes_calls (ks : List Int) (l : List Tok) : ACalls Try.prog 4 [.ro (intE ks), .ro (tokE l)] (fun _ => .flat (.bool true)) (fun _ => []) := by
  refine acalls_sym tab_ok fn4 rfl rfl rfl (by kernel_rfl) ?_
  have hfin : ∀ st, resA Try.prog Try.f4 st = some (.flat (.bool true)) → G.Leaves Try.prog Try.f4 (fun _ => .flat (.bool true)) (fun _ => []) st := fun st h => G.Leaves.plain h rfl
  have hcF := few_calls l
  have hcA := awake_calls
  have hcN := fun hs hb => res_of (by simp [noteE]) (notes_calls ks l hs hb)
  have hfew := @few_le l
  generalize hf0 : fewT l = F at hcF hfew
  obtain ⟨K, hK⟩ : ∃ K, K = intE ks := ⟨_, rfl⟩
  obtain ⟨X, hX⟩ : ∃ X, X = tokE l := ⟨_, rfl⟩
  obtain ⟨Z, hZ⟩ : ∃ Z, Z = noteE (notesT ks l) := ⟨_, rfl⟩
  have hZl : Z.length = (notesT ks l).length := by rw [hZ]; simp [noteE]
  rw [← hK] at hcN ⊢
  rw [← hX] at hcF hcN ⊢
  rw [← hZ] at hcN
  rintro ⟨lt, le, eq, se, ar, dv, una, conv, len, sln, nat, nth, ixs, cel, sto, app, cpy, slc, mak, ixv, oth, dk, ib, call⟩ hS hm Q hQ
  obtain ⟨hlt, hle, heq, hse, har, hdv, huna, hconv, hlen, hsln, hnat, hnth, hixs, hcel, hsto, happ, hcpy, hslc, hmak, hixv, hoth, hdk, hib, hcall⟩ := Sym.mk.inj hS
  clear hS
  have hbox : ∀ e c off, cel (some ⟨e, [c]⟩) 0 off = if off ≤ c.length then some (c.drop off) else none := fun e c off => by rw [hcel]; rfl
  have hsbox : ∀ e c off sz y, sto (some ⟨e, [c]⟩) 0 off sz y = if y.cells.length = sz ∧ off + sz ≤ c.length ∧ y.cells.all AV.one = true then some ⟨e, [spl c off y.cells]⟩ else none := fun e c off sz y => by rw [hsto]; rfl
  have hcal : ∀ {f args T base K}, CallK Try.prog f args T base K → call f args T base K := fun h => by rw [hcall]; exact h
  have hn : len X = l.length := by rw [hlen, hX, len_tok]
  have heqr : ∀ a, eq a a = true := fun a => by rw [heq]; exact decide_eq_true rfl
  have hser : ∀ a, se a a = true := fun a => by rw [hse]; exact beq_self_eq_true _
  have hdvb : ∀ b, dv .neq 4 (.flat (.bool b)) (.flat (.bool b)) = some (.flat (.bool false)) := fun b => by rw [hdv]; exact dvb 4 b
  have hdvt : ∀ r s a, dv .neq 34 (.agg [.flat (.int .i64 r), .flat (.string s), .flat (.int .i64 a)]) (.agg [.flat (.int .i64 r), .flat (.string s), .flat (.int .i64 a)]) = some (.flat (.bool false)) := fun r s a => by
    rw [hdv]
    have := dv_neq34 ⟨r, s, a⟩ ⟨r, s, a⟩
    rw [tokEq_iff.2 rfl] at this
    exact this
  cbv
  refine hcal ⟨_, [], _, _, .inl ⟨rfl, by cbv⟩, hcA, by simp, ?_⟩
  cbv
  refine hcal ⟨_, [], _, _, .inl ⟨rfl, by cbv⟩, hcF, by simp, ?_⟩
  cbv
  cases F
  · cbv
    exact hQ _ _ trivial (hfin _ (by cbv))
  cbv
  cases hk60 : lt 60 (len K)
  rotate_left
  · cbv
    exact hQ _ _ trivial (hfin _ (by cbv))
  cbv
  obtain ⟨hl60, hby⟩ := hfew rfl
  have hs : l.length ≤ 1000 := Nat.le_trans hl60 (by decide)
  rcases hcN hs hby with ⟨hZ0, hcN⟩ | ⟨m, hm0, hml, hcN⟩
  · have hNl : (notesT ks l).length = 0 := by rw [← hZl, hZ0]; rfl
    refine hcal ⟨_, [], _, _, .inl ⟨rfl, by cbv⟩, hcN, by simp, ?_⟩
    cbv
    refine MW_loop hm [] [0, 1, 5, 6, 7, 8] 9 List.nodup_nil (fun k st => ∃ i c A : Int, LN ks l i c A ∧ k = left l.length i ∧ st = stOf [.ro K, .ro X, .dead, .dead, .dead, .flat (.slice none 0 0), .flat (.int .i64 c), .flat (.int .i64 A), .flat (.int .i64 i)] [] 0) (left l.length 0) ?_ ?_
    · exact ⟨0, 0, 0, ln_zero ks l, rfl, cut_eq (by cbv) (by cbv)⟩
    · rintro k st ⟨i, c, A, hi, hk, rfl⟩
      cbv
      cases hc : lt i (len X)
      · have hc' : decide (i < (l.length : Int)) = false := by rw [hlt, hn] at hc; exact hc
        have hz := ln_end hi hc'
        have h00 : eq c 0 = true := by rw [heq]; exact decide_eq_true (by rw [hz, hNl]; rfl)
        cbv
        rw [h00]
        exact hQ _ _ trivial (hfin _ (by cbv))
      · have hc' : decide (i < (l.length : Int)) = true := by rw [hlt, hn] at hc; exact hc
        have hat := ln_at hi
        have hix : nth X i 3 = some (.rp (tokC (tokAt l i))) := by rw [hnth, hX]; exact nth_tok hat hc'
        obtain ⟨ha1, ha2, ha3⟩ := ln_adds hi hs
        rw [← har] at ha1 ha2 ha3
        have hleft := ln_left hi hc'
        have hmain := ln_main hi hc'
        have hoth := ln_oth hi hc'
        have hcom := ln_com hi hc'
        generalize ht : tokAt l i = t at hix hmain hoth hcom
        obtain ⟨tr, ts, ta⟩ := t
        dsimp only at hmain hoth hcom
        have hcK := refKind_calls ks tr ts ta
        rw [← hK] at hcK
        generalize kindOf ks tr = q at hcK hmain hoth hcom
        cbv
        rw [hix]; cbv
        refine hcal ⟨_, [], _, _, .inl ⟨rfl, by cbv⟩, hcK, by simp, ?_⟩
        cbv
        cases he : eq q 0
        · have k0 : q ≠ 0 := by rw [heq] at he; exact of_decide_eq_false he
          cbv
          cases he2 : eq q 2
          · have k2 : q ≠ 2 := by rw [heq] at he2; exact of_decide_eq_false he2
            cbv
            rw [ha1]
            have q1 := hoth k0 k2
            generalize i + 1 = i2 at q1 hleft ⊢
            exact ⟨[], [0, 1, 5, 6, 7, 8], 9, left l.length i2, hk ▸ hleft, List.nodup_nil, i2, c, A, q1, rfl, cut_eq (by cbv) (by cbv)⟩
          · have k2 : q = 2 := by rw [heq] at he2; exact of_decide_eq_true he2
            obtain ⟨_, h1, h2, _⟩ := hcom k2
            exfalso
            rw [hNl] at h2
            exact absurd (Int.lt_of_le_of_lt h1 h2) (Int.lt_irrefl 0)
        · have k0 : q = 0 := by rw [heq] at he; exact of_decide_eq_true he
          cbv
          rw [ha3, ha1]
          have q1 := hmain k0
          generalize i + 1 = i2 at q1 hleft ⊢
          generalize A + 1 = A2 at q1 ⊢
          exact ⟨[], [0, 1, 5, 6, 7, 8], 9, left l.length i2, hk ▸ hleft, List.nodup_nil, i2, c, A2, q1, rfl, cut_eq (by cbv) (by cbv)⟩
  · have hNl : m = (notesT ks l).length := by rw [← hZl, hml]
    refine hcal ⟨_, [], _, _, .inl ⟨rfl, by cbv⟩, hcN, by simp, ?_⟩
    cbv
    refine MW_loop hm [104] [0, 1, 5, 6, 7, 8] 9 (by simp) (fun k st => ∃ i c A : Int, LN ks l i c A ∧ k = left l.length i ∧ st = stOf [.ro K, .ro X, .dead, .dead, .dead, .sl 0 0 m, .flat (.int .i64 c), .flat (.int .i64 A), .flat (.int .i64 i)] [some ⟨36, Z⟩] 1) (left l.length 0) ?_ ?_
    · refine ⟨0, 0, 0, ln_zero ks l, rfl, cut_eq (by cbv) (cutRows_cons (by rfl) ?_ rfl)⟩
      rw [hZ]; exact note_closed
    · rintro k st ⟨i, c, A, hi, hk, rfl⟩
      cbv
      cases hc : lt i (len X)
      · have hc' : decide (i < (l.length : Int)) = false := by rw [hlt, hn] at hc; exact hc
        have hz := ln_end hi hc'
        have h00 : eq c (nat m) = true := by rw [heq, hnat]; exact decide_eq_true (by rw [hz, hNl])
        cbv
        rw [h00]
        exact hQ _ _ trivial (hfin _ (by cbv))
      · have hc' : decide (i < (l.length : Int)) = true := by rw [hlt, hn] at hc; exact hc
        have hat := ln_at hi
        obtain ⟨_, hi0, hi1⟩ := at_lt hat hc'
        have hix : nth X i 3 = some (.rp (tokC (tokAt l i))) := by rw [hnth, hX]; exact nth_tok hat hc'
        obtain ⟨ha1, ha2, ha3⟩ := ln_adds hi hs
        rw [← har] at ha1 ha2 ha3
        have hleft := ln_left hi hc'
        have hmain := ln_main hi hc'
        have hoth := ln_oth hi hc'
        have hcom := ln_com hi hc'
        have hcB := before_calls ks l i hi0 (Int.le_of_lt hi1) hs hby
        have hcH := behind_calls ks l i hi0 hi1 hs hby
        generalize ht : tokAt l i = t at hix hmain hoth hcom
        obtain ⟨tr, ts, ta⟩ := t
        dsimp only at hmain hoth hcom
        have hcK := refKind_calls ks tr ts ta
        rw [← hK] at hcK hcB hcH
        rw [← hX] at hcB hcH
        generalize kindOf ks tr = q at hcK hmain hoth hcom
        generalize beforeT ks l i = bf at hcB hcom
        generalize behindT ks l i = bh at hcH hcom
        cbv
        rw [hix]; cbv
        refine hcal ⟨_, [], _, _, .inl ⟨rfl, by cbv⟩, hcK, by simp, ?_⟩
        cbv
        cases he : eq q 0
        · have k0 : q ≠ 0 := by rw [heq] at he; exact of_decide_eq_false he
          cbv
          cases he2 : eq q 2
          · have k2 : q ≠ 2 := by rw [heq] at he2; exact of_decide_eq_false he2
            cbv
            rw [ha1]
            have q1 := hoth k0 k2
            generalize i + 1 = i2 at q1 hleft ⊢
            refine ⟨[0], [0, 1, 5, 6, 7, 8], 9, left l.length i2, hk ▸ hleft, by simp, i2, c, A, q1, rfl, cut_eq (by cbv) (cutRows_cons (by rfl) ?_ rfl)⟩
            rw [hZ]; exact note_closed
          · have k2 : q = 2 := by rw [heq] at he2; exact of_decide_eq_true he2
            obtain ⟨q1, h1, h2, h3⟩ := hcom k2
            have hcm : c < (m : Int) := by rw [hNl]; exact h2
            have hle' : le (nat m) c = false := by rw [hle, hnat]; exact decide_eq_false (Int.not_le.2 hcm)
            have hiZ : ∀ id, ixs (some ⟨36, Z⟩) id 0 m c 6 = some (.ptr id c.toNat 0) := fun id => by rw [hixs]; exact own_ix c36 h1 hcm id
            have hZg : Z[c.toNat]? = some (noteC ⟨⟨tr, ts, ta⟩, A, bf, bh⟩) := by rw [hZ]; exact note_at _ h3
            have hc0 : cel (some ⟨36, Z⟩) c.toNat 0 = some (noteC ⟨⟨tr, ts, ta⟩, A, bf, bh⟩) := by rw [hcel]; exact own_cel hZg (Nat.zero_le _)
            have hc3 : cel (some ⟨36, Z⟩) c.toNat 3 = some [.flat (.int .i64 A), .flat (.bool bf), .flat (.bool bh)] := by rw [hcel]; exact own_cel hZg (Nat.le_add_left 3 3)
            have hc4 : cel (some ⟨36, Z⟩) c.toNat 4 = some [.flat (.bool bf), .flat (.bool bh)] := by rw [hcel]; exact own_cel hZg (Nat.le_add_left 4 2)
            have hc5 : cel (some ⟨36, Z⟩) c.toNat 5 = some [.flat (.bool bh)] := by rw [hcel]; exact own_cel hZg (Nat.le_add_left 5 1)
            clear h3 hZg hcom h1 h2 hcm
            generalize c.toNat = j at hiZ hc0 hc3 hc4 hc5
            cbv
            refine ⟨by rw [hdk]; kernel_rfl, ?_⟩
            repeat (first | (rw [hle']; cbv) | (rw [hiZ]; cbv) | (rw [hc0]; cbv) | (rw [hix]; cbv) | (rw [hdvt]; cbv) | (rw [hc3]; cbv) | (rw [heqr]; cbv) | (rw [hc4]; cbv))
            refine hcal ⟨_, [], _, _, .inl ⟨rfl, by cbv⟩, hcB, by simp, ?_⟩
            cbv
            rw [hdvb]; cbv
            repeat (first | (rw [hiZ]; cbv) | (rw [hc5]; cbv))
            refine hcal ⟨_, [], _, _, .inl ⟨rfl, by cbv⟩, hcH, by simp, ?_⟩
            cbv
            rw [hdvb]; cbv
            refine ⟨by rw [hib]; kernel_rfl, ?_⟩
            cbv
            rw [ha2, ha1]
            generalize i + 1 = i2 at q1 hleft ⊢
            generalize c + 1 = c2 at q1 ⊢
            refine ⟨[0], [0, 1, 5, 6, 7, 8], 9, left l.length i2, hk ▸ hleft, by simp, i2, c2, A, q1, rfl, cut_eq (by cbv) (cutRows_cons (by rfl) ?_ rfl)⟩
            rw [hZ]; exact note_closed
        · have k0 : q = 0 := by rw [heq] at he; exact of_decide_eq_true he
          cbv
          rw [ha3, ha1]
          have q1 := hmain k0
          generalize i + 1 = i2 at q1 hleft ⊢
          generalize A + 1 = A2 at q1 ⊢
          refine ⟨[0], [0, 1, 5, 6, 7, 8], 9, left l.length i2, hk ▸ hleft, by simp, i2, c, A2, q1, rfl, cut_eq (by cbv) (cutRows_cons (by rfl) ?_ rfl)⟩
          rw [hZ]; exact note_closed
end Go.Proofs.Ythilmgpciiopnaa.K
