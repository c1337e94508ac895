/- Contracts: the law LanesMerge. -/
import Derived.Test.YthilmgpciiopnaaK18
namespace Go.Proofs.Ythilmgpciiopnaa.K
set_option linter.unusedVariables false
set_option linter.unusedSimpArgs false
open Go G
set_option maxRecDepth 100000
set_option maxHeartbeats 4000000
theorem fn5 : Try.prog.funcs[5]? = some Try.f5 := by kernel_rfl
theorem res_rows {P : Program} {f : FuncId} {args : List AV} {e : TypeId} {X : List (List AV)} (h : Res P f args e X) : (X = [] ∧ ACalls P f args (fun _ => .flat (.slice none 0 0)) (fun _ => [])) ∨ ∃ n : Nat, n ≠ 0 ∧ n = X.length ∧ ACalls P f args (fun k => .sl k 0 n) (fun _ => [⟨e, X⟩]) := h
theorem noRo_flat {e : TypeId} {X : List (List AV)} (hX : flatRow X) : ∀ r ∈ [(⟨e, X⟩ : Row)], ∀ c ∈ r.els, ∀ x ∈ c, x.noRo1 = true := by
  intro r hr c hc x hx
  simp only [List.mem_cons, List.not_mem_nil, or_false] at hr
  subst hr
  exact (hX c hc x hx).2
theorem tok_get {l : List Tok} {j : Nat} {t : Tok} (h : l[j]? = some t) : (tokE l)[j]? = some (tokC t) := by simp [tokE, h]

theorem lanesMerge_calls (ks : List Int) (l more : List Tok) : ACalls Try.prog 5 [.ro (intE ks), .ro (tokE l), .ro (tokE more)] (fun _ => .flat (.bool true)) (fun _ => []) := by
  refine acalls_sym tab_ok fn5 rfl rfl rfl (by kernel_rfl) ?_
  have hfin : ∀ st, resA Try.prog Try.f5 st = some (.flat (.bool true)) → G.Leaves Try.prog Try.f5 (fun _ => .flat (.bool true)) (fun _ => []) st := fun st h => G.Leaves.plain h rfl
  have hcF := few_calls l
  have hcF2 := few_calls more
  have hcA := awake_calls
  have hcM := fun hs => res_of (by simp [tokE]) (merge_calls l more hs)
  have hcO := fun hs => res_of (by simp [tokE]) (refOf_calls ks l 0 hs)
  have hcM1 := fun hs => res_of (by simp [tokE]) (merge_calls (ofK ks 0 l) (otherK ks l) hs)
  have hcM2 := fun hs => res_of (by simp [tokE]) (merge_calls (otherK ks l) (ofK ks 0 l) hs)
  have hcS := same_calls l l
  rw [sameT_iff.2 rfl] at hcS
  have hparts := @merge_kinds ks l
  have hfO := flat_tok (ofK ks 0 l)
  have hfB := flat_tok (otherK ks l)
  have hfX := flat_tok l
  have hlenO : (ofK ks 0 l).length ≤ l.length := List.length_filter_le _ _
  have hlenB := other_len' (ks := ks) (l := l)
  have hfew := @few_le l
  have hfew2 := @few_le more
  generalize hf0 : fewT l = F at hcF hfew
  generalize hf20 : fewT more = F2 at hcF2 hfew2
  obtain ⟨K, hK⟩ : ∃ K, K = intE ks := ⟨_, rfl⟩
  obtain ⟨X, hX⟩ : ∃ X, X = tokE l := ⟨_, rfl⟩
  obtain ⟨Y, hY⟩ : ∃ Y, Y = tokE more := ⟨_, rfl⟩
  obtain ⟨Z, hZ⟩ : ∃ Z, Z = tokE (mergeT l more) := ⟨_, rfl⟩
  obtain ⟨O, hO⟩ : ∃ O, O = tokE (ofK ks 0 l) := ⟨_, rfl⟩
  obtain ⟨B, hB⟩ : ∃ B, B = tokE (otherK ks l) := ⟨_, rfl⟩
  have hZl : Z.length = l.length + more.length := by rw [hZ, ← merge_len]; simp [tokE]
  have hOl : O.length = (ofK ks 0 l).length := by rw [hO]; simp [tokE]
  have hBl : B.length = (otherK ks l).length := by rw [hB]; simp [tokE]
  have hXl : X.length = l.length := by rw [hX]; simp [tokE]
  rw [← hK] at hcO ⊢
  rw [← hX] at hcF hcM hcO hcS hfX ⊢
  rw [← hY] at hcF2 hcM ⊢
  rw [← hZ] at hcM
  rw [← hO] at hcO hcM1 hcM2 hfO
  rw [← hB] at hcM1 hcM2 hfB
  rintro ⟨lt, le, eq, se, ar, dv, una, conv, len, sln, nat, nth, ixs, cel, sto, app, cpy, slc, mak, ixv, oth, dk, ib, call⟩ hS hm Q hQ
  obtain ⟨hlt, hle, heq, hse, har, hdv, huna, hconv, hlen, hsln, hnat, hnth, hixs, hcel, hsto, happ, hcpy, hslc, hmak, hixv, hoth, hdk, hib, hcall⟩ := Sym.mk.inj hS
  clear hS
  have hbox : ∀ e c off, cel (some ⟨e, [c]⟩) 0 off = if off ≤ c.length then some (c.drop off) else none := fun e c off => by rw [hcel]; rfl
  have hsbox : ∀ e c off sz y, sto (some ⟨e, [c]⟩) 0 off sz y = if y.cells.length = sz ∧ off + sz ≤ c.length ∧ y.cells.all AV.one = true then some ⟨e, [spl c off y.cells]⟩ else none := fun e c off sz y => by rw [hsto]; rfl
  have hcal : ∀ {f args T base K}, CallK Try.prog f args T base K → call f args T base K := fun h => by rw [hcall]; exact h
  have hn : len X = l.length := by rw [hlen, hX, len_tok]
  have hn2 : len Y = more.length := by rw [hlen, hY, len_tok]
  have heqr : ∀ a, eq a a = true := fun a => by rw [heq]; exact decide_eq_true rfl
  have hdvt : ∀ r s a, dv .neq 34 (.agg [.flat (.int .i64 r), .flat (.string s), .flat (.int .i64 a)]) (.agg [.flat (.int .i64 r), .flat (.string s), .flat (.int .i64 a)]) = some (.flat (.bool false)) := fun r s a => by
    rw [hdv]
    have := dv_neq34 ⟨r, s, a⟩ ⟨r, s, a⟩
    rw [tokEq_iff.2 rfl] at this
    exact this
  have hnth' : ∀ i : Int, 0 ≤ i → i < l.length → nth X i 3 = some (.rp (tokC (tokAt l i))) := fun i h0 h1 => by
    rw [hnth, hX]; exact nth_tok (at_ix (p := fun _ => True) h0 h1).1 (at_ix (p := fun _ => True) h0 h1).2
  have hnthY : ∀ i : Int, 0 ≤ i → i < more.length → nth Y i 3 = some (.rp (tokC (tokAt more i))) := fun i h0 h1 => by
    rw [hnth, hY]; exact nth_tok (at_ix (p := fun _ => True) h0 h1).1 (at_ix (p := fun _ => True) h0 h1).2
  have hplus : l.length ≤ 60 → more.length ≤ 60 → ar .add .i64 (len X) (len Y) = (l.length : Int) + more.length := fun h1 h2 => by rw [har, hn, hn2]; exact ar_add64 (by omega) (by omega)
  cbv
  refine hcal ⟨_, [], _, _, .inl ⟨rfl, by cbv⟩, hcA, by simp, ?_⟩
  cbv
  refine hcal ⟨_, [], _, _, .inl ⟨rfl, by cbv⟩, hcF, by simp, ?_⟩
  cbv
  cases F
  · cbv
    exact hQ _ _ trivial (hfin _ (by cbv))
  cbv
  refine hcal ⟨_, [], _, _, .inl ⟨rfl, by cbv⟩, hcF2, by simp, ?_⟩
  cbv
  cases F2
  · cbv
    exact hQ _ _ trivial (hfin _ (by cbv))
  cbv
  cases hk60 : lt 60 (len K)
  rotate_left
  · cbv
    exact hQ _ _ trivial (hfin _ (by cbv))
  cbv
  obtain ⟨hl60, hby⟩ := hfew rfl
  obtain ⟨hl260, hby2⟩ := hfew2 rfl
  have hs : l.length ≤ 1000 := Nat.le_trans hl60 (by decide)
  have hs2 : l.length + more.length ≤ 1000 := Nat.le_trans (Nat.add_le_add hl60 hl260) (by decide)
  have hsO : (ofK ks 0 l).length + (otherK ks l).length ≤ 1000 := Nat.le_trans (Nat.add_le_add (Nat.le_trans hlenO hl60) (Nat.le_trans hlenB hl60)) (by decide)
  replace hcO := hcO hs
  replace hcM1 := hcM1 hsO
  replace hcM2 := hcM2 (by rw [Nat.add_comm]; exact hsO)
  replace hcS := hcS (Nat.le_trans hl60 (by decide))
  replace hplus := hplus hl60 hl260
  rcases hcM hs2 with ⟨hZ0, hcM⟩ | ⟨m, hm0, hml, hcM⟩
  · have hl0 : l.length = 0 := by rw [hZ0] at hZl; simp at hZl; omega
    have hm0 : more.length = 0 := by rw [hZ0] at hZl; simp at hZl; omega
    have hlnil : l = [] := List.eq_nil_of_length_eq_zero hl0
    have hXn : X = [] := List.eq_nil_of_length_eq_zero (by rw [hXl, hl0])
    have hOn : O = [] := List.eq_nil_of_length_eq_zero (by rw [hOl]; omega)
    have hBn : B = [] := List.eq_nil_of_length_eq_zero (by rw [hBl]; omega)
    obtain ⟨hp1, hp2⟩ := hparts (by rw [hlnil]; trivial)
    rw [hp1, ← hX, hOn, hBn] at hcM1
    rw [hp2, ← hX, hOn, hBn] at hcM2
    have hnX : lt 0 (len X) = false := by rw [hlt, hn, hl0]; rfl
    have hnX1 : lt 1 (len X) = false := by rw [hlt, hn, hl0]; rfl
    have h0p : eq 0 (ar .add .i64 (len X) (len Y)) = true := by rw [hplus, heq, hl0, hm0]; rfl
    have h00 : lt 0 0 = false := by rw [hlt]; rfl
    rcases hcO with ⟨_, hcO⟩ | ⟨m3, hm30, hml3, hcO⟩
    rotate_left
    · exfalso; apply hm30; rw [hml3, hOn]; rfl
    rcases hcM1 with ⟨_, hcM1⟩ | ⟨m3, hm30, hml3, hcM1⟩
    rotate_left
    · exfalso; apply hm30; rw [hml3, hXn]; rfl
    rcases hcM2 with ⟨_, hcM2⟩ | ⟨m3, hm30, hml3, hcM2⟩
    rotate_left
    · exfalso; apply hm30; rw [hml3, hXn]; rfl
    rw [hXn] at hcS
    refine hcal ⟨_, [], _, _, .inl ⟨rfl, by cbv⟩, hcM, by simp, ?_⟩
    cbv
    rw [h0p]; cbv
    refine MW_loop hm [] [0, 1, 7, 10] 11 List.nodup_nil (fun k st => st = stOf [.ro K, .ro X, .dead, .dead, .dead, .dead, .dead, .flat (.slice none 0 0), .dead, .dead, .flat (.int .i64 0)] [] 0) 0 ?_ ?_
    · exact cut_eq (by cbv) (by cbv)
    · rintro k st rfl
      cbv
      rw [h00]; cbv
      refine MW_loop hm [] [0, 1, 12] 13 List.nodup_nil (fun k st => st = stOf [.ro K, .ro X, .dead, .dead, .dead, .dead, .dead, .dead, .dead, .dead, .dead, .dead, .flat (.int .i64 1)] [] 0) 0 ?_ ?_
      · exact cut_eq (by cbv) (by cbv)
      · rintro k st rfl
        cbv
        rw [hnX1]; cbv
        refine hcal ⟨_, [], _, _, .inl ⟨rfl, by cbv⟩, hcO, by simp, ?_⟩
        cbv
        refine MW_loop hm [56] [1, 13, 14, 15] 16 (by simp) (fun k st => st = stOf [.dead, .ro X, .dead, .dead, .dead, .dead, .dead, .dead, .dead, .dead, .dead, .dead, .dead, .flat (.slice none 0 0), .sl 0 0 0, .flat (.int .i64 0)] [some ⟨34, []⟩] 1) 0 ?_ ?_
        · exact cut_eq (by cbv) (by cbv)
        · rintro k st rfl
          cbv
          rw [hnX]; cbv
          refine hcal ⟨[.ro [], .ro []], [0], _, _, hands_deep ⟨.nil, deep_flat (by simp) (by rfl) rfl (fun c hc => by cases hc), trivial⟩ rfl (fun r hr => by cases hr), hcM1, by simp, ?_⟩
          cbv
          refine hcal ⟨[.ro [], .ro []], [], _, _, hands_deep ⟨.nil, by rw [hXn]; exact .id rfl, trivial⟩ rfl (fun r hr => by cases hr), hcS, by simp, ?_⟩
          cbv
          refine hcal ⟨[.ro [], .ro []], [0], _, _, hands_deep ⟨deep_flat (by simp) (by rfl) rfl (fun c hc => by cases hc), .nil, trivial⟩ rfl (fun r hr => by cases hr), hcM2, by simp, ?_⟩
          cbv
          refine hcal ⟨[.ro [], .ro []], [], _, _, hands_deep ⟨.nil, by rw [hXn]; exact .id rfl, trivial⟩ rfl (fun r hr => by cases hr), hcS, by simp, ?_⟩
          cbv
          exact hQ _ _ trivial (hfin _ (by cbv))
  · have hmZ : (m : Int) = (l.length : Int) + more.length := by rw [hml, hZl]; omega
    have hmL : m = (mergeT l more).length := by rw [hml, hZl, merge_len]
    have h0p : eq (nat m) (ar .add .i64 (len X) (len Y)) = true := by rw [hplus, heq, hnat]; exact decide_eq_true hmZ
    refine hcal ⟨_, [], _, _, .inl ⟨rfl, by cbv⟩, hcM, by simp, ?_⟩
    cbv
    rw [h0p]; cbv
    refine MW_loop hm [144] [0, 1, 2, 7, 8, 9, 10] 11 (by simp) (fun k st => ∃ n i c : Int, MI l more n i c ∧ k = left m n ∧ st = stOf [.ro K, .ro X, .ro Y, .dead, .dead, .dead, .dead, .sl 0 0 m, .flat (.int .i64 i), .flat (.int .i64 c), .flat (.int .i64 n)] [some ⟨34, Z⟩] 1) (left m 0) ?_ ?_
    · refine ⟨0, 0, 0, mi_zero l more, rfl, cut_eq (by cbv) (cutRows_cons (by rfl) ?_ rfl)⟩
      rw [hZ]; exact tok_closed
    · rintro k st ⟨n, i, c, hi, hk, rfl⟩
      cbv
      cases hc : lt n (nat m)
      rotate_left
      · have hc' : decide (n < (m : Int)) = true := by rw [hlt, hnat] at hc; exact hc
        have hc2 : decide (n < ((mergeT l more).length : Int)) = true := by rw [← hmL]; exact hc'
        obtain ⟨ha1, ha2, ha3⟩ := mi_adds hi hl60 hl260
        rw [← har] at ha1 ha2 ha3
        have hleft := mi_left hi hc'
        have hroom := mi_room hi hc2
        have hL := mi_l hi
        have hR := mi_r hi
        have hi0 : 0 ≤ i := hi.1
        have hc0 : 0 ≤ c := hi.2.2.1
        have hZx : ∀ t, 0 ≤ n → (mergeT l more)[n.toNat]? = some t → (∀ id, ixs (some ⟨34, Z⟩) id 0 m n 3 = some (.ptr id n.toNat 0)) ∧ cel (some ⟨34, Z⟩) n.toNat 0 = some (tokC t) := fun t h0 hg =>
          ⟨fun id => by rw [hixs]; exact own_ix c34 h0 (of_decide_eq_true hc') id, by rw [hcel]; exact own_cel (by rw [hZ]; exact tok_get hg) (Nat.zero_le _)⟩
        generalize n.toNat = j at hZx hL hR
        cbv
        refine ⟨by rw [hdk]; kernel_rfl, ?_⟩
        cases hcm : le (len Y) c
        · have hcl : c < more.length := by rw [hle, hn2] at hcm; exact Int.not_le.1 (of_decide_eq_false hcm)
          cbv
          cases hix' : lt i (len X)
          · have hil : (l.length : Int) ≤ i := by rw [hlt, hn] at hix'; exact Int.not_lt.1 (of_decide_eq_false hix')
            cbv
            refine ⟨by rw [hib]; kernel_rfl, ?_⟩
            cbv
            obtain ⟨q1, hn0, _, hg⟩ := hR hcl (.inl hil)
            obtain ⟨hz1, hz2⟩ := hZx _ hn0 hg
            have hix := hnthY c hc0 hcl
            clear hg hL hR hZx
            generalize tokAt more c = t at hz2 hix
            obtain ⟨tr, ts, ta⟩ := t
            refine ⟨by rw [hdk]; kernel_rfl, ?_⟩
            repeat (first | (rw [hz1]; cbv) | (rw [hz2]; cbv) | (rw [hix]; cbv) | (rw [hdvt]; cbv))
            refine ⟨by rw [hib]; kernel_rfl, ?_⟩
            cbv
            rw [ha3, ha1]
            generalize n + 1 = n2 at q1 hleft ⊢
            generalize c + 1 = c2 at q1 ⊢
            refine ⟨[0], [0, 1, 2, 7, 8, 9, 10], 11, left m n2, hk ▸ hleft, by simp, n2, i, c2, q1, rfl, cut_eq (by cbv) (cutRows_cons (by rfl) ?_ rfl)⟩
            rw [hZ]; exact tok_closed
          · have hil : i < l.length := by rw [hlt, hn] at hix'; exact of_decide_eq_true hix'
            cbv
            have hixL := hnth' i hi0 hil
            have hixR := hnthY c hc0 hcl
            have hdec : le (tokAt l i).a (tokAt more c).a = decide ((tokAt l i).a ≤ (tokAt more c).a) := by rw [hle]
            generalize hta : tokAt l i = t at hixL hdec
            generalize htb : tokAt more c = u at hixR hdec
            obtain ⟨xr, xs, xa⟩ := t
            obtain ⟨yr, ys, ya⟩ := u
            dsimp only at hdec
            rw [hixL]; cbv
            rw [hixR]; cbv
            cases hll : le xa ya
            · have hnle : ¬ (tokAt l i).a ≤ (tokAt more c).a := by rw [hta, htb]; rw [hll] at hdec; exact of_decide_eq_false hdec.symm
              cbv
              refine ⟨by rw [hib]; kernel_rfl, ?_⟩
              cbv
              obtain ⟨q1, hn0, _, hg⟩ := hR hcl (.inr hnle)
              obtain ⟨hz1, hz2⟩ := hZx _ hn0 hg
              have hix := hnthY c hc0 hcl
              clear hg hL hR hZx
              generalize tokAt more c = t at hz2 hix
              obtain ⟨tr, ts, ta⟩ := t
              refine ⟨by rw [hdk]; kernel_rfl, ?_⟩
              repeat (first | (rw [hz1]; cbv) | (rw [hz2]; cbv) | (rw [hix]; cbv) | (rw [hdvt]; cbv))
              refine ⟨by rw [hib]; kernel_rfl, ?_⟩
              cbv
              rw [ha3, ha1]
              generalize n + 1 = n2 at q1 hleft ⊢
              generalize c + 1 = c2 at q1 ⊢
              refine ⟨[0], [0, 1, 2, 7, 8, 9, 10], 11, left m n2, hk ▸ hleft, by simp, n2, i, c2, q1, rfl, cut_eq (by cbv) (cutRows_cons (by rfl) ?_ rfl)⟩
              rw [hZ]; exact tok_closed
            · have hyle : (tokAt l i).a ≤ (tokAt more c).a := by rw [hta, htb]; rw [hll] at hdec; exact of_decide_eq_true hdec.symm
              cbv
              refine ⟨by rw [hib]; kernel_rfl, ?_⟩
              cbv
              obtain ⟨q1, hn0, _, hg⟩ := hL hil (.inr hyle)
              obtain ⟨hz1, hz2⟩ := hZx _ hn0 hg
              have hix := hnth' i hi0 hil
              clear hg hL hR hZx
              generalize tokAt l i = t at hz2 hix
              obtain ⟨tr, ts, ta⟩ := t
              refine ⟨by rw [hdk]; kernel_rfl, ?_⟩
              repeat (first | (rw [hz1]; cbv) | (rw [hz2]; cbv) | (rw [hix]; cbv) | (rw [hdvt]; cbv))
              refine ⟨by rw [hib]; kernel_rfl, ?_⟩
              cbv
              rw [ha2, ha1]
              generalize n + 1 = n2 at q1 hleft ⊢
              generalize i + 1 = i2 at q1 ⊢
              refine ⟨[0], [0, 1, 2, 7, 8, 9, 10], 11, left m n2, hk ▸ hleft, by simp, n2, i2, c, q1, rfl, cut_eq (by cbv) (cutRows_cons (by rfl) ?_ rfl)⟩
              rw [hZ]; exact tok_closed
        · have hcl : (more.length : Int) ≤ c := by rw [hle, hn2] at hcm; exact of_decide_eq_true hcm
          have hil := hroom hcl
          cbv
          refine ⟨by rw [hib]; kernel_rfl, ?_⟩
          cbv
          obtain ⟨q1, hn0, _, hg⟩ := hL hil (.inl hcl)
          obtain ⟨hz1, hz2⟩ := hZx _ hn0 hg
          have hix := hnth' i hi0 hil
          clear hg hL hR hZx
          generalize tokAt l i = t at hz2 hix
          obtain ⟨tr, ts, ta⟩ := t
          refine ⟨by rw [hdk]; kernel_rfl, ?_⟩
          repeat (first | (rw [hz1]; cbv) | (rw [hz2]; cbv) | (rw [hix]; cbv) | (rw [hdvt]; cbv))
          refine ⟨by rw [hib]; kernel_rfl, ?_⟩
          cbv
          rw [ha2, ha1]
          generalize n + 1 = n2 at q1 hleft ⊢
          generalize i + 1 = i2 at q1 ⊢
          refine ⟨[0], [0, 1, 2, 7, 8, 9, 10], 11, left m n2, hk ▸ hleft, by simp, n2, i2, c, q1, rfl, cut_eq (by cbv) (cutRows_cons (by rfl) ?_ rfl)⟩
          rw [hZ]; exact tok_closed
      · clear hi
        cbv
        refine MW_loop hm [] [0, 1, 12] 13 List.nodup_nil (fun k st => ∃ n : Int, RI l n ∧ k = left l.length n ∧ st = stOf [.ro K, .ro X, .dead, .dead, .dead, .dead, .dead, .dead, .dead, .dead, .dead, .dead, .flat (.int .i64 n)] [] 0) (left l.length 1) ?_ ?_
        · exact ⟨1, ri_one l, rfl, cut_eq (by cbv) (by cbv)⟩
        · clear hk hc n i c k hml hmZ hmL h0p
          rintro k st ⟨n, hi, hk, rfl⟩
          cbv
          cases hc : lt n (len X)
          rotate_left
          · have hc' : decide (n < (l.length : Int)) = true := by rw [hlt, hn] at hc; exact hc
            obtain ⟨h0, h1, h2, h3⟩ := ri_in hi hc'
            have ha1 : ar .add .i64 n 1 = n + 1 := by rw [har]; exact ar_add64 (by omega) (by omega)
            have hs1 : ar .sub .i64 n 1 = n - 1 := by rw [har]; exact ar_sub64 (by omega) (by omega)
            have hixL := hnth' n h0 h1
            have hixR := hnth' (n - 1) h2 h3
            have hstep := ri_step hi hc'
            have hdec : le (tokAt l n).a (tokAt l (n - 1)).a = decide ((tokAt l n).a ≤ (tokAt l (n - 1)).a) := by rw [hle]
            generalize tokAt l n = t at hixL hdec hstep
            generalize tokAt l (n - 1) = u at hixR hdec hstep
            generalize n - 1 = np at hs1 hixR
            obtain ⟨xr, xs, xa⟩ := t
            obtain ⟨yr, ys, ya⟩ := u
            dsimp only at hdec hstep
            cbv
            refine ⟨by rw [hdk]; kernel_rfl, ?_⟩
            rw [hixL]; cbv
            rw [hs1]; cbv
            rw [hixR]; cbv
            cases hll : le xa ya
            · obtain ⟨q1, q2⟩ := hstep (by rw [hll] at hdec; exact of_decide_eq_false hdec.symm)
              cbv
              refine ⟨by rw [hib]; kernel_rfl, ?_⟩
              cbv
              rw [ha1]
              generalize n + 1 = n2 at q1 q2 ⊢
              exact ⟨[], [0, 1, 12], 13, left l.length n2, hk ▸ q2, List.nodup_nil, n2, q1, rfl, cut_eq (by cbv) (by cbv)⟩
            · cbv
              refine ⟨by rw [hib]; kernel_rfl, ?_⟩
              cbv
              exact hQ _ _ trivial (hfin _ (by cbv))
          · have hc' : decide (n < (l.length : Int)) = false := by rw [hlt, hn] at hc; exact hc
            obtain ⟨hp1, hp2⟩ := hparts (ri_end hi hc')
            rw [hp1, ← hX] at hcM1
            rw [hp2, ← hX] at hcM2
            clear hi hc hc' hk hparts
            cbv
            rcases hcO with ⟨hO0, hcO⟩ | ⟨mo, hmo0, hmo, hcO⟩
            · refine hcal ⟨_, [], _, _, .inl ⟨rfl, by cbv⟩, hcO, by simp, ?_⟩
              cbv
              have hOn := hO0
              refine MW_loop hm [56] [0, 1, 13, 14, 15] 16 (by simp) (fun k st => ∃ i : Int, At (fun _ => True) l i ∧ k = left l.length i ∧ ∃ (nb : Nat) (Z2 : List (List AV)), Z2 = tokE (otherK ks (l.take i.toNat)) ∧ nb = Z2.length ∧ st = stOf [.ro K, .ro X, .dead, .dead, .dead, .dead, .dead, .dead, .dead, .dead, .dead, .dead, .dead, .flat (.slice none 0 0), .sl 0 0 nb, .flat (.int .i64 i)] [some ⟨34, Z2⟩] 1) (left l.length 0) ?_ ?_
              · exact ⟨0, at_zero l, rfl, 0, [], rfl, rfl, cut_eq (by cbv) (cutRows_cons (by rfl) (fun c hc => by cases hc) rfl)⟩
              · rintro k st ⟨i, hi, hk, nb, Z2, hZ2, hnb, rfl⟩
                cbv
                cases hc : lt i (len X)
                · have hc' : decide (i < (l.length : Int)) = false := by rw [hlt, hn] at hc; exact hc
                  rw [other_end hi hc', ← hB] at hZ2
                  subst hZ2
                  cbv
                  rw [hOn] at hcM1 hcM2
                  rcases hcM1 with ⟨hX0, hcM1⟩ | ⟨mx, hmx0, hmx, hcM1⟩
                  · rcases hcM2 with ⟨hX0', hcM2⟩ | ⟨mx2, hmx20, hmx2, hcM2⟩
                    rotate_left
                    · exfalso; apply hmx20; rw [hmx2, hX0]; rfl
                    refine hcal ⟨[.ro [], .ro Z2], [0], _, _, hands_deep ⟨.nil, deep_flat (by simp) (by rfl) hnb hfB, trivial⟩ rfl (fun r hr => by cases hr), hcM1, by simp, ?_⟩
                    cbv
                    rw [hX0] at hcS
                    refine hcal ⟨[.ro [], .ro []], [], _, _, hands_deep ⟨.nil, by rw [hX0]; exact .id rfl, trivial⟩ rfl (fun r hr => by cases hr), hcS, by simp, ?_⟩
                    cbv
                    refine hcal ⟨[.ro Z2, .ro []], [0], _, _, hands_deep ⟨deep_flat (by simp) (by rfl) hnb hfB, .nil, trivial⟩ rfl (fun r hr => by cases hr), hcM2, by simp, ?_⟩
                    cbv
                    refine hcal ⟨[.ro [], .ro []], [], _, _, hands_deep ⟨.nil, by rw [hX0]; exact .id rfl, trivial⟩ rfl (fun r hr => by cases hr), hcS, by simp, ?_⟩
                    cbv
                    exact hQ _ _ trivial (hfin _ (by cbv))
                  · rcases hcM2 with ⟨hX0', hcM2⟩ | ⟨mx2, hmx20, hmx2, hcM2⟩
                    · exfalso; apply hmx0; rw [hmx, hX0']; rfl
                    refine hcal ⟨[.ro [], .ro Z2], [0], _, _, hands_deep ⟨.nil, deep_flat (by simp) (by rfl) hnb hfB, trivial⟩ rfl (noRo_flat hfX), hcM1, by simp, ?_⟩
                    cbv
                    refine hcal ⟨[.ro X, .ro X], [49], _, _, hands_deep ⟨deep_flat (by simp) (by rfl) hmx hfX, .id rfl, trivial⟩ rfl (fun r hr => by cases hr), hcS, by simp, ?_⟩
                    cbv
                    refine hcal ⟨[.ro Z2, .ro []], [0], _, _, hands_deep ⟨deep_flat (by simp) (by rfl) hnb hfB, .nil, trivial⟩ rfl (noRo_flat hfX), hcM2, by simp, ?_⟩
                    cbv
                    refine hcal ⟨[.ro X, .ro X], [97], _, _, hands_deep ⟨deep_flat (by simp) (by rfl) hmx2 hfX, .id rfl, trivial⟩ rfl (fun r hr => by cases hr), hcS, by simp, ?_⟩
                    cbv
                    exact hQ _ _ trivial (hfin _ (by cbv))
                · have hc' : decide (i < (l.length : Int)) = true := by rw [hlt, hn] at hc; exact hc
                  obtain ⟨_, hi0, hi1⟩ := at_lt hi hc'
                  have hix := hnth' i hi0 hi1
                  obtain ⟨q1, q2⟩ := at_step hi hc' trivial
                  have hadd : ar .add .i64 i 1 = i + 1 := by rw [har]; exact at_add (Nat.le_trans hs (by decide)) hi hc'
                  have hnext := other_next (ks := ks) hi hc'
                  have hnbl : nb ≤ l.length := by rw [hnb, hZ2, tokE_len]; exact other_len
                  generalize ht : tokAt l i = t at hix hnext
                  obtain ⟨tr, ts, ta⟩ := t
                  have hcK := refKind_calls ks tr ts ta
                  rw [← hK] at hcK
                  dsimp only at hnext
                  generalize kindOf ks tr = q at hcK hnext
                  cbv
                  rw [hix]; cbv
                  refine hcal ⟨_, [], _, _, .inl ⟨rfl, by cbv⟩, hcK, by simp, ?_⟩
                  cbv
                  cases he : eq q 0
                  · have k0 : q ≠ 0 := by rw [heq] at he; exact of_decide_eq_false he
                    rw [if_neg k0] at hnext
                    obtain ⟨n', hn'⟩ : ∃ n', n' = nb + 1 := ⟨_, rfl⟩
                    obtain ⟨Y', hY'⟩ : ∃ Y', Y' = Z2 ++ [tokC ⟨tr, ts, ta⟩] := ⟨_, rfl⟩
                    have hYn : Y' = tokE (otherK ks (l.take (i + 1).toNat)) := by rw [hY', hZ2, hnext, tokE_app]; rfl
                    have hle' : n' ≤ 1000000 := by omega
                    cbv
                    rw [hix]; cbv
                    rw [happ, app34_tip (X := Z2) (Y := Y') (n' := n') (by rfl) (by rfl) rfl hnb hn' hY' hle']; cbv
                    rw [hadd]
                    generalize i + 1 = i2 at q1 q2 hYn ⊢
                    exact ⟨[137], [0, 1, 13, 14, 15], 16, left l.length i2, hk ▸ q2, by simp, i2, q1, rfl, n', Y', hYn, by rw [hY', hn', hnb]; simp, cut_eq (by cbv) (cutRows_cons (by rfl) (by rw [hYn]; exact tok_closed) rfl)⟩
                  · have k0 : q = 0 := by rw [heq] at he; exact of_decide_eq_true he
                    rw [if_pos k0, List.append_nil] at hnext
                    rw [← hnext] at hZ2
                    cbv
                    rw [hadd]
                    generalize i + 1 = i2 at q1 q2 hZ2 ⊢
                    exact ⟨[0], [0, 1, 13, 14, 15], 16, left l.length i2, hk ▸ q2, by simp, i2, q1, rfl, nb, Z2, hZ2, hnb, cut_eq (by cbv) (cutRows_cons (by rfl) (by rw [hZ2]; exact tok_closed) rfl)⟩
            · refine hcal ⟨_, [], _, _, .inl ⟨rfl, by cbv⟩, hcO, by simp, ?_⟩
              cbv
              refine MW_loop hm [48, 56] [0, 1, 13, 14, 15] 16 (by simp) (fun k st => ∃ i : Int, At (fun _ => True) l i ∧ k = left l.length i ∧ ∃ (nb : Nat) (Z2 : List (List AV)), Z2 = tokE (otherK ks (l.take i.toNat)) ∧ nb = Z2.length ∧ st = stOf [.ro K, .ro X, .dead, .dead, .dead, .dead, .dead, .dead, .dead, .dead, .dead, .dead, .dead, .sl 0 0 mo, .sl 1 0 nb, .flat (.int .i64 i)] [some ⟨34, O⟩, some ⟨34, Z2⟩] 2) (left l.length 0) ?_ ?_
              · exact ⟨0, at_zero l, rfl, 0, [], rfl, rfl, cut_eq (by cbv) (cutRows_cons (by rfl) (by rw [hO]; exact tok_closed) (cutRows_cons (by rfl) (fun c hc => by cases hc) rfl))⟩
              · rintro k st ⟨i, hi, hk, nb, Z2, hZ2, hnb, rfl⟩
                cbv
                cases hc : lt i (len X)
                · have hc' : decide (i < (l.length : Int)) = false := by rw [hlt, hn] at hc; exact hc
                  rw [other_end hi hc', ← hB] at hZ2
                  subst hZ2
                  cbv
                  rcases hcM1 with ⟨hX0, hcM1⟩ | ⟨mx, hmx0, hmx, hcM1⟩
                  · rcases hcM2 with ⟨hX0', hcM2⟩ | ⟨mx2, hmx20, hmx2, hcM2⟩
                    rotate_left
                    · exfalso; apply hmx20; rw [hmx2, hX0]; rfl
                    refine hcal ⟨[.ro O, .ro Z2], [0, 1], _, _, hands_deep ⟨deep_flat (by simp) (by rfl) hmo hfO, deep_flat (by simp) (by rfl) hnb hfB, trivial⟩ rfl (fun r hr => by cases hr), hcM1, by simp, ?_⟩
                    cbv
                    rw [hX0] at hcS
                    refine hcal ⟨[.ro [], .ro []], [], _, _, hands_deep ⟨.nil, by rw [hX0]; exact .id rfl, trivial⟩ rfl (fun r hr => by cases hr), hcS, by simp, ?_⟩
                    cbv
                    refine hcal ⟨[.ro Z2, .ro O], [0, 1], _, _, hands_deep ⟨deep_flat (by simp) (by rfl) hnb hfB, deep_flat (by simp) (by rfl) hmo hfO, trivial⟩ rfl (fun r hr => by cases hr), hcM2, by simp, ?_⟩
                    cbv
                    refine hcal ⟨[.ro [], .ro []], [], _, _, hands_deep ⟨.nil, by rw [hX0]; exact .id rfl, trivial⟩ rfl (fun r hr => by cases hr), hcS, by simp, ?_⟩
                    cbv
                    exact hQ _ _ trivial (hfin _ (by cbv))
                  · rcases hcM2 with ⟨hX0', hcM2⟩ | ⟨mx2, hmx20, hmx2, hcM2⟩
                    · exfalso; apply hmx0; rw [hmx, hX0']; rfl
                    refine hcal ⟨[.ro O, .ro Z2], [0, 1], _, _, hands_deep ⟨deep_flat (by simp) (by rfl) hmo hfO, deep_flat (by simp) (by rfl) hnb hfB, trivial⟩ rfl (noRo_flat hfX), hcM1, by simp, ?_⟩
                    cbv
                    refine hcal ⟨[.ro X, .ro X], [50], _, _, hands_deep ⟨deep_flat (by simp) (by rfl) hmx hfX, .id rfl, trivial⟩ rfl (fun r hr => by cases hr), hcS, by simp, ?_⟩
                    cbv
                    refine hcal ⟨[.ro Z2, .ro O], [0, 1], _, _, hands_deep ⟨deep_flat (by simp) (by rfl) hnb hfB, deep_flat (by simp) (by rfl) hmo hfO, trivial⟩ rfl (noRo_flat hfX), hcM2, by simp, ?_⟩
                    cbv
                    refine hcal ⟨[.ro X, .ro X], [98], _, _, hands_deep ⟨deep_flat (by simp) (by rfl) hmx2 hfX, .id rfl, trivial⟩ rfl (fun r hr => by cases hr), hcS, by simp, ?_⟩
                    cbv
                    exact hQ _ _ trivial (hfin _ (by cbv))
                · have hc' : decide (i < (l.length : Int)) = true := by rw [hlt, hn] at hc; exact hc
                  obtain ⟨_, hi0, hi1⟩ := at_lt hi hc'
                  have hix := hnth' i hi0 hi1
                  obtain ⟨q1, q2⟩ := at_step hi hc' trivial
                  have hadd : ar .add .i64 i 1 = i + 1 := by rw [har]; exact at_add (Nat.le_trans hs (by decide)) hi hc'
                  have hnext := other_next (ks := ks) hi hc'
                  have hnbl : nb ≤ l.length := by rw [hnb, hZ2, tokE_len]; exact other_len
                  generalize ht : tokAt l i = t at hix hnext
                  obtain ⟨tr, ts, ta⟩ := t
                  have hcK := refKind_calls ks tr ts ta
                  rw [← hK] at hcK
                  dsimp only at hnext
                  generalize kindOf ks tr = q at hcK hnext
                  cbv
                  rw [hix]; cbv
                  refine hcal ⟨_, [], _, _, .inl ⟨rfl, by cbv⟩, hcK, by simp, ?_⟩
                  cbv
                  cases he : eq q 0
                  · have k0 : q ≠ 0 := by rw [heq] at he; exact of_decide_eq_false he
                    rw [if_neg k0] at hnext
                    obtain ⟨n', hn'⟩ : ∃ n', n' = nb + 1 := ⟨_, rfl⟩
                    obtain ⟨Y', hY'⟩ : ∃ Y', Y' = Z2 ++ [tokC ⟨tr, ts, ta⟩] := ⟨_, rfl⟩
                    have hYn : Y' = tokE (otherK ks (l.take (i + 1).toNat)) := by rw [hY', hZ2, hnext, tokE_app]; rfl
                    have hle' : n' ≤ 1000000 := by omega
                    cbv
                    rw [hix]; cbv
                    rw [happ, app34_tip (X := Z2) (Y := Y') (n' := n') (by rfl) (by rfl) rfl hnb hn' hY' hle']; cbv
                    rw [hadd]
                    generalize i + 1 = i2 at q1 q2 hYn ⊢
                    exact ⟨[0, 138], [0, 1, 13, 14, 15], 16, left l.length i2, hk ▸ q2, by simp, i2, q1, rfl, n', Y', hYn, by rw [hY', hn', hnb]; simp, cut_eq (by cbv) (cutRows_cons (by rfl) (by rw [hO]; exact tok_closed) (cutRows_cons (by rfl) (by rw [hYn]; exact tok_closed) rfl))⟩
                  · have k0 : q = 0 := by rw [heq] at he; exact of_decide_eq_true he
                    rw [if_pos k0, List.append_nil] at hnext
                    rw [← hnext] at hZ2
                    cbv
                    rw [hadd]
                    generalize i + 1 = i2 at q1 q2 hZ2 ⊢
                    exact ⟨[0, 1], [0, 1, 13, 14, 15], 16, left l.length i2, hk ▸ q2, by simp, i2, q1, rfl, nb, Z2, hZ2, hnb, cut_eq (by cbv) (cutRows_cons (by rfl) (by rw [hO]; exact tok_closed) (cutRows_cons (by rfl) (by rw [hZ2]; exact tok_closed) rfl))⟩
end Go.Proofs.Ythilmgpciiopnaa.K
