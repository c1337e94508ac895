/- Contracts: lanes.Merge: two rows by their places. -/
import Derived.Test.YthilmgpciiopnaaK13
namespace Go.Proofs.Ythilmgpciiopnaa.K
set_option linter.unusedVariables false
set_option linter.unusedSimpArgs false
open Go G
set_option maxRecDepth 100000
set_option maxHeartbeats 4000000
theorem fn24 : Try.prog.funcs[24]? = some Try.f24 := by kernel_rfl
def mergeT : List Tok → List Tok → List Tok
  | [], b => b
  | a, [] => a
  | x :: a, y :: b => if decide (x.a ≤ y.a) = true then x :: mergeT a (y :: b) else y :: mergeT (x :: a) b
termination_by a b => a.length + b.length
theorem merge_nil (b : List Tok) : mergeT [] b = b := by rw [mergeT]
theorem merge_nil2 (a : List Tok) : mergeT a [] = a := by cases a <;> rw [mergeT]; simp
theorem merge_cons (x y : Tok) (a b : List Tok) : mergeT (x :: a) (y :: b) = if decide (x.a ≤ y.a) = true then x :: mergeT a (y :: b) else y :: mergeT (x :: a) b := by rw [mergeT]
theorem slc_tail (T : Table) (t : Tok) (l : List Tok) : evSlice Try.prog T 28 (.ro (tokE (t :: l))) (some (.flat (.int .i64 1))) none = some (.ro (tokE l)) := by
  have h : ∀ c ∈ tokE (t :: l), c.length = 3 := fun c hc => by obtain ⟨u, _, rfl⟩ := List.mem_map.1 hc; rfl
  simp only [evSlice, u28, z34, if_pos h]
  simp [bndsA, hiA, loA, intOf, tokE, List.take_of_length_le]
  omega
theorem nth_head (t : Tok) (l : List Tok) : nthE (tokE (t :: l)) 0 3 = some (.rp (tokC t)) := by
  simp [nthE, tokE, tokC]
theorem merge_len : ∀ (a b : List Tok), (mergeT a b).length = a.length + b.length
  | [], b => by rw [merge_nil]; simp
  | x :: a, [] => by rw [merge_nil2]; simp
  | x :: a, y :: b => by
    rw [merge_cons]
    split
    · rw [List.length_cons, merge_len a (y :: b)]; simp; omega
    · rw [List.length_cons, merge_len (x :: a) b]; simp; omega
termination_by a b => a.length + b.length

theorem merge_calls (a b : List Tok) (hs : a.length + b.length ≤ 1000) : ACalls Try.prog 24 [.ro (tokE a), .ro (tokE b)] (fun n => slV n (mergeT a b).length) (fun _ => slR 34 (tokE (mergeT a b))) := by
  refine acalls_sym tab_ok fn24 rfl rfl rfl (by kernel_rfl) ?_
  generalize hMab : mergeT a b = M
  obtain ⟨X, hX⟩ : ∃ X, X = tokE a := ⟨_, rfl⟩
  obtain ⟨Y, hY⟩ : ∃ Y, Y = tokE b := ⟨_, rfl⟩
  rw [← hX, ← hY]
  rintro ⟨lt, le, eq, se, ar, dv, una, conv, len, sln, nat, nth, ixs, cel, sto, app, cpy, slc, mak, ixv, oth, dk, ib, call⟩ hS hm Q hQ
  obtain ⟨hlt, hle, heq, hse, har, hdv, huna, hconv, hlen, hsln, hnat, hnth, hixs, hcel, hsto, happ, hcpy, hslc, hmak, hixv, hoth, hdk, hib, hcall⟩ := Sym.mk.inj hS
  clear hS
  have hbox : ∀ e c off, cel (some ⟨e, [c]⟩) 0 off = if off ≤ c.length then some (c.drop off) else none := fun e c off => by rw [hcel]; rfl
  have hsbox : ∀ e c off sz y, sto (some ⟨e, [c]⟩) 0 off sz y = if y.cells.length = sz ∧ off + sz ≤ c.length ∧ y.cells.all AV.one = true then some ⟨e, [spl c off y.cells]⟩ else none := fun e c off sz y => by rw [hsto]; rfl
  have hcal : ∀ {f args T base K}, CallK Try.prog f args T base K → call f args T base K := fun h => by rw [hcall]; exact h
  have hlz : lt 0 (len (tokE [])) = false := by rw [hlt, hlen]; rfl
  have hls : ∀ t l, lt 0 (len (tokE (t :: l))) = true := fun t l => by rw [hlt, hlen, len_tok]; exact decide_eq_true (by simp only [List.length_cons]; omega)
  have hez : eq (len (tokE [])) 0 = true := by rw [heq, hlen]; rfl
  have hes : ∀ t l, eq (len (tokE (t :: l))) 0 = false := fun t l => by rw [heq, hlen, len_tok]; exact decide_eq_false (by simp only [List.length_cons]; omega)
  have hnh : ∀ t l, nth (tokE (t :: l)) 0 3 = some (.rp (tokC t)) := fun t l => by rw [hnth]; exact nth_head t l
  have hsl : ∀ T t l, slc T 28 (.ro (tokE (t :: l))) (some (.flat (.int .i64 1))) none = some (.ro (tokE l)) := fun T t l => by rw [hslc]; exact slc_tail T t l
  cbv
  refine MW_loop hm [] [0, 1, 5] 6 List.nodup_nil (fun k st => ∃ (a' b' : List Tok) (X Y : List (List AV)), X = tokE a' ∧ Y = tokE b' ∧ k = a'.length + b'.length ∧ a'.length + b'.length ≤ 1000 ∧
    ((M = mergeT a' b' ∧ st = stOf [.ro X, .ro Y, .dead, .dead, .dead, .flat (.slice none 0 0)] [] 0) ∨
     ∃ (out : List Tok) (n : Nat) (Z : List (List AV)), n ≠ 0 ∧ M = out ++ mergeT a' b' ∧ out.length + a'.length + b'.length ≤ 1000 ∧ Z = tokE out ∧ n = Z.length ∧ st = stOf [.ro X, .ro Y, .dead, .dead, .dead, .sl 0 0 n] [some ⟨34, Z⟩] 1)) (a.length + b.length) ?_ ?_
  · exact ⟨a, b, X, Y, hX, hY, rfl, hs, .inl ⟨hMab.symm, cut_eq (by cbv) (by cbv)⟩⟩
  · clear hX hY hs hMab X Y a b
    rintro k st ⟨a, b, X, Y, hX, hY, hk, hs, ⟨hM, rfl⟩ | ⟨out, n, Z, hn0, hM, hol, hZ, hnZ, rfl⟩⟩
    · rcases a with _ | ⟨⟨xr, xs, xa⟩, a⟩ <;> rcases b with _ | ⟨⟨yr, ys, ya⟩, b⟩
      · have hla := hlz
        have hlb := hlz
        have hea := hez
        have heb := hez
        rw [← hX] at hla hea
        rw [← hY] at hlb heb
        cbv
        rw [hla]; cbv
        rw [hlb]; cbv
        refine hQ _ _ trivial ?_
        have hM' : M = [] := by rw [hM, merge_nil]
        rw [hM']
        exact G.Leaves.plain (x := .flat (.slice none 0 0)) (by cbv) rfl
      · have hla := hlz
        have hlb := hls ⟨yr, ys, ya⟩ b
        have hea := hez
        have heb := hes ⟨yr, ys, ya⟩ b
        have hnb := hnh ⟨yr, ys, ya⟩ b
        have hsb := fun T => hsl T ⟨yr, ys, ya⟩ b
        obtain ⟨Y2, hY2⟩ : ∃ Y2, Y2 = tokE b := ⟨_, rfl⟩
        rw [← hY] at hnb
        rw [← hY2] at hsb
        simp only [← hY] at hsb
        rw [← hX] at hla hea
        rw [← hY] at hlb heb
        cbv
        rw [hla]; cbv
        rw [hlb]; cbv
        refine ⟨by rw [hdk]; kernel_rfl, ?_⟩
        rw [heb]; cbv
        rw [hla]; cbv
        refine ⟨by rw [hib]; kernel_rfl, ?_⟩
        cbv
        rw [hnb]; cbv
        rw [happ, app34_nil (by rfl) rfl]; cbv
        rw [hsb]; cbv
        refine ⟨[256], [0, 1, 5], 6, _, ?_, by simp, [], b, X, Y2, hX, hY2, rfl, by simp at hs ⊢; omega, .inr ⟨[⟨yr, ys, ya⟩], 1, [tokC ⟨yr, ys, ya⟩], by first | decide | omega, ?_, by simp at hs ⊢; first | omega | (simp at hol; omega), rfl, rfl, cut_eq (by cbv) (cutRows1 (by rfl) (tok_closed (l := [⟨yr, ys, ya⟩])))⟩⟩
        · rw [hk]; simp only [List.length_cons, List.length_nil]; omega
        · rw [hM]; first | (rw [merge_cons, if_pos hle']; simp) | (rw [merge_cons, if_neg hle']; simp) | simp [merge_nil, merge_nil2]
      · have hla := hls ⟨xr, xs, xa⟩ a
        have hlb := hlz
        have hea := hes ⟨xr, xs, xa⟩ a
        have heb := hez
        have hna := hnh ⟨xr, xs, xa⟩ a
        have hsa := fun T => hsl T ⟨xr, xs, xa⟩ a
        obtain ⟨X2, hX2⟩ : ∃ X2, X2 = tokE a := ⟨_, rfl⟩
        rw [← hX] at hna
        rw [← hX2] at hsa
        simp only [← hX] at hsa
        rw [← hX] at hla hea
        rw [← hY] at hlb heb
        cbv
        rw [hla]; cbv
        refine ⟨by rw [hdk]; kernel_rfl, ?_⟩
        rw [heb]; cbv
        refine ⟨by rw [hib]; kernel_rfl, ?_⟩
        cbv
        rw [hna]; cbv
        rw [happ, app34_nil (by rfl) rfl]; cbv
        rw [hsa]; cbv
        refine ⟨[256], [0, 1, 5], 6, _, ?_, by simp, a, [], X2, Y, hX2, hY, rfl, by simp at hs ⊢; omega, .inr ⟨[⟨xr, xs, xa⟩], 1, [tokC ⟨xr, xs, xa⟩], by first | decide | omega, ?_, by simp at hs ⊢; first | omega | (simp at hol; omega), rfl, rfl, cut_eq (by cbv) (cutRows1 (by rfl) (tok_closed (l := [⟨xr, xs, xa⟩])))⟩⟩
        · rw [hk]; simp only [List.length_cons, List.length_nil]; omega
        · rw [hM]; first | (rw [merge_cons, if_pos hle']; simp) | (rw [merge_cons, if_neg hle']; simp) | simp [merge_nil, merge_nil2]
      · have hla := hls ⟨xr, xs, xa⟩ a
        have hlb := hls ⟨yr, ys, ya⟩ b
        have hea := hes ⟨xr, xs, xa⟩ a
        have heb := hes ⟨yr, ys, ya⟩ b
        have hna := hnh ⟨xr, xs, xa⟩ a
        have hsa := fun T => hsl T ⟨xr, xs, xa⟩ a
        obtain ⟨X2, hX2⟩ : ∃ X2, X2 = tokE a := ⟨_, rfl⟩
        rw [← hX] at hna
        rw [← hX2] at hsa
        have hnb := hnh ⟨yr, ys, ya⟩ b
        have hsb := fun T => hsl T ⟨yr, ys, ya⟩ b
        obtain ⟨Y2, hY2⟩ : ∃ Y2, Y2 = tokE b := ⟨_, rfl⟩
        rw [← hY] at hnb
        rw [← hY2] at hsb
        simp only [← hX] at hsa
        simp only [← hY] at hsb
        rw [← hX] at hla hea
        rw [← hY] at hlb heb
        cbv
        rw [hla]; cbv
        refine ⟨by rw [hdk]; kernel_rfl, ?_⟩
        rw [heb]; cbv
        rw [hla]; cbv
        rw [hna]; cbv
        rw [hnb]; cbv
        cases hle0 : le xa ya
        · have hle' : ¬ decide (xa ≤ ya) = true := by have h : decide (xa ≤ ya) = false := (by rw [hle] at hle0; exact hle0); rw [h]; simp
          cbv
          refine ⟨by rw [hib]; kernel_rfl, ?_⟩
          cbv
          rw [hnb]; cbv
          rw [happ, app34_nil (by rfl) rfl]; cbv
          rw [hsb]; cbv
          refine ⟨[256], [0, 1, 5], 6, _, ?_, by simp, (⟨xr, xs, xa⟩ :: a), b, X, Y2, hX, hY2, rfl, by simp at hs ⊢; omega, .inr ⟨[⟨yr, ys, ya⟩], 1, [tokC ⟨yr, ys, ya⟩], by first | decide | omega, ?_, by simp at hs ⊢; first | omega | (simp at hol; omega), rfl, rfl, cut_eq (by cbv) (cutRows1 (by rfl) (tok_closed (l := [⟨yr, ys, ya⟩])))⟩⟩
          · rw [hk]; simp only [List.length_cons, List.length_nil]; omega
          · rw [hM]; first | (rw [merge_cons, if_pos hle']; simp) | (rw [merge_cons, if_neg hle']; simp) | simp [merge_nil, merge_nil2]
        · have hle' : decide (xa ≤ ya) = true := by rw [hle] at hle0; exact hle0
          cbv
          refine ⟨by rw [hib]; kernel_rfl, ?_⟩
          cbv
          rw [hna]; cbv
          rw [happ, app34_nil (by rfl) rfl]; cbv
          rw [hsa]; cbv
          refine ⟨[256], [0, 1, 5], 6, _, ?_, by simp, a, (⟨yr, ys, ya⟩ :: b), X2, Y, hX2, hY, rfl, by simp at hs ⊢; omega, .inr ⟨[⟨xr, xs, xa⟩], 1, [tokC ⟨xr, xs, xa⟩], by first | decide | omega, ?_, by simp at hs ⊢; first | omega | (simp at hol; omega), rfl, rfl, cut_eq (by cbv) (cutRows1 (by rfl) (tok_closed (l := [⟨xr, xs, xa⟩])))⟩⟩
          · rw [hk]; simp only [List.length_cons, List.length_nil]; omega
          · rw [hM]; first | (rw [merge_cons, if_pos hle']; simp) | (rw [merge_cons, if_neg hle']; simp) | simp [merge_nil, merge_nil2]
    · rcases a with _ | ⟨⟨xr, xs, xa⟩, a⟩ <;> rcases b with _ | ⟨⟨yr, ys, ya⟩, b⟩
      · have hla := hlz
        have hlb := hlz
        have hea := hez
        have heb := hez
        rw [← hX] at hla hea
        rw [← hY] at hlb heb
        cbv
        rw [hla]; cbv
        rw [hlb]; cbv
        have hM' : M = out := by rw [hM, merge_nil, List.append_nil]
        refine hQ _ _ trivial ?_
        have e1 : out.length = n := by rw [hnZ, hZ, tokE_len]
        rw [hM', e1, ← hZ]
        have e2 : slR 34 Z = [⟨34, Z⟩] := by unfold slR; rw [if_neg (by rw [← hnZ]; exact hn0)]
        have e3 : (fun m => slV m n) = fun m => AV.sl m 0 n := by funext m; unfold slV; rw [if_neg hn0]
        rw [e2, e3]
        exact G.Leaves.row (k := 0) (r := ⟨34, Z⟩) (by cbv) (by rfl) (fun e he => by rw [hZ] at he; exact tok_closed e he)
      · have hla := hlz
        have hlb := hls ⟨yr, ys, ya⟩ b
        have hea := hez
        have heb := hes ⟨yr, ys, ya⟩ b
        have hnb := hnh ⟨yr, ys, ya⟩ b
        have hsb := fun T => hsl T ⟨yr, ys, ya⟩ b
        obtain ⟨Y2, hY2⟩ : ∃ Y2, Y2 = tokE b := ⟨_, rfl⟩
        rw [← hY] at hnb
        rw [← hY2] at hsb
        simp only [← hY] at hsb
        rw [← hX] at hla hea
        rw [← hY] at hlb heb
        obtain ⟨n', hn'⟩ : ∃ n', n' = n + 1 := ⟨_, rfl⟩
        have hol' := hol
        simp only [List.length_cons, List.length_nil] at hol'
        have hZl : out.length = n := by rw [hnZ, hZ, tokE_len]
        cbv
        rw [hla]; cbv
        rw [hlb]; cbv
        refine ⟨by rw [hdk]; kernel_rfl, ?_⟩
        rw [heb]; cbv
        rw [hla]; cbv
        refine ⟨by rw [hib]; kernel_rfl, ?_⟩
        cbv
        obtain ⟨Z', hZb⟩ : ∃ Z', Z' = Z ++ [tokC ⟨yr, ys, ya⟩] := ⟨_, rfl⟩
        rw [hnb]; cbv
        rw [happ, app34_tip (X := Z) (Y := Z') (n' := n') (by rfl) (by rfl) rfl hnZ hn' hZb (by omega)]; cbv
        rw [hsb]; cbv
        refine ⟨[257], [0, 1, 5], 6, _, ?_, by simp, [], b, X, Y2, hX, hY2, rfl, by simp at hs ⊢; omega, .inr ⟨(out ++ [⟨yr, ys, ya⟩]), n', Z', by first | decide | omega, ?_, by simp at hs ⊢; first | omega | (simp at hol; omega), (by rw [hZb, hZ, tokE_app]; rfl), (by rw [hZb, hn', hnZ, List.length_append]; rfl), cut_eq (by cbv) (cutRows1 (by rfl) (by rw [hZb, hZ, show [tokC ⟨yr, ys, ya⟩] = tokE [⟨yr, ys, ya⟩] from rfl, ← tokE_app]; exact tok_closed))⟩⟩
        · rw [hk]; simp only [List.length_cons, List.length_nil]; omega
        · rw [hM]; first | (rw [merge_cons, if_pos hle']; simp) | (rw [merge_cons, if_neg hle']; simp) | simp [merge_nil, merge_nil2]
      · have hla := hls ⟨xr, xs, xa⟩ a
        have hlb := hlz
        have hea := hes ⟨xr, xs, xa⟩ a
        have heb := hez
        have hna := hnh ⟨xr, xs, xa⟩ a
        have hsa := fun T => hsl T ⟨xr, xs, xa⟩ a
        obtain ⟨X2, hX2⟩ : ∃ X2, X2 = tokE a := ⟨_, rfl⟩
        rw [← hX] at hna
        rw [← hX2] at hsa
        simp only [← hX] at hsa
        rw [← hX] at hla hea
        rw [← hY] at hlb heb
        obtain ⟨n', hn'⟩ : ∃ n', n' = n + 1 := ⟨_, rfl⟩
        have hol' := hol
        simp only [List.length_cons, List.length_nil] at hol'
        have hZl : out.length = n := by rw [hnZ, hZ, tokE_len]
        cbv
        rw [hla]; cbv
        refine ⟨by rw [hdk]; kernel_rfl, ?_⟩
        rw [heb]; cbv
        refine ⟨by rw [hib]; kernel_rfl, ?_⟩
        cbv
        obtain ⟨Z', hZa⟩ : ∃ Z', Z' = Z ++ [tokC ⟨xr, xs, xa⟩] := ⟨_, rfl⟩
        rw [hna]; cbv
        rw [happ, app34_tip (X := Z) (Y := Z') (n' := n') (by rfl) (by rfl) rfl hnZ hn' hZa (by omega)]; cbv
        rw [hsa]; cbv
        refine ⟨[257], [0, 1, 5], 6, _, ?_, by simp, a, [], X2, Y, hX2, hY, rfl, by simp at hs ⊢; omega, .inr ⟨(out ++ [⟨xr, xs, xa⟩]), n', Z', by first | decide | omega, ?_, by simp at hs ⊢; first | omega | (simp at hol; omega), (by rw [hZa, hZ, tokE_app]; rfl), (by rw [hZa, hn', hnZ, List.length_append]; rfl), cut_eq (by cbv) (cutRows1 (by rfl) (by rw [hZa, hZ, show [tokC ⟨xr, xs, xa⟩] = tokE [⟨xr, xs, xa⟩] from rfl, ← tokE_app]; exact tok_closed))⟩⟩
        · rw [hk]; simp only [List.length_cons, List.length_nil]; omega
        · rw [hM]; first | (rw [merge_cons, if_pos hle']; simp) | (rw [merge_cons, if_neg hle']; simp) | simp [merge_nil, merge_nil2]
      · have hla := hls ⟨xr, xs, xa⟩ a
        have hlb := hls ⟨yr, ys, ya⟩ b
        have hea := hes ⟨xr, xs, xa⟩ a
        have heb := hes ⟨yr, ys, ya⟩ b
        have hna := hnh ⟨xr, xs, xa⟩ a
        have hsa := fun T => hsl T ⟨xr, xs, xa⟩ a
        obtain ⟨X2, hX2⟩ : ∃ X2, X2 = tokE a := ⟨_, rfl⟩
        rw [← hX] at hna
        rw [← hX2] at hsa
        have hnb := hnh ⟨yr, ys, ya⟩ b
        have hsb := fun T => hsl T ⟨yr, ys, ya⟩ b
        obtain ⟨Y2, hY2⟩ : ∃ Y2, Y2 = tokE b := ⟨_, rfl⟩
        rw [← hY] at hnb
        rw [← hY2] at hsb
        simp only [← hX] at hsa
        simp only [← hY] at hsb
        rw [← hX] at hla hea
        rw [← hY] at hlb heb
        obtain ⟨n', hn'⟩ : ∃ n', n' = n + 1 := ⟨_, rfl⟩
        have hol' := hol
        simp only [List.length_cons, List.length_nil] at hol'
        have hZl : out.length = n := by rw [hnZ, hZ, tokE_len]
        cbv
        rw [hla]; cbv
        refine ⟨by rw [hdk]; kernel_rfl, ?_⟩
        rw [heb]; cbv
        rw [hla]; cbv
        rw [hna]; cbv
        rw [hnb]; cbv
        cases hle0 : le xa ya
        · have hle' : ¬ decide (xa ≤ ya) = true := by have h : decide (xa ≤ ya) = false := (by rw [hle] at hle0; exact hle0); rw [h]; simp
          cbv
          refine ⟨by rw [hib]; kernel_rfl, ?_⟩
          cbv
          obtain ⟨Z', hZb⟩ : ∃ Z', Z' = Z ++ [tokC ⟨yr, ys, ya⟩] := ⟨_, rfl⟩
          rw [hnb]; cbv
          rw [happ, app34_tip (X := Z) (Y := Z') (n' := n') (by rfl) (by rfl) rfl hnZ hn' hZb (by omega)]; cbv
          rw [hsb]; cbv
          refine ⟨[257], [0, 1, 5], 6, _, ?_, by simp, (⟨xr, xs, xa⟩ :: a), b, X, Y2, hX, hY2, rfl, by simp at hs ⊢; omega, .inr ⟨(out ++ [⟨yr, ys, ya⟩]), n', Z', by first | decide | omega, ?_, by simp at hs ⊢; first | omega | (simp at hol; omega), (by rw [hZb, hZ, tokE_app]; rfl), (by rw [hZb, hn', hnZ, List.length_append]; rfl), cut_eq (by cbv) (cutRows1 (by rfl) (by rw [hZb, hZ, show [tokC ⟨yr, ys, ya⟩] = tokE [⟨yr, ys, ya⟩] from rfl, ← tokE_app]; exact tok_closed))⟩⟩
          · rw [hk]; simp only [List.length_cons, List.length_nil]; omega
          · rw [hM]; first | (rw [merge_cons, if_pos hle']; simp) | (rw [merge_cons, if_neg hle']; simp) | simp [merge_nil, merge_nil2]
        · have hle' : decide (xa ≤ ya) = true := by rw [hle] at hle0; exact hle0
          cbv
          refine ⟨by rw [hib]; kernel_rfl, ?_⟩
          cbv
          obtain ⟨Z', hZa⟩ : ∃ Z', Z' = Z ++ [tokC ⟨xr, xs, xa⟩] := ⟨_, rfl⟩
          rw [hna]; cbv
          rw [happ, app34_tip (X := Z) (Y := Z') (n' := n') (by rfl) (by rfl) rfl hnZ hn' hZa (by omega)]; cbv
          rw [hsa]; cbv
          refine ⟨[257], [0, 1, 5], 6, _, ?_, by simp, a, (⟨yr, ys, ya⟩ :: b), X2, Y, hX2, hY, rfl, by simp at hs ⊢; omega, .inr ⟨(out ++ [⟨xr, xs, xa⟩]), n', Z', by first | decide | omega, ?_, by simp at hs ⊢; first | omega | (simp at hol; omega), (by rw [hZa, hZ, tokE_app]; rfl), (by rw [hZa, hn', hnZ, List.length_append]; rfl), cut_eq (by cbv) (cutRows1 (by rfl) (by rw [hZa, hZ, show [tokC ⟨xr, xs, xa⟩] = tokE [⟨xr, xs, xa⟩] from rfl, ← tokE_app]; exact tok_closed))⟩⟩
          · rw [hk]; simp only [List.length_cons, List.length_nil]; omega
          · rw [hM]; first | (rw [merge_cons, if_pos hle']; simp) | (rw [merge_cons, if_neg hle']; simp) | simp [merge_nil, merge_nil2]
end Go.Proofs.Ythilmgpciiopnaa.K
