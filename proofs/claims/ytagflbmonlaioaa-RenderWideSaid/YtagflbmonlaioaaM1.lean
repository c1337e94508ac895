/- Render: H1, H2, H3. -/
import Derived.Test.YtagflbmonlaioaaE7
namespace Go.Proofs.Ytagflbmonlaioaa.D
open Go G U K
set_option linter.unusedVariables false
set_option linter.unusedSimpArgs false
set_option maxRecDepth 100000
set_option maxHeartbeats 4000000
theorem fn69 : Try.prog.funcs[69]? = some Try.f69 := by kernel_rfl
theorem fn70 : Try.prog.funcs[70]? = some Try.f70 := by kernel_rfl
/-! ### The column -/
def colB (bs : List UInt8) : Int := bs.foldl (fun c b => if b = 10 then 0 else c + 1) 0
theorem colB_app (a b : List UInt8) : colB (a ++ b) = b.foldl (fun c b => if b = 10 then 0 else c + 1) (colB a) := List.foldl_append
theorem colB_one (a : List UInt8) (b : UInt8) : colB (a ++ [b]) = if b = 10 then 0 else colB a + 1 := by rw [colB_app]; rfl
theorem fold_bd : ∀ (bs : List UInt8) (c : Int), 0 ≤ c → 0 ≤ bs.foldl (fun c b => if b = 10 then 0 else c + 1) c ∧ bs.foldl (fun c b => if b = 10 then 0 else c + 1) c ≤ c + bs.length
  | [], c, h => ⟨h, by simp⟩
  | b :: bs, c, h => by
    simp only [List.foldl_cons, List.length_cons]
    split
    · have := fold_bd bs 0 (by omega); omega
    · have := fold_bd bs (c + 1) (by omega); omega
theorem colB_bd (bs : List UInt8) : 0 ≤ colB bs ∧ colB bs ≤ bs.length := by
  have := fold_bd bs 0 (by omega)
  exact ⟨this.1, by have := this.2; unfold colB; omega⟩
theorem fold_rep : ∀ (n : Nat) (c : Int), (List.replicate n (32 : UInt8)).foldl (fun c b => if b = 10 then 0 else c + 1) c = c + n
  | 0, c => by simp
  | n + 1, c => by
    rw [List.replicate_succ, List.foldl_cons, fold_rep n, if_neg (by decide)]; omega
theorem colB_line (bs : List UInt8) {n : Int} (h : 0 ≤ n) : colB (bs ++ lineB n) = n := by
  rw [colB_app]
  unfold lineB
  rw [List.foldl_cons, if_pos rfl, fold_rep]; omega
theorem str_at {s : ByteArray} {i : Int} (h0 : 0 ≤ i) (h1 : i < s.size) : ∃ (v : Int) (b : UInt8), evP Try.prog (Instr.index 9 (.string s) (.int .i64 i)) = some (.flat (.int .u8 v)) ∧ decide (v = 10) = decide (b = 10) ∧ decide (v = 32) = decide (b = 32) ∧ (bts s).take (i + 1).toNat = (bts s).take i.toNat ++ [b] := by
  have hl : i.toNat < (bts s).length := by rw [bts_len]; omega
  refine ⟨_, (bts s).getD i.toNat 0, ix_str u9 h0 h1, ?_, ?_, ?_⟩
  · rw [decide_eq_decide]
    exact ⟨fun h => UInt8.toNat_inj.1 (by have h2 : ((10 : UInt8).toNat : Int) = 10 := rfl; exact Int.ofNat.inj (by rw [← h2] at h; exact h)), fun h => by unfold bts at h; rw [h]; rfl⟩
  · rw [decide_eq_decide]
    exact ⟨fun h => UInt8.toNat_inj.1 (by have h2 : ((32 : UInt8).toNat : Int) = 32 := rfl; exact Int.ofNat.inj (by rw [← h2] at h; exact h)), fun h => by unfold bts at h; rw [h]; rfl⟩
  · rw [show (i + 1).toNat = i.toNat + 1 by omega, List.take_add_one, List.getElem?_eq_getElem hl]
    simp [List.getD, List.getElem?_eq_getElem hl]
/-! ### Text -/
def layerC (X : List (List AV)) (ns : Nat) (w : Int) (nj k : Nat) (c : Int) : List AV := [.ro X, .sl 1 0 ns, .flat (.int .i64 w), .sl 2 0 nj, .sl 3 0 k, .flat (.int .i64 c)]
def TxAt (s : ByteArray) (bs : List UInt8) (i c : Int) : Prop := 0 ≤ i ∧ i ≤ s.size ∧ c = colB (bs ++ (bts s).take i.toNat)
theorem txAt_zero (s : ByteArray) (bs : List UInt8) : TxAt s bs 0 (colB bs) := ⟨by omega, by omega, by simp⟩
theorem txAt_end {s : ByteArray} {bs : List UInt8} {i c : Int} (h : TxAt s bs i c) (hc : decide (i < (s.size : Int)) = false) : c = colB (bs ++ bts s) := by
  obtain ⟨h0, h1, h2⟩ := h
  simp only [decide_eq_false_iff_not] at hc
  rw [h2, List.take_of_length_le (by rw [bts_len]; omega)]
theorem txAt_step {s : ByteArray} {bs : List UInt8} {i c : Int} (hb : bs.length + s.size ≤ 100000000) (h : TxAt s bs i c) (hc : decide (i < (s.size : Int)) = true) : ∃ v : Int, evP Try.prog (Instr.index 9 (.string s) (.int .i64 i)) = some (.flat (.int .u8 v)) ∧
    arI .add .i64 c 1 = c + 1 ∧ arI .add .i64 i 1 = i + 1 ∧ (decide (v = 10) = true → TxAt s bs (i + 1) 0) ∧ (decide (v = 10) = false → TxAt s bs (i + 1) (c + 1)) ∧ ((s.size : Int) - (i + 1)).toNat < ((s.size : Int) - i).toNat := by
  obtain ⟨h0, h1, h2⟩ := h
  have hc := of_decide_eq_true hc
  obtain ⟨v, b, q1, q2, _, q3⟩ := str_at h0 hc
  have hbd := colB_bd (bs ++ (bts s).take i.toNat)
  rw [List.length_append, List.length_take, bts_len] at hbd
  have hcol : colB (bs ++ (bts s).take (i + 1).toNat) = if b = 10 then 0 else c + 1 := by
    rw [q3, ← List.append_assoc, colB_one, h2]
  refine ⟨v, q1, ar_add64 (by omega) (by omega), ar_add64 (by omega) (by omega), fun e => ⟨by omega, by omega, ?_⟩, fun e => ⟨by omega, by omega, ?_⟩, by omega⟩
  · rw [q2] at e
    rw [hcol, if_pos (of_decide_eq_true e)]
  · rw [q2] at e
    rw [hcol, if_neg (of_decide_eq_false e)]
theorem textL_calls (X : List (List AV)) (ns nj k k2 : Nat) (w c : Int) (S J : List (List AV)) (bs : List UInt8) (s : ByteArray) (hS : ∀ c ∈ S, closedAll [] c = true) (hJ : ∀ c ∈ J, closedAll [] c = true) (hb : bs.length + s.size ≤ 100000000) (hk : k = bs.length) (hk2 : k2 = (bs ++ bts s).length) (hc : c = colB bs) :
    PCalls Try.prog 69 1 [.ptr 0 0 0, .flat (.string s)] [⟨85, [layerC X ns w nj k c]⟩, ⟨3, S⟩, ⟨82, J⟩, ⟨5, bs.map byteC⟩] (.tup []) [some ⟨85, [layerC X ns w nj k2 (colB (bs ++ bts s))]⟩, some ⟨3, S⟩, some ⟨82, J⟩, some ⟨5, (bs ++ bts s).map byteC⟩] := by
  obtain ⟨Z, hZ⟩ : ∃ Z, Z = bs.map byteC := ⟨_, rfl⟩
  obtain ⟨Z2, hZ2⟩ : ∃ Z, Z = (bs ++ bts s).map byteC := ⟨_, rfl⟩
  have hz := txAt_zero s bs
  rw [← hc] at hz
  have hend := @txAt_end s bs
  have hstep := @txAt_step s bs
  generalize colB (bs ++ bts s) = c2 at hend ⊢
  rw [← hZ, ← hZ2]
  have hZ2cl := closed_byte hZ2
  unfold layerC
  refine pcalls_symF tabF_ok 1 (by decide) (by simp) fn69 rfl rfl rfl (by kernel_rfl) ?_
  rintro ⟨lt, le, eq, se, ar, dv, una, conv, len, sln, nat, nth, ixs, cel, sto, app, cpy, slc, mak, ixv, oth, dk, ib, call⟩ hS hm Q hQ
  obtain ⟨hlt, hle, heq, hse, har, hdv, huna, hconv, hlen, hsln, hnat, hnth, hixs, hcel, hsto, happ, hcpy, hslc, hmak, hixv, hoth, hdk, hib, hcall⟩ := Sym.mk.inj hS
  clear hS
  have hnt : ∀ n : Nat, nat n = U.natI n := fun n => by rw [hnat]; rfl
  have hbox : ∀ e c off, cel (some ⟨e, [c]⟩) 0 off = if off ≤ c.length then some (c.drop off) else none := fun e c off => by rw [hcel]; rfl
  have hsbox : ∀ e c off sz y, sto (some ⟨e, [c]⟩) 0 off sz y = if y.cells.length = sz ∧ off + sz ≤ c.length ∧ y.cells.all AV.one = true then some ⟨e, [spl c off y.cells]⟩ else none := fun e c off sz y => by rw [hsto]; rfl
  have hcaw : ∀ {f args T base K}, CallK Try.prog f args T base K → call f args T base K := fun h => by rw [hcall]; exact h
  have hcal : ∀ {f args T base} {K : AV → Table → List Nat → List Nat → Prop}, (∃ args' ids val rows, Hands T ids args args' (val base) (rows base) ∧ ACalls Try.prog f args' val rows ∧ (rows base).length ≤ 8 ∧ K (val base) (adopt T base (rows base)) ids ((List.range (rows base).length).map (base + ·))) → call f args T base K := fun h => hcaw (call_own h)
  have a1 : ∀ (T : Table) id k0, T k0 = some ⟨5, Z⟩ → app T id 65 9 (.sl k0 0 k) (.flat (.string s)) = some (.sl id 0 k2, (T.set k0 none).set id (some ⟨5, Z2⟩)) := fun T id k0 h => by
    rw [happ]
    have e : k2 = k + s.size := by rw [hk2, List.length_append, hk, bts_len]
    exact str_byte T hZ hZ2 hk e (by rw [e, hk]; exact hb) h
  have hsz : sln s = (s.size : Int) := by rw [hsln]
  have hstep2 : ∀ i c, TxAt s bs i c → decide (i < (s.size : Int)) = true → _ := fun i c h h2 => hstep (i := i) (c := c) hb h h2
  have hlz : ∀ i, lt i (sln s) = decide (i < (s.size : Int)) := fun i => by rw [hlt, hsz]
  have hend2 : ∀ i c, TxAt s bs i c → decide (i < (s.size : Int)) = false → c = c2 := fun i c h h2 => hend h h2
  clear hend hstep
  cbv
  repeat (first | (rw [hbox]; cbv) | (rw [hsbox]; cbv))
  rw [a1 _ _ _ (by rfl)]; cbv
  repeat (first | (rw [hbox]; cbv) | (rw [hsbox]; cbv))
  refine MW_loopP hm [0, 1, 2, 52] [0, 1, 15, 16] 17 ⟨by simp, by rfl⟩ (fun mz st => ∃ (i x : Int), TxAt s bs i x ∧ mz = ((s.size : Int) - i).toNat ∧ st = stOf [.ptr 0 0 0, .flat (.string s), .dead, .dead, .dead, .dead, .dead, .dead, .dead, .dead, .dead, .dead, .dead, .dead, .dead, .flat (.int .i64 (sln s)), .flat (.int .i64 i)] [some ⟨85, [[.ro X, .sl 1 0 ns, .flat (.int .i64 w), .sl 2 0 nj, .sl 3 0 k2, .flat (.int .i64 x)]]⟩, some ⟨3, S⟩, some ⟨82, J⟩, some ⟨5, Z2⟩] 4) (((s.size : Int) - 0).toNat) ?_ ?_
  · exact ⟨0, c, hz, rfl, cut_eq (by cbv) (cutRows_box (by rfl) (by rfl) (by rfl) (cutRows_cons (by rfl) (hS) (cutRows_cons (by rfl) (hJ) (cutRows_cons (by rfl) (hZ2cl) rfl))))⟩
  rintro mz st ⟨i, x, hi, hmz, rfl⟩
  cases hcc : lt i (sln s)
  · have hcc' : decide (i < (s.size : Int)) = false := by rw [← hlz]; exact hcc
    obtain rfl := hend2 _ _ hi hcc'
    cbv
    rw [hcc]; cbv
    exact hQ _ _ trivial (pleaves [0, 1, 2, 3] (by cbv) rfl (by simp) (by rfl) (by simp) (cutRows_box (by rfl) (by rfl) (by rfl) (cutRows_cons (by rfl) (hS) (cutRows_cons (by rfl) (hJ) (cutRows_cons (by rfl) (hZ2cl) rfl)))))
  have hcc' : decide (i < (s.size : Int)) = true := by rw [← hlz]; exact hcc
  obtain ⟨v, q1, q2, q3, q4, q5, q6⟩ := hstep2 _ _ hi hcc'
  have hx : ixv 9 (.flat (.string s)) (.flat (.int .i64 i)) = some (.flat (.int .u8 v)) := by rw [hixv]; exact q1
  rw [← har] at q2 q3
  have e5 : eq v 10 = decide (v = 10) := by rw [heq]
  generalize i + 1 = i2 at q3 q4 q5 q6
  generalize x + 1 = x2 at q2 q5
  generalize decide (v = 10) = b at e5 q4 q5
  cases b
  · replace q5 := q5 rfl
    cbv
    rw [hcc]; cbv
    repeat (first | (rw [hbox]; cbv) | (rw [hsbox]; cbv) | (rw [q2]; cbv) | (rw [hx]; cbv) | (rw [e5]; cbv) | (rw [q3]; cbv))
    exact ⟨[0, 1, 2, 3], [0, 1, 15, 16], 17, ((s.size : Int) - i2).toNat, hmz ▸ q6, ⟨by simp, by rfl⟩, i2, x2, q5, rfl, cut_eq (by cbv) (cutRows_box (by rfl) (by rfl) (by rfl) (cutRows_cons (by rfl) (hS) (cutRows_cons (by rfl) (hJ) (cutRows_cons (by rfl) (hZ2cl) rfl))))⟩
  replace q4 := q4 rfl
  cbv
  rw [hcc]; cbv
  repeat (first | (rw [hbox]; cbv) | (rw [hsbox]; cbv) | (rw [q2]; cbv) | (rw [hx]; cbv) | (rw [e5]; cbv) | (rw [q3]; cbv))
  exact ⟨[0, 1, 2, 3], [0, 1, 15, 16], 17, ((s.size : Int) - i2).toNat, hmz ▸ q6, ⟨by simp, by rfl⟩, i2, 0, q4, rfl, cut_eq (by cbv) (cutRows_box (by rfl) (by rfl) (by rfl) (cutRows_cons (by rfl) (hS) (cutRows_cons (by rfl) (hJ) (cutRows_cons (by rfl) (hZ2cl) rfl))))⟩
theorem lineL_calls (X : List (List AV)) (ns nj k k2 : Nat) (w c n : Int) (S J : List (List AV)) (bs : List UInt8) (hS : ∀ c ∈ S, closedAll [] c = true) (hJ : ∀ c ∈ J, closedAll [] c = true) (hn : 0 ≤ n) (hb : bs.length + 1 + n.toNat ≤ 100000000) (hk : k = bs.length) (hk2 : k2 = (bs ++ lineB n).length) :
    PCalls Try.prog 70 1 [.ptr 0 0 0, .flat (.int .i64 n)] [⟨85, [layerC X ns w nj k c]⟩, ⟨3, S⟩, ⟨82, J⟩, ⟨5, bs.map byteC⟩] (.tup []) [some ⟨85, [layerC X ns w nj k2 (colB (bs ++ lineB n))]⟩, some ⟨3, S⟩, some ⟨82, J⟩, some ⟨5, (bs ++ lineB n).map byteC⟩] := by
  rw [colB_line bs hn]
  obtain ⟨Z, hZ⟩ : ∃ Z, Z = bs.map byteC := ⟨_, rfl⟩
  obtain ⟨Z2, hZ2⟩ : ∃ Z, Z = (bs ++ lineB n).map byteC := ⟨_, rfl⟩
  obtain ⟨Z1, hZ1⟩ : ∃ Z, Z = (bs ++ [10]).map byteC := ⟨_, rfl⟩
  obtain ⟨k1, hk1⟩ : ∃ k1, k1 = k + 1 := ⟨_, rfl⟩
  have hk1l : k1 = (bs ++ [10]).length := by rw [List.length_append, hk1, hk]; rfl
  have hz := lnAt_zero bs n
  rw [← hZ, ← hZ2]
  unfold layerC
  refine pcalls_symF tabF_ok 1 (by decide) (by simp) fn70 rfl rfl rfl (by kernel_rfl) ?_
  rintro ⟨lt, le, eq, se, ar, dv, una, conv, len, sln, nat, nth, ixs, cel, sto, app, cpy, slc, mak, ixv, oth, dk, ib, call⟩ hS hm Q hQ
  obtain ⟨hlt, hle, heq, hse, har, hdv, huna, hconv, hlen, hsln, hnat, hnth, hixs, hcel, hsto, happ, hcpy, hslc, hmak, hixv, hoth, hdk, hib, hcall⟩ := Sym.mk.inj hS
  clear hS
  have hnt : ∀ n : Nat, nat n = U.natI n := fun n => by rw [hnat]; rfl
  have hbox : ∀ e c off, cel (some ⟨e, [c]⟩) 0 off = if off ≤ c.length then some (c.drop off) else none := fun e c off => by rw [hcel]; rfl
  have hsbox : ∀ e c off sz y, sto (some ⟨e, [c]⟩) 0 off sz y = if y.cells.length = sz ∧ off + sz ≤ c.length ∧ y.cells.all AV.one = true then some ⟨e, [spl c off y.cells]⟩ else none := fun e c off sz y => by rw [hsto]; rfl
  have hcaw : ∀ {f args T base K}, CallK Try.prog f args T base K → call f args T base K := fun h => by rw [hcall]; exact h
  have hcal : ∀ {f args T base} {K : AV → Table → List Nat → List Nat → Prop}, (∃ args' ids val rows, Hands T ids args args' (val base) (rows base) ∧ ACalls Try.prog f args' val rows ∧ (rows base).length ≤ 8 ∧ K (val base) (adopt T base (rows base)) ids ((List.range (rows base).length).map (base + ·))) → call f args T base K := fun h => hcaw (call_own h)
  have a1 : ∀ (T : Table) id k0 kk, T k0 = some ⟨5, Z⟩ → T kk = some ⟨5, [[.flat (.int .u8 10)]]⟩ → kk ≠ k0 → app T id 65 65 (.sl k0 0 k) (.sl kk 0 1) = some (.sl id 0 k1, (T.set k0 none).set id (some ⟨5, Z1⟩)) := fun T id k0 kk h1 h2 h3 => by
    rw [happ]; exact tip_byte T hZ hZ1 rfl hk hk1 (by omega) h1 h2 h3
  cbv
  repeat (first | (rw [hbox]; cbv) | (rw [hsbox]; cbv))
  rw [a1 _ _ _ _ (by rfl) (by rfl) (by decide)]; cbv
  repeat (first | (rw [hbox]; cbv) | (rw [hsbox]; cbv))
  refine MW_loopP hm [0, 1, 2, 52] [0, 1, 13, 14] 15 ⟨by simp, by rfl⟩ (fun mz st => ∃ (i : Int) (cs : List UInt8) (m : Nat) (Y : List (List AV)), LnAt bs n i cs ∧ Y = cs.map byteC ∧ m = cs.length ∧ mz = (n - i).toNat ∧ st = stOf [.ptr 0 0 0, .flat (.int .i64 n), .dead, .dead, .dead, .dead, .dead, .dead, .dead, .dead, .dead, .dead, .dead, .flat (.int .i64 n), .flat (.int .i64 i)] [some ⟨85, [[.ro X, .sl 1 0 ns, .flat (.int .i64 w), .sl 2 0 nj, .sl 3 0 m, .flat (.int .i64 c)]]⟩, some ⟨3, S⟩, some ⟨82, J⟩, some ⟨5, Y⟩] 4) ((n - 0).toNat) ?_ ?_
  · exact ⟨0, _, k1, Z1, hz, hZ1, hk1l, rfl, cut_eq (by cbv) (cutRows_box (by rfl) (by rfl) (by rfl) (cutRows_cons (by rfl) (hS) (cutRows_cons (by rfl) (hJ) (cutRows_cons (by rfl) (closed_byte hZ1) rfl))))⟩
  rintro mz st ⟨i, cs, m, Y, hi, hY, hm1, hmz, rfl⟩
  cases hc : lt i n
  · have hc' : decide (i < n) = false := by rw [hlt] at hc; exact hc
    have hend := lnAt_end hi hc'
    cbv
    rw [hc]; cbv
    repeat (first | (rw [hbox]; cbv) | (rw [hsbox]; cbv))
    have e1 : m = k2 := by rw [hm1, hk2, hend]
    have e2 : Y = Z2 := by rw [hY, hZ2, hend]
    subst e1 e2
    exact hQ _ _ trivial (pleaves [0, 1, 2, 3] (by cbv) rfl (by simp) (by rfl) (by simp) (cutRows_box (by rfl) (by rfl) (by rfl) (cutRows_cons (by rfl) (hS) (cutRows_cons (by rfl) (hJ) (cutRows_cons (by rfl) (closed_byte hY) rfl)))))
  have hc' : decide (i < n) = true := by rw [hlt] at hc; exact hc
  obtain ⟨r1, r2, r3, r4⟩ := lnAt_step hb hi hc'
  rw [← har] at r2
  obtain ⟨Y2, hY2⟩ : ∃ Z, Z = (cs ++ [32]).map byteC := ⟨_, rfl⟩
  obtain ⟨m2, hm2⟩ : ∃ k1, k1 = m + 1 := ⟨_, rfl⟩
  have hm2l : m2 = (cs ++ [32]).length := by rw [List.length_append, hm2, hm1]; rfl
  have a2 : ∀ (T : Table) id k0 kk, T k0 = some ⟨5, Y⟩ → T kk = some ⟨5, [[.flat (.int .u8 32)]]⟩ → kk ≠ k0 → app T id 65 65 (.sl k0 0 m) (.sl kk 0 1) = some (.sl id 0 m2, (T.set k0 none).set id (some ⟨5, Y2⟩)) := fun T id k0 kk h1 h2 h3 => by
    rw [happ]; exact tip_byte T hY hY2 rfl hm1 hm2 (by omega) h1 h2 h3
  generalize i + 1 = i2 at r1 r2 r3
  generalize cs ++ [32] = cs2 at r1 hY2 hm2l
  cbv
  rw [hc]; cbv
  repeat (first | (rw [hbox]; cbv) | (rw [hsbox]; cbv))
  rw [a2 _ _ _ _ (by rfl) (by rfl) (by decide)]; cbv
  repeat (first | (rw [hbox]; cbv) | (rw [hsbox]; cbv))
  rw [r2]
  exact ⟨[0, 1, 2, 60], [0, 1, 13, 14], 15, (n - i2).toNat, hmz ▸ r3, ⟨by simp, by rfl⟩, i2, cs2, m2, Y2, r1, hY2, hm2l, rfl, cut_eq (by cbv) (cutRows_box (by rfl) (by rfl) (by rfl) (cutRows_cons (by rfl) (hS) (cutRows_cons (by rfl) (hJ) (cutRows_cons (by rfl) (closed_byte hY2) rfl))))⟩
theorem fn72 : Try.prog.funcs[72]? = some Try.f72 := by kernel_rfl
theorem fn75 : Try.prog.funcs[75]? = some Try.f75 := by kernel_rfl
theorem fn71 : Try.prog.funcs[71]? = some Try.f71 := by kernel_rfl
/-! ### Where a tree lies -/
def In (d : DocT) (t : Tr) (a : Int) : Prop := ∃ pre post, d = pre ++ t.flat ++ post ∧ a = pre.length + t.flat.length - 1
theorem in_bd {d : DocT} {t : Tr} {a : Int} (h : In d t a) : 0 ≤ a ∧ a < d.length ∧ (t.flat.length : Int) ≤ a + 1 := by
  obtain ⟨pre, post, h1, h2⟩ := h
  have := flat_pos t
  have h3 : d.length = pre.length + t.flat.length + post.length := by rw [h1]; simp only [List.length_append]
  omega
theorem in_un {d : DocT} {p : PartT} {t : Tr} {a : Int} (h : In d (.un p t) a) : In d t (a - 1) := by
  obtain ⟨pre, post, h1, h2⟩ := h
  refine ⟨pre, p :: post, by rw [h1]; simp [Tr.flat], ?_⟩
  simp only [Tr.flat, List.length_append, List.length_cons, List.length_nil] at h2
  omega
theorem in_top {d : DocT} {t : Tr} {a : Int} (h : In d t a) : nthE (d.map partC) a 3 = some (.rp (partC (top t))) := by
  obtain ⟨pre, post, h1, h2⟩ := h
  cases t with
  | lf p => exact (at_mid (l := []) h1 a h2).1
  | un p t => exact (at_mid (l := t.flat) h1 a h2).1
  | cat p b c => exact (at_mid (l := b.flat ++ c.flat) h1 a h2).1
theorem in_start {d : DocT} {t : Tr} {a : Int} (ht : t.ok) (h : In d t a) : startD d a = a + 1 - t.flat.length := by
  obtain ⟨pre, post, h1, h2⟩ := h
  have := start_sub (d := d) (pre := pre) (t := t) (i := a) ht (by
    have e : (a + 1).toNat = (pre ++ t.flat).length := by rw [List.length_append]; omega
    rw [e, h1, List.take_left' rfl])
  rw [this]; omega
theorem starts_at {d : DocT} {a : Int} (h0 : 0 ≤ a) (h1 : a < d.length) : atI (startsD d) a = startD d a := by
  have h2 : a.toNat < d.length := by omega
  simp only [atI, startsD, List.getD, List.getElem?_map, List.getElem?_range h2, Option.map_some, Option.getD_some]
  rw [Int.toNat_of_nonneg h0]
theorem starts_nth {d : DocT} {a : Int} (h0 : 0 ≤ a) (h1 : a < d.length) : nthE ((startsD d).map intC) a 1 = some (.rp (intC (startD d a))) := by
  rw [nth_map (sz := 1) (fun _ => rfl) h0 (by simpa [startsD] using h1), starts_at h0 h1]
theorem in_slc {d : DocT} {t : Tr} {a : Int} (T : Table) (ht : t.ok) (h : In d t a) : evSlice Try.prog T 23 (.ro (d.map partC)) (some (.flat (.int .i64 (startD d a)))) (some (.flat (.int .i64 (a + 1)))) = some (.ro (t.flat.map partC)) := by
  rw [in_start ht h]
  obtain ⟨pre, post, h1, h2⟩ := h
  have h3 : d.length = pre.length + t.flat.length + post.length := by rw [h1]; simp only [List.length_append]
  have hall : ∀ c ∈ d.map partC, c.length = 3 := by intro c hc; obtain ⟨p, _, rfl⟩ := List.mem_map.1 hc; rfl
  rw [slc_ro u23 z27 hall (bnd_both (by omega) (by omega) (by rw [List.length_map]; omega))]
  have e1 : (a + 1).toNat = (pre ++ t.flat).length := by rw [List.length_append]; omega
  have e2 : (a + 1 - (t.flat.length : Int)).toNat = pre.length := by omega
  rw [e1, e2, ← List.map_take, ← List.map_drop, h1, List.take_left' rfl, List.drop_left' rfl]
theorem in_cat {d : DocT} {p : PartT} {ta tb : Tr} {a : Int} (hb : tb.ok) (h : In d (.cat p ta tb) a) : In d tb (a - 1) ∧ In d ta (startD d (a - 1) - 1) := by
  obtain ⟨pre, post, h1, h2⟩ := h
  simp only [Tr.flat, List.length_append, List.length_cons, List.length_nil] at h2
  have hB : In d tb (a - 1) := ⟨pre ++ ta.flat, p :: post, by rw [h1]; simp [Tr.flat], by rw [List.length_append]; omega⟩
  refine ⟨hB, pre, tb.flat ++ p :: post, by rw [h1]; simp [Tr.flat], ?_⟩
  rw [in_start hb hB]; omega
/-! ### A layer, read -/
def layR (X S J Z : List (List AV)) (w c : Int) : List AV := [.ro X, .ro S, .flat (.int .i64 w), .ro J, .ro Z, .flat (.int .i64 c)]
def kidsA (d : DocT) (a : Int) : Tr → List Int
  | .lf _ => []
  | .un _ _ => [a - 1]
  | .cat _ _ _ => [a - 1, startD d (a - 1) - 1]
theorem parts_lf {d : DocT} {a : Int} {p : PartT} (ht : takes p.kind = 0) (hx : nthE (d.map partC) a 3 = some (.rp (partC p))) (J Z : List (List AV)) (w c n : Int) (fl : Bool) : ACalls Try.prog 72 [.rp (layR (d.map partC) ((startsD d).map intC) J Z w c), .agg [.flat (.int .i64 a), .flat (.int .i64 n), .flat (.bool fl)]] (fun k => .sl k 0 0) (fun _ => [⟨3, ([] : List Int).map intC⟩]) := by
  have hcT := takes_calls p.kind
  rw [ht] at hcT
  obtain ⟨Y, hY⟩ : ∃ Y, Y = ([] : List Int).map intC := ⟨_, rfl⟩
  have hcl := closed_int hY
  rw [← hY]
  generalize d.map partC = X at hx ⊢
  obtain ⟨kd, pn, tx⟩ := p
  unfold partC at hx
  dsimp only at hx hcT
  generalize (startsD d).map intC = S at *
  unfold layR
  refine acalls_symF tabF_ok fn72 rfl rfl rfl (by kernel_rfl) ?_
  rintro ⟨lt, le, eq, se, ar, dv, una, conv, len, sln, nat, nth, ixs, cel, sto, app, cpy, slc, mak, ixv, oth, dk, ib, call⟩ hS hm Q hQ
  obtain ⟨hlt, hle, heq, hse, har, hdv, huna, hconv, hlen, hsln, hnat, hnth, hixs, hcel, hsto, happ, hcpy, hslc, hmak, hixv, hoth, hdk, hib, hcall⟩ := Sym.mk.inj hS
  clear hS
  have hnt : ∀ n : Nat, nat n = U.natI n := fun n => by rw [hnat]; rfl
  have hbox : ∀ e c off, cel (some ⟨e, [c]⟩) 0 off = if off ≤ c.length then some (c.drop off) else none := fun e c off => by rw [hcel]; rfl
  have hsbox : ∀ e c off sz y, sto (some ⟨e, [c]⟩) 0 off sz y = if y.cells.length = sz ∧ off + sz ≤ c.length ∧ y.cells.all AV.one = true then some ⟨e, [spl c off y.cells]⟩ else none := fun e c off sz y => by rw [hsto]; rfl
  have hcaw : ∀ {f args T base K}, CallK Try.prog f args T base K → call f args T base K := fun h => by rw [hcall]; exact h
  have hcal : ∀ {f args T base} {K : AV → Table → List Nat → List Nat → Prop}, (∃ args' ids val rows, Hands T ids args args' (val base) (rows base) ∧ ACalls Try.prog f args' val rows ∧ (rows base).length ≤ 8 ∧ K (val base) (adopt T base (rows base)) ids ((List.range (rows base).length).map (base + ·))) → call f args T base K := fun h => hcaw (call_own h)
  have hE : ∀ x y, eq x y = decide (x = y) := fun x y => by rw [heq]
  rw [← hnth] at hx
  cbv
  repeat (first | (rw [hbox]; cbv) | (rw [hsbox]; cbv) | (rw [hx]; cbv))
  refine hcal ⟨_, [], _, _, .inl ⟨rfl, by cbv⟩, hcT, by simp, ?_⟩
  cbv
  repeat (first | (rw [hbox]; cbv) | (rw [hsbox]; cbv) | (rw [hE]; cbv))
  exact hQ _ _ trivial (leaves_nil 4 rfl (by cbv) hY rfl)
theorem parts_un {d : DocT} {a : Int} {p : PartT} (h1 : arI .sub .i64 a 1 = a - 1) (ht : takes p.kind = 1) (hx : nthE (d.map partC) a 3 = some (.rp (partC p))) (J Z : List (List AV)) (w c n : Int) (fl : Bool) : ACalls Try.prog 72 [.rp (layR (d.map partC) ((startsD d).map intC) J Z w c), .agg [.flat (.int .i64 a), .flat (.int .i64 n), .flat (.bool fl)]] (fun k => .sl k 0 1) (fun _ => [⟨3, ([a - 1] : List Int).map intC⟩]) := by
  have hcT := takes_calls p.kind
  rw [ht] at hcT
  obtain ⟨Y, hY⟩ : ∃ Y, Y = ([a - 1] : List Int).map intC := ⟨_, rfl⟩
  have hcl := closed_int hY
  rw [← hY]
  generalize d.map partC = X at hx ⊢
  obtain ⟨kd, pn, tx⟩ := p
  unfold partC at hx
  dsimp only at hx hcT
  generalize a - 1 = a1 at h1 hY
  generalize (startsD d).map intC = S
  unfold layR
  refine acalls_symF tabF_ok fn72 rfl rfl rfl (by kernel_rfl) ?_
  rintro ⟨lt, le, eq, se, ar, dv, una, conv, len, sln, nat, nth, ixs, cel, sto, app, cpy, slc, mak, ixv, oth, dk, ib, call⟩ hS hm Q hQ
  obtain ⟨hlt, hle, heq, hse, har, hdv, huna, hconv, hlen, hsln, hnat, hnth, hixs, hcel, hsto, happ, hcpy, hslc, hmak, hixv, hoth, hdk, hib, hcall⟩ := Sym.mk.inj hS
  clear hS
  have hnt : ∀ n : Nat, nat n = U.natI n := fun n => by rw [hnat]; rfl
  have hbox : ∀ e c off, cel (some ⟨e, [c]⟩) 0 off = if off ≤ c.length then some (c.drop off) else none := fun e c off => by rw [hcel]; rfl
  have hsbox : ∀ e c off sz y, sto (some ⟨e, [c]⟩) 0 off sz y = if y.cells.length = sz ∧ off + sz ≤ c.length ∧ y.cells.all AV.one = true then some ⟨e, [spl c off y.cells]⟩ else none := fun e c off sz y => by rw [hsto]; rfl
  have hcaw : ∀ {f args T base K}, CallK Try.prog f args T base K → call f args T base K := fun h => by rw [hcall]; exact h
  have hcal : ∀ {f args T base} {K : AV → Table → List Nat → List Nat → Prop}, (∃ args' ids val rows, Hands T ids args args' (val base) (rows base) ∧ ACalls Try.prog f args' val rows ∧ (rows base).length ≤ 8 ∧ K (val base) (adopt T base (rows base)) ids ((List.range (rows base).length).map (base + ·))) → call f args T base K := fun h => hcaw (call_own h)
  have hE : ∀ x y, eq x y = decide (x = y) := fun x y => by rw [heq]
  rw [← hnth] at hx
  rw [← har] at h1
  cbv
  repeat (first | (rw [hbox]; cbv) | (rw [hsbox]; cbv) | (rw [hx]; cbv))
  refine hcal ⟨_, [], _, _, .inl ⟨rfl, by cbv⟩, hcT, by simp, ?_⟩
  cbv
  repeat (first | (rw [hbox]; cbv) | (rw [hsbox]; cbv) | (rw [hE]; cbv) | (rw [h1]; cbv))
  exact hQ _ _ trivial (leaves_own (by cbv) (by rw [hY]; rfl) hcl)
theorem parts_cat {d : DocT} {a : Int} {p : PartT} {s : Int} (h1 : arI .sub .i64 a 1 = a - 1) (h2 : nthE ((startsD d).map intC) (a - 1) 1 = some (.rp (intC s))) (h3 : arI .sub .i64 s 1 = s - 1) (ht : takes p.kind = 2) (hx : nthE (d.map partC) a 3 = some (.rp (partC p))) (J Z : List (List AV)) (w c n : Int) (fl : Bool) : ACalls Try.prog 72 [.rp (layR (d.map partC) ((startsD d).map intC) J Z w c), .agg [.flat (.int .i64 a), .flat (.int .i64 n), .flat (.bool fl)]] (fun k => .sl k 0 2) (fun _ => [⟨3, ([a - 1, s - 1] : List Int).map intC⟩]) := by
  have hcT := takes_calls p.kind
  rw [ht] at hcT
  obtain ⟨Y, hY⟩ : ∃ Y, Y = ([a - 1, s - 1] : List Int).map intC := ⟨_, rfl⟩
  have hcl := closed_int hY
  rw [← hY]
  generalize d.map partC = X at hx ⊢
  obtain ⟨kd, pn, tx⟩ := p
  unfold partC at hx
  dsimp only at hx hcT
  generalize a - 1 = a1 at h1 h2 hY
  generalize s - 1 = s1 at h3 hY
  generalize (startsD d).map intC = S at h2 ⊢
  unfold intC at h2
  unfold layR
  refine acalls_symF tabF_ok fn72 rfl rfl rfl (by kernel_rfl) ?_
  rintro ⟨lt, le, eq, se, ar, dv, una, conv, len, sln, nat, nth, ixs, cel, sto, app, cpy, slc, mak, ixv, oth, dk, ib, call⟩ hS hm Q hQ
  obtain ⟨hlt, hle, heq, hse, har, hdv, huna, hconv, hlen, hsln, hnat, hnth, hixs, hcel, hsto, happ, hcpy, hslc, hmak, hixv, hoth, hdk, hib, hcall⟩ := Sym.mk.inj hS
  clear hS
  have hnt : ∀ n : Nat, nat n = U.natI n := fun n => by rw [hnat]; rfl
  have hbox : ∀ e c off, cel (some ⟨e, [c]⟩) 0 off = if off ≤ c.length then some (c.drop off) else none := fun e c off => by rw [hcel]; rfl
  have hsbox : ∀ e c off sz y, sto (some ⟨e, [c]⟩) 0 off sz y = if y.cells.length = sz ∧ off + sz ≤ c.length ∧ y.cells.all AV.one = true then some ⟨e, [spl c off y.cells]⟩ else none := fun e c off sz y => by rw [hsto]; rfl
  have hcaw : ∀ {f args T base K}, CallK Try.prog f args T base K → call f args T base K := fun h => by rw [hcall]; exact h
  have hcal : ∀ {f args T base} {K : AV → Table → List Nat → List Nat → Prop}, (∃ args' ids val rows, Hands T ids args args' (val base) (rows base) ∧ ACalls Try.prog f args' val rows ∧ (rows base).length ≤ 8 ∧ K (val base) (adopt T base (rows base)) ids ((List.range (rows base).length).map (base + ·))) → call f args T base K := fun h => hcaw (call_own h)
  have hE : ∀ x y, eq x y = decide (x = y) := fun x y => by rw [heq]
  rw [← hnth] at hx
  rw [← har] at h1
  rw [← hnth] at h2
  rw [← har] at h3
  cbv
  repeat (first | (rw [hbox]; cbv) | (rw [hsbox]; cbv) | (rw [hx]; cbv))
  refine hcal ⟨_, [], _, _, .inl ⟨rfl, by cbv⟩, hcT, by simp, ?_⟩
  cbv
  repeat (first | (rw [hbox]; cbv) | (rw [hsbox]; cbv) | (rw [hE]; cbv) | (rw [h1]; cbv) | (rw [h2]; cbv) | (rw [h3]; cbv))
  exact hQ _ _ trivial (leaves_own (by cbv) (by rw [hY]; rfl) hcl)
theorem partsL_calls {d : DocT} (hs : d.length ≤ 20000) {t : Tr} {a : Int} (ht : t.ok) (hi : In d t a) (J Z : List (List AV)) (w c n : Int) (fl : Bool) : ACalls Try.prog 72 [.rp (layR (d.map partC) ((startsD d).map intC) J Z w c), .agg [.flat (.int .i64 a), .flat (.int .i64 n), .flat (.bool fl)]] (fun k => .sl k 0 (kidsA d a t).length) (fun _ => [⟨3, (kidsA d a t).map intC⟩]) := by
  have hx := in_top hi
  obtain ⟨b0, b1, b2⟩ := in_bd hi
  have h1 : arI .sub .i64 a 1 = a - 1 := ar_sub64 (by omega) (by omega)
  cases t with
  | lf p => exact parts_lf ht.2 hx J Z w c n fl
  | un p t => exact parts_un h1 ht.2.1 hx J Z w c n fl
  | cat p ta tb =>
    obtain ⟨hB, _⟩ := in_cat ht.2.2.2 hi
    obtain ⟨c0, c1, c2⟩ := in_bd hB
    have hst := in_start ht.2.2.2 hB
    have hp := flat_pos tb
    exact parts_cat h1 (starts_nth c0 c1) (ar_sub64 (by omega) (by omega)) ht.2.1 hx J Z w c n fl
/-! ### What stands behind -/
structure Fr where
  t : Tr
  a : Int
  n : Int
  fl : Bool
  deriving Inhabited
def jobC (f : Fr) : List AV := [.flat (.int .i64 f.a), .flat (.int .i64 f.n), .flat (.bool f.fl)]
def flF (F : List Fr) : DocT := F.flatMap fun f => f.t.flat
theorem flF_cons (f : Fr) (F : List Fr) : flF (f :: F) = f.t.flat ++ flF F := by simp [flF]
def FrOk (d : DocT) (f : Fr) : Prop := f.t.ok ∧ In d f.t f.a
theorem sub_texts {d : DocT} {t : Tr} {a : Int} (hp : ∀ p ∈ d, p.text.size ≤ 1000) (h : In d t a) : ∀ p ∈ t.flat, p.text.size ≤ 1000 := by
  obtain ⟨pre, post, h1, h2⟩ := h
  exact fun p hq => hp p (by rw [h1]; simp [hq])
theorem flF_texts {d : DocT} (hp : ∀ p ∈ d, p.text.size ≤ 1000) : ∀ {F : List Fr}, (∀ f ∈ F, FrOk d f) → ∀ p ∈ flF F, p.text.size ≤ 1000 := by
  intro F hF p h
  obtain ⟨f, hf, hq⟩ := List.mem_flatMap.1 h
  exact sub_texts hp (hF f hf).2 p hq
/-- The rest of the jobs, from the last. -/
def BhAt (F : List Fr) (i m : Int) : Prop := -1 ≤ i ∧ i < F.length ∧ LdAt (flF F.reverse) (flF (F.take (i + 1).toNat).reverse) m ∧ 0 ≤ m
theorem bhAt_zero (F : List Fr) : BhAt F (F.length - 1) 0 := ⟨by omega, by omega, by
  rw [show ((F.length : Int) - 1 + 1).toNat = F.length by omega, List.take_length]; unfold LdAt; simp, by omega⟩
theorem bhAt_end {F : List Fr} {i m : Int} (h : BhAt F i m) (hc : decide (0 ≤ i) = false) : (leadD (flF F.reverse)).1 = m := by
  simp only [decide_eq_false_iff_not] at hc
  have : i = -1 := by have := h.1; omega
  subst this
  have h2 : LdAt (flF F.reverse) [] m := h.2.2.1
  rw [ld_nil h2]
theorem bhAt_round {d : DocT} {F : List Fr} {i m : Int} (hs : d.length ≤ 20000) (hp : ∀ p ∈ d, p.text.size ≤ 1000) (hF : ∀ f ∈ F, FrOk d f) (hl : (flF F.reverse).length ≤ 20000) (h : BhAt F i m) (hc : decide (0 ≤ i) = true) :
    nthE (F.map jobC) i 3 = some (.rp (jobC (atI F i))) ∧ FrOk d (atI F i) ∧ arI .add .i64 m (leadD (atI F i).t.flat).1 = m + (leadD (atI F i).t.flat).1 ∧
    ((leadD (atI F i).t.flat).2 = true → (leadD (flF F.reverse)).1 = m + (leadD (atI F i).t.flat).1) ∧ ((leadD (atI F i).t.flat).2 = false → BhAt F (i - 1) (m + (leadD (atI F i).t.flat).1)) ∧ arI .sub .i64 i 1 = i - 1 ∧ (i - 1 + 1).toNat < (i + 1).toNat := by
  obtain ⟨h0, h1, h2, h3⟩ := h
  have hc := of_decide_eq_true hc
  have hmem := at_mem hc h1
  have hok := hF _ hmem
  have hpt := sub_texts hp hok.2
  obtain ⟨l0, l1⟩ := leadD_bd _ hpt
  have hin := in_bd hok.2
  have htot := leadD_bd (flF F.reverse) (flF_texts hp fun f hf => hF f (List.mem_reverse.1 hf))
  have hrest := leadD_bd (flF (F.take (i + 1).toNat).reverse) (flF_texts hp fun f hf => hF f (List.mem_of_mem_take (List.mem_reverse.1 hf)))
  have e0 : (leadD (flF F.reverse)).1 = m + (leadD (flF (F.take (i + 1).toNat).reverse)).1 := by rw [h2]
  have hlen : (F.length : Int) ≤ 20000 := by
    have : F.length ≤ (flF F.reverse).length := by
      unfold flF
      rw [← List.length_reverse]
      generalize F.reverse = G
      induction G with
      | nil => simp
      | cons g G ih => rw [List.flatMap_cons, List.length_append, List.length_cons]; have := flat_pos g.t; omega
    omega
  have h2' := h2
  rw [take_next hc h1, List.reverse_append, List.reverse_cons, List.reverse_nil, List.nil_append, List.singleton_append, flF_cons] at h2'
  obtain ⟨r1, r2⟩ := ld_part h2'
  have e : i - 1 + 1 = i := by omega
  refine ⟨nth_map (sz := 3) (fun _ => rfl) hc h1, hok, ar_add64 (by omega) (by omega), fun h => by rw [r1 h], fun h => ⟨by omega, by omega, by rw [e]; exact r2 h, by omega⟩, ar_sub64 (by omega) (by omega), by omega⟩
theorem behind_calls {d : DocT} (hs : d.length ≤ 20000) (hp : ∀ p ∈ d, p.text.size ≤ 1000) {F : List Fr} (hF : ∀ f ∈ F, FrOk d f) (hl : (flF F.reverse).length ≤ 20000) (Z : List (List AV)) (w c : Int) : ACalls Try.prog 75 [.rp (layR (d.map partC) ((startsD d).map intC) (F.map jobC) Z w c)] (fun _ => .flat (.int .i64 (leadD (flF F.reverse)).1)) (fun _ => []) := by
  have hz := bhAt_zero F
  have hend := fun i m (h : BhAt F i m) hc => bhAt_end h hc
  have hrd := fun i m (h : BhAt F i m) hc => bhAt_round hs hp hF hl h hc
  have hlenF : (F.length : Int) ≤ 20000 := by
    have : F.length ≤ (flF F.reverse).length := by
      unfold flF
      rw [← List.length_reverse]
      generalize F.reverse = G
      induction G with
      | nil => simp
      | cons g G ih => rw [List.flatMap_cons, List.length_append, List.length_cons]; have := flat_pos g.t; omega
    omega
  have hsub0 : arI .sub .i64 (lenE (F.map jobC)) 1 = (F.length : Int) - 1 := by rw [len_map, ar_sub64 (by omega) (by omega)]
  generalize (leadD (flF F.reverse)).1 = r at hend hrd ⊢
  have hlead : ∀ f : Fr, FrOk d f → ACalls Try.prog 36 [.ro (f.t.flat.map partC)] (fun _ => leadV (leadD f.t.flat)) (fun _ => []) := fun f hf => lead_calls f.t.flat (by have := in_bd hf.2; omega) (sub_texts hp hf.2)
  have hslc0 : ∀ f : Fr, FrOk d f → nthE ((startsD d).map intC) f.a 1 = some (.rp (intC (startD d f.a))) ∧ arI .add .i64 f.a 1 = f.a + 1 ∧ ∀ T, evSlice Try.prog T 23 (.ro (d.map partC)) (some (.flat (.int .i64 (startD d f.a)))) (some (.flat (.int .i64 (f.a + 1)))) = some (.ro (f.t.flat.map partC)) := fun f hf => by
    have hb := in_bd hf.2
    exact ⟨starts_nth hb.1 hb.2.1, ar_add64 (by omega) (by omega), fun T => in_slc T hf.1 hf.2⟩
  obtain ⟨J, hJ⟩ : ∃ J, J = F.map jobC := ⟨_, rfl⟩
  rw [← hJ] at hrd hsub0 ⊢
  generalize d.map partC = X at hslc0 ⊢
  generalize (startsD d).map intC = S at hslc0 ⊢
  unfold layR
  refine acalls_symF tabF_ok fn75 rfl rfl rfl (by kernel_rfl) ?_
  have hfin : ∀ st, resA Try.prog Try.f75 st = some (.flat (.int .i64 r)) → G.Leaves Try.prog Try.f75 (fun _ => .flat (.int .i64 r)) (fun _ => []) st := fun st h => G.Leaves.plain h rfl
  rintro ⟨lt, le, eq, se, ar, dv, una, conv, len, sln, nat, nth, ixs, cel, sto, app, cpy, slc, mak, ixv, oth, dk, ib, call⟩ hS hm Q hQ
  obtain ⟨hlt, hle, heq, hse, har, hdv, huna, hconv, hlen, hsln, hnat, hnth, hixs, hcel, hsto, happ, hcpy, hslc, hmak, hixv, hoth, hdk, hib, hcall⟩ := Sym.mk.inj hS
  clear hS
  have hnt : ∀ n : Nat, nat n = U.natI n := fun n => by rw [hnat]; rfl
  have hbox : ∀ e c off, cel (some ⟨e, [c]⟩) 0 off = if off ≤ c.length then some (c.drop off) else none := fun e c off => by rw [hcel]; rfl
  have hsbox : ∀ e c off sz y, sto (some ⟨e, [c]⟩) 0 off sz y = if y.cells.length = sz ∧ off + sz ≤ c.length ∧ y.cells.all AV.one = true then some ⟨e, [spl c off y.cells]⟩ else none := fun e c off sz y => by rw [hsto]; rfl
  have hcaw : ∀ {f args T base K}, CallK Try.prog f args T base K → call f args T base K := fun h => by rw [hcall]; exact h
  have hcal : ∀ {f args T base} {K : AV → Table → List Nat → List Nat → Prop}, (∃ args' ids val rows, Hands T ids args args' (val base) (rows base) ∧ ACalls Try.prog f args' val rows ∧ (rows base).length ≤ 8 ∧ K (val base) (adopt T base (rows base)) ids ((List.range (rows base).length).map (base + ·))) → call f args T base K := fun h => hcaw (call_own h)
  rw [← har, ← hlen] at hsub0
  have h00 : le 0 = fun i => decide (0 ≤ i) := by rw [hle]
  cbv
  rw [hsub0]
  refine MW_loop hm [] [0, 3, 4] 5 (by simp) (fun mz st => ∃ (i m : Int), BhAt F i m ∧ mz = (i + 1).toNat ∧ st = stOf [.rp [.ro X, .ro S, .flat (.int .i64 w), .ro J, .ro Z, .flat (.int .i64 c)], .dead, .dead, .flat (.int .i64 m), .flat (.int .i64 i)] [] 0) (((F.length : Int) - 1 + 1).toNat) ?_ ?_
  · exact ⟨(F.length : Int) - 1, 0, hz, rfl, cut_eq (by cbv) (by rfl)⟩
  rintro mz st ⟨i, m, hi, hmz, rfl⟩
  cases hc : le 0 i
  · have hc' : decide (0 ≤ i) = false := by rw [hle] at hc; exact hc
    obtain rfl := hend _ _ hi hc'
    cbv
    rw [hc]; cbv
    exact hQ _ _ trivial (hfin _ (by cbv))
  have hc' : decide (0 ≤ i) = true := by rw [hle] at hc; exact hc
  obtain ⟨q1, q2, q3, q4, q5, q6, q7⟩ := hrd _ _ hi hc'
  have hcl := hlead _ q2
  obtain ⟨s1, s2, s3⟩ := hslc0 _ q2
  generalize atI F i = f at q1 q2 q3 q4 q5 hcl s1 s2 s3
  unfold jobC at q1
  unfold intC at s1
  generalize leadD f.t.flat = ld at q3 q4 q5 hcl
  obtain ⟨lw, lh⟩ := ld
  unfold leadV at hcl
  dsimp only at q3 q4 q5 hcl
  generalize m + lw = m2 at q3 q4 q5
  rw [← hnth] at q1 s1
  rw [← har] at q3 q6 s2
  have s4 : ∀ T, slc T 23 (.ro X) (some (.flat (.int .i64 (startD d f.a)))) (some (.flat (.int .i64 (f.a + 1)))) = some (.ro (f.t.flat.map partC)) := fun T => by rw [hslc]; exact s3 T
  generalize startD d f.a = sa at s1 s4
  generalize f.a + 1 = a1 at s2 s4
  generalize f.t.flat.map partC = XX at s4 hcl
  clear s3 q2
  obtain ⟨ft, fa, fn, ffl⟩ := f
  dsimp only at q1 s1 s2
  generalize i - 1 = i2 at q5 q6 q7
  cases lh
  · replace q5 := q5 rfl
    clear q4
    cbv
    rw [hc]; cbv
    repeat (first | (rw [hbox]; cbv) | (rw [hsbox]; cbv) | (rw [q1]; cbv))
    refine ⟨by rw [hdk]; kernel_rfl, ?_⟩
    repeat (first | (rw [hbox]; cbv) | (rw [hsbox]; cbv) | (rw [s1]; cbv) | (rw [s2]; cbv))
    rw [s4]; cbv
    refine hcal ⟨_, [], _, _, .inl ⟨rfl, by cbv⟩, hcl, by simp, ?_⟩
    cbv
    refine ⟨by rw [hib]; kernel_rfl, ?_⟩
    cbv
    repeat (first | (rw [hbox]; cbv) | (rw [hsbox]; cbv) | (rw [q3]; cbv))
    rw [q6]
    exact ⟨[], [0, 3, 4], 5, (i2 + 1).toNat, hmz ▸ q7, by simp, i2, m2, q5, rfl, cut_eq (by cbv) (by rfl)⟩
  replace q4 := q4 rfl
  subst q4
  clear q5
  cbv
  rw [hc]; cbv
  repeat (first | (rw [hbox]; cbv) | (rw [hsbox]; cbv) | (rw [q1]; cbv))
  refine ⟨by rw [hdk]; kernel_rfl, ?_⟩
  repeat (first | (rw [hbox]; cbv) | (rw [hsbox]; cbv) | (rw [s1]; cbv) | (rw [s2]; cbv))
  rw [s4]; cbv
  refine hcal ⟨_, [], _, _, .inl ⟨rfl, by cbv⟩, hcl, by simp, ?_⟩
  cbv
  refine ⟨by rw [hib]; kernel_rfl, ?_⟩
  cbv
  repeat (first | (rw [hbox]; cbv) | (rw [hsbox]; cbv) | (rw [q3]; cbv))
  exact hQ _ _ trivial (hfin _ (by cbv))
def fitsT (w : Int) (t : Tr) (rest : DocT) (c : Int) : Bool := match flatD t.flat with
  | none => false
  | some bs => decide ((bs.length : Int) ≤ w - c - (leadD rest).1)
theorem fit_calls {d : DocT} (hs : d.length ≤ 20000) (hp : ∀ p ∈ d, p.text.size ≤ 1000) {F : List Fr} (hF : ∀ f ∈ F, FrOk d f) (hl : (flF F.reverse).length ≤ 20000) {t : Tr} {a : Int} (ht : t.ok) (hi : In d t a) (Z : List (List AV)) (w c : Int) (hw : 0 ≤ w ∧ w ≤ 1048576) (hc : 0 ≤ c ∧ c ≤ 100000000) :
    ACalls Try.prog 71 [.rp (layR (d.map partC) ((startsD d).map intC) (F.map jobC) Z w c), .flat (.int .i64 a)] (fun _ => .flat (.bool (fitsT w t (flF F.reverse) c))) (fun _ => []) := by
  have hcB := behind_calls hs hp hF hl Z w c
  have hb := in_bd hi
  have hcW := width_calls t.flat (by omega) (sub_texts hp hi)
  rw [if_pos (tree_check ht (by omega))] at hcW
  have htot := leadD_bd (flF F.reverse) (flF_texts hp fun f hf => hF f (List.mem_reverse.1 hf))
  have hN : nthE ((startsD d).map intC) a 1 = some (.rp (intC (startD d a))) := starts_nth hb.1 hb.2.1
  have hadd : arI .add .i64 a 1 = a + 1 := ar_add64 (by omega) (by omega)
  have hsl := fun T => in_slc T ht hi
  have h1 : arI .sub .i64 w c = w - c := ar_sub64 (by omega) (by omega)
  have h2 : arI .sub .i64 (w - c) (leadD (flF F.reverse)).1 = w - c - (leadD (flF F.reverse)).1 := ar_sub64 (by omega) (by omega)
  have f1 : decide (0 ≤ widthO (flatD t.flat)) = false → fitsT w t (flF F.reverse) c = false := fun h => by
    unfold fitsT
    have h := of_decide_eq_false h
    cases ho : flatD t.flat with
    | none => rfl
    | some bs => rw [ho] at h; exact absurd (show (0 : Int) ≤ widthO (some bs) by unfold widthO; simp) h
  have f2 : decide (0 ≤ widthO (flatD t.flat)) = true → fitsT w t (flF F.reverse) c = decide (widthO (flatD t.flat) ≤ w - c - (leadD (flF F.reverse)).1) := fun h => by
    unfold fitsT
    have h := of_decide_eq_true h
    cases ho : flatD t.flat with
    | none => rw [ho] at h; exact absurd h (by unfold widthO; decide)
    | some bs => rfl
  generalize fitsT w t (flF F.reverse) c = r at f1 f2 ⊢
  generalize widthO (flatD t.flat) = wd at hcW f1 f2
  generalize (leadD (flF F.reverse)).1 = bh at hcB h2 f2 htot
  generalize hq : decide (0 ≤ wd) = b1 at f1 f2
  generalize hx2 : w - c - bh = x2 at h2 f2
  generalize w - c = x1 at h1 h2
  clear hx2
  generalize hq2 : decide (wd ≤ x2) = b2 at f2
  generalize F.map jobC = J at hcB ⊢
  generalize d.map partC = X at hcB hsl ⊢
  generalize (startsD d).map intC = S at hcB hN ⊢
  generalize t.flat.map partC = XX at hcW hsl
  generalize startD d a = sa at hN hsl
  generalize a + 1 = a1 at hadd hsl
  unfold intC at hN
  unfold layR at hcB ⊢
  refine acalls_symF tabF_ok fn71 rfl rfl rfl (by kernel_rfl) ?_
  have hfin : ∀ st, resA Try.prog Try.f71 st = some (.flat (.bool r)) → G.Leaves Try.prog Try.f71 (fun _ => .flat (.bool r)) (fun _ => []) st := fun st h => G.Leaves.plain h rfl
  rintro ⟨lt, le, eq, se, ar, dv, una, conv, len, sln, nat, nth, ixs, cel, sto, app, cpy, slc, mak, ixv, oth, dk, ib, call⟩ hS hm Q hQ
  obtain ⟨hlt, hle, heq, hse, har, hdv, huna, hconv, hlen, hsln, hnat, hnth, hixs, hcel, hsto, happ, hcpy, hslc, hmak, hixv, hoth, hdk, hib, hcall⟩ := Sym.mk.inj hS
  clear hS
  have hnt : ∀ n : Nat, nat n = U.natI n := fun n => by rw [hnat]; rfl
  have hbox : ∀ e c off, cel (some ⟨e, [c]⟩) 0 off = if off ≤ c.length then some (c.drop off) else none := fun e c off => by rw [hcel]; rfl
  have hsbox : ∀ e c off sz y, sto (some ⟨e, [c]⟩) 0 off sz y = if y.cells.length = sz ∧ off + sz ≤ c.length ∧ y.cells.all AV.one = true then some ⟨e, [spl c off y.cells]⟩ else none := fun e c off sz y => by rw [hsto]; rfl
  have hcaw : ∀ {f args T base K}, CallK Try.prog f args T base K → call f args T base K := fun h => by rw [hcall]; exact h
  have hcal : ∀ {f args T base} {K : AV → Table → List Nat → List Nat → Prop}, (∃ args' ids val rows, Hands T ids args args' (val base) (rows base) ∧ ACalls Try.prog f args' val rows ∧ (rows base).length ≤ 8 ∧ K (val base) (adopt T base (rows base)) ids ((List.range (rows base).length).map (base + ·))) → call f args T base K := fun h => hcaw (call_own h)
  have e1 : le 0 wd = b1 := by rw [hle]; exact hq
  have e2 : le wd x2 = b2 := by rw [hle]; exact hq2
  rw [← har] at h1 h2 hadd
  rw [← hnth] at hN
  have hsl2 : ∀ T, slc T 23 (.ro X) (some (.flat (.int .i64 sa))) (some (.flat (.int .i64 a1))) = some (.ro XX) := fun T => by rw [hslc]; exact hsl T
  clear hsl hq hq2
  cbv
  refine ⟨by rw [hdk]; kernel_rfl, ?_⟩
  repeat (first | (rw [hbox]; cbv) | (rw [hsbox]; cbv) | (rw [hN]; cbv) | (rw [hadd]; cbv))
  rw [hsl2]; cbv
  refine ⟨by rw [hib]; kernel_rfl, ?_⟩
  cbv
  refine hcal ⟨_, [], _, _, .inl ⟨rfl, by cbv⟩, hcW, by simp, ?_⟩
  cbv
  cases b1
  · obtain rfl := f1 rfl
    clear f2
    cbv
    refine ⟨by rw [hdk]; kernel_rfl, ?_⟩
    repeat (first | (rw [hbox]; cbv) | (rw [hsbox]; cbv) | (rw [e1]; cbv))
    refine ⟨by rw [hib]; kernel_rfl, ?_⟩
    cbv
    exact hQ _ _ trivial (hfin _ (by cbv))
  obtain rfl := f2 rfl
  clear f1
  cbv
  refine ⟨by rw [hdk]; kernel_rfl, ?_⟩
  repeat (first | (rw [hbox]; cbv) | (rw [hsbox]; cbv) | (rw [e1]; cbv) | (rw [h1]; cbv))
  refine hcal ⟨_, [], _, _, .inl ⟨rfl, by cbv⟩, hcB, by simp, ?_⟩
  cbv
  repeat (first | (rw [hbox]; cbv) | (rw [hsbox]; cbv) | (rw [h2]; cbv) | (rw [e2]; cbv))
  refine ⟨by rw [hib]; kernel_rfl, ?_⟩
  cbv
  exact hQ _ _ trivial (hfin _ (by cbv))
end Go.Proofs.Ytagflbmonlaioaa.D
