/- Render: H4, H5, H6. -/
import Derived.Test.YtagflbmonlaioaaM1
namespace Go.Proofs.Ytagflbmonlaioaa.D
open Go G U K
set_option linter.unusedVariables false
set_option linter.unusedSimpArgs false
set_option maxRecDepth 100000
set_option maxHeartbeats 4000000
theorem fn64 : Try.prog.funcs[64]? = some Try.f64 := by kernel_rfl
theorem c82 : Try.prog.cellsOf 82 = 3 := by kernel_rfl
theorem u83 : Try.prog.underlying 83 = some (.slice 82) := by kernel_rfl
theorem z82 : tinfo Try.prog 82 = some (some (.agg #[.int .i64 0, .int .i64 0, .bool false]), 3, 24) := by kernel_rfl
theorem deep_ptr {T : Table} {ids : List Nat} {id : Nat} {e : TypeId} {cs cs' : List AV} (hid : id ∈ ids) (hT : T id = some ⟨e, [cs]⟩) (h0 : 0 < cs.length) (h : Deeps T ids cs cs') : Deep T ids (.ptr id 0 0) (.rp cs') := by
  obtain ⟨h1, h2⟩ := deeps_len h
  exact .ptr hid hT rfl (by simpa using h1) h0 (fun j x y hx hy => h2 j x y (by simpa using hx) hy)
/-! ### What is put upon the jobs -/
def jobA (a n : Int) (fl : Bool) : List AV := [.flat (.int .i64 a), .flat (.int .i64 n), .flat (.bool fl)]
def pushJ (J0 : List (List AV)) (nj : Nat) (n : Int) (fl : Bool) (K : List Int) : List (List AV) := if K.length = 0 then J0 else J0.take nj ++ K.map fun a => jobA a n fl
def PuAt (J0 : List (List AV)) (nj : Nat) (n : Int) (fl : Bool) (K : List Int) (i : Int) (J : List (List AV)) (m : Nat) : Prop := At K i ∧ m = nj + i.toNat ∧ J = pushJ J0 nj n fl (K.take i.toNat)
theorem pu_zero (J0 : List (List AV)) (nj : Nat) (n : Int) (fl : Bool) (K : List Int) : PuAt J0 nj n fl K 0 J0 nj := ⟨at_zero K, rfl, rfl⟩
theorem pu_end {J0 : List (List AV)} {nj : Nat} {n : Int} {fl : Bool} {K : List Int} {i : Int} {J : List (List AV)} {m : Nat} (h : PuAt J0 nj n fl K i J m) (hc : decide (i < (K.length : Int)) = false) : J = pushJ J0 nj n fl K ∧ m = nj + K.length := by
  obtain ⟨h1, h2, h3⟩ := h
  have e := take_end h1 hc
  refine ⟨by rw [h3, e], ?_⟩
  have hc := of_decide_eq_false hc
  obtain ⟨h0, h4⟩ := h1
  omega
theorem push_closed {J0 : List (List AV)} {nj : Nat} {n : Int} {fl : Bool} {K : List Int} (hJ : ∀ c ∈ J0, closedAll [] c = true) : ∀ c ∈ pushJ J0 nj n fl K, closedAll [] c = true := by
  unfold pushJ
  split
  · exact hJ
  · intro c hc
    rcases List.mem_append.1 hc with h | h
    · exact hJ c (List.mem_of_mem_take h)
    · obtain ⟨a, _, rfl⟩ := List.mem_map.1 h; rfl
theorem pu_closed {J0 : List (List AV)} {nj : Nat} {n : Int} {fl : Bool} {K : List Int} {i : Int} {J : List (List AV)} {m : Nat} (hJ : ∀ c ∈ J0, closedAll [] c = true) (h : PuAt J0 nj n fl K i J m) : ∀ c ∈ J, closedAll [] c = true := by
  rw [h.2.2]; exact push_closed hJ
theorem pu_step {J0 : List (List AV)} {nj : Nat} {n : Int} {fl : Bool} {K : List Int} {i : Int} {J : List (List AV)} {m : Nat} (hn : nj ≤ J0.length) (hnb : nj + K.length ≤ 1000000) (h : PuAt J0 nj n fl K i J m) (hc : decide (i < (K.length : Int)) = true) :
    (∀ id, ixSl Try.prog (some ⟨3, K.map intC⟩) id 0 K.length i 1 = some (.ptr id i.toNat 0)) ∧ ptrCells (some ⟨3, K.map intC⟩) i.toNat 0 = some [.flat (.int .i64 (atI K i))] ∧ arI .add .i64 i 1 = i + 1 ∧ (K.length - (i + 1).toNat) < (K.length - i.toNat) ∧
    ∃ J2, PuAt J0 nj n fl K (i + 1) J2 (m + 1) ∧ ∀ (T : Table) id k0 k, T k0 = some ⟨82, J⟩ → T k = some ⟨82, [jobA (atI K i) n fl]⟩ → k ≠ k0 → evAppend Try.prog T id 83 83 (.sl k0 0 m) (.sl k 0 1) = some (.sl id 0 (m + 1), (T.set k0 none).set id (some ⟨82, J2⟩)) := by
  obtain ⟨h1, h2, h3⟩ := h
  obtain ⟨_, h0, h4⟩ := at_lt h1 hc
  obtain ⟨x1, x2, _⟩ := own_int (Y := K.map intC) (l := K) rfl rfl h0 h4
  have hi2 : (i + 1).toNat = i.toNat + 1 := by omega
  have hJ2 : pushJ J0 nj n fl (K.take (i + 1).toNat) = J.take m ++ [jobA (atI K i) n fl] := by
    have ht := take_next h0 h4
    have hlt : (K.take i.toNat).length = i.toNat := by rw [List.length_take]; omega
    rw [h3, h2]
    unfold pushJ
    rw [ht, if_neg (by simp), List.map_append, hlt]
    by_cases hz : i.toNat = 0
    · rw [if_pos hz, hz]; simp
    · rw [if_neg hz]
      have : (J0.take nj ++ (K.take i.toNat).map fun a => jobA a n fl).length = nj + i.toNat := by simp only [List.length_append, List.length_take, List.length_map]; omega
      rw [List.take_of_length_le (i := nj + i.toNat) (l := J0.take nj ++ (K.take i.toNat).map fun a => jobA a n fl) (by omega), List.append_assoc]; rfl
  have hmJ : m ≤ J.length := by
    rw [h3, h2]
    unfold pushJ
    have hlt : (K.take i.toNat).length = i.toNat := by rw [List.length_take]; omega
    split
    · omega
    · simp only [List.length_append, List.length_take, List.length_map]; omega
  refine ⟨x1, x2, ar_add64 (by omega) (by omega), by omega, _, ⟨(at_step h1 hc).1, by rw [h2]; omega, rfl⟩, fun T id k0 k hT0 hT hne => ?_⟩
  exact app_tip u83 z82 c82 (by decide) rfl (by decide) hT0 hT hne rfl hmJ rfl hJ2 (by omega)
/-- One job, done. -/
def DoR (X S : List (List AV)) (w : Int) (J0 : List (List AV)) (nj : Nat) (K : List Int) (a n : Int) (fl : Bool) (bs out : List UInt8) (n2 : Int) (fl2 : Bool) : Prop :=
  ∀ (ns k k2 nj2 : Nat), ns = S.length → k = bs.length → k2 = (bs ++ out).length → nj2 = nj + K.length → PCalls Try.prog 64 1 [.ptr 0 0 0, .agg [.flat (.int .i64 a), .flat (.int .i64 n), .flat (.bool fl)]]
    [⟨85, [layerC X ns w nj k (colB bs)]⟩, ⟨3, S⟩, ⟨82, J0⟩, ⟨5, bs.map byteC⟩] (.tup []) [some ⟨85, [layerC X ns w nj2 k2 (colB (bs ++ out))]⟩, some ⟨3, S⟩, some ⟨82, pushJ J0 nj n2 fl2 K⟩, some ⟨5, (bs ++ out).map byteC⟩]
/-- What a job's walk stands on. -/
structure DoH (X S : List (List AV)) (w : Int) (J0 : List (List AV)) (nj : Nat) (K : List Int) (p : PartT) (a n : Int) (fl : Bool) (bs out : List UInt8) : Prop where
  hix : nthE X a 3 = some (.rp (partC p))
  hS : ∀ c ∈ S, closedAll [] c = true
  hSf : flatRow S
  hJ : ∀ c ∈ J0, closedAll [] c = true
  hJf : flatRow J0
  hJn : nj ≤ J0.length
  hnb : nj + K.length ≤ 1000000
  hb : bs.length + out.length ≤ 100000000
  hn : 0 ≤ n
  hP : ACalls Try.prog 72 [.rp (layR X S (J0.take nj) ((bs ++ out).map byteC) w (colB (bs ++ out))), .agg [.flat (.int .i64 a), .flat (.int .i64 n), .flat (.bool fl)]] (fun k => .sl k 0 K.length) (fun _ => [⟨3, K.map intC⟩])
theorem flat_byte {Y : List (List AV)} {l : List UInt8} (hY : Y = l.map byteC) : flatRow Y := by
  rw [hY]
  exact flat_map (fun a x hx => by simp only [byteC, List.mem_cons, List.not_mem_nil, or_false] at hx; subst hx; exact ⟨rfl, rfl⟩) l
theorem do2_lf0 {X S : List (List AV)} {w : Int} {J0 : List (List AV)} {nj : Nat} {K : List Int} {p : PartT} {a n : Int} {fl : Bool} {bs : List UInt8} (hkd : p.kind = 0) (h : DoH X S w J0 nj K p a n fl bs (bts p.text)) : DoR X S w J0 nj K a n fl bs (bts p.text) n fl := by
  intro ns k k2 nj2 hns hk hk2 hnj2
  obtain ⟨hix, hS, hSf, hJ, hJf, hJn, hnb, hb, hn, hP⟩ := h
  have hend := fun (J : List (List AV)) (i : Int) (m : Nat) (h : PuAt J0 nj (n) fl K i J m) hc => pu_end h hc
  have hstep := fun (J : List (List AV)) (i : Int) (m : Nat) (h : PuAt J0 nj (n) fl K i J m) hc => pu_step hJn hnb h hc
  have hpcl := fun (J : List (List AV)) (i : Int) (m : Nat) (h : PuAt J0 nj (n) fl K i J m) => pu_closed hJ h
  have hz := pu_zero J0 nj (n) fl K
  have hJ2cl := push_closed (nj := nj) (n := n) (fl := fl) (K := K) hJ
  have hl := textL_calls X ns nj k k2 w (colB bs) S J0 bs p.text hS hJ (by rw [bts_len] at hb; exact hb) hk hk2 rfl
  obtain ⟨kd, pn, tx⟩ := p
  dsimp only at *
  subst hkd
  unfold partC at hix
  dsimp only at hix
  obtain ⟨Z, hZ⟩ : ∃ Z, Z = bs.map byteC := ⟨_, rfl⟩
  obtain ⟨Z2, hZ2⟩ : ∃ Z, Z = (bs ++ (bts tx)).map byteC := ⟨_, rfl⟩
  rw [← hZ, ← hZ2] at hl ⊢
  rw [← hZ2] at hP
  have hZ2cl := closed_byte hZ2
  have hZ2f := flat_byte hZ2
  have hZ2n : k2 = Z2.length := by rw [hZ2, List.length_map, hk2]
  have hZcl := closed_byte hZ
  have hZf := flat_byte hZ
  have hZn : k = Z.length := by rw [hZ, List.length_map, hk]
  have hKcl := closed_int (l := K) rfl
  obtain ⟨KR, hKR⟩ : ∃ KR, KR = K.map intC := ⟨_, rfl⟩
  obtain ⟨nk, hnk⟩ : ∃ nk, nk = K.length := ⟨_, rfl⟩
  rw [← hKR, ← hnk] at hP
  rw [← hnk] at hnb hnj2
  rw [← hKR] at hKcl
  have hKf := flat_int K
  rw [← hKR] at hKf
  generalize colB (bs ++ (bts tx)) = c2 at hl hP ⊢
  generalize colB bs = c at hl ⊢
  generalize hJR : pushJ J0 nj n fl K = J2 at hend hJ2cl ⊢
  unfold layerC at hl
  unfold layR at hP
  unfold layerC
  refine pcalls_symF tabF_ok 1 (by decide) (by simp) fn64 rfl rfl rfl (by kernel_rfl) ?_
  rintro ⟨lt, le, eq, se, ar, dv, una, conv, len, sln, nat, nth, ixs, cel, sto, app, cpy, slc, mak, ixv, oth, dk, ib, call⟩ hS hm Q hQ
  obtain ⟨hlt, hle, heq, hse, har, hdv, huna, hconv, hlen, hsln, hnat, hnth, hixs, hcel, hsto, happ, hcpy, hslc, hmak, hixv, hoth, hdk, hib, hcall⟩ := Sym.mk.inj hS
  clear hS
  have hnt : ∀ n : Nat, nat n = U.natI n := fun n => by rw [hnat]; rfl
  have hbox : ∀ e c off, cel (some ⟨e, [c]⟩) 0 off = if off ≤ c.length then some (c.drop off) else none := fun e c off => by rw [hcel]; rfl
  have hsbox : ∀ e c off sz y, sto (some ⟨e, [c]⟩) 0 off sz y = if y.cells.length = sz ∧ off + sz ≤ c.length ∧ y.cells.all AV.one = true then some ⟨e, [spl c off y.cells]⟩ else none := fun e c off sz y => by rw [hsto]; rfl
  have hcaw : ∀ {f args T base K}, CallK Try.prog f args T base K → call f args T base K := fun h => by rw [hcall]; exact h
  have hcal : ∀ {f args T base} {K : AV → Table → List Nat → List Nat → Prop}, (∃ args' ids val rows, Hands T ids args args' (val base) (rows base) ∧ ACalls Try.prog f args' val rows ∧ (rows base).length ≤ 8 ∧ K (val base) (adopt T base (rows base)) ids ((List.range (rows base).length).map (base + ·))) → call f args T base K := fun h => hcaw (call_own h)
  have hE : ∀ x y, eq x y = decide (x = y) := fun x y => by rw [heq]
  rw [← hnth] at hix
  have hendL : ∀ J i m, PuAt J0 nj n fl K i J m → lt i (nat nk) = false → J = J2 ∧ m = nj2 := fun J i m h hc => by
    rw [hlt, hnt] at hc
    obtain ⟨q1, q2⟩ := hend J i m h (by rw [← hnk]; exact hc)
    exact ⟨q1, by rw [q2, hnj2, hnk]⟩
  have hstepL : ∀ J i m, PuAt J0 nj n fl K i J m → lt i (nat nk) = true → _ := fun J i m h hc => hstep J i m h (by rw [hlt, hnt] at hc; rw [← hnk]; exact hc)
  clear hend hstep
  cbv
  refine ⟨by rw [hdk]; kernel_rfl, ?_⟩
  repeat (first | (rw [hbox]; cbv) | (rw [hsbox]; cbv) | (rw [hix]; cbv))
  refine ⟨by rw [hib]; kernel_rfl, ?_⟩
  cbv
  refine ⟨by rw [hdk]; kernel_rfl, ?_⟩
  repeat (first | (rw [hbox]; cbv) | (rw [hsbox]; cbv))
  refine ⟨by rw [hib]; kernel_rfl, ?_⟩
  cbv
  repeat (first | (rw [hbox]; cbv) | (rw [hsbox]; cbv) | (rw [hE]; cbv))
  refine hcaw (call_with [0, 1, 2, 3] hl (by simp) (by decide) (cutRows_box (by rfl) (by rfl) (by rfl) (cutRows_cons (by rfl) (hS) (cutRows_cons (by rfl) (hJ) (cutRows_cons (by rfl) (hZcl) rfl)))) (by rfl) (by rfl) (by rfl) (renRows_box (by rfl) (renRows_cons (hS) (renRows_cons (hJ) (renRows_cons (hZ2cl) rfl)))) ?_)
  cbv
  repeat (first | (rw [hbox]; cbv) | (rw [hsbox]; cbv))
  refine hcal ⟨[.rp [.ro X, .ro S, .flat (.int .i64 w), .ro (J0.take nj), .ro Z2, .flat (.int .i64 c2)], .agg [.flat (.int .i64 a), .flat (.int .i64 n), .flat (.bool fl)]], [0, 196, 197, 198], _, _, hands_deep ⟨deep_ptr (e := 85) (cs := [.ro X, .sl 196 0 ns, .flat (.int .i64 w), .sl 197 0 nj, .sl 198 0 k2, .flat (.int .i64 c2)]) (by simp) (by rfl) (by simp) ⟨.id rfl, deep_row (by simp) (by rfl) hns hSf.read, .id rfl, deep_part (by simp) (by rfl) hJn hJf.read, deep_row (by simp) (by rfl) hZ2n hZ2f.read, .id rfl, trivial⟩, deep_agg ⟨.id rfl, .id rfl, .id rfl, trivial⟩, trivial⟩ rfl (noRo_flat hKf), hP, by simp, ?_⟩
  cbv
  refine MW_loopP hm [0, 196, 197, 198, 220] [0, 5, 6, 67, 68, 69] 70 ⟨by simp, by rfl⟩ (fun mz st => ∃ (i : Int) (J : List (List AV)) (m : Nat), PuAt J0 nj n fl K i J m ∧ mz = nk - i.toNat ∧ st = stOf [.ptr 0 0 0, .dead, .dead, .dead, .dead, .flat (.int .i64 n), .flat (.bool fl), .dead, .dead, .dead, .dead, .dead, .dead, .dead, .dead, .dead, .dead, .dead, .dead, .dead, .dead, .dead, .dead, .dead, .dead, .dead, .dead, .dead, .dead, .dead, .dead, .dead, .dead, .dead, .dead, .dead, .dead, .dead, .dead, .dead, .dead, .dead, .dead, .dead, .dead, .dead, .dead, .dead, .dead, .dead, .dead, .dead, .dead, .dead, .dead, .dead, .dead, .dead, .dead, .dead, .dead, .dead, .dead, .dead, .dead, .dead, .dead, .sl 4 0 nk, .flat (.int .i64 (nat nk)), .flat (.int .i64 i)] [some ⟨85, [[.ro X, .sl 1 0 ns, .flat (.int .i64 w), .sl 2 0 m, .sl 3 0 k2, .flat (.int .i64 c2)]]⟩, some ⟨3, S⟩, some ⟨82, J⟩, some ⟨5, Z2⟩, some ⟨3, KR⟩] 5) (nk - (0 : Int).toNat) ?_ ?_
  · exact ⟨0, J0, nj, hz, rfl, cut_eq (by cbv) (cutRows_box (by rfl) (by rfl) (by rfl) (cutRows_cons (by rfl) (hS) (cutRows_cons (by rfl) (hJ) (cutRows_cons (by rfl) (hZ2cl) (cutRows_cons (by rfl) (hKcl) rfl)))))⟩
  rintro mz st ⟨i, J, m, hi, hmz, rfl⟩
  cases hcc : lt i (nat nk)
  · obtain ⟨rfl, rfl⟩ := hendL _ _ _ hi hcc
    cbv
    rw [hcc]; cbv
    exact hQ _ _ trivial (pleaves [0, 1, 2, 3] (by cbv) rfl (by simp) (by rfl) (by simp) (cutRows_box (by rfl) (by rfl) (by rfl) (cutRows_cons (by rfl) (hS) (cutRows_cons (by rfl) (hJ2cl) (cutRows_cons (by rfl) (hZ2cl) rfl)))))
  obtain ⟨x1, x2, x3, x4, J3, x5, x6⟩ := hstepL _ _ _ hi hcc
  rw [← hKR, ← hnk] at x1
  rw [← hKR] at x2
  rw [← hnk] at x4
  rw [← hixs] at x1
  rw [← hcel] at x2
  rw [← har] at x3
  rw [← happ] at x6
  have hJ3cl := hpcl _ _ _ x5
  unfold jobA at x6
  generalize atI K i = ka at x2 x6
  generalize i.toNat = iN at x1 x2 x4 hmz
  generalize i + 1 = i2 at x3 x4 x5
  obtain ⟨m2, hm2⟩ : ∃ m2, m2 = m + 1 := ⟨_, rfl⟩
  rw [← hm2] at x5 x6
  cbv
  rw [hcc]; cbv
  repeat (first | (rw [hbox]; cbv) | (rw [hsbox]; cbv) | (rw [x1]; cbv) | (rw [x2]; cbv))
  rw [x6 _ _ _ _ (by rfl) (by rfl) (by decide)]; cbv
  repeat (first | (rw [hbox]; cbv) | (rw [hsbox]; cbv) | (rw [x3]; cbv))
  exact ⟨[0, 1, 117, 3, 4], [0, 5, 6, 67, 68, 69], 70, nk - i2.toNat, hmz ▸ x4, ⟨by simp, by rfl⟩, i2, J3, m2, x5, rfl, cut_eq (by cbv) (cutRows_box (by rfl) (by rfl) (by rfl) (cutRows_cons (by rfl) (hS) (cutRows_cons (by rfl) (hJ3cl) (cutRows_cons (by rfl) (hZ2cl) (cutRows_cons (by rfl) (hKcl) rfl)))))⟩
theorem do2_lf1t {X S : List (List AV)} {w : Int} {J0 : List (List AV)} {nj : Nat} {K : List Int} {p : PartT} {a n : Int} {fl : Bool} {bs : List UInt8} (hkd : p.kind = 1) (h : DoH X S w J0 nj K p a n true bs [32]) : DoR X S w J0 nj K a n true bs [32] n true := by
  intro ns k k2 nj2 hns hk hk2 hnj2
  obtain ⟨hix, hS, hSf, hJ, hJf, hJn, hnb, hb, hn, hP⟩ := h
  have hend := fun (J : List (List AV)) (i : Int) (m : Nat) (h : PuAt J0 nj (n) true K i J m) hc => pu_end h hc
  have hstep := fun (J : List (List AV)) (i : Int) (m : Nat) (h : PuAt J0 nj (n) true K i J m) hc => pu_step hJn hnb h hc
  have hpcl := fun (J : List (List AV)) (i : Int) (m : Nat) (h : PuAt J0 nj (n) true K i J m) => pu_closed hJ h
  have hz := pu_zero J0 nj (n) true K
  have hJ2cl := push_closed (nj := nj) (n := n) (fl := true) (K := K) hJ
  have hl := textL_calls X ns nj k k2 w (colB bs) S J0 bs ⟨#[32]⟩ hS hJ (by exact hb) hk hk2 rfl
  change PCalls Try.prog 69 1 _ _ (.tup []) [some ⟨85, [layerC X ns w nj k2 (colB (bs ++ [32]))]⟩, some ⟨3, S⟩, some ⟨82, J0⟩, some ⟨5, (bs ++ [32]).map byteC⟩] at hl
  obtain ⟨kd, pn, tx⟩ := p
  dsimp only at *
  subst hkd
  unfold partC at hix
  dsimp only at hix
  obtain ⟨Z, hZ⟩ : ∃ Z, Z = bs.map byteC := ⟨_, rfl⟩
  obtain ⟨Z2, hZ2⟩ : ∃ Z, Z = (bs ++ [32]).map byteC := ⟨_, rfl⟩
  rw [← hZ, ← hZ2] at hl ⊢
  rw [← hZ2] at hP
  have hZ2cl := closed_byte hZ2
  have hZ2f := flat_byte hZ2
  have hZ2n : k2 = Z2.length := by rw [hZ2, List.length_map, hk2]
  have hZcl := closed_byte hZ
  have hZf := flat_byte hZ
  have hZn : k = Z.length := by rw [hZ, List.length_map, hk]
  have hKcl := closed_int (l := K) rfl
  obtain ⟨KR, hKR⟩ : ∃ KR, KR = K.map intC := ⟨_, rfl⟩
  obtain ⟨nk, hnk⟩ : ∃ nk, nk = K.length := ⟨_, rfl⟩
  rw [← hKR, ← hnk] at hP
  rw [← hnk] at hnb hnj2
  rw [← hKR] at hKcl
  have hKf := flat_int K
  rw [← hKR] at hKf
  generalize colB (bs ++ [32]) = c2 at hl hP ⊢
  generalize colB bs = c at hl ⊢
  generalize hJR : pushJ J0 nj n true K = J2 at hend hJ2cl ⊢
  unfold layerC at hl
  unfold layR at hP
  unfold layerC
  refine pcalls_symF tabF_ok 1 (by decide) (by simp) fn64 rfl rfl rfl (by kernel_rfl) ?_
  rintro ⟨lt, le, eq, se, ar, dv, una, conv, len, sln, nat, nth, ixs, cel, sto, app, cpy, slc, mak, ixv, oth, dk, ib, call⟩ hS hm Q hQ
  obtain ⟨hlt, hle, heq, hse, har, hdv, huna, hconv, hlen, hsln, hnat, hnth, hixs, hcel, hsto, happ, hcpy, hslc, hmak, hixv, hoth, hdk, hib, hcall⟩ := Sym.mk.inj hS
  clear hS
  have hnt : ∀ n : Nat, nat n = U.natI n := fun n => by rw [hnat]; rfl
  have hbox : ∀ e c off, cel (some ⟨e, [c]⟩) 0 off = if off ≤ c.length then some (c.drop off) else none := fun e c off => by rw [hcel]; rfl
  have hsbox : ∀ e c off sz y, sto (some ⟨e, [c]⟩) 0 off sz y = if y.cells.length = sz ∧ off + sz ≤ c.length ∧ y.cells.all AV.one = true then some ⟨e, [spl c off y.cells]⟩ else none := fun e c off sz y => by rw [hsto]; rfl
  have hcaw : ∀ {f args T base K}, CallK Try.prog f args T base K → call f args T base K := fun h => by rw [hcall]; exact h
  have hcal : ∀ {f args T base} {K : AV → Table → List Nat → List Nat → Prop}, (∃ args' ids val rows, Hands T ids args args' (val base) (rows base) ∧ ACalls Try.prog f args' val rows ∧ (rows base).length ≤ 8 ∧ K (val base) (adopt T base (rows base)) ids ((List.range (rows base).length).map (base + ·))) → call f args T base K := fun h => hcaw (call_own h)
  have hE : ∀ x y, eq x y = decide (x = y) := fun x y => by rw [heq]
  rw [← hnth] at hix
  have hendL : ∀ J i m, PuAt J0 nj n true K i J m → lt i (nat nk) = false → J = J2 ∧ m = nj2 := fun J i m h hc => by
    rw [hlt, hnt] at hc
    obtain ⟨q1, q2⟩ := hend J i m h (by rw [← hnk]; exact hc)
    exact ⟨q1, by rw [q2, hnj2, hnk]⟩
  have hstepL : ∀ J i m, PuAt J0 nj n true K i J m → lt i (nat nk) = true → _ := fun J i m h hc => hstep J i m h (by rw [hlt, hnt] at hc; rw [← hnk]; exact hc)
  clear hend hstep
  cbv
  refine ⟨by rw [hdk]; kernel_rfl, ?_⟩
  repeat (first | (rw [hbox]; cbv) | (rw [hsbox]; cbv) | (rw [hix]; cbv))
  refine ⟨by rw [hib]; kernel_rfl, ?_⟩
  cbv
  refine ⟨by rw [hdk]; kernel_rfl, ?_⟩
  repeat (first | (rw [hbox]; cbv) | (rw [hsbox]; cbv))
  refine ⟨by rw [hib]; kernel_rfl, ?_⟩
  cbv
  repeat (first | (rw [hbox]; cbv) | (rw [hsbox]; cbv) | (rw [hE]; cbv))
  refine hcaw (call_with [0, 1, 2, 3] hl (by simp) (by decide) (cutRows_box (by rfl) (by rfl) (by rfl) (cutRows_cons (by rfl) (hS) (cutRows_cons (by rfl) (hJ) (cutRows_cons (by rfl) (hZcl) rfl)))) (by rfl) (by rfl) (by rfl) (renRows_box (by rfl) (renRows_cons (hS) (renRows_cons (hJ) (renRows_cons (hZ2cl) rfl)))) ?_)
  cbv
  repeat (first | (rw [hbox]; cbv) | (rw [hsbox]; cbv))
  refine hcal ⟨[.rp [.ro X, .ro S, .flat (.int .i64 w), .ro (J0.take nj), .ro Z2, .flat (.int .i64 c2)], .agg [.flat (.int .i64 a), .flat (.int .i64 n), .flat (.bool true)]], [0, 204, 205, 206], _, _, hands_deep ⟨deep_ptr (e := 85) (cs := [.ro X, .sl 204 0 ns, .flat (.int .i64 w), .sl 205 0 nj, .sl 206 0 k2, .flat (.int .i64 c2)]) (by simp) (by rfl) (by simp) ⟨.id rfl, deep_row (by simp) (by rfl) hns hSf.read, .id rfl, deep_part (by simp) (by rfl) hJn hJf.read, deep_row (by simp) (by rfl) hZ2n hZ2f.read, .id rfl, trivial⟩, deep_agg ⟨.id rfl, .id rfl, .id rfl, trivial⟩, trivial⟩ rfl (noRo_flat hKf), hP, by simp, ?_⟩
  cbv
  refine MW_loopP hm [0, 204, 205, 206, 228] [0, 5, 6, 67, 68, 69] 70 ⟨by simp, by rfl⟩ (fun mz st => ∃ (i : Int) (J : List (List AV)) (m : Nat), PuAt J0 nj n true K i J m ∧ mz = nk - i.toNat ∧ st = stOf [.ptr 0 0 0, .dead, .dead, .dead, .dead, .flat (.int .i64 n), .flat (.bool true), .dead, .dead, .dead, .dead, .dead, .dead, .dead, .dead, .dead, .dead, .dead, .dead, .dead, .dead, .dead, .dead, .dead, .dead, .dead, .dead, .dead, .dead, .dead, .dead, .dead, .dead, .dead, .dead, .dead, .dead, .dead, .dead, .dead, .dead, .dead, .dead, .dead, .dead, .dead, .dead, .dead, .dead, .dead, .dead, .dead, .dead, .dead, .dead, .dead, .dead, .dead, .dead, .dead, .dead, .dead, .dead, .dead, .dead, .dead, .dead, .sl 4 0 nk, .flat (.int .i64 (nat nk)), .flat (.int .i64 i)] [some ⟨85, [[.ro X, .sl 1 0 ns, .flat (.int .i64 w), .sl 2 0 m, .sl 3 0 k2, .flat (.int .i64 c2)]]⟩, some ⟨3, S⟩, some ⟨82, J⟩, some ⟨5, Z2⟩, some ⟨3, KR⟩] 5) (nk - (0 : Int).toNat) ?_ ?_
  · exact ⟨0, J0, nj, hz, rfl, cut_eq (by cbv) (cutRows_box (by rfl) (by rfl) (by rfl) (cutRows_cons (by rfl) (hS) (cutRows_cons (by rfl) (hJ) (cutRows_cons (by rfl) (hZ2cl) (cutRows_cons (by rfl) (hKcl) rfl)))))⟩
  rintro mz st ⟨i, J, m, hi, hmz, rfl⟩
  cases hcc : lt i (nat nk)
  · obtain ⟨rfl, rfl⟩ := hendL _ _ _ hi hcc
    cbv
    rw [hcc]; cbv
    exact hQ _ _ trivial (pleaves [0, 1, 2, 3] (by cbv) rfl (by simp) (by rfl) (by simp) (cutRows_box (by rfl) (by rfl) (by rfl) (cutRows_cons (by rfl) (hS) (cutRows_cons (by rfl) (hJ2cl) (cutRows_cons (by rfl) (hZ2cl) rfl)))))
  obtain ⟨x1, x2, x3, x4, J3, x5, x6⟩ := hstepL _ _ _ hi hcc
  rw [← hKR, ← hnk] at x1
  rw [← hKR] at x2
  rw [← hnk] at x4
  rw [← hixs] at x1
  rw [← hcel] at x2
  rw [← har] at x3
  rw [← happ] at x6
  have hJ3cl := hpcl _ _ _ x5
  unfold jobA at x6
  generalize atI K i = ka at x2 x6
  generalize i.toNat = iN at x1 x2 x4 hmz
  generalize i + 1 = i2 at x3 x4 x5
  obtain ⟨m2, hm2⟩ : ∃ m2, m2 = m + 1 := ⟨_, rfl⟩
  rw [← hm2] at x5 x6
  cbv
  rw [hcc]; cbv
  repeat (first | (rw [hbox]; cbv) | (rw [hsbox]; cbv) | (rw [x1]; cbv) | (rw [x2]; cbv))
  rw [x6 _ _ _ _ (by rfl) (by rfl) (by decide)]; cbv
  repeat (first | (rw [hbox]; cbv) | (rw [hsbox]; cbv) | (rw [x3]; cbv))
  exact ⟨[0, 1, 117, 3, 4], [0, 5, 6, 67, 68, 69], 70, nk - i2.toNat, hmz ▸ x4, ⟨by simp, by rfl⟩, i2, J3, m2, x5, rfl, cut_eq (by cbv) (cutRows_box (by rfl) (by rfl) (by rfl) (cutRows_cons (by rfl) (hS) (cutRows_cons (by rfl) (hJ3cl) (cutRows_cons (by rfl) (hZ2cl) (cutRows_cons (by rfl) (hKcl) rfl)))))⟩
theorem do2_lf1f {X S : List (List AV)} {w : Int} {J0 : List (List AV)} {nj : Nat} {K : List Int} {p : PartT} {a n : Int} {fl : Bool} {bs : List UInt8} (hkd : p.kind = 1) (h : DoH X S w J0 nj K p a n false bs (lineB n)) : DoR X S w J0 nj K a n false bs (lineB n) n false := by
  intro ns k k2 nj2 hns hk hk2 hnj2
  obtain ⟨hix, hS, hSf, hJ, hJf, hJn, hnb, hb, hn, hP⟩ := h
  have hend := fun (J : List (List AV)) (i : Int) (m : Nat) (h : PuAt J0 nj (n) false K i J m) hc => pu_end h hc
  have hstep := fun (J : List (List AV)) (i : Int) (m : Nat) (h : PuAt J0 nj (n) false K i J m) hc => pu_step hJn hnb h hc
  have hpcl := fun (J : List (List AV)) (i : Int) (m : Nat) (h : PuAt J0 nj (n) false K i J m) => pu_closed hJ h
  have hz := pu_zero J0 nj (n) false K
  have hJ2cl := push_closed (nj := nj) (n := n) (fl := false) (K := K) hJ
  have hl := lineL_calls X ns nj k k2 w (colB bs) n S J0 bs hS hJ hn (by unfold lineB at hb; rw [List.length_cons, List.length_replicate] at hb; omega) hk hk2
  obtain ⟨kd, pn, tx⟩ := p
  dsimp only at *
  subst hkd
  unfold partC at hix
  dsimp only at hix
  obtain ⟨Z, hZ⟩ : ∃ Z, Z = bs.map byteC := ⟨_, rfl⟩
  obtain ⟨Z2, hZ2⟩ : ∃ Z, Z = (bs ++ (lineB n)).map byteC := ⟨_, rfl⟩
  rw [← hZ, ← hZ2] at hl ⊢
  rw [← hZ2] at hP
  have hZ2cl := closed_byte hZ2
  have hZ2f := flat_byte hZ2
  have hZ2n : k2 = Z2.length := by rw [hZ2, List.length_map, hk2]
  have hZcl := closed_byte hZ
  have hZf := flat_byte hZ
  have hZn : k = Z.length := by rw [hZ, List.length_map, hk]
  have hKcl := closed_int (l := K) rfl
  obtain ⟨KR, hKR⟩ : ∃ KR, KR = K.map intC := ⟨_, rfl⟩
  obtain ⟨nk, hnk⟩ : ∃ nk, nk = K.length := ⟨_, rfl⟩
  rw [← hKR, ← hnk] at hP
  rw [← hnk] at hnb hnj2
  rw [← hKR] at hKcl
  have hKf := flat_int K
  rw [← hKR] at hKf
  generalize colB (bs ++ (lineB n)) = c2 at hl hP ⊢
  generalize colB bs = c at hl ⊢
  generalize hJR : pushJ J0 nj n false K = J2 at hend hJ2cl ⊢
  unfold layerC at hl
  unfold layR at hP
  unfold layerC
  refine pcalls_symF tabF_ok 1 (by decide) (by simp) fn64 rfl rfl rfl (by kernel_rfl) ?_
  rintro ⟨lt, le, eq, se, ar, dv, una, conv, len, sln, nat, nth, ixs, cel, sto, app, cpy, slc, mak, ixv, oth, dk, ib, call⟩ hS hm Q hQ
  obtain ⟨hlt, hle, heq, hse, har, hdv, huna, hconv, hlen, hsln, hnat, hnth, hixs, hcel, hsto, happ, hcpy, hslc, hmak, hixv, hoth, hdk, hib, hcall⟩ := Sym.mk.inj hS
  clear hS
  have hnt : ∀ n : Nat, nat n = U.natI n := fun n => by rw [hnat]; rfl
  have hbox : ∀ e c off, cel (some ⟨e, [c]⟩) 0 off = if off ≤ c.length then some (c.drop off) else none := fun e c off => by rw [hcel]; rfl
  have hsbox : ∀ e c off sz y, sto (some ⟨e, [c]⟩) 0 off sz y = if y.cells.length = sz ∧ off + sz ≤ c.length ∧ y.cells.all AV.one = true then some ⟨e, [spl c off y.cells]⟩ else none := fun e c off sz y => by rw [hsto]; rfl
  have hcaw : ∀ {f args T base K}, CallK Try.prog f args T base K → call f args T base K := fun h => by rw [hcall]; exact h
  have hcal : ∀ {f args T base} {K : AV → Table → List Nat → List Nat → Prop}, (∃ args' ids val rows, Hands T ids args args' (val base) (rows base) ∧ ACalls Try.prog f args' val rows ∧ (rows base).length ≤ 8 ∧ K (val base) (adopt T base (rows base)) ids ((List.range (rows base).length).map (base + ·))) → call f args T base K := fun h => hcaw (call_own h)
  have hE : ∀ x y, eq x y = decide (x = y) := fun x y => by rw [heq]
  rw [← hnth] at hix
  have hendL : ∀ J i m, PuAt J0 nj n false K i J m → lt i (nat nk) = false → J = J2 ∧ m = nj2 := fun J i m h hc => by
    rw [hlt, hnt] at hc
    obtain ⟨q1, q2⟩ := hend J i m h (by rw [← hnk]; exact hc)
    exact ⟨q1, by rw [q2, hnj2, hnk]⟩
  have hstepL : ∀ J i m, PuAt J0 nj n false K i J m → lt i (nat nk) = true → _ := fun J i m h hc => hstep J i m h (by rw [hlt, hnt] at hc; rw [← hnk]; exact hc)
  clear hend hstep
  cbv
  refine ⟨by rw [hdk]; kernel_rfl, ?_⟩
  repeat (first | (rw [hbox]; cbv) | (rw [hsbox]; cbv) | (rw [hix]; cbv))
  refine ⟨by rw [hib]; kernel_rfl, ?_⟩
  cbv
  refine ⟨by rw [hdk]; kernel_rfl, ?_⟩
  repeat (first | (rw [hbox]; cbv) | (rw [hsbox]; cbv))
  refine ⟨by rw [hib]; kernel_rfl, ?_⟩
  cbv
  repeat (first | (rw [hbox]; cbv) | (rw [hsbox]; cbv) | (rw [hE]; cbv))
  refine hcaw (call_with [0, 1, 2, 3] hl (by simp) (by decide) (cutRows_box (by rfl) (by rfl) (by rfl) (cutRows_cons (by rfl) (hS) (cutRows_cons (by rfl) (hJ) (cutRows_cons (by rfl) (hZcl) rfl)))) (by rfl) (by rfl) (by rfl) (renRows_box (by rfl) (renRows_cons (hS) (renRows_cons (hJ) (renRows_cons (hZ2cl) rfl)))) ?_)
  cbv
  repeat (first | (rw [hbox]; cbv) | (rw [hsbox]; cbv))
  refine hcal ⟨[.rp [.ro X, .ro S, .flat (.int .i64 w), .ro (J0.take nj), .ro Z2, .flat (.int .i64 c2)], .agg [.flat (.int .i64 a), .flat (.int .i64 n), .flat (.bool false)]], [0, 212, 213, 214], _, _, hands_deep ⟨deep_ptr (e := 85) (cs := [.ro X, .sl 212 0 ns, .flat (.int .i64 w), .sl 213 0 nj, .sl 214 0 k2, .flat (.int .i64 c2)]) (by simp) (by rfl) (by simp) ⟨.id rfl, deep_row (by simp) (by rfl) hns hSf.read, .id rfl, deep_part (by simp) (by rfl) hJn hJf.read, deep_row (by simp) (by rfl) hZ2n hZ2f.read, .id rfl, trivial⟩, deep_agg ⟨.id rfl, .id rfl, .id rfl, trivial⟩, trivial⟩ rfl (noRo_flat hKf), hP, by simp, ?_⟩
  cbv
  refine MW_loopP hm [0, 212, 213, 214, 236] [0, 5, 6, 67, 68, 69] 70 ⟨by simp, by rfl⟩ (fun mz st => ∃ (i : Int) (J : List (List AV)) (m : Nat), PuAt J0 nj n false K i J m ∧ mz = nk - i.toNat ∧ st = stOf [.ptr 0 0 0, .dead, .dead, .dead, .dead, .flat (.int .i64 n), .flat (.bool false), .dead, .dead, .dead, .dead, .dead, .dead, .dead, .dead, .dead, .dead, .dead, .dead, .dead, .dead, .dead, .dead, .dead, .dead, .dead, .dead, .dead, .dead, .dead, .dead, .dead, .dead, .dead, .dead, .dead, .dead, .dead, .dead, .dead, .dead, .dead, .dead, .dead, .dead, .dead, .dead, .dead, .dead, .dead, .dead, .dead, .dead, .dead, .dead, .dead, .dead, .dead, .dead, .dead, .dead, .dead, .dead, .dead, .dead, .dead, .dead, .sl 4 0 nk, .flat (.int .i64 (nat nk)), .flat (.int .i64 i)] [some ⟨85, [[.ro X, .sl 1 0 ns, .flat (.int .i64 w), .sl 2 0 m, .sl 3 0 k2, .flat (.int .i64 c2)]]⟩, some ⟨3, S⟩, some ⟨82, J⟩, some ⟨5, Z2⟩, some ⟨3, KR⟩] 5) (nk - (0 : Int).toNat) ?_ ?_
  · exact ⟨0, J0, nj, hz, rfl, cut_eq (by cbv) (cutRows_box (by rfl) (by rfl) (by rfl) (cutRows_cons (by rfl) (hS) (cutRows_cons (by rfl) (hJ) (cutRows_cons (by rfl) (hZ2cl) (cutRows_cons (by rfl) (hKcl) rfl)))))⟩
  rintro mz st ⟨i, J, m, hi, hmz, rfl⟩
  cases hcc : lt i (nat nk)
  · obtain ⟨rfl, rfl⟩ := hendL _ _ _ hi hcc
    cbv
    rw [hcc]; cbv
    exact hQ _ _ trivial (pleaves [0, 1, 2, 3] (by cbv) rfl (by simp) (by rfl) (by simp) (cutRows_box (by rfl) (by rfl) (by rfl) (cutRows_cons (by rfl) (hS) (cutRows_cons (by rfl) (hJ2cl) (cutRows_cons (by rfl) (hZ2cl) rfl)))))
  obtain ⟨x1, x2, x3, x4, J3, x5, x6⟩ := hstepL _ _ _ hi hcc
  rw [← hKR, ← hnk] at x1
  rw [← hKR] at x2
  rw [← hnk] at x4
  rw [← hixs] at x1
  rw [← hcel] at x2
  rw [← har] at x3
  rw [← happ] at x6
  have hJ3cl := hpcl _ _ _ x5
  unfold jobA at x6
  generalize atI K i = ka at x2 x6
  generalize i.toNat = iN at x1 x2 x4 hmz
  generalize i + 1 = i2 at x3 x4 x5
  obtain ⟨m2, hm2⟩ : ∃ m2, m2 = m + 1 := ⟨_, rfl⟩
  rw [← hm2] at x5 x6
  cbv
  rw [hcc]; cbv
  repeat (first | (rw [hbox]; cbv) | (rw [hsbox]; cbv) | (rw [x1]; cbv) | (rw [x2]; cbv))
  rw [x6 _ _ _ _ (by rfl) (by rfl) (by decide)]; cbv
  repeat (first | (rw [hbox]; cbv) | (rw [hsbox]; cbv) | (rw [x3]; cbv))
  exact ⟨[0, 1, 117, 3, 4], [0, 5, 6, 67, 68, 69], 70, nk - i2.toNat, hmz ▸ x4, ⟨by simp, by rfl⟩, i2, J3, m2, x5, rfl, cut_eq (by cbv) (cutRows_box (by rfl) (by rfl) (by rfl) (cutRows_cons (by rfl) (hS) (cutRows_cons (by rfl) (hJ3cl) (cutRows_cons (by rfl) (hZ2cl) (cutRows_cons (by rfl) (hKcl) rfl)))))⟩
theorem do2_lf2t {X S : List (List AV)} {w : Int} {J0 : List (List AV)} {nj : Nat} {K : List Int} {p : PartT} {a n : Int} {fl : Bool} {bs : List UInt8} (hkd : p.kind = 2) (h : DoH X S w J0 nj K p a n true bs ([] : List UInt8)) : DoR X S w J0 nj K a n true bs ([] : List UInt8) n true := by
  intro ns k k2 nj2 hns hk hk2 hnj2
  obtain ⟨hix, hS, hSf, hJ, hJf, hJn, hnb, hb, hn, hP⟩ := h
  have hend := fun (J : List (List AV)) (i : Int) (m : Nat) (h : PuAt J0 nj (n) true K i J m) hc => pu_end h hc
  have hstep := fun (J : List (List AV)) (i : Int) (m : Nat) (h : PuAt J0 nj (n) true K i J m) hc => pu_step hJn hnb h hc
  have hpcl := fun (J : List (List AV)) (i : Int) (m : Nat) (h : PuAt J0 nj (n) true K i J m) => pu_closed hJ h
  have hz := pu_zero J0 nj (n) true K
  have hJ2cl := push_closed (nj := nj) (n := n) (fl := true) (K := K) hJ
  obtain ⟨kd, pn, tx⟩ := p
  dsimp only at *
  subst hkd
  unfold partC at hix
  dsimp only at hix
  obtain ⟨Z, hZ⟩ : ∃ Z, Z = bs.map byteC := ⟨_, rfl⟩
  rw [List.append_nil] at hP hk2 ⊢
  obtain rfl : k = k2 := by rw [hk2, hk]
  rw [← hZ] at hP ⊢
  have hZcl := closed_byte hZ
  have hZf := flat_byte hZ
  have hZn : k = Z.length := by rw [hZ, List.length_map, hk]
  have hKcl := closed_int (l := K) rfl
  obtain ⟨KR, hKR⟩ : ∃ KR, KR = K.map intC := ⟨_, rfl⟩
  obtain ⟨nk, hnk⟩ : ∃ nk, nk = K.length := ⟨_, rfl⟩
  rw [← hKR, ← hnk] at hP
  rw [← hnk] at hnb hnj2
  rw [← hKR] at hKcl
  have hKf := flat_int K
  rw [← hKR] at hKf
  generalize colB bs = c at hP ⊢
  generalize hJR : pushJ J0 nj n true K = J2 at hend hJ2cl ⊢
  unfold layR at hP
  unfold layerC
  refine pcalls_symF tabF_ok 1 (by decide) (by simp) fn64 rfl rfl rfl (by kernel_rfl) ?_
  rintro ⟨lt, le, eq, se, ar, dv, una, conv, len, sln, nat, nth, ixs, cel, sto, app, cpy, slc, mak, ixv, oth, dk, ib, call⟩ hS hm Q hQ
  obtain ⟨hlt, hle, heq, hse, har, hdv, huna, hconv, hlen, hsln, hnat, hnth, hixs, hcel, hsto, happ, hcpy, hslc, hmak, hixv, hoth, hdk, hib, hcall⟩ := Sym.mk.inj hS
  clear hS
  have hnt : ∀ n : Nat, nat n = U.natI n := fun n => by rw [hnat]; rfl
  have hbox : ∀ e c off, cel (some ⟨e, [c]⟩) 0 off = if off ≤ c.length then some (c.drop off) else none := fun e c off => by rw [hcel]; rfl
  have hsbox : ∀ e c off sz y, sto (some ⟨e, [c]⟩) 0 off sz y = if y.cells.length = sz ∧ off + sz ≤ c.length ∧ y.cells.all AV.one = true then some ⟨e, [spl c off y.cells]⟩ else none := fun e c off sz y => by rw [hsto]; rfl
  have hcaw : ∀ {f args T base K}, CallK Try.prog f args T base K → call f args T base K := fun h => by rw [hcall]; exact h
  have hcal : ∀ {f args T base} {K : AV → Table → List Nat → List Nat → Prop}, (∃ args' ids val rows, Hands T ids args args' (val base) (rows base) ∧ ACalls Try.prog f args' val rows ∧ (rows base).length ≤ 8 ∧ K (val base) (adopt T base (rows base)) ids ((List.range (rows base).length).map (base + ·))) → call f args T base K := fun h => hcaw (call_own h)
  have hE : ∀ x y, eq x y = decide (x = y) := fun x y => by rw [heq]
  rw [← hnth] at hix
  have hendL : ∀ J i m, PuAt J0 nj n true K i J m → lt i (nat nk) = false → J = J2 ∧ m = nj2 := fun J i m h hc => by
    rw [hlt, hnt] at hc
    obtain ⟨q1, q2⟩ := hend J i m h (by rw [← hnk]; exact hc)
    exact ⟨q1, by rw [q2, hnj2, hnk]⟩
  have hstepL : ∀ J i m, PuAt J0 nj n true K i J m → lt i (nat nk) = true → _ := fun J i m h hc => hstep J i m h (by rw [hlt, hnt] at hc; rw [← hnk]; exact hc)
  clear hend hstep
  cbv
  refine ⟨by rw [hdk]; kernel_rfl, ?_⟩
  repeat (first | (rw [hbox]; cbv) | (rw [hsbox]; cbv) | (rw [hix]; cbv))
  refine ⟨by rw [hib]; kernel_rfl, ?_⟩
  cbv
  refine ⟨by rw [hdk]; kernel_rfl, ?_⟩
  repeat (first | (rw [hbox]; cbv) | (rw [hsbox]; cbv))
  refine ⟨by rw [hib]; kernel_rfl, ?_⟩
  cbv
  repeat (first | (rw [hbox]; cbv) | (rw [hsbox]; cbv) | (rw [hE]; cbv))
  repeat (first | (rw [hbox]; cbv) | (rw [hsbox]; cbv))
  refine hcal ⟨[.rp [.ro X, .ro S, .flat (.int .i64 w), .ro (J0.take nj), .ro Z, .flat (.int .i64 c)], .agg [.flat (.int .i64 a), .flat (.int .i64 n), .flat (.bool true)]], [0, 1, 2, 3], _, _, hands_deep ⟨deep_ptr (e := 85) (cs := [.ro X, .sl 1 0 ns, .flat (.int .i64 w), .sl 2 0 nj, .sl 3 0 k, .flat (.int .i64 c)]) (by simp) (by rfl) (by simp) ⟨.id rfl, deep_row (by simp) (by rfl) hns hSf.read, .id rfl, deep_part (by simp) (by rfl) hJn hJf.read, deep_row (by simp) (by rfl) hZn hZf.read, .id rfl, trivial⟩, deep_agg ⟨.id rfl, .id rfl, .id rfl, trivial⟩, trivial⟩ rfl (noRo_flat hKf), hP, by simp, ?_⟩
  cbv
  refine MW_loopP hm [0, 1, 2, 3, 236] [0, 5, 6, 67, 68, 69] 70 ⟨by simp, by rfl⟩ (fun mz st => ∃ (i : Int) (J : List (List AV)) (m : Nat), PuAt J0 nj n true K i J m ∧ mz = nk - i.toNat ∧ st = stOf [.ptr 0 0 0, .dead, .dead, .dead, .dead, .flat (.int .i64 n), .flat (.bool true), .dead, .dead, .dead, .dead, .dead, .dead, .dead, .dead, .dead, .dead, .dead, .dead, .dead, .dead, .dead, .dead, .dead, .dead, .dead, .dead, .dead, .dead, .dead, .dead, .dead, .dead, .dead, .dead, .dead, .dead, .dead, .dead, .dead, .dead, .dead, .dead, .dead, .dead, .dead, .dead, .dead, .dead, .dead, .dead, .dead, .dead, .dead, .dead, .dead, .dead, .dead, .dead, .dead, .dead, .dead, .dead, .dead, .dead, .dead, .dead, .sl 4 0 nk, .flat (.int .i64 (nat nk)), .flat (.int .i64 i)] [some ⟨85, [[.ro X, .sl 1 0 ns, .flat (.int .i64 w), .sl 2 0 m, .sl 3 0 k, .flat (.int .i64 c)]]⟩, some ⟨3, S⟩, some ⟨82, J⟩, some ⟨5, Z⟩, some ⟨3, KR⟩] 5) (nk - (0 : Int).toNat) ?_ ?_
  · exact ⟨0, J0, nj, hz, rfl, cut_eq (by cbv) (cutRows_box (by rfl) (by rfl) (by rfl) (cutRows_cons (by rfl) (hS) (cutRows_cons (by rfl) (hJ) (cutRows_cons (by rfl) (hZcl) (cutRows_cons (by rfl) (hKcl) rfl)))))⟩
  rintro mz st ⟨i, J, m, hi, hmz, rfl⟩
  cases hcc : lt i (nat nk)
  · obtain ⟨rfl, rfl⟩ := hendL _ _ _ hi hcc
    cbv
    rw [hcc]; cbv
    exact hQ _ _ trivial (pleaves [0, 1, 2, 3] (by cbv) rfl (by simp) (by rfl) (by simp) (cutRows_box (by rfl) (by rfl) (by rfl) (cutRows_cons (by rfl) (hS) (cutRows_cons (by rfl) (hJ2cl) (cutRows_cons (by rfl) (hZcl) rfl)))))
  obtain ⟨x1, x2, x3, x4, J3, x5, x6⟩ := hstepL _ _ _ hi hcc
  rw [← hKR, ← hnk] at x1
  rw [← hKR] at x2
  rw [← hnk] at x4
  rw [← hixs] at x1
  rw [← hcel] at x2
  rw [← har] at x3
  rw [← happ] at x6
  have hJ3cl := hpcl _ _ _ x5
  unfold jobA at x6
  generalize atI K i = ka at x2 x6
  generalize i.toNat = iN at x1 x2 x4 hmz
  generalize i + 1 = i2 at x3 x4 x5
  obtain ⟨m2, hm2⟩ : ∃ m2, m2 = m + 1 := ⟨_, rfl⟩
  rw [← hm2] at x5 x6
  cbv
  rw [hcc]; cbv
  repeat (first | (rw [hbox]; cbv) | (rw [hsbox]; cbv) | (rw [x1]; cbv) | (rw [x2]; cbv))
  rw [x6 _ _ _ _ (by rfl) (by rfl) (by decide)]; cbv
  repeat (first | (rw [hbox]; cbv) | (rw [hsbox]; cbv) | (rw [x3]; cbv))
  exact ⟨[0, 1, 117, 3, 4], [0, 5, 6, 67, 68, 69], 70, nk - i2.toNat, hmz ▸ x4, ⟨by simp, by rfl⟩, i2, J3, m2, x5, rfl, cut_eq (by cbv) (cutRows_box (by rfl) (by rfl) (by rfl) (cutRows_cons (by rfl) (hS) (cutRows_cons (by rfl) (hJ3cl) (cutRows_cons (by rfl) (hZcl) (cutRows_cons (by rfl) (hKcl) rfl)))))⟩
theorem do2_lf2f {X S : List (List AV)} {w : Int} {J0 : List (List AV)} {nj : Nat} {K : List Int} {p : PartT} {a n : Int} {fl : Bool} {bs : List UInt8} (hkd : p.kind = 2) (h : DoH X S w J0 nj K p a n false bs (lineB n)) : DoR X S w J0 nj K a n false bs (lineB n) n false := by
  intro ns k k2 nj2 hns hk hk2 hnj2
  obtain ⟨hix, hS, hSf, hJ, hJf, hJn, hnb, hb, hn, hP⟩ := h
  have hend := fun (J : List (List AV)) (i : Int) (m : Nat) (h : PuAt J0 nj (n) false K i J m) hc => pu_end h hc
  have hstep := fun (J : List (List AV)) (i : Int) (m : Nat) (h : PuAt J0 nj (n) false K i J m) hc => pu_step hJn hnb h hc
  have hpcl := fun (J : List (List AV)) (i : Int) (m : Nat) (h : PuAt J0 nj (n) false K i J m) => pu_closed hJ h
  have hz := pu_zero J0 nj (n) false K
  have hJ2cl := push_closed (nj := nj) (n := n) (fl := false) (K := K) hJ
  have hl := lineL_calls X ns nj k k2 w (colB bs) n S J0 bs hS hJ hn (by unfold lineB at hb; rw [List.length_cons, List.length_replicate] at hb; omega) hk hk2
  obtain ⟨kd, pn, tx⟩ := p
  dsimp only at *
  subst hkd
  unfold partC at hix
  dsimp only at hix
  obtain ⟨Z, hZ⟩ : ∃ Z, Z = bs.map byteC := ⟨_, rfl⟩
  obtain ⟨Z2, hZ2⟩ : ∃ Z, Z = (bs ++ (lineB n)).map byteC := ⟨_, rfl⟩
  rw [← hZ, ← hZ2] at hl ⊢
  rw [← hZ2] at hP
  have hZ2cl := closed_byte hZ2
  have hZ2f := flat_byte hZ2
  have hZ2n : k2 = Z2.length := by rw [hZ2, List.length_map, hk2]
  have hZcl := closed_byte hZ
  have hZf := flat_byte hZ
  have hZn : k = Z.length := by rw [hZ, List.length_map, hk]
  have hKcl := closed_int (l := K) rfl
  obtain ⟨KR, hKR⟩ : ∃ KR, KR = K.map intC := ⟨_, rfl⟩
  obtain ⟨nk, hnk⟩ : ∃ nk, nk = K.length := ⟨_, rfl⟩
  rw [← hKR, ← hnk] at hP
  rw [← hnk] at hnb hnj2
  rw [← hKR] at hKcl
  have hKf := flat_int K
  rw [← hKR] at hKf
  generalize colB (bs ++ (lineB n)) = c2 at hl hP ⊢
  generalize colB bs = c at hl ⊢
  generalize hJR : pushJ J0 nj n false K = J2 at hend hJ2cl ⊢
  unfold layerC at hl
  unfold layR at hP
  unfold layerC
  refine pcalls_symF tabF_ok 1 (by decide) (by simp) fn64 rfl rfl rfl (by kernel_rfl) ?_
  rintro ⟨lt, le, eq, se, ar, dv, una, conv, len, sln, nat, nth, ixs, cel, sto, app, cpy, slc, mak, ixv, oth, dk, ib, call⟩ hS hm Q hQ
  obtain ⟨hlt, hle, heq, hse, har, hdv, huna, hconv, hlen, hsln, hnat, hnth, hixs, hcel, hsto, happ, hcpy, hslc, hmak, hixv, hoth, hdk, hib, hcall⟩ := Sym.mk.inj hS
  clear hS
  have hnt : ∀ n : Nat, nat n = U.natI n := fun n => by rw [hnat]; rfl
  have hbox : ∀ e c off, cel (some ⟨e, [c]⟩) 0 off = if off ≤ c.length then some (c.drop off) else none := fun e c off => by rw [hcel]; rfl
  have hsbox : ∀ e c off sz y, sto (some ⟨e, [c]⟩) 0 off sz y = if y.cells.length = sz ∧ off + sz ≤ c.length ∧ y.cells.all AV.one = true then some ⟨e, [spl c off y.cells]⟩ else none := fun e c off sz y => by rw [hsto]; rfl
  have hcaw : ∀ {f args T base K}, CallK Try.prog f args T base K → call f args T base K := fun h => by rw [hcall]; exact h
  have hcal : ∀ {f args T base} {K : AV → Table → List Nat → List Nat → Prop}, (∃ args' ids val rows, Hands T ids args args' (val base) (rows base) ∧ ACalls Try.prog f args' val rows ∧ (rows base).length ≤ 8 ∧ K (val base) (adopt T base (rows base)) ids ((List.range (rows base).length).map (base + ·))) → call f args T base K := fun h => hcaw (call_own h)
  have hE : ∀ x y, eq x y = decide (x = y) := fun x y => by rw [heq]
  rw [← hnth] at hix
  have hendL : ∀ J i m, PuAt J0 nj n false K i J m → lt i (nat nk) = false → J = J2 ∧ m = nj2 := fun J i m h hc => by
    rw [hlt, hnt] at hc
    obtain ⟨q1, q2⟩ := hend J i m h (by rw [← hnk]; exact hc)
    exact ⟨q1, by rw [q2, hnj2, hnk]⟩
  have hstepL : ∀ J i m, PuAt J0 nj n false K i J m → lt i (nat nk) = true → _ := fun J i m h hc => hstep J i m h (by rw [hlt, hnt] at hc; rw [← hnk]; exact hc)
  clear hend hstep
  cbv
  refine ⟨by rw [hdk]; kernel_rfl, ?_⟩
  repeat (first | (rw [hbox]; cbv) | (rw [hsbox]; cbv) | (rw [hix]; cbv))
  refine ⟨by rw [hib]; kernel_rfl, ?_⟩
  cbv
  refine ⟨by rw [hdk]; kernel_rfl, ?_⟩
  repeat (first | (rw [hbox]; cbv) | (rw [hsbox]; cbv))
  refine ⟨by rw [hib]; kernel_rfl, ?_⟩
  cbv
  repeat (first | (rw [hbox]; cbv) | (rw [hsbox]; cbv) | (rw [hE]; cbv))
  refine hcaw (call_with [0, 1, 2, 3] hl (by simp) (by decide) (cutRows_box (by rfl) (by rfl) (by rfl) (cutRows_cons (by rfl) (hS) (cutRows_cons (by rfl) (hJ) (cutRows_cons (by rfl) (hZcl) rfl)))) (by rfl) (by rfl) (by rfl) (renRows_box (by rfl) (renRows_cons (hS) (renRows_cons (hJ) (renRows_cons (hZ2cl) rfl)))) ?_)
  cbv
  repeat (first | (rw [hbox]; cbv) | (rw [hsbox]; cbv))
  refine hcal ⟨[.rp [.ro X, .ro S, .flat (.int .i64 w), .ro (J0.take nj), .ro Z2, .flat (.int .i64 c2)], .agg [.flat (.int .i64 a), .flat (.int .i64 n), .flat (.bool false)]], [0, 236, 237, 238], _, _, hands_deep ⟨deep_ptr (e := 85) (cs := [.ro X, .sl 236 0 ns, .flat (.int .i64 w), .sl 237 0 nj, .sl 238 0 k2, .flat (.int .i64 c2)]) (by simp) (by rfl) (by simp) ⟨.id rfl, deep_row (by simp) (by rfl) hns hSf.read, .id rfl, deep_part (by simp) (by rfl) hJn hJf.read, deep_row (by simp) (by rfl) hZ2n hZ2f.read, .id rfl, trivial⟩, deep_agg ⟨.id rfl, .id rfl, .id rfl, trivial⟩, trivial⟩ rfl (noRo_flat hKf), hP, by simp, ?_⟩
  cbv
  refine MW_loopP hm [0, 236, 237, 238, 260] [0, 5, 6, 67, 68, 69] 70 ⟨by simp, by rfl⟩ (fun mz st => ∃ (i : Int) (J : List (List AV)) (m : Nat), PuAt J0 nj n false K i J m ∧ mz = nk - i.toNat ∧ st = stOf [.ptr 0 0 0, .dead, .dead, .dead, .dead, .flat (.int .i64 n), .flat (.bool false), .dead, .dead, .dead, .dead, .dead, .dead, .dead, .dead, .dead, .dead, .dead, .dead, .dead, .dead, .dead, .dead, .dead, .dead, .dead, .dead, .dead, .dead, .dead, .dead, .dead, .dead, .dead, .dead, .dead, .dead, .dead, .dead, .dead, .dead, .dead, .dead, .dead, .dead, .dead, .dead, .dead, .dead, .dead, .dead, .dead, .dead, .dead, .dead, .dead, .dead, .dead, .dead, .dead, .dead, .dead, .dead, .dead, .dead, .dead, .dead, .sl 4 0 nk, .flat (.int .i64 (nat nk)), .flat (.int .i64 i)] [some ⟨85, [[.ro X, .sl 1 0 ns, .flat (.int .i64 w), .sl 2 0 m, .sl 3 0 k2, .flat (.int .i64 c2)]]⟩, some ⟨3, S⟩, some ⟨82, J⟩, some ⟨5, Z2⟩, some ⟨3, KR⟩] 5) (nk - (0 : Int).toNat) ?_ ?_
  · exact ⟨0, J0, nj, hz, rfl, cut_eq (by cbv) (cutRows_box (by rfl) (by rfl) (by rfl) (cutRows_cons (by rfl) (hS) (cutRows_cons (by rfl) (hJ) (cutRows_cons (by rfl) (hZ2cl) (cutRows_cons (by rfl) (hKcl) rfl)))))⟩
  rintro mz st ⟨i, J, m, hi, hmz, rfl⟩
  cases hcc : lt i (nat nk)
  · obtain ⟨rfl, rfl⟩ := hendL _ _ _ hi hcc
    cbv
    rw [hcc]; cbv
    exact hQ _ _ trivial (pleaves [0, 1, 2, 3] (by cbv) rfl (by simp) (by rfl) (by simp) (cutRows_box (by rfl) (by rfl) (by rfl) (cutRows_cons (by rfl) (hS) (cutRows_cons (by rfl) (hJ2cl) (cutRows_cons (by rfl) (hZ2cl) rfl)))))
  obtain ⟨x1, x2, x3, x4, J3, x5, x6⟩ := hstepL _ _ _ hi hcc
  rw [← hKR, ← hnk] at x1
  rw [← hKR] at x2
  rw [← hnk] at x4
  rw [← hixs] at x1
  rw [← hcel] at x2
  rw [← har] at x3
  rw [← happ] at x6
  have hJ3cl := hpcl _ _ _ x5
  unfold jobA at x6
  generalize atI K i = ka at x2 x6
  generalize i.toNat = iN at x1 x2 x4 hmz
  generalize i + 1 = i2 at x3 x4 x5
  obtain ⟨m2, hm2⟩ : ∃ m2, m2 = m + 1 := ⟨_, rfl⟩
  rw [← hm2] at x5 x6
  cbv
  rw [hcc]; cbv
  repeat (first | (rw [hbox]; cbv) | (rw [hsbox]; cbv) | (rw [x1]; cbv) | (rw [x2]; cbv))
  rw [x6 _ _ _ _ (by rfl) (by rfl) (by decide)]; cbv
  repeat (first | (rw [hbox]; cbv) | (rw [hsbox]; cbv) | (rw [x3]; cbv))
  exact ⟨[0, 1, 117, 3, 4], [0, 5, 6, 67, 68, 69], 70, nk - i2.toNat, hmz ▸ x4, ⟨by simp, by rfl⟩, i2, J3, m2, x5, rfl, cut_eq (by cbv) (cutRows_box (by rfl) (by rfl) (by rfl) (cutRows_cons (by rfl) (hS) (cutRows_cons (by rfl) (hJ3cl) (cutRows_cons (by rfl) (hZ2cl) (cutRows_cons (by rfl) (hKcl) rfl)))))⟩
theorem do2_lf3 {X S : List (List AV)} {w : Int} {J0 : List (List AV)} {nj : Nat} {K : List Int} {p : PartT} {a n : Int} {fl : Bool} {bs : List UInt8} (hkd : p.kind = 3) (h : DoH X S w J0 nj K p a n fl bs (lineB n)) : DoR X S w J0 nj K a n fl bs (lineB n) n fl := by
  intro ns k k2 nj2 hns hk hk2 hnj2
  obtain ⟨hix, hS, hSf, hJ, hJf, hJn, hnb, hb, hn, hP⟩ := h
  have hend := fun (J : List (List AV)) (i : Int) (m : Nat) (h : PuAt J0 nj (n) fl K i J m) hc => pu_end h hc
  have hstep := fun (J : List (List AV)) (i : Int) (m : Nat) (h : PuAt J0 nj (n) fl K i J m) hc => pu_step hJn hnb h hc
  have hpcl := fun (J : List (List AV)) (i : Int) (m : Nat) (h : PuAt J0 nj (n) fl K i J m) => pu_closed hJ h
  have hz := pu_zero J0 nj (n) fl K
  have hJ2cl := push_closed (nj := nj) (n := n) (fl := fl) (K := K) hJ
  have hl := lineL_calls X ns nj k k2 w (colB bs) n S J0 bs hS hJ hn (by unfold lineB at hb; rw [List.length_cons, List.length_replicate] at hb; omega) hk hk2
  obtain ⟨kd, pn, tx⟩ := p
  dsimp only at *
  subst hkd
  unfold partC at hix
  dsimp only at hix
  obtain ⟨Z, hZ⟩ : ∃ Z, Z = bs.map byteC := ⟨_, rfl⟩
  obtain ⟨Z2, hZ2⟩ : ∃ Z, Z = (bs ++ (lineB n)).map byteC := ⟨_, rfl⟩
  rw [← hZ, ← hZ2] at hl ⊢
  rw [← hZ2] at hP
  have hZ2cl := closed_byte hZ2
  have hZ2f := flat_byte hZ2
  have hZ2n : k2 = Z2.length := by rw [hZ2, List.length_map, hk2]
  have hZcl := closed_byte hZ
  have hZf := flat_byte hZ
  have hZn : k = Z.length := by rw [hZ, List.length_map, hk]
  have hKcl := closed_int (l := K) rfl
  obtain ⟨KR, hKR⟩ : ∃ KR, KR = K.map intC := ⟨_, rfl⟩
  obtain ⟨nk, hnk⟩ : ∃ nk, nk = K.length := ⟨_, rfl⟩
  rw [← hKR, ← hnk] at hP
  rw [← hnk] at hnb hnj2
  rw [← hKR] at hKcl
  have hKf := flat_int K
  rw [← hKR] at hKf
  generalize colB (bs ++ (lineB n)) = c2 at hl hP ⊢
  generalize colB bs = c at hl ⊢
  generalize hJR : pushJ J0 nj n fl K = J2 at hend hJ2cl ⊢
  unfold layerC at hl
  unfold layR at hP
  unfold layerC
  refine pcalls_symF tabF_ok 1 (by decide) (by simp) fn64 rfl rfl rfl (by kernel_rfl) ?_
  rintro ⟨lt, le, eq, se, ar, dv, una, conv, len, sln, nat, nth, ixs, cel, sto, app, cpy, slc, mak, ixv, oth, dk, ib, call⟩ hS hm Q hQ
  obtain ⟨hlt, hle, heq, hse, har, hdv, huna, hconv, hlen, hsln, hnat, hnth, hixs, hcel, hsto, happ, hcpy, hslc, hmak, hixv, hoth, hdk, hib, hcall⟩ := Sym.mk.inj hS
  clear hS
  have hnt : ∀ n : Nat, nat n = U.natI n := fun n => by rw [hnat]; rfl
  have hbox : ∀ e c off, cel (some ⟨e, [c]⟩) 0 off = if off ≤ c.length then some (c.drop off) else none := fun e c off => by rw [hcel]; rfl
  have hsbox : ∀ e c off sz y, sto (some ⟨e, [c]⟩) 0 off sz y = if y.cells.length = sz ∧ off + sz ≤ c.length ∧ y.cells.all AV.one = true then some ⟨e, [spl c off y.cells]⟩ else none := fun e c off sz y => by rw [hsto]; rfl
  have hcaw : ∀ {f args T base K}, CallK Try.prog f args T base K → call f args T base K := fun h => by rw [hcall]; exact h
  have hcal : ∀ {f args T base} {K : AV → Table → List Nat → List Nat → Prop}, (∃ args' ids val rows, Hands T ids args args' (val base) (rows base) ∧ ACalls Try.prog f args' val rows ∧ (rows base).length ≤ 8 ∧ K (val base) (adopt T base (rows base)) ids ((List.range (rows base).length).map (base + ·))) → call f args T base K := fun h => hcaw (call_own h)
  have hE : ∀ x y, eq x y = decide (x = y) := fun x y => by rw [heq]
  rw [← hnth] at hix
  have hendL : ∀ J i m, PuAt J0 nj n fl K i J m → lt i (nat nk) = false → J = J2 ∧ m = nj2 := fun J i m h hc => by
    rw [hlt, hnt] at hc
    obtain ⟨q1, q2⟩ := hend J i m h (by rw [← hnk]; exact hc)
    exact ⟨q1, by rw [q2, hnj2, hnk]⟩
  have hstepL : ∀ J i m, PuAt J0 nj n fl K i J m → lt i (nat nk) = true → _ := fun J i m h hc => hstep J i m h (by rw [hlt, hnt] at hc; rw [← hnk]; exact hc)
  clear hend hstep
  cbv
  refine ⟨by rw [hdk]; kernel_rfl, ?_⟩
  repeat (first | (rw [hbox]; cbv) | (rw [hsbox]; cbv) | (rw [hix]; cbv))
  refine ⟨by rw [hib]; kernel_rfl, ?_⟩
  cbv
  refine ⟨by rw [hdk]; kernel_rfl, ?_⟩
  repeat (first | (rw [hbox]; cbv) | (rw [hsbox]; cbv))
  refine ⟨by rw [hib]; kernel_rfl, ?_⟩
  cbv
  repeat (first | (rw [hbox]; cbv) | (rw [hsbox]; cbv) | (rw [hE]; cbv))
  refine hcaw (call_with [0, 1, 2, 3] hl (by simp) (by decide) (cutRows_box (by rfl) (by rfl) (by rfl) (cutRows_cons (by rfl) (hS) (cutRows_cons (by rfl) (hJ) (cutRows_cons (by rfl) (hZcl) rfl)))) (by rfl) (by rfl) (by rfl) (renRows_box (by rfl) (renRows_cons (hS) (renRows_cons (hJ) (renRows_cons (hZ2cl) rfl)))) ?_)
  cbv
  repeat (first | (rw [hbox]; cbv) | (rw [hsbox]; cbv))
  refine hcal ⟨[.rp [.ro X, .ro S, .flat (.int .i64 w), .ro (J0.take nj), .ro Z2, .flat (.int .i64 c2)], .agg [.flat (.int .i64 a), .flat (.int .i64 n), .flat (.bool fl)]], [0, 236, 237, 238], _, _, hands_deep ⟨deep_ptr (e := 85) (cs := [.ro X, .sl 236 0 ns, .flat (.int .i64 w), .sl 237 0 nj, .sl 238 0 k2, .flat (.int .i64 c2)]) (by simp) (by rfl) (by simp) ⟨.id rfl, deep_row (by simp) (by rfl) hns hSf.read, .id rfl, deep_part (by simp) (by rfl) hJn hJf.read, deep_row (by simp) (by rfl) hZ2n hZ2f.read, .id rfl, trivial⟩, deep_agg ⟨.id rfl, .id rfl, .id rfl, trivial⟩, trivial⟩ rfl (noRo_flat hKf), hP, by simp, ?_⟩
  cbv
  refine MW_loopP hm [0, 236, 237, 238, 260] [0, 5, 6, 67, 68, 69] 70 ⟨by simp, by rfl⟩ (fun mz st => ∃ (i : Int) (J : List (List AV)) (m : Nat), PuAt J0 nj n fl K i J m ∧ mz = nk - i.toNat ∧ st = stOf [.ptr 0 0 0, .dead, .dead, .dead, .dead, .flat (.int .i64 n), .flat (.bool fl), .dead, .dead, .dead, .dead, .dead, .dead, .dead, .dead, .dead, .dead, .dead, .dead, .dead, .dead, .dead, .dead, .dead, .dead, .dead, .dead, .dead, .dead, .dead, .dead, .dead, .dead, .dead, .dead, .dead, .dead, .dead, .dead, .dead, .dead, .dead, .dead, .dead, .dead, .dead, .dead, .dead, .dead, .dead, .dead, .dead, .dead, .dead, .dead, .dead, .dead, .dead, .dead, .dead, .dead, .dead, .dead, .dead, .dead, .dead, .dead, .sl 4 0 nk, .flat (.int .i64 (nat nk)), .flat (.int .i64 i)] [some ⟨85, [[.ro X, .sl 1 0 ns, .flat (.int .i64 w), .sl 2 0 m, .sl 3 0 k2, .flat (.int .i64 c2)]]⟩, some ⟨3, S⟩, some ⟨82, J⟩, some ⟨5, Z2⟩, some ⟨3, KR⟩] 5) (nk - (0 : Int).toNat) ?_ ?_
  · exact ⟨0, J0, nj, hz, rfl, cut_eq (by cbv) (cutRows_box (by rfl) (by rfl) (by rfl) (cutRows_cons (by rfl) (hS) (cutRows_cons (by rfl) (hJ) (cutRows_cons (by rfl) (hZ2cl) (cutRows_cons (by rfl) (hKcl) rfl)))))⟩
  rintro mz st ⟨i, J, m, hi, hmz, rfl⟩
  cases hcc : lt i (nat nk)
  · obtain ⟨rfl, rfl⟩ := hendL _ _ _ hi hcc
    cbv
    rw [hcc]; cbv
    exact hQ _ _ trivial (pleaves [0, 1, 2, 3] (by cbv) rfl (by simp) (by rfl) (by simp) (cutRows_box (by rfl) (by rfl) (by rfl) (cutRows_cons (by rfl) (hS) (cutRows_cons (by rfl) (hJ2cl) (cutRows_cons (by rfl) (hZ2cl) rfl)))))
  obtain ⟨x1, x2, x3, x4, J3, x5, x6⟩ := hstepL _ _ _ hi hcc
  rw [← hKR, ← hnk] at x1
  rw [← hKR] at x2
  rw [← hnk] at x4
  rw [← hixs] at x1
  rw [← hcel] at x2
  rw [← har] at x3
  rw [← happ] at x6
  have hJ3cl := hpcl _ _ _ x5
  unfold jobA at x6
  generalize atI K i = ka at x2 x6
  generalize i.toNat = iN at x1 x2 x4 hmz
  generalize i + 1 = i2 at x3 x4 x5
  obtain ⟨m2, hm2⟩ : ∃ m2, m2 = m + 1 := ⟨_, rfl⟩
  rw [← hm2] at x5 x6
  cbv
  rw [hcc]; cbv
  repeat (first | (rw [hbox]; cbv) | (rw [hsbox]; cbv) | (rw [x1]; cbv) | (rw [x2]; cbv))
  rw [x6 _ _ _ _ (by rfl) (by rfl) (by decide)]; cbv
  repeat (first | (rw [hbox]; cbv) | (rw [hsbox]; cbv) | (rw [x3]; cbv))
  exact ⟨[0, 1, 117, 3, 4], [0, 5, 6, 67, 68, 69], 70, nk - i2.toNat, hmz ▸ x4, ⟨by simp, by rfl⟩, i2, J3, m2, x5, rfl, cut_eq (by cbv) (cutRows_box (by rfl) (by rfl) (by rfl) (cutRows_cons (by rfl) (hS) (cutRows_cons (by rfl) (hJ3cl) (cutRows_cons (by rfl) (hZ2cl) (cutRows_cons (by rfl) (hKcl) rfl)))))⟩
theorem do2_lf7 {X S : List (List AV)} {w : Int} {J0 : List (List AV)} {nj : Nat} {K : List Int} {p : PartT} {a n : Int} {fl : Bool} {bs : List UInt8} (hkd : p.kind = 7) (h : DoH X S w J0 nj K p a n fl bs ([] : List UInt8)) : DoR X S w J0 nj K a n fl bs ([] : List UInt8) n fl := by
  intro ns k k2 nj2 hns hk hk2 hnj2
  obtain ⟨hix, hS, hSf, hJ, hJf, hJn, hnb, hb, hn, hP⟩ := h
  have hend := fun (J : List (List AV)) (i : Int) (m : Nat) (h : PuAt J0 nj (n) fl K i J m) hc => pu_end h hc
  have hstep := fun (J : List (List AV)) (i : Int) (m : Nat) (h : PuAt J0 nj (n) fl K i J m) hc => pu_step hJn hnb h hc
  have hpcl := fun (J : List (List AV)) (i : Int) (m : Nat) (h : PuAt J0 nj (n) fl K i J m) => pu_closed hJ h
  have hz := pu_zero J0 nj (n) fl K
  have hJ2cl := push_closed (nj := nj) (n := n) (fl := fl) (K := K) hJ
  obtain ⟨kd, pn, tx⟩ := p
  dsimp only at *
  subst hkd
  unfold partC at hix
  dsimp only at hix
  obtain ⟨Z, hZ⟩ : ∃ Z, Z = bs.map byteC := ⟨_, rfl⟩
  rw [List.append_nil] at hP hk2 ⊢
  obtain rfl : k = k2 := by rw [hk2, hk]
  rw [← hZ] at hP ⊢
  have hZcl := closed_byte hZ
  have hZf := flat_byte hZ
  have hZn : k = Z.length := by rw [hZ, List.length_map, hk]
  have hKcl := closed_int (l := K) rfl
  obtain ⟨KR, hKR⟩ : ∃ KR, KR = K.map intC := ⟨_, rfl⟩
  obtain ⟨nk, hnk⟩ : ∃ nk, nk = K.length := ⟨_, rfl⟩
  rw [← hKR, ← hnk] at hP
  rw [← hnk] at hnb hnj2
  rw [← hKR] at hKcl
  have hKf := flat_int K
  rw [← hKR] at hKf
  generalize colB bs = c at hP ⊢
  generalize hJR : pushJ J0 nj n fl K = J2 at hend hJ2cl ⊢
  unfold layR at hP
  unfold layerC
  refine pcalls_symF tabF_ok 1 (by decide) (by simp) fn64 rfl rfl rfl (by kernel_rfl) ?_
  rintro ⟨lt, le, eq, se, ar, dv, una, conv, len, sln, nat, nth, ixs, cel, sto, app, cpy, slc, mak, ixv, oth, dk, ib, call⟩ hS hm Q hQ
  obtain ⟨hlt, hle, heq, hse, har, hdv, huna, hconv, hlen, hsln, hnat, hnth, hixs, hcel, hsto, happ, hcpy, hslc, hmak, hixv, hoth, hdk, hib, hcall⟩ := Sym.mk.inj hS
  clear hS
  have hnt : ∀ n : Nat, nat n = U.natI n := fun n => by rw [hnat]; rfl
  have hbox : ∀ e c off, cel (some ⟨e, [c]⟩) 0 off = if off ≤ c.length then some (c.drop off) else none := fun e c off => by rw [hcel]; rfl
  have hsbox : ∀ e c off sz y, sto (some ⟨e, [c]⟩) 0 off sz y = if y.cells.length = sz ∧ off + sz ≤ c.length ∧ y.cells.all AV.one = true then some ⟨e, [spl c off y.cells]⟩ else none := fun e c off sz y => by rw [hsto]; rfl
  have hcaw : ∀ {f args T base K}, CallK Try.prog f args T base K → call f args T base K := fun h => by rw [hcall]; exact h
  have hcal : ∀ {f args T base} {K : AV → Table → List Nat → List Nat → Prop}, (∃ args' ids val rows, Hands T ids args args' (val base) (rows base) ∧ ACalls Try.prog f args' val rows ∧ (rows base).length ≤ 8 ∧ K (val base) (adopt T base (rows base)) ids ((List.range (rows base).length).map (base + ·))) → call f args T base K := fun h => hcaw (call_own h)
  have hE : ∀ x y, eq x y = decide (x = y) := fun x y => by rw [heq]
  rw [← hnth] at hix
  have hendL : ∀ J i m, PuAt J0 nj n fl K i J m → lt i (nat nk) = false → J = J2 ∧ m = nj2 := fun J i m h hc => by
    rw [hlt, hnt] at hc
    obtain ⟨q1, q2⟩ := hend J i m h (by rw [← hnk]; exact hc)
    exact ⟨q1, by rw [q2, hnj2, hnk]⟩
  have hstepL : ∀ J i m, PuAt J0 nj n fl K i J m → lt i (nat nk) = true → _ := fun J i m h hc => hstep J i m h (by rw [hlt, hnt] at hc; rw [← hnk]; exact hc)
  clear hend hstep
  cbv
  refine ⟨by rw [hdk]; kernel_rfl, ?_⟩
  repeat (first | (rw [hbox]; cbv) | (rw [hsbox]; cbv) | (rw [hix]; cbv))
  refine ⟨by rw [hib]; kernel_rfl, ?_⟩
  cbv
  refine ⟨by rw [hdk]; kernel_rfl, ?_⟩
  repeat (first | (rw [hbox]; cbv) | (rw [hsbox]; cbv))
  refine ⟨by rw [hib]; kernel_rfl, ?_⟩
  cbv
  repeat (first | (rw [hbox]; cbv) | (rw [hsbox]; cbv) | (rw [hE]; cbv))
  repeat (first | (rw [hbox]; cbv) | (rw [hsbox]; cbv))
  refine hcal ⟨[.rp [.ro X, .ro S, .flat (.int .i64 w), .ro (J0.take nj), .ro Z, .flat (.int .i64 c)], .agg [.flat (.int .i64 a), .flat (.int .i64 n), .flat (.bool fl)]], [0, 1, 2, 3], _, _, hands_deep ⟨deep_ptr (e := 85) (cs := [.ro X, .sl 1 0 ns, .flat (.int .i64 w), .sl 2 0 nj, .sl 3 0 k, .flat (.int .i64 c)]) (by simp) (by rfl) (by simp) ⟨.id rfl, deep_row (by simp) (by rfl) hns hSf.read, .id rfl, deep_part (by simp) (by rfl) hJn hJf.read, deep_row (by simp) (by rfl) hZn hZf.read, .id rfl, trivial⟩, deep_agg ⟨.id rfl, .id rfl, .id rfl, trivial⟩, trivial⟩ rfl (noRo_flat hKf), hP, by simp, ?_⟩
  cbv
  refine MW_loopP hm [0, 1, 2, 3, 268] [0, 5, 6, 67, 68, 69] 70 ⟨by simp, by rfl⟩ (fun mz st => ∃ (i : Int) (J : List (List AV)) (m : Nat), PuAt J0 nj n fl K i J m ∧ mz = nk - i.toNat ∧ st = stOf [.ptr 0 0 0, .dead, .dead, .dead, .dead, .flat (.int .i64 n), .flat (.bool fl), .dead, .dead, .dead, .dead, .dead, .dead, .dead, .dead, .dead, .dead, .dead, .dead, .dead, .dead, .dead, .dead, .dead, .dead, .dead, .dead, .dead, .dead, .dead, .dead, .dead, .dead, .dead, .dead, .dead, .dead, .dead, .dead, .dead, .dead, .dead, .dead, .dead, .dead, .dead, .dead, .dead, .dead, .dead, .dead, .dead, .dead, .dead, .dead, .dead, .dead, .dead, .dead, .dead, .dead, .dead, .dead, .dead, .dead, .dead, .dead, .sl 4 0 nk, .flat (.int .i64 (nat nk)), .flat (.int .i64 i)] [some ⟨85, [[.ro X, .sl 1 0 ns, .flat (.int .i64 w), .sl 2 0 m, .sl 3 0 k, .flat (.int .i64 c)]]⟩, some ⟨3, S⟩, some ⟨82, J⟩, some ⟨5, Z⟩, some ⟨3, KR⟩] 5) (nk - (0 : Int).toNat) ?_ ?_
  · exact ⟨0, J0, nj, hz, rfl, cut_eq (by cbv) (cutRows_box (by rfl) (by rfl) (by rfl) (cutRows_cons (by rfl) (hS) (cutRows_cons (by rfl) (hJ) (cutRows_cons (by rfl) (hZcl) (cutRows_cons (by rfl) (hKcl) rfl)))))⟩
  rintro mz st ⟨i, J, m, hi, hmz, rfl⟩
  cases hcc : lt i (nat nk)
  · obtain ⟨rfl, rfl⟩ := hendL _ _ _ hi hcc
    cbv
    rw [hcc]; cbv
    exact hQ _ _ trivial (pleaves [0, 1, 2, 3] (by cbv) rfl (by simp) (by rfl) (by simp) (cutRows_box (by rfl) (by rfl) (by rfl) (cutRows_cons (by rfl) (hS) (cutRows_cons (by rfl) (hJ2cl) (cutRows_cons (by rfl) (hZcl) rfl)))))
  obtain ⟨x1, x2, x3, x4, J3, x5, x6⟩ := hstepL _ _ _ hi hcc
  rw [← hKR, ← hnk] at x1
  rw [← hKR] at x2
  rw [← hnk] at x4
  rw [← hixs] at x1
  rw [← hcel] at x2
  rw [← har] at x3
  rw [← happ] at x6
  have hJ3cl := hpcl _ _ _ x5
  unfold jobA at x6
  generalize atI K i = ka at x2 x6
  generalize i.toNat = iN at x1 x2 x4 hmz
  generalize i + 1 = i2 at x3 x4 x5
  obtain ⟨m2, hm2⟩ : ∃ m2, m2 = m + 1 := ⟨_, rfl⟩
  rw [← hm2] at x5 x6
  cbv
  rw [hcc]; cbv
  repeat (first | (rw [hbox]; cbv) | (rw [hsbox]; cbv) | (rw [x1]; cbv) | (rw [x2]; cbv))
  rw [x6 _ _ _ _ (by rfl) (by rfl) (by decide)]; cbv
  repeat (first | (rw [hbox]; cbv) | (rw [hsbox]; cbv) | (rw [x3]; cbv))
  exact ⟨[0, 1, 117, 3, 4], [0, 5, 6, 67, 68, 69], 70, nk - i2.toNat, hmz ▸ x4, ⟨by simp, by rfl⟩, i2, J3, m2, x5, rfl, cut_eq (by cbv) (cutRows_box (by rfl) (by rfl) (by rfl) (cutRows_cons (by rfl) (hS) (cutRows_cons (by rfl) (hJ3cl) (cutRows_cons (by rfl) (hZcl) (cutRows_cons (by rfl) (hKcl) rfl)))))⟩
theorem do2_nest {X S : List (List AV)} {w : Int} {J0 : List (List AV)} {nj : Nat} {K : List Int} {p : PartT} {a n : Int} {fl : Bool} {bs : List UInt8} (hadd : arI .add .i64 n p.n = n + p.n) (hkd : p.kind = 5) (h : DoH X S w J0 nj K p a n fl bs ([] : List UInt8)) : DoR X S w J0 nj K a n fl bs ([] : List UInt8) (n + p.n) fl := by
  intro ns k k2 nj2 hns hk hk2 hnj2
  obtain ⟨hix, hS, hSf, hJ, hJf, hJn, hnb, hb, hn, hP⟩ := h
  have hend := fun (J : List (List AV)) (i : Int) (m : Nat) (h : PuAt J0 nj ((n + p.n)) fl K i J m) hc => pu_end h hc
  have hstep := fun (J : List (List AV)) (i : Int) (m : Nat) (h : PuAt J0 nj ((n + p.n)) fl K i J m) hc => pu_step hJn hnb h hc
  have hpcl := fun (J : List (List AV)) (i : Int) (m : Nat) (h : PuAt J0 nj ((n + p.n)) fl K i J m) => pu_closed hJ h
  have hz := pu_zero J0 nj ((n + p.n)) fl K
  have hJ2cl := push_closed (nj := nj) (n := (n + p.n)) (fl := fl) (K := K) hJ
  obtain ⟨kd, pn, tx⟩ := p
  dsimp only at *
  subst hkd
  unfold partC at hix
  dsimp only at hix
  obtain ⟨Z, hZ⟩ : ∃ Z, Z = bs.map byteC := ⟨_, rfl⟩
  rw [List.append_nil] at hP hk2 ⊢
  obtain rfl : k = k2 := by rw [hk2, hk]
  rw [← hZ] at hP ⊢
  have hZcl := closed_byte hZ
  have hZf := flat_byte hZ
  have hZn : k = Z.length := by rw [hZ, List.length_map, hk]
  have hKcl := closed_int (l := K) rfl
  obtain ⟨KR, hKR⟩ : ∃ KR, KR = K.map intC := ⟨_, rfl⟩
  obtain ⟨nk, hnk⟩ : ∃ nk, nk = K.length := ⟨_, rfl⟩
  rw [← hKR, ← hnk] at hP
  rw [← hnk] at hnb hnj2
  rw [← hKR] at hKcl
  have hKf := flat_int K
  rw [← hKR] at hKf
  generalize colB bs = c at hP ⊢
  generalize n + pn = n2 at *
  generalize hJR : pushJ J0 nj n2 fl K = J2 at hend hJ2cl ⊢
  unfold layR at hP
  unfold layerC
  refine pcalls_symF tabF_ok 1 (by decide) (by simp) fn64 rfl rfl rfl (by kernel_rfl) ?_
  rintro ⟨lt, le, eq, se, ar, dv, una, conv, len, sln, nat, nth, ixs, cel, sto, app, cpy, slc, mak, ixv, oth, dk, ib, call⟩ hS hm Q hQ
  obtain ⟨hlt, hle, heq, hse, har, hdv, huna, hconv, hlen, hsln, hnat, hnth, hixs, hcel, hsto, happ, hcpy, hslc, hmak, hixv, hoth, hdk, hib, hcall⟩ := Sym.mk.inj hS
  clear hS
  have hnt : ∀ n : Nat, nat n = U.natI n := fun n => by rw [hnat]; rfl
  have hbox : ∀ e c off, cel (some ⟨e, [c]⟩) 0 off = if off ≤ c.length then some (c.drop off) else none := fun e c off => by rw [hcel]; rfl
  have hsbox : ∀ e c off sz y, sto (some ⟨e, [c]⟩) 0 off sz y = if y.cells.length = sz ∧ off + sz ≤ c.length ∧ y.cells.all AV.one = true then some ⟨e, [spl c off y.cells]⟩ else none := fun e c off sz y => by rw [hsto]; rfl
  have hcaw : ∀ {f args T base K}, CallK Try.prog f args T base K → call f args T base K := fun h => by rw [hcall]; exact h
  have hcal : ∀ {f args T base} {K : AV → Table → List Nat → List Nat → Prop}, (∃ args' ids val rows, Hands T ids args args' (val base) (rows base) ∧ ACalls Try.prog f args' val rows ∧ (rows base).length ≤ 8 ∧ K (val base) (adopt T base (rows base)) ids ((List.range (rows base).length).map (base + ·))) → call f args T base K := fun h => hcaw (call_own h)
  have hE : ∀ x y, eq x y = decide (x = y) := fun x y => by rw [heq]
  rw [← hnth] at hix
  rw [← har] at hadd
  have hendL : ∀ J i m, PuAt J0 nj n2 fl K i J m → lt i (nat nk) = false → J = J2 ∧ m = nj2 := fun J i m h hc => by
    rw [hlt, hnt] at hc
    obtain ⟨q1, q2⟩ := hend J i m h (by rw [← hnk]; exact hc)
    exact ⟨q1, by rw [q2, hnj2, hnk]⟩
  have hstepL : ∀ J i m, PuAt J0 nj n2 fl K i J m → lt i (nat nk) = true → _ := fun J i m h hc => hstep J i m h (by rw [hlt, hnt] at hc; rw [← hnk]; exact hc)
  clear hend hstep
  cbv
  refine ⟨by rw [hdk]; kernel_rfl, ?_⟩
  repeat (first | (rw [hbox]; cbv) | (rw [hsbox]; cbv) | (rw [hix]; cbv))
  refine ⟨by rw [hib]; kernel_rfl, ?_⟩
  cbv
  refine ⟨by rw [hdk]; kernel_rfl, ?_⟩
  repeat (first | (rw [hbox]; cbv) | (rw [hsbox]; cbv))
  refine ⟨by rw [hib]; kernel_rfl, ?_⟩
  cbv
  repeat (first | (rw [hbox]; cbv) | (rw [hsbox]; cbv) | (rw [hE]; cbv))
  repeat (first | (rw [hbox]; cbv) | (rw [hsbox]; cbv) | (rw [hadd]; cbv))
  refine hcal ⟨[.rp [.ro X, .ro S, .flat (.int .i64 w), .ro (J0.take nj), .ro Z, .flat (.int .i64 c)], .agg [.flat (.int .i64 a), .flat (.int .i64 n), .flat (.bool fl)]], [0, 1, 2, 3], _, _, hands_deep ⟨deep_ptr (e := 85) (cs := [.ro X, .sl 1 0 ns, .flat (.int .i64 w), .sl 2 0 nj, .sl 3 0 k, .flat (.int .i64 c)]) (by simp) (by rfl) (by simp) ⟨.id rfl, deep_row (by simp) (by rfl) hns hSf.read, .id rfl, deep_part (by simp) (by rfl) hJn hJf.read, deep_row (by simp) (by rfl) hZn hZf.read, .id rfl, trivial⟩, deep_agg ⟨.id rfl, .id rfl, .id rfl, trivial⟩, trivial⟩ rfl (noRo_flat hKf), hP, by simp, ?_⟩
  cbv
  refine MW_loopP hm [0, 1, 2, 3, 292] [0, 5, 6, 67, 68, 69] 70 ⟨by simp, by rfl⟩ (fun mz st => ∃ (i : Int) (J : List (List AV)) (m : Nat), PuAt J0 nj n2 fl K i J m ∧ mz = nk - i.toNat ∧ st = stOf [.ptr 0 0 0, .dead, .dead, .dead, .dead, .flat (.int .i64 n2), .flat (.bool fl), .dead, .dead, .dead, .dead, .dead, .dead, .dead, .dead, .dead, .dead, .dead, .dead, .dead, .dead, .dead, .dead, .dead, .dead, .dead, .dead, .dead, .dead, .dead, .dead, .dead, .dead, .dead, .dead, .dead, .dead, .dead, .dead, .dead, .dead, .dead, .dead, .dead, .dead, .dead, .dead, .dead, .dead, .dead, .dead, .dead, .dead, .dead, .dead, .dead, .dead, .dead, .dead, .dead, .dead, .dead, .dead, .dead, .dead, .dead, .dead, .sl 4 0 nk, .flat (.int .i64 (nat nk)), .flat (.int .i64 i)] [some ⟨85, [[.ro X, .sl 1 0 ns, .flat (.int .i64 w), .sl 2 0 m, .sl 3 0 k, .flat (.int .i64 c)]]⟩, some ⟨3, S⟩, some ⟨82, J⟩, some ⟨5, Z⟩, some ⟨3, KR⟩] 5) (nk - (0 : Int).toNat) ?_ ?_
  · exact ⟨0, J0, nj, hz, rfl, cut_eq (by cbv) (cutRows_box (by rfl) (by rfl) (by rfl) (cutRows_cons (by rfl) (hS) (cutRows_cons (by rfl) (hJ) (cutRows_cons (by rfl) (hZcl) (cutRows_cons (by rfl) (hKcl) rfl)))))⟩
  rintro mz st ⟨i, J, m, hi, hmz, rfl⟩
  cases hcc : lt i (nat nk)
  · obtain ⟨rfl, rfl⟩ := hendL _ _ _ hi hcc
    cbv
    rw [hcc]; cbv
    exact hQ _ _ trivial (pleaves [0, 1, 2, 3] (by cbv) rfl (by simp) (by rfl) (by simp) (cutRows_box (by rfl) (by rfl) (by rfl) (cutRows_cons (by rfl) (hS) (cutRows_cons (by rfl) (hJ2cl) (cutRows_cons (by rfl) (hZcl) rfl)))))
  obtain ⟨x1, x2, x3, x4, J3, x5, x6⟩ := hstepL _ _ _ hi hcc
  rw [← hKR, ← hnk] at x1
  rw [← hKR] at x2
  rw [← hnk] at x4
  rw [← hixs] at x1
  rw [← hcel] at x2
  rw [← har] at x3
  rw [← happ] at x6
  have hJ3cl := hpcl _ _ _ x5
  unfold jobA at x6
  generalize atI K i = ka at x2 x6
  generalize i.toNat = iN at x1 x2 x4 hmz
  generalize i + 1 = i2 at x3 x4 x5
  obtain ⟨m2, hm2⟩ : ∃ m2, m2 = m + 1 := ⟨_, rfl⟩
  rw [← hm2] at x5 x6
  cbv
  rw [hcc]; cbv
  repeat (first | (rw [hbox]; cbv) | (rw [hsbox]; cbv) | (rw [x1]; cbv) | (rw [x2]; cbv))
  rw [x6 _ _ _ _ (by rfl) (by rfl) (by decide)]; cbv
  repeat (first | (rw [hbox]; cbv) | (rw [hsbox]; cbv) | (rw [x3]; cbv))
  exact ⟨[0, 1, 117, 3, 4], [0, 5, 6, 67, 68, 69], 70, nk - i2.toNat, hmz ▸ x4, ⟨by simp, by rfl⟩, i2, J3, m2, x5, rfl, cut_eq (by cbv) (cutRows_box (by rfl) (by rfl) (by rfl) (cutRows_cons (by rfl) (hS) (cutRows_cons (by rfl) (hJ3cl) (cutRows_cons (by rfl) (hZcl) (cutRows_cons (by rfl) (hKcl) rfl)))))⟩
theorem do2_gt {X S : List (List AV)} {w : Int} {J0 : List (List AV)} {nj : Nat} {K : List Int} {p : PartT} {a n : Int} {fl : Bool} {bs : List UInt8} (hkd : p.kind = 6) (h : DoH X S w J0 nj K p a n true bs ([] : List UInt8)) : DoR X S w J0 nj K a n true bs ([] : List UInt8) n true := by
  intro ns k k2 nj2 hns hk hk2 hnj2
  obtain ⟨hix, hS, hSf, hJ, hJf, hJn, hnb, hb, hn, hP⟩ := h
  have hend := fun (J : List (List AV)) (i : Int) (m : Nat) (h : PuAt J0 nj (n) true K i J m) hc => pu_end h hc
  have hstep := fun (J : List (List AV)) (i : Int) (m : Nat) (h : PuAt J0 nj (n) true K i J m) hc => pu_step hJn hnb h hc
  have hpcl := fun (J : List (List AV)) (i : Int) (m : Nat) (h : PuAt J0 nj (n) true K i J m) => pu_closed hJ h
  have hz := pu_zero J0 nj (n) true K
  have hJ2cl := push_closed (nj := nj) (n := n) (fl := true) (K := K) hJ
  obtain ⟨kd, pn, tx⟩ := p
  dsimp only at *
  subst hkd
  unfold partC at hix
  dsimp only at hix
  obtain ⟨Z, hZ⟩ : ∃ Z, Z = bs.map byteC := ⟨_, rfl⟩
  rw [List.append_nil] at hP hk2 ⊢
  obtain rfl : k = k2 := by rw [hk2, hk]
  rw [← hZ] at hP ⊢
  have hZcl := closed_byte hZ
  have hZf := flat_byte hZ
  have hZn : k = Z.length := by rw [hZ, List.length_map, hk]
  have hKcl := closed_int (l := K) rfl
  obtain ⟨KR, hKR⟩ : ∃ KR, KR = K.map intC := ⟨_, rfl⟩
  obtain ⟨nk, hnk⟩ : ∃ nk, nk = K.length := ⟨_, rfl⟩
  rw [← hKR, ← hnk] at hP
  rw [← hnk] at hnb hnj2
  rw [← hKR] at hKcl
  have hKf := flat_int K
  rw [← hKR] at hKf
  generalize colB bs = c at hP ⊢
  generalize hJR : pushJ J0 nj n true K = J2 at hend hJ2cl ⊢
  unfold layR at hP
  unfold layerC
  refine pcalls_symF tabF_ok 1 (by decide) (by simp) fn64 rfl rfl rfl (by kernel_rfl) ?_
  rintro ⟨lt, le, eq, se, ar, dv, una, conv, len, sln, nat, nth, ixs, cel, sto, app, cpy, slc, mak, ixv, oth, dk, ib, call⟩ hS hm Q hQ
  obtain ⟨hlt, hle, heq, hse, har, hdv, huna, hconv, hlen, hsln, hnat, hnth, hixs, hcel, hsto, happ, hcpy, hslc, hmak, hixv, hoth, hdk, hib, hcall⟩ := Sym.mk.inj hS
  clear hS
  have hnt : ∀ n : Nat, nat n = U.natI n := fun n => by rw [hnat]; rfl
  have hbox : ∀ e c off, cel (some ⟨e, [c]⟩) 0 off = if off ≤ c.length then some (c.drop off) else none := fun e c off => by rw [hcel]; rfl
  have hsbox : ∀ e c off sz y, sto (some ⟨e, [c]⟩) 0 off sz y = if y.cells.length = sz ∧ off + sz ≤ c.length ∧ y.cells.all AV.one = true then some ⟨e, [spl c off y.cells]⟩ else none := fun e c off sz y => by rw [hsto]; rfl
  have hcaw : ∀ {f args T base K}, CallK Try.prog f args T base K → call f args T base K := fun h => by rw [hcall]; exact h
  have hcal : ∀ {f args T base} {K : AV → Table → List Nat → List Nat → Prop}, (∃ args' ids val rows, Hands T ids args args' (val base) (rows base) ∧ ACalls Try.prog f args' val rows ∧ (rows base).length ≤ 8 ∧ K (val base) (adopt T base (rows base)) ids ((List.range (rows base).length).map (base + ·))) → call f args T base K := fun h => hcaw (call_own h)
  have hE : ∀ x y, eq x y = decide (x = y) := fun x y => by rw [heq]
  rw [← hnth] at hix
  have hendL : ∀ J i m, PuAt J0 nj n true K i J m → lt i (nat nk) = false → J = J2 ∧ m = nj2 := fun J i m h hc => by
    rw [hlt, hnt] at hc
    obtain ⟨q1, q2⟩ := hend J i m h (by rw [← hnk]; exact hc)
    exact ⟨q1, by rw [q2, hnj2, hnk]⟩
  have hstepL : ∀ J i m, PuAt J0 nj n true K i J m → lt i (nat nk) = true → _ := fun J i m h hc => hstep J i m h (by rw [hlt, hnt] at hc; rw [← hnk]; exact hc)
  clear hend hstep
  cbv
  refine ⟨by rw [hdk]; kernel_rfl, ?_⟩
  repeat (first | (rw [hbox]; cbv) | (rw [hsbox]; cbv) | (rw [hix]; cbv))
  refine ⟨by rw [hib]; kernel_rfl, ?_⟩
  cbv
  refine ⟨by rw [hdk]; kernel_rfl, ?_⟩
  repeat (first | (rw [hbox]; cbv) | (rw [hsbox]; cbv))
  refine ⟨by rw [hib]; kernel_rfl, ?_⟩
  cbv
  repeat (first | (rw [hbox]; cbv) | (rw [hsbox]; cbv) | (rw [hE]; cbv))
  repeat (first | (rw [hbox]; cbv) | (rw [hsbox]; cbv))
  refine hcal ⟨[.rp [.ro X, .ro S, .flat (.int .i64 w), .ro (J0.take nj), .ro Z, .flat (.int .i64 c)], .agg [.flat (.int .i64 a), .flat (.int .i64 n), .flat (.bool true)]], [0, 1, 2, 3], _, _, hands_deep ⟨deep_ptr (e := 85) (cs := [.ro X, .sl 1 0 ns, .flat (.int .i64 w), .sl 2 0 nj, .sl 3 0 k, .flat (.int .i64 c)]) (by simp) (by rfl) (by simp) ⟨.id rfl, deep_row (by simp) (by rfl) hns hSf.read, .id rfl, deep_part (by simp) (by rfl) hJn hJf.read, deep_row (by simp) (by rfl) hZn hZf.read, .id rfl, trivial⟩, deep_agg ⟨.id rfl, .id rfl, .id rfl, trivial⟩, trivial⟩ rfl (noRo_flat hKf), hP, by simp, ?_⟩
  cbv
  refine MW_loopP hm [0, 1, 2, 3, 340] [0, 5, 6, 67, 68, 69] 70 ⟨by simp, by rfl⟩ (fun mz st => ∃ (i : Int) (J : List (List AV)) (m : Nat), PuAt J0 nj n true K i J m ∧ mz = nk - i.toNat ∧ st = stOf [.ptr 0 0 0, .dead, .dead, .dead, .dead, .flat (.int .i64 n), .flat (.bool true), .dead, .dead, .dead, .dead, .dead, .dead, .dead, .dead, .dead, .dead, .dead, .dead, .dead, .dead, .dead, .dead, .dead, .dead, .dead, .dead, .dead, .dead, .dead, .dead, .dead, .dead, .dead, .dead, .dead, .dead, .dead, .dead, .dead, .dead, .dead, .dead, .dead, .dead, .dead, .dead, .dead, .dead, .dead, .dead, .dead, .dead, .dead, .dead, .dead, .dead, .dead, .dead, .dead, .dead, .dead, .dead, .dead, .dead, .dead, .dead, .sl 4 0 nk, .flat (.int .i64 (nat nk)), .flat (.int .i64 i)] [some ⟨85, [[.ro X, .sl 1 0 ns, .flat (.int .i64 w), .sl 2 0 m, .sl 3 0 k, .flat (.int .i64 c)]]⟩, some ⟨3, S⟩, some ⟨82, J⟩, some ⟨5, Z⟩, some ⟨3, KR⟩] 5) (nk - (0 : Int).toNat) ?_ ?_
  · exact ⟨0, J0, nj, hz, rfl, cut_eq (by cbv) (cutRows_box (by rfl) (by rfl) (by rfl) (cutRows_cons (by rfl) (hS) (cutRows_cons (by rfl) (hJ) (cutRows_cons (by rfl) (hZcl) (cutRows_cons (by rfl) (hKcl) rfl)))))⟩
  rintro mz st ⟨i, J, m, hi, hmz, rfl⟩
  cases hcc : lt i (nat nk)
  · obtain ⟨rfl, rfl⟩ := hendL _ _ _ hi hcc
    cbv
    rw [hcc]; cbv
    exact hQ _ _ trivial (pleaves [0, 1, 2, 3] (by cbv) rfl (by simp) (by rfl) (by simp) (cutRows_box (by rfl) (by rfl) (by rfl) (cutRows_cons (by rfl) (hS) (cutRows_cons (by rfl) (hJ2cl) (cutRows_cons (by rfl) (hZcl) rfl)))))
  obtain ⟨x1, x2, x3, x4, J3, x5, x6⟩ := hstepL _ _ _ hi hcc
  rw [← hKR, ← hnk] at x1
  rw [← hKR] at x2
  rw [← hnk] at x4
  rw [← hixs] at x1
  rw [← hcel] at x2
  rw [← har] at x3
  rw [← happ] at x6
  have hJ3cl := hpcl _ _ _ x5
  unfold jobA at x6
  generalize atI K i = ka at x2 x6
  generalize i.toNat = iN at x1 x2 x4 hmz
  generalize i + 1 = i2 at x3 x4 x5
  obtain ⟨m2, hm2⟩ : ∃ m2, m2 = m + 1 := ⟨_, rfl⟩
  rw [← hm2] at x5 x6
  cbv
  rw [hcc]; cbv
  repeat (first | (rw [hbox]; cbv) | (rw [hsbox]; cbv) | (rw [x1]; cbv) | (rw [x2]; cbv))
  rw [x6 _ _ _ _ (by rfl) (by rfl) (by decide)]; cbv
  repeat (first | (rw [hbox]; cbv) | (rw [hsbox]; cbv) | (rw [x3]; cbv))
  exact ⟨[0, 1, 117, 3, 4], [0, 5, 6, 67, 68, 69], 70, nk - i2.toNat, hmz ▸ x4, ⟨by simp, by rfl⟩, i2, J3, m2, x5, rfl, cut_eq (by cbv) (cutRows_box (by rfl) (by rfl) (by rfl) (cutRows_cons (by rfl) (hS) (cutRows_cons (by rfl) (hJ3cl) (cutRows_cons (by rfl) (hZcl) (cutRows_cons (by rfl) (hKcl) rfl)))))⟩
theorem do2_gf {X S : List (List AV)} {w : Int} {J0 : List (List AV)} {nj : Nat} {K : List Int} {p : PartT} {a n : Int} {fl : Bool} {bs : List UInt8} {fl2 : Bool} {a1 : Int} (hsub : arI .sub .i64 a 1 = a1) (hfit : ACalls Try.prog 71 [.rp (layR X S (J0.take nj) (bs.map byteC) w (colB bs)), .flat (.int .i64 a1)] (fun _ => .flat (.bool fl2)) (fun _ => [])) (hkd : p.kind = 6) (h : DoH X S w J0 nj K p a n false bs ([] : List UInt8)) : DoR X S w J0 nj K a n false bs ([] : List UInt8) n fl2 := by
  intro ns k k2 nj2 hns hk hk2 hnj2
  obtain ⟨hix, hS, hSf, hJ, hJf, hJn, hnb, hb, hn, hP⟩ := h
  have hend := fun (J : List (List AV)) (i : Int) (m : Nat) (h : PuAt J0 nj (n) fl2 K i J m) hc => pu_end h hc
  have hstep := fun (J : List (List AV)) (i : Int) (m : Nat) (h : PuAt J0 nj (n) fl2 K i J m) hc => pu_step hJn hnb h hc
  have hpcl := fun (J : List (List AV)) (i : Int) (m : Nat) (h : PuAt J0 nj (n) fl2 K i J m) => pu_closed hJ h
  have hz := pu_zero J0 nj (n) fl2 K
  have hJ2cl := push_closed (nj := nj) (n := n) (fl := fl2) (K := K) hJ
  obtain ⟨kd, pn, tx⟩ := p
  dsimp only at *
  subst hkd
  unfold partC at hix
  dsimp only at hix
  obtain ⟨Z, hZ⟩ : ∃ Z, Z = bs.map byteC := ⟨_, rfl⟩
  rw [List.append_nil] at hP hk2 ⊢
  obtain rfl : k = k2 := by rw [hk2, hk]
  rw [← hZ] at hP hfit ⊢
  have hZcl := closed_byte hZ
  have hZf := flat_byte hZ
  have hZn : k = Z.length := by rw [hZ, List.length_map, hk]
  have hKcl := closed_int (l := K) rfl
  obtain ⟨KR, hKR⟩ : ∃ KR, KR = K.map intC := ⟨_, rfl⟩
  obtain ⟨nk, hnk⟩ : ∃ nk, nk = K.length := ⟨_, rfl⟩
  rw [← hKR, ← hnk] at hP
  rw [← hnk] at hnb hnj2
  rw [← hKR] at hKcl
  have hKf := flat_int K
  rw [← hKR] at hKf
  generalize colB bs = c at hP hfit ⊢
  generalize hJR : pushJ J0 nj n fl2 K = J2 at hend hJ2cl ⊢
  unfold layR at hP
  unfold layR at hfit
  unfold layerC
  refine pcalls_symF tabF_ok 1 (by decide) (by simp) fn64 rfl rfl rfl (by kernel_rfl) ?_
  rintro ⟨lt, le, eq, se, ar, dv, una, conv, len, sln, nat, nth, ixs, cel, sto, app, cpy, slc, mak, ixv, oth, dk, ib, call⟩ hS hm Q hQ
  obtain ⟨hlt, hle, heq, hse, har, hdv, huna, hconv, hlen, hsln, hnat, hnth, hixs, hcel, hsto, happ, hcpy, hslc, hmak, hixv, hoth, hdk, hib, hcall⟩ := Sym.mk.inj hS
  clear hS
  have hnt : ∀ n : Nat, nat n = U.natI n := fun n => by rw [hnat]; rfl
  have hbox : ∀ e c off, cel (some ⟨e, [c]⟩) 0 off = if off ≤ c.length then some (c.drop off) else none := fun e c off => by rw [hcel]; rfl
  have hsbox : ∀ e c off sz y, sto (some ⟨e, [c]⟩) 0 off sz y = if y.cells.length = sz ∧ off + sz ≤ c.length ∧ y.cells.all AV.one = true then some ⟨e, [spl c off y.cells]⟩ else none := fun e c off sz y => by rw [hsto]; rfl
  have hcaw : ∀ {f args T base K}, CallK Try.prog f args T base K → call f args T base K := fun h => by rw [hcall]; exact h
  have hcal : ∀ {f args T base} {K : AV → Table → List Nat → List Nat → Prop}, (∃ args' ids val rows, Hands T ids args args' (val base) (rows base) ∧ ACalls Try.prog f args' val rows ∧ (rows base).length ≤ 8 ∧ K (val base) (adopt T base (rows base)) ids ((List.range (rows base).length).map (base + ·))) → call f args T base K := fun h => hcaw (call_own h)
  have hE : ∀ x y, eq x y = decide (x = y) := fun x y => by rw [heq]
  rw [← hnth] at hix
  rw [← har] at hsub
  have hendL : ∀ J i m, PuAt J0 nj n fl2 K i J m → lt i (nat nk) = false → J = J2 ∧ m = nj2 := fun J i m h hc => by
    rw [hlt, hnt] at hc
    obtain ⟨q1, q2⟩ := hend J i m h (by rw [← hnk]; exact hc)
    exact ⟨q1, by rw [q2, hnj2, hnk]⟩
  have hstepL : ∀ J i m, PuAt J0 nj n fl2 K i J m → lt i (nat nk) = true → _ := fun J i m h hc => hstep J i m h (by rw [hlt, hnt] at hc; rw [← hnk]; exact hc)
  clear hend hstep
  cbv
  refine ⟨by rw [hdk]; kernel_rfl, ?_⟩
  repeat (first | (rw [hbox]; cbv) | (rw [hsbox]; cbv) | (rw [hix]; cbv))
  refine ⟨by rw [hib]; kernel_rfl, ?_⟩
  cbv
  refine ⟨by rw [hdk]; kernel_rfl, ?_⟩
  repeat (first | (rw [hbox]; cbv) | (rw [hsbox]; cbv))
  refine ⟨by rw [hib]; kernel_rfl, ?_⟩
  cbv
  repeat (first | (rw [hbox]; cbv) | (rw [hsbox]; cbv) | (rw [hE]; cbv))
  repeat (first | (rw [hbox]; cbv) | (rw [hsbox]; cbv) | (rw [hsub]; cbv))
  refine hcal ⟨[.rp [.ro X, .ro S, .flat (.int .i64 w), .ro (J0.take nj), .ro Z, .flat (.int .i64 c)], .flat (.int .i64 a1)], [0, 1, 2, 3], _, _, hands_deep ⟨deep_ptr (e := 85) (cs := [.ro X, .sl 1 0 ns, .flat (.int .i64 w), .sl 2 0 nj, .sl 3 0 k, .flat (.int .i64 c)]) (by simp) (by rfl) (by simp) ⟨.id rfl, deep_row (by simp) (by rfl) hns hSf.read, .id rfl, deep_part (by simp) (by rfl) hJn hJf.read, deep_row (by simp) (by rfl) hZn hZf.read, .id rfl, trivial⟩, .id rfl, trivial⟩ rfl (fun r hr => by cases hr), hfit, by simp, ?_⟩
  cbv
  repeat (first | (rw [hbox]; cbv) | (rw [hsbox]; cbv))
  repeat (first | (rw [hbox]; cbv) | (rw [hsbox]; cbv))
  refine hcal ⟨[.rp [.ro X, .ro S, .flat (.int .i64 w), .ro (J0.take nj), .ro Z, .flat (.int .i64 c)], .agg [.flat (.int .i64 a), .flat (.int .i64 n), .flat (.bool false)]], [0, 1, 2, 3], _, _, hands_deep ⟨deep_ptr (e := 85) (cs := [.ro X, .sl 1 0 ns, .flat (.int .i64 w), .sl 2 0 nj, .sl 3 0 k, .flat (.int .i64 c)]) (by simp) (by rfl) (by simp) ⟨.id rfl, deep_row (by simp) (by rfl) hns hSf.read, .id rfl, deep_part (by simp) (by rfl) hJn hJf.read, deep_row (by simp) (by rfl) hZn hZf.read, .id rfl, trivial⟩, deep_agg ⟨.id rfl, .id rfl, .id rfl, trivial⟩, trivial⟩ rfl (noRo_flat hKf), hP, by simp, ?_⟩
  cbv
  refine MW_loopP hm [0, 1, 2, 3, 340] [0, 5, 6, 67, 68, 69] 70 ⟨by simp, by rfl⟩ (fun mz st => ∃ (i : Int) (J : List (List AV)) (m : Nat), PuAt J0 nj n fl2 K i J m ∧ mz = nk - i.toNat ∧ st = stOf [.ptr 0 0 0, .dead, .dead, .dead, .dead, .flat (.int .i64 n), .flat (.bool fl2), .dead, .dead, .dead, .dead, .dead, .dead, .dead, .dead, .dead, .dead, .dead, .dead, .dead, .dead, .dead, .dead, .dead, .dead, .dead, .dead, .dead, .dead, .dead, .dead, .dead, .dead, .dead, .dead, .dead, .dead, .dead, .dead, .dead, .dead, .dead, .dead, .dead, .dead, .dead, .dead, .dead, .dead, .dead, .dead, .dead, .dead, .dead, .dead, .dead, .dead, .dead, .dead, .dead, .dead, .dead, .dead, .dead, .dead, .dead, .dead, .sl 4 0 nk, .flat (.int .i64 (nat nk)), .flat (.int .i64 i)] [some ⟨85, [[.ro X, .sl 1 0 ns, .flat (.int .i64 w), .sl 2 0 m, .sl 3 0 k, .flat (.int .i64 c)]]⟩, some ⟨3, S⟩, some ⟨82, J⟩, some ⟨5, Z⟩, some ⟨3, KR⟩] 5) (nk - (0 : Int).toNat) ?_ ?_
  · exact ⟨0, J0, nj, hz, rfl, cut_eq (by cbv) (cutRows_box (by rfl) (by rfl) (by rfl) (cutRows_cons (by rfl) (hS) (cutRows_cons (by rfl) (hJ) (cutRows_cons (by rfl) (hZcl) (cutRows_cons (by rfl) (hKcl) rfl)))))⟩
  rintro mz st ⟨i, J, m, hi, hmz, rfl⟩
  cases hcc : lt i (nat nk)
  · obtain ⟨rfl, rfl⟩ := hendL _ _ _ hi hcc
    cbv
    rw [hcc]; cbv
    exact hQ _ _ trivial (pleaves [0, 1, 2, 3] (by cbv) rfl (by simp) (by rfl) (by simp) (cutRows_box (by rfl) (by rfl) (by rfl) (cutRows_cons (by rfl) (hS) (cutRows_cons (by rfl) (hJ2cl) (cutRows_cons (by rfl) (hZcl) rfl)))))
  obtain ⟨x1, x2, x3, x4, J3, x5, x6⟩ := hstepL _ _ _ hi hcc
  rw [← hKR, ← hnk] at x1
  rw [← hKR] at x2
  rw [← hnk] at x4
  rw [← hixs] at x1
  rw [← hcel] at x2
  rw [← har] at x3
  rw [← happ] at x6
  have hJ3cl := hpcl _ _ _ x5
  unfold jobA at x6
  generalize atI K i = ka at x2 x6
  generalize i.toNat = iN at x1 x2 x4 hmz
  generalize i + 1 = i2 at x3 x4 x5
  obtain ⟨m2, hm2⟩ : ∃ m2, m2 = m + 1 := ⟨_, rfl⟩
  rw [← hm2] at x5 x6
  cbv
  rw [hcc]; cbv
  repeat (first | (rw [hbox]; cbv) | (rw [hsbox]; cbv) | (rw [x1]; cbv) | (rw [x2]; cbv))
  rw [x6 _ _ _ _ (by rfl) (by rfl) (by decide)]; cbv
  repeat (first | (rw [hbox]; cbv) | (rw [hsbox]; cbv) | (rw [x3]; cbv))
  exact ⟨[0, 1, 117, 3, 4], [0, 5, 6, 67, 68, 69], 70, nk - i2.toNat, hmz ▸ x4, ⟨by simp, by rfl⟩, i2, J3, m2, x5, rfl, cut_eq (by cbv) (cutRows_box (by rfl) (by rfl) (by rfl) (cutRows_cons (by rfl) (hS) (cutRows_cons (by rfl) (hJ3cl) (cutRows_cons (by rfl) (hZcl) (cutRows_cons (by rfl) (hKcl) rfl)))))⟩
theorem do2_cat {X S : List (List AV)} {w : Int} {J0 : List (List AV)} {nj : Nat} {K : List Int} {p : PartT} {a n : Int} {fl : Bool} {bs : List UInt8} (hkd : p.kind = 4) (h : DoH X S w J0 nj K p a n fl bs ([] : List UInt8)) : DoR X S w J0 nj K a n fl bs ([] : List UInt8) n fl := by
  intro ns k k2 nj2 hns hk hk2 hnj2
  obtain ⟨hix, hS, hSf, hJ, hJf, hJn, hnb, hb, hn, hP⟩ := h
  have hend := fun (J : List (List AV)) (i : Int) (m : Nat) (h : PuAt J0 nj (n) fl K i J m) hc => pu_end h hc
  have hstep := fun (J : List (List AV)) (i : Int) (m : Nat) (h : PuAt J0 nj (n) fl K i J m) hc => pu_step hJn hnb h hc
  have hpcl := fun (J : List (List AV)) (i : Int) (m : Nat) (h : PuAt J0 nj (n) fl K i J m) => pu_closed hJ h
  have hz := pu_zero J0 nj (n) fl K
  have hJ2cl := push_closed (nj := nj) (n := n) (fl := fl) (K := K) hJ
  obtain ⟨kd, pn, tx⟩ := p
  dsimp only at *
  subst hkd
  unfold partC at hix
  dsimp only at hix
  obtain ⟨Z, hZ⟩ : ∃ Z, Z = bs.map byteC := ⟨_, rfl⟩
  rw [List.append_nil] at hP hk2 ⊢
  obtain rfl : k = k2 := by rw [hk2, hk]
  rw [← hZ] at hP ⊢
  have hZcl := closed_byte hZ
  have hZf := flat_byte hZ
  have hZn : k = Z.length := by rw [hZ, List.length_map, hk]
  have hKcl := closed_int (l := K) rfl
  obtain ⟨KR, hKR⟩ : ∃ KR, KR = K.map intC := ⟨_, rfl⟩
  obtain ⟨nk, hnk⟩ : ∃ nk, nk = K.length := ⟨_, rfl⟩
  rw [← hKR, ← hnk] at hP
  rw [← hnk] at hnb hnj2
  rw [← hKR] at hKcl
  have hKf := flat_int K
  rw [← hKR] at hKf
  generalize colB bs = c at hP ⊢
  generalize hJR : pushJ J0 nj n fl K = J2 at hend hJ2cl ⊢
  unfold layR at hP
  unfold layerC
  refine pcalls_symF tabF_ok 1 (by decide) (by simp) fn64 rfl rfl rfl (by kernel_rfl) ?_
  rintro ⟨lt, le, eq, se, ar, dv, una, conv, len, sln, nat, nth, ixs, cel, sto, app, cpy, slc, mak, ixv, oth, dk, ib, call⟩ hS hm Q hQ
  obtain ⟨hlt, hle, heq, hse, har, hdv, huna, hconv, hlen, hsln, hnat, hnth, hixs, hcel, hsto, happ, hcpy, hslc, hmak, hixv, hoth, hdk, hib, hcall⟩ := Sym.mk.inj hS
  clear hS
  have hnt : ∀ n : Nat, nat n = U.natI n := fun n => by rw [hnat]; rfl
  have hbox : ∀ e c off, cel (some ⟨e, [c]⟩) 0 off = if off ≤ c.length then some (c.drop off) else none := fun e c off => by rw [hcel]; rfl
  have hsbox : ∀ e c off sz y, sto (some ⟨e, [c]⟩) 0 off sz y = if y.cells.length = sz ∧ off + sz ≤ c.length ∧ y.cells.all AV.one = true then some ⟨e, [spl c off y.cells]⟩ else none := fun e c off sz y => by rw [hsto]; rfl
  have hcaw : ∀ {f args T base K}, CallK Try.prog f args T base K → call f args T base K := fun h => by rw [hcall]; exact h
  have hcal : ∀ {f args T base} {K : AV → Table → List Nat → List Nat → Prop}, (∃ args' ids val rows, Hands T ids args args' (val base) (rows base) ∧ ACalls Try.prog f args' val rows ∧ (rows base).length ≤ 8 ∧ K (val base) (adopt T base (rows base)) ids ((List.range (rows base).length).map (base + ·))) → call f args T base K := fun h => hcaw (call_own h)
  have hE : ∀ x y, eq x y = decide (x = y) := fun x y => by rw [heq]
  rw [← hnth] at hix
  have hendL : ∀ J i m, PuAt J0 nj n fl K i J m → lt i (nat nk) = false → J = J2 ∧ m = nj2 := fun J i m h hc => by
    rw [hlt, hnt] at hc
    obtain ⟨q1, q2⟩ := hend J i m h (by rw [← hnk]; exact hc)
    exact ⟨q1, by rw [q2, hnj2, hnk]⟩
  have hstepL : ∀ J i m, PuAt J0 nj n fl K i J m → lt i (nat nk) = true → _ := fun J i m h hc => hstep J i m h (by rw [hlt, hnt] at hc; rw [← hnk]; exact hc)
  clear hend hstep
  cbv
  refine ⟨by rw [hdk]; kernel_rfl, ?_⟩
  repeat (first | (rw [hbox]; cbv) | (rw [hsbox]; cbv) | (rw [hix]; cbv))
  refine ⟨by rw [hib]; kernel_rfl, ?_⟩
  cbv
  refine ⟨by rw [hdk]; kernel_rfl, ?_⟩
  repeat (first | (rw [hbox]; cbv) | (rw [hsbox]; cbv))
  refine ⟨by rw [hib]; kernel_rfl, ?_⟩
  cbv
  repeat (first | (rw [hbox]; cbv) | (rw [hsbox]; cbv) | (rw [hE]; cbv))
  repeat (first | (rw [hbox]; cbv) | (rw [hsbox]; cbv))
  refine hcal ⟨[.rp [.ro X, .ro S, .flat (.int .i64 w), .ro (J0.take nj), .ro Z, .flat (.int .i64 c)], .agg [.flat (.int .i64 a), .flat (.int .i64 n), .flat (.bool fl)]], [0, 1, 2, 3], _, _, hands_deep ⟨deep_ptr (e := 85) (cs := [.ro X, .sl 1 0 ns, .flat (.int .i64 w), .sl 2 0 nj, .sl 3 0 k, .flat (.int .i64 c)]) (by simp) (by rfl) (by simp) ⟨.id rfl, deep_row (by simp) (by rfl) hns hSf.read, .id rfl, deep_part (by simp) (by rfl) hJn hJf.read, deep_row (by simp) (by rfl) hZn hZf.read, .id rfl, trivial⟩, deep_agg ⟨.id rfl, .id rfl, .id rfl, trivial⟩, trivial⟩ rfl (noRo_flat hKf), hP, by simp, ?_⟩
  cbv
  refine MW_loopP hm [0, 1, 2, 3, 268] [0, 5, 6, 67, 68, 69] 70 ⟨by simp, by rfl⟩ (fun mz st => ∃ (i : Int) (J : List (List AV)) (m : Nat), PuAt J0 nj n fl K i J m ∧ mz = nk - i.toNat ∧ st = stOf [.ptr 0 0 0, .dead, .dead, .dead, .dead, .flat (.int .i64 n), .flat (.bool fl), .dead, .dead, .dead, .dead, .dead, .dead, .dead, .dead, .dead, .dead, .dead, .dead, .dead, .dead, .dead, .dead, .dead, .dead, .dead, .dead, .dead, .dead, .dead, .dead, .dead, .dead, .dead, .dead, .dead, .dead, .dead, .dead, .dead, .dead, .dead, .dead, .dead, .dead, .dead, .dead, .dead, .dead, .dead, .dead, .dead, .dead, .dead, .dead, .dead, .dead, .dead, .dead, .dead, .dead, .dead, .dead, .dead, .dead, .dead, .dead, .sl 4 0 nk, .flat (.int .i64 (nat nk)), .flat (.int .i64 i)] [some ⟨85, [[.ro X, .sl 1 0 ns, .flat (.int .i64 w), .sl 2 0 m, .sl 3 0 k, .flat (.int .i64 c)]]⟩, some ⟨3, S⟩, some ⟨82, J⟩, some ⟨5, Z⟩, some ⟨3, KR⟩] 5) (nk - (0 : Int).toNat) ?_ ?_
  · exact ⟨0, J0, nj, hz, rfl, cut_eq (by cbv) (cutRows_box (by rfl) (by rfl) (by rfl) (cutRows_cons (by rfl) (hS) (cutRows_cons (by rfl) (hJ) (cutRows_cons (by rfl) (hZcl) (cutRows_cons (by rfl) (hKcl) rfl)))))⟩
  rintro mz st ⟨i, J, m, hi, hmz, rfl⟩
  cases hcc : lt i (nat nk)
  · obtain ⟨rfl, rfl⟩ := hendL _ _ _ hi hcc
    cbv
    rw [hcc]; cbv
    exact hQ _ _ trivial (pleaves [0, 1, 2, 3] (by cbv) rfl (by simp) (by rfl) (by simp) (cutRows_box (by rfl) (by rfl) (by rfl) (cutRows_cons (by rfl) (hS) (cutRows_cons (by rfl) (hJ2cl) (cutRows_cons (by rfl) (hZcl) rfl)))))
  obtain ⟨x1, x2, x3, x4, J3, x5, x6⟩ := hstepL _ _ _ hi hcc
  rw [← hKR, ← hnk] at x1
  rw [← hKR] at x2
  rw [← hnk] at x4
  rw [← hixs] at x1
  rw [← hcel] at x2
  rw [← har] at x3
  rw [← happ] at x6
  have hJ3cl := hpcl _ _ _ x5
  unfold jobA at x6
  generalize atI K i = ka at x2 x6
  generalize i.toNat = iN at x1 x2 x4 hmz
  generalize i + 1 = i2 at x3 x4 x5
  obtain ⟨m2, hm2⟩ : ∃ m2, m2 = m + 1 := ⟨_, rfl⟩
  rw [← hm2] at x5 x6
  cbv
  rw [hcc]; cbv
  repeat (first | (rw [hbox]; cbv) | (rw [hsbox]; cbv) | (rw [x1]; cbv) | (rw [x2]; cbv))
  rw [x6 _ _ _ _ (by rfl) (by rfl) (by decide)]; cbv
  repeat (first | (rw [hbox]; cbv) | (rw [hsbox]; cbv) | (rw [x3]; cbv))
  exact ⟨[0, 1, 117, 3, 4], [0, 5, 6, 67, 68, 69], 70, nk - i2.toNat, hmz ▸ x4, ⟨by simp, by rfl⟩, i2, J3, m2, x5, rfl, cut_eq (by cbv) (cutRows_box (by rfl) (by rfl) (by rfl) (cutRows_cons (by rfl) (hS) (cutRows_cons (by rfl) (hJ3cl) (cutRows_cons (by rfl) (hZcl) (cutRows_cons (by rfl) (hKcl) rfl)))))⟩
def emP (p : PartT) (n : Int) (fl : Bool) : List UInt8 := if p.kind = 0 then bts p.text else if p.kind = 1 then (if fl = true then [32] else lineB n) else if p.kind = 2 then (if fl = true then [] else lineB n) else if p.kind = 3 then lineB n else []
/-- A tree, laid: its indentation, flat or not, what stands behind, what is laid already. -/
def layT (w : Int) : Tr → Int → Bool → DocT → List UInt8 → List UInt8
  | .lf p, n, fl, _, bs => bs ++ emP p n fl
  | .un p t, n, fl, rest, bs => if p.kind = 5 then layT w t (n + p.n) fl rest bs else layT w t n (fl || fitsT w t rest (colB bs)) rest bs
  | .cat _ a b, n, fl, rest, bs => layT w b n fl rest (layT w a n fl (b.flat ++ rest) bs)
/-- Jobs, the next one first. -/
def layS (w : Int) : List Fr → List UInt8 → List UInt8
  | [], bs => bs
  | f :: r, bs => layS w r (layT w f.t f.n f.fl (flF r) bs)
def Small3 (d : DocT) : Prop := d.length ≤ 360 ∧ ∀ p ∈ d, p.text.size ≤ 1000
theorem small3 {d : DocT} (h : Small d) : Small3 d := ⟨Nat.le_trans h.1 (by decide), h.2⟩
def FrB (d : DocT) (f : Fr) : Prop := FrOk d f ∧ 0 ≤ f.n ∧ f.n + 100 * (f.t.flat.length : Int) ≤ 36000
theorem emP_len {p : PartT} {n : Int} {fl : Bool} (hn : n ≤ 36000) (hp : p.text.size ≤ 1000) : (emP p n fl).length ≤ 37000 := by
  unfold emP
  have h1 : (lineB n).length ≤ 37000 := by unfold lineB; rw [List.length_cons, List.length_replicate]; omega
  split
  · rw [bts_len]; omega
  · split
    · split
      · simp
      · exact h1
    · split
      · split
        · simp
        · exact h1
      · split
        · exact h1
        · simp
theorem flF_len (f : Fr) (r : List Fr) : (flF (f :: r)).length = f.t.flat.length + (flF r).length := by rw [flF_cons, List.length_append]
theorem flF_le : ∀ F : List Fr, F.length ≤ (flF F).length
  | [] => by simp
  | f :: r => by rw [flF_len, List.length_cons]; have := flF_le r; have := flat_pos f.t; omega
theorem pn_bd {p : PartT} (h : partOk p = true) (h5 : p.kind = 5) : 0 ≤ p.n ∧ p.n ≤ 100 := by
  unfold partOk at h
  split at h
  · cases h
  · simpa [h5] using h
/-- The step of one job. -/
theorem do2_calls {d : DocT} (hs : Small3 d) {w : Int} (hw : 0 ≤ w ∧ w ≤ 1048576) {f : Fr} {r : List Fr} (hf : FrB d f) (hr : ∀ g ∈ r, FrB d g) (hl : (flF (f :: r)).length ≤ 360) {bs : List UInt8} (hb : bs.length + 37000 * (flF (f :: r)).length ≤ 13320000)
    {J0 : List (List AV)} {nj : Nat} (hnj : nj = r.length) (hJn : nj ≤ J0.length) (hJ0 : J0.take nj = r.reverse.map jobC) (hJ : ∀ c ∈ J0, closedAll [] c = true) (hJf : flatRow J0) :
    ∃ (K : List Int) (out : List UInt8) (n2 : Int) (fl2 : Bool) (r2 : List Fr), DoR (d.map partC) ((startsD d).map intC) w J0 nj K f.a f.n f.fl bs out n2 fl2 ∧ (∀ g ∈ r2, FrB d g) ∧ (flF r2).length + 1 = (flF (f :: r)).length ∧
      layS w r2 (bs ++ out) = layS w (f :: r) bs ∧ (bs ++ out).length ≤ bs.length + 37000 ∧ (pushJ J0 nj n2 fl2 K).take (nj + K.length) = r2.reverse.map jobC ∧ r2.length = nj + K.length := by
  obtain ⟨t, a, n, fl⟩ := f
  obtain ⟨⟨ht, hi⟩, hn0, hn1⟩ := hf
  dsimp only at ht hi hn0 hn1 ⊢
  have hd : d.length ≤ 20000 := by have := hs.1; omega
  have hS : ∀ c ∈ (startsD d).map intC, closedAll [] c = true := closed_int rfl
  have hSf : flatRow ((startsD d).map intC) := flat_int _
  have hx := in_top hi
  have hib := in_bd hi
  have hfl := flF_len ⟨t, a, n, fl⟩ r
  dsimp only at hfl
  have hrl := flF_le r
  have hP := partsL_calls hd ht hi
  have mk : ∀ {p : PartT} {K : List Int} {out : List UInt8}, top t = p → kidsA d a t = K → K.length ≤ 2 → out.length ≤ 37000 → DoH (d.map partC) ((startsD d).map intC) w J0 nj K p a n fl bs out := fun {p K out} h1 h2 h3 h4 =>
    ⟨h1 ▸ hx, hS, hSf, hJ, hJf, hJn, by omega, by omega, hn0, by rw [← h2]; exact hP _ _ _ _ _ _⟩
  have hFR : ∀ f ∈ r.reverse, FrOk d f := fun f hf => (hr f (List.mem_reverse.1 hf)).1
  have hJ0' : ∀ K n2 fl2, K ≠ [] → (pushJ J0 nj n2 fl2 K).take (nj + K.length) = r.reverse.map jobC ++ K.map fun a => jobA a n2 fl2 := fun K n2 fl2 hK => by
    unfold pushJ
    rw [if_neg (by simpa using hK), List.take_of_length_le (by simp only [List.length_append, List.length_take, List.length_map]; omega), hJ0]
  cases t with
  | lf p =>
    have hpt : p.text.size ≤ 1000 := sub_texts hs.2 hi p (by simp [Tr.flat])
    have hn2 : n ≤ 36000 := by omega
    have he := emP_len (fl := fl) hn2 hpt
    have h0 := mk (p := p) (K := []) (out := emP p n fl) rfl rfl (by simp) he
    refine ⟨[], emP p n fl, n, fl, r, ?_, hr, by rw [hfl]; simp only [Tr.flat, List.length_cons, List.length_nil]; omega, rfl, by rw [List.length_append]; omega, by simpa [pushJ] using hJ0, by simpa using hnj.symm⟩
    rcases t0 ht.2 with h | h | h | h | h
    · have e : emP p n fl = bts p.text := by simp [emP, h]
      rw [e] at h0 ⊢
      exact do2_lf0 h h0
    · cases fl
      · have e : emP p n false = lineB n := by simp [emP, h]
        rw [e] at h0 ⊢
        exact do2_lf1f (fl := false) h h0
      · have e : emP p n true = [32] := by simp [emP, h]
        rw [e] at h0 ⊢
        exact do2_lf1t (fl := true) h h0
    · cases fl
      · have e : emP p n false = lineB n := by simp [emP, h]
        rw [e] at h0 ⊢
        exact do2_lf2f (fl := false) h h0
      · have e : emP p n true = [] := by simp [emP, h]
        rw [e] at h0 ⊢
        exact do2_lf2t (fl := true) h h0
    · have e : emP p n fl = lineB n := by simp [emP, h]
      rw [e] at h0 ⊢
      exact do2_lf3 h h0
    · have e : emP p n fl = [] := by simp [emP, h]
      rw [e] at h0 ⊢
      exact do2_lf7 h h0
  | un p t =>
    have hin := in_un hi
    have hlen : (Tr.un p t).flat.length = t.flat.length + 1 := by simp [Tr.flat]
    have h0 := mk (p := p) (K := [a - 1]) (out := []) rfl rfl (by simp) (by simp)
    rcases t1 ht.2.1 with h | h
    · have hpn := pn_bd ht.1 h
      refine ⟨[a - 1], [], n + p.n, fl, ⟨t, a - 1, n + p.n, fl⟩ :: r, do2_nest (ar_add64 (by omega) (by omega)) h h0, ?_, ?_, ?_, by simp, ?_, by simp; omega⟩
      · intro g hg
        rcases List.mem_cons.1 hg with rfl | hg
        · exact ⟨⟨ht.2.2, hin⟩, show 0 ≤ n + p.n by omega, show n + p.n + 100 * (t.flat.length : Int) ≤ 36000 by omega⟩
        · exact hr g hg
      · rw [flF_len, hfl]; show t.flat.length + _ + 1 = _; omega
      · simp only [List.append_nil, layS, layT]; rw [if_pos h]
      · rw [hJ0' _ _ _ (by simp), List.reverse_cons, List.map_append]; rfl
    · have h5 : ¬ p.kind = 5 := by omega
      have fin : ∀ fl2, (fl || fitsT w t (flF r) (colB bs)) = fl2 → DoR (d.map partC) ((startsD d).map intC) w J0 nj [a - 1] a n fl bs [] n fl2 → ∃ (K : List Int) (out : List UInt8) (n2 : Int) (fl2 : Bool) (r2 : List Fr), DoR (d.map partC) ((startsD d).map intC) w J0 nj K a n fl bs out n2 fl2 ∧ (∀ g ∈ r2, FrB d g) ∧ (flF r2).length + 1 = (flF (⟨.un p t, a, n, fl⟩ :: r)).length ∧
          layS w r2 (bs ++ out) = layS w (⟨.un p t, a, n, fl⟩ :: r) bs ∧ (bs ++ out).length ≤ bs.length + 37000 ∧ (pushJ J0 nj n2 fl2 K).take (nj + K.length) = r2.reverse.map jobC ∧ r2.length = nj + K.length := fun fl2 he hdo => by
        refine ⟨[a - 1], [], n, fl2, ⟨t, a - 1, n, fl2⟩ :: r, hdo, ?_, ?_, ?_, by simp, ?_, by simp; omega⟩
        · intro g hg
          rcases List.mem_cons.1 hg with rfl | hg
          · exact ⟨⟨ht.2.2, hin⟩, hn0, show n + 100 * (t.flat.length : Int) ≤ 36000 by omega⟩
          · exact hr g hg
        · rw [flF_len, hfl]; show t.flat.length + _ + 1 = _; omega
        · simp only [List.append_nil, layS, layT]; rw [if_neg h5, he]
        · rw [hJ0' _ _ _ (by simp), List.reverse_cons, List.map_append]; rfl
      cases fl
      · have hfit := fit_calls (d := d) hd (fun p hp => hs.2 p hp) (F := r.reverse) hFR (by rw [List.reverse_reverse]; omega) ht.2.2 hin (bs.map byteC) w (colB bs) hw (by have := colB_bd bs; omega)
        rw [List.reverse_reverse, ← hJ0] at hfit
        exact fin _ rfl (by rw [Bool.false_or]; exact do2_gf (fl := false) (ar_sub64 (by omega) (by omega)) hfit h h0)
      · exact fin true rfl (do2_gt (fl := true) h h0)
  | cat p ta tb =>
    obtain ⟨hiB, hiA⟩ := in_cat ht.2.2.2 hi
    have hlen : (Tr.cat p ta tb).flat.length = ta.flat.length + tb.flat.length + 1 := by simp only [Tr.flat, List.length_append, List.length_cons, List.length_nil]
    have h0 := mk (p := p) (K := [a - 1, startD d (a - 1) - 1]) (out := []) rfl rfl (by simp) (by simp)
    refine ⟨[a - 1, startD d (a - 1) - 1], [], n, fl, ⟨ta, startD d (a - 1) - 1, n, fl⟩ :: ⟨tb, a - 1, n, fl⟩ :: r, do2_cat (t2 ht.2.1) h0, ?_, ?_, ?_, by simp, ?_, by simp; omega⟩
    · intro g hg
      rcases List.mem_cons.1 hg with rfl | hg
      · exact ⟨⟨ht.2.2.1, hiA⟩, hn0, show n + 100 * (ta.flat.length : Int) ≤ 36000 by omega⟩
      · rcases List.mem_cons.1 hg with rfl | hg
        · exact ⟨⟨ht.2.2.2, hiB⟩, hn0, show n + 100 * (tb.flat.length : Int) ≤ 36000 by omega⟩
        · exact hr g hg
    · rw [flF_len, flF_len, hfl]; show ta.flat.length + (tb.flat.length + _) + 1 = _; omega
    · simp only [List.append_nil, layS, layT, flF_cons]
    · rw [hJ0' _ _ _ (by simp), List.reverse_cons, List.reverse_cons, List.append_assoc, List.map_append]; rfl
theorem push_flat {J0 : List (List AV)} {nj : Nat} {n : Int} {fl : Bool} {K : List Int} (hJ : flatRow J0) : flatRow (pushJ J0 nj n fl K) := by
  unfold pushJ
  split
  · exact hJ
  · intro c hc
    rcases List.mem_append.1 hc with h | h
    · exact hJ c (List.mem_of_mem_take h)
    · obtain ⟨a, _, rfl⟩ := List.mem_map.1 h
      intro x hx
      simp only [jobA, List.mem_cons, List.not_mem_nil, or_false] at hx
      rcases hx with rfl | rfl | rfl <;> exact ⟨rfl, rfl⟩
end Go.Proofs.Ytagflbmonlaioaa.D
