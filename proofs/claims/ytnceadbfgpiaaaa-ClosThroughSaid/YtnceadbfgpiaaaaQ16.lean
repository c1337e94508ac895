/- N9, N10, N11, one behind the other. -/
import Derived.Test.YtnceadbfgpiaaaaQ15
/- Contracts: bosketref04.brackets. -/
namespace Go.Proofs.Ytnceadbfgpiaaaa.N
open Go G U K I J F
set_option linter.unusedVariables false
set_option linter.unusedSimpArgs false
set_option maxRecDepth 100000
set_option maxHeartbeats 4000000
theorem fn85 : Try.prog.funcs[85]? = some Try.f85 := by kernel_rfl
theorem eq_arr (a b c d : Int) : ∃ z : Bool, dvOf Try.prog .eql 124 (.agg [.flat (.int .u64 a), .flat (.int .u64 b), .flat (.int .u64 c), .flat (.int .u64 d)]) (.agg [.flat (.int .u64 0), .flat (.int .u64 0), .flat (.int .u64 0), .flat (.int .u64 0)]) = some (.flat (.bool z)) := by
  refine ⟨(a == 0) && ((b == 0) && ((c == 0) && ((d == 0) && true))), ?_⟩
  rw [dvOf_eq]
  intro x y
  kernel_rfl
def BR (O : List (List AV)) : Prop := ∃ L : List Bool, L.length = 256 ∧ O = L.map boolC
theorem br_zero : BR (List.replicate 256 (zeroAV (.bool false))) := ⟨List.replicate 256 false, List.length_replicate, by rw [List.map_replicate]; rfl⟩
theorem br_len {O : List (List AV)} (h : BR O) : 256 = O.length := by
  obtain ⟨L, h1, rfl⟩ := h
  rw [List.length_map, h1]
theorem br_closed {O : List (List AV)} (h : BR O) : ∀ c ∈ O, closedAll [] c = true := by
  obtain ⟨L, h1, rfl⟩ := h
  exact closed_map fun _ => rfl
theorem br_read {O : List (List AV)} (h : BR O) : readRow O := by
  obtain ⟨L, h1, rfl⟩ := h
  exact (flat_bool L).read
theorem br_of {O : List (List AV)} (h : BR O) : NCalls Try.prog 87 [.ro O] RSet := by
  obtain ⟨L, h1, rfl⟩ := h
  exact sof_n L (by omega)
theorem br_store {O : List (List AV)} (h : BR O) {k : Int} (h0 : 0 ≤ k) (h1 : k < 256) : ∃ O2, BR O2 ∧ storeRow (some ⟨4, O⟩) k.toNat 0 1 (.flat (.bool true)) = some ⟨4, O2⟩ := by
  obtain ⟨L, h2, rfl⟩ := h
  refine ⟨(L.set k.toNat true).map boolC, ⟨_, by rw [List.length_set]; exact h2, rfl⟩, ?_⟩
  have hk : k.toNat < (L.map boolC).length := by rw [List.length_map]; omega
  simp only [storeRow, Option.bind_some, List.getElem?_eq_getElem hk]
  simp [boolC, spl, AV.cells, List.map_set, AV.one, Value.oneCell']
theorem rset_one {P : Program} {fn : Func} {st : St} {s : ByteArray} {i e : Int} {a b c d : Int} {k t1 t2 : Nat} {ty : TypeId} (he : OkG s i (.set a b c d) e) (hr : fn.results.toList = [.tmp t1, .tmp t2]) (h1 : st.s t1 = .sl k 0 1) (h2 : st.s t2 = .flat (.int .i64 e)) (hT : st.T k = some ⟨ty, [pc 1 a b c d]⟩) : ∃ val rows, RG s i val rows ∧ G.Leaves P fn val rows st :=
  rg_row (u := .set a b c d) (X := [pc 1 a b c d]) rfl he hr h1 h2 hT rfl
theorem okg_set {s : ByteArray} {i e : Int} {a b c d : Int} (h0 : i < e) (h1 : e ≤ s.size) : OkG s i (.set a b c d) e := ⟨h0, h1, by show ((1 : Nat) : Int) + 1 ≤ _; omega⟩
theorem brackets_n (s : ByteArray) (i : Int) (h0 : 0 ≤ i) (hs : s.size ≤ 1000000) : NCalls Try.prog 85 [.flat (.string s), .flat (.int .i64 i)] (RG s i) := by
  have hc4 := fun c => in4_n ⟨⟨[94, 45, 47, 34]⟩⟩ c (by decide)
  have hc5 := fun c => in4_n ⟨⟨[93, 94, 45, 47, 34]⟩⟩ c (by decide)
  have hcP := fun a b c d ha => sput_n a b c d a b c d ha ha
  unfold setV at hcP
  obtain ⟨ZZ, hZZ⟩ : ∃ ZZ, ZZ = List.replicate 256 (zeroAV (.bool false)) := ⟨_, rfl⟩
  have hz : BR ZZ := hZZ ▸ br_zero
  refine ncalls_symN tabF_ok fn85 rfl rfl rfl (by kernel_rfl) ?_
  rintro N hN ⟨lt, le, eq, se, ar, dv, una, conv, len, sln, nat, nth, ixs, cel, sto, app, cpy, slc, mak, ixv, oth, dk, ib, call⟩ hS hm Q hQ
  obtain ⟨hlt, hle, heq, hse, har, hdv, huna, hconv, hlen, hsln, hnat, hnth, hixs, hcel, hsto, happ, hcpy, hslc, hmak, hixv, hoth, hdk, hib, hcall⟩ := Sym.mk.inj hS
  clear hS
  have hnt : ∀ n : Nat, nat n = U.natI n := fun n => by rw [hnat]; rfl
  have hbox : ∀ e c off, cel (some ⟨e, [c]⟩) 0 off = if off ≤ c.length then some (c.drop off) else none := fun e c off => by rw [hcel]; rfl
  have hsbox : ∀ e c off sz y, sto (some ⟨e, [c]⟩) 0 off sz y = if y.cells.length = sz ∧ off + sz ≤ c.length ∧ y.cells.all AV.one = true then some ⟨e, [spl c off y.cells]⟩ else none := fun e c off sz y => by rw [hsto]; rfl
  have hcaw : ∀ {f args T base K}, CallK Try.prog f args T base K → call f args T base K := fun h => by rw [hcall]; exact h
  have hcal : ∀ {f args T base} {K : AV → Table → List Nat → List Nat → Prop}, (∃ args' ids val rows, Hands T ids args args' (val base) (rows base) ∧ ACalls Try.prog f args' val rows ∧ (rows base).length ≤ 8 ∧ K (val base) (adopt T base (rows base)) ids ((List.range (rows base).length).map (base + ·))) → call f args T base K := fun h => hcaw (call_own h)
  have hcn : ∀ {f args T base} {K : AV → Table → Prop}, CallN Try.prog T base f args K → N f args T base K := fun h => by rw [hN]; exact h
  have hsx : ∀ (s : ByteArray) (i : Int), s.size ≤ 1000000 → 0 ≤ i → lt i (sln s) = true → ∃ v, ixv 9 (.flat (.string s)) (.flat (.int .i64 i)) = some (.flat (.int .u8 v)) ∧ 0 ≤ v ∧ v < 256 ∧ ar .add .i64 i 1 = i + 1 ∧ 0 ≤ i + 1 ∧ (s.size - (i + 1).toNat < s.size - i.toNat) ∧ i < s.size := fun s i hs h0 hc => by
    rw [hlt, hsln] at hc
    rw [hixv, har]
    exact ix_next s hs h0 hc
  have hrx : ∀ (X : List (List AV)) (sz : Nat) (i : Int), (∀ c ∈ X, c.length = sz) → X.length ≤ 1000000 → 0 ≤ i → lt i (len X) = true → ∃ c ∈ X, nth X i sz = some (.rp c) ∧ ar .add .i64 i 1 = i + 1 ∧ 0 ≤ i + 1 ∧ (X.length - (i + 1).toNat < X.length - i.toNat) ∧ i < X.length := fun X sz i hX hl h0 hc => by
    rw [hlt, hlen] at hc
    rw [hnth, har]
    exact row_next X hX hl h0 hc
  obtain ⟨sz, hsz⟩ : ∃ sz : Int, sz = (s.size : Int) := ⟨_, rfl⟩
  have hmk : mak (fun x => none) 16 53 (.flat (.int .i64 256)) (.flat (.int .i64 256)) = some (.sl 16 0 256, Table.set (fun x => none) 16 (some ⟨4, ZZ⟩)) := by
    rw [hmak, hZZ]; exact mak_zero (n := 256) u53 z4 (by decide) rfl rfl (by decide) (by decide)
  have hix : ∀ (i : Int), 0 ≤ i → lt i (sln s) = true → ∃ v, ixv 9 (.flat (.string s)) (.flat (.int .i64 i)) = some (.flat (.int .u8 v)) ∧ i < sz ∧ ar .add .i64 i 1 = i + 1 := fun i h0 hc => by
    rw [hlt, hsln] at hc
    have hc : i < (s.size : Int) := of_decide_eq_true hc
    exact ⟨_, by rw [hixv]; exact ix_str u9 h0 hc, hsz ▸ hc, by rw [har, ar_add64 (by omega) (by omega)]⟩
  have hge : ∀ (i : Int), le (sln s) i = false → lt i (sln s) = true := fun i hc => by
    rw [hle, hsln] at hc
    have hc : ¬ ((s.size : Int) ≤ i) := of_decide_eq_false hc
    rw [hlt, hsln]
    exact decide_eq_true (show i < (s.size : Int) by omega)
  have hrd : ∀ (i : Int), 0 ≤ i → lt i (sln s) = true → ∃ s2, (∀ T, slc T 9 (.flat (.string s)) (some (.flat (.int .i64 i))) none = some (.flat (.string s2))) ∧ NCalls Try.prog 86 [.flat (.string s2)] (RRd s2) ∧ ∀ n : Int, (1 ≤ n ∧ n ≤ s2.size) → i < i + n ∧ i + n ≤ sz ∧ ar .add .i64 i n = i + n := fun i h0 hc => by
    rw [hlt, hsln] at hc
    have hc : i < (s.size : Int) := of_decide_eq_true hc
    have hsz2 : (s.extract i.toNat s.size).size = s.size - i.toNat := by rw [ByteArray.size_extract]; omega
    refine ⟨s.extract i.toNat s.size, fun T => ?_, read_n _ (by omega), fun n h => ⟨by omega, by omega, ?_⟩⟩
    · rw [hslc]
      simp only [evSlice, u9]
      rw [bnd_lo h0 (by omega)]; rfl
    · rw [har, ar_add64 (by omega) (by omega)]
  have hcv : ∀ (T : Table) (v : Int), 0 ≤ v ∧ v < 256 → conv T 5 3 (.flat (.int .u8 v)) = some (.flat (.int .i64 v)) := fun T v h => by
    rw [hconv]
    have h2 : evP Try.prog (convert 5 3 (.int .u8 v)) = some (.flat (.int .i64 (IntKind.i64.wrap v))) := by kernel_rfl
    show evP Try.prog (convert 5 3 (.int .u8 v)) = _
    rw [h2, IntKind.wrap_i64]
    congr 3
    omega
  have hkt : ∀ (O : List (List AV)) (k to : Int), BR O → 0 ≤ k → 0 ≤ to ∧ to < 256 → le k to = true → (∀ id, ixs (some ⟨4, O⟩) id 0 256 k 1 = some (.ptr id k.toNat 0)) ∧ (∃ O2, BR O2 ∧ sto (some ⟨4, O⟩) k.toNat 0 1 (.flat (.bool true)) = some ⟨4, O2⟩) ∧ ar .add .i64 k 1 = k + 1 ∧ 0 ≤ k + 1 ∧ (256 - (k + 1)).toNat < (256 - k).toNat := fun O k to hO h0 ht hc => by
    rw [hle] at hc
    have hc := of_decide_eq_true hc
    refine ⟨fun id => by rw [hixs]; exact own_ix c4 h0 (by omega) id, by rw [hsto]; exact br_store hO h0 (by omega), by rw [har, ar_add64 (by omega) (by omega)], by omega, by omega⟩
  have hea : ∀ a b c d, ∃ z : Bool, dv .eql 124 (.agg [.flat (.int .u64 a), .flat (.int .u64 b), .flat (.int .u64 c), .flat (.int .u64 d)]) (.agg [.flat (.int .u64 0), .flat (.int .u64 0), .flat (.int .u64 0), .flat (.int .u64 0)]) = some (.flat (.bool z)) := fun a b c d => by rw [hdv]; exact eq_arr a b c d
  have hoks : ∀ a b c d e : Int, i < e → e ≤ sz → OkG s i (.set a b c d) e := fun a b c d e h1 h2 => okg_set h1 (hsz ▸ h2)
  clear hZZ hs hsz
  have hii : i ≤ i := Int.le_refl i
  cases c1 : lt i (sln s)
  · cbv
    rw [hmk]; cbv
    rw [c1]; cbv
    refine MW_loop hm [16] [0, 1, 6, 7] 8 (by simp) (fun mz st => ∃ (p : Int) (O : List (List AV)), i ≤ p ∧ BR O ∧ mz = (sz - p).toNat ∧ st = stOf [.flat (.string s), .flat (.int .i64 p), .dead, .dead, .dead, .dead, .sl 0 0 256, .flat (.bool false)] [some ⟨4, O⟩] 1) ((sz - i).toNat) ?_ ?_
    · exact ⟨i, ZZ, hii, hz, rfl, cut_eq (by cbv) (cutRows_cons (by rfl) (br_closed hz) rfl)⟩
    rintro mz st ⟨p, O, hp, hO, hmz, rfl⟩
    cases hc : lt p (sln s)
    · cbv
      rw [hc]; cbv
      have hof := br_of hO
      have hOn := br_len hO
      have hOr := br_read hO
      refine .inr (hcn ⟨[.ro O], [0], RSet, hof, .inr ⟨deeps_len ⟨deep_row (by simp) (by rfl) hOn hOr, trivial⟩, rset_noRo⟩, ?_⟩)
      rintro _ _ ⟨a, b, c, d, hw, rfl, rfl⟩
      refine ⟨Nat.zero_le _, ?_⟩
      cbv
      repeat (first | (rw [hbox]; cbv) | (rw [hsbox]; cbv))
      cases f1 : le (sln s) p
      rotate_left
      · cbv
        exact hQ _ _ trivial (rg_nil (k := p) (by cbv))
      obtain ⟨v9, y1, y2, y3⟩ := hix p (Int.le_trans h0 hp) (hge p f1)
      obtain ⟨z, hz1⟩ := hea a b c d
      have hok : OkG s i (.set a b c d) (p + 1) := hoks _ _ _ _ _ (by omega) (by omega)
      generalize p + 1 = p9 at y3 hok
      cbv
      repeat (first | (rw [hbox]; cbv) | (rw [hsbox]; cbv))
      rw [hz1]; cbv
      cases z
      rotate_left
      · cbv
        exact hQ _ _ trivial (rg_nil (k := p) (by cbv))
      cbv
      repeat (first | (rw [hbox]; cbv) | (rw [hsbox]; cbv))
      rw [y3]; cbv
      exact hQ _ _ trivial (rset_one hok rfl rfl rfl rfl)
    have hp2 := Int.le_trans h0 hp
    obtain ⟨v, q1, q2, q3⟩ := hix p hp2 hc
    cases e1 : eq v 93
    rotate_left
    · cbv
      rw [hc]; cbv
      rw [q1]; cbv
      rw [e1]; cbv
      have hof := br_of hO
      have hOn := br_len hO
      have hOr := br_read hO
      refine .inr (hcn ⟨[.ro O], [0], RSet, hof, .inr ⟨deeps_len ⟨deep_row (by simp) (by rfl) hOn hOr, trivial⟩, rset_noRo⟩, ?_⟩)
      rintro _ _ ⟨a, b, c, d, hw, rfl, rfl⟩
      refine ⟨Nat.zero_le _, ?_⟩
      cbv
      repeat (first | (rw [hbox]; cbv) | (rw [hsbox]; cbv))
      cases f1 : le (sln s) p
      rotate_left
      · cbv
        exact hQ _ _ trivial (rg_nil (k := p) (by cbv))
      obtain ⟨v9, y1, y2, y3⟩ := hix p (Int.le_trans h0 hp) (hge p f1)
      obtain ⟨z, hz1⟩ := hea a b c d
      have hok : OkG s i (.set a b c d) (p + 1) := hoks _ _ _ _ _ (by omega) (by omega)
      generalize p + 1 = p9 at y3 hok
      cbv
      repeat (first | (rw [hbox]; cbv) | (rw [hsbox]; cbv))
      rw [hz1]; cbv
      cases z
      rotate_left
      · cbv
        exact hQ _ _ trivial (rg_nil (k := p) (by cbv))
      cbv
      repeat (first | (rw [hbox]; cbv) | (rw [hsbox]; cbv))
      rw [y3]; cbv
      exact hQ _ _ trivial (rset_one hok rfl rfl rfl rfl)
    obtain ⟨s2, r1, r2, r3⟩ := hrd p hp2 hc
    cbv
    rw [hc]; cbv
    rw [q1]; cbv
    rw [e1]; cbv
    rw [r1]; cbv
    refine .inr (hcn ⟨_, [], _, r2, .inl ⟨rfl, by cbv⟩, ?_⟩)
    rintro _ _ ⟨v1, n1, ok, hv1, hn1, rfl, rfl⟩
    refine ⟨Nat.zero_le _, ?_⟩
    cbv
    cases ok
    · cbv
      exact hQ _ _ trivial (rg_nil (k := p) (by cbv))
    obtain ⟨t1, t2, t3⟩ := r3 n1 (hn1 rfl)
    have hc4v := hc4 v
    cbv
    rw [q1]; cbv
    refine .inr (hcn ⟨_, [], _, hc4v, .inl ⟨rfl, by cbv⟩, ?_⟩)
    rintro _ _ ⟨x0, hx0, rfl, rfl⟩
    obtain ⟨b, rfl⟩ := isB_of hx0
    refine ⟨Nat.zero_le _, ?_⟩
    cbv
    cases b
    rotate_left
    · cbv
      exact hQ _ _ trivial (rg_nil (k := p) (by cbv))
    generalize p + n1 = p2 at t1 t2 t3
    cbv
    rw [t3]; cbv
    have hp3 : 0 ≤ p2 := by omega
    have hp4 : i ≤ p2 := by omega
    have hm2 : (sz - p2).toNat < (sz - p).toNat := by omega
    cases e2 : lt p2 (sln s)
    · cbv
      rw [hcv _ _ hv1]; cbv
      refine MW_loop hm [0] [0, 1, 6, 7, 11, 12] 13 (by simp) (fun mz st => ∃ (k : Int) (O3 : List (List AV)), 0 ≤ k ∧ BR O3 ∧ mz = (256 - k).toNat ∧ st = stOf [.flat (.string s), .flat (.int .i64 p2), .dead, .dead, .dead, .dead, .sl 0 0 256, .flat (.bool false), .dead, .dead, .dead, .flat (.int .u8 v1), .flat (.int .i64 k)] [some ⟨4, O3⟩] 1) ((256 - v1).toNat) ?_ ?_
      · exact ⟨v1, O, hv1.1, hO, rfl, cut_eq (by cbv) (cutRows_cons (by rfl) (br_closed hO) rfl)⟩
      rintro mb st ⟨k, O3, hk, hO3, hmb, rfl⟩
      cases g1 : le k v1
      · cbv
        rw [hcv _ _ hv1]; cbv
        rw [g1]; cbv
        exact ⟨[0], [0, 1, 6, 7], 8, (sz - p2).toNat, hmz ▸ hm2, by simp, p2, O3, hp4, hO3, rfl, cut_eq (by cbv) (cutRows_cons (by rfl) (br_closed hO3) rfl)⟩
      obtain ⟨i1, ⟨O2, hO2, i2⟩, i3, i4, i5⟩ := hkt O3 k v1 hO3 hk hv1 g1
      generalize k + 1 = k2 at i3 i4 i5
      generalize k.toNat = kn at i1 i2
      cbv
      rw [hcv _ _ hv1]; cbv
      rw [g1]; cbv
      rw [i1]; cbv
      rw [i2]; cbv
      rw [i3]
      exact ⟨[0], [0, 1, 6, 7, 11, 12], 13, (256 - k2).toNat, hmb ▸ i5, by simp, k2, O2, i4, hO2, rfl, cut_eq (by cbv) (cutRows_cons (by rfl) (br_closed hO2) rfl)⟩
    obtain ⟨w, q4, q5, q6⟩ := hix p2 hp3 e2
    cbv
    rw [q4]; cbv
    cases e3 : eq w 45
    · cbv
      rw [hcv _ _ hv1]; cbv
      refine MW_loop hm [0] [0, 1, 6, 7, 11, 12] 13 (by simp) (fun mz st => ∃ (k : Int) (O3 : List (List AV)), 0 ≤ k ∧ BR O3 ∧ mz = (256 - k).toNat ∧ st = stOf [.flat (.string s), .flat (.int .i64 p2), .dead, .dead, .dead, .dead, .sl 0 0 256, .flat (.bool false), .dead, .dead, .dead, .flat (.int .u8 v1), .flat (.int .i64 k)] [some ⟨4, O3⟩] 1) ((256 - v1).toNat) ?_ ?_
      · exact ⟨v1, O, hv1.1, hO, rfl, cut_eq (by cbv) (cutRows_cons (by rfl) (br_closed hO) rfl)⟩
      rintro mb st ⟨k, O3, hk, hO3, hmb, rfl⟩
      cases g1 : le k v1
      · cbv
        rw [hcv _ _ hv1]; cbv
        rw [g1]; cbv
        exact ⟨[0], [0, 1, 6, 7], 8, (sz - p2).toNat, hmz ▸ hm2, by simp, p2, O3, hp4, hO3, rfl, cut_eq (by cbv) (cutRows_cons (by rfl) (br_closed hO3) rfl)⟩
      obtain ⟨i1, ⟨O2, hO2, i2⟩, i3, i4, i5⟩ := hkt O3 k v1 hO3 hk hv1 g1
      generalize k + 1 = k2 at i3 i4 i5
      generalize k.toNat = kn at i1 i2
      cbv
      rw [hcv _ _ hv1]; cbv
      rw [g1]; cbv
      rw [i1]; cbv
      rw [i2]; cbv
      rw [i3]
      exact ⟨[0], [0, 1, 6, 7, 11, 12], 13, (256 - k2).toNat, hmb ▸ i5, by simp, k2, O2, i4, hO2, rfl, cut_eq (by cbv) (cutRows_cons (by rfl) (br_closed hO2) rfl)⟩
    have hp5 : 0 ≤ p2 + 1 := by omega
    have hp6 : i ≤ p2 + 1 := by omega
    have hp7 : p2 < p2 + 1 := by omega
    generalize p2 + 1 = p3 at q6 hp5 hp6 hp7
    cbv
    rw [q6]; cbv
    cases e4 : le (sln s) p3
    rotate_left
    · cbv
      exact hQ _ _ trivial (rg_nil (k := p3) (by cbv))
    have e5 := hge p3 e4
    obtain ⟨w2, q7, q8, q9⟩ := hix p3 hp5 e5
    obtain ⟨s3, r4, r5, r6⟩ := hrd p3 hp5 e5
    have hc5v := hc5 w2
    cbv
    rw [q7]; cbv
    refine .inr (hcn ⟨_, [], _, hc5v, .inl ⟨rfl, by cbv⟩, ?_⟩)
    rintro _ _ ⟨x0, hx0, rfl, rfl⟩
    obtain ⟨b5, rfl⟩ := isB_of hx0
    refine ⟨Nat.zero_le _, ?_⟩
    cbv
    cases b5
    rotate_left
    · cbv
      exact hQ _ _ trivial (rg_nil (k := p3) (by cbv))
    cbv
    rw [r4]; cbv
    refine .inr (hcn ⟨_, [], _, r5, .inl ⟨rfl, by cbv⟩, ?_⟩)
    rintro _ _ ⟨v4, n4, ok4, hv4, hn4, rfl, rfl⟩
    refine ⟨Nat.zero_le _, ?_⟩
    cbv
    cases ok4
    · cbv
      exact hQ _ _ trivial (rg_nil (k := p3) (by cbv))
    obtain ⟨t4, t5, t6⟩ := r6 n4 (hn4 rfl)
    generalize p3 + n4 = p4 at t4 t5 t6
    have hp8 : i ≤ p4 := by omega
    have hm3 : (sz - p4).toNat < (sz - p).toNat := by omega
    cbv
    cases e6 : lt v4 v1
    rotate_left
    · cbv
      exact hQ _ _ trivial (rg_nil (k := p3) (by cbv))
    cbv
    rw [t6]; cbv
    rw [hcv _ _ hv1]; cbv
    refine MW_loop hm [0] [0, 1, 6, 7, 11, 12] 13 (by simp) (fun mz st => ∃ (k : Int) (O3 : List (List AV)), 0 ≤ k ∧ BR O3 ∧ mz = (256 - k).toNat ∧ st = stOf [.flat (.string s), .flat (.int .i64 p4), .dead, .dead, .dead, .dead, .sl 0 0 256, .flat (.bool false), .dead, .dead, .dead, .flat (.int .u8 v4), .flat (.int .i64 k)] [some ⟨4, O3⟩] 1) ((256 - v1).toNat) ?_ ?_
    · exact ⟨v1, O, hv1.1, hO, rfl, cut_eq (by cbv) (cutRows_cons (by rfl) (br_closed hO) rfl)⟩
    rintro mb st ⟨k, O3, hk, hO3, hmb, rfl⟩
    cases g1 : le k v4
    · cbv
      rw [hcv _ _ hv4]; cbv
      rw [g1]; cbv
      exact ⟨[0], [0, 1, 6, 7], 8, (sz - p4).toNat, hmz ▸ hm3, by simp, p4, O3, hp8, hO3, rfl, cut_eq (by cbv) (cutRows_cons (by rfl) (br_closed hO3) rfl)⟩
    obtain ⟨i1, ⟨O2, hO2, i2⟩, i3, i4, i5⟩ := hkt O3 k v4 hO3 hk hv4 g1
    generalize k + 1 = k2 at i3 i4 i5
    generalize k.toNat = kn at i1 i2
    cbv
    rw [hcv _ _ hv4]; cbv
    rw [g1]; cbv
    rw [i1]; cbv
    rw [i2]; cbv
    rw [i3]
    exact ⟨[0], [0, 1, 6, 7, 11, 12], 13, (256 - k2).toNat, hmb ▸ i5, by simp, k2, O2, i4, hO2, rfl, cut_eq (by cbv) (cutRows_cons (by rfl) (br_closed hO2) rfl)⟩
  obtain ⟨v0, x1, x2, x3⟩ := hix i h0 c1
  have hi2 : i ≤ i + 1 := by omega
  generalize i + 1 = i9 at x3 hi2
  cases c2 : eq v0 94
  · cbv
    rw [hmk]; cbv
    rw [c1]; cbv
    rw [x1]; cbv
    rw [c2]; cbv
    refine MW_loop hm [16] [0, 1, 6, 7] 8 (by simp) (fun mz st => ∃ (p : Int) (O : List (List AV)), i ≤ p ∧ BR O ∧ mz = (sz - p).toNat ∧ st = stOf [.flat (.string s), .flat (.int .i64 p), .dead, .dead, .dead, .dead, .sl 0 0 256, .flat (.bool false)] [some ⟨4, O⟩] 1) ((sz - i).toNat) ?_ ?_
    · exact ⟨i, ZZ, hii, hz, rfl, cut_eq (by cbv) (cutRows_cons (by rfl) (br_closed hz) rfl)⟩
    rintro mz st ⟨p, O, hp, hO, hmz, rfl⟩
    cases hc : lt p (sln s)
    · cbv
      rw [hc]; cbv
      have hof := br_of hO
      have hOn := br_len hO
      have hOr := br_read hO
      refine .inr (hcn ⟨[.ro O], [0], RSet, hof, .inr ⟨deeps_len ⟨deep_row (by simp) (by rfl) hOn hOr, trivial⟩, rset_noRo⟩, ?_⟩)
      rintro _ _ ⟨a, b, c, d, hw, rfl, rfl⟩
      refine ⟨Nat.zero_le _, ?_⟩
      cbv
      repeat (first | (rw [hbox]; cbv) | (rw [hsbox]; cbv))
      cases f1 : le (sln s) p
      rotate_left
      · cbv
        exact hQ _ _ trivial (rg_nil (k := p) (by cbv))
      obtain ⟨v9, y1, y2, y3⟩ := hix p (Int.le_trans h0 hp) (hge p f1)
      obtain ⟨z, hz1⟩ := hea a b c d
      have hok : OkG s i (.set a b c d) (p + 1) := hoks _ _ _ _ _ (by omega) (by omega)
      generalize p + 1 = p9 at y3 hok
      cbv
      repeat (first | (rw [hbox]; cbv) | (rw [hsbox]; cbv))
      rw [hz1]; cbv
      cases z
      rotate_left
      · cbv
        exact hQ _ _ trivial (rg_nil (k := p) (by cbv))
      cbv
      repeat (first | (rw [hbox]; cbv) | (rw [hsbox]; cbv))
      rw [y3]; cbv
      exact hQ _ _ trivial (rset_one hok rfl rfl rfl rfl)
    have hp2 := Int.le_trans h0 hp
    obtain ⟨v, q1, q2, q3⟩ := hix p hp2 hc
    cases e1 : eq v 93
    rotate_left
    · cbv
      rw [hc]; cbv
      rw [q1]; cbv
      rw [e1]; cbv
      have hof := br_of hO
      have hOn := br_len hO
      have hOr := br_read hO
      refine .inr (hcn ⟨[.ro O], [0], RSet, hof, .inr ⟨deeps_len ⟨deep_row (by simp) (by rfl) hOn hOr, trivial⟩, rset_noRo⟩, ?_⟩)
      rintro _ _ ⟨a, b, c, d, hw, rfl, rfl⟩
      refine ⟨Nat.zero_le _, ?_⟩
      cbv
      repeat (first | (rw [hbox]; cbv) | (rw [hsbox]; cbv))
      cases f1 : le (sln s) p
      rotate_left
      · cbv
        exact hQ _ _ trivial (rg_nil (k := p) (by cbv))
      obtain ⟨v9, y1, y2, y3⟩ := hix p (Int.le_trans h0 hp) (hge p f1)
      obtain ⟨z, hz1⟩ := hea a b c d
      have hok : OkG s i (.set a b c d) (p + 1) := hoks _ _ _ _ _ (by omega) (by omega)
      generalize p + 1 = p9 at y3 hok
      cbv
      repeat (first | (rw [hbox]; cbv) | (rw [hsbox]; cbv))
      rw [hz1]; cbv
      cases z
      rotate_left
      · cbv
        exact hQ _ _ trivial (rg_nil (k := p) (by cbv))
      cbv
      repeat (first | (rw [hbox]; cbv) | (rw [hsbox]; cbv))
      rw [y3]; cbv
      exact hQ _ _ trivial (rset_one hok rfl rfl rfl rfl)
    obtain ⟨s2, r1, r2, r3⟩ := hrd p hp2 hc
    cbv
    rw [hc]; cbv
    rw [q1]; cbv
    rw [e1]; cbv
    rw [r1]; cbv
    refine .inr (hcn ⟨_, [], _, r2, .inl ⟨rfl, by cbv⟩, ?_⟩)
    rintro _ _ ⟨v1, n1, ok, hv1, hn1, rfl, rfl⟩
    refine ⟨Nat.zero_le _, ?_⟩
    cbv
    cases ok
    · cbv
      exact hQ _ _ trivial (rg_nil (k := p) (by cbv))
    obtain ⟨t1, t2, t3⟩ := r3 n1 (hn1 rfl)
    have hc4v := hc4 v
    cbv
    rw [q1]; cbv
    refine .inr (hcn ⟨_, [], _, hc4v, .inl ⟨rfl, by cbv⟩, ?_⟩)
    rintro _ _ ⟨x0, hx0, rfl, rfl⟩
    obtain ⟨b, rfl⟩ := isB_of hx0
    refine ⟨Nat.zero_le _, ?_⟩
    cbv
    cases b
    rotate_left
    · cbv
      exact hQ _ _ trivial (rg_nil (k := p) (by cbv))
    generalize p + n1 = p2 at t1 t2 t3
    cbv
    rw [t3]; cbv
    have hp3 : 0 ≤ p2 := by omega
    have hp4 : i ≤ p2 := by omega
    have hm2 : (sz - p2).toNat < (sz - p).toNat := by omega
    cases e2 : lt p2 (sln s)
    · cbv
      rw [hcv _ _ hv1]; cbv
      refine MW_loop hm [0] [0, 1, 6, 7, 11, 12] 13 (by simp) (fun mz st => ∃ (k : Int) (O3 : List (List AV)), 0 ≤ k ∧ BR O3 ∧ mz = (256 - k).toNat ∧ st = stOf [.flat (.string s), .flat (.int .i64 p2), .dead, .dead, .dead, .dead, .sl 0 0 256, .flat (.bool false), .dead, .dead, .dead, .flat (.int .u8 v1), .flat (.int .i64 k)] [some ⟨4, O3⟩] 1) ((256 - v1).toNat) ?_ ?_
      · exact ⟨v1, O, hv1.1, hO, rfl, cut_eq (by cbv) (cutRows_cons (by rfl) (br_closed hO) rfl)⟩
      rintro mb st ⟨k, O3, hk, hO3, hmb, rfl⟩
      cases g1 : le k v1
      · cbv
        rw [hcv _ _ hv1]; cbv
        rw [g1]; cbv
        exact ⟨[0], [0, 1, 6, 7], 8, (sz - p2).toNat, hmz ▸ hm2, by simp, p2, O3, hp4, hO3, rfl, cut_eq (by cbv) (cutRows_cons (by rfl) (br_closed hO3) rfl)⟩
      obtain ⟨i1, ⟨O2, hO2, i2⟩, i3, i4, i5⟩ := hkt O3 k v1 hO3 hk hv1 g1
      generalize k + 1 = k2 at i3 i4 i5
      generalize k.toNat = kn at i1 i2
      cbv
      rw [hcv _ _ hv1]; cbv
      rw [g1]; cbv
      rw [i1]; cbv
      rw [i2]; cbv
      rw [i3]
      exact ⟨[0], [0, 1, 6, 7, 11, 12], 13, (256 - k2).toNat, hmb ▸ i5, by simp, k2, O2, i4, hO2, rfl, cut_eq (by cbv) (cutRows_cons (by rfl) (br_closed hO2) rfl)⟩
    obtain ⟨w, q4, q5, q6⟩ := hix p2 hp3 e2
    cbv
    rw [q4]; cbv
    cases e3 : eq w 45
    · cbv
      rw [hcv _ _ hv1]; cbv
      refine MW_loop hm [0] [0, 1, 6, 7, 11, 12] 13 (by simp) (fun mz st => ∃ (k : Int) (O3 : List (List AV)), 0 ≤ k ∧ BR O3 ∧ mz = (256 - k).toNat ∧ st = stOf [.flat (.string s), .flat (.int .i64 p2), .dead, .dead, .dead, .dead, .sl 0 0 256, .flat (.bool false), .dead, .dead, .dead, .flat (.int .u8 v1), .flat (.int .i64 k)] [some ⟨4, O3⟩] 1) ((256 - v1).toNat) ?_ ?_
      · exact ⟨v1, O, hv1.1, hO, rfl, cut_eq (by cbv) (cutRows_cons (by rfl) (br_closed hO) rfl)⟩
      rintro mb st ⟨k, O3, hk, hO3, hmb, rfl⟩
      cases g1 : le k v1
      · cbv
        rw [hcv _ _ hv1]; cbv
        rw [g1]; cbv
        exact ⟨[0], [0, 1, 6, 7], 8, (sz - p2).toNat, hmz ▸ hm2, by simp, p2, O3, hp4, hO3, rfl, cut_eq (by cbv) (cutRows_cons (by rfl) (br_closed hO3) rfl)⟩
      obtain ⟨i1, ⟨O2, hO2, i2⟩, i3, i4, i5⟩ := hkt O3 k v1 hO3 hk hv1 g1
      generalize k + 1 = k2 at i3 i4 i5
      generalize k.toNat = kn at i1 i2
      cbv
      rw [hcv _ _ hv1]; cbv
      rw [g1]; cbv
      rw [i1]; cbv
      rw [i2]; cbv
      rw [i3]
      exact ⟨[0], [0, 1, 6, 7, 11, 12], 13, (256 - k2).toNat, hmb ▸ i5, by simp, k2, O2, i4, hO2, rfl, cut_eq (by cbv) (cutRows_cons (by rfl) (br_closed hO2) rfl)⟩
    have hp5 : 0 ≤ p2 + 1 := by omega
    have hp6 : i ≤ p2 + 1 := by omega
    have hp7 : p2 < p2 + 1 := by omega
    generalize p2 + 1 = p3 at q6 hp5 hp6 hp7
    cbv
    rw [q6]; cbv
    cases e4 : le (sln s) p3
    rotate_left
    · cbv
      exact hQ _ _ trivial (rg_nil (k := p3) (by cbv))
    have e5 := hge p3 e4
    obtain ⟨w2, q7, q8, q9⟩ := hix p3 hp5 e5
    obtain ⟨s3, r4, r5, r6⟩ := hrd p3 hp5 e5
    have hc5v := hc5 w2
    cbv
    rw [q7]; cbv
    refine .inr (hcn ⟨_, [], _, hc5v, .inl ⟨rfl, by cbv⟩, ?_⟩)
    rintro _ _ ⟨x0, hx0, rfl, rfl⟩
    obtain ⟨b5, rfl⟩ := isB_of hx0
    refine ⟨Nat.zero_le _, ?_⟩
    cbv
    cases b5
    rotate_left
    · cbv
      exact hQ _ _ trivial (rg_nil (k := p3) (by cbv))
    cbv
    rw [r4]; cbv
    refine .inr (hcn ⟨_, [], _, r5, .inl ⟨rfl, by cbv⟩, ?_⟩)
    rintro _ _ ⟨v4, n4, ok4, hv4, hn4, rfl, rfl⟩
    refine ⟨Nat.zero_le _, ?_⟩
    cbv
    cases ok4
    · cbv
      exact hQ _ _ trivial (rg_nil (k := p3) (by cbv))
    obtain ⟨t4, t5, t6⟩ := r6 n4 (hn4 rfl)
    generalize p3 + n4 = p4 at t4 t5 t6
    have hp8 : i ≤ p4 := by omega
    have hm3 : (sz - p4).toNat < (sz - p).toNat := by omega
    cbv
    cases e6 : lt v4 v1
    rotate_left
    · cbv
      exact hQ _ _ trivial (rg_nil (k := p3) (by cbv))
    cbv
    rw [t6]; cbv
    rw [hcv _ _ hv1]; cbv
    refine MW_loop hm [0] [0, 1, 6, 7, 11, 12] 13 (by simp) (fun mz st => ∃ (k : Int) (O3 : List (List AV)), 0 ≤ k ∧ BR O3 ∧ mz = (256 - k).toNat ∧ st = stOf [.flat (.string s), .flat (.int .i64 p4), .dead, .dead, .dead, .dead, .sl 0 0 256, .flat (.bool false), .dead, .dead, .dead, .flat (.int .u8 v4), .flat (.int .i64 k)] [some ⟨4, O3⟩] 1) ((256 - v1).toNat) ?_ ?_
    · exact ⟨v1, O, hv1.1, hO, rfl, cut_eq (by cbv) (cutRows_cons (by rfl) (br_closed hO) rfl)⟩
    rintro mb st ⟨k, O3, hk, hO3, hmb, rfl⟩
    cases g1 : le k v4
    · cbv
      rw [hcv _ _ hv4]; cbv
      rw [g1]; cbv
      exact ⟨[0], [0, 1, 6, 7], 8, (sz - p4).toNat, hmz ▸ hm3, by simp, p4, O3, hp8, hO3, rfl, cut_eq (by cbv) (cutRows_cons (by rfl) (br_closed hO3) rfl)⟩
    obtain ⟨i1, ⟨O2, hO2, i2⟩, i3, i4, i5⟩ := hkt O3 k v4 hO3 hk hv4 g1
    generalize k + 1 = k2 at i3 i4 i5
    generalize k.toNat = kn at i1 i2
    cbv
    rw [hcv _ _ hv4]; cbv
    rw [g1]; cbv
    rw [i1]; cbv
    rw [i2]; cbv
    rw [i3]
    exact ⟨[0], [0, 1, 6, 7, 11, 12], 13, (256 - k2).toNat, hmb ▸ i5, by simp, k2, O2, i4, hO2, rfl, cut_eq (by cbv) (cutRows_cons (by rfl) (br_closed hO2) rfl)⟩
  cbv
  rw [hmk]; cbv
  rw [c1]; cbv
  rw [x1]; cbv
  rw [c2]; cbv
  rw [x3]; cbv
  refine MW_loop hm [16] [0, 1, 6, 7] 8 (by simp) (fun mz st => ∃ (p : Int) (O : List (List AV)), i ≤ p ∧ BR O ∧ mz = (sz - p).toNat ∧ st = stOf [.flat (.string s), .flat (.int .i64 p), .dead, .dead, .dead, .dead, .sl 0 0 256, .flat (.bool true)] [some ⟨4, O⟩] 1) ((sz - i9).toNat) ?_ ?_
  · exact ⟨i9, ZZ, hi2, hz, rfl, cut_eq (by cbv) (cutRows_cons (by rfl) (br_closed hz) rfl)⟩
  rintro mz st ⟨p, O, hp, hO, hmz, rfl⟩
  cases hc : lt p (sln s)
  · cbv
    rw [hc]; cbv
    have hof := br_of hO
    have hOn := br_len hO
    have hOr := br_read hO
    refine .inr (hcn ⟨[.ro O], [0], RSet, hof, .inr ⟨deeps_len ⟨deep_row (by simp) (by rfl) hOn hOr, trivial⟩, rset_noRo⟩, ?_⟩)
    rintro _ _ ⟨a, b, c, d, hw, rfl, rfl⟩
    refine ⟨Nat.zero_le _, ?_⟩
    cbv
    repeat (first | (rw [hbox]; cbv) | (rw [hsbox]; cbv))
    have hcP2 := hcP a b c d hw
    refine .inr (hcn ⟨_, [], _, hcP2, .inl ⟨rfl, by cbv⟩, ?_⟩)
    rintro _ _ ⟨a2, b2, c2, d2, hw2, rfl, rfl⟩
    refine ⟨Nat.zero_le _, ?_⟩
    cbv
    repeat (first | (rw [hbox]; cbv) | (rw [hsbox]; cbv))
    cases f1 : le (sln s) p
    rotate_left
    · cbv
      exact hQ _ _ trivial (rg_nil (k := p) (by cbv))
    obtain ⟨v9, y1, y2, y3⟩ := hix p (Int.le_trans h0 hp) (hge p f1)
    obtain ⟨z, hz1⟩ := hea a2 b2 c2 d2
    have hok : OkG s i (.set a2 b2 c2 d2) (p + 1) := hoks _ _ _ _ _ (by omega) (by omega)
    generalize p + 1 = p9 at y3 hok
    cbv
    repeat (first | (rw [hbox]; cbv) | (rw [hsbox]; cbv))
    rw [hz1]; cbv
    cases z
    rotate_left
    · cbv
      exact hQ _ _ trivial (rg_nil (k := p) (by cbv))
    cbv
    repeat (first | (rw [hbox]; cbv) | (rw [hsbox]; cbv))
    rw [y3]; cbv
    exact hQ _ _ trivial (rset_one hok rfl rfl rfl rfl)
  have hp2 := Int.le_trans h0 hp
  obtain ⟨v, q1, q2, q3⟩ := hix p hp2 hc
  cases e1 : eq v 93
  rotate_left
  · cbv
    rw [hc]; cbv
    rw [q1]; cbv
    rw [e1]; cbv
    have hof := br_of hO
    have hOn := br_len hO
    have hOr := br_read hO
    refine .inr (hcn ⟨[.ro O], [0], RSet, hof, .inr ⟨deeps_len ⟨deep_row (by simp) (by rfl) hOn hOr, trivial⟩, rset_noRo⟩, ?_⟩)
    rintro _ _ ⟨a, b, c, d, hw, rfl, rfl⟩
    refine ⟨Nat.zero_le _, ?_⟩
    cbv
    repeat (first | (rw [hbox]; cbv) | (rw [hsbox]; cbv))
    have hcP2 := hcP a b c d hw
    refine .inr (hcn ⟨_, [], _, hcP2, .inl ⟨rfl, by cbv⟩, ?_⟩)
    rintro _ _ ⟨a2, b2, c2, d2, hw2, rfl, rfl⟩
    refine ⟨Nat.zero_le _, ?_⟩
    cbv
    repeat (first | (rw [hbox]; cbv) | (rw [hsbox]; cbv))
    cases f1 : le (sln s) p
    rotate_left
    · cbv
      exact hQ _ _ trivial (rg_nil (k := p) (by cbv))
    obtain ⟨v9, y1, y2, y3⟩ := hix p (Int.le_trans h0 hp) (hge p f1)
    obtain ⟨z, hz1⟩ := hea a2 b2 c2 d2
    have hok : OkG s i (.set a2 b2 c2 d2) (p + 1) := hoks _ _ _ _ _ (by omega) (by omega)
    generalize p + 1 = p9 at y3 hok
    cbv
    repeat (first | (rw [hbox]; cbv) | (rw [hsbox]; cbv))
    rw [hz1]; cbv
    cases z
    rotate_left
    · cbv
      exact hQ _ _ trivial (rg_nil (k := p) (by cbv))
    cbv
    repeat (first | (rw [hbox]; cbv) | (rw [hsbox]; cbv))
    rw [y3]; cbv
    exact hQ _ _ trivial (rset_one hok rfl rfl rfl rfl)
  obtain ⟨s2, r1, r2, r3⟩ := hrd p hp2 hc
  cbv
  rw [hc]; cbv
  rw [q1]; cbv
  rw [e1]; cbv
  rw [r1]; cbv
  refine .inr (hcn ⟨_, [], _, r2, .inl ⟨rfl, by cbv⟩, ?_⟩)
  rintro _ _ ⟨v1, n1, ok, hv1, hn1, rfl, rfl⟩
  refine ⟨Nat.zero_le _, ?_⟩
  cbv
  cases ok
  · cbv
    exact hQ _ _ trivial (rg_nil (k := p) (by cbv))
  obtain ⟨t1, t2, t3⟩ := r3 n1 (hn1 rfl)
  have hc4v := hc4 v
  cbv
  rw [q1]; cbv
  refine .inr (hcn ⟨_, [], _, hc4v, .inl ⟨rfl, by cbv⟩, ?_⟩)
  rintro _ _ ⟨x0, hx0, rfl, rfl⟩
  obtain ⟨b, rfl⟩ := isB_of hx0
  refine ⟨Nat.zero_le _, ?_⟩
  cbv
  cases b
  rotate_left
  · cbv
    exact hQ _ _ trivial (rg_nil (k := p) (by cbv))
  generalize p + n1 = p2 at t1 t2 t3
  cbv
  rw [t3]; cbv
  have hp3 : 0 ≤ p2 := by omega
  have hp4 : i ≤ p2 := by omega
  have hm2 : (sz - p2).toNat < (sz - p).toNat := by omega
  cases e2 : lt p2 (sln s)
  · cbv
    rw [hcv _ _ hv1]; cbv
    refine MW_loop hm [0] [0, 1, 6, 7, 11, 12] 13 (by simp) (fun mz st => ∃ (k : Int) (O3 : List (List AV)), 0 ≤ k ∧ BR O3 ∧ mz = (256 - k).toNat ∧ st = stOf [.flat (.string s), .flat (.int .i64 p2), .dead, .dead, .dead, .dead, .sl 0 0 256, .flat (.bool true), .dead, .dead, .dead, .flat (.int .u8 v1), .flat (.int .i64 k)] [some ⟨4, O3⟩] 1) ((256 - v1).toNat) ?_ ?_
    · exact ⟨v1, O, hv1.1, hO, rfl, cut_eq (by cbv) (cutRows_cons (by rfl) (br_closed hO) rfl)⟩
    rintro mb st ⟨k, O3, hk, hO3, hmb, rfl⟩
    cases g1 : le k v1
    · cbv
      rw [hcv _ _ hv1]; cbv
      rw [g1]; cbv
      exact ⟨[0], [0, 1, 6, 7], 8, (sz - p2).toNat, hmz ▸ hm2, by simp, p2, O3, hp4, hO3, rfl, cut_eq (by cbv) (cutRows_cons (by rfl) (br_closed hO3) rfl)⟩
    obtain ⟨i1, ⟨O2, hO2, i2⟩, i3, i4, i5⟩ := hkt O3 k v1 hO3 hk hv1 g1
    generalize k + 1 = k2 at i3 i4 i5
    generalize k.toNat = kn at i1 i2
    cbv
    rw [hcv _ _ hv1]; cbv
    rw [g1]; cbv
    rw [i1]; cbv
    rw [i2]; cbv
    rw [i3]
    exact ⟨[0], [0, 1, 6, 7, 11, 12], 13, (256 - k2).toNat, hmb ▸ i5, by simp, k2, O2, i4, hO2, rfl, cut_eq (by cbv) (cutRows_cons (by rfl) (br_closed hO2) rfl)⟩
  obtain ⟨w, q4, q5, q6⟩ := hix p2 hp3 e2
  cbv
  rw [q4]; cbv
  cases e3 : eq w 45
  · cbv
    rw [hcv _ _ hv1]; cbv
    refine MW_loop hm [0] [0, 1, 6, 7, 11, 12] 13 (by simp) (fun mz st => ∃ (k : Int) (O3 : List (List AV)), 0 ≤ k ∧ BR O3 ∧ mz = (256 - k).toNat ∧ st = stOf [.flat (.string s), .flat (.int .i64 p2), .dead, .dead, .dead, .dead, .sl 0 0 256, .flat (.bool true), .dead, .dead, .dead, .flat (.int .u8 v1), .flat (.int .i64 k)] [some ⟨4, O3⟩] 1) ((256 - v1).toNat) ?_ ?_
    · exact ⟨v1, O, hv1.1, hO, rfl, cut_eq (by cbv) (cutRows_cons (by rfl) (br_closed hO) rfl)⟩
    rintro mb st ⟨k, O3, hk, hO3, hmb, rfl⟩
    cases g1 : le k v1
    · cbv
      rw [hcv _ _ hv1]; cbv
      rw [g1]; cbv
      exact ⟨[0], [0, 1, 6, 7], 8, (sz - p2).toNat, hmz ▸ hm2, by simp, p2, O3, hp4, hO3, rfl, cut_eq (by cbv) (cutRows_cons (by rfl) (br_closed hO3) rfl)⟩
    obtain ⟨i1, ⟨O2, hO2, i2⟩, i3, i4, i5⟩ := hkt O3 k v1 hO3 hk hv1 g1
    generalize k + 1 = k2 at i3 i4 i5
    generalize k.toNat = kn at i1 i2
    cbv
    rw [hcv _ _ hv1]; cbv
    rw [g1]; cbv
    rw [i1]; cbv
    rw [i2]; cbv
    rw [i3]
    exact ⟨[0], [0, 1, 6, 7, 11, 12], 13, (256 - k2).toNat, hmb ▸ i5, by simp, k2, O2, i4, hO2, rfl, cut_eq (by cbv) (cutRows_cons (by rfl) (br_closed hO2) rfl)⟩
  have hp5 : 0 ≤ p2 + 1 := by omega
  have hp6 : i ≤ p2 + 1 := by omega
  have hp7 : p2 < p2 + 1 := by omega
  generalize p2 + 1 = p3 at q6 hp5 hp6 hp7
  cbv
  rw [q6]; cbv
  cases e4 : le (sln s) p3
  rotate_left
  · cbv
    exact hQ _ _ trivial (rg_nil (k := p3) (by cbv))
  have e5 := hge p3 e4
  obtain ⟨w2, q7, q8, q9⟩ := hix p3 hp5 e5
  obtain ⟨s3, r4, r5, r6⟩ := hrd p3 hp5 e5
  have hc5v := hc5 w2
  cbv
  rw [q7]; cbv
  refine .inr (hcn ⟨_, [], _, hc5v, .inl ⟨rfl, by cbv⟩, ?_⟩)
  rintro _ _ ⟨x0, hx0, rfl, rfl⟩
  obtain ⟨b5, rfl⟩ := isB_of hx0
  refine ⟨Nat.zero_le _, ?_⟩
  cbv
  cases b5
  rotate_left
  · cbv
    exact hQ _ _ trivial (rg_nil (k := p3) (by cbv))
  cbv
  rw [r4]; cbv
  refine .inr (hcn ⟨_, [], _, r5, .inl ⟨rfl, by cbv⟩, ?_⟩)
  rintro _ _ ⟨v4, n4, ok4, hv4, hn4, rfl, rfl⟩
  refine ⟨Nat.zero_le _, ?_⟩
  cbv
  cases ok4
  · cbv
    exact hQ _ _ trivial (rg_nil (k := p3) (by cbv))
  obtain ⟨t4, t5, t6⟩ := r6 n4 (hn4 rfl)
  generalize p3 + n4 = p4 at t4 t5 t6
  have hp8 : i ≤ p4 := by omega
  have hm3 : (sz - p4).toNat < (sz - p).toNat := by omega
  cbv
  cases e6 : lt v4 v1
  rotate_left
  · cbv
    exact hQ _ _ trivial (rg_nil (k := p3) (by cbv))
  cbv
  rw [t6]; cbv
  rw [hcv _ _ hv1]; cbv
  refine MW_loop hm [0] [0, 1, 6, 7, 11, 12] 13 (by simp) (fun mz st => ∃ (k : Int) (O3 : List (List AV)), 0 ≤ k ∧ BR O3 ∧ mz = (256 - k).toNat ∧ st = stOf [.flat (.string s), .flat (.int .i64 p4), .dead, .dead, .dead, .dead, .sl 0 0 256, .flat (.bool true), .dead, .dead, .dead, .flat (.int .u8 v4), .flat (.int .i64 k)] [some ⟨4, O3⟩] 1) ((256 - v1).toNat) ?_ ?_
  · exact ⟨v1, O, hv1.1, hO, rfl, cut_eq (by cbv) (cutRows_cons (by rfl) (br_closed hO) rfl)⟩
  rintro mb st ⟨k, O3, hk, hO3, hmb, rfl⟩
  cases g1 : le k v4
  · cbv
    rw [hcv _ _ hv4]; cbv
    rw [g1]; cbv
    exact ⟨[0], [0, 1, 6, 7], 8, (sz - p4).toNat, hmz ▸ hm3, by simp, p4, O3, hp8, hO3, rfl, cut_eq (by cbv) (cutRows_cons (by rfl) (br_closed hO3) rfl)⟩
  obtain ⟨i1, ⟨O2, hO2, i2⟩, i3, i4, i5⟩ := hkt O3 k v4 hO3 hk hv4 g1
  generalize k + 1 = k2 at i3 i4 i5
  generalize k.toNat = kn at i1 i2
  cbv
  rw [hcv _ _ hv4]; cbv
  rw [g1]; cbv
  rw [i1]; cbv
  rw [i2]; cbv
  rw [i3]
  exact ⟨[0], [0, 1, 6, 7, 11, 12], 13, (256 - k2).toNat, hmb ▸ i5, by simp, k2, O2, i4, hO2, rfl, cut_eq (by cbv) (cutRows_cons (by rfl) (br_closed hO2) rfl)⟩
end Go.Proofs.Ytnceadbfgpiaaaa.N
/- Contracts: bosketref04.one, choice, Parse. -/
namespace Go.Proofs.Ytnceadbfgpiaaaa.N
open Go G U K I J F
set_option linter.unusedVariables false
set_option linter.unusedSimpArgs false
set_option maxRecDepth 100000
set_option maxHeartbeats 4000000
theorem fn83 : Try.prog.funcs[83]? = some Try.f83 := by kernel_rfl
theorem fn67 : Try.prog.funcs[67]? = some Try.f67 := by kernel_rfl
theorem okg_up {s : ByteArray} {i e : Int} {u : Rx} (h : OkG s (i + 1) u e) : OkG s i u e := by
  obtain ⟨a1, a2, a3⟩ := h
  exact ⟨by omega, by omega, by omega⟩
theorem okg_next {s : ByteArray} {i e : Int} {u : Rx} (h : OkG s (i + 1) u e) (he : e < s.size) : OkG s i u (e + 1) := by
  obtain ⟨a1, a2, a3⟩ := h
  exact ⟨by omega, by omega, by omega⟩
theorem rg_eps {P : Program} {fn : Func} {st : St} {s : ByteArray} {i e : Int} {k t1 t2 : Nat} {ty : TypeId} (he : i < e) (he2 : e ≤ s.size) (hr : fn.results.toList = [.tmp t1, .tmp t2]) (h1 : st.s t1 = .sl k 0 1) (h2 : st.s t2 = .flat (.int .i64 e)) (hT : st.T k = some ⟨ty, [pc 0 0 0 0 0]⟩) : ∃ val rows, RG s i val rows ∧ G.Leaves P fn val rows st :=
  rg_row (u := .eps) (X := [pc 0 0 0 0 0]) rfl ⟨he, he2, by show ((1 : Nat) : Int) + 1 ≤ _; omega⟩ hr h1 h2 hT rfl
theorem one_n (s : ByteArray) (i deep : Int) (h0 : 0 ≤ i) (hs : s.size ≤ 1000000) (hd0 : 0 ≤ deep) (hch : deep < 99 → ∀ j : Int, 0 ≤ j → j ≤ s.size → NCalls Try.prog 70 [.flat (.string s), .flat (.int .i64 j), .flat (.int .i64 (deep + 1))] (RG s j)) : NCalls Try.prog 83 [.flat (.string s), .flat (.int .i64 i), .flat (.int .i64 deep)] (RG s i) := by
  have hc8 := fun c => in4_n ⟨⟨[124, 41, 42, 43, 63, 93, 47, 34]⟩⟩ c (by decide)
  have hcP := sput_n 0 0 0 0 0 0 0 0 ⟨w64_zero, w64_zero, w64_zero, w64_zero⟩ ⟨w64_zero, w64_zero, w64_zero, w64_zero⟩
  unfold setV at hcP
  have hbr := fun j (hj : 0 ≤ j) => brackets_n s j hj hs
  obtain ⟨ZZ, hZZ⟩ : ∃ ZZ, ZZ = List.replicate 256 (zeroAV (.bool false)) := ⟨_, rfl⟩
  have hz : BR ZZ := hZZ ▸ br_zero
  refine ncalls_symN tabF_ok fn83 rfl rfl rfl (by kernel_rfl) ?_
  rintro N hN ⟨lt, le, eq, se, ar, dv, una, conv, len, sln, nat, nth, ixs, cel, sto, app, cpy, slc, mak, ixv, oth, dk, ib, call⟩ hS hm Q hQ
  obtain ⟨hlt, hle, heq, hse, har, hdv, huna, hconv, hlen, hsln, hnat, hnth, hixs, hcel, hsto, happ, hcpy, hslc, hmak, hixv, hoth, hdk, hib, hcall⟩ := Sym.mk.inj hS
  clear hS
  have hnt : ∀ n : Nat, nat n = U.natI n := fun n => by rw [hnat]; rfl
  have hbox : ∀ e c off, cel (some ⟨e, [c]⟩) 0 off = if off ≤ c.length then some (c.drop off) else none := fun e c off => by rw [hcel]; rfl
  have hsbox : ∀ e c off sz y, sto (some ⟨e, [c]⟩) 0 off sz y = if y.cells.length = sz ∧ off + sz ≤ c.length ∧ y.cells.all AV.one = true then some ⟨e, [spl c off y.cells]⟩ else none := fun e c off sz y => by rw [hsto]; rfl
  have hcaw : ∀ {f args T base K}, CallK Try.prog f args T base K → call f args T base K := fun h => by rw [hcall]; exact h
  have hcal : ∀ {f args T base} {K : AV → Table → List Nat → List Nat → Prop}, (∃ args' ids val rows, Hands T ids args args' (val base) (rows base) ∧ ACalls Try.prog f args' val rows ∧ (rows base).length ≤ 8 ∧ K (val base) (adopt T base (rows base)) ids ((List.range (rows base).length).map (base + ·))) → call f args T base K := fun h => hcaw (call_own h)
  have hcn : ∀ {f args T base} {K : AV → Table → Prop}, CallN Try.prog T base f args K → N f args T base K := fun h => by rw [hN]; exact h
  have hsx : ∀ (s : ByteArray) (i : Int), s.size ≤ 1000000 → 0 ≤ i → lt i (sln s) = true → ∃ v, ixv 9 (.flat (.string s)) (.flat (.int .i64 i)) = some (.flat (.int .u8 v)) ∧ 0 ≤ v ∧ v < 256 ∧ ar .add .i64 i 1 = i + 1 ∧ 0 ≤ i + 1 ∧ (s.size - (i + 1).toNat < s.size - i.toNat) ∧ i < s.size := fun s i hs h0 hc => by
    rw [hlt, hsln] at hc
    rw [hixv, har]
    exact ix_next s hs h0 hc
  have hrx : ∀ (X : List (List AV)) (sz : Nat) (i : Int), (∀ c ∈ X, c.length = sz) → X.length ≤ 1000000 → 0 ≤ i → lt i (len X) = true → ∃ c ∈ X, nth X i sz = some (.rp c) ∧ ar .add .i64 i 1 = i + 1 ∧ 0 ≤ i + 1 ∧ (X.length - (i + 1).toNat < X.length - i.toNat) ∧ i < X.length := fun X sz i hX hl h0 hc => by
    rw [hlt, hlen] at hc
    rw [hnth, har]
    exact row_next X hX hl h0 hc
  obtain ⟨sz, hsz⟩ : ∃ sz : Int, sz = (s.size : Int) := ⟨_, rfl⟩
  have hmk : ∀ id, mak (fun x => none) id 53 (.flat (.int .i64 256)) (.flat (.int .i64 256)) = some (.sl id 0 256, Table.set (fun x => none) id (some ⟨4, ZZ⟩)) := fun id => by
    rw [hmak, hZZ]; exact mak_zero (n := 256) u53 z4 (by decide) rfl rfl (by decide) (by decide)
  have hix : ∀ (i : Int), 0 ≤ i → lt i (sln s) = true → ∃ v, ixv 9 (.flat (.string s)) (.flat (.int .i64 i)) = some (.flat (.int .u8 v)) ∧ i < sz ∧ ar .add .i64 i 1 = i + 1 := fun i h0 hc => by
    rw [hlt, hsln] at hc
    have hc : i < (s.size : Int) := of_decide_eq_true hc
    exact ⟨_, by rw [hixv]; exact ix_str u9 h0 hc, hsz ▸ hc, by rw [har, ar_add64 (by omega) (by omega)]⟩
  have hge : ∀ (i : Int), le (sln s) i = false → lt i (sln s) = true := fun i hc => by
    rw [hle, hsln] at hc
    have hc : ¬ ((s.size : Int) ≤ i) := of_decide_eq_false hc
    rw [hlt, hsln]
    exact decide_eq_true (show i < (s.size : Int) by omega)
  have hrd : ∀ (i : Int), 0 ≤ i → lt i (sln s) = true → ∃ s2, (∀ T, slc T 9 (.flat (.string s)) (some (.flat (.int .i64 i))) none = some (.flat (.string s2))) ∧ NCalls Try.prog 86 [.flat (.string s2)] (RRd s2) ∧ ∀ n : Int, (1 ≤ n ∧ n ≤ s2.size) → i < i + n ∧ i + n ≤ sz ∧ ar .add .i64 i n = i + n := fun i h0 hc => by
    rw [hlt, hsln] at hc
    have hc : i < (s.size : Int) := of_decide_eq_true hc
    have hsz2 : (s.extract i.toNat s.size).size = s.size - i.toNat := by rw [ByteArray.size_extract]; omega
    refine ⟨s.extract i.toNat s.size, fun T => ?_, read_n _ (by omega), fun n h => ⟨by omega, by omega, ?_⟩⟩
    · rw [hslc]
      simp only [evSlice, u9]
      rw [bnd_lo h0 (by omega)]; rfl
    · rw [har, ar_add64 (by omega) (by omega)]
  have hn2 : dv .eql 114 (.flat (.slice none 0 0)) (.flat (.slice none 0 0)) = some (.flat (.bool true)) := by rw [hdv]; exact dv_nn.2
  have hr2 : ∀ u : Rx, dv .eql 114 (.ro u.post) (.flat (.slice none 0 0)) = some (.flat (.bool false)) := fun u => by rw [hdv]; exact (dv_rn u).2
  have hst1 : ∀ (k : Int), 0 ≤ k ∧ k < 256 → (∀ id, ixs (some ⟨4, ZZ⟩) id 0 256 k 1 = some (.ptr id k.toNat 0)) ∧ (∃ O2, BR O2 ∧ sto (some ⟨4, ZZ⟩) k.toNat 0 1 (.flat (.bool true)) = some ⟨4, O2⟩) := fun k hk =>
    ⟨fun id => by rw [hixs]; exact own_ix c4 hk.1 hk.2 id, by rw [hsto]; exact br_store hz hk.1 hk.2⟩
  have hdp : lt deep 99 = true → ar .add .i64 deep 1 = deep + 1 ∧ deep < 99 := fun hc => by
    rw [hlt] at hc
    have hc := of_decide_eq_true hc
    exact ⟨by rw [har, ar_add64 (by omega) (by omega)], hc⟩
  have hdl : le 99 deep = false → lt deep 99 = true := fun hc => by
    rw [hle] at hc
    rw [hlt]
    have hc := of_decide_eq_false hc
    exact decide_eq_true (by omega)
  have hoks : ∀ a b c d e : Int, i < e → e ≤ sz → OkG s i (.set a b c d) e := fun a b c d e h1 h2 => okg_set h1 (hsz ▸ h2)
  have hoke : ∀ e : Int, i < e → e ≤ sz → i < e ∧ e ≤ (s.size : Int) := fun e h1 h2 => ⟨h1, hsz ▸ h2⟩
  clear hZZ hs hd0
  cases f0 : le (sln s) i
  rotate_left
  · cbv
    rw [f0]; cbv
    exact hQ _ _ trivial (rg_nil (k := i) (by cbv))
  have fc := hge i f0
  obtain ⟨v, x1, x2, x3⟩ := hix i h0 fc
  have hii : i < i + 1 := by omega
  have hi1 : 0 ≤ i + 1 := by omega
  have hi2 : i + 1 ≤ (s.size : Int) := by omega
  have hi3 : i + 1 ≤ sz := by omega
  have hbri := hbr (i + 1) hi1
  have hup := fun {u : Rx} {e : Int} => @okg_up s i e u
  have hnx := fun {u : Rx} {e : Int} (h : OkG s (i + 1) u e) (he : e < sz) => @okg_next s i e u h (hsz ▸ he)
  have heps := hoke (i + 1) hii hi3
  have hsu := fun {u : Rx} {e : Int} (h : OkG s (i + 1) u e) => (show 0 ≤ e from by have := h.1; omega)
  have hch2 := fun h => hch h (i + 1) hi1 hi2
  clear hoke
  generalize i + 1 = i1 at x3 hii hi1 hi2 hi3 hbri hup hnx hch2 heps hsu
  have hc8v := hc8 v
  cbv
  rw [f0]; cbv
  rw [x1]; cbv
  refine .inr (hcn ⟨_, [], _, hc8v, .inl ⟨rfl, by cbv⟩, ?_⟩)
  rintro _ _ ⟨x0, hx0, rfl, rfl⟩
  obtain ⟨b, rfl⟩ := isB_of hx0
  refine ⟨Nat.zero_le _, ?_⟩
  cbv
  cases b
  rotate_left
  · cbv
    exact hQ _ _ trivial (rg_nil (k := i) (by cbv))
  cbv
  rw [x1]; cbv
  cases e1 : eq v 46
  rotate_left
  · cbv
    refine .inr (hcn ⟨_, [], _, hcP, .inl ⟨rfl, by cbv⟩, ?_⟩)
    rintro _ _ ⟨a, b, c, d, hw, rfl, rfl⟩
    refine ⟨Nat.zero_le _, ?_⟩
    have hok : OkG s i (.set a b c d) i1 := hoks _ _ _ _ _ hii hi3
    cbv
    rw [x3]; cbv
    exact hQ _ _ trivial (rset_one hok rfl rfl rfl rfl)
  cbv
  rw [x1]; cbv
  cases e2 : eq v 126
  rotate_left
  · cbv
    rw [x3]; cbv
    exact hQ _ _ trivial (rg_eps heps.1 heps.2 rfl rfl rfl rfl)
  cbv
  rw [x1]; cbv
  cases e3 : eq v 91
  rotate_left
  · cbv
    rw [x3]; cbv
    refine .inr (hcn ⟨_, [], _, hbri, .inl ⟨rfl, by cbv⟩, ?_⟩)
    rintro _ _ (⟨k0, rfl, rfl⟩ | ⟨u2, e2, hu2, rfl, rfl⟩)
    · refine ⟨Nat.zero_le _, ?_⟩
      cbv
      exact hQ _ _ trivial (rg_nil (k := k0) (by cbv))
    · have hu3 := hup hu2
      obtain ⟨X, hX⟩ : ∃ X, X = u2.post := ⟨_, rfl⟩
      rw [← hX]
      refine ⟨Nat.zero_le _, ?_⟩
      cbv
      exact hQ _ _ trivial (rg_ro hX hu3 (by cbv))
  cbv
  rw [x1]; cbv
  cases e4 : eq v 40
  rotate_left
  · cbv
    cases e5 : le 99 deep
    rotate_left
    · cbv
      exact hQ _ _ trivial (rg_nil (k := i) (by cbv))
    obtain ⟨d1, d2⟩ := hdp (hdl e5)
    have hch3 := hch2 d2
    generalize deep + 1 = deep1 at d1 hch3
    cbv
    rw [x3]; cbv
    rw [d1]; cbv
    refine .inr (hcn ⟨_, [], _, hch3, .inl ⟨rfl, by cbv⟩, ?_⟩)
    rintro _ _ (⟨k0, rfl, rfl⟩ | ⟨u2, e2, hu2, rfl, rfl⟩)
    · refine ⟨Nat.zero_le _, ?_⟩
      cbv
      rw [hn2]; cbv
      exact hQ _ _ trivial (rg_nil (k := k0) (by cbv))
    have hr := hr2 u2
    obtain ⟨X, hX⟩ : ∃ X, X = u2.post := ⟨_, rfl⟩
    rw [← hX] at hr ⊢
    refine ⟨Nat.zero_le _, ?_⟩
    cbv
    rw [hr]; cbv
    cases e6 : le (sln s) e2
    rotate_left
    · cbv
      exact hQ _ _ trivial (rg_nil (k := e2) (by cbv))
    have he0 : 0 ≤ e2 := hsu hu2
    obtain ⟨w, y1, y2, y3⟩ := hix e2 he0 (hge e2 e6)
    have hu3 := hnx hu2 y2
    generalize e2 + 1 = e9 at y3 hu3
    cbv
    rw [y1]; cbv
    cases e7 : eq w 41
    · cbv
      exact hQ _ _ trivial (rg_nil (k := e2) (by cbv))
    cbv
    rw [y3]; cbv
    exact hQ _ _ trivial (rg_ro hX hu3 (by cbv))
  obtain ⟨s2, r1, r2, r3⟩ := hrd i h0 fc
  cbv
  rw [r1]; cbv
  refine .inr (hcn ⟨_, [], _, r2, .inl ⟨rfl, by cbv⟩, ?_⟩)
  rintro _ _ ⟨v1, n1, ok, hv1, hn1, rfl, rfl⟩
  refine ⟨Nat.zero_le _, ?_⟩
  cbv
  cases ok
  · cbv
    exact hQ _ _ trivial (rg_nil (k := i) (by cbv))
  obtain ⟨t1, t2, t3⟩ := r3 n1 (hn1 rfl)
  obtain ⟨g1, O2, hO2, g2⟩ := hst1 v1 hv1
  generalize i + n1 = p2 at t1 t2 t3
  generalize v1.toNat = vn at g1 g2
  have hof := br_of hO2
  have hOn := br_len hO2
  have hOr := br_read hO2
  cbv
  rw [hmk]; cbv
  rw [g1]; cbv
  rw [g2]; cbv
  refine .inr (hcn ⟨[.ro O2], [368], RSet, hof, .inr ⟨deeps_len ⟨deep_row (by simp) (by rfl) hOn hOr, trivial⟩, rset_noRo⟩, ?_⟩)
  rintro _ _ ⟨a, b, c, d, hw, rfl, rfl⟩
  have hok : OkG s i (.set a b c d) p2 := hoks _ _ _ _ _ t1 t2
  refine ⟨Nat.zero_le _, ?_⟩
  cbv
  rw [t3]; cbv
  exact hQ _ _ trivial (rset_one hok rfl rfl rfl rfl)
/-- The parser's parts, by how deep they may yet go. -/
theorem choice_all (s : ByteArray) (hs : s.size ≤ 1000000) : ∀ (n : Nat) (deep : Int), 0 ≤ deep → (99 - deep).toNat ≤ n → ∀ j : Int, 0 ≤ j → j ≤ s.size → NCalls Try.prog 70 [.flat (.string s), .flat (.int .i64 j), .flat (.int .i64 deep)] (RG s j) := by
  intro n
  induction n with
  | zero =>
    intro deep hd hn j h0 h1
    refine choice_n s j deep h0 hs h1 fun j h0 h1 => row_n s j deep h0 hs h1 fun j h0 h1 => rep_n s j deep h0 hs (one_n s j deep h0 hs hd fun h => ?_)
    omega
  | succ n ih =>
    intro deep hd hn j h0 h1
    exact choice_n s j deep h0 hs h1 fun j h0 h1 => row_n s j deep h0 hs h1 fun j h0 h1 => rep_n s j deep h0 hs (one_n s j deep h0 hs hd fun h => ih (deep + 1) (by omega) (by omega))
def RP (val : Nat → AV) (rows : Nat → List Row) : Prop :=
  (∃ k : Int, k ≠ 0 ∧ val = (fun _ => .tup [nilV, .flat (.int .i64 k)]) ∧ rows = fun _ => []) ∨ (∃ u : Rx, u.post.length ≤ 1000000 ∧ val = (fun _ => .tup [.ro u.post, .flat (.int .i64 0)]) ∧ rows = fun _ => [])
theorem rp_nil {P : Program} {fn : Func} {st : St} {k : Int} (hk : k ≠ 0) (h : resA P fn st = some (.tup [nilV, .flat (.int .i64 k)])) : ∃ val rows, RP val rows ∧ G.Leaves P fn val rows st :=
  ⟨_, _, .inl ⟨k, hk, rfl, rfl⟩, G.Leaves.plain h rfl⟩
theorem rp_ro {P : Program} {fn : Func} {st : St} {u : Rx} {X : List (List AV)} (hX : X = u.post) (hu : u.post.length ≤ 1000000) (h : resA P fn st = some (.tup [.ro X, .flat (.int .i64 0)])) : ∃ val rows, RP val rows ∧ G.Leaves P fn val rows st :=
  ⟨_, _, .inr ⟨u, hu, rfl, rfl⟩, hX ▸ G.Leaves.plain h rfl⟩
theorem parse_n (s : ByteArray) (hs : s.size ≤ 100000) : NCalls Try.prog 67 [.flat (.string s)] RP := by
  have hch := choice_all s (by omega) 99 0 (Int.le_refl 0) (by decide) 0 (Int.le_refl 0) (by omega)
  refine ncalls_symN tabF_ok fn67 rfl rfl rfl (by kernel_rfl) ?_
  rintro N hN ⟨lt, le, eq, se, ar, dv, una, conv, len, sln, nat, nth, ixs, cel, sto, app, cpy, slc, mak, ixv, oth, dk, ib, call⟩ hS hm Q hQ
  obtain ⟨hlt, hle, heq, hse, har, hdv, huna, hconv, hlen, hsln, hnat, hnth, hixs, hcel, hsto, happ, hcpy, hslc, hmak, hixv, hoth, hdk, hib, hcall⟩ := Sym.mk.inj hS
  clear hS
  have hnt : ∀ n : Nat, nat n = U.natI n := fun n => by rw [hnat]; rfl
  have hbox : ∀ e c off, cel (some ⟨e, [c]⟩) 0 off = if off ≤ c.length then some (c.drop off) else none := fun e c off => by rw [hcel]; rfl
  have hsbox : ∀ e c off sz y, sto (some ⟨e, [c]⟩) 0 off sz y = if y.cells.length = sz ∧ off + sz ≤ c.length ∧ y.cells.all AV.one = true then some ⟨e, [spl c off y.cells]⟩ else none := fun e c off sz y => by rw [hsto]; rfl
  have hcaw : ∀ {f args T base K}, CallK Try.prog f args T base K → call f args T base K := fun h => by rw [hcall]; exact h
  have hcal : ∀ {f args T base} {K : AV → Table → List Nat → List Nat → Prop}, (∃ args' ids val rows, Hands T ids args args' (val base) (rows base) ∧ ACalls Try.prog f args' val rows ∧ (rows base).length ≤ 8 ∧ K (val base) (adopt T base (rows base)) ids ((List.range (rows base).length).map (base + ·))) → call f args T base K := fun h => hcaw (call_own h)
  have hcn : ∀ {f args T base} {K : AV → Table → Prop}, CallN Try.prog T base f args K → N f args T base K := fun h => by rw [hN]; exact h
  have hsx : ∀ (s : ByteArray) (i : Int), s.size ≤ 1000000 → 0 ≤ i → lt i (sln s) = true → ∃ v, ixv 9 (.flat (.string s)) (.flat (.int .i64 i)) = some (.flat (.int .u8 v)) ∧ 0 ≤ v ∧ v < 256 ∧ ar .add .i64 i 1 = i + 1 ∧ 0 ≤ i + 1 ∧ (s.size - (i + 1).toNat < s.size - i.toNat) ∧ i < s.size := fun s i hs h0 hc => by
    rw [hlt, hsln] at hc
    rw [hixv, har]
    exact ix_next s hs h0 hc
  have hrx : ∀ (X : List (List AV)) (sz : Nat) (i : Int), (∀ c ∈ X, c.length = sz) → X.length ≤ 1000000 → 0 ≤ i → lt i (len X) = true → ∃ c ∈ X, nth X i sz = some (.rp c) ∧ ar .add .i64 i 1 = i + 1 ∧ 0 ≤ i + 1 ∧ (X.length - (i + 1).toNat < X.length - i.toNat) ∧ i < X.length := fun X sz i hX hl h0 hc => by
    rw [hlt, hlen] at hc
    rw [hnth, har]
    exact row_next X hX hl h0 hc
  have hn2 : dv .eql 114 (.flat (.slice none 0 0)) (.flat (.slice none 0 0)) = some (.flat (.bool true)) := by rw [hdv]; exact dv_nn.2
  have hr2 : ∀ u : Rx, dv .eql 114 (.ro u.post) (.flat (.slice none 0 0)) = some (.flat (.bool false)) := fun u => by rw [hdv]; exact (dv_rn u).2
  have h5 : (5 : Int) ≠ 0 := by decide
  have h6 : (6 : Int) ≠ 0 := by decide
  cbv
  cases e1 : lt 1600 (sln s)
  rotate_left
  · cbv
    exact hQ _ _ trivial (rp_nil h6 (by cbv))
  cbv
  refine .inr (hcn ⟨_, [], _, hch, .inl ⟨rfl, by cbv⟩, ?_⟩)
  rintro _ _ (⟨k0, rfl, rfl⟩ | ⟨u2, e2, hu2, rfl, rfl⟩)
  · refine ⟨Nat.zero_le _, ?_⟩
    cbv
    rw [hn2]; cbv
    exact hQ _ _ trivial (rp_nil h5 (by cbv))
  have hr := hr2 u2
  have hul : u2.post.length ≤ 1000000 := by
    obtain ⟨a1, a2, a3⟩ := hu2
    omega
  obtain ⟨X, hX⟩ : ∃ X, X = u2.post := ⟨_, rfl⟩
  rw [← hX] at hr ⊢
  refine ⟨Nat.zero_le _, ?_⟩
  cbv
  rw [hr]; cbv
  cases e3 : lt e2 (sln s)
  rotate_left
  · cbv
    exact hQ _ _ trivial (rp_nil h5 (by cbv))
  cbv
  cases e4 : lt 400 (len X)
  rotate_left
  · cbv
    exact hQ _ _ trivial (rp_nil h6 (by cbv))
  cbv
  exact hQ _ _ trivial (rp_ro hX hul (by cbv))
end Go.Proofs.Ytnceadbfgpiaaaa.N
/- Contracts: bosketref11.Rule, Check; bosketref17.Check. -/
namespace Go.Proofs.Ytnceadbfgpiaaaa.N
open Go G U K I J F
set_option linter.unusedVariables false
set_option linter.unusedSimpArgs false
set_option maxRecDepth 100000
set_option maxHeartbeats 4000000
theorem fn60 : Try.prog.funcs[60]? = some Try.f60 := by kernel_rfl
theorem fn51 : Try.prog.funcs[51]? = some Try.f51 := by kernel_rfl
theorem fn36 : Try.prog.funcs[36]? = some Try.f36 := by kernel_rfl
theorem rule_n (g : GramT) (hg : GB g) (i : Int) (h0 : 0 ≤ i) (h1 : i < g.rules.length) : NCalls Try.prog 60 [.ro (g.rules.map ruleC), .flat (.int .i64 i)] (RS isI) := by
  have hb := hg.r _ (at_mem h0 h1)
  have hcNm := name_n (atI g.rules i).name (by omega)
  have hcP := parse_n (atI g.rules i).regex (by omega)
  have hR : ∀ a : Int, 0 ≤ a → a < g.rules.length → ∃ (n : ByteArray) (k : Int) (x : ByteArray), nthE (g.rules.map ruleC) a 3 = some (.rp [.flat (.string n), .flat (.int .i64 k), .flat (.string x)]) := fun a q0 q1 => ⟨_, _, _, nth_map (f := ruleC) (fun _ => rfl) q0 q1⟩
  have hI : nthE (g.rules.map ruleC) i 3 = some (.rp (ruleC (atI g.rules i))) := nth_map (f := ruleC) (fun _ => rfl) h0 h1
  have hl := hg.rl
  have hcH := rhas_n
  unfold eTx at hcH
  clear hg hb
  generalize atI g.rules i = p at *
  obtain ⟨nm, kd, rx⟩ := p
  generalize g.rules.length = ln at *
  generalize g.rules.map ruleC = R at *
  unfold ruleC at hI
  dsimp only at *
  refine ncalls_symN tabF_ok fn60 rfl rfl rfl (by kernel_rfl) ?_
  have hfin : ∀ st, shOk isI (resA Try.prog Try.f60 st) = true → ∃ val rows, RS isI val rows ∧ G.Leaves Try.prog Try.f60 val rows st := fun st h => rs_leaves h
  rintro N hN ⟨lt, le, eq, se, ar, dv, una, conv, len, sln, nat, nth, ixs, cel, sto, app, cpy, slc, mak, ixv, oth, dk, ib, call⟩ hS hm Q hQ
  obtain ⟨hlt, hle, heq, hse, har, hdv, huna, hconv, hlen, hsln, hnat, hnth, hixs, hcel, hsto, happ, hcpy, hslc, hmak, hixv, hoth, hdk, hib, hcall⟩ := Sym.mk.inj hS
  clear hS
  have hnt : ∀ n : Nat, nat n = U.natI n := fun n => by rw [hnat]; rfl
  have hbox : ∀ e c off, cel (some ⟨e, [c]⟩) 0 off = if off ≤ c.length then some (c.drop off) else none := fun e c off => by rw [hcel]; rfl
  have hsbox : ∀ e c off sz y, sto (some ⟨e, [c]⟩) 0 off sz y = if y.cells.length = sz ∧ off + sz ≤ c.length ∧ y.cells.all AV.one = true then some ⟨e, [spl c off y.cells]⟩ else none := fun e c off sz y => by rw [hsto]; rfl
  have hcaw : ∀ {f args T base K}, CallK Try.prog f args T base K → call f args T base K := fun h => by rw [hcall]; exact h
  have hcal : ∀ {f args T base} {K : AV → Table → List Nat → List Nat → Prop}, (∃ args' ids val rows, Hands T ids args args' (val base) (rows base) ∧ ACalls Try.prog f args' val rows ∧ (rows base).length ≤ 8 ∧ K (val base) (adopt T base (rows base)) ids ((List.range (rows base).length).map (base + ·))) → call f args T base K := fun h => hcaw (call_own h)
  have hcn : ∀ {f args T base} {K : AV → Table → Prop}, CallN Try.prog T base f args K → N f args T base K := fun h => by rw [hN]; exact h
  have hsx : ∀ (s : ByteArray) (i : Int), s.size ≤ 1000000 → 0 ≤ i → lt i (sln s) = true → ∃ v, ixv 9 (.flat (.string s)) (.flat (.int .i64 i)) = some (.flat (.int .u8 v)) ∧ 0 ≤ v ∧ v < 256 ∧ ar .add .i64 i 1 = i + 1 ∧ 0 ≤ i + 1 ∧ (s.size - (i + 1).toNat < s.size - i.toNat) ∧ i < s.size := fun s i hs h0 hc => by
    rw [hlt, hsln] at hc
    rw [hixv, har]
    exact ix_next s hs h0 hc
  have hrx : ∀ (X : List (List AV)) (sz : Nat) (i : Int), (∀ c ∈ X, c.length = sz) → X.length ≤ 1000000 → 0 ≤ i → lt i (len X) = true → ∃ c ∈ X, nth X i sz = some (.rp c) ∧ ar .add .i64 i 1 = i + 1 ∧ 0 ≤ i + 1 ∧ (X.length - (i + 1).toNat < X.length - i.toNat) ∧ i < X.length := fun X sz i hX hl h0 hc => by
    rw [hlt, hlen] at hc
    rw [hnth, har]
    exact row_next X hX hl h0 hc
  have hI2 : nth R i 3 = some (.rp [.flat (.string nm), .flat (.int .i64 kd), .flat (.string rx)]) := by rw [hnth]; exact hI
  have hs1 : ∀ a : Int, 0 ≤ a → lt a i = true → ∃ (n : ByteArray) (k : Int) (x : ByteArray), nth R a 3 = some (.rp [.flat (.string n), .flat (.int .i64 k), .flat (.string x)]) ∧ ar .add .i64 a 1 = a + 1 ∧ 0 ≤ a + 1 ∧ (i - (a + 1)).toNat < (i - a).toNat := fun a q0 hc => by
    rw [hlt] at hc
    have hc : a < i := of_decide_eq_true hc
    obtain ⟨n, k, x, q1⟩ := hR a q0 (by omega)
    exact ⟨n, k, x, by rw [hnth]; exact q1, by rw [har, ar_add64 (by omega) (by omega)], by omega, by omega⟩
  have hkk : ∀ k : Int, k ≠ 0 → eq k 0 = false := fun k h => by rw [heq]; exact decide_eq_false h
  have hk0 : eq 0 0 = true := by rw [heq]; decide
  have hz0 : (0 : Int) ≤ 0 := Int.le_refl 0
  clear hR h0 h1 hI hl
  cbv
  repeat (first | (rw [hbox]; cbv) | (rw [hsbox]; cbv) | (rw [hI2]; cbv))
  refine .inr (hcn ⟨_, [], _, hcNm, .inl ⟨rfl, by cbv⟩, ?_⟩)
  rintro _ _ ⟨x0, hx0, rfl, rfl⟩
  obtain ⟨b1, rfl⟩ := isB_of hx0
  refine ⟨Nat.zero_le _, ?_⟩
  cbv
  cases b1
  · cbv
    exact hQ _ _ trivial (hfin _ (by cbv))
  cbv
  refine MW_loop hm [40] [0, 1, 5, 6] 7 (by simp) (fun mz st => ∃ (a : Int), 0 ≤ a ∧ mz = (i - a).toNat ∧ st = stOf [.ro R, .flat (.int .i64 i), .dead, .dead, .dead, .ptr 0 0 0, .flat (.int .i64 a)] [some ⟨80, [[.flat (.string nm), .flat (.int .i64 kd), .flat (.string rx)]]⟩] 1) ((i - 0).toNat) ?_ ?_
  · exact ⟨0, hz0, rfl, cut_eq (by cbv) (cutRows_cons (by rfl) (by simp [closedAll, closedIn]) rfl)⟩
  rintro mz st ⟨a, ha, hmz, rfl⟩
  cases hc : lt a i
  rotate_left
  · skip
    obtain ⟨n2, k2, x2, q1, q2, q3, q4⟩ := hs1 a ha hc
    generalize a + 1 = a2 at q2 q3 q4
    cbv
    rw [hc]; cbv
    refine ⟨by rw [hdk]; kernel_rfl, ?_⟩
    repeat (first | (rw [hbox]; cbv) | (rw [hsbox]; cbv) | (rw [q1]; cbv))
    cases e5 : se n2 nm
    · cbv
      refine ⟨by rw [hib]; kernel_rfl, ?_⟩
      cbv
      rw [q2]
      exact ⟨[0], [0, 1, 5, 6], 7, (i - a2).toNat, hmz ▸ q4, by simp, a2, q3, rfl, cut_eq (by cbv) (cutRows_cons (by rfl) (by simp [closedAll, closedIn]) rfl)⟩
    cbv
    refine ⟨by rw [hib]; kernel_rfl, ?_⟩
    cbv
    exact hQ _ _ trivial (hfin _ (by cbv))
  cbv
  rw [hc]; cbv
  repeat (first | (rw [hbox]; cbv) | (rw [hsbox]; cbv))
  cases e1 : lt kd 0
  rotate_left
  · cbv
    exact hQ _ _ trivial (hfin _ (by cbv))
  cbv
  repeat (first | (rw [hbox]; cbv) | (rw [hsbox]; cbv))
  cases e2 : lt 2 kd
  rotate_left
  · cbv
    exact hQ _ _ trivial (hfin _ (by cbv))
  cbv
  repeat (first | (rw [hbox]; cbv) | (rw [hsbox]; cbv))
  refine .inr (hcn ⟨_, [], _, hcP, .inl ⟨rfl, by cbv⟩, ?_⟩)
  rintro _ _ (⟨k0, hk, rfl, rfl⟩ | ⟨u, hu, rfl, rfl⟩)
  · have hk2 := hkk k0 hk
    refine ⟨Nat.zero_le _, ?_⟩
    cbv
    rw [hk2]; cbv
    exact hQ _ _ trivial (hfin _ (by cbv))
  have hcHu := hcH u hu
  generalize u.post = X at hcHu ⊢
  refine ⟨Nat.zero_le _, ?_⟩
  cbv
  rw [hk0]; cbv
  refine .inr (hcn ⟨_, [], _, hcHu, .inl ⟨rfl, by cbv⟩, ?_⟩)
  rintro _ _ ⟨x0, hx0, rfl, rfl⟩
  obtain ⟨b2, rfl⟩ := isB_of hx0
  refine ⟨Nat.zero_le _, ?_⟩
  cbv
  cases b2
  · cbv
    exact hQ _ _ trivial (hfin _ (by cbv))
  cbv
  exact hQ _ _ trivial (hfin _ (by cbv))
theorem rcheck_n (g : GramT) (hg : GB g) : NCalls Try.prog 51 [.ro (g.rules.map ruleC)] (RS isII) := by
  have hcR := fun i h0 h1 => rule_n g hg i h0 h1
  have hl := hg.rl
  clear hg
  have hRl : lenE (g.rules.map ruleC) = (g.rules.length : Int) := len_map _ _
  generalize g.rules.length = ln at *
  generalize g.rules.map ruleC = R at *
  refine ncalls_symN tabF_ok fn51 rfl rfl rfl (by kernel_rfl) ?_
  have hfin : ∀ st, shOk isII (resA Try.prog Try.f51 st) = true → ∃ val rows, RS isII val rows ∧ G.Leaves Try.prog Try.f51 val rows st := fun st h => rs_leaves h
  rintro N hN ⟨lt, le, eq, se, ar, dv, una, conv, len, sln, nat, nth, ixs, cel, sto, app, cpy, slc, mak, ixv, oth, dk, ib, call⟩ hS hm Q hQ
  obtain ⟨hlt, hle, heq, hse, har, hdv, huna, hconv, hlen, hsln, hnat, hnth, hixs, hcel, hsto, happ, hcpy, hslc, hmak, hixv, hoth, hdk, hib, hcall⟩ := Sym.mk.inj hS
  clear hS
  have hnt : ∀ n : Nat, nat n = U.natI n := fun n => by rw [hnat]; rfl
  have hbox : ∀ e c off, cel (some ⟨e, [c]⟩) 0 off = if off ≤ c.length then some (c.drop off) else none := fun e c off => by rw [hcel]; rfl
  have hsbox : ∀ e c off sz y, sto (some ⟨e, [c]⟩) 0 off sz y = if y.cells.length = sz ∧ off + sz ≤ c.length ∧ y.cells.all AV.one = true then some ⟨e, [spl c off y.cells]⟩ else none := fun e c off sz y => by rw [hsto]; rfl
  have hcaw : ∀ {f args T base K}, CallK Try.prog f args T base K → call f args T base K := fun h => by rw [hcall]; exact h
  have hcal : ∀ {f args T base} {K : AV → Table → List Nat → List Nat → Prop}, (∃ args' ids val rows, Hands T ids args args' (val base) (rows base) ∧ ACalls Try.prog f args' val rows ∧ (rows base).length ≤ 8 ∧ K (val base) (adopt T base (rows base)) ids ((List.range (rows base).length).map (base + ·))) → call f args T base K := fun h => hcaw (call_own h)
  have hcn : ∀ {f args T base} {K : AV → Table → Prop}, CallN Try.prog T base f args K → N f args T base K := fun h => by rw [hN]; exact h
  have hsx : ∀ (s : ByteArray) (i : Int), s.size ≤ 1000000 → 0 ≤ i → lt i (sln s) = true → ∃ v, ixv 9 (.flat (.string s)) (.flat (.int .i64 i)) = some (.flat (.int .u8 v)) ∧ 0 ≤ v ∧ v < 256 ∧ ar .add .i64 i 1 = i + 1 ∧ 0 ≤ i + 1 ∧ (s.size - (i + 1).toNat < s.size - i.toNat) ∧ i < s.size := fun s i hs h0 hc => by
    rw [hlt, hsln] at hc
    rw [hixv, har]
    exact ix_next s hs h0 hc
  have hrx : ∀ (X : List (List AV)) (sz : Nat) (i : Int), (∀ c ∈ X, c.length = sz) → X.length ≤ 1000000 → 0 ≤ i → lt i (len X) = true → ∃ c ∈ X, nth X i sz = some (.rp c) ∧ ar .add .i64 i 1 = i + 1 ∧ 0 ≤ i + 1 ∧ (X.length - (i + 1).toNat < X.length - i.toNat) ∧ i < X.length := fun X sz i hX hl h0 hc => by
    rw [hlt, hlen] at hc
    rw [hnth, har]
    exact row_next X hX hl h0 hc
  have hst : ∀ a : Int, 0 ≤ a → lt a (len R) = true → NCalls Try.prog 60 [.ro R, .flat (.int .i64 a)] (RS isI) ∧ ar .add .i64 a 1 = a + 1 ∧ 0 ≤ a + 1 ∧ ((ln : Int) - (a + 1)).toNat < ((ln : Int) - a).toNat := fun a q0 hc => by
    rw [hlt, hlen, hRl] at hc
    have hc := of_decide_eq_true hc
    exact ⟨hcR a q0 hc, by rw [har, ar_add64 (by omega) (by omega)], by omega, by omega⟩
  have hz0 : (0 : Int) ≤ 0 := Int.le_refl 0
  generalize (ln : Int) = lI at hst
  clear hcR hl hRl
  cbv
  cases e1 : lt 60 (len R)
  rotate_left
  · cbv
    exact hQ _ _ trivial (hfin _ (by cbv))
  cbv
  refine MW_loop hm [] [0, 4] 5 (by simp) (fun mz st => ∃ (a : Int), 0 ≤ a ∧ mz = (lI - a).toNat ∧ st = stOf [.ro R, .dead, .dead, .dead, .flat (.int .i64 a)] [] 0) ((lI - 0).toNat) ?_ ?_
  · exact ⟨0, hz0, rfl, cut_eq (by cbv) (by rfl)⟩
  rintro mz st ⟨a, ha, hmz, rfl⟩
  cases hc : lt a (len R)
  · cbv
    rw [hc]; cbv
    exact hQ _ _ trivial (hfin _ (by cbv))
  obtain ⟨q1, q2, q3, q4⟩ := hst a ha hc
  generalize a + 1 = a2 at q2 q3 q4
  cbv
  rw [hc]; cbv
  refine .inr (hcn ⟨_, [], _, q1, .inl ⟨rfl, by cbv⟩, ?_⟩)
  rintro _ _ ⟨x0, hx0, rfl, rfl⟩
  obtain ⟨v, rfl⟩ := isI_of hx0
  refine ⟨Nat.zero_le _, ?_⟩
  cbv
  cases e2 : eq v 0
  · cbv
    exact hQ _ _ trivial (hfin _ (by cbv))
  cbv
  rw [q2]
  exact ⟨[], [0, 4], 5, (lI - a2).toNat, hmz ▸ q4, by simp, a2, q3, rfl, cut_eq (by cbv) (by rfl)⟩
theorem check_n (g : GramT) (hg : GB g) : NCalls Try.prog 36 [gramV g] (RS isIII) := by
  have hc0 := rcheck_n g hg
  have hcS := fun i h0 h1 => sort_n g hg i h0 h1
  have hcD := fun i h0 h1 => prod_n g hg i h0 h1
  have hcV := fun i h0 h1 => level_n g hg i h0 h1
  have hsl := hg.sl
  have hpl := hg.pl
  have hll := hg.ll
  have hSl : lenE (g.sorts.map strC) = (g.sorts.length : Int) := len_map _ _
  have hDl : lenE (g.prods.map prodC) = (g.prods.length : Int) := len_map _ _
  have hVl : lenE (g.levels.map levC) = (g.levels.length : Int) := len_map _ _
  clear hg
  unfold gramV gramL at *
  generalize g.sorts.length = sl at *
  generalize g.prods.length = pl at *
  generalize g.levels.length = ll at *
  generalize g.rules.map ruleC = R at *
  generalize g.sorts.map strC = S at *
  generalize g.prods.map prodC = D at *
  generalize g.levels.map levC = V at *
  generalize g.start = start at *
  refine ncalls_symN tabF_ok fn36 rfl rfl rfl (by kernel_rfl) ?_
  have hfin : ∀ st, shOk isIII (resA Try.prog Try.f36 st) = true → ∃ val rows, RS isIII val rows ∧ G.Leaves Try.prog Try.f36 val rows st := fun st h => rs_leaves h
  rintro N hN ⟨lt, le, eq, se, ar, dv, una, conv, len, sln, nat, nth, ixs, cel, sto, app, cpy, slc, mak, ixv, oth, dk, ib, call⟩ hS hm Q hQ
  obtain ⟨hlt, hle, heq, hse, har, hdv, huna, hconv, hlen, hsln, hnat, hnth, hixs, hcel, hsto, happ, hcpy, hslc, hmak, hixv, hoth, hdk, hib, hcall⟩ := Sym.mk.inj hS
  clear hS
  have hnt : ∀ n : Nat, nat n = U.natI n := fun n => by rw [hnat]; rfl
  have hbox : ∀ e c off, cel (some ⟨e, [c]⟩) 0 off = if off ≤ c.length then some (c.drop off) else none := fun e c off => by rw [hcel]; rfl
  have hsbox : ∀ e c off sz y, sto (some ⟨e, [c]⟩) 0 off sz y = if y.cells.length = sz ∧ off + sz ≤ c.length ∧ y.cells.all AV.one = true then some ⟨e, [spl c off y.cells]⟩ else none := fun e c off sz y => by rw [hsto]; rfl
  have hcaw : ∀ {f args T base K}, CallK Try.prog f args T base K → call f args T base K := fun h => by rw [hcall]; exact h
  have hcal : ∀ {f args T base} {K : AV → Table → List Nat → List Nat → Prop}, (∃ args' ids val rows, Hands T ids args args' (val base) (rows base) ∧ ACalls Try.prog f args' val rows ∧ (rows base).length ≤ 8 ∧ K (val base) (adopt T base (rows base)) ids ((List.range (rows base).length).map (base + ·))) → call f args T base K := fun h => hcaw (call_own h)
  have hcn : ∀ {f args T base} {K : AV → Table → Prop}, CallN Try.prog T base f args K → N f args T base K := fun h => by rw [hN]; exact h
  have hsx : ∀ (s : ByteArray) (i : Int), s.size ≤ 1000000 → 0 ≤ i → lt i (sln s) = true → ∃ v, ixv 9 (.flat (.string s)) (.flat (.int .i64 i)) = some (.flat (.int .u8 v)) ∧ 0 ≤ v ∧ v < 256 ∧ ar .add .i64 i 1 = i + 1 ∧ 0 ≤ i + 1 ∧ (s.size - (i + 1).toNat < s.size - i.toNat) ∧ i < s.size := fun s i hs h0 hc => by
    rw [hlt, hsln] at hc
    rw [hixv, har]
    exact ix_next s hs h0 hc
  have hrx : ∀ (X : List (List AV)) (sz : Nat) (i : Int), (∀ c ∈ X, c.length = sz) → X.length ≤ 1000000 → 0 ≤ i → lt i (len X) = true → ∃ c ∈ X, nth X i sz = some (.rp c) ∧ ar .add .i64 i 1 = i + 1 ∧ 0 ≤ i + 1 ∧ (X.length - (i + 1).toNat < X.length - i.toNat) ∧ i < X.length := fun X sz i hX hl h0 hc => by
    rw [hlt, hlen] at hc
    rw [hnth, har]
    exact row_next X hX hl h0 hc
  have stS : ∀ a : Int, 0 ≤ a → lt a (len S) = true → NCalls Try.prog 52 [.agg [.ro R, .ro S, .ro D, .ro V, .flat (.int .i64 start)], .flat (.int .i64 a)] (RS isI) ∧ ar .add .i64 a 1 = a + 1 ∧ 0 ≤ a + 1 ∧ ((sl : Int) - (a + 1)).toNat < ((sl : Int) - a).toNat := fun a q0 hc => by
    rw [hlt, hlen, hSl] at hc
    have hc := of_decide_eq_true hc
    exact ⟨hcS a q0 hc, by rw [har, ar_add64 (by omega) (by omega)], by omega, by omega⟩
  have stD : ∀ a : Int, 0 ≤ a → lt a (len D) = true → NCalls Try.prog 53 [.agg [.ro R, .ro S, .ro D, .ro V, .flat (.int .i64 start)], .flat (.int .i64 a)] (RS isI) ∧ ar .add .i64 a 1 = a + 1 ∧ 0 ≤ a + 1 ∧ ((pl : Int) - (a + 1)).toNat < ((pl : Int) - a).toNat := fun a q0 hc => by
    rw [hlt, hlen, hDl] at hc
    have hc := of_decide_eq_true hc
    exact ⟨hcD a q0 hc, by rw [har, ar_add64 (by omega) (by omega)], by omega, by omega⟩
  have stV : ∀ a : Int, 0 ≤ a → lt a (len V) = true → NCalls Try.prog 54 [.agg [.ro R, .ro S, .ro D, .ro V, .flat (.int .i64 start)], .flat (.int .i64 a)] (RS isI) ∧ ar .add .i64 a 1 = a + 1 ∧ 0 ≤ a + 1 ∧ ((ll : Int) - (a + 1)).toNat < ((ll : Int) - a).toNat := fun a q0 hc => by
    rw [hlt, hlen, hVl] at hc
    have hc := of_decide_eq_true hc
    exact ⟨hcV a q0 hc, by rw [har, ar_add64 (by omega) (by omega)], by omega, by omega⟩
  have hz0 : (0 : Int) ≤ 0 := Int.le_refl 0
  generalize (sl : Int) = slI at stS
  generalize (pl : Int) = plI at stD
  generalize (ll : Int) = llI at stV
  clear hcS hcD hcV hsl hpl hll hSl hDl hVl
  cbv
  repeat (first | (rw [hbox]; cbv) | (rw [hsbox]; cbv))
  refine .inr (hcn ⟨_, [], _, hc0, .inl ⟨rfl, by cbv⟩, ?_⟩)
  rintro _ _ ⟨x0, hx0, rfl, rfl⟩
  obtain ⟨p0, w0, rfl⟩ := isII_of hx0
  refine ⟨Nat.zero_le _, ?_⟩
  cbv
  cases e0 : eq w0 0
  · cbv
    exact hQ _ _ trivial (hfin _ (by cbv))
  cbv
  repeat (first | (rw [hbox]; cbv))
  cases e1 : lt 300 (len S)
  rotate_left
  · cbv
    refine ⟨by rw [hdk]; kernel_rfl, ?_⟩
    repeat (first | (rw [hbox]; cbv))
    refine ⟨by rw [hib]; kernel_rfl, ?_⟩
    cbv
    exact hQ _ _ trivial (hfin _ (by cbv))
  cbv
  refine MW_loop hm [0] [1, 7] 8 (by simp) (fun mz st => ∃ (a : Int), 0 ≤ a ∧ mz = (slI - a).toNat ∧ st = stOf [.dead, .ptr 0 0 0, .dead, .dead, .dead, .dead, .dead, .flat (.int .i64 a)] [some ⟨39, [[.ro R, .ro S, .ro D, .ro V, .flat (.int .i64 start)]]⟩] 1) ((slI - 0).toNat) ?_ ?_
  · exact ⟨0, hz0, rfl, cut_eq (by cbv) (cutRows_cons (by rfl) (by simp [closedAll, closedIn]) rfl)⟩
  rintro mz st ⟨a, ha, hmz, rfl⟩
  cases hc : lt a (len S)
  rotate_left
  · obtain ⟨q1, q2, q3, q4⟩ := stS a ha hc
    generalize a + 1 = a2 at q2 q3 q4
    cbv
    repeat (first | (rw [hbox]; cbv))
    rw [hc]; cbv
    repeat (first | (rw [hbox]; cbv))
    refine .inr (hcn ⟨_, [], _, q1, .inl ⟨rfl, by cbv⟩, ?_⟩)
    rintro _ _ ⟨x0, hx0, rfl, rfl⟩
    obtain ⟨v, rfl⟩ := isI_of hx0
    refine ⟨Nat.zero_le _, ?_⟩
    cbv
    cases e2 : eq v 0
    · cbv
      exact hQ _ _ trivial (hfin _ (by cbv))
    cbv
    rw [q2]
    exact ⟨[0], [1, 7], 8, (slI - a2).toNat, hmz ▸ q4, by simp, a2, q3, rfl, cut_eq (by cbv) (cutRows_cons (by rfl) (by simp [closedAll, closedIn]) rfl)⟩
  cbv
  repeat (first | (rw [hbox]; cbv))
  rw [hc]; cbv
  repeat (first | (rw [hbox]; cbv))
  cases e3 : lt 200 (len D)
  rotate_left
  · cbv
    refine ⟨by rw [hdk]; kernel_rfl, ?_⟩
    repeat (first | (rw [hbox]; cbv))
    refine ⟨by rw [hib]; kernel_rfl, ?_⟩
    cbv
    exact hQ _ _ trivial (hfin _ (by cbv))
  cbv
  refine MW_loop hm [0] [1, 9] 10 (by simp) (fun mz st => ∃ (a : Int), 0 ≤ a ∧ mz = (plI - a).toNat ∧ st = stOf [.dead, .ptr 0 0 0, .dead, .dead, .dead, .dead, .dead, .dead, .dead, .flat (.int .i64 a)] [some ⟨39, [[.ro R, .ro S, .ro D, .ro V, .flat (.int .i64 start)]]⟩] 1) ((plI - 0).toNat) ?_ ?_
  · exact ⟨0, hz0, rfl, cut_eq (by cbv) (cutRows_cons (by rfl) (by simp [closedAll, closedIn]) rfl)⟩
  rintro mb st ⟨a, ha, hmb, rfl⟩
  cases hc : lt a (len D)
  rotate_left
  · obtain ⟨q1, q2, q3, q4⟩ := stD a ha hc
    generalize a + 1 = a2 at q2 q3 q4
    cbv
    repeat (first | (rw [hbox]; cbv))
    rw [hc]; cbv
    repeat (first | (rw [hbox]; cbv))
    refine .inr (hcn ⟨_, [], _, q1, .inl ⟨rfl, by cbv⟩, ?_⟩)
    rintro _ _ ⟨x0, hx0, rfl, rfl⟩
    obtain ⟨v, rfl⟩ := isI_of hx0
    refine ⟨Nat.zero_le _, ?_⟩
    cbv
    cases e2 : eq v 0
    · cbv
      exact hQ _ _ trivial (hfin _ (by cbv))
    cbv
    rw [q2]
    exact ⟨[0], [1, 9], 10, (plI - a2).toNat, hmb ▸ q4, by simp, a2, q3, rfl, cut_eq (by cbv) (cutRows_cons (by rfl) (by simp [closedAll, closedIn]) rfl)⟩
  cbv
  repeat (first | (rw [hbox]; cbv))
  rw [hc]; cbv
  repeat (first | (rw [hbox]; cbv))
  refine MW_loop hm [0] [1, 11] 12 (by simp) (fun mz st => ∃ (a : Int), 0 ≤ a ∧ mz = (llI - a).toNat ∧ st = stOf [.dead, .ptr 0 0 0, .dead, .dead, .dead, .dead, .dead, .dead, .dead, .dead, .dead, .flat (.int .i64 a)] [some ⟨39, [[.ro R, .ro S, .ro D, .ro V, .flat (.int .i64 start)]]⟩] 1) ((llI - 0).toNat) ?_ ?_
  · exact ⟨0, hz0, rfl, cut_eq (by cbv) (cutRows_cons (by rfl) (by simp [closedAll, closedIn]) rfl)⟩
  rintro mc st ⟨a, ha, hmc, rfl⟩
  cases hc : lt a (len V)
  rotate_left
  · obtain ⟨q1, q2, q3, q4⟩ := stV a ha hc
    generalize a + 1 = a2 at q2 q3 q4
    cbv
    repeat (first | (rw [hbox]; cbv))
    rw [hc]; cbv
    repeat (first | (rw [hbox]; cbv))
    refine .inr (hcn ⟨_, [], _, q1, .inl ⟨rfl, by cbv⟩, ?_⟩)
    rintro _ _ ⟨x0, hx0, rfl, rfl⟩
    obtain ⟨v, rfl⟩ := isI_of hx0
    refine ⟨Nat.zero_le _, ?_⟩
    cbv
    cases e2 : eq v 0
    · cbv
      exact hQ _ _ trivial (hfin _ (by cbv))
    cbv
    rw [q2]
    exact ⟨[0], [1, 11], 12, (llI - a2).toNat, hmc ▸ q4, by simp, a2, q3, rfl, cut_eq (by cbv) (cutRows_cons (by rfl) (by simp [closedAll, closedIn]) rfl)⟩
  cbv
  repeat (first | (rw [hbox]; cbv))
  rw [hc]; cbv
  repeat (first | (rw [hbox]; cbv))
  cases e4 : lt start 0
  rotate_left
  · cbv
    exact hQ _ _ trivial (hfin _ (by cbv))
  cbv
  repeat (first | (rw [hbox]; cbv))
  cases e5 : le (len S) start
  rotate_left
  · cbv
    exact hQ _ _ trivial (hfin _ (by cbv))
  cbv
  exact hQ _ _ trivial (hfin _ (by cbv))
end Go.Proofs.Ytnceadbfgpiaaaa.N
