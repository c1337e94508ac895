/- N7, N8, one behind the other. -/
import Derived.Test.YtnceadbfgpiaaaaQ14
import Derived.Test.YtnceadbfgpiaaaaQ8
/- Contracts: bosketref03.Byte, Read. -/
namespace Go.Proofs.Ytnceadbfgpiaaaa.N
open Go G U K I J F
set_option linter.unusedVariables false
set_option linter.unusedSimpArgs false
set_option maxRecDepth 100000
set_option maxHeartbeats 4000000
theorem fn88 : Try.prog.funcs[88]? = some Try.f88 := by kernel_rfl
theorem fn86 : Try.prog.funcs[86]? = some Try.f86 := by kernel_rfl
theorem u70 : Try.prog.underlying 70 = some (.slice 5) := by kernel_rfl
theorem u5 : Try.prog.underlying 5 = some (.int .u8) := by kernel_rfl
theorem z5 : tinfo Try.prog 5 = some (some (.int .u8 0), 1, 1) := by kernel_rfl
theorem c5 : Try.prog.cellsOf 5 = 1 := by kernel_rfl
theorem dv_cat (s t : ByteArray) (h : s.size + t.size ≤ 1000000000) : dvOf Try.prog .add 9 (.flat (.string s)) (.flat (.string t)) = some (.flat (.string (s ++ t))) := by
  rw [dvOf_eq]
  intro x y
  have e : evPure Try.prog (Op.stringOp .add s t) = some (.string (s ++ t)) := by
    unfold Op.stringOp
    have h2 : ¬ ((s.size + t.size : Nat) : Int) > IntKind.i64.max := by
      have : IntKind.i64.max = 9223372036854775807 := rfl
      omega
    simp only
    rw [if_neg h2]; rfl
  show evP Try.prog _ = _
  unfold evP
  have e2 : (evPure Try.prog (do eqGuard .add 9 x y (.string s) (.string t); binOp .add 9 (.string s) (.string t))) = some (.string (s ++ t)) := e
  rw [e2]; rfl
theorem quo5 (a : Int) (h0 : 0 ≤ a) (h1 : a < 256) : dvOf Try.prog .quo 5 (.flat (.int .u8 a)) (.flat (.int .u8 16)) = some (.flat (.int .u8 (a / 16))) := by
  rw [dvOf_eq]
  intro x y
  have e : evPure Try.prog (Op.intDiv .quo .u8 a 16) = some (.int .u8 (IntKind.u8.wrap (a.tdiv 16))) := by
    unfold Op.intDiv
    rw [if_neg (by decide)]
    rfl
  have e2 : (evPure Try.prog (do eqGuard .quo 5 x y (.int .u8 a) (.int .u8 16); binOp .quo 5 (.int .u8 a) (.int .u8 16))) = some (.int .u8 (IntKind.u8.wrap (a.tdiv 16))) := e
  have e3 : IntKind.u8.wrap (a.tdiv 16) = a / 16 := by
    rw [Int.tdiv_eq_ediv_of_nonneg h0]
    show (a / 16) % 256 = _
    omega
  show evP Try.prog _ = _
  unfold evP
  rw [e2, e3]
  rfl
theorem rem5 (a : Int) (h0 : 0 ≤ a) (h1 : a < 256) : dvOf Try.prog .rem 5 (.flat (.int .u8 a)) (.flat (.int .u8 16)) = some (.flat (.int .u8 (a % 16))) := by
  rw [dvOf_eq]
  intro x y
  have e : evPure Try.prog (Op.intDiv .rem .u8 a 16) = some (.int .u8 (a.tmod 16)) := by
    unfold Op.intDiv
    rw [if_neg (by decide)]
    rfl
  have e2 : (evPure Try.prog (do eqGuard .rem 5 x y (.int .u8 a) (.int .u8 16); binOp .rem 5 (.int .u8 a) (.int .u8 16))) = some (.int .u8 (a.tmod 16)) := e
  show evP Try.prog _ = _
  unfold evP
  rw [e2, Int.tmod_eq_emod_of_nonneg h0]
  rfl
theorem ar_u8 (a : Int) (h0 : 0 ≤ a) (h1 : a < 255) : arI .add .u8 a 1 = a + 1 := by
  show (a + 1) % 256 = a + 1
  omega
theorem slc_txt (T : Table) (s : ByteArray) (k : IntKind) (l h : Int) (h0 : 0 ≤ l) (h1 : l ≤ h) (h2 : h ≤ s.size) : evSlice Try.prog T 9 (.flat (.string s)) (some (.flat (.int k l))) (some (.flat (.int k h))) = some (.flat (.string (s.extract l.toNat h.toNat))) := by
  simp only [evSlice, u9]
  rw [bnd_both h0 h1 h2]; rfl
theorem slc_head (T : Table) (s : ByteArray) (k : IntKind) (h : Int) (h0 : 0 ≤ h) (h2 : h ≤ s.size) : evSlice Try.prog T 9 (.flat (.string s)) none (some (.flat (.int k h))) = some (.flat (.string (s.extract 0 h.toNat))) := by
  simp only [evSlice, u9]
  rw [bnd_hi h0 h2]; rfl
theorem conv_one (T : Table) (id : Nat) (c : Int) (hT : T id = some ⟨5, [[.flat (.int .u8 c)]]⟩) : evBytes Try.prog T 70 9 (.sl id 0 1) = some (.flat (.string ⟨⟨[UInt8.ofNat c.toNat]⟩⟩)) := by
  have hs : srcEls T (.sl id 0 1) = some [[.flat (.int .u8 c)]] := by simp [srcEls, hT]
  have hf : srcFit Try.prog T 1 (.sl id 0 1) = true := by simp [srcFit, hT, c5]
  simp only [evBytes, u70, u9, u5, z5, hf, if_true, hs, Option.bind_some]
  rfl
def isS : AV → Bool
  | .flat (.string _) => true
  | _ => false
theorem isS_of {x : AV} (h : isS x = true) : ∃ s, x = .flat (.string s) := by
  unfold isS at h
  split at h
  · exact ⟨_, rfl⟩
  · cases h
/-- Words on texts: pieces, two put together. -/
theorem txt_words : ∃ f : ByteArray → Int → Int → ByteArray, ∃ g : ByteArray → ByteArray → ByteArray, (∀ (T : Table) (s : ByteArray) (k : IntKind) (l h : Int), s.size = 16 → 0 ≤ l → l ≤ h → h ≤ 16 → evSlice Try.prog T 9 (.flat (.string s)) (some (.flat (.int k l))) (some (.flat (.int k h))) = some (.flat (.string (f s l h)))) ∧
    (∀ s l h, s.size = 16 → (f s l h).size ≤ 16) ∧ (∀ a b, a.size + b.size ≤ 1000000000 → dvOf Try.prog .add 9 (.flat (.string a)) (.flat (.string b)) = some (.flat (.string (g a b)))) ∧ ∀ a b, (g a b).size = a.size + b.size := by
  refine ⟨fun s l h => s.extract l.toNat h.toNat, fun a b => a ++ b, fun T s k l h e h0 h1 h2 => slc_txt T s k l h h0 h1 (by omega), fun s l h e => ?_, fun a b h => dv_cat a b h, fun a b => ByteArray.size_append⟩
  show (s.extract l.toNat h.toNat).size ≤ 16
  rw [ByteArray.size_extract]
  omega
def dig : ByteArray := ⟨⟨[48, 49, 50, 51, 52, 53, 54, 55, 56, 57, 97, 98, 99, 100, 101, 102]⟩⟩
def bsx : ByteArray := ⟨⟨[92, 120]⟩⟩
def bsl : ByteArray := ⟨⟨[92]⟩⟩
/-- A byte's two digits, as they are put together. -/
theorem hex_words (k : IntKind) (a b : Int) (a0 : 0 ≤ a) (a1 : a < 16) (b0 : 0 ≤ b) (b1 : b < 16) : ∃ s1 s2 s3 s4 : ByteArray, (∀ T, evSlice Try.prog T 9 (.flat (.string dig)) (some (.flat (.int k a))) (some (.flat (.int k (a + 1)))) = some (.flat (.string s1))) ∧ dvOf Try.prog .add 9 (.flat (.string bsx)) (.flat (.string s1)) = some (.flat (.string s2)) ∧
    (∀ T, evSlice Try.prog T 9 (.flat (.string dig)) (some (.flat (.int k b))) (some (.flat (.int k (b + 1)))) = some (.flat (.string s3))) ∧ dvOf Try.prog .add 9 (.flat (.string s2)) (.flat (.string s3)) = some (.flat (.string s4)) := by
  obtain ⟨f, g, h1, h2, h3, h4⟩ := txt_words
  have hd : dig.size = 16 := rfl
  have hb : bsx.size = 2 := rfl
  have := h2 dig a (a + 1) hd
  have := h2 dig b (b + 1) hd
  have := h4 bsx (f dig a (a + 1))
  exact ⟨f dig a (a + 1), g bsx (f dig a (a + 1)), f dig b (b + 1), _, fun T => h1 T dig k a (a + 1) hd a0 (by omega) (by omega), h3 _ _ (by omega), fun T => h1 T dig k b (b + 1) hd b0 (by omega) (by omega), h3 _ _ (by omega)⟩
theorem byte_n (c : Int) (o : ByteArray) (h0 : 0 ≤ c) (h1 : c < 256) (ho : o.size ≤ 1000000) : NCalls Try.prog 88 [.flat (.int .u8 c), .flat (.string o)] (RS isS) := by
  have hcI := in3_n o c ho
  obtain ⟨s1, s2, s3, s4, w1, w2, w3, w4⟩ := hex_words .u8 (c / 16) (c % 16) (by omega) (by omega) (by omega) (by omega)
  have hq := quo5 c h0 h1
  have hr := rem5 c h0 h1
  have ha := ar_u8 (c / 16) (by omega) (by omega)
  have hb := ar_u8 (c % 16) (by omega) (by omega)
  obtain ⟨s5, hs5⟩ : ∃ s5, dvOf Try.prog .add 9 (.flat (.string bsl)) (.flat (.string ⟨⟨[UInt8.ofNat c.toNat]⟩⟩)) = some (.flat (.string s5)) := ⟨_, dv_cat bsl ⟨⟨[UInt8.ofNat c.toNat]⟩⟩ (by show 1 + 1 ≤ 1000000000; omega)⟩
  obtain ⟨s6, hs6⟩ : ∃ s6 : ByteArray, s6 = ⟨⟨[UInt8.ofNat c.toNat]⟩⟩ := ⟨_, rfl⟩
  rw [← hs6] at hs5
  have hcv : ∀ (T : Table) id, T id = some ⟨5, [[.flat (.int .u8 c)]]⟩ → evBytes Try.prog T 70 9 (.sl id 0 1) = some (.flat (.string s6)) := fun T id h => hs6 ▸ conv_one T id c h
  clear hs6 h0 h1
  generalize c / 16 + 1 = q1 at *
  generalize c % 16 + 1 = r1 at *
  generalize c / 16 = q at *
  generalize c % 16 = r at *
  unfold dig at w1 w3
  unfold bsx at w2
  unfold bsl at hs5
  refine ncalls_symN tabF_ok fn88 rfl rfl rfl (by kernel_rfl) ?_
  have hfin : ∀ st, shOk isS (resA Try.prog Try.f88 st) = true → ∃ val rows, RS isS val rows ∧ G.Leaves Try.prog Try.f88 val rows st := fun st h => rs_leaves h
  rintro N hN ⟨lt, le, eq, se, ar, dv, una, conv, len, sln, nat, nth, ixs, cel, sto, app, cpy, slc, mak, ixv, oth, dk, ib, call⟩ hS hm Q hQ
  obtain ⟨hlt, hle, heq, hse, har, hdv, huna, hconv, hlen, hsln, hnat, hnth, hixs, hcel, hsto, happ, hcpy, hslc, hmak, hixv, hoth, hdk, hib, hcall⟩ := Sym.mk.inj hS
  clear hS
  have hnt : ∀ n : Nat, nat n = U.natI n := fun n => by rw [hnat]; rfl
  have hbox : ∀ e c off, cel (some ⟨e, [c]⟩) 0 off = if off ≤ c.length then some (c.drop off) else none := fun e c off => by rw [hcel]; rfl
  have hsbox : ∀ e c off sz y, sto (some ⟨e, [c]⟩) 0 off sz y = if y.cells.length = sz ∧ off + sz ≤ c.length ∧ y.cells.all AV.one = true then some ⟨e, [spl c off y.cells]⟩ else none := fun e c off sz y => by rw [hsto]; rfl
  have hcaw : ∀ {f args T base K}, CallK Try.prog f args T base K → call f args T base K := fun h => by rw [hcall]; exact h
  have hcal : ∀ {f args T base} {K : AV → Table → List Nat → List Nat → Prop}, (∃ args' ids val rows, Hands T ids args args' (val base) (rows base) ∧ ACalls Try.prog f args' val rows ∧ (rows base).length ≤ 8 ∧ K (val base) (adopt T base (rows base)) ids ((List.range (rows base).length).map (base + ·))) → call f args T base K := fun h => hcaw (call_own h)
  have hcn : ∀ {f args T base} {K : AV → Table → Prop}, CallN Try.prog T base f args K → N f args T base K := fun h => by rw [hN]; exact h
  have hsx : ∀ (s : ByteArray) (i : Int), s.size ≤ 1000000 → 0 ≤ i → lt i (sln s) = true → ∃ v, ixv 9 (.flat (.string s)) (.flat (.int .i64 i)) = some (.flat (.int .u8 v)) ∧ 0 ≤ v ∧ v < 256 ∧ ar .add .i64 i 1 = i + 1 ∧ 0 ≤ i + 1 ∧ (s.size - (i + 1).toNat < s.size - i.toNat) ∧ i < s.size := fun s i hs h0 hc => by
    rw [hlt, hsln] at hc
    rw [hixv, har]
    exact ix_next s hs h0 hc
  have hrx : ∀ (X : List (List AV)) (sz : Nat) (i : Int), (∀ c ∈ X, c.length = sz) → X.length ≤ 1000000 → 0 ≤ i → lt i (len X) = true → ∃ c ∈ X, nth X i sz = some (.rp c) ∧ ar .add .i64 i 1 = i + 1 ∧ 0 ≤ i + 1 ∧ (X.length - (i + 1).toNat < X.length - i.toNat) ∧ i < X.length := fun X sz i hX hl h0 hc => by
    rw [hlt, hlen] at hc
    rw [hnth, har]
    exact row_next X hX hl h0 hc
  rw [← hslc] at w1 w3
  rw [← hdv] at w2 w4 hq hr hs5
  rw [← har] at ha hb
  have hcv : ∀ (T : Table) id, T id = some ⟨5, [[.flat (.int .u8 c)]]⟩ → conv T 70 9 (.sl id 0 1) = some (.flat (.string s6)) := fun T id h => by rw [hconv]; exact hcv T id h
  cases e1 : eq c 10
  rotate_left
  · cbv
    rw [e1]; cbv
    exact hQ _ _ trivial (hfin _ (by cbv))
  cases e2 : eq c 9
  rotate_left
  · cbv
    rw [e1]; cbv
    rw [e2]; cbv
    exact hQ _ _ trivial (hfin _ (by cbv))
  cases e3 : eq c 13
  rotate_left
  · cbv
    rw [e1]; cbv
    rw [e2]; cbv
    rw [e3]; cbv
    exact hQ _ _ trivial (hfin _ (by cbv))
  cases e4 : lt c 32
  rotate_left
  · cbv
    rw [e1]; cbv
    rw [e2]; cbv
    rw [e3]; cbv
    rw [e4]; cbv
    refine ⟨by rw [hdk]; kernel_rfl, ?_⟩
    rw [hq]; cbv
    rw [hq]; cbv
    rw [ha]; cbv
    rw [w1]; cbv
    rw [w2]; cbv
    rw [hr]; cbv
    rw [hr]; cbv
    rw [hb]; cbv
    rw [w3]; cbv
    rw [w4]; cbv
    refine ⟨by rw [hib]; kernel_rfl, ?_⟩
    cbv
    exact hQ _ _ trivial (hfin _ (by cbv))
  cases e5 : lt 126 c
  rotate_left
  · cbv
    rw [e1]; cbv
    rw [e2]; cbv
    rw [e3]; cbv
    rw [e4]; cbv
    rw [e5]; cbv
    refine ⟨by rw [hdk]; kernel_rfl, ?_⟩
    rw [hq]; cbv
    rw [hq]; cbv
    rw [ha]; cbv
    rw [w1]; cbv
    rw [w2]; cbv
    rw [hr]; cbv
    rw [hr]; cbv
    rw [hb]; cbv
    rw [w3]; cbv
    rw [w4]; cbv
    refine ⟨by rw [hib]; kernel_rfl, ?_⟩
    cbv
    exact hQ _ _ trivial (hfin _ (by cbv))
  cases e6 : eq c 92
  rotate_left
  · cbv
    rw [e1]; cbv
    rw [e2]; cbv
    rw [e3]; cbv
    rw [e4]; cbv
    rw [e5]; cbv
    rw [e6]; cbv
    rw [hcv _ _ (by rfl)]; cbv
    rw [hs5]; cbv
    exact hQ _ _ trivial (hfin _ (by cbv))
  cbv
  rw [e1]; cbv
  rw [e2]; cbv
  rw [e3]; cbv
  rw [e4]; cbv
  rw [e5]; cbv
  rw [e6]; cbv
  refine .inr (hcn ⟨_, [], _, hcI, .inl ⟨rfl, by cbv⟩, ?_⟩)
  rintro _ _ ⟨x0, hx0, rfl, rfl⟩
  obtain ⟨b, rfl⟩ := isB_of hx0
  refine ⟨Nat.zero_le _, ?_⟩
  cbv
  cases b
  · cbv
    rw [hcv _ _ (by rfl)]; cbv
    exact hQ _ _ trivial (hfin _ (by cbv))
  cbv
  rw [hcv _ _ (by rfl)]; cbv
  rw [hs5]; cbv
  exact hQ _ _ trivial (hfin _ (by cbv))
def RRd (s : ByteArray) (val : Nat → AV) (rows : Nat → List Row) : Prop := ∃ (v n : Int) (ok : Bool), (0 ≤ v ∧ v < 256) ∧ (ok = true → 1 ≤ n ∧ n ≤ s.size) ∧ val = (fun _ => .tup [.flat (.int .u8 v), .flat (.int .i64 n), .flat (.bool ok)]) ∧ rows = fun _ => []
theorem rrd_leaves {P : Program} {fn : Func} {st : St} {s : ByteArray} {v n : Int} {ok : Bool} (hv : 0 ≤ v ∧ v < 256) (hn : ok = true → 1 ≤ n ∧ n ≤ s.size) (h : resA P fn st = some (.tup [.flat (.int .u8 v), .flat (.int .i64 n), .flat (.bool ok)])) : ∃ val rows, RRd s val rows ∧ G.Leaves P fn val rows st :=
  ⟨_, _, ⟨v, n, ok, hv, hn, rfl, rfl⟩, G.Leaves.plain h rfl⟩
def tx0 : ByteArray := ⟨⟨[]⟩⟩
theorem size_of_ne {s : ByteArray} (h : (s.toList == tx0.toList) = false) : 0 < s.size := by
  rcases Nat.eq_zero_or_pos s.size with h0 | h0
  · exfalso
    have : s = tx0 := by
      apply ByteArray.ext
      show s.data = ⟨[]⟩
      exact Array.eq_empty_of_size_eq_zero h0
    rw [this] at h
    simp at h
  · exact h0
theorem read_n (s : ByteArray) (hs : s.size ≤ 1000000) : NCalls Try.prog 86 [.flat (.string s)] (RRd s) := by
  have hcB := fun c h0 h1 => byte_n c tx0 h0 h1 (by decide)
  have hcW := word_n
  have hhex := fun c (h0 : 0 ≤ c) (h1 : c < 256) => hex_words .i64 (c / 16) (c % 16) (by omega) (by omega) (by omega) (by omega)
  unfold dig bsx at hhex
  unfold tx0 at hcB
  refine ncalls_symN tabF_ok fn86 rfl rfl rfl (by kernel_rfl) ?_
  rintro N hN ⟨lt, le, eq, se, ar, dv, una, conv, len, sln, nat, nth, ixs, cel, sto, app, cpy, slc, mak, ixv, oth, dk, ib, call⟩ hS hm Q hQ
  obtain ⟨hlt, hle, heq, hse, har, hdv, huna, hconv, hlen, hsln, hnat, hnth, hixs, hcel, hsto, happ, hcpy, hslc, hmak, hixv, hoth, hdk, hib, hcall⟩ := Sym.mk.inj hS
  clear hS
  have hnt : ∀ n : Nat, nat n = U.natI n := fun n => by rw [hnat]; rfl
  have hbox : ∀ e c off, cel (some ⟨e, [c]⟩) 0 off = if off ≤ c.length then some (c.drop off) else none := fun e c off => by rw [hcel]; rfl
  have hsbox : ∀ e c off sz y, sto (some ⟨e, [c]⟩) 0 off sz y = if y.cells.length = sz ∧ off + sz ≤ c.length ∧ y.cells.all AV.one = true then some ⟨e, [spl c off y.cells]⟩ else none := fun e c off sz y => by rw [hsto]; rfl
  have hcaw : ∀ {f args T base K}, CallK Try.prog f args T base K → call f args T base K := fun h => by rw [hcall]; exact h
  have hcal : ∀ {f args T base} {K : AV → Table → List Nat → List Nat → Prop}, (∃ args' ids val rows, Hands T ids args args' (val base) (rows base) ∧ ACalls Try.prog f args' val rows ∧ (rows base).length ≤ 8 ∧ K (val base) (adopt T base (rows base)) ids ((List.range (rows base).length).map (base + ·))) → call f args T base K := fun h => hcaw (call_own h)
  have hcn : ∀ {f args T base} {K : AV → Table → Prop}, CallN Try.prog T base f args K → N f args T base K := fun h => by rw [hN]; exact h
  have hsx : ∀ (s : ByteArray) (i : Int), s.size ≤ 1000000 → 0 ≤ i → lt i (sln s) = true → ∃ v, ixv 9 (.flat (.string s)) (.flat (.int .i64 i)) = some (.flat (.int .u8 v)) ∧ 0 ≤ v ∧ v < 256 ∧ ar .add .i64 i 1 = i + 1 ∧ 0 ≤ i + 1 ∧ (s.size - (i + 1).toNat < s.size - i.toNat) ∧ i < s.size := fun s i hs h0 hc => by
    rw [hlt, hsln] at hc
    rw [hixv, har]
    exact ix_next s hs h0 hc
  have hrx : ∀ (X : List (List AV)) (sz : Nat) (i : Int), (∀ c ∈ X, c.length = sz) → X.length ≤ 1000000 → 0 ≤ i → lt i (len X) = true → ∃ c ∈ X, nth X i sz = some (.rp c) ∧ ar .add .i64 i 1 = i + 1 ∧ 0 ≤ i + 1 ∧ (X.length - (i + 1).toNat < X.length - i.toNat) ∧ i < X.length := fun X sz i hX hl h0 hc => by
    rw [hlt, hlen] at hc
    rw [hnth, har]
    exact row_next X hX hl h0 hc
  rw [← hslc, ← hdv] at hhex
  have hix : ∀ (t : ByteArray) (i : Int), 0 ≤ i → i < t.size → ∃ v, ixv 9 (.flat (.string t)) (.flat (.int .i64 i)) = some (.flat (.int .u8 v)) ∧ (0 ≤ v ∧ v < 256) := fun t i h0 h1 => by
    rw [hixv]
    refine ⟨_, ix_str u9 h0 h1, by omega, ?_⟩
    have := UInt8.toNat_lt (t.data.toList.getD i.toNat 0)
    omega
  have hsh : ∀ h : Int, 0 ≤ h → h ≤ s.size → ∃ s2, ∀ T, slc T 9 (.flat (.string s)) none (some (.flat (.int .i64 h))) = some (.flat (.string s2)) := fun h h0 h1 => ⟨_, fun T => by rw [hslc]; exact slc_head T s .i64 h h0 h1⟩
  have hz0 : (0 : Int) ≤ 0 := Int.le_refl 0
  have hz1 : (0 : Int) ≤ 256 := by decide
  have hzz : (0 : Int) ≤ 0 ∧ (0 : Int) < 256 := by decide
  cases e0 : se s (⟨⟨[]⟩⟩ : ByteArray)
  rotate_left
  · cbv
    rw [e0]; cbv
    exact hQ _ _ trivial (rrd_leaves (s := s) (v := 0) (n := 0) (ok := false) hzz (fun h => by cases h) (by cbv))
  have hpos : 0 < s.size := size_of_ne (by rw [hse] at e0; exact e0)
  obtain ⟨v0, x1, x2⟩ := hix s 0 hz0 (by omega)
  cases e1 : eq v0 92
  · have hnn : (1 : Int) ≤ 1 ∧ (1 : Int) ≤ s.size := ⟨Int.le_refl 1, by omega⟩
    cbv
    rw [e0]; cbv
    rw [x1]; cbv
    rw [e1]; cbv
    rw [x1]; cbv
    exact hQ _ _ trivial (rrd_leaves (s := s) x2 (fun _ => hnn) (by cbv))
  have h2 : lt 1 (sln s) = true → ((1 : Int) ≤ 2 ∧ (2 : Int) ≤ s.size) ∧ (∃ v1, ixv 9 (.flat (.string s)) (.flat (.int .i64 1)) = some (.flat (.int .u8 v1)) ∧ (0 ≤ v1 ∧ v1 < 256)) ∧ ∃ s2, ∀ T, slc T 9 (.flat (.string s)) none (some (.flat (.int .i64 2))) = some (.flat (.string s2)) := fun h => by
    rw [hlt, hsln] at h
    have h : (1 : Int) < s.size := of_decide_eq_true h
    exact ⟨⟨by decide, by omega⟩, hix s 1 (by decide) (by omega), hsh 2 (by decide) (by omega)⟩
  have h4 : lt 3 (sln s) = true → ((1 : Int) ≤ 4 ∧ (4 : Int) ≤ s.size) ∧ ∃ s2, ∀ T, slc T 9 (.flat (.string s)) none (some (.flat (.int .i64 4))) = some (.flat (.string s2)) := fun h => by
    rw [hlt, hsln] at h
    have h : (3 : Int) < s.size := of_decide_eq_true h
    exact ⟨⟨by decide, by omega⟩, hsh 4 (by decide) (by omega)⟩
  have ht1 : ∀ t : ByteArray, eq (sln t) 2 = true → ∃ v, ixv 9 (.flat (.string t)) (.flat (.int .i64 1)) = some (.flat (.int .u8 v)) := fun t h => by
    rw [heq, hsln] at h
    have h : (t.size : Int) = 2 := of_decide_eq_true h
    obtain ⟨v, q, _⟩ := hix t 1 (by decide) (by omega)
    exact ⟨v, q⟩
  have hst : ∀ c : Int, 0 ≤ c → c ≤ 256 → lt c 256 = true → ∃ q q1 r r1 : Int, ∃ s1 s2 s3 s4 : ByteArray, (∀ T, conv T 3 5 (.flat (.int .i64 c)) = some (.flat (.int .u8 c))) ∧ (0 ≤ c ∧ c < 256) ∧ NCalls Try.prog 88 [.flat (.int .u8 c), .flat (.string ⟨⟨[]⟩⟩)] (RS isS) ∧ ar .add .i64 c 1 = c + 1 ∧ 0 ≤ c + 1 ∧ c + 1 ≤ 256 ∧ (256 - (c + 1)).toNat < (256 - c).toNat ∧ dv .quo 3 (.flat (.int .i64 c)) (.flat (.int .i64 16)) = some (.flat (.int .i64 q)) ∧ ar .add .i64 q 1 = q1 ∧ dv .rem 3 (.flat (.int .i64 c)) (.flat (.int .i64 16)) = some (.flat (.int .i64 r)) ∧ ar .add .i64 r 1 = r1 ∧
      (∀ T, slc T 9 (.flat (.string ⟨⟨[48, 49, 50, 51, 52, 53, 54, 55, 56, 57, 97, 98, 99, 100, 101, 102]⟩⟩)) (some (.flat (.int .i64 q))) (some (.flat (.int .i64 q1))) = some (.flat (.string s1))) ∧ dv .add 9 (.flat (.string ⟨⟨[92, 120]⟩⟩)) (.flat (.string s1)) = some (.flat (.string s2)) ∧
      (∀ T, slc T 9 (.flat (.string ⟨⟨[48, 49, 50, 51, 52, 53, 54, 55, 56, 57, 97, 98, 99, 100, 101, 102]⟩⟩)) (some (.flat (.int .i64 r))) (some (.flat (.int .i64 r1))) = some (.flat (.string s3))) ∧ dv .add 9 (.flat (.string s2)) (.flat (.string s3)) = some (.flat (.string s4)) := fun c h0 h1 hc => by
    rw [hlt] at hc
    have hc := of_decide_eq_true hc
    obtain ⟨s1, s2, s3, s4, w1, w2, w3, w4⟩ := hhex c h0 hc
    refine ⟨c / 16, c / 16 + 1, c % 16, c % 16 + 1, s1, s2, s3, s4, fun T => ?_, ⟨h0, hc⟩, hcB c h0 hc, by rw [har, ar_add64 (by omega) (by omega)], by omega, by omega, by omega, by rw [hdv]; exact quo3 c 16 h0 (by omega) (by decide), by rw [har, ar_add64 (by omega) (by omega)], by rw [hdv]; exact rem3 c 16 h0 (by decide), by rw [har, ar_add64 (by omega) (by omega)], w1, w2, w3, w4⟩
    rw [hconv]
    have h : evP Try.prog (convert 3 5 (.int .i64 c)) = some (.flat (.int .u8 (c % 256))) := by kernel_rfl
    show evP Try.prog (convert 3 5 (.int .i64 c)) = _
    rw [h, Int.emod_eq_of_lt h0 hc]
  clear hhex hcB hix hsh hpos
  cbv
  rw [e0]; cbv
  rw [x1]; cbv
  rw [e1]; cbv
  refine MW_loop hm [] [0, 5] 6 (by simp) (fun mz st => ∃ (c : Int), 0 ≤ c ∧ c ≤ 256 ∧ mz = (256 - c).toNat ∧ st = stOf [.flat (.string s), .dead, .dead, .dead, .dead, .flat (.int .i64 c)] [] 0) (((256 : Int) - 0).toNat) ?_ ?_
  · exact ⟨0, hz0, hz1, rfl, cut_eq (by cbv) (by rfl)⟩
  rintro mz st ⟨c, h0, h1, hmz, rfl⟩
  cases hc : lt c 256
  · cases f1 : lt 1 (sln s)
    · cbv
      rw [hc]; cbv
      rw [f1]; cbv
      exact hQ _ _ trivial (rrd_leaves (s := s) (v := 0) (n := 0) (ok := false) hzz (fun h => by cases h) (by cbv))
    obtain ⟨hn2, ⟨v1, y1, y2⟩, _⟩ := h2 f1
    have hcW1 := hcW v1
    cbv
    rw [hc]; cbv
    rw [f1]; cbv
    rw [y1]; cbv
    cases f2 : le 32 v1
    · cbv
      exact hQ _ _ trivial (rrd_leaves (s := s) (v := 0) (n := 0) (ok := false) hzz (fun h => by cases h) (by cbv))
    cbv
    rw [y1]; cbv
    cases f3 : le v1 126
    · cbv
      exact hQ _ _ trivial (rrd_leaves (s := s) (v := 0) (n := 0) (ok := false) hzz (fun h => by cases h) (by cbv))
    cbv
    rw [y1]; cbv
    refine .inr (hcn ⟨_, [], _, hcW1, .inl ⟨rfl, by cbv⟩, ?_⟩)
    rintro _ _ ⟨x0, hx0, rfl, rfl⟩
    obtain ⟨b, rfl⟩ := isB_of hx0
    refine ⟨Nat.zero_le _, ?_⟩
    cbv
    cases b
    · cbv
      rw [y1]; cbv
      exact hQ _ _ trivial (rrd_leaves (s := s) y2 (fun _ => hn2) (by cbv))
    cbv
    exact hQ _ _ trivial (rrd_leaves (s := s) (v := 0) (n := 0) (ok := false) hzz (fun h => by cases h) (by cbv))
  obtain ⟨q, q1, r, r1, s1, s2, s3, s4, c1, c2, c3, c4, c5, c6, c7, d1, d2, d3, d4, d5, d6, d7, d8⟩ := hst c h0 h1 hc
  generalize c + 1 = c9 at c4 c5 c6 c7
  cbv
  rw [hc]; cbv
  rw [c1]; cbv
  refine .inr (hcn ⟨_, [], _, c3, .inl ⟨rfl, by cbv⟩, ?_⟩)
  rintro _ _ ⟨x0, hx0, rfl, rfl⟩
  obtain ⟨t, rfl⟩ := isS_of hx0
  refine ⟨Nat.zero_le _, ?_⟩
  cbv
  cases k1 : eq (sln t) 2
  · cbv
    refine ⟨by rw [hdk]; kernel_rfl, ?_⟩
    rw [d1]; cbv
    rw [d1]; cbv
    rw [d2]; cbv
    rw [d5]; cbv
    rw [d6]; cbv
    rw [d3]; cbv
    rw [d3]; cbv
    rw [d4]; cbv
    rw [d7]; cbv
    rw [d8]; cbv
    refine ⟨by rw [hib]; kernel_rfl, ?_⟩
    cbv
    cases g1 : lt 3 (sln s)
    · cbv
      rw [c4]
      exact ⟨[], [0, 5], 6, (256 - c9).toNat, hmz ▸ c7, by simp, c9, c5, c6, rfl, cut_eq (by cbv) (by rfl)⟩
    obtain ⟨hn4, s9, z9⟩ := h4 g1
    cbv
    rw [z9]; cbv
    cases g2 : se s9 s4
    · cbv
      rw [c4]
      exact ⟨[], [0, 5], 6, (256 - c9).toNat, hmz ▸ c7, by simp, c9, c5, c6, rfl, cut_eq (by cbv) (by rfl)⟩
    cbv
    rw [c1]; cbv
    exact hQ _ _ trivial (rrd_leaves (s := s) c2 (fun _ => hn4) (by cbv))
  obtain ⟨v5, z5⟩ := ht1 t k1
  cbv
  rw [z5]; cbv
  cases k2 : eq v5 92
  rotate_left
  · cbv
    refine ⟨by rw [hdk]; kernel_rfl, ?_⟩
    rw [d1]; cbv
    rw [d1]; cbv
    rw [d2]; cbv
    rw [d5]; cbv
    rw [d6]; cbv
    rw [d3]; cbv
    rw [d3]; cbv
    rw [d4]; cbv
    rw [d7]; cbv
    rw [d8]; cbv
    refine ⟨by rw [hib]; kernel_rfl, ?_⟩
    cbv
    cases g1 : lt 3 (sln s)
    · cbv
      rw [c4]
      exact ⟨[], [0, 5], 6, (256 - c9).toNat, hmz ▸ c7, by simp, c9, c5, c6, rfl, cut_eq (by cbv) (by rfl)⟩
    obtain ⟨hn4, s9, z9⟩ := h4 g1
    cbv
    rw [z9]; cbv
    cases g2 : se s9 s4
    · cbv
      rw [c4]
      exact ⟨[], [0, 5], 6, (256 - c9).toNat, hmz ▸ c7, by simp, c9, c5, c6, rfl, cut_eq (by cbv) (by rfl)⟩
    cbv
    rw [c1]; cbv
    exact hQ _ _ trivial (rrd_leaves (s := s) c2 (fun _ => hn4) (by cbv))
  cases k3 : lt 1 (sln s)
  · cbv
    rw [k3]; cbv
    refine ⟨by rw [hdk]; kernel_rfl, ?_⟩
    rw [d1]; cbv
    rw [d1]; cbv
    rw [d2]; cbv
    rw [d5]; cbv
    rw [d6]; cbv
    rw [d3]; cbv
    rw [d3]; cbv
    rw [d4]; cbv
    rw [d7]; cbv
    rw [d8]; cbv
    refine ⟨by rw [hib]; kernel_rfl, ?_⟩
    cbv
    cases g1 : lt 3 (sln s)
    · cbv
      rw [c4]
      exact ⟨[], [0, 5], 6, (256 - c9).toNat, hmz ▸ c7, by simp, c9, c5, c6, rfl, cut_eq (by cbv) (by rfl)⟩
    obtain ⟨hn4, s9, z9⟩ := h4 g1
    cbv
    rw [z9]; cbv
    cases g2 : se s9 s4
    · cbv
      rw [c4]
      exact ⟨[], [0, 5], 6, (256 - c9).toNat, hmz ▸ c7, by simp, c9, c5, c6, rfl, cut_eq (by cbv) (by rfl)⟩
    cbv
    rw [c1]; cbv
    exact hQ _ _ trivial (rrd_leaves (s := s) c2 (fun _ => hn4) (by cbv))
  obtain ⟨hn2, _, s8, z8⟩ := h2 k3
  cbv
  rw [k3]; cbv
  rw [z8]; cbv
  cases k4 : se s8 t
  · cbv
    refine ⟨by rw [hdk]; kernel_rfl, ?_⟩
    rw [d1]; cbv
    rw [d1]; cbv
    rw [d2]; cbv
    rw [d5]; cbv
    rw [d6]; cbv
    rw [d3]; cbv
    rw [d3]; cbv
    rw [d4]; cbv
    rw [d7]; cbv
    rw [d8]; cbv
    refine ⟨by rw [hib]; kernel_rfl, ?_⟩
    cbv
    cases g1 : lt 3 (sln s)
    · cbv
      rw [c4]
      exact ⟨[], [0, 5], 6, (256 - c9).toNat, hmz ▸ c7, by simp, c9, c5, c6, rfl, cut_eq (by cbv) (by rfl)⟩
    obtain ⟨hn4, s9, z9⟩ := h4 g1
    cbv
    rw [z9]; cbv
    cases g2 : se s9 s4
    · cbv
      rw [c4]
      exact ⟨[], [0, 5], 6, (256 - c9).toNat, hmz ▸ c7, by simp, c9, c5, c6, rfl, cut_eq (by cbv) (by rfl)⟩
    cbv
    rw [c1]; cbv
    exact hQ _ _ trivial (rrd_leaves (s := s) c2 (fun _ => hn4) (by cbv))
  cbv
  rw [c1]; cbv
  exact hQ _ _ trivial (rrd_leaves (s := s) c2 (fun _ => hn2) (by cbv))
end Go.Proofs.Ytnceadbfgpiaaaa.N
/- Contracts: bosketref04.choice, row, repeated (the parser of regular expressions). -/
namespace Go.Proofs.Ytnceadbfgpiaaaa.N
open Go G U K I J F
set_option linter.unusedVariables false
set_option linter.unusedSimpArgs false
set_option maxRecDepth 100000
set_option maxHeartbeats 4000000
theorem fn70 : Try.prog.funcs[70]? = some Try.f70 := by kernel_rfl
theorem fn74 : Try.prog.funcs[74]? = some Try.f74 := by kernel_rfl
theorem fn79 : Try.prog.funcs[79]? = some Try.f79 := by kernel_rfl
/-! ### A row that is written no more, as it is carried through a cut -/
theorem cutVals_congr {live : List Nat} {s s' : Nat → AV} : ∀ (l : List Nat), (∀ q ∈ l, live.contains q = true → s q = s' q) → cutVals [] live s l = cutVals [] live s' l
  | [], _ => rfl
  | t :: l, h => by
    simp only [cutVals]
    rw [cutVals_congr l fun q hq => h q (List.mem_cons_of_mem _ hq)]
    cases hl : live.contains t
    · simp
    · rw [h t (List.mem_cons_self ..) hl]
theorem cut_ro {live : List Nat} {m : Nat} {st : St} {k n : Nat} {e : TypeId} {Y : List (List AV)} {vals : List AV} (t : Nat) (hT : st.T k = some ⟨e, Y⟩) (hY : ∀ c ∈ Y, closedAll [] c = true) (ht : st.s t = .sl k 0 n) (hn : n = Y.length) (ho : (live.all fun q => q == t || closedIn [] (st.s q)) = true)
    (h1 : cutVals [] live (upd st.s t (.ro Y)) (List.range m) = vals) : cut [] live m (frz [k] st) = stOf vals [] 0 := by
  have e : frz [k] st = ⟨frzS k Y st.s, frzT k Y st.T, st.nx⟩ := frz1_at hT hY
  rw [e]
  refine cut_eq (ks := []) ((cutVals_congr _ fun q _ hq => ?_).trans h1) rfl
  have hq := List.contains_iff_mem.1 hq
  have h2 := List.all_eq_true.1 ho q hq
  show frzS k Y st.s q = _
  unfold frzS upd
  by_cases hqt : q = t
  · subst hqt
    rw [ht]
    simp [badV, frzV, hn]
  · have h3 : closedIn [] (st.s q) = true := by simpa [hqt] using h2
    have h4 := frzV_cl k Y.length Y (st.s q) h3
    rw [h4.1, h4.2]
    simp [hqt]
/-! ### What the parser's parts return -/
def OkG (s : ByteArray) (i : Int) (u : Rx) (e : Int) : Prop := i < e ∧ e ≤ s.size ∧ (u.post.length : Int) + 1 ≤ 2 * (e - i)
def nilV : AV := .flat (.slice none 0 0)
def RG (s : ByteArray) (i : Int) (val : Nat → AV) (rows : Nat → List Row) : Prop :=
  (∃ k : Int, val = (fun _ => .tup [nilV, .flat (.int .i64 k)]) ∧ rows = fun _ => []) ∨ (∃ (u : Rx) (e : Int), OkG s i u e ∧ val = (fun _ => .tup [.ro u.post, .flat (.int .i64 e)]) ∧ rows = fun _ => [])
section
variable {P : Program} {fn : Func} {st : St} {s : ByteArray} {i : Int}
theorem rg_nil {k : Int} (h : resA P fn st = some (.tup [nilV, .flat (.int .i64 k)])) : ∃ val rows, RG s i val rows ∧ G.Leaves P fn val rows st :=
  ⟨_, _, .inl ⟨k, rfl, rfl⟩, G.Leaves.plain h rfl⟩
theorem rg_ro {u : Rx} {e : Int} {X : List (List AV)} (hX : X = u.post) (hu : OkG s i u e) (h : resA P fn st = some (.tup [.ro X, .flat (.int .i64 e)])) : ∃ val rows, RG s i val rows ∧ G.Leaves P fn val rows st :=
  ⟨_, _, .inr ⟨u, e, hu, rfl, rfl⟩, hX ▸ G.Leaves.plain h rfl⟩
theorem rg_row {u : Rx} {e : Int} {X : List (List AV)} {k n t1 t2 : Nat} {ty : TypeId} (hX : X = u.post) (hu : OkG s i u e) (hr : fn.results.toList = [.tmp t1, .tmp t2]) (h1 : st.s t1 = .sl k 0 n) (h2 : st.s t2 = .flat (.int .i64 e)) (hT : st.T k = some ⟨ty, X⟩) (hn : n = X.length) : ∃ val rows, RG s i val rows ∧ G.Leaves P fn val rows st :=
  ⟨_, _, .inr ⟨u, e, hu, rfl, rfl⟩, hX ▸ leaves_frz2 hr h1 h2 hT hn fun c hc => (Rx.cells u c (hX ▸ hc)).2⟩
end
theorem dv_nn : dvOf Try.prog .neq 114 nilV nilV = some (.flat (.bool false)) ∧ dvOf Try.prog .eql 114 nilV nilV = some (.flat (.bool true)) := by
  constructor
  · rw [dvOf_eq]
    intro x y
    kernel_rfl
  · rw [dvOf_eq]
    intro x y
    kernel_rfl
theorem dv_rn (u : Rx) : dvOf Try.prog .neq 114 (.ro u.post) nilV = some (.flat (.bool true)) ∧ dvOf Try.prog .eql 114 (.ro u.post) nilV = some (.flat (.bool false)) := by
  have := Rx.post_pos u
  generalize u.post = X at *
  cases X with
  | nil => simp at this
  | cons c X =>
    constructor
    · rw [dvOf_eq]
      intro x y
      kernel_rfl
    · rw [dvOf_eq]
      intro x y
      kernel_rfl
theorem c126 : Try.prog.cellsOf 126 = 5 := by kernel_rfl
theorem ap_ro (T : Table) (id k0 n n2 : Nat) (X Y Z : List (List AV)) (u : Rx) (hY : Y = u.post) (hZ : Z = X ++ Y) (hn : n = X.length) (hn2 : n2 = n + Y.length) (hb : n2 ≤ 100000000) (hT : T k0 = some ⟨126, X⟩) : evAppend Try.prog T id 114 114 (.sl k0 0 n) (.ro Y) = some (.sl id 0 n2, (T.set k0 none).set id (some ⟨126, Z⟩)) :=
  app_ro u114 u114 z126 (by decide) rfl (by decide) hT (fun c hc => (Rx.cells u c (hY ▸ hc)).1) (by omega) hn2 (by rw [hn, List.take_length]; exact hZ) hb
theorem ap_tip (T : Table) (id k0 k n n2 : Nat) (X Z : List (List AV)) (a : Int) (hZ : Z = X ++ [pc a 0 0 0 0]) (hn : n = X.length) (hn2 : n2 = n + 1) (hb : n2 ≤ 100000000) (hT : T k0 = some ⟨126, X⟩) (hk : T k = some ⟨126, [pc a 0 0 0 0]⟩) (hne : k ≠ k0) : evAppend Try.prog T id 114 114 (.sl k0 0 n) (.sl k 0 1) = some (.sl id 0 n2, (T.set k0 none).set id (some ⟨126, Z⟩)) :=
  app_tip u114 z126 c126 (by decide) rfl (by decide) hT hk hne rfl (by omega) hn2 (by rw [hn, List.take_length]; exact hZ) hb
theorem okg_two {s : ByteArray} {i e e1 e2 : Int} {u u2 v : Rx} (h1 : OkG s i u e) (h2 : OkG s e1 u2 e2) (he : e ≤ e1) (hv : v.post.length = u.post.length + u2.post.length + 1) : OkG s i v e2 := by
  obtain ⟨a1, a2, a3⟩ := h1
  obtain ⟨b1, b2, b3⟩ := h2
  exact ⟨by omega, b2, by omega⟩
theorem okg_un {s : ByteArray} {i e : Int} {u v : Rx} (h1 : OkG s i u e) (he : e < s.size) (hv : v.post.length = u.post.length + 1) : OkG s i v (e + 1) := by
  obtain ⟨a1, a2, a3⟩ := h1
  exact ⟨by omega, by omega, by omega⟩
theorem choice_n (s : ByteArray) (i deep : Int) (h0 : 0 ≤ i) (hs : s.size ≤ 1000000) (hi : i ≤ s.size) (hrow : ∀ j : Int, 0 ≤ j → j ≤ s.size → NCalls Try.prog 74 [.flat (.string s), .flat (.int .i64 j), .flat (.int .i64 deep)] (RG s j)) : NCalls Try.prog 70 [.flat (.string s), .flat (.int .i64 i), .flat (.int .i64 deep)] (RG s i) := by
  have hc1 := hrow i h0 hi
  have hap := ap_ro
  have hat := ap_tip
  refine ncalls_symN tabF_ok fn70 rfl rfl rfl (by kernel_rfl) ?_
  rintro N hN ⟨lt, le, eq, se, ar, dv, una, conv, len, sln, nat, nth, ixs, cel, sto, app, cpy, slc, mak, ixv, oth, dk, ib, call⟩ hS hm Q hQ
  obtain ⟨hlt, hle, heq, hse, har, hdv, huna, hconv, hlen, hsln, hnat, hnth, hixs, hcel, hsto, happ, hcpy, hslc, hmak, hixv, hoth, hdk, hib, hcall⟩ := Sym.mk.inj hS
  clear hS
  have hnt : ∀ n : Nat, nat n = U.natI n := fun n => by rw [hnat]; rfl
  have hbox : ∀ e c off, cel (some ⟨e, [c]⟩) 0 off = if off ≤ c.length then some (c.drop off) else none := fun e c off => by rw [hcel]; rfl
  have hsbox : ∀ e c off sz y, sto (some ⟨e, [c]⟩) 0 off sz y = if y.cells.length = sz ∧ off + sz ≤ c.length ∧ y.cells.all AV.one = true then some ⟨e, [spl c off y.cells]⟩ else none := fun e c off sz y => by rw [hsto]; rfl
  have hcaw : ∀ {f args T base K}, CallK Try.prog f args T base K → call f args T base K := fun h => by rw [hcall]; exact h
  have hcal : ∀ {f args T base} {K : AV → Table → List Nat → List Nat → Prop}, (∃ args' ids val rows, Hands T ids args args' (val base) (rows base) ∧ ACalls Try.prog f args' val rows ∧ (rows base).length ≤ 8 ∧ K (val base) (adopt T base (rows base)) ids ((List.range (rows base).length).map (base + ·))) → call f args T base K := fun h => hcaw (call_own h)
  have hcn : ∀ {f args T base} {K : AV → Table → Prop}, CallN Try.prog T base f args K → N f args T base K := fun h => by rw [hN]; exact h
  have hsx : ∀ (s : ByteArray) (i : Int), s.size ≤ 1000000 → 0 ≤ i → lt i (sln s) = true → ∃ v, ixv 9 (.flat (.string s)) (.flat (.int .i64 i)) = some (.flat (.int .u8 v)) ∧ 0 ≤ v ∧ v < 256 ∧ ar .add .i64 i 1 = i + 1 ∧ 0 ≤ i + 1 ∧ (s.size - (i + 1).toNat < s.size - i.toNat) ∧ i < s.size := fun s i hs h0 hc => by
    rw [hlt, hsln] at hc
    rw [hixv, har]
    exact ix_next s hs h0 hc
  have hrx : ∀ (X : List (List AV)) (sz : Nat) (i : Int), (∀ c ∈ X, c.length = sz) → X.length ≤ 1000000 → 0 ≤ i → lt i (len X) = true → ∃ c ∈ X, nth X i sz = some (.rp c) ∧ ar .add .i64 i 1 = i + 1 ∧ 0 ≤ i + 1 ∧ (X.length - (i + 1).toNat < X.length - i.toNat) ∧ i < X.length := fun X sz i hX hl h0 hc => by
    rw [hlt, hlen] at hc
    rw [hnth, har]
    exact row_next X hX hl h0 hc
  have hix : ∀ (i : Int), 0 ≤ i → lt i (sln s) = true → ∃ v, ixv 9 (.flat (.string s)) (.flat (.int .i64 i)) = some (.flat (.int .u8 v)) ∧ i < s.size ∧ ar .add .i64 i 1 = i + 1 := fun i h0 hc => by
    rw [hlt, hsln] at hc
    have hc : i < (s.size : Int) := of_decide_eq_true hc
    exact ⟨_, by rw [hixv]; exact ix_str u9 h0 hc, hc, by rw [har, ar_add64 (by omega) (by omega)]⟩
  have hn1 : dv .neq 114 (.flat (.slice none 0 0)) (.flat (.slice none 0 0)) = some (.flat (.bool false)) := by rw [hdv]; exact dv_nn.1
  have hn2 : dv .eql 114 (.flat (.slice none 0 0)) (.flat (.slice none 0 0)) = some (.flat (.bool true)) := by rw [hdv]; exact dv_nn.2
  have hr1 : ∀ u : Rx, dv .neq 114 (.ro u.post) (.flat (.slice none 0 0)) = some (.flat (.bool true)) := fun u => by rw [hdv]; exact (dv_rn u).1
  have hr2 : ∀ u : Rx, dv .eql 114 (.ro u.post) (.flat (.slice none 0 0)) = some (.flat (.bool false)) := fun u => by rw [hdv]; exact (dv_rn u).2
  rw [← happ] at hap hat
  have hstep : ∀ e u, OkG s i u e → 0 ≤ e ∧ (∀ e1 u2 e2, OkG s e1 u2 e2 → e ≤ e1 → OkG s i (Rx.alt u u2) e2 ∧ ((s.size : Int) - e2).toNat < ((s.size : Int) - e).toNat ∧ u.post.length + u2.post.length + 1 ≤ 100000000 ∧ (Rx.alt u u2).post = u.post ++ u2.post ++ [pc 3 0 0 0 0]) := fun e u h => by
    refine ⟨by have := h.1; omega, fun e1 u2 e2 h2 he => ⟨okg_two h h2 he (by simp [Rx.post]; omega), ?_, ?_, rfl⟩⟩
    · have := h2.1; have := h2.2.1; omega
    · have h3 := h.2.2; have h4 := h2.2.2; have h5 := h2.2.1; have h6 := h.2.1; have h7 := h2.1; have h8 := h.1; omega
  have hcl : ∀ u : Rx, ∀ c ∈ u.post, closedAll [] c = true := fun u c hc => (Rx.cells u c hc).2
  clear hi h0
  cbv
  refine .inr (hcn ⟨_, [], _, hc1, .inl ⟨rfl, by cbv⟩, ?_⟩)
  rintro _ _ (⟨k0, rfl, rfl⟩ | ⟨u0, e0, hu0, rfl, rfl⟩)
  · refine ⟨Nat.zero_le _, ?_⟩
    cbv
    refine MW_loop hm [] [0, 1, 2, 8] 9 (by simp) (fun mz st => st = stOf [.flat (.string s), .flat (.int .i64 k0), .flat (.int .i64 deep), .dead, .dead, .dead, .dead, .dead, .flat (.slice none 0 0)] [] 0) 0 ?_ ?_
    · exact cut_eq (by cbv) rfl
    rintro mz st rfl
    cbv
    rw [hn1]; cbv
    exact hQ _ _ trivial (rg_nil (k := k0) (by cbv))
  obtain ⟨X0, hX0⟩ : ∃ X, X = u0.post := ⟨_, rfl⟩
  rw [← hX0]
  refine ⟨Nat.zero_le _, ?_⟩
  cbv
  refine MW_loopF hm [] [] [0, 1, 2, 8] 9 (by simp) (fun mz st => ∃ (e : Int) (u : Rx) (X : List (List AV)), X = u.post ∧ OkG s i u e ∧ mz = ((s.size : Int) - e).toNat ∧ st = stOf [.flat (.string s), .flat (.int .i64 e), .flat (.int .i64 deep), .dead, .dead, .dead, .dead, .dead, .ro X] [] 0) ((s.size : Int) - e0).toNat ?_ ?_
  · exact ⟨e0, u0, X0, hX0, hu0, rfl, cut_eq (by cbv) rfl⟩
  rintro mz st ⟨e, u, X, hX, hu, hmz, rfl⟩
  obtain ⟨q0, q1⟩ := hstep e u hu
  have q2 := hr1 u
  rw [← hX] at q2
  cases hc : lt e (sln s)
  · cbv
    rw [q2]; cbv
    rw [hc]; cbv
    exact hQ _ _ trivial (rg_ro hX hu (by cbv))
  obtain ⟨v, q3, q4, q5⟩ := hix e q0 hc
  have hcR := hrow (e + 1) (by omega) (by omega)
  replace q1 := fun u2 e2 h2 => q1 (e + 1) u2 e2 h2 (by omega)
  generalize e + 1 = e1 at q1 q5 hcR
  cases f1 : eq v 124
  · cbv
    rw [q2]; cbv
    rw [hc]; cbv
    rw [q3]; cbv
    rw [f1]; cbv
    exact hQ _ _ trivial (rg_ro hX hu (by cbv))
  cbv
  rw [q2]; cbv
  rw [hc]; cbv
  rw [q3]; cbv
  rw [f1]; cbv
  rw [q5]; cbv
  refine .inr (hcn ⟨_, [], _, hcR, .inl ⟨rfl, by cbv⟩, ?_⟩)
  rintro _ _ (⟨k0, rfl, rfl⟩ | ⟨u2, e2, hu2, rfl, rfl⟩)
  · refine ⟨Nat.zero_le _, ?_⟩
    cbv
    rw [hn2]; cbv
    exact hQ _ _ trivial (rg_nil (k := k0) (by cbv))
  refine ⟨Nat.zero_le _, ?_⟩
  obtain ⟨w1, w2, w3, w4⟩ := q1 u2 e2 hu2
  have w5 := hr2 u2
  obtain ⟨X2, hX2⟩ : ∃ X2, X2 = u2.post := ⟨_, rfl⟩
  rw [← hX2] at w3 w4 w5
  rw [← hX] at w3 w4
  rw [← hX2]
  obtain ⟨Y, hY⟩ : ∃ Y, Y = X ++ X2 := ⟨_, rfl⟩
  obtain ⟨Z, hZ⟩ : ∃ Z, Z = Y ++ [pc 3 0 0 0 0] := ⟨_, rfl⟩
  rw [← hY, ← hZ] at w4
  have p1 := fun (T : Table) (id k0 : Nat) => hap T id k0 0 X.length [] X X u hX rfl rfl (by simp) (by omega)
  have p2 := fun (T : Table) (id k0 : Nat) => hap T id k0 X.length Y.length X X2 Y u2 hX2 hY rfl (by rw [hY, List.length_append]) (by rw [hY, List.length_append]; omega)
  have p3 := fun (T : Table) (id k0 k : Nat) => hat T id k0 k Y.length Z.length Y Z 3 hZ rfl (by rw [hZ, List.length_append]; rfl) (by rw [hZ, List.length_append, hY, List.length_append]; show _ + 1 ≤ _; omega)
  have hZl : ∀ c ∈ Z, closedAll [] c = true := fun c hc => hcl _ c (w4 ▸ hc)
  have hZn : Z.length = Z.length := rfl
  unfold pc at p3
  generalize hn1' : X.length = n1 at p1 p2
  generalize hn2' : Y.length = n2 at p2 p3
  generalize hn3' : Z.length = n3 at p3
  cbv
  rw [w5]; cbv
  rw [p1 _ _ _ rfl]; cbv
  rw [p2 _ _ _ rfl]; cbv
  rw [p3 _ _ _ _ rfl rfl (by decide)]; cbv
  exact ⟨[272], [], [0, 1, 2, 8], 9, _, hmz ▸ w2, by simp, e2, _, Z, w4.symm, w1, rfl, cut_ro 8 (by rfl) hZl (by rfl) hn3'.symm (by rfl) (by cbv)⟩
theorem row_n (s : ByteArray) (i deep : Int) (h0 : 0 ≤ i) (hs : s.size ≤ 1000000) (hi : i ≤ s.size) (hrow : ∀ j : Int, 0 ≤ j → j ≤ s.size → NCalls Try.prog 79 [.flat (.string s), .flat (.int .i64 j), .flat (.int .i64 deep)] (RG s j)) : NCalls Try.prog 74 [.flat (.string s), .flat (.int .i64 i), .flat (.int .i64 deep)] (RG s i) := by
  have hc1 := hrow i h0 hi
  have hap := ap_ro
  have hat := ap_tip
  have hcI := fun c => in4_n ⟨⟨[124, 41]⟩⟩ c (by decide)
  refine ncalls_symN tabF_ok fn74 rfl rfl rfl (by kernel_rfl) ?_
  rintro N hN ⟨lt, le, eq, se, ar, dv, una, conv, len, sln, nat, nth, ixs, cel, sto, app, cpy, slc, mak, ixv, oth, dk, ib, call⟩ hS hm Q hQ
  obtain ⟨hlt, hle, heq, hse, har, hdv, huna, hconv, hlen, hsln, hnat, hnth, hixs, hcel, hsto, happ, hcpy, hslc, hmak, hixv, hoth, hdk, hib, hcall⟩ := Sym.mk.inj hS
  clear hS
  have hnt : ∀ n : Nat, nat n = U.natI n := fun n => by rw [hnat]; rfl
  have hbox : ∀ e c off, cel (some ⟨e, [c]⟩) 0 off = if off ≤ c.length then some (c.drop off) else none := fun e c off => by rw [hcel]; rfl
  have hsbox : ∀ e c off sz y, sto (some ⟨e, [c]⟩) 0 off sz y = if y.cells.length = sz ∧ off + sz ≤ c.length ∧ y.cells.all AV.one = true then some ⟨e, [spl c off y.cells]⟩ else none := fun e c off sz y => by rw [hsto]; rfl
  have hcaw : ∀ {f args T base K}, CallK Try.prog f args T base K → call f args T base K := fun h => by rw [hcall]; exact h
  have hcal : ∀ {f args T base} {K : AV → Table → List Nat → List Nat → Prop}, (∃ args' ids val rows, Hands T ids args args' (val base) (rows base) ∧ ACalls Try.prog f args' val rows ∧ (rows base).length ≤ 8 ∧ K (val base) (adopt T base (rows base)) ids ((List.range (rows base).length).map (base + ·))) → call f args T base K := fun h => hcaw (call_own h)
  have hcn : ∀ {f args T base} {K : AV → Table → Prop}, CallN Try.prog T base f args K → N f args T base K := fun h => by rw [hN]; exact h
  have hsx : ∀ (s : ByteArray) (i : Int), s.size ≤ 1000000 → 0 ≤ i → lt i (sln s) = true → ∃ v, ixv 9 (.flat (.string s)) (.flat (.int .i64 i)) = some (.flat (.int .u8 v)) ∧ 0 ≤ v ∧ v < 256 ∧ ar .add .i64 i 1 = i + 1 ∧ 0 ≤ i + 1 ∧ (s.size - (i + 1).toNat < s.size - i.toNat) ∧ i < s.size := fun s i hs h0 hc => by
    rw [hlt, hsln] at hc
    rw [hixv, har]
    exact ix_next s hs h0 hc
  have hrx : ∀ (X : List (List AV)) (sz : Nat) (i : Int), (∀ c ∈ X, c.length = sz) → X.length ≤ 1000000 → 0 ≤ i → lt i (len X) = true → ∃ c ∈ X, nth X i sz = some (.rp c) ∧ ar .add .i64 i 1 = i + 1 ∧ 0 ≤ i + 1 ∧ (X.length - (i + 1).toNat < X.length - i.toNat) ∧ i < X.length := fun X sz i hX hl h0 hc => by
    rw [hlt, hlen] at hc
    rw [hnth, har]
    exact row_next X hX hl h0 hc
  have hix : ∀ (i : Int), 0 ≤ i → lt i (sln s) = true → ∃ v, ixv 9 (.flat (.string s)) (.flat (.int .i64 i)) = some (.flat (.int .u8 v)) ∧ i < s.size ∧ ar .add .i64 i 1 = i + 1 := fun i h0 hc => by
    rw [hlt, hsln] at hc
    have hc : i < (s.size : Int) := of_decide_eq_true hc
    exact ⟨_, by rw [hixv]; exact ix_str u9 h0 hc, hc, by rw [har, ar_add64 (by omega) (by omega)]⟩
  have hn1 : dv .neq 114 (.flat (.slice none 0 0)) (.flat (.slice none 0 0)) = some (.flat (.bool false)) := by rw [hdv]; exact dv_nn.1
  have hn2 : dv .eql 114 (.flat (.slice none 0 0)) (.flat (.slice none 0 0)) = some (.flat (.bool true)) := by rw [hdv]; exact dv_nn.2
  have hr1 : ∀ u : Rx, dv .neq 114 (.ro u.post) (.flat (.slice none 0 0)) = some (.flat (.bool true)) := fun u => by rw [hdv]; exact (dv_rn u).1
  have hr2 : ∀ u : Rx, dv .eql 114 (.ro u.post) (.flat (.slice none 0 0)) = some (.flat (.bool false)) := fun u => by rw [hdv]; exact (dv_rn u).2
  rw [← happ] at hap hat
  have hstep : ∀ e u, OkG s i u e → 0 ≤ e ∧ (∀ e1 u2 e2, OkG s e1 u2 e2 → e ≤ e1 → OkG s i (Rx.cat u u2) e2 ∧ ((s.size : Int) - e2).toNat < ((s.size : Int) - e).toNat ∧ u.post.length + u2.post.length + 1 ≤ 100000000 ∧ (Rx.cat u u2).post = u.post ++ u2.post ++ [pc 2 0 0 0 0]) := fun e u h => by
    refine ⟨by have := h.1; omega, fun e1 u2 e2 h2 he => ⟨okg_two h h2 he (by simp [Rx.post]; omega), ?_, ?_, rfl⟩⟩
    · have := h2.1; have := h2.2.1; omega
    · have h3 := h.2.2; have h4 := h2.2.2; have h5 := h2.2.1; have h6 := h.2.1; have h7 := h2.1; have h8 := h.1; omega
  have hcl : ∀ u : Rx, ∀ c ∈ u.post, closedAll [] c = true := fun u c hc => (Rx.cells u c hc).2
  clear hi h0
  cbv
  refine .inr (hcn ⟨_, [], _, hc1, .inl ⟨rfl, by cbv⟩, ?_⟩)
  rintro _ _ (⟨k0, rfl, rfl⟩ | ⟨u0, e0, hu0, rfl, rfl⟩)
  · refine ⟨Nat.zero_le _, ?_⟩
    cbv
    refine MW_loop hm [] [0, 1, 2, 8] 9 (by simp) (fun mz st => st = stOf [.flat (.string s), .flat (.int .i64 k0), .flat (.int .i64 deep), .dead, .dead, .dead, .dead, .dead, .flat (.slice none 0 0)] [] 0) 0 ?_ ?_
    · exact cut_eq (by cbv) rfl
    rintro mz st rfl
    cbv
    rw [hn1]; cbv
    exact hQ _ _ trivial (rg_nil (k := k0) (by cbv))
  obtain ⟨X0, hX0⟩ : ∃ X, X = u0.post := ⟨_, rfl⟩
  rw [← hX0]
  refine ⟨Nat.zero_le _, ?_⟩
  cbv
  refine MW_loopF hm [] [] [0, 1, 2, 8] 9 (by simp) (fun mz st => ∃ (e : Int) (u : Rx) (X : List (List AV)), X = u.post ∧ OkG s i u e ∧ mz = ((s.size : Int) - e).toNat ∧ st = stOf [.flat (.string s), .flat (.int .i64 e), .flat (.int .i64 deep), .dead, .dead, .dead, .dead, .dead, .ro X] [] 0) ((s.size : Int) - e0).toNat ?_ ?_
  · exact ⟨e0, u0, X0, hX0, hu0, rfl, cut_eq (by cbv) rfl⟩
  rintro mz st ⟨e, u, X, hX, hu, hmz, rfl⟩
  obtain ⟨q0, q1⟩ := hstep e u hu
  have q2 := hr1 u
  rw [← hX] at q2
  cases hc : lt e (sln s)
  · cbv
    rw [q2]; cbv
    rw [hc]; cbv
    exact hQ _ _ trivial (rg_ro hX hu (by cbv))
  obtain ⟨v, q3, q4, q5⟩ := hix e q0 hc
  have hcv := hcI v
  have hcR := hrow e q0 (Int.le_of_lt q4)
  replace q1 := fun u2 e2 h2 => q1 e u2 e2 h2 (Int.le_refl _)
  cbv
  rw [q2]; cbv
  rw [hc]; cbv
  rw [q3]; cbv
  refine .inr (hcn ⟨_, [], _, hcv, .inl ⟨rfl, by cbv⟩, ?_⟩)
  rintro _ _ ⟨x0, hx0, rfl, rfl⟩
  obtain ⟨b, rfl⟩ := isB_of hx0
  refine ⟨Nat.zero_le _, ?_⟩
  cbv
  cases b
  rotate_left
  · cbv
    exact hQ _ _ trivial (rg_ro hX hu (by cbv))
  cbv
  refine .inr (hcn ⟨_, [], _, hcR, .inl ⟨rfl, by cbv⟩, ?_⟩)
  rintro _ _ (⟨k0, rfl, rfl⟩ | ⟨u2, e2, hu2, rfl, rfl⟩)
  · refine ⟨Nat.zero_le _, ?_⟩
    cbv
    rw [hn2]; cbv
    exact hQ _ _ trivial (rg_nil (k := k0) (by cbv))
  refine ⟨Nat.zero_le _, ?_⟩
  obtain ⟨w1, w2, w3, w4⟩ := q1 u2 e2 hu2
  have w5 := hr2 u2
  obtain ⟨X2, hX2⟩ : ∃ X2, X2 = u2.post := ⟨_, rfl⟩
  rw [← hX2] at w3 w4 w5
  rw [← hX] at w3 w4
  rw [← hX2]
  obtain ⟨Y, hY⟩ : ∃ Y, Y = X ++ X2 := ⟨_, rfl⟩
  obtain ⟨Z, hZ⟩ : ∃ Z, Z = Y ++ [pc 2 0 0 0 0] := ⟨_, rfl⟩
  rw [← hY, ← hZ] at w4
  have p1 := fun (T : Table) (id k0 : Nat) => hap T id k0 0 X.length [] X X u hX rfl rfl (by simp) (by omega)
  have p2 := fun (T : Table) (id k0 : Nat) => hap T id k0 X.length Y.length X X2 Y u2 hX2 hY rfl (by rw [hY, List.length_append]) (by rw [hY, List.length_append]; omega)
  have p3 := fun (T : Table) (id k0 k : Nat) => hat T id k0 k Y.length Z.length Y Z 2 hZ rfl (by rw [hZ, List.length_append]; rfl) (by rw [hZ, List.length_append, hY, List.length_append]; show _ + 1 ≤ _; omega)
  have hZl : ∀ c ∈ Z, closedAll [] c = true := fun c hc => hcl _ c (w4 ▸ hc)
  have hZn : Z.length = Z.length := rfl
  unfold pc at p3
  generalize hn1' : X.length = n1 at p1 p2
  generalize hn2' : Y.length = n2 at p2 p3
  generalize hn3' : Z.length = n3 at p3
  cbv
  rw [w5]; cbv
  rw [p1 _ _ _ rfl]; cbv
  rw [p2 _ _ _ rfl]; cbv
  rw [p3 _ _ _ _ rfl rfl (by decide)]; cbv
  exact ⟨[272], [], [0, 1, 2, 8], 9, _, hmz ▸ w2, by simp, e2, _, Z, w4.symm, w1, rfl, cut_ro 8 (by rfl) hZl (by rfl) hn3'.symm (by rfl) (by cbv)⟩
theorem rep_n (s : ByteArray) (i deep : Int) (h0 : 0 ≤ i) (hs : s.size ≤ 1000000) (hc1 : NCalls Try.prog 83 [.flat (.string s), .flat (.int .i64 i), .flat (.int .i64 deep)] (RG s i)) : NCalls Try.prog 79 [.flat (.string s), .flat (.int .i64 i), .flat (.int .i64 deep)] (RG s i) := by
  have hap := ap_ro
  have hat := ap_tip
  have hcI := fun c => in4_n ⟨⟨[42, 43, 63]⟩⟩ c (by decide)
  refine ncalls_symN tabF_ok fn79 rfl rfl rfl (by kernel_rfl) ?_
  rintro N hN ⟨lt, le, eq, se, ar, dv, una, conv, len, sln, nat, nth, ixs, cel, sto, app, cpy, slc, mak, ixv, oth, dk, ib, call⟩ hS hm Q hQ
  obtain ⟨hlt, hle, heq, hse, har, hdv, huna, hconv, hlen, hsln, hnat, hnth, hixs, hcel, hsto, happ, hcpy, hslc, hmak, hixv, hoth, hdk, hib, hcall⟩ := Sym.mk.inj hS
  clear hS
  have hnt : ∀ n : Nat, nat n = U.natI n := fun n => by rw [hnat]; rfl
  have hbox : ∀ e c off, cel (some ⟨e, [c]⟩) 0 off = if off ≤ c.length then some (c.drop off) else none := fun e c off => by rw [hcel]; rfl
  have hsbox : ∀ e c off sz y, sto (some ⟨e, [c]⟩) 0 off sz y = if y.cells.length = sz ∧ off + sz ≤ c.length ∧ y.cells.all AV.one = true then some ⟨e, [spl c off y.cells]⟩ else none := fun e c off sz y => by rw [hsto]; rfl
  have hcaw : ∀ {f args T base K}, CallK Try.prog f args T base K → call f args T base K := fun h => by rw [hcall]; exact h
  have hcal : ∀ {f args T base} {K : AV → Table → List Nat → List Nat → Prop}, (∃ args' ids val rows, Hands T ids args args' (val base) (rows base) ∧ ACalls Try.prog f args' val rows ∧ (rows base).length ≤ 8 ∧ K (val base) (adopt T base (rows base)) ids ((List.range (rows base).length).map (base + ·))) → call f args T base K := fun h => hcaw (call_own h)
  have hcn : ∀ {f args T base} {K : AV → Table → Prop}, CallN Try.prog T base f args K → N f args T base K := fun h => by rw [hN]; exact h
  have hsx : ∀ (s : ByteArray) (i : Int), s.size ≤ 1000000 → 0 ≤ i → lt i (sln s) = true → ∃ v, ixv 9 (.flat (.string s)) (.flat (.int .i64 i)) = some (.flat (.int .u8 v)) ∧ 0 ≤ v ∧ v < 256 ∧ ar .add .i64 i 1 = i + 1 ∧ 0 ≤ i + 1 ∧ (s.size - (i + 1).toNat < s.size - i.toNat) ∧ i < s.size := fun s i hs h0 hc => by
    rw [hlt, hsln] at hc
    rw [hixv, har]
    exact ix_next s hs h0 hc
  have hrx : ∀ (X : List (List AV)) (sz : Nat) (i : Int), (∀ c ∈ X, c.length = sz) → X.length ≤ 1000000 → 0 ≤ i → lt i (len X) = true → ∃ c ∈ X, nth X i sz = some (.rp c) ∧ ar .add .i64 i 1 = i + 1 ∧ 0 ≤ i + 1 ∧ (X.length - (i + 1).toNat < X.length - i.toNat) ∧ i < X.length := fun X sz i hX hl h0 hc => by
    rw [hlt, hlen] at hc
    rw [hnth, har]
    exact row_next X hX hl h0 hc
  have hix : ∀ (i : Int), 0 ≤ i → lt i (sln s) = true → ∃ v, ixv 9 (.flat (.string s)) (.flat (.int .i64 i)) = some (.flat (.int .u8 v)) ∧ i < s.size ∧ ar .add .i64 i 1 = i + 1 := fun i h0 hc => by
    rw [hlt, hsln] at hc
    have hc : i < (s.size : Int) := of_decide_eq_true hc
    exact ⟨_, by rw [hixv]; exact ix_str u9 h0 hc, hc, by rw [har, ar_add64 (by omega) (by omega)]⟩
  have hn1 : dv .neq 114 (.flat (.slice none 0 0)) (.flat (.slice none 0 0)) = some (.flat (.bool false)) := by rw [hdv]; exact dv_nn.1
  have hn2 : dv .eql 114 (.flat (.slice none 0 0)) (.flat (.slice none 0 0)) = some (.flat (.bool true)) := by rw [hdv]; exact dv_nn.2
  have hr1 : ∀ u : Rx, dv .neq 114 (.ro u.post) (.flat (.slice none 0 0)) = some (.flat (.bool true)) := fun u => by rw [hdv]; exact (dv_rn u).1
  have hr2 : ∀ u : Rx, dv .eql 114 (.ro u.post) (.flat (.slice none 0 0)) = some (.flat (.bool false)) := fun u => by rw [hdv]; exact (dv_rn u).2
  rw [← happ] at hap hat
  have hstep : ∀ e u, OkG s i u e → 0 ≤ e ∧ (e < s.size → ((s.size : Int) - (e + 1)).toNat < ((s.size : Int) - e).toNat ∧ u.post.length + 1 ≤ 100000000 ∧ ∀ k, OkG s i (Rx.un k u) (e + 1)) := fun e u h => by
    refine ⟨by have := h.1; omega, fun he => ⟨by omega, ?_, fun k => okg_un h he (by simp [Rx.post])⟩⟩
    have h3 := h.2.2; have h4 := h.2.1; have h5 := h.1; omega
  have hcl : ∀ u : Rx, ∀ c ∈ u.post, closedAll [] c = true := fun u c hc => (Rx.cells u c hc).2
  clear h0
  cbv
  refine .inr (hcn ⟨_, [], _, hc1, .inl ⟨rfl, by cbv⟩, ?_⟩)
  rintro _ _ (⟨k0, rfl, rfl⟩ | ⟨u0, e0, hu0, rfl, rfl⟩)
  · refine ⟨Nat.zero_le _, ?_⟩
    cbv
    refine MW_loop hm [] [0, 1, 2, 8] 9 (by simp) (fun mz st => st = stOf [.flat (.string s), .flat (.int .i64 k0), .flat (.int .i64 deep), .dead, .dead, .dead, .dead, .dead, .flat (.slice none 0 0)] [] 0) 0 ?_ ?_
    · exact cut_eq (by cbv) rfl
    rintro mz st rfl
    cbv
    rw [hn1]; cbv
    exact hQ _ _ trivial (rg_nil (k := k0) (by cbv))
  obtain ⟨X0, hX0⟩ : ∃ X, X = u0.post := ⟨_, rfl⟩
  rw [← hX0]
  refine ⟨Nat.zero_le _, ?_⟩
  cbv
  refine MW_loopF hm [] [] [0, 1, 2, 8] 9 (by simp) (fun mz st => ∃ (e : Int) (u : Rx) (X : List (List AV)), X = u.post ∧ OkG s i u e ∧ mz = ((s.size : Int) - e).toNat ∧ st = stOf [.flat (.string s), .flat (.int .i64 e), .flat (.int .i64 deep), .dead, .dead, .dead, .dead, .dead, .ro X] [] 0) ((s.size : Int) - e0).toNat ?_ ?_
  · exact ⟨e0, u0, X0, hX0, hu0, rfl, cut_eq (by cbv) rfl⟩
  rintro mz st ⟨e, u, X, hX, hu, hmz, rfl⟩
  obtain ⟨q0, q1⟩ := hstep e u hu
  have q2 := hr1 u
  rw [← hX] at q2
  cases hc : lt e (sln s)
  · cbv
    rw [q2]; cbv
    rw [hc]; cbv
    exact hQ _ _ trivial (rg_ro hX hu (by cbv))
  obtain ⟨v, q3, q4, q5⟩ := hix e q0 hc
  have hcv := hcI v
  obtain ⟨w1, w2, w3⟩ := q1 q4
  rw [← hX] at w2
  have p1 := fun (T : Table) (id k0 : Nat) => hap T id k0 0 X.length [] X X u hX rfl rfl (by simp) (by omega)
  have p2 : ∀ (k : Fin 3), ∃ (Z : List (List AV)) (n : Nat), Z = (Rx.un k u).post ∧ n = Z.length ∧ ∀ (T : Table) (id k0 j : Nat), T k0 = some ⟨126, X⟩ → T j = some ⟨126, [pc (4 + (k.val : Int)) 0 0 0 0]⟩ → j ≠ k0 → app T id 114 114 (.sl k0 0 X.length) (.sl j 0 1) = some (.sl id 0 n, (T.set k0 none).set id (some ⟨126, Z⟩)) := fun k =>
    ⟨_, _, rfl, rfl, fun T id k0 j g1 g2 g3 => hat T id k0 j X.length _ X _ (4 + (k.val : Int)) (by rw [hX]; rfl) rfl (by rw [hX]; simp [Rx.post]) (by simp [Rx.post]; rw [← hX]; omega) g1 g2 g3⟩
  generalize hn1' : X.length = n1 at p1 p2
  generalize e + 1 = e1 at w1 w3 q5
  cbv
  rw [q2]; cbv
  rw [hc]; cbv
  rw [q3]; cbv
  refine .inr (hcn ⟨_, [], _, hcv, .inl ⟨rfl, by cbv⟩, ?_⟩)
  rintro _ _ ⟨x0, hx0, rfl, rfl⟩
  obtain ⟨b, rfl⟩ := isB_of hx0
  refine ⟨Nat.zero_le _, ?_⟩
  cbv
  cases b
  · cbv
    exact hQ _ _ trivial (rg_ro hX hu (by cbv))
  cbv
  rw [q3]; cbv
  cases f1 : eq v 43
  · cbv
    rw [q3]; cbv
    cases f2 : eq v 63
    · skip
      obtain ⟨Z, n, g1, g2, g3⟩ := p2 0
      replace g3 : ∀ (T : Table) (id k0 j : Nat), T k0 = some ⟨126, X⟩ → T j = some ⟨126, [[.flat (.int .i64 4), .flat (.int .u64 0), .flat (.int .u64 0), .flat (.int .u64 0), .flat (.int .u64 0)]]⟩ → j ≠ k0 → app T id 114 114 (.sl k0 0 n1) (.sl j 0 1) = some (.sl id 0 n, (T.set k0 none).set id (some ⟨126, Z⟩)) := g3
      have hZl : ∀ c ∈ Z, closedAll [] c = true := fun c hc => hcl _ c (g1 ▸ hc)
      have w4 := w3 0
      cbv
      rw [p1 _ _ _ rfl]; cbv
      rw [g3 _ _ _ _ rfl rfl (by decide)]; cbv
      rw [q5]; cbv
      exact ⟨[232], [], [0, 1, 2, 8], 9, _, hmz ▸ w1, by simp, e1, _, Z, g1, w4, rfl, cut_ro 8 (by rfl) hZl (by rfl) g2 (by rfl) (by cbv)⟩
    · skip
      obtain ⟨Z, n, g1, g2, g3⟩ := p2 2
      replace g3 : ∀ (T : Table) (id k0 j : Nat), T k0 = some ⟨126, X⟩ → T j = some ⟨126, [[.flat (.int .i64 6), .flat (.int .u64 0), .flat (.int .u64 0), .flat (.int .u64 0), .flat (.int .u64 0)]]⟩ → j ≠ k0 → app T id 114 114 (.sl k0 0 n1) (.sl j 0 1) = some (.sl id 0 n, (T.set k0 none).set id (some ⟨126, Z⟩)) := g3
      have hZl : ∀ c ∈ Z, closedAll [] c = true := fun c hc => hcl _ c (g1 ▸ hc)
      have w4 := w3 2
      cbv
      rw [p1 _ _ _ rfl]; cbv
      rw [g3 _ _ _ _ rfl rfl (by decide)]; cbv
      rw [q5]; cbv
      exact ⟨[240], [], [0, 1, 2, 8], 9, _, hmz ▸ w1, by simp, e1, _, Z, g1, w4, rfl, cut_ro 8 (by rfl) hZl (by rfl) g2 (by rfl) (by cbv)⟩
  · cbv
    rw [q3]; cbv
    cases f2 : eq v 63
    · skip
      obtain ⟨Z, n, g1, g2, g3⟩ := p2 1
      replace g3 : ∀ (T : Table) (id k0 j : Nat), T k0 = some ⟨126, X⟩ → T j = some ⟨126, [[.flat (.int .i64 5), .flat (.int .u64 0), .flat (.int .u64 0), .flat (.int .u64 0), .flat (.int .u64 0)]]⟩ → j ≠ k0 → app T id 114 114 (.sl k0 0 n1) (.sl j 0 1) = some (.sl id 0 n, (T.set k0 none).set id (some ⟨126, Z⟩)) := g3
      have hZl : ∀ c ∈ Z, closedAll [] c = true := fun c hc => hcl _ c (g1 ▸ hc)
      have w4 := w3 1
      cbv
      rw [p1 _ _ _ rfl]; cbv
      rw [g3 _ _ _ _ rfl rfl (by decide)]; cbv
      rw [q5]; cbv
      exact ⟨[240], [], [0, 1, 2, 8], 9, _, hmz ▸ w1, by simp, e1, _, Z, g1, w4, rfl, cut_ro 8 (by rfl) hZl (by rfl) g2 (by rfl) (by cbv)⟩
    · skip
      obtain ⟨Z, n, g1, g2, g3⟩ := p2 2
      replace g3 : ∀ (T : Table) (id k0 j : Nat), T k0 = some ⟨126, X⟩ → T j = some ⟨126, [[.flat (.int .i64 6), .flat (.int .u64 0), .flat (.int .u64 0), .flat (.int .u64 0), .flat (.int .u64 0)]]⟩ → j ≠ k0 → app T id 114 114 (.sl k0 0 n1) (.sl j 0 1) = some (.sl id 0 n, (T.set k0 none).set id (some ⟨126, Z⟩)) := g3
      have hZl : ∀ c ∈ Z, closedAll [] c = true := fun c hc => hcl _ c (g1 ▸ hc)
      have w4 := w3 2
      cbv
      rw [p1 _ _ _ rfl]; cbv
      rw [g3 _ _ _ _ rfl rfl (by decide)]; cbv
      rw [q5]; cbv
      exact ⟨[248], [], [0, 1, 2, 8], 9, _, hmz ▸ w1, by simp, e1, _, Z, g1, w4, rfl, cut_ro 8 (by rfl) hZl (by rfl) g2 (by rfl) (by cbv)⟩
end Go.Proofs.Ytnceadbfgpiaaaa.N
