/- Contracts: fits.Flat, Width, Hard, Lead, Tail. -/
import Derived.Test.YtagflbmonlaioaaD6
import Derived.Test.YtagflbmonlaioaaU2
namespace Go.Proofs.Ytagflbmonlaioaa.D
open Go G U K
set_option linter.unusedVariables false
set_option linter.unusedSimpArgs false
set_option maxRecDepth 100000
set_option maxHeartbeats 4000000
theorem fn26 : Try.prog.funcs[26]? = some Try.f26 := by kernel_rfl
theorem fn28 : Try.prog.funcs[28]? = some Try.f28 := by kernel_rfl
theorem fn27 : Try.prog.funcs[27]? = some Try.f27 := by kernel_rfl
theorem fn36 : Try.prog.funcs[36]? = some Try.f36 := by kernel_rfl
theorem fn38 : Try.prog.funcs[38]? = some Try.f38 := by kernel_rfl
def txt (bs : List UInt8) : ByteArray := ⟨bs.toArray⟩
def bts (s : ByteArray) : List UInt8 := s.data.toList
theorem txt_bts (s : ByteArray) : txt (bts s) = s := by cases s; simp [txt, bts]
theorem bts_txt (bs : List UInt8) : bts (txt bs) = bs := by show bs.toArray.toList = bs; simp
theorem size_txt (bs : List UInt8) : (txt bs).size = bs.length := by show bs.toArray.size = bs.length; simp
theorem bts_len (s : ByteArray) : (bts s).length = s.size := by show s.data.toList.length = s.data.size; simp
theorem txt_append (a b : List UInt8) : txt a ++ txt b = txt (a ++ b) := by
  apply ByteArray.ext
  show (ByteArray.mk a.toArray ++ ByteArray.mk b.toArray).data = (a ++ b).toArray
  rw [ByteArray.data_append]
  simp
theorem dv_cat (s t : ByteArray) (h : s.size + t.size ≤ 1000000000) : dvOf Try.prog .add 9 (.flat (.string s)) (.flat (.string t)) = some (.flat (.string (s ++ t))) := by
  rw [dvOf_eq]
  intro x y
  have e : evPure Try.prog (Op.stringOp .add s t) = some (.string (s ++ t)) := by
    unfold Op.stringOp
    have h2 : ¬ ((s.size + t.size : Nat) : Int) > IntKind.i64.max := by
      have : IntKind.i64.max = 9223372036854775807 := rfl
      omega
    simp only
    rw [if_neg h2]; rfl
  show evP Try.prog _ = _
  unfold evP
  have e2 : (evPure Try.prog (do eqGuard .add 9 x y (.string s) (.string t); binOp .add 9 (.string s) (.string t))) = some (.string (s ++ t)) := e
  rw [e2]; rfl
theorem u65 : Try.prog.underlying 65 = some (.slice 5) := by kernel_rfl
theorem u9 : Try.prog.underlying 9 = some .string := by kernel_rfl
theorem z5 : tinfo Try.prog 5 = some (some (.int .u8 0), 1, 1) := by kernel_rfl
theorem c5 : Try.prog.cellsOf 5 = 1 := by kernel_rfl
theorem und5' : Try.prog.underlying 5 = some (.int .u8) := by kernel_rfl
theorem closed_byte {Y : List (List AV)} {l : List UInt8} (hY : Y = l.map byteC) : ∀ c ∈ Y, closedAll [] c = true := by
  rw [hY]; exact closed_map fun _ => rfl
theorem byte_back : ∀ (bs : List UInt8), (bs.map byteC).mapM byteOfAV = some bs
  | [] => rfl
  | b :: bs => by
    rw [List.map_cons, List.mapM_cons]
    have : byteOfAV (byteC b) = some b := by simp [byteC, byteOfAV]
    rw [this, byte_back bs]; rfl
theorem conv_bytes {T : Table} {id n : Nat} {Z : List (List AV)} {bs : List UInt8} (hZ : Z = bs.map byteC) (hn : n = bs.length) (hT : T id = some ⟨5, Z⟩) : evBytes Try.prog T 65 9 (.sl id 0 n) = some (.flat (.string (txt bs))) := by
  have hl : 0 + n ≤ Z.length := by rw [hZ, List.length_map]; omega
  simp only [evBytes, u65, u9, und5', z5]
  rw [if_pos (by simp [srcFit, hT, c5])]
  simp only [srcEls, hT, Option.bind_some]
  rw [if_pos hl]
  simp only [Option.bind_some, List.drop_zero]
  rw [List.take_of_length_le (by rw [hZ, List.length_map]; omega), hZ, byte_back]; rfl
/-! ### In one line -/
def flatP (p : PartT) : Option (List UInt8) := if p.kind = 0 then some (bts p.text) else if p.kind = 1 then some [32] else if p.kind = 3 then none else some []
def flatD : DocT → Option (List UInt8)
  | [] => some []
  | p :: d => match flatP p with
    | none => none
    | some a => (flatD d).map (a ++ ·)
theorem flatD_append : ∀ (a b : DocT), flatD (a ++ b) = (flatD a).bind fun x => (flatD b).map (x ++ ·)
  | [], b => by simp [flatD]
  | p :: a, b => by
    simp only [List.cons_append, flatD, flatD_append a b]
    cases flatP p with
    | none => rfl
    | some x =>
      cases flatD a with
      | none => rfl
      | some y =>
        simp only [Option.bind_some, Option.map_some, Option.map_map]
        congr 1
        funext z
        simp
theorem flatP_len {p : PartT} {a : List UInt8} (h : flatP p = some a) (hp : p.text.size ≤ 1000) : a.length ≤ 1000 := by
  unfold flatP at h
  split at h
  · obtain rfl := Option.some.inj h; rw [bts_len]; exact hp
  · split at h
    · obtain rfl := Option.some.inj h; simp
    · split at h
      · cases h
      · obtain rfl := Option.some.inj h; simp
theorem flatD_len : ∀ {d : DocT} {bs : List UInt8}, flatD d = some bs → (∀ p ∈ d, p.text.size ≤ 1000) → bs.length ≤ 1000 * d.length
  | [], bs, h, _ => by simp [flatD] at h; subst h; simp
  | p :: d, bs, h, hp => by
    simp only [flatD] at h
    split at h
    · cases h
    · rename_i a ha
      obtain ⟨b, hb, rfl⟩ := Option.map_eq_some_iff.1 h
      have h1 := flatP_len ha (hp p (by simp))
      have h2 := flatD_len hb fun q hq => hp q (by simp [hq])
      rw [List.length_append, List.length_cons]; omega
def flatV (o : Option (List UInt8)) : AV := match o with
  | none => .tup [.flat (.string ⟨#[]⟩), .flat (.bool false)]
  | some bs => .tup [.flat (.string (txt bs)), .flat (.bool true)]
/-- Where the line stands. -/
def FlAt (d : DocT) (i : Int) (bs : List UInt8) : Prop := At d i ∧ flatD (d.take i.toNat) = some bs
theorem flAt_zero (d : DocT) : FlAt d 0 [] := ⟨at_zero d, rfl⟩
theorem flAt_end {d : DocT} {i : Int} {bs : List UInt8} (h : FlAt d i bs) (hc : decide (i < (d.length : Int)) = false) : flatD d = some bs := by
  rw [← h.2, take_end h.1 hc]
theorem flAt_none {d : DocT} {i : Int} {bs : List UInt8} (h : FlAt d i bs) (hc : decide (i < (d.length : Int)) = true) (hp : flatP (atI d i) = none) : flatD d = none := by
  obtain ⟨_, h0, h1⟩ := at_lt h.1 hc
  have e := List.take_append_drop i.toNat d
  rw [← e, flatD_append, h.2, drop_next h0 h1]
  simp [flatD, hp]
theorem flAt_step {d : DocT} {i : Int} {bs a : List UInt8} (h : FlAt d i bs) (hc : decide (i < (d.length : Int)) = true) (hp : flatP (atI d i) = some a) : FlAt d (i + 1) (bs ++ a) := by
  obtain ⟨_, h0, h1⟩ := at_lt h.1 hc
  refine ⟨(at_step h.1 hc).1, ?_⟩
  rw [take_next h0 h1, flatD_append, h.2]
  simp [flatD, hp]
theorem flAt_len {d : DocT} {i : Int} {bs : List UInt8} (h : FlAt d i bs) (hd : d.length ≤ 20000) (hp : ∀ p ∈ d, p.text.size ≤ 1000) : bs.length ≤ 20000000 := by
  have h1 := flatD_len h.2 fun p hq => hp p (List.mem_of_mem_take hq)
  have h2 : (d.take i.toNat).length ≤ d.length := by rw [List.length_take]; omega
  omega
theorem flat_calls (d : DocT) (hs : d.length ≤ 20000) (ht : ∀ p ∈ d, p.text.size ≤ 1000) : ACalls Try.prog 26 [.ro (d.map partC)] (fun _ => flatV (if checkD d = 0 then flatD d else none)) (fun _ => []) := by
  have hcC := check_calls d (Nat.le_trans hs (by decide))
  have hs1 : d.length ≤ 1000000 := Nat.le_trans hs (by decide)
  obtain ⟨r, hr⟩ : ∃ r, r = flatV (if checkD d = 0 then flatD d else none) := ⟨_, rfl⟩
  rw [← hr]
  obtain ⟨X, hX⟩ : ∃ X, X = d.map partC := ⟨_, rfl⟩
  rw [← hX] at hcC ⊢
  have hr1 : decide (checkD d = 0) = false → r = flatV none := fun h => by rw [hr, if_neg (of_decide_eq_false h)]
  have hr2 : decide (checkD d = 0) = true → r = flatV (flatD d) := fun h => by rw [hr, if_pos (of_decide_eq_true h)]
  have hcl : closedIn [] r = true := by
    rw [hr]
    generalize (if checkD d = 0 then flatD d else none) = o
    cases o <;> rfl
  clear hr
  refine acalls_symF tabF_ok fn26 rfl rfl rfl (by kernel_rfl) ?_
  rintro ⟨lt, le, eq, se, ar, dv, una, conv, len, sln, nat, nth, ixs, cel, sto, app, cpy, slc, mak, ixv, oth, dk, ib, call⟩ hS hm Q hQ
  obtain ⟨hlt, hle, heq, hse, har, hdv, huna, hconv, hlen, hsln, hnat, hnth, hixs, hcel, hsto, happ, hcpy, hslc, hmak, hixv, hoth, hdk, hib, hcall⟩ := Sym.mk.inj hS
  clear hS
  have hnt : ∀ n : Nat, nat n = U.natI n := fun n => by rw [hnat]; rfl
  have hbox : ∀ e c off, cel (some ⟨e, [c]⟩) 0 off = if off ≤ c.length then some (c.drop off) else none := fun e c off => by rw [hcel]; rfl
  have hsbox : ∀ e c off sz y, sto (some ⟨e, [c]⟩) 0 off sz y = if y.cells.length = sz ∧ off + sz ≤ c.length ∧ y.cells.all AV.one = true then some ⟨e, [spl c off y.cells]⟩ else none := fun e c off sz y => by rw [hsto]; rfl
  have hcaw : ∀ {f args T base K}, CallK Try.prog f args T base K → call f args T base K := fun h => by rw [hcall]; exact h
  have hcal : ∀ {f args T base} {K : AV → Table → List Nat → List Nat → Prop}, (∃ args' ids val rows, Hands T ids args args' (val base) (rows base) ∧ ACalls Try.prog f args' val rows ∧ (rows base).length ≤ 8 ∧ K (val base) (adopt T base (rows base)) ids ((List.range (rows base).length).map (base + ·))) → call f args T base K := fun h => hcaw (call_own h)
  have hfin : ∀ st, resA Try.prog Try.f26 st = some r → G.Leaves Try.prog Try.f26 (fun _ => r) (fun _ => []) st := fun st h => G.Leaves.plain h hcl
  have hnX : len X = d.length := by rw [hlen, hX, len_map]
  have e1 : eq (checkD d) 0 = decide (checkD d = 0) := by rw [heq]
  generalize decide (checkD d = 0) = b1 at e1 hr1 hr2
  generalize checkD d = ck at e1 hcC
  cbv
  refine hcal ⟨_, [], _, _, .inl ⟨rfl, by cbv⟩, hcC, by simp, ?_⟩
  cbv
  rw [e1]
  cases b1
  · obtain rfl := hr1 rfl
    cbv
    exact hQ _ _ trivial (hfin _ (by cbv))
  replace hr2 := hr2 rfl
  cbv
  refine MW_loopZ hm [.slot 4 5] [72] [4, 10, 11, 12] 13 (by simp) (fun mz st => ∃ (i : Int) (bs : List UInt8) (n : Nat) (Z : List (List AV)), FlAt d i bs ∧ Z = bs.map byteC ∧ n = bs.length ∧ mz = U.left d.length i ∧ st = stOf [.dead, .dead, .dead, .dead, .sl 0 0 n, .dead, .dead, .dead, .dead, .dead, .ro X, .flat (.int .i64 (len X)), .flat (.int .i64 i)] [some ⟨5, Z⟩] 1) (U.left d.length 0) ?_ ?_
  · exact ⟨0, [], 0, [], flAt_zero d, rfl, rfl, rfl, cut_eq (by cbv) (cutRows_cons (by rfl) (fun c hc => by cases hc) rfl)⟩
  rintro mz st ⟨i, bs, n, Z, hi, hZ, hn, hmz, rfl⟩
  cases hc : lt i (len X)
  · have hc' : decide (i < (d.length : Int)) = false := by rw [hlt, hnX] at hc; exact hc
    have hend := flAt_end hi hc'
    rw [hend] at hr2
    have hcv : ∀ (T : Table) id, T id = some ⟨5, Z⟩ → conv T 65 9 (.sl id 0 n) = some (.flat (.string (txt bs))) := fun T id hT => by
      rw [hconv]; exact conv_bytes hZ hn hT
    unfold flatV at hr2
    dsimp only at hr2
    generalize txt bs = s at hr2 hcv
    subst hr2
    cbv
    rw [hc]; cbv
    rw [hcv _ _ (by rfl)]; cbv
    exact hQ _ _ trivial (hfin _ (by cbv))
  have hc' : decide (i < (d.length : Int)) = true := by rw [hlt, hnX] at hc; exact hc
  obtain ⟨hix, hadd, q1, q2, hmem, hdr, htk⟩ := at_round (sz := 3) hX (fun _ => rfl) hs1 hi.1 hc'
  rw [← hnth] at hix
  rw [← har] at hadd
  have hnone := flAt_none hi hc'
  have hstep : ∀ a, flatP (atI d i) = some a → FlAt d (i + 1) (bs ++ a) ∧ (bs ++ a).length ≤ 20000000 := fun a ha => by
    have := flAt_step hi hc' ha
    exact ⟨this, flAt_len this hs ht⟩
  generalize i + 1 = i2 at hadd q1 q2 hstep
  generalize atI d i = p at hix hnone hstep
  obtain ⟨kd, pn, tx⟩ := p
  unfold partC at hix
  unfold flatP at hnone hstep
  dsimp only at hix hnone hstep
  have f0 : decide (kd = 0) = true → FlAt d i2 (bs ++ bts tx) ∧ (bs ++ bts tx).length ≤ 20000000 := fun h => hstep _ (if_pos (of_decide_eq_true h))
  have f1 : decide (kd = 0) = false → decide (kd = 1) = true → FlAt d i2 (bs ++ [32]) ∧ (bs ++ [32]).length ≤ 20000000 := fun h h1 => hstep _ (by rw [if_neg (of_decide_eq_false h), if_pos (of_decide_eq_true h1)])
  have f3 : decide (kd = 0) = false → decide (kd = 1) = false → decide (kd = 3) = true → flatD d = none := fun h h1 h3 => hnone (by rw [if_neg (of_decide_eq_false h), if_neg (of_decide_eq_false h1), if_pos (of_decide_eq_true h3)])
  have f4 : decide (kd = 0) = false → decide (kd = 1) = false → decide (kd = 3) = false → FlAt d i2 bs := fun h h1 h3 => by
    have := (hstep [] (by rw [if_neg (of_decide_eq_false h), if_neg (of_decide_eq_false h1), if_neg (of_decide_eq_false h3)])).1
    simpa using this
  have e0 : eq kd 0 = decide (kd = 0) := by rw [heq]
  have e1 : eq kd 1 = decide (kd = 1) := by rw [heq]
  have e3 : eq kd 3 = decide (kd = 3) := by rw [heq]
  generalize decide (kd = 0) = b0 at e0 f0 f1 f3 f4
  generalize decide (kd = 1) = b1 at e1 f1 f3 f4
  generalize decide (kd = 3) = b3 at e3 f3 f4
  clear hnone hstep
  have hnl : n ≤ Z.length := by rw [hZ, List.length_map, hn]; exact Nat.le_refl _
  cbv
  rw [hc]; cbv
  repeat (first | (rw [hbox]; cbv) | (rw [hsbox]; cbv) | (rw [hix]; cbv))
  rw [e0]; cases b0
  rotate_left
  · obtain ⟨g1, g2⟩ := f0 rfl
    obtain ⟨n2, hn2⟩ : ∃ n2, n2 = n + tx.size := ⟨_, rfl⟩
    obtain ⟨Z2, hZ2⟩ : ∃ Z2, Z2 = (bs ++ bts tx).map byteC := ⟨_, rfl⟩
    have hl2 : n2 = (bs ++ bts tx).length := by rw [List.length_append, bts_len, hn2, hn]
    have hap : ∀ (T : Table) id k0, T k0 = some ⟨5, Z⟩ → app T id 65 9 (.sl k0 0 n) (.flat (.string tx)) = some (.sl id 0 n2, (T.set k0 none).set id (some ⟨5, Z2⟩)) := fun T id k0 hT => by
      rw [happ]
      exact app_str u65 u9 z5 rfl (by decide) hT hnl hn2 (by rw [hZ2, List.map_append, hZ, hn, ← List.map_take, List.take_length]; rfl) (by omega)
    cbv
    repeat (first | (rw [hbox]; cbv) | (rw [hsbox]; cbv))
    rw [hap _ _ _ (by rfl)]; cbv
    rw [hadd]
    exact ⟨[97], [4, 10, 11, 12], 13, U.left d.length i2, hmz ▸ q2, by simp, i2, _, n2, Z2, g1, hZ2, hl2, rfl, cut_eq (by cbv) (cutRows_cons (by rfl) (closed_byte hZ2) rfl)⟩
  cbv
  rw [e1]; cases b1
  rotate_left
  · obtain ⟨g1, g2⟩ := f1 rfl rfl
    obtain ⟨n2, hn2⟩ : ∃ n2, n2 = n + 1 := ⟨_, rfl⟩
    obtain ⟨Z2, hZ2⟩ : ∃ Z2, Z2 = (bs ++ [32]).map byteC := ⟨_, rfl⟩
    have hl2 : n2 = (bs ++ [32]).length := by rw [List.length_append, hn2, hn]; rfl
    have hap : ∀ (T : Table) id k0 k, T k0 = some ⟨5, Z⟩ → T k = some ⟨5, [[.flat (.int .u8 32)]]⟩ → k ≠ k0 → app T id 65 65 (.sl k0 0 n) (.sl k 0 1) = some (.sl id 0 n2, (T.set k0 none).set id (some ⟨5, Z2⟩)) := fun T id k0 k h1 h2 h3 => by
      rw [happ]
      exact app_tip u65 z5 c5 (by decide) rfl (by decide) h1 h2 h3 rfl hnl hn2 (by rw [hZ2, List.map_append, hZ, hn, ← List.map_take, List.take_length]; rfl) (by omega)
    cbv
    rw [hap _ _ _ _ (by rfl) (by rfl) (by decide)]; cbv
    rw [hadd]
    exact ⟨[105], [4, 10, 11, 12], 13, U.left d.length i2, hmz ▸ q2, by simp, i2, _, n2, Z2, g1, hZ2, hl2, rfl, cut_eq (by cbv) (cutRows_cons (by rfl) (closed_byte hZ2) rfl)⟩
  cbv
  rw [e3]; cases b3
  rotate_left
  · rw [f3 rfl rfl rfl] at hr2
    unfold flatV at hr2
    dsimp only at hr2
    subst hr2
    cbv
    exact hQ _ _ trivial (hfin _ (by cbv))
  have g1 := f4 rfl rfl rfl
  cbv
  rw [hadd]
  exact ⟨[0], [4, 10, 11, 12], 13, U.left d.length i2, hmz ▸ q2, by simp, i2, bs, n, Z, g1, hZ, hn, rfl, cut_eq (by cbv) (cutRows_cons (by rfl) (closed_byte hZ) rfl)⟩
def widthO (o : Option (List UInt8)) : Int := match o with | none => -1 | some bs => (bs.length : Int)
theorem width_calls (d : DocT) (hs : d.length ≤ 20000) (ht : ∀ p ∈ d, p.text.size ≤ 1000) : ACalls Try.prog 28 [.ro (d.map partC)] (fun _ => .flat (.int .i64 (widthO (if checkD d = 0 then flatD d else none)))) (fun _ => []) := by
  have hcF := flat_calls d hs ht
  generalize d.map partC = X at hcF ⊢
  generalize (if checkD d = 0 then flatD d else none) = o at hcF ⊢
  obtain ⟨r, hr⟩ : ∃ r : Int, r = widthO o := ⟨_, rfl⟩
  rw [← hr]
  cases o with
  | none =>
    have hr : r = -1 := hr
    subst hr
    unfold flatV at hcF
    dsimp only at hcF
    refine acalls_symF tabF_ok fn28 rfl rfl rfl (by kernel_rfl) ?_
    have hfin : ∀ st, resA Try.prog Try.f28 st = some (.flat (.int .i64 (-1))) → G.Leaves Try.prog Try.f28 (fun _ => .flat (.int .i64 (-1))) (fun _ => []) st := fun st h => G.Leaves.plain h rfl
    rintro ⟨lt, le, eq, se, ar, dv, una, conv, len, sln, nat, nth, ixs, cel, sto, app, cpy, slc, mak, ixv, oth, dk, ib, call⟩ hS hm Q hQ
    obtain ⟨hlt, hle, heq, hse, har, hdv, huna, hconv, hlen, hsln, hnat, hnth, hixs, hcel, hsto, happ, hcpy, hslc, hmak, hixv, hoth, hdk, hib, hcall⟩ := Sym.mk.inj hS
    clear hS
    have hnt : ∀ n : Nat, nat n = U.natI n := fun n => by rw [hnat]; rfl
    have hbox : ∀ e c off, cel (some ⟨e, [c]⟩) 0 off = if off ≤ c.length then some (c.drop off) else none := fun e c off => by rw [hcel]; rfl
    have hsbox : ∀ e c off sz y, sto (some ⟨e, [c]⟩) 0 off sz y = if y.cells.length = sz ∧ off + sz ≤ c.length ∧ y.cells.all AV.one = true then some ⟨e, [spl c off y.cells]⟩ else none := fun e c off sz y => by rw [hsto]; rfl
    have hcaw : ∀ {f args T base K}, CallK Try.prog f args T base K → call f args T base K := fun h => by rw [hcall]; exact h
    have hcal : ∀ {f args T base} {K : AV → Table → List Nat → List Nat → Prop}, (∃ args' ids val rows, Hands T ids args args' (val base) (rows base) ∧ ACalls Try.prog f args' val rows ∧ (rows base).length ≤ 8 ∧ K (val base) (adopt T base (rows base)) ids ((List.range (rows base).length).map (base + ·))) → call f args T base K := fun h => hcaw (call_own h)
    cbv
    refine hcal ⟨_, [], _, _, .inl ⟨rfl, by cbv⟩, hcF, by simp, ?_⟩
    cbv
    exact hQ _ _ trivial (hfin _ (by cbv))
  | some bs =>
    have hr : r = (bs.length : Int) := hr
    unfold flatV at hcF
    dsimp only at hcF
    have hsz := size_txt bs
    generalize txt bs = s at hcF hsz
    refine acalls_symF tabF_ok fn28 rfl rfl rfl (by kernel_rfl) ?_
    have hfin : ∀ st, resA Try.prog Try.f28 st = some (.flat (.int .i64 r)) → G.Leaves Try.prog Try.f28 (fun _ => .flat (.int .i64 r)) (fun _ => []) st := fun st h => G.Leaves.plain h rfl
    rintro ⟨lt, le, eq, se, ar, dv, una, conv, len, sln, nat, nth, ixs, cel, sto, app, cpy, slc, mak, ixv, oth, dk, ib, call⟩ hS hm Q hQ
    obtain ⟨hlt, hle, heq, hse, har, hdv, huna, hconv, hlen, hsln, hnat, hnth, hixs, hcel, hsto, happ, hcpy, hslc, hmak, hixv, hoth, hdk, hib, hcall⟩ := Sym.mk.inj hS
    clear hS
    have hnt : ∀ n : Nat, nat n = U.natI n := fun n => by rw [hnat]; rfl
    have hbox : ∀ e c off, cel (some ⟨e, [c]⟩) 0 off = if off ≤ c.length then some (c.drop off) else none := fun e c off => by rw [hcel]; rfl
    have hsbox : ∀ e c off sz y, sto (some ⟨e, [c]⟩) 0 off sz y = if y.cells.length = sz ∧ off + sz ≤ c.length ∧ y.cells.all AV.one = true then some ⟨e, [spl c off y.cells]⟩ else none := fun e c off sz y => by rw [hsto]; rfl
    have hcaw : ∀ {f args T base K}, CallK Try.prog f args T base K → call f args T base K := fun h => by rw [hcall]; exact h
    have hcal : ∀ {f args T base} {K : AV → Table → List Nat → List Nat → Prop}, (∃ args' ids val rows, Hands T ids args args' (val base) (rows base) ∧ ACalls Try.prog f args' val rows ∧ (rows base).length ≤ 8 ∧ K (val base) (adopt T base (rows base)) ids ((List.range (rows base).length).map (base + ·))) → call f args T base K := fun h => hcaw (call_own h)
    have e1 : sln s = r := by rw [hsln, hr, ← hsz]
    cbv
    refine hcal ⟨_, [], _, _, .inl ⟨rfl, by cbv⟩, hcF, by simp, ?_⟩
    cbv
    rw [e1]; cbv
    exact hQ _ _ trivial (hfin _ (by cbv))
/-! ### A new line that must be -/
def hardD (d : DocT) : Bool := d.any fun p => decide (p.kind = 3)
theorem hard_calls (d : DocT) (hs : d.length ≤ 1000000) : ACalls Try.prog 27 [.ro (d.map partC)] (fun _ => .flat (.bool (hardD d))) (fun _ => []) := by
  obtain ⟨r, hr⟩ : ∃ r, r = hardD d := ⟨_, rfl⟩
  rw [← hr]
  obtain ⟨X, hX⟩ : ∃ X, X = d.map partC := ⟨_, rfl⟩
  rw [← hX]
  refine acalls_symF tabF_ok fn27 rfl rfl rfl (by kernel_rfl) ?_
  have hfin : ∀ st, resA Try.prog Try.f27 st = some (.flat (.bool r)) → G.Leaves Try.prog Try.f27 (fun _ => .flat (.bool r)) (fun _ => []) st := fun st h => G.Leaves.plain h rfl
  rintro ⟨lt, le, eq, se, ar, dv, una, conv, len, sln, nat, nth, ixs, cel, sto, app, cpy, slc, mak, ixv, oth, dk, ib, call⟩ hS hm Q hQ
  obtain ⟨hlt, hle, heq, hse, har, hdv, huna, hconv, hlen, hsln, hnat, hnth, hixs, hcel, hsto, happ, hcpy, hslc, hmak, hixv, hoth, hdk, hib, hcall⟩ := Sym.mk.inj hS
  clear hS
  have hnt : ∀ n : Nat, nat n = U.natI n := fun n => by rw [hnat]; rfl
  have hbox : ∀ e c off, cel (some ⟨e, [c]⟩) 0 off = if off ≤ c.length then some (c.drop off) else none := fun e c off => by rw [hcel]; rfl
  have hsbox : ∀ e c off sz y, sto (some ⟨e, [c]⟩) 0 off sz y = if y.cells.length = sz ∧ off + sz ≤ c.length ∧ y.cells.all AV.one = true then some ⟨e, [spl c off y.cells]⟩ else none := fun e c off sz y => by rw [hsto]; rfl
  have hcaw : ∀ {f args T base K}, CallK Try.prog f args T base K → call f args T base K := fun h => by rw [hcall]; exact h
  have hcal : ∀ {f args T base} {K : AV → Table → List Nat → List Nat → Prop}, (∃ args' ids val rows, Hands T ids args args' (val base) (rows base) ∧ ACalls Try.prog f args' val rows ∧ (rows base).length ≤ 8 ∧ K (val base) (adopt T base (rows base)) ids ((List.range (rows base).length).map (base + ·))) → call f args T base K := fun h => hcaw (call_own h)
  have hnX : len X = d.length := by rw [hlen, hX, len_map]
  cbv
  refine MW_loop hm [] [5, 6, 7] 8 (by simp) (fun mz st => ∃ (i : Int), (At d i ∧ hardD d = hardD (d.drop i.toNat)) ∧ mz = U.left d.length i ∧ st = stOf [.dead, .dead, .dead, .dead, .dead, .ro X, .flat (.int .i64 (len X)), .flat (.int .i64 i)] [] 0) (U.left d.length 0) ?_ ?_
  · exact ⟨0, ⟨at_zero d, rfl⟩, rfl, cut_eq (by cbv) (by rfl)⟩
  rintro mz st ⟨i, hi, hmz, rfl⟩
  cases hc : lt i (len X)
  · have hc' : decide (i < (d.length : Int)) = false := by rw [hlt, hnX] at hc; exact hc
    have : r = false := by rw [hr, hi.2, drop_end hi.1 hc']; rfl
    subst this
    cbv
    rw [hc]; cbv
    exact hQ _ _ trivial (hfin _ (by cbv))
  have hc' : decide (i < (d.length : Int)) = true := by rw [hlt, hnX] at hc; exact hc
  obtain ⟨hix, hadd, q1, q2, _, hdr, _⟩ := at_round (sz := 3) hX (fun _ => rfl) hs hi.1 hc'
  rw [← hnth] at hix
  rw [← har] at hadd
  have hi2 := hi.2
  rw [hdr] at hi2
  unfold hardD at hi2
  rw [List.any_cons] at hi2
  change hardD d = (decide ((atI d i).kind = 3) || hardD (d.drop (i + 1).toNat)) at hi2
  rw [← hr] at hi2
  have e3 : eq (atI d i).kind 3 = decide ((atI d i).kind = 3) := by rw [heq]
  generalize decide ((atI d i).kind = 3) = b3 at e3 hi2
  have hnext : b3 = false → At d (i + 1) ∧ hardD d = hardD (d.drop (i + 1).toNat) := fun h => ⟨q1, by rw [← hr, hi2, h]; rfl⟩
  generalize i + 1 = i2 at hadd q1 q2 hi2 hnext
  generalize atI d i = p at hix e3
  obtain ⟨kd, pn, tx⟩ := p
  unfold partC at hix
  dsimp only at hix e3
  cbv
  rw [hc]; cbv
  repeat (first | (rw [hbox]; cbv) | (rw [hsbox]; cbv) | (rw [hix]; cbv))
  rw [e3]; cases b3
  rotate_left
  · subst hi2
    cbv
    exact hQ _ _ trivial (hfin _ (by cbv))
  cbv
  rw [hadd]
  exact ⟨[], [5, 6, 7], 8, U.left d.length i2, hmz ▸ q2, by simp, i2, hnext rfl, rfl, cut_eq (by cbv) (by rfl)⟩
end Go.Proofs.Ytagflbmonlaioaa.D
