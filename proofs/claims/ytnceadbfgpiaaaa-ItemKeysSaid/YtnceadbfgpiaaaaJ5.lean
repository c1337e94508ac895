/- Contracts: item.Key; the law ItemKeys. -/
import Derived.Test.YtnceadbfgpiaaaaJ4
namespace Go.Proofs.Ytnceadbfgpiaaaa.J
open Go G U K I
set_option linter.unusedVariables false
set_option linter.unusedSimpArgs false
set_option maxRecDepth 100000
set_option maxHeartbeats 4000000
theorem fn12 : Try.prog.funcs[12]? = some Try.f12 := by kernel_rfl
theorem fn3 : Try.prog.funcs[3]? = some Try.f3 := by kernel_rfl
/-! ### Downwards -/
def DnAt {α : Type} (l : List α) (i : Int) : Prop := -1 ≤ i ∧ i < l.length
section
variable {α : Type} {l : List α} {i : Int}
theorem dn_zero (hs : l.length ≤ 1000) : DnAt l ((l.length : Int) - 1) ∧ arI .sub .i64 (l.length : Int) 1 = (l.length : Int) - 1 ∧ l.drop ((l.length : Int) - 1 + 1).toNat = [] := by
  refine ⟨⟨by omega, by omega⟩, ar_sub64 (by omega) (by omega), ?_⟩
  rw [show ((l.length : Int) - 1 + 1).toNat = l.length by omega, List.drop_length]
theorem dn_end (h : DnAt l i) (hc : decide (0 ≤ i) = false) : l.drop (i + 1).toNat = l := by
  have hc := of_decide_eq_false hc
  obtain ⟨h0, h1⟩ := h
  rw [show (i + 1).toNat = 0 by omega, List.drop_zero]
theorem dn_step [Inhabited α] (hs : l.length ≤ 1000) (h : DnAt l i) (hc : decide (0 ≤ i) = true) : 0 ≤ i ∧ i < l.length ∧ DnAt l (i - 1) ∧ (i - 1 + 1).toNat < (i + 1).toNat ∧ arI .sub .i64 i 1 = i - 1 ∧ (l.drop (i - 1 + 1).toNat).reverse = (l.drop (i + 1).toNat).reverse ++ [atI l i] ∧ (l.drop (i + 1).toNat).length ≤ 1000 := by
  have hc := of_decide_eq_true hc
  obtain ⟨h0, h1⟩ := h
  refine ⟨hc, h1, ⟨by omega, by omega⟩, by omega, ar_sub64 (by omega) (by omega), ?_, by rw [List.length_drop]; omega⟩
  rw [show (i - 1 + 1).toNat = i.toNat by omega, drop_next hc h1, List.reverse_cons]
end
/-! ### Bytes -/
theorem u70 : Try.prog.underlying 70 = some (.slice 5) := by kernel_rfl
theorem u9 : Try.prog.underlying 9 = some .string := by kernel_rfl
theorem u5 : Try.prog.underlying 5 = some (.int .u8) := by kernel_rfl
theorem z5 : tinfo Try.prog 5 = some (some (.int .u8 0), 1, 1) := by kernel_rfl
theorem c5 : Try.prog.cellsOf 5 = 1 := by kernel_rfl
def txt (bs : List UInt8) : ByteArray := ⟨bs.toArray⟩
def lookB (c : Nat) : List UInt8 := (List.range 8).map fun j => UInt8.ofNat (c / 2 ^ (8 * j) % 256)
def headB (x : ItemT) : List UInt8 := [UInt8.ofNat (x.prod.toNat / 256 % 256), UInt8.ofNat (x.prod.toNat % 256), UInt8.ofNat (x.dot.toNat / 256 % 256), UInt8.ofNat (x.dot.toNat % 256)]
def keyB (x : ItemT) : List UInt8 := headB x ++ lookB x.look
def keysB (l : List ItemT) : List UInt8 := (l.map keyB).flatten
theorem keyB_N (x : ItemT) : keyB x = (keyN x).map UInt8.ofNat := by
  simp [keyB, headB, lookB, keyN, List.range, List.range.loop]
theorem keysB_N (l : List ItemT) : keysB l = (keysN l).map UInt8.ofNat := by
  unfold keysB keysN
  rw [List.map_flatten, List.map_map]
  congr 1
  exact List.map_congr_left fun x _ => keyB_N x
theorem keyN_lt (x : ItemT) : ∀ m ∈ keyN x, m < 256 := by
  intro m hm
  simp only [keyN, List.mem_cons, List.not_mem_nil, or_false] at hm
  rcases hm with rfl | rfl | rfl | rfl | rfl | rfl | rfl | rfl | rfl | rfl | rfl | rfl <;> exact Nat.mod_lt _ (by decide)
theorem keysN_lt (l : List ItemT) : ∀ m ∈ keysN l, m < 256 := by
  intro m hm
  obtain ⟨k, hk, h⟩ := List.mem_flatten.1 hm
  obtain ⟨x, _, rfl⟩ := List.mem_map.1 hk
  exact keyN_lt x m h
theorem ofNat_inj : ∀ {a b : List Nat}, (∀ m ∈ a, m < 256) → (∀ m ∈ b, m < 256) → a.map UInt8.ofNat = b.map UInt8.ofNat → a = b
  | [], [], _, _, _ => rfl
  | [], _ :: _, _, _, h => by simp at h
  | _ :: _, [], _, _, h => by simp at h
  | x :: a, y :: b, ha, hb, h => by
    simp only [List.map_cons, List.cons.injEq] at h
    have h1 := congrArg UInt8.toNat h.1
    rw [UInt8.toNat_ofNat_of_lt' (ha x (by simp)), UInt8.toNat_ofNat_of_lt' (hb y (by simp))] at h1
    rw [h1, ofNat_inj (fun m hm => ha m (by simp [hm])) (fun m hm => hb m (by simp [hm])) h.2]
theorem keysB_inj {a b : List ItemT} (ha : ∀ x ∈ a, fewI x) (hb : ∀ x ∈ b, fewI x) (h : keysB a = keysB b) : a = b := by
  rw [keysB_N, keysB_N] at h
  exact keys_inj ha hb (ofNat_inj (keysN_lt a) (keysN_lt b) h)
theorem loop_eq (s : ByteArray) : ∀ (k i : Nat) (r : List UInt8), s.size - i = k → ByteArray.toList.loop s i r = r.reverse ++ s.data.toList.drop i := by
  intro k
  induction k with
  | zero =>
    intro i r h
    unfold ByteArray.toList.loop
    rw [if_neg (by omega), List.drop_eq_nil_of_le (by have : s.data.toList.length = s.size := rfl; omega), List.append_nil]
  | succ k ih =>
    intro i r h
    unfold ByteArray.toList.loop
    have hi : i < s.size := by omega
    rw [if_pos hi, ih (i + 1) _ (by omega)]
    have hl : i < s.data.toList.length := by have : s.data.toList.length = s.size := rfl; omega
    rw [List.drop_eq_getElem_cons hl, List.reverse_cons, List.append_assoc]
    have : s.get! i = s.data.toList[i] := by
      have h1 : i < s.data.size := hi
      show s.data[i]! = _
      rw [getElem!_pos s.data i h1]; rfl
    rw [this]; rfl
theorem toList_eq (s : ByteArray) : s.toList = s.data.toList := by
  unfold ByteArray.toList
  rw [loop_eq s _ 0 [] rfl]; rfl
theorem txt_inj {a b : List UInt8} (h : txt a = txt b) : a = b := by
  have := congrArg (fun s : ByteArray => s.data.toList) h
  simpa [txt] using this
theorem se_key {a b : List ItemT} (ha : ∀ x ∈ a, fewI x) (hb : ∀ x ∈ b, fewI x) : ((txt (keysB a)).toList == (txt (keysB b)).toList) = decide (a = b) := by
  rw [Bool.eq_iff_iff, beq_iff_eq, decide_eq_true_iff]
  constructor
  · intro h
    have h2 : txt (keysB a) = txt (keysB b) := by rw [toList_eq, toList_eq] at h; unfold txt at h ⊢; simp only at h; rw [h]
    exact keysB_inj ha hb (txt_inj h2)
  · rintro rfl; rfl
theorem keysB_app (l : List ItemT) (x : ItemT) : keysB (l ++ [x]) = keysB l ++ keyB x := by simp [keysB]
theorem keyB_len (x : ItemT) : (keyB x).length = 12 := by simp [keyB, headB, lookB]
theorem keysB_len : ∀ (l : List ItemT), (keysB l).length = 12 * l.length
  | [] => rfl
  | x :: l => by
    have : keysB (x :: l) = keyB x ++ keysB l := by simp [keysB]
    rw [this, List.length_append, keyB_len, keysB_len l, List.length_cons]; omega
theorem lookB_next {c : Nat} {k : Int} (h0 : 0 ≤ k) (h1 : k < 8) : (lookB c).take (k + 1).toNat = (lookB c).take k.toNat ++ [UInt8.ofNat (c / 2 ^ (8 * k.toNat) % 256)] := by
  have e : (k + 1).toNat = k.toNat + 1 := by omega
  have hl : (lookB c)[k.toNat]? = some (UInt8.ofNat (c / 2 ^ (8 * k.toNat) % 256)) := by
    unfold lookB
    rw [List.getElem?_map, List.getElem?_range (by omega)]; rfl
  rw [e, List.take_add_one, hl]; rfl
def KAt (bs : List UInt8) (n : Nat) (Y : List (List AV)) : Prop := n = bs.length ∧ Y.take n = bs.map byteC ∧ ∀ c ∈ Y, closedAll [] c = true
theorem kAt_le {bs : List UInt8} {n : Nat} {Y : List (List AV)} (h : KAt bs n Y) : n ≤ Y.length := by
  have := congrArg List.length h.2.1
  rw [List.length_take, List.length_map] at this
  have := h.1
  omega
theorem kAt_app {bs ms : List UInt8} {n n2 : Nat} {Y R : List (List AV)} (h : KAt bs n Y) (hR : R = ms.map byteC) (hn : n2 = n + ms.length) : KAt (bs ++ ms) n2 (Y.take n ++ R) := by
  obtain ⟨h1, h2, h3⟩ := h
  refine ⟨by rw [hn, h1, List.length_append], ?_, fun c hc => ?_⟩
  · rw [List.take_of_length_le (by rw [h2, hR, List.length_append, List.length_map, List.length_map]; omega), h2, hR, List.map_append]
  · rcases List.mem_append.1 hc with h | h
    · exact h3 c (List.mem_of_mem_take h)
    · rw [hR] at h; obtain ⟨b, _, rfl⟩ := List.mem_map.1 h; rfl
theorem app_bytes {bs ms : List UInt8} {n n2 m : Nat} {Y R : List (List AV)} (h : KAt bs n Y) (hR : R = ms.map byteC) (hm : m = ms.length) (hn : n2 = n + m) (hb : n2 ≤ 1000000) {T : Table} {id k0 k : Nat} (h0 : T k0 = some ⟨5, Y⟩) (h1 : T k = some ⟨5, R⟩) (hne : k ≠ k0) :
    evAppend Try.prog T id 70 70 (.sl k0 0 n) (.sl k 0 m) = some (.sl id 0 n2, (T.set k0 none).set id (some ⟨5, Y.take n ++ R⟩)) :=
  app_sl u70 u70 z5 c5 (by decide) rfl (by decide) h0 h1 hne (fun c hc => by rw [hR] at hc; obtain ⟨b, _, rfl⟩ := List.mem_map.1 hc; rfl) (kAt_le h) (by rw [hR, List.length_map]; omega) hn (by rw [List.take_of_length_le (i := m) (l := R) (by rw [hR, List.length_map]; omega)]) (by omega)
theorem conv_key {bs : List UInt8} {n : Nat} {Y : List (List AV)} (h : KAt bs n Y) {T : Table} {id : Nat} (hT : T id = some ⟨5, Y⟩) : evBytes Try.prog T 70 9 (.sl id 0 n) = some (.flat (.string (txt bs))) := by
  have hle := kAt_le h
  have hs : srcEls T (.sl id 0 n) = some (bs.map byteC) := by
    simp only [srcEls, hT, Option.bind_some, Nat.zero_add, List.drop_zero]
    rw [if_pos hle, h.2.1]
  have hf : srcFit Try.prog T 1 (.sl id 0 n) = true := by simp [srcFit, hT, c5]
  have hm : (bs.map byteC).mapM byteOfAV = some bs := by
    clear hs hle h
    induction bs with
    | nil => rfl
    | cons b bs ih =>
      rw [List.map_cons, List.mapM_cons, ih]
      show (some (UInt8.ofNat (b.toNat : Int).toNat)).bind _ = _
      simp
  simp only [evBytes, u70, u9, u5, z5, hf, if_true, hs, Option.bind_some, hm]
  rfl
theorem conv_b8 (k : Nat) (v : Int) : evP Try.prog (convert 26 5 (.int .u64 v)) = some (.flat (.int .u8 (v % 256))) := by kernel_rfl
theorem conv_b3 (v : Int) : evP Try.prog (convert 3 5 (.int .i64 v)) = some (.flat (.int .u8 (v % 256))) := by kernel_rfl
theorem byte_of (m : Nat) : ((m % 256 : Nat) : Int) = ((UInt8.ofNat (m % 256)).toNat : Int) := by
  rw [UInt8.toNat_ofNat_of_lt' (Nat.mod_lt _ (by decide))]
theorem shr_look (c : Nat) (k : Int) (h0 : 0 ≤ k) (h1 : k < 8) : dvOf Try.prog .shr 26 (.flat (.int .u64 (c : Int))) (.flat (.int .u64 (8 * k))) = some (.flat (.int .u64 ((c / 2 ^ (8 * k.toNat) : Nat) : Int))) := by
  rw [shr_eval _ _ _ _ _ (by omega)]
  have e : min (8 * k).toNat IntKind.u64.bits = 8 * k.toNat := by
    show min (8 * k).toNat 64 = _
    omega
  rw [e, Int.fdiv_eq_ediv_of_nonneg _ (Int.pow_nonneg (by decide))]
  congr 3
theorem shr_int (a : Int) (k : IntKind) : dvOf Try.prog .shr 3 (.flat (.int .i64 a)) (.flat (.int k 8)) = some (.flat (.int .i64 (a / 256))) := by
  rw [shr_eval _ _ _ _ _ (by decide)]
  have e : min (8 : Int).toNat IntKind.i64.bits = 8 := by decide
  rw [e, Int.fdiv_eq_ediv_of_nonneg _ (by decide)]; rfl
theorem bytes4 (x : ItemT) (h0 : 0 ≤ x.prod) (h1 : 0 ≤ x.dot) : [[AV.flat (.int .u8 (x.prod / 256 % 256))], [.flat (.int .u8 (x.prod % 256))], [.flat (.int .u8 (x.dot / 256 % 256))], [.flat (.int .u8 (x.dot % 256))]] = (headB x).map byteC := by
  have e : ∀ a : Int, 0 ≤ a → a % 256 = ((a.toNat % 256 : Nat) : Int) ∧ a / 256 % 256 = ((a.toNat / 256 % 256 : Nat) : Int) := fun a h => by omega
  rw [(e _ h0).1, (e _ h0).2, (e _ h1).1, (e _ h1).2, byte_of, byte_of, byte_of, byte_of]
  rfl
theorem key_calls (l : List ItemT) (hn : l.length ≤ 1000) (hf : ∀ x ∈ l, fewI x) : ACalls Try.prog 12 [.ro (l.map itemC)] (fun _ => .flat (.string (txt (keysB l)))) (fun _ => []) := by
  have hmk0 : ∀ (T : Table) (id : Nat), evMake Try.prog T id 70 (.flat (.int .i64 0)) (.flat (.int .i64 ((12 * l.length : Nat) : Int))) = some (.sl id 0 0, T.set id (some ⟨5, List.replicate (12 * l.length) [AV.flat (.int .u8 0)]⟩)) := fun T id => by
    have := mak_cap (P := Try.prog) (T := T) (id := id) (t := 70) (e := 5) (z := .int .u8 0) (sz := 1) (b := 1) (n := 0) (m := 12 * l.length) (k := .i64) (k' := .i64) u70 z5 (by decide) rfl rfl (by decide) (by omega) (by omega)
    exact this
  have hmul : arI .mul .i64 12 (l.length : Int) = ((12 * l.length : Nat) : Int) := by
    show IntKind.i64.wrap (12 * (l.length : Int)) = _
    rw [IntKind.wrap_i64]; omega
  obtain ⟨Y0, hY0⟩ : ∃ Y, Y = List.replicate (12 * l.length) [AV.flat (.int .u8 0)] := ⟨_, rfl⟩
  have hz : KAt (keysB (l.take (0 : Int).toNat)) 0 Y0 := ⟨rfl, rfl, fun c hc => by rw [hY0] at hc; rw [List.eq_of_mem_replicate hc]; rfl⟩
  have hz0 := at_zero l
  have hround : ∀ i, At l i → decide (i < (l.length : Int)) = true → ∃ x : ItemT, fewI x ∧ nthE (l.map itemC) i 3 = some (.rp (itemC x)) ∧ At l (i + 1) ∧ arI .add .i64 i 1 = i + 1 ∧ (l.length - (i + 1).toNat < l.length - i.toNat) ∧ keysB (l.take (i + 1).toNat) = keysB (l.take i.toNat) ++ headB x ++ lookB x.look ∧ (keysB (l.take i.toNat)).length ≤ 12000 := fun i h hc => by
    obtain ⟨_, h0, h1⟩ := at_lt h hc
    refine ⟨_, hf _ (at_mem h0 h1), nth_map (fun _ => rfl) h0 h1, (at_step h hc).1, ar_add64 (by omega) (by omega), by omega, ?_, ?_⟩
    · rw [take_next h0 h1, keysB_app, List.append_assoc]; rfl
    · rw [keysB_len, List.length_take]; omega
  have hend : ∀ i, At l i → decide (i < (l.length : Int)) = false → l.take i.toNat = l := fun i h hc => take_end h hc
  obtain ⟨X, hX⟩ : ∃ X, X = l.map itemC := ⟨_, rfl⟩
  have hXl : lenE X = (l.length : Int) := by rw [hX, len_map]
  rw [← hX] at hround ⊢
  rw [← hY0] at hmk0
  clear hX hY0 hf
  refine acalls_symF tabF_ok fn12 rfl rfl rfl (by kernel_rfl) ?_
  have hfin : ∀ st, resA Try.prog Try.f12 st = some (.flat (.string (txt (keysB l)))) → G.Leaves Try.prog Try.f12 (fun _ => .flat (.string (txt (keysB l)))) (fun _ => []) st := fun st h => G.Leaves.plain h rfl
  rintro ⟨lt, le, eq, se, ar, dv, una, conv, len, sln, nat, nth, ixs, cel, sto, app, cpy, slc, mak, ixv, oth, dk, ib, call⟩ hS hm Q hQ
  obtain ⟨hlt, hle, heq, hse, har, hdv, huna, hconv, hlen, hsln, hnat, hnth, hixs, hcel, hsto, happ, hcpy, hslc, hmak, hixv, hoth, hdk, hib, hcall⟩ := Sym.mk.inj hS
  clear hS
  have hnt : ∀ n : Nat, nat n = U.natI n := fun n => by rw [hnat]; rfl
  have hbox : ∀ e c off, cel (some ⟨e, [c]⟩) 0 off = if off ≤ c.length then some (c.drop off) else none := fun e c off => by rw [hcel]; rfl
  have hsbox : ∀ e c off sz y, sto (some ⟨e, [c]⟩) 0 off sz y = if y.cells.length = sz ∧ off + sz ≤ c.length ∧ y.cells.all AV.one = true then some ⟨e, [spl c off y.cells]⟩ else none := fun e c off sz y => by rw [hsto]; rfl
  have hcaw : ∀ {f args T base K}, CallK Try.prog f args T base K → call f args T base K := fun h => by rw [hcall]; exact h
  have hcal : ∀ {f args T base} {K : AV → Table → List Nat → List Nat → Prop}, (∃ args' ids val rows, Hands T ids args args' (val base) (rows base) ∧ ACalls Try.prog f args' val rows ∧ (rows base).length ≤ 8 ∧ K (val base) (adopt T base (rows base)) ids ((List.range (rows base).length).map (base + ·))) → call f args T base K := fun h => hcaw (call_own h)
  obtain ⟨cp, hcp⟩ : ∃ c : Int, c = ((12 * l.length : Nat) : Int) := ⟨_, rfl⟩
  have g1 : ar .mul .i64 12 (len X) = cp := by rw [har, hlen, hXl, hmul, hcp]
  have g2 : ∀ T id, mak T id 70 (.flat (.int .i64 0)) (.flat (.int .i64 cp)) = some (.sl id 0 0, T.set id (some ⟨5, Y0⟩)) := fun T id => by rw [hmak, hcp]; exact hmk0 T id
  have hend2 : ∀ i, At l i → lt i (len X) = false → l.take i.toNat = l := fun i h hc => hend i h (by rw [hlt, hlen, hXl] at hc; exact hc)
  have hround2 : ∀ i, At l i → lt i (len X) = true → ∃ x : ItemT, fewI x ∧ nth X i 3 = some (.rp (itemC x)) ∧ At l (i + 1) ∧ ar .add .i64 i 1 = i + 1 ∧ (l.length - (i + 1).toNat < l.length - i.toNat) ∧ keysB (l.take (i + 1).toNat) = keysB (l.take i.toNat) ++ headB x ++ lookB x.look ∧ (keysB (l.take i.toNat)).length ≤ 12000 := fun i h hc => by
    rw [hnth, har]; exact hround i h (by rw [hlt, hlen, hXl] at hc; exact hc)
  have hcv : ∀ (bs : List UInt8) (n : Nat) (Y : List (List AV)) (T : Table) (id : Nat), KAt bs n Y → T id = some ⟨5, Y⟩ → conv T 70 9 (.sl id 0 n) = some (.flat (.string (txt bs))) := fun bs n Y T id h hT => by rw [hconv]; exact conv_key h hT
  have hap : ∀ (bs ms : List UInt8) (n n2 m : Nat) (Y R : List (List AV)) (T : Table) (id k0 k : Nat), KAt bs n Y → R = ms.map byteC → m = ms.length → n2 = n + m → n2 ≤ 1000000 → T k0 = some ⟨5, Y⟩ → T k = some ⟨5, R⟩ → k ≠ k0 → app T id 70 70 (.sl k0 0 n) (.sl k 0 m) = some (.sl id 0 n2, (T.set k0 none).set id (some ⟨5, Y.take n ++ R⟩)) := fun bs ms n n2 m Y R T id k0 k h1 h2 h3 h4 h5 h6 h7 h8 => by
    rw [happ]; exact app_bytes h1 h2 h3 h4 h5 h6 h7 h8
  have hsh : ∀ a k, dv .shr 3 (.flat (.int .i64 a)) (.flat (.int k 8)) = some (.flat (.int .i64 (a / 256))) := fun a k => by rw [hdv]; exact shr_int a k
  have hb3 : ∀ T v, conv T 3 5 (.flat (.int .i64 v)) = some (.flat (.int .u8 (v % 256))) := fun T v => by rw [hconv]; exact conv_b3 v
  have hin : ∀ (c : Nat) (k : Int) (bs : List UInt8), 0 ≤ k → k ≤ 8 → lt k 8 = true → ∃ (k8 v b : Int) (ms : List UInt8), ar .mul .i64 8 k = k8 ∧ (∀ T, conv T 3 71 (.flat (.int .i64 k8)) = some (.flat (.int .u64 k8))) ∧ dv .shr 26 (.flat (.int .u64 (natI c))) (.flat (.int .u64 k8)) = some (.flat (.int .u64 v)) ∧ (∀ T, conv T 26 5 (.flat (.int .u64 v)) = some (.flat (.int .u8 b))) ∧ [[AV.flat (.int .u8 b)]] = ms.map byteC ∧ ms.length = 1 ∧ bs ++ (lookB c).take (k + 1).toNat = (bs ++ (lookB c).take k.toNat) ++ ms ∧ ar .add .i64 k 1 = k + 1 ∧ 0 ≤ k + 1 ∧ k + 1 ≤ 8 ∧ (8 - (k + 1)).toNat < (8 - k).toNat ∧ (bs ++ (lookB c).take k.toNat).length ≤ bs.length + 8 := fun c k bs h0 h1 hc => by
    rw [hlt] at hc
    have hc := of_decide_eq_true hc
    refine ⟨8 * k, ((c / 2 ^ (8 * k.toNat) : Nat) : Int), ((c / 2 ^ (8 * k.toNat) % 256 : Nat) : Int), [UInt8.ofNat (c / 2 ^ (8 * k.toNat) % 256)], ?_, fun T => by rw [hconv]; exact conv_i _ (by omega) (by omega), by rw [hdv]; exact shr_look c k h0 hc, fun T => by rw [hconv]; exact (conv_b8 0 _).trans (by rw [Int.natCast_emod]; rfl), by rw [byte_of]; rfl, rfl, by rw [lookB_next h0 hc, List.append_assoc], by rw [har, ar_add64 (by omega) (by omega)], by omega, by omega, by omega, ?_⟩
    · rw [har]
      show IntKind.i64.wrap (8 * k) = _
      rw [IntKind.wrap_i64]; omega
    · rw [List.length_append, List.length_take]; omega
  have hin8 : ∀ (c : Nat) (k : Int), 0 ≤ k → k ≤ 8 → lt k 8 = false → (lookB c).take k.toNat = lookB c := fun c k h0 h1 hc => by
    rw [hlt] at hc
    have hc := of_decide_eq_false hc
    exact List.take_of_length_le (by unfold lookB; rw [List.length_map, List.length_range]; omega)
  clear hmk0 hmul hround hend hXl hcp
  cbv
  rw [g1]; cbv
  rw [g2]; cbv
  refine MW_loop hm [32] [3, 11, 12, 13] 14 (by simp) (fun mz st => ∃ (i : Int) (n : Nat) (Y : List (List AV)), At l i ∧ KAt (keysB (l.take i.toNat)) n Y ∧ mz = l.length - i.toNat ∧ st = stOf [.dead, .dead, .dead, .sl 0 0 n, .dead, .dead, .dead, .dead, .dead, .dead, .dead, .ro X, .flat (.int .i64 (len X)), .flat (.int .i64 i)] [some ⟨5, Y⟩] 1) (l.length - (0 : Int).toNat) ?_ ?_
  · exact ⟨0, 0, Y0, hz0, hz, rfl, cut_eq (by cbv) (cutRows_cons (by rfl) (hz.2.2) rfl)⟩
  rintro mz st ⟨i, n, Y, hi, hY, hmz, rfl⟩
  cases hc : lt i (len X)
  · have he := hend2 i hi hc
    rw [he] at hY
    have hv := fun T id => hcv _ n Y T id hY
    cbv
    rw [hc]; cbv
    rw [hv _ _ (by rfl)]; cbv
    exact hQ _ _ trivial (hfin _ (by cbv))
  obtain ⟨x, hxf, x1, x2, x3, x4, x5, x6⟩ := hround2 i hi hc
  have hb0 := bytes4 x hxf.1 hxf.2.2.1
  obtain ⟨qa, qb, e1, e2, e3, e4, s1, s2, v1, v2, v3, v4, hb4⟩ : ∃ qa qb e1 e2 e3 e4 : Int, dv .shr 3 (.flat (.int .i64 x.prod)) (.flat (.int .u64 8)) = some (.flat (.int .i64 qa)) ∧ dv .shr 3 (.flat (.int .i64 x.dot)) (.flat (.int .u64 8)) = some (.flat (.int .i64 qb)) ∧ (∀ T, conv T 3 5 (.flat (.int .i64 qa)) = some (.flat (.int .u8 e1))) ∧ (∀ T, conv T 3 5 (.flat (.int .i64 x.prod)) = some (.flat (.int .u8 e2))) ∧ (∀ T, conv T 3 5 (.flat (.int .i64 qb)) = some (.flat (.int .u8 e3))) ∧ (∀ T, conv T 3 5 (.flat (.int .i64 x.dot)) = some (.flat (.int .u8 e4))) ∧ [[AV.flat (.int .u8 e1)], [.flat (.int .u8 e2)], [.flat (.int .u8 e3)], [.flat (.int .u8 e4)]] = (headB x).map byteC := ⟨_, _, _, _, _, _, hsh _ _, hsh _ _, fun T => hb3 T _, fun T => hb3 T _, fun T => hb3 T _, fun T => hb3 T _, hb0⟩
  clear hb0 hxf
  have hin2 := fun k bs => hin x.look k bs
  have hin82 := fun k => hin8 x.look k
  obtain ⟨xa, xb, xc⟩ := x
  unfold itemC at x1
  dsimp only at x1 x5 s1 s2 v2 v4 hin2 hin82
  generalize keysB (l.take i.toNat) = bs at hY x5 x6
  have hn12 : n ≤ 12000 := by rw [hY.1]; exact x6
  obtain ⟨n4, hn4⟩ : ∃ m, m = n + 4 := ⟨_, rfl⟩
  generalize headB ⟨xa, xb, xc⟩ = hb at hb4 x5
  have hb4l : hb.length = 4 := by have := congrArg List.length hb4; rw [List.length_map] at this; exact this.symm
  have hk4 := kAt_app hY hb4 (n2 := n4) (by rw [hb4l]; exact hn4)
  have ha4 := fun T id k0 k => hap bs hb n n4 4 Y _ T id k0 k hY hb4 hb4l.symm hn4 (by omega)
  obtain ⟨Y4, hY4⟩ : ∃ Z, Z = Y.take n ++ [[AV.flat (.int .u8 e1)], [.flat (.int .u8 e2)], [.flat (.int .u8 e3)], [.flat (.int .u8 e4)]] := ⟨_, rfl⟩
  rw [← hY4] at hk4 ha4
  obtain ⟨b4, hb4e⟩ : ∃ b, b = bs ++ hb := ⟨_, rfl⟩
  rw [← hb4e] at hk4 x5
  have hb4n : b4.length ≤ 12004 := by have := hk4.1; omega
  have hi0 : KAt (b4 ++ (lookB xc).take (0 : Int).toNat) n4 Y4 := by
    show KAt (b4 ++ []) n4 Y4
    rw [List.append_nil]; exact hk4
  rw [show ((xc : Nat) : Int) = natI xc from rfl] at x1
  generalize hxi : natI xc = xi at x1 hin2
  generalize i + 1 = i2 at x2 x3 x4 x5
  clear hY4 hb4e hb4 hb4l hxi
  cbv
  rw [hc]; cbv
  repeat (first | (rw [hbox]; cbv) | (rw [hsbox]; cbv) | (rw [x1]; cbv))
  repeat (first | (rw [hbox]; cbv) | (rw [hsbox]; cbv) | (rw [s1]; cbv) | (rw [s2]; cbv) | (rw [v1]; cbv) | (rw [v2]; cbv) | (rw [v3]; cbv) | (rw [v4]; cbv))
  rw [ha4 _ _ _ _ (by rfl) (by rfl) (by decide)]; cbv
  refine MW_loop hm [169, 25] [3, 5, 11, 12, 13, 34] 35 (by simp) (fun mz st => ∃ (k : Int) (m : Nat) (Z : List (List AV)), 0 ≤ k ∧ k ≤ 8 ∧ KAt (b4 ++ (lookB xc).take k.toNat) m Z ∧ mz = (8 - k).toNat ∧ st = stOf [.dead, .dead, .dead, .sl 0 0 m, .dead, .ptr 1 0 0, .dead, .dead, .dead, .dead, .dead, .ro X, .flat (.int .i64 (len X)), .flat (.int .i64 i), .dead, .dead, .dead, .dead, .dead, .dead, .dead, .dead, .dead, .dead, .dead, .dead, .dead, .dead, .dead, .dead, .dead, .dead, .dead, .dead, .flat (.int .i64 k)] [some ⟨5, Z⟩, some ⟨28, [[.flat (.int .i64 xa), .flat (.int .i64 xb), .flat (.int .u64 xi)]]⟩] 2) ((8 - (0 : Int)).toNat) ?_ ?_
  · exact ⟨0, n4, Y4, Int.le_refl 0, by decide, hi0, rfl, cut_eq (by cbv) (cutRows_cons (by rfl) (hi0.2.2) (cutRows_cons (by rfl) (by simp [closedAll, closedIn]) rfl))⟩
  rintro mb st ⟨k, m, Z, hk0, hk8, hZ, hmb, rfl⟩
  cases hc2 : lt k 8
  · rw [hin82 k hk0 hk8 hc2, ← x5] at hZ
    cbv
    rw [hc2]; cbv
    rw [x3]
    exact ⟨[0], [3, 11, 12, 13], 14, l.length - i2.toNat, hmz ▸ x4, by simp, i2, m, Z, x2, hZ, rfl, cut_eq (by cbv) (cutRows_cons (by rfl) (hZ.2.2) rfl)⟩
  obtain ⟨k8, v, b, ms, q1, q2, q3, q4, q5, q6, q7, q8, q9, q10, q11, q12⟩ := hin2 k b4 hk0 hk8 hc2
  have hm13 : m ≤ 12012 := by rw [hZ.1]; omega
  obtain ⟨m2, hm2⟩ : ∃ m2, m2 = m + 1 := ⟨_, rfl⟩
  have hk5 := kAt_app hZ q5 (n2 := m2) (by rw [q6]; exact hm2)
  have ha5 := fun T id k0 k => hap _ ms m m2 1 Z _ T id k0 k hZ q5 q6.symm hm2 (by omega)
  rw [← q7] at hk5
  obtain ⟨Z2, hZ2⟩ : ∃ Z2, Z2 = Z.take m ++ [[AV.flat (.int .u8 b)]] := ⟨_, rfl⟩
  rw [← hZ2] at hk5 ha5
  clear hZ2 q5 q7 q12
  generalize (8 - k).toNat = mb0 at q11 hmb
  generalize k + 1 = k2 at q8 q9 q10 q11 hk5
  cbv
  rw [hc2]; cbv
  repeat (first | (rw [hbox]; cbv) | (rw [hsbox]; cbv))
  rw [q1]; cbv
  repeat (first | (rw [hbox]; cbv) | (rw [hsbox]; cbv))
  rw [q2]; cbv
  rw [q3]; cbv
  rw [q4]; cbv
  rw [ha5 _ _ _ _ (by rfl) (by rfl) (by decide)]; cbv
  rw [q8]
  exact ⟨[98, 1], [3, 5, 11, 12, 13, 34], 35, (8 - k2).toNat, hmb ▸ q11, by simp, k2, m2, Z2, q9, q10, hk5, rfl, cut_eq (by cbv) (cutRows_cons (by rfl) (hk5.2.2) (cutRows_cons (by rfl) (by simp [closedAll, closedIn]) rfl))⟩
end Go.Proofs.Ytnceadbfgpiaaaa.J
