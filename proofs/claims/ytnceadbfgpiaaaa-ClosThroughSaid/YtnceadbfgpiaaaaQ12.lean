/- N0, N1, N2, one behind the other. -/
import Derived.Test.YtnceadbfgpiaaaaQ8
/- Results told by their kind; contracts of that form: in, word, Class, Name. -/
namespace Go.Proofs.Ytnceadbfgpiaaaa.N
open Go G U K I J
set_option linter.unusedVariables false
set_option linter.unusedSimpArgs false
set_option maxRecDepth 100000
set_option maxHeartbeats 4000000
theorem fn72 : Try.prog.funcs[72]? = some Try.f72 := by kernel_rfl
theorem fn80 : Try.prog.funcs[80]? = some Try.f80 := by kernel_rfl
theorem fn73 : Try.prog.funcs[73]? = some Try.f73 := by kernel_rfl
theorem fn69 : Try.prog.funcs[69]? = some Try.f69 := by kernel_rfl
theorem fn61 : Try.prog.funcs[61]? = some Try.f61 := by kernel_rfl
def shOk (sh : AV → Bool) : Option AV → Bool
  | some x => sh x && closedIn [] x
  | none => false
def RS (sh : AV → Bool) (val : Nat → AV) (rows : Nat → List Row) : Prop := ∃ x, sh x = true ∧ (val = fun _ => x) ∧ rows = fun _ => []
theorem rs_leaves {P : Program} {fn : Func} {st : St} {sh : AV → Bool} (h : shOk sh (resA P fn st) = true) : ∃ val rows, RS sh val rows ∧ G.Leaves P fn val rows st := by
  cases hr : resA P fn st with
  | none => rw [hr] at h; cases h
  | some x =>
    rw [hr] at h
    have h2 := Bool.and_eq_true_iff.1 h
    exact ⟨_, _, ⟨x, h2.1, rfl, rfl⟩, G.Leaves.plain hr h2.2⟩
def isB : AV → Bool
  | .flat (.bool _) => true
  | _ => false
def isI : AV → Bool
  | .flat (.int .i64 _) => true
  | _ => false
def isII : AV → Bool
  | .tup [.flat (.int .i64 _), .flat (.int .i64 _)] => true
  | _ => false
def isIII : AV → Bool
  | .tup [.flat (.int .i64 _), .flat (.int .i64 _), .flat (.int .i64 _)] => true
  | _ => false
theorem isB_of {x : AV} (h : isB x = true) : ∃ b, x = .flat (.bool b) := by
  unfold isB at h
  split at h
  · exact ⟨_, rfl⟩
  · cases h
theorem isI_of {x : AV} (h : isI x = true) : ∃ m, x = .flat (.int .i64 m) := by
  unfold isI at h
  split at h
  · exact ⟨_, rfl⟩
  · cases h
theorem isII_of {x : AV} (h : isII x = true) : ∃ a b, x = .tup [.flat (.int .i64 a), .flat (.int .i64 b)] := by
  unfold isII at h
  split at h
  · exact ⟨_, _, rfl⟩
  · cases h
theorem isIII_of {x : AV} (h : isIII x = true) : ∃ a b c, x = .tup [.flat (.int .i64 a), .flat (.int .i64 b), .flat (.int .i64 c)] := by
  unfold isIII at h
  split at h
  · exact ⟨_, _, _, rfl⟩
  · cases h
theorem u9 : Try.prog.underlying 9 = some .string := by kernel_rfl
theorem ix_next (s : ByteArray) (hs : s.size ≤ 1000000) {i : Int} (h0 : 0 ≤ i) (hc : decide (i < (s.size : Int)) = true) : ∃ v, evP Try.prog (Instr.index 9 (.string s) (.int .i64 i)) = some (.flat (.int .u8 v)) ∧ 0 ≤ v ∧ v < 256 ∧ arI .add .i64 i 1 = i + 1 ∧ 0 ≤ i + 1 ∧ (s.size - (i + 1).toNat < s.size - i.toNat) ∧ i < s.size := by
  have h1 : i < s.size := of_decide_eq_true hc
  refine ⟨_, ix_str u9 h0 h1, by omega, ?_, ar_add64 (by omega) (by omega), by omega, by omega, h1⟩
  have := UInt8.toNat_lt (s.data.toList.getD i.toNat 0)
  omega
theorem row_next (X : List (List AV)) {sz : Nat} (hX : ∀ c ∈ X, c.length = sz) (hl : X.length ≤ 1000000) {i : Int} (h0 : 0 ≤ i) (hc : decide (i < lenE X) = true) : ∃ c ∈ X, nthE X i sz = some (.rp c) ∧ arI .add .i64 i 1 = i + 1 ∧ 0 ≤ i + 1 ∧ (X.length - (i + 1).toNat < X.length - i.toNat) ∧ i < X.length := by
  have h1 : i < (X.length : Int) := of_decide_eq_true hc
  have h2 : i.toNat < X.length := by omega
  refine ⟨X[i.toNat], List.getElem_mem _, ?_, ar_add64 (by omega) (by omega), by omega, by omega, h1⟩
  unfold nthE
  rw [if_pos h0, List.getElem?_eq_getElem h2]
  simp only [Option.bind_some]
  rw [if_pos (hX _ (List.getElem_mem _))]
theorem in3_n (s : ByteArray) (c : Int) (hs : s.size ≤ 1000000) : NCalls Try.prog 72 [.flat (.string s), .flat (.int .u8 c)] (RS isB) := by
  refine ncalls_symN tabF_ok fn72 rfl rfl rfl (by kernel_rfl) ?_
  have hfin : ∀ st, shOk isB (resA Try.prog Try.f72 st) = true → ∃ val rows, RS isB val rows ∧ G.Leaves Try.prog Try.f72 val rows st := fun st h => rs_leaves h
  rintro N hN ⟨lt, le, eq, se, ar, dv, una, conv, len, sln, nat, nth, ixs, cel, sto, app, cpy, slc, mak, ixv, oth, dk, ib, call⟩ hS hm Q hQ
  obtain ⟨hlt, hle, heq, hse, har, hdv, huna, hconv, hlen, hsln, hnat, hnth, hixs, hcel, hsto, happ, hcpy, hslc, hmak, hixv, hoth, hdk, hib, hcall⟩ := Sym.mk.inj hS
  clear hS
  have hnt : ∀ n : Nat, nat n = U.natI n := fun n => by rw [hnat]; rfl
  have hbox : ∀ e c off, cel (some ⟨e, [c]⟩) 0 off = if off ≤ c.length then some (c.drop off) else none := fun e c off => by rw [hcel]; rfl
  have hsbox : ∀ e c off sz y, sto (some ⟨e, [c]⟩) 0 off sz y = if y.cells.length = sz ∧ off + sz ≤ c.length ∧ y.cells.all AV.one = true then some ⟨e, [spl c off y.cells]⟩ else none := fun e c off sz y => by rw [hsto]; rfl
  have hcaw : ∀ {f args T base K}, CallK Try.prog f args T base K → call f args T base K := fun h => by rw [hcall]; exact h
  have hcal : ∀ {f args T base} {K : AV → Table → List Nat → List Nat → Prop}, (∃ args' ids val rows, Hands T ids args args' (val base) (rows base) ∧ ACalls Try.prog f args' val rows ∧ (rows base).length ≤ 8 ∧ K (val base) (adopt T base (rows base)) ids ((List.range (rows base).length).map (base + ·))) → call f args T base K := fun h => hcaw (call_own h)
  have hcn : ∀ {f args T base} {K : AV → Table → Prop}, CallN Try.prog T base f args K → N f args T base K := fun h => by rw [hN]; exact h
  have hsx : ∀ (s : ByteArray) (i : Int), s.size ≤ 1000000 → 0 ≤ i → lt i (sln s) = true → ∃ v, ixv 9 (.flat (.string s)) (.flat (.int .i64 i)) = some (.flat (.int .u8 v)) ∧ 0 ≤ v ∧ v < 256 ∧ ar .add .i64 i 1 = i + 1 ∧ 0 ≤ i + 1 ∧ (s.size - (i + 1).toNat < s.size - i.toNat) ∧ i < s.size := fun s i hs h0 hc => by
    rw [hlt, hsln] at hc
    rw [hixv, har]
    exact ix_next s hs h0 hc
  have hrx : ∀ (X : List (List AV)) (sz : Nat) (i : Int), (∀ c ∈ X, c.length = sz) → X.length ≤ 1000000 → 0 ≤ i → lt i (len X) = true → ∃ c ∈ X, nth X i sz = some (.rp c) ∧ ar .add .i64 i 1 = i + 1 ∧ 0 ≤ i + 1 ∧ (X.length - (i + 1).toNat < X.length - i.toNat) ∧ i < X.length := fun X sz i hX hl h0 hc => by
    rw [hlt, hlen] at hc
    rw [hnth, har]
    exact row_next X hX hl h0 hc
  have hz0 : (0 : Int) ≤ 0 := Int.le_refl 0
  cbv
  refine MW_loop hm [] [0, 1, 5] 6 (by simp) (fun mz st => ∃ (i : Int), 0 ≤ i ∧ mz = s.size - i.toNat ∧ st = stOf [.flat (.string s), .flat (.int .u8 c), .dead, .dead, .dead, .flat (.int .i64 i)] [] 0) (s.size - (0 : Int).toNat) ?_ ?_
  · exact ⟨0, hz0, rfl, cut_eq (by cbv) (by rfl)⟩
  rintro mz st ⟨i, hi, hmz, rfl⟩
  cases hc : lt i (sln s)
  · cbv
    rw [hc]; cbv
    exact hQ _ _ trivial (hfin _ (by cbv))
  obtain ⟨v, q1, q2, q3, q4, q5, q6, q7⟩ := hsx s i hs hi hc
  generalize i + 1 = i2 at q4 q5 q6
  cases he : eq v c
  rotate_left
  · cbv
    rw [hc]; cbv
    rw [q1]; cbv
    rw [he]; cbv
    exact hQ _ _ trivial (hfin _ (by cbv))
  cbv
  rw [hc]; cbv
  rw [q1]; cbv
  rw [he]; cbv
  rw [q4]
  exact ⟨[], [0, 1, 5], 6, s.size - i2.toNat, hmz ▸ q6, by simp, i2, q5, rfl, cut_eq (by cbv) (by rfl)⟩
theorem in4_n (s : ByteArray) (c : Int) (hs : s.size ≤ 1000000) : NCalls Try.prog 80 [.flat (.string s), .flat (.int .u8 c)] (RS isB) := by
  refine ncalls_symN tabF_ok fn80 rfl rfl rfl (by kernel_rfl) ?_
  have hfin : ∀ st, shOk isB (resA Try.prog Try.f80 st) = true → ∃ val rows, RS isB val rows ∧ G.Leaves Try.prog Try.f80 val rows st := fun st h => rs_leaves h
  rintro N hN ⟨lt, le, eq, se, ar, dv, una, conv, len, sln, nat, nth, ixs, cel, sto, app, cpy, slc, mak, ixv, oth, dk, ib, call⟩ hS hm Q hQ
  obtain ⟨hlt, hle, heq, hse, har, hdv, huna, hconv, hlen, hsln, hnat, hnth, hixs, hcel, hsto, happ, hcpy, hslc, hmak, hixv, hoth, hdk, hib, hcall⟩ := Sym.mk.inj hS
  clear hS
  have hnt : ∀ n : Nat, nat n = U.natI n := fun n => by rw [hnat]; rfl
  have hbox : ∀ e c off, cel (some ⟨e, [c]⟩) 0 off = if off ≤ c.length then some (c.drop off) else none := fun e c off => by rw [hcel]; rfl
  have hsbox : ∀ e c off sz y, sto (some ⟨e, [c]⟩) 0 off sz y = if y.cells.length = sz ∧ off + sz ≤ c.length ∧ y.cells.all AV.one = true then some ⟨e, [spl c off y.cells]⟩ else none := fun e c off sz y => by rw [hsto]; rfl
  have hcaw : ∀ {f args T base K}, CallK Try.prog f args T base K → call f args T base K := fun h => by rw [hcall]; exact h
  have hcal : ∀ {f args T base} {K : AV → Table → List Nat → List Nat → Prop}, (∃ args' ids val rows, Hands T ids args args' (val base) (rows base) ∧ ACalls Try.prog f args' val rows ∧ (rows base).length ≤ 8 ∧ K (val base) (adopt T base (rows base)) ids ((List.range (rows base).length).map (base + ·))) → call f args T base K := fun h => hcaw (call_own h)
  have hcn : ∀ {f args T base} {K : AV → Table → Prop}, CallN Try.prog T base f args K → N f args T base K := fun h => by rw [hN]; exact h
  have hsx : ∀ (s : ByteArray) (i : Int), s.size ≤ 1000000 → 0 ≤ i → lt i (sln s) = true → ∃ v, ixv 9 (.flat (.string s)) (.flat (.int .i64 i)) = some (.flat (.int .u8 v)) ∧ 0 ≤ v ∧ v < 256 ∧ ar .add .i64 i 1 = i + 1 ∧ 0 ≤ i + 1 ∧ (s.size - (i + 1).toNat < s.size - i.toNat) ∧ i < s.size := fun s i hs h0 hc => by
    rw [hlt, hsln] at hc
    rw [hixv, har]
    exact ix_next s hs h0 hc
  have hrx : ∀ (X : List (List AV)) (sz : Nat) (i : Int), (∀ c ∈ X, c.length = sz) → X.length ≤ 1000000 → 0 ≤ i → lt i (len X) = true → ∃ c ∈ X, nth X i sz = some (.rp c) ∧ ar .add .i64 i 1 = i + 1 ∧ 0 ≤ i + 1 ∧ (X.length - (i + 1).toNat < X.length - i.toNat) ∧ i < X.length := fun X sz i hX hl h0 hc => by
    rw [hlt, hlen] at hc
    rw [hnth, har]
    exact row_next X hX hl h0 hc
  have hz0 : (0 : Int) ≤ 0 := Int.le_refl 0
  cbv
  refine MW_loop hm [] [0, 1, 5] 6 (by simp) (fun mz st => ∃ (i : Int), 0 ≤ i ∧ mz = s.size - i.toNat ∧ st = stOf [.flat (.string s), .flat (.int .u8 c), .dead, .dead, .dead, .flat (.int .i64 i)] [] 0) (s.size - (0 : Int).toNat) ?_ ?_
  · exact ⟨0, hz0, rfl, cut_eq (by cbv) (by rfl)⟩
  rintro mz st ⟨i, hi, hmz, rfl⟩
  cases hc : lt i (sln s)
  · cbv
    rw [hc]; cbv
    exact hQ _ _ trivial (hfin _ (by cbv))
  obtain ⟨v, q1, q2, q3, q4, q5, q6, q7⟩ := hsx s i hs hi hc
  generalize i + 1 = i2 at q4 q5 q6
  cases he : eq v c
  rotate_left
  · cbv
    rw [hc]; cbv
    rw [q1]; cbv
    rw [he]; cbv
    exact hQ _ _ trivial (hfin _ (by cbv))
  cbv
  rw [hc]; cbv
  rw [q1]; cbv
  rw [he]; cbv
  rw [q4]
  exact ⟨[], [0, 1, 5], 6, s.size - i2.toNat, hmz ▸ q6, by simp, i2, q5, rfl, cut_eq (by cbv) (by rfl)⟩
theorem word_n (c : Int) : NCalls Try.prog 73 [.flat (.int .u8 c)] (RS isB) := by
  have hcI := fun s hs => in3_n s c hs
  refine ncalls_symN tabF_ok fn73 rfl rfl rfl (by kernel_rfl) ?_
  have hfin : ∀ st, shOk isB (resA Try.prog Try.f73 st) = true → ∃ val rows, RS isB val rows ∧ G.Leaves Try.prog Try.f73 val rows st := fun st h => rs_leaves h
  rintro N hN ⟨lt, le, eq, se, ar, dv, una, conv, len, sln, nat, nth, ixs, cel, sto, app, cpy, slc, mak, ixv, oth, dk, ib, call⟩ hS hm Q hQ
  obtain ⟨hlt, hle, heq, hse, har, hdv, huna, hconv, hlen, hsln, hnat, hnth, hixs, hcel, hsto, happ, hcpy, hslc, hmak, hixv, hoth, hdk, hib, hcall⟩ := Sym.mk.inj hS
  clear hS
  have hnt : ∀ n : Nat, nat n = U.natI n := fun n => by rw [hnat]; rfl
  have hbox : ∀ e c off, cel (some ⟨e, [c]⟩) 0 off = if off ≤ c.length then some (c.drop off) else none := fun e c off => by rw [hcel]; rfl
  have hsbox : ∀ e c off sz y, sto (some ⟨e, [c]⟩) 0 off sz y = if y.cells.length = sz ∧ off + sz ≤ c.length ∧ y.cells.all AV.one = true then some ⟨e, [spl c off y.cells]⟩ else none := fun e c off sz y => by rw [hsto]; rfl
  have hcaw : ∀ {f args T base K}, CallK Try.prog f args T base K → call f args T base K := fun h => by rw [hcall]; exact h
  have hcal : ∀ {f args T base} {K : AV → Table → List Nat → List Nat → Prop}, (∃ args' ids val rows, Hands T ids args args' (val base) (rows base) ∧ ACalls Try.prog f args' val rows ∧ (rows base).length ≤ 8 ∧ K (val base) (adopt T base (rows base)) ids ((List.range (rows base).length).map (base + ·))) → call f args T base K := fun h => hcaw (call_own h)
  have hcn : ∀ {f args T base} {K : AV → Table → Prop}, CallN Try.prog T base f args K → N f args T base K := fun h => by rw [hN]; exact h
  have hsx : ∀ (s : ByteArray) (i : Int), s.size ≤ 1000000 → 0 ≤ i → lt i (sln s) = true → ∃ v, ixv 9 (.flat (.string s)) (.flat (.int .i64 i)) = some (.flat (.int .u8 v)) ∧ 0 ≤ v ∧ v < 256 ∧ ar .add .i64 i 1 = i + 1 ∧ 0 ≤ i + 1 ∧ (s.size - (i + 1).toNat < s.size - i.toNat) ∧ i < s.size := fun s i hs h0 hc => by
    rw [hlt, hsln] at hc
    rw [hixv, har]
    exact ix_next s hs h0 hc
  have hrx : ∀ (X : List (List AV)) (sz : Nat) (i : Int), (∀ c ∈ X, c.length = sz) → X.length ≤ 1000000 → 0 ≤ i → lt i (len X) = true → ∃ c ∈ X, nth X i sz = some (.rp c) ∧ ar .add .i64 i 1 = i + 1 ∧ 0 ≤ i + 1 ∧ (X.length - (i + 1).toNat < X.length - i.toNat) ∧ i < X.length := fun X sz i hX hl h0 hc => by
    rw [hlt, hlen] at hc
    rw [hnth, har]
    exact row_next X hX hl h0 hc
  cbv
  refine .inr (hcn ⟨_, [], _, hcI _ (by decide), .inl ⟨rfl, by cbv⟩, ?_⟩)
  rintro _ _ ⟨x0, hx0, rfl, rfl⟩
  obtain ⟨b, rfl⟩ := isB_of hx0
  refine ⟨Nat.zero_le _, ?_⟩
  cbv
  exact hQ _ _ trivial (hfin _ (by cbv))
theorem class_n (c : Int) : NCalls Try.prog 69 [.flat (.int .u8 c)] (RS isI) := by
  have hcI := fun s hs => in3_n s c hs
  have hcW := word_n c
  refine ncalls_symN tabF_ok fn69 rfl rfl rfl (by kernel_rfl) ?_
  have hfin : ∀ st, shOk isI (resA Try.prog Try.f69 st) = true → ∃ val rows, RS isI val rows ∧ G.Leaves Try.prog Try.f69 val rows st := fun st h => rs_leaves h
  rintro N hN ⟨lt, le, eq, se, ar, dv, una, conv, len, sln, nat, nth, ixs, cel, sto, app, cpy, slc, mak, ixv, oth, dk, ib, call⟩ hS hm Q hQ
  obtain ⟨hlt, hle, heq, hse, har, hdv, huna, hconv, hlen, hsln, hnat, hnth, hixs, hcel, hsto, happ, hcpy, hslc, hmak, hixv, hoth, hdk, hib, hcall⟩ := Sym.mk.inj hS
  clear hS
  have hnt : ∀ n : Nat, nat n = U.natI n := fun n => by rw [hnat]; rfl
  have hbox : ∀ e c off, cel (some ⟨e, [c]⟩) 0 off = if off ≤ c.length then some (c.drop off) else none := fun e c off => by rw [hcel]; rfl
  have hsbox : ∀ e c off sz y, sto (some ⟨e, [c]⟩) 0 off sz y = if y.cells.length = sz ∧ off + sz ≤ c.length ∧ y.cells.all AV.one = true then some ⟨e, [spl c off y.cells]⟩ else none := fun e c off sz y => by rw [hsto]; rfl
  have hcaw : ∀ {f args T base K}, CallK Try.prog f args T base K → call f args T base K := fun h => by rw [hcall]; exact h
  have hcal : ∀ {f args T base} {K : AV → Table → List Nat → List Nat → Prop}, (∃ args' ids val rows, Hands T ids args args' (val base) (rows base) ∧ ACalls Try.prog f args' val rows ∧ (rows base).length ≤ 8 ∧ K (val base) (adopt T base (rows base)) ids ((List.range (rows base).length).map (base + ·))) → call f args T base K := fun h => hcaw (call_own h)
  have hcn : ∀ {f args T base} {K : AV → Table → Prop}, CallN Try.prog T base f args K → N f args T base K := fun h => by rw [hN]; exact h
  have hsx : ∀ (s : ByteArray) (i : Int), s.size ≤ 1000000 → 0 ≤ i → lt i (sln s) = true → ∃ v, ixv 9 (.flat (.string s)) (.flat (.int .i64 i)) = some (.flat (.int .u8 v)) ∧ 0 ≤ v ∧ v < 256 ∧ ar .add .i64 i 1 = i + 1 ∧ 0 ≤ i + 1 ∧ (s.size - (i + 1).toNat < s.size - i.toNat) ∧ i < s.size := fun s i hs h0 hc => by
    rw [hlt, hsln] at hc
    rw [hixv, har]
    exact ix_next s hs h0 hc
  have hrx : ∀ (X : List (List AV)) (sz : Nat) (i : Int), (∀ c ∈ X, c.length = sz) → X.length ≤ 1000000 → 0 ≤ i → lt i (len X) = true → ∃ c ∈ X, nth X i sz = some (.rp c) ∧ ar .add .i64 i 1 = i + 1 ∧ 0 ≤ i + 1 ∧ (X.length - (i + 1).toNat < X.length - i.toNat) ∧ i < X.length := fun X sz i hX hl h0 hc => by
    rw [hlt, hlen] at hc
    rw [hnth, har]
    exact row_next X hX hl h0 hc
  cbv
  refine .inr (hcn ⟨_, [], _, hcI _ (by decide), .inl ⟨rfl, by cbv⟩, ?_⟩)
  rintro _ _ ⟨x0, hx0, rfl, rfl⟩
  obtain ⟨b1, rfl⟩ := isB_of hx0
  refine ⟨Nat.zero_le _, ?_⟩
  cbv
  cases b1
  rotate_left
  · cbv
    exact hQ _ _ trivial (hfin _ (by cbv))
  cbv
  refine .inr (hcn ⟨_, [], _, hcI _ (by decide), .inl ⟨rfl, by cbv⟩, ?_⟩)
  rintro _ _ ⟨x0, hx0, rfl, rfl⟩
  obtain ⟨b2, rfl⟩ := isB_of hx0
  refine ⟨Nat.zero_le _, ?_⟩
  cbv
  cases b2
  rotate_left
  · cbv
    exact hQ _ _ trivial (hfin _ (by cbv))
  cbv
  refine .inr (hcn ⟨_, [], _, hcW, .inl ⟨rfl, by cbv⟩, ?_⟩)
  rintro _ _ ⟨x0, hx0, rfl, rfl⟩
  obtain ⟨b3, rfl⟩ := isB_of hx0
  refine ⟨Nat.zero_le _, ?_⟩
  cbv
  cases b3
  rotate_left
  · cbv
    exact hQ _ _ trivial (hfin _ (by cbv))
  cbv
  cases e1 : eq c 95
  rotate_left
  · cbv
    exact hQ _ _ trivial (hfin _ (by cbv))
  cbv
  cases e2 : lt 32 c
  · cbv
    exact hQ _ _ trivial (hfin _ (by cbv))
  cbv
  cases e3 : lt c 127
  · cbv
    exact hQ _ _ trivial (hfin _ (by cbv))
  cbv
  exact hQ _ _ trivial (hfin _ (by cbv))
theorem name_n (s : ByteArray) (hs : s.size ≤ 1000000) : NCalls Try.prog 61 [.flat (.string s)] (RS isB) := by
  have hcC := class_n
  refine ncalls_symN tabF_ok fn61 rfl rfl rfl (by kernel_rfl) ?_
  have hfin : ∀ st, shOk isB (resA Try.prog Try.f61 st) = true → ∃ val rows, RS isB val rows ∧ G.Leaves Try.prog Try.f61 val rows st := fun st h => rs_leaves h
  rintro N hN ⟨lt, le, eq, se, ar, dv, una, conv, len, sln, nat, nth, ixs, cel, sto, app, cpy, slc, mak, ixv, oth, dk, ib, call⟩ hS hm Q hQ
  obtain ⟨hlt, hle, heq, hse, har, hdv, huna, hconv, hlen, hsln, hnat, hnth, hixs, hcel, hsto, happ, hcpy, hslc, hmak, hixv, hoth, hdk, hib, hcall⟩ := Sym.mk.inj hS
  clear hS
  have hnt : ∀ n : Nat, nat n = U.natI n := fun n => by rw [hnat]; rfl
  have hbox : ∀ e c off, cel (some ⟨e, [c]⟩) 0 off = if off ≤ c.length then some (c.drop off) else none := fun e c off => by rw [hcel]; rfl
  have hsbox : ∀ e c off sz y, sto (some ⟨e, [c]⟩) 0 off sz y = if y.cells.length = sz ∧ off + sz ≤ c.length ∧ y.cells.all AV.one = true then some ⟨e, [spl c off y.cells]⟩ else none := fun e c off sz y => by rw [hsto]; rfl
  have hcaw : ∀ {f args T base K}, CallK Try.prog f args T base K → call f args T base K := fun h => by rw [hcall]; exact h
  have hcal : ∀ {f args T base} {K : AV → Table → List Nat → List Nat → Prop}, (∃ args' ids val rows, Hands T ids args args' (val base) (rows base) ∧ ACalls Try.prog f args' val rows ∧ (rows base).length ≤ 8 ∧ K (val base) (adopt T base (rows base)) ids ((List.range (rows base).length).map (base + ·))) → call f args T base K := fun h => hcaw (call_own h)
  have hcn : ∀ {f args T base} {K : AV → Table → Prop}, CallN Try.prog T base f args K → N f args T base K := fun h => by rw [hN]; exact h
  have hsx : ∀ (s : ByteArray) (i : Int), s.size ≤ 1000000 → 0 ≤ i → lt i (sln s) = true → ∃ v, ixv 9 (.flat (.string s)) (.flat (.int .i64 i)) = some (.flat (.int .u8 v)) ∧ 0 ≤ v ∧ v < 256 ∧ ar .add .i64 i 1 = i + 1 ∧ 0 ≤ i + 1 ∧ (s.size - (i + 1).toNat < s.size - i.toNat) ∧ i < s.size := fun s i hs h0 hc => by
    rw [hlt, hsln] at hc
    rw [hixv, har]
    exact ix_next s hs h0 hc
  have hrx : ∀ (X : List (List AV)) (sz : Nat) (i : Int), (∀ c ∈ X, c.length = sz) → X.length ≤ 1000000 → 0 ≤ i → lt i (len X) = true → ∃ c ∈ X, nth X i sz = some (.rp c) ∧ ar .add .i64 i 1 = i + 1 ∧ 0 ≤ i + 1 ∧ (X.length - (i + 1).toNat < X.length - i.toNat) ∧ i < X.length := fun X sz i hX hl h0 hc => by
    rw [hlt, hlen] at hc
    rw [hnth, har]
    exact row_next X hX hl h0 hc
  have hz0 : (0 : Int) ≤ 0 := Int.le_refl 0
  cbv
  refine MW_loop hm [] [0, 3] 4 (by simp) (fun mz st => ∃ (i : Int), 0 ≤ i ∧ mz = s.size - i.toNat ∧ st = stOf [.flat (.string s), .dead, .dead, .flat (.int .i64 i)] [] 0) (s.size - (0 : Int).toNat) ?_ ?_
  · exact ⟨0, hz0, rfl, cut_eq (by cbv) (by rfl)⟩
  rintro mz st ⟨i, hi, hmz, rfl⟩
  cases hc : lt i (sln s)
  · cbv
    rw [hc]; cbv
    cases e1 : le 1 (sln s)
    · cbv
      exact hQ _ _ trivial (hfin _ (by cbv))
    · cbv
      exact hQ _ _ trivial (hfin _ (by cbv))
  obtain ⟨v, q1, q2, q3, q4, q5, q6, q7⟩ := hsx s i hs hi hc
  generalize i + 1 = i2 at q4 q5 q6
  cbv
  rw [hc]; cbv
  rw [q1]; cbv
  refine .inr (hcn ⟨_, [], _, hcC v, .inl ⟨rfl, by cbv⟩, ?_⟩)
  rintro _ _ ⟨x0, hx0, rfl, rfl⟩
  obtain ⟨k, rfl⟩ := isI_of hx0
  refine ⟨Nat.zero_le _, ?_⟩
  cbv
  cases e1 : eq k 3
  rotate_left
  · cbv
    rw [q4]
    exact ⟨[], [0, 3], 4, s.size - i2.toNat, hmz ▸ q6, by simp, i2, q5, rfl, cut_eq (by cbv) (by rfl)⟩
  cbv
  cases e2 : eq k 2
  · cbv
    exact hQ _ _ trivial (hfin _ (by cbv))
  cbv
  cases e3 : eq i 0
  · cbv
    rw [q4]
    exact ⟨[], [0, 3], 4, s.size - i2.toNat, hmz ▸ q6, by simp, i2, q5, rfl, cut_eq (by cbv) (by rfl)⟩
  cbv
  exact hQ _ _ trivial (hfin _ (by cbv))
end Go.Proofs.Ytnceadbfgpiaaaa.N
/- Contracts: bosketref17: Has, Encloses, seen, sort. -/
namespace Go.Proofs.Ytnceadbfgpiaaaa.N
open Go G U K I J
set_option linter.unusedVariables false
set_option linter.unusedSimpArgs false
set_option maxRecDepth 100000
set_option maxHeartbeats 4000000
theorem fn62 : Try.prog.funcs[62]? = some Try.f62 := by kernel_rfl
theorem fn63 : Try.prog.funcs[63]? = some Try.f63 := by kernel_rfl
theorem fn64 : Try.prog.funcs[64]? = some Try.f64 := by kernel_rfl
theorem fn52 : Try.prog.funcs[52]? = some Try.f52 := by kernel_rfl
def hasS (g : GramT) (s : SymT) : Bool := if s.sort = true then decide (0 ≤ s.n) && decide (s.n < (g.sorts.length : Int)) else decide (0 ≤ s.n) && (decide (s.n < (g.rules.length : Int)) && decide ((atI g.rules s.n).kind = 0))
theorem rule_cells {g : List RuleT} : ∀ c ∈ g.map ruleC, c.length = 3 := fun c hc => by obtain ⟨x, _, rfl⟩ := List.mem_map.1 hc; rfl
theorem str_cells {g : List ByteArray} : ∀ c ∈ g.map strC, c.length = 1 := fun c hc => by obtain ⟨x, _, rfl⟩ := List.mem_map.1 hc; rfl
theorem sym_cells {g : List SymT} : ∀ c ∈ g.map symC, c.length = 2 := fun c hc => by obtain ⟨x, _, rfl⟩ := List.mem_map.1 hc; rfl
theorem prod_cells {g : List ProdT} : ∀ c ∈ g.map prodC, c.length = 6 := fun c hc => by obtain ⟨x, _, rfl⟩ := List.mem_map.1 hc; rfl
theorem lev_cells {g : List LevT} : ∀ c ∈ g.map levC, c.length = 2 := fun c hc => by obtain ⟨x, _, rfl⟩ := List.mem_map.1 hc; rfl
theorem int_cells {g : List Int} : ∀ c ∈ g.map intC, c.length = 1 := fun c hc => by obtain ⟨x, _, rfl⟩ := List.mem_map.1 hc; rfl
theorem has_calls (g : GramT) (s : SymT) : ACalls Try.prog 62 [gramV g, .agg (symC s)] (fun _ => .flat (.bool (hasS g s))) (fun _ => []) := by
  have hb : ∀ b, s.sort = b → hasS g s = if b = true then decide (0 ≤ s.n) && decide (s.n < (g.sorts.length : Int)) else decide (0 ≤ s.n) && (decide (s.n < (g.rules.length : Int)) && decide ((atI g.rules s.n).kind = 0)) := fun b h => by rw [← h]; rfl
  have hn : 0 ≤ s.n → s.n < g.rules.length → nthE (g.rules.map ruleC) s.n 3 = some (.rp (ruleC (atI g.rules s.n))) := fun h0 h1 => nth_map (fun _ => rfl) h0 h1
  have hRl : lenE (g.rules.map ruleC) = (g.rules.length : Int) := len_map _ _
  have hSl : lenE (g.sorts.map strC) = (g.sorts.length : Int) := len_map _ _
  unfold gramV gramL symC
  generalize g.rules.map ruleC = R at *
  generalize g.sorts.map strC = S at *
  generalize g.prods.map prodC = D at *
  generalize g.levels.map levC = V at *
  generalize g.start = start at *
  unfold ruleC at hn
  generalize hasS g s = r at hb ⊢
  generalize (atI g.rules s.n).kind = rk at *
  generalize (atI g.rules s.n).name = rn at *
  generalize (atI g.rules s.n).regex = rx at *
  generalize g.rules.length = rl at *
  generalize g.sorts.length = sl at *
  obtain ⟨b, v⟩ := s
  dsimp only at *
  refine acalls_symF tabF_ok fn62 rfl rfl rfl (by kernel_rfl) ?_
  have hfin : ∀ st, resA Try.prog Try.f62 st = some (.flat (.bool r)) → G.Leaves Try.prog Try.f62 (fun _ => .flat (.bool r)) (fun _ => []) st := fun st h => G.Leaves.plain h rfl
  rintro ⟨lt, le, eq, se, ar, dv, una, conv, len, sln, nat, nth, ixs, cel, sto, app, cpy, slc, mak, ixv, oth, dk, ib, call⟩ hS hm Q hQ
  obtain ⟨hlt, hle, heq, hse, har, hdv, huna, hconv, hlen, hsln, hnat, hnth, hixs, hcel, hsto, happ, hcpy, hslc, hmak, hixv, hoth, hdk, hib, hcall⟩ := Sym.mk.inj hS
  clear hS
  have hnt : ∀ n : Nat, nat n = U.natI n := fun n => by rw [hnat]; rfl
  have hbox : ∀ e c off, cel (some ⟨e, [c]⟩) 0 off = if off ≤ c.length then some (c.drop off) else none := fun e c off => by rw [hcel]; rfl
  have hsbox : ∀ e c off sz y, sto (some ⟨e, [c]⟩) 0 off sz y = if y.cells.length = sz ∧ off + sz ≤ c.length ∧ y.cells.all AV.one = true then some ⟨e, [spl c off y.cells]⟩ else none := fun e c off sz y => by rw [hsto]; rfl
  have hcaw : ∀ {f args T base K}, CallK Try.prog f args T base K → call f args T base K := fun h => by rw [hcall]; exact h
  have hcal : ∀ {f args T base} {K : AV → Table → List Nat → List Nat → Prop}, (∃ args' ids val rows, Hands T ids args args' (val base) (rows base) ∧ ACalls Try.prog f args' val rows ∧ (rows base).length ≤ 8 ∧ K (val base) (adopt T base (rows base)) ids ((List.range (rows base).length).map (base + ·))) → call f args T base K := fun h => hcaw (call_own h)
  have eA : le 0 v = decide (0 ≤ v) := by rw [hle]
  have eB : lt v (len S) = decide (v < (sl : Int)) := by rw [hlt, hlen, hSl]
  have eC : lt v (len R) = decide (v < (rl : Int)) := by rw [hlt, hlen, hRl]
  have eD : eq rk 0 = decide (rk = 0) := by rw [heq]
  have hb1 : b = true → r = (le 0 v && lt v (len S)) := fun h => by rw [hb b rfl, if_pos h, eA, eB]
  have hb2 : b = false → r = (le 0 v && (lt v (len R) && eq rk 0)) := fun h => by rw [hb b rfl, if_neg (by rw [h]; decide), eA, eC, eD]
  have hn2 : le 0 v = true → lt v (len R) = true → nth R v 3 = some (.rp [.flat (.string rn), .flat (.int .i64 rk), .flat (.string rx)]) := fun h1 h2 => by
    rw [hnth]; exact hn (of_decide_eq_true (eA ▸ h1)) (of_decide_eq_true (eC ▸ h2))
  clear hb hn eA eB eC eD hRl hSl
  cases b
  rotate_left
  · have := hb1 rfl
    cbv
    repeat (first | (rw [hbox]; cbv) | (rw [hsbox]; cbv))
    cases e1 : le 0 v
    · rw [e1] at this
      replace this : r = false := this
      subst this
      cbv
      exact hQ _ _ trivial (hfin _ (by cbv))
    rw [e1, Bool.true_and] at this
    subst this
    cbv
    repeat (first | (rw [hbox]; cbv))
    exact hQ _ _ trivial (hfin _ (by cbv))
  have := hb2 rfl
  cbv
  repeat (first | (rw [hbox]; cbv) | (rw [hsbox]; cbv))
  cases e1 : le 0 v
  · rw [e1] at this
    replace this : r = false := this
    subst this
    cbv
    exact hQ _ _ trivial (hfin _ (by cbv))
  rw [e1, Bool.true_and] at this
  cbv
  repeat (first | (rw [hbox]; cbv))
  cases e2 : lt v (len R)
  · rw [e2] at this
    replace this : r = false := this
    subst this
    cbv
    exact hQ _ _ trivial (hfin _ (by cbv))
  rw [e2, Bool.true_and] at this
  subst this
  have hx := hn2 e1 e2
  cbv
  repeat (first | (rw [hbox]; cbv) | (rw [hx]; cbv))
  exact hQ _ _ trivial (hfin _ (by cbv))
theorem encloses_n (p : ProdT) : NCalls Try.prog 63 [.agg (prodC p)] (RS isB) := by
  obtain ⟨ps, pc, body, pp, pe, hints⟩ := p
  unfold prodC
  dsimp only
  have hB : (body.map symC).length = 3 → ∃ (b0 b1 b2 : Bool) (v0 v1 v2 : Int), nthE (body.map symC) 0 2 = some (.rp [.flat (.bool b0), .flat (.int .i64 v0)]) ∧ nthE (body.map symC) 1 2 = some (.rp [.flat (.bool b1), .flat (.int .i64 v1)]) ∧ nthE (body.map symC) 2 2 = some (.rp [.flat (.bool b2), .flat (.int .i64 v2)]) := fun h => by
    rw [List.length_map] at h
    exact ⟨_, _, _, _, _, _, nth_map (f := symC) (i := 0) (fun _ => rfl) (by decide) (by omega), nth_map (f := symC) (i := 1) (fun _ => rfl) (by decide) (by omega), nth_map (f := symC) (i := 2) (fun _ => rfl) (by decide) (by omega)⟩
  generalize body.map symC = B at hB ⊢
  generalize hints.map intC = H
  refine ncalls_symN tabF_ok fn63 rfl rfl rfl (by kernel_rfl) ?_
  have hfin : ∀ st, shOk isB (resA Try.prog Try.f63 st) = true → ∃ val rows, RS isB val rows ∧ G.Leaves Try.prog Try.f63 val rows st := fun st h => rs_leaves h
  rintro N hN ⟨lt, le, eq, se, ar, dv, una, conv, len, sln, nat, nth, ixs, cel, sto, app, cpy, slc, mak, ixv, oth, dk, ib, call⟩ hS hm Q hQ
  obtain ⟨hlt, hle, heq, hse, har, hdv, huna, hconv, hlen, hsln, hnat, hnth, hixs, hcel, hsto, happ, hcpy, hslc, hmak, hixv, hoth, hdk, hib, hcall⟩ := Sym.mk.inj hS
  clear hS
  have hnt : ∀ n : Nat, nat n = U.natI n := fun n => by rw [hnat]; rfl
  have hbox : ∀ e c off, cel (some ⟨e, [c]⟩) 0 off = if off ≤ c.length then some (c.drop off) else none := fun e c off => by rw [hcel]; rfl
  have hsbox : ∀ e c off sz y, sto (some ⟨e, [c]⟩) 0 off sz y = if y.cells.length = sz ∧ off + sz ≤ c.length ∧ y.cells.all AV.one = true then some ⟨e, [spl c off y.cells]⟩ else none := fun e c off sz y => by rw [hsto]; rfl
  have hcaw : ∀ {f args T base K}, CallK Try.prog f args T base K → call f args T base K := fun h => by rw [hcall]; exact h
  have hcal : ∀ {f args T base} {K : AV → Table → List Nat → List Nat → Prop}, (∃ args' ids val rows, Hands T ids args args' (val base) (rows base) ∧ ACalls Try.prog f args' val rows ∧ (rows base).length ≤ 8 ∧ K (val base) (adopt T base (rows base)) ids ((List.range (rows base).length).map (base + ·))) → call f args T base K := fun h => hcaw (call_own h)
  have hcn : ∀ {f args T base} {K : AV → Table → Prop}, CallN Try.prog T base f args K → N f args T base K := fun h => by rw [hN]; exact h
  have hsx : ∀ (s : ByteArray) (i : Int), s.size ≤ 1000000 → 0 ≤ i → lt i (sln s) = true → ∃ v, ixv 9 (.flat (.string s)) (.flat (.int .i64 i)) = some (.flat (.int .u8 v)) ∧ 0 ≤ v ∧ v < 256 ∧ ar .add .i64 i 1 = i + 1 ∧ 0 ≤ i + 1 ∧ (s.size - (i + 1).toNat < s.size - i.toNat) ∧ i < s.size := fun s i hs h0 hc => by
    rw [hlt, hsln] at hc
    rw [hixv, har]
    exact ix_next s hs h0 hc
  have hrx : ∀ (X : List (List AV)) (sz : Nat) (i : Int), (∀ c ∈ X, c.length = sz) → X.length ≤ 1000000 → 0 ≤ i → lt i (len X) = true → ∃ c ∈ X, nth X i sz = some (.rp c) ∧ ar .add .i64 i 1 = i + 1 ∧ 0 ≤ i + 1 ∧ (X.length - (i + 1).toNat < X.length - i.toNat) ∧ i < X.length := fun X sz i hX hl h0 hc => by
    rw [hlt, hlen] at hc
    rw [hnth, har]
    exact row_next X hX hl h0 hc
  have hB2 : eq (len B) 3 = true → ∃ (b0 b1 b2 : Bool) (v0 v1 v2 : Int), nth B 0 2 = some (.rp [.flat (.bool b0), .flat (.int .i64 v0)]) ∧ nth B 1 2 = some (.rp [.flat (.bool b1), .flat (.int .i64 v1)]) ∧ nth B 2 2 = some (.rp [.flat (.bool b2), .flat (.int .i64 v2)]) := fun h => by
    rw [hnth]
    refine hB ?_
    rw [heq, hlen] at h
    have h : (B.length : Int) = 3 := of_decide_eq_true h
    omega
  cases e1 : eq (len B) 3
  · cbv
    refine ⟨by rw [hdk]; kernel_rfl, ?_⟩
    repeat (first | (rw [hbox]; cbv))
    rw [e1]; cbv
    refine ⟨by rw [hib]; kernel_rfl, ?_⟩
    cbv
    exact hQ _ _ trivial (hfin _ (by cbv))
  obtain ⟨b0, b1, b2, v0, v1, v2, q0, q1, q2⟩ := hB2 e1
  cases b0
  rotate_left
  · skip
    cbv
    refine ⟨by rw [hdk]; kernel_rfl, ?_⟩
    repeat (first | (rw [hbox]; cbv) | (rw [hsbox]; cbv))
    rw [e1]; cbv
    repeat (first | (rw [hbox]; cbv) | (rw [hsbox]; cbv) | (rw [q0]; cbv) | (rw [q1]; cbv) | (rw [q2]; cbv))
    refine ⟨by rw [hib]; kernel_rfl, ?_⟩
    cbv
    exact hQ _ _ trivial (hfin _ (by cbv))
  cases b1
  · skip
    cbv
    refine ⟨by rw [hdk]; kernel_rfl, ?_⟩
    repeat (first | (rw [hbox]; cbv) | (rw [hsbox]; cbv))
    rw [e1]; cbv
    repeat (first | (rw [hbox]; cbv) | (rw [hsbox]; cbv) | (rw [q0]; cbv) | (rw [q1]; cbv) | (rw [q2]; cbv))
    refine ⟨by rw [hib]; kernel_rfl, ?_⟩
    cbv
    exact hQ _ _ trivial (hfin _ (by cbv))
  cases e4 : eq v1 ps
  · skip
    cbv
    refine ⟨by rw [hdk]; kernel_rfl, ?_⟩
    repeat (first | (rw [hbox]; cbv) | (rw [hsbox]; cbv))
    rw [e1]; cbv
    repeat (first | (rw [hbox]; cbv) | (rw [hsbox]; cbv) | (rw [q0]; cbv) | (rw [q1]; cbv) | (rw [q2]; cbv))
    rw [e4]; cbv
    repeat (first | (rw [hbox]; cbv) | (rw [hsbox]; cbv) | (rw [q0]; cbv) | (rw [q1]; cbv) | (rw [q2]; cbv))
    refine ⟨by rw [hib]; kernel_rfl, ?_⟩
    cbv
    exact hQ _ _ trivial (hfin _ (by cbv))
  cases b2
  · skip
    cbv
    refine ⟨by rw [hdk]; kernel_rfl, ?_⟩
    repeat (first | (rw [hbox]; cbv) | (rw [hsbox]; cbv))
    rw [e1]; cbv
    repeat (first | (rw [hbox]; cbv) | (rw [hsbox]; cbv) | (rw [q0]; cbv) | (rw [q1]; cbv) | (rw [q2]; cbv))
    rw [e4]; cbv
    repeat (first | (rw [hbox]; cbv) | (rw [hsbox]; cbv) | (rw [q0]; cbv) | (rw [q1]; cbv) | (rw [q2]; cbv))
    refine ⟨by rw [hib]; kernel_rfl, ?_⟩
    cbv
    exact hQ _ _ trivial (hfin _ (by cbv))
  cbv
  refine ⟨by rw [hdk]; kernel_rfl, ?_⟩
  repeat (first | (rw [hbox]; cbv) | (rw [hsbox]; cbv))
  rw [e1]; cbv
  repeat (first | (rw [hbox]; cbv) | (rw [hsbox]; cbv) | (rw [q0]; cbv) | (rw [q1]; cbv) | (rw [q2]; cbv))
  rw [e4]; cbv
  repeat (first | (rw [hbox]; cbv) | (rw [hsbox]; cbv) | (rw [q0]; cbv) | (rw [q1]; cbv) | (rw [q2]; cbv))
  refine ⟨by rw [hib]; kernel_rfl, ?_⟩
  cbv
  exact hQ _ _ trivial (hfin _ (by cbv))
structure GB (g : GramT) : Prop where
  rl : g.rules.length ≤ 1000
  sl : g.sorts.length ≤ 1000
  pl : g.prods.length ≤ 1000
  ll : g.levels.length ≤ 1000
  r : ∀ x ∈ g.rules, x.name.size ≤ 1000 ∧ x.regex.size ≤ 1000
  s : ∀ x ∈ g.sorts, x.size ≤ 1000
  p : ∀ x ∈ g.prods, x.con.size ≤ 1000 ∧ x.body.length ≤ 1000 ∧ x.hints.length ≤ 1000
  l : ∀ x ∈ g.levels, x.rules.length ≤ 1000
theorem gb_few {g : GramT} (h : fewG g = true) : GB g := by
  simp only [fewG, fewR, Bool.and_eq_true, Bool.not_eq_true', decide_eq_false_iff_not, List.all_eq_true, prodOk, ruleOk, sortOk, levOk] at h
  obtain ⟨⟨h0, h00⟩, h1, h2, h3, h4, h5, h6⟩ := h
  exact ⟨by omega, by omega, by omega, by omega, fun x hx => by have := h00 x hx; omega, fun x hx => by have := h4 x hx; omega, fun x hx => by have := h5 x hx; omega, fun x hx => by have := h6 x hx; omega⟩
theorem seen_n (g : GramT) (hg : GB g) (i k : Int) (h0 : 0 ≤ i) (h1 : i < g.levels.length) (k0 : 0 ≤ k) (k1 : k < (atI g.levels i).rules.length) : NCalls Try.prog 64 [gramV g, .flat (.int .i64 i), .flat (.int .i64 k)] (RS isB) := by
  have hV : ∀ a : Int, 0 ≤ a → a < g.levels.length → ∃ (sd : Int) (l : List Int), l.length ≤ 1000 ∧ nthE (g.levels.map levC) a 2 = some (.rp [.flat (.int .i64 sd), .ro (l.map intC)]) := fun a q0 q1 =>
    ⟨_, _, hg.l _ (at_mem q0 q1), nth_map (f := levC) (fun _ => rfl) q0 q1⟩
  have hI : ∃ (sd : Int) (RI : List (List AV)) (v : Int), nthE (g.levels.map levC) i 2 = some (.rp [.flat (.int .i64 sd), .ro RI]) ∧ nthE RI k 1 = some (.rp [.flat (.int .i64 v)]) :=
    ⟨_, _, _, nth_map (f := levC) (fun _ => rfl) h0 h1, nth_map (f := intC) (fun _ => rfl) k0 k1⟩
  have hl := hg.ll
  unfold gramV gramL
  clear hg k1
  generalize g.rules.map ruleC = R at *
  generalize g.sorts.map strC = S at *
  generalize g.prods.map prodC = D at *
  generalize g.levels.map levC = V at *
  generalize g.start = start at *
  generalize g.levels.length = ln at *
  refine ncalls_symN tabF_ok fn64 rfl rfl rfl (by kernel_rfl) ?_
  have hfin : ∀ st, shOk isB (resA Try.prog Try.f64 st) = true → ∃ val rows, RS isB val rows ∧ G.Leaves Try.prog Try.f64 val rows st := fun st h => rs_leaves h
  rintro N hN ⟨lt, le, eq, se, ar, dv, una, conv, len, sln, nat, nth, ixs, cel, sto, app, cpy, slc, mak, ixv, oth, dk, ib, call⟩ hS hm Q hQ
  obtain ⟨hlt, hle, heq, hse, har, hdv, huna, hconv, hlen, hsln, hnat, hnth, hixs, hcel, hsto, happ, hcpy, hslc, hmak, hixv, hoth, hdk, hib, hcall⟩ := Sym.mk.inj hS
  clear hS
  have hnt : ∀ n : Nat, nat n = U.natI n := fun n => by rw [hnat]; rfl
  have hbox : ∀ e c off, cel (some ⟨e, [c]⟩) 0 off = if off ≤ c.length then some (c.drop off) else none := fun e c off => by rw [hcel]; rfl
  have hsbox : ∀ e c off sz y, sto (some ⟨e, [c]⟩) 0 off sz y = if y.cells.length = sz ∧ off + sz ≤ c.length ∧ y.cells.all AV.one = true then some ⟨e, [spl c off y.cells]⟩ else none := fun e c off sz y => by rw [hsto]; rfl
  have hcaw : ∀ {f args T base K}, CallK Try.prog f args T base K → call f args T base K := fun h => by rw [hcall]; exact h
  have hcal : ∀ {f args T base} {K : AV → Table → List Nat → List Nat → Prop}, (∃ args' ids val rows, Hands T ids args args' (val base) (rows base) ∧ ACalls Try.prog f args' val rows ∧ (rows base).length ≤ 8 ∧ K (val base) (adopt T base (rows base)) ids ((List.range (rows base).length).map (base + ·))) → call f args T base K := fun h => hcaw (call_own h)
  have hcn : ∀ {f args T base} {K : AV → Table → Prop}, CallN Try.prog T base f args K → N f args T base K := fun h => by rw [hN]; exact h
  have hsx : ∀ (s : ByteArray) (i : Int), s.size ≤ 1000000 → 0 ≤ i → lt i (sln s) = true → ∃ v, ixv 9 (.flat (.string s)) (.flat (.int .i64 i)) = some (.flat (.int .u8 v)) ∧ 0 ≤ v ∧ v < 256 ∧ ar .add .i64 i 1 = i + 1 ∧ 0 ≤ i + 1 ∧ (s.size - (i + 1).toNat < s.size - i.toNat) ∧ i < s.size := fun s i hs h0 hc => by
    rw [hlt, hsln] at hc
    rw [hixv, har]
    exact ix_next s hs h0 hc
  have hrx : ∀ (X : List (List AV)) (sz : Nat) (i : Int), (∀ c ∈ X, c.length = sz) → X.length ≤ 1000000 → 0 ≤ i → lt i (len X) = true → ∃ c ∈ X, nth X i sz = some (.rp c) ∧ ar .add .i64 i 1 = i + 1 ∧ 0 ≤ i + 1 ∧ (X.length - (i + 1).toNat < X.length - i.toNat) ∧ i < X.length := fun X sz i hX hl h0 hc => by
    rw [hlt, hlen] at hc
    rw [hnth, har]
    exact row_next X hX hl h0 hc
  obtain ⟨sd0, RI, v0, z1, z2⟩ := hI
  have z1 : nth V i 2 = some (.rp [.flat (.int .i64 sd0), .ro RI]) := by rw [hnth]; exact z1
  have z2 : nth RI k 1 = some (.rp [.flat (.int .i64 v0)]) := by rw [hnth]; exact z2
  have hout : ∀ a : Int, 0 ≤ a → le a i = true → ∃ (sd : Int) (l : List Int), l.length ≤ 1000 ∧ nth V a 2 = some (.rp [.flat (.int .i64 sd), .ro (l.map intC)]) ∧ ar .add .i64 a 1 = a + 1 ∧ 0 ≤ a + 1 ∧ (i + 1 - (a + 1)).toNat < (i + 1 - a).toNat := fun a q0 hc => by
    rw [hle] at hc
    have hc : a ≤ i := of_decide_eq_true hc
    obtain ⟨sd, l, q1, q2⟩ := hV a q0 (by omega)
    exact ⟨sd, l, q1, by rw [hnth]; exact q2, by rw [har, ar_add64 (by omega) (by omega)], by omega, by omega⟩
  have hin : ∀ (l : List Int) (b : Int), l.length ≤ 1000 → 0 ≤ b → lt b (len (l.map intC)) = true → ∃ v : Int, nth (l.map intC) b 1 = some (.rp [.flat (.int .i64 v)]) ∧ ar .add .i64 b 1 = b + 1 ∧ 0 ≤ b + 1 ∧ (l.length - (b + 1).toNat < l.length - b.toNat) := fun l b hl2 q0 hc => by
    obtain ⟨c, hc1, q1, q2, q3, q4, _⟩ := hrx (l.map intC) 1 b int_cells (by rw [List.length_map]; omega) q0 hc
    obtain ⟨v, _, rfl⟩ := List.mem_map.1 hc1
    rw [List.length_map] at q4
    exact ⟨v, q1, q2, q3, q4⟩
  have hz0 : (0 : Int) ≤ 0 := Int.le_refl 0
  clear hV h0 h1 k0
  cbv
  repeat (first | (rw [hbox]; cbv) | (rw [hsbox]; cbv))
  refine MW_loop hm [0] [1, 2, 3, 7] 8 (by simp) (fun mz st => ∃ (a : Int), 0 ≤ a ∧ mz = (i + 1 - a).toNat ∧ st = stOf [.dead, .flat (.int .i64 i), .flat (.int .i64 k), .ptr 0 0 0, .dead, .dead, .dead, .flat (.int .i64 a)] [some ⟨39, [[.ro R, .ro S, .ro D, .ro V, .flat (.int .i64 start)]]⟩] 1) ((i + 1 - 0).toNat) ?_ ?_
  · exact ⟨0, hz0, rfl, cut_eq (by cbv) (cutRows_cons (by rfl) (by simp [closedAll, closedIn]) rfl)⟩
  rintro mz st ⟨a, ha, hmz, rfl⟩
  cases hc : le a i
  · cbv
    rw [hc]; cbv
    exact hQ _ _ trivial (hfin _ (by cbv))
  obtain ⟨sd, l, hl2, q1, q2, q3, q4⟩ := hout a ha hc
  have hin2 := fun b => hin l b hl2
  generalize l.length = ll at hin2
  generalize l.map intC = RA at q1 hin2
  generalize a + 1 = a2 at q2 q3 q4
  cbv
  rw [hc]; cbv
  refine MW_loop hm [0] [1, 2, 3, 7, 8] 9 (by simp) (fun mz st => ∃ (b : Int), 0 ≤ b ∧ mz = ll - b.toNat ∧ st = stOf [.dead, .flat (.int .i64 i), .flat (.int .i64 k), .ptr 0 0 0, .dead, .dead, .dead, .flat (.int .i64 a), .flat (.int .i64 b)] [some ⟨39, [[.ro R, .ro S, .ro D, .ro V, .flat (.int .i64 start)]]⟩] 1) (ll - (0 : Int).toNat) ?_ ?_
  · exact ⟨0, hz0, rfl, cut_eq (by cbv) (cutRows_cons (by rfl) (by simp [closedAll, closedIn]) rfl)⟩
  rintro mb st ⟨b, hb, hmb, rfl⟩
  cases hc2 : lt b (len RA)
  · cbv
    repeat (first | (rw [hbox]; cbv) | (rw [hsbox]; cbv) | (rw [q1]; cbv))
    rw [hc2]; cbv
    rw [q2]
    exact ⟨[0], [1, 2, 3, 7], 8, (i + 1 - a2).toNat, hmz ▸ q4, by simp, a2, q3, rfl, cut_eq (by cbv) (cutRows_cons (by rfl) (by simp [closedAll, closedIn]) rfl)⟩
  obtain ⟨v, p1, p2, p3, p4⟩ := hin2 b hb hc2
  generalize b + 1 = b2 at p2 p3 p4
  cases e1 : eq a i
  · cbv
    repeat (first | (rw [hbox]; cbv) | (rw [hsbox]; cbv) | (rw [q1]; cbv))
    rw [hc2]; cbv
    rw [e1]; cbv
    refine ⟨by rw [hdk]; kernel_rfl, ?_⟩
    repeat (first | (rw [hbox]; cbv) | (rw [hsbox]; cbv) | (rw [q1]; cbv) | (rw [p1]; cbv) | (rw [z1]; cbv) | (rw [z2]; cbv))
    cases e5 : eq v v0
    · cbv
      refine ⟨by rw [hib]; kernel_rfl, ?_⟩
      cbv
      rw [p2]
      exact ⟨[0], [1, 2, 3, 7, 8], 9, ll - b2.toNat, hmb ▸ p4, by simp, b2, p3, rfl, cut_eq (by cbv) (cutRows_cons (by rfl) (by simp [closedAll, closedIn]) rfl)⟩
    cbv
    refine ⟨by rw [hib]; kernel_rfl, ?_⟩
    cbv
    exact hQ _ _ trivial (hfin _ (by cbv))
  cases e2 : le k b
  rotate_left
  · cbv
    repeat (first | (rw [hbox]; cbv) | (rw [hsbox]; cbv) | (rw [q1]; cbv))
    rw [hc2]; cbv
    rw [e1]; cbv
    rw [e2]; cbv
    exact hQ _ _ trivial (hfin _ (by cbv))
  cbv
  repeat (first | (rw [hbox]; cbv) | (rw [hsbox]; cbv) | (rw [q1]; cbv))
  rw [hc2]; cbv
  rw [e1]; cbv
  rw [e2]; cbv
  refine ⟨by rw [hdk]; kernel_rfl, ?_⟩
  repeat (first | (rw [hbox]; cbv) | (rw [hsbox]; cbv) | (rw [q1]; cbv) | (rw [p1]; cbv) | (rw [z1]; cbv) | (rw [z2]; cbv))
  cases e5 : eq v v0
  · cbv
    refine ⟨by rw [hib]; kernel_rfl, ?_⟩
    cbv
    rw [p2]
    exact ⟨[0], [1, 2, 3, 7, 8], 9, ll - b2.toNat, hmb ▸ p4, by simp, b2, p3, rfl, cut_eq (by cbv) (cutRows_cons (by rfl) (by simp [closedAll, closedIn]) rfl)⟩
  cbv
  refine ⟨by rw [hib]; kernel_rfl, ?_⟩
  cbv
  exact hQ _ _ trivial (hfin _ (by cbv))
theorem sort_n (g : GramT) (hg : GB g) (i : Int) (h0 : 0 ≤ i) (h1 : i < g.sorts.length) : NCalls Try.prog 52 [gramV g, .flat (.int .i64 i)] (RS isI) := by
  have hcNm := name_n (atI g.sorts i) (by have := hg.s _ (at_mem h0 h1); omega)
  have hS : ∀ a : Int, 0 ≤ a → a < g.sorts.length → ∃ s, nthE (g.sorts.map strC) a 1 = some (.rp [.flat (.string s)]) := fun a q0 q1 => ⟨_, nth_map (f := strC) (fun _ => rfl) q0 q1⟩
  have hI : nthE (g.sorts.map strC) i 1 = some (.rp [.flat (.string (atI g.sorts i))]) := nth_map (f := strC) (fun _ => rfl) h0 h1
  have hl := hg.sl
  have hrl := hg.rl
  unfold gramV gramL
  obtain ⟨rs, hrs⟩ : ∃ r, r = g.rules := ⟨_, rfl⟩
  rw [← hrs] at hrl ⊢
  clear hg hrs
  generalize g.sorts.map strC = S at *
  generalize g.prods.map prodC = D at *
  generalize g.levels.map levC = V at *
  generalize g.start = start at *
  generalize atI g.sorts i = nm at *
  generalize g.sorts.length = ln at *
  refine ncalls_symN tabF_ok fn52 rfl rfl rfl (by kernel_rfl) ?_
  have hfin : ∀ st, shOk isI (resA Try.prog Try.f52 st) = true → ∃ val rows, RS isI val rows ∧ G.Leaves Try.prog Try.f52 val rows st := fun st h => rs_leaves h
  rintro N hN ⟨lt, le, eq, se, ar, dv, una, conv, len, sln, nat, nth, ixs, cel, sto, app, cpy, slc, mak, ixv, oth, dk, ib, call⟩ hS hm Q hQ
  obtain ⟨hlt, hle, heq, hse, har, hdv, huna, hconv, hlen, hsln, hnat, hnth, hixs, hcel, hsto, happ, hcpy, hslc, hmak, hixv, hoth, hdk, hib, hcall⟩ := Sym.mk.inj hS
  clear hS
  have hnt : ∀ n : Nat, nat n = U.natI n := fun n => by rw [hnat]; rfl
  have hbox : ∀ e c off, cel (some ⟨e, [c]⟩) 0 off = if off ≤ c.length then some (c.drop off) else none := fun e c off => by rw [hcel]; rfl
  have hsbox : ∀ e c off sz y, sto (some ⟨e, [c]⟩) 0 off sz y = if y.cells.length = sz ∧ off + sz ≤ c.length ∧ y.cells.all AV.one = true then some ⟨e, [spl c off y.cells]⟩ else none := fun e c off sz y => by rw [hsto]; rfl
  have hcaw : ∀ {f args T base K}, CallK Try.prog f args T base K → call f args T base K := fun h => by rw [hcall]; exact h
  have hcal : ∀ {f args T base} {K : AV → Table → List Nat → List Nat → Prop}, (∃ args' ids val rows, Hands T ids args args' (val base) (rows base) ∧ ACalls Try.prog f args' val rows ∧ (rows base).length ≤ 8 ∧ K (val base) (adopt T base (rows base)) ids ((List.range (rows base).length).map (base + ·))) → call f args T base K := fun h => hcaw (call_own h)
  have hcn : ∀ {f args T base} {K : AV → Table → Prop}, CallN Try.prog T base f args K → N f args T base K := fun h => by rw [hN]; exact h
  have hsx : ∀ (s : ByteArray) (i : Int), s.size ≤ 1000000 → 0 ≤ i → lt i (sln s) = true → ∃ v, ixv 9 (.flat (.string s)) (.flat (.int .i64 i)) = some (.flat (.int .u8 v)) ∧ 0 ≤ v ∧ v < 256 ∧ ar .add .i64 i 1 = i + 1 ∧ 0 ≤ i + 1 ∧ (s.size - (i + 1).toNat < s.size - i.toNat) ∧ i < s.size := fun s i hs h0 hc => by
    rw [hlt, hsln] at hc
    rw [hixv, har]
    exact ix_next s hs h0 hc
  have hrx : ∀ (X : List (List AV)) (sz : Nat) (i : Int), (∀ c ∈ X, c.length = sz) → X.length ≤ 1000000 → 0 ≤ i → lt i (len X) = true → ∃ c ∈ X, nth X i sz = some (.rp c) ∧ ar .add .i64 i 1 = i + 1 ∧ 0 ≤ i + 1 ∧ (X.length - (i + 1).toNat < X.length - i.toNat) ∧ i < X.length := fun X sz i hX hl h0 hc => by
    rw [hlt, hlen] at hc
    rw [hnth, har]
    exact row_next X hX hl h0 hc
  have hI2 : nth S i 1 = some (.rp [.flat (.string nm)]) := by rw [hnth]; exact hI
  have hs1 : ∀ a : Int, 0 ≤ a → lt a i = true → ∃ s, nth S a 1 = some (.rp [.flat (.string s)]) ∧ ar .add .i64 a 1 = a + 1 ∧ 0 ≤ a + 1 ∧ (i - (a + 1)).toNat < (i - a).toNat := fun a q0 hc => by
    rw [hlt] at hc
    have hc : a < i := of_decide_eq_true hc
    obtain ⟨s, q1⟩ := hS a q0 (by omega)
    exact ⟨s, by rw [hnth]; exact q1, by rw [har, ar_add64 (by omega) (by omega)], by omega, by omega⟩
  have hr1 : ∀ a : Int, 0 ≤ a → lt a (len (rs.map ruleC)) = true → ∃ (n : ByteArray) (kd : Int) (rx : ByteArray), nth (rs.map ruleC) a 3 = some (.rp [.flat (.string n), .flat (.int .i64 kd), .flat (.string rx)]) ∧ ar .add .i64 a 1 = a + 1 ∧ 0 ≤ a + 1 ∧ (rs.length - (a + 1).toNat < rs.length - a.toNat) := fun a q0 hc => by
    obtain ⟨c, hc1, q1, q2, q3, q4, _⟩ := hrx (rs.map ruleC) 3 a rule_cells (by rw [List.length_map]; omega) q0 hc
    obtain ⟨x, _, rfl⟩ := List.mem_map.1 hc1
    rw [List.length_map] at q4
    exact ⟨_, _, _, q1, q2, q3, q4⟩
  have hz0 : (0 : Int) ≤ 0 := Int.le_refl 0
  generalize rs.length = rl at hr1
  generalize rs.map ruleC = R at *
  clear hS h0 h1 hI hl hrl
  cbv
  repeat (first | (rw [hbox]; cbv) | (rw [hsbox]; cbv) | (rw [hI2]; cbv))
  refine .inr (hcn ⟨_, [], _, hcNm, .inl ⟨rfl, by cbv⟩, ?_⟩)
  rintro _ _ ⟨x0, hx0, rfl, rfl⟩
  obtain ⟨b, rfl⟩ := isB_of hx0
  refine ⟨Nat.zero_le _, ?_⟩
  cbv
  cases b
  · cbv
    exact hQ _ _ trivial (hfin _ (by cbv))
  cbv
  refine MW_loop hm [0] [1, 2, 5] 6 (by simp) (fun mz st => ∃ (a : Int), 0 ≤ a ∧ mz = (i - a).toNat ∧ st = stOf [.dead, .flat (.int .i64 i), .ptr 0 0 0, .dead, .dead, .flat (.int .i64 a)] [some ⟨39, [[.ro R, .ro S, .ro D, .ro V, .flat (.int .i64 start)]]⟩] 1) ((i - 0).toNat) ?_ ?_
  · exact ⟨0, hz0, rfl, cut_eq (by cbv) (cutRows_cons (by rfl) (by simp [closedAll, closedIn]) rfl)⟩
  rintro mz st ⟨a, ha, hmz, rfl⟩
  cases hc : lt a i
  rotate_left
  · obtain ⟨s, q1, q2, q3, q4⟩ := hs1 a ha hc
    generalize a + 1 = a2 at q2 q3 q4
    cbv
    rw [hc]; cbv
    refine ⟨by rw [hdk]; kernel_rfl, ?_⟩
    repeat (first | (rw [hbox]; cbv) | (rw [hsbox]; cbv) | (rw [q1]; cbv) | (rw [hI2]; cbv))
    cases e1 : se s nm
    · cbv
      refine ⟨by rw [hib]; kernel_rfl, ?_⟩
      cbv
      rw [q2]
      exact ⟨[0], [1, 2, 5], 6, (i - a2).toNat, hmz ▸ q4, by simp, a2, q3, rfl, cut_eq (by cbv) (cutRows_cons (by rfl) (by simp [closedAll, closedIn]) rfl)⟩
    cbv
    refine ⟨by rw [hib]; kernel_rfl, ?_⟩
    cbv
    exact hQ _ _ trivial (hfin _ (by cbv))
  cbv
  rw [hc]; cbv
  refine MW_loop hm [0] [1, 2, 6] 7 (by simp) (fun mz st => ∃ (a : Int), 0 ≤ a ∧ mz = rl - a.toNat ∧ st = stOf [.dead, .flat (.int .i64 i), .ptr 0 0 0, .dead, .dead, .dead, .flat (.int .i64 a)] [some ⟨39, [[.ro R, .ro S, .ro D, .ro V, .flat (.int .i64 start)]]⟩] 1) (rl - (0 : Int).toNat) ?_ ?_
  · exact ⟨0, hz0, rfl, cut_eq (by cbv) (cutRows_cons (by rfl) (by simp [closedAll, closedIn]) rfl)⟩
  rintro mb st ⟨a, ha, hmb, rfl⟩
  cases hc2 : lt a (len R)
  · cbv
    repeat (first | (rw [hbox]; cbv) | (rw [hsbox]; cbv))
    rw [hc2]; cbv
    exact hQ _ _ trivial (hfin _ (by cbv))
  obtain ⟨n, kd, rx, q1, q2, q3, q4⟩ := hr1 a ha hc2
  generalize a + 1 = a2 at q2 q3 q4
  cbv
  repeat (first | (rw [hbox]; cbv) | (rw [hsbox]; cbv))
  rw [hc2]; cbv
  refine ⟨by rw [hdk]; kernel_rfl, ?_⟩
  repeat (first | (rw [hbox]; cbv) | (rw [hsbox]; cbv) | (rw [q1]; cbv) | (rw [hI2]; cbv))
  cases e1 : se n nm
  · cbv
    refine ⟨by rw [hib]; kernel_rfl, ?_⟩
    cbv
    rw [q2]
    exact ⟨[0], [1, 2, 6], 7, rl - a2.toNat, hmb ▸ q4, by simp, a2, q3, rfl, cut_eq (by cbv) (cutRows_cons (by rfl) (by simp [closedAll, closedIn]) rfl)⟩
  cbv
  refine ⟨by rw [hib]; kernel_rfl, ?_⟩
  cbv
  exact hQ _ _ trivial (hfin _ (by cbv))
end Go.Proofs.Ytnceadbfgpiaaaa.N
/- Contracts: bosketref17: prod, level. -/
namespace Go.Proofs.Ytnceadbfgpiaaaa.N
open Go G U K I J
set_option linter.unusedVariables false
set_option linter.unusedSimpArgs false
set_option maxRecDepth 100000
set_option maxHeartbeats 4000000
theorem fn53 : Try.prog.funcs[53]? = some Try.f53 := by kernel_rfl
theorem fn54 : Try.prog.funcs[54]? = some Try.f54 := by kernel_rfl
theorem oth_max {P : Program} {T : Table} {id : Nat} {ρ : Operand → Option AV} {x y : Operand} {ts : Array TypeId} {a b : Int} {ty : TypeId} (hx : ρ x = some (.flat (.int .i64 a))) (hy : ρ y = some (.flat (.int .i64 b))) : evOp P T id ρ ty (.call { callee := .builtin .max, args := #[x, y], argTypes := ts }) = some (.flat (.int .i64 (max a b)), T) := by
  have h : evP P (Builtin.max_ #[] ty #[.int .i64 a, .int .i64 b]) = some (.flat (.int .i64 (max a b))) := by
    show evP P (pure (.int .i64 (if b > a then b else a)) : Sem Value) = _
    have : (if b > a then b else a) = max a b := by rw [Int.max_def]; split <;> split <;> omega
    rw [this]; rfl
  show (match (ρ x).bind AV.val?, (match (ρ y).bind AV.val?, some [] with | some a, some r => some (a :: r) | _, _ => none) with | some a, some r => some (a :: r) | _, _ => none).bind (fun us => (evP P (Builtin.max_ #[] ty us.toArray)).map (·, T)) = _
  rw [hx, hy]
  show (evP P (Builtin.max_ #[] ty #[.int .i64 a, .int .i64 b])).map (·, T) = _
  rw [h]; rfl
theorem prod_n (g : GramT) (hg : GB g) (i : Int) (h0 : 0 ≤ i) (h1 : i < g.prods.length) : NCalls Try.prog 53 [gramV g, .flat (.int .i64 i)] (RS isI) := by
  have hcE := encloses_n (atI g.prods i)
  have hcNm := name_n (atI g.prods i).con (by have := hg.p _ (at_mem h0 h1); omega)
  have hD : ∀ a : Int, 0 ≤ a → a < g.prods.length → ∃ (ps : Int) (s : ByteArray) (B : List (List AV)) (pp : Bool) (pe : Int) (H : List (List AV)), nthE (g.prods.map prodC) a 6 = some (.rp [.flat (.int .i64 ps), .flat (.string s), .ro B, .flat (.bool pp), .flat (.int .i64 pe), .ro H]) := fun a q0 q1 => ⟨_, _, _, _, _, _, nth_map (f := prodC) (fun _ => rfl) q0 q1⟩
  have hI : nthE (g.prods.map prodC) i 6 = some (.rp (prodC (atI g.prods i))) := nth_map (f := prodC) (fun _ => rfl) h0 h1
  have hpl := hg.pl
  have hb := (hg.p _ (at_mem h0 h1)).2.1
  have hh := (hg.p _ (at_mem h0 h1)).2.2
  have hcH : ∃ hs : Bool → Int → Bool, ∀ b v, ACalls Try.prog 62 [gramV g, .agg [.flat (.bool b), .flat (.int .i64 v)]] (fun _ => .flat (.bool (hs b v))) (fun _ => []) := ⟨fun b v => hasS g ⟨b, v⟩, fun b v => has_calls g ⟨b, v⟩⟩
  obtain ⟨hs, hcH⟩ := hcH
  unfold gramV gramL at *
  generalize atI g.prods i = p at *
  clear hg
  obtain ⟨ps, pc, body, pp, pe, hints⟩ := p
  generalize g.prods.length = ln at *
  generalize g.rules.map ruleC = R at *
  generalize g.sorts.map strC = S at *
  generalize g.prods.map prodC = D at *
  generalize g.levels.map levC = V at *
  generalize g.start = start at *
  unfold prodC at hI hcE
  dsimp only at *
  refine ncalls_symN tabF_ok fn53 rfl rfl rfl (by kernel_rfl) ?_
  have hfin : ∀ st, shOk isI (resA Try.prog Try.f53 st) = true → ∃ val rows, RS isI val rows ∧ G.Leaves Try.prog Try.f53 val rows st := fun st h => rs_leaves h
  rintro N hN ⟨lt, le, eq, se, ar, dv, una, conv, len, sln, nat, nth, ixs, cel, sto, app, cpy, slc, mak, ixv, oth, dk, ib, call⟩ hS hm Q hQ
  obtain ⟨hlt, hle, heq, hse, har, hdv, huna, hconv, hlen, hsln, hnat, hnth, hixs, hcel, hsto, happ, hcpy, hslc, hmak, hixv, hoth, hdk, hib, hcall⟩ := Sym.mk.inj hS
  clear hS
  have hnt : ∀ n : Nat, nat n = U.natI n := fun n => by rw [hnat]; rfl
  have hbox : ∀ e c off, cel (some ⟨e, [c]⟩) 0 off = if off ≤ c.length then some (c.drop off) else none := fun e c off => by rw [hcel]; rfl
  have hsbox : ∀ e c off sz y, sto (some ⟨e, [c]⟩) 0 off sz y = if y.cells.length = sz ∧ off + sz ≤ c.length ∧ y.cells.all AV.one = true then some ⟨e, [spl c off y.cells]⟩ else none := fun e c off sz y => by rw [hsto]; rfl
  have hcaw : ∀ {f args T base K}, CallK Try.prog f args T base K → call f args T base K := fun h => by rw [hcall]; exact h
  have hcal : ∀ {f args T base} {K : AV → Table → List Nat → List Nat → Prop}, (∃ args' ids val rows, Hands T ids args args' (val base) (rows base) ∧ ACalls Try.prog f args' val rows ∧ (rows base).length ≤ 8 ∧ K (val base) (adopt T base (rows base)) ids ((List.range (rows base).length).map (base + ·))) → call f args T base K := fun h => hcaw (call_own h)
  have hcn : ∀ {f args T base} {K : AV → Table → Prop}, CallN Try.prog T base f args K → N f args T base K := fun h => by rw [hN]; exact h
  have hsx : ∀ (s : ByteArray) (i : Int), s.size ≤ 1000000 → 0 ≤ i → lt i (sln s) = true → ∃ v, ixv 9 (.flat (.string s)) (.flat (.int .i64 i)) = some (.flat (.int .u8 v)) ∧ 0 ≤ v ∧ v < 256 ∧ ar .add .i64 i 1 = i + 1 ∧ 0 ≤ i + 1 ∧ (s.size - (i + 1).toNat < s.size - i.toNat) ∧ i < s.size := fun s i hs h0 hc => by
    rw [hlt, hsln] at hc
    rw [hixv, har]
    exact ix_next s hs h0 hc
  have hrx : ∀ (X : List (List AV)) (sz : Nat) (i : Int), (∀ c ∈ X, c.length = sz) → X.length ≤ 1000000 → 0 ≤ i → lt i (len X) = true → ∃ c ∈ X, nth X i sz = some (.rp c) ∧ ar .add .i64 i 1 = i + 1 ∧ 0 ≤ i + 1 ∧ (X.length - (i + 1).toNat < X.length - i.toNat) ∧ i < X.length := fun X sz i hX hl h0 hc => by
    rw [hlt, hlen] at hc
    rw [hnth, har]
    exact row_next X hX hl h0 hc
  have hI2 : nth D i 6 = some (.rp [.flat (.int .i64 ps), .flat (.string pc), .ro (body.map symC), .flat (.bool pp), .flat (.int .i64 pe), .ro (hints.map intC)]) := by rw [hnth]; exact hI
  have hs1 : ∀ a : Int, 0 ≤ a → lt a i = true → ∃ (ps : Int) (s : ByteArray) (B : List (List AV)) (pp : Bool) (pe : Int) (H : List (List AV)), nth D a 6 = some (.rp [.flat (.int .i64 ps), .flat (.string s), .ro B, .flat (.bool pp), .flat (.int .i64 pe), .ro H]) ∧ ar .add .i64 a 1 = a + 1 ∧ 0 ≤ a + 1 ∧ (i - (a + 1)).toNat < (i - a).toNat := fun a q0 hc => by
    rw [hlt] at hc
    have hc : a < i := of_decide_eq_true hc
    obtain ⟨ps, s, B, pp, pe, H, q1⟩ := hD a q0 (by omega)
    exact ⟨ps, s, B, pp, pe, H, by rw [hnth]; exact q1, by rw [har, ar_add64 (by omega) (by omega)], by omega, by omega⟩
  have hb1 : ∀ a : Int, 0 ≤ a → lt a (len (body.map symC)) = true → ∃ (b : Bool) (v : Int), nth (body.map symC) a 2 = some (.rp [.flat (.bool b), .flat (.int .i64 v)]) ∧ ar .add .i64 a 1 = a + 1 ∧ 0 ≤ a + 1 ∧ (body.length - (a + 1).toNat < body.length - a.toNat) := fun a q0 hc => by
    obtain ⟨c, hc1, q1, q2, q3, q4, _⟩ := hrx (body.map symC) 2 a sym_cells (by rw [List.length_map]; omega) q0 hc
    obtain ⟨x, _, rfl⟩ := List.mem_map.1 hc1
    rw [List.length_map] at q4
    exact ⟨_, _, q1, q2, q3, q4⟩
  have hh1 : ∀ a : Int, 0 ≤ a → lt a (len (hints.map intC)) = true → ∃ (v : Int), nth (hints.map intC) a 1 = some (.rp [.flat (.int .i64 v)]) ∧ ar .add .i64 a 1 = a + 1 ∧ 0 ≤ a + 1 ∧ (hints.length - (a + 1).toNat < hints.length - a.toNat) := fun a q0 hc => by
    obtain ⟨c, hc1, q1, q2, q3, q4, _⟩ := hrx (hints.map intC) 1 a int_cells (by rw [List.length_map]; omega) q0 hc
    obtain ⟨x, _, rfl⟩ := List.mem_map.1 hc1
    rw [List.length_map] at q4
    exact ⟨_, q1, q2, q3, q4⟩
  have hz0 : (0 : Int) ≤ 0 := Int.le_refl 0
  have hmx : ∀ (T : Table) (id : Nat) (ρ : Operand → Option AV) (ty : TypeId) (x y : Operand) ts (a b : Int), ρ x = some (.flat (.int .i64 a)) → ρ y = some (.flat (.int .i64 b)) → oth T id ρ ty (.call { callee := .builtin .max, args := #[x, y], argTypes := ts }) = some (.flat (.int .i64 (max a b)), T) := fun T id ρ ty x y ts a b h1 h2 => by
    rw [hoth]; exact oth_max h1 h2
  generalize body.length = bl at hb1
  generalize hints.length = hl at hh1
  generalize body.map symC = B at *
  generalize hints.map intC = H at *
  clear hD h0 h1 hI hpl hb hh
  cbv
  repeat (first | (rw [hbox]; cbv) | (rw [hsbox]; cbv) | (rw [hI2]; cbv))
  cases e1 : lt ps 0
  rotate_left
  · cbv
    exact hQ _ _ trivial (hfin _ (by cbv))
  cbv
  repeat (first | (rw [hbox]; cbv) | (rw [hsbox]; cbv) | (rw [hI2]; cbv))
  cases e2 : le (len S) ps
  rotate_left
  · cbv
    exact hQ _ _ trivial (hfin _ (by cbv))
  cbv
  repeat (first | (rw [hbox]; cbv))
  refine .inr (hcn ⟨_, [], _, hcNm, .inl ⟨rfl, by cbv⟩, ?_⟩)
  rintro _ _ ⟨x0, hx0, rfl, rfl⟩
  obtain ⟨b1, rfl⟩ := isB_of hx0
  refine ⟨Nat.zero_le _, ?_⟩
  cbv
  cases b1
  · cbv
    exact hQ _ _ trivial (hfin _ (by cbv))
  cbv
  repeat (first | (rw [hbox]; cbv))
  cases e3 : lt 12 (len B)
  rotate_left
  · cbv
    exact hQ _ _ trivial (hfin _ (by cbv))
  cbv
  repeat (first | (rw [hbox]; cbv))
  rw [hmx _ _ _ _ _ _ _ _ _ (by rfl) (by rfl)]
  generalize max (0 : Int) _ = m
  cbv
  cases e4 : eq (len H) m
  · cbv
    exact hQ _ _ trivial (hfin _ (by cbv))
  cbv
  refine MW_loop hm [0, 56] [1, 2, 5, 6] 7 (by simp) (fun mz st => ∃ (a : Int), 0 ≤ a ∧ mz = (i - a).toNat ∧ st = stOf [.dead, .flat (.int .i64 i), .ptr 0 0 0, .dead, .dead, .ptr 1 0 0, .flat (.int .i64 a)] [some ⟨39, [[.ro R, .ro S, .ro D, .ro V, .flat (.int .i64 start)]]⟩, some ⟨75, [[.flat (.int .i64 ps), .flat (.string pc), .ro B, .flat (.bool pp), .flat (.int .i64 pe), .ro H]]⟩] 2) ((i - 0).toNat) ?_ ?_
  · exact ⟨0, hz0, rfl, cut_eq (by cbv) (cutRows_cons (by rfl) (by simp [closedAll, closedIn]) (cutRows_cons (by rfl) (by simp [closedAll, closedIn]) rfl))⟩
  rintro mz st ⟨a, ha, hmz, rfl⟩
  cases hc : lt a i
  rotate_left
  · skip
    obtain ⟨ps2, s2, B2, pp2, pe2, H2, q1, q2, q3, q4⟩ := hs1 a ha hc
    generalize a + 1 = a2 at q2 q3 q4
    cbv
    rw [hc]; cbv
    refine ⟨by rw [hdk]; kernel_rfl, ?_⟩
    repeat (first | (rw [hbox]; cbv) | (rw [hsbox]; cbv) | (rw [q1]; cbv))
    cases e5 : se s2 pc
    · cbv
      refine ⟨by rw [hib]; kernel_rfl, ?_⟩
      cbv
      rw [q2]
      exact ⟨[0, 1], [1, 2, 5, 6], 7, (i - a2).toNat, hmz ▸ q4, by simp, a2, q3, rfl, cut_eq (by cbv) (cutRows_cons (by rfl) (by simp [closedAll, closedIn]) (cutRows_cons (by rfl) (by simp [closedAll, closedIn]) rfl))⟩
    cbv
    refine ⟨by rw [hib]; kernel_rfl, ?_⟩
    cbv
    exact hQ _ _ trivial (hfin _ (by cbv))
  cbv
  rw [hc]; cbv
  refine MW_loop hm [0, 1] [1, 2, 5, 7] 8 (by simp) (fun mz st => ∃ (a : Int), 0 ≤ a ∧ mz = bl - a.toNat ∧ st = stOf [.dead, .flat (.int .i64 i), .ptr 0 0 0, .dead, .dead, .ptr 1 0 0, .dead, .flat (.int .i64 a)] [some ⟨39, [[.ro R, .ro S, .ro D, .ro V, .flat (.int .i64 start)]]⟩, some ⟨75, [[.flat (.int .i64 ps), .flat (.string pc), .ro B, .flat (.bool pp), .flat (.int .i64 pe), .ro H]]⟩] 2) (bl - (0 : Int).toNat) ?_ ?_
  · exact ⟨0, hz0, rfl, cut_eq (by cbv) (cutRows_cons (by rfl) (by simp [closedAll, closedIn]) (cutRows_cons (by rfl) (by simp [closedAll, closedIn]) rfl))⟩
  rintro mb st ⟨a, ha, hmb, rfl⟩
  cases hc2 : lt a (len B)
  rotate_left
  · skip
    obtain ⟨b, v, q1, q2, q3, q4⟩ := hb1 a ha hc2
    generalize a + 1 = a2 at q2 q3 q4
    have hcH2 := hcH b v
    generalize hs b v = r at hcH2
    cbv
    repeat (first | (rw [hbox]; cbv) | (rw [hsbox]; cbv))
    rw [hc2]; cbv
    refine ⟨by rw [hdk]; kernel_rfl, ?_⟩
    repeat (first | (rw [hbox]; cbv) | (rw [hsbox]; cbv) | (rw [q1]; cbv))
    refine hcal ⟨_, [], _, _, .inl ⟨rfl, by cbv⟩, hcH2, by simp, ?_⟩
    cbv
    cases r
    · cbv
      refine ⟨by rw [hib]; kernel_rfl, ?_⟩
      cbv
      exact hQ _ _ trivial (hfin _ (by cbv))
    cbv
    refine ⟨by rw [hib]; kernel_rfl, ?_⟩
    cbv
    rw [q2]
    exact ⟨[0, 1], [1, 2, 5, 7], 8, bl - a2.toNat, hmb ▸ q4, by simp, a2, q3, rfl, cut_eq (by cbv) (cutRows_cons (by rfl) (by simp [closedAll, closedIn]) (cutRows_cons (by rfl) (by simp [closedAll, closedIn]) rfl))⟩
  cbv
  repeat (first | (rw [hbox]; cbv) | (rw [hsbox]; cbv))
  rw [hc2]; cbv
  refine MW_loop hm [0, 1] [1, 2, 5, 8] 9 (by simp) (fun mz st => ∃ (a : Int), 0 ≤ a ∧ mz = hl - a.toNat ∧ st = stOf [.dead, .flat (.int .i64 i), .ptr 0 0 0, .dead, .dead, .ptr 1 0 0, .dead, .dead, .flat (.int .i64 a)] [some ⟨39, [[.ro R, .ro S, .ro D, .ro V, .flat (.int .i64 start)]]⟩, some ⟨75, [[.flat (.int .i64 ps), .flat (.string pc), .ro B, .flat (.bool pp), .flat (.int .i64 pe), .ro H]]⟩] 2) (hl - (0 : Int).toNat) ?_ ?_
  · exact ⟨0, hz0, rfl, cut_eq (by cbv) (cutRows_cons (by rfl) (by simp [closedAll, closedIn]) (cutRows_cons (by rfl) (by simp [closedAll, closedIn]) rfl))⟩
  rintro mc st ⟨a, ha, hmc, rfl⟩
  cases hc3 : lt a (len H)
  rotate_left
  · skip
    obtain ⟨v, q1, q2, q3, q4⟩ := hh1 a ha hc3
    generalize a + 1 = a2 at q2 q3 q4
    cbv
    repeat (first | (rw [hbox]; cbv) | (rw [hsbox]; cbv))
    rw [hc3]; cbv
    repeat (first | (rw [hbox]; cbv) | (rw [hsbox]; cbv) | (rw [q1]; cbv))
    cases e6 : lt v 0
    rotate_left
    · cbv
      exact hQ _ _ trivial (hfin _ (by cbv))
    cbv
    repeat (first | (rw [hbox]; cbv) | (rw [hsbox]; cbv) | (rw [q1]; cbv))
    cases e7 : lt 3 v
    rotate_left
    · cbv
      exact hQ _ _ trivial (hfin _ (by cbv))
    cbv
    rw [q2]
    exact ⟨[0, 1], [1, 2, 5, 8], 9, hl - a2.toNat, hmc ▸ q4, by simp, a2, q3, rfl, cut_eq (by cbv) (cutRows_cons (by rfl) (by simp [closedAll, closedIn]) (cutRows_cons (by rfl) (by simp [closedAll, closedIn]) rfl))⟩
  cbv
  repeat (first | (rw [hbox]; cbv) | (rw [hsbox]; cbv))
  rw [hc3]; cbv
  repeat (first | (rw [hbox]; cbv) | (rw [hsbox]; cbv))
  have hcH3 := hcH false pe
  generalize hs false pe = r at hcH3
  cases e8 : eq pe (-1)
  rotate_left
  · cbv
    repeat (first | (rw [hbox]; cbv) | (rw [hsbox]; cbv))
    cases pp
    · cbv
      exact hQ _ _ trivial (hfin _ (by cbv))
    cbv
    repeat (first | (rw [hbox]; cbv) | (rw [hsbox]; cbv))
    refine .inr (hcn ⟨_, [], _, hcE, .inl ⟨rfl, by cbv⟩, ?_⟩)
    rintro _ _ ⟨x0, hx0, rfl, rfl⟩
    obtain ⟨b9, rfl⟩ := isB_of hx0
    refine ⟨Nat.zero_le _, ?_⟩
    cbv
    cases b9
    · cbv
      exact hQ _ _ trivial (hfin _ (by cbv))
    cbv
    exact hQ _ _ trivial (hfin _ (by cbv))
  cbv
  repeat (first | (rw [hbox]; cbv) | (rw [hsbox]; cbv))
  refine .inl (hcal ⟨_, [], _, _, .inl ⟨rfl, by cbv⟩, hcH3, by simp, ?_⟩)
  cbv
  cases r
  · cbv
    exact hQ _ _ trivial (hfin _ (by cbv))
  cbv
  repeat (first | (rw [hbox]; cbv) | (rw [hsbox]; cbv))
  cases pp
  · cbv
    exact hQ _ _ trivial (hfin _ (by cbv))
  cbv
  repeat (first | (rw [hbox]; cbv) | (rw [hsbox]; cbv))
  refine .inr (hcn ⟨_, [], _, hcE, .inl ⟨rfl, by cbv⟩, ?_⟩)
  rintro _ _ ⟨x0, hx0, rfl, rfl⟩
  obtain ⟨b9, rfl⟩ := isB_of hx0
  refine ⟨Nat.zero_le _, ?_⟩
  cbv
  cases b9
  · cbv
    exact hQ _ _ trivial (hfin _ (by cbv))
  cbv
  exact hQ _ _ trivial (hfin _ (by cbv))
theorem level_n (g : GramT) (hg : GB g) (i : Int) (h0 : 0 ≤ i) (h1 : i < g.levels.length) : NCalls Try.prog 54 [gramV g, .flat (.int .i64 i)] (RS isI) := by
  have hI : nthE (g.levels.map levC) i 2 = some (.rp (levC (atI g.levels i))) := nth_map (f := levC) (fun _ => rfl) h0 h1
  have hrl := hg.l _ (at_mem h0 h1)
  have hcS : ∀ k : Int, 0 ≤ k → k < (atI g.levels i).rules.length → NCalls Try.prog 64 [gramV g, .flat (.int .i64 i), .flat (.int .i64 k)] (RS isB) := fun k k0 k1 => seen_n g hg i k h0 h1 k0 k1
  have hcH : ∃ hs : Int → Bool, ∀ v, ACalls Try.prog 62 [gramV g, .agg [.flat (.bool false), .flat (.int .i64 v)]] (fun _ => .flat (.bool (hs v))) (fun _ => []) := ⟨fun v => hasS g ⟨false, v⟩, fun v => has_calls g ⟨false, v⟩⟩
  obtain ⟨hs, hcH⟩ := hcH
  unfold gramV gramL at *
  generalize atI g.levels i = p at *
  clear hg
  obtain ⟨sd, rules⟩ := p
  generalize g.levels.length = ln at *
  generalize g.rules.map ruleC = R at *
  generalize g.sorts.map strC = S at *
  generalize g.prods.map prodC = D at *
  generalize g.levels.map levC = V at *
  generalize g.start = start at *
  unfold levC at hI
  dsimp only at *
  refine ncalls_symN tabF_ok fn54 rfl rfl rfl (by kernel_rfl) ?_
  have hfin : ∀ st, shOk isI (resA Try.prog Try.f54 st) = true → ∃ val rows, RS isI val rows ∧ G.Leaves Try.prog Try.f54 val rows st := fun st h => rs_leaves h
  rintro N hN ⟨lt, le, eq, se, ar, dv, una, conv, len, sln, nat, nth, ixs, cel, sto, app, cpy, slc, mak, ixv, oth, dk, ib, call⟩ hS hm Q hQ
  obtain ⟨hlt, hle, heq, hse, har, hdv, huna, hconv, hlen, hsln, hnat, hnth, hixs, hcel, hsto, happ, hcpy, hslc, hmak, hixv, hoth, hdk, hib, hcall⟩ := Sym.mk.inj hS
  clear hS
  have hnt : ∀ n : Nat, nat n = U.natI n := fun n => by rw [hnat]; rfl
  have hbox : ∀ e c off, cel (some ⟨e, [c]⟩) 0 off = if off ≤ c.length then some (c.drop off) else none := fun e c off => by rw [hcel]; rfl
  have hsbox : ∀ e c off sz y, sto (some ⟨e, [c]⟩) 0 off sz y = if y.cells.length = sz ∧ off + sz ≤ c.length ∧ y.cells.all AV.one = true then some ⟨e, [spl c off y.cells]⟩ else none := fun e c off sz y => by rw [hsto]; rfl
  have hcaw : ∀ {f args T base K}, CallK Try.prog f args T base K → call f args T base K := fun h => by rw [hcall]; exact h
  have hcal : ∀ {f args T base} {K : AV → Table → List Nat → List Nat → Prop}, (∃ args' ids val rows, Hands T ids args args' (val base) (rows base) ∧ ACalls Try.prog f args' val rows ∧ (rows base).length ≤ 8 ∧ K (val base) (adopt T base (rows base)) ids ((List.range (rows base).length).map (base + ·))) → call f args T base K := fun h => hcaw (call_own h)
  have hcn : ∀ {f args T base} {K : AV → Table → Prop}, CallN Try.prog T base f args K → N f args T base K := fun h => by rw [hN]; exact h
  have hsx : ∀ (s : ByteArray) (i : Int), s.size ≤ 1000000 → 0 ≤ i → lt i (sln s) = true → ∃ v, ixv 9 (.flat (.string s)) (.flat (.int .i64 i)) = some (.flat (.int .u8 v)) ∧ 0 ≤ v ∧ v < 256 ∧ ar .add .i64 i 1 = i + 1 ∧ 0 ≤ i + 1 ∧ (s.size - (i + 1).toNat < s.size - i.toNat) ∧ i < s.size := fun s i hs h0 hc => by
    rw [hlt, hsln] at hc
    rw [hixv, har]
    exact ix_next s hs h0 hc
  have hrx : ∀ (X : List (List AV)) (sz : Nat) (i : Int), (∀ c ∈ X, c.length = sz) → X.length ≤ 1000000 → 0 ≤ i → lt i (len X) = true → ∃ c ∈ X, nth X i sz = some (.rp c) ∧ ar .add .i64 i 1 = i + 1 ∧ 0 ≤ i + 1 ∧ (X.length - (i + 1).toNat < X.length - i.toNat) ∧ i < X.length := fun X sz i hX hl h0 hc => by
    rw [hlt, hlen] at hc
    rw [hnth, har]
    exact row_next X hX hl h0 hc
  have hI2 : nth V i 2 = some (.rp [.flat (.int .i64 sd), .ro (rules.map intC)]) := by rw [hnth]; exact hI
  have hh1 : ∀ a : Int, 0 ≤ a → lt a (len (rules.map intC)) = true → ∃ (v : Int), nth (rules.map intC) a 1 = some (.rp [.flat (.int .i64 v)]) ∧ ar .add .i64 a 1 = a + 1 ∧ 0 ≤ a + 1 ∧ (rules.length - (a + 1).toNat < rules.length - a.toNat) ∧ a < rules.length := fun a q0 hc => by
    obtain ⟨c, hc1, q1, q2, q3, q4, q5⟩ := hrx (rules.map intC) 1 a int_cells (by rw [List.length_map]; omega) q0 hc
    obtain ⟨x, _, rfl⟩ := List.mem_map.1 hc1
    rw [List.length_map] at q4 q5
    exact ⟨_, q1, q2, q3, q4, q5⟩
  have hz0 : (0 : Int) ≤ 0 := Int.le_refl 0
  have hh : ∀ a : Int, 0 ≤ a → lt a (len (rules.map intC)) = true → ∃ (v : Int), nth (rules.map intC) a 1 = some (.rp [.flat (.int .i64 v)]) ∧ ar .add .i64 a 1 = a + 1 ∧ 0 ≤ a + 1 ∧ (rules.length - (a + 1).toNat < rules.length - a.toNat) ∧ NCalls Try.prog 64 [.agg [.ro R, .ro S, .ro D, .ro V, .flat (.int .i64 start)], .flat (.int .i64 i), .flat (.int .i64 a)] (RS isB) := fun a q0 hc => by
    obtain ⟨v, q1, q2, q3, q4, q5⟩ := hh1 a q0 hc
    exact ⟨v, q1, q2, q3, q4, hcS a q0 q5⟩
  clear hh1 hcS
  generalize rules.length = rl at hh
  generalize rules.map intC = H at *
  clear h0 h1 hI hrl
  cbv
  repeat (first | (rw [hbox]; cbv) | (rw [hsbox]; cbv) | (rw [hI2]; cbv))
  cases e1 : lt sd 1
  rotate_left
  · cbv
    exact hQ _ _ trivial (hfin _ (by cbv))
  cbv
  repeat (first | (rw [hbox]; cbv) | (rw [hsbox]; cbv))
  cases e2 : lt 3 sd
  rotate_left
  · cbv
    exact hQ _ _ trivial (hfin _ (by cbv))
  cbv
  repeat (first | (rw [hbox]; cbv) | (rw [hsbox]; cbv))
  cases e3 : eq (len H) 0
  rotate_left
  · cbv
    exact hQ _ _ trivial (hfin _ (by cbv))
  cbv
  repeat (first | (rw [hbox]; cbv) | (rw [hsbox]; cbv))
  cases e4 : le 60 i
  rotate_left
  · cbv
    exact hQ _ _ trivial (hfin _ (by cbv))
  cbv
  repeat (first | (rw [hbox]; cbv) | (rw [hsbox]; cbv))
  refine MW_loop hm [0, 56] [1, 2, 5, 6] 7 (by simp) (fun mz st => ∃ (a : Int), 0 ≤ a ∧ mz = rl - a.toNat ∧ st = stOf [.dead, .flat (.int .i64 i), .ptr 0 0 0, .dead, .dead, .ptr 1 0 0, .flat (.int .i64 a)] [some ⟨39, [[.ro R, .ro S, .ro D, .ro V, .flat (.int .i64 start)]]⟩, some ⟨77, [[.flat (.int .i64 sd), .ro H]]⟩] 2) (rl - (0 : Int).toNat) ?_ ?_
  · exact ⟨0, hz0, rfl, cut_eq (by cbv) (cutRows_cons (by rfl) (by simp [closedAll, closedIn]) (cutRows_cons (by rfl) (by simp [closedAll, closedIn]) rfl))⟩
  rintro mz st ⟨a, ha, hmz, rfl⟩
  cases hc : lt a (len H)
  · cbv
    repeat (first | (rw [hbox]; cbv) | (rw [hsbox]; cbv))
    rw [hc]; cbv
    exact hQ _ _ trivial (hfin _ (by cbv))
  obtain ⟨v, q1, q2, q3, q4, hcS⟩ := hh a ha hc
  generalize a + 1 = a2 at q2 q3 q4
  have hcH2 := hcH v
  generalize hs v = r at hcH2
  cbv
  repeat (first | (rw [hbox]; cbv) | (rw [hsbox]; cbv))
  rw [hc]; cbv
  refine ⟨by rw [hdk]; kernel_rfl, ?_⟩
  repeat (first | (rw [hbox]; cbv) | (rw [hsbox]; cbv) | (rw [q1]; cbv))
  refine hcal ⟨_, [], _, _, .inl ⟨rfl, by cbv⟩, hcH2, by simp, ?_⟩
  cbv
  cases r
  · cbv
    refine ⟨by rw [hib]; kernel_rfl, ?_⟩
    cbv
    exact hQ _ _ trivial (hfin _ (by cbv))
  cbv
  refine ⟨by rw [hib]; kernel_rfl, ?_⟩
  cbv
  repeat (first | (rw [hbox]; cbv) | (rw [hsbox]; cbv))
  refine .inr (hcn ⟨_, [], _, hcS, .inl ⟨rfl, by cbv⟩, ?_⟩)
  rintro _ _ ⟨x0, hx0, rfl, rfl⟩
  obtain ⟨b3, rfl⟩ := isB_of hx0
  refine ⟨Nat.zero_le _, ?_⟩
  cbv
  cases b3
  rotate_left
  · cbv
    exact hQ _ _ trivial (hfin _ (by cbv))
  cbv
  rw [q2]
  exact ⟨[0, 1], [1, 2, 5, 6], 7, rl - a2.toNat, hmz ▸ q4, by simp, a2, q3, rfl, cut_eq (by cbv) (cutRows_cons (by rfl) (by simp [closedAll, closedIn]) (cutRows_cons (by rfl) (by simp [closedAll, closedIn]) rfl))⟩
end Go.Proofs.Ytnceadbfgpiaaaa.N
