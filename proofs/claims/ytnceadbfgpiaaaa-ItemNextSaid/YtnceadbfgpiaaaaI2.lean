/- slices.Insert at items: its contract, over rows of the caller. -/
import Derived.Test.YtnceadbfgpiaaaaI1
namespace Go.Proofs.Ytnceadbfgpiaaaa.I
open Go G U K
set_option linter.unusedVariables false
set_option linter.unusedSimpArgs false
set_option maxRecDepth 100000
set_option maxHeartbeats 4000000
theorem fn32 : Try.prog.funcs[32]? = some Try.f32 := by kernel_rfl
theorem z28 : tinfo Try.prog 28 = some (some (.agg #[.int .i64 0, .int .i64 0, .int .u64 0]), 3, 24) := by kernel_rfl
theorem u22 : Try.prog.underlying 22 = some (.slice 28) := by kernel_rfl
theorem c28 : Try.prog.cellsOf 28 = 3 := by kernel_rfl
theorem slc_end {T : Table} {n : Nat} {X : List (List AV)} (hT : T 0 = some ⟨28, X⟩) (hn : n = X.length) : evSlice Try.prog T 22 (.sl 0 0 n) (some (.flat (.int .i64 (natI n)))) none = some (.sl 0 n 0) := by
  have := slc_sl (P := Try.prog) (T := T) (t := 22) (n := n) (l := n) (h := n) (lo := some (.flat (.int .i64 (natI n)))) (hi := none) u22 z28 hT c28 (by omega) (by
    have := bnd_lo (n := n) (m := X.length) (k := .i64) (l := natI n) (by unfold natI; omega) (by unfold natI; omega)
    unfold natI at this ⊢
    simpa using this)
  simpa using this
theorem insert_end (X : List (List AV)) (c : List AV) (n : Nat) (hn : n = X.length) (hb : n ≤ 1000000) (hX : ∀ e ∈ X ++ [c], closedAll [] e = true) (hc : c.length = 3) :
    PCalls Try.prog 32 1 [.sl 0 0 n, .flat (.int .i64 (natI n)), .sl 1 0 1] [⟨28, X⟩, ⟨28, [c]⟩] (.sl 1 0 (n + 1)) [none, some ⟨28, X ++ [c]⟩] := by
  obtain ⟨n2, hn2⟩ : ∃ m, m = n + 1 := ⟨_, rfl⟩
  obtain ⟨Y, hY⟩ : ∃ Y, Y = X ++ [c] := ⟨_, rfl⟩
  have hap : ∀ (T : Table) (id k0 k : Nat), T k0 = some ⟨28, X⟩ → T k = some ⟨28, [c]⟩ → k ≠ k0 → evAppend Try.prog T id 22 22 (.sl k0 0 n) (.sl k 0 1) = some (.sl id 0 n2, (T.set k0 none).set id (some ⟨28, Y⟩)) := fun T id k0 k h1 h2 h3 =>
    app_tip u22 z28 c28 (by decide) rfl (by decide) h1 h2 h3 hc (by omega) hn2 (by rw [hY, hn, List.take_length]) (by omega)
  have hsl := fun (T : Table) (h : T 0 = some ⟨28, X⟩) => slc_end h hn
  rw [← hn2, ← hY]
  rw [← hY] at hX
  clear hY hn2 hn
  refine pcalls_symF tabF_ok 1 (by decide) (by simp) fn32 rfl rfl rfl (by kernel_rfl) ?_
  rintro ⟨lt, le, eq, se, ar, dv, una, conv, len, sln, nat, nth, ixs, cel, sto, app, cpy, slc, mak, ixv, oth, dk, ib, call⟩ hS hm Q hQ
  obtain ⟨hlt, hle, heq, hse, har, hdv, huna, hconv, hlen, hsln, hnat, hnth, hixs, hcel, hsto, happ, hcpy, hslc, hmak, hixv, hoth, hdk, hib, hcall⟩ := Sym.mk.inj hS
  clear hS
  have hnt : ∀ n : Nat, nat n = U.natI n := fun n => by rw [hnat]; rfl
  have hbox : ∀ e c off, cel (some ⟨e, [c]⟩) 0 off = if off ≤ c.length then some (c.drop off) else none := fun e c off => by rw [hcel]; rfl
  have hsbox : ∀ e c off sz y, sto (some ⟨e, [c]⟩) 0 off sz y = if y.cells.length = sz ∧ off + sz ≤ c.length ∧ y.cells.all AV.one = true then some ⟨e, [spl c off y.cells]⟩ else none := fun e c off sz y => by rw [hsto]; rfl
  have hcaw : ∀ {f args T base K}, CallK Try.prog f args T base K → call f args T base K := fun h => by rw [hcall]; exact h
  have hcal : ∀ {f args T base} {K : AV → Table → List Nat → List Nat → Prop}, (∃ args' ids val rows, Hands T ids args args' (val base) (rows base) ∧ ACalls Try.prog f args' val rows ∧ (rows base).length ≤ 8 ∧ K (val base) (adopt T base (rows base)) ids ((List.range (rows base).length).map (base + ·))) → call f args T base K := fun h => hcaw (call_own h)
  have h1 : eq (nat 1) 0 = false := by rw [heq, hnat]; rfl
  have h2 : eq (natI n) (nat n) = true := by rw [heq, hnat]; exact decide_eq_true rfl
  have h3 : ∀ (T : Table) (id k0 k : Nat), T k0 = some ⟨28, X⟩ → T k = some ⟨28, [c]⟩ → k ≠ k0 → app T id 22 22 (.sl k0 0 n) (.sl k 0 1) = some (.sl id 0 n2, (T.set k0 none).set id (some ⟨28, Y⟩)) := by rw [happ]; exact hap
  have h4 : ∀ T, T 0 = some ⟨28, X⟩ → slc T 22 (.sl 0 0 n) (some (.flat (.int .i64 (natI n)))) none = some (.sl 0 n 0) := by rw [hslc]; exact hsl
  clear hap hsl
  generalize natI n = ni at h2 h4
  cbv
  rw [h4 _ (by rfl)]; cbv
  rw [h1]; cbv
  rw [h2]; cbv
  rw [h3 _ _ _ _ (by rfl) (by rfl) (by decide)]; cbv
  exact hQ _ _ trivial ⟨[], [0, 138], .sl 138 0 n2, by cbv, ⟨by simp, by rfl, .inr rfl⟩, by simp, by rfl, by rfl, cutRows_none (by rfl) (cutRows_cons (by rfl) hX rfl)⟩
/-! ### The whole -/
def Z28 : List AV := [.flat (.int .i64 0), .flat (.int .i64 0), .flat (.int .u64 0)]
theorem zero_get (k q j : Nat) (x : AV) (hq : q < k) (hx : Z28[j]? = some x) : ∃ u, (Builtin.zeroCells (Value.agg #[.int .i64 0, .int .i64 0, .int .u64 0]).cells k).toList[q * 3 + j]? = some u ∧ u.oneCell' = true ∧ ∀ (w : World) (L : Nat → Prop) (μ : G.Map), VRel w L μ u x := by
  have hj : j < 3 := (List.getElem?_eq_some_iff.1 hx).1
  have hlt : q * 3 + j < k * 3 := by omega
  have hmod : (q * 3 + j) % 3 = j := by omega
  have e : (Builtin.zeroCells (Value.agg #[.int .i64 0, .int .i64 0, .int .u64 0]).cells k).toList[q * 3 + j]? = some ((#[Value.int .i64 0, .int .i64 0, .int .u64 0] : Array Value)[j]!) := by
    simp [Builtin.zeroCells, Value.cells, hlt, hmod]
  rw [e]
  match j, hx with
  | 0, hx => obtain rfl := Option.some.inj hx; exact ⟨_, rfl, rfl, fun _ _ _ => .flat _ rfl⟩
  | 1, hx => obtain rfl := Option.some.inj hx; exact ⟨_, rfl, rfl, fun _ _ _ => .flat _ rfl⟩
  | 2, hx => obtain rfl := Option.some.inj hx; exact ⟨_, rfl, rfl, fun _ _ _ => .flat _ rfl⟩
  | j + 3, hx => simp [Z28] at hx
theorem list_in {α : Type} (X Y : List α) (c : α) (i n : Nat) (hn : n = X.length) (hi : i < n) (hY : Y = X.take (i + 1) ++ (X.drop i).take (n - i) ++ X.drop (i + 1 + (n - i))) : Y.length = n + 1 ∧ Y.take i ++ [c] ++ Y.drop (i + 1) = X.take i ++ [c] ++ X.drop i := by
  have e1 : (X.drop i).take (n - i) = X.drop i := List.take_of_length_le (by rw [List.length_drop]; omega)
  have e2 : X.drop (i + 1 + (n - i)) = [] := List.drop_eq_nil_of_le (by omega)
  rw [e1, e2, List.append_nil] at hY
  have hl : (X.take (i + 1)).length = i + 1 := by rw [List.length_take]; omega
  refine ⟨by rw [hY, List.length_append, hl, List.length_drop]; omega, ?_⟩
  rw [hY, List.take_append_of_le_length (by omega), List.take_take, Nat.min_eq_left (by omega), List.drop_append_of_le_length (by omega), List.drop_eq_nil_of_le (by omega), List.nil_append]
theorem list_new {α : Type} (X A B : List α) (c z : α) (i n : Nat) (hn : n = X.length) (hi : i < n) (hA : A = X.take i ++ List.replicate (n + 1 - i) z) (hB : B = A.take i ++ [c] ++ A.drop (i + 1)) : A.length = n + 1 ∧ B.length = n + 1 ∧ B.take (i + 1) ++ (X.drop i).take (n - i) ++ B.drop (i + 1 + (n - i)) = X.take i ++ [c] ++ X.drop i := by
  have hl : (X.take i).length = i := by rw [List.length_take]; omega
  have hAl : A.length = n + 1 := by rw [hA, List.length_append, hl, List.length_replicate]; omega
  have e0 : A.take i = X.take i := by rw [hA, List.take_append_of_le_length (by omega), List.take_of_length_le (by omega)]
  have hBl : B.length = n + 1 := by rw [hB]; simp; omega
  have e1 : (X.drop i).take (n - i) = X.drop i := List.take_of_length_le (by rw [List.length_drop]; omega)
  have e2 : B.drop (i + 1 + (n - i)) = [] := List.drop_eq_nil_of_le (by omega)
  have e3 : B.take (i + 1) = X.take i ++ [c] := by
    rw [hB, e0, List.take_append_of_le_length (by simp; omega), List.take_of_length_le (by simp; omega)]
  exact ⟨hAl, hBl, by rw [e1, e2, e3, List.append_nil]⟩
theorem insert_calls (X : List (List AV)) (c : List AV) (i n : Nat) (hn : n = X.length) (hi : i ≤ n) (hb : n ≤ 1000000) (hX3 : ∀ e ∈ X, e.length = 3) (hXc : ∀ e ∈ X, closedAll [] e = true) (hc3 : c.length = 3) (hcc : closedAll [] c = true) :
    PCalls Try.prog 32 1 [.sl 0 0 n, .flat (.int .i64 (natI i)), .sl 1 0 1] [⟨28, X⟩, ⟨28, [c]⟩] (.sl 1 0 (n + 1)) [none, some ⟨28, X.take i ++ [c] ++ X.drop i⟩] := by
  by_cases hin : i = n
  · subst hin
    have := insert_end X c i hn hb (fun e he => by
      rcases List.mem_append.1 he with h | h
      · exact hXc e h
      · simp only [List.mem_cons, List.not_mem_nil, or_false] at h; subst h; exact hcc) hc3
    rw [List.take_of_length_le (by omega), List.drop_eq_nil_of_le (by omega), List.append_nil]
    exact this
  have hi : i < n := by omega
  have hcl : ∀ e ∈ X.take i ++ [c] ++ X.drop i, closedAll [] e = true := fun e he => by
    rcases List.mem_append.1 he with h | h
    · rcases List.mem_append.1 h with h | h
      · exact hXc e (List.mem_of_mem_take h)
      · simp only [List.mem_cons, List.not_mem_nil, or_false] at h; subst h; exact hcc
    · exact hXc e (List.mem_of_mem_drop h)
  obtain ⟨ti, hti, hz, hsz, hby, _⟩ := tinfo_some z28
  have hs28 : ∀ w, (sizeOf 28).run Try.prog w = .ok 3 w := fun w => by simp [sizeOf, typeInfo, hti, hsz]
  have hu3 : Try.prog.underlying 3 = some (.int .i64) := by kernel_rfl
  refine ⟨⟨_, fn32, rfl, rfl⟩, fun w L μ vs hs hvs hT hno => ?_⟩
  obtain ⟨v0, v1, v2, rfl⟩ : ∃ v0 v1 v2, vs = #[v0, v1, v2] := by
    have h3 : vs.size = 3 := hs
    obtain ⟨l⟩ := vs
    match l, h3 with
    | [a, b, c], _ => exact ⟨a, b, c, rfl⟩
  have r0 : VRel w L μ v0 (.sl 0 0 n) := hvs 0 _ rfl
  have r1 : VRel w L μ v1 (.flat (.int .i64 (natI i))) := hvs 1 _ rfl
  have r2 : VRel w L μ v2 (.sl 1 0 1) := hvs 2 _ rfl
  clear hvs hs
  cases r1
  cases r0 with
  | @sl _ _ _ _ _ q hq h0 =>
  cases r2 with
  | @sl _ _ _ _ _ q1 hq1 h1 =>
  cases q with
  | none => obtain ⟨_, h, _⟩ := h0; omega
  | some p =>
  cases q1 with
  | none => obtain ⟨_, h, _⟩ := h1; omega
  | some p1 =>
  obtain ⟨hle, A0, rfl, hA0⟩ := h0
  obtain ⟨hle1, A1, rfl, hA1⟩ := h1
  obtain rfl := hA0 (by omega)
  obtain rfl := hA1 (by omega)
  have hr0 : tabO ([⟨28, X⟩, ⟨28, [c]⟩].map some) 0 = some (⟨28, X⟩ : Row) := rfl
  have hr1 : tabO ([⟨28, X⟩, ⟨28, [c]⟩].map some) 1 = some (⟨28, [c]⟩ : Row) := rfl
  have hw0 := hT.cell hr0 hq
  have hw1 := hT.cell hr1 hq1
  have hne : p1.g ≠ p.g := fun h => hT.apart 0 1 _ _ _ _ hr0 hr1 hq hq1 (by decide) h.symm
  obtain ⟨g, b, cap, sz⟩ := p
  obtain ⟨g1, b1, cap1, sz1⟩ := p1
  have e0 := hw0.szT
  have e1 := hw1.szT
  rw [c28] at e0 e1
  dsimp only at e0 e1 hle hle1 hne
  subst e0 e1
  have hcm : cap ≤ maxLen := hw0.cap
  have hc63 : cap ≤ 9223372036854775807 := by unfold maxLen at hcm; omega
  simp only [Nat.zero_mul, Nat.add_zero, Nat.sub_zero, Nat.zero_add] at hle hle1 ⊢
  have hTd := trel_heap hT (w1 := w.drew) rfl
  have hX0 : ∀ e ∈ (X.drop i).take (n - i), e.length = 3 := fun e he => hX3 e (List.mem_of_mem_drop (List.mem_of_mem_take he))
  have hXl : ((X.drop i).take (n - i)).length = n - i := by rw [List.length_take, List.length_drop]; omega
  by_cases hroom : n + 1 ≤ cap
  · obtain ⟨us1, h1, h2, h3⟩ := read_sl hTd hq hr0 (off := i) (n := n - i) (show 0 < 3 by decide) (by show i + (n - i) ≤ X.length; omega) 0 0
    obtain ⟨W1, c1, E1, T1⟩ := copy_over hTd (off := i + 1) (n := n - i) (k := n - i) (t := 22) (u := 22) hq hr0 u22 hti hsz (show 0 < 3 by decide) (by show i + 1 ≤ X.length; omega) (by show i + 1 + (n - i) ≤ cap; omega) (news := (X.drop i).take (n - i)) hXl hX0 h2 h3 (A := some ⟨g, b + i * 3, none⟩) (sl := n + 1 - i) (by show min (n + 1 - i) (n - i) = n - i; omega) (fun sc => h1 _ rfl)
    obtain ⟨Y, hY⟩ : ∃ Y, Y = X.take (i + 1) ++ (X.drop i).take (n - i) ++ X.drop (i + 1 + (n - i)) := ⟨_, rfl⟩
    obtain ⟨hYl, hYe⟩ := list_in X Y c i n hn hi hY
    dsimp only at E1 T1
    rw [← hY] at E1 T1
    obtain ⟨us2, k1, k2, k3⟩ := read_sl T1 hq1 (show _ = some (⟨28, [c]⟩ : Row) from hr1) (off := 0) (n := 1) (show 0 < 3 by decide) (by show 0 + 1 ≤ 1; omega) 0 0
    obtain ⟨W2, c2, E2, T2⟩ := copy_over T1 (off := i) (n := n + 1 - i) (k := 1) (t := 22) (u := 22) hq (show _ = some (⟨28, Y⟩ : Row) from rfl) u22 hti hsz (show 0 < 3 by decide) (by show i ≤ Y.length; omega) (by show i + 1 ≤ cap; omega) (news := [c]) rfl (fun e he => by simp only [List.mem_cons, List.not_mem_nil, or_false] at he; subst he; exact hc3) k2 k3 (A := some ⟨g1, b1, none⟩) (sl := 1) (by show min 1 (n + 1 - i) = 1; omega) (fun sc => by have := k1 _ rfl; simp only [Nat.zero_mul, Nat.add_zero] at this; exact this)
    dsimp only at E2 T2
    rw [hYe] at E2 T2
    obtain ⟨cur1, hg1, _, _⟩ := hw1.cur
    obtain ⟨cur0, hg0, hs0, _⟩ := hw0.cur
    dsimp only at hg1 hg0 hs0
    have hov : ∀ lb cb, (callFunc 48 #[.slice (some ⟨g1, b1, none⟩) 1 cap1, .slice (some ⟨g, b + (i + 1) * 3, none⟩) lb cb]).run Try.prog w = .ok (.value (.bool false)) w := fun lb cb => by
      rw [run_callFunc_extern Try.func48 (by kernel_rfl) (by kernel_rfl) (by kernel_rfl) (e := Extern.SlicesOverlaps.overlaps #[22, 22] #[4]) (by kernel_rfl),
        Lib.run_overlaps_apart w 22 4 28 u22 3 hs28 ⟨g1, b1, none⟩ ⟨g, b + (i + 1) * 3, none⟩ 1 cap1 lb cb hne 28 28 cur1.size cur0.size (by unfold World.shape?; rw [hg1]) (by unfold World.shape?; rw [hg0]) (by omega) (by unfold World.frozen?; rw [hg1]; simp) (by unfold World.frozen?; rw [hg1]; simp)]
      rfl
    refine calls_mono (shift_calls g b n cap i ⟨g1, b1, none⟩ cap1 w W1 W2 hi hroom hb hc63 hov c1 (fun ty dc => c2 ty dc cap1)) fun e w' he => ?_
    obtain ⟨rfl, rfl⟩ := he
    obtain ⟨L2, μ2, q1, q2, q3, q4⟩ := post_of (v := .slice (some ⟨g, b, none⟩) (n + 1) cap) (m := n + 1) (((ext_heap (w := w) (w1 := w.drew) rfl rfl rfl rfl).trans E1).trans E2) T2 (id := 0) rfl hq hcl ⟨by show 0 + (n + 1) ≤ cap; omega, _, rfl, fun _ => by simp⟩ (by simp; omega)
    exact ⟨_, L2, μ2, rfl, q1, q2, q3, q4⟩
  · obtain ⟨olds, o1, o2, o3⟩ := read_sl hT hq hr0 (off := 0) (n := i) (show 0 < 3 by decide) (by show 0 + i ≤ X.length; omega) 0 0
    dsimp only at o1 o2 o3
    obtain ⟨gc, hG⟩ : ∃ gc, gc = grownCap w (n + 1) cap 28 := ⟨_, rfl⟩
    have hGn : n + 1 ≤ gc := by rw [hG]; exact grownCap_ge w _ _ _
    have hGm : gc ≤ maxLen := by rw [hG]; exact grownCap_le_maxLen w (n + 1) cap 28 (by unfold maxLen; omega)
    have hkk : (n : Int) + 1 - (i : Int) = ((n + 1 - i : Nat) : Int) := by omega
    have hik : i + (n + 1 - i) = n + 1 := by omega
    have hrz := fun ty => Lib.run_append_grow_zeros w 22 3 ty 28 ti _ .i64 .i64 u22 hu3 hti hz (some ⟨g, b, none⟩) i cap olds (by have := o1 w.drew rfl; simp only [Nat.zero_mul, Nat.add_zero] at this; rw [hsz]; exact this) (n + 1 - i) (by omega) (by rw [hsz]; decide) (by omega) (by omega) (by rw [hby]; omega) (by rw [hby, hik]; exact growslice_fits (by omega) (by omega))
    rw [hik, ← hG] at hrz
    obtain ⟨cur, hcur⟩ : ∃ cur, cur = olds.toArray ++ Builtin.zeroCells (Value.agg #[.int .i64 0, .int .i64 0, .int .u64 0]).cells (n + 1 - i) ++ Builtin.zeroCells (Value.agg #[.int .i64 0, .int .i64 0, .int .u64 0]).cells (gc - (n + 1)) := ⟨_, rfl⟩
    rw [← hcur] at hrz
    obtain ⟨A, hA⟩ : ∃ A, A = X.take i ++ List.replicate (n + 1 - i) Z28 := ⟨_, rfl⟩
    obtain ⟨B, hB⟩ : ∃ B, B = A.take i ++ [c] ++ A.drop (i + 1) := ⟨_, rfl⟩
    obtain ⟨hAl, hBl, hBe⟩ := list_new X A B c Z28 i n hn hi hA hB
    have hA3 : ∀ e ∈ A, e.length = 3 := fun e he => by
      rw [hA] at he
      rcases List.mem_append.1 he with h | h
      · exact hX3 e (List.mem_of_mem_take h)
      · rw [List.eq_of_mem_replicate h]; rfl
    have hB3 : ∀ e ∈ B, e.length = 3 := fun e he => by
      rw [hB] at he
      rcases List.mem_append.1 he with h | h
      · rcases List.mem_append.1 h with h | h
        · exact hA3 e (List.mem_of_mem_take h)
        · simp only [List.mem_cons, List.not_mem_nil, or_false] at h; subst h; exact hc3
      · exact hA3 e (List.mem_of_mem_drop h)
    obtain ⟨E1, T1⟩ := grown_gives hT (id := 2) (hno 2 (Nat.le_refl 2)) (e := 28) (z := Value.agg #[.int .i64 0, .int .i64 0, .int .u64 0]) c28.symm rfl (us := olds ++ (Builtin.zeroCells (Value.agg #[.int .i64 0, .int .i64 0, .int .u64 0]).cells (n + 1 - i)).toList) (all := A) hAl hA3 (by rw [List.length_append, o2, Array.length_toList, zeros_len]; show i * 3 + (n + 1 - i) * 3 = (n + 1) * 3; omega) (fun q e j x he hx => by
      rw [hA] at he
      by_cases hq3 : q < i
      · rw [List.getElem?_append_left (by rw [List.length_take]; omega)] at he
        have hj : j < 3 := by have h1 := (List.getElem?_eq_some_iff.1 hx).1; rw [hX3 e (List.mem_of_mem_take (List.mem_of_getElem? he))] at h1; exact h1
        obtain ⟨u, hu, hu1, hu2⟩ := o3 q e j x (by rw [List.drop_zero]; exact he) hx
        refine ⟨u, ?_, hu1, hu2⟩
        rw [List.getElem?_append_left (by rw [o2]; omega)]; exact hu
      · rw [List.getElem?_append_right (by rw [List.length_take]; omega), List.length_take, List.getElem?_replicate] at he
        split at he
        · rename_i hlt
          obtain rfl := Option.some.inj he
          obtain ⟨u, hu, hu1, hu2⟩ := zero_get (n + 1 - i) (q - i) j x (by omega) hx
          refine ⟨u, ?_, hu1, hu2 _ _ _⟩
          rw [List.getElem?_append_right (by rw [o2]; omega), o2, show q * 3 + j - i * 3 = (q - i) * 3 + j by omega]; exact hu
        · cases he) hGn hGm (w1 := w.drew) rfl rfl rfl rfl (cur := cur) (by rw [hcur]; simp)
    have hp2 : (μ.set 2 (some ⟨w.heap.size, 0, gc, 3⟩)) 2 = some (some (⟨w.heap.size, 0, gc, 3⟩ : G.Place)) := rfl
    obtain ⟨us2, k1, k2, k3⟩ := read_sl T1 (show (μ.set 2 (some ⟨w.heap.size, 0, gc, 3⟩)) 1 = _ from hq1) (show _ = some (⟨28, [c]⟩ : Row) from hr1) (off := 0) (n := 1) (show 0 < 3 by decide) (by show 0 + 1 ≤ 1; omega) 0 0
    obtain ⟨W2, c2, E2, T2⟩ := copy_over T1 (off := i) (n := n + 1 - i) (k := 1) (t := 22) (u := 22) hp2 (show _ = some (⟨28, A⟩ : Row) from rfl) u22 hti hsz (show 0 < 3 by decide) (by show i ≤ A.length; omega) (by show i + 1 ≤ gc; omega) (news := [c]) rfl (fun e he => by simp only [List.mem_cons, List.not_mem_nil, or_false] at he; subst he; exact hc3) k2 k3 (A := some ⟨g1, b1, none⟩) (sl := 1) (by show min 1 (n + 1 - i) = 1; omega) (fun sc => by have := k1 _ rfl; simp only [Nat.zero_mul, Nat.add_zero] at this; exact this)
    dsimp only at E2 T2
    rw [← hB] at E2 T2
    have T2d := trel_heap T2 (w1 := W2.drew) rfl
    obtain ⟨us3, m1, m2, m3⟩ := read_sl T2d (show (μ.set 2 (some ⟨w.heap.size, 0, gc, 3⟩)) 0 = _ from hq) (show _ = some (⟨28, X⟩ : Row) from hr0) (off := i) (n := n - i) (show 0 < 3 by decide) (by show i + (n - i) ≤ X.length; omega) 0 0
    obtain ⟨W3, c3, E3, T3⟩ := copy_over T2d (off := i + 1) (n := n - i) (k := n - i) (t := 22) (u := 22) hp2 (show _ = some (⟨28, B⟩ : Row) from rfl) u22 hti hsz (show 0 < 3 by decide) (by show i + 1 ≤ B.length; omega) (by show i + 1 + (n - i) ≤ gc; omega) (news := (X.drop i).take (n - i)) hXl hX0 m2 m3 (A := some ⟨g, b + i * 3, none⟩) (sl := n - i) (by show min (n - i) (n - i) = n - i; omega) (fun sc => m1 _ rfl)
    dsimp only at E3 T3
    rw [hBe] at E3 T3
    refine calls_mono (grow_calls g b n cap i w.heap.size gc ⟨g1, b1, none⟩ cap1 w _ W2 W3 hi (by omega) (by omega) hb hc63 hGn (fun ty => by rw [hkk]; exact hrz ty) (fun ty dc => by have := c2 ty dc cap1; simp only [Nat.zero_add] at this; exact this) (fun ty dc sc => by have := c3 ty dc sc; simp only [Nat.zero_add] at this; exact this)) fun e w' he => ?_
    obtain ⟨rfl, rfl⟩ := he
    obtain ⟨L2, μ2, q1, q2, q3, q4⟩ := post_of (v := .slice (some ⟨w.heap.size, 0, none⟩) (n + 1) gc) (m := n + 1) (((E1.trans E2).trans (ext_heap (w := W2) (w1 := W2.drew) rfl rfl rfl rfl)).trans E3) T3 (id := 2) rfl hp2 hcl ⟨by show 0 + (n + 1) ≤ gc; omega, _, rfl, fun _ => by simp⟩ (by simp; omega)
    exact ⟨_, L2, μ2, rfl, q1, q2, q3, q4⟩
end Go.Proofs.Ytnceadbfgpiaaaa.I
