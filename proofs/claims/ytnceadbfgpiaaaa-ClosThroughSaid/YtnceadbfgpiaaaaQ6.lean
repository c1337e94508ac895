/- I0, I1, I2, one behind the other. -/
import Derived.Test.YtnceadbfgpiaaaaProg
import Derived.Test.YtnceadbfgpiaaaaQ4
import Derived.Shelf.Spec.SlicesInsertGrow
import Derived.KernelRfl
import Derived.Test.YtnceadbfgpiaaaaQ5
/- slices.Insert at items: the walks. -/
namespace Go.Proofs.Ytnceadbfgpiaaaa.I
open Go Go.Shelf Go.RowKit Go.Lib
set_option linter.unusedVariables false
set_option linter.unusedSimpArgs false
set_option maxRecDepth 100000
set_option maxHeartbeats 4000000
theorem shift_calls {x1 x2 : Value} (g b n c i : Nat) (A2 : Addr) (vc : Nat) (w W1 W2 : World) (hi : i < n) (hroom : n + 1 ≤ c) (hn : n ≤ 1000000) (hc63 : c ≤ 9223372036854775807)
    (hov : ∀ lb cb, (callFunc 48 #[.slice (some A2) 1 vc, .slice (some ⟨g, b + (i + 1) * 3, none⟩) lb cb]).run Try.prog w = .ok (.value (.bool false)) w)
    (hcp1 : ∀ ty dc sc, (Builtin.copy_ #[22, 22] ty #[.slice (some ⟨g, b + (i + 1) * 3, none⟩) (n - i) dc, .slice (some ⟨g, b + i * 3, none⟩) (n + 1 - i) sc]).run Try.prog w.drew = .ok x1 W1)
    (hcp2 : ∀ ty dc, (Builtin.copy_ #[22, 22] ty #[.slice (some ⟨g, b + i * 3, none⟩) (n + 1 - i) dc, .slice (some A2) 1 vc]).run Try.prog W1 = .ok x2 W2) :
    Calls Try.prog 32 #[.slice (some ⟨g, b, none⟩) n c, .int .i64 i, .slice (some A2) 1 vc] w fun e w' => e = .returned (.slice (some ⟨g, b, none⟩) (n + 1) c) ∧ w' = W2 := by
  have hz2 : ¬ ((i : Int) = (n : Int)) := by omega
  have hz3 : ¬ ((c : Int) < (n : Int) + 1) := by omega
  have hw1 : IntKind.i64.wrap ((i : Int) + 1) = (i : Int) + 1 := by rw [IntKind.wrap_i64]; omega
  have hb1 : (0 : Int) ≤ (i : Int) + 1 := by omega
  have hin : i ≤ n := by omega
  have htn : ((i : Int) + 1).toNat = i + 1 := by omega
  have hb2 : ¬ (c = i + 1) := by omega
  have hb3 : (i : Int) ≤ (n : Int) + 1 := by omega
  have hb4 : ¬ (c = i) := by omega
  have mixed : Try.prog.follows .mixedOrders = true := by kernel_rfl
  go_enter Try.func32, Try.ntmps32
  go_wp2_with (simp only [hov])
  go_region_law_o (refine step_copy_runI rfl _ _ 22 22 rfl _ _ (by simp [Act.eval, Act.put]) (by simp [Act.eval, Act.put]) (hcp1 _ _ _) ?_)
  go_wp2_with (at_builtin; refine wpList_copy_runI _ rfl _ _ 22 22 rfl _ _ rfl rfl (hcp2 _ _) ?_)
  go_ret
  exact ⟨rfl, rfl⟩
theorem grow_calls {x1 x2 : Value} (g b n c i N G : Nat) (A2 : Addr) (vc : Nat) (w W1 W2 W3 : World) (hi : i < n) (hnc : n ≤ c) (hroom : c < n + 1) (hn : n ≤ 1000000) (hc63 : c ≤ 9223372036854775807) (hG : n + 1 ≤ G)
    (hrz : ∀ ty, (Builtin.append_ #[22, 3] ty #[.slice (some ⟨g, b, none⟩) i c, .int .i64 ((n : Int) + 1 - (i : Int))]).run Try.prog w = .ok (.slice (some ⟨N, 0, none⟩) (n + 1) G) W1)
    (hcp1 : ∀ ty dc, (Builtin.copy_ #[22, 22] ty #[.slice (some ⟨N, i * 3, none⟩) (n + 1 - i) dc, .slice (some A2) 1 vc]).run Try.prog W1 = .ok x1 W2)
    (hcp2 : ∀ ty dc sc, (Builtin.copy_ #[22, 22] ty #[.slice (some ⟨N, (i + 1) * 3, none⟩) (n - i) dc, .slice (some ⟨g, b + i * 3, none⟩) (n - i) sc]).run Try.prog W2.drew = .ok x2 W3) :
    Calls Try.prog 32 #[.slice (some ⟨g, b, none⟩) n c, .int .i64 i, .slice (some A2) 1 vc] w fun e w' => e = .returned (.slice (some ⟨N, 0, none⟩) (n + 1) G) ∧ w' = W3 := by
  have hz2 : ¬ ((i : Int) = (n : Int)) := by omega
  have hz3 : (c : Int) < (n : Int) + 1 := by omega
  have hw1 : IntKind.i64.wrap ((i : Int) + 1) = (i : Int) + 1 := by rw [IntKind.wrap_i64]; omega
  have hb1 : (0 : Int) ≤ (i : Int) + 1 := by omega
  have hin : i ≤ n := by omega
  have htn : ((i : Int) + 1).toNat = i + 1 := by omega
  have hGi : ¬ (G = i) := by omega
  have hGim : ¬ (G = i + 1) := by omega
  have hci : ¬ (c = i) := by omega
  have hb3 : (i : Int) ≤ (n : Int) := by omega
  have mixed : Try.prog.follows .mixedOrders = true := by kernel_rfl
  go_enter Try.func32, Try.ntmps32
  go_wp2_with (first
    | (at_builtin; refine Lib.wpList_append_run _ rfl _ _ _ _ rfl _ _ rfl rfl _ _ (hrz _) ?_)
    | (at_builtin; refine wpList_copy_runI _ rfl _ _ 22 22 rfl _ _ rfl rfl (hcp1 _ _) ?_))
  go_region_law_o (refine step_copy_runI rfl _ _ 22 22 rfl _ _ (by simp [Act.eval, Act.put]) (by simp [Act.eval, Act.put]) (hcp2 _ _ _) ?_)
  go_wp2
  go_ret
  exact ⟨rfl, rfl⟩
end Go.Proofs.Ytnceadbfgpiaaaa.I
/- slices.Insert at items: its contract, over rows of one's own. -/
namespace Go.Proofs.Ytnceadbfgpiaaaa.I
open Go G U K
set_option linter.unusedVariables false
set_option linter.unusedSimpArgs false
set_option maxRecDepth 100000
set_option maxHeartbeats 4000000
section
variable {P : Program} {w w1 w' : World} {L L' : Nat → Prop} {μ μ' : G.Map} {T T' : Table}
theorem calls_mono {f : FuncId} {args : Array Value} {R R' : Ending → World → Prop} (h : Calls P f args w R) (hR : ∀ e w', R e w' → R' e w') : Calls P f args w R' := fun cs => by
  obtain ⟨e, w', fr, h1, h2⟩ := h cs
  exact ⟨e, w', fr, hR e w' h1, h2⟩
theorem trel_heap (hT : TRel P w L μ T) (h : w1.heap = w.heap) : TRel P w1 L μ T := by
  refine ⟨fun id r hr => ?_, hT.apart⟩
  obtain ⟨q, hq, h1, h2⟩ := hT.row id r hr
  refine ⟨q, hq, fun p hp => ?_, h2⟩
  have h3 := h1 p hp
  exact h3.mono (fun b _ _ => by rw [h]) (by rw [h]; exact Nat.le_refl _) (fun b _ hb => hb) (fun _ _ h => h) (by rw [h]) h3.live
theorem ext_heap (h : w1.heap = w.heap) (ho : w1.os = w.os) (ht : w1.tape = w.tape) (hu : w1.output = w.output) : Ext w L μ T w1 L μ T :=
  ⟨ho, ht, hu, by rw [h]; exact Nat.le_refl _, fun b _ _ => by rw [h], fun _ _ => Iff.rfl, fun _ _ h => h, fun id r p h hp => .inr ⟨id, r, p, h, hp, rfl⟩⟩
/-- A row's elements, as they are read through a slice. -/
theorem read_sl (hT : TRel P w L μ T) {id off n : Nat} {p : G.Place} {r : Row} (hq : μ id = some (some p)) (hr : T id = some r) (h0 : 0 < p.sz) (hle : off + n ≤ r.els.length) (len cap : Nat) :
    ∃ us : List Value, (∀ w1 : World, w1.heap = w.heap → (Builtin.firstCells p.sz n (.slice (some ⟨p.g, p.b + off * p.sz, none⟩) len cap)).run P w1 = .ok us.toArray w1) ∧ us.length = n * p.sz ∧
      ∀ (i : Nat) e j x, ((r.els.drop off).take n)[i]? = some e → e[j]? = some x → ∃ u, us[i * p.sz + j]? = some u ∧ u.oneCell' = true ∧ VRel w L μ u x := by
  have hrow := hT.cell hr hq
  have hv : VRel w L μ (.slice (some ⟨p.g, p.b + off * p.sz, none⟩) n (p.cap - off)) (.sl id off n) := .sl hq ⟨by have := hrow.len; omega, _, rfl, fun _ => rfl⟩
  have hs : srcEls T (.sl id off n) = some ((r.els.drop off).take n) := by simp [srcEls, hr, hle]
  have hl : ((r.els.drop off).take n).length = n := by rw [List.length_take, List.length_drop]; omega
  obtain ⟨_, h⟩ := srcEls_sound hT hv hs (sz := p.sz) (fun e he => hrow.sz e (List.mem_of_mem_drop (List.mem_of_mem_take he))) h0 (fun s h => by cases h) (fun id' off' n' r' h hr' => by
    obtain ⟨rfl, rfl, rfl⟩ := AV.sl.inj h
    rw [hr] at hr'
    obtain rfl := Option.some.inj hr'
    exact hrow.szT.symm)
  obtain ⟨us, h1, h2, h3⟩ := h n (by rw [hl]; exact Nat.le_refl n)
  refine ⟨us, h1, h2, fun i e j x he hx => h3 i e j x ?_ he hx⟩
  have := (List.getElem?_eq_some_iff.1 he).1
  omega
theorem us_one {sz k : Nat} {us : List Value} {news : List (List AV)} (h0 : 0 < sz) (hnl : news.length = k) (hall : ∀ c ∈ news, c.length = sz) (hul : us.length = k * sz)
    (husv : ∀ (i : Nat) e j x, news[i]? = some e → e[j]? = some x → ∃ u, us[i * sz + j]? = some u ∧ u.oneCell' = true ∧ VRel w L μ u x) : ∀ q ∈ us, q.oneCell' = true := by
  intro q hq
  obtain ⟨j, hj, rfl⟩ := List.mem_iff_getElem.1 hq
  have hj2 : j / sz < k := Nat.div_lt_of_lt_mul (by rw [Nat.mul_comm, ← hul]; exact hj)
  have hj3 : j % sz < sz := Nat.mod_lt _ h0
  have hcl := hall (news[j / sz]'(by omega)) (List.getElem_mem _)
  obtain ⟨q, hq, h1, _⟩ := husv (j / sz) (news[j / sz]'(by omega)) (j % sz) ((news[j / sz]'(by omega))[j % sz]'(by omega)) (List.getElem?_eq_getElem _) (List.getElem?_eq_getElem _)
  rw [Nat.mul_comm, Nat.div_add_mod, List.getElem?_eq_getElem hj] at hq
  obtain rfl := Option.some.inj hq
  exact h1
/-- Copying into a row, behind its last element, too. -/
theorem copy_over (hT : TRel P w L μ T) {id off n k : Nat} {p : G.Place} {r : Row} {e t u : TypeId} {ti : TypeInfo} (hq : μ id = some (some p)) (hr : T id = some r) (ht : P.underlying t = some (.slice e)) (hi : P.info? e = some ti) (hsz : ti.size = p.sz) (h0 : 0 < p.sz)
    (hoff : off ≤ r.els.length) (hcap : off + k ≤ p.cap) {news : List (List AV)} (hnl : news.length = k) (hall : ∀ c ∈ news, c.length = p.sz) {us : List Value} (hul : us.length = k * p.sz)
    (husv : ∀ (i : Nat) e j x, news[i]? = some e → e[j]? = some x → ∃ u, us[i * p.sz + j]? = some u ∧ u.oneCell' = true ∧ VRel w L μ u x) {A : Option Addr} {sl : Nat} (hmin : Nat.min sl n = k)
    (hfc : ∀ sc, (Builtin.firstCells p.sz k (.slice A sl sc)).run P w = .ok us.toArray w) :
    ∃ w', (∀ ty dc sc, (Builtin.copy_ #[t, u] ty #[.slice (some ⟨p.g, p.b + off * p.sz, none⟩) n dc, .slice A sl sc]).run P w = .ok (goInt k) w') ∧
      Ext w L μ T w' L μ (T.set id (some ⟨r.elem, r.els.take off ++ news ++ r.els.drop (off + k)⟩)) ∧ TRel P w' L μ (T.set id (some ⟨r.elem, r.els.take off ++ news ++ r.els.drop (off + k)⟩)) := by
  have hrow := hT.cell hr hq
  obtain ⟨cur, hg, hcsz, hcrr⟩ := hrow.cur
  have hrlen := hrow.len
  have hmul : (off + k) * p.sz ≤ p.cap * p.sz := Nat.mul_le_mul_right _ (by omega)
  rw [Nat.add_mul] at hmul
  have hcrr' : CurRel w L μ cur p.b p.sz r.els := hcrr
  have hov := hcrr'.over hrow.sz (n := off) hoff (us := us) (news := news) hall (by rw [hnl]; exact hul) husv (by omega)
  rw [hnl] at hov
  obtain ⟨q1, q2⟩ := store_core hT hr hq hg (cur' := (cur.toList.take (p.b + off * p.sz) ++ us ++ cur.toList.drop (p.b + off * p.sz + us.length)).toArray) (by simp; omega) hov (by
      simp only [List.length_append, List.length_take, List.length_drop, hnl]; omega) (by
    intro c hc
    rcases List.mem_append.1 hc with h | h
    · rcases List.mem_append.1 h with h | h
      · exact hrow.sz c (List.mem_of_mem_take h)
      · exact hall c h
    · exact hrow.sz c (List.mem_of_mem_drop h))
  have h1us := us_one h0 hnl hall hul husv
  have hst := run_storeCells_at P p.g (p.b + off * p.sz) r.elem us 0 cur w hg (by simp; omega) h1us
  simp only [Nat.add_zero] at hst
  refine ⟨_, fun ty dc sc => ?_, q1, q2⟩
  have hc1 := hfc sc
  rw [← hsz] at hc1
  generalize hF : Builtin.firstCells ti.size k (.slice A sl sc) = F at hc1
  simp [Builtin.copy_, Builtin.lenOf, run_underlying ht, sizeOf, typeInfo, hi, hmin, hF, hc1, hst]
/-- What the caller is told behind such a call. -/
theorem post_of {R0 : List Row} (hE : Ext w L μ (tabO (R0.map some)) w' L' μ' T') (hT' : TRel P w' L' μ' T') {id m : Nat} {p : G.Place} {r : Row} (hr : T' id = some r) (hp : μ' id = some (some p)) (hcl : ∀ e ∈ r.els, closedAll [] e = true) {v : Value} (hv : slOk (some p) 0 m v) (hm : m ≤ r.els.length) :
    ∃ L2 μ2, VRel w' L2 μ2 v (.sl 1 0 m) ∧ TRel P w' L2 μ2 (tabO [none, some r]) ∧ PExt w L μ (tabO (R0.map some)) 1 w' L2 μ2 (tabO [none, some r]) ∧ ∀ id, 1 + 8 ≤ id → μ2 id = none := by
  have hrow := hT'.cell hr hp
  have htab : ∀ i r0, tabO [none, some r] i = some r0 → i = 1 ∧ r0 = r := fun i r0 h => by
    match i, h with
    | 0, h => simp [tabO] at h
    | 1, h => exact ⟨rfl, by simpa [tabO] using h.symm⟩
    | i + 2, h => simp [tabO] at h
  refine ⟨L', fun j => if j = 0 then μ 0 else if j = 1 then some (some p) else none, .sl (q := some p) (by simp) hv, ⟨fun i r0 h => ?_, fun i i' r1 r2 p1 p2 h1 h2 _ _ hne => ?_⟩, ⟨hE.os, hE.tape, hE.output, hE.size, hE.block, hE.L, fun i q hi hq => ?_, fun i r0 p0 h hp0 => ?_⟩, fun i hi => ?_⟩
  · obtain ⟨rfl, rfl⟩ := htab i r0 h
    refine ⟨some p, by simp, fun p' hp' => ?_, fun h => by cases h⟩
    obtain rfl := Option.some.inj hp'
    obtain ⟨cur, h1, h2, h3⟩ := hrow.cur
    refine ⟨⟨cur, h1, h2, fun i e j x he hx => ?_⟩, hrow.len, hrow.sz, hrow.szT, hrow.cap, hrow.live⟩
    obtain ⟨u, hu, h4, h5⟩ := h3 i e j x he hx
    refine ⟨u, hu, h4, closed_rel h5 ?_ (fun _ _ h => h)⟩
    have := hcl e (List.mem_of_getElem? he)
    rw [closedAll_all] at this
    exact List.all_eq_true.1 this x (List.mem_of_getElem? hx)
  · obtain ⟨rfl, _⟩ := htab _ _ h1
    obtain ⟨rfl, _⟩ := htab _ _ h2
    exact absurd rfl hne
  · have : i = 0 := by omega
    subst this
    simpa using hq
  · obtain ⟨rfl, rfl⟩ := htab i r0 h
    simp at hp0
    subst hp0
    exact hE.place id r0 p hr hp
  · have h1 : i ≠ 0 := by omega
    have h2 : i ≠ 1 := by omega
    simp [h1, h2]
end
end Go.Proofs.Ytnceadbfgpiaaaa.I
/- slices.Insert at items: its contract, over rows of the caller. -/
namespace Go.Proofs.Ytnceadbfgpiaaaa.I
open Go G U K
set_option linter.unusedVariables false
set_option linter.unusedSimpArgs false
set_option maxRecDepth 100000
set_option maxHeartbeats 4000000
theorem fn32 : Try.prog.funcs[32]? = some Try.f32 := by kernel_rfl
theorem z28 : tinfo Try.prog 28 = some (some (.agg #[.int .i64 0, .int .i64 0, .int .u64 0]), 3, 24) := by kernel_rfl
theorem u22 : Try.prog.underlying 22 = some (.slice 28) := by kernel_rfl
theorem c28 : Try.prog.cellsOf 28 = 3 := by kernel_rfl
theorem slc_end {T : Table} {n : Nat} {X : List (List AV)} (hT : T 0 = some ⟨28, X⟩) (hn : n = X.length) : evSlice Try.prog T 22 (.sl 0 0 n) (some (.flat (.int .i64 (natI n)))) none = some (.sl 0 n 0) := by
  have := slc_sl (P := Try.prog) (T := T) (t := 22) (n := n) (l := n) (h := n) (lo := some (.flat (.int .i64 (natI n)))) (hi := none) u22 z28 hT c28 (by omega) (by
    have := bnd_lo (n := n) (m := X.length) (k := .i64) (l := natI n) (by unfold natI; omega) (by unfold natI; omega)
    unfold natI at this ⊢
    simpa using this)
  simpa using this
theorem insert_end (X : List (List AV)) (c : List AV) (n : Nat) (hn : n = X.length) (hb : n ≤ 1000000) (hX : ∀ e ∈ X ++ [c], closedAll [] e = true) (hc : c.length = 3) :
    PCalls Try.prog 32 1 [.sl 0 0 n, .flat (.int .i64 (natI n)), .sl 1 0 1] [⟨28, X⟩, ⟨28, [c]⟩] (.sl 1 0 (n + 1)) [none, some ⟨28, X ++ [c]⟩] := by
  obtain ⟨n2, hn2⟩ : ∃ m, m = n + 1 := ⟨_, rfl⟩
  obtain ⟨Y, hY⟩ : ∃ Y, Y = X ++ [c] := ⟨_, rfl⟩
  have hap : ∀ (T : Table) (id k0 k : Nat), T k0 = some ⟨28, X⟩ → T k = some ⟨28, [c]⟩ → k ≠ k0 → evAppend Try.prog T id 22 22 (.sl k0 0 n) (.sl k 0 1) = some (.sl id 0 n2, (T.set k0 none).set id (some ⟨28, Y⟩)) := fun T id k0 k h1 h2 h3 =>
    app_tip u22 z28 c28 (by decide) rfl (by decide) h1 h2 h3 hc (by omega) hn2 (by rw [hY, hn, List.take_length]) (by omega)
  have hsl := fun (T : Table) (h : T 0 = some ⟨28, X⟩) => slc_end h hn
  rw [← hn2, ← hY]
  rw [← hY] at hX
  clear hY hn2 hn
  refine pcalls_symF tabF_ok 1 (by decide) (by simp) fn32 rfl rfl rfl (by kernel_rfl) ?_
  rintro ⟨lt, le, eq, se, ar, dv, una, conv, len, sln, nat, nth, ixs, cel, sto, app, cpy, slc, mak, ixv, oth, dk, ib, call⟩ hS hm Q hQ
  obtain ⟨hlt, hle, heq, hse, har, hdv, huna, hconv, hlen, hsln, hnat, hnth, hixs, hcel, hsto, happ, hcpy, hslc, hmak, hixv, hoth, hdk, hib, hcall⟩ := Sym.mk.inj hS
  clear hS
  have hnt : ∀ n : Nat, nat n = U.natI n := fun n => by rw [hnat]; rfl
  have hbox : ∀ e c off, cel (some ⟨e, [c]⟩) 0 off = if off ≤ c.length then some (c.drop off) else none := fun e c off => by rw [hcel]; rfl
  have hsbox : ∀ e c off sz y, sto (some ⟨e, [c]⟩) 0 off sz y = if y.cells.length = sz ∧ off + sz ≤ c.length ∧ y.cells.all AV.one = true then some ⟨e, [spl c off y.cells]⟩ else none := fun e c off sz y => by rw [hsto]; rfl
  have hcaw : ∀ {f args T base K}, CallK Try.prog f args T base K → call f args T base K := fun h => by rw [hcall]; exact h
  have hcal : ∀ {f args T base} {K : AV → Table → List Nat → List Nat → Prop}, (∃ args' ids val rows, Hands T ids args args' (val base) (rows base) ∧ ACalls Try.prog f args' val rows ∧ (rows base).length ≤ 8 ∧ K (val base) (adopt T base (rows base)) ids ((List.range (rows base).length).map (base + ·))) → call f args T base K := fun h => hcaw (call_own h)
  have h1 : eq (nat 1) 0 = false := by rw [heq, hnat]; rfl
  have h2 : eq (natI n) (nat n) = true := by rw [heq, hnat]; exact decide_eq_true rfl
  have h3 : ∀ (T : Table) (id k0 k : Nat), T k0 = some ⟨28, X⟩ → T k = some ⟨28, [c]⟩ → k ≠ k0 → app T id 22 22 (.sl k0 0 n) (.sl k 0 1) = some (.sl id 0 n2, (T.set k0 none).set id (some ⟨28, Y⟩)) := by rw [happ]; exact hap
  have h4 : ∀ T, T 0 = some ⟨28, X⟩ → slc T 22 (.sl 0 0 n) (some (.flat (.int .i64 (natI n)))) none = some (.sl 0 n 0) := by rw [hslc]; exact hsl
  clear hap hsl
  generalize natI n = ni at h2 h4
  cbv
  rw [h4 _ (by rfl)]; cbv
  rw [h1]; cbv
  rw [h2]; cbv
  rw [h3 _ _ _ _ (by rfl) (by rfl) (by decide)]; cbv
  exact hQ _ _ trivial ⟨[], [0, 138], .sl 138 0 n2, by cbv, ⟨by simp, by rfl, .inr rfl⟩, by simp, by rfl, by rfl, cutRows_none (by rfl) (cutRows_cons (by rfl) hX rfl)⟩
/-! ### The whole -/
def Z28 : List AV := [.flat (.int .i64 0), .flat (.int .i64 0), .flat (.int .u64 0)]
theorem zero_get (k q j : Nat) (x : AV) (hq : q < k) (hx : Z28[j]? = some x) : ∃ u, (Builtin.zeroCells (Value.agg #[.int .i64 0, .int .i64 0, .int .u64 0]).cells k).toList[q * 3 + j]? = some u ∧ u.oneCell' = true ∧ ∀ (w : World) (L : Nat → Prop) (μ : G.Map), VRel w L μ u x := by
  have hj : j < 3 := (List.getElem?_eq_some_iff.1 hx).1
  have hlt : q * 3 + j < k * 3 := by omega
  have hmod : (q * 3 + j) % 3 = j := by omega
  have e : (Builtin.zeroCells (Value.agg #[.int .i64 0, .int .i64 0, .int .u64 0]).cells k).toList[q * 3 + j]? = some ((#[Value.int .i64 0, .int .i64 0, .int .u64 0] : Array Value)[j]!) := by
    simp [Builtin.zeroCells, Value.cells, hlt, hmod]
  rw [e]
  match j, hx with
  | 0, hx => obtain rfl := Option.some.inj hx; exact ⟨_, rfl, rfl, fun _ _ _ => .flat _ rfl⟩
  | 1, hx => obtain rfl := Option.some.inj hx; exact ⟨_, rfl, rfl, fun _ _ _ => .flat _ rfl⟩
  | 2, hx => obtain rfl := Option.some.inj hx; exact ⟨_, rfl, rfl, fun _ _ _ => .flat _ rfl⟩
  | j + 3, hx => simp [Z28] at hx
theorem list_in {α : Type} (X Y : List α) (c : α) (i n : Nat) (hn : n = X.length) (hi : i < n) (hY : Y = X.take (i + 1) ++ (X.drop i).take (n - i) ++ X.drop (i + 1 + (n - i))) : Y.length = n + 1 ∧ Y.take i ++ [c] ++ Y.drop (i + 1) = X.take i ++ [c] ++ X.drop i := by
  have e1 : (X.drop i).take (n - i) = X.drop i := List.take_of_length_le (by rw [List.length_drop]; omega)
  have e2 : X.drop (i + 1 + (n - i)) = [] := List.drop_eq_nil_of_le (by omega)
  rw [e1, e2, List.append_nil] at hY
  have hl : (X.take (i + 1)).length = i + 1 := by rw [List.length_take]; omega
  refine ⟨by rw [hY, List.length_append, hl, List.length_drop]; omega, ?_⟩
  rw [hY, List.take_append_of_le_length (by omega), List.take_take, Nat.min_eq_left (by omega), List.drop_append_of_le_length (by omega), List.drop_eq_nil_of_le (by omega), List.nil_append]
theorem list_new {α : Type} (X A B : List α) (c z : α) (i n : Nat) (hn : n = X.length) (hi : i < n) (hA : A = X.take i ++ List.replicate (n + 1 - i) z) (hB : B = A.take i ++ [c] ++ A.drop (i + 1)) : A.length = n + 1 ∧ B.length = n + 1 ∧ B.take (i + 1) ++ (X.drop i).take (n - i) ++ B.drop (i + 1 + (n - i)) = X.take i ++ [c] ++ X.drop i := by
  have hl : (X.take i).length = i := by rw [List.length_take]; omega
  have hAl : A.length = n + 1 := by rw [hA, List.length_append, hl, List.length_replicate]; omega
  have e0 : A.take i = X.take i := by rw [hA, List.take_append_of_le_length (by omega), List.take_of_length_le (by omega)]
  have hBl : B.length = n + 1 := by rw [hB]; simp; omega
  have e1 : (X.drop i).take (n - i) = X.drop i := List.take_of_length_le (by rw [List.length_drop]; omega)
  have e2 : B.drop (i + 1 + (n - i)) = [] := List.drop_eq_nil_of_le (by omega)
  have e3 : B.take (i + 1) = X.take i ++ [c] := by
    rw [hB, e0, List.take_append_of_le_length (by simp; omega), List.take_of_length_le (by simp; omega)]
  exact ⟨hAl, hBl, by rw [e1, e2, e3, List.append_nil]⟩
theorem insert_calls (X : List (List AV)) (c : List AV) (i n : Nat) (hn : n = X.length) (hi : i ≤ n) (hb : n ≤ 1000000) (hX3 : ∀ e ∈ X, e.length = 3) (hXc : ∀ e ∈ X, closedAll [] e = true) (hc3 : c.length = 3) (hcc : closedAll [] c = true) :
    PCalls Try.prog 32 1 [.sl 0 0 n, .flat (.int .i64 (natI i)), .sl 1 0 1] [⟨28, X⟩, ⟨28, [c]⟩] (.sl 1 0 (n + 1)) [none, some ⟨28, X.take i ++ [c] ++ X.drop i⟩] := by
  by_cases hin : i = n
  · subst hin
    have := insert_end X c i hn hb (fun e he => by
      rcases List.mem_append.1 he with h | h
      · exact hXc e h
      · simp only [List.mem_cons, List.not_mem_nil, or_false] at h; subst h; exact hcc) hc3
    rw [List.take_of_length_le (by omega), List.drop_eq_nil_of_le (by omega), List.append_nil]
    exact this
  have hi : i < n := by omega
  have hcl : ∀ e ∈ X.take i ++ [c] ++ X.drop i, closedAll [] e = true := fun e he => by
    rcases List.mem_append.1 he with h | h
    · rcases List.mem_append.1 h with h | h
      · exact hXc e (List.mem_of_mem_take h)
      · simp only [List.mem_cons, List.not_mem_nil, or_false] at h; subst h; exact hcc
    · exact hXc e (List.mem_of_mem_drop h)
  obtain ⟨ti, hti, hz, hsz, hby, _⟩ := tinfo_some z28
  have hs28 : ∀ w, (sizeOf 28).run Try.prog w = .ok 3 w := fun w => by simp [sizeOf, typeInfo, hti, hsz]
  have hu3 : Try.prog.underlying 3 = some (.int .i64) := by kernel_rfl
  refine ⟨⟨_, fn32, rfl, rfl⟩, fun w L μ vs hs hvs hT hno => ?_⟩
  obtain ⟨v0, v1, v2, rfl⟩ : ∃ v0 v1 v2, vs = #[v0, v1, v2] := by
    have h3 : vs.size = 3 := hs
    obtain ⟨l⟩ := vs
    match l, h3 with
    | [a, b, c], _ => exact ⟨a, b, c, rfl⟩
  have r0 : VRel w L μ v0 (.sl 0 0 n) := hvs 0 _ rfl
  have r1 : VRel w L μ v1 (.flat (.int .i64 (natI i))) := hvs 1 _ rfl
  have r2 : VRel w L μ v2 (.sl 1 0 1) := hvs 2 _ rfl
  clear hvs hs
  cases r1
  cases r0 with
  | @sl _ _ _ _ _ q hq h0 =>
  cases r2 with
  | @sl _ _ _ _ _ q1 hq1 h1 =>
  cases q with
  | none => obtain ⟨_, h, _⟩ := h0; omega
  | some p =>
  cases q1 with
  | none => obtain ⟨_, h, _⟩ := h1; omega
  | some p1 =>
  obtain ⟨hle, A0, rfl, hA0⟩ := h0
  obtain ⟨hle1, A1, rfl, hA1⟩ := h1
  obtain rfl := hA0 (by omega)
  obtain rfl := hA1 (by omega)
  have hr0 : tabO ([⟨28, X⟩, ⟨28, [c]⟩].map some) 0 = some (⟨28, X⟩ : Row) := rfl
  have hr1 : tabO ([⟨28, X⟩, ⟨28, [c]⟩].map some) 1 = some (⟨28, [c]⟩ : Row) := rfl
  have hw0 := hT.cell hr0 hq
  have hw1 := hT.cell hr1 hq1
  have hne : p1.g ≠ p.g := fun h => hT.apart 0 1 _ _ _ _ hr0 hr1 hq hq1 (by decide) h.symm
  obtain ⟨g, b, cap, sz⟩ := p
  obtain ⟨g1, b1, cap1, sz1⟩ := p1
  have e0 := hw0.szT
  have e1 := hw1.szT
  rw [c28] at e0 e1
  dsimp only at e0 e1 hle hle1 hne
  subst e0 e1
  have hcm : cap ≤ maxLen := hw0.cap
  have hc63 : cap ≤ 9223372036854775807 := by unfold maxLen at hcm; omega
  simp only [Nat.zero_mul, Nat.add_zero, Nat.sub_zero, Nat.zero_add] at hle hle1 ⊢
  have hTd := trel_heap hT (w1 := w.drew) rfl
  have hX0 : ∀ e ∈ (X.drop i).take (n - i), e.length = 3 := fun e he => hX3 e (List.mem_of_mem_drop (List.mem_of_mem_take he))
  have hXl : ((X.drop i).take (n - i)).length = n - i := by rw [List.length_take, List.length_drop]; omega
  by_cases hroom : n + 1 ≤ cap
  · obtain ⟨us1, h1, h2, h3⟩ := read_sl hTd hq hr0 (off := i) (n := n - i) (show 0 < 3 by decide) (by show i + (n - i) ≤ X.length; omega) 0 0
    obtain ⟨W1, c1, E1, T1⟩ := copy_over hTd (off := i + 1) (n := n - i) (k := n - i) (t := 22) (u := 22) hq hr0 u22 hti hsz (show 0 < 3 by decide) (by show i + 1 ≤ X.length; omega) (by show i + 1 + (n - i) ≤ cap; omega) (news := (X.drop i).take (n - i)) hXl hX0 h2 h3 (A := some ⟨g, b + i * 3, none⟩) (sl := n + 1 - i) (by show min (n + 1 - i) (n - i) = n - i; omega) (fun sc => h1 _ rfl)
    obtain ⟨Y, hY⟩ : ∃ Y, Y = X.take (i + 1) ++ (X.drop i).take (n - i) ++ X.drop (i + 1 + (n - i)) := ⟨_, rfl⟩
    obtain ⟨hYl, hYe⟩ := list_in X Y c i n hn hi hY
    dsimp only at E1 T1
    rw [← hY] at E1 T1
    obtain ⟨us2, k1, k2, k3⟩ := read_sl T1 hq1 (show _ = some (⟨28, [c]⟩ : Row) from hr1) (off := 0) (n := 1) (show 0 < 3 by decide) (by show 0 + 1 ≤ 1; omega) 0 0
    obtain ⟨W2, c2, E2, T2⟩ := copy_over T1 (off := i) (n := n + 1 - i) (k := 1) (t := 22) (u := 22) hq (show _ = some (⟨28, Y⟩ : Row) from rfl) u22 hti hsz (show 0 < 3 by decide) (by show i ≤ Y.length; omega) (by show i + 1 ≤ cap; omega) (news := [c]) rfl (fun e he => by simp only [List.mem_cons, List.not_mem_nil, or_false] at he; subst he; exact hc3) k2 k3 (A := some ⟨g1, b1, none⟩) (sl := 1) (by show min 1 (n + 1 - i) = 1; omega) (fun sc => by have := k1 _ rfl; simp only [Nat.zero_mul, Nat.add_zero] at this; exact this)
    dsimp only at E2 T2
    rw [hYe] at E2 T2
    obtain ⟨cur1, hg1, _, _⟩ := hw1.cur
    obtain ⟨cur0, hg0, hs0, _⟩ := hw0.cur
    dsimp only at hg1 hg0 hs0
    have hov : ∀ lb cb, (callFunc 48 #[.slice (some ⟨g1, b1, none⟩) 1 cap1, .slice (some ⟨g, b + (i + 1) * 3, none⟩) lb cb]).run Try.prog w = .ok (.value (.bool false)) w := fun lb cb => by
      rw [run_callFunc_extern Try.func48 (by kernel_rfl) (by kernel_rfl) (by kernel_rfl) (e := Extern.SlicesOverlaps.overlaps #[22, 22] #[4]) (by kernel_rfl),
        Lib.run_overlaps_apart w 22 4 28 u22 3 hs28 ⟨g1, b1, none⟩ ⟨g, b + (i + 1) * 3, none⟩ 1 cap1 lb cb hne 28 28 cur1.size cur0.size (by unfold World.shape?; rw [hg1]) (by unfold World.shape?; rw [hg0]) (by omega) (by unfold World.frozen?; rw [hg1]; simp) (by unfold World.frozen?; rw [hg1]; simp)]
      rfl
    refine calls_mono (shift_calls g b n cap i ⟨g1, b1, none⟩ cap1 w W1 W2 hi hroom hb hc63 hov c1 (fun ty dc => c2 ty dc cap1)) fun e w' he => ?_
    obtain ⟨rfl, rfl⟩ := he
    obtain ⟨L2, μ2, q1, q2, q3, q4⟩ := post_of (v := .slice (some ⟨g, b, none⟩) (n + 1) cap) (m := n + 1) (((ext_heap (w := w) (w1 := w.drew) rfl rfl rfl rfl).trans E1).trans E2) T2 (id := 0) rfl hq hcl ⟨by show 0 + (n + 1) ≤ cap; omega, _, rfl, fun _ => by simp⟩ (by simp; omega)
    exact ⟨_, L2, μ2, rfl, q1, q2, q3, q4⟩
  · obtain ⟨olds, o1, o2, o3⟩ := read_sl hT hq hr0 (off := 0) (n := i) (show 0 < 3 by decide) (by show 0 + i ≤ X.length; omega) 0 0
    dsimp only at o1 o2 o3
    obtain ⟨gc, hG⟩ : ∃ gc, gc = grownCap w (n + 1) cap 28 := ⟨_, rfl⟩
    have hGn : n + 1 ≤ gc := by rw [hG]; exact grownCap_ge w _ _ _
    have hGm : gc ≤ maxLen := by rw [hG]; exact grownCap_le_maxLen w (n + 1) cap 28 (by unfold maxLen; omega)
    have hkk : (n : Int) + 1 - (i : Int) = ((n + 1 - i : Nat) : Int) := by omega
    have hik : i + (n + 1 - i) = n + 1 := by omega
    have hrz := fun ty => Lib.run_append_grow_zeros w 22 3 ty 28 ti _ .i64 .i64 u22 hu3 hti hz (some ⟨g, b, none⟩) i cap olds (by have := o1 w.drew rfl; simp only [Nat.zero_mul, Nat.add_zero] at this; rw [hsz]; exact this) (n + 1 - i) (by omega) (by rw [hsz]; decide) (by omega) (by omega) (by rw [hby]; omega) (by rw [hby, hik]; exact growslice_fits (by omega) (by omega))
    rw [hik, ← hG] at hrz
    obtain ⟨cur, hcur⟩ : ∃ cur, cur = olds.toArray ++ Builtin.zeroCells (Value.agg #[.int .i64 0, .int .i64 0, .int .u64 0]).cells (n + 1 - i) ++ Builtin.zeroCells (Value.agg #[.int .i64 0, .int .i64 0, .int .u64 0]).cells (gc - (n + 1)) := ⟨_, rfl⟩
    rw [← hcur] at hrz
    obtain ⟨A, hA⟩ : ∃ A, A = X.take i ++ List.replicate (n + 1 - i) Z28 := ⟨_, rfl⟩
    obtain ⟨B, hB⟩ : ∃ B, B = A.take i ++ [c] ++ A.drop (i + 1) := ⟨_, rfl⟩
    obtain ⟨hAl, hBl, hBe⟩ := list_new X A B c Z28 i n hn hi hA hB
    have hA3 : ∀ e ∈ A, e.length = 3 := fun e he => by
      rw [hA] at he
      rcases List.mem_append.1 he with h | h
      · exact hX3 e (List.mem_of_mem_take h)
      · rw [List.eq_of_mem_replicate h]; rfl
    have hB3 : ∀ e ∈ B, e.length = 3 := fun e he => by
      rw [hB] at he
      rcases List.mem_append.1 he with h | h
      · rcases List.mem_append.1 h with h | h
        · exact hA3 e (List.mem_of_mem_take h)
        · simp only [List.mem_cons, List.not_mem_nil, or_false] at h; subst h; exact hc3
      · exact hA3 e (List.mem_of_mem_drop h)
    obtain ⟨E1, T1⟩ := grown_gives hT (id := 2) (hno 2 (Nat.le_refl 2)) (e := 28) (z := Value.agg #[.int .i64 0, .int .i64 0, .int .u64 0]) c28.symm rfl (us := olds ++ (Builtin.zeroCells (Value.agg #[.int .i64 0, .int .i64 0, .int .u64 0]).cells (n + 1 - i)).toList) (all := A) hAl hA3 (by rw [List.length_append, o2, Array.length_toList, zeros_len]; show i * 3 + (n + 1 - i) * 3 = (n + 1) * 3; omega) (fun q e j x he hx => by
      rw [hA] at he
      by_cases hq3 : q < i
      · rw [List.getElem?_append_left (by rw [List.length_take]; omega)] at he
        have hj : j < 3 := by have h1 := (List.getElem?_eq_some_iff.1 hx).1; rw [hX3 e (List.mem_of_mem_take (List.mem_of_getElem? he))] at h1; exact h1
        obtain ⟨u, hu, hu1, hu2⟩ := o3 q e j x (by rw [List.drop_zero]; exact he) hx
        refine ⟨u, ?_, hu1, hu2⟩
        rw [List.getElem?_append_left (by rw [o2]; omega)]; exact hu
      · rw [List.getElem?_append_right (by rw [List.length_take]; omega), List.length_take, List.getElem?_replicate] at he
        split at he
        · rename_i hlt
          obtain rfl := Option.some.inj he
          obtain ⟨u, hu, hu1, hu2⟩ := zero_get (n + 1 - i) (q - i) j x (by omega) hx
          refine ⟨u, ?_, hu1, hu2 _ _ _⟩
          rw [List.getElem?_append_right (by rw [o2]; omega), o2, show q * 3 + j - i * 3 = (q - i) * 3 + j by omega]; exact hu
        · cases he) hGn hGm (w1 := w.drew) rfl rfl rfl rfl (cur := cur) (by rw [hcur]; simp)
    have hp2 : (μ.set 2 (some ⟨w.heap.size, 0, gc, 3⟩)) 2 = some (some (⟨w.heap.size, 0, gc, 3⟩ : G.Place)) := rfl
    obtain ⟨us2, k1, k2, k3⟩ := read_sl T1 (show (μ.set 2 (some ⟨w.heap.size, 0, gc, 3⟩)) 1 = _ from hq1) (show _ = some (⟨28, [c]⟩ : Row) from hr1) (off := 0) (n := 1) (show 0 < 3 by decide) (by show 0 + 1 ≤ 1; omega) 0 0
    obtain ⟨W2, c2, E2, T2⟩ := copy_over T1 (off := i) (n := n + 1 - i) (k := 1) (t := 22) (u := 22) hp2 (show _ = some (⟨28, A⟩ : Row) from rfl) u22 hti hsz (show 0 < 3 by decide) (by show i ≤ A.length; omega) (by show i + 1 ≤ gc; omega) (news := [c]) rfl (fun e he => by simp only [List.mem_cons, List.not_mem_nil, or_false] at he; subst he; exact hc3) k2 k3 (A := some ⟨g1, b1, none⟩) (sl := 1) (by show min 1 (n + 1 - i) = 1; omega) (fun sc => by have := k1 _ rfl; simp only [Nat.zero_mul, Nat.add_zero] at this; exact this)
    dsimp only at E2 T2
    rw [← hB] at E2 T2
    have T2d := trel_heap T2 (w1 := W2.drew) rfl
    obtain ⟨us3, m1, m2, m3⟩ := read_sl T2d (show (μ.set 2 (some ⟨w.heap.size, 0, gc, 3⟩)) 0 = _ from hq) (show _ = some (⟨28, X⟩ : Row) from hr0) (off := i) (n := n - i) (show 0 < 3 by decide) (by show i + (n - i) ≤ X.length; omega) 0 0
    obtain ⟨W3, c3, E3, T3⟩ := copy_over T2d (off := i + 1) (n := n - i) (k := n - i) (t := 22) (u := 22) hp2 (show _ = some (⟨28, B⟩ : Row) from rfl) u22 hti hsz (show 0 < 3 by decide) (by show i + 1 ≤ B.length; omega) (by show i + 1 + (n - i) ≤ gc; omega) (news := (X.drop i).take (n - i)) hXl hX0 m2 m3 (A := some ⟨g, b + i * 3, none⟩) (sl := n - i) (by show min (n - i) (n - i) = n - i; omega) (fun sc => m1 _ rfl)
    dsimp only at E3 T3
    rw [hBe] at E3 T3
    refine calls_mono (grow_calls g b n cap i w.heap.size gc ⟨g1, b1, none⟩ cap1 w _ W2 W3 hi (by omega) (by omega) hb hc63 hGn (fun ty => by rw [hkk]; exact hrz ty) (fun ty dc => by have := c2 ty dc cap1; simp only [Nat.zero_add] at this; exact this) (fun ty dc sc => by have := c3 ty dc sc; simp only [Nat.zero_add] at this; exact this)) fun e w' he => ?_
    obtain ⟨rfl, rfl⟩ := he
    obtain ⟨L2, μ2, q1, q2, q3, q4⟩ := post_of (v := .slice (some ⟨w.heap.size, 0, none⟩) (n + 1) gc) (m := n + 1) (((E1.trans E2).trans (ext_heap (w := W2) (w1 := W2.drew) rfl rfl rfl rfl)).trans E3) T3 (id := 2) rfl hp2 hcl ⟨by show 0 + (n + 1) ≤ gc; omega, _, rfl, fun _ => by simp⟩ (by simp; omega)
    exact ⟨_, L2, μ2, rfl, q1, q2, q3, q4⟩
end Go.Proofs.Ytnceadbfgpiaaaa.I
