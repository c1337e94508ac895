/- slices.Insert at items: its contract, over rows of one's own. -/
import Derived.Test.YtnceadbfgpiaaaaI0
import Derived.Test.YtnceadbfgpiaaaaU1
import Derived.Test.YtnceadbfgpiaaaaK0
namespace Go.Proofs.Ytnceadbfgpiaaaa.I
open Go G U K
set_option linter.unusedVariables false
set_option linter.unusedSimpArgs false
set_option maxRecDepth 100000
set_option maxHeartbeats 4000000
section
variable {P : Program} {w w1 w' : World} {L L' : Nat → Prop} {μ μ' : G.Map} {T T' : Table}
theorem calls_mono {f : FuncId} {args : Array Value} {R R' : Ending → World → Prop} (h : Calls P f args w R) (hR : ∀ e w', R e w' → R' e w') : Calls P f args w R' := fun cs => by
  obtain ⟨e, w', fr, h1, h2⟩ := h cs
  exact ⟨e, w', fr, hR e w' h1, h2⟩
theorem trel_heap (hT : TRel P w L μ T) (h : w1.heap = w.heap) : TRel P w1 L μ T := by
  refine ⟨fun id r hr => ?_, hT.apart⟩
  obtain ⟨q, hq, h1, h2⟩ := hT.row id r hr
  refine ⟨q, hq, fun p hp => ?_, h2⟩
  have h3 := h1 p hp
  exact h3.mono (fun b _ _ => by rw [h]) (by rw [h]; exact Nat.le_refl _) (fun b _ hb => hb) (fun _ _ h => h) (by rw [h]) h3.live
theorem ext_heap (h : w1.heap = w.heap) (ho : w1.os = w.os) (ht : w1.tape = w.tape) (hu : w1.output = w.output) : Ext w L μ T w1 L μ T :=
  ⟨ho, ht, hu, by rw [h]; exact Nat.le_refl _, fun b _ _ => by rw [h], fun _ _ => Iff.rfl, fun _ _ h => h, fun id r p h hp => .inr ⟨id, r, p, h, hp, rfl⟩⟩
/-- A row's elements, as they are read through a slice. -/
theorem read_sl (hT : TRel P w L μ T) {id off n : Nat} {p : G.Place} {r : Row} (hq : μ id = some (some p)) (hr : T id = some r) (h0 : 0 < p.sz) (hle : off + n ≤ r.els.length) (len cap : Nat) :
    ∃ us : List Value, (∀ w1 : World, w1.heap = w.heap → (Builtin.firstCells p.sz n (.slice (some ⟨p.g, p.b + off * p.sz, none⟩) len cap)).run P w1 = .ok us.toArray w1) ∧ us.length = n * p.sz ∧
      ∀ (i : Nat) e j x, ((r.els.drop off).take n)[i]? = some e → e[j]? = some x → ∃ u, us[i * p.sz + j]? = some u ∧ u.oneCell' = true ∧ VRel w L μ u x := by
  have hrow := hT.cell hr hq
  have hv : VRel w L μ (.slice (some ⟨p.g, p.b + off * p.sz, none⟩) n (p.cap - off)) (.sl id off n) := .sl hq ⟨by have := hrow.len; omega, _, rfl, fun _ => rfl⟩
  have hs : srcEls T (.sl id off n) = some ((r.els.drop off).take n) := by simp [srcEls, hr, hle]
  have hl : ((r.els.drop off).take n).length = n := by rw [List.length_take, List.length_drop]; omega
  obtain ⟨_, h⟩ := srcEls_sound hT hv hs (sz := p.sz) (fun e he => hrow.sz e (List.mem_of_mem_drop (List.mem_of_mem_take he))) h0 (fun s h => by cases h) (fun id' off' n' r' h hr' => by
    obtain ⟨rfl, rfl, rfl⟩ := AV.sl.inj h
    rw [hr] at hr'
    obtain rfl := Option.some.inj hr'
    exact hrow.szT.symm)
  obtain ⟨us, h1, h2, h3⟩ := h n (by rw [hl]; exact Nat.le_refl n)
  refine ⟨us, h1, h2, fun i e j x he hx => h3 i e j x ?_ he hx⟩
  have := (List.getElem?_eq_some_iff.1 he).1
  omega
theorem us_one {sz k : Nat} {us : List Value} {news : List (List AV)} (h0 : 0 < sz) (hnl : news.length = k) (hall : ∀ c ∈ news, c.length = sz) (hul : us.length = k * sz)
    (husv : ∀ (i : Nat) e j x, news[i]? = some e → e[j]? = some x → ∃ u, us[i * sz + j]? = some u ∧ u.oneCell' = true ∧ VRel w L μ u x) : ∀ q ∈ us, q.oneCell' = true := by
  intro q hq
  obtain ⟨j, hj, rfl⟩ := List.mem_iff_getElem.1 hq
  have hj2 : j / sz < k := Nat.div_lt_of_lt_mul (by rw [Nat.mul_comm, ← hul]; exact hj)
  have hj3 : j % sz < sz := Nat.mod_lt _ h0
  have hcl := hall (news[j / sz]'(by omega)) (List.getElem_mem _)
  obtain ⟨q, hq, h1, _⟩ := husv (j / sz) (news[j / sz]'(by omega)) (j % sz) ((news[j / sz]'(by omega))[j % sz]'(by omega)) (List.getElem?_eq_getElem _) (List.getElem?_eq_getElem _)
  rw [Nat.mul_comm, Nat.div_add_mod, List.getElem?_eq_getElem hj] at hq
  obtain rfl := Option.some.inj hq
  exact h1
/-- Copying into a row, behind its last element, too. -/
theorem copy_over (hT : TRel P w L μ T) {id off n k : Nat} {p : G.Place} {r : Row} {e t u : TypeId} {ti : TypeInfo} (hq : μ id = some (some p)) (hr : T id = some r) (ht : P.underlying t = some (.slice e)) (hi : P.info? e = some ti) (hsz : ti.size = p.sz) (h0 : 0 < p.sz)
    (hoff : off ≤ r.els.length) (hcap : off + k ≤ p.cap) {news : List (List AV)} (hnl : news.length = k) (hall : ∀ c ∈ news, c.length = p.sz) {us : List Value} (hul : us.length = k * p.sz)
    (husv : ∀ (i : Nat) e j x, news[i]? = some e → e[j]? = some x → ∃ u, us[i * p.sz + j]? = some u ∧ u.oneCell' = true ∧ VRel w L μ u x) {A : Option Addr} {sl : Nat} (hmin : Nat.min sl n = k)
    (hfc : ∀ sc, (Builtin.firstCells p.sz k (.slice A sl sc)).run P w = .ok us.toArray w) :
    ∃ w', (∀ ty dc sc, (Builtin.copy_ #[t, u] ty #[.slice (some ⟨p.g, p.b + off * p.sz, none⟩) n dc, .slice A sl sc]).run P w = .ok (goInt k) w') ∧
      Ext w L μ T w' L μ (T.set id (some ⟨r.elem, r.els.take off ++ news ++ r.els.drop (off + k)⟩)) ∧ TRel P w' L μ (T.set id (some ⟨r.elem, r.els.take off ++ news ++ r.els.drop (off + k)⟩)) := by
  have hrow := hT.cell hr hq
  obtain ⟨cur, hg, hcsz, hcrr⟩ := hrow.cur
  have hrlen := hrow.len
  have hmul : (off + k) * p.sz ≤ p.cap * p.sz := Nat.mul_le_mul_right _ (by omega)
  rw [Nat.add_mul] at hmul
  have hcrr' : CurRel w L μ cur p.b p.sz r.els := hcrr
  have hov := hcrr'.over hrow.sz (n := off) hoff (us := us) (news := news) hall (by rw [hnl]; exact hul) husv (by omega)
  rw [hnl] at hov
  obtain ⟨q1, q2⟩ := store_core hT hr hq hg (cur' := (cur.toList.take (p.b + off * p.sz) ++ us ++ cur.toList.drop (p.b + off * p.sz + us.length)).toArray) (by simp; omega) hov (by
      simp only [List.length_append, List.length_take, List.length_drop, hnl]; omega) (by
    intro c hc
    rcases List.mem_append.1 hc with h | h
    · rcases List.mem_append.1 h with h | h
      · exact hrow.sz c (List.mem_of_mem_take h)
      · exact hall c h
    · exact hrow.sz c (List.mem_of_mem_drop h))
  have h1us := us_one h0 hnl hall hul husv
  have hst := run_storeCells_at P p.g (p.b + off * p.sz) r.elem us 0 cur w hg (by simp; omega) h1us
  simp only [Nat.add_zero] at hst
  refine ⟨_, fun ty dc sc => ?_, q1, q2⟩
  have hc1 := hfc sc
  rw [← hsz] at hc1
  generalize hF : Builtin.firstCells ti.size k (.slice A sl sc) = F at hc1
  simp [Builtin.copy_, Builtin.lenOf, run_underlying ht, sizeOf, typeInfo, hi, hmin, hF, hc1, hst]
/-- What the caller is told behind such a call. -/
theorem post_of {R0 : List Row} (hE : Ext w L μ (tabO (R0.map some)) w' L' μ' T') (hT' : TRel P w' L' μ' T') {id m : Nat} {p : G.Place} {r : Row} (hr : T' id = some r) (hp : μ' id = some (some p)) (hcl : ∀ e ∈ r.els, closedAll [] e = true) {v : Value} (hv : slOk (some p) 0 m v) (hm : m ≤ r.els.length) :
    ∃ L2 μ2, VRel w' L2 μ2 v (.sl 1 0 m) ∧ TRel P w' L2 μ2 (tabO [none, some r]) ∧ PExt w L μ (tabO (R0.map some)) 1 w' L2 μ2 (tabO [none, some r]) ∧ ∀ id, 1 + 8 ≤ id → μ2 id = none := by
  have hrow := hT'.cell hr hp
  have htab : ∀ i r0, tabO [none, some r] i = some r0 → i = 1 ∧ r0 = r := fun i r0 h => by
    match i, h with
    | 0, h => simp [tabO] at h
    | 1, h => exact ⟨rfl, by simpa [tabO] using h.symm⟩
    | i + 2, h => simp [tabO] at h
  refine ⟨L', fun j => if j = 0 then μ 0 else if j = 1 then some (some p) else none, .sl (q := some p) (by simp) hv, ⟨fun i r0 h => ?_, fun i i' r1 r2 p1 p2 h1 h2 _ _ hne => ?_⟩, ⟨hE.os, hE.tape, hE.output, hE.size, hE.block, hE.L, fun i q hi hq => ?_, fun i r0 p0 h hp0 => ?_⟩, fun i hi => ?_⟩
  · obtain ⟨rfl, rfl⟩ := htab i r0 h
    refine ⟨some p, by simp, fun p' hp' => ?_, fun h => by cases h⟩
    obtain rfl := Option.some.inj hp'
    obtain ⟨cur, h1, h2, h3⟩ := hrow.cur
    refine ⟨⟨cur, h1, h2, fun i e j x he hx => ?_⟩, hrow.len, hrow.sz, hrow.szT, hrow.cap, hrow.live⟩
    obtain ⟨u, hu, h4, h5⟩ := h3 i e j x he hx
    refine ⟨u, hu, h4, closed_rel h5 ?_ (fun _ _ h => h)⟩
    have := hcl e (List.mem_of_getElem? he)
    rw [closedAll_all] at this
    exact List.all_eq_true.1 this x (List.mem_of_getElem? hx)
  · obtain ⟨rfl, _⟩ := htab _ _ h1
    obtain ⟨rfl, _⟩ := htab _ _ h2
    exact absurd rfl hne
  · have : i = 0 := by omega
    subst this
    simpa using hq
  · obtain ⟨rfl, rfl⟩ := htab i r0 h
    simp at hp0
    subst hp0
    exact hE.place id r0 p hr hp
  · have h1 : i ≠ 0 := by omega
    have h2 : i ≠ 1 := by omega
    simp [h1, h2]
end
end Go.Proofs.Ytnceadbfgpiaaaa.I
