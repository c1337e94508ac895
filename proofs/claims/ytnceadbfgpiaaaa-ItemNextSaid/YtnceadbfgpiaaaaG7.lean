/- The abstract machine's operations on slices: cutting, making, appending, copying, their lengths; and what needs no memory. Plain theorems over any program. -/
import Derived.Test.YtnceadbfgpiaaaaG6
namespace Go.Proofs.Ytnceadbfgpiaaaa.G
set_option linter.unusedVariables false
set_option linter.unusedSimpArgs false
open Go
variable {P : Program} {w w' : World} {L L' : Nat → Prop} {μ μ' : Map} {T T' : Table}

/-! ### Cutting -/
def hiA (n m : Nat) : Option AV → Option Nat
  | none => some n
  | some x => (intOf x).bind fun i => if 0 ≤ i ∧ i ≤ m then some i.toNat else none
def loA (h : Nat) : Option AV → Option Nat
  | none => some 0
  | some x => (intOf x).bind fun i => if 0 ≤ i ∧ i ≤ h then some i.toNat else none
/-- The bounds of a cut: low, high, within what is there. -/
def bndsA (n m : Nat) (lo hi : Option AV) : Option (Nat × Nat) := (hiA n m hi).bind fun h => (loA h lo).map fun l => (l, h)

def ORel (w : World) (L : Nat → Prop) (μ : Map) : Option Value → Option AV → Prop
  | none, none => True
  | some v, some x => VRel w L μ v x
  | _, _ => False

theorem run_sliceBound {v : Value} {x : AV} (hv : VRel w L μ v x) {i : Int} (hi : intOf x = some i) {y : Nat} {c : BoundsCode} (h0 : 0 ≤ i) (h1 : i ≤ y) : (Instr.sliceBound v y c).run P w = .ok i.toNat w := by
  obtain ⟨k, rfl⟩ := intOf_rel hv hi
  unfold Instr.sliceBound
  rw [run_bind _ _ (run_asIntOf k i)]
  simp only
  rw [if_pos ⟨h0, h1⟩]
  rfl

theorem bndsA_sound {n m cap : Nat} (hn : n ≤ cap) (hm : m ≤ cap) {b : Bool} {lo hi : Option Value} {lo' hi' : Option AV} (hlo : ORel w L μ lo lo') (hhi : ORel w L μ hi hi') {l h : Nat} (hb : bndsA n m lo' hi' = some (l, h)) (hnm : n ≤ m) :
    (Instr.sliceBounds b n cap lo hi none).run P w = .ok (l, h, cap) w ∧ l ≤ h ∧ h ≤ m := by
  unfold bndsA at hb
  obtain ⟨h', hh, hb⟩ := Option.bind_eq_some_iff.1 hb
  obtain ⟨l', hl, hb⟩ := Option.map_eq_some_iff.1 hb
  simp only [Prod.mk.injEq] at hb
  obtain ⟨rfl, rfl⟩ := hb
  have low : ((lo = none ∧ l' = 0) ∨ ∃ v, lo = some v ∧ ∀ c, (Instr.sliceBound v h' c).run P w = .ok l' w) ∧ l' ≤ h' := by
    cases lo with
    | none => cases lo' with
      | none =>
        simp only [loA, Option.some.injEq] at hl
        subst hl
        exact ⟨.inl ⟨rfl, rfl⟩, Nat.zero_le _⟩
      | some x => exact hlo.elim
    | some v => cases lo' with
      | none => exact hlo.elim
      | some x =>
        simp only [loA] at hl
        obtain ⟨i, hi, hl⟩ := Option.bind_eq_some_iff.1 hl
        split at hl
        · rename_i hc
          obtain rfl := Option.some.inj hl
          exact ⟨.inr ⟨v, rfl, fun c => run_sliceBound hlo hi hc.1 (by omega)⟩, by omega⟩
        · cases hl
  clear hlo
  have hle : h' ≤ m ∧ ((Instr.sliceBounds b n cap lo hi none).run P w = .ok (l', h', cap) w) := by
    cases hi with
    | none => cases hi' with
      | none =>
        simp only [hiA, Option.some.injEq] at hh
        subst hh
        refine ⟨hnm, ?_⟩
        unfold Instr.sliceBounds
        simp only
        rw [run_bind _ _ (run_ret cap), run_bind _ _ (run_ret n)]
        rcases low.1 with ⟨rfl, rfl⟩ | ⟨v, rfl, hv⟩
        · exact run_bind _ _ (run_ret 0)
        · exact run_bind _ _ (hv _)
      | some x => exact hhi.elim
    | some u => cases hi' with
      | none => exact hhi.elim
      | some x =>
        simp only [hiA] at hh
        obtain ⟨i, hi, hh⟩ := Option.bind_eq_some_iff.1 hh
        split at hh
        · rename_i hc
          obtain rfl := Option.some.inj hh
          refine ⟨by omega, ?_⟩
          unfold Instr.sliceBounds
          simp only
          rw [run_bind _ _ (run_ret cap), run_bind _ _ (run_sliceBound hhi hi hc.1 (by omega))]
          rcases low.1 with ⟨rfl, rfl⟩ | ⟨v, rfl, hv⟩
          · exact run_bind _ _ (run_ret 0)
          · exact run_bind _ _ (hv _)
        · cases hh
  exact ⟨hle.2, low.2, hle.1⟩

def evSlice (P : Program) (T : Table) (t : TypeId) (x : AV) (lo hi : Option AV) : Option AV :=
  match P.underlying t with
  | some (.slice e) =>
    match tinfo P e with
    | some (_, sz, _) =>
      match x with
      | .ro els => if ∀ c ∈ els, c.length = sz then (bndsA els.length els.length lo hi).map fun b => .ro ((els.take b.2).drop b.1) else none
      | .sl id off n => (T id).bind fun r => if off + n ≤ r.els.length ∧ P.cellsOf r.elem = sz then (bndsA n (r.els.length - off) lo hi).map fun b => .sl id (off + b.1) (b.2 - b.1) else none
      | .flat (.slice none 0 0) => (bndsA 0 0 lo hi).map fun _ => .flat (.slice none 0 0)
      | _ => none
    | none => none
  | some .string =>
    match x with
    | .flat (.string s) => (bndsA s.size s.size lo hi).map fun b => .flat (.string (s.extract b.1 b.2))
    | _ => none
  | _ => none

theorem run_sliceAt_slice {t e : TypeId} {i : TypeInfo} {A : Option Addr} {n cap l h : Nat} {lo hi : Option Value} (ht : P.underlying t = some (.slice e)) (hi' : P.info? e = some i)
    (hb : (Instr.sliceBounds true n cap lo hi none).run P w = .ok (l, h, cap) w) :
    (Instr.sliceAt t (.slice A n cap) lo hi none).run P w = .ok (.slice (if cap = l then A else A.map (·.add (l * i.size))) (h - l) (cap - l)) w := by
  unfold Instr.sliceAt
  rw [run_bind _ _ (run_under ht)]
  simp only
  unfold Instr.slice
  rw [run_bind _ _ (run_under ht)]
  simp only
  rw [run_bind _ _ hb]
  simp only
  rw [run_bind _ _ (run_size hi')]
  rfl

theorem evSlice_gives (hT : TRel P w L μ T) {id : Nat} {t : TypeId} {v : Value} {x y : AV} {lo hi : Option Value} {lo' hi' : Option AV} (hv : VRel w L μ v x)
    (hlo : ORel w L μ lo lo') (hhi : ORel w L μ hi hi')
    (h : evSlice P T t x lo' hi' = some y) : Gives P w L μ T id (Instr.sliceAt t v lo hi none) y T := by
  unfold evSlice at h
  split at h
  · rename_i e ht
    split at h
    · rename_i z sz b hti
      obtain ⟨i, hi1, _, hs, _, _⟩ := tinfo_some hti
      split at h
      · rename_i els
        split at h
        · rename_i hall
          obtain ⟨⟨l, h2⟩, hb, rfl⟩ := Option.map_eq_some_iff.1 h
          cases hv with
          | @ro _ A n c _ sz0 U hn hc hs0 hA h1 hvr =>
            subst hn
            obtain ⟨hr, hlh, hhm⟩ := bndsA_sound (P := P) (b := true) hc hc hlo hhi hb (Nat.le_refl _)
            refine Gives.same hT (run_sliceAt_slice ht hi1 hr) ?_
            rw [hs]
            refine .ro sz0 (fun i j => U (l + i) j) (by simp; omega) (by omega) (fun e he => hs0 e (List.mem_of_mem_take (List.mem_of_mem_drop he))) (fun hp => ?_) (fun i j hi hj => h1 _ _ (by omega) hj) fun i e j x he hx => ?_
            · obtain ⟨a, rfl, hLa, hb2, hcell⟩ := hA (by omega)
              have hsz : sz0 = sz := by
                have hlt : 0 < els.length := by omega
                rw [← hs0 els[0] (List.getElem_mem _), hall els[0] (List.getElem_mem _)]
              subst hsz
              rw [if_neg (by omega)]
              refine ⟨a.add (l * sz0), rfl, by rw [add_block]; exact hLa, by rw [add_block]; exact hb2, fun i j hi hj => ?_⟩
              rw [add_add, ← Nat.add_assoc, ← Nat.add_mul]
              exact hcell _ _ (by omega) hj
            · rw [List.getElem?_drop, List.getElem?_take] at he
              split at he
              · exact hvr _ _ _ _ he hx
              · cases he
        · cases h
      · rename_i id' off n
        obtain ⟨r, hr, h⟩ := Option.bind_eq_some_iff.1 h
        split at h
        · rename_i hc
          obtain ⟨hle, hcs⟩ := hc
          obtain ⟨⟨l, h2⟩, hb, rfl⟩ := Option.map_eq_some_iff.1 h
          cases hv with
          | @sl _ _ _ _ _ q hq hok =>
            cases q with
            | none =>
              obtain ⟨rfl, rfl, rfl⟩ := hok
              have hnil : r.els = [] := by
                obtain ⟨q, hq', _, hn⟩ := hT.row id' r hr
                rw [hq] at hq'
                exact hn (Option.some.inj hq').symm
              obtain ⟨hrun, hlh, hhm⟩ := bndsA_sound (P := P) (b := true) (n := 0) (m := r.els.length - 0) (cap := 0) (Nat.le_refl _) (by simp [hnil]) hlo hhi hb (Nat.zero_le _)
              have h20 : h2 = 0 := by simp [hnil] at hhm; omega
              subst h20
              have hl0 : l = 0 := by omega
              subst hl0
              refine Gives.same hT (run_sliceAt_slice ht hi1 hrun) ?_
              exact .sl hq ⟨rfl, rfl, rfl⟩
            | some p =>
              obtain ⟨hle2, A, rfl, hA⟩ := hok
              have hrow := hT.cell hr hq
              have hlen := hrow.len
              obtain ⟨hrun, hlh, hhm⟩ := bndsA_sound (P := P) (b := true) (n := n) (m := r.els.length - off) (cap := p.cap - off) (by omega) (by omega) hlo hhi hb (by omega)
              refine Gives.same hT (run_sliceAt_slice ht hi1 hrun) ?_
              refine .sl hq ⟨by simp only; omega, (if p.cap - off = l then A else A.map (·.add (l * i.size))), ?_, fun hlt => ?_⟩
              · rw [show p.cap - off - l = p.cap - (off + l) by omega]
              · simp only at hlt
                rw [if_neg (by omega), hA (by omega)]
                simp only [Option.map_some, add_lit]
                rw [hs, ← hcs, ← hrow.szT, Nat.add_assoc, ← Nat.add_mul]
        · cases h
      · obtain ⟨⟨l, h2⟩, hb, rfl⟩ := Option.map_eq_some_iff.1 h
        cases hv with
        | flat v _ =>
          obtain ⟨hr, hlh, hhm⟩ := bndsA_sound (P := P) (b := true) (n := 0) (m := 0) (cap := 0) (Nat.le_refl _) (Nat.le_refl _) hlo hhi hb (Nat.le_refl _)
          have h20 : h2 = 0 := by omega
          subst h20
          have hl0 : l = 0 := by omega
          subst hl0
          exact Gives.same hT (run_sliceAt_slice ht hi1 hr) (.flat _ rfl)
      · cases h
    · cases h
  · rename_i ht
    split at h
    · rename_i s
      obtain ⟨⟨l, h2⟩, hb, rfl⟩ := Option.map_eq_some_iff.1 h
      cases hv with
      | flat v _ =>
        obtain ⟨hr, hlh, hhm⟩ := bndsA_sound (P := P) (b := false) (n := s.size) (m := s.size) (cap := s.size) (Nat.le_refl _) (Nat.le_refl _) hlo hhi hb (Nat.le_refl _)
        refine Gives.same hT ?_ (.flat _ rfl)
        unfold Instr.sliceAt
        rw [run_bind _ _ (run_under ht)]
        simp only
        unfold Instr.slice
        rw [run_bind _ _ (run_under ht)]
        simp only [Option.isSome_none, Bool.false_eq_true, if_false]
        rw [run_bind _ _ hr]
        rfl
    · cases h
  · cases h

/-! ### Making -/
def evMake (P : Program) (T : Table) (id : Nat) (t : TypeId) (l c : AV) : Option (AV × Table) :=
  match P.underlying t, l, c with
  | some (.slice e), .flat (.int _ n), .flat (.int _ n') =>
    match tinfo P e with
    | some (some z, sz, by_) =>
      if n ≤ n' ∧ 0 ≤ n ∧ (by_ : Int) * n' ≤ 281474976710656 ∧ n' ≤ 9223372036854775807 ∧ 0 < sz ∧ (zeroAV z).length = sz ∧ (zeroAV z).all AV.one = true then
        some (.sl id 0 n.toNat, T.set id (some ⟨e, List.replicate n'.toNat (zeroAV z)⟩))
      else none
    | _ => none
  | _, _, _ => none

theorem evMake_gives (hT : TRel P w L μ T) {id : Nat} (hid : μ id = none) {t : TypeId} {l c y : AV} {vl vc : Value} (hl : VRel w L μ vl l) (hc : VRel w L μ vc c) (h : evMake P T id t l c = some (y, T')) :
    Gives P w L μ T id (Instr.makeSlice t vl vc) y T' := by
  unfold evMake at h
  split at h
  · rename_i e k n k' n' ht
    split at h
    · rename_i z sz b hti
      obtain ⟨i, hi, hz, hs, hb, hcs⟩ := tinfo_some hti
      split at h
      · rename_i hcnd
        obtain ⟨hnn, h0, hby, h63, hsz0, hzl, hz1⟩ := hcnd
        simp only [Option.some.injEq, Prod.mk.injEq] at h
        obtain ⟨rfl, rfl⟩ := h
        cases hl with
        | flat v _ =>
          cases hc with
          | flat v _ =>
            have hr := run_make (P := P) w t e i z ht hi hz k k' n n' h0 hnn (by rw [hb]; exact hby) h63
            have hmade := madeCells_rel (w := w) (L := L) (μ := μ) z n'.toNat (by omega) hz1
            rw [hzl] at hmade
            rw [hs] at hr
            refine new_gives hT hid rfl rfl rfl rfl _ e n'.toNat sz _ (by rw [size_madeCells]) hmade (by simp) (by
              intro e he
              rw [List.mem_replicate] at he
              rw [he.2]; exact hzl) hcs.symm (by simp only [maxLen]; omega) hr _ rfl ?_
            exact .sl map_set_self ⟨by show 0 + n.toNat ≤ n'.toNat; omega, some ⟨w.heap.size, 0, none⟩, by simp, fun _ => by simp⟩
      · cases h
    · cases h
  · cases h

/-! ### Lengths -/
def evLen (P : Program) (t : TypeId) (x : AV) : Option AV :=
  match P.underlying t, x with
  | some (.slice _), .ro els => some (.flat (.int .i64 els.length))
  | some (.slice _), .sl _ _ n => some (.flat (.int .i64 n))
  | some (.slice _), .flat (.slice none 0 0) => some (.flat (.int .i64 0))
  | some .string, .flat (.string s) => some (.flat (.int .i64 s.size))
  | _, _ => none

theorem evLen_gives (hT : TRel P w L μ T) {id : Nat} {t ty : TypeId} {v : Value} {x y : AV} (hv : VRel w L μ v x) (h : evLen P t x = some y) : Gives P w L μ T id (Builtin.len_ #[t] ty #[v]) y T := by
  have run : ∀ {d : TypeDesc} {m : Sem Value} {u : Value}, P.underlying t = some d → (Builtin.len_ #[t] ty #[v]).run P w = .ok u w → (Builtin.len_ #[t] ty #[v]).run P w = .ok u w := fun _ h => h
  unfold evLen at h
  split at h
  · rename_i e els ht
    obtain rfl := Option.some.inj h
    cases hv with
    | ro sz U hn hc hs hA h1 hvr =>
      refine Gives.same hT (v := .int .i64 els.length) ?_ (.flat _ rfl)
      subst hn
      simp [Builtin.len_, run_underlying ht, goInt]
  · rename_i e id' off n ht
    obtain rfl := Option.some.inj h
    cases hv with
    | @sl _ _ _ _ _ q hq hok =>
      refine Gives.same hT (v := .int .i64 n) ?_ (.flat _ rfl)
      cases q with
      | none => obtain ⟨_, rfl, rfl⟩ := hok; simp [Builtin.len_, run_underlying ht, goInt]
      | some p => obtain ⟨_, A, rfl, _⟩ := hok; simp [Builtin.len_, run_underlying ht, goInt]
  · rename_i e ht
    obtain rfl := Option.some.inj h
    cases hv with
    | flat v _ =>
      refine Gives.same hT (v := .int .i64 0) ?_ (.flat _ rfl)
      simp [Builtin.len_, run_underlying ht, goInt]
  · rename_i s ht
    obtain rfl := Option.some.inj h
    cases hv with
    | flat v _ =>
      refine Gives.same hT (v := .int .i64 s.size) ?_ (.flat _ rfl)
      simp [Builtin.len_, run_underlying ht, goInt]
  · cases h
end Go.Proofs.Ytnceadbfgpiaaaa.G
