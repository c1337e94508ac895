/- All operations of the abstract machine in one table, and that the model's own operation does just this. Plain theorems over any program. -/
import Derived.Test.YtnceadbfgpiaaaaG9
namespace Go.Proofs.Ytnceadbfgpiaaaa.G
set_option linter.unusedVariables false
set_option linter.unusedSimpArgs false
open Go
variable {P : Program} {w w' : World} {L L' : Nat → Prop} {μ μ' : Map} {T T' : Table}

/-! ### Bytes to a string -/
def byteOfAV : List AV → Option UInt8
  | [.flat (.int .u8 n)] => some (UInt8.ofNat n.toNat)
  | _ => none
def evBytes (P : Program) (T : Table) (src dst : TypeId) (x : AV) : Option AV :=
  match P.underlying src, P.underlying dst with
  | some (.slice e), some .string =>
    match P.underlying e, tinfo P e with
    | some (.int .u8), some (_, 1, _) => if srcFit P T 1 x = true then
        match x with
        | .flat _ => none
        | x => (srcEls T x).bind fun els => (els.mapM byteOfAV).map fun bs => .flat (.string ⟨bs.toArray⟩)
      else none
    | _, _ => none
  | _, _ => none

theorem mapM_len {α β : Type} {f : α → Option β} : ∀ {l : List α} {r : List β}, l.mapM f = some r → r.length = l.length ∧ ∀ (i : Nat) a, l[i]? = some a → ∃ b, r[i]? = some b ∧ f a = some b := by
  intro l
  induction l with
  | nil => intro r h; simp at h; subst h; exact ⟨rfl, fun i a h => by simp at h⟩
  | cons x l ih =>
    intro r h
    simp only [List.mapM_cons, Option.bind_eq_bind, Option.bind_eq_some_iff, Option.pure_def, Option.some.injEq] at h
    obtain ⟨b, hb, bs, hbs, rfl⟩ := h
    obtain ⟨h1, h2⟩ := ih hbs
    refine ⟨by simp [h1], fun i a hi => ?_⟩
    cases i with
    | zero => simp at hi; subst hi; exact ⟨b, rfl, hb⟩
    | succ i => exact h2 i a hi

theorem run_bytes {a : Option Addr} {n c : Nat} {us : List Value} {bs : List UInt8} (hc : (Builtin.firstCells 1 n (.slice a n c)).run P w = .ok us.toArray w) (hl : us.length = bs.length)
    (hn : n = bs.length) (hu : ∀ (i : Nat) b, bs[i]? = some b → ∃ k : Int, us[i]? = some (.int .u8 k) ∧ UInt8.ofNat k.toNat = b) : (Conv.bytesToString (.slice a n c)).run P w = .ok (.string ⟨bs.toArray⟩) w := by
  cases a with
  | none =>
    simp only [Builtin.firstCells] at hc
    have he : us = [] := by
      have := hc
      rw [run_ret] at this
      injection this with h1 h2
      have := congrArg Array.toList h1
      simpa using this.symm
    subst he
    have hb : bs = [] := List.eq_nil_of_length_eq_zero (by simpa using hl.symm)
    subst hb
    rfl
  | some a =>
    simp only [Builtin.firstCells, Nat.mul_one] at hc
    let ns : List Int := us.map fun | .int _ k => k | _ => 0
    have hns : us = ns.map (Value.int .u8) := by
      apply List.ext_getElem?
      intro i
      simp only [ns, List.map_map, List.getElem?_map]
      rcases Nat.lt_or_ge i bs.length with h | h
      · obtain ⟨k, hk, _⟩ := hu i bs[i] (List.getElem?_eq_getElem h)
        rw [hk]; rfl
      · rw [List.getElem?_eq_none (by omega)]; rfl
    have hr := run_bytesToString (P := P) w a n c ns (by rw [← hns]; exact hc)
    rw [hr]
    congr 2
    rw [foldl_push_bytes]
    congr 1
    apply Array.ext'
    simp only [ByteArray.empty, ByteArray.emptyWithCapacity]
    have : (ns.map fun n => UInt8.ofNat n.toNat) = bs := by
      apply List.ext_getElem?
      intro i
      simp only [ns, List.map_map, List.getElem?_map]
      rcases Nat.lt_or_ge i bs.length with h | h
      · obtain ⟨k, hk, hkb⟩ := hu i bs[i] (List.getElem?_eq_getElem h)
        rw [hk, List.getElem?_eq_getElem h]
        simp [hkb]
      · rw [List.getElem?_eq_none (by omega), List.getElem?_eq_none h]; rfl
    rw [this]
    simp only [Array.toList_append, List.nil_append]
    rfl

theorem evBytes_gives (hT : TRel P w L μ T) {id : Nat} {src dst : TypeId} {v : Value} {x y : AV} (hv : VRel w L μ v x) (h : evBytes P T src dst x = some y) : Gives P w L μ T id (convert src dst v) y T := by
  unfold evBytes at h
  split at h
  · rename_i e hs hd
    split at h
    · rename_i z b he hti
      split at h
      · rename_i hfit
        split at h
        · cases h
        · rename_i hnf
          obtain ⟨els, hels, h⟩ := Option.bind_eq_some_iff.1 h
          obtain ⟨bs, hbs, rfl⟩ := Option.map_eq_some_iff.1 h
          obtain ⟨hbl, hbf⟩ := mapM_len hbs
          have hall : ∀ c ∈ els, c.length = 1 := by
            intro c hc
            obtain ⟨i, hi, rfl⟩ := List.mem_iff_getElem.1 hc
            obtain ⟨b, _, hb⟩ := hbf i els[i] (List.getElem?_eq_getElem hi)
            unfold byteOfAV at hb
            split at hb
            · rename_i hee; rw [hee]; rfl
            · cases hb
          obtain ⟨hlen, hsrc⟩ := srcEls_sound hT hv hels hall (by omega) (srcFit_str hfit) (srcFit_own hfit)
          obtain ⟨us, hus, husl, husv⟩ := hsrc els.length (Nat.le_refl _)
          obtain ⟨a, n, c, rfl⟩ : ∃ a n c, v = .slice a n c := by
            cases hv with
            | flat v _ => exact absurd rfl (hnf v)
            | ro => exact ⟨_, _, _, rfl⟩
            | @sl _ _ _ _ _ q hq hok =>
              cases q with
              | none => obtain ⟨_, _, rfl⟩ := hok; exact ⟨_, _, _, rfl⟩
              | some p => obtain ⟨_, A, rfl, _⟩ := hok; exact ⟨_, _, _, rfl⟩
            | agg => cases hels
            | tup => cases hels
            | rp => cases hels
            | ptr => cases hels
          have hn : n = els.length := by
            simp only [Builtin.lenOf, run_ret] at hlen
            injection hlen
          subst hn
          have hr := run_bytes (P := P) (w := w) (a := a) (n := els.length) (c := c) (us := us) (bs := bs) (hus w rfl) (by omega) (by omega) (by
            intro i b hb
            have hlt := (List.getElem?_eq_some_iff.1 hb).1
            have hi : i < els.length := by omega
            obtain ⟨b', hb', hf⟩ := hbf i els[i] (List.getElem?_eq_getElem hi)
            rw [hb] at hb'
            obtain rfl := Option.some.inj hb'
            unfold byteOfAV at hf
            split at hf
            · rename_i k hee
              obtain ⟨u, hu, _, hv⟩ := husv i els[i] 0 (.flat (.int .u8 k)) hi (List.getElem?_eq_getElem hi) (by rw [hee]; rfl)
              cases hv
              exact ⟨k, by simpa using hu, Option.some.inj hf⟩
            · cases hf)
          refine Gives.same hT ?_ (.flat _ rfl)
          unfold convert
          rw [run_bind _ _ (run_under hs), run_bind _ _ (run_under hd)]
          simp only
          rw [run_bind _ _ (run_under he)]
          exact hr
      · cases h
    · cases h
  · cases h

/-! ### Copying -/
def evCopy (P : Program) (T : Table) (t : TypeId) (d x : AV) : Option (AV × Table) :=
  match P.underlying t, d with
  | some (.slice e), .sl id off n =>
    match tinfo P e with
    | some (_, sz, _) =>
      if 0 < sz ∧ srcFit P T sz x = true then
        (srcEls T x).bind fun els => (T id).bind fun r =>
          if (∀ c ∈ els, c.length = sz) ∧ P.cellsOf r.elem = sz ∧ off + n ≤ r.els.length then
            some (.flat (.int .i64 (min els.length n : Nat)), T.set id (some ⟨r.elem, r.els.take off ++ els.take (min els.length n) ++ r.els.drop (off + (els.take (min els.length n)).length)⟩))
          else none
      else none
    | none => none
  | _, _ => none

theorem evCopy_gives (hT : TRel P w L μ T) {id : Nat} {t u ty : TypeId} {v vx : Value} {d x y : AV} (hd : VRel w L μ v d) (hx : VRel w L μ vx x) (h : evCopy P T t d x = some (y, T')) :
    Gives P w L μ T id (Builtin.copy_ #[t, u] ty #[v, vx]) y T' := by
  unfold evCopy at h
  split at h
  · rename_i e id0 off n ht
    split at h
    · rename_i z sz b hti
      obtain ⟨i, hi, _, hsz, _, hcs⟩ := tinfo_some hti
      split at h
      · rename_i hc0
        obtain ⟨els, hels, h⟩ := Option.bind_eq_some_iff.1 h
        obtain ⟨r, hr, h⟩ := Option.bind_eq_some_iff.1 h
        split at h
        · rename_i hc
          obtain ⟨hall, hcr, hle⟩ := hc
          simp only [Option.some.injEq, Prod.mk.injEq] at h
          obtain ⟨rfl, rfl⟩ := h
          obtain ⟨hlen, hsrc⟩ := srcEls_sound hT hx hels hall hc0.1 (srcFit_str hc0.2) (srcFit_own hc0.2)
          obtain ⟨us, hus, husl, husv⟩ := hsrc (min els.length n) (Nat.min_le_left _ _)
          have hk : min els.length n ≤ n := Nat.min_le_right _ _
          have hk2 : min els.length n ≤ els.length := Nat.min_le_left _ _
          generalize hkk : min els.length n = k at *
          have h1us : ∀ q ∈ us, q.oneCell' = true := by
            intro q hq
            obtain ⟨j, hj, rfl⟩ := List.mem_iff_getElem.1 hq
            have hj2 : j / sz < k := Nat.div_lt_of_lt_mul (by rw [Nat.mul_comm, ← husl]; exact hj)
            have hj3 : j % sz < sz := Nat.mod_lt _ hc0.1
            have hjl : j / sz < els.length := by omega
            have hcl := hall els[j / sz] (List.getElem_mem _)
            obtain ⟨q, hq, h1, _⟩ := husv (j / sz) els[j / sz] (j % sz) (els[j / sz][j % sz]'(by omega)) hj2 (List.getElem?_eq_getElem hjl) (List.getElem?_eq_getElem (by omega))
            rw [Nat.mul_comm, Nat.div_add_mod, List.getElem?_eq_getElem hj] at hq
            obtain rfl := Option.some.inj hq
            exact h1
          have htl : (els.take k).length = k := by rw [List.length_take]; omega
          cases hd with
          | @sl _ _ _ _ _ q hq hok =>
            cases q with
            | none =>
              obtain ⟨rfl, rfl, rfl⟩ := hok
              have hnil : r.els = [] := by
                obtain ⟨q, hq', _, hn⟩ := hT.row id0 r hr
                rw [hq] at hq'
                exact hn (Option.some.inj hq').symm
              have hk0 : k = 0 := by omega
              subst hk0
              have hu0 : us = [] := List.eq_nil_of_length_eq_zero (by simpa using husl)
              subst hu0
              have hsame : T.set id0 (some ⟨r.elem, r.els.take 0 ++ els.take 0 ++ r.els.drop (0 + (els.take 0).length)⟩) = T := by
                funext j
                simp only [Table.set]
                split
                · subst_vars; rw [hr]; simp
                · rfl
              rw [hsame]
              refine Gives.same hT (v := goInt 0) ?_ (.flat _ rfl)
              have hc1 := hus w rfl
              rw [← hsz] at hc1
              generalize hF : Builtin.firstCells i.size 0 vx = F at hc1
              have hkm : Nat.min els.length 0 = 0 := hkk
              simp [Builtin.copy_, run_underlying ht, sizeOf, typeInfo, hi, hlen, hkm, hF, hc1]
            | some p =>
              obtain ⟨hle2, A, rfl, hA⟩ := hok
              have hrow := hT.cell hr hq
              obtain ⟨cur, hg, hcsz, hcrr⟩ := hrow.cur
              have hpsz : p.sz = sz := by rw [hrow.szT, hcr]
              have hrlen := hrow.len
              rw [← hpsz] at husl husv
              have hmul : (off + k) * p.sz ≤ p.cap * p.sz := Nat.mul_le_mul_right _ (by omega)
              rw [Nat.add_mul] at hmul
              have hcrr' : CurRel w L μ cur p.b p.sz r.els := hcrr
              have hov := hcrr'.over hrow.sz (n := off) (by omega) (us := us) (news := els.take k) (by rw [hpsz]; exact fun c hc => hall c (List.mem_of_mem_take hc)) (by rw [htl]; exact husl)
                (by
                  intro i c j x hc hx
                  rw [List.getElem?_take] at hc
                  split at hc
                  · rename_i hik; exact husv i c j x hik hc hx
                  · cases hc) (by omega)
              obtain ⟨q1, q2⟩ := store_core hT hr hq hg (cur' := (cur.toList.take (p.b + off * p.sz) ++ us ++ cur.toList.drop (p.b + off * p.sz + us.length)).toArray) (by simp; omega) hov (by simp; omega) (by
                intro c hc
                rcases List.mem_append.1 hc with h | h
                · rcases List.mem_append.1 h with h | h
                  · exact hrow.sz c (List.mem_of_mem_take h)
                  · rw [hpsz]; exact hall c (List.mem_of_mem_take h)
                · exact hrow.sz c (List.mem_of_mem_drop h))
              have hc1 := hus w rfl
              rw [← hsz] at hc1
              generalize hF : Builtin.firstCells i.size k vx = F at hc1
              have hkm : Nat.min els.length n = k := hkk
              by_cases hoff : off < p.cap
              · have hA' := hA hoff
                subst hA'
                have hst := run_storeCells_at P p.g (p.b + off * p.sz) r.elem us 0 cur w hg (by simp; omega) h1us
                simp only [Nat.add_zero] at hst
                refine ⟨goInt k, _, L, μ, ?_, q1, q2, .flat _ rfl, fun _ _ => rfl⟩
                simp [Builtin.copy_, run_underlying ht, sizeOf, typeInfo, hi, hlen, hkm, hF, hc1, hst]
              · have hk0 : k = 0 := by omega
                subst hk0
                have hu0 : us = [] := List.eq_nil_of_length_eq_zero (by simpa using husl)
                subst hu0
                have hsame : (w.setRow p.g (cur.toList.take (p.b + off * p.sz) ++ [] ++ cur.toList.drop (p.b + off * p.sz + ([] : List Value).length)).toArray) = w := by
                  simp only [List.append_nil, List.length_nil, Nat.add_zero, List.take_append_drop]
                  exact setRow_self w p.g cur r.elem (0, 0) hg
                rw [hsame] at q1 q2
                refine ⟨goInt 0, w, L, μ, ?_, q1, q2, .flat _ rfl, fun _ _ => rfl⟩
                cases A with
                | none => simp [Builtin.copy_, run_underlying ht, sizeOf, typeInfo, hi, hlen, hkm, hF, hc1]
                | some a => simp [Builtin.copy_, run_underlying ht, sizeOf, typeInfo, hi, hlen, hkm, hF, hc1, storeCells]
        · cases h
      · cases h
    · cases h
  · cases h
end Go.Proofs.Ytnceadbfgpiaaaa.G
