/- C10, P8, P9, one behind the other. -/
import Derived.Test.YtnceadbfgpiaaaaQP7
/- What the walk of the document's Close stands on. No code is walked. -/
namespace Go.Proofs.Ytnceadbfgpiaaaa.C
open Go G U K I J F
set_option linter.unusedVariables false
set_option linter.unusedSimpArgs false
structure RcA (lt eq : Int → Int → Bool) (len : List (List AV) → Int) (nth : List (List AV) → Int → Nat → Option AV) (ar : BinOp → IntKind → Int → Int → Int) (app : Table → Nat → TypeId → TypeId → AV → AV → Option (AV × Table)) (D : List (List AV)) (np : Nat) (Nn lk2 : Int) (NB : Int → List (List AV) → Nat → Prop) (ND : List (List AV) → Nat → Prop) : Prop where
  cl : ∀ p N q, NB p N q → ∀ c ∈ N, closedAll [] c = true
  fin : ∀ p N q, NB p N q → lt p (len D) = false → ND N q
  rnd : ∀ p N q, NB p N q → lt p (len D) = true → ∃ (srt pc p2 : Int) (con : ByteArray) (bd hn : List (List AV)) (pr : Bool), nth D p 6 = some (.rp [.flat (.int .i64 srt), .flat (.string con), .ro bd, .flat (.bool pr), .flat (.int .i64 pc), .ro hn]) ∧ ar .add .i64 p 1 = p2 ∧ np - p2.toNat < np - p.toNat ∧
    (eq srt Nn = false → NB p2 N q) ∧ (eq srt Nn = true → ∃ N2 q2, NB p2 N2 q2 ∧ ∀ (T : Table) (id k0 k : Nat), T k0 = some ⟨41, N⟩ → T k = some ⟨41, [[.flat (.int .i64 p), .flat (.int .i64 0), .flat (.int .u64 lk2)]]⟩ → k ≠ k0 → app T id 30 30 (.sl k0 0 q) (.sl k 0 1) = some (.sl id 0 q2, (T.set k0 none).set id (some ⟨41, N2⟩)))
structure RcF (lt eq : Int → Int → Bool) (len : List (List AV) → Int) (nth : List (List AV) → Int → Nat → Option AV) (ar : BinOp → IntKind → Int → Int → Int) (ixs : Option Row → Nat → Nat → Nat → Int → Nat → Option AV) (cel : Option Row → Nat → Nat → Option (List AV))
    (app : Table → Nat → TypeId → TypeId → AV → AV → Option (AV × Table)) (slc : Table → TypeId → AV → Option AV → Option AV → Option AV) (nat : Nat → Int) (gv : AV) (EE FF D RR : List (List AV)) (rn np : Nat) {α : Type} (OU : α → List (List AV) → Nat → Nat → Prop) (NA : α → Int → List (List AV) → Nat → Prop) : Prop where
  cl : ∀ o O n m, OU o O n m → ∀ c ∈ O, closedAll [] c = true
  fl : ∀ o O n m, OU o O n m → flatRow O ∧ n = O.length
  cl2 : ∀ o i N q, NA o i N q → ∀ c ∈ N, closedAll [] c = true
  ini : ∀ o O n m, OU o O n m → NA o 0 O n ∧ ∀ (T : Table) (id k0 k : Nat), T k0 = some ⟨41, []⟩ → T k = some ⟨41, O⟩ → k ≠ k0 → app T id 30 30 (.sl k0 0 0) (.sl k 0 n) = some (.sl id 0 n, (T.set k0 none).set id (some ⟨41, O⟩))
  fin : ∀ o O n m i N q, OU o O n m → NA o i N q → lt i (nat n) = false → ∃ (O2 : List (List AV)) (n2 : Nat) (same : Bool), (∀ c ∈ O2, closedAll [] c = true) ∧ flatRow O2 ∧ n2 = O2.length ∧ flatRow N ∧ q = N.length ∧ ACalls Try.prog 43 [.ro N] (fun k => .sl k 0 n2) (fun _ => [⟨41, O2⟩]) ∧ ACalls Try.prog 10 [.ro O2, .ro O] (fun _ => .flat (.bool same)) (fun _ => []) ∧
    (same = true → O = RR ∧ n = rn) ∧ (same = false → ∃ o2 m2, m2 < m ∧ OU o2 O2 n2 m2)
  rnd : ∀ o O n m i N q, OU o O n m → NA o i N q → lt i (nat n) = true → ∃ (xp xd xl Nn i2 : Int) (sb ok : Bool) (iN : Nat), (∀ id, ixs (some ⟨41, O⟩) id 0 n i 3 = some (.ptr id iN 0)) ∧ cel (some ⟨41, O⟩) iN 0 = some [.flat (.int .i64 xp), .flat (.int .i64 xd), .flat (.int .u64 xl)] ∧ cel (some ⟨41, O⟩) iN 1 = some [.flat (.int .i64 xd), .flat (.int .u64 xl)] ∧ cel (some ⟨41, O⟩) iN 2 = some [.flat (.int .u64 xl)] ∧
    ACalls Try.prog 18 [gv, .agg [.flat (.int .i64 xp), .flat (.int .i64 xd), .flat (.int .u64 xl)]] (fun _ => .tup [.agg [.flat (.bool sb), .flat (.int .i64 Nn)], .flat (.bool ok)]) (fun _ => []) ∧ ar .add .i64 i 1 = i2 ∧ n - i2.toNat < n - i.toNat ∧
    ((ok && sb) = false → NA o i2 N q) ∧ ((ok && sb) = true → ∃ (BB RB : List (List AV)) (bok : Bool) (d1 lk2 : Int) (NB : Int → List (List AV) → Nat → Prop), ACalls Try.prog 16 [gv, .flat (.int .i64 xp)] (fun _ => .tup [.ro BB, .flat (.bool bok)]) (fun _ => []) ∧ ar .add .i64 xd 1 = d1 ∧ (∀ T, slc T 42 (.ro BB) (some (.flat (.int .i64 d1))) none = some (.ro RB)) ∧
      ACalls Try.prog 44 [.ro EE, .ro FF, .ro RB, .flat (.int .u64 xl)] (fun _ => .flat (.int .u64 lk2)) (fun _ => []) ∧ NB 0 N q ∧ RcA lt eq len nth ar app D np Nn lk2 NB (fun N q => NA o i2 N q))
/-! ### Few of what follows -/
theorem nodup_le {α : Type} [DecidableEq α] : ∀ {a b : List α}, a.Nodup → (∀ x ∈ a, x ∈ b) → a.length ≤ b.length
  | [], _, _, _ => Nat.zero_le _
  | x :: a, b, h, hs => by
    obtain ⟨h1, h2⟩ := List.nodup_cons.1 h
    have h3 := nodup_le (a := a) (b := b.erase x) h2 fun y hy => (List.mem_erase_of_ne (by rintro rfl; exact h1 hy)).2 (hs y (List.mem_cons_of_mem _ hy))
    have h4 := List.length_erase_of_mem (hs x (List.mem_cons_self ..))
    have h5 := List.length_pos_of_mem (hs x (List.mem_cons_self ..))
    rw [List.length_cons]
    omega
theorem sorted_le {a b : List ItemT} (ha : Sorted a) (hk : ∀ p d, KF a p d → KF b p d) : a.length ≤ b.length := by
  have h := nodup_le (a := a.map fun x => (x.prod, x.dot)) (b := b.map fun x => (x.prod, x.dot)) ?_ ?_
  · rw [List.length_map, List.length_map] at h; exact h
  · unfold List.Nodup
    rw [List.pairwise_map]
    refine ha.imp fun {x y} h e => ?_
    rw [ltK_iff] at h
    have h1 := (Prod.mk.inj e).1
    have h2 := (Prod.mk.inj e).2
    omega
  · intro y hy
    obtain ⟨x, hx, rfl⟩ := List.mem_map.1 hy
    obtain ⟨z, hz, h1, h2⟩ := hk x.prod x.dot ⟨x, hx, rfl, rfl⟩
    exact List.mem_map.2 ⟨z, hz, by rw [h1, h2]⟩
section
variable {g : GramT} {E : List Bool} {F : List Nat} {l S : List ItemT}
theorem addN_len {N : Int} {look n : Nat} : (addN g N look n).length ≤ n := by
  unfold addN
  rw [List.length_map]
  exact Nat.le_trans (List.length_filter_le _ _) (by simp)
theorem stepA_len {x : ItemT} : (stepA g E F x).length ≤ g.prods.length := by
  unfold stepA
  split
  · exact addN_len
  · exact Nat.zero_le _
theorem flatStep_len : ∀ (l : List ItemT), (l.flatMap (stepA g E F)).length ≤ l.length * g.prods.length
  | [] => by simp
  | x :: l => by
    rw [List.flatMap_cons, List.length_append, List.length_cons, Nat.add_mul, Nat.one_mul]
    have h1 := flatStep_len l
    have h2 := stepA_len (g := g) (E := E) (F := F) (x := x)
    omega
/-- Where the document's rounds stand. -/
structure RcO (g : GramT) (E : List Bool) (F : List Nat) (l : List ItemT) (out : List ItemT) (O : List (List AV)) (n m : Nat) : Prop where
  row : O = out.map itemC
  pn : n = out.length
  pm : m = miss g.prods.length out
  so : Sorted out
  ok : ∀ x ∈ out, okI64 x
  sound : Sound (rule g E F) l out
  k : ∀ p d, KF l p d → KF out p d
  t : ∀ p d t, TF l p d t → TF out p d t
def RcN (g : GramT) (E : List Bool) (F : List Nat) (out : List ItemT) (i : Int) (N : List (List AV)) (q : Nat) : Prop := 0 ≤ i ∧ i ≤ out.length ∧ N = (out ++ (out.take i.toNat).flatMap (stepA g E F)).map itemC ∧ q = N.length
theorem rcF_ok (hF : Sets F) (hp : g.prods.length ≤ 100) (hb : ∀ p ∈ g.prods, p.body.length ≤ 1000) (hn : l.length ≤ 500) (hl : ∀ x ∈ l, okI64 x) (hS : CL (rule g E F) l S) (hSl : S.length ≤ l.length + g.prods.length) :
    RcF (fun a b => decide (a < b)) (fun a b => decide (a = b)) lenE nthE arI (ixSl Try.prog) ptrCells (evAppend Try.prog) (evSlice Try.prog) natI (gramV g) (E.map boolC) (F.map setC) (g.prods.map prodC) (S.map itemC) S.length g.prods.length (RcO g E F l) (RcN g E F) := by
  have hlen : ∀ {out O n m}, RcO g E F l out O n m → out.length ≤ 600 := fun {out O n m} h => by
    have := sorted_le (b := S) h.so fun p d hk => (hS.k p d).2 (h.sound.1 p d hk)
    omega
  have hbig : ∀ (a : List ItemT), a.length ≤ 600 → (a.flatMap (stepA g E F)).length ≤ 60000 := fun a h => by
    have h1 := flatStep_len (g := g) (E := E) (F := F) a
    have h2 : a.length * g.prods.length ≤ 600 * 100 := Nat.mul_le_mul h hp
    omega
  refine ⟨fun o O n m h => by rw [h.row]; exact closed_map fun _ => rfl, fun o O n m h => ⟨by rw [h.row]; exact flat_item _, by rw [h.row, List.length_map]; exact h.pn⟩, fun o i N q h => by rw [h.2.2.1]; exact closed_map fun _ => rfl, fun o O n m h => ⟨⟨Int.le_refl 0, by omega, by rw [h.row]; simp, by rw [h.row, List.length_map]; exact h.pn⟩, fun T id k0 k a b c => ?_⟩, fun o O n m i N q h h2 hc => ?_, fun o O n m i N q h h2 hc => ?_⟩
  · have hO : O.length = n := by rw [h.row, List.length_map, h.pn]
    have := hlen h
    have h6 := h.pn
    refine app_sl u30 u30 z41 c41 (by decide) rfl (by decide) a b c (by rw [h.row]; exact len3 rfl) (Nat.zero_le _) (by omega) (by omega) (by rw [← hO, List.take_length]; rfl) (by omega)
  · obtain ⟨i0, i1, hN, hq⟩ := h2
    have hc : ¬ i < (n : Int) := of_decide_eq_false hc
    have hpn := h.pn
    have e : o.take i.toNat = o := List.take_of_length_le (by omega)
    rw [e] at hN
    have hol := hlen h
    have hNl := hbig o hol
    have hfo : ∀ x ∈ o.flatMap (stepA g E F), okI64 x := fun x hx => by
      obtain ⟨y, hy, hx⟩ := List.mem_flatMap.1 hx
      exact step_ok hF (h.ok y hy) x hx
    have hok : ∀ x ∈ o ++ o.flatMap (stepA g E F), okI64 x := fun x hx => (List.mem_append.1 hx).elim (h.ok x) (hfo x)
    have hO2 : roundT g E F o = ofT (o ++ o.flatMap (stepA g E F)) := rfl
    have hr := refOf_calls (o ++ o.flatMap (stepA g E F)) (by rw [List.length_append]; omega) hok
    rw [← hO2, ← hN] at hr
    have hrl := ofT_len (o ++ o.flatMap (stepA g E F))
    rw [← hO2, List.length_append] at hrl
    have hs := J.refSame_calls (roundT g E F o) o (by omega)
    refine ⟨(roundT g E F o).map itemC, (roundT g E F o).length, decide (roundT g E F o = o), closed_map fun _ => rfl, flat_item _, (List.length_map ..).symm, by rw [hN]; exact flat_item _, hq, hr, by rw [h.row]; exact hs, fun he => ?_, fun he => ?_⟩
    · have he := of_decide_eq_true he
      have hcl := round_end h.so h.sound h.k h.t he
      have e2 : o = S := cl_one hcl hS
      exact ⟨by rw [h.row, e2], by rw [hpn, e2]⟩
    · have he := of_decide_eq_false he
      refine ⟨roundT g E F o, _, ?_, rfl, rfl, rfl, (ofT_ok _).sorted, ofT_okI hok, round_sound h.sound, fun p d hk => round_kf.2 (.inl (h.k p d hk)), fun p d t hk => round_tf.2 (.inl (h.t p d t hk))⟩
      rw [h.pm]
      exact round_more hF h.so h.ok he
  · obtain ⟨i0, i1, hN, hq⟩ := h2
    have hc : i < (n : Int) := of_decide_eq_true hc
    have hpn := h.pn
    have hol := hlen h
    have hil : i < o.length := by omega
    have hg : O[i.toNat]? = some (itemC (atI o i)) := by rw [h.row]; exact get_map i0 hil
    have hnx : (o.take (i + 1).toNat).flatMap (stepA g E F) = (o.take i.toNat).flatMap (stepA g E F) ++ stepA g E F (atI o i) := by
      rw [take_next i0 hil, List.flatMap_append]; simp
    have hNl : N.length ≤ 70000 := by
      rw [hN, List.length_map, List.length_append]
      have := hbig (o.take i.toNat) (by rw [List.length_take]; omega)
      omega
    refine ⟨(atI o i).prod, (atI o i).dot, ((atI o i).look : Int), (nextS g (atI o i)).n, i + 1, (nextS g (atI o i)).sort, nextOk g (atI o i), i.toNat, fun id => own_ix c41 i0 hc id, own_cel hg (Nat.zero_le _), own_cel hg (by show 1 ≤ 3; decide), own_cel hg (by show 2 ≤ 3; decide), refNext_calls g (atI o i) hb, ar_add64 (by omega) (by omega), by omega, fun hk => ?_, fun hk => ?_⟩
    · refine ⟨by omega, by omega, ?_, hq⟩
      rw [hnx]
      unfold stepA
      rw [if_neg (by rw [hk]; decide), List.append_nil]
      exact hN
    · have hst : stepA g E F (atI o i) = addN g (nextS g (atI o i)).n (withT E F (restL g (atI o i)) (atI o i).look) g.prods.length := by
        rw [stepA, if_pos hk]
      have hno := (Bool.and_eq_true_iff.1 hk).1
      have hd : 0 ≤ (atI o i).dot ∧ (atI o i).dot < (bodyL g (atI o i).prod).length := of_decide_eq_true hno
      have hbl := body_len hb (atI o i).prod
      have hrest : (bodyL g (atI o i).prod).drop ((atI o i).dot + 1).toNat = restL g (atI o i) := by
        unfold restL
        split
        · rfl
        · rename_i hx
          exact List.drop_eq_nil_of_le (by omega)
      have hlk := withT_lt (E := E) hF (b := restL g (atI o i)) (h.ok _ (at_mem i0 hil))
      refine ⟨(bodyL g (atI o i).prod).map symC, (restL g (atI o i)).map symC, bodyOk g (atI o i).prod, (atI o i).dot + 1, ((withT E F (restL g (atI o i)) (atI o i).look : Nat) : Int), fun p N2 q2 => 0 ≤ p ∧ p ≤ g.prods.length ∧ N2 = N ++ (addN g (nextS g (atI o i)).n (withT E F (restL g (atI o i)) (atI o i).look) p.toNat).map itemC ∧ q2 = N2.length,
        refBody_calls g _, ar_add64 (by omega) (by omega), fun T => ?_, refWith_calls E F _ _ hF (h.ok _ (at_mem i0 hil)), ⟨Int.le_refl 0, by omega, by simp [addN], hq⟩, fun p N2 q2 hx => ?_, fun p N2 q2 hx hpc => ?_, fun p N2 q2 hx hpc => ?_⟩
      · have := slc_ro (P := Try.prog) (T := T) (t := 42) (e := 46) (X := (bodyL g (atI o i).prod).map symC) u42 z46 (fun c hc => by obtain ⟨s, _, rfl⟩ := List.mem_map.1 hc; rfl) (bnd_lo (n := ((bodyL g (atI o i).prod).map symC).length) (m := ((bodyL g (atI o i).prod).map symC).length) (k := .i64) (l := (atI o i).dot + 1) (by omega) (by rw [List.length_map]; omega))
        rw [this, List.take_length, ← List.map_drop, hrest]
      · rw [hx.2.2.1, hN]
        intro c hc
        rcases List.mem_append.1 hc with h1 | h1
        · exact closed_map (f := itemC) (fun _ => rfl) c h1
        · exact closed_map (f := itemC) (fun _ => rfl) c h1
      · obtain ⟨p0, p1, hN2, hq2⟩ := hx
        have hpc : ¬ p < lenE (g.prods.map prodC) := of_decide_eq_false hpc
        rw [len_map] at hpc
        have hpe : p.toNat = g.prods.length := by omega
        refine ⟨by omega, by omega, ?_, hq2⟩
        rw [hN2, hpe, hN, hnx, hst]
        simp only [List.map_append, List.append_assoc]
      · obtain ⟨p0, p1, hN2, hq2⟩ := hx
        have hpc : p < lenE (g.prods.map prodC) := of_decide_eq_true hpc
        rw [len_map] at hpc
        have hp2 : (p + 1).toNat = p.toNat + 1 := by omega
        have hcast : ((p.toNat : Nat) : Int) = p := Int.toNat_of_nonneg p0
        have hadd := addN_next (g := g) (N := (nextS g (atI o i)).n) (look := withT E F (restL g (atI o i)) (atI o i).look) (n := p.toNat)
        rw [hcast] at hadd
        refine ⟨(atI g.prods p).sort, _, p + 1, _, _, _, _, nth_map (f := prodC) (fun _ => rfl) p0 hpc, ar_add64 (by omega) (by omega), by omega, fun he => ?_, fun he => ?_⟩
        · have he := of_decide_eq_false he
          refine ⟨by omega, by omega, ?_, hq2⟩
          rw [hp2, hadd, if_neg he, List.append_nil]
          exact hN2
        · have he := of_decide_eq_true he
          have hq3 : q2 ≤ 80000 := by
            rw [hq2, hN2, List.length_append, List.length_map]
            have := addN_len (g := g) (N := (nextS g (atI o i)).n) (look := withT E F (restL g (atI o i)) (atI o i).look) (n := p.toNat)
            omega
          refine ⟨_, q2 + 1, ⟨by omega, by omega, rfl, ?_⟩, fun T id k0 k a b c => app_tip u30 z41 c41 (by decide) rfl (by decide) a b c rfl (by omega) rfl ?_ (by omega)⟩
          · rw [hp2, hadd, if_pos he, List.map_append, ← List.append_assoc, ← hN2, List.length_append, ← hq2]; rfl
          · rw [hp2, hadd, if_pos he, List.map_append, ← List.append_assoc, ← hN2, hq2, List.take_length]; rfl
end
end Go.Proofs.Ytnceadbfgpiaaaa.C
/- Contracts: bosketref25.Close. -/
namespace Go.Proofs.Ytnceadbfgpiaaaa.C
open Go G U K I J F
set_option linter.unusedVariables false
set_option linter.unusedSimpArgs false
set_option maxRecDepth 100000
set_option maxHeartbeats 4000000
theorem fn26 : Try.prog.funcs[26]? = some Try.f26 := by kernel_rfl
set_option maxHeartbeats 16000000
theorem refClose_calls (g : GramT) (l S : List ItemT) (hs : g.sorts.length ≤ 1000) (hp : g.prods.length ≤ 100) (hb : ∀ p ∈ g.prods, p.body.length ≤ 1000) (hn : l.length ≤ 500) (hl : ∀ x ∈ l, okI64 x) (hS : CL (rule g (emptyT g.prods g.sorts.length) (firstT g.prods g.sorts.length)) l S) (hSl : S.length ≤ l.length + g.prods.length) :
    ACalls Try.prog 26 [gramV g, .ro (l.map itemC)] (fun k => .sl k 0 S.length) (fun _ => [⟨41, S.map itemC⟩]) := by
  have hok := first_ok g.prods g.sorts.length
  have hek := empty_ok g.prods g.sorts.length
  have hcE := refEmpty_calls g hs (Nat.le_trans hp (by decide)) hb
  have hcF := refFirst_calls g hs (Nat.le_trans hp (by decide)) hb
  have H := rcF_ok hok.1.2 hp hb hn hl hS hSl
  have hcO := refOf_calls l (Nat.le_trans hn (by decide)) hl
  have hz : RcO g (emptyT g.prods g.sorts.length) (firstT g.prods g.sorts.length) l (ofT l) ((ofT l).map itemC) (ofT l).length (miss g.prods.length (ofT l)) := ⟨rfl, rfl, rfl, (ofT_ok l).sorted, ofT_okI hl, sound_of sound_self, fun p d h => (ofS_kf (ofT_ok l) p d).2 h, fun p d t h => (ofS_tf (ofT_ok l) p d t).2 h⟩
  have hRc : ∀ c ∈ S.map itemC, closedAll [] c = true := closed_map fun _ => rfl
  have hEl : g.sorts.length = ((emptyT g.prods g.sorts.length).map boolC).length := by rw [List.length_map]; exact hek.1.1.symm
  have hFl : g.sorts.length = ((firstT g.prods g.sorts.length).map setC).length := by rw [List.length_map]; exact hok.1.1.1.symm
  have hEf := flat_bool (emptyT g.prods g.sorts.length)
  have hFf := flat_set (firstT g.prods g.sorts.length)
  have hEc : ∀ c ∈ (emptyT g.prods g.sorts.length).map boolC, closedAll [] c = true := closed_bool rfl
  have hFc : ∀ c ∈ (firstT g.prods g.sorts.length).map setC, closedAll [] c = true := closed_set rfl
  generalize RcO g (emptyT g.prods g.sorts.length) (firstT g.prods g.sorts.length) l = OU at *
  generalize RcN g (emptyT g.prods g.sorts.length) (firstT g.prods g.sorts.length) = NA at *
  clear hok hek hS hSl hn hl hb hp hs
  generalize (emptyT g.prods g.sorts.length).map boolC = EE at *
  generalize (firstT g.prods g.sorts.length).map setC = FF at *
  generalize g.sorts.length = ns at *
  generalize g.prods.length = np at *
  generalize miss np (ofT l) = m0 at *
  generalize (ofT l).length = n0 at *
  generalize (ofT l).map itemC = O0 at *
  generalize S.map itemC = RR at *
  generalize S.length = rn at *
  generalize l.map itemC = X at *
  generalize ofT l = o0 at *
  unfold gramV gramL at *
  generalize g.rules.map ruleC = R at *
  generalize g.sorts.map strC = SS at *
  generalize g.prods.map prodC = D at *
  generalize g.levels.map levC = V at *
  generalize g.start = start at *
  refine acalls_symF tabF_ok fn26 rfl rfl rfl (by kernel_rfl) ?_
  rintro ⟨lt, le, eq, se, ar, dv, una, conv, len, sln, nat, nth, ixs, cel, sto, app, cpy, slc, mak, ixv, oth, dk, ib, call⟩ hS hm Q hQ
  obtain ⟨hlt, hle, heq, hse, har, hdv, huna, hconv, hlen, hsln, hnat, hnth, hixs, hcel, hsto, happ, hcpy, hslc, hmak, hixv, hoth, hdk, hib, hcall⟩ := Sym.mk.inj hS
  clear hS
  have hnt : ∀ n : Nat, nat n = U.natI n := fun n => by rw [hnat]; rfl
  have hbox : ∀ e c off, cel (some ⟨e, [c]⟩) 0 off = if off ≤ c.length then some (c.drop off) else none := fun e c off => by rw [hcel]; rfl
  have hsbox : ∀ e c off sz y, sto (some ⟨e, [c]⟩) 0 off sz y = if y.cells.length = sz ∧ off + sz ≤ c.length ∧ y.cells.all AV.one = true then some ⟨e, [spl c off y.cells]⟩ else none := fun e c off sz y => by rw [hsto]; rfl
  have hcaw : ∀ {f args T base K}, CallK Try.prog f args T base K → call f args T base K := fun h => by rw [hcall]; exact h
  have hcal : ∀ {f args T base} {K : AV → Table → List Nat → List Nat → Prop}, (∃ args' ids val rows, Hands T ids args args' (val base) (rows base) ∧ ACalls Try.prog f args' val rows ∧ (rows base).length ≤ 8 ∧ K (val base) (adopt T base (rows base)) ids ((List.range (rows base).length).map (base + ·))) → call f args T base K := fun h => hcaw (call_own h)
  replace H : RcF lt eq len nth ar ixs cel app slc nat (.agg [.ro R, .ro SS, .ro D, .ro V, .flat (.int .i64 start)]) EE FF D RR rn np OU NA := by rw [hlt, heq, hlen, hnth, har, hixs, hcel, happ, hslc, hnat]; exact H
  obtain ⟨cl, fl, cl2, ini, fin, rnd⟩ := H
  cbv
  refine ⟨by rw [hdk]; kernel_rfl, ?_⟩
  repeat (first | (rw [hbox]; cbv) | (rw [hsbox]; cbv))
  refine hcal ⟨_, [], _, _, .inl ⟨rfl, by cbv⟩, hcE, by simp, ?_⟩
  cbv
  repeat (first | (rw [hbox]; cbv) | (rw [hsbox]; cbv))
  refine hcal ⟨_, [], _, _, .inl ⟨rfl, by cbv⟩, hcF, by simp, ?_⟩
  cbv
  repeat (first | (rw [hbox]; cbv) | (rw [hsbox]; cbv))
  refine ⟨by rw [hib]; kernel_rfl, ?_⟩
  cbv
  refine hcal ⟨_, [], _, _, .inl ⟨rfl, by cbv⟩, hcO, by simp, ?_⟩
  cbv
  repeat (first | (rw [hbox]; cbv) | (rw [hsbox]; cbv))
  refine MW_loop hm [0, 24, 40, 72] [2, 5, 6, 7] 8 (by simp) (fun mz st => ∃ (o : List ItemT) (O : List (List AV)) (n m : Nat), OU o O n m ∧ mz = m ∧ st = stOf [.dead, .dead, .ptr 0 0 0, .dead, .dead, .sl 1 0 ns, .sl 2 0 ns, .sl 3 0 n] [some ⟨39, [[.ro R, .ro SS, .ro D, .ro V, .flat (.int .i64 start)]]⟩, some ⟨4, EE⟩, some ⟨26, FF⟩, some ⟨41, O⟩] 4) (m0) ?_ ?_
  · exact ⟨o0, O0, n0, m0, hz, rfl, cut_eq (by cbv) (cutRows_cons (by rfl) (by simp [closedAll, closedIn]) (cutRows_cons (by rfl) (hEc) (cutRows_cons (by rfl) (hFc) (cutRows_cons (by rfl) (cl _ _ _ _ hz) rfl))))⟩
  rintro mz st ⟨o, O, n, m, hi, hmz, rfl⟩
  obtain ⟨y1, y2⟩ := ini o O n m hi
  obtain ⟨y3, y4⟩ := fl o O n m hi
  have hfin := fun i N q => fin o O n m i N q hi
  have hrnd := fun i N q => rnd o O n m i N q hi
  clear ini fl fin rnd
  cbv
  rw [y2 _ _ _ _ (by rfl) (by rfl) (by decide)]; cbv
  refine MW_loop hm [0, 1, 2, 3, 20] [2, 5, 6, 7, 8, 9] 10 (by simp) (fun mz st => ∃ (i : Int) (N : List (List AV)) (q : Nat), NA o i N q ∧ mz = n - i.toNat ∧ st = stOf [.dead, .dead, .ptr 0 0 0, .dead, .dead, .sl 1 0 ns, .sl 2 0 ns, .sl 3 0 n, .sl 4 0 q, .flat (.int .i64 i)] [some ⟨39, [[.ro R, .ro SS, .ro D, .ro V, .flat (.int .i64 start)]]⟩, some ⟨4, EE⟩, some ⟨26, FF⟩, some ⟨41, O⟩, some ⟨41, N⟩] 5) (n - (0 : Int).toNat) ?_ ?_
  · exact ⟨0, O, n, y1, rfl, cut_eq (by cbv) (cutRows_cons (by rfl) (by simp [closedAll, closedIn]) (cutRows_cons (by rfl) (hEc) (cutRows_cons (by rfl) (hFc) (cutRows_cons (by rfl) (cl _ _ _ _ hi) (cutRows_cons (by rfl) (cl _ _ _ _ hi) rfl)))))⟩
  rintro mj st ⟨i, N, q, hj, hmj, rfl⟩
  cases hc : lt i (nat n)
  · obtain ⟨O2, n2, same, f1, f2, f3, f4, f5, f6, f7, f8, f9⟩ := hfin i N q hj hc
    clear hfin hrnd
    cases same
    · obtain ⟨o2, m2, g1, g2⟩ := f9 rfl
      cbv
      rw [hc]; cbv
      refine hcal ⟨[.ro N], [4], _, _, hands_deep ⟨deep_row (by simp) (by rfl) f5 f4.read, trivial⟩ rfl (noRo_flat f2), f6, by simp, ?_⟩
      cbv
      repeat (first | (rw [hbox]; cbv) | (rw [hsbox]; cbv))
      refine hcal ⟨[.ro O2, .ro O], [45, 3], _, _, hands_deep ⟨deep_row (by simp) (by rfl) f3 f2.read, deep_row (by simp) (by rfl) y4 y3.read, trivial⟩ rfl (fun r hr => by cases hr), f7, by simp, ?_⟩
      cbv
      repeat (first | (rw [hbox]; cbv) | (rw [hsbox]; cbv))
      exact ⟨[0, 1, 2, 45], [2, 5, 6, 7], 8, m2, hmz ▸ g1, by simp, o2, O2, n2, m2, g2, rfl, cut_eq (by cbv) (cutRows_cons (by rfl) (by simp [closedAll, closedIn]) (cutRows_cons (by rfl) (hEc) (cutRows_cons (by rfl) (hFc) (cutRows_cons (by rfl) (f1) rfl))))⟩
    obtain ⟨rfl, rfl⟩ := f8 rfl
    cbv
    rw [hc]; cbv
    refine hcal ⟨[.ro N], [4], _, _, hands_deep ⟨deep_row (by simp) (by rfl) f5 f4.read, trivial⟩ rfl (noRo_flat f2), f6, by simp, ?_⟩
    cbv
    repeat (first | (rw [hbox]; cbv) | (rw [hsbox]; cbv))
    refine hcal ⟨[.ro O2, .ro O], [45, 3], _, _, hands_deep ⟨deep_row (by simp) (by rfl) f3 f2.read, deep_row (by simp) (by rfl) y4 y3.read, trivial⟩ rfl (fun r hr => by cases hr), f7, by simp, ?_⟩
    cbv
    repeat (first | (rw [hbox]; cbv) | (rw [hsbox]; cbv))
    exact hQ _ _ trivial (leaves_own (by cbv) (by rfl) hRc)
  obtain ⟨xp, xd, xl, Nn, i2, sb, ok, iN, r1, r2, r3, r4, r5, r6, r7, r8, r9⟩ := hrnd i N q hj hc
  clear hfin hrnd
  cases ok
  · have r8 := r8 rfl
    cbv
    rw [hc]; cbv
    refine ⟨by rw [hdk]; kernel_rfl, ?_⟩
    repeat (first | (rw [hbox]; cbv) | (rw [hsbox]; cbv) | (rw [r1]; cbv) | (rw [r2]; cbv))
    refine hcal ⟨_, [], _, _, .inl ⟨rfl, by cbv⟩, r5, by simp, ?_⟩
    cbv
    repeat (first | (rw [hbox]; cbv) | (rw [hsbox]; cbv))
    refine ⟨by rw [hib]; kernel_rfl, ?_⟩
    cbv
    repeat (first | (rw [hbox]; cbv) | (rw [hsbox]; cbv))
    rw [r6]
    exact ⟨[0, 1, 2, 3, 4], [2, 5, 6, 7, 8, 9], 10, n - i2.toNat, hmj ▸ r7, by simp, i2, N, q, r8, rfl, cut_eq (by cbv) (cutRows_cons (by rfl) (by simp [closedAll, closedIn]) (cutRows_cons (by rfl) (hEc) (cutRows_cons (by rfl) (hFc) (cutRows_cons (by rfl) (cl _ _ _ _ hi) (cutRows_cons (by rfl) (cl2 _ _ _ _ hj) rfl)))))⟩
  cases sb
  · have r8 := r8 rfl
    cbv
    rw [hc]; cbv
    refine ⟨by rw [hdk]; kernel_rfl, ?_⟩
    repeat (first | (rw [hbox]; cbv) | (rw [hsbox]; cbv) | (rw [r1]; cbv) | (rw [r2]; cbv))
    refine hcal ⟨_, [], _, _, .inl ⟨rfl, by cbv⟩, r5, by simp, ?_⟩
    cbv
    repeat (first | (rw [hbox]; cbv) | (rw [hsbox]; cbv))
    refine ⟨by rw [hib]; kernel_rfl, ?_⟩
    cbv
    repeat (first | (rw [hbox]; cbv) | (rw [hsbox]; cbv))
    rw [r6]
    exact ⟨[0, 1, 2, 3, 4], [2, 5, 6, 7, 8, 9], 10, n - i2.toNat, hmj ▸ r7, by simp, i2, N, q, r8, rfl, cut_eq (by cbv) (cutRows_cons (by rfl) (by simp [closedAll, closedIn]) (cutRows_cons (by rfl) (hEc) (cutRows_cons (by rfl) (hFc) (cutRows_cons (by rfl) (cl _ _ _ _ hi) (cutRows_cons (by rfl) (cl2 _ _ _ _ hj) rfl)))))⟩
  obtain ⟨BB, RB, bok, d1, lk2, NB, s1, s2, s3, s4, s5, s6⟩ := r9 rfl
  obtain ⟨k1, k2, k3⟩ := s6
  clear r8
  cbv
  rw [hc]; cbv
  refine ⟨by rw [hdk]; kernel_rfl, ?_⟩
  repeat (first | (rw [hbox]; cbv) | (rw [hsbox]; cbv) | (rw [r1]; cbv) | (rw [r2]; cbv))
  refine hcal ⟨_, [], _, _, .inl ⟨rfl, by cbv⟩, r5, by simp, ?_⟩
  cbv
  repeat (first | (rw [hbox]; cbv) | (rw [hsbox]; cbv))
  refine ⟨by rw [hib]; kernel_rfl, ?_⟩
  cbv
  repeat (first | (rw [hbox]; cbv) | (rw [hsbox]; cbv))
  refine ⟨by rw [hdk]; kernel_rfl, ?_⟩
  repeat (first | (rw [hbox]; cbv) | (rw [hsbox]; cbv) | (rw [r1]; cbv) | (rw [r2]; cbv))
  refine hcal ⟨_, [], _, _, .inl ⟨rfl, by cbv⟩, s1, by simp, ?_⟩
  cbv
  repeat (first | (rw [hbox]; cbv) | (rw [hsbox]; cbv))
  refine ⟨by rw [hib]; kernel_rfl, ?_⟩
  cbv
  refine ⟨by rw [hdk]; kernel_rfl, ?_⟩
  repeat (first | (rw [hbox]; cbv) | (rw [hsbox]; cbv) | (rw [r1]; cbv) | (rw [r3]; cbv) | (rw [s2]; cbv) | (rw [s3]; cbv) | (rw [r4]; cbv))
  refine hcal ⟨[.ro EE, .ro FF, .ro RB, .flat (.int .u64 xl)], [1, 2], _, _, hands_deep ⟨deep_row (by simp) (by rfl) hEl hEf.read, deep_row (by simp) (by rfl) hFl hFf.read, .id rfl, .id rfl, trivial⟩ rfl (fun r hr => by cases hr), s4, by simp, ?_⟩
  cbv
  repeat (first | (rw [hbox]; cbv) | (rw [hsbox]; cbv))
  refine ⟨by rw [hib]; kernel_rfl, ?_⟩
  cbv
  refine MW_loop hm [0, 1, 2, 3, 4, 109] [2, 5, 6, 7, 8, 9, 10, 14, 15] 16 (by simp) (fun mz st => ∃ (p : Int) (N : List (List AV)) (q : Nat), NB p N q ∧ mz = np - p.toNat ∧ st = stOf [.dead, .dead, .ptr 0 0 0, .dead, .dead, .sl 1 0 ns, .sl 2 0 ns, .sl 3 0 n, .sl 4 0 q, .flat (.int .i64 i), .ptr 5 0 0, .dead, .dead, .dead, .flat (.int .u64 lk2), .flat (.int .i64 p)] [some ⟨39, [[.ro R, .ro SS, .ro D, .ro V, .flat (.int .i64 start)]]⟩, some ⟨4, EE⟩, some ⟨26, FF⟩, some ⟨41, O⟩, some ⟨41, N⟩, some ⟨46, [[.flat (.bool true), .flat (.int .i64 Nn)]]⟩] 6) (np - (0 : Int).toNat) ?_ ?_
  · exact ⟨0, N, q, s5, rfl, cut_eq (by cbv) (cutRows_cons (by rfl) (by simp [closedAll, closedIn]) (cutRows_cons (by rfl) (hEc) (cutRows_cons (by rfl) (hFc) (cutRows_cons (by rfl) (cl _ _ _ _ hi) (cutRows_cons (by rfl) (k1 _ _ _ s5) (cutRows_cons (by rfl) (by simp [closedAll, closedIn]) rfl))))))⟩
  rintro mx st ⟨p, N, q, hx, hmx, rfl⟩
  cases hc3 : lt p (len D)
  · have hND := k2 _ _ _ hx hc3
    cbv
    repeat (first | (rw [hbox]; cbv) | (rw [hsbox]; cbv) | (rw [hc3]; cbv))
    rw [r6]
    exact ⟨[0, 1, 2, 3, 4], [2, 5, 6, 7, 8, 9], 10, n - i2.toNat, hmj ▸ r7, by simp, i2, N, q, hND, rfl, cut_eq (by cbv) (cutRows_cons (by rfl) (by simp [closedAll, closedIn]) (cutRows_cons (by rfl) (hEc) (cutRows_cons (by rfl) (hFc) (cutRows_cons (by rfl) (cl _ _ _ _ hi) (cutRows_cons (by rfl) (cl2 _ _ _ _ hND) rfl)))))⟩
  obtain ⟨srt, pc, p2, con, bd, hn, pr, u1, u2, u3, u4, u5⟩ := k3 _ _ _ hx hc3
  cases es : eq srt Nn
  · have u4 := u4 es
    cbv
    repeat (first | (rw [hbox]; cbv) | (rw [hsbox]; cbv) | (rw [hc3]; cbv))
    refine ⟨by rw [hdk]; kernel_rfl, ?_⟩
    repeat (first | (rw [hbox]; cbv) | (rw [hsbox]; cbv) | (rw [u1]; cbv) | (rw [es]; cbv))
    refine ⟨by rw [hib]; kernel_rfl, ?_⟩
    cbv
    rw [u2]
    exact ⟨[0, 1, 2, 3, 4, 5], [2, 5, 6, 7, 8, 9, 10, 14, 15], 16, np - p2.toNat, hmx ▸ u3, by simp, p2, N, q, u4, rfl, cut_eq (by cbv) (cutRows_cons (by rfl) (by simp [closedAll, closedIn]) (cutRows_cons (by rfl) (hEc) (cutRows_cons (by rfl) (hFc) (cutRows_cons (by rfl) (cl _ _ _ _ hi) (cutRows_cons (by rfl) (k1 _ _ _ u4) (cutRows_cons (by rfl) (by simp [closedAll, closedIn]) rfl))))))⟩
  obtain ⟨N2, q2, u6, u7⟩ := u5 es
  cbv
  repeat (first | (rw [hbox]; cbv) | (rw [hsbox]; cbv) | (rw [hc3]; cbv))
  refine ⟨by rw [hdk]; kernel_rfl, ?_⟩
  repeat (first | (rw [hbox]; cbv) | (rw [hsbox]; cbv) | (rw [u1]; cbv) | (rw [es]; cbv))
  refine ⟨by rw [hib]; kernel_rfl, ?_⟩
  cbv
  repeat (first | (rw [hbox]; cbv) | (rw [hsbox]; cbv))
  rw [u7 _ _ _ _ (by rfl) (by rfl) (by decide)]; cbv
  rw [u2]
  exact ⟨[0, 1, 2, 3, 158, 5], [2, 5, 6, 7, 8, 9, 10, 14, 15], 16, np - p2.toNat, hmx ▸ u3, by simp, p2, N2, q2, u6, rfl, cut_eq (by cbv) (cutRows_cons (by rfl) (by simp [closedAll, closedIn]) (cutRows_cons (by rfl) (hEc) (cutRows_cons (by rfl) (hFc) (cutRows_cons (by rfl) (cl _ _ _ _ hi) (cutRows_cons (by rfl) (k1 _ _ _ u6) (cutRows_cons (by rfl) (by simp [closedAll, closedIn]) rfl))))))⟩
end Go.Proofs.Ytnceadbfgpiaaaa.C
/- Contracts: bosketref25.Go. -/
namespace Go.Proofs.Ytnceadbfgpiaaaa.C
open Go G U K I J F
set_option linter.unusedVariables false
set_option linter.unusedSimpArgs false
set_option maxRecDepth 100000
set_option maxHeartbeats 4000000
theorem fn28 : Try.prog.funcs[28]? = some Try.f28 := by kernel_rfl
theorem refGo_calls (g : GramT) (l : List ItemT) (s : SymT) (hb : ∀ p ∈ g.prods, p.body.length ≤ 1000) (hl : l.length ≤ 100000) (hok : ∀ x ∈ l, okI64 x) : ACalls Try.prog 28 [gramV g, .ro (l.map itemC), .agg (symC s)] (fun k => .sl k 0 (ofT (goL g l s)).length) (fun _ => [⟨41, (ofT (goL g l s)).map itemC⟩]) := by
  have hOf := refOf_calls (goL g l s) (Nat.le_trans (go_len l) hl) (go_ok hok)
  have hRf := flat_item (ofT (goL g l s))
  have hRc : ∀ c ∈ (ofT (goL g l s)).map itemC, closedAll [] c = true := closed_map fun _ => rfl
  have hN := fun x => refNext_calls g x hb
  have hXl : lenE (l.map itemC) = (l.length : Int) := len_map _ _
  have hst : ∀ i : Int, 0 ≤ i → i < l.length → ∀ (O : List (List AV)) (n : Nat), O = (goL g (l.take i.toNat) s).map itemC → n = O.length → ∃ (p d look v : Int) (ok sb : Bool), nthE (l.map itemC) i 3 = some (.rp [.flat (.int .i64 p), .flat (.int .i64 d), .flat (.int .u64 look)]) ∧ ACalls Try.prog 18 [gramV g, .agg [.flat (.int .i64 p), .flat (.int .i64 d), .flat (.int .u64 look)]] (fun _ => .tup [.agg [.flat (.bool sb), .flat (.int .i64 v)], .flat (.bool ok)]) (fun _ => []) ∧ (ok = true → arI .add .i64 d 1 = d + 1) ∧ n ≤ 100000 ∧
      ((ok && ((sb == s.sort) && ((v == s.n) && true))) = true → O ++ [[.flat (.int .i64 p), .flat (.int .i64 (d + 1)), .flat (.int .u64 look)]] = (goL g (l.take (i + 1).toNat) s).map itemC) ∧ ((ok && ((sb == s.sort) && ((v == s.n) && true))) = false → O = (goL g (l.take (i + 1).toNat) s).map itemC) := fun i h0 h1 O n hO hn => by
    refine ⟨(atI l i).prod, (atI l i).dot, ((atI l i).look : Int), (nextS g (atI l i)).n, nextOk g (atI l i), (nextS g (atI l i)).sort, nth_map (f := itemC) (fun _ => rfl) h0 h1, hN (atI l i), fun h => ok_dot hb h, ?_, fun h => ?_, fun h => ?_⟩
    · rw [hn, hO, List.length_map]
      refine Nat.le_trans (go_len _) ?_
      rw [List.length_take]; omega
    · rw [go_next h0 h1, List.map_append, ← hO]
      unfold goOne
      rw [if_pos h]; rfl
    · rw [go_next h0 h1, List.map_append, ← hO]
      unfold goOne
      rw [if_neg (by rw [h]; decide)]; simp
  have hend : l.take (l.length : Int).toNat = l := by rw [Int.toNat_natCast]; exact List.take_length
  have hz0 : ([] : List (List AV)) = (goL g (l.take (0 : Int).toNat) s).map itemC := rfl
  obtain ⟨GO, hGO⟩ : ∃ GO : Int → List (List AV), GO = fun i => (goL g (l.take i.toNat) s).map itemC := ⟨_, rfl⟩
  have hGOf : ∀ i, flatRow (GO i) := fun i => by rw [hGO]; exact flat_item _
  have hGOc : ∀ i, ∀ c ∈ GO i, closedAll [] c = true := fun i => by rw [hGO]; exact closed_map fun _ => rfl
  have hGOe : GO (l.length : Int) = (goL g l s).map itemC := by rw [hGO]; show (goL g (l.take (l.length : Int).toNat) s).map itemC = _; rw [hend]
  replace hst : ∀ i : Int, 0 ≤ i → i < l.length → ∀ (O : List (List AV)) (n : Nat), O = GO i → n = O.length → ∃ (p d look v : Int) (ok sb : Bool), nthE (l.map itemC) i 3 = some (.rp [.flat (.int .i64 p), .flat (.int .i64 d), .flat (.int .u64 look)]) ∧ ACalls Try.prog 18 [gramV g, .agg [.flat (.int .i64 p), .flat (.int .i64 d), .flat (.int .u64 look)]] (fun _ => .tup [.agg [.flat (.bool sb), .flat (.int .i64 v)], .flat (.bool ok)]) (fun _ => []) ∧ (ok = true → arI .add .i64 d 1 = d + 1) ∧ n ≤ 100000 ∧
      ((ok && ((sb == s.sort) && ((v == s.n) && true))) = true → O ++ [[.flat (.int .i64 p), .flat (.int .i64 (d + 1)), .flat (.int .u64 look)]] = GO (i + 1)) ∧ ((ok && ((sb == s.sort) && ((v == s.n) && true))) = false → O = GO (i + 1)) := by rw [hGO]; exact hst
  replace hz0 : ([] : List (List AV)) = GO 0 := by rw [hGO]; exact hz0
  have hz1 : (0 : Int) ≤ 0 ∧ (0 : Int) ≤ l.length := by omega
  rw [← hGOe] at hOf
  clear hGOe hend hGO hN hok hb
  unfold gramV gramL at *
  unfold symC
  generalize (ofT (goL g l s)).length = rn at *
  generalize (ofT (goL g l s)).map itemC = RR at *
  generalize l.map itemC = X at *
  generalize g.rules.map ruleC = R at *
  generalize g.sorts.map strC = S at *
  generalize g.prods.map prodC = D at *
  generalize g.levels.map levC = V at *
  generalize g.start = start at *
  obtain ⟨s1, s2⟩ := s
  dsimp only at *
  refine acalls_symF tabF_ok fn28 rfl rfl rfl (by kernel_rfl) ?_
  rintro ⟨lt, le, eq, se, ar, dv, una, conv, len, sln, nat, nth, ixs, cel, sto, app, cpy, slc, mak, ixv, oth, dk, ib, call⟩ hS hm Q hQ
  obtain ⟨hlt, hle, heq, hse, har, hdv, huna, hconv, hlen, hsln, hnat, hnth, hixs, hcel, hsto, happ, hcpy, hslc, hmak, hixv, hoth, hdk, hib, hcall⟩ := Sym.mk.inj hS
  clear hS
  have hnt : ∀ n : Nat, nat n = U.natI n := fun n => by rw [hnat]; rfl
  have hbox : ∀ e c off, cel (some ⟨e, [c]⟩) 0 off = if off ≤ c.length then some (c.drop off) else none := fun e c off => by rw [hcel]; rfl
  have hsbox : ∀ e c off sz y, sto (some ⟨e, [c]⟩) 0 off sz y = if y.cells.length = sz ∧ off + sz ≤ c.length ∧ y.cells.all AV.one = true then some ⟨e, [spl c off y.cells]⟩ else none := fun e c off sz y => by rw [hsto]; rfl
  have hcaw : ∀ {f args T base K}, CallK Try.prog f args T base K → call f args T base K := fun h => by rw [hcall]; exact h
  have hcal : ∀ {f args T base} {K : AV → Table → List Nat → List Nat → Prop}, (∃ args' ids val rows, Hands T ids args args' (val base) (rows base) ∧ ACalls Try.prog f args' val rows ∧ (rows base).length ≤ 8 ∧ K (val base) (adopt T base (rows base)) ids ((List.range (rows base).length).map (base + ·))) → call f args T base K := fun h => hcaw (call_own h)
  have hX2 : len X = (l.length : Int) := by rw [hlen]; exact hXl
  have hde : ∀ (a b : Bool) (v w : Int), dv .eql 46 (.agg [.flat (.bool a), .flat (.int .i64 v)]) (.agg [.flat (.bool b), .flat (.int .i64 w)]) = some (.flat (.bool ((a == b) && ((v == w) && true)))) := fun a b v w => by rw [hdv]; exact eq_sym46 a b v w
  replace hst : ∀ i : Int, 0 ≤ i → lt i (len X) = true → ∀ (O : List (List AV)) (n : Nat), O = GO i → n = O.length → ∃ (p d look v : Int) (ok sb : Bool), nth X i 3 = some (.rp [.flat (.int .i64 p), .flat (.int .i64 d), .flat (.int .u64 look)]) ∧ ACalls Try.prog 18 [.agg [.ro R, .ro S, .ro D, .ro V, .flat (.int .i64 start)], .agg [.flat (.int .i64 p), .flat (.int .i64 d), .flat (.int .u64 look)]] (fun _ => .tup [.agg [.flat (.bool sb), .flat (.int .i64 v)], .flat (.bool ok)]) (fun _ => []) ∧ (ok = true → ar .add .i64 d 1 = d + 1) ∧ n ≤ 100000 ∧
      ((ok && ((sb == s1) && ((v == s2) && true))) = true → O ++ [[.flat (.int .i64 p), .flat (.int .i64 (d + 1)), .flat (.int .u64 look)]] = GO (i + 1)) ∧ ((ok && ((sb == s1) && ((v == s2) && true))) = false → O = GO (i + 1)) ∧ ar .add .i64 i 1 = i + 1 ∧ 0 ≤ i + 1 ∧ i + 1 ≤ l.length ∧ ((l.length : Int) - (i + 1)).toNat < ((l.length : Int) - i).toNat := fun i h0 hc O n hO hn => by
    rw [hlt, hX2] at hc
    have hc := of_decide_eq_true hc
    obtain ⟨p, d, look, v, ok, sb, q1, q2, q3, q4, q5, q6⟩ := hst i h0 hc O n hO hn
    exact ⟨p, d, look, v, ok, sb, by rw [hnth]; exact q1, q2, by rw [har]; exact q3, q4, q5, q6, by rw [har, ar_add64 (by omega) (by omega)], by omega, by omega, by omega⟩
  have hfin2 : ∀ i : Int, 0 ≤ i → i ≤ l.length → lt i (len X) = false → i = l.length := fun i h0 h1 hc => by
    rw [hlt, hX2] at hc
    have hc := of_decide_eq_false hc
    omega
  have hap : ∀ (T : Table) (id k0 k n n2 : Nat) (O O2 : List (List AV)) (a b c : Int), O2 = O ++ [[.flat (.int .i64 a), .flat (.int .i64 b), .flat (.int .u64 c)]] → n = O.length → n2 = n + 1 → n ≤ 100000 → T k0 = some ⟨41, O⟩ → T k = some ⟨41, [[.flat (.int .i64 a), .flat (.int .i64 b), .flat (.int .u64 c)]]⟩ → k ≠ k0 → app T id 30 30 (.sl k0 0 n) (.sl k 0 1) = some (.sl id 0 n2, (T.set k0 none).set id (some ⟨41, O2⟩)) := fun T id k0 k n n2 O O2 a b c h1 h2 h3 h4 h5 h6 h7 => by
    rw [happ]
    exact app_tip u30 z41 c41 (by decide) rfl (by decide) h5 h6 h7 rfl (by omega) h3 (by rw [h2, List.take_length]; exact h1) (by omega)
  have hcl : ∀ (i : Int) {O : List (List AV)}, O = GO i → ∀ c ∈ O, closedAll [] c = true := fun i O h c hc => hGOc i c (h ▸ hc)
  generalize (l.length : Int) = ln at *
  clear hXl hX2 hl
  cbv
  refine MW_loopZ hm [.slot 7 41] [0, 8, 40] [1, 3, 5, 7, 8] 9 (by simp) (fun mz st => ∃ (i : Int) (n : Nat) (O : List (List AV)), (0 ≤ i ∧ i ≤ ln) ∧ O = GO i ∧ n = O.length ∧ mz = (ln - i).toNat ∧ st = stOf [.dead, .ro X, .dead, .ptr 0 0 0, .dead, .ptr 1 0 0, .dead, .sl 2 0 n, .flat (.int .i64 i)] [some ⟨39, [[.ro R, .ro S, .ro D, .ro V, .flat (.int .i64 start)]]⟩, some ⟨46, [[.flat (.bool s1), .flat (.int .i64 s2)]]⟩, some ⟨41, O⟩] 3) ((ln - 0).toNat) ?_ ?_
  · exact ⟨0, 0, [], hz1, hz0, rfl, rfl, cut_eq (by cbv) (cutRows_cons (by rfl) (by simp [closedAll, closedIn]) (cutRows_cons (by rfl) (by simp [closedAll, closedIn]) (cutRows_cons (by rfl) (fun c hc => by cases hc) rfl)))⟩
  rintro mz st ⟨i, n, O, hi, hO, hn, hmz, rfl⟩
  cases hc : lt i (len X)
  · have e := hfin2 i hi.1 hi.2 hc
    rw [e] at hO
    have hOr := (hGOf ln).read
    rw [← hO] at hOf hOr
    cbv
    rw [hc]; cbv
    refine hcal ⟨[.ro O], [2], _, _, hands_deep ⟨deep_row (by simp) (by rfl) hn hOr, trivial⟩ rfl (noRo_flat hRf), hOf, by simp, ?_⟩
    cbv
    exact hQ _ _ trivial (leaves_own (by cbv) (by rfl) hRc)
  obtain ⟨p, d, look, v, ok, sb, q1, q2, q3, q4, q5, q6, q7, q8, q9, q10⟩ := hst i hi.1 hc O n hO hn
  have hde2 := hde sb s1 v s2
  generalize ((sb == s1) && ((v == s2) && true)) = e at q5 q6 hde2
  generalize i + 1 = i2 at q5 q6 q7 q8 q9 q10
  clear hst hde
  cases ok
  · have q6 := q6 rfl
    cbv
    rw [hc]; cbv
    refine ⟨by rw [hdk]; kernel_rfl, ?_⟩
    repeat (first | (rw [hbox]; cbv) | (rw [hsbox]; cbv) | (rw [q1]; cbv))
    refine hcal ⟨_, [], _, _, .inl ⟨rfl, by cbv⟩, q2, by simp, ?_⟩
    cbv
    repeat (first | (rw [hbox]; cbv) | (rw [hsbox]; cbv))
    refine ⟨by rw [hib]; kernel_rfl, ?_⟩
    cbv
    repeat (first | (rw [hbox]; cbv) | (rw [hsbox]; cbv))
    rw [q7]
    exact ⟨[0, 1, 2], [1, 3, 5, 7, 8], 9, (ln - i2).toNat, hmz ▸ q10, by simp, i2, n, O, ⟨q8, q9⟩, q6, hn, rfl, cut_eq (by cbv) (cutRows_cons (by rfl) (by simp [closedAll, closedIn]) (cutRows_cons (by rfl) (by simp [closedAll, closedIn]) (cutRows_cons (by rfl) (hcl _ q6) rfl)))⟩
  cases e
  · have q6 := q6 rfl
    cbv
    rw [hc]; cbv
    refine ⟨by rw [hdk]; kernel_rfl, ?_⟩
    repeat (first | (rw [hbox]; cbv) | (rw [hsbox]; cbv) | (rw [q1]; cbv))
    refine hcal ⟨_, [], _, _, .inl ⟨rfl, by cbv⟩, q2, by simp, ?_⟩
    cbv
    repeat (first | (rw [hbox]; cbv) | (rw [hsbox]; cbv))
    refine ⟨by rw [hib]; kernel_rfl, ?_⟩
    cbv
    repeat (first | (rw [hbox]; cbv) | (rw [hsbox]; cbv) | (rw [hde2]; cbv))
    rw [q7]
    exact ⟨[0, 1, 2], [1, 3, 5, 7, 8], 9, (ln - i2).toNat, hmz ▸ q10, by simp, i2, n, O, ⟨q8, q9⟩, q6, hn, rfl, cut_eq (by cbv) (cutRows_cons (by rfl) (by simp [closedAll, closedIn]) (cutRows_cons (by rfl) (by simp [closedAll, closedIn]) (cutRows_cons (by rfl) (hcl _ q6) rfl)))⟩
  have q3 := q3 rfl
  have q5 := q5 rfl
  obtain ⟨O2, hO2⟩ : ∃ O2, O2 = O ++ [[.flat (.int .i64 p), .flat (.int .i64 (d + 1)), .flat (.int .u64 look)]] := ⟨_, rfl⟩
  rw [← hO2] at q5
  have hn2 : n + 1 = O2.length := by rw [hO2, List.length_append, hn]; rfl
  have hap2 := fun (T : Table) (id k0 k : Nat) => hap T id k0 k n (n + 1) O O2 p (d + 1) look hO2 hn rfl q4
  clear hO2 hap
  generalize d + 1 = d2 at q3 hap2
  generalize n + 1 = n2 at hn2 hap2
  cbv
  rw [hc]; cbv
  refine ⟨by rw [hdk]; kernel_rfl, ?_⟩
  repeat (first | (rw [hbox]; cbv) | (rw [hsbox]; cbv) | (rw [q1]; cbv))
  refine hcal ⟨_, [], _, _, .inl ⟨rfl, by cbv⟩, q2, by simp, ?_⟩
  cbv
  repeat (first | (rw [hbox]; cbv) | (rw [hsbox]; cbv))
  refine ⟨by rw [hib]; kernel_rfl, ?_⟩
  cbv
  repeat (first | (rw [hbox]; cbv) | (rw [hsbox]; cbv) | (rw [hde2]; cbv))
  refine ⟨by rw [hdk]; kernel_rfl, ?_⟩
  repeat (first | (rw [hbox]; cbv) | (rw [hsbox]; cbv) | (rw [q1]; cbv) | (rw [q3]; cbv))
  rw [hap2 _ _ _ _ (by rfl) (by rfl) (by decide)]; cbv
  repeat (first | (rw [hbox]; cbv) | (rw [hsbox]; cbv))
  refine ⟨by rw [hib]; kernel_rfl, ?_⟩
  cbv
  rw [q7]
  exact ⟨[0, 1, 331], [1, 3, 5, 7, 8], 9, (ln - i2).toNat, hmz ▸ q10, by simp, i2, n2, O2, ⟨q8, q9⟩, q5, hn2, rfl, cut_eq (by cbv) (cutRows_cons (by rfl) (by simp [closedAll, closedIn]) (cutRows_cons (by rfl) (by simp [closedAll, closedIn]) (cutRows_cons (by rfl) (hcl _ q5) rfl)))⟩
end Go.Proofs.Ytnceadbfgpiaaaa.C
