/- What the model's own operations on memory come to, in the forms that the abstract machine's proofs ask for. Plain theorems over any program. -/
import Derived.Test.YtnceadbfgpiaaaaG1
import Derived.Tactics
import Derived.WalkKit
namespace Go.Proofs.Ytnceadbfgpiaaaa.G
set_option linter.unusedVariables false
set_option linter.unusedSimpArgs false
open Go
variable {P : Program} {w : World}

theorem run_bind {α β : Type} (x : Sem α) (f : α → Sem β) {a : α} {w' : World} (h : x.run P w = .ok a w') : (x >>= f).run P w = (f a).run P w' := by
  rw [show (x >>= f) = x.bind f from rfl, Sem.run_bind', h]; rfl
theorem run_ret {α : Type} (a : α) : (pure a : Sem α).run P w = .ok a w := rfl
theorem run_under {t : TypeId} {d : TypeDesc} (h : P.underlying t = some d) : (underlying t).run P w = .ok d w := run_underlying h w
theorem run_size {t : TypeId} {i : TypeInfo} (h : P.info? t = some i) : (sizeOf t).run P w = .ok i.size w := by simp [sizeOf, typeInfo, h]
theorem run_zero {t : TypeId} {i : TypeInfo} {z : Value} (h : P.info? t = some i) (hz : i.zero = some z) : (zeroValue t).run P w = .ok z w := by simp [zeroValue, typeInfo, h, hz]
theorem run_newRow (e : TypeId) (cs : Array Value) : (newRow e cs).run P w = .ok ⟨w.heap.size, 0, none⟩ (w.alloc (.cells cs e)) := by
  simp only [newRow, newObj]
  exact run_bind _ _ rfl

theorem run_alloc {e : TypeId} {i : TypeInfo} {z : Value} (hi : P.info? e = some i) (hz : i.zero = some z) :
    (Instr.alloc e true (.tuple #[])).run P w = .ok (.pointer (some ⟨w.heap.size, 0, none⟩)) (w.alloc (.cells z.cells e)) := by
  unfold Instr.alloc
  rw [run_bind _ _ (run_zero hi hz)]
  exact run_bind _ _ (run_newRow e z.cells)
theorem run_box {e : TypeId} {x : Value} : (Instr.box e x).run P w = .ok (.pointer (some ⟨w.heap.size, 0, none⟩)) (w.alloc (.cells x.cells e)) := by
  unfold Instr.box
  exact run_bind _ _ (run_newRow e x.cells)

def aggT (P : Program) (t : TypeId) : Option Bool := (P.underlying t).map fun | .struct _ | .array _ _ => true | _ => false
theorem run_isAgg {t : TypeId} {b : Bool} (h : aggT P t = some b) : (isAgg t).run P w = .ok b w := by
  unfold aggT at h
  obtain ⟨d, hd, rfl⟩ := Option.map_eq_some_iff.1 h
  unfold isAgg
  rw [run_bind _ _ (run_under hd)]
  cases d <;> rfl

theorem run_load {a : Addr} {v : Value} (h : w.cell? a = some v) : (load a).run P w = .ok v w := by
  simp [load, Sem.run, h]
theorem run_loadVar_one {t : TypeId} {a : Addr} {v : Value} (ht : aggT P t = some false) (h : w.cell? a = some v) : (loadVar t a).run P w = .ok v w := by
  unfold loadVar
  rw [run_bind _ _ (run_isAgg ht)]
  exact run_load h
theorem run_loadVar_agg {t : TypeId} {i : TypeInfo} {a : Addr} {cs : List Value} (ht : aggT P t = some true) (hi : P.info? t = some i) (hl : cs.length = i.size) (h : ∀ j v, cs[j]? = some v → w.cell? (a.add j) = some v) :
    (loadVar t a).run P w = .ok (.agg cs.toArray) w := by
  unfold loadVar
  rw [run_bind _ _ (run_isAgg ht)]
  simp only [if_true]
  rw [run_bind _ _ (run_size hi), ← hl, run_bind _ _ (run_loadCells_list w a cs h)]
  rfl
theorem run_storeVar {t : TypeId} {i : TypeInfo} {v : Value} {g o : Nat} {e : TypeId} {cur : Array Value} (hi : P.info? t = some i) (hl : v.cells.size = i.size) (hg : w.heap[g]? = some (.cells cur e (0, 0)))
    (hfit : o + v.cells.size ≤ cur.size) (h1 : ∀ u ∈ v.cells.toList, u.oneCell' = true) :
    (storeVar t ⟨g, o, none⟩ v).run P w = .ok () (w.setRow g (cur.toList.take o ++ v.cells.toList ++ cur.toList.drop (o + v.cells.size)).toArray) := by
  unfold storeVar
  rw [run_bind _ _ (run_size hi)]
  have hs := run_storeCells_at P g o e v.cells.toList 0 cur w hg (by simpa using hfit) h1
  rw [if_neg (by simpa using hl)]
  simpa using hs

/-- A part of the pure evaluation: what needs no memory. -/
def evPure {α : Type} (P : Program) : Sem α → Option α
  | .pure a => some a
  | .program k => evPure P (k P)
  | .mark _ k => evPure P k
  | .choose q k => if q.forced then evPure P (k 0) else none
  | _ => none
theorem evPure_run {α : Type} {s : Sem α} {a : α} (h : evPure P s = some a) : s.run P w = .ok a w := by
  induction s generalizing w with
  | pure b => simp only [evPure, Option.some.injEq] at h; subst h; rfl
  | program k ih => exact ih P h
  | mark m k ih => exact ih h
  | choose q k ih =>
    simp only [evPure] at h
    split at h
    · rename_i hq
      simp only [Sem.run, hq, if_true]
      exact ih 0 h
    · cases h
  | load m a k ih => cases h
  | store m a v k ih => cases h
  | new o k ih => cases h
  | shape r k ih => cases h
  | freeze a n k ih => cases h
  | frozen a k ih => cases h
  | getObj r k ih => cases h
  | setObj r o k ih => cases h
  | sys c k ih => cases h
  | halt x => cases h
theorem evPure_bind {α β : Type} (s : Sem α) (f : α → Sem β) : evPure P (s >>= f) = (evPure P s).bind fun a => evPure P (f a) := by
  show evPure P (s.bind f) = _
  induction s with
  | pure b => rfl
  | program k ih => exact ih P
  | mark m k ih => exact ih
  | choose q k ih =>
    simp only [Sem.bind, evPure]
    split
    · exact ih 0
    · rfl
  | load m a k ih => rfl
  | store m a v k ih => rfl
  | new o k ih => rfl
  | shape r k ih => rfl
  | freeze a n k ih => rfl
  | frozen a k ih => rfl
  | getObj r k ih => rfl
  | setObj r o k ih => rfl
  | sys c k ih => rfl
  | halt x => rfl
theorem evPure_pure {α : Type} (a : α) : evPure P (pure a : Sem α) = some a := rfl

/-! Appending. -/
theorem run_append_in {t u ty e : TypeId} {d : TypeDesc} {i : TypeInfo} {g b n cap : Nat} {cur : Array Value} {x : Value} {m : Nat} {news : List Value}
    (ht : P.underlying t = some (.slice e)) (hi : P.info? e = some i) (hu : P.underlying u = some d) (hd : (∃ e', d = .slice e') ∨ d = .string) (hg : w.heap[g]? = some (.cells cur e (0, 0)))
    (hx : (Builtin.lenOf x).run P w = .ok m w) (hc : (Builtin.firstCells i.size m x).run P w = .ok news.toArray w)
    (hroom : n + m ≤ cap) (hfit : b + n * i.size + news.length ≤ cur.size) (h1 : ∀ u ∈ news, u.oneCell' = true) :
    (Builtin.append_ #[t, u] ty #[.slice (some ⟨g, b, none⟩) n cap, x]).run P w =
      .ok (.slice (some ⟨g, b, none⟩) (n + m) cap) (w.setRow g (cur.toList.take (b + n * i.size) ++ news ++ cur.toList.drop (b + n * i.size + news.length)).toArray) := by
  have hst := run_storeCells_at P g (b + n * i.size) e news 0 cur w hg (by simpa using hfit) h1
  simp only [Nat.add_zero] at hst
  have ha : (⟨g, b, none⟩ : Addr).add (n * i.size) = ⟨g, b + n * i.size, none⟩ := by unfold Addr.add; split <;> simp_all
  generalize hF : Builtin.firstCells i.size m x = F at hc
  rcases hd with ⟨e', rfl⟩ | rfl
  · simp [Builtin.append_, run_underlying ht, run_underlying hu, sizeOf, typeInfo, hi, hx, hroom, hF, hc, ha, hst]
  · simp [Builtin.append_, run_underlying ht, run_underlying hu, sizeOf, typeInfo, hi, hx, hroom, hF, hc, ha, hst]

theorem run_append_new {t u ty e : TypeId} {d : TypeDesc} {i : TypeInfo} {z : Value} {A : Option Addr} {n cap : Nat} {x : Value} {m : Nat} {news olds : List Value}
    (ht : P.underlying t = some (.slice e)) (hi : P.info? e = some i) (hz : i.zero = some z) (hu : P.underlying u = some d) (hd : (∃ e', d = .slice e') ∨ d = .string)
    (hx : (Builtin.lenOf x).run P w = .ok m w) (hc : (Builtin.firstCells i.size m x).run P w.drew = .ok news.toArray w.drew)
    (ho : (Builtin.firstCells i.size n (.slice A n cap)).run P w.drew = .ok olds.toArray w.drew)
    (hroom : ¬ n + m ≤ cap) (h63 : ((n + m : Nat) : Int) ≤ 9223372036854775807) (hby : (n + m) * i.bytes ≤ 140737488355328) :
    (Builtin.append_ #[t, u] ty #[.slice A n cap, x]).run P w =
      .ok (.slice (some ⟨w.heap.size, 0, none⟩) (n + m) (grownCap w (n + m) cap e))
        (w.drew.alloc (.cells (olds.toArray ++ news.toArray ++ Builtin.zeroCells z.cells (grownCap w (n + m) cap e - (n + m))) e)) := by
  have hf : Builtin.nextslicecap (n + m) cap * i.bytes ≤ 281474976710656 := growslice_fits (by omega) hby
  have h63' : ¬ (9223372036854775807 < ((n : Int) + (m : Int))) := by omega
  have h48' : ¬ (281474976710656 < Builtin.nextslicecap (n + m) cap * i.bytes) := by omega
  generalize hF : Builtin.firstCells i.size m x = F at hc
  generalize hG : Builtin.firstCells i.size n (.slice A n cap) = G at ho
  rcases hd with ⟨e', rfl⟩ | rfl
  · simp [Builtin.append_, run_underlying ht, run_underlying hu, sizeOf, typeInfo, zeroValue, hi, hz, hx, hroom, h63', h48', Question.forced, hF, hc, hG, ho, newRow, grownCap]
    congr 2
    apply Array.ext'
    simp [List.append_assoc]
  · simp [Builtin.append_, run_underlying ht, run_underlying hu, sizeOf, typeInfo, zeroValue, hi, hz, hx, hroom, h63', h48', Question.forced, hF, hc, hG, ho, newRow, grownCap]
    congr 2
    apply Array.ext'
    simp [List.append_assoc]

/-! Rows as they lie, and what writing does to them. -/
def CurRel (w : World) (L : Nat → Prop) (μ : Map) (cur : Array Value) (b sz : Nat) (els : List (List AV)) : Prop :=
  ∀ i e j x, els[i]? = some e → e[j]? = some x → ∃ u, cur[b + i * sz + j]? = some u ∧ u.oneCell' = true ∧ VRel w L μ u x

def spl (e : List AV) (o : Nat) (vs : List AV) : List AV := e.take o ++ vs ++ e.drop (o + vs.length)

theorem length_spl {e : List AV} {o : Nat} {vs : List AV} (h : o + vs.length ≤ e.length) : (spl e o vs).length = e.length := by
  simp only [spl, List.length_append, List.length_take, List.length_drop]; omega

theorem get_seg {α : Type} (l : List α) (o : Nat) (us : List α) (h : o + us.length ≤ l.length) (k : Nat) :
    (l.take o ++ us ++ l.drop (o + us.length))[k]? = if k < o then l[k]? else if k < o + us.length then us[k - o]? else l[k]? := by
  have hl : (l.take o).length = o := by rw [List.length_take]; omega
  by_cases h1 : k < o
  · rw [if_pos h1, List.append_assoc, List.getElem?_append_left (by omega), List.getElem?_take, if_pos h1]
  · rw [if_neg h1]
    by_cases h2 : k < o + us.length
    · rw [if_pos h2, List.append_assoc, List.getElem?_append_right (by omega), hl, List.getElem?_append_left (by omega)]
    · rw [if_neg h2, List.getElem?_append_right (by simp; omega), List.getElem?_drop]
      congr 1
      simp only [List.length_append, hl]
      omega

theorem mul_lt_lem {i i' sz : Nat} (h : i < i') : i * sz + sz ≤ i' * sz := by
  have := Nat.mul_le_mul_right sz (show i + 1 ≤ i' by omega)
  rw [Nat.add_mul, Nat.one_mul] at this
  exact this

/-- A part of one element is written. -/
theorem CurRel.write {w : World} {L : Nat → Prop} {μ : Map} {cur : Array Value} {b sz : Nat} {els : List (List AV)} (h : CurRel w L μ cur b sz els) (hs : ∀ e ∈ els, e.length = sz)
    {i : Nat} {e : List AV} (he : els[i]? = some e) {o : Nat} {us : List Value} {vs : List AV} (hv : Rels w L μ us vs) (h1 : ∀ x ∈ vs, x.one = true) (hfit : o + vs.length ≤ sz) (hcap : b + els.length * sz ≤ cur.size) :
    CurRel w L μ (cur.toList.take (b + i * sz + o) ++ us ++ cur.toList.drop (b + i * sz + o + us.length)).toArray b sz (els.set i (spl e o vs)) := by
  intro i' e' j x he' hx
  have hi : i < els.length := (List.getElem?_eq_some_iff.1 he).1
  have hle : e.length = sz := hs e (List.mem_of_getElem? he)
  have hil := mul_lt_lem (sz := sz) hi
  have hul : us.length = vs.length := hv.1
  rw [List.getElem?_toArray, get_seg _ _ _ (by simp; omega)]
  by_cases hii : i' = i
  · subst hii
    rw [List.getElem?_set_self hi] at he'
    obtain rfl := Option.some.inj he'
    unfold spl at hx
    rw [get_seg _ _ _ (by omega)] at hx
    have hjl : j < sz := by
      by_cases hj : j < o
      · omega
      · rw [if_neg hj] at hx
        by_cases hj2 : j < o + vs.length
        · omega
        · rw [if_neg hj2] at hx
          have := (List.getElem?_eq_some_iff.1 hx).1
          omega
    by_cases hj : j < o
    · rw [if_pos hj] at hx
      rw [if_pos (by omega)]
      obtain ⟨u, hu, hr⟩ := h i' e j x he hx
      exact ⟨u, by simpa using hu, hr⟩
    · rw [if_neg hj] at hx
      rw [if_neg (by omega)]
      by_cases hj2 : j < o + vs.length
      · rw [if_pos hj2] at hx
        rw [if_pos (by omega)]
        obtain ⟨u, hu, hr⟩ := hv.2 (j - o) x hx
        refine ⟨u, ?_, hr.one (h1 x (List.mem_of_getElem? hx)), hr⟩
        rw [← hu]; congr 1; omega
      · rw [if_neg hj2] at hx
        rw [if_neg (by omega)]
        obtain ⟨u, hu, hr⟩ := h i' e j x he hx
        exact ⟨u, by simpa using hu, hr⟩
  · rw [List.getElem?_set_ne (by omega)] at he'
    obtain ⟨u, hu, hr⟩ := h i' e' j x he' hx
    have hjl : j < sz := by
      have h1 := (List.getElem?_eq_some_iff.1 hx).1
      have h2 := hs e' (List.mem_of_getElem? he')
      omega
    refine ⟨u, ?_, hr⟩
    rcases Nat.lt_or_gt_of_ne hii with hlt | hlt
    · have := mul_lt_lem (sz := sz) hlt
      rw [if_pos (by omega)]; simpa using hu
    · have := mul_lt_lem (sz := sz) hlt
      rw [if_neg (by omega), if_neg (by omega)]; simpa using hu

/-- Elements are written from element n on, over what stood there or behind it. -/
theorem CurRel.over {w : World} {L : Nat → Prop} {μ : Map} {cur : Array Value} {b sz : Nat} {els : List (List AV)} (h : CurRel w L μ cur b sz els) (hs : ∀ e ∈ els, e.length = sz)
    {n : Nat} (hn : n ≤ els.length) {us : List Value} {news : List (List AV)} (hns : ∀ e ∈ news, e.length = sz) (hul : us.length = news.length * sz)
    (hv : ∀ i e j x, news[i]? = some e → e[j]? = some x → ∃ u, us[i * sz + j]? = some u ∧ u.oneCell' = true ∧ VRel w L μ u x)
    (hcap : b + n * sz + us.length ≤ cur.size) :
    CurRel w L μ (cur.toList.take (b + n * sz) ++ us ++ cur.toList.drop (b + n * sz + us.length)).toArray b sz (els.take n ++ news ++ els.drop (n + news.length)) := by
  intro i e j x he hx
  rw [List.getElem?_toArray, get_seg _ _ _ (by simpa using hcap)]
  have key : ∀ k, (els.take n ++ news ++ els.drop (n + news.length))[k]? = if k < n then els[k]? else if k < n + news.length then news[k - n]? else els[k]? := by
    intro k
    have hl : (els.take n).length = n := by rw [List.length_take]; omega
    by_cases h1 : k < n
    · rw [if_pos h1, List.append_assoc, List.getElem?_append_left (by omega), List.getElem?_take, if_pos h1]
    · rw [if_neg h1]
      by_cases h2 : k < n + news.length
      · rw [if_pos h2, List.append_assoc, List.getElem?_append_right (by omega), hl, List.getElem?_append_left (by omega)]
      · rw [if_neg h2, List.getElem?_append_right (by simp; omega), List.getElem?_drop]
        congr 1
        simp only [List.length_append, hl]
        omega
  rw [key] at he
  by_cases h1 : i < n
  · rw [if_pos h1] at he
    have hjl : j < sz := by
      have q1 := (List.getElem?_eq_some_iff.1 hx).1
      have q2 := hs e (List.mem_of_getElem? he)
      omega
    have := mul_lt_lem (sz := sz) h1
    obtain ⟨u, hu, hr⟩ := h i e j x he hx
    rw [if_pos (by omega)]
    exact ⟨u, by simpa using hu, hr⟩
  · rw [if_neg h1] at he
    have hge : n * sz ≤ i * sz := Nat.mul_le_mul_right sz (by omega)
    rw [if_neg (by omega)]
    by_cases h2 : i < n + news.length
    · rw [if_pos h2] at he
      have hjl : j < sz := by
        have q1 := (List.getElem?_eq_some_iff.1 hx).1
        have q2 := hns e (List.mem_of_getElem? he)
        omega
      have q3 := mul_lt_lem (sz := sz) (show i - n < news.length by omega)
      have q4 : i * sz = n * sz + (i - n) * sz := by rw [← Nat.add_mul]; congr 1; omega
      rw [if_pos (by omega)]
      obtain ⟨u, hu, hr⟩ := hv (i - n) e j x he hx
      refine ⟨u, ?_, hr⟩
      rw [← hu]; congr 1; omega
    · rw [if_neg h2] at he
      have hge : (n + news.length) * sz ≤ i * sz := Nat.mul_le_mul_right sz (by omega)
      rw [Nat.add_mul] at hge
      rw [if_neg (by omega)]
      obtain ⟨u, hu, hr⟩ := h i e j x he hx
      exact ⟨u, by simpa using hu, hr⟩

theorem run_indexAt_slice {t e : TypeId} {i : TypeInfo} {a : Addr} {n cap : Nat} {k : IntKind} {ix : Int} (ht : P.underlying t = some (.slice e)) (hi : P.info? e = some i) (h0 : 0 ≤ ix) (h1 : ix < n) :
    (Instr.indexAt t (.slice (some a) n cap) (.int k ix)).run P w = .ok (.pointer (some (a.add (ix.toNat * i.size)))) w := by
  simp [Instr.indexAt, asIntOf, run_underlying ht, h0, h1, sizeOf, typeInfo, hi]
theorem run_indexAt_array {t e : TypeId} {len : Nat} {i : TypeInfo} {a : Addr} {k : IntKind} {ix : Int} (ht : P.underlying t = some (.array len e)) (hi : P.info? e = some i) (h0 : 0 ≤ ix) (h1 : ix < len) :
    (Instr.indexAt t (.pointer (some a)) (.int k ix)).run P w = .ok (.pointer (some (a.add (ix.toNat * i.size)))) w := by
  simp [Instr.indexAt, asIntOf, run_underlying ht, h0, h1, sizeOf, typeInfo, hi, Instr.sureAddr]
theorem run_fieldAt {s : TypeId} {fs : Array Field} {f : Nat} {fd : Field} {i : TypeInfo} {a : Addr} (hs : P.underlying s = some (.struct fs)) (hf : fs[f]? = some fd) (hi : P.info? fd.type = some i) (hz : i.size ≠ 0) :
    (Instr.fieldAt s (.pointer (some a)) f).run P w = .ok (.pointer (some (a.add fd.offset))) w := by
  simp [Instr.fieldAt, run_underlying hs, hf, Instr.sureAddr, fieldPlace, sizeOf, typeInfo, hi, hz]
end Go.Proofs.Ytnceadbfgpiaaaa.G
