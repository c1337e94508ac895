/- The abstract machine's appending and copying, and that the model's own operations do just this. Plain theorems over any program. -/
import Derived.Test.YtnceadbfgpiaaaaG7
namespace Go.Proofs.Ytnceadbfgpiaaaa.G
set_option linter.unusedVariables false
set_option linter.unusedSimpArgs false
open Go
variable {P : Program} {w w' : World} {L L' : Nat → Prop} {μ μ' : Map} {T T' : Table}

/-- May a source be read for elements of so many cells? -/
def srcFit (P : Program) (T : Table) (sz : Nat) : AV → Bool
  | .flat (.string _) => sz == 1
  | .sl id _ _ => match T id with
    | some r => P.cellsOf r.elem == sz
    | none => false
  | _ => true

theorem srcFit_str {sz : Nat} {x : AV} (h : srcFit P T sz x = true) : ∀ s, x = .flat (.string s) → sz = 1 := by
  rintro s rfl
  simpa [srcFit] using h
theorem srcFit_own {sz : Nat} {x : AV} (h : srcFit P T sz x = true) : ∀ id off n r, x = .sl id off n → T id = some r → P.cellsOf r.elem = sz := by
  rintro id off n r rfl hr
  simpa [srcFit, hr] using h

/-- The row that is written on, from the slice on: its elements behind the slice's first one, how many the slice has. -/
def baseEls (T : Table) : AV → Option (List (List AV))
  | .flat (.slice none 0 0) => some []
  | .sl id off n => (T id).bind fun r => if off + n = r.els.length then some (r.els.drop off) else none
  | _ => none
def baseId : AV → Option Nat
  | .sl id _ _ => some id
  | _ => none

def srcT : TypeDesc → Bool
  | .slice _ | .string => true
  | _ => false
theorem srcT_or {d : TypeDesc} (h : srcT d = true) : (∃ e', d = .slice e') ∨ d = .string := by
  cases d <;> first | exact .inl ⟨_, rfl⟩ | exact .inr rfl | cases h

/-- 'append' behind a row's end: the row has a new name. Ahead of the end: in place. -/
def evApp0 (P : Program) (T : Table) (id : Nat) (t u : TypeId) (s x : AV) : Option (AV × Table) :=
  match P.underlying t, P.underlying u with
  | some (.slice e), some du =>
    match tinfo P e with
    | some (some z, sz, by_) =>
      if 0 < sz ∧ srcT du = true ∧ srcFit P T sz x = true ∧ z.cells.size = sz then
        (srcEls T x).bind fun news =>
          if ∀ c ∈ news, c.length = sz then
            match s with
            | .flat (.slice none 0 0) =>
              if news.length * by_ ≤ 140737488355328 ∧ news.length ≤ maxLen then some (.sl id 0 news.length, T.set id (some ⟨e, news⟩)) else none
            | .sl id0 off n => (T id0).bind fun r =>
              if r.elem = e ∧ off + n = r.els.length then
                if (n + news.length) * by_ ≤ 140737488355328 ∧ n + news.length ≤ maxLen then some (.sl id 0 (n + news.length), (T.set id0 none).set id (some ⟨e, r.els.drop off ++ news⟩)) else none
              else if r.elem = e ∧ off + n + news.length ≤ r.els.length then
                some (.sl id0 off (n + news.length), T.set id0 (some ⟨e, r.els.take (off + n) ++ news ++ r.els.drop (off + n + news.length)⟩))
              else none
            | _ => none
          else none
      else none
    | _ => none
  | _, _ => none

theorem ext_drew (hT : TRel P w L μ T) : True := trivial

theorem zeros_len (z : Array Value) (n : Nat) : (Builtin.zeroCells z n).size = n * z.size := by simp [Builtin.zeroCells]

/-- A new row of the old elements and the new ones. -/
theorem grown_gives (hT : TRel P w L μ T) {id : Nat} (hid : μ id = none) {e : TypeId} {z : Value} {sz : Nat} (hszT : sz = P.cellsOf e) (hz : z.cells.size = sz) {us : List Value} {all : List (List AV)} {n : Nat} (hn : all.length = n) (hs : ∀ c ∈ all, c.length = sz)
    (hul : us.length = n * sz) (hv : ∀ i e j x, all[i]? = some e → e[j]? = some x → ∃ u, us[i * sz + j]? = some u ∧ u.oneCell' = true ∧ VRel w L μ u x) {cap : Nat} (hcap : n ≤ cap) (hcm : cap ≤ maxLen)
    {w1 : World} (hh : w1.heap = w.heap) (ho : w1.os = w.os) (ht : w1.tape = w.tape) (hu : w1.output = w.output) {cur : Array Value} (hcur : cur.toList = us ++ (Builtin.zeroCells z.cells (cap - n)).toList) :
    Ext w L μ T (w1.alloc (.cells cur e)) (newL w L) (μ.set id (some ⟨w.heap.size, 0, cap, sz⟩)) (T.set id (some ⟨e, all⟩)) ∧ TRel P (w1.alloc (.cells cur e)) (newL w L) (μ.set id (some ⟨w.heap.size, 0, cap, sz⟩)) (T.set id (some ⟨e, all⟩)) := by
  have hcs : cur.size = cap * sz := by
    rw [← Array.length_toList, hcur, List.length_append, hul, Array.length_toList, zeros_len, hz, ← Nat.add_mul]
    congr 1; omega
  refine alloc_core hT hid hh ho ht hu cur e cap sz all hcs ?_ (by omega) hs hszT hcm
  intro i c j x hc hx
  obtain ⟨u, hu, h1, hr⟩ := hv i c j x hc hx
  refine ⟨u, ?_, h1, hr⟩
  have hlt := (List.getElem?_eq_some_iff.1 hu).1
  rw [← Array.getElem?_toList, hcur, Nat.zero_add, List.getElem?_append_left hlt]
  exact hu

theorem evApp0_gives (hT : TRel P w L μ T) {id : Nat} (hid : μ id = none) {t u ty : TypeId} {v vx : Value} {s x y : AV} (hs : VRel w L μ v s) (hx : VRel w L μ vx x) (h : evApp0 P T id t u s x = some (y, T')) :
    Gives P w L μ T id (Builtin.append_ #[t, u] ty #[v, vx]) y T' := by
  unfold evApp0 at h
  split at h
  · rename_i e du ht hu
    split at h
    · rename_i z sz b hti
      obtain ⟨i, hi, hz, hsz, hb, hcs⟩ := tinfo_some hti
      split at h
      · rename_i hc0
        obtain ⟨hsz0, hd0, hfit, hzs⟩ := hc0
        have hd := srcT_or hd0
        obtain ⟨news, hnews, h⟩ := Option.bind_eq_some_iff.1 h
        split at h
        · rename_i hall
          obtain ⟨hlen, hsrc⟩ := srcEls_sound hT hx hnews hall hsz0 (srcFit_str hfit) (srcFit_own hfit)
          obtain ⟨us, hus, husl, husv⟩ := hsrc news.length (Nat.le_refl _)
          have h1us : ∀ q ∈ us, q.oneCell' = true := by
            intro q hq
            obtain ⟨k, hk, rfl⟩ := List.mem_iff_getElem.1 hq
            have hk2 : k / sz < news.length := Nat.div_lt_of_lt_mul (by rw [Nat.mul_comm, ← husl]; exact hk)
            have hk3 : k % sz < sz := Nat.mod_lt _ hsz0
            have hcl := hall news[k / sz] (List.getElem_mem _)
            obtain ⟨q, hq, h1, _⟩ := husv (k / sz) news[k / sz] (k % sz) (news[k / sz][k % sz]'(by omega)) hk2 (List.getElem?_eq_getElem hk2) (List.getElem?_eq_getElem (by omega))
            rw [Nat.mul_comm, Nat.div_add_mod, List.getElem?_eq_getElem hk] at hq
            obtain rfl := Option.some.inj hq
            exact h1
          split at h
          · -- onto nil
            split at h
            · rename_i hbnd
              simp only [Option.some.injEq, Prod.mk.injEq] at h
              obtain ⟨rfl, rfl⟩ := h
              cases hs with
              | flat v _ =>
                by_cases hm : news.length = 0
                · have hn0 : news = [] := List.eq_nil_of_length_eq_zero hm
                  subst hn0
                  have hu0 : us = [] := List.eq_nil_of_length_eq_zero (by simpa using husl)
                  subst hu0
                  refine ⟨.slice none 0 0, w, L, μ.set id none, ?_, ?_, ?_, .sl map_set_self ⟨rfl, rfl, rfl⟩, fun i hi => map_set_ne hi⟩
                  · generalize hF : Builtin.firstCells i.size 0 vx = F
                    have hc1 := hus w rfl
                    rw [← hsz] at hc1
                    simp only [List.length_nil] at hc1 hlen
                    rw [hF] at hc1
                    rcases hd with ⟨e', rfl⟩ | rfl
                    · simp [Builtin.append_, run_underlying ht, run_underlying hu, sizeOf, typeInfo, hi, hlen, hF, hc1]
                    · simp [Builtin.append_, run_underlying ht, run_underlying hu, sizeOf, typeInfo, hi, hlen, hF, hc1]
                  · have hnc := (nil_core (P := P) hT (id := id) hid e).1
                    have e0 : (T.set id none).set id (some ⟨e, []⟩) = T.set id (some ⟨e, []⟩) := by funext k; simp only [Table.set]; split <;> rfl
                    rwa [e0] at hnc
                  · have hnc := (nil_core (P := P) hT (id := id) hid e).2
                    have e0 : (T.set id none).set id (some ⟨e, []⟩) = T.set id (some ⟨e, []⟩) := by funext k; simp only [Table.set]; split <;> rfl
                    rwa [e0] at hnc
                · have hrun := run_append_new (P := P) (w := w) (ty := ty) (A := none) (n := 0) (cap := 0) (olds := []) ht hi hz hu hd hlen (by rw [hsz]; exact hus w.drew rfl) rfl (by omega) (by have := hbnd.2; simp only [maxLen] at this; omega) (by rw [hb]; simpa using hbnd.1)
                  have hge := grownCap_ge w (0 + news.length) 0 e
                  have hgm := grownCap_le_maxLen w (0 + news.length) 0 e (by simpa using hbnd.2)
                  obtain ⟨q1, q2⟩ := grown_gives (w1 := w.drew) hT hid (e := e) (z := z) hcs.symm hzs (us := us) (all := news) rfl hall husl (fun i c j x hc hx => husv i c j x (List.getElem?_eq_some_iff.1 hc).1 hc hx) (cap := grownCap w (0 + news.length) 0 e) (by omega) hgm rfl rfl rfl rfl
                    (cur := #[] ++ us.toArray ++ Builtin.zeroCells z.cells (grownCap w (0 + news.length) 0 e - (0 + news.length))) (by simp)
                  refine ⟨_, _, _, _, hrun, q1, q2, ?_, fun i hi => map_set_ne hi⟩
                  exact .sl map_set_self ⟨by simp only; omega, some ⟨w.heap.size, 0, none⟩, by simp, fun _ => by simp⟩
            · cases h
          · -- onto a row
            rename_i id0 off n hcopy
            obtain ⟨r, hr, h⟩ := Option.bind_eq_some_iff.1 h
            cases hs with
            | @sl _ _ _ _ _ q hq hok =>
              split at h
              · rename_i hcnd
                obtain ⟨rfl, htip⟩ := hcnd
                split at h
                · rename_i hbnd
                  simp only [Option.some.injEq, Prod.mk.injEq] at h
                  obtain ⟨rfl, rfl⟩ := h
                  cases q with
                  | none =>
                    obtain ⟨rfl, rfl, rfl⟩ := hok
                    have hnil : r.els = [] := List.eq_nil_of_length_eq_zero htip.symm
                    by_cases hm : news.length = 0
                    · have hn0 : news = [] := List.eq_nil_of_length_eq_zero hm
                      subst hn0
                      have hu0 : us = [] := List.eq_nil_of_length_eq_zero (by simpa using husl)
                      subst hu0
                      refine ⟨.slice none 0 0, w, L, μ.set id none, ?_, ?_, ?_, .sl map_set_self ⟨rfl, rfl, rfl⟩, fun i hi => map_set_ne hi⟩
                      · generalize hF : Builtin.firstCells i.size 0 vx = F
                        have hc1 := hus w rfl
                        rw [← hsz] at hc1
                        simp only [List.length_nil] at hc1 hlen
                        rw [hF] at hc1
                        rcases hd with ⟨e', rfl⟩ | rfl
                        · simp [Builtin.append_, run_underlying ht, run_underlying hu, sizeOf, typeInfo, hi, hlen, hF, hc1]
                        · simp [Builtin.append_, run_underlying ht, run_underlying hu, sizeOf, typeInfo, hi, hlen, hF, hc1]
                      · have hnc := (nil_core (P := P) hT (id := id0) (id' := id) hid r.elem).1
                        simpa [hnil] using hnc
                      · have hnc := (nil_core (P := P) hT (id := id0) (id' := id) hid r.elem).2
                        simpa [hnil] using hnc
                    · have hrun := run_append_new (P := P) (w := w) (ty := ty) (A := none) (n := 0) (cap := 0) (olds := []) ht hi hz hu hd hlen (by rw [hsz]; exact hus w.drew rfl) rfl (by omega) (by have := hbnd.2; simp only [maxLen] at this; omega) (by rw [hb]; simpa using hbnd.1)
                      have hge := grownCap_ge w (0 + news.length) 0 r.elem
                      have hgm := grownCap_le_maxLen w (0 + news.length) 0 r.elem (by simpa using hbnd.2)
                      have hdrop := drop_core hT id0
                      obtain ⟨q1, q2⟩ := grown_gives (w1 := w.drew) hdrop.2 hid (e := r.elem) (z := z) hcs.symm hzs (us := us) (all := news) rfl hall husl (fun i c j x hc hx => husv i c j x (List.getElem?_eq_some_iff.1 hc).1 hc hx) (cap := grownCap w (0 + news.length) 0 r.elem) (by omega) hgm rfl rfl rfl rfl
                        (cur := #[] ++ us.toArray ++ Builtin.zeroCells z.cells (grownCap w (0 + news.length) 0 r.elem - (0 + news.length))) (by simp)
                      have e0 : r.els.drop 0 ++ news = news := by simp [hnil]
                      rw [e0]
                      refine ⟨_, _, _, _, hrun, hdrop.1.trans q1, q2, ?_, fun i hi => map_set_ne hi⟩
                      exact .sl map_set_self ⟨by simp only; omega, some ⟨w.heap.size, 0, none⟩, by simp, fun _ => by simp⟩
                  | some p =>
                    obtain ⟨hle, A, rfl, hA⟩ := hok
                    have hrow := hT.cell hr hq
                    obtain ⟨cur, hg, hcsz, hcr⟩ := hrow.cur
                    have hrlen := hrow.len
                    have hpsz : p.sz = sz := by rw [hrow.szT, hcs]
                    have hdl : (r.els.drop off).length = n := by simp; omega
                    by_cases hroom : n + news.length ≤ p.cap - off
                    · -- in place
                      have hlast : (p.b + p.cap * p.sz) = p.b + off * p.sz + (p.cap - off) * p.sz := by
                        rw [Nat.add_assoc, ← Nat.add_mul]; congr 2; omega
                      have hmul : (n + news.length) * p.sz ≤ (p.cap - off) * p.sz := Nat.mul_le_mul_right _ hroom
                      have hmul2 : (n + news.length) * p.sz = n * p.sz + news.length * p.sz := Nat.add_mul _ _ _
                      rw [← hpsz] at husl
                      have hcr' : CurRel w L μ cur (p.b + off * p.sz) p.sz (r.els.drop off) := by
                        intro i c j x hc hx
                        rw [List.getElem?_drop] at hc
                        obtain ⟨u, hu, h1, hr⟩ := hcr (off + i) c j x hc hx
                        refine ⟨u, ?_, h1, hr⟩
                        rw [← hu]; congr 1; rw [Nat.add_mul]; omega
                      have hsd : ∀ c ∈ r.els.drop off, c.length = p.sz := fun c hc => hrow.sz c (List.mem_of_mem_drop hc)
                      have hov := hcr'.over hsd (n := n) (by omega) (us := us) (news := news) (by rw [hpsz]; exact hall) husl
                        (by rw [hpsz]; exact fun i c j x hc hx => husv i c j x (List.getElem?_eq_some_iff.1 hc).1 hc hx) (by omega)
                      have ee : (r.els.drop off).take n ++ news ++ (r.els.drop off).drop (n + news.length) = r.els.drop off ++ news := by
                        have hd2 : (r.els.drop off).drop (n + news.length) = [] := List.drop_of_length_le (by omega)
                        have hd3 : (r.els.drop off).take n = r.els.drop off := List.take_of_length_le (by omega)
                        rw [hd2, hd3, List.append_nil]
                      rw [ee] at hov
                      have hcap0 : off < p.cap ∨ (n = 0 ∧ news.length = 0) := by omega
                      rcases Nat.lt_or_ge off p.cap with hlt | hge
                      · have hA' := hA hlt
                        subst hA'
                        have hrun := run_append_in (P := P) (w := w) (ty := ty) (n := n) (b := p.b + off * p.sz) (cap := p.cap - off) ht hi hu hd hg hlen (by rw [hsz]; exact hus w rfl) hroom (by rw [hsz, ← hpsz]; omega) h1us
                        rw [hsz, ← hpsz] at hrun
                        obtain ⟨q1, q2⟩ := move_core hT hid hr hq hg (p' := ⟨p.g, p.b + off * p.sz, p.cap - off, p.sz⟩) rfl (by simp only; simp; omega) hrow.szT (by have := hrow.cap; simp only; omega) (els := r.els.drop off ++ news) hov (by simp only; simp; omega) (by
                          intro c hc
                          rcases List.mem_append.1 hc with h | h
                          · exact hsd c h
                          · rw [hpsz]; exact hall c h)
                        refine ⟨_, _, _, _, hrun, q1, q2, ?_, fun i hi => map_set_ne hi⟩
                        exact .sl map_set_self ⟨by simp only; omega, some ⟨p.g, p.b + off * p.sz, none⟩, by simp, fun _ => by simp⟩
                      · -- nothing is appended, no room is left
                        have hn0 : n = 0 := by omega
                        have hm0 : news.length = 0 := by omega
                        subst hn0
                        have hnn : news = [] := List.eq_nil_of_length_eq_zero hm0
                        subst hnn
                        have hu0 : us = [] := List.eq_nil_of_length_eq_zero (by simpa using husl)
                        subst hu0
                        have hc0 : p.cap - off = 0 := by omega
                        have hd0 : r.els.drop off ++ [] = [] := by
                          rw [List.append_nil]; exact List.drop_of_length_le (by omega)
                        have hsame : w.setRow p.g cur = w := setRow_self w p.g cur r.elem (0, 0) hg
                        obtain ⟨q1, q2⟩ := move_core hT hid hr hq hg (cur' := cur) (p' := ⟨p.g, p.b + off * p.sz, p.cap - off, p.sz⟩) rfl (by simp only; omega) hrow.szT (by have := hrow.cap; simp only; omega) (els := r.els.drop off ++ []) (by
                          rw [hd0]; intro i c j x hc; simp at hc) (by rw [hd0]; simp) (by rw [hd0]; simp)
                        rw [hsame] at q1 q2
                        refine ⟨.slice A 0 0, w, _, _, ?_, q1, q2, .sl map_set_self ⟨by simp, A, by simp [hc0], fun h => by simp only at h; omega⟩, fun i hi => map_set_ne hi⟩
                        rw [hc0]
                        generalize hF : Builtin.firstCells i.size 0 vx = F
                        have hc1 := hus w rfl
                        rw [← hsz] at hc1
                        simp only [List.length_nil] at hc1 hlen
                        rw [hF] at hc1
                        cases A with
                        | none =>
                          rcases hd with ⟨e', rfl⟩ | rfl
                          · simp [Builtin.append_, run_underlying ht, run_underlying hu, sizeOf, typeInfo, hi, hlen, hF, hc1]
                          · simp [Builtin.append_, run_underlying ht, run_underlying hu, sizeOf, typeInfo, hi, hlen, hF, hc1]
                        | some a =>
                          rcases hd with ⟨e', rfl⟩ | rfl
                          · simp [Builtin.append_, run_underlying ht, run_underlying hu, sizeOf, typeInfo, hi, hlen, hF, hc1, storeCells]
                          · simp [Builtin.append_, run_underlying ht, run_underlying hu, sizeOf, typeInfo, hi, hlen, hF, hc1, storeCells]
                    · -- a new row
                      have hslv : VRel w L μ (.slice A n (p.cap - off)) (.sl id0 off n) := .sl hq ⟨hle, A, rfl, hA⟩
                      have hse : srcEls T (.sl id0 off n) = some ((r.els.drop off).take n) := by
                        simp only [srcEls, hr, Option.bind_some]
                        rw [if_pos (by omega)]
                      have hall2 : ∀ c ∈ (r.els.drop off).take n, c.length = sz := fun c hc => by rw [← hpsz]; exact hrow.sz c (List.mem_of_mem_drop (List.mem_of_mem_take hc))
                      obtain ⟨_, hold⟩ := srcEls_sound hT hslv hse hall2 hsz0 (fun s h => by cases h) (fun id1 off1 n1 r1 h hr1 => by
                        injection h with h1 h2 h3
                        subst h1
                        rw [hr] at hr1
                        obtain rfl := Option.some.inj hr1
                        exact hcs)
                      have htk : (r.els.drop off).take n = r.els.drop off := List.take_of_length_le (by omega)
                      rw [htk] at hold
                      obtain ⟨os, hos, hosl, hosv⟩ := hold n (by omega)
                      have hrun := run_append_new (P := P) (w := w) (ty := ty) (A := A) (n := n) (cap := p.cap - off) (olds := os) ht hi hz hu hd hlen (by rw [hsz]; exact hus w.drew rfl) (by rw [hsz]; exact hos w.drew rfl) hroom (by have := hbnd.2; simp only [maxLen] at this; omega) (by rw [hb]; exact hbnd.1)
                      have hge := grownCap_ge w (n + news.length) (p.cap - off) r.elem
                      have hgm := grownCap_le_maxLen w (n + news.length) (p.cap - off) r.elem hbnd.2
                      have hdrop := drop_core hT id0
                      obtain ⟨q1, q2⟩ := grown_gives (w1 := w.drew) hdrop.2 hid (e := r.elem) (z := z) hcs.symm hzs (us := os ++ us) (all := r.els.drop off ++ news) (n := n + news.length) (by rw [List.length_append, hdl]) (by
                          intro c hc
                          rcases List.mem_append.1 hc with h | h
                          · rw [← hpsz]; exact hrow.sz c (List.mem_of_mem_drop h)
                          · exact hall c h) (by rw [List.length_append, hosl, husl, Nat.add_mul]) (fun i c j x hc hx => by
                          by_cases hin : i < n
                          · rw [List.getElem?_append_left (by omega)] at hc
                            obtain ⟨u, hu, hr⟩ := hosv i c j x hin hc hx
                            refine ⟨u, ?_, hr⟩
                            rw [List.getElem?_append_left (List.getElem?_eq_some_iff.1 hu).1]; exact hu
                          · rw [List.getElem?_append_right (by omega), hdl] at hc
                            obtain ⟨u, hu, hr⟩ := husv (i - n) c j x (List.getElem?_eq_some_iff.1 hc).1 hc hx
                            refine ⟨u, ?_, hr⟩
                            have e1 : i * sz = n * sz + (i - n) * sz := by rw [← Nat.add_mul]; congr 1; omega
                            rw [List.getElem?_append_right (by omega), hosl, ← hu]
                            congr 1; omega) (cap := grownCap w (n + news.length) (p.cap - off) r.elem) hge hgm rfl rfl rfl rfl
                        (cur := os.toArray ++ us.toArray ++ Builtin.zeroCells z.cells (grownCap w (n + news.length) (p.cap - off) r.elem - (n + news.length))) (by simp)
                      refine ⟨_, _, _, _, hrun, hdrop.1.trans q1, q2, ?_, fun i hi => map_set_ne hi⟩
                      exact .sl map_set_self ⟨by simp only; omega, some ⟨w.heap.size, 0, none⟩, by simp, fun _ => by simp⟩
                · cases h
              · split at h
                · rename_i hnt hcnd
                  obtain ⟨rfl, hin⟩ := hcnd
                  simp only [Option.some.injEq, Prod.mk.injEq] at h
                  obtain ⟨rfl, rfl⟩ := h
                  cases q with
                  | none =>
                    obtain ⟨rfl, rfl, rfl⟩ := hok
                    have hnil : r.els = [] := by
                      obtain ⟨q, hq', _, hn⟩ := hT.row id0 r hr
                      rw [hq] at hq'
                      exact hn (Option.some.inj hq').symm
                    exact absurd ⟨rfl, by simp [hnil]⟩ hnt
                  | some p =>
                    obtain ⟨hle, A, rfl, hA⟩ := hok
                    have hrow := hT.cell hr hq
                    obtain ⟨cur, hg, hcsz, hcr⟩ := hrow.cur
                    have hrlen := hrow.len
                    have hpsz : p.sz = sz := by rw [hrow.szT, hcs]
                    have hoff : off < p.cap := by
                      rcases Nat.lt_or_ge off p.cap with h | h
                      · exact h
                      · exact absurd ⟨rfl, by omega⟩ hnt
                    have hA' := hA hoff
                    subst hA'
                    rw [← hpsz] at husl
                    have hmul : (off + n + news.length) * p.sz ≤ p.cap * p.sz := Nat.mul_le_mul_right _ (by omega)
                    have hmul2 : (off + n + news.length) * p.sz = off * p.sz + n * p.sz + news.length * p.sz := by rw [Nat.add_mul, Nat.add_mul]
                    have hcr' : CurRel w L μ cur p.b p.sz r.els := hcr
                    have hov := hcr'.over hrow.sz (n := off + n) (by omega) (us := us) (news := news) (by rw [hpsz]; exact hall) husl
                      (by rw [hpsz]; exact fun i c j x hc hx => husv i c j x (List.getElem?_eq_some_iff.1 hc).1 hc hx) (by rw [Nat.add_mul]; omega)
                    have hrun := run_append_in (P := P) (w := w) (ty := ty) (n := n) (b := p.b + off * p.sz) (cap := p.cap - off) ht hi hu hd hg hlen (by rw [hsz]; exact hus w rfl) (by omega) (by rw [hsz, ← hpsz]; omega) h1us
                    rw [hsz, ← hpsz] at hrun
                    have e1 : p.b + off * p.sz + n * p.sz = p.b + (off + n) * p.sz := by rw [Nat.add_mul]; omega
                    rw [e1] at hrun
                    obtain ⟨q1, q2⟩ := store_core hT hr hq hg (cur' := (cur.toList.take (p.b + (off + n) * p.sz) ++ us ++ cur.toList.drop (p.b + (off + n) * p.sz + us.length)).toArray) (by simp; rw [Nat.add_mul]; omega) hov (by simp; omega) (by
                      intro c hc
                      rcases List.mem_append.1 hc with h | h
                      · rcases List.mem_append.1 h with h | h
                        · exact hrow.sz c (List.mem_of_mem_take h)
                        · rw [hpsz]; exact hall c h
                      · exact hrow.sz c (List.mem_of_mem_drop h))
                    refine ⟨_, _, _, _, hrun, q1, q2, ?_, fun _ _ => rfl⟩
                    exact .sl hq ⟨by omega, some ⟨p.g, p.b + off * p.sz, none⟩, rfl, fun _ => rfl⟩
                · cases h
          · cases h
        · cases h
      · cases h
    · cases h
  · cases h
/-! ### Appending ahead of a row's end: what is behind is told no more -/
def trimS (T : Table) (s : AV) : Table := match s with
  | .sl id off n => (match T id with
    | some r => T.set id (some ⟨r.elem, r.els.take (off + n)⟩)
    | none => T)
  | _ => T
def evAppend (P : Program) (T : Table) (id : Nat) (t u : TypeId) (s x : AV) : Option (AV × Table) := evApp0 P (trimS T s) id t u s x
theorem trim_core {T : Table} {id : Nat} {r : Row} (hT : TRel P w L μ T) (hr : T id = some r) (n : Nat) : TRel P w L μ (T.set id (some ⟨r.elem, r.els.take n⟩)) := by
  have hid : ∀ k r', (T.set id (some ⟨r.elem, r.els.take n⟩)) k = some r' → ∃ r0, T k = some r0 ∧ r'.elem = r0.elem ∧ ∃ m, r'.els = r0.els.take m := by
    intro k r' h
    unfold Table.set at h
    split at h
    · rename_i e; subst e; obtain rfl := Option.some.inj h; exact ⟨r, hr, rfl, n, rfl⟩
    · exact ⟨r', h, rfl, r'.els.length, by simp⟩
  refine ⟨fun k r' h => ?_, fun k k' r1 r2 p p' h h' hp hp' hne => ?_⟩
  · obtain ⟨r0, h0, h1, m, h2⟩ := hid k r' h
    obtain ⟨q, hq, hrow, hnil⟩ := hT.row k r0 h0
    refine ⟨q, hq, fun p hp => ?_, fun hq => by rw [h2, hnil hq]; simp⟩
    have hp0 := hrow p hp
    obtain ⟨cur, hg, hsz, hc⟩ := hp0.cur
    refine ⟨⟨cur, by rw [h1]; exact hg, hsz, fun i e j x he hx => ?_⟩, ?_, fun e he => ?_, by rw [h1]; exact hp0.szT, hp0.cap, hp0.live⟩
    · rw [h2, List.getElem?_take] at he
      split at he
      · exact hc i e j x he hx
      · cases he
    · have := hp0.len
      rw [h2, List.length_take]; omega
    · rw [h2] at he
      exact hp0.sz e (List.mem_of_mem_take he)
  · obtain ⟨r0, h0, _⟩ := hid k r1 h
    obtain ⟨r0', h0', _⟩ := hid k' r2 h'
    exact hT.apart k k' r0 r0' p p' h0 h0' hp hp' hne
theorem trim_ext {T : Table} {id : Nat} {r : Row} (hr : T id = some r) {r' : Row} {w' : World} {L' : Nat → Prop} {μ' : Map} {T' : Table} (h : Ext w L μ (T.set id (some r')) w' L' μ' T') : Ext w L μ T w' L' μ' T' := by
  have back : ∀ k r1, (T.set id (some r')) k = some r1 → ∃ r0, T k = some r0 := by
    intro k r1 h
    unfold Table.set at h
    split at h
    · rename_i e; subst e; exact ⟨r, hr⟩
    · exact ⟨r1, h⟩
  refine ⟨h.os, h.tape, h.output, h.size, fun b hb hn => h.block b hb fun k r1 p hk hp => ?_, h.L, h.map, fun k r1 p hk hp => ?_⟩
  · obtain ⟨r0, h0⟩ := back k r1 hk
    exact hn k r0 p h0 hp
  · rcases h.place k r1 p hk hp with hge | ⟨i0, r0, p0, h1, h2, h3⟩
    · exact .inl hge
    · obtain ⟨r0', h0'⟩ := back i0 r0 h1
      exact .inr ⟨i0, r0', p0, h0', h2, h3⟩
theorem evAppend_gives (hT : TRel P w L μ T) {id : Nat} (hid : μ id = none) {t u ty : TypeId} {v vx : Value} {s x y : AV} (hs : VRel w L μ v s) (hx : VRel w L μ vx x) (h : evAppend P T id t u s x = some (y, T')) :
    Gives P w L μ T id (Builtin.append_ #[t, u] ty #[v, vx]) y T' := by
  unfold evAppend trimS at h
  split at h
  · rename_i id0 off n
    split at h
    · rename_i r hr
      obtain ⟨v', w', L', μ', h1, h2, h3, h4, h5⟩ := evApp0_gives (ty := ty) (trim_core hT hr (off + n)) hid hs hx h
      exact ⟨v', w', L', μ', h1, trim_ext hr h2, h3, h4, h5⟩
    · exact evApp0_gives hT hid hs hx h
  · exact evApp0_gives hT hid hs hx h
end Go.Proofs.Ytnceadbfgpiaaaa.G
