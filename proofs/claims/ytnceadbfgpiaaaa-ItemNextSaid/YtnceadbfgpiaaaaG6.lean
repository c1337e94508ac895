/- The abstract machine's operations on slices: cutting, making, appending, copying, their lengths. Plain theorems over any program. -/
import Derived.Test.YtnceadbfgpiaaaaG5
namespace Go.Proofs.Ytnceadbfgpiaaaa.G
set_option linter.unusedVariables false
set_option linter.unusedSimpArgs false
open Go
variable {P : Program} {w w' : World} {L L' : Nat → Prop} {μ μ' : Map} {T T' : Table}

/-- A slice's elements, as they are read. -/
def srcEls (T : Table) : AV → Option (List (List AV))
  | .ro els => some els
  | .sl id off n => (T id).bind fun r => if off + n ≤ r.els.length then some ((r.els.drop off).take n) else none
  | .flat (.string s) => some (s.data.toList.map fun b => [.flat (.int .u8 b.toNat)])
  | .flat (.slice _ 0 _) => some []
  | _ => none

theorem loadCells_gen {a : Addr} {k : Nat} (U : Nat → Value) (h : ∀ j, j < k → w.cell? (a.add j) = some (U j)) : (loadCells a k).run P w = .ok ((List.range k).map U).toArray w := by
  have := run_loadCells_list (P := P) w a ((List.range k).map U) (by
    intro j v hj
    rw [List.getElem?_map] at hj
    obtain ⟨i, hi, rfl⟩ := Option.map_eq_some_iff.1 hj
    have hlt := (List.getElem?_eq_some_iff.1 hi).1
    rw [List.getElem?_range (by simpa using hlt)] at hi
    obtain rfl := Option.some.inj hi
    exact h j (by simpa using hlt))
  simpa using this

/-- What a source of elements is to the model: how many, and its cells, in any memory that has the same blocks. -/
theorem srcEls_sound (hT : TRel P w L μ T) {v : Value} {x : AV} (hv : VRel w L μ v x) {els : List (List AV)} (h : srcEls T x = some els) {sz : Nat} (hs : ∀ e ∈ els, e.length = sz)
    (h0 : 0 < sz) (hstr : ∀ s, x = .flat (.string s) → sz = 1) (hown : ∀ id off n r, x = .sl id off n → T id = some r → P.cellsOf r.elem = sz) :
    (Builtin.lenOf v).run P w = .ok els.length w ∧ ∀ m, m ≤ els.length → ∃ us : List Value, (∀ w1 : World, w1.heap = w.heap → (Builtin.firstCells sz m v).run P w1 = .ok us.toArray w1) ∧ us.length = m * sz ∧
      ∀ i e j x, i < m → els[i]? = some e → e[j]? = some x → ∃ u, us[i * sz + j]? = some u ∧ u.oneCell' = true ∧ VRel w L μ u x := by
  cases hv with
  | flat v hf =>
    cases v with
    | string s =>
      simp only [srcEls, Option.some.injEq] at h
      subst h
      have := hstr s rfl
      subst this
      refine ⟨by rw [List.length_map, Array.length_toList]; rfl, fun m hm => ⟨(s.extract 0 m).data.toList.map fun b => .int .u8 b.toNat, fun w1 _ => ?_, ?_, ?_⟩⟩
      · simp only [Builtin.firstCells]
        rw [run_ret]
        congr 1
        apply Array.ext'
        simp
      · simp at hm ⊢; omega
      · intro i e j x hi he hx
        rw [List.getElem?_map] at he
        obtain ⟨b, hb, rfl⟩ := Option.map_eq_some_iff.1 he
        cases j with
        | succ j => simp at hx
        | zero =>
          simp at hx; subst hx
          refine ⟨.int .u8 b.toNat, ?_, rfl, .flat _ rfl⟩
          have hb' : s.data[i]? = some b := by simpa using hb
          have hlt := (Array.getElem?_eq_some_iff.1 hb').1
          rw [List.getElem?_map]
          have e1 : (s.extract 0 m).data.toList[i * 1 + 0]? = some b := by
            simp only [Nat.mul_one, Nat.add_zero, ByteArray.data_extract, Array.getElem?_toList, Array.getElem?_extract]
            rw [if_pos (by omega)]
            simpa using hb'
          rw [e1]; rfl
    | slice A n c =>
      cases n with
      | succ n => cases h
      | zero =>
        simp only [srcEls, Option.some.injEq] at h
        subst h
        refine ⟨rfl, fun m hm => ⟨[], fun w1 _ => ?_, by (have h0m : m = 0 := by simpa using hm); subst h0m; simp, fun i e j x hi he => by simp at he⟩⟩
        have h0m : m = 0 := by simpa using hm
        subst h0m
        cases A with
        | none => rfl
        | some a =>
          show (loadCells a (0 * sz)).run P w1 = _
          rw [Nat.zero_mul]
          have := run_loadCells_list (P := P) w1 a [] (fun j v hj => by simp at hj)
          exact this
    | _ => cases h
  | @ro _ A n c els0 sz0 U hn hc hs0 hA h1 hvr =>
    simp only [srcEls, Option.some.injEq] at h
    subst h
    refine ⟨by simp [Builtin.lenOf, Sem.run_pure, hn], fun m hm => ?_⟩
    by_cases hm0 : m = 0
    · subst hm0
      refine ⟨[], fun w1 _ => ?_, by simp, fun i e j x hi => absurd hi (by omega)⟩
      cases A with
      | none => rfl
      | some a => simp only [Builtin.firstCells, Nat.zero_mul]; rfl
    · obtain ⟨a, rfl, hLa, hb, hcell⟩ := hA (by omega)
      have hsz : sz0 = sz := by
        have hlt : 0 < els0.length := by omega
        rw [← hs0 els0[0] (List.getElem_mem _), hs els0[0] (List.getElem_mem _)]
      subst hsz
      refine ⟨(List.range (m * sz0)).map fun k => U (k / sz0) (k % sz0), fun w1 hw => ?_, by simp, ?_⟩
      · simp only [Builtin.firstCells]
        refine loadCells_gen _ fun k hk => ?_
        have h2 : k / sz0 < m := Nat.div_lt_of_lt_mul (by rw [Nat.mul_comm]; exact hk)
        have h3 : k % sz0 < sz0 := Nat.mod_lt _ h0
        have := hcell (k / sz0) (k % sz0) (by omega) h3
        rw [Nat.mul_comm, Nat.div_add_mod] at this
        rw [← this]
        simp [World.cell?, hw]
      · intro i e j x hi he hx
        have hj : j < sz0 := by
          have q1 := (List.getElem?_eq_some_iff.1 hx).1
          have q2 := hs0 e (List.mem_of_getElem? he)
          omega
        have hlt : i * sz0 + j < m * sz0 := by have := mul_lt_lem (sz := sz0) hi; omega
        refine ⟨U i j, ?_, h1 i j (by omega) hj, (hvr i e j x he hx).up⟩
        rw [List.getElem?_map, List.getElem?_range hlt]
        have e1 : (i * sz0 + j) / sz0 = i := by
          rw [Nat.mul_comm, Nat.mul_add_div h0, Nat.div_eq_of_lt hj]; omega
        have e2 : (i * sz0 + j) % sz0 = j := by
          rw [Nat.mul_comm, Nat.mul_add_mod, Nat.mod_eq_of_lt hj]
        simp [e1, e2]
  | @sl _ id off n v q hq hok =>
    simp only [srcEls] at h
    obtain ⟨r, hr, h⟩ := Option.bind_eq_some_iff.1 h
    split at h
    · rename_i hle
      obtain rfl := Option.some.inj h
      have hlen : ((r.els.drop off).take n).length = n := by simp; omega
      cases q with
      | none =>
        obtain ⟨rfl, rfl, rfl⟩ := hok
        refine ⟨by simp [Builtin.lenOf, Sem.run_pure], fun m hm => ⟨[], fun w1 _ => ?_, by (have h0m : m = 0 := by simpa using hm); subst h0m; simp, fun i e j x hi => ?_⟩⟩
        · have : m = 0 := by simp at hm; omega
          subst this
          rfl
        · simp at hm; omega
      | some p =>
        obtain ⟨hle2, A, rfl, hA⟩ := hok
        refine ⟨by simp [Builtin.lenOf, Sem.run_pure]; omega, fun m hm => ?_⟩
        rw [hlen] at hm
        by_cases hm0 : m = 0
        · subst hm0
          refine ⟨[], fun w1 _ => ?_, by simp, fun i e j x hi => absurd hi (by omega)⟩
          cases A with
          | none => rfl
          | some a => simp only [Builtin.firstCells, Nat.zero_mul]; rfl
        · have hA' := hA (by omega)
          subst hA'
          have hrow := hT.cell hr hq
          obtain ⟨cur, hg, hsz, hcr⟩ := hrow.cur
          have hszp : p.sz = sz := by rw [hrow.szT]; exact hown id off n r rfl hr
          have hcap := hrow.len
          have hbnd : ∀ k, k < m * sz → p.b + off * p.sz + k < cur.size := by
            intro k hk
            have h3 : (off + m) * p.sz ≤ p.cap * p.sz := Nat.mul_le_mul_right _ (by omega)
            rw [Nat.add_mul] at h3
            rw [← hszp] at hk
            omega
          refine ⟨(List.range (m * sz)).map fun k => cur.getD (p.b + off * p.sz + k) undef, fun w1 hw => ?_, by simp, ?_⟩
          · simp only [Builtin.firstCells]
            refine loadCells_gen _ fun k hk => ?_
            rw [add_lit]
            have hk2 := hbnd k hk
            have : w1.cell? ⟨p.g, p.b + off * p.sz + k, none⟩ = cur[p.b + off * p.sz + k]? := cell_of_row w1 p.g _ cur r.elem (0, 0) (by rw [hw]; exact hg)
            rw [this, Array.getElem?_eq_getElem hk2]
            simp [Array.getD, hk2]
          · intro i e j x hi he hx
            rw [List.getElem?_take, if_pos (by omega), List.getElem?_drop] at he
            obtain ⟨u, hu, h1, hv⟩ := hcr (off + i) e j x he hx
            have hj : j < sz := by
              have q1 := (List.getElem?_eq_some_iff.1 hx).1
              have q2 := hrow.sz e (List.mem_of_getElem? he)
              omega
            have hlt : i * sz + j < m * sz := by have := mul_lt_lem (sz := sz) hi; omega
            refine ⟨u, ?_, h1, hv⟩
            rw [List.getElem?_map, List.getElem?_range hlt]
            have e1 : p.b + off * p.sz + (i * sz + j) = p.b + (off + i) * p.sz + j := by rw [Nat.add_mul, hszp]; omega
            simp only [Option.map_some]
            rw [e1, getD_of hu]
    · cases h
  | agg => cases h
  | tup => cases h
  | rp => cases h
  | ptr => cases h
end Go.Proofs.Ytnceadbfgpiaaaa.G
