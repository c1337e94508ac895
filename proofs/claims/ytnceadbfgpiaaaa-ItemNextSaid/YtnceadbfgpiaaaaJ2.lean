/- Contracts: item.Of. -/
import Derived.Test.YtnceadbfgpiaaaaJ1
namespace Go.Proofs.Ytnceadbfgpiaaaa.J
open Go G U K I
set_option linter.unusedVariables false
set_option linter.unusedSimpArgs false
set_option maxRecDepth 100000
set_option maxHeartbeats 4000000
theorem or_lt {a b : Nat} (ha : a < 18446744073709551616) (hb : b < 18446744073709551616) : a ||| b < 18446744073709551616 := Nat.or_lt_two_pow (n := 64) ha hb
theorem or_u {a b : Nat} (ha : a < 18446744073709551616) (hb : b < 18446744073709551616) : arI .or .u64 a b = ((a ||| b : Nat) : Int) := by
  show IntKind.u64.wrap ((BitVec.ofInt 64 a ||| BitVec.ofInt 64 b).toNat : Nat) = _
  have h : (BitVec.ofInt 64 (a : Int) ||| BitVec.ofInt 64 (b : Int)).toNat = a ||| b := by
    rw [BitVec.toNat_or]
    simp only [BitVec.toNat_ofInt]
    congr 1 <;> omega
  rw [h]
  show ((a ||| b : Nat) : Int) % 18446744073709551616 = _
  have := or_lt ha hb
  omega
def SAt (l : List ItemT) (i : Int) (S : List ItemT) : Prop := At l i ∧ S = (l.take i.toNat).foldl insT [] ∧ Sorted S ∧ (∀ y ∈ S, okI64 y) ∧ S.length ≤ i.toNat
theorem sAt_zero (l : List ItemT) : SAt l 0 [] := ⟨at_zero l, rfl, List.Pairwise.nil, (fun y hy => by cases hy), Nat.le_refl _⟩
theorem sAt_end {l S : List ItemT} {i : Int} (h : SAt l i S) (hc : decide (i < (l.length : Int)) = false) : S = ofT l := by
  rw [h.2.1, take_end h.1 hc]; rfl
theorem sAt_step {l S : List ItemT} {i : Int} (hok : ∀ x ∈ l, okI64 x) (h : SAt l i S) (hc : decide (i < (l.length : Int)) = true) : SAt l (i + 1) (insT S (atI l i)) := by
  obtain ⟨h1, h2, h3, h4, h5⟩ := h
  obtain ⟨_, h0, h6⟩ := at_lt h1 hc
  refine ⟨(at_step h1 hc).1, by rw [fold_next _ _ h0 h6, ← h2], ins_sorted h3, ins_ok h4 h3 (hok _ (at_mem h0 h6)), ?_⟩
  rw [ins_len]
  split <;> omega
theorem closed_items (l : List ItemT) : ∀ c ∈ l.map itemC, closedAll [] c = true := closed_map fun _ => rfl
theorem flat_items (l : List ItemT) : flatRow (l.map itemC) := flat_map (fun a x hx => by
  simp only [itemC, List.mem_cons, List.not_mem_nil, or_false] at hx
  rcases hx with rfl | rfl | rfl <;> exact ⟨rfl, rfl⟩) l
theorem of_calls (l : List ItemT) (hl : l.length ≤ 100000) (hok : ∀ x ∈ l, okI64 x) : ACalls Try.prog 9 [.ro (l.map itemC)] (fun k => .sl k 0 (ofT l).length) (fun _ => [⟨28, (ofT l).map itemC⟩]) := by
  have hround : ∀ (i : Int) (S : List ItemT) (Y : List (List AV)) (n : Nat), Y = S.map itemC → n = S.length → SAt l i S → decide (i < (l.length : Int)) = true → ∃ (xa xb xi pi : Int) (p : Nat) (fd : Bool) (n2 : Nat) (Y2 : List (List AV)) (S2 : List ItemT),
      nthE (l.map itemC) i 3 = some (.rp [.flat (.int .i64 xa), .flat (.int .i64 xb), .flat (.int .u64 xi)]) ∧ arI .add .i64 i 1 = i + 1 ∧ (l.length - (i + 1).toNat < l.length - i.toNat) ∧ SAt l (i + 1) S2 ∧ Y2 = S2.map itemC ∧ n2 = S2.length ∧
      ACalls Try.prog 30 [.ro Y, .agg [.flat (.int .i64 xa), .flat (.int .i64 xb), .flat (.int .u64 xi)], .flat (.func (.func 31) #[] #[])] (fun _ => .tup [.flat (.int .i64 pi), .flat (.bool fd)]) (fun _ => []) ∧
      (fd = true → n2 = n ∧ (∀ id, ixSl Try.prog (some ⟨28, Y⟩) id 0 n pi 3 = some (.ptr id p 0)) ∧ ∃ li oi : Int, ptrCells (some ⟨28, Y⟩) p 2 = some [.flat (.int .u64 li)] ∧ arI .or .u64 li xi = oi ∧ storeRow (some ⟨28, Y⟩) p 2 1 (.flat (.int .u64 oi)) = some ⟨28, Y2⟩) ∧
      (fd = false → PCalls Try.prog 32 1 [.sl 0 0 n, .flat (.int .i64 pi), .sl 1 0 1] [⟨28, Y⟩, ⟨28, [[.flat (.int .i64 xa), .flat (.int .i64 xb), .flat (.int .u64 xi)]]⟩] (.sl 1 0 n2) [none, some ⟨28, Y2⟩]) := fun i S Y n hY hn hS hc => by
    obtain ⟨h1, h2, h3, h4, h5⟩ := id hS
    obtain ⟨_, h0, h6⟩ := at_lt h1 hc
    have hxok := hok _ (at_mem h0 h6)
    have hst := sAt_step hok hS hc
    have hnx := nth_map (f := itemC) (sz := 3) (fun _ => rfl) h0 h6
    have hpl := pos_le S (atI l i)
    generalize atI l i = x at hxok hst hnx hpl
    have hb := bs_calls S x h3 (by omega)
    refine ⟨x.prod, x.dot, (x.look : Int), natI (posI S x), posI S x, foundI S x, (insT S x).length, (insT S x).map itemC, insT S x, hnx, ar_add64 (by omega) (by omega), by omega, hst, rfl, rfl, by rw [hY]; exact hb, fun hf => ?_, fun hf => ?_⟩
    · have hlen := ins_len S x
      rw [if_pos hf] at hlen
      have hf2 := hf
      unfold foundI at hf2
      split at hf2
      · rename_i y hy
        have hp : posI S x < S.length := (List.getElem?_eq_some_iff.1 hy).1
        have hyok := h4 y (List.mem_of_getElem? hy)
        refine ⟨hlen.trans hn.symm, fun id => ?_, (y.look : Int), ((y.look ||| x.look : Nat) : Int), ?_, or_u hyok hxok, ?_⟩
        · have := own_ix (P := Try.prog) (X := Y) (n := n) (i := natI (posI S x)) c28 (by unfold natI; omega) (by unfold natI; omega) id
          rw [this]; rfl
        · rw [hY, own_cel (c := itemC y) (by rw [List.getElem?_map, hy]; rfl) (by simp [itemC])]; rfl
        · have hg : S.getD (posI S x) default = y := by rw [List.getD, hy]; rfl
          have hi : insT S x = S.set (posI S x) ⟨y.prod, y.dot, y.look ||| x.look⟩ := by unfold insT; rw [if_pos hf, hg]
          rw [hi, hY]
          exact own_sto (f := itemC) (l := S) hy ⟨y.prod, y.dot, y.look ||| x.look⟩ rfl (by simp [itemC]) rfl rfl
      · cases hf2
    · have hlen := ins_len S x
      rw [if_neg (by rw [hf]; decide)] at hlen
      have hins := insert_calls (S.map itemC) (itemC x) (posI S x) n (by rw [List.length_map]; exact hn) (by omega) (by omega) (fun e he => by obtain ⟨z, _, rfl⟩ := List.mem_map.1 he; rfl) (closed_items S) rfl rfl
      have hi : insT S x = S.take (posI S x) ++ [x] ++ S.drop (posI S x) := by unfold insT; rw [if_neg (by rw [hf]; decide)]
      have hm : (S.map itemC).take (posI S x) ++ [itemC x] ++ (S.map itemC).drop (posI S x) = (insT S x).map itemC := by rw [hi]; simp
      rw [hm] at hins
      rw [hlen, ← hn, hY]
      exact hins
  have hz := sAt_zero l
  have hend : ∀ i S, SAt l i S → decide (i < (l.length : Int)) = false → S = ofT l := fun i S h hc => sAt_end h hc
  have hS100 : ∀ i S, SAt l i S → S.length ≤ 100000 := fun i S h => by obtain ⟨h1, _, _, _, h5⟩ := h; have := h1.2; omega
  obtain ⟨X, hX⟩ : ∃ X, X = l.map itemC := ⟨_, rfl⟩
  have hXl : lenE X = (l.length : Int) := by rw [hX, len_map]
  rw [← hX] at hround ⊢
  clear hX hok
  refine acalls_symF tabF_ok fn9 rfl rfl rfl (by kernel_rfl) ?_
  rintro ⟨lt, le, eq, se, ar, dv, una, conv, len, sln, nat, nth, ixs, cel, sto, app, cpy, slc, mak, ixv, oth, dk, ib, call⟩ hS hm Q hQ
  obtain ⟨hlt, hle, heq, hse, har, hdv, huna, hconv, hlen, hsln, hnat, hnth, hixs, hcel, hsto, happ, hcpy, hslc, hmak, hixv, hoth, hdk, hib, hcall⟩ := Sym.mk.inj hS
  clear hS
  have hnt : ∀ n : Nat, nat n = U.natI n := fun n => by rw [hnat]; rfl
  have hbox : ∀ e c off, cel (some ⟨e, [c]⟩) 0 off = if off ≤ c.length then some (c.drop off) else none := fun e c off => by rw [hcel]; rfl
  have hsbox : ∀ e c off sz y, sto (some ⟨e, [c]⟩) 0 off sz y = if y.cells.length = sz ∧ off + sz ≤ c.length ∧ y.cells.all AV.one = true then some ⟨e, [spl c off y.cells]⟩ else none := fun e c off sz y => by rw [hsto]; rfl
  have hcaw : ∀ {f args T base K}, CallK Try.prog f args T base K → call f args T base K := fun h => by rw [hcall]; exact h
  have hcal : ∀ {f args T base} {K : AV → Table → List Nat → List Nat → Prop}, (∃ args' ids val rows, Hands T ids args args' (val base) (rows base) ∧ ACalls Try.prog f args' val rows ∧ (rows base).length ≤ 8 ∧ K (val base) (adopt T base (rows base)) ids ((List.range (rows base).length).map (base + ·))) → call f args T base K := fun h => hcaw (call_own h)
  have hlen' := hlen
  have hround2 : ∀ (i : Int) (S : List ItemT) (Y : List (List AV)) (n : Nat), Y = S.map itemC → n = S.length → SAt l i S → lt i (len X) = true → ∃ (xa xb xi pi : Int) (p : Nat) (fd : Bool) (n2 : Nat) (Y2 : List (List AV)) (S2 : List ItemT),
      nth X i 3 = some (.rp [.flat (.int .i64 xa), .flat (.int .i64 xb), .flat (.int .u64 xi)]) ∧ ar .add .i64 i 1 = i + 1 ∧ (l.length - (i + 1).toNat < l.length - i.toNat) ∧ SAt l (i + 1) S2 ∧ Y2 = S2.map itemC ∧ n2 = S2.length ∧
      ACalls Try.prog 30 [.ro Y, .agg [.flat (.int .i64 xa), .flat (.int .i64 xb), .flat (.int .u64 xi)], .flat (.func (.func 31) #[] #[])] (fun _ => .tup [.flat (.int .i64 pi), .flat (.bool fd)]) (fun _ => []) ∧
      (fd = true → n2 = n ∧ (∀ id, ixs (some ⟨28, Y⟩) id 0 n pi 3 = some (.ptr id p 0)) ∧ ∃ li oi : Int, cel (some ⟨28, Y⟩) p 2 = some [.flat (.int .u64 li)] ∧ ar .or .u64 li xi = oi ∧ sto (some ⟨28, Y⟩) p 2 1 (.flat (.int .u64 oi)) = some ⟨28, Y2⟩) ∧
      (fd = false → PCalls Try.prog 32 1 [.sl 0 0 n, .flat (.int .i64 pi), .sl 1 0 1] [⟨28, Y⟩, ⟨28, [[.flat (.int .i64 xa), .flat (.int .i64 xb), .flat (.int .u64 xi)]]⟩] (.sl 1 0 n2) [none, some ⟨28, Y2⟩]) := fun i S Y n hY hn hS hc => by
    rw [hnth, har, hixs, hcel, hsto]
    exact hround i S Y n hY hn hS (by rw [hlt, hlen', hXl] at hc; exact hc)
  have hend2 : ∀ i S, SAt l i S → lt i (len X) = false → S = ofT l := fun i S h hc => hend i S h (by rw [hlt, hlen, hXl] at hc; exact hc)
  clear hround hend
  cbv
  refine MW_loopZ hm [.slot 3 28] [40] [3, 8, 9, 10] 11 (by simp) (fun mz st => ∃ (i : Int) (S : List ItemT) (Y : List (List AV)) (n : Nat), SAt l i S ∧ Y = S.map itemC ∧ n = S.length ∧ mz = l.length - i.toNat ∧ st = stOf [.dead, .dead, .dead, .sl 0 0 n, .dead, .dead, .dead, .dead, .ro X, .flat (.int .i64 (len X)), .flat (.int .i64 i)] [some ⟨28, Y⟩] 1) (l.length - (0 : Int).toNat) ?_ ?_
  · exact ⟨0, [], [], 0, hz, rfl, rfl, rfl, cut_eq (by cbv) (cutRows_cons (by rfl) (fun c hc => by cases hc) rfl)⟩
  rintro mz st ⟨i, S, Y, n, hS, hY, hn, hmz, rfl⟩
  have hYcl : ∀ c ∈ Y, closedAll [] c = true := by rw [hY]; exact closed_items S
  have hYf : flatRow Y := by rw [hY]; exact flat_items S
  have hYn : n = Y.length := by rw [hY, List.length_map, hn]
  cases hc : lt i (len X)
  · have he := hend2 _ _ hS hc
    rw [← he, ← hY, ← hn] at hQ
    cbv
    rw [hc]; cbv
    exact hQ _ _ trivial (leaves_own (k := 0) (by cbv) (by rfl) hYcl)
  obtain ⟨xa, xb, xi, pi, p, fd, n2, Y2, S2, y1, y2, y3, y4, y5, y6, hcB, y7, y8⟩ := hround2 _ _ _ _ hY hn hS hc
  have hY2cl : ∀ c ∈ Y2, closedAll [] c = true := by rw [y5]; exact closed_items S2
  generalize i + 1 = i2 at y2 y3 y4
  cases fd
  rotate_left
  · obtain ⟨k1, k2, li, oi, k3, k4, k5⟩ := y7 rfl
    subst k1
    cbv
    rw [hc]; cbv
    repeat (first | (rw [hbox]; cbv) | (rw [hsbox]; cbv) | (rw [y1]; cbv))
    refine hcal ⟨[.ro Y, .agg [.flat (.int .i64 xa), .flat (.int .i64 xb), .flat (.int .u64 xi)], .flat (.func (.func 31) #[] #[])], [0], _, _, hands_deep ⟨deep_row (by simp) (by rfl) hYn hYf.read, deep_agg ⟨.id rfl, .id rfl, .id rfl, trivial⟩, .id rfl, trivial⟩ rfl (fun r hr => by cases hr), hcB, by simp, ?_⟩
    cbv
    refine ⟨by rw [hdk]; kernel_rfl, ?_⟩
    repeat (first | (rw [hbox]; cbv) | (rw [hsbox]; cbv) | (rw [k2]; cbv) | (rw [k3]; cbv))
    rw [k4]; cbv
    repeat (first | (rw [hbox]; cbv) | (rw [hsbox]; cbv) | (rw [k2]; cbv) | (rw [k5]; cbv))
    refine ⟨by rw [hib]; kernel_rfl, ?_⟩
    cbv
    rw [y2]
    exact ⟨[0], [3, 8, 9, 10], 11, l.length - i2.toNat, hmz ▸ y3, by simp, i2, S2, Y2, n2, y4, y5, y6, rfl, cut_eq (by cbv) (cutRows_cons (by rfl) (hY2cl) rfl)⟩
  have hcI := y8 rfl
  cbv
  rw [hc]; cbv
  repeat (first | (rw [hbox]; cbv) | (rw [hsbox]; cbv) | (rw [y1]; cbv))
  refine hcal ⟨[.ro Y, .agg [.flat (.int .i64 xa), .flat (.int .i64 xb), .flat (.int .u64 xi)], .flat (.func (.func 31) #[] #[])], [0], _, _, hands_deep ⟨deep_row (by simp) (by rfl) hYn hYf.read, deep_agg ⟨.id rfl, .id rfl, .id rfl, trivial⟩, .id rfl, trivial⟩ rfl (fun r hr => by cases hr), hcB, by simp, ?_⟩
  cbv
  repeat (first | (rw [hbox]; cbv) | (rw [hsbox]; cbv))
  refine hcaw (call_with [0, 137] hcI (by simp) (by decide) (cutRows_cons (by rfl) (hYcl) (cutRows_cons (by rfl) (by simp [closedAll, closedIn]) rfl)) (by rfl) (by rfl) (by rfl) (renRows_none (renRows_cons (hY2cl) rfl)) ?_)
  cbv
  rw [y2]
  exact ⟨[145], [3, 8, 9, 10], 11, l.length - i2.toNat, hmz ▸ y3, by simp, i2, S2, Y2, n2, y4, y5, y6, rfl, cut_eq (by cbv) (cutRows_cons (by rfl) (hY2cl) rfl)⟩
end Go.Proofs.Ytnceadbfgpiaaaa.J
