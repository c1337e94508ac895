/- Contracts: bosketref24.Of. -/
import Derived.Test.YtnceadbfgpiaaaaQ19
namespace Go.Proofs.Ytnceadbfgpiaaaa.C
open Go G U K I J F
set_option linter.unusedVariables false
set_option linter.unusedSimpArgs false
set_option maxRecDepth 100000
set_option maxHeartbeats 4000000
theorem fn43 : Try.prog.funcs[43]? = some Try.f43 := by kernel_rfl
set_option maxHeartbeats 40000000
theorem refOf_calls (l : List ItemT) (hn : l.length ≤ 100000) (hl : ∀ x ∈ l, okI64 x) : ACalls Try.prog 43 [.ro (l.map itemC)] (fun k => .sl k 0 (ofT l).length) (fun _ => [⟨41, (ofT l).map itemC⟩]) := by
  obtain ⟨OA, LL, XA, H⟩ := selF_ok (ofT_ok l) (ofT_len l) hn hl
  have hRc : ∀ c ∈ (ofT l).map itemC, closedAll [] c = true := closed_map fun _ => rfl
  generalize (ofT l).map itemC = RR at *
  generalize (ofT l).length = sn at *
  generalize l.map itemC = X at *
  generalize l.length = n at *
  clear hl hn
  refine acalls_symF tabF_ok fn43 rfl rfl rfl (by kernel_rfl) ?_
  rintro ⟨lt, le, eq, se, ar, dv, una, conv, len, sln, nat, nth, ixs, cel, sto, app, cpy, slc, mak, ixv, oth, dk, ib, call⟩ hS hm Q hQ
  obtain ⟨hlt, hle, heq, hse, har, hdv, huna, hconv, hlen, hsln, hnat, hnth, hixs, hcel, hsto, happ, hcpy, hslc, hmak, hixv, hoth, hdk, hib, hcall⟩ := Sym.mk.inj hS
  clear hS
  have hnt : ∀ n : Nat, nat n = U.natI n := fun n => by rw [hnat]; rfl
  have hbox : ∀ e c off, cel (some ⟨e, [c]⟩) 0 off = if off ≤ c.length then some (c.drop off) else none := fun e c off => by rw [hcel]; rfl
  have hsbox : ∀ e c off sz y, sto (some ⟨e, [c]⟩) 0 off sz y = if y.cells.length = sz ∧ off + sz ≤ c.length ∧ y.cells.all AV.one = true then some ⟨e, [spl c off y.cells]⟩ else none := fun e c off sz y => by rw [hsto]; rfl
  have hcaw : ∀ {f args T base K}, CallK Try.prog f args T base K → call f args T base K := fun h => by rw [hcall]; exact h
  have hcal : ∀ {f args T base} {K : AV → Table → List Nat → List Nat → Prop}, (∃ args' ids val rows, Hands T ids args args' (val base) (rows base) ∧ ACalls Try.prog f args' val rows ∧ (rows base).length ≤ 8 ∧ K (val base) (adopt T base (rows base)) ids ((List.range (rows base).length).map (base + ·))) → call f args T base K := fun h => hcaw (call_own h)
  replace H : SelF lt eq len nth ar ixs cel app nat X RR sn n OA LL XA := by rw [hlt, heq, hlen, hnth, har, hixs, hcel, happ, hnat]; exact H
  obtain ⟨z1, z2, z3, cl, hend, rnd, sel, xr⟩ := H
  cbv
  refine MW_loopZ hm [.slot 3 41] [24] [0, 3, 4] 5 (by simp) (fun mz st => ∃ (i : Int) (q : Nat) (O : List (List AV)), OA i q O ∧ mz = n - i.toNat ∧ st = stOf [.ro X, .dead, .dead, .sl 0 0 q, .flat (.int .i64 i)] [some ⟨41, O⟩] 1) (n - (0 : Int).toNat) ?_ ?_
  · exact ⟨0, 0, [], z1, rfl, cut_eq (by cbv) (cutRows_cons (by rfl) (fun c hc => by cases hc) rfl)⟩
  rintro mz st ⟨i, q, O, hi, hmz, rfl⟩
  cases hc : lt i (len X)
  · obtain ⟨rfl, rfl⟩ := hend _ _ _ hi hc
    cbv
    rw [hc]; cbv
    exact hQ _ _ trivial (leaves_own (by cbv) (by rfl) hRc)
  have hsel := fun k m => sel i q O k m hi
  have hrnd := fun k m => rnd i q O k m hi
  clear rnd sel hend
  cbv
  rw [hc]; cbv
  refine MW_loop hm [0] [0, 3, 4, 5, 6] 7 (by simp) (fun mz st => ∃ (k m : Int), LL q k m ∧ mz = n - k.toNat ∧ st = stOf [.ro X, .dead, .dead, .sl 0 0 q, .flat (.int .i64 i), .flat (.int .i64 m), .flat (.int .i64 k)] [some ⟨41, O⟩] 1) (n - (0 : Int).toNat) ?_ ?_
  · exact ⟨0, -1, z2 q, rfl, cut_eq (by cbv) (cutRows_cons (by rfl) (cl _ _ _ hi) rfl)⟩
  rintro mj st ⟨k, m, hj, hmj, rfl⟩
  cases hc2 : lt k (len X)
  · rcases hsel k m hj hc2 with ⟨s1, rfl, rfl⟩ | ⟨s1, p, d, lk, i2, q2, s2, s3, s4, s5⟩
    · clear hsel hrnd xr
      cbv
      rw [hc2]; cbv
      rw [s1]; cbv
      exact hQ _ _ trivial (leaves_own (by cbv) (by rfl) hRc)
    clear hsel hrnd
    have hadd := s3
    generalize hi2 : i2 = i2' at *
    cbv
    rw [hc2]; cbv
    rw [s1]; cbv
    refine ⟨by rw [hdk]; kernel_rfl, ?_⟩
    repeat (first | (rw [hbox]; cbv) | (rw [hsbox]; cbv) | (rw [s2]; cbv))
    refine ⟨by rw [hib]; kernel_rfl, ?_⟩
    cbv
    refine MW_loop hm [0, 137] [0, 3, 4, 8, 9] 10 (by simp) (fun mz st => ∃ (k w : Int), XA p d k w ∧ mz = n - k.toNat ∧ st = stOf [.ro X, .dead, .dead, .sl 0 0 q, .flat (.int .i64 i), .dead, .dead, .dead, .ptr 1 0 0, .flat (.int .i64 k)] [some ⟨41, O⟩, some ⟨41, [[.flat (.int .i64 p), .flat (.int .i64 d), .flat (.int .u64 w)]]⟩] 2) (n - (0 : Int).toNat) ?_ ?_
    · exact ⟨0, 0, z3 p d, rfl, cut_eq (by cbv) (cutRows_cons (by rfl) (cl _ _ _ hi) (cutRows_cons (by rfl) (by simp [closedAll, closedIn]) rfl))⟩
    rintro mx st ⟨k, w, hx, hmx, rfl⟩
    cases hc3 : lt k (len X)
    · obtain ⟨O2, t1, t2⟩ := s5 k w hx hc3
      cbv
      rw [hc3]; cbv
      repeat (first | (rw [hbox]; cbv) | (rw [hsbox]; cbv))
      rw [t2 _ _ _ _ (by rfl) (by rfl) (by decide)]; cbv
      rw [s3]
      exact ⟨[58], [0, 3, 4], 5, n - i2'.toNat, hmz ▸ s4, by simp, i2', q2, O2, t1, rfl, cut_eq (by cbv) (cutRows_cons (by rfl) (cl _ _ _ t1) rfl)⟩
    obtain ⟨xp, xd, xl, k2, u1, u2, u3, u4⟩ := xr p d k w hx hc3
    rcases u4 with ⟨v1, v2, w2, v3, v4⟩ | ⟨v1, v2, v4⟩ | ⟨v1, v4⟩
    · cbv
      rw [hc3]; cbv
      refine ⟨by rw [hdk]; kernel_rfl, ?_⟩
      repeat (first | (rw [hbox]; cbv) | (rw [hsbox]; cbv) | (rw [u1]; cbv) | (rw [v1]; cbv) | (rw [v2]; cbv))
      refine ⟨by rw [hib]; kernel_rfl, ?_⟩
      cbv
      refine ⟨by rw [hdk]; kernel_rfl, ?_⟩
      repeat (first | (rw [hbox]; cbv) | (rw [hsbox]; cbv) | (rw [u1]; cbv))
      refine hcal ⟨_, [], _, _, .inl ⟨rfl, by cbv⟩, v3, by simp, ?_⟩
      cbv
      repeat (first | (rw [hbox]; cbv) | (rw [hsbox]; cbv))
      refine ⟨by rw [hib]; kernel_rfl, ?_⟩
      cbv
      rw [u2]
      exact ⟨[0, 1], [0, 3, 4, 8, 9], 10, n - k2.toNat, hmx ▸ u3, by simp, k2, w2, v4, rfl, cut_eq (by cbv) (cutRows_cons (by rfl) (cl _ _ _ hi) (cutRows_cons (by rfl) (by simp [closedAll, closedIn]) rfl))⟩
    · cbv
      rw [hc3]; cbv
      refine ⟨by rw [hdk]; kernel_rfl, ?_⟩
      repeat (first | (rw [hbox]; cbv) | (rw [hsbox]; cbv) | (rw [u1]; cbv) | (rw [v1]; cbv) | (rw [v2]; cbv))
      refine ⟨by rw [hib]; kernel_rfl, ?_⟩
      cbv
      rw [u2]
      exact ⟨[0, 1], [0, 3, 4, 8, 9], 10, n - k2.toNat, hmx ▸ u3, by simp, k2, w, v4, rfl, cut_eq (by cbv) (cutRows_cons (by rfl) (cl _ _ _ hi) (cutRows_cons (by rfl) (by simp [closedAll, closedIn]) rfl))⟩
    · cbv
      rw [hc3]; cbv
      refine ⟨by rw [hdk]; kernel_rfl, ?_⟩
      repeat (first | (rw [hbox]; cbv) | (rw [hsbox]; cbv) | (rw [u1]; cbv) | (rw [v1]; cbv))
      refine ⟨by rw [hib]; kernel_rfl, ?_⟩
      cbv
      rw [u2]
      exact ⟨[0, 1], [0, 3, 4, 8, 9], 10, n - k2.toNat, hmx ▸ u3, by simp, k2, w, v4, rfl, cut_eq (by cbv) (cutRows_cons (by rfl) (cl _ _ _ hi) (cutRows_cons (by rfl) (by simp [closedAll, closedIn]) rfl))⟩
  obtain ⟨xp, xd, xl, k2, nm, ab, r1, r2, r3, r4, r5, r6⟩ := hrnd k m hj hc2
  clear hsel hrnd xr z1 z2 z3
  rcases r4 with ⟨c1, rfl⟩ | ⟨c1, yp, yd, yl, q1, qN, y1, y2, y3, y4, ⟨c2, rfl⟩ | ⟨c2, c3, c4, rfl⟩ | ⟨c2, c3, c4, rfl⟩ | ⟨c2, c3, rfl⟩⟩
  · skip
    obtain ⟨g6, g7⟩ := r6 rfl
    clear r6
    cbv
    rw [hc2]; cbv
    refine ⟨by rw [hdk]; kernel_rfl, ?_⟩
    repeat (first | (rw [hbox]; cbv) | (rw [hsbox]; cbv) | (rw [r1]; cbv) | (rw [y1]; cbv) | (rw [y2]; cbv) | (rw [y3]; cbv) | (rw [y4]; cbv) | (rw [c1]; cbv))
    refine ⟨by rw [hib]; kernel_rfl, ?_⟩
    cbv
    rcases g7 with ⟨d1, rfl⟩ | ⟨d1, zp, zd, zl, d2, ⟨d3, rfl⟩ | ⟨d3, d4, d5, rfl⟩ | ⟨d3, d4, d5, rfl⟩ | ⟨d3, d4, rfl⟩⟩
    · skip
      refine ⟨by rw [hdk]; kernel_rfl, ?_⟩
      repeat (first | (rw [hbox]; cbv) | (rw [hsbox]; cbv) | (rw [r1]; cbv) | (rw [d1]; cbv))
      refine ⟨by rw [hib]; kernel_rfl, ?_⟩
      cbv
      rw [r2]
      exact ⟨[0], [0, 3, 4, 5, 6], 7, n - k2.toNat, hmj ▸ r3, by simp, k2, _, g6, rfl, cut_eq (by cbv) (cutRows_cons (by rfl) (cl _ _ _ hi) rfl)⟩
    · skip
      refine ⟨by rw [hdk]; kernel_rfl, ?_⟩
      repeat (first | (rw [hbox]; cbv) | (rw [hsbox]; cbv) | (rw [r1]; cbv) | (rw [d1]; cbv) | (rw [d2]; cbv) | (rw [d3]; cbv))
      refine ⟨by rw [hib]; kernel_rfl, ?_⟩
      cbv
      rw [r2]
      exact ⟨[0], [0, 3, 4, 5, 6], 7, n - k2.toNat, hmj ▸ r3, by simp, k2, _, g6, rfl, cut_eq (by cbv) (cutRows_cons (by rfl) (cl _ _ _ hi) rfl)⟩
    · skip
      refine ⟨by rw [hdk]; kernel_rfl, ?_⟩
      repeat (first | (rw [hbox]; cbv) | (rw [hsbox]; cbv) | (rw [r1]; cbv) | (rw [d1]; cbv) | (rw [d2]; cbv) | (rw [d3]; cbv) | (rw [d4]; cbv) | (rw [d5]; cbv))
      refine ⟨by rw [hib]; kernel_rfl, ?_⟩
      cbv
      rw [r2]
      exact ⟨[0], [0, 3, 4, 5, 6], 7, n - k2.toNat, hmj ▸ r3, by simp, k2, _, g6, rfl, cut_eq (by cbv) (cutRows_cons (by rfl) (cl _ _ _ hi) rfl)⟩
    · skip
      refine ⟨by rw [hdk]; kernel_rfl, ?_⟩
      repeat (first | (rw [hbox]; cbv) | (rw [hsbox]; cbv) | (rw [r1]; cbv) | (rw [d1]; cbv) | (rw [d2]; cbv) | (rw [d3]; cbv) | (rw [d4]; cbv) | (rw [d5]; cbv))
      refine ⟨by rw [hib]; kernel_rfl, ?_⟩
      cbv
      rw [r2]
      exact ⟨[0], [0, 3, 4, 5, 6], 7, n - k2.toNat, hmj ▸ r3, by simp, k2, _, g6, rfl, cut_eq (by cbv) (cutRows_cons (by rfl) (cl _ _ _ hi) rfl)⟩
    · skip
      refine ⟨by rw [hdk]; kernel_rfl, ?_⟩
      repeat (first | (rw [hbox]; cbv) | (rw [hsbox]; cbv) | (rw [r1]; cbv) | (rw [d1]; cbv) | (rw [d2]; cbv) | (rw [d3]; cbv) | (rw [d4]; cbv))
      refine ⟨by rw [hib]; kernel_rfl, ?_⟩
      cbv
      rw [r2]
      exact ⟨[0], [0, 3, 4, 5, 6], 7, n - k2.toNat, hmj ▸ r3, by simp, k2, _, g6, rfl, cut_eq (by cbv) (cutRows_cons (by rfl) (cl _ _ _ hi) rfl)⟩
  · skip
    obtain ⟨g6, g7⟩ := r6 rfl
    clear r6
    cbv
    rw [hc2]; cbv
    refine ⟨by rw [hdk]; kernel_rfl, ?_⟩
    repeat (first | (rw [hbox]; cbv) | (rw [hsbox]; cbv) | (rw [r1]; cbv) | (rw [y1]; cbv) | (rw [y2]; cbv) | (rw [y3]; cbv) | (rw [y4]; cbv) | (rw [c1]; cbv) | (rw [c2]; cbv))
    refine ⟨by rw [hib]; kernel_rfl, ?_⟩
    cbv
    rcases g7 with ⟨d1, rfl⟩ | ⟨d1, zp, zd, zl, d2, ⟨d3, rfl⟩ | ⟨d3, d4, d5, rfl⟩ | ⟨d3, d4, d5, rfl⟩ | ⟨d3, d4, rfl⟩⟩
    · skip
      refine ⟨by rw [hdk]; kernel_rfl, ?_⟩
      repeat (first | (rw [hbox]; cbv) | (rw [hsbox]; cbv) | (rw [r1]; cbv) | (rw [d1]; cbv))
      refine ⟨by rw [hib]; kernel_rfl, ?_⟩
      cbv
      rw [r2]
      exact ⟨[0], [0, 3, 4, 5, 6], 7, n - k2.toNat, hmj ▸ r3, by simp, k2, _, g6, rfl, cut_eq (by cbv) (cutRows_cons (by rfl) (cl _ _ _ hi) rfl)⟩
    · skip
      refine ⟨by rw [hdk]; kernel_rfl, ?_⟩
      repeat (first | (rw [hbox]; cbv) | (rw [hsbox]; cbv) | (rw [r1]; cbv) | (rw [d1]; cbv) | (rw [d2]; cbv) | (rw [d3]; cbv))
      refine ⟨by rw [hib]; kernel_rfl, ?_⟩
      cbv
      rw [r2]
      exact ⟨[0], [0, 3, 4, 5, 6], 7, n - k2.toNat, hmj ▸ r3, by simp, k2, _, g6, rfl, cut_eq (by cbv) (cutRows_cons (by rfl) (cl _ _ _ hi) rfl)⟩
    · skip
      refine ⟨by rw [hdk]; kernel_rfl, ?_⟩
      repeat (first | (rw [hbox]; cbv) | (rw [hsbox]; cbv) | (rw [r1]; cbv) | (rw [d1]; cbv) | (rw [d2]; cbv) | (rw [d3]; cbv) | (rw [d4]; cbv) | (rw [d5]; cbv))
      refine ⟨by rw [hib]; kernel_rfl, ?_⟩
      cbv
      rw [r2]
      exact ⟨[0], [0, 3, 4, 5, 6], 7, n - k2.toNat, hmj ▸ r3, by simp, k2, _, g6, rfl, cut_eq (by cbv) (cutRows_cons (by rfl) (cl _ _ _ hi) rfl)⟩
    · skip
      refine ⟨by rw [hdk]; kernel_rfl, ?_⟩
      repeat (first | (rw [hbox]; cbv) | (rw [hsbox]; cbv) | (rw [r1]; cbv) | (rw [d1]; cbv) | (rw [d2]; cbv) | (rw [d3]; cbv) | (rw [d4]; cbv) | (rw [d5]; cbv))
      refine ⟨by rw [hib]; kernel_rfl, ?_⟩
      cbv
      rw [r2]
      exact ⟨[0], [0, 3, 4, 5, 6], 7, n - k2.toNat, hmj ▸ r3, by simp, k2, _, g6, rfl, cut_eq (by cbv) (cutRows_cons (by rfl) (cl _ _ _ hi) rfl)⟩
    · skip
      refine ⟨by rw [hdk]; kernel_rfl, ?_⟩
      repeat (first | (rw [hbox]; cbv) | (rw [hsbox]; cbv) | (rw [r1]; cbv) | (rw [d1]; cbv) | (rw [d2]; cbv) | (rw [d3]; cbv) | (rw [d4]; cbv))
      refine ⟨by rw [hib]; kernel_rfl, ?_⟩
      cbv
      rw [r2]
      exact ⟨[0], [0, 3, 4, 5, 6], 7, n - k2.toNat, hmj ▸ r3, by simp, k2, _, g6, rfl, cut_eq (by cbv) (cutRows_cons (by rfl) (cl _ _ _ hi) rfl)⟩
  · skip
    obtain ⟨g6, g7⟩ := r6 rfl
    clear r6
    cbv
    rw [hc2]; cbv
    refine ⟨by rw [hdk]; kernel_rfl, ?_⟩
    repeat (first | (rw [hbox]; cbv) | (rw [hsbox]; cbv) | (rw [r1]; cbv) | (rw [y1]; cbv) | (rw [y2]; cbv) | (rw [y3]; cbv) | (rw [y4]; cbv) | (rw [c1]; cbv) | (rw [c2]; cbv) | (rw [c3]; cbv) | (rw [c4]; cbv))
    refine ⟨by rw [hib]; kernel_rfl, ?_⟩
    cbv
    rcases g7 with ⟨d1, rfl⟩ | ⟨d1, zp, zd, zl, d2, ⟨d3, rfl⟩ | ⟨d3, d4, d5, rfl⟩ | ⟨d3, d4, d5, rfl⟩ | ⟨d3, d4, rfl⟩⟩
    · skip
      refine ⟨by rw [hdk]; kernel_rfl, ?_⟩
      repeat (first | (rw [hbox]; cbv) | (rw [hsbox]; cbv) | (rw [r1]; cbv) | (rw [d1]; cbv))
      refine ⟨by rw [hib]; kernel_rfl, ?_⟩
      cbv
      rw [r2]
      exact ⟨[0], [0, 3, 4, 5, 6], 7, n - k2.toNat, hmj ▸ r3, by simp, k2, _, g6, rfl, cut_eq (by cbv) (cutRows_cons (by rfl) (cl _ _ _ hi) rfl)⟩
    · skip
      refine ⟨by rw [hdk]; kernel_rfl, ?_⟩
      repeat (first | (rw [hbox]; cbv) | (rw [hsbox]; cbv) | (rw [r1]; cbv) | (rw [d1]; cbv) | (rw [d2]; cbv) | (rw [d3]; cbv))
      refine ⟨by rw [hib]; kernel_rfl, ?_⟩
      cbv
      rw [r2]
      exact ⟨[0], [0, 3, 4, 5, 6], 7, n - k2.toNat, hmj ▸ r3, by simp, k2, _, g6, rfl, cut_eq (by cbv) (cutRows_cons (by rfl) (cl _ _ _ hi) rfl)⟩
    · skip
      refine ⟨by rw [hdk]; kernel_rfl, ?_⟩
      repeat (first | (rw [hbox]; cbv) | (rw [hsbox]; cbv) | (rw [r1]; cbv) | (rw [d1]; cbv) | (rw [d2]; cbv) | (rw [d3]; cbv) | (rw [d4]; cbv) | (rw [d5]; cbv))
      refine ⟨by rw [hib]; kernel_rfl, ?_⟩
      cbv
      rw [r2]
      exact ⟨[0], [0, 3, 4, 5, 6], 7, n - k2.toNat, hmj ▸ r3, by simp, k2, _, g6, rfl, cut_eq (by cbv) (cutRows_cons (by rfl) (cl _ _ _ hi) rfl)⟩
    · skip
      refine ⟨by rw [hdk]; kernel_rfl, ?_⟩
      repeat (first | (rw [hbox]; cbv) | (rw [hsbox]; cbv) | (rw [r1]; cbv) | (rw [d1]; cbv) | (rw [d2]; cbv) | (rw [d3]; cbv) | (rw [d4]; cbv) | (rw [d5]; cbv))
      refine ⟨by rw [hib]; kernel_rfl, ?_⟩
      cbv
      rw [r2]
      exact ⟨[0], [0, 3, 4, 5, 6], 7, n - k2.toNat, hmj ▸ r3, by simp, k2, _, g6, rfl, cut_eq (by cbv) (cutRows_cons (by rfl) (cl _ _ _ hi) rfl)⟩
    · skip
      refine ⟨by rw [hdk]; kernel_rfl, ?_⟩
      repeat (first | (rw [hbox]; cbv) | (rw [hsbox]; cbv) | (rw [r1]; cbv) | (rw [d1]; cbv) | (rw [d2]; cbv) | (rw [d3]; cbv) | (rw [d4]; cbv))
      refine ⟨by rw [hib]; kernel_rfl, ?_⟩
      cbv
      rw [r2]
      exact ⟨[0], [0, 3, 4, 5, 6], 7, n - k2.toNat, hmj ▸ r3, by simp, k2, _, g6, rfl, cut_eq (by cbv) (cutRows_cons (by rfl) (cl _ _ _ hi) rfl)⟩
  · have r5 := r5 rfl
    cbv
    rw [hc2]; cbv
    refine ⟨by rw [hdk]; kernel_rfl, ?_⟩
    repeat (first | (rw [hbox]; cbv) | (rw [hsbox]; cbv) | (rw [r1]; cbv) | (rw [y1]; cbv) | (rw [y2]; cbv) | (rw [y3]; cbv) | (rw [y4]; cbv) | (rw [c1]; cbv) | (rw [c2]; cbv) | (rw [c3]; cbv) | (rw [c4]; cbv))
    refine ⟨by rw [hib]; kernel_rfl, ?_⟩
    cbv
    refine ⟨by rw [hdk]; kernel_rfl, ?_⟩
    repeat (first | (rw [hbox]; cbv) | (rw [hsbox]; cbv))
    refine ⟨by rw [hib]; kernel_rfl, ?_⟩
    cbv
    rw [r2]
    exact ⟨[0], [0, 3, 4, 5, 6], 7, n - k2.toNat, hmj ▸ r3, by simp, k2, m, r5, rfl, cut_eq (by cbv) (cutRows_cons (by rfl) (cl _ _ _ hi) rfl)⟩
  · have r5 := r5 rfl
    cbv
    rw [hc2]; cbv
    refine ⟨by rw [hdk]; kernel_rfl, ?_⟩
    repeat (first | (rw [hbox]; cbv) | (rw [hsbox]; cbv) | (rw [r1]; cbv) | (rw [y1]; cbv) | (rw [y2]; cbv) | (rw [y3]; cbv) | (rw [y4]; cbv) | (rw [c1]; cbv) | (rw [c2]; cbv) | (rw [c3]; cbv))
    refine ⟨by rw [hib]; kernel_rfl, ?_⟩
    cbv
    refine ⟨by rw [hdk]; kernel_rfl, ?_⟩
    repeat (first | (rw [hbox]; cbv) | (rw [hsbox]; cbv))
    refine ⟨by rw [hib]; kernel_rfl, ?_⟩
    cbv
    rw [r2]
    exact ⟨[0], [0, 3, 4, 5, 6], 7, n - k2.toNat, hmj ▸ r3, by simp, k2, m, r5, rfl, cut_eq (by cbv) (cutRows_cons (by rfl) (cl _ _ _ hi) rfl)⟩
end Go.Proofs.Ytnceadbfgpiaaaa.C
