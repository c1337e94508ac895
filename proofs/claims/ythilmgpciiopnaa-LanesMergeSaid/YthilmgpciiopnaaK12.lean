/- Contracts: lanes.Notes. -/
import Derived.Test.YthilmgpciiopnaaK11
namespace Go.Proofs.Ythilmgpciiopnaa.K
set_option linter.unusedVariables false
set_option linter.unusedSimpArgs false
open Go G
set_option maxRecDepth 100000
set_option maxHeartbeats 4000000
theorem fn20 : Try.prog.funcs[20]? = some Try.f20 := by kernel_rfl
structure NoteT where
  t : Tok
  ahead : Int
  before : Bool
  behind : Bool
instance : Inhabited NoteT := ⟨⟨default, 0, false, false⟩⟩
def noteC (n : NoteT) : List AV := [.flat (.int .i64 n.t.r), .flat (.string n.t.s), .flat (.int .i64 n.t.a), .flat (.int .i64 n.ahead), .flat (.bool n.before), .flat (.bool n.behind)]
def noteE (l : List NoteT) : List (List AV) := l.map noteC
structure NSt where
  out : List NoteT
  ahead : Int
  line : Bool
def markL (out : List NoteT) (ahead : Int) : List NoteT := match out.getLast? with
  | some n => out.dropLast ++ [{ n with behind := n.behind || decide (n.ahead = ahead) }]
  | none => out
def nstep (ks : List Int) (s : NSt) (t : Tok) : NSt :=
  let s1 : NSt := if kindOf ks t.r = 0 then ⟨s.out, s.ahead + 1, false⟩ else if kindOf ks t.r = 2 then ⟨s.out ++ [⟨t, s.ahead, s.line, false⟩], s.ahead, nl t.s⟩ else ⟨s.out, s.ahead, s.line || nl t.s⟩
  if s1.line then ⟨markL s1.out s1.ahead, s1.ahead, s1.line⟩ else s1
def nfold (ks : List Int) (l : List Tok) : NSt := l.foldl (nstep ks) ⟨[], 0, true⟩
def notesT (ks : List Int) (l : List Tok) : List NoteT := (nfold ks l).out
theorem note_closed {l : List NoteT} : ∀ c ∈ noteE l, closedAll [] c = true := by
  intro c hc
  obtain ⟨t, _, rfl⟩ := List.mem_map.1 hc
  rfl
theorem noteE_app (a b : List NoteT) : noteE (a ++ b) = noteE a ++ noteE b := by simp [noteE]
theorem mark_len (out : List NoteT) (a : Int) : (markL out a).length = out.length := by
  unfold markL
  split
  · rename_i n h
    have : out ≠ [] := by intro h0; subst h0; simp at h
    have := List.length_pos_iff.2 this
    simp; omega
  · rfl
theorem mark_snoc (O : List NoteT) (N : NoteT) (a : Int) : markL (O ++ [N]) a = O ++ [{ N with behind := N.behind || decide (N.ahead = a) }] := by
  simp [markL]
theorem fold_next {σ : Type} (f : σ → Tok → σ) (s : σ) {p : Tok → Prop} {l : List Tok} {i : Int} (h : At p l i) (hc : decide (i < (l.length : Int)) = true) : (l.take (i + 1).toNat).foldl f s = f ((l.take i.toNat).foldl f s) (tokAt l i) := by
  obtain ⟨hl, h0, h1⟩ := at_lt h hc
  have e : (i + 1).toNat = i.toNat + 1 := by omega
  have hg : tokAt l i = l[i.toNat] := by simp [tokAt, List.getD, hl]
  rw [e, List.take_add_one, List.getElem?_eq_getElem hl, hg, List.foldl_append]
  rfl
theorem fold_end {p : Tok → Prop} {l : List Tok} {i : Int} (h : At p l i) (hc : decide (i < (l.length : Int)) = false) : l.take i.toNat = l := by
  obtain ⟨h0, h1, _⟩ := h
  simp only [decide_eq_false_iff_not] at hc
  rw [List.take_of_length_le (by omega)]
theorem nstep_main {ks : List Int} {s : NSt} {t : Tok} (h : kindOf ks t.r = 0) : nstep ks s t = ⟨s.out, s.ahead + 1, false⟩ := by
  simp [nstep, h]
theorem nstep_comF {ks : List Int} {s : NSt} {t : Tok} (h : kindOf ks t.r = 2) (hn : nl t.s = false) : nstep ks s t = ⟨s.out ++ [⟨t, s.ahead, s.line, false⟩], s.ahead, false⟩ := by
  simp [nstep, h, hn]
theorem nstep_comT {ks : List Int} {s : NSt} {t : Tok} (h : kindOf ks t.r = 2) (hn : nl t.s = true) : nstep ks s t = ⟨s.out ++ [⟨t, s.ahead, s.line, true⟩], s.ahead, true⟩ := by
  simp [nstep, h, hn, mark_snoc]
theorem nstep_defF {ks : List Int} {s : NSt} {t : Tok} (h : kindOf ks t.r ≠ 0) (h2 : kindOf ks t.r ≠ 2) (hn : (s.line || nl t.s) = false) : nstep ks s t = ⟨s.out, s.ahead, false⟩ := by
  simp only [nstep, if_neg h, if_neg h2, hn]; rfl
theorem nstep_defT {ks : List Int} {s : NSt} {t : Tok} (h : kindOf ks t.r ≠ 0) (h2 : kindOf ks t.r ≠ 2) (hn : (s.line || nl t.s) = true) : nstep ks s t = ⟨markL s.out s.ahead, s.ahead, true⟩ := by
  simp only [nstep, if_neg h, if_neg h2, hn]; rfl
/-- What is known of the counts. -/
def NB (s : NSt) (i : Int) : Prop := 0 ≤ s.ahead ∧ s.ahead ≤ i ∧ (s.out.length : Int) ≤ i
theorem nb_step {ks : List Int} {s : NSt} {i : Int} (t : Tok) (h : NB s i) : NB (nstep ks s t) (i + 1) := by
  obtain ⟨h1, h2, h3⟩ := h
  unfold nstep
  simp only
  by_cases k0 : kindOf ks t.r = 0
  · rw [if_pos k0, if_neg (by simp)]
    exact ⟨by dsimp only; omega, by dsimp only; omega, by dsimp only; omega⟩
  · rw [if_neg k0]
    by_cases k2 : kindOf ks t.r = 2
    · rw [if_pos k2]
      split
      · exact ⟨by dsimp only; omega, by dsimp only; omega, by dsimp only; rw [mark_len]; simp; omega⟩
      · exact ⟨by dsimp only; omega, by dsimp only; omega, by dsimp only; simp; omega⟩
    · rw [if_neg k2]
      split
      · exact ⟨by dsimp only; omega, by dsimp only; omega, by dsimp only; rw [mark_len]; omega⟩
      · exact ⟨by dsimp only; omega, by dsimp only; omega, by dsimp only; omega⟩
theorem nb_zero (ks : List Int) : NB (nfold ks []) 0 := ⟨Int.le_refl 0, Int.le_refl 0, Int.le_refl 0⟩
theorem nb_add {s : NSt} {l : List Tok} {i : Int} (hs : l.length ≤ 1000) (h : NB s i) (hi : At (fun _ => True) l i) : arI .add .i64 s.ahead 1 = s.ahead + 1 := by
  obtain ⟨h1, h2, h3⟩ := h
  obtain ⟨h4, h5, _⟩ := hi
  exact ar_add64 (by omega) (by omega)

theorem last_ix (O : List NoteT) (N : NoteT) (hs : O.length ≤ 1000) (n : Nat) (hn : n = O.length + 1) (id : Nat) : ixSl Try.prog (some ⟨36, noteE (O ++ [N])⟩) id 0 n (arI .sub .i64 (n : Int) 1) 6 = some (.ptr id O.length 0) := by
  have hc : Try.prog.cellsOf 36 = 6 := by kernel_rfl
  have : arI .sub .i64 (n : Int) 1 = (O.length : Int) := by
    rw [ar_sub64 (by omega) (by omega)]; omega
  rw [this]
  subst hn
  simp only [ixSl, Option.bind_some, hc]
  rw [if_pos ⟨by omega, by omega, trivial⟩]
  simp
theorem last_get (O : List NoteT) (N : NoteT) : (noteE (O ++ [N]))[O.length]? = some (noteC N) := by
  simp [noteE]
theorem last_cel3 (O : List NoteT) (N : NoteT) : ptrCells (some ⟨36, noteE (O ++ [N])⟩) O.length 3 = some [.flat (.int .i64 N.ahead), .flat (.bool N.before), .flat (.bool N.behind)] := by
  simp only [ptrCells, Option.bind_some, last_get]
  rfl
theorem last_cel5 (O : List NoteT) (N : NoteT) : ptrCells (some ⟨36, noteE (O ++ [N])⟩) O.length 5 = some [.flat (.bool N.behind)] := by
  simp only [ptrCells, Option.bind_some, last_get]
  rfl
theorem last_sto (O : List NoteT) (N : NoteT) (b : Bool) : storeRow (some ⟨36, noteE (O ++ [N])⟩) O.length 5 1 (.flat (.bool b)) = some ⟨36, noteE (O ++ [{ N with behind := b }])⟩ := by
  simp only [storeRow, Option.bind_some, last_get]
  rw [if_pos ⟨rfl, Nat.le_refl 6, rfl⟩]
  simp [noteE]
  rfl
theorem app_nil1 {P : Program} {T : Table} {id k n sz b : Nat} {t e : TypeId} {z : Value} {c : List AV} {Y : List (List AV)} (hu : P.underlying t = some (.slice e)) (hti : tinfo P e = some (some z, sz, b)) (hco : P.cellsOf e = sz) (h0 : 0 < sz) (hz : z.cells.size = sz) (hb : b ≤ 1000)
    (hT : T k = some ⟨e, [c]⟩) (hc : c.length = sz) (hn : n = 1) (hY : Y = [c]) : evAppend P T id t t (.flat (.slice none 0 0)) (.sl k 0 1) = some (.sl id 0 n, T.set id (some ⟨e, Y⟩)) := by
  subst hn hY
  exact app_nil hu hti hco h0 hz hb hT hc
/-- What is read of the last note, and written. -/
theorem last_facts (O : List NoteT) (N : NoteT) (hO : O.length ≤ 1000) : ∃ (n j : Nat) (Y : List (List AV)) (Ys : Bool → List (List AV)), n = O.length + 1 ∧ Y = noteE (O ++ [N]) ∧ (∀ b, Ys b = noteE (O ++ [⟨N.t, N.ahead, N.before, b⟩])) ∧ n = Y.length ∧
    (∀ id, ixSl Try.prog (some ⟨36, Y⟩) id 0 n (arI .sub .i64 (n : Int) 1) 6 = some (.ptr id j 0)) ∧
    ptrCells (some ⟨36, Y⟩) j 3 = some [.flat (.int .i64 N.ahead), .flat (.bool N.before), .flat (.bool N.behind)] ∧
    ptrCells (some ⟨36, Y⟩) j 5 = some [.flat (.bool N.behind)] ∧
    (∀ b, storeRow (some ⟨36, Y⟩) j 5 1 (.flat (.bool b)) = some ⟨36, Ys b⟩) :=
  ⟨_, O.length, _, _, rfl, rfl, fun _ => rfl, by simp [noteE], last_ix O N hO _ rfl, last_cel3 O N, last_cel5 O N, last_sto O N⟩
theorem notes_calls (ks : List Int) (l : List Tok) (hs : l.length ≤ 1000) (hb : ∀ t ∈ l, t.s.size ≤ maxLen) : ACalls Try.prog 20 [.ro (intE ks), .ro (tokE l)] (fun n => slV n (notesT ks l).length) (fun _ => slR 36 (noteE (notesT ks l))) := by
  refine acalls_sym tab_ok fn20 rfl rfl rfl (by kernel_rfl) ?_
  generalize hKs : intE ks = K
  generalize hX : tokE l = X
  rintro ⟨lt, le, eq, se, ar, dv, una, conv, len, sln, nat, nth, ixs, cel, sto, app, cpy, slc, mak, ixv, oth, dk, ib, call⟩ hS hm Q hQ
  obtain ⟨hlt, hle, heq, hse, har, hdv, huna, hconv, hlen, hsln, hnat, hnth, hixs, hcel, hsto, happ, hcpy, hslc, hmak, hixv, hoth, hdk, hib, hcall⟩ := Sym.mk.inj hS
  clear hS
  have hn : len X = l.length := by rw [hlen, ← hX, len_tok]
  have hbox : ∀ e c off, cel (some ⟨e, [c]⟩) 0 off = if off ≤ c.length then some (c.drop off) else none := fun e c off => by rw [hcel]; rfl
  have hsbox : ∀ e c off sz y, sto (some ⟨e, [c]⟩) 0 off sz y = if y.cells.length = sz ∧ off + sz ≤ c.length ∧ y.cells.all AV.one = true then some ⟨e, [spl c off y.cells]⟩ else none := fun e c off sz y => by rw [hsto]; rfl
  have h00 : lt 0 0 = false := by rw [hlt]; rfl
  have hpos : ∀ n : Nat, n ≠ 0 → lt 0 (nat n) = true := fun n h => by rw [hlt, hnat]; show decide ((0 : Int) < (n : Int)) = true; exact decide_eq_true (by omega)
  have heqr : ∀ a, eq a a = true := fun a => by rw [heq]; exact decide_eq_true rfl
  have hcal : ∀ {f args T base K}, CallK Try.prog f args T base K → call f args T base K := fun h => by rw [hcall]; exact h
  cbv
  refine MW_loop hm [] [0, 5, 6, 7, 11, 12, 13] 14 List.nodup_nil (fun k st => ∃ i : Int, At (fun _ => True) l i ∧ k = left l.length i ∧ ∃ (out : List NoteT) (A : Int) (B : Bool), nfold ks (l.take i.toNat) = ⟨out, A, B⟩ ∧ NB ⟨out, A, B⟩ i ∧
    ((out = [] ∧ st = stOf [.ro K, .dead, .dead, .dead, .dead, .flat (.slice none 0 0), .flat (.int .i64 A), .flat (.bool B), .dead, .dead, .dead, .ro X, .flat (.int .i64 (len X)), .flat (.int .i64 i)] [] 0) ∨
     ∃ (n : Nat) (Y : List (List AV)) (O : List NoteT) (N : NoteT), n = O.length + 1 ∧ out = O ++ [N] ∧ Y = noteE (O ++ [N]) ∧ st = stOf [.ro K, .dead, .dead, .dead, .dead, .sl 0 0 n, .flat (.int .i64 A), .flat (.bool B), .dead, .dead, .dead, .ro X, .flat (.int .i64 (len X)), .flat (.int .i64 i)] [some ⟨36, Y⟩] 1)) (left l.length 0) ?_ ?_
  · exact ⟨0, at_zero l, rfl, [], 0, true, rfl, nb_zero ks, .inl ⟨rfl, cut_eq (by cbv) (by cbv)⟩⟩
  · rintro k st ⟨i, hi, hk, out, A, B, hf, hnb, ⟨rfl, rfl⟩ | ⟨n, Y, O, N, hnn, rfl, hY, rfl⟩⟩
    · cbv
      cases hc : lt i (len X)
      · have hc' : decide (i < (l.length : Int)) = false := by rw [hlt, hn] at hc; exact hc
        cbv
        have hres : notesT ks l = [] := by rw [notesT, ← fold_end hi hc', hf]
        refine hQ _ _ trivial ?_
        rw [hres]
        exact G.Leaves.plain (x := .flat (.slice none 0 0)) (by cbv) rfl
      · have hc' : decide (i < (l.length : Int)) = true := by rw [hlt, hn] at hc; exact hc
        cbv
        have hix : nth X i 3 = some (.rp (tokC (tokAt l i))) := by rw [hnth, ← hX]; exact nth_tok hi hc'
        obtain ⟨q1, q2⟩ := at_step hi hc' trivial
        have hadd : ar .add .i64 i 1 = i + 1 := by rw [har]; exact at_add (Nat.le_trans hs (by decide)) hi hc'
        have haddA : ar .add .i64 A 1 = A + 1 := by rw [har]; exact nb_add hs hnb hi
        have hf' := fold_next (nstep ks) ⟨[], 0, true⟩ hi hc'
        have hnb' := nb_step (ks := ks) (tokAt l i) hnb
        rw [show (l.take i.toNat).foldl (nstep ks) ⟨[], 0, true⟩ = _ from hf] at hf'
        have hmem : tokAt l i ∈ l := by
          obtain ⟨hl, _, _⟩ := at_lt hi hc'
          simp only [tokAt, List.getD, List.getElem?_eq_getElem hl, Option.getD_some]
          exact List.getElem_mem hl
        have hbt := hb _ hmem
        generalize ht : tokAt l i = t at hix hf' hnb' hbt
        obtain ⟨tr, ts, ta⟩ := t
        have hcallK := kind_calls ks tr ts ta
        have hcallB := breaks_calls ts hbt
        generalize hq : kindOf ks tr = q at hcallK
        generalize hnl : nl ts = w at hcallB
        rw [hKs] at hcallK
        obtain ⟨n2, j2, Y2, Ys2, hn2, hY2, hYs2, hnY2, hlast2, hl32, hl52, hlS2⟩ := last_facts [] ⟨⟨tr, ts, ta⟩, A, B, false⟩ (by decide)
        rw [← hixs, ← har] at hlast2
        rw [← hcel] at hl32 hl52
        rw [← hsto] at hlS2
        rw [show ((n2 : Int)) = nat n2 by rw [hnat]] at hlast2
        dsimp only at hl32 hl52 hYs2
        have hnp2 : lt 0 (nat n2) = true := hpos n2 (by omega)
        rw [hix]; cbv
        rw [hsbox]; cbv
        rw [hbox]; cbv
        refine hcal ⟨_, [], _, _, .inl ⟨rfl, by cbv⟩, hcallK, by simp, ?_⟩
        cbv
        cases he : eq q 0
        · have k0 : kindOf ks tr ≠ 0 := by rw [heq] at he; rw [hq]; exact of_decide_eq_false he
          cbv
          cases he2 : eq q 2
          · have k2 : kindOf ks tr ≠ 2 := by rw [heq] at he2; rw [hq]; exact of_decide_eq_false he2
            cbv
            cases B
            · cbv
              rw [hbox]; cbv
              refine hcal ⟨_, [], _, _, .inl ⟨rfl, by cbv⟩, hcallB, by simp, ?_⟩
              cbv
              cases w
              · cbv
                rw [h00]; cbv
                rw [hadd]
                have hst := nstep_defF (ks := ks) (s := ⟨[], A, false⟩) (t := ⟨tr, ts, ta⟩) k0 k2 (by rw [hnl]; rfl)
                refine ⟨[], [0, 5, 6, 7, 11, 12, 13], 14, left l.length (i + 1), hk ▸ q2, by simp, i + 1, q1, rfl, _, _, _, hf'.trans hst, hst ▸ hnb', .inl ⟨rfl, cut_eq (by cbv) (by cbv)⟩⟩
              · cbv
                rw [h00]; cbv
                rw [hadd]
                have hst := nstep_defT (ks := ks) (s := ⟨[], A, false⟩) (t := ⟨tr, ts, ta⟩) k0 k2 (by rw [hnl]; rfl)
                refine ⟨[], [0, 5, 6, 7, 11, 12, 13], 14, left l.length (i + 1), hk ▸ q2, by simp, i + 1, q1, rfl, _, _, _, hf'.trans hst, hst ▸ hnb', .inl ⟨rfl, cut_eq (by cbv) (by cbv)⟩⟩
            · cbv
              rw [h00]; cbv
              rw [hadd]
              have hst := nstep_defT (ks := ks) (s := ⟨[], A, true⟩) (t := ⟨tr, ts, ta⟩) k0 k2 rfl
              refine ⟨[], [0, 5, 6, 7, 11, 12, 13], 14, left l.length (i + 1), hk ▸ q2, by simp, i + 1, q1, rfl, _, _, _, hf'.trans hst, hst ▸ hnb', .inl ⟨rfl, cut_eq (by cbv) (by cbv)⟩⟩
          · have k2 : kindOf ks tr = 2 := by rw [heq] at he2; rw [hq]; exact of_decide_eq_true he2
            cbv
            rw [hbox]; cbv
            rw [happ, app_nil1 (n := n2) (Y := Y2) (z := .agg #[.int .i64 0, .string ⟨#[]⟩, .int .i64 0, .int .i64 0, .bool false, .bool false]) (sz := 6) (b := 48) (by kernel_rfl) (by kernel_rfl) (by kernel_rfl) (by decide) rfl (by decide) (by rfl) rfl hn2 hY2]; cbv
            rw [hbox]; cbv
            refine hcal ⟨_, [], _, _, .inl ⟨rfl, by cbv⟩, hcallB, by simp, ?_⟩
            cbv
            rw [hnp2]; cbv
            cases w
            · cbv
              rw [hadd]
              have hst := nstep_comF (ks := ks) (s := ⟨[], A, B⟩) (t := ⟨tr, ts, ta⟩) k2 hnl
              refine ⟨[144], [0, 5, 6, 7, 11, 12, 13], 14, left l.length (i + 1), hk ▸ q2, by simp, i + 1, q1, rfl, _, _, _, hf'.trans hst, hst ▸ hnb', .inr ⟨n2, Y2, _, _, hn2, rfl, hY2, cut_eq (by cbv) (cutRows1 (by rfl) (by rw [hY2]; exact note_closed))⟩⟩
            · cbv
              rw [hlast2]; cbv
              rw [hl52]; cbv
              rw [hlast2]; cbv
              rw [hl32]; cbv
              rw [heqr]; cbv
              rw [hlast2]; cbv
              rw [hlS2]; cbv
              rw [hadd]
              have hst := nstep_comT (ks := ks) (s := ⟨[], A, B⟩) (t := ⟨tr, ts, ta⟩) k2 hnl
              refine ⟨[144], [0, 5, 6, 7, 11, 12, 13], 14, left l.length (i + 1), hk ▸ q2, by simp, i + 1, q1, rfl, _, _, _, hf'.trans hst, hst ▸ hnb', .inr ⟨n2, _, _, _, hn2, rfl, hYs2 _, cut_eq (by cbv) (cutRows1 (by rfl) (by rw [hYs2]; exact note_closed))⟩⟩
        · have k0 : kindOf ks tr = 0 := by rw [heq] at he; rw [hq]; exact of_decide_eq_true he
          cbv
          rw [h00]; cbv
          rw [haddA]
          rw [hadd]
          have hst := nstep_main (ks := ks) (s := ⟨[], A, B⟩) (t := ⟨tr, ts, ta⟩) k0
          refine ⟨[], [0, 5, 6, 7, 11, 12, 13], 14, left l.length (i + 1), hk ▸ q2, by simp, i + 1, q1, rfl, _, _, _, hf'.trans hst, hst ▸ hnb', .inl ⟨rfl, cut_eq (by cbv) (by cbv)⟩⟩
    · cbv
      cases hc : lt i (len X)
      · have hc' : decide (i < (l.length : Int)) = false := by rw [hlt, hn] at hc; exact hc
        cbv
        have hres : notesT ks l = O ++ [N] := by rw [notesT, ← fold_end hi hc', hf]
        refine hQ _ _ trivial ?_
        have e1 : (O ++ [N]).length = n := by rw [hnn, List.length_append]; rfl
        rw [hres, e1, ← hY]
        have e2 : slR 36 Y = [⟨36, Y⟩] := by unfold slR; rw [if_neg (by rw [hY, noteE, List.length_map, e1]; omega)]
        have e3 : (fun m => slV m n) = fun m => AV.sl m 0 n := by funext m; unfold slV; rw [if_neg (by omega)]
        rw [e2, e3]
        exact G.Leaves.row (k := 0) (r := ⟨36, Y⟩) (by cbv) (by rfl) (fun e he => by rw [hY] at he; exact note_closed e he)
      · have hc' : decide (i < (l.length : Int)) = true := by rw [hlt, hn] at hc; exact hc
        have hOl : O.length + 1 ≤ 1000 := by have := hnb.2.2; have h5 := hi.2.1; simp at this; omega
        obtain ⟨n1, j, Y1, Ys, hn1, hY1, hYs, hnY, hlast, hl3, hl5, hlS⟩ := last_facts O N (by omega)
        obtain rfl : n1 = n := by rw [hn1, hnn]
        obtain rfl : Y1 = Y := by rw [hY1, hY]
        rw [← hixs, ← har] at hlast
        rw [← hcel] at hl3 hl5
        rw [← hsto] at hlS
        rw [show ((n1 : Int)) = nat n1 by rw [hnat]] at hlast
        have hnp : lt 0 (nat n1) = true := hpos n1 (by omega)
        cbv
        have hix : nth X i 3 = some (.rp (tokC (tokAt l i))) := by rw [hnth, ← hX]; exact nth_tok hi hc'
        obtain ⟨q1, q2⟩ := at_step hi hc' trivial
        have hadd : ar .add .i64 i 1 = i + 1 := by rw [har]; exact at_add (Nat.le_trans hs (by decide)) hi hc'
        have haddA : ar .add .i64 A 1 = A + 1 := by rw [har]; exact nb_add hs hnb hi
        have hf' := fold_next (nstep ks) ⟨[], 0, true⟩ hi hc'
        have hnb' := nb_step (ks := ks) (tokAt l i) hnb
        rw [show (l.take i.toNat).foldl (nstep ks) ⟨[], 0, true⟩ = _ from hf] at hf'
        have hmem : tokAt l i ∈ l := by
          obtain ⟨hl, _, _⟩ := at_lt hi hc'
          simp only [tokAt, List.getD, List.getElem?_eq_getElem hl, Option.getD_some]
          exact List.getElem_mem hl
        have hbt := hb _ hmem
        generalize ht : tokAt l i = t at hix hf' hnb' hbt
        obtain ⟨tr, ts, ta⟩ := t
        have hcallK := kind_calls ks tr ts ta
        have hcallB := breaks_calls ts hbt
        generalize hq : kindOf ks tr = q at hcallK
        generalize hnl : nl ts = w at hcallB
        rw [hKs] at hcallK
        obtain ⟨Nt, Na, Nb, Nh⟩ := N
        dsimp only at hl3 hl5 hYs
        obtain ⟨n2, j2, Y2, Ys2, hn2, hY2, hYs2, hnY2, hlast2, hl32, hl52, hlS2⟩ := last_facts (O ++ [⟨Nt, Na, Nb, Nh⟩]) ⟨⟨tr, ts, ta⟩, A, B, false⟩ (by simpa using hOl)
        rw [← hixs, ← har] at hlast2
        rw [← hcel] at hl32 hl52
        rw [← hsto] at hlS2
        rw [show ((n2 : Int)) = nat n2 by rw [hnat]] at hlast2
        dsimp only at hl32 hl52 hYs2
        have hnp2 : lt 0 (nat n2) = true := hpos n2 (by omega)
        rw [hix]; cbv
        rw [hsbox]; cbv
        rw [hbox]; cbv
        refine hcal ⟨_, [], _, _, .inl ⟨rfl, by cbv⟩, hcallK, by simp, ?_⟩
        cbv
        cases he : eq q 0
        · have k0 : kindOf ks tr ≠ 0 := by rw [heq] at he; rw [hq]; exact of_decide_eq_false he
          cbv
          cases he2 : eq q 2
          · have k2 : kindOf ks tr ≠ 2 := by rw [heq] at he2; rw [hq]; exact of_decide_eq_false he2
            cbv
            cases B
            · cbv
              rw [hbox]; cbv
              refine hcal ⟨_, [], _, _, .inl ⟨rfl, by cbv⟩, hcallB, by simp, ?_⟩
              cbv
              cases w
              · cbv
                rw [hnp]; cbv
                rw [hadd]
                have hst := nstep_defF (ks := ks) (s := ⟨O ++ [⟨Nt, Na, Nb, Nh⟩], A, false⟩) (t := ⟨tr, ts, ta⟩) k0 k2 (by rw [hnl]; rfl)
                refine ⟨[0], [0, 5, 6, 7, 11, 12, 13], 14, left l.length (i + 1), hk ▸ q2, by simp, i + 1, q1, rfl, _, _, _, hf'.trans hst, hst ▸ hnb', .inr ⟨n1, Y1, O, ⟨Nt, Na, Nb, Nh⟩, hnn, rfl, hY, cut_eq (by cbv) (cutRows1 (by rfl) (by rw [hY]; exact note_closed))⟩⟩
              · cbv
                rw [hnp]; cbv
                have hst := nstep_defT (ks := ks) (s := ⟨O ++ [⟨Nt, Na, Nb, Nh⟩], A, false⟩) (t := ⟨tr, ts, ta⟩) k0 k2 (by rw [hnl]; rfl)
                rw [mark_snoc] at hst
                rw [hlast]; cbv
                rw [hl5]; cbv
                cases Nh
                · cbv
                  rw [hlast]; cbv
                  rw [hl3]; cbv
                  rw [hlast]; cbv
                  rw [hlS]; cbv
                  rw [show decide (Na = A) = eq Na A by rw [heq]] at hst
                  generalize eq Na A = v at hst ⊢
                  rw [Bool.false_or] at hst
                  rw [hadd]
                  skip
                  refine ⟨[0], [0, 5, 6, 7, 11, 12, 13], 14, left l.length (i + 1), hk ▸ q2, by simp, i + 1, q1, rfl, _, _, _, hf'.trans hst, hst ▸ hnb', .inr ⟨n1, _, O, _, hnn, rfl, hYs _, cut_eq (by cbv) (cutRows1 (by rfl) (by rw [hYs]; exact note_closed))⟩⟩
                · cbv
                  rw [hlast]; cbv
                  rw [hlS]; cbv
                  rw [hadd]
                  rw [Bool.true_or] at hst
                  refine ⟨[0], [0, 5, 6, 7, 11, 12, 13], 14, left l.length (i + 1), hk ▸ q2, by simp, i + 1, q1, rfl, _, _, _, hf'.trans hst, hst ▸ hnb', .inr ⟨n1, _, O, _, hnn, rfl, hYs _, cut_eq (by cbv) (cutRows1 (by rfl) (by rw [hYs]; exact note_closed))⟩⟩
            · cbv
              rw [hnp]; cbv
              have hst := nstep_defT (ks := ks) (s := ⟨O ++ [⟨Nt, Na, Nb, Nh⟩], A, true⟩) (t := ⟨tr, ts, ta⟩) k0 k2 rfl
              rw [mark_snoc] at hst
              rw [hlast]; cbv
              rw [hl5]; cbv
              cases Nh
              · cbv
                rw [hlast]; cbv
                rw [hl3]; cbv
                rw [hlast]; cbv
                rw [hlS]; cbv
                rw [show decide (Na = A) = eq Na A by rw [heq]] at hst
                generalize eq Na A = v at hst ⊢
                rw [Bool.false_or] at hst
                rw [hadd]
                skip
                refine ⟨[0], [0, 5, 6, 7, 11, 12, 13], 14, left l.length (i + 1), hk ▸ q2, by simp, i + 1, q1, rfl, _, _, _, hf'.trans hst, hst ▸ hnb', .inr ⟨n1, _, O, _, hnn, rfl, hYs _, cut_eq (by cbv) (cutRows1 (by rfl) (by rw [hYs]; exact note_closed))⟩⟩
              · cbv
                rw [hlast]; cbv
                rw [hlS]; cbv
                rw [hadd]
                rw [Bool.true_or] at hst
                refine ⟨[0], [0, 5, 6, 7, 11, 12, 13], 14, left l.length (i + 1), hk ▸ q2, by simp, i + 1, q1, rfl, _, _, _, hf'.trans hst, hst ▸ hnb', .inr ⟨n1, _, O, _, hnn, rfl, hYs _, cut_eq (by cbv) (cutRows1 (by rfl) (by rw [hYs]; exact note_closed))⟩⟩
          · have k2 : kindOf ks tr = 2 := by rw [heq] at he2; rw [hq]; exact of_decide_eq_true he2
            cbv
            rw [hbox]; cbv
            rw [happ, app_tip (X := Y1) (Y := Y2) (n' := n2) (z := .agg #[.int .i64 0, .string ⟨#[]⟩, .int .i64 0, .int .i64 0, .bool false, .bool false]) (sz := 6) (b := 48) (by kernel_rfl) (by kernel_rfl) (by kernel_rfl) (by decide) rfl (by decide) (by rfl) (by rfl) rfl hnY (by rw [hn2, hnn, List.length_append]; rfl) (by rw [hY2, noteE_app, hY]; rfl) (by rw [hn2]; simp; omega)]; cbv
            rw [hbox]; cbv
            refine hcal ⟨_, [], _, _, .inl ⟨rfl, by cbv⟩, hcallB, by simp, ?_⟩
            cbv
            rw [hnp2]; cbv
            cases w
            · cbv
              rw [hadd]
              have hst := nstep_comF (ks := ks) (s := ⟨O ++ [⟨Nt, Na, Nb, Nh⟩], A, B⟩) (t := ⟨tr, ts, ta⟩) k2 hnl
              refine ⟨[145], [0, 5, 6, 7, 11, 12, 13], 14, left l.length (i + 1), hk ▸ q2, by simp, i + 1, q1, rfl, _, _, _, hf'.trans hst, hst ▸ hnb', .inr ⟨n2, Y2, _, _, hn2, rfl, hY2, cut_eq (by cbv) (cutRows1 (by rfl) (by rw [hY2]; exact note_closed))⟩⟩
            · cbv
              rw [hlast2]; cbv
              rw [hl52]; cbv
              rw [hlast2]; cbv
              rw [hl32]; cbv
              rw [heqr]; cbv
              rw [hlast2]; cbv
              rw [hlS2]; cbv
              rw [hadd]
              have hst := nstep_comT (ks := ks) (s := ⟨O ++ [⟨Nt, Na, Nb, Nh⟩], A, B⟩) (t := ⟨tr, ts, ta⟩) k2 hnl
              refine ⟨[145], [0, 5, 6, 7, 11, 12, 13], 14, left l.length (i + 1), hk ▸ q2, by simp, i + 1, q1, rfl, _, _, _, hf'.trans hst, hst ▸ hnb', .inr ⟨n2, _, _, _, hn2, rfl, hYs2 _, cut_eq (by cbv) (cutRows1 (by rfl) (by rw [hYs2]; exact note_closed))⟩⟩
        · have k0 : kindOf ks tr = 0 := by rw [heq] at he; rw [hq]; exact of_decide_eq_true he
          cbv
          rw [hnp]; cbv
          rw [haddA]
          rw [hadd]
          have hst := nstep_main (ks := ks) (s := ⟨O ++ [⟨Nt, Na, Nb, Nh⟩], A, B⟩) (t := ⟨tr, ts, ta⟩) k0
          refine ⟨[0], [0, 5, 6, 7, 11, 12, 13], 14, left l.length (i + 1), hk ▸ q2, by simp, i + 1, q1, rfl, _, _, _, hf'.trans hst, hst ▸ hnb', .inr ⟨n1, Y1, O, ⟨Nt, Na, Nb, Nh⟩, hnn, rfl, hY, cut_eq (by cbv) (cutRows1 (by rfl) (by rw [hY]; exact note_closed))⟩⟩
end Go.Proofs.Ythilmgpciiopnaa.K
