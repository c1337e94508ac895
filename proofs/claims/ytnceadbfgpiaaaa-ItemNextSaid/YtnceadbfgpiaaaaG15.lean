/- A region that draws its order: whatever the order, it comes to what the text's order comes to, where no operation writes what another one looks at, unless one is behind the other. Plain theorems over any program. -/
import Derived.Test.YtnceadbfgpiaaaaG14
namespace Go.Proofs.Ytnceadbfgpiaaaa.G
set_option linter.unusedVariables false
set_option linter.unusedSimpArgs false
open Go
variable {P : Program}

/-! ### What an operation looks at -/
theorem evParts_congr {ρ ρ' : Operand → Option AV} : ∀ (l : List (Nat × Operand)), (∀ x ∈ l, ρ' x.2 = ρ x.2) → evParts ρ' l = evParts ρ l := by
  intro l
  induction l with
  | nil => intro _; rfl
  | cons p l ih =>
    intro h
    obtain ⟨i, x⟩ := p
    simp only [evParts, h (i, x) (by simp), ih fun y hy => h y (by simp [hy])]
theorem evVals_congr {ρ ρ' : Operand → Option AV} : ∀ (l : List Operand), (∀ x ∈ l, ρ' x = ρ x) → evVals ρ' l = evVals ρ l := by
  intro l
  induction l with
  | nil => intro _; rfl
  | cons p l ih =>
    intro h
    simp only [evVals, h p (by simp), ih fun y hy => h y (by simp [hy])]
theorem optA_congr {ρ ρ' : Operand → Option AV} (x : Option Operand) (h : ∀ y, x = some y → ρ' y = ρ y) : optA ρ' x = optA ρ x := by
  cases x with
  | none => rfl
  | some x => simp only [optA, h x rfl]

theorem evOp_congr {T : Table} {id : Nat} {ρ ρ' : Operand → Option AV} {ty : TypeId} {op : Op} (h : ∀ x ∈ op.operands.toList, ρ' x = ρ x) : evOp P T id ρ' ty op = evOp P T id ρ ty op := by
  cases op with
  | build t ps =>
    simp only [evOp]
    rw [evParts_congr _ fun x hx => h x.2 (by simp [Op.operands]; exact ⟨x.1, by simpa using hx⟩)]
  | buildSlice t n ps =>
    simp only [evOp]
    rw [evParts_congr _ fun x hx => h x.2 (by simp [Op.operands]; exact ⟨x.1, by simpa using hx⟩)]
  | slice t x l hi m =>
    cases m with
    | some m => rfl
    | none =>
      simp only [evOp]
      rw [h x (by simp [Op.operands]), optA_congr l fun y hy => h y (by subst hy; simp [Op.operands]), optA_congr hi fun y hy => h y (by subst hy; simp [Op.operands])]
  | call c =>
    obtain ⟨callee, args, ts⟩ := c
    cases callee with
    | builtin b =>
      have h' : ∀ x ∈ args.toList, ρ' x = ρ x := fun x hx => h x (by simp [Op.operands, Call.operands]; first | exact .inr (by simpa using hx) | simpa using hx)
      simp only [evOp]
      unfold evBuiltin
      split
      · rename_i x t ha _; rw [h' x (by rw [ha]; simp)]
      · rename_i x y t u ha _; rw [h' x (by rw [ha]; simp), h' y (by rw [ha]; simp)]
      · rename_i x y t u ha _; rw [h' x (by rw [ha]; simp), h' y (by rw [ha]; simp)]
      · rw [evVals_congr _ h']
      · rw [evVals_congr _ h']
      · rfl
    | _ => rfl
  | _ => first | rfl | (simp only [evOp]; simp only [Op.operands] at h; simp_all)

/-- What an operation does to the table: it looks at what it reads and writes, and leaves the rest. -/
def TFrame (ev : Table → Option (AV × Table)) (rd wr : List Nat) : Prop :=
  ∀ (T T2 : Table) (v : AV) (T' : Table), (∀ k ∈ rd, T2 k = T k) → (∀ k ∈ wr, T2 k = T k) → ev T = some (v, T') → ∃ T2', ev T2 = some (v, T2') ∧ (∀ k ∈ wr, T2' k = T' k) ∧ (∀ k, k ∉ wr → T' k = T k ∧ T2' k = T2 k)

theorem TFrame.pure {f : Table → Option AV} {rd wr : List Nat} (h : ∀ T T2, (∀ k ∈ rd, T2 k = T k) → f T2 = f T) : TFrame (fun T => (f T).map (·, T)) rd wr := by
  intro T T2 v T' hr hw he
  obtain ⟨c, hc, hp⟩ := Option.map_eq_some_iff.1 he
  simp only [Prod.mk.injEq] at hp
  obtain ⟨rfl, rfl⟩ := hp
  exact ⟨T2, by simp only [h T T2 hr, hc]; rfl, fun k hk => hw k hk, fun k _ => ⟨rfl, rfl⟩⟩

theorem TFrame.set {id : Nat} {f : Option (AV × Option Row)} {rd wr : List Nat} (hid : id ∈ wr) : TFrame (fun T => f.map fun p => (p.1, T.set id p.2)) rd wr := by
  intro T T2 v T' hr hw he
  obtain ⟨c, hc, hp⟩ := Option.map_eq_some_iff.1 he
  simp only [Prod.mk.injEq] at hp
  obtain ⟨rfl, rfl⟩ := hp
  refine ⟨T2.set id c.2, by simp only [hc]; rfl, fun k hk => ?_, fun k hk => ?_⟩
  · unfold Table.set; split
    · rfl
    · exact hw k hk
  · have hne : k ≠ id := fun e => hk (e ▸ hid)
    simp [Table.set, hne]

theorem TFrame.congr {ev ev' : Table → Option (AV × Table)} {rd wr : List Nat} (h : TFrame ev rd wr) (he : ∀ T, ev' T = ev T) : TFrame ev' rd wr := by
  have : ev' = ev := funext he
  rw [this]; exact h
theorem TFrame.none {rd wr : List Nat} : TFrame (fun _ => none) rd wr := fun T T2 v T' _ _ h => by cases h
theorem TFrame.bind {α : Type} {x : Option α} {f : α → Table → Option (AV × Table)} {rd wr : List Nat} (h : ∀ a, x = some a → TFrame (f a) rd wr) : TFrame (fun T => x.bind fun a => f a T) rd wr := by
  cases x with
  | none => exact TFrame.none
  | some a => exact h a rfl

theorem cellsAt_congr {T T2 : Table} {a : AV} (h : ∀ k ∈ idOf a, T2 k = T k) : cellsAt T2 a = cellsAt T a := by
  cases a with
  | ptr id i off => simp only [cellsAt, h id (by simp [idOf])]
  | _ => rfl
theorem srcEls_congr {T T2 : Table} {a : AV} (h : ∀ k ∈ idOf a, T2 k = T k) : srcEls T2 a = srcEls T a := by
  cases a with
  | sl id i off => simp only [srcEls, h id (by simp [idOf])]
  | flat v => cases v with
    | slice A n c => cases A <;> cases n <;> cases c <;> rfl
    | _ => rfl
  | _ => rfl
theorem srcFit_congr {T T2 : Table} {sz : Nat} {a : AV} (h : ∀ k ∈ idOf a, T2 k = T k) : srcFit P T2 sz a = srcFit P T sz a := by
  cases a with
  | sl id i off => simp only [srcFit, h id (by simp [idOf])]
  | flat v => cases v <;> rfl
  | _ => rfl
theorem evIndexAddr_congr {T T2 : Table} {t : TypeId} {a b : AV} (h : ∀ k ∈ idOf a, T2 k = T k) : evIndexAddr P T2 t a b = evIndexAddr P T t a b := by
  cases a with
  | sl id i off => simp only [evIndexAddr, h id (by simp [idOf])]
  | _ => rfl
theorem evSlice_congr {T T2 : Table} {t : TypeId} {a : AV} {l hi : Option AV} (h : ∀ k ∈ idOf a, T2 k = T k) : evSlice P T2 t a l hi = evSlice P T t a l hi := by
  cases a with
  | sl id i off => simp only [evSlice, h id (by simp [idOf])]
  | flat v => cases v with
    | slice A n c => cases A <;> cases n <;> cases c <;> rfl
    | _ => rfl
  | _ => rfl
theorem evBytes_congr {T T2 : Table} {t u : TypeId} {a : AV} (h : ∀ k ∈ idOf a, T2 k = T k) : evBytes P T2 t u a = evBytes P T t u a := by
  have e1 := srcFit_congr (P := P) (sz := 1) h
  have e2 := srcEls_congr h
  cases a with
  | flat v => simp only [evBytes, e1]
  | _ => simp only [evBytes, e1, e2]

theorem frame_set {T T2 : Table} {wr : List Nat} {id : Nat} (hw : ∀ k ∈ wr, T2 k = T k) (hid : id ∈ wr) (r : Option Row) :
    (∀ k ∈ wr, (T2.set id r) k = (T.set id r) k) ∧ ∀ k, k ∉ wr → (T.set id r) k = T k ∧ (T2.set id r) k = T2 k := by
  refine ⟨fun k hk => ?_, fun k hk => ?_⟩
  · unfold Table.set; split
    · rfl
    · exact hw k hk
  · have hne : k ≠ id := fun e => hk (e ▸ hid)
    simp [Table.set, hne]
theorem frame_set2 {T T2 : Table} {wr : List Nat} {id id' : Nat} (hw : ∀ k ∈ wr, T2 k = T k) (hid : id ∈ wr) (hid' : id' ∈ wr) (r r' : Option Row) :
    (∀ k ∈ wr, ((T2.set id r).set id' r') k = ((T.set id r).set id' r') k) ∧ ∀ k, k ∉ wr → ((T.set id r).set id' r') k = T k ∧ ((T2.set id r).set id' r') k = T2 k := by
  obtain ⟨h1, h2⟩ := frame_set hw hid r
  obtain ⟨h3, h4⟩ := frame_set h1 hid' r'
  exact ⟨h3, fun k hk => ⟨(h4 k hk).1.trans (h2 k hk).1, (h4 k hk).2.trans (h2 k hk).2⟩⟩

theorem box_frame {id : Nat} {e : TypeId} {cs : List AV} {rd wr : List Nat} (hid : id ∈ wr) : TFrame (fun T => evBox P T id e cs) rd wr := by
  intro T T2 v T' hr hw he
  simp only [evBox] at he ⊢
  split at he
  · split at he
    · simp only [Option.some.injEq, Prod.mk.injEq] at he
      obtain ⟨rfl, rfl⟩ := he
      obtain ⟨h1, h2⟩ := frame_set hw hid (some ⟨e, [cs]⟩)
      exact ⟨_, by simp only [*]; rfl, h1, h2⟩
    · cases he
  · cases he

theorem make_frame {id : Nat} {t : TypeId} {l c : AV} {rd wr : List Nat} (hid : id ∈ wr) : TFrame (fun T => evMake P T id t l c) rd wr := by
  intro T T2 v T' hr hw he
  simp only [evMake] at he ⊢
  split at he
  · split at he
    · rename_i z sz b ht
      split at he
      · rename_i hc
        simp only [Option.some.injEq, Prod.mk.injEq] at he
        obtain ⟨rfl, rfl⟩ := he
        obtain ⟨h1, h2⟩ := frame_set hw hid (some ⟨_, _⟩)
        exact ⟨_, by simp only [ht, if_pos hc], h1, h2⟩
      · cases he
    · cases he
  · cases he

theorem buildSlice_frame {id : Nat} {t : TypeId} {n : Nat} {ps : List (Nat × AV)} {rd wr : List Nat} (hid : id ∈ wr) : TFrame (fun T => evBuildSlice P T id t n ps) rd wr := by
  intro T T2 v T' hr hw he
  simp only [evBuildSlice] at he ⊢
  split at he
  · split at he
    · rename_i z sz b ht
      split at he
      · rename_i hc
        obtain ⟨els, hels, he⟩ := Option.map_eq_some_iff.1 he
        simp only [Prod.mk.injEq] at he
        obtain ⟨rfl, rfl⟩ := he
        obtain ⟨h1, h2⟩ := frame_set hw hid (some ⟨_, els⟩)
        exact ⟨_, by simp only [ht, if_pos hc, hels]; rfl, h1, h2⟩
      · cases he
    · cases he
  · cases he

theorem store_frame {t : TypeId} {a b : AV} {rd wr : List Nat} (hw0 : ∀ k ∈ idOf a, k ∈ wr) : TFrame (fun T => (evStore P T t a b).map fun T' => (AV.flat undef, T')) rd wr := by
  intro T T2 v T' hr hw he
  obtain ⟨T1, h1, he⟩ := Option.map_eq_some_iff.1 he
  simp only [Prod.mk.injEq] at he
  obtain ⟨rfl, rfl⟩ := he
  simp only [evStore] at h1 ⊢
  split at h1
  · rename_i id i off z sz b' ht
    obtain ⟨r, hr1, h1⟩ := Option.bind_eq_some_iff.1 h1
    obtain ⟨e, he1, h1⟩ := Option.bind_eq_some_iff.1 h1
    split at h1
    · rename_i hc
      obtain rfl := Option.some.inj h1
      have hid : id ∈ wr := hw0 id (by simp [idOf])
      obtain ⟨q1, q2⟩ := frame_set hw hid (some ⟨r.elem, r.els.set i (spl e off b.cells)⟩)
      refine ⟨_, ?_, q1, q2⟩
      simp only [hw id hid, hr1, Option.bind_some, he1, if_pos hc]
      rfl
    · cases h1
  · cases h1

theorem copy_frame {t : TypeId} {d x : AV} {rd wr : List Nat} (hw0 : ∀ k ∈ idOf d, k ∈ wr) (hx : ∀ k ∈ idOf x, k ∈ wr) : TFrame (fun T => evCopy P T t d x) rd wr := by
  intro T T2 v T' hr hw he
  simp only [evCopy] at he ⊢
  split at he
  · rename_i e id off n ht
    split at he
    · rename_i z sz b hti
      rw [srcFit_congr (T := T) fun k hk => hw k (hx k hk), srcEls_congr (T := T) fun k hk => hw k (hx k hk)]
      have hid : id ∈ wr := hw0 id (by simp [idOf])
      split at he
      · rename_i hc
        obtain ⟨els, hels, he⟩ := Option.bind_eq_some_iff.1 he
        obtain ⟨r, hr1, he⟩ := Option.bind_eq_some_iff.1 he
        split at he
        · rename_i hc2
          simp only [Option.some.injEq, Prod.mk.injEq] at he
          obtain ⟨rfl, rfl⟩ := he
          obtain ⟨q1, q2⟩ := frame_set hw hid (some ⟨r.elem, r.els.take off ++ els.take (min els.length n) ++ r.els.drop (off + (els.take (min els.length n)).length)⟩)
          refine ⟨_, ?_, q1, q2⟩
          simp only [hti, if_pos hc, hels, Option.bind_some, hw id hid, hr1]
          rw [if_pos hc2]
        · cases he
      · cases he
    · cases he
  · cases he

theorem append_frame0 {id : Nat} {t u : TypeId} {s x : AV} {rd wr : List Nat} (hid : id ∈ wr) (hw0 : ∀ k ∈ idOf s, k ∈ wr) (hx : ∀ k ∈ idOf x, k ∈ wr) : TFrame (fun T => evApp0 P T id t u s x) rd wr := by
  intro T T2 v T' hr hw he
  simp only [evApp0] at he ⊢
  split at he
  · rename_i e du ht hu
    split at he
    · rename_i z sz b hti
      rw [srcFit_congr (T := T) fun k hk => hw k (hx k hk), srcEls_congr (T := T) fun k hk => hw k (hx k hk)]
      split at he
      · rename_i hc
        obtain ⟨news, hn, he⟩ := Option.bind_eq_some_iff.1 he
        split at he
        · rename_i hc2
          simp only [if_pos hc, hn, Option.bind_some, if_pos hc2]
          split at he
          · split at he
            · rename_i hc3
              simp only [Option.some.injEq, Prod.mk.injEq] at he
              obtain ⟨rfl, rfl⟩ := he
              obtain ⟨q1, q2⟩ := frame_set hw hid (some ⟨e, news⟩)
              exact ⟨_, by simp only [if_pos hc3], q1, q2⟩
            · cases he
          · rename_i id0 off n _
            have hid0 : id0 ∈ wr := hw0 id0 (by simp [idOf])
            obtain ⟨r, hr1, he⟩ := Option.bind_eq_some_iff.1 he
            simp only [hw id0 hid0, hr1, Option.bind_some]
            split at he
            · rename_i hc3
              split at he
              · rename_i hc4
                simp only [Option.some.injEq, Prod.mk.injEq] at he
                obtain ⟨rfl, rfl⟩ := he
                obtain ⟨q1, q2⟩ := frame_set2 hw hid0 hid none (some ⟨e, r.els.drop off ++ news⟩)
                exact ⟨_, by simp only [if_pos hc3, if_pos hc4], q1, q2⟩
              · cases he
            · rename_i hc3
              split at he
              · rename_i hc4
                simp only [Option.some.injEq, Prod.mk.injEq] at he
                obtain ⟨rfl, rfl⟩ := he
                obtain ⟨q1, q2⟩ := frame_set hw hid0 (some ⟨e, r.els.take (off + n) ++ news ++ r.els.drop (off + n + news.length)⟩)
                exact ⟨_, by simp only [if_neg hc3, if_pos hc4], q1, q2⟩
              · cases he
          · cases he
        · cases he
      · cases he
    · cases he
  · cases he

theorem trimS_eq {T T2 : Table} {s : AV} {wr : List Nat} (hw : ∀ k ∈ wr, T2 k = T k) (hw0 : ∀ k ∈ idOf s, k ∈ wr) : (∀ k ∈ wr, trimS T2 s k = trimS T s k) ∧ (∀ k, k ∉ wr → trimS T s k = T k ∧ trimS T2 s k = T2 k) := by
  unfold trimS
  split
  · rename_i id off n
    have hid : id ∈ wr := hw0 id (by simp [idOf])
    simp only [hw id hid]
    cases hTid : T id with
    | some r =>
      dsimp only
      refine ⟨fun k hk => ?_, fun k hk => ?_⟩
      · unfold Table.set
        split
        · rfl
        · exact hw k hk
      · have hne : k ≠ id := fun e => hk (e ▸ hid)
        unfold Table.set
        rw [if_neg hne, if_neg hne]
        exact ⟨rfl, rfl⟩
    | none => exact ⟨hw, fun _ _ => ⟨rfl, rfl⟩⟩
  · exact ⟨hw, fun _ _ => ⟨rfl, rfl⟩⟩
theorem append_frame {id : Nat} {t u : TypeId} {s x : AV} {rd wr : List Nat} (hid : id ∈ wr) (hw0 : ∀ k ∈ idOf s, k ∈ wr) (hx : ∀ k ∈ idOf x, k ∈ wr) : TFrame (fun T => evAppend P T id t u s x) rd wr := by
  intro T T2 v T' hr hw he
  obtain ⟨q1, q2⟩ := trimS_eq (s := s) hw hw0
  have := append_frame0 (P := P) (t := t) (u := u) (s := s) (x := x) (rd := []) hid hw0 hx (trimS T s) (trimS T2 s) v T' (fun k hk => by simp at hk) q1 he
  obtain ⟨T2', h1, h2, h3⟩ := this
  exact ⟨T2', h1, h2, fun k hk => by rw [(h3 k hk).1, (h3 k hk).2]; exact q2 k hk⟩

theorem opIds_of {st : St} {x : Operand} {a : AV} (h : st.op x = some a) : opIds st x = idOf a := by unfold opIds; rw [h]

theorem evOp_frame {st : St} {id : Nat} {ty : TypeId} {op : Op} : TFrame (fun T => evOp P T id st.op ty op) (readsOf st op) (writesOf st id op) := by
  have rdx : ∀ {x : Operand} {a : AV}, x ∈ op.operands.toList → st.op x = some a → ∀ k ∈ idOf a, k ∈ readsOf st op := by
    intro x a hx ha k hk
    unfold readsOf
    rw [List.mem_flatMap]
    exact ⟨x, hx, by rw [opIds_of ha]; exact hk⟩
  cases op with
  | move x => exact TFrame.pure fun _ _ _ => rfl
  | assign x => exact TFrame.pure fun _ _ _ => rfl
  | pick c x y =>
    refine TFrame.bind fun a ha => ?_
    cases a with
    | flat v => cases v with
      | bool t => exact TFrame.pure fun _ _ _ => rfl
      | _ => exact TFrame.none
    | _ => exact TFrame.none
  | alloc e =>
    simp only [evOp]
    split
    · split
      · exact box_frame (by simp [writesOf])
      · exact TFrame.none
    · exact TFrame.none
  | box e x => exact TFrame.bind fun a ha => box_frame (by simp [writesOf])
  | build t ps => exact TFrame.bind fun a ha => TFrame.pure fun _ _ _ => rfl
  | buildSlice t n ps => exact TFrame.bind fun a ha => buildSlice_frame (by simp [writesOf])
  | load t x =>
    refine TFrame.bind fun a ha => TFrame.pure fun T T2 h => ?_
    unfold evLoad
    rw [cellsAt_congr fun k hk => h k (rdx (by simp [Op.operands]) ha k hk)]
  | store t x y =>
    refine TFrame.bind fun a ha => TFrame.bind fun b hb => store_frame fun k hk => ?_
    simp only [writesOf]
    rw [opIds_of ha]; exact hk
  | nilCheck x =>
    refine TFrame.bind fun a ha => ?_
    refine (TFrame.pure (f := fun _ => if ptrLike a = true ∨ fnFlat a = true then some a else none) fun _ _ _ => rfl).congr fun T => ?_
    by_cases h : ptrLike a = true ∨ fnFlat a = true <;> simp [h]
  | binOp o t x y yt => exact TFrame.bind fun a ha => TFrame.bind fun b hb => TFrame.pure fun _ _ _ => rfl
  | unOp o t x => exact TFrame.bind fun a ha => TFrame.bind fun b hb => TFrame.pure fun _ _ _ => rfl
  | convert s d x =>
    refine TFrame.bind fun a ha => ?_
    have hb : ∀ {T T2 : Table}, (∀ k ∈ readsOf st (.convert s d x), T2 k = T k) → evBytes P T2 s d a = evBytes P T s d a := fun h => evBytes_congr fun k hk => h k (rdx (by simp [Op.operands]) ha k hk)
    cases a with
    | flat u => exact TFrame.pure fun _ _ _ => rfl
    | _ => exact TFrame.pure fun _ _ h => hb h
  | makeInterface t x => exact TFrame.bind fun a ha => TFrame.bind fun b hb => TFrame.pure fun _ _ _ => rfl
  | makeFunc fn f c =>
    simp only [evOp]
    split
    · exact TFrame.pure fun _ _ _ => rfl
    · exact TFrame.none
  | makeSlice t l c => exact TFrame.bind fun a ha => TFrame.bind fun b hb => make_frame (by simp [writesOf])
  | slice t x lo hi m =>
    cases m with
    | some m => exact TFrame.none
    | none =>
      refine TFrame.bind fun a ha => TFrame.bind fun b hb => TFrame.bind fun c hc => TFrame.pure fun T T2 h => ?_
      exact evSlice_congr fun k hk => h k (rdx (by simp [Op.operands]) ha k hk)
  | fieldAddr s x f => exact TFrame.bind fun a ha => TFrame.pure fun _ _ _ => rfl
  | field t x f => exact TFrame.bind fun a ha => TFrame.pure fun _ _ _ => rfl
  | indexAddr t x i =>
    refine TFrame.bind fun a ha => TFrame.bind fun b hb => TFrame.pure fun T T2 h => ?_
    exact evIndexAddr_congr fun k hk => h k (rdx (by simp [Op.operands]) ha k hk)
  | index t x i =>
    refine TFrame.bind fun a ha => TFrame.bind fun b hb => ?_
    cases a with
    | flat u => cases b with
      | flat v => exact TFrame.pure fun _ _ _ => rfl
      | _ => exact TFrame.pure fun _ _ _ => rfl
    | _ => exact TFrame.pure fun _ _ _ => rfl
  | typeAssert x t s ok => exact TFrame.bind fun a ha => TFrame.bind fun b hb => TFrame.pure fun _ _ _ => rfl
  | extract x i =>
    refine TFrame.bind fun a ha => ?_
    cases a with
    | tup l => exact TFrame.pure fun _ _ _ => rfl
    | _ => exact TFrame.none
  | call c =>
    obtain ⟨callee, args, ts⟩ := c
    cases callee with
    | value f => exact TFrame.none
    | invoke r m => exact TFrame.none
    | builtin b =>
      have mem : ∀ {x : Operand} {a : AV} {l : List Operand}, args.toList = l → x ∈ l → st.op x = some a → ∀ k ∈ idOf a, k ∈ args.toList.flatMap (opIds st) := by
        intro x a l hl hx ha k hk
        rw [hl, List.mem_flatMap]
        exact ⟨x, hx, by rw [opIds_of ha]; exact hk⟩
      simp only [evOp]
      unfold evBuiltin
      split
      · exact TFrame.bind fun a ha => TFrame.pure fun _ _ _ => rfl
      · rename_i s x t u hargs hts
        refine TFrame.bind fun a ha => TFrame.bind fun c hc => append_frame ?_ ?_ ?_
        · simp [writesOf]
        · intro k hk; simp only [writesOf]; exact List.mem_cons_of_mem _ (mem hargs (by simp) ha k hk)
        · intro k hk; simp only [writesOf]; exact List.mem_cons_of_mem _ (mem hargs (by simp) hc k hk)
      · rename_i s x t u hargs hts
        refine TFrame.bind fun a ha => TFrame.bind fun c hc => copy_frame ?_ ?_
        · intro k hk; simp only [writesOf]; exact mem hargs (by simp) ha k hk
        · intro k hk; simp only [writesOf]; exact mem hargs (by simp) hc k hk
      · exact TFrame.bind fun a ha => TFrame.pure fun _ _ _ => rfl
      · exact TFrame.bind fun a ha => TFrame.pure fun _ _ _ => rfl
      · exact TFrame.none
  | _ => exact TFrame.none

/-! ### One operation, told by what it does to its slot and the table -/
def Does (P : Program) (ops : Array Oper) (base i : Nat) (o : Oper) (st : St) (v : AV) (T' : Table) (f : Foot) : Prop :=
  (wantedA st ops o = some false ∧ v = .flat undef ∧ T' = st.T ∧ f = ⟨i, [], []⟩) ∨
  (wantedA st ops o = some true ∧ isCall o.op = true ∧ ∃ k xs args rd wr, callOf st o.op = some (k, xs) ∧ evArgs st xs = some args ∧ CallD P st.T (base + 8 * i) k args v T' rd wr ∧ f = ⟨i, rd, wr⟩) ∨
  (wantedA st ops o = some true ∧ isCall o.op = false ∧ evOp P st.T (base + 8 * i) st.op o.type o.op = some (v, T') ∧ f = ⟨i, readsOf st o.op, writesOf st (base + 8 * i) o.op⟩)

theorem put_self (st : St) (d : Option Tmp) (v : AV) : st.put d v = { st.put d v with T := st.T } := by rw [← St.put_T st d v]

theorem stepF_iff {ops : Array Oper} {base i : Nat} {st : St} {K : St → Foot → Prop} : AStepF P ops base i st K ↔ ∃ o v T' f, ops[i]? = some o ∧ Does P ops base i o st v T' f ∧ K { st.put o.dst v with T := T' } f := by
  unfold AStepF Does
  constructor
  · intro h
    split at h
    · exact h.elim
    · rename_i o ho
      split at h
      · exact h.elim
      · rename_i hw
        exact ⟨o, _, _, _, ho, .inl ⟨hw, rfl, rfl, rfl⟩, put_self st o.dst (.flat undef) ▸ h⟩
      · rename_i hw
        split at h
        · rename_i hc
          obtain ⟨k, xs, args, v, T', rd, wr, h1, h2, h3, h6⟩ := h
          exact ⟨o, _, _, _, ho, .inr (.inl ⟨hw, hc, k, xs, args, rd, wr, h1, h2, h3, rfl⟩), h6⟩
        · rename_i hc
          split at h
          · rename_i v T' he
            exact ⟨o, v, T', _, ho, .inr (.inr ⟨hw, by simpa using hc, he, rfl⟩), h⟩
          · exact h.elim
  · rintro ⟨o, v, T', f, ho, hd, hK⟩
    simp only [ho]
    rcases hd with ⟨hw, rfl, rfl, rfl⟩ | ⟨hw, hc, k, xs, args, rd, wr, h1, h2, h3, rfl⟩ | ⟨hw, hc, he, rfl⟩
    · simp only [hw]
      rw [put_self]; exact hK
    · simp only [hw, hc, if_true]
      exact ⟨k, xs, args, v, T', rd, wr, h1, h2, h3, hK⟩
    · simp only [hw, hc, he]
      exact hK

theorem op_look {ops : Array Oper} {o : Oper} {st st2 : St} (hs : ∀ t ∈ o.looksAt ops, st2.s t = st.s t) : ∀ x ∈ o.op.operands.toList, st2.op x = st.op x := by
  intro x hx
  cases x with
  | tmp t =>
    have : st2.s t = st.s t := hs t (by
      unfold Oper.looksAt
      rw [List.mem_append]
      exact .inl (List.mem_filterMap.2 ⟨.tmp t, hx, rfl⟩))
    simp only [St.op, this]
  | _ => rfl

theorem wanted_look {ops : Array Oper} {o : Oper} {st st2 : St} (hs : ∀ t ∈ o.looksAt ops, st2.s t = st.s t) : wantedA st2 ops o = wantedA st ops o := by
  unfold wantedA
  cases hg : o.guard with
  | none => rfl
  | some jw =>
    obtain ⟨j, want⟩ := jw
    simp only
    cases hd : (ops[j]?).bind (·.dst) with
    | none => rfl
    | some d =>
      have : st2.s d = st.s d := hs d (by
        unfold Oper.looksAt
        rw [List.mem_append]
        refine .inr ?_
        simp only [hg, hd, Option.toList_some, List.mem_singleton])
      simp only [this]

theorem evArgs_congr {st st2 : St} : ∀ (l : List Operand), (∀ x ∈ l, st2.op x = st.op x) → evArgs st2 l = evArgs st l := by
  intro l
  induction l with
  | nil => intro _; rfl
  | cons x l ih =>
    intro h
    simp only [evArgs, h x (by simp), ih fun y hy => h y (by simp [hy])]

theorem flatMap_ids {st st2 : St} (l : List Operand) (h : ∀ x ∈ l, st2.op x = st.op x) : l.flatMap (opIds st2) = l.flatMap (opIds st) := by
  induction l with
  | nil => rfl
  | cons x l ih =>
    simp only [List.flatMap_cons]
    rw [ih fun y hy => h y (by simp [hy])]
    unfold opIds
    rw [h x (by simp)]

theorem writes_congr {st st2 : St} {id : Nat} {op : Op} (h : ∀ x ∈ op.operands.toList, st2.op x = st.op x) : writesOf st2 id op = writesOf st id op := by
  cases op with
  | store t x y =>
    simp only [writesOf, opIds]
    rw [h x (by simp [Op.operands])]
  | call c =>
    obtain ⟨callee, args, ts⟩ := c
    cases callee with
    | builtin b =>
      have h' : ∀ x ∈ args.toList, st2.op x = st.op x := fun x hx => h x (by simp [Op.operands, Call.operands]; first | exact .inr (by simpa using hx) | simpa using hx)
      cases b <;> first | rfl | simp only [writesOf, flatMap_ids _ h']
    | _ => rfl
  | _ => rfl

theorem deep_congr {T T2 : Table} {ids : List Nat} (h : ∀ k ∈ ids, T2 k = T k) {x y : AV} (hd : Deep T ids x y) : Deep T2 ids x y := by
  induction hd with
  | id hx => exact .id hx
  | nil => exact .nil
  | agg hl _ ih => exact .agg hl ih
  | sl hid hr hle hl hs _ ih => exact .sl hid ((h _ hid).trans hr) hle hl hs ih
  | ptr hid hr he hl hlt _ ih => exact .ptr hid ((h _ hid).trans hr) he hl hlt ih

theorem calld_frame {T T2 : Table} {base : Nat} {f : FuncId} {args : List AV} {v : AV} {T' : Table} {rd wr : List Nat} (h : CallD P T base f args v T' rd wr) (hT : ∀ k, k ∈ rd ∨ k ∈ wr → T2 k = T k) :
    ∃ T2', CallD P T2 base f args v T2' rd wr ∧ (∀ k ∈ wr, T2' k = T' k) ∧ ∀ k, k ∉ wr → T' k = T k ∧ T2' k = T2 k := by
  rcases h with ⟨args', ids, val, rows, h3, h4, h5, rfl, rfl, rfl, rfl⟩ | ⟨m, ms, rs, R0, val, R1, hnd, hml, hms, hcl, hrs, hR0, hP, rfl, rfl, e1, e2⟩
  · refine ⟨adopt T2 base (rows base), .inl ⟨args', rd, val, rows, ?_, h4, h5, rfl, rfl, rfl, rfl⟩, fun j hj => ?_, fun j hj => ?_⟩
    · rcases h3 with h3 | ⟨⟨hl, h3⟩, h6⟩
      · exact .inl h3
      · exact .inr ⟨⟨hl, fun i x y hx hy => deep_congr (fun j hj => hT j (.inl hj)) (h3 i x y hx hy)⟩, h6⟩
    · simp only [List.mem_map, List.mem_range] at hj
      obtain ⟨a, ha, rfl⟩ := hj
      rw [adopt_spec, adopt_spec, if_pos (by omega), if_pos (by omega)]
    · have hn : ¬ (base ≤ j ∧ j < base + (rows base).length) := by
        intro hh
        refine hj ?_
        simp only [List.mem_map, List.mem_range]
        exact ⟨j - base, by omega, by omega⟩
      rw [adopt_spec, adopt_spec, if_neg hn, if_neg hn]
      exact ⟨rfl, rfl⟩
  · have hms2 : ms.map T2 = rs.map some := by
      rw [← hms]
      exact List.map_congr_left fun k hk => hT k (.inl (e1 ▸ hk))
    have mem : ∀ k, k ∈ wr ↔ ms.contains k = true ∨ (base ≤ k ∧ k < base + 8) := by
      intro k
      rw [e2, List.mem_append, List.contains_iff_mem, List.mem_map]
      constructor
      · rintro (h | ⟨a, ha, rfl⟩)
        · exact .inl h
        · have := List.mem_range.1 ha
          exact .inr ⟨by omega, by omega⟩
      · rintro (h | ⟨h1, h2⟩)
        · exact .inl h
        · exact .inr ⟨k - base, List.mem_range.2 (by omega), by omega⟩
    refine ⟨merge T2 ms m base (renRows (backName ms m base) R1), .inr ⟨m, ms, rs, R0, val, R1, hnd, hml, hms2, hcl, hrs, hR0, hP, rfl, rfl, e1, e2⟩, fun k hk => ?_, fun k hk => ?_⟩
    · unfold merge
      rcases (mem k).1 hk with h | h
      · rw [if_pos h, if_pos h]
      · by_cases hm : ms.contains k = true
        · rw [if_pos hm, if_pos hm]
        · simp only [if_neg hm, if_pos h]
    · have h1 : ¬ ms.contains k = true := fun h => hk ((mem k).2 (.inl h))
      have h2 : ¬ (base ≤ k ∧ k < base + 8) := fun h => hk ((mem k).2 (.inr h))
      unfold merge
      rw [if_neg h1, if_neg h2, if_neg h1, if_neg h2]
      exact ⟨rfl, rfl⟩

theorem does_frame {ops : Array Oper} {base i : Nat} {o : Oper} {st st2 : St} {v : AV} {T' : Table} {f : Foot} (hd : Does P ops base i o st v T' f) (hs : ∀ t ∈ o.looksAt ops, st2.s t = st.s t)
    (hT : ∀ k, k ∈ f.rd ∨ k ∈ f.wr → st2.T k = st.T k) : ∃ T2', Does P ops base i o st2 v T2' f ∧ (∀ k ∈ f.wr, T2' k = T' k) ∧ ∀ k, k ∉ f.wr → T' k = st.T k ∧ T2' k = st2.T k := by
  have hop := op_look hs
  have hw' := wanted_look hs
  rcases hd with ⟨hw, rfl, rfl, rfl⟩ | ⟨hw, hc, k, xs, args, rd, wr, h1, h2, h3, rfl⟩ | ⟨hw, hc, he, rfl⟩
  · exact ⟨st2.T, .inl ⟨hw'.trans hw, rfl, rfl, rfl⟩, fun k hk => by simp at hk, fun k _ => ⟨rfl, rfl⟩⟩
  · have hcall : callOf st2 o.op = some (k, xs) ∧ evArgs st2 xs = some args := by
      unfold callOf at h1 ⊢
      split at h1
      · rename_i fo as ts hoo
        have hfo : st2.op fo = st.op fo := hop fo (by rw [hoo]; simp [Op.operands, Call.operands])
        rw [hfo]
        refine ⟨h1, ?_⟩
        split at h1
        · split at h1
          · simp only [Option.some.injEq, Prod.mk.injEq] at h1
            obtain ⟨rfl, rfl⟩ := h1
            rw [evArgs_congr _ fun x hx => hop x (by rw [hoo]; simp [Op.operands, Call.operands]; exact .inr (by simpa using hx))]
            exact h2
          · cases h1
        · cases h1
      · cases h1
    obtain ⟨T2', q1, q2, q3⟩ := calld_frame h3 hT
    exact ⟨T2', .inr (.inl ⟨hw'.trans hw, hc, k, xs, args, rd, wr, hcall.1, hcall.2, q1, rfl⟩), q2, q3⟩
  · have hf := evOp_frame (P := P) (st := st) (id := base + 8 * i) (ty := o.type) (op := o.op) st.T st2.T v T' (fun k hk => hT k (.inl hk)) (fun k hk => hT k (.inr hk)) he
    obtain ⟨T2', h1, h2, h3⟩ := hf
    refine ⟨T2', .inr (.inr ⟨hw'.trans hw, hc, ?_, ?_⟩), h2, h3⟩
    · rw [evOp_congr hop]; exact h1
    · unfold readsOf
      rw [flatMap_ids _ hop, writes_congr hop]

def Step (P : Program) (ops : Array Oper) (base i : Nat) (st st' : St) (f : Foot) : Prop := ∃ o v T', ops[i]? = some o ∧ Does P ops base i o st v T' f ∧ st' = { st.put o.dst v with T := T' }

theorem put_look {ops : Array Oper} {o : Oper} {st : St} {d : Option Tmp} {v : AV} {T' : Table} (h : ∀ k, d = some k → k ∉ o.looksAt ops) : ∀ t ∈ o.looksAt ops, ({ st.put d v with T := T' } : St).s t = st.s t := by
  intro t ht
  show (st.put d v).s t = st.s t
  rw [St.put_s, if_neg]
  intro e
  exact h t e ht

theorem St.ext' {a b : St} (hs : a.s = b.s) (hT : a.T = b.T) (hn : a.nx = b.nx) : a = b := by
  cases a; cases b; simp_all

/-- Two operations change places. -/
theorem step_swap {ops : Array Oper} {base i j : Nat} {st st1 st2 : St} {f g : Foot} {oi oj : Oper} (hi : ops[i]? = some oi) (hj : ops[j]? = some oj) (hap : oi.apart ops oj = true) (hfg : apartB f g = true)
    (h1 : Step P ops base i st st1 f) (h2 : Step P ops base j st1 st2 g) : ∃ st1', Step P ops base j st st1' g ∧ Step P ops base i st1' st2 f := by
  obtain ⟨o, vi, Ti, ho, hdi, rfl⟩ := h1
  rw [hi] at ho; obtain rfl := Option.some.inj ho
  obtain ⟨o, vj, Tj, ho, hdj, rfl⟩ := h2
  rw [hj] at ho; obtain rfl := Option.some.inj ho
  obtain ⟨ha1, ha2, ha3⟩ := Oper.apart_spec hap
  simp only [apartB, Bool.and_eq_true, List.all_eq_true, Bool.not_eq_true', List.contains_eq_mem, decide_eq_false_iff_not] at hfg
  obtain ⟨hf, hg⟩ := hfg
  have hfg' : ∀ k ∈ g.wr, k ∉ f.wr := fun k hk hk' => (hf k hk').2 hk
  -- what 'i' left
  obtain ⟨_, _, _, hTi⟩ := does_frame hdi (st2 := st) (fun _ _ => rfl) (fun _ _ => rfl)
  -- 'j' ahead
  obtain ⟨Tj2, hdj2, q1, q2⟩ := does_frame hdj (st2 := st) (fun t ht => (put_look ha1 t ht).symm) (fun k hk => by
    show st.T k = Ti k
    refine ((hTi k fun hk' => ?_).1).symm
    rcases hk with hk | hk
    · exact (hf k hk').1 hk
    · exact (hf k hk').2 hk)
  obtain ⟨Ti2, hdi2, q3, q4⟩ := does_frame hdi (st2 := { st.put oj.dst vj with T := Tj2 }) (fun t ht => put_look ha3 t ht) (fun k hk => by
    show Tj2 k = st.T k
    refine (q2 k fun hk' => ?_).2
    rcases hk with hk | hk
    · exact hg k hk' hk
    · exact hfg' k hk' hk)
  refine ⟨_, ⟨oj, vj, Tj2, hj, hdj2, rfl⟩, ⟨oi, vi, Ti2, hi, hdi2, ?_⟩⟩
  have eT : Tj = Ti2 := by
    funext k
    by_cases hk : k ∈ f.wr
    · have hkg : k ∉ g.wr := (hf k hk).2
      rw [q3 k hk]
      exact (q2 k hkg).1
    · rw [(q4 k hk).2]
      by_cases hkg : k ∈ g.wr
      · exact (q1 k hkg).symm
      · show Tj k = Tj2 k
        rw [(q2 k hkg).1, (q2 k hkg).2]
        exact (hTi k hk).1
  refine St.ext' ?_ eT ?_
  · funext t
    simp only [St.put_s]
    by_cases e1 : oj.dst = some t
    · have e2 : oi.dst ≠ some t := fun e => ha2 t e e1
      rw [if_pos e1, if_neg e2, if_pos e1]
    · simp only [if_neg e1]
  · simp only [St.put_nx]

/-! ### The order that is drawn -/
def Chain (P : Program) (ops : Array Oper) (base : Nat) (φ : Nat → Foot) : List Nat → St → St → Prop
  | [], st, st' => st = st'
  | i :: l, st, st' => ∃ st1, Step P ops base i st st1 (φ i) ∧ Chain P ops base φ l st1 st'

theorem chain_front {ops : Array Oper} {base : Nat} {φ : Nat → Foot} {i : Nat} {l2 : List Nat} {st' : St} : ∀ (l1 : List Nat) (st : St), Chain P ops base φ (l1 ++ i :: l2) st st' →
    (∀ j ∈ l1, ∃ oj oi, ops[j]? = some oj ∧ ops[i]? = some oi ∧ oj.apart ops oi = true ∧ apartB (φ j) (φ i) = true) → Chain P ops base φ (i :: (l1 ++ l2)) st st' := by
  intro l1
  induction l1 with
  | nil => intro st h _; exact h
  | cons j l1 ih =>
    intro st h hap
    obtain ⟨st1, hs1, h⟩ := h
    obtain ⟨st2, hs2, h⟩ := ih st1 h fun k hk => hap k (by simp [hk])
    obtain ⟨oj, oi, hoj, hoi, h1, h2⟩ := hap j (by simp)
    obtain ⟨st1', q1, q2⟩ := step_swap hoj hoi h1 h2 hs1 hs2
    exact ⟨st1', q1, st2, q2, h⟩

theorem does_i {ops : Array Oper} {base i : Nat} {o : Oper} {st : St} {v : AV} {T' : Table} {f : Foot} (hd : Does P ops base i o st v T' f) : f.i = i := by
  rcases hd with ⟨_, _, _, rfl⟩ | ⟨_, _, _, _, _, _, _, _, _, _, rfl⟩ | ⟨_, _, _, rfl⟩ <;> rfl

theorem chain_of {ops : Array Oper} {base : Nat} {Q : St → List Foot → Prop} : ∀ (l : List Nat) (st : St) (fs : List Foot), AOpsD P ops base l st fs Q →
    ∃ fs' st', fs'.length = l.length ∧ Q st' (fs ++ fs') ∧ ∀ φ : Nat → Foot, (∀ (k i : Nat), l[k]? = some i → fs'[k]? = some (φ i)) → Chain P ops base φ l st st' := by
  intro l
  induction l with
  | nil => intro st fs h; exact ⟨[], st, rfl, by simpa [AOpsD] using h, fun φ _ => rfl⟩
  | cons i l ih =>
    intro st fs h
    simp only [AOpsD] at h
    obtain ⟨o, v, T', f, ho, hd, h⟩ := stepF_iff.1 h
    obtain ⟨fs', st', hl, hq, hc⟩ := ih _ _ h
    refine ⟨f :: fs', st', by simp [hl], by simpa using hq, fun φ hφ => ?_⟩
    have h0 := hφ 0 i rfl
    simp at h0
    exact ⟨_, ⟨o, v, T', ho, h0 ▸ hd, rfl⟩, hc φ fun k j hk => by simpa using hφ (k + 1) j (by simpa using hk)⟩

theorem maskOf_bit {acc : List Nat} : ∀ {l : List Edge} {i : Nat}, (maskOf acc l).testBit i = true → ∃ e ∈ l, Region.binds .any e = true ∧ (e.on = i ∨ (acc.getD e.on 0).testBit i = true) := by
  intro l
  induction l with
  | nil => intro i h; simp [maskOf] at h
  | cons e l ih =>
    intro i h
    simp only [maskOf] at h
    split at h
    · rename_i hb
      rw [Nat.testBit_or, Nat.testBit_or, Bool.or_eq_true, Bool.or_eq_true] at h
      rcases h with (h | h) | h
      · rw [Nat.testBit_two_pow] at h
        exact ⟨e, by simp, hb, .inl (by simpa using h)⟩
      · exact ⟨e, by simp, hb, .inr h⟩
      · obtain ⟨e', he, h1, h2⟩ := ih h
        exact ⟨e', by simp [he], h1, h2⟩
    · obtain ⟨e', he, h1, h2⟩ := ih h
      exact ⟨e', by simp [he], h1, h2⟩

/-- What is ahead of an operation is in every set that has the operation and what its edges, and theirs, name. -/
theorem masks_closed {X : Nat → Prop} : ∀ (l : List Oper) (acc : List Nat), (∀ j, X j → ∀ i, (acc.getD j 0).testBit i = true → X i) →
    (∀ k o, l[k]? = some o → X (acc.length + k) → ∀ e ∈ o.after.toList, Region.binds .any e = true → X e.on) → ∀ j, X j → ∀ i, ((masks l acc).getD j 0).testBit i = true → X i := by
  intro l
  induction l with
  | nil => intro acc h _; exact h
  | cons o l ih =>
    intro acc h hl
    refine ih _ (fun j hj i hi => ?_) (fun k o' hk hX e he hb => hl (k + 1) o' (by simpa using hk) (by simpa [Nat.add_assoc, Nat.add_comm 1] using hX) e he hb)
    by_cases hlt : j < acc.length
    · have e1 : (acc ++ [maskOf acc o.after.toList]).getD j 0 = acc.getD j 0 := by simp [List.getD, List.getElem?_append_left hlt]
      rw [e1] at hi
      exact h j hj i hi
    · by_cases he : j = acc.length
      · subst he
        have e1 : (acc ++ [maskOf acc o.after.toList]).getD acc.length 0 = maskOf acc o.after.toList := by simp [List.getD]
        rw [e1] at hi
        obtain ⟨e, hm, hb, h2⟩ := maskOf_bit hi
        have hX := hl 0 o rfl (by simpa using hj) e hm hb
        rcases h2 with rfl | h2
        · exact hX
        · exact h e.on hX i h2
      · have e1 : (acc ++ [maskOf acc o.after.toList]).getD j 0 = 0 := by
          simp only [List.getD]
          rw [List.getElem?_eq_none (by simp; omega)]; rfl
        rw [e1] at hi
        simp at hi

/-- What is still to be done. -/
def left (n : Nat) (listed : Array Bool) : List Nat := (List.range n).filter fun i => !listed.getD i true
def freshOf (base : Nat) (fin : Nat → Prop) (l : List Nat) : Nat → Prop := fun id => fin id ∨ ∃ i ∈ l, base + 8 * i ≤ id ∧ id < base + 8 * i + 8

theorem mem_left {n : Nat} {listed : Array Bool} {i : Nat} : i ∈ left n listed ↔ i < n ∧ listed.getD i true = false := by simp [left]

theorem left_set {n i : Nat} {listed : Array Bool} (hs : listed.size = n) (hi : i < n) : left n (listed.setIfInBounds i true) = (left n listed).filter (· ≠ i) := by
  unfold left
  rw [List.filter_filter]
  congr 1
  funext j
  simp only [Array.getD_eq_getD_getElem?, Array.getElem?_setIfInBounds]
  by_cases e : i = j
  · subst e; simp [hs, hi]
  · have e' : j ≠ i := fun h => e h.symm
    simp [e, e']

theorem filter_mid {l1 l2 : List Nat} {i : Nat} (h : (l1 ++ i :: l2).Nodup) : (l1 ++ i :: l2).filter (· ≠ i) = l1 ++ l2 := by
  have hn1 : i ∉ l1 := fun hm => by
    have := (List.nodup_append.1 h).2.2 i hm i (by simp)
    exact this rfl
  have hn2 : i ∉ l2 := (List.nodup_cons.1 (List.nodup_append.1 h).2.1).1
  rw [List.filter_append, List.filter_cons]
  simp only [ne_eq, not_true, decide_false, Bool.false_eq_true, if_false]
  congr 1
  · exact List.filter_eq_self.2 fun j hj => by simp; exact fun e => hn1 (e ▸ hj)
  · exact List.filter_eq_self.2 fun j hj => by simp; exact fun e => hn2 (e ▸ hj)

theorem any_sound {S : Start} {ops : Array Oper} {Q : Exit → Act → World → Prop} {base : Nat} {φ : Nat → Foot} {stF : St} {fin : Nat → Prop} (ho : opsOk S.n ops)
    (hback : ∀ i o, ops[i]? = some o → ∀ e ∈ o.after.toList, Region.binds .any e = true → e.on < i)
    (hap : ∀ i j, i < j → j < ops.size → aheadB (masks ops.toList []) i j = true ∨ ∃ oi oj, ops[i]? = some oi ∧ ops[j]? = some oj ∧ oi.apart ops oj = true ∧ apartB (φ i) (φ j) = true)
    (hfin : ∀ id, fin id → base + 8 * ops.size ≤ id) (hQ : ∀ a' w', Rel P S fin stF a' w' → Q .normal a' w') :
    ∀ (fuel : Nat) (listed : Array Bool) (st : St) (a : Act) (w : World), listed.size = ops.size → (left ops.size listed).length ≤ fuel →
      (∀ i o, listed.getD i false = true → ops[i]? = some o → ∀ e ∈ o.after.toList, Region.binds .any e = true → listed.getD e.on false = true) →
      Chain P ops base φ (left ops.size listed) st stF → Rel P S (freshOf base fin (left ops.size listed)) st a w → wpAny P .any ops Q fuel listed a w := by
  have getD2 : ∀ (listed : Array Bool) (i : Nat), i < listed.size → listed.getD i true = listed.getD i false := fun listed i h => by simp [Array.getD, h]
  -- the first that is left is ready
  have first : ∀ (listed : Array Bool) (i : Nat) (l : List Nat), listed.size = ops.size → left ops.size listed = i :: l → i ∈ Region.ready .any ops listed := by
    intro listed i l hs hl
    have hi : i ∈ left ops.size listed := by rw [hl]; simp
    obtain ⟨hlt, hf⟩ := mem_left.1 hi
    have hget : ops[i]? = some ops[i] := Array.getElem?_eq_getElem hlt
    unfold Region.ready
    rw [List.mem_filter]
    refine ⟨List.mem_range.2 hlt, ?_⟩
    simp only [hf, Bool.not_false, Bool.true_and, hget, Option.map_some, Option.getD_some, Array.all_eq_true_iff_forall_mem, Bool.or_eq_true, Bool.not_eq_true']
    intro e he
    cases hb : Region.binds .any e with
    | false => exact .inl rfl
    | true =>
      refine .inr ?_
      have hlt' := hback i _ hget e (by simpa using he) hb
      rw [← getD2 listed _ (by omega)]
      cases hq : listed.getD e.on true with
      | true => rfl
      | false =>
        have hm : e.on ∈ left ops.size listed := mem_left.2 ⟨by omega, hq⟩
        have hsorted : (left ops.size listed).Pairwise (· < ·) := List.Pairwise.filter _ List.pairwise_lt_range
        rw [hl] at hm hsorted
        rcases List.mem_cons.1 hm with h | h
        · omega
        · have := (List.pairwise_cons.1 hsorted).1 _ h
          omega
  have empty : ∀ (listed : Array Bool), listed.size = ops.size → Region.ready .any ops listed = [] → left ops.size listed = [] := by
    intro listed hs hr
    cases hl : left ops.size listed with
    | nil => rfl
    | cons i l =>
      have := first listed i l hs hl
      rw [hr] at this
      cases this
  have done : ∀ (listed : Array Bool) (st : St) (a : Act) (w : World), left ops.size listed = [] → Chain P ops base φ (left ops.size listed) st stF → Rel P S (freshOf base fin (left ops.size listed)) st a w → Q .normal a w := by
    intro listed st a w hl hc hR
    rw [hl] at hc hR
    have e : st = stF := hc
    subst e
    exact hQ a w (hR.weak fun id h => .inl h)
  intro fuel
  induction fuel with
  | zero =>
    intro listed st a w hs hl hcl hc hR
    have hnil : left ops.size listed = [] := List.eq_nil_of_length_eq_zero (by omega)
    refine ⟨?_, done listed st a w hnil hc hR⟩
    apply List.eq_nil_iff_forall_not_mem.2
    intro i hi
    unfold Region.ready at hi
    rw [List.mem_filter] at hi
    have : i ∈ left ops.size listed := mem_left.2 ⟨List.mem_range.1 hi.1, by
      have := hi.2
      simp only [Bool.and_eq_true, Bool.not_eq_true'] at this
      exact this.1⟩
    rw [hnil] at this
    cases this
  | succ fuel ih =>
    intro listed st a w hs hl hcl hc hR
    refine ⟨fun hr => done listed st a w (empty listed hs hr) hc hR, fun i hi => ?_⟩
    unfold Region.ready at hi
    rw [List.mem_filter] at hi
    obtain ⟨hir, hi2⟩ := hi
    have hlt := List.mem_range.1 hir
    have hget : ops[i]? = some ops[i] := Array.getElem?_eq_getElem hlt
    simp only [Bool.and_eq_true, Bool.not_eq_true', hget, Option.map_some, Option.getD_some, Array.all_eq_true_iff_forall_mem, Bool.or_eq_true] at hi2
    obtain ⟨hf, hedges⟩ := hi2
    have hmem : i ∈ left ops.size listed := mem_left.2 ⟨hlt, hf⟩
    obtain ⟨l1, l2, hsplit⟩ := List.append_of_mem hmem
    have hsorted : (left ops.size listed).Pairwise (· < ·) := List.Pairwise.filter _ List.pairwise_lt_range
    have hnd : (left ops.size listed).Nodup := hsorted.imp fun h => Nat.ne_of_lt h
    have hset := left_set hs hlt
    have hl' : left ops.size (listed.setIfInBounds i true) = l1 ++ l2 := by
      rw [hset, hsplit, filter_mid (hsplit ▸ hnd)]
    -- what is ahead of 'i' is listed
    have hX : ∀ k, k ≠ i → aheadB (masks ops.toList []) k i = true → listed.getD k false = true := by
      intro k hne hk
      have := masks_closed (X := fun j => listed.getD j false = true ∨ j = i) ops.toList [] (fun j _ k hk => by simp at hk) (fun k o hk hX e he hb => by
        have hk' : ops[k]? = some o := by simpa using hk
        rcases hX with hX | hX
        · exact .inl (hcl k o (by simpa using hX) hk' e he hb)
        · have hki : k = i := by simpa using hX
          subst hki
          rw [hget] at hk'
          obtain rfl := Option.some.inj hk'
          rcases hedges e (by simpa using he) with h | h
          · rw [hb] at h; cases h
          · exact .inl h) i (.inr rfl) k hk
      rcases this with h | rfl
      · exact h
      · exact absurd rfl hne
    have hchain : Chain P ops base φ (i :: (l1 ++ l2)) st stF := by
      refine chain_front l1 st (hsplit ▸ hc) fun j hj => ?_
      have hjm : j ∈ left ops.size listed := by rw [hsplit]; simp [hj]
      obtain ⟨hjlt, hjf⟩ := mem_left.1 hjm
      have hji : j < i := by
        rw [hsplit] at hsorted
        exact (List.pairwise_append.1 hsorted).2.2 j hj i (by simp)
      rcases hap j i hji hlt with h | ⟨oj, oi, h1, h2, h3, h4⟩
      · have := hX j (by omega) h
        rw [← getD2 listed _ (by omega), hjf] at this
        cases this
      · exact ⟨oj, oi, h1, h2, h3, h4⟩
    obtain ⟨st1, hstep, hc1⟩ := hchain
    obtain ⟨o, v, T', hoo, hd, rfl⟩ := hstep
    have hF : AStepF P ops base i st (fun s g => s = { st.put o.dst v with T := T' } ∧ g = φ i) := stepF_iff.2 ⟨o, v, T', φ i, hoo, hd, rfl, rfl⟩
    obtain ⟨st', ft, ⟨hst, hft⟩, hw⟩ := step_sound (Q := Q) hR (fun k hk => .inr ⟨i, hmem, by omega, by omega⟩) ho hF
    refine wpOp_mono (fun a' w' hR' => ?_) hw
    rw [hst] at hR'
    refine ih (listed.setIfInBounds i true) { st.put o.dst v with T := T' } a' w' (by simpa using hs) ?_ ?_ ?_ ?_
    · rw [hl']
      rw [hsplit] at hl
      simp at hl ⊢; omega
    · intro k ok hk hok e he hb
      have set_get : ∀ m, listed.getD m false = true → (listed.setIfInBounds i true).getD m false = true := by
        intro m hm
        simp only [Array.getD_eq_getD_getElem?, Array.getElem?_setIfInBounds] at hm ⊢
        split
        · split <;> simp_all
        · exact hm
      by_cases hki : k = i
      · subst hki
        rw [hget] at hok
        obtain rfl := Option.some.inj hok
        rcases hedges e (by simpa using he) with h | h
        · rw [hb] at h; cases h
        · exact set_get _ h
      · refine set_get _ (hcl k ok ?_ hok e he hb)
        have hik : i ≠ k := fun h => hki h.symm
        simpa [Array.getD_eq_getD_getElem?, Array.getElem?_setIfInBounds, hik] using hk
    · rw [hl']; exact hc1
    · rw [hl']
      refine hR'.weak fun id h => ?_
      rcases h with h | ⟨k, hk, h1, h2⟩
      · exact ⟨.inl h, fun hh => by have := hfin id h; omega⟩
      · have hkm : k ∈ left ops.size listed := by rw [hsplit]; rcases List.mem_append.1 hk with h | h <;> simp [h]
        refine ⟨.inr ⟨k, hkm, h1, h2⟩, fun hh => ?_⟩
        have hne : k ≠ i := by
          rintro rfl
          rw [← hl', hset] at hk
          simp at hk
        omega

theorem Rel.drawn {S : Start} {fresh : Nat → Prop} {st : St} {a : Act} {w : World} (h : Rel P S fresh st a w) (n : Nat) : Rel P S fresh st a { w with drawn := n } := by
  obtain ⟨L, μ, hC⟩ := h
  have up : ∀ {v : Value} {x : AV}, VRel w L μ v x → VRel { w with drawn := n } L μ v x := fun h => h.mono (w := w) (w' := { w with drawn := n }) (fun _ _ _ => rfl) (Nat.le_refl _) (fun _ _ h => h) (fun _ _ h => h)
  refine ⟨L, μ, hC.size, hC.defers, fun t ht => up (hC.slot t ht), ⟨fun id r hr => ?_, fun id id' r r' p p' hr hr' hp hp' hne => hC.tab.apart id id' r r' p p' hr hr' hp hp' hne⟩, hC.fresh, hC.os, hC.tape, hC.output, hC.grown, hC.block, hC.L, hC.place, hC.pinned⟩
  obtain ⟨q, hq, hrow, hnil⟩ := hC.tab.row id r hr
  exact ⟨q, hq, fun p hp => (hrow p hp).mono (w := w) (w' := { w with drawn := n }) (fun _ _ _ => rfl) (Nat.le_refl _) (fun _ _ h => h) (fun _ _ h => h) rfl (hrow p hp).live, hnil⟩

theorem draw_sound : DrawSound P := by
  intro S ops Q K id st a w ho hR h hQ
  obtain ⟨hok, h⟩ := h
  simp only [drawOk, Bool.and_eq_true] at hok
  obtain ⟨⟨hm, hback⟩, hnames⟩ := hok
  obtain ⟨fs, stF, hlen, ⟨hind, hK⟩, hchain⟩ := chain_of _ _ _ h
  simp only [List.nil_append] at hind
  have hlen' : fs.length = ops.size := by simpa using hlen
  have hφ : ∀ (k i : Nat), (List.range ops.size)[k]? = some i → fs[k]? = some ((fun i => (fs[i]?).getD ⟨i, [], []⟩) i) := by
    intro k i hk
    have hlt : k < ops.size := by simpa using (List.getElem?_eq_some_iff.1 hk).1
    rw [List.getElem?_range hlt] at hk
    obtain rfl := Option.some.inj hk
    have : k < fs.length := by omega
    simp [List.getElem?_eq_getElem this]
  have hc := hchain _ hφ
  have hleft : left ops.size (Array.replicate ops.size false) = List.range ops.size := by
    unfold left
    refine List.filter_eq_self.2 fun i hi => ?_
    have := List.mem_range.1 hi
    simp [Array.getD, this]
  refine wp_region_any hm ?_
  refine any_sound (base := st.nx) (φ := fun i => (fs[i]?).getD ⟨i, [], []⟩) (stF := stF) (fin := (st.nx + 8 * ops.size ≤ ·)) ho ?_ ?_ (fun _ h => h) (fun a' w' hR' => hQ stF a' w' hK hR') ops.size _ st a _ (by simp) ?_ ?_ ?_ ?_
  · intro i o hio e he hb
    simp only [backward, List.all_eq_true] at hback
    have hlt := (Array.getElem?_eq_some_iff.1 hio).1
    have := hback i (List.mem_range.2 hlt)
    simp only [hio, List.all_eq_true] at this
    have := this e he
    simpa [hb] using this
  · intro i j hij hj
    simp only [namesApart, List.all_eq_true] at hnames
    have h1 := hnames j (List.mem_range.2 hj) i (List.mem_range.2 hij)
    simp only [indepB, List.all_eq_true] at hind
    have h2 := hind j (List.mem_range.2 (by omega)) i (List.mem_range.2 hij)
    have hi : i < ops.size := by omega
    cases hb : aheadB (masks ops.toList []) i j with
    | true => exact .inl rfl
    | false =>
      refine .inr ⟨ops[i], ops[j], Array.getElem?_eq_getElem hi, Array.getElem?_eq_getElem hj, ?_, ?_⟩
      · simpa [hb, Array.getElem?_eq_getElem hi, Array.getElem?_eq_getElem hj] using h1
      · have hi' : i < fs.length := by omega
        have hj' : j < fs.length := by omega
        simpa [hb, List.getElem?_eq_getElem hi', List.getElem?_eq_getElem hj'] using h2
  · rw [hleft]; simp
  · intro i o hi
    simp [Array.getD] at hi
  · rw [hleft]; exact hc
  · refine (hR.drawn _).weak fun id hid => ?_
    rcases hid with hid | ⟨i, _, h1, _⟩
    · have : st.nx + 8 * ops.size ≤ id := hid
      show st.nx ≤ id; omega
    · show st.nx ≤ id; omega

/-- A function's contract, from its body. -/
theorem acalls_of {f : FuncId} {fn : Func} {c : Code} {args : List AV} {val : Nat → AV} {rows : Nat → List Row} (hf : P.funcs[f]? = some fn) (hb : fn.body = some c) (hname : (fn.name == "runtime.NumGoroutine") = false)
    (hn : Nat.ble args.length fn.ntmps = true) (hd : dstsOk fn.ntmps c = true) (h : ∀ Q : Exit → St → Prop, (∀ e st, endOk e → Leaves P fn val rows st → Q e st) → AW P 0 c (st0 args) Q) : ACalls P f args val rows :=
  acalls_of' draw_sound hf hb hname (Nat.le_of_ble_eq_true hn) hd (h _ fun _ _ h1 h2 => ⟨h1, h2⟩)

theorem pcalls_of {f : FuncId} {fn : Func} {c : Code} {args : List AV} {R0 : List Row} {val : AV} {R1 : List (Option Row)} {m : Nat} (hm0 : 0 < m) (hml : m ≤ R0.length) (hf : P.funcs[f]? = some fn) (hb : fn.body = some c) (hname : (fn.name == "runtime.NumGoroutine") = false)
    (hn : Nat.ble args.length fn.ntmps = true) (hd : dstsOk fn.ntmps c = true) (h : ∀ Q : Exit → St → Prop, (∀ e st, endOk e → PLeaves P fn m val R1 st → Q e st) → AW P m c (stP args R0) Q) : PCalls P f m args R0 val R1 :=
  pcalls_of' draw_sound hm0 hml hf hb hname (Nat.le_of_ble_eq_true hn) hd (h _ fun _ _ h1 h2 => ⟨h1, h2⟩)

mutual
theorem closed_up {ks : List Nat} : ∀ (x : AV), closedIn [] x = true → closedIn ks x = true
  | .sl id off n, h => by simp [closedIn] at h
  | .ptr id i off, h => by simp [closedIn] at h
  | .agg cs, h => by simp only [closedIn] at h ⊢; exact closed_ups cs h
  | .tup cs, h => by simp only [closedIn] at h ⊢; exact closed_ups cs h
  | .flat v, _ => rfl
  | .ro els, _ => rfl
  | .rp cs, _ => rfl
theorem closed_ups {ks : List Nat} : ∀ (l : List AV), closedAll [] l = true → closedAll ks l = true
  | [], _ => rfl
  | x :: l, h => by
    simp only [closedAll, Bool.and_eq_true] at h ⊢
    exact ⟨closed_up x h.1, closed_ups l h.2⟩
end

/-- What leads to no row of one's own is handed back as it is. -/
theorem Leaves.plain {fn : Func} {x : AV} {st : St} (h : resA P fn st = some x) (hc : closedIn [] x = true) : Leaves P fn (fun _ => x) (fun _ => []) st :=
  ⟨[], [], [], x, [], h, List.nodup_nil, Nat.zero_le _, hc, rfl, fun r hr => by simp at hr, fun n => ⟨ren_nil _ x hc, rfl⟩⟩

/-- One row, its elements without rows of one's own, and a slice of it. -/
theorem Leaves.row {fn : Func} {k off n : Nat} {r : Row} {st : St} (h : resA P fn st = some (.sl k off n)) (hr : st.T k = some r) (hc : ∀ e ∈ r.els, closedAll [] e = true) :
    Leaves P fn (fun m => .sl m off n) (fun _ => [r]) st := by
  have up : ∀ {e : List AV}, closedAll [] e = true → closedAll [k] e = true := by
    intro e he
    exact closed_ups e he
  refine ⟨[], [], [k], .sl k off n, [r], h, by simp, by simp, by simp [closedIn], by simp [frz, nils, hr], ?_, fun m => ⟨by simp [ren, newName], ?_⟩⟩
  · intro r' hr' e he
    simp at hr'; subst hr'
    exact up (hc e he)
  · simp only [List.map_cons, List.map_nil, List.cons.injEq, and_true]
    unfold renRow
    have : r.els.map (rens (newName [k] m)) = r.els := by
      conv => rhs; rw [← List.map_id r.els]
      exact List.map_congr_left fun e he => rens_nil _ e (hc e he)
    rw [this]
end Go.Proofs.Ytnceadbfgpiaaaa.G
