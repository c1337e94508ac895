/- G15, G16, G17, G18, G19, G20, G21, G22, one behind the other. -/
import Derived.Test.YtnceadbfgpiaaaaQ2
import Derived.ReadAgain
import Derived.Below
import Derived.ChangeSame
import Derived.ChangeArms
import Derived.Deep.Slices
import Derived.OpenShut
import Derived.ChangeShapes
/- A region that draws its order: whatever the order, it comes to what the text's order comes to, where no operation writes what another one looks at, unless one is behind the other. Plain theorems over any program. -/
namespace Go.Proofs.Ytnceadbfgpiaaaa.G
set_option linter.unusedVariables false
set_option linter.unusedSimpArgs false
open Go
variable {P : Program}

/-! ### What an operation looks at -/
theorem evParts_congr {ρ ρ' : Operand → Option AV} : ∀ (l : List (Nat × Operand)), (∀ x ∈ l, ρ' x.2 = ρ x.2) → evParts ρ' l = evParts ρ l := by
  intro l
  induction l with
  | nil => intro _; rfl
  | cons p l ih =>
    intro h
    obtain ⟨i, x⟩ := p
    simp only [evParts, h (i, x) (by simp), ih fun y hy => h y (by simp [hy])]
theorem evVals_congr {ρ ρ' : Operand → Option AV} : ∀ (l : List Operand), (∀ x ∈ l, ρ' x = ρ x) → evVals ρ' l = evVals ρ l := by
  intro l
  induction l with
  | nil => intro _; rfl
  | cons p l ih =>
    intro h
    simp only [evVals, h p (by simp), ih fun y hy => h y (by simp [hy])]
theorem optA_congr {ρ ρ' : Operand → Option AV} (x : Option Operand) (h : ∀ y, x = some y → ρ' y = ρ y) : optA ρ' x = optA ρ x := by
  cases x with
  | none => rfl
  | some x => simp only [optA, h x rfl]

theorem evOp_congr {T : Table} {id : Nat} {ρ ρ' : Operand → Option AV} {ty : TypeId} {op : Op} (h : ∀ x ∈ op.operands.toList, ρ' x = ρ x) : evOp P T id ρ' ty op = evOp P T id ρ ty op := by
  cases op with
  | build t ps =>
    simp only [evOp]
    rw [evParts_congr _ fun x hx => h x.2 (by simp [Op.operands]; exact ⟨x.1, by simpa using hx⟩)]
  | buildSlice t n ps =>
    simp only [evOp]
    rw [evParts_congr _ fun x hx => h x.2 (by simp [Op.operands]; exact ⟨x.1, by simpa using hx⟩)]
  | slice t x l hi m =>
    cases m with
    | some m => rfl
    | none =>
      simp only [evOp]
      rw [h x (by simp [Op.operands]), optA_congr l fun y hy => h y (by subst hy; simp [Op.operands]), optA_congr hi fun y hy => h y (by subst hy; simp [Op.operands])]
  | call c =>
    obtain ⟨callee, args, ts⟩ := c
    cases callee with
    | builtin b =>
      have h' : ∀ x ∈ args.toList, ρ' x = ρ x := fun x hx => h x (by simp [Op.operands, Call.operands]; first | exact .inr (by simpa using hx) | simpa using hx)
      simp only [evOp]
      unfold evBuiltin
      split
      · rename_i x t ha _; rw [h' x (by rw [ha]; simp)]
      · rename_i x y t u ha _; rw [h' x (by rw [ha]; simp), h' y (by rw [ha]; simp)]
      · rename_i x y t u ha _; rw [h' x (by rw [ha]; simp), h' y (by rw [ha]; simp)]
      · rw [evVals_congr _ h']
      · rw [evVals_congr _ h']
      · rfl
    | _ => rfl
  | _ => first | rfl | (simp only [evOp]; simp only [Op.operands] at h; simp_all)

/-- What an operation does to the table: it looks at what it reads and writes, and leaves the rest. -/
def TFrame (ev : Table → Option (AV × Table)) (rd wr : List Nat) : Prop :=
  ∀ (T T2 : Table) (v : AV) (T' : Table), (∀ k ∈ rd, T2 k = T k) → (∀ k ∈ wr, T2 k = T k) → ev T = some (v, T') → ∃ T2', ev T2 = some (v, T2') ∧ (∀ k ∈ wr, T2' k = T' k) ∧ (∀ k, k ∉ wr → T' k = T k ∧ T2' k = T2 k)

theorem TFrame.pure {f : Table → Option AV} {rd wr : List Nat} (h : ∀ T T2, (∀ k ∈ rd, T2 k = T k) → f T2 = f T) : TFrame (fun T => (f T).map (·, T)) rd wr := by
  intro T T2 v T' hr hw he
  obtain ⟨c, hc, hp⟩ := Option.map_eq_some_iff.1 he
  simp only [Prod.mk.injEq] at hp
  obtain ⟨rfl, rfl⟩ := hp
  exact ⟨T2, by simp only [h T T2 hr, hc]; rfl, fun k hk => hw k hk, fun k _ => ⟨rfl, rfl⟩⟩

theorem TFrame.set {id : Nat} {f : Option (AV × Option Row)} {rd wr : List Nat} (hid : id ∈ wr) : TFrame (fun T => f.map fun p => (p.1, T.set id p.2)) rd wr := by
  intro T T2 v T' hr hw he
  obtain ⟨c, hc, hp⟩ := Option.map_eq_some_iff.1 he
  simp only [Prod.mk.injEq] at hp
  obtain ⟨rfl, rfl⟩ := hp
  refine ⟨T2.set id c.2, by simp only [hc]; rfl, fun k hk => ?_, fun k hk => ?_⟩
  · unfold Table.set; split
    · rfl
    · exact hw k hk
  · have hne : k ≠ id := fun e => hk (e ▸ hid)
    simp [Table.set, hne]

theorem TFrame.congr {ev ev' : Table → Option (AV × Table)} {rd wr : List Nat} (h : TFrame ev rd wr) (he : ∀ T, ev' T = ev T) : TFrame ev' rd wr := by
  have : ev' = ev := funext he
  rw [this]; exact h
theorem TFrame.none {rd wr : List Nat} : TFrame (fun _ => none) rd wr := fun T T2 v T' _ _ h => by cases h
theorem TFrame.bind {α : Type} {x : Option α} {f : α → Table → Option (AV × Table)} {rd wr : List Nat} (h : ∀ a, x = some a → TFrame (f a) rd wr) : TFrame (fun T => x.bind fun a => f a T) rd wr := by
  cases x with
  | none => exact TFrame.none
  | some a => exact h a rfl

theorem cellsAt_congr {T T2 : Table} {a : AV} (h : ∀ k ∈ idOf a, T2 k = T k) : cellsAt T2 a = cellsAt T a := by
  cases a with
  | ptr id i off => simp only [cellsAt, h id (by simp [idOf])]
  | _ => rfl
theorem srcEls_congr {T T2 : Table} {a : AV} (h : ∀ k ∈ idOf a, T2 k = T k) : srcEls T2 a = srcEls T a := by
  cases a with
  | sl id i off => simp only [srcEls, h id (by simp [idOf])]
  | flat v => cases v with
    | slice A n c => cases A <;> cases n <;> cases c <;> rfl
    | _ => rfl
  | _ => rfl
theorem srcFit_congr {T T2 : Table} {sz : Nat} {a : AV} (h : ∀ k ∈ idOf a, T2 k = T k) : srcFit P T2 sz a = srcFit P T sz a := by
  cases a with
  | sl id i off => simp only [srcFit, h id (by simp [idOf])]
  | flat v => cases v <;> rfl
  | _ => rfl
theorem evIndexAddr_congr {T T2 : Table} {t : TypeId} {a b : AV} (h : ∀ k ∈ idOf a, T2 k = T k) : evIndexAddr P T2 t a b = evIndexAddr P T t a b := by
  cases a with
  | sl id i off => simp only [evIndexAddr, h id (by simp [idOf])]
  | _ => rfl
theorem evSlice_congr {T T2 : Table} {t : TypeId} {a : AV} {l hi : Option AV} (h : ∀ k ∈ idOf a, T2 k = T k) : evSlice P T2 t a l hi = evSlice P T t a l hi := by
  cases a with
  | sl id i off => simp only [evSlice, h id (by simp [idOf])]
  | flat v => cases v with
    | slice A n c => cases A <;> cases n <;> cases c <;> rfl
    | _ => rfl
  | _ => rfl
theorem evBytes_congr {T T2 : Table} {t u : TypeId} {a : AV} (h : ∀ k ∈ idOf a, T2 k = T k) : evBytes P T2 t u a = evBytes P T t u a := by
  have e1 := srcFit_congr (P := P) (sz := 1) h
  have e2 := srcEls_congr h
  cases a with
  | flat v => simp only [evBytes, e1]
  | _ => simp only [evBytes, e1, e2]

theorem frame_set {T T2 : Table} {wr : List Nat} {id : Nat} (hw : ∀ k ∈ wr, T2 k = T k) (hid : id ∈ wr) (r : Option Row) :
    (∀ k ∈ wr, (T2.set id r) k = (T.set id r) k) ∧ ∀ k, k ∉ wr → (T.set id r) k = T k ∧ (T2.set id r) k = T2 k := by
  refine ⟨fun k hk => ?_, fun k hk => ?_⟩
  · unfold Table.set; split
    · rfl
    · exact hw k hk
  · have hne : k ≠ id := fun e => hk (e ▸ hid)
    simp [Table.set, hne]
theorem frame_set2 {T T2 : Table} {wr : List Nat} {id id' : Nat} (hw : ∀ k ∈ wr, T2 k = T k) (hid : id ∈ wr) (hid' : id' ∈ wr) (r r' : Option Row) :
    (∀ k ∈ wr, ((T2.set id r).set id' r') k = ((T.set id r).set id' r') k) ∧ ∀ k, k ∉ wr → ((T.set id r).set id' r') k = T k ∧ ((T2.set id r).set id' r') k = T2 k := by
  obtain ⟨h1, h2⟩ := frame_set hw hid r
  obtain ⟨h3, h4⟩ := frame_set h1 hid' r'
  exact ⟨h3, fun k hk => ⟨(h4 k hk).1.trans (h2 k hk).1, (h4 k hk).2.trans (h2 k hk).2⟩⟩

theorem box_frame {id : Nat} {e : TypeId} {cs : List AV} {rd wr : List Nat} (hid : id ∈ wr) : TFrame (fun T => evBox P T id e cs) rd wr := by
  intro T T2 v T' hr hw he
  simp only [evBox] at he ⊢
  split at he
  · split at he
    · simp only [Option.some.injEq, Prod.mk.injEq] at he
      obtain ⟨rfl, rfl⟩ := he
      obtain ⟨h1, h2⟩ := frame_set hw hid (some ⟨e, [cs]⟩)
      exact ⟨_, by simp only [*]; rfl, h1, h2⟩
    · cases he
  · cases he

theorem make_frame {id : Nat} {t : TypeId} {l c : AV} {rd wr : List Nat} (hid : id ∈ wr) : TFrame (fun T => evMake P T id t l c) rd wr := by
  intro T T2 v T' hr hw he
  simp only [evMake] at he ⊢
  split at he
  · split at he
    · rename_i z sz b ht
      split at he
      · rename_i hc
        simp only [Option.some.injEq, Prod.mk.injEq] at he
        obtain ⟨rfl, rfl⟩ := he
        obtain ⟨h1, h2⟩ := frame_set hw hid (some ⟨_, _⟩)
        exact ⟨_, by simp only [ht, if_pos hc], h1, h2⟩
      · cases he
    · cases he
  · cases he

theorem buildSlice_frame {id : Nat} {t : TypeId} {n : Nat} {ps : List (Nat × AV)} {rd wr : List Nat} (hid : id ∈ wr) : TFrame (fun T => evBuildSlice P T id t n ps) rd wr := by
  intro T T2 v T' hr hw he
  simp only [evBuildSlice] at he ⊢
  split at he
  · split at he
    · rename_i z sz b ht
      split at he
      · rename_i hc
        obtain ⟨els, hels, he⟩ := Option.map_eq_some_iff.1 he
        simp only [Prod.mk.injEq] at he
        obtain ⟨rfl, rfl⟩ := he
        obtain ⟨h1, h2⟩ := frame_set hw hid (some ⟨_, els⟩)
        exact ⟨_, by simp only [ht, if_pos hc, hels]; rfl, h1, h2⟩
      · cases he
    · cases he
  · cases he

theorem store_frame {t : TypeId} {a b : AV} {rd wr : List Nat} (hw0 : ∀ k ∈ idOf a, k ∈ wr) : TFrame (fun T => (evStore P T t a b).map fun T' => (AV.flat undef, T')) rd wr := by
  intro T T2 v T' hr hw he
  obtain ⟨T1, h1, he⟩ := Option.map_eq_some_iff.1 he
  simp only [Prod.mk.injEq] at he
  obtain ⟨rfl, rfl⟩ := he
  simp only [evStore] at h1 ⊢
  split at h1
  · rename_i id i off z sz b' ht
    obtain ⟨r, hr1, h1⟩ := Option.bind_eq_some_iff.1 h1
    obtain ⟨e, he1, h1⟩ := Option.bind_eq_some_iff.1 h1
    split at h1
    · rename_i hc
      obtain rfl := Option.some.inj h1
      have hid : id ∈ wr := hw0 id (by simp [idOf])
      obtain ⟨q1, q2⟩ := frame_set hw hid (some ⟨r.elem, r.els.set i (spl e off b.cells)⟩)
      refine ⟨_, ?_, q1, q2⟩
      simp only [hw id hid, hr1, Option.bind_some, he1, if_pos hc]
      rfl
    · cases h1
  · cases h1

theorem copy_frame {t : TypeId} {d x : AV} {rd wr : List Nat} (hw0 : ∀ k ∈ idOf d, k ∈ wr) (hx : ∀ k ∈ idOf x, k ∈ wr) : TFrame (fun T => evCopy P T t d x) rd wr := by
  intro T T2 v T' hr hw he
  simp only [evCopy] at he ⊢
  split at he
  · rename_i e id off n ht
    split at he
    · rename_i z sz b hti
      rw [srcFit_congr (T := T) fun k hk => hw k (hx k hk), srcEls_congr (T := T) fun k hk => hw k (hx k hk)]
      have hid : id ∈ wr := hw0 id (by simp [idOf])
      split at he
      · rename_i hc
        obtain ⟨els, hels, he⟩ := Option.bind_eq_some_iff.1 he
        obtain ⟨r, hr1, he⟩ := Option.bind_eq_some_iff.1 he
        split at he
        · rename_i hc2
          simp only [Option.some.injEq, Prod.mk.injEq] at he
          obtain ⟨rfl, rfl⟩ := he
          obtain ⟨q1, q2⟩ := frame_set hw hid (some ⟨r.elem, r.els.take off ++ els.take (min els.length n) ++ r.els.drop (off + (els.take (min els.length n)).length)⟩)
          refine ⟨_, ?_, q1, q2⟩
          simp only [hti, if_pos hc, hels, Option.bind_some, hw id hid, hr1]
          rw [if_pos hc2]
        · cases he
      · cases he
    · cases he
  · cases he

theorem append_frame0 {id : Nat} {t u : TypeId} {s x : AV} {rd wr : List Nat} (hid : id ∈ wr) (hw0 : ∀ k ∈ idOf s, k ∈ wr) (hx : ∀ k ∈ idOf x, k ∈ wr) : TFrame (fun T => evApp0 P T id t u s x) rd wr := by
  intro T T2 v T' hr hw he
  simp only [evApp0] at he ⊢
  split at he
  · rename_i e du ht hu
    split at he
    · rename_i z sz b hti
      rw [srcFit_congr (T := T) fun k hk => hw k (hx k hk), srcEls_congr (T := T) fun k hk => hw k (hx k hk)]
      split at he
      · rename_i hc
        obtain ⟨news, hn, he⟩ := Option.bind_eq_some_iff.1 he
        split at he
        · rename_i hc2
          simp only [if_pos hc, hn, Option.bind_some, if_pos hc2]
          split at he
          · split at he
            · rename_i hc3
              simp only [Option.some.injEq, Prod.mk.injEq] at he
              obtain ⟨rfl, rfl⟩ := he
              obtain ⟨q1, q2⟩ := frame_set hw hid (some ⟨e, news⟩)
              exact ⟨_, by simp only [if_pos hc3], q1, q2⟩
            · cases he
          · rename_i id0 off n _
            have hid0 : id0 ∈ wr := hw0 id0 (by simp [idOf])
            obtain ⟨r, hr1, he⟩ := Option.bind_eq_some_iff.1 he
            simp only [hw id0 hid0, hr1, Option.bind_some]
            split at he
            · rename_i hc3
              split at he
              · rename_i hc4
                simp only [Option.some.injEq, Prod.mk.injEq] at he
                obtain ⟨rfl, rfl⟩ := he
                obtain ⟨q1, q2⟩ := frame_set2 hw hid0 hid none (some ⟨e, r.els.drop off ++ news⟩)
                exact ⟨_, by simp only [if_pos hc3, if_pos hc4], q1, q2⟩
              · cases he
            · rename_i hc3
              split at he
              · rename_i hc4
                simp only [Option.some.injEq, Prod.mk.injEq] at he
                obtain ⟨rfl, rfl⟩ := he
                obtain ⟨q1, q2⟩ := frame_set hw hid0 (some ⟨e, r.els.take (off + n) ++ news ++ r.els.drop (off + n + news.length)⟩)
                exact ⟨_, by simp only [if_neg hc3, if_pos hc4], q1, q2⟩
              · cases he
          · cases he
        · cases he
      · cases he
    · cases he
  · cases he

theorem trimS_eq {T T2 : Table} {s : AV} {wr : List Nat} (hw : ∀ k ∈ wr, T2 k = T k) (hw0 : ∀ k ∈ idOf s, k ∈ wr) : (∀ k ∈ wr, trimS T2 s k = trimS T s k) ∧ (∀ k, k ∉ wr → trimS T s k = T k ∧ trimS T2 s k = T2 k) := by
  unfold trimS
  split
  · rename_i id off n
    have hid : id ∈ wr := hw0 id (by simp [idOf])
    simp only [hw id hid]
    cases hTid : T id with
    | some r =>
      dsimp only
      refine ⟨fun k hk => ?_, fun k hk => ?_⟩
      · unfold Table.set
        split
        · rfl
        · exact hw k hk
      · have hne : k ≠ id := fun e => hk (e ▸ hid)
        unfold Table.set
        rw [if_neg hne, if_neg hne]
        exact ⟨rfl, rfl⟩
    | none => exact ⟨hw, fun _ _ => ⟨rfl, rfl⟩⟩
  · exact ⟨hw, fun _ _ => ⟨rfl, rfl⟩⟩
theorem append_frame {id : Nat} {t u : TypeId} {s x : AV} {rd wr : List Nat} (hid : id ∈ wr) (hw0 : ∀ k ∈ idOf s, k ∈ wr) (hx : ∀ k ∈ idOf x, k ∈ wr) : TFrame (fun T => evAppend P T id t u s x) rd wr := by
  intro T T2 v T' hr hw he
  obtain ⟨q1, q2⟩ := trimS_eq (s := s) hw hw0
  have := append_frame0 (P := P) (t := t) (u := u) (s := s) (x := x) (rd := []) hid hw0 hx (trimS T s) (trimS T2 s) v T' (fun k hk => by simp at hk) q1 he
  obtain ⟨T2', h1, h2, h3⟩ := this
  exact ⟨T2', h1, h2, fun k hk => by rw [(h3 k hk).1, (h3 k hk).2]; exact q2 k hk⟩

theorem opIds_of {st : St} {x : Operand} {a : AV} (h : st.op x = some a) : opIds st x = idOf a := by unfold opIds; rw [h]

theorem evOp_frame {st : St} {id : Nat} {ty : TypeId} {op : Op} : TFrame (fun T => evOp P T id st.op ty op) (readsOf st op) (writesOf st id op) := by
  have rdx : ∀ {x : Operand} {a : AV}, x ∈ op.operands.toList → st.op x = some a → ∀ k ∈ idOf a, k ∈ readsOf st op := by
    intro x a hx ha k hk
    unfold readsOf
    rw [List.mem_flatMap]
    exact ⟨x, hx, by rw [opIds_of ha]; exact hk⟩
  cases op with
  | move x => exact TFrame.pure fun _ _ _ => rfl
  | assign x => exact TFrame.pure fun _ _ _ => rfl
  | pick c x y =>
    refine TFrame.bind fun a ha => ?_
    cases a with
    | flat v => cases v with
      | bool t => exact TFrame.pure fun _ _ _ => rfl
      | _ => exact TFrame.none
    | _ => exact TFrame.none
  | alloc e =>
    simp only [evOp]
    split
    · split
      · exact box_frame (by simp [writesOf])
      · exact TFrame.none
    · exact TFrame.none
  | box e x => exact TFrame.bind fun a ha => box_frame (by simp [writesOf])
  | build t ps => exact TFrame.bind fun a ha => TFrame.pure fun _ _ _ => rfl
  | buildSlice t n ps => exact TFrame.bind fun a ha => buildSlice_frame (by simp [writesOf])
  | load t x =>
    refine TFrame.bind fun a ha => TFrame.pure fun T T2 h => ?_
    unfold evLoad
    rw [cellsAt_congr fun k hk => h k (rdx (by simp [Op.operands]) ha k hk)]
  | store t x y =>
    refine TFrame.bind fun a ha => TFrame.bind fun b hb => store_frame fun k hk => ?_
    simp only [writesOf]
    rw [opIds_of ha]; exact hk
  | nilCheck x =>
    refine TFrame.bind fun a ha => ?_
    refine (TFrame.pure (f := fun _ => if ptrLike a = true ∨ fnFlat a = true then some a else none) fun _ _ _ => rfl).congr fun T => ?_
    by_cases h : ptrLike a = true ∨ fnFlat a = true <;> simp [h]
  | binOp o t x y yt => exact TFrame.bind fun a ha => TFrame.bind fun b hb => TFrame.pure fun _ _ _ => rfl
  | unOp o t x => exact TFrame.bind fun a ha => TFrame.bind fun b hb => TFrame.pure fun _ _ _ => rfl
  | convert s d x =>
    refine TFrame.bind fun a ha => ?_
    have hb : ∀ {T T2 : Table}, (∀ k ∈ readsOf st (.convert s d x), T2 k = T k) → evBytes P T2 s d a = evBytes P T s d a := fun h => evBytes_congr fun k hk => h k (rdx (by simp [Op.operands]) ha k hk)
    cases a with
    | flat u => exact TFrame.pure fun _ _ _ => rfl
    | _ => exact TFrame.pure fun _ _ h => hb h
  | makeInterface t x => exact TFrame.bind fun a ha => TFrame.bind fun b hb => TFrame.pure fun _ _ _ => rfl
  | makeFunc fn f c =>
    simp only [evOp]
    split
    · exact TFrame.pure fun _ _ _ => rfl
    · exact TFrame.none
  | makeSlice t l c => exact TFrame.bind fun a ha => TFrame.bind fun b hb => make_frame (by simp [writesOf])
  | slice t x lo hi m =>
    cases m with
    | some m => exact TFrame.none
    | none =>
      refine TFrame.bind fun a ha => TFrame.bind fun b hb => TFrame.bind fun c hc => TFrame.pure fun T T2 h => ?_
      exact evSlice_congr fun k hk => h k (rdx (by simp [Op.operands]) ha k hk)
  | fieldAddr s x f => exact TFrame.bind fun a ha => TFrame.pure fun _ _ _ => rfl
  | field t x f => exact TFrame.bind fun a ha => TFrame.pure fun _ _ _ => rfl
  | indexAddr t x i =>
    refine TFrame.bind fun a ha => TFrame.bind fun b hb => TFrame.pure fun T T2 h => ?_
    exact evIndexAddr_congr fun k hk => h k (rdx (by simp [Op.operands]) ha k hk)
  | index t x i =>
    refine TFrame.bind fun a ha => TFrame.bind fun b hb => ?_
    cases a with
    | flat u => cases b with
      | flat v => exact TFrame.pure fun _ _ _ => rfl
      | _ => exact TFrame.pure fun _ _ _ => rfl
    | _ => exact TFrame.pure fun _ _ _ => rfl
  | typeAssert x t s ok => exact TFrame.bind fun a ha => TFrame.bind fun b hb => TFrame.pure fun _ _ _ => rfl
  | extract x i =>
    refine TFrame.bind fun a ha => ?_
    cases a with
    | tup l => exact TFrame.pure fun _ _ _ => rfl
    | _ => exact TFrame.none
  | call c =>
    obtain ⟨callee, args, ts⟩ := c
    cases callee with
    | value f => exact TFrame.none
    | invoke r m => exact TFrame.none
    | builtin b =>
      have mem : ∀ {x : Operand} {a : AV} {l : List Operand}, args.toList = l → x ∈ l → st.op x = some a → ∀ k ∈ idOf a, k ∈ args.toList.flatMap (opIds st) := by
        intro x a l hl hx ha k hk
        rw [hl, List.mem_flatMap]
        exact ⟨x, hx, by rw [opIds_of ha]; exact hk⟩
      simp only [evOp]
      unfold evBuiltin
      split
      · exact TFrame.bind fun a ha => TFrame.pure fun _ _ _ => rfl
      · rename_i s x t u hargs hts
        refine TFrame.bind fun a ha => TFrame.bind fun c hc => append_frame ?_ ?_ ?_
        · simp [writesOf]
        · intro k hk; simp only [writesOf]; exact List.mem_cons_of_mem _ (mem hargs (by simp) ha k hk)
        · intro k hk; simp only [writesOf]; exact List.mem_cons_of_mem _ (mem hargs (by simp) hc k hk)
      · rename_i s x t u hargs hts
        refine TFrame.bind fun a ha => TFrame.bind fun c hc => copy_frame ?_ ?_
        · intro k hk; simp only [writesOf]; exact mem hargs (by simp) ha k hk
        · intro k hk; simp only [writesOf]; exact mem hargs (by simp) hc k hk
      · exact TFrame.bind fun a ha => TFrame.pure fun _ _ _ => rfl
      · exact TFrame.bind fun a ha => TFrame.pure fun _ _ _ => rfl
      · exact TFrame.none
  | _ => exact TFrame.none

/-! ### One operation, told by what it does to its slot and the table -/
def Does (P : Program) (ops : Array Oper) (base i : Nat) (o : Oper) (st : St) (v : AV) (T' : Table) (f : Foot) : Prop :=
  (wantedA st ops o = some false ∧ v = .flat undef ∧ T' = st.T ∧ f = ⟨i, [], []⟩) ∨
  (wantedA st ops o = some true ∧ isCall o.op = true ∧ ∃ k xs args rd wr, callOf st o.op = some (k, xs) ∧ evArgs st xs = some args ∧ CallD P st.T (base + 8 * i) k args v T' rd wr ∧ f = ⟨i, rd, wr⟩) ∨
  (wantedA st ops o = some true ∧ isCall o.op = false ∧ evOp P st.T (base + 8 * i) st.op o.type o.op = some (v, T') ∧ f = ⟨i, readsOf st o.op, writesOf st (base + 8 * i) o.op⟩)

theorem put_self (st : St) (d : Option Tmp) (v : AV) : st.put d v = { st.put d v with T := st.T } := by rw [← St.put_T st d v]

theorem stepF_iff {ops : Array Oper} {base i : Nat} {st : St} {K : St → Foot → Prop} : AStepF P ops base i st K ↔ ∃ o v T' f, ops[i]? = some o ∧ Does P ops base i o st v T' f ∧ K { st.put o.dst v with T := T' } f := by
  unfold AStepF Does
  constructor
  · intro h
    split at h
    · exact h.elim
    · rename_i o ho
      split at h
      · exact h.elim
      · rename_i hw
        exact ⟨o, _, _, _, ho, .inl ⟨hw, rfl, rfl, rfl⟩, put_self st o.dst (.flat undef) ▸ h⟩
      · rename_i hw
        split at h
        · rename_i hc
          obtain ⟨k, xs, args, v, T', rd, wr, h1, h2, h3, h6⟩ := h
          exact ⟨o, _, _, _, ho, .inr (.inl ⟨hw, hc, k, xs, args, rd, wr, h1, h2, h3, rfl⟩), h6⟩
        · rename_i hc
          split at h
          · rename_i v T' he
            exact ⟨o, v, T', _, ho, .inr (.inr ⟨hw, by simpa using hc, he, rfl⟩), h⟩
          · exact h.elim
  · rintro ⟨o, v, T', f, ho, hd, hK⟩
    simp only [ho]
    rcases hd with ⟨hw, rfl, rfl, rfl⟩ | ⟨hw, hc, k, xs, args, rd, wr, h1, h2, h3, rfl⟩ | ⟨hw, hc, he, rfl⟩
    · simp only [hw]
      rw [put_self]; exact hK
    · simp only [hw, hc, if_true]
      exact ⟨k, xs, args, v, T', rd, wr, h1, h2, h3, hK⟩
    · simp only [hw, hc, he]
      exact hK

theorem op_look {ops : Array Oper} {o : Oper} {st st2 : St} (hs : ∀ t ∈ o.looksAt ops, st2.s t = st.s t) : ∀ x ∈ o.op.operands.toList, st2.op x = st.op x := by
  intro x hx
  cases x with
  | tmp t =>
    have : st2.s t = st.s t := hs t (by
      unfold Oper.looksAt
      rw [List.mem_append]
      exact .inl (List.mem_filterMap.2 ⟨.tmp t, hx, rfl⟩))
    simp only [St.op, this]
  | _ => rfl

theorem wanted_look {ops : Array Oper} {o : Oper} {st st2 : St} (hs : ∀ t ∈ o.looksAt ops, st2.s t = st.s t) : wantedA st2 ops o = wantedA st ops o := by
  unfold wantedA
  cases hg : o.guard with
  | none => rfl
  | some jw =>
    obtain ⟨j, want⟩ := jw
    simp only
    cases hd : (ops[j]?).bind (·.dst) with
    | none => rfl
    | some d =>
      have : st2.s d = st.s d := hs d (by
        unfold Oper.looksAt
        rw [List.mem_append]
        refine .inr ?_
        simp only [hg, hd, Option.toList_some, List.mem_singleton])
      simp only [this]

theorem evArgs_congr {st st2 : St} : ∀ (l : List Operand), (∀ x ∈ l, st2.op x = st.op x) → evArgs st2 l = evArgs st l := by
  intro l
  induction l with
  | nil => intro _; rfl
  | cons x l ih =>
    intro h
    simp only [evArgs, h x (by simp), ih fun y hy => h y (by simp [hy])]

theorem flatMap_ids {st st2 : St} (l : List Operand) (h : ∀ x ∈ l, st2.op x = st.op x) : l.flatMap (opIds st2) = l.flatMap (opIds st) := by
  induction l with
  | nil => rfl
  | cons x l ih =>
    simp only [List.flatMap_cons]
    rw [ih fun y hy => h y (by simp [hy])]
    unfold opIds
    rw [h x (by simp)]

theorem writes_congr {st st2 : St} {id : Nat} {op : Op} (h : ∀ x ∈ op.operands.toList, st2.op x = st.op x) : writesOf st2 id op = writesOf st id op := by
  cases op with
  | store t x y =>
    simp only [writesOf, opIds]
    rw [h x (by simp [Op.operands])]
  | call c =>
    obtain ⟨callee, args, ts⟩ := c
    cases callee with
    | builtin b =>
      have h' : ∀ x ∈ args.toList, st2.op x = st.op x := fun x hx => h x (by simp [Op.operands, Call.operands]; first | exact .inr (by simpa using hx) | simpa using hx)
      cases b <;> first | rfl | simp only [writesOf, flatMap_ids _ h']
    | _ => rfl
  | _ => rfl

theorem deep_congr {T T2 : Table} {ids : List Nat} (h : ∀ k ∈ ids, T2 k = T k) {x y : AV} (hd : Deep T ids x y) : Deep T2 ids x y := by
  induction hd with
  | id hx => exact .id hx
  | nil => exact .nil
  | agg hl _ ih => exact .agg hl ih
  | sl hid hr hle hl hs _ ih => exact .sl hid ((h _ hid).trans hr) hle hl hs ih
  | ptr hid hr he hl hlt _ ih => exact .ptr hid ((h _ hid).trans hr) he hl hlt ih

theorem calld_frame {T T2 : Table} {base : Nat} {f : FuncId} {args : List AV} {v : AV} {T' : Table} {rd wr : List Nat} (h : CallD P T base f args v T' rd wr) (hT : ∀ k, k ∈ rd ∨ k ∈ wr → T2 k = T k) :
    ∃ T2', CallD P T2 base f args v T2' rd wr ∧ (∀ k ∈ wr, T2' k = T' k) ∧ ∀ k, k ∉ wr → T' k = T k ∧ T2' k = T2 k := by
  rcases h with ⟨args', ids, val, rows, h3, h4, h5, rfl, rfl, rfl, rfl⟩ | ⟨m, ms, rs, R0, val, R1, hnd, hml, hms, hcl, hrs, hR0, hP, rfl, rfl, e1, e2⟩
  · refine ⟨adopt T2 base (rows base), .inl ⟨args', rd, val, rows, ?_, h4, h5, rfl, rfl, rfl, rfl⟩, fun j hj => ?_, fun j hj => ?_⟩
    · rcases h3 with h3 | ⟨⟨hl, h3⟩, h6⟩
      · exact .inl h3
      · exact .inr ⟨⟨hl, fun i x y hx hy => deep_congr (fun j hj => hT j (.inl hj)) (h3 i x y hx hy)⟩, h6⟩
    · simp only [List.mem_map, List.mem_range] at hj
      obtain ⟨a, ha, rfl⟩ := hj
      rw [adopt_spec, adopt_spec, if_pos (by omega), if_pos (by omega)]
    · have hn : ¬ (base ≤ j ∧ j < base + (rows base).length) := by
        intro hh
        refine hj ?_
        simp only [List.mem_map, List.mem_range]
        exact ⟨j - base, by omega, by omega⟩
      rw [adopt_spec, adopt_spec, if_neg hn, if_neg hn]
      exact ⟨rfl, rfl⟩
  · have hms2 : ms.map T2 = rs.map some := by
      rw [← hms]
      exact List.map_congr_left fun k hk => hT k (.inl (e1 ▸ hk))
    have mem : ∀ k, k ∈ wr ↔ ms.contains k = true ∨ (base ≤ k ∧ k < base + 8) := by
      intro k
      rw [e2, List.mem_append, List.contains_iff_mem, List.mem_map]
      constructor
      · rintro (h | ⟨a, ha, rfl⟩)
        · exact .inl h
        · have := List.mem_range.1 ha
          exact .inr ⟨by omega, by omega⟩
      · rintro (h | ⟨h1, h2⟩)
        · exact .inl h
        · exact .inr ⟨k - base, List.mem_range.2 (by omega), by omega⟩
    refine ⟨merge T2 ms m base (renRows (backName ms m base) R1), .inr ⟨m, ms, rs, R0, val, R1, hnd, hml, hms2, hcl, hrs, hR0, hP, rfl, rfl, e1, e2⟩, fun k hk => ?_, fun k hk => ?_⟩
    · unfold merge
      rcases (mem k).1 hk with h | h
      · rw [if_pos h, if_pos h]
      · by_cases hm : ms.contains k = true
        · rw [if_pos hm, if_pos hm]
        · simp only [if_neg hm, if_pos h]
    · have h1 : ¬ ms.contains k = true := fun h => hk ((mem k).2 (.inl h))
      have h2 : ¬ (base ≤ k ∧ k < base + 8) := fun h => hk ((mem k).2 (.inr h))
      unfold merge
      rw [if_neg h1, if_neg h2, if_neg h1, if_neg h2]
      exact ⟨rfl, rfl⟩

theorem does_frame {ops : Array Oper} {base i : Nat} {o : Oper} {st st2 : St} {v : AV} {T' : Table} {f : Foot} (hd : Does P ops base i o st v T' f) (hs : ∀ t ∈ o.looksAt ops, st2.s t = st.s t)
    (hT : ∀ k, k ∈ f.rd ∨ k ∈ f.wr → st2.T k = st.T k) : ∃ T2', Does P ops base i o st2 v T2' f ∧ (∀ k ∈ f.wr, T2' k = T' k) ∧ ∀ k, k ∉ f.wr → T' k = st.T k ∧ T2' k = st2.T k := by
  have hop := op_look hs
  have hw' := wanted_look hs
  rcases hd with ⟨hw, rfl, rfl, rfl⟩ | ⟨hw, hc, k, xs, args, rd, wr, h1, h2, h3, rfl⟩ | ⟨hw, hc, he, rfl⟩
  · exact ⟨st2.T, .inl ⟨hw'.trans hw, rfl, rfl, rfl⟩, fun k hk => by simp at hk, fun k _ => ⟨rfl, rfl⟩⟩
  · have hcall : callOf st2 o.op = some (k, xs) ∧ evArgs st2 xs = some args := by
      unfold callOf at h1 ⊢
      split at h1
      · rename_i fo as ts hoo
        have hfo : st2.op fo = st.op fo := hop fo (by rw [hoo]; simp [Op.operands, Call.operands])
        rw [hfo]
        refine ⟨h1, ?_⟩
        split at h1
        · split at h1
          · simp only [Option.some.injEq, Prod.mk.injEq] at h1
            obtain ⟨rfl, rfl⟩ := h1
            rw [evArgs_congr _ fun x hx => hop x (by rw [hoo]; simp [Op.operands, Call.operands]; exact .inr (by simpa using hx))]
            exact h2
          · cases h1
        · cases h1
      · cases h1
    obtain ⟨T2', q1, q2, q3⟩ := calld_frame h3 hT
    exact ⟨T2', .inr (.inl ⟨hw'.trans hw, hc, k, xs, args, rd, wr, hcall.1, hcall.2, q1, rfl⟩), q2, q3⟩
  · have hf := evOp_frame (P := P) (st := st) (id := base + 8 * i) (ty := o.type) (op := o.op) st.T st2.T v T' (fun k hk => hT k (.inl hk)) (fun k hk => hT k (.inr hk)) he
    obtain ⟨T2', h1, h2, h3⟩ := hf
    refine ⟨T2', .inr (.inr ⟨hw'.trans hw, hc, ?_, ?_⟩), h2, h3⟩
    · rw [evOp_congr hop]; exact h1
    · unfold readsOf
      rw [flatMap_ids _ hop, writes_congr hop]

def Step (P : Program) (ops : Array Oper) (base i : Nat) (st st' : St) (f : Foot) : Prop := ∃ o v T', ops[i]? = some o ∧ Does P ops base i o st v T' f ∧ st' = { st.put o.dst v with T := T' }

theorem put_look {ops : Array Oper} {o : Oper} {st : St} {d : Option Tmp} {v : AV} {T' : Table} (h : ∀ k, d = some k → k ∉ o.looksAt ops) : ∀ t ∈ o.looksAt ops, ({ st.put d v with T := T' } : St).s t = st.s t := by
  intro t ht
  show (st.put d v).s t = st.s t
  rw [St.put_s, if_neg]
  intro e
  exact h t e ht

theorem St.ext' {a b : St} (hs : a.s = b.s) (hT : a.T = b.T) (hn : a.nx = b.nx) : a = b := by
  cases a; cases b; simp_all

/-- Two operations change places. -/
theorem step_swap {ops : Array Oper} {base i j : Nat} {st st1 st2 : St} {f g : Foot} {oi oj : Oper} (hi : ops[i]? = some oi) (hj : ops[j]? = some oj) (hap : oi.apart ops oj = true) (hfg : apartB f g = true)
    (h1 : Step P ops base i st st1 f) (h2 : Step P ops base j st1 st2 g) : ∃ st1', Step P ops base j st st1' g ∧ Step P ops base i st1' st2 f := by
  obtain ⟨o, vi, Ti, ho, hdi, rfl⟩ := h1
  rw [hi] at ho; obtain rfl := Option.some.inj ho
  obtain ⟨o, vj, Tj, ho, hdj, rfl⟩ := h2
  rw [hj] at ho; obtain rfl := Option.some.inj ho
  obtain ⟨ha1, ha2, ha3⟩ := Oper.apart_spec hap
  simp only [apartB, Bool.and_eq_true, List.all_eq_true, Bool.not_eq_true', List.contains_eq_mem, decide_eq_false_iff_not] at hfg
  obtain ⟨hf, hg⟩ := hfg
  have hfg' : ∀ k ∈ g.wr, k ∉ f.wr := fun k hk hk' => (hf k hk').2 hk
  -- what 'i' left
  obtain ⟨_, _, _, hTi⟩ := does_frame hdi (st2 := st) (fun _ _ => rfl) (fun _ _ => rfl)
  -- 'j' ahead
  obtain ⟨Tj2, hdj2, q1, q2⟩ := does_frame hdj (st2 := st) (fun t ht => (put_look ha1 t ht).symm) (fun k hk => by
    show st.T k = Ti k
    refine ((hTi k fun hk' => ?_).1).symm
    rcases hk with hk | hk
    · exact (hf k hk').1 hk
    · exact (hf k hk').2 hk)
  obtain ⟨Ti2, hdi2, q3, q4⟩ := does_frame hdi (st2 := { st.put oj.dst vj with T := Tj2 }) (fun t ht => put_look ha3 t ht) (fun k hk => by
    show Tj2 k = st.T k
    refine (q2 k fun hk' => ?_).2
    rcases hk with hk | hk
    · exact hg k hk' hk
    · exact hfg' k hk' hk)
  refine ⟨_, ⟨oj, vj, Tj2, hj, hdj2, rfl⟩, ⟨oi, vi, Ti2, hi, hdi2, ?_⟩⟩
  have eT : Tj = Ti2 := by
    funext k
    by_cases hk : k ∈ f.wr
    · have hkg : k ∉ g.wr := (hf k hk).2
      rw [q3 k hk]
      exact (q2 k hkg).1
    · rw [(q4 k hk).2]
      by_cases hkg : k ∈ g.wr
      · exact (q1 k hkg).symm
      · show Tj k = Tj2 k
        rw [(q2 k hkg).1, (q2 k hkg).2]
        exact (hTi k hk).1
  refine St.ext' ?_ eT ?_
  · funext t
    simp only [St.put_s]
    by_cases e1 : oj.dst = some t
    · have e2 : oi.dst ≠ some t := fun e => ha2 t e e1
      rw [if_pos e1, if_neg e2, if_pos e1]
    · simp only [if_neg e1]
  · simp only [St.put_nx]

/-! ### The order that is drawn -/
def Chain (P : Program) (ops : Array Oper) (base : Nat) (φ : Nat → Foot) : List Nat → St → St → Prop
  | [], st, st' => st = st'
  | i :: l, st, st' => ∃ st1, Step P ops base i st st1 (φ i) ∧ Chain P ops base φ l st1 st'

theorem chain_front {ops : Array Oper} {base : Nat} {φ : Nat → Foot} {i : Nat} {l2 : List Nat} {st' : St} : ∀ (l1 : List Nat) (st : St), Chain P ops base φ (l1 ++ i :: l2) st st' →
    (∀ j ∈ l1, ∃ oj oi, ops[j]? = some oj ∧ ops[i]? = some oi ∧ oj.apart ops oi = true ∧ apartB (φ j) (φ i) = true) → Chain P ops base φ (i :: (l1 ++ l2)) st st' := by
  intro l1
  induction l1 with
  | nil => intro st h _; exact h
  | cons j l1 ih =>
    intro st h hap
    obtain ⟨st1, hs1, h⟩ := h
    obtain ⟨st2, hs2, h⟩ := ih st1 h fun k hk => hap k (by simp [hk])
    obtain ⟨oj, oi, hoj, hoi, h1, h2⟩ := hap j (by simp)
    obtain ⟨st1', q1, q2⟩ := step_swap hoj hoi h1 h2 hs1 hs2
    exact ⟨st1', q1, st2, q2, h⟩

theorem does_i {ops : Array Oper} {base i : Nat} {o : Oper} {st : St} {v : AV} {T' : Table} {f : Foot} (hd : Does P ops base i o st v T' f) : f.i = i := by
  rcases hd with ⟨_, _, _, rfl⟩ | ⟨_, _, _, _, _, _, _, _, _, _, rfl⟩ | ⟨_, _, _, rfl⟩ <;> rfl

theorem chain_of {ops : Array Oper} {base : Nat} {Q : St → List Foot → Prop} : ∀ (l : List Nat) (st : St) (fs : List Foot), AOpsD P ops base l st fs Q →
    ∃ fs' st', fs'.length = l.length ∧ Q st' (fs ++ fs') ∧ ∀ φ : Nat → Foot, (∀ (k i : Nat), l[k]? = some i → fs'[k]? = some (φ i)) → Chain P ops base φ l st st' := by
  intro l
  induction l with
  | nil => intro st fs h; exact ⟨[], st, rfl, by simpa [AOpsD] using h, fun φ _ => rfl⟩
  | cons i l ih =>
    intro st fs h
    simp only [AOpsD] at h
    obtain ⟨o, v, T', f, ho, hd, h⟩ := stepF_iff.1 h
    obtain ⟨fs', st', hl, hq, hc⟩ := ih _ _ h
    refine ⟨f :: fs', st', by simp [hl], by simpa using hq, fun φ hφ => ?_⟩
    have h0 := hφ 0 i rfl
    simp at h0
    exact ⟨_, ⟨o, v, T', ho, h0 ▸ hd, rfl⟩, hc φ fun k j hk => by simpa using hφ (k + 1) j (by simpa using hk)⟩

theorem maskOf_bit {acc : List Nat} : ∀ {l : List Edge} {i : Nat}, (maskOf acc l).testBit i = true → ∃ e ∈ l, Region.binds .any e = true ∧ (e.on = i ∨ (acc.getD e.on 0).testBit i = true) := by
  intro l
  induction l with
  | nil => intro i h; simp [maskOf] at h
  | cons e l ih =>
    intro i h
    simp only [maskOf] at h
    split at h
    · rename_i hb
      rw [Nat.testBit_or, Nat.testBit_or, Bool.or_eq_true, Bool.or_eq_true] at h
      rcases h with (h | h) | h
      · rw [Nat.testBit_two_pow] at h
        exact ⟨e, by simp, hb, .inl (by simpa using h)⟩
      · exact ⟨e, by simp, hb, .inr h⟩
      · obtain ⟨e', he, h1, h2⟩ := ih h
        exact ⟨e', by simp [he], h1, h2⟩
    · obtain ⟨e', he, h1, h2⟩ := ih h
      exact ⟨e', by simp [he], h1, h2⟩

/-- What is ahead of an operation is in every set that has the operation and what its edges, and theirs, name. -/
theorem masks_closed {X : Nat → Prop} : ∀ (l : List Oper) (acc : List Nat), (∀ j, X j → ∀ i, (acc.getD j 0).testBit i = true → X i) →
    (∀ k o, l[k]? = some o → X (acc.length + k) → ∀ e ∈ o.after.toList, Region.binds .any e = true → X e.on) → ∀ j, X j → ∀ i, ((masks l acc).getD j 0).testBit i = true → X i := by
  intro l
  induction l with
  | nil => intro acc h _; exact h
  | cons o l ih =>
    intro acc h hl
    refine ih _ (fun j hj i hi => ?_) (fun k o' hk hX e he hb => hl (k + 1) o' (by simpa using hk) (by simpa [Nat.add_assoc, Nat.add_comm 1] using hX) e he hb)
    by_cases hlt : j < acc.length
    · have e1 : (acc ++ [maskOf acc o.after.toList]).getD j 0 = acc.getD j 0 := by simp [List.getD, List.getElem?_append_left hlt]
      rw [e1] at hi
      exact h j hj i hi
    · by_cases he : j = acc.length
      · subst he
        have e1 : (acc ++ [maskOf acc o.after.toList]).getD acc.length 0 = maskOf acc o.after.toList := by simp [List.getD]
        rw [e1] at hi
        obtain ⟨e, hm, hb, h2⟩ := maskOf_bit hi
        have hX := hl 0 o rfl (by simpa using hj) e hm hb
        rcases h2 with rfl | h2
        · exact hX
        · exact h e.on hX i h2
      · have e1 : (acc ++ [maskOf acc o.after.toList]).getD j 0 = 0 := by
          simp only [List.getD]
          rw [List.getElem?_eq_none (by simp; omega)]; rfl
        rw [e1] at hi
        simp at hi

/-- What is still to be done. -/
def left (n : Nat) (listed : Array Bool) : List Nat := (List.range n).filter fun i => !listed.getD i true
def freshOf (base : Nat) (fin : Nat → Prop) (l : List Nat) : Nat → Prop := fun id => fin id ∨ ∃ i ∈ l, base + 8 * i ≤ id ∧ id < base + 8 * i + 8

theorem mem_left {n : Nat} {listed : Array Bool} {i : Nat} : i ∈ left n listed ↔ i < n ∧ listed.getD i true = false := by simp [left]

theorem left_set {n i : Nat} {listed : Array Bool} (hs : listed.size = n) (hi : i < n) : left n (listed.setIfInBounds i true) = (left n listed).filter (· ≠ i) := by
  unfold left
  rw [List.filter_filter]
  congr 1
  funext j
  simp only [Array.getD_eq_getD_getElem?, Array.getElem?_setIfInBounds]
  by_cases e : i = j
  · subst e; simp [hs, hi]
  · have e' : j ≠ i := fun h => e h.symm
    simp [e, e']

theorem filter_mid {l1 l2 : List Nat} {i : Nat} (h : (l1 ++ i :: l2).Nodup) : (l1 ++ i :: l2).filter (· ≠ i) = l1 ++ l2 := by
  have hn1 : i ∉ l1 := fun hm => by
    have := (List.nodup_append.1 h).2.2 i hm i (by simp)
    exact this rfl
  have hn2 : i ∉ l2 := (List.nodup_cons.1 (List.nodup_append.1 h).2.1).1
  rw [List.filter_append, List.filter_cons]
  simp only [ne_eq, not_true, decide_false, Bool.false_eq_true, if_false]
  congr 1
  · exact List.filter_eq_self.2 fun j hj => by simp; exact fun e => hn1 (e ▸ hj)
  · exact List.filter_eq_self.2 fun j hj => by simp; exact fun e => hn2 (e ▸ hj)

theorem any_sound {S : Start} {ops : Array Oper} {Q : Exit → Act → World → Prop} {base : Nat} {φ : Nat → Foot} {stF : St} {fin : Nat → Prop} (ho : opsOk S.n ops)
    (hback : ∀ i o, ops[i]? = some o → ∀ e ∈ o.after.toList, Region.binds .any e = true → e.on < i)
    (hap : ∀ i j, i < j → j < ops.size → aheadB (masks ops.toList []) i j = true ∨ ∃ oi oj, ops[i]? = some oi ∧ ops[j]? = some oj ∧ oi.apart ops oj = true ∧ apartB (φ i) (φ j) = true)
    (hfin : ∀ id, fin id → base + 8 * ops.size ≤ id) (hQ : ∀ a' w', Rel P S fin stF a' w' → Q .normal a' w') :
    ∀ (fuel : Nat) (listed : Array Bool) (st : St) (a : Act) (w : World), listed.size = ops.size → (left ops.size listed).length ≤ fuel →
      (∀ i o, listed.getD i false = true → ops[i]? = some o → ∀ e ∈ o.after.toList, Region.binds .any e = true → listed.getD e.on false = true) →
      Chain P ops base φ (left ops.size listed) st stF → Rel P S (freshOf base fin (left ops.size listed)) st a w → wpAny P .any ops Q fuel listed a w := by
  have getD2 : ∀ (listed : Array Bool) (i : Nat), i < listed.size → listed.getD i true = listed.getD i false := fun listed i h => by simp [Array.getD, h]
  -- the first that is left is ready
  have first : ∀ (listed : Array Bool) (i : Nat) (l : List Nat), listed.size = ops.size → left ops.size listed = i :: l → i ∈ Region.ready .any ops listed := by
    intro listed i l hs hl
    have hi : i ∈ left ops.size listed := by rw [hl]; simp
    obtain ⟨hlt, hf⟩ := mem_left.1 hi
    have hget : ops[i]? = some ops[i] := Array.getElem?_eq_getElem hlt
    unfold Region.ready
    rw [List.mem_filter]
    refine ⟨List.mem_range.2 hlt, ?_⟩
    simp only [hf, Bool.not_false, Bool.true_and, hget, Option.map_some, Option.getD_some, Array.all_eq_true_iff_forall_mem, Bool.or_eq_true, Bool.not_eq_true']
    intro e he
    cases hb : Region.binds .any e with
    | false => exact .inl rfl
    | true =>
      refine .inr ?_
      have hlt' := hback i _ hget e (by simpa using he) hb
      rw [← getD2 listed _ (by omega)]
      cases hq : listed.getD e.on true with
      | true => rfl
      | false =>
        have hm : e.on ∈ left ops.size listed := mem_left.2 ⟨by omega, hq⟩
        have hsorted : (left ops.size listed).Pairwise (· < ·) := List.Pairwise.filter _ List.pairwise_lt_range
        rw [hl] at hm hsorted
        rcases List.mem_cons.1 hm with h | h
        · omega
        · have := (List.pairwise_cons.1 hsorted).1 _ h
          omega
  have empty : ∀ (listed : Array Bool), listed.size = ops.size → Region.ready .any ops listed = [] → left ops.size listed = [] := by
    intro listed hs hr
    cases hl : left ops.size listed with
    | nil => rfl
    | cons i l =>
      have := first listed i l hs hl
      rw [hr] at this
      cases this
  have done : ∀ (listed : Array Bool) (st : St) (a : Act) (w : World), left ops.size listed = [] → Chain P ops base φ (left ops.size listed) st stF → Rel P S (freshOf base fin (left ops.size listed)) st a w → Q .normal a w := by
    intro listed st a w hl hc hR
    rw [hl] at hc hR
    have e : st = stF := hc
    subst e
    exact hQ a w (hR.weak fun id h => .inl h)
  intro fuel
  induction fuel with
  | zero =>
    intro listed st a w hs hl hcl hc hR
    have hnil : left ops.size listed = [] := List.eq_nil_of_length_eq_zero (by omega)
    refine ⟨?_, done listed st a w hnil hc hR⟩
    apply List.eq_nil_iff_forall_not_mem.2
    intro i hi
    unfold Region.ready at hi
    rw [List.mem_filter] at hi
    have : i ∈ left ops.size listed := mem_left.2 ⟨List.mem_range.1 hi.1, by
      have := hi.2
      simp only [Bool.and_eq_true, Bool.not_eq_true'] at this
      exact this.1⟩
    rw [hnil] at this
    cases this
  | succ fuel ih =>
    intro listed st a w hs hl hcl hc hR
    refine ⟨fun hr => done listed st a w (empty listed hs hr) hc hR, fun i hi => ?_⟩
    unfold Region.ready at hi
    rw [List.mem_filter] at hi
    obtain ⟨hir, hi2⟩ := hi
    have hlt := List.mem_range.1 hir
    have hget : ops[i]? = some ops[i] := Array.getElem?_eq_getElem hlt
    simp only [Bool.and_eq_true, Bool.not_eq_true', hget, Option.map_some, Option.getD_some, Array.all_eq_true_iff_forall_mem, Bool.or_eq_true] at hi2
    obtain ⟨hf, hedges⟩ := hi2
    have hmem : i ∈ left ops.size listed := mem_left.2 ⟨hlt, hf⟩
    obtain ⟨l1, l2, hsplit⟩ := List.append_of_mem hmem
    have hsorted : (left ops.size listed).Pairwise (· < ·) := List.Pairwise.filter _ List.pairwise_lt_range
    have hnd : (left ops.size listed).Nodup := hsorted.imp fun h => Nat.ne_of_lt h
    have hset := left_set hs hlt
    have hl' : left ops.size (listed.setIfInBounds i true) = l1 ++ l2 := by
      rw [hset, hsplit, filter_mid (hsplit ▸ hnd)]
    -- what is ahead of 'i' is listed
    have hX : ∀ k, k ≠ i → aheadB (masks ops.toList []) k i = true → listed.getD k false = true := by
      intro k hne hk
      have := masks_closed (X := fun j => listed.getD j false = true ∨ j = i) ops.toList [] (fun j _ k hk => by simp at hk) (fun k o hk hX e he hb => by
        have hk' : ops[k]? = some o := by simpa using hk
        rcases hX with hX | hX
        · exact .inl (hcl k o (by simpa using hX) hk' e he hb)
        · have hki : k = i := by simpa using hX
          subst hki
          rw [hget] at hk'
          obtain rfl := Option.some.inj hk'
          rcases hedges e (by simpa using he) with h | h
          · rw [hb] at h; cases h
          · exact .inl h) i (.inr rfl) k hk
      rcases this with h | rfl
      · exact h
      · exact absurd rfl hne
    have hchain : Chain P ops base φ (i :: (l1 ++ l2)) st stF := by
      refine chain_front l1 st (hsplit ▸ hc) fun j hj => ?_
      have hjm : j ∈ left ops.size listed := by rw [hsplit]; simp [hj]
      obtain ⟨hjlt, hjf⟩ := mem_left.1 hjm
      have hji : j < i := by
        rw [hsplit] at hsorted
        exact (List.pairwise_append.1 hsorted).2.2 j hj i (by simp)
      rcases hap j i hji hlt with h | ⟨oj, oi, h1, h2, h3, h4⟩
      · have := hX j (by omega) h
        rw [← getD2 listed _ (by omega), hjf] at this
        cases this
      · exact ⟨oj, oi, h1, h2, h3, h4⟩
    obtain ⟨st1, hstep, hc1⟩ := hchain
    obtain ⟨o, v, T', hoo, hd, rfl⟩ := hstep
    have hF : AStepF P ops base i st (fun s g => s = { st.put o.dst v with T := T' } ∧ g = φ i) := stepF_iff.2 ⟨o, v, T', φ i, hoo, hd, rfl, rfl⟩
    obtain ⟨st', ft, ⟨hst, hft⟩, hw⟩ := step_sound (Q := Q) hR (fun k hk => .inr ⟨i, hmem, by omega, by omega⟩) ho hF
    refine wpOp_mono (fun a' w' hR' => ?_) hw
    rw [hst] at hR'
    refine ih (listed.setIfInBounds i true) { st.put o.dst v with T := T' } a' w' (by simpa using hs) ?_ ?_ ?_ ?_
    · rw [hl']
      rw [hsplit] at hl
      simp at hl ⊢; omega
    · intro k ok hk hok e he hb
      have set_get : ∀ m, listed.getD m false = true → (listed.setIfInBounds i true).getD m false = true := by
        intro m hm
        simp only [Array.getD_eq_getD_getElem?, Array.getElem?_setIfInBounds] at hm ⊢
        split
        · split <;> simp_all
        · exact hm
      by_cases hki : k = i
      · subst hki
        rw [hget] at hok
        obtain rfl := Option.some.inj hok
        rcases hedges e (by simpa using he) with h | h
        · rw [hb] at h; cases h
        · exact set_get _ h
      · refine set_get _ (hcl k ok ?_ hok e he hb)
        have hik : i ≠ k := fun h => hki h.symm
        simpa [Array.getD_eq_getD_getElem?, Array.getElem?_setIfInBounds, hik] using hk
    · rw [hl']; exact hc1
    · rw [hl']
      refine hR'.weak fun id h => ?_
      rcases h with h | ⟨k, hk, h1, h2⟩
      · exact ⟨.inl h, fun hh => by have := hfin id h; omega⟩
      · have hkm : k ∈ left ops.size listed := by rw [hsplit]; rcases List.mem_append.1 hk with h | h <;> simp [h]
        refine ⟨.inr ⟨k, hkm, h1, h2⟩, fun hh => ?_⟩
        have hne : k ≠ i := by
          rintro rfl
          rw [← hl', hset] at hk
          simp at hk
        omega

theorem Rel.drawn {S : Start} {fresh : Nat → Prop} {st : St} {a : Act} {w : World} (h : Rel P S fresh st a w) (n : Nat) : Rel P S fresh st a { w with drawn := n } := by
  obtain ⟨L, μ, hC⟩ := h
  have up : ∀ {v : Value} {x : AV}, VRel w L μ v x → VRel { w with drawn := n } L μ v x := fun h => h.mono (w := w) (w' := { w with drawn := n }) (fun _ _ _ => rfl) (Nat.le_refl _) (fun _ _ h => h) (fun _ _ h => h)
  refine ⟨L, μ, hC.size, hC.defers, fun t ht => up (hC.slot t ht), ⟨fun id r hr => ?_, fun id id' r r' p p' hr hr' hp hp' hne => hC.tab.apart id id' r r' p p' hr hr' hp hp' hne⟩, hC.fresh, hC.os, hC.tape, hC.output, hC.grown, hC.block, hC.L, hC.place, hC.pinned⟩
  obtain ⟨q, hq, hrow, hnil⟩ := hC.tab.row id r hr
  exact ⟨q, hq, fun p hp => (hrow p hp).mono (w := w) (w' := { w with drawn := n }) (fun _ _ _ => rfl) (Nat.le_refl _) (fun _ _ h => h) (fun _ _ h => h) rfl (hrow p hp).live, hnil⟩

theorem draw_sound : DrawSound P := by
  intro S ops Q K id st a w ho hR h hQ
  obtain ⟨hok, h⟩ := h
  simp only [drawOk, Bool.and_eq_true] at hok
  obtain ⟨⟨hm, hback⟩, hnames⟩ := hok
  obtain ⟨fs, stF, hlen, ⟨hind, hK⟩, hchain⟩ := chain_of _ _ _ h
  simp only [List.nil_append] at hind
  have hlen' : fs.length = ops.size := by simpa using hlen
  have hφ : ∀ (k i : Nat), (List.range ops.size)[k]? = some i → fs[k]? = some ((fun i => (fs[i]?).getD ⟨i, [], []⟩) i) := by
    intro k i hk
    have hlt : k < ops.size := by simpa using (List.getElem?_eq_some_iff.1 hk).1
    rw [List.getElem?_range hlt] at hk
    obtain rfl := Option.some.inj hk
    have : k < fs.length := by omega
    simp [List.getElem?_eq_getElem this]
  have hc := hchain _ hφ
  have hleft : left ops.size (Array.replicate ops.size false) = List.range ops.size := by
    unfold left
    refine List.filter_eq_self.2 fun i hi => ?_
    have := List.mem_range.1 hi
    simp [Array.getD, this]
  refine wp_region_any hm ?_
  refine any_sound (base := st.nx) (φ := fun i => (fs[i]?).getD ⟨i, [], []⟩) (stF := stF) (fin := (st.nx + 8 * ops.size ≤ ·)) ho ?_ ?_ (fun _ h => h) (fun a' w' hR' => hQ stF a' w' hK hR') ops.size _ st a _ (by simp) ?_ ?_ ?_ ?_
  · intro i o hio e he hb
    simp only [backward, List.all_eq_true] at hback
    have hlt := (Array.getElem?_eq_some_iff.1 hio).1
    have := hback i (List.mem_range.2 hlt)
    simp only [hio, List.all_eq_true] at this
    have := this e he
    simpa [hb] using this
  · intro i j hij hj
    simp only [namesApart, List.all_eq_true] at hnames
    have h1 := hnames j (List.mem_range.2 hj) i (List.mem_range.2 hij)
    simp only [indepB, List.all_eq_true] at hind
    have h2 := hind j (List.mem_range.2 (by omega)) i (List.mem_range.2 hij)
    have hi : i < ops.size := by omega
    cases hb : aheadB (masks ops.toList []) i j with
    | true => exact .inl rfl
    | false =>
      refine .inr ⟨ops[i], ops[j], Array.getElem?_eq_getElem hi, Array.getElem?_eq_getElem hj, ?_, ?_⟩
      · simpa [hb, Array.getElem?_eq_getElem hi, Array.getElem?_eq_getElem hj] using h1
      · have hi' : i < fs.length := by omega
        have hj' : j < fs.length := by omega
        simpa [hb, List.getElem?_eq_getElem hi', List.getElem?_eq_getElem hj'] using h2
  · rw [hleft]; simp
  · intro i o hi
    simp [Array.getD] at hi
  · rw [hleft]; exact hc
  · refine (hR.drawn _).weak fun id hid => ?_
    rcases hid with hid | ⟨i, _, h1, _⟩
    · have : st.nx + 8 * ops.size ≤ id := hid
      show st.nx ≤ id; omega
    · show st.nx ≤ id; omega

/-- A function's contract, from its body. -/
theorem acalls_of {f : FuncId} {fn : Func} {c : Code} {args : List AV} {val : Nat → AV} {rows : Nat → List Row} (hf : P.funcs[f]? = some fn) (hb : fn.body = some c) (hname : (fn.name == "runtime.NumGoroutine") = false)
    (hn : Nat.ble args.length fn.ntmps = true) (hd : dstsOk fn.ntmps c = true) (h : ∀ Q : Exit → St → Prop, (∀ e st, endOk e → Leaves P fn val rows st → Q e st) → AW P 0 c (st0 args) Q) : ACalls P f args val rows :=
  acalls_of' draw_sound hf hb hname (Nat.le_of_ble_eq_true hn) hd (h _ fun _ _ h1 h2 => ⟨h1, h2⟩)

theorem ncalls_of {f : FuncId} {fn : Func} {c : Code} {args : List AV} {R : (Nat → AV) → (Nat → List Row) → Prop} (hf : P.funcs[f]? = some fn) (hb : fn.body = some c) (hname : (fn.name == "runtime.NumGoroutine") = false)
    (hn : Nat.ble args.length fn.ntmps = true) (hd : dstsOk fn.ntmps c = true) (h : ∀ Q : Exit → St → Prop, (∀ e st, endOk e → (∃ val rows, R val rows ∧ Leaves P fn val rows st) → Q e st) → AW P 0 c (st0 args) Q) : NCalls P f args R :=
  ncalls_of' draw_sound hf hb hname (Nat.le_of_ble_eq_true hn) hd (h _ fun _ _ h1 h2 => ⟨h1, h2⟩)

theorem pcalls_of {f : FuncId} {fn : Func} {c : Code} {args : List AV} {R0 : List Row} {val : AV} {R1 : List (Option Row)} {m : Nat} (hm0 : 0 < m) (hml : m ≤ R0.length) (hf : P.funcs[f]? = some fn) (hb : fn.body = some c) (hname : (fn.name == "runtime.NumGoroutine") = false)
    (hn : Nat.ble args.length fn.ntmps = true) (hd : dstsOk fn.ntmps c = true) (h : ∀ Q : Exit → St → Prop, (∀ e st, endOk e → PLeaves P fn m val R1 st → Q e st) → AW P m c (stP args R0) Q) : PCalls P f m args R0 val R1 :=
  pcalls_of' draw_sound hm0 hml hf hb hname (Nat.le_of_ble_eq_true hn) hd (h _ fun _ _ h1 h2 => ⟨h1, h2⟩)

mutual
theorem closed_up {ks : List Nat} : ∀ (x : AV), closedIn [] x = true → closedIn ks x = true
  | .sl id off n, h => by simp [closedIn] at h
  | .ptr id i off, h => by simp [closedIn] at h
  | .agg cs, h => by simp only [closedIn] at h ⊢; exact closed_ups cs h
  | .tup cs, h => by simp only [closedIn] at h ⊢; exact closed_ups cs h
  | .flat v, _ => rfl
  | .ro els, _ => rfl
  | .rp cs, _ => rfl
theorem closed_ups {ks : List Nat} : ∀ (l : List AV), closedAll [] l = true → closedAll ks l = true
  | [], _ => rfl
  | x :: l, h => by
    simp only [closedAll, Bool.and_eq_true] at h ⊢
    exact ⟨closed_up x h.1, closed_ups l h.2⟩
end

/-- What leads to no row of one's own is handed back as it is. -/
theorem Leaves.plain {fn : Func} {x : AV} {st : St} (h : resA P fn st = some x) (hc : closedIn [] x = true) : Leaves P fn (fun _ => x) (fun _ => []) st :=
  ⟨[], [], [], x, [], h, List.nodup_nil, Nat.zero_le _, hc, rfl, fun r hr => by simp at hr, fun n => ⟨ren_nil _ x hc, rfl⟩⟩

/-- One row, its elements without rows of one's own, and a slice of it. -/
theorem Leaves.row {fn : Func} {k off n : Nat} {r : Row} {st : St} (h : resA P fn st = some (.sl k off n)) (hr : st.T k = some r) (hc : ∀ e ∈ r.els, closedAll [] e = true) :
    Leaves P fn (fun m => .sl m off n) (fun _ => [r]) st := by
  have up : ∀ {e : List AV}, closedAll [] e = true → closedAll [k] e = true := by
    intro e he
    exact closed_ups e he
  refine ⟨[], [], [k], .sl k off n, [r], h, by simp, by simp, by simp [closedIn], by simp [frz, nils, hr], ?_, fun m => ⟨by simp [ren, newName], ?_⟩⟩
  · intro r' hr' e he
    simp at hr'; subst hr'
    exact up (hc e he)
  · simp only [List.map_cons, List.map_nil, List.cons.injEq, and_true]
    unfold renRow
    have : r.els.map (rens (newName [k] m)) = r.els := by
      conv => rhs; rw [← List.map_id r.els]
      exact List.map_congr_left fun e he => rens_nil _ e (hc e he)
    rw [this]
end Go.Proofs.Ytnceadbfgpiaaaa.G
/- From what a row says of its arguments to what the abstract machine is told of them, and back behind the call. Plain theorems over any program. -/
namespace Go.Proofs.Ytnceadbfgpiaaaa.G
set_option linter.unusedVariables false
set_option linter.unusedSimpArgs false
open Go Go.RowKit
variable {P : Program} {H : Type} {enc : TypeId × Value → H} {W W' : World} {base : Nat} {sp : Nat → Bool} {held : Bool}

theorem mapM_step {α β : Type} {f g : α → Option β} : ∀ {l : List α} {ys : List β}, l.mapM f = some ys → (∀ x y, x ∈ l → f x = some y → g x = some y) → l.mapM g = some ys := by
  intro l
  induction l with
  | nil => intro ys h _; simpa using h
  | cons x l ih =>
    intro ys h hg
    rw [List.mapM_cons] at h ⊢
    obtain ⟨y, hy, h⟩ := Option.bind_eq_some_iff.1 h
    obtain ⟨zs, hz, h⟩ := Option.bind_eq_some_iff.1 h
    refine Option.bind_eq_some_iff.2 ⟨y, hg x y (by simp) hy, Option.bind_eq_some_iff.2 ⟨zs, ih hz fun a b ha => hg a b (by simp [ha]), h⟩⟩

theorem cells_stand (hb : Below W.heap.size W W') {a : Addr} {n : Nat} {cs : List Value} (h : W.cells? base a n = some cs) : W'.cells? base a n = some cs := by
  unfold World.cells? at h ⊢
  split at h
  · rename_i hc
    rw [if_pos hc]
    refine mapM_step h fun i v hi hv => ?_
    unfold World.cell? at hv ⊢
    split at hv
    · rename_i c e fz hg
      have hlt := (Array.getElem?_eq_some_iff.1 hg).1
      rw [hb.block _ hlt, hg]
      exact hv
    · cases hv
  · cases h

theorem trodStep_stand (hb : Below W.heap.size W W') {r r' : TypeId → List Value → Option (DataW H × List MemPlace)} (hr : ∀ t cs x, r t cs = some x → r' t cs = some x) {t : TypeId} {cs : List Value} {x : DataW H × List MemPlace}
    (h : DataW.trodStep enc P W base sp held r t cs = some x) : DataW.trodStep enc P W' base sp held r' t cs = some x := by
  unfold DataW.trodStep at h ⊢
  have one : ∀ {a : Addr} {n : Nat} {e : TypeId} {y : DataW H × List MemPlace}, (W.cells? base a n).bind (r e) = some y → (W'.cells? base a n).bind (r' e) = some y := by
    intro a n e y hy
    obtain ⟨cs', hc, hy⟩ := Option.bind_eq_some_iff.1 hy
    exact Option.bind_eq_some_iff.2 ⟨cs', cells_stand hb hc, hr _ _ _ hy⟩
  split at h
  case h_6 e a _ =>
    obtain ⟨y, hy, rfl⟩ := Option.map_eq_some_iff.1 h
    exact Option.map_eq_some_iff.2 ⟨y, one hy, rfl⟩
  case h_8 e a len cap _ =>
    simp only at h ⊢
    split at h
    · rename_i hc
      rw [if_pos hc]
      obtain ⟨elems, he, h⟩ := Option.bind_eq_some_iff.1 h
      obtain ⟨rest, hrest, rfl⟩ := Option.map_eq_some_iff.1 h
      refine Option.bind_eq_some_iff.2 ⟨elems, mapM_step he fun i y _ hy => one hy, Option.map_eq_some_iff.2 ⟨rest, ?_, rfl⟩⟩
      split at hrest
      · rename_i hs
        rw [if_pos hs]
        exact mapM_step hrest fun i y _ hy => one hy
      · rename_i hs
        rw [if_neg hs]
        exact hrest
    · cases h
  case h_9 =>
    split at h
    · rename_i hc
      rw [if_pos hc]
      obtain ⟨xs, hx, rfl⟩ := Option.map_eq_some_iff.1 h
      exact Option.map_eq_some_iff.2 ⟨xs, mapM_step hx fun f y _ hy => hr _ _ _ hy, rfl⟩
    · cases h
  case h_10 =>
    split at h
    · rename_i hc
      rw [if_pos hc]
      obtain ⟨xs, hx, rfl⟩ := Option.map_eq_some_iff.1 h
      exact Option.map_eq_some_iff.2 ⟨xs, mapM_step hx fun f y _ hy => hr _ _ _ hy, rfl⟩
    · cases h
  case h_12 =>
    split at h
    · exact h
    · obtain ⟨y, hy, rfl⟩ := Option.map_eq_some_iff.1 h
      exact Option.map_eq_some_iff.2 ⟨y, hr _ _ _ hy, rfl⟩
    · cases h
  case h_14 k e b _ =>
    split at h
    · rename_i es clock hbk
      have hlt := (Array.getElem?_eq_some_iff.1 hbk).1
      rw [hb.block _ hlt, hbk]
      simp only
      split at h
      · rename_i hc
        rw [if_pos hc]
        obtain ⟨entries, he, hd⟩ := Option.bind_eq_some_iff.1 h
        refine Option.bind_eq_some_iff.2 ⟨entries, mapM_step he fun x y _ hy => ?_, hd⟩
        obtain ⟨key, hk, hz⟩ := Option.bind_eq_some_iff.1 hy
        refine Option.bind_eq_some_iff.2 ⟨key, hk, ?_⟩
        split at hz
        · rename_i hf
          rw [if_pos hf]
          obtain ⟨q, hq, rfl⟩ := Option.map_eq_some_iff.1 hz
          exact Option.map_eq_some_iff.2 ⟨q, hr _ _ _ hq, rfl⟩
        · cases hz
      · cases h
    · cases h
  all_goals exact h

theorem trod_stand (hb : Below W.heap.size W W') : ∀ (n : Nat) (t : TypeId) (cs : List Value) (x : DataW H × List MemPlace), DataW.trod enc P W base sp held n t cs = some x → DataW.trod enc P W' base sp held n t cs = some x := by
  intro n
  induction n with
  | zero => intro t cs x h; simp [DataW.trod] at h
  | succ n ih =>
    intro t cs x h
    rw [DataW.trod_step] at h ⊢
    exact trodStep_stand hb ih h

theorem trodAll_stand (hb : Below W.heap.size W W') : ∀ {ts : List TypeId} {vs : List Value} {ds : List (DataW H)} {ps : List MemPlace}, DataW.TrodAll enc P W base sp held ts vs ds ps → DataW.TrodAll enc P W' base sp held ts vs ds ps
  | [], [], [], ps, h => h
  | t :: ts, v :: vs, d :: ds, ps, ⟨p, q, ⟨n, h1⟩, h2, h3⟩ => ⟨p, q, ⟨n, trod_stand hb n _ _ _ h1⟩, trodAll_stand hb h2, h3⟩
  | [], _ :: _, _, _, h => by simp [DataW.TrodAll] at h
  | [], [], _ :: _, _, h => by simp [DataW.TrodAll] at h
  | _ :: _, [], _, _, h => by simp [DataW.TrodAll] at h
  | _ :: _, _ :: _, [], _, h => by simp [DataW.TrodAll] at h

/-! ### What is read, as the abstract machine has it -/
def tiles (P : Program) : Nat → List Field → Nat → Bool
  | o, [], m => o == m
  | o, f :: l, m => f.offset == o && tiles P (o + P.cellsOf f.type) l m
def plainB (P : Program) : Nat → TypeId → Bool
  | 0, _ => false
  | n + 1, t => match P.underlying t with
    | some .bool | some (.int _) | some .string => P.cellsOf t == 1
    | some (.slice e) => (P.cellsOf t == 1) && (decide (0 < P.cellsOf e) && plainB P n e)
    | some (.struct fs) => tiles P 0 fs.toList (P.cellsOf t) && fs.toList.all fun f => plainB P n f.type
    | _ => false
/-- The cells of a value of a type, as they are told. -/
def Shape (P : Program) : Nat → TypeId → List AV → Prop
  | 0, _, _ => False
  | n + 1, t, xs => match P.underlying t with
    | some .bool => ∃ b, xs = [.flat (.bool b)]
    | some (.int k) => ∃ m, xs = [.flat (.int k m)] ∧ (Lit.int k m).wf = true
    | some .string => ∃ s, xs = [.flat (.string s)] ∧ s.size ≤ maxLen
    | some (.slice e) => ∃ els, xs = [.ro els] ∧ els.length ≤ maxLen ∧ ∀ c ∈ els, Shape P n e c
    | some (.struct fs) => xs.length = P.cellsOf t ∧ ∀ f ∈ fs.toList, Shape P n f.type ((xs.drop f.offset).take (P.cellsOf f.type))
    | _ => False

def Told (W : World) (cs : List Value) (xs : List AV) : Prop :=
  cs.length = xs.length ∧ ∀ (i : Nat) (x : AV), xs[i]? = some x → ∃ u, cs[i]? = some u ∧ u.oneCell' = true ∧ VRel W (fun _ => False) Map.empty u x

theorem Told.one {v : Value} {x : AV} (h1 : v.oneCell' = true) (h : VRel W (fun _ => False) Map.empty v x) : Told W [v] [x] := ⟨rfl, fun i y hy => by
  cases i with
  | zero => simp at hy; subst hy; exact ⟨v, rfl, h1, h⟩
  | succ i => simp at hy⟩
theorem Told.append {a b : List Value} {x y : List AV} (h : Told W a x) (k : Told W b y) : Told W (a ++ b) (x ++ y) := by
  refine ⟨by simp [h.1, k.1], fun i z hz => ?_⟩
  by_cases hlt : i < x.length
  · rw [List.getElem?_append_left hlt] at hz
    obtain ⟨u, hu, r⟩ := h.2 i z hz
    exact ⟨u, by rw [List.getElem?_append_left (by rw [h.1]; exact hlt)]; exact hu, r⟩
  · rw [List.getElem?_append_right (by omega)] at hz
    obtain ⟨u, hu, r⟩ := k.2 _ z hz
    exact ⟨u, by rw [List.getElem?_append_right (by rw [h.1]; omega), h.1]; exact hu, r⟩

theorem choose_list {α : Type} {Q : Nat → α → Prop} : ∀ (n : Nat), (∀ i, i < n → ∃ x, Q i x) → ∃ l : List α, l.length = n ∧ ∀ i x, l[i]? = some x → Q i x := by
  intro n
  induction n with
  | zero => intro _; exact ⟨[], rfl, fun i x h => by simp at h⟩
  | succ n ih =>
    intro h
    obtain ⟨l, hl, hq⟩ := ih fun i hi => h i (by omega)
    obtain ⟨x, hx⟩ := h n (by omega)
    refine ⟨l ++ [x], by simp [hl], fun i y hy => ?_⟩
    by_cases hlt : i < l.length
    · rw [List.getElem?_append_left hlt] at hy; exact hq i y hy
    · have hi : i = n := by
        have := (List.getElem?_eq_some_iff.1 hy).1
        simp at this; omega
      subst hi
      rw [List.getElem?_append_right (by omega)] at hy
      simp [hl] at hy; subst hy; exact hx

theorem told_fields {Q : Field → List AV → Prop} : ∀ (fs : List Field) (o m : Nat) (cs : List Value), tiles P o fs m = true → o + cs.length = m →
    (∀ f ∈ fs, ∃ ys, Told W ((cs.drop (f.offset - o)).take (P.cellsOf f.type)) ys ∧ ys.length = P.cellsOf f.type ∧ Q f ys) →
    ∃ xs, Told W cs xs ∧ ∀ f ∈ fs, o ≤ f.offset ∧ Q f ((xs.drop (f.offset - o)).take (P.cellsOf f.type)) := by
  intro fs
  induction fs with
  | nil =>
    intro o m cs ht hm _
    simp only [tiles, beq_iff_eq] at ht
    have : cs = [] := List.eq_nil_of_length_eq_zero (by omega)
    subst this
    exact ⟨[], ⟨rfl, fun i x h => by simp at h⟩, fun f hf => by simp at hf⟩
  | cons f fs ih =>
    intro o m cs ht hm h
    simp only [tiles, Bool.and_eq_true, beq_iff_eq] at ht
    obtain ⟨ho, ht⟩ := ht
    have hge : ∀ (l : List Field) (o' : Nat), tiles P o' l m = true → o' ≤ m ∧ ∀ g ∈ l, o' ≤ g.offset := by
      intro l
      induction l with
      | nil => intro o' h; simp only [tiles, beq_iff_eq] at h; exact ⟨by omega, fun g hg => by simp at hg⟩
      | cons g l ihl =>
        intro o' h
        simp only [tiles, Bool.and_eq_true, beq_iff_eq] at h
        obtain ⟨h1, h2⟩ := ihl _ h.2
        refine ⟨by omega, fun g' hg' => ?_⟩
        rcases List.mem_cons.1 hg' with rfl | hg'
        · omega
        · have := h2 g' hg'; omega
    obtain ⟨hle, hoff⟩ := hge fs _ ht
    obtain ⟨ys, hy, hyl, hq⟩ := h f (by simp)
    have e0 : f.offset - o = 0 := by omega
    rw [e0, List.drop_zero] at hy
    obtain ⟨zs, hz, hzq⟩ := ih (o + P.cellsOf f.type) m (cs.drop (P.cellsOf f.type)) ht (by rw [List.length_drop]; omega) fun g hg => by
      obtain ⟨ws, hw, hwl, hwq⟩ := h g (by simp [hg])
      refine ⟨ws, ?_, hwl, hwq⟩
      have := hoff g hg
      rw [List.drop_drop]
      have e : P.cellsOf f.type + (g.offset - (o + P.cellsOf f.type)) = g.offset - o := by omega
      rw [e]; exact hw
    refine ⟨ys ++ zs, ?_, fun g hg => ?_⟩
    · have := hy.append hz
      rw [List.take_append_drop] at this
      exact this
    · rcases List.mem_cons.1 hg with rfl | hg
      · refine ⟨by omega, ?_⟩
        rw [e0, List.drop_zero, List.take_append_of_le_length (by omega), ← hyl, List.take_length]
        exact hq
      · obtain ⟨h1, h2⟩ := hzq g hg
        refine ⟨by omega, ?_⟩
        have e : g.offset - o = ys.length + (g.offset - (o + P.cellsOf f.type)) := by omega
        have e2 : (ys ++ zs).drop (ys.length + (g.offset - (o + P.cellsOf f.type))) = zs.drop (g.offset - (o + P.cellsOf f.type)) := by
          rw [← List.drop_drop, List.drop_left]
        rw [e, e2]
        exact h2

theorem mapM_range_get {α : Type} {f : Nat → Option α} : ∀ {n : Nat} {l : List α}, (List.range n).mapM f = some l → ∀ j, j < n → f j = l[j]? := by
  intro n l h
  have := mapM_len h
  intro j hj
  obtain ⟨b, hb, hf⟩ := this.2 j j (by rw [List.getElem?_range hj])
  rw [hf, hb]

theorem told_of_trod : ∀ (n : Nat) (t : TypeId), plainB P n t = true → ∀ (fuel : Nat) (cs : List Value) (x : DataW H × List MemPlace), DataW.trod enc P W base sp held fuel t cs = some x →
    ∃ xs, Told W cs xs ∧ cs.length = P.cellsOf t ∧ Shape P n t xs := by
  intro n
  induction n with
  | zero => intro t h; cases h
  | succ n ih =>
    intro t hp fuel cs x hx
    unfold plainB at hp
    unfold Shape
    split at hp
    · rename_i ht
      obtain ⟨b, rfl, _⟩ := DataW.trod_bool ht hx
      try simp only [ht]
      have hc1 := eq_of_beq hp
      exact ⟨[.flat (.bool b)], .one rfl (.flat _ rfl), hc1.symm, b, rfl⟩
    · rename_i k ht
      obtain ⟨m, rfl, _, hw⟩ := DataW.trod_int ht hx
      try simp only [ht]
      have hc1 := eq_of_beq hp
      exact ⟨[.flat (.int k m)], .one rfl (.flat _ rfl), hc1.symm, m, rfl, hw⟩
    · rename_i ht
      obtain ⟨s, rfl, _, hw⟩ := DataW.trod_string ht hx
      try simp only [ht]
      have hc1 := eq_of_beq hp
      exact ⟨[.flat (.string s)], .one rfl (.flat _ rfl), hc1.symm, s, rfl, hw⟩
    · rename_i e ht
      simp only [Bool.and_eq_true, decide_eq_true_eq] at hp
      try simp only [ht]
      obtain ⟨hc1, hp⟩ := hp
      have hc1 := eq_of_beq hc1
      rcases Go.Deep.open_slice ht hx with ⟨rfl, _⟩ | ⟨a, len, cap, m, k, D, Pl, rfl, hb, hlc, hcm, hm, _, hel⟩
      · exact ⟨[.ro []], .one rfl (.ro 0 (fun _ _ => undef) rfl (Nat.le_refl _) (fun e h => by simp at h) (fun h => absurd h (by omega)) (fun i j h => absurd h (by omega)) fun i e j x h => by simp at h), hc1.symm, [], rfl, by simp, fun c hc => by simp at hc⟩
      · have hlm : len ≤ m := by rw [hm]; split <;> omega
        obtain ⟨els, hl, hels⟩ := choose_list (Q := fun i (c : List AV) => ∃ cs', W.cells? base (a.add (i * P.cellsOf e)) (P.cellsOf e) = some cs' ∧ Told W cs' c ∧ cs'.length = P.cellsOf e ∧ Shape P n e c) len fun i hi => by
          obtain ⟨cs', hc, ht'⟩ := hel i (by omega)
          obtain ⟨c, h1, h2, h3⟩ := ih e hp.2 k cs' _ ht'
          exact ⟨c, cs', hc, h1, h2, h3⟩
        have cell : ∀ i j c, els[i]? = some c → j < P.cellsOf e → ∃ u x, W.cell? (a.add (i * P.cellsOf e + j)) = some u ∧ c[j]? = some x ∧ u.oneCell' = true ∧ VRel W (fun _ => False) Map.empty u x := by
          intro i j c hc hj
          obtain ⟨cs', h1, h2, h3, _⟩ := hels i c hc
          have hlt : j < c.length := by rw [← h2.1, h3]; exact hj
          obtain ⟨u, hu, h4, h5⟩ := h2.2 j c[j] (List.getElem?_eq_getElem hlt)
          refine ⟨u, c[j], ?_, List.getElem?_eq_getElem hlt, h4, h5⟩
          unfold World.cells? at h1
          split at h1
          · have := mapM_range_get h1 j hj
            rw [add_add] at this
            rw [this, hu]
          · cases h1
        have hsz : ∀ c ∈ els, c.length = P.cellsOf e := by
          intro c hc
          obtain ⟨i, hi⟩ := List.mem_iff_getElem?.1 hc
          obtain ⟨cs', _, h2, h3, _⟩ := hels i c hi
          rw [← h2.1, h3]
        refine ⟨[.ro els], .one rfl (.ro (P.cellsOf e) (fun i j => (W.cell? (a.add (i * P.cellsOf e + j))).getD undef) hl.symm hlc hsz (fun h0 => ⟨a, rfl, fun h => h, ?_, fun i j hi hj => ?_⟩) (fun i j hi hj => ?_) fun i c j x hc hx => ?_), hc1.symm, els, rfl, by omega, fun c hc => ?_⟩
        · obtain ⟨u, _, hu, _⟩ := cell 0 0 els[0] (List.getElem?_eq_getElem (by omega)) hp.1
          unfold World.cell? at hu
          split at hu
          · rename_i hg
            have := (Array.getElem?_eq_some_iff.1 hg).1
            rwa [add_block] at this
          · cases hu
        · obtain ⟨u, _, hu, _⟩ := cell i j els[i] (List.getElem?_eq_getElem (by omega)) hj
          rw [hu]; rfl
        · obtain ⟨u, _, hu, _, h1, _⟩ := cell i j els[i] (List.getElem?_eq_getElem (by omega)) hj
          rw [hu]; exact h1
        · have hj : j < P.cellsOf e := by rw [← hsz c (List.mem_of_getElem? hc)]; exact (List.getElem?_eq_some_iff.1 hx).1
          obtain ⟨u, y, hu, hy, _, hv⟩ := cell i j c hc hj
          rw [hx] at hy
          obtain rfl := Option.some.inj hy
          rw [hu]; exact hv
        · obtain ⟨i, hi⟩ := List.mem_iff_getElem?.1 hc
          obtain ⟨_, _, _, _, h4⟩ := hels i c hi
          exact h4
    · rename_i fs ht
      simp only [Bool.and_eq_true, List.all_eq_true] at hp
      try simp only [ht]
      obtain ⟨xs0, m, _, _, hlen, hxl, hfs⟩ := DataW.trod_struct ht hx
      obtain ⟨xs, h1, h2⟩ := told_fields (W := W) (Q := fun f ys => Shape P n f.type ys) fs.toList 0 (P.cellsOf t) cs hp.1 (by omega) fun f hf => by
        obtain ⟨i, hi⟩ := List.mem_iff_getElem?.1 hf
        have hi' : fs[i]? = some f := by simpa using hi
        have hlt : i < xs0.length := by rw [hxl]; exact (Array.getElem?_eq_some_iff.1 hi').1
        have := hfs i f hi'
        rw [List.getElem?_eq_getElem hlt] at this
        obtain ⟨ys, h1, h2, h3⟩ := ih f.type (hp.2 f hf) m _ _ this
        exact ⟨ys, by simpa using h1, by rw [← h1.1, h2], h3⟩
      exact ⟨xs, h1, hlen, h1.1.symm.trans hlen, fun f hf => by simpa using (h2 f hf).2⟩
    · cases hp
end Go.Proofs.Ytnceadbfgpiaaaa.G
/- A law's row from its contract: called with what the row's arguments are told as, it returns true, and all that was there stands. Plain theorems over any program. -/
namespace Go.Proofs.Ytnceadbfgpiaaaa.G
set_option linter.unusedVariables false
set_option linter.unusedSimpArgs false
open Go Go.RowKit Go.ChangeShapes Go.WideShapes
variable {P : Program} {H : Type} {enc : TypeId × Value → H} {W W' : World} {base : Nat} {sp : Nat → Bool} {held : Bool}

def slicesB (P : Program) : Bool := (List.range P.types.size).all fun t => match P.underlying t with
  | some (.slice e) => decide (0 < P.cellsOf e)
  | _ => true

/-- An argument, told: a structure by its cells, all else as its one cell. -/
def argA (P : Program) (t : TypeId) (xs : List AV) (x : AV) : Prop := match P.underlying t with
  | some (.struct _) => x = .agg xs
  | _ => xs = [x]

theorem arg_told {n : Nat} {t : TypeId} (hp : plainB P n t = true) {r : Reach} {b0 : Nat} {v : Value} {d : DataW H} {ps : List MemPlace} (hval : Value.okWide P W r b0 t v) (h : DataW.Trod enc P W base sp held t v d ps) :
    ∃ xs x, Shape P n t xs ∧ argA P t xs x ∧ VRel W (fun _ => False) Map.empty v x := by
  obtain ⟨fuel, h⟩ := h
  obtain ⟨xs, h1, h2, h3⟩ := told_of_trod n t hp fuel _ _ h
  have single : ∀ {d : TypeDesc}, P.underlying t = some d → (∀ fs, d ≠ .struct fs) → notAgg v = true → ∃ xs x, Shape P n t xs ∧ argA P t xs x ∧ VRel W (fun _ => False) Map.empty v x := by
    intro d ht hd hv
    have hc : v.cells.toList = [v] := by cases v <;> first | rfl | cases hv
    rw [hc] at h1
    have hl : xs.length = 1 := by rw [← h1.1]; rfl
    obtain ⟨x, rfl⟩ := List.length_eq_one_iff.1 hl
    obtain ⟨u, hu, _, hr⟩ := h1.2 0 x rfl
    simp at hu; subst hu
    refine ⟨[x], x, h3, ?_, hr⟩
    unfold argA
    rw [ht]
    split
    · rename_i fs he; exact absurd (Option.some.inj he) (hd fs)
    · rfl
  cases n with
  | zero => cases hp
  | succ n =>
    unfold plainB at hp
    split at hp
    · rename_i ht
      refine single ht (by simp) ?_
      simp only [Value.okWide, Cell.okWide, Cell.ok, ht] at hval
      cases v <;> first | rfl | simp at hval
    · rename_i ht
      refine single ht (by simp) ?_
      simp only [Value.okWide, Cell.okWide, Cell.ok, ht] at hval
      cases v <;> first | rfl | simp at hval
    · rename_i ht
      refine single ht (by simp) ?_
      simp only [Value.okWide, Cell.okWide, Cell.ok, ht] at hval
      cases v <;> first | rfl | simp at hval
    · rename_i ht
      refine single ht (by simp) ?_
      simp only [Value.okWide, Cell.okWide, Cell.ok, ht] at hval
      cases v <;> first | rfl | simp at hval
    · rename_i fs ht
      simp only [Value.okWide, ht] at hval
      obtain ⟨cs, rfl, hs, _⟩ := hval
      refine ⟨xs, .agg xs, h3, by unfold argA; rw [ht], .agg (by simpa [Value.cells] using h1.1) fun i y hy => ?_⟩
      obtain ⟨u, hu, _, hr⟩ := h1.2 i y hy
      have : cs[i]? = some u := by simpa [Value.cells] using hu
      have e : cs.getD i undef = u := by simp [Array.getD_eq_getD_getElem?, this]
      rw [e]; exact hr
    · cases hp

/-- The row's last step. -/
theorem law_fin {fn : Func} {s : ChangeSpec} {f : FuncId} {args : Array Value} {ds gs : List (DataW H)} {before : List MemPlace} {apart : Bool} {tb : TypeId} (hl : laidOutB P = true) (hm : mapsRowed P = true) (hz : slicesB P = true)
    (hv : s.vars = []) (hres : fn.resultTypes = #[tb]) (htb : P.underlying tb = some .bool) (hT : ∀ t ∈ fn.params.toList, t < P.types.size) (hfn : s.fn H (ds ++ gs) = { results := [.lit (.bool true)], args := ds })
    (hW : DataW.Whole enc P fn.params.toList s.vars apart W args.toList ds gs before)
    {xs : List AV} (hsz : args.size = xs.length) (hx : ∀ (i : Nat) (x : AV), xs[i]? = some x → VRel W (fun _ => False) Map.empty (args.getD i undef) x) (hA : ACalls P f xs (fun _ => .flat (.bool true)) (fun _ => [])) :
    Calls P f args W fun e W' => ∃ v, e = .returned v ∧ s.post enc P fn apart true false false W args v W' := by
  refine (hA.2 0 W (fun _ => False) args hsz hx).mono ?_
  rintro e W' ⟨v, L', μ', rfl, hvr, _, _, h1, h2, h3, h4, h5, _, _⟩
  have hb : Below W.heap.size W W' := ⟨h1, h2, h3, h4, h5⟩
  obtain rfl := flat_eq hvr
  have hW' := hW
  obtain ⟨p, q, hA0, hV, rfl, hfz, hnd⟩ := hW
  have hV' := hV
  rw [hv] at hV
  obtain ⟨hgs, hq⟩ := trodVars_none hV
  subst hq
  refine ⟨_, rfl, ds, gs, _, [], p, [], hW', ?_, ?_, ?_, hb.frame _, fun h => by cases h⟩
  · rw [hfn, hres]
    exact trodAll_mk1 (shut_bool htb _)
  · rw [hfn]
    have hk := DataW.TrodAll.respare (enc := enc) (w := W') (base := 0) (spare' := fun b => decide (b < W.heap.size)) (kids_rows hl hm) (fun t e ht hte => ?_) hT (trodAll_stand hb hA0) ?_
    · exact hk
    · simp only [slicesB, List.all_eq_true] at hz
      have := hz t (List.mem_range.2 ht)
      simpa [hte] using this
    · intro x hx
      simpa using hW'.lt x (by simp [hx])
  · rw [hfn, hv]
    rfl
end Go.Proofs.Ytnceadbfgpiaaaa.G
/- The abstract machine over a record of functions: what must stay folded while a body is evaluated is a variable there, types are tables. What it comes to is what the machine itself comes to. Plain theorems over any program. -/
namespace Go.Proofs.Ytnceadbfgpiaaaa.G
set_option linter.unusedVariables false
set_option linter.unusedSimpArgs false
open Go
variable {P : Program}

/-- How many. -/
def lenE (X : List (List AV)) : Int := X.length
/-- An element of what stays. -/
def nthE (X : List (List AV)) (n : Int) (sz : Nat) : Option AV := if 0 ≤ n then (X[n.toNat]?).bind fun c => if c.length = sz then some (.rp c) else none else none
/-- An element's place in a row of one's own. -/
def ixSl (P : Program) (r : Option Row) (id off m : Nat) (n : Int) (sz : Nat) : Option AV := r.bind fun r => if 0 ≤ n ∧ n < m ∧ P.cellsOf r.elem = sz then some (.ptr id (off + n.toNat) 0) else none
/-- The cells from a place in a row on. -/
def ptrCells (r : Option Row) (i off : Nat) : Option (List AV) := r.bind fun r => (r.els[i]?).bind fun e => if off ≤ e.length then some (e.drop off) else none
/-- A row, written. -/
def storeRow (r : Option Row) (i off sz : Nat) (y : AV) : Option Row := r.bind fun r => (r.els[i]?).bind fun e => if y.cells.length = sz ∧ off + sz ≤ e.length ∧ y.cells.all AV.one = true then some ⟨r.elem, r.els.set i (spl e off y.cells)⟩ else none

structure Env where
  ti : TypeId → Option (Option Value × Nat × Nat)
  un : TypeId → Option TypeDesc
  pl : TypeId → Option (List (Nat × Nat))
  bin : BinOp → TypeId → AV → AV → Option AV
  una : UnOp → AV → Option AV
  conv : Table → TypeId → TypeId → AV → Option AV
  len : List (List AV) → Int
  sln : ByteArray → Int
  nat : Nat → Int
  nth : List (List AV) → Int → Nat → Option AV
  ixs : Option Row → Nat → Nat → Nat → Int → Nat → Option AV
  cel : Option Row → Nat → Nat → Option (List AV)
  sto : Option Row → Nat → Nat → Nat → AV → Option Row
  app : Table → Nat → TypeId → TypeId → AV → AV → Option (AV × Table)
  cpy : Table → TypeId → AV → AV → Option (AV × Table)
  slc : Table → TypeId → AV → Option AV → Option AV → Option AV
  mak : Table → Nat → TypeId → AV → AV → Option (AV × Table)
  ixv : TypeId → AV → AV → Option AV
  oth : Table → Nat → (Operand → Option AV) → TypeId → Op → Option (AV × Table)

structure Env.Ok (P : Program) (E : Env) : Prop where
  ti : ∀ t x, E.ti t = some x → tinfo P t = some x
  un : ∀ t x, E.un t = some x → P.underlying t = some x
  pl : ∀ t l, E.pl t = some l → ∃ f, placesOf P t = some f ∧ ∀ i, f i = l[i]?
  bin : ∀ op t a b x y r, E.bin op t a b = some r → evBin P op t x y a b = some r
  una : ∀ op a r, E.una op a = some r → (a.val?.bind fun u => evP P (Op.unary op u)) = some r
  conv : ∀ T s d a r, E.conv T s d a = some r → (match a with | .flat u => evP P (convert s d u) | a => evBytes P T s d a) = some r
  len : E.len = lenE
  sln : E.sln = fun s => (s.size : Int)
  nat : E.nat = fun (n : Nat) => (n : Int)
  nth : E.nth = nthE
  ixs : E.ixs = ixSl P
  cel : E.cel = ptrCells
  sto : E.sto = storeRow
  app : ∀ T id t u s x r, E.app T id t u s x = some r → evAppend P T id t u s x = some r
  cpy : ∀ T t s x r, E.cpy T t s x = some r → evCopy P T t s x = some r
  slc : ∀ T t a l h r, E.slc T t a l h = some r → evSlice P T t a l h = some r
  mak : ∀ T id t a b r, E.mak T id t a b = some r → evMake P T id t a b = some r
  ixv : ∀ t a b r, E.ixv t a b = some r → (match a, b with | .flat u, .flat v => evP P (Instr.index t u v) | a, b => evIndexArr P t a b) = some r
  oth : ∀ T id ρ ty op r, E.oth T id ρ ty op = some r → evOp P T id ρ ty op = some r

section
variable (E : Env)
def boxE (T : Table) (id : Nat) (e : TypeId) (cs : List AV) : Option (AV × Table) :=
  match E.ti e with
  | some (_, sz, _) => if cs.length = sz ∧ cs.all AV.one = true then some (.ptr id 0 0, T.set id (some ⟨e, [cs]⟩)) else none
  | none => none
def ofE (t : TypeId) (cs : List AV) : Option AV :=
  match E.un t with
  | some (.struct _) | some (.array _ _) => (match E.ti t with
    | some (_, sz, _) => if sz ≤ cs.length then some (.agg (cs.take sz)) else none
    | none => none)
  | some _ => cs[0]?
  | none => none
def cellsE (T : Table) : AV → Option (List AV)
  | .ptr id i off => E.cel (T id) i off
  | .rp cs => some cs
  | _ => none
def storeE (T : Table) (t : TypeId) (x y : AV) : Option Table :=
  match x, E.ti t with
  | .ptr id i off, some (_, sz, _) => (E.sto (T id) i off sz y).map fun r => T.set id (some r)
  | _, _ => none
def faddrE (s : TypeId) (x : AV) (f : Nat) : Option AV :=
  match E.un s with
  | some (.struct fs) => (fs[f]?).bind fun fd =>
    match E.ti fd.type with
    | some (_, sz, _) => if sz = 0 then none else
      match x with
      | .ptr id i off => some (.ptr id i (off + fd.offset))
      | .rp cs => some (.rp (cs.drop fd.offset))
      | _ => none
    | none => none
  | _ => none
def fieldE (t : TypeId) (x : AV) (f : Nat) : Option AV :=
  match E.un t, x with
  | some (.struct fs), .agg cs => (fs[f]?).bind fun fd =>
    match E.un fd.type with
    | some (.struct _) | some (.array _ _) => (match E.ti fd.type with
      | some (_, sz, _) => if fd.offset + sz ≤ cs.length then some (.agg ((cs.drop fd.offset).take sz)) else none
      | none => none)
    | some _ => cs[fd.offset]?
    | none => none
  | _, _ => none
def iaddrE (T : Table) (t : TypeId) (x ix : AV) : Option AV :=
  match E.un t, intOf ix with
  | some (.slice e), some n =>
    match E.ti e with
    | some (_, sz, _) =>
      match x with
      | .ro els => E.nth els n sz
      | .sl id off m => E.ixs (T id) id off m n sz
      | _ => none
    | none => none
  | some (.array len e), some n =>
    match E.ti e with
    | some (_, sz, _) =>
      match x with
      | .ptr id i off => if 0 ≤ n ∧ n < len then some (.ptr id i (off + n.toNat * sz)) else none
      | _ => none
    | none => none
  | _, _ => none
def lenOfE (t : TypeId) (x : AV) : Option AV :=
  match E.un t, x with
  | some (.slice _), .ro els => some (.flat (.int .i64 (E.len els)))
  | some (.slice _), .sl _ _ n => some (.flat (.int .i64 (E.nat n)))
  | some (.slice _), .flat (.slice none 0 0) => some (.flat (.int .i64 0))
  | some .string, .flat (.string s) => some (.flat (.int .i64 (E.sln s)))
  | _, _ => none
def buildE (t : TypeId) (parts : List (Nat × AV)) : Option AV :=
  match E.ti t, E.pl t with
  | some (some z, _, _), some pl => if z.cells.toList.all notAgg = true then (fillA (fun i => pl[i]?) (zeroAV z) parts).map .agg else none
  | some (some z, _, _), none => match E.un t, parts with
    | some (.array _ e), [] => (E.ti e).bind fun _ => if z.cells.toList.all notAgg = true then some (.agg (zeroAV z)) else none
    | _, _ => none
  | _, _ => none
def buildSliceE (T : Table) (id : Nat) (t : TypeId) (len : Nat) (parts : List (Nat × AV)) : Option (AV × Table) :=
  match E.un t with
  | some (.slice e) =>
    match E.ti e with
    | some (some z, sz, _) =>
      if len * sz ≤ 16777216 ∧ 0 < sz ∧ (zeroAV z).length = sz ∧ (zeroAV z).all AV.one = true then
        (setEls (List.replicate len (zeroAV z)) parts sz).map fun els => (.sl id 0 len, T.set id (some ⟨e, els⟩))
      else none
    | _ => none
  | _ => none

/-- One operation, over the record. -/
def evE (T : Table) (id : Nat) (ρ : Operand → Option AV) (ty : TypeId) : Op → Option (AV × Table)
  | .move x | .assign x => (ρ x).map (·, T)
  | .pick c a b => (ρ c).bind fun c => match c with
    | .flat (.bool t) => (if t = true then ρ a else ρ b).map (·, T)
    | _ => none
  | .alloc e => match E.ti e with
    | some (some z, _, _) => if z.cells.toList.all notAgg = true then boxE E T id e (zeroAV z) else none
    | _ => none
  | .box e x => (ρ x).bind fun a => boxE E T id e a.cells
  | .build t parts => (evParts ρ parts.toList).bind fun ps => (buildE E t ps).map (·, T)
  | .buildSlice t len parts => (evParts ρ parts.toList).bind fun ps => buildSliceE E T id t len ps
  | .load t x => (ρ x).bind fun a => ((cellsE E T a).bind (ofE E t)).map (·, T)
  | .store t x y => (ρ x).bind fun a => (ρ y).bind fun b => (storeE E T t a b).map fun T' => (.flat undef, T')
  | .binOp op t x y _ => (ρ x).bind fun a => (ρ y).bind fun b => (E.bin op t a b).map (·, T)
  | .unOp op _ x => (ρ x).bind fun a => (E.una op a).map (·, T)
  | .convert s d x => (ρ x).bind fun a => (E.conv T s d a).map (·, T)
  | .makeSlice t l c => (ρ l).bind fun a => (ρ c).bind fun b => E.mak T id t a b
  | .slice t x lo hi none => (ρ x).bind fun a => (optA ρ lo).bind fun l => (optA ρ hi).bind fun h => (E.slc T t a l h).map (·, T)
  | .fieldAddr s x f => (ρ x).bind fun a => (faddrE E s a f).map (·, T)
  | .field t x f => (ρ x).bind fun a => (fieldE E t a f).map (·, T)
  | .indexAddr t x i => (ρ x).bind fun a => (ρ i).bind fun b => (iaddrE E T t a b).map (·, T)
  | .index t x i => (ρ x).bind fun a => (ρ i).bind fun b => (E.ixv t a b).map (·, T)
  | .extract x i => (ρ x).bind fun a => match a with
    | .tup l => (l[i]?).map (·, T)
    | _ => none
  | .call { callee := .builtin b, args, argTypes } => match b, args.toList, argTypes.toList with
    | .len, [x], [t] => (ρ x).bind fun a => (lenOfE E t a).map (·, T)
    | .append, [s, x], [t, u] => (ρ s).bind fun a => (ρ x).bind fun c => E.app T id t u a c
    | .copy, [s, x], [t, u] => (ρ s).bind fun a => (ρ x).bind fun c => E.cpy T t a c
    | _, _, _ => E.oth T id ρ ty (.call { callee := .builtin b, args, argTypes })
  | .nilCheck x => (ρ x).bind fun a => match a with
    | .ptr _ _ _ => some (a, T)
    | .rp _ => some (a, T)
    | _ => none
  | op => E.oth T id ρ ty op
end

variable {E : Env}
theorem boxE_ok (hE : E.Ok P) {T : Table} {id : Nat} {e : TypeId} {cs : List AV} {r : AV × Table} (h : boxE E T id e cs = some r) : evBox P T id e cs = some r := by
  unfold boxE at h
  unfold evBox
  split at h
  · rename_i z sz b ht
    simp only [hE.ti _ _ ht]
    exact h
  · cases h
def isAggD : TypeDesc → Bool
  | .struct _ | .array _ _ => true
  | _ => false
theorem agg_of {t : TypeId} {d : TypeDesc} (h : P.underlying t = some d) : aggT P t = some (isAggD d) := by
  unfold aggT
  rw [h, Option.map_some]
  cases d <;> rfl
theorem ofE_ok (hE : E.Ok P) {t : TypeId} {cs : List AV} {r : AV} (h : ofE E t cs = some r) : ofCells P t cs = some r := by
  unfold ofE at h
  unfold ofCells
  split at h
  · rename_i fs hu
    rw [agg_of (hE.un _ _ hu)]
    split at h
    · rename_i ht; simp only [hE.ti _ _ ht]; exact h
    · cases h
  · rename_i n e hu
    rw [agg_of (hE.un _ _ hu)]
    split at h
    · rename_i ht; simp only [hE.ti _ _ ht]; exact h
    · cases h
  · rename_i d h1 h2 hu
    rw [agg_of (hE.un _ _ hu)]
    cases d with
    | struct fs => exact absurd rfl (h1 fs)
    | array n e => exact absurd rfl (h2 n e)
    | _ => exact h
  · cases h
theorem cellsE_ok (hE : E.Ok P) {T : Table} {a : AV} {r : List AV} (h : cellsE E T a = some r) : cellsAt T a = some r := by
  cases a with
  | ptr id i off => simp only [cellsE, hE.cel] at h; exact h
  | rp cs => exact h
  | _ => cases h
theorem storeE_ok (hE : E.Ok P) {T T' : Table} {t : TypeId} {x y : AV} (h : storeE E T t x y = some T') : evStore P T t x y = some T' := by
  unfold storeE at h
  split at h
  · rename_i id i off z sz b ht
    simp only [evStore, hE.ti _ _ ht]
    rw [hE.sto] at h
    unfold storeRow at h
    obtain ⟨r, hr, rfl⟩ := Option.map_eq_some_iff.1 h
    obtain ⟨r0, hr0, hr⟩ := Option.bind_eq_some_iff.1 hr
    obtain ⟨e, he, hr⟩ := Option.bind_eq_some_iff.1 hr
    split at hr
    · rename_i hc
      obtain rfl := Option.some.inj hr
      simp only [hr0, Option.bind_some, he]
      rw [if_pos hc]
    · cases hr
  · cases h
theorem faddrE_ok (hE : E.Ok P) {s : TypeId} {x : AV} {f : Nat} {r : AV} (h : faddrE E s x f = some r) : evFieldAddr P s x f = some r := by
  unfold faddrE at h
  unfold evFieldAddr
  split at h
  · rename_i fs hu
    simp only [hE.un _ _ hu]
    obtain ⟨fd, hf, h⟩ := Option.bind_eq_some_iff.1 h
    simp only [hf, Option.bind_some]
    split at h
    · rename_i ht; simp only [hE.ti _ _ ht]; exact h
    · cases h
  · cases h
theorem iaddrE_ok (hE : E.Ok P) {T : Table} {t : TypeId} {x ix : AV} {r : AV} (h : iaddrE E T t x ix = some r) : evIndexAddr P T t x ix = some r := by
  unfold iaddrE at h
  unfold evIndexAddr
  split at h
  · rename_i e n hu hn
    simp only [hE.un _ _ hu, hn]
    split at h
    · rename_i ht
      simp only [hE.ti _ _ ht]
      split at h
      · rw [hE.nth] at h; exact h
      · rw [hE.ixs] at h; exact h
      · cases h
    · cases h
  · rename_i len e n hu hn
    simp only [hE.un _ _ hu, hn]
    split at h
    · rename_i ht
      simp only [hE.ti _ _ ht]
      split at h
      · exact h
      · cases h
    · cases h
  · cases h
theorem lenE_ok (hE : E.Ok P) {t : TypeId} {x : AV} {r : AV} (h : lenOfE E t x = some r) : evLen P t x = some r := by
  unfold lenOfE at h
  unfold evLen
  split at h
  · rename_i hu; simp only [hE.un _ _ hu]; rw [hE.len] at h; exact h
  · rename_i hu; simp only [hE.un _ _ hu]; rw [hE.nat] at h; exact h
  · rename_i hu; simp only [hE.un _ _ hu]; exact h
  · rename_i hu; simp only [hE.un _ _ hu]; rw [hE.sln] at h; exact h
  · cases h
theorem fillA_congr {f g : Nat → Option (Nat × Nat)} (h : ∀ i, f i = g i) : f = g := funext h
theorem buildE_ok (hE : E.Ok P) {t : TypeId} {ps : List (Nat × AV)} {r : AV} (h : buildE E t ps = some r) : evBuild P t ps = some r := by
  unfold buildE at h
  unfold evBuild
  split at h
  · rename_i z sz b pl ht hp
    obtain ⟨f, hf, he⟩ := hE.pl _ _ hp
    have : f = fun i => pl[i]? := funext he
    simp only [hE.ti _ _ ht, hf, this]
    exact h
  · rename_i z sz b ht hp
    split at h
    · rename_i len e hu
      obtain ⟨x, hx, h⟩ := Option.bind_eq_some_iff.1 h
      have hpl : placesOf P t = some (fun i => some (i * x.2.1, x.2.1)) := by
        unfold placesOf
        simp only [hE.un _ _ hu, hE.ti _ _ hx, Option.map_some]
      simp only [hE.ti _ _ ht, hpl, fillA, Option.map_some]
      exact h
    · cases h
  · cases h
theorem buildSliceE_ok (hE : E.Ok P) {T : Table} {id : Nat} {t : TypeId} {n : Nat} {ps : List (Nat × AV)} {r : AV × Table} (h : buildSliceE E T id t n ps = some r) : evBuildSlice P T id t n ps = some r := by
  unfold buildSliceE at h
  unfold evBuildSlice
  split at h
  · rename_i e hu
    simp only [hE.un _ _ hu]
    split at h
    · rename_i ht; simp only [hE.ti _ _ ht]; exact h
    · cases h
  · cases h
theorem fieldE_ok (hE : E.Ok P) {t : TypeId} {x : AV} {f : Nat} {r : AV} (h : fieldE E t x f = some r) : evField P t x f = some r := by
  unfold fieldE at h
  unfold evField
  split at h
  · rename_i fs cs hu
    simp only [hE.un _ _ hu]
    obtain ⟨fd, hf, h⟩ := Option.bind_eq_some_iff.1 h
    simp only [hf, Option.bind_some]
    unfold partA
    split at h
    · rename_i hu2
      rw [agg_of (hE.un _ _ hu2)]
      split at h
      · rename_i ht; simp only [hE.ti _ _ ht]; exact h
      · cases h
    · rename_i hu2
      rw [agg_of (hE.un _ _ hu2)]
      split at h
      · rename_i ht; simp only [hE.ti _ _ ht]; exact h
      · cases h
    · rename_i d h1 h2 hu2
      rw [agg_of (hE.un _ _ hu2)]
      cases d with
      | struct fs => exact absurd rfl (h1 fs)
      | array n e => exact absurd rfl (h2 n e)
      | _ => exact h
    · cases h
  · cases h

theorem evE_ok (hE : E.Ok P) {T : Table} {id : Nat} {ρ : Operand → Option AV} {ty : TypeId} {op : Op} {r : AV × Table} (h : evE E T id ρ ty op = some r) : evOp P T id ρ ty op = some r := by
  have mp : ∀ {a b : Option AV}, (∀ x, a = some x → b = some x) → a.map (·, T) = some r → b.map (·, T) = some r := by
    intro a b hab h
    obtain ⟨x, hx, rfl⟩ := Option.map_eq_some_iff.1 h
    rw [hab x hx]; rfl
  cases op with
  | alloc e =>
    simp only [evE] at h
    simp only [evOp]
    split at h
    · rename_i ht
      simp only [hE.ti _ _ ht]
      split at h
      · rename_i hc; rw [if_pos hc]; exact boxE_ok hE h
      · cases h
    · cases h
  | box e x =>
    obtain ⟨a, ha, h⟩ := Option.bind_eq_some_iff.1 h
    exact Option.bind_eq_some_iff.2 ⟨a, ha, boxE_ok hE h⟩
  | build t ps =>
    obtain ⟨a, ha, h⟩ := Option.bind_eq_some_iff.1 h
    exact Option.bind_eq_some_iff.2 ⟨a, ha, mp (fun x hx => buildE_ok hE hx) h⟩
  | buildSlice t n ps =>
    obtain ⟨a, ha, h⟩ := Option.bind_eq_some_iff.1 h
    exact Option.bind_eq_some_iff.2 ⟨a, ha, buildSliceE_ok hE h⟩
  | load t x =>
    obtain ⟨a, ha, h⟩ := Option.bind_eq_some_iff.1 h
    refine Option.bind_eq_some_iff.2 ⟨a, ha, mp (fun y hy => ?_) h⟩
    obtain ⟨cs, hc, hy⟩ := Option.bind_eq_some_iff.1 hy
    exact Option.bind_eq_some_iff.2 ⟨cs, cellsE_ok hE hc, ofE_ok hE hy⟩
  | store t x y =>
    obtain ⟨a, ha, h⟩ := Option.bind_eq_some_iff.1 h
    obtain ⟨b, hb, h⟩ := Option.bind_eq_some_iff.1 h
    obtain ⟨T', hT', rfl⟩ := Option.map_eq_some_iff.1 h
    exact Option.bind_eq_some_iff.2 ⟨a, ha, Option.bind_eq_some_iff.2 ⟨b, hb, Option.map_eq_some_iff.2 ⟨T', storeE_ok hE hT', rfl⟩⟩⟩
  | binOp o t x y yt =>
    obtain ⟨a, ha, h⟩ := Option.bind_eq_some_iff.1 h
    obtain ⟨b, hb, h⟩ := Option.bind_eq_some_iff.1 h
    exact Option.bind_eq_some_iff.2 ⟨a, ha, Option.bind_eq_some_iff.2 ⟨b, hb, mp (fun z hz => hE.bin _ _ _ _ _ _ _ hz) h⟩⟩
  | unOp o t x =>
    obtain ⟨a, ha, h⟩ := Option.bind_eq_some_iff.1 h
    refine Option.bind_eq_some_iff.2 ⟨a, ha, ?_⟩
    obtain ⟨y, hy, rfl⟩ := Option.map_eq_some_iff.1 h
    obtain ⟨u, hu, hy⟩ := Option.bind_eq_some_iff.1 (hE.una _ _ _ hy)
    exact Option.bind_eq_some_iff.2 ⟨u, hu, by rw [hy]; rfl⟩
  | convert s d x =>
    obtain ⟨a, ha, h⟩ := Option.bind_eq_some_iff.1 h
    refine Option.bind_eq_some_iff.2 ⟨a, ha, ?_⟩
    obtain ⟨y, hy, rfl⟩ := Option.map_eq_some_iff.1 h
    have := hE.conv _ _ _ _ _ hy
    cases a <;> simp only at this ⊢ <;> rw [this] <;> rfl
  | makeSlice t l c =>
    obtain ⟨a, ha, h⟩ := Option.bind_eq_some_iff.1 h
    obtain ⟨b, hb, h⟩ := Option.bind_eq_some_iff.1 h
    exact Option.bind_eq_some_iff.2 ⟨a, ha, Option.bind_eq_some_iff.2 ⟨b, hb, hE.mak _ _ _ _ _ _ h⟩⟩
  | slice t x lo hi m =>
    cases m with
    | some m => exact hE.oth _ _ _ _ _ _ h
    | none =>
      obtain ⟨a, ha, h⟩ := Option.bind_eq_some_iff.1 h
      obtain ⟨b, hb, h⟩ := Option.bind_eq_some_iff.1 h
      obtain ⟨c, hc, h⟩ := Option.bind_eq_some_iff.1 h
      exact Option.bind_eq_some_iff.2 ⟨a, ha, Option.bind_eq_some_iff.2 ⟨b, hb, Option.bind_eq_some_iff.2 ⟨c, hc, mp (fun z hz => hE.slc _ _ _ _ _ _ hz) h⟩⟩⟩
  | fieldAddr s x f =>
    obtain ⟨a, ha, h⟩ := Option.bind_eq_some_iff.1 h
    exact Option.bind_eq_some_iff.2 ⟨a, ha, mp (fun z hz => faddrE_ok hE hz) h⟩
  | field t x f =>
    obtain ⟨a, ha, h⟩ := Option.bind_eq_some_iff.1 h
    exact Option.bind_eq_some_iff.2 ⟨a, ha, mp (fun z hz => fieldE_ok hE hz) h⟩
  | indexAddr t x i =>
    obtain ⟨a, ha, h⟩ := Option.bind_eq_some_iff.1 h
    obtain ⟨b, hb, h⟩ := Option.bind_eq_some_iff.1 h
    exact Option.bind_eq_some_iff.2 ⟨a, ha, Option.bind_eq_some_iff.2 ⟨b, hb, mp (fun z hz => iaddrE_ok hE hz) h⟩⟩
  | index t x i =>
    obtain ⟨a, ha, h⟩ := Option.bind_eq_some_iff.1 h
    obtain ⟨b, hb, h⟩ := Option.bind_eq_some_iff.1 h
    refine Option.bind_eq_some_iff.2 ⟨a, ha, Option.bind_eq_some_iff.2 ⟨b, hb, ?_⟩⟩
    obtain ⟨y, hy, rfl⟩ := Option.map_eq_some_iff.1 h
    have := hE.ixv _ _ _ _ hy
    cases a <;> cases b <;> simp only at this ⊢ <;> rw [this] <;> rfl
  | call c =>
    obtain ⟨callee, args, ts⟩ := c
    cases callee with
    | value f => exact hE.oth _ _ _ _ _ _ h
    | invoke r m => exact hE.oth _ _ _ _ _ _ h
    | builtin b =>
      simp only [evE] at h
      split at h
      · rename_i x t hargs hts
        simp only [evOp, evBuiltin, hargs, hts]
        obtain ⟨a, ha, h⟩ := Option.bind_eq_some_iff.1 h
        exact Option.bind_eq_some_iff.2 ⟨a, ha, mp (fun z hz => lenE_ok hE hz) h⟩
      · rename_i s x t u hargs hts
        simp only [evOp, evBuiltin, hargs, hts]
        obtain ⟨a, ha, h⟩ := Option.bind_eq_some_iff.1 h
        obtain ⟨c, hc, h⟩ := Option.bind_eq_some_iff.1 h
        exact Option.bind_eq_some_iff.2 ⟨a, ha, Option.bind_eq_some_iff.2 ⟨c, hc, hE.app _ _ _ _ _ _ _ h⟩⟩
      · rename_i s x t u hargs hts
        simp only [evOp, evBuiltin, hargs, hts]
        obtain ⟨a, ha, h⟩ := Option.bind_eq_some_iff.1 h
        obtain ⟨c, hc, h⟩ := Option.bind_eq_some_iff.1 h
        exact Option.bind_eq_some_iff.2 ⟨a, ha, Option.bind_eq_some_iff.2 ⟨c, hc, hE.cpy _ _ _ _ _ h⟩⟩
      · exact hE.oth _ _ _ _ _ _ h
  | nilCheck x =>
    obtain ⟨a, ha, h⟩ := Option.bind_eq_some_iff.1 h
    refine Option.bind_eq_some_iff.2 ⟨a, ha, ?_⟩
    cases a with
    | ptr i j k => rw [if_pos (.inl rfl)]; exact h
    | rp cs => rw [if_pos (.inl rfl)]; exact h
    | _ => cases h
  | move x => exact h
  | assign x => exact h
  | pick c a b => exact h
  | extract x i => exact h
  | _ => exact hE.oth _ _ _ _ _ _ h
end Go.Proofs.Ytnceadbfgpiaaaa.G
/- Code over the record: the twin of 'AW', for evaluation. Plain theorems over any program. -/
namespace Go.Proofs.Ytnceadbfgpiaaaa.G
set_option linter.unusedVariables false
set_option linter.unusedSimpArgs false
open Go
variable {P : Program}

/-- A call of a function that has a contract. -/
def CallK (P : Program) (f : FuncId) (args : List AV) (T : Table) (base : Nat) (K : AV → Table → List Nat → List Nat → Prop) : Prop :=
  ∃ v T' rd wr, CallD P T base f args v T' rd wr ∧ K v T' rd wr
/-- .. that is handed what it reads alone. -/
theorem call_own {f : FuncId} {args : List AV} {T : Table} {base : Nat} {K : AV → Table → List Nat → List Nat → Prop}
    (h : ∃ args' ids val rows, Hands T ids args args' (val base) (rows base) ∧ ACalls P f args' val rows ∧ (rows base).length ≤ 8 ∧ K (val base) (adopt T base (rows base)) ids ((List.range (rows base).length).map (base + ·))) : CallK P f args T base K := by
  obtain ⟨args', ids, val, rows, h1, h2, h3, h4⟩ := h
  exact ⟨_, _, _, _, .inl ⟨args', ids, val, rows, h1, h2, h3, rfl, rfl, rfl, rfl⟩, h4⟩
theorem rows_of_cut {ks : List Nat} {T : Table} : ∀ {l : List Nat} {R0 : List Row}, cutRows ks T l = R0.map some → ∃ rs : List Row, l.map T = rs.map some ∧ (∀ r ∈ rs, closedEls ks r.els = true) ∧ rs.map (renRow (newName ks 0)) = R0
  | [], [], _ => ⟨[], rfl, fun r h => (by cases h), rfl⟩
  | [], r :: R0, h => by cases h
  | k :: l, [], h => by cases h
  | k :: l, r :: R0, h => by
    simp only [cutRows, List.map_cons, List.cons.injEq] at h
    obtain ⟨h1, h2⟩ := h
    obtain ⟨rs, q1, q2, q3⟩ := rows_of_cut h2
    split at h1
    · rename_i r0 hr0
      split at h1
      · rename_i hc
        refine ⟨r0 :: rs, by simp [hr0, q1], fun r hr => ?_, ?_⟩
        · rcases List.mem_cons.1 hr with rfl | hr
          · exact hc
          · exact q2 r hr
        · rw [List.map_cons, q3, ← Option.some.inj h1]; rfl
      · cases h1
    · cases h1
/-- .. that is handed addresses in rows of the caller's. -/
theorem call_with {f : FuncId} {args : List AV} {T : Table} {base : Nat} {K : AV → Table → List Nat → List Nat → Prop} (ms : List Nat) {m : Nat} {args0 : List AV} {R0 : List Row} {val v' : AV} {R1 R1' : List (Option Row)} (hP : PCalls P f m args0 R0 val R1)
    (hnd : ms.Nodup) (hml : m ≤ ms.length) (hR : cutRows ms T ms = R0.map some) (ha : rens (newName ms 0) args = args0) (hc : closedAll ms args = true) (hv : ren (backName ms m base) val = v') (hR1 : renRows (backName ms m base) R1 = R1')
    (hK : K v' (merge T ms m base R1') ms (ms ++ (List.range 8).map (base + ·))) : CallK P f args T base K := by
  subst ha hv hR1
  obtain ⟨rs, q1, q2, q3⟩ := rows_of_cut hR
  exact ⟨_, _, _, _, .inr ⟨m, ms, rs, R0, val, R1, hnd, hml, q1, hc, q2, q3, hP, rfl, rfl, rfl, rfl⟩, hK⟩

structure Mach where
  ev : Table → Nat → (Operand → Option AV) → TypeId → Op → Option (AV × Table)
  dk : Array Oper → Bool
  ib : Array Oper → List Foot → Bool
  call : FuncId → List AV → Table → Nat → (AV → Table → List Nat → List Nat → Prop) → Prop
  callN : FuncId → List AV → Table → Nat → (AV → Table → Prop) → Prop
  pm : Nat

structure Mach.Ok (P : Program) (M : Mach) : Prop where
  ev : ∀ T id ρ ty op r, M.ev T id ρ ty op = some r → evOp P T id ρ ty op = some r
  dk : ∀ ops, M.dk ops = true → drawOk P ops = true
  ib : ∀ ops fs, M.ib ops fs = true → indepB ops fs = true
  call : ∀ f args T base K, M.call f args T base K → CallK P f args T base K
  callN : ∀ f args T base K, M.callN f args T base K → CallK P f args T base (fun v T' _ _ => K v T') ∨ CallN P T base f args K

def MStep (M : Mach) (ops : Array Oper) (base i : Nat) (o : Oper) (st : St) (K : St → Foot → Prop) : Prop :=
  match wantedA st ops o with
  | none => False
  | some false => K (st.put o.dst (.flat undef)) ⟨i, [], []⟩
  | some true =>
    match isCall o.op with
    | true =>
      match callOf st o.op with
      | some (f, xs) =>
        match evArgs st xs with
        | some args => M.call f args st.T (base + 8 * i) fun v T' rd wr => K { st.put o.dst v with T := T' } ⟨i, rd, wr⟩
        | none => False
      | none => False
    | false => match M.ev st.T (base + 8 * i) st.op o.type o.op with
      | some (v, T') => K { st.put o.dst v with T := T' } ⟨i, readsOf st o.op, writesOf st (base + 8 * i) o.op⟩
      | none => False

def MStepN (M : Mach) (ops : Array Oper) (base i : Nat) (o : Oper) (st : St) (K : St → Prop) : Prop :=
  match wantedA st ops o with
  | none => False
  | some false => K (st.put o.dst (.flat undef))
  | some true =>
    match isCall o.op with
    | true =>
      match callOf st o.op with
      | some (f, xs) =>
        match evArgs st xs with
        | some args => M.callN f args st.T (base + 8 * i) fun v T' => K { st.put o.dst v with T := T' }
        | none => False
      | none => False
    | false => match M.ev st.T (base + 8 * i) st.op o.type o.op with
      | some (v, T') => K { st.put o.dst v with T := T' }
      | none => False

def MOps (M : Mach) (ops : Array Oper) (base : Nat) : List Oper → Nat → St → (St → Prop) → Prop
  | [], _, st, Q => Q st
  | o :: l, i, st, Q => MStepN M ops base i o st fun st' => MOps M ops base l (i + 1) st' Q
def MOpsD (M : Mach) (ops : Array Oper) (base : Nat) : List Oper → Nat → St → List Foot → (St → List Foot → Prop) → Prop
  | [], _, st, fs, Q => Q st fs
  | o :: l, i, st, fs, Q => MStep M ops base i o st fun st' f => MOpsD M ops base l (i + 1) st' (fs ++ [f]) Q

def MLoop (pm : Nat) (F : St → (Exit → St → Prop) → Prop) (Q : Exit → St → Prop) : Nat → St → Prop
  | 0, _ => False
  | n + 1, st => F st fun e st' => match e with
    | .normal => ∃ nz fz ks live k, cutOk pm fz ks ∧ MLoop pm F Q n (cut ks live k (frz fz (nils nz st')))
    | e => Q e st'

def MW (M : Mach) : Code → St → (Exit → St → Prop) → Prop
  | .skip, st, Q => Q .normal st
  | .region _ ops draw, st, Q => match draw with
    | true => M.dk ops = true ∧ MOpsD M ops st.nx ops.toList 0 st [] fun st' fs => M.ib ops fs = true ∧ Q .normal { st' with nx := st.nx + 8 * ops.size }
    | false => MOps M ops st.nx ops.toList 0 st fun st' => Q .normal { st' with nx := st.nx + 8 * ops.size }
  | .seq a b, st, Q => MW M a st fun e st' => match e with
    | .normal => MW M b st' Q
    | e => Q e st'
  | .cond c a b, st, Q => match st.op c with
    | some (.flat (.bool t)) => (match t with
      | true => MW M a st Q
      | false => MW M b st Q)
    | _ => False
  | .block id c, st, Q => MW M c st fun e st' => match e with
    | .exit i => if i = id then Q .normal st' else Q (.exit i) st'
    | e => Q e st'
  | .loop c, st, Q => ∃ nz fz ks live k n, cutOk M.pm fz ks ∧ MLoop M.pm (MW M c) Q n (cut ks live k (frz fz (nils nz st)))
  | .exit id, st, Q => Q (.exit id) st
  | .ret, st, Q => Q .ret st
  | _, _, _ => False

variable {M : Mach}
theorem call_mono {f : FuncId} {args : List AV} {T : Table} {base : Nat} {K K' : AV → Table → List Nat → List Nat → Prop} (h : CallK P f args T base K) (hk : ∀ v T' rd wr, K v T' rd wr → K' v T' rd wr) : CallK P f args T base K' := by
  obtain ⟨v, T', rd, wr, h1, h2⟩ := h
  exact ⟨v, T', rd, wr, h1, hk _ _ _ _ h2⟩

theorem MStep_ok (hM : M.Ok P) {ops : Array Oper} {base i : Nat} {o : Oper} {st : St} {K K' : St → Foot → Prop} (ho : ops[i]? = some o) (h : MStep M ops base i o st K) (hk : ∀ s f, K s f → K' s f) : AStepF P ops base i st K' := by
  unfold MStep at h
  unfold AStepF
  simp only [ho]
  split at h
  · exact h.elim
  · rename_i hw; simp only [hw]; exact hk _ _ h
  · rename_i hw
    simp only [hw]
    split at h
    · rename_i hc
      rw [if_pos hc]
      split at h
      · rename_i f xs hcf
        split at h
        · rename_i args ha
          obtain ⟨v, T', rd, wr, h1, h4⟩ := hM.call _ _ _ _ _ h
          exact ⟨f, xs, args, v, T', rd, wr, hcf, ha, h1, hk _ _ h4⟩
        · exact h.elim
      · exact h.elim
    · rename_i hc
      rw [if_neg (by simp [hc])]
      split at h
      · rename_i v T' he
        simp only [hM.ev _ _ _ _ _ _ he]
        exact hk _ _ h
      · exact h.elim

theorem MStepN_ok (hM : M.Ok P) {ops : Array Oper} {base i : Nat} {o : Oper} {st : St} {K K' : St → Prop} (ho : ops[i]? = some o) (h : MStepN M ops base i o st K) (hk : ∀ s, K s → K' s) : (AStepF P ops base i st fun s _ => K' s) ∨ AStepR P ops base i st K' := by
  unfold MStepN at h
  split at h
  · exact h.elim
  · rename_i hw; left; unfold AStepF; simp only [ho, hw]; exact hk _ h
  · rename_i hw
    split at h
    · rename_i hc
      split at h
      · rename_i f xs hcf
        split at h
        · rename_i args ha
          rcases hM.callN _ _ _ _ _ h with ⟨v, T', rd, wr, h1, h4⟩ | ⟨args', ids, R, h1, h2, h3⟩
          · left
            unfold AStepF
            simp only [ho, hw]
            rw [if_pos hc]
            exact ⟨f, xs, args, v, T', rd, wr, hcf, ha, h1, hk _ h4⟩
          · right
            unfold AStepR
            simp only [ho]
            exact ⟨hw, hc, f, xs, args, hcf, ha, args', ids, R, h1, h2, fun val rows hr => ⟨(h3 val rows hr).1, hk _ (h3 val rows hr).2⟩⟩
        · exact h.elim
      · exact h.elim
    · rename_i hc
      split at h
      · rename_i v T' he
        left
        unfold AStepF
        simp only [ho, hw]
        rw [if_neg (by simp [hc])]
        simp only [hM.ev _ _ _ _ _ _ he]
        exact hk _ h
      · exact h.elim

theorem range_drop {n i : Nat} (h : i < n) : (List.range n).drop i = i :: (List.range n).drop (i + 1) := by
  have hl : i < (List.range n).length := by simpa using h
  rw [List.drop_eq_getElem_cons hl]
  simp

theorem MOps_ok (hM : M.Ok P) {ops : Array Oper} {base : Nat} {K K' : St → Prop} (hk : ∀ s, K s → K' s) : ∀ (l : List Oper) (i : Nat) (st : St), ops.toList.drop i = l → MOps M ops base l i st K → AOps P ops base ((List.range ops.size).drop i) st K' := by
  intro l
  induction l with
  | nil =>
    intro i st hl h
    have hle : ops.size ≤ i := by
      have := congrArg List.length hl
      simp at this; omega
    rw [List.drop_eq_nil_of_le (by simpa using hle)]
    exact hk _ h
  | cons o l ih =>
    intro i st hl h
    have hlt : i < ops.size := by
      have := congrArg List.length hl
      simp at this; omega
    have ho : ops[i]? = some o := by
      have := congrArg (·[0]?) hl
      simpa using this
    rw [range_drop hlt]
    have hl' : ops.toList.drop (i + 1) = l := by
      have := congrArg List.tail hl
      simpa using this
    exact MStepN_ok hM ho h fun s hs => ih (i + 1) s hl' hs

theorem MOpsD_ok (hM : M.Ok P) {ops : Array Oper} {base : Nat} {K K' : St → List Foot → Prop} (hk : ∀ s f, K s f → K' s f) : ∀ (l : List Oper) (i : Nat) (st : St) (fs : List Foot), ops.toList.drop i = l → MOpsD M ops base l i st fs K → AOpsD P ops base ((List.range ops.size).drop i) st fs K' := by
  intro l
  induction l with
  | nil =>
    intro i st fs hl h
    have hle : ops.size ≤ i := by
      have := congrArg List.length hl
      simp at this; omega
    rw [List.drop_eq_nil_of_le (by simpa using hle)]
    exact hk _ _ h
  | cons o l ih =>
    intro i st fs hl h
    have hlt : i < ops.size := by
      have := congrArg List.length hl
      simp at this; omega
    have ho : ops[i]? = some o := by
      have := congrArg (·[0]?) hl
      simpa using this
    rw [range_drop hlt]
    refine MStep_ok hM ho h fun s f hs => ih (i + 1) s _ ?_ hs
    have := congrArg List.tail hl
    simpa using this

theorem MW_ok (hM : M.Ok P) : ∀ (c : Code) (st : St) (Q Q' : Exit → St → Prop), (∀ e s, Q e s → Q' e s) → MW M c st Q → AW P M.pm c st Q' := by
  intro c
  induction c with
  | skip => intro st Q Q' hq h; exact hq _ _ h
  | exit id => intro st Q Q' hq h; exact hq _ _ h
  | ret => intro st Q Q' hq h; exact hq _ _ h
  | region id ops draw =>
    intro st Q Q' hq h
    cases draw with
    | true =>
      obtain ⟨h1, h2⟩ := h
      refine ⟨hM.dk _ h1, ?_⟩
      have := MOpsD_ok hM (K' := fun st' fs => indepB ops fs = true ∧ Q' .normal { st' with nx := st.nx + 8 * ops.size }) (fun s f hs => ⟨hM.ib _ _ hs.1, hq _ _ hs.2⟩) _ 0 st [] rfl h2
      simpa using this
    | false =>
      have := MOps_ok hM (K' := fun st' => Q' .normal { st' with nx := st.nx + 8 * ops.size }) (fun s hs => hq _ _ hs) _ 0 st rfl h
      have e : AW P M.pm (.region id ops false) st Q' = AOps P ops st.nx (List.range ops.size) st fun st' => Q' .normal { st' with nx := st.nx + 8 * ops.size } := rfl
      rw [e]
      simpa using this
  | seq a b iha ihb =>
    intro st Q Q' hq h
    refine iha st _ _ (fun e s hs => ?_) h
    cases e with
    | normal => exact ihb s Q Q' hq hs
    | _ => exact hq _ _ hs
  | cond c a b iha ihb =>
    intro st Q Q' hq h
    simp only [MW] at h
    simp only [AW]
    split at h
    · rename_i t hc
      simp only [hc]
      cases t with
      | true => exact iha st Q Q' hq h
      | false => exact ihb st Q Q' hq h
    · exact h.elim
  | block id c ih =>
    intro st Q Q' hq h
    refine ih st _ _ (fun e s hs => ?_) h
    cases e with
    | exit i =>
      simp only at hs ⊢
      split at hs
      · rename_i hi; rw [if_pos hi]; exact hq _ _ hs
      · rename_i hi; rw [if_neg hi]; exact hq _ _ hs
    | _ => exact hq _ _ hs
  | loop c ih =>
    intro st Q Q' hq h
    obtain ⟨nz, fz, ks, live, k, n, hnd, h⟩ := h
    refine ⟨nz, fz, ks, live, k, n, hnd, ?_⟩
    revert h
    generalize cut ks live k (frz fz (nils nz st)) = s0
    induction n generalizing s0 with
    | zero => intro h; exact h.elim
    | succ n ihn =>
      intro h
      refine ih s0 _ _ (fun e s hs => ?_) h
      cases e with
      | normal =>
        obtain ⟨nz, fz, ks, live, k, hnd, hs⟩ := hs
        exact ⟨nz, fz, ks, live, k, hnd, ihn _ hs⟩
      | _ => exact hq _ _ hs
  | _ => intro st Q Q' hq h; exact h.elim

/-- The record is monotone, too. -/
def Mach.MonoP (M : Mach) : Prop := (∀ f args T base K K', (∀ v T' rd wr, K v T' rd wr → K' v T' rd wr) → M.call f args T base K → M.call f args T base K') ∧ (∀ f args T base K K', (∀ v T', K v T' → K' v T') → M.callN f args T base K → M.callN f args T base K')
/-- .. and no rows were handed in. -/
structure Mach.Mono (M : Mach) : Prop where
  mono : M.MonoP
  pm : M.pm = 0
theorem MStep_mono (hm : M.MonoP) {ops : Array Oper} {base i : Nat} {o : Oper} {st : St} {K K' : St → Foot → Prop} (h : MStep M ops base i o st K) (hk : ∀ s f, K s f → K' s f) : MStep M ops base i o st K' := by
  unfold MStep at h ⊢
  split at h
  · exact h.elim
  · exact hk _ _ h
  · split at h
    · split at h
      · split at h
        · exact hm.1 _ _ _ _ _ _ (fun v T' rd wr hv => hk _ _ hv) h
        · exact h.elim
      · exact h.elim
    · split at h
      · exact hk _ _ h
      · exact h.elim
theorem MStepN_mono (hm : M.MonoP) {ops : Array Oper} {base i : Nat} {o : Oper} {st : St} {K K' : St → Prop} (h : MStepN M ops base i o st K) (hk : ∀ s, K s → K' s) : MStepN M ops base i o st K' := by
  unfold MStepN at h ⊢
  split at h
  · exact h.elim
  · exact hk _ h
  · split at h
    · split at h
      · split at h
        · exact hm.2 _ _ _ _ _ _ (fun v T' hv => hk _ hv) h
        · exact h.elim
      · exact h.elim
    · split at h
      · exact hk _ h
      · exact h.elim
theorem MOps_mono (hm : M.MonoP) {ops : Array Oper} {base : Nat} {K K' : St → Prop} (hk : ∀ s, K s → K' s) : ∀ (l : List Oper) (i : Nat) (st : St), MOps M ops base l i st K → MOps M ops base l i st K' := by
  intro l
  induction l with
  | nil => intro i st h; exact hk _ h
  | cons o l ih => intro i st h; exact MStepN_mono hm h fun s hs => ih _ _ hs
theorem MOpsD_mono (hm : M.MonoP) {ops : Array Oper} {base : Nat} {K K' : St → List Foot → Prop} (hk : ∀ s f, K s f → K' s f) : ∀ (l : List Oper) (i : Nat) (st : St) (fs : List Foot), MOpsD M ops base l i st fs K → MOpsD M ops base l i st fs K' := by
  intro l
  induction l with
  | nil => intro i st fs h; exact hk _ _ h
  | cons o l ih => intro i st fs h; exact MStep_mono hm h fun s f hs => ih _ _ _ hs
theorem MW_mono (hm : M.MonoP) : ∀ (c : Code) (st : St) (Q Q' : Exit → St → Prop), (∀ e s, Q e s → Q' e s) → MW M c st Q → MW M c st Q' := by
  intro c
  induction c with
  | skip => intro st Q Q' hq h; exact hq _ _ h
  | exit id => intro st Q Q' hq h; exact hq _ _ h
  | ret => intro st Q Q' hq h; exact hq _ _ h
  | region id ops draw =>
    intro st Q Q' hq h
    cases draw with
    | true => exact ⟨h.1, MOpsD_mono hm (fun s f hs => ⟨hs.1, hq _ _ hs.2⟩) _ _ _ _ h.2⟩
    | false => exact MOps_mono hm (fun s hs => hq _ _ hs) _ _ _ h
  | seq a b iha ihb =>
    intro st Q Q' hq h
    refine iha st _ _ (fun e s hs => ?_) h
    cases e with
    | normal => exact ihb s Q Q' hq hs
    | _ => exact hq _ _ hs
  | cond c a b iha ihb =>
    intro st Q Q' hq h
    simp only [MW] at h ⊢
    split at h
    · rename_i t hc
      cases t with
      | true => exact iha st Q Q' hq h
      | false => exact ihb st Q Q' hq h
    · exact h.elim
  | block id c ih =>
    intro st Q Q' hq h
    refine ih st _ _ (fun e s hs => ?_) h
    cases e with
    | exit i =>
      simp only at hs ⊢
      split at hs
      · rename_i hi; rw [if_pos hi]; exact hq _ _ hs
      · rename_i hi; rw [if_neg hi]; exact hq _ _ hs
    | _ => exact hq _ _ hs
  | loop c ih =>
    intro st Q Q' hq h
    obtain ⟨nz, fz, ks, live, k, n, hnd, h⟩ := h
    refine ⟨nz, fz, ks, live, k, n, hnd, ?_⟩
    revert h
    generalize cut ks live k (frz fz (nils nz st)) = s0
    induction n generalizing s0 with
    | zero => intro h; exact h.elim
    | succ n ihn =>
      intro h
      refine ih s0 _ _ (fun e s hs => ?_) h
      cases e with
      | normal =>
        obtain ⟨nz, fz, ks, live, k, hnd, hs⟩ := hs
        exact ⟨nz, fz, ks, live, k, hnd, ihn _ hs⟩
      | _ => exact hq _ _ hs
  | _ => intro st Q Q' hq h; exact h.elim

/-- A loop with a measure: 'I k' of the states that a round begins with. -/
theorem loop_ruleN (hm : M.MonoP) {c : Code} {Q : Exit → St → Prop} (I : Nat → St → Prop)
    (h : ∀ k st, I k st → MW M c st fun e st' => match e with
      | .normal => ∃ nz fz ks live n k', k' < k ∧ cutOk M.pm fz ks ∧ I k' (cut ks live n (frz fz (nils nz st')))
      | e => Q e st') : ∀ k st, I k st → ∃ n, MLoop M.pm (MW M c) Q n st := by
  have key : ∀ n k st, k < n → I k st → MLoop M.pm (MW M c) Q n st := by
    intro n
    induction n with
    | zero => intro k st hk; omega
    | succ n ih =>
      intro k st hk hI
      refine MW_mono hm c st _ _ (fun e s hs => ?_) (h k st hI)
      cases e with
      | normal =>
        obtain ⟨nz, fz, ks, live, m, k', hlt, hnd, hI'⟩ := hs
        exact ⟨nz, fz, ks, live, m, hnd, ih k' _ (by omega) hI'⟩
      | _ => exact hs
  exact fun k st hI => ⟨k + 1, key (k + 1) k st (by omega) hI⟩

/-- The loop as it stands in code: slices that are nil become rows, rows may be frozen. -/
theorem MW_loopN (hm : M.MonoP) {c : Code} {Q : Exit → St → Prop} {st : St} (nz : List NilAt) (fz ks live : List Nat) (n : Nat) (hco : cutOk M.pm fz ks) (I : Nat → St → Prop) (k : Nat) (h0 : I k (cut ks live n (frz fz (nils nz st))))
    (h : ∀ k st, I k st → MW M c st fun e st' => match e with
      | .normal => ∃ nz fz ks live n k', k' < k ∧ cutOk M.pm fz ks ∧ I k' (cut ks live n (frz fz (nils nz st')))
      | e => Q e st') : ∃ nz fz ks live k n, cutOk M.pm fz ks ∧ MLoop M.pm (MW M c) Q n (cut ks live k (frz fz (nils nz st))) := by
  obtain ⟨m, hm⟩ := loop_ruleN hm I h k _ h0
  exact ⟨nz, fz, ks, live, n, m, hco, hm⟩

theorem cutOk_of (h : M.pm = 0) {fz ks : List Nat} (hnd : ks.Nodup) : cutOk M.pm fz ks := by
  rw [h]
  exact ⟨hnd, rfl, .inl rfl⟩

/-- .. with rows frozen. -/
theorem MW_loopF (hm : M.Mono) {c : Code} {Q : Exit → St → Prop} {st : St} (fz ks live : List Nat) (n : Nat) (hnd : ks.Nodup) (I : Nat → St → Prop) (k : Nat) (h0 : I k (cut ks live n (frz fz st)))
    (h : ∀ k st, I k st → MW M c st fun e st' => match e with
      | .normal => ∃ fz ks live n k', k' < k ∧ ks.Nodup ∧ I k' (cut ks live n (frz fz st'))
      | e => Q e st') : ∃ nz fz ks live k n, cutOk M.pm fz ks ∧ MLoop M.pm (MW M c) Q n (cut ks live k (frz fz (nils nz st))) :=
  MW_loopN hm.mono [] fz ks live n (cutOk_of hm.pm hnd) I k h0 fun k st hI => MW_mono hm.mono c st _ _ (fun e s hs => by
    cases e with
    | normal =>
      obtain ⟨fz, ks, live, m, k', hlt, hnd, hI'⟩ := hs
      exact ⟨[], fz, ks, live, m, k', hlt, cutOk_of hm.pm hnd, hI'⟩
    | _ => exact hs) (h k st hI)

/-- .. with slices that are nil ahead of it. -/
theorem MW_loopZ (hm : M.Mono) {c : Code} {Q : Exit → St → Prop} {st : St} (nz : List NilAt) (ks live : List Nat) (n : Nat) (hnd : ks.Nodup) (I : Nat → St → Prop) (k : Nat) (h0 : I k (cut ks live n (nils nz st)))
    (h : ∀ k st, I k st → MW M c st fun e st' => match e with
      | .normal => ∃ ks live n k', k' < k ∧ ks.Nodup ∧ I k' (cut ks live n st')
      | e => Q e st') : ∃ nz fz ks live k n, cutOk M.pm fz ks ∧ MLoop M.pm (MW M c) Q n (cut ks live k (frz fz (nils nz st))) :=
  MW_loopN hm.mono nz [] ks live n (cutOk_of hm.pm hnd) I k h0 fun k st hI => MW_mono hm.mono c st _ _ (fun e s hs => by
    cases e with
    | normal =>
      obtain ⟨ks, live, m, k', hlt, hnd, hI'⟩ := hs
      exact ⟨[], [], ks, live, m, k', hlt, cutOk_of hm.pm hnd, hI'⟩
    | _ => exact hs) (h k st hI)

/-- .. as it stands. -/
theorem MW_loop (hm : M.Mono) {c : Code} {Q : Exit → St → Prop} {st : St} (ks live : List Nat) (n : Nat) (hnd : ks.Nodup) (I : Nat → St → Prop) (k : Nat) (h0 : I k (cut ks live n st))
    (h : ∀ k st, I k st → MW M c st fun e st' => match e with
      | .normal => ∃ ks live n k', k' < k ∧ ks.Nodup ∧ I k' (cut ks live n st')
      | e => Q e st') : ∃ nz fz ks live k n, cutOk M.pm fz ks ∧ MLoop M.pm (MW M c) Q n (cut ks live k (frz fz (nils nz st))) :=
  MW_loopZ hm [] ks live n hnd I k h0 h

/-- .. where rows were handed in. -/
theorem MW_loopP (hm : M.MonoP) {c : Code} {Q : Exit → St → Prop} {st : St} (ks live : List Nat) (n : Nat) (hnd : ks.Nodup ∧ ks.take M.pm = List.range M.pm) (I : Nat → St → Prop) (k : Nat) (h0 : I k (cut ks live n st))
    (h : ∀ k st, I k st → MW M c st fun e st' => match e with
      | .normal => ∃ ks live n k', k' < k ∧ (ks.Nodup ∧ ks.take M.pm = List.range M.pm) ∧ I k' (cut ks live n st')
      | e => Q e st') : ∃ nz fz ks live k n, cutOk M.pm fz ks ∧ MLoop M.pm (MW M c) Q n (cut ks live k (frz fz (nils nz st))) :=
  MW_loopN hm [] [] ks live n ⟨hnd.1, hnd.2, .inr rfl⟩ I k h0 fun k st hI => MW_mono hm c st _ _ (fun e s hs => by
    cases e with
    | normal =>
      obtain ⟨ks, live, m, k', hlt, hnd, hI'⟩ := hs
      exact ⟨[], [], ks, live, m, k', hlt, ⟨hnd.1, hnd.2, .inr rfl⟩, hI'⟩
    | _ => exact hs) (h k st hI)
end Go.Proofs.Ytnceadbfgpiaaaa.G
/- The record, laid over tables of types; what stays folded is named. Plain theorems over any program. -/
namespace Go.Proofs.Ytnceadbfgpiaaaa.G
set_option linter.unusedVariables false
set_option linter.unusedSimpArgs false
open Go
variable {P : Program}

/-- What stays folded while a body is evaluated. -/
structure Sym where
  lt : Int → Int → Bool
  le : Int → Int → Bool
  eq : Int → Int → Bool
  se : ByteArray → ByteArray → Bool
  ar : BinOp → IntKind → Int → Int → Int
  dv : BinOp → TypeId → AV → AV → Option AV
  una : UnOp → AV → Option AV
  conv : Table → TypeId → TypeId → AV → Option AV
  len : List (List AV) → Int
  sln : ByteArray → Int
  nat : Nat → Int
  nth : List (List AV) → Int → Nat → Option AV
  ixs : Option Row → Nat → Nat → Nat → Int → Nat → Option AV
  cel : Option Row → Nat → Nat → Option (List AV)
  sto : Option Row → Nat → Nat → Nat → AV → Option Row
  app : Table → Nat → TypeId → TypeId → AV → AV → Option (AV × Table)
  cpy : Table → TypeId → AV → AV → Option (AV × Table)
  slc : Table → TypeId → AV → Option AV → Option AV → Option AV
  mak : Table → Nat → TypeId → AV → AV → Option (AV × Table)
  ixv : TypeId → AV → AV → Option AV
  oth : Table → Nat → (Operand → Option AV) → TypeId → Op → Option (AV × Table)
  dk : Array Oper → Bool
  ib : Array Oper → List Foot → Bool
  call : FuncId → List AV → Table → Nat → (AV → Table → List Nat → List Nat → Prop) → Prop

open Classical in
noncomputable def dvOf (P : Program) (op : BinOp) (t : TypeId) (a b : AV) : Option AV :=
  if h : ∃ r, ∀ x y, evBin P op t x y a b = some r then some (Classical.choose h) else none
theorem dvOf_eq {op : BinOp} {t : TypeId} {a b r : AV} : dvOf P op t a b = some r ↔ ∀ x y, evBin P op t x y a b = some r := by
  unfold dvOf
  constructor
  · intro h x y
    split at h
    · rename_i hh
      obtain rfl := Option.some.inj h
      exact Classical.choose_spec hh x y
    · cases h
  · intro h
    have hh : ∃ r, ∀ x y, evBin P op t x y a b = some r := ⟨r, h⟩
    rw [dif_pos hh]
    have := Classical.choose_spec hh default default
    rw [h] at this
    exact this.symm

def arI (op : BinOp) (k : IntKind) (a b : Int) : Int := match op with
  | .add => k.wrap (a + b)
  | .sub => k.wrap (a - b)
  | .mul => k.wrap (a * b)
  | .and => k.wrap ((BitVec.ofInt k.bits a &&& BitVec.ofInt k.bits b).toNat : Nat)
  | .or => k.wrap ((BitVec.ofInt k.bits a ||| BitVec.ofInt k.bits b).toNat : Nat)
  | _ => 0

noncomputable def realSym (P : Program) : Sym where
  lt a b := decide (a < b)
  le a b := decide (a ≤ b)
  eq a b := decide (a = b)
  se a b := a.toList == b.toList
  ar := arI
  dv := dvOf P
  una op a := a.val?.bind fun u => evP P (Op.unary op u)
  conv T s d a := match a with | .flat u => evP P (convert s d u) | a => evBytes P T s d a
  len := lenE
  sln s := s.size
  nat n := n
  nth := nthE
  ixs := ixSl P
  cel := ptrCells
  sto := storeRow
  app := evAppend P
  cpy := evCopy P
  slc := evSlice P
  mak := evMake P
  ixv t a b := match a, b with | .flat u, .flat v => evP P (Instr.index t u v) | a, b => evIndexArr P t a b
  oth := evOp P
  dk := drawOk P
  ib := indepB
  call := CallK P

def look {α : Type} : List (Nat × α) → Nat → Option α
  | [], _ => none
  | (k, v) :: l, t => if k = t then some v else look l t
def AllOk {α : Type} (p : Nat → α → Prop) : List (Nat × α) → Prop
  | [] => True
  | (k, v) :: l => p k v ∧ AllOk p l
theorem look_ok {α : Type} {p : Nat → α → Prop} : ∀ {l : List (Nat × α)}, AllOk p l → ∀ t x, look l t = some x → p t x
  | [], _, t, x, h => by cases h
  | (k, v) :: l, hl, t, x, h => by
    simp only [look] at h
    split at h
    · rename_i e
      obtain rfl := Option.some.inj h
      exact e ▸ hl.1
    · exact look_ok hl.2 t x h

structure Tabs where
  ti : List (Nat × (Option Value × Nat × Nat))
  un : List (Nat × TypeDesc)
  pl : List (Nat × List (Nat × Nat))
structure Tabs.Ok (P : Program) (tab : Tabs) : Prop where
  ti : AllOk (fun t x => tinfo P t = some x) tab.ti
  un : AllOk (fun t x => P.underlying t = some x) tab.un
  pl : AllOk (fun t l => ∃ f, placesOf P t = some f ∧ ∀ i, f i = l[i]?) tab.pl

def binF (S : Sym) (op : BinOp) (t : TypeId) (a b : AV) : Option AV :=
  match a, b with
  | .flat (.int k m), .flat (.int k' n) => (match op with
    | .lss => if k = k' then some (.flat (.bool (S.lt m n))) else none
    | .leq => if k = k' then some (.flat (.bool (S.le m n))) else none
    | .gtr => if k = k' then some (.flat (.bool (S.lt n m))) else none
    | .geq => if k = k' then some (.flat (.bool (S.le n m))) else none
    | .eql => if k = k' then some (.flat (.bool (S.eq m n))) else none
    | .neq => if k = k' then some (.flat (.bool (!S.eq m n))) else none
    | .add => if k = k' then some (.flat (.int k (S.ar .add k m n))) else none
    | .sub => if k = k' then some (.flat (.int k (S.ar .sub k m n))) else none
    | .mul => if k = k' then some (.flat (.int k (S.ar .mul k m n))) else none
    | .and => if k = k' then some (.flat (.int k (S.ar .and k m n))) else none
    | .or => if k = k' then some (.flat (.int k (S.ar .or k m n))) else none
    | op => S.dv op t a b)
  | .flat (.string p), .flat (.string q) => (match op with
    | .eql => some (.flat (.bool (S.se p q)))
    | .neq => some (.flat (.bool (!S.se p q)))
    | op => S.dv op t a b)
  | a, b => S.dv op t a b

def unF (S : Sym) (op : UnOp) (a : AV) : Option AV :=
  match op, a with
  | .not, .flat (.bool b) => some (.flat (.bool (!b)))
  | op, a => S.una op a

def machOf (tab : Tabs) (S : Sym) : Mach where
  ev := evE { ti := look tab.ti, un := look tab.un, pl := look tab.pl, bin := binF S, una := unF S, conv := S.conv, len := S.len, sln := S.sln, nat := S.nat, nth := S.nth, ixs := S.ixs, cel := S.cel, sto := S.sto, app := S.app, cpy := S.cpy, slc := S.slc, mak := S.mak, ixv := S.ixv, oth := S.oth }
  dk := S.dk
  ib := S.ib
  call := S.call
  callN := fun f args T base K => S.call f args T base fun v T' _ _ => K v T'
  pm := 0

theorem binF_ok {op : BinOp} {t : TypeId} {a b : AV} {x y : Operand} {r : AV} (h : binF (realSym P) op t a b = some r) : evBin P op t x y a b = some r := by
  unfold binF at h
  split at h
  · rename_i k m k' n
    split at h
    all_goals first
      | exact dvOf_eq.1 h x y
      | (split at h
         · rename_i e
           subst e
           obtain rfl := Option.some.inj h
           cases k <;> rfl
         · cases h)
  · rename_i p q
    split at h
    · obtain rfl := Option.some.inj h; rfl
    · obtain rfl := Option.some.inj h; rfl
    · exact dvOf_eq.1 h x y
  · exact dvOf_eq.1 h x y

theorem unF_ok {op : UnOp} {a : AV} {r : AV} (h : unF (realSym P) op a = some r) : (a.val?.bind fun u => evP P (Op.unary op u)) = some r := by
  unfold unF at h
  split at h
  · obtain rfl := Option.some.inj h; rfl
  · exact h

theorem machOf_ok {tab : Tabs} (ht : tab.Ok P) : (machOf tab (realSym P)).Ok P where
  ev T id ρ ty op r h := evE_ok (P := P) {
    ti := look_ok ht.ti
    un := look_ok ht.un
    pl := look_ok ht.pl
    bin := fun op t a b x y r h => binF_ok h
    una := fun op a r h => unF_ok h
    conv := fun T s d a r h => h
    len := rfl
    sln := rfl
    nat := rfl
    nth := rfl
    ixs := rfl
    cel := rfl
    sto := rfl
    app := fun T id t u s x r h => h
    cpy := fun T t s x r h => h
    slc := fun T t a l h r hh => hh
    mak := fun T id t a b r h => h
    ixv := fun t a b r h => h
    oth := fun T id ρ ty op r h => h } h
  dk ops h := h
  ib ops fs h := h
  call f args T base K h := h
  callN f args T base K h := .inl h
theorem machOf_mono {tab : Tabs} : (machOf tab (realSym P)).Mono := ⟨⟨fun f args T base K K' hk h => call_mono h hk, fun f args T base K K' hk h => call_mono h fun v T' _ _ hv => hk v T' hv⟩, rfl⟩

/-- A function's contract, from its body, by evaluation. -/
theorem acalls_sym {tab : Tabs} (ht : tab.Ok P) {f : FuncId} {fn : Func} {c : Code} {args : List AV} {val : Nat → AV} {rows : Nat → List Row} (hf : P.funcs[f]? = some fn) (hb : fn.body = some c) (hname : (fn.name == "runtime.NumGoroutine") = false)
    (hn : Nat.ble args.length fn.ntmps = true) (hd : dstsOk fn.ntmps c = true)
    (h : ∀ S : Sym, S = realSym P → (machOf tab S).Mono → ∀ Q : Exit → St → Prop, (∀ e st, endOk e → Leaves P fn val rows st → Q e st) → MW (machOf tab S) c (st0 args) Q) : ACalls P f args val rows :=
  acalls_of hf hb hname hn hd fun Q hQ => MW_ok (machOf_ok ht) c _ _ _ (fun _ _ h => h) (h _ rfl machOf_mono Q hQ)
end Go.Proofs.Ytnceadbfgpiaaaa.G
/- By hand, where evaluation stands still: states that are cut, sums in range, bytes of a string, appending. Plain theorems over any program. -/
namespace Go.Proofs.Ytnceadbfgpiaaaa.G
set_option linter.unusedVariables false
set_option linter.unusedSimpArgs false
open Go
variable {P : Program}

theorem cut_eq {ks live : List Nat} {n : Nat} {st : St} {vals : List AV} {rows : List (Option Row)} (h1 : cutVals ks live st.s (List.range n) = vals) (h2 : cutRows ks st.T ks = rows) : cut ks live n st = stOf vals rows ks.length := by
  unfold cut
  rw [h1, h2]

theorem ar_add64 {a b : Int} (h0 : -9223372036854775808 ≤ a + b) (h1 : a + b ≤ 9223372036854775807) : arI .add .i64 a b = a + b := by
  show IntKind.i64.wrap (a + b) = a + b
  rw [IntKind.wrap_i64]
  omega
theorem ar_sub64 {a b : Int} (h0 : -9223372036854775808 ≤ a - b) (h1 : a - b ≤ 9223372036854775807) : arI .sub .i64 a b = a - b := by
  show IntKind.i64.wrap (a - b) = a - b
  rw [IntKind.wrap_i64]
  omega

theorem ix_str {t : TypeId} (ht : P.underlying t = some .string) {s : ByteArray} {k : IntKind} {i : Int} (h0 : 0 ≤ i) (h1 : i < s.size) : evP P (Instr.index t (.string s) (.int k i)) = some (.flat (.int .u8 (s.data.toList.getD i.toNat 0).toNat)) := by
  have hlt : i.toNat < s.size := by omega
  have hg : s[i.toNat]? = some s[i.toNat] := getElem?_pos s i.toNat hlt
  have hp : evPure P (Instr.index t (.string s) (.int k i)) = some (.int .u8 (s.data.toList.getD i.toNat 0).toNat) := by
    have hu : evPure P (underlying t : Sem TypeDesc) = some .string := by
      unfold underlying
      rw [evPure_bind]
      show evPure P (match P.underlying t with | some d => pure d | none => stuck _) = _
      rw [ht]
      rfl
    unfold Instr.index
    rw [evPure_bind]
    show (evPure P _ : Option Value) = _
    rw [evPure_bind, hu]
    simp only [Option.bind_some, if_pos h0, hg]
    rw [evPure_pure]
    have : s.data.toList.getD i.toNat 0 = s[i.toNat] := by
      have hl : i.toNat < s.data.toList.length := by simpa using hlt
      simp [List.getD, List.getElem?_eq_getElem hl]
      rfl
    rw [this]
  unfold evP
  rw [hp]
  rfl
end Go.Proofs.Ytnceadbfgpiaaaa.G
/- Small goals: types are told by functions, and operations without their places and edges. Plain theorems over any program. -/
namespace Go.Proofs.Ytnceadbfgpiaaaa.G
set_option linter.unusedVariables false
set_option linter.unusedSimpArgs false
open Go
variable {P : Program}

structure TabF where
  ti : TypeId → Option (Option Value × Nat × Nat)
  un : TypeId → Option TypeDesc
  pl : TypeId → Option (List (Nat × Nat))
structure TabF.Ok (P : Program) (tf : TabF) : Prop where
  ti : ∀ t x, tf.ti t = some x → tinfo P t = some x
  un : ∀ t x, tf.un t = some x → P.underlying t = some x
  pl : ∀ t l, tf.pl t = some l → ∃ f, placesOf P t = some f ∧ ∀ i, f i = l[i]?

def envF (tf : TabF) (S : Sym) : Env := { ti := tf.ti, un := tf.un, pl := tf.pl, bin := binF S, una := unF S, conv := S.conv, len := S.len, sln := S.sln, nat := S.nat, nth := S.nth, ixs := S.ixs, cel := S.cel, sto := S.sto, app := S.app, cpy := S.cpy, slc := S.slc, mak := S.mak, ixv := S.ixv, oth := S.oth }
def machP (pm : Nat) (tf : TabF) (S : Sym) : Mach where
  ev := evE (envF tf S)
  dk := S.dk
  ib := S.ib
  call := S.call
  callN := fun f args T base K => S.call f args T base fun v T' _ _ => K v T'
  pm := pm
def machF (tf : TabF) (S : Sym) : Mach where
  ev := evE (envF tf S)
  dk := S.dk
  ib := S.ib
  call := S.call
  callN := fun f args T base K => S.call f args T base fun v T' _ _ => K v T'
  pm := 0
/-- .. that calls functions whose results are told by a property. -/
def machN (tf : TabF) (S : Sym) (NC : FuncId → List AV → Table → Nat → (AV → Table → Prop) → Prop) : Mach where
  ev := evE (envF tf S)
  dk := S.dk
  ib := S.ib
  call := S.call
  callN := fun f args T base K => (S.call f args T base fun v T' _ _ => K v T') ∨ NC f args T base K
  pm := 0
theorem machP_ok {tf : TabF} (pm : Nat) (ht : tf.Ok P) : (machP pm tf (realSym P)).Ok P where
  ev T id ρ ty op r h := evE_ok (P := P) {
    ti := ht.ti
    un := ht.un
    pl := ht.pl
    bin := fun op t a b x y r h => binF_ok h
    una := fun op a r h => unF_ok h
    conv := fun T s d a r h => h
    len := rfl
    sln := rfl
    nat := rfl
    nth := rfl
    ixs := rfl
    cel := rfl
    sto := rfl
    app := fun T id t u s x r h => h
    cpy := fun T t s x r h => h
    slc := fun T t a l h r hh => hh
    mak := fun T id t a b r h => h
    ixv := fun t a b r h => h
    oth := fun T id ρ ty op r h => h } h
  dk ops h := h
  ib ops fs h := h
  call f args T base K h := h
  callN f args T base K h := .inl h
theorem machF_ok {tf : TabF} (ht : tf.Ok P) : (machF tf (realSym P)).Ok P := machP_ok 0 ht
theorem machF_mono {tf : TabF} : (machF tf (realSym P)).Mono := ⟨⟨fun f args T base K K' hk h => call_mono h hk, fun f args T base K K' hk h => call_mono h fun v T' _ _ hv => hk v T' hv⟩, rfl⟩
theorem machP_mono {pm : Nat} {tf : TabF} : (machP pm tf (realSym P)).MonoP := ⟨fun f args T base K K' hk h => call_mono h hk, fun f args T base K K' hk h => call_mono h fun v T' _ _ hv => hk v T' hv⟩

def NC (P : Program) (f : FuncId) (args : List AV) (T : Table) (base : Nat) (K : AV → Table → Prop) : Prop := CallN P T base f args K
theorem machN_ok {tf : TabF} (ht : tf.Ok P) : (machN tf (realSym P) (NC P)).Ok P where
  ev := (machF_ok ht).ev
  dk := (machF_ok ht).dk
  ib := (machF_ok ht).ib
  call := (machF_ok ht).call
  callN f args T base K h := h
theorem nc_mono {f : FuncId} {args : List AV} {T : Table} {base : Nat} {K K' : AV → Table → Prop} (h : NC P f args T base K) (hk : ∀ v T', K v T' → K' v T') : NC P f args T base K' := by
  obtain ⟨args', ids, R, h1, h2, h3⟩ := h
  exact ⟨args', ids, R, h1, h2, fun val rows hr => ⟨(h3 val rows hr).1, hk _ _ (h3 val rows hr).2⟩⟩
theorem machN_mono {tf : TabF} : (machN tf (realSym P) (NC P)).Mono := ⟨⟨fun f args T base K K' hk h => call_mono h hk, fun f args T base K K' hk h => h.elim (fun h => .inl (call_mono h fun v T' _ _ hv => hk v T' hv)) (fun h => .inr (nc_mono h hk))⟩, rfl⟩

/-- An operation without its place and its edges. -/
def sop (o : Oper) : Oper := { o with pos := "", after := #[] }
def stripC : Code → Code
  | .region id ops false => .region id ⟨ops.toList.map sop⟩ false
  | .seq a b => .seq (stripC a) (stripC b)
  | .cond c a b => .cond c (stripC a) (stripC b)
  | .block id c => .block id (stripC c)
  | .loop c => .loop (stripC c)
  | c => c
theorem get_sop (ops : Array Oper) (j : Nat) : ((⟨ops.toList.map sop⟩ : Array Oper)[j]?).bind (·.dst) = (ops[j]?).bind (·.dst) := by
  rw [← Array.getElem?_toList]
  show ((ops.toList.map sop)[j]?).bind (·.dst) = _
  rw [List.getElem?_map, ← Array.getElem?_toList]
  cases ops.toList[j]? <;> rfl
theorem step_sop {M : Mach} {ops : Array Oper} {base i : Nat} {o : Oper} {st : St} {K : St → Foot → Prop} : MStep M ⟨ops.toList.map sop⟩ base i (sop o) st K = MStep M ops base i o st K := by
  have hw : wantedA st ⟨ops.toList.map sop⟩ (sop o) = wantedA st ops o := by
    unfold wantedA
    simp only [get_sop]
    rfl
  unfold MStep
  rw [hw]
  rfl
theorem stepN_sop {M : Mach} {ops : Array Oper} {base i : Nat} {o : Oper} {st : St} {K : St → Prop} : MStepN M ⟨ops.toList.map sop⟩ base i (sop o) st K = MStepN M ops base i o st K := by
  have hw : wantedA st ⟨ops.toList.map sop⟩ (sop o) = wantedA st ops o := by
    unfold wantedA
    simp only [get_sop]
    rfl
  unfold MStepN
  rw [hw]
  rfl
theorem ops_sop {M : Mach} {ops : Array Oper} {base : Nat} : ∀ (l : List Oper) (i : Nat) (st : St) (K : St → Prop), MOps M ⟨ops.toList.map sop⟩ base (l.map sop) i st K = MOps M ops base l i st K
  | [], i, st, K => rfl
  | o :: l, i, st, K => by
    show MStepN M _ base i (sop o) st _ = MStepN M ops base i o st _
    rw [stepN_sop]
    simp only [ops_sop l]
theorem MW_strip {M : Mach} : ∀ (c : Code), MW M (stripC c) = MW M c := by
  intro c
  induction c with
  | region id ops draw =>
    cases draw with
    | true => rfl
    | false =>
      funext st Q
      show MOps M _ st.nx (ops.toList.map sop) 0 st _ = MOps M ops st.nx ops.toList 0 st _
      rw [ops_sop]
      have e : (⟨ops.toList.map sop⟩ : Array Oper).size = ops.size := by simp
      rw [e]
  | seq a b iha ihb =>
    funext st Q
    show MW M (stripC a) st _ = MW M a st _
    rw [iha, ihb]
  | cond c a b iha ihb =>
    funext st Q
    simp only [stripC, MW, iha, ihb]
  | block id c ih =>
    funext st Q
    show MW M (stripC c) st _ = MW M c st _
    rw [ih]
  | loop c ih =>
    funext st Q
    simp only [stripC, MW, ih]
  | _ => rfl

/-- A function's contract, from its body, by evaluation. -/
theorem acalls_symF {tf : TabF} (ht : tf.Ok P) {f : FuncId} {fn : Func} {c : Code} {args : List AV} {val : Nat → AV} {rows : Nat → List Row} (hf : P.funcs[f]? = some fn) (hb : fn.body = some c) (hname : (fn.name == "runtime.NumGoroutine") = false)
    (hn : Nat.ble args.length fn.ntmps = true) (hd : dstsOk fn.ntmps c = true)
    (h : ∀ S : Sym, S = realSym P → (machF tf S).Mono → ∀ Q : Exit → St → Prop, (∀ e st, endOk e → Leaves P fn val rows st → Q e st) → MW (machF tf S) (stripC c) (st0 args) Q) : ACalls P f args val rows :=
  acalls_of hf hb hname hn hd fun Q hQ => MW_ok (machF_ok ht) c _ _ _ (fun _ _ h => h) (by
    have := h _ rfl machF_mono Q hQ
    rw [MW_strip] at this
    exact this)
/-- .. of a function that is handed rows of the caller's. -/
theorem pcalls_symF {tf : TabF} (ht : tf.Ok P) {f : FuncId} {fn : Func} {c : Code} {args : List AV} {R0 : List Row} {val : AV} {R1 : List (Option Row)} (pm : Nat) (hm0 : 0 < pm) (hml : pm ≤ R0.length) (hf : P.funcs[f]? = some fn) (hb : fn.body = some c) (hname : (fn.name == "runtime.NumGoroutine") = false)
    (hn : Nat.ble args.length fn.ntmps = true) (hd : dstsOk fn.ntmps c = true)
    (h : ∀ S : Sym, S = realSym P → (machP pm tf S).MonoP → ∀ Q : Exit → St → Prop, (∀ e st, endOk e → PLeaves P fn pm val R1 st → Q e st) → MW (machP pm tf S) (stripC c) (stP args R0) Q) : PCalls P f pm args R0 val R1 := by
  refine pcalls_of hm0 hml hf hb hname hn hd fun Q hQ => MW_ok (machP_ok pm ht) c _ _ _ (fun _ _ h => h) ?_
  have := h _ rfl machP_mono Q hQ
  rw [MW_strip] at this
  exact this
/-- .. that calls functions whose results are told by a property. -/
theorem acalls_symN {tf : TabF} (ht : tf.Ok P) {f : FuncId} {fn : Func} {c : Code} {args : List AV} {val : Nat → AV} {rows : Nat → List Row} (hf : P.funcs[f]? = some fn) (hb : fn.body = some c) (hname : (fn.name == "runtime.NumGoroutine") = false)
    (hn : Nat.ble args.length fn.ntmps = true) (hd : dstsOk fn.ntmps c = true)
    (h : ∀ (N : FuncId → List AV → Table → Nat → (AV → Table → Prop) → Prop), N = NC P → ∀ S : Sym, S = realSym P → (machN tf S N).Mono → ∀ Q : Exit → St → Prop, (∀ e st, endOk e → Leaves P fn val rows st → Q e st) → MW (machN tf S N) (stripC c) (st0 args) Q) : ACalls P f args val rows :=
  acalls_of hf hb hname hn hd fun Q hQ => MW_ok (machN_ok ht) c _ _ _ (fun _ _ h => h) (by
    have := h _ rfl _ rfl machN_mono Q hQ
    rw [MW_strip] at this
    exact this)
/-- .. whose own result is told so. -/
theorem ncalls_symN {tf : TabF} (ht : tf.Ok P) {f : FuncId} {fn : Func} {c : Code} {args : List AV} {R : (Nat → AV) → (Nat → List Row) → Prop} (hf : P.funcs[f]? = some fn) (hb : fn.body = some c) (hname : (fn.name == "runtime.NumGoroutine") = false)
    (hn : Nat.ble args.length fn.ntmps = true) (hd : dstsOk fn.ntmps c = true)
    (h : ∀ (N : FuncId → List AV → Table → Nat → (AV → Table → Prop) → Prop), N = NC P → ∀ S : Sym, S = realSym P → (machN tf S N).Mono → ∀ Q : Exit → St → Prop, (∀ e st, endOk e → (∃ val rows, R val rows ∧ Leaves P fn val rows st) → Q e st) → MW (machN tf S N) (stripC c) (st0 args) Q) : NCalls P f args R :=
  ncalls_of hf hb hname hn hd fun Q hQ => MW_ok (machN_ok ht) c _ _ _ (fun _ _ h => h) (by
    have := h _ rfl _ rfl machN_mono Q hQ
    rw [MW_strip] at this
    exact this)
/-- A slice that is nil, handed back: an empty row. -/
theorem Leaves.nil {fn : Func} {st : St} (t : Nat) (e : TypeId) (hr : fn.results.toList = [.tmp t]) (h : st.s t = .flat (.slice none 0 0)) : Leaves P fn (fun m => .sl m 0 0) (fun _ => [⟨e, []⟩]) st := by
  refine ⟨[.slot t e], [], [st.nx], .sl st.nx 0 0, [⟨e, []⟩], ?_, by simp, by simp, by simp [closedIn], ?_, ?_, fun m => ⟨by simp [ren, newName], by simp [renRow]⟩⟩
  · show resA P fn (nilSlot t e st) = _
    unfold nilSlot
    rw [h]
    simp [resA, hr, resV, St.op, upd, AV.isDead, oneOf]
  · show [st.nx].map (nilSlot t e st).T = _
    unfold nilSlot
    rw [h]
    simp [Table.set]
  · intro r hr' e' he'
    simp at hr'
    subst hr'
    cases he'
end Go.Proofs.Ytnceadbfgpiaaaa.G
