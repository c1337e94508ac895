/- Words of the walks, of any program: the greater and the lesser of two numbers. Plain theorems. -/
import Derived.Test.YtagflbmonlaioaaU1
namespace Go.Proofs.Ytagflbmonlaioaa.U
open Go G
set_option linter.unusedVariables false
set_option linter.unusedSimpArgs false
variable {P : Program} {T : Table} {id : Nat} {ρ : Operand → Option AV} {x y : Operand} {ts : Array TypeId} {a b : Int}
theorem oth_max {ty : TypeId} (hx : ρ x = some (.flat (.int .i64 a))) (hy : ρ y = some (.flat (.int .i64 b))) : evOp P T id ρ ty (.call { callee := .builtin .max, args := #[x, y], argTypes := ts }) = some (.flat (.int .i64 (max a b)), T) := by
  have h : evP P (Builtin.max_ #[] ty #[.int .i64 a, .int .i64 b]) = some (.flat (.int .i64 (max a b))) := by
    show evP P (pure (.int .i64 (if b > a then b else a)) : Sem Value) = _
    have : (if b > a then b else a) = max a b := by rw [Int.max_def]; split <;> split <;> omega
    rw [this]; rfl
  show (match (ρ x).bind AV.val?, (match (ρ y).bind AV.val?, some [] with | some a, some r => some (a :: r) | _, _ => none) with | some a, some r => some (a :: r) | _, _ => none).bind (fun us => (evP P (Builtin.max_ #[] ty us.toArray)).map (·, T)) = _
  rw [hx, hy]
  show (evP P (Builtin.max_ #[] ty #[.int .i64 a, .int .i64 b])).map (·, T) = _
  rw [h]; rfl
theorem oth_min {ty : TypeId} (hx : ρ x = some (.flat (.int .i64 a))) (hy : ρ y = some (.flat (.int .i64 b))) : evOp P T id ρ ty (.call { callee := .builtin .min, args := #[x, y], argTypes := ts }) = some (.flat (.int .i64 (min a b)), T) := by
  have h : evP P (Builtin.min_ #[] ty #[.int .i64 a, .int .i64 b]) = some (.flat (.int .i64 (min a b))) := by
    show evP P (pure (.int .i64 (if b < a then b else a)) : Sem Value) = _
    have : (if b < a then b else a) = min a b := by rw [Int.min_def]; split <;> split <;> omega
    rw [this]; rfl
  show (match (ρ x).bind AV.val?, (match (ρ y).bind AV.val?, some [] with | some a, some r => some (a :: r) | _, _ => none) with | some a, some r => some (a :: r) | _, _ => none).bind (fun us => (evP P (Builtin.min_ #[] ty us.toArray)).map (·, T)) = _
  rw [hx, hy]
  show (evP P (Builtin.min_ #[] ty #[.int .i64 a, .int .i64 b])).map (·, T) = _
  rw [h]; rfl
end Go.Proofs.Ytagflbmonlaioaa.U
