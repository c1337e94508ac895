/-
  No cell of these rows narrows 'for every input' (looked for: loops, veiled, ifaces, maps, wideKeys, modest, calm, conditions, laid).
  DERIVED. THE GIVEN ROWS OF THIS SEAT. 4 by the template 'for every input the law returns true; each argument reads behind the call as it read before'; 0 by the template 'total and deterministic' (their statements: YtnceadbfgpiaaaaTotals.lean).
  GIVEN WITH THE SEED: the statements are not yours to turn. If you find one false, say at which input.
  Laid BY PROGRAM, IN A SANDBOX (cutbox-rows.mjs): the forced cells as the released guide's own fill.sh prints them over the translation 5e1952e5ffc4e5d7… (all of the seat's roots in one cut). By AI agents, Wed Nov 11 2026. No macro, syntax, notation, axiom, sorry.
-/
import Derived.Test.YtnceadbfgpiaaaaChecked
import GoSem.Claim
import GoSem.ClaimJoined
import GoSem.ClaimMapViews
import Derived.JoinedTies
import Derived.KernelRfl
namespace Go.Proofs.Ytnceadbfgpiaaaa
/- THE CELL 'sum', in the pinned program and in every row, IS THE sha256 OF THE DUMP (.gsa) THAT YtnceadbfgpiaaaaProg.lean LOADS. Nothing in Lean hashes anything: it is a label: what it is worth is what the hold of that sum in a sandbox is worth. -/
noncomputable def Try.pinned : Pinned := { name := "ytnceadbfgpiaaaa", sum := "5e1952e5ffc4e5d758ac69875b7d3959203a60b00b5a53b1bdea5de42080a182", checked := Try.checked }
namespace Rows
def none {H : Type} : Left H := { results := [], args := [] }

/-- 'bosketlaw24.ItemKeys': WHATEVER THE INPUT: true; the input reads as it did. -/
def itemKeysSpec : ChangeSpec := { name := "itemKeys", fn := fun _ => fun
  | [d1, d2] => { results := [.lit (.bool true)], args := [d1, d2] }
  | _ => none }
def itemKeysRow : OpenClaim := { program := "ytnceadbfgpiaaaa", sum := "5e1952e5ffc4e5d758ac69875b7d3959203a60b00b5a53b1bdea5de42080a182", func := "bosket/bosketlaw24.ItemKeys", spec := "itemKeys", inPlace := ["slices.overlaps[bosket/item.Item]"], unfollowed := true, recurses := true, apart := false }
def ItemKeysSaid : Prop := itemKeysRow.holds Try.pinned (OpenSpec.ofChange itemKeysSpec)

/-- ITS FALSE NEIGHBOUR: 'it returns false'. Refute it at one input. -/
def itemKeysWrong : ChangeSpec := { name := "itemKeys", fn := fun _ => fun
  | [d1, d2] => { results := [.lit (.bool false)], args := [d1, d2] }
  | _ => none }
def ItemKeysWrongFalsely : Prop := itemKeysRow.holds Try.pinned (OpenSpec.ofChange itemKeysWrong)

/-- 'bosketlaw24.ItemNext': WHATEVER THE INPUT: true; the input reads as it did. -/
def itemNextSpec : ChangeSpec := { name := "itemNext", fn := fun _ => fun
  | [d1, d2] => { results := [.lit (.bool true)], args := [d1, d2] }
  | _ => none }
def itemNextRow : OpenClaim := { program := "ytnceadbfgpiaaaa", sum := "5e1952e5ffc4e5d758ac69875b7d3959203a60b00b5a53b1bdea5de42080a182", func := "bosket/bosketlaw24.ItemNext", spec := "itemNext", inPlace := ["slices.overlaps[bosket/item.Item]"], unfollowed := true, recurses := true, apart := false }
def ItemNextSaid : Prop := itemNextRow.holds Try.pinned (OpenSpec.ofChange itemNextSpec)

/-- ITS FALSE NEIGHBOUR: 'it returns false'. Refute it at one input. -/
def itemNextWrong : ChangeSpec := { name := "itemNext", fn := fun _ => fun
  | [d1, d2] => { results := [.lit (.bool false)], args := [d1, d2] }
  | _ => none }
def ItemNextWrongFalsely : Prop := itemNextRow.holds Try.pinned (OpenSpec.ofChange itemNextWrong)

/-- 'bosketlaw25.ClosAgain': WHATEVER THE INPUT: true; the input reads as it did. -/
def closAgainSpec : ChangeSpec := { name := "closAgain", fn := fun _ => fun
  | [d1, d2, d3] => { results := [.lit (.bool true)], args := [d1, d2, d3] }
  | _ => none }
def closAgainRow : OpenClaim := { program := "ytnceadbfgpiaaaa", sum := "5e1952e5ffc4e5d758ac69875b7d3959203a60b00b5a53b1bdea5de42080a182", func := "bosket/bosketlaw25.ClosAgain", spec := "closAgain", inPlace := ["slices.overlaps[bosket/item.Item]"], unfollowed := true, recurses := true, apart := false }
def ClosAgainSaid : Prop := closAgainRow.holds Try.pinned (OpenSpec.ofChange closAgainSpec)

/-- ITS FALSE NEIGHBOUR: 'it returns false'. Refute it at one input. -/
def closAgainWrong : ChangeSpec := { name := "closAgain", fn := fun _ => fun
  | [d1, d2, d3] => { results := [.lit (.bool false)], args := [d1, d2, d3] }
  | _ => none }
def ClosAgainWrongFalsely : Prop := closAgainRow.holds Try.pinned (OpenSpec.ofChange closAgainWrong)

/-- 'bosketlaw25.ClosThrough': WHATEVER THE INPUT: true; the input reads as it did. -/
def closThroughSpec : ChangeSpec := { name := "closThrough", fn := fun _ => fun
  | [d1, d2] => { results := [.lit (.bool true)], args := [d1, d2] }
  | _ => none }
def closThroughRow : OpenClaim := { program := "ytnceadbfgpiaaaa", sum := "5e1952e5ffc4e5d758ac69875b7d3959203a60b00b5a53b1bdea5de42080a182", func := "bosket/bosketlaw25.ClosThrough", spec := "closThrough", inPlace := ["slices.overlaps[bosket/item.Item]"], unfollowed := true, recurses := true, apart := false }
def ClosThroughSaid : Prop := closThroughRow.holds Try.pinned (OpenSpec.ofChange closThroughSpec)

/-- ITS FALSE NEIGHBOUR: 'it returns false'. Refute it at one input. -/
def closThroughWrong : ChangeSpec := { name := "closThrough", fn := fun _ => fun
  | [d1, d2] => { results := [.lit (.bool false)], args := [d1, d2] }
  | _ => none }
def ClosThroughWrongFalsely : Prop := closThroughRow.holds Try.pinned (OpenSpec.ofChange closThroughWrong)

/- THE SECOND FORM. 'bulk': how many values and letters a reading holds, each counted each time it is reached (what is shared counts as often as it is met; a slice's spare places count too). A statement '..UptoSaid' is the law's where the arguments, and the package variables that the reading takes, are together of bulk at most 1048576: NARROWER than '..Said'. Prove '..Said' where nothing that the law and all that it calls make is longer than what came in: it says more and counts as full. Else prove '..UptoSaid'. A law counts once. -/
mutual
def uptoBulk {H : Type} : DataW H → Nat
  | .lit (.string bytes) => bytes.length + 1
  | .lit _ => 1
  | .nil => 1
  | .ptr d => uptoBulk d + 1
  | .slice elems spare => uptoBulkAll elems + uptoBulkAll spare + 1
  | .agg parts => uptoBulkAll parts + 1
  | .iface _ d => uptoBulk d + 1
  | .map entries => uptoBulkEntries entries + 1
  | .held _ => 1
def uptoBulkAll {H : Type} : List (DataW H) → Nat
  | [] => 0
  | d :: r => uptoBulk d + uptoBulkAll r
def uptoBulkEntries {H : Type} : List (Lit × DataW H) → Nat
  | [] => 0
  | x :: r => uptoBulkEntry x + uptoBulkEntries r
def uptoBulkEntry {H : Type} : Lit × DataW H → Nat
  | (.string bytes, d) => bytes.length + uptoBulk d + 1
  | (_, d) => uptoBulk d + 1
 end
def uptoSmall : (H : Type) → List (DataW H) → Bool := fun _ ds => decide (uptoBulkAll ds ≤ 1048576)
def OpenSpec.upto (s : _root_.Go.ChangeSpec) : _root_.Go.OpenSpec := { _root_.Go.OpenSpec.ofChange s with cond := some uptoSmall }

/-- 'bosketlaw24.ItemKeys', WHERE WHAT IT READS IS OF BULK AT MOST 1048576: true; the input reads as it did. -/
def itemKeysUptoRow : OpenClaim := { program := "ytnceadbfgpiaaaa", sum := "5e1952e5ffc4e5d758ac69875b7d3959203a60b00b5a53b1bdea5de42080a182", func := "bosket/bosketlaw24.ItemKeys", spec := "itemKeys", inPlace := ["slices.overlaps[bosket/item.Item]"], unfollowed := true, recurses := true, apart := false, narrowed := true }
def ItemKeysUptoSaid : Prop := itemKeysUptoRow.holds Try.pinned (OpenSpec.upto itemKeysSpec)

/-- 'bosketlaw24.ItemNext', WHERE WHAT IT READS IS OF BULK AT MOST 1048576: true; the input reads as it did. -/
def itemNextUptoRow : OpenClaim := { program := "ytnceadbfgpiaaaa", sum := "5e1952e5ffc4e5d758ac69875b7d3959203a60b00b5a53b1bdea5de42080a182", func := "bosket/bosketlaw24.ItemNext", spec := "itemNext", inPlace := ["slices.overlaps[bosket/item.Item]"], unfollowed := true, recurses := true, apart := false, narrowed := true }
def ItemNextUptoSaid : Prop := itemNextUptoRow.holds Try.pinned (OpenSpec.upto itemNextSpec)

/-- 'bosketlaw25.ClosAgain', WHERE WHAT IT READS IS OF BULK AT MOST 1048576: true; the input reads as it did. -/
def closAgainUptoRow : OpenClaim := { program := "ytnceadbfgpiaaaa", sum := "5e1952e5ffc4e5d758ac69875b7d3959203a60b00b5a53b1bdea5de42080a182", func := "bosket/bosketlaw25.ClosAgain", spec := "closAgain", inPlace := ["slices.overlaps[bosket/item.Item]"], unfollowed := true, recurses := true, apart := false, narrowed := true }
def ClosAgainUptoSaid : Prop := closAgainUptoRow.holds Try.pinned (OpenSpec.upto closAgainSpec)

/-- 'bosketlaw25.ClosThrough', WHERE WHAT IT READS IS OF BULK AT MOST 1048576: true; the input reads as it did. -/
def closThroughUptoRow : OpenClaim := { program := "ytnceadbfgpiaaaa", sum := "5e1952e5ffc4e5d758ac69875b7d3959203a60b00b5a53b1bdea5de42080a182", func := "bosket/bosketlaw25.ClosThrough", spec := "closThrough", inPlace := ["slices.overlaps[bosket/item.Item]"], unfollowed := true, recurses := true, apart := false, narrowed := true }
def ClosThroughUptoSaid : Prop := closThroughUptoRow.holds Try.pinned (OpenSpec.upto closThroughSpec)

end Rows
end Go.Proofs.Ytnceadbfgpiaaaa
