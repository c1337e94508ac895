/-
  No cell of these rows narrows 'for every input' (looked for: loops, veiled, ifaces, maps, wideKeys, modest, calm, conditions, laid).
  DERIVED. THE GIVEN ROWS OF THIS SEAT. 9 by the template 'for every input the law returns true; each argument reads behind the call as it read before'; 0 by the template 'total and deterministic' (their statements: YthilmgpciiopnaaTotals.lean).
  GIVEN WITH THE SEED: the statements are not yours to turn. If you find one false, say at which input.
  Laid BY PROGRAM, IN A SANDBOX (cutbox-rows.mjs): the forced cells as the released guide's own fill.sh prints them over the translation 2eb6507b258c415d… (all of the seat's roots in one cut). By AI agents, Wed Nov 11 2026. No macro, syntax, notation, axiom, sorry.
-/
import Derived.Test.YthilmgpciiopnaaChecked
import GoSem.Claim
import GoSem.ClaimJoined
import GoSem.ClaimMapViews
import Derived.JoinedTies
import Derived.KernelRfl
namespace Go.Proofs.Ythilmgpciiopnaa
/- THE CELL 'sum', in the pinned program and in every row, IS THE sha256 OF THE DUMP (.gsa) THAT YthilmgpciiopnaaProg.lean LOADS. Nothing in Lean hashes anything: it is a label: what it is worth is what the hold of that sum in a sandbox is worth. -/
noncomputable def Try.pinned : Pinned := { name := "ythilmgpciiopnaa", sum := "2eb6507b258c415de34819384dd53664d1a35e01e43d37923ffe220abe89d0c9", checked := Try.checked }
namespace Rows
def none {H : Type} : Left H := { results := [], args := [] }

/-- 'bosketlaw21.FirstBits': WHATEVER THE INPUT: true; the input reads as it did. -/
def firstBitsSpec : ChangeSpec := { name := "firstBits", fn := fun _ => fun
  | [d1, d2] => { results := [.lit (.bool true)], args := [d1, d2] }
  | _ => none }
def firstBitsRow : OpenClaim := { program := "ythilmgpciiopnaa", sum := "2eb6507b258c415de34819384dd53664d1a35e01e43d37923ffe220abe89d0c9", func := "bosket/bosketlaw21.FirstBits", spec := "firstBits", apart := false }
def FirstBitsSaid : Prop := firstBitsRow.holds Try.pinned (OpenSpec.ofChange firstBitsSpec)

/-- ITS FALSE NEIGHBOUR: 'it returns false'. Refute it at one input. -/
def firstBitsWrong : ChangeSpec := { name := "firstBits", fn := fun _ => fun
  | [d1, d2] => { results := [.lit (.bool false)], args := [d1, d2] }
  | _ => none }
def FirstBitsWrongFalsely : Prop := firstBitsRow.holds Try.pinned (OpenSpec.ofChange firstBitsWrong)

/-- 'bosketlaw14.LanesNotes': WHATEVER THE INPUT: true; the input reads as it did. -/
def lanesNotesSpec : ChangeSpec := { name := "lanesNotes", fn := fun _ => fun
  | [d1, d2] => { results := [.lit (.bool true)], args := [d1, d2] }
  | _ => none }
def lanesNotesRow : OpenClaim := { program := "ythilmgpciiopnaa", sum := "2eb6507b258c415de34819384dd53664d1a35e01e43d37923ffe220abe89d0c9", func := "bosket/bosketlaw14.LanesNotes", spec := "lanesNotes", apart := false }
def LanesNotesSaid : Prop := lanesNotesRow.holds Try.pinned (OpenSpec.ofChange lanesNotesSpec)

/-- ITS FALSE NEIGHBOUR: 'it returns false'. Refute it at one input. -/
def lanesNotesWrong : ChangeSpec := { name := "lanesNotes", fn := fun _ => fun
  | [d1, d2] => { results := [.lit (.bool false)], args := [d1, d2] }
  | _ => none }
def LanesNotesWrongFalsely : Prop := lanesNotesRow.holds Try.pinned (OpenSpec.ofChange lanesNotesWrong)

/-- 'bosketlaw14.LanesMerge': WHATEVER THE INPUT: true; the input reads as it did. -/
def lanesMergeSpec : ChangeSpec := { name := "lanesMerge", fn := fun _ => fun
  | [d1, d2, d3] => { results := [.lit (.bool true)], args := [d1, d2, d3] }
  | _ => none }
def lanesMergeRow : OpenClaim := { program := "ythilmgpciiopnaa", sum := "2eb6507b258c415de34819384dd53664d1a35e01e43d37923ffe220abe89d0c9", func := "bosket/bosketlaw14.LanesMerge", spec := "lanesMerge", apart := false }
def LanesMergeSaid : Prop := lanesMergeRow.holds Try.pinned (OpenSpec.ofChange lanesMergeSpec)

/-- ITS FALSE NEIGHBOUR: 'it returns false'. Refute it at one input. -/
def lanesMergeWrong : ChangeSpec := { name := "lanesMerge", fn := fun _ => fun
  | [d1, d2, d3] => { results := [.lit (.bool false)], args := [d1, d2, d3] }
  | _ => none }
def LanesMergeWrongFalsely : Prop := lanesMergeRow.holds Try.pinned (OpenSpec.ofChange lanesMergeWrong)

/-- 'bosketlaw21.FirstOf': WHATEVER THE INPUT: true; the input reads as it did. -/
def firstOfSpec : ChangeSpec := { name := "firstOf", fn := fun _ => fun
  | [d] => { results := [.lit (.bool true)], args := [d] }
  | _ => none }
def firstOfRow : OpenClaim := { program := "ythilmgpciiopnaa", sum := "2eb6507b258c415de34819384dd53664d1a35e01e43d37923ffe220abe89d0c9", func := "bosket/bosketlaw21.FirstOf", spec := "firstOf", recurses := true, apart := false }
def FirstOfSaid : Prop := firstOfRow.holds Try.pinned (OpenSpec.ofChange firstOfSpec)

/-- ITS FALSE NEIGHBOUR: 'it returns false'. Refute it at one input. -/
def firstOfWrong : ChangeSpec := { name := "firstOf", fn := fun _ => fun
  | [d] => { results := [.lit (.bool false)], args := [d] }
  | _ => none }
def FirstOfWrongFalsely : Prop := firstOfRow.holds Try.pinned (OpenSpec.ofChange firstOfWrong)

/-- 'bosketlaw21.FirstMore': WHATEVER THE INPUT: true; the input reads as it did. -/
def firstMoreSpec : ChangeSpec := { name := "firstMore", fn := fun _ => fun
  | [d1, d2] => { results := [.lit (.bool true)], args := [d1, d2] }
  | _ => none }
def firstMoreRow : OpenClaim := { program := "ythilmgpciiopnaa", sum := "2eb6507b258c415de34819384dd53664d1a35e01e43d37923ffe220abe89d0c9", func := "bosket/bosketlaw21.FirstMore", spec := "firstMore", apart := false }
def FirstMoreSaid : Prop := firstMoreRow.holds Try.pinned (OpenSpec.ofChange firstMoreSpec)

/-- ITS FALSE NEIGHBOUR: 'it returns false'. Refute it at one input. -/
def firstMoreWrong : ChangeSpec := { name := "firstMore", fn := fun _ => fun
  | [d1, d2] => { results := [.lit (.bool false)], args := [d1, d2] }
  | _ => none }
def FirstMoreWrongFalsely : Prop := firstMoreRow.holds Try.pinned (OpenSpec.ofChange firstMoreWrong)

/-- 'bosketlaw14.LanesOf': WHATEVER THE INPUT: true; the input reads as it did. -/
def lanesOfSpec : ChangeSpec := { name := "lanesOf", fn := fun _ => fun
  | [d1, d2, d3] => { results := [.lit (.bool true)], args := [d1, d2, d3] }
  | _ => none }
def lanesOfRow : OpenClaim := { program := "ythilmgpciiopnaa", sum := "2eb6507b258c415de34819384dd53664d1a35e01e43d37923ffe220abe89d0c9", func := "bosket/bosketlaw14.LanesOf", spec := "lanesOf", apart := false }
def LanesOfSaid : Prop := lanesOfRow.holds Try.pinned (OpenSpec.ofChange lanesOfSpec)

/-- ITS FALSE NEIGHBOUR: 'it returns false'. Refute it at one input. -/
def lanesOfWrong : ChangeSpec := { name := "lanesOf", fn := fun _ => fun
  | [d1, d2, d3] => { results := [.lit (.bool false)], args := [d1, d2, d3] }
  | _ => none }
def LanesOfWrongFalsely : Prop := lanesOfRow.holds Try.pinned (OpenSpec.ofChange lanesOfWrong)

/-- 'bosketlaw22.FollowOf': WHATEVER THE INPUT: true; the input reads as it did. -/
def followOfSpec : ChangeSpec := { name := "followOf", fn := fun _ => fun
  | [d] => { results := [.lit (.bool true)], args := [d] }
  | _ => none }
def followOfRow : OpenClaim := { program := "ythilmgpciiopnaa", sum := "2eb6507b258c415de34819384dd53664d1a35e01e43d37923ffe220abe89d0c9", func := "bosket/bosketlaw22.FollowOf", spec := "followOf", recurses := true, apart := false }
def FollowOfSaid : Prop := followOfRow.holds Try.pinned (OpenSpec.ofChange followOfSpec)

/-- ITS FALSE NEIGHBOUR: 'it returns false'. Refute it at one input. -/
def followOfWrong : ChangeSpec := { name := "followOf", fn := fun _ => fun
  | [d] => { results := [.lit (.bool false)], args := [d] }
  | _ => none }
def FollowOfWrongFalsely : Prop := followOfRow.holds Try.pinned (OpenSpec.ofChange followOfWrong)

/-- 'bosketlaw22.FollowEnds': WHATEVER THE INPUT: true; the input reads as it did. -/
def followEndsSpec : ChangeSpec := { name := "followEnds", fn := fun _ => fun
  | [d] => { results := [.lit (.bool true)], args := [d] }
  | _ => none }
def followEndsRow : OpenClaim := { program := "ythilmgpciiopnaa", sum := "2eb6507b258c415de34819384dd53664d1a35e01e43d37923ffe220abe89d0c9", func := "bosket/bosketlaw22.FollowEnds", spec := "followEnds", recurses := true, apart := false }
def FollowEndsSaid : Prop := followEndsRow.holds Try.pinned (OpenSpec.ofChange followEndsSpec)

/-- ITS FALSE NEIGHBOUR: 'it returns false'. Refute it at one input. -/
def followEndsWrong : ChangeSpec := { name := "followEnds", fn := fun _ => fun
  | [d] => { results := [.lit (.bool false)], args := [d] }
  | _ => none }
def FollowEndsWrongFalsely : Prop := followEndsRow.holds Try.pinned (OpenSpec.ofChange followEndsWrong)

/-- 'bosketlaw22.FollowPairs': WHATEVER THE INPUT: true; the input reads as it did. -/
def followPairsSpec : ChangeSpec := { name := "followPairs", fn := fun _ => fun
  | [d] => { results := [.lit (.bool true)], args := [d] }
  | _ => none }
def followPairsRow : OpenClaim := { program := "ythilmgpciiopnaa", sum := "2eb6507b258c415de34819384dd53664d1a35e01e43d37923ffe220abe89d0c9", func := "bosket/bosketlaw22.FollowPairs", spec := "followPairs", recurses := true, apart := false }
def FollowPairsSaid : Prop := followPairsRow.holds Try.pinned (OpenSpec.ofChange followPairsSpec)

/-- ITS FALSE NEIGHBOUR: 'it returns false'. Refute it at one input. -/
def followPairsWrong : ChangeSpec := { name := "followPairs", fn := fun _ => fun
  | [d] => { results := [.lit (.bool false)], args := [d] }
  | _ => none }
def FollowPairsWrongFalsely : Prop := followPairsRow.holds Try.pinned (OpenSpec.ofChange followPairsWrong)

/- THE SECOND FORM. 'bulk': how many values and letters a reading holds, each counted each time it is reached (what is shared counts as often as it is met; a slice's spare places count too). A statement '..UptoSaid' is the law's where the arguments, and the package variables that the reading takes, are together of bulk at most 1048576: NARROWER than '..Said'. Prove '..Said' where nothing that the law and all that it calls make is longer than what came in: it says more and counts as full. Else prove '..UptoSaid'. A law counts once. -/
mutual
def uptoBulk {H : Type} : DataW H → Nat
  | .lit (.string bytes) => bytes.length + 1
  | .lit _ => 1
  | .nil => 1
  | .ptr d => uptoBulk d + 1
  | .slice elems spare => uptoBulkAll elems + uptoBulkAll spare + 1
  | .agg parts => uptoBulkAll parts + 1
  | .iface _ d => uptoBulk d + 1
  | .map entries => uptoBulkEntries entries + 1
  | .held _ => 1
def uptoBulkAll {H : Type} : List (DataW H) → Nat
  | [] => 0
  | d :: r => uptoBulk d + uptoBulkAll r
def uptoBulkEntries {H : Type} : List (Lit × DataW H) → Nat
  | [] => 0
  | x :: r => uptoBulkEntry x + uptoBulkEntries r
def uptoBulkEntry {H : Type} : Lit × DataW H → Nat
  | (.string bytes, d) => bytes.length + uptoBulk d + 1
  | (_, d) => uptoBulk d + 1
 end
def uptoSmall : (H : Type) → List (DataW H) → Bool := fun _ ds => decide (uptoBulkAll ds ≤ 1048576)
def OpenSpec.upto (s : _root_.Go.ChangeSpec) : _root_.Go.OpenSpec := { _root_.Go.OpenSpec.ofChange s with cond := some uptoSmall }

/-- 'bosketlaw21.FirstBits', WHERE WHAT IT READS IS OF BULK AT MOST 1048576: true; the input reads as it did. -/
def firstBitsUptoRow : OpenClaim := { program := "ythilmgpciiopnaa", sum := "2eb6507b258c415de34819384dd53664d1a35e01e43d37923ffe220abe89d0c9", func := "bosket/bosketlaw21.FirstBits", spec := "firstBits", apart := false, narrowed := true }
def FirstBitsUptoSaid : Prop := firstBitsUptoRow.holds Try.pinned (OpenSpec.upto firstBitsSpec)

/-- 'bosketlaw14.LanesNotes', WHERE WHAT IT READS IS OF BULK AT MOST 1048576: true; the input reads as it did. -/
def lanesNotesUptoRow : OpenClaim := { program := "ythilmgpciiopnaa", sum := "2eb6507b258c415de34819384dd53664d1a35e01e43d37923ffe220abe89d0c9", func := "bosket/bosketlaw14.LanesNotes", spec := "lanesNotes", apart := false, narrowed := true }
def LanesNotesUptoSaid : Prop := lanesNotesUptoRow.holds Try.pinned (OpenSpec.upto lanesNotesSpec)

/-- 'bosketlaw14.LanesMerge', WHERE WHAT IT READS IS OF BULK AT MOST 1048576: true; the input reads as it did. -/
def lanesMergeUptoRow : OpenClaim := { program := "ythilmgpciiopnaa", sum := "2eb6507b258c415de34819384dd53664d1a35e01e43d37923ffe220abe89d0c9", func := "bosket/bosketlaw14.LanesMerge", spec := "lanesMerge", apart := false, narrowed := true }
def LanesMergeUptoSaid : Prop := lanesMergeUptoRow.holds Try.pinned (OpenSpec.upto lanesMergeSpec)

/-- 'bosketlaw21.FirstOf', WHERE WHAT IT READS IS OF BULK AT MOST 1048576: true; the input reads as it did. -/
def firstOfUptoRow : OpenClaim := { program := "ythilmgpciiopnaa", sum := "2eb6507b258c415de34819384dd53664d1a35e01e43d37923ffe220abe89d0c9", func := "bosket/bosketlaw21.FirstOf", spec := "firstOf", recurses := true, apart := false, narrowed := true }
def FirstOfUptoSaid : Prop := firstOfUptoRow.holds Try.pinned (OpenSpec.upto firstOfSpec)

/-- 'bosketlaw21.FirstMore', WHERE WHAT IT READS IS OF BULK AT MOST 1048576: true; the input reads as it did. -/
def firstMoreUptoRow : OpenClaim := { program := "ythilmgpciiopnaa", sum := "2eb6507b258c415de34819384dd53664d1a35e01e43d37923ffe220abe89d0c9", func := "bosket/bosketlaw21.FirstMore", spec := "firstMore", apart := false, narrowed := true }
def FirstMoreUptoSaid : Prop := firstMoreUptoRow.holds Try.pinned (OpenSpec.upto firstMoreSpec)

/-- 'bosketlaw14.LanesOf', WHERE WHAT IT READS IS OF BULK AT MOST 1048576: true; the input reads as it did. -/
def lanesOfUptoRow : OpenClaim := { program := "ythilmgpciiopnaa", sum := "2eb6507b258c415de34819384dd53664d1a35e01e43d37923ffe220abe89d0c9", func := "bosket/bosketlaw14.LanesOf", spec := "lanesOf", apart := false, narrowed := true }
def LanesOfUptoSaid : Prop := lanesOfUptoRow.holds Try.pinned (OpenSpec.upto lanesOfSpec)

/-- 'bosketlaw22.FollowOf', WHERE WHAT IT READS IS OF BULK AT MOST 1048576: true; the input reads as it did. -/
def followOfUptoRow : OpenClaim := { program := "ythilmgpciiopnaa", sum := "2eb6507b258c415de34819384dd53664d1a35e01e43d37923ffe220abe89d0c9", func := "bosket/bosketlaw22.FollowOf", spec := "followOf", recurses := true, apart := false, narrowed := true }
def FollowOfUptoSaid : Prop := followOfUptoRow.holds Try.pinned (OpenSpec.upto followOfSpec)

/-- 'bosketlaw22.FollowEnds', WHERE WHAT IT READS IS OF BULK AT MOST 1048576: true; the input reads as it did. -/
def followEndsUptoRow : OpenClaim := { program := "ythilmgpciiopnaa", sum := "2eb6507b258c415de34819384dd53664d1a35e01e43d37923ffe220abe89d0c9", func := "bosket/bosketlaw22.FollowEnds", spec := "followEnds", recurses := true, apart := false, narrowed := true }
def FollowEndsUptoSaid : Prop := followEndsUptoRow.holds Try.pinned (OpenSpec.upto followEndsSpec)

/-- 'bosketlaw22.FollowPairs', WHERE WHAT IT READS IS OF BULK AT MOST 1048576: true; the input reads as it did. -/
def followPairsUptoRow : OpenClaim := { program := "ythilmgpciiopnaa", sum := "2eb6507b258c415de34819384dd53664d1a35e01e43d37923ffe220abe89d0c9", func := "bosket/bosketlaw22.FollowPairs", spec := "followPairs", recurses := true, apart := false, narrowed := true }
def FollowPairsUptoSaid : Prop := followPairsUptoRow.holds Try.pinned (OpenSpec.upto followPairsSpec)

end Rows
end Go.Proofs.Ythilmgpciiopnaa
