/-
  No cell of these rows narrows 'for every input' (looked for: loops, veiled, ifaces, maps, wideKeys, modest, calm, conditions, laid).
  DERIVED. THE GIVEN ROWS OF THIS SEAT. 12 by the template 'for every input the law returns true; each argument reads behind the call as it read before'; 0 by the template 'total and deterministic' (their statements: YtagflbmonlaioaaTotals.lean).
  GIVEN WITH THE SEED: the statements are not yours to turn. If you find one false, say at which input.
  Laid BY PROGRAM, IN A SANDBOX (cutbox-rows.mjs): the forced cells as the released guide's own fill.sh prints them over the translation cd163a43d3434230… (all of the seat's roots in one cut). By AI agents, Wed Nov 11 2026. No macro, syntax, notation, axiom, sorry.
-/
import Derived.Test.YtagflbmonlaioaaChecked
import GoSem.Claim
import GoSem.ClaimJoined
import GoSem.ClaimMapViews
import Derived.JoinedTies
import Derived.KernelRfl
namespace Go.Proofs.Ytagflbmonlaioaa
/- THE CELL 'sum', in the pinned program and in every row, IS THE sha256 OF THE DUMP (.gsa) THAT YtagflbmonlaioaaProg.lean LOADS. Nothing in Lean hashes anything: it is a label: what it is worth is what the hold of that sum in a sandbox is worth. -/
noncomputable def Try.pinned : Pinned := { name := "ytagflbmonlaioaa", sum := "cd163a43d3434230c1a62f101ff056dc7ab34eb9573e73e2eaacc447b0c23545", checked := Try.checked }
namespace Rows
def none {H : Type} : Left H := { results := [], args := [] }

/-- 'bosketlaw37.DocMakes': WHATEVER THE INPUT: true; the input reads as it did. -/
def docMakesSpec : ChangeSpec := { name := "docMakes", fn := fun _ => fun
  | [d1, d2, d3] => { results := [.lit (.bool true)], args := [d1, d2, d3] }
  | _ => none }
def docMakesRow : OpenClaim := { program := "ytagflbmonlaioaa", sum := "cd163a43d3434230c1a62f101ff056dc7ab34eb9573e73e2eaacc447b0c23545", func := "bosket/bosketlaw37.DocMakes", spec := "docMakes", apart := false }
def DocMakesSaid : Prop := docMakesRow.holds Try.pinned (OpenSpec.ofChange docMakesSpec)

/-- ITS FALSE NEIGHBOUR: 'it returns false'. Refute it at one input. -/
def docMakesWrong : ChangeSpec := { name := "docMakes", fn := fun _ => fun
  | [d1, d2, d3] => { results := [.lit (.bool false)], args := [d1, d2, d3] }
  | _ => none }
def DocMakesWrongFalsely : Prop := docMakesRow.holds Try.pinned (OpenSpec.ofChange docMakesWrong)

/-- 'bosketlaw38.FitsFlat': WHATEVER THE INPUT: true; the input reads as it did. -/
def fitsFlatSpec : ChangeSpec := { name := "fitsFlat", fn := fun _ => fun
  | [d] => { results := [.lit (.bool true)], args := [d] }
  | _ => none }
def fitsFlatRow : OpenClaim := { program := "ytagflbmonlaioaa", sum := "cd163a43d3434230c1a62f101ff056dc7ab34eb9573e73e2eaacc447b0c23545", func := "bosket/bosketlaw38.FitsFlat", spec := "fitsFlat", recurses := true, apart := false }
def FitsFlatSaid : Prop := fitsFlatRow.holds Try.pinned (OpenSpec.ofChange fitsFlatSpec)

/-- ITS FALSE NEIGHBOUR: 'it returns false'. Refute it at one input. -/
def fitsFlatWrong : ChangeSpec := { name := "fitsFlat", fn := fun _ => fun
  | [d] => { results := [.lit (.bool false)], args := [d] }
  | _ => none }
def FitsFlatWrongFalsely : Prop := fitsFlatRow.holds Try.pinned (OpenSpec.ofChange fitsFlatWrong)

/-- 'bosketlaw37.DocChecks': WHATEVER THE INPUT: true; the input reads as it did. -/
def docChecksSpec : ChangeSpec := { name := "docChecks", fn := fun _ => fun
  | [d1, d2] => { results := [.lit (.bool true)], args := [d1, d2] }
  | _ => none }
def docChecksRow : OpenClaim := { program := "ytagflbmonlaioaa", sum := "cd163a43d3434230c1a62f101ff056dc7ab34eb9573e73e2eaacc447b0c23545", func := "bosket/bosketlaw37.DocChecks", spec := "docChecks", recurses := true, apart := false }
def DocChecksSaid : Prop := docChecksRow.holds Try.pinned (OpenSpec.ofChange docChecksSpec)

/-- ITS FALSE NEIGHBOUR: 'it returns false'. Refute it at one input. -/
def docChecksWrong : ChangeSpec := { name := "docChecks", fn := fun _ => fun
  | [d1, d2] => { results := [.lit (.bool false)], args := [d1, d2] }
  | _ => none }
def DocChecksWrongFalsely : Prop := docChecksRow.holds Try.pinned (OpenSpec.ofChange docChecksWrong)

/-- 'bosketlaw38.FitsEnds': WHATEVER THE INPUT: true; the input reads as it did. -/
def fitsEndsSpec : ChangeSpec := { name := "fitsEnds", fn := fun _ => fun
  | [d] => { results := [.lit (.bool true)], args := [d] }
  | _ => none }
def fitsEndsRow : OpenClaim := { program := "ytagflbmonlaioaa", sum := "cd163a43d3434230c1a62f101ff056dc7ab34eb9573e73e2eaacc447b0c23545", func := "bosket/bosketlaw38.FitsEnds", spec := "fitsEnds", recurses := true, apart := false }
def FitsEndsSaid : Prop := fitsEndsRow.holds Try.pinned (OpenSpec.ofChange fitsEndsSpec)

/-- ITS FALSE NEIGHBOUR: 'it returns false'. Refute it at one input. -/
def fitsEndsWrong : ChangeSpec := { name := "fitsEnds", fn := fun _ => fun
  | [d] => { results := [.lit (.bool false)], args := [d] }
  | _ => none }
def FitsEndsWrongFalsely : Prop := fitsEndsRow.holds Try.pinned (OpenSpec.ofChange fitsEndsWrong)

/-- 'bosketlaw38.FitsBoth': WHATEVER THE INPUT: true; the input reads as it did. -/
def fitsBothSpec : ChangeSpec := { name := "fitsBoth", fn := fun _ => fun
  | [d1, d2, d3] => { results := [.lit (.bool true)], args := [d1, d2, d3] }
  | _ => none }
def fitsBothRow : OpenClaim := { program := "ytagflbmonlaioaa", sum := "cd163a43d3434230c1a62f101ff056dc7ab34eb9573e73e2eaacc447b0c23545", func := "bosket/bosketlaw38.FitsBoth", spec := "fitsBoth", apart := false }
def FitsBothSaid : Prop := fitsBothRow.holds Try.pinned (OpenSpec.ofChange fitsBothSpec)

/-- ITS FALSE NEIGHBOUR: 'it returns false'. Refute it at one input. -/
def fitsBothWrong : ChangeSpec := { name := "fitsBoth", fn := fun _ => fun
  | [d1, d2, d3] => { results := [.lit (.bool false)], args := [d1, d2, d3] }
  | _ => none }
def FitsBothWrongFalsely : Prop := fitsBothRow.holds Try.pinned (OpenSpec.ofChange fitsBothWrong)

/-- 'bosketlaw40.LayAll': WHATEVER THE INPUT: true; the input reads as it did. -/
def layAllSpec : ChangeSpec := { name := "layAll", fn := fun _ => fun
  | [d1, d2] => { results := [.lit (.bool true)], args := [d1, d2] }
  | _ => none }
def layAllRow : OpenClaim := { program := "ytagflbmonlaioaa", sum := "cd163a43d3434230c1a62f101ff056dc7ab34eb9573e73e2eaacc447b0c23545", func := "bosket/bosketlaw40.LayAll", spec := "layAll", recurses := true, apart := false }
def LayAllSaid : Prop := layAllRow.holds Try.pinned (OpenSpec.ofChange layAllSpec)

/-- ITS FALSE NEIGHBOUR: 'it returns false'. Refute it at one input. -/
def layAllWrong : ChangeSpec := { name := "layAll", fn := fun _ => fun
  | [d1, d2] => { results := [.lit (.bool false)], args := [d1, d2] }
  | _ => none }
def LayAllWrongFalsely : Prop := layAllRow.holds Try.pinned (OpenSpec.ofChange layAllWrong)

/-- 'bosketlaw40.LayBy': WHATEVER THE INPUT: true; the input reads as it did. -/
def layBySpec : ChangeSpec := { name := "layBy", fn := fun _ => fun
  | [d1, d2] => { results := [.lit (.bool true)], args := [d1, d2] }
  | _ => none }
def layByRow : OpenClaim := { program := "ytagflbmonlaioaa", sum := "cd163a43d3434230c1a62f101ff056dc7ab34eb9573e73e2eaacc447b0c23545", func := "bosket/bosketlaw40.LayBy", spec := "layBy", recurses := true, apart := false }
def LayBySaid : Prop := layByRow.holds Try.pinned (OpenSpec.ofChange layBySpec)

/-- ITS FALSE NEIGHBOUR: 'it returns false'. Refute it at one input. -/
def layByWrong : ChangeSpec := { name := "layBy", fn := fun _ => fun
  | [d1, d2] => { results := [.lit (.bool false)], args := [d1, d2] }
  | _ => none }
def LayByWrongFalsely : Prop := layByRow.holds Try.pinned (OpenSpec.ofChange layByWrong)

/-- 'bosketlaw39.RenderTexts': WHATEVER THE INPUT: true; the input reads as it did. -/
def renderTextsSpec : ChangeSpec := { name := "renderTexts", fn := fun _ => fun
  | [d1, d2] => { results := [.lit (.bool true)], args := [d1, d2] }
  | _ => none }
def renderTextsRow : OpenClaim := { program := "ytagflbmonlaioaa", sum := "cd163a43d3434230c1a62f101ff056dc7ab34eb9573e73e2eaacc447b0c23545", func := "bosket/bosketlaw39.RenderTexts", spec := "renderTexts", recurses := true, apart := false }
def RenderTextsSaid : Prop := renderTextsRow.holds Try.pinned (OpenSpec.ofChange renderTextsSpec)

/-- ITS FALSE NEIGHBOUR: 'it returns false'. Refute it at one input. -/
def renderTextsWrong : ChangeSpec := { name := "renderTexts", fn := fun _ => fun
  | [d1, d2] => { results := [.lit (.bool false)], args := [d1, d2] }
  | _ => none }
def RenderTextsWrongFalsely : Prop := renderTextsRow.holds Try.pinned (OpenSpec.ofChange renderTextsWrong)

/-- 'bosketlaw39.RenderFits': WHATEVER THE INPUT: true; the input reads as it did. -/
def renderFitsSpec : ChangeSpec := { name := "renderFits", fn := fun _ => fun
  | [d1, d2] => { results := [.lit (.bool true)], args := [d1, d2] }
  | _ => none }
def renderFitsRow : OpenClaim := { program := "ytagflbmonlaioaa", sum := "cd163a43d3434230c1a62f101ff056dc7ab34eb9573e73e2eaacc447b0c23545", func := "bosket/bosketlaw39.RenderFits", spec := "renderFits", recurses := true, apart := false }
def RenderFitsSaid : Prop := renderFitsRow.holds Try.pinned (OpenSpec.ofChange renderFitsSpec)

/-- ITS FALSE NEIGHBOUR: 'it returns false'. Refute it at one input. -/
def renderFitsWrong : ChangeSpec := { name := "renderFits", fn := fun _ => fun
  | [d1, d2] => { results := [.lit (.bool false)], args := [d1, d2] }
  | _ => none }
def RenderFitsWrongFalsely : Prop := renderFitsRow.holds Try.pinned (OpenSpec.ofChange renderFitsWrong)

/-- 'bosketlaw39.RenderWide': WHATEVER THE INPUT: true; the input reads as it did. -/
def renderWideSpec : ChangeSpec := { name := "renderWide", fn := fun _ => fun
  | [d1, d2] => { results := [.lit (.bool true)], args := [d1, d2] }
  | _ => none }
def renderWideRow : OpenClaim := { program := "ytagflbmonlaioaa", sum := "cd163a43d3434230c1a62f101ff056dc7ab34eb9573e73e2eaacc447b0c23545", func := "bosket/bosketlaw39.RenderWide", spec := "renderWide", apart := false }
def RenderWideSaid : Prop := renderWideRow.holds Try.pinned (OpenSpec.ofChange renderWideSpec)

/-- ITS FALSE NEIGHBOUR: 'it returns false'. Refute it at one input. -/
def renderWideWrong : ChangeSpec := { name := "renderWide", fn := fun _ => fun
  | [d1, d2] => { results := [.lit (.bool false)], args := [d1, d2] }
  | _ => none }
def RenderWideWrongFalsely : Prop := renderWideRow.holds Try.pinned (OpenSpec.ofChange renderWideWrong)

/-- 'bosketlaw40.LayHas': WHATEVER THE INPUT: true; the input reads as it did. -/
def layHasSpec : ChangeSpec := { name := "layHas", fn := fun _ => fun
  | [d1, d2] => { results := [.lit (.bool true)], args := [d1, d2] }
  | _ => none }
def layHasRow : OpenClaim := { program := "ytagflbmonlaioaa", sum := "cd163a43d3434230c1a62f101ff056dc7ab34eb9573e73e2eaacc447b0c23545", func := "bosket/bosketlaw40.LayHas", spec := "layHas", recurses := true, apart := false }
def LayHasSaid : Prop := layHasRow.holds Try.pinned (OpenSpec.ofChange layHasSpec)

/-- ITS FALSE NEIGHBOUR: 'it returns false'. Refute it at one input. -/
def layHasWrong : ChangeSpec := { name := "layHas", fn := fun _ => fun
  | [d1, d2] => { results := [.lit (.bool false)], args := [d1, d2] }
  | _ => none }
def LayHasWrongFalsely : Prop := layHasRow.holds Try.pinned (OpenSpec.ofChange layHasWrong)

/-- 'bosketlaw40.LayBest': WHATEVER THE INPUT: true; the input reads as it did. -/
def layBestSpec : ChangeSpec := { name := "layBest", fn := fun _ => fun
  | [d1, d2] => { results := [.lit (.bool true)], args := [d1, d2] }
  | _ => none }
def layBestRow : OpenClaim := { program := "ytagflbmonlaioaa", sum := "cd163a43d3434230c1a62f101ff056dc7ab34eb9573e73e2eaacc447b0c23545", func := "bosket/bosketlaw40.LayBest", spec := "layBest", recurses := true, apart := false }
def LayBestSaid : Prop := layBestRow.holds Try.pinned (OpenSpec.ofChange layBestSpec)

/-- ITS FALSE NEIGHBOUR: 'it returns false'. Refute it at one input. -/
def layBestWrong : ChangeSpec := { name := "layBest", fn := fun _ => fun
  | [d1, d2] => { results := [.lit (.bool false)], args := [d1, d2] }
  | _ => none }
def LayBestWrongFalsely : Prop := layBestRow.holds Try.pinned (OpenSpec.ofChange layBestWrong)

/- THE SECOND FORM. 'bulk': how many values and letters a reading holds, each counted each time it is reached (what is shared counts as often as it is met; a slice's spare places count too). A statement '..UptoSaid' is the law's where the arguments, and the package variables that the reading takes, are together of bulk at most 1048576: NARROWER than '..Said'. Prove '..Said' where nothing that the law and all that it calls make is longer than what came in: it says more and counts as full. Else prove '..UptoSaid'. A law counts once. -/
mutual
def uptoBulk {H : Type} : DataW H → Nat
  | .lit (.string bytes) => bytes.length + 1
  | .lit _ => 1
  | .nil => 1
  | .ptr d => uptoBulk d + 1
  | .slice elems spare => uptoBulkAll elems + uptoBulkAll spare + 1
  | .agg parts => uptoBulkAll parts + 1
  | .iface _ d => uptoBulk d + 1
  | .map entries => uptoBulkEntries entries + 1
  | .held _ => 1
def uptoBulkAll {H : Type} : List (DataW H) → Nat
  | [] => 0
  | d :: r => uptoBulk d + uptoBulkAll r
def uptoBulkEntries {H : Type} : List (Lit × DataW H) → Nat
  | [] => 0
  | x :: r => uptoBulkEntry x + uptoBulkEntries r
def uptoBulkEntry {H : Type} : Lit × DataW H → Nat
  | (.string bytes, d) => bytes.length + uptoBulk d + 1
  | (_, d) => uptoBulk d + 1
 end
def uptoSmall : (H : Type) → List (DataW H) → Bool := fun _ ds => decide (uptoBulkAll ds ≤ 1048576)
def OpenSpec.upto (s : _root_.Go.ChangeSpec) : _root_.Go.OpenSpec := { _root_.Go.OpenSpec.ofChange s with cond := some uptoSmall }

/-- 'bosketlaw37.DocMakes', WHERE WHAT IT READS IS OF BULK AT MOST 1048576: true; the input reads as it did. -/
def docMakesUptoRow : OpenClaim := { program := "ytagflbmonlaioaa", sum := "cd163a43d3434230c1a62f101ff056dc7ab34eb9573e73e2eaacc447b0c23545", func := "bosket/bosketlaw37.DocMakes", spec := "docMakes", apart := false, narrowed := true }
def DocMakesUptoSaid : Prop := docMakesUptoRow.holds Try.pinned (OpenSpec.upto docMakesSpec)

/-- 'bosketlaw38.FitsFlat', WHERE WHAT IT READS IS OF BULK AT MOST 1048576: true; the input reads as it did. -/
def fitsFlatUptoRow : OpenClaim := { program := "ytagflbmonlaioaa", sum := "cd163a43d3434230c1a62f101ff056dc7ab34eb9573e73e2eaacc447b0c23545", func := "bosket/bosketlaw38.FitsFlat", spec := "fitsFlat", recurses := true, apart := false, narrowed := true }
def FitsFlatUptoSaid : Prop := fitsFlatUptoRow.holds Try.pinned (OpenSpec.upto fitsFlatSpec)

/-- 'bosketlaw37.DocChecks', WHERE WHAT IT READS IS OF BULK AT MOST 1048576: true; the input reads as it did. -/
def docChecksUptoRow : OpenClaim := { program := "ytagflbmonlaioaa", sum := "cd163a43d3434230c1a62f101ff056dc7ab34eb9573e73e2eaacc447b0c23545", func := "bosket/bosketlaw37.DocChecks", spec := "docChecks", recurses := true, apart := false, narrowed := true }
def DocChecksUptoSaid : Prop := docChecksUptoRow.holds Try.pinned (OpenSpec.upto docChecksSpec)

/-- 'bosketlaw38.FitsEnds', WHERE WHAT IT READS IS OF BULK AT MOST 1048576: true; the input reads as it did. -/
def fitsEndsUptoRow : OpenClaim := { program := "ytagflbmonlaioaa", sum := "cd163a43d3434230c1a62f101ff056dc7ab34eb9573e73e2eaacc447b0c23545", func := "bosket/bosketlaw38.FitsEnds", spec := "fitsEnds", recurses := true, apart := false, narrowed := true }
def FitsEndsUptoSaid : Prop := fitsEndsUptoRow.holds Try.pinned (OpenSpec.upto fitsEndsSpec)

/-- 'bosketlaw38.FitsBoth', WHERE WHAT IT READS IS OF BULK AT MOST 1048576: true; the input reads as it did. -/
def fitsBothUptoRow : OpenClaim := { program := "ytagflbmonlaioaa", sum := "cd163a43d3434230c1a62f101ff056dc7ab34eb9573e73e2eaacc447b0c23545", func := "bosket/bosketlaw38.FitsBoth", spec := "fitsBoth", apart := false, narrowed := true }
def FitsBothUptoSaid : Prop := fitsBothUptoRow.holds Try.pinned (OpenSpec.upto fitsBothSpec)

/-- 'bosketlaw40.LayAll', WHERE WHAT IT READS IS OF BULK AT MOST 1048576: true; the input reads as it did. -/
def layAllUptoRow : OpenClaim := { program := "ytagflbmonlaioaa", sum := "cd163a43d3434230c1a62f101ff056dc7ab34eb9573e73e2eaacc447b0c23545", func := "bosket/bosketlaw40.LayAll", spec := "layAll", recurses := true, apart := false, narrowed := true }
def LayAllUptoSaid : Prop := layAllUptoRow.holds Try.pinned (OpenSpec.upto layAllSpec)

/-- 'bosketlaw40.LayBy', WHERE WHAT IT READS IS OF BULK AT MOST 1048576: true; the input reads as it did. -/
def layByUptoRow : OpenClaim := { program := "ytagflbmonlaioaa", sum := "cd163a43d3434230c1a62f101ff056dc7ab34eb9573e73e2eaacc447b0c23545", func := "bosket/bosketlaw40.LayBy", spec := "layBy", recurses := true, apart := false, narrowed := true }
def LayByUptoSaid : Prop := layByUptoRow.holds Try.pinned (OpenSpec.upto layBySpec)

/-- 'bosketlaw39.RenderTexts', WHERE WHAT IT READS IS OF BULK AT MOST 1048576: true; the input reads as it did. -/
def renderTextsUptoRow : OpenClaim := { program := "ytagflbmonlaioaa", sum := "cd163a43d3434230c1a62f101ff056dc7ab34eb9573e73e2eaacc447b0c23545", func := "bosket/bosketlaw39.RenderTexts", spec := "renderTexts", recurses := true, apart := false, narrowed := true }
def RenderTextsUptoSaid : Prop := renderTextsUptoRow.holds Try.pinned (OpenSpec.upto renderTextsSpec)

/-- 'bosketlaw39.RenderFits', WHERE WHAT IT READS IS OF BULK AT MOST 1048576: true; the input reads as it did. -/
def renderFitsUptoRow : OpenClaim := { program := "ytagflbmonlaioaa", sum := "cd163a43d3434230c1a62f101ff056dc7ab34eb9573e73e2eaacc447b0c23545", func := "bosket/bosketlaw39.RenderFits", spec := "renderFits", recurses := true, apart := false, narrowed := true }
def RenderFitsUptoSaid : Prop := renderFitsUptoRow.holds Try.pinned (OpenSpec.upto renderFitsSpec)

/-- 'bosketlaw39.RenderWide', WHERE WHAT IT READS IS OF BULK AT MOST 1048576: true; the input reads as it did. -/
def renderWideUptoRow : OpenClaim := { program := "ytagflbmonlaioaa", sum := "cd163a43d3434230c1a62f101ff056dc7ab34eb9573e73e2eaacc447b0c23545", func := "bosket/bosketlaw39.RenderWide", spec := "renderWide", apart := false, narrowed := true }
def RenderWideUptoSaid : Prop := renderWideUptoRow.holds Try.pinned (OpenSpec.upto renderWideSpec)

/-- 'bosketlaw40.LayHas', WHERE WHAT IT READS IS OF BULK AT MOST 1048576: true; the input reads as it did. -/
def layHasUptoRow : OpenClaim := { program := "ytagflbmonlaioaa", sum := "cd163a43d3434230c1a62f101ff056dc7ab34eb9573e73e2eaacc447b0c23545", func := "bosket/bosketlaw40.LayHas", spec := "layHas", recurses := true, apart := false, narrowed := true }
def LayHasUptoSaid : Prop := layHasUptoRow.holds Try.pinned (OpenSpec.upto layHasSpec)

/-- 'bosketlaw40.LayBest', WHERE WHAT IT READS IS OF BULK AT MOST 1048576: true; the input reads as it did. -/
def layBestUptoRow : OpenClaim := { program := "ytagflbmonlaioaa", sum := "cd163a43d3434230c1a62f101ff056dc7ab34eb9573e73e2eaacc447b0c23545", func := "bosket/bosketlaw40.LayBest", spec := "layBest", recurses := true, apart := false, narrowed := true }
def LayBestUptoSaid : Prop := layBestUptoRow.holds Try.pinned (OpenSpec.upto layBestSpec)

end Rows
end Go.Proofs.Ytagflbmonlaioaa
