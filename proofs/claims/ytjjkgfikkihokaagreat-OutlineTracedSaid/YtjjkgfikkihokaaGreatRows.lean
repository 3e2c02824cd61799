/-
  No cell of these rows narrows 'for every input' (looked for: loops, veiled, ifaces, maps, wideKeys, modest, calm, conditions, laid).
  DERIVED. THE GIVEN ROWS OF THIS SEAT. 12 by the template 'for every input the law returns true; each argument reads behind the call as it read before'; 0 by the template 'total and deterministic' (their statements: YtjjkgfikkihokaaGreatTotals.lean).
  GIVEN WITH THE SEED: the statements are not yours to turn. If you find one false, say at which input.
  Laid BY PROGRAM, IN A SANDBOX (cutbox-rows.mjs): the forced cells as the released guide's own fill.sh prints them over the translation bc38acf59ef9a810… (all of the seat's roots in one cut). By AI agents, Wed Nov 11 2026. No macro, syntax, notation, axiom, sorry.
-/
import Derived.Test.YtjjkgfikkihokaaGreatChecked
import GoSem.Claim
import GoSem.ClaimJoined
import GoSem.ClaimMapViews
import Derived.JoinedTies
import Derived.KernelRfl
namespace Go.Proofs.YtjjkgfikkihokaaGreat
/- THE CELL 'sum', in the pinned program and in every row, IS THE sha256 OF THE DUMP (.gsa) THAT YtjjkgfikkihokaaGreatProg.lean LOADS. Nothing in Lean hashes anything: it is a label: what it is worth is what the hold of that sum in a sandbox is worth. -/
noncomputable def Tryz.pinned : Pinned := { name := "ytjjkgfikkihokaagreat", sum := "bc38acf59ef9a8104c0de6a74cbfc387852bf41ca27e240cea9237cf0fb78901", checked := Tryz.checked }
namespace Rows
def none {H : Type} : Left H := { results := [], args := [] }

/-- 'garmentlaw24.AllowanceShifts': WHATEVER THE INPUT: true; the input reads as it did. -/
def allowanceShiftsSpec : ChangeSpec := { name := "allowanceShifts", fn := fun _ => fun
  | [d1, d2] => { results := [.lit (.bool true)], args := [d1, d2] }
  | _ => none }
def allowanceShiftsRow : OpenClaim := { program := "ytjjkgfikkihokaagreat", sum := "bc38acf59ef9a8104c0de6a74cbfc387852bf41ca27e240cea9237cf0fb78901", func := "garment/garmentlaw24.AllowanceShifts", spec := "allowanceShifts", inPlace := ["math.sqrt"], unfollowed := true, recurses := true, apart := false }
def AllowanceShiftsSaid : Prop := allowanceShiftsRow.holds Tryz.pinned (OpenSpec.ofChange allowanceShiftsSpec)

/-- ITS FALSE NEIGHBOUR: 'it returns false'. Refute it at one input. -/
def allowanceShiftsWrong : ChangeSpec := { name := "allowanceShifts", fn := fun _ => fun
  | [d1, d2] => { results := [.lit (.bool false)], args := [d1, d2] }
  | _ => none }
def AllowanceShiftsWrongFalsely : Prop := allowanceShiftsRow.holds Tryz.pinned (OpenSpec.ofChange allowanceShiftsWrong)

/-- 'garmentlaw24.AllowanceResults': WHATEVER THE INPUT: true; the input reads as it did. -/
def allowanceResultsSpec : ChangeSpec := { name := "allowanceResults", fn := fun _ => fun
  | [d1, d2] => { results := [.lit (.bool true)], args := [d1, d2] }
  | _ => none }
def allowanceResultsRow : OpenClaim := { program := "ytjjkgfikkihokaagreat", sum := "bc38acf59ef9a8104c0de6a74cbfc387852bf41ca27e240cea9237cf0fb78901", func := "garment/garmentlaw24.AllowanceResults", spec := "allowanceResults", inPlace := ["math.sqrt"], unfollowed := true, recurses := true, apart := false }
def AllowanceResultsSaid : Prop := allowanceResultsRow.holds Tryz.pinned (OpenSpec.ofChange allowanceResultsSpec)

/-- ITS FALSE NEIGHBOUR: 'it returns false'. Refute it at one input. -/
def allowanceResultsWrong : ChangeSpec := { name := "allowanceResults", fn := fun _ => fun
  | [d1, d2] => { results := [.lit (.bool false)], args := [d1, d2] }
  | _ => none }
def AllowanceResultsWrongFalsely : Prop := allowanceResultsRow.holds Tryz.pinned (OpenSpec.ofChange allowanceResultsWrong)

/-- 'garmentlaw20.OutlineChecks': WHATEVER THE INPUT: true; the input reads as it did. -/
def outlineChecksSpec : ChangeSpec := { name := "outlineChecks", fn := fun _ => fun
  | [d] => { results := [.lit (.bool true)], args := [d] }
  | _ => none }
def outlineChecksRow : OpenClaim := { program := "ytjjkgfikkihokaagreat", sum := "bc38acf59ef9a8104c0de6a74cbfc387852bf41ca27e240cea9237cf0fb78901", func := "garment/garmentlaw20.OutlineChecks", spec := "outlineChecks", unfollowed := true, recurses := true, apart := false }
def OutlineChecksSaid : Prop := outlineChecksRow.holds Tryz.pinned (OpenSpec.ofChange outlineChecksSpec)

/-- ITS FALSE NEIGHBOUR: 'it returns false'. Refute it at one input. -/
def outlineChecksWrong : ChangeSpec := { name := "outlineChecks", fn := fun _ => fun
  | [d] => { results := [.lit (.bool false)], args := [d] }
  | _ => none }
def OutlineChecksWrongFalsely : Prop := outlineChecksRow.holds Tryz.pinned (OpenSpec.ofChange outlineChecksWrong)

/-- 'garmentlaw20.OutlineTraces': WHATEVER THE INPUT: true; the input reads as it did. -/
def outlineTracesSpec : ChangeSpec := { name := "outlineTraces", fn := fun _ => fun
  | [d1, d2] => { results := [.lit (.bool true)], args := [d1, d2] }
  | _ => none }
def outlineTracesRow : OpenClaim := { program := "ytjjkgfikkihokaagreat", sum := "bc38acf59ef9a8104c0de6a74cbfc387852bf41ca27e240cea9237cf0fb78901", func := "garment/garmentlaw20.OutlineTraces", spec := "outlineTraces", unfollowed := true, recurses := true, apart := false }
def OutlineTracesSaid : Prop := outlineTracesRow.holds Tryz.pinned (OpenSpec.ofChange outlineTracesSpec)

/-- ITS FALSE NEIGHBOUR: 'it returns false'. Refute it at one input. -/
def outlineTracesWrong : ChangeSpec := { name := "outlineTraces", fn := fun _ => fun
  | [d1, d2] => { results := [.lit (.bool false)], args := [d1, d2] }
  | _ => none }
def OutlineTracesWrongFalsely : Prop := outlineTracesRow.holds Tryz.pinned (OpenSpec.ofChange outlineTracesWrong)

/-- 'garmentlaw20.OutlinePlaces': WHATEVER THE INPUT: true; the input reads as it did. -/
def outlinePlacesSpec : ChangeSpec := { name := "outlinePlaces", fn := fun _ => fun
  | [d1, d2, d3] => { results := [.lit (.bool true)], args := [d1, d2, d3] }
  | _ => none }
def outlinePlacesRow : OpenClaim := { program := "ytjjkgfikkihokaagreat", sum := "bc38acf59ef9a8104c0de6a74cbfc387852bf41ca27e240cea9237cf0fb78901", func := "garment/garmentlaw20.OutlinePlaces", spec := "outlinePlaces", unfollowed := true, recurses := true, apart := false }
def OutlinePlacesSaid : Prop := outlinePlacesRow.holds Tryz.pinned (OpenSpec.ofChange outlinePlacesSpec)

/-- ITS FALSE NEIGHBOUR: 'it returns false'. Refute it at one input. -/
def outlinePlacesWrong : ChangeSpec := { name := "outlinePlaces", fn := fun _ => fun
  | [d1, d2, d3] => { results := [.lit (.bool false)], args := [d1, d2, d3] }
  | _ => none }
def OutlinePlacesWrongFalsely : Prop := outlinePlacesRow.holds Tryz.pinned (OpenSpec.ofChange outlinePlacesWrong)

/-- 'garmentlaw20.OutlineClosed': WHATEVER THE INPUT: true; the input reads as it did. -/
def outlineClosedSpec : ChangeSpec := { name := "outlineClosed", fn := fun _ => fun
  | [d] => { results := [.lit (.bool true)], args := [d] }
  | _ => none }
def outlineClosedRow : OpenClaim := { program := "ytjjkgfikkihokaagreat", sum := "bc38acf59ef9a8104c0de6a74cbfc387852bf41ca27e240cea9237cf0fb78901", func := "garment/garmentlaw20.OutlineClosed", spec := "outlineClosed", unfollowed := true, recurses := true, apart := false }
def OutlineClosedSaid : Prop := outlineClosedRow.holds Tryz.pinned (OpenSpec.ofChange outlineClosedSpec)

/-- ITS FALSE NEIGHBOUR: 'it returns false'. Refute it at one input. -/
def outlineClosedWrong : ChangeSpec := { name := "outlineClosed", fn := fun _ => fun
  | [d] => { results := [.lit (.bool false)], args := [d] }
  | _ => none }
def OutlineClosedWrongFalsely : Prop := outlineClosedRow.holds Tryz.pinned (OpenSpec.ofChange outlineClosedWrong)

/-- 'garmentlaw20.OutlineTraced': WHATEVER THE INPUT: true; the input reads as it did. -/
def outlineTracedSpec : ChangeSpec := { name := "outlineTraced", fn := fun _ => fun
  | [d1, d2] => { results := [.lit (.bool true)], args := [d1, d2] }
  | _ => none }
def outlineTracedRow : OpenClaim := { program := "ytjjkgfikkihokaagreat", sum := "bc38acf59ef9a8104c0de6a74cbfc387852bf41ca27e240cea9237cf0fb78901", func := "garment/garmentlaw20.OutlineTraced", spec := "outlineTraced", unfollowed := true, recurses := true, apart := false }
def OutlineTracedSaid : Prop := outlineTracedRow.holds Tryz.pinned (OpenSpec.ofChange outlineTracedSpec)

/-- ITS FALSE NEIGHBOUR: 'it returns false'. Refute it at one input. -/
def outlineTracedWrong : ChangeSpec := { name := "outlineTraced", fn := fun _ => fun
  | [d1, d2] => { results := [.lit (.bool false)], args := [d1, d2] }
  | _ => none }
def OutlineTracedWrongFalsely : Prop := outlineTracedRow.holds Tryz.pinned (OpenSpec.ofChange outlineTracedWrong)

/-- 'garmentlaw20.OutlineEnds': WHATEVER THE INPUT: true; the input reads as it did. -/
def outlineEndsSpec : ChangeSpec := { name := "outlineEnds", fn := fun _ => fun
  | [d] => { results := [.lit (.bool true)], args := [d] }
  | _ => none }
def outlineEndsRow : OpenClaim := { program := "ytjjkgfikkihokaagreat", sum := "bc38acf59ef9a8104c0de6a74cbfc387852bf41ca27e240cea9237cf0fb78901", func := "garment/garmentlaw20.OutlineEnds", spec := "outlineEnds", unfollowed := true, recurses := true, apart := false }
def OutlineEndsSaid : Prop := outlineEndsRow.holds Tryz.pinned (OpenSpec.ofChange outlineEndsSpec)

/-- ITS FALSE NEIGHBOUR: 'it returns false'. Refute it at one input. -/
def outlineEndsWrong : ChangeSpec := { name := "outlineEnds", fn := fun _ => fun
  | [d] => { results := [.lit (.bool false)], args := [d] }
  | _ => none }
def OutlineEndsWrongFalsely : Prop := outlineEndsRow.holds Tryz.pinned (OpenSpec.ofChange outlineEndsWrong)

/-- 'garmentlaw20.OutlineTurnsBack': WHATEVER THE INPUT: true; the input reads as it did. -/
def outlineTurnsBackSpec : ChangeSpec := { name := "outlineTurnsBack", fn := fun _ => fun
  | [d1, d2, d3] => { results := [.lit (.bool true)], args := [d1, d2, d3] }
  | _ => none }
def outlineTurnsBackRow : OpenClaim := { program := "ytjjkgfikkihokaagreat", sum := "bc38acf59ef9a8104c0de6a74cbfc387852bf41ca27e240cea9237cf0fb78901", func := "garment/garmentlaw20.OutlineTurnsBack", spec := "outlineTurnsBack", unfollowed := true, recurses := true, apart := false }
def OutlineTurnsBackSaid : Prop := outlineTurnsBackRow.holds Tryz.pinned (OpenSpec.ofChange outlineTurnsBackSpec)

/-- ITS FALSE NEIGHBOUR: 'it returns false'. Refute it at one input. -/
def outlineTurnsBackWrong : ChangeSpec := { name := "outlineTurnsBack", fn := fun _ => fun
  | [d1, d2, d3] => { results := [.lit (.bool false)], args := [d1, d2, d3] }
  | _ => none }
def OutlineTurnsBackWrongFalsely : Prop := outlineTurnsBackRow.holds Tryz.pinned (OpenSpec.ofChange outlineTurnsBackWrong)

/-- 'garmentlaw20.OutlineTurns': WHATEVER THE INPUT: true; the input reads as it did. -/
def outlineTurnsSpec : ChangeSpec := { name := "outlineTurns", fn := fun _ => fun
  | [d1, d2] => { results := [.lit (.bool true)], args := [d1, d2] }
  | _ => none }
def outlineTurnsRow : OpenClaim := { program := "ytjjkgfikkihokaagreat", sum := "bc38acf59ef9a8104c0de6a74cbfc387852bf41ca27e240cea9237cf0fb78901", func := "garment/garmentlaw20.OutlineTurns", spec := "outlineTurns", unfollowed := true, recurses := true, apart := false }
def OutlineTurnsSaid : Prop := outlineTurnsRow.holds Tryz.pinned (OpenSpec.ofChange outlineTurnsSpec)

/-- ITS FALSE NEIGHBOUR: 'it returns false'. Refute it at one input. -/
def outlineTurnsWrong : ChangeSpec := { name := "outlineTurns", fn := fun _ => fun
  | [d1, d2] => { results := [.lit (.bool false)], args := [d1, d2] }
  | _ => none }
def OutlineTurnsWrongFalsely : Prop := outlineTurnsRow.holds Tryz.pinned (OpenSpec.ofChange outlineTurnsWrong)

/-- 'garmentlaw20.OutlineImages': WHATEVER THE INPUT: true; the input reads as it did. -/
def outlineImagesSpec : ChangeSpec := { name := "outlineImages", fn := fun _ => fun
  | [d1, d2] => { results := [.lit (.bool true)], args := [d1, d2] }
  | _ => none }
def outlineImagesRow : OpenClaim := { program := "ytjjkgfikkihokaagreat", sum := "bc38acf59ef9a8104c0de6a74cbfc387852bf41ca27e240cea9237cf0fb78901", func := "garment/garmentlaw20.OutlineImages", spec := "outlineImages", unfollowed := true, recurses := true, apart := false }
def OutlineImagesSaid : Prop := outlineImagesRow.holds Tryz.pinned (OpenSpec.ofChange outlineImagesSpec)

/-- ITS FALSE NEIGHBOUR: 'it returns false'. Refute it at one input. -/
def outlineImagesWrong : ChangeSpec := { name := "outlineImages", fn := fun _ => fun
  | [d1, d2] => { results := [.lit (.bool false)], args := [d1, d2] }
  | _ => none }
def OutlineImagesWrongFalsely : Prop := outlineImagesRow.holds Tryz.pinned (OpenSpec.ofChange outlineImagesWrong)

/-- 'garmentlaw24.AllowanceTurns': WHATEVER THE INPUT: true; the input reads as it did. -/
def allowanceTurnsSpec : ChangeSpec := { name := "allowanceTurns", fn := fun _ => fun
  | [d1, d2] => { results := [.lit (.bool true)], args := [d1, d2] }
  | _ => none }
def allowanceTurnsRow : OpenClaim := { program := "ytjjkgfikkihokaagreat", sum := "bc38acf59ef9a8104c0de6a74cbfc387852bf41ca27e240cea9237cf0fb78901", func := "garment/garmentlaw24.AllowanceTurns", spec := "allowanceTurns", inPlace := ["math.sqrt"], unfollowed := true, recurses := true, apart := false }
def AllowanceTurnsSaid : Prop := allowanceTurnsRow.holds Tryz.pinned (OpenSpec.ofChange allowanceTurnsSpec)

/-- ITS FALSE NEIGHBOUR: 'it returns false'. Refute it at one input. -/
def allowanceTurnsWrong : ChangeSpec := { name := "allowanceTurns", fn := fun _ => fun
  | [d1, d2] => { results := [.lit (.bool false)], args := [d1, d2] }
  | _ => none }
def AllowanceTurnsWrongFalsely : Prop := allowanceTurnsRow.holds Tryz.pinned (OpenSpec.ofChange allowanceTurnsWrong)

/- THE SECOND FORM. 'bulk': how many values and letters a reading holds, each counted each time it is reached (what is shared counts as often as it is met; a slice's spare places count too). A statement '..UptoSaid' is the law's where the arguments, and the package variables that the reading takes, are together of bulk at most 1048576: NARROWER than '..Said'. Prove '..Said' where nothing that the law and all that it calls make is longer than what came in: it says more and counts as full. Else prove '..UptoSaid'. A law counts once. -/
mutual
def uptoBulk {H : Type} : DataW H → Nat
  | .lit (.string bytes) => bytes.length + 1
  | .lit _ => 1
  | .nil => 1
  | .ptr d => uptoBulk d + 1
  | .slice elems spare => uptoBulkAll elems + uptoBulkAll spare + 1
  | .agg parts => uptoBulkAll parts + 1
  | .iface _ d => uptoBulk d + 1
  | .map entries => uptoBulkEntries entries + 1
  | .held _ => 1
def uptoBulkAll {H : Type} : List (DataW H) → Nat
  | [] => 0
  | d :: r => uptoBulk d + uptoBulkAll r
def uptoBulkEntries {H : Type} : List (Lit × DataW H) → Nat
  | [] => 0
  | x :: r => uptoBulkEntry x + uptoBulkEntries r
def uptoBulkEntry {H : Type} : Lit × DataW H → Nat
  | (.string bytes, d) => bytes.length + uptoBulk d + 1
  | (_, d) => uptoBulk d + 1
 end
def uptoSmall : (H : Type) → List (DataW H) → Bool := fun _ ds => decide (uptoBulkAll ds ≤ 1048576)
def OpenSpec.upto (s : _root_.Go.ChangeSpec) : _root_.Go.OpenSpec := { _root_.Go.OpenSpec.ofChange s with cond := some uptoSmall }

/-- 'garmentlaw24.AllowanceShifts', WHERE WHAT IT READS IS OF BULK AT MOST 1048576: true; the input reads as it did. -/
def allowanceShiftsUptoRow : OpenClaim := { program := "ytjjkgfikkihokaagreat", sum := "bc38acf59ef9a8104c0de6a74cbfc387852bf41ca27e240cea9237cf0fb78901", func := "garment/garmentlaw24.AllowanceShifts", spec := "allowanceShifts", inPlace := ["math.sqrt"], unfollowed := true, recurses := true, apart := false, narrowed := true }
def AllowanceShiftsUptoSaid : Prop := allowanceShiftsUptoRow.holds Tryz.pinned (OpenSpec.upto allowanceShiftsSpec)

/-- 'garmentlaw24.AllowanceResults', WHERE WHAT IT READS IS OF BULK AT MOST 1048576: true; the input reads as it did. -/
def allowanceResultsUptoRow : OpenClaim := { program := "ytjjkgfikkihokaagreat", sum := "bc38acf59ef9a8104c0de6a74cbfc387852bf41ca27e240cea9237cf0fb78901", func := "garment/garmentlaw24.AllowanceResults", spec := "allowanceResults", inPlace := ["math.sqrt"], unfollowed := true, recurses := true, apart := false, narrowed := true }
def AllowanceResultsUptoSaid : Prop := allowanceResultsUptoRow.holds Tryz.pinned (OpenSpec.upto allowanceResultsSpec)

/-- 'garmentlaw20.OutlineChecks', WHERE WHAT IT READS IS OF BULK AT MOST 1048576: true; the input reads as it did. -/
def outlineChecksUptoRow : OpenClaim := { program := "ytjjkgfikkihokaagreat", sum := "bc38acf59ef9a8104c0de6a74cbfc387852bf41ca27e240cea9237cf0fb78901", func := "garment/garmentlaw20.OutlineChecks", spec := "outlineChecks", unfollowed := true, recurses := true, apart := false, narrowed := true }
def OutlineChecksUptoSaid : Prop := outlineChecksUptoRow.holds Tryz.pinned (OpenSpec.upto outlineChecksSpec)

/-- 'garmentlaw20.OutlineTraces', WHERE WHAT IT READS IS OF BULK AT MOST 1048576: true; the input reads as it did. -/
def outlineTracesUptoRow : OpenClaim := { program := "ytjjkgfikkihokaagreat", sum := "bc38acf59ef9a8104c0de6a74cbfc387852bf41ca27e240cea9237cf0fb78901", func := "garment/garmentlaw20.OutlineTraces", spec := "outlineTraces", unfollowed := true, recurses := true, apart := false, narrowed := true }
def OutlineTracesUptoSaid : Prop := outlineTracesUptoRow.holds Tryz.pinned (OpenSpec.upto outlineTracesSpec)

/-- 'garmentlaw20.OutlinePlaces', WHERE WHAT IT READS IS OF BULK AT MOST 1048576: true; the input reads as it did. -/
def outlinePlacesUptoRow : OpenClaim := { program := "ytjjkgfikkihokaagreat", sum := "bc38acf59ef9a8104c0de6a74cbfc387852bf41ca27e240cea9237cf0fb78901", func := "garment/garmentlaw20.OutlinePlaces", spec := "outlinePlaces", unfollowed := true, recurses := true, apart := false, narrowed := true }
def OutlinePlacesUptoSaid : Prop := outlinePlacesUptoRow.holds Tryz.pinned (OpenSpec.upto outlinePlacesSpec)

/-- 'garmentlaw20.OutlineClosed', WHERE WHAT IT READS IS OF BULK AT MOST 1048576: true; the input reads as it did. -/
def outlineClosedUptoRow : OpenClaim := { program := "ytjjkgfikkihokaagreat", sum := "bc38acf59ef9a8104c0de6a74cbfc387852bf41ca27e240cea9237cf0fb78901", func := "garment/garmentlaw20.OutlineClosed", spec := "outlineClosed", unfollowed := true, recurses := true, apart := false, narrowed := true }
def OutlineClosedUptoSaid : Prop := outlineClosedUptoRow.holds Tryz.pinned (OpenSpec.upto outlineClosedSpec)

/-- 'garmentlaw20.OutlineTraced', WHERE WHAT IT READS IS OF BULK AT MOST 1048576: true; the input reads as it did. -/
def outlineTracedUptoRow : OpenClaim := { program := "ytjjkgfikkihokaagreat", sum := "bc38acf59ef9a8104c0de6a74cbfc387852bf41ca27e240cea9237cf0fb78901", func := "garment/garmentlaw20.OutlineTraced", spec := "outlineTraced", unfollowed := true, recurses := true, apart := false, narrowed := true }
def OutlineTracedUptoSaid : Prop := outlineTracedUptoRow.holds Tryz.pinned (OpenSpec.upto outlineTracedSpec)

/-- 'garmentlaw20.OutlineEnds', WHERE WHAT IT READS IS OF BULK AT MOST 1048576: true; the input reads as it did. -/
def outlineEndsUptoRow : OpenClaim := { program := "ytjjkgfikkihokaagreat", sum := "bc38acf59ef9a8104c0de6a74cbfc387852bf41ca27e240cea9237cf0fb78901", func := "garment/garmentlaw20.OutlineEnds", spec := "outlineEnds", unfollowed := true, recurses := true, apart := false, narrowed := true }
def OutlineEndsUptoSaid : Prop := outlineEndsUptoRow.holds Tryz.pinned (OpenSpec.upto outlineEndsSpec)

/-- 'garmentlaw20.OutlineTurnsBack', WHERE WHAT IT READS IS OF BULK AT MOST 1048576: true; the input reads as it did. -/
def outlineTurnsBackUptoRow : OpenClaim := { program := "ytjjkgfikkihokaagreat", sum := "bc38acf59ef9a8104c0de6a74cbfc387852bf41ca27e240cea9237cf0fb78901", func := "garment/garmentlaw20.OutlineTurnsBack", spec := "outlineTurnsBack", unfollowed := true, recurses := true, apart := false, narrowed := true }
def OutlineTurnsBackUptoSaid : Prop := outlineTurnsBackUptoRow.holds Tryz.pinned (OpenSpec.upto outlineTurnsBackSpec)

/-- 'garmentlaw20.OutlineTurns', WHERE WHAT IT READS IS OF BULK AT MOST 1048576: true; the input reads as it did. -/
def outlineTurnsUptoRow : OpenClaim := { program := "ytjjkgfikkihokaagreat", sum := "bc38acf59ef9a8104c0de6a74cbfc387852bf41ca27e240cea9237cf0fb78901", func := "garment/garmentlaw20.OutlineTurns", spec := "outlineTurns", unfollowed := true, recurses := true, apart := false, narrowed := true }
def OutlineTurnsUptoSaid : Prop := outlineTurnsUptoRow.holds Tryz.pinned (OpenSpec.upto outlineTurnsSpec)

/-- 'garmentlaw20.OutlineImages', WHERE WHAT IT READS IS OF BULK AT MOST 1048576: true; the input reads as it did. -/
def outlineImagesUptoRow : OpenClaim := { program := "ytjjkgfikkihokaagreat", sum := "bc38acf59ef9a8104c0de6a74cbfc387852bf41ca27e240cea9237cf0fb78901", func := "garment/garmentlaw20.OutlineImages", spec := "outlineImages", unfollowed := true, recurses := true, apart := false, narrowed := true }
def OutlineImagesUptoSaid : Prop := outlineImagesUptoRow.holds Tryz.pinned (OpenSpec.upto outlineImagesSpec)

/-- 'garmentlaw24.AllowanceTurns', WHERE WHAT IT READS IS OF BULK AT MOST 1048576: true; the input reads as it did. -/
def allowanceTurnsUptoRow : OpenClaim := { program := "ytjjkgfikkihokaagreat", sum := "bc38acf59ef9a8104c0de6a74cbfc387852bf41ca27e240cea9237cf0fb78901", func := "garment/garmentlaw24.AllowanceTurns", spec := "allowanceTurns", inPlace := ["math.sqrt"], unfollowed := true, recurses := true, apart := false, narrowed := true }
def AllowanceTurnsUptoSaid : Prop := allowanceTurnsUptoRow.holds Tryz.pinned (OpenSpec.upto allowanceTurnsSpec)

end Rows
end Go.Proofs.YtjjkgfikkihokaaGreat
