/-
  No cell of these rows narrows 'for every input' (looked for: loops, veiled, ifaces, maps, wideKeys, modest, calm, conditions, laid).
  DERIVED. THE GIVEN ROWS OF THIS SEAT. 9 by the template 'for every input the law returns true; each argument reads behind the call as it read before'; 0 by the template 'total and deterministic' (their statements: YtakaifogljbgoaaGreatTotals.lean).
  GIVEN WITH THE SEED: the statements are not yours to turn. If you find one false, say at which input.
  Laid BY PROGRAM, IN A SANDBOX (cutbox-rows.mjs): the forced cells as the released guide's own fill.sh prints them over the translation 8a7cd401b6780068… (all of the seat's roots in one cut). By AI agents, Wed Nov 11 2026. No macro, syntax, notation, axiom, sorry.
-/
import Derived.Test.YtakaifogljbgoaaGreatChecked
import GoSem.Claim
import GoSem.ClaimJoined
import GoSem.ClaimMapViews
import Derived.JoinedTies
import Derived.KernelRfl
namespace Go.Proofs.YtakaifogljbgoaaGreat
/- THE CELL 'sum', in the pinned program and in every row, IS THE sha256 OF THE DUMP (.gsa) THAT YtakaifogljbgoaaGreatProg.lean LOADS. Nothing in Lean hashes anything: it is a label: what it is worth is what the hold of that sum in a sandbox is worth. -/
noncomputable def Tryz.pinned : Pinned := { name := "ytakaifogljbgoaagreat", sum := "8a7cd401b67800689959bdd361e790f0b759ab726d0b2dd3d5760d73c8725674", checked := Tryz.checked }
namespace Rows
def none {H : Type} : Left H := { results := [], args := [] }

/-- 'garmentlaw24.AllowanceTurns': WHATEVER THE INPUT: true; the input reads as it did. -/
def allowanceTurnsSpec : ChangeSpec := { name := "allowanceTurns", fn := fun _ => fun
  | [d1, d2] => { results := [.lit (.bool true)], args := [d1, d2] }
  | _ => none }
def allowanceTurnsRow : OpenClaim := { program := "ytakaifogljbgoaagreat", sum := "8a7cd401b67800689959bdd361e790f0b759ab726d0b2dd3d5760d73c8725674", func := "garment/garmentlaw24.AllowanceTurns", spec := "allowanceTurns", inPlace := ["math.sqrt"], unfollowed := true, recurses := true, apart := false }
def AllowanceTurnsSaid : Prop := allowanceTurnsRow.holds Tryz.pinned (OpenSpec.ofChange allowanceTurnsSpec)

/-- ITS FALSE NEIGHBOUR: 'it returns false'. Refute it at one input. -/
def allowanceTurnsWrong : ChangeSpec := { name := "allowanceTurns", fn := fun _ => fun
  | [d1, d2] => { results := [.lit (.bool false)], args := [d1, d2] }
  | _ => none }
def AllowanceTurnsWrongFalsely : Prop := allowanceTurnsRow.holds Tryz.pinned (OpenSpec.ofChange allowanceTurnsWrong)

/-- 'garmentlaw25.StyleCuts': WHATEVER THE INPUT: true; the input reads as it did. -/
def styleCutsSpec : ChangeSpec := { name := "styleCuts", fn := fun _ => fun
  | [d1, d2, d3] => { results := [.lit (.bool true)], args := [d1, d2, d3] }
  | _ => none }
def styleCutsRow : OpenClaim := { program := "ytakaifogljbgoaagreat", sum := "8a7cd401b67800689959bdd361e790f0b759ab726d0b2dd3d5760d73c8725674", func := "garment/garmentlaw25.StyleCuts", spec := "styleCuts", inPlace := ["math.sqrt"], unfollowed := true, recurses := true, named := ["math/bits.divideError", "math/bits.overflowError"], apart := false }
def StyleCutsSaid : Prop := styleCutsRow.holds Tryz.pinned (OpenSpec.ofChange styleCutsSpec)

/-- ITS FALSE NEIGHBOUR: 'it returns false'. Refute it at one input. -/
def styleCutsWrong : ChangeSpec := { name := "styleCuts", fn := fun _ => fun
  | [d1, d2, d3] => { results := [.lit (.bool false)], args := [d1, d2, d3] }
  | _ => none }
def StyleCutsWrongFalsely : Prop := styleCutsRow.holds Tryz.pinned (OpenSpec.ofChange styleCutsWrong)

/-- 'garmentlaw26.VerifyIssues': WHATEVER THE INPUT: true; the input reads as it did. -/
def verifyIssuesSpec : ChangeSpec := { name := "verifyIssues", fn := fun _ => fun
  | [d] => { results := [.lit (.bool true)], args := [d] }
  | _ => none }
def verifyIssuesRow : OpenClaim := { program := "ytakaifogljbgoaagreat", sum := "8a7cd401b67800689959bdd361e790f0b759ab726d0b2dd3d5760d73c8725674", func := "garment/garmentlaw26.VerifyIssues", spec := "verifyIssues", inPlace := ["math.sqrt"], unfollowed := true, recurses := true, named := ["math/bits.divideError", "math/bits.overflowError"], apart := false }
def VerifyIssuesSaid : Prop := verifyIssuesRow.holds Tryz.pinned (OpenSpec.ofChange verifyIssuesSpec)

/-- ITS FALSE NEIGHBOUR: 'it returns false'. Refute it at one input. -/
def verifyIssuesWrong : ChangeSpec := { name := "verifyIssues", fn := fun _ => fun
  | [d] => { results := [.lit (.bool false)], args := [d] }
  | _ => none }
def VerifyIssuesWrongFalsely : Prop := verifyIssuesRow.holds Tryz.pinned (OpenSpec.ofChange verifyIssuesWrong)

/-- 'garmentlaw26.VerifyExact': WHATEVER THE INPUT: true; the input reads as it did. -/
def verifyExactSpec : ChangeSpec := { name := "verifyExact", fn := fun _ => fun
  | [d] => { results := [.lit (.bool true)], args := [d] }
  | _ => none }
def verifyExactRow : OpenClaim := { program := "ytakaifogljbgoaagreat", sum := "8a7cd401b67800689959bdd361e790f0b759ab726d0b2dd3d5760d73c8725674", func := "garment/garmentlaw26.VerifyExact", spec := "verifyExact", inPlace := ["math.sqrt"], unfollowed := true, recurses := true, named := ["math/bits.divideError", "math/bits.overflowError"], apart := false }
def VerifyExactSaid : Prop := verifyExactRow.holds Tryz.pinned (OpenSpec.ofChange verifyExactSpec)

/-- ITS FALSE NEIGHBOUR: 'it returns false'. Refute it at one input. -/
def verifyExactWrong : ChangeSpec := { name := "verifyExact", fn := fun _ => fun
  | [d] => { results := [.lit (.bool false)], args := [d] }
  | _ => none }
def VerifyExactWrongFalsely : Prop := verifyExactRow.holds Tryz.pinned (OpenSpec.ofChange verifyExactWrong)

/-- 'garmentlaw26.VerifySorted': WHATEVER THE INPUT: true; the input reads as it did. -/
def verifySortedSpec : ChangeSpec := { name := "verifySorted", fn := fun _ => fun
  | [d] => { results := [.lit (.bool true)], args := [d] }
  | _ => none }
def verifySortedRow : OpenClaim := { program := "ytakaifogljbgoaagreat", sum := "8a7cd401b67800689959bdd361e790f0b759ab726d0b2dd3d5760d73c8725674", func := "garment/garmentlaw26.VerifySorted", spec := "verifySorted", inPlace := ["math.sqrt"], unfollowed := true, recurses := true, named := ["math/bits.divideError", "math/bits.overflowError"], apart := false }
def VerifySortedSaid : Prop := verifySortedRow.holds Tryz.pinned (OpenSpec.ofChange verifySortedSpec)

/-- ITS FALSE NEIGHBOUR: 'it returns false'. Refute it at one input. -/
def verifySortedWrong : ChangeSpec := { name := "verifySorted", fn := fun _ => fun
  | [d] => { results := [.lit (.bool false)], args := [d] }
  | _ => none }
def VerifySortedWrongFalsely : Prop := verifySortedRow.holds Tryz.pinned (OpenSpec.ofChange verifySortedWrong)

/-- 'garmentlaw26.VerifySizes': WHATEVER THE INPUT: true; the input reads as it did. -/
def verifySizesSpec : ChangeSpec := { name := "verifySizes", fn := fun _ => fun
  | [d] => { results := [.lit (.bool true)], args := [d] }
  | _ => none }
def verifySizesRow : OpenClaim := { program := "ytakaifogljbgoaagreat", sum := "8a7cd401b67800689959bdd361e790f0b759ab726d0b2dd3d5760d73c8725674", func := "garment/garmentlaw26.VerifySizes", spec := "verifySizes", inPlace := ["math.sqrt"], unfollowed := true, recurses := true, named := ["math/bits.divideError", "math/bits.overflowError"], apart := false }
def VerifySizesSaid : Prop := verifySizesRow.holds Tryz.pinned (OpenSpec.ofChange verifySizesSpec)

/-- ITS FALSE NEIGHBOUR: 'it returns false'. Refute it at one input. -/
def verifySizesWrong : ChangeSpec := { name := "verifySizes", fn := fun _ => fun
  | [d] => { results := [.lit (.bool false)], args := [d] }
  | _ => none }
def VerifySizesWrongFalsely : Prop := verifySizesRow.holds Tryz.pinned (OpenSpec.ofChange verifySizesWrong)

/-- 'garmentlaw26.VerifySelf': WHATEVER THE INPUT: true; the input reads as it did. -/
def verifySelfSpec : ChangeSpec := { name := "verifySelf", fn := fun _ => fun
  | [d1, d2, d3] => { results := [.lit (.bool true)], args := [d1, d2, d3] }
  | _ => none }
def verifySelfRow : OpenClaim := { program := "ytakaifogljbgoaagreat", sum := "8a7cd401b67800689959bdd361e790f0b759ab726d0b2dd3d5760d73c8725674", func := "garment/garmentlaw26.VerifySelf", spec := "verifySelf", inPlace := ["math.sqrt"], unfollowed := true, recurses := true, named := ["math/bits.divideError", "math/bits.overflowError"], apart := false }
def VerifySelfSaid : Prop := verifySelfRow.holds Tryz.pinned (OpenSpec.ofChange verifySelfSpec)

/-- ITS FALSE NEIGHBOUR: 'it returns false'. Refute it at one input. -/
def verifySelfWrong : ChangeSpec := { name := "verifySelf", fn := fun _ => fun
  | [d1, d2, d3] => { results := [.lit (.bool false)], args := [d1, d2, d3] }
  | _ => none }
def VerifySelfWrongFalsely : Prop := verifySelfRow.holds Tryz.pinned (OpenSpec.ofChange verifySelfWrong)

/-- 'garmentlaw26.VerifyClean': WHATEVER THE INPUT: true; the input reads as it did. -/
def verifyCleanSpec : ChangeSpec := { name := "verifyClean", fn := fun _ => fun
  | [d] => { results := [.lit (.bool true)], args := [d] }
  | _ => none }
def verifyCleanRow : OpenClaim := { program := "ytakaifogljbgoaagreat", sum := "8a7cd401b67800689959bdd361e790f0b759ab726d0b2dd3d5760d73c8725674", func := "garment/garmentlaw26.VerifyClean", spec := "verifyClean", inPlace := ["math.sqrt"], unfollowed := true, recurses := true, named := ["math/bits.divideError", "math/bits.overflowError"], apart := false }
def VerifyCleanSaid : Prop := verifyCleanRow.holds Tryz.pinned (OpenSpec.ofChange verifyCleanSpec)

/-- ITS FALSE NEIGHBOUR: 'it returns false'. Refute it at one input. -/
def verifyCleanWrong : ChangeSpec := { name := "verifyClean", fn := fun _ => fun
  | [d] => { results := [.lit (.bool false)], args := [d] }
  | _ => none }
def VerifyCleanWrongFalsely : Prop := verifyCleanRow.holds Tryz.pinned (OpenSpec.ofChange verifyCleanWrong)

/-- 'garmentlaw26.VerifyTurned': WHATEVER THE INPUT: true; the input reads as it did. -/
def verifyTurnedSpec : ChangeSpec := { name := "verifyTurned", fn := fun _ => fun
  | [d1, d2] => { results := [.lit (.bool true)], args := [d1, d2] }
  | _ => none }
def verifyTurnedRow : OpenClaim := { program := "ytakaifogljbgoaagreat", sum := "8a7cd401b67800689959bdd361e790f0b759ab726d0b2dd3d5760d73c8725674", func := "garment/garmentlaw26.VerifyTurned", spec := "verifyTurned", inPlace := ["math.sqrt"], unfollowed := true, recurses := true, named := ["math/bits.divideError", "math/bits.overflowError"], apart := false }
def VerifyTurnedSaid : Prop := verifyTurnedRow.holds Tryz.pinned (OpenSpec.ofChange verifyTurnedSpec)

/-- ITS FALSE NEIGHBOUR: 'it returns false'. Refute it at one input. -/
def verifyTurnedWrong : ChangeSpec := { name := "verifyTurned", fn := fun _ => fun
  | [d1, d2] => { results := [.lit (.bool false)], args := [d1, d2] }
  | _ => none }
def VerifyTurnedWrongFalsely : Prop := verifyTurnedRow.holds Tryz.pinned (OpenSpec.ofChange verifyTurnedWrong)

/- THE SECOND FORM. 'bulk': how many values and letters a reading holds, each counted each time it is reached (what is shared counts as often as it is met; a slice's spare places count too). A statement '..UptoSaid' is the law's where the arguments, and the package variables that the reading takes, are together of bulk at most 1048576: NARROWER than '..Said'. Prove '..Said' where nothing that the law and all that it calls make is longer than what came in: it says more and counts as full. Else prove '..UptoSaid'. A law counts once. -/
mutual
def uptoBulk {H : Type} : DataW H → Nat
  | .lit (.string bytes) => bytes.length + 1
  | .lit _ => 1
  | .nil => 1
  | .ptr d => uptoBulk d + 1
  | .slice elems spare => uptoBulkAll elems + uptoBulkAll spare + 1
  | .agg parts => uptoBulkAll parts + 1
  | .iface _ d => uptoBulk d + 1
  | .map entries => uptoBulkEntries entries + 1
  | .held _ => 1
def uptoBulkAll {H : Type} : List (DataW H) → Nat
  | [] => 0
  | d :: r => uptoBulk d + uptoBulkAll r
def uptoBulkEntries {H : Type} : List (Lit × DataW H) → Nat
  | [] => 0
  | x :: r => uptoBulkEntry x + uptoBulkEntries r
def uptoBulkEntry {H : Type} : Lit × DataW H → Nat
  | (.string bytes, d) => bytes.length + uptoBulk d + 1
  | (_, d) => uptoBulk d + 1
 end
def uptoSmall : (H : Type) → List (DataW H) → Bool := fun _ ds => decide (uptoBulkAll ds ≤ 1048576)
def OpenSpec.upto (s : _root_.Go.ChangeSpec) : _root_.Go.OpenSpec := { _root_.Go.OpenSpec.ofChange s with cond := some uptoSmall }

/-- 'garmentlaw24.AllowanceTurns', WHERE WHAT IT READS IS OF BULK AT MOST 1048576: true; the input reads as it did. -/
def allowanceTurnsUptoRow : OpenClaim := { program := "ytakaifogljbgoaagreat", sum := "8a7cd401b67800689959bdd361e790f0b759ab726d0b2dd3d5760d73c8725674", func := "garment/garmentlaw24.AllowanceTurns", spec := "allowanceTurns", inPlace := ["math.sqrt"], unfollowed := true, recurses := true, apart := false, narrowed := true }
def AllowanceTurnsUptoSaid : Prop := allowanceTurnsUptoRow.holds Tryz.pinned (OpenSpec.upto allowanceTurnsSpec)

/-- 'garmentlaw25.StyleCuts', WHERE WHAT IT READS IS OF BULK AT MOST 1048576: true; the input reads as it did. -/
def styleCutsUptoRow : OpenClaim := { program := "ytakaifogljbgoaagreat", sum := "8a7cd401b67800689959bdd361e790f0b759ab726d0b2dd3d5760d73c8725674", func := "garment/garmentlaw25.StyleCuts", spec := "styleCuts", inPlace := ["math.sqrt"], unfollowed := true, recurses := true, named := ["math/bits.divideError", "math/bits.overflowError"], apart := false, narrowed := true }
def StyleCutsUptoSaid : Prop := styleCutsUptoRow.holds Tryz.pinned (OpenSpec.upto styleCutsSpec)

/-- 'garmentlaw26.VerifyIssues', WHERE WHAT IT READS IS OF BULK AT MOST 1048576: true; the input reads as it did. -/
def verifyIssuesUptoRow : OpenClaim := { program := "ytakaifogljbgoaagreat", sum := "8a7cd401b67800689959bdd361e790f0b759ab726d0b2dd3d5760d73c8725674", func := "garment/garmentlaw26.VerifyIssues", spec := "verifyIssues", inPlace := ["math.sqrt"], unfollowed := true, recurses := true, named := ["math/bits.divideError", "math/bits.overflowError"], apart := false, narrowed := true }
def VerifyIssuesUptoSaid : Prop := verifyIssuesUptoRow.holds Tryz.pinned (OpenSpec.upto verifyIssuesSpec)

/-- 'garmentlaw26.VerifyExact', WHERE WHAT IT READS IS OF BULK AT MOST 1048576: true; the input reads as it did. -/
def verifyExactUptoRow : OpenClaim := { program := "ytakaifogljbgoaagreat", sum := "8a7cd401b67800689959bdd361e790f0b759ab726d0b2dd3d5760d73c8725674", func := "garment/garmentlaw26.VerifyExact", spec := "verifyExact", inPlace := ["math.sqrt"], unfollowed := true, recurses := true, named := ["math/bits.divideError", "math/bits.overflowError"], apart := false, narrowed := true }
def VerifyExactUptoSaid : Prop := verifyExactUptoRow.holds Tryz.pinned (OpenSpec.upto verifyExactSpec)

/-- 'garmentlaw26.VerifySorted', WHERE WHAT IT READS IS OF BULK AT MOST 1048576: true; the input reads as it did. -/
def verifySortedUptoRow : OpenClaim := { program := "ytakaifogljbgoaagreat", sum := "8a7cd401b67800689959bdd361e790f0b759ab726d0b2dd3d5760d73c8725674", func := "garment/garmentlaw26.VerifySorted", spec := "verifySorted", inPlace := ["math.sqrt"], unfollowed := true, recurses := true, named := ["math/bits.divideError", "math/bits.overflowError"], apart := false, narrowed := true }
def VerifySortedUptoSaid : Prop := verifySortedUptoRow.holds Tryz.pinned (OpenSpec.upto verifySortedSpec)

/-- 'garmentlaw26.VerifySizes', WHERE WHAT IT READS IS OF BULK AT MOST 1048576: true; the input reads as it did. -/
def verifySizesUptoRow : OpenClaim := { program := "ytakaifogljbgoaagreat", sum := "8a7cd401b67800689959bdd361e790f0b759ab726d0b2dd3d5760d73c8725674", func := "garment/garmentlaw26.VerifySizes", spec := "verifySizes", inPlace := ["math.sqrt"], unfollowed := true, recurses := true, named := ["math/bits.divideError", "math/bits.overflowError"], apart := false, narrowed := true }
def VerifySizesUptoSaid : Prop := verifySizesUptoRow.holds Tryz.pinned (OpenSpec.upto verifySizesSpec)

/-- 'garmentlaw26.VerifySelf', WHERE WHAT IT READS IS OF BULK AT MOST 1048576: true; the input reads as it did. -/
def verifySelfUptoRow : OpenClaim := { program := "ytakaifogljbgoaagreat", sum := "8a7cd401b67800689959bdd361e790f0b759ab726d0b2dd3d5760d73c8725674", func := "garment/garmentlaw26.VerifySelf", spec := "verifySelf", inPlace := ["math.sqrt"], unfollowed := true, recurses := true, named := ["math/bits.divideError", "math/bits.overflowError"], apart := false, narrowed := true }
def VerifySelfUptoSaid : Prop := verifySelfUptoRow.holds Tryz.pinned (OpenSpec.upto verifySelfSpec)

/-- 'garmentlaw26.VerifyClean', WHERE WHAT IT READS IS OF BULK AT MOST 1048576: true; the input reads as it did. -/
def verifyCleanUptoRow : OpenClaim := { program := "ytakaifogljbgoaagreat", sum := "8a7cd401b67800689959bdd361e790f0b759ab726d0b2dd3d5760d73c8725674", func := "garment/garmentlaw26.VerifyClean", spec := "verifyClean", inPlace := ["math.sqrt"], unfollowed := true, recurses := true, named := ["math/bits.divideError", "math/bits.overflowError"], apart := false, narrowed := true }
def VerifyCleanUptoSaid : Prop := verifyCleanUptoRow.holds Tryz.pinned (OpenSpec.upto verifyCleanSpec)

/-- 'garmentlaw26.VerifyTurned', WHERE WHAT IT READS IS OF BULK AT MOST 1048576: true; the input reads as it did. -/
def verifyTurnedUptoRow : OpenClaim := { program := "ytakaifogljbgoaagreat", sum := "8a7cd401b67800689959bdd361e790f0b759ab726d0b2dd3d5760d73c8725674", func := "garment/garmentlaw26.VerifyTurned", spec := "verifyTurned", inPlace := ["math.sqrt"], unfollowed := true, recurses := true, named := ["math/bits.divideError", "math/bits.overflowError"], apart := false, narrowed := true }
def VerifyTurnedUptoSaid : Prop := verifyTurnedUptoRow.holds Tryz.pinned (OpenSpec.upto verifyTurnedSpec)

end Rows
end Go.Proofs.YtakaifogljbgoaaGreat
