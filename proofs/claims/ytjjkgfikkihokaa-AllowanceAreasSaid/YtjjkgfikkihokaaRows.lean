/-
  No cell of these rows narrows 'for every input' (looked for: loops, veiled, ifaces, maps, wideKeys, modest, calm, conditions, laid).
  DERIVED. THE GIVEN ROWS OF THIS SEAT. 5 by the template 'for every input the law returns true; each argument reads behind the call as it read before'; 0 by the template 'total and deterministic' (their statements: YtjjkgfikkihokaaTotals.lean).
  GIVEN WITH THE SEED: the statements are not yours to turn. If you find one false, say at which input.
  Laid BY PROGRAM, IN A SANDBOX (cutbox-rows.mjs): the forced cells as the released guide's own fill.sh prints them over the translation 298bf9b6531d08dc… (all of the seat's roots in one cut). By AI agents, Wed Nov 11 2026. No macro, syntax, notation, axiom, sorry.
-/
import Derived.Test.YtjjkgfikkihokaaChecked
import GoSem.Claim
import GoSem.ClaimJoined
import GoSem.ClaimMapViews
import Derived.JoinedTies
import Derived.KernelRfl
namespace Go.Proofs.Ytjjkgfikkihokaa
/- THE CELL 'sum', in the pinned program and in every row, IS THE sha256 OF THE DUMP (.gsa) THAT YtjjkgfikkihokaaProg.lean LOADS. Nothing in Lean hashes anything: it is a label: what it is worth is what the hold of that sum in a sandbox is worth. -/
noncomputable def Try.pinned : Pinned := { name := "ytjjkgfikkihokaa", sum := "298bf9b6531d08dc4dfa23618ff8e065f2b278fbb61fc45da12a4764609c928e", checked := Try.checked }
namespace Rows
def none {H : Type} : Left H := { results := [], args := [] }

/-- 'garmentlaw24.AllowanceZero': WHATEVER THE INPUT: true; the input reads as it did. -/
def allowanceZeroSpec : ChangeSpec := { name := "allowanceZero", fn := fun _ => fun
  | [d] => { results := [.lit (.bool true)], args := [d] }
  | _ => none }
def allowanceZeroRow : OpenClaim := { program := "ytjjkgfikkihokaa", sum := "298bf9b6531d08dc4dfa23618ff8e065f2b278fbb61fc45da12a4764609c928e", func := "garment/garmentlaw24.AllowanceZero", spec := "allowanceZero", inPlace := ["math.sqrt"], unfollowed := true, recurses := true, apart := false }
def AllowanceZeroSaid : Prop := allowanceZeroRow.holds Try.pinned (OpenSpec.ofChange allowanceZeroSpec)

/-- ITS FALSE NEIGHBOUR: 'it returns false'. Refute it at one input. -/
def allowanceZeroWrong : ChangeSpec := { name := "allowanceZero", fn := fun _ => fun
  | [d] => { results := [.lit (.bool false)], args := [d] }
  | _ => none }
def AllowanceZeroWrongFalsely : Prop := allowanceZeroRow.holds Try.pinned (OpenSpec.ofChange allowanceZeroWrong)

/-- 'garmentlaw24.AllowanceOutwards': WHATEVER THE INPUT: true; the input reads as it did. -/
def allowanceOutwardsSpec : ChangeSpec := { name := "allowanceOutwards", fn := fun _ => fun
  | [d1, d2] => { results := [.lit (.bool true)], args := [d1, d2] }
  | _ => none }
def allowanceOutwardsRow : OpenClaim := { program := "ytjjkgfikkihokaa", sum := "298bf9b6531d08dc4dfa23618ff8e065f2b278fbb61fc45da12a4764609c928e", func := "garment/garmentlaw24.AllowanceOutwards", spec := "allowanceOutwards", inPlace := ["math.sqrt"], unfollowed := true, recurses := true, apart := false }
def AllowanceOutwardsSaid : Prop := allowanceOutwardsRow.holds Try.pinned (OpenSpec.ofChange allowanceOutwardsSpec)

/-- ITS FALSE NEIGHBOUR: 'it returns false'. Refute it at one input. -/
def allowanceOutwardsWrong : ChangeSpec := { name := "allowanceOutwards", fn := fun _ => fun
  | [d1, d2] => { results := [.lit (.bool false)], args := [d1, d2] }
  | _ => none }
def AllowanceOutwardsWrongFalsely : Prop := allowanceOutwardsRow.holds Try.pinned (OpenSpec.ofChange allowanceOutwardsWrong)

/-- 'garmentlaw24.AllowanceRects': WHATEVER THE INPUT: true; the input reads as it did. -/
def allowanceRectsSpec : ChangeSpec := { name := "allowanceRects", fn := fun _ => fun
  | [d1, d2] => { results := [.lit (.bool true)], args := [d1, d2] }
  | _ => none }
def allowanceRectsRow : OpenClaim := { program := "ytjjkgfikkihokaa", sum := "298bf9b6531d08dc4dfa23618ff8e065f2b278fbb61fc45da12a4764609c928e", func := "garment/garmentlaw24.AllowanceRects", spec := "allowanceRects", inPlace := ["math.sqrt"], unfollowed := true, recurses := true, apart := false }
def AllowanceRectsSaid : Prop := allowanceRectsRow.holds Try.pinned (OpenSpec.ofChange allowanceRectsSpec)

/-- ITS FALSE NEIGHBOUR: 'it returns false'. Refute it at one input. -/
def allowanceRectsWrong : ChangeSpec := { name := "allowanceRects", fn := fun _ => fun
  | [d1, d2] => { results := [.lit (.bool false)], args := [d1, d2] }
  | _ => none }
def AllowanceRectsWrongFalsely : Prop := allowanceRectsRow.holds Try.pinned (OpenSpec.ofChange allowanceRectsWrong)

/-- 'garmentlaw24.AllowanceAreas': WHATEVER THE INPUT: true; the input reads as it did. -/
def allowanceAreasSpec : ChangeSpec := { name := "allowanceAreas", fn := fun _ => fun
  | [d1, d2] => { results := [.lit (.bool true)], args := [d1, d2] }
  | _ => none }
def allowanceAreasRow : OpenClaim := { program := "ytjjkgfikkihokaa", sum := "298bf9b6531d08dc4dfa23618ff8e065f2b278fbb61fc45da12a4764609c928e", func := "garment/garmentlaw24.AllowanceAreas", spec := "allowanceAreas", inPlace := ["math.sqrt"], unfollowed := true, recurses := true, apart := false }
def AllowanceAreasSaid : Prop := allowanceAreasRow.holds Try.pinned (OpenSpec.ofChange allowanceAreasSpec)

/-- ITS FALSE NEIGHBOUR: 'it returns false'. Refute it at one input. -/
def allowanceAreasWrong : ChangeSpec := { name := "allowanceAreas", fn := fun _ => fun
  | [d1, d2] => { results := [.lit (.bool false)], args := [d1, d2] }
  | _ => none }
def AllowanceAreasWrongFalsely : Prop := allowanceAreasRow.holds Try.pinned (OpenSpec.ofChange allowanceAreasWrong)

/-- 'garmentlaw24.AllowanceMoves': WHATEVER THE INPUT: true; the input reads as it did. -/
def allowanceMovesSpec : ChangeSpec := { name := "allowanceMoves", fn := fun _ => fun
  | [d1, d2, d3] => { results := [.lit (.bool true)], args := [d1, d2, d3] }
  | _ => none }
def allowanceMovesRow : OpenClaim := { program := "ytjjkgfikkihokaa", sum := "298bf9b6531d08dc4dfa23618ff8e065f2b278fbb61fc45da12a4764609c928e", func := "garment/garmentlaw24.AllowanceMoves", spec := "allowanceMoves", inPlace := ["math.sqrt"], unfollowed := true, recurses := true, apart := false }
def AllowanceMovesSaid : Prop := allowanceMovesRow.holds Try.pinned (OpenSpec.ofChange allowanceMovesSpec)

/-- ITS FALSE NEIGHBOUR: 'it returns false'. Refute it at one input. -/
def allowanceMovesWrong : ChangeSpec := { name := "allowanceMoves", fn := fun _ => fun
  | [d1, d2, d3] => { results := [.lit (.bool false)], args := [d1, d2, d3] }
  | _ => none }
def AllowanceMovesWrongFalsely : Prop := allowanceMovesRow.holds Try.pinned (OpenSpec.ofChange allowanceMovesWrong)

/- THE SECOND FORM. 'bulk': how many values and letters a reading holds, each counted each time it is reached (what is shared counts as often as it is met; a slice's spare places count too). A statement '..UptoSaid' is the law's where the arguments, and the package variables that the reading takes, are together of bulk at most 1048576: NARROWER than '..Said'. Prove '..Said' where nothing that the law and all that it calls make is longer than what came in: it says more and counts as full. Else prove '..UptoSaid'. A law counts once. -/
mutual
def uptoBulk {H : Type} : DataW H → Nat
  | .lit (.string bytes) => bytes.length + 1
  | .lit _ => 1
  | .nil => 1
  | .ptr d => uptoBulk d + 1
  | .slice elems spare => uptoBulkAll elems + uptoBulkAll spare + 1
  | .agg parts => uptoBulkAll parts + 1
  | .iface _ d => uptoBulk d + 1
  | .map entries => uptoBulkEntries entries + 1
  | .held _ => 1
def uptoBulkAll {H : Type} : List (DataW H) → Nat
  | [] => 0
  | d :: r => uptoBulk d + uptoBulkAll r
def uptoBulkEntries {H : Type} : List (Lit × DataW H) → Nat
  | [] => 0
  | x :: r => uptoBulkEntry x + uptoBulkEntries r
def uptoBulkEntry {H : Type} : Lit × DataW H → Nat
  | (.string bytes, d) => bytes.length + uptoBulk d + 1
  | (_, d) => uptoBulk d + 1
 end
def uptoSmall : (H : Type) → List (DataW H) → Bool := fun _ ds => decide (uptoBulkAll ds ≤ 1048576)
def OpenSpec.upto (s : _root_.Go.ChangeSpec) : _root_.Go.OpenSpec := { _root_.Go.OpenSpec.ofChange s with cond := some uptoSmall }

/-- 'garmentlaw24.AllowanceZero', WHERE WHAT IT READS IS OF BULK AT MOST 1048576: true; the input reads as it did. -/
def allowanceZeroUptoRow : OpenClaim := { program := "ytjjkgfikkihokaa", sum := "298bf9b6531d08dc4dfa23618ff8e065f2b278fbb61fc45da12a4764609c928e", func := "garment/garmentlaw24.AllowanceZero", spec := "allowanceZero", inPlace := ["math.sqrt"], unfollowed := true, recurses := true, apart := false, narrowed := true }
def AllowanceZeroUptoSaid : Prop := allowanceZeroUptoRow.holds Try.pinned (OpenSpec.upto allowanceZeroSpec)

/-- 'garmentlaw24.AllowanceOutwards', WHERE WHAT IT READS IS OF BULK AT MOST 1048576: true; the input reads as it did. -/
def allowanceOutwardsUptoRow : OpenClaim := { program := "ytjjkgfikkihokaa", sum := "298bf9b6531d08dc4dfa23618ff8e065f2b278fbb61fc45da12a4764609c928e", func := "garment/garmentlaw24.AllowanceOutwards", spec := "allowanceOutwards", inPlace := ["math.sqrt"], unfollowed := true, recurses := true, apart := false, narrowed := true }
def AllowanceOutwardsUptoSaid : Prop := allowanceOutwardsUptoRow.holds Try.pinned (OpenSpec.upto allowanceOutwardsSpec)

/-- 'garmentlaw24.AllowanceRects', WHERE WHAT IT READS IS OF BULK AT MOST 1048576: true; the input reads as it did. -/
def allowanceRectsUptoRow : OpenClaim := { program := "ytjjkgfikkihokaa", sum := "298bf9b6531d08dc4dfa23618ff8e065f2b278fbb61fc45da12a4764609c928e", func := "garment/garmentlaw24.AllowanceRects", spec := "allowanceRects", inPlace := ["math.sqrt"], unfollowed := true, recurses := true, apart := false, narrowed := true }
def AllowanceRectsUptoSaid : Prop := allowanceRectsUptoRow.holds Try.pinned (OpenSpec.upto allowanceRectsSpec)

/-- 'garmentlaw24.AllowanceAreas', WHERE WHAT IT READS IS OF BULK AT MOST 1048576: true; the input reads as it did. -/
def allowanceAreasUptoRow : OpenClaim := { program := "ytjjkgfikkihokaa", sum := "298bf9b6531d08dc4dfa23618ff8e065f2b278fbb61fc45da12a4764609c928e", func := "garment/garmentlaw24.AllowanceAreas", spec := "allowanceAreas", inPlace := ["math.sqrt"], unfollowed := true, recurses := true, apart := false, narrowed := true }
def AllowanceAreasUptoSaid : Prop := allowanceAreasUptoRow.holds Try.pinned (OpenSpec.upto allowanceAreasSpec)

/-- 'garmentlaw24.AllowanceMoves', WHERE WHAT IT READS IS OF BULK AT MOST 1048576: true; the input reads as it did. -/
def allowanceMovesUptoRow : OpenClaim := { program := "ytjjkgfikkihokaa", sum := "298bf9b6531d08dc4dfa23618ff8e065f2b278fbb61fc45da12a4764609c928e", func := "garment/garmentlaw24.AllowanceMoves", spec := "allowanceMoves", inPlace := ["math.sqrt"], unfollowed := true, recurses := true, apart := false, narrowed := true }
def AllowanceMovesUptoSaid : Prop := allowanceMovesUptoRow.holds Try.pinned (OpenSpec.upto allowanceMovesSpec)

end Rows
end Go.Proofs.Ytjjkgfikkihokaa
