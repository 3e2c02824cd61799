/-
  No cell of these rows narrows 'for every input' (looked for: loops, veiled, ifaces, maps, wideKeys, modest, calm, conditions, laid).
  DERIVED. THE GIVEN ROWS OF THIS SEAT. 8 by the template 'for every input the law returns true; each argument reads behind the call as it read before'; 0 by the template 'total and deterministic' (their statements: YtdhpbljlnlpibaaGreatTotals.lean).
  GIVEN WITH THE SEED: the statements are not yours to turn. If you find one false, say at which input.
  Laid BY PROGRAM, IN A SANDBOX (cutbox-rows.mjs): the forced cells as the released guide's own fill.sh prints them over the translation 9abffd13169bb1e7… (all of the seat's roots in one cut). By AI agents, Wed Nov 11 2026. No macro, syntax, notation, axiom, sorry.
-/
import Derived.Test.YtdhpbljlnlpibaaGreatChecked
import GoSem.Claim
import GoSem.ClaimJoined
import GoSem.ClaimMapViews
import Derived.JoinedTies
import Derived.KernelRfl
namespace Go.Proofs.YtdhpbljlnlpibaaGreat
/- THE CELL 'sum', in the pinned program and in every row, IS THE sha256 OF THE DUMP (.gsa) THAT YtdhpbljlnlpibaaGreatProg.lean LOADS. Nothing in Lean hashes anything: it is a label: what it is worth is what the hold of that sum in a sandbox is worth. -/
noncomputable def Tryz.pinned : Pinned := { name := "ytdhpbljlnlpibaagreat", sum := "9abffd13169bb1e7803e3d6769612da581f38e8252e2c9bd92b1c49bc686ded9", checked := Tryz.checked }
namespace Rows
def none {H : Type} : Left H := { results := [], args := [] }

/-- 'garmentlaw25.StyleChecks': WHATEVER THE INPUT: true; the input reads as it did. -/
def styleChecksSpec : ChangeSpec := { name := "styleChecks", fn := fun _ => fun
  | [d] => { results := [.lit (.bool true)], args := [d] }
  | _ => none }
def styleChecksRow : OpenClaim := { program := "ytdhpbljlnlpibaagreat", sum := "9abffd13169bb1e7803e3d6769612da581f38e8252e2c9bd92b1c49bc686ded9", func := "garment/garmentlaw25.StyleChecks", spec := "styleChecks", inPlace := ["math.sqrt"], unfollowed := true, recurses := true, named := ["math/bits.divideError", "math/bits.overflowError"], apart := false }
def StyleChecksSaid : Prop := styleChecksRow.holds Tryz.pinned (OpenSpec.ofChange styleChecksSpec)

/-- ITS FALSE NEIGHBOUR: 'it returns false'. Refute it at one input. -/
def styleChecksWrong : ChangeSpec := { name := "styleChecks", fn := fun _ => fun
  | [d] => { results := [.lit (.bool false)], args := [d] }
  | _ => none }
def StyleChecksWrongFalsely : Prop := styleChecksRow.holds Tryz.pinned (OpenSpec.ofChange styleChecksWrong)

/-- 'garmentlaw25.StyleCuts': WHATEVER THE INPUT: true; the input reads as it did. -/
def styleCutsSpec : ChangeSpec := { name := "styleCuts", fn := fun _ => fun
  | [d1, d2, d3] => { results := [.lit (.bool true)], args := [d1, d2, d3] }
  | _ => none }
def styleCutsRow : OpenClaim := { program := "ytdhpbljlnlpibaagreat", sum := "9abffd13169bb1e7803e3d6769612da581f38e8252e2c9bd92b1c49bc686ded9", func := "garment/garmentlaw25.StyleCuts", spec := "styleCuts", inPlace := ["math.sqrt"], unfollowed := true, recurses := true, named := ["math/bits.divideError", "math/bits.overflowError"], apart := false }
def StyleCutsSaid : Prop := styleCutsRow.holds Tryz.pinned (OpenSpec.ofChange styleCutsSpec)

/-- ITS FALSE NEIGHBOUR: 'it returns false'. Refute it at one input. -/
def styleCutsWrong : ChangeSpec := { name := "styleCuts", fn := fun _ => fun
  | [d1, d2, d3] => { results := [.lit (.bool false)], args := [d1, d2, d3] }
  | _ => none }
def StyleCutsWrongFalsely : Prop := styleCutsRow.holds Tryz.pinned (OpenSpec.ofChange styleCutsWrong)

/-- 'garmentlaw25.StyleCopies': WHATEVER THE INPUT: true; the input reads as it did. -/
def styleCopiesSpec : ChangeSpec := { name := "styleCopies", fn := fun _ => fun
  | [d1, d2] => { results := [.lit (.bool true)], args := [d1, d2] }
  | _ => none }
def styleCopiesRow : OpenClaim := { program := "ytdhpbljlnlpibaagreat", sum := "9abffd13169bb1e7803e3d6769612da581f38e8252e2c9bd92b1c49bc686ded9", func := "garment/garmentlaw25.StyleCopies", spec := "styleCopies", inPlace := ["math.sqrt"], unfollowed := true, recurses := true, named := ["math/bits.divideError", "math/bits.overflowError"], apart := false }
def StyleCopiesSaid : Prop := styleCopiesRow.holds Tryz.pinned (OpenSpec.ofChange styleCopiesSpec)

/-- ITS FALSE NEIGHBOUR: 'it returns false'. Refute it at one input. -/
def styleCopiesWrong : ChangeSpec := { name := "styleCopies", fn := fun _ => fun
  | [d1, d2] => { results := [.lit (.bool false)], args := [d1, d2] }
  | _ => none }
def StyleCopiesWrongFalsely : Prop := styleCopiesRow.holds Tryz.pinned (OpenSpec.ofChange styleCopiesWrong)

/-- 'garmentlaw25.StyleCounts': WHATEVER THE INPUT: true; the input reads as it did. -/
def styleCountsSpec : ChangeSpec := { name := "styleCounts", fn := fun _ => fun
  | [d1, d2] => { results := [.lit (.bool true)], args := [d1, d2] }
  | _ => none }
def styleCountsRow : OpenClaim := { program := "ytdhpbljlnlpibaagreat", sum := "9abffd13169bb1e7803e3d6769612da581f38e8252e2c9bd92b1c49bc686ded9", func := "garment/garmentlaw25.StyleCounts", spec := "styleCounts", inPlace := ["math.sqrt"], unfollowed := true, recurses := true, named := ["math/bits.divideError", "math/bits.overflowError"], apart := false }
def StyleCountsSaid : Prop := styleCountsRow.holds Tryz.pinned (OpenSpec.ofChange styleCountsSpec)

/-- ITS FALSE NEIGHBOUR: 'it returns false'. Refute it at one input. -/
def styleCountsWrong : ChangeSpec := { name := "styleCounts", fn := fun _ => fun
  | [d1, d2] => { results := [.lit (.bool false)], args := [d1, d2] }
  | _ => none }
def StyleCountsWrongFalsely : Prop := styleCountsRow.holds Tryz.pinned (OpenSpec.ofChange styleCountsWrong)

/-- 'garmentlaw25.StyleLayers': WHATEVER THE INPUT: true; the input reads as it did. -/
def styleLayersSpec : ChangeSpec := { name := "styleLayers", fn := fun _ => fun
  | [d1, d2, d3] => { results := [.lit (.bool true)], args := [d1, d2, d3] }
  | _ => none }
def styleLayersRow : OpenClaim := { program := "ytdhpbljlnlpibaagreat", sum := "9abffd13169bb1e7803e3d6769612da581f38e8252e2c9bd92b1c49bc686ded9", func := "garment/garmentlaw25.StyleLayers", spec := "styleLayers", inPlace := ["math.sqrt"], unfollowed := true, recurses := true, named := ["math/bits.divideError", "math/bits.overflowError"], apart := false }
def StyleLayersSaid : Prop := styleLayersRow.holds Tryz.pinned (OpenSpec.ofChange styleLayersSpec)

/-- ITS FALSE NEIGHBOUR: 'it returns false'. Refute it at one input. -/
def styleLayersWrong : ChangeSpec := { name := "styleLayers", fn := fun _ => fun
  | [d1, d2, d3] => { results := [.lit (.bool false)], args := [d1, d2, d3] }
  | _ => none }
def StyleLayersWrongFalsely : Prop := styleLayersRow.holds Tryz.pinned (OpenSpec.ofChange styleLayersWrong)

/-- 'garmentlaw25.StyleBase': WHATEVER THE INPUT: true; the input reads as it did. -/
def styleBaseSpec : ChangeSpec := { name := "styleBase", fn := fun _ => fun
  | [d1, d2, d3] => { results := [.lit (.bool true)], args := [d1, d2, d3] }
  | _ => none }
def styleBaseRow : OpenClaim := { program := "ytdhpbljlnlpibaagreat", sum := "9abffd13169bb1e7803e3d6769612da581f38e8252e2c9bd92b1c49bc686ded9", func := "garment/garmentlaw25.StyleBase", spec := "styleBase", inPlace := ["math.sqrt"], unfollowed := true, recurses := true, named := ["math/bits.divideError", "math/bits.overflowError"], apart := false }
def StyleBaseSaid : Prop := styleBaseRow.holds Tryz.pinned (OpenSpec.ofChange styleBaseSpec)

/-- ITS FALSE NEIGHBOUR: 'it returns false'. Refute it at one input. -/
def styleBaseWrong : ChangeSpec := { name := "styleBase", fn := fun _ => fun
  | [d1, d2, d3] => { results := [.lit (.bool false)], args := [d1, d2, d3] }
  | _ => none }
def StyleBaseWrongFalsely : Prop := styleBaseRow.holds Tryz.pinned (OpenSpec.ofChange styleBaseWrong)

/-- 'garmentlaw25.StyleSizes': WHATEVER THE INPUT: true; the input reads as it did. -/
def styleSizesSpec : ChangeSpec := { name := "styleSizes", fn := fun _ => fun
  | [d1, d2, d3] => { results := [.lit (.bool true)], args := [d1, d2, d3] }
  | _ => none }
def styleSizesRow : OpenClaim := { program := "ytdhpbljlnlpibaagreat", sum := "9abffd13169bb1e7803e3d6769612da581f38e8252e2c9bd92b1c49bc686ded9", func := "garment/garmentlaw25.StyleSizes", spec := "styleSizes", inPlace := ["math.sqrt"], unfollowed := true, recurses := true, named := ["math/bits.divideError", "math/bits.overflowError"], apart := false }
def StyleSizesSaid : Prop := styleSizesRow.holds Tryz.pinned (OpenSpec.ofChange styleSizesSpec)

/-- ITS FALSE NEIGHBOUR: 'it returns false'. Refute it at one input. -/
def styleSizesWrong : ChangeSpec := { name := "styleSizes", fn := fun _ => fun
  | [d1, d2, d3] => { results := [.lit (.bool false)], args := [d1, d2, d3] }
  | _ => none }
def StyleSizesWrongFalsely : Prop := styleSizesRow.holds Tryz.pinned (OpenSpec.ofChange styleSizesWrong)

/-- 'garmentlaw25.StyleRefuses': WHATEVER THE INPUT: true; the input reads as it did. -/
def styleRefusesSpec : ChangeSpec := { name := "styleRefuses", fn := fun _ => fun
  | [d1, d2] => { results := [.lit (.bool true)], args := [d1, d2] }
  | _ => none }
def styleRefusesRow : OpenClaim := { program := "ytdhpbljlnlpibaagreat", sum := "9abffd13169bb1e7803e3d6769612da581f38e8252e2c9bd92b1c49bc686ded9", func := "garment/garmentlaw25.StyleRefuses", spec := "styleRefuses", inPlace := ["math.sqrt"], unfollowed := true, recurses := true, named := ["math/bits.divideError", "math/bits.overflowError"], apart := false }
def StyleRefusesSaid : Prop := styleRefusesRow.holds Tryz.pinned (OpenSpec.ofChange styleRefusesSpec)

/-- ITS FALSE NEIGHBOUR: 'it returns false'. Refute it at one input. -/
def styleRefusesWrong : ChangeSpec := { name := "styleRefuses", fn := fun _ => fun
  | [d1, d2] => { results := [.lit (.bool false)], args := [d1, d2] }
  | _ => none }
def StyleRefusesWrongFalsely : Prop := styleRefusesRow.holds Tryz.pinned (OpenSpec.ofChange styleRefusesWrong)

/- THE SECOND FORM. 'bulk': how many values and letters a reading holds, each counted each time it is reached (what is shared counts as often as it is met; a slice's spare places count too). A statement '..UptoSaid' is the law's where the arguments, and the package variables that the reading takes, are together of bulk at most 1048576: NARROWER than '..Said'. Prove '..Said' where nothing that the law and all that it calls make is longer than what came in: it says more and counts as full. Else prove '..UptoSaid'. A law counts once. -/
mutual
def uptoBulk {H : Type} : DataW H → Nat
  | .lit (.string bytes) => bytes.length + 1
  | .lit _ => 1
  | .nil => 1
  | .ptr d => uptoBulk d + 1
  | .slice elems spare => uptoBulkAll elems + uptoBulkAll spare + 1
  | .agg parts => uptoBulkAll parts + 1
  | .iface _ d => uptoBulk d + 1
  | .map entries => uptoBulkEntries entries + 1
  | .held _ => 1
def uptoBulkAll {H : Type} : List (DataW H) → Nat
  | [] => 0
  | d :: r => uptoBulk d + uptoBulkAll r
def uptoBulkEntries {H : Type} : List (Lit × DataW H) → Nat
  | [] => 0
  | x :: r => uptoBulkEntry x + uptoBulkEntries r
def uptoBulkEntry {H : Type} : Lit × DataW H → Nat
  | (.string bytes, d) => bytes.length + uptoBulk d + 1
  | (_, d) => uptoBulk d + 1
 end
def uptoSmall : (H : Type) → List (DataW H) → Bool := fun _ ds => decide (uptoBulkAll ds ≤ 1048576)
def OpenSpec.upto (s : _root_.Go.ChangeSpec) : _root_.Go.OpenSpec := { _root_.Go.OpenSpec.ofChange s with cond := some uptoSmall }

/-- 'garmentlaw25.StyleChecks', WHERE WHAT IT READS IS OF BULK AT MOST 1048576: true; the input reads as it did. -/
def styleChecksUptoRow : OpenClaim := { program := "ytdhpbljlnlpibaagreat", sum := "9abffd13169bb1e7803e3d6769612da581f38e8252e2c9bd92b1c49bc686ded9", func := "garment/garmentlaw25.StyleChecks", spec := "styleChecks", inPlace := ["math.sqrt"], unfollowed := true, recurses := true, named := ["math/bits.divideError", "math/bits.overflowError"], apart := false, narrowed := true }
def StyleChecksUptoSaid : Prop := styleChecksUptoRow.holds Tryz.pinned (OpenSpec.upto styleChecksSpec)

/-- 'garmentlaw25.StyleCuts', WHERE WHAT IT READS IS OF BULK AT MOST 1048576: true; the input reads as it did. -/
def styleCutsUptoRow : OpenClaim := { program := "ytdhpbljlnlpibaagreat", sum := "9abffd13169bb1e7803e3d6769612da581f38e8252e2c9bd92b1c49bc686ded9", func := "garment/garmentlaw25.StyleCuts", spec := "styleCuts", inPlace := ["math.sqrt"], unfollowed := true, recurses := true, named := ["math/bits.divideError", "math/bits.overflowError"], apart := false, narrowed := true }
def StyleCutsUptoSaid : Prop := styleCutsUptoRow.holds Tryz.pinned (OpenSpec.upto styleCutsSpec)

/-- 'garmentlaw25.StyleCopies', WHERE WHAT IT READS IS OF BULK AT MOST 1048576: true; the input reads as it did. -/
def styleCopiesUptoRow : OpenClaim := { program := "ytdhpbljlnlpibaagreat", sum := "9abffd13169bb1e7803e3d6769612da581f38e8252e2c9bd92b1c49bc686ded9", func := "garment/garmentlaw25.StyleCopies", spec := "styleCopies", inPlace := ["math.sqrt"], unfollowed := true, recurses := true, named := ["math/bits.divideError", "math/bits.overflowError"], apart := false, narrowed := true }
def StyleCopiesUptoSaid : Prop := styleCopiesUptoRow.holds Tryz.pinned (OpenSpec.upto styleCopiesSpec)

/-- 'garmentlaw25.StyleCounts', WHERE WHAT IT READS IS OF BULK AT MOST 1048576: true; the input reads as it did. -/
def styleCountsUptoRow : OpenClaim := { program := "ytdhpbljlnlpibaagreat", sum := "9abffd13169bb1e7803e3d6769612da581f38e8252e2c9bd92b1c49bc686ded9", func := "garment/garmentlaw25.StyleCounts", spec := "styleCounts", inPlace := ["math.sqrt"], unfollowed := true, recurses := true, named := ["math/bits.divideError", "math/bits.overflowError"], apart := false, narrowed := true }
def StyleCountsUptoSaid : Prop := styleCountsUptoRow.holds Tryz.pinned (OpenSpec.upto styleCountsSpec)

/-- 'garmentlaw25.StyleLayers', WHERE WHAT IT READS IS OF BULK AT MOST 1048576: true; the input reads as it did. -/
def styleLayersUptoRow : OpenClaim := { program := "ytdhpbljlnlpibaagreat", sum := "9abffd13169bb1e7803e3d6769612da581f38e8252e2c9bd92b1c49bc686ded9", func := "garment/garmentlaw25.StyleLayers", spec := "styleLayers", inPlace := ["math.sqrt"], unfollowed := true, recurses := true, named := ["math/bits.divideError", "math/bits.overflowError"], apart := false, narrowed := true }
def StyleLayersUptoSaid : Prop := styleLayersUptoRow.holds Tryz.pinned (OpenSpec.upto styleLayersSpec)

/-- 'garmentlaw25.StyleBase', WHERE WHAT IT READS IS OF BULK AT MOST 1048576: true; the input reads as it did. -/
def styleBaseUptoRow : OpenClaim := { program := "ytdhpbljlnlpibaagreat", sum := "9abffd13169bb1e7803e3d6769612da581f38e8252e2c9bd92b1c49bc686ded9", func := "garment/garmentlaw25.StyleBase", spec := "styleBase", inPlace := ["math.sqrt"], unfollowed := true, recurses := true, named := ["math/bits.divideError", "math/bits.overflowError"], apart := false, narrowed := true }
def StyleBaseUptoSaid : Prop := styleBaseUptoRow.holds Tryz.pinned (OpenSpec.upto styleBaseSpec)

/-- 'garmentlaw25.StyleSizes', WHERE WHAT IT READS IS OF BULK AT MOST 1048576: true; the input reads as it did. -/
def styleSizesUptoRow : OpenClaim := { program := "ytdhpbljlnlpibaagreat", sum := "9abffd13169bb1e7803e3d6769612da581f38e8252e2c9bd92b1c49bc686ded9", func := "garment/garmentlaw25.StyleSizes", spec := "styleSizes", inPlace := ["math.sqrt"], unfollowed := true, recurses := true, named := ["math/bits.divideError", "math/bits.overflowError"], apart := false, narrowed := true }
def StyleSizesUptoSaid : Prop := styleSizesUptoRow.holds Tryz.pinned (OpenSpec.upto styleSizesSpec)

/-- 'garmentlaw25.StyleRefuses', WHERE WHAT IT READS IS OF BULK AT MOST 1048576: true; the input reads as it did. -/
def styleRefusesUptoRow : OpenClaim := { program := "ytdhpbljlnlpibaagreat", sum := "9abffd13169bb1e7803e3d6769612da581f38e8252e2c9bd92b1c49bc686ded9", func := "garment/garmentlaw25.StyleRefuses", spec := "styleRefuses", inPlace := ["math.sqrt"], unfollowed := true, recurses := true, named := ["math/bits.divideError", "math/bits.overflowError"], apart := false, narrowed := true }
def StyleRefusesUptoSaid : Prop := styleRefusesUptoRow.holds Tryz.pinned (OpenSpec.upto styleRefusesSpec)

end Rows
end Go.Proofs.YtdhpbljlnlpibaaGreat
