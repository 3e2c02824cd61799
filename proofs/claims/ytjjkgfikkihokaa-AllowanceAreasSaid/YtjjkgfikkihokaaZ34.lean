/- Parts of the proof, part 34: Tab1, Tab2, Tab3, Tab4. -/
import Derived.Test.YtjjkgfikkihokaaZ32
import Derived.Test.YtjjkgfikkihokaaZ25
import Derived.Test.YtjjkgfikkihokaaProg
import Derived.KernelRfl
set_option linter.all false
/- The functions of this seat compile to the code of the table, part 1. -/
namespace Go.F
open Go.Proofs

set_option maxRecDepth 100000
theorem ok3 : (Try.prog.funcs[3]?).bind (fun F => F.body.bind fun _ => cfn Try.prog (plan 3) F) = some k_l24_AllowanceZero := by kernel_rfl
theorem ok7 : (Try.prog.funcs[7]?).bind (fun F => F.body.bind fun _ => cfn Try.prog (plan 7) F) = some k_l24_AllowanceMoves := by kernel_rfl
theorem ok11 : (Try.prog.funcs[11]?).bind (fun F => F.body.bind fun _ => cfn Try.prog (plan 11) F) = some k_allowance_Allow := by kernel_rfl
theorem ok15 : (Try.prog.funcs[15]?).bind (fun F => F.body.bind fun _ => cfn Try.prog (plan 15) F) = some k_l24_edges := by kernel_rfl
theorem ok19 : (Try.prog.funcs[19]?).bind (fun F => F.body.bind fun _ => cfn Try.prog (plan 19) F) = some k_polygon_Check := by kernel_rfl
theorem ok23 : (Try.prog.funcs[23]?).bind (fun F => F.body.bind fun _ => cfn Try.prog (plan 23) F) = some k_allowance_sum := by kernel_rfl
theorem ok27 : (Try.prog.funcs[27]?).bind (fun F => F.body.bind fun _ => cfn Try.prog (plan 27) F) = some k_allowance_root := by kernel_rfl
theorem ok31 : (Try.prog.funcs[31]?).bind (fun F => F.body.bind fun _ => cfn Try.prog (plan 31) F) = some k_outline_isName := by kernel_rfl
theorem ok35 : (Try.prog.funcs[35]?).bind (fun F => F.body.bind fun _ => cfn Try.prog (plan 35) F) = some k_polygon_simple := by kernel_rfl
theorem ok39 : (Try.prog.funcs[39]?).bind (fun F => F.body.bind fun _ => cfn Try.prog (plan 39) F) = some k_point_Sub := by kernel_rfl
theorem ok43 : (Try.prog.funcs[43]?).bind (fun F => F.body.bind fun _ => cfn Try.prog (plan 43) F) = some k_polyline_outside := by kernel_rfl
theorem ok47 : (Try.prog.funcs[47]?).bind (fun F => F.body.bind fun _ => cfn Try.prog (plan 47) F) = some k_polygon_meet := by kernel_rfl
theorem ok51 : (Try.prog.funcs[51]?).bind (fun F => F.body.bind fun _ => cfn Try.prog (plan 51) F) = some k_point_Of := by kernel_rfl
theorem ok56 : (Try.prog.funcs[56]?).bind (fun F => F.body.bind fun _ => cfn Try.prog (plan 56) F) = some k_formula_check := by kernel_rfl
theorem ok60 : (Try.prog.funcs[60]?).bind (fun F => F.body.bind fun _ => cfn Try.prog (plan 60) F) = some k_polygon_parted := by kernel_rfl
theorem ok64 : (Try.prog.funcs[64]?).bind (fun F => F.body.bind fun _ => cfn Try.prog (plan 64) F) = some k_ratio_reduce := by kernel_rfl
theorem ok68 : (Try.prog.funcs[68]?).bind (fun F => F.body.bind fun _ => cfn Try.prog (plan 68) F) = some k_ratio_Of := by kernel_rfl
theorem ok72 : (Try.prog.funcs[72]?).bind (fun F => F.body.bind fun _ => cfn Try.prog (plan 72) F) = some k_ratio_Neg := by kernel_rfl
theorem ok76 : (Try.prog.funcs[76]?).bind (fun F => F.body.bind fun _ => cfn Try.prog (plan 76) F) = some k_natural_trim := by kernel_rfl
theorem ok80 : (Try.prog.funcs[80]?).bind (fun F => F.body.bind fun _ => cfn Try.prog (plan 80) F) = some k_integer_Mul := by kernel_rfl
theorem ok84 : (Try.prog.funcs[84]?).bind (fun F => F.body.bind fun _ => cfn Try.prog (plan 84) F) = some k_ratio_positive := by kernel_rfl
theorem ok88 : (Try.prog.funcs[88]?).bind (fun F => F.body.bind fun _ => cfn Try.prog (plan 88) F) = some k_formula_inShares := by kernel_rfl
theorem ok92 : (Try.prog.funcs[92]?).bind (fun F => F.body.bind fun _ => cfn Try.prog (plan 92) F) = some k_natural_short := by kernel_rfl
theorem ok96 : (Try.prog.funcs[96]?).bind (fun F => F.body.bind fun _ => cfn Try.prog (plan 96) F) = some k_natural_right := by kernel_rfl
theorem ok100 : (Try.prog.funcs[100]?).bind (fun F => F.body.bind fun _ => cfn Try.prog (plan 100) F) = some k_integer_Cmp := by kernel_rfl

end Go.F

/- The functions of this seat compile to the code of the table, part 2. -/
namespace Go.F
open Go.Proofs

set_option maxRecDepth 100000
theorem ok4 : (Try.prog.funcs[4]?).bind (fun F => F.body.bind fun _ => cfn Try.prog (plan 4) F) = some k_l24_AllowanceOutwards := by kernel_rfl
theorem ok8 : (Try.prog.funcs[8]?).bind (fun F => F.body.bind fun _ => cfn Try.prog (plan 8) F) = some k_l24_small := by kernel_rfl
theorem ok12 : (Try.prog.funcs[12]?).bind (fun F => F.body.bind fun _ => cfn Try.prog (plan 12) F) = some k_r11_Same := by kernel_rfl
theorem ok16 : (Try.prog.funcs[16]?).bind (fun F => F.body.bind fun _ => cfn Try.prog (plan 16) F) = some k_l24_rect := by kernel_rfl
theorem ok20 : (Try.prog.funcs[20]?).bind (fun F => F.body.bind fun _ => cfn Try.prog (plan 20) F) = some k_r24_Vertices := by kernel_rfl
theorem ok24 : (Try.prog.funcs[24]?).bind (fun F => F.body.bind fun _ => cfn Try.prog (plan 24) F) = some k_allowance_corner := by kernel_rfl
theorem ok28 : (Try.prog.funcs[28]?).bind (fun F => F.body.bind fun _ => cfn Try.prog (plan 28) F) = some k_allowance_rounded := by kernel_rfl
theorem ok32 : (Try.prog.funcs[32]?).bind (fun F => F.body.bind fun _ => cfn Try.prog (plan 32) F) = some k_polyline_Check := by kernel_rfl
theorem ok36 : (Try.prog.funcs[36]?).bind (fun F => F.body.bind fun _ => cfn Try.prog (plan 36) F) = some k_point_Meet := by kernel_rfl
theorem ok40 : (Try.prog.funcs[40]?).bind (fun F => F.body.bind fun _ => cfn Try.prog (plan 40) F) = some k_cmp_Compare_int := by kernel_rfl
theorem ok44 : (Try.prog.funcs[44]?).bind (fun F => F.body.bind fun _ => cfn Try.prog (plan 44) F) = some k_slices_IndexFunc_Spot_Spot := by kernel_rfl
theorem ok48 : (Try.prog.funcs[48]?).bind (fun F => F.body.bind fun _ => cfn Try.prog (plan 48) F) = some k_ratio_Div := by kernel_rfl
theorem ok52 : (Try.prog.funcs[52]?).bind (fun F => F.body.bind fun _ => cfn Try.prog (plan 52) F) = some k_point_coordinate := by kernel_rfl
theorem ok57 : (Try.prog.funcs[57]?).bind (fun F => F.body.bind fun _ => cfn Try.prog (plan 57) F) = some k_slices_Index_Spot_Spot := by kernel_rfl
theorem ok61 : (Try.prog.funcs[61]?).bind (fun F => F.body.bind fun _ => cfn Try.prog (plan 61) F) = some k_ratio_value := by kernel_rfl
theorem ok65 : (Try.prog.funcs[65]?).bind (fun F => F.body.bind fun _ => cfn Try.prog (plan 65) F) = some k_ratio_Mul := by kernel_rfl
theorem ok69 : (Try.prog.funcs[69]?).bind (fun F => F.body.bind fun _ => cfn Try.prog (plan 69) F) = some k_integer_Small := by kernel_rfl
theorem ok73 : (Try.prog.funcs[73]?).bind (fun F => F.body.bind fun _ => cfn Try.prog (plan 73) F) = some k_formula_right := by kernel_rfl
theorem ok77 : (Try.prog.funcs[77]?).bind (fun F => F.body.bind fun _ => cfn Try.prog (plan 77) F) = some k_natural_Gcd := by kernel_rfl
theorem ok81 : (Try.prog.funcs[81]?).bind (fun F => F.body.bind fun _ => cfn Try.prog (plan 81) F) = some k_integer_Of := by kernel_rfl
theorem ok85 : (Try.prog.funcs[85]?).bind (fun F => F.body.bind fun _ => cfn Try.prog (plan 85) F) = some k_integer_Neg := by kernel_rfl
theorem ok89 : (Try.prog.funcs[89]?).bind (fun F => F.body.bind fun _ => cfn Try.prog (plan 89) F) = some k_ratio_Cmp := by kernel_rfl
theorem ok93 : (Try.prog.funcs[93]?).bind (fun F => F.body.bind fun _ => cfn Try.prog (plan 93) F) = some k_bits_LeadingZeros32 := by kernel_rfl
theorem ok97 : (Try.prog.funcs[97]?).bind (fun F => F.body.bind fun _ => cfn Try.prog (plan 97) F) = some k_integer_signed := by kernel_rfl
theorem ok101 : (Try.prog.funcs[101]?).bind (fun F => F.body.bind fun _ => cfn Try.prog (plan 101) F) = some k_cmp_isNaN_uint32 := by kernel_rfl

end Go.F

/- The functions of this seat compile to the code of the table, part 3. -/
namespace Go.F
open Go.Proofs

set_option maxRecDepth 100000
theorem ok5 : (Try.prog.funcs[5]?).bind (fun F => F.body.bind fun _ => cfn Try.prog (plan 5) F) = some k_l24_AllowanceRects := by kernel_rfl
theorem ok9 : (Try.prog.funcs[9]?).bind (fun F => F.body.bind fun _ => cfn Try.prog (plan 9) F) = some k_l24_exampleHolds := by kernel_rfl
theorem ok13 : (Try.prog.funcs[13]?).bind (fun F => F.body.bind fun _ => cfn Try.prog (plan 13) F) = some k_allowance_Shifts := by kernel_rfl
theorem ok17 : (Try.prog.funcs[17]?).bind (fun F => F.body.bind fun _ => cfn Try.prog (plan 17) F) = some k_polygon_Move := by kernel_rfl
theorem ok21 : (Try.prog.funcs[21]?).bind (fun F => F.body.bind fun _ => cfn Try.prog (plan 21) F) = some k_outline_vertices := by kernel_rfl
theorem ok25 : (Try.prog.funcs[25]?).bind (fun F => F.body.bind fun _ => cfn Try.prog (plan 25) F) = some k_allowance_within := by kernel_rfl
theorem ok29 : (Try.prog.funcs[29]?).bind (fun F => F.body.bind fun _ => cfn Try.prog (plan 29) F) = some k_polygon_area := by kernel_rfl
theorem ok33 : (Try.prog.funcs[33]?).bind (fun F => F.body.bind fun _ => cfn Try.prog (plan 33) F) = some k_slices_ContainsFunc_Spot_Spot := by kernel_rfl
theorem ok37 : (Try.prog.funcs[37]?).bind (fun F => F.body.bind fun _ => cfn Try.prog (plan 37) F) = some k_allowance_exact := by kernel_rfl
theorem ok41 : (Try.prog.funcs[41]?).bind (fun F => F.body.bind fun _ => cfn Try.prog (plan 41) F) = some k_math_Sqrt := by kernel_rfl
theorem ok45 : (Try.prog.funcs[45]?).bind (fun F => F.body.bind fun _ => cfn Try.prog (plan 45) F) = some k_slices_Contains_Spot_Spot := by kernel_rfl
theorem ok49 : (Try.prog.funcs[49]?).bind (fun F => F.body.bind fun _ => cfn Try.prog (plan 49) F) = some k_point_Cross := by kernel_rfl
theorem ok53 : (Try.prog.funcs[53]?).bind (fun F => F.body.bind fun _ => cfn Try.prog (plan 53) F) = some k_ratio_Sub := by kernel_rfl
theorem ok58 : (Try.prog.funcs[58]?).bind (fun F => F.body.bind fun _ => cfn Try.prog (plan 58) F) = some k_polygon_cross := by kernel_rfl
theorem ok62 : (Try.prog.funcs[62]?).bind (fun F => F.body.bind fun _ => cfn Try.prog (plan 62) F) = some k_ratio_zero := by kernel_rfl
theorem ok66 : (Try.prog.funcs[66]?).bind (fun F => F.body.bind fun _ => cfn Try.prog (plan 66) F) = some k_point_Add := by kernel_rfl
theorem ok70 : (Try.prog.funcs[70]?).bind (fun F => F.body.bind fun _ => cfn Try.prog (plan 70) F) = some k_ratio_Round := by kernel_rfl
theorem ok74 : (Try.prog.funcs[74]?).bind (fun F => F.body.bind fun _ => cfn Try.prog (plan 74) F) = some k_natural_Of := by kernel_rfl
theorem ok78 : (Try.prog.funcs[78]?).bind (fun F => F.body.bind fun _ => cfn Try.prog (plan 78) F) = some k_natural_DivMod := by kernel_rfl
theorem ok82 : (Try.prog.funcs[82]?).bind (fun F => F.body.bind fun _ => cfn Try.prog (plan 82) F) = some k_natural_Add := by kernel_rfl
theorem ok86 : (Try.prog.funcs[86]?).bind (fun F => F.body.bind fun _ => cfn Try.prog (plan 86) F) = some k_formula_operands := by kernel_rfl
theorem ok90 : (Try.prog.funcs[90]?).bind (fun F => F.body.bind fun _ => cfn Try.prog (plan 90) F) = some k_cmp_Compare_uint32 := by kernel_rfl
theorem ok94 : (Try.prog.funcs[94]?).bind (fun F => F.body.bind fun _ => cfn Try.prog (plan 94) F) = some k_natural_left := by kernel_rfl
theorem ok98 : (Try.prog.funcs[98]?).bind (fun F => F.body.bind fun _ => cfn Try.prog (plan 98) F) = some k_natural_Sub := by kernel_rfl
theorem ok102 : (Try.prog.funcs[102]?).bind (fun F => F.body.bind fun _ => cfn Try.prog (plan 102) F) = some k_bits_Len32 := by kernel_rfl

end Go.F

/- The functions of this seat compile to the code of the table, part 4. -/
namespace Go.F
open Go.Proofs

set_option maxRecDepth 100000
theorem ok6 : (Try.prog.funcs[6]?).bind (fun F => F.body.bind fun _ => cfn Try.prog (plan 6) F) = some k_l24_AllowanceAreas := by kernel_rfl
theorem ok10 : (Try.prog.funcs[10]?).bind (fun F => F.body.bind fun _ => cfn Try.prog (plan 10) F) = some k_outline_Polygon := by kernel_rfl
theorem ok14 : (Try.prog.funcs[14]?).bind (fun F => F.body.bind fun _ => cfn Try.prog (plan 14) F) = some k_polygon_Area2 := by kernel_rfl
theorem ok18 : (Try.prog.funcs[18]?).bind (fun F => F.body.bind fun _ => cfn Try.prog (plan 18) F) = some k_outline_Check := by kernel_rfl
theorem ok22 : (Try.prog.funcs[22]?).bind (fun F => F.body.bind fun _ => cfn Try.prog (plan 22) F) = some k_allowance_segmentWidths := by kernel_rfl
theorem ok26 : (Try.prog.funcs[26]?).bind (fun F => F.body.bind fun _ => cfn Try.prog (plan 26) F) = some k_allowance_orientation := by kernel_rfl
theorem ok30 : (Try.prog.funcs[30]?).bind (fun F => F.body.bind fun _ => cfn Try.prog (plan 30) F) = some k_polyline_Move := by kernel_rfl
theorem ok34 : (Try.prog.funcs[34]?).bind (fun F => F.body.bind fun _ => cfn Try.prog (plan 34) F) = some k_polygon_outside := by kernel_rfl
theorem ok38 : (Try.prog.funcs[38]?).bind (fun F => F.body.bind fun _ => cfn Try.prog (plan 38) F) = some k_point_Grid := by kernel_rfl
theorem ok42 : (Try.prog.funcs[42]?).bind (fun F => F.body.bind fun _ => cfn Try.prog (plan 42) F) = some k_formula_Check := by kernel_rfl
theorem ok46 : (Try.prog.funcs[46]?).bind (fun F => F.body.bind fun _ => cfn Try.prog (plan 46) F) = some k_polygon_folded := by kernel_rfl
theorem ok50 : (Try.prog.funcs[50]?).bind (fun F => F.body.bind fun _ => cfn Try.prog (plan 50) F) = some k_point_On := by kernel_rfl
theorem ok54 : (Try.prog.funcs[54]?).bind (fun F => F.body.bind fun _ => cfn Try.prog (plan 54) F) = some k_cmp_isNaN_int := by kernel_rfl
theorem ok59 : (Try.prog.funcs[59]?).bind (fun F => F.body.bind fun _ => cfn Try.prog (plan 59) F) = some k_polygon_on := by kernel_rfl
theorem ok63 : (Try.prog.funcs[63]?).bind (fun F => F.body.bind fun _ => cfn Try.prog (plan 63) F) = some k_natural_Mul := by kernel_rfl
theorem ok67 : (Try.prog.funcs[67]?).bind (fun F => F.body.bind fun _ => cfn Try.prog (plan 67) F) = some k_point_Scale := by kernel_rfl
theorem ok71 : (Try.prog.funcs[71]?).bind (fun F => F.body.bind fun _ => cfn Try.prog (plan 71) F) = some k_ratio_Add := by kernel_rfl
theorem ok75 : (Try.prog.funcs[75]?).bind (fun F => F.body.bind fun _ => cfn Try.prog (plan 75) F) = some k_natural_Cmp := by kernel_rfl
theorem ok79 : (Try.prog.funcs[79]?).bind (fun F => F.body.bind fun _ => cfn Try.prog (plan 79) F) = some k_integer_Norm := by kernel_rfl
theorem ok83 : (Try.prog.funcs[83]?).bind (fun F => F.body.bind fun _ => cfn Try.prog (plan 83) F) = some k_integer_Add := by kernel_rfl
theorem ok87 : (Try.prog.funcs[87]?).bind (fun F => F.body.bind fun _ => cfn Try.prog (plan 87) F) = some k_formula_isName := by kernel_rfl
theorem ok91 : (Try.prog.funcs[91]?).bind (fun F => F.body.bind fun _ => cfn Try.prog (plan 91) F) = some k_natural_Norm := by kernel_rfl
theorem ok95 : (Try.prog.funcs[95]?).bind (fun F => F.body.bind fun _ => cfn Try.prog (plan 95) F) = some k_natural_digit := by kernel_rfl
theorem ok99 : (Try.prog.funcs[99]?).bind (fun F => F.body.bind fun _ => cfn Try.prog (plan 99) F) = some k_formula_isDigit := by kernel_rfl

end Go.F
