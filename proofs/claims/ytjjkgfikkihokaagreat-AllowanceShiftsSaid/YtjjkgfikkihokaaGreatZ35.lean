/- Parts of the proof, part 35: Tab1, Tab2, Tab3, Tab4. -/
import Derived.Test.YtjjkgfikkihokaaGreatZ33
import Derived.Test.YtjjkgfikkihokaaGreatZ25
import Derived.Test.YtjjkgfikkihokaaGreatProg
import Derived.KernelRfl
/- The functions of this seat compile to the code of the table, part 1. -/
namespace Go.F
open Go.Proofs

set_option maxRecDepth 100000
theorem ok3 : (Tryz.prog.funcs[3]?).bind (fun F => F.body.bind fun _ => cfn Tryz.prog (plan 3) F) = some k_l24_AllowanceShifts := by kernel_rfl
theorem ok15 : (Tryz.prog.funcs[15]?).bind (fun F => F.body.bind fun _ => cfn Tryz.prog (plan 15) F) = some k_l24_small := by kernel_rfl
theorem ok19 : (Tryz.prog.funcs[19]?).bind (fun F => F.body.bind fun _ => cfn Tryz.prog (plan 19) F) = some k_r11_Same := by kernel_rfl
theorem ok27 : (Tryz.prog.funcs[27]?).bind (fun F => F.body.bind fun _ => cfn Tryz.prog (plan 27) F) = some k_r20_Check := by kernel_rfl
theorem ok47 : (Tryz.prog.funcs[47]?).bind (fun F => F.body.bind fun _ => cfn Tryz.prog (plan 47) F) = some k_l24_edges := by kernel_rfl
theorem ok51 : (Tryz.prog.funcs[51]?).bind (fun F => F.body.bind fun _ => cfn Tryz.prog (plan 51) F) = some k_allowance_root := by kernel_rfl
theorem ok55 : (Tryz.prog.funcs[55]?).bind (fun F => F.body.bind fun _ => cfn Tryz.prog (plan 55) F) = some k_allowance_corner := by kernel_rfl
theorem ok59 : (Tryz.prog.funcs[59]?).bind (fun F => F.body.bind fun _ => cfn Tryz.prog (plan 59) F) = some k_r11_Within := by kernel_rfl
theorem ok67 : (Tryz.prog.funcs[67]?).bind (fun F => F.body.bind fun _ => cfn Tryz.prog (plan 67) F) = some k_polyline_Check := by kernel_rfl
theorem ok79 : (Tryz.prog.funcs[79]?).bind (fun F => F.body.bind fun _ => cfn Tryz.prog (plan 79) F) = some k_slices_ContainsFunc_Spot_Spot := by kernel_rfl
theorem ok91 : (Tryz.prog.funcs[91]?).bind (fun F => F.body.bind fun _ => cfn Tryz.prog (plan 91) F) = some k_cmp_Compare_int := by kernel_rfl
theorem ok95 : (Tryz.prog.funcs[95]?).bind (fun F => F.body.bind fun _ => cfn Tryz.prog (plan 95) F) = some k_allowance_exact := by kernel_rfl
theorem ok107 : (Tryz.prog.funcs[107]?).bind (fun F => F.body.bind fun _ => cfn Tryz.prog (plan 107) F) = some k_r10_Far := by kernel_rfl
theorem ok119 : (Tryz.prog.funcs[119]?).bind (fun F => F.body.bind fun _ => cfn Tryz.prog (plan 119) F) = some k_slices_IndexFunc_Spot_Spot := by kernel_rfl
theorem ok123 : (Tryz.prog.funcs[123]?).bind (fun F => F.body.bind fun _ => cfn Tryz.prog (plan 123) F) = some k_integer_Small := by kernel_rfl
theorem ok132 : (Tryz.prog.funcs[132]?).bind (fun F => F.body.bind fun _ => cfn Tryz.prog (plan 132) F) = some k_r24_root := by kernel_rfl
theorem ok136 : (Tryz.prog.funcs[136]?).bind (fun F => F.body.bind fun _ => cfn Tryz.prog (plan 136) F) = some k_point_On := by kernel_rfl
theorem ok148 : (Tryz.prog.funcs[148]?).bind (fun F => F.body.bind fun _ => cfn Tryz.prog (plan 148) F) = some k_r11_meet := by kernel_rfl
theorem ok152 : (Tryz.prog.funcs[152]?).bind (fun F => F.body.bind fun _ => cfn Tryz.prog (plan 152) F) = some k_r10_far := by kernel_rfl
theorem ok164 : (Tryz.prog.funcs[164]?).bind (fun F => F.body.bind fun _ => cfn Tryz.prog (plan 164) F) = some k_polygon_parted := by kernel_rfl
theorem ok168 : (Tryz.prog.funcs[168]?).bind (fun F => F.body.bind fun _ => cfn Tryz.prog (plan 168) F) = some k_natural_DivMod := by kernel_rfl
theorem ok172 : (Tryz.prog.funcs[172]?).bind (fun F => F.body.bind fun _ => cfn Tryz.prog (plan 172) F) = some k_ratio_reduce := by kernel_rfl
theorem ok176 : (Tryz.prog.funcs[176]?).bind (fun F => F.body.bind fun _ => cfn Tryz.prog (plan 176) F) = some k_ratio_Add := by kernel_rfl
theorem ok192 : (Tryz.prog.funcs[192]?).bind (fun F => F.body.bind fun _ => cfn Tryz.prog (plan 192) F) = some k_r11_Cross := by kernel_rfl
theorem ok200 : (Tryz.prog.funcs[200]?).bind (fun F => F.body.bind fun _ => cfn Tryz.prog (plan 200) F) = some k_integer_signed := by kernel_rfl
theorem ok204 : (Tryz.prog.funcs[204]?).bind (fun F => F.body.bind fun _ => cfn Tryz.prog (plan 204) F) = some k_natural_Norm := by kernel_rfl
theorem ok208 : (Tryz.prog.funcs[208]?).bind (fun F => F.body.bind fun _ => cfn Tryz.prog (plan 208) F) = some k_natural_digit := by kernel_rfl
theorem ok212 : (Tryz.prog.funcs[212]?).bind (fun F => F.body.bind fun _ => cfn Tryz.prog (plan 212) F) = some k_natural_Gcd := by kernel_rfl
theorem ok216 : (Tryz.prog.funcs[216]?).bind (fun F => F.body.bind fun _ => cfn Tryz.prog (plan 216) F) = some k_integer_Neg := by kernel_rfl
theorem ok228 : (Tryz.prog.funcs[228]?).bind (fun F => F.body.bind fun _ => cfn Tryz.prog (plan 228) F) = some k_formula_operands := by kernel_rfl
theorem ok232 : (Tryz.prog.funcs[232]?).bind (fun F => F.body.bind fun _ => cfn Tryz.prog (plan 232) F) = some k_cmp_Compare_uint32 := by kernel_rfl
end Go.F

/- The functions of this seat compile to the code of the table, part 2. -/
namespace Go.F
open Go.Proofs

set_option maxRecDepth 100000
theorem ok16 : (Tryz.prog.funcs[16]?).bind (fun F => F.body.bind fun _ => cfn Tryz.prog (plan 16) F) = some k_l24_exampleHolds := by kernel_rfl
theorem ok20 : (Tryz.prog.funcs[20]?).bind (fun F => F.body.bind fun _ => cfn Tryz.prog (plan 20) F) = some k_allowance_Allow := by kernel_rfl
theorem ok24 : (Tryz.prog.funcs[24]?).bind (fun F => F.body.bind fun _ => cfn Tryz.prog (plan 24) F) = some k_outline_Polygon := by kernel_rfl
theorem ok36 : (Tryz.prog.funcs[36]?).bind (fun F => F.body.bind fun _ => cfn Tryz.prog (plan 36) F) = some k_polygon_Check := by kernel_rfl
theorem ok48 : (Tryz.prog.funcs[48]?).bind (fun F => F.body.bind fun _ => cfn Tryz.prog (plan 48) F) = some k_l24_rect := by kernel_rfl
theorem ok52 : (Tryz.prog.funcs[52]?).bind (fun F => F.body.bind fun _ => cfn Tryz.prog (plan 52) F) = some k_allowance_rounded := by kernel_rfl
theorem ok56 : (Tryz.prog.funcs[56]?).bind (fun F => F.body.bind fun _ => cfn Tryz.prog (plan 56) F) = some k_allowance_within := by kernel_rfl
theorem ok60 : (Tryz.prog.funcs[60]?).bind (fun F => F.body.bind fun _ => cfn Tryz.prog (plan 60) F) = some k_r11_Check := by kernel_rfl
theorem ok64 : (Tryz.prog.funcs[64]?).bind (fun F => F.body.bind fun _ => cfn Tryz.prog (plan 64) F) = some k_outline_vertices := by kernel_rfl
theorem ok68 : (Tryz.prog.funcs[68]?).bind (fun F => F.body.bind fun _ => cfn Tryz.prog (plan 68) F) = some k_r17_Name := by kernel_rfl
theorem ok80 : (Tryz.prog.funcs[80]?).bind (fun F => F.body.bind fun _ => cfn Tryz.prog (plan 80) F) = some k_polygon_outside := by kernel_rfl
theorem ok92 : (Tryz.prog.funcs[92]?).bind (fun F => F.body.bind fun _ => cfn Tryz.prog (plan 92) F) = some k_math_Sqrt := by kernel_rfl
theorem ok96 : (Tryz.prog.funcs[96]?).bind (fun F => F.body.bind fun _ => cfn Tryz.prog (plan 96) F) = some k_point_Sub := by kernel_rfl
theorem ok104 : (Tryz.prog.funcs[104]?).bind (fun F => F.body.bind fun _ => cfn Tryz.prog (plan 104) F) = some k_formula_Check := by kernel_rfl
theorem ok120 : (Tryz.prog.funcs[120]?).bind (fun F => F.body.bind fun _ => cfn Tryz.prog (plan 120) F) = some k_slices_Contains_Spot_Spot := by kernel_rfl
theorem ok124 : (Tryz.prog.funcs[124]?).bind (fun F => F.body.bind fun _ => cfn Tryz.prog (plan 124) F) = some k_ratio_Round := by kernel_rfl
theorem ok133 : (Tryz.prog.funcs[133]?).bind (fun F => F.body.bind fun _ => cfn Tryz.prog (plan 133) F) = some k_r24_round := by kernel_rfl
theorem ok137 : (Tryz.prog.funcs[137]?).bind (fun F => F.body.bind fun _ => cfn Tryz.prog (plan 137) F) = some k_point_Of := by kernel_rfl
theorem ok149 : (Tryz.prog.funcs[149]?).bind (fun F => F.body.bind fun _ => cfn Tryz.prog (plan 149) F) = some k_r11_Twice := by kernel_rfl
theorem ok165 : (Tryz.prog.funcs[165]?).bind (fun F => F.body.bind fun _ => cfn Tryz.prog (plan 165) F) = some k_integer_Norm := by kernel_rfl
theorem ok173 : (Tryz.prog.funcs[173]?).bind (fun F => F.body.bind fun _ => cfn Tryz.prog (plan 173) F) = some k_ratio_Mul := by kernel_rfl
theorem ok177 : (Tryz.prog.funcs[177]?).bind (fun F => F.body.bind fun _ => cfn Tryz.prog (plan 177) F) = some k_ratio_Neg := by kernel_rfl
theorem ok193 : (Tryz.prog.funcs[193]?).bind (fun F => F.body.bind fun _ => cfn Tryz.prog (plan 193) F) = some k_r11_sign := by kernel_rfl
theorem ok201 : (Tryz.prog.funcs[201]?).bind (fun F => F.body.bind fun _ => cfn Tryz.prog (plan 201) F) = some k_natural_Of := by kernel_rfl
theorem ok205 : (Tryz.prog.funcs[205]?).bind (fun F => F.body.bind fun _ => cfn Tryz.prog (plan 205) F) = some k_natural_short := by kernel_rfl
theorem ok209 : (Tryz.prog.funcs[209]?).bind (fun F => F.body.bind fun _ => cfn Tryz.prog (plan 209) F) = some k_natural_right := by kernel_rfl
theorem ok213 : (Tryz.prog.funcs[213]?).bind (fun F => F.body.bind fun _ => cfn Tryz.prog (plan 213) F) = some k_integer_Mul := by kernel_rfl
theorem ok229 : (Tryz.prog.funcs[229]?).bind (fun F => F.body.bind fun _ => cfn Tryz.prog (plan 229) F) = some k_formula_isName := by kernel_rfl
theorem ok233 : (Tryz.prog.funcs[233]?).bind (fun F => F.body.bind fun _ => cfn Tryz.prog (plan 233) F) = some k_natural_Sub := by kernel_rfl
theorem ok237 : (Tryz.prog.funcs[237]?).bind (fun F => F.body.bind fun _ => cfn Tryz.prog (plan 237) F) = some k_cmp_isNaN_uint32 := by kernel_rfl

end Go.F

/- The functions of this seat compile to the code of the table, part 3. -/
namespace Go.F
open Go.Proofs

set_option maxRecDepth 100000
theorem ok17 : (Tryz.prog.funcs[17]?).bind (fun F => F.body.bind fun _ => cfn Tryz.prog (plan 17) F) = some k_allowance_Shifts := by kernel_rfl
theorem ok25 : (Tryz.prog.funcs[25]?).bind (fun F => F.body.bind fun _ => cfn Tryz.prog (plan 25) F) = some k_r20_Polygon := by kernel_rfl
theorem ok37 : (Tryz.prog.funcs[37]?).bind (fun F => F.body.bind fun _ => cfn Tryz.prog (plan 37) F) = some k_point_Grid := by kernel_rfl
theorem ok49 : (Tryz.prog.funcs[49]?).bind (fun F => F.body.bind fun _ => cfn Tryz.prog (plan 49) F) = some k_allowance_orientation := by kernel_rfl
theorem ok53 : (Tryz.prog.funcs[53]?).bind (fun F => F.body.bind fun _ => cfn Tryz.prog (plan 53) F) = some k_r24_Segments := by kernel_rfl
theorem ok61 : (Tryz.prog.funcs[61]?).bind (fun F => F.body.bind fun _ => cfn Tryz.prog (plan 61) F) = some k_r24_orientation := by kernel_rfl
theorem ok65 : (Tryz.prog.funcs[65]?).bind (fun F => F.body.bind fun _ => cfn Tryz.prog (plan 65) F) = some k_r20_Vertices := by kernel_rfl
theorem ok69 : (Tryz.prog.funcs[69]?).bind (fun F => F.body.bind fun _ => cfn Tryz.prog (plan 69) F) = some k_r20_named := by kernel_rfl
theorem ok81 : (Tryz.prog.funcs[81]?).bind (fun F => F.body.bind fun _ => cfn Tryz.prog (plan 81) F) = some k_polygon_simple := by kernel_rfl
theorem ok85 : (Tryz.prog.funcs[85]?).bind (fun F => F.body.bind fun _ => cfn Tryz.prog (plan 85) F) = some k_polygon_area := by kernel_rfl
theorem ok93 : (Tryz.prog.funcs[93]?).bind (fun F => F.body.bind fun _ => cfn Tryz.prog (plan 93) F) = some k_r24_shift := by kernel_rfl
theorem ok101 : (Tryz.prog.funcs[101]?).bind (fun F => F.body.bind fun _ => cfn Tryz.prog (plan 101) F) = some k_r11_simple := by kernel_rfl
theorem ok105 : (Tryz.prog.funcs[105]?).bind (fun F => F.body.bind fun _ => cfn Tryz.prog (plan 105) F) = some k_polyline_outside := by kernel_rfl
theorem ok121 : (Tryz.prog.funcs[121]?).bind (fun F => F.body.bind fun _ => cfn Tryz.prog (plan 121) F) = some k_polygon_folded := by kernel_rfl
theorem ok134 : (Tryz.prog.funcs[134]?).bind (fun F => F.body.bind fun _ => cfn Tryz.prog (plan 134) F) = some k_ratio_Div := by kernel_rfl
theorem ok138 : (Tryz.prog.funcs[138]?).bind (fun F => F.body.bind fun _ => cfn Tryz.prog (plan 138) F) = some k_ratio_Sub := by kernel_rfl
theorem ok154 : (Tryz.prog.funcs[154]?).bind (fun F => F.body.bind fun _ => cfn Tryz.prog (plan 154) F) = some k_ratio_Of := by kernel_rfl
theorem ok162 : (Tryz.prog.funcs[162]?).bind (fun F => F.body.bind fun _ => cfn Tryz.prog (plan 162) F) = some k_slices_Index_Spot_Spot := by kernel_rfl
theorem ok166 : (Tryz.prog.funcs[166]?).bind (fun F => F.body.bind fun _ => cfn Tryz.prog (plan 166) F) = some k_ratio_value := by kernel_rfl
theorem ok170 : (Tryz.prog.funcs[170]?).bind (fun F => F.body.bind fun _ => cfn Tryz.prog (plan 170) F) = some k_ratio_zero := by kernel_rfl
theorem ok174 : (Tryz.prog.funcs[174]?).bind (fun F => F.body.bind fun _ => cfn Tryz.prog (plan 174) F) = some k_point_Add := by kernel_rfl
theorem ok194 : (Tryz.prog.funcs[194]?).bind (fun F => F.body.bind fun _ => cfn Tryz.prog (plan 194) F) = some k_formula_right := by kernel_rfl
theorem ok202 : (Tryz.prog.funcs[202]?).bind (fun F => F.body.bind fun _ => cfn Tryz.prog (plan 202) F) = some k_natural_trim := by kernel_rfl
theorem ok206 : (Tryz.prog.funcs[206]?).bind (fun F => F.body.bind fun _ => cfn Tryz.prog (plan 206) F) = some k_bits_LeadingZeros32 := by kernel_rfl
theorem ok210 : (Tryz.prog.funcs[210]?).bind (fun F => F.body.bind fun _ => cfn Tryz.prog (plan 210) F) = some k_bits_Len32 := by kernel_rfl
theorem ok214 : (Tryz.prog.funcs[214]?).bind (fun F => F.body.bind fun _ => cfn Tryz.prog (plan 214) F) = some k_integer_Add := by kernel_rfl
end Go.F

/- The functions of this seat compile to the code of the table, part 4. -/
namespace Go.F
open Go.Proofs

set_option maxRecDepth 100000
theorem ok18 : (Tryz.prog.funcs[18]?).bind (fun F => F.body.bind fun _ => cfn Tryz.prog (plan 18) F) = some k_r24_Shifts := by kernel_rfl
theorem ok26 : (Tryz.prog.funcs[26]?).bind (fun F => F.body.bind fun _ => cfn Tryz.prog (plan 26) F) = some k_outline_Check := by kernel_rfl
theorem ok42 : (Tryz.prog.funcs[42]?).bind (fun F => F.body.bind fun _ => cfn Tryz.prog (plan 42) F) = some k_polygon_Area2 := by kernel_rfl
theorem ok46 : (Tryz.prog.funcs[46]?).bind (fun F => F.body.bind fun _ => cfn Tryz.prog (plan 46) F) = some k_r24_Vertices := by kernel_rfl
theorem ok50 : (Tryz.prog.funcs[50]?).bind (fun F => F.body.bind fun _ => cfn Tryz.prog (plan 50) F) = some k_allowance_segmentWidths := by kernel_rfl
theorem ok54 : (Tryz.prog.funcs[54]?).bind (fun F => F.body.bind fun _ => cfn Tryz.prog (plan 54) F) = some k_allowance_sum := by kernel_rfl
theorem ok66 : (Tryz.prog.funcs[66]?).bind (fun F => F.body.bind fun _ => cfn Tryz.prog (plan 66) F) = some k_outline_isName := by kernel_rfl
theorem ok70 : (Tryz.prog.funcs[70]?).bind (fun F => F.body.bind fun _ => cfn Tryz.prog (plan 70) F) = some k_r10_Check := by kernel_rfl
theorem ok82 : (Tryz.prog.funcs[82]?).bind (fun F => F.body.bind fun _ => cfn Tryz.prog (plan 82) F) = some k_point_coordinate := by kernel_rfl
theorem ok94 : (Tryz.prog.funcs[94]?).bind (fun F => F.body.bind fun _ => cfn Tryz.prog (plan 94) F) = some k_point_Meet := by kernel_rfl
theorem ok102 : (Tryz.prog.funcs[102]?).bind (fun F => F.body.bind fun _ => cfn Tryz.prog (plan 102) F) = some k_r11_Area2 := by kernel_rfl
theorem ok106 : (Tryz.prog.funcs[106]?).bind (fun F => F.body.bind fun _ => cfn Tryz.prog (plan 106) F) = some k_r17_digit := by kernel_rfl
theorem ok122 : (Tryz.prog.funcs[122]?).bind (fun F => F.body.bind fun _ => cfn Tryz.prog (plan 122) F) = some k_polygon_meet := by kernel_rfl
theorem ok126 : (Tryz.prog.funcs[126]?).bind (fun F => F.body.bind fun _ => cfn Tryz.prog (plan 126) F) = some k_polygon_cross := by kernel_rfl
theorem ok130 : (Tryz.prog.funcs[130]?).bind (fun F => F.body.bind fun _ => cfn Tryz.prog (plan 130) F) = some k_cmp_isNaN_int := by kernel_rfl
theorem ok135 : (Tryz.prog.funcs[135]?).bind (fun F => F.body.bind fun _ => cfn Tryz.prog (plan 135) F) = some k_point_Cross := by kernel_rfl
theorem ok147 : (Tryz.prog.funcs[147]?).bind (fun F => F.body.bind fun _ => cfn Tryz.prog (plan 147) F) = some k_r11_Between := by kernel_rfl
theorem ok151 : (Tryz.prog.funcs[151]?).bind (fun F => F.body.bind fun _ => cfn Tryz.prog (plan 151) F) = some k_formula_check := by kernel_rfl
theorem ok163 : (Tryz.prog.funcs[163]?).bind (fun F => F.body.bind fun _ => cfn Tryz.prog (plan 163) F) = some k_polygon_on := by kernel_rfl
theorem ok167 : (Tryz.prog.funcs[167]?).bind (fun F => F.body.bind fun _ => cfn Tryz.prog (plan 167) F) = some k_natural_Add := by kernel_rfl
theorem ok171 : (Tryz.prog.funcs[171]?).bind (fun F => F.body.bind fun _ => cfn Tryz.prog (plan 171) F) = some k_natural_Mul := by kernel_rfl
theorem ok175 : (Tryz.prog.funcs[175]?).bind (fun F => F.body.bind fun _ => cfn Tryz.prog (plan 175) F) = some k_point_Scale := by kernel_rfl
theorem ok195 : (Tryz.prog.funcs[195]?).bind (fun F => F.body.bind fun _ => cfn Tryz.prog (plan 195) F) = some k_integer_Of := by kernel_rfl
theorem ok203 : (Tryz.prog.funcs[203]?).bind (fun F => F.body.bind fun _ => cfn Tryz.prog (plan 203) F) = some k_natural_Cmp := by kernel_rfl
theorem ok207 : (Tryz.prog.funcs[207]?).bind (fun F => F.body.bind fun _ => cfn Tryz.prog (plan 207) F) = some k_natural_left := by kernel_rfl
theorem ok215 : (Tryz.prog.funcs[215]?).bind (fun F => F.body.bind fun _ => cfn Tryz.prog (plan 215) F) = some k_ratio_positive := by kernel_rfl
theorem ok235 : (Tryz.prog.funcs[235]?).bind (fun F => F.body.bind fun _ => cfn Tryz.prog (plan 235) F) = some k_formula_isDigit := by kernel_rfl

end Go.F
