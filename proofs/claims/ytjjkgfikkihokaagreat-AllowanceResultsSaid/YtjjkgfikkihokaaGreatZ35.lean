/- Parts of the proof, part 35: Tab1, Tab2, Tab3, Tab4. -/
import Derived.Test.YtjjkgfikkihokaaGreatZ33
import Derived.Test.YtjjkgfikkihokaaGreatZ25
import Derived.Test.YtjjkgfikkihokaaGreatProg
import Derived.KernelRfl
set_option linter.all false
namespace Go.F
open Go.Proofs
set_option maxRecDepth 100000
theorem ok15 : (Tryz.prog.funcs[15]?).bind (fun F => F.body.bind fun _ => cfn Tryz.prog (q0t 15) F) = some q47 := by kernel_rfl
theorem ok19 : (Tryz.prog.funcs[19]?).bind (fun F => F.body.bind fun _ => cfn Tryz.prog (q0t 19) F) = some qat := by kernel_rfl
theorem ok27 : (Tryz.prog.funcs[27]?).bind (fun F => F.body.bind fun _ => cfn Tryz.prog (q0t 27) F) = some q9a := by kernel_rfl
theorem ok47 : (Tryz.prog.funcs[47]?).bind (fun F => F.body.bind fun _ => cfn Tryz.prog (q0t 47) F) = some q9b := by kernel_rfl
theorem ok51 : (Tryz.prog.funcs[51]?).bind (fun F => F.body.bind fun _ => cfn Tryz.prog (q0t 51) F) = some q4S := by kernel_rfl
theorem ok55 : (Tryz.prog.funcs[55]?).bind (fun F => F.body.bind fun _ => cfn Tryz.prog (q0t 55) F) = some q3W := by kernel_rfl
theorem ok59 : (Tryz.prog.funcs[59]?).bind (fun F => F.body.bind fun _ => cfn Tryz.prog (q0t 59) F) = some q7U := by kernel_rfl
theorem ok63 : (Tryz.prog.funcs[63]?).bind (fun F => F.body.bind fun _ => cfn Tryz.prog (q0t 63) F) = some qe6 := by kernel_rfl
theorem ok67 : (Tryz.prog.funcs[67]?).bind (fun F => F.body.bind fun _ => cfn Tryz.prog (q0t 67) F) = some q4U := by kernel_rfl
theorem ok79 : (Tryz.prog.funcs[79]?).bind (fun F => F.body.bind fun _ => cfn Tryz.prog (q0t 79) F) = some q1p := by kernel_rfl
theorem ok91 : (Tryz.prog.funcs[91]?).bind (fun F => F.body.bind fun _ => cfn Tryz.prog (q0t 91) F) = some q4v := by kernel_rfl
theorem ok95 : (Tryz.prog.funcs[95]?).bind (fun F => F.body.bind fun _ => cfn Tryz.prog (q0t 95) F) = some q4w := by kernel_rfl
theorem ok99 : (Tryz.prog.funcs[99]?).bind (fun F => F.body.bind fun _ => cfn Tryz.prog (q0t 99) F) = some qbT := by kernel_rfl
theorem ok103 : (Tryz.prog.funcs[103]?).bind (fun F => F.body.bind fun _ => cfn Tryz.prog (q0t 103) F) = some q9j := by kernel_rfl
theorem ok107 : (Tryz.prog.funcs[107]?).bind (fun F => F.body.bind fun _ => cfn Tryz.prog (q0t 107) F) = some qbU := by kernel_rfl
theorem ok119 : (Tryz.prog.funcs[119]?).bind (fun F => F.body.bind fun _ => cfn Tryz.prog (q0t 119) F) = some q1A := by kernel_rfl
theorem ok123 : (Tryz.prog.funcs[123]?).bind (fun F => F.body.bind fun _ => cfn Tryz.prog (q0t 123) F) = some q5z := by kernel_rfl
theorem ok132 : (Tryz.prog.funcs[132]?).bind (fun F => F.body.bind fun _ => cfn Tryz.prog (q0t 132) F) = some qaz := by kernel_rfl
theorem ok136 : (Tryz.prog.funcs[136]?).bind (fun F => F.body.bind fun _ => cfn Tryz.prog (q0t 136) F) = some qaA := by kernel_rfl
theorem ok140 : (Tryz.prog.funcs[140]?).bind (fun F => F.body.bind fun _ => cfn Tryz.prog (q0t 140) F) = some q9o := by kernel_rfl
theorem ok144 : (Tryz.prog.funcs[144]?).bind (fun F => F.body.bind fun _ => cfn Tryz.prog (q0t 144) F) = some q9q := by kernel_rfl
theorem ok148 : (Tryz.prog.funcs[148]?).bind (fun F => F.body.bind fun _ => cfn Tryz.prog (q0t 148) F) = some qaC := by kernel_rfl
theorem ok152 : (Tryz.prog.funcs[152]?).bind (fun F => F.body.bind fun _ => cfn Tryz.prog (q0t 152) F) = some qbZ := by kernel_rfl
theorem ok164 : (Tryz.prog.funcs[164]?).bind (fun F => F.body.bind fun _ => cfn Tryz.prog (q0t 164) F) = some q4X := by kernel_rfl
theorem ok168 : (Tryz.prog.funcs[168]?).bind (fun F => F.body.bind fun _ => cfn Tryz.prog (q0t 168) F) = some q4Y := by kernel_rfl
theorem ok172 : (Tryz.prog.funcs[172]?).bind (fun F => F.body.bind fun _ => cfn Tryz.prog (q0t 172) F) = some q6h := by kernel_rfl
theorem ok176 : (Tryz.prog.funcs[176]?).bind (fun F => F.body.bind fun _ => cfn Tryz.prog (q0t 176) F) = some q9v := by kernel_rfl
theorem ok180 : (Tryz.prog.funcs[180]?).bind (fun F => F.body.bind fun _ => cfn Tryz.prog (q0t 180) F) = some q7Z := by kernel_rfl
theorem ok184 : (Tryz.prog.funcs[184]?).bind (fun F => F.body.bind fun _ => cfn Tryz.prog (q0t 184) F) = some q9x := by kernel_rfl
theorem ok188 : (Tryz.prog.funcs[188]?).bind (fun F => F.body.bind fun _ => cfn Tryz.prog (q0t 188) F) = some qc3 := by kernel_rfl
theorem ok192 : (Tryz.prog.funcs[192]?).bind (fun F => F.body.bind fun _ => cfn Tryz.prog (q0t 192) F) = some q9y := by kernel_rfl
theorem ok200 : (Tryz.prog.funcs[200]?).bind (fun F => F.body.bind fun _ => cfn Tryz.prog (q0t 200) F) = some q4Z := by kernel_rfl
theorem ok204 : (Tryz.prog.funcs[204]?).bind (fun F => F.body.bind fun _ => cfn Tryz.prog (q0t 204) F) = some q6j := by kernel_rfl
theorem ok208 : (Tryz.prog.funcs[208]?).bind (fun F => F.body.bind fun _ => cfn Tryz.prog (q0t 208) F) = some k_natural_digit := by kernel_rfl
theorem ok212 : (Tryz.prog.funcs[212]?).bind (fun F => F.body.bind fun _ => cfn Tryz.prog (q0t 212) F) = some q71 := by kernel_rfl
theorem ok216 : (Tryz.prog.funcs[216]?).bind (fun F => F.body.bind fun _ => cfn Tryz.prog (q0t 216) F) = some q74 := by kernel_rfl
theorem ok220 : (Tryz.prog.funcs[220]?).bind (fun F => F.body.bind fun _ => cfn Tryz.prog (q0t 220) F) = some q9z := by kernel_rfl
theorem ok224 : (Tryz.prog.funcs[224]?).bind (fun F => F.body.bind fun _ => cfn Tryz.prog (q0t 224) F) = some qaL := by kernel_rfl
theorem ok228 : (Tryz.prog.funcs[228]?).bind (fun F => F.body.bind fun _ => cfn Tryz.prog (q0t 228) F) = some q41 := by kernel_rfl
theorem ok232 : (Tryz.prog.funcs[232]?).bind (fun F => F.body.bind fun _ => cfn Tryz.prog (q0t 232) F) = some q33 := by kernel_rfl
end Go.F

namespace Go.F
open Go.Proofs
set_option maxRecDepth 100000
theorem ok4 : (Tryz.prog.funcs[4]?).bind (fun F => F.body.bind fun _ => cfn Tryz.prog (q0t 4) F) = some q2C := by kernel_rfl
theorem ok16 : (Tryz.prog.funcs[16]?).bind (fun F => F.body.bind fun _ => cfn Tryz.prog (q0t 16) F) = some q3U := by kernel_rfl
theorem ok20 : (Tryz.prog.funcs[20]?).bind (fun F => F.body.bind fun _ => cfn Tryz.prog (q0t 20) F) = some q4r := by kernel_rfl
theorem ok24 : (Tryz.prog.funcs[24]?).bind (fun F => F.body.bind fun _ => cfn Tryz.prog (q0t 24) F) = some q4s := by kernel_rfl
theorem ok36 : (Tryz.prog.funcs[36]?).bind (fun F => F.body.bind fun _ => cfn Tryz.prog (q0t 36) F) = some q5v := by kernel_rfl
theorem ok48 : (Tryz.prog.funcs[48]?).bind (fun F => F.body.bind fun _ => cfn Tryz.prog (q0t 48) F) = some qau := by kernel_rfl
theorem ok52 : (Tryz.prog.funcs[52]?).bind (fun F => F.body.bind fun _ => cfn Tryz.prog (q0t 52) F) = some q2f := by kernel_rfl
theorem ok56 : (Tryz.prog.funcs[56]?).bind (fun F => F.body.bind fun _ => cfn Tryz.prog (q0t 56) F) = some q3X := by kernel_rfl
theorem ok60 : (Tryz.prog.funcs[60]?).bind (fun F => F.body.bind fun _ => cfn Tryz.prog (q0t 60) F) = some q9c := by kernel_rfl
theorem ok64 : (Tryz.prog.funcs[64]?).bind (fun F => F.body.bind fun _ => cfn Tryz.prog (q0t 64) F) = some q3Y := by kernel_rfl
theorem ok68 : (Tryz.prog.funcs[68]?).bind (fun F => F.body.bind fun _ => cfn Tryz.prog (q0t 68) F) = some qaw := by kernel_rfl
theorem ok80 : (Tryz.prog.funcs[80]?).bind (fun F => F.body.bind fun _ => cfn Tryz.prog (q0t 80) F) = some q4u := by kernel_rfl
theorem ok92 : (Tryz.prog.funcs[92]?).bind (fun F => F.body.bind fun _ => cfn Tryz.prog (q0t 92) F) = some q9f := by kernel_rfl
theorem ok96 : (Tryz.prog.funcs[96]?).bind (fun F => F.body.bind fun _ => cfn Tryz.prog (q0t 96) F) = some q9h := by kernel_rfl
theorem ok100 : (Tryz.prog.funcs[100]?).bind (fun F => F.body.bind fun _ => cfn Tryz.prog (q0t 100) F) = some qay := by kernel_rfl
theorem ok104 : (Tryz.prog.funcs[104]?).bind (fun F => F.body.bind fun _ => cfn Tryz.prog (q0t 104) F) = some q5y := by kernel_rfl
theorem ok120 : (Tryz.prog.funcs[120]?).bind (fun F => F.body.bind fun _ => cfn Tryz.prog (q0t 120) F) = some q1F := by kernel_rfl
theorem ok124 : (Tryz.prog.funcs[124]?).bind (fun F => F.body.bind fun _ => cfn Tryz.prog (q0t 124) F) = some q6T := by kernel_rfl
theorem ok133 : (Tryz.prog.funcs[133]?).bind (fun F => F.body.bind fun _ => cfn Tryz.prog (q0t 133) F) = some q9l := by kernel_rfl
theorem ok137 : (Tryz.prog.funcs[137]?).bind (fun F => F.body.bind fun _ => cfn Tryz.prog (q0t 137) F) = some qaB := by kernel_rfl
theorem ok141 : (Tryz.prog.funcs[141]?).bind (fun F => F.body.bind fun _ => cfn Tryz.prog (q0t 141) F) = some qbX := by kernel_rfl
theorem ok145 : (Tryz.prog.funcs[145]?).bind (fun F => F.body.bind fun _ => cfn Tryz.prog (q0t 145) F) = some qbY := by kernel_rfl
theorem ok149 : (Tryz.prog.funcs[149]?).bind (fun F => F.body.bind fun _ => cfn Tryz.prog (q0t 149) F) = some q9s := by kernel_rfl
theorem ok165 : (Tryz.prog.funcs[165]?).bind (fun F => F.body.bind fun _ => cfn Tryz.prog (q0t 165) F) = some q6g := by kernel_rfl
theorem ok173 : (Tryz.prog.funcs[173]?).bind (fun F => F.body.bind fun _ => cfn Tryz.prog (q0t 173) F) = some q9t := by kernel_rfl
theorem ok177 : (Tryz.prog.funcs[177]?).bind (fun F => F.body.bind fun _ => cfn Tryz.prog (q0t 177) F) = some q9w := by kernel_rfl
theorem ok181 : (Tryz.prog.funcs[181]?).bind (fun F => F.body.bind fun _ => cfn Tryz.prog (q0t 181) F) = some qc0 := by kernel_rfl
theorem ok185 : (Tryz.prog.funcs[185]?).bind (fun F => F.body.bind fun _ => cfn Tryz.prog (q0t 185) F) = some qaG := by kernel_rfl
theorem ok189 : (Tryz.prog.funcs[189]?).bind (fun F => F.body.bind fun _ => cfn Tryz.prog (q0t 189) F) = some qc4 := by kernel_rfl
theorem ok193 : (Tryz.prog.funcs[193]?).bind (fun F => F.body.bind fun _ => cfn Tryz.prog (q0t 193) F) = some qaH := by kernel_rfl
theorem ok201 : (Tryz.prog.funcs[201]?).bind (fun F => F.body.bind fun _ => cfn Tryz.prog (q0t 201) F) = some q82 := by kernel_rfl
theorem ok205 : (Tryz.prog.funcs[205]?).bind (fun F => F.body.bind fun _ => cfn Tryz.prog (q0t 205) F) = some q5E := by kernel_rfl
theorem ok209 : (Tryz.prog.funcs[209]?).bind (fun F => F.body.bind fun _ => cfn Tryz.prog (q0t 209) F) = some q5F := by kernel_rfl
theorem ok213 : (Tryz.prog.funcs[213]?).bind (fun F => F.body.bind fun _ => cfn Tryz.prog (q0t 213) F) = some q72 := by kernel_rfl
theorem ok217 : (Tryz.prog.funcs[217]?).bind (fun F => F.body.bind fun _ => cfn Tryz.prog (q0t 217) F) = some qaI := by kernel_rfl
theorem ok221 : (Tryz.prog.funcs[221]?).bind (fun F => F.body.bind fun _ => cfn Tryz.prog (q0t 221) F) = some qaK := by kernel_rfl
theorem ok225 : (Tryz.prog.funcs[225]?).bind (fun F => F.body.bind fun _ => cfn Tryz.prog (q0t 225) F) = some qc8 := by kernel_rfl
theorem ok229 : (Tryz.prog.funcs[229]?).bind (fun F => F.body.bind fun _ => cfn Tryz.prog (q0t 229) F) = some q51 := by kernel_rfl
theorem ok233 : (Tryz.prog.funcs[233]?).bind (fun F => F.body.bind fun _ => cfn Tryz.prog (q0t 233) F) = some q75 := by kernel_rfl
theorem ok237 : (Tryz.prog.funcs[237]?).bind (fun F => F.body.bind fun _ => cfn Tryz.prog (q0t 237) F) = some q42 := by kernel_rfl
end Go.F

namespace Go.F
open Go.Proofs
set_option maxRecDepth 100000
theorem ok17 : (Tryz.prog.funcs[17]?).bind (fun F => F.body.bind fun _ => cfn Tryz.prog (q0t 17) F) = some q3V := by kernel_rfl
theorem ok21 : (Tryz.prog.funcs[21]?).bind (fun F => F.body.bind fun _ => cfn Tryz.prog (q0t 21) F) = some q99 := by kernel_rfl
theorem ok25 : (Tryz.prog.funcs[25]?).bind (fun F => F.body.bind fun _ => cfn Tryz.prog (q0t 25) F) = some q6S := by kernel_rfl
theorem ok37 : (Tryz.prog.funcs[37]?).bind (fun F => F.body.bind fun _ => cfn Tryz.prog (q0t 37) F) = some q7S := by kernel_rfl
theorem ok49 : (Tryz.prog.funcs[49]?).bind (fun F => F.body.bind fun _ => cfn Tryz.prog (q0t 49) F) = some q2m := by kernel_rfl
theorem ok53 : (Tryz.prog.funcs[53]?).bind (fun F => F.body.bind fun _ => cfn Tryz.prog (q0t 53) F) = some q6c := by kernel_rfl
theorem ok57 : (Tryz.prog.funcs[57]?).bind (fun F => F.body.bind fun _ => cfn Tryz.prog (q0t 57) F) = some q7T := by kernel_rfl
theorem ok61 : (Tryz.prog.funcs[61]?).bind (fun F => F.body.bind fun _ => cfn Tryz.prog (q0t 61) F) = some q4t := by kernel_rfl
theorem ok65 : (Tryz.prog.funcs[65]?).bind (fun F => F.body.bind fun _ => cfn Tryz.prog (q0t 65) F) = some q6d := by kernel_rfl
theorem ok69 : (Tryz.prog.funcs[69]?).bind (fun F => F.body.bind fun _ => cfn Tryz.prog (q0t 69) F) = some q9d := by kernel_rfl
theorem ok81 : (Tryz.prog.funcs[81]?).bind (fun F => F.body.bind fun _ => cfn Tryz.prog (q0t 81) F) = some q4V := by kernel_rfl
theorem ok85 : (Tryz.prog.funcs[85]?).bind (fun F => F.body.bind fun _ => cfn Tryz.prog (q0t 85) F) = some q6e := by kernel_rfl
theorem ok93 : (Tryz.prog.funcs[93]?).bind (fun F => F.body.bind fun _ => cfn Tryz.prog (q0t 93) F) = some q9g := by kernel_rfl
theorem ok97 : (Tryz.prog.funcs[97]?).bind (fun F => F.body.bind fun _ => cfn Tryz.prog (q0t 97) F) = some qax := by kernel_rfl
theorem ok101 : (Tryz.prog.funcs[101]?).bind (fun F => F.body.bind fun _ => cfn Tryz.prog (q0t 101) F) = some q7W := by kernel_rfl
theorem ok105 : (Tryz.prog.funcs[105]?).bind (fun F => F.body.bind fun _ => cfn Tryz.prog (q0t 105) F) = some q40 := by kernel_rfl
theorem ok121 : (Tryz.prog.funcs[121]?).bind (fun F => F.body.bind fun _ => cfn Tryz.prog (q0t 121) F) = some q4W := by kernel_rfl
theorem ok134 : (Tryz.prog.funcs[134]?).bind (fun F => F.body.bind fun _ => cfn Tryz.prog (q0t 134) F) = some q9m := by kernel_rfl
theorem ok138 : (Tryz.prog.funcs[138]?).bind (fun F => F.body.bind fun _ => cfn Tryz.prog (q0t 138) F) = some q9n := by kernel_rfl
theorem ok142 : (Tryz.prog.funcs[142]?).bind (fun F => F.body.bind fun _ => cfn Tryz.prog (q0t 142) F) = some qe8 := by kernel_rfl
theorem ok146 : (Tryz.prog.funcs[146]?).bind (fun F => F.body.bind fun _ => cfn Tryz.prog (q0t 146) F) = some q9r := by kernel_rfl
theorem ok150 : (Tryz.prog.funcs[150]?).bind (fun F => F.body.bind fun _ => cfn Tryz.prog (q0t 150) F) = some qe9 := by kernel_rfl
theorem ok154 : (Tryz.prog.funcs[154]?).bind (fun F => F.body.bind fun _ => cfn Tryz.prog (q0t 154) F) = some qaD := by kernel_rfl
theorem ok162 : (Tryz.prog.funcs[162]?).bind (fun F => F.body.bind fun _ => cfn Tryz.prog (q0t 162) F) = some q2a := by kernel_rfl
theorem ok166 : (Tryz.prog.funcs[166]?).bind (fun F => F.body.bind fun _ => cfn Tryz.prog (q0t 166) F) = some q6W := by kernel_rfl
theorem ok170 : (Tryz.prog.funcs[170]?).bind (fun F => F.body.bind fun _ => cfn Tryz.prog (q0t 170) F) = some q7Y := by kernel_rfl
theorem ok174 : (Tryz.prog.funcs[174]?).bind (fun F => F.body.bind fun _ => cfn Tryz.prog (q0t 174) F) = some q9u := by kernel_rfl
theorem ok178 : (Tryz.prog.funcs[178]?).bind (fun F => F.body.bind fun _ => cfn Tryz.prog (q0t 178) F) = some qaE := by kernel_rfl
theorem ok182 : (Tryz.prog.funcs[182]?).bind (fun F => F.body.bind fun _ => cfn Tryz.prog (q0t 182) F) = some qc1 := by kernel_rfl
theorem ok186 : (Tryz.prog.funcs[186]?).bind (fun F => F.body.bind fun _ => cfn Tryz.prog (q0t 186) F) = some qea := by kernel_rfl
theorem ok190 : (Tryz.prog.funcs[190]?).bind (fun F => F.body.bind fun _ => cfn Tryz.prog (q0t 190) F) = some qc5 := by kernel_rfl
theorem ok194 : (Tryz.prog.funcs[194]?).bind (fun F => F.body.bind fun _ => cfn Tryz.prog (q0t 194) F) = some q5D := by kernel_rfl
theorem ok202 : (Tryz.prog.funcs[202]?).bind (fun F => F.body.bind fun _ => cfn Tryz.prog (q0t 202) F) = some q6i := by kernel_rfl
theorem ok206 : (Tryz.prog.funcs[206]?).bind (fun F => F.body.bind fun _ => cfn Tryz.prog (q0t 206) F) = some q2N := by kernel_rfl
theorem ok210 : (Tryz.prog.funcs[210]?).bind (fun F => F.body.bind fun _ => cfn Tryz.prog (q0t 210) F) = some q3h := by kernel_rfl
theorem ok214 : (Tryz.prog.funcs[214]?).bind (fun F => F.body.bind fun _ => cfn Tryz.prog (q0t 214) F) = some q73 := by kernel_rfl
theorem ok218 : (Tryz.prog.funcs[218]?).bind (fun F => F.body.bind fun _ => cfn Tryz.prog (q0t 218) F) = some qc6 := by kernel_rfl
theorem ok222 : (Tryz.prog.funcs[222]?).bind (fun F => F.body.bind fun _ => cfn Tryz.prog (q0t 222) F) = some q9A := by kernel_rfl
theorem ok226 : (Tryz.prog.funcs[226]?).bind (fun F => F.body.bind fun _ => cfn Tryz.prog (q0t 226) F) = some qc9 := by kernel_rfl
theorem ok234 : (Tryz.prog.funcs[234]?).bind (fun F => F.body.bind fun _ => cfn Tryz.prog (q0t 234) F) = some qcb := by kernel_rfl
end Go.F

namespace Go.F
open Go.Proofs
set_option maxRecDepth 100000
theorem ok26 : (Tryz.prog.funcs[26]?).bind (fun F => F.body.bind fun _ => cfn Tryz.prog (q0t 26) F) = some q5u := by kernel_rfl
theorem ok42 : (Tryz.prog.funcs[42]?).bind (fun F => F.body.bind fun _ => cfn Tryz.prog (q0t 42) F) = some q5w := by kernel_rfl
theorem ok46 : (Tryz.prog.funcs[46]?).bind (fun F => F.body.bind fun _ => cfn Tryz.prog (q0t 46) F) = some q6b := by kernel_rfl
theorem ok50 : (Tryz.prog.funcs[50]?).bind (fun F => F.body.bind fun _ => cfn Tryz.prog (q0t 50) F) = some q1S := by kernel_rfl
theorem ok54 : (Tryz.prog.funcs[54]?).bind (fun F => F.body.bind fun _ => cfn Tryz.prog (q0t 54) F) = some q5x := by kernel_rfl
theorem ok58 : (Tryz.prog.funcs[58]?).bind (fun F => F.body.bind fun _ => cfn Tryz.prog (q0t 58) F) = some qav := by kernel_rfl
theorem ok66 : (Tryz.prog.funcs[66]?).bind (fun F => F.body.bind fun _ => cfn Tryz.prog (q0t 66) F) = some q4T := by kernel_rfl
theorem ok70 : (Tryz.prog.funcs[70]?).bind (fun F => F.body.bind fun _ => cfn Tryz.prog (q0t 70) F) = some q9e := by kernel_rfl
theorem ok82 : (Tryz.prog.funcs[82]?).bind (fun F => F.body.bind fun _ => cfn Tryz.prog (q0t 82) F) = some q3Z := by kernel_rfl
theorem ok94 : (Tryz.prog.funcs[94]?).bind (fun F => F.body.bind fun _ => cfn Tryz.prog (q0t 94) F) = some q7V := by kernel_rfl
theorem ok98 : (Tryz.prog.funcs[98]?).bind (fun F => F.body.bind fun _ => cfn Tryz.prog (q0t 98) F) = some qe7 := by kernel_rfl
theorem ok102 : (Tryz.prog.funcs[102]?).bind (fun F => F.body.bind fun _ => cfn Tryz.prog (q0t 102) F) = some q9i := by kernel_rfl
theorem ok106 : (Tryz.prog.funcs[106]?).bind (fun F => F.body.bind fun _ => cfn Tryz.prog (q0t 106) F) = some q9k := by kernel_rfl
theorem ok122 : (Tryz.prog.funcs[122]?).bind (fun F => F.body.bind fun _ => cfn Tryz.prog (q0t 122) F) = some q6f := by kernel_rfl
theorem ok126 : (Tryz.prog.funcs[126]?).bind (fun F => F.body.bind fun _ => cfn Tryz.prog (q0t 126) F) = some q5A := by kernel_rfl
theorem ok130 : (Tryz.prog.funcs[130]?).bind (fun F => F.body.bind fun _ => cfn Tryz.prog (q0t 130) F) = some q5B := by kernel_rfl
theorem ok135 : (Tryz.prog.funcs[135]?).bind (fun F => F.body.bind fun _ => cfn Tryz.prog (q0t 135) F) = some q6U := by kernel_rfl
theorem ok139 : (Tryz.prog.funcs[139]?).bind (fun F => F.body.bind fun _ => cfn Tryz.prog (q0t 139) F) = some qbW := by kernel_rfl
theorem ok143 : (Tryz.prog.funcs[143]?).bind (fun F => F.body.bind fun _ => cfn Tryz.prog (q0t 143) F) = some q9p := by kernel_rfl
theorem ok147 : (Tryz.prog.funcs[147]?).bind (fun F => F.body.bind fun _ => cfn Tryz.prog (q0t 147) F) = some q6V := by kernel_rfl
theorem ok151 : (Tryz.prog.funcs[151]?).bind (fun F => F.body.bind fun _ => cfn Tryz.prog (q0t 151) F) = some q5C := by kernel_rfl
theorem ok163 : (Tryz.prog.funcs[163]?).bind (fun F => F.body.bind fun _ => cfn Tryz.prog (q0t 163) F) = some q7X := by kernel_rfl
theorem ok167 : (Tryz.prog.funcs[167]?).bind (fun F => F.body.bind fun _ => cfn Tryz.prog (q0t 167) F) = some q6X := by kernel_rfl
theorem ok171 : (Tryz.prog.funcs[171]?).bind (fun F => F.body.bind fun _ => cfn Tryz.prog (q0t 171) F) = some q6Y := by kernel_rfl
theorem ok175 : (Tryz.prog.funcs[175]?).bind (fun F => F.body.bind fun _ => cfn Tryz.prog (q0t 175) F) = some q6Z := by kernel_rfl
theorem ok179 : (Tryz.prog.funcs[179]?).bind (fun F => F.body.bind fun _ => cfn Tryz.prog (q0t 179) F) = some qaF := by kernel_rfl
theorem ok183 : (Tryz.prog.funcs[183]?).bind (fun F => F.body.bind fun _ => cfn Tryz.prog (q0t 183) F) = some qc2 := by kernel_rfl
theorem ok187 : (Tryz.prog.funcs[187]?).bind (fun F => F.body.bind fun _ => cfn Tryz.prog (q0t 187) F) = some q80 := by kernel_rfl
theorem ok191 : (Tryz.prog.funcs[191]?).bind (fun F => F.body.bind fun _ => cfn Tryz.prog (q0t 191) F) = some qeb := by kernel_rfl
theorem ok195 : (Tryz.prog.funcs[195]?).bind (fun F => F.body.bind fun _ => cfn Tryz.prog (q0t 195) F) = some q81 := by kernel_rfl
theorem ok203 : (Tryz.prog.funcs[203]?).bind (fun F => F.body.bind fun _ => cfn Tryz.prog (q0t 203) F) = some q70 := by kernel_rfl
theorem ok207 : (Tryz.prog.funcs[207]?).bind (fun F => F.body.bind fun _ => cfn Tryz.prog (q0t 207) F) = some k_natural_left := by kernel_rfl
theorem ok215 : (Tryz.prog.funcs[215]?).bind (fun F => F.body.bind fun _ => cfn Tryz.prog (q0t 215) F) = some q50 := by kernel_rfl
theorem ok219 : (Tryz.prog.funcs[219]?).bind (fun F => F.body.bind fun _ => cfn Tryz.prog (q0t 219) F) = some qaJ := by kernel_rfl
theorem ok223 : (Tryz.prog.funcs[223]?).bind (fun F => F.body.bind fun _ => cfn Tryz.prog (q0t 223) F) = some qc7 := by kernel_rfl
theorem ok227 : (Tryz.prog.funcs[227]?).bind (fun F => F.body.bind fun _ => cfn Tryz.prog (q0t 227) F) = some qca := by kernel_rfl
theorem ok235 : (Tryz.prog.funcs[235]?).bind (fun F => F.body.bind fun _ => cfn Tryz.prog (q0t 235) F) = some q4x := by kernel_rfl
end Go.F
