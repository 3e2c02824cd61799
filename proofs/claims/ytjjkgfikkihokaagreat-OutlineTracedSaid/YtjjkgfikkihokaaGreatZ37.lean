/- Parts of the proof, part 37: Tab3. -/
import Derived.Test.YtjjkgfikkihokaaGreatZ33
import Derived.Test.YtjjkgfikkihokaaGreatZ25
import Derived.Test.YtjjkgfikkihokaaGreatProg
import Derived.KernelRfl
set_option linter.all false
namespace Go.F
open Go.Proofs
set_option maxRecDepth 100000
theorem ok9 : (Tryz.prog.funcs[9]?).bind (fun F => F.body.bind fun _ => cfn Tryz.prog (q0r 9) F) = some q3F := by kernel_rfl
theorem ok29 : (Tryz.prog.funcs[29]?).bind (fun F => F.body.bind fun _ => cfn Tryz.prog (q0r 29) F) = some q84 := by kernel_rfl
theorem ok37 : (Tryz.prog.funcs[37]?).bind (fun F => F.body.bind fun _ => cfn Tryz.prog (q0r 37) F) = some qbi := by kernel_rfl
theorem ok65 : (Tryz.prog.funcs[65]?).bind (fun F => F.body.bind fun _ => cfn Tryz.prog (q0r 65) F) = some q8S := by kernel_rfl
theorem ok69 : (Tryz.prog.funcs[69]?).bind (fun F => F.body.bind fun _ => cfn Tryz.prog (q0r 69) F) = some qcQ := by kernel_rfl
theorem ok73 : (Tryz.prog.funcs[73]?).bind (fun F => F.body.bind fun _ => cfn Tryz.prog (q0r 73) F) = some qfg := by kernel_rfl
theorem ok77 : (Tryz.prog.funcs[77]?).bind (fun F => F.body.bind fun _ => cfn Tryz.prog (q0r 77) F) = some k_slices_Reverse_Spot_Spot := by kernel_rfl
theorem ok81 : (Tryz.prog.funcs[81]?).bind (fun F => F.body.bind fun _ => cfn Tryz.prog (q0r 81) F) = some q7d := by kernel_rfl
theorem ok101 : (Tryz.prog.funcs[101]?).bind (fun F => F.body.bind fun _ => cfn Tryz.prog (q0r 101) F) = some qbn := by kernel_rfl
theorem ok105 : (Tryz.prog.funcs[105]?).bind (fun F => F.body.bind fun _ => cfn Tryz.prog (q0r 105) F) = some q65 := by kernel_rfl
theorem ok109 : (Tryz.prog.funcs[109]?).bind (fun F => F.body.bind fun _ => cfn Tryz.prog (q0r 109) F) = some q4k := by kernel_rfl
theorem ok113 : (Tryz.prog.funcs[113]?).bind (fun F => F.body.bind fun _ => cfn Tryz.prog (q0r 113) F) = some qfl := by kernel_rfl
theorem ok121 : (Tryz.prog.funcs[121]?).bind (fun F => F.body.bind fun _ => cfn Tryz.prog (q0r 121) F) = some q7e := by kernel_rfl
theorem ok125 : (Tryz.prog.funcs[125]?).bind (fun F => F.body.bind fun _ => cfn Tryz.prog (q0r 125) F) = some q8b := by kernel_rfl
theorem ok138 : (Tryz.prog.funcs[138]?).bind (fun F => F.body.bind fun _ => cfn Tryz.prog (q0r 138) F) = some qd6 := by kernel_rfl
theorem ok142 : (Tryz.prog.funcs[142]?).bind (fun F => F.body.bind fun _ => cfn Tryz.prog (q0r 142) F) = some qjw := by kernel_rfl
theorem ok146 : (Tryz.prog.funcs[146]?).bind (fun F => F.body.bind fun _ => cfn Tryz.prog (q0r 146) F) = some qda := by kernel_rfl
theorem ok150 : (Tryz.prog.funcs[150]?).bind (fun F => F.body.bind fun _ => cfn Tryz.prog (q0r 150) F) = some qjx := by kernel_rfl
theorem ok154 : (Tryz.prog.funcs[154]?).bind (fun F => F.body.bind fun _ => cfn Tryz.prog (q0r 154) F) = some qfq := by kernel_rfl
theorem ok158 : (Tryz.prog.funcs[158]?).bind (fun F => F.body.bind fun _ => cfn Tryz.prog (q0r 158) F) = some q3I := by kernel_rfl
theorem ok162 : (Tryz.prog.funcs[162]?).bind (fun F => F.body.bind fun _ => cfn Tryz.prog (q0r 162) F) = some q3t := by kernel_rfl
theorem ok166 : (Tryz.prog.funcs[166]?).bind (fun F => F.body.bind fun _ => cfn Tryz.prog (q0r 166) F) = some qa6 := by kernel_rfl
theorem ok170 : (Tryz.prog.funcs[170]?).bind (fun F => F.body.bind fun _ => cfn Tryz.prog (q0r 170) F) = some qbr := by kernel_rfl
theorem ok174 : (Tryz.prog.funcs[174]?).bind (fun F => F.body.bind fun _ => cfn Tryz.prog (q0r 174) F) = some qde := by kernel_rfl
theorem ok178 : (Tryz.prog.funcs[178]?).bind (fun F => F.body.bind fun _ => cfn Tryz.prog (q0r 178) F) = some qft := by kernel_rfl
theorem ok182 : (Tryz.prog.funcs[182]?).bind (fun F => F.body.bind fun _ => cfn Tryz.prog (q0r 182) F) = some qhq := by kernel_rfl
theorem ok186 : (Tryz.prog.funcs[186]?).bind (fun F => F.body.bind fun _ => cfn Tryz.prog (q0r 186) F) = some qjy := by kernel_rfl
theorem ok190 : (Tryz.prog.funcs[190]?).bind (fun F => F.body.bind fun _ => cfn Tryz.prog (q0r 190) F) = some qhu := by kernel_rfl
theorem ok194 : (Tryz.prog.funcs[194]?).bind (fun F => F.body.bind fun _ => cfn Tryz.prog (q0r 194) F) = some q8f := by kernel_rfl
theorem ok198 : (Tryz.prog.funcs[198]?).bind (fun F => F.body.bind fun _ => cfn Tryz.prog (q0r 198) F) = some qbv := by kernel_rfl
theorem ok202 : (Tryz.prog.funcs[202]?).bind (fun F => F.body.bind fun _ => cfn Tryz.prog (q0r 202) F) = some q90 := by kernel_rfl
theorem ok206 : (Tryz.prog.funcs[206]?).bind (fun F => F.body.bind fun _ => cfn Tryz.prog (q0r 206) F) = some q4y := by kernel_rfl
theorem ok210 : (Tryz.prog.funcs[210]?).bind (fun F => F.body.bind fun _ => cfn Tryz.prog (q0r 210) F) = some q56 := by kernel_rfl
theorem ok214 : (Tryz.prog.funcs[214]?).bind (fun F => F.body.bind fun _ => cfn Tryz.prog (q0r 214) F) = some qad := by kernel_rfl
theorem ok218 : (Tryz.prog.funcs[218]?).bind (fun F => F.body.bind fun _ => cfn Tryz.prog (q0r 218) F) = some qhv := by kernel_rfl
theorem ok222 : (Tryz.prog.funcs[222]?).bind (fun F => F.body.bind fun _ => cfn Tryz.prog (q0r 222) F) = some qdk := by kernel_rfl
theorem ok226 : (Tryz.prog.funcs[226]?).bind (fun F => F.body.bind fun _ => cfn Tryz.prog (q0r 226) F) = some qhy := by kernel_rfl
theorem ok234 : (Tryz.prog.funcs[234]?).bind (fun F => F.body.bind fun _ => cfn Tryz.prog (q0r 234) F) = some qhA := by kernel_rfl
end Go.F
