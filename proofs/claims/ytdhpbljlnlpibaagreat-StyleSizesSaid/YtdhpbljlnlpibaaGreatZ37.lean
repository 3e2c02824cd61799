/- Parts of the proof, part 37: Tab3. -/
import Derived.Test.YtdhpbljlnlpibaaGreatZ33
import Derived.Test.YtdhpbljlnlpibaaGreatZ25
import Derived.Test.YtdhpbljlnlpibaaGreatProg
import Derived.KernelRfl
set_option linter.all false
namespace Go.F
open Go.Proofs
set_option maxRecDepth 100000
theorem ok9 : (Tryz.prog.funcs[9]?).bind (fun F => F.body.bind fun _ => cfn Tryz.prog (q0r 9) F) = some q9X := by kernel_rfl
theorem ok13 : (Tryz.prog.funcs[13]?).bind (fun F => F.body.bind fun _ => cfn Tryz.prog (q0r 13) F) = some q9j := by kernel_rfl
theorem ok17 : (Tryz.prog.funcs[17]?).bind (fun F => F.body.bind fun _ => cfn Tryz.prog (q0r 17) F) = some q80 := by kernel_rfl
theorem ok25 : (Tryz.prog.funcs[25]?).bind (fun F => F.body.bind fun _ => cfn Tryz.prog (q0r 25) F) = some q82 := by kernel_rfl
theorem ok41 : (Tryz.prog.funcs[41]?).bind (fun F => F.body.bind fun _ => cfn Tryz.prog (q0r 41) F) = some q85 := by kernel_rfl
theorem ok45 : (Tryz.prog.funcs[45]?).bind (fun F => F.body.bind fun _ => cfn Tryz.prog (q0r 45) F) = some q5c := by kernel_rfl
theorem ok49 : (Tryz.prog.funcs[49]?).bind (fun F => F.body.bind fun _ => cfn Tryz.prog (q0r 49) F) = some q5d := by kernel_rfl
theorem ok53 : (Tryz.prog.funcs[53]?).bind (fun F => F.body.bind fun _ => cfn Tryz.prog (q0r 53) F) = some q86 := by kernel_rfl
theorem ok73 : (Tryz.prog.funcs[73]?).bind (fun F => F.body.bind fun _ => cfn Tryz.prog (q0r 73) F) = some q4T := by kernel_rfl
theorem ok77 : (Tryz.prog.funcs[77]?).bind (fun F => F.body.bind fun _ => cfn Tryz.prog (q0r 77) F) = some q5Q := by kernel_rfl
theorem ok81 : (Tryz.prog.funcs[81]?).bind (fun F => F.body.bind fun _ => cfn Tryz.prog (q0r 81) F) = some q5R := by kernel_rfl
theorem ok85 : (Tryz.prog.funcs[85]?).bind (fun F => F.body.bind fun _ => cfn Tryz.prog (q0r 85) F) = some q7h := by kernel_rfl
theorem ok105 : (Tryz.prog.funcs[105]?).bind (fun F => F.body.bind fun _ => cfn Tryz.prog (q0r 105) F) = some qc2 := by kernel_rfl
theorem ok109 : (Tryz.prog.funcs[109]?).bind (fun F => F.body.bind fun _ => cfn Tryz.prog (q0r 109) F) = some q5h := by kernel_rfl
theorem ok113 : (Tryz.prog.funcs[113]?).bind (fun F => F.body.bind fun _ => cfn Tryz.prog (q0r 113) F) = some q6o := by kernel_rfl
theorem ok117 : (Tryz.prog.funcs[117]?).bind (fun F => F.body.bind fun _ => cfn Tryz.prog (q0r 117) F) = some q7j := by kernel_rfl
theorem ok121 : (Tryz.prog.funcs[121]?).bind (fun F => F.body.bind fun _ => cfn Tryz.prog (q0r 121) F) = some q1S := by kernel_rfl
theorem ok125 : (Tryz.prog.funcs[125]?).bind (fun F => F.body.bind fun _ => cfn Tryz.prog (q0r 125) F) = some q5U := by kernel_rfl
theorem ok146 : (Tryz.prog.funcs[146]?).bind (fun F => F.body.bind fun _ => cfn Tryz.prog (q0r 146) F) = some q9q := by kernel_rfl
theorem ok150 : (Tryz.prog.funcs[150]?).bind (fun F => F.body.bind fun _ => cfn Tryz.prog (q0r 150) F) = some qcg := by kernel_rfl
theorem ok154 : (Tryz.prog.funcs[154]?).bind (fun F => F.body.bind fun _ => cfn Tryz.prog (q0r 154) F) = some q7l := by kernel_rfl
theorem ok158 : (Tryz.prog.funcs[158]?).bind (fun F => F.body.bind fun _ => cfn Tryz.prog (q0r 158) F) = some q2U := by kernel_rfl
theorem ok162 : (Tryz.prog.funcs[162]?).bind (fun F => F.body.bind fun _ => cfn Tryz.prog (q0r 162) F) = some q7n := by kernel_rfl
theorem ok166 : (Tryz.prog.funcs[166]?).bind (fun F => F.body.bind fun _ => cfn Tryz.prog (q0r 166) F) = some q2d := by kernel_rfl
theorem ok170 : (Tryz.prog.funcs[170]?).bind (fun F => F.body.bind fun _ => cfn Tryz.prog (q0r 170) F) = some qaA := by kernel_rfl
theorem ok194 : (Tryz.prog.funcs[194]?).bind (fun F => F.body.bind fun _ => cfn Tryz.prog (q0r 194) F) = some q9y := by kernel_rfl
theorem ok198 : (Tryz.prog.funcs[198]?).bind (fun F => F.body.bind fun _ => cfn Tryz.prog (q0r 198) F) = some q9z := by kernel_rfl
theorem ok202 : (Tryz.prog.funcs[202]?).bind (fun F => F.body.bind fun _ => cfn Tryz.prog (q0r 202) F) = some q6s := by kernel_rfl
theorem ok206 : (Tryz.prog.funcs[206]?).bind (fun F => F.body.bind fun _ => cfn Tryz.prog (q0r 206) F) = some q3R := by kernel_rfl
theorem ok222 : (Tryz.prog.funcs[222]?).bind (fun F => F.body.bind fun _ => cfn Tryz.prog (q0r 222) F) = some q8j := by kernel_rfl
theorem ok226 : (Tryz.prog.funcs[226]?).bind (fun F => F.body.bind fun _ => cfn Tryz.prog (q0r 226) F) = some k_natural_digit := by kernel_rfl
theorem ok230 : (Tryz.prog.funcs[230]?).bind (fun F => F.body.bind fun _ => cfn Tryz.prog (q0r 230) F) = some qep := by kernel_rfl
theorem ok234 : (Tryz.prog.funcs[234]?).bind (fun F => F.body.bind fun _ => cfn Tryz.prog (q0r 234) F) = some q4p := by kernel_rfl
end Go.F
