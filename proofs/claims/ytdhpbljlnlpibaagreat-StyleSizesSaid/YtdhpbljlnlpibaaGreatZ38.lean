/- Parts of the proof, part 38: Tab4. -/
import Derived.Test.YtdhpbljlnlpibaaGreatZ33
import Derived.Test.YtdhpbljlnlpibaaGreatZ25
import Derived.Test.YtdhpbljlnlpibaaGreatProg
import Derived.KernelRfl
set_option linter.all false
namespace Go.F
open Go.Proofs
set_option maxRecDepth 100000
theorem ok22 : (Tryz.prog.funcs[22]?).bind (fun F => F.body.bind fun _ => cfn Tryz.prog (q0r 22) F) = some q9k := by kernel_rfl
theorem ok26 : (Tryz.prog.funcs[26]?).bind (fun F => F.body.bind fun _ => cfn Tryz.prog (q0r 26) F) = some q83 := by kernel_rfl
theorem ok30 : (Tryz.prog.funcs[30]?).bind (fun F => F.body.bind fun _ => cfn Tryz.prog (q0r 30) F) = some q5a := by kernel_rfl
theorem ok38 : (Tryz.prog.funcs[38]?).bind (fun F => F.body.bind fun _ => cfn Tryz.prog (q0r 38) F) = some q5N := by kernel_rfl
theorem ok42 : (Tryz.prog.funcs[42]?).bind (fun F => F.body.bind fun _ => cfn Tryz.prog (q0r 42) F) = some q7d := by kernel_rfl
theorem ok46 : (Tryz.prog.funcs[46]?).bind (fun F => F.body.bind fun _ => cfn Tryz.prog (q0r 46) F) = some q5O := by kernel_rfl
theorem ok50 : (Tryz.prog.funcs[50]?).bind (fun F => F.body.bind fun _ => cfn Tryz.prog (q0r 50) F) = some q5e := by kernel_rfl
theorem ok54 : (Tryz.prog.funcs[54]?).bind (fun F => F.body.bind fun _ => cfn Tryz.prog (q0r 54) F) = some q87 := by kernel_rfl
theorem ok70 : (Tryz.prog.funcs[70]?).bind (fun F => F.body.bind fun _ => cfn Tryz.prog (q0r 70) F) = some q6k := by kernel_rfl
theorem ok74 : (Tryz.prog.funcs[74]?).bind (fun F => F.body.bind fun _ => cfn Tryz.prog (q0r 74) F) = some q6m := by kernel_rfl
theorem ok78 : (Tryz.prog.funcs[78]?).bind (fun F => F.body.bind fun _ => cfn Tryz.prog (q0r 78) F) = some qau := by kernel_rfl
theorem ok82 : (Tryz.prog.funcs[82]?).bind (fun F => F.body.bind fun _ => cfn Tryz.prog (q0r 82) F) = some q6n := by kernel_rfl
theorem ok86 : (Tryz.prog.funcs[86]?).bind (fun F => F.body.bind fun _ => cfn Tryz.prog (q0r 86) F) = some q9n := by kernel_rfl
theorem ok106 : (Tryz.prog.funcs[106]?).bind (fun F => F.body.bind fun _ => cfn Tryz.prog (q0r 106) F) = some q9o := by kernel_rfl
theorem ok110 : (Tryz.prog.funcs[110]?).bind (fun F => F.body.bind fun _ => cfn Tryz.prog (q0r 110) F) = some qc3 := by kernel_rfl
theorem ok114 : (Tryz.prog.funcs[114]?).bind (fun F => F.body.bind fun _ => cfn Tryz.prog (q0r 114) F) = some q8c := by kernel_rfl
theorem ok118 : (Tryz.prog.funcs[118]?).bind (fun F => F.body.bind fun _ => cfn Tryz.prog (q0r 118) F) = some q8e := by kernel_rfl
theorem ok147 : (Tryz.prog.funcs[147]?).bind (fun F => F.body.bind fun _ => cfn Tryz.prog (q0r 147) F) = some qay := by kernel_rfl
theorem ok151 : (Tryz.prog.funcs[151]?).bind (fun F => F.body.bind fun _ => cfn Tryz.prog (q0r 151) F) = some qch := by kernel_rfl
theorem ok155 : (Tryz.prog.funcs[155]?).bind (fun F => F.body.bind fun _ => cfn Tryz.prog (q0r 155) F) = some q9t := by kernel_rfl
theorem ok159 : (Tryz.prog.funcs[159]?).bind (fun F => F.body.bind fun _ => cfn Tryz.prog (q0r 159) F) = some q7m := by kernel_rfl
theorem ok171 : (Tryz.prog.funcs[171]?).bind (fun F => F.body.bind fun _ => cfn Tryz.prog (q0r 171) F) = some qaB := by kernel_rfl
theorem ok191 : (Tryz.prog.funcs[191]?).bind (fun F => F.body.bind fun _ => cfn Tryz.prog (q0r 191) F) = some qaE := by kernel_rfl
theorem ok195 : (Tryz.prog.funcs[195]?).bind (fun F => F.body.bind fun _ => cfn Tryz.prog (q0r 195) F) = some q6r := by kernel_rfl
theorem ok199 : (Tryz.prog.funcs[199]?).bind (fun F => F.body.bind fun _ => cfn Tryz.prog (q0r 199) F) = some q9A := by kernel_rfl
theorem ok223 : (Tryz.prog.funcs[223]?).bind (fun F => F.body.bind fun _ => cfn Tryz.prog (q0r 223) F) = some q7p := by kernel_rfl
theorem ok227 : (Tryz.prog.funcs[227]?).bind (fun F => F.body.bind fun _ => cfn Tryz.prog (q0r 227) F) = some q7q := by kernel_rfl
theorem ok231 : (Tryz.prog.funcs[231]?).bind (fun F => F.body.bind fun _ => cfn Tryz.prog (q0r 231) F) = some qaG := by kernel_rfl
end Go.F
