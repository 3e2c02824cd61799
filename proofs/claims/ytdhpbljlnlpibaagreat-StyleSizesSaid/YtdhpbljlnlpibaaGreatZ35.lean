/- Parts of the proof, part 35: Tab1. -/
import Derived.Test.YtdhpbljlnlpibaaGreatZ33
import Derived.Test.YtdhpbljlnlpibaaGreatZ25
import Derived.Test.YtdhpbljlnlpibaaGreatProg
import Derived.KernelRfl
set_option linter.all false
namespace Go.F
open Go.Proofs
set_option maxRecDepth 100000
theorem ok7 : (Tryz.prog.funcs[7]?).bind (fun F => F.body.bind fun _ => cfn Tryz.prog (q0r 7) F) = some q5L := by kernel_rfl
theorem ok11 : (Tryz.prog.funcs[11]?).bind (fun F => F.body.bind fun _ => cfn Tryz.prog (q0r 11) F) = some qbN := by kernel_rfl
theorem ok15 : (Tryz.prog.funcs[15]?).bind (fun F => F.body.bind fun _ => cfn Tryz.prog (q0r 15) F) = some qbP := by kernel_rfl
theorem ok19 : (Tryz.prog.funcs[19]?).bind (fun F => F.body.bind fun _ => cfn Tryz.prog (q0r 19) F) = some qe4 := by kernel_rfl
theorem ok27 : (Tryz.prog.funcs[27]?).bind (fun F => F.body.bind fun _ => cfn Tryz.prog (q0r 27) F) = some q5M := by kernel_rfl
theorem ok31 : (Tryz.prog.funcs[31]?).bind (fun F => F.body.bind fun _ => cfn Tryz.prog (q0r 31) F) = some q5b := by kernel_rfl
theorem ok43 : (Tryz.prog.funcs[43]?).bind (fun F => F.body.bind fun _ => cfn Tryz.prog (q0r 43) F) = some q2T := by kernel_rfl
theorem ok47 : (Tryz.prog.funcs[47]?).bind (fun F => F.body.bind fun _ => cfn Tryz.prog (q0r 47) F) = some q2G := by kernel_rfl
theorem ok51 : (Tryz.prog.funcs[51]?).bind (fun F => F.body.bind fun _ => cfn Tryz.prog (q0r 51) F) = some q7f := by kernel_rfl
theorem ok55 : (Tryz.prog.funcs[55]?).bind (fun F => F.body.bind fun _ => cfn Tryz.prog (q0r 55) F) = some q2H := by kernel_rfl
theorem ok71 : (Tryz.prog.funcs[71]?).bind (fun F => F.body.bind fun _ => cfn Tryz.prog (q0r 71) F) = some q6l := by kernel_rfl
theorem ok75 : (Tryz.prog.funcs[75]?).bind (fun F => F.body.bind fun _ => cfn Tryz.prog (q0r 75) F) = some q36 := by kernel_rfl
theorem ok79 : (Tryz.prog.funcs[79]?).bind (fun F => F.body.bind fun _ => cfn Tryz.prog (q0r 79) F) = some qbW := by kernel_rfl
theorem ok83 : (Tryz.prog.funcs[83]?).bind (fun F => F.body.bind fun _ => cfn Tryz.prog (q0r 83) F) = some q5S := by kernel_rfl
theorem ok87 : (Tryz.prog.funcs[87]?).bind (fun F => F.body.bind fun _ => cfn Tryz.prog (q0r 87) F) = some q3o := by kernel_rfl
theorem ok103 : (Tryz.prog.funcs[103]?).bind (fun F => F.body.bind fun _ => cfn Tryz.prog (q0r 103) F) = some q5g := by kernel_rfl
theorem ok107 : (Tryz.prog.funcs[107]?).bind (fun F => F.body.bind fun _ => cfn Tryz.prog (q0r 107) F) = some qeb := by kernel_rfl
theorem ok111 : (Tryz.prog.funcs[111]?).bind (fun F => F.body.bind fun _ => cfn Tryz.prog (q0r 111) F) = some q2c := by kernel_rfl
theorem ok115 : (Tryz.prog.funcs[115]?).bind (fun F => F.body.bind fun _ => cfn Tryz.prog (q0r 115) F) = some q7i := by kernel_rfl
theorem ok123 : (Tryz.prog.funcs[123]?).bind (fun F => F.body.bind fun _ => cfn Tryz.prog (q0r 123) F) = some q7k := by kernel_rfl
theorem ok148 : (Tryz.prog.funcs[148]?).bind (fun F => F.body.bind fun _ => cfn Tryz.prog (q0r 148) F) = some q9r := by kernel_rfl
theorem ok152 : (Tryz.prog.funcs[152]?).bind (fun F => F.body.bind fun _ => cfn Tryz.prog (q0r 152) F) = some q9s := by kernel_rfl
theorem ok156 : (Tryz.prog.funcs[156]?).bind (fun F => F.body.bind fun _ => cfn Tryz.prog (q0r 156) F) = some qci := by kernel_rfl
theorem ok160 : (Tryz.prog.funcs[160]?).bind (fun F => F.body.bind fun _ => cfn Tryz.prog (q0r 160) F) = some qaz := by kernel_rfl
theorem ok164 : (Tryz.prog.funcs[164]?).bind (fun F => F.body.bind fun _ => cfn Tryz.prog (q0r 164) F) = some q9v := by kernel_rfl
theorem ok192 : (Tryz.prog.funcs[192]?).bind (fun F => F.body.bind fun _ => cfn Tryz.prog (q0r 192) F) = some q9x := by kernel_rfl
theorem ok196 : (Tryz.prog.funcs[196]?).bind (fun F => F.body.bind fun _ => cfn Tryz.prog (q0r 196) F) = some q8h := by kernel_rfl
theorem ok200 : (Tryz.prog.funcs[200]?).bind (fun F => F.body.bind fun _ => cfn Tryz.prog (q0r 200) F) = some q9B := by kernel_rfl
theorem ok204 : (Tryz.prog.funcs[204]?).bind (fun F => F.body.bind fun _ => cfn Tryz.prog (q0r 204) F) = some q6t := by kernel_rfl
theorem ok224 : (Tryz.prog.funcs[224]?).bind (fun F => F.body.bind fun _ => cfn Tryz.prog (q0r 224) F) = some q3S := by kernel_rfl
theorem ok228 : (Tryz.prog.funcs[228]?).bind (fun F => F.body.bind fun _ => cfn Tryz.prog (q0r 228) F) = some q9C := by kernel_rfl
end Go.F
