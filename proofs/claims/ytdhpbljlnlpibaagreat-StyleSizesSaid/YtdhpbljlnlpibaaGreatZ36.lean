/- Parts of the proof, part 36: Tab2. -/
import Derived.Test.YtdhpbljlnlpibaaGreatZ33
import Derived.Test.YtdhpbljlnlpibaaGreatZ25
import Derived.Test.YtdhpbljlnlpibaaGreatProg
import Derived.KernelRfl
set_option linter.all false
namespace Go.F
open Go.Proofs
set_option maxRecDepth 100000
theorem ok12 : (Tryz.prog.funcs[12]?).bind (fun F => F.body.bind fun _ => cfn Tryz.prog (q0r 12) F) = some qbO := by kernel_rfl
theorem ok20 : (Tryz.prog.funcs[20]?).bind (fun F => F.body.bind fun _ => cfn Tryz.prog (q0r 20) F) = some q81 := by kernel_rfl
theorem ok28 : (Tryz.prog.funcs[28]?).bind (fun F => F.body.bind fun _ => cfn Tryz.prog (q0r 28) F) = some qbQ := by kernel_rfl
theorem ok32 : (Tryz.prog.funcs[32]?).bind (fun F => F.body.bind fun _ => cfn Tryz.prog (q0r 32) F) = some q84 := by kernel_rfl
theorem ok44 : (Tryz.prog.funcs[44]?).bind (fun F => F.body.bind fun _ => cfn Tryz.prog (q0r 44) F) = some q9l := by kernel_rfl
theorem ok48 : (Tryz.prog.funcs[48]?).bind (fun F => F.body.bind fun _ => cfn Tryz.prog (q0r 48) F) = some q7e := by kernel_rfl
theorem ok52 : (Tryz.prog.funcs[52]?).bind (fun F => F.body.bind fun _ => cfn Tryz.prog (q0r 52) F) = some q39 := by kernel_rfl
theorem ok56 : (Tryz.prog.funcs[56]?).bind (fun F => F.body.bind fun _ => cfn Tryz.prog (q0r 56) F) = some q88 := by kernel_rfl
theorem ok72 : (Tryz.prog.funcs[72]?).bind (fun F => F.body.bind fun _ => cfn Tryz.prog (q0r 72) F) = some q5f := by kernel_rfl
theorem ok76 : (Tryz.prog.funcs[76]?).bind (fun F => F.body.bind fun _ => cfn Tryz.prog (q0r 76) F) = some qat := by kernel_rfl
theorem ok80 : (Tryz.prog.funcs[80]?).bind (fun F => F.body.bind fun _ => cfn Tryz.prog (q0r 80) F) = some q1R := by kernel_rfl
theorem ok84 : (Tryz.prog.funcs[84]?).bind (fun F => F.body.bind fun _ => cfn Tryz.prog (q0r 84) F) = some q7g := by kernel_rfl
theorem ok88 : (Tryz.prog.funcs[88]?).bind (fun F => F.body.bind fun _ => cfn Tryz.prog (q0r 88) F) = some q8a := by kernel_rfl
theorem ok104 : (Tryz.prog.funcs[104]?).bind (fun F => F.body.bind fun _ => cfn Tryz.prog (q0r 104) F) = some qc1 := by kernel_rfl
theorem ok108 : (Tryz.prog.funcs[108]?).bind (fun F => F.body.bind fun _ => cfn Tryz.prog (q0r 108) F) = some qec := by kernel_rfl
theorem ok112 : (Tryz.prog.funcs[112]?).bind (fun F => F.body.bind fun _ => cfn Tryz.prog (q0r 112) F) = some q2j := by kernel_rfl
theorem ok116 : (Tryz.prog.funcs[116]?).bind (fun F => F.body.bind fun _ => cfn Tryz.prog (q0r 116) F) = some q8d := by kernel_rfl
theorem ok124 : (Tryz.prog.funcs[124]?).bind (fun F => F.body.bind fun _ => cfn Tryz.prog (q0r 124) F) = some q5T := by kernel_rfl
theorem ok149 : (Tryz.prog.funcs[149]?).bind (fun F => F.body.bind fun _ => cfn Tryz.prog (q0r 149) F) = some q8f := by kernel_rfl
theorem ok153 : (Tryz.prog.funcs[153]?).bind (fun F => F.body.bind fun _ => cfn Tryz.prog (q0r 153) F) = some qef := by kernel_rfl
theorem ok157 : (Tryz.prog.funcs[157]?).bind (fun F => F.body.bind fun _ => cfn Tryz.prog (q0r 157) F) = some qcj := by kernel_rfl
theorem ok161 : (Tryz.prog.funcs[161]?).bind (fun F => F.body.bind fun _ => cfn Tryz.prog (q0r 161) F) = some q6p := by kernel_rfl
theorem ok165 : (Tryz.prog.funcs[165]?).bind (fun F => F.body.bind fun _ => cfn Tryz.prog (q0r 165) F) = some q6q := by kernel_rfl
theorem ok169 : (Tryz.prog.funcs[169]?).bind (fun F => F.body.bind fun _ => cfn Tryz.prog (q0r 169) F) = some q5i := by kernel_rfl
theorem ok193 : (Tryz.prog.funcs[193]?).bind (fun F => F.body.bind fun _ => cfn Tryz.prog (q0r 193) F) = some q8g := by kernel_rfl
theorem ok197 : (Tryz.prog.funcs[197]?).bind (fun F => F.body.bind fun _ => cfn Tryz.prog (q0r 197) F) = some qaF := by kernel_rfl
theorem ok201 : (Tryz.prog.funcs[201]?).bind (fun F => F.body.bind fun _ => cfn Tryz.prog (q0r 201) F) = some q5j := by kernel_rfl
theorem ok205 : (Tryz.prog.funcs[205]?).bind (fun F => F.body.bind fun _ => cfn Tryz.prog (q0r 205) F) = some q7o := by kernel_rfl
theorem ok221 : (Tryz.prog.funcs[221]?).bind (fun F => F.body.bind fun _ => cfn Tryz.prog (q0r 221) F) = some q44 := by kernel_rfl
theorem ok225 : (Tryz.prog.funcs[225]?).bind (fun F => F.body.bind fun _ => cfn Tryz.prog (q0r 225) F) = some k_natural_left := by kernel_rfl
theorem ok229 : (Tryz.prog.funcs[229]?).bind (fun F => F.body.bind fun _ => cfn Tryz.prog (q0r 229) F) = some q5V := by kernel_rfl
theorem ok233 : (Tryz.prog.funcs[233]?).bind (fun F => F.body.bind fun _ => cfn Tryz.prog (q0r 233) F) = some q5k := by kernel_rfl
end Go.F
