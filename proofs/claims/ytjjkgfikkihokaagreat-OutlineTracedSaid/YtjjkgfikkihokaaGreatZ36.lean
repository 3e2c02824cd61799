/- Parts of the proof, part 36: Tab2. -/
import Derived.Test.YtjjkgfikkihokaaGreatZ33
import Derived.Test.YtjjkgfikkihokaaGreatZ25
import Derived.Test.YtjjkgfikkihokaaGreatProg
import Derived.KernelRfl
set_option linter.all false
namespace Go.F
open Go.Proofs
set_option maxRecDepth 100000
theorem ok24 : (Tryz.prog.funcs[24]?).bind (fun F => F.body.bind fun _ => cfn Tryz.prog (q0r 24) F) = some q6A := by kernel_rfl
theorem ok28 : (Tryz.prog.funcs[28]?).bind (fun F => F.body.bind fun _ => cfn Tryz.prog (q0r 28) F) = some qhh := by kernel_rfl
theorem ok32 : (Tryz.prog.funcs[32]?).bind (fun F => F.body.bind fun _ => cfn Tryz.prog (q0r 32) F) = some q76 := by kernel_rfl
theorem ok36 : (Tryz.prog.funcs[36]?).bind (fun F => F.body.bind fun _ => cfn Tryz.prog (q0r 36) F) = some q85 := by kernel_rfl
theorem ok60 : (Tryz.prog.funcs[60]?).bind (fun F => F.body.bind fun _ => cfn Tryz.prog (q0r 60) F) = some qcP := by kernel_rfl
theorem ok64 : (Tryz.prog.funcs[64]?).bind (fun F => F.body.bind fun _ => cfn Tryz.prog (q0r 64) F) = some q62 := by kernel_rfl
theorem ok68 : (Tryz.prog.funcs[68]?).bind (fun F => F.body.bind fun _ => cfn Tryz.prog (q0r 68) F) = some qff := by kernel_rfl
theorem ok72 : (Tryz.prog.funcs[72]?).bind (fun F => F.body.bind fun _ => cfn Tryz.prog (q0r 72) F) = some q88 := by kernel_rfl
theorem ok76 : (Tryz.prog.funcs[76]?).bind (fun F => F.body.bind fun _ => cfn Tryz.prog (q0r 76) F) = some qbl := by kernel_rfl
theorem ok80 : (Tryz.prog.funcs[80]?).bind (fun F => F.body.bind fun _ => cfn Tryz.prog (q0r 80) F) = some q6D := by kernel_rfl
theorem ok96 : (Tryz.prog.funcs[96]?).bind (fun F => F.body.bind fun _ => cfn Tryz.prog (q0r 96) F) = some qcY := by kernel_rfl
theorem ok104 : (Tryz.prog.funcs[104]?).bind (fun F => F.body.bind fun _ => cfn Tryz.prog (q0r 104) F) = some q89 := by kernel_rfl
theorem ok108 : (Tryz.prog.funcs[108]?).bind (fun F => F.body.bind fun _ => cfn Tryz.prog (q0r 108) F) = some qhk := by kernel_rfl
theorem ok112 : (Tryz.prog.funcs[112]?).bind (fun F => F.body.bind fun _ => cfn Tryz.prog (q0r 112) F) = some q5v := by kernel_rfl
theorem ok120 : (Tryz.prog.funcs[120]?).bind (fun F => F.body.bind fun _ => cfn Tryz.prog (q0r 120) F) = some q2L := by kernel_rfl
theorem ok124 : (Tryz.prog.funcs[124]?).bind (fun F => F.body.bind fun _ => cfn Tryz.prog (q0r 124) F) = some qa1 := by kernel_rfl
theorem ok141 : (Tryz.prog.funcs[141]?).bind (fun F => F.body.bind fun _ => cfn Tryz.prog (q0r 141) F) = some qhm := by kernel_rfl
theorem ok145 : (Tryz.prog.funcs[145]?).bind (fun F => F.body.bind fun _ => cfn Tryz.prog (q0r 145) F) = some qhn := by kernel_rfl
theorem ok153 : (Tryz.prog.funcs[153]?).bind (fun F => F.body.bind fun _ => cfn Tryz.prog (q0r 153) F) = some qa4 := by kernel_rfl
theorem ok157 : (Tryz.prog.funcs[157]?).bind (fun F => F.body.bind fun _ => cfn Tryz.prog (q0r 157) F) = some qg7 := by kernel_rfl
theorem ok165 : (Tryz.prog.funcs[165]?).bind (fun F => F.body.bind fun _ => cfn Tryz.prog (q0r 165) F) = some q8X := by kernel_rfl
theorem ok169 : (Tryz.prog.funcs[169]?).bind (fun F => F.body.bind fun _ => cfn Tryz.prog (q0r 169) F) = some qfs := by kernel_rfl
theorem ok173 : (Tryz.prog.funcs[173]?).bind (fun F => F.body.bind fun _ => cfn Tryz.prog (q0r 173) F) = some qdd := by kernel_rfl
theorem ok177 : (Tryz.prog.funcs[177]?).bind (fun F => F.body.bind fun _ => cfn Tryz.prog (q0r 177) F) = some qdg := by kernel_rfl
theorem ok181 : (Tryz.prog.funcs[181]?).bind (fun F => F.body.bind fun _ => cfn Tryz.prog (q0r 181) F) = some qhp := by kernel_rfl
theorem ok185 : (Tryz.prog.funcs[185]?).bind (fun F => F.body.bind fun _ => cfn Tryz.prog (q0r 185) F) = some qfv := by kernel_rfl
theorem ok189 : (Tryz.prog.funcs[189]?).bind (fun F => F.body.bind fun _ => cfn Tryz.prog (q0r 189) F) = some qht := by kernel_rfl
theorem ok193 : (Tryz.prog.funcs[193]?).bind (fun F => F.body.bind fun _ => cfn Tryz.prog (q0r 193) F) = some qfw := by kernel_rfl
theorem ok197 : (Tryz.prog.funcs[197]?).bind (fun F => F.body.bind fun _ => cfn Tryz.prog (q0r 197) F) = some qfx := by kernel_rfl
theorem ok201 : (Tryz.prog.funcs[201]?).bind (fun F => F.body.bind fun _ => cfn Tryz.prog (q0r 201) F) = some qbw := by kernel_rfl
theorem ok205 : (Tryz.prog.funcs[205]?).bind (fun F => F.body.bind fun _ => cfn Tryz.prog (q0r 205) F) = some q8g := by kernel_rfl
theorem ok209 : (Tryz.prog.funcs[209]?).bind (fun F => F.body.bind fun _ => cfn Tryz.prog (q0r 209) F) = some q8h := by kernel_rfl
theorem ok213 : (Tryz.prog.funcs[213]?).bind (fun F => F.body.bind fun _ => cfn Tryz.prog (q0r 213) F) = some qac := by kernel_rfl
theorem ok217 : (Tryz.prog.funcs[217]?).bind (fun F => F.body.bind fun _ => cfn Tryz.prog (q0r 217) F) = some qfz := by kernel_rfl
theorem ok221 : (Tryz.prog.funcs[221]?).bind (fun F => F.body.bind fun _ => cfn Tryz.prog (q0r 221) F) = some qfB := by kernel_rfl
theorem ok225 : (Tryz.prog.funcs[225]?).bind (fun F => F.body.bind fun _ => cfn Tryz.prog (q0r 225) F) = some qhx := by kernel_rfl
theorem ok229 : (Tryz.prog.funcs[229]?).bind (fun F => F.body.bind fun _ => cfn Tryz.prog (q0r 229) F) = some q7j := by kernel_rfl
theorem ok233 : (Tryz.prog.funcs[233]?).bind (fun F => F.body.bind fun _ => cfn Tryz.prog (q0r 233) F) = some qaf := by kernel_rfl
theorem ok237 : (Tryz.prog.funcs[237]?).bind (fun F => F.body.bind fun _ => cfn Tryz.prog (q0r 237) F) = some q67 := by kernel_rfl
end Go.F
