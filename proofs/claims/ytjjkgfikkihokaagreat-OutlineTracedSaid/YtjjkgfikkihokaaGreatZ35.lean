/- Parts of the proof, part 35: Tab1. -/
import Derived.Test.YtjjkgfikkihokaaGreatZ33
import Derived.Test.YtjjkgfikkihokaaGreatZ25
import Derived.Test.YtjjkgfikkihokaaGreatProg
import Derived.KernelRfl
set_option linter.all false
namespace Go.F
open Go.Proofs
set_option maxRecDepth 100000
theorem ok19 : (Tryz.prog.funcs[19]?).bind (fun F => F.body.bind fun _ => cfn Tryz.prog (q0r 19) F) = some qfb := by kernel_rfl
theorem ok23 : (Tryz.prog.funcs[23]?).bind (fun F => F.body.bind fun _ => cfn Tryz.prog (q0r 23) F) = some qcJ := by kernel_rfl
theorem ok27 : (Tryz.prog.funcs[27]?).bind (fun F => F.body.bind fun _ => cfn Tryz.prog (q0r 27) F) = some qcK := by kernel_rfl
theorem ok31 : (Tryz.prog.funcs[31]?).bind (fun F => F.body.bind fun _ => cfn Tryz.prog (q0r 31) F) = some qfc := by kernel_rfl
theorem ok59 : (Tryz.prog.funcs[59]?).bind (fun F => F.body.bind fun _ => cfn Tryz.prog (q0r 59) F) = some qbk := by kernel_rfl
theorem ok63 : (Tryz.prog.funcs[63]?).bind (fun F => F.body.bind fun _ => cfn Tryz.prog (q0r 63) F) = some qju := by kernel_rfl
theorem ok67 : (Tryz.prog.funcs[67]?).bind (fun F => F.body.bind fun _ => cfn Tryz.prog (q0r 67) F) = some q7b := by kernel_rfl
theorem ok71 : (Tryz.prog.funcs[71]?).bind (fun F => F.body.bind fun _ => cfn Tryz.prog (q0r 71) F) = some qcS := by kernel_rfl
theorem ok79 : (Tryz.prog.funcs[79]?).bind (fun F => F.body.bind fun _ => cfn Tryz.prog (q0r 79) F) = some q2i := by kernel_rfl
theorem ok83 : (Tryz.prog.funcs[83]?).bind (fun F => F.body.bind fun _ => cfn Tryz.prog (q0r 83) F) = some q64 := by kernel_rfl
theorem ok91 : (Tryz.prog.funcs[91]?).bind (fun F => F.body.bind fun _ => cfn Tryz.prog (q0r 91) F) = some q6F := by kernel_rfl
theorem ok103 : (Tryz.prog.funcs[103]?).bind (fun F => F.body.bind fun _ => cfn Tryz.prog (q0r 103) F) = some qd0 := by kernel_rfl
theorem ok107 : (Tryz.prog.funcs[107]?).bind (fun F => F.body.bind fun _ => cfn Tryz.prog (q0r 107) F) = some qhj := by kernel_rfl
theorem ok111 : (Tryz.prog.funcs[111]?).bind (fun F => F.body.bind fun _ => cfn Tryz.prog (q0r 111) F) = some qfk := by kernel_rfl
theorem ok119 : (Tryz.prog.funcs[119]?).bind (fun F => F.body.bind fun _ => cfn Tryz.prog (q0r 119) F) = some q2D := by kernel_rfl
theorem ok123 : (Tryz.prog.funcs[123]?).bind (fun F => F.body.bind fun _ => cfn Tryz.prog (q0r 123) F) = some q8a := by kernel_rfl
theorem ok136 : (Tryz.prog.funcs[136]?).bind (fun F => F.body.bind fun _ => cfn Tryz.prog (q0r 136) F) = some qfn := by kernel_rfl
theorem ok144 : (Tryz.prog.funcs[144]?).bind (fun F => F.body.bind fun _ => cfn Tryz.prog (q0r 144) F) = some qd9 := by kernel_rfl
theorem ok148 : (Tryz.prog.funcs[148]?).bind (fun F => F.body.bind fun _ => cfn Tryz.prog (q0r 148) F) = some qfp := by kernel_rfl
theorem ok152 : (Tryz.prog.funcs[152]?).bind (fun F => F.body.bind fun _ => cfn Tryz.prog (q0r 152) F) = some qho := by kernel_rfl
theorem ok156 : (Tryz.prog.funcs[156]?).bind (fun F => F.body.bind fun _ => cfn Tryz.prog (q0r 156) F) = some qdc := by kernel_rfl
theorem ok164 : (Tryz.prog.funcs[164]?).bind (fun F => F.body.bind fun _ => cfn Tryz.prog (q0r 164) F) = some q7f := by kernel_rfl
theorem ok168 : (Tryz.prog.funcs[168]?).bind (fun F => F.body.bind fun _ => cfn Tryz.prog (q0r 168) F) = some q7g := by kernel_rfl
theorem ok172 : (Tryz.prog.funcs[172]?).bind (fun F => F.body.bind fun _ => cfn Tryz.prog (q0r 172) F) = some q8Y := by kernel_rfl
theorem ok176 : (Tryz.prog.funcs[176]?).bind (fun F => F.body.bind fun _ => cfn Tryz.prog (q0r 176) F) = some qdf := by kernel_rfl
theorem ok180 : (Tryz.prog.funcs[180]?).bind (fun F => F.body.bind fun _ => cfn Tryz.prog (q0r 180) F) = some qbs := by kernel_rfl
theorem ok184 : (Tryz.prog.funcs[184]?).bind (fun F => F.body.bind fun _ => cfn Tryz.prog (q0r 184) F) = some qdh := by kernel_rfl
theorem ok188 : (Tryz.prog.funcs[188]?).bind (fun F => F.body.bind fun _ => cfn Tryz.prog (q0r 188) F) = some qhs := by kernel_rfl
theorem ok192 : (Tryz.prog.funcs[192]?).bind (fun F => F.body.bind fun _ => cfn Tryz.prog (q0r 192) F) = some qdi := by kernel_rfl
theorem ok196 : (Tryz.prog.funcs[196]?).bind (fun F => F.body.bind fun _ => cfn Tryz.prog (q0r 196) F) = some q8Z := by kernel_rfl
theorem ok200 : (Tryz.prog.funcs[200]?).bind (fun F => F.body.bind fun _ => cfn Tryz.prog (q0r 200) F) = some q7h := by kernel_rfl
theorem ok204 : (Tryz.prog.funcs[204]?).bind (fun F => F.body.bind fun _ => cfn Tryz.prog (q0r 204) F) = some q91 := by kernel_rfl
theorem ok208 : (Tryz.prog.funcs[208]?).bind (fun F => F.body.bind fun _ => cfn Tryz.prog (q0r 208) F) = some k_natural_digit := by kernel_rfl
theorem ok212 : (Tryz.prog.funcs[212]?).bind (fun F => F.body.bind fun _ => cfn Tryz.prog (q0r 212) F) = some qab := by kernel_rfl
theorem ok216 : (Tryz.prog.funcs[216]?).bind (fun F => F.body.bind fun _ => cfn Tryz.prog (q0r 216) F) = some qae := by kernel_rfl
theorem ok220 : (Tryz.prog.funcs[220]?).bind (fun F => F.body.bind fun _ => cfn Tryz.prog (q0r 220) F) = some qdj := by kernel_rfl
theorem ok224 : (Tryz.prog.funcs[224]?).bind (fun F => F.body.bind fun _ => cfn Tryz.prog (q0r 224) F) = some qfC := by kernel_rfl
theorem ok228 : (Tryz.prog.funcs[228]?).bind (fun F => F.body.bind fun _ => cfn Tryz.prog (q0r 228) F) = some q66 := by kernel_rfl
theorem ok232 : (Tryz.prog.funcs[232]?).bind (fun F => F.body.bind fun _ => cfn Tryz.prog (q0r 232) F) = some q4N := by kernel_rfl
end Go.F
