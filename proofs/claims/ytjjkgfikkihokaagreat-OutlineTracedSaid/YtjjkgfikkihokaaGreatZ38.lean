/- Parts of the proof, part 38: Tab4. -/
import Derived.Test.YtjjkgfikkihokaaGreatZ33
import Derived.Test.YtjjkgfikkihokaaGreatZ25
import Derived.Test.YtjjkgfikkihokaaGreatProg
import Derived.KernelRfl
set_option linter.all false
namespace Go.F
open Go.Proofs
set_option maxRecDepth 100000
theorem ok6 : (Tryz.prog.funcs[6]?).bind (fun F => F.body.bind fun _ => cfn Tryz.prog (q0r 6) F) = some q3C := by kernel_rfl
theorem ok26 : (Tryz.prog.funcs[26]?).bind (fun F => F.body.bind fun _ => cfn Tryz.prog (q0r 26) F) = some q83 := by kernel_rfl
theorem ok30 : (Tryz.prog.funcs[30]?).bind (fun F => F.body.bind fun _ => cfn Tryz.prog (q0r 30) F) = some qcL := by kernel_rfl
theorem ok34 : (Tryz.prog.funcs[34]?).bind (fun F => F.body.bind fun _ => cfn Tryz.prog (q0r 34) F) = some q77 := by kernel_rfl
theorem ok38 : (Tryz.prog.funcs[38]?).bind (fun F => F.body.bind fun _ => cfn Tryz.prog (q0r 38) F) = some qjt := by kernel_rfl
theorem ok62 : (Tryz.prog.funcs[62]?).bind (fun F => F.body.bind fun _ => cfn Tryz.prog (q0r 62) F) = some q3V := by kernel_rfl
theorem ok66 : (Tryz.prog.funcs[66]?).bind (fun F => F.body.bind fun _ => cfn Tryz.prog (q0r 66) F) = some q7a := by kernel_rfl
theorem ok70 : (Tryz.prog.funcs[70]?).bind (fun F => F.body.bind fun _ => cfn Tryz.prog (q0r 70) F) = some qcR := by kernel_rfl
theorem ok74 : (Tryz.prog.funcs[74]?).bind (fun F => F.body.bind fun _ => cfn Tryz.prog (q0r 74) F) = some q7c := by kernel_rfl
theorem ok82 : (Tryz.prog.funcs[82]?).bind (fun F => F.body.bind fun _ => cfn Tryz.prog (q0r 82) F) = some q63 := by kernel_rfl
theorem ok106 : (Tryz.prog.funcs[106]?).bind (fun F => F.body.bind fun _ => cfn Tryz.prog (q0r 106) F) = some qd1 := by kernel_rfl
theorem ok110 : (Tryz.prog.funcs[110]?).bind (fun F => F.body.bind fun _ => cfn Tryz.prog (q0r 110) F) = some k_slices_Compact_Spot_Spot := by kernel_rfl
theorem ok114 : (Tryz.prog.funcs[114]?).bind (fun F => F.body.bind fun _ => cfn Tryz.prog (q0r 114) F) = some q6H := by kernel_rfl
theorem ok122 : (Tryz.prog.funcs[122]?).bind (fun F => F.body.bind fun _ => cfn Tryz.prog (q0r 122) F) = some q8W := by kernel_rfl
theorem ok126 : (Tryz.prog.funcs[126]?).bind (fun F => F.body.bind fun _ => cfn Tryz.prog (q0r 126) F) = some q8c := by kernel_rfl
theorem ok130 : (Tryz.prog.funcs[130]?).bind (fun F => F.body.bind fun _ => cfn Tryz.prog (q0r 130) F) = some q8d := by kernel_rfl
theorem ok143 : (Tryz.prog.funcs[143]?).bind (fun F => F.body.bind fun _ => cfn Tryz.prog (q0r 143) F) = some qd8 := by kernel_rfl
theorem ok147 : (Tryz.prog.funcs[147]?).bind (fun F => F.body.bind fun _ => cfn Tryz.prog (q0r 147) F) = some qa3 := by kernel_rfl
theorem ok151 : (Tryz.prog.funcs[151]?).bind (fun F => F.body.bind fun _ => cfn Tryz.prog (q0r 151) F) = some q8e := by kernel_rfl
theorem ok155 : (Tryz.prog.funcs[155]?).bind (fun F => F.body.bind fun _ => cfn Tryz.prog (q0r 155) F) = some qbp := by kernel_rfl
theorem ok163 : (Tryz.prog.funcs[163]?).bind (fun F => F.body.bind fun _ => cfn Tryz.prog (q0r 163) F) = some qbq := by kernel_rfl
theorem ok167 : (Tryz.prog.funcs[167]?).bind (fun F => F.body.bind fun _ => cfn Tryz.prog (q0r 167) F) = some qa7 := by kernel_rfl
theorem ok171 : (Tryz.prog.funcs[171]?).bind (fun F => F.body.bind fun _ => cfn Tryz.prog (q0r 171) F) = some qa8 := by kernel_rfl
theorem ok175 : (Tryz.prog.funcs[175]?).bind (fun F => F.body.bind fun _ => cfn Tryz.prog (q0r 175) F) = some qa9 := by kernel_rfl
theorem ok179 : (Tryz.prog.funcs[179]?).bind (fun F => F.body.bind fun _ => cfn Tryz.prog (q0r 179) F) = some qfu := by kernel_rfl
theorem ok183 : (Tryz.prog.funcs[183]?).bind (fun F => F.body.bind fun _ => cfn Tryz.prog (q0r 183) F) = some qhr := by kernel_rfl
theorem ok187 : (Tryz.prog.funcs[187]?).bind (fun F => F.body.bind fun _ => cfn Tryz.prog (q0r 187) F) = some qbt := by kernel_rfl
theorem ok191 : (Tryz.prog.funcs[191]?).bind (fun F => F.body.bind fun _ => cfn Tryz.prog (q0r 191) F) = some qjz := by kernel_rfl
theorem ok195 : (Tryz.prog.funcs[195]?).bind (fun F => F.body.bind fun _ => cfn Tryz.prog (q0r 195) F) = some qbu := by kernel_rfl
theorem ok203 : (Tryz.prog.funcs[203]?).bind (fun F => F.body.bind fun _ => cfn Tryz.prog (q0r 203) F) = some qaa := by kernel_rfl
theorem ok207 : (Tryz.prog.funcs[207]?).bind (fun F => F.body.bind fun _ => cfn Tryz.prog (q0r 207) F) = some k_natural_left := by kernel_rfl
theorem ok211 : (Tryz.prog.funcs[211]?).bind (fun F => F.body.bind fun _ => cfn Tryz.prog (q0r 211) F) = some qbx := by kernel_rfl
theorem ok215 : (Tryz.prog.funcs[215]?).bind (fun F => F.body.bind fun _ => cfn Tryz.prog (q0r 215) F) = some q7i := by kernel_rfl
theorem ok219 : (Tryz.prog.funcs[219]?).bind (fun F => F.body.bind fun _ => cfn Tryz.prog (q0r 219) F) = some qfA := by kernel_rfl
theorem ok223 : (Tryz.prog.funcs[223]?).bind (fun F => F.body.bind fun _ => cfn Tryz.prog (q0r 223) F) = some qhw := by kernel_rfl
theorem ok227 : (Tryz.prog.funcs[227]?).bind (fun F => F.body.bind fun _ => cfn Tryz.prog (q0r 227) F) = some qhz := by kernel_rfl
theorem ok235 : (Tryz.prog.funcs[235]?).bind (fun F => F.body.bind fun _ => cfn Tryz.prog (q0r 235) F) = some q6I := by kernel_rfl
end Go.F
