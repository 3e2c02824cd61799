/- Parts of the proof, part 38: Em. -/
import Derived.Test.YtakaifogljbgoaaGreatZ31
import Derived.Test.YtakaifogljbgoaaGreatZ20
import Derived.Test.YtakaifogljbgoaaGreatProg
import Derived.WalkKit
import Derived.Lib.Walk
import Derived.Lib.SliceRun
import Derived.KernelRfl
set_option linter.all false
namespace Go.F
open Go.Proofs Go.RowKit Go.Lib
theorem em_ok:EmOK Tryz.prog qgt:=fun _ _ _ _ _ h=>nomatch h
end Go.F
