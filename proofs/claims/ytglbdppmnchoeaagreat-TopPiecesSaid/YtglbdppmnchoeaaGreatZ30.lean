/- Part 30. -/
import Derived.Test.YtglbdppmnchoeaaGreatZ21
set_option linter.all false
namespace Go.F
def Eu:Nat:=169
end Go.F
