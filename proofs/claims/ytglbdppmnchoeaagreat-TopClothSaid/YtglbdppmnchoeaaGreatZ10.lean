/- Part 10. -/
import Derived.Test.YtglbdppmnchoeaaGreatZ9
namespace Go.F
def Eu:Nat:=169
end Go.F
