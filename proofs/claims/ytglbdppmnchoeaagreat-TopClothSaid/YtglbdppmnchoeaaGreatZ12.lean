/- Part 12. -/
import Derived.Test.YtglbdppmnchoeaaGreatZ11
import Derived.Test.YtglbdppmnchoeaaGreatProg
import Derived.KernelRfl
set_option maxHeartbeats 4000000
namespace Go.F
open Go.Proofs
def OkK (i:Nat)(k:KFn):Prop:=(Tryz.prog.funcs[i]?).bind (fun F=>F.body.bind fun _=>cfn Tryz.prog (fL i) F)=some k
noncomputable def kof0 (i:Nat):Option KFn:=(Tryz.prog.funcs[i]?).bind fun F=>jV (cq0 Tryz.prog) Tryz.prog (fL i) F
set_option maxRecDepth 100000 in
noncomputable abbrev kof (i:Nat) (r:{k:KFn//kof0 i=some k}:=by refine⟨?_,?_⟩;rotate_left;unfold kof0;conv=>{lhs;reduce;try simp only[Int.reduceOfNat,Int.reduceNegSucc]})
 (h:(Tryz.prog.funcs[i]?).bind (fun F=>F.body.bind fun _=>cfn Tryz.prog (fL i) F)=some r.1:=by kernel_rfl):{k:KFn//OkK i k}:=⟨r.1,h⟩
end Go.F
