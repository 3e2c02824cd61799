/- Part 14. -/
import Derived.Test.YtglbdppmnchoeaaGreatZ11
import Derived.Test.YtglbdppmnchoeaaGreatProg
import Derived.KernelRfl
namespace Go.F
open Go.Proofs
noncomputable abbrev prog:Program:=Tryz.prog
set_option maxRecDepth 100000
theorem S3:(prog.funcs.toList.zipIdx.all fun x=>x.1.name != "math.sqrt" ||Nat.beq x.2 169)=true:=by kernel_rfl
theorem UJ:(prog.funcs[169]?).map Extern.findNext=some none:=by kernel_rfl
theorem YQ:(prog.funcs[169]?).bind Extern.find=some Extern.MathSqrt.sqrt:=by kernel_rfl
theorem Ut:(prog.funcs[169]?).map (fun fn=>fn.name== "runtime.NumGoroutine")=some false:=by kernel_rfl
theorem X8:Dp prog:=by
 intro f fn c i j x r w k
 have b:f=169:=by
  have a:=S3;rw[zM]at a;have l:f<prog.funcs.size:=(zS.1 c).1
  have:=a (fn,f) (by
   rw[List.mem_zipIdx_iff_getElem?]
   simpa using c)
  simp only[xF]at this;rcases this with h|h
  .simp only[bne,j]at h;cases h
  .exact zl h
 subst b;have d:=UJ;have e:=YQ;have g:=Ut;rw[c]at d e g;simp only[xR,zV,Option.bind_some]at d e g;simp only[callFunc,Sem.run_bind,run_program,Result.andThen_ok,c,g,xq,vE,i,Option.isNone_none,if_true,d,e];have m:Extern.MathSqrt.sqrt #[.float .f64 x]=(match FloatKind.f64.format.sqrt x with|some r=>(Pure.pure (.float .f64 r):Sem Value) |none=>(do Pure.pure (.float .f64 (<-choose (.nanBits .f64 x x))))):=rfl;rw[m,k];rfl
end Go.F
