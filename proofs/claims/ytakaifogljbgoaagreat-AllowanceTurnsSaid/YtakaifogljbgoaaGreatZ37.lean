/- Parts of the proof, part 37: Seat. -/
import Derived.Test.YtakaifogljbgoaaGreatZ31
import Derived.Test.YtakaifogljbgoaaGreatZ29
import Derived.Test.YtakaifogljbgoaaGreatProg
import Derived.KernelRfl
set_option linter.all false
namespace Go.F
open Go.Proofs
noncomputable abbrev prog:Program:=Tryz.prog
set_option maxRecDepth 100000
theorem qF1:(prog.funcs.toList.zipIdx.all fun x=>x.1.name != "math.sqrt" ||Nat.beq x.2 172)=true:=by kernel_rfl
theorem qF2:(prog.funcs[172]?).map Extern.findNext=some none:=by kernel_rfl
theorem qF3:(prog.funcs[172]?).bind Extern.find=some Extern.MathSqrt.sqrt:=by kernel_rfl
theorem qF4:(prog.funcs[172]?).map (fun fn=>fn.name== "runtime.NumGoroutine")=some false:=by kernel_rfl
theorem qJ1:qBP prog:=by
 intro f fn hf hb hn x r w hs
 have hNum:f=172:=by
  have hall:=qF1
  rw[List.all_eq_true]at hall
  have hlt:f<prog.funcs.size:=(Array.getElem?_eq_some_iff.1 hf).1
  have:=hall (fn,f) (by
   rw[List.mem_zipIdx_iff_getElem?]
   simpa using hf)
  simp only[Bool.or_eq_true]at this
  rcases this with h|h
  ·simp only[bne,hn]at h;cases h
  ·exact Nat.eq_of_beq_eq_true h
 subst hNum
 have e1:=qF2
 have e2:=qF3
 have e3:=qF4
 rw[hf]at e1 e2 e3
 simp only[Option.map_some,Option.some.injEq,Option.bind_some]at e1 e2 e3
 simp only[callFunc,Sem.run_bind,run_program,Result.andThen_ok,hf,e3,Bool.false_eq_true,if_false,hb,Option.isNone_none,if_true,e1,e2]
 have e4:Extern.MathSqrt.sqrt #[.float .f64 x]=(match FloatKind.f64.format.sqrt x with|some r=>(Pure.pure (.float .f64 r):Sem Value) |none=>(do Pure.pure (.float .f64 (←choose (.nanBits .f64 x x))))):=rfl
 rw[e4,hs]
 rfl
end Go.F
