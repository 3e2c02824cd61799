/- Parts of the proof, part 33: Seat. -/
import Derived.Test.YtjjkgfikkihokaaZ32
import Derived.Test.YtjjkgfikkihokaaZ29
import Derived.Test.YtjjkgfikkihokaaProg
import Derived.KernelRfl
set_option linter.all false
/- This seat's program: its functions compile to the table's code; its regions may be run in the text's order; its square root. -/
namespace Go.F
open Go.Proofs

noncomputable abbrev prog : Program := Try.prog

set_option maxRecDepth 100000
theorem sqrt_only : (prog.funcs.toList.zipIdx.all fun x => x.1.name != "math.sqrt" || Nat.beq x.2 55) = true := by kernel_rfl

theorem sqrt_next : (prog.funcs[55]?).map Extern.findNext = some none := by kernel_rfl
theorem sqrt_find : (prog.funcs[55]?).bind Extern.find = some Extern.MathSqrt.sqrt := by kernel_rfl
theorem sqrt_name : (prog.funcs[55]?).map (fun fn => fn.name == "runtime.NumGoroutine") = some false := by kernel_rfl

theorem sqrt_ok : SqrtOK prog := by
  intro f fn hf hb hn x r w hs
  have hNum : f = 55 := by
    have hall := sqrt_only
    rw [List.all_eq_true] at hall
    have hlt : f < prog.funcs.size := (Array.getElem?_eq_some_iff.1 hf).1
    have := hall (fn, f) (by
      rw [List.mem_zipIdx_iff_getElem?]
      simpa using hf)
    simp only [Bool.or_eq_true] at this
    rcases this with h | h
    · simp only [bne, hn] at h; cases h
    · exact Nat.eq_of_beq_eq_true h
  subst hNum
  have e1 := sqrt_next
  have e2 := sqrt_find
  have e3 := sqrt_name
  rw [hf] at e1 e2 e3
  simp only [Option.map_some, Option.some.injEq, Option.bind_some] at e1 e2 e3
  simp only [callFunc, Sem.run_bind, run_program, Result.andThen_ok, hf, e3, Bool.false_eq_true, if_false, hb, Option.isNone_none, if_true, e1, e2]
  have e4 : Extern.MathSqrt.sqrt #[.float .f64 x] = (match FloatKind.f64.format.sqrt x with | some r => (Pure.pure (.float .f64 r) : Sem Value) | none => (do Pure.pure (.float .f64 (← choose (.nanBits .f64 x x))))) := rfl
  rw [e4, hs]
  rfl

end Go.F
