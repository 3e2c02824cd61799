/- Part 38. -/
import Derived.Test.YtglbdppmnchoeaaGreatZ37
import Derived.ProofKit
import Derived.Carry
set_option linter.all false
namespace Go.F
open Go.ChangeShapes Go.WideShapes Go.ChangeAt Go.RowKit
theorem Vc {H:Type}{enc:TypeId×Value->H}{P:Program}{f:Func}{s:ChangeSpec}{apart d c:Bool}{W i:World}{args:Array Value}{v:Value}{j k:List (DataW H)}{a pa pv:List MemPlace}
 (o:DataW.Whole enc P f.params.toList s.vars apart W args.toList j k a)
 (l:∀(b:Nat) (q:Nat->Bool) (r:Bool),DataW.TrodAll enc P i b q r f.resultTypes.toList (v.resultList f.resultTypes.size) (s.fn H (j++k)).results [])
 (e:DataW.TrodAll enc P i 0 (fun b=>decide (b<W.heap.size)) true f.params.toList args.toList (s.fn H (j++k)).args pa)
 (g:DataW.TrodVars enc P i (fun b=>decide (b<W.heap.size)) s.vars (s.fn H (j++k)).vars pv)
 (n:a=pa++pv) (t:RowKit.Below W.heap.size W i):s.post enc P f apart d c false W args v i:=by
 have u:∀p∈a,p.block<W.heap.size:=fun p m=>o.lt p m;refine⟨j,k,a,[],pa,pv,o,l _ _ _,e,g,World.keptBut_mono (fun p m=>⟨m,?_⟩) (t.frame (·∈a)),fun h=>?_⟩
 .rw[n,za]at m;exact Or.inr m
 cases h
theorem ok_agg {P:Program}{w:World}{r:Reach}{base:Nat}{t:TypeId}{v:Value}{n:Nat}{s:Sh}(b:fa P n t=some s)(a:Value.okWide P w r base t v):(∃cs,v=.agg cs)↔∃d,s=.st d:=by
 cases n with
 |zero=>trivial
 |succ n=>
  simp only[fa]at b;unfold Value.okWide at a;split at b
  .rename_i c;cases b;cases v<;>simp[Cell.okWide,Cell.ok,c]at a⊢
  .rename_i c;cases b;cases v<;>simp[Cell.okWide,Cell.ok,c]at a⊢
  .rename_i c;cases b;cases v<;>simp[Cell.okWide,Cell.ok,c]at a⊢
  .rename_i c;split at b
   .rw[Option.map_eq_some_iff]at b;obtain⟨e,_,rfl⟩:=b;cases v<;>simp[Cell.okWide,Cell.ok,c]at a⊢
   grind
  grind[Option.map_eq_some_iff];grind[Option.map_eq_some_iff];grind
end Go.F
