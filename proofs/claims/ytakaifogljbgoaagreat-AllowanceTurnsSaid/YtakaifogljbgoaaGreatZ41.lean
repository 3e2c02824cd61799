/- Parts of the proof, part 41: Bridge2. -/
import Derived.Test.YtakaifogljbgoaaGreatZ40
import Derived.ProofKit
import Derived.Carry
set_option linter.all false
namespace Go.F
open Go.ChangeShapes Go.WideShapes Go.ChangeAt Go.RowKit
theorem qJD {H:Type}{enc:TypeId×Value→H}{P:Program}{f:Func}{s:ChangeSpec}{apart fresh handsOn:Bool}{W W':World}{args:Array Value}{v:Value}{ds gs:List (DataW H)}{before pa pv:List MemPlace}
 (hW:DataW.Whole enc P f.params.toList s.vars apart W args.toList ds gs before)
 (hres:∀(b:Nat) (sp:Nat→Bool) (hd:Bool),DataW.TrodAll enc P W' b sp hd f.resultTypes.toList (v.resultList f.resultTypes.size) (s.fn H (ds++gs)).results [])
 (hargs:DataW.TrodAll enc P W' 0 (fun b=>decide (b<W.heap.size)) true f.params.toList args.toList (s.fn H (ds++gs)).args pa)
 (hvars:DataW.TrodVars enc P W' (fun b=>decide (b<W.heap.size)) s.vars (s.fn H (ds++gs)).vars pv)
 (hps:before=pa++pv) (hb:Below W.heap.size W W'):s.post enc P f apart fresh handsOn false W args v W':=by
 have hlt:∀p∈before,p.block<W.heap.size:=fun p hp=>hW.lt p hp
 refine⟨ds,gs,before,[],pa,pv,hW,hres _ _ _,hargs,hvars,World.keptBut_mono (fun p hp=>⟨hp,?_⟩) (hb.frame (·∈before)),fun h=>?_⟩
 ·rw[hps,List.mem_append]at hp
  exact Or.inr hp
 cases h
theorem ok_agg {P:Program}{w:World}{r:Reach}{base:Nat}{t:TypeId}{v:Value}{n:Nat}{s:Sh}(hs:qbR P n t=some s)(hok:Value.okWide P w r base t v):(∃cs,v=.agg cs)↔∃fs,s=.st fs:=by
 cases n with
 |zero=>simp[qbR]at hs
 |succ n=>
  simp only[qbR]at hs
  unfold Value.okWide at hok
  split at hs
  ·rename_i hu;rw[hu]at hok;cases hs;cases v<;>simp[Cell.okWide,Cell.ok,hu]at hok⊢
  ·rename_i hu;rw[hu]at hok;cases hs;cases v<;>simp[Cell.okWide,Cell.ok,hu]at hok⊢
  ·rename_i hu;rw[hu]at hok;cases hs;cases v<;>simp[Cell.okWide,Cell.ok,hu]at hok⊢
  ·rename_i hu
   rw[hu]at hok
   split at hs
   ·rw[Option.map_eq_some_iff]at hs
    obtain⟨se,_,rfl⟩:=hs
    cases v<;>simp[Cell.okWide,Cell.ok,hu]at hok⊢
   cases hs
  ·rename_i hu
   rw[hu]at hok
   obtain⟨cs,rfl,_⟩:=hok
   split at hs
   ·rw[Option.map_eq_some_iff]at hs
    obtain⟨se,_,rfl⟩:=hs
    exact⟨fun _=>⟨_,rfl⟩,fun _=>⟨_,rfl⟩⟩
   cases hs
  ·rename_i hu
   rw[hu]at hok
   obtain⟨cs,rfl,_⟩:=hok
   split at hs
   ·rw[Option.map_eq_some_iff]at hs
    obtain⟨se,_,rfl⟩:=hs
    exact⟨fun _=>⟨_,rfl⟩,fun _=>⟨_,rfl⟩⟩
   cases hs
  cases hs
end Go.F
