/- Part 23. -/
import Derived.Test.YtglbdppmnchoeaaGreatZ21
import Derived.Test.YtglbdppmnchoeaaGreatZ22
import Derived.Shelf.SlSortCmp.NoneTotal
set_option linter.all false
namespace Go.F.Gv
open Go.Proofs Go.Sort Go.Shelf
theorem JB {enc:Nat->List Value}(b:∀x,(enc x).length=1)(d:Array Nat):flatK enc 1 d=d.map fun x=>(enc x)[0]!:=by
 apply ext_get! (by simp);intro t a;rw[size_flatK,wn]at a;rw[get_flatK _ _ _ _ (by omega),Nat.div_one,Nat.mod_one,getElem!_pos (d.map _) t (by grind),Array.getElem_map,getElem!_pos d t a]
theorem VK {enc:Nat->Value}{w:World}{a:Nat}{d:Array Nat}:putRow id w a 0 (d.map enc)=putRow enc w a 0 d:=by
 unfold putRow;unfold putCells;grind
theorem sortC1 {f:Nat}{ρ:Ren}(L:SlLaysF.n6 Tryz.prog ρ)(p:ρ.f 6=f):Zo Tryz.prog f 1 (fun l=>l[0]!):=by
 intro enc q h1 i k g a cap d w eg h o b e
 have r:∀(n:Nat) (c:Array Obj) (dk:Array Nat),sortWorld (fun x=>(enc x)[0]!) w a 0 n dk c=sortWorldK enc 1 w a 0 n dk c:=fun n c dk=>by
  grind[sortWorld,sortWorldK,putRowK,JB,VK]
 have:=Any.slices_SortFunc L (fun x=>(enc x)[0]!) (fun x=>?_) i k g #[] a 0 cap d w eg (fun m c dk s x y=>?_) (fun j t=>?_) b e;grind;grind;grind
 .have:=o j (by simp_all);grind[JB]
theorem Ob {f:Nat}{ρ:Ren}(L:SlLaysF0.n6 Tryz.prog ρ)(s:ρ.f 6=f){k:Nat}(h:∀w,(Go.isAgg (ρ.t 24)).run Tryz.prog w=.ok true w)(i:∀w,(Go.sizeOf (ρ.t 24)).run Tryz.prog w=.ok k w):Zo Tryz.prog f k (fun l=> .agg l.toArray):=by
 intro enc j h1 n o g c cap d w eg a p b e;have:=AnyQ.slices_SortFunc L k h i enc j h1 n o g #[] c 0 cap d w eg (fun m q dk r x y=>a m q dk r x y) p b e;grind
theorem BC {f:Nat}{ρ:Ren}(L:SlLaysF0.n6 Tryz.prog ρ)(a:ρ.f 6=f):ts Tryz.prog f:=by
 intro p cap fv w;grind[AnyF.slices_SortFunc_none]
theorem sort70:Zo Tryz.prog 70 2 (fun l=> .agg l.toArray):=Ob lay70 rfl Tryz.isAgg124 Tryz.sizeOf124
theorem K2:Zo Tryz.prog 191 2 (fun l=> .agg l.toArray):=Ob Pb rfl Tryz.isAgg85 Tryz.sizeOf85
theorem SD:Zo Tryz.prog 270 1 (fun l=>l[0]!):=sortC1 Mc rfl
theorem none70:ts Tryz.prog 70:=BC lay70 rfl
theorem D3:ts Tryz.prog 191:=BC Pb rfl
theorem Pj:ts Tryz.prog 270:=BC (f:=270) {Mc with} rfl
end Go.F.Gv
