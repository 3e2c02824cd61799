/- Part 18. -/
import Derived.Test.YtglbdppmnchoeaaGreatZ17
import Derived.ProofKit
import Derived.Carry
namespace Go.F
open Go.ChangeShapes Go.WideShapes Go.ChangeAt Go.RowKit
theorem Vc {H:Type}{enc:TypeId×Value->H}{P:Program}{f:Func}{s:ChangeSpec}{apart d c:Bool}{W i:World}{args:Array Value}{v:Value}{j k:List (DataW H)}{a pa pv:List MemPlace}
 (o:DataW.Whole enc P f.params.toList s.vars apart W args.toList j k a)
 (l:∀(b:Nat) (q:Nat->Bool) (r:Bool),DataW.TrodAll enc P i b q r f.resultTypes.toList (v.resultList f.resultTypes.size) (s.fn H (j++k)).results [])
 (e:DataW.TrodAll enc P i 0 (fun b=>decide (b<W.heap.size)) true f.params.toList args.toList (s.fn H (j++k)).args pa)
 (g:DataW.TrodVars enc P i (fun b=>decide (b<W.heap.size)) s.vars (s.fn H (j++k)).vars pv)
 (n:a=pa++pv) (t:RowKit.Below W.heap.size W i):s.post enc P f apart d c false W args v i:=by
 have u:∀p∈a,p.block<W.heap.size:=fun p m=>o.lt p m;refine⟨j,k,a,[],pa,pv,o,l _ _ _,e,g,World.keptBut_mono (fun p m=>⟨m,?_⟩) (t.frame (·∈a)),fun h=>?_⟩
 .rw[n,za]at m;exact Or.inr m
 cases h
theorem ok_agg {P:Program}{w:World}{r:Reach}{base:Nat}{t:TypeId}{v:Value}{n:Nat}{s:Sh}(b:fa P n t=some s)(a:Value.okWide P w r base t v):(∃cs,v=.agg cs)↔∃d,s=.st d:=by
 cases n with
 |zero=>trivial
 |succ n=>
  simp only[fa]at b;unfold Value.okWide at a;split at b
  .rename_i c;cases b;cases v<;>simp[Cell.okWide,Cell.ok,c]at a⊢
  .rename_i c;cases b;cases v<;>simp[Cell.okWide,Cell.ok,c]at a⊢
  .rename_i c;cases b;cases v<;>simp[Cell.okWide,Cell.ok,c]at a⊢
  .rename_i c;split at b
   .rw[Option.map_eq_some_iff]at b;obtain⟨e,_,rfl⟩:=b;cases v<;>simp[Cell.okWide,Cell.ok,c]at a⊢
   grind
  grind[Option.map_eq_some_iff];grind[Option.map_eq_some_iff];grind
end Go.F
namespace Go.F
structure Env.le (E E':Env):Prop where
 pure:∀f args r,E.pure f args=some r->E'.pure f args=some r
 shar:∀f args h z nx r,E.shar f args h z nx=some r->E'.shar f args h z nx=some r
 shared:E'.shared=E.shared
theorem VX {E b:Env}(hE:E.le b){h:ab}{f:FuncId}{args:Hm}{r:Out}(a:ig E.pure h f args=some r):ig b.pure h f args=some r:=by
 unfold ig at a⊢;split at a
 omega
 .split at a
  grind
  .rename_i d c;rw[hE.pure _ _ _ c];omega
theorem Se {P:Program}{E c:Env}(hE:E.le c){o:Oper}{t:ai}{h:ab}{z:Frz}{id:Nat}{r:Out}(a:step P E.pure o t h z id=some r):step P c.pure o t h z id=some r:=by
 unfold step at a⊢;cases b:o.op<;>simp only[b]at a⊢ <;>first|exact a|skip
 grind[VX]
theorem Xk {P:Program}{E c:Env}(hE:E.le c){a:Bool}{f:Sp}{ops:Array Oper}{o:Oper}{i base:Nat}{s s':St}(b:one P E a f ops o i base s=some s'):one P c a f ops o i base s=some s':=by
 unfold one at b⊢;have d:de c a o s.tmps=de E a o s.tmps:=by unfold de;rw[hE.shared]
 split at b
 .simp only[d];split at b
  .split at b
   .rename_i v h z nx e;simp only[hE.shar _ _ _ _ _ _ e];omega
   grind
  grind[Se]
 omega;omega
theorem Xr {P:Program}{E b:Env}(hE:E.le b){a:Bool}{c:Sp}{ops:Array Oper}{base:Nat}:∀{l:List Oper} {i:Nat} {s s':St},gG P E a c ops base l i s=some s'->gG P b a c ops base l i s=some s':=by
 intro l
 induction l with
 |nil=>intro i s s' h;exact h
 |cons o l d=>
  grind[gG,Xk]
theorem P4 {P:Program}{E e:Env}(hE:E.le e){d:Plan}{nx0:Nat}:∀(c:Code) (s:St) (r:Ex×St),aR P E d nx0 c s=some r->aR P e d nx0 c s=some r:=by
 intro c
 induction c with
 |region k ops j=>
  grind[aR,Xr]
 |seq a b f g=>
  grind[aR]
 |cond c a b f g=>
  grind[aR]
 |block id c l=>
  grind[aR]
 |loop c l=>
  intro s r h;simp only[aR]at h⊢;split at h
  .have key:∀(n:Nat) (s:St),eK (aR P E d nx0 c) n s=some r->eK (aR P e d nx0 c) n s=some r:=by
    intro n
    induction n with
    |zero=>simp[eK]
    |succ n i=>
     grind[eK]
   grind
  have key:∀(n:Nat) (s:St),dO nx0 (d.pn (dd c)) (d.lv (dd c)) (aR P E d nx0 c) n s=some r->dO nx0 (d.pn (dd c)) (d.lv (dd c)) (aR P e d nx0 c) n s=some r:=by
   intro n
   induction n with
   |zero=>simp[dO]
   |succ n i=>
    grind[dO]
  grind
 |_=>intro s r h;exact h
theorem G2 {P:Program}{E a:Env}(hE:E.le a){b:Plan}{fn:Func}{c:Code}{args:Hm}{h:ab}{z:Frz}{nx:Nat}{r:D×ab×Frz×Nat}(d:body P E b fn c args h z nx=some r):body P a b fn c args h z nx=some r:=by
 grind[body,P4]
theorem env_le (P:Program)(a:FuncId->Bool)(b:FuncId->Plan):∀n,(env P a b n).le (env P a b (n+1)):=by
 intro n
 induction n with
 |zero=>exact⟨fun f args r h=>by trivial,fun f args h z nx r hr=>by trivial,rfl⟩
 |succ n c=>
  have e:∀S,(⟨(env P a b n).pure,(env P a b n).shar,S⟩:Env).le ⟨(env P a b (n+1)).pure,(env P a b (n+1)).shar,S⟩:=fun S=>⟨c.pure,c.shar,rfl⟩;refine⟨fun f args r h=>?_,fun f args g z nx r h=>?_,rfl⟩
  .rw[env]at h;rw[env];simp at h⊢;split at h
   omega
   .split at h
    omega
    .split at h
     grind[G2]
     .obtain⟨N,d⟩:=C6 (pus:=fun _=>(env P a b (n+1)).pure) (fun f args r hr=>Evt.all fun _=>c.pure f args r hr) h;exact d N (zD _)
  rw[env]at h;rw[env];simp at h⊢;split at h
  omega
  .split at h
   omega
   .split at h
    grind[G2]
    .obtain⟨N,d⟩:=Dq (pus:=fun _=>(env P a b (n+1)).pure) (fun f args r hr=>Evt.all fun _=>c.pure f args r hr) h;exact d N (zD _)
theorem Yn {P:Program}{a:FuncId->Bool}{b:FuncId->Plan}{n m:Nat}{f:FuncId}{args:Hm}{r:D}(c:n<=m)(h:run P a b n f args=some r):run P a b m f args=some r:=by
 induction c with
 |refl=>omega
 |step _ d=>exact(env_le P a b _).pure _ _ _ d
end Go.F
