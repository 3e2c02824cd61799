/- Part 3. -/
import Derived.Test.YtglbdppmnchoeaaGreatZ2
set_option linter.all false
namespace Go.F
theorem qr {α:Type}(f:Nat->α)(i:Nat)(v:α)(k:Nat):upd f i v k=if k=i then v else f k:=by
 simp[upd]
theorem upd_same {α:Type}(f:Nat->α)(i:Nat)(v:α):upd f i v i=v:=by simp[qr]
theorem upd_ne {α:Type}{f:Nat->α}{i:Nat}{v:α}{k:Nat}(h:k≠i):upd f i v k=f k:=by grind[qr]
theorem Pl {α:Type}(f:Nat->α){i j:Nat}{v u:α}(h:i≠j\/v=u):upd (upd f i v) j u=upd (upd f j u) i v:=by
 grind[qr]
theorem uW {α:Type}(l:List (Nat×α))(f:Nat->α)(k:Nat)(h:∀p∈l,p.1≠k):aJ f l k=f k:=by
 induction l generalizing f with
 |nil=>rfl
 |cons p l a=>
  simp only[aJ];grind[upd_ne,List.mem_cons_self]
theorem SZ {α:Type}(l:List (Nat×α))(f:Nat->α)(i:Nat)(v:α)(h:∀p∈l,p.1≠i\/p.2=v):
 aJ (upd f i v) l=upd (aJ f l) i v:=by
 induction l generalizing f with
 |nil=>rfl
 |cons p l a=>
  grind[aJ,Pl]
theorem Pe {α:Type}(l a:List (Nat×α))(f:Nat->α)(h:∀p∈l,∀q∈a,p.1≠q.1\/p.2=q.2):
 aJ (aJ f l) a=aJ (aJ f a) l:=by
 induction l generalizing f with
 |nil=>rfl
 |cons p l b=>
  simp only[aJ];rw[b _ fun q c=>h q (zG _ c)];grind[SZ,List.mem_cons_self]
theorem XP {t t':ai}{x:Operand}(h:∀d,x=.tmp d->t d=t' d):ev t x=ev t' x:=by
 cases x<;>simp[ev];grind
theorem E1 {t t':ai}{l:List Operand}(h:∀x∈l,ev t x=ev t' x):l.map (ev t)=l.map (ev t'):=
 yA h
theorem WR {t t':ai}(place:Nat->Option (Nat×Nat))(l:List (Nat×Operand))(a:List D)(h:∀p∈l,ev t p.2=ev t' p.2):
 iN t place a l=iN t' place a l:=by
 induction l generalizing a with
 |nil=>rfl
 |cons p l b=>
  grind[iN]
theorem YW {t t':ai}(n:Nat)(l:List (Nat×Operand))(es:List D)(h:∀p∈l,ev t p.2=ev t' p.2):
 iZ t n es l=iZ t' n es l:=by
 induction l generalizing es with
 |nil=>rfl
 |cons p l a=>
  grind[iZ]
theorem Sg {t t':ai}{x:Option Operand}(h:∀y∈x,ev t y=ev t' y):dT t x=dT t' x:=by
 cases x<;>simp[dT];grind
theorem Lb {P:Program}{a:Pure}{o:Oper}{t t':ai}{h:ab}{z:Frz}{id:Nat}(d:∀x∈o.op.operands,ev t x=ev t' x):
 step P a o t h z id=step P a o t' h z id:=by
 unfold step;cases e:o.op<;>simp only[e,Op.operands]at d⊢;grind;grind;grind;grind
 case build ty parts=>
  unfold build;simp only[fun g c=>WR (t:=t) (t':=t') g parts.toList c fun p k=>d p.2 (by grind)]
 grind[YW];grind;grind;grind;simp_all[binX];grind;grind;grind[E1];grind;grind[Sg,Option.mem_def];grind;grind;grind;grind;grind;grind
 case call c=>
  have h1:c.args.toList.map (ev t)=c.args.toList.map (ev t'):=E1 fun x i=>d x (by simp[Call.operands,Array.mem_toList_iff.1 i])
  cases j:c.callee with
  |value f=>dsimp only;rw[d f (by simp[Call.operands,j]),h1]
  |invoke r m=>rfl
  |builtin b=>rw[h1]
theorem Fa {P:Program}{a:Pure}{o:Oper}{t:ai}{h h':ab}{z z':Frz}{id:Nat}(hr:eG o.op=false):
 step P a o t h z id=step P a o t h' z' id:=by
 unfold step;cases b:o.op<;>simp only[b,eG,Bool.true_eq_false]at hr⊢;grind
theorem XO {P:Program}{a:Pure}{o:Oper}{t:ai}{h:ab}{z z':Frz}{id:Nat}(hr:iV o.op=false):
 step P a o t h z id=step P a o t h z' id:=by
 unfold step;cases d:o.op<;>simp only[d,iV,Bool.true_eq_false]at hr⊢
 case call c=>
  cases e:c.callee with
  |value f=>rfl
  |invoke r m=>rfl
  |builtin b=>grind
theorem GR (h:ab):∀(n:Nat) (d:D) (id:Nat),id∈aN h n d->h id≠none:=by
 intro n
 induction n with
 |zero=>simp[aN]
 |succ n g=>
  intro d id m
  cases d with
  |ref i off len=>
   grind[aN]
  |mref i=>
   grind[aN]
  |agg l=>grind[aN]
  |tup l=>grind[aN]
  |fn f a c=>
   grind[aN]
  |bool b=>trivial
  |int k n=>trivial
  |float k b=>trivial
  |str s=>trivial
  |nilsl=>trivial
  |lst l=>trivial
  |pl e o=>trivial
  |ptr i j o=>
   grind[aN]
  |mlst p vs=>trivial
  |opq v=>trivial
  |bad=>trivial
def Eff (h:ab)(rd b a:Bool)(id:Nat)(r:Out):Prop:=
 (∀p∈r.hp,(b=true/\h p.1≠none)\/(a=true/\p.1=id))/\
 (∀p∈r.fz,(rd=true/\p.2=aV h p.1/\h p.1≠none)\/(a=true/\p.1=id))
theorem m8 {h:ab}{rd a b:Bool}{id:Nat}{v:D}:Eff h rd a b id (out v):=by simp[Eff,out]
theorem Ah {h:ab}{rd a:Bool}{id:Nat}{es:List D}{n:Nat}{v:D}:Eff h rd a true id (newRow id es n v):=by simp[Eff,newRow]
theorem ki {h:ab}{rd a b:Bool}{id:Nat}{x:Option D}{r:Out}(c:x.map out=some r):Eff h rd a b id r:=by
 cases x with
 |none=>grind
 |some v=>grind[m8]
theorem Va {P:Program}{h:ab}{z:Frz}{t:TypeId}{a v:D}{c:Bool}{id:Nat}{r:Out}(b:store P h z t a v=some r):Eff h true true c id r:=by
 unfold store at b
 repeat' (split at b)
 all_goals first|(simp at b;done) |skip
 grind[Eff]
theorem UR {P:Program}{h:ab}{z:Frz}{t:TypeId}{a b v:D}{c:Bool}{id:Nat}{r:Out}(d:mapUpdate P h z t a b v=some r):Eff h true true c id r:=by
 unfold mapUpdate at d;grind[Eff]
theorem RS {P:Program}{h:ab}{z:Frz}{a:List TypeId}{l:List D}{b:Bool}{id:Nat}{r:Out}(c:copy P h z a l=some r):Eff h true true b id r:=by
 unfold copy at c;grind[Eff]
theorem PX {P:Program}{h:ab}{z:Frz}{b:List TypeId}{l:List D}{c:Bool}{id:Nat}{r:Out}(a:clear P h z b l=some r):Eff h true true c id r:=by
 unfold clear at a
 repeat' (split at a)
 all_goals first|(simp at a;done) |skip
 grind[Eff]
 .simp at a;grind[Eff,out]
 simp at a;grind[Eff,out]
theorem T9 {P:Program}{h:ab}{z:Frz}{id:Nat}{e:TypeId}{s:D}{new:List D}{r:Out}(a:jH P h z id e s new=some r):Eff h true true true id r:=by
 unfold jH at a
 repeat' (split at a)
 all_goals first|(simp at a;done) |skip
 all_goals (simp at a;subst a;simp[Eff,newRow, *])
theorem RG {P:Program}{h:ab}{z:Frz}{id:Nat}{b:List TypeId}{l:List D}{r:Out}(a:append P h z id b l=some r):Eff h true true true id r:=by
 unfold append at a
 repeat' (split at a)
 all_goals first|(simp at a;done) |exact T9 a
theorem WH {P:Program}{h:ab}{t:TypeId}{x:D}{lo hi b:Option D}{c d:Bool}{id:Nat}{r:Out}(a:ll P h t x lo hi b=some r):Eff h true c d id r:=by
 unfold ll at a
 repeat' (split at a)
 all_goals first|(simp at a;done) |skip
 all_goals (simp at a;subst a;first|exact m8|skip)
 refine⟨by simp,fun p e=>?_⟩;grind[jt]
theorem Wu {b:Pure}{h:ab}{f:FuncId}{l:List D}{c d:Bool}{id:Nat}{r:Out}(a:ig b h f l=some r):Eff h true c d id r:=by
 unfold ig at a;split at a
 grind;split at a
 grind;split at a
 grind[m8];simp at a;subst a;refine⟨by simp,fun p e=>?_⟩;grind[GR]
theorem PH {P:Program}{g:Pure}{o:Oper}{t:ai}{h:ab}{z:Frz}{id:Nat}{r:Out}(b:step P g o t h z id=some r):
 Eff h (eG o.op) (iV o.op) (gM o.op) id r:=by
 unfold step at b;cases j:o.op<;>simp only[j]at b⊢;grind[m8];grind[m8];grind[m8]
 case alloc e=>
  repeat' (split at b)
  all_goals first|(simp at b;done) |skip
  simp at b;subst b;exact Ah
 case box e x=>
  split at b
  .simp at b;subst b;exact Ah
  grind
 grind[ki]
 case buildSlice ty len parts=>
  repeat' (split at b)
  all_goals first|(simp at b;done) |skip
  simp at b;obtain⟨es,_,rfl⟩:=b;exact Ah
 case load ty a=>grind[ki]
 case store ty a v=>exact Va b
 case nilCheck x=>grind[m8]
 case binOp op ty x y yt=>grind[ki]
 case unOp op ty x=>grind[ki]
 case convert s d x=>grind[ki]
 case makeFunc fn a c=>grind[m8]
 case makeMap ty r=>grind[Eff,gM]
 case makeSlice ty l c=>
  repeat' (split at b)
  all_goals first|(simp at b;done) |skip
  simp at b;subst b;exact Ah
 case slice ty x lo hi mx=>exact WH b
 case fieldAddr s x f=>grind[ki]
 case indexAddr ty x ix=>grind[ki]
 case index ty x ix=>grind[ki]
 case lookup ty x ix ok=>grind[ki]
 case mapUpdate ty m k v=>exact UR b
 case extract x i=>grind[ki]
 case call c=>
  grind[Wu,iV,gM,eG,RG,RS,PX,ki]
 all_goals (simp at b)
end Go.F
