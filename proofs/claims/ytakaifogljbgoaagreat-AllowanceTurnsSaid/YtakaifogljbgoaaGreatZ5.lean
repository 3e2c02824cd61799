/- Parts of the proof, part 5: Ops1. -/
import Derived.Test.YtakaifogljbgoaaGreatZ4
import Derived.Laws.Cells
import Derived.Laws.StructEq
import Derived.Lib.SliceRun
set_option linter.all false
namespace Go.F
open Go.RowKit (Below)
variable {P:Program}{c:Ctx}{m:Map}{pr:q1x}{h:q0e}{z:Frz}{w:World}
theorem qu0 (v:Value):VR m pr w (quT v) v:=by
 unfold quT
 split
 ·exact .bool _
 ·exact .int _ _
 ·exact .float _ _
 ·exact .str _
 ·exact .nilsl _
 ·exact .fn _ [] [] _ _ rfl rfl (by simp) (by simp)
 ·exact .bad _
 ·exact .bad _
 rename_i h0 _ _ _ _ _ h1 h2
 refine .opq _ ?_ ?_
 ·cases v<;>first|rfl|(exfalso;exact h1 _ rfl) |(exfalso;exact h2 _ rfl)
 cases v<;>first|rfl|(exfalso;exact h0 _ rfl)
theorem q4J (v:Value):VR m pr w (q59 v) v:=by
 unfold q59
 split
 ·rename_i vs
  unfold aggOf
  split
  ·rename_i hall
   refine .agg _ vs (by simp) (fun k hk hk'=>?_) (List.all_eq_true.1 hall)
   simp only[List.getElem_map,Array.getElem_toList]
   exact qu0 _
  exact .bad _
 ·exact .tup [] _ rfl (by simp)
 exact qu0 v
def qqH (m:Map)(pr:q1x)(w:World)(t:q0z)(ρ:Operand→Value):Prop:=∀x,VR m pr w (ev t x) (ρ x)
theorem qf4 {t:q0z}{a:Act}(ht:∀i,VR m pr w (t i) (a.tmps.getD i undef)):qqH m pr w t a.eval:=by
 intro x
 cases x with
 |tmp i=>exact ht i
 |const v=>exact q4J v
 |global g=>exact .bad _
 |func f=>exact .fn f [] [] _ _ rfl rfl (by simp) (by simp)
def Sim (c:Ctx)(m:Map)(h:q0e)(z:Frz)(w:World)(id:Nat)(r:Out)(res:Result Next):Prop:=
 ∃(nxt:Next) (w':World) (m':Map),res=.ok nxt w'∧
  ((∃v,nxt=.value v∧VR m' (Pr c m' (q0A h r.hp) (q0A z r.fz)) w' r.v v)∨(nxt=.skip∧r.v=.tup []))∧
  HR c m' (q0A h r.hp) (q0A z r.fz) w'∧
  Ev m (Pr c m h z) w m' (Pr c m' (q0A h r.hp) (q0A z r.fz)) w'∧
  (∀k,k≠id→m' k=m k)∧Below c.B w w'
theorem Sim.val {id:Nat}{d:D}{v:Value}{res:Result Next}(H:HR c m h z w)(hres:res=.ok (.value v) w)(hv:VR m (Pr c m h z) w d v):Sim c m h z w id (out d) res:=
 ⟨.value v,w,m,hres,.inl ⟨v,rfl,hv⟩,H,Ev.refl _ _ _,fun _ _=>rfl,Below.refl _ _⟩
theorem VR.ints {d:D}{v:Value}{k:IntKind}{n:Int}(hv:VR m pr w d v)(hd:d=.int k n):v=.int k n:=by subst hd;cases hv;rfl
theorem VR.bools {d:D}{v:Value}{b:Bool}(hv:VR m pr w d v)(hd:d=.bool b):v=.bool b:=by subst hd;cases hv;rfl
theorem VR.strs {d:D}{v:Value}{s:ByteArray}(hv:VR m pr w d v)(hd:d=.str s):v=.string s:=by subst hd;cases hv;rfl
theorem VR.floats {d:D}{v:Value}{k:FloatKind}{b:Nat}(hv:VR m pr w d v)(hd:d=.float k b):v=.float k b:=by subst hd;cases hv;rfl
theorem VR.aggs {v:Value}{l:List D}(hv:VR m pr w (.agg l) v):∃vs:Array Value,v=.agg vs∧l.length=vs.size∧(∀k (_:k<l.length) (_:k<vs.size),VR m pr w l[k] vs[k])∧∀e∈l,e.one=true:=by
 cases hv with
 |agg _ vs h1 h2 h3=>exact⟨vs,rfl,h1,h2,h3⟩
theorem VR.tups {v:Value}{l:List D}(hv:VR m pr w (.tup l) v):∃vs:Array Value,v=.tuple vs∧l.length=vs.size∧(∀k (_:k<l.length) (_:k<vs.size),VR m pr w l[k] vs[k]):=by
 cases hv with
 |tup _ vs h1 h2=>exact⟨vs,rfl,h1,h2⟩
theorem qEv {op:BinOp}{k:IntKind}{x y:Int}{d:D}{ty:TypeId}(hs:q3V op=false)(hd:arith op k x y=some d):
 ∃v,(binOp op ty (.int k x) (.int k y)).run P w=.ok v w∧VR m pr w d v:=by
 cases op<;>simp only[arith,reduceCtorEq,Option.some.injEq,q3V]at hd hs
 case add=>subst hd;exact⟨_,by simp[binOp,Op.intArith],.int _ _⟩
 case sub=>subst hd;exact⟨_,by simp[binOp,Op.intArith],.int _ _⟩
 case mul=>subst hd;exact⟨_,by simp[binOp,Op.intArith],.int _ _⟩
 case quo=>
  split at hd
  ·cases hd
  rename_i hy;simp at hd;subst hd;exact⟨_,by simp[binOp,Op.intDiv,hy],.int _ _⟩
 case rem=>
  split at hd
  ·cases hd
  rename_i hy;simp at hd;subst hd;exact⟨_,by simp[binOp,Op.intDiv,hy],.int _ _⟩
 case and=>subst hd;exact⟨_,by simp[binOp,Op.intBits],.int _ _⟩
 case or=>subst hd;exact⟨_,by simp[binOp,Op.intBits],.int _ _⟩
 case xor=>subst hd;exact⟨_,by simp[binOp,Op.intBits],.int _ _⟩
 case andNot=>subst hd;exact⟨_,by simp[binOp,Op.intBits],.int _ _⟩
 case eql=>subst hd;exact⟨_,by simp[binOp,Op.intCmp],.bool _⟩
 case neq=>subst hd;exact⟨_,by simp[binOp,Op.intCmp],.bool _⟩
 case lss=>subst hd;exact⟨_,by simp[binOp,Op.intCmp],.bool _⟩
 case leq=>subst hd;exact⟨_,by simp[binOp,Op.intCmp],.bool _⟩
 case gtr=>subst hd;exact⟨_,by simp[binOp,Op.intCmp],.bool _⟩
 case geq=>subst hd;exact⟨_,by simp[binOp,Op.intCmp],.bool _⟩
theorem qEw {op:BinOp}{k k':IntKind}{x y:Int}{d:D}{ty:TypeId}(hs:q3V op=true)(hd:shift op k x y=some d):
 ∃v,(binOp op ty (.int k x) (.int k' y)).run P w=.ok v w∧VR m pr w d v:=by
 unfold shift at hd
 split at hd
 ·cases hd
 rename_i hy
 cases op<;>simp only[reduceCtorEq,Option.some.injEq,q3V]at hd hs
 case shl=>subst hd;exact⟨_,by simp[binOp,Op.shift,hy],.int _ _⟩
 case shr=>subst hd;exact⟨_,by simp[binOp,Op.shift,hy],.int _ _⟩
theorem qEx {op:BinOp}{x y:ByteArray}{d:D}{ty:TypeId}(hd:qtE op x y=some d):
 ∃v,(binOp op ty (.string x) (.string y)).run P w=.ok v w∧VR m pr w d v:=by
 cases op<;>simp only[qtE,reduceCtorEq,Option.some.injEq]at hd
 case add=>
  split at hd
  ·cases hd
  rename_i hy;simp at hd;subst hd;exact⟨_,by simp only[binOp,Op.stringOp];rw[if_neg hy];rfl,.str _⟩
 case eql=>subst hd;exact⟨_,by simp[binOp,Op.stringOp],.bool _⟩
 case neq=>subst hd;exact⟨_,by simp[binOp,Op.stringOp],.bool _⟩
 case lss=>subst hd;exact⟨_,by simp[binOp,Op.stringOp],.bool _⟩
 case leq=>subst hd;exact⟨_,by simp[binOp,Op.stringOp],.bool _⟩
 case gtr=>subst hd;exact⟨_,by simp only[binOp,Op.stringOp];rfl,.bool _⟩
 case geq=>subst hd;exact⟨_,by simp[binOp,Op.stringOp],.bool _⟩
theorem q8o {t:TypeId}{b:Bool}(hb:isAgg P t=some b):(Go.isAgg t).run P w=.ok b w:=by
 unfold isAgg at hb
 cases hu:P.underlying t with
 |none=>simp[hu]at hb
 |some d=>
  have hrun:(underlying t).run P w=.ok d w:=by simp[underlying,hu]
  simp only[Go.isAgg,Sem.run_bind,hrun,Result.andThen_ok]
  rw[hu]at hb
  cases d<;>simp at hb⊢ <;>exact hb
theorem q0M {t:TypeId}{n:Nat}(hn:sizeOf P t=some n):(Go.sizeOf t).run P w=.ok n w:=by
 unfold sizeOf at hn
 cases hu:P.info? t with
 |none=>simp[hu]at hn
 |some i=>simp[hu]at hn;simp[Go.sizeOf,typeInfo,hu,hn]
theorem q0b {t:TypeId}{d:TypeDesc}(hd:P.underlying t=some d):(underlying t).run P w=.ok d w:=by simp[underlying,hd]
theorem q4Y {t:TypeId}{i:TypeInfo}(hd:P.info? t=some i):(typeInfo t).run P w=.ok i w:=by simp[typeInfo,hd]
theorem q7m {t:TypeId}{cs:Array Value}{o:Nat}{v:Value}(ha:isAgg P t=some false)(hv:cs[o]?=some v):(part t cs o).run P w=.ok v w:=by
 simp[part,q8o ha,hv]
theorem qqI {d:Nat}{f:Field}{x y:D}{vx vy:Value}{b:Bool}(hx:VR m pr w x vx)(hy:VR m pr w y vy)(fx:q3J P f x=true)(he:qap x y=some b):
 (Op.equalIn (d+1) f.type vx vy).run P w=.ok b w:=by
 cases x<;>cases y<;>simp only[qap,reduceCtorEq,Option.some.injEq]at he
 case bool.bool a a'=>
  cases hx;cases hy
  simp only[q3J]at fx
  split at fx
  ·rename_i hu;simp[Op.equalIn,q0b hu,he]
  cases fx
 case int.int k a k' a'=>
  cases hx;cases hy
  split at he
  ·rename_i hk;subst hk
   simp at he
   simp only[q3J]at fx
   split at fx
   ·rename_i hu;simp[Op.equalIn,q0b hu,he]
   cases fx
  cases he
 case str.str a a'=>
  cases hx;cases hy
  simp only[q3J]at fx
  split at fx
  ·rename_i hu;simp[Op.equalIn,q0b hu,he]
  cases fx
theorem qf5 {f:Field}{i:Nat}(hf:q66 P f i=true):f.offset=i∧f.name≠ "_" ∧isAgg P f.type=some false:=by
 simp only[q66,Bool.and_eq_true,beq_iff_eq,bne_iff_ne]at hf
 refine⟨hf.1.1,hf.1.2,?_⟩
 have h3:=hf.2
 unfold isAgg
 split at h3<;>first|(rename_i hu;rw[hu]) |cases h3
theorem qvP {d:Nat}{xs ys:Array Value}{lx ly:List D}(hlx:lx.length=xs.size)(hly:ly.length=ys.size)
 (hx:∀k (_:k<lx.length) (_:k<xs.size),VR m pr w lx[k] xs[k]) (hy:∀k (_:k<ly.length) (_:k<ys.size),VR m pr w ly[k] ys[k]):
 ∀(fs:List Field) (i:Nat) (b:Bool),fs.length+i=lx.length→fs.length+i=ly.length→(fs.zipIdx i).all (fun x=>q66 P x.1 x.2)=true→q23 P fs (lx.drop i) (ly.drop i)=some b→
  (Op.eqFields (d+1) xs ys fs).run P w=.ok b w:=by
 intro fs
 induction fs with
 |nil=>
  intro i b h1 h2 _ he
  rw[List.drop_of_length_le (by simp at h1;omega),List.drop_of_length_le (by simp at h2;omega)]at he
  simp[q23]at he
  simp[Op.eqFields,he]
 |cons f fs ih=>
  intro i b h1 h2 hall he
  simp only[List.length_cons]at h1 h2
  simp only[List.zipIdx_cons,List.all_cons,Bool.and_eq_true]at hall
  obtain⟨hoff,hname,hagg⟩:=qf5 hall.1
  have hix:i<lx.length:=by omega
  have hiy:i<ly.length:=by omega
  rw[List.drop_eq_getElem_cons hix,List.drop_eq_getElem_cons hiy]at he
  simp only[q23]at he
  split at he
  ·rename_i hfit
   simp only[Bool.and_eq_true]at hfit
   have p1:(part f.type xs f.offset).run P w=.ok (xs[i]'(by omega)) w:=q7m hagg (by rw[hoff];exact Array.getElem?_eq_getElem (by omega))
   have p2:(part f.type ys f.offset).run P w=.ok (ys[i]'(by omega)) w:=q7m hagg (by rw[hoff];exact Array.getElem?_eq_getElem (by omega))
   simp only[Op.eqFields,hname,ne_eq,not_false_eq_true,if_true,Sem.run_bind,p1,p2,Result.andThen_ok]
   cases hc:qap lx[i] ly[i]with
   |none=>rw[hc]at he;cases he
   |some r=>
    rw[qqI (hx i hix (by omega)) (hy i hiy (by omega)) hfit.1 hc]
    rw[hc]at he
    cases r with
    |true=>
     simp only[Result.andThen_ok,Bool.not_true,Bool.false_eq_true,if_false]
     exact ih (i+1) b (by omega) (by omega) hall.2 he
    |false=>
     simp only at he
     split at he
     ·simp at he;simp[he]
     cases he
  cases he
theorem qn0:∀{fs:List Field} {a c:List D} {r:Bool},q23 P fs a c=some r→fs.length=a.length∧fs.length=c.length:=by
 intro fs
 induction fs with
 |nil=>intro a c r hr;cases a<;>cases c<;>simp[q23]at hr⊢
 |cons f fs ih=>
  intro a c r hr
  cases a with
  |nil=>simp[q23]at hr
  |cons a0 a=>
   cases c with
   |nil=>simp[q23]at hr
   |cons c0 c=>
    simp only[q23]at hr
    split at hr
    ·split at hr
     ·have:=ih hr;simp;omega
     ·split at hr
      ·rename_i hl;simp;omega
      cases hr
     cases hr
    cases hr
theorem qqJ:∀{fs gs:List Field} {a c:List D} {r:Bool},q23 P (fs++gs) a c=some r→
 (q23 P fs (a.take fs.length) (c.take fs.length)=some true∧q23 P gs (a.drop fs.length) (c.drop fs.length)=some r)∨(q23 P fs (a.take fs.length) (c.take fs.length)=some false∧r=false):=by
 intro fs
 induction fs with
 |nil=>intro gs a c r hr;exact .inl ⟨by simp[q23],by simpa using hr⟩
 |cons f fs ih=>
  intro gs a c r hr
  cases a with
  |nil=>simp[q23]at hr
  |cons a0 a=>
   cases c with
   |nil=>simp[q23]at hr
   |cons c0 c=>
    simp only[List.cons_append,q23]at hr
    simp only[List.length_cons,List.take_succ_cons,List.drop_succ_cons,q23]
    split at hr
    ·rename_i hf
     rw[if_pos hf]
     cases hc:qap a0 c0 with
     |none=>rw[hc]at hr;cases hr
     |some b=>
      rw[hc]at hr
      cases b with
      |true=>exact ih hr
      |false=>
       simp only at hr⊢
       split at hr
       ·rename_i hl
        cases hr
        refine .inr ⟨?_,rfl⟩
        rw[List.length_append]at hl
        rw[if_pos ⟨by simp;omega,by simp;omega⟩]
       cases hr
    cases hr
theorem q9m {d:Nat}{t:TypeId}{fs:List Field}{xs ys:Array Value}{lx ly:List D}{b:Bool}(hfs:q5S P t=some fs)(hlx:lx.length=xs.size)(hly:ly.length=ys.size)
 (hx:∀k (_:k<lx.length) (_:k<xs.size),VR m pr w lx[k] xs[k]) (hy:∀k (_:k<ly.length) (_:k<ys.size),VR m pr w ly[k] ys[k]) (he:q23 P fs lx ly=some b):
 (Op.equalIn (d+2) t (.agg xs) (.agg ys)).run P w=.ok b w:=by
 obtain⟨fa,hu,rfl,hall,hst,_⟩:=q5H hfs
 have hf:P.fieldsOf t=fa:=by simp[Program.fieldsOf,hu]
 rw[run_equalIn_struct w (d+1) t xs ys (by rw[hf];exact hu) hst,hf]
 obtain⟨l1,l2⟩:=qn0 he
 exact qvP (m:=m) (pr:=pr) hlx hly hx hy fa.toList 0 b (by omega) (by omega) hall (by simpa using he)
theorem qjq {t:TypeId}{cs:Array Value}{o n:Nat}(ha:isAgg P t=some true)(hn:sizeOf P t=some n):(part t cs o).run P w=.ok (.agg (cs.extract o (o+n))) w:=by
 simp[part,q8o ha,q0M hn]
theorem qyG {d:Nat}{xs ys:Array Value}{lx ly:List D}(hlx:lx.length=xs.size)(hly:ly.length=ys.size)
 (hx:∀k (_:k<lx.length) (_:k<xs.size),VR m pr w lx[k] xs[k]) (hy:∀k (_:k<ly.length) (_:k<ys.size),VR m pr w ly[k] ys[k]):
 ∀(fs:List Field) (i:Nat) (ls:List Field) (b:Bool),q7h P fs i=some ls→ls.length+i=lx.length→ls.length+i=ly.length→q23 P ls (lx.drop i) (ly.drop i)=some b→
  (Op.eqFields (d+2) xs ys fs).run P w=.ok b w:=by
 intro fs
 induction fs with
 |nil=>
  intro i ls b hl h1 h2 he
  simp only[q7h,Option.some.injEq]at hl
  subst hl
  rw[List.drop_of_length_le (by simp at h1;omega),List.drop_of_length_le (by simp at h2;omega)]at he
  simp[q23]at he
  simp[Op.eqFields,he]
 |cons f fs ih=>
  intro i ls b hl h1 h2 he
  simp only[q7h]at hl
  split at hl
  ·rename_i hff
   split at hl
   ·rename_i l hll
    cases hl
    simp only[List.length_cons]at h1 h2
    obtain⟨hoff,hname,hagg⟩:=qf5 hff
    have hix:i<lx.length:=by omega
    have hiy:i<ly.length:=by omega
    rw[List.drop_eq_getElem_cons hix,List.drop_eq_getElem_cons hiy]at he
    simp only[q23]at he
    split at he
    ·rename_i hfit
     simp only[Bool.and_eq_true]at hfit
     have p1:(part f.type xs f.offset).run P w=.ok (xs[i]'(by omega)) w:=q7m hagg (by rw[hoff];exact Array.getElem?_eq_getElem (by omega))
     have p2:(part f.type ys f.offset).run P w=.ok (ys[i]'(by omega)) w:=q7m hagg (by rw[hoff];exact Array.getElem?_eq_getElem (by omega))
     simp only[Op.eqFields,hname,ne_eq,not_false_eq_true,if_true,Sem.run_bind,p1,p2,Result.andThen_ok]
     cases hc:qap lx[i] ly[i]with
     |none=>rw[hc]at he;cases he
     |some r=>
      rw[qqI (hx i hix (by omega)) (hy i hiy (by omega)) hfit.1 hc]
      rw[hc]at he
      cases r with
      |true=>
       simp only[Result.andThen_ok,Bool.not_true,Bool.false_eq_true,if_false]
       exact ih (i+1) l b hll (by omega) (by omega) he
      |false=>
       simp only at he
       split at he
       ·simp at he;simp[he]
       cases he
    cases he
   cases hl
  split at hl
  ·rename_i l hfs
   split at hl
   ·rename_i hcond
    obtain⟨hoff,hname,hsz⟩:=hcond
    split at hl
    ·rename_i r hr
     cases hl
     rw[List.length_append]at h1 h2
     obtain⟨fa,hu,_⟩:=q5H hfs
     have hagg:isAgg P f.type=some true:=by unfold isAgg;rw[hu]
     have p1:=qjq (w:=w) (cs:=xs) (o:=f.offset) hagg hsz
     have p2:=qjq (w:=w) (cs:=ys) (o:=f.offset) hagg hsz
     rw[hoff]at p1 p2
     have q1:∀k (_:k<((lx.drop i).take l.length).length) (_:k<(xs.extract i (i+l.length)).size),VR m pr w ((lx.drop i).take l.length)[k] (xs.extract i (i+l.length))[k]:=by
      intro k g1 g2
      simp only[List.getElem_take,List.getElem_drop,Array.getElem_extract]
      exact hx _ _ _
     have q2:∀k (_:k<((ly.drop i).take l.length).length) (_:k<(ys.extract i (i+l.length)).size),VR m pr w ((ly.drop i).take l.length)[k] (ys.extract i (i+l.length))[k]:=by
      intro k g1 g2
      simp only[List.getElem_take,List.getElem_drop,Array.getElem_extract]
      exact hy _ _ _
     have e1:((lx.drop i).take l.length).length=(xs.extract i (i+l.length)).size:=by simp;omega
     have e2:((ly.drop i).take l.length).length=(ys.extract i (i+l.length)).size:=by simp;omega
     simp only[Op.eqFields,hname,ne_eq,not_false_eq_true,if_true,Sem.run_bind,hoff,p1,p2,Result.andThen_ok]
     rcases qqJ he with⟨g1,g2⟩ |⟨g1,rfl⟩
     ·rw[q9m hfs e1 e2 q1 q2 g1]
      simp only[Result.andThen_ok,Bool.not_true,Bool.false_eq_true,if_false]
      rw[List.drop_drop,List.drop_drop]at g2
      exact ih (i+l.length) r b hr (by omega) (by omega) g2
     rw[q9m hfs e1 e2 q1 q2 g1]
     simp
    cases hl
   cases hl
  cases hl
theorem qEy {t:TypeId}{x y:D}{vx vy:Value}{b:Bool}(hx:VR m pr w x vx)(hy:VR m pr w y vy)(he:equal P t x y=some b):(Op.equal t vx vy).run P w=.ok b w:=by
 cases x<;>cases y<;>simp only[equal,reduceCtorEq]at he
 case bool.bool a a'=>
  cases hx;cases hy
  split at he
  ·rename_i hu;simp at he
   have hr:=run_equalIn_bool' w 9999 t a a' hu
   rw[he]at hr;exact hr
  cases he
 case agg.agg lx ly=>
  obtain⟨xs,rfl,hlx,hvx,_⟩:=hx.aggs
  obtain⟨ys,rfl,hly,hvy,_⟩:=hy.aggs
  split at he
  ·rename_i fs hfs
   rcases q7Q hfs with hfs|⟨fa,hu,hl,hst,_⟩
   ·exact q9m (d:=9998) (m:=m) (pr:=pr) hfs hlx hly hvx hvy he
   have hf:P.fieldsOf t=fa:=by simp[Program.fieldsOf,hu]
   simp only[Op.equal,Op.maxDepth]
   rw[run_equalIn_struct w 9999 t xs ys (by rw[hf];exact hu) hst,hf]
   obtain⟨l1,l2⟩:=qn0 he
   exact qyG (d:=9997) (m:=m) (pr:=pr) hlx hly hvx hvy fa.toList 0 fs b hl (by omega) (by omega) (by simpa using he)
  cases he
theorem qyH {op:BinOp}{t:TypeId}{ox oy:Operand}{xs ys:Array Value}(hg:P.eqGuardType P.depth t=false):(eqGuard op t ox oy (.agg xs) (.agg ys)).run P w=.ok () w:=by
 cases op<;>simp[eqGuard,hg]
theorem q7n {op:BinOp}{t:TypeId}{ox oy:Operand}{vx vy:Value}(h1:vx≠ .nilIface)(h2:∀xs,vx≠ .agg xs):(eqGuard op t ox oy vx vy).run P w=.ok () w:=by
 cases op<;>(simp only[eqGuard];split<;>first|rfl|(exact absurd rfl h1) |(exact absurd rfl (h2 _)) |skip)
 all_goals (split<;>first|rfl|(exact absurd rfl h1) |(exact absurd rfl (h2 _)))
theorem qyI {op:BinOp}{t:TypeId}{ox oy:Operand}{x y:D}{vx vy:Value}(hx:VR m pr w x vx)(hy:VR m pr w y vy){d:D}(hd:bin P op t x y=some d):
 (eqGuard op t ox oy vx vy).run P w=.ok () w:=by
 have hcases:(∃k a,x=.int k a)∨(∃a,x=.str a)∨(∃b,x=.bool b)∨(∃lx ly b,x=.agg lx∧y=.agg ly∧equal P t (.agg lx) (.agg ly)=some b):=by
  unfold bin at hd
  split at hd
  ·exact .inl ⟨_,_,rfl⟩
  ·exact .inr (.inl ⟨_,rfl⟩)
  have he:∃b,equal P t x y=some b:=by
   split at hd
   ·cases he:equal P t x y with
    |none=>simp[he]at hd
    |some b=>exact⟨b,rfl⟩
   ·cases he:equal P t x y with
    |none=>simp[he]at hd
    |some b=>exact⟨b,rfl⟩
   cases hd
  obtain⟨b,he⟩:=he
  cases x<;>cases y<;>simp only[equal,reduceCtorEq]at he
  case bool.bool=>exact .inr (.inr (.inl ⟨_,rfl⟩))
  case agg.agg=>exact .inr (.inr (.inr ⟨_,_,b,rfl,rfl,he⟩))
 rcases hcases with⟨k,a,rfl⟩ |⟨a,rfl⟩ |⟨b,rfl⟩ |⟨lx,ly,b,rfl,rfl,hb⟩
 ·cases hx;exact q7n (by simp) (by simp)
 ·cases hx;exact q7n (by simp) (by simp)
 ·cases hx;exact q7n (by simp) (by simp)
 obtain⟨xs,rfl,_⟩:=hx.aggs
 obtain⟨ys,rfl,_⟩:=hy.aggs
 refine qyH ?_
 simp only[equal]at hb
 split at hb
 ·rename_i fs hfs
  rcases q7Q hfs with hfs|⟨_,_,_,_,hg⟩
  ·obtain⟨_,_,_,_,_,hg⟩:=q5H hfs;exact hg
  exact hg
 cases hb
theorem qII {op:BinOp}{t:TypeId}{x y d:D}{vx vy:Value}(hx:VR m pr w x vx)(hy:VR m pr w y vy)(hd:bin P op t x y=some d):
 ∃v,(binOp op t vx vy).run P w=.ok v w∧VR m pr w d v:=by
 have eqcase:(∀k a k' b,¬(x=.int k a∧y=.int k' b))→(∀a b,¬(x=.str a∧y=.str b))→(∃b,(op=.eql∧equal P t x y=some b∧d=.bool b)∨(op=.neq∧equal P t x y=some b∧d=.bool !b))→∃v,(binOp op t vx vy).run P w=.ok v w∧VR m pr w d v:=by
  rintro h1 h2 ⟨b,⟨rfl,he,rfl⟩ |⟨rfl,he,rfl⟩⟩
  all_goals
   have hr:=qEy hx hy he
   cases x<;>cases y<;>simp only[equal,reduceCtorEq]at he
   case bool.bool=>cases hx;cases hy;exact⟨_,by simp[binOp,hr],.bool _⟩
   case agg.agg=>obtain⟨xs,rfl,_⟩:=hx.aggs;obtain⟨ys,rfl,_⟩:=hy.aggs;exact⟨_,by simp[binOp,hr],.bool _⟩
 by_cases h1:∃k a k' b,x=.int k a∧y=.int k' b
 ·obtain⟨k,a,k',b,rfl,rfl⟩:=h1
  cases hx;cases hy
  simp only[bin]at hd
  split at hd
  ·rename_i hs;exact qEw hs hd
  rename_i hs
  split at hd
  ·rename_i hk;subst hk;exact qEv (by simpa using hs) hd
  cases hd
 by_cases h2:∃a b,x=.str a∧y=.str b
 ·obtain⟨a,b,rfl,rfl⟩:=h2
  cases hx;cases hy
  exact qEx hd
 refine eqcase (fun k a k' b e=>h1 ⟨k,a,k',b,e⟩) (fun a b e=>h2 ⟨a,b,e⟩) ?_
 unfold bin at hd
 split at hd
 ·exact absurd ⟨_,_,_,_,rfl,rfl⟩ h1
 ·exact absurd ⟨_,_,rfl,rfl⟩ h2
 split at hd
 ·cases he:equal P t x y with
  |none=>simp[he]at hd
  |some b=>simp[he]at hd;exact⟨b,.inl ⟨rfl,rfl,hd.symm⟩⟩
 ·cases he:equal P t x y with
  |none=>simp[he]at hd
  |some b=>simp[he]at hd;exact⟨b,.inr ⟨rfl,rfl,hd.symm⟩⟩
 cases hd
theorem qCT {op:BinOp}{t e:TypeId}{x:D}{vx:Value}{ox oy:Operand}(hx:VR m pr w x vx)(hn:qhg x=true)(ht:P.underlying t=some (.slice e)):
 ((eqGuard op t ox oy vx (.slice none 0 0)).run P w=.ok () w)∧(binOp .eql t vx (.slice none 0 0)).run P w=.ok (.bool false) w∧(binOp .neq t vx (.slice none 0 0)).run P w=.ok (.bool true) w:=by
 obtain⟨a,n,c,rfl⟩:∃a n c,vx=.slice (some a) n c:=by
  unfold qhg at hn
  split at hn
  ·cases hx with
   |lst l b o cap esz cv=>exact⟨_,_,_,rfl⟩
  ·cases hx with
   |ref id off len b esz cap C t f=>exact⟨_,_,_,rfl⟩
  cases hn
 have he:=Lib.run_eql_slice_nil (P:=P) w t e (some a) n c 0 0 ht
 refine⟨q7n (by simp) (by simp),he,?_⟩
 simp only[binOp,Sem.run_bind]at he⊢
 cases hq:(Op.equal t (.slice (some a) n c) (.slice none 0 0)).run P w with
 |ok b w'=>simp[hq]at he⊢;simp[he]
 |_=>simp[hq]at he
theorem run_un {op:UnOp}{x d:D}{vx:Value}(hx:VR m pr w x vx)(hd:un op x=some d):∃v,(Op.unary op vx).run P w=.ok v w∧VR m pr w d v:=by
 cases op<;>cases x<;>simp only[un,reduceCtorEq,Option.some.injEq]at hd<;>subst hd<;>cases hx
 case neg.int.int k n=>exact⟨_,rfl,.int _ _⟩
 case xor.int.int k n=>exact⟨_,rfl,.int _ _⟩
 case not.bool.bool b=>exact⟨_,rfl,.bool _⟩
theorem qqK {isMax:Bool}{l:List D}{vs:List Value}{d:D}(hlen:l.length=vs.length)(hv:∀k (_:k<l.length) (_:k<vs.length),VR m pr w l[k] vs[k])(hd:qc3 isMax l=some d):
 ∃v,(if isMax then Builtin.max_ #[] 0 vs.toArray else Builtin.min_ #[] 0 vs.toArray).run P w=.ok v w∧VR m pr w d v:=by
 cases l with
 |nil=>simp[qc3]at hd
 |cons x l=>
  cases vs with
  |nil=>simp at hlen
  |cons v vs=>
   have h0:=hv 0 (by simp) (by simp)
   simp at h0
   have hrest:∀k (_:k<l.length) (_:k<vs.length),VR m pr w l[k] vs[k]:=fun k h1 h2=>by have:=hv (k+1) (by simp;omega) (by simp;omega);simpa using this
   simp only[qc3]at hd
   simp only[List.length_cons,Nat.add_right_cancel_iff]at hlen
   clear hv
   have key:∀(l:List D) (vs:List Value) (x:D) (v:Value),l.length=vs.length→VR m pr w x v→(∀k (_:k<l.length) (_:k<vs.length),VR m pr w l[k] vs[k])→l.foldlM (mm2 isMax) x=some d→
    ∃v',(vs.foldlM (if isMax then Builtin.max2 else Builtin.min2) v).run P w=.ok v' w∧VR m pr w d v':=by
    intro l
    induction l with
    |nil=>
     intro vs x v hl hx _ he
     cases vs with
     |nil=>simp at he;subst he;exact⟨v,by simp,hx⟩
     |cons _ _=>simp at hl
    |cons y l ih=>
     intro vs x v hl hx hr he
     cases vs with
     |nil=>simp at hl
     |cons u vs=>
      have hy:=hr 0 (by simp) (by simp)
      simp at hy
      simp only[List.foldlM_cons]at he
      cases hm:mm2 isMax x y with
      |none=>simp[hm]at he
      |some q=>
       simp only[hm,Option.bind_eq_bind,Option.bind_some]at he
       cases x<;>cases y<;>simp only[mm2,reduceCtorEq]at hm
       case int.int k a k' b=>
        cases hx;cases hy
        split at hm
        ·rename_i hk;subst hk
         simp at hm;subst hm
         have hstep:((if isMax then Builtin.max2 else Builtin.min2) (.int k a) (.int k b)).run P w=.ok (.int k (if isMax then(if b>a then b else a)else(if b<a then b else a))) w:=by
          cases isMax<;>simp[Builtin.max2,Builtin.min2]
         simp only[List.foldlM_cons,Sem.run_bind,hstep,Result.andThen_ok]
         exact ih vs _ _ (by simpa using hl) (.int _ _) (fun i h1 h2=>by have:=hr (i+1) (by simp;omega) (by simp;omega);simpa using this) he
        cases hm
   obtain⟨v',h1,h2⟩:=key l vs x v hlen h0 hrest hd
   refine⟨v',?_,h2⟩
   cases isMax
   ·simpa[Builtin.min_]using h1
   simpa[Builtin.max_]using h1
end Go.F
