/- Part 5. -/
import Derived.Test.YtglbdppmnchoeaaGreatZ4
import Derived.Laws.Cells
import Derived.Laws.StructEq
import Derived.Lib.SliceRun
set_option linter.all false
namespace Go.F
variable {P:Program}{c:Ctx}{m:Map}{pr:aM}{h:ab}{z:Frz}{w:World}
theorem Hf (v:Value):VR m pr w (vZ v) v:=by
 unfold vZ;split
 .exact .bool _
 .exact .int _ _
 .exact .float _ _
 .exact .str _
 .exact .nilsl _
 .exact .fn _ [] [] _ _ rfl rfl (by simp) (by simp)
 .exact .bad _
 .exact .bad _
 refine .opq _ ?_ ?_
 .cases v<;>first|rfl|(exfalso;exact h1 _ rfl) |grind
 cases v<;>first|rfl|grind
theorem jN (v:Value):VR m pr w (eh v) v:=by
 unfold eh;split
 .rename_i vs;unfold aggOf;split
  .rename_i a;refine .agg _ vs (by simp) (fun k c b=>?_) (zM.1 a);simp[Hf]
  exact .bad _
 .exact .tup [] _ rfl (by simp)
 simp[Hf]
def pg (m:Map)(pr:aM)(w:World)(t:ai)(ρ:Operand->Value):Prop:=∀x,VR m pr w (ev t x) (ρ x)
theorem tV {t:ai}{a:Act}(b:∀i,VR m pr w (t i) (a.tmps.getD i undef)):pg m pr w t a.eval:=by
 intro x
 cases x with
 |tmp i=>exact b i
 |const v=>exact jN v
 |global g=>exact .bad _
 |func f=>exact .fn f [] [] _ _ rfl rfl (by simp) (by simp)
def Sim (c:Ctx)(m:Map)(h:ab)(z:Frz)(w:World)(id:Nat)(r:Out)(a:Result Next):Prop:=
 ∃(nxt:Next) (w':World) (m':Map),a=.ok nxt w'/\
  ((∃v,nxt=.value v/\VR m' (Pr c m' (aJ h r.hp) (aJ z r.fz)) w' r.v v)\/(nxt=.skip/\r.v=.tup []))/\
  HR c m' (aJ h r.hp) (aJ z r.fz) w'/\
  Ev m (Pr c m h z) w m' (Pr c m' (aJ h r.hp) (aJ z r.fz)) w'/\
  (∀k,k≠id->m' k=m k)/\Below c.B w w'
theorem Sim.val {id:Nat}{d:D}{v:Value}{a:Result Next}(H:HR c m h z w)(b:a=.ok (.value v) w)(e:VR m (Pr c m h z) w d v):Sim c m h z w id (out d) a:=
 ⟨.value v,w,m,b,.inl ⟨v,rfl,e⟩,H,Ev.refl _ _ _,fun _ _=>rfl,Below.refl _ _⟩
theorem VR.ints {d:D}{v:Value}{k:IntKind}{n:Int}(a:VR m pr w d v)(b:d=.int k n):v=.int k n:=by subst b;cases a;rfl
theorem VR.bools {d:D}{v:Value}{b:Bool}(a:VR m pr w d v)(c:d=.bool b):v=.bool b:=by subst c;cases a;rfl
theorem VR.strs {d:D}{v:Value}{s:ByteArray}(a:VR m pr w d v)(b:d=.str s):v=.string s:=by subst b;cases a;rfl
theorem VR.floats {d:D}{v:Value}{k:FloatKind}{b:Nat}(a:VR m pr w d v)(c:d=.float k b):v=.float k b:=by subst c;cases a;rfl
theorem VR.aggs {v:Value}{l:List D}(a:VR m pr w (.agg l) v):∃vs:Array Value,v=.agg vs/\l.length=vs.size/\(∀k (_:k<l.length) (_:k<vs.size),VR m pr w l[k] vs[k])/\∀e∈l,e.one=true:=by
 cases a with
 |agg _ vs h1 b h3=>grind
theorem VR.tups {v:Value}{l:List D}(a:VR m pr w (.tup l) v):∃vs:Array Value,v=.tuple vs/\l.length=vs.size/\(∀k (_:k<l.length) (_:k<vs.size),VR m pr w l[k] vs[k]):=by
 cases a with
 |tup _ vs h1 b=>grind
theorem Vw {op:BinOp}{k:IntKind}{x y:Int}{d:D}{ty:TypeId}(c:jS op=false)(a:arith op k x y=some d):
 ∃v,(binOp op ty (.int k x) (.int k y)).run P w=.ok v w/\VR m pr w d v:=by
 cases op<;>simp only[arith,reduceCtorEq,zV,jS]at a c
 case add=>subst a;exact⟨_,by simp[binOp,Op.intArith],.int _ _⟩
 case sub=>subst a;exact⟨_,by simp[binOp,Op.intArith],.int _ _⟩
 case mul=>subst a;exact⟨_,by simp[binOp,Op.intArith],.int _ _⟩
 case quo=>
  split at a
  grind
  .rename_i b;simp at a;subst a;exact⟨_,by simp[binOp,Op.intDiv,b],.int _ _⟩
 case rem=>
  split at a
  grind
  .rename_i b;simp at a;subst a;exact⟨_,by simp[binOp,Op.intDiv,b],.int _ _⟩
 case and=>subst a;exact⟨_,by simp[binOp,Op.intBits],.int _ _⟩
 case or=>subst a;exact⟨_,by simp[binOp,Op.intBits],.int _ _⟩
 case xor=>subst a;exact⟨_,by simp[binOp,Op.intBits],.int _ _⟩
 case andNot=>subst a;exact⟨_,by simp[binOp,Op.intBits],.int _ _⟩
 case eql=>subst a;exact⟨_,by simp[binOp,Op.intCmp],.bool _⟩
 case neq=>subst a;exact⟨_,by simp[binOp,Op.intCmp],.bool _⟩
 case lss=>subst a;exact⟨_,by simp[binOp,Op.intCmp],.bool _⟩
 case leq=>subst a;exact⟨_,by simp[binOp,Op.intCmp],.bool _⟩
 case gtr=>subst a;exact⟨_,by simp[binOp,Op.intCmp],.bool _⟩
 case geq=>subst a;exact⟨_,by simp[binOp,Op.intCmp],.bool _⟩
theorem Vd {op:BinOp}{k c:IntKind}{x y:Int}{d:D}{ty:TypeId}(e:jS op=true)(a:shift op k x y=some d):
 ∃v,(binOp op ty (.int k x) (.int c y)).run P w=.ok v w/\VR m pr w d v:=by
 unfold shift at a;split at a
 grind
 .rename_i b;cases op<;>simp only[reduceCtorEq,zV,jS]at a e
  case shl=>subst a;exact⟨_,by simp[binOp,Op.shift,b],.int _ _⟩
  case shr=>subst a;exact⟨_,by simp[binOp,Op.shift,b],.int _ _⟩
theorem Yh {op:BinOp}{x y:ByteArray}{d:D}{ty:TypeId}(a:sX op x y=some d):
 ∃v,(binOp op ty (.string x) (.string y)).run P w=.ok v w/\VR m pr w d v:=by
 cases op<;>simp only[sX,reduceCtorEq,zV]at a
 case add=>
  split at a
  grind
  .simp at a;subst a;exact⟨_,by simp_all[binOp,Op.stringOp],.str _⟩
 case eql=>subst a;exact⟨_,by rfl,.bool _⟩
 case neq=>subst a;exact⟨_,by rfl,.bool _⟩
 case lss=>subst a;exact⟨_,by rfl,.bool _⟩
 case leq=>subst a;exact⟨_,by rfl,.bool _⟩
 case gtr=>subst a;exact⟨_,by rfl,.bool _⟩
 case geq=>subst a;exact⟨_,by rfl,.bool _⟩
theorem pY {t:TypeId}{b:Bool}(c:isAgg P t=some b):(Go.isAgg t).run P w=.ok b w:=by
 unfold isAgg at c
 cases e:P.underlying t with
 |none=>grind
 |some d=>
  have a:(underlying t).run P w=.ok d w:=by simp[underlying,e]
  simp[Go.isAgg,a];rw[e]at c;cases d<;>simp at c⊢ <;>exact c
theorem bV {t:TypeId}{n:Nat}(a:sizeOf P t=some n):(Go.sizeOf t).run P w=.ok n w:=by
 unfold sizeOf at a
 cases b:P.info? t with
 |none=>grind
 |some i=>simp_all[Go.sizeOf,typeInfo]
theorem aT {t:TypeId}{d:TypeDesc}(a:P.underlying t=some d):(underlying t).run P w=.ok d w:=by simp[underlying,a]
theorem qG {t:TypeId}{i:TypeInfo}(a:P.info? t=some i):(typeInfo t).run P w=.ok i w:=by simp[typeInfo,a]
theorem tZ {t:TypeId}{cs:Array Value}{o:Nat}{v:Value}(a:isAgg P t=some false)(b:cs[o]?=some v):(part t cs o).run P w=.ok v w:=by
 simp_all[part,pY]
theorem Oo {d:Nat}{f:Field}{x y:D}{vx i:Value}{b:Bool}(g:VR m pr w x vx)(h:VR m pr w y i)(c:ie P f x=true)(e:iq x y=some b):
 (Op.equalIn (d+1) f.type vx i).run P w=.ok b w:=by
 cases x<;>cases y<;>simp only[iq,reduceCtorEq,zV]at e
 case bool.bool a a'=>
  cases g;cases h;simp only[ie]at c;split at c
  .simp_all[Op.equalIn,aT]
  grind
 case int.int k a k' a'=>
  cases g;cases h;split at e
  .rename_i j;subst j;simp at e;simp only[ie]at c;split at c
   .rename_i l;simp[Op.equalIn,aT l,e]
   grind
  grind
 case str.str a a'=>
  cases g;cases h;simp only[ie]at c;split at c
  .simp_all[Op.equalIn,aT]
  grind
theorem BH {f:Field}{i:Nat}(a:lb P f i=true):f.offset=i/\f.name≠ "_" /\isAgg P f.type=some false:=by
 simp[lb]at a;unfold isAgg;grind
theorem Uy {d:Nat}{l ys:Array Value}{h j:List D}(u:h.length=l.size)(v:j.length=ys.size)
 (y:∀k (_:k<h.length) (_:k<l.size),VR m pr w h[k] l[k]) (z:∀k (_:k<j.length) (_:k<ys.size),VR m pr w j[k] ys[k]):
 ∀(a:List Field) (i:Nat) (b:Bool),a.length+i=h.length->a.length+i=j.length->(a.zipIdx i).all (fun x=>lb P x.1 x.2)=true->dh P a (h.drop i) (j.drop i)=some b->
  (Op.eqFields (d+1) l ys a).run P w=.ok b w:=by
 intro a
 induction a with
 |nil=>
  intro i b h1 s _ n;rw[yY (by grind),yY (by grind)]at n;simp_all[dh,Op.eqFields]
 |cons f a E=>
  intro i b h1 s c n;simp at h1 s;simp at c;obtain⟨t,q,e⟩:=BH c.1;have o:i<h.length:=by omega
  have p:i<j.length:=by omega
  rw[zz o,zz p]at n;simp only[dh]at n;split at n
  .rename_i g;simp at g;have A:(part f.type l f.offset).run P w=.ok (l[i]'(by omega)) w:=tZ e (by grind);have B:(part f.type ys f.offset).run P w=.ok (ys[i]'(by omega)) w:=tZ e (by grind);simp[Op.eqFields,A,B]
   cases C:iq h[i] j[i]with
   |none=>grind
   |some r=>
    rw[Oo (y i o (by omega)) (z i p (by omega)) g.1 C]
    cases r with
    |true=>
     simp;grind
    |false=>
     simp_all
  grind
theorem Hb:∀{b:List Field} {a c:List D} {r:Bool},dh P b a c=some r->b.length=a.length/\b.length=c.length:=by
 intro b
 induction b with
 |nil=>grind[dh]
 |cons f b d=>
  intro a c r hr
  cases a with
  |nil=>trivial
  |cons e a=>
   cases c with
   |nil=>trivial
   |cons g c=>
    simp only[dh]at hr;grind
theorem PM:∀{b d:List Field} {a c:List D} {r:Bool},dh P (b++d) a c=some r->
 (dh P b (a.take b.length) (c.take b.length)=some true/\dh P d (a.drop b.length) (c.drop b.length)=some r)\/(dh P b (a.take b.length) (c.take b.length)=some false/\r=false):=by
 intro b
 induction b with
 |nil=>intro d a c r hr;exact .inl ⟨by rfl,by grind⟩
 |cons f b e=>
  intro d a c r hr
  cases a with
  |nil=>trivial
  |cons g a=>
   cases c with
   |nil=>trivial
   |cons h c=>
    simp[dh]at hr;simp only[yM,List.take_succ_cons,dh];grind
theorem Qj {d:Nat}{t:TypeId}{l:List Field}{a ys:Array Value}{e f:List D}{b:Bool}(g:uL P t=some l)(h:e.length=a.size)(i:f.length=ys.size)
 (o:∀k (_:k<e.length) (_:k<a.size),VR m pr w e[k] a[k]) (p:∀k (_:k<f.length) (_:k<ys.size),VR m pr w f[k] ys[k]) (q:dh P l e f=some b):
 (Op.equalIn (d+2) t (.agg a) (.agg ys)).run P w=.ok b w:=by
 obtain⟨n,s,rfl,c,j,_⟩:=Ao g;have r:P.fieldsOf t=n:=by grind[Program.fieldsOf]
 rw[run_equalIn_struct w (d+1) t a ys (by grind) j,r];obtain⟨l1,l2⟩:=Hb q;exact Uy (m:=m) (pr:=pr) h i o p n.toList 0 b (by omega) (by omega) c (by grind)
theorem Bz {t:TypeId}{cs:Array Value}{o n:Nat}(a:isAgg P t=some true)(b:sizeOf P t=some n):(part t cs o).run P w=.ok (.agg (cs.extract o (o+n))) w:=by
 simp_all[part,pY,bV]
theorem P7 {d:Nat}{Q:TypeId->Option (List Field)}(I:∀{t:TypeId} {p:List Field} {c ys:Array Value} {e g:List D} {b:Bool},Q t=some p->e.length=c.size->g.length=ys.size->
 (∀k (_:k<e.length) (_:k<c.size),VR m pr w e[k] c[k])->(∀k (_:k<g.length) (_:k<ys.size),VR m pr w g[k] ys[k])->dh P p e g=some b->(Op.equalIn (d+1) t (.agg c) (.agg ys)).run P w=.ok b w) {c ys:Array Value} {e g:List D} (O:e.length=c.size) (R:g.length=ys.size)
 (S:∀k (_:k<e.length) (_:k<c.size),VR m pr w e[k] c[k]) (J:∀k (_:k<g.length) (_:k<ys.size),VR m pr w g[k] ys[k]):
 ∀(p:List Field) (i:Nat) (u:List Field) (b:Bool),gZ P Q p i=some u->u.length+i=e.length->u.length+i=g.length->dh P u (e.drop i) (g.drop i)=some b->
  (Op.eqFields (d+1) c ys p).run P w=.ok b w:=by
 intro p
 induction p with
 |nil=>
  intro i u b n h1 F v;simp[gZ]at n;rw[yY (by grind),yY (by grind)]at v;simp_all[dh,Op.eqFields]
 |cons f p T=>
  intro i u b n h1 F v;simp only[gZ]at n;split at n
  .rename_i G;split at n
   .cases n;simp at h1 F;obtain⟨h,j,a⟩:=BH G;have x:i<e.length:=by omega
    have y:i<g.length:=by omega
    rw[zz x,zz y]at v;simp only[dh]at v;split at v
    .rename_i q;simp at q;have B:(part f.type c f.offset).run P w=.ok (c[i]'(by omega)) w:=tZ a (by grind);have C:(part f.type ys f.offset).run P w=.ok (ys[i]'(by omega)) w:=tZ a (by grind);simp[Op.eqFields,B,C]
     cases U:iq e[i] g[i]with
     |none=>grind
     |some r=>
      rw[Oo (S i x (by omega)) (J i y (by omega)) q.1 U]
      cases r with
      |true=>
       simp;grind
      |false=>
       simp_all
    grind
   grind
  split at n
  .rename_i l z;split at n
   .rename_i s;obtain⟨h,j,A,a⟩:=s;split at n
    .rename_i r hr;cases n;rw[zL]at h1 F;have B:=Bz (w:=w) (cs:=c) (o:=f.offset) a A;have C:=Bz (w:=w) (cs:=ys) (o:=f.offset) a A;rw[h]at B C
     have K:∀k (_:k<((e.drop i).take l.length).length) (_:k<(c.extract i (i+l.length)).size),VR m pr w ((e.drop i).take l.length)[k] (c.extract i (i+l.length))[k]:=by
      grind
     have L:∀k (_:k<((g.drop i).take l.length).length) (_:k<(ys.extract i (i+l.length)).size),VR m pr w ((g.drop i).take l.length)[k] (ys.extract i (i+l.length))[k]:=by
      intro k E H;simp;exact J _ _ _
     have M:((e.drop i).take l.length).length=(c.extract i (i+l.length)).size:=by simp;omega
     have N:((g.drop i).take l.length).length=(ys.extract i (i+l.length)).size:=by simp_all
     simp[Op.eqFields,j,h,B,C];rcases PM v with⟨E,H⟩ |⟨E,rfl⟩
     .rw[I z M N K L E];rw[xw,xw]at H;exact T (i+l.length) r b hr (by omega) (by omega) H
     rw[I z M N K L E];simp
    grind
   grind
  grind
theorem run_equal_deep:∀(n:Nat) {d:Nat} {t:TypeId} {i:List Field} {f ys:Array Value} {g h:List D} {b:Bool},jq P n t=some i->g.length=f.size->h.length=ys.size->
 (∀k (_:k<g.length) (_:k<f.size),VR m pr w g[k] f[k])->(∀k (_:k<h.length) (_:k<ys.size),VR m pr w h[k] ys[k])->dh P i g h=some b->
 (Op.equalIn (d+2+n) t (.agg f) (.agg ys)).run P w=.ok b w
 |0,d,t,i,f,ys,g,h,b,a,c,e,j,l,o=>Qj (m:=m) (pr:=pr) a c e j l o
 |n+1,d,t,i,f,ys,g,h,b,a,c,e,j,l,o=>by
  rcases Ar a with a|⟨q,z,r,p,_⟩
  .have:=run_equal_deep n (d:=d+1) a c e j l o;grind
  have s:P.fieldsOf t=q:=by grind[Program.fieldsOf]
  rw[show d+2+(n+1)=(d+1+n+1)+1 by omega,run_equalIn_struct w (d+1+n+1) t f ys (by grind) p,s];obtain⟨l1,l2⟩:=Hb o;refine P7 (d:=d+1+n) (Q:=jq P n) (m:=m) (pr:=pr) ?_ c e j l q.toList 0 i b r (by omega) (by omega) (by grind);intro t i f ys g h b h1 u h3 v x y;have:=run_equal_deep n (d:=d) h1 u h3 v x y;grind
theorem IV {t:TypeId}{x y:D}{vx j:Value}{b:Bool}(k:VR m pr w x vx)(l:VR m pr w y j)(c:equal P t x y=some b):(Op.equal t vx j).run P w=.ok b w:=by
 cases x<;>cases y<;>simp only[equal,reduceCtorEq]at c
 case bool.bool a a'=>
  cases k;cases l;split at c
  .rename_i n;simp at c;have hr:=run_equalIn_bool' w 9999 t a a' n;rw[c]at hr;exact hr
  grind
 case agg.agg lx ly=>
  obtain⟨o,rfl,e,f,_⟩:=k.aggs;obtain⟨ys,rfl,g,h,_⟩:=l.aggs;split at c
  .rename_i p i;exact run_equal_deep 2 (d:=9996) (m:=m) (pr:=pr) i e g f h c
  grind
theorem YV {op:BinOp}{t:TypeId}{ox oy:Operand}{a ys:Array Value}(b:P.eqGuardType P.depth t=false):(eqGuard op t ox oy (.agg a) (.agg ys)).run P w=.ok () w:=by
 simp_all[eqGuard]
theorem ub {op:BinOp}{t:TypeId}{ox oy:Operand}{vx b:Value}(h1:vx≠ .nilIface)(a:∀c,vx≠ .agg c):(eqGuard op t ox oy vx b).run P w=.ok () w:=by
 cases op<;>(simp only[eqGuard];split<;>first|rfl|(exact absurd rfl h1) |(exact absurd rfl (a _)) |skip)
 all_goals (split<;>first|rfl|(exact absurd rfl h1) |(exact absurd rfl (a _)))
theorem Ws {op:BinOp}{t:TypeId}{ox oy:Operand}{x y:D}{vx l:Value}(f:VR m pr w x vx)(o:VR m pr w y l){d:D}(g:bin P op t x y=some d):
 (eqGuard op t ox oy vx l).run P w=.ok () w:=by
 have c:(∃k a,x=.int k a)\/(∃a,x=.str a)\/(∃b,x=.bool b)\/(∃h i b,x=.agg h/\y=.agg i/\equal P t (.agg h) (.agg i)=some b):=by
  unfold bin at g;split at g
  simp;simp
  .have e:∃b,equal P t x y=some b:=by
    split at g
    .cases e:equal P t x y with
     |none=>grind
     |some b=>simp
    .cases e:equal P t x y with
     |none=>grind
     |some b=>simp
    grind
   obtain⟨b,e⟩:=e;cases x<;>cases y<;>simp only[equal,reduceCtorEq]at e;simp
   case agg.agg=>exact .inr (.inr (.inr ⟨_,_,b,rfl,rfl,e⟩))
 rcases c with⟨k,a,rfl⟩ |⟨a,rfl⟩ |⟨b,rfl⟩ |⟨h,i,b,rfl,rfl,n⟩
 .cases f;exact ub (by simp) (by simp)
 .cases f;exact ub (by simp) (by simp)
 .cases f;exact ub (by simp) (by simp)
 obtain⟨p,rfl,_⟩:=f.aggs;obtain⟨ys,rfl,_⟩:=o.aggs;refine YV ?_;simp only[equal]at n;split at n
 .rename_i q j;exact(I0 j).2
 grind
theorem YH {op:BinOp}{t:TypeId}{x y d:D}{vx l:Value}(h:VR m pr w x vx)(i:VR m pr w y l)(f:bin P op t x y=some d):
 ∃v,(binOp op t vx l).run P w=.ok v w/\VR m pr w d v:=by
 have c:(∀k a g b,¬(x=.int k a/\y=.int g b))->(∀a b,¬(x=.str a/\y=.str b))->(∃b,(op=.eql/\equal P t x y=some b/\d=.bool b)\/(op=.neq/\equal P t x y=some b/\d=.bool !b))->∃v,(binOp op t vx l).run P w=.ok v w/\VR m pr w d v:=by
  rintro h1 n ⟨b,⟨rfl,j,rfl⟩ |⟨rfl,j,rfl⟩⟩
  all_goals
   have hr:=IV h i j;cases x<;>cases y<;>simp only[equal,reduceCtorEq]at j
   case bool.bool=>cases h;cases i;exact⟨_,by simp[binOp,hr],.bool _⟩
   case agg.agg=>obtain⟨p,rfl,_⟩:=h.aggs;obtain⟨ys,rfl,_⟩:=i.aggs;exact⟨_,by simp[binOp,hr],.bool _⟩
 by_cases h1:∃k a g b,x=.int k a/\y=.int g b
 .obtain⟨k,a,g,b,rfl,rfl⟩:=h1;cases h;cases i;simp only[bin]at f;split at f
  .simp_all[Vd]
  split at f
  .rename_i o;subst o;exact Vw (by grind) f
  grind
 by_cases n:∃a b,x=.str a/\y=.str b
 .obtain⟨a,b,rfl,rfl⟩:=n;cases h;cases i;exact Yh f
 refine c (fun k a g b e=>h1 ⟨k,a,g,b,e⟩) (fun a b e=>n ⟨a,b,e⟩) ?_;unfold bin at f;split at f
 grind;grind
 .split at f
  .cases j:equal P t x y with
   |none=>grind
   |some b=>grind
  .cases j:equal P t x y with
   |none=>grind
   |some b=>grind
  grind
theorem LO {op:BinOp}{t e:TypeId}{x:D}{vx:Value}{ox oy:Operand}(d:VR m pr w x vx)(g:pk x=true)(i:P.underlying t=some (.slice e)):
 ((eqGuard op t ox oy vx (.slice none 0 0)).run P w=.ok () w)/\(binOp .eql t vx (.slice none 0 0)).run P w=.ok (.bool false) w/\(binOp .neq t vx (.slice none 0 0)).run P w=.ok (.bool true) w:=by
 obtain⟨a,n,c,rfl⟩:∃a n c,vx=.slice (some a) n c:=by
  unfold pk at g;split at g
  .cases d with
   |lst l b o cap esz cv=>simp
  .cases d with
   |ref id off len b esz cap C t f=>simp
  grind
 have h:=Lib.run_eql_slice_nil (P:=P) w t e (some a) n c 0 0 i;refine⟨ub (by simp) (by simp),h,?_⟩;simp[binOp]at h⊢
 cases j:(Op.equal t (.slice (some a) n c) (.slice none 0 0)).run P w with
 |ok b w'=>simp_all
 |_=>simp_all
theorem HY {op:BinOp}{t k e:TypeId}{x:D}{vx:Value}{b:Bool}{ox oy:Operand}(a:VR m pr w x vx)(c:nZ x=some b)(f:P.underlying t=some (.map k e)):
 ((eqGuard op t ox oy vx (.map none)).run P w=.ok () w)/\(binOp .eql t vx (.map none)).run P w=.ok (.bool b) w/\(binOp .neq t vx (.map none)).run P w=.ok (.bool !b) w:=by
 obtain⟨r,rfl,rfl⟩:∃r:Option Nat,vx=.map r/\b=r.isNone:=by
  unfold nZ at c;split at c
  .cases a;grind
  .cases a;grind
  .cases a;grind
  grind
 have g:(Op.equal t (.map r) (.map none)).run P w=.ok r.isNone w:=by
  have h:∀d,(Op.equalIn (d+1) t (.map r) (.map none)).run P w=.ok r.isNone w:=by
   cases r<;>simp[Op.equalIn,aT f]
  exact h 9999
 refine⟨ub (by simp) (by simp),?_,?_⟩<;>simp[binOp,g]
theorem run_un {op:UnOp}{x d:D}{vx:Value}(c:VR m pr w x vx)(a:un op x=some d):∃v,(Op.unary op vx).run P w=.ok v w/\VR m pr w d v:=by
 cases op<;>cases x<;>simp only[un,reduceCtorEq,zV]at a<;>subst a<;>cases c
 case neg.int.int k n=>exact⟨_,rfl,.int _ _⟩
 case xor.int.int k n=>exact⟨_,rfl,.int _ _⟩
 case not.bool.bool b=>exact⟨_,rfl,.bool _⟩
theorem OW {c:Bool}{l:List D}{vs:List Value}{d:D}(j:l.length=vs.length)(n:∀k (_:k<l.length) (_:k<vs.length),VR m pr w l[k] vs[k])(r:mI c l=some d):
 ∃v,(if c then Builtin.max_ #[] 0 vs.toArray else Builtin.min_ #[] 0 vs.toArray).run P w=.ok v w/\VR m pr w d v:=by
 cases l with
 |nil=>trivial
 |cons x l=>
  cases vs with
  |nil=>grind
  |cons v vs=>
   have h0:=n 0 (by simp) (by simp);have h:∀k (_:k<l.length) (_:k<vs.length),VR m pr w l[k] vs[k]:=fun k h1 s=>by have:=n (k+1) (by grind) (by grind);grind
   simp only[mI]at r
   have key:∀(l:List D) (vs:List Value) (x:D) (v:Value),l.length=vs.length->VR m pr w x v->(∀k (_:k<l.length) (_:k<vs.length),VR m pr w l[k] vs[k])->l.foldlM (mm2 c) x=some d->
    ∃o,(vs.foldlM (if c then Builtin.max2 else Builtin.min2) v).run P w=.ok o w/\VR m pr w d o:=by
    intro l
    induction l with
    |nil=>
     intro vs x v t p _ g
     cases vs with
     |nil=>simp_all
     |cons _ _=>grind
    |cons y l z=>
     intro vs x v t p hr g
     cases vs with
     |nil=>grind
     |cons u vs=>
      have A:=hr 0 (by simp) (by simp);simp at g
      cases f:mm2 c x y with
      |none=>grind
      |some q=>
       simp[f]at g;cases x<;>cases y<;>simp only[mm2,reduceCtorEq]at f
       case int.int k a k' b=>
        cases p;cases A;split at f
        .rename_i B;subst B;simp at f;subst f
         have e:((if c then Builtin.max2 else Builtin.min2) (.int k a) (.int k b)).run P w=.ok (.int k (if c then(if b>a then b else a)else(if b<a then b else a))) w:=by
          cases c<;>simp[Builtin.max2,Builtin.min2]
         simp[e];exact z vs _ _ (by grind) (.int _ _) (fun i h1 s=>by have:=hr (i+1) (by grind) (by grind);grind) g
        grind
   grind[Builtin.min_,Builtin.max_]
end Go.F
