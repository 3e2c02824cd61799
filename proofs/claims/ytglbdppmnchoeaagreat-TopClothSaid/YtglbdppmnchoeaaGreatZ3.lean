/- Part 3. -/
import Derived.Test.YtglbdppmnchoeaaGreatZ2
import Derived.Laws.Cells
import Derived.Laws.StructEq
import Derived.Lib.SliceRun
namespace Go.F
variable {P:Program}{c:Ctx}{m:Map}{pr:aM}{h:ab}{z:Frz}{w:World}
theorem Hf (v:Value):VR m pr w (ZL v) v:=by
 unfold ZL;split
 .exact .bool _
 .exact .int _ _
 .exact .float _ _
 .exact .str _
 .exact .nilsl _
 .exact .fn _ [] [] _ _ rfl rfl (by simp) (by simp)
 .exact .bad _
 .exact .bad _
 refine .opq _ ?_ ?_
 .cases v<;>first|rfl|(exfalso;exact h1 _ rfl) |grind
 cases v<;>first|rfl|grind
theorem jN (v:Value):VR m pr w (eh v) v:=by
 unfold eh;split
 .rename_i vs;unfold aggOf;split
  .rename_i a;refine .agg _ vs (by simp) (fun k c b=>?_) (zM.1 a);simp[Hf]
  exact .bad _
 .exact .tup [] _ rfl (by simp)
 simp[Hf]
def pg (m:Map)(pr:aM)(w:World)(t:ai)(ρ:Operand->Value):Prop:=∀x,VR m pr w (ev t x) (ρ x)
theorem tV {t:ai}{a:Act}(b:∀i,VR m pr w (t i) (a.tmps.getD i undef)):pg m pr w t a.eval:=by
 intro x
 cases x with
 |tmp i=>exact b i
 |const v=>exact jN v
 |global g=>exact .bad _
 |func f=>exact .fn f [] [] _ _ rfl rfl (by simp) (by simp)
def Sim (c:Ctx)(m:Map)(h:ab)(z:Frz)(w:World)(id:Nat)(r:Out)(a:Result Next):Prop:=
 ∃(nxt:Next) (w':World) (m':Map),a=.ok nxt w'/\
  ((∃v,nxt=.value v/\VR m' (Pr c m' (aJ h r.hp) (aJ z r.fz)) w' r.v v)\/(nxt=.skip/\r.v=.tup []))/\
  HR c m' (aJ h r.hp) (aJ z r.fz) w'/\
  Ev m (Pr c m h z) w m' (Pr c m' (aJ h r.hp) (aJ z r.fz)) w'/\
  (∀k,k≠id->m' k=m k)/\Below c.B w w'
theorem Sim.val {id:Nat}{d:D}{v:Value}{a:Result Next}(H:HR c m h z w)(b:a=.ok (.value v) w)(e:VR m (Pr c m h z) w d v):Sim c m h z w id (out d) a:=
 ⟨.value v,w,m,b,.inl ⟨v,rfl,e⟩,H,Ev.refl _ _ _,fun _ _=>rfl,Below.refl _ _⟩
theorem VR.ints {d:D}{v:Value}{k:IntKind}{n:Int}(a:VR m pr w d v)(b:d=.int k n):v=.int k n:=by subst b;cases a;rfl
theorem VR.bools {d:D}{v:Value}{b:Bool}(a:VR m pr w d v)(c:d=.bool b):v=.bool b:=by subst c;cases a;rfl
theorem VR.strs {d:D}{v:Value}{s:ByteArray}(a:VR m pr w d v)(b:d=.str s):v=.string s:=by subst b;cases a;rfl
theorem VR.floats {d:D}{v:Value}{k:FloatKind}{b:Nat}(a:VR m pr w d v)(c:d=.float k b):v=.float k b:=by subst c;cases a;rfl
theorem VR.aggs {v:Value}{l:Hm}(a:VR m pr w (.agg l) v):∃vs:Array Value,v=.agg vs/\l.length=vs.size/\(∀k (_:k<l.length) (_:k<vs.size),VR m pr w l[k] vs[k])/\∀e∈l,e.one=true:=by
 cases a with
 |agg _ vs h1 b h3=>grind
theorem VR.tups {v:Value}{l:Hm}(a:VR m pr w (.tup l) v):∃vs:Array Value,v=.tuple vs/\l.length=vs.size/\(∀k (_:k<l.length) (_:k<vs.size),VR m pr w l[k] vs[k]):=by
 cases a with
 |tup _ vs h1 b=>grind
theorem Vw {op:BinOp}{k:IntKind}{x y:Int}{d:D}{ty:TypeId}(c:jS op=false)(a:arith op k x y=some d):
 ∃v,(binOp op ty (.int k x) (.int k y)).run P w=.ok v w/\VR m pr w d v:=by
 cases op<;>simp only[arith,reduceCtorEq,zV,jS]at a c
 case add=>subst a;exact⟨_,by simp[binOp,Op.intArith],.int _ _⟩
 case sub=>subst a;exact⟨_,by simp[binOp,Op.intArith],.int _ _⟩
 case mul=>subst a;exact⟨_,by simp[binOp,Op.intArith],.int _ _⟩
 case quo=>
  split at a
  grind
  .rename_i b;simp at a;subst a;exact⟨_,by simp[binOp,Op.intDiv,b],.int _ _⟩
 case rem=>
  split at a
  grind
  .rename_i b;simp at a;subst a;exact⟨_,by simp[binOp,Op.intDiv,b],.int _ _⟩
 case and=>subst a;exact⟨_,by simp[binOp,Op.intBits],.int _ _⟩
 case or=>subst a;exact⟨_,by simp[binOp,Op.intBits],.int _ _⟩
 case xor=>subst a;exact⟨_,by simp[binOp,Op.intBits],.int _ _⟩
 case andNot=>subst a;exact⟨_,by simp[binOp,Op.intBits],.int _ _⟩
 case eql=>subst a;exact⟨_,by simp[binOp,Op.intCmp],.bool _⟩
 case neq=>subst a;exact⟨_,by simp[binOp,Op.intCmp],.bool _⟩
 case lss=>subst a;exact⟨_,by simp[binOp,Op.intCmp],.bool _⟩
 case leq=>subst a;exact⟨_,by simp[binOp,Op.intCmp],.bool _⟩
 case gtr=>subst a;exact⟨_,by simp[binOp,Op.intCmp],.bool _⟩
 case geq=>subst a;exact⟨_,by simp[binOp,Op.intCmp],.bool _⟩
theorem Vd {op:BinOp}{k c:IntKind}{x y:Int}{d:D}{ty:TypeId}(e:jS op=true)(a:shift op k x y=some d):
 ∃v,(binOp op ty (.int k x) (.int c y)).run P w=.ok v w/\VR m pr w d v:=by
 unfold shift at a;split at a
 grind
 .rename_i b;cases op<;>simp only[reduceCtorEq,zV,jS]at a e
  case shl=>subst a;exact⟨_,by simp[binOp,Op.shift,b],.int _ _⟩
  case shr=>subst a;exact⟨_,by simp[binOp,Op.shift,b],.int _ _⟩
theorem Yh {op:BinOp}{x y:ByteArray}{d:D}{ty:TypeId}(a:sX op x y=some d):
 ∃v,(binOp op ty (.string x) (.string y)).run P w=.ok v w/\VR m pr w d v:=by
 cases op<;>simp only[sX,reduceCtorEq,zV]at a
 case add=>
  split at a
  grind
  .simp at a;subst a;exact⟨_,by simp_all[binOp,Op.stringOp],.str _⟩
 case eql=>subst a;exact⟨_,by rfl,.bool _⟩
 case neq=>subst a;exact⟨_,by rfl,.bool _⟩
 case lss=>subst a;exact⟨_,by rfl,.bool _⟩
 case leq=>subst a;exact⟨_,by rfl,.bool _⟩
 case gtr=>subst a;exact⟨_,by rfl,.bool _⟩
 case geq=>subst a;exact⟨_,by rfl,.bool _⟩
theorem pY {t:TypeId}{b:Bool}(c:isAgg P t=some b):(Go.isAgg t).run P w=.ok b w:=by
 unfold isAgg at c
 cases e:P.underlying t with
 |none=>grind
 |some d=>
  have a:(underlying t).run P w=.ok d w:=by simp[underlying,e]
  simp[Go.isAgg,a];rw[e]at c;cases d<;>simp at c⊢ <;>exact c
theorem bV {t:TypeId}{n:Nat}(a:sizeOf P t=some n):(Go.sizeOf t).run P w=.ok n w:=by
 unfold sizeOf at a
 cases b:P.info? t with
 |none=>grind
 |some i=>simp_all[Go.sizeOf,typeInfo]
theorem aT {t:TypeId}{d:TypeDesc}(a:P.underlying t=some d):(underlying t).run P w=.ok d w:=by simp[underlying,a]
theorem qG {t:TypeId}{i:TypeInfo}(a:P.info? t=some i):(typeInfo t).run P w=.ok i w:=by simp[typeInfo,a]
theorem tZ {t:TypeId}{cs:Array Value}{o:Nat}{v:Value}(a:isAgg P t=some false)(b:cs[o]?=some v):(part t cs o).run P w=.ok v w:=by
 simp_all[part,pY]
theorem Oo {d:Nat}{f:Field}{x y:D}{vx i:Value}{b:Bool}(g:VR m pr w x vx)(h:VR m pr w y i)(c:ie P f x=true)(e:iq x y=some b):
 (Op.equalIn (d+1) f.type vx i).run P w=.ok b w:=by
 cases x<;>cases y<;>simp only[iq,reduceCtorEq,zV]at e
 case bool.bool a a'=>
  cases g;cases h;simp only[ie]at c;split at c
  .simp_all[Op.equalIn,aT]
  grind
 case int.int k a k' a'=>
  cases g;cases h;split at e
  .rename_i j;subst j;simp at e;simp only[ie]at c;split at c
   .rename_i l;simp[Op.equalIn,aT l,e]
   grind
  grind
 case str.str a a'=>
  cases g;cases h;simp only[ie]at c;split at c
  .simp_all[Op.equalIn,aT]
  grind
theorem BH {f:Field}{i:Nat}(a:N3 P f i=true):f.offset=i/\f.name≠ "_" /\isAgg P f.type=some false:=by
 simp[N3]at a;unfold isAgg;grind
theorem Uy {d:Nat}{l ys:Array Value}{h j:Hm}(u:h.length=l.size)(v:j.length=ys.size)
 (y:∀k (_:k<h.length) (_:k<l.size),VR m pr w h[k] l[k]) (z:∀k (_:k<j.length) (_:k<ys.size),VR m pr w j[k] ys[k]):
 ∀(a:List Field) (i:Nat) (b:Bool),a.length+i=h.length->a.length+i=j.length->(a.zipIdx i).all (fun x=>N3 P x.1 x.2)=true->dh P a (h.drop i) (j.drop i)=some b->
  (Op.eqFields (d+1) l ys a).run P w=.ok b w:=by
 intro a
 induction a with
 |nil=>
  intro i b h1 s _ n;rw[yY (by grind),yY (by grind)]at n;simp_all[dh,Op.eqFields]
 |cons f a E=>
  intro i b h1 s c n;simp at h1 s;simp at c;obtain⟨t,q,e⟩:=BH c.1;have o:i<h.length:=by omega
  have p:i<j.length:=by omega
  rw[zz o,zz p]at n;simp only[dh]at n;split at n
  .rename_i g;simp at g;have A:(part f.type l f.offset).run P w=.ok (l[i]'(by omega)) w:=tZ e (by grind);have B:(part f.type ys f.offset).run P w=.ok (ys[i]'(by omega)) w:=tZ e (by grind);simp[Op.eqFields,A,B]
   cases C:iq h[i] j[i]with
   |none=>grind
   |some r=>
    rw[Oo (y i o (by omega)) (z i p (by omega)) g.1 C]
    cases r with
    |true=>
     simp;grind
    |false=>
     simp_all
  grind
theorem Hb:∀{b:List Field} {a c:Hm} {r:Bool},dh P b a c=some r->b.length=a.length/\b.length=c.length:=by
 intro b
 induction b with
 |nil=>grind[dh]
 |cons f b d=>
  intro a c r hr
  cases a with
  |nil=>trivial
  |cons e a=>
   cases c with
   |nil=>trivial
   |cons g c=>
    simp only[dh]at hr;grind
theorem PM:∀{b d:List Field} {a c:Hm} {r:Bool},dh P (b++d) a c=some r->
 (dh P b (a.take b.length) (c.take b.length)=some true/\dh P d (a.drop b.length) (c.drop b.length)=some r)\/(dh P b (a.take b.length) (c.take b.length)=some false/\r=false):=by
 intro b
 induction b with
 |nil=>intro d a c r hr;exact .inl ⟨by rfl,by grind⟩
 |cons f b e=>
  intro d a c r hr
  cases a with
  |nil=>trivial
  |cons g a=>
   cases c with
   |nil=>trivial
   |cons h c=>
    simp[dh]at hr;simp only[yM,List.take_succ_cons,dh];grind
theorem Qj {d:Nat}{t:TypeId}{l:List Field}{a ys:Array Value}{e f:Hm}{b:Bool}(g:uL P t=some l)(h:e.length=a.size)(i:f.length=ys.size)
 (o:∀k (_:k<e.length) (_:k<a.size),VR m pr w e[k] a[k]) (p:∀k (_:k<f.length) (_:k<ys.size),VR m pr w f[k] ys[k]) (q:dh P l e f=some b):
 (Op.equalIn (d+2) t (.agg a) (.agg ys)).run P w=.ok b w:=by
 obtain⟨n,s,rfl,c,j,_⟩:=Ao g;have r:P.fieldsOf t=n:=by grind[Program.fieldsOf]
 rw[run_equalIn_struct w (d+1) t a ys (by grind) j,r];obtain⟨l1,l2⟩:=Hb q;exact Uy (m:=m) (pr:=pr) h i o p n.toList 0 b (by omega) (by omega) c (by grind)
theorem Bz {t:TypeId}{cs:Array Value}{o n:Nat}(a:isAgg P t=some true)(b:sizeOf P t=some n):(part t cs o).run P w=.ok (.agg (cs.extract o (o+n))) w:=by
 simp_all[part,pY,bV]
theorem P7 {d:Nat}{Q:TypeId->Option (List Field)}(I:∀{t:TypeId} {p:List Field} {c ys:Array Value} {e g:Hm} {b:Bool},Q t=some p->e.length=c.size->g.length=ys.size->
 (∀k (_:k<e.length) (_:k<c.size),VR m pr w e[k] c[k])->(∀k (_:k<g.length) (_:k<ys.size),VR m pr w g[k] ys[k])->dh P p e g=some b->(Op.equalIn (d+1) t (.agg c) (.agg ys)).run P w=.ok b w) {c ys:Array Value} {e g:Hm} (O:e.length=c.size) (R:g.length=ys.size)
 (S:∀k (_:k<e.length) (_:k<c.size),VR m pr w e[k] c[k]) (J:∀k (_:k<g.length) (_:k<ys.size),VR m pr w g[k] ys[k]):
 ∀(p:List Field) (i:Nat) (u:List Field) (b:Bool),gZ P Q p i=some u->u.length+i=e.length->u.length+i=g.length->dh P u (e.drop i) (g.drop i)=some b->
  (Op.eqFields (d+1) c ys p).run P w=.ok b w:=by
 intro p
 induction p with
 |nil=>
  intro i u b n h1 F v;simp[gZ]at n;rw[yY (by grind),yY (by grind)]at v;simp_all[dh,Op.eqFields]
 |cons f p T=>
  intro i u b n h1 F v;simp only[gZ]at n;split at n
  .rename_i G;split at n
   .cases n;simp at h1 F;obtain⟨h,j,a⟩:=BH G;have x:i<e.length:=by omega
    have y:i<g.length:=by omega
    rw[zz x,zz y]at v;simp only[dh]at v;split at v
    .rename_i q;simp at q;have B:(part f.type c f.offset).run P w=.ok (c[i]'(by omega)) w:=tZ a (by grind);have C:(part f.type ys f.offset).run P w=.ok (ys[i]'(by omega)) w:=tZ a (by grind);simp[Op.eqFields,B,C]
     cases U:iq e[i] g[i]with
     |none=>grind
     |some r=>
      rw[Oo (S i x (by omega)) (J i y (by omega)) q.1 U]
      cases r with
      |true=>
       simp;grind
      |false=>
       simp_all
    grind
   grind
  split at n
  .rename_i l z;split at n
   .rename_i s;obtain⟨h,j,A,a⟩:=s;split at n
    .rename_i r hr;cases n;rw[zL]at h1 F;have B:=Bz (w:=w) (cs:=c) (o:=f.offset) a A;have C:=Bz (w:=w) (cs:=ys) (o:=f.offset) a A;rw[h]at B C
     have K:∀k (_:k<((e.drop i).take l.length).length) (_:k<(c.extract i (i+l.length)).size),VR m pr w ((e.drop i).take l.length)[k] (c.extract i (i+l.length))[k]:=by
      grind
     have L:∀k (_:k<((g.drop i).take l.length).length) (_:k<(ys.extract i (i+l.length)).size),VR m pr w ((g.drop i).take l.length)[k] (ys.extract i (i+l.length))[k]:=by
      intro k E H;simp;exact J _ _ _
     have M:((e.drop i).take l.length).length=(c.extract i (i+l.length)).size:=by simp;omega
     have N:((g.drop i).take l.length).length=(ys.extract i (i+l.length)).size:=by simp_all
     simp[Op.eqFields,j,h,B,C];rcases PM v with⟨E,H⟩ |⟨E,rfl⟩
     .rw[I z M N K L E];rw[xw,xw]at H;exact T (i+l.length) r b hr (by omega) (by omega) H
     rw[I z M N K L E];simp
    grind
   grind
  grind
theorem run_equal_deep:∀(n:Nat) {d:Nat} {t:TypeId} {i:List Field} {f ys:Array Value} {g h:Hm} {b:Bool},jq P n t=some i->g.length=f.size->h.length=ys.size->
 (∀k (_:k<g.length) (_:k<f.size),VR m pr w g[k] f[k])->(∀k (_:k<h.length) (_:k<ys.size),VR m pr w h[k] ys[k])->dh P i g h=some b->
 (Op.equalIn (d+2+n) t (.agg f) (.agg ys)).run P w=.ok b w
 |0,d,t,i,f,ys,g,h,b,a,c,e,j,l,o=>Qj (m:=m) (pr:=pr) a c e j l o
 |n+1,d,t,i,f,ys,g,h,b,a,c,e,j,l,o=>by
  rcases Ar a with a|⟨q,z,r,p,_⟩
  .have:=run_equal_deep n (d:=d+1) a c e j l o;grind
  have s:P.fieldsOf t=q:=by grind[Program.fieldsOf]
  rw[show d+2+(n+1)=(d+1+n+1)+1 by omega,run_equalIn_struct w (d+1+n+1) t f ys (by grind) p,s];obtain⟨l1,l2⟩:=Hb o;refine P7 (d:=d+1+n) (Q:=jq P n) (m:=m) (pr:=pr) ?_ c e j l q.toList 0 i b r (by omega) (by omega) (by grind);intro t i f ys g h b h1 u h3 v x y;have:=run_equal_deep n (d:=d) h1 u h3 v x y;grind
theorem IV {t:TypeId}{x y:D}{vx j:Value}{b:Bool}(k:VR m pr w x vx)(l:VR m pr w y j)(c:equal P t x y=some b):(Op.equal t vx j).run P w=.ok b w:=by
 cases x<;>cases y<;>simp only[equal,reduceCtorEq]at c
 case bool.bool a a'=>
  cases k;cases l;split at c
  .rename_i n;simp at c;have hr:=run_equalIn_bool' w 9999 t a a' n;rw[c]at hr;exact hr
  grind
 case agg.agg lx ly=>
  obtain⟨o,rfl,e,f,_⟩:=k.aggs;obtain⟨ys,rfl,g,h,_⟩:=l.aggs;split at c
  .rename_i p i;exact run_equal_deep 2 (d:=9996) (m:=m) (pr:=pr) i e g f h c
  grind
theorem YV {op:BinOp}{t:TypeId}{ox oy:Operand}{a ys:Array Value}(b:P.eqGuardType P.depth t=false):(eqGuard op t ox oy (.agg a) (.agg ys)).run P w=.ok () w:=by
 simp_all[eqGuard]
theorem ub {op:BinOp}{t:TypeId}{ox oy:Operand}{vx b:Value}(h1:vx≠ .nilIface)(a:∀c,vx≠ .agg c):(eqGuard op t ox oy vx b).run P w=.ok () w:=by
 cases op<;>(simp only[eqGuard];split<;>first|rfl|(exact absurd rfl h1) |(exact absurd rfl (a _)) |skip)
 all_goals (split<;>first|rfl|(exact absurd rfl h1) |(exact absurd rfl (a _)))
theorem Ws {op:BinOp}{t:TypeId}{ox oy:Operand}{x y:D}{vx l:Value}(f:VR m pr w x vx)(o:VR m pr w y l){d:D}(g:bin P op t x y=some d):
 (eqGuard op t ox oy vx l).run P w=.ok () w:=by
 have c:(∃k a,x=.int k a)\/(∃a,x=.str a)\/(∃b,x=.bool b)\/(∃h i b,x=.agg h/\y=.agg i/\equal P t (.agg h) (.agg i)=some b):=by
  unfold bin at g;split at g
  simp;simp
  .have e:∃b,equal P t x y=some b:=by
    split at g
    .cases e:equal P t x y with
     |none=>grind
     |some b=>simp
    .cases e:equal P t x y with
     |none=>grind
     |some b=>simp
    grind
   obtain⟨b,e⟩:=e;cases x<;>cases y<;>simp only[equal,reduceCtorEq]at e;simp
   case agg.agg=>exact .inr (.inr (.inr ⟨_,_,b,rfl,rfl,e⟩))
 rcases c with⟨k,a,rfl⟩ |⟨a,rfl⟩ |⟨b,rfl⟩ |⟨h,i,b,rfl,rfl,n⟩
 .cases f;exact ub (by simp) (by simp)
 .cases f;exact ub (by simp) (by simp)
 .cases f;exact ub (by simp) (by simp)
 obtain⟨p,rfl,_⟩:=f.aggs;obtain⟨ys,rfl,_⟩:=o.aggs;refine YV ?_;simp only[equal]at n;split at n
 .rename_i q j;exact(I0 j).2
 grind
theorem YH {op:BinOp}{t:TypeId}{x y d:D}{vx l:Value}(h:VR m pr w x vx)(i:VR m pr w y l)(f:bin P op t x y=some d):
 ∃v,(binOp op t vx l).run P w=.ok v w/\VR m pr w d v:=by
 have c:(∀k a g b,¬(x=.int k a/\y=.int g b))->(∀a b,¬(x=.str a/\y=.str b))->(∃b,(op=.eql/\equal P t x y=some b/\d=.bool b)\/(op=.neq/\equal P t x y=some b/\d=.bool !b))->∃v,(binOp op t vx l).run P w=.ok v w/\VR m pr w d v:=by
  rintro h1 n ⟨b,⟨rfl,j,rfl⟩ |⟨rfl,j,rfl⟩⟩
  all_goals
   have hr:=IV h i j;cases x<;>cases y<;>simp only[equal,reduceCtorEq]at j
   case bool.bool=>cases h;cases i;exact⟨_,by simp[binOp,hr],.bool _⟩
   case agg.agg=>obtain⟨p,rfl,_⟩:=h.aggs;obtain⟨ys,rfl,_⟩:=i.aggs;exact⟨_,by simp[binOp,hr],.bool _⟩
 by_cases h1:∃k a g b,x=.int k a/\y=.int g b
 .obtain⟨k,a,g,b,rfl,rfl⟩:=h1;cases h;cases i;simp only[bin]at f;split at f
  .simp_all[Vd]
  split at f
  .rename_i o;subst o;exact Vw (by grind) f
  grind
 by_cases n:∃a b,x=.str a/\y=.str b
 .obtain⟨a,b,rfl,rfl⟩:=n;cases h;cases i;exact Yh f
 refine c (fun k a g b e=>h1 ⟨k,a,g,b,e⟩) (fun a b e=>n ⟨a,b,e⟩) ?_;unfold bin at f;split at f
 grind;grind
 .split at f
  .cases j:equal P t x y with
   |none=>grind
   |some b=>grind
  .cases j:equal P t x y with
   |none=>grind
   |some b=>grind
  grind
theorem LO {op:BinOp}{t e:TypeId}{x:D}{vx:Value}{ox oy:Operand}(d:VR m pr w x vx)(g:pk x=true)(i:P.underlying t=some (.slice e)):
 ((eqGuard op t ox oy vx (.slice none 0 0)).run P w=.ok () w)/\(binOp .eql t vx (.slice none 0 0)).run P w=.ok (.bool false) w/\(binOp .neq t vx (.slice none 0 0)).run P w=.ok (.bool true) w:=by
 obtain⟨a,n,c,rfl⟩:∃a n c,vx=.slice (some a) n c:=by
  unfold pk at g;split at g
  .cases d with
   |lst l b o cap esz cv=>simp
  .cases d with
   |ref id off len b esz cap C t f=>simp
  grind
 have h:=Lib.run_eql_slice_nil (P:=P) w t e (some a) n c 0 0 i;refine⟨ub (by simp) (by simp),h,?_⟩;simp[binOp]at h⊢
 cases j:(Op.equal t (.slice (some a) n c) (.slice none 0 0)).run P w with
 |ok b w'=>simp_all
 |_=>simp_all
theorem HY {op:BinOp}{t k e:TypeId}{x:D}{vx:Value}{b:Bool}{ox oy:Operand}(a:VR m pr w x vx)(c:nZ x=some b)(f:P.underlying t=some (.map k e)):
 ((eqGuard op t ox oy vx (.map none)).run P w=.ok () w)/\(binOp .eql t vx (.map none)).run P w=.ok (.bool b) w/\(binOp .neq t vx (.map none)).run P w=.ok (.bool !b) w:=by
 obtain⟨r,rfl,rfl⟩:∃r:Option Nat,vx=.map r/\b=r.isNone:=by
  unfold nZ at c;split at c
  .cases a;grind
  .cases a;grind
  .cases a;grind
  grind
 have g:(Op.equal t (.map r) (.map none)).run P w=.ok r.isNone w:=by
  have h:∀d,(Op.equalIn (d+1) t (.map r) (.map none)).run P w=.ok r.isNone w:=by
   cases r<;>simp[Op.equalIn,aT f]
  exact h 9999
 refine⟨ub (by simp) (by simp),?_,?_⟩<;>simp[binOp,g]
theorem run_un {op:UnOp}{x d:D}{vx:Value}(c:VR m pr w x vx)(a:un op x=some d):∃v,(Op.unary op vx).run P w=.ok v w/\VR m pr w d v:=by
 cases op<;>cases x<;>simp only[un,reduceCtorEq,zV]at a<;>subst a<;>cases c
 case neg.int.int k n=>exact⟨_,rfl,.int _ _⟩
 case xor.int.int k n=>exact⟨_,rfl,.int _ _⟩
 case not.bool.bool b=>exact⟨_,rfl,.bool _⟩
theorem OW {c:Bool}{l:Hm}{vs:List Value}{d:D}(j:l.length=vs.length)(n:∀k (_:k<l.length) (_:k<vs.length),VR m pr w l[k] vs[k])(r:mI c l=some d):
 ∃v,(if c then Builtin.max_ #[] 0 vs.toArray else Builtin.min_ #[] 0 vs.toArray).run P w=.ok v w/\VR m pr w d v:=by
 cases l with
 |nil=>trivial
 |cons x l=>
  cases vs with
  |nil=>grind
  |cons v vs=>
   have h0:=n 0 (by simp) (by simp);have h:∀k (_:k<l.length) (_:k<vs.length),VR m pr w l[k] vs[k]:=fun k h1 s=>by have:=n (k+1) (by grind) (by grind);grind
   simp only[mI]at r
   have key:∀(l:Hm) (vs:List Value) (x:D) (v:Value),l.length=vs.length->VR m pr w x v->(∀k (_:k<l.length) (_:k<vs.length),VR m pr w l[k] vs[k])->l.foldlM (mm2 c) x=some d->
    ∃o,(vs.foldlM (if c then Builtin.max2 else Builtin.min2) v).run P w=.ok o w/\VR m pr w d o:=by
    intro l
    induction l with
    |nil=>
     intro vs x v t p _ g
     cases vs with
     |nil=>simp_all
     |cons _ _=>grind
    |cons y l z=>
     intro vs x v t p hr g
     cases vs with
     |nil=>grind
     |cons u vs=>
      have A:=hr 0 (by simp) (by simp);simp at g
      cases f:mm2 c x y with
      |none=>grind
      |some q=>
       simp[f]at g;cases x<;>cases y<;>simp only[mm2,reduceCtorEq]at f
       case int.int k a k' b=>
        cases p;cases A;split at f
        .rename_i B;subst B;simp at f;subst f
         have e:((if c then Builtin.max2 else Builtin.min2) (.int k a) (.int k b)).run P w=.ok (.int k (if c then(if b>a then b else a)else(if b<a then b else a))) w:=by
          cases c<;>simp[Builtin.max2,Builtin.min2]
         simp[e];exact z vs _ _ (by grind) (.int _ _) (fun i h1 s=>by have:=hr (i+1) (by grind) (by grind);grind) g
        grind
   grind[Builtin.min_,Builtin.max_]
end Go.F
namespace Go.F
variable {P:Program}{c:Ctx}{m:Map}{pr:aM}{h hr:ab}{z:Frz}{w:World}
theorem dW (b o n:Nat):(⟨b,o,none⟩:Addr).add n=⟨b,o+n,none⟩:=by
 unfold Addr.add;simp
theorem oe (l a:Hm):fl (l++a)=fl l++fl a:=by simp[fl]
theorem n4 {l:Hm}{n:Nat}(a:∀e∈l,e.cells.length=n)(k:Nat):fl (l.take k)=(fl l).take (k*n):=by
 induction l generalizing k with
 |nil=>simp[fl]
 |cons e l c=>
  cases k with
  |zero=>simp[fl]
  |succ k=>
   have h1:=a e (zO ..);have b:=c (fun x d=>a x (zG _ d)) k;simp[fl]at b⊢;rw[b,wy,h1,y3,zZ (l:=e.cells) (by omega),show k*n+n-n=k*n by omega]
theorem sH {l:Hm}{n:Nat}(a:∀e∈l,e.cells.length=n)(k:Nat):fl (l.drop k)=(fl l).drop (k*n):=by
 induction l generalizing k with
 |nil=>simp[fl]
 |cons e l c=>
  cases k with
  |zero=>simp
  |succ k=>
   have h1:=a e (zO ..);have b:=c (fun x d=>a x (zG _ d)) k;simp[fl]at b⊢;rw[b,wB,h1,y3,yY (l:=e.cells) (by omega),yj,show k*n+n-n=k*n by omega]
structure Win (m:Map)(pr:aM)(w:World)(l:Hm)(v:Value):Prop where
 ex:∃ao cap,v=.slice ao l.length cap/\l.length<=cap/\(l≠[]->∃(b o:Nat) (f:Nat->Value),ao=some ⟨b,o,none⟩/\∀k (hk:k<(fl l).length),w.cell? ⟨b,o+k,none⟩=some (f k)/\VR m pr w ((fl l)[k]) (f k))
 one:∀e∈fl l,e.one=true
 esz:∃n,0<n/\∀e∈l,e.cells.length=n
def Sub (hr h:ab):Prop:=∀id b,hr id=some b->h id=some b
theorem sq (H:HR c m h z w)(I:Sub hr h){x:D}{v:Value}{l:Hm}(q:VR m (Pr c m h z) w x v)(i:window hr x=some l):Win m (Pr c m h z) w l v:=by
 cases x<;>simp only[window,reduceCtorEq,zV]at i
 case nilsl=>subst i;cases q;exact⟨⟨_,0,rfl,by simp,by simp⟩,by simp[fl],⟨1,by omega,by simp⟩⟩
 case lst l'=>
  subst i
  cases q with
  |lst0 a cap=>exact⟨⟨_,cap,rfl,by simp,by simp⟩,by simp[fl],⟨1,by omega,by simp⟩⟩
  |lst _ b o cap esz cv J r j g K L n=>
   exact⟨⟨_,cap,rfl,g,fun _=>⟨b,o,cv,rfl,fun k s=>⟨(K k s).1,(L k s).up⟩⟩⟩,n,⟨esz,j,r⟩⟩
 case ref id off len=>
  split at i
  .rename_i es d M;split at i
   .simp at i;subst i
    cases q with
    |vnil _ a=>exact⟨⟨a,0,by simp,by simp,fun h0=>by grind⟩,by simp[fl],⟨1,by omega,by simp⟩⟩
    |ref _ _ _ b esz cap C t f u p g G=>
     obtain⟨U,V,t',h1,W,h3,N⟩:=H.rowR (I _ _ M) u;rw[h1]at u;cases u;rw[h3]at p;cases p;obtain⟨O,y,X,P,Y⟩:=N;have Q:((es.drop off).take len).length=len:=by grind
     have R:∀e∈(es.drop off).take len,e.cells.length=d:=fun e A=>y e (yJ (zt A))
     have S:fl ((es.drop off).take len)=((fl es).drop (off*d)).take (len*d):=by
      rw[n4 (fun e A=>y e (yJ A)),sH y]
     refine⟨⟨_,cap,by grind,by omega,fun _=>⟨b,off*d,fun k=>C.getD (off*d+k) undef,rfl,fun k s=>?_⟩⟩,?_,⟨d,O,R⟩⟩
     .have B:off*d+k<(fl es).length:=by
       grind
      have E:off*d+k<C.size:=by omega
      have T:(fl ((es.drop off).take len))[k]=(fl es)[off*d+k]:=by
       grind
      rw[T];have F:C.getD (off*d+k) undef=C[off*d+k]:=by simp_all
      simp only[F];refine⟨?_,P _ B E⟩;rw[cell?_row h3];simp
     grind
   grind
  grind
theorem EW (H:HR c m h z w)(F:Sub hr h){x:D}{v:Value}{cs:Hm}{o:Nat}(g:VR m (Pr c m h z) w x v)(a:jt hr x=some (cs,o)):
 ∃(b l:Nat) (f:Nat->Value),v=.pointer (some ⟨b,l+o,none⟩)/\(∀k (n:k<cs.length),w.cell? ⟨b,l+k,none⟩=some (f k)/\VR m (Pr c m h z) w cs[k] (f k))/\∀e∈cs,e.one=true:=by
 cases x<;>simp only[jt,reduceCtorEq,zV,Prod.mk.injEq]at a
 case pl e i=>
  obtain⟨rfl,rfl⟩:=a
  cases g with
  |pl _ _ b l cv h1 A h3=>exact⟨b,l,cv,rfl,fun k n=>⟨(h1 k n).1,(A k n).up⟩,h3⟩
 case ptr id i o2=>
  split at a
  .rename_i es esz G
   cases d:es[i]? with
   |none=>grind
   |some e=>
    simp[d]at a;obtain⟨rfl,rfl⟩:=a
    cases g with
    |ptr _ _ _ b B q=>
     obtain⟨L,C,t,h1,A,h3,M,p,N,I,O⟩:=H.rowR (F _ _ G) q;rw[h1]at q;cases q;have J:e.cells.length=esz:=p e (zh d);have hi:i<es.length:=(yB.1 d).1;have E:=cY p;refine⟨b,i*esz,fun k=>C.getD (i*esz+k) undef,rfl,fun k n=>?_,fun x g=>?_⟩
     .have r:i*esz+k<(fl es).length:=by
       have:(i+1) *esz<=es.length*esz:=zF _ hi;grind
      have s:i*esz+k<C.size:=by omega
      have u:C.getD (i*esz+k) undef=C[i*esz+k]:=by simp_all
      have K:(fl es)[i*esz+k]=e.cells[k]:=by
       have:=fO p d (j:=k) (by omega);grind
      simp only[u,<-K];exact⟨by rw[cell?_row h3];simp,I _ r s⟩
     have y:=ze.1 g;obtain⟨j,P,rfl⟩:=y;have:=fO p d (j:=j) (by omega);grind
  grind
theorem run_load {t:TypeId}{x d:D}{v:Value}(H:HR c m h z w)(i:Sub hr h)(l:VR m (Pr c m h z) w x v)(a:load P hr t x=some d):
 ∃u,(Instr.loadAt t v).run P w=.ok u w/\VR m (Pr c m h z) w d u:=by
 unfold load at a;split at a
 .rename_i cs o n g p A;obtain⟨b,q,f,rfl,h1,r⟩:=EW H i l g;split at a
  .simp at a;subst a
   have s:=run_loadCells (P:=P) w ⟨b,q+o,none⟩ n (fun j=>f (o+j)) (fun j E=>by
    grind[dW])
   refine⟨.agg ((List.range n).map fun j=>f (o+j)).toArray,by simp_all[Instr.loadAt,Instr.sureAddr,loadVar,pY,bV],?_⟩;refine .agg _ _ (by grind) (fun k F B=>?_) (fun e C=>r e (yJ (zt C)));grind
  grind
 .rename_i cs o n g p A;obtain⟨b,q,f,rfl,h1,r⟩:=EW H i l g;obtain⟨y,rfl⟩:=yB.1 a;refine⟨f o,?_,(h1 o y).2⟩;simp[Instr.loadAt,Instr.sureAddr,loadVar,pY p,(h1 o y).1]
 grind
theorem TA {s:TypeId}{f n:Nat}{x d:D}{v:Value}(g:VR m pr w x v)(a:uU P s f=some n)(c:lA x n=some d):
 ∃u,(Instr.fieldAt s v f).run P w=.ok u w/\VR m pr w d u:=by
 unfold uU at a;split at a
 .split at a
  .rename_i h k;split at a
   grind
   .simp at a;subst a;cases x<;>simp only[lA,reduceCtorEq,zV]at c
    case ptr id i o=>
     subst c
     cases g with
     |ptr _ _ _ b esz l=>
      refine⟨.pointer (some ⟨b,i*esz+(o+h.offset),none⟩),?_,.ptr _ _ _ _ _ l⟩;simp_all[Instr.fieldAt,aT,Instr.sureAddr,fieldPlace,bV,dW,yG]
    case pl e o=>
     subst c
     cases g with
     |pl _ _ b j cv h1 p h3=>
      refine⟨.pointer (some ⟨b,j+(o+h.offset),none⟩),?_,.pl e _ b j cv h1 p h3⟩;simp_all[Instr.fieldAt,aT,Instr.sureAddr,fieldPlace,bV,dW,yG]
   grind
  grind
 grind
theorem qR {x:D}{v:Value}{n:Nat}(b:VR m pr w x v)(a:jJ x=some n):∃k,v=.int k n:=by
 cases x<;>simp only[jJ,reduceCtorEq]at a
 case int k i=>
  split at a
  .cases b;exact⟨k,by grind⟩
  grind
theorem UY {t:TypeId}{x J d:D}{v K:Value}(H:HR c m h z w)(T:Sub hr h)(E:VR m (Pr c m h z) w x v)(hi:VR m (Pr c m h z) w J K)(g:indexAddr P hr t x J=some d):
 ∃u,(Instr.indexAt t v K).run P w=.ok u w/\VR m (Pr c m h z) w d u:=by
 unfold indexAddr at g;split at g
 .rename_i i e F q;obtain⟨k,rfl⟩:=qR hi F;split at g
  .rename_i n l p;split at g
   .rename_i y L;split at g
    .simp at g;subst g;obtain⟨G,rfl⟩:=yB.1 L
     cases E with
     |lst0 a cap=>grind
     |lst _ b o cap esz cv U r M s V hv N=>
      have O:esz=n:=by grind
      refine⟨.pointer (some ⟨b,o+i*esz,none⟩),?_,?_⟩
      .simp[Instr.indexAt,asIntOf,aT q];simp_all[bV,dW]
      have W:=cY r
      have X:∀j,j<esz->i*esz+j<(fl l).length:=fun j A=>by
       have:(i+1) *esz<=l.length*esz:=zF _ G;grind
      have hg:∀j (A:j<l[i].cells.length) (h':i*esz+j<(fl l).length),(fl l)[i*esz+j]=l[i].cells[j]:=fun j A h'=>by
       have:=fO r L (j:=j) (by omega);grind
      refine .pl l[i] 0 b (o+i*esz) (fun j=>cv (i*esz+j)) (fun j A=>?_) (fun j A=>?_) (fun y I=>?_);grind;grind
      .obtain⟨j,A,rfl⟩:=ze.1 I;grind
    grind
   grind
  .rename_i n id off len p;split at g
   .split at g
    .rename_i es esz Y;split at g
     .simp at g;subst g
      cases E with
      |vnil _ a=>omega
      |ref _ _ _ b Q cap C' Z f B a0 s R=>
       obtain⟨b',C,t',h1,_⟩:=H.rowR (T _ _ Y) B;rw[h1]at B;cases B;refine⟨.pointer (some ⟨b,(off+i) *esz+0,none⟩),?_,.ptr _ _ _ _ _ h1⟩;simp[Instr.indexAt,asIntOf,aT q];simp_all[bV,dW,yX]
     grind
    grind
   grind
  grind
 .rename_i i len e F q;obtain⟨k,rfl⟩:=qR hi F;split at g
  .rename_i n p;split at g
   .cases x<;>simp only[lA,reduceCtorEq,zV]at g
    case ptr id j o=>
     subst g
     cases E with
     |ptr _ _ _ b esz B=>
      refine⟨.pointer (some ⟨b,j*esz+(o+i*n),none⟩),?_,.ptr _ _ _ _ _ B⟩;simp[Instr.indexAt,asIntOf,aT q,Instr.sureAddr,bV p,dW,yG];omega
    case pl y o=>
     subst g
     cases E with
     |pl _ _ b S cv h1 h2 h3=>
      refine⟨.pointer (some ⟨b,S+(o+i*n),none⟩),?_,.pl y _ b S cv h1 h2 h3⟩;simp[Instr.indexAt,asIntOf,aT q,Instr.sureAddr,bV p,dW,yG];omega
   grind
  grind
 grind
theorem U5 {t:TypeId}{x q d:D}{v r:Value}(z:VR m pr w x v)(hi:VR m pr w q r)(a:index P t x q=some d):
 ∃u,(Instr.index t v r).run P w=.ok u w/\VR m pr w d u:=by
 unfold index at a;split at a
 .rename_i i len e cs g h;obtain⟨k,rfl⟩:=qR hi g;obtain⟨vs,rfl,A,C,f⟩:=z.aggs;split at a
  .split at a
   .rename_i n o c;split at a
    .simp at a;subst a;refine⟨.agg (vs.extract (i*n) (i*n+n)),by simp[Instr.index,asIntOf,aT h,bV c,part,pY o];omega,?_⟩;refine .agg _ _ (by grind) (fun j I E=>?_) (fun y F=>f y (yJ (zt F)));grind
    grind
   .rename_i n o c;obtain⟨G,rfl⟩:=yB.1 a;refine⟨vs[i*n]'(by omega),?_,C _ G (by omega)⟩;simp[Instr.index,asIntOf,aT h,bV c,part,pY o,yC (show i*n<vs.size by omega)];omega
   grind
  grind
 .rename_i i s g h;obtain⟨k,rfl⟩:=qR hi g;cases z;split at a
  .rename_i b B;simp at a;subst a;refine⟨.int .u8 b.toNat,?_,.int _ _⟩
   have H:s[i]?=some b:=by
    rw[ByteArray.toList_eq]at B;obtain⟨⟨l⟩⟩:=s;obtain⟨p,rfl⟩:=yB.1 B;have:i<(ByteArray.mk ⟨l⟩).size:=p;simp[this];rfl
   simp_all[Instr.index,asIntOf,aT]
  grind
 grind
end Go.F
