/- Part 22. -/
import Derived.Test.YtglbdppmnchoeaaGreatZ21
set_option linter.all false
namespace Go.F
universe u
theorem pT {α:Sort u}(d:D)(k:D->α):f0 d k=k d:=by cases d<;>rfl
theorem ke {α:Sort u}(l:List D):∀(k:List D->α),fL0 l k=k l:=by
 induction l with
 |nil=>intro k;rfl
 |cons x l a=>grind[fL0,pT]
theorem jy {α:Sort u}(d:D)(k:D->α):fA d k=k d:=by
 grind[fA,pT,ke]
theorem sB {α:Sort u}(d:D)(k:D->α):f1 d k=k d:=by
 grind[f1,pT,ke,jy]
theorem il {α:Sort u}(l:List D):∀(k:List D->α),fL1 l k=k l:=by
 induction l with
 |nil=>intro k;rfl
 |cons x l a=>grind[fL1,sB]
theorem iu {α:Sort u}(d:D)(k:D->α):f2 d k=k d:=by
 grind[f2,pT,ke,jy,il]
theorem fB_eq (b:Option Blk)(k:Option Blk->Prop):fB b k=k b:=by
 unfold fB;grind
def rC (ag:Bool)(n:Nat)(e:D)(o:Nat):Option D:=
 match ag with
 |true=>
  match Nat.ble (o+n) e.cells.length with
  |true=>some (.agg ((e.cells.drop o).take n))
  |false=>none
 |false=>e.cells[o]?
def vu (b:Bool)(h:ab)(ag:Bool)(n:Nat)(a:D):Option D:=
 match a with
 |.pl e o=>rC ag n e o
 |.ptr id i o=>
  match b with
  |true=>
   match h id with
   |some (.row (e::_) _)=>
    match i with
    |0=>rC ag n e o
    |_+1=>none
   |_=>none
  |false=>none
 |_=>none
def sC (e:D)(o:Nat)(vs:List D):Option D:=
 match e with
 |.agg cs=>
  match Nat.ble (o+vs.length) cs.length with
  |true=>some (.agg (cs.take o++vs++cs.drop (o+vs.length)))
  |false=>none
 |_=>match o,vs with
  |0,[v]=>some v
  |_,_=>none
def DA (b:Bool)(c:ab)(d:Frz)(h:ab)(n:Nat)(a v:D):Option ab:=
 match b,a with
 |true,.ptr id i o=>
  match Nat.beq v.cells.length n&&v.sto with
  |true=>
   match c id with
   |some (.row (e::es) esz)=>
    match d id,i with
    |0,0=>
     match sC e o v.cells with
     |some e'=>fA e' fun e'=>some (upd h id (some (.row (e'::es) esz)))
     |none=>none
    |_,_=>none
   |_=>none
  |false=>none
 |_,_=>none
def dint (op:BinOp)(k:IntKind)(x y:Int):Option D:=
 match op with
 |.add=>some (.int k (k.wrap (x+y)))
 |.sub=>some (.int k (k.wrap (x-y)))
 |.mul=>some (.int k (k.wrap (x*y)))
 |.and=>some (.int k (k.wrap (BitVec.ofInt k.bits x&&&BitVec.ofInt k.bits y).toNat))
 |.or=>some (.int k (k.wrap (BitVec.ofInt k.bits x|||BitVec.ofInt k.bits y).toNat))
 |.xor=>some (.int k (k.wrap (BitVec.ofInt k.bits x^^^BitVec.ofInt k.bits y).toNat))
 |.andNot=>some (.int k (k.wrap (BitVec.ofInt k.bits x&&& ~~~BitVec.ofInt k.bits y).toNat))
 |.eql=>some (.bool (eqb x y))
 |.neq=>some (.bool (nqb x y))
 |.lss=>some (.bool (ltb x y))
 |.leq=>some (.bool (leb x y))
 |.gtr=>some (.bool (ltb y x))
 |.geq=>some (.bool (leb y x))
 |_=>none
def dbin (op:BinOp)(e:EqK)(x y:D):Option D:=
 match x,y with
 |.int k a,.int c b=>
  match decide (k=c)with
  |true=>dint op k a b
  |false=>none
 |.str a,.str b=>
  match op with
  |.eql=>some (.bool (a.toList==b.toList))
  |.neq=>some (.bool !(a.toList==b.toList))
  |_=>none
 |x,y=>
  match op with
  |.eql=>(lf e x y).map .bool
  |.neq=>(lf e x y).map fun b=> .bool !b
  |_=>none
def dun (op:UnOp)(x:D):Option D:=
 match op,x with
 |.neg,.int k n=>some (.int k (k.wrap (0-n)))
 |.not,.bool b=>some (.bool !b)
 |_,_=>none
def Ce (k:CvK)(x:D):Option D:=
 match k,x with
 |.int k,.int _ n=>some (.int k (k.wrap n))
 |.float k,.int _ n=>some (.float k (k.nearest n))
 |.str,.str s=>some (.str s)
 |.bytes,.str s=>some (.str s)
 |_,_=>none
def dlen (k:LnK)(x:D):Option D:=
 match k with
 |.str=>match x with|.str s=>some (.int .i64 s.size) |_=>none
 |.arr n=>some (.int .i64 n)
 |.sl=>match x with|.nilsl=>some (.int .i64 0) |.lst l=>some (.int .i64 l.length) |.ref _ _ len=>some (.int .i64 len) |_=>none
 |.map=>none
def tU (t:ai)(a:List D):List (Nat×Nat×X)->Option (List D)
 |[]=>some a
 |(off,size,x)::rest=>
  match Nat.beq (x.ev t).cells.length size&&Nat.ble (off+size) a.length&&(x.ev t).sto with
  |true=>fL0 (a.take off++(x.ev t).cells++a.drop (off+size)) fun a=>tU t a rest
  |false=>none
def uC (t:ai)(size:Nat)(es:List D):List (Nat×X)->Option (List D)
 |[]=>some es
 |(i,x)::rest=>
  match Nat.beq (x.ev t).cells.length size&&Nat.blt i es.length&&(x.ev t).sto with
  |true=>fL1 (es.set i (x.ev t)) fun es=>uC t size es rest
  |false=>none
def dmm2 (c:Bool)(x y:D):Option D:=
 match x,y with
 |.int k a,.int d b=>
  match decide (k=d)with
  |true=>
   match c with
   |true=>some (.int k (max a b))
   |false=>some (.int k (min a b))
  |false=>none
 |_,_=>none
def dmm (a:Bool):D->List D->Option D
 |x,[]=>some x
 |x,y::rest=>
  match dmm2 a x y with
  |some x=>dmm a x rest
  |none=>none
def sS (l:List D)(i:Nat):Option D:=
 match l,i with
 |[],_=>none
 |x::_,0=>some x
 |_::a,i+1=>sS a i
def JY (d:D)(i:Nat):Option D:=
 match d with
 |.tup l=>sS l i
 |_=>none
def d1 (o:Option D)(h:ab)(z:Frz):Option (D×ab×Frz):=
 match o with
 |some v=>some (v,h,z)
 |none=>none
def dop (o:KOp)(t:ai)(g:ab)(j:Frz)(h:ab)(z:Frz)(id:Nat):Option (D×ab×Frz):=
 match o with
 |.mov x=>some (x.ev t,h,z)
 |.new n d=>some (.ptr id 0 0,upd h id (some (.row [d] n)),upd z id 0)
 |.box n x=>fA (x.ev t) fun d=>
  match Nat.beq d.cells.length n&&Nat.blt 0 n&&d.sto with
  |true=>some (.ptr id 0 0,upd h id (some (.row [d] n)),upd z id 0)
  |false=>none
 |.build cells parts=>match tU t cells parts with|some l=>some (.agg l,h,z) |none=>none
 |.buildSlice n len es parts=>match uC t n es parts with|some l=>fL1 l fun l=>some (.ref id 0 len,upd h id (some (.row l n)),upd z id 0) |none=>none
 |.load c ag n a=>d1 (vu c g ag n (a.ev t)) h z
 |.store c n a v=>match DA c g j h n (a.ev t) (v.ev t)with|some h=>some (.tup [],h,z) |none=>none
 |.nilCheck x=>
  match x.ev t with
  |.ptr a b e=>some (.ptr a b e,h,z)
  |.pl e o=>some (.pl e o,h,z)
  |_=>none
 |.bin op e x y=>d1 (dbin op e (x.ev t) (y.ev t)) h z
 |.un op x=>d1 (dun op (x.ev t)) h z
 |.conv k x=>d1 (Ce k (x.ev t)) h z
 |.mkfn f a e=>some (.fn f (a.map (·.ev t)) (e.map (·.ev t)),h,z)
 |.mkmap=>some (.mref id,upd h id (some (.mp [] [])),upd z id 0)
 |.off n x=>d1 (lA (x.ev t) n) h z
 |.extract x i=>d1 (JY (x.ev t) i) h z
 |.len k x=>d1 (dlen k (x.ev t)) h z
 |.cap0 x=>match x.ev t with|.nilsl=>some (.int .i64 0,h,z) |_=>none
 |.mm m args=>
  match args with
  |[]=>none
  |x::rest=>d1 (dmm m (x.ev t) (rest.map (·.ev t))) h z
 |_=>none
inductive Fr where
 |ops (base:Nat) (res:List Nat) (l:List KOper)
 |code (k:K)
 |blk (id:Nat)
structure Cf where
 stk:List Fr
 ex:Ex
 t:ai
 h:ab
 z:Frz
 nx:Nat
def bW (nx0:Nat):Nat->List Fr->Ex->ai->ab->Frz->Nat->Cf
 |0,q,r,t,h,z,nx=>⟨q,r,t,h,z,nx⟩
 |n+1,q,r,t,h,z,nx=>
  match q with
  |[]=>⟨[],r,t,h,z,nx⟩
  |f::s=>
   match r with
   |.ret=>bW nx0 n s .ret t h z nx
   |.exit i=>
    match f with
    |.blk id=>
     match Nat.beq i id with
     |true=>bW nx0 n s .normal t h z nx
     |false=>bW nx0 n s (.exit i) t h z nx
    |_=>bW nx0 n s (.exit i) t h z nx
   |.normal=>
    match f with
    |.blk _=>bW nx0 n s .normal t h z nx
    |.code k=>
     match k with
     |.skip=>bW nx0 n s .normal t h z nx
     |.seq a b=>bW nx0 n (.code a::.code b::s) .normal t h z nx
     |.block id c=>bW nx0 n (.code c::.blk id::s) .normal t h z nx
     |.exit i=>bW nx0 n s (.exit i) t h z nx
     |.ret=>bW nx0 n s .ret t h z nx
     |.ops off m l=>
      match Nat.ble nx (nx0+off)with
      |true=>bW nx0 n (.ops (nx0+off) [] l::s) .normal t h z (nx0+off+m)
      |false=>⟨.code (.ops off m l)::s,.normal,t,h,z,nx⟩
     |.cond c a b=>⟨.code (.cond c a b)::s,.normal,t,h,z,nx⟩
     |.loop live c=>⟨.code (.loop live c)::s,.normal,t,h,z,nx⟩
     |.ploop u live c=>⟨.code (.ploop u live c)::s,.normal,t,h,z,nx⟩
     |.dops m l=>bW nx0 n (.ops nx [] l::s) .normal t h z (nx+m)
     |.dloop c=>⟨.code (.dloop c)::s,.normal,t,h,z,nx⟩
    |.ops base e l=>
     match l with
     |[]=>bW nx0 n s .normal t h z nx
     |o::rest=>
      match o with
      |⟨i,j,guard,g,op⟩=>
       match guard with
       |some (d,p)=>
        match e.any (Nat.beq d)with
        |false=>
         match t d with
         |.tup _=>
          match j with
          |some x=>bW nx0 n (.ops base e rest::s) .normal (upd t x (.tup [])) h z nx
          |none=>bW nx0 n (.ops base e rest::s) .normal t h z nx
         |_=>⟨.ops base e (⟨i,j,some (d,p),g,op⟩::rest)::s,.normal,t,h,z,nx⟩
        |true=>
         match t d with
         |.bool true=>
          match p with
          |true=>bW nx0 n (.ops base e (⟨i,j,none,g,op⟩::rest)::s) .normal t h z nx
          |false=>
           match j with
           |some x=>bW nx0 n (.ops base e rest::s) .normal (upd t x (.tup [])) h z nx
           |none=>bW nx0 n (.ops base e rest::s) .normal t h z nx
         |.bool false=>
          match p with
          |false=>bW nx0 n (.ops base e (⟨i,j,none,g,op⟩::rest)::s) .normal t h z nx
          |true=>
           match j with
           |some x=>bW nx0 n (.ops base e rest::s) .normal (upd t x (.tup [])) h z nx
           |none=>bW nx0 n (.ops base e rest::s) .normal t h z nx
         |_=>⟨.ops base e (⟨i,j,some (d,p),g,op⟩::rest)::s,.normal,t,h,z,nx⟩
       |none=>
        match op with
        |.pick c a b=>
         match c with
         |.t d=>
          match e.any (Nat.beq d)with
          |true=>
           match t d with
           |.bool true=>bW nx0 n (.ops base e (⟨i,j,none,g,.mov a⟩::rest)::s) .normal t h z nx
           |.bool false=>bW nx0 n (.ops base e (⟨i,j,none,g,.mov b⟩::rest)::s) .normal t h z nx
           |_=>⟨.ops base e (⟨i,j,none,g,.pick (.t d) a b⟩::rest)::s,.normal,t,h,z,nx⟩
          |false=>⟨.ops base e (⟨i,j,none,g,.pick (.t d) a b⟩::rest)::s,.normal,t,h,z,nx⟩
         |.c d=>⟨.ops base e (⟨i,j,none,g,.pick (.c d) a b⟩::rest)::s,.normal,t,h,z,nx⟩
        |op=>
         match dop op t (g.h base h) (g.z base z) h z (base+i)with
         |some (v,h,z)=>
          match j with
          |some x=>f2 v fun v=>bW nx0 n (.ops base e rest::s) .normal (upd t x v) h z nx
          |none=>bW nx0 n (.ops base e rest::s) .normal t h z nx
         |none=>⟨.ops base e (⟨i,j,none,g,op⟩::rest)::s,.normal,t,h,z,nx⟩
def wpM (T:Tab)(sh:Shr)(nx0:Nat):List Fr->Ex->Wp
 |[],a,t,h,z,nx,q=>q a t h z nx
 |f::s,a,t,h,z,nx,q=>
  match a with
  |.ret=>wpM T sh nx0 s .ret t h z nx q
  |.exit i=>
   match f with
   |.blk id=>
    match Nat.beq i id with
    |true=>wpM T sh nx0 s .normal t h z nx q
    |false=>wpM T sh nx0 s (.exit i) t h z nx q
   |_=>wpM T sh nx0 s (.exit i) t h z nx q
  |.normal=>
   match f with
   |.blk _=>wpM T sh nx0 s .normal t h z nx q
   |.code k=>wp T sh nx0 k t h z nx fun a t h z nx=>wpM T sh nx0 s a t h z nx q
   |.ops base _ l=>wpo T sh base l t h z nx fun t h z nx=>wpM T sh nx0 s .normal t h z nx q
section
variable {T:Tab}{sh:Shr}{nx0:Nat}
theorem nD {α:Type}:∀{l:List α} {i:Nat} {x:α} {k:α->Prop},l[i]?=some x->k x->ka l i k:=by
 intro l
 induction l with
 |nil=>simp
 |cons y l b=>
  intro i x k h a
  cases i with
  |zero=>simp at h;subst h;exact a
  |succ i=>exact b h a
theorem uF {α:Type}{o:Option α}{x:α}{k:α->Prop}(h:o=some x)(a:k x):wo o k:=by rw[h];exact a
theorem dC {p x:Prop}(h:p)(a:x):cJ p x:=by grind[cJ]
theorem BE {ag:Bool}{n:Nat}{e:D}{o:Nat}{d:D}{c:D->Prop}(h:rC ag n e o=some d)(a:c d):ot ag n e o c:=by
 grind[rC,ot,jy,nD]
theorem F7 {e:Bool}{h:ab}{ag:Bool}{n:Nat}{a d:D}{c:D->Prop}(b:vu e h ag n a=some d)(f:c d):oH h ag n a c:=by
 unfold vu at b;unfold oH;split at b
 grind[BE]
 .split at b
  .split at b
   .rename_i g;split at b
    .simp only[g];exact BE b f
    grind
   grind
  grind
 grind
theorem ND {e:D}{o:Nat}{vs:List D}{e':D}{c:D->Prop}(a:sC e o vs=some e')(b:c e'):th e o vs c:=by
 unfold sC at a;grind[th,ke]
theorem XA {b:Bool}{d:ab}{e:Frz}{h:ab}{n:Nat}{a v:D}{h':ab}{c:ab->Prop}(f:DA b d e h n a v=some h')(g:c h'):qu d e h n a v c:=by
 unfold DA at f;split at f
 grind[jy,qu,dC,kset,ND];grind
theorem R7 {op:BinOp}{k:IntKind}{x y:Int}{d:D}{c:D->Prop}(a:dint op k x y=some d)(b:c d):re op k x y c:=by
 cases op<;>simp only[dint,zV,reduceCtorEq]at a<;>(subst a;exact b)
theorem S9 {op:BinOp}{e:EqK}{x y d:D}{c:D->Prop}(a:dbin op e x y=some d)(g:c d):kr op e x y c:=by
 unfold dbin at a;unfold kr;split at a
 .split at a
  simp_all[R7];grind
 grind[uF,sX]
 .split at a
  .cases f:lf e x y with
   |none=>grind
   |some b=>
    grind[uF]
  .cases f:lf e x y with
   |none=>grind
   |some b=>
    grind[uF]
  grind
theorem R9 {op:UnOp}{x d:D}{c:D->Prop}(a:dun op x=some d)(b:c d):kun op x c:=by
 unfold dun at a;grind[kun]
theorem Vi {h:ab}{k:CvK}{x d:D}{c:D->Prop}(a:Ce k x=some d)(b:c d):me h k x c:=by
 unfold Ce at a;grind[me]
theorem Xm {h:ab}{k:LnK}{x d:D}{c:D->Prop}(a:dlen k x=some d)(b:c d):pz h k x c:=by
 unfold dlen at a;grind[pz]
theorem Yy {t:ai}:∀{parts:List (Nat×Nat×X)} {a l:List D} {c:List D->Prop},tU t a parts=some l->c l->p6 t a parts c:=by
 intro parts
 induction parts with
 |nil=>intro a l c b d;simp[tU]at b;subst b;exact d
 |cons p parts e=>
  grind[tU,p6,ke]
theorem Sf {t:ai}{size:Nat}:∀{parts:List (Nat×X)} {es l:List D} {c:List D->Prop},uC t size es parts=some l->c l->pL t size es parts c:=by
 intro parts
 induction parts with
 |nil=>intro a l c b d;simp[uC]at b;subst b;exact d
 |cons p parts e=>
  grind[uC,pL,il]
theorem U7 {b:Bool}:∀{l:List D} {x d:D} {c:D->Prop},dmm b x l=some d->c d->kmm b x l c:=by
 intro l
 induction l with
 |nil=>intro x d c a e;simp[dmm]at a;subst a;exact e
 |cons y l g=>
  intro x d c a e;simp only[dmm]at a;simp only[kmm];split at a
  .rename_i h f;unfold dmm2 at f;grind[kmm2]
  grind
theorem PQ:∀(l:List D) (i:Nat),sS l i=l[i]?:=by
 intro l
 induction l with
 |nil=>simp[sS]
 |cons x l a=>
  intro i
  cases i with
  |zero=>rfl
  |succ i=>grind[sS]
theorem U3 {o:KOp}{t:ai}{b:ab}{d:Frz}{h:ab}{z:Frz}{nx id:Nat}{v:D}{h':ab}{z':Frz}{c:D->ab->Frz->Nat->Prop}(e:dop o t b d h z id=some (v,h',z'))(g:c v h' z' nx):
 kop T sh o t b d h z nx id c:=by
 have one:∀{o:Option D},d1 o h z=some (v,h',z')->o=some v/\h'=h/\z'=z:=by
  intro o f;unfold d1 at f;grind
 cases o<;>simp only[dop,reduceCtorEq]at e<;>simp only[kop];grind;grind;grind[jy];grind[Yy];grind[il,Sf];grind[F7]
 case store hint n a v'=>
  grind[XA]
 grind;grind[S9];grind[R9]
 case conv k x=>grind[Vi]
 grind;grind;grind[uF]
 case extract x i=>
  obtain⟨h1,rfl,rfl⟩:=one e;unfold JY at h1;grind[DS,PQ,nD]
 grind[Xm];grind;grind[U7]
theorem wp_mono:∀(k:K) {t:ai} {h:ab} {z:Frz} {nx:Nat} {q a:Ex->ai->ab->Frz->Nat->Prop},(∀b t h z nx,q b t h z nx=a b t h z nx)->wp T sh nx0 k t h z nx q=wp T sh nx0 k t h z nx a:=by
 intro k t h z nx q a c;have:q=a:=by grind
 grind
theorem Kh:∀(n:Nat) (r:List Fr) (u:Ex) (t:ai) (h:ab) (z:Frz) (nx:Nat) (q:Ex->ai->ab->Frz->Nat->Prop) (m:Cf),bW nx0 n r u t h z nx=m->
 wpM T sh nx0 m.stk m.ex m.t m.h m.z m.nx q->wpM T sh nx0 r u t h z nx q:=by
 intro n
 induction n with
 |zero=>simp[bW]
 |succ n a=>
  intro r u t h z nx q m hr c;simp only[bW]at hr
  have A:∀{p:List Fr},(⟨p,u,t,h,z,nx⟩:Cf)=m->wpM T sh nx0 p u t h z nx q:=by
   grind
  split at hr
  grind
  .rename_i f s;split at hr
   grind[wpM];grind[wpM]
   .split at hr
    grind[wpM]
    .rename_i k;split at hr
     grind[wpM,wp];grind[wpM,wp,wp_mono]
     .have:=a _ _ _ _ _ _ _ _ hr c;simp only[wpM,wp]at this⊢;grind
     grind[wpM,wp];grind[wpM,wp];grind[wpM,wp];grind;grind;grind;grind[wpM,wp];grind
    rename_i base w l;split at hr
    grind[wpM,wpo]
    .rename_i o rest;obtain⟨i,x,guard,g,op⟩:=o;simp at hr;split at hr
     .rename_i d e
      have skip:(∃b,t d=.bool b/\b≠e)\/(∃l,t d=.tup l)->wpM T sh nx0 (.ops base w rest::s) .normal (put t x (.tup [])) h z nx q->wpM T sh nx0 (.ops base w (⟨i,x,some (d,e),g,op⟩::rest)::s) .normal t h z nx q:=by
       intro D B;simp only[wpM,wpo]at B⊢;rcases D with⟨b,j,y⟩ |⟨l,C⟩
       .rw[j];cases e<;>cases b<;>first|(exact absurd rfl y) |exact B
       grind
      split at hr
      .split at hr
       .rename_i l C;refine skip (.inr ⟨_,C⟩) ?_;split at hr
        .exact a _ _ _ _ _ _ _ _ hr c
        exact a _ _ _ _ _ _ _ _ hr c
       grind
      split at hr
      .rename_i j;split at hr
       .have:=a _ _ _ _ _ _ _ _ hr c;simp only[wpM,wpo,j]at this⊢
        trivial
       refine skip (.inl ⟨true,j,by simp⟩) ?_;split at hr
       .exact a _ _ _ _ _ _ _ _ hr c
       exact a _ _ _ _ _ _ _ _ hr c
      .rename_i j;split at hr
       .have:=a _ _ _ _ _ _ _ _ hr c;simp only[wpM,wpo,j]at this⊢
        trivial
       refine skip (.inl ⟨false,j,by simp⟩) ?_;split at hr
       .exact a _ _ _ _ _ _ _ _ hr c
       exact a _ _ _ _ _ _ _ _ hr c
      grind
     split at hr
     .split at hr
      .split at hr
       .split at hr
        .rename_i j;have:=a _ _ _ _ _ _ _ _ hr c;simp only[wpM,wpo,kop,X.ev,j]at this⊢
         trivial
        .rename_i j;have:=a _ _ _ _ _ _ _ _ hr c;simp only[wpM,wpo,kop,X.ev,j]at this⊢
         trivial
        grind
       grind
      grind
     split at hr
     .rename_i v h' z' E;simp only[wpM,wpo];refine U3 E ?_;split at hr
      .rw[iu]at hr;have:=a _ _ _ _ _ _ _ _ hr c
       trivial
      have:=a _ _ _ _ _ _ _ _ hr c
      trivial
     grind
end
end Go.F
