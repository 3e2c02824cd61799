/- Part 21. -/
import Derived.Test.YtglbdppmnchoeaaGreatZ20
set_option linter.all false
namespace Go.F
inductive X where
 |t (i:Nat)
 |c (d:D)
def X.ev (t:ai):X->D
 |.t i=>t i
 |.c d=>d
inductive Gd where
 |all
 |init (a:Nat)
 |bef (m n:Nat)
 |hide
 |at(d:Nat)
 |but (l:List Nat) (m n:Nat)
def Gd.ok (g:Gd)(base id:Nat):Bool:=
 match g with
 |.all=>true
 |.init a=>Nat.beq id (base+a)
 |.bef m n=>Nat.blt id base||(m.testBit (id-base) ||Nat.ble (base+n) id)
 |.hide=>false
 |.at d=>Nat.beq (id+d+1) base
 |.but l m n=>(Nat.blt id base||(m.testBit (id-base) ||Nat.ble (base+n) id))&&l.all fun d=>!Nat.beq (id+d+1) base
def Gd.h (g:Gd)(base:Nat)(h:ab):ab:=
 match g with
 |.all=>h
 |.init a=>fun id=>cond (Gd.ok (.init a) base id) (h id) none
 |.bef m n=>fun id=>cond (Gd.ok (.bef m n) base id) (h id) none
 |.hide=>fun _=>none
 |.at d=>fun id=>cond (Gd.ok (.at d) base id) (h id) none
 |.but l m n=>fun id=>cond (Gd.ok (.but l m n) base id) (h id) none
def Gd.z (g:Gd)(base:Nat)(z:Frz):Frz:=
 match g with
 |.all=>z
 |.init a=>fun id=>cond (Gd.ok (.init a) base id) (z id) 0
 |.bef m n=>fun id=>cond (Gd.ok (.bef m n) base id) (z id) 0
 |.hide=>fun _=>0
 |.at d=>fun id=>cond (Gd.ok (.at d) base id) (z id) 0
 |.but l m n=>fun id=>cond (Gd.ok (.but l m n) base id) (z id) 0
inductive FK where
 |bool
 |int
 |str
inductive EqK where
 |no
 |nil
 |bool
 |flat (ks:List FK)
 |mnil
 |str
inductive CvK where
 |no
 |int (k:IntKind)
 |float (k:FloatKind)
 |str
 |bytes
inductive ApK where
 |room
 |str
 |sl
inductive LnK where
 |str
 |arr (n:Nat)
 |sl
 |map
structure El where
 n:Nat
 b:Nat
 d:D
inductive KOp where
 |mov (x:X)
 |pick (c a b:X)
 |new (n:Nat) (d:D)
 |box (n:Nat) (x:X)
 |build (cells:List D) (parts:List (Nat×Nat×X))
 |buildSlice (n:Nat) (len:Nat) (es:List D) (parts:List (Nat×X))
 |load (hint ag:Bool) (n:Nat) (a:X)
 |store (hint:Bool) (n:Nat) (a v:X)
 |nilCheck (x:X)
 |bin (op:BinOp) (e:EqK) (x y:X)
 |un (op:UnOp) (x:X)
 |conv (k:CvK) (x:X)
 |mkfn (f:FuncId) (a c:List X)
 |mkmap
 |mkslice (e:El) (l c:X)
 |slstr (x:X) (lo hi mx:Option X)
 |slsl (n:Nat) (x:X) (lo hi mx:Option X)
 |slarr (n:Nat) (ag:Bool) (k:Nat) (x:X)
 |off (n:Nat) (x:X)
 |ixs (n:Nat) (x ix:X)
 |ixa (len n:Nat) (x ix:X)
 |ia (len:Nat) (ag:Bool) (n:Nat) (x ix:X)
 |istr (x ix:X)
 |lookup (e:EqK) (z:D) (x k:X) (ok:Bool)
 |mapset (e:EqK) (m k v:X)
 |extract (x:X) (i:Nat)
 |callF (f:FuncId) (args:List X)
 |callV (f:X) (args:List X)
 |callW (f:X) (args:List X)
 |append (e:El) (k:ApK) (s x:X)
 |copy (n:Nat) (s x:X)
 |clear (e:El) (s:X)
 |len (k:LnK) (x:X)
 |cap0 (x:X)
 |mm (mx:Bool) (args:List X)
 |stuck
structure KOper where
 i:Nat
 dst:Option Nat
 guard:Option (Nat×Bool)
 g:Gd
 op:KOp
inductive K where
 |skip
 |ops (off n:Nat) (l:List KOper)
 |seq (a b:K)
 |cond (c:X) (a b:K)
 |block (id:Nat) (c:K)
 |loop (live:Live) (c:K)
 |ploop (pn:Nat) (live:Live) (c:K)
 |dops (n:Nat) (l:List KOper)
 |dloop (c:K)
 |exit (id:Nat)
 |ret
inductive KRes where
 |t (i:Nat)
 |cell (a:Nat) (ag:Bool) (n:Nat)
structure KFn where
 code:K
 res:List KRes
 em:Bool
 gv:List Nat
 hr:List Nat
universe u
def f0 {α:Sort u}(d:D)(k:D->α):α:=
 match d with
 |.bool b=>k (.bool b)
 |.int i n=>k (.int i n)
 |.float i n=>k (.float i n)
 |.str s=>k (.str s)
 |.nilsl=>k .nilsl
 |.lst l=>k (.lst l)
 |.ref a b c=>k (.ref a b c)
 |.pl e o=>k (.pl e o)
 |.ptr a b c=>k (.ptr a b c)
 |.agg l=>k (.agg l)
 |.tup l=>k (.tup l)
 |.fn f a c=>k (.fn f a c)
 |.mref i=>k (.mref i)
 |.mlst a b=>k (.mlst a b)
 |.opq v=>k (.opq v)
 |.bad=>k .bad
def fL0 {α:Sort u}:List D->(List D->α)->α
 |[],k=>k []
 |x::a,k=>f0 x fun x=>fL0 a fun a=>k (x::a)
def fA {α:Sort u}(d:D)(k:D->α):α:=
 f0 d fun d=>match d with
  |.agg l=>fL0 l fun l=>k (.agg l)
  |d=>k d
def f1 {α:Sort u}(d:D)(k:D->α):α:=
 f0 d fun d=>match d with
  |.agg l=>fL0 l fun l=>k (.agg l)
  |.pl e o=>fA e fun e=>k (.pl e o)
  |d=>k d
def fL1 {α:Sort u}:List D->(List D->α)->α
 |[],k=>k []
 |x::a,k=>f1 x fun x=>fL1 a fun a=>k (x::a)
def f2 {α:Sort u}(d:D)(k:D->α):α:=
 f0 d fun d=>match d with
  |.agg l=>fL0 l fun l=>k (.agg l)
  |.pl e o=>fA e fun e=>k (.pl e o)
  |.tup l=>fL1 l fun l=>k (.tup l)
  |d=>k d
def wb (b:Bool)(x y:Prop):Prop:=
 match b with
 |true=>x
 |false=>y
def wo {α:Type}(o:Option α)(k:α->Prop):Prop:=
 match o with
 |some x=>k x
 |none=>False
def cJ (p x:Prop):Prop:=p/\x
def wnat (n:Int)(k:Nat->Prop):Prop:=
 match n with
 |.ofNat i=>k i
 |.negSucc _=>False
def jY (d:D)(k:Nat->Prop):Prop:=
 match d with
 |.int _ n=>wnat n k
 |_=>False
def ka {α:Type}:List α->Nat->(α->Prop)->Prop
 |[],_,_=>False
 |x::_,0,k=>k x
 |_::a,i+1,k=>ka a i k
def r9 (n:Nat)(es:List D)(off len:Nat)(k:List D->Prop):Prop:=
 (off+len<=es.length/\((es.drop off).take len).all (fun d=>d.cells.length==n)=true)/\k ((es.drop off).take len)
def wall (n:Nat)(es:List D)(k:List D->Prop):Prop:=
 es.all (fun d=>d.cells.length==n)=true/\k es
def mh (n:Nat)(h:ab)(x:D)(k:List D->Prop):Prop:=
 match x with
 |.nilsl=>k []
 |.lst l=>wall n l k
 |.ref id off len=>
  match h id with
  |some (.row es _)=>r9 n es off len k
  |_=>False
 |_=>False
def ltb (x y:Int):Bool:=decide (x<y)
def leb (x y:Int):Bool:=decide (x<=y)
def eqb (x y:Int):Bool:=x==y
def nqb (x y:Int):Bool:=x !=y
def n8:FK->D->D->Option Bool
 |.bool,.bool a,.bool b=>some (a==b)
 |.int,.int i a,.int j b=>if i=j then some (eqb a b)else none
 |.str,.str a,.str b=>some (a==b)
 |_,_,_=>none
def nQ:List FK->List D->List D->Option Bool
 |[],[],[]=>some true
 |k::a,x::c,y::ys=>
  match n8 k x y,nQ a c ys with
  |some b,some r=>some (b&&r)
  |_,_=>none
 |_,_,_=>none
def lf (e:EqK)(x y:D):Option Bool:=
 match e,x,y with
 |.bool,.bool a,.bool b=>some (a==b)
 |.flat c,.agg d,.agg ys=>nQ c d ys
 |.nil,x,_=>match pk x with|true=>some false|false=>none
 |.mnil,x,_=>nZ x
 |_,_,_=>none
def re (op:BinOp)(k:IntKind)(x y:Int)(c:D->Prop):Prop:=
 match op with
 |.add=>c (.int k (k.wrap (x+y)))
 |.sub=>c (.int k (k.wrap (x-y)))
 |.mul=>c (.int k (k.wrap (x*y)))
 |.quo=>cJ (y≠0) (c (.int k (k.wrap (x.tdiv y))))
 |.rem=>cJ (y≠0) (c (.int k (x.tmod y)))
 |.and=>c (.int k (k.wrap (BitVec.ofInt k.bits x&&&BitVec.ofInt k.bits y).toNat))
 |.or=>c (.int k (k.wrap (BitVec.ofInt k.bits x|||BitVec.ofInt k.bits y).toNat))
 |.xor=>c (.int k (k.wrap (BitVec.ofInt k.bits x^^^BitVec.ofInt k.bits y).toNat))
 |.andNot=>c (.int k (k.wrap (BitVec.ofInt k.bits x&&& ~~~BitVec.ofInt k.bits y).toNat))
 |.eql=>c (.bool (eqb x y))
 |.neq=>c (.bool (nqb x y))
 |.lss=>c (.bool (ltb x y))
 |.leq=>c (.bool (leb x y))
 |.gtr=>c (.bool (ltb y x))
 |.geq=>c (.bool (leb y x))
 |.shl=>cJ (0<=y) (c (.int k (k.wrap (x*2^min y.toNat k.bits))))
 |.shr=>cJ (0<=y) (c (.int k (x.fdiv (2^min y.toNat k.bits))))
def kr (op:BinOp)(e:EqK)(x y:D)(c:D->Prop):Prop:=
 match x,y with
 |.int k a,.int d b=>
  match jS op||decide (k=d)with
  |true=>re op k a b c
  |false=>False
 |.str a,.str b=>wo (sX op a b) c
 |x,y=>
  match op with
  |.eql=>wo (lf e x y) fun b=>c (.bool b)
  |.neq=>wo (lf e x y) fun b=>c (.bool !b)
  |_=>False
def kun (op:UnOp)(x:D)(c:D->Prop):Prop:=
 match op,x with
 |.neg,.int k n=>c (.int k (k.wrap (0-n)))
 |.not,.bool b=>c (.bool !b)
 |op,x=>wo (un op x) c
def me (h:ab)(k:CvK)(x:D)(c:D->Prop):Prop:=
 match k with
 |.no=>False
 |.int k=>
  match x with
  |.int _ n=>c (.int k (k.wrap n))
  |.float s b=>wo ((s.decode b).toInt .zero) fun n=>cJ (k.min<=n/\n<=k.max) (c (.int k n))
  |_=>False
 |.float k=>
  match x with
  |.int _ n=>c (.float k (k.nearest n))
  |_=>False
 |.str=>
  match x with
  |.str s=>c (.str s)
  |_=>False
 |.bytes=>
  match x with
  |.str s=>c (.str s)
  |x=>mh 1 h x fun l=>wo (mi l) fun a=>c (.str ⟨a.toArray⟩)
def ot (ag:Bool)(n:Nat)(e:D)(o:Nat)(c:D->Prop):Prop:=
 fA e fun e=>
  match ag with
  |true=>
   match Nat.ble (o+n) e.cells.length with
   |true=>c (.agg ((e.cells.drop o).take n))
   |false=>False
  |false=>ka e.cells o c
def oH (h:ab)(ag:Bool)(n:Nat)(a:D)(c:D->Prop):Prop:=
 match a with
 |.ptr id i o=>
  match h id with
  |some (.row es _)=>ka es i fun e=>ot ag n e o c
  |_=>False
 |.pl e o=>ot ag n e o c
 |_=>False
def th (e:D)(o:Nat)(vs:List D)(c:D->Prop):Prop:=
 match e with
 |.agg cs=>
  match Nat.ble (o+vs.length) cs.length with
  |true=>fL0 (cs.take o++vs++cs.drop (o+vs.length)) fun l=>c (.agg l)
  |false=>False
 |_=>match o,vs with
  |0,[v]=>c v
  |_,_=>False
def kset:List D->Nat->(D->(D->Prop)->Prop)->(List D->Prop)->Prop
 |[],_,_,_=>False
 |x::a,0,f,c=>f x fun y=>c (y::a)
 |x::a,i+1,f,c=>kset a i f fun ys=>c (x::ys)
def qu (b:ab)(d:Frz)(h:ab)(n:Nat)(a v:D)(c:ab->Prop):Prop:=
 match a with
 |.ptr id i o=>
  match Nat.beq v.cells.length n&&v.sto with
  |true=>
   match b id with
   |some (.row es esz)=>cJ (d id<=i) (kset es i (fun e k=>fA e fun e=>th e o v.cells k) fun es'=>c (upd h id (some (.row es' esz))))
   |_=>False
  |false=>False
 |_=>False
def kixs (h:ab)(n:Nat)(x a:D)(c:D->Prop):Prop:=
 match x with
 |.lst l=>jY a fun i=>ka l i fun d=>fA d fun d=>
   match Nat.beq d.cells.length n&&Nat.blt 0 n with
   |true=>c (.pl d 0)
   |false=>False
 |.ref id off len=>
  match h id with
  |some (.row _ esz)=>
   match Nat.beq esz n with
   |true=>jY a fun i=>cJ (i<len) (c (.ptr id (off+i) 0))
   |false=>False
  |_=>False
 |_=>False
def kixa (len n:Nat)(x a:D)(c:D->Prop):Prop:=
 jY a fun i=>cJ (i<len) (wo (lA x (i*n)) c)
def kia (len:Nat)(ag:Bool)(n:Nat)(x a:D)(c:D->Prop):Prop:=
 match x with
 |.agg cs=>jY a fun i=>cJ (i<len) (
   match ag with
   |true=>cJ (i*n+n<=cs.length) (c (.agg ((cs.drop (i*n)).take n)))
   |false=>ka cs (i*n) c)
 |_=>False
def Nf (x a:D)(c:D->Prop):Prop:=
 match x with
 |.str s=>jY a fun i=>ka s.toList i fun b=>c (.int .u8 b.toNat)
 |_=>False
def jT (t:ai)(x:Option X)(a:Nat)(k:Nat->Prop):Prop:=
 match x with
 |none=>k a
 |some x=>jY (x.ev t) k
def I4 (t:ai)(x:D)(lo hi a:Option X)(c:D->Prop):Prop:=
 match x,a with
 |.str s,none=>jT t lo 0 fun l=>jT t hi s.size fun r=>cJ (l<=r/\r<=s.size) (c (.str (s.extract l r)))
 |_,_=>False
def p3 (t:ai)(h:ab)(n:Nat)(x:D)(lo hi d:Option X)(c:D->Prop):Prop:=
 match d with
 |none=>
  match x with
  |.nilsl=>jT t lo 0 fun a=>jT t hi 0 fun b=>cJ (a=0/\b=0) (c .nilsl)
  |.lst l=>wall n l fun l=>jT t lo 0 fun a=>jT t hi l.length fun b=>cJ (a<=b/\b<=l.length) (c (.lst ((l.drop a).take (b-a))))
  |.ref id off len=>
   match h id with
   |some (.row _ esz)=>
    match Nat.beq esz n with
    |true=>jT t lo 0 fun a=>jT t hi len fun b=>cJ (a<=b/\b<=len) (wb (Nat.beq a 0) (c (.ref id off b)) (wb (Nat.beq a b) (c (.lst [])) (c (.ref id (off+a) (b-a)))))
    |false=>False
   |_=>False
  |_=>False
 |some m=>
  match hi with
  |none=>False
  |some hi=>
   jT t lo 0 fun a=>jY (hi.ev t) fun b=>jY (m.ev t) fun k=>cJ (a=0/\b=0/\k=0) (
    match x with
    |.nilsl=>c .nilsl
    |.lst l=>wall n l fun _=>c .nilsl
    |.ref id _ _=>
     match h id with
     |some (.row _ esz)=>match Nat.beq esz n with|true=>c .nilsl|false=>False
     |_=>False
    |_=>False)
def Ld (a:ab)(n:Nat)(ag:Bool)(k:Nat)(x:D)(z:Frz)(c:D->Frz->Prop):Prop:=
 match x with
 |.ptr id i o=>
  match a id with
  |some (.row es _)=>ka es i fun e=>fA e fun e=>
   match Nat.blt 0 k&&Nat.ble (o+n*k) e.cells.length&&(ag||Nat.beq k 1)&&e.cells.all D.scalar with
   |true=>fL1 (chunks k ag n (e.cells.drop o)) fun l=>c (.lst l) (upd z id es.length)
   |false=>False
  |_=>False
 |_=>False
def p6 (t:ai)(a:List D):List (Nat×Nat×X)->(List D->Prop)->Prop
 |[],c=>c a
 |(off,size,x)::rest,c=>
  match Nat.beq (x.ev t).cells.length size&&Nat.ble (off+size) a.length&&(x.ev t).sto with
  |true=>fL0 (a.take off++(x.ev t).cells++a.drop (off+size)) fun a=>p6 t a rest c
  |false=>False
def pL (t:ai)(size:Nat)(es:List D):List (Nat×X)->(List D->Prop)->Prop
 |[],c=>c es
 |(i,x)::rest,c=>
  match Nat.beq (x.ev t).cells.length size&&Nat.blt i es.length&&(x.ev t).sto with
  |true=>fL1 (es.set i (x.ev t)) fun es=>pL t size es rest c
  |false=>False
def kA (d:ab)(a:Frz)(h:ab)(z:Frz)(id:Nat)(e:El)(s:D)(new:List D)(c:D->ab->Frz->Prop):Prop:=
 match s with
 |.nilsl=>cJ (new.length*(e.b+1)<=aK) (c (.ref id 0 new.length) (upd h id (some (.row new e.n))) (upd z id 0))
 |.ref id0 0 len=>
  match d id0 with
  |some (.row es esz)=>
   match Nat.beq esz e.n with
   |true=>cJ (len<=es.length/\a id0<=len/\(len+new.length) *(e.b+1)<=aK) (c (.ref id 0 (len+new.length)) (upd (upd h id0 none) id (some (.row (es.take len++new) e.n))) (upd z id (a id0)))
   |false=>False
  |_=>False
 |_=>False
def rZ (a:ab)(f:Frz)(h:ab)(z:Frz)(id:Nat)(e:El)(k:ApK)(s x:D)(c:D->ab->Frz->Prop):Prop:=
 match k with
 |.room=>jY x fun n=>cJ (n<=aK) (kA a f h z id e s (List.replicate n e.d) c)
 |.str=>
  match x with
  |.str b=>wall e.n (b.toList.map fun c=> .int .u8 c.toNat) fun l=>kA a f h z id e s l c
  |_=>False
 |.sl=>mh e.n a x fun l=>kA a f h z id e s l c
def Bg (a:ab)(b:Frz)(h:ab)(n:Nat)(s src:D)(c:D->ab->Prop):Prop:=
 match s with
 |.ref id off len=>
  match a id with
  |some (.row es esz)=>
   match Nat.beq n esz with
   |true=>mh n a src fun l=>cJ (off+len<=es.length/\b id<=off)
     (c (.int .i64 (min l.length len:Nat)) (upd h id (some (.row (es.take off++l.take (min l.length len)++es.drop (off+min l.length len)) esz))))
   |false=>False
  |_=>False
 |_=>False
def D5 (a:ab)(b:Frz)(h:ab)(e:El)(s:D)(c:D->ab->Prop):Prop:=
 match s with
 |.ref id off len=>
  match a id with
  |some (.row es esz)=>
   match Nat.beq e.d.cells.length esz&&e.d.sto with
   |true=>cJ (off+len<=es.length/\b id<=off) (c (.tup []) (upd h id (some (.row (es.take off++List.replicate len e.d++es.drop (off+len)) esz))))
   |false=>False
  |_=>False
 |.nilsl=>c (.tup []) h
 |.lst l=>cJ (l=[]) (c (.tup []) h)
 |_=>False
def pz (h:ab)(k:LnK)(x:D)(c:D->Prop):Prop:=
 match k with
 |.str=>match x with|.str s=>c (.int .i64 s.size) |_=>False
 |.arr n=>c (.int .i64 n)
 |.sl=>match x with|.nilsl=>c (.int .i64 0) |.lst l=>c (.int .i64 l.length) |.ref _ _ len=>c (.int .i64 len) |_=>False
 |.map=>match x with
  |.mlst a _=>c (.int .i64 a.length)
  |.mref id=>match h id with|some (.mp a _)=>c (.int .i64 a.length) |_=>False
  |_=>False
def mq (e:EqK)(k x:D):Option Bool:=
 match k,x with
 |.str a,.str b=>match e with|.str=>some (a==b) |_=>none
 |.agg a,.agg b=>match e with|.flat c=>nQ c a b|_=>none
 |_,_=>none
def AM (e:EqK)(k:D):Bool:=
 match e,k with
 |.str,.str _=>true
 |.flat a,.agg l=>l.all D.scalar&&Nat.beq a.length l.length
 |_,_=>false
def iD (e:EqK)(k:D):List D->Nat->Option (Option Nat)
 |[],_=>some none
 |x::a,i=>
  match mq e k x with
  |some true=>some (some i)
  |some false=>iD e k a (i+1)
  |none=>none
def kf (e:EqK)(s:D)(a:List D)(k:Option Nat->Prop):Prop:=AM e s=true/\∃o,iD e s a 0=some o/\k o
def qs (e:EqK)(z:D)(a:List D)(vs:List D)(k:D)(ok:Bool)(c:D->Prop):Prop:=
 kf e k a fun o=>
  match o with
  |some i=>ka vs i fun v=>c (match ok with|true=> .tup [v,.bool true] |false=>v)
  |none=>c (match ok with|true=> .tup [z,.bool false] |false=>z)
def r7 (e:EqK)(h:ab)(z:D)(m k:D)(ok:Bool)(c:D->Prop):Prop:=
 match m with
 |.mlst a vs=>qs e z a vs k ok c
 |.mref id=>match h id with
  |some (.mp a vs)=>qs e z a vs k ok c
  |_=>False
 |_=>False
def qJ (e:EqK)(b:ab)(d:Frz)(h:ab)(m k v:D)(c:ab->Prop):Prop:=
 match m with
 |.mref id=>
  match b id,d id with
  |some (.mp a vs),0=>kf e k a fun o=>
   match o with
   |some i=>c (upd h id (some (.mp a (vs.set i v))))
   |none=>c (upd h id (some (.mp (a++[k]) (vs++[v]))))
  |_,_=>False
 |_=>False
def DS (d:D)(i:Nat)(c:D->Prop):Prop:=
 match d with
 |.tup l=>ka l i c
 |_=>False
def kM (h:ab)(es:List D)(off len:Nat)(k:List D->Prop):Prop:=∃l,off+len<=es.length/\((es.drop off).take len).mapM (aG h 8)=some l/\k l
def EK (h:ab)(vs:List D)(k:List D->Prop):Prop:=∃l,vs.mapM (aG h 8)=some l/\k l
def wptr (h:ab)(id i o:Nat)(k:D->Prop):Prop:=∃a,aG h 8 (.ptr id i o)=some a/\k a
def ws0 (h:ab)(d:D)(k:D->Prop):Prop:=
 match d with
 |.bool b=>k (.bool b)
 |.int i n=>k (.int i n)
 |.float i n=>k (.float i n)
 |.str s=>k (.str s)
 |.nilsl=>k (.lst [])
 |.lst l=>k (.lst l)
 |.ref id off len=>
  match h id with
  |some (.row es _)=>kM h es off len fun l=>k (.lst l)
  |_=>False
 |.mlst a b=>k (.mlst a b)
 |.mref id=>
  match h id with
  |some (.mp g vs)=>EK h vs fun l=>k (.mlst g l)
  |_=>False
 |.pl e o=>k (.pl e o)
 |.ptr id i o=>wptr h id i o k
 |.opq v=>k (.opq v)
 |.fn f a c=>match a,c with|[],[]=>k (.fn f [] []) |_,_=>False
 |_=>False
def lE (h:ab):List D->(List D->Prop)->Prop
 |[],k=>k []
 |x::a,k=>ws0 h x fun x=>lE h a fun a=>k (x::a)
def ws1 (h:ab)(d:D)(k:D->Prop):Prop:=
 match d with
 |.agg l=>lE h l fun l=>k (.agg l)
 |.fn f a c=>lE h a fun a=>lE h c fun c=>k (.fn f a c)
 |d=>ws0 h d k
def iA (h:ab):List D->(List D->Prop)->Prop
 |[],k=>k []
 |x::a,k=>ws1 h x fun x=>iA h a fun a=>k (x::a)
def ws2 (h:ab)(d:D)(k:D->Prop):Prop:=
 match d with
 |.tup l=>iA h l fun l=>k (.tup l)
 |d=>ws1 h d k
abbrev Shr:=FuncId->List D->ab->Frz->Nat->(D->ab->Frz->Nat->Prop)->Prop
structure Tab where
 pu:Pure
 shared:FuncId->Bool
 tab:FuncId->Option KFn
def mf (a:Pure)(f:FuncId)(args:List D)(k:D->Prop):Prop:=∃r,a f args=some r/\k r
def eQ (T:Tab)(sh:Shr)(a:ab)(h:ab)(z:Frz)(nx:Nat)(f:FuncId)(args:List D)(c:D->ab->Frz->Nat->Prop):Prop:=
 match T.shared f with
 |true=>sh f args h z nx c
 |false=>iA a args fun b=>mf T.pu f b fun r=>f2 r fun r=>
  match noRef 4 r with
  |true=>c r h z nx
  |false=>
   match args.flatMap (aN a depth)with
   |[]=>c r h z nx
   |i::l=>c r h (nl a z (i::l)) nx
def kmm2 (d:Bool)(x y:D)(c:D->Prop):Prop:=
 match x,y with
 |.int k a,.int e b=>
  match decide (k=e)with
  |true=>
   match d with
   |true=>c (.int k (max a b))
   |false=>c (.int k (min a b))
  |false=>False
 |_,_=>False
def kmm (a:Bool):D->List D->(D->Prop)->Prop
 |x,[],c=>c x
 |x,y::rest,c=>kmm2 a x y fun x=>kmm a x rest c
def kop (T:Tab)(sh:Shr)(o:KOp)(t:ai)(g:ab)(p:Frz)(h:ab)(z:Frz)(nx id:Nat)(c:D->ab->Frz->Nat->Prop):Prop:=
 match o with
 |.mov x=>c (x.ev t) h z nx
 |.pick x a b=>
  match x.ev t with
  |.bool d=>wb d (c (a.ev t) h z nx) (c (b.ev t) h z nx)
  |_=>False
 |.new n d=>c (.ptr id 0 0) (upd h id (some (.row [d] n))) (upd z id 0) nx
 |.box n x=>fA (x.ev t) fun d=>
  match Nat.beq d.cells.length n&&Nat.blt 0 n&&d.sto with
  |true=>c (.ptr id 0 0) (upd h id (some (.row [d] n))) (upd z id 0) nx
  |false=>False
 |.build cells parts=>p6 t cells parts fun l=>c (.agg l) h z nx
 |.buildSlice n len es parts=>pL t n es parts fun l=>c (.ref id 0 len) (upd h id (some (.row l n))) (upd z id 0) nx
 |.load _ ag n a=>oH g ag n (a.ev t) fun d=>c d h z nx
 |.store _ n a v=>qu g p h n (a.ev t) (v.ev t) fun h=>c (.tup []) h z nx
 |.nilCheck x=>
  match x.ev t with
  |.ptr a b e=>c (.ptr a b e) h z nx
  |.pl e o=>c (.pl e o) h z nx
  |_=>False
 |.bin op e x y=>kr op e (x.ev t) (y.ev t) fun d=>c d h z nx
 |.un op x=>kun op (x.ev t) fun d=>c d h z nx
 |.conv k x=>me g k (x.ev t) fun d=>c d h z nx
 |.mkfn f a e=>c (.fn f (a.map (·.ev t)) (e.map (·.ev t))) h z nx
 |.mkmap=>c (.mref id) (upd h id (some (.mp [] []))) (upd z id 0) nx
 |.mkslice e l k=>
  match l.ev t,k.ev t with
  |.int .i64 l,.int .i64 k=>wnat l fun l=>cJ ((l:Int)<=k/\k*(e.b+1)<=aK) (c (.ref id 0 l) (upd h id (some (.row (List.replicate l e.d) e.n))) (upd z id 0) nx)
  |_,_=>False
 |.slstr x lo hi q=>I4 t (x.ev t) lo hi q fun d=>c d h z nx
 |.slsl n x lo hi q=>p3 t g n (x.ev t) lo hi q fun d=>c d h z nx
 |.slarr n ag k x=>Ld g n ag k (x.ev t) z fun d z=>c d h z nx
 |.off n x=>wo (lA (x.ev t) n) fun d=>c d h z nx
 |.ixs n x j=>kixs g n (x.ev t) (j.ev t) fun d=>c d h z nx
 |.ixa len n x j=>kixa len n (x.ev t) (j.ev t) fun d=>c d h z nx
 |.ia len ag n x j=>kia len ag n (x.ev t) (j.ev t) fun d=>c d h z nx
 |.istr x j=>Nf (x.ev t) (j.ev t) fun d=>c d h z nx
 |.lookup e d x k ok=>r7 e g d (x.ev t) (k.ev t) ok fun d=>c d h z nx
 |.mapset e m k v=>qJ e g p h (m.ev t) (k.ev t) (v.ev t) fun h=>c (.tup []) h z nx
 |.extract x i=>DS (x.ev t) i fun d=>c d h z nx
 |.callF f args=>eQ T sh g h z nx f (args.map (·.ev t)) c
 |.callV f args=>
  match f.ev t with
  |.fn f a e=>
   match T.shared f with
   |false=>eQ T sh g h z nx f (a++args.map (·.ev t)++e) c
   |true=>False
  |_=>False
 |.callW f args=>
  match f.ev t with
  |.fn f a e=>eQ T sh g h z nx f (a++args.map (·.ev t)++e) c
  |_=>False
 |.append e k s x=>rZ g p h z id e k (s.ev t) (x.ev t) fun d h z=>c d h z nx
 |.copy n s x=>Bg g p h n (s.ev t) (x.ev t) fun d h=>c d h z nx
 |.clear e s=>D5 g p h e (s.ev t) fun d h=>c d h z nx
 |.len k x=>pz g k (x.ev t) fun d=>c d h z nx
 |.cap0 x=>match x.ev t with|.nilsl=>c (.int .i64 0) h z nx|_=>False
 |.mm q args=>
  match args with
  |[]=>False
  |x::rest=>kmm q (x.ev t) (rest.map (·.ev t)) fun d=>c d h z nx
 |.stuck=>False
def wpo (T:Tab)(sh:Shr)(base:Nat):List KOper->ai->ab->Frz->Nat->(ai->ab->Frz->Nat->Prop)->Prop
 |[],t,h,z,nx,q=>q t h z nx
 |o::rest,t,h,z,nx,q=>
  match o.guard with
  |none=>kop T sh o.op t (o.g.h base h) (o.g.z base z) h z nx (base+o.i) fun v h z nx=>wpo T sh base rest (put t o.dst v) h z nx q
  |some (d,a)=>
   match t d with
   |.bool b=>
    match a with
    |true=>wb b
      (kop T sh o.op t (o.g.h base h) (o.g.z base z) h z nx (base+o.i) fun v h z nx=>wpo T sh base rest (put t o.dst v) h z nx q)
      (wpo T sh base rest (put t o.dst (.tup [])) h z nx q)
    |false=>wb b
      (wpo T sh base rest (put t o.dst (.tup [])) h z nx q)
      (kop T sh o.op t (o.g.h base h) (o.g.z base z) h z nx (base+o.i) fun v h z nx=>wpo T sh base rest (put t o.dst v) h z nx q)
   |.tup _=>wpo T sh base rest (put t o.dst (.tup [])) h z nx q
   |_=>False
abbrev Kept:=List D×List (Option Blk)×List Nat
def mkT:Live->List D->ai
 |x::live,v::vs=>upd (mkT live vs) x.1 v
 |_,_=>fun _=> .bad
def mkF {α:Type}(nx0:Nat)(a:Nat->α)(bot:α):List α->Nat->Nat->α
 |[],_=>fun id=>cond (Nat.blt id nx0) (a id) bot
 |x::b,j=>upd (mkF nx0 a bot b (j+1)) j x
def iP:Live->ai->ab->Frz->Nat->(ai->ab->Frz->Nat->Prop)->Prop
 |[],t,h,z,nx,k=>k t h z nx
 |x::rest,t,h,z,nx,k=>
  match x.2 with
  |0=>iP rest t h z nx k
  |e+1=>
   match t x.1 with
   |.nilsl=>iP rest (upd t x.1 (.ref nx 0 0)) (upd h nx (some (.row [] (e+1)))) (upd z nx 0) (nx+1) k
   |_=>iP rest t h z nx k
def oC (h:ab)(es:List D)(k:Option (List D×List Nat)->Prop):Prop:=
 (es.all (plain 4)=true/\k none)\/∃l rs,es.all (plain 4)=false/\es.mapM (aG h 8)=some l/\es.flatMap (aN h depth)=rs/\l.all (plain 4)=true/\k (some (l,rs))
def eZ:Live->ai->ab->Frz->(ab->Frz->Prop)->Prop
 |[],_,h,z,k=>k h z
 |x::rest,t,h,z,k=>
  match bi (t x.1)with
  |none=>
   match plain 4 (t x.1)with
   |true=>eZ rest t h z k
   |false=>False
  |some id=>
   match h id with
   |some (.row es esz)=>oC h es fun o=>
    match o with
    |none=>eZ rest t h z k
    |some (l,rs)=>eZ rest t (upd h id (some (.row l esz))) (nl h z rs) k
   |some (.mp _ vs)=>cJ (vs.all (plain 4)=true) (eZ rest t h z k)
   |none=>eZ rest t h z k
def pq (nx0:Nat)(ids:List (Option Nat))(t:ai):Live->(List D->Prop)->Prop
 |[],k=>k []
 |x::rest,k=>f2 (bN nx0 ids (t x.1)) fun v=>pq nx0 ids t rest fun vs=>k (v::vs)
def pS {α:Type}(nx0:Nat)(ids:List (Option Nat))(bot:α)(h:Nat->α)(o:Option Nat)(j:Nat):α:=
 match o with
 |none=>bot
 |some x=>
  match Nat.ble nx0 x,placeOf ids x nx0 with
  |true,some i=>cond (Nat.beq i j) (h x) bot
  |_,_=>bot
def fB (b:Option Blk)(k:Option Blk->Prop):Prop:=
 match b with
 |none=>k none
 |some (.row es n)=>k (some (.row es n))
 |some (.mp a vs)=>k (some (.mp a vs))
def AQ (nx0:Nat)(ids:List (Option Nat))(h:ab):List (Option Nat)->Nat->(List (Option Blk)->Prop)->Prop
 |[],_,k=>k []
 |o::rest,j,k=>fB (pS nx0 ids none h o j) fun b=>AQ nx0 ids h rest (j+1) fun a=>k (b::a)
def oh (nx0:Nat)(ids:List (Option Nat))(z:Frz):List (Option Nat)->Nat->List Nat
 |[],_=>[]
 |o::rest,j=>pS nx0 ids 0 z o j::oh nx0 ids z rest (j+1)
def pG (nx0:Nat)(live:Live)(t:ai)(h:ab)(z:Frz)(nx:Nat)(k:ab->Frz->Kept->Prop):Prop:=
 iP live t h z nx fun t h z _=>eZ live t h z fun h z=>
  pq nx0 (bh t live) t live fun vs=>AQ nx0 (bh t live) h (bh t live) nx0 fun a=>k h z (vs,a,oh nx0 (bh t live) z (bh t live) nx0)
def iX (live:Live)(nx0:Nat)(h:ab):ab:=
 match eV live with
 |true=>h
 |false=>cz nx0 h
def bz (nx0:Nat)(live:Live)(t:ai)(h:ab)(z:Frz)(nx:Nat)(k:ab->Frz->Kept->Prop):Prop:=
 match eV live with
 |true=>∃h1 a kp,k h1 a kp/\mO nx0 live ⟨t,h,z,nx⟩=some ⟨mkT live kp.1,mkF nx0 h1 none kp.2.1 nx0,mkF nx0 a 0 kp.2.2 nx0,nx0+live.length⟩
 |false=>pG nx0 live t h z nx k
abbrev Wp:=ai->ab->Frz->Nat->(Ex->ai->ab->Frz->Nat->Prop)->Prop
def jZ (nx0:Nat)(live:Live)(W:Wp):Nat->Wp
 |0,_,_,_,_,_=>False
 |k+1,t,h,z,nx,q=>bz nx0 live t h z nx fun h z kp=>
  W (mkT live kp.1) (mkF nx0 (iX live nx0 h) none kp.2.1 nx0) (mkF nx0 z 0 kp.2.2 nx0) (nx0+live.length) fun a t h z nx=>
    match a with
    |.normal=>jZ nx0 live W k t h z nx q
    |.exit i=>q (.exit i) t h z nx
    |.ret=>q .ret t h z nx
def tA (nx0:Nat)(live:Live)(W:Wp):Wp:=jZ nx0 live W jA
def lp (N:Nat)(live:Live)(W:Wp):Nat->Wp
 |0,_,_,_,_,_=>False
 |k+1,t,h,z,nx,q=>
  match Nat.ble N nx with
  |true=>bz N live t h z nx fun h z kp=>
   W (mkT live kp.1) (mkF N (iX live N h) none kp.2.1 N) (mkF N z 0 kp.2.2 N) (N+live.length) fun a t h z nx=>
     match a with
     |.normal=>lp N live W k t h z nx q
     |.exit i=>q (.exit i) t h z nx
     |.ret=>q .ret t h z nx
  |false=>False
def BU (W:Wp):Nat->Wp
 |0,_,_,_,_,_=>False
 |k+1,t,h,z,nx,q=>W t h z nx fun a t h z nx=>
  match a with
  |.normal=>BU W k t h z nx q
  |.exit i=>q (.exit i) t h z nx
  |.ret=>q .ret t h z nx
def D1 (W:Wp):Wp:=BU W jA
def vW (N:Nat)(live:Live)(W:Wp):Wp:=lp N live W jA
def wp (T:Tab)(sh:Shr)(nx0:Nat):K->Wp
 |.skip,t,h,z,nx,q=>q .normal t h z nx
 |.ops off n l,t,h,z,nx,q=>
  match Nat.ble nx (nx0+off)with
  |true=>wpo T sh (nx0+off) l t h z (nx0+off+n) (q .normal)
  |false=>False
 |.seq a b,t,h,z,nx,q=>wp T sh nx0 a t h z nx fun e t h z nx=>
  match e with
  |.normal=>wp T sh nx0 b t h z nx q
  |.exit i=>q (.exit i) t h z nx
  |.ret=>q .ret t h z nx
 |.cond c a b,t,h,z,nx,q=>
  match c.ev t with
  |.bool d=>wb d (wp T sh nx0 a t h z nx q) (wp T sh nx0 b t h z nx q)
  |_=>False
 |.block id c,t,h,z,nx,q=>wp T sh nx0 c t h z nx fun e t h z nx=>
  match e with
  |.normal=>q .normal t h z nx
  |.exit i=>match Nat.beq i id with|true=>q .normal t h z nx|false=>q (.exit i) t h z nx
  |.ret=>q .ret t h z nx
 |.loop live c,t,h,z,nx,q=>tA nx0 live (fun t h z nx q=>wp T sh nx0 c t h z nx q) t h z nx q
 |.ploop f live c,t,h,z,nx,q=>vW (nx0+f) live (fun t h z nx q=>wp T sh nx0 c t h z nx q) t h z nx q
 |.dops n l,t,h,z,nx,q=>wpo T sh nx l t h z (nx+n) (q .normal)
 |.dloop c,t,h,z,nx,q=>D1 (fun t h z nx q=>wp T sh nx0 c t h z nx q) t h z nx q
 |.exit id,t,h,z,nx,q=>q (.exit id) t h z nx
 |.ret,t,h,z,nx,q=>q .ret t h z nx
def uR (t:ai)(h:ab)(r:KRes)(k:D->Prop):Prop:=
 match r with
 |.t i=>f2 (t i) k
 |.cell a ag n=>oH h ag n (t a) fun d=>f2 d k
def tn (t:ai)(h:ab):List KRes->(List D->Prop)->Prop
 |[],k=>k []
 |r::rs,k=>uR t h r fun d=>tn t h rs fun a=>k (d::a)
def te (t:ai)(h:ab)(rs:List KRes)(k:D->Prop):Prop:=
 tn t h rs fun l=>match l with
  |[d]=>k d
  |l=>k (.tup l)
def bB (fn:KFn)(k:D->ab->Frz->Nat->Prop)(a:Ex)(t:ai)(h:ab)(z:Frz)(nx:Nat):Prop:=
 match a with
 |.exit _=>False
 |.normal=>te t h fn.res fun d=>k d h z nx
 |.ret=>te t h fn.res fun d=>k d h z nx
def tP (b:Pure)(c:List Nat)(args:List D)(h:ab)(z:Frz)(nx:Nat)(k:D->ab->Frz->Nat->Prop):Prop:=
 ∃r h' z' a,fM b c args h z nx=some (r,h',z',a)/\k r h' z' a
def Tab.at (T:Tab)(hr:List Nat):Tab:=
 match hr with
 |[]=>T
 |l=>⟨T.pu,iI T.shared l,T.tab⟩
def shr (T:Tab):Nat->Shr
 |0,_,_,_,_,_,_=>False
 |n+1,f,args,h,z,nx,k=>
  match T.tab f with
  |some fn=>
   match fn.gv with
   |[]=>
    match fn.em&&fW args with
    |true=>k (.lst []) h z nx
    |false=>wp (T.at fn.hr) (shr T n) nx fn.code (enter args) h z nx (bB fn k)
   |a=>tP T.pu a args h z nx k
  |none=>False
def qv (T:Tab)(fn:KFn)(args:List D)(r:D):Prop:=
 wp (T.at fn.hr) (shr T 6) 0 fn.code (enter args) empty kl 0 (bB fn fun d h _ _=>ws2 h d fun d=>d=r)
attribute [irreducible] ltb leb eqb nqb cJ r9 wall kM EK wptr kf mf oC tA vW D1 tP
end Go.F
