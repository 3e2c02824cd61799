/- Parts of the proof, part 21: K. -/
import Derived.Test.YtakaifogljbgoaaGreatZ1
set_option linter.all false
namespace Go.F
inductive X where
 |t (i:Nat)
 |c (d:D)
def X.ev (t:q0z):X→D
 |.t i=>t i
 |.c d=>d
inductive Gd where
 |all
 |init (a:Nat)
 |bef (m n:Nat)
 |hide
 |at(d:Nat)
def Gd.ok (g:Gd)(base id:Nat):Bool:=
 match g with
 |.all=>true
 |.init a=>Nat.beq id (base+a)
 |.bef m n=>Nat.blt id base||(m.testBit (id-base) ||Nat.ble (base+n) id)
 |.hide=>false
 |.at d=>Nat.beq (id+d+1) base
def Gd.h (g:Gd)(base:Nat)(h:q0e):q0e:=
 match g with
 |.all=>h
 |.init a=>fun id=>cond (Gd.ok (.init a) base id) (h id) none
 |.bef m n=>fun id=>cond (Gd.ok (.bef m n) base id) (h id) none
 |.hide=>fun _=>none
 |.at d=>fun id=>cond (Gd.ok (.at d) base id) (h id) none
def Gd.z (g:Gd)(base:Nat)(z:Frz):Frz:=
 match g with
 |.all=>z
 |.init a=>fun id=>cond (Gd.ok (.init a) base id) (z id) 0
 |.bef m n=>fun id=>cond (Gd.ok (.bef m n) base id) (z id) 0
 |.hide=>fun _=>0
 |.at d=>fun id=>cond (Gd.ok (.at d) base id) (z id) 0
inductive FK where
 |bool
 |int
 |str
inductive EqK where
 |no
 |nil
 |bool
 |flat (ks:List FK)
inductive CvK where
 |no
 |int (k:IntKind)
 |float (k:FloatKind)
 |str
 |bytes
inductive ApK where
 |room
 |str
 |sl
inductive LnK where
 |str
 |arr (n:Nat)
 |sl
 |map
structure El where
 n:Nat
 b:Nat
 d:D
inductive KOp where
 |mov (x:X)
 |pick (c a b:X)
 |new (n:Nat) (d:D)
 |box (n:Nat) (x:X)
 |build (cells:List D) (parts:List (Nat×Nat×X))
 |buildSlice (n:Nat) (len:Nat) (es:List D) (parts:List (Nat×X))
 |load (hint ag:Bool) (n:Nat) (a:X)
 |store (hint:Bool) (n:Nat) (a v:X)
 |nilCheck (x:X)
 |bin (op:BinOp) (e:EqK) (x y:X)
 |un (op:UnOp) (x:X)
 |conv (k:CvK) (x:X)
 |mkfn (f:FuncId) (a c:List X)
 |mkmap
 |mkslice (e:El) (l c:X)
 |slstr (x:X) (lo hi mx:Option X)
 |slsl (n:Nat) (x:X) (lo hi mx:Option X)
 |slarr (n:Nat) (ag:Bool) (k:Nat) (x:X)
 |off (n:Nat) (x:X)
 |ixs (n:Nat) (x ix:X)
 |ixa (len n:Nat) (x ix:X)
 |ia (len:Nat) (ag:Bool) (n:Nat) (x ix:X)
 |istr (x ix:X)
 |lookup (z:D) (x k:X) (ok:Bool)
 |mapset (m k v:X)
 |extract (x:X) (i:Nat)
 |callF (f:FuncId) (args:List X)
 |callV (f:X) (args:List X)
 |append (e:El) (k:ApK) (s x:X)
 |copy (n:Nat) (s x:X)
 |clear (e:El) (s:X)
 |len (k:LnK) (x:X)
 |cap0 (x:X)
 |mm (mx:Bool) (args:List X)
 |stuck
structure KOper where
 i:Nat
 dst:Option Nat
 guard:Option (Nat×Bool)
 g:Gd
 op:KOp
inductive K where
 |skip
 |ops (off n:Nat) (l:List KOper)
 |seq (a b:K)
 |cond (c:X) (a b:K)
 |block (id:Nat) (c:K)
 |loop (live:Live) (c:K)
 |exit (id:Nat)
 |ret
inductive KRes where
 |t (i:Nat)
 |cell (a:Nat) (ag:Bool) (n:Nat)
structure KFn where
 code:K
 res:List KRes
 em:Bool
universe u
def f0 {α:Sort u}(d:D)(k:D→α):α:=
 match d with
 |.bool b=>k (.bool b)
 |.int i n=>k (.int i n)
 |.float i n=>k (.float i n)
 |.str s=>k (.str s)
 |.nilsl=>k .nilsl
 |.lst l=>k (.lst l)
 |.ref a b c=>k (.ref a b c)
 |.pl e o=>k (.pl e o)
 |.ptr a b c=>k (.ptr a b c)
 |.agg l=>k (.agg l)
 |.tup l=>k (.tup l)
 |.fn f a c=>k (.fn f a c)
 |.mref i=>k (.mref i)
 |.mlst a b=>k (.mlst a b)
 |.opq v=>k (.opq v)
 |.bad=>k .bad
def fL0 {α:Sort u}:List D→(List D→α)→α
 |[],k=>k []
 |x::xs,k=>f0 x fun x=>fL0 xs fun xs=>k (x::xs)
def fA {α:Sort u}(d:D)(k:D→α):α:=
 f0 d fun d=>match d with
  |.agg l=>fL0 l fun l=>k (.agg l)
  |d=>k d
def f1 {α:Sort u}(d:D)(k:D→α):α:=
 f0 d fun d=>match d with
  |.agg l=>fL0 l fun l=>k (.agg l)
  |.pl e o=>fA e fun e=>k (.pl e o)
  |d=>k d
def fL1 {α:Sort u}:List D→(List D→α)→α
 |[],k=>k []
 |x::xs,k=>f1 x fun x=>fL1 xs fun xs=>k (x::xs)
def f2 {α:Sort u}(d:D)(k:D→α):α:=
 f0 d fun d=>match d with
  |.agg l=>fL0 l fun l=>k (.agg l)
  |.pl e o=>fA e fun e=>k (.pl e o)
  |.tup l=>fL1 l fun l=>k (.tup l)
  |d=>k d
def wb (b:Bool)(x y:Prop):Prop:=
 match b with
 |true=>x
 |false=>y
def wo {α:Type}(o:Option α)(k:α→Prop):Prop:=
 match o with
 |some x=>k x
 |none=>False
def q3l (p x:Prop):Prop:=p∧x
def wnat (n:Int)(k:Nat→Prop):Prop:=
 match n with
 |.ofNat i=>k i
 |.negSucc _=>False
def qqd (d:D)(k:Nat→Prop):Prop:=
 match d with
 |.int _ n=>wnat n k
 |_=>False
def qqe {α:Type}:List α→Nat→(α→Prop)→Prop
 |[],_,_=>False
 |x::_,0,k=>k x
 |_::xs,i+1,k=>qqe xs i k
def wwin (n:Nat)(es:List D)(off len:Nat)(k:List D→Prop):Prop:=
 (off+len≤es.length∧((es.drop off).take len).all (fun d=>d.cells.length==n)=true)∧k ((es.drop off).take len)
def wall (n:Nat)(es:List D)(k:List D→Prop):Prop:=
 es.all (fun d=>d.cells.length==n)=true∧k es
def q5K (n:Nat)(h:q0e)(x:D)(k:List D→Prop):Prop:=
 match x with
 |.nilsl=>k []
 |.lst l=>wall n l k
 |.ref id off len=>
  match h id with
  |some (.row es _)=>wwin n es off len k
  |_=>False
 |_=>False
def ltb (x y:Int):Bool:=decide (x<y)
def leb (x y:Int):Bool:=decide (x≤y)
def eqb (x y:Int):Bool:=x==y
def nqb (x y:Int):Bool:=x !=y
def qAV:FK→D→D→Option Bool
 |.bool,.bool a,.bool b=>some (a==b)
 |.int,.int i a,.int j b=>if i=j then some (eqb a b)else none
 |.str,.str a,.str b=>some (a==b)
 |_,_,_=>none
def q40:List FK→List D→List D→Option Bool
 |[],[],[]=>some true
 |k::ks,x::xs,y::ys=>
  match qAV k x y,q40 ks xs ys with
  |some b,some r=>some (b&&r)
  |_,_=>none
 |_,_,_=>none
def qc8 (e:EqK)(x y:D):Option Bool:=
 match e,x,y with
 |.bool,.bool a,.bool b=>some (a==b)
 |.flat ks,.agg xs,.agg ys=>q40 ks xs ys
 |.nil,x,_=>match qhg x with|true=>some false|false=>none
 |_,_,_=>none
def qse (op:BinOp)(k:IntKind)(x y:Int)(c:D→Prop):Prop:=
 match op with
 |.add=>c (.int k (k.wrap (x+y)))
 |.sub=>c (.int k (k.wrap (x-y)))
 |.mul=>c (.int k (k.wrap (x*y)))
 |.quo=>q3l (y≠0) (c (.int k (k.wrap (x.tdiv y))))
 |.rem=>q3l (y≠0) (c (.int k (x.tmod y)))
 |.and=>c (.int k (k.wrap (BitVec.ofInt k.bits x&&&BitVec.ofInt k.bits y).toNat))
 |.or=>c (.int k (k.wrap (BitVec.ofInt k.bits x|||BitVec.ofInt k.bits y).toNat))
 |.xor=>c (.int k (k.wrap (BitVec.ofInt k.bits x^^^BitVec.ofInt k.bits y).toNat))
 |.andNot=>c (.int k (k.wrap (BitVec.ofInt k.bits x&&& ~~~BitVec.ofInt k.bits y).toNat))
 |.eql=>c (.bool (eqb x y))
 |.neq=>c (.bool (nqb x y))
 |.lss=>c (.bool (ltb x y))
 |.leq=>c (.bool (leb x y))
 |.gtr=>c (.bool (ltb y x))
 |.geq=>c (.bool (leb y x))
 |.shl=>q3l (0≤y) (c (.int k (k.wrap (x*2^min y.toNat k.bits))))
 |.shr=>q3l (0≤y) (c (.int k (x.fdiv (2^min y.toNat k.bits))))
def qqf (op:BinOp)(e:EqK)(x y:D)(c:D→Prop):Prop:=
 match x,y with
 |.int k a,.int k' b=>
  match q3V op||decide (k=k')with
  |true=>qse op k a b c
  |false=>False
 |.str a,.str b=>wo (qtE op a b) c
 |x,y=>
  match op with
  |.eql=>wo (qc8 e x y) fun b=>c (.bool b)
  |.neq=>wo (qc8 e x y) fun b=>c (.bool !b)
  |_=>False
def kun (op:UnOp)(x:D)(c:D→Prop):Prop:=
 match op,x with
 |.neg,.int k n=>c (.int k (k.wrap (0-n)))
 |.not,.bool b=>c (.bool !b)
 |op,x=>wo (un op x) c
def qeT (h:q0e)(k:CvK)(x:D)(c:D→Prop):Prop:=
 match k with
 |.no=>False
 |.int k=>
  match x with
  |.int _ n=>c (.int k (k.wrap n))
  |.float s b=>wo ((s.decode b).toInt .zero) fun n=>q3l (k.min≤n∧n≤k.max) (c (.int k n))
  |_=>False
 |.float k=>
  match x with
  |.int _ n=>c (.float k (k.nearest n))
  |_=>False
 |.str=>
  match x with
  |.str s=>c (.str s)
  |_=>False
 |.bytes=>
  match x with
  |.str s=>c (.str s)
  |x=>q5K 1 h x fun l=>wo (q5I l) fun bs=>c (.str ⟨bs.toArray⟩)
def qqg (ag:Bool)(n:Nat)(e:D)(o:Nat)(c:D→Prop):Prop:=
 fA e fun e=>
  match ag with
  |true=>
   match Nat.ble (o+n) e.cells.length with
   |true=>c (.agg ((e.cells.drop o).take n))
   |false=>False
  |false=>qqe e.cells o c
def qqh (h:q0e)(ag:Bool)(n:Nat)(a:D)(c:D→Prop):Prop:=
 match a with
 |.ptr id i o=>
  match h id with
  |some (.row es _)=>qqe es i fun e=>qqg ag n e o c
  |_=>False
 |.pl e o=>qqg ag n e o c
 |_=>False
def qbu (e:D)(o:Nat)(vs:List D)(c:D→Prop):Prop:=
 match e with
 |.agg cs=>
  match Nat.ble (o+vs.length) cs.length with
  |true=>fL0 (cs.take o++vs++cs.drop (o+vs.length)) fun l=>c (.agg l)
  |false=>False
 |_=>match o,vs with
  |0,[v]=>c v
  |_,_=>False
def kset:List D→Nat→(D→(D→Prop)→Prop)→(List D→Prop)→Prop
 |[],_,_,_=>False
 |x::xs,0,f,c=>f x fun y=>c (y::xs)
 |x::xs,i+1,f,c=>kset xs i f fun ys=>c (x::ys)
def qky (gh:q0e)(gz:Frz)(h:q0e)(n:Nat)(a v:D)(c:q0e→Prop):Prop:=
 match a with
 |.ptr id i o=>
  match Nat.beq v.cells.length n&&v.sto with
  |true=>
   match gh id with
   |some (.row es esz)=>q3l (gz id≤i) (kset es i (fun e k=>fA e fun e=>qbu e o v.cells k) fun es'=>c (upd h id (some (.row es' esz))))
   |_=>False
  |false=>False
 |_=>False
def kixs (h:q0e)(n:Nat)(x ix:D)(c:D→Prop):Prop:=
 match x with
 |.lst l=>qqd ix fun i=>qqe l i fun d=>fA d fun d=>
   match Nat.beq d.cells.length n&&Nat.blt 0 n with
   |true=>c (.pl d 0)
   |false=>False
 |.ref id off len=>
  match h id with
  |some (.row _ esz)=>
   match Nat.beq esz n with
   |true=>qqd ix fun i=>q3l (i<len) (c (.ptr id (off+i) 0))
   |false=>False
  |_=>False
 |_=>False
def kixa (len n:Nat)(x ix:D)(c:D→Prop):Prop:=
 qqd ix fun i=>q3l (i<len) (wo (q88 x (i*n)) c)
def kia (len:Nat)(ag:Bool)(n:Nat)(x ix:D)(c:D→Prop):Prop:=
 match x with
 |.agg cs=>qqd ix fun i=>q3l (i<len) (
   match ag with
   |true=>q3l (i*n+n≤cs.length) (c (.agg ((cs.drop (i*n)).take n)))
   |false=>qqe cs (i*n) c)
 |_=>False
def qGJ (x ix:D)(c:D→Prop):Prop:=
 match x with
 |.str s=>qqd ix fun i=>qqe s.toList i fun b=>c (.int .u8 b.toNat)
 |_=>False
def q9j (t:q0z)(x:Option X)(dflt:Nat)(k:Nat→Prop):Prop:=
 match x with
 |none=>k dflt
 |some x=>qqd (x.ev t) k
def qGK (t:q0z)(x:D)(lo hi mx:Option X)(c:D→Prop):Prop:=
 match x,mx with
 |.str s,none=>q9j t lo 0 fun l=>q9j t hi s.size fun r=>q3l (l≤r∧r≤s.size) (c (.str (s.extract l r)))
 |_,_=>False
def qqi (t:q0z)(h:q0e)(n:Nat)(x:D)(lo hi mx:Option X)(c:D→Prop):Prop:=
 match mx with
 |none=>
  match x with
  |.nilsl=>q9j t lo 0 fun a=>q9j t hi 0 fun b=>q3l (a=0∧b=0) (c .nilsl)
  |.lst l=>wall n l fun l=>q9j t lo 0 fun a=>q9j t hi l.length fun b=>q3l (a≤b∧b≤l.length) (c (.lst ((l.drop a).take (b-a))))
  |.ref id off len=>
   match h id with
   |some (.row _ esz)=>
    match Nat.beq esz n with
    |true=>q9j t lo 0 fun a=>q9j t hi len fun b=>q3l (a≤b∧b≤len) (wb (Nat.beq a 0) (c (.ref id off b)) (wb (Nat.beq a b) (c (.lst [])) (c (.ref id (off+a) (b-a)))))
    |false=>False
   |_=>False
  |_=>False
 |some m=>
  match hi with
  |none=>False
  |some hi=>
   q9j t lo 0 fun a=>qqd (hi.ev t) fun b=>qqd (m.ev t) fun k=>q3l (a=0∧b=0∧k=0) (
    match x with
    |.nilsl=>c .nilsl
    |.lst l=>wall n l fun _=>c .nilsl
    |.ref id _ _=>
     match h id with
     |some (.row _ esz)=>match Nat.beq esz n with|true=>c .nilsl|false=>False
     |_=>False
    |_=>False)
def qGL (gh:q0e)(n:Nat)(ag:Bool)(k:Nat)(x:D)(z:Frz)(c:D→Frz→Prop):Prop:=
 match x with
 |.ptr id i o=>
  match gh id with
  |some (.row es _)=>qqe es i fun e=>fA e fun e=>
   match Nat.blt 0 k&&Nat.ble (o+n*k) e.cells.length&&(ag||Nat.beq k 1)&&e.cells.all D.scalar with
   |true=>fL1 (chunks k ag n (e.cells.drop o)) fun l=>c (.lst l) (upd z id es.length)
   |false=>False
  |_=>False
 |_=>False
def qtK (t:q0z)(cells:List D):List (Nat×Nat×X)→(List D→Prop)→Prop
 |[],c=>c cells
 |(off,size,x)::rest,c=>
  match Nat.beq (x.ev t).cells.length size&&Nat.ble (off+size) cells.length&&(x.ev t).sto with
  |true=>fL0 (cells.take off++(x.ev t).cells++cells.drop (off+size)) fun cells=>qtK t cells rest c
  |false=>False
def q6X (t:q0z)(size:Nat)(es:List D):List (Nat×X)→(List D→Prop)→Prop
 |[],c=>c es
 |(i,x)::rest,c=>
  match Nat.beq (x.ev t).cells.length size&&Nat.blt i es.length&&(x.ev t).sto with
  |true=>fL1 (es.set i (x.ev t)) fun es=>q6X t size es rest c
  |false=>False
def q36 (gh:q0e)(gz:Frz)(h:q0e)(z:Frz)(id:Nat)(e:El)(s:D)(new:List D)(c:D→q0e→Frz→Prop):Prop:=
 match s with
 |.nilsl=>q3l (new.length*(e.b+1)≤q0N) (c (.ref id 0 new.length) (upd h id (some (.row new e.n))) (upd z id 0))
 |.ref id0 0 len=>
  match gh id0 with
  |some (.row es esz)=>
   match Nat.beq esz e.n with
   |true=>q3l (len≤es.length∧gz id0≤len∧(len+new.length) *(e.b+1)≤q0N) (c (.ref id 0 (len+new.length)) (upd (upd h id0 none) id (some (.row (es.take len++new) e.n))) (upd z id (gz id0)))
   |false=>False
  |_=>False
 |_=>False
def q7k (gh:q0e)(gz:Frz)(h:q0e)(z:Frz)(id:Nat)(e:El)(k:ApK)(s x:D)(c:D→q0e→Frz→Prop):Prop:=
 match k with
 |.room=>qqd x fun n=>q3l (n≤q0N) (q36 gh gz h z id e s (List.replicate n e.d) c)
 |.str=>
  match x with
  |.str b=>wall e.n (b.toList.map fun c=> .int .u8 c.toNat) fun l=>q36 gh gz h z id e s l c
  |_=>False
 |.sl=>q5K e.n gh x fun l=>q36 gh gz h z id e s l c
def qGM (gh:q0e)(gz:Frz)(h:q0e)(n:Nat)(s src:D)(c:D→q0e→Prop):Prop:=
 match s with
 |.ref id off len=>
  match gh id with
  |some (.row es esz)=>
   match Nat.beq n esz with
   |true=>q5K n gh src fun l=>q3l (off+len≤es.length∧gz id≤off)
     (c (.int .i64 (min l.length len:Nat)) (upd h id (some (.row (es.take off++l.take (min l.length len)++es.drop (off+min l.length len)) esz))))
   |false=>False
  |_=>False
 |_=>False
def qAW (gh:q0e)(gz:Frz)(h:q0e)(e:El)(s:D)(c:D→q0e→Prop):Prop:=
 match s with
 |.ref id off len=>
  match gh id with
  |some (.row es esz)=>
   match Nat.beq e.d.cells.length esz&&e.d.sto with
   |true=>q3l (off+len≤es.length∧gz id≤off) (c (.tup []) (upd h id (some (.row (es.take off++List.replicate len e.d++es.drop (off+len)) esz))))
   |false=>False
  |_=>False
 |.nilsl=>c (.tup []) h
 |.lst l=>q3l (l=[]) (c (.tup []) h)
 |_=>False
def qAX (h:q0e)(k:LnK)(x:D)(c:D→Prop):Prop:=
 match k with
 |.str=>match x with|.str s=>c (.int .i64 s.size) |_=>False
 |.arr n=>c (.int .i64 n)
 |.sl=>match x with|.nilsl=>c (.int .i64 0) |.lst l=>c (.int .i64 l.length) |.ref _ _ len=>c (.int .i64 len) |_=>False
 |.map=>match x with
  |.mlst ks _=>c (.int .i64 ks.length)
  |.mref id=>match h id with|some (.mp ks _)=>c (.int .i64 ks.length) |_=>False
  |_=>False
def qvt (s:ByteArray)(ks:List ByteArray)(k:Option Nat→Prop):Prop:=k (findKey s ks 0)
def q6Y (z:D)(ks:List ByteArray)(vs:List D)(k:D)(ok:Bool)(c:D→Prop):Prop:=
 match k with
 |.str s=>qvt s ks fun o=>
  match o with
  |some i=>qqe vs i fun v=>c (match ok with|true=> .tup [v,.bool true] |false=>v)
  |none=>c (match ok with|true=> .tup [z,.bool false] |false=>z)
 |_=>False
def qjd (h:q0e)(z:D)(m k:D)(ok:Bool)(c:D→Prop):Prop:=
 match m with
 |.mlst ks vs=>q6Y z ks vs k ok c
 |.mref id=>match h id with
  |some (.mp ks vs)=>q6Y z ks vs k ok c
  |_=>False
 |_=>False
def qnZ (gh:q0e)(gz:Frz)(h:q0e)(m k v:D)(c:q0e→Prop):Prop:=
 match m,k with
 |.mref id,.str s=>
  match gh id,gz id with
  |some (.mp ks vs),0=>qvt s ks fun o=>
   match o with
   |some i=>c (upd h id (some (.mp ks (vs.set i v))))
   |none=>c (upd h id (some (.mp (ks++[s]) (vs++[v]))))
  |_,_=>False
 |_,_=>False
def qqj (d:D)(i:Nat)(c:D→Prop):Prop:=
 match d with
 |.tup l=>qqe l i c
 |_=>False
def qE8 (h:q0e)(es:List D)(off len:Nat)(k:List D→Prop):Prop:=∃l,off+len≤es.length∧((es.drop off).take len).mapM (q1b h 8)=some l∧k l
def qyc (h:q0e)(vs:List D)(k:List D→Prop):Prop:=∃l,vs.mapM (q1b h 8)=some l∧k l
def ws0 (h:q0e)(d:D)(k:D→Prop):Prop:=
 match d with
 |.bool b=>k (.bool b)
 |.int i n=>k (.int i n)
 |.float i n=>k (.float i n)
 |.str s=>k (.str s)
 |.nilsl=>k (.lst [])
 |.lst l=>k (.lst l)
 |.ref id off len=>
  match h id with
  |some (.row es _)=>qE8 h es off len fun l=>k (.lst l)
  |_=>False
 |.mlst a b=>k (.mlst a b)
 |.mref id=>
  match h id with
  |some (.mp ks vs)=>qyc h vs fun l=>k (.mlst ks l)
  |_=>False
 |.pl e o=>k (.pl e o)
 |.opq v=>k (.opq v)
 |.fn f a c=>match a,c with|[],[]=>k (.fn f [] []) |_,_=>False
 |_=>False
def qvu (h:q0e):List D→(List D→Prop)→Prop
 |[],k=>k []
 |x::xs,k=>ws0 h x fun x=>qvu h xs fun xs=>k (x::xs)
def ws1 (h:q0e)(d:D)(k:D→Prop):Prop:=
 match d with
 |.agg l=>qvu h l fun l=>k (.agg l)
 |.fn f a c=>qvu h a fun a=>qvu h c fun c=>k (.fn f a c)
 |d=>ws0 h d k
def qdq (h:q0e):List D→(List D→Prop)→Prop
 |[],k=>k []
 |x::xs,k=>ws1 h x fun x=>qdq h xs fun xs=>k (x::xs)
def ws2 (h:q0e)(d:D)(k:D→Prop):Prop:=
 match d with
 |.tup l=>qdq h l fun l=>k (.tup l)
 |d=>ws1 h d k
abbrev Shr:=FuncId→List D→q0e→Frz→Nat→(D→q0e→Frz→Nat→Prop)→Prop
structure Tab where
 pu:Pure
 shared:FuncId→Bool
 tab:FuncId→Option KFn
def qbv (pu:Pure)(f:FuncId)(args:List D)(k:D→Prop):Prop:=∃r,pu f args=some r∧k r
def q6r (T:Tab)(sh:Shr)(gh:q0e)(h:q0e)(z:Frz)(nx:Nat)(f:FuncId)(args:List D)(c:D→q0e→Frz→Nat→Prop):Prop:=
 match T.shared f with
 |true=>sh f args h z nx c
 |false=>qdq gh args fun bs=>qbv T.pu f bs fun r=>f2 r fun r=>
  match noRef 4 r with
  |true=>c r h z nx
  |false=>
   match args.flatMap (q0T gh depth)with
   |[]=>c r h z nx
   |i::l=>c r h (q99 gh z (i::l)) nx
def kmm2 (mx:Bool)(x y:D)(c:D→Prop):Prop:=
 match x,y with
 |.int k a,.int k' b=>
  match decide (k=k')with
  |true=>
   match mx with
   |true=>c (.int k (max a b))
   |false=>c (.int k (min a b))
  |false=>False
 |_,_=>False
def kmm (mx:Bool):D→List D→(D→Prop)→Prop
 |x,[],c=>c x
 |x,y::rest,c=>kmm2 mx x y fun x=>kmm mx x rest c
def kop (T:Tab)(sh:Shr)(o:KOp)(t:q0z)(gh:q0e)(gz:Frz)(h:q0e)(z:Frz)(nx id:Nat)(c:D→q0e→Frz→Nat→Prop):Prop:=
 match o with
 |.mov x=>c (x.ev t) h z nx
 |.pick x a b=>
  match x.ev t with
  |.bool d=>wb d (c (a.ev t) h z nx) (c (b.ev t) h z nx)
  |_=>False
 |.new n d=>c (.ptr id 0 0) (upd h id (some (.row [d] n))) (upd z id 0) nx
 |.box n x=>fA (x.ev t) fun d=>
  match Nat.beq d.cells.length n&&Nat.blt 0 n&&d.sto with
  |true=>c (.ptr id 0 0) (upd h id (some (.row [d] n))) (upd z id 0) nx
  |false=>False
 |.build cells parts=>qtK t cells parts fun l=>c (.agg l) h z nx
 |.buildSlice n len es parts=>q6X t n es parts fun l=>c (.ref id 0 len) (upd h id (some (.row l n))) (upd z id 0) nx
 |.load _ ag n a=>qqh gh ag n (a.ev t) fun d=>c d h z nx
 |.store _ n a v=>qky gh gz h n (a.ev t) (v.ev t) fun h=>c (.tup []) h z nx
 |.nilCheck x=>
  match x.ev t with
  |.ptr a b e=>c (.ptr a b e) h z nx
  |.pl e o=>c (.pl e o) h z nx
  |_=>False
 |.bin op e x y=>qqf op e (x.ev t) (y.ev t) fun d=>c d h z nx
 |.un op x=>kun op (x.ev t) fun d=>c d h z nx
 |.conv k x=>qeT gh k (x.ev t) fun d=>c d h z nx
 |.mkfn f a e=>c (.fn f (a.map (·.ev t)) (e.map (·.ev t))) h z nx
 |.mkmap=>c (.mref id) (upd h id (some (.mp [] []))) (upd z id 0) nx
 |.mkslice e l k=>
  match l.ev t,k.ev t with
  |.int .i64 l,.int .i64 k=>wnat l fun l=>q3l ((l:Int)≤k∧k*(e.b+1)≤q0N) (c (.ref id 0 l) (upd h id (some (.row (List.replicate l e.d) e.n))) (upd z id 0) nx)
  |_,_=>False
 |.slstr x lo hi mx=>qGK t (x.ev t) lo hi mx fun d=>c d h z nx
 |.slsl n x lo hi mx=>qqi t gh n (x.ev t) lo hi mx fun d=>c d h z nx
 |.slarr n ag k x=>qGL gh n ag k (x.ev t) z fun d z=>c d h z nx
 |.off n x=>wo (q88 (x.ev t) n) fun d=>c d h z nx
 |.ixs n x ix=>kixs gh n (x.ev t) (ix.ev t) fun d=>c d h z nx
 |.ixa len n x ix=>kixa len n (x.ev t) (ix.ev t) fun d=>c d h z nx
 |.ia len ag n x ix=>kia len ag n (x.ev t) (ix.ev t) fun d=>c d h z nx
 |.istr x ix=>qGJ (x.ev t) (ix.ev t) fun d=>c d h z nx
 |.lookup d x k ok=>qjd gh d (x.ev t) (k.ev t) ok fun d=>c d h z nx
 |.mapset m k v=>qnZ gh gz h (m.ev t) (k.ev t) (v.ev t) fun h=>c (.tup []) h z nx
 |.extract x i=>qqj (x.ev t) i fun d=>c d h z nx
 |.callF f args=>q6r T sh gh h z nx f (args.map (·.ev t)) c
 |.callV f args=>
  match f.ev t with
  |.fn f a e=>
   match T.shared f with
   |false=>q6r T sh gh h z nx f (a++args.map (·.ev t)++e) c
   |true=>False
  |_=>False
 |.append e k s x=>q7k gh gz h z id e k (s.ev t) (x.ev t) fun d h z=>c d h z nx
 |.copy n s x=>qGM gh gz h n (s.ev t) (x.ev t) fun d h=>c d h z nx
 |.clear e s=>qAW gh gz h e (s.ev t) fun d h=>c d h z nx
 |.len k x=>qAX gh k (x.ev t) fun d=>c d h z nx
 |.cap0 x=>match x.ev t with|.nilsl=>c (.int .i64 0) h z nx|_=>False
 |.mm mx args=>
  match args with
  |[]=>False
  |x::rest=>kmm mx (x.ev t) (rest.map (·.ev t)) fun d=>c d h z nx
 |.stuck=>False
def wpo (T:Tab)(sh:Shr)(base:Nat):List KOper→q0z→q0e→Frz→Nat→(q0z→q0e→Frz→Nat→Prop)→Prop
 |[],t,h,z,nx,q=>q t h z nx
 |o::rest,t,h,z,nx,q=>
  match o.guard with
  |none=>kop T sh o.op t (o.g.h base h) (o.g.z base z) h z nx (base+o.i) fun v h z nx=>wpo T sh base rest (put t o.dst v) h z nx q
  |some (d,want)=>
   match t d with
   |.bool b=>
    match want with
    |true=>wb b
      (kop T sh o.op t (o.g.h base h) (o.g.z base z) h z nx (base+o.i) fun v h z nx=>wpo T sh base rest (put t o.dst v) h z nx q)
      (wpo T sh base rest (put t o.dst (.tup [])) h z nx q)
    |false=>wb b
      (wpo T sh base rest (put t o.dst (.tup [])) h z nx q)
      (kop T sh o.op t (o.g.h base h) (o.g.z base z) h z nx (base+o.i) fun v h z nx=>wpo T sh base rest (put t o.dst v) h z nx q)
   |.tup _=>wpo T sh base rest (put t o.dst (.tup [])) h z nx q
   |_=>False
abbrev Kept:=List D×List (Option Blk)×List Nat
def mkT:Live→List D→q0z
 |x::live,v::vs=>upd (mkT live vs) x.1 v
 |_,_=>fun _=> .bad
def mkF {α:Type}(nx0:Nat)(old:Nat→α)(bot:α):List α→Nat→Nat→α
 |[],_=>fun id=>cond (Nat.blt id nx0) (old id) bot
 |x::xs,j=>upd (mkF nx0 old bot xs (j+1)) j x
def qeU:Live→q0z→q0e→Frz→Nat→(q0z→q0e→Frz→Nat→Prop)→Prop
 |[],t,h,z,nx,k=>k t h z nx
 |x::rest,t,h,z,nx,k=>
  match x.2 with
  |0=>qeU rest t h z nx k
  |e+1=>
   match t x.1 with
   |.nilsl=>qeU rest (upd t x.1 (.ref nx 0 0)) (upd h nx (some (.row [] (e+1)))) (upd z nx 0) (nx+1) k
   |_=>qeU rest t h z nx k
def qc9 (h:q0e)(es:List D)(k:Option (List D×List Nat)→Prop):Prop:=
 (es.all (plain 4)=true∧k none)∨∃l rs,es.all (plain 4)=false∧es.mapM (q1b h 8)=some l∧es.flatMap (q0T h depth)=rs∧l.all (plain 4)=true∧k (some (l,rs))
def q3m:Live→q0z→q0e→Frz→(q0e→Frz→Prop)→Prop
 |[],_,h,z,k=>k h z
 |x::rest,t,h,z,k=>
  match q2i (t x.1)with
  |none=>
   match plain 4 (t x.1)with
   |true=>q3m rest t h z k
   |false=>False
  |some id=>
   match h id with
   |some (.row es esz)=>qc9 h es fun o=>
    match o with
    |none=>q3m rest t h z k
    |some (l,rs)=>q3m rest t (upd h id (some (.row l esz))) (q99 h z rs) k
   |some (.mp _ vs)=>q3l (vs.all (plain 4)=true) (q3m rest t h z k)
   |none=>q3m rest t h z k
def qvv (nx0:Nat)(ids:List (Option Nat))(t:q0z):Live→(List D→Prop)→Prop
 |[],k=>k []
 |x::rest,k=>f2 (q1l nx0 ids (t x.1)) fun v=>qvv nx0 ids t rest fun vs=>k (v::vs)
def qtL {α:Type}(nx0:Nat)(ids:List (Option Nat))(bot:α)(h:Nat→α)(o:Option Nat)(j:Nat):α:=
 match o with
 |none=>bot
 |some x=>
  match Nat.ble nx0 x,placeOf ids x nx0 with
  |true,some i=>cond (Nat.beq i j) (h x) bot
  |_,_=>bot
def fB (b:Option Blk)(k:Option Blk→Prop):Prop:=
 match b with
 |none=>k none
 |some (.row es n)=>k (some (.row es n))
 |some (.mp ks vs)=>k (some (.mp ks vs))
def qvw (nx0:Nat)(ids:List (Option Nat))(h:q0e):List (Option Nat)→Nat→(List (Option Blk)→Prop)→Prop
 |[],_,k=>k []
 |o::rest,j,k=>fB (qtL nx0 ids none h o j) fun b=>qvw nx0 ids h rest (j+1) fun bs=>k (b::bs)
def qje (nx0:Nat)(ids:List (Option Nat))(z:Frz):List (Option Nat)→Nat→List Nat
 |[],_=>[]
 |o::rest,j=>qtL nx0 ids 0 z o j::qje nx0 ids z rest (j+1)
def q7C (nx0:Nat)(live:Live)(t:q0z)(h:q0e)(z:Frz)(nx:Nat)(k:q0e→Frz→Kept→Prop):Prop:=
 qeU live t h z nx fun t h z _=>q3m live t h z fun h z=>
  qvv nx0 (q0E t live) t live fun vs=>qvw nx0 (q0E t live) h (q0E t live) nx0 fun bs=>k h z (vs,bs,qje nx0 (q0E t live) z (q0E t live) nx0)
def q15 (nx0:Nat)(live:Live)(t:q0z)(h:q0e)(z:Frz)(nx:Nat)(k:q0e→Frz→Kept→Prop):Prop:=
 match q5e live with
 |true=>∃h1 z1 kp,k h1 z1 kp∧qa7 nx0 live ⟨t,h,z,nx⟩=some ⟨mkT live kp.1,mkF nx0 (q1h nx0 h1) none kp.2.1 nx0,mkF nx0 z1 0 kp.2.2 nx0,nx0+live.length⟩
 |false=>q7C nx0 live t h z nx k
abbrev Wp:=q0z→q0e→Frz→Nat→(Ex→q0z→q0e→Frz→Nat→Prop)→Prop
def q4t (nx0:Nat)(live:Live)(W:Wp):Nat→Wp
 |0,_,_,_,_,_=>False
 |k+1,t,h,z,nx,q=>q15 nx0 live t h z nx fun h z kp=>
  W (mkT live kp.1) (mkF nx0 (q1h nx0 h) none kp.2.1 nx0) (mkF nx0 z 0 kp.2.2 nx0) (nx0+live.length) fun ex t h z nx=>
    match ex with
    |.normal=>q4t nx0 live W k t h z nx q
    |.exit i=>q (.exit i) t h z nx
    |.ret=>q .ret t h z nx
def qyd (nx0:Nat)(live:Live)(W:Wp):Wp:=q4t nx0 live W q9c
def wp (T:Tab)(sh:Shr)(nx0:Nat):K→Wp
 |.skip,t,h,z,nx,q=>q .normal t h z nx
 |.ops off n l,t,h,z,nx,q=>
  match Nat.ble nx (nx0+off)with
  |true=>wpo T sh (nx0+off) l t h z (nx0+off+n) (q .normal)
  |false=>False
 |.seq a b,t,h,z,nx,q=>wp T sh nx0 a t h z nx fun ex t h z nx=>
  match ex with
  |.normal=>wp T sh nx0 b t h z nx q
  |.exit i=>q (.exit i) t h z nx
  |.ret=>q .ret t h z nx
 |.cond c a b,t,h,z,nx,q=>
  match c.ev t with
  |.bool d=>wb d (wp T sh nx0 a t h z nx q) (wp T sh nx0 b t h z nx q)
  |_=>False
 |.block id c,t,h,z,nx,q=>wp T sh nx0 c t h z nx fun ex t h z nx=>
  match ex with
  |.normal=>q .normal t h z nx
  |.exit i=>match Nat.beq i id with|true=>q .normal t h z nx|false=>q (.exit i) t h z nx
  |.ret=>q .ret t h z nx
 |.loop live c,t,h,z,nx,q=>qyd nx0 live (fun t h z nx q=>wp T sh nx0 c t h z nx q) t h z nx q
 |.exit id,t,h,z,nx,q=>q (.exit id) t h z nx
 |.ret,t,h,z,nx,q=>q .ret t h z nx
def qye (t:q0z)(h:q0e)(r:KRes)(k:D→Prop):Prop:=
 match r with
 |.t i=>f2 (t i) k
 |.cell a ag n=>qqh h ag n (t a) fun d=>f2 d k
def qtM (t:q0z)(h:q0e):List KRes→(List D→Prop)→Prop
 |[],k=>k []
 |r::rs,k=>qye t h r fun d=>qtM t h rs fun ds=>k (d::ds)
def qE9 (t:q0z)(h:q0e)(rs:List KRes)(k:D→Prop):Prop:=
 qtM t h rs fun l=>match l with
  |[d]=>k d
  |l=>k (.tup l)
def qdr (fn:KFn)(k:D→q0e→Frz→Nat→Prop)(ex:Ex)(t:q0z)(h:q0e)(z:Frz)(nx:Nat):Prop:=
 match ex with
 |.exit _=>False
 |.normal=>qE9 t h fn.res fun d=>k d h z nx
 |.ret=>qE9 t h fn.res fun d=>k d h z nx
def shr (T:Tab):Nat→Shr
 |0,_,_,_,_,_,_=>False
 |n+1,f,args,h,z,nx,k=>
  match T.tab f with
  |some fn=>
   match fn.em&&q8l args with
   |true=>k (.lst []) h z nx
   |false=>wp T (shr T n) nx fn.code (enter args) h z nx (qdr fn k)
  |none=>False
def wfun (T:Tab)(fn:KFn)(args:List D)(r:D):Prop:=
 wp T (shr T 6) 0 fn.code (enter args) empty qgU 0 (qdr fn fun d h _ _=>ws2 h d fun d=>d=r)
attribute [irreducible] ltb leb eqb nqb q3l wwin wall qE8 qyc qvt qbv qc9 qyd
end Go.F
