/- Parts of the proof, part 22: Run. -/
import Derived.Test.YtakaifogljbgoaaGreatZ21
set_option linter.all false
namespace Go.F
universe u
theorem qu6 {α:Sort u}(d:D)(k:D→α):f0 d k=k d:=by cases d<;>rfl
theorem q9q {α:Sort u}(l:List D):∀(k:List D→α),fL0 l k=k l:=by
 induction l with
 |nil=>intro k;rfl
 |cons x l ih=>intro k;simp only[fL0,qu6,ih]
theorem qbG {α:Sort u}(d:D)(k:D→α):fA d k=k d:=by
 unfold fA;rw[qu6];cases d<;>first|rfl|(simp only[q9q])
theorem qz7 {α:Sort u}(d:D)(k:D→α):f1 d k=k d:=by
 unfold f1;rw[qu6];cases d<;>first|rfl|(simp only[q9q];done) |(simp only[qbG];done)
theorem q5X {α:Sort u}(l:List D):∀(k:List D→α),fL1 l k=k l:=by
 induction l with
 |nil=>intro k;rfl
 |cons x l ih=>intro k;simp only[fL1,qz7,ih]
theorem q6L {α:Sort u}(d:D)(k:D→α):f2 d k=k d:=by
 unfold f2;rw[qu6];cases d<;>first|rfl|(simp only[q9q];done) |(simp only[qbG];done) |(simp only[q5X];done)
theorem fB_eq (b:Option Blk)(k:Option Blk→Prop):fB b k=k b:=by
 unfold fB;cases b with
 |none=>rfl
 |some b=>cases b<;>rfl
def qu7 (ag:Bool)(n:Nat)(e:D)(o:Nat):Option D:=
 match ag with
 |true=>
  match Nat.ble (o+n) e.cells.length with
  |true=>some (.agg ((e.cells.drop o).take n))
  |false=>none
 |false=>e.cells[o]?
def qD0 (hint:Bool)(h:q0e)(ag:Bool)(n:Nat)(a:D):Option D:=
 match a with
 |.pl e o=>qu7 ag n e o
 |.ptr id i o=>
  match hint with
  |true=>
   match h id with
   |some (.row (e::_) _)=>
    match i with
    |0=>qu7 ag n e o
    |_+1=>none
   |_=>none
  |false=>none
 |_=>none
def qbH (e:D)(o:Nat)(vs:List D):Option D:=
 match e with
 |.agg cs=>
  match Nat.ble (o+vs.length) cs.length with
  |true=>some (.agg (cs.take o++vs++cs.drop (o+vs.length)))
  |false=>none
 |_=>match o,vs with
  |0,[v]=>some v
  |_,_=>none
def qBB (hint:Bool)(gh:q0e)(gz:Frz)(h:q0e)(n:Nat)(a v:D):Option q0e:=
 match hint,a with
 |true,.ptr id i o=>
  match Nat.beq v.cells.length n&&v.sto with
  |true=>
   match gh id with
   |some (.row (e::es) esz)=>
    match gz id,i with
    |0,0=>
     match qbH e o v.cells with
     |some e'=>fA e' fun e'=>some (upd h id (some (.row (e'::es) esz)))
     |none=>none
    |_,_=>none
   |_=>none
  |false=>none
 |_,_=>none
def dint (op:BinOp)(k:IntKind)(x y:Int):Option D:=
 match op with
 |.add=>some (.int k (k.wrap (x+y)))
 |.sub=>some (.int k (k.wrap (x-y)))
 |.mul=>some (.int k (k.wrap (x*y)))
 |.and=>some (.int k (k.wrap (BitVec.ofInt k.bits x&&&BitVec.ofInt k.bits y).toNat))
 |.or=>some (.int k (k.wrap (BitVec.ofInt k.bits x|||BitVec.ofInt k.bits y).toNat))
 |.xor=>some (.int k (k.wrap (BitVec.ofInt k.bits x^^^BitVec.ofInt k.bits y).toNat))
 |.andNot=>some (.int k (k.wrap (BitVec.ofInt k.bits x&&& ~~~BitVec.ofInt k.bits y).toNat))
 |.eql=>some (.bool (eqb x y))
 |.neq=>some (.bool (nqb x y))
 |.lss=>some (.bool (ltb x y))
 |.leq=>some (.bool (leb x y))
 |.gtr=>some (.bool (ltb y x))
 |.geq=>some (.bool (leb y x))
 |_=>none
def dbin (op:BinOp)(e:EqK)(x y:D):Option D:=
 match x,y with
 |.int k a,.int k' b=>
  match decide (k=k')with
  |true=>dint op k a b
  |false=>none
 |.str a,.str b=>
  match op with
  |.eql=>some (.bool (a.toList==b.toList))
  |.neq=>some (.bool !(a.toList==b.toList))
  |_=>none
 |x,y=>
  match op with
  |.eql=>(qc8 e x y).map .bool
  |.neq=>(qc8 e x y).map fun b=> .bool !b
  |_=>none
def dun (op:UnOp)(x:D):Option D:=
 match op,x with
 |.neg,.int k n=>some (.int k (k.wrap (0-n)))
 |.not,.bool b=>some (.bool !b)
 |_,_=>none
def qHC (k:CvK)(x:D):Option D:=
 match k,x with
 |.int k,.int _ n=>some (.int k (k.wrap n))
 |.float k,.int _ n=>some (.float k (k.nearest n))
 |.str,.str s=>some (.str s)
 |.bytes,.str s=>some (.str s)
 |_,_=>none
def dlen (k:LnK)(x:D):Option D:=
 match k with
 |.str=>match x with|.str s=>some (.int .i64 s.size) |_=>none
 |.arr n=>some (.int .i64 n)
 |.sl=>match x with|.nilsl=>some (.int .i64 0) |.lst l=>some (.int .i64 l.length) |.ref _ _ len=>some (.int .i64 len) |_=>none
 |.map=>none
def qz8 (t:q0z)(cells:List D):List (Nat×Nat×X)→Option (List D)
 |[]=>some cells
 |(off,size,x)::rest=>
  match Nat.beq (x.ev t).cells.length size&&Nat.ble (off+size) cells.length&&(x.ev t).sto with
  |true=>fL0 (cells.take off++(x.ev t).cells++cells.drop (off+size)) fun cells=>qz8 t cells rest
  |false=>none
def q9r (t:q0z)(size:Nat)(es:List D):List (Nat×X)→Option (List D)
 |[]=>some es
 |(i,x)::rest=>
  match Nat.beq (x.ev t).cells.length size&&Nat.blt i es.length&&(x.ev t).sto with
  |true=>fL1 (es.set i (x.ev t)) fun es=>q9r t size es rest
  |false=>none
def dmm2 (mx:Bool)(x y:D):Option D:=
 match x,y with
 |.int k a,.int k' b=>
  match decide (k=k')with
  |true=>
   match mx with
   |true=>some (.int k (max a b))
   |false=>some (.int k (min a b))
  |false=>none
 |_,_=>none
def dmm (mx:Bool):D→List D→Option D
 |x,[]=>some x
 |x,y::rest=>
  match dmm2 mx x y with
  |some x=>dmm mx x rest
  |none=>none
def qET (l:List D)(i:Nat):Option D:=
 match l,i with
 |[],_=>none
 |x::_,0=>some x
 |_::xs,i+1=>qET xs i
def qz9 (d:D)(i:Nat):Option D:=
 match d with
 |.tup l=>qET l i
 |_=>none
def d1 (o:Option D)(h:q0e)(z:Frz):Option (D×q0e×Frz):=
 match o with
 |some v=>some (v,h,z)
 |none=>none
def dop (o:KOp)(t:q0z)(gh:q0e)(gz:Frz)(h:q0e)(z:Frz)(id:Nat):Option (D×q0e×Frz):=
 match o with
 |.mov x=>some (x.ev t,h,z)
 |.new n d=>some (.ptr id 0 0,upd h id (some (.row [d] n)),upd z id 0)
 |.box n x=>fA (x.ev t) fun d=>
  match Nat.beq d.cells.length n&&Nat.blt 0 n&&d.sto with
  |true=>some (.ptr id 0 0,upd h id (some (.row [d] n)),upd z id 0)
  |false=>none
 |.build cells parts=>match qz8 t cells parts with|some l=>some (.agg l,h,z) |none=>none
 |.buildSlice n len es parts=>match q9r t n es parts with|some l=>fL1 l fun l=>some (.ref id 0 len,upd h id (some (.row l n)),upd z id 0) |none=>none
 |.load hint ag n a=>d1 (qD0 hint gh ag n (a.ev t)) h z
 |.store hint n a v=>match qBB hint gh gz h n (a.ev t) (v.ev t)with|some h=>some (.tup [],h,z) |none=>none
 |.nilCheck x=>
  match x.ev t with
  |.ptr a b e=>some (.ptr a b e,h,z)
  |.pl e o=>some (.pl e o,h,z)
  |_=>none
 |.bin op e x y=>d1 (dbin op e (x.ev t) (y.ev t)) h z
 |.un op x=>d1 (dun op (x.ev t)) h z
 |.conv k x=>d1 (qHC k (x.ev t)) h z
 |.mkfn f a e=>some (.fn f (a.map (·.ev t)) (e.map (·.ev t)),h,z)
 |.mkmap=>some (.mref id,upd h id (some (.mp [] [])),upd z id 0)
 |.off n x=>d1 (q88 (x.ev t) n) h z
 |.extract x i=>d1 (qz9 (x.ev t) i) h z
 |.len k x=>d1 (dlen k (x.ev t)) h z
 |.cap0 x=>match x.ev t with|.nilsl=>some (.int .i64 0,h,z) |_=>none
 |.mm mx args=>
  match args with
  |[]=>none
  |x::rest=>d1 (dmm mx (x.ev t) (rest.map (·.ev t))) h z
 |_=>none
inductive Fr where
 |ops (base:Nat) (res:List Nat) (l:List KOper)
 |code (k:K)
 |blk (id:Nat)
structure Cf where
 stk:List Fr
 ex:Ex
 t:q0z
 h:q0e
 z:Frz
 nx:Nat
def q6x (nx0:Nat):Nat→List Fr→Ex→q0z→q0e→Frz→Nat→Cf
 |0,stk,ex,t,h,z,nx=>⟨stk,ex,t,h,z,nx⟩
 |n+1,stk,ex,t,h,z,nx=>
  match stk with
  |[]=>⟨[],ex,t,h,z,nx⟩
  |f::s=>
   match ex with
   |.ret=>q6x nx0 n s .ret t h z nx
   |.exit i=>
    match f with
    |.blk id=>
     match Nat.beq i id with
     |true=>q6x nx0 n s .normal t h z nx
     |false=>q6x nx0 n s (.exit i) t h z nx
    |_=>q6x nx0 n s (.exit i) t h z nx
   |.normal=>
    match f with
    |.blk _=>q6x nx0 n s .normal t h z nx
    |.code k=>
     match k with
     |.skip=>q6x nx0 n s .normal t h z nx
     |.seq a b=>q6x nx0 n (.code a::.code b::s) .normal t h z nx
     |.block id c=>q6x nx0 n (.code c::.blk id::s) .normal t h z nx
     |.exit i=>q6x nx0 n s (.exit i) t h z nx
     |.ret=>q6x nx0 n s .ret t h z nx
     |.ops off m l=>
      match Nat.ble nx (nx0+off)with
      |true=>q6x nx0 n (.ops (nx0+off) [] l::s) .normal t h z (nx0+off+m)
      |false=>⟨.code (.ops off m l)::s,.normal,t,h,z,nx⟩
     |.cond c a b=>⟨.code (.cond c a b)::s,.normal,t,h,z,nx⟩
     |.loop live c=>⟨.code (.loop live c)::s,.normal,t,h,z,nx⟩
    |.ops base res l=>
     match l with
     |[]=>q6x nx0 n s .normal t h z nx
     |o::rest=>
      match o with
      |⟨i,dst,guard,g,op⟩=>
       match guard with
       |some (d,want)=>
        match res.any (Nat.beq d)with
        |false=>
         match t d with
         |.tup _=>
          match dst with
          |some x=>q6x nx0 n (.ops base res rest::s) .normal (upd t x (.tup [])) h z nx
          |none=>q6x nx0 n (.ops base res rest::s) .normal t h z nx
         |_=>⟨.ops base res (⟨i,dst,some (d,want),g,op⟩::rest)::s,.normal,t,h,z,nx⟩
        |true=>
         match t d with
         |.bool true=>
          match want with
          |true=>q6x nx0 n (.ops base res (⟨i,dst,none,g,op⟩::rest)::s) .normal t h z nx
          |false=>
           match dst with
           |some x=>q6x nx0 n (.ops base res rest::s) .normal (upd t x (.tup [])) h z nx
           |none=>q6x nx0 n (.ops base res rest::s) .normal t h z nx
         |.bool false=>
          match want with
          |false=>q6x nx0 n (.ops base res (⟨i,dst,none,g,op⟩::rest)::s) .normal t h z nx
          |true=>
           match dst with
           |some x=>q6x nx0 n (.ops base res rest::s) .normal (upd t x (.tup [])) h z nx
           |none=>q6x nx0 n (.ops base res rest::s) .normal t h z nx
         |_=>⟨.ops base res (⟨i,dst,some (d,want),g,op⟩::rest)::s,.normal,t,h,z,nx⟩
       |none=>
        match op with
        |.pick c a b=>
         match c with
         |.t d=>
          match res.any (Nat.beq d)with
          |true=>
           match t d with
           |.bool true=>q6x nx0 n (.ops base res (⟨i,dst,none,g,.mov a⟩::rest)::s) .normal t h z nx
           |.bool false=>q6x nx0 n (.ops base res (⟨i,dst,none,g,.mov b⟩::rest)::s) .normal t h z nx
           |_=>⟨.ops base res (⟨i,dst,none,g,.pick (.t d) a b⟩::rest)::s,.normal,t,h,z,nx⟩
          |false=>⟨.ops base res (⟨i,dst,none,g,.pick (.t d) a b⟩::rest)::s,.normal,t,h,z,nx⟩
         |.c d=>⟨.ops base res (⟨i,dst,none,g,.pick (.c d) a b⟩::rest)::s,.normal,t,h,z,nx⟩
        |op=>
         match dop op t (g.h base h) (g.z base z) h z (base+i)with
         |some (v,h,z)=>
          match dst with
          |some x=>f2 v fun v=>q6x nx0 n (.ops base res rest::s) .normal (upd t x v) h z nx
          |none=>q6x nx0 n (.ops base res rest::s) .normal t h z nx
         |none=>⟨.ops base res (⟨i,dst,none,g,op⟩::rest)::s,.normal,t,h,z,nx⟩
def wpM (T:Tab)(sh:Shr)(nx0:Nat):List Fr→Ex→Wp
 |[],ex,t,h,z,nx,q=>q ex t h z nx
 |f::s,ex,t,h,z,nx,q=>
  match ex with
  |.ret=>wpM T sh nx0 s .ret t h z nx q
  |.exit i=>
   match f with
   |.blk id=>
    match Nat.beq i id with
    |true=>wpM T sh nx0 s .normal t h z nx q
    |false=>wpM T sh nx0 s (.exit i) t h z nx q
   |_=>wpM T sh nx0 s (.exit i) t h z nx q
  |.normal=>
   match f with
   |.blk _=>wpM T sh nx0 s .normal t h z nx q
   |.code k=>wp T sh nx0 k t h z nx fun ex t h z nx=>wpM T sh nx0 s ex t h z nx q
   |.ops base _ l=>wpo T sh base l t h z nx fun t h z nx=>wpM T sh nx0 s .normal t h z nx q
section
variable {T:Tab}{sh:Shr}{nx0:Nat}
theorem qaj {α:Type}:∀{l:List α} {i:Nat} {x:α} {k:α→Prop},l[i]?=some x→k x→qqe l i k:=by
 intro l
 induction l with
 |nil=>intro i x k h;simp at h
 |cons y l ih=>
  intro i x k h hk
  cases i with
  |zero=>simp at h;subst h;exact hk
  |succ i=>simp at h;exact ih h hk
theorem qr3 {α:Type}{o:Option α}{x:α}{k:α→Prop}(h:o=some x)(hk:k x):wo o k:=by rw[h];exact hk
theorem q1A {p x:Prop}(h:p)(hx:x):q3l p x:=by unfold q3l;exact⟨h,hx⟩
theorem qfa {ag:Bool}{n:Nat}{e:D}{o:Nat}{d:D}{c:D→Prop}(h:qu7 ag n e o=some d)(hc:c d):qqg ag n e o c:=by
 unfold qu7 at h
 unfold qqg
 rw[qbG]
 cases ag with
 |true=>
  simp only at h⊢
  split at h
  ·rename_i hb;rw[hb];cases h;exact hc
  cases h
 |false=>exact qaj h hc
theorem qn5 {hint:Bool}{h:q0e}{ag:Bool}{n:Nat}{a d:D}{c:D→Prop}(hd:qD0 hint h ag n a=some d)(hc:c d):qqh h ag n a c:=by
 unfold qD0 at hd
 unfold qqh
 split at hd
 ·exact qfa hd hc
 ·split at hd
  ·split at hd
   ·rename_i hb
    split at hd
    ·simp only[hb];exact qfa hd hc
    cases hd
   cases hd
  cases hd
 cases hd
theorem qde {e:D}{o:Nat}{vs:List D}{e':D}{c:D→Prop}(hd:qbH e o vs=some e')(hc:c e'):qbu e o vs c:=by
 unfold qbH at hd
 unfold qbu
 split at hd
 ·split at hd
  ·rename_i hb;simp only[hb,q9q];cases hd;exact hc
  cases hd
 split at hd
 ·simp only;cases hd;exact hc
 cases hd
theorem qwn {hint:Bool}{gh:q0e}{gz:Frz}{h:q0e}{n:Nat}{a v:D}{h':q0e}{c:q0e→Prop}(hd:qBB hint gh gz h n a v=some h')(hc:c h'):qky gh gz h n a v c:=by
 unfold qBB at hd
 split at hd
 ·split at hd
  ·rename_i hb
   split at hd
   ·rename_i hrow
    split at hd
    ·rename_i hz
     split at hd
     ·rename_i e' hs
      rw[qbG]at hd
      cases hd
      unfold qky
      simp only[hb,hrow]
      refine q1A (by omega) ?_
      simp only[kset,qbG]
      exact qde hs hc
     cases hd
    cases hd
   cases hd
  cases hd
 cases hd
theorem qBC {op:BinOp}{k:IntKind}{x y:Int}{d:D}{c:D→Prop}(hd:dint op k x y=some d)(hc:c d):qse op k x y c:=by
 cases op<;>simp only[dint,Option.some.injEq,reduceCtorEq]at hd<;>(subst hd;exact hc)
theorem qBD {op:BinOp}{e:EqK}{x y d:D}{c:D→Prop}(hd:dbin op e x y=some d)(hc:c d):qqf op e x y c:=by
 unfold dbin at hd
 unfold qqf
 split at hd
 ·split at hd
  ·rename_i hk
   simp only[hk,Bool.or_true]
   exact qBC hd hc
  cases hd
 ·split at hd
  ·cases hd;exact qr3 (by simp only[qtE]) hc
  ·cases hd;exact qr3 (by simp only[qtE]) hc
  cases hd
 rename_i h1 h2
 split at hd
 ·cases hk:qc8 e x y with
  |none=>simp[hk]at hd
  |some b=>
   simp[hk]at hd;subst hd
   split
   ·exact absurd rfl (h1 _ _ _ _ rfl)
   ·exact absurd rfl (h2 _ _ rfl)
   exact qr3 hk hc
 ·cases hk:qc8 e x y with
  |none=>simp[hk]at hd
  |some b=>
   simp[hk]at hd;subst hd
   split
   ·exact absurd rfl (h1 _ _ _ _ rfl)
   ·exact absurd rfl (h2 _ _ rfl)
   exact qr3 hk hc
 cases hd
theorem qEU {op:UnOp}{x d:D}{c:D→Prop}(hd:dun op x=some d)(hc:c d):kun op x c:=by
 unfold dun at hd
 unfold kun
 split at hd
 ·cases hd;exact hc
 ·cases hd;exact hc
 cases hd
theorem qza {h:q0e}{k:CvK}{x d:D}{c:D→Prop}(hd:qHC k x=some d)(hc:c d):qeT h k x c:=by
 unfold qHC at hd
 unfold qeT
 split at hd<;>first|(cases hd;exact hc) |(cases hd;done)
theorem qBE {h:q0e}{k:LnK}{x d:D}{c:D→Prop}(hd:dlen k x=some d)(hc:c d):qAX h k x c:=by
 unfold dlen at hd
 unfold qAX
 split at hd
 ·split at hd
  ·cases hd;exact hc
  cases hd
 ·cases hd;exact hc
 ·split at hd
  ·cases hd;exact hc
  ·cases hd;exact hc
  ·cases hd;exact hc
  cases hd
 cases hd
theorem qzb {t:q0z}:∀{parts:List (Nat×Nat×X)} {cells l:List D} {c:List D→Prop},qz8 t cells parts=some l→c l→qtK t cells parts c:=by
 intro parts
 induction parts with
 |nil=>intro cells l c hd hc;simp only[qz8,Option.some.injEq]at hd;subst hd;exact hc
 |cons p parts ih=>
  intro cells l c hd hc
  obtain⟨off,size,x⟩:=p
  simp only[qz8]at hd
  simp only[qtK]
  split at hd
  ·rename_i hb;simp only[hb,q9q]at hd⊢;exact ih hd hc
  cases hd
theorem qkN {t:q0z}{size:Nat}:∀{parts:List (Nat×X)} {es l:List D} {c:List D→Prop},q9r t size es parts=some l→c l→q6X t size es parts c:=by
 intro parts
 induction parts with
 |nil=>intro cells l c hd hc;simp only[q9r,Option.some.injEq]at hd;subst hd;exact hc
 |cons p parts ih=>
  intro cells l c hd hc
  obtain⟨i,x⟩:=p
  simp only[q9r]at hd
  simp only[q6X]
  split at hd
  ·rename_i hb;simp only[hb,q5X]at hd⊢;exact ih hd hc
  cases hd
theorem qEV {mx:Bool}:∀{l:List D} {x d:D} {c:D→Prop},dmm mx x l=some d→c d→kmm mx x l c:=by
 intro l
 induction l with
 |nil=>intro x d c hd hc;simp only[dmm,Option.some.injEq]at hd;subst hd;exact hc
 |cons y l ih=>
  intro x d c hd hc
  simp only[dmm]at hd
  simp only[kmm]
  split at hd
  ·rename_i x' hx
   unfold dmm2 at hx
   unfold kmm2
   split at hx
   ·split at hx
    ·rename_i hk
     simp only[hk]
     split at hx
     ·cases hx;exact ih hd hc
     cases hx;exact ih hd hc
    cases hx
   cases hx
  cases hd
theorem qIV:∀(l:List D) (i:Nat),qET l i=l[i]?:=by
 intro l
 induction l with
 |nil=>intro i;simp[qET]
 |cons x l ih=>
  intro i
  cases i with
  |zero=>simp[qET]
  |succ i=>simp[qET,ih]
theorem qEW {o:KOp}{t:q0z}{gh:q0e}{gz:Frz}{h:q0e}{z:Frz}{nx id:Nat}{v:D}{h':q0e}{z':Frz}{c:D→q0e→Frz→Nat→Prop}(hd:dop o t gh gz h z id=some (v,h',z'))(hc:c v h' z' nx):
 kop T sh o t gh gz h z nx id c:=by
 have one:∀{o:Option D},d1 o h z=some (v,h',z')→o=some v∧h'=h∧z'=z:=by
  intro o ho
  unfold d1 at ho
  split at ho
  ·cases ho;exact⟨rfl,rfl,rfl⟩
  cases ho
 cases o<;>simp only[dop,reduceCtorEq]at hd<;>simp only[kop]
 case mov x=>cases hd;exact hc
 case new n d=>cases hd;exact hc
 case box n x=>
  rw[qbG]at hd⊢
  split at hd
  ·rename_i hb;rw[hb];cases hd;exact hc
  cases hd
 case build cells parts=>
  split at hd
  ·rename_i l hl;cases hd;exact qzb hl hc
  cases hd
 case buildSlice n len es parts=>
  split at hd
  ·rename_i l hl;rw[q5X]at hd;cases hd;exact qkN hl hc
  cases hd
 case load hint ag n a=>obtain⟨h1,rfl,rfl⟩:=one hd;exact qn5 h1 hc
 case store hint n a v'=>
  split at hd
  ·rename_i h1 hs;cases hd;exact qwn hs hc
  cases hd
 case nilCheck x=>split at hd<;>first|(rename_i he;cases hd;rw[he];exact hc) |(cases hd;done)
 case bin op e x y=>obtain⟨h1,rfl,rfl⟩:=one hd;exact qBD h1 hc
 case un op x=>obtain⟨h1,rfl,rfl⟩:=one hd;exact qEU h1 hc
 case conv k x=>obtain⟨h1,rfl,rfl⟩:=one hd;exact qza h1 hc
 case mkfn f a e=>cases hd;exact hc
 case mkmap=>cases hd;exact hc
 case off n x=>obtain⟨h1,rfl,rfl⟩:=one hd;exact qr3 h1 hc
 case extract x i=>
  obtain⟨h1,rfl,rfl⟩:=one hd
  unfold qz9 at h1
  unfold qqj
  split at h1
  ·rename_i he;rw[qIV]at h1;rw[he];exact qaj (k:=fun d=>c d h' z' nx) h1 hc
  cases h1
 case len k x=>obtain⟨h1,rfl,rfl⟩:=one hd;exact qBE h1 hc
 case cap0 x=>split at hd<;>first|(rename_i he;cases hd;rw[he];exact hc) |(cases hd;done)
 case mm mx args=>
  split at hd
  ·cases hd
  obtain⟨h1,rfl,rfl⟩:=one hd;exact qEV h1 hc
theorem wp_mono:∀(k:K) {t:q0z} {h:q0e} {z:Frz} {nx:Nat} {q q':Ex→q0z→q0e→Frz→Nat→Prop},(∀ex t h z nx,q ex t h z nx=q' ex t h z nx)→wp T sh nx0 k t h z nx q=wp T sh nx0 k t h z nx q':=by
 intro k t h z nx q q' hq
 have:q=q':=by funext ex t h z nx;exact hq ex t h z nx
 rw[this]
theorem qr4:∀(n:Nat) (stk:List Fr) (ex:Ex) (t:q0z) (h:q0e) (z:Frz) (nx:Nat) (q:Ex→q0z→q0e→Frz→Nat→Prop) (cf:Cf),q6x nx0 n stk ex t h z nx=cf→
 wpM T sh nx0 cf.stk cf.ex cf.t cf.h cf.z cf.nx q→wpM T sh nx0 stk ex t h z nx q:=by
 intro n
 induction n with
 |zero=>intro stk ex t h z nx q cf hr hw;simp only[q6x]at hr;subst hr;exact hw
 |succ n ih=>
  intro stk ex t h z nx q cf hr hw
  simp only[q6x]at hr
  have same:∀{stk':List Fr},(⟨stk',ex,t,h,z,nx⟩:Cf)=cf→wpM T sh nx0 stk' ex t h z nx q:=by
   intro stk' e;subst e;exact hw
  split at hr
  ·exact same hr
  rename_i f s
  split at hr
  ·simp only[wpM];exact ih _ _ _ _ _ _ _ _ hr hw
  ·split at hr
   ·rename_i i id
    simp only[wpM]
    split at hr
    ·exact ih _ _ _ _ _ _ _ _ hr hw
    exact ih _ _ _ _ _ _ _ _ hr hw
   rename_i i hne
   have:=ih _ _ _ _ _ _ _ _ hr hw
   cases f with
   |blk id=>exact absurd rfl (hne id)
   |_=>simp only[wpM];exact this
  split at hr
  ·simp only[wpM];exact ih _ _ _ _ _ _ _ _ hr hw
  ·rename_i k
   split at hr
   ·simp only[wpM,wp];exact ih _ _ _ _ _ _ _ _ hr hw
   ·have:=ih _ _ _ _ _ _ _ _ hr hw
    simp only[wpM,wp]at this⊢
    refine Eq.mp (wp_mono _ ?_) this
    intro ex t h z nx
    cases ex<;>rfl
   ·have:=ih _ _ _ _ _ _ _ _ hr hw
    simp only[wpM,wp]at this⊢
    refine Eq.mp (wp_mono _ ?_) this
    intro ex t h z nx
    cases ex with
    |normal=>rfl
    |ret=>rfl
    |exit i=>
     simp only
     cases Nat.beq i _<;>rfl
   ·simp only[wpM,wp];exact ih _ _ _ _ _ _ _ _ hr hw
   ·simp only[wpM,wp];exact ih _ _ _ _ _ _ _ _ hr hw
   ·split at hr
    ·rename_i hb
     have:=ih _ _ _ _ _ _ _ _ hr hw
     simp only[wpM,wp,hb]at this⊢
     exact this
    exact same hr
   ·exact same hr
   exact same hr
  rename_i base res l
  split at hr
  ·simp only[wpM,wpo];exact ih _ _ _ _ _ _ _ _ hr hw
  rename_i o rest
  obtain⟨i,dst,guard,g,op⟩:=o
  simp only at hr
  split at hr
  ·rename_i d want
   have skip:(∃b,t d=.bool b∧b≠want)∨(∃l,t d=.tup l)→wpM T sh nx0 (.ops base res rest::s) .normal (put t dst (.tup [])) h z nx q→wpM T sh nx0 (.ops base res (⟨i,dst,some (d,want),g,op⟩::rest)::s) .normal t h z nx q:=by
    intro hc hk
    simp only[wpM,wpo]at hk⊢
    rcases hc with⟨b,hb,hne⟩ |⟨l,hl⟩
    ·rw[hb]
     cases want<;>cases b<;>first|(exact absurd rfl hne) |exact hk
    rw[hl];exact hk
   split at hr
   ·split at hr
    ·rename_i l hl
     refine skip (.inr ⟨_,hl⟩) ?_
     split at hr
     ·exact ih _ _ _ _ _ _ _ _ hr hw
     exact ih _ _ _ _ _ _ _ _ hr hw
    exact same hr
   split at hr
   ·rename_i hb
    split at hr
    ·have:=ih _ _ _ _ _ _ _ _ hr hw
     simp only[wpM,wpo,hb]at this⊢
     exact this
    refine skip (.inl ⟨true,hb,by simp⟩) ?_
    split at hr
    ·exact ih _ _ _ _ _ _ _ _ hr hw
    exact ih _ _ _ _ _ _ _ _ hr hw
   ·rename_i hb
    split at hr
    ·have:=ih _ _ _ _ _ _ _ _ hr hw
     simp only[wpM,wpo,hb]at this⊢
     exact this
    refine skip (.inl ⟨false,hb,by simp⟩) ?_
    split at hr
    ·exact ih _ _ _ _ _ _ _ _ hr hw
    exact ih _ _ _ _ _ _ _ _ hr hw
   exact same hr
  split at hr
  ·split at hr
   ·split at hr
    ·split at hr
     ·rename_i hb
      have:=ih _ _ _ _ _ _ _ _ hr hw
      simp only[wpM,wpo,kop,X.ev,hb]at this⊢
      exact this
     ·rename_i hb
      have:=ih _ _ _ _ _ _ _ _ hr hw
      simp only[wpM,wpo,kop,X.ev,hb]at this⊢
      exact this
     exact same hr
    exact same hr
   exact same hr
  split at hr
  ·rename_i v h' z' hd
   simp only[wpM,wpo]
   refine qEW hd ?_
   split at hr
   ·rw[q6L]at hr
    have:=ih _ _ _ _ _ _ _ _ hr hw
    simp only[wpM]at this
    exact this
   have:=ih _ _ _ _ _ _ _ _ hr hw
   simp only[wpM]at this
   exact this
  exact same hr
end
end Go.F
