/- Parts of the proof, part 25: Comp. -/
import Derived.Test.YtakaifogljbgoaaGreatZ21
set_option linter.all false
namespace Go.F
def cx:Operand→Option X
 |.tmp i=>some (.t i)
 |.const v=>some (.c (q59 v))
 |.global _=>none
 |.func f=>some (.c (.fn f [] []))
def cxo:Option Operand→Option (Option X)
 |none=>some none
 |some o=>(cx o).map some
def cxs (l:List Operand):Option (List X):=l.mapM cx
def qDt (P:Program)(f:Field):FK:=
 match P.underlying f.type with
 |some .bool=> .bool
 |some (.int _)=> .int
 |_=> .str
def eqk (P:Program)(t:TypeId):EqK:=
 match P.underlying t with
 |some .bool=> .bool
 |some (.struct _)=>
  match q96 P t with
  |some fs=> .flat (fs.map (qDt P))
  |none=> .no
 |_=> .no
def kind0 (P:Program)(t:TypeId):Option FK:=
 match P.underlying t with
 |some .bool=>some .bool
 |some (.int _)=>some .int
 |some .string=>some .str
 |_=>none
def qA0 (P:Program):List Field→Option (List FK)
 |[]=>some []
 |f::fs=>
  match kind0 P f.type with
  |some k=>(qA0 P fs).map (k::·)
  |none=>
   match P.underlying f.type with
   |some (.struct gs)=>
    match gs.toList.mapM (fun g=>kind0 P g.type),qA0 P fs with
    |some a,some b=>some (a++b)
    |_,_=>none
   |_=>none
def eqk0 (P:Program)(t:TypeId):EqK:=
 match P.underlying t with
 |some .bool=> .bool
 |some (.struct fs)=>
  match qA0 P fs.toList with
  |some l=> .flat l
  |none=> .no
 |_=> .no
def edgeM (n acc:Nat):List Edge→Nat→Nat
 |[],m=>m
 |e::es,m=>edgeM n acc es (match Region.binds .any e with|true=>Nat.lor m (Nat.lor (Nat.shiftLeft 1 e.on) (Nat.mod (Nat.shiftRight acc (Nat.mul e.on n)) (Nat.shiftLeft 1 n))) |false=>m)
def befF (n:Nat):List Oper→Nat→Nat→Nat
 |[],_,acc=>acc
 |o::r,i,acc=>befF n r (Nat.succ i) (Nat.lor acc (Nat.shiftLeft (edgeM n acc o.after.toList 0) (Nat.mul i n)))
structure Cq where
 e:TypeId→EqK
 b:Array Oper→Nat→Nat
abbrev cqS (P:Program):Cq:=⟨eqk P,fun ops i=>(Region.before ops).getD i 0⟩
def cq0 (P:Program):Cq:=⟨eqk0 P,fun ops i=>Nat.mod (Nat.shiftRight (befF ops.toList.length ops.toList 0 0) (Nat.mul i ops.toList.length)) (Nat.shiftLeft 1 ops.toList.length)⟩
def eqky (e:TypeId→EqK)(P:Program)(t:TypeId)(y:Operand):EqK:=
 match qbk y&&isSlice P t with
 |true=> .nil
 |false=>e t
def cvk (P:Program)(s d:TypeId):CvK:=
 match P.underlying s,P.underlying d with
 |some _,some (.int k)=> .int k
 |some _,some (.float k)=> .float k
 |some (.slice e),some .string=>
  match P.underlying e with
  |some (.int .u8)=> .bytes
  |_=> .str
 |some _,some .string=> .str
 |_,_=> .no
def elk (P:Program)(e:TypeId):Option El:=
 match sizeOf P e,bytesOf P e,zeroOf P e with
 |some n,some b,some d=>if 0<n∧d.sto=true∧d.cells.length=n then some ⟨n,b,d⟩else none
 |_,_,_=>none
def qeu (place:Nat→Option (Nat×Nat)):List (Nat×Operand)→Option (List (Nat×Nat×X))
 |[]=>some []
 |(i,x)::rest=>
  match place i,cx x,qeu place rest with
  |some (off,size),some x,some l=>some ((off,size,x)::l)
  |_,_,_=>none
def qiJ:List (Nat×Operand)→Option (List (Nat×X))
 |[]=>some []
 |(i,x)::rest=>
  match cx x,qiJ rest with
  |some x,some l=>some ((i,x)::l)
  |_,_=>none
def qFS (P:Program)(ty:TypeId)(parts:List (Nat×Operand)):Option KOp:=
 match P.underlying ty,zeroOf P ty with
 |some (.struct fs),some z=>
  match qa6 P fs.toList with
  |some pls=>if z.sto then(qeu (fun i=>pls[i]?) parts).map (.build z.cells)else none
  |none=>none
 |some (.array _ e),some z=>
  match sizeOf P e with
  |some n=>if z.sto then(qeu (fun i=>some (i*n,n)) parts).map (.build z.cells)else none
  |none=>none
 |_,_=>none
def qiK (P:Program)(c:Call):Option KOp:=
 match c.callee with
 |.value (.func f)=>(cxs c.args.toList).map (.callF f)
 |.value f=>
  match cx f,cxs c.args.toList with
  |some f,some l=>some (.callV f l)
  |_,_=>none
 |.invoke _ _=>none
 |.builtin b=>
  match cxs c.args.toList with
  |none=>none
  |some l=>
   match b with
   |.append=>
    match c.argTypes.toList,l with
    |[t,u],[s,x]=>
     match elemOf P t with
     |none=>none
     |some e=>
      match elk P e,P.underlying u with
      |some e,some (.int _)=>some (.append e .room s x)
      |some e,some .string=>some (.append e .str s x)
      |some e,some (.slice _)=>some (.append e .sl s x)
      |_,_=>none
    |_,_=>none
   |.copy=>
    match c.argTypes.toList,l with
    |t::_,[s,x]=>
     match elemOf P t with
     |none=>none
     |some e=>(sizeOf P e).map fun n=> .copy n s x
    |_,_=>none
   |.clear=>
    match c.argTypes.toList,l with
    |[t],[s]=>
     match elemOf P t with
     |none=>none
     |some e=>(elk P e).map fun e=> .clear e s
    |_,_=>none
   |.len=>
    match c.argTypes.toList,l with
    |[t],[x]=>
     match P.underlying t with
     |some .string=>some (.len .str x)
     |some (.array n _)=>some (.len (.arr n) x)
     |some (.slice _)=>some (.len .sl x)
     |some (.map _ _)=>some (.len .map x)
     |_=>none
    |_,_=>none
   |.cap=>
    match c.argTypes.toList,l with
    |[t],[x]=>
     match P.underlying t with
     |some (.slice _)=>some (.cap0 x)
     |_=>none
    |_,_=>none
   |.max=>some (.mm true l)
   |.min=>some (.mm false l)
   |_=>none
def hintOf (vt:List Nat):Operand→Bool
 |.tmp i=>vt.any (Nat.beq i)
 |_=>false
def copQ (qe:Cq)(P:Program)(vt:List Nat)(o:Op):Option KOp:=
 match o with
 |.move x=>(cx x).map .mov
 |.assign x=>(cx x).map .mov
 |.pick c a b=>
  match cx c,cx a,cx b with
  |some c,some a,some b=>some (.pick c a b)
  |_,_,_=>none
 |.alloc e=>
  match zeroOf P e with
  |some d=>if 0<d.cells.length∧d.sto=true then some (.new d.cells.length d)else none
  |none=>none
 |.box e x=>
  match sizeOf P e,cx x with
  |some n,some x=>some (.box n x)
  |_,_=>none
 |.build ty parts=>qFS P ty parts.toList
 |.buildSlice ty len parts=>
  match elemOf P ty with
  |none=>none
  |some e=>
   match sizeOf P e,zeroOf P e,qiJ parts.toList with
   |some n,some d,some l=>if 0<n∧len*n≤2^24∧d.cells.length=n∧d.sto=true then some (.buildSlice n len (List.replicate len d) l)else none
   |_,_,_=>none
 |.load ty a=>
  match isAgg P ty,sizeOf P ty,cx a with
  |some ag,some n,some x=>some (.load (hintOf vt a) ag n x)
  |_,_,_=>none
 |.store ty a v=>
  match sizeOf P ty,cx a,cx v with
  |some n,some x,some v=>some (.store (hintOf vt a) n x v)
  |_,_,_=>none
 |.nilCheck x=>(cx x).map .nilCheck
 |.binOp op ty x y _=>
  match cx x,cx y with
  |some x',some y'=>some (.bin op (match op with|.eql=>eqky qe.e P ty y|.neq=>eqky qe.e P ty y|_=> .no) x' y')
  |_,_=>none
 |.unOp op _ x=>(cx x).map (.un op)
 |.convert s d x=>(cx x).map (.conv (cvk P s d))
 |.makeFunc fn a c=>
  match fn,cxs a.toList,cxs c.toList with
  |.func f,some a,some c=>some (.mkfn f a c)
  |_,_,_=>none
 |.makeMap _ r=>
  match r with
  |none=>some .mkmap
  |some _=>none
 |.makeSlice ty l c=>
  match elemOf P ty with
  |none=>none
  |some e=>
   match elk P e,cx l,cx c with
   |some e,some l,some c=>some (.mkslice e l c)
   |_,_,_=>none
 |.slice ty x lo hi mx=>
  match cx x,cxo lo,cxo hi,cxo mx with
  |some x,some lo,some hi,some mx=>
   match P.underlying ty with
   |some .string=>some (.slstr x lo hi mx)
   |some (.slice e)=>(sizeOf P e).map fun n=> .slsl n x lo hi mx
   |some (.array n e)=>
    match lo,hi,mx,isAgg P e,sizeOf P e with
    |none,none,none,some ag,some k=>some (.slarr n ag k x)
    |_,_,_,_,_=>none
   |_=>none
  |_,_,_,_=>none
 |.fieldAddr s x f=>
  match qiY P s f,cx x with
  |some n,some x=>some (.off n x)
  |_,_=>none
 |.indexAddr ty x ix=>
  match cx x,cx ix with
  |some x,some ix=>
   match P.underlying ty with
   |some (.slice e)=>(sizeOf P e).map fun n=> .ixs n x ix
   |some (.array len e)=>(sizeOf P e).map fun n=> .ixa len n x ix
   |_=>none
  |_,_=>none
 |.index ty x ix=>
  match cx x,cx ix with
  |some x,some ix=>
   match P.underlying ty with
   |some (.array len e)=>
    match isAgg P e,sizeOf P e with
    |some ag,some n=>some (.ia len ag n x ix)
    |_,_=>none
   |some .string=>some (.istr x ix)
   |_=>none
  |_,_=>none
 |.lookup mt x k ok=>
  match P.underlying mt,cx x,cx k with
  |some (.map kt e),some x,some k=>
   match P.underlying kt,zeroOf P e with
   |some .string,some z=>some (.lookup z x k ok)
   |_,_=>none
  |_,_,_=>none
 |.mapUpdate mt m k v=>
  match P.underlying mt,cx m,cx k,cx v with
  |some (.map kt _),some m,some k,some v=>
   match P.underlying kt with
   |some .string=>some (.mapset m k v)
   |_=>none
  |_,_,_,_=>none
 |.extract x i=>(cx x).map fun x=> .extract x i
 |.call c=>qiK P c
 |_=>none
def cgd (b:Array Oper→Nat→Nat)(draw:Bool)(sp:Sp)(ops:Array Oper)(i:Nat)(o:Oper):Gd:=
 match draw,q6B o.op||qdn o.op with
 |true,true=>
  match sp.lookup i with
  |some none=> .hide
  |some (some d)=> .at d
  |none=>
   match q7R ops i o with
   |some a=> .init a
   |none=> .bef (b ops i) ops.size
 |_,_=> .all
def qA1 (qe:Cq)(P:Program)(vt:List Nat)(draw:Bool)(sp:Sp)(ops:Array Oper)(i:Nat)(o:Oper):Option KOper:=
 match(copQ qe P vt o.op).getD .stuck with
 |k=>
  match o.guard with
  |none=>some ⟨i,o.dst,none,cgd qe.b draw sp ops i o,k⟩
  |some (j,want)=>
   match(ops[j]?).bind (·.dst)with
   |some d=>some ⟨i,o.dst,some (d,want),cgd qe.b draw sp ops i o,k⟩
   |none=>none
def qiL (qe:Cq)(P:Program)(vt:List Nat)(draw:Bool)(sp:Sp)(ops:Array Oper):List Oper→Nat→Option (List KOper)
 |[],_=>some []
 |o::rest,i=>
  match qA1 qe P vt draw sp ops i o,qiL qe P vt draw sp ops rest (i+1)with
  |some k,some l=>some (k::l)
  |_,_=>none
def q3s (qe:Cq)(P:Program)(pl:Plan):Code→Option K
 |.skip=>some .skip
 |.region r ops draw=>(qiL qe P pl.vt draw (pl.sp r) ops ops.toList 0).map (.ops (pl.bs r) ops.size)
 |.seq a b=>
  match q3s qe P pl a,q3s qe P pl b with
  |some a,some b=>some (.seq a b)
  |_,_=>none
 |.cond c a b=>
  match cx c,q3s qe P pl a,q3s qe P pl b with
  |some c,some a,some b=>some (.cond c a b)
  |_,_,_=>none
 |.block id c=>(q3s qe P pl c).map (.block id)
 |.loop c=>(q3s qe P pl c).map (.loop (pl.lv (q4d c)))
 |.exit id=>some (.exit id)
 |.ret=>some .ret
 |_=>none
def qA2 (P:Program):ResultVar→Option KRes
 |.tmp t=>some (.t t)
 |.cell a t=>
  match isAgg P t,sizeOf P t with
  |some ag,some n=>some (.cell a ag n)
  |_,_=>none
def cfnQ (qe:Cq)(P:Program)(pl:Plan)(fn:Func):Option KFn:=
 match fn.body with
 |none=>none
 |some c=>
  match q3s qe P pl c,fn.results.toList.mapM (qA2 P)with
  |some k,some r=>some ⟨k,r,pl.em⟩
  |_,_=>none
abbrev cop (P:Program):=copQ (cqS P) P
abbrev coper (P:Program):=qA1 (cqS P) P
abbrev quI (P:Program):=qiL (cqS P) P
abbrev q81 (P:Program):=q3s (cqS P) P
abbrev cfn (P:Program):=cfnQ (cqS P) P
end Go.F
