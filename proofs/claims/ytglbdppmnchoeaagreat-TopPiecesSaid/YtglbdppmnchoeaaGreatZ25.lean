/- Part 25. -/
import Derived.Test.YtglbdppmnchoeaaGreatZ24
set_option linter.all false
namespace Go.F
def cx:Operand->Option X
 |.tmp i=>some (.t i)
 |.const v=>some (.c (eh v))
 |.global _=>none
 |.func f=>some (.c (.fn f [] []))
def cxo:Option Operand->Option (Option X)
 |none=>some none
 |some o=>(cx o).map some
def cxs (l:List Operand):Option (List X):=l.mapM cx
def pF (P:Program)(f:Field):FK:=
 match P.underlying f.type with
 |some .bool=> .bool
 |some (.int _)=> .int
 |_=> .str
def eqk (P:Program)(t:TypeId):EqK:=
 match P.underlying t with
 |some .bool=> .bool
 |some (.struct _)=>
  match mG P t with
  |some a=> .flat (a.map (pF P))
  |none=> .no
 |_=> .no
def mkk (e:TypeId->EqK)(P:Program)(kt:TypeId):EqK:=
 match P.underlying kt with
 |some .string=> .str
 |some (.struct _)=>e kt
 |_=> .no
def kind0 (P:Program)(t:TypeId):Option FK:=
 match P.underlying t with
 |some .bool=>some .bool
 |some (.int _)=>some .int
 |some .string=>some .str
 |_=>none
def Cn (P:Program)(Q:TypeId->Option (List FK)):List Field->Option (List FK)
 |[]=>some []
 |f::c=>
  match kind0 P f.type with
  |some k=>(Cn P Q c).map (k::·)
  |none=>
   match Q f.type,Cn P Q c with
   |some a,some b=>some (a++b)
   |_,_=>none
def deep0 (P:Program):Nat->TypeId->Option (List FK)
 |0,_=>none
 |n+1,t=>
  match P.underlying t with
  |some (.struct a)=>Cn P (deep0 P n) a.toList
  |_=>none
def eqk0 (P:Program)(t:TypeId):EqK:=
 match P.underlying t with
 |some .bool=> .bool
 |some (.struct _)=>
  match deep0 P 3 t with
  |some l=> .flat l
  |none=> .no
 |_=> .no
def edgeM (n a:Nat):List Edge->Nat->Nat
 |[],m=>m
 |e::es,m=>edgeM n a es (match Region.binds .any e with|true=>Nat.lor m (Nat.lor (Nat.shiftLeft 1 e.on) (Nat.mod (Nat.shiftRight a (Nat.mul e.on n)) (Nat.shiftLeft 1 n))) |false=>m)
def befF (n:Nat):List Oper->Nat->Nat->Nat
 |[],_,a=>a
 |o::r,i,a=>befF n r (Nat.succ i) (Nat.lor a (Nat.shiftLeft (edgeM n a o.after.toList 0) (Nat.mul i n)))
structure Cq where
 e:TypeId->EqK
 b:Array Oper->Nat->Nat
abbrev cqS (P:Program):Cq:=⟨eqk P,fun ops i=>(Region.before ops).getD i 0⟩
def cq0 (P:Program):Cq:=⟨eqk0 P,fun ops i=>Nat.mod (Nat.shiftRight (befF ops.toList.length ops.toList 0 0) (Nat.mul i ops.toList.length)) (Nat.shiftLeft 1 ops.toList.length)⟩
def eqky (e:TypeId->EqK)(P:Program)(t:TypeId)(y:Operand):EqK:=
 match ri y&&isSlice P t with
 |true=> .nil
 |false=>
  match qH y&&isMap P t with
  |true=> .mnil
  |false=>e t
def cvk (P:Program)(s d:TypeId):CvK:=
 match P.underlying s,P.underlying d with
 |some _,some (.int k)=> .int k
 |some _,some (.float k)=> .float k
 |some (.slice e),some .string=>
  match P.underlying e with
  |some (.int .u8)=> .bytes
  |_=> .str
 |some _,some .string=> .str
 |_,_=> .no
def elk (P:Program)(e:TypeId):Option El:=
 match sizeOf P e,bytesOf P e,zeroOf P e with
 |some n,some b,some d=>if 0<n/\d.sto=true/\d.cells.length=n then some ⟨n,b,d⟩else none
 |_,_,_=>none
def mP (place:Nat->Option (Nat×Nat)):List (Nat×Operand)->Option (List (Nat×Nat×X))
 |[]=>some []
 |(i,x)::rest=>
  match place i,cx x,mP place rest with
  |some (off,size),some x,some l=>some ((off,size,x)::l)
  |_,_,_=>none
def sc:List (Nat×Operand)->Option (List (Nat×X))
 |[]=>some []
 |(i,x)::rest=>
  match cx x,sc rest with
  |some x,some l=>some ((i,x)::l)
  |_,_=>none
def DP (P:Program)(ty:TypeId)(parts:List (Nat×Operand)):Option KOp:=
 match P.underlying ty,zeroOf P ty with
 |some (.struct b),some z=>
  match vO P b.toList with
  |some a=>if z.sto then(mP (fun i=>a[i]?) parts).map (.build z.cells)else none
  |none=>none
 |some (.array _ e),some z=>
  match sizeOf P e with
  |some n=>if z.sto then(mP (fun i=>some (i*n,n)) parts).map (.build z.cells)else none
  |none=>none
 |_,_=>none
def lO (P:Program)(c:Call):Option KOp:=
 match c.callee with
 |.value (.func f)=>(cxs c.args.toList).map (.callF f)
 |.value f=>
  match cx f,cxs c.args.toList with
  |some f,some l=>some (.callV f l)
  |_,_=>none
 |.invoke _ _=>none
 |.builtin b=>
  match cxs c.args.toList with
  |none=>none
  |some l=>
   match b with
   |.append=>
    match c.argTypes.toList,l with
    |[t,u],[s,x]=>
     match elemOf P t with
     |none=>none
     |some e=>
      match elk P e,P.underlying u with
      |some e,some (.int _)=>some (.append e .room s x)
      |some e,some .string=>some (.append e .str s x)
      |some e,some (.slice _)=>some (.append e .sl s x)
      |_,_=>none
    |_,_=>none
   |.copy=>
    match c.argTypes.toList,l with
    |t::_,[s,x]=>
     match elemOf P t with
     |none=>none
     |some e=>(sizeOf P e).map fun n=> .copy n s x
    |_,_=>none
   |.clear=>
    match c.argTypes.toList,l with
    |[t],[s]=>
     match elemOf P t with
     |none=>none
     |some e=>(elk P e).map fun e=> .clear e s
    |_,_=>none
   |.len=>
    match c.argTypes.toList,l with
    |[t],[x]=>
     match P.underlying t with
     |some .string=>some (.len .str x)
     |some (.array n _)=>some (.len (.arr n) x)
     |some (.slice _)=>some (.len .sl x)
     |some (.map _ _)=>some (.len .map x)
     |_=>none
    |_,_=>none
   |.cap=>
    match c.argTypes.toList,l with
    |[t],[x]=>
     match P.underlying t with
     |some (.slice _)=>some (.cap0 x)
     |_=>none
    |_,_=>none
   |.max=>some (.mm true l)
   |.min=>some (.mm false l)
   |_=>none
def hintOf (vt:List Nat):Operand->Bool
 |.tmp i=>vt.any (Nat.beq i)
 |_=>false
def np (j:Cq)(P:Program)(vt:List Nat)(o:Op):Option KOp:=
 match o with
 |.move x=>(cx x).map .mov
 |.assign x=>(cx x).map .mov
 |.pick c a b=>
  match cx c,cx a,cx b with
  |some c,some a,some b=>some (.pick c a b)
  |_,_,_=>none
 |.alloc e=>
  match zeroOf P e with
  |some d=>if 0<d.cells.length/\d.sto=true then some (.new d.cells.length d)else none
  |none=>none
 |.box e x=>
  match sizeOf P e,cx x with
  |some n,some x=>some (.box n x)
  |_,_=>none
 |.build ty parts=>DP P ty parts.toList
 |.buildSlice ty len parts=>
  match elemOf P ty with
  |none=>none
  |some e=>
   match sizeOf P e,zeroOf P e,sc parts.toList with
   |some n,some d,some l=>if 0<n/\len*n<=2^24/\d.cells.length=n/\d.sto=true then some (.buildSlice n len (List.replicate len d) l)else none
   |_,_,_=>none
 |.load ty a=>
  match isAgg P ty,sizeOf P ty,cx a with
  |some ag,some n,some x=>some (.load (hintOf vt a) ag n x)
  |_,_,_=>none
 |.store ty a v=>
  match sizeOf P ty,cx a,cx v with
  |some n,some x,some v=>some (.store (hintOf vt a) n x v)
  |_,_,_=>none
 |.nilCheck x=>(cx x).map .nilCheck
 |.binOp op ty x y _=>
  match cx x,cx y with
  |some p,some q=>some (.bin op (match op with|.eql=>eqky j.e P ty y|.neq=>eqky j.e P ty y|_=> .no) p q)
  |_,_=>none
 |.unOp op _ x=>(cx x).map (.un op)
 |.convert s d x=>(cx x).map (.conv (cvk P s d))
 |.makeFunc fn a c=>
  match fn,cxs a.toList,cxs c.toList with
  |.func f,some a,some c=>some (.mkfn f a c)
  |_,_,_=>none
 |.makeMap _ r=>
  match r with
  |none=>some .mkmap
  |some _=>none
 |.makeSlice ty l c=>
  match elemOf P ty with
  |none=>none
  |some e=>
   match elk P e,cx l,cx c with
   |some e,some l,some c=>some (.mkslice e l c)
   |_,_,_=>none
 |.slice ty x lo hi h=>
  match cx x,cxo lo,cxo hi,cxo h with
  |some x,some lo,some hi,some h=>
   match P.underlying ty with
   |some .string=>some (.slstr x lo hi h)
   |some (.slice e)=>(sizeOf P e).map fun n=> .slsl n x lo hi h
   |some (.array n e)=>
    match lo,hi,h,isAgg P e,sizeOf P e with
    |none,none,none,some ag,some k=>some (.slarr n ag k x)
    |_,_,_,_,_=>none
   |_=>none
  |_,_,_,_=>none
 |.fieldAddr s x f=>
  match uU P s f,cx x with
  |some n,some x=>some (.off n x)
  |_,_=>none
 |.indexAddr ty x g=>
  match cx x,cx g with
  |some x,some g=>
   match P.underlying ty with
   |some (.slice e)=>(sizeOf P e).map fun n=> .ixs n x g
   |some (.array len e)=>(sizeOf P e).map fun n=> .ixa len n x g
   |_=>none
  |_,_=>none
 |.index ty x g=>
  match cx x,cx g with
  |some x,some g=>
   match P.underlying ty with
   |some (.array len e)=>
    match isAgg P e,sizeOf P e with
    |some ag,some n=>some (.ia len ag n x g)
    |_,_=>none
   |some .string=>some (.istr x g)
   |_=>none
  |_,_=>none
 |.lookup mt x k ok=>
  match P.underlying mt,cx x,cx k with
  |some (.map kt e),some x,some k=>(zeroOf P e).map fun z=> .lookup (mkk j.e P kt) z x k ok
  |_,_,_=>none
 |.mapUpdate mt m k v=>
  match P.underlying mt,cx m,cx k,cx v with
  |some (.map kt _),some m,some k,some v=>some (.mapset (mkk j.e P kt) m k v)
  |_,_,_,_=>none
 |.extract x i=>(cx x).map fun x=> .extract x i
 |.call c=>lO P c
 |_=>none
def cgd (b:Array Oper->Nat->Nat)(c:Bool)(e:Sp)(ops:Array Oper)(i:Nat)(o:Oper):Gd:=
 match c,eG o.op||gM o.op with
 |true,true=>
  match e.lookup i with
  |some .hide=> .hide
  |some (.at d)=> .at d
  |some (.but l)=> .but l (b ops i) ops.size
  |none=>
   match mg ops i o with
   |some a=> .init a
   |none=> .bef (b ops i) ops.size
 |_,_=> .all
def wide (a:Bool)(k:KOp):KOp:=
 match a,k with
 |false,.callV f l=> .callW f l
 |_,k=>k
def B5 (e:Cq)(P:Program)(vt:List Nat)(a:Bool)(f:Sp)(ops:Array Oper)(i:Nat)(o:Oper):Option KOper:=
 match(np e P vt o.op).getD .stuck with
 |k=>
  match o.guard with
  |none=>some ⟨i,o.dst,none,cgd e.b a f ops i o,wide a k⟩
  |some (j,c)=>
   match(ops[j]?).bind (·.dst)with
   |some d=>some ⟨i,o.dst,some (d,c),cgd e.b a f ops i o,wide a k⟩
   |none=>none
def ua (b:Cq)(P:Program)(vt:List Nat)(a:Bool)(c:Sp)(ops:Array Oper):List Oper->Nat->Option (List KOper)
 |[],_=>some []
 |o::rest,i=>
  match B5 b P vt a c ops i o,ua b P vt a c ops rest (i+1)with
  |some k,some l=>some (k::l)
  |_,_=>none
def ep (e:Cq)(P:Program)(d:Plan):Code->Option K
 |.skip=>some .skip
 |.region r ops f=>(ua e P d.vt f (d.sp r) ops ops.toList 0).map fun l=>match d.df with|true=> .dops ops.size l|false=> .ops (d.bs r) ops.size l
 |.seq a b=>
  match ep e P d a,ep e P d b with
  |some a,some b=>some (.seq a b)
  |_,_=>none
 |.cond c a b=>
  match cx c,ep e P d a,ep e P d b with
  |some c,some a,some b=>some (.cond c a b)
  |_,_,_=>none
 |.block id c=>(ep e P d c).map (.block id)
 |.loop c=>(ep e P d c).map fun k=>
  match d.df with
  |true=> .dloop k
  |false=>
   match d.pn (dd c)with
   |0=> .loop (d.lv (dd c)) k
   |p+1=> .ploop (p+1) (d.lv (dd c)) k
 |.exit id=>some (.exit id)
 |.ret=>some .ret
 |_=>none
def oc (P:Program):ResultVar->Option KRes
 |.tmp t=>some (.t t)
 |.cell a t=>
  match isAgg P t,sizeOf P t with
  |some ag,some n=>some (.cell a ag n)
  |_,_=>none
def jV (b:Cq)(P:Program)(a:Plan)(fn:Func):Option KFn:=
 match fn.body with
 |none=>none
 |some c=>
  match ep b P a c,fn.results.toList.mapM (oc P)with
  |some k,some r=>some ⟨k,r,a.em,a.gv,a.hr⟩
  |_,_=>none
abbrev cop (P:Program):=np (cqS P) P
abbrev coper (P:Program):=B5 (cqS P) P
abbrev Nu (P:Program):=ua (cqS P) P
abbrev DT (P:Program):=ep (cqS P) P
abbrev cfn (P:Program):=jV (cqS P) P
end Go.F
