/- Parts of the proof, part 1: F. -/
import GoSem.Dispatch
set_option linter.all false
namespace Go.F
inductive D where
 |bool (b:Bool)
 |int (k:IntKind) (n:Int)
 |float (k:FloatKind) (bits:Nat)
 |str (s:ByteArray)
 |nilsl
 |lst (l:List D)
 |ref (id off len:Nat)
 |pl (e:D) (o:Nat)
 |ptr (id i o:Nat)
 |agg (l:List D)
 |tup (l:List D)
 |fn (f:FuncId) (first cap:List D)
 |mref (id:Nat)
 |mlst (ks:List ByteArray) (vs:List D)
 |opq (v:Value)
 |bad
 deriving Inhabited
inductive Blk where
 |row (es:List D) (esz:Nat)
 |mp (ks:List ByteArray) (vs:List D)
abbrev q0e:=Nat→Option Blk
abbrev Frz:=Nat→Nat
abbrev q0z:=Nat→D
structure St where
 tmps:q0z
 heap:q0e
 frz:Frz
 next:Nat
structure Out where
 v:D
 hp:List (Nat×Option Blk)
 fz:List (Nat×Nat)
def out (v:D):Out:=⟨v,[],[]⟩
inductive Ex where
 |normal
 |exit (id:Nat)
 |ret
 deriving DecidableEq
def upd {α:Type}(f:Nat→α)(i:Nat)(v:α):Nat→α:=fun k=>cond (Nat.beq k i) v (f k)
def D.cells:D→List D
 |.agg l=>l
 |d=>[d]
def quT:Value→D
 |.bool b=> .bool b
 |.int k n=> .int k n
 |.float k b=> .float k b
 |.string s=> .str s
 |.slice none 0 0=> .nilsl
 |.func (.func f) ⟨[]⟩ ⟨[]⟩=> .fn f [] []
 |.agg _=> .bad
 |.tuple _=> .bad
 |v=> .opq v
def D.one:D→Bool
 |.agg _=>false
 |.tup _=>false
 |.bad=>false
 |_=>true
def D.scalar:D→Bool
 |.bool _=>true
 |.int _ _=>true
 |.float _ _=>true
 |.str _=>true
 |_=>false
def D.sto:D→Bool
 |.tup _=>false
 |.bad=>false
 |_=>true
def aggOf (l:List D):D:=if l.all D.one then .agg l else .bad
def q59:Value→D
 |.agg vs=>aggOf (vs.toList.map quT)
 |.tuple ⟨[]⟩=> .tup []
 |v=>quT v
def ev (t:q0z):Operand→D
 |.tmp i=>t i
 |.const v=>q59 v
 |.global _=> .bad
 |.func f=> .fn f [] []
def isAgg (P:Program)(t:TypeId):Option Bool:=
 match P.underlying t with
 |some (.struct _)=>some true
 |some (.array _ _)=>some true
 |some _=>some false
 |none=>none
def sizeOf (P:Program)(t:TypeId):Option Nat:=(P.info? t).map (·.size)
def bytesOf (P:Program)(t:TypeId):Option Nat:=(P.info? t).map (·.bytes)
def zeroOf (P:Program)(t:TypeId):Option D:=((P.info? t).bind (·.zero)).map q59
def elemOf (P:Program)(t:TypeId):Option TypeId:=
 match P.underlying t with
 |some (.slice e)=>some e
 |_=>none
def arith (op:BinOp)(k:IntKind)(x y:Int):Option D:=
 match op with
 |.add=>some (.int k (k.wrap (x+y)))
 |.sub=>some (.int k (k.wrap (x-y)))
 |.mul=>some (.int k (k.wrap (x*y)))
 |.quo=>if y=0 then none else some (.int k (k.wrap (x.tdiv y)))
 |.rem=>if y=0 then none else some (.int k (x.tmod y))
 |.and=>some (.int k (k.wrap (BitVec.ofInt k.bits x&&&BitVec.ofInt k.bits y).toNat))
 |.or=>some (.int k (k.wrap (BitVec.ofInt k.bits x|||BitVec.ofInt k.bits y).toNat))
 |.xor=>some (.int k (k.wrap (BitVec.ofInt k.bits x^^^BitVec.ofInt k.bits y).toNat))
 |.andNot=>some (.int k (k.wrap (BitVec.ofInt k.bits x&&& ~~~BitVec.ofInt k.bits y).toNat))
 |.eql=>some (.bool (x==y))
 |.neq=>some (.bool (x !=y))
 |.lss=>some (.bool (decide (x<y)))
 |.leq=>some (.bool (decide (x≤y)))
 |.gtr=>some (.bool (decide (x>y)))
 |.geq=>some (.bool (decide (x≥y)))
 |_=>none
def shift (op:BinOp)(k:IntKind)(x y:Int):Option D:=
 if y<0 then none else
 match op with
 |.shl=>some (.int k (k.wrap (x*2^min y.toNat k.bits)))
 |.shr=>some (.int k (x.fdiv (2^min y.toNat k.bits)))
 |_=>none
def q3V:BinOp→Bool
 |.shl|.shr=>true
 |_=>false
def qtE (op:BinOp)(x y:ByteArray):Option D:=
 match op with
 |.add=>if((x.size+y.size:Nat):Int)>IntKind.i64.max then none else some (.str (x++y))
 |.eql=>some (.bool (x.toList==y.toList))
 |.neq=>some (.bool !(x.toList==y.toList))
 |.lss=>some (.bool (Op.bytesLess x.toList y.toList))
 |.leq=>some (.bool (Op.bytesLess x.toList y.toList||x.toList==y.toList))
 |.gtr=>some (.bool !(Op.bytesLess x.toList y.toList||x.toList==y.toList))
 |.geq=>some (.bool !(Op.bytesLess x.toList y.toList))
 |_=>none
def q66 (P:Program)(f:Field)(i:Nat):Bool:=
 f.offset==i&&f.name != "_" &&
 (match P.underlying f.type with
  |some .bool=>true
  |some (.int _)=>true
  |some .string=>true
  |_=>false)
def q5S (P:Program)(t:TypeId):Option (List Field):=
 match P.underlying t with
 |some (.struct fs)=>
  if fs.toList.zipIdx.all (fun x=>q66 P x.1 x.2)&&!P.stoodInHeld t&&!P.eqGuardType P.depth t then some fs.toList else none
 |_=>none
def q7h (P:Program):List Field→Nat→Option (List Field)
 |[],_=>some []
 |f::fs,i=>
  match q66 P f i with
  |true=>
   match q7h P fs (i+1)with
   |some l=>some (f::l)
   |none=>none
  |false=>
   match q5S P f.type with
   |some l=>
    if f.offset=i∧f.name≠ "_" ∧sizeOf P f.type=some l.length then
     match q7h P fs (i+l.length)with
     |some r=>some (l++r)
     |none=>none
    else none
   |none=>none
def q96 (P:Program)(t:TypeId):Option (List Field):=
 match q5S P t with
 |some fs=>some fs
 |none=>
  match P.underlying t with
  |some (.struct fs)=>if !P.stoodInHeld t&&!P.eqGuardType P.depth t then q7h P fs.toList 0 else none
  |_=>none
theorem q5H {P:Program}{t:TypeId}{fs:List Field}(hfs:q5S P t=some fs):∃fa:Array Field,P.underlying t=some (.struct fa)∧fs=fa.toList∧(fs.zipIdx).all (fun x=>q66 P x.1 x.2)=true∧P.stoodInHeld t=false∧P.eqGuardType P.depth t=false:=by
 unfold q5S at hfs
 split at hfs
 ·rename_i fa hu
  split at hfs
  ·rename_i hcond
   simp only[Bool.and_eq_true,Bool.not_eq_true']at hcond
   simp at hfs;subst hfs
   exact⟨fa,hu,rfl,hcond.1.1,hcond.1.2,hcond.2⟩
  cases hfs
 cases hfs
theorem q7Q {P:Program}{t:TypeId}{fs:List Field}(h:q96 P t=some fs):q5S P t=some fs∨∃fa:Array Field,P.underlying t=some (.struct fa)∧q7h P fa.toList 0=some fs∧P.stoodInHeld t=false∧P.eqGuardType P.depth t=false:=by
 unfold q96 at h
 split at h
 ·rename_i fs' hf;cases h;exact .inl hf
 split at h
 ·rename_i fa hu
  split at h
  ·rename_i hc
   simp only[Bool.and_eq_true,Bool.not_eq_true']at hc
   exact .inr ⟨fa,hu,h,hc.1,hc.2⟩
  cases h
 cases h
def qap:D→D→Option Bool
 |.bool a,.bool b=>some (a==b)
 |.int k a,.int k' b=>if k=k' then some (a==b)else none
 |.str a,.str b=>some (a==b)
 |_,_=>none
def q3J (P:Program)(f:Field):D→Bool
 |.bool _=>match P.underlying f.type with|some .bool=>true|_=>false
 |.int _ _=>match P.underlying f.type with|some (.int _)=>true|_=>false
 |.str _=>match P.underlying f.type with|some .string=>true|_=>false
 |_=>false
def q23 (P:Program):List Field→List D→List D→Option Bool
 |[],[],[]=>some true
 |f::fs,x::xs,y::ys=>
  if q3J P f x&&q3J P f y then
   match qap x y with
   |some true=>q23 P fs xs ys
   |some false=>if fs.length=xs.length∧fs.length=ys.length then some false else none
   |none=>none
  else none
 |_,_,_=>none
def equal (P:Program)(t:TypeId)(x y:D):Option Bool:=
 match x,y with
 |.bool a,.bool b=>match P.underlying t with|some .bool=>some (a==b) |_=>none
 |.agg xs,.agg ys=>
  match q96 P t with
  |some fs=>q23 P fs xs ys
  |none=>none
 |_,_=>none
def bin (P:Program)(op:BinOp)(t:TypeId)(x y:D):Option D:=
 match x,y with
 |.int k a,.int k' b=>if q3V op then shift op k a b else if k=k' then arith op k a b else none
 |.str a,.str b=>qtE op a b
 |x,y=>
  match op with
  |.eql=>(equal P t x y).map .bool
  |.neq=>(equal P t x y).map fun b=> .bool !b
  |_=>none
def qbk:Operand→Bool
 |.const (.slice none 0 0)=>true
 |_=>false
def qhg:D→Bool
 |.lst (_::_)=>true
 |.ref _ _ (_+1)=>true
 |_=>false
def isSlice (P:Program)(t:TypeId):Bool:=
 match P.underlying t with
 |some (.slice _)=>true
 |_=>false
def binX (P:Program)(t:q0z)(op:BinOp)(ty:TypeId)(x y:Operand):Option D:=
 match qbk y&&isSlice P ty&&qhg (ev t x),op with
 |true,.eql=>some (.bool false)
 |true,.neq=>some (.bool true)
 |_,_=>bin P op ty (ev t x) (ev t y)
def un (op:UnOp)(x:D):Option D:=
 match op,x with
 |.neg,.int k n=>some (.int k (k.wrap (0-n)))
 |.xor,.int k n=>some (.int k (k.wrap (BitVec.ofInt k.bits (if k.signed then-1 else k.max)^^^BitVec.ofInt k.bits n).toNat))
 |.not,.bool b=>some (.bool !b)
 |_,_=>none
def window (h:q0e):D→Option (List D)
 |.nilsl=>some []
 |.lst l=>some l
 |.ref id off len=>
  match h id with
  |some (.row es _)=>if off+len≤es.length then some ((es.drop off).take len)else none
  |_=>none
 |_=>none
def q5I:List D→Option (List UInt8)
 |[]=>some []
 |.int .u8 n::l=>(q5I l).map (UInt8.ofNat n.toNat::·)
 |_=>none
def conv (P:Program)(h:q0e)(src dst:TypeId)(x:D):Option D:=
 match P.underlying src,P.underlying dst,x with
 |some _,some (.int k),.int _ n=>some (.int k (k.wrap n))
 |some _,some (.float k),.int _ n=>some (.float k (k.nearest n))
 |some _,some (.int k),.float s b=>
  match(s.decode b).toInt .zero with
  |some n=>if k.min≤n∧n≤k.max then some (.int k n)else none
  |none=>none
 |some _,some .string,.str s=>some (.str s)
 |some (.slice e),some .string,x=>
  match P.underlying e with
  |some (.int .u8)=>
   match window h x with
   |some l=>if l.all (fun e=>e.cells.length==1)then(q5I l).map fun bs=> .str ⟨bs.toArray⟩else none
   |none=>none
  |_=>none
 |_,_,_=>none
def q4T (h:q0e):D→Option (List D×Nat)
 |.ptr id i o=>
  match h id with
  |some (.row es _)=>(es[i]?).map fun e=>(e.cells,o)
  |_=>none
 |.pl e o=>some (e.cells,o)
 |_=>none
def load (P:Program)(h:q0e)(t:TypeId)(a:D):Option D:=
 match q4T h a,isAgg P t,sizeOf P t with
 |some (cs,o),some true,some n=>if o+n≤cs.length then some (.agg ((cs.drop o).take n))else none
 |some (cs,o),some false,some _=>cs[o]?
 |_,_,_=>none
def setCells (e:D)(o:Nat)(vs:List D):Option D:=
 match e with
 |.agg cs=>if o+vs.length≤cs.length then some (.agg (cs.take o++vs++cs.drop (o+vs.length)))else none
 |_=>match o,vs with
  |0,[v]=>some v
  |_,_=>none
def store (P:Program)(h:q0e)(z:Frz)(t:TypeId)(a v:D):Option Out:=
 match a,sizeOf P t with
 |.ptr id i o,some n=>
  if v.cells.length=n∧v.sto=true then
   match h id with
   |some (.row es esz)=>
    if z id≤i then
     match es[i]? with
     |some e=>match setCells e o v.cells with
      |some e'=>some ⟨.tup [],[(id,some (.row (es.set i e') esz))],[]⟩
      |none=>none
     |none=>none
    else none
   |_=>none
  else none
 |_,_=>none
def qiY (P:Program)(s:TypeId)(f:Nat):Option Nat:=
 match P.underlying s with
 |some (.struct fs)=>match fs[f]? with
  |some f=>match sizeOf P f.type with
   |some 0=>none
   |some _=>some f.offset
   |none=>none
  |none=>none
 |_=>none
def q88 (a:D)(n:Nat):Option D:=
 match a with
 |.ptr id i o=>some (.ptr id i (o+n))
 |.pl e o=>some (.pl e (o+n))
 |_=>none
def qeE:D→Option Nat
 |.int _ n=>if 0≤n then some n.toNat else none
 |_=>none
def indexAddr (P:Program)(h:q0e)(t:TypeId)(x ix:D):Option D:=
 match qeE ix,P.underlying t with
 |some i,some (.slice e)=>
  match sizeOf P e,x with
  |some n,.lst l=>
   match l[i]? with
   |some d=>if d.cells.length=n∧0<n then some (.pl d 0)else none
   |none=>none
  |some n,.ref id off len=>
   if i<len then
    match h id with
    |some (.row _ esz)=>if esz=n then some (.ptr id (off+i) 0)else none
    |_=>none
   else none
  |_,_=>none
 |some i,some (.array len e)=>
  match sizeOf P e with
  |some n=>if i<len then q88 x (i*n)else none
  |none=>none
 |_,_=>none
def index (P:Program)(t:TypeId)(x ix:D):Option D:=
 match qeE ix,P.underlying t,x with
 |some i,some (.array len e),.agg cs=>
  if i<len then
   match isAgg P e,sizeOf P e with
   |some true,some n=>if i*n+n≤cs.length then some (.agg ((cs.drop (i*n)).take n))else none
   |some false,some n=>cs[i*n]?
   |_,_=>none
  else none
 |some i,some .string,.str s=>
  match s.toList[i]? with
  |some b=>some (.int .u8 b.toNat)
  |none=>none
 |_,_,_=>none
def bound (x:Option D)(dflt:Nat):Option Nat:=
 match x with
 |none=>some dflt
 |some d=>qeE d
def chunks (n:Nat)(ag:Bool):Nat→List D→List D
 |0,_=>[]
 |k+1,cs=>(if ag then .agg (cs.take n)else(cs.headD .bad))::chunks n ag k (cs.drop n)
def q0t (h:q0e)(id:Nat):Nat:=
 match h id with
 |some (.row es _)=>es.length
 |some (.mp _ _)=>1
 |none=>0
def qxp (hi:Option D)(m:D):Bool:=
 match hi,qeE m with
 |some _,some 0=>true
 |_,_=>false
def q7i (P:Program)(h:q0e)(t:TypeId)(x:D)(lo hi mx:Option D):Option Out:=
 match P.underlying t,x with
 |some .string,.str s=>
  match mx,bound lo 0,bound hi s.size with
  |none,some l,some r=>if l≤r∧r≤s.size then some (out (.str (s.extract l r)))else none
  |_,_,_=>none
 |some (.slice e),.nilsl=>
  match sizeOf P e with
  |none=>none
  |some _=>
   match mx,bound lo 0,bound hi 0 with
   |none,some 0,some 0=>some (out .nilsl)
   |some m,some 0,some 0=>if qxp hi m then some (out .nilsl)else none
   |_,_,_=>none
 |some (.slice e),.lst l=>
  match sizeOf P e with
  |none=>none
  |some n=>
   if l.all (fun d=>d.cells.length==n)then
    match mx,bound lo 0,bound hi l.length with
    |none,some a,some b=>if a≤b∧b≤l.length then some (out (.lst ((l.drop a).take (b-a))))else none
    |some m,some 0,some 0=>if qxp hi m then some (out .nilsl)else none
    |_,_,_=>none
   else none
 |some (.slice e),.ref id off len=>
  match h id,sizeOf P e with
  |some (.row _ esz),some n=>
   if esz=n then
    match mx,bound lo 0,bound hi len with
    |none,some a,some b=>
     if a≤b∧b≤len then(if a=0 then some (out (.ref id off b))else if a=b then some (out (.lst []))else some (out (.ref id (off+a) (b-a))))else none
    |some m,some 0,some 0=>if qxp hi m then some (out .nilsl)else none
    |_,_,_=>none
   else none
  |_,_=>none
 |some (.array n e),.ptr id _ o=>
  match lo,hi,mx,q4T h x,isAgg P e,sizeOf P e with
  |none,none,none,some (cs,_),some ag,some k=>
   if 0<k∧o+n*k≤cs.length∧(ag=true∨k=1)∧cs.all D.scalar then some ⟨.lst (chunks k ag n (cs.drop o)),[],[(id,q0t h id)]⟩else none
  |_,_,_,_,_,_=>none
 |_,_=>none
def q30 (t:q0z)(place:Nat→Option (Nat×Nat))(cells:List D):List (Nat×Operand)→Option (List D)
 |[]=>some cells
 |(i,x)::rest=>
  match place i with
  |none=>none
  |some (off,size)=>
   let v:=(ev t x).cells
   if v.length=size∧off+v.length≤cells.length∧(ev t x).sto=true then q30 t place (cells.take off++v++cells.drop (off+v.length)) rest else none
def qa6 (P:Program)(fs:List Field):Option (List (Nat×Nat)):=
 fs.mapM fun f=>(sizeOf P f.type).map fun n=>(f.offset,n)
def build (P:Program)(t:q0z)(ty:TypeId)(parts:List (Nat×Operand)):Option D:=
 match P.underlying ty,zeroOf P ty with
 |some (.struct fs),some z=>
  match qa6 P fs.toList with
  |some pls=>if z.sto then(q30 t (fun i=>pls[i]?) z.cells parts).map .agg else none
  |none=>none
 |some (.array _ e),some z=>
  match sizeOf P e with
  |some n=>if z.sto then(q30 t (fun i=>some (i*n,n)) z.cells parts).map .agg else none
  |none=>none
 |_,_=>none
def q3g (t:q0z)(size:Nat)(es:List D):List (Nat×Operand)→Option (List D)
 |[]=>some es
 |(i,x)::rest=>
  let v:=ev t x
  if v.cells.length=size∧i<es.length∧v.sto=true then q3g t size (es.set i v) rest else none
def newRow (id:Nat)(es:List D)(esz:Nat)(v:D):Out:=⟨v,[(id,some (.row es esz))],[(id,0)]⟩
def q0N:Nat:=2^40
def q3K (P:Program)(h:q0e)(z:Frz)(id:Nat)(e:TypeId)(s:D)(new:List D):Option Out:=
 match sizeOf P e,bytesOf P e,zeroOf P e with
 |some n,some b,some d=>
  if 0<n∧d.sto=true∧d.cells.length=n∧new.all (fun d=>d.cells.length==n)then
   match s with
   |.nilsl=>if new.length*(b+1)≤q0N then some (newRow id new n (.ref id 0 new.length))else none
   |.ref id0 0 len=>
    match h id0 with
    |some (.row es esz)=>
     if esz=n∧len≤es.length∧z id0≤len∧(len+new.length) *(b+1)≤q0N then
      some ⟨.ref id 0 (len+new.length),[(id0,none),(id,some (.row (es.take len++new) n))],[(id,z id0)]⟩
     else none
    |_=>none
   |_=>none
  else none
 |_,_,_=>none
def append (P:Program)(h:q0e)(z:Frz)(id:Nat)(argTypes:List TypeId)(args:List D):Option Out:=
 match argTypes,args with
 |[t,u],[s,x]=>
  match elemOf P t with
  |none=>none
  |some e=>
   match P.underlying u with
   |some (.int _)=>
    match qeE x,zeroOf P e with
    |some n,some d=>if n≤q0N∧d.sto=true then q3K P h z id e s (List.replicate n d)else none
    |_,_=>none
   |some .string=>
    match x with
    |.str b=>q3K P h z id e s (b.toList.map fun c=> .int .u8 c.toNat)
    |_=>none
   |some (.slice _)=>
    match window h x with
    |some l=>q3K P h z id e s l
    |none=>none
   |_=>none
 |_,_=>none
def copy (P:Program)(h:q0e)(z:Frz)(argTypes:List TypeId)(args:List D):Option Out:=
 match argTypes,args with
 |t::_,[.ref id off len,src]=>
  match elemOf P t with
  |none=>none
  |some e=>
   match h id,window h src with
   |some (.row es esz),some l=>
    if sizeOf P e=some esz∧off+len≤es.length∧z id≤off∧l.all (fun d=>d.cells.length==esz)then
     some ⟨.int .i64 (min l.length len:Nat),[(id,some (.row (es.take off++l.take (min l.length len)++es.drop (off+min l.length len)) esz))],[]⟩
    else none
   |_,_=>none
 |_,_=>none
def clear (P:Program)(h:q0e)(z:Frz)(argTypes:List TypeId)(args:List D):Option Out:=
 match argTypes,args with
 |[t],[.ref id off len]=>
  match elemOf P t with
  |none=>none
  |some e=>
   match h id,zeroOf P e with
   |some (.row es esz),some d=>
    if off+len≤es.length∧z id≤off∧d.cells.length=esz∧d.sto=true then
     some ⟨.tup [],[(id,some (.row (es.take off++List.replicate len d++es.drop (off+len)) esz))],[]⟩
    else none
   |_,_=>none
 |[t],[.nilsl]=>(elemOf P t).map fun _=>out (.tup [])
 |[t],[.lst []]=>(elemOf P t).map fun _=>out (.tup [])
 |_,_=>none
def qxq (P:Program)(h:q0e)(argTypes:List TypeId)(args:List D):Option D:=
 match argTypes,args with
 |[t],[x]=>
  match P.underlying t,x with
  |some .string,.str s=>some (.int .i64 s.size)
  |some (.array n _),_=>some (.int .i64 n)
  |some (.slice _),.nilsl=>some (.int .i64 0)
  |some (.slice _),.lst l=>some (.int .i64 l.length)
  |some (.slice _),.ref _ _ len=>some (.int .i64 len)
  |some (.map _ _),.mlst ks _=>some (.int .i64 ks.length)
  |some (.map _ _),.mref id=>match h id with|some (.mp ks _)=>some (.int .i64 ks.length) |_=>none
  |_,_=>none
 |_,_=>none
def qxr (P:Program)(argTypes:List TypeId)(args:List D):Option D:=
 match argTypes,args with
 |[t],[.nilsl]=>match P.underlying t with|some (.slice _)=>some (.int .i64 0) |_=>none
 |_,_=>none
def mm2 (isMax:Bool):D→D→Option D
 |.int k a,.int k' b=>if k=k' then some (.int k (if isMax then(if b>a then b else a)else(if b<a then b else a)))else none
 |_,_=>none
def qc3 (isMax:Bool):List D→Option D
 |[]=>none
 |x::rest=>rest.foldlM (mm2 isMax) x
def findKey (k:ByteArray):List ByteArray→Nat→Option Nat
 |[],_=>none
 |x::xs,i=>if k==x then some i else findKey k xs (i+1)
def qbl (P:Program)(mt:TypeId)(ks:List ByteArray)(vs:List D)(k:D)(ok:Bool):Option D:=
 match P.underlying mt,k with
 |some (.map kt e),.str s=>
  match P.underlying kt,findKey s ks 0 with
  |some .string,some i=>(vs[i]?).map fun v=>if ok then .tup [v,.bool true]else v
  |some .string,none=>(zeroOf P e).map fun v=>if ok then .tup [v,.bool false]else v
  |_,_=>none
 |_,_=>none
def lookup (P:Program)(h:q0e)(mt:TypeId)(m k:D)(ok:Bool):Option D:=
 match m with
 |.mlst ks vs=>qbl P mt ks vs k ok
 |.mref id=>match h id with
  |some (.mp ks vs)=>qbl P mt ks vs k ok
  |_=>none
 |_=>none
def mapUpdate (P:Program)(h:q0e)(z:Frz)(mt:TypeId)(m k v:D):Option Out:=
 match P.underlying mt,m,k with
 |some (.map kt _),.mref id,.str s=>
  match P.underlying kt,h id with
  |some .string,some (.mp ks vs)=>
   if z id=0 then
    match findKey s ks 0 with
    |some i=>some ⟨.tup [],[(id,some (.mp ks (vs.set i v)))],[]⟩
    |none=>some ⟨.tup [],[(id,some (.mp (ks++[s]) (vs++[v])))],[]⟩
   else none
  |_,_=>none
 |_,_,_=>none
def q1b (h:q0e):Nat→D→Option D
 |0,_=>none
 |n+1,d=>
  match d with
  |.bool b=>some (.bool b)
  |.int k i=>some (.int k i)
  |.float k b=>some (.float k b)
  |.str s=>some (.str s)
  |.nilsl=>some (.lst [])
  |.lst l=>some (.lst l)
  |.ref id off len=>
   match h id with
   |some (.row es _)=>if off+len≤es.length then(((es.drop off).take len).mapM (q1b h n)).map .lst else none
   |_=>none
  |.agg l=>(l.mapM (q1b h n)).map .agg
  |.tup l=>(l.mapM (q1b h n)).map .tup
  |.fn f a c=>match a.mapM (q1b h n),c.mapM (q1b h n)with|some a,some c=>some (.fn f a c) |_,_=>none
  |.mref id=>
   match h id with
   |some (.mp ks vs)=>(vs.mapM (q1b h n)).map (.mlst ks)
   |_=>none
  |.mlst ks vs=>some (.mlst ks vs)
  |.pl e o=>some (.pl e o)
  |.opq v=>some (.opq v)
  |.ptr _ _ _=>none
  |.bad=>none
def q0T (h:q0e):Nat→D→List Nat
 |0,_=>[]
 |n+1,d=>
  match d with
  |.ref id off len=>
   match h id with
   |some (.row es _)=>id::((es.drop off).take len).flatMap (q0T h n)
   |_=>[]
  |.agg l=>l.flatMap (q0T h n)
  |.tup l=>l.flatMap (q0T h n)
  |.fn _ a c=>a.flatMap (q0T h n)++c.flatMap (q0T h n)
  |.mref id=>
   match h id with
   |some (.mp _ vs)=>id::vs.flatMap (q0T h n)
   |_=>[]
  |_=>[]
def depth:Nat:=12
def noRef:Nat→D→Bool
 |0,_=>false
 |n+1,d=>
  match d with
  |.bool _|.int _ _|.float _ _|.str _=>true
  |.agg l=>l.all (noRef n)
  |.tup l=>l.all (noRef n)
  |_=>false
abbrev Pure:=FuncId→List D→Option D
abbrev Shar:=FuncId→List D→q0e→Frz→Nat→Option (D×q0e×Frz×Nat)
def q9z (t:q0z)(x:Option Operand):Option D:=x.map (ev t)
def q5t (pure:Pure)(h:q0e)(f:FuncId)(args:List D):Option Out:=
 match args.mapM (q1b h depth)with
 |none=>none
 |some bs=>
  match pure f bs with
  |none=>none
  |some r=>
   match noRef 4 r with
   |true=>some (out r)
   |false=>some ⟨r,[],(args.flatMap (q0T h depth)).map fun id=>(id,q0t h id)⟩
def step (P:Program)(pure:Pure)(o:Oper)(t:q0z)(h:q0e)(z:Frz)(id:Nat):Option Out:=
 match o.op with
 |.move x=>some (out (ev t x))
 |.assign x=>some (out (ev t x))
 |.pick c a b=>
  match ev t c with
  |.bool true=>some (out (ev t a))
  |.bool false=>some (out (ev t b))
  |_=>none
 |.alloc e=>
  match zeroOf P e with
  |some d=>if 0<d.cells.length∧d.sto=true then some (newRow id [d] d.cells.length (.ptr id 0 0))else none
  |none=>none
 |.box _ x=>if 0<(ev t x).cells.length∧(ev t x).sto=true then some (newRow id [ev t x] (ev t x).cells.length (.ptr id 0 0))else none
 |.build ty parts=>(build P t ty parts.toList).map out
 |.buildSlice ty len parts=>
  match elemOf P ty with
  |none=>none
  |some e=>
   match sizeOf P e,zeroOf P e with
   |some n,some d=>
    if 0<n∧len*n≤2^24∧d.cells.length=n∧d.sto=true then
     (q3g t n (List.replicate len d) parts.toList).map fun es=>newRow id es n (.ref id 0 len)
    else none
   |_,_=>none
 |.load ty a=>(load P h ty (ev t a)).map out
 |.store ty a v=>store P h z ty (ev t a) (ev t v)
 |.nilCheck x=>
  match ev t x with
  |.ptr a b c=>some (out (.ptr a b c))
  |.pl e c=>some (out (.pl e c))
  |_=>none
 |.binOp op ty x y _=>(binX P t op ty x y).map out
 |.unOp op _ x=>(un op (ev t x)).map out
 |.convert s d x=>(conv P h s d (ev t x)).map out
 |.makeFunc fn a c=>
  match fn with
  |.func f=>some (out (.fn f (a.toList.map (ev t)) (c.toList.map (ev t))))
  |_=>none
 |.makeMap _ r=>
  match r with
  |none=>some ⟨.mref id,[(id,some (.mp [] []))],[(id,0)]⟩
  |some _=>none
 |.makeSlice ty l c=>
  match elemOf P ty,ev t l,ev t c with
  |some e,.int .i64 l,.int .i64 c=>
   match sizeOf P e,bytesOf P e,zeroOf P e with
   |some n,some b,some d=>
    if 0<n∧0≤l∧l≤c∧c*(b+1)≤q0N∧d.cells.length=n∧d.sto=true then
     some (newRow id (List.replicate l.toNat d) n (.ref id 0 l.toNat))
    else none
   |_,_,_=>none
  |_,_,_=>none
 |.slice ty x lo hi mx=>q7i P h ty (ev t x) (q9z t lo) (q9z t hi) (q9z t mx)
 |.fieldAddr s x f=>
  match qiY P s f with
  |some n=>(q88 (ev t x) n).map out
  |none=>none
 |.indexAddr ty x ix=>(indexAddr P h ty (ev t x) (ev t ix)).map out
 |.index ty x ix=>(index P ty (ev t x) (ev t ix)).map out
 |.lookup ty x ix ok=>(lookup P h ty (ev t x) (ev t ix) ok).map out
 |.mapUpdate ty m k v=>mapUpdate P h z ty (ev t m) (ev t k) (ev t v)
 |.extract x i=>
  match ev t x with
  |.tup l=>(l[i]?).map out
  |_=>none
 |.call c=>
  match c.callee with
  |.value f=>
   match ev t f with
   |.fn f a k=>q5t pure h f (a++c.args.toList.map (ev t)++k)
   |_=>none
  |.builtin b=>
   match b with
   |.append=>append P h z id c.argTypes.toList (c.args.toList.map (ev t))
   |.copy=>copy P h z c.argTypes.toList (c.args.toList.map (ev t))
   |.clear=>clear P h z c.argTypes.toList (c.args.toList.map (ev t))
   |.len=>(qxq P h c.argTypes.toList (c.args.toList.map (ev t))).map out
   |.cap=>(qxr P c.argTypes.toList (c.args.toList.map (ev t))).map out
   |.max=>(qc3 true (c.args.toList.map (ev t))).map out
   |.min=>(qc3 false (c.args.toList.map (ev t))).map out
   |_=>none
  |.invoke _ _=>none
 |_=>none
structure Env where
 pure:Pure
 shar:Shar
 shared:FuncId→Bool
def q13 (E:Env)(o:Oper)(t:q0z):Option (FuncId×List D):=
 match o.op with
 |.call c=>
  match c.callee with
  |.value (.func f)=>if E.shared f then some (f,c.args.toList.map (ev t))else none
  |_=>none
 |_=>none
def q7R (ops:Array Oper)(i:Nat)(o:Oper):Option Nat:=
 match o.op with
 |.store _ (.tmp t) _=>
  (List.range i).find? fun a=>match ops[a]? with
    |some x=>x.dst==some t&&(match x.op with|.alloc _|.box _ _=>true|_=>false)
    |none=>false
 |.call c=>
  match c.callee,c.args.toList with
  |.builtin .append,[.tmp t,.tmp y]=>
   (List.range i).find? fun a=>match ops[a]? with
     |some x=>x.dst==some t&&(match x.op with|.buildSlice ..=>true|_=>false)&&ops.toList.all fun b=>!(b.dst==some y&&(match b.op with|.buildSlice ..|.makeSlice ..|.call _=>true|_=>false))
     |none=>false
  |_,_=>none
 |_=>none
abbrev Sp:=List (Nat×Option Nat)
def q4U (sp:Sp)(ops:Array Oper)(base i:Nat)(o:Oper)(id:Nat):Bool:=
 match sp.lookup i with
 |some none=>false
 |some (some d)=>Nat.beq (id+d+1) base
 |none=>
  match q7R ops i o with
  |some a=>Nat.beq id (base+a)
  |none=>Nat.blt id base||(((Region.before ops).getD i 0).testBit (id-base) ||Nat.ble (base+ops.size) id)
def q20 (draw:Bool)(sp:Sp)(ops:Array Oper)(base i:Nat)(o:Oper)(h:q0e):q0e:=
 match draw with
 |true=>fun id=>cond (q4U sp ops base i o id) (h id) none
 |false=>h
def q6p (draw:Bool)(sp:Sp)(ops:Array Oper)(base i:Nat)(o:Oper)(z:Frz):Frz:=
 match draw with
 |true=>fun id=>cond (q4U sp ops base i o id) (z id) 0
 |false=>z
def q0A {α:Type}(f:Nat→α):List (Nat×α)→Nat→α
 |[]=>f
 |(i,v)::r=>q0A (upd f i v) r
def put (t:q0z)(dst:Option Tmp)(v:D):q0z:=
 match dst with
 |some d=>upd t d v
 |none=>t
def wanted (t:q0z)(ops:Array Oper)(o:Oper):Option Bool:=
 match o.guard with
 |none=>some true
 |some (j,want)=>
  match(ops[j]?).bind (·.dst)with
  |some d=>(match t d with|.bool b=>some (b==want) |.bad=>none|_=>some false)
  |none=>some false
def one (P:Program)(E:Env)(draw:Bool)(sp:Sp)(ops:Array Oper)(o:Oper)(i:Nat)(base:Nat)(s:St):Option St:=
 match wanted s.tmps ops o with
 |some true=>
  match q13 E o s.tmps with
  |some (f,args)=>
   match E.shar f args s.heap s.frz s.next with
   |some (v,h,z,nx)=>some ⟨put s.tmps o.dst v,h,z,nx⟩
   |none=>none
  |none=>
   match step P E.pure o s.tmps (q20 draw sp ops base i o s.heap) (q6p draw sp ops base i o s.frz) (base+i)with
   |some r=>some ⟨put s.tmps o.dst r.v,q0A s.heap r.hp,q0A s.frz r.fz,s.next⟩
   |none=>none
 |some false=>some ⟨put s.tmps o.dst (.tup []),s.heap,s.frz,s.next⟩
 |none=>none
def q97 (P:Program)(E:Env)(draw:Bool)(sp:Sp)(ops:Array Oper)(base:Nat):List Oper→Nat→St→Option St
 |[],_,s=>some s
 |o::rest,i,s=>
  match one P E draw sp ops o i base s with
  |some s'=>q97 P E draw sp ops base rest (i+1) s'
  |none=>none
def q6B:Op→Bool
 |.load ..|.store ..|.convert ..|.indexAddr ..|.slice ..|.lookup ..|.mapUpdate ..=>true
 |.call c=>(match c.callee with|.builtin .max|.builtin .min|.builtin .cap=>false|_=>true)
 |_=>false
def qeF:Op→Bool
 |.store ..|.mapUpdate ..=>true
 |.call c=>(match c.callee with|.builtin .append|.builtin .copy|.builtin .clear=>true|_=>false)
 |_=>false
def qdn:Op→Bool
 |.alloc _|.box ..|.buildSlice ..|.makeSlice ..|.makeMap ..=>true
 |.call c=>(match c.callee with|.builtin .append=>true|_=>false)
 |_=>false
def q4E (shared:FuncId→Bool):Op→Bool
 |.call c=>(match c.callee with|.value (.func f)=>shared f|_=>false)
 |_=>false
def qnq (o:Op):Bool:=!q6B o&&!qdn o
def looks (ops:Array Oper)(o:Oper):List Tmp:=
 (o.op.operands.toList.filterMap fun|.tmp t=>some t|_=>none)++
 (match o.guard with
  |some (g,_)=>((ops[g]?).bind (·.dst)).toList
  |none=>[])
def apart (ops:Array Oper)(x y:Oper):Bool:=
 (match x.dst with
  |some d=>!(looks ops y).contains d&&y.dst !=some d
  |none=>true)&&
 (match y.dst with
  |some d=>!(looks ops x).contains d
  |none=>true)
def qmK (sp:Sp)(ops:Array Oper)(i:Nat)(o:Oper)(j:Nat):Bool:=
 match sp.lookup i with
 |some _=>false
 |none=>
  match q7R ops i o with
  |some a=>Nat.beq j a
  |none=>((Region.before ops).getD i 0).testBit j
def qfC (sp:Sp)(ops:Array Oper)(j:Nat)(oj:Oper)(i:Nat)(oi:Oper):Bool:=
 match sp.lookup j,sp.lookup i with
 |some none,_=>false
 |_,some none=>false
 |some (some a),some (some b)=>Nat.beq a b
 |none,none=>
  match q7R ops j oj,q7R ops i oi with
  |some a,some b=>Nat.beq a b
  |some a,none=>qmK sp ops i oi a
  |none,some b=>qmK sp ops j oj b
  |none,none=>true
 |_,_=>true
def qxs (shared:FuncId→Bool)(sp:Sp)(ops:Array Oper)(j:Nat)(oj:Oper)(i:Nat)(oi:Oper):Bool:=
 apart ops oj oi&&!(q4E shared oj.op&&!qnq oi.op)&&!(q4E shared oi.op&&!qnq oj.op)&&
 !(qfC sp ops j oj i oi&&((qeF oj.op&&q6B oi.op) ||(qeF oi.op&&q6B oj.op)))&&
 !(qdn oj.op&&qmK sp ops i oi j)&&!(qdn oi.op&&qmK sp ops j oj i)
def q98 (shared:FuncId→Bool)(sp:Sp)(ops:Array Oper):Bool:=
 ops.toList.zipIdx.all fun(oi,i)=>
  oi.after.all (fun e=>Nat.blt e.on i||!Region.binds .any e)&&
  ops.toList.zipIdx.all fun(oj,j)=>
   !Nat.blt j i||((Region.before ops).getD i 0).testBit j||qxs shared sp ops j oj i oi
def q5T (shared:FuncId→Bool)(sp:Nat→Sp)(n:Nat):Code→Bool
 |.region r ops draw=>(!draw||q98 shared (sp r) ops)&&ops.toList.all fun o=>match o.dst with|some d=>Nat.blt d n|none=>true
 |.seq a b=>q5T shared sp n a&&q5T shared sp n b
 |.cond _ a b=>q5T shared sp n a&&q5T shared sp n b
 |.block _ c=>q5T shared sp n c
 |.loop c=>q5T shared sp n c
 |_=>true
def qpB (P:Program)(shared:FuncId→Bool)(sp:FuncId→Nat→Sp):Bool:=
 P.follows .mixedOrders&&P.funcs.toList.zipIdx.all fun(fn,i)=>fn.name != "runtime.NumGoroutine" &&match fn.body with|some c=>q5T shared (sp i) fn.ntmps c|none=>true
abbrev Live:=List (Nat×Nat)
def plain:Nat→D→Bool
 |0,_=>false
 |n+1,d=>
  match d with
  |.bool _|.int _ _|.float _ _|.str _|.nilsl|.lst _|.mlst _ _|.opq _|.pl _ _=>true
  |.agg l=>l.all (plain n)
  |.tup l=>l.all (plain n)
  |.fn _ a c=>a.all (plain n)&&c.all (plain n)
  |_=>false
def q2i:D→Option Nat
 |.ptr id _ _=>some id
 |.ref id _ _=>some id
 |.mref id=>some id
 |_=>none
def qiZ (j:Nat):D→D
 |.ptr _ i o=> .ptr j i o
 |.ref _ a b=> .ref j a b
 |.mref _=> .mref j
 |d=>d
def placeOf:List (Option Nat)→Nat→Nat→Option Nat
 |[],_,_=>none
 |none::rest,id,j=>placeOf rest id (j+1)
 |some x::rest,id,j=>cond (Nat.beq x id) (some j) (placeOf rest id (j+1))
def q0E (t:q0z)(live:Live):List (Option Nat):=live.map fun x=>q2i (t x.1)
def qxt (x k:Nat)(s:St):St:=
 match k,s.tmps x with
 |k+1,.nilsl=>⟨upd s.tmps x (.ref s.next 0 0),upd s.heap s.next (some (.row [] (k+1))),upd s.frz s.next 0,s.next+1⟩
 |_,_=>s
def q4F:Live→St→St
 |[],s=>s
 |x::rest,s=>q4F rest (qxt x.1 x.2 s)
def q99 (h:q0e)(z:Frz)(l:List Nat):Frz:=q0A z (l.map fun id=>(id,q0t h id))
def qkg (x:Nat)(s:St):Option St:=
 match q2i (s.tmps x)with
 |none=>
  match plain 4 (s.tmps x)with
  |true=>some s
  |false=>
   match q1b s.heap depth (s.tmps x)with
   |some d=>some ⟨upd s.tmps x d,s.heap,q99 s.heap s.frz (q0T s.heap depth (s.tmps x)),s.next⟩
   |none=>none
 |some id=>
  match s.heap id with
  |some (.row es esz)=>
   match es.all (plain 4)with
   |true=>some s
   |false=>
    match es.mapM (q1b s.heap depth)with
    |some es'=>some ⟨s.tmps,upd s.heap id (some (.row es' esz)),q99 s.heap s.frz (es.flatMap (q0T s.heap depth)),s.next⟩
    |none=>none
  |_=>some s
def q9a:Live→St→Option St
 |[],s=>some s
 |x::rest,s=>
  match qkg x.1 s with
  |some s'=>q9a rest s'
  |none=>none
def q1l (nx0:Nat)(ids:List (Option Nat))(d:D):D:=
 match q2i d with
 |none=>d
 |some id=>
  match Nat.blt id nx0 with
  |true=>d
  |false=>
   match placeOf ids id nx0 with
   |some j=>qiZ j d
   |none=>d
def q9b (nx0:Nat)(ids:List (Option Nat))(t:q0z):Live→q0z
 |[]=>fun _=> .bad
 |x::rest=>upd (q9b nx0 ids t rest) x.1 (q1l nx0 ids (t x.1))
def q1P {α:Type}(nx0:Nat)(ids:List (Option Nat))(old:Nat→α)(bot:α)(h:Nat→α):List (Option Nat)→Nat→Nat→α
 |[],_=>fun id=>cond (Nat.blt id nx0) (old id) bot
 |none::rest,j=>q1P nx0 ids old bot h rest (j+1)
 |some x::rest,j=>
  match Nat.ble nx0 x,placeOf ids x nx0 with
  |true,some k=>cond (Nat.beq k j) (upd (q1P nx0 ids old bot h rest (j+1)) j (h x)) (q1P nx0 ids old bot h rest (j+1))
  |_,_=>q1P nx0 ids old bot h rest (j+1)
def q1y:Option Blk→Bool
 |none=>true
 |some (.row es _)=>es.all (plain 4)
 |some (.mp _ vs)=>vs.all (plain 4)
def q6I (nx0:Nat)(ids:List (Option Nat))(d:D):Bool:=
 match q2i d with
 |none=>plain 4 d
 |some id=>
  match Nat.blt id nx0,placeOf ids id nx0 with
  |true,_=>true
  |false,some _=>true
  |false,none=>false
def okD (nx0:Nat)(ids:List (Option Nat)):D→Bool
 |.agg l=>l.all (q6I nx0 ids)
 |d=>q6I nx0 ids d
def q2B (nx0:Nat)(ids:List (Option Nat)):Option Blk→Bool
 |none=>true
 |some (.row es _)=>es.all (okD nx0 ids)
 |some (.mp _ vs)=>vs.all (plain 4)
def q1h (nx0:Nat)(h:q0e)(id:Nat):Option Blk:=cond (q2B nx0 [] (h id)) (h id) none
theorem qAo:∀(n:Nat) (d:D),plain n d=true→plain (n+1) d=true:=by
 intro n
 induction n with
 |zero=>intro d h;simp[plain]at h
 |succ n ih=>
  intro d h
  cases d<;>first|rfl|(simp[plain]at h;done) |skip
  ·simp only[plain,List.all_eq_true]at h⊢;exact fun x hx=>by simpa[plain]using ih x (h x hx)
  ·simp only[plain,List.all_eq_true]at h⊢;exact fun x hx=>by simpa[plain]using ih x (h x hx)
  simp only[plain,Bool.and_eq_true,List.all_eq_true]at h⊢
  exact⟨fun x hx=>by simpa[plain]using ih x (h.1 x hx),fun x hx=>by simpa[plain]using ih x (h.2 x hx)⟩
theorem qAp {n:Nat}{d:D}(h:plain n d=true):q2i d=none:=by
 cases n with
 |zero=>simp[plain]at h
 |succ n=>cases d<;>first|rfl|simp[plain]at h
theorem qtF {nx0:Nat}{ids:List (Option Nat)}{d:D}(h:plain 4 d=true):okD nx0 ids d=true:=by
 have one:∀x:D,plain 4 x=true→q6I nx0 ids x=true:=fun x hx=>by unfold q6I;rw[qAp hx];exact hx
 cases d with
 |agg l=>exact List.all_eq_true.2 fun x hx=>one x (qAo 3 x (List.all_eq_true.1 h x hx))
 |_=>exact one _ h
theorem q7z {nx0:Nat}{ids:List (Option Nat)}{b:Option Blk}(h:q1y b=true):q2B nx0 ids b=true:=by
 cases b with
 |none=>rfl
 |some b=>
  cases b with
  |row es n=>exact List.all_eq_true.2 fun x hx=>qtF (List.all_eq_true.1 h x hx)
  |mp ks vs=>exact h
def qkh (h:q0e)(t:q0z):Live→Bool
 |[]=>true
 |x::rest=>
  (match q2i (t x.1)with
   |none=>plain 4 (t x.1)
   |some id=>q1y (h id))&&qkh h t rest
def keep (nx0:Nat)(live:Live)(s:St):Option St:=
 match qkh s.heap s.tmps live with
 |true=>some ⟨q9b nx0 (q0E s.tmps live) s.tmps live,q1P nx0 (q0E s.tmps live) (q1h nx0 s.heap) none s.heap (q0E s.tmps live) nx0,q1P nx0 (q0E s.tmps live) s.frz 0 s.frz (q0E s.tmps live) nx0,nx0+live.length⟩
 |false=>none
def q6U (x:Nat):Bool:=Nat.ble 1048576 x
def q5e:Live→Bool
 |[]=>false
 |x::rest=>match q6U x.1 with|true=>true|false=>q5e rest
def nth:List D→Nat→D
 |[],_=> .bad
 |d::_,0=>d
 |_::l,n+1=>nth l n
def look (t:q0z)(h:q0e)(x:Nat):D:=
 match q6U x with
 |false=>t x
 |true=>
  match t (x%1048576)with
  |.ptr id _ _=>
   match h id with
   |some (.row [.agg l] _)=>nth l (x/1048576-1)
   |_=> .bad
  |.ref id off _=>
   match h id,t (x/1048576-1)with
   |some (.row es _),.int _ (.ofNat i)=>nth es (off+i)
   |_,_=> .bad
  |_=> .bad
def q1W (t:q0z)(h:q0e)(live:Live):List (Option Nat):=live.map fun x=>q2i (look t h x.1)
def qtG (x k:Nat)(s:St):St:=
 match q6U x with
 |false=>qxt x k s
 |true=>
  match k,s.tmps (x%1048576)with
  |k+1,.ptr id _ _=>
   match s.heap id with
   |some (.row [.agg l] esz)=>
    match nth l (x/1048576-1)with
    |.nilsl=>⟨s.tmps,upd (upd s.heap s.next (some (.row [] (k+1)))) id (some (.row [.agg (l.set (x/1048576-1) (.ref s.next 0 0))] esz)),upd s.frz s.next 0,s.next+1⟩
    |_=>s
   |_=>s
  |_,_=>s
def q4V:Live→St→St
 |[],s=>s
 |x::rest,s=>q4V rest (qtG x.1 x.2 s)
def qxu (nx0:Nat)(ids:List (Option Nat)):D→D
 |.agg l=> .agg (l.map (q1l nx0 ids))
 |d=>q1l nx0 ids d
def q7A (nx0:Nat)(ids:List (Option Nat)):Option Blk→Option Blk
 |none=>none
 |some (.row es n)=>some (.row (es.map (qxu nx0 ids)) n)
 |some (.mp ks vs)=>some (.mp ks vs)
def qCp (h:q0e)(n:Nat)(d:D):Option D:=
 match d with
 |.nilsl=>some .nilsl
 |d=>q1b h n d
def q4W (nx0:Nat)(ids:List (Option Nat))(x:Nat)(s:St):Option St:=
 match q2i (look s.tmps s.heap x)with
 |none=>
  match q6U x with
  |true=>some s
  |false=>qkg x s
 |some id=>
  match s.heap id with
  |some (.row es esz)=>
   match es.all (okD nx0 ids)with
   |true=>some s
   |false=>
    match es.mapM (qCp s.heap depth)with
    |some es'=>some ⟨s.tmps,upd s.heap id (some (.row es' esz)),q99 s.heap s.frz (es.flatMap (q0T s.heap depth)),s.next⟩
    |none=>none
  |_=>some s
def q4l (nx0:Nat)(ids:List (Option Nat)):Live→St→Option St
 |[],s=>some s
 |x::rest,s=>
  match q4W nx0 ids x.1 s with
  |some s'=>q4l nx0 ids rest s'
  |none=>none
def qhh (nx0:Nat)(ids:List (Option Nat))(t:q0z):Live→q0z
 |[]=>fun _=> .bad
 |x::rest=>upd (qhh nx0 ids t rest) x.1 (match q6U x.1 with|true=> .bad|false=>q1l nx0 ids (t x.1))
def q3H (nx0:Nat)(ids:List (Option Nat))(h:q0e)(t:q0z):Live→Bool
 |[]=>true
 |x::rest=>
  (match q2i (look t h x.1)with
   |none=>match q6U x.1 with|true=>true|false=>plain 4 (t x.1)
   |some id=>q2B nx0 ids (h id))&&q3H nx0 ids h t rest
def qtH (nx0:Nat)(live:Live)(s:St):Option St:=
 match q3H nx0 (q1W s.tmps s.heap live) s.heap s.tmps live with
 |true=>some ⟨qhh nx0 (q1W s.tmps s.heap live) s.tmps live,q1P nx0 (q1W s.tmps s.heap live) (q1h nx0 s.heap) none (fun i=>q7A nx0 (q1W s.tmps s.heap live) (s.heap i)) (q1W s.tmps s.heap live) nx0,q1P nx0 (q1W s.tmps s.heap live) s.frz 0 s.frz (q1W s.tmps s.heap live) nx0,nx0+live.length⟩
 |false=>none
def qa7 (nx0:Nat)(live:Live)(s:St):Option St:=
 match q4l nx0 (q1W (q4V live s).tmps (q4V live s).heap live) live (q4V live s)with
 |some s'=>qtH nx0 live s'
 |none=>none
def settle (nx0:Nat)(live:Live)(s:St):Option St:=
 match q5e live with
 |true=>qa7 nx0 live s
 |false=>
  match q9a live (q4F live s)with
  |some s'=>keep nx0 live s'
  |none=>none
def qbm (nx0:Nat)(live:Live)(body:St→Option (Ex×St)):Nat→St→Option (Ex×St)
 |0,_=>none
 |k+1,s=>
  match settle nx0 live s with
  |none=>none
  |some s=>
   match body s with
   |some (.normal,s')=>qbm nx0 live body k s'
   |some (.exit i,s')=>some (.exit i,s')
   |some (.ret,s')=>some (.ret,s')
   |none=>none
def q9c:Nat:=2^62
def q4d:Code→Nat
 |.region id _ _=>id
 |.seq a _=>q4d a
 |.block _ c=>q4d c
 |.loop c=>q4d c
 |_=>0
structure Plan where
 lv:Nat→Live
 bs:Nat→Nat
 vt:List Nat
 em:Bool
 sp:Nat→Sp
def q2L (P:Program)(E:Env)(pl:Plan)(nx0:Nat):Code→St→Option (Ex×St)
 |.skip,s=>some (.normal,s)
 |.region r ops draw,s=>
  match Nat.ble s.next (nx0+pl.bs r)with
  |true=>
   match q97 P E draw (pl.sp r) ops (nx0+pl.bs r) ops.toList 0 ⟨s.tmps,s.heap,s.frz,nx0+pl.bs r+ops.size⟩with
   |some s'=>some (.normal,s')
   |none=>none
  |false=>none
 |.seq a b,s=>
  match q2L P E pl nx0 a s with
  |some (.normal,s')=>q2L P E pl nx0 b s'
  |some (.exit i,s')=>some (.exit i,s')
  |some (.ret,s')=>some (.ret,s')
  |none=>none
 |.cond c a b,s=>
  match ev s.tmps c with
  |.bool true=>q2L P E pl nx0 a s
  |.bool false=>q2L P E pl nx0 b s
  |_=>none
 |.block id c,s=>
  match q2L P E pl nx0 c s with
  |some (.exit i,s')=>if i=id then some (.normal,s')else some (.exit i,s')
  |some (.normal,s')=>some (.normal,s')
  |some (.ret,s')=>some (.ret,s')
  |none=>none
 |.loop c,s=>qbm nx0 (pl.lv (q4d c)) (q2L P E pl nx0 c) q9c s
 |.exit id,s=>some (.exit id,s)
 |.ret,s=>some (.ret,s)
 |_,_=>none
def q7j (P:Program)(s:St):ResultVar→Option D
 |.tmp t=>some (s.tmps t)
 |.cell a t=>load P s.heap t (s.tmps a)
def q7B (P:Program)(fn:Func)(s:St):Option D:=
 match fn.results.toList.mapM (q7j P s)with
 |some [d]=>some d
 |some l=>some (.tup l)
 |none=>none
def enter (args:List D):q0z:=fun t=>args.getD t (.tup [])
def body (P:Program)(E:Env)(pl:Plan)(fn:Func)(c:Code)(args:List D)(h:q0e)(z:Frz)(nx:Nat):Option (D×q0e×Frz×Nat):=
 match q2L P E pl nx c ⟨enter args,h,z,nx⟩with
 |some (.ret,s)=>(q7B P fn s).map fun d=>(d,s.heap,s.frz,s.next)
 |some (.normal,s)=>(q7B P fn s).map fun d=>(d,s.heap,s.frz,s.next)
 |_=>none
def empty:q0e:=fun _=>none
def qgU:Frz:=fun _=>0
def qGk:List D→Option D
 |[.float .f64 x]=>(FloatKind.f64.format.sqrt x).map (.float .f64)
 |_=>none
def q8l:List D→Bool
 |[.nilsl]=>true
 |[.lst []]=>true
 |[.ref _ _ 0]=>true
 |_=>false
def env (P:Program)(shared:FuncId→Bool)(pl:FuncId→Plan):Nat→Env
 |0=>⟨fun _ _=>none,fun _ _ _ _ _=>none,shared⟩
 |n+1=>
  ⟨fun f args=>
    match P.funcs[f]? with
    |none=>none
    |some fn=>
     match fn.body with
     |none=>if fn.name== "math.sqrt" then qGk args else none
     |some c=>
      match body P (env P shared pl n) (pl f) fn c args empty qgU 0 with
      |none=>none
      |some (d,h,_,_)=>q1b h depth d,
   fun f args h z nx=>
    match P.funcs[f]? with
    |none=>none
    |some fn=>
     match fn.body with
     |none=>none
     |some c=>
      match(pl f).em&&q8l args with
      |true=>some (.lst [],h,z,nx)
      |false=>body P (env P shared pl n) (pl f) fn c args h z nx,
   shared⟩
def run (P:Program)(shared:FuncId→Bool)(pl:FuncId→Plan)(n:Nat)(f:FuncId)(args:List D):Option D:=(env P shared pl n).pure f args
end Go.F
