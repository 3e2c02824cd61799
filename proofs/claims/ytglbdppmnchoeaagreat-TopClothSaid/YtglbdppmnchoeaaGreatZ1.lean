/- Part 1. -/
import GoSem.Dispatch
set_option linter.all false
namespace Go.F
theorem eE {c:Prop}{i:Decidable c}{α:Sort _}{a b:α}(h:¬c:=by omega):ite c a b=b:=if_neg h
theorem rA {c:Prop}{i:Decidable c}{α:Sort _}{a b:α}(h:c:=by omega):ite c a b=a:=if_pos h
abbrev tr:=trivial
abbrev zA:=@List.length_map
abbrev zB:=@Nat.zero_le
abbrev zC:=@Nat.zero_add
abbrev zD:=@Nat.le_refl
abbrev zE:=@List.getElem_mem
abbrev zF:=@Nat.mul_le_mul_right
abbrev zG:=@List.mem_cons_of_mem
abbrev zH:=@List.take_length
abbrev zI:=@Nat.mod_lt
abbrev zJ:=@Bool.and_eq_true
abbrev zK:=@List.getElem?_eq_getElem
abbrev zL:=@List.length_append
abbrev zM:=@List.all_eq_true
abbrev zN:=@Bool.eq_iff_iff
abbrev zO:=@List.mem_cons_self
abbrev zP:=@List.mem_cons
abbrev zQ:=@decide_eq_false_iff_not
abbrev zR:=@Nat.le_trans
abbrev zS:=@Array.getElem?_eq_some_iff
abbrev zT:=@decide_eq_true_eq
abbrev zU:=@Nat.mod_eq_of_lt
abbrev zV:=@Option.some.injEq
abbrev zW:=@Rat.mul_nonneg
abbrev zX:=@congrArg
abbrev zY:=@List.all_append
abbrev zZ:=@List.take_of_length_le
abbrev za:=@List.mem_append
abbrev zb:=@List.map_append
abbrev zc:=@Nat.lt_of_lt_of_le
abbrev ze:=@List.mem_iff_getElem
abbrev zf:=@Nat.mul_le_mul_left
abbrev zg:=@List.map_cons
abbrev zh:=@List.mem_of_getElem?
abbrev zi:=@Bool.not_eq_false
abbrev zj:=@Bool.not_eq_true
abbrev zk:=@Nat.le_of_ble_eq_true
abbrev zl:=@Nat.eq_of_beq_eq_true
abbrev zm:=@Nat.div_lt_iff_lt_mul
abbrev zp:=@List.ext_getElem
abbrev zq:=@Nat.lt_of_le_of_lt
abbrev zt:=@List.mem_of_mem_take
abbrev zu:=@Nat.pow_le_pow_right
abbrev zw:=@Nat.ble_eq_true_of_le
abbrev zx:=@Nat.mul_comm
abbrev zy:=@List.mem_map
abbrev zz:=@List.drop_eq_getElem_cons
abbrev z6:=@Nat.mul_le_mul
abbrev z7:=@List.append_assoc
abbrev z8:=@List.mem_singleton
abbrev yA:=@List.map_congr_left
abbrev yB:=@List.getElem?_eq_some_iff
abbrev yC:=@Array.getElem?_eq_getElem
abbrev yD:=@List.map_take
abbrev yF:=@Rat.intCast_le_intCast
abbrev yG:=@Nat.add_assoc
abbrev yH:=@Nat.div_add_mod
abbrev yI:=@List.append_nil
abbrev yJ:=@List.mem_of_mem_drop
abbrev yK:=@Rat.div_mul_cancel
abbrev yL:=@List.length_singleton
abbrev yM:=@List.length_cons
abbrev yN:=@List.mem_range
abbrev yO:=@Int.not_lt
abbrev yP:=@Nat.mul_add
abbrev yS:=@decide_eq_false
abbrev yT:=@List.getD_eq_getElem?_getD
abbrev yV:=@Int.natAbs_mul
abbrev yW:=@Int.toNat_natCast
abbrev yX:=@Nat.add_mul
abbrev yY:=@List.drop_of_length_le
abbrev yZ:=@Int.not_le
abbrev vI:=@Int.mul_nonneg
abbrev vJ:=@Nat.div_le_self
abbrev yc:=@List.mem_flatMap
abbrev yd:=@List.take_succ_eq_append_getElem
abbrev ye:=@Nat.pow_succ
abbrev yf:=@List.length_nil
abbrev yh:=@List.getElem?_append_left
abbrev yi:=@Nat.mul_assoc
abbrev yj:=@List.nil_append
abbrev yk:=@Nat.two_pow_pos
abbrev yl:=@List.pairwise_cons
abbrev ym:=@Nat.div_lt_of_lt_mul
abbrev yn:=@Nat.pow_add
abbrev yo:=@List.take_zero
abbrev yp:=@List.mem_or_eq_of_mem_set
abbrev yq:=@Nat.le_div_iff_mul_le
abbrev yr:=@List.getElem_set
abbrev yu:=@List.getElem_append_left
abbrev yv:=@List.map_map
abbrev yw:=@Rat.intCast_eq_zero_iff
abbrev yx:=@List.take_set_of_le
abbrev yy:=@Array.length_toList
abbrev yz:=@Nat.div_mul_le_self
abbrev y3:=@Nat.succ_mul
abbrev y4:=@Nat.two_pow_add_eq_or_of_lt
abbrev y5:=@Nat.lt_trans
abbrev y6:=@Nat.lt_or_ge
abbrev y7:=@Nat.pow_pos
abbrev y8:=@List.length_take
abbrev y9:=@List.getElem_map
abbrev xA:=@List.drop_length
abbrev xB:=@List.mapM_cons
abbrev xC:=@BitVec.toNat_ofNat
abbrev xD:=@decide_eq_true
abbrev xE:=@List.mem_filter
abbrev xF:=@Bool.or_eq_true
abbrev xG:=@Option.some.inj
abbrev xH:=@Bool.not_eq_true'
abbrev xI:=@List.range_eq_range'
abbrev xJ:=@Array.all_eq_true_iff_forall_mem
abbrev xK:=@Rat.mul_pos
abbrev xL:=@Int.le_refl
abbrev xM:=@Nat.lt_of_not_le
abbrev xN:=@List.cons_append
abbrev xO:=@Int.mul_le_mul_of_nonneg_left
abbrev xP:=@Nat.add_sub_cancel
abbrev xQ:=@Int.le_of_lt
abbrev xR:=@Option.map_some
abbrev xS:=@Rat.mul_eq_zero
abbrev xT:=@List.map_drop
abbrev xU:=@List.eq_nil_or_concat
abbrev xV:=@List.size_toArray
abbrev xW:=@Nat.mul_lt_mul_of_pos_right
abbrev xX:=@List.getElem?_append_right
abbrev xY:=@Array.getElem?_append_left
abbrev xZ:=@Nat.log2_lt
abbrev xa:=@Nat.add_mul_div_left
abbrev xb:=@List.range'_succ
abbrev xc:=@List.any_eq_true
abbrev xd:=@Nat.le_of_lt
abbrev xf:=@Nat.div_eq_of_lt
abbrev xg:=@List.getElem_append_right
abbrev xh:=@List.pairwise_iff_getElem
abbrev xi:=@Classical.byContradiction
abbrev xj:=@List.getElem?_take_of_lt
abbrev xl:=@List.all_cons
abbrev xm:=@Int.ediv_nonneg
abbrev xn:=@Rat.intCast_sub
abbrev xo:=@List.range_succ
abbrev xp:=@Array.foldl_toList
abbrev xq:=@Bool.false_eq_true
abbrev xr:=@Int.mul_nonneg_of_nonpos_of_nonpos
abbrev xt:=@Nat.sub_add_cancel
abbrev xu:=@Nat.eq_zero_or_pos
abbrev xw:=@List.drop_drop
abbrev xx:=@List.pairwise_lt_range
abbrev xy:=@List.length_eq_one_iff
abbrev xz:=@List.all_map
abbrev x5:=@Nat.div_div_eq_div_mul
abbrev x6:=@List.drop_zero
abbrev x7:=@of_decide_eq_true
abbrev x8:=@Rat.le_of_lt
abbrev x9:=@List.getElem_set_self
abbrev wA:=@List.take_append_drop
abbrev wB:=@List.drop_append
abbrev wC:=@Option.getD_some
abbrev wD:=@Int.ediv_le_self
abbrev wE:=@Nat.and_two_pow_sub_one_eq_mod
abbrev wF:=@Int.mul_le_mul_of_nonneg_right
abbrev wG:=@Bool.true_and
abbrev wH:=@Array.getElem_toList
abbrev wI:=@Nat.min_eq_left
abbrev wJ:=@List.nodup_cons
abbrev wK:=@List.length_set
abbrev wL:=@Nat.not_lt_zero
abbrev wM:=@BitVec.toNat_or
abbrev wN:=@Nat.mul_ne_zero
abbrev wO:=@List.drop_set_of_lt
abbrev wQ:=@List.length_pos_iff
abbrev wR:=@List.getElem_of_mem
abbrev wV:=@Array.getD_eq_getD_getElem?
abbrev wW:=@Nat.pos_of_ne_zero
abbrev wX:=@List.nodup_nil
abbrev wY:=@Int.tdiv_eq_ediv_of_nonneg
abbrev wZ:=@Int.lt_or_gt_of_ne
abbrev wa:=@Array.mapM_eq_mapM_toList
abbrev we:=@Int.mul_neg_of_neg_of_pos
abbrev wh:=@Nat.lt_of_mul_lt_mul_left
abbrev wn:=@Nat.mul_one
abbrev wt:=@Nat.lt_trichotomy
abbrev wu:=@List.any_eq_false
abbrev wv:=@Nat.le_of_lt_succ
abbrev wx:=@Nat.add_mod_right
abbrev wy:=@List.take_append
abbrev wz:=@Nat.add_sub_cancel_left
abbrev w7:=@Nat.le_mul_of_pos_right
abbrev w8:=@Nat.mul_lt_mul''
abbrev w9:=@Nat.lt_log2_self
abbrev vA:=@Int.le_total
abbrev vB:=@Nat.add_comm
abbrev vC:=@Nat.mod_self
abbrev vD:=@Nat.le_of_eq
abbrev vE:=@if_false
abbrev vF:=@Nat.one_mul
abbrev vG:=@List.mapM_nil
abbrev vH:=@Array.ext
abbrev w5:=@List.not_mem_nil
abbrev vK:=@List.length_filter_le
abbrev vL:=@List.length_replicate
abbrev vM:=@or_false
abbrev vN:=@List.sum_append
abbrev vO:=@Int.mul_comm
abbrev vP:=@List.filter_cons
abbrev vQ:=@List.mem_take_iff_getElem
abbrev vR:=@List.getElem_take
abbrev vS:=@Nat.lt_succ_self
abbrev vT:=@List.foldl_cons
abbrev vV:=@List.mergeSort_perm
abbrev vW:=@List.map_nil
abbrev vY:=@List.length_eq_zero_iff
abbrev vZ:=@List.pairwise_mergeSort
abbrev vd:=@if_neg
abbrev ve:=@if_pos
inductive D where
 |bool (b:Bool)
 |int (k:IntKind) (n:Int)
 |float (k:FloatKind) (bits:Nat)
 |str (s:ByteArray)
 |nilsl
 |lst (l:List D)
 |ref (id off len:Nat)
 |pl (e:D) (o:Nat)
 |ptr (id i o:Nat)
 |agg (l:List D)
 |tup (l:List D)
 |fn (f:FuncId) (first cap:List D)
 |mref (id:Nat)
 |mlst (ks:List D) (vs:List D)
 |opq (v:Value)
 |bad
 deriving Inhabited
inductive Blk where
 |row (es:List D) (esz:Nat)
 |mp (ks:List D) (vs:List D)
abbrev Ke:=List (Option Nat)
abbrev Hm:=List D
abbrev ab:=Nat->Option Blk
abbrev Frz:=Nat->Nat
abbrev ai:=Nat->D
structure St where
 tmps:ai
 heap:ab
 frz:Frz
 next:Nat
structure Out where
 v:D
 hp:List (Nat×Option Blk)
 fz:List (Nat×Nat)
def out (v:D):Out:=⟨v,[],[]⟩
inductive Ex where
 |normal
 |exit (id:Nat)
 |ret
 deriving DecidableEq
def upd {α:Type}(f:Nat->α)(i:Nat)(v:α):Nat->α:=fun k=>cond (Nat.beq k i) v (f k)
def D.cells:D->List D
 |.agg l=>l
 |d=>[d]
def ZL:Value->D
 |.bool b=> .bool b
 |.int k n=> .int k n
 |.float k b=> .float k b
 |.string s=> .str s
 |.slice none 0 0=> .nilsl
 |.func (.func f) ⟨[]⟩ ⟨[]⟩=> .fn f [] []
 |.agg _=> .bad
 |.tuple _=> .bad
 |v=> .opq v
def D.one:D->Bool
 |.agg _=>false
 |.tup _=>false
 |.bad=>false
 |_=>true
def D.scalar:D->Bool
 |.bool _=>true
 |.int _ _=>true
 |.float _ _=>true
 |.str _=>true
 |_=>false
def D.sto:D->Bool
 |.tup _=>false
 |.bad=>false
 |_=>true
def aggOf (l:List D):D:=if l.all D.one then .agg l else .bad
def eh:Value->D
 |.agg vs=>aggOf (vs.toList.map ZL)
 |.tuple ⟨[]⟩=> .tup []
 |v=>ZL v
def ev (t:ai):Operand->D
 |.tmp i=>t i
 |.const v=>eh v
 |.global _=> .bad
 |.func f=> .fn f [] []
def isAgg (P:Program)(t:TypeId):Option Bool:=
 match P.underlying t with
 |some (.struct _)=>some true
 |some (.array _ _)=>some true
 |some _=>some false
 |none=>none
def sizeOf (P:Program)(t:TypeId):Option Nat:=(P.info? t).map (·.size)
def bytesOf (P:Program)(t:TypeId):Option Nat:=(P.info? t).map (·.bytes)
def zeroOf (P:Program)(t:TypeId):Option D:=((P.info? t).bind (·.zero)).map eh
def elemOf (P:Program)(t:TypeId):Option TypeId:=
 match P.underlying t with
 |some (.slice e)=>some e
 |_=>none
def arith (op:BinOp)(k:IntKind)(x y:Int):Option D:=
 match op with
 |.add=>some (.int k (k.wrap (x+y)))
 |.sub=>some (.int k (k.wrap (x-y)))
 |.mul=>some (.int k (k.wrap (x*y)))
 |.quo=>if y=0 then none else some (.int k (k.wrap (x.tdiv y)))
 |.rem=>if y=0 then none else some (.int k (x.tmod y))
 |.and=>some (.int k (k.wrap (BitVec.ofInt k.bits x&&&BitVec.ofInt k.bits y).toNat))
 |.or=>some (.int k (k.wrap (BitVec.ofInt k.bits x|||BitVec.ofInt k.bits y).toNat))
 |.xor=>some (.int k (k.wrap (BitVec.ofInt k.bits x^^^BitVec.ofInt k.bits y).toNat))
 |.andNot=>some (.int k (k.wrap (BitVec.ofInt k.bits x&&& ~~~BitVec.ofInt k.bits y).toNat))
 |.eql=>some (.bool (x==y))
 |.neq=>some (.bool (x !=y))
 |.lss=>some (.bool (decide (x<y)))
 |.leq=>some (.bool (decide (x<=y)))
 |.gtr=>some (.bool (decide (x>y)))
 |.geq=>some (.bool (decide (x>=y)))
 |_=>none
def shift (op:BinOp)(k:IntKind)(x y:Int):Option D:=
 if y<0 then none else
 match op with
 |.shl=>some (.int k (k.wrap (x*2^min y.toNat k.bits)))
 |.shr=>some (.int k (x.fdiv (2^min y.toNat k.bits)))
 |_=>none
def jS:BinOp->Bool
 |.shl|.shr=>true
 |_=>false
def sX (op:BinOp)(x y:ByteArray):Option D:=
 match op with
 |.add=>if((x.size+y.size:Nat):Int)>IntKind.i64.max then none else some (.str (x++y))
 |.eql=>some (.bool (x.toList==y.toList))
 |.neq=>some (.bool !(x.toList==y.toList))
 |.lss=>some (.bool (Op.bytesLess x.toList y.toList))
 |.leq=>some (.bool (Op.bytesLess x.toList y.toList||x.toList==y.toList))
 |.gtr=>some (.bool !(Op.bytesLess x.toList y.toList||x.toList==y.toList))
 |.geq=>some (.bool !(Op.bytesLess x.toList y.toList))
 |_=>none
def N3 (P:Program)(f:Field)(i:Nat):Bool:=
 f.offset==i&&f.name != "_" &&
 (match P.underlying f.type with
  |some .bool=>true
  |some (.int _)=>true
  |some .string=>true
  |_=>false)
def uL (P:Program)(t:TypeId):Option (List Field):=
 match P.underlying t with
 |some (.struct a)=>
  if a.toList.zipIdx.all (fun x=>N3 P x.1 x.2)&&!P.stoodInHeld t&&!P.eqGuardType P.depth t then some a.toList else none
 |_=>none
def gZ (P:Program)(Q:TypeId->Option (List Field)):List Field->Nat->Option (List Field)
 |[],_=>some []
 |f::a,i=>
  match N3 P f i with
  |true=>
   match gZ P Q a (i+1)with
   |some l=>some (f::l)
   |none=>none
  |false=>
   match Q f.type with
   |some l=>
    if f.offset=i/\f.name≠ "_" /\sizeOf P f.type=some l.length/\isAgg P f.type=some true then
     match gZ P Q a (i+l.length)with
     |some r=>some (l++r)
     |none=>none
    else none
   |none=>none
def jq (P:Program):Nat->TypeId->Option (List Field)
 |0,t=>uL P t
 |n+1,t=>
  match jq P n t with
  |some a=>some a
  |none=>
   match P.underlying t with
   |some (.struct a)=>if !P.stoodInHeld t&&!P.eqGuardType P.depth t then gZ P (jq P n) a.toList 0 else none
   |_=>none
abbrev mG (P:Program)(t:TypeId):Option (List Field):=jq P 2 t
theorem Ao {P:Program}{t:TypeId}{d:List Field}(b:uL P t=some d):∃c:Array Field,P.underlying t=some (.struct c)/\d=c.toList/\(d.zipIdx).all (fun x=>N3 P x.1 x.2)=true/\P.stoodInHeld t=false/\P.eqGuardType P.depth t=false:=by
 unfold uL at b;split at b
 .rename_i c e;split at b
  .rename_i a;simp only[zJ,xH]at a;simp at b;subst b;exact⟨c,e,rfl,a.1.1,a.1.2,a.2⟩
  cases b
 cases b
theorem Ar {P:Program}{n:Nat}{t:TypeId}{b:List Field}(h:jq P (n+1) t=some b):jq P n t=some b\/∃a:Array Field,P.underlying t=some (.struct a)/\gZ P (jq P n) a.toList 0=some b/\P.stoodInHeld t=false/\P.eqGuardType P.depth t=false:=by
 rw[jq]at h;split at h
 .rename_i d e;cases h;exact .inl e
 split at h
 .rename_i a f;split at h
  .rename_i c;simp only[zJ,xH]at c;exact .inr ⟨a,f,h,c.1,c.2⟩
  cases h
 cases h
theorem I0 {P:Program}:∀{n:Nat} {t:TypeId} {b:List Field},jq P n t=some b->(∃a:Array Field,P.underlying t=some (.struct a))/\P.eqGuardType P.depth t=false
 |0,t,b,h=>let ⟨a,h1,_,_,_,c⟩:=Ao h;⟨⟨a,h1⟩,c⟩
 |n+1,t,b,h=>by
  rcases Ar h with h|⟨a,h1,_,_,c⟩
  .exact I0 h
  exact⟨⟨a,h1⟩,c⟩
def iq:D->D->Option Bool
 |.bool a,.bool b=>some (a==b)
 |.int k a,.int c b=>if k=c then some (a==b)else none
 |.str a,.str b=>some (a==b)
 |_,_=>none
def ie (P:Program)(f:Field):D->Bool
 |.bool _=>match P.underlying f.type with|some .bool=>true|_=>false
 |.int _ _=>match P.underlying f.type with|some (.int _)=>true|_=>false
 |.str _=>match P.underlying f.type with|some .string=>true|_=>false
 |_=>false
def dh (P:Program):List Field->List D->List D->Option Bool
 |[],[],[]=>some true
 |f::a,x::b,y::ys=>
  if ie P f x&&ie P f y then
   match iq x y with
   |some true=>dh P a b ys
   |some false=>if a.length=b.length/\a.length=ys.length then some false else none
   |none=>none
  else none
 |_,_,_=>none
def equal (P:Program)(t:TypeId)(x y:D):Option Bool:=
 match x,y with
 |.bool a,.bool b=>match P.underlying t with|some .bool=>some (a==b) |_=>none
 |.agg c,.agg ys=>
  match mG P t with
  |some d=>dh P d c ys
  |none=>none
 |_,_=>none
def bin (P:Program)(op:BinOp)(t:TypeId)(x y:D):Option D:=
 match x,y with
 |.int k a,.int c b=>if jS op then shift op k a b else if k=c then arith op k a b else none
 |.str a,.str b=>sX op a b
 |x,y=>
  match op with
  |.eql=>(equal P t x y).map .bool
  |.neq=>(equal P t x y).map fun b=> .bool !b
  |_=>none
def ri:Operand->Bool
 |.const (.slice none 0 0)=>true
 |_=>false
def pk:D->Bool
 |.lst (_::_)=>true
 |.ref _ _ (_+1)=>true
 |_=>false
def isSlice (P:Program)(t:TypeId):Bool:=
 match P.underlying t with
 |some (.slice _)=>true
 |_=>false
def qH:Operand->Bool
 |.const (.map none)=>true
 |_=>false
def nZ:D->Option Bool
 |.mref _=>some false
 |.mlst _ _=>some false
 |.opq (.map none)=>some true
 |_=>none
def isMap (P:Program)(t:TypeId):Bool:=
 match P.underlying t with
 |some (.map _ _)=>true
 |_=>false
def binX (P:Program)(t:ai)(op:BinOp)(ty:TypeId)(x y:Operand):Option D:=
 match ri y&&isSlice P ty&&pk (ev t x),op with
 |true,.eql=>some (.bool false)
 |true,.neq=>some (.bool true)
 |_,_=>
  match qH y&&isMap P ty,op with
  |true,.eql=>(nZ (ev t x)).map .bool
  |true,.neq=>(nZ (ev t x)).map fun b=> .bool !b
  |_,_=>bin P op ty (ev t x) (ev t y)
def un (op:UnOp)(x:D):Option D:=
 match op,x with
 |.neg,.int k n=>some (.int k (k.wrap (0-n)))
 |.xor,.int k n=>some (.int k (k.wrap (BitVec.ofInt k.bits (if k.signed then-1 else k.max)^^^BitVec.ofInt k.bits n).toNat))
 |.not,.bool b=>some (.bool !b)
 |_,_=>none
def window (h:ab):D->Option (List D)
 |.nilsl=>some []
 |.lst l=>some l
 |.ref id off len=>
  match h id with
  |some (.row es _)=>if off+len<=es.length then some ((es.drop off).take len)else none
  |_=>none
 |_=>none
def mi:List D->Option (List UInt8)
 |[]=>some []
 |.int .u8 n::l=>(mi l).map (UInt8.ofNat n.toNat::·)
 |_=>none
def conv (P:Program)(h:ab)(src a:TypeId)(x:D):Option D:=
 match P.underlying src,P.underlying a,x with
 |some _,some (.int k),.int _ n=>some (.int k (k.wrap n))
 |some _,some (.float k),.int _ n=>some (.float k (k.nearest n))
 |some _,some (.int k),.float s b=>
  match(s.decode b).toInt .zero with
  |some n=>if k.min<=n/\n<=k.max then some (.int k n)else none
  |none=>none
 |some _,some .string,.str s=>some (.str s)
 |some (.slice e),some .string,x=>
  match P.underlying e with
  |some (.int .u8)=>
   match window h x with
   |some l=>if l.all (fun e=>e.cells.length==1)then(mi l).map fun c=> .str ⟨c.toArray⟩else none
   |none=>none
  |_=>none
 |_,_,_=>none
def jt (h:ab):D->Option (List D×Nat)
 |.ptr id i o=>
  match h id with
  |some (.row es _)=>(es[i]?).map fun e=>(e.cells,o)
  |_=>none
 |.pl e o=>some (e.cells,o)
 |_=>none
def load (P:Program)(h:ab)(t:TypeId)(a:D):Option D:=
 match jt h a,isAgg P t,sizeOf P t with
 |some (cs,o),some true,some n=>if o+n<=cs.length then some (.agg ((cs.drop o).take n))else none
 |some (cs,o),some false,some _=>cs[o]?
 |_,_,_=>none
def setCells (e:D)(o:Nat)(vs:List D):Option D:=
 match e with
 |.agg cs=>if o+vs.length<=cs.length then some (.agg (cs.take o++vs++cs.drop (o+vs.length)))else none
 |_=>match o,vs with
  |0,[v]=>some v
  |_,_=>none
def store (P:Program)(h:ab)(z:Frz)(t:TypeId)(a v:D):Option Out:=
 match a,sizeOf P t with
 |.ptr id i o,some n=>
  if v.cells.length=n/\v.sto=true then
   match h id with
   |some (.row es esz)=>
    if z id<=i then
     match es[i]? with
     |some e=>match setCells e o v.cells with
      |some e'=>some ⟨.tup [],[(id,some (.row (es.set i e') esz))],[]⟩
      |none=>none
     |none=>none
    else none
   |_=>none
  else none
 |_,_=>none
def uU (P:Program)(s:TypeId)(f:Nat):Option Nat:=
 match P.underlying s with
 |some (.struct a)=>match a[f]? with
  |some f=>match sizeOf P f.type with
   |some 0=>none
   |some _=>some f.offset
   |none=>none
  |none=>none
 |_=>none
def lA (a:D)(n:Nat):Option D:=
 match a with
 |.ptr id i o=>some (.ptr id i (o+n))
 |.pl e o=>some (.pl e (o+n))
 |_=>none
def jJ:D->Option Nat
 |.int _ n=>if 0<=n then some n.toNat else none
 |_=>none
def indexAddr (P:Program)(h:ab)(t:TypeId)(x a:D):Option D:=
 match jJ a,P.underlying t with
 |some i,some (.slice e)=>
  match sizeOf P e,x with
  |some n,.lst l=>
   match l[i]? with
   |some d=>if d.cells.length=n/\0<n then some (.pl d 0)else none
   |none=>none
  |some n,.ref id off len=>
   if i<len then
    match h id with
    |some (.row _ esz)=>if esz=n then some (.ptr id (off+i) 0)else none
    |_=>none
   else none
  |_,_=>none
 |some i,some (.array len e)=>
  match sizeOf P e with
  |some n=>if i<len then lA x (i*n)else none
  |none=>none
 |_,_=>none
def index (P:Program)(t:TypeId)(x a:D):Option D:=
 match jJ a,P.underlying t,x with
 |some i,some (.array len e),.agg cs=>
  if i<len then
   match isAgg P e,sizeOf P e with
   |some true,some n=>if i*n+n<=cs.length then some (.agg ((cs.drop (i*n)).take n))else none
   |some false,some n=>cs[i*n]?
   |_,_=>none
  else none
 |some i,some .string,.str s=>
  match s.toList[i]? with
  |some b=>some (.int .u8 b.toNat)
  |none=>none
 |_,_,_=>none
def bound (x:Option D)(a:Nat):Option Nat:=
 match x with
 |none=>some a
 |some d=>jJ d
def chunks (n:Nat)(ag:Bool):Nat->List D->List D
 |0,_=>[]
 |k+1,cs=>(if ag then .agg (cs.take n)else(cs.headD .bad))::chunks n ag k (cs.drop n)
def aV (h:ab)(id:Nat):Nat:=
 match h id with
 |some (.row es _)=>es.length
 |some (.mp _ _)=>1
 |none=>0
def nk (hi:Option D)(m:D):Bool:=
 match hi,jJ m with
 |some _,some 0=>true
 |_,_=>false
def ll (P:Program)(h:ab)(t:TypeId)(x:D)(lo hi c:Option D):Option Out:=
 match P.underlying t,x with
 |some .string,.str s=>
  match c,bound lo 0,bound hi s.size with
  |none,some l,some r=>if l<=r/\r<=s.size then some (out (.str (s.extract l r)))else none
  |_,_,_=>none
 |some (.slice e),.nilsl=>
  match sizeOf P e with
  |none=>none
  |some _=>
   match c,bound lo 0,bound hi 0 with
   |none,some 0,some 0=>some (out .nilsl)
   |some m,some 0,some 0=>if nk hi m then some (out .nilsl)else none
   |_,_,_=>none
 |some (.slice e),.lst l=>
  match sizeOf P e with
  |none=>none
  |some n=>
   if l.all (fun d=>d.cells.length==n)then
    match c,bound lo 0,bound hi l.length with
    |none,some a,some b=>if a<=b/\b<=l.length then some (out (.lst ((l.drop a).take (b-a))))else none
    |some m,some 0,some 0=>if nk hi m then some (out .nilsl)else none
    |_,_,_=>none
   else none
 |some (.slice e),.ref id off len=>
  match h id,sizeOf P e with
  |some (.row _ esz),some n=>
   if esz=n then
    match c,bound lo 0,bound hi len with
    |none,some a,some b=>
     if a<=b/\b<=len then(if a=0 then some (out (.ref id off b))else if a=b then some (out (.lst []))else some (out (.ref id (off+a) (b-a))))else none
    |some m,some 0,some 0=>if nk hi m then some (out .nilsl)else none
    |_,_,_=>none
   else none
  |_,_=>none
 |some (.array n e),.ptr id _ o=>
  match lo,hi,c,jt h x,isAgg P e,sizeOf P e with
  |none,none,none,some (cs,_),some ag,some k=>
   if 0<k/\o+n*k<=cs.length/\(ag=true\/k=1)/\cs.all D.scalar then some ⟨.lst (chunks k ag n (cs.drop o)),[],[(id,aV h id)]⟩else none
  |_,_,_,_,_,_=>none
 |_,_=>none
def iN (t:ai)(place:Nat->Option (Nat×Nat))(a:List D):List (Nat×Operand)->Option (List D)
 |[]=>some a
 |(i,x)::rest=>
  match place i with
  |none=>none
  |some (off,size)=>
   let v:=(ev t x).cells
   if v.length=size/\off+v.length<=a.length/\(ev t x).sto=true then iN t place (a.take off++v++a.drop (off+v.length)) rest else none
def Zx (P:Program)(a:List Field):Option (List (Nat×Nat)):=
 a.mapM fun f=>(sizeOf P f.type).map fun n=>(f.offset,n)
def build (P:Program)(t:ai)(ty:TypeId)(parts:List (Nat×Operand)):Option D:=
 match P.underlying ty,zeroOf P ty with
 |some (.struct b),some z=>
  match Zx P b.toList with
  |some a=>if z.sto then(iN t (fun i=>a[i]?) z.cells parts).map .agg else none
  |none=>none
 |some (.array _ e),some z=>
  match sizeOf P e with
  |some n=>if z.sto then(iN t (fun i=>some (i*n,n)) z.cells parts).map .agg else none
  |none=>none
 |_,_=>none
def iZ (t:ai)(size:Nat)(es:List D):List (Nat×Operand)->Option (List D)
 |[]=>some es
 |(i,x)::rest=>
  let v:=ev t x
  if v.cells.length=size/\i<es.length/\v.sto=true then iZ t size (es.set i v) rest else none
def newRow (id:Nat)(es:List D)(esz:Nat)(v:D):Out:=⟨v,[(id,some (.row es esz))],[(id,0)]⟩
def aK:Nat:=2^40
def jH (P:Program)(h:ab)(z:Frz)(id:Nat)(e:TypeId)(s:D)(new:List D):Option Out:=
 match sizeOf P e,bytesOf P e,zeroOf P e with
 |some n,some b,some d=>
  if 0<n/\d.sto=true/\d.cells.length=n/\new.all (fun d=>d.cells.length==n)then
   match s with
   |.nilsl=>if new.length*(b+1)<=aK then some (newRow id new n (.ref id 0 new.length))else none
   |.ref id0 0 len=>
    match h id0 with
    |some (.row es esz)=>
     if esz=n/\len<=es.length/\z id0<=len/\(len+new.length) *(b+1)<=aK then
      some ⟨.ref id 0 (len+new.length),[(id0,none),(id,some (.row (es.take len++new) n))],[(id,z id0)]⟩
     else none
    |_=>none
   |_=>none
  else none
 |_,_,_=>none
def append (P:Program)(h:ab)(z:Frz)(id:Nat)(argTypes:List TypeId)(args:List D):Option Out:=
 match argTypes,args with
 |[t,u],[s,x]=>
  match elemOf P t with
  |none=>none
  |some e=>
   match P.underlying u with
   |some (.int _)=>
    match jJ x,zeroOf P e with
    |some n,some d=>if n<=aK/\d.sto=true then jH P h z id e s (List.replicate n d)else none
    |_,_=>none
   |some .string=>
    match x with
    |.str b=>jH P h z id e s (b.toList.map fun c=> .int .u8 c.toNat)
    |_=>none
   |some (.slice _)=>
    match window h x with
    |some l=>jH P h z id e s l
    |none=>none
   |_=>none
 |_,_=>none
def copy (P:Program)(h:ab)(z:Frz)(argTypes:List TypeId)(args:List D):Option Out:=
 match argTypes,args with
 |t::_,[.ref id off len,src]=>
  match elemOf P t with
  |none=>none
  |some e=>
   match h id,window h src with
   |some (.row es esz),some l=>
    if sizeOf P e=some esz/\off+len<=es.length/\z id<=off/\l.all (fun d=>d.cells.length==esz)then
     some ⟨.int .i64 (min l.length len:Nat),[(id,some (.row (es.take off++l.take (min l.length len)++es.drop (off+min l.length len)) esz))],[]⟩
    else none
   |_,_=>none
 |_,_=>none
def clear (P:Program)(h:ab)(z:Frz)(argTypes:List TypeId)(args:List D):Option Out:=
 match argTypes,args with
 |[t],[.ref id off len]=>
  match elemOf P t with
  |none=>none
  |some e=>
   match h id,zeroOf P e with
   |some (.row es esz),some d=>
    if off+len<=es.length/\z id<=off/\d.cells.length=esz/\d.sto=true then
     some ⟨.tup [],[(id,some (.row (es.take off++List.replicate len d++es.drop (off+len)) esz))],[]⟩
    else none
   |_,_=>none
 |[t],[.nilsl]=>(elemOf P t).map fun _=>out (.tup [])
 |[t],[.lst []]=>(elemOf P t).map fun _=>out (.tup [])
 |_,_=>none
def sD (P:Program)(h:ab)(argTypes:List TypeId)(args:List D):Option D:=
 match argTypes,args with
 |[t],[x]=>
  match P.underlying t,x with
  |some .string,.str s=>some (.int .i64 s.size)
  |some (.array n _),_=>some (.int .i64 n)
  |some (.slice _),.nilsl=>some (.int .i64 0)
  |some (.slice _),.lst l=>some (.int .i64 l.length)
  |some (.slice _),.ref _ _ len=>some (.int .i64 len)
  |some (.map _ _),.mlst a _=>some (.int .i64 a.length)
  |some (.map _ _),.mref id=>match h id with|some (.mp a _)=>some (.int .i64 a.length) |_=>none
  |_,_=>none
 |_,_=>none
def uA (P:Program)(argTypes:List TypeId)(args:List D):Option D:=
 match argTypes,args with
 |[t],[.nilsl]=>match P.underlying t with|some (.slice _)=>some (.int .i64 0) |_=>none
 |_,_=>none
def mm2 (c:Bool):D->D->Option D
 |.int k a,.int d b=>if k=d then some (.int k (if c then(if b>a then b else a)else(if b<a then b else a)))else none
 |_,_=>none
def mI (a:Bool):List D->Option D
 |[]=>none
 |x::rest=>rest.foldlM (mm2 a) x
def m5 (P:Program)(kt:TypeId)(k x:D):Option Bool:=
 match k,x with
 |.str a,.str b=>
  match P.underlying kt with
  |some .string=>some (a==b)
  |_=>none
 |.agg _,.agg _=>equal P kt k x
 |_,_=>none
def fP (P:Program)(kt:TypeId)(k:D):Bool:=
 match P.underlying kt,k with
 |some .string,.str _=>true
 |some (.struct _),.agg l=>l.all D.scalar&&(mG P kt).map (·.length)==some l.length
 |_,_=>false
def findKey (P:Program)(kt:TypeId)(k:D):List D->Nat->Option (Option Nat)
 |[],_=>some none
 |x::a,i=>
  match m5 P kt k x with
  |some true=>some (some i)
  |some false=>findKey P kt k a (i+1)
  |none=>none
def pI (P:Program)(mt:TypeId)(a:List D)(vs:List D)(k:D)(ok:Bool):Option D:=
 match P.underlying mt with
 |some (.map kt e)=>
  match fP P kt k,findKey P kt k a 0 with
  |true,some (some i)=>(vs[i]?).map fun v=>if ok then .tup [v,.bool true]else v
  |true,some none=>(zeroOf P e).map fun v=>if ok then .tup [v,.bool false]else v
  |_,_=>none
 |_=>none
def lookup (P:Program)(h:ab)(mt:TypeId)(m k:D)(ok:Bool):Option D:=
 match m with
 |.mlst a vs=>pI P mt a vs k ok
 |.mref id=>match h id with
  |some (.mp a vs)=>pI P mt a vs k ok
  |_=>none
 |_=>none
def mapUpdate (P:Program)(h:ab)(z:Frz)(mt:TypeId)(m k v:D):Option Out:=
 match P.underlying mt,m with
 |some (.map kt _),.mref id=>
  match fP P kt k,h id with
  |true,some (.mp a vs)=>
   if z id=0 then
    match findKey P kt k a 0 with
    |some (some i)=>some ⟨.tup [],[(id,some (.mp a (vs.set i v)))],[]⟩
    |some none=>some ⟨.tup [],[(id,some (.mp (a++[k]) (vs++[v])))],[]⟩
    |none=>none
   else none
  |_,_=>none
 |_,_=>none
def aG (h:ab):Nat->D->Option D
 |0,_=>none
 |n+1,d=>
  match d with
  |.bool b=>some (.bool b)
  |.int k i=>some (.int k i)
  |.float k b=>some (.float k b)
  |.str s=>some (.str s)
  |.nilsl=>some (.lst [])
  |.lst l=>some (.lst l)
  |.ref id off len=>
   match h id with
   |some (.row es _)=>if off+len<=es.length then(((es.drop off).take len).mapM (aG h n)).map .lst else none
   |_=>none
  |.agg l=>(l.mapM (aG h n)).map .agg
  |.tup l=>(l.mapM (aG h n)).map .tup
  |.fn f a c=>match a.mapM (aG h n),c.mapM (aG h n)with|some a,some c=>some (.fn f a c) |_,_=>none
  |.mref id=>
   match h id with
   |some (.mp g vs)=>(vs.mapM (aG h n)).map (.mlst g)
   |_=>none
  |.mlst g vs=>some (.mlst g vs)
  |.pl e o=>some (.pl e o)
  |.opq v=>some (.opq v)
  |.ptr id i 0=>
   match h id with
   |some (.row es 1)=>
    match es[i]? with
    |some e=>if e.one then(aG h n e).map fun e=> .pl e 0 else none
    |none=>none
   |_=>none
  |.ptr _ _ _=>none
  |.bad=>none
def aN (h:ab):Nat->D->List Nat
 |0,_=>[]
 |n+1,d=>
  match d with
  |.ref id off len=>
   match h id with
   |some (.row es _)=>id::((es.drop off).take len).flatMap (aN h n)
   |_=>[]
  |.agg l=>l.flatMap (aN h n)
  |.tup l=>l.flatMap (aN h n)
  |.fn _ a c=>a.flatMap (aN h n)++c.flatMap (aN h n)
  |.mref id=>
   match h id with
   |some (.mp _ vs)=>id::vs.flatMap (aN h n)
   |_=>[]
  |.ptr id _ _=>
   match h id with
   |some (.row es _)=>id::es.flatMap (aN h n)
   |_=>[]
  |_=>[]
def depth:Nat:=12
def noRef:Nat->D->Bool
 |0,_=>false
 |n+1,d=>
  match d with
  |.bool _|.int _ _|.float _ _|.str _=>true
  |.agg l=>l.all (noRef n)
  |.tup l=>l.all (noRef n)
  |_=>false
abbrev Pure:=FuncId->List D->Option D
abbrev Shar:=FuncId->List D->ab->Frz->Nat->Option (D×ab×Frz×Nat)
def dT (t:ai)(x:Option Operand):Option D:=x.map (ev t)
def ig (a:Pure)(h:ab)(f:FuncId)(args:List D):Option Out:=
 match args.mapM (aG h depth)with
 |none=>none
 |some b=>
  match a f b with
  |none=>none
  |some r=>
   match noRef 4 r with
   |true=>some (out r)
   |false=>some ⟨r,[],(args.flatMap (aN h depth)).map fun id=>(id,aV h id)⟩
def step (P:Program)(g:Pure)(o:Oper)(t:ai)(h:ab)(z:Frz)(id:Nat):Option Out:=
 match o.op with
 |.move x=>some (out (ev t x))
 |.assign x=>some (out (ev t x))
 |.pick c a b=>
  match ev t c with
  |.bool true=>some (out (ev t a))
  |.bool false=>some (out (ev t b))
  |_=>none
 |.alloc e=>
  match zeroOf P e with
  |some d=>if 0<d.cells.length/\d.sto=true then some (newRow id [d] d.cells.length (.ptr id 0 0))else none
  |none=>none
 |.box _ x=>if 0<(ev t x).cells.length/\(ev t x).sto=true then some (newRow id [ev t x] (ev t x).cells.length (.ptr id 0 0))else none
 |.build ty parts=>(build P t ty parts.toList).map out
 |.buildSlice ty len parts=>
  match elemOf P ty with
  |none=>none
  |some e=>
   match sizeOf P e,zeroOf P e with
   |some n,some d=>
    if 0<n/\len*n<=2^24/\d.cells.length=n/\d.sto=true then
     (iZ t n (List.replicate len d) parts.toList).map fun es=>newRow id es n (.ref id 0 len)
    else none
   |_,_=>none
 |.load ty a=>(load P h ty (ev t a)).map out
 |.store ty a v=>store P h z ty (ev t a) (ev t v)
 |.nilCheck x=>
  match ev t x with
  |.ptr a b c=>some (out (.ptr a b c))
  |.pl e c=>some (out (.pl e c))
  |_=>none
 |.binOp op ty x y _=>(binX P t op ty x y).map out
 |.unOp op _ x=>(un op (ev t x)).map out
 |.convert s d x=>(conv P h s d (ev t x)).map out
 |.makeFunc fn a c=>
  match fn with
  |.func f=>some (out (.fn f (a.toList.map (ev t)) (c.toList.map (ev t))))
  |_=>none
 |.makeMap _ r=>
  match r with
  |none=>some ⟨.mref id,[(id,some (.mp [] []))],[(id,0)]⟩
  |some _=>none
 |.makeSlice ty l c=>
  match elemOf P ty,ev t l,ev t c with
  |some e,.int .i64 l,.int .i64 c=>
   match sizeOf P e,bytesOf P e,zeroOf P e with
   |some n,some b,some d=>
    if 0<n/\0<=l/\l<=c/\c*(b+1)<=aK/\d.cells.length=n/\d.sto=true then
     some (newRow id (List.replicate l.toNat d) n (.ref id 0 l.toNat))
    else none
   |_,_,_=>none
  |_,_,_=>none
 |.slice ty x lo hi p=>ll P h ty (ev t x) (dT t lo) (dT t hi) (dT t p)
 |.fieldAddr s x f=>
  match uU P s f with
  |some n=>(lA (ev t x) n).map out
  |none=>none
 |.indexAddr ty x j=>(indexAddr P h ty (ev t x) (ev t j)).map out
 |.index ty x j=>(index P ty (ev t x) (ev t j)).map out
 |.lookup ty x j ok=>(lookup P h ty (ev t x) (ev t j) ok).map out
 |.mapUpdate ty m k v=>mapUpdate P h z ty (ev t m) (ev t k) (ev t v)
 |.extract x i=>
  match ev t x with
  |.tup l=>(l[i]?).map out
  |_=>none
 |.call c=>
  match c.callee with
  |.value f=>
   match ev t f with
   |.fn f a k=>ig g h f (a++c.args.toList.map (ev t)++k)
   |_=>none
  |.builtin b=>
   match b with
   |.append=>append P h z id c.argTypes.toList (c.args.toList.map (ev t))
   |.copy=>copy P h z c.argTypes.toList (c.args.toList.map (ev t))
   |.clear=>clear P h z c.argTypes.toList (c.args.toList.map (ev t))
   |.len=>(sD P h c.argTypes.toList (c.args.toList.map (ev t))).map out
   |.cap=>(uA P c.argTypes.toList (c.args.toList.map (ev t))).map out
   |.max=>(mI true (c.args.toList.map (ev t))).map out
   |.min=>(mI false (c.args.toList.map (ev t))).map out
   |_=>none
  |.invoke _ _=>none
 |_=>none
structure Env where
 pure:Pure
 shar:Shar
 shared:FuncId->Bool
def de (E:Env)(b:Bool)(o:Oper)(t:ai):Option (FuncId×List D):=
 match o.op with
 |.call c=>
  match c.callee with
  |.value (.func f)=>if E.shared f then some (f,c.args.toList.map (ev t))else none
  |.value f=>
   match b,ev t f with
   |false,.fn f a k=>if E.shared f then some (f,a++c.args.toList.map (ev t)++k)else none
   |_,_=>none
  |_=>none
 |_=>none
def mg (ops:Array Oper)(i:Nat)(o:Oper):Option Nat:=
 match o.op with
 |.store _ (.tmp t) _=>
  (List.range i).find? fun a=>match ops[a]? with
    |some x=>x.dst==some t&&(match x.op with|.alloc _|.box _ _=>true|_=>false)
    |none=>false
 |.call c=>
  match c.callee,c.args.toList with
  |.builtin .append,[.tmp t,.tmp y]=>
   (List.range i).find? fun a=>match ops[a]? with
     |some x=>x.dst==some t&&(match x.op with|.buildSlice ..=>true|_=>false)&&ops.toList.all fun b=>!(b.dst==some y&&(match b.op with|.buildSlice ..|.makeSlice ..|.call _=>true|_=>false))
     |none=>false
  |_,_=>none
 |_=>none
inductive Sk where
 |hide
 |at(d:Nat)
 |but (l:List Nat)
abbrev Sp:=List (Nat×Sk)
def cO (b:Sp)(ops:Array Oper)(base i:Nat)(o:Oper)(id:Nat):Bool:=
 match b.lookup i with
 |some .hide=>false
 |some (.at d)=>Nat.beq (id+d+1) base
 |some (.but l)=>(Nat.blt id base||(((Region.before ops).getD i 0).testBit (id-base) ||Nat.ble (base+ops.size) id))&&l.all fun d=>!Nat.beq (id+d+1) base
 |none=>
  match mg ops i o with
  |some a=>Nat.beq id (base+a)
  |none=>Nat.blt id base||(((Region.before ops).getD i 0).testBit (id-base) ||Nat.ble (base+ops.size) id)
def cD (a:Bool)(b:Sp)(ops:Array Oper)(base i:Nat)(o:Oper)(h:ab):ab:=
 match a with
 |true=>fun id=>cond (cO b ops base i o id) (h id) none
 |false=>h
def ju (a:Bool)(b:Sp)(ops:Array Oper)(base i:Nat)(o:Oper)(z:Frz):Frz:=
 match a with
 |true=>fun id=>cond (cO b ops base i o id) (z id) 0
 |false=>z
def aJ {α:Type}(f:Nat->α):List (Nat×α)->Nat->α
 |[]=>f
 |(i,v)::r=>aJ (upd f i v) r
def put (t:ai)(a:Option Tmp)(v:D):ai:=
 match a with
 |some d=>upd t d v
 |none=>t
def wanted (t:ai)(ops:Array Oper)(o:Oper):Option Bool:=
 match o.guard with
 |none=>some true
 |some (j,a)=>
  match(ops[j]?).bind (·.dst)with
  |some d=>(match t d with|.bool b=>some (b==a) |.bad=>none|_=>some false)
  |none=>some false
def one (P:Program)(E:Env)(a:Bool)(b:Sp)(ops:Array Oper)(o:Oper)(i:Nat)(base:Nat)(s:St):Option St:=
 match wanted s.tmps ops o with
 |some true=>
  match de E a o s.tmps with
  |some (f,args)=>
   match E.shar f args s.heap s.frz s.next with
   |some (v,h,z,nx)=>some ⟨put s.tmps o.dst v,h,z,nx⟩
   |none=>none
  |none=>
   match step P E.pure o s.tmps (cD a b ops base i o s.heap) (ju a b ops base i o s.frz) (base+i)with
   |some r=>some ⟨put s.tmps o.dst r.v,aJ s.heap r.hp,aJ s.frz r.fz,s.next⟩
   |none=>none
 |some false=>some ⟨put s.tmps o.dst (.tup []),s.heap,s.frz,s.next⟩
 |none=>none
def gG (P:Program)(E:Env)(a:Bool)(b:Sp)(ops:Array Oper)(base:Nat):List Oper->Nat->St->Option St
 |[],_,s=>some s
 |o::rest,i,s=>
  match one P E a b ops o i base s with
  |some s'=>gG P E a b ops base rest (i+1) s'
  |none=>none
def eG:Op->Bool
 |.load ..|.store ..|.convert ..|.indexAddr ..|.slice ..|.lookup ..|.mapUpdate ..=>true
 |.call c=>(match c.callee with|.builtin .max|.builtin .min|.builtin .cap=>false|_=>true)
 |_=>false
def iV:Op->Bool
 |.store ..|.mapUpdate ..=>true
 |.call c=>(match c.callee with|.builtin .append|.builtin .copy|.builtin .clear=>true|_=>false)
 |_=>false
def gM:Op->Bool
 |.alloc _|.box ..|.buildSlice ..|.makeSlice ..|.makeMap ..=>true
 |.call c=>(match c.callee with|.builtin .append=>true|_=>false)
 |_=>false
def mn (a:FuncId->Bool):Op->Bool
 |.call c=>(match c.callee with|.value (.func f)=>a f|_=>false)
 |_=>false
def jx (o:Op):Bool:=!eG o&&!gM o
def looks (ops:Array Oper)(o:Oper):List Tmp:=
 (o.op.operands.toList.filterMap fun|.tmp t=>some t|_=>none)++
 (match o.guard with
  |some (g,_)=>((ops[g]?).bind (·.dst)).toList
  |none=>[])
def apart (ops:Array Oper)(x y:Oper):Bool:=
 (match x.dst with
  |some d=>!(looks ops y).contains d&&y.dst !=some d
  |none=>true)&&
 (match y.dst with
  |some d=>!(looks ops x).contains d
  |none=>true)
def nG (b:Sp)(ops:Array Oper)(i:Nat)(o:Oper)(j:Nat):Bool:=
 match b.lookup i with
 |some .hide=>false
 |some (.at _)=>false
 |some (.but _)=>((Region.before ops).getD i 0).testBit j
 |none=>
  match mg ops i o with
  |some a=>Nat.beq j a
  |none=>((Region.before ops).getD i 0).testBit j
def uq (c:Sp)(ops:Array Oper)(j:Nat)(d:Oper)(i:Nat)(e:Oper):Bool:=
 match c.lookup j,c.lookup i with
 |some .hide,_=>false
 |_,some .hide=>false
 |some (.at a),some (.at b)=>Nat.beq a b
 |some (.at a),some (.but l)=>!l.any (Nat.beq a)
 |some (.but l),some (.at a)=>!l.any (Nat.beq a)
 |none,none=>
  match mg ops j d,mg ops i e with
  |some a,some b=>Nat.beq a b
  |some a,none=>nG c ops i e a
  |none,some b=>nG c ops j d b
  |none,none=>true
 |_,_=>true
def tD (a:FuncId->Bool)(d:Sp)(ops:Array Oper)(j:Nat)(b:Oper)(i:Nat)(c:Oper):Bool:=
 apart ops b c&&!(mn a b.op&&!jx c.op)&&!(mn a c.op&&!jx b.op)&&
 !(uq d ops j b i c&&((iV b.op&&eG c.op) ||(iV c.op&&eG b.op)))&&
 !(gM b.op&&nG d ops i c j)&&!(gM c.op&&nG d ops j b i)
def nU (a:FuncId->Bool)(c:Sp)(ops:Array Oper):Bool:=
 ops.toList.zipIdx.all fun(b,i)=>
  b.after.all (fun e=>Nat.blt e.on i||!Region.binds .any e)&&
  ops.toList.zipIdx.all fun(d,j)=>
   !Nat.blt j i||((Region.before ops).getD i 0).testBit j||tD a c ops j d i b
def jp (e:FuncId->Bool)(f:Nat->Sp)(n:Nat):Code->Bool
 |.region r ops g=>(!g||nU e (f r) ops)&&ops.toList.all fun o=>match o.dst with|some d=>Nat.blt d n|none=>true
 |.seq a b=>jp e f n a&&jp e f n b
 |.cond _ a b=>jp e f n a&&jp e f n b
 |.block _ c=>jp e f n c
 |.loop c=>jp e f n c
 |_=>true
def iI (a:FuncId->Bool)(hr:List Nat):FuncId->Bool:=
 match hr with
 |[]=>a
 |l=>fun f=>a f||l.any (Nat.beq f)
def tj (P:Program)(a:FuncId->Bool)(b:FuncId->Nat->Sp)(hr:FuncId->List Nat):Bool:=
 P.follows .mixedOrders&&P.funcs.toList.zipIdx.all fun(fn,i)=>fn.name != "runtime.NumGoroutine" &&match fn.body with|some c=>jp (iI a (hr i)) (b i) fn.ntmps c|none=>true
abbrev Live:=List (Nat×Nat)
def plain:Nat->D->Bool
 |0,_=>false
 |n+1,d=>
  match d with
  |.bool _|.int _ _|.float _ _|.str _|.nilsl|.lst _|.mlst _ _|.opq _|.pl _ _=>true
  |.agg l=>l.all (plain n)
  |.tup l=>l.all (plain n)
  |.fn _ a c=>a.all (plain n)&&c.all (plain n)
  |_=>false
def bi:D->Option Nat
 |.ptr id _ _=>some id
 |.ref id _ _=>some id
 |.mref id=>some id
 |_=>none
def fnOld (nx0:Nat):D->Bool
 |.fn _ a c=>(a++c).all fun d=>match bi d with|none=>plain 3 d|some id=>Nat.blt id nx0
 |_=>false
def plainO (nx0:Nat)(d:D):Bool:=plain 4 d||fnOld nx0 d
def ug (j:Nat):D->D
 |.ptr _ i o=> .ptr j i o
 |.ref _ a b=> .ref j a b
 |.mref _=> .mref j
 |d=>d
def placeOf:List (Option Nat)->Nat->Nat->Option Nat
 |[],_,_=>none
 |none::rest,id,j=>placeOf rest id (j+1)
 |some x::rest,id,j=>cond (Nat.beq x id) (some j) (placeOf rest id (j+1))
def bh (t:ai)(live:Live):List (Option Nat):=live.map fun x=>bi (t x.1)
def gn (x k:Nat)(s:St):St:=
 match k,s.tmps x with
 |k+1,.nilsl=>⟨upd s.tmps x (.ref s.next 0 0),upd s.heap s.next (some (.row [] (k+1))),upd s.frz s.next 0,s.next+1⟩
 |_,_=>s
def jk:Live->St->St
 |[],s=>s
 |x::rest,s=>jk rest (gn x.1 x.2 s)
def nl (h:ab)(z:Frz)(l:List Nat):Frz:=aJ z (l.map fun id=>(id,aV h id))
def pU (nx0 x:Nat)(s:St):Option St:=
 match bi (s.tmps x)with
 |none=>
  match plainO nx0 (s.tmps x)with
  |true=>some s
  |false=>
   match aG s.heap depth (s.tmps x)with
   |some d=>some ⟨upd s.tmps x d,s.heap,nl s.heap s.frz (aN s.heap depth (s.tmps x)),s.next⟩
   |none=>none
 |some id=>
  match s.heap id with
  |some (.row es esz)=>
   match es.all (plain 4)with
   |true=>some s
   |false=>
    match es.mapM (aG s.heap depth)with
    |some es'=>some ⟨s.tmps,upd s.heap id (some (.row es' esz)),nl s.heap s.frz (es.flatMap (aN s.heap depth)),s.next⟩
    |none=>none
  |_=>some s
def oU (nx0:Nat):Live->St->Option St
 |[],s=>some s
 |x::rest,s=>
  match pU nx0 x.1 s with
  |some s'=>oU nx0 rest s'
  |none=>none
def bN (nx0:Nat)(ids:List (Option Nat))(d:D):D:=
 match bi d with
 |none=>d
 |some id=>
  match Nat.blt id nx0 with
  |true=>d
  |false=>
   match placeOf ids id nx0 with
   |some j=>ug j d
   |none=>d
def nV (nx0:Nat)(ids:List (Option Nat))(t:ai):Live->ai
 |[]=>fun _=> .bad
 |x::rest=>upd (nV nx0 ids t rest) x.1 (bN nx0 ids (t x.1))
def bC {α:Type}(nx0:Nat)(ids:List (Option Nat))(a:Nat->α)(bot:α)(h:Nat->α):List (Option Nat)->Nat->Nat->α
 |[],_=>fun id=>cond (Nat.blt id nx0) (a id) bot
 |none::rest,j=>bC nx0 ids a bot h rest (j+1)
 |some x::rest,j=>
  match Nat.ble nx0 x,placeOf ids x nx0 with
  |true,some k=>cond (Nat.beq k j) (upd (bC nx0 ids a bot h rest (j+1)) j (h x)) (bC nx0 ids a bot h rest (j+1))
  |_,_=>bC nx0 ids a bot h rest (j+1)
def aI:Option Blk->Bool
 |none=>true
 |some (.row es _)=>es.all (plain 4)
 |some (.mp _ vs)=>vs.all (plain 4)
def jM (nx0:Nat)(ids:List (Option Nat))(d:D):Bool:=
 match bi d with
 |none=>plainO nx0 d
 |some id=>
  match Nat.blt id nx0,placeOf ids id nx0 with
  |true,_=>true
  |false,some _=>true
  |false,none=>false
def okD (nx0:Nat)(ids:List (Option Nat)):D->Bool
 |.agg l=>l.all (jM nx0 ids)
 |d=>jM nx0 ids d
def eR (nx0:Nat)(ids:List (Option Nat)):Option Blk->Bool
 |none=>true
 |some (.row es _)=>es.all (okD nx0 ids)
 |some (.mp _ vs)=>vs.all (plain 4)
def cz (nx0:Nat)(h:ab)(id:Nat):Option Blk:=cond (eR nx0 [] (h id)) (h id) none
theorem VN:∀(n:Nat) (d:D),plain n d=true->plain (n+1) d=true:=by
 intro n
 induction n with
 |zero=>intro d h;simp[plain]at h
 |succ n b=>
  intro d h;cases d<;>first|rfl|(simp[plain]at h;done) |skip
  .simp only[plain,zM]at h⊢;exact fun x a=>by simpa[plain]using b x (h x a)
  .simp only[plain,zM]at h⊢;exact fun x a=>by simpa[plain]using b x (h x a)
  simp only[plain,zJ,zM]at h⊢;exact⟨fun x a=>by simpa[plain]using b x (h.1 x a),fun x a=>by simpa[plain]using b x (h.2 x a)⟩
theorem QF {n:Nat}{d:D}(h:plain n d=true):bi d=none:=by
 cases n with
 |zero=>simp[plain]at h
 |succ n=>cases d<;>first|rfl|simp[plain]at h
theorem Gf {nx0:Nat}{ids:List (Option Nat)}{d:D}(h:plain 4 d=true):okD nx0 ids d=true:=by
 have one:∀x:D,plain 4 x=true->jM nx0 ids x=true:=fun x a=>by unfold jM plainO;rw[QF a];simp only;rw[a];rfl
 cases d with
 |agg l=>exact zM.2 fun x a=>one x (VN 3 x (zM.1 h x a))
 |_=>exact one _ h
theorem lB {nx0:Nat}{ids:List (Option Nat)}{b:Option Blk}(h:aI b=true):eR nx0 ids b=true:=by
 cases b with
 |none=>rfl
 |some b=>
  cases b with
  |row es n=>exact zM.2 fun x a=>Gf (zM.1 h x a)
  |mp c vs=>exact h
def qw (nx0:Nat)(h:ab)(t:ai):Live->Bool
 |[]=>true
 |x::rest=>
  (match bi (t x.1)with
   |none=>plainO nx0 (t x.1)
   |some id=>aI (h id))&&qw nx0 h t rest
def keep (nx0:Nat)(live:Live)(s:St):Option St:=
 match qw nx0 s.heap s.tmps live with
 |true=>some ⟨nV nx0 (bh s.tmps live) s.tmps live,bC nx0 (bh s.tmps live) (cz nx0 s.heap) none s.heap (bh s.tmps live) nx0,bC nx0 (bh s.tmps live) s.frz 0 s.frz (bh s.tmps live) nx0,nx0+live.length⟩
 |false=>none
def dH (x:Nat):Bool:=Nat.ble 1048576 x
def eV:Live->Bool
 |[]=>false
 |x::rest=>match dH x.1 with|true=>true|false=>eV rest
def nth:List D->Nat->D
 |[],_=> .bad
 |d::_,0=>d
 |_::l,n+1=>nth l n
def look (t:ai)(h:ab)(x:Nat):D:=
 match dH x with
 |false=>t x
 |true=>
  match t (x%1048576)with
  |.ptr id _ _=>
   match h id with
   |some (.row [.agg l] _)=>nth l (x/1048576-1)
   |_=> .bad
  |.ref id off _=>
   match Nat.ble 1001 (x/1048576)with
   |true=>
    match h id with
    |some (.row es _)=>nth es (off+(x/1048576-1001))
    |_=> .bad
   |false=>
    match h id,t (x/1048576-1)with
    |some (.row es _),.int _ (.ofNat i)=>nth es (off+i)
    |_,_=> .bad
  |_=> .bad
def bS (t:ai)(h:ab)(live:Live):List (Option Nat):=live.map fun x=>bi (look t h x.1)
def dD (x k:Nat)(s:St):St:=
 match dH x with
 |false=>gn x k s
 |true=>
  match k,s.tmps (x%1048576)with
  |k+1,.ptr id _ _=>
   match s.heap id with
   |some (.row [.agg l] esz)=>
    match nth l (x/1048576-1)with
    |.nilsl=>⟨s.tmps,upd (upd s.heap s.next (some (.row [] (k+1)))) id (some (.row [.agg (l.set (x/1048576-1) (.ref s.next 0 0))] esz)),upd s.frz s.next 0,s.next+1⟩
    |_=>s
   |_=>s
  |k+1,.ref id off _=>
   match Nat.ble 1001 (x/1048576),s.heap id with
   |true,some (.row es 1)=>
    match nth es (off+(x/1048576-1001))with
    |.nilsl=>⟨s.tmps,upd (upd s.heap s.next (some (.row [] (k+1)))) id (some (.row (es.set (off+(x/1048576-1001)) (.ref s.next 0 0)) 1)),upd s.frz s.next 0,s.next+1⟩
    |_=>s
   |_,_=>s
  |_,_=>s
def cL:Live->St->St
 |[],s=>s
 |x::rest,s=>cL rest (dD x.1 x.2 s)
def du (nx0:Nat)(ids:List (Option Nat)):D->D
 |.agg l=> .agg (l.map (bN nx0 ids))
 |d=>bN nx0 ids d
def dQ (nx0:Nat)(ids:List (Option Nat)):Option Blk->Option Blk
 |none=>none
 |some (.row es n)=>some (.row (es.map (du nx0 ids)) n)
 |some (.mp a vs)=>some (.mp a vs)
def dn (nx0:Nat)(ids:List (Option Nat))(h:ab)(id:Nat):Option Blk:=
 cond (eR nx0 [] (h id)) (h id) (cond (eR nx0 ids (h id)) (dQ nx0 ids (h id)) none)
def jf (h:ab)(n:Nat)(d:D):Option D:=
 match d with
 |.nilsl=>some .nilsl
 |d=>aG h n d
def gu (nx0:Nat)(ids:List (Option Nat))(x:Nat)(s:St):Option St:=
 match bi (look s.tmps s.heap x)with
 |none=>
  match dH x with
  |true=>some s
  |false=>pU nx0 x s
 |some id=>
  match s.heap id with
  |some (.row es esz)=>
   match es.all (okD nx0 ids)with
   |true=>some s
   |false=>
    match es.mapM (jf s.heap depth)with
    |some es'=>some ⟨s.tmps,upd s.heap id (some (.row es' esz)),nl s.heap s.frz (es.flatMap (aN s.heap depth)),s.next⟩
    |none=>none
  |_=>some s
def gD (nx0:Nat)(ids:List (Option Nat)):Live->St->Option St
 |[],s=>some s
 |x::rest,s=>
  match gu nx0 ids x.1 s with
  |some s'=>gD nx0 ids rest s'
  |none=>none
def pA (nx0:Nat)(ids:List (Option Nat))(t:ai):Live->ai
 |[]=>fun _=> .bad
 |x::rest=>upd (pA nx0 ids t rest) x.1 (match dH x.1 with|true=> .bad|false=>bN nx0 ids (t x.1))
def gj (nx0:Nat)(ids:List (Option Nat))(h:ab)(t:ai):Live->Bool
 |[]=>true
 |x::rest=>
  (match bi (look t h x.1)with
   |none=>match dH x.1 with|true=>true|false=>plainO nx0 (t x.1)
   |some id=>eR nx0 ids (h id))&&gj nx0 ids h t rest
def p7 (nx0:Nat)(live:Live)(s:St):Option St:=
 match gj nx0 (bS s.tmps s.heap live) s.heap s.tmps live with
 |true=>some ⟨pA nx0 (bS s.tmps s.heap live) s.tmps live,bC nx0 (bS s.tmps s.heap live) (dn nx0 (bS s.tmps s.heap live) s.heap) none (fun i=>dQ nx0 (bS s.tmps s.heap live) (s.heap i)) (bS s.tmps s.heap live) nx0,bC nx0 (bS s.tmps s.heap live) s.frz 0 s.frz (bS s.tmps s.heap live) nx0,nx0+live.length⟩
 |false=>none
def mO (nx0:Nat)(live:Live)(s:St):Option St:=
 match gD nx0 (bS (cL live s).tmps (cL live s).heap live) live (cL live s)with
 |some s'=>p7 nx0 live s'
 |none=>none
def settle (nx0:Nat)(live:Live)(s:St):Option St:=
 match eV live with
 |true=>mO nx0 live s
 |false=>
  match oU nx0 live (jk live s)with
  |some s'=>keep nx0 live s'
  |none=>none
def q6I (nx0 a:Nat)(live:Live)(s:St):Option St:=
 match a with
 |0=>settle nx0 live s
 |k+1=>
  match Nat.ble (nx0+(k+1)) s.next with
  |true=>settle (nx0+(k+1)) live s
  |false=>none
def dO (nx0 a:Nat)(live:Live)(body:St->Option (Ex×St)):Nat->St->Option (Ex×St)
 |0,_=>none
 |k+1,s=>
  match q6I nx0 a live s with
  |none=>none
  |some s=>
   match body s with
   |some (.normal,s')=>dO nx0 a live body k s'
   |some (.exit i,s')=>some (.exit i,s')
   |some (.ret,s')=>some (.ret,s')
   |none=>none
def vU:Nat:=2^62
def dd:Code->Nat
 |.region id _ _=>id
 |.seq a _=>dd a
 |.block _ c=>dd c
 |.loop c=>dd c
 |_=>0
structure Plan where
 lv:Nat->Live
 bs:Nat->Nat
 vt:List Nat
 em:Bool
 sp:Nat->Sp
 pn:Nat->Nat
 gv:List Nat
 df:Bool
 hr:List Nat
def eK (body:St->Option (Ex×St)):Nat->St->Option (Ex×St)
 |0,_=>none
 |k+1,s=>
  match body s with
  |some (.normal,s')=>eK body k s'
  |some (.exit i,s')=>some (.exit i,s')
  |some (.ret,s')=>some (.ret,s')
  |none=>none
def sF (a:Plan)(nx0 r next:Nat):Nat:=
 match a.df with
 |true=>next
 |false=>nx0+a.bs r
def aR (P:Program)(E:Env)(d:Plan)(nx0:Nat):Code->St->Option (Ex×St)
 |.skip,s=>some (.normal,s)
 |.region r ops e,s=>
  match Nat.ble s.next (sF d nx0 r s.next)with
  |true=>
   match gG P E e (d.sp r) ops (sF d nx0 r s.next) ops.toList 0 ⟨s.tmps,s.heap,s.frz,sF d nx0 r s.next+ops.size⟩with
   |some s'=>some (.normal,s')
   |none=>none
  |false=>none
 |.seq a b,s=>
  match aR P E d nx0 a s with
  |some (.normal,s')=>aR P E d nx0 b s'
  |some (.exit i,s')=>some (.exit i,s')
  |some (.ret,s')=>some (.ret,s')
  |none=>none
 |.cond c a b,s=>
  match ev s.tmps c with
  |.bool true=>aR P E d nx0 a s
  |.bool false=>aR P E d nx0 b s
  |_=>none
 |.block id c,s=>
  match aR P E d nx0 c s with
  |some (.exit i,s')=>if i=id then some (.normal,s')else some (.exit i,s')
  |some (.normal,s')=>some (.normal,s')
  |some (.ret,s')=>some (.ret,s')
  |none=>none
 |.loop c,s=>
  match d.df with
  |true=>eK (aR P E d nx0 c) vU s
  |false=>dO nx0 (d.pn (dd c)) (d.lv (dd c)) (aR P E d nx0 c) vU s
 |.exit id,s=>some (.exit id,s)
 |.ret,s=>some (.ret,s)
 |_,_=>none
def kn (P:Program)(s:St):ResultVar->Option D
 |.tmp t=>some (s.tmps t)
 |.cell a t=>load P s.heap t (s.tmps a)
def nq (P:Program)(fn:Func)(s:St):Option D:=
 match fn.results.toList.mapM (kn P s)with
 |some [d]=>some d
 |some l=>some (.tup l)
 |none=>none
def enter (args:List D):ai:=fun t=>args.getD t (.tup [])
def body (P:Program)(E:Env)(a:Plan)(fn:Func)(c:Code)(args:List D)(h:ab)(z:Frz)(nx:Nat):Option (D×ab×Frz×Nat):=
 match aR P E a nx c ⟨enter args,h,z,nx⟩with
 |some (.ret,s)=>(nq P fn s).map fun d=>(d,s.heap,s.frz,s.next)
 |some (.normal,s)=>(nq P fn s).map fun d=>(d,s.heap,s.frz,s.next)
 |_=>none
def empty:ab:=fun _=>none
def kl:Frz:=fun _=>0
def uZ:List D->Option D
 |[.float .f64 x]=>(FloatKind.f64.format.sqrt x).map (.float .f64)
 |_=>none
mutual
def eqD:D->D->Bool
 |.bool a,.bool b=>a==b
 |.int k n,.int c n'=>decide (k=c)&&decide (n=n')
 |.str a,.str b=>decide (a=b)
 |.lst l,.lst m=>eqL l m
 |.agg l,.agg m=>eqL l m
 |.tup l,.tup m=>eqL l m
 |_,_=>false
def eqL:List D->List D->Bool
 |[],[]=>true
 |a::l,b::m=>eqD a b&&eqL l m
 |_,_=>false
end
def fH (a:Pure)(g:FuncId)(x y:D):Option Int:=
 match a g [x,y]with
 |some (.int .i64 n)=>some n
 |_=>none
def iJ (a:Pure)(g:FuncId)(x:D):List D->Option (List D)
 |[]=>some [x]
 |y::l=>
  match fH a g x y with
  |some n=>if n<0 then some (x::y::l)else(iJ a g x l).map (y::·)
  |none=>none
def jG (a:Pure)(g:FuncId):List D->Option (List D)
 |[]=>some []
 |x::l=>
  match jG a g l with
  |some l=>iJ a g x l
  |none=>none
def jB (c:Pure)(g:FuncId)(x y:D):Bool:=
 eqD x y||(match fH c g x y,fH c g y x with|some a,some b=>decide (a<0)&&decide (0<=b) |_,_=>false)
def okS (b:Pure)(g:FuncId):List D->Bool
 |[]=>true
 |x::l=>(match fH b g x x with|some a=>decide (0<=a) |none=>false)&&l.all (jB b g x)&&okS b g l
def lY (k:Nat):D->Bool
 |.agg l=>Nat.blt 0 k&&Nat.beq l.length k
 |_=>Nat.beq k 0
def sL (k:Nat)(a:Pure)(args:List D)(h:ab)(z:Frz)(nx:Nat):Option (D×ab×Frz×Nat):=
 match args with
 |[.ref id 0 len,.fn g [] []]=>
  match h id with
  |some (.row es esz)=>
   if len=es.length/\es.length<4611686018427387904/\z id=0/\es.all (plain 4)=true/\es.all (lY k)=true then
    match jG a g es with
    |some l=>if okS a g l then some (.tup [],upd h id (some (.row l esz)),z,nx)else none
    |none=>none
   else none
  |_=>none
 |[.lst [],.fn _ [] []]=>some (.tup [],h,z,nx)
 |_=>none
def isSp:D->Bool
 |.agg [.int .i64 _,.int .i64 _]=>true
 |_=>false
def na:List D->Option (List D)
 |[]=>some []
 |.lst l::r=>if l.all isSp then(na r).map (l++·)else none
 |_=>none
def pE:List D->List D
 |[]=>[]
 |v::l=>if l.any (eqD v)then pE l else v::pE l
def ik (a:Pure)(b:FuncId)(c:D):List D->Option (List D)
 |[]=>some []
 |v::l=>
  match a b [c,v],ik a b c l with
  |some (.bool true),some r=>some r
  |some (.bool false),some r=>some (v::r)
  |_,_=>none
def kx (d:Pure)(a b c:FuncId)(args:List D):Option D:=
 match d a args with
 |some (.tup [.lst f,.int .i64 e])=>
  if e=0 then
   match na f with
   |some vs=>
    if f.length<=1000000/\vs.length<=1000000 then
     match ik d b (.lst f) (pE vs)with
     |some g=>
      match jG d c g with
      |some l=>if okS d c l then some (.tup [.lst l,.int .i64 0])else none
      |none=>none
     |none=>none
    else none
   |none=>none
  else some (.tup [.lst [],.int .i64 e])
 |_=>none
def ib (d:Pure)(e:List Nat)(args:List D):Option D:=
 match e with
 |[2,a,b,c]=>match args with|[x,y]=>kx d a b c [x,y] |_=>none
 |_=>none
def fM (a:Pure)(b:List Nat)(args:List D)(h:ab)(z:Frz)(nx:Nat):Option (D×ab×Frz×Nat):=
 match b with
 |[1,k]=>sL k a args h z nx
 |_=>none
def fW:List D->Bool
 |[.nilsl]=>true
 |[.lst []]=>true
 |[.ref _ _ 0]=>true
 |_=>false
def env (P:Program)(a:FuncId->Bool)(b:FuncId->Plan):Nat->Env
 |0=>⟨fun _ _=>none,fun _ _ _ _ _=>none,a⟩
 |n+1=>
  ⟨fun f args=>
    match P.funcs[f]? with
    |none=>none
    |some fn=>
     match fn.body with
     |none=>if fn.name== "math.sqrt" then uZ args else none
     |some c=>
      match(b f).gv with
      |[]=>
       match(b f).em&&fW args with
       |true=>some (.lst [])
       |false=>
        match body P ⟨(env P a b n).pure,(env P a b n).shar,iI a (b f).hr⟩ (b f) fn c args empty kl 0 with
        |none=>none
        |some (d,h,_,_)=>aG h depth d
      |e=>ib (env P a b n).pure e args,
   fun f args h z nx=>
    match P.funcs[f]? with
    |none=>none
    |some fn=>
     match fn.body with
     |none=>none
     |some c=>
      match(b f).gv with
      |[]=>
       match(b f).em&&fW args with
       |true=>some (.lst [],h,z,nx)
       |false=>body P ⟨(env P a b n).pure,(env P a b n).shar,iI a (b f).hr⟩ (b f) fn c args h z nx
      |e=>fM (env P a b n).pure e args h z nx,
   a⟩
def run (P:Program)(a:FuncId->Bool)(b:FuncId->Plan)(n:Nat)(f:FuncId)(args:List D):Option D:=(env P a b n).pure f args
end Go.F
