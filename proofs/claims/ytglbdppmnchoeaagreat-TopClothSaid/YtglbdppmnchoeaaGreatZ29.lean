/- Part 29. -/
import Derived.Test.YtglbdppmnchoeaaGreatZ28
set_option linter.all false
set_option maxHeartbeats 8000000
namespace Go.F
section
variable {T:Tab}{sh:Shr}{nx0:Nat}{s:List Fr}{t:ai}{h:ab}{z:Frz}{nx:Nat}{q:Ex->ai->ab->Frz->Nat->Prop}
variable {base i:Nat}{res:List Nat}{g:Gd}{rest:List KOper}
def jU (t:ai):Live->List Rep->ab->Frz->Option (List Obl×ab×Frz)
 |[],_,h,z=>some ([],h,z)
 |x::rest,a,h,z=>
  match bi (t x.1)with
  |none=>
   match plain 4 (t x.1)with
   |true=>jU t rest a h z
   |false=>none
  |some id=>
   match h id with
   |some (.row es esz)=>
    match a with
    |[]=>none
    |none::a=>
     match jU t rest a h z with
     |some (o,h',z')=>some (.p es::o,h',z')
     |none=>none
    |some (l,rs)::a=>
     match jU t rest a (upd h id (some (.row l esz))) (nl h z rs)with
     |some (o,h',z')=>some (.s h es l rs::o,h',z')
     |none=>none
   |some (.mp _ vs)=>
    match jU t rest a h z with
    |some (o,h',z')=>some (.p vs::o,h',z')
    |none=>none
   |none=>jU t rest a h z
theorem Q7 {t:ai}:∀{live:Live} {a:List Rep} {h:ab} {z:Frz} {o:List Obl} {h':ab} {z':Frz} {k:ab->Frz->Prop},jU t live a h z=some (o,h',z')->BG o->k h' z'->eZ live t h z k:=by
 intro live
 induction live with
 |nil=>intro a h z o h' z' k hr _ e;obtain⟨_,rfl,rfl⟩:=hr;exact e
 |cons x live f=>
  intro a h z o h' z' k hr d e;simp only[jU]at hr;simp only[eZ]
  cases g:bi (t x.1)with
  |none=>
   grind
  |some id=>
   rw[g]at hr;simp only at hr⊢
   cases i:h id with
   |none=>grind
   |some b=>
    rw[i]at hr
    cases b with
    |mp q vs=>
     cases c:jU t live a h z with
     |none=>grind
     |some y=>
      rw[c]at hr;obtain⟨rfl,rfl,rfl⟩:=hr;exact dC d.1 (f c d.2 e)
    |row es esz=>
     match a,hr with
     |none::a,hr=>
      simp at hr
      cases c:jU t live a h z with
      |none=>grind
      |some y=>
       rw[c]at hr;obtain⟨rfl,rfl,rfl⟩:=hr;unfold oC;exact .inl ⟨d.1,f c d.2 e⟩
     |some (l,rs)::a,hr=>
      simp at hr
      cases c:jU t live a (upd h id (some (.row l esz))) (nl h z rs)with
      |none=>grind
      |some y=>
       rw[c]at hr;obtain⟨rfl,rfl,rfl⟩:=hr;obtain⟨j,m,n,p⟩:=d.1;unfold oC;exact .inr ⟨l,rs,j,m,n,p,f c d.2 e⟩
def setZ (live:Live)(a:List Rep)(t:ai)(h:ab)(z:Frz)(nx:Nat):Option (List Obl×Kept):=
 match ky live t h z nx with
 |(t,h,z)=>
  match jU t live a h z with
  |some (o,h',z')=>fL1 (mD 0 (bh t live) t live) fun vs=>fLi (nJ 0 (bh t live) h' (bh t live) 0) fun b=>fLi (oh 0 (bh t live) z' (bh t live) 0) fun c=>some (o,vs,b,c)
  |none=>none
theorem pJ {live:Live}(a:List Rep){o:List Obl}{kp:Kept}{K:Kept->Prop}(c:setZ live a t h z nx=some (o,kp))(d:BG o)(e:K kp)(b:eV live=false:=by rfl):bz 0 live t h z nx fun _ _ kp=>K kp:=by
 grind[setZ,il,BK,bz,pG,BI,Q7,sW,tu]
def lC (m:List (ByteArray×D))(s:ByteArray):Option D:=(m.find? fun p=>s==p.1).map (·.2)
def oD (p:ByteArray×D):D:=.str p.1
theorem G3 (m:List (ByteArray×D))(s:ByteArray):∀n,∃o,iD .str (.str s) (m.map oD) n=some o/\match o with
 |some i=>n<=i/\∃v,(m.map (·.2))[i-n]?=some v/\lC m s=some v
 |none=>lC m s=none:=by
 induction m with
 |nil=>intro n;exact⟨none,rfl,rfl⟩
 |cons p m a=>
  intro n;simp[iD,oD,mq];by_cases e:(s==p.1)=true
  simp_all[lC]
  .obtain⟨o,h1,h⟩:=a (n+1);grind[lC]
theorem atPut {d e vx:X}{a:Option Nat}{m:List (ByteArray×D)}{b:ByteArray}{id:Nat}(k:d.ev t=.mref id)(l:g.h base h id=some (.mp (m.map oD) (m.map (·.2))))(n:g.z base z id=0)(c:e.ev t=.str b)(r:lC m b=none)
 (f:wpM T sh nx0 (.ops base res rest::s) .normal (put t a (.tup [])) (upd h id (some (.mp ((m++[(b,vx.ev t)]).map oD) ((m++[(b,vx.ev t)]).map (·.2))))) z nx q):
 wpM T sh nx0 (.ops base res (⟨i,a,none,g,.mapset .str d e vx⟩::rest)::s) .normal t h z nx q:=by
 refine bP ?_;obtain⟨o,p,u⟩:=G3 m b 0;simp only[kop,qJ,k,l,c,n,kf];refine⟨rfl,o,p,?_⟩
 cases o with
 |none=>rw[zb,zb]at f;exact f
 |some j=>
  grind
end
attribute [local irreducible] IntKind.wrap wpM
structure RSeg where
 a:Spot
 b:Spot
 w:Int
 s:Spot
def RSeg.enc (g:RSeg):D:=.agg [.int .i64 g.a.x,.int .i64 g.a.y,.int .i64 g.b.x,.int .i64 g.b.y,.int .i64 g.w,.int .i64 g.s.x,.int .i64 g.s.y]
def RSeg.mv (g:RSeg):Seg:=⟨dX g.a g.s,dX g.b g.s,g.w⟩
class RSegOk (g:RSeg):Prop where
 a:OkS g.a
 b:OkS g.b
 s:g.s.x.natAbs<=4294967296/\g.s.y.natAbs<=4294967296
 w0:0<=g.w
 w1:g.w<=500
def rp0:RP:=⟨⟨false,[],[]⟩,⟨false,[],[]⟩⟩
def rp (c:List RP)(i:Nat):RP:=c.getD i rp0
def onR (t:RR)(c:List RP)(i:Nat):RP:=RP.of (onP (rp c i).v (rp c (i+1)).v t.v)
def Ib (t:RR)(c:List RP):List RP:=(List.range (c.length-1)).map (onR t c)
def RB (k:Nat)(c:List RP):Prop:=∀p∈c,SzP p k
theorem WE {c:List RP}{i:Nat}(h:i<c.length):rp c i=c[i]:=by grind[rp]
theorem RB.at {k:Nat}{c:List RP}(h:RB k c){i:Nat}(hi:i<c.length):SzP (rp c i) k:=by
 rw[WE hi];exact h _ (zE _)
theorem RB.next {k kt:Nat}{t:RR}{c:List RP}(h:RB k c)(b:SzR t kt):RB (3*k+kt+6) (Ib t c):=by
 intro p a;simp[Ib]at a;obtain⟨i,hi,rfl⟩:=a;have h1:=h.at (i:=i) (by omega);have d:=h.at (i:=i+1) (by omega);have e:3*k+kt+6=(k+1)+(((k+1)+(k+1)+1)+(kt+1))+1:=by omega
 rw[e];unfold onR
 infer_instance
section
variable {t:ai}{h:ab}{z:Frz}{nx:Nat}
end
theorem Ig {α:Type}{f:α->D}{h:ab}{id n e:Nat}{l:List α}(a:∀x,dat 4 (f x)=true)(hr:h id=some (.row (l.map f) e))(b:n=l.length):aG h 8 (.ref id 0 n)=some (.lst (l.map f)):=by
 subst b;rw[aG,hr];simp only;rw[ve (by simp),x6,zZ (by simp),Eo (by decide) (bF a _)];rfl
theorem I3 {α:Type}{f:α->D}{h:ab}{id n e:Nat}{l:List α}(a:∀x,dat 4 (f x)=true)(hr:h id=some (.row (l.map f) e)):aN h depth (.ref id 0 n)=[id]:=by
 show aN h 12 _=_;grind[aN,sN]
def da:Rp->Rp
 |[]=>[]
 |[a]=>[a]
 |a::b::l=>if a=b then da (b::l)else a::da (b::l)
theorem UX (l:Rp)(x y:Spot):da (l++[x,y])=da (l++[x])++if x=y then []else [y]:=by
 induction l with
 |nil=>
  grind[da]
 |cons a l c=>
  cases l with
  |nil=>
   grind[da]
  |cons b l=>
   grind[da]
theorem FT (a:Rp){j:Nat}(h1:1<=j)(b:j<a.length):da (a.take (j+1))=da (a.take j)++if pt a (j-1)=pt a j then []else [pt a j]:=by
 obtain⟨m,rfl⟩:∃m,j=m+1:=⟨j-1,by omega⟩;grind[List.take_succ_eq_append_getElem,bc,UX]
theorem Wf (l:Rp):(da l).length<=l.length:=by
 induction l with
 |nil=>trivial
 |cons a l c=>
  cases l with
  |nil=>simp[da]
  |cons b l=>
   grind[da]
theorem VM {l:Rp}(h:l≠[]):1<=(da l).length:=by
 induction l with
 |nil=>grind
 |cons a l c=>
  cases l with
  |nil=>simp[da]
  |cons b l=>
   grind[da]
def Old1 (b:Blk)(h:ab)(z:Frz):Prop:=(∃h0:ab,h=upd h0 0 (some b))/\∃a:Frz,z=upd a 0 0
theorem Old1.of {b:Blk}{h:ab}{z:Frz}(h1:h 0=some b)(a:z 0=0):Old1 b h z:=
 ⟨⟨h,by grind[dY]⟩,z,by grind[dY]⟩
theorem Old1.old {nx0:Nat}{b:Blk}{h:ab}{z:Frz}(a:aI (some b)=true)(h1:h 0=some b)(c:z 0=0):Old1 b (cz nx0 h) z:=
 Old1.of (oZ h1 a) c
section
variable {T:Tab}{sh:Shr}{nx0:Nat}{s:List Fr}{t:ai}{h:ab}{z:Frz}{nx:Nat}{q:Ex->ai->ab->Frz->Nat->Prop}
variable {base i:Nat}{res:List Nat}{g:Gd}{rest:List KOper}
theorem Ip {e:El}{b:X}{a:Option Nat}{id off len esz:Nat}{es:Hm}(c:b.ev t=.ref id off len)(hr:g.h base h id=some (.row es esz))(f:(Nat.beq e.d.cells.length esz&&e.d.sto)=true)(j:off+len<=es.length/\g.z base z id<=off)
 (k:wpM T sh nx0 (.ops base res rest::s) .normal (put t a (.tup [])) (upd h id (some (.row (es.take off++List.replicate len e.d++es.drop (off+len)) esz))) z nx q):
 wpM T sh nx0 (.ops base res (⟨i,a,none,g,.clear e b⟩::rest)::s) .normal t h z nx q:=by
 refine bP ?_;grind[kop,D5,dC]
end
def CmpAt (a:Rp)(i j:Nat)(w:Rp):Prop:=w.length=a.length/\w.take i=da (a.take j)/\i=(da (a.take j)).length/\i<j/\∀x,j<=x+1->x<a.length->w[x]?=some (pt a x)
structure Crvd where
 name:ByteArray
 ctl:List ByteArray
 seg:Int
def Crvd.enc (c:Crvd):D:=.agg [.str c.name,.lst (c.ctl.map .str),.int .i64 c.seg]
def QS (m:List (ByteArray×RP))(s:ByteArray):Option RP:=(m.find? fun p=>s==p.1).map (·.2)
section
variable {T:Tab}{sh:Shr}{nx0:Nat}{s:List Fr}{t:ai}{h:ab}{z:Frz}{nx:Nat}{q:Ex->ai->ab->Frz->Nat->Prop}
variable {base i:Nat}{res:List Nat}{g:Gd}{rest:List KOper}
end
structure Nmd where
 name:ByteArray
 at_:RP
def Nmd.enc (n:Nmd):D:=.agg [.str n.name,.bool n.at_.x.neg,nat n.at_.x.mag,nat n.at_.x.den,.bool n.at_.y.neg,nat n.at_.y.mag,nat n.at_.y.den]
def YM (m:List (ByteArray×RP))(n:Nmd):List (ByteArray×RP):=if(QS m n.name).isSome then m else m++[(n.name,n.at_)]
def places (p:List Nmd):List (ByteArray×RP):=p.foldl YM []
def cv (l:List Crvd)(i:Nat):Crvd:=l.getD i ⟨⟨#[]⟩,[],0⟩
def lastC (c:Crvd):ByteArray:=c.ctl.getD (c.ctl.length-1) ⟨#[]⟩
def headC (c:Crvd):ByteArray:=c.ctl.getD 0 ⟨#[]⟩
def linked (l:List Crvd)(i:Nat):Prop:=(lastC (cv l i)).toList=(headC (cv l ((i+1)%l.length))).toList
instance (l:List Crvd)(i:Nat):Decidable (linked l i):=inferInstanceAs (Decidable (_=_))
theorem nH {x S:Nat}(d:x/2^S<256)(h0:S≠0->x/2^S≠0):S+(iC (x/2^S)).toNat=bl x:=by
 obtain⟨_,l,f,c⟩:=io (x/2^S) d
 have g:x<(x/2^S+1) *2^S:=by
  have:=yH x (2^S);have i:=zI x (y7 (n:=S) (show 0<2 by decide));grind
 by_cases a:x/2^S=0
 .have j:S=0:=by
   omega
  subst j;rw[Nat.pow_zero,Nat.div_one]at a;subst a;rfl
 have k:x/2^S*2^S<=x:=yz _ _;have c:=c a;generalize (iC (x/2^S)).toNat=e at*;generalize x/2^S=Y at*
 have h1:x<2^(S+e):=by
  rw[yn]
  calc x<(Y+1) *2^S:=g
   _<=2^e*2^S:=zF _ f
   _=2^S*2^e:=zx _ _
 have i:2^(S+e)<=2*x:=by
  rw[yn]
  calc 2^S*2^e<=2^S*(2*Y):=zf _ c
   _=2*(Y*2^S):=by ac_rfl
   _<=2*x:=zf _ k
 have b:x≠0:=by omega
 unfold bl;rw[vd b];have m:=(xZ b).2 h1
 have o:S+e-1<=x.log2:=by
  rcases xu (S+e)with h|h
  omega
  .refine(Nat.le_log2 b).2 ?_;have:2^(S+e)=2*2^(S+e-1):=by rw[<-Nat.pow_succ'];grind
   omega
 omega
theorem Js (x:Nat)(j:x<18446744073709551616):PU 159 [.int .u64 x]=some (.int .i64 (bl x)):=by
 refine PS rfl (jC rfl (fun i=>?_) (fun i=>?_))
 .rw[bk]at i;refine gg rfl (bH x 32 rfl rfl rfl rfl (by decide) ?_);refine jC rfl (fun d=>?_) (fun d=>?_)
  .rw[bk]at d;refine gg rfl (bH ((x/2^32)) 16 rfl rfl rfl rfl (by decide) ?_);refine jC rfl (fun b=>?_) (fun b=>?_)
   .rw[bk]at b;refine gg rfl (bH (((x/2^32)/2^16)) 8 rfl rfl rfl rfl (by decide) ?_);have f:(((x/2^32)/2^16)/2^8)=x/2^56:=by omega
    have a:x/2^56<256:=by omega
    have c:=nH (x:=x) (S:=56) a (fun h=>by omega);rw[f];obtain⟨_,d,b,g⟩:=io (x/2^56) a;have e:IntKind.u8.wrap ((x/2^56:Nat):Int)=((x/2^56:Nat):Int):=by simp only[IntKind.wrap,IntKind.bits,IntKind.signed];grind
    refine gg rfl (eH (x/2^56) rfl rfl e (jz a) (jF rfl ?_));grind[wrap64]
   rw[aW]at b;have f:(((x/2^32)/2^16))=x/2^48:=by omega
   have a:x/2^48<256:=by omega
   have c:=nH (x:=x) (S:=48) a (fun h=>by omega);rw[f];obtain⟨_,d,b,g⟩:=io (x/2^48) a;have e:IntKind.u8.wrap ((x/2^48:Nat):Int)=((x/2^48:Nat):Int):=by simp only[IntKind.wrap,IntKind.bits,IntKind.signed];grind
   refine gg rfl (eH (x/2^48) rfl rfl e (jz a) (jF rfl ?_));grind[wrap64]
  rw[aW]at d;refine jC rfl (fun b=>?_) (fun b=>?_)
  .rw[bk]at b;refine gg rfl (bH (((x/2^32))) 8 rfl rfl rfl rfl (by decide) ?_);have f:(((x/2^32))/2^8)=x/2^40:=by omega
   have a:x/2^40<256:=by omega
   have c:=nH (x:=x) (S:=40) a (fun h=>by omega);rw[f];obtain⟨_,d,b,g⟩:=io (x/2^40) a;have e:IntKind.u8.wrap ((x/2^40:Nat):Int)=((x/2^40:Nat):Int):=by simp only[IntKind.wrap,IntKind.bits,IntKind.signed];grind
   refine gg rfl (eH (x/2^40) rfl rfl e (jz a) (jF rfl ?_));grind[wrap64]
  rw[aW]at b;have a:x/2^32<256:=by omega
  have c:=nH (x:=x) (S:=32) a (fun h=>by omega);obtain⟨_,d,b,g⟩:=io (x/2^32) a;have e:IntKind.u8.wrap ((x/2^32:Nat):Int)=((x/2^32:Nat):Int):=by simp only[IntKind.wrap,IntKind.bits,IntKind.signed];grind
  refine gg rfl (eH (x/2^32) rfl rfl e (jz a) (jF rfl ?_));grind[wrap64]
 rw[aW]at i;refine jC rfl (fun d=>?_) (fun d=>?_)
 .rw[bk]at d;refine gg rfl (bH (x) 16 rfl rfl rfl rfl (by decide) ?_);refine jC rfl (fun b=>?_) (fun b=>?_)
  .rw[bk]at b;refine gg rfl (bH ((x/2^16)) 8 rfl rfl rfl rfl (by decide) ?_);have f:((x/2^16)/2^8)=x/2^24:=by omega
   have a:x/2^24<256:=by omega
   have c:=nH (x:=x) (S:=24) a (fun h=>by omega);rw[f];obtain⟨_,d,b,g⟩:=io (x/2^24) a;have e:IntKind.u8.wrap ((x/2^24:Nat):Int)=((x/2^24:Nat):Int):=by simp only[IntKind.wrap,IntKind.bits,IntKind.signed];grind
   refine gg rfl (eH (x/2^24) rfl rfl e (jz a) (jF rfl ?_));grind[wrap64]
  rw[aW]at b;have a:x/2^16<256:=by omega
  have c:=nH (x:=x) (S:=16) a (fun h=>by omega);obtain⟨_,d,b,g⟩:=io (x/2^16) a;have e:IntKind.u8.wrap ((x/2^16:Nat):Int)=((x/2^16:Nat):Int):=by simp only[IntKind.wrap,IntKind.bits,IntKind.signed];grind
  refine gg rfl (eH (x/2^16) rfl rfl e (jz a) (jF rfl ?_));grind[wrap64]
 rw[aW]at d;refine jC rfl (fun b=>?_) (fun b=>?_)
 .rw[bk]at b;refine gg rfl (bH ((x)) 8 rfl rfl rfl rfl (by decide) ?_);have a:x/2^8<256:=by omega
  have c:=nH (x:=x) (S:=8) a (fun h=>by omega);obtain⟨_,d,b,g⟩:=io (x/2^8) a;have e:IntKind.u8.wrap ((x/2^8:Nat):Int)=((x/2^8:Nat):Int):=by simp only[IntKind.wrap,IntKind.bits,IntKind.signed];grind
  refine gg rfl (eH (x/2^8) rfl rfl e (jz a) (jF rfl ?_));grind[wrap64]
 rw[aW]at b;have a:x<256:=by omega
 have c:=nH (x:=x) (S:=0) (by omega) (fun h=>absurd rfl h);obtain⟨_,d,b,g⟩:=io x a;have e:IntKind.u8.wrap (x:Int)=(x:Int):=by simp only[IntKind.wrap,IntKind.bits,IntKind.signed];grind
 have k:=ww (x:=(((iC x).toNat:Nat):Int));refine gg rfl (eH x rfl rfl e (jz a) (jF rfl ?_));grind
theorem Ya (x:Nat)(a:x<18446744073709551616):PU 109 [.int .u64 x]=some (.int .i64 (bl x)):=by
 exact PS rfl (gg rfl (aj rfl (jA rfl (Js x a) (jZ rfl))))
def mT (n:Nat):Nat:=kH n 32 0
theorem Jr {n:Nat}(h:n<2^64):mT n*mT n<=n/\n<(mT n+1) *(mT n+1):=
 IT n 32 0 (zB _) (by omega)
theorem PB {n r:Nat}(h:n<2^64)(h1:r*r<=n)(a:n<(r+1) *(r+1)):r=mT n:=by
 obtain⟨b,c⟩:=Jr h;have:=oK (zq h1 c);have:=oK (zq b a);omega
theorem newton {n x:Nat}(b:0<x):n<((x+n/x)/2+1) *((x+n/x)/2+1):=by
 have h1:n<x*(n/x+1):=by
  have:=yH n x;have a:=zI n b;grind
 generalize n/x=q at*;have a:x+(q+1)<=2*((x+q)/2+1):=by omega
 generalize (x+q)/2+1=s at*
 have h3:4*(x*(q+1))<=(x+(q+1)) *(x+(q+1)):=by
  generalize q+1=r;rcases Nat.le_total x r with h|h
  .obtain⟨d,rfl⟩:∃d,r=x+d:=⟨r-x,by omega⟩;grind
  obtain⟨d,rfl⟩:∃d,x=r+d:=⟨x-r,by omega⟩;grind
 have c:(x+(q+1)) *(x+(q+1))<=(2*s) *(2*s):=z6 a a;grind
theorem YU (n:Nat)(A:n<9223372036854775808):PU 282 [.int .i64 n]=some (.int .i64 (mT n)):=by
 refine PS rfl (jC rfl (fun h1=>?_) (fun h1=>?_))
 .rw[ad]at h1;refine jF rfl ?_;have:n=0\/n=1:=by omega
  rcases this with rfl|rfl<;>rfl
 rw[af]at h1;have j:IntKind.u64.wrap (n:Int)=(n:Int):=bq (by omega)
 have l:bl n<=63:=by
  unfold bl;rw[eE];have:=(xZ (n:=n) (k:=63) (by omega)).2 (by omega);omega
 have i:n<2^bl n:=by
  unfold bl;rw[eE];exact(xZ (by omega)).1 (vS _)
 have o:IntKind.i64.wrap ((bl n:Int)+1)=((bl n+1:Nat):Int):=ww;refine gg rfl ?_;rw[j];refine aB rfl rfl (Ya n (by omega)) ?_;refine gg rfl ?_;rw[o];refine ko (bl n+1) 2 rfl rfl rfl rfl (by decide) (wrap64 (by omega) (by omega)) ?_;have p:(bl n+1)/2<=32:=by omega
 have q:2^((bl n+1)/2)<=4294967296:=by
  have:=zu (show 0<2 by decide) p;omega
 have a:0<2^((bl n+1)/2):=y7 (by decide)
 have b:n<(2^((bl n+1)/2)+1) *(2^((bl n+1)/2)+1):=by
  have e:2^bl n<=2^((bl n+1)/2) *2^((bl n+1)/2):=by rw[<-yn];exact zu (by decide) (by omega)
  grind
 generalize r:2^((bl n+1)/2)=X at*;refine kJ 1 ((bl n+1)/2) rfl rfl rfl rfl (by show(bl n+1)/2<=64;omega) (by grind[wrap64]) ?_;rw[r,vF];refine gg rfl (aw (S:=fun x:Nat=>([aa n,aa x],[none,none],[0,0])) (C:=fun x=>0<x/\x<=4294967296/\n<(x+1) *(x+1)) (m:=fun x=>x) X ⟨a,q,b⟩ (by omega) ?_ ?_);rfl;rintro x ⟨c,s,t⟩ N u;have B:n/x<=n:=vJ _ _
 have v:IntKind.i64.wrap ((x:Int)+((n/x:Nat):Int))=((x+n/x:Nat):Int):=by exact um (by
  have w:n/x*x<=n:=yz _ _;rcases y6 x 2 with h|h
  grind
  .have:n/x*2<=n/x*x:=zf _ h
   omega)
 have d:=newton (n:=n) c;refine gg rfl (ko n x rfl rfl rfl rfl (by omega) (um (by omega)) ?_);refine gg rfl ?_;rw[v];refine ko (x+n/x) 2 rfl rfl rfl rfl (by decide) (um (by omega)) ?_;refine jC rfl (fun g=>?_) (fun g=>?_)
 .rw[bk]at g
  have y:x*x<=n:=by
   have:x<=n/x:=by omega
   have w:=yz n x;have h3:=zF x this;omega
  refine gE rfl (jF rfl ?_);grind[PB]
 rw[aW]at g;have z:(x+n/x)/2<x:=by omega
 have f:0<(x+n/x)/2:=by
  grind
 exact gE rfl (u ((x+n/x)/2) ⟨f,by omega,d⟩ z (ah rfl tr (by rfl)))
theorem Lt {a b:Spot}(d:aD a 1048576=true)(c:aD b 1048576=true):sqd a b<=8796093022208:=by
 rw[AK]at d c;have e:=tW a b;have f:Bd (b.x-a.x) 2097152:=⟨by omega⟩;have b2:Bd (b.y-a.y) 2097152:=⟨by omega⟩;have c:Bd ((b.x-a.x) *(b.x-a.x)+(b.y-a.y) *(b.y-a.y)) _:=inferInstance;have:=c.le;omega
def sT (a b:Spot):Nat:=mT (1000000*sqd a b)
theorem G5 {a b:Spot}(c:aD a 1048576=true)(d:aD b 1048576=true):sT a b<=4294967296:=by
 have h:=Lt c d;obtain⟨h1,_⟩:=Jr (n:=1000000*sqd a b) (by omega);unfold sT;have:mT (1000000*sqd a b)<4294967296:=oK (by omega);omega
theorem VJ (a b:Spot)(c:aD a 1048576=true)(d:aD b 1048576=true):PU 265 [a.enc,b.enc]=some (.int .i64 (sT a b)):=by
 refine PS rfl ?_;have h:=Lt c d;have e:=tW a b;rw[AK]at c d;have l:Bd (b.x-a.x) 2097152:=⟨by omega⟩;have f:Bd (b.y-a.y) 2097152:=⟨by omega⟩;have c1:IntKind.i64.wrap (b.x-a.x)=b.x-a.x:=cH (by decide);have c2:IntKind.i64.wrap (b.y-a.y)=b.y-a.y:=cH (by decide);refine gg rfl ?_;rw[c1,c2];have g:IntKind.i64.wrap ((b.x-a.x) *(b.x-a.x))=(b.x-a.x) *(b.x-a.x):=cH (by decide);have i:IntKind.i64.wrap ((b.y-a.y) *(b.y-a.y))=(b.y-a.y) *(b.y-a.y):=cH (by decide);have j:IntKind.i64.wrap ((b.x-a.x) *(b.x-a.x)+(b.y-a.y) *(b.y-a.y))=(sqd a b:Int):=by simp_all[cH]
 have k:IntKind.i64.wrap (1000000*(sqd a b:Int))=((1000000*sqd a b:Nat):Int):=by grind[wrap64]
 rw[g,i,j,k];refine aB rfl rfl (YU (1000000*sqd a b) (by omega)) ?_;exact jZ rfl
def lK (p:Rp):Nat->Nat
 |0=>0
 |k+1=>lK p k+sT (pt p k) (pt p (k+1))
theorem PP {p:Rp}(h:∀i,i<p.length->aD (pt p i) 1048576=true):∀k,k<p.length->lK p k<=k*4294967296:=by
 intro k
 induction k with
 |zero=>simp[lK]
 |succ k a=>
  grind[G5,lK]
def fd (p:Rp):Int×Int:=if ic p=0 then((lK p (p.length-1):Int),0)else(0,ic p)
theorem Ov (p:Rp):PU 242 [ac p]=some (.tup [.int .i64 (fd p).1,.int .i64 (fd p).2]):=by
 refine PS rfl (jA rfl (M8 p) (jC rfl (fun h=>?_) (fun h=>?_)))
 .rw[aO]at h;refine jF rfl ?_;simp_all[fd]
 rw[aE]at h;rw[fd,ve h];obtain⟨q,g,_⟩:=si h;have c:∀i,i<p.length->aD (pt p i) 1048576=true:=fun i hi=>PD h hi;refine gg rfl (aw (S:=fun k:Nat=>([ac p,aa (lK p k),aa (p.length-1:Nat),aa k],none::nn3,zz4)) (C:=fun k=>k<=p.length-1) (m:=fun k=>p.length-k) 0 (zB _) (by omega) ?_ ?_)
 .refine ah rfl tr ?_;grind[wrap64,ac,aa,lK]
 intro k r N j;refine jC rfl (fun e=>?_) (fun e=>?_)
 .rw[ad]at e;have d:k+1<p.length:=by omega
  have l:=wS (n:=k);have a:=c k (by omega);have b:=c (k+1) d;have f:=G5 a b;have o:=PP c k (by omega);have s:IntKind.i64.wrap ((lK p k:Int)+(sT (pt p k) (pt p (k+1)):Int))=(lK p (k+1):Int):=by rw[wrap64 (by omega) (by omega)];rfl
  refine jX k rfl rfl (aZ (by omega)) rfl ?_;exact jX (k+1) rfl l (aZ d) rfl (jA rfl (VJ (pt p k) (pt p (k+1)) a b) (gE rfl (j (k+1) (by omega) (by omega) (ah rfl tr (by grind[ac,aa])))))
 rw[af]at e;obtain rfl:k=p.length-1:=by omega
 exact gE rfl (jZ rfl)
end Go.F
namespace Go.F
attribute [local irreducible] IntKind.wrap wpM
section
variable {T:Tab}{sh:Shr}{nx0:Nat}{s:List Fr}{t:ai}{h:ab}{z:Frz}{nx:Nat}{q:Ex->ai->ab->Frz->Nat->Prop}
variable {base i:Nat}{res:List Nat}{g:Gd}{rest:List KOper}
theorem HL {f:FuncId}{a:Nat}{args:List X}{r:D}(c:Hm)(d:T.shared f=false)(e:∀k:Hm->Prop,k c->iA (g.h base h) (args.map (·.ev t)) k)(j:T.pu f c=some r)
 (b:∀z,wpM T sh nx0 (.ops base res rest::s) .normal (upd t a r) h z nx q):
 wpM T sh nx0 (.ops base res (⟨i,some a,none,g,.callF f args⟩::rest)::s) .normal t h z nx q:=by
 refine bP ?_;simp only[kop,eQ,d];refine e _ ?_;unfold mf;refine⟨r,j,?_⟩;simp only[iu];split
 .exact b _
 split
 .exact b _
 exact b _
end
theorem ME {a:ab}{id n:Nat}{es l:Hm}{e:Nat}{rest:Hm}{c:Hm}(hr:a id=some (.row es e))(d:n<=es.length)(f:(es.take n).mapM (aG a 8)=some l)(b:∀k:Hm->Prop,k c->iA a rest k):
 ∀k:Hm->Prop,k (.lst l::c)->iA a (.ref id 0 n::rest) k:=by
 grind[iA,ws1,ws0,kM]
theorem Qm {α:Type}(f:Nat->α)(n i:Nat)(v:α):((List.range n).map f).set i v=(List.range n).map fun m=>if m=i then v else f m:=by
 apply zp;simp;grind
def dj (t:Turn)(p:Rp):Rp:=(List.range p.length).map fun m=>dm t (pt p (if t.flip then p.length-1-m else m))
def fX (t:Turn)(p:Rp)(k:Nat):Rp:=(List.range p.length).map fun m=>if(if t.flip then p.length-1-m else m)<k then dm t (pt p (if t.flip then p.length-1-m else m))else⟨0,0⟩
theorem OV (t:Turn)(p:Rp):(fX t p 0).map Spot.enc=List.replicate p.length (.agg [.int .i64 0,.int .i64 0]):=by
 unfold fX;apply zp;simp;simp[Spot.enc]
theorem M2 (t:Turn)(p:Rp):fX t p p.length=dj t p:=by
 apply yA;grind
theorem Oh (t:Turn)(p:Rp){k:Nat}(a:k<p.length):(fX t p k).set (if t.flip then p.length-1-k else k) (dm t (pt p k))=fX t p (k+1):=by
 unfold fX;rw[Qm];apply yA;grind
theorem Mt (t:Turn)(p:Rp)(f:p.length<=100000):PU 16 [t.enc,ac p]=some (ac (dj t p)):=by
 refine PS rfl (gg rfl ?_);rw[zA];refine eu p.length rfl rfl rfl (by grind[aK]) ?_;rw[<-OV t];refine gg rfl ?_;rw[zA];refine aw (S:=fun k:Nat=>([ac p,.ptr 1 0 0,.ref 2 0 p.length,ac p,aa p.length,aa k],none::some (.row [t.enc] 2)::some (.row ((fX t p k).map Spot.enc) 2)::nn3,zz6)) (C:=fun k=>k<=p.length) (m:=fun k=>p.length-k) 0 (zB _) (by omega) ?_ ?_
 .exact ah rfl ⟨rfl,ae am _,tr⟩ (by rfl)
 intro k h N d;refine jC rfl (fun b=>?_) (fun b=>?_)
 .rw[ad]at b;have a:k<p.length:=by omega
  have i:=wS (n:=k);have e:=Oh t p a;refine jX k rfl rfl (aZ a) rfl (jC rfl (fun g=>?_) (fun g=>?_))
  .have c:IntKind.i64.wrap (IntKind.i64.wrap (((p.map Spot.enc).length:Int)-1)-(k:Int))=((p.length-1-k:Nat):Int):=by grind[wrap64]
   refine jA rfl (oz t (pt p k)) (aA (p.length-1-k) rfl rfl rfl rfl c (by omega) ?_);refine gp (enc:=Spot.enc) (fX t p k) (p.length-1-k) (dm t (pt p k)) rfl rfl (zC _) rfl (fun _=>rfl) rfl (zB _) (by grind[fX]) ?_;exact gE rfl (d (k+1) a (by omega) (ah rfl ⟨rfl,ae am _,tr⟩ (by grind[ac,aa])))
  have c:(k:Int)=(k:Int):=rfl;refine jA rfl (oz t (pt p k)) (aA (k) rfl rfl rfl rfl c (by omega) ?_);refine gp (enc:=Spot.enc) (fX t p k) (k) (dm t (pt p k)) rfl rfl (zC _) rfl (fun _=>rfl) rfl (zB _) (by grind[fX]) ?_;exact gE rfl (d (k+1) a (by omega) (ah rfl ⟨rfl,ae am _,tr⟩ (by grind[ac,aa])))
 rw[af]at b;obtain rfl:k=p.length:=by omega
 rw[M2];refine gE rfl (gg rfl (cS rfl rfl rfl ⟨bK (by simp[dj]) (bF fh _),tr⟩ ?_));rw[bZ (by simp[dj])];rfl
def uY (p:Rp)(i:Nat):Int:=ay (pt p ((i+p.length-1)%p.length)) (pt p i) (pt p ((i+1)%p.length))
theorem Rq (p:Rp) [OkP p](i:Nat)(hi:i<p.length)(f:p.length<=100000):PU 160 [ac p,.int .i64 i]=some (.int .i64 (uY p i)):=by
 have a:=ww (x:=(i:Int)+(p.length:Int));have b:IntKind.i64.wrap ((i:Int)+(p.length:Int)-1)=((i+p.length-1:Nat):Int):=by grind[wrap64]
 have c:=wS (n:=i);have d:(i+p.length-1)%p.length<p.length:=zI _ (by omega);have e:(i+1)%p.length<p.length:=zI _ (by omega);refine PS rfl (gg rfl ?_);rw[zA,a,b];refine dx rfl rfl (by omega) ?_;refine cg ((i+p.length-1)%p.length) rfl rfl mC (aZ d) rfl (jX i rfl rfl (aZ hi) rfl (gg rfl ?_));rw[c];refine dx rfl rfl (by omega) ?_;exact cg ((i+1)%p.length) rfl rfl mC (aZ e) rfl (jA rfl (Ab (pt p ((i+p.length-1)%p.length)) (pt p i) (pt p ((i+1)%p.length))) (jZ rfl))
section
variable {T:Tab}{sh:Shr}{nx0:Nat}{s:List Fr}{t:ai}{h:ab}{z:Frz}{nx:Nat}{q:Ex->ai->ab->Frz->Nat->Prop}
variable {base i:Nat}{res:List Nat}{dst:Nat}{g:Gd}{rest:List KOper}
theorem Yc {n:Nat}{x:X}{hi:Option X}(c:x.ev t=.nilsl)(b:mQ t hi 0 0)
 (d:wpM T sh nx0 (.ops base res rest::s) .normal (upd t dst .nilsl) h z nx q):
 wpM T sh nx0 (.ops base res (⟨i,some dst,none,g,.slsl n x none hi none⟩::rest)::s) .normal t h z nx q:=by
 refine bP ?_;simp only[kop,p3,c];exact mH (a:=0) rfl (mH b (dC ⟨rfl,rfl⟩ d))
end
def qm (n:Nat)(a:Fv):Nat->Rp
 |0=>List.replicate n ⟨0,0⟩
 |j+1=>(a.take (j+1)).flatten
theorem Ea (a:Fv){j:Nat}(h:j<a.length):(a.take (j+1)).flatten=(a.take j).flatten++a[j]:=by
 grind[List.take_succ_eq_append_getElem]
theorem qW (a:Fv)(j:Nat):(a.take j).flatten.length<=a.flatten.length:=by
 grind[List.take_append_drop]
theorem qX (n:Nat)(a:Fv)(j:Nat):(qm n a j).take (a.take j).flatten.length=(a.take j).flatten:=by
 cases j with
 |zero=>simp
 |succ j=>exact zH
def ja (a:Fv):D:=.lst (a.map ac)
theorem TJ (a:Fv)(r:a.flatten.length<=100000)(s:a.length<=100000):PU 162 [ja a]=some (ac a.flatten):=by
 refine PS rfl (gg rfl ?_);rw[zA];refine aw (S:=fun j:Nat=>([ja a,aa (a.take j).flatten.length,ja a,aa a.length,aa j],none::nn4,zz5)) (C:=fun j=>j<=a.length) (m:=fun j=>a.length-j) 0 (zB _) (by omega) ?_ ?_;rfl;intro j k N o;refine jC rfl (fun f1=>?_) (fun f1=>?_)
 .rw[ad]at f1;have b:j<a.length:=by omega
  have l:=wS (n:=j);have c:=Ea a b;have i:=qW a (j+1);have d:(a.map ac)[j]?=some (ac a[j]):=by grind
  generalize a[j]=x at*;have t:IntKind.i64.wrap (((a.take j).flatten.length:Int)+((x.map Spot.enc).length:Int))=((a.take (j+1)).flatten.length:Int):=by grind[wrap64]
  refine jX j rfl rfl d rfl (jC rfl (fun e=>absurd (ad.1 e) (by omega)) (fun _=>?_));exact gE rfl (o (j+1) b (by omega) (ah rfl tr (by grind[ja,aa])))
 rw[af]at f1;obtain rfl:j=a.length:=by omega
 rw[zH];have p:IntKind.i64.wrap ((a.flatten.length:Int)-IntKind.i64.wrap (0-0))=(a.flatten.length:Int):=by grind[wrap64]
 refine gE rfl (gg rfl (cf rfl rfl (jC rfl (fun e=>absurd (ad.1 e) (by omega)) (fun _=>?_))));refine jC rfl (fun e=>?_) (fun e=>?_)
 .refine gg rfl (Yc rfl ⟨_,_,rfl,rfl⟩ (gg rfl (RQ (n:=a.flatten.length) rfl (by first|rfl|exact zX _ p) (by show _*17<=2^40;omega) ?_)));refine gg rfl (fi 0 rfl rfl rfl ⟨_,_,rfl,rfl⟩ (zB _) (gg rfl (bd rfl rfl (gg rfl (aw (S:=fun j:Nat=>([.ref 0 0 (a.take j).flatten.length,ja a,aa a.length,aa j],some (.row ((qm a.flatten.length a j).map Spot.enc) 2)::nn3,zz4)) (C:=fun j=>j<=a.length) (m:=fun j=>a.length-j) 0 (zB _) (by omega) ?_ ?_)))))
  .refine ah rfl ⟨?_,tr⟩ ?_
   .rw[zM];intro x d;simp at d;try (obtain⟨_,rfl⟩:=d;rfl)
   simp[ja,aa,qm,Spot.enc]
  intro j k q f;refine jC rfl (fun f1=>?_) (fun f1=>?_)
  .rw[ad]at f1;have b:j<a.length:=by omega
   have l:=wS (n:=j);have c:=Ea a b;have i:=qW a (j+1);have d:(a.map ac)[j]?=some (ac a[j]):=by grind
   have g:=qX a.flatten.length a j;generalize a[j]=x at*;have h:(a.take (j+1)).flatten.length=(a.take j).flatten.length+x.length:=by grind
   refine jX j rfl rfl d rfl (gg rfl (IJ rfl rfl rfl (dS (n:=2) (fun _=>rfl) _) (by grind) (zB _) (by rw[zA];show(_+_) *17<=2^40;omega) ?_));rw[<-yD,g,<-zb,<-c,zA,<-h];refine gE rfl (f (j+1) b (by omega) (ah rfl ⟨ae am _,tr⟩ ?_));grind[ja,aa,qm]
  rw[af]at f1;obtain rfl:j=a.length:=by omega
  refine gE rfl (gg rfl (cS rfl rfl rfl ⟨?_,tr⟩ ?_));grind[qX,fh]
  .rw[<-yD,qX,zH];rfl
 refine gg rfl (bd rfl rfl (gg rfl ?_));rw[zA];refine aw (S:=fun j:Nat=>([.ref 0 0 (a.take j).flatten.length,ja a,aa a.length,aa j],some (.row ((qm 0 a j).map Spot.enc) 2)::nn3,zz4)) (C:=fun j=>j<=a.length) (m:=fun j=>a.length-j) 0 (zB _) (by omega) ?_ ?_
 .refine ah rfl ⟨?_,tr⟩ ?_;rfl;rfl
 intro j k q f;refine jC rfl (fun f1=>?_) (fun f1=>?_)
 .rw[ad]at f1;have b:j<a.length:=by omega
  have l:=wS (n:=j);have c:=Ea a b;have i:=qW a (j+1);have d:(a.map ac)[j]?=some (ac a[j]):=by grind
  have g:=qX 0 a j;generalize a[j]=x at*;have h:(a.take (j+1)).flatten.length=(a.take j).flatten.length+x.length:=by grind
  refine jX j rfl rfl d rfl (gg rfl (IJ rfl rfl rfl (dS (n:=2) (fun _=>rfl) _) (by grind) (zB _) (by rw[zA];show(_+_) *17<=2^40;omega) ?_));rw[<-yD,g,<-zb,<-c,zA,<-h];refine gE rfl (f (j+1) b (by omega) (ah rfl ⟨ae am _,tr⟩ ?_));grind[ja,aa,qm]
 rw[af]at f1;obtain rfl:j=a.length:=by omega
 refine gE rfl (gg rfl (cS rfl rfl rfl ⟨?_,tr⟩ ?_));grind[qX,fh]
 .rw[<-yD,qX,zH];rfl
end Go.F
namespace Go.F
def im (d:Spot)(p:Rp):Rp:=p.map fun s=>dX s d
attribute [local irreducible] IntKind.wrap wpM
theorem Q9 (p:Rp)(d:Spot) [h:MidS d](j:p.length<=100000)(l:∀s∈p,MidS s):PU 147 [ac p,d.enc]=some (ac (im d p)):=by
 refine PS rfl (gg rfl ?_);rw[zA];refine eu p.length rfl rfl rfl (by grind[aK]) ?_
 have e:List.replicate p.length (D.agg [D.int IntKind.i64 0,D.int IntKind.i64 0])=(dI ⟨0,0⟩ p.length (fun i=>dX (pt p i) d) 0).map Spot.enc:=by
  simp[sA,Spot.enc]
 rw[e];refine gg rfl (aw (S:=fun k:Nat=>([.ptr 0 0 0,.ref 1 0 p.length,ac p,aa p.length,aa k],some (.row [d.enc] 2)::some (.row ((dI ⟨0,0⟩ p.length (fun i=>dX (pt p i) d) k).map Spot.enc) 2)::nn3,zz5)) (C:=fun k=>k<=p.length) (m:=fun k=>p.length-k) 0 (zB _) (by omega) ?_ ?_)
 .exact ah rfl ⟨rfl,ae am _,tr⟩ (by simp[ac,aa,Spot.enc])
 intro k o N f;refine jC rfl (fun b=>?_) (fun b=>?_)
 .rw[ad]at b;have a:k<p.length:=by omega
  have q:=wS (n:=k);have c:=tg ⟨0,0⟩ (fun i=>dX (pt p i) d) a;have g:MidS (pt p k):=by grind[bc]
  have c1:IntKind.i64.wrap ((pt p k).x+d.x)=(pt p k).x+d.x:=cH (by decide);have c2:IntKind.i64.wrap ((pt p k).y+d.y)=(pt p k).y+d.y:=cH (by decide);refine jX k rfl rfl (aZ a) rfl (gg rfl ?_);rw[c1,c2];refine aA k rfl rfl rfl rfl rfl a (gp (enc:=Spot.enc) (dI ⟨0,0⟩ p.length (fun i=>dX (pt p i) d) k) k (dX (pt p k) d) rfl rfl (zC _) rfl (fun _=>rfl) rfl (zB _) (by grind[kj]) ?_);exact gE rfl (f (k+1) a (by omega) (ah rfl ⟨rfl,ae am _,tr⟩ (by grind[ac,aa])))
 rw[af]at b;obtain rfl:k=p.length:=by omega
 refine gE rfl (gg rfl (cS rfl rfl rfl ⟨bK (by simp[kj]) (bF fh _),tr⟩ ?_));rw[bZ (by simp[kj]),tL]
 have:(List.range p.length).map (fun i=>dX (pt p i) d)=im d p:=by
  apply zp;simp[im];grind[im,bc]
 rw[this];rfl
theorem UH (p:Rp)(d:Spot) [c:MidS d](a:p.length<=100000)(b:∀s∈p,MidS s):PU 99 [ac p,d.enc]=some (ac (im d p)):=by
 exact PS rfl (jA rfl (Q9 p d a b) (jZ rfl))
structure Rect where
 x:Int
 y:Int
 w:Int
 h:Int
def Rect.enc (r:Rect):D:=.agg [.int .i64 r.x,.int .i64 r.y,.int .i64 r.w,.int .i64 r.h]
def loK (p:Rp):Nat->Spot
 |0=>pt p 0
 |k+1=>⟨min (loK p k).x (pt p k).x,min (loK p k).y (pt p k).y⟩
def hiK (p:Rp):Nat->Spot
 |0=>pt p 0
 |k+1=>⟨max (hiK p k).x (pt p k).x,max (hiK p k).y (pt p k).y⟩
theorem lo_le (p:Rp):∀k i,i<k->(loK p k).x<=(pt p i).x/\(loK p k).y<=(pt p i).y:=by
 intro k
 induction k with
 |zero=>simp
 |succ k a=>
  grind[loK]
theorem hi_ge (p:Rp):∀k i,i<k->(pt p i).x<=(hiK p k).x/\(pt p i).y<=(hiK p k).y:=by
 intro k
 induction k with
 |zero=>simp
 |succ k a=>
  grind[hiK]
theorem ZS (p:Rp)(h0:0<p.length):∀k,k<=p.length->(∃i,i<p.length/\(loK p k).x=(pt p i).x)/\∃i,i<p.length/\(loK p k).y=(pt p i).y:=by
 intro k
 induction k with
 |zero=>intro _;exact⟨⟨0,h0,rfl⟩,0,h0,rfl⟩
 |succ k a=>
  grind[loK]
theorem ZM (p:Rp)(h0:0<p.length):∀k,k<=p.length->(∃i,i<p.length/\(hiK p k).x=(pt p i).x)/\∃i,i<p.length/\(hiK p k).y=(pt p i).y:=by
 intro k
 induction k with
 |zero=>intro _;exact⟨⟨0,h0,rfl⟩,0,h0,rfl⟩
 |succ k a=>
  grind[hiK]
def bD (p:Rp):Rect:=⟨(loK p p.length).x,(loK p p.length).y,(hiK p p.length).x-(loK p p.length).x,(hiK p p.length).y-(loK p p.length).y⟩
def iM (p:Rp):Rect×Int:=if bE p=0 then(bD p,0)else(⟨0,0,0,0⟩,bE p)
def encBox (r:Rect×Int):D:=.tup [r.1.enc,.int .i64 r.2]
theorem tM (p:Rp):PU 32 [ac p]=some (encBox (iM p)):=by
 refine PS rfl (jA rfl (pj p) (jC rfl (fun e=>?_) (fun e=>?_)))
 .rw[aO]at e;refine jF rfl ?_;rw[iM,vd e];rfl
 rw[aE]at e;obtain⟨h3,l,_,j,_⟩:=fj e;have f:∀i,i<p.length->aD (pt p i) 1048576=true:=fun i hi=>by grind[bc]
 refine jX 0 rfl rfl (aZ (by omega)) rfl ?_;refine jX 0 rfl rfl (aZ (by omega)) rfl ?_;refine gg rfl ?_;rw[zA];refine aw (S:=fun k:Nat=>([.ptr 0 0 0,.ptr 1 0 0,.ptr 2 0 0,ac p,aa p.length,aa k],some (.row [Rect.enc ⟨0,0,0,0⟩] 4)::some (.row [(loK p k).enc] 2)::some (.row [(hiK p k).enc] 2)::nn3,zz6)) (C:=fun k=>k<=p.length) (m:=fun k=>p.length-k) 0 (zB _) (by omega) ?_ ?_
 .exact ah rfl ⟨rfl,rfl,rfl,tr⟩ rfl
 intro k w N o;refine jC rfl (fun h=>?_) (fun h=>?_)
 .rw[ad]at h;have g:k<p.length:=by omega
  have x:=wS (n:=k);exact jX k rfl rfl (aZ g) rfl (gE rfl (o (k+1) g (by omega) (ah rfl ⟨rfl,rfl,rfl,tr⟩ (by grind[ac,aa,Spot.enc,loK,hiK]))))
 rw[af]at h;obtain rfl:k=p.length:=by omega
 refine gE rfl (jF rfl ?_);rw[iM,ve e];obtain⟨⟨a,q,y⟩,b,r,b2⟩:=ZS p (by omega) p.length (zD _);obtain⟨⟨c,c1,c2⟩,d,d1,d2⟩:=ZM p (by omega) p.length (zD _);have s:=f a q;have t:=f b r;have u:=f c c1;have v:=f d d1;simp[aD]at s t u v;rw[wrap64 (by omega) (by omega),wrap64 (by omega) (by omega)];rfl
def uI:List (Nat×Option Blk)->ab->ab
 |[],h=>h
 |x::l,h=>upd (uI l h) x.1 x.2
def uc:List (Nat×Option Blk)->Frz->Frz
 |[],z=>z
 |x::l,z=>upd (uc l z) x.1 0
def HasB (l:List (Nat×Option Blk))(h:ab)(z:Frz):Prop:=(∃h0:ab,h=uI l h0)/\∃a:Frz,z=uc l a
def AllB:List (Nat×Option Blk)->ab->Frz->Prop
 |[],_,_=>True
 |x::l,h,z=>(h x.1=x.2/\z x.1=0)/\AllB l h z
theorem DQ:∀{l:List (Nat×Option Blk)} {h:ab} {z:Frz},AllB l h z->h=uI l h/\z=uc l z
 |[],_,_,_=>⟨rfl,rfl⟩
 |x::l,h,z,⟨⟨h1,a⟩,h3⟩=>by
  obtain⟨b,c⟩:=DQ h3;rw[uI,uc,<-b,<-c,dY h1,dY a];simp
theorem HasB.of {l:List (Nat×Option Blk)}{h:ab}{z:Frz}(a:AllB l h z):HasB l h z:=⟨⟨h,(DQ a).1⟩,z,(DQ a).2⟩
theorem bv {nx0:Nat}{ids:Ke}{h:ab}{id:Nat}{b:Option Blk}(a:h id=b)(c:aI b=true):dn nx0 ids h id=b:=by
 grind[dn,lB]
theorem aF {nx0:Nat}{h:ab}{id:Nat}{b:Option Blk}(a:h id=b)(c:aI b=true):cz nx0 h id=b:=by
 grind[cz,lB]
structure Shp where
 poly:Rp
 grain:Int
 mtch:Bool
 anchor:Spot
def Shp.enc (s:Shp):D:=.agg [ac s.poly,.int .i64 s.grain,.bool s.mtch,.int .i64 s.anchor.x,.int .i64 s.anchor.y]
def cq (l:List Shp):D:=.lst (l.map Shp.enc)
def shp (l:List Shp)(i:Nat):Shp:=l.getD i ⟨[],0,false,⟨0,0⟩⟩
theorem uj {l:List Shp}{i:Nat}(h:i<l.length):(l.map Shp.enc)[i]?=some (shp l i).enc:=by grind[shp]
structure Put2 where
 shape:Int
 turn:Turn
 at_:Spot
def Put2.enc (p:Put2):D:=.agg [.int .i64 p.shape,.bool p.turn.flip,.int .i64 p.turn.quarter,.int .i64 p.at_.x,.int .i64 p.at_.y]
def cW (l:List Put2):D:=.lst (l.map Put2.enc)
theorem ZF (p:Put2):plain 4 p.enc=true:=rfl
theorem ZI (p:Put2):dat 4 p.enc=true:=rfl
def nh (l:List Shp)(p:Put2):Bool:=decide (p.shape<0) ||(decide ((l.length:Int)<=p.shape) ||!aD p.at_ 1048576)
def o4 (l:List Shp)(p:Put2):Rp:=im p.at_ (dj p.turn (shp l p.shape.toNat).poly)
def bu (l:List Shp)(p:Put2):Rp×Int:=
 if nh l p=true then([],3)
 else if bE (shp l p.shape.toNat).poly≠0 then([],bE (shp l p.shape.toNat).poly)
 else if bE (o4 l p)≠0 then([],bE (o4 l p))else(o4 l p,0)
theorem As {x:Int}{B:Nat}(a:B<=4611686018427387904)(h:x.natAbs<=B):(ng x).natAbs<=B/\ng x= -x:=by
 grind[ng,wrap64]
theorem Cy {s:Spot}{B:Nat}(a:B<=4611686018427387904)(h:s.x.natAbs<=B/\s.y.natAbs<=B):∀k,(nL k s).x.natAbs<=B/\(nL k s).y.natAbs<=B
 |0=>h
 |k+1=>⟨(As a (Cy a h k).2).1,(Cy a h k).1⟩
theorem PZ {s:Spot}{B:Nat}(a:B<=4611686018427387904)(h:s.x.natAbs<=B/\s.y.natAbs<=B)(t:Turn):(dm t s).x.natAbs<=B/\(dm t s).y.natAbs<=B:=by
 refine Cy a ?_ _;unfold n5;split
 simp_all[As];omega
theorem q2R {s:Spot}{n:Nat}:aD s n=true↔s.x.natAbs<=n/\s.y.natAbs<=n:=by
 simp[aD];omega
theorem V9 {p:Rp}{B:Nat}(a:B<=4611686018427387904)(t:Turn)(h:∀s∈p,s.x.natAbs<=B/\s.y.natAbs<=B):∀s∈dj t p,s.x.natAbs<=B/\s.y.natAbs<=B:=by
 grind[dj,PZ,bc]
theorem Uh {p:Rp}(t:Turn)(h:bE p=0):∀s∈dj t p,MidS s:=by
 obtain⟨h3,c,_,a,_⟩:=fj h;intro s b;have:=V9 (B:=1048576) (by decide) t (fun s b=>q2R.1 (a s b)) s b;exact⟨by omega,by omega⟩
theorem CL (t:Turn)(p:Rp):(dj t p).length=p.length:=by simp[dj]
theorem mL (l:List Shp)(p:Put2):PU 59 [cq l,p.enc]=some (oF (bu l p)):=by
 refine PS rfl ?_
 repeat' (first
  |refine jP rfl ?_
  |refine gr rfl ?_|refine aq rfl ?_|refine au rfl ?_ ?_<;>intro _
  |refine ak rfl ?_|refine aj rfl ?_|refine an rfl ?_ ?_<;>intro _
  |refine fI rfl ?_
  |refine aB rfl rfl (CR p.at_) ?_)
 grind[ad,bu,nh,oF,ac];grind[bk,bu,nh,oF,ac];grind[bu,nh,oF,ac];rename_i g h e;rw[af]at g;rw[aW,zA]at h;have i:nh l p=false:=by grind[nh]
 have b:p.shape.toNat<l.length:=by omega
 have a:=Uh (p:=(shp l p.shape.toNat).poly) p.turn;have j:aD p.at_ 1048576=true:=by grind
 have k:=(q2R (n:=1048576)).1 j;have m:MidS p.at_:=⟨by omega,by omega⟩;unfold bu;rw[i,vd (by decide)];generalize c:(shp l p.shape.toNat)=sh at*;refine cg p.shape.toNat rfl rfl (by omega) (by rw[uj b,c]) rfl ?_;refine jA rfl (pj sh.poly) (jC rfl (fun e=>?_) (fun e=>?_))
 .rw[aO]at e;refine jF rfl ?_;rw[ve e];rfl
 rw[aE]at e;rw[eE];have f:=(fj e).2.1;refine jA rfl (Mt p.turn sh.poly (by omega)) ?_;refine jA rfl (UH _ p.at_ (by grind[CL]) (a e)) ?_;refine jA rfl (pj _) ?_;have d:o4 l p=im p.at_ (dj p.turn sh.poly):=by grind[o4]
 rw[d];refine jC rfl (fun e=>?_) (fun e=>?_)
 .rw[aO]at e;refine jF rfl ?_;rw[ve e];rfl
 rw[aE]at e;rw[eE];exact jZ rfl
def sE (a b c q:Spot):Int:=
 let m:=min (min (ay a b q) (ay b c q)) (ay c a q)
 if 0<m then 1 else if m=0 then 0 else-1
def oA (a b c q:Spot):Int:=
 if ay a b c=0 then-1 else if ay a b c<0 then sE a c b q else sE a b c q
theorem TX (a b c q:Spot)(d:aD a 1048576=true)(e:aD b 1048576=true)(i:aD c 1048576=true)(j:aD q 1048576=true):PU 116 [ac [a,b,c],q.enc]=some (.int .i64 (oA a b c q)):=by
 have ok:∀{s:Spot},aD s 1048576=true->OkS s:=fun h=>by
  have:=(q2R (n:=1048576)).1 h;exact⟨by omega,by omega⟩
 haveI:=ok d;haveI:=ok e;haveI:=ok i;haveI:=ok j
 have f:=Br a;have g:=Br b;have k:=Br c;have l:=Br q;rw[d]at f;rw[e]at g;refine PS rfl ?_
 repeat' (first
  |refine jP rfl ?_
  |refine au rfl ?_ ?_<;>intro _
  |refine an rfl ?_ ?_<;>intro _
  |refine fI rfl ?_
  |refine aB rfl rfl (l) ?_
  |refine aB rfl rfl (f) ?_
  |refine aB rfl rfl (g) ?_
  |refine aB rfl rfl (k) ?_
  |refine aB rfl rfl (BM _ _ _) ?_
  |(show wpM _ _ _ (Fr.ops _ _ (KOper.mk _ _ none _ (KOp.ixs _ _ _)::_)::_) Ex.normal _ _ _ _ _;(first|refine cg 0 rfl rfl rfl rfl rfl ?_|refine cg 1 rfl rfl rfl rfl rfl ?_|refine cg 2 rfl rfl rfl rfl rfl ?_)))
 all_goals (try simp only[cw,ca,cC,eJ,zT,zQ]at*)
 all_goals (simp_all[oA,sE])
 all_goals first|(intros;exfalso;omega) |omega
theorem N0 (a len:Int)(h1: -9223372036854775808<=a)(c:a<=9223372036854775807)(d:1<=len)(b:len<=9223372036854775807):
 PU 75 [.int .i64 a,.int .i64 len]=some (.tup [.int .i64 (max a (-1048576)),.int .i64 (min (a+len) 1048576),.bool (decide (max a (-1048576)<min (a+len) 1048576))]):=by
 refine PS rfl (gg rfl ?_);rw[wrap64 (x:=9223372036854775807-len) (by omega) (by omega)];refine an rfl (fun e=>?_) (fun e=>?_)
 .rw[bk]at e;refine gg rfl ?_;rw[wrap64 (x:=a+len) (by omega) (by omega)];refine fI rfl ?_;rw[cw]
 rw[aW]at e;refine jF rfl ?_;grind[cw]
def DU (p q:Spot)(b:Rp):Nat->Int
 |0=> -1
 |k+1=>max (DU p q b k) (br (ay p q (pt b k)) 0)
def nx (a:Rp)(i:Nat):Spot:=pt a ((i+1)%a.length)
def rS (a b:Rp):Nat->Int
 |0=>1
 |k+1=>min (rS a b k) (DU (pt a k) (nx a k) b b.length)
theorem Lp (a b:Rp) [p:OkP a] [q:OkP b](r:a.length<=1000)(s:b.length<=1000):PU 118 [ac a,ac b]=some (.int .i64 (rS a b a.length)):=by
 refine PS rfl (gg rfl ?_);rw[zA];refine aw (S:=fun k:Nat=>([ac a,ac b,aa (rS a b k),ac a,aa a.length,aa k],none::nn5,zz6)) (C:=fun k=>k<=a.length) (m:=fun k=>a.length-k) 0 (zB _) (by omega) ?_ ?_;rfl;intro k t N i;refine jC rfl (fun e=>?_) (fun e=>?_)
 .rw[ad]at e;have c:k<a.length:=by omega
  have h:=wS (n:=k);have d:(k+1)%a.length<a.length:=zI _ (by omega)
  haveI:OkS (nx a k):=lq
  refine jX k rfl rfl (aZ c) rfl (gg rfl ?_);rw[h,zA];refine dx rfl rfl (by omega) ?_;refine jX ((k+1)%a.length) rfl (by rfl) (aZ d) rfl ?_;refine gg rfl ?_;rw[zA];refine aw (S:=fun j:Nat=>([ac a,ac b,aa (rS a b k),.ptr 3 0 0,.ptr 4 0 0,aa (DU (pt a k) (nx a k) b j),ac a,aa a.length,aa k,ac b,aa b.length,aa j],none::none::none::some (.row [(pt a k).enc] 2)::some (.row [(nx a k).enc] 2)::nn7,zz12)) (C:=fun j=>j<=b.length) (m:=fun j=>b.length-j) 0 (zB _) (by omega) ?_ ?_
  .exact ah rfl ⟨rfl,rfl,tr⟩ rfl
  intro j u v g;refine jC rfl (fun e=>?_) (fun e=>?_)
  .rw[ad]at e;have f:j<b.length:=by omega
   have l:=wS (n:=j);refine jX j rfl rfl (aZ f) rfl (gg rfl ?_);have o:IntKind.i64.wrap (IntKind.i64.wrap (IntKind.i64.wrap ((nx a k).x-(pt a k).x) *IntKind.i64.wrap ((pt b j).y-(pt a k).y))-IntKind.i64.wrap (IntKind.i64.wrap ((nx a k).y-(pt a k).y) *IntKind.i64.wrap ((pt b j).x-(pt a k).x)))=ay (pt a k) (nx a k) (pt b j):=by simp[cH,ay]
   rw[o];exact aB rfl rfl (js _ _) (gE rfl (g (j+1) f (by omega) (ah rfl ⟨rfl,rfl,tr⟩ (by rw[l];rfl))))
  rw[af]at e;obtain rfl:j=b.length:=by omega
  exact gE rfl (gE rfl (i (k+1) c (by omega) (ah rfl tr (by rw[h];rfl))))
 rw[af]at e;obtain rfl:k=a.length:=by omega
 exact gE rfl (jZ rfl)
def nE (a b:Rp):Int:=min (rS a b a.length) (rS b a b.length)
theorem JR (a b:Rp) [e:OkP a] [f:OkP b](c:a.length<=1000)(d:b.length<=1000):PU 76 [ac a,ac b]=some (.int .i64 (nE a b)):=by
 exact PS rfl (jA rfl (Lp a b c d) (jA rfl (Lp b a d c) (jZ rfl)))
structure Zone where
 lo:Int
 hi:Int
def Zone.enc (z:Zone):D:=.agg [.int .i64 z.lo,.int .i64 z.hi]
def ou (l:List Zone):D:=.lst (l.map Zone.enc)
theorem qf (z:Zone):plain 4 z.enc=true:=rfl
theorem VE (z:Zone):dat 4 z.enc=true:=rfl
def zn (l:List Zone)(i:Nat):Zone:=l.getD i ⟨0,0⟩
theorem Zs {l:List Zone}{i:Nat}(h:i<l.length):zn l i=l[i]:=by grind[zn]
theorem Az {l:List Zone}{i:Nat}(h:i<l.length):(l.map Zone.enc)[i]?=some (zn l i).enc:=by grind[zn]
def aY (l:Fv):D:=.lst (l.map ac)
def plg (l:Fv)(i:Nat):Rp:=l.getD i []
theorem fw {l:Fv}{i:Nat}(h:i<l.length):plg l i=l[i]:=by grind[plg]
theorem kw {l:Fv}{i:Nat}(h:i<l.length):(l.map ac)[i]?=some (ac (plg l i)):=by grind[plg]
theorem OM {p:Rp}(h:bE p=0): -1048576<=(bD p).x/\0<=(bD p).w/\(bD p).x+(bD p).w<=1048576/\ -1048576<=(bD p).y/\0<=(bD p).h/\(bD p).y+(bD p).h<=1048576:=by
 obtain⟨h3,g,_,f,_⟩:=fj h;have e:∀i,i<p.length->aD (pt p i) 1048576=true:=fun i hi=>by grind[bc]
 obtain⟨⟨a,j,q⟩,b,k,b2⟩:=ZS p (by omega) p.length (zD _);obtain⟨⟨c,c1,c2⟩,d,d1,d2⟩:=ZM p (by omega) p.length (zD _);have l:=e a j;have m:=e b k;have n:=e c c1;have o:=e d d1;simp[aD]at l m n o;have l1:=lo_le p p.length 0 (by omega);have l2:=hi_ge p p.length 0 (by omega);grind[bD]
def nO (p:Rp):Zone:=⟨(bD p).x,(bD p).x+(bD p).w⟩
def eO (n:Int)(p:Rp):Int:=if bE p≠0 then bE p else if(bD p).x<0\/n<(bD p).x+(bD p).w then 13 else 0
def bL (n:Int)(l:Fv):List Zone×Int:=
 if n<1\/1048576<n then([],3)else if 60<l.length then([],5)
 else if orF (l.map (eO n))≠0 then([],orF (l.map (eO n)))else(l.map nO,0)
def encZE (r:List Zone×Int):D:=.tup [ou r.1,.int .i64 r.2]
theorem o9 (a b:List Int)(h:orF a=0):orF (a++b)=orF b:=by
 induction a with
 |nil=>rfl
 |cons x a c=>
  simp[orF]at h⊢;omega
theorem YR {f:Rp->Int}{l:Fv}{k:Nat}(a:k<l.length)(h:orF ((l.take k).map f)=0):orF (l.map f)=if f (plg l k)=0 then orF ((l.drop (k+1)).map f)else f (plg l k):=by
 have e:l=l.take k++l[k]::l.drop (k+1):=by simp
 grind[o9,orF,fw]
theorem T2 {f:Rp->Int}{l:Fv}{k:Nat}(a:k<l.length)(h:orF ((l.take k).map f)=0)(b:f (plg l k)=0):orF ((l.take (k+1)).map f)=0:=by
 grind[List.take_succ_eq_append_getElem,o9,fw,orF]
theorem FZ (n:Int)(l:Fv)(A:l.length<=1000):PU 148 [.int .i64 n,aY l]=some (encZE (bL n l)):=by
 refine PS rfl ?_
 repeat' (first
  |refine jP rfl ?_
  |refine au rfl ?_ ?_<;>intro _
  |refine ak rfl ?_|refine aj rfl ?_|refine an rfl ?_ ?_<;>intro _
  |refine fI rfl ?_)
 .rename_i e;rw[ad]at e;rw[bL,ve (.inl e)];rfl
 .rename_i h e;rw[ad]at e;rw[bL,ve (.inr e)];rfl
 .rename_i h j e;rw[af]at h j;rw[ad,zA]at e;rw[bL,eE,rA];rfl
 rename_i h j e;rw[af]at h j;rw[af,zA]at e
 have u:bL n l=if orF (l.map (eO n))≠0 then([],orF (l.map (eO n)))else(l.map nO,0):=by
  rw[bL,eE,eE]
 rw[u];rw[zA];refine aw (S:=fun k:Nat=>([.int .i64 n,.ref 1 0 k,aY l,aa l.length,aa k],none::some (.row (((l.take k).map nO).map Zone.enc) 2)::nn3,zz5)) (C:=fun k=>k<=l.length/\orF ((l.take k).map (eO n))=0) (m:=fun k=>l.length-k) 0 ⟨zB _,rfl⟩ (by omega) ?_ ?_
 .exact ah rfl ⟨rfl,tr⟩ rfl
 intro k ⟨B,o⟩ N v;refine jC rfl (fun e=>?_) (fun e=>?_)
 .rw[ad]at e;have a:k<l.length:=by omega
  have y:=wS (n:=k);have q:=YR (f:=eO n) a o;have r:=T2 (f:=eO n) a o;have s:(l.take (k+1)).map nO=(l.take k).map nO++[nO (plg l k)]:=by grind[List.take_succ_eq_append_getElem,fw]
  refine jX k rfl rfl (kw a) rfl ?_;generalize plg l k=p at*;refine jA rfl (tM p) ?_;by_cases i:bE p=0
  .have b:iM p=(bD p,0):=ve i;have z:=OM i;have t:=ww (x:=(bD p).x+(bD p).w);have hE:eO n p=if(bD p).x<0\/n<(bD p).x+(bD p).w then 13 else 0:=by simp_all[eO]
   have g:(bD p).x<0\/n<(bD p).x+(bD p).w->orF (l.map (eO n))=13:=fun E=>by omega
   rw[b];refine gg rfl (aj (by show D.bool (nqb _ _)=_;simp[aE]) ?_)
   repeat' (first
    |refine jP rfl ?_
    |refine au rfl ?_ ?_<;>intro _
    |refine ak rfl ?_|refine aj rfl ?_|refine an rfl ?_ ?_<;>intro _
    |refine fI rfl ?_)
   .rename_i c;rw[ad]at c;refine bo (jF rfl ?_);rw[g (.inl c),ve (by decide)];rfl
   .rename_i c d;rw[ad,t]at d;refine bo (jF rfl ?_);rw[g (.inr d),ve (by decide)];rfl
   rename_i c d;rw[af]at c d;rw[t]at d⊢;dsimp only at c d;have h0:eO n p=0:=by omega
   refine bI rfl rfl rfl rfl rfl rfl (by grind) (zB _) (by grind[aK]) ?_;refine gE rfl (v (k+1) ⟨a,r h0⟩ (by omega) (ah rfl ⟨?_,tr⟩ ?_))
   .rw[zY,ae qf];rfl
   rw[y,s,zb];rfl
  have b:iM p=(⟨0,0,0,0⟩,bE p):=vd i;have hE:eO n p=bE p:=by simp_all[eO]
  rw[b];refine gg rfl (ak (by show D.bool (nqb _ _)=_;grind[aO]) ?_);refine gE rfl (jF rfl ?_);rw[q,hE,vd i,rA];rfl
 rw[af]at e;obtain rfl:k=l.length:=by omega
 rw[zH]at o⊢;refine gE rfl (gg rfl (cS rfl rfl rfl ⟨bK (by simp) (bF VE _),tr⟩ ?_));rw[bZ (by simp),eE];rfl
def li (l:List Zone)(hi:Int):Nat->Int
 |0=>hi
 |k+1=>if hi<(zn l k).hi then min (li l hi k) (zn l k).lo else li l hi k
def fU (l:List Zone)(hi:Int):Int:=li l hi l.length
theorem NS (l:List Zone)(hi:Int)(f:l.length<=1000):PU 149 [ou l,.int .i64 hi]=some (.int .i64 (fU l hi)):=by
 refine PS rfl (gg rfl ?_);rw[zA];refine aw (S:=fun k:Nat=>([.int .i64 hi,.int .i64 (li l hi k),ou l,aa l.length,aa k],none::nn4,zz5)) (C:=fun k=>k<=l.length) (m:=fun k=>l.length-k) 0 (zB _) (by omega) ?_ ?_;rfl;intro k g N c;refine jC rfl (fun e=>?_) (fun e=>?_)
 .rw[ad]at e;have a:k<l.length:=by omega
  have d:=wS (n:=k);refine jX k rfl rfl (Az a) rfl (jC rfl (fun b=>?_) (fun b=>?_))
  .rw[ad]at b;exact gE rfl (c (k+1) a (by omega) (ah rfl tr (by rw[d,li,ve b];rfl)))
  rw[af]at b;exact gE rfl (c (k+1) a (by omega) (ah rfl tr (by rw[d,li,eE];rfl)))
 rw[af]at e;obtain rfl:k=l.length:=by omega
 exact gE rfl (jZ rfl)
def kU (n:Int)(l:Fv)(hi:Int):Int×Int:=
 if(bL n l).2≠0 then(0,(bL n l).2)else if hi<0\/n<hi then(0,3)else(fU (bL n l).1 hi,0)
theorem O0 (n:Int)(l:Fv):(bL n l).1.length<=60:=by
 grind[bL]
theorem Ns (n:Int)(l:Fv)(hi:Int)(a:l.length<=1000):PU 100 [.int .i64 n,aY l,.int .i64 hi]=some (.tup [.int .i64 (kU n l hi).1,.int .i64 (kU n l hi).2]):=by
 refine PS rfl ?_;have b:=O0 n l;have c:=FZ n l a;unfold kU;generalize bL n l=r at*;obtain⟨z,d⟩:=r;refine jA rfl c ?_
 repeat' (first
  |refine jP rfl ?_
  |refine au rfl ?_ ?_<;>intro _
  |refine ak rfl ?_|refine aj rfl ?_|refine an rfl ?_ ?_<;>intro _
  |refine fI rfl ?_
  |refine aB rfl rfl (NS z hi (zR b (by decide))) ?_)
 simp_all[aO];simp_all[aE,ad];simp_all[aE,ad];simp_all[aE,af,vd]
def od (l:List Zone)(hi:Int)(k:Nat):List Int:=hi::(l.take k).flatMap fun z=>[z.lo,z.hi]
theorem GE {l:List Zone}{hi:Int}{k:Nat}(h:k<l.length):od l hi (k+1)=od l hi k++[(zn l k).lo,(zn l k).hi]:=by
 grind[od,List.take_succ_eq_append_getElem,Zs]
theorem Ks {l:List Zone}{hi:Int}:∀{k:Nat},k<=l.length->(od l hi k).length=1+2*k:=by
 intro k
 induction k with
 |zero=>intro _;rfl
 |succ k a=>grind[GE]
def oO (b z:Zone):Int:=IntKind.i64.wrap (IntKind.i64.wrap (z.hi-z.lo)-IntKind.i64.wrap (b.hi-b.lo))
def ls (f:Bool)(b z:Zone):Bool:=!f||(decide (oO b z<0) ||(decide (oO b z=0)&&decide (b.hi<z.hi)))
def zat (l:List Zone)(h:Int):Zone:=⟨fU l h,h⟩
def dt (l:List Zone)(lo hi:Int)(es:List Int):Nat->Bool×Zone
 |0=>(false,⟨0,0⟩)
 |k+1=>
  if hi<es.getD k 0\/fU l (es.getD k 0)<=lo then dt l lo hi es k
  else if ls (dt l lo hi es k).1 (dt l lo hi es k).2 (zat l (es.getD k 0))=true then(true,zat l (es.getD k 0))else dt l lo hi es k
def ii (n:Int)(ps:Fv)(lo hi:Int):Zone×Int:=
 if(bL n ps).2≠0 then(⟨0,0⟩,(bL n ps).2)else if lo<0\/hi<lo\/n<hi then(⟨0,0⟩,3)
 else
  let es:=od (bL n ps).1 hi (bL n ps).1.length
  if(dt (bL n ps).1 lo hi es es.length).1=true then((dt (bL n ps).1 lo hi es es.length).2,0)else(⟨0,0⟩,18)
def encZ1 (r:Zone×Int):D:=.tup [r.1.enc,.int .i64 r.2]
theorem R4 (n:Int)(l:Fv)(lo hi:Int)(F:l.length<=1000):PU 103 [.int .i64 n,aY l,.int .i64 lo,.int .i64 hi]=some (encZ1 (ii n l lo hi)):=by
 have G:=O0 n l;have H:=FZ n l F;unfold ii;generalize bL n l=r at*;obtain⟨z,M⟩:=r;dsimp only at*;refine PS rfl (jA rfl H ?_)
 repeat' (first
  |refine jP rfl ?_
  |refine gr rfl ?_|refine aq rfl ?_|refine au rfl ?_ ?_<;>intro _
  |refine ak rfl ?_|refine aj rfl ?_|refine an rfl ?_ ?_<;>intro _
  |refine aL rfl ?_ ?_<;>intro _
  |refine fI rfl ?_)
 .rename_i e;rw[aO]at e;rw[rA];rfl
 .rename_i e a;rw[aE]at e;rw[ad]at a;rw[eE,ve (.inl a)];rfl
 .rename_i e a c;rw[aE]at e;rw[ad]at c;rw[eE,ve (.inr (.inl c))];rfl
 .rename_i e a c i;rw[aE]at e;rw[ad]at i;rw[eE,ve (.inr (.inr i))];rfl
 rename_i e a c i;rw[aE]at e;rw[af]at a c i;rw[eE,eE];clear e a c i;rw[zA];refine aw (S:=fun k:Nat=>([.int .i64 lo,.int .i64 hi,.ptr 2 0 0,ou z,.ref 4 0 (1+2*k),ou z,aa z.length,aa k],none::none::some (.row [Zone.enc ⟨0,0⟩] 2)::none::some (.row ((od z hi k).map aa) 1)::nn3,zz8)) (C:=fun k=>k<=z.length) (m:=fun k=>z.length-k) 0 (zB _) (by omega) ?_ ?_
 .exact ah rfl ⟨rfl,rfl,tr⟩ rfl
 intro k A N w;refine jC rfl (fun e=>?_) (fun e=>?_)
 .rw[ad]at e;have d:k<z.length:=by omega
  have j:=wS (n:=k);have x:=GE (hi:=hi) d;have s:=Ks (hi:=hi) A;refine jX k rfl rfl (Az d) rfl (gg rfl (bI rfl rfl rfl rfl rfl rfl (by grind) (zB _) (by grind[aK]) ?_));refine gE rfl (w (k+1) d (by omega) (ah rfl ⟨rfl,?_,tr⟩ ?_))
  .rw[zY,ae iz];rfl
  rw[j,x,zb];rfl
 rw[af]at e;obtain rfl:k=z.length:=by omega
 clear w;refine gE rfl ?_;have s:=Ks (hi:=hi) (zD z.length);generalize od z hi z.length=es at*;refine gg rfl ?_;rw[<-s];refine aw (S:=fun k:Nat=>([.int .i64 lo,.int .i64 hi,.ptr 2 0 0,ou z,.ptr 4 0 0,.bool (dt z lo hi es k).1,.ref 6 0 es.length,aa es.length,aa k],[none,none,some (.row [Zone.enc ⟨0,0⟩] 2),none,some (.row [(dt z lo hi es k).2.enc] 2),none,some (.row (es.map aa) 1),none,none],zz9)) (C:=fun k=>k<=es.length) (m:=fun k=>es.length-k) 0 (zB _) (by omega) ?_ ?_
 .exact ah rfl ⟨rfl,rfl,ae iz _,tr⟩ rfl
 intro k A N w;refine jC rfl (fun e=>?_) (fun e=>?_)
 .rw[ad]at e;have d:k<es.length:=by omega
  have j:=wS (n:=k);have O:(es.map aa)[k]?=some (.int .i64 (es.getD k 0)):=by grind[aa]
  have I:dt z lo hi es (k+1)=if hi<es.getD k 0\/fU z (es.getD k 0)<=lo then dt z lo hi es k
   else if ls (dt z lo hi es k).1 (dt z lo hi es k).2 (zat z (es.getD k 0))=true then(true,zat z (es.getD k 0))else dt z lo hi es k:=rfl
  generalize es.getD k 0=h at*;generalize dt z lo hi es k=B at*;obtain⟨f,b⟩:=B;refine gg rfl (aA k rfl rfl rfl rfl rfl d (gg rfl (aQ rfl rfl (by rw[zC];omega) rfl ?_)));have skip:hi<h\/fU z h<=lo->dt z lo hi es (k+1)=(f,b):=fun D=>by grind
  have g:¬(hi<h\/fU z h<=lo)->ls f b (zat z h)=true->dt z lo hi es (k+1)=(true,zat z h):=fun D J=>by grind
  have o:¬(hi<h\/fU z h<=lo)->ls f b (zat z h)=false->dt z lo hi es (k+1)=(f,b):=fun D J=>by grind
  have fin:∀B,dt z lo hi es (k+1)=B->∀{t:ai} {h:ab} {E:Frz} {nx:Nat},(bz 0 [(2,0),(3,0),(8,0),(10,0),(15,0),(16,0),(60,0),(61,0),(62,0)] t h E nx fun _ _ kp=>kp=([.int .i64 lo,.int .i64 hi,.ptr 2 0 0,ou z,.ptr 4 0 0,.bool B.1,.ref 6 0 es.length,aa es.length,aa ((k+1:Nat):Int)],[none,none,some (.row [Zone.enc ⟨0,0⟩] 2),none,some (.row [B.2.enc] 2),none,some (.row (es.map aa) 1),none,none],zz9))->N t h E nx:=by
   grind
  clear w I
  repeat' (first
   |refine jP rfl ?_
   |refine gr rfl ?_|refine aq rfl ?_|refine au rfl ?_ ?_<;>intro _
   |refine ak rfl ?_|refine aj rfl ?_|refine an rfl ?_ ?_<;>intro _
   |refine aL rfl ?_ ?_<;>intro _
   |refine fI rfl ?_
   |refine aB rfl rfl (NS z _ (zR G (by decide))) ?_)
  .rename_i a;rw[ad]at a;exact bo (fin _ (skip (.inl a)) (ah rfl ⟨rfl,rfl,ae iz _,tr⟩ (by rw[j];rfl)))
  .rename_i a c;rw[bk]at c;exact bo (fin _ (skip (.inr c)) (ah rfl ⟨rfl,rfl,ae iz _,tr⟩ (by rw[j];rfl)))
  .rename_i a c i;rw[af]at a;rw[aW]at c;refine bo (fin _ (g (by omega) (by grind[ls])) (ah rfl ⟨rfl,rfl,ae iz _,tr⟩ (by rw[j];rfl)))
  .rename_i a c i p;rw[af]at a;rw[aW]at c;rw[ad]at p;have y:oO b (zat z h)<0:=p;refine bo (fin _ (g (by omega) (by grind[ls])) (ah rfl ⟨rfl,rfl,ae iz _,tr⟩ (by rw[j];rfl)))
  .rename_i a c i p q u;rw[af]at a;rw[aW]at c;rw[co]at q;rw[ad]at u;have y:oO b (zat z h)=0:=q;have K:b.hi<(zat z h).hi:=u;refine bo (fin _ (g (by omega) (by grind[ls])) (ah rfl ⟨rfl,rfl,ae iz _,tr⟩ (by rw[j];rfl)))
  .rename_i a c i p q u;rw[af]at a p;rw[aW]at c;rw[co]at q;rw[af]at u;have y:oO b (zat z h)=0:=q;have K:(zat z h).hi<=b.hi:=u;have v:f=true:=by grind
   refine bo (fin _ (o (by omega) (by grind[ls])) (ah rfl ⟨rfl,rfl,ae iz _,tr⟩ (by rw[j];rfl)))
  rename_i a c i p q;rw[af]at a p;rw[aW]at c;rw[dG]at q;have y:¬oO b (zat z h)=0:=q;have L:0<=oO b (zat z h):=p;have v:f=true:=by grind
  refine bo (fin _ (o (by omega) (by grind[ls])) (ah rfl ⟨rfl,rfl,ae iz _,tr⟩ (by rw[j];rfl)))
 rw[af]at e;obtain rfl:k=es.length:=by omega
 generalize dt z lo hi es es.length=B at*;obtain⟨f,b⟩:=B;refine gE rfl (jC rfl (fun e=>?_) (fun e=>?_))
 .have v:f=false:=by grind
  subst v;exact jZ rfl
 have v:f=true:=by grind
 subst v;exact jZ rfl
def og (i n:Nat):Bool:=(decide (65<=n)&&decide (n<=90)) ||(!decide (i=0)&&((decide (97<=n)&&decide (n<=122)) ||(decide (48<=n)&&decide (n<=57))))
def idS (s:ByteArray):Bool:=decide (∀i,i<s.size->og i (eS s i).toNat=true)&&(decide (1<=s.size)&&decide (s.size<=8))
theorem SR (s:ByteArray)(o:s.size<=1000000):PU 107 [.str s]=some (.bool (idS s)):=by
 refine PS rfl (gg rfl (aw (S:=fun k:Nat=>([.str s,aa s.size,aa k],none::nn2,zz3)) (C:=fun k=>k<=s.size/\∀i,i<k->og i (eS s i).toNat=true) (m:=fun k=>s.size-k) 0 ⟨by omega,fun i hi=>by omega⟩ (by omega) ?_ ?_));rfl;intro k ⟨p,a⟩ N f;refine jC rfl (fun b=>?_) (fun b=>?_)
 .rw[ad]at b;have c:k<s.size:=by omega
  have g:=wS (n:=k)
  have d:og k (eS s k).toNat=true->∀{t:ai} {h:ab} {z:Frz} {nx:Nat},(bz 0 [(0,0),(8,0),(9,0)] t h z nx fun _ _ kp=>kp=([.str s,aa s.size,aa ((k+1:Nat):Int)],none::nn2,zz3))->N t h z nx:=by
   grind
  have j:og k (eS s k).toNat=false->idS s=false:=by
   grind[idS]
  clear f a;refine gg rfl (eH k rfl rfl rfl (BJ c) ?_)
  repeat' (first
   |refine jP rfl ?_
   |refine gr rfl ?_|refine aq rfl ?_|refine au rfl ?_ ?_<;>intro _
   |refine ak rfl ?_|refine aj rfl ?_|refine an rfl ?_ ?_<;>intro _
   |refine aL rfl ?_ ?_<;>intro _
   |refine fI rfl ?_)
  all_goals refine bo ?_
  all_goals first
   |(refine d ?_ (ah rfl tr (by simp[aa,g]))
     simp only[cw,ca,cC,eJ,zT,zQ,zj,zi,yO,yZ]at*;simp_all[og]
     try omega)
   |(refine gg rfl ?_
     refine fI rfl ?_;rw[j];simp only[cw,ca,cC,eJ,zT,zQ,zj,zi,yO,yZ]at*;simp_all[og]
     try omega)
 rw[af]at b
 have l:decide (∀i,i<s.size->og i (eS s i).toNat=true)=true:=by
  grind
 refine gE rfl ?_
 repeat' (first
  |refine jP rfl ?_
  |refine gr rfl ?_|refine aq rfl ?_|refine au rfl ?_ ?_<;>intro _
  |refine ak rfl ?_|refine aj rfl ?_|refine an rfl ?_ ?_<;>intro _
  |refine aL rfl ?_ ?_<;>intro _
  |refine fI rfl ?_)
 all_goals (unfold idS;rw[l])
 .rename_i e;rw[bk]at e;rw[ca,show decide (1<=s.size)=true by grind,wG,wG,D.bool.injEq,zN];grind
 grind[aW]
structure RollS where
 id:ByteArray
 width:Int
 length:Int
 tl:Int
 ta:Int
 tb:Int
 flaws:List Rect
def CO (l:List Rect):D:=.lst (l.map Rect.enc)
def RollS.enc (r:RollS):D:=.agg [.str r.id,.int .i64 r.width,.int .i64 r.length,.int .i64 r.tl,.int .i64 r.ta,.int .i64 r.tb,CO r.flaws]
def rc (l:List Rect)(i:Nat):Rect:=l.getD i ⟨0,0,0,0⟩
theorem HX {l:List Rect}{i:Nat}(h:i<l.length):rc l i=l[i]:=by grind[rc]
theorem JC {l:List Rect}{i:Nat}(h:i<l.length):(l.map Rect.enc)[i]?=some (rc l i).enc:=by grind[rc]
def lI (n:Int):Bool:=decide (n< -1000) ||decide (1000<n)
def iG (r:RollS)(f:Rect):Bool:=
 decide (f.x<0) ||(decide (f.w<1) ||(decide (r.length-f.x<f.w) ||(decide (f.y<0) ||(decide (f.h<1) ||decide (r.width-f.y<f.h)))))
def eB (r:RollS):Int:=
 if idS r.id=false then 1
 else if r.length<1\/1048576<r.length\/r.width<1\/1048576<r.width then 3
 else if [r.tl,r.ta,r.tb].any lI=true then 3
 else if 20<r.flaws.length then 5
 else if r.flaws.any (iG r)=true then 3 else 0
theorem jL {α:Type}{f:α->Bool}{l:List α}{k:Nat}(a:k<l.length)(h:(l.take k).any f=false)(b:f l[k]=false):(l.take (k+1)).any f=false:=by
 grind[List.take_succ_eq_append_getElem]
theorem jO {α:Type}{f:α->Bool}{l:List α}{k:Nat}(a:k<l.length)(b:f l[k]=true):l.any f=true:=xc.2 ⟨_,zE a,b⟩
theorem S6 (r:RollS)(A:r.id.size<=1000000)(z:1<=r.length->1<=r.width->∀f∈r.flaws,-9223372036854775808<=f.x/\f.x<=9223372036854775807/\ -9223372036854775808<=f.y/\f.y<=9223372036854775807):PU 69 [r.enc]=some (.int .i64 (eB r)):=by
 refine PS rfl (jA rfl (SR r.id A) (jC rfl (fun e=>?_) (fun e=>?_)))
 .refine jF rfl ?_;grind[eB]
 have B:idS r.id=true:=by grind
 clear e
 repeat' (first
  |refine jP rfl ?_
  |refine gr rfl ?_|refine aq rfl ?_|refine au rfl ?_ ?_<;>intro _
  |refine ak rfl ?_|refine aj rfl ?_|refine an rfl ?_ ?_<;>intro _
  |refine aL rfl ?_ ?_<;>intro _
  |refine fI rfl ?_)
 grind[ad,eB];grind[ad,eB];grind[ad,eB];grind[ad,eB];rename_i D E F G;rw[af]at D E F G
 have s:eB r=if [r.tl,r.ta,r.tb].any lI=true then 3
  else if 20<r.flaws.length then 5
  else if r.flaws.any (iG r)=true then 3 else 0:=by simp_all[eB,vd]
 rw[s];refine aw (S:=fun k:Nat=>([.ptr 0 0 0,.ref 1 0 3,aa 3,aa k],some (.row [r.enc] 7)::some (.row ([r.tl,r.ta,r.tb].map aa) 1)::nn2,zz4)) (C:=fun k=>k<=3/\(([r.tl,r.ta,r.tb]:List Int).take k).any lI=false) (m:=fun k=>3-k) 0 ⟨by omega,rfl⟩ (by omega) ?_ ?_
 .exact ah rfl ⟨rfl,rfl,tr⟩ rfl
 intro k ⟨H,j⟩ N o;refine jC rfl (fun e=>?_) (fun e=>?_)
 .rw[ad]at e;have a:k<([r.tl,r.ta,r.tb]:List Int).length:=by grind
  have t:=wS (n:=k);have I:(([r.tl,r.ta,r.tb]:List Int).map aa)[k]?=some (aa ([r.tl,r.ta,r.tb]:List Int)[k]):=eP a;have b:=jL (f:=lI) a j;have d:=jO (f:=lI) a;refine gg rfl (aA k rfl rfl rfl rfl rfl (by omega) ?_);refine aQ rfl rfl (by rw[zC];omega) rfl ?_
  repeat' (first
   |refine jP rfl ?_
   |refine gr rfl ?_|refine aq rfl ?_|refine au rfl ?_ ?_<;>intro _
   |refine ak rfl ?_|refine aj rfl ?_|refine an rfl ?_ ?_<;>intro _
   |refine aL rfl ?_ ?_<;>intro _
   |refine fI rfl ?_)
  .rename_i p;rw[ad]at p;refine bo (jF rfl ?_);simp_all[lI]
  .rename_i p u;rw[ad]at u;refine bo (jF rfl ?_);simp_all[lI]
  rename_i p u;rw[af]at p u;exact bo (o (k+1) ⟨by omega,b (by grind[lI])⟩ (by omega) (ah rfl ⟨rfl,rfl,tr⟩ (by rw[t];rfl)))
 rw[af]at e;obtain rfl:k=3:=by omega
 clear o;have l:([r.tl,r.ta,r.tb]:List Int).any lI=false:=j;rw[l,vd (by decide)];clear j l;refine gE rfl (gg rfl ?_);rw[zA];refine an rfl (fun e=>?_) (fun e=>?_)
 .rw[ad]at e;refine jF rfl ?_;grind
 rw[af]at e;rw[eE];refine gg rfl ?_;rw[zA];refine aw (S:=fun k:Nat=>([.ptr 0 0 0,CO r.flaws,aa r.flaws.length,aa k],some (.row [r.enc] 7)::nn3,zz4)) (C:=fun k=>k<=r.flaws.length/\(r.flaws.take k).any (iG r)=false) (m:=fun k=>r.flaws.length-k) 0 ⟨by omega,rfl⟩ (by omega) ?_ ?_
 .exact ah rfl ⟨rfl,tr⟩ rfl
 intro k ⟨H,j⟩ N o;refine jC rfl (fun e=>?_) (fun e=>?_)
 .rw[ad]at e;have a:k<r.flaws.length:=by omega
  have t:=wS (n:=k);have b:=jL (f:=iG r) a j;have d:=jO (f:=iG r) a;have v:=z (by omega) (by omega) _ (zE a);rw[<-HX a]at b d v;refine jX k rfl rfl (JC a) rfl ?_;generalize rc r.flaws k=f at*;clear z
  repeat' (first
   |refine jP rfl ?_
   |refine gr rfl ?_|refine aq rfl ?_|refine au rfl ?_ ?_<;>intro _
   |refine ak rfl ?_|refine aj rfl ?_|refine an rfl ?_ ?_<;>intro _
   |refine aL rfl ?_ ?_<;>intro _
   |refine fI rfl ?_)
  .rename_i c;rw[ad]at c;refine bo (jF rfl ?_);simp_all[iG]
  .rename_i c g;rw[ad]at g;refine bo (jF rfl ?_);simp_all[iG]
  .rename_i c g h;rw[af]at c;rw[ad,wrap64 (by omega) (by omega)]at h;refine bo (jF rfl ?_);simp_all[iG]
  .rename_i c g h i;rw[ad]at i;refine bo (jF rfl ?_);simp_all[iG]
  .rename_i c g h i q;rw[ad]at q;refine bo (jF rfl ?_);simp_all[iG]
  .rename_i c g h i q w;rw[af]at i;rw[ad,wrap64 (by omega) (by omega)]at w;refine bo (jF rfl ?_);simp_all[iG]
  rename_i c g h i q w;rw[af]at c g i q;rw[af,wrap64 (by omega) (by omega)]at h w;exact bo (o (k+1) ⟨a,b (by grind[iG])⟩ (by omega) (ah rfl ⟨rfl,tr⟩ (by rw[t];rfl)))
 rw[af]at e;refine gE rfl (jF rfl ?_);grind
section
variable {T:Tab}{sh:Shr}{nx0:Nat}{s:List Fr}{t:ai}{h:ab}{z:Frz}{nx:Nat}{q:Ex->ai->ab->Frz->Nat->Prop}
variable {base i:Nat}{res:List Nat}{g:Gd}{rest:List KOper}
theorem H3 {f:X}{args:List X}{b:FuncId}{d:Option Nat}{a e:Hm}(k:f.ev t=.fn b a e)(m:T.shared b=false)
 (n:wpM T sh nx0 (.ops base res (⟨i,d,none,g,.callF b (a.map .c++args++e.map .c)⟩::rest)::s) .normal t h z nx q):
 wpM T sh nx0 (.ops base res (⟨i,d,none,g,.callV f args⟩::rest)::s) .normal t h z nx q:=by
 have o:∀l:Hm,(l.map X.c).map (·.ev t)=l:=by
  intro l;induction l with
  |nil=>rfl
  |cons x l j=>simp[j];rfl
 simp_all[wpM,wpo,kop]
theorem I7 {f:X}{args:List X}{b:FuncId}{d:Option Nat}{a e:Hm}(k:f.ev t=.fn b a e)(m:T.shared b=false)
 (n:wpM T sh nx0 (.ops base res (⟨i,d,none,g,.callF b (a.map .c++args++e.map .c)⟩::rest)::s) .normal t h z nx q):
 wpM T sh nx0 (.ops base res (⟨i,d,none,g,.callW f args⟩::rest)::s) .normal t h z nx q:=by
 have o:∀l:Hm,(l.map X.c).map (·.ev t)=l:=by
  intro l;induction l with
  |nil=>rfl
  |cons x l j=>simp[j];rfl
 grind[wpM,wpo,kop]
end
def inB (n m:Int):Bool:=decide (-m<=n)&&decide (n<=m)
theorem Et {n m:Int}:inB n m=true↔ -m<=n/\n<=m:=by simp[inB]
theorem Cs (n m:Int)(h0:0<=m)(h1:m<=1000000):PU 38 [.int .i64 n,.int .i64 m]=some (.bool (inB n m)):=by
 have w:IntKind.i64.wrap (0-m)= -m:=by grind[wrap64]
 refine PS rfl ?_
 repeat' (first
  |refine jP rfl ?_
  |refine gr rfl ?_|refine aq rfl ?_|refine au rfl ?_ ?_<;>intro _
  |refine ak rfl ?_|refine aj rfl ?_|refine an rfl ?_ ?_<;>intro _
  |refine aL rfl ?_ ?_<;>intro _
  |refine fI rfl ?_)
 all_goals ((try simp only[cw,ca,cC,eJ,zT,zQ,zj,zi,yO,yZ]at*);first|(simp_all[inB];done) |grind[inB] |(rw[D.bool.injEq,zN];simp[inB];omega) |(rw[D.bool.injEq,zN];simp_all[inB];omega) |(simp[inB];split<;>(try split)<;>omega))
theorem MX (a b:Int)(h0:0<=a)(j:a<=1099511627776)(k:0<b)(c:b<=1099511627776):PU 83 [.int .i64 a,.int .i64 b]=some (.int .i64 (dl a b)):=by
 refine PS rfl (gg rfl ?_);have d:=ww (x:=2*a);have e:=ww (x:=2*a+b);have f:=ww (x:=2*b);refine an rfl (fun h=>?_) (fun h=>?_)
 .rw[ad]at h;omega
 refine gg rfl (EF rfl rfl (by omega) ?_);refine jF rfl ?_;have g:(2*a+b).tdiv (2*b)=(2*a+b)/(2*b):=wY (by omega);have l:(2*a+b)/(2*b)<=2*a+b:=wD _ (by omega);have i:0<=(2*a+b)/(2*b):=xm (by omega) (by omega);rw[d,e,f,g,wrap64 (by omega) (by omega),dl,eE]
theorem JF (a b:Int)(d: -1099511627776<=a)(i:a<=1099511627776)(e:0<b)(c:b<=1099511627776):PU 83 [.int .i64 a,.int .i64 b]=some (.int .i64 (dl a b)):=by
 by_cases h0:0<=a
 grind[MX];refine PS rfl (jC rfl (fun h=>?_) (fun h=>?_))
 .refine gg rfl ?_;have f:IntKind.i64.wrap (0-a)= -a:=by grind[wrap64]
  rw[f];refine aB rfl rfl (MX (-a) b (by omega) (by omega) e c) ?_;refine jF rfl ?_;have j:(2*(-a)+b)/(2*b)<=2*(-a)+b:=wD _ (by omega);have g:0<=(2*(-a)+b)/(2*b):=xm (by omega) (by omega);rw[dl,eE,dl,rA,wrap64 (by omega) (by omega)];simp
 rw[af]at h;omega
def mX (c:Rp)(m:Int)(i:Nat):Spot:=⟨m*(pt c (i%c.length)).x,m*(pt c (i%c.length)).y⟩
def pX (s:Spot)(n:Nat):Prop:=s.x.natAbs<=n/\s.y.natAbs<=n
theorem Gb {m x:Int}(a:m.natAbs<=100)(b:x.natAbs<=1000):(m*x).natAbs<=100000:=by
 rw[yV];exact zR (z6 a b) (by decide)
theorem BW {c:Rp}(b:∀s∈c,pX s 1000){m:Int}(a:m.natAbs<=100)(h0:0<c.length)(i:Nat):pX (mX c m i) 100000:=by
 have h:=b (pt c (i%c.length)) (by grind[bc,Nat.mod_lt]);exact⟨Gb a h.1,Gb a h.2⟩
theorem Nh (c:Rp)(m:Int)(i:Nat)(d:∀s∈c,pX s 1000)(e:m.natAbs<=100)(h0:0<c.length)(hi:i<=140737488355328)(h:c.length<=140737488355328):
 PU 40 [.agg [ac c,.int .i64 m],.int .i64 i]=some (mX c m i).enc:=by
 have b:i%c.length<c.length:=zI _ h0;have a:=BW d e h0 i;have j:(mX c m i).x=m*(pt c (i%c.length)).x:=rfl;have k:(mX c m i).y=m*(pt c (i%c.length)).y:=rfl;have f:IntKind.i64.wrap (m*(pt c (i%c.length)).x)=m*(pt c (i%c.length)).x:=wrap64 (by have:=a.1;omega) (by have:=a.1;omega);have g:IntKind.i64.wrap (m*(pt c (i%c.length)).y)=m*(pt c (i%c.length)).y:=wrap64 (by have:=a.2;omega) (by have:=a.2;omega);refine PS rfl (gg rfl ?_);rw[zA];refine dx rfl rfl (by omega) ?_;refine cg (i%c.length) rfl rfl mC (aZ b) rfl (gg rfl ?_);rw[f,g];exact fI rfl rfl
def movC (n k:Nat)(v a b:Int):Int:=v+dl (((n:Int)-1-k) *a+k*b) ((n:Int)-1)
def rO (l:Rp)(a b:Spot)(k:Nat):Spot:=⟨movC l.length k (pt l k).x a.x b.x,movC l.length k (pt l k).y a.y b.y⟩
def movL (l:Rp)(a b:Spot):Rp:=(List.range l.length).map (rO l a b)
theorem Nz {n k:Nat}(e:k<n)(f:n<=40){a b:Int}(c:a.natAbs<=100000)(d:b.natAbs<=100000):(((n:Int)-1-k) *a).natAbs<=4000000/\((k:Int) *b).natAbs<=4000000:=by
 constructor
 .rw[yV];exact zR (z6 (show _<=40 by omega) c) (by decide)
 rw[yV];exact zR (z6 (show _<=40 by omega) d) (by decide)
theorem T6 (l:Rp)(a b:Spot)(u:2<=l.length)(d:l.length<=40)(j:∀s∈l,aD s 1048576=true)(g:pX a 100000)(h:pX b 100000):
 PU 41 [ac l,a.enc,b.enc]=some (ac (movL l a b)):=by
 have o:=ww (x:=(l.length:Int)-1);refine PS rfl (gg rfl ?_);rw[zA,o];refine eu l.length rfl rfl rfl (by grind[aK]) ?_
 have p:List.replicate l.length (D.agg [.int .i64 0,.int .i64 0])=(dI ⟨0,0⟩ l.length (rO l a b) 0).map Spot.enc:=by
  simp[sA,Spot.enc]
 rw[p];refine gg rfl ?_;rw[zA];refine aw (S:=fun k:Nat=>([.ptr 0 0 0,.ptr 1 0 0,.int .i64 ((l.length:Int)-1),.ref 3 0 l.length,ac l,aa l.length,aa k],some (.row [a.enc] 2)::some (.row [b.enc] 2)::none::some (.row ((dI ⟨0,0⟩ l.length (rO l a b) k).map Spot.enc) 2)::nn3,zz7)) (C:=fun k=>k<=l.length) (m:=fun k=>l.length-k) 0 (zB _) (by omega) ?_ ?_
 .exact ah rfl ⟨rfl,rfl,ae am _,tr⟩ (by rfl)
 intro k v N q;refine jC rfl (fun e=>?_) (fun e=>?_)
 .rw[ad]at e;have c:k<l.length:=by omega
  have w:=wS (n:=k);have f:=j (pt l k) (by grind[bc]);rw[AK]at f;have c1:=Nz c d g.1 h.1;have c2:=Nz c d g.2 h.2;have d0:IntKind.i64.wrap ((l.length:Int)-1-(k:Int))=(l.length:Int)-1-k:=ww;have d1:=ww (x:=((l.length:Int)-1-k) *a.x);have d2:=ww (x:=(k:Int) *b.x);have d3:=ww (x:=((l.length:Int)-1-k) *a.x+(k:Int) *b.x);have d4:=ww (x:=((l.length:Int)-1-k) *a.y);have d5:=ww (x:=(k:Int) *b.y);have d6:=ww (x:=((l.length:Int)-1-k) *a.y+(k:Int) *b.y);have r:=JF (((l.length:Int)-1-k) *a.x+(k:Int) *b.x) ((l.length:Int)-1) (by omega) (by omega) (by omega) (by omega);have t:=JF (((l.length:Int)-1-k) *a.y+(k:Int) *b.y) ((l.length:Int)-1) (by omega) (by omega) (by omega) (by omega);have z:=uO (a:=((l.length:Int)-1-k) *a.x+(k:Int) *b.x) (b:=(l.length:Int)-1) (m:=8000000) (by omega) (by omega) (by omega);have A:=uO (a:=((l.length:Int)-1-k) *a.y+(k:Int) *b.y) (b:=(l.length:Int)-1) (m:=8000000) (by omega) (by omega) (by omega);have d7:=ww (x:=(pt l k).x+dl (((l.length:Int)-1-k) *a.x+(k:Int) *b.x) ((l.length:Int)-1));have d8:=ww (x:=(pt l k).y+dl (((l.length:Int)-1-k) *a.y+(k:Int) *b.y) ((l.length:Int)-1));have i:=tg ⟨0,0⟩ (rO l a b) c;refine jX k rfl rfl (aZ c) rfl (gg rfl ?_);rw[d0,d1,d2,d3];refine aB rfl rfl r (gg rfl ?_);rw[d7,d0,d4,d5,d6];refine aB rfl rfl t (gg rfl ?_);rw[d8];refine aA k rfl rfl rfl rfl rfl (by omega) ?_;refine gp (enc:=Spot.enc) (dI ⟨0,0⟩ l.length (rO l a b) k) k (rO l a b k) rfl rfl (zC _) rfl (fun _=>rfl) rfl (zB _) (by grind[kj]) ?_;exact gE rfl (q (k+1) c (by omega) (ah rfl ⟨rfl,rfl,ae am _,tr⟩ (by grind[ac,aa])))
 rw[af]at e;obtain rfl:k=l.length:=by omega
 rw[tL];refine gE rfl (gg rfl (cS rfl rfl rfl ⟨bK (by simp) (bF fh _),tr⟩ ?_));rw[bZ (by simp)];rfl
def uh (p:Piece)(m:Int)(i:Nat):Edge:=⟨(eg p.edges i).name,movL (eg p.edges i).line (mX p.corners m i) (mX p.corners m (i+1))⟩
def mM (p:Piece)(m:Int):List Edge:=(List.range p.edges.length).map (uh p m)
def bY (p:Piece)(m:Int):List Edge×Int:=
 if inB m 100=false then([],3)
 else if p.corners.length≠p.edges.length then([],1)
 else if(p.corners.any fun s=>!(inB s.x 1000&&inB s.y 1000))then([],3)
 else if cK p.edges≠0 then([],cK p.edges)
 else if cK (mM p m)≠0 then([],cK (mM p m))
 else(mM p m,0)
theorem tx {α:Type}{f:α->Bool}{l:List α}{k:Nat}(a:k<l.length)(h:f l[k]=true):l.any f=true:=by
 grind
theorem rV {α:Type}{f:α->Bool}{l:List α}(h:∀k (a:k<l.length),f l[k]=false):l.any f=false:=by
 grind[List.getElem_of_mem]
def encGr (r:List Edge×Int):D:=.tup [edges r.1,.int .i64 r.2]
theorem Am (p:Piece)(m:Int)(R:p.corners.length<=140737488355328):PU 14 [p.enc,.int .i64 m]=some (encGr (bY p m)):=by
 refine PS rfl (jA rfl (Cs m 100 (by decide) (by decide)) ?_)
 cases A:inB m 100 with
 |false=>
  refine gg rfl (ak rfl (jF rfl ?_));rw[bY,ve A];rfl
 |true=>
  have d:¬inB m 100=false:=by grind
  rw[Et]at A;refine gg rfl (aj rfl (gg rfl ?_));rw[zA,zA];refine an rfl (fun o=>?_) (fun o=>?_)
  .rw[aO]at o;refine jF rfl ?_;rw[bY,vd d,rA];rfl
  rw[aE]at o;have B:p.corners.length=p.edges.length:=by omega
  refine gg rfl ?_;rw[zA];refine aw (S:=fun k:Nat=>([.int .i64 m,.ptr 1 0 0,ac p.corners,aa p.corners.length,aa k],none::some (.row [p.enc] 7)::nn3,zz5)) (C:=fun k=>k<=p.corners.length/\∀j (f:j<p.corners.length),j<k->(inB p.corners[j].x 1000&&inB p.corners[j].y 1000)=true) (m:=fun k=>p.corners.length-k) 0 ⟨zB _,fun j _ f=>by omega⟩ (by omega) ?_ ?_
  .exact ah rfl ⟨rfl,tr⟩ (by rfl)
  rintro k ⟨D,q⟩ N r;refine jC rfl (fun t=>?_) (fun t=>?_)
  .rw[ad]at t;have b:k<p.corners.length:=by omega
   have u:=wS (n:=k);have E:=Cs (pt p.corners k).x 1000 (by decide) (by decide);have F:=Cs (pt p.corners k).y 1000 (by decide) (by decide)
   have g:(inB (pt p.corners k).x 1000&&inB (pt p.corners k).y 1000)=false->bY p m=([],3):=by
    intro h;rw[bY,vd d,eE,ve];grind[bc]
   refine jX k rfl rfl (aZ b) rfl (jA rfl E ?_)
   cases T:inB (pt p.corners k).x 1000 with
   |false=>
    refine gg rfl (gr rfl (gg rfl (ak rfl (gE rfl (jF rfl ?_)))));rw[g (by grind)];rfl
   |true=>
    refine gg rfl (aq rfl (jA rfl F ?_))
    cases G:inB (pt p.corners k).y 1000 with
    |false=>
     refine gg rfl (ak rfl (gE rfl (jF rfl ?_)));rw[g (by grind)];rfl
    |true=>
     refine gg rfl (aj rfl (gE rfl (r (k+1) ⟨b,fun j f H=>?_⟩ (by omega) (ah rfl ⟨rfl,tr⟩ (by grind[ac,aa])))));grind[bc]
  rw[af]at t;obtain rfl:k=p.corners.length:=by omega
  have i:¬(p.corners.any fun s=>!(inB s.x 1000&&inB s.y 1000))=true:=by
   grind[rV]
  have a:∀s∈p.corners,pX s 1000:=by
   intro s I;obtain⟨j,f,rfl⟩:=wR I;have:=q j f f;rw[zJ,Et,Et]at this;exact⟨by omega,by omega⟩
  refine gE rfl (jA rfl (EL p.edges) (jC rfl (fun e=>?_) (fun e=>?_)))
  .rw[aO]at e;refine jF rfl ?_;rw[bY,vd d,eE,vd i,ve e];rfl
  have e:cK p.edges=0:=aE.1 e;obtain⟨c1,c2,J,U,V⟩:=qC e
  have hr:bY p m=if cK (mM p m)≠0 then([],cK (mM p m))else(mM p m,0):=by
   simp_all[bY]
  rw[hr];have c:m.natAbs<=100:=by omega
  refine gg rfl ?_;rw[zA];refine aw (S:=fun k:Nat=>([.fn 40 [.agg [ac p.corners,.int .i64 m]] [],.ref 1 0 k,edges p.edges,aa p.edges.length,aa k],none::some (.row (((List.range k).map (uh p m)).map Edge.enc) 2)::nn3,zz5)) (C:=fun k=>k<=p.edges.length) (m:=fun k=>p.edges.length-k) 0 (zB _) (by omega) ?_ ?_
  .exact ah rfl ⟨rfl,tr⟩ rfl
  intro k D N r;refine jC rfl (fun v=>?_) (fun v=>?_)
  .rw[ad]at v;have b:k<p.edges.length:=by omega
   have u:=wS (n:=k);have K:=DO (Aj J b);obtain⟨L,w,M⟩:=si K;have O:=Nh p.corners m k a c (by omega) (by omega) (by omega);have P:=Nh p.corners m (k+1) a c (by omega) (by omega) (by omega);have Q:=T6 (eg p.edges k).line (mX p.corners m k) (mX p.corners m (k+1)) L w M (BW a c (by omega) _) (BW a c (by omega) _)
   have z:(((List.range (k+1)).map (uh p m)).map Edge.enc)=((List.range k).map (uh p m)).map Edge.enc++[(uh p m k).enc]:=by
    simp[xo]
   refine jX k rfl rfl (mc b) rfl (gg rfl ?_)
   first|refine H3 rfl rfl ?_|refine I7 rfl rfl ?_
   refine aB rfl rfl O (gg rfl ?_);rw[u]
   first|refine H3 rfl rfl ?_|refine I7 rfl rfl ?_
   refine aB rfl rfl P (aB rfl rfl Q (gg rfl (bI rfl rfl rfl rfl rfl rfl (by simp) (zB _) (by grind[aK]) ?_)));refine gE rfl (r (k+1) b (by omega) (ah rfl ⟨?_,tr⟩ ?_))
   .rw[zY,ae SI];rfl
   rw[z];simp[ac,edges,aa,u];rfl
  rw[af]at v;obtain rfl:k=p.edges.length:=by omega
  refine gE rfl (gg rfl (gk rfl rfl ⟨bK (by simp) (bF Od _),tr⟩ (by rw[bZ (by simp)];exact EL (mM p m)) rfl ?_));refine jC rfl (fun l=>?_) (fun l=>?_)
  .rw[aO]at l;refine jF rfl ?_;rw[ve l];rfl
  rw[aE]at l;refine gg rfl (cS rfl rfl rfl ⟨bK (by simp) (bF Od _),tr⟩ ?_);rw[bZ (by simp),eE];rfl
end Go.F
namespace Go.F
structure Dg (U u a b:Nat):Prop where
 hu:u<4294967296
 a1:2147483648<=a
 a2:a<4294967296
 hb:b<4294967296
 lt:U<a*4294967296+b
def dgN (U u:Nat):Nat:=U*4294967296+u
def dgY (a b:Nat):Nat:=a*4294967296+b
theorem Dg.pos {U u a b:Nat}(h:Dg U u a b):0<dgY a b:=by have:=h.a1;grind[dgY]
theorem Dg.qlt {U u a b:Nat}(h:Dg U u a b):dgN U u/dgY a b<4294967296:=by
 rw[zm h.pos];have h1:=h.lt;have c:=h.hu;grind[dgY,dgN]
theorem Dg.first {U u a b:Nat}(h:Dg U u a b):dgN U u/dgY a b<=U/a/\U/a<=4294967297:=by
 have h1:=h.a1;constructor
 .rw[yq (by omega)];have c:=yz (dgN U u) (dgY a b);generalize dgN U u/dgY a b=q at*;unfold dgN dgY at c;have e:q*(a*4294967296+b)=q*a*4294967296+q*b:=by grind
  have:=h.hu;omega
 have d:=h.lt;have h3:=h.hb;have:U<4294967298*a:=by omega
 have:=(zm (show 0<a by omega)).2 this;omega
structure DgI (U u a b q r:Nat):Prop where
 eq:q*a+r=U
 le:dgN U u/dgY a b<=q
 hq:q<=4294967297
theorem Dg.start {U u a b:Nat}(h:Dg U u a b):DgI U u a b (U/a) (U%a):=by
 have:=yH U a;exact⟨by grind,h.first.1,h.first.2⟩
theorem GX (q a b:Nat):q*dgY a b=q*a*4294967296+q*b:=by simp[dgY,yP,yi]
theorem LQ {q a r U:Nat}(h:q*a+r=U)(u:Nat):dgN U u=q*a*4294967296+r*4294967296+u:=by
 grind[dgN]
theorem Dg.step {U u a b q r:Nat}(h:Dg U u a b)(hi:DgI U u a b q r)(d:4294967296<=q\/r*4294967296+u<q*b):1<=q/\DgI U u a b (q-1) (r+a)/\q-1<=4294967296:=by
 have c:dgN U u/dgY a b<q:=by
  rcases d with d|d
  .exact zc h.qlt d
  rw[zm h.pos,GX,LQ hi.eq,yG];grind
 have h1:=hi.eq;have e:=hi.hq;have h3:1<=q:=zq (zB _) c;refine⟨h3,⟨?_,Nat.le_pred_of_lt c,by omega⟩,by omega⟩;obtain⟨p,rfl⟩:∃p,q=p+1:=⟨q-1,by omega⟩;grind
theorem Dg.fin {U u a b q r:Nat}(h:Dg U u a b)(hi:DgI U u a b q r)(c:q*b<=r*4294967296+u):q=dgN U u/dgY a b:=by
 refine Nat.le_antisymm ?_ hi.le;rw[yq h.pos,GX,LQ hi.eq,yG];omega
theorem Dg.stop {U u a b q r:Nat}(h:Dg U u a b)(hi:DgI U u a b q r)(c:q<=4294967296)(hr:4294967296<=r):q=dgN U u/dgY a b:=by
 refine h.fin hi ?_;have h1:=h.hb;have d:q*b<=4294967296*4294967295:=z6 c (wv h1);omega
theorem QK (N a y L:Nat)(b:0<y):N/y*L+(N%y*L+a)/y=(N*L+a)/y/\(N%y*L+a)%y=(N*L+a)%y:=by
 have e:N*L+a=(N%y*L+a)+y*(N/y*L):=by
  grind[Nat.div_add_mod]
 constructor
 .rw[e,xa _ _ b,vB]
 simp_all
theorem Tt (m y s:Nat)(a:0<y):(m*2^s)/(y*2^s)=m/y/\(m*2^s)%(y*2^s)/2^s=m%y:=by
 simp[y7,Nat.mul_div_mul_right,Nat.mul_mod_mul_right]
attribute [local irreducible] IntKind.wrap wpM
theorem tf (x:Nat)(a:x<18446744073709551616):IntKind.u64.wrap ((BitVec.ofInt IntKind.u64.bits (x:Int)&&&BitVec.ofInt IntKind.u64.bits 4294967295).toNat:Int)=((x%4294967296:Nat):Int):=by
 have e:IntKind.u64.bits=64:=rfl;have h3:(BitVec.ofInt 64 4294967295).toNat=2^32-1:=by decide
 rw[e,BitVec.toNat_and,h3,wE,BitVec.toNat_ofInt];have b:(((x:Int)%((2^64:Nat):Int)).toNat%2^32:Nat)=x%4294967296:=by omega
 grind[bq]
theorem or64 (a b:Nat)(s:Nat)(c:b<2^s)(d:2^s*a+b<18446744073709551616):IntKind.u64.wrap ((BitVec.ofInt IntKind.u64.bits ((2^s*a:Nat):Int) |||BitVec.ofInt IntKind.u64.bits (b:Int)).toNat:Int)=((2^s*a+b:Nat):Int):=by
 have e:IntKind.u64.bits=64:=rfl
 have f:∀n:Nat,n<18446744073709551616->(BitVec.ofInt 64 (n:Int)).toNat=n:=by
  simp
 rw[e,wM,f _ (by omega),f _ (by omega),<-y4 c,bq d]
def w32 (x:Nat):Nat:=x%4294967296
def h32 (x:Nat):Nat:=x/2^32
theorem u3 (x:Nat):x=h32 x*4294967296+w32 x:=by grind[h32,w32]
theorem X6 (c b d a:Nat)(f:b<4294967296)(g:a<4294967296):
 c*d+h32 (c*a+h32 (b*a))+h32 (w32 (c*a+h32 (b*a))+b*d)=(c*4294967296+b) *(d*4294967296+a)/18446744073709551616:=by
 have e:(c*4294967296+b) *(d*4294967296+a)=c*d*18446744073709551616+(c*a+b*d) *4294967296+b*a:=by grind
 rw[e];grind[h32,w32]
theorem oE {a b:Nat}(c:a<4294967296)(d:b<4294967296):a*b<=18446744065119617025:=
 zR (z6 (wv c) (wv d)) (by decide)
theorem uf {x:Nat}(h:x<18446744073709551616):h32 x<4294967296:=by grind[h32]
theorem ui (x:Nat):w32 x<4294967296:=by grind[w32]
theorem Xh (x y:Nat)(a:x<18446744073709551616)(b:y<18446744073709551616):PU 266 [.int .u64 x,.int .u64 y]=some (.tup [.int .u64 ((x*y/18446744073709551616:Nat):Int),.int .u64 ((x*y%18446744073709551616:Nat):Int)]):=by
 have f:=uf a;have g:=uf b;have c:=ui x;have d:=ui y;have h:=oE c d;have i:=oE f d;have j:=oE c g;have e:=X6 (h32 x) (w32 x) (h32 y) (w32 y) c d;rw[<-u3,<-u3]at e
 have k:x*y/18446744073709551616<18446744073709551616:=by
  rw[zm (by decide)];exact Nat.mul_lt_mul_of_lt_of_le a (xd b) (by omega)
 have l:=tf x a;have m:=tf y b;have c1:IntKind.u64.wrap (((w32 x:Nat):Int) *((w32 y:Nat):Int))=((w32 x*w32 y:Nat):Int):=by grind[bq]
 have c2:IntKind.u64.wrap (((h32 x:Nat):Int) *((w32 y:Nat):Int))=((h32 x*w32 y:Nat):Int):=by exact bq (by omega)
 have n:IntKind.u64.wrap (((w32 x:Nat):Int) *((h32 y:Nat):Int))=((w32 x*h32 y:Nat):Int):=by exact bq (by omega)
 have o:IntKind.u64.wrap (((h32 x:Nat):Int) *((h32 y:Nat):Int))=((h32 x*h32 y:Nat):Int):=by exact bq (by omega)
 have v:h32 (w32 x*w32 y)<4294967296:=uf (by omega);have p:IntKind.u64.wrap (((h32 x*w32 y:Nat):Int)+((h32 (w32 x*w32 y):Nat):Int))=((h32 x*w32 y+h32 (w32 x*w32 y):Nat):Int):=by grind[bq]
 have q:=tf (h32 x*w32 y+h32 (w32 x*w32 y)) (by omega);have w:=ui (h32 x*w32 y+h32 (w32 x*w32 y));have r:IntKind.u64.wrap (((w32 (h32 x*w32 y+h32 (w32 x*w32 y)):Nat):Int)+((w32 x*h32 y:Nat):Int))=((w32 (h32 x*w32 y+h32 (w32 x*w32 y))+w32 x*h32 y:Nat):Int):=by grind[bq]
 have s:IntKind.u64.wrap (((h32 x*h32 y:Nat):Int)+((h32 (h32 x*w32 y+h32 (w32 x*w32 y)):Nat):Int))=((h32 x*h32 y+h32 (h32 x*w32 y+h32 (w32 x*w32 y)):Nat):Int):=by exact bq (by omega)
 have t:IntKind.u64.wrap (((h32 x*h32 y+h32 (h32 x*w32 y+h32 (w32 x*w32 y)):Nat):Int)+((h32 (w32 (h32 x*w32 y+h32 (w32 x*w32 y))+w32 x*h32 y):Nat):Int))=((x*y/18446744073709551616:Nat):Int):=by
  rw[<-Int.natCast_add,e];grind[bq]
 have u:IntKind.u64.wrap ((x:Int) *(y:Int))=((x*y%18446744073709551616:Nat):Int):=by simp[eI]
 refine PS rfl (gg rfl ?_);rw[l];refine bH x 32 rfl rfl rfl rfl (by decide) ?_;refine gg rfl ?_;rw[m];refine bH y 32 rfl rfl rfl rfl (by decide) ?_;refine gg rfl ?_;rw[show((x%4294967296:Nat):Int)=((w32 x:Nat):Int)from rfl,show((y%4294967296:Nat):Int)=((w32 y:Nat):Int)from rfl,show((x/2^32:Nat):Int)=((h32 x:Nat):Int)from rfl,show((y/2^32:Nat):Int)=((h32 y:Nat):Int)from rfl,c1,c2];refine bH (w32 x*w32 y) 32 rfl rfl rfl rfl (by decide) ?_;refine gg rfl ?_;rw[show((w32 x*w32 y/2^32:Nat):Int)=((h32 (w32 x*w32 y):Nat):Int)from rfl,p,q];refine bH (h32 x*w32 y+h32 (w32 x*w32 y)) 32 rfl rfl rfl rfl (by decide) ?_;refine gg rfl ?_;rw[show(((h32 x*w32 y+h32 (w32 x*w32 y))%4294967296:Nat):Int)=((w32 (h32 x*w32 y+h32 (w32 x*w32 y)):Nat):Int)from rfl,show(((h32 x*w32 y+h32 (w32 x*w32 y))/2^32:Nat):Int)=((h32 (h32 x*w32 y+h32 (w32 x*w32 y)):Nat):Int)from rfl,n,r,o,s];refine bH (w32 (h32 x*w32 y+h32 (w32 x*w32 y))+w32 x*h32 y) 32 rfl rfl rfl rfl (by decide) ?_;refine gg rfl ?_;rw[show(((w32 (h32 x*w32 y+h32 (w32 x*w32 y))+w32 x*h32 y)/2^32:Nat):Int)=((h32 (w32 (h32 x*w32 y+h32 (w32 x*w32 y))+w32 x*h32 y):Nat):Int)from rfl,t,u];exact fI rfl rfl
theorem X2 (x:Nat)(a:x<18446744073709551616):PU 283 [.int .u64 x]=some (.int .i64 ((64-bl x:Nat):Int)):=by
 have b:bl x<=64:=by
  unfold bl;split
  simp
  .rename_i h;have:=(xZ (n:=x) (k:=64) h).2 (by omega);omega
 refine PS rfl (jA rfl (Js x a) (gg rfl ?_));have w:IntKind.i64.wrap (64-(bl x:Int))=((64-bl x:Nat):Int):=by grind[wrap64]
 rw[w];exact fI rfl rfl
theorem or64' (a b:Nat)(s:Nat)(d:b<2^s)(c:a*2^s+b<18446744073709551616):IntKind.u64.wrap ((BitVec.ofInt IntKind.u64.bits ((a*2^s:Nat):Int) |||BitVec.ofInt IntKind.u64.bits (b:Int)).toNat:Int)=((a*2^s+b:Nat):Int):=by
 rw[zx]at c⊢;grind[or64]
structure Nrm (hi lo y s:Nat):Prop where
 s63:s<=63
 y2:y*2^s<18446744073709551616
 y1:9223372036854775808<=y*2^s
 l:lo/2^(64-s)<2^s
 u:hi*2^s+lo/2^(64-s)<y*2^s
 h:hi*2^s<18446744073709551616
 e:(hi*2^s+lo/2^(64-s)) *18446744073709551616+lo*2^s%18446744073709551616=(hi*18446744073709551616+lo) *2^s
theorem nrm_of {hi lo y:Nat}(b:hi<y)(k:y<18446744073709551616)(l:lo<18446744073709551616):Nrm hi lo y (64-bl y):=by
 have a:y≠0:=by omega
 have m:bl y=y.log2+1:=by simp_all[bl]
 have c:y.log2<64:=(xZ a).2 (by omega);have h1:2^y.log2<=y:=(Nat.le_log2 a).1 (zD _);have d:y<2^(y.log2+1):=(xZ a).1 (vS _);generalize n:64-bl y=s;have e:0<2^s:=y7 (by decide)
 have f:2^(64-s) *2^s=18446744073709551616:=by
  rw[<-yn,show 64-s+s=64 by omega]
 have g:2^(y.log2+1) *2^s=18446744073709551616:=by grind
 have o:2^y.log2*2^s*2=18446744073709551616:=by
  grind
 have f1:y*2^s<18446744073709551616:=by rw[<-g];exact xW d e
 have f2:9223372036854775808<=y*2^s:=by
  have:=zF (2^s) h1;omega
 have p:0<2^(64-s):=y7 (by decide)
 have f3:lo/2^(64-s)<2^s:=by
  simp_all[zm,zx]
 have q:lo*2^s/18446744073709551616=lo/2^(64-s):=by
  grind[Nat.mul_div_mul_right]
 have h:(hi*2^s+lo/2^(64-s)) *18446744073709551616+lo*2^s%18446744073709551616=(hi*18446744073709551616+lo) *2^s:=by
  grind
 have i:hi*2^s<18446744073709551616:=zq (zF _ (xd b)) f1;refine⟨by omega,f1,f2,f3,?_,i,h⟩;have j:(hi+1) *2^s<=y*2^s:=zF _ b;grind
theorem kL {x y:Nat}(h:y<=x)(a:x<18446744073709551616):IntKind.u64.wrap ((x:Int)-(y:Int))=((x-y:Nat):Int):=by
 grind[eI]
theorem fk {x y:Nat}(h:x+y<18446744073709551616):IntKind.u64.wrap ((x:Int)+(y:Int))=((x+y:Nat):Int):=by
 exact bq h
theorem eY {x y:Nat}(h:x*y<18446744073709551616):IntKind.u64.wrap ((x:Int) *(y:Int))=((x*y:Nat):Int):=by
 exact bq h
theorem iY {U u q y:Nat}(b:q=dgN U u/y)(a:0<y)(c:y<18446744073709551616):
 IntKind.u64.wrap (IntKind.u64.wrap (IntKind.u64.wrap ((U:Int) *4294967296)+(u:Int))-IntKind.u64.wrap ((q:Int) *(y:Int)))=((dgN U u%y:Nat):Int):=by
 have h1:=yH (dgN U u) y;have d:=zI (dgN U u) a;rw[<-b,zx]at h1;have h3:((dgN U u:Nat):Int)=(U:Int) *4294967296+u:=by rfl
 simp only[eI];omega
structure Dv64 (hi lo y s a b U u1 u0:Nat):Prop where
 n:Nrm hi lo y s
 hy:y*2^s=dgY a b
 a1:2147483648<=a
 a2:a<4294967296
 b2:b<4294967296
 hu1:u1<4294967296
 hu0:u0<4294967296
 lt:U<dgY a b
 y0:0<y
 e:dgN U u1*4294967296+u0=(hi*18446744073709551616+lo) *2^s
theorem Dv64.d1 {hi lo y s a b U c d:Nat}(h:Dv64 hi lo y s a b U c d):Dg U c a b:=⟨h.hu1,h.a1,h.a2,h.b2,h.lt⟩
theorem Dv64.d0 {hi lo y s a b U c d:Nat}(h:Dv64 hi lo y s a b U c d):Dg (dgN U c%dgY a b) d a b:=⟨h.hu0,h.a1,h.a2,h.b2,zI _ h.d1.pos⟩
theorem Dv64.y64 {hi lo y s a b U c d:Nat}(h:Dv64 hi lo y s a b U c d):dgY a b<18446744073709551616:=by rw[<-h.hy];exact h.n.y2
theorem Dv64.quo {hi lo y s a b U c d:Nat}(h:Dv64 hi lo y s a b U c d):
 dgN U c/dgY a b*4294967296+dgN (dgN U c%dgY a b) d/dgY a b=(hi*18446744073709551616+lo)/y/\dgN (dgN U c%dgY a b) d%dgY a b/2^s=(hi*18446744073709551616+lo)%y:=by
 obtain⟨t1,t2⟩:=QK (dgN U c) d (dgY a b) 4294967296 h.d1.pos;obtain⟨f,g⟩:=Tt (hi*18446744073709551616+lo) y s h.y0;constructor
 .rw[<-f,<-h.e,h.hy,<-t1];rfl
 rw[<-g,<-h.e,h.hy,<-t2];rfl
theorem dvd_of {hi lo y:Nat}(c:hi<y)(d:y<18446744073709551616)(f:lo<18446744073709551616):
 Dv64 hi lo y (64-bl y) (h32 (y*2^(64-bl y))) (w32 (y*2^(64-bl y))) (hi*2^(64-bl y)+lo/2^(64-(64-bl y))) (h32 (lo*2^(64-bl y)%18446744073709551616)) (w32 (lo*2^(64-bl y)%18446744073709551616)):=by
 have n:=nrm_of c d f;generalize 64-bl y=s at*;have b:y*2^s=dgY (h32 (y*2^s)) (w32 (y*2^s)):=u3 _;have g:=u3 (lo*2^s%18446744073709551616);have a:lo*2^s%18446744073709551616<18446744073709551616:=zI _ (by decide);refine⟨n,b,?_,uf n.y2,ui _,uf a,ui _,by rw[<-b];exact n.u,by omega,?_⟩
 .have:=n.y1;grind[h32]
 have e:=n.e;grind[dgN]
theorem shlU (lo s:Nat)(a:s<=63):IntKind.u64.wrap ((lo:Int) *2^min ((s:Nat):Int).toNat IntKind.u64.bits)=((lo*2^s%18446744073709551616:Nat):Int):=by
 have e:IntKind.u64.bits=64:=rfl;grind[eI]
theorem uT {U a:Nat}(hU:U<18446744073709551616):IntKind.u64.wrap ((U:Int)-IntKind.u64.wrap (((U/a:Nat):Int) *(a:Int)))=((U%a:Nat):Int):=by
 have h1:=yz U a;have b:=Nat.mod_add_div U a;rw[eY (by omega),kL h1 hU];grind
theorem SX (hi lo y:Nat)(hh:hi<y)(hy:y<18446744073709551616)(hl:lo<18446744073709551616):
 PU 267 [.int .u64 hi,.int .u64 lo,.int .u64 y]=some (.tup [.int .u64 (((hi*18446744073709551616+lo)/y:Nat):Int),.int .u64 (((hi*18446744073709551616+lo)%y:Nat):Int)]):=by
 have D:=dvd_of hh hy hl;have lz:=X2 y hy;have X:=D.n.s63;generalize 64-bl y=s at*;refine PS rfl (jC rfl (fun e=>absurd (co.1 e) (by omega)) (fun _=>?_));refine jC rfl (fun e=>absurd (bk.1 e) (by omega)) (fun _=>?_);refine jC rfl (fun e=>?_) (fun e=>?_)
 .rw[co]at e;obtain rfl:hi=0:=by omega
  refine gg rfl (ko lo y rfl rfl rfl rfl (by omega) (bq (zq (vJ _ _) hl)) ?_);refine gg rfl (Cc lo y rfl rfl rfl rfl (by omega) ?_);refine jF rfl ?_;simp
 have Y:IntKind.u64.wrap (64-(s:Int))=((64-s:Nat):Int):=kL (x:=64) (by omega) (by decide);have a1:=tf (y*2^s) D.n.y2;have Z:lo*2^s%18446744073709551616<18446744073709551616:=zI _ (by decide);have W:=tf (lo*2^s%18446744073709551616) Z;have o1:=or64' hi (lo/2^(64-s)) s D.n.l (y5 D.n.u D.n.y2);have sl:=shlU lo s X;refine jA rfl lz (gg rfl ?_);rw[bq (n:=s) (by omega)];refine kJ y s rfl rfl rfl rfl (by show s<=64;omega) (bq D.n.y2) ?_;refine gg rfl (bH (y*2^s) 32 rfl rfl rfl rfl (by decide) ?_);refine gg rfl ?_;rw[a1];refine kJ hi s rfl rfl rfl rfl (by show s<=64;omega) (bq D.n.h) ?_;refine gg rfl ?_;rw[Y];refine bH lo (64-s) rfl rfl rfl rfl (by show 64-s<=64;omega) ?_;refine gg rfl ?_;rw[o1];refine atShl rfl rfl (by omega) ?_;rw[sl];refine gg rfl (bH (lo*2^s%18446744073709551616) 32 rfl rfl rfl rfl (by decide) ?_);refine gg rfl ?_;rw[W];have hY:=D.hy;rw[hY];rw[show((dgY (h32 (y*2^s)) (w32 (y*2^s))/2^32:Nat):Int)=((h32 (y*2^s):Nat):Int)by rw[<-hY];rfl,show((dgY (h32 (y*2^s)) (w32 (y*2^s))%4294967296:Nat):Int)=((w32 (y*2^s):Nat):Int)by rw[<-hY];rfl,show((lo*2^s%18446744073709551616/2^32:Nat):Int)=((h32 (lo*2^s%18446744073709551616):Nat):Int)from rfl,show((lo*2^s%18446744073709551616%4294967296:Nat):Int)=((w32 (lo*2^s%18446744073709551616):Nat):Int)from rfl];clear a1 W o1 sl Y lz hY;generalize h32 (y*2^s)=a at*;generalize w32 (y*2^s)=b at*;generalize h32 (lo*2^s%18446744073709551616)=d at*;generalize w32 (lo*2^s%18446744073709551616)=g at*;generalize hi*2^s+lo/2^(64-s)=U at*;have i:=D.d1;have hU:U<18446744073709551616:=y5 i.lt D.y64;refine ko U a rfl rfl rfl rfl (by have:=D.a1;omega) (bq (zq (vJ _ _) hU)) ?_;refine gg rfl ?_;rw[uT hU];refine aw (S:=fun x:Nat×Nat=>([.int .u64 (dgY a b:Nat),.int .u64 s,.int .u64 a,.int .u64 b,.int .u64 U,.int .u64 d,.int .u64 g,.int .u64 x.1,.int .u64 x.2],none::nn8,zz9)) (C:=fun x=>DgI U d a b x.1 x.2/\x.2<4294967296) (m:=fun x=>x.1) (U/a,U%a) ⟨i.start,y5 (zI _ (by have:=D.a1;omega)) D.a2⟩ (by have:=i.start.hq;omega) ?_ ?_;rfl;rintro⟨q,r⟩ ⟨f,hr⟩ N J;simp only at f hr;have hq:=f.hq;have B:=D.b2;have R:q<4294967296->IntKind.u64.wrap ((q:Int) *(b:Int))=((q*b:Nat):Int):=fun h=>eY (by have:=oE h B;omega);have T:IntKind.u64.wrap ((4294967296:Int) *(r:Int))=((4294967296*r:Nat):Int):=eY (x:=4294967296) (by omega);have V:IntKind.u64.wrap (((4294967296*r:Nat):Int)+(d:Int))=((4294967296*r+d:Nat):Int):=fk (by have:=i.hu;omega);have body:(4294967296<=q\/r*4294967296+d<q*b)->1<=q/\DgI U d a b (q-1) (r+a)/\q-1<=4294967296:=i.step f;have W:=D.a2;have K:IntKind.u64.wrap ((r:Int)+(a:Int))=((r+a:Nat):Int):=fk (by omega);refine gg rfl (au rfl (fun E=>?_) (fun E=>?_))
 .rw[bk]at E;obtain⟨F,o,G⟩:=body (.inl (by omega));have H:IntKind.u64.wrap ((q:Int)-1)=((q-1:Nat):Int):=kL (y:=1) F (by omega);refine gg rfl (ak rfl (gg rfl ?_));rw[H,K];refine an rfl (fun j=>?_) (fun j=>?_)
  .rw[bk]at j;have c:=i.stop o G (by omega);generalize q-1=v at*;refine gE rfl ?_;have L:=c;have k:=D.d1.qlt;rw[<-L]at k;clear c;generalize v=p at L k;have M:=iY (U:=U) (u:=d) L D.d1.pos D.y64;refine gg rfl ?_;rw[M];have i:=D.d0;have O:dgN U d%dgY a b<18446744073709551616:=y5 i.lt D.y64;clear f J;refine ko (dgN U d%dgY a b) a rfl rfl rfl rfl (by omega) (bq (zq (vJ _ _) O)) ?_;refine gg rfl ?_;rw[uT O];refine aw (S:=fun x:Nat×Nat=>([.int .u64 (dgY a b:Nat),.int .u64 s,.int .u64 a,.int .u64 b,.int .u64 g,.int .u64 p,.int .u64 x.2,.int .u64 ((dgN U d%dgY a b:Nat):Int),.int .u64 x.1],none::nn8,zz9)) (C:=fun x=>DgI (dgN U d%dgY a b) g a b x.1 x.2/\x.2<4294967296) (m:=fun x=>x.1) ((dgN U d%dgY a b)/a,(dgN U d%dgY a b)%a) ⟨i.start,y5 (zI _ (by omega)) D.a2⟩ (by have:=i.start.hq;omega) ?_ ?_;rfl;rintro⟨q,r⟩ ⟨f,hr⟩ N J;simp only at f hr;have hq:=f.hq;have B:=D.b2;have R:q<4294967296->IntKind.u64.wrap ((q:Int) *(b:Int))=((q*b:Nat):Int):=fun h=>eY (by have:=oE h B;omega);have T:IntKind.u64.wrap ((4294967296:Int) *(r:Int))=((4294967296*r:Nat):Int):=eY (x:=4294967296) (by omega);have V:IntKind.u64.wrap (((4294967296*r:Nat):Int)+(g:Int))=((4294967296*r+g:Nat):Int):=fk (by have:=i.hu;omega);have body:(4294967296<=q\/r*4294967296+g<q*b)->1<=q/\DgI (dgN U d%dgY a b) g a b (q-1) (r+a)/\q-1<=4294967296:=i.step f;have W:=D.a2;have K:IntKind.u64.wrap ((r:Int)+(a:Int))=((r+a:Nat):Int):=fk (by omega);refine gg rfl (au rfl (fun E=>?_) (fun E=>?_))
   .rw[bk]at E;obtain⟨F,o,G⟩:=body (.inl (by omega));have H:IntKind.u64.wrap ((q:Int)-1)=((q-1:Nat):Int):=kL (y:=1) F (by omega);refine gg rfl (ak rfl (gg rfl ?_));rw[H,K];refine an rfl (fun j=>?_) (fun j=>?_)
    .rw[bk]at j;have c:=i.stop o G (by omega);generalize q-1=v at*;refine gE rfl ?_;have t:=D.d0.qlt;have w:IntKind.u64.wrap ((p:Int) *4294967296)=((p*4294967296:Nat):Int):=eY (y:=4294967296) (by omega);have z:IntKind.u64.wrap (((p*4294967296:Nat):Int)+(v:Int))=((p*4294967296+v:Nat):Int):=fk (by omega);have A:=iY (U:=dgN U d%dgY a b) (u:=g) c D.d1.pos D.y64;obtain⟨P,Q⟩:=D.quo;refine gg rfl ?_;rw[w,z,A];refine bH (dgN (dgN U d%dgY a b) g%dgY a b) s rfl rfl rfl rfl (by show s<=64;omega) ?_;refine jF rfl ?_;simp_all
    rw[aW]at j;exact gE rfl (J (q-1,r+a) ⟨o,by omega⟩ (by omega) (ah rfl tr rfl))
   rw[aW]at E;refine gg rfl ?_;rw[R (by omega),T,V];refine an rfl (fun j=>?_) (fun j=>?_)
   .rw[ad]at j;obtain⟨F,o,G⟩:=body (.inr (by omega));have H:IntKind.u64.wrap ((q:Int)-1)=((q-1:Nat):Int):=kL (y:=1) F (by omega);refine gg rfl ?_;rw[H,K];refine an rfl (fun I=>?_) (fun I=>?_)
    .rw[bk]at I;have c:=i.stop o G (by omega);generalize q-1=v at*;refine gE rfl ?_;have t:=D.d0.qlt;have w:IntKind.u64.wrap ((p:Int) *4294967296)=((p*4294967296:Nat):Int):=eY (y:=4294967296) (by omega);have z:IntKind.u64.wrap (((p*4294967296:Nat):Int)+(v:Int))=((p*4294967296+v:Nat):Int):=fk (by omega);have A:=iY (U:=dgN U d%dgY a b) (u:=g) c D.d1.pos D.y64;obtain⟨P,Q⟩:=D.quo;refine gg rfl ?_;rw[w,z,A];refine bH (dgN (dgN U d%dgY a b) g%dgY a b) s rfl rfl rfl rfl (by show s<=64;omega) ?_;refine jF rfl ?_;simp_all
    rw[aW]at I;exact gE rfl (J (q-1,r+a) ⟨o,by omega⟩ (by omega) (ah rfl tr rfl))
   rw[af]at j;have c:=i.fin f (by omega);refine gE rfl ?_;have w:IntKind.u64.wrap ((p:Int) *4294967296)=((p*4294967296:Nat):Int):=eY (y:=4294967296) (by omega);have z:IntKind.u64.wrap (((p*4294967296:Nat):Int)+(q:Int))=((p*4294967296+q:Nat):Int):=fk (by omega);have A:=iY (U:=dgN U d%dgY a b) (u:=g) c D.d1.pos D.y64;obtain⟨P,Q⟩:=D.quo;refine gg rfl ?_;rw[w,z,A];refine bH (dgN (dgN U d%dgY a b) g%dgY a b) s rfl rfl rfl rfl (by show s<=64;omega) ?_;refine jF rfl ?_;simp_all
  rw[aW]at j;exact gE rfl (J (q-1,r+a) ⟨o,by omega⟩ (by omega) (ah rfl tr rfl))
 rw[aW]at E;refine gg rfl ?_;rw[R (by omega),T,V];refine an rfl (fun j=>?_) (fun j=>?_)
 .rw[ad]at j;obtain⟨F,o,G⟩:=body (.inr (by omega));have H:IntKind.u64.wrap ((q:Int)-1)=((q-1:Nat):Int):=kL (y:=1) F (by omega);refine gg rfl ?_;rw[H,K];refine an rfl (fun I=>?_) (fun I=>?_)
  .rw[bk]at I;have c:=i.stop o G (by omega);generalize q-1=v at*;refine gE rfl ?_;have L:=c;have k:=D.d1.qlt;rw[<-L]at k;clear c;generalize v=p at L k;have M:=iY (U:=U) (u:=d) L D.d1.pos D.y64;refine gg rfl ?_;rw[M];have i:=D.d0;have O:dgN U d%dgY a b<18446744073709551616:=y5 i.lt D.y64;clear f J;refine ko (dgN U d%dgY a b) a rfl rfl rfl rfl (by omega) (bq (zq (vJ _ _) O)) ?_;refine gg rfl ?_;rw[uT O];refine aw (S:=fun x:Nat×Nat=>([.int .u64 (dgY a b:Nat),.int .u64 s,.int .u64 a,.int .u64 b,.int .u64 g,.int .u64 p,.int .u64 x.2,.int .u64 ((dgN U d%dgY a b:Nat):Int),.int .u64 x.1],none::nn8,zz9)) (C:=fun x=>DgI (dgN U d%dgY a b) g a b x.1 x.2/\x.2<4294967296) (m:=fun x=>x.1) ((dgN U d%dgY a b)/a,(dgN U d%dgY a b)%a) ⟨i.start,y5 (zI _ (by omega)) D.a2⟩ (by have:=i.start.hq;omega) ?_ ?_;rfl;rintro⟨q,r⟩ ⟨f,hr⟩ N J;simp only at f hr;have hq:=f.hq;have B:=D.b2;have R:q<4294967296->IntKind.u64.wrap ((q:Int) *(b:Int))=((q*b:Nat):Int):=fun h=>eY (by have:=oE h B;omega);have T:IntKind.u64.wrap ((4294967296:Int) *(r:Int))=((4294967296*r:Nat):Int):=eY (x:=4294967296) (by omega);have V:IntKind.u64.wrap (((4294967296*r:Nat):Int)+(g:Int))=((4294967296*r+g:Nat):Int):=fk (by have:=i.hu;omega);have body:(4294967296<=q\/r*4294967296+g<q*b)->1<=q/\DgI (dgN U d%dgY a b) g a b (q-1) (r+a)/\q-1<=4294967296:=i.step f;have W:=D.a2;have K:IntKind.u64.wrap ((r:Int)+(a:Int))=((r+a:Nat):Int):=fk (by omega);refine gg rfl (au rfl (fun E=>?_) (fun E=>?_))
   .rw[bk]at E;obtain⟨F,o,G⟩:=body (.inl (by omega));have H:IntKind.u64.wrap ((q:Int)-1)=((q-1:Nat):Int):=kL (y:=1) F (by omega);refine gg rfl (ak rfl (gg rfl ?_));rw[H,K];refine an rfl (fun j=>?_) (fun j=>?_)
    .rw[bk]at j;have c:=i.stop o G (by omega);generalize q-1=v at*;refine gE rfl ?_;have t:=D.d0.qlt;have w:IntKind.u64.wrap ((p:Int) *4294967296)=((p*4294967296:Nat):Int):=eY (y:=4294967296) (by omega);have z:IntKind.u64.wrap (((p*4294967296:Nat):Int)+(v:Int))=((p*4294967296+v:Nat):Int):=fk (by omega);have A:=iY (U:=dgN U d%dgY a b) (u:=g) c D.d1.pos D.y64;obtain⟨P,Q⟩:=D.quo;refine gg rfl ?_;rw[w,z,A];refine bH (dgN (dgN U d%dgY a b) g%dgY a b) s rfl rfl rfl rfl (by show s<=64;omega) ?_;refine jF rfl ?_;simp_all
    rw[aW]at j;exact gE rfl (J (q-1,r+a) ⟨o,by omega⟩ (by omega) (ah rfl tr rfl))
   rw[aW]at E;refine gg rfl ?_;rw[R (by omega),T,V];refine an rfl (fun j=>?_) (fun j=>?_)
   .rw[ad]at j;obtain⟨F,o,G⟩:=body (.inr (by omega));have H:IntKind.u64.wrap ((q:Int)-1)=((q-1:Nat):Int):=kL (y:=1) F (by omega);refine gg rfl ?_;rw[H,K];refine an rfl (fun I=>?_) (fun I=>?_)
    .rw[bk]at I;have c:=i.stop o G (by omega);generalize q-1=v at*;refine gE rfl ?_;have t:=D.d0.qlt;have w:IntKind.u64.wrap ((p:Int) *4294967296)=((p*4294967296:Nat):Int):=eY (y:=4294967296) (by omega);have z:IntKind.u64.wrap (((p*4294967296:Nat):Int)+(v:Int))=((p*4294967296+v:Nat):Int):=fk (by omega);have A:=iY (U:=dgN U d%dgY a b) (u:=g) c D.d1.pos D.y64;obtain⟨P,Q⟩:=D.quo;refine gg rfl ?_;rw[w,z,A];refine bH (dgN (dgN U d%dgY a b) g%dgY a b) s rfl rfl rfl rfl (by show s<=64;omega) ?_;refine jF rfl ?_;simp_all
    rw[aW]at I;exact gE rfl (J (q-1,r+a) ⟨o,by omega⟩ (by omega) (ah rfl tr rfl))
   rw[af]at j;have c:=i.fin f (by omega);refine gE rfl ?_;have w:IntKind.u64.wrap ((p:Int) *4294967296)=((p*4294967296:Nat):Int):=eY (y:=4294967296) (by omega);have z:IntKind.u64.wrap (((p*4294967296:Nat):Int)+(q:Int))=((p*4294967296+q:Nat):Int):=fk (by omega);have A:=iY (U:=dgN U d%dgY a b) (u:=g) c D.d1.pos D.y64;obtain⟨P,Q⟩:=D.quo;refine gg rfl ?_;rw[w,z,A];refine bH (dgN (dgN U d%dgY a b) g%dgY a b) s rfl rfl rfl rfl (by show s<=64;omega) ?_;refine jF rfl ?_;simp_all
  rw[aW]at I;exact gE rfl (J (q-1,r+a) ⟨o,by omega⟩ (by omega) (ah rfl tr rfl))
 rw[af]at j;have c:=i.fin f (by omega);refine gE rfl ?_;have L:=c;have k:=D.d1.qlt;rw[<-L]at k;clear c;generalize q=p at L k;have M:=iY (U:=U) (u:=d) L D.d1.pos D.y64;refine gg rfl ?_;rw[M];have i:=D.d0;have O:dgN U d%dgY a b<18446744073709551616:=y5 i.lt D.y64;clear f J;refine ko (dgN U d%dgY a b) a rfl rfl rfl rfl (by have:=D.a1;omega) (bq (zq (vJ _ _) O)) ?_;refine gg rfl ?_;rw[uT O];refine aw (S:=fun x:Nat×Nat=>([.int .u64 (dgY a b:Nat),.int .u64 s,.int .u64 a,.int .u64 b,.int .u64 g,.int .u64 p,.int .u64 x.2,.int .u64 ((dgN U d%dgY a b:Nat):Int),.int .u64 x.1],none::nn8,zz9)) (C:=fun x=>DgI (dgN U d%dgY a b) g a b x.1 x.2/\x.2<4294967296) (m:=fun x=>x.1) ((dgN U d%dgY a b)/a,(dgN U d%dgY a b)%a) ⟨i.start,y5 (zI _ (by have:=D.a1;omega)) D.a2⟩ (by have:=i.start.hq;omega) ?_ ?_;rfl;rintro⟨q,r⟩ ⟨f,hr⟩ N J;simp only at f hr;have hq:=f.hq;have B:=D.b2;have R:q<4294967296->IntKind.u64.wrap ((q:Int) *(b:Int))=((q*b:Nat):Int):=fun h=>eY (by have:=oE h B;omega);have T:IntKind.u64.wrap ((4294967296:Int) *(r:Int))=((4294967296*r:Nat):Int):=eY (x:=4294967296) (by omega);have V:IntKind.u64.wrap (((4294967296*r:Nat):Int)+(g:Int))=((4294967296*r+g:Nat):Int):=fk (by have:=i.hu;omega);have body:(4294967296<=q\/r*4294967296+g<q*b)->1<=q/\DgI (dgN U d%dgY a b) g a b (q-1) (r+a)/\q-1<=4294967296:=i.step f;have W:=D.a2;have K:IntKind.u64.wrap ((r:Int)+(a:Int))=((r+a:Nat):Int):=fk (by omega);refine gg rfl (au rfl (fun E=>?_) (fun E=>?_))
 .rw[bk]at E;obtain⟨F,o,G⟩:=body (.inl (by omega));have H:IntKind.u64.wrap ((q:Int)-1)=((q-1:Nat):Int):=kL (y:=1) F (by omega);refine gg rfl (ak rfl (gg rfl ?_));rw[H,K];refine an rfl (fun j=>?_) (fun j=>?_)
  .rw[bk]at j;have c:=i.stop o G (by omega);generalize q-1=v at*;refine gE rfl ?_;have t:=D.d0.qlt;have w:IntKind.u64.wrap ((p:Int) *4294967296)=((p*4294967296:Nat):Int):=eY (y:=4294967296) (by omega);have z:IntKind.u64.wrap (((p*4294967296:Nat):Int)+(v:Int))=((p*4294967296+v:Nat):Int):=fk (by omega);have A:=iY (U:=dgN U d%dgY a b) (u:=g) c D.d1.pos D.y64;obtain⟨P,Q⟩:=D.quo;refine gg rfl ?_;rw[w,z,A];refine bH (dgN (dgN U d%dgY a b) g%dgY a b) s rfl rfl rfl rfl (by show s<=64;omega) ?_;refine jF rfl ?_;simp_all
  rw[aW]at j;exact gE rfl (J (q-1,r+a) ⟨o,by omega⟩ (by omega) (ah rfl tr rfl))
 rw[aW]at E;refine gg rfl ?_;rw[R (by omega),T,V];refine an rfl (fun j=>?_) (fun j=>?_)
 .rw[ad]at j;obtain⟨F,o,G⟩:=body (.inr (by omega));have H:IntKind.u64.wrap ((q:Int)-1)=((q-1:Nat):Int):=kL (y:=1) F (by omega);refine gg rfl ?_;rw[H,K];refine an rfl (fun I=>?_) (fun I=>?_)
  .rw[bk]at I;have c:=i.stop o G (by omega);generalize q-1=v at*;refine gE rfl ?_;have t:=D.d0.qlt;have w:IntKind.u64.wrap ((p:Int) *4294967296)=((p*4294967296:Nat):Int):=eY (y:=4294967296) (by omega);have z:IntKind.u64.wrap (((p*4294967296:Nat):Int)+(v:Int))=((p*4294967296+v:Nat):Int):=fk (by omega);have A:=iY (U:=dgN U d%dgY a b) (u:=g) c D.d1.pos D.y64;obtain⟨P,Q⟩:=D.quo;refine gg rfl ?_;rw[w,z,A];refine bH (dgN (dgN U d%dgY a b) g%dgY a b) s rfl rfl rfl rfl (by show s<=64;omega) ?_;refine jF rfl ?_;simp_all
  rw[aW]at I;exact gE rfl (J (q-1,r+a) ⟨o,by omega⟩ (by omega) (ah rfl tr rfl))
 rw[af]at j;have c:=i.fin f (by omega);refine gE rfl ?_;have w:IntKind.u64.wrap ((p:Int) *4294967296)=((p*4294967296:Nat):Int):=eY (y:=4294967296) (by omega);have z:IntKind.u64.wrap (((p*4294967296:Nat):Int)+(q:Int))=((p*4294967296+q:Nat):Int):=fk (by omega);have A:=iY (U:=dgN U d%dgY a b) (u:=g) c D.d1.pos D.y64;obtain⟨P,Q⟩:=D.quo;refine gg rfl ?_;rw[w,z,A];refine bH (dgN (dgN U d%dgY a b) g%dgY a b) s rfl rfl rfl rfl (by show s<=64;omega) ?_;refine jF rfl ?_;simp_all
def rN (b c a:Int):Prop:=b<1\/1099511627776<b\/c<0\/1099511627776<c\/a<0\/b<a
instance (a b c:Int):Decidable (rN a b c):=by unfold rN;exact inferInstance
def qO (c b:Int)(d:Bool)(a:Int):Int×Int:=
 if rN c b a then(0,3)else(if d then b-dl (a*b) c else dl (a*b) c,0)
theorem TI {a b:Nat}(c:0<b):dl (a:Int) b=((a/b+if b<=2*(a%b)then 1 else 0:Nat):Int):=by
 rw[dl,eE];have h1:=yH a b;have d:=zI a c;generalize a/b=q at*;generalize a%b=r at*
 have e:(2*(a:Int)+b)=(2*(r:Int)+b)+(2*(b:Int)) *q:=by
  grind
 rw[e,Int.add_mul_ediv_left _ _ (by omega)];split
 .have:(2*(r:Int)+b)/(2*b)=1:=by
   rw[Int.ediv_eq_iff_of_pos (by omega)];omega
  omega
 have:(2*(r:Int)+b)/(2*b)=0:=Int.ediv_eq_zero_of_lt (by omega) (by omega);omega
theorem Wz (e f:Int)(c:Bool)(b:Int):PU 243 [.int .i64 e,.int .i64 f,.bool c,.int .i64 b]=some (.tup [.int .i64 (qO e f c b).1,.int .i64 (qO e f c b).2]):=by
 by_cases j:rN e f b
 .rw[qO,ve j];unfold rN at j;refine PS rfl ?_
  repeat' (first
   |refine jP rfl ?_
   |refine gr rfl ?_|refine aq rfl ?_|refine au rfl ?_ ?_<;>intro _
   |refine ak rfl ?_|refine aj rfl ?_|refine an rfl ?_ ?_<;>intro _
   |refine aL rfl ?_ ?_<;>intro _
   |refine fI rfl ?_)
  all_goals first
   |rfl
   |(grind[af])
 rw[qO,vd j];unfold rN at j;obtain⟨F,rfl⟩:∃n:Nat,e=n:=⟨e.toNat,by omega⟩;obtain⟨T,rfl⟩:∃n:Nat,f=n:=⟨f.toNat,by omega⟩;obtain⟨A,rfl⟩:∃n:Nat,b=n:=⟨b.toNat,by omega⟩;have k:0<F:=by omega
 have d:A*T<=F*T:=zF _ (by omega);have v:=Xh A T (by omega) (by omega)
 have s:A*T/F<=T:=by
  rw[Nat.div_le_iff_le_mul_add_pred k];omega
 have l:A*T/18446744073709551616<F:=by
  rw[zm (by decide)];exact zq d (Nat.mul_lt_mul_of_pos_left (by omega) k)
 have t:=SX (A*T/18446744073709551616) (A*T%18446744073709551616) F l (by omega) (zI _ (by decide))
 have w:A*T/18446744073709551616*18446744073709551616+A*T%18446744073709551616=A*T:=by
  omega
 rw[w]at t;have hr:=TI (a:=A*T) k;rw[Int.natCast_mul]at hr;rw[hr];have u:=zI (A*T) k;have z:IntKind.u64.wrap ((A:Nat):Int)=(A:Int):=bq (by omega);have B:IntKind.u64.wrap ((T:Nat):Int)=(T:Int):=bq (by omega);have C:IntKind.u64.wrap ((F:Nat):Int)=(F:Int):=bq (by omega);have i:∀{x y:Int} {P:Prop},¬x<y->ltb x y=true->P:=fun h g=>absurd (ad.1 g) h;generalize A*T/F=q at*;generalize A*T%F=r at*;have E:IntKind.u64.wrap (2*(r:Int))=((2*r:Nat):Int):=eY (x:=2) (by omega);have D:IntKind.u64.wrap ((q:Int)+1)=((q+1:Nat):Int):=fk (y:=1) (by omega);refine PS rfl (gg rfl (au rfl (i (by omega)) (fun _=>?_)));refine gg rfl (au rfl (i (by omega)) (fun _=>?_));refine gg rfl (au rfl (i (by omega)) (fun _=>?_));refine gg rfl (au rfl (i (by omega)) (fun _=>?_));refine gg rfl (au rfl (i (by omega)) (fun _=>?_));refine jC rfl (i (by omega)) (fun _=>?_);refine gg rfl ?_;rw[z,B];refine aB rfl rfl v (gg rfl ?_);rw[C];refine aB rfl rfl t (jC rfl (fun g=>?_) (fun g=>?_))
 .rw[bk]at g;have m:(if F<=2*r then 1 else 0:Nat)=1:=ve (by omega);simp only[m];have o:=ww (x:=((q+1:Nat):Int));have p:=ww (x:=(T:Int)-((q+1:Nat):Int));refine gg rfl ?_;rw[D,o]
  cases c with
  |true=>
   refine ak rfl (gg rfl ?_);rw[p];exact fI rfl rfl
  |false=>
   exact aj rfl (jZ rfl)
 rw[aW]at g;have m:(if F<=2*r then 1 else 0:Nat)=0:=vd (by omega);simp only[m];have o:=ww (x:=((q:Nat):Int));have p:=ww (x:=(T:Int)-((q:Nat):Int));refine gg rfl ?_;rw[o]
 cases c with
 |true=>
  refine ak rfl (gg rfl ?_);rw[p];exact fI rfl rfl
 |false=>
  exact aj rfl (jZ rfl)
def fV (p:Piece)(g:List Edge)(n:Ntc):Int×Int:=
 if n.edge<0\/(p.edges.length:Int)<=n.edge then(0,3)
 else if(fd (eg p.edges n.edge.toNat).line).2≠0 then(0,(fd (eg p.edges n.edge.toNat).line).2)
 else if(fd (eg g n.edge.toNat).line).2≠0 then(0,(fd (eg g n.edge.toNat).line).2)
 else qO (fd (eg p.edges n.edge.toNat).line).1 (fd (eg g n.edge.toNat).line).1 false n.at_
def kS (p:Piece)(g:List Edge):List Ntc->Int
 |[]=>0
 |n::l=>if(fV p g n).2=0 then kS p g l else(fV p g n).2
def jd (p:Piece)(m:Int):List Int×Int:=
 if(bY p m).2≠0 then([],(bY p m).2)
 else if 16<p.notches.length then([],5)
 else if kS p (bY p m).1 p.notches≠0 then([],kS p (bY p m).1 p.notches)
 else(p.notches.map fun n=>(fV p (bY p m).1 n).1,0)
theorem Ml {p:Piece}{m:Int}(h:(bY p m).2=0):(bY p m).1.length=p.edges.length/\cK p.edges=0/\cK (bY p m).1=0/\p.corners.length=p.edges.length:=by
 unfold bY at h⊢;split at h
 omega
 .split at h
  omega
  .split at h
   omega
   .rename_i h3;rw[vd h3];split at h
    omega
    .split at h
     omega;simp_all[mM]
theorem Rh (p:Piece)(m:Int)(s:p.corners.length<=140737488355328):
 PU 216 [p.enc,.int .i64 m]=some (.tup [ints (jd p m).1,edges (if(jd p m).2=0 then(bY p m).1 else []),.int .i64 (jd p m).2]):=by
 refine PS rfl (jA rfl (Am p m s) (jC rfl (fun h=>?_) (fun h=>?_)))
 .rw[aO]at h;refine jF rfl ?_;rw[jd,ve h,vd h];rfl
 have h:(bY p m).2=0:=aE.1 h;obtain⟨w,_,_⟩:=Ml h
 have hr:jd p m=if 16<p.notches.length then([],5)
  else if kS p (bY p m).1 p.notches≠0 then([],kS p (bY p m).1 p.notches)
  else(p.notches.map fun n=>(fV p (bY p m).1 n).1,0):=by simp_all[jd]
 rw[hr];generalize (bY p m).1=G at*;refine gg rfl ?_;rw[zA];refine an rfl (fun e=>?_) (fun e=>?_)
 .rw[ad]at e;refine jF rfl ?_;rw[rA];rfl
 rw[af]at e;rw[eE];refine gg rfl ?_;rw[zA];refine aw (S:=fun k:Nat=>([.ptr 0 0 0,edges G,.ref 2 0 k,ntcs p.notches,aa p.notches.length,aa k],some (.row [p.enc] 7)::none::some (.row (((p.notches.take k).map fun n=>(fV p G n).1).map aa) 1)::nn3,zz6)) (C:=fun k=>k<=p.notches.length/\kS p G p.notches=kS p G (p.notches.drop k)) (m:=fun k=>p.notches.length-k) 0 ⟨zB _,rfl⟩ (by omega) ?_ ?_
 .exact ah rfl ⟨rfl,rfl,tr⟩ rfl
 rintro k ⟨x,c⟩ N t;refine jC rfl (fun f=>?_) (fun f=>?_)
 .rw[ad]at f;have d:k<p.notches.length:=by omega
  have u:=wS (n:=k);have g:p.notches.drop k=nt p.notches k::p.notches.drop (k+1):=by grind[List.drop_eq_getElem_cons,Yk]
  have i:(((p.notches.take (k+1)).map fun n=>(fV p G n).1).map aa)=((p.notches.take k).map fun n=>(fV p G n).1).map aa++[aa (fV p G (nt p.notches k)).1]:=by
   grind
  have j:=nt_enc d;rw[g,kS]at c;generalize nt p.notches k=n at*;have a:(fV p G n).2≠0->kS p G p.notches=(fV p G n).2:=fun h=>by omega
  refine jX k rfl rfl j rfl (gg rfl (au rfl (fun f1=>?_) (fun f1=>?_)))
  .rw[ad]at f1;have l:fV p G n=(0,3):=by simp_all[fV]
   rw[l]at a;refine gg rfl (ak rfl (gE rfl (jF rfl ?_)));rw[a (by decide)];rfl
  rw[af]at f1;refine gg rfl ?_;rw[zA];refine an rfl (fun f2=>?_) (fun f2=>?_)
  .rw[bk]at f2;have l:fV p G n=(0,3):=by simp_all[fV]
   rw[l]at a;refine gE rfl (jF rfl ?_);rw[a (by decide)];rfl
  rw[aW]at f2;have r:n.edge=((n.edge.toNat:Nat):Int):=by omega
  have o:n.edge.toNat<p.edges.length:=by omega
  have q:n.edge.toNat<G.length:=by omega
  have l1:=Ov (eg p.edges n.edge.toNat).line;have l2:=Ov (eg G n.edge.toNat).line
  have b:fV p G n=if(fd (eg p.edges n.edge.toNat).line).2≠0 then(0,(fd (eg p.edges n.edge.toNat).line).2)
   else if(fd (eg G n.edge.toNat).line).2≠0 then(0,(fd (eg G n.edge.toNat).line).2)
   else qO (fd (eg p.edges n.edge.toNat).line).1 (fd (eg G n.edge.toNat).line).1 false n.at_:=by rw[fV,eE]
  refine jX n.edge.toNat rfl r (mc o) rfl (jA rfl l1 (jC rfl (fun f3=>?_) (fun f3=>?_)))
  .rw[aO]at f3;rw[ve f3]at b;rw[b]at a;refine gE rfl (jF rfl ?_);rw[a f3,ve f3,vd f3];rfl
  rw[aE]at f3;rw[eE]at b;refine jX n.edge.toNat rfl r (mc q) rfl (jA rfl l2 (jC rfl (fun f4=>?_) (fun f4=>?_)))
  .rw[aO]at f4;rw[ve f4]at b;rw[b]at a;refine gE rfl (jF rfl ?_);rw[a f4,ve f4,vd f4];rfl
  rw[aE]at f4;rw[eE]at b;refine jA rfl (Wz (fd (eg p.edges n.edge.toNat).line).1 (fd (eg G n.edge.toNat).line).1 false n.at_) ?_;rw[<-b];refine jC rfl (fun f5=>?_) (fun f5=>?_)
  .rw[aO]at f5;refine gE rfl (jF rfl ?_);rw[a f5,ve f5,vd f5];rfl
  rw[aE]at f5;rw[ve f5]at c;refine gg rfl (bI rfl rfl rfl rfl rfl rfl (by grind) (zB _) (by grind[aK]) ?_);refine gE rfl (t (k+1) ⟨d,c⟩ (by omega) (ah rfl ⟨rfl,?_,tr⟩ ?_))
  .rw[zY,ae iz];rfl
  rw[i,u];rfl
 rw[af]at f;obtain rfl:k=p.notches.length:=by omega
 have v:kS p G p.notches=0:=by rw[c,xA];rfl
 rw[v,zH];refine gE rfl (gg rfl (cS rfl rfl rfl ⟨bK (by simp) (bF Db _),tr⟩ ?_));rw[bZ (by simp)];rfl
theorem PA (p:Piece)(m:Int)(a:p.corners.length<=140737488355328):PU 185 [p.enc,.int .i64 m]=some (.tup [ints (jd p m).1,.int .i64 (jd p m).2]):=by
 have h:=Rh p m a;exact PS rfl (jA rfl h (jZ rfl))
section
variable {T:Tab}{sh:Shr}{nx0:Nat}{s:List Fr}{t:ai}{h:ab}{z:Frz}{nx:Nat}{q:Ex->ai->ab->Frz->Nat->Prop}
variable {base i:Nat}{res:List Nat}{g:Gd}{rest:List KOper}
end
def gR (n:Nat):Bool:=(decide (65<=n)&&decide (n<=90)) ||(decide (48<=n)&&decide (n<=57))
def iv (s:ByteArray):Bool:=decide (1<=s.size)&&(decide (s.size<=8)&&decide (∀i,i<s.size->gR (eS s i).toNat=true))
theorem WO {s:ByteArray}{k:Nat}(a:k<s.size)(h:gR (eS s k).toNat=false):iv s=false:=by
 grind[iv]
theorem qn (n:Nat):gR n=((leb 65 n&&leb n 90) ||(leb 48 n&&leb n 57)):=by
 simp only[gR,ca];grind
theorem PC (s:ByteArray)(r:s.size<=140737488355328):PU 237 [.str s]=some (.bool (iv s)):=by
 refine PS rfl (gg rfl (aw (S:=fun k:Nat=>([.str s,aa s.size,aa k],none::nn2,zz3)) (C:=fun k=>k<=s.size/\∀i,i<k->gR (eS s i).toNat=true) (m:=fun k=>s.size-k) 0 ⟨by omega,fun i hi=>by omega⟩ (by omega) ?_ ?_));rfl;intro k ⟨t,p⟩ N g;refine jC rfl (fun j=>?_) (fun j=>?_)
 .rw[ad]at j;have b:k<s.size:=by omega
  have h:=wS (n:=k);have e:=BJ b;have f:=WO b
  have a:gR (eS s k).toNat=true->∀i,i<k+1->gR (eS s i).toNat=true:=by
   grind
  generalize eS s k=c at*;refine gg rfl (eH k rfl rfl rfl e (gg rfl (au rfl (fun q=>?_) (fun q=>?_))))
  .refine gg rfl (eH k rfl rfl rfl e (gg rfl (eH k rfl rfl rfl e (gg rfl (au rfl (fun d1=>?_) (fun d1=>?_))))));refine gg rfl (eH k rfl rfl rfl e ?_)
   all_goals
    refine gg rfl (au rfl (fun l=>?_) (fun l=>?_))
    .refine jC rfl (fun o=>?_) (fun o=>?_)
     .have d:gR c.toNat=false:=by rw[qn];simp_all
      refine gE rfl (jF rfl ?_);rw[f d]
     have d:gR c.toNat=true:=by rw[qn];simp_all
     exact gE rfl (g (k+1) ⟨b,a d⟩ (by omega) (ah rfl tr (by simp[aa,h])))
    refine gg rfl (aj rfl ?_);have d:gR c.toNat=true:=by rw[qn];simp_all
    exact gE rfl (g (k+1) ⟨b,a d⟩ (by omega) (ah rfl tr (by simp[aa,h])))
  refine gg rfl (eH k rfl rfl rfl e (gg rfl (au rfl (fun d1=>?_) (fun d1=>?_))));refine gg rfl (eH k rfl rfl rfl e ?_)
  all_goals
   refine gg rfl (au rfl (fun l=>?_) (fun l=>?_))
   .refine jC rfl (fun o=>?_) (fun o=>?_)
    .have d:gR c.toNat=false:=by rw[qn];simp_all
     refine gE rfl (jF rfl ?_);rw[f d]
    have d:gR c.toNat=true:=by rw[qn];simp_all
    exact gE rfl (g (k+1) ⟨b,a d⟩ (by omega) (ah rfl tr (by simp[aa,h])))
   refine gg rfl (aj rfl ?_);have d:gR c.toNat=true:=by rw[qn];simp_all
   exact gE rfl (g (k+1) ⟨b,a d⟩ (by omega) (ah rfl tr (by simp[aa,h])))
 rw[af]at j;refine gE rfl (gg rfl (au rfl (fun h1=>?_) (fun h1=>?_)))
 .refine jF rfl ?_;grind[iv,ca]
 rw[aW]at h1;refine jF rfl ?_;grind[iv]
theorem KS (s:ByteArray):PU 182 [.str s]=some (.bool (ey s)):=by
 refine PS rfl (jA rfl (FQ s) ?_)
 repeat' (first
  |refine jP rfl ?_
  |refine gr rfl ?_|refine aq rfl ?_|refine au rfl ?_ ?_<;>intro _
  |refine ak rfl ?_|refine aj rfl ?_|refine an rfl ?_ ?_<;>intro _
  |refine aL rfl ?_ ?_<;>intro _
  |refine fI rfl ?_)
 grind[eqb]
theorem Uv (s:ByteArray):PU 262 [.lst [],.str s]=some (.int .i64 (-1)):=by
 refine PS rfl (gg rfl (aw (S:=fun k:Nat=>([.lst [],.str s,aa 0,aa k],none::nn3,zz4)) (C:=fun k=>k=0) (m:=fun k=>0) 0 rfl (by omega) ?_ ?_));rfl;rintro k rfl N a;refine jC rfl (fun g=>absurd (ad.1 g) (by simp)) (fun _=>?_);exact gE rfl (jZ rfl)
theorem TU (s:ByteArray):PU 239 [.lst [],.str s]=some (.bool false):=by
 refine PS rfl (jA rfl (Uv s) (jF rfl ?_));simp[ca]
def qA (s:ByteArray):D:=.agg [.lst [.str s],.int .i64 0,.lst []]
theorem Sr (s:ByteArray):PU 241 [qA s,.int .i64 0]=some (.bool true):=by
 refine PS rfl ?_
 repeat' (first
  |refine jP rfl ?_
  |refine gr rfl ?_|refine aq rfl ?_|refine au rfl ?_ ?_<;>intro _
  |refine ak rfl ?_|refine aj rfl ?_|refine an rfl ?_ ?_<;>intro _
  |refine aL rfl ?_ ?_<;>intro _
  |refine fI rfl ?_)
 all_goals (first|rfl|(simp_all[ca,cw];done) |(simp only[aW,af]at*;omega))
theorem WV (s:ByteArray)(c:s.size<=140737488355328):PU 214 [qA s]=some (.int .i64 (if iv s then 0 else 1)):=by
 have d:=PC s c;refine PS rfl (gg rfl (au rfl (fun g=>absurd (ad.1 g) (by simp)) (fun _=>?_)));refine jC rfl (fun g=>absurd (ad.1 g) (by simp)) (fun _=>?_);refine jC rfl (fun g=>absurd (co.1 g) (by simp)) (fun _=>?_);refine gg rfl (aw (S:=fun k:Nat=>([.ptr 0 0 0,.lst [.str s],aa 1,aa k],some (.row [qA s] 3)::nn3,zz4)) (C:=fun k=>k<=1/\(k=1->iv s=true)) (m:=fun k=>1-k) 0 ⟨by omega,fun h=>by omega⟩ (by omega) ?_ ?_)
 .exact ah rfl ⟨rfl,tr⟩ rfl
 rintro k ⟨e,b⟩ N a;refine jC rfl (fun g=>?_) (fun g=>?_)
 .rw[ad]at g;obtain rfl:k=0:=by omega
  refine jX 0 rfl rfl rfl rfl (jA rfl d ?_)
  cases f:iv s with
  |false=>
   exact gg rfl (ak rfl (gE rfl (jZ rfl)))
  |true=>
   refine gg rfl (aj rfl (gE rfl (a 1 ⟨by omega,fun _=>f⟩ (by omega) (ah rfl ⟨rfl,tr⟩ ?_))));have w:IntKind.i64.wrap (((0:Nat):Int)+1)=((1:Nat):Int):=ww;rw[w];rfl
 rw[af]at g;obtain rfl:k=1:=by omega
 rw[b rfl];refine gE rfl (gg rfl (aw (S:=fun k:Nat=>([.ptr 0 0 0,.lst [],aa 0,aa 0],some (.row [qA s] 3)::nn3,zz4)) (C:=fun k=>k=0) (m:=fun k=>0) 0 rfl (by omega) ?_ ?_))
 .exact ah rfl ⟨rfl,tr⟩ rfl
 rintro k rfl N a;refine jC rfl (fun g=>absurd (ad.1 g) (by simp)) (fun _=>?_);refine gE rfl (gg rfl (aw (S:=fun k:Nat=>([.ptr 0 0 0,.lst [.str s],aa 1,aa k],some (.row [qA s] 3)::nn3,zz4)) (C:=fun k=>k<=1) (m:=fun k=>1-k) 0 (by omega) (by omega) ?_ ?_))
 .exact ah rfl ⟨rfl,tr⟩ rfl
 intro k e N a;refine jC rfl (fun g=>?_) (fun g=>?_)
 .rw[ad]at g;obtain rfl:k=0:=by omega
  refine jX 0 rfl rfl rfl rfl (gg rfl (nK 0 rfl rfl ⟨_,_,rfl,rfl⟩ (zB _) (jA rfl (TU s) (gg rfl (aj rfl (gE rfl (a 1 (by omega) (by omega) (ah rfl ⟨rfl,tr⟩ ?_))))))));have w:IntKind.i64.wrap (((0:Nat):Int)+1)=((1:Nat):Int):=ww;rw[w];rfl
 refine gE rfl (gg rfl (aw (S:=fun k:Nat=>([.ptr 0 0 0,.lst [],aa 0,aa 0],some (.row [qA s] 3)::nn3,zz4)) (C:=fun k=>k=0) (m:=fun k=>0) 0 rfl (by omega) ?_ ?_))
 .exact ah rfl ⟨rfl,tr⟩ rfl
 rintro k rfl N a;refine jC rfl (fun g=>absurd (ad.1 g) (by simp)) (fun _=>?_);exact gE rfl (jA rfl (Sr s) (gg rfl (aj rfl (jZ rfl))))
theorem Xt (s:ByteArray)(a:s.size<=140737488355328):PU 183 [.str s]=some (.bool (iv s)):=by
 have b:=WV s a;refine PS rfl (gg rfl (gk rfl rfl ⟨⟨zD _,rfl⟩,tr⟩ b rfl (jF rfl ?_)));simp[cC]
theorem YF (l:List Int)(v:Int)(i:l.length<=140737488355328):PU 215 [ints l,.int .i64 v]=some (.int .i64 (kN (fun x=>decide (v=x)) l)):=by
 refine PS rfl (gg rfl ?_);rw[zA];refine aw (S:=fun k:Nat=>([ints l,.int .i64 v,aa l.length,aa k],none::nn3,zz4)) (C:=fun k=>k<=l.length/\∀j (b:j<l.length),j<k->decide (v=l[j])=false) (m:=fun k=>l.length-k) 0 ⟨zB _,fun j _ h=>by omega⟩ (by omega) ?_ ?_;rfl;rintro k ⟨o,c⟩ N d;refine jC rfl (fun g=>?_) (fun g=>?_)
 .rw[ad]at g;have a:k<l.length:=by omega
  have p:=wS (n:=k);refine jX k rfl rfl (eP a) rfl (jC rfl (fun e=>?_) (fun e=>?_))
  .rw[co]at e;refine gE rfl (jF rfl ?_);grind[C5]
  rw[dG]at e;refine gE rfl (d (k+1) ⟨a,fun j b f=>?_⟩ (by omega) (ah rfl tr (by grind[ints,aa])));grind
 rw[af]at g;refine gE rfl (jF rfl ?_);grind[CS]
theorem VS (l:List Int)(v:Int)(a:l.length<=140737488355328):PU 184 [ints l,.int .i64 v]=some (.bool (decide (v∈l))):=by
 have h:=YF l v a
 have e:decide (v∈l)=decide (0<=kN (fun x=>decide (v=x)) l):=by
  rw[B7];grind
 refine PS rfl (jA rfl h (jF rfl ?_));rw[e,ca]
section
variable {T:Tab}{sh:Shr}{nx0:Nat}{s:List Fr}{t:ai}{h:ab}{z:Frz}{nx:Nat}{q:Ex->ai->ab->Frz->Nat->Prop}
variable {base i:Nat}{res:List Nat}{g:Gd}{rest:List KOper}
theorem RF {d:D}{x e:X}{a:Nat}{m:List (ByteArray×D)}{b:ByteArray}{id:Nat}(k:x.ev t=.mref id)(l:g.h base h id=some (.mp (m.map oD) (m.map (·.2))))(c:e.ev t=.str b)
 (n:∀v,lC m b=some v->wpM T sh nx0 (.ops base res rest::s) .normal (upd t a v) h z nx q)
 (p:lC m b=none->wpM T sh nx0 (.ops base res rest::s) .normal (upd t a d) h z nx q):
 wpM T sh nx0 (.ops base res (⟨i,some a,none,g,.lookup .str d x e false⟩::rest)::s) .normal t h z nx q:=by
 refine bP ?_;obtain⟨o,r,f⟩:=G3 m b 0;simp only[kop,r7,k,l,qs,c,kf];refine⟨rfl,o,r,?_⟩
 cases o with
 |none=>exact p f
 |some j=>
  obtain⟨_,v,u,h3⟩:=f;exact nD u (n v h3)
end
theorem ba_eq2 (a b:ByteArray):(a==b)=(a.toList==b.toList):=by
 have e:(a==b)=(a.data==b.data):=rfl;rw[e,zN,beq_iff_eq,beq_iff_eq];simp[Go.ByteArray.toList_eq]
def fD (l:List ByteArray):List (ByteArray×D):=l.map fun x=>(x,D.bool true)
theorem Tc (l:List ByteArray)(x:ByteArray):fD (l++[x])=fD l++[(x,.bool true)]:=by simp[fD]
theorem SL (l:List ByteArray)(s:ByteArray):lC (fD l) s=cond (l.any fun x=>x.toList==s.toList) (some (.bool true)) none:=by
 induction l with
 |nil=>rfl
 |cons x l a=>
  grind[lC,fD,ba_eq2]
theorem Uw (l:List ByteArray):((fD l).map (·.2)).all (plain 4)=true:=by
 unfold fD;rw[yv];exact ae (fun _=>rfl) _
def uH (l:List ByteArray):Bool:=(List.range l.length).any fun i=>(l.take i).any fun x=>x.toList==(sz l i).toList
def gS (s:Sty):Int:=
 if ey s.name=false\/s.sizes.length=0 then 1
 else if s.sizes.any (fun x=>!iv x)then 1
 else if s.mults.length≠s.sizes.length\/0∉s.mults then 1
 else if uH s.sizes then 7
 else if 12<s.sizes.length\/12<s.pieces.length\/12<s.uses.length then 5
 else if 24<s.seams.length\/16<s.ops.length then 5
 else if s.mults.any (fun m=>decide (m< -100) ||decide (100<m))then 3 else 0
structure StyB (s:Sty):Prop where
 sizes:s.sizes.length<=1000
 size:∀x∈s.sizes,x.size<=140737488355328
 mults:s.mults.length<=1000
 pieces:s.pieces.length<=1000
 uses:s.uses.length<=1000
 seams:s.seams.length<=1000
 ops:s.ops.length<=1000
 corners:∀p∈s.pieces,p.corners.length<=140737488355328
 widths:∀p∈s.pieces,p.widths.length<=140737488355328
 notches:∀p∈s.pieces,p.notches.length<=1000
theorem Xb (s:Sty)(q:StyB s):PU 132 [s.enc]=some (.int .i64 (gS s)):=by
 have T:=q.sizes;have b2:=q.mults;refine PS rfl (jA rfl (KS s.name) ?_)
 cases U:ey s.name with
 |false=>
  refine gg rfl (gr rfl (gg rfl (ak rfl (jF rfl ?_))));simp_all[gS]
 |true=>
  refine gg rfl (aq rfl (gg rfl ?_));rw[zA];refine an rfl (fun g=>?_) (fun g=>?_)
  .rw[co]at g;refine jF rfl ?_;simp_all[gS]
  rw[dG]at g
  have d:¬(ey s.name=false\/s.sizes.length=0):=by
   grind
  refine gg rfl ?_;rw[zA];refine aw (S:=fun k:Nat=>([.ptr 0 0 0,strs s.sizes,aa s.sizes.length,aa k],some (.row [s.enc] 7)::nn3,zz4)) (C:=fun k=>k<=s.sizes.length/\∀j (r:j<s.sizes.length),j<k->iv s.sizes[j]=true) (m:=fun k=>s.sizes.length-k) 0 ⟨zB _,fun j _ h=>by omega⟩ (by omega) ?_ ?_
  .exact ah rfl ⟨rfl,tr⟩ rfl
  rintro k ⟨H,I⟩ N c;refine jC rfl (fun e=>?_) (fun e=>?_)
  .rw[ad]at e;have a:k<s.sizes.length:=by omega
   have f:=wS (n:=k);have l:=Xt s.sizes[k] (by have:=q.size _ (zE a);omega);refine jX k rfl rfl (eP a) rfl (jA rfl l ?_)
   cases b:iv s.sizes[k]with
   |false=>
    refine gg rfl (ak rfl (gE rfl (jF rfl ?_)));rw[gS,vd d,ve (tx a (by grind))]
   |true=>
    refine gg rfl (aj rfl (gE rfl (c (k+1) ⟨a,fun j r t=>?_⟩ (by omega) (ah rfl ⟨rfl,tr⟩ (by rw[f];rfl)))));grind
  rw[af]at e;obtain rfl:k=s.sizes.length:=by omega
  clear c;have u:¬(s.sizes.any (fun x=>!iv x))=true:=by grind[rV]
  refine gE rfl (gg rfl ?_);rw[zA,zA];refine au rfl (fun w=>?_) (fun w=>?_)
  .rw[aO]at w;refine gg rfl (ak rfl (jF rfl ?_));rw[gS,vd d,vd u,ve (.inl (by omega))]
  rw[aE]at w;have K:s.mults.length=s.sizes.length:=by omega
  refine jA rfl (VS s.mults 0 (by omega)) ?_
  cases l:decide (0∈s.mults)with
  |false=>
   refine gg rfl (ak rfl (jF rfl ?_));simp_all[gS]
  |true=>
   have l:=x7 l
   have L:¬(s.mults.length≠s.sizes.length\/0∉s.mults):=by
    grind
   refine gg rfl (aj rfl (gg rfl ?_));rw[zA];refine aw (S:=fun k:Nat=>([.ptr 0 0 0,.mref 1,strs s.sizes,aa s.sizes.length,aa k],some (.row [s.enc] 7)::some (.mp ((fD (s.sizes.take k)).map oD) ((fD (s.sizes.take k)).map (·.2)))::nn3,zz5)) (C:=fun k=>k<=s.sizes.length/\∀i,i<k->((s.sizes.take i).any fun x=>x.toList==(sz s.sizes i).toList)=false) (m:=fun k=>s.sizes.length-k) 0 ⟨zB _,fun j h=>by omega⟩ (by omega) ?_ ?_
   .exact pJ (o:=[.p _,.p _]) (kp:=([.ptr 0 0 0,.mref 1,strs s.sizes,aa s.sizes.length,aa 0],some (.row [s.enc] 7)::some (.mp [] [])::nn3,zz5)) [none] rfl ⟨rfl,rfl,tr⟩ rfl
   rintro k ⟨H,M⟩ N c;refine jC rfl (fun e=>?_) (fun e=>?_)
   .rw[ad]at e;have a:k<s.sizes.length:=by omega
    have f:=wS (n:=k)
    have y:fD (s.sizes.take (k+1))=fD (s.sizes.take k)++[(sz s.sizes k,.bool true)]:=by
     grind[List.take_succ_eq_append_getElem,Tc,sz_get]
    have z:=SL (s.sizes.take k) (sz s.sizes k);refine jX k rfl rfl (sz_enc a) rfl (gg rfl (RF (m:=fD (s.sizes.take k)) rfl rfl rfl (fun v b=>?_) (fun b=>?_)))
    .rw[z]at b
     cases J:((s.sizes.take k).any fun x=>x.toList==(sz s.sizes k).toList)with
     |true=>
      rw[J]at b;cases b;refine gg rfl (ak rfl (gE rfl (jF rfl ?_)))
      have V:uH s.sizes=true:=by
       grind[uH]
      simp_all[gS]
     |false=>rw[J]at b;cases b
    refine gg rfl (aj rfl (gg rfl (atPut (m:=fD (s.sizes.take k)) rfl rfl rfl rfl b (gE rfl (c (k+1) ⟨a,fun i hi=>?_⟩ (by omega) (pJ (o:=[.p [s.enc],.p ((fD (s.sizes.take k)++[(sz s.sizes k,D.bool true)]:List (ByteArray×D)).map (·.2))]) (kp:=([.ptr 0 0 0,.mref 1,strs s.sizes,aa s.sizes.length,.int .i64 (IntKind.i64.wrap ((k:Int)+1))],some (.row [s.enc] 7)::some (.mp ((fD (s.sizes.take k)++[(sz s.sizes k,D.bool true)]:List (ByteArray×D)).map oD) ((fD (s.sizes.take k)++[(sz s.sizes k,D.bool true)]:List (ByteArray×D)).map (·.2)))::nn3,zz5)) [none] rfl ⟨rfl,?_,tr⟩ ?_))))));grind
    .show List.all ((fD (s.sizes.take k)++[(sz s.sizes k,D.bool true)]:List (ByteArray×D)).map (·.2)) _=true;grind[Uw]
    rw[f,y];rfl
   rw[af]at e;obtain rfl:k=s.sizes.length:=by omega
   have O:¬uH s.sizes=true:=by
    grind[uH]
   have P:gS s=if 12<s.sizes.length\/12<s.pieces.length\/12<s.uses.length then 5
    else if 24<s.seams.length\/16<s.ops.length then 5
    else if s.mults.any (fun m=>decide (m< -100) ||decide (100<m))then 3 else 0:=by
    simp_all[gS]
   rw[P];refine gE rfl (gg rfl ?_);rw[zA];refine au rfl (fun A=>?_) (fun A=>?_)
   .rw[ad]at A;refine gg rfl (gr rfl (gg rfl (ak rfl (jF rfl ?_))));grind
   rw[af]at A;refine gg rfl ?_;rw[zA];refine au rfl (fun B=>?_) (fun B=>?_)
   .rw[ad]at B;refine gg rfl (ak rfl (jF rfl ?_));grind
   rw[af]at B;refine gg rfl ?_;rw[zA];refine an rfl (fun E=>?_) (fun E=>?_)
   .rw[ad]at E;refine jF rfl ?_;grind
   rw[af]at E;rw[eE];refine gg rfl ?_;rw[zA];refine au rfl (fun F=>?_) (fun F=>?_)
   .rw[ad]at F;refine gg rfl (ak rfl (jF rfl ?_));grind
   rw[af]at F;refine gg rfl ?_;rw[zA];refine an rfl (fun G=>?_) (fun G=>?_)
   .rw[ad]at G;refine jF rfl ?_;grind
   rw[af]at G;rw[eE];refine gg rfl ?_;rw[zA];refine aw (S:=fun k:Nat=>([ints s.mults,aa s.mults.length,aa k],none::nn2,zz3)) (C:=fun k=>k<=s.mults.length/\∀j (r:j<s.mults.length),j<k->(decide (s.mults[j]< -100) ||decide (100<s.mults[j]))=false) (m:=fun k=>s.mults.length-k) 0 ⟨zB _,fun j _ h=>by omega⟩ (by omega) ?_ ?_;rfl;rintro k ⟨H,W⟩ N c;refine jC rfl (fun e=>?_) (fun e=>?_)
   .rw[ad]at e;have a:k<s.mults.length:=by omega
    have f:=wS (n:=k);have Q:(decide (s.mults[k]< -100) ||decide (100<s.mults[k]))=true->(s.mults.any fun m=>decide (m< -100) ||decide (100<m))=true:=fun h=>tx a h;have R:(s.mults.map aa)[k]?=some (.int .i64 s.mults[k]):=eP a;refine jX k rfl rfl R rfl (gg rfl (au rfl (fun f1=>?_) (fun f1=>?_)))
    .rw[ad]at f1;refine gg rfl (ak rfl (gE rfl (jF rfl ?_)));grind
    rw[af]at f1;refine jC rfl (fun f2=>?_) (fun f2=>?_)
    .rw[ad]at f2;refine gE rfl (jF rfl ?_);grind
    rw[af]at f2;refine gE rfl (c (k+1) ⟨a,fun j r t=>?_⟩ (by omega) (ah rfl tr (by rw[f];rfl)));grind
   rw[af]at e;obtain rfl:k=s.mults.length:=by omega
   rw[vd (by simp_all[rV])];exact gE rfl (jZ rfl)
def o7 (b:List Piece)(p:Piece):Int:=
 if ey p.name=false then 1
 else if p.grain≠1/\p.grain≠2/\p.grain≠4 then 1
 else if(b.any fun o=>o.name.toList==p.name.toList)then 7
 else if(bY p 0).2≠0 then(bY p 0).2
 else if(jd p 0).2≠0 then(jd p 0).2
 else if p.widths.length≠p.edges.length then 1
 else if p.widths.any eF then 3 else 0
theorem VC (b:List Piece)(p:Piece)(D:b.length<=1000)(h1:p.corners.length<=140737488355328)(E:p.widths.length<=140737488355328):PU 133 [Go.F.pieces b,p.enc]=some (.int .i64 (o7 b p)):=by
 refine PS rfl (jA rfl (KS p.name) ?_)
 cases G:ey p.name with
 |false=>
  refine gg rfl (ak rfl (jF rfl ?_));simp_all[o7]
 |true=>
  have g:¬ey p.name=false:=by grind
  refine gg rfl (aj rfl (gg rfl (au rfl (fun q=>?_) (fun q=>?_))));rw[aO]at q;refine gg rfl (au rfl (fun r=>?_) (fun r=>?_));rw[aO]at r;refine jC rfl (fun s=>?_) (fun s=>?_)
  .rw[aO]at s;refine jF rfl ?_;simp_all[o7]
  rw[aE]at s;have d:¬(p.grain≠1/\p.grain≠2/\p.grain≠4):=fun h=>h.2.2 s;rotate_left;rw[aE]at r;have d:¬(p.grain≠1/\p.grain≠2/\p.grain≠4):=fun h=>h.2.1 r;refine gg rfl (aj rfl ?_);rotate_left;rw[aE]at q;have d:¬(p.grain≠1/\p.grain≠2/\p.grain≠4):=fun h=>h.1 q;refine gg rfl (aq rfl (gg rfl (aj rfl ?_)))
  all_goals
   refine gg rfl ?_;rw[zA];refine aw (S:=fun k:Nat=>([.ptr 0 0 0,Go.F.pieces b,aa b.length,aa k],some (.row [p.enc] 7)::nn3,zz4)) (C:=fun k=>k<=b.length/\∀j (c:j<b.length),j<k->(b[j].name.toList==p.name.toList)=false) (m:=fun k=>b.length-k) 0 ⟨zB _,fun j _ h=>by omega⟩ (by omega) ?_ ?_
   .exact ah rfl ⟨rfl,tr⟩ rfl
   rintro k ⟨z,i⟩ N t;refine jC rfl (fun e=>?_) (fun e=>?_)
   .rw[ad]at e;have a:k<b.length:=by omega
    have u:=wS (n:=k);refine jX k rfl rfl (eP a) rfl (jC rfl (fun f=>?_) (fun f=>?_))
    .refine gE rfl (jF rfl ?_);rw[o7,vd g,vd d,ve (tx a f)]
    refine gE rfl (t (k+1) ⟨a,fun j c v=>?_⟩ (by omega) (ah rfl ⟨rfl,tr⟩ (by rw[u];rfl)));by_cases w:j=k
    .subst w;exact f
    exact i j c (by omega)
   rw[af]at e;obtain rfl:k=b.length:=by omega
   clear t;have x:¬(b.any fun o=>o.name.toList==p.name.toList)=true:=by rw[rV fun j c=>i j c c];decide
   have A:o7 b p=if(bY p 0).2≠0 then(bY p 0).2
    else if(jd p 0).2≠0 then(jd p 0).2
    else if p.widths.length≠p.edges.length then 1
    else if p.widths.any eF then 3 else 0:=by rw[o7,vd g,vd d,vd x]
   rw[A];refine gE rfl (jA rfl (Am p 0 (by omega)) ?_);refine jC rfl (fun f=>?_) (fun f=>?_)
   .rw[aO]at f;refine jF rfl ?_;rw[ve f]
   rw[aE]at f;rw[vd (by simp[f])];refine jA rfl (PA p 0 (by omega)) ?_;refine jC rfl (fun f2=>?_) (fun f2=>?_)
   .rw[aO]at f2;refine jF rfl ?_;rw[ve f2]
   rw[aE]at f2;rw[vd (by simp[f2])];refine gg rfl ?_;rw[zA,zA];refine an rfl (fun f3=>?_) (fun f3=>?_)
   .rw[aO]at f3;refine jF rfl ?_;rw[rA]
   rw[aE]at f3;rw[eE];refine gg rfl ?_;rw[zA];refine aw (S:=fun k:Nat=>([ints p.widths,aa p.widths.length,aa k],none::nn2,zz3)) (C:=fun k=>k<=p.widths.length/\∀j (c:j<p.widths.length),j<k->eF p.widths[j]=false) (m:=fun k=>p.widths.length-k) 0 ⟨zB _,fun j _ h=>by omega⟩ (by omega) ?_ ?_
   .exact ah rfl tr rfl
   rintro k ⟨z,y⟩ N t;refine jC rfl (fun e=>?_) (fun e=>?_)
   .rw[ad]at e;have a:k<p.widths.length:=by omega
    have u:=wS (n:=k);have l:eF p.widths[k]=true->p.widths.any eF=true:=fun h=>tx a h;have B:(p.widths.map aa)[k]?=some (.int .i64 p.widths[k]):=eP a;refine jX k rfl rfl B rfl (gg rfl (au rfl (fun f1=>?_) (fun f1=>?_)))
    .rw[ad]at f1;refine gg rfl (ak rfl (gE rfl (jF rfl ?_)));rw[ve (l (by simp[eF];omega))]
    rw[af]at f1;refine jC rfl (fun f2=>?_) (fun f2=>?_)
    .rw[ad]at f2;refine gE rfl (jF rfl ?_);rw[ve (l (by simp[eF];omega))]
    rw[af]at f2;refine gE rfl (t (k+1) ⟨a,fun j c v=>?_⟩ (by omega) (ah rfl tr (by rw[u];rfl)));by_cases w:j=k
    .subst w;simp[eF];omega
    exact y j c (by omega)
   rw[af]at e;obtain rfl:k=p.widths.length:=by omega
   rw[vd (by rw[rV fun j c=>y j c c];decide)];exact gE rfl (jZ rfl)
def ma (s:Sty)(p e:Int):Bool:=decide (0<=p)&&(decide (p<s.pieces.length)&&(decide (0<=e)&&decide (e<(pc s.pieces p.toNat).edges.length)))
theorem LH (s:Sty)(p e:Int):PU 134 [s.enc,.int .i64 p,.int .i64 e]=some (.bool (ma s p e)):=by
 refine PS rfl (gg rfl (au rfl (fun a=>?_) (fun a=>?_)))
 .rw[bk]at a;refine gg rfl ?_;rw[zA];refine au rfl (fun b=>?_) (fun b=>?_)
  .rw[ad]at b;refine gg rfl (au rfl (fun c=>?_) (fun c=>?_))
   .rw[bk]at c;refine jX p.toNat rfl (by omega) (qF (by omega)) rfl ?_;refine jF rfl ?_;grind[ma,cw]
   rw[aW]at c;refine jF rfl ?_;grind[ma]
  rw[af]at b;refine gg rfl (aq rfl (jF rfl ?_));grind[ma]
 rw[aW]at a;refine gg rfl (aq rfl (gg rfl (aq rfl (jF rfl ?_))));grind[ma]
def iU (n:Nat)(u:Use):Bool:=decide (u.piece<0) ||(decide ((n:Int)<=u.piece) ||(decide (u.count<1) ||decide (4<u.count)))
def pd (s:Sty)(m:Sew):Int:=if ma s m.pa m.ea=false\/ma s m.pb m.eb=false then 3 else if m.ease<0 then 1 else 0
def lG (s:Sty)(i:Nat):Int:=o7 (s.pieces.take i) (pc s.pieces i)
def pO (s:Sty)(i:Nat):Int:=pd s (sw s.seams i)
def fx (s:Sty):Int:=
 if gS s≠0 then gS s
 else if cI (lG s) s.pieces.length≠0 then cI (lG s) s.pieces.length
 else if s.uses.any (iU s.pieces.length)then 3
 else cI (pO s) s.seams.length
theorem sb (s:Sty)(b:StyB s):PU 90 [s.enc]=some (.int .i64 (fx s)):=by
 have A:=b.pieces;have b2:=b.uses;have B:=b.seams;refine PS rfl (jA rfl (Xb s b) (jC rfl (fun g=>?_) (fun g=>?_)))
 .rw[aO]at g;refine jF rfl ?_;simp_all[fx]
 have g:gS s=0:=aE.1 g
 have r:fx s=if cI (lG s) s.pieces.length≠0 then cI (lG s) s.pieces.length
  else if s.uses.any (iU s.pieces.length)then 3
  else cI (pO s) s.seams.length:=by simp_all[fx]
 rw[r];refine gg rfl ?_;rw[zA];refine aw (S:=fun k:Nat=>([.ptr 0 0 0,Go.F.pieces s.pieces,aa s.pieces.length,aa k],some (.row [s.enc] 7)::nn3,zz4)) (C:=fun k=>k<=s.pieces.length/\cI (lG s) k=0) (m:=fun k=>s.pieces.length-k) 0 ⟨zB _,rfl⟩ (by omega) ?_ ?_
 .exact ah rfl ⟨rfl,tr⟩ rfl
 rintro k ⟨q,h0⟩ N c;refine jC rfl (fun e=>?_) (fun e=>?_)
 .rw[ad]at e;have a:k<s.pieces.length:=by omega
  have d:=wS (n:=k);have t:=VC (s.pieces.take k) (pc s.pieces k) (by grind) (b.corners _ (BN a)) (b.widths _ (BN a));refine jX k rfl rfl (qF a) rfl (gg rfl (nK k rfl (dS (n:=7) (fun _=>rfl) _) ⟨_,_,rfl,rfl⟩ (by grind) ?_));rw[<-yD];refine jA rfl t (jC rfl (fun f=>?_) (fun f=>?_))
  .rw[aO]at f;refine gE rfl (jF rfl ?_);have f':lG s k≠0:=f;have v:=AB (f:=lG s) h0 f' a;rw[v,ve f'];rfl
  rw[aE]at f;exact gE rfl (c (k+1) ⟨a,Ak h0 f⟩ (by omega) (ah rfl ⟨rfl,tr⟩ (by rw[d];rfl)))
 rw[af]at e;obtain rfl:k=s.pieces.length:=by omega
 clear c;rw[eE];refine gE rfl (gg rfl ?_);rw[zA];refine aw (S:=fun k:Nat=>([.ptr 0 0 0,Go.F.uses s.uses,aa s.uses.length,aa k],some (.row [s.enc] 7)::nn3,zz4)) (C:=fun k=>k<=s.uses.length/\∀j (w:j<s.uses.length),j<k->iU s.pieces.length s.uses[j]=false) (m:=fun k=>s.uses.length-k) 0 ⟨zB _,fun j _ h=>by omega⟩ (by omega) ?_ ?_
 .exact ah rfl ⟨rfl,tr⟩ rfl
 rintro k ⟨q,D⟩ N c;refine jC rfl (fun e=>?_) (fun e=>?_)
 .rw[ad]at e;have a:k<s.uses.length:=by omega
  have d:=wS (n:=k);have l:(s.uses.map Use.enc)[k]?=some s.uses[k].enc:=eP a;have o:iU s.pieces.length s.uses[k]=true->s.uses.any (iU s.pieces.length)=true:=fun h=>tx a h
  have p:iU s.pieces.length s.uses[k]=false->∀j (w:j<s.uses.length),j<k+1->iU s.pieces.length s.uses[j]=false:=by
   grind
  generalize s.uses[k]=u at*;refine jX k rfl rfl l rfl (gg rfl (au rfl (fun f1=>?_) (fun f1=>?_)))
  .rw[ad]at f1;refine gg rfl (gr rfl (gg rfl (gr rfl (gg rfl (ak rfl (gE rfl (jF rfl ?_)))))));simp_all[iU]
  rw[af]at f1;refine gg rfl (au rfl (fun f2=>?_) (fun f2=>?_))
  .rw[bk]at f2;refine gg rfl (gr rfl (gg rfl (ak rfl (gE rfl (jF rfl ?_)))));simp_all[iU]
  rw[aW]at f2;refine gg rfl (au rfl (fun f3=>?_) (fun f3=>?_))
  .rw[ad]at f3;refine gg rfl (ak rfl (gE rfl (jF rfl ?_)));simp_all[iU]
  rw[af]at f3;refine jC rfl (fun f4=>?_) (fun f4=>?_)
  .rw[ad]at f4;refine gE rfl (jF rfl ?_);simp_all[iU]
  rw[af]at f4;exact gE rfl (c (k+1) ⟨a,p (by grind[iU])⟩ (by omega) (ah rfl ⟨rfl,tr⟩ (by rw[d];rfl)))
 rw[af]at e;obtain rfl:k=s.uses.length:=by omega
 rw[vd (by grind[rV])];refine gE rfl (gg rfl ?_);rw[zA];refine aw (S:=fun k:Nat=>([.ptr 0 0 0,sews s.seams,aa s.seams.length,aa k],some (.row [s.enc] 7)::nn3,zz4)) (C:=fun k=>k<=s.seams.length/\cI (pO s) k=0) (m:=fun k=>s.seams.length-k) 0 ⟨zB _,rfl⟩ (by omega) ?_ ?_
 .exact ah rfl ⟨rfl,tr⟩ rfl
 rintro k ⟨q,h0⟩ N c;refine jC rfl (fun e=>?_) (fun e=>?_)
 .rw[ad]at e;have a:k<s.seams.length:=by omega
  have d:=wS (n:=k);have l:=sw_enc a
  have o:∀x,pd s (sw s.seams k)=x->x≠0->cI (pO s) s.seams.length=x:=by
   grind[AB,pO]
  have i:pd s (sw s.seams k)=0->cI (pO s) (k+1)=0:=fun h=>Ak h0 h;generalize sw s.seams k=m at*;have y:=LH s m.pa m.ea;have z:=LH s m.pb m.eb;refine jX k rfl rfl l rfl (jA rfl y ?_)
  cases E:ma s m.pa m.ea with
  |false=>
   refine gg rfl (gr rfl (gg rfl (ak rfl (gE rfl (jF rfl ?_)))));simp_all[pd]
  |true=>
   refine gg rfl (aq rfl (jA rfl z ?_))
   cases G:ma s m.pb m.eb with
   |false=>
    refine gg rfl (ak rfl (gE rfl (jF rfl ?_)));simp_all[pd]
   |true=>
    refine gg rfl (aj rfl (jC rfl (fun f=>?_) (fun f=>?_)))
    .rw[ad]at f;refine gE rfl (jF rfl ?_);simp_all[pd]
    rw[af]at f;exact gE rfl (c (k+1) ⟨a,i (by simp_all[pd])⟩ (by omega) (ah rfl ⟨rfl,tr⟩ (by rw[d];rfl)))
 rw[af]at e;obtain rfl:k=s.seams.length:=by omega
 refine gE rfl (jF rfl ?_);rw[h0]
def EI:Piece:=⟨⟨#[]⟩,[],0,[],[],[],false⟩
structure StyOk (s:Sty):Prop where
 mults:s.mults.length=s.sizes.length
 size:0<s.sizes.length
 sizes:s.sizes.length<=12
 pieces:s.pieces.length<=12
 uses:s.uses.length<=12
 seams:s.seams.length<=24
 use:∀u∈s.uses,0<=u.piece/\u.piece<s.pieces.length/\1<=u.count/\u.count<=4
 piece:∀i,i<s.pieces.length->lG s i=0
 mult:∀m∈s.mults,-100<=m/\m<=100
 base:0∈s.mults
theorem lX {s:Sty}(h:fx s=0):StyOk s:=by
 unfold fx at h;split at h
 omega
 .rename_i h1;split at h
  omega
  .rename_i a;split at h
   omega
   .rename_i h3;have h1:gS s=0:=by omega
    have a:cI (lG s) s.pieces.length=0:=by omega
    unfold gS at h1;split at h1
    omega;split at h1
    omega;split at h1
    omega;split at h1
    omega;split at h1
    omega;split at h1
    omega;split at h1
    omega;rename_i b c d e f g j;refine⟨by omega,by omega,by omega,by omega,by omega,by omega,fun u k=>?_,fun i hi=>Aj a hi,fun m l=>?_,?_⟩;grind[iU];grind;grind
def Zj (s:Sty)(size use:Int):Prop:=size<0\/(s.sizes.length:Int)<=size\/use<0\/(s.uses.length:Int)<=use
instance (s:Sty)(a b:Int):Decidable (Zj s a b):=by unfold Zj;exact inferInstance
def eM (s:Sty)(use:Int):Piece:=pc s.pieces (us s.uses use.toNat).piece.toNat
def eo (s:Sty)(size use:Int):List Edge×Piece×Int:=
 if fx s≠0 then([],EI,fx s)
 else if Zj s size use then([],EI,3)
 else((bY (eM s use) (mu s.mults size.toNat)).1,eM s use,(bY (eM s use) (mu s.mults size.toNat)).2)
theorem F9 (s:Sty)(size use:Int)(e:StyB s):PU 186 [s.enc,.int .i64 size,.int .i64 use]=some (.tup [edges (eo s size use).1,(eo s size use).2.1.enc,.int .i64 (eo s size use).2.2]):=by
 refine PS rfl (jA rfl (sb s e) (jC rfl (fun g=>?_) (fun g=>?_)))
 .rw[aO]at g;refine jF rfl ?_;rw[eo,ve g];rfl
 have g:fx s=0:=aE.1 g;have a:=lX g;have f:eo s size use=if Zj s size use then([],EI,3)else((bY (eM s use) (mu s.mults size.toNat)).1,eM s use,(bY (eM s use) (mu s.mults size.toNat)).2):=by simp_all[eo]
 rw[f];refine gg rfl (au rfl (fun f1=>?_) (fun f1=>?_))
 .rw[ad]at f1;refine gg rfl (gr rfl (gg rfl (gr rfl (gg rfl (ak rfl (jF rfl ?_))))));rw[ve (.inl f1)];rfl
 rw[af]at f1;refine gg rfl ?_;rw[zA];refine au rfl (fun f2=>?_) (fun f2=>?_)
 .rw[bk]at f2;refine gg rfl (gr rfl (gg rfl (ak rfl (jF rfl ?_))));rw[ve (.inr (.inl f2))];rfl
 rw[aW]at f2;refine gg rfl (au rfl (fun f3=>?_) (fun f3=>?_))
 .rw[ad]at f3;refine gg rfl (ak rfl (jF rfl ?_));rw[ve (.inr (.inr (.inl f3)))];rfl
 rw[af]at f3;refine gg rfl ?_;rw[zA];refine an rfl (fun f4=>?_) (fun f4=>?_)
 .rw[bk]at f4;refine jF rfl ?_;rw[ve (.inr (.inr (.inr f4)))];rfl
 rw[aW]at f4;have c:¬Zj s size use:=by grind[Zj]
 rw[vd c];have h:use.toNat<s.uses.length:=by omega
 have i:=a.use (us s.uses use.toNat) (by grind[qz]);have b:(us s.uses use.toNat).piece.toNat<s.pieces.length:=by omega
 have d:size.toNat<s.mults.length:=by rw[a.mults];omega
 have j:=Am (eM s use) (mu s.mults size.toNat) (by have:=e.corners _ (BN b);trivial);refine jX use.toNat rfl (by omega) (s7 h) rfl ?_;refine jX (us s.uses use.toNat).piece.toNat rfl (by omega) (qF b) rfl ?_;refine jX size.toNat rfl (by omega) (mu_enc d) rfl ?_;refine jA rfl j (jF rfl ?_);rfl
def fQ (s:Sty)(size use:Int):Rp×Int:=
 if(eo s size use).2.2≠0 then([],(eo s size use).2.2)else oN (eo s size use).1 (eo s size use).2.1.widths
theorem Cut_PU (s:Sty)(size use:Int)(a:StyB s):PU 135 [s.enc,.int .i64 size,.int .i64 use]=some (oF (fQ s size use)):=by
 have h:=F9 s size use a;unfold fQ;generalize eo s size use=o at*;refine PS rfl (jA rfl h (jC rfl (fun g=>?_) (fun g=>?_)))
 .rw[aO]at g;refine jF rfl ?_;rw[ve g];rfl
 rw[aE]at g;rw[eE];exact jA rfl (LU o.1 o.2.1.widths) (jZ rfl)
def lU (s:Sty)(size use:Int):Spot×Int:=
 if(eo s size use).2.2≠0 then(⟨0,0⟩,(eo s size use).2.2)else(pt (eg (eo s size use).1 0).line 0,0)
theorem Ht {s:Sty}{size use:Int}(h:(eo s size use).2.2=0):cK (eo s size use).1=0/\fx s=0/\¬Zj s size use:=by
 unfold eo at h⊢;split at h
 grind
 .split at h
  grind;simp_all[Ml]
theorem Ub (s:Sty)(size use:Int)(b:StyB s):PU 136 [s.enc,.int .i64 size,.int .i64 use]=some (.tup [(lU s size use).1.enc,.int .i64 (lU s size use).2]):=by
 have h:=F9 s size use b;have c:=Ht (s:=s) (size:=size) (use:=use);unfold lU;generalize eo s size use=o at*;refine PS rfl (jA rfl h (jC rfl (fun g=>?_) (fun g=>?_)))
 .rw[aO]at g;refine jF rfl ?_;rw[ve g];rfl
 rw[aE]at g;have a:=(c g).1;have d:=(qC a).1;have e:=(Ae a (eg o.1 0) (by grind[ZB])).1;rw[eE];refine jX 0 rfl rfl (mc (by omega)) rfl ?_;refine jX 0 rfl rfl (aZ (by omega)) rfl ?_;exact jZ rfl
structure Plc where
 garment:Int
 use:Int
 copy:Int
 flip:Bool
 quarter:Int
 x:Int
 y:Int
 deriving DecidableEq
def Plc.enc (p:Plc):D:=.agg [.int .i64 p.garment,.int .i64 p.use,.int .i64 p.copy,.bool p.flip,.int .i64 p.quarter,.int .i64 p.x,.int .i64 p.y]
def dA (l:List Plc):D:=.lst (l.map Plc.enc)
theorem dF (p:Plc):plain 4 p.enc=true:=rfl
theorem B8 (p:Plc):dat 4 p.enc=true:=rfl
def kB (u:Use)(i k:Nat):Plc:=⟨0,i,k,u.pair&&decide (k%2=1),0,0,0⟩
def gW (u:Use)(i n:Nat):List Plc:=(List.range n).map (kB u i)
def iS (l:List Use):Nat->List Plc
 |0=>[]
 |i+1=>iS l i++gW (us l i) i (us l i).count.toNat
def dV (s:Sty):List Plc:=if fx s≠0 then []else iS s.uses s.uses.length
theorem A7 {l:List Use}(h:∀u∈l,u.count<=4):∀i,i<=l.length->(iS l i).length<=4*i
 |0,_=>by simp[iS]
 |i+1,hi=>by
  have h1:=A7 h i (by omega);grind[qz,iS,gW]
theorem tmod2 (k:Nat):((k:Int)).tmod 2=((k%2:Nat):Int):=by
 rfl
theorem CI (s:Sty)(t:StyB s):PU 91 [s.enc]=some (dA (dV s)):=by
 refine PS rfl (jA rfl (sb s t) (jC rfl (fun g=>?_) (fun g=>?_)))
 .rw[aO]at g;refine jF rfl ?_;rw[dV,ve g];rfl
 have g:fx s=0:=aE.1 g;have b:=lX g;have h:=A7 (l:=s.uses) (fun u v=>(b.use u v).2.2.2);have q:=b.uses;rw[dV,eE];refine gg rfl ?_;rw[zA];refine aw (S:=fun k:Nat=>([.ref 0 0 (iS s.uses k).length,Go.F.uses s.uses,aa s.uses.length,aa k],some (.row ((iS s.uses k).map Plc.enc) 7)::nn3,zz4)) (C:=fun k=>k<=s.uses.length) (m:=fun k=>s.uses.length-k) 0 (zB _) (by omega) ?_ ?_
 .exact ah rfl ⟨rfl,tr⟩ rfl
 intro k w N x;refine jC rfl (fun e=>?_) (fun e=>?_)
 .rw[ad]at e;have i:k<s.uses.length:=by omega
  have y:=wS (n:=k);have z:=s7 i;have A:=b.use (us s.uses k) (by grind[qz]);have B:=h k w;have c:iS s.uses (k+1)=iS s.uses k++gW (us s.uses k) k (us s.uses k).count.toNat:=rfl;generalize us s.uses k=u at*;generalize iS s.uses k=L at*;have D:u.count=((u.count.toNat:Nat):Int):=by omega
  refine jX k rfl rfl z rfl (gg rfl (aw (S:=fun n:Nat=>([.ref 0 0 (L++gW u k n).length,aa k,.ptr 2 0 0,Go.F.uses s.uses,aa s.uses.length,aa k,.int .i64 u.count,aa n],some (.row ((L++gW u k n).map Plc.enc) 7)::none::some (.row [u.enc] 3)::nn5,zz8)) (C:=fun n=>n<=u.count.toNat) (m:=fun n=>u.count.toNat-n) 0 (zB _) (by omega) ?_ ?_))
  .exact ah rfl ⟨ae dF _,rfl,tr⟩ (by simp[gW,uses,aa,Use.enc])
  intro n E G j;refine jC rfl (fun f=>?_) (fun f=>?_)
  .rw[ad]at f;have r:=wS (n:=n)
   have a:(L++gW u k (n+1)).map Plc.enc=(L++gW u k n).map Plc.enc++[(kB u k n).enc]:=by
    simp[gW,xo]
   refine gg rfl (au rfl (fun o=>?_) (fun o=>?_))
   .have o:u.pair=true:=o;have d:kB u k n=⟨0,k,n,decide (n%2=1),0,0,0⟩:=by grind[kB]
    have p:eqb ((n:Int).tmod 2) 1=decide (n%2=1):=by
     rw[tmod2,cC];grind
    rw[d]at a;refine gg rfl (dx rfl rfl (by decide) ?_);refine gg rfl ?_;rw[p];refine bI rfl rfl rfl rfl rfl rfl (by simp) (zB _) (by grind[aK,gW]) ?_;refine gE rfl (j (n+1) (by omega) (by omega) (ah rfl ⟨?_,rfl,tr⟩ ?_))
    .rw[zY,ae dF];rfl
    rw[a,r];simp[gW,uses,aa,Use.enc]
    trivial
   have o:u.pair=false:=o;have d:kB u k n=⟨0,k,n,false,0,0,0⟩:=by grind[kB]
   rw[d]at a;refine gg rfl (bI rfl rfl rfl rfl rfl rfl (by simp) (zB _) (by grind[aK,gW]) ?_);refine gE rfl (j (n+1) (by omega) (by omega) (ah rfl ⟨?_,rfl,tr⟩ ?_))
   .rw[zY,ae dF];rfl
   rw[a,r];simp[gW,uses,aa,Use.enc]
   trivial
  rw[af]at f;obtain rfl:n=u.count.toNat:=by omega
  refine gE rfl (gE rfl (x (k+1) i (by omega) (ah rfl ⟨ae dF _,tr⟩ ?_)));rw[c,y];rfl
 rw[af]at e;obtain rfl:k=s.uses.length:=by omega
 refine gE rfl (gg rfl (cS rfl rfl rfl ⟨bK (by simp) (bF B8 _),tr⟩ ?_));rw[bZ (by simp)];rfl
structure RollB (r:RollS):Prop where
 id:r.id.size<=1000000
 fl:∀f∈r.flaws,-9223372036854775808<=f.x/\f.x<=9223372036854775807/\ -9223372036854775808<=f.y/\f.y<=9223372036854775807
theorem LZ {r:RollS}(h:RollB r):PU 69 [r.enc]=some (.int .i64 (eB r)):=S6 r h.id fun _ _=>h.fl
def rolls (l:List RollS):D:=.lst (l.map RollS.enc)
def rl (l:List RollS)(i:Nat):RollS:=l.getD i ⟨⟨#[]⟩,0,0,0,0,0,[]⟩
theorem qL {l:List RollS}{i:Nat}(h:i<l.length):rl l i=l[i]:=by grind[rl]
theorem oI {l:List RollS}{i:Nat}(h:i<l.length):(l.map RollS.enc)[i]?=some (rl l i).enc:=by grind[rl]
def kY (l:List RollS)(n:Nat):Int:=if 20<l.length then 5 else if orF (l.map eB)≠0 then orF (l.map eB)else if n≠l.length then 1 else 0
theorem qg {α:Type}{f:α->Int}{l:List α}{k:Nat}(a:k<l.length)(h:orF ((l.take k).map f)=0):orF (l.map f)=if f l[k]=0 then orF ((l.drop (k+1)).map f)else f l[k]:=by
 have e:l=l.take k++l[k]::l.drop (k+1):=by simp
 grind[o9,orF]
theorem uk {α:Type}{f:α->Int}{l:List α}{k:Nat}(a:k<l.length)(h:orF ((l.take k).map f)=0)(b:f l[k]=0):orF ((l.take (k+1)).map f)=0:=by
 grind[List.take_succ_eq_append_getElem,o9,orF]
theorem HZ (l:List RollS)(lots:List Int)(i:∀r∈l,RollB r):PU 29 [rolls l,ints lots]=some (.int .i64 (kY l lots.length)):=by
 refine PS rfl (gg rfl ?_);rw[zA];refine an rfl (fun e=>?_) (fun e=>?_)
 .rw[ad]at e;refine jF rfl ?_;rw[kY,rA]
 rw[af]at e;rw[show kY l lots.length=if orF (l.map eB)≠0 then orF (l.map eB)else if lots.length≠l.length then 1 else 0 by rw[kY,eE]];refine gg rfl ?_;rw[zA];refine aw (S:=fun k:Nat=>([rolls l,ints lots,rolls l,aa l.length,aa k],none::nn4,zz5)) (C:=fun k=>k<=l.length/\orF ((l.take k).map eB)=0) (m:=fun k=>l.length-k) 0 ⟨zB _,rfl⟩ (by omega) ?_ ?_;rfl;intro k ⟨p,h⟩ N j;refine jC rfl (fun e=>?_) (fun e=>?_)
 .rw[ad]at e;have a:k<l.length:=by omega
  have o:=wS (n:=k);have g:=qg (f:=eB) a h;have b:=uk (f:=eB) a h;have c:=i _ (zE a);rw[<-qL a]at g b c;refine jX k rfl rfl (oI a) rfl (jA rfl (LZ c) (jC rfl (fun d=>?_) (fun d=>?_)))
  .rw[aO]at d;refine gE rfl (jF rfl ?_);grind
  rw[aE]at d;exact gE rfl (j (k+1) ⟨a,b d⟩ (by omega) (ah rfl tr (by rw[o];rfl)))
 rw[af]at e;refine gE rfl (jC rfl (fun e=>?_) (fun e=>?_))
 .rw[aO]at e;refine jF rfl ?_;grind
 rw[aE]at e;refine jF rfl ?_;grind
def iH:List Int->Int->Bool
 |[],_=>true
 |n::l,s=>if n<0\/40-s<n then false else iH l (s+n)
def px (lots a:List Int):Int:=if lots.any (fun n=>decide (n<0))=true then 3 else if iH a 0=false then 3 else 0
theorem RT (lots a:List Int)(h1:lots.length<=1000000)(q:a.length<=1000000):PU 61 [ints lots,ints a]=some (.int .i64 (px lots a)):=by
 refine PS rfl (gg rfl ?_);rw[zA];refine aw (S:=fun k:Nat=>([ints a,ints lots,aa lots.length,aa k],none::nn3,zz4)) (C:=fun k=>k<=lots.length/\(lots.take k).any (fun n=>decide (n<0))=false) (m:=fun k=>lots.length-k) 0 ⟨zB _,rfl⟩ (by omega) ?_ ?_;rfl;intro k ⟨o,p⟩ N d;refine jC rfl (fun e=>?_) (fun e=>?_)
 .rw[ad]at e;have b:k<lots.length:=by omega
  have g:=wS (n:=k);have h:=jL (f:=fun n=>decide (n<0)) b p;have l:=jO (f:=fun n=>decide (n<0)) b;refine jX k rfl rfl (eP b) rfl (jC rfl (fun c=>?_) (fun c=>?_))
  .rw[ad]at c;refine gE rfl (jF rfl ?_);simp_all[px]
  rw[af]at c;exact gE rfl (d (k+1) ⟨b,h (by grind)⟩ (by omega) (ah rfl tr (by rw[g];rfl)))
 rw[af]at e;rw[px,vd (by grind)];refine gE rfl (gg rfl ?_);rw[zA];refine aw (S:=fun x:Nat×Int=>([.int .i64 x.2,ints a,aa a.length,aa x.1],none::nn3,zz4)) (C:=fun x=>x.1<=a.length/\iH a 0=iH (a.drop x.1) x.2/\0<=x.2/\x.2<=40) (m:=fun x=>a.length-x.1) (0,0) ⟨zB _,rfl,by decide,by decide⟩ (by omega) ?_ ?_;rfl;intro⟨k,s⟩ ⟨o,i,r,t⟩ N d;refine jC rfl (fun e=>?_) (fun e=>?_)
 .rw[ad]at e;have b:k<a.length:=by omega
  have g:=wS (n:=k);rw[zz b,iH]at i;refine jX k rfl rfl (eP b) rfl ?_;generalize a[k]=v at*
  repeat' (first
   |refine jP rfl ?_
   |refine gr rfl ?_|refine aq rfl ?_|refine au rfl ?_ ?_<;>intro _
   |refine ak rfl ?_|refine aj rfl ?_|refine an rfl ?_ ?_<;>intro _
   |refine aL rfl ?_ ?_<;>intro _
   |refine fI rfl ?_)
  .rename_i c;rw[ad]at c;refine bo (jF rfl ?_);grind
  .rename_i c j;rw[ad,wrap64 (by omega) (by omega)]at j;refine bo (jF rfl ?_);grind
  rename_i c j;rw[af]at c;rw[af,wrap64 (by omega) (by omega)]at j;rw[eE]at i;refine bo (d (k+1,s+v) ⟨b,i,by omega,by omega⟩ (by omega) (ah rfl tr ?_));rw[g,wrap64 (x:=s+v) (by omega) (by omega)];rfl
 rw[af]at e;obtain rfl:k=a.length:=by omega
 refine gE rfl (jF rfl ?_);simp_all[iH]
structure Mkr where
 length:Int
 width:Int
 rep:Rep2
 sizes:List Int
 places:List Plc
def Mkr.enc (m:Mkr):D:=.agg [.int .i64 m.length,.int .i64 m.width,.int .i64 m.rep.x,.int .i64 m.rep.y,ints m.sizes,dA m.places]
def gy (m:Mkr)(ps:Fv)(rs:List RollS)(n:Nat):Int:=
 if(kU m.length ps 0).2≠0 then(kU m.length ps 0).2 else if kY rs n≠0 then kY rs n else if m.width<1\/1048576<m.width then 3 else 0
theorem HQ (m:Mkr)(ps:Fv)(rs:List RollS)(lots:List Int)(a:ps.length<=1000)(b:∀r∈rs,RollB r):PU 60 [m.enc,aY ps,rolls rs,ints lots]=some (.int .i64 (gy m ps rs lots.length)):=by
 refine PS rfl ?_
 repeat' (first
  |refine jP rfl ?_
  |refine gr rfl ?_|refine aq rfl ?_|refine au rfl ?_ ?_<;>intro _
  |refine ak rfl ?_|refine aj rfl ?_|refine an rfl ?_ ?_<;>intro _
  |refine aL rfl ?_ ?_<;>intro _
  |refine fI rfl ?_
  |refine aB rfl rfl (Ns m.length ps 0 a) ?_
  |refine aB rfl rfl (HZ rs lots b) ?_)
 simp_all[aO,gy];simp_all[aE,aO,gy];simp_all[aE,ad,gy];simp_all[aE,ad,gy];simp_all[aE,af,gy]
structure Part where
 roll:Int
 from_:Int
 to:Int
 at_:Int
def Part.enc (p:Part):D:=.agg [.int .i64 p.roll,.int .i64 p.from_,.int .i64 p.to,.int .i64 p.at_]
def parts (l:List Part):D:=.lst (l.map Part.enc)
theorem nz (p:Part):plain 4 p.enc=true:=rfl
theorem LS (p:Part):dat 4 p.enc=true:=rfl
def pa (l:List Part)(i:Nat):Part:=l.getD i ⟨0,0,0,0⟩
theorem oS {l:List Part}{i:Nat}(h:i<l.length):pa l i=l[i]:=by grind[pa]
theorem nv {l:List Part}{i:Nat}(h:i<l.length):(l.map Part.enc)[i]?=some (pa l i).enc:=by grind[pa]
def gl (p:Part)(rs:List RollS):Bool:=
 decide (0<=p.roll)&&(decide (p.roll<rs.length)&&(decide (0<=p.from_)&&(decide (p.from_<p.to)&&decide (p.to<=(rl rs p.roll.toNat).length))))
theorem JO (p:Part)(rs:List RollS):PU 30 [p.enc,rolls rs]=some (.bool (gl p rs)):=by
 refine PS rfl ?_
 repeat' (first
  |refine jP rfl ?_
  |refine gr rfl ?_|refine aq rfl ?_|refine au rfl ?_ ?_<;>intro _
  |refine ak rfl ?_|refine aj rfl ?_|refine an rfl ?_ ?_<;>intro _
  |refine aL rfl ?_ ?_<;>intro _
  |refine fI rfl ?_)
 .rename_i e a b c;rw[bk]at e b;rw[ad]at c;rw[ad,zA]at a;refine cg p.roll.toNat rfl rfl (by omega) (oI (by omega)) rfl ?_;refine jF rfl ?_;grind[ca,gl]
 grind[af,gl];grind[aW,gl];grind[af,gl];grind[aW,gl]
def cM (p:Part):Int:=IntKind.i64.wrap (IntKind.i64.wrap (p.at_+p.to)-p.from_)
theorem Jj (p:Part):PU 105 [p.enc]=some (.int .i64 (cM p)):=by
 refine PS rfl ?_
 repeat' (first
  |refine jP rfl ?_
  |refine gr rfl ?_|refine aq rfl ?_|refine au rfl ?_ ?_<;>intro _
  |refine ak rfl ?_|refine aj rfl ?_|refine an rfl ?_ ?_<;>intro _
  |refine aL rfl ?_ ?_<;>intro _
  |refine fI rfl ?_)
 rfl
def lF (n:Int)(ps:Fv)(a b:Part):Bool:=
 !(decide (b.at_<=a.at_) ||decide (cM a<b.at_))&&(decide ((kU n ps (cM a)).2=0)&&decide (b.at_<=(kU n ps (cM a)).1))
theorem Rz (n:Int)(ps:Fv)(a b:Part)(c:ps.length<=1000):PU 104 [.int .i64 n,aY ps,a.enc,b.enc]=some (.bool (lF n ps a b)):=by
 refine PS rfl ?_
 repeat' (first
  |refine jP rfl ?_
  |refine gr rfl ?_|refine aq rfl ?_|refine au rfl ?_ ?_<;>intro _
  |refine ak rfl ?_|refine aj rfl ?_|refine an rfl ?_ ?_<;>intro _
  |refine aL rfl ?_ ?_<;>intro _
  |refine fI rfl ?_
  |refine aB rfl rfl (Jj a) ?_
  |refine aB rfl rfl (Ns n ps (cM a) c) ?_)
 grind[bk,lF];grind[ad,lF];grind[af,co,ca,lF];grind[dG,lF]
def pB (n:Int):Bool:=decide (0<=n)&&decide (n<=1048576)
def mE (p:Part)(b:Rect):Bool:=pB p.at_&&(pB p.from_&&(pB p.to&&(decide (p.at_<=b.x)&&decide (IntKind.i64.wrap (b.x+b.w)<=cM p))))
theorem Pw (p:Part)(b:Rect):PU 33 [p.enc,b.enc]=some (.bool (mE p b)):=by
 have h1:PU 73 [.int .i64 p.at_]=some (.bool (pB p.at_)):=Dl p.at_;have a:PU 73 [.int .i64 p.from_]=some (.bool (pB p.from_)):=Dl p.from_;have h3:PU 73 [.int .i64 p.to]=some (.bool (pB p.to)):=Dl p.to;refine PS rfl ?_
 repeat' (first
  |refine jP rfl ?_
  |refine gr rfl ?_|refine aq rfl ?_|refine au rfl ?_ ?_<;>intro _
  |refine ak rfl ?_|refine aj rfl ?_|refine an rfl ?_ ?_<;>intro _
  |refine aL rfl ?_ ?_<;>intro _
  |refine fI rfl ?_
  |refine aB rfl rfl (h1) ?_
  |refine aB rfl rfl (a) ?_
  |refine aB rfl rfl (h3) ?_)
 all_goals (simp_all[mE,ca,cM]<;>first|rfl|omega)
structure Ply where
 lot:Int
 parts:List Part
def Ply.enc (p:Ply):D:=.agg [.int .i64 p.lot,Go.F.parts p.parts]
def dv (y:Ply)(p:Rp):Int×Int:=
 if(iM p).2≠0 then(0,(iM p).2)else match y.parts.findIdx? (fun q=>mE q (bD p))with
  |some i=>((i:Int),0)
  |none=>(0,20)
theorem Fm (y:Ply)(p:Rp)(l:y.parts.length<=1000000):PU 10 [y.enc,ac p]=some (.tup [.int .i64 (dv y p).1,.int .i64 (dv y p).2]):=by
 refine PS rfl (jA rfl (tM p) (jC rfl (fun e=>?_) (fun e=>?_)))
 .rw[aO]at e;refine jF rfl ?_;simp_all[dv]
 rw[aE]at e
 have c:(iM p).1=bD p:=by
  unfold iM at e⊢;grind
 have o:dv y p=match y.parts.findIdx? (fun q=>mE q (bD p))with
  |some i=>((i:Int),0)
  |none=>(0,20):=by simp_all[dv]
 refine gg rfl ?_;rw[zA,c];refine aw (S:=fun k:Nat=>([.ptr 0 0 0,parts y.parts,aa y.parts.length,aa k],some (.row [(bD p).enc] 4)::nn3,zz4)) (C:=fun k=>k<=y.parts.length/\∀j (b:j<y.parts.length),j<k->mE y.parts[j] (bD p)=false) (m:=fun k=>y.parts.length-k) 0 ⟨zB _,fun j b h=>by omega⟩ (by omega) ?_ ?_
 .exact ah rfl ⟨rfl,tr⟩ rfl
 intro k ⟨r,s⟩ N d;refine jC rfl (fun e=>?_) (fun e=>?_)
 .rw[ad]at e;have a:k<y.parts.length:=by omega
  have f:=wS (n:=k);refine jX k rfl rfl (nv a) rfl (jA rfl (Pw (pa y.parts k) (bD p)) (jC rfl (fun g=>?_) (fun g=>?_)))
  .refine gE rfl (jF rfl ?_);grind[List.findIdx?_eq_some_iff_getElem,oS]
  refine gE rfl (d (k+1) ⟨a,fun j b h=>?_⟩ (by omega) (ah rfl ⟨rfl,tr⟩ (by rw[f];rfl)));grind[oS]
 rw[af]at e;refine gE rfl (jF rfl ?_);grind[List.mem_iff_getElem]
structure TriB (l:Fv):Prop where
 len:l.length<=1000
 ok:∀t∈l,OkP t/\t.length<=1000
def lW (l:Fv):D:=.tup [aY l,.int .i64 0]
def kW (r:Rect):Rp:=[⟨max r.x (-1048576),max r.y (-1048576)⟩,⟨min (r.x+r.w) 1048576,max r.y (-1048576)⟩,⟨min (r.x+r.w) 1048576,min (r.y+r.h) 1048576⟩,⟨max r.x (-1048576),min (r.y+r.h) 1048576⟩]
def nT (r:Rect):Bool:=decide (1<=r.w)&&(decide (1<=r.h)&&(decide (max r.x (-1048576)<min (r.x+r.w) 1048576)&&decide (max r.y (-1048576)<min (r.y+r.h) 1048576)))
def jW (a:Fv)(r:Rect):Bool:=nT r&&a.any fun t=>decide (nE t (kW r)=1)
structure RectB (r:Rect):Prop where
 x: -9223372036854775808<=r.x/\r.x<=9223372036854775807
 y: -9223372036854775808<=r.y/\r.y<=9223372036854775807
 w:r.w<=9223372036854775807
 h:r.h<=9223372036854775807
theorem W5 (p:Rp)(r:Rect)(a:Fv)(l:PU 74 [ac p]=some (lW a))(o:TriB a)(hr:RectB r):PU 34 [ac p,r.enc]=some (.tup [.bool (jW a r),.int .i64 0]):=by
 obtain⟨⟨u,v⟩,⟨z,A⟩,B,E⟩:=hr;refine PS rfl (jA rfl l (gg rfl (aj (by show D.bool (nqb 0 0)=_;simp[aE]) ?_)))
 repeat' (first
  |refine jP rfl ?_
  |refine gr rfl ?_|refine aq rfl ?_|refine au rfl ?_ ?_<;>intro _
  |refine ak rfl ?_|refine aj rfl ?_|refine an rfl ?_ ?_<;>intro _
  |refine aL rfl ?_ ?_<;>intro _
  |refine fI rfl ?_)
 grind[ad,nT,jW];grind[ad,nT,jW];rename_i e g;rw[af]at e g;refine aB rfl rfl (N0 r.x r.w u v e B) (jA rfl (N0 r.y r.h z A g E) ?_)
 repeat' (first
  |refine jP rfl ?_
  |refine gr rfl ?_|refine aq rfl ?_|refine au rfl ?_ ?_<;>intro _
  |refine ak rfl ?_|refine aj rfl ?_|refine an rfl ?_ ?_<;>intro _
  |refine aL rfl ?_ ?_<;>intro _
  |refine fI rfl ?_)
 grind[nT,jW];grind[nT,jW];have F:max r.x (-1048576)<min (r.x+r.w) 1048576:=by grind
 have G:max r.y (-1048576)<min (r.y+r.h) 1048576:=by grind
 have H:nT r=true:=by grind[nT]
 have I:jW a r=a.any fun t=>decide (nE t (kW r)=1):=by grind[jW]
 rw[I];rw[zA]
 haveI hco:OkP (kW r):=⟨by
  intro s l;simp[kW]at l
  rcases l with rfl|rfl|rfl|rfl<;>exact⟨by dsimp only;omega,by dsimp only;omega⟩⟩
 have J:(kW r).length=4:=rfl;refine aw (S:=fun k:Nat=>([.ref 0 0 4,aY a,aa a.length,aa k],some (.row ((kW r).map Spot.enc) 2)::nn3,zz4)) (C:=fun k=>k<=a.length/\(a.take k).any (fun t=>decide (nE t (kW r)=1))=false) (m:=fun k=>a.length-k) 0 ⟨zB _,rfl⟩ (by have:=o.len;omega) ?_ ?_
 .exact ah rfl ⟨rfl,tr⟩ rfl
 intro k ⟨P,q⟩ N K;have L:=o.len;refine jC rfl (fun e=>?_) (fun e=>?_)
 .rw[ad]at e;have b:k<a.length:=by omega
  have M:=wS (n:=k);have i:=jL (f:=fun t=>decide (nE t (kW r)=1)) b q;have j:=jO (f:=fun t=>decide (nE t (kW r)=1)) b;have d:=o.ok _ (zE b);rw[<-fw b]at i j d;generalize O:kW r=c at*;refine jX k rfl rfl (kw b) rfl ?_;generalize plg a k=t at*
  haveI:=d.1
  refine gg rfl (gk rfl rfl ⟨bK (by grind) (bF fh _),tr⟩ (by rw[bZ (by grind)];exact JR t c d.2 (by omega)) rfl ?_);refine jC rfl (fun g=>?_) (fun g=>?_)
  .rw[co]at g;refine gE rfl (jF rfl ?_);grind
  rw[dG]at g;exact gE rfl (K (k+1) ⟨b,i (by grind)⟩ (by omega) (ah rfl ⟨ae am _,tr⟩ (by rw[M];rfl)))
 rw[af]at e;obtain rfl:k=a.length:=by omega
 rw[zH]at q;refine gE rfl (jF rfl ?_);rw[q]
def qI (s:Rp)(l:Fv)(c:Int):Nat->Int
 |0=>c
 |j+1=>max (qI s l c j) (nE s (plg l j))
def p8 (l m:Fv):Nat->Int
 |0=> -1
 |k+1=>qI (plg l k) m (p8 l m k) m.length
def rY (l m:Fv):Int:=p8 l m l.length
theorem UL (p q:Rp)(l m:Fv)(h1:PU 74 [ac p]=some (lW l))(o:PU 74 [ac q]=some (lW m))(t1:TriB l)(t2:TriB m):PU 106 [ac p,ac q]=some (.tup [.int .i64 (rY l m),.int .i64 0]):=by
 have r:=t1.len;have u:=t2.len;refine PS rfl (jA rfl h1 (gg rfl (aj (by show D.bool (nqb 0 0)=_;simp[aE]) ?_)));refine jA rfl o (gg rfl (aj (by show D.bool (nqb 0 0)=_;simp[aE]) ?_));refine gg rfl ?_;rw[zA];refine aw (S:=fun k:Nat=>([aY m,.int .i64 (p8 l m k),aY l,aa l.length,aa k],none::nn4,zz5)) (C:=fun k=>k<=l.length) (m:=fun k=>l.length-k) 0 (zB _) (by omega) ?_ ?_;rfl;intro k y N v;refine jC rfl (fun e=>?_) (fun e=>?_)
 .rw[ad]at e;have b:k<l.length:=by omega
  have w:=wS (n:=k);have f:=t1.ok _ (zE b);rw[<-fw b]at f;have h:p8 l m (k+1)=qI (plg l k) m (p8 l m k) m.length:=rfl;refine jX k rfl rfl (kw b) rfl ?_;generalize plg l k=s at*;generalize p8 l m k=c at*
  haveI:=f.1
  refine gg rfl ?_;rw[zA];refine aw (S:=fun j:Nat=>([aY m,.int .i64 (qI s m c j),ac s,aY l,aa l.length,aa k,aY m,aa m.length,aa j],none::nn8,zz9)) (C:=fun j=>j<=m.length) (m:=fun j=>m.length-j) 0 (zB _) (by omega) ?_ ?_;rfl;intro j z A i;refine jC rfl (fun e=>?_) (fun e=>?_)
  .rw[ad]at e;have d:j<m.length:=by omega
   have x:=wS (n:=j);have a:=t2.ok _ (zE d);rw[<-fw d]at a;have g:qI s m c (j+1)=max (qI s m c j) (nE s (plg m j)):=rfl;refine jX j rfl rfl (kw d) rfl ?_;generalize plg m j=t at*
   haveI:=a.1
   exact jA rfl (JR s t f.2 a.2) (gE rfl (i (j+1) d (by omega) (ah rfl tr (by rw[x,g];rfl))))
  rw[af]at e;obtain rfl:j=m.length:=by omega
  exact gE rfl (gE rfl (v (k+1) b (by omega) (ah rfl tr (by rw[w,h];rfl))))
 rw[af]at e;obtain rfl:k=l.length:=by omega
 exact gE rfl (jZ rfl)
theorem Wa (p q:Rp)(l m:Fv)(h1:PU 74 [ac p]=some (lW l))(a:PU 74 [ac q]=some (lW m))(t1:TriB l)(t2:TriB m):PU 67 [ac p,ac q]=some (.tup [.bool (decide (rY l m=1)),.int .i64 0]):=by
 refine PS rfl ?_
 repeat' (first
  |refine jP rfl ?_
  |refine gr rfl ?_|refine aq rfl ?_|refine au rfl ?_ ?_<;>intro _
  |refine ak rfl ?_|refine aj rfl ?_|refine an rfl ?_ ?_<;>intro _
  |refine aL rfl ?_ ?_<;>intro _
  |refine fI rfl ?_
  |refine aB rfl rfl (UL p q l m h1 a t1 t2) ?_)
 .rw[cC]
 grind[dG]
def lm (q:Part)(f:Rect):Rect:=⟨IntKind.i64.wrap (f.x+IntKind.i64.wrap (q.at_-q.from_)),f.y,f.w,f.h⟩
def nP (y:Ply)(rs:List RollS)(a:Fv)(p:Rp):Bool×Int:=
 if(dv y p).2≠0 then(false,(dv y p).2)
 else if(pa y.parts (dv y p).1.toNat).roll<0\/(rs.length:Int)<=(pa y.parts (dv y p).1.toNat).roll then(false,3)
 else if eB (rl rs (pa y.parts (dv y p).1.toNat).roll.toNat)≠0 then(false,eB (rl rs (pa y.parts (dv y p).1.toNat).roll.toNat))
 else((rl rs (pa y.parts (dv y p).1.toNat).roll.toNat).flaws.any fun f=>jW a (lm (pa y.parts (dv y p).1.toNat) f),0)
theorem ZU {y:Ply}{p:Rp}(h:(dv y p).2=0):0<=(dv y p).1/\(dv y p).1.toNat<y.parts.length:=by
 unfold dv at h⊢;split at h
 omega
 .grind[List.findIdx?_eq_some_iff_getElem]
theorem VF (n:Int): -9223372036854775808<=IntKind.i64.wrap n/\IntKind.i64.wrap n<=9223372036854775807:=by
 simp only[IntKind.wrap,IntKind.bits,IntKind.signed];grind
theorem Es {r:RollS}(h:eB r=0):1<=r.length/\r.length<=1048576/\1<=r.width/\r.width<=1048576/\r.flaws.length<=20/\∀f∈r.flaws,0<=f.x/\1<=f.w/\f.w<=r.length-f.x/\0<=f.y/\1<=f.h/\f.h<=r.width-f.y:=by
 unfold eB at h;split at h
 omega
 .split at h
  omega
  .split at h
   omega
   .split at h
    omega;simp_all[iG]
theorem qPd (y:Ply)(rs:List RollS)(p:Rp)(a:Fv)(v:y.parts.length<=1000000)(w:∀r∈rs,RollB r)(z:PU 74 [ac p]=some (lW a))(A:TriB a):PU 68 [y.enc,rolls rs,ac p]=some (.tup [.bool (nP y rs a p).1,.int .i64 (nP y rs a p).2]):=by
 have b:=ZU (y:=y) (p:=p);have B:=Fm y p v;unfold nP;generalize dv y p=c at*;obtain⟨t,M⟩:=c;refine PS rfl (jA rfl B (jC rfl (fun e=>?_) (fun e=>?_)))
 .rw[aO]at e;refine jF rfl ?_;grind
 rw[aE]at e;obtain⟨O,l1⟩:=b e;rw[eE];refine jX t.toNat rfl (by omega) (nv l1) rfl ?_;generalize pa y.parts t.toNat=q at*
 repeat' (first
  |refine jP rfl ?_
  |refine gr rfl ?_|refine aq rfl ?_|refine au rfl ?_ ?_<;>intro _
  |refine ak rfl ?_|refine aj rfl ?_|refine an rfl ?_ ?_<;>intro _
  |refine aL rfl ?_ ?_<;>intro _
  |refine fI rfl ?_)
 simp_all[ad];simp_all[bk];rename_i E F;rw[af]at E;rw[aW,zA]at F;rw[eE];have g:q.roll.toNat<rs.length:=by omega
 have h:=w _ (zE g);rw[<-qL g]at h;have d:=oI g;generalize rl rs q.roll.toNat=r at*;refine cg q.roll.toNat rfl rfl (by omega) d rfl ?_;refine jA rfl (LZ h) (jC rfl (fun l=>?_) (fun l=>?_))
 .rw[aO]at l;refine jF rfl ?_;grind
 rw[aE]at l;rw[eE];obtain⟨P,Q,R,T,U,G⟩:=Es l;refine jX q.roll.toNat rfl (by omega) d rfl ?_;refine gg rfl (aw (S:=fun k:Nat=>([ac p,.ptr 1 0 0,CO r.flaws,aa r.flaws.length,aa k],none::some (.row [q.enc] 4)::nn3,zz5)) (C:=fun k=>k<=r.flaws.length/\(r.flaws.take k).any (fun f=>jW a (lm q f))=false) (m:=fun k=>r.flaws.length-k) 0 ⟨zB _,rfl⟩ (by omega) ?_ ?_)
 .exact ah rfl ⟨rfl,tr⟩ (by simp only[zA];rfl)
 intro k ⟨V,o⟩ N H;refine jC rfl (fun e=>?_) (fun e=>?_)
 .rw[ad]at e;have b:k<r.flaws.length:=by omega
  have I:=wS (n:=k);have i:=jL (f:=fun f=>jW a (lm q f)) b o;have j:=jO (f:=fun f=>jW a (lm q f)) b;have J:=G _ (zE b);rw[<-HX b]at i j J;have K:=VF ((rc r.flaws k).x+IntKind.i64.wrap (q.at_-q.from_));have s:RectB (lm q (rc r.flaws k)):=⟨K,by grind[lm],by grind[lm],by grind[lm]⟩;have L:=W5 p (lm q (rc r.flaws k)) a z A s;refine jX k rfl rfl (JC b) rfl (jA rfl L (gg rfl (aj (by show D.bool (nqb 0 0)=_;simp[aE]) ?_)));refine jC rfl (fun u=>?_) (fun u=>?_)
  .refine gE rfl (jF rfl ?_);grind
  exact gE rfl (H (k+1) ⟨b,i u⟩ (by omega) (ah rfl ⟨rfl,tr⟩ (by rw[I];rfl)))
 rw[af]at e;obtain rfl:k=r.flaws.length:=by omega
 rw[zH]at o;refine gE rfl (jF rfl ?_);rw[o]
def jw (m:Mkr)(ps:Fv)(rs:List RollS)(lots:List Int)(y:Ply)(i:Nat):Int:=
 if gl (pa y.parts i) rs=false\/(pa y.parts i).at_<0\/m.length<(pa y.parts i).at_ then 3
 else if lots.getD (pa y.parts i).roll.toNat 0≠y.lot then 16
 else if(rl rs (pa y.parts i).roll.toNat).width<m.width then 13
 else if(i=0/\(pa y.parts i).at_≠0)\/(0<i/\lF m.length ps (pa y.parts (i-1)) (pa y.parts i)=false)then 20 else 0
def rK (m:Mkr)(ps:Fv)(rs:List RollS)(lots:List Int)(y:Ply):Int:=
 if y.parts.length=0 then 20
 else if orF ((List.range y.parts.length).map (jw m ps rs lots y))≠0 then orF ((List.range y.parts.length).map (jw m ps rs lots y))
 else if cM (pa y.parts (y.parts.length-1))≠m.length then 20 else 0
theorem tk {p:Part}{rs:List RollS}(h:gl p rs=true):0<=p.roll/\p.roll<rs.length/\0<=p.from_/\p.from_<p.to/\p.to<=(rl rs p.roll.toNat).length:=by
 grind[gl]
theorem D8 {f:Nat->Int}{n k:Nat}(a:k<n)(h:orF ((List.range k).map f)=0):f k≠0->orF ((List.range n).map f)=f k:=by
 have:=qg (f:=f) (l:=List.range n) (k:=k) (by grind) (by grind);grind
theorem Da {f:Nat->Int}{k:Nat}(h:orF ((List.range k).map f)=0)(a:f k=0):orF ((List.range (k+1)).map f)=0:=by
 grind[List.range_succ,o9,orF]
theorem SQ (m:Mkr)(ps:Fv)(rs:List RollS)(lots:List Int)(y:Ply)(H:ps.length<=1000)(O:lots.length=rs.length)(P:y.parts.length<=1000000):
 PU 66 [m.enc,aY ps,rolls rs,ints lots,y.enc]=some (.int .i64 (rK m ps rs lots y)):=by
 refine PS rfl (gg rfl ?_);rw[zA];refine an rfl (fun e=>?_) (fun e=>?_)
 .rw[co]at e;refine jF rfl ?_;simp_all[rK]
 rw[dG]at e;have h0:0<y.parts.length:=by omega
 have z:rK m ps rs lots y=if orF ((List.range y.parts.length).map (jw m ps rs lots y))≠0 then orF ((List.range y.parts.length).map (jw m ps rs lots y))
  else if cM (pa y.parts (y.parts.length-1))≠m.length then 20 else 0:=by simp_all[rK]
 rw[z];clear z e;refine gg rfl (aw (S:=fun k:Nat=>([aY ps,rolls rs,ints lots,.ptr 3 0 0,.ptr 4 0 0,parts y.parts,aa y.parts.length,aa k],none::none::none::some (.row [m.enc] 6)::some (.row [y.enc] 2)::nn3,zz8)) (C:=fun k=>k<=y.parts.length/\orF ((List.range k).map (jw m ps rs lots y))=0) (m:=fun k=>y.parts.length-k) 0 ⟨zB _,rfl⟩ (by omega) ?_ ?_)
 .exact ah rfl ⟨rfl,rfl,tr⟩ (by simp only[zA];rfl)
 intro k ⟨Q,A⟩ N B;refine jC rfl (fun e=>?_) (fun e=>?_)
 .rw[ad]at e;have a:k<y.parts.length:=by omega
  have D:=wS (n:=k);have I:=D8 (f:=jw m ps rs lots y) a A;have b:=Da (f:=jw m ps rs lots y) A
  have hE:jw m ps rs lots y k=if gl (pa y.parts k) rs=false\/(pa y.parts k).at_<0\/m.length<(pa y.parts k).at_ then 3
   else if lots.getD (pa y.parts k).roll.toNat 0≠y.lot then 16
   else if(rl rs (pa y.parts k).roll.toNat).width<m.width then 13
   else if(k=0/\(pa y.parts k).at_≠0)\/(0<k/\lF m.length ps (pa y.parts (k-1)) (pa y.parts k)=false)then 20 else 0:=rfl
  have o:=tk (p:=pa y.parts k) (rs:=rs);have i:=nv a;generalize jw m ps rs lots y k=E at*;generalize R:pa y.parts k=q at*;have J:∀v:Int,v≠0->E=v->orF ((List.range y.parts.length).map (jw m ps rs lots y))=v:=fun v h1 T=>by omega
  refine jX k rfl rfl i rfl ?_
  repeat' (first
   |refine jP rfl ?_
   |refine gr rfl ?_|refine aq rfl ?_|refine au rfl ?_ ?_<;>intro _
   |refine ak rfl ?_|refine aj rfl ?_|refine an rfl ?_ ?_<;>intro _
   |refine aL rfl ?_ ?_<;>intro _
   |refine fI rfl ?_
   |refine aB rfl rfl (JO q rs) ?_)
  .refine bo (jF rfl ?_);grind
  .rename_i F j;rw[ad]at j;refine bo (jF rfl ?_);grind
  .rename_i F j s;rw[ad]at s;refine bo (jF rfl ?_);grind
  rename_i F j s;have t:gl q rs=true:=by grind
  rw[af]at j s;rw[vd (by grind)]at hE;obtain⟨o1,o2,U,V,W⟩:=o t;have u:q.roll.toNat<rs.length:=by omega
  have K:q.roll.toNat<lots.length:=by omega
  have L:(lots.map aa)[q.roll.toNat]?=some (.int .i64 (lots.getD q.roll.toNat 0)):=by grind[aa]
  have g:=oI u;generalize lots.getD q.roll.toNat 0=lt at*;generalize rl rs q.roll.toNat=r at*;refine cg q.roll.toNat rfl rfl (by omega) L rfl ?_;refine jC rfl (fun w=>?_) (fun w=>?_)
  .rw[aO]at w;refine gE rfl (jF rfl ?_);grind
  rw[aE]at w;rw[eE]at hE;refine jX q.roll.toNat rfl (by omega) g rfl ?_;refine jC rfl (fun x=>?_) (fun x=>?_)
  .rw[ad]at x;refine gE rfl (jF rfl ?_);grind
  rw[af]at x;rw[eE]at hE
  repeat' (first
   |refine jP rfl ?_
   |refine gr rfl ?_|refine aq rfl ?_|refine au rfl ?_ ?_<;>intro _
   |refine ak rfl ?_|refine aj rfl ?_|refine an rfl ?_ ?_<;>intro _
   |refine aL rfl ?_ ?_<;>intro _
   |refine fI rfl ?_)
  .rename_i c d;rw[co]at c;rw[aO]at d;refine bo (jF rfl ?_);grind
  .rename_i c d l;rw[co]at c;rw[ad]at l;omega
  .rename_i c d l;rw[co]at c;rw[aE]at d;exact bo (B (k+1) ⟨a,b (by omega)⟩ (by omega) (ah rfl ⟨rfl,rfl,tr⟩ (by rw[D];rfl)))
  .rename_i c d;rw[ad]at d;have h:k-1<y.parts.length:=by omega
   refine cg (k-1) rfl rfl (by grind[wrap64]) (nv h) rfl ?_;generalize pa y.parts (k-1)=G at*;refine jA rfl (Rz m.length ps G q H) (jC rfl (fun l=>?_) (fun l=>?_))
   .refine gE rfl (jF rfl ?_);grind
   have M:lF m.length ps G q=true:=by grind
   exact gE rfl (B (k+1) ⟨a,b (by grind)⟩ (by omega) (ah rfl ⟨rfl,rfl,tr⟩ (by rw[D];rfl)))
  rename_i c d;rw[dG]at c;rw[af]at d;omega
 rw[af]at e;refine gE rfl (gg rfl ?_);have h:y.parts.length-1<y.parts.length:=by omega
 refine cg (y.parts.length-1) rfl rfl (by grind[wrap64]) (nv h) rfl ?_;generalize pa y.parts (y.parts.length-1)=q at*;refine jA rfl (Jj q) (jC rfl (fun e=>?_) (fun e=>?_))
 .rw[aO]at e;refine jF rfl ?_;grind
 rw[aE]at e;refine jF rfl ?_;grind
def tz (a:Spot)(p:Put2):Spot:=⟨IntKind.i64.wrap ((dm p.turn a).x+p.at_.x),IntKind.i64.wrap ((dm p.turn a).y+p.at_.y)⟩
def uy (r:Rep2)(a:Spot)(p:Put2):Bool:=aD a 1048576&&(aD (tz a p) 1048576&&decide (s6 r (tz a p)=s6 r ⟨0,0⟩))
theorem Xz (r:Rep2)(a:Spot)(p:Put2):PU 193 [r.enc,a.enc,p.enc]=some (.bool (uy r a p)):=by
 have h1:=CR a;have b:=CR (tz a p);have h3:PU 222 [r.enc,(tz a p).enc,Spot.enc ⟨0,0⟩]=_:=XZ r (tz a p) ⟨0,0⟩;refine PS rfl (jA rfl h1 (jC rfl (fun e=>?_) (fun e=>?_)))
 .refine jF rfl ?_;grind[uy]
 refine jA rfl (oz p.turn a) (jA rfl b ?_)
 repeat' (first
  |refine jP rfl ?_
  |refine gr rfl ?_|refine aq rfl ?_|refine au rfl ?_ ?_<;>intro _
  |refine ak rfl ?_|refine aj rfl ?_|refine an rfl ?_ ?_<;>intro _
  |refine aL rfl ?_ ?_<;>intro _
  |refine fI rfl ?_
  |refine aB rfl rfl (h3) ?_)
 grind[uy];grind[uy]
structure Bed where
 length:Int
 width:Int
 rep:Rep2
def Bed.enc (b:Bed):D:=.agg [.int .i64 b.length,.int .i64 b.width,.int .i64 b.rep.x,.int .i64 b.rep.y]
def fc (b:Bed):Bool:=decide (b.length<1) ||(decide (1048576<b.length) ||(decide (b.width<1) ||decide (1048576<b.width)))
def mj (b:Bed)(v:Spot):Bool:=decide (v.x<0) ||(decide (b.length<v.x) ||(decide (v.y<0) ||decide (b.width<v.y)))
def pu2 (l:List Put2)(i:Nat):Put2:=l.getD i ⟨0,⟨false,0⟩,⟨0,0⟩⟩
theorem kC {l:List Put2}{i:Nat}(h:i<l.length):pu2 l i=l[i]:=by grind[pu2]
theorem nW {l:List Put2}{i:Nat}(h:i<l.length):(l.map Put2.enc)[i]?=some (pu2 l i).enc:=by grind[pu2]
def qt (a:Rp->Fv)(shs:List Shp)(q:Rp)(o:Put2):Int:=
 if(bu shs o).2≠0 then(bu shs o).2 else if rY (a (bu shs o).1) (a q)=1 then 14 else 0
def kg (a:Rp->Fv)(b:Bed)(shs:List Shp)(ps:List Put2)(p:Put2):Int:=
 if fc b=true then 3
 else if(bu shs p).2≠0 then(bu shs p).2
 else if lh (shp shs p.shape.toNat).grain false p.turn=false then 12
 else if(bu shs p).1.any (mj b)=true then 13
 else if(shp shs p.shape.toNat).mtch=true/\uy b.rep (shp shs p.shape.toNat).anchor p=false then 15
 else orF (ps.map (qt a shs (bu shs p).1))
theorem A6 {shs:List Shp}{p:Put2}(h:(bu shs p).2=0):bE (bu shs p).1=0/\0<=p.shape/\p.shape.toNat<shs.length/\aD p.at_ 1048576=true/\bE (shp shs p.shape.toNat).poly=0/\(bu shs p).1=o4 shs p:=by
 unfold bu at h⊢;split at h
 omega
 .split at h
  omega
  .split at h
   omega;simp_all[vd,nh]
theorem DC (a:Rp->Fv)(lS:∀p,bE p=0->PU 74 [ac p]=some (lW (a p))/\TriB (a p))(b:Bed)(shs:List Shp)(ps:List Put2)(p:Put2)(Q:ps.length<=1000):
 PU 142 [b.enc,cq shs,cW ps,p.enc]=some (.int .i64 (kg a b shs ps p)):=by
 have F:=mL shs p;have G:=A6 (shs:=shs) (p:=p);refine PS rfl ?_
 repeat' (first
  |refine jP rfl ?_
  |refine gr rfl ?_|refine aq rfl ?_|refine au rfl ?_ ?_<;>intro _
  |refine ak rfl ?_|refine aj rfl ?_|refine an rfl ?_ ?_<;>intro _
  |refine aL rfl ?_ ?_<;>intro _
  |refine fI rfl ?_)
 simp_all[ad,fc,kg];simp_all[ad,fc,kg];simp_all[ad,fc,kg];simp_all[ad,fc,kg];rename_i T U V W;rw[af]at T U V W;have X:fc b=false:=by grind[fc]
 rw[kg,vd (by grind)];generalize hq:bu shs p=R at*;obtain⟨q,er⟩:=R;dsimp only at*;refine aB rfl rfl F (jC rfl (fun e=>?_) (fun e=>?_))
 .rw[aO]at e;refine jF rfl ?_;grind
 rw[aE]at e;obtain⟨O,k2,Y,k4,k5,k6⟩:=G e;rw[eE];have s:=uj Y;generalize shp shs p.shape.toNat=sh at*;have P:=(fj O).2.1;refine jX p.shape.toNat rfl (by omega) s rfl ?_;refine jA rfl (AC sh.grain false p.turn) (jC rfl (fun e=>?_) (fun e=>?_))
 .refine jF rfl ?_;grind
 have e':lh sh.grain false p.turn=true:=by grind
 rw[vd (by grind)];clear e;refine gg rfl (aw (S:=fun k:Nat=>([cq shs,cW ps,.ptr 2 0 0,.ptr 3 0 0,ac q,.ptr 5 0 0,ac q,aa q.length,aa k],none::none::some (.row [b.enc] 4)::some (.row [p.enc] 5)::none::some (.row [sh.enc] 5)::nn3,zz9)) (C:=fun k=>k<=q.length/\(q.take k).any (mj b)=false) (m:=fun k=>q.length-k) 0 ⟨zB _,rfl⟩ (by omega) ?_ ?_)
 .exact ah rfl ⟨rfl,rfl,rfl,tr⟩ (by simp only[zA];rfl)
 intro k ⟨Z,g⟩ N A;refine jC rfl (fun e=>?_) (fun e=>?_)
 .rw[ad]at e;have c:k<q.length:=by omega
  have H:=wS (n:=k);have t:=jL (f:=mj b) c g;have u:=jO (f:=mj b) c;rw[<-bc c]at t u;have I:=aZ c;generalize pt q k=v at*;refine jX k rfl rfl I rfl ?_
  repeat' (first
   |refine jP rfl ?_
   |refine gr rfl ?_|refine aq rfl ?_|refine au rfl ?_ ?_<;>intro _
   |refine ak rfl ?_|refine aj rfl ?_|refine an rfl ?_ ?_<;>intro _
   |refine aL rfl ?_ ?_<;>intro _
   |refine fI rfl ?_)
  .rename_i r;rw[ad]at r;refine bo (jF rfl ?_);simp_all[mj]
  .rename_i r w;rw[ad]at w;refine bo (jF rfl ?_);simp_all[mj]
  .rename_i r w B;rw[ad]at B;refine bo (jF rfl ?_);simp_all[mj]
  .rename_i r w B J;rw[ad]at J;refine bo (jF rfl ?_);simp_all[mj]
  rename_i r w B J;rw[af]at r w B J;exact bo (A (k+1) ⟨c,t (by grind[mj])⟩ (by omega) (ah rfl ⟨rfl,rfl,rfl,tr⟩ (by rw[H];rfl)))
 rw[af]at e;obtain rfl:k=q.length:=by omega
 rw[vd (by grind)];refine gE rfl ?_
 repeat' (first
  |refine jP rfl ?_
  |refine gr rfl ?_|refine aq rfl ?_|refine au rfl ?_ ?_<;>intro _
  |refine ak rfl ?_|refine aj rfl ?_|refine an rfl ?_ ?_<;>intro _
  |refine aL rfl ?_ ?_<;>intro _
  |refine fI rfl ?_
  |refine aB rfl rfl (Xz b.rep sh.anchor p) ?_)
 grind
 all_goals
  rw[vd (by simp_all)];refine gg rfl ?_;rw[zA];refine aw (S:=fun k:Nat=>([cq shs,ac q,cW ps,aa ps.length,aa k],none::nn4,zz5)) (C:=fun k=>k<=ps.length/\orF ((ps.take k).map (qt a shs q))=0) (m:=fun k=>ps.length-k) 0 ⟨zB _,rfl⟩ (by omega) ?_ ?_
  .exact ah rfl tr rfl
  clear g;intro k ⟨Z,g⟩ N A;refine jC rfl (fun e=>?_) (fun e=>?_)
  .rw[ad]at e;have c:k<ps.length:=by omega
   have H:=wS (n:=k);have h:=qg (f:=qt a shs q) c g;have x:=uk (f:=qt a shs q) c g;rw[<-kC c]at h x;have i:=nW c;generalize pu2 ps k=o at*;have hE:qt a shs q o=if(bu shs o).2≠0 then(bu shs o).2 else if rY (a (bu shs o).1) (a q)=1 then 14 else 0:=rfl
   have K:=mL shs o;have y:=A6 (shs:=shs) (p:=o);generalize qt a shs q o=E at*;generalize bu shs o=R2 at*;obtain⟨z,L⟩:=R2;dsimp only at*;refine jX k rfl rfl i rfl (jA rfl K (jC rfl (fun j=>?_) (fun j=>?_)))
   .rw[aO]at j;have d:E=L:=by rw[hE,ve (by simpa using j)]
    refine gE rfl (jF rfl ?_);rw[h,d,vd (by simpa using j)]
   rw[aE]at j;rw[vd (by simpa using j)]at hE;have t2:=lS z (y j).1;have t1:=lS q O;refine jA rfl (Wa z q (a z) (a q) t2.1 t1.1 t2.2 t1.2) (gg rfl (aj (by show D.bool (nqb 0 0)=_;rw[aE.2 rfl]) ?_));refine jC rfl (fun M=>?_) (fun M=>?_)
   .have l:rY (a z) (a q)=1:=by simpa using M
    have d:E=14:=by rw[hE,ve l]
    refine gE rfl (jF rfl ?_);rw[h,d,vd (by decide)]
   have l:¬rY (a z) (a q)=1:=by simpa using M
   have d:E=0:=by rw[hE,vd l]
   exact gE rfl (A (k+1) ⟨c,x d⟩ (by omega) (ah rfl tr (by rw[H];rfl)))
  rw[af]at e;obtain rfl:k=ps.length:=by omega
  rw[zH]at g;clear A;refine gE rfl (jF rfl ?_);rw[g]
end Go.F
