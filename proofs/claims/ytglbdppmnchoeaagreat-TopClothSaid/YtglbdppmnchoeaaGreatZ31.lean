/- Part 31. -/
import Derived.Test.YtglbdppmnchoeaaGreatZ30
set_option linter.all false
namespace Go.F
theorem Ei (f:Spot->Int)(P:Spot->Prop):∀{l:Rp},(∃x∈l,P x)->∃r∈l,P r/\∀x∈l,P x->f x<=f r
 |[],h=>by grind
 |a::l,h=>by
  by_cases b:∃x∈l,P x
  .obtain⟨r,hr,pr,c⟩:=Ei f P b;grind
  grind
theorem Iu:∀{a:Spot} {l:Rp} {z x:Spot},x∈l++[z]->∃f∈aX a l z,f.2=x
 |a,[],z,x,h=>by
  simp_all[aX]
 |a,b::l,z,x,h=>by
  rcases zP.1 h with rfl|h
  simp[aX]
  .obtain⟨f,c,e⟩:=Iu (a:=b) h;grind[aX]
theorem XK {E:List Ed}{z:Int}{h:Rat}(hE:∀f∈E,¬crE f z):upW E z h=0:=by
 induction E with
 |nil=>rfl
 |cons e E a=>
  simp_all[C9,upE]
theorem Ci {v a b:Spot}(c:su v<su a)(d:su v<su b):0<ay v a b↔tE (v,a)<tE (v,b):=by
 have h:=EX (e:=(v,a)) (by grind) b;have j:sgE (v,a)=1:=ve c;have f:=yK (a:=(b.y:Rat)-v.y) (qS (a:=su v) (b:=su b) (by omega));have g:tE (v,b)=((b.y:Rat)-v.y)/((su b:Rat)-su v):=rfl;rw[<-g]at f
 have i:(0:Rat)<(su b:Rat)-su v:=by
  have:(su v:Rat)<su b:=by exact_mod_cast d
  grind
 have k:=uX (y:=tE (v,b)-tE (v,a)) i;grind[yQ]
theorem h_at (v a:Spot):hE (v,a) (su v)=2*(v.y:Rat)+tE (v,a):=by
 unfold hE yE;grind
section
variable {u v w:Spot}{m:Rp}
structure Lft (u v w:Spot)(m:Rp):Prop where
 cp:CP (u::v::w::m)
 min:∀x∈u::v::w::m,su v<=su x
theorem Lft.lt (h:Lft u v w m){x:Spot}(b:x∈u::v::w::m)(a:x≠v):su v<su x:=by
 have h1:=h.min x b;have:su v≠su x:=fun e=>a (AF (h.cp.sp.ok.ok _ b) (h.cp.sp.ok.ok _ (by simp)) e.symm);omega
theorem Lft.nd (h:Lft u v w m):v≠u/\v≠w/\u≠w/\u∉m/\v∉m/\w∉m:=by
 have:=h.cp.sp.nd;grind
theorem Lft.up (h:Lft u v w m)(y:Rat):upW (aH (u::v::w::m)) (su v) y=(if y<2*(v.y:Rat)+tE (v,u)then-1 else 0)+(if y<2*(v.y:Rat)+tE (v,w)then 1 else 0):=by
 have n:=h.nd;have d:=h.lt (x:=u) (by simp) (Ne.symm n.1);have a:=h.lt (x:=w) (by simp) (Ne.symm n.2.1);rw[gd,C9,C9,XK]
 .have c1:crE (u,v) (su v):=.inr ⟨xL _,d⟩;have c2:crE (v,w) (su v):=.inl ⟨xL _,a⟩;have i:sgE (u,v)= -1:=vd (by grind);have j:sgE (v,w)=1:=ve a
  have l:hE (u,v) (su v)=2*(v.y:Rat)+tE (v,u):=by
   grind[ZH,h_at,hE]
  simp_all[h_at,upE]
 intro f e c
 have b:∀x,endE x f->su v<su x:=by
  intro x g;rcases uu e g with rfl|k|rfl
  omega
  .exact h.lt (by grind) (by grind)
  omega
 have o:=b f.1 (.inl rfl);have p:=b f.2 (.inr rfl);grind[crE]
theorem Lft.slope (h:Lft u v w m):tE (v,w)<tE (v,u):=by
 have n:=h.nd;have a:=h.lt (x:=w) (by simp) (Ne.symm n.2.1);have c2:crE (v,w) (su v):=.inl ⟨xL _,a⟩;have b:sgE (v,w)=1:=ve a;have k:=h.cp.wc.at_ (v,w) (by simp[gd]) (su v) c2;rw[h.up,b,h_at,vd (show¬((1:Int)= -1)by decide)]at k;grind
theorem Lft.pos (h:Lft u v w m):0<ay u v w:=by
 have n:=h.nd;rw[<-ux];exact(Ci (h.lt (x:=w) (by simp) (Ne.symm n.2.1)) (h.lt (x:=u) (by simp) (Ne.symm n.1))).2 h.slope
theorem Lft.chord (h:Lft u v w m){r:Spot}(hr:r∈m)(h1:0<ay u v r)(b:0<ay v w r):crE (v,r) (su v)/\upW (aH (u::v::w::m)) (su v) (hE (v,r) (su v))= -1:=by
 have n:=h.nd;have c:=h.lt (x:=u) (by simp) (Ne.symm n.1);have d:=h.lt (x:=w) (by simp) (Ne.symm n.2.1);have a:=h.lt (x:=r) (by grind) (by grind);refine⟨.inl ⟨xL _,a⟩,?_⟩;rw[<-ux]at h1;have e:=(Ci a c).1 h1;have f:=(Ci d a).1 b;rw[h.up,h_at,ve (by grind),vd (by grind)];rfl
end
theorem Cho.symm {a q:Spot}{l1 l2:Rp}(h:Cho a l1 q l2):Cho q l2 a l1 where
 sp:=SepP.rot (A:=a::l1) (B:=q::l2) h.sp
 n1:=h.n2
 n2:=h.n1
 ch:=fun f b=>(h.ch f (kI (A:=a::l1) (B:=q::l2) |>.2 b)).rev
theorem Cho.ear2 {a q:Spot}{l1 l2:Rp}(h:Cho a l1 q l2)(b:WcP (a::(l1++q::l2)) 1)(c:WcP (a::(l1++[q])) 1)(d:WcP (q::(l2++[a])) 1)
 {u v w:Spot} (e:Ear (q::(l2++[a])) u v w) (va:v≠a) (f:v≠q):Ear (a::(l1++q::l2)) u v w:=
 Ear.rot (A:=q::l2) (B:=a::l1) (h.symm.ear (CP.rot (A:=a::l1) (B:=q::l2) ⟨h.sp,b⟩).wc d c e f va)
theorem Ear.mem {p:Rp}{u v w:Spot}(h:Ear p u v w):v∈p:=by
 cases p with
 |nil=>cases h.e1
 |cons a l=>exact(lM (show(v,w)∈aX a l a from h.e2)).1
def Two (p:Rp):Prop:=∀e∈aH p,∃u v w,Ear p u v w/\v≠e.1/\v≠e.2
theorem SC {u v w:Spot}{m:Rp}(J:∀p:Rp,p.length<(u::v::w::m).length->CP p->Two p)(h:Lft u v w m):Two (u::v::w::m):=by
 have n:=h.nd;have y:=h.pos;intro e K;by_cases P:m=[]
 .subst P;have i:(u,v)∈aH [u,v,w]:=zO ..;have j:(v,w)∈aH [u,v,w]:=zG _ (zO ..);have Q:(w,u)∈aH [u,v,w]:=zG _ (zG _ (zO ..));have d:e∈[(u,v),(v,w),(w,u)]:=K;simp at d;rcases d with rfl|rfl|rfl
  .exact⟨v,w,u,⟨j,Q,by grind[ux],fun x I _=>by grind⟩,Ne.symm n.2.2.1,Ne.symm n.2.1⟩
  .exact⟨w,u,v,⟨Q,i,by grind[ux],fun x I _=>by grind⟩,Ne.symm n.1,n.2.2.1⟩
  exact⟨u,v,w,⟨i,j,y,fun x I _=>by grind⟩,n.2.1,n.1⟩
 have C:Cor u v w m:=⟨h.cp.sp,P,y⟩;by_cases g:∀x∈m,¬inT u v w x
 .have q:=C.free g;obtain⟨T,R⟩:=C.parts h.cp.wc g;by_cases L:endE v e
  .obtain⟨D,z,w',s,E,F⟩:=J (w::(m++[u])) (by simp) ⟨q.sp2,R⟩ (u,w) sj;refine⟨D,z,w',q.ear2 h.cp.wc T R s E F,?_⟩
   have G:z≠v:=by
    have:=s.mem;grind
   have d:e∈(u,v)::(v,w)::aX w m u:=K;rcases zP.1 d with rfl|d
   grind;rcases zP.1 d with rfl|d
   grind
   .exact absurd L (C.path d).2.2.2
  refine⟨u,v,w,⟨by simp[gd],by simp[gd],y,?_⟩,fun k=>L (.inl k),fun k=>L (.inr k)⟩;grind
 have M:∃x∈m,inT u v w x:=xi fun k=>g fun x I hi=>k ⟨x,I,hi⟩;obtain⟨r,hr,hi,H⟩:=Ei (ay w u) (inT u v w) M;obtain⟨U,V⟩:=C.strict hr hi;have N:=C.far hr hi H;obtain⟨W,uz⟩:=h.chord hr U V;obtain⟨i,j,rfl⟩:=List.append_of_mem hr;have X:(v::w::(i++r::j))++[u]=v::((w::i)++r::(j++[u])):=by simp
 have o:=CP.rot (A:=[u]) (B:=v::w::(i++r::j)) h.cp
 have S:∀f,f∈aH (v::((w::i)++r::(j++[u])))↔f∈aH (u::v::w::(i++r::j)):=by
  grind[kI]
 have O:upW (aH (v::((w::i)++r::(j++[u])))) (su v) (hE (v,r) (su v))= -1:=by
  grind[C7]
 rw[X]at o;have q:Cho v (w::i) r (j++[u]):=⟨o.sp,by simp,by simp,fun f Y=>N f ((S f).1 Y)⟩
 have t:∀{a b c},Ear (v::((w::i)++r::(j++[u]))) a b c->Ear (u::v::w::(i++r::j)) a b c:=by
  grind[Ear.rot]
 have l:WcP (v::((w::i)++[r])) 1/\WcP (r::((j++[u])++[v])) 1:=by
  rcases q.sp1.wc with a|a<;>rcases q.sp2.wc with b|b
  grind
  all_goals
   have k:=q.at_chord a.1 b.1 W;rw[O]at k;omega
 have nd:=o.sp.nd;have d:=(S e).2 K;rw[AR,za]at d;rcases d with d|d
 .obtain⟨D,z,w',s,E,F⟩:=J (r::((j++[u])++[v])) (by grind) ⟨q.sp2,l.2⟩ (v,r) sj;refine⟨D,z,w',t (q.ear2 o.wc l.1 l.2 s E F),?_⟩;have G:=s.mem;have Z:=(lM d).1;have q2:=(lM d).2;grind
 obtain⟨D,z,w',s,E,F⟩:=J (v::((w::i)++[r])) (by simp) ⟨q.sp1,l.1⟩ (r,v) sj;refine⟨D,z,w',t (q.ear o.wc l.1 l.2 s F E),?_⟩;have G:=s.mem;have Z:=(lM d).1;have q2:=(lM d).2;grind
theorem Vf:∀(n:Nat) (p:Rp),p.length=n->CP p->Two p:=by
 intro n
 induction n using Nat.strongRecOn with
 |_ n q=>
  intro p H h;have j:∃x∈p,True:=⟨vx p 0,De h.sp.pos 0,tr⟩;obtain⟨v,r,_,k⟩:=Ei (fun x=> -su x) (fun _=>True) j
  have d:(∃u,(u,v)∈aH p)/\∃w,(v,w)∈aH p:=by
   cases p with
   |nil=>grind
   |cons a l=>
    obtain⟨f,s,e⟩:=qU (z:=a) r;obtain⟨f',t,e'⟩:=Iu (a:=a) (l:=l) (z:=a) (x:=v) (by grind);exact⟨⟨f'.1,by rw[<-e'];trivial⟩,⟨f.2,by rw[<-e];exact s⟩⟩
  obtain⟨⟨u,h1⟩,⟨w,y⟩⟩:=d;obtain⟨A,B,m,rfl,e⟩:=MM h.sp.nd h.sp.n3 h1 y;have i:=h.rot;rw[e]at i;have I:(u::v::w::m).length=n:=by grind
  have C:Lft u v w m:=⟨i,fun x J=>by
   grind⟩
  have D:=SC (fun p E h=>q p.length (by omega) p rfl h) C;intro g K;obtain⟨a,b,c,o,F,G⟩:=D g (by grind[kI]);rw[<-e]at o;exact⟨a,b,c,o.rot,F,G⟩
theorem UG {p:Rp}(a:CP p):∃u v w,Ear p u v w:=by
 have b:∃e,e∈aH p:=⟨_,(fF a.sp.pos).2 ⟨0,a.sp.pos,rfl⟩⟩;obtain⟨e,c⟩:=b;obtain⟨u,v,w,h,_⟩:=Vf _ p rfl a e c;grind
theorem L1 {p:Rp} [OkP p](b:Ap p)(h3:3<=p.length){i j:Nat}(c:j<p.length)(q:i<j):sepE (vx p i,vx p (i+1)) (vx p j,vx p (j+1)):=by
 have hi:i<p.length:=by omega
 intro s t k l t0 t1 d;by_cases r:j=i+1
 .subst r;have a:=(b i hi).1.2;have e:pt p ((i+2)%p.length)=vx p (i+1+1):=rfl;have e':pt p ((i+1)%p.length)=vx p (i+1):=rfl;rw[<-gt hi,e,e']at a;obtain⟨m,n⟩:=Kw a.1 a.2 k l t0 t1 d;exact⟨vx p (i+1),.inr rfl,.inl rfl,by rw[m,iK]⟩
 by_cases f:(j+1)%p.length=i
 .have h:j+1=p.length:=by
   rcases y6 (j+1) p.length with g|g
   grind[Nat.mod_eq_of_lt];omega
  rw[h,vC]at f;subst f;have a:=(b j c).1.2;have o:vx p (j+1)=vx p 0:=by grind[vx,Nat.mod_self,Nat.zero_mod]
  have e:pt p ((j+2)%p.length)=vx p (0+1):=by
   unfold vx;rw[show j+2=p.length+1 by omega,Nat.add_mod_left]
  have e':pt p ((j+1)%p.length)=vx p (j+1):=rfl;rw[<-gt c,e,e',o]at a;rw[o]at d⊢;obtain⟨m,n⟩:=Kw a.1 a.2 t0 t1 k l d.symm;exact⟨vx p 0,.inl rfl,.inr rfl,by rw[n,fY]⟩
 have a:=(b i hi).2 j c (by omega) f;have u:=(b i hi).1.1;have v:=(b j c).1.1;grind[vx,gt,Q2]
theorem Wk {p:Rp}(h:bE p=0):SepP p:=by
 obtain⟨h3,_,b,_,k⟩:=fj h;have hr:=(Wb h3).1 k;refine⟨h3,b,?_,?_⟩
 .rw[List.Nodup,xh];intro i j hi c d e;exact k.1 j c ((tG c).2 ⟨i,d,by grind[bc]⟩)
 intro e l f m n;have a:0<p.length:=by omega
 obtain⟨i,hi,rfl⟩:=(fF a).1 l;obtain⟨j,c,rfl⟩:=(fF a).1 m;rcases wt i j with g|rfl|g
 grind[L1];grind
 .exact(L1 hr h3 hi g).symm
def dE (e:Ed):Int:=e.1.x*e.2.y-e.1.y*e.2.x
theorem AS {p:Rp}(h:p≠[]):dJ p=((aH p).map dE).sum:=by
 rw[Ew h,yv]
 have:∀k,k<=p.length->iT p k=((List.range k).map (dE∘fun j=>(vx p j,vx p (j+1)))).sum:=by
  intro k
  induction k with
  |zero=>intro _;rfl
  |succ k a=>
   grind[List.range_succ,iT,vx,gt,dE]
 exact this _ (zD _)
theorem CP.area {p:Rp}(h:CP p):0<dJ p:=by
 rcases h.sp.wc with k|k
 omega
 .have d:(vx p 0,vx p (0+1))∈aH p:=(fF h.sp.pos).2 ⟨0,h.sp.pos,rfl⟩;have c:=h.sp.sune 0;have e:=mK (g:=(vx p 0,vx p (0+1))) c;have a:=h.wc.at_ _ d _ e.1;have b:=k.1.at_ _ d _ e.1;omega
theorem CP.of {p:Rp}(h:SepP p)(a:0<dJ p):CP p:=by
 rcases h.wc with k|k
 .exact⟨h,k.1⟩
 omega
theorem Kn (u v w:Spot)(m:Rp):dJ (u::v::w::m)=dJ (u::w::m)+ay u v w:=by
 rw[AS (by simp),AS (by simp)];show(dE (u,v)+(dE (v,w)+((aX w m u).map dE).sum))=(dE (u,w)+((aX w m u).map dE).sum)+_;grind[dE,ay]
theorem GD {u v w:Spot}{m:Rp}(h:SepP (u::v::w::m))(U:m≠[])(h0:ay u v w=0):SepP (u::w::m):=by
 have V:=h.nd
 have n:v≠u/\v≠w/\u≠w/\u∉m/\v∉m/\w∉m:=by
  grind
 have D:∀e∈aH (u::v::w::m),∀f∈aH (u::v::w::m),e≠f->sepE e f:=h.sep;have L:(u,v)∈aH (u::v::w::m):=by simp[gd]
 have M:(v,w)∈aH (u::v::w::m):=by simp[gd]
 have o:sepE (u,v) (v,w):=D _ L _ M (by grind)
 have E:∃r:Rat,0<r/\r<1/\qp v=onP (qp u) (qp w) r:=by
  obtain⟨r,hr⟩:=DX (c:=v) n.2.2.1 (by grind[ay])
  have C:r≠0:=by
   grind[fY,mz]
  have N:r≠1:=by
   grind[iK,mz]
  refine⟨r,?_,?_,hr⟩
  .rcases iy r 0 with g|g
   .
    have b:1-r≠0:=by grind
    have F:=yK (a:= -r) b;generalize-r/(1-r)=s at*;have p:=gK (show 0<=1-r by grind) b F (by grind);have J:=gK (r:=1-s) (a:=1) (show 0<=1-r by grind) b (by grind) (by decide)
    obtain⟨x,j,l,z⟩:=o 0 s (by decide) (by decide) p (by grind) (by
     grind[onP,eW,ew,bA])
    simp only[fY]at z;obtain rfl:=mz z;rcases l with k|k
    grind;grind
   grind
  rcases iy 1 r with g|g
  .have F:=yK (a:=1) C;generalize 1/r=s at*;have p:=gK (show 0<=r by grind) C F (by decide);have J:=gK (r:=1-s) (a:=r-1) (show 0<=r by grind) C (by grind) (by grind)
   obtain⟨x,j,l,z⟩:=o s 1 p (by grind) (by decide) (by decide) (by
    grind[onP,eW,ew,bA])
   have O:qp x=qp w:=by
    grind[onP,eW,ew,bA,qp]
   obtain rfl:=mz O;rcases j with k|k
   grind;grind
  grind
 obtain⟨r,C,N,hr⟩:=E
 have A:∀f∈aX w m u,sepE f (u,v)/\sepE f (v,w)/\¬endE v f:=by
  grind[gd,endE,uu]
 have d:∀f∈aX w m u,sepE (u,w) f:=by
  intro f G s t p J t0 t1 K;obtain⟨P,Q,W⟩:=A f G;have X:(v.x:Rat)=u.x+((w.x:Rat)-u.x) *r:=zX QP.x hr;have Y:(v.y:Rat)=u.y+((w.y:Rat)-u.y) *r:=zX QP.y hr;rcases iy s r with g|g
  .have b:r≠0:=by grind
   have H:=yK (a:=s) b;generalize s/r=q at*;have I:=gK (show 0<=r by grind) b H p;have R:=gK (r:=1-q) (a:=r-s) (show 0<=r by grind) b (by grind) (by grind)
   have S:onP (qp u) (qp w) s=onP (qp u) (qp v) q:=by
    grind[onP,ew,bA,qp]
   obtain⟨x,j,l,z⟩:=P t q t0 t1 I (by grind) (by grind);rcases l with k|k
   .exact⟨x,.inl k,j,by grind⟩
   grind
  have b:1-r≠0:=by grind
  have H:=yK (a:=s-r) b;generalize (s-r)/(1-r)=q at*;have I:=gK (show 0<=1-r by grind) b H (by grind);have R:=gK (r:=1-q) (a:=1-s) (show 0<=1-r by grind) b (by grind) (by grind)
  have S:onP (qp u) (qp w) s=onP (qp v) (qp w) q:=by
   grind[onP,eW,ew,bA]
  obtain⟨x,j,l,z⟩:=Q t q t0 t1 I (by grind) (by grind);rcases l with k|k
  grind
  .exact⟨x,.inr k,j,by grind⟩
 refine⟨?_,Bq h.ok (by grind),?_,?_⟩
 .cases m with
  |nil=>grind
  |cons x m=>simp
 grind
 .intro e K f G T;have i:e∈(u,w)::aX w m u:=K;have B:f∈(u,w)::aX w m u:=G;rcases zP.1 i with rfl|i
  grind
  .rcases zP.1 B with rfl|B
   .exact(d e i).symm
   grind[gd]
theorem Pp {u v w:Spot}{m:Rp}(h:CP (u::v::w::m))(a:m≠[])(h0:ay u v w=0):CP (u::w::m):=by
 refine .of (GD h.sp a h0) ?_;have:=h.area;grind[Kn]
theorem qP8 {L R:Rp}{v:Spot}(h:4<=(L++v::R).length):∃u w m,R++L=w::(m++[u])/\m≠[]:=by
 have a:3<=(R++L).length:=by grind
 cases b:R++L with
 |nil=>grind
 |cons w k=>
  rcases xU k with rfl|⟨m,u,rfl⟩
  grind;grind
theorem cut_at {L R:Rp}{u v w:Spot}{m:Rp}(h:CP (L++v::R))(e:R++L=w::(m++[u]))(d:m≠[])
 (f:ay u v w=0\/(0<ay u v w/\∀x∈m,¬inT u v w x)):CP (L++R):=by
 have b:CP (u::v::w::m):=by
  grind[CP.rot]
 have h3:CP (w::(m++[u])):=by
  rcases f with h0|⟨g,c⟩
  grind[CP.rot,Pp]
  .have a:Cor u v w m:=⟨b.sp,d,g⟩;exact⟨(a.free c).sp2,(a.parts b.wc c).2⟩
 rw[<-e]at h3;exact h3.rot
def vxp (p:Rp)(i:Nat):Spot:=vx p (i+p.length-1)
theorem TK {L R:Rp}{u v w:Spot}{m:Rp}(e:R++L=w::(m++[u])):vxp (L++v::R) L.length=u/\vx (L++v::R) L.length=v/\vx (L++v::R) (L.length+1)=w:=by
 have b:(L++v::R).length=L.length+R.length+1:=by grind
 have a:∀k,k<m.length+2->(R++L)[k]?=(w::(m++[u]))[k]?:=fun k _=>by rw[e]
 refine⟨?_,?_,?_⟩
 .unfold vxp vx pt;rw[b];have g:=a (m.length+1) (by omega);by_cases c:L.length=0
  simp_all
  .rw[show(L.length+(L.length+R.length+1)-1)%(L.length+R.length+1)=L.length-1 by rw[show L.length+(L.length+R.length+1)-1=L.length-1+(L.length+R.length+1)by omega,wx,zU (by omega)]];grind
 simp[gt,pt]
 .unfold vx pt;have g:=a 0 (by omega);by_cases d:R.length=0
  simp_all
  .rw[zU (by omega),yT,xX (by omega),show L.length+1-L.length=1 by omega,List.getElem?_cons_succ];grind
theorem XD {p:Rp}{i:Nat}(h:i<p.length):∃L R,p=L++vx p i::R/\L.length=i/\p.eraseIdx i=L++R:=by
 refine⟨p.take i,p.drop (i+1),?_,by grind,by grind⟩;grind[gt,bc,List.drop_eq_getElem_cons,List.take_append_drop]
theorem Nb {p:Rp}(h:CP p)(d:4<=p.length){i:Nat}(hi:i<p.length)
 (a:ay (vxp p i) (vx p i) (vx p (i+1))=0\/(0<ay (vxp p i) (vx p i) (vx p (i+1))/\∀x∈p,inT (vxp p i) (vx p i) (vx p (i+1)) x->x=vxp p i\/x=vx p i\/x=vx p (i+1))):CP (p.eraseIdx i):=by
 obtain⟨L,R,e,f,g⟩:=XD hi;rw[g];generalize vx p i=v at*;subst e;obtain⟨u,w,m,em,j⟩:=qP8 d;obtain⟨b,o,c⟩:=TK (v:=v) em;rw[f]at b c;rw[b,c]at a;refine cut_at h em j ?_;rcases a with a|⟨k,q⟩
 omega
 .refine .inr ⟨k,fun x r hi=>?_⟩
  have l:(w::(m++[u])).Nodup/\v∉w::(m++[u]):=by
   have:=h.sp.nd;grind
  have n:x∈L++v::R:=by
   have:x∈R++L:=by grind
   grind
  grind
theorem Ve {p:Rp}(h:CP p):∃i,i<p.length/\0<ay (vxp p i) (vx p i) (vx p (i+1))/\∀x∈p,inT (vxp p i) (vx p i) (vx p (i+1)) x->x=vxp p i\/x=vx p i\/x=vx p (i+1):=by
 obtain⟨u,v,w,a⟩:=UG h;have c:=h.sp.pos;obtain⟨j,l,e⟩:=(fF c).1 a.e1;obtain⟨i,hi,d⟩:=(fF c).1 a.e2;simp at e d;have f:vx p (j+1)=vx p i:=by grind
 have b:=p9 h.sp.nd c f;rw[zU hi]at b
 have k:vxp p i=u:=by
  rw[e.1];unfold vxp vx;by_cases g:j+1<p.length
  .rw[zU g]at b;rw[<-b,show j+1+p.length-1=j+p.length by omega,wx]
  rw[show j+1=p.length by omega,vC]at b;grind
 refine⟨i,hi,?_⟩;rw[k,<-d.1,<-d.2];exact⟨a.pos,a.free⟩
end Go.F
