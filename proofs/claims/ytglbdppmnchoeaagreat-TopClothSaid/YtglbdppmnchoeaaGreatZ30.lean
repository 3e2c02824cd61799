/- Part 30. -/
import Derived.Test.YtglbdppmnchoeaaGreatZ29
set_option linter.all false
set_option maxHeartbeats 16000000
namespace Go.F
attribute [local irreducible] IntKind.wrap wpM
def pi (a:Rp->Fv)(b:Bed)(shs:List Shp)(ps:List Put2)(i:Nat):Int:=kg a b shs (ps.take i) (pu2 ps i)
def oQ (a:Rp->Fv)(b:Bed)(shs:List Shp)(ps:List Put2):Int:=
 if 60<ps.length then 5 else orF ((List.range ps.length).map (pi a b shs ps))
theorem Zd (a:Rp->Fv)(lS:∀p,bE p=0->PU 74 [ac p]=some (lW (a p))/\TriB (a p))(b:Bed)(shs:List Shp)(ps:List Put2):
 PU 97 [b.enc,cq shs,cW ps]=some (.int .i64 (oQ a b shs ps)):=by
 refine PS rfl (gg rfl ?_);rw[zA];refine an rfl (fun e=>?_) (fun e=>?_)
 .rw[ad]at e;refine jF rfl ?_;rw[oQ,rA]
 rw[af]at e;rw[oQ,eE];refine gg rfl (aw (S:=fun k:Nat=>([cq shs,cW ps,.ptr 2 0 0,cW ps,aa ps.length,aa k],none::none::some (.row [b.enc] 4)::nn3,zz6)) (C:=fun k=>k<=ps.length/\orF ((List.range k).map (pi a b shs ps))=0) (m:=fun k=>ps.length-k) 0 ⟨zB _,rfl⟩ (by omega) ?_ ?_)
 .exact ah rfl ⟨rfl,tr⟩ (by simp only[zA];rfl)
 intro k ⟨t,l⟩ N q;refine jC rfl (fun e=>?_) (fun e=>?_)
 .rw[ad]at e;have g:k<ps.length:=by omega
  have r:=wS (n:=k);have s:=D8 (f:=pi a b shs ps) g l;have h:=Da (f:=pi a b shs ps) l;have i:=nW g;have c:(ps.map Put2.enc).all (fun d=>d.cells.length==5)=true:=dS (f:=Put2.enc) (n:=5) (fun _=>rfl) _;have o:=DC a lS b shs (ps.take k) (pu2 ps k) (by grind);have hE:pi a b shs ps k=kg a b shs (ps.take k) (pu2 ps k):=rfl;rw[show cW (ps.take k)=.lst ((ps.map Put2.enc).take k)by simp[cW]]at o;refine jX k rfl rfl i rfl (gg rfl (nK k rfl c ⟨_,_,rfl,rfl⟩ (by grind) ?_));refine jA rfl o (jC rfl (fun j=>?_) (fun j=>?_))
  .rw[aO]at j;refine gE rfl (jF rfl ?_);grind
  rw[aE]at j;exact gE rfl (q (k+1) ⟨g,h j⟩ (by omega) (ah rfl ⟨rfl,tr⟩ (by rw[r];rfl)))
 rw[af]at e;obtain rfl:k=ps.length:=by omega
 refine gE rfl (jF rfl ?_);rw[l]
def nA (i:Nat)(q:Rp)(c:Int):Nat->Int
 |0=>c
 |k+1=>if(i=0/\k=0)\/nA i q c k<(pt q k).x then(pt q k).x else nA i q c k
def rL (shs:List Shp)(ps:List Put2):Nat->Int
 |0=>0
 |i+1=>nA i (bu shs (pu2 ps i)).1 (rL shs ps i) (bu shs (pu2 ps i)).1.length
def ob (shs:List Shp)(ps:List Put2):Int×Int:=
 if orF (ps.map fun o=>(bu shs o).2)≠0 then(0,orF (ps.map fun o=>(bu shs o).2))else(rL shs ps ps.length,0)
theorem YK (shs:List Shp)(ps:List Put2)(F:ps.length<=1000):PU 56 [cq shs,cW ps]=some (.tup [.int .i64 (ob shs ps).1,.int .i64 (ob shs ps).2]):=by
 refine PS rfl (gg rfl ?_);rw[zA];refine aw (S:=fun k:Nat=>([cq shs,.int .i64 (rL shs ps k),cW ps,aa ps.length,aa k],none::nn4,zz5)) (C:=fun k=>k<=ps.length/\orF ((ps.take k).map fun o=>(bu shs o).2)=0) (m:=fun k=>ps.length-k) 0 ⟨zB _,rfl⟩ (by omega) ?_ ?_;rfl;intro k ⟨G,z⟩ N B;refine jC rfl (fun e=>?_) (fun e=>?_)
 .rw[ad]at e;have a:k<ps.length:=by omega
  have D:=wS (n:=k);have l:=qg (f:=fun o=>(bu shs o).2) a z;have d:=uk (f:=fun o=>(bu shs o).2) a z;rw[<-kC a]at l d;have r:rL shs ps (k+1)=nA k (bu shs (pu2 ps k)).1 (rL shs ps k) (bu shs (pu2 ps k)).1.length:=rfl;have g:=nW a;generalize pu2 ps k=o at*;have s:=mL shs o;have h:=A6 (shs:=shs) (p:=o);generalize bu shs o=R at*;obtain⟨q,H⟩:=R;generalize rL shs ps k=c at*;dsimp only at*;refine jX k rfl rfl g rfl (jA rfl s (jC rfl (fun b=>?_) (fun b=>?_)))
  .rw[aO]at b;refine gE rfl (jF rfl ?_);simp_all[ob]
  rw[aE]at b;dsimp only at b;have A:=(fj (h b).1).2.1;refine gg rfl ?_;rw[zA];refine aw (S:=fun j:Nat=>([cq shs,.int .i64 (nA k q c j),aa k,cW ps,aa ps.length,aa k,ac q,aa q.length,aa j],none::nn8,zz9)) (C:=fun j=>j<=q.length) (m:=fun j=>q.length-j) 0 (zB _) (by omega) ?_ ?_;rfl;intro j I J t;refine jC rfl (fun u=>?_) (fun u=>?_)
  .rw[ad]at u;have i:j<q.length:=by omega
   have E:=wS (n:=j);have w:nA k q c (j+1)=if(k=0/\j=0)\/nA k q c j<(pt q j).x then(pt q j).x else nA k q c j:=rfl
   have y:=aZ i;generalize pt q j=v at*;refine jX j rfl rfl y rfl ?_
   repeat' (first
    |refine jP rfl ?_
    |refine gr rfl ?_|refine aq rfl ?_|refine au rfl ?_ ?_<;>intro _
    |refine ak rfl ?_|refine aj rfl ?_|refine an rfl ?_ ?_<;>intro _
    |refine aL rfl ?_ ?_<;>intro _
    |refine fI rfl ?_)
   all_goals refine bo ?_
   all_goals refine t (j+1) i (by omega) (ah rfl tr ?_)
   all_goals rw[E,w]
   all_goals (try simp only[co,dG,ad,af]at*)
   all_goals first
    |(rw[rA];rfl)
    |(rw[eE];rfl)
  rw[af]at u;obtain rfl:j=q.length:=by omega
  exact gE rfl (gE rfl (B (k+1) ⟨a,d b⟩ (by omega) (ah rfl tr (by rw[D,r];rfl))))
 rw[af]at e;obtain rfl:k=ps.length:=by omega
 refine gE rfl (jF rfl ?_);simp_all[ob]
structure Ending where
 put:Put2
 right:Int
def Ending.enc (e:Ending):D:=.agg [.int .i64 e.put.shape,.bool e.put.turn.flip,.int .i64 e.put.turn.quarter,.int .i64 e.put.at_.x,.int .i64 e.put.at_.y,.int .i64 e.right]
def BO (a b:Ending):Int:=orF [br a.right b.right,br a.put.at_.y b.put.at_.y,br a.put.at_.x b.put.at_.x,br a.put.turn.quarter b.put.turn.quarter]
theorem Vl (a b:Ending):PU 145 [a.enc,b.enc]=some (.int .i64 (BO a b)):=by
 refine PS rfl ?_
 repeat' (first
  |refine jP rfl ?_
  |refine gr rfl ?_|refine aq rfl ?_|refine au rfl ?_ ?_<;>intro _
  |refine ak rfl ?_|refine aj rfl ?_|refine an rfl ?_ ?_<;>intro _
  |refine aL rfl ?_ ?_<;>intro _
  |refine fI rfl ?_
  |refine aB rfl rfl (js _ _) ?_)
 refine gk rfl rfl ⟨⟨by simp,rfl⟩,tr⟩ (Bc [br a.right b.right,br a.put.at_.y b.put.at_.y,br a.put.at_.x b.put.at_.x,br a.put.turn.quarter b.put.turn.quarter] (by simp)) rfl ?_;exact jZ rfl
def uD (p:Rp):Rp:=(List.range p.length).map fun i=>⟨ng (pt p i).x,ng (pt p i).y⟩
theorem Y7 (p:Rp)(f:p.length<=100000):PU 269 [ac p]=some (ac (uD p)):=by
 refine PS rfl (gg rfl ?_);rw[zA];refine eu p.length rfl rfl rfl (by grind[aK]) ?_
 have d:List.replicate p.length (D.agg [D.int IntKind.i64 0,D.int IntKind.i64 0])=(dI ⟨0,0⟩ p.length (fun i=>(⟨ng (pt p i).x,ng (pt p i).y⟩:Spot)) 0).map Spot.enc:=by
  simp[sA,Spot.enc]
 rw[d];refine gg rfl (aw (S:=fun k:Nat=>([.ref 0 0 p.length,ac p,aa p.length,aa k],some (.row ((dI ⟨0,0⟩ p.length (fun i=>(⟨ng (pt p i).x,ng (pt p i).y⟩:Spot)) k).map Spot.enc) 2)::nn3,zz4)) (C:=fun k=>k<=p.length) (m:=fun k=>p.length-k) 0 (zB _) (by omega) ?_ ?_)
 .exact ah rfl ⟨ae am _,tr⟩ (by simp[ac,aa])
 intro k g N e;refine jC rfl (fun b=>?_) (fun b=>?_)
 .rw[ad]at b;have a:k<p.length:=by omega
  have h:=wS (n:=k);have c:=tg ⟨0,0⟩ (fun i=>(⟨ng (pt p i).x,ng (pt p i).y⟩:Spot)) a;refine jX k rfl rfl (aZ a) rfl (gg rfl (aA k rfl rfl rfl rfl rfl a (gp (enc:=Spot.enc) (dI ⟨0,0⟩ p.length (fun i=>(⟨ng (pt p i).x,ng (pt p i).y⟩:Spot)) k) k ⟨ng (pt p k).x,ng (pt p k).y⟩ rfl (by rfl) (zC _) rfl (fun _=>rfl) rfl (zB _) (by grind[kj]) ?_)));exact gE rfl (e (k+1) a (by omega) (ah rfl ⟨ae am _,tr⟩ (by grind[ac,aa])))
 rw[af]at b;obtain rfl:k=p.length:=by omega
 refine gE rfl (gg rfl (cS rfl rfl rfl ⟨bK (by simp[kj]) (bF fh _),tr⟩ ?_));rw[bZ (by simp[kj]),tL];rfl
def tY (r:Rp)(d:Spot)(i:Nat):Bool:=decide (ay (pt r i) (nx r i) d<=0)
def oJ (r:Rp)(d:Spot):Bool:=!(List.range r.length).any (tY r d)&&decide (0<r.length)
theorem Vm {f:Nat->Bool}{k:Nat}(h:(List.range k).any f=false)(a:f k=false):(List.range (k+1)).any f=false:=by
 grind
theorem XI (r:Rp)(d:Spot) [OkP r] [OkS d](hr:r.length<=100000):PU 276 [ac r,d.enc]=some (.bool (oJ r d)):=by
 refine PS rfl (gg rfl ?_);rw[zA];refine aw (S:=fun k:Nat=>([ac r,.ptr 1 0 0,ac r,aa r.length,aa k],none::some (.row [d.enc] 2)::nn3,zz5)) (C:=fun k=>k<=r.length/\(List.range k).any (tY r d)=false) (m:=fun k=>r.length-k) 0 ⟨zB _,rfl⟩ (by omega) ?_ ?_
 .exact ah rfl ⟨rfl,tr⟩ rfl
 intro k ⟨p,i⟩ N o;refine jC rfl (fun e=>?_) (fun e=>?_)
 .rw[ad]at e;have a:k<r.length:=by omega
  have j:=wS (n:=k);have b:(k+1)%r.length<r.length:=zI _ (by omega)
  haveI:OkS (nx r k):=lq
  have g:=Vm (f:=tY r d) i;refine jX k rfl rfl (aZ a) rfl (gg rfl ?_);rw[j,zA];refine dx rfl rfl (by omega) ?_;refine cg ((k+1)%r.length) rfl rfl (by rfl) (aZ b) rfl ?_;refine gg rfl ?_;have l:IntKind.i64.wrap (IntKind.i64.wrap (IntKind.i64.wrap ((nx r k).x-(pt r k).x) *IntKind.i64.wrap (d.y-(pt r k).y))-IntKind.i64.wrap (IntKind.i64.wrap ((nx r k).y-(pt r k).y) *IntKind.i64.wrap (d.x-(pt r k).x)))=ay (pt r k) (nx r k) d:=by simp[cH,ay]
  refine an rfl (fun c=>?_) (fun c=>?_)
  .have h:ay (pt r k) (nx r k) d<=0:=by rw[bk]at c;rw[<-l];exact c
   refine gE rfl (jF rfl ?_);grind[oJ,tY]
  have h:¬ay (pt r k) (nx r k) d<=0:=by rw[aW]at c;rw[<-l];exact yZ.2 c
  exact gE rfl (o (k+1) ⟨a,g (by grind[tY])⟩ (by omega) (ah rfl ⟨rfl,tr⟩ (by rw[j];rfl)))
 rw[af]at e;obtain rfl:k=r.length:=by omega
 refine gE rfl (jF rfl ?_);rw[oJ,i,cw,zA,D.bool.injEq,zN];simp
def jR (rs:Fv)(d:Spot):Bool:=aD d 2097152&&rs.any fun r=>oJ r d
theorem Tp (rs:Fv)(d:Spot)(u:rs.length<=1000000)(hr:∀r∈rs,OkP r/\r.length<=100000):PU 245 [aY rs,d.enc]=some (.bool (jR rs d)):=by
 refine PS rfl ?_
 repeat' (first
  |refine jP rfl ?_
  |refine gr rfl ?_|refine aq rfl ?_|refine au rfl ?_ ?_<;>intro _
  |refine ak rfl ?_|refine aj rfl ?_|refine an rfl ?_ ?_<;>intro _
  |refine aL rfl ?_ ?_<;>intro _
  |refine fI rfl ?_)
 grind[ad,aD,jR];grind[ad,aD,jR];grind[ad,aD,jR];grind[ad,aD,jR];rename_i l o h p;rw[af]at l o h p;have q:aD d 2097152=true:=by grind[aD]
 haveI:OkS d:=⟨by omega,by omega⟩
 rw[jR,q,wG];rw[zA];refine aw (S:=fun k:Nat=>([.ptr 0 0 0,aY rs,aa rs.length,aa k],some (.row [d.enc] 2)::nn3,zz4)) (C:=fun k=>k<=rs.length/\(rs.take k).any (fun r=>oJ r d)=false) (m:=fun k=>rs.length-k) 0 ⟨zB _,rfl⟩ (by omega) ?_ ?_
 .exact ah rfl ⟨rfl,tr⟩ rfl
 intro k ⟨v,i⟩ N s;refine jC rfl (fun e=>?_) (fun e=>?_)
 .rw[ad]at e;have a:k<rs.length:=by omega
  have t:=wS (n:=k);have c:=jL (f:=fun r=>oJ r d) a i;have g:=jO (f:=fun r=>oJ r d) a;have b:=hr _ (zE a);rw[<-fw a]at c g b;have j:=kw a;generalize plg rs k=r at*
  haveI:=b.1
  refine jX k rfl rfl j rfl (jA rfl (XI r d b.2) (jC rfl (fun h=>?_) (fun h=>?_)))
  .refine gE rfl (jF rfl ?_);grind
  exact gE rfl (s (k+1) ⟨a,c h⟩ (by omega) (ah rfl ⟨rfl,tr⟩ (by rw[t];rfl)))
 rw[af]at e;obtain rfl:k=rs.length:=by omega
 rw[zH]at i;refine gE rfl (jF rfl ?_);rw[i]
def mA (a p:Spot):Spot:=⟨IntKind.i64.wrap (a.x+p.x),IntKind.i64.wrap (a.y+p.y)⟩
def nxtS (r:Rep2)(a b:Spot):Spot:=⟨sI (ej r.x) (dK a.x) (dK b.x),sI (ej r.y) (dK a.y) (dK b.y)⟩
def rB (r:Rep2)(s:Shp)(t:Turn)(p:Spot):Spot×Bool:=
 if s.mtch=false then(p,true)
 else if aD s.anchor 1048576=false then(⟨0,0⟩,false)
 else if aD (mA (dm t s.anchor) p) 1048576=false then(⟨0,0⟩,false)
 else(⟨IntKind.i64.wrap ((nxtS r (mA (dm t s.anchor) p) ⟨0,0⟩).x-(dm t s.anchor).x),IntKind.i64.wrap ((nxtS r (mA (dm t s.anchor) p) ⟨0,0⟩).y-(dm t s.anchor).y)⟩,true)
theorem F6 (r:Rep2)(s:Shp)(t:Turn)(p:Spot):PU 189 [r.enc,s.enc,t.enc,p.enc]=some (.tup [(rB r s t p).1.enc,.bool (rB r s t p).2]):=by
 have h1:=NV s.anchor;have c:=NV (mA (dm t s.anchor) p);have h3:PU 220 [r.enc,(mA (dm t s.anchor) p).enc,Spot.enc ⟨0,0⟩]=some (nxtS r (mA (dm t s.anchor) p) ⟨0,0⟩).enc:=Sa r _ ⟨0,0⟩;refine PS rfl (jC rfl (fun e=>?_) (fun e=>?_))
 .have e':s.mtch=false:=by grind
  refine jF rfl ?_;rw[rB,ve e'];rfl
 have e':¬s.mtch=false:=by grind
 rw[rB,vd e'];refine jA rfl h1 (jC rfl (fun e=>?_) (fun e=>?_))
 .have a:aD s.anchor 1048576=false:=by grind
  refine jF rfl ?_;rw[ve a];rfl
 have a:¬aD s.anchor 1048576=false:=by grind
 rw[vd a];refine jA rfl (oz t s.anchor) (jA rfl c (jC rfl (fun e=>?_) (fun e=>?_)))
 .have b:aD (mA (dm t s.anchor) p) 1048576=false:=by grind
  refine jF rfl ?_;rw[ve b];rfl
 have b:¬aD (mA (dm t s.anchor) p) 1048576=false:=by grind
 rw[vd b];exact jA rfl h3 (jZ rfl)
def jE (b:Bed)(shs:List Shp)(ps:List Put2)(i:Int)(t:Turn):Rp×Fv×Int:=
 if fc b=true then([],[],3)
 else if(bu shs ⟨i,t,⟨0,0⟩⟩).2≠0 then([],[],(bu shs ⟨i,t,⟨0,0⟩⟩).2)
 else if orF (ps.map fun o=>(bu shs o).2)≠0 then([],[],orF (ps.map fun o=>(bu shs o).2))
 else((bu shs ⟨i,t,⟨0,0⟩⟩).1,ps.map fun o=>(bu shs o).1,0)
def Fq (r:Rp×Fv×Int):D:=.tup [ac r.1,aY r.2.1,.int .i64 r.2.2]
theorem Vt (p:Rp):plain 4 (ac p)=true:=rfl
theorem Ra (p:Rp):dat 4 (ac p)=true:=rfl
theorem Qp (b:Bed)(shs:List Shp)(ps:List Put2)(i:Int)(t:Turn)(B:ps.length<=1000):
 PU 139 [b.enc,cq shs,cW ps,.int .i64 i,t.enc]=some (Fq (jE b shs ps i t)):=by
 have l:PU 59 [cq shs,Put2.enc ⟨i,t,⟨0,0⟩⟩]=_:=mL shs ⟨i,t,⟨0,0⟩⟩;refine PS rfl ?_
 repeat' (first
  |refine jP rfl ?_
  |refine gr rfl ?_|refine aq rfl ?_|refine au rfl ?_ ?_<;>intro _
  |refine ak rfl ?_|refine aj rfl ?_|refine an rfl ?_ ?_<;>intro _
  |refine aL rfl ?_ ?_<;>intro _
  |refine fI rfl ?_)
 .rename_i e;rw[ad]at e;have:fc b=true:=by grind[fc]
  rw[jE,ve this];rfl
 .rename_i j e;rw[ad]at e;have:fc b=true:=by grind[fc]
  rw[jE,ve this];rfl
 .rename_i j p e;rw[ad]at e;have:fc b=true:=by grind[fc]
  rw[jE,ve this];rfl
 .rename_i j p c e;rw[ad]at e;have:fc b=true:=by grind[fc]
  rw[jE,ve this];rfl
 rename_i j p c v;rw[af]at j p c v;have w:fc b=false:=by grind[fc]
 rw[jE,vd (by grind)];generalize bu shs ⟨i,t,⟨0,0⟩⟩=R at*;obtain⟨q,D⟩:=R;refine aB rfl rfl l (jC rfl (fun e=>?_) (fun e=>?_))
 .rw[aO]at e;refine jF rfl ?_;rw[rA];rfl
 rw[aE]at e;rw[eE];refine gg rfl ?_;rw[zA];refine aw (S:=fun k:Nat=>([cq shs,ac q,.ref 2 0 k,cW ps,aa ps.length,aa k],none::none::some (.row (((ps.take k).map fun o=>(bu shs o).1).map ac) 1)::nn3,zz6)) (C:=fun k=>k<=ps.length/\orF ((ps.take k).map fun o=>(bu shs o).2)=0) (m:=fun k=>ps.length-k) 0 ⟨zB _,rfl⟩ (by omega) ?_ ?_
 .exact ah rfl ⟨rfl,tr⟩ rfl
 intro k ⟨E,r⟩ N x;refine jC rfl (fun e=>?_) (fun e=>?_)
 .rw[ad]at e;have a:k<ps.length:=by omega
  have y:=wS (n:=k);have d:=qg (f:=fun o=>(bu shs o).2) a r;have g:=uk (f:=fun o=>(bu shs o).2) a r;have s:(ps.take (k+1)).map (fun o=>(bu shs o).1)=(ps.take k).map (fun o=>(bu shs o).1)++[(bu shs (pu2 ps k)).1]:=by grind[List.take_succ_eq_append_getElem,kC]
  rw[<-kC a]at d g;have h:=nW a;generalize pu2 ps k=o at*;have u:=mL shs o;generalize bu shs o=z at*;obtain⟨F,A⟩:=z;refine jX k rfl rfl h rfl (jA rfl u (jC rfl (fun c=>?_) (fun c=>?_)))
  .rw[aO]at c;refine gE rfl (jF rfl ?_);rw[vd c]at d;rw[d,ve c];rfl
  rw[aE]at c;refine gg rfl (bI rfl rfl rfl rfl rfl rfl (by grind) (zB _) (by grind[aK]) ?_);refine gE rfl (x (k+1) ⟨a,g c⟩ (by omega) (ah rfl ⟨?_,tr⟩ ?_))
  .rw[zY,ae Vt];rfl
  rw[y,s,zb];rfl
 rw[af]at e;obtain rfl:k=ps.length:=by omega
 rw[zH]at r⊢;rw[eE];refine gE rfl (gg rfl (cS rfl rfl rfl ⟨bK (by simp) (bF Ra _),tr⟩ ?_));rw[bZ (by simp)];rfl
def cmpL:Rp->Rp->Int
 |[],[]=>0
 |[],_::_=> -1
 |_::_,[]=>1
 |x::a,y::b=>if cQ x y≠0 then cQ x y else cmpL a b
theorem Pm (a b:Rp)(o:a.length<=1000000)(p:b.length<=1000000):PU 272 [ac a,ac b,.fn 246 [] []]=some (.int .i64 (cmpL a b)):=by
 refine PS rfl (gg rfl ?_);rw[zA];refine aw (S:=fun k:Nat=>([ac a,ac b,.fn 246 [] [],ac a,aa a.length,aa k],none::nn5,zz6)) (C:=fun k=>k<=a.length/\k<=b.length/\cmpL a b=cmpL (a.drop k) (b.drop k)) (m:=fun k=>a.length-k) 0 ⟨zB _,zB _,rfl⟩ (by omega) ?_ ?_;rfl;intro k ⟨q,i,f⟩ N j;refine jC rfl (fun e=>?_) (fun e=>?_)
 .rw[ad]at e;have c:k<a.length:=by omega
  have l:=wS (n:=k);rw[zz c,<-bc c]at f;refine jX k rfl rfl (aZ c) rfl (gg rfl ?_);rw[zA];refine an rfl (fun g=>?_) (fun g=>?_)
  .rw[bk]at g;refine gE rfl (jF rfl ?_);rw[f,List.drop_eq_nil_of_le (show b.length<=k by omega)];rfl
  rw[aW]at g;have d:k<b.length:=by omega
  rw[zz d,<-bc d,cmpL]at f;refine jX k rfl rfl (aZ d) rfl (gg rfl ?_)
  first|refine ES rfl rfl ?_|refine Zu rfl rfl ?_
  refine aB rfl rfl (uV (pt a k) (pt b k)) (jC rfl (fun h=>?_) (fun h=>?_))
  .rw[aO]at h;refine gE rfl (jF rfl ?_);grind
  rw[aE]at h;rw[eE]at f;exact gE rfl (j (k+1) ⟨c,d,f⟩ (by omega) (ah rfl tr (by rw[l];rfl)))
 rw[af]at e;obtain rfl:k=a.length:=by omega
 rw[xA]at f;refine gE rfl (gg rfl ?_);rw[zA,zA];refine an rfl (fun g=>?_) (fun g=>?_)
 .rw[ad]at g;refine jF rfl ?_;rw[f,zz (show a.length<b.length by omega)];rfl
 rw[af]at g;refine jF rfl ?_;rw[f,List.drop_eq_nil_of_le (by omega)];rfl
theorem KP (t:Turn):plain 4 t.enc=true:=rfl
theorem PK (t:Turn):dat 4 t.enc=true:=rfl
def lL (g:Int)(m:Bool)(k:Nat):List Turn:=((List.range k).map fun(q:Nat)=>(⟨m,(q:Int)⟩:Turn)).filter (lh g m)
theorem Sl (g:Int)(m:Bool)(k:Nat):lL g m (k+1)=lL g m k++if lh g m ⟨m,k⟩=true then [⟨m,k⟩]else []:=by
 simp[lL,xo,vP]
theorem Mr (g:Int)(m:Bool)(k:Nat):(lL g m k).length<=k:=by
 grind[lL]
theorem All_PU (g:Int)(m:Bool):PU 140 [.int .i64 g,.bool m]=some (.lst ((lL g m 4).map Turn.enc)):=by
 refine PS rfl (gg rfl (aw (S:=fun k:Nat=>([.int .i64 g,.bool m,.ref 2 0 (lL g m k).length,aa k],[none,none,some (.row ((lL g m k).map Turn.enc) 2),none],zz4)) (C:=fun k=>k<=4) (m:=fun k=>4-k) 0 (zB _) (by omega) ?_ ?_))
 .exact ah rfl ⟨rfl,tr⟩ rfl
 intro k j N c;refine jC rfl (fun e=>?_) (fun e=>?_)
 .rw[ad]at e;have b:k<4:=by omega
  have d:=wS (n:=k);have a:=Sl g m k;have h:=Mr g m k;have i:PU 18 [.int .i64 g,.bool m,Turn.enc ⟨m,k⟩]=_:=AC g m ⟨m,k⟩;refine jA rfl i (jC rfl (fun f=>?_) (fun f=>?_))
  .rw[ve f]at a;refine gg rfl (bI rfl rfl rfl rfl rfl rfl (by simp) (zB _) (by grind[aK]) ?_);refine gE rfl (c (k+1) b (by omega) (ah rfl ⟨?_,tr⟩ ?_))
   .rw[zY,ae KP];rfl
   rw[d,a,zb,zL];rfl
  rw[vd (by grind),yI]at a;exact gE rfl (c (k+1) b (by omega) (ah rfl ⟨ae KP _,tr⟩ (by rw[d,a];rfl)))
 rw[af]at e;obtain rfl:k=4:=by omega
 refine gE rfl (gg rfl (cS rfl rfl rfl ⟨bK (by simp) (bF PK _),tr⟩ ?_));simp[bZ]
def bools (l:List Bool):D:=.lst (l.map D.bool)
def rG (l:List Bool)(b:Bool):Int:=match l.findIdx? (fun x=>x==b)with
 |some i=>(i:Int)
 |none=> -1
theorem Xl (l:List Bool)(b:Bool)(i:l.length<=1000000):PU 146 [bools l,.bool b]=some (.int .i64 (rG l b)):=by
 refine PS rfl (gg rfl ?_);rw[zA];refine aw (S:=fun k:Nat=>([bools l,.bool b,aa l.length,aa k],none::nn3,zz4)) (C:=fun k=>k<=l.length/\∀j (c:j<l.length),j<k->(l[j]==b)=false) (m:=fun k=>l.length-k) 0 ⟨zB _,fun j c h=>by omega⟩ (by omega) ?_ ?_;rfl;intro k ⟨o,p⟩ N d;refine jC rfl (fun e=>?_) (fun e=>?_)
 .rw[ad]at e;have a:k<l.length:=by omega
  have f:=wS (n:=k);refine jX k rfl rfl (eP a) rfl (jC rfl (fun g=>?_) (fun g=>?_))
  .refine gE rfl (jF rfl ?_)
   have:l.findIdx? (fun x=>x==b)=some k:=by
    grind[List.findIdx?_eq_some_iff_getElem]
   grind[rG]
  refine gE rfl (d (k+1) ⟨a,fun j c h=>?_⟩ (by omega) (ah rfl tr (by rw[f];rfl)));grind
 rw[af]at e;refine gE rfl (jF rfl ?_);grind[List.mem_iff_getElem,rG]
theorem Tv (l:List Bool)(b:Bool)(a:l.length<=1000000):PU 96 [bools l,.bool b]=some (.bool (decide (0<=rG l b))):=by
 refine PS rfl (jA rfl (Xl l b a) (jF rfl ?_));rw[ca]
theorem O7 {a b:Rp}(h1:a.length=b.length)(c:∀i,i<a.length->pt a i=pt b i):a=b:=by
 grind[List.ext_getElem,bc]
theorem kQ {u v:Spot}{b:Bool}(h:(!(eqb u.x v.x&&(eqb u.y v.y&&true)))=b):b=decide (u≠v):=by
 subst h;rw[cC,cC];by_cases h:u=v
 grind
 .cases u;cases v;grind
theorem PF (a b:Rp)(q:a.length<=1000000):PU 275 [ac a,ac b]=some (.bool (decide (a=b))):=by
 refine PS rfl (gg rfl ?_);rw[zA,zA];refine an rfl (fun e=>?_) (fun e=>?_)
 .rw[aO]at e;refine jF rfl ?_;rw[yS (fun h=>e (by rw[h]))]
 rw[aE]at e;refine gg rfl (aw (S:=fun k:Nat=>([ac a,ac b,aa a.length,aa k],none::nn3,zz4)) (C:=fun k=>k<=a.length/\∀i,i<k->pt a i=pt b i) (m:=fun k=>a.length-k) 0 ⟨zB _,fun i hi=>by omega⟩ (by omega) ?_ ?_)
 .exact ah rfl tr (by simp only[zA];rfl)
 intro k ⟨r,s⟩ N g;refine jC rfl (fun e=>?_) (fun e=>?_)
 .rw[ad]at e;have c:k<a.length:=by omega
  have j:=wS (n:=k);have l:=aZ c;have o:=aZ (p:=b) (i:=k) (by omega);generalize t:pt a k=u at*;generalize w:pt b k=v at*;refine jX k rfl rfl l rfl (jX k rfl rfl o rfl (jC rfl (fun d=>?_) (fun d=>?_)))
  .have:=kQ d;have f:u≠v:=by grind
   refine gE rfl (jF rfl ?_);rw[yS (fun h=>f (by grind))]
  have:=kQ d;refine gE rfl (g (k+1) ⟨c,fun i hi=>?_⟩ (by omega) (ah rfl tr (by rw[j];rfl)));grind
 rw[af]at e;refine gE rfl (jF rfl ?_);grind[O7]
theorem HG (p:Rp):PU 54 [ac p]=some (.int .i64 (max (eL p) (ng (eL p)))):=by
 exact PS rfl (jA rfl (H4 p) (jZ rfl))
def keyD3 (p:Plc):D:=.agg [.int .i64 p.garment,.int .i64 p.use,.int .i64 p.copy]
theorem Mv (p:Plc):PU 95 [p.enc]=some (keyD3 p):=by
 exact PS rfl (jZ rfl)
def mirT:Turn:=⟨true,0⟩
def ga (s:Sty)(size:Int)(p:Plc):Shp×Int:=
 if(fQ s size p.use).2≠0 then(⟨[],0,false,⟨0,0⟩⟩,(fQ s size p.use).2)
 else if(lU s size p.use).2≠0 then(⟨[],0,false,⟨0,0⟩⟩,(lU s size p.use).2)
 else(⟨if p.flip=true then dj mirT (fQ s size p.use).1 else(fQ s size p.use).1,(eM s p.use).grain,(eM s p.use).match_,if p.flip=true then dm mirT (lU s size p.use).1 else(lU s size p.use).1⟩,0)
theorem Gy {s:Sty}{size use:Int}(h:(fQ s size use).2=0):cK (eo s size use).1=0/\fx s=0/\¬Zj s size use:=by
 grind[fQ,Ht]
theorem Di (s:Sty)(size:Int)(p:Plc)(f:StyB s)(b:(fQ s size p.use).1.length<=100000):PU 92 [s.enc,.int .i64 size,p.enc]=some (.tup [(ga s size p).1.enc,.int .i64 (ga s size p).2]):=by
 have j:=Cut_PU s size p.use f;have k:=Ub s size p.use f;have d:=Gy (s:=s) (size:=size) (use:=p.use);unfold ga;generalize fQ s size p.use=c at*;generalize lU s size p.use=a at*;obtain⟨m,v⟩:=c;obtain⟨n,w⟩:=a;refine PS rfl (jA rfl j (jC rfl (fun e=>?_) (fun e=>?_)))
 .rw[aO]at e;refine jF rfl ?_;rw[rA];rfl
 rw[aE]at e;rw[eE];obtain⟨_,o,x⟩:=d e;have q:=lX o;have r:0<=p.use/\p.use.toNat<s.uses.length:=by grind[Zj]
 have t:=q.use (us s.uses p.use.toNat) (by grind[qz]);have g:=s7 r.2;have h:=qF (l:=s.pieces) (i:=(us s.uses p.use.toNat).piece.toNat) (by omega);unfold eM;generalize us s.uses p.use.toNat=u at*;refine jA rfl k (jC rfl (fun e=>?_) (fun e=>?_))
 .rw[aO]at e;refine jF rfl ?_;rw[rA];rfl
 rw[aE]at e;rw[eE];refine jC rfl (fun e=>?_) (fun e=>?_)
 .rw[ve e,ve e];refine jA rfl (Mt mirT m b) (jA rfl (oz mirT n) (jX p.use.toNat rfl (by omega) g rfl ?_));refine jX u.piece.toNat rfl (by omega) h rfl ?_;exact jZ rfl
 rw[vd (by grind),vd (by grind)];refine jX p.use.toNat rfl (by omega) g rfl ?_;refine jX u.piece.toNat rfl (by omega) h rfl ?_;exact jZ rfl
set_option maxRecDepth 100000 in
theorem Qc:PU 57 [.lst []]=some (.lst []):=uK (n:=1) (by rfl)
set_option maxRecDepth 100000 in
theorem Tq:PU 62 [.lst []]=some (.lst []):=uK (n:=1) (by rfl)
theorem Hu (l:List Int)(a:l.length<=100000):PU 57 [ints l]=some (ints l):=by
 cases l with
 |nil=>exact Qc
 |cons x l=>
  refine PS rfl (gg rfl (aj rfl (gg rfl (Av rfl rfl rfl (dS (f:=aa) (n:=1) (fun _=>rfl) (x::l)) rfl (zB _) (by grind[aK]) ?_))));refine gg rfl (cS rfl rfl rfl ⟨bK (by simp) (by simp[Db]),tr⟩ ?_);rw[bZ (by simp)];rfl
theorem Wo (l:List Plc)(a:l.length<=100000):PU 62 [dA l]=some (dA l):=by
 cases l with
 |nil=>exact Tq
 |cons x l=>
  refine PS rfl (gg rfl (aj rfl (gg rfl (Av rfl rfl rfl (dS (f:=Plc.enc) (n:=7) (fun _=>rfl) (x::l)) rfl (zB _) (by grind[aK]) ?_))));refine gg rfl (cS rfl rfl rfl ⟨bK (by simp) (by simp[B8]),tr⟩ ?_);rw[bZ (by simp)];rfl
def en (l:List Ending)(i:Nat):Ending:=l.getD i ⟨⟨0,⟨false,0⟩,⟨0,0⟩⟩,0⟩
theorem en_enc {l:List Ending}{i:Nat}(h:i<l.length):(l.map Ending.enc)[i]?=some (en l i).enc:=by grind[en]
def ij (l:List Ending):Nat->Ending
 |0=>⟨⟨0,⟨false,0⟩,⟨0,0⟩⟩,0⟩
 |k+1=>if k=0\/BO (en l k) (ij l k)<0 then en l k else ij l k
theorem Kr (l:List Ending)(h:l.length<=1000):PU 144 [.lst (l.map Ending.enc),.fn 145 [] []]=some (.tup [(ij l l.length).enc,.bool (decide (0<l.length))]):=by
 refine PS rfl (gg rfl ?_);rw[zA];refine aw (S:=fun k:Nat=>([.lst (l.map Ending.enc),.fn 145 [] [],.ptr 2 0 0,.ptr 3 0 0,.lst (l.map Ending.enc),aa l.length,aa k],none::none::some (.row [Ending.enc ⟨⟨0,⟨false,0⟩,⟨0,0⟩⟩,0⟩] 6)::some (.row [(ij l k).enc] 6)::nn3,zz7)) (C:=fun k=>k<=l.length) (m:=fun k=>l.length-k) 0 (zB _) (by omega) ?_ ?_
 .exact ah rfl ⟨rfl,rfl,tr⟩ rfl
 intro k i N f;refine jC rfl (fun e=>?_) (fun e=>?_)
 .rw[ad]at e;have a:k<l.length:=by omega
  have g:=wS (n:=k);have d:ij l (k+1)=if k=0\/BO (en l k) (ij l k)<0 then en l k else ij l k:=rfl
  have c:=en_enc a;generalize en l k=x at*;generalize ij l k=b at*;refine jX k rfl rfl c rfl ?_
  repeat' (first
   |refine jP rfl ?_
   |refine gr rfl ?_|refine aq rfl ?_|refine au rfl ?_ ?_<;>intro _
   |refine ak rfl ?_|refine aj rfl ?_|refine an rfl ?_ ?_<;>intro _
   |refine aL rfl ?_ ?_<;>intro _
   |refine fI rfl ?_
   |(show wpM _ _ _ (Fr.ops _ _ (KOper.mk _ _ none _ (KOp.callW _ _)::_)::_) Ex.normal _ _ _ _ _;(refine ES rfl rfl ?_))
   |refine aB rfl rfl (Vl x b) ?_)
  all_goals refine bo ?_
  all_goals refine f (k+1) a (by omega) (ah rfl ⟨rfl,rfl,tr⟩ ?_)
  all_goals rw[g,d]
  all_goals (try simp only[co,dG,ad,af]at*)
  all_goals first
   |(rw[rA];rfl)
   |(rw[eE];rfl)
 rw[af]at e;obtain rfl:k=l.length:=by omega
 refine gE rfl (jF rfl ?_);rw[zA,cw];simp;rfl
end Go.F
namespace Go.F
attribute [local irreducible] IntKind.wrap
section
variable {T:Tab}{sh:Shr}{nx0:Nat}{s:List Fr}{t:ai}{h:ab}{z:Frz}{nx:Nat}{q:Ex->ai->ab->Frz->Nat->Prop}
theorem PR {α:Type}(d f:Nat)(u:nx0+f=d)(S:α->Kept)(O:α->ab->Frz->Prop)(C:α->Prop)(m:α->Nat){live:Live}{c:K}
 (a:α) (o:C a) (v:m a<2^62) (w:d<=nx) (h0:bz d live t h z nx fun h z kp=>kp=S a/\O a (iX live d h) z)
 (hr:∀a,C a->∀(B:ab) (D:Frz),O a B D->∀N:ai->ab->Frz->Nat->Prop,(∀g {t:ai} {h:ab} {z:Frz} {nx:Nat},C g->m g<m a->d<=nx->(bz d live t h z nx fun h z kp=>kp=S g/\O g (iX live d h) z)->N t h z nx)->
   wpM T sh nx0 [.code c] .normal (mkT live (S a).1) (mkF d B none (S a).2.1 d) (mkF d D 0 (S a).2.2 d) (d+live.length) fun j t h z nx=>
    match j with
    |.normal=>N t h z nx
    |.exit i=>wpM T sh nx0 s (.exit i) t h z nx q
    |.ret=>wpM T sh nx0 s .ret t h z nx q):
 wpM T sh nx0 (.code (.ploop f live c)::s) .normal t h z nx q:=by
 subst u;simp only[wpM,wp]at hr⊢;unfold ZK
 have key:∀(n:Nat) (a:α),C a->m a<=n->∀(b:Nat),n<b->∀(t:ai) (h:ab) (z:Frz) (nx:Nat),nx0+f<=nx->(bz (nx0+f) live t h z nx fun h z kp=>kp=S a/\O a (iX live (nx0+f) h) z)->
  lp (nx0+f) live (fun t h z nx q=>wp T sh nx0 c t h z nx q) b t h z nx fun j t h z nx=>wpM T sh nx0 s j t h z nx q:=by
  intro n
  induction n with
  |zero=>
   intro a o v b E t h z nx l e;obtain⟨b,rfl⟩:∃k,b=k+1:=⟨b-1,by omega⟩;simp only[lp,zw l];obtain⟨h1,F,kp,x,y⟩:=my e;refine y _ ?_;obtain⟨rfl,A⟩:=x;exact hr a o _ _ A (fun t h z nx=>lp (nx0+f) live (fun t h z nx q=>wp T sh nx0 c t h z nx q) b t h z nx fun j t h z nx=>wpM T sh nx0 s j t h z nx q) (fun g _ _ _ _ _ p _ _=>absurd p (by omega))
  |succ n G=>
   intro a o v b E t h z nx l e;obtain⟨b,rfl⟩:∃k,b=k+1:=⟨b-1,by omega⟩;simp only[lp,zw l];obtain⟨h1,F,kp,x,y⟩:=my e;refine y _ ?_;obtain⟨rfl,A⟩:=x
   exact hr a o _ _ A (fun t h z nx=>lp (nx0+f) live (fun t h z nx q=>wp T sh nx0 c t h z nx q) b t h z nx fun j t h z nx=>wpM T sh nx0 s j t h z nx q)
    (fun g t h z nx h1 p r e=>G g h1 (by omega) b (by omega) t h z nx r e)
 exact key (m a) a o (zD _) vU v t h z nx w h0
end
end Go.F
namespace Go.F
attribute [local irreducible] IntKind.wrap wpM
def LeftH (L:Rp)(m:Nat)(h:ab):Prop:=∃h0:ab,h=upd (upd h0 26 (some (.row (L.map Spot.enc) 2))) 27 (some (.row [.ref 26 0 m] 1))
theorem LeftH.of {L:Rp}{m:Nat}{h:ab}(h1:h 26=some (.row (L.map Spot.enc) 2))(a:h 27=some (.row [.ref 26 0 m] 1)):LeftH L m h:=
 ⟨h,by simp_all[dY]⟩
def bg (m i:Nat):Nat:=(i+m-1)%m
def bf (m i:Nat):Nat:=(i+1)%m
def uG (L:Rp)(m i:Nat):D:=.tup [(pt L (bg m i)).enc,(pt L i).enc,(pt L (bf m i)).enc]
def cel (s:Spot):Option Blk:=some (.row [s.enc] 2)
def z3 (z:Frz)(n:Nat):Frz:=upd (upd (upd z n 0) (n+1) 0) (n+2) 0
def h3 (h:ab)(n:Nat)(a b c:Spot):ab:=upd (upd (upd (upd (upd (upd h n (cel ⟨0,0⟩)) (n+1) (cel ⟨0,0⟩)) (n+2) (cel ⟨0,0⟩)) n (cel a)) (n+1) (cel b)) (n+2) (cel c)
theorem Qr (L:Rp)(m i:Nat)(hi:i<m)(g:m<=L.length)(j:m<=1000){h:ab}{z:Frz}(a:LeftH L m h){K:D->ab->Frz->Nat->Prop}
 (b:K (uG L m i) (h3 h 85 (pt L (bg m i)) (pt L i) (pt L (bf m i))) (z3 z 85) (85+29)):
 wpM TT (shr TT 3) 85 [.code nI.1.code] .normal (enter [aa i,.ptr 27 0 0]) h z 85 (bB nI.1 K):=by
 obtain⟨h0,rfl⟩:=a;have c:=wS (n:=i)
 have d:IntKind.i64.wrap (IntKind.i64.wrap ((i:Int)+(m:Int))-1)=((i+m-1:Nat):Int):=by
  grind[wrap64]
 have e:bg m i<m:=zI _ (by omega);have f:bf m i<m:=zI _ (by omega);have k:=aZ (p:=L) (i:=bg m i) (by omega);have l:=aZ (p:=L) (i:=i) (by omega);have o:=aZ (p:=L) (i:=bf m i) (by omega);refine gg rfl (aQ rfl rfl rfl rfl (gg rfl (aQ rfl rfl rfl rfl (gg rfl ?_))));rw[d];refine dx rfl rfl (by omega) ?_;refine aA (bg m i) rfl rfl rfl rfl rfl e (aQ rfl rfl (by rw[zC];omega) rfl ?_);refine aQ rfl rfl rfl rfl (gg rfl (aA i rfl rfl rfl rfl rfl hi (aQ rfl rfl (by rw[zC];omega) rfl ?_)));refine aQ rfl rfl rfl rfl (gg rfl ?_);rw[c];refine dx rfl rfl (by omega) ?_;refine aA (bf m i) rfl rfl rfl rfl rfl f (aQ rfl rfl (by rw[zC];omega) rfl ?_);exact gg rfl (bd rfl rfl b)
theorem X9 (L:Rp)(m i:Nat)(hi:i<m)(g:m<=L.length)(j:m<=1000){h:ab}{z:Frz}(a:LeftH L m h){K:D->ab->Frz->Nat->Prop}
 (b:K (uG L m i) (h3 h 388 (pt L (bg m i)) (pt L i) (pt L (bf m i))) (z3 z 388) (388+29)):
 wpM TT (shr TT 3) 388 [.code nI.1.code] .normal (enter [aa i,.ptr 27 0 0]) h z 388 (bB nI.1 K):=by
 obtain⟨h0,rfl⟩:=a;have c:=wS (n:=i)
 have d:IntKind.i64.wrap (IntKind.i64.wrap ((i:Int)+(m:Int))-1)=((i+m-1:Nat):Int):=by
  grind[wrap64]
 have e:bg m i<m:=zI _ (by omega);have f:bf m i<m:=zI _ (by omega);have k:=aZ (p:=L) (i:=bg m i) (by omega);have l:=aZ (p:=L) (i:=i) (by omega);have o:=aZ (p:=L) (i:=bf m i) (by omega);refine gg rfl (aQ rfl rfl rfl rfl (gg rfl (aQ rfl rfl rfl rfl (gg rfl ?_))));rw[d];refine dx rfl rfl (by omega) ?_;refine aA (bg m i) rfl rfl rfl rfl rfl e (aQ rfl rfl (by rw[zC];omega) rfl ?_);refine aQ rfl rfl rfl rfl (gg rfl (aA i rfl rfl rfl rfl rfl hi (aQ rfl rfl (by rw[zC];omega) rfl ?_)));refine aQ rfl rfl rfl rfl (gg rfl ?_);rw[c];refine dx rfl rfl (by omega) ?_;refine aA (bf m i) rfl rfl rfl rfl rfl f (aQ rfl rfl (by rw[zC];omega) rfl ?_);exact gg rfl (bd rfl rfl b)
theorem Ay (L:Rp)(m i:Nat)(hi:i<m)(g:m<=L.length)(j:m<=1000){h:ab}{z:Frz}(a:LeftH L m h){K:D->ab->Frz->Nat->Prop}
 (b:K (uG L m i) (h3 h 644 (pt L (bg m i)) (pt L i) (pt L (bf m i))) (z3 z 644) (644+29)):
 wpM TT (shr TT 5) 644 [.code nI.1.code] .normal (enter [aa i,.ptr 27 0 0]) h z 644 (bB nI.1 K):=by
 obtain⟨h0,rfl⟩:=a;have c:=wS (n:=i)
 have d:IntKind.i64.wrap (IntKind.i64.wrap ((i:Int)+(m:Int))-1)=((i+m-1:Nat):Int):=by
  grind[wrap64]
 have e:bg m i<m:=zI _ (by omega);have f:bf m i<m:=zI _ (by omega);have k:=aZ (p:=L) (i:=bg m i) (by omega);have l:=aZ (p:=L) (i:=i) (by omega);have o:=aZ (p:=L) (i:=bf m i) (by omega);refine gg rfl (aQ rfl rfl rfl rfl (gg rfl (aQ rfl rfl rfl rfl (gg rfl ?_))));rw[d];refine dx rfl rfl (by omega) ?_;refine aA (bg m i) rfl rfl rfl rfl rfl e (aQ rfl rfl (by rw[zC];omega) rfl ?_);refine aQ rfl rfl rfl rfl (gg rfl (aA i rfl rfl rfl rfl rfl hi (aQ rfl rfl (by rw[zC];omega) rfl ?_)));refine aQ rfl rfl rfl rfl (gg rfl ?_);rw[c];refine dx rfl rfl (by omega) ?_;refine aA (bf m i) rfl rfl rfl rfl rfl f (aQ rfl rfl (by rw[zC];omega) rfl ?_);exact gg rfl (bd rfl rfl b)
def Fc:Option Blk:=some (.row [.fn 112 [] [.ptr 27 0 0]] 1)
def CutH (L:Rp)(m:Nat)(R:Hm)(h:ab):Prop:=∃h0:ab,h=upd (upd (upd (upd h0 26 (some (.row (L.map Spot.enc) 2))) 27 (some (.row [.ref 26 0 m] 1))) 33 Fc) 44 (some (.row R 1))
theorem CutH.of {L:Rp}{m:Nat}{R:Hm}{h:ab}(h1:h 26=some (.row (L.map Spot.enc) 2))(a:h 27=some (.row [.ref 26 0 m] 1))(h3:h 33=Fc)(b:h 44=some (.row R 1)):CutH L m R h:=
 ⟨h,by simp_all[dY]⟩
def CutZ (z:Frz):Prop:=∃a:Frz,z=upd (upd (upd (upd a 26 0) 27 0) 33 0) 44 0
theorem CutZ.of {z:Frz}(h1:z 26=0)(a:z 27=0)(h3:z 33=0)(b:z 44=0):CutZ z:=⟨z,by simp_all[dY]⟩
def crI (L:Rp)(m i:Nat):Int:=ay (pt L (bg m i)) (pt L i) (pt L (bf m i))
theorem Qn (L:Rp)(m i:Nat)(hi:i<m)(a:m<=L.length)(b:m<=1000)(R:Hm)(e:OkP L){h:ab}{z:Frz}(c:CutH L m R h){K:D->ab->Frz->Nat->Prop}
 (d:K (.bool (decide (crI L m i=0))) (h3 h 85 (pt L (bg m i)) (pt L i) (pt L (bf m i))) (z3 z 85) 114):
 wpM TT (shr TT 4) 75 [.code A4.1.code] .normal (enter [aa i,.ptr 33 0 0]) h z 75 (bB A4.1 K):=by
 obtain⟨h0,rfl⟩:=c;refine gg rfl (aQ rfl rfl rfl rfl (gg rfl (m7 rfl rfl rfl rfl (Qr L m i hi a b (LeftH.of rfl rfl) ?_))));unfold crI at d;unfold uG
 haveI:OkS (pt L (bg m i)):=lq
 haveI:OkS (pt L i):=lq
 haveI:OkS (pt L (bf m i)):=lq
 generalize pt L (bg m i)=A at*;generalize pt L i=B at*;generalize pt L (bf m i)=C at*;refine jA rfl (BM A B C) (gg rfl (bd rfl rfl ?_));grind[cC]
theorem O2 {nx0:Nat}{h:ab}{id n:Nat}{es:Hm}(a:h id=some (.row es n))(c:es.all (plain 4)=true):cz nx0 h id=some (.row es n):=by
 unfold cz;rw[a,lB (b:=some (.row es n)) c];rfl
def fE (A B C q:Spot):Bool:=decide (q≠A)&&(decide (q≠B)&&(decide (q≠C)&&decide (0<=oA A B C q)))
def dy (L:Rp)(m i:Nat):Bool:=decide (0<crI L m i)&&!(L.take m).any (fE (pt L (bg m i)) (pt L i) (pt L (bf m i)))
theorem tX {L:Rp}{m:Nat}{R:Hm}(a:R.all (plain 4)=true){h:ab}(b:CutH L m R h):CutH L m R (cz 362 h):=by
 obtain⟨h0,rfl⟩:=b;refine CutH.of ?_ rfl rfl ?_
 .exact O2 rfl (ae am _)
 exact O2 rfl a
theorem XX (L:Rp)(m i:Nat)(hi:i<m)(M:m<=L.length)(P:m<=1000)(Z:∀s∈L,aD s 1048576=true)(R:Hm)(f:R.all (plain 4)=true){h:ab}{z:Frz}(Q:CutH L m R h)(u:CutZ z){F:D->ab->Frz->Nat->Prop}
 (d:∀h' z' b,CutH L m R h'->CutZ z'->(b=514\/b=545\/b=548)->F (.bool (dy L m i)) h' z' b):
 wpM TT (shr TT 4) 362 [.code Ai.1.code] .normal (enter [aa i,.ptr 33 0 0,.ptr 27 0 0]) h z 362 (bB Ai.1 F):=by
 obtain⟨h0,rfl⟩:=Q;obtain⟨z0,rfl⟩:=u;refine gg rfl (aQ rfl rfl rfl rfl (gg rfl (m7 rfl rfl rfl rfl (X9 L m i hi M P (LeftH.of rfl rfl) ?_))));have p1:bg m i<m:=zI _ (by omega);have p2:bf m i<m:=zI _ (by omega)
 have ok:∀{s:Spot},aD s 1048576=true->OkS s:=fun h=>by
  have:=(q2R (n:=1048576)).1 h;exact⟨by omega,by omega⟩
 have c:∀j,j<L.length->aD (pt L j) 1048576=true:=fun j hj=>by grind[bc]
 have G:=c (bg m i) (by omega);have H:=c i (by omega);have I:=c (bf m i) (by omega);have J:dy L m i=(decide (0<ay (pt L (bg m i)) (pt L i) (pt L (bf m i)))&&!(L.take m).any (fE (pt L (bg m i)) (pt L i) (pt L (bf m i)))):=rfl;rw[J]at d;clear J;unfold uG;generalize pt L (bg m i)=A at*;generalize pt L i=B at*;generalize pt L (bf m i)=C at*
 haveI:=ok G;haveI:=ok H;haveI:=ok I
 refine jA rfl (BM A B C) (jC rfl (fun e=>?_) (fun e=>?_))
 .rw[bk]at e;refine gg rfl (bd rfl rfl ?_);rw[yS (by omega)]at d;exact d _ _ _ (CutH.of rfl rfl rfl rfl) (CutZ.of rfl rfl rfl rfl) (.inl rfl)
 rw[aW]at e;rw[xD e,wG]at d;refine gg rfl (aQ rfl rfl rfl rfl (gg rfl (bO (S:=fun k:Nat=>([.ptr 362 0 0,.ptr 363 0 0,.ptr 364 0 0,.ref 26 0 m,aa m,aa k],cel A::cel B::cel C::nn3,zz6)) (O:=fun _ v K=>CutH L m R v/\CutZ K) (C:=fun k=>k<=m/\(L.take k).any (fE A B C)=false) (m:=fun k=>m-k) 0 ⟨zB _,rfl⟩ (by omega) ?_ ?_)))
 .refine ba rfl ⟨rfl,rfl,rfl,ae am _,tr⟩ ⟨rfl,tX f (CutH.of rfl rfl rfl rfl),CutZ.of rfl rfl rfl rfl⟩
 intro k ⟨T,v⟩ hp K U N p;obtain⟨⟨h1,rfl⟩,z1,rfl⟩:=U;refine jC rfl (fun w=>?_) (fun w=>?_)
 .rw[ad]at w;have a:k<m:=by omega
  have g:k<L.length:=by omega
  have r:=wS (n:=k);have V:=c k g;have eq:=aZ g
  have W:(L.take (k+1)).any (fE A B C)=fE A B C (pt L k):=by
   grind[List.take_succ_eq_append_getElem,bc]
  have l:fE A B C (pt L k)=true->(L.take m).any (fE A B C)=true:=fun hq=>by
   grind[List.mem_take_iff_getElem]
  generalize pt L k=q at*;refine gg rfl (aA k rfl rfl rfl rfl rfl a (gg rfl (aQ rfl rfl (by rw[zC];omega) rfl ?_)))
  repeat' (first
   |refine jP rfl ?_
   |refine gr rfl ?_|refine aq rfl ?_|refine au rfl ?_ ?_<;>intro _
   |refine ak rfl ?_|refine aj rfl ?_|refine an rfl ?_ ?_<;>intro _
   |refine aL rfl ?_ ?_<;>intro _
   |refine fI rfl ?_)
  .rename_i o t x;have X:=kQ o;have b2:=kQ t;have Y:=kQ x;have y:fE A B C q=decide (0<=oA A B C q):=by grind[fE]
   refine gk rfl rfl ⟨⟨by simp,rfl⟩,tr⟩ (TX A B C q G H I V) rfl (jC rfl (fun E=>?_) (fun E=>?_))
   .rw[bk]at E;refine gE rfl (gg rfl (bd rfl rfl ?_));rw[l (by grind)]at d;exact d _ _ _ (CutH.of rfl rfl rfl rfl) (CutZ.of rfl rfl rfl rfl) (.inr (.inl rfl))
   rw[aW]at E;exact gE rfl (p (k+1) ⟨a,by grind⟩ (by omega) (ba rfl ⟨rfl,rfl,rfl,ae am _,tr⟩ ⟨by rw[r];rfl,tX f (CutH.of rfl rfl rfl rfl),CutZ.of rfl rfl rfl rfl⟩))
  .rename_i o t x;have Y:=kQ x;have y:fE A B C q=false:=by grind[fE]
   exact bo (p (k+1) ⟨a,by grind⟩ (by omega) (ba rfl ⟨rfl,rfl,rfl,ae am _,tr⟩ ⟨by rw[r];rfl,tX f (CutH.of rfl rfl rfl rfl),CutZ.of rfl rfl rfl rfl⟩))
  .rename_i o t;have b2:=kQ t;have y:fE A B C q=false:=by grind[fE]
   exact bo (p (k+1) ⟨a,by grind⟩ (by omega) (ba rfl ⟨rfl,rfl,rfl,ae am _,tr⟩ ⟨by rw[r];rfl,tX f (CutH.of rfl rfl rfl rfl),CutZ.of rfl rfl rfl rfl⟩))
  rename_i o;have X:=kQ o;have y:fE A B C q=false:=by grind[fE]
  exact bo (p (k+1) ⟨a,by grind⟩ (by omega) (ba rfl ⟨rfl,rfl,rfl,ae am _,tr⟩ ⟨by rw[r];rfl,tX f (CutH.of rfl rfl rfl rfl),CutZ.of rfl rfl rfl rfl⟩))
 rw[af]at w;obtain rfl:k=m:=by omega
 rw[v]at d;exact gE rfl (gg rfl (bd rfl rfl (d _ _ _ (CutH.of rfl rfl rfl rfl) (CutZ.of rfl rfl rfl rfl) (.inr (.inr rfl)))))
end Go.F
namespace Go.F
section
variable {t:ai}{h:ab}{z:Frz}{nx:Nat}
def fu (nx0:Nat)(ids:Ke)(t:ai):Live->Hm
 |[]=>[]
 |x::rest=>(match dH x.1 with|true=> .bad|false=>bN nx0 ids (t x.1))::fu nx0 ids t rest
theorem AD (nx0:Nat)(ids:Ke)(t:ai):∀live,pA nx0 ids t live=mkT live (fu nx0 ids t live)
 |[]=>rfl
 |x::rest=>by rw[pA,fu,mkT,AD nx0 ids t rest];rfl
theorem Ba {nx0:Nat}{ids:Ke}{s:St}:∀{live:Live},gj nx0 ids s.heap s.tmps live=true->gD nx0 ids live s=some s:=by
 intro live
 induction live with
 |nil=>intro _;rfl
 |cons x rest b=>
  intro a;rw[gj,zJ]at a;grind[gD,gu,look,pU,eR]
theorem dN {live:Live}{a:St}{ids:Ke}{vs:Hm}{c:RU}{d:List Nat}{K:Kept->Prop}
 (f:cL live ⟨t,h,z,nx⟩=a) (hi:bS a.tmps a.heap live=ids) (g:gj 0 ids a.heap a.tmps live=true)
 (j:fu 0 ids a.tmps live=vs) (k:gP 0 ids none (fun i=>dQ 0 ids (a.heap i)) ids 0=c) (l:gP 0 ids 0 a.frz ids 0=d)
 (e:K (vs,c,d)) (b:eV live=true:=by rfl):bz 0 live t h z nx fun _ _ kp=>K kp:=by
 unfold bz;rw[b];refine⟨dn 0 ids a.heap,a.frz,(vs,c,d),e,?_⟩;simp_all[mO,Ba,p7,AD,qi]
end
attribute [local irreducible] IntKind.wrap wpM
section
variable {nx0:Nat}{t:ai}{h:ab}{z:Frz}{nx:Nat}
theorem cm {live:Live}{a:St}{ids:Ke}{vs:Hm}{c:RU}{d:List Nat}{K:ab->Frz->Kept->Prop}
 (f:cL live ⟨t,h,z,nx⟩=a) (hi:bS a.tmps a.heap live=ids) (g:gj nx0 ids a.heap a.tmps live=true)
 (j:fu nx0 ids a.tmps live=vs) (k:gP nx0 ids none (fun i=>dQ nx0 ids (a.heap i)) ids nx0=c) (l:gP nx0 ids 0 a.frz ids nx0=d)
 (e:K (dn nx0 ids a.heap) a.frz (vs,c,d)) (b:eV live=true:=by rfl):bz nx0 live t h z nx K:=by
 unfold bz;rw[b];refine⟨dn nx0 ids a.heap,a.frz,(vs,c,d),e,?_⟩;simp_all[mO,Ba,p7,AD,qi]
end
theorem aU {nx0:Nat}{ids:Ke}{h:ab}{id n:Nat}{es:Hm}(a:h id=some (.row es n))(c:es.all (plain 4)=true):dn nx0 ids h id=some (.row es n):=by
 unfold dn;rw[a,lB (b:=some (.row es n)) c];rfl
def fg (f:Nat->Bool)(m:Nat):Int:=match(List.range m).find? f with
 |some i=>(i:Int)
 |none=> -1
theorem Fx {f:Nat->Bool}{m k:Nat}(a:k<m)(h:f k=true)(b:∀j,j<k->f j=false):fg f m=(k:Int):=by
 grind[List.find?_range_eq_some,fg]
theorem L4 {f:Nat->Bool}{m:Nat}(a:∀j,j<m->f j=false):fg f m= -1:=by
 grind[fg]
theorem Ij {L:Rp}{m:Nat}{R:Hm}(a:R.all (plain 4)=true){h:ab}{ids:Ke}(b:CutH L m R h):CutH L m R (dn 60 ids h):=by
 obtain⟨h0,rfl⟩:=b;refine CutH.of ?_ rfl rfl ?_
 .exact aU rfl (ae am _)
 exact aU rfl a
def iQ (L:Rp)(m i:Nat):Bool:=decide (crI L m i=0)
theorem RZ (L:Rp)(m:Nat)(q:m<=L.length)(r:m<=1000)(s:OkP L)(R:Hm)(l:R.all (plain 4)=true){h:ab}{z:Frz}(t:CutH L m R h)(g:CutZ z){o:D->ab->Frz->Nat->Prop}
 (c:∀h' z' a,CutH L m R h'->CutZ z'->(a=337\/a=340)->o (.int .i64 (fg (iQ L m) m)) h' z' a):
 wpM TT (shr TT 5) 60 [.code ro.1.code] .normal (enter [aa m,.fn 113 [] [.ptr 33 0 0]]) h z 60 (bB ro.1 o):=by
 obtain⟨h0,rfl⟩:=t;obtain⟨B,rfl⟩:=g;refine gg rfl (bO (S:=fun k:Nat=>([.fn 113 [] [.ptr 33 0 0],aa m,aa k,.bad],none::nn3,zz4)) (O:=fun _ d p=>CutH L m R d/\CutZ p) (C:=fun k=>k<=m/\∀j,j<k->iQ L m j=false) (m:=fun k=>m-k) 0 ⟨zB _,fun j u=>by omega⟩ (by omega) ?_ ?_)
 .exact cm rfl rfl rfl rfl rfl rfl ⟨rfl,Ij l (CutH.of rfl rfl rfl rfl),CutZ.of rfl rfl rfl rfl⟩
 intro k ⟨v,d⟩ E p w N x;obtain⟨⟨h1,rfl⟩,F,rfl⟩:=w;refine jC rfl (fun e=>?_) (fun e=>?_)
 .rw[ad]at e;have b:k<m:=by omega
  have y:=wS (n:=k);refine gg rfl (m7 rfl rfl rfl rfl (Qn L m k b q r R s (CutH.of rfl rfl rfl rfl) (jC rfl (fun i=>?_) (fun i=>?_))))
  .refine gE rfl (gg rfl (bd rfl rfl ?_));have:=Fx (f:=iQ L m) b i d;rw[this]at c;exact c _ _ _ (CutH.of rfl rfl rfl rfl) (CutZ.of rfl rfl rfl rfl) (.inl rfl)
  refine gE rfl (x (k+1) ⟨b,fun j u=>?_⟩ (by omega) (cm rfl rfl rfl rfl rfl rfl ⟨by rw[y];rfl,Ij l (CutH.of rfl rfl rfl rfl),CutZ.of rfl rfl rfl rfl⟩));by_cases A:j<k
  grind
  .obtain rfl:j=k:=by omega
   exact i
 rw[af]at e;obtain rfl:k=m:=by omega
 rw[L4 d]at c;exact gE rfl (gg rfl (bd rfl rfl (c _ _ _ (CutH.of rfl rfl rfl rfl) (CutZ.of rfl rfl rfl rfl) (.inr rfl))))
theorem IG {L:Rp}{m:Nat}{R:Hm}(a:R.all (plain 4)=true){h:ab}{ids:Ke}(b:CutH L m R h):CutH L m R (dn 347 ids h):=by
 obtain⟨h0,rfl⟩:=b;refine CutH.of ?_ rfl rfl ?_
 .exact aU rfl (ae am _)
 exact aU rfl a
theorem IC (L:Rp)(m:Nat)(v:m<=L.length)(w:m<=1000)(x:∀s∈L,aD s 1048576=true)(R:Hm)(i:R.all (plain 4)=true){h:ab}{z:Frz}(y:CutH L m R h)(l:CutZ z){t:D->ab->Frz->Nat->Prop}
 (g:∀h' z' a,CutH L m R h'->CutZ z'->(a=624\/a=627)->t (.int .i64 (fg (dy L m) m)) h' z' a):
 wpM TT (shr TT 5) 347 [.code ro.1.code] .normal (enter [aa m,.fn 115 [] [.ptr 33 0 0,.ptr 27 0 0]]) h z 347 (bB ro.1 t):=by
 obtain⟨h0,rfl⟩:=y;obtain⟨G,rfl⟩:=l;refine gg rfl (bO (S:=fun k:Nat=>([.fn 115 [] [.ptr 33 0 0,.ptr 27 0 0],aa m,aa k,.bad],none::nn3,zz4)) (O:=fun _ c u=>CutH L m R c/\CutZ u) (C:=fun k=>k<=m/\∀j,j<k->dy L m j=false) (m:=fun k=>m-k) 0 ⟨zB _,fun j A=>by omega⟩ (by omega) ?_ ?_)
 .exact cm rfl rfl rfl rfl rfl rfl ⟨rfl,IG i (CutH.of rfl rfl rfl rfl),CutZ.of rfl rfl rfl rfl⟩
 intro k ⟨B,c⟩ H u o N E;obtain⟨⟨h1,rfl⟩,I,rfl⟩:=o;refine jC rfl (fun e=>?_) (fun e=>?_)
 .rw[ad]at e;have b:k<m:=by omega
  have F:=wS (n:=k);refine gg rfl (m7 rfl rfl rfl rfl (XX L m k b v w x R i (CutH.of rfl rfl rfl rfl) (CutZ.of rfl rfl rfl rfl) ?_));intro h' z' a o d p;obtain⟨J,rfl⟩:=o;obtain⟨K,rfl⟩:=d;rcases p with rfl|rfl|rfl
  all_goals
   refine jC rfl (fun q=>?_) (fun q=>?_)
   .refine gE rfl (gg rfl (bd rfl rfl ?_));have:=Fx (f:=dy L m) b q c;rw[this]at g;exact g _ _ _ (CutH.of rfl rfl rfl rfl) (CutZ.of rfl rfl rfl rfl) (.inl rfl)
   refine gE rfl (E (k+1) ⟨b,fun j A=>?_⟩ (by omega) (cm rfl rfl rfl rfl rfl rfl ⟨by rw[F];rfl,IG i (CutH.of rfl rfl rfl rfl),CutZ.of rfl rfl rfl rfl⟩));by_cases r:j<k
   .exact c j r
   obtain rfl:j=k:=by omega
   exact q
 rw[af]at e;obtain rfl:k=m:=by omega
 rw[L4 c]at g;exact gE rfl (gg rfl (bd rfl rfl (g _ _ _ (CutH.of rfl rfl rfl rfl) (CutZ.of rfl rfl rfl rfl) (.inr rfl))))
section
variable {nx0:Nat}{t:ai}{h:ab}{z:Frz}{nx:Nat}
theorem qV {live:Live}{c a:St}{ids:Ke}{vs:Hm}{d:RU}{e:List Nat}{K:ab->Frz->Kept->Prop}
 (g:cL live ⟨t,h,z,nx⟩=c) (j:gD nx0 (bS c.tmps c.heap live) live c=some a)
 (hi:bS a.tmps a.heap live=ids) (k:gj nx0 ids a.heap a.tmps live=true)
 (l:fu nx0 ids a.tmps live=vs) (m:gP nx0 ids none (fun i=>dQ nx0 ids (a.heap i)) ids nx0=d) (n:gP nx0 ids 0 a.frz ids nx0=e)
 (f:K (dn nx0 ids a.heap) a.frz (vs,d,e)) (b:eV live=true:=by rfl):bz nx0 live t h z nx K:=by
 unfold bz;rw[b];refine⟨dn nx0 ids a.heap,a.frz,(vs,d,e),f,?_⟩;simp_all[mO,p7,AD,qi]
theorem rz {ids:Ke}{x id esz:Nat}{s:St}{es es':Hm}(h1:bi (look s.tmps s.heap x)=some id)(a:s.heap id=some (.row es esz))(h3:es.all (okD nx0 ids)=false)(b:es.mapM (jf s.heap depth)=some es'):
 gu nx0 ids x s=some ⟨s.tmps,upd s.heap id (some (.row es' esz)),nl s.heap s.frz (es.flatMap (aN s.heap depth)),s.next⟩:=by
 grind[gu]
end
theorem rows_ok {α:Type}{f:α->D}(a:∀x,plain 4 (f x)=true){nx0:Nat}(ids:Ke)(l:List α):(l.map f).all (okD nx0 ids)=true:=by
 grind[Gf]
theorem gx {α:Type}{f:α->D}{nx0:Nat}(a:∀ids x,du nx0 ids (f x)=f x)(ids:Ke)(l:List α):(l.map f).map (du nx0 ids)=l.map f:=by
 simp_all
section
variable {T:Tab}{sh:Shr}{nx0:Nat}{s:List Fr}{t:ai}{h:ab}{z:Frz}{nx:Nat}{q:Ex->ai->ab->Frz->Nat->Prop}
variable {base i:Nat}{res:List Nat}{g:Gd}{rest:List KOper}
structure KeyE {α:Type} [DecidableEq α](e:EqK)(enc:α->D):Prop where
 ok:∀a,AM e (enc a)=true
 eq:∀a b,mq e (enc a) (enc b)=some (decide (a=b))
theorem Fw {α:Type} [DecidableEq α]{e:EqK}{enc:α->D}(K:KeyE e enc){x:α}:∀{l:List α} {n:Nat},x∈l->∃i,i<l.length/\l[i]?=some x/\iD e (enc x) (l.map enc) n=some (some (n+i))
 |y::l,n,a=>by
  rw[zg,iD,K.eq];by_cases h:x=y
  simp_all
  .obtain⟨i,h1,b,h3⟩:=Fw K (l:=l) (n:=n+1) (by rcases zP.1 a with g|g;grind;omega);refine⟨i+1,by grind,by grind,?_⟩;grind
theorem CZ {α:Type} [DecidableEq α]{e:EqK}{enc:α->D}(K:KeyE e enc){x:α}:∀{l:List α} {n:Nat},x∉l->iD e (enc x) (l.map enc) n=some none
 |[],n,_=>rfl
 |y::l,n,a=>by
  rw[zg,iD,K.eq,yS (by grind)];exact CZ K (by grind)
def mpB {α:Type}(enc:α->D)(l:List α):Option Blk:=some (.mp (l.map enc) (l.map fun _=>D.bool true))
theorem qT {α:Type} [DecidableEq α]{e:EqK}{enc:α->D}(K:KeyE e enc){x k:X}{b id:Nat}(l:List α)(a:α)(m:x.ev t=.mref id)(o:g.h base h id=mpB enc l)(f:k.ev t=enc a)
 (c:wpM T sh nx0 (.ops base res rest::s) .normal (upd t b (.bool (decide (a∈l)))) h z nx q):
 wpM T sh nx0 (.ops base res (⟨i,some b,none,g,.lookup e (.bool false) x k false⟩::rest)::s) .normal t h z nx q:=by
 refine bP ?_;simp only[kop,r7,m,o,qs,f,kf];refine⟨K.ok a,?_⟩;by_cases d:a∈l
 .obtain⟨j,h1,p,h3⟩:=Fw K (n:=0) d;rw[xD d]at c;refine⟨_,h3,?_⟩;exact nD (x:=D.bool true) (by grind) c
 rw[yS d]at c;exact⟨_,CZ K d,c⟩
theorem qc {α:Type} [DecidableEq α]{e:EqK}{enc:α->D}(K:KeyE e enc){j k:X}{b:Option Nat}{id:Nat}(l:List α)(a:α)(n:j.ev t=.mref id)(m:g.h base h id=mpB enc l)(o:g.z base z id=0)(d:k.ev t=enc a)(p:a∉l)
 (f:wpM T sh nx0 (.ops base res rest::s) .normal (put t b (.tup [])) (upd h id (mpB enc (l++[a]))) z nx q):
 wpM T sh nx0 (.ops base res (⟨i,b,none,g,.mapset e j k (.c (.bool true))⟩::rest)::s) .normal t h z nx q:=by
 refine bP ?_;unfold mpB at m f;simp only[kop,qJ,n,m,d,o,kf];refine⟨K.ok a,_,CZ K p,?_⟩;rw[zb,zb]at f;exact f
end
def aC {α:Type} [DecidableEq α](l a:List α):List α:=a.foldl (fun l x=>if x∈l then l else l++[x]) l
theorem p5 {α:Type} [DecidableEq α](l a:List α){k:Nat}(h:k<a.length):aC l (a.take (k+1))=if a[k]∈aC l (a.take k)then aC l (a.take k)else aC l (a.take k)++[a[k]]:=by
 grind[aC,List.take_succ_eq_append_getElem]
theorem jg {α:Type} [DecidableEq α](l a:List α):(aC l a).length<=l.length+a.length:=by
 unfold aC
 induction a generalizing l with
 |nil=>simp
 |cons x a b=>
  grind
theorem mV:KeyE (.flat [.int,.int]) Spot.enc where
 ok:=fun a=>rfl
 eq:=fun a b=>by
  have:mq (.flat [.int,.int]) (Spot.enc a) (Spot.enc b)=some (eqb a.x b.x&&(eqb a.y b.y&&true)):=rfl;rw[this];congr 1;cases a;cases b;rw[zN];simp[eqb]
theorem gJ {nx0:Nat}(ids:Ke)(s:Spot):du nx0 ids s.enc=s.enc:=rfl
theorem add64 (u:Unit)(a:Rp)(G:(([]:Rp)).length+a.length<=100000){h:ab}{z:Frz}(t:HasB ((55,some (.row [.agg [.opq (.map none),.nilsl]] 2))::(62,some (.row (a.map Spot.enc) 2))::([]++[])) h z){j:D->ab->Frz->Nat->Prop}
 (v:∀h' z',HasB ((55,some (.row [.agg [.mref 68,.ref 69 0 (aC (([]:Rp)) a).length]] 2))::(68,mpB Spot.enc (aC (([]:Rp)) a))::(69,some (.row ((aC (([]:Rp)) a).map Spot.enc) 2))::[]) h' z'->j (.tup []) h' z' (64+22)):
 wpM TT (shr TT 5) 64 [.code kG.1.code] .normal (enter [.ptr 55 0 0,.ref 62 0 a.length]) h z 64 (bB kG.1 j):=by
 obtain⟨⟨h0,rfl⟩,H,rfl⟩:=t;refine gg rfl (aQ rfl rfl rfl rfl (gg rfl ?_))
 first|refine ak rfl ?_|refine aj rfl ?_
 refine gg rfl ?_
 try (refine dq (k:=0) rfl rfl rfl (zB _) rfl rfl ?_;refine gg rfl ?_)
 refine bO (S:=fun k:Nat=>([.ptr 55 0 0,.ref 62 0 a.length,aa a.length,aa k,.bad,.bad],[none,none,none,none,mpB Spot.enc (aC (([]:Rp)) (a.take k)),some (.row ((aC (([]:Rp)) (a.take k)).map Spot.enc) 2)],zz6))
  (O:=fun k l o=>HasB ((55,some (.row [.agg [.mref 68,.ref 69 0 (aC (([]:Rp)) (a.take k)).length]] 2))::(62,some (.row (a.map Spot.enc) 2))::[]) l o) (C:=fun k=>k<=a.length) (m:=fun k=>a.length-k) 0 (zB _) (by omega) ?_ ?_
 .refine cm rfl rfl ?_ rfl ?_ rfl ⟨rfl,HasB.of ⟨⟨rfl,rfl⟩,⟨aU rfl (ae am _),rfl⟩,tr⟩⟩
  .first
    |(show((a.map Spot.enc).all (okD 64 _)&&(((([]:Rp)).map fun _=>D.bool true).all (plain 4)&&(((([]:Rp)).map Spot.enc).all (okD 64 _)&&true)))=true;rw[rows_ok am,rows_ok am,ae (fun _=>rfl)];rfl)
    |(show((a.map Spot.enc).all (okD 64 _)&&true)=true;rw[rows_ok am];rfl)
  rfl
 intro k w l o y N p;obtain⟨⟨h1,rfl⟩,I,rfl⟩:=y;refine jC rfl (fun e=>?_) (fun e=>?_)
 .rw[ad]at e;have b:k<a.length:=by omega
  have s:=wS (n:=k);have c:=p5 (([]:Rp)) a b;have f:=jg (([]:Rp)) (a.take k);have f:(aC (([]:Rp)) (a.take k)).length<=200000:=by grind
  have A:a[k]?=some a[k]:=zK b;have B:aC (([]:Rp)) (a.take (k+1))=aC (([]:Rp)) (a.take (k+1)):=rfl;generalize aC (([]:Rp)) (a.take k)=q at*;generalize a[k]=x at*;refine gg rfl (aA k rfl rfl rfl rfl rfl b (gg rfl (cb (enc:=Spot.enc) a k x rfl (zC _) (fun _=>rfl) rfl A (gg rfl (aQ rfl rfl rfl rfl (gg rfl (qT mV q x rfl rfl rfl (jC rfl (fun E=>?_) (fun E=>?_)))))))))
  .have d:x∉q:=by grind
   rw[vd d]at c;refine gg rfl (aQ rfl rfl rfl rfl (gg rfl (qc mV q x rfl rfl rfl rfl d (gg rfl (aQ rfl rfl rfl rfl (gg rfl (bI rfl rfl rfl rfl rfl rfl (by simp) (zB _) (by grind[aK]) ?_)))))));refine gg rfl (dq (k:=0) rfl rfl rfl (zB _) rfl rfl (gE rfl ?_));have g:([.ptr 55 0 0,.ref 62 0 a.length,aa a.length,aa ((k+1:Nat):Int),.bad,.bad]:Hm)=[.ptr 55 0 0,.ref 62 0 a.length,aa a.length,aa (IntKind.i64.wrap ((k:Int)+1)),.bad,.bad]:=by rw[s]
   refine p (k+1) b (by omega) ?_;rw[c,zL];rw[g];refine cm rfl rfl ?_ rfl ?_ rfl ⟨rfl,HasB.of ⟨⟨rfl,rfl⟩,⟨aU rfl (ae am _),rfl⟩,tr⟩⟩
   .show((a.map Spot.enc).all (okD 64 _)&&(((q++[x]).map fun _=>D.bool true).all (plain 4)&&((q.map Spot.enc++[Spot.enc x]).all (okD 64 _)&&true)))=true;rw[show q.map Spot.enc++[Spot.enc x]=(q++[x]).map Spot.enc by simp,rows_ok am,rows_ok am,ae (fun _=>rfl)];rfl
   have F:(q++[x]).map Spot.enc=q.map Spot.enc++[Spot.enc x]:=by simp
   have i:∀ids,(q.map Spot.enc++[Spot.enc x]).map (du 64 ids)=q.map Spot.enc++[Spot.enc x]:=fun ids=>by simp[gJ]
   rw[F];exact zX (fun r:Hm=>([none,none,none,none,mpB Spot.enc (q++[x]),some (.row r 2)]:RU)) (i _)
  have d:x∈q:=by grind
  rw[ve d]at c;refine gE rfl ?_;have g:([.ptr 55 0 0,.ref 62 0 a.length,aa a.length,aa ((k+1:Nat):Int),.bad,.bad]:Hm)=[.ptr 55 0 0,.ref 62 0 a.length,aa a.length,aa (IntKind.i64.wrap ((k:Int)+1)),.bad,.bad]:=by rw[s]
  refine p (k+1) b (by omega) ?_;rw[c];rw[g];refine cm rfl rfl ?_ rfl ?_ rfl ⟨rfl,HasB.of ⟨⟨rfl,rfl⟩,⟨aU rfl (ae am _),rfl⟩,tr⟩⟩
  .show((a.map Spot.enc).all (okD 64 _)&&((q.map fun _=>D.bool true).all (plain 4)&&((q.map Spot.enc).all (okD 64 _)&&true)))=true;rw[rows_ok am,rows_ok am,ae (fun _=>rfl)];rfl
  exact zX (fun r:Hm=>([none,none,none,none,mpB Spot.enc q,some (.row r 2)]:RU)) (gx gJ _ q)
 rw[af]at e;obtain rfl:k=a.length:=by omega
 rw[zH];exact gE rfl (gg rfl (bd rfl rfl (v _ _ (HasB.of ⟨⟨rfl,rfl⟩,⟨rfl,rfl⟩,⟨rfl,rfl⟩,tr⟩))))
theorem kc {nx0:Nat}{h:ab}{id:Nat}{b:Option Blk}(a:h id=b)(c:eR nx0 [] b=true):cz nx0 h id=b:=by
 grind[cz]
structure Rst where
 roll:Int
 lot:Int
 from_:Int
 to:Int
def Rst.enc (r:Rst):D:=.agg [.int .i64 r.roll,.int .i64 r.lot,.int .i64 r.from_,.int .i64 r.to]
theorem eA (r:Rst):plain 4 r.enc=true:=rfl
theorem Xj (r:Rst):dat 4 r.enc=true:=rfl
def rst (l:List Rst)(i:Nat):Rst:=l.getD i ⟨0,0,0,0⟩
theorem qPz {l:List Rst}{i:Nat}(h:i<l.length):rst l i=l[i]:=by grind[rst]
theorem Ty {l:List Rst}{i:Nat}(h:i<l.length):(l.map Rst.enc)[i]?=some (rst l i).enc:=by grind[rst]
def cN (rs:List RollS)(lots:List Int)(a width:Int):Nat->List Rst
 |0=>[]
 |k+1=>if lots.getD k 0=a/\width<=(rl rs k).width then cN rs lots a width k++[⟨k,a,0,(rl rs k).length⟩]else cN rs lots a width k
theorem uQ (rs:List RollS)(lots:List Int)(a width:Int):∀k,(cN rs lots a width k).length<=k
 |0=>by simp[cN]
 |k+1=>by
  have:=uQ rs lots a width k;grind[cN]
def w64 (n:Int):Int:=IntKind.i64.wrap n
def szR (r:Rst):Int:=w64 (r.to-r.from_)
def ph (r:Rst)(l:Int):Rst:=⟨r.roll,r.lot,w64 (r.from_+l),r.to⟩
def gb (r:Rst)(l a:Int):Part:=⟨r.roll,r.from_,w64 (r.from_+l),a⟩
def cG (len:Int)(ps:Fv):Nat->List Rst->Nat->Int->List Part->Bool×List Part×List Rst×Nat
 |0,R,off,_,_=>(false,[],R,off)
 |n+1,R,off,a,P=>
  if w64 (len-a)<=szR (rst R off)then(true,P++[gb (rst R off) (w64 (len-a)) a],R.set off (ph (rst R off) (w64 (len-a))),off)
  else if 0<szR (rst R off)/\(ii len ps a (w64 (a+szR (rst R off)))).2=0 then
   cG len ps n (R.set off (ph (rst R off) (w64 ((ii len ps a (w64 (a+szR (rst R off)))).1.hi-a)))) (off+1) (ii len ps a (w64 (a+szR (rst R off)))).1.lo (P++[gb (rst R off) (w64 ((ii len ps a (w64 (a+szR (rst R off)))).1.hi-a)) a])
  else cG len ps n R (off+1) a P
def layX (a b:D)(l1 l2 c d:Int)(e f:D)(g:Nat)(Q:Hm):List (Nat×Option Blk):=[(3,some (.row [a] 6)),(4,some (.row [b] 7)),(5,some (.row [.agg [.int .i64 l1,.int .i64 l2,.int .i64 c,.int .i64 d,e,f,.ref 15 0 g]] 7)),(15,some (.row Q 2))]
theorem Sc (A E:D)(a1:plain 4 A=true)(a2:plain 4 E=true)(l1 l2 G H:Int)(I J:D)(K:Nat)(Q:Hm)(s:eR 159 [] (some (.row [.agg [.int .i64 l1,.int .i64 l2,.int .i64 G,.int .i64 H,I,J,.ref 15 0 K]] 7))=true)(f:Q.all (plain 4)=true)
 (len:Int) (ps:Fv) (M:ps.length<=1000) (R:List Rst) (off n:Nat) (hR:R.length=off+n) (a4:R.length<=1000)
 {h:ab} {z:Frz} (hh:HasB ((7,some (.row (R.map Rst.enc) 4))::layX A E l1 l2 G H I J K Q) h z) {T:D->ab->Frz->Nat->Prop}
 (g:(cG len ps n R off 0 []).1=false->∀h' z',HasB (layX A E l1 l2 G H I J K Q) h' z'->T (.tup [.nilsl,.nilsl,.bool false]) h' z' 347)
 (t:(cG len ps n R off 0 []).1=true->∀h' z' m,HasB ((207,some (.row ((cG len ps n R off 0 []).2.1.map Part.enc) 4))::(7,some (.row ((cG len ps n R off 0 []).2.2.1.map Rst.enc) 4))::layX A E l1 l2 G H I J K Q) h' z'->
   R.length=(cG len ps n R off 0 []).2.2.2+m->0<m->T (.tup [.ref 207 0 (cG len ps n R off 0 []).2.1.length,.ref 7 (cG len ps n R off 0 []).2.2.2 m,.bool true]) h' z' 247):
 wpM TT (shr TT 5) 159 [.code Bf.1.code] .normal (enter [.int .i64 len,aY ps,.ref 7 off n]) h z 159 (bB Bf.1 T):=by
 obtain⟨⟨h0,rfl⟩,z0,rfl⟩:=hh;generalize hF:cG len ps n R off 0 []=F at*;obtain⟨W,fp,fr,fo⟩:=F;dsimp only at g t;refine gg rfl ?_
 refine bO (S:=fun x:Nat×List Rst×Nat×Int×List Part×D=>([.int .i64 len,aY ps,x.2.2.2.2.2,.ref 162 0 x.2.2.2.2.1.length,.int .i64 x.2.2.2.1],[none,none,none,some (.row (x.2.2.2.2.1.map Part.enc) 4),none],zz5))
  (O:=fun x X Y=>HasB ((7,some (.row (x.2.1.map Rst.enc) 4))::layX A E l1 l2 G H I J K Q) X Y)
  (C:=fun x=>x.2.1.length=R.length/\R.length=x.2.2.1+x.1/\cG len ps x.1 x.2.1 x.2.2.1 x.2.2.2.1 x.2.2.2.2.1=(W,fp,fr,fo)/\x.2.2.2.2.1.length<=x.2.2.1/\(x.2.2.2.2.2=.ref 7 x.2.2.1 x.1\/(x.2.2.2.2.2=.lst []/\x.1=0))) (m:=fun x=>x.1) (n,R,off,0,[],.ref 7 off n) ⟨rfl,hR,hF,zB _,.inl rfl⟩ (by omega) ?_ ?_
 .refine ba rfl ⟨ae eA _,rfl,tr⟩ ⟨rfl,?_⟩;exact HasB.of ⟨⟨aF rfl (cj eA _ _),rfl⟩,⟨aF rfl (by grind[aI]),rfl⟩,⟨aF rfl (by grind[aI]),rfl⟩,⟨kc rfl s,rfl⟩,⟨aF rfl f,rfl⟩,tr⟩
 rintro⟨n,R,off,a,P,d⟩ ⟨U,V,b,hP,Z⟩ X Y hO N u;dsimp only at U V b hP Z hO u⊢;obtain⟨⟨h1,rfl⟩,z1,rfl⟩:=hO
 have p:n=0->W=false:=fun h0=>by
  grind[cG]
 rcases Z with rfl|⟨rfl,rfl⟩
 .refine jC rfl (fun e=>?_) (fun e=>?_)
  .rw[ad]at e;obtain⟨n,rfl⟩:∃k,n=k+1:=⟨n-1,by omega⟩;have c:=Ty (l:=R) (i:=off) (by omega);rw[cG]at b;generalize rst R off=r at*;have q:∀(o:Nat) (x:Rst),(R.map Rst.enc).set (o+0) x.enc=(R.set o x).map Rst.enc:=fun o x=>by simp
   refine gg rfl (aA 0 rfl rfl rfl rfl rfl (by omega) ?_);refine gg rfl (cf rfl rfl (gg rfl (aQ rfl rfl c rfl (gg rfl (aQ rfl rfl c rfl (gg rfl (bd rfl rfl (jC rfl (fun v=>?_) (fun v=>?_)))))))))
   .have v:w64 (len-a)<=szR r:=bk.1 v;rw[ve v]at b;cases b;refine gg rfl (cf rfl rfl (gg rfl (aQ rfl rfl c rfl (gg rfl (aQ rfl rfl c rfl (gg rfl (aQ rfl rfl c rfl (gg rfl (aQ rfl rfl c rfl (gg rfl (dq (es:=R.map Rst.enc) (e':=(ph r (w64 (len-a))).enc) rfl rfl rfl (zB _) c rfl (gg rfl (bd rfl rfl ?_)))))))))))));rw[q];refine gg rfl (bI rfl rfl rfl rfl rfl rfl (by simp) (zB _) (by grind[aK]) ?_);refine gE rfl (gg rfl (bd rfl rfl ?_));simp only[zL,zb]at t;refine t tr _ _ (n+1) ?_ (by omega) (by omega);exact HasB.of ⟨⟨rfl,rfl⟩,⟨rfl,rfl⟩,⟨rfl,rfl⟩,⟨rfl,rfl⟩,⟨rfl,rfl⟩,⟨rfl,rfl⟩,tr⟩
   have v:¬w64 (len-a)<=szR r:=fun h=>absurd (aW.1 v) (by grind[w64,szR]);rw[vd v]at b;refine gg rfl (cf rfl rfl (gg rfl (aQ rfl rfl c rfl (gg rfl (aQ rfl rfl c rfl (gg rfl (bd rfl rfl (jC rfl (fun w=>?_) (fun w=>?_)))))))))
   .have w:0<szR r:=ad.1 w;refine gg rfl (cf rfl rfl (gg rfl (aQ rfl rfl c rfl (gg rfl (aQ rfl rfl c rfl (gg rfl (bd rfl rfl (jA rfl (R4 len ps a (w64 (a+szR r)) M) ?_))))))));generalize ii len ps a (w64 (a+szR r))=B at*;obtain⟨y,be⟩:=B;dsimp only at b;refine jC rfl (fun L=>?_) (fun L=>?_)
    .rw[co]at L;rw[ve ⟨w,L⟩]at b;refine gg rfl (cf rfl rfl (gg rfl (aQ rfl rfl c rfl (gg rfl (aQ rfl rfl c rfl (gg rfl (aQ rfl rfl c rfl (gg rfl (aQ rfl rfl c rfl (gg rfl (dq (es:=R.map Rst.enc) (e':=(ph r (w64 (y.hi-a))).enc) rfl rfl rfl (zB _) c rfl (gg rfl (bd rfl rfl ?_)))))))))))));rw[q];refine gg rfl (bI rfl rfl rfl rfl rfl rfl (by simp) (zB _) (by grind[aK]) ?_);refine gg rfl (dR 1 (n+1) rfl rfl rfl ⟨_,_,rfl,rfl⟩ rfl (by omega) ?_);rw[vd (by decide)];by_cases j:n=0
     .subst j;refine gE rfl (u (0,R.set off (ph r (w64 (y.hi-a))),off+1,y.lo,P++[gb r (w64 (y.hi-a)) a],.lst []) ⟨?_,by omega,b,?_,.inr ⟨rfl,rfl⟩⟩ (by simp) ?_);grind;grind
      .refine ba rfl ⟨?_,tr⟩ ⟨?_,?_⟩
       .first|exact ae nz _|(rw[zY,ae nz];rfl)
       .first|rfl|(simp only[zL,zb];rfl)
       exact HasB.of ⟨⟨aF rfl (cj eA _ _),rfl⟩,⟨aF rfl (by grind[aI]),rfl⟩,⟨aF rfl (by grind[aI]),rfl⟩,⟨kc rfl s,rfl⟩,⟨aF rfl f,rfl⟩,tr⟩
     rw[eE,show n+1-1=n by omega];refine gE rfl (u (n,R.set off (ph r (w64 (y.hi-a))),off+1,y.lo,P++[gb r (w64 (y.hi-a)) a],.ref 7 (off+1) n) ⟨?_,by grind,b,?_,.inl rfl⟩ (by simp) ?_);grind;grind
     .refine ba rfl ⟨ae eA _,?_,tr⟩ ⟨?_,?_⟩
      .first|exact ae nz _|(rw[zY,ae nz];rfl)
      .first|rfl|(simp only[zL,zb];rfl)
      exact HasB.of ⟨⟨aF rfl (cj eA _ _),rfl⟩,⟨aF rfl (by grind[aI]),rfl⟩,⟨aF rfl (by grind[aI]),rfl⟩,⟨kc rfl s,rfl⟩,⟨aF rfl f,rfl⟩,tr⟩
    rw[dG]at L;rw[vd (fun h=>L h.2)]at b;refine gg rfl (dR 1 (n+1) rfl rfl rfl ⟨_,_,rfl,rfl⟩ rfl (by omega) ?_);rw[vd (by decide)];by_cases j:n=0
    .subst j;refine gE rfl (u (0,R,off+1,a,P,.lst []) ⟨?_,by omega,b,?_,.inr ⟨rfl,rfl⟩⟩ (by simp) ?_);omega;grind
     .refine ba rfl ⟨?_,tr⟩ ⟨?_,?_⟩;simp[nz];rfl
      .exact HasB.of ⟨⟨aF rfl (cj eA _ _),rfl⟩,⟨aF rfl (by grind[aI]),rfl⟩,⟨aF rfl (by grind[aI]),rfl⟩,⟨kc rfl s,rfl⟩,⟨aF rfl f,rfl⟩,tr⟩
    rw[eE,show n+1-1=n by omega];refine gE rfl (u (n,R,off+1,a,P,.ref 7 (off+1) n) ⟨?_,by grind,b,?_,.inl rfl⟩ (by simp) ?_);omega;grind
    .refine ba rfl ⟨ae eA _,?_,tr⟩ ⟨?_,?_⟩;simp[nz];rfl
     .exact HasB.of ⟨⟨aF rfl (cj eA _ _),rfl⟩,⟨aF rfl (by grind[aI]),rfl⟩,⟨aF rfl (by grind[aI]),rfl⟩,⟨kc rfl s,rfl⟩,⟨aF rfl f,rfl⟩,tr⟩
   have w:¬0<szR r:=fun h=>absurd (af.1 w) (by grind[szR,w64]);rw[vd (fun h=>w h.1)]at b;refine gg rfl (dR 1 (n+1) rfl rfl rfl ⟨_,_,rfl,rfl⟩ rfl (by omega) ?_);rw[vd (by decide)];by_cases j:n=0
   .subst j;refine gE rfl (u (0,R,off+1,a,P,.lst []) ⟨?_,by omega,b,?_,.inr ⟨rfl,rfl⟩⟩ (by simp) ?_);omega;grind
    .refine ba rfl ⟨?_,tr⟩ ⟨?_,?_⟩;simp[nz];rfl
     .exact HasB.of ⟨⟨aF rfl (cj eA _ _),rfl⟩,⟨aF rfl (by grind[aI]),rfl⟩,⟨aF rfl (by grind[aI]),rfl⟩,⟨kc rfl s,rfl⟩,⟨aF rfl f,rfl⟩,tr⟩
   rw[eE,show n+1-1=n by omega];refine gE rfl (u (n,R,off+1,a,P,.ref 7 (off+1) n) ⟨?_,by grind,b,?_,.inl rfl⟩ (by simp) ?_);omega;grind
   .refine ba rfl ⟨ae eA _,?_,tr⟩ ⟨?_,?_⟩;simp[nz];rfl
    .exact HasB.of ⟨⟨aF rfl (cj eA _ _),rfl⟩,⟨aF rfl (by grind[aI]),rfl⟩,⟨aF rfl (by grind[aI]),rfl⟩,⟨kc rfl s,rfl⟩,⟨aF rfl f,rfl⟩,tr⟩
  rw[af]at e;obtain rfl:n=0:=by omega
  rw[p rfl]at g;exact gE rfl (gg rfl (bd rfl rfl (g rfl _ _ (HasB.of ⟨⟨rfl,rfl⟩,⟨rfl,rfl⟩,⟨rfl,rfl⟩,⟨rfl,rfl⟩,tr⟩))))
 refine jC rfl (fun e=>absurd (ad.1 e) (by simp)) (fun _=>?_);rw[p rfl]at g;exact gE rfl (gg rfl (bd rfl rfl (g rfl _ _ (HasB.of ⟨⟨rfl,rfl⟩,⟨rfl,rfl⟩,⟨rfl,rfl⟩,⟨rfl,rfl⟩,tr⟩))))
def lotX (a b:D)(l1 l2 c d:Int)(e f:D)(g:Nat)(Q:Hm):List (Nat×Option Blk):=[(3,some (.row [a] 6)),(4,some (.row [b] 7)),(5,some (.row [.agg [.int .i64 l1,.int .i64 l2,.int .i64 c,.int .i64 d,e,f,.ref 11 0 g]] 7)),(11,some (.row Q 2))]
theorem QH (g i:D)(B:plain 4 g=true)(E:plain 4 i=true)(l1 l2 j l:Int)(o p:D)(q:Nat)(Q:Hm)(s:eR 92 [] (some (.row [.agg [.int .i64 l1,.int .i64 l2,.int .i64 j,.int .i64 l,o,p,.ref 11 0 q]] 7))=true)(c:Q.all (plain 4)=true)
 (rs:List RollS) (lots:List Int) (a width:Int) (F:rs.length<=1000) (G:rs.length<=lots.length)
 {h:ab} {z:Frz} (H:HasB (lotX g i l1 l2 j l o p q Q) h z) {x:D->ab->Frz->Nat->Prop}
 (I:∀h' z',HasB ((95,some (.row ((cN rs lots a width rs.length).map Rst.enc) 4))::lotX g i l1 l2 j l o p q Q) h' z'->x (.ref 95 0 (cN rs lots a width rs.length).length) h' z' 144):
 wpM TT (shr TT 5) 92 [.code ZE.1.code] .normal (enter [rolls rs,ints lots,.int .i64 a,.int .i64 width]) h z 92 (bB ZE.1 x):=by
 obtain⟨⟨h0,rfl⟩,P,rfl⟩:=H;refine gg rfl ?_;rw[zA]
 refine bO (S:=fun k:Nat=>([ints lots,.int .i64 a,.int .i64 width,.ref 95 0 (cN rs lots a width k).length,rolls rs,aa rs.length,aa k],none::none::none::some (.row ((cN rs lots a width k).map Rst.enc) 4)::nn3,zz7))
  (O:=fun _ y A=>HasB (lotX g i l1 l2 j l o p q Q) y A) (C:=fun k=>k<=rs.length) (m:=fun k=>rs.length-k) 0 (zB _) (by omega) ?_ ?_
 .refine ba rfl ⟨rfl,tr⟩ ⟨rfl,?_⟩;exact HasB.of ⟨⟨aF rfl (by grind[aI]),rfl⟩,⟨aF rfl (by grind[aI]),rfl⟩,⟨kc rfl s,rfl⟩,⟨aF rfl c,rfl⟩,tr⟩
 intro k J y A K N u;obtain⟨⟨h1,rfl⟩,T,rfl⟩:=K;refine jC rfl (fun e=>?_) (fun e=>?_)
 .rw[ad]at e;have d:k<rs.length:=by omega
  have w:=wS (n:=k);have L:=oI d;have le:(lots.map aa)[k]?=some (aa (lots.getD k 0)):=by grind
  have b:cN rs lots a width (k+1)=if lots.getD k 0=a/\width<=(rl rs k).width then cN rs lots a width k++[⟨k,a,0,(rl rs k).length⟩]else cN rs lots a width k:=rfl
  have M:=uQ rs lots a width k;generalize cN rs lots a width k=R at*;generalize rl rs k=r at*;generalize lots.getD k 0=v at*;refine jX k rfl rfl L rfl (jX k rfl rfl le rfl (gg rfl (au rfl (fun f=>?_) (fun f=>?_))))
  .rw[co]at f;refine jC rfl (fun t=>?_) (fun t=>?_)
   .rw[bk]at t;rw[ve ⟨f,t⟩]at b;refine gg rfl (bI rfl rfl rfl rfl rfl rfl (by simp) (zB _) (by grind[aK]) ?_);refine gE rfl (u (k+1) d (by omega) ?_);rw[b];refine ba rfl ⟨?_,tr⟩ ⟨?_,?_⟩
    .rw[zY,ae eA];rfl
    .rw[w];simp only[zL,zb];rfl
    exact HasB.of ⟨⟨aF rfl (by grind[aI]),rfl⟩,⟨aF rfl (by grind[aI]),rfl⟩,⟨kc rfl s,rfl⟩,⟨aF rfl c,rfl⟩,tr⟩
   rw[aW]at t;rw[vd (fun h=>by omega)]at b;refine gE rfl (u (k+1) d (by omega) ?_);rw[b];refine ba rfl ⟨ae eA _,tr⟩ ⟨by rw[w];rfl,?_⟩;exact HasB.of ⟨⟨aF rfl (by grind[aI]),rfl⟩,⟨aF rfl (by grind[aI]),rfl⟩,⟨kc rfl s,rfl⟩,⟨aF rfl c,rfl⟩,tr⟩
  rw[dG]at f;rw[vd (fun h=>f h.1)]at b;refine gg rfl (aj rfl (gE rfl (u (k+1) d (by omega) ?_)));rw[b];refine ba rfl ⟨ae eA _,tr⟩ ⟨by rw[w];rfl,?_⟩;exact HasB.of ⟨⟨aF rfl (by grind[aI]),rfl⟩,⟨aF rfl (by grind[aI]),rfl⟩,⟨kc rfl s,rfl⟩,⟨aF rfl c,rfl⟩,tr⟩
 rw[af]at e;obtain rfl:k=rs.length:=by omega
 exact gE rfl (gg rfl (bd rfl rfl (I _ _ (HasB.of ⟨⟨rfl,rfl⟩,⟨rfl,rfl⟩,⟨rfl,rfl⟩,⟨rfl,rfl⟩,⟨rfl,rfl⟩,tr⟩))))
theorem RW {h:ab}{id i o:Nat}{d:D}{k:D->Prop}(a:aG h 8 (.ptr id i o)=some d)(b:k d):wptr h id i o k:=by
 grind[wptr]
section
variable {T:Tab}{sh:Shr}{nx0:Nat}{s:List Fr}{t:ai}{h:ab}{z:Frz}{nx:Nat}{q:Ex->ai->ab->Frz->Nat->Prop}
variable {base i:Nat}{res:List Nat}{g:Gd}{rest:List KOper}
theorem Za {f:X}{args:List X}{b:FuncId}{c:Nat}{a e:Hm}{j:Hm}{r:D}(l:f.ev t=.fn b a e)(m:T.shared b=false)
 (d:∀k:Hm->Prop,k j->iA (g.h base h) (a++args.map (·.ev t)++e) k) (n:T.pu b j=some r) (o:noRef 4 r=true)
 (p:wpM T sh nx0 (.ops base res rest::s) .normal (upd t c r) h z nx q):
 wpM T sh nx0 (.ops base res (⟨i,some c,none,g,.callV f args⟩::rest)::s) .normal t h z nx q:=by
 refine bP ?_;simp only[kop,l,m,eQ];refine d _ ?_;unfold mf;refine⟨r,n,?_⟩;simp only[iu,o];exact p
end
def areaS (p:Rp):Int:=max (eL p) (ng (eL p))
def cmpA (S:List Shp)(i k:Nat):Int:=IntKind.i64.wrap (areaS (shp S k).poly-areaS (shp S i).poly)
def aP (n:Nat):D:=aa n
theorem vX (n:Nat):plain 4 (aP n)=true:=rfl
theorem Vx (S:List Shp)(i k:Nat)(hi:i<S.length)(c:k<S.length):PU 53 [aP i,aP k,.pl (cq S) 0]=some (.int .i64 (cmpA S i k)):=by
 have d:=uj hi;have e:=uj c;unfold cmpA;generalize shp S i=a at*;generalize shp S k=b at*;exact PS rfl (jX k rfl rfl e rfl (jA rfl (HG b.poly) (jX i rfl rfl d rfl (jA rfl (HG a.poly) (jZ rfl)))))
def gc (l:List Nat)(i:Nat):Nat:=l.getD i 0
theorem Vg {l:List Nat}{i:Nat}(h:i<l.length):gc l i=l[i]:=by grind[gc]
theorem Ix {l:List Nat}{i:Nat}(h:i<l.length):(l.map aP)[i]?=some (aP (gc l i)):=by grind[gc]
theorem E8 {l:List Nat}{i:Nat}(h:i<l.length):gc l i∈l:=by grind[Vg]
def iW (l:List Nat)(j:Nat):List Nat:=(l.set j (gc l (j-1))).set (j-1) (gc l j)
def bub (S:List Shp):Nat->List Nat->List Nat
 |0,l=>l
 |j+1,l=>if cmpA S (gc l (j+1)) (gc l j)<0 then bub S j (iW l (j+1))else l
def ef (S:List Shp)(l:List Nat):Nat->List Nat
 |0=>l
 |k+1=>bub S k (ef S l k)
theorem BQ (l:List Nat)(j:Nat):(iW l j).length=l.length:=by simp[iW]
theorem JX {l:List Nat}{j:Nat}(h:j<l.length){x:Nat}(a:x∈iW l j):x∈l:=by
 grind[iW,E8]
theorem Je (S:List Shp):∀(j:Nat) (l:List Nat),j<l.length->(bub S j l).length=l.length/\∀x∈bub S j l,x∈l
 |0,l,_=>⟨rfl,fun _ h=>h⟩
 |j+1,l,a=>by
  rw[bub];split
  .have:=Je S j (iW l (j+1)) (by grind[BQ]);grind[BQ,JX]
  simp
theorem EC (S:List Shp)(l:List Nat):∀k,k<=l.length->(ef S l k).length=l.length/\∀x∈ef S l k,x∈l
 |0,_=>⟨rfl,fun _ h=>h⟩
 |k+1,a=>by
  have h1:=EC S l k (by omega);grind[Je,ef]
def jI (a b:D)(S:List Shp)(P:Hm):List (Nat×Option Blk):=[(1,some (.row [a] 4)),(2,some (.row [b] 6)),(3,some (.row [cq S] 1)),(4,some (.row P 7))]
theorem rH (L:List Nat):(L.map aP).all (plain 4)=true:=ae vX _
theorem Si (d f:D)(V:plain 4 d=true)(W:plain 4 f=true)(S:List Shp)(P:Hm)(v:P.all (plain 4)=true)(l:List Nat)(hl:l.length<=1000)(X:∀x∈l,x<S.length)
 {h:ab} {z:Frz} (Y:HasB ((5,some (.row (l.map aP) 1))::jI d f S P) h z) {T:D->ab->Frz->Nat->Prop}
 (w:∀h' z',HasB ((5,some (.row ((ef S l l.length).map aP) 1))::jI d f S P) h' z'->T (.tup []) h' z' 374):
 wpM TT (shr TT 3) 356 [.code Aw.1.code] .normal (enter [.ref 5 0 l.length,.int .i64 0,aa l.length,.fn 53 [] [.ptr 3 0 0]]) h z 356 (bB Aw.1 T):=by
 obtain⟨⟨h0,rfl⟩,Z,rfl⟩:=Y;refine gg rfl ?_;have w0:IntKind.i64.wrap (0+1)=((1:Nat):Int):=ww
 have g:∀(L:List Nat) (ids:Ke) (h0:ab) (z:Frz),AllB ((5,some (.row (L.map aP) 1))::jI d f S P) (dn 356 ids (uI ((5,some (.row (L.map aP) 1))::jI d f S P) h0)) (uc ((5,some (.row (L.map aP) 1))::jI d f S P) z):=fun L ids h0 z=>
  ⟨⟨aU rfl (rH L),rfl⟩,⟨aU rfl (by grind),rfl⟩,⟨aU rfl (by grind),rfl⟩,⟨aU rfl rfl,rfl⟩,⟨aU rfl v,rfl⟩,tr⟩
 refine bO (S:=fun x:Nat×List Nat=>([.ref 5 0 l.length,.int .i64 0,aa l.length,.fn 53 [] [.ptr 3 0 0],aa x.1,.bad],none::nn5,zz6))
  (O:=fun x o p=>HasB ((5,some (.row (x.2.map aP) 1))::jI d f S P) o p) (C:=fun x=>1<=x.1/\(x.1<=l.length\/x.1=1)/\x.2=ef S l x.1) (m:=fun x=>l.length-x.1) (1,l) ⟨zD _,.inr rfl,rfl⟩ (by omega) ?_ ?_
 .exact cm rfl rfl (by show((l.map aP).all (okD 356 _)&&true)=true;rw[rows_ok vX];rfl) rfl rfl rfl ⟨by rw[w0];rfl,HasB.of (g l _ h0 Z)⟩
 rintro⟨i,L⟩ ⟨B,E,a⟩ o p q N F;dsimp only at B E a q F⊢;obtain⟨⟨h1,rfl⟩,z1,rfl⟩:=q;refine jC rfl (fun e=>?_) (fun e=>?_)
 .rw[ad]at e;have r:i<l.length:=by omega
  have U:=wS (n:=i);have b:=EC S l i (by omega);rw[<-a]at b;have G:∀x∈L,x<S.length:=fun x hx=>X x (b.2 x hx);have H:L.length=l.length:=b.1;have a3:ef S l (i+1)=bub S i L:=by grind[ef]
  clear b a;refine gg rfl ?_
  refine bO (S:=fun x:Nat×List Nat=>([.ref 5 0 l.length,.int .i64 0,aa l.length,.fn 53 [] [.ptr 3 0 0],aa i,aa x.1,.bad],none::nn6,zz7))
   (O:=fun x o p=>HasB ((5,some (.row (x.2.map aP) 1))::jI d f S P) o p) (C:=fun x=>x.1<=i/\x.2.length=l.length/\(∀y∈x.2,y<S.length)/\bub S i L=bub S x.1 x.2) (m:=fun x=>x.1) (i,L) ⟨zD _,H,G,rfl⟩ (by omega) ?_ ?_
  .exact cm rfl rfl (by show((L.map aP).all (okD 356 _)&&true)=true;rw[rows_ok vX];rfl) rfl rfl rfl ⟨rfl,HasB.of (g L _ h1 z1)⟩
  rintro⟨j,M⟩ ⟨hj,hM,c,I⟩ o p q N2 s;dsimp only at hj hM c I q s⊢;obtain⟨⟨h2,rfl⟩,z2,rfl⟩:=q;refine gg rfl (au rfl (fun J=>?_) (fun J=>?_))
  .rw[ad]at J;obtain⟨k,rfl⟩:∃k,j=k+1:=⟨j-1,by omega⟩;have A:IntKind.i64.wrap (((k+1:Nat):Int)-1)=(k:Int):=by grind[wrap64]
   have g1:=Ix (l:=M) (i:=k+1) (by omega);have g2:=Ix (l:=M) (i:=k) (by omega);have m1:=c _ (E8 (l:=M) (i:=k+1) (by omega));have m2:=c _ (E8 (l:=M) (i:=k) (by omega));have a8:bub S (k+1) M=if cmpA S (gc M (k+1)) (gc M k)<0 then bub S k (iW M (k+1))else M:=rfl
   have K:((M.map aP).set (k+1) (aP (gc M k))).set k (aP (gc M (k+1)))=(iW M (k+1)).map aP:=by simp[iW]
   have t:=Vx S _ _ m1 m2;have a9:=BQ M (k+1);have Q:∀y∈iW M (k+1),y<S.length:=fun y hy=>c y (JX (by omega) hy);refine gg rfl (aA (k+1) rfl rfl rfl rfl rfl (by omega) ?_);refine gg rfl (aQ rfl rfl (by rw[zC];omega) rfl ?_);refine gg rfl (aA k rfl rfl rfl rfl A (by omega) ?_);refine gg rfl (aQ rfl rfl (by rw[zC];omega) rfl ?_);refine gg rfl (Za rfl rfl (fun k w=>RW rfl w) t rfl (jC rfl (fun R=>?_) (fun R=>?_)))
   .rw[ad]at R;refine gg rfl (aA k rfl rfl rfl rfl A (by omega) ?_);refine aQ rfl rfl (by rw[zC];omega) rfl ?_;refine gg rfl (aA (k+1) rfl rfl rfl rfl rfl (by omega) ?_);refine aQ rfl rfl (by rw[zC];omega) rfl ?_;refine aA (k+1) rfl rfl rfl rfl rfl (by omega) ?_;refine dq (e':=aP (gc M k)) rfl rfl rfl (zB _) (by rw[zC];omega) rfl ?_;rw[zC];refine aA k rfl rfl rfl rfl A (by omega) ?_;refine dq (es:=(M.map aP).set (k+1) (aP (gc M k))) (e':=aP (gc M (k+1))) rfl rfl rfl (zB _) (by rw[zC,List.getElem?_set_ne (by omega)];omega) rfl ?_;rw[zC,K];refine gE rfl (s (k,iW M (k+1)) ⟨by omega,by grind,Q,by grind⟩ (by simp) ?_)
    .refine cm rfl rfl ?_ rfl rfl rfl ⟨by rw[A];rfl,?_⟩
     .show(((iW M (k+1)).map aP).all (okD 356 _)&&true)=true;rw[rows_ok vX];rfl
     exact HasB.of ⟨⟨aU rfl (rH _),rfl⟩,⟨aU rfl (by grind),rfl⟩,⟨aU rfl (by grind),rfl⟩,⟨aU rfl rfl,rfl⟩,⟨aU rfl v,rfl⟩,tr⟩
   rw[af]at R;refine gE rfl (gE rfl (F (i+1,M) ⟨by simp,.inl r,by grind⟩ (by omega) ?_))
   .refine cm rfl rfl ?_ rfl rfl rfl ⟨by rw[U];rfl,?_⟩
    .show((M.map aP).all (okD 356 _)&&true)=true;rw[rows_ok vX];rfl
    exact HasB.of ⟨⟨aU rfl (rH _),rfl⟩,⟨aU rfl (by grind),rfl⟩,⟨aU rfl (by grind),rfl⟩,⟨aU rfl rfl,rfl⟩,⟨aU rfl v,rfl⟩,tr⟩
  rw[af]at J;obtain rfl:j=0:=by omega
  have I:bub S i L=M:=I;refine gg rfl (aj rfl (gE rfl (gE rfl (F (i+1,M) ⟨by simp,.inl r,by grind⟩ (by omega) ?_))))
  .refine cm rfl rfl ?_ rfl rfl rfl ⟨by rw[U];rfl,?_⟩
   .show((M.map aP).all (okD 356 _)&&true)=true;rw[rows_ok vX];rfl
   exact HasB.of ⟨⟨aU rfl (rH _),rfl⟩,⟨aU rfl (by grind),rfl⟩,⟨aU rfl (by grind),rfl⟩,⟨aU rfl rfl,rfl⟩,⟨aU rfl v,rfl⟩,tr⟩
 rw[af]at e
 have u:L=ef S l l.length:=by
  by_cases h0:l.length=0
  .have:i=1:=by omega
   rw[a,this,h0];rfl
  grind
 rw[<-u]at w;exact gE rfl (gg rfl (bd rfl rfl (w _ _ (HasB.of ⟨⟨rfl,rfl⟩,⟨rfl,rfl⟩,⟨rfl,rfl⟩,⟨rfl,rfl⟩,⟨rfl,rfl⟩,tr⟩))))
theorem VI (a b:D)(f:plain 4 a=true)(g:plain 4 b=true)(S:List Shp)(P:Hm)(i:P.all (plain 4)=true)(l:List Nat)(n:Nat)(j:l.length=n)(u:n<=19)(p:∀x∈l,x<S.length)
 {h:ab} {z:Frz} (q:HasB ((5,some (.row (l.map aP) 1))::jI a b S P) h z) {o:D->ab->Frz->Nat->Prop}
 (r:∀h' z',HasB ((5,some (.row ((ef S l n).map aP) 1))::jI a b S P) h' z'->o (.tup []) h' z' 480):
 wpM TT (shr TT 5) 195 [.code vk.1.code] .normal (enter [.ref 5 0 n,.fn 53 [] [.ptr 3 0 0]]) h z 195 (bB vk.1 o):=by
 subst j;obtain⟨⟨h0,rfl⟩,v,rfl⟩:=q;refine gg rfl (cf rfl rfl (gg rfl ?_))
 refine bO (S:=fun _:Nat=>([.ref 5 0 l.length,aa l.length,.fn 53 [] [.ptr 3 0 0],.int .i64 20,.int .i64 0,.int .i64 20,.bad],none::nn6,zz7))
  (O:=fun _ c d=>HasB ((5,some (.row (l.map aP) 1))::jI a b S P) c d) (C:=fun _=>True) (m:=fun _=>0) 0 tr (by omega) ?_ ?_
 .refine cm rfl rfl ?_ rfl rfl rfl ⟨rfl,?_⟩
  .show((l.map aP).all (okD 200 _)&&true)=true;rw[rows_ok vX];rfl
  exact HasB.of ⟨⟨aU rfl (rH _),rfl⟩,⟨aU rfl (by grind),rfl⟩,⟨aU rfl (by grind),rfl⟩,⟨aU rfl rfl,rfl⟩,⟨aU rfl i,rfl⟩,tr⟩
 intro _ _ c d k N s;obtain⟨⟨h1,rfl⟩,w,rfl⟩:=k;refine jC rfl (fun e=>absurd (bk.1 e) (by omega)) (fun _=>?_);refine gE rfl (gg rfl (cf rfl rfl (Si a b f g S P i l (by omega) p (HasB.of ⟨⟨rfl,rfl⟩,⟨rfl,rfl⟩,⟨rfl,rfl⟩,⟨rfl,rfl⟩,⟨rfl,rfl⟩,tr⟩) ?_)));intro h' z' t;obtain⟨⟨y,rfl⟩,A,rfl⟩:=t;generalize ef S l l.length=L at*;refine gg rfl ?_
 refine bO (S:=fun _:Nat=>([.ref 5 0 l.length,aa l.length,.fn 53 [] [.ptr 3 0 0],.int .i64 20,.bad],none::nn4,zz5))
  (O:=fun _ c d=>HasB ((5,some (.row (L.map aP) 1))::jI a b S P) c d) (C:=fun _=>True) (m:=fun _=>0) 0 tr (by omega) ?_ ?_
 .refine cm rfl rfl ?_ rfl rfl rfl ⟨rfl,?_⟩
  .show((L.map aP).all (okD 200 _)&&true)=true;rw[rows_ok vX];rfl
  exact HasB.of ⟨⟨aU rfl (rH _),rfl⟩,⟨aU rfl (by grind),rfl⟩,⟨aU rfl (by grind),rfl⟩,⟨aU rfl rfl,rfl⟩,⟨aU rfl i,rfl⟩,tr⟩
 intro _ _ c d k N s;obtain⟨⟨h3,rfl⟩,z3,rfl⟩:=k;refine jC rfl (fun e=>absurd (ad.1 e) (by omega)) (fun _=>?_);exact gE rfl (gE rfl (gg rfl (bd rfl rfl (r _ _ (HasB.of ⟨⟨rfl,rfl⟩,⟨rfl,rfl⟩,⟨rfl,rfl⟩,⟨rfl,rfl⟩,⟨rfl,rfl⟩,tr⟩)))))
theorem Zb (l:List Edge)(a:List Int):(oN l a).1.length<=40:=by
 grind[oN,u2,fj]
theorem Ec (s:Sty)(a b:Int):(fQ s a b).1.length<=40:=by
 grind[fQ,Zb]
def szI (l:List Int)(i:Nat):Int:=l.getD i 0
theorem D6 {l:List Int}{i:Nat}(h:i<l.length):szI l i=l[i]:=by grind[szI]
theorem vy {l:List Int}{i:Nat}(h:i<l.length):(l.map fun n=>D.int .i64 n)[i]?=some (.int .i64 (szI l i)):=by grind[szI]
def db (l:List Plc)(i:Nat):Plc:=l.getD i ⟨0,0,0,false,0,0,0⟩
theorem ZC {l:List Plc}{i:Nat}(h:i<l.length):db l i=l[i]:=by grind[db]
theorem q6 {l:List Plc}{i:Nat}(h:i<l.length):(l.map Plc.enc)[i]?=some (db l i).enc:=by grind[db]
def fZ (p:Plc)(g:Nat):Plc:=⟨g,p.use,p.copy,p.flip,p.quarter,p.x,p.y⟩
def cr (C:List Plc)(size:Int)(g c:Nat):List (Int×Plc):=(C.take c).map fun p=>(size,fZ p g)
def bR (C:List Plc)(sizes:List Int):Nat->List (Int×Plc)
 |0=>[]
 |g+1=>bR C sizes g++cr C (szI sizes g) g C.length
def fR (s:Sty)(j:Int×Plc):Shp:=(ga s j.1 j.2).1
def fJ (s:Sty)(j:Int×Plc):Int:=(ga s j.1 j.2).2
def gi (s:Sty)(n:Int):Bool:=decide (n<0) ||decide ((s.sizes.length:Int)<=n)
def bn (s:Sty)(sizes:List Int):List Shp×List Plc×Int:=
 if fx s≠0 then([],[],fx s)
 else if sizes.length<1\/6<sizes.length then([],[],3)
 else if sizes.any (gi s)=true then([],[],3)
 else if 60<(dV s).length*sizes.length then([],[],5)
 else if orF ((bR (dV s) sizes sizes.length).map (fJ s))≠0 then([],[],orF ((bR (dV s) sizes sizes.length).map (fJ s)))
 else((bR (dV s) sizes sizes.length).map (fR s),(bR (dV s) sizes sizes.length).map (·.2),0)
theorem Jl {C:List Plc}{c:Nat}(h:c<C.length)(size:Int)(g:Nat):cr C size g (c+1)=cr C size g c++[(size,fZ (db C c) g)]:=by
 grind[cr,List.take_succ_eq_append_getElem,ZC]
theorem A9 (C:List Plc)(sizes:List Int):∀g,(bR C sizes g).length=C.length*g
 |0=>rfl
 |g+1=>by rw[bR,zL,A9,cr,zA,zH,Nat.mul_succ]
theorem Ui (C:List Plc)(sizes:List Int){g m:Nat}(h:g<=m):∃r,bR C sizes m=bR C sizes g++r:=by
 induction h with
 |refl=>simp
 |step _ a=>
  grind[bR]
theorem Nv {s:Sty}{C:List Plc}{sizes:List Int}{g c m:Nat}(b:g<m)(f:c<C.length)(d:orF ((bR C sizes g++cr C (szI sizes g) g c).map (fJ s))=0)
 (e:fJ s (szI sizes g,fZ (db C c) g)≠0):orF ((bR C sizes m).map (fJ s))=fJ s (szI sizes g,fZ (db C c) g):=by
 obtain⟨r,hr⟩:=Ui C sizes (g:=g+1) (m:=m) b
 have h1:∃r',cr C (szI sizes g) g C.length=cr C (szI sizes g) g c++(szI sizes g,fZ (db C c) g)::r':=by
  refine⟨(C.drop (c+1)).map fun p=>(szI sizes g,fZ p g),?_⟩;grind[cr,ZC,List.take_append_drop,List.drop_eq_getElem_cons]
 obtain⟨r',a⟩:=h1;rw[hr,bR,a,z7,z7,<-z7 (bR C sizes g),zb,o9 _ _ d,xN,zg,orF,vd e]
theorem IS {s:Sty}{l:List (Int×Plc)}{j:Int×Plc}(a:orF (l.map (fJ s))=0)(b:fJ s j=0):orF ((l++[j]).map (fJ s))=0:=by
 grind[o9,orF]
theorem jr (x:Shp):plain 4 x.enc=true:=rfl
theorem RH (w x:D)(b3:plain 4 w=true)(b4:plain 4 x=true)(s:Sty)(sizes:List Int)(R:StyB s)(b5:sizes.length<=100000){h:ab}{z:Frz}(hh:HasB [(17,some (.row [w] 4)),(18,some (.row [x] 6))] h z){T:D->ab->Frz->Nat->Prop}
 (a:(bn s sizes).2.2≠0->∀U∈[68,79,98,112,147],∀h' z',HasB [(17,some (.row [w] 4)),(18,some (.row [x] 6))] h' z'->T (.tup [.nilsl,.nilsl,.int .i64 (bn s sizes).2.2]) h' z' U)
 (r:(bn s sizes).2.2=0->∀h' z',HasB ((33,some (.row ((bn s sizes).1.map Shp.enc) 5))::(34,some (.row ((bn s sizes).2.1.map Plc.enc) 7))::[(17,some (.row [w] 4)),(18,some (.row [x] 6))]) h' z'->
   T (.tup [.ref 33 0 (bn s sizes).1.length,.ref 34 0 (bn s sizes).2.1.length,.int .i64 0]) h' z' 169):
 wpM TT (shr TT 5) 31 [.code rM.1.code] .normal (enter [s.enc,ints sizes]) h z 31 (bB rM.1 T):=by
 obtain⟨⟨h0,rfl⟩,z0,rfl⟩:=hh;unfold bn at a r;refine jA rfl (sb s R) (jC rfl (fun e=>?_) (fun e=>?_))
 .rw[aO]at e;rw[ve e]at a;exact gg rfl (bd rfl rfl (a (by omega) 68 (by simp) _ _ (HasB.of ⟨⟨rfl,rfl⟩,⟨rfl,rfl⟩,tr⟩)))
 rw[aE]at e;have hu:=A7 (l:=s.uses) (fun u hu=>((lX e).use u hu).2.2.2) s.uses.length (zD _);have a7:=(lX e).uses;have V:(dV s).length<=48:=by rw[dV,eE];omega
 rw[vd (by simpa using e)]at a r;refine gg rfl (au rfl (fun W=>?_) (fun W=>?_))
 .rw[ad,zA]at W;rw[ve (.inl (by omega))]at a;exact gg rfl (ak rfl (gg rfl (bd rfl rfl (a (by simp) 79 (by simp) _ _ (HasB.of ⟨⟨rfl,rfl⟩,⟨rfl,rfl⟩,tr⟩)))))
 rw[af,zA]at W;refine gg rfl ?_;rw[zA];refine an rfl (fun X=>?_) (fun X=>?_)
 .rw[ad]at X;rw[ve (.inr (by omega))]at a;exact gg rfl (bd rfl rfl (a (by simp) 79 (by simp) _ _ (HasB.of ⟨⟨rfl,rfl⟩,⟨rfl,rfl⟩,tr⟩)))
 rw[af]at X;rw[eE]at a r;refine gg rfl ?_;rw[zA]
 refine bO (S:=fun k:Nat=>([ints sizes,.ptr 32 0 0,ints sizes,aa sizes.length,aa k],none::some (.row [s.enc] 7)::nn3,zz5))
  (O:=fun _ o t=>HasB [(17,some (.row [w] 4)),(18,some (.row [x] 6))] o t) (C:=fun k=>k<=sizes.length/\(sizes.take k).any (gi s)=false) (m:=fun k=>sizes.length-k) 0 ⟨zB _,rfl⟩ (by omega) ?_ ?_
 .exact ba rfl ⟨rfl,tr⟩ ⟨rfl,HasB.of ⟨⟨aF rfl (by grind[aI]),rfl⟩,⟨aF rfl (by grind[aI]),rfl⟩,tr⟩⟩
 intro k ⟨E,o⟩ hp t F N H;obtain⟨⟨h1,rfl⟩,z1,rfl⟩:=F;refine jC rfl (fun f=>?_) (fun f=>?_)
 .rw[ad]at f;have b:k<sizes.length:=by omega
  have Y:=wS (n:=k);have I:=jL (f:=gi s) b o;have d:=jO (f:=gi s) b;have Z:=vy b;rw[<-D6 b]at I d;generalize szI sizes k=v at*;have hb:gi s v=(decide (v<0) ||decide ((s.sizes.length:Int)<=v)):=rfl;refine jX k rfl rfl Z rfl (gg rfl (au rfl (fun q1=>?_) (fun q1=>?_)))
  .rw[ad]at q1;have i:gi s v=true:=by grind
   rw[ve (d i)]at a;exact gg rfl (ak rfl (gE rfl (gg rfl (bd rfl rfl (a (by simp) 98 (by simp) _ _ (HasB.of ⟨⟨rfl,rfl⟩,⟨rfl,rfl⟩,tr⟩))))))
  rw[af]at q1;refine gg rfl ?_;rw[zA];refine an rfl (fun q2=>?_) (fun q2=>?_)
  .rw[bk]at q2;have i:gi s v=true:=by grind
   rw[ve (d i)]at a;exact gE rfl (gg rfl (bd rfl rfl (a (by simp) 98 (by simp) _ _ (HasB.of ⟨⟨rfl,rfl⟩,⟨rfl,rfl⟩,tr⟩))))
  rw[aW]at q2;have y:gi s v=false:=by grind
  refine gE rfl (H (k+1) ⟨b,I y⟩ (by omega) ?_);exact ba rfl ⟨rfl,tr⟩ ⟨by rw[Y];rfl,HasB.of ⟨⟨aF rfl (by grind[aI]),rfl⟩,⟨aF rfl (by grind[aI]),rfl⟩,tr⟩⟩
 rw[af]at f;obtain rfl:k=sizes.length:=by omega
 rw[zH]at o;rw[vd (by rw[o];decide)]at a r;clear H;refine gE rfl (jA rfl (CI s R) ?_);generalize dV s=C at*
 have wm:IntKind.i64.wrap ((C.length:Int) *sizes.length)=((C.length*sizes.length:Nat):Int):=by
  have:=z6 V (show sizes.length<=6 by omega);grind[wrap64]
 refine gg rfl ?_;rw[zA,zA];refine an rfl (fun f2=>?_) (fun f2=>?_)
 .rw[ad,wm]at f2;rw[rA]at a;exact gg rfl (bd rfl rfl (a (by simp) 112 (by simp) _ _ (HasB.of ⟨⟨rfl,rfl⟩,⟨rfl,rfl⟩,tr⟩)))
 rw[af,wm]at f2;rw[eE]at a r;refine gg rfl ?_;rw[zA];have a2:=A9 C sizes
 refine bO (S:=fun k:Nat=>([.ptr 31 0 0,dA C,.ref 33 0 (bR C sizes k).length,.ref 34 0 (bR C sizes k).length,ints sizes,aa sizes.length,aa k],some (.row [s.enc] 7)::none::some (.row ((bR C sizes k).map fun j:Int×Plc=>(fR s j).enc) 5)::some (.row ((bR C sizes k).map fun j:Int×Plc=>j.2.enc) 7)::nn3,zz7))
  (O:=fun _ o t=>HasB [(17,some (.row [w] 4)),(18,some (.row [x] 6))] o t) (C:=fun k=>k<=sizes.length/\orF ((bR C sizes k).map (fJ s))=0) (m:=fun k=>sizes.length-k) 0 ⟨zB _,rfl⟩ (by omega) ?_ ?_
 .exact ba rfl ⟨rfl,rfl,rfl,tr⟩ ⟨rfl,HasB.of ⟨⟨aF rfl (by grind[aI]),rfl⟩,⟨aF rfl (by grind[aI]),rfl⟩,tr⟩⟩
 intro k ⟨E,a3⟩ hp t F N H;obtain⟨⟨h2,rfl⟩,z2,rfl⟩:=F;refine jC rfl (fun f=>?_) (fun f=>?_)
 .rw[ad]at f;have b:k<sizes.length:=by omega
  have Y:=wS (n:=k);have Z:=vy b
  have b7:(bR C sizes k).length<=60:=by
   rw[a2];exact zR (zf _ E) (by omega)
  have a4:bR C sizes (k+1)=bR C sizes k++cr C (szI sizes k) k C.length:=rfl;have K:=fun c hc A he=>Nv (s:=s) (C:=C) (sizes:=sizes) (g:=k) (c:=c) (m:=sizes.length) b hc A he;generalize szI sizes k=v at*;generalize bR C sizes k=J at*;refine jX k rfl rfl Z rfl (gg rfl ?_);rw[zA]
  refine bO (S:=fun c:Nat=>([.ptr 31 0 0,dA C,.ref 33 0 (J++cr C v k c).length,.ref 34 0 (J++cr C v k c).length,aa k,.int .i64 v,ints sizes,aa sizes.length,aa k,dA C,aa C.length,aa c],some (.row [s.enc] 7)::none::some (.row ((J++cr C v k c).map fun j:Int×Plc=>(fR s j).enc) 5)::some (.row ((J++cr C v k c).map fun j:Int×Plc=>j.2.enc) 7)::nn8,zz12))
   (O:=fun _ o t=>HasB [(17,some (.row [w] 4)),(18,some (.row [x] 6))] o t) (C:=fun c=>c<=C.length/\orF ((J++cr C v k c).map (fJ s))=0) (m:=fun c=>C.length-c) 0 ⟨zB _,by grind[cr]⟩ (by omega) ?_ ?_
  .exact ba rfl ⟨rfl,ae (fun j:Int×Plc=>jr (fR s j)) _,ae (fun j:Int×Plc=>dF j.2) _,tr⟩ ⟨by rw[show cr C v k 0=[]from rfl,yI];rfl,HasB.of ⟨⟨aF rfl (by grind[aI]),rfl⟩,⟨aF rfl (by grind[aI]),rfl⟩,tr⟩⟩
  intro c ⟨b0,A⟩ hp t F N9 L;obtain⟨⟨h3,rfl⟩,z3,rfl⟩:=F;refine jC rfl (fun f2=>?_) (fun f2=>?_)
  .rw[ad]at f2;have q:c<C.length:=by omega
   have w2:=wS (n:=c);have pe:=q6 q;have a5:=Jl q v k;have B:=K c q A;have c4:J.length+(cr C v k c).length<=108:=by grind[cr]
   generalize db C c=p at*;have M:=Di s v p R (zR (Ec _ _ _) (by decide));have P:fJ s (v,fZ p k)=(ga s v p).2:=rfl;have Q:fR s (v,fZ p k)=(ga s v p).1:=rfl;rw[P]at B;generalize cr C v k c=G at*;generalize ga s v p=so at*;obtain⟨so,er⟩:=so;dsimp only at M B P Q;refine jX c rfl rfl pe rfl (jA rfl M (jC rfl (fun f3=>?_) (fun f3=>?_)))
   .rw[aO]at f3;rw[rA,B f3]at a;exact gE rfl (gE rfl (gg rfl (bd rfl rfl (a f3 147 (by simp) _ _ (HasB.of ⟨⟨rfl,rfl⟩,⟨rfl,rfl⟩,tr⟩)))))
   rw[aE]at f3;refine gg rfl (bI rfl rfl rfl rfl rfl rfl (by simp) (zB _) (by grind[aK]) ?_);refine gg rfl (bI rfl rfl rfl rfl rfl rfl (by simp) (zB _) (by grind[aK]) ?_);refine gE rfl (L (c+1) ⟨q,?_⟩ (by omega) ?_);grind[IS]
   .rw[a5,<-z7];generalize J++G=JJ at*;refine ba rfl ⟨rfl,?_,?_,tr⟩ ⟨?_,HasB.of ⟨⟨aF rfl (by grind[aI]),rfl⟩,⟨aF rfl (by grind[aI]),rfl⟩,tr⟩⟩
    .rw[zY,ae (fun j:Int×Plc=>jr (fR s j))];rfl
    .rw[zY,ae (fun j:Int×Plc=>dF j.2)];rfl
    rw[w2,show(JJ++[(v,fZ p k)]).length=JJ.length+1 by simp,zb,zb,zg,zg,Q];rfl
  rw[af]at f2;obtain rfl:c=C.length:=by omega
  clear L;refine gE rfl (gE rfl (H (k+1) ⟨b,by grind⟩ (by omega) ?_));rw[a4];exact ba rfl ⟨rfl,ae (fun j:Int×Plc=>jr (fR s j)) _,ae (fun j:Int×Plc=>dF j.2) _,tr⟩ ⟨by rw[Y];rfl,HasB.of ⟨⟨aF rfl (by grind[aI]),rfl⟩,⟨aF rfl (by grind[aI]),rfl⟩,tr⟩⟩
 rw[af]at f;obtain rfl:k=sizes.length:=by omega
 clear H;rw[vd (by rw[a3];decide)]at a r;refine gE rfl (gg rfl (bd rfl rfl ?_));simp only[zA,yv]at r;exact r tr _ _ (HasB.of ⟨⟨rfl,rfl⟩,⟨rfl,rfl⟩,⟨rfl,rfl⟩,⟨rfl,rfl⟩,tr⟩)
theorem TM (w:D)(b2:plain 4 w=true)(s:Sty)(sizes:List Int)(Q:StyB s)(b3:sizes.length<=100000){h:ab}{z:Frz}(hh:HasB [(19,some (.row [w] 6))] h z){R:D->ab->Frz->Nat->Prop}
 (a:(bn s sizes).2.2≠0->∀T∈[71,82,101,115,150],∀h' z',HasB [(19,some (.row [w] 6))] h' z'->R (.tup [.nilsl,.nilsl,.int .i64 (bn s sizes).2.2]) h' z' T)
 (r:(bn s sizes).2.2=0->∀h' z',HasB ((36,some (.row ((bn s sizes).1.map Shp.enc) 5))::(37,some (.row ((bn s sizes).2.1.map Plc.enc) 7))::[(19,some (.row [w] 6))]) h' z'->
   R (.tup [.ref 36 0 (bn s sizes).1.length,.ref 37 0 (bn s sizes).2.1.length,.int .i64 0]) h' z' 172):
 wpM TT (shr TT 5) 34 [.code rM.1.code] .normal (enter [s.enc,ints sizes]) h z 34 (bB rM.1 R):=by
 obtain⟨⟨h0,rfl⟩,z0,rfl⟩:=hh;unfold bn at a r;refine jA rfl (sb s Q) (jC rfl (fun e=>?_) (fun e=>?_))
 .rw[aO]at e;rw[ve e]at a;exact gg rfl (bd rfl rfl (a (by omega) 71 (by simp) _ _ (HasB.of ⟨⟨rfl,rfl⟩,tr⟩)))
 rw[aE]at e;have hu:=A7 (l:=s.uses) (fun u hu=>((lX e).use u hu).2.2.2) s.uses.length (zD _);have a6:=(lX e).uses;have U:(dV s).length<=48:=by rw[dV,eE];omega
 rw[vd (by simpa using e)]at a r;refine gg rfl (au rfl (fun V=>?_) (fun V=>?_))
 .rw[ad,zA]at V;rw[ve (.inl (by omega))]at a;exact gg rfl (ak rfl (gg rfl (bd rfl rfl (a (by simp) 82 (by simp) _ _ (HasB.of ⟨⟨rfl,rfl⟩,tr⟩)))))
 rw[af,zA]at V;refine gg rfl ?_;rw[zA];refine an rfl (fun W=>?_) (fun W=>?_)
 .rw[ad]at W;rw[ve (.inr (by omega))]at a;exact gg rfl (bd rfl rfl (a (by simp) 82 (by simp) _ _ (HasB.of ⟨⟨rfl,rfl⟩,tr⟩)))
 rw[af]at W;rw[eE]at a r;refine gg rfl ?_;rw[zA]
 refine bO (S:=fun k:Nat=>([ints sizes,.ptr 35 0 0,ints sizes,aa sizes.length,aa k],none::some (.row [s.enc] 7)::nn3,zz5))
  (O:=fun _ o t=>HasB [(19,some (.row [w] 6))] o t) (C:=fun k=>k<=sizes.length/\(sizes.take k).any (gi s)=false) (m:=fun k=>sizes.length-k) 0 ⟨zB _,rfl⟩ (by omega) ?_ ?_
 .exact ba rfl ⟨rfl,tr⟩ ⟨rfl,HasB.of ⟨⟨aF rfl (by grind[aI]),rfl⟩,tr⟩⟩
 intro k ⟨B,o⟩ hp t E N F;obtain⟨⟨h1,rfl⟩,z1,rfl⟩:=E;refine jC rfl (fun f=>?_) (fun f=>?_)
 .rw[ad]at f;have b:k<sizes.length:=by omega
  have X:=wS (n:=k);have H:=jL (f:=gi s) b o;have d:=jO (f:=gi s) b;have Y:=vy b;rw[<-D6 b]at H d;generalize szI sizes k=v at*;have hb:gi s v=(decide (v<0) ||decide ((s.sizes.length:Int)<=v)):=rfl;refine jX k rfl rfl Y rfl (gg rfl (au rfl (fun Z=>?_) (fun Z=>?_)))
  .rw[ad]at Z;have i:gi s v=true:=by grind
   rw[ve (d i)]at a;exact gg rfl (ak rfl (gE rfl (gg rfl (bd rfl rfl (a (by simp) 101 (by simp) _ _ (HasB.of ⟨⟨rfl,rfl⟩,tr⟩))))))
  rw[af]at Z;refine gg rfl ?_;rw[zA];refine an rfl (fun q2=>?_) (fun q2=>?_)
  .rw[bk]at q2;have i:gi s v=true:=by grind
   rw[ve (d i)]at a;exact gE rfl (gg rfl (bd rfl rfl (a (by simp) 101 (by simp) _ _ (HasB.of ⟨⟨rfl,rfl⟩,tr⟩))))
  rw[aW]at q2;have x:gi s v=false:=by grind
  refine gE rfl (F (k+1) ⟨b,H x⟩ (by omega) ?_);exact ba rfl ⟨rfl,tr⟩ ⟨by rw[X];rfl,HasB.of ⟨⟨aF rfl (by grind[aI]),rfl⟩,tr⟩⟩
 rw[af]at f;obtain rfl:k=sizes.length:=by omega
 rw[zH]at o;rw[vd (by rw[o];decide)]at a r;clear F;refine gE rfl (jA rfl (CI s Q) ?_);generalize dV s=C at*
 have wm:IntKind.i64.wrap ((C.length:Int) *sizes.length)=((C.length*sizes.length:Nat):Int):=by
  have:=z6 U (show sizes.length<=6 by omega);grind[wrap64]
 refine gg rfl ?_;rw[zA,zA];refine an rfl (fun f2=>?_) (fun f2=>?_)
 .rw[ad,wm]at f2;rw[rA]at a;exact gg rfl (bd rfl rfl (a (by simp) 115 (by simp) _ _ (HasB.of ⟨⟨rfl,rfl⟩,tr⟩)))
 rw[af,wm]at f2;rw[eE]at a r;refine gg rfl ?_;rw[zA];have a1:=A9 C sizes
 refine bO (S:=fun k:Nat=>([.ptr 34 0 0,dA C,.ref 36 0 (bR C sizes k).length,.ref 37 0 (bR C sizes k).length,ints sizes,aa sizes.length,aa k],some (.row [s.enc] 7)::none::some (.row ((bR C sizes k).map fun j:Int×Plc=>(fR s j).enc) 5)::some (.row ((bR C sizes k).map fun j:Int×Plc=>j.2.enc) 7)::nn3,zz7))
  (O:=fun _ o t=>HasB [(19,some (.row [w] 6))] o t) (C:=fun k=>k<=sizes.length/\orF ((bR C sizes k).map (fJ s))=0) (m:=fun k=>sizes.length-k) 0 ⟨zB _,rfl⟩ (by omega) ?_ ?_
 .exact ba rfl ⟨rfl,rfl,rfl,tr⟩ ⟨rfl,HasB.of ⟨⟨aF rfl (by grind[aI]),rfl⟩,tr⟩⟩
 intro k ⟨B,a2⟩ hp t E N F;obtain⟨⟨h2,rfl⟩,z2,rfl⟩:=E;refine jC rfl (fun f=>?_) (fun f=>?_)
 .rw[ad]at f;have b:k<sizes.length:=by omega
  have X:=wS (n:=k);have Y:=vy b
  have b5:(bR C sizes k).length<=60:=by
   rw[a1];exact zR (zf _ B) (by omega)
  have a3:bR C sizes (k+1)=bR C sizes k++cr C (szI sizes k) k C.length:=rfl;have I:=fun c hc y he=>Nv (s:=s) (C:=C) (sizes:=sizes) (g:=k) (c:=c) (m:=sizes.length) b hc y he;generalize szI sizes k=v at*;generalize bR C sizes k=J at*;refine jX k rfl rfl Y rfl (gg rfl ?_);rw[zA]
  refine bO (S:=fun c:Nat=>([.ptr 34 0 0,dA C,.ref 36 0 (J++cr C v k c).length,.ref 37 0 (J++cr C v k c).length,aa k,.int .i64 v,ints sizes,aa sizes.length,aa k,dA C,aa C.length,aa c],some (.row [s.enc] 7)::none::some (.row ((J++cr C v k c).map fun j:Int×Plc=>(fR s j).enc) 5)::some (.row ((J++cr C v k c).map fun j:Int×Plc=>j.2.enc) 7)::nn8,zz12))
   (O:=fun _ o t=>HasB [(19,some (.row [w] 6))] o t) (C:=fun c=>c<=C.length/\orF ((J++cr C v k c).map (fJ s))=0) (m:=fun c=>C.length-c) 0 ⟨zB _,by grind[cr]⟩ (by omega) ?_ ?_
  .exact ba rfl ⟨rfl,ae (fun j:Int×Plc=>jr (fR s j)) _,ae (fun j:Int×Plc=>dF j.2) _,tr⟩ ⟨by rw[show cr C v k 0=[]from rfl,yI];rfl,HasB.of ⟨⟨aF rfl (by grind[aI]),rfl⟩,tr⟩⟩
  intro c ⟨a9,y⟩ hp t E N9 K;obtain⟨⟨h3,rfl⟩,z3,rfl⟩:=E;refine jC rfl (fun f2=>?_) (fun f2=>?_)
  .rw[ad]at f2;have q:c<C.length:=by omega
   have w2:=wS (n:=c);have pe:=q6 q;have a4:=Jl q v k;have A:=I c q y;have c0:J.length+(cr C v k c).length<=108:=by grind[cr]
   generalize db C c=p at*;have L:=Di s v p Q (zR (Ec _ _ _) (by decide));have M:fJ s (v,fZ p k)=(ga s v p).2:=rfl;have P:fR s (v,fZ p k)=(ga s v p).1:=rfl;rw[M]at A;generalize cr C v k c=G at*;generalize ga s v p=so at*;obtain⟨so,er⟩:=so;dsimp only at L A M P;refine jX c rfl rfl pe rfl (jA rfl L (jC rfl (fun f3=>?_) (fun f3=>?_)))
   .rw[aO]at f3;rw[rA,A f3]at a;exact gE rfl (gE rfl (gg rfl (bd rfl rfl (a f3 150 (by simp) _ _ (HasB.of ⟨⟨rfl,rfl⟩,tr⟩)))))
   rw[aE]at f3;refine gg rfl (bI rfl rfl rfl rfl rfl rfl (by simp) (zB _) (by grind[aK]) ?_);refine gg rfl (bI rfl rfl rfl rfl rfl rfl (by simp) (zB _) (by grind[aK]) ?_);refine gE rfl (K (c+1) ⟨q,?_⟩ (by omega) ?_);grind[IS]
   .rw[a4,<-z7];generalize J++G=JJ at*;refine ba rfl ⟨rfl,?_,?_,tr⟩ ⟨?_,HasB.of ⟨⟨aF rfl (by grind[aI]),rfl⟩,tr⟩⟩
    .rw[zY,ae (fun j:Int×Plc=>jr (fR s j))];rfl
    .rw[zY,ae (fun j:Int×Plc=>dF j.2)];rfl
    rw[w2,show(JJ++[(v,fZ p k)]).length=JJ.length+1 by simp,zb,zb,zg,zg,P];rfl
  rw[af]at f2;obtain rfl:c=C.length:=by omega
  clear K;refine gE rfl (gE rfl (F (k+1) ⟨b,by grind⟩ (by omega) ?_));rw[a3];exact ba rfl ⟨rfl,ae (fun j:Int×Plc=>jr (fR s j)) _,ae (fun j:Int×Plc=>dF j.2) _,tr⟩ ⟨by rw[X];rfl,HasB.of ⟨⟨aF rfl (by grind[aI]),rfl⟩,tr⟩⟩
 rw[af]at f;obtain rfl:k=sizes.length:=by omega
 clear F;rw[vd (by rw[a2];decide)]at a r;refine gE rfl (gg rfl (bd rfl rfl ?_));simp only[zA,yv]at r;exact r tr _ _ (HasB.of ⟨⟨rfl,rfl⟩,⟨rfl,rfl⟩,⟨rfl,rfl⟩,tr⟩)
section
variable {T:Tab}{sh:Shr}{nx0:Nat}{s:List Fr}{t:ai}{h:ab}{z:Frz}{nx:Nat}{q:Ex->ai->ab->Frz->Nat->Prop}
variable {base i:Nat}{res:List Nat}{g:Gd}{rest:List KOper}
theorem ti {e:El}{l x:X}{a id0 len c k:Nat}{es new:Hm}{m:Nat}(o:l.ev t=.ref id0 0 len)(hr:g.h base h id0=some (.row es e.n))(p:x.ev t=.ref c 0 k)(j:g.h base h c=some (.row new m))
 (r:k<=new.length) (A:(new.take k).all (fun d=>d.cells.length==e.n)=true) (u:len<=es.length) (v:g.z base z id0<=len) (w:(len+k) *(e.b+1)<=aK)
 (y:wpM T sh nx0 (.ops base res rest::s) .normal (upd t a (.ref (base+i) 0 (len+k))) (upd (upd h id0 none) (base+i) (some (.row (es.take len++new.take k) e.n))) (upd z (base+i) (g.z base z id0)) nx q):
 wpM T sh nx0 (.ops base res (⟨i,some a,none,g,.append e .sl l x⟩::rest)::s) .normal t h z nx q:=by
 refine bP ?_;have f:(new.take k).length=k:=by grind
 simp only[kop,rZ,p,mh,j];refine nc (by omega) (by grind) ?_;simp[kA,o,hr,f];exact dC ⟨u,v,w⟩ y
end
def iL (r:Rp)(p:Spot):Nat->Nat
 |0=>0
 |1=>1
 |m+2=>if ay (pt r m) (pt r (m+1)) p<=0 then iL r p (m+1)else m+2
def cu (l:Rp):Nat->Rp
 |0=>[]
 |k+1=>(cu l k).take (iL (cu l k) (pt l k) (cu l k).length)++[pt l k]
theorem o5 (l:Rp):∀k,(cu l k).length<=k
 |0=>zD _
 |k+1=>by
  have:=o5 l k;grind[cu]
theorem Bv (l:Rp)(k:Nat)(h:0<k):0<(cu l k).length:=by
 cases k with
 |zero=>omega
 |succ k=>simp[cu]
theorem tv (l:Rp):∀k,k<=l.length->∀s∈cu l k,s∈l
 |0,_,s,a=>by trivial
 |k+1,b,s,a=>by
  rw[cu,za]at a;rcases a with a|a
  .exact tv l k (by omega) s (zt a)
  grind[bc]
theorem J8 (r:Rp)(p:Spot){m:Nat}(h:1<m)(a:ay (pt r (m-2)) (pt r (m-1)) p<=0):iL r p m=iL r p (m-1):=by
 obtain⟨k,rfl⟩:∃k,m=k+2:=⟨m-2,by omega⟩;simp_all[iL]
theorem ZJ (r:Rp)(p:Spot){m:Nat}(h:¬(1<m/\ay (pt r (m-2)) (pt r (m-1)) p<=0)):iL r p m=m:=by
 match m,h with
 |0,_=>rfl
 |1,_=>rfl
 |k+2,h=>
  simp_all[iL,vd]
theorem QM (u:Unit)(w l:Rp)(V:w.take l.length=l)(i:0<l.length)(W:l.length<=30000)(j:∀s∈l,OkC s){h:ab}{z:Frz}(P:HasB ((11,some (.row (w.map Spot.enc) 2))::[]) h z){H:D->ab->Frz->Nat->Prop}
 (I:∀h' z',HasB ((11,some (.row (w.map Spot.enc) 2))::(111,some (.row ((cu l l.length).map Spot.enc) 2))::[]) h' z'->H (.ref 111 0 ((cu l l.length).length-1)) h' z' 170):
 wpM TT (shr TT 5) 111 [.code pP.1.code] .normal (enter [.ref 11 0 l.length]) h z 111 (bB pP.1 H):=by
 obtain⟨⟨h0,rfl⟩,X,rfl⟩:=P
 have Q:l.length<=w.length:=by
  grind
 have b:∀k,k<l.length->w[k]?=some (pt l k):=fun k I=>by
  grind[bc]
 refine gg rfl ?_
 refine bO (S:=fun k:Nat=>([.ref 111 0 (cu l k).length,.ref 11 0 l.length,aa l.length,aa k],some (.row ((cu l k).map Spot.enc) 2)::nn3,zz4))
  (O:=fun _ c d=>HasB ((11,some (.row (w.map Spot.enc) 2))::[]) c d) (C:=fun k=>k<=l.length) (m:=fun k=>l.length-k) 0 (zB _) (by omega) ?_ ?_
 .refine ba rfl ⟨rfl,ae am _,tr⟩ ⟨rfl,HasB.of ⟨⟨aF rfl (cj am _ _),rfl⟩,tr⟩⟩
 intro k R c d o N J;obtain⟨⟨h1,rfl⟩,Y,rfl⟩:=o;refine jC rfl (fun e=>?_) (fun e=>?_)
 .rw[ad]at e;have a:k<l.length:=by omega
  have Z:=wS (n:=k);have q:cu l (k+1)=(cu l k).take (iL (cu l k) (pt l k) (cu l k).length)++[pt l k]:=rfl;have t:=o5 l k;have f:=tv l k (by omega)
  haveI:OkC (pt l k):=j _ (by grind[bc])
  have T:=b k a;generalize cu l k=r at*;generalize pt l k=p at*;refine gg rfl (aA k rfl rfl rfl rfl rfl a (gg rfl (cb (enc:=Spot.enc) w k p rfl (zC _) (fun _=>rfl) rfl T (gg rfl ?_))))
  refine bO (S:=fun m:Nat=>([.ref 111 0 m,.ptr 112 0 0,.ref 11 0 l.length,aa l.length,aa k],some (.row (r.map Spot.enc) 2)::some (.row [p.enc] 2)::nn3,zz5))
   (O:=fun _ c d=>HasB ((11,some (.row (w.map Spot.enc) 2))::[]) c d) (C:=fun m=>m<=r.length/\iL r p r.length=iL r p m) (m:=fun m=>m) r.length ⟨zD _,rfl⟩ (by omega) ?_ ?_
  .refine ba rfl ⟨ae am _,rfl,ae am _,tr⟩ ⟨rfl,HasB.of ⟨⟨aF rfl (cj am _ _),rfl⟩,tr⟩⟩
  rintro m ⟨hm,g⟩ c d o N2 v;obtain⟨⟨h2,rfl⟩,z2,rfl⟩:=o;have wm:=ww (x:=(m:Int)-1);have U:=ww (x:=(m:Int)-2);refine gg rfl (au rfl (fun A=>?_) (fun A=>?_))
  .rw[ad]at A;have K:r[m-1]?=some (pt r (m-1)):=by grind[bc]
   have L:r[m-2]?=some (pt r (m-2)):=by grind[bc]
   haveI:OkC (pt r (m-1)):=j _ (f _ (zh K))
   haveI:OkC (pt r (m-2)):=j _ (f _ (zh L))
   have B:=J8 r p (m:=m) (by omega);have E:=ZJ r p (m:=m);refine gg rfl (aA (m-2) rfl rfl rfl rfl (by omega) (by omega) ?_);refine gg rfl (cb (enc:=Spot.enc) r (m-2) (pt r (m-2)) rfl (zC _) (fun _=>rfl) rfl L (gg rfl (aA (m-1) rfl rfl rfl rfl (by omega) (by omega) ?_)));refine gg rfl (cb (enc:=Spot.enc) r (m-1) (pt r (m-1)) rfl (zC _) (fun _=>rfl) rfl K ?_);generalize pt r (m-1)=y at*;generalize pt r (m-2)=x at*;refine jA rfl (OG x y p) (jC rfl (fun F=>?_) (fun F=>?_))
   .rw[bk]at F;refine gg rfl (fi (m-1) rfl rfl rfl ⟨_,_,rfl,by omega⟩ (by omega) ?_);refine gE rfl (v (m-1) ⟨by omega,by omega⟩ (by omega) (ba rfl ⟨ae am _,rfl,ae am _,tr⟩ ⟨rfl,HasB.of ⟨⟨aF rfl (cj am _ _),rfl⟩,tr⟩⟩))
   rw[aW]at F;refine gE rfl (gg rfl (ti rfl rfl rfl rfl (zD _) rfl (by grind) (zB _) (by grind[aK]) ?_));have G:(r.map Spot.enc).take m++[D.agg [.int .i64 p.x,.int .i64 p.y]].take 1=(r.take m++[p]).map Spot.enc:=by simp[Spot.enc]
   rw[G];refine gE rfl (J (k+1) a (by omega) ?_);refine ba rfl ⟨ae am _,ae am _,tr⟩ ⟨by grind[aa],HasB.of ⟨⟨aF rfl (cj am _ _),rfl⟩,tr⟩⟩
  rw[af]at A;rw[g,ZJ r p (by omega)]at q;refine gg rfl (aj rfl (gE rfl (gg rfl (ti rfl rfl rfl rfl (zD _) rfl (by grind) (zB _) (by grind[aK]) ?_))));have G:(r.map Spot.enc).take m++[D.agg [.int .i64 p.x,.int .i64 p.y]].take 1=(r.take m++[p]).map Spot.enc:=by simp[Spot.enc]
  rw[G];refine gE rfl (J (k+1) a (by omega) ?_);refine ba rfl ⟨ae am _,ae am _,tr⟩ ⟨by grind[aa],HasB.of ⟨⟨aF rfl (cj am _ _),rfl⟩,tr⟩⟩
 rw[af]at e;obtain rfl:k=l.length:=by omega
 have M:=Bv l l.length i;have t:=o5 l l.length;refine gE rfl (gg rfl (fi ((cu l l.length).length-1) rfl rfl rfl ⟨_,_,rfl,by grind[wrap64]⟩ (by omega) ?_));exact gg rfl (bd rfl rfl (I _ _ (HasB.of ⟨⟨rfl,rfl⟩,⟨rfl,rfl⟩,tr⟩)))
theorem R3 (c:Option Blk)(a:aI c=true)(w l:Rp)(W:w.take l.length=l)(o:0<l.length)(X:l.length<=30000)(q:∀s∈l,OkC s){h:ab}{z:Frz}(Q:HasB ((11,some (.row (w.map Spot.enc) 2))::[(111,c)]) h z){I:D->ab->Frz->Nat->Prop}
 (J:∀h' z',HasB ((11,some (.row (w.map Spot.enc) 2))::(213,some (.row ((cu l l.length).map Spot.enc) 2))::[(111,c)]) h' z'->I (.ref 213 0 ((cu l l.length).length-1)) h' z' 272):
 wpM TT (shr TT 5) 213 [.code pP.1.code] .normal (enter [.ref 11 0 l.length]) h z 213 (bB pP.1 I):=by
 obtain⟨⟨h0,rfl⟩,Y,rfl⟩:=Q
 have R:l.length<=w.length:=by
  grind
 have d:∀k,k<l.length->w[k]?=some (pt l k):=fun k J=>by
  grind[bc]
 refine gg rfl ?_
 refine bO (S:=fun k:Nat=>([.ref 213 0 (cu l k).length,.ref 11 0 l.length,aa l.length,aa k],some (.row ((cu l k).map Spot.enc) 2)::nn3,zz4))
  (O:=fun _ f g=>HasB ((11,some (.row (w.map Spot.enc) 2))::[(111,c)]) f g) (C:=fun k=>k<=l.length) (m:=fun k=>l.length-k) 0 (zB _) (by omega) ?_ ?_
 .refine ba rfl ⟨rfl,ae am _,tr⟩ ⟨rfl,HasB.of ⟨⟨aF rfl (cj am _ _),rfl⟩,⟨⟨aF rfl a,rfl⟩,tr⟩⟩⟩
 intro k T f g t N K;obtain⟨⟨h1,rfl⟩,Z,rfl⟩:=t;refine jC rfl (fun e=>?_) (fun e=>?_)
 .rw[ad]at e;have b:k<l.length:=by omega
  have w1:=wS (n:=k);have u:cu l (k+1)=(cu l k).take (iL (cu l k) (pt l k) (cu l k).length)++[pt l k]:=rfl;have v:=o5 l k;have i:=tv l k (by omega)
  haveI:OkC (pt l k):=q _ (by grind[bc])
  have U:=d k b;generalize cu l k=r at*;generalize pt l k=p at*;refine gg rfl (aA k rfl rfl rfl rfl rfl b (gg rfl (cb (enc:=Spot.enc) w k p rfl (zC _) (fun _=>rfl) rfl U (gg rfl ?_))))
  refine bO (S:=fun m:Nat=>([.ref 213 0 m,.ptr 214 0 0,.ref 11 0 l.length,aa l.length,aa k],some (.row (r.map Spot.enc) 2)::some (.row [p.enc] 2)::nn3,zz5))
   (O:=fun _ f g=>HasB ((11,some (.row (w.map Spot.enc) 2))::[(111,c)]) f g) (C:=fun m=>m<=r.length/\iL r p r.length=iL r p m) (m:=fun m=>m) r.length ⟨zD _,rfl⟩ (by omega) ?_ ?_
  .refine ba rfl ⟨ae am _,rfl,ae am _,tr⟩ ⟨rfl,HasB.of ⟨⟨aF rfl (cj am _ _),rfl⟩,⟨⟨aF rfl a,rfl⟩,tr⟩⟩⟩
  rintro m ⟨hm,j⟩ f g t N2 A;obtain⟨⟨h2,rfl⟩,z2,rfl⟩:=t;have wm:=ww (x:=(m:Int)-1);have V:=ww (x:=(m:Int)-2);refine gg rfl (au rfl (fun B=>?_) (fun B=>?_))
  .rw[ad]at B;have L:r[m-1]?=some (pt r (m-1)):=by grind[bc]
   have M:r[m-2]?=some (pt r (m-2)):=by grind[bc]
   haveI:OkC (pt r (m-1)):=q _ (i _ (zh L))
   haveI:OkC (pt r (m-2)):=q _ (i _ (zh M))
   have E:=J8 r p (m:=m) (by omega);have F:=ZJ r p (m:=m);refine gg rfl (aA (m-2) rfl rfl rfl rfl (by omega) (by omega) ?_);refine gg rfl (cb (enc:=Spot.enc) r (m-2) (pt r (m-2)) rfl (zC _) (fun _=>rfl) rfl M (gg rfl (aA (m-1) rfl rfl rfl rfl (by omega) (by omega) ?_)));refine gg rfl (cb (enc:=Spot.enc) r (m-1) (pt r (m-1)) rfl (zC _) (fun _=>rfl) rfl L ?_);generalize pt r (m-1)=y at*;generalize pt r (m-2)=x at*;refine jA rfl (OG x y p) (jC rfl (fun G=>?_) (fun G=>?_))
   .rw[bk]at G;refine gg rfl (fi (m-1) rfl rfl rfl ⟨_,_,rfl,by omega⟩ (by omega) ?_);refine gE rfl (A (m-1) ⟨by omega,by omega⟩ (by omega) (ba rfl ⟨ae am _,rfl,ae am _,tr⟩ ⟨rfl,HasB.of ⟨⟨aF rfl (cj am _ _),rfl⟩,⟨⟨aF rfl a,rfl⟩,tr⟩⟩⟩))
   rw[aW]at G;refine gE rfl (gg rfl (ti rfl rfl rfl rfl (zD _) rfl (by grind) (zB _) (by grind[aK]) ?_));have H:(r.map Spot.enc).take m++[D.agg [.int .i64 p.x,.int .i64 p.y]].take 1=(r.take m++[p]).map Spot.enc:=by simp[Spot.enc]
   rw[H];refine gE rfl (K (k+1) b (by omega) ?_);refine ba rfl ⟨ae am _,ae am _,tr⟩ ⟨by grind[aa],HasB.of ⟨⟨aF rfl (cj am _ _),rfl⟩,⟨⟨aF rfl a,rfl⟩,tr⟩⟩⟩
  rw[af]at B;rw[j,ZJ r p (by omega)]at u;refine gg rfl (aj rfl (gE rfl (gg rfl (ti rfl rfl rfl rfl (zD _) rfl (by grind) (zB _) (by grind[aK]) ?_))));have H:(r.map Spot.enc).take m++[D.agg [.int .i64 p.x,.int .i64 p.y]].take 1=(r.take m++[p]).map Spot.enc:=by simp[Spot.enc]
  rw[H];refine gE rfl (K (k+1) b (by omega) ?_);refine ba rfl ⟨ae am _,ae am _,tr⟩ ⟨by grind[aa],HasB.of ⟨⟨aF rfl (cj am _ _),rfl⟩,⟨⟨aF rfl a,rfl⟩,tr⟩⟩⟩
 rw[af]at e;obtain rfl:k=l.length:=by omega
 have P:=Bv l l.length o;have v:=o5 l l.length;refine gE rfl (gg rfl (fi ((cu l l.length).length-1) rfl rfl rfl ⟨_,_,rfl,by grind[wrap64]⟩ (by omega) ?_));exact gg rfl (bd rfl rfl (J _ _ (HasB.of ⟨⟨rfl,rfl⟩,⟨rfl,rfl⟩,⟨⟨rfl,rfl⟩,tr⟩⟩)))
def iF {α:Type}(c:α->α->Int)(x:α):List α->List α
 |[]=>[x]
 |y::l=>if c x y<0 then x::y::l else y::iF c x l
def dw {α:Type}(c:α->α->Int):List α->List α
 |[]=>[]
 |x::l=>iF c x (dw c l)
theorem BS {α:Type}{c:α->α->Int}{x z:α}:∀{l:List α},z∈iF c x l↔z=x\/z∈l
 |[]=>by simp[iF]
 |y::l=>by
  rw[iF];split
  simp
  .rw[zP,BS,zP];grind
theorem MT {α:Type}{c:α->α->Int}{z:α}:∀{l:List α},z∈dw c l↔z∈l
 |[]=>by rfl
 |x::l=>by rw[dw,BS,MT,zP]
theorem IR {α:Type}{c:α->α->Int}{x:α}:∀{l:List α},(iF c x l).length=l.length+1
 |[]=>rfl
 |y::l=>by rw[iF];split<;>simp[IR]
theorem qM {α:Type}{c:α->α->Int}:∀{l:List α},(dw c l).length=l.length
 |[]=>rfl
 |x::l=>by rw[dw,IR,qM];rfl
structure Ord3 {α:Type}(c:α->α->Int):Prop where
 refl:∀x,c x x=0
 anti:∀x y,c x y<0->0<c y x
 tot:∀x y,c x y<0\/x=y\/c y x<0
 trans:∀x y z,c x y<0->c y z<0->c x z<0
theorem Ord3.anti' {α:Type}{c:α->α->Int}(O:Ord3 c)(x y:α)(h:c x y<0):0<=c y x:=xQ (O.anti x y h)
theorem Ord3.zero {α:Type}{c:α->α->Int}(O:Ord3 c){x y:α}(h:c x y=0):x=y:=by
 rcases O.tot x y with k|k|k
 omega;omega
 .have:=O.anti y x k;omega
theorem Ku {α:Type}{c:α->α->Int}(O:Ord3 c)(x:α):∀{l:List α},l.Pairwise (fun a b=>c a b<0\/a=b)->(iF c x l).Pairwise fun a b=>c a b<0\/a=b
 |[],_=>by simp[iF]
 |y::l,h=>by
  rw[yl]at h;rw[iF];split
  .next g=>
   rw[yl,yl];refine⟨fun z d=>?_,h⟩;rcases zP.1 d with rfl|d
   omega
   .rcases h.1 z d with k|rfl
    .exact .inl (O.trans _ _ _ g k)
    omega
  next g=>
  rw[yl];refine⟨fun z d=>?_,Ku O x h.2⟩;rcases BS.1 d with rfl|d
  .rcases O.tot z y with k|k|k
   omega;grind;omega
  grind
theorem pN {α:Type}{c:α->α->Int}(O:Ord3 c):∀(l:List α),(dw c l).Pairwise fun a b=>c a b<0\/a=b
 |[]=>by simp[dw]
 |x::l=>Ku O x (pN O l)
section
variable {α:Type}{c:α->α->Int}{enc:α->D}{g:FuncId}{pu:Pure}(hp:∀x y,pu g [enc x,enc y]=some (.int .i64 (c x y)))
include hp
theorem AW (x y:α):fH pu g (enc x) (enc y)=some (c x y):=by grind[fH]
theorem HD (x:α):∀l:List α,iJ pu g (enc x) (l.map enc)=some ((iF c x l).map enc)
 |[]=>rfl
 |y::l=>by
  rw[zg,iJ,AW hp];simp;rw[iF];split
  .rfl
  rw[HD x l];rfl
theorem Ey:∀l:List α,jG pu g (l.map enc)=some ((dw c l).map enc)
 |[]=>rfl
 |x::l=>by
  rw[zg,jG,Ey l];exact HD hp x _
theorem BA (d:∀x,eqD (enc x) (enc x)=true)(hr:∀x,c x x=0)(e:∀x y,c x y<0->0<=c y x):∀{l:List α},(l.Pairwise fun a b=>c a b<0\/a=b)->okS pu g (l.map enc)=true
 |[],_=>rfl
 |x::l,h=>by
  rw[yl]at h;rw[zg,okS,BA d hr e h.2,AW hp,hr,Bool.and_true,xz,zJ];refine⟨rfl,?_⟩;rw[zM];intro y f;show jB pu g (enc x) (enc y)=true;unfold jB;rw[AW hp,AW hp,xF];grind
theorem tT (d:∀x,eqD (enc x) (enc x)=true)(hr:∀x,c x x=0)(e:∀x y,c x y<0->0<=c y x)(f:∀x,plain 4 (enc x)=true){k:Nat}(i:∀x,lY k (enc x)=true){h:ab}{z:Frz}{nx id sz:Nat}{l:List α}(j:(dw c l).Pairwise fun a b=>c a b<0\/a=b)(m:l.length<4611686018427387904)
 (n:h id=some (.row (l.map enc) sz)) (o:z id=0):
 fM pu [1,k] [.ref id 0 l.length,.fn g [] []] h z nx=some (.tup [],upd h id (some (.row ((dw c l).map enc) sz)),z,nx):=by
 simp_all[fM,sL,Ey,BA]
end
theorem cmpS_ord:Ord3 br where
 refl:=fun x=>by simp[br]
 anti:=fun x y h=>by grind[br]
 tot:=fun x y=>by
  unfold br;omega
 trans:=fun x y z h1 a=>by
  unfold br at*;omega
def OldE (b:Blk)(h:ab)(z:Frz):Prop:=(∃h0:ab,h=upd h0 11 (some b))/\∃a:Frz,z=upd a 11 0
theorem OldE.of {b:Blk}{h:ab}{z:Frz}(h1:h 11=some b)(a:z 11=0):OldE b h z:=
 ⟨⟨h,by grind[dY]⟩,z,by grind[dY]⟩
theorem OldE.old {nx0:Nat}{b:Blk}{h:ab}{z:Frz}(a:aI (some b)=true)(h1:h 11=some b)(c:z 11=0):OldE b (cz nx0 h) z:=
 OldE.of (oZ h1 a) c
theorem YP (a:Rp)(Z:a.length<=1000){h:ab}{z:Frz}{K:D->ab->Frz->Nat->Prop}
 (b:OldE (.row (a.map Spot.enc) 2) h z)
 (s:∀(w:Rp) (h':ab) (z':Frz) (nx:Nat),(nx=42\/nx=98\/nx=103)->OldE (.row (w.map Spot.enc) 2) h' z'->w.take (da a).length=da a->(da a).length<=w.length->K (.ref 11 0 (da a).length) h' z' nx):
 wpM TT (shr TT 5) 28 [.code Bp.1.code] .normal (enter [.ref 11 0 a.length]) h z 28 (bB Bp.1 K):=by
 obtain⟨⟨h0,rfl⟩,z0,rfl⟩:=b;refine jC rfl (fun q=>?_) (fun q=>?_)
 .rw[ad]at q
  have U:da a=a:=by
   match a,q with
   |[],_=>rfl
   |[x],_=>rfl
   |x::y::l,q=>grind
  refine gg rfl ?_;rw[U]at s;exact bd rfl rfl (s a _ _ _ (by simp) (OldE.of rfl rfl) (by simp) (zD _))
 rw[af]at q;refine gg rfl ?_
 refine bO (S:=fun x:Nat=>([.ref 11 0 a.length,aa x],[none,none],[0,0]))
  (O:=fun x t u=>OldE (.row (a.map Spot.enc) 2) t u)
  (C:=fun x=>1<=x/\x<=a.length/\da (a.take x)=a.take x) (m:=fun x=>a.length-x) 1 ⟨by omega,by omega,?_⟩ (by omega) ?_ ?_
 .match a,q with
  |x::y::l,_=>rfl
 .refine ba rfl ⟨ae am _,tr⟩ ⟨rfl,?_⟩;exact OldE.old (cj am _ _) rfl rfl
 rintro k ⟨B,V,e⟩ t u b N W;obtain⟨⟨h1,rfl⟩,z1,rfl⟩:=b;refine jC rfl (fun E=>?_) (fun E=>?_)
 .rw[ad]at E;have F:k<a.length:=by omega
  have w1:=wS (n:=k);have X:IntKind.i64.wrap ((k:Int)-1)=((k-1:Nat):Int):=by grind[wrap64]
  have G:=FT a B F;refine gg rfl (aA k rfl rfl rfl rfl rfl (by omega) ?_);refine gg rfl (cb (enc:=Spot.enc) a k (pt a k) rfl (zC _) (fun _=>rfl) rfl (by grind[bc]) ?_);refine gg rfl (aA (k-1) rfl rfl rfl rfl X (by omega) ?_);refine gg rfl (cb (enc:=Spot.enc) a (k-1) (pt a (k-1)) rfl (zC _) (fun _=>rfl) rfl (by grind[bc]) ?_);refine jC rfl (fun r=>?_) (fun r=>?_)
  .rw[hJ]at r;have r:=x7 r;rw[ve r.symm,yI,e]at G;refine gg rfl (dR k a.length rfl rfl rfl ⟨_,_,rfl,rfl⟩ rfl ⟨by omega,zD _⟩ ?_);rw[eE,eE];refine gg rfl ?_
   refine bO (S:=fun x:Nat×Nat=>([.ref 11 0 a.length,aa x.1,.ref 11 (0+k) (a.length-k),aa x.2],none::nn3,zz4))
    (O:=fun x t u=>∃w,CmpAt a x.1 (k+x.2) w/\OldE (.row (w.map Spot.enc) 2) t u)
    (C:=fun x=>1<=x.2/\x.2<=a.length-k) (m:=fun x=>a.length-k-x.2) (k,1) ⟨by omega,by omega⟩ (by omega) ?_ ?_
   .refine ba rfl ⟨ae am _,ae am _,tr⟩ ⟨rfl,a,?_,?_⟩
    .refine⟨rfl,by grind,by grind,by omega,fun x _ hx=>?_⟩;grind[bc]
    exact OldE.old (cj am _ _) rfl rfl
   rintro⟨i,d⟩ ⟨H,I⟩ t u ⟨w,⟨J,f,o,L,p⟩,b⟩ N2 v;obtain⟨⟨h2,rfl⟩,z2,rfl⟩:=b;simp only at H I f o L p;have wd:=wS (n:=d);have M:IntKind.i64.wrap ((d:Int)-1)=((d-1:Nat):Int):=by grind[wrap64]
   have wi:=wS (n:=i);refine jC rfl (fun P=>?_) (fun P=>?_)
   .rw[ad]at P;have R:k+d<a.length:=by omega
    have c:=FT a (j:=k+d) (by omega) R;have l1:=p (k+d) (by omega) R;have l2:=p (k+d-1) (by omega) (by omega);refine gg rfl (aA d rfl rfl rfl rfl rfl (by omega) ?_);refine gg rfl (cb (enc:=Spot.enc) w (k+d) (pt a (k+d)) rfl (by omega) (fun _=>rfl) rfl l1 ?_);refine gg rfl (aA (d-1) rfl rfl rfl rfl M (by omega) ?_);refine gg rfl (cb (enc:=Spot.enc) w (k+d-1) (pt a (k+d-1)) rfl (by omega) (fun _=>rfl) rfl l2 ?_);refine jC rfl (fun A=>?_) (fun A=>?_)
    .rw[hJ]at A;have A:¬pt a (k+d)=pt a (k+d-1):=by grind
     rw[vd (fun g=>A g.symm)]at c;refine gg rfl (aA d rfl rfl rfl rfl rfl (by omega) ?_);refine cb (enc:=Spot.enc) w (k+d) (pt a (k+d)) rfl (by omega) (fun _=>rfl) rfl l1 ?_;refine aA i rfl rfl rfl rfl rfl (by omega) ?_;refine gp (enc:=Spot.enc) w i (pt a (k+d)) rfl rfl (zC _) rfl (fun _=>rfl) rfl (zB _) (by omega) ?_;refine gE rfl (v (i+1,d+1) ⟨by simp,by omega⟩ (by omega) (ba rfl ⟨ae am _,ae am _,tr⟩ ⟨by grind[aa],w.set i (pt a (k+d)),⟨?_,?_,?_,?_,?_⟩,?_⟩));grind
     .rw[<-yG,c,<-f,yd (by grind),x9,yx (zD _)]
     grind;omega;grind
     .exact OldE.old (cj am _ _) rfl rfl
    rw[hJ]at A;refine gE rfl (v (i,d+1) ⟨by simp,by omega⟩ (by omega) (ba rfl ⟨ae am _,ae am _,tr⟩ ⟨by grind[aa],w,⟨J,?_,?_,?_,?_⟩,?_⟩));grind;grind;omega;grind
    .exact OldE.old (cj am _ _) rfl rfl
   rw[af]at P;have Q:k+d=a.length:=by omega
   rw[Q,zH]at f o;have T:=VM (l:=a) (by grind);refine gE rfl (gg rfl (dR i a.length rfl rfl rfl ⟨_,_,rfl,rfl⟩ rfl ⟨by omega,zD _⟩ ?_));rw[eE,eE];refine Ip rfl rfl rfl ⟨by grind,zB _⟩ ?_
   have Y:(w.map Spot.enc).take (0+i)++List.replicate (a.length-i) (D.agg [.int .i64 0,.int .i64 0])++(w.map Spot.enc).drop (0+i+(a.length-i))=(w.take i++List.replicate (a.length-i) (⟨0,0⟩:Spot)++w.drop (i+(a.length-i))).map Spot.enc:=by
    simp[Spot.enc]
   rw[Y];refine gg rfl (fi i rfl rfl rfl ⟨_,_,rfl,rfl⟩ (by omega) ?_);refine gE rfl (gg rfl (bd rfl rfl ?_));subst o;refine s _ _ _ _ (by simp) (OldE.of rfl rfl) ?_ ?_;grind;grind
  rw[hJ]at r;refine gE rfl (W (k+1) ⟨by omega,by omega,?_⟩ (by omega) (ba rfl ⟨ae am _,tr⟩ ⟨by grind[aa],?_⟩));grind[List.take_succ_eq_append_getElem,bc]
  .exact OldE.old (cj am _ _) rfl rfl
 rw[af]at E;obtain rfl:k=a.length:=by omega
 rw[zH]at e;refine gE rfl (gg rfl ?_);rw[e]at s;exact bd rfl rfl (s a _ _ _ (by simp) (OldE.of rfl rfl) (by simp) (zD _))
theorem rev172 (a c:Rp)(e:Option Blk)(d:aI e=true)(t:a.length<=1000000){h:ab}{z:Frz}{K:D->ab->Frz->Nat->Prop}
 (b:HasB [(11,some (.row ((a++c).map Spot.enc) 2)),(111,e)] h z)
 (p:∀(h':ab) (z':Frz),HasB [(11,some (.row ((a.reverse++c).map Spot.enc) 2)),(111,e)] h' z'->K (.tup []) h' z' 186):
 wpM TT (shr TT 5) 172 [.code qD.1.code] .normal (enter [.ref 11 0 a.length]) h z 172 (bB qD.1 K):=by
 obtain⟨⟨h0,rfl⟩,u,rfl⟩:=b;refine gg rfl ?_
 refine bO (S:=fun x:Nat=>([.ref 11 0 a.length,aa x,.int .i64 ((a.length:Int)-1-x)],none::nn2,zz3))
  (O:=fun x l o=>HasB [(11,some (.row ((dU a x++c).map Spot.enc) 2)),(111,e)] l o)
  (C:=fun x=>x<=a.length) (m:=fun x=>a.length-x) 0 (zB _) (by omega) ?_ ?_
 .have v:=ww (x:=(a.length:Int)-1);refine ba rfl ⟨ae am _,tr⟩ ⟨by grind[aa],?_⟩;rw[GS];exact HasB.of ⟨⟨aF rfl (cj am _ _),rfl⟩,⟨aF rfl d,rfl⟩,tr⟩
 rintro k q l o b N r;obtain⟨⟨h1,rfl⟩,w,rfl⟩:=b;refine jC rfl (fun f=>?_) (fun f=>?_)
 .rw[ad]at f;have g:2*k+1<a.length:=by omega
  have s:(a.length:Int)-1-k=((a.length-1-k:Nat):Int):=by omega
  have y:=wS (n:=k);have A:IntKind.i64.wrap (((a.length-1-k:Nat):Int)-1)=(a.length:Int)-1-((k+1:Nat):Int):=by grind[wrap64]
  have j:=Lu a g;have l1:=Bb a (i:=k) (m:=a.length-1-k) (by omega) (by omega) (by omega);have l2:=Bb a (i:=k) (m:=k) (by omega) (by omega) (by omega);rw[s];refine gg rfl (aA (a.length-1-k) rfl rfl rfl rfl rfl (by omega) ?_);refine cb (enc:=Spot.enc) (dU a k++c) (a.length-1-k) (pt a (a.length-1-k)) rfl (zC _) (fun _=>rfl) rfl (by grind) ?_;refine gg rfl (aA k rfl rfl rfl rfl rfl (by omega) ?_);refine cb (enc:=Spot.enc) (dU a k++c) k (pt a k) rfl (zC _) (fun _=>rfl) rfl (by grind) ?_;refine aA k rfl rfl rfl rfl rfl (by omega) ?_;refine gp (enc:=Spot.enc) (dU a k++c) k (pt a (a.length-1-k)) rfl rfl (zC _) rfl (fun _=>rfl) rfl (zB _) (by grind) ?_;refine aA (a.length-1-k) rfl rfl rfl rfl rfl (by omega) ?_;refine gp (enc:=Spot.enc) ((dU a k++c).set k (pt a (a.length-1-k))) (a.length-1-k) (pt a k) rfl rfl (zC _) rfl (fun _=>rfl) rfl (zB _) (by grind) ?_;rw[List.set_append_left _ _ (by grind),List.set_append_left _ _ (by grind),j];refine gE rfl (r (k+1) (by omega) (by omega) (ba rfl ⟨ae am _,tr⟩ ⟨by grind[aa],?_⟩));exact HasB.of ⟨⟨aF rfl (cj am _ _),rfl⟩,⟨aF rfl d,rfl⟩,tr⟩
 rw[af]at f;rw[OA a (by omega)];exact gE rfl (gg rfl (bd rfl rfl (p _ _ (HasB.of ⟨⟨rfl,rfl⟩,⟨rfl,rfl⟩,tr⟩))))
theorem Wj {f:FuncId}{fn:KFn}{args:Hm}{Q:D->Prop}(c:tab f=some fn)(b:wp (TT.at fn.hr) (shr TT 6) 0 fn.code (enter args) empty kl 0 (bB fn fun d h _ _=>ws2 h d Q))(q:fn.gv=[])(s:(fn.em&&fW args)=false):∃r,Q r/\PU f args=some r:=by
 obtain⟨F,t,h1,e,h3⟩:=tt_ok.tab f fn c
 have a:fn.hr=(fL f).hr:=by
  simp[jV]at h3;grind
 rw[a]at b;obtain⟨d,h',z',g,i,j⟩:=C4 (tt_ok.at' (fL f).hr) (J3 tt_ok 6) e h3 b;obtain⟨k,u,l⟩:=Lm i
 have m:(fL f).gv=[]:=by
  simp[jV]at h3;grind
 have n:((fL f).em&&fW args)=false:=by
  simp[jV]at h3;grind
 refine⟨k,l,rX (j.up.mono fun M o=>?_)⟩;obtain⟨v,rfl,p⟩:=o;simp[env];grind
theorem jh {f:FuncId}{fn:KFn}{args:Hm}{Q:D->Prop}(b:tab f=some fn)
 (a:wpM TT (shr TT 6) 0 [.code fn.code] .normal (enter args) empty kl 0 (bB fn fun d h _ _=>ws2 h d Q)) (c:fn.gv=[]:=by rfl) (e:(fn.em&&fW args)=false:=by rfl) (hr:fn.hr=[]:=by rfl):∃r,PU f args=some r/\Q r:=by
 simp only[wpM]at a;rw[show TT=TT.at fn.hr by rw[hr];rfl]at a;rw[show shr (TT.at fn.hr) 6=shr TT 6 by rw[hr];rfl]at a;obtain⟨r,g,i⟩:=Wj b a c e;grind
section
variable {T:Tab}{sh:Shr}{nx0:Nat}{t:ai}{h:ab}{z:Frz}{nx:Nat}
theorem bt {fn:KFn}{b:Ex}{Q:D->Prop}{d c:D}{a:List (Hm×Nat×Nat)}(j:(match b with|.exit _=>false|_=>true)=true)(e:ln t h fn.res=some d)(f:dr2 h d=some (a,c))(hr:gV a)(g:Q c):
 wpM T sh nx0 [] b t h z nx (bB fn fun d h _ _=>ws2 h d Q):=by
 refine bo ?_
 cases b with
 |exit i=>grind
 |normal=>exact kq e (AN f hr g)
 |ret=>exact kq e (AN f hr g)
end
theorem MD {f:FuncId}{fn:KFn}{args:Hm}{r:D}(a:tab f=some fn)(b:fn.gv≠[])(c:ib PU fn.gv args=some r):PU f args=some r:=
 rX (JU tt_ok a b c)
theorem cmpSp_ord:Ord3 cQ where
 refl:=fun x=>by unfold cQ;rw[cmpS_ord.refl,ve rfl,cmpS_ord.refl]
 anti:=fun x y h=>by grind[cQ,br]
 tot:=fun x y=>by
  unfold cQ;rcases cmpS_ord.tot x.x y.x with h|h|h
  omega
  .rw[h,cmpS_ord.refl,ve rfl,ve rfl];rcases cmpS_ord.tot x.y y.y with k|k|k
   omega
   .cases x;simp_all
   omega
  omega
 trans:=fun x y z h1 a=>by
  grind[cQ,br]
theorem uv (s:Spot):eqD s.enc s.enc=true:=by simp[eqD,eqL,Spot.enc]
theorem Ep {x:Spot}:∀{l:Rp},x∈da l->x∈l
 |[],h=>by trivial
 |[a],h=>h
 |a::b::l,h=>by
  rw[da]at h;split at h
  .exact zG _ (Ep h)
  rcases zP.1 h with rfl|h
  simp
  .exact zG _ (Ep h)
def HullR (l:Rp)(d:D):Prop:=∃r b,d=.tup [ac r,.bool b]/\(∀s∈r,s∈l)/\r.length<=2*l.length
theorem Xn:PU 285 [ac []]=some (.tup [ac [],.bool false]):=uK (n:=2) (by kernel_rfl)
theorem MI (l:Rp)(A:l.length<=1000)(C:∀s∈l,OkC s):∃d,PU 285 [ac l]=some d/\HullR l d:=by
 by_cases D:l=[]
 .subst D;exact⟨_,Xn,[],false,rfl,fun s h=>h,by simp⟩
 obtain⟨x,p,rfl⟩:∃x p,l=x::p:=by
  cases l with
  |nil=>grind
  |cons x p=>simp
 refine jh rfl (gg rfl (cf rfl rfl (gg rfl (aj rfl ?_))));generalize x::p=l at*;refine gg rfl (Av rfl rfl rfl (dS (f:=Spot.enc) (n:=2) (fun _=>rfl) _) rfl (zB _) (by grind[aK]) ?_);rw[yj,zA,zC l.length];refine gg rfl (bd rfl rfl (gg rfl (r8 rfl rfl (by trivial) (tT (c:=cQ) (enc:=Spot.enc) (l:=l) FX uv cmpSp_ord.refl cmpSp_ord.anti' am (fun _=>rfl) (pN cmpSp_ord l) (by omega) rfl rfl) ?_)));refine gg rfl (cf rfl rfl ?_);have q:(dw cQ l).length=l.length:=qM;have r:∀s,s∈dw cQ l->s∈l:=fun s h=>MT.1 h;rw[<-q]at A⊢;refine YP (dw cQ l) A (OldE.of rfl rfl) fun w h' z' E t b F G=>?_;have j:∀s∈da (dw cQ l),s∈l:=fun s h=>r s (Ep h);have H:=Wf (dw cQ l);obtain⟨⟨h1,rfl⟩,P,rfl⟩:=b;generalize da (dw cQ l)=c at*;have B:w=c++w.drop c.length:=by grind[List.take_append_drop]
 generalize w.drop c.length=k at B;subst B;have u:(c++k).take c.length=c:=by simp
 have v:(c.reverse++k).take c.reverse.length=c.reverse:=by simp
 have m:∀s∈c,OkC s:=fun s h=>C s (j s h);rcases t with rfl|rfl|rfl
 all_goals
  refine jC rfl (fun e=>?_) (fun e=>?_)
  .refine gg rfl (bt rfl rfl rfl tr ⟨[],false,rfl,by simp,by simp⟩)
  rw[af]at e;refine gg rfl (cf rfl rfl (QM () (c++k) c u (by omega) (by omega) m (HasB.of ⟨⟨rfl,rfl⟩,tr⟩) ?_));intro h' z' y;obtain⟨⟨Q,rfl⟩,R,rfl⟩:=y;have I:=tv c c.length (zD _);have l1:=o5 c c.length;have S:=Bv c c.length (by omega);generalize cu c c.length=a at*;refine gg rfl (cf rfl rfl (rev172 c k (some (.row (a.map Spot.enc) 2)) (cj am _ _) (by omega) (HasB.of ⟨⟨rfl,rfl⟩,⟨rfl,rfl⟩,tr⟩) fun h' z' b=>?_));obtain⟨⟨h3,rfl⟩,z3,rfl⟩:=b;have z:c.length=c.reverse.length:=by simp
  have o:∀s∈c.reverse,s∈c:=fun s h=>by simpa using h
  generalize c.reverse=i at*;rw[z];refine gg rfl (cf rfl rfl (R3 (some (.row (a.map Spot.enc) 2)) (cj am _ _) (i++k) i v (by omega) (by omega) (fun s h=>m s (o s h)) (HasB.of ⟨⟨rfl,rfl⟩,⟨rfl,rfl⟩,tr⟩) ?_));intro h' z' y;obtain⟨⟨T,rfl⟩,U,rfl⟩:=y;have J:=tv i i.length (zD _);have l2:=o5 i i.length;generalize cu i i.length=g at*;refine gg rfl (ti rfl rfl rfl rfl (by simp) ?_ (by simp) (zB _) (by simp[aK];omega) ?_)
  .rw[<-yD];exact dS (f:=Spot.enc) (n:=2) (fun _=>rfl) _
  have K:(a.map Spot.enc).take (a.length-1)++(g.map Spot.enc).take (g.length-1)=(a.take (a.length-1)++g.take (g.length-1)).map Spot.enc:=by simp[yD]
  rw[K]
  have L:∀s∈a.take (a.length-1)++g.take (g.length-1),s∈l:=fun s M=>by
   rcases za.1 M with h|h
   .exact j s (I s (zt h))
   exact j s (o s (J s (zt h)))
  have N:(a.take (a.length-1)++g.take (g.length-1)).length=a.length-1+(g.length-1):=by simp
  refine jC rfl (fun O=>?_) (fun O=>?_)
  .refine gg rfl (bt rfl rfl rfl tr ⟨[],false,rfl,by simp,by simp⟩)
  refine gg rfl (bt rfl rfl rfl ⟨bK (by simp) (bF fh _),tr⟩ ⟨a.take (a.length-1)++g.take (g.length-1),true,?_,L,by omega⟩);rw[bZ (by simp)];rfl
theorem K8 (a b:Rp)(c:a.length<=1000000):PU 274 [ac a,ac b]=some (.bool (decide (a=b))):=by
 refine PS rfl ?_
 repeat' (first
  |refine jP rfl ?_
  |refine gr rfl ?_|refine aq rfl ?_|refine au rfl ?_ ?_<;>intro _
  |refine ak rfl ?_|refine aj rfl ?_|refine an rfl ?_ ?_<;>intro _
  |refine aL rfl ?_ ?_<;>intro _
  |refine fI rfl ?_
  |refine aB rfl rfl (PF a b c) ?_)
 rfl
theorem Yd (a b:Rp)(c:a.length<=1000000)(d:b.length<=1000000):PU 271 [ac a,ac b]=some (.int .i64 (cmpL a b)):=by
 refine PS rfl ?_
 repeat' (first
  |refine jP rfl ?_
  |refine gr rfl ?_|refine aq rfl ?_|refine au rfl ?_ ?_<;>intro _
  |refine ak rfl ?_|refine aj rfl ?_|refine an rfl ?_ ?_<;>intro _
  |refine aL rfl ?_ ?_<;>intro _
  |refine fI rfl ?_
  |refine aB rfl rfl (Pm a b c d) ?_)
 rfl
theorem cmpL_ord:Ord3 cmpL where
 refl:=fun x=>by
  induction x with
  |nil=>rfl
  |cons a x d=>rw[cmpL,cmpSp_ord.refl,vd (by simp)];omega
 anti:=fun x y h=>by
  induction x generalizing y with
  |nil=>cases y with
   |nil=>trivial
   |cons b y=>trivial
  |cons a x d=>cases y with
   |nil=>trivial
   |cons b y=>
    rw[cmpL]at h⊢;split at h
    .have:=cmpSp_ord.anti a b h;omega
    next g=>
    have e:=cmpSp_ord.zero (x:=a) (y:=b) (by omega);grind
 tot:=fun x y=>by
  induction x generalizing y with
  |nil=>cases y with
   |nil=>simp
   |cons b y=>simp[cmpL]
  |cons a x d=>cases y with
   |nil=>simp[cmpL]
   |cons b y=>
    rcases cmpSp_ord.tot a b with k|k|k
    .rw[cmpL,rA];omega
    .subst k;rw[cmpL,cmpL,cmpSp_ord.refl,vd (by simp),vd (by simp)];grind
    right;rw[cmpL,rA];omega
 trans:=fun x y z h1 f=>by
  induction x generalizing y z with
  |nil=>cases y with
   |nil=>omega
   |cons b y=>cases z with
    |nil=>trivial
    |cons c z=>trivial
  |cons a x d=>cases y with
   |nil=>trivial
   |cons b y=>cases z with
    |nil=>trivial
    |cons c z=>
     rw[cmpL]at h1 f⊢;split at h1
     .split at f
      .have:=cmpSp_ord.trans a b c h1 f;omega
      have e:=cmpSp_ord.zero (x:=b) (y:=c) (by omega);grind
     have e:=cmpSp_ord.zero (x:=a) (y:=b) (by omega);grind
def cZ:Fv->Fv
 |[]=>[]
 |[a]=>[a]
 |a::b::l=>if a=b then cZ (b::l)else a::cZ (b::l)
theorem Ww (l:Fv)(x y:Rp):cZ (l++[x,y])=cZ (l++[x])++if x=y then []else [y]:=by
 induction l with
 |nil=>
  grind[cZ]
 |cons a l c=>
  cases l with
  |nil=>
   grind[cZ]
  |cons b l=>
   grind[cZ]
theorem LD (a:Fv){j:Nat}(h1:1<=j)(b:j<a.length):cZ (a.take (j+1))=cZ (a.take j)++if plg a (j-1)=plg a j then []else [plg a j]:=by
 obtain⟨m,rfl⟩:∃m,j=m+1:=⟨j-1,by omega⟩;grind[List.take_succ_eq_append_getElem,fw,Ww]
theorem PY (l:Fv):(cZ l).length<=l.length:=by
 induction l with
 |nil=>trivial
 |cons a l c=>
  cases l with
  |nil=>simp[cZ]
  |cons b l=>
   grind[cZ]
theorem Ue {l:Fv}(h:l≠[]):1<=(cZ l).length:=by
 induction l with
 |nil=>grind
 |cons a l c=>
  cases l with
  |nil=>simp[cZ]
  |cons b l=>
   grind[cZ]
def CmpAtP (a:Fv)(i j:Nat)(w:Fv):Prop:=w.length=a.length/\w.take i=cZ (a.take j)/\i=(cZ (a.take j)).length/\i<j/\∀x,j<=x+1->x<a.length->w[x]?=some (plg a x)
theorem UP (a:Fv)(Z:a.length<=100000)(R:∀i,(plg a i).length<=1000000){h:ab}{z:Frz}{K:D->ab->Frz->Nat->Prop}
 (b:HasB [(1,some (.row (a.map ac) 1))] h z)
 (r:∀(es:Hm) (h':ab) (z':Frz) (nx:Nat),h' 1=some (.row es 1)->es.take (cZ a).length=(cZ a).map ac->(cZ a).length<=es.length->K (.ref 1 0 (cZ a).length) h' z' nx):
 wpM TT (shr TT 5) 98 [.code uS.1.code] .normal (enter [.ref 1 0 a.length,.fn 274 [] []]) h z 98 (bB uS.1 K):=by
 obtain⟨⟨h0,rfl⟩,z0,rfl⟩:=b;refine jC rfl (fun q=>?_) (fun q=>?_)
 .rw[ad]at q
  have V:cZ a=a:=by
   match a,q with
   |[],_=>rfl
   |[x],_=>rfl
   |x::y::l,q=>grind
  refine gg rfl ?_;rw[V]at r;exact bd rfl rfl (r (a.map ac) _ _ _ rfl (by simp[zZ]) (by simp))
 rw[af]at q;refine gg rfl ?_
 refine bO (S:=fun x:Nat=>([.ref 1 0 a.length,.fn 274 [] [],aa x],none::nn2,zz3))
  (O:=fun x s t=>HasB [(1,some (.row (a.map ac) 1))] s t)
  (C:=fun x=>1<=x/\x<=a.length/\cZ (a.take x)=a.take x) (m:=fun x=>a.length-x) 1 ⟨by omega,by omega,?_⟩ (by omega) ?_ ?_
 .match a,q with
  |x::y::l,_=>rfl
 .refine ba rfl ⟨ae (fun _=>rfl) _,tr⟩ ⟨rfl,?_⟩;exact HasB.of ⟨⟨aF rfl (cj (fun _=>rfl) _ _),rfl⟩,tr⟩
 rintro k ⟨A,W,f⟩ s t b N X;obtain⟨⟨h1,rfl⟩,z1,rfl⟩:=b;refine jC rfl (fun B=>?_) (fun B=>?_)
 .rw[ad]at B;have E:k<a.length:=by omega
  have w1:=wS (n:=k);have Y:IntKind.i64.wrap ((k:Int)-1)=((k-1:Nat):Int):=by grind[wrap64]
  have F:=LD a A E;refine gg rfl (aA k rfl rfl rfl rfl rfl (by omega) ?_);refine gg rfl (cb (enc:=ac) a k (plg a k) rfl (zC _) (fun _=>rfl) rfl (by grind[fw]) ?_);refine gg rfl (aA (k-1) rfl rfl rfl rfl Y (by omega) ?_);refine gg rfl (cb (enc:=ac) a (k-1) (plg a (k-1)) rfl (zC _) (fun _=>rfl) rfl (by grind[fw]) ?_);refine gg rfl (Zu rfl rfl (aB rfl rfl (K8 (plg a k) (plg a (k-1)) (R _)) (jC rfl (fun v=>?_) (fun v=>?_))))
  .have v:=x7 v;rw[ve v.symm,yI,f]at F;refine gg rfl (dR k a.length rfl rfl rfl ⟨_,_,rfl,rfl⟩ rfl ⟨by omega,zD _⟩ ?_);rw[eE,eE];refine gg rfl ?_
   refine bO (S:=fun x:Nat×Nat=>([.ref 1 0 a.length,.fn 274 [] [],aa x.1,.ref 1 (0+k) (a.length-k),aa x.2],none::nn4,zz5))
    (O:=fun x s t=>∃w,CmpAtP a x.1 (k+x.2) w/\HasB [(1,some (.row (w.map ac) 1))] s t)
    (C:=fun x=>1<=x.2/\x.2<=a.length-k) (m:=fun x=>a.length-k-x.2) (k,1) ⟨by omega,by omega⟩ (by omega) ?_ ?_
   .refine ba rfl ⟨ae (fun _=>rfl) _,ae (fun _=>rfl) _,tr⟩ ⟨rfl,a,?_,?_⟩
    .refine⟨rfl,by grind,by grind,by omega,fun x _ hx=>?_⟩;grind[fw]
    exact HasB.of ⟨⟨aF rfl (cj (fun _=>rfl) _ _),rfl⟩,tr⟩
   rintro⟨i,d⟩ ⟨G,H⟩ s t ⟨w,⟨I,c,o,J,p⟩,b⟩ N2 u;obtain⟨⟨h2,rfl⟩,z2,rfl⟩:=b;simp only at G H c o J p;have wd:=wS (n:=d);have L:IntKind.i64.wrap ((d:Int)-1)=((d-1:Nat):Int):=by grind[wrap64]
   have wi:=wS (n:=i);refine jC rfl (fun M=>?_) (fun M=>?_)
   .rw[ad]at M;have T:k+d<a.length:=by omega
    have e:=LD a (j:=k+d) (by omega) T;have l1:=p (k+d) (by omega) T;have l2:=p (k+d-1) (by omega) (by omega);refine gg rfl (aA d rfl rfl rfl rfl rfl (by omega) ?_);refine gg rfl (cb (enc:=ac) w (k+d) (plg a (k+d)) rfl (by omega) (fun _=>rfl) rfl l1 ?_);refine gg rfl (aA (d-1) rfl rfl rfl rfl L (by omega) ?_);refine gg rfl (cb (enc:=ac) w (k+d-1) (plg a (k+d-1)) rfl (by omega) (fun _=>rfl) rfl l2 ?_);refine gg rfl (Zu rfl rfl (aB rfl rfl (K8 (plg a (k+d)) (plg a (k+d-1)) (R _)) (jC rfl (fun P=>?_) (fun P=>?_))))
    .have P:¬plg a (k+d)=plg a (k+d-1):=by grind
     rw[vd (fun g=>P g.symm)]at e;refine gg rfl (aA d rfl rfl rfl rfl rfl (by omega) ?_);refine cb (enc:=ac) w (k+d) (plg a (k+d)) rfl (by omega) (fun _=>rfl) rfl l1 ?_;refine aA i rfl rfl rfl rfl rfl (by omega) ?_;refine gp (enc:=ac) w i (plg a (k+d)) rfl rfl (zC _) rfl (fun _=>rfl) rfl (zB _) (by omega) ?_;refine gE rfl (u (i+1,d+1) ⟨by simp,by omega⟩ (by omega) (ba rfl ⟨ae (fun _=>rfl) _,ae (fun _=>rfl) _,tr⟩ ⟨by grind[aa],w.set i (plg a (k+d)),⟨?_,?_,?_,?_,?_⟩,?_⟩));grind
     .rw[<-yG,e,<-c,yd (by grind),x9,yx (zD _)]
     grind;omega;grind
     .exact HasB.of ⟨⟨aF rfl (cj (fun _=>rfl) _ _),rfl⟩,tr⟩
    refine gE rfl (u (i,d+1) ⟨by simp,by omega⟩ (by omega) (ba rfl ⟨ae (fun _=>rfl) _,ae (fun _=>rfl) _,tr⟩ ⟨by grind[aa],w,⟨I,?_,?_,?_,?_⟩,?_⟩));grind;grind;omega;grind
    .exact HasB.of ⟨⟨aF rfl (cj (fun _=>rfl) _ _),rfl⟩,tr⟩
   rw[af]at M;have Q:k+d=a.length:=by omega
   rw[Q,zH]at c o;have U:=Ue (l:=a) (by grind);refine gE rfl (gg rfl (dR i a.length rfl rfl rfl ⟨_,_,rfl,rfl⟩ rfl ⟨by omega,zD _⟩ ?_));rw[eE,eE];refine Ip rfl rfl rfl ⟨by grind,zB _⟩ (gg rfl (fi i rfl rfl rfl ⟨_,_,rfl,rfl⟩ (by omega) ?_));refine gE rfl (gg rfl (bd rfl rfl ?_));subst o;refine r _ _ _ _ rfl ?_ ?_
   .rw[zC,z7,List.take_append_of_le_length (by grind),List.take_take,Nat.min_self,<-yD,c]
   grind
  refine gE rfl (X (k+1) ⟨by omega,by omega,?_⟩ (by omega) (ba rfl ⟨ae (fun _=>rfl) _,tr⟩ ⟨by grind[aa],?_⟩));grind[List.take_succ_eq_append_getElem,fw]
  .exact HasB.of ⟨⟨aF rfl (cj (fun _=>rfl) _ _),rfl⟩,tr⟩
 rw[af]at B;obtain rfl:k=a.length:=by omega
 rw[zH]at f;refine gE rfl (gg rfl ?_);rw[f]at r;exact bd rfl rfl (r (a.map ac) _ _ _ rfl (by simp[zZ]) (by simp))
end Go.F
namespace Go.F
abbrev Ed:=Spot×Spot
def aX (a:Spot):Rp->Spot->List Ed
 |[],z=>[(a,z)]
 |x::l,z=>(a,x)::aX x l z
def aH:Rp->List Ed
 |[]=>[]
 |a::l=>aX a l a
theorem lN (q z:Spot)(l2:Rp):∀(a:Spot) (l1:Rp),aX a (l1++q::l2) z=aX a l1 q++aX q l2 z
 |_,[]=>rfl
 |a,x::l1=>by rw[xN,aX,lN q z l2 x l1,aX];rfl
theorem IP (z:Spot):∀(a:Spot) (l:Rp),aX a l z=(List.range (l.length+1)).map fun j=>(pt (a::l++[z]) j,pt (a::l++[z]) (j+1))
 |a,[]=>rfl
 |a,x::l=>by
  rw[aX,IP z x l,yM,List.range_succ_eq_map (n:=l.length+1),zg,yv];rfl
theorem Ew {p:Rp}(c:p≠[]):aH p=(List.range p.length).map fun j=>(vx p j,vx p (j+1)):=by
 cases p with
 |nil=>rfl
 |cons a l=>
  rw[aH,IP];apply yA;intro j b;have b:j<(a::l).length:=by grind
  have d:∀j,j<(a::l).length->pt (a::l++[a]) j=vx (a::l) j:=by
   grind[gt,pt]
  by_cases h:j+1<(a::l).length
  grind
  .have:j+1=(a::l).length:=by omega
   simp_all[vx,pt]
def su (s:Spot):Int:=16777216*s.x+s.y
def crE (e:Ed)(z:Int):Prop:=(su e.1<=z/\z<su e.2)\/(su e.2<=z/\z<su e.1)
instance (e:Ed)(z:Int):Decidable (crE e z):=by unfold crE;infer_instance
def sgE (e:Ed):Int:=if su e.1<su e.2 then 1 else-1
def tE (e:Ed):Rat:=((e.2.y:Rat)-(e.1.y:Rat))/((su e.2:Rat)-(su e.1:Rat))
def yE (e:Ed)(z:Int):Rat:=(e.1.y:Rat)+tE e*((z:Rat)-(su e.1:Rat))
def hE (e:Ed)(z:Int):Rat:=yE e z+yE e (z+1)
def upE (z:Int)(h:Rat)(e:Ed):Int:=if crE e z/\h<hE e z then sgE e else 0
def upW (E:List Ed)(z:Int)(h:Rat):Int:=(E.map (upE z h)).sum
theorem sd (E F:List Ed)(z:Int)(h:Rat):upW (E++F) z h=upW E z h+upW F z h:=by
 simp[upW]
theorem C9 (e:Ed)(F:List Ed)(z:Int)(h:Rat):upW (e::F) z h=upE z h e+upW F z h:=rfl
theorem ZH {a b:Spot}(c:su a≠su b)(z:Int):yE (b,a) z=yE (a,b) z:=by
 have h0:=qS c;grind[yE,tE]
theorem Sj (a b:Spot)(z:Int)(h:Rat):upE z h (b,a)= -upE z h (a,b):=by
 by_cases e:su a=su b
 .have:∀c d:Spot,su c=su d->¬crE (c,d) z:=fun c d j f=>by grind[crE]
  simp_all[upE]
 have f:crE (b,a) z↔crE (a,b) z:=by grind[crE]
 have i:hE (b,a) z=hE (a,b) z:=by grind[hE,ZH]
 unfold upE;rw[i];by_cases g:crE (a,b) z/\h<hE (a,b) z
 .unfold sgE;grind
 grind
theorem C3 (a q:Spot)(l1 l2:Rp)(z:Int)(h:Rat):upW (aH (a::(l1++q::l2))) z h=upW (aH (a::(l1++[q]))) z h+upW (aH (q::(l2++[a]))) z h:=by
 show upW (aX a (l1++q::l2) a) z h=upW (aX a (l1++[q]) a) z h+upW (aX q (l2++[a]) q) z h;rw[lN,lN,lN,sd,sd,sd];grind[upW,aX,Sj]
def yQ (e:Ed)(u:Rat):Rat:=(e.1.y:Rat)+tE e*(u-(su e.1:Rat))
def inQ (e:Ed)(u:Rat):Prop:=((su e.1:Rat)<=u/\u<=(su e.2:Rat))\/((su e.2:Rat)<=u/\u<=(su e.1:Rat))
def endE (v:Spot)(e:Ed):Prop:=v=e.1\/v=e.2
def sepE (e f:Ed):Prop:=∀s t:Rat,0<=s->s<=1->0<=t->t<=1->onP (qp e.1) (qp e.2) s=onP (qp f.1) (qp f.2) t->∃v,endE v e/\endE v f/\qp v=onP (qp e.1) (qp e.2) s
theorem sepE.symm {e f:Ed}(h:sepE e f):sepE f e:=fun s t h1 d h3 g i=>by
 obtain⟨v,a,b,c⟩:=h t s h3 g h1 d i.symm;grind
theorem JP {e:Ed}{u:Rat}(a:su e.1≠su e.2)(h:inQ e u):∃s:Rat,0<=s/\s<=1/\onP (qp e.1) (qp e.2) s=⟨(u-yQ e u)/16777216,yQ e u⟩:=by
 obtain⟨s,h1,b,_,c⟩:=W9 (p:=[e.1,e.2]) (j:=0) (u:=u) a h;exact⟨s,h1,b,c⟩
theorem tw {e f:Ed}(b:sepE e f)(c:su e.1≠su e.2)(d:su f.1≠su f.2){u:Rat}(g:inQ e u)(h:inQ f u)(m:yQ e u=yQ f u):
 ∃v,endE v e/\endE v f/\(su v:Rat)=u/\(v.y:Rat)=yQ e u:=by
 obtain⟨s,i,j,k⟩:=JP c g;obtain⟨t,t0,t1,n⟩:=JP d h;obtain⟨v,h1,o,h3⟩:=b s t i j t0 t1 (by grind);rw[k]at h3;have l:=zX QP.x h3;have a:=zX QP.y h3;simp only[qp]at l a;unfold su;grind
theorem mJ {e:Ed}{z:Int}(c:crE e z){u:Rat}(h1:(z:Rat)<=u)(a:u<=((z+1:Int):Rat)):inQ e u:=Q3 (p:=[e.1,e.2]) (i:=0) c h1 a
theorem BZ (e:Ed)(z:Int)(l:Rat):yQ e ((z:Rat)+l)=yE e z+(yE e (z+1)-yE e z) *l:=Vq [e.1,e.2] 0 z l
theorem kZ {e:Ed}{z:Int}(c:crE e z):su e.1≠su e.2:=by grind[crE]
theorem GU {e f:Ed}(k:sepE e f){z:Int}(i:crE e z)(j:crE f z)(h1:yE e z<yE f z)(w:yE f (z+1)<yE e (z+1)):False:=by
 generalize m:yE e z=b at*;generalize n:yE e (z+1)=d at*;generalize o:yE f z=c at*;generalize p:yE f (z+1)=h at*;have q:(c-b)+(d-h)≠0:=by grind
 have r:=yK (a:=c-b) q;generalize x:(c-b)/((c-b)+(d-h))=l at r
 have y:0<l:=by
  rcases iy l 0 with g|g
  .have:=zW (show 0<= -l by grind) (show 0<=(c-b)+(d-h)by grind);grind
  grind
 have l1:l<1:=by
  rcases iy 1 l with g|g
  .have:=zW (show 0<=l-1 by grind) (show 0<=(c-b)+(d-h)by grind);grind
  grind
 obtain⟨v,_,_,A,_⟩:=tw k (kZ i) (kZ j) (u:=(z:Rat)+l) (mJ i (by grind) (by grind)) (mJ j (by grind) (by grind)) (by
  grind[BZ])
 have s:(z:Rat)<(su v:Rat):=by grind
 have t:(su v:Rat)<((z+1:Int):Rat):=by grind
 rw[Rat.intCast_lt_intCast]at s t;omega
def twinE (e f:Ed):Prop:=∃v w,v≠w/\endE v e/\endE w e/\endE v f/\endE w f
theorem Ps {e f:Ed}(c:sepE e f)(d:¬twinE e f){z:Int}(a:crE e z)(b:crE f z)(h1:yE e z=yE f z)(g:yE e (z+1)=yE f (z+1)):False:=by
 obtain⟨v,h,i,k,_⟩:=tw c (kZ a) (kZ b) (u:=(z:Rat)) (mJ a (by grind) (by grind)) (mJ b (by grind) (by grind)) h1;obtain⟨w,j,b2,l,_⟩:=tw c (kZ a) (kZ b) (u:=((z+1:Int):Rat)) (mJ a (by grind) (by grind)) (mJ b (by grind) (by grind)) g;refine d ⟨v,w,?_,h,j,i,b2⟩;grind
def leE (e f:Ed)(z:Int):Prop:=yE e z<=yE f z/\yE e (z+1)<=yE f (z+1)/\hE e z<hE f z
theorem tB {e f:Ed}(a:sepE e f)(d:¬twinE e f){z:Int}(b:crE e z)(c:crE f z):leE e f z\/leE f e z:=by
 have g:=GU a b c;have h:=GU a.symm c b;grind[Ps,leE,hE]
structure SepP (p:Rp):Prop where
 n3:3<=p.length
 ok:OkP p
 nd:p.Nodup
 sep:∀e∈aH p,∀f∈aH p,e≠f->sepE e f
theorem AF {a b:Spot}(c:OkS a)(d:OkS b)(h:su a=su b):a=b:=by
 have:=c.byy;have:=d.byy;unfold su at h;cases a;cases b;grind
theorem De {p:Rp}(h:0<p.length)(i:Nat):vx p i∈p:=by
 grind[vx,bc,Nat.mod_lt]
theorem p9 {p:Rp}(a:p.Nodup)(h:0<p.length){i j:Nat}(b:vx p i=vx p j):i%p.length=j%p.length:=by
 grind[vx,bc,Nat.mod_lt,List.pairwise_iff_getElem]
theorem fF {p:Rp}(h:0<p.length){e:Ed}:e∈aH p↔∃i,i<p.length/\e=(vx p i,vx p (i+1)):=by
 rw[Ew (by grind)];grind
section
variable {p:Rp}(hp:SepP p)
include hp
theorem SepP.pos:0<p.length:=by have:=hp.n3;omega
theorem SepP.vne (i:Nat):vx p i≠vx p (i+1):=by
 intro h;have:=p9 hp.nd hp.pos h;have h3:=hp.n3;have h1:=zI i hp.pos;rw[Nat.add_mod,zU (show 1<p.length by omega)]at this;by_cases g:i%p.length+1<p.length
 grind[Nat.mod_eq_of_lt];grind[Nat.mod_self]
theorem SepP.sune (i:Nat):su (vx p i)≠su (vx p (i+1)):=fun h=>hp.vne i (AF (hp.ok.ok _ (De hp.pos _)) (hp.ok.ok _ (De hp.pos _)) h)
theorem SepP.twin {i j:Nat}(hi:i<p.length)(c:j<p.length)(a:i≠j):¬twinE (vx p i,vx p (i+1)) (vx p j,vx p (j+1)):=by
 rintro⟨v,w,b,h1,d,h3,e⟩;have f:=hp.n3;have g:∀{k l:Nat},vx p k=vx p l->k%p.length=l%p.length:=fun h=>p9 hp.nd hp.pos h;have m:∀k,k<p.length->k%p.length=k:=fun k h=>zU h
 have n:∀k,k<p.length->(k+1)%p.length=if k+1=p.length then 0 else k+1:=by
  intro k o;split
  simp_all
  .exact zU (by omega)
 grind[endE]
theorem SepP.ene {i j:Nat}(hi:i<p.length)(b:j<p.length)(a:i≠j):(vx p i,vx p (i+1))≠(vx p j,vx p (j+1)):=by
 intro h;have:=p9 hp.nd hp.pos (zX Prod.fst h);grind[Nat.mod_eq_of_lt]
theorem SepP.sepi {i j:Nat}(hi:i<p.length)(b:j<p.length)(a:i≠j):sepE (vx p i,vx p (i+1)) (vx p j,vx p (j+1)):=
 hp.sep _ ((fF hp.pos).2 ⟨i,hi,rfl⟩) _ ((fF hp.pos).2 ⟨j,b,rfl⟩) (hp.ene hi b a)
theorem SepP.smU:SmU p.length (shU p) (shV p) (shT p) where
 cU:=by simp[shU,vx]
 cV:=by simp[shV,vx]
 ne:=fun j _=>hp.sune j
 yt:=fun j _=>by
  have t:=qS (hp.sune j);grind[yU,shT,shU,su]
 n3:=hp.n3
 same:=fun i j z hi b a d e=>tB (hp.sepi hi b a) (hp.twin hi b a) d e
 tch:=fun i j z hi b a d e g=>by
  have k:∀i,inU (shU p) i z->inQ (vx p i,vx p (i+1)) (z:Rat):=by
   intro i c;unfold inQ;simp only[yF];exact c
  obtain⟨v,h1,l,h3,_⟩:=tw (hp.sepi hi b a) (hp.sune i) (hp.sune j) (k i d) (k j e) g;have h3:su v=z:=by simp_all
  have n:∃m,(m=i\/m=i+1)/\v=vx p m:=by
   rcases h1 with h|h
   grind;grind
  have o:∃m,(m=j\/m=j+1)/\v=vx p m:=by
   rcases l with h|h
   grind;grind
  obtain⟨m,r,f⟩:=n;obtain⟨m',s,b2⟩:=o;refine⟨m,m',r,s,by rw[<-h3,f];rfl,?_⟩;have q:=p9 hp.nd hp.pos (f.symm.trans b2);have l1:m<=p.length:=by omega
  have l2:m'<=p.length:=by omega
  have u:∀k,k<=p.length->k%p.length=if k=p.length then 0 else k:=by
   intro k w;split
   simp_all
   .exact zU (by omega)
  grind
end
theorem ifc {α:Type}{b c:Prop}{i:Decidable b}{j:Decidable c}{x y:α}(h:b↔c): @ite α b i x y= @ite α c j x y:=by
 grind
theorem Hv (f:Nat->Int):∀n,((List.range n).map f).sum=sm f n
 |0=>rfl
 |n+1=>by rw[xo,zb,vN,Hv f n,sm];simp
def edI (p:Rp)(i:Nat):Ed:=(vx p i,vx p (i+1))
theorem BP {p:Rp}(h:0<p.length)(z:Int)(y:Rat):upW (aH p) z y=sm (fun j=>upE z y (edI p j)) p.length:=by
 unfold upW;rw[Ew (by grind),yv,<-Hv];rfl
structure WcP (p:Rp)(c:Int):Prop where
 at_:∀e∈aH p,∀z,crE e z->upW (aH p) z (hE e z)=(if sgE e= -1 then 1 else 0)-c
 c01:c=0\/c=1
theorem c_sign {n:Nat}{U V:Nat->Int}{t:Nat->Rat}(h:SmU n U V t){c:Int}(f:∀i,i<n->∀z,crU U i z->wU n U V t i z=c):
 (c=1/\∀z,ku n U V t z<=0/\(∀i,i<n->crU U i z->ku n U V t z<0))\/(c=0/\∀z,0<=ku n U V t z/\(∀i,i<n->crU U i z->0<ku n U V t z)):=by
 have g:∀z i,i<n->crU U i z->iB n U V t z≠[]:=by
  intro z i hi o p;simp_all[iB]
 have j:c=0\/c=1:=by
  have h0:=h.ne 0 (by have:=h.n3;omega);have m:crU U 0 (min (U 0) (U 1)):=by unfold crU;grind
  obtain⟨a,l,b,d,_⟩:=EJ h f (min (U 0) (U 1));have:=Cd l (g _ 0 (by have:=h.n3;omega) m)
  cases a with
  |nil=>grind
  |cons e r=>
   grind[kb]
 rcases j with rfl|rfl
 .refine .inr ⟨rfl,fun z=>?_⟩;obtain⟨a,l,b,d,h1⟩:=EJ h f z;have k:=FB a d b h1;grind[FY,Fu,Cd]
 refine .inl ⟨rfl,fun z=>?_⟩;obtain⟨a,l,b,d,h1⟩:=EJ h f z;have k:=I5 a d b h1;grind[FY,Fu,Cd]
theorem c_area {n:Nat}{U V:Nat->Int}{t:Nat->Rat}(h:SmU n U V t){c:Int}(l:∀i,i<n->∀z,crU U i z->wU n U V t i z=c):
 (c=1/\sm (fun j=>U (j+1) *V j-U j*V (j+1)) n<0)\/(c=0/\0<sm (fun j=>U (j+1) *V j-U j*V (j+1)) n):=by
 obtain⟨lo,N,a⟩:=Qz U n;have e:=TS h.toClU lo N a;have h3:=h.n3;have m:=h.ne 0 (by omega);have o:=a 0 (by omega);have p:=a 1 (by omega);simp at m;have b:crU U 0 (lo+(((min (U 0) (U 1))-lo).toNat:Int)):=by unfold crU;grind
 have d:((min (U 0) (U 1))-lo).toNat<N:=by omega
 rcases c_sign h l with⟨rfl,g⟩ |⟨rfl,g⟩
 .left;have:=Vr (f:=fun k=>ku n U V t (lo+(k:Int))) (fun j=>(g _).1) d ((g _).2 0 (by omega) b);rw[e]at this;exact⟨rfl,by exact_mod_cast this⟩
 right;have:=Rf (f:=fun k=>ku n U V t (lo+(k:Int))) (fun j=>(g _).1) d ((g _).2 0 (by omega) b);rw[e]at this;exact⟨rfl,by exact_mod_cast this⟩
theorem SepP.wc {p:Rp}(a:SepP p):(WcP p 1/\0<dJ p)\/(WcP p 0/\dJ p<0):=by
 obtain⟨c,b⟩:=Yv a.smU;have j:=Ss p p.length (zD _)
 have d:∀e∈aH p,∀z,crE e z->upW (aH p) z (hE e z)=(if sgE e= -1 then 1 else 0)-c:=by
  intro e f z g;obtain⟨i,hi,rfl⟩:=(fF a.pos).1 f;have h1:=b i hi z g;unfold wU at h1
  have k:sm (upM (shU p) (shV p) (shT p) z i) p.length=upW (aH p) z (hE (vx p i,vx p (i+1)) z):=by
   rw[BP a.pos];rfl
  have h3:(if sgU (shU p) i= -1 then(1:Int)else 0)=if sgE (vx p i,vx p (i+1))= -1 then 1 else 0:=rfl
  omega
 rcases c_area a.smU b with⟨rfl,h⟩ |⟨rfl,h⟩
 .left;refine⟨⟨d,.inr rfl⟩,?_⟩;grind[dJ]
 right;refine⟨⟨d,.inl rfl⟩,?_⟩;grind[dJ]
theorem DK (e:Ed):sgE e=1\/sgE e= -1:=by grind[sgE]
theorem SepP.wrange {p:Rp}(d:SepP p){c:Int}(r:WcP p c)(z:Int)(y:Rat):upW (aH p) z y= -c\/upW (aH p) z y=1-c:=by
 have l:∀m,m<=p.length->(∀j,j<m->¬(crE (edI p j) z/\y<hE (edI p j) z))\/∃o,o<m/\(crE (edI p o) z/\y<hE (edI p o) z)/\∀j,j<m->crE (edI p j) z->y<hE (edI p j) z->hE (edI p o) z<=hE (edI p j) z:=by
  intro m
  induction m with
  |zero=>simp
  |succ m t=>
   grind
 have u:=r.c01;rcases l p.length (zD _)with h|⟨o,i,⟨q,lo⟩,s⟩
 .have:upW (aH p) z y=0:=by
   rw[BP d.pos,py (g:=fun _=>0) (fun j k=>show upE z y (edI p j)=0 from vd (h j k))]
   induction p.length with
   |zero=>rfl
   |succ n t=>grind[sm]
  omega
 have h1:=r.at_ (edI p o) ((fF d.pos).2 ⟨o,i,rfl⟩) z q;rw[BP d.pos]at h1⊢
 have v:=CF (f:=fun j=>upE z y (edI p j)) (f':=fun j=>upE z (hE (edI p o) z) (edI p j)) i (by
  intro j k e;refine ifc ⟨fun⟨a,b⟩=>⟨a,?_⟩,fun⟨a,b⟩=>⟨a,by grind⟩⟩;rcases tB (d.sepi i k (Ne.symm e)) (d.twin i k (Ne.symm e)) q a with g|g
  .exact g.2.2
  have:=g.2.2
  grind[edI])
 have h3:upE z y (edI p o)=sgE (edI p o):=ve ⟨q,lo⟩;have w:upE z (hE (edI p o) z) (edI p o)=0:=vd fun h=>by grind
 rcases DK (edI p o)with g|g
 omega;omega
theorem pW {e f:Ed}{z:Int}(h:leE e f z){u:Rat}(h1:(z:Rat)<=u)(g:u<=((z+1:Int):Rat)):yQ e u<=yQ f u:=by
 obtain⟨a,b,_⟩:=h;have c:u=(z:Rat)+(u-z):=by grind
 rw[c,BZ,BZ];have d:0<=u-z:=by grind
 have l1:0<=1-(u-z):=by grind
 have i:=zW l1 (show 0<=yE f z-yE e z by grind);have j:=zW d (show 0<=yE f (z+1)-yE e (z+1)by grind);grind
theorem WW {e:Ed}(a:su e.1≠su e.2)(v:Spot):16777216*(ay e.1 e.2 v:Rat)=((su e.2:Rat)-su e.1) *((v.y:Rat)-yQ e (su v)):=by
 have b:=qS a;unfold yQ tE;unfold su at*;unfold ay;grind
theorem uX {x y:Rat}(a:0<x):0<x*y↔0<y:=by
 constructor
 .rcases iy y 0 with g|g
  .have:=zW (show 0<=x by grind) (show 0<= -y by grind);grind
  by_cases e:y=0
  simp_all;grind
 intro h;have:=zW (show 0<=x by grind) (show 0<=y by grind);grind[Rat.mul_eq_zero]
theorem EX {e:Ed}(a:su e.1≠su e.2)(v:Spot):0<ay e.1 e.2 v↔if sgE e=1 then yQ e (su v)<(v.y:Rat)else(v.y:Rat)<yQ e (su v):=by
 have h:=WW a v
 have h1:(0<ay e.1 e.2 v)↔(0:Rat)<16777216*(ay e.1 e.2 v:Rat):=by
  rw[uX (by decide)];exact_mod_cast Iff.rfl
 rw[h1,h];unfold sgE;by_cases g:su e.1<su e.2
 .have b:(su e.1:Rat)<su e.2:=by exact_mod_cast g
  rw[ve g,ve rfl,uX (by grind)];grind
 have b:(su e.2:Rat)<su e.1:=by exact_mod_cast (by omega:su e.2<su e.1)
 have c:((su e.2:Rat)-su e.1) *((v.y:Rat)-yQ e (su v))=((su e.1:Rat)-su e.2) *(yQ e (su v)-(v.y:Rat)):=by grind
 grind[uX]
theorem DW {e:Ed}(a:su e.1≠su e.2)(v:Spot):ay e.1 e.2 v<0↔if sgE e=1 then(v.y:Rat)<yQ e (su v)else yQ e (su v)<(v.y:Rat):=by
 have h:=EX (e:=(e.2,e.1)) (Ne.symm a) v;have h1:ay e.2 e.1 v= -ay e.1 e.2 v:=by grind[ay]
 have b:∀u,yQ (e.2,e.1) u=yQ e u:=by
  have h0:=qS a;grind[yQ,tE]
 rw[h1,b]at h;have h3:ay e.1 e.2 v<0↔0< -ay e.1 e.2 v:=by omega
 rw[h3,h];unfold sgE;grind
theorem Oq (a r q:Spot)(z:Int)(h:Rat):upW (aH [a,r,q]) z h=upE z h (a,r)+upE z h (r,q)+upE z h (q,a):=by
 show upW [(a,r),(r,q),(q,a)] z h=_;grind[upW]
theorem bary (a r q v:Spot):ay r q v*(su a-su v)+ay q a v*(su r-su v)+ay a r v*(su q-su v)=0:=by
 grind[ay,su]
structure AtT (e:Ed)(v:Spot)(z:Int)(E:List Ed):Prop where
 c:crE e z
 lo:z<=su v
 hi:su v<=z+1
 y:yQ e (su v)=(v.y:Rat)
 sep:∀f∈E,crE f z->sepE e f/\¬twinE e f
theorem AtT.le {e f:Ed}{v:Spot}{z:Int}{E:List Ed}(h:AtT e v z E)(b:f∈E)(a:crE f z):(leE e f z/\(v.y:Rat)<=yQ f (su v))\/(leE f e z/\yQ f (su v)<=(v.y:Rat)):=by
 have d:(z:Rat)<=(su v:Rat):=by exact_mod_cast h.lo
 have i:(su v:Rat)<=((z+1:Int):Rat):=by exact_mod_cast h.hi
 rcases tB (h.sep f b a).1 (h.sep f b a).2 h.c a with g|g
 .left;refine⟨g,?_⟩;have:=pW g d i;rw[h.y]at this;omega
 right;refine⟨g,?_⟩;have:=pW g d i;rw[h.y]at this;omega
theorem LR {x y z:Int}(h1:0<=x)(a:0<=y)(h3:0<=z)(h:x+y+z=0):x=0/\y=0:=by omega
theorem NJ {x d:Int}(a:0<d)(h:0<=x*d):0<=x:=by
 by_cases g:0<=x
 omega
 .have:=wF (show x<= -1 by omega) (xQ a);omega
theorem qa {a r q v:Spot}{e:Ed}{z:Int}{E:List Ed}(h:AtT e v z E)(i:(a,r)∈E)(j:(r,q)∈E)(k:su v≠su r)
 (b:(su r<=z/\z<su a/\z<su q)\/(su a<=z/\su q<=z/\z<su r)) (g:upE z (hE e z) (a,r)+upE z (hE e z) (r,q)<0):0<=ay a r v/\0<=ay r q v/\0<=ay q a v:=by
 have u:=bary a r q v;have lo:=h.lo;have hi:=h.hi;have c1:crE (a,r) z:=by grind[crE]
 have c2:crE (r,q) z:=by grind[crE]
 have l:su a≠su r:=by omega
 have m:su r≠su q:=by omega
 have f:0<=ay a r v/\0<=ay r q v:=by
  have w:=DW (e:=(a,r)) l v;have x:=DW (e:=(r,q)) m v;have l1:=h.le i c1;have l2:=h.le j c2;unfold upE at g;rcases b with b|b
  .have n:sgE (a,r)= -1:=vd (by grind);have o:sgE (r,q)=1:=ve (by grind);constructor
   .rcases l1 with l1|l1
    grind
    .rw[vd (fun p=>by have:=l1.1.2.2;grind)]at g;omega
   rcases l2 with l2|l2
   .rw[ve (⟨c2,l2.1.2.2⟩:crE (r,q) z/\_)]at g;omega
   grind
  have n:sgE (a,r)=1:=ve (by grind);have o:sgE (r,q)= -1:=vd (by grind);constructor
  .rcases l1 with l1|l1
   .rw[ve (⟨c1,l1.1.2.2⟩:crE (a,r) z/\_)]at g;omega
   grind
  rcases l2 with l2|l2
  grind
  .rw[vd (c:=crE (r,q) z/\_) (fun p=>by have:=l2.1.2.2;grind)]at g;omega
 refine⟨f.1,f.2,?_⟩;rcases b with b|b
 .have s:=vI f.2 (show 0<=su a-su v by omega);have t:=vI f.1 (show 0<=su q-su v by omega);refine NJ (d:=su v-su r) (by omega) ?_;grind
 have s:=vI f.2 (show 0<=su v-su a by omega);have t:=vI f.1 (show 0<=su v-su q by omega);refine NJ (d:=su r-su v) (by omega) ?_;grind
theorem RC {a r q v:Spot}{e:Ed}{z:Int}(h:AtT e v z (aH [a,r,q]))(j:su v≠su a)(l:su v≠su r)(m:su v≠su q)(b:upW (aH [a,r,q]) z (hE e z)<0):0<=ay a r v/\0<=ay r q v/\0<=ay q a v:=by
 rw[Oq]at b;have f:(a,r)∈aH [a,r,q]:=zO ..;have g:(r,q)∈aH [a,r,q]:=zG _ (zO ..);have i:(q,a)∈aH [a,r,q]:=zG _ (zG _ (zO ..));have off:∀c d:Spot,((su c<=z/\su d<=z)\/(z<su c/\z<su d))->upE z (hE e z) (c,d)=0:=fun c d n=>vd fun k=>by grind[crE]
 by_cases A:su a<=z<;>by_cases R:su r<=z<;>by_cases Q:su q<=z
 grind
 .rw[off a r (by omega)]at b;obtain⟨x,y,w⟩:=qa (a:=r) (r:=q) (q:=a) h g i m (by omega) (by omega);omega
 .rw[off q a (by omega)]at b;exact qa h f g l (by omega) (by omega)
 .rw[off r q (by omega)]at b;obtain⟨x,y,w⟩:=qa (a:=q) (r:=a) (q:=r) h i f j (by omega) (by omega);omega
 .rw[off r q (by omega)]at b;obtain⟨x,y,w⟩:=qa (a:=q) (r:=a) (q:=r) h i f j (by omega) (by omega);omega
 .rw[off q a (by omega)]at b;exact qa h f g l (by omega) (by omega)
 .rw[off a r (by omega)]at b;obtain⟨x,y,w⟩:=qa (a:=r) (r:=q) (q:=a) h g i m (by omega) (by omega);omega
 grind
theorem lM {f:Ed}:∀{a:Spot} {l:Rp} {z:Spot},f∈aX a l z->f.1∈a::l/\f.2∈l++[z]
 |a,[],z,h=>by
  grind[aX]
 |a,x::l,z,h=>by
  rw[aX,zP]at h;rcases h with rfl|h
  simp
  .obtain⟨h1,b⟩:=lM h;grind
theorem uu {f:Ed}{a z v:Spot}{l:Rp}(h:f∈aX a l z)(b:endE v f):v=a\/v∈l\/v=z:=by
 obtain⟨h1,c⟩:=lM h;rcases b with rfl|rfl
 grind;grind
theorem u5 {f:Ed}{a z:Spot}{l:Rp}(c:(a::(l++[z])).Nodup)(h:f∈aX a l z)(d:endE a f)(b:endE z f):l=[]:=by
 cases l with
 |nil=>rfl
 |cons x l=>
  rw[aX,zP]at h;rcases h with rfl|h
  .rcases b with h|h
   grind;grind
  grind[uu]
theorem DD (a b:QP)(s:Rat):onP b a s=onP a b (1-s):=by
 grind[onP,eW,ew,bA]
theorem sepE.rev {a b:Spot}{f:Ed}(h:sepE (a,b) f):sepE (b,a) f:=by
 intro s t h1 d h3 c e;obtain⟨v,x,y,w⟩:=h (1-s) t (by grind) (by grind) h3 c (by grind[DD]);exact⟨v,x.symm,y,by grind[DD]⟩
theorem twinE.rev {a b:Spot}{f:Ed}(h:twinE (b,a) f):twinE (a,b) f:=by
 obtain⟨v,w,h1,c,h3,d,e⟩:=h;exact⟨v,w,h1,c.symm,h3.symm,d,e⟩
theorem twinE.symm {e f:Ed}(h:twinE e f):twinE f e:=by
 obtain⟨v,w,h1,a,h3,b,c⟩:=h;exact⟨v,w,h1,b,c,a,h3⟩
theorem W2 {a b:Spot}{f:Ed}(h:twinE (a,b) f):endE a f/\endE b f:=by
 obtain⟨v,w,h1,c,h3,d,e⟩:=h;rcases c with rfl|rfl<;>rcases h3 with rfl|rfl
 grind;grind;grind;grind
structure Cho (a:Spot)(l1:Rp)(q:Spot)(l2:Rp):Prop where
 sp:SepP (a::(l1++q::l2))
 n1:l1≠[]
 n2:l2≠[]
 ch:∀f∈aH (a::(l1++q::l2)),sepE (a,q) f
section
variable {a q:Spot}{l1 l2:Rp}
theorem AR:aH (a::(l1++q::l2))=aX a l1 q++aX q l2 a:=lN q a l2 a l1
theorem rj:aH (a::(l1++[q]))=aX a l1 q++[(q,a)]:=lN q a [] a l1
theorem Cho.left {f:Ed}(b:f∈aX a l1 q):f∈aH (a::(l1++q::l2)):=by grind[AR]
theorem Cho.right {f:Ed}(b:f∈aX q l2 a):f∈aH (a::(l1++q::l2)):=by grind[AR]
theorem VA {A B:Rp}(h:(A++B).Nodup):(B++A).Nodup:=by
 grind
theorem Cho.nd1 (h:Cho a l1 q l2):(a::(l1++[q])).Nodup:=by
 have:=h.sp.nd;grind
theorem Cho.nd2 (h:Cho a l1 q l2):(q::(l2++[a])).Nodup:=by
 have:=h.sp.nd;grind
theorem Cho.twin (h:Cho a l1 q l2){f:Ed}(b:f∈aH (a::(l1++q::l2))):¬twinE (a,q) f:=by
 intro d;obtain⟨h1,c⟩:=W2 d;rw[AR,za]at b;rcases b with b|b
 .exact h.n1 (u5 h.nd1 b h1 c)
 exact h.n2 (u5 h.nd2 b c h1)
theorem SepP.twin' {p:Rp}(a:SepP p){e f:Ed}(c:e∈aH p)(d:f∈aH p)(b:e≠f):¬twinE e f:=by
 obtain⟨i,hi,rfl⟩:=(fF a.pos).1 c;obtain⟨j,g,rfl⟩:=(fF a.pos).1 d;exact a.twin hi g (fun h=>b (by rw[h]))
theorem Bq {p b:Rp}(h:OkP p)(c:∀x∈b,x∈p):OkP b:=⟨fun s a=>h.ok s (c s a)⟩
theorem IF {E:List Ed}{a q:Spot}{l:Rp}(j:l≠[])(c:OkP (a::(l++[q])))(d:(a::(l++[q])).Nodup)(hE:∀e∈aX a l q,e∈E)
 (k:∀e∈E,∀f∈E,e≠f->sepE e f) (h:∀f∈E,sepE (q,a) f):SepP (a::(l++[q])) where
 n3:=by
  cases l with
  |nil=>grind
  |cons x l=>simp
 ok:=c
 nd:=d
 sep:=by
  intro e b f g i;rw[rj,za,z8]at b g;rcases b with b|rfl<;>rcases g with g|rfl
  grind
  .exact(h e (hE e b)).symm
  grind;grind
theorem Cho.sp1 (h:Cho a l1 q l2):SepP (a::(l1++[q])):=
 IF h.n1 (Bq h.sp.ok (by grind)) h.nd1 (fun _ b=>Cho.left b) h.sp.sep (fun f c=>(h.ch f c).rev)
theorem Cho.sp2 (h:Cho a l1 q l2):SepP (q::(l2++[a])):=
 IF h.n2 (Bq h.sp.ok (by grind)) h.nd2 (fun _ b=>Cho.right b) h.sp.sep h.ch
theorem Xu {f:Ed}(h:f∈aX a l1 q):f∈aH (a::(l1++[q])):=by grind[rj]
theorem sj:(q,a)∈aH (a::(l1++[q])):=by simp[rj]
theorem Ol {a b:Spot}(h:su a≠su b):sgE (b,a)= -sgE (a,b):=by
 unfold sgE;grind
theorem Cho.at_chord (_:Cho a l1 q l2){c1 c2:Int}(f:WcP (a::(l1++[q])) c1)(h:WcP (q::(l2++[a])) c2){z:Int}(d:crE (a,q) z):
 upW (aH (a::(l1++q::l2))) z (hE (a,q) z)=1-c1-c2:=by
 have b:=kZ d;have c:crE (q,a) z:=by grind[crE]
 have e:=f.at_ (q,a) sj z c;have i:=h.at_ (a,q) sj z d;have j:hE (q,a) z=hE (a,q) z:=by grind[hE,ZH]
 rw[j]at e;rw[C3,e,i,Ol b];rcases DK (a,q)with g|g
 grind;grind
theorem Cho.at_right (_:Cho a l1 q l2){c c2:Int}(w:WcP (a::(l1++q::l2)) c)(f:WcP (q::(l2++[a])) c2){e:Ed}(b:e∈aX q l2 a){z:Int}(d:crE e z):
 upW (aH (a::(l1++[q]))) z (hE e z)=c2-c:=by
 have g:=w.at_ e (Cho.right b) z d;have h:=f.at_ e (Xu b) z d;grind[C3]
end
def inT (u v w x:Spot):Prop:=0<=ay u v x/\0<=ay v w x/\0<=ay w u x
theorem JV (u v w y:QP):az u v y+az v w y+az w u y=az u v w:=by grind[az]
theorem sG (u v w:QP):az v w u=az u v w:=by grind[az]
theorem oa {u v w y:QP}(c:0<az u v w)(h0:az v w y=0)(h1:0<=az u v y)(d:0<=az w u y):∃s:Rat,0<=s/\s<=1/\onP v w s=y:=by
 have f:=JV u v w y;have b:az u v w≠0:=by grind
 have e:=yK (a:=az u v y) b;have g:az v w y*u.x+az u v y*w.x+az w u y*v.x=az u v w*y.x:=by grind[az]
 have h:az v w y*u.y+az u v y*w.y+az w u y*v.y=az u v w*y.y:=by grind[az]
 generalize az u v y/az u v w=s at*;generalize az w u y=C at*;refine⟨s,gK (x8 c) b e h1,?_,?_⟩
 .have:=gK (r:=1-s) (a:=C) (x8 c) b (by grind) d;grind
 unfold onP eW ew bA
 cases y with
 |mk i j=>
  grind
theorem mz {a b:Spot}(h:qp a=qp b):a=b:=by
 have c:=zX QP.x h;have d:=zX QP.y h;simp[qp]at c d;cases a;simp_all
theorem Ih {f g:Ed}(a:f.1≠f.2)(h:sepE f g){t s:Rat}(t0:0<t)(t1:t<1)(c:0<=s)(d:s<=1)(e:onP (qp f.1) (qp f.2) t=onP (qp g.1) (qp g.2) s):False:=by
 obtain⟨x,i,_,b⟩:=h t s (by grind) (by grind) c d e;rcases i with rfl|rfl
 .have:=Bo a ((fY _ _).trans b);grind
 have:=Bo a ((iK _ _).trans b);grind
theorem cut2 {e f c b2:Rat}(h1:0<e)(n:f<0)(h3:0<c):
 (∃l:Rat,0<l/\l<1/\(1-l) *e+l*f=0/\0<=(1-l) *c+l*b2)\/(∃l:Rat,0<l/\l<1/\(1-l) *c+l*b2=0/\0<=(1-l) *e+l*f):=by
 have d:∀{x y:Rat},0<x->y<0->∃l:Rat,0<l/\l<1/\l*(x-y)=x:=by
  intro x y o q;have b:x-y≠0:=by grind
  have i:=yK (a:=x) b;generalize x/(x-y)=l at*;have j:=gK (show 0<=x-y by grind) b i (x8 o);have l1:=gK (r:=1-l) (a:= -y) (show 0<=x-y by grind) b (by grind) (by grind);refine⟨l,?_,?_,i⟩;grind;grind
 obtain⟨l,j,l1,le⟩:=d h1 n;by_cases s:0<=(1-l) *c+l*b2
 grind
 have h:b2<0:=by
  by_cases g:b2<0
  omega
  .have t:=zW (show 0<=1-l by grind) (x8 h3);have u:=zW (x8 j) (show 0<=b2 by grind);grind
 obtain⟨m,v,w,z⟩:=d h3 h
 have p:m<=l:=by
  by_cases g:m<=l
  omega
  .have k:=zW (show 0<=m-l by grind) (show 0<=c-b2 by grind);grind
 have k:=zW (show 0<=l-m by grind) (show 0<=e-f by grind);grind
theorem Ez {u v w:Spot}{f:Ed}{t:Rat}(D:f.1≠f.2)(E:sepE f (u,v))(F:sepE f (v,w))(y:0<ay u v w)(t0:0<=t)(t1:t<=1)
 (c:0<az (qp u) (qp v) (onP (qp f.1) (qp f.2) t)) (d:0<az (qp v) (qp w) (onP (qp f.1) (qp f.2) t)) (h:0<=az (qp w) (qp u) (onP (qp f.1) (qp f.2) t))
 (G:az (qp w) (qp u) (onP (qp f.1) (qp f.2) t)<=az (qp w) (qp u) (qp f.2)):inT u v w f.2:=by
 have i:0<az (qp u) (qp v) (qp w):=by rw[dB];exact_mod_cast y
 by_cases e:t=1
 .rw[e,iK]at c d h;rw[dB]at c d h;exact⟨xQ (by exact_mod_cast c),xQ (by exact_mod_cast d),by exact_mod_cast h⟩
 have z:∀l,onP (onP (qp f.1) (qp f.2) t) (qp f.2) l=onP (qp f.1) (qp f.2) (t+(1-t) *l):=by
  intro l;have:=BT (qp f.1) (qp f.2) t 1 l;grind[iK]
 have A:∀l,0<l->l<1->0<t+(1-t) *l/\t+(1-t) *l<1:=by
  intro l a l1;have n:=xK (show 0<1-t by grind) a;have H:=xK (show 0<1-t by grind) (show 0<1-l by grind);grind
 have b:∀l,0<l->l<1->0<=az (qp w) (qp u) (onP (onP (qp f.1) (qp f.2) t) (qp f.2) l):=by
  intro l a l1;rw[iR];have k:=zW (x8 a) (show 0<=az (qp w) (qp u) (qp f.2)-az (qp w) (qp u) (onP (qp f.1) (qp f.2) t)by grind);grind
 have o:∀l,0<l->l<1->az (qp v) (qp w) (onP (onP (qp f.1) (qp f.2) t) (qp f.2) l)=0->0<=az (qp u) (qp v) (onP (onP (qp f.1) (qp f.2) t) (qp f.2) l)->False:=by
  intro l a l1 h0 h1;obtain⟨s,B,n,C⟩:=oa i h0 h1 (b l a l1);grind[Ih]
 have p:∀l,0<l->l<1->az (qp u) (qp v) (onP (onP (qp f.1) (qp f.2) t) (qp f.2) l)=0->0<=az (qp v) (qp w) (onP (onP (qp f.1) (qp f.2) t) (qp f.2) l)->False:=by
  intro l a l1 h0 h1;obtain⟨s,B,n,C⟩:=oa (u:=qp w) (v:=qp u) (w:=qp v) (by grind[sG]) h0 (b l a l1) h1;grind[Ih]
 have q:0<=az (qp v) (qp w) (qp f.2):=by
  by_cases g:0<=az (qp v) (qp w) (qp f.2)
  omega
  .rcases cut2 (b2:=az (qp u) (qp v) (qp f.2)) d (Rat.not_le.1 g) c with⟨l,a,l1,j,m⟩ |⟨l,a,l1,j,m⟩
   grind[iR];grind[iR]
 have r:0<=az (qp u) (qp v) (qp f.2):=by
  by_cases g:0<=az (qp u) (qp v) (qp f.2)
  omega
  .rcases cut2 (b2:=az (qp v) (qp w) (qp f.2)) c (Rat.not_le.1 g) d with⟨l,a,l1,j,m⟩ |⟨l,a,l1,j,m⟩
   grind[iR];grind[iR]
 have x:0<=az (qp w) (qp u) (qp f.2):=by grind
 rw[dB]at q r x;exact⟨by exact_mod_cast r,by exact_mod_cast q,by exact_mod_cast x⟩
theorem sepE.revL {f g:Ed}(h:sepE f g):sepE (f.2,f.1) g:=sepE.rev (a:=f.1) (b:=f.2) h
theorem Ha {u v w:Spot}{f:Ed}{t:Rat}(g:f.1≠f.2)(h:sepE f (u,v))(i:sepE f (v,w))(j:0<ay u v w)(t0:0<=t)(t1:t<=1)
 (a:0<az (qp u) (qp v) (onP (qp f.1) (qp f.2) t)) (b:0<az (qp v) (qp w) (onP (qp f.1) (qp f.2) t)) (c:0<=az (qp w) (qp u) (onP (qp f.1) (qp f.2) t))
 (d:az (qp w) (qp u) (onP (qp f.1) (qp f.2) t)<=az (qp w) (qp u) (qp f.1)):inT u v w f.1:=by
 have e:onP (qp f.1) (qp f.2) t=onP (qp f.2) (qp f.1) (1-t):=DD _ _ _;rw[e]at a b c d;exact Ez (f:=(f.2,f.1)) (Ne.symm g) h.revL i.revL j (by grind) (by grind) a b c d
section
variable {u v w:Spot}{m:Rp}
theorem gd:aH (u::v::w::m)=(u,v)::(v,w)::aX w m u:=rfl
structure Cor (u v w:Spot)(m:Rp):Prop where
 sp:SepP (u::v::w::m)
 hm:m≠[]
 pos:0<ay u v w
variable (h:Cor u v w m)
include h
theorem Cor.nd:v≠u/\v≠w/\u≠w/\u∉m/\v∉m/\w∉m:=by
 have:=h.sp.nd;grind
theorem Cor.path {f:Ed}(c:f∈aX w m u):f.1≠f.2/\sepE f (u,v)/\sepE f (v,w)/\¬endE v f:=by
 have n:=h.nd
 have b:¬endE v f:=fun b=>by
  grind[uu]
 have a:f∈aH (u::v::w::m):=by grind[gd]
 refine⟨?_,?_,?_,b⟩
 .obtain⟨i,hi,rfl⟩:=(fF h.sp.pos).1 a;exact h.sp.vne i
 .exact h.sp.sep _ a _ (by simp[gd]) (fun e=>b (by rw[e];exact .inr rfl))
 exact h.sp.sep _ a _ (by simp[gd]) (fun e=>b (by rw[e];exact .inl rfl))
theorem Cor.mem {f:Ed}(a:f∈aX w m u){x:Spot}(b:endE x f):x=w\/x=u\/x∈m:=by
 grind[uu]
theorem Cor.D:0<az (qp u) (qp v) (qp w):=by rw[dB];exact_mod_cast h.pos
theorem Cor.free (j:∀x∈m,¬inT u v w x):Cho u [v] w m where
 sp:=h.sp
 n1:=by simp
 n2:=h.hm
 ch:=by
  have n:=h.nd;have L:=h.D;intro f H s t M N t0 t1 d;have A:az (qp u) (qp v) (onP (qp u) (qp w) s)=s*az (qp u) (qp v) (qp w):=by grind[iR,az]
  have B:az (qp v) (qp w) (onP (qp u) (qp w) s)=(1-s) *az (qp u) (qp v) (qp w):=by grind[iR,az]
  have C:az (qp w) (qp u) (onP (qp u) (qp w) s)=0:=by grind[az]
  have c:f∈(u,v)::(v,w)::aX w m u:=H;rcases zP.1 c with rfl|c
  .rw[d,qq]at A;rcases xS.1 A.symm with k|k
   .exact⟨u,.inl rfl,.inl rfl,by rw[k,fY]⟩
   grind
  rcases zP.1 c with rfl|c
  .rw[d,qq]at B;rcases xS.1 B.symm with k|k
   .exact⟨w,.inr rfl,.inr rfl,by grind[iK]⟩
   grind
  obtain⟨e,l,o,O⟩:=h.path c;by_cases E:s=0
  .rw[E,fY]at d⊢;obtain⟨x,p,I,i⟩:=l t 0 t0 t1 (by grind) (by grind) (by grind[fY]);rw[<-d]at i;obtain rfl:=mz i;exact⟨_,.inl rfl,p,rfl⟩
  by_cases J:s=1
  .rw[J,iK]at d⊢;obtain⟨x,p,I,i⟩:=o t 1 t0 t1 (by grind) (by grind) (by grind[iK]);rw[<-d]at i;obtain rfl:=mz i;exact⟨_,.inr rfl,p,rfl⟩
  have q:0<az (qp u) (qp v) (onP (qp u) (qp w) s):=by grind[Rat.mul_pos]
  have r:0<az (qp v) (qp w) (onP (qp u) (qp w) s):=by grind[Rat.mul_pos]
  rw[d]at r q C
  have cl:∀x,endE x f->inT u v w x->x=u\/x=w:=by
   intro x y hi;rcases h.mem c y with k|k|k
   grind;grind;grind
  have c2:0<=az (qp w) (qp u) (qp f.2)->f.2=u\/f.2=w:=fun g=>cl _ (.inr rfl) (Ez e l o h.pos t0 t1 q r (by grind) (by grind));have c1:0<=az (qp w) (qp u) (qp f.1)->f.1=u\/f.1=w:=fun g=>cl _ (.inl rfl) (Ha e l o h.pos t0 t1 q r (by grind) (by grind))
  have z:∀x,x=u\/x=w->az (qp w) (qp u) (qp x)=0:=by
   rintro x (rfl|rfl)<;>(unfold az;grind)
  rw[iR]at C
  have P:∀x,x=u\/x=w->qp x≠onP (qp u) (qp w) s:=by
   rintro x (rfl|rfl) y
   .exact E (Bo n.2.2.1 ((fY _ _).trans y)).symm
   grind
  have F:f.1=u\/f.1=w->f.2=u\/f.2=w->False:=by
   intro K Q
   have G:endE w f/\endE u f:=by
    grind[endE]
   have R:=h.sp.nd;refine h.hm (u5 (a:=w) (z:=u) ?_ c G.1 G.2);grind
  rcases iy 0 (az (qp w) (qp u) (qp f.2))with g|g
  .rcases xS.1 (show(1-t) *az (qp w) (qp u) (qp f.1)=0 by grind)with k|k
   grind[iK];grind
  have K:f.1=u\/f.1=w:=by
   apply c1;by_cases S:t=1
   grind[iK]
   .have k:=zW t0 (show 0<= -az (qp w) (qp u) (qp f.2)by grind);refine gK (a:=(1-t) *az (qp w) (qp u) (qp f.1)) (b:=1-t) (by grind) (by grind) (by grind) (by grind)
  rcases xS.1 (show t*az (qp w) (qp u) (qp f.2)=0 by grind)with k|k
  grind[fY];grind
end
theorem qU:∀{a:Spot} {l:Rp} {z x:Spot},x∈a::l->∃f∈aX a l z,f.1=x
 |a,[],z,x,h=>by
  simp_all[aX]
 |a,b::l,z,x,h=>by
  rcases zP.1 h with rfl|h
  simp[aX]
  .obtain⟨f,c,e⟩:=qU (z:=z) h;grind[aX]
theorem pV {f g:Ed}(h:sepE g f){t:Rat}(t0:0<=t)(t1:t<=1)(e:qp g.1=onP (qp f.1) (qp f.2) t):endE g.1 f:=by
 obtain⟨x,_,a,b⟩:=h 0 t (by grind) (by grind) t0 t1 (by grind[fY]);grind[fY,mz]
section
variable {u v w:Spot}{m:Rp}
theorem Cor.strict (h:Cor u v w m){r:Spot}(hr:r∈m)(hi:inT u v w r):0<ay u v r/\0<ay v w r:=by
 have n:=h.nd;obtain⟨g,i,rfl⟩:=qU (a:=w) (z:=u) (zG w hr);obtain⟨_,j,l,_⟩:=h.path i;obtain⟨o,p,q⟩:=hi;have t:0<=az (qp u) (qp v) (qp g.1):=by rw[dB];exact_mod_cast o
 have x:0<=az (qp v) (qp w) (qp g.1):=by rw[dB];exact_mod_cast p
 have f:0<=az (qp w) (qp u) (qp g.1):=by rw[dB];exact_mod_cast q
 constructor
 .by_cases e:ay u v g.1=0
  .obtain⟨s,b,c,d⟩:=oa (u:=qp w) (v:=qp u) (w:=qp v) (y:=qp g.1) (by rw[<-sG];exact h.D) (by simp_all[dB]) f x;rcases pV j b c d.symm with k|k
   grind;grind
  omega
 by_cases e:ay v w g.1=0
 .obtain⟨s,b,c,d⟩:=oa (u:=qp u) (v:=qp v) (w:=qp w) (y:=qp g.1) h.D (by simp_all[dB]) t f;rcases pV l b c d.symm with k|k
  grind;grind
 omega
theorem Cor.far (h:Cor u v w m){r:Spot}(hr:r∈m)(hi:inT u v w r)(d:∀x∈m,inT u v w x->ay w u x<=ay w u r):
 ∀f∈aH (u::v::w::m),sepE (v,r) f:=by
 obtain⟨D,E⟩:=h.strict hr hi;have J:0<az (qp u) (qp v) (qp r):=by rw[dB];exact_mod_cast D
 have K:0<az (qp v) (qp w) (qp r):=by rw[dB];exact_mod_cast E
 have L:0<=az (qp w) (qp u) (qp r):=by rw[dB];exact_mod_cast hi.2.2
 have q:=JV (qp u) (qp v) (qp w) (qp r);intro f y s t M N t0 t1 c;have A:az (qp u) (qp v) (onP (qp v) (qp r) s)=s*az (qp u) (qp v) (qp r):=by grind[iR,az]
 have B:az (qp v) (qp w) (onP (qp v) (qp r) s)=s*az (qp v) (qp w) (qp r):=by grind[iR,az]
 have O:az (qp w) (qp u) (onP (qp v) (qp r) s)=(1-s) *az (qp u) (qp v) (qp w)+s*az (qp w) (qp u) (qp r):=by simp[iR,sG]
 have l:f∈(u,v)::(v,w)::aX w m u:=y;rcases zP.1 l with rfl|b
 .rw[c,qq]at A;rcases xS.1 A.symm with k|k
  .exact⟨v,.inl rfl,.inr rfl,by rw[k,fY]⟩
  grind
 rcases zP.1 b with rfl|b
 .rw[c,qq]at B;rcases xS.1 B.symm with k|k
  .exact⟨v,.inl rfl,.inl rfl,by rw[k,fY]⟩
  grind
 obtain⟨i,n,C,P⟩:=h.path b;by_cases F:s=0
 .rw[F,fY]at c⊢;obtain⟨x,Q,R,S⟩:=n t 1 t0 t1 (by grind) (by grind) (by grind[iK]);grind[mz]
 by_cases G:s=1
 .rw[G,iK]at c⊢;obtain⟨g,T,rfl⟩:=qU (a:=w) (z:=u) (zG w hr);refine⟨g.1,.inr rfl,?_,rfl⟩;by_cases e:g=f
  .rw[<-e];exact .inl rfl
  exact pV (h.sp.sep g (by grind[gd]) f y e) t0 t1 c
 have o:0<az (qp u) (qp v) (onP (qp v) (qp r) s):=by grind[Rat.mul_pos]
 have p:0<az (qp v) (qp w) (onP (qp v) (qp r) s):=by grind[Rat.mul_pos]
 have H:az (qp w) (qp u) (qp r)<az (qp w) (qp u) (onP (qp v) (qp r) s):=by
  have:=xK (show 0<1-s by grind) (show 0<az (qp u) (qp v) (qp w)-az (qp w) (qp u) (qp r)by grind);grind
 rw[c]at p o H
 have cl:∀x,endE x f->inT u v w x->az (qp w) (qp u) (qp x)<=az (qp w) (qp u) (qp r):=by
  intro x I hi;rcases h.mem b I with rfl|rfl|k
  grind[az];grind[az]
  .have:=d x k hi;rw[dB,dB];exact_mod_cast this
 have z:0<=az (qp w) (qp u) (onP (qp f.1) (qp f.2) t):=by grind
 by_cases g:az (qp w) (qp u) (onP (qp f.1) (qp f.2) t)<=az (qp w) (qp u) (qp f.2)
 .have:=cl _ (.inr rfl) (Ez i n C h.pos t0 t1 o p z g);grind
 have j:az (qp w) (qp u) (onP (qp f.1) (qp f.2) t)<=az (qp w) (qp u) (qp f.1):=by
  by_cases j:az (qp w) (qp u) (onP (qp f.1) (qp f.2) t)<=az (qp w) (qp u) (qp f.1)
  omega
  .rw[iR]at g j;have U:=zW (show 0<=1-t by grind) (show 0<=(1-t) *az (qp w) (qp u) (qp f.1)+t*az (qp w) (qp u) (qp f.2)-az (qp w) (qp u) (qp f.1)by grind);by_cases tt:t=0
   .rw[tt]at j;grind
   have V:=xK (show 0<t by grind) (show 0<(1-t) *az (qp w) (qp u) (qp f.1)+t*az (qp w) (qp u) (qp f.2)-az (qp w) (qp u) (qp f.2)by grind);grind
 have:=cl _ (.inl rfl) (Ha i n C h.pos t0 t1 o p z j);grind
end
theorem C0 (A B:Rp):∃X Y,aH (A++B)=X++Y/\aH (B++A)=Y++X:=by
 cases A with
 |nil=>exact⟨[],aH B,by simp,by simp⟩
 |cons a A=>
  cases B with
  |nil=>exact⟨[],aH (a::A),by simp,by simp⟩
  |cons b B=>exact⟨aX a A b,aX b B a,lN b a B a A,lN a b A b B⟩
theorem kI {A B:Rp}{e:Ed}:e∈aH (A++B)↔e∈aH (B++A):=by
 obtain⟨X,Y,h1,a⟩:=C0 A B;grind
theorem C7 (A B:Rp)(z:Int)(h:Rat):upW (aH (A++B)) z h=upW (aH (B++A)) z h:=by
 obtain⟨X,Y,h1,a⟩:=C0 A B;simp_all[sd,Int.add_comm]
theorem SepP.rot {A B:Rp}(h:SepP (A++B)):SepP (B++A) where
 n3:=by have:=h.n3;grind
 ok:=Bq h.ok (by grind)
 nd:=VA h.nd
 sep:=fun e a f b=>h.sep e (kI.1 a) f (kI.1 b)
structure CP (p:Rp):Prop where
 sp:SepP p
 wc:WcP p 1
theorem CP.rot {A B:Rp}(h:CP (A++B)):CP (B++A) where
 sp:=h.sp.rot
 wc:=⟨fun e a z b=>by rw[C7];exact h.wc.at_ e (kI.1 a) z b,.inr rfl⟩
structure Ear (p:Rp)(u v w:Spot):Prop where
 e1:(u,v)∈aH p
 e2:(v,w)∈aH p
 pos:0<ay u v w
 free:∀x∈p,inT u v w x->x=u\/x=v\/x=w
theorem Ear.rot {A B:Rp}{u v w:Spot}(h:Ear (A++B) u v w):Ear (B++A) u v w:=
 ⟨kI.1 h.e1,kI.1 h.e2,h.pos,fun x a=>h.free x (by grind)⟩
theorem Ff {u v:Spot}:∀{a:Spot} {l:Rp} {z:Spot},(u,v)∈aX a l z->∃L R,a::(l++[z])=L++u::v::R
 |a,[],z,h=>by
  rw[aX,z8]at h;cases h;exact⟨[],[],rfl⟩
 |a,b::l,z,h=>by
  rw[aX,zP]at h;rcases h with h|h
  .cases h;exact⟨[],l++[z],rfl⟩
  obtain⟨L,R,e⟩:=Ff h;grind
theorem UW {p:Rp}{u v:Spot}(f:p.Nodup)(h3:3<=p.length)(h:(u,v)∈aH p):∃A B k,p=A++B/\B++A=u::v::k:=by
 cases p with
 |nil=>grind
 |cons a l=>
  obtain⟨L,R,e⟩:=Ff (show(u,v)∈aX a l a from h);rcases xU R with rfl|⟨c,b,rfl⟩
  .
   have e':(a::l)++[a]=(L++[u])++[v]:=by grind
   obtain⟨d,g⟩:=List.append_inj' e' rfl
   cases L with
   |nil=>
    grind
   |cons b L=>
    grind
  have e':(a::l)++[a]=(L++u::v::c)++[b]:=by grind
  obtain⟨d,_⟩:=List.append_inj' e' rfl;grind
theorem T1 {a b:Spot}:∀{x:Spot} {l:Rp} {z:Spot},(x::l).Nodup->(a,b)∈aX x l z->a=x->l=[]/\b=z\/∃c,l=b::c
 |x,[],z,_,h,_=>by
  grind[aX]
 |x,y::l,z,d,h,e=>by
  rw[aX,zP]at h;rcases h with h|h
  grind
  .have:=(lM h).1;grind
theorem MM {p:Rp}{u v w:Spot}(c:p.Nodup)(h3:3<=p.length)(h1:(u,v)∈aH p)(f:(v,w)∈aH p):∃A B m,p=A++B/\B++A=u::v::w::m:=by
 obtain⟨A,B,k,rfl,e⟩:=UW c h3 h1;have d:(u::v::k).Nodup:=by grind
 have a:(v,w)∈aH (u::v::k):=by grind[kI]
 have g:(u::v::k).length=(A++B).length:=by grind
 have b:(v,w)∈(u,v)::aX v k u:=a;grind[T1]
def slb (g:Ed):Int:=if su g.1<su g.2 then su g.1 else su g.1-1
theorem mK {g:Ed}(h:su g.1≠su g.2):crE g (slb g)/\slb g<=su g.1/\su g.1<=slb g+1:=by
 unfold slb crE;omega
theorem Zt (g:Ed):yQ g (su g.1)=(g.1.y:Rat):=by grind[yQ]
theorem Cw {g:Ed}{E:List Ed}(h:su g.1≠su g.2)(a:∀f∈E,sepE g f/\¬twinE g f):AtT g g.1 (slb g) E where
 c:=(mK h).1
 lo:=(mK h).2.1
 hi:=(mK h).2.2
 y:=Zt g
 sep:=fun f b _=>a f b
theorem Rv {g f:Ed}(b:su g.1≠su g.2)(i:sepE g f)(m:¬endE g.1 f)(d:crE f (slb g)):yQ f (su g.1)≠(g.1.y:Rat):=by
 intro j;obtain⟨c,lo,hi⟩:=mK b;have e:((slb g:Int):Rat)<=(su g.1:Rat):=by exact_mod_cast lo
 have h:(su g.1:Rat)<=((slb g+1:Int):Rat):=by exact_mod_cast hi
 obtain⟨v,_,n,h3,k⟩:=tw i b (kZ d) (mJ c e h) (mJ d e h) (by rw[Zt,j]);rw[Zt]at k;have l:su v=su g.1:=by simp_all
 have o:v.y=g.1.y:=by simp_all
 have p:v=g.1:=by
  unfold su at l;generalize g.1=a at*;cases v;cases a;grind
 grind
theorem TP {u v w:Spot}{g:Ed}(h1:0<ay u v g.1)(e:0<ay v w g.1)(h3:0<=ay w u g.1)(m:su g.1≠su u)
 (L:∀f∈aH [u,v,w],crE f (slb g)->(sgE f=1->hE f (slb g)<=hE g (slb g))/\(sgE f= -1->hE g (slb g)<hE f (slb g))):upW (aH [u,v,w]) (slb g) (hE g (slb g))<0:=by
 have key:∀a b:Spot,(a,b)∈aH [u,v,w]->upE (slb g) (hE g (slb g)) (a,b)=if su b<=slb g/\slb g<su a then-1 else 0:=by
  intro a b n;unfold upE;by_cases d:su b<=slb g/\slb g<su a
  .have h:sgE (a,b)= -1:=vd (by grind);simp_all[crE]
  rw[vd d];refine vd fun⟨c,k⟩=>?_;have h:sgE (a,b)=1:=ve (by grind[crE]);grind
 rw[Oq,key u v (zO ..),key v w (zG _ (zO ..)),key w u (zG _ (zG _ (zO ..)))];have o:=bary u v w g.1
 have i:su g.1<su u\/su g.1<su v\/su g.1<su w:=by
  by_cases k:su g.1<su u\/su g.1<su v\/su g.1<su w
  omega
  .obtain⟨j,_⟩:=LR (vI (xQ e) (show 0<=su g.1-su u by omega)) (vI h3 (show 0<=su g.1-su v by omega)) (vI (xQ h1) (show 0<=su g.1-su w by omega)) (by grind);grind[Int.mul_eq_zero]
 have l:su u<su g.1\/su v<su g.1\/su w<su g.1:=by
  by_cases k:su u<su g.1\/su v<su g.1\/su w<su g.1
  omega
  .obtain⟨j,_⟩:=LR (vI (xQ e) (show 0<=su u-su g.1 by omega)) (vI h3 (show 0<=su v-su g.1 by omega)) (vI (xQ h1) (show 0<=su w-su g.1 by omega)) (by grind);grind[Int.mul_eq_zero]
 grind[slb]
theorem CE {g f:Ed}{E:List Ed}(h:AtT g g.1 (slb g) E)(b:f∈E)(c:0<ay f.1 f.2 g.1)(a:crE f (slb g)):(sgE f=1->hE f (slb g)<=hE g (slb g))/\(sgE f= -1->hE g (slb g)<hE f (slb g)):=by
 rw[EX (kZ a)]at c;constructor
 .rcases h.le b a with k|k
  grind
  .have:=k.1.2.2;grind
 intro d;rcases h.le b a with k|k
 .exact k.1.2.2
 grind
theorem NR (u v w:Spot):dJ [u,v,w]=ay u v w:=by
 simp[dJ,iT,pt];grind[ay]
section
variable {u v w:Spot}{m:Rp}
theorem Cor.parts (h:Cor u v w m)(q:WcP (u::v::w::m) 1)(c:∀x∈m,¬inT u v w x):WcP [u,v,w] 1/\WcP (w::(m++[u])) 1:=by
 have j:=h.free c;constructor
 .rcases j.sp1.wc with k|k
  grind
  .have:=k.2;rw[show u::([v]++[w])=[u,v,w]from rfl,NR]at this;have:=h.pos;omega
 rcases j.sp2.wc with k|k
 grind;exfalso
 cases r:m with
 |nil=>exact h.hm r
 |cons x m'=>
  have s:x∈m:=by grind
  obtain⟨g,A,rfl⟩:=qU (a:=w) (z:=u) (zG w s);have b:g∈aH (u::v::w::m):=by grind[gd]
  have l:su g.1≠su g.2:=by
   obtain⟨i,hi,rfl⟩:=(fF h.sp.pos).1 b;exact h.sp.sune i
  obtain⟨_,_,_,B⟩:=h.path A;have n:=h.nd
  have C:∀f∈aH [u,v,w],sepE g f/\¬twinE g f:=by
   intro f D;have o:f∈[(u,v),(v,w),(w,u)]:=D;simp at o;rcases o with rfl|rfl|rfl
   .have p:(u,v)∈aH (u::v::w::m):=by simp[gd]
    have d:g≠(u,v):=fun e=>B (by grind);exact⟨h.sp.sep _ b _ p d,h.sp.twin' b p d⟩
   .have p:(v,w)∈aH (u::v::w::m):=by simp[gd]
    have d:g≠(v,w):=fun e=>B (by grind);exact⟨h.sp.sep _ b _ p d,h.sp.twin' b p d⟩
   exact⟨(j.ch g b).rev.symm,fun t=>j.twin b (twinE.rev t.symm)⟩
  have E:=j.at_right q k.1 A (mK l).1;have ok:∀x,x∈u::v::w::m->OkS x:=h.sp.ok.ok
  have nx:∀y,y∈[u,v,w]->su g.1≠su y:=by
   intro y F e;have:=AF (ok _ (by grind)) (ok y (by grind)) e;grind
  exact c _ s (RC (Cw l C) (nx u (by simp)) (nx v (by simp)) (nx w (by simp)) (by
   grind))
theorem Wd (S:CP (u::v::w::m))(C:Ear (u::v::w::m) u v w){g:Ed}(n:su g.1≠su g.2)(hx:g.1∉u::v::w::m)(T:OkS g.1)
 (D:∀f∈aH (u::v::w::m),sepE g f/\¬twinE g f) (hw:upW (aH (u::v::w::m)) (slb g) (hE g (slb g))=0):¬inT u v w g.1:=by
 intro hi;obtain⟨i1,i2,Z⟩:=id hi;have U:0<az (qp u) (qp v) (qp w):=by rw[dB];exact_mod_cast C.pos
 have q1:0<=az (qp u) (qp v) (qp g.1):=by rw[dB];exact_mod_cast i1
 have q2:0<=az (qp v) (qp w) (qp g.1):=by rw[dB];exact_mod_cast i2
 have q3:0<=az (qp w) (qp u) (qp g.1):=by rw[dB];exact_mod_cast Z
 have m1:(u,v)∈aH (u::v::w::m):=C.e1;have m2:(v,w)∈aH (u::v::w::m):=C.e2
 have o:0<ay u v g.1:=by
  by_cases e:ay u v g.1=0
  .obtain⟨s,E,o,F⟩:=oa (u:=qp w) (v:=qp u) (w:=qp v) (y:=qp g.1) (by grind[sG]) (by simp_all[dB]) q3 q2;rcases pV (D _ m1).1 E o F.symm with k|k
   grind;grind
  omega
 have s2:0<ay v w g.1:=by
  by_cases e:ay v w g.1=0
  .obtain⟨s,E,o,F⟩:=oa (u:=qp u) (v:=qp v) (w:=qp w) (y:=qp g.1) U (by simp_all[dB]) q1 q3;rcases pV (D _ m2).1 E o F.symm with k|k
   grind;grind
  omega
 have nu:su g.1≠su u:=fun e=>hx (by rw[AF T (S.sp.ok.ok u (by simp)) e];simp)
 have G:AtT g g.1 (slb g) [(u,v),(v,w)]:=Cw n (by
  grind)
 have l1:=fun c=>CE G (f:=(u,v)) (by simp) o c;have l2:=fun c=>CE G (f:=(v,w)) (by simp) s2 c
 have H:((crE (w,u) (slb g))->(sgE (w,u)=1->hE (w,u) (slb g)<=hE g (slb g))/\(sgE (w,u)= -1->hE g (slb g)<hE (w,u) (slb g)))->upW (aH [u,v,w]) (slb g) (hE g (slb g))<0:=by
  intro l3;refine TP o s2 Z nu ?_;intro f d;have b7:f∈[(u,v),(v,w),(w,u)]:=d;grind
 cases I:m with
 |nil=>
  subst I;have m3:(w,u)∈aH [u,v,w]:=zG _ (zG _ (zO ..))
  have s3:0<ay w u g.1:=by
   by_cases e:ay w u g.1=0
   .obtain⟨s,E,o,F⟩:=oa (u:=qp v) (v:=qp w) (w:=qp u) (y:=qp g.1) (by grind[sG]) (by simp_all[dB]) q2 q1;rcases pV (D _ m3).1 E o F.symm with k|k
    grind;grind
   omega
  have:=H (fun c=>CE (Cw n D) m3 s3 c);omega
 |cons y m'=>
  have J:m≠[]:=by grind
  clear I;have R:Cor u v w m:=⟨S.sp,J,C.pos⟩;have nd:=R.nd
  have i:∀x∈m,¬inT u v w x:=by
   intro x b9 hi;rcases C.free x (by grind) hi with rfl|rfl|rfl
   grind;grind;grind
  have K:=R.free i;obtain⟨wT,wP⟩:=R.parts S.wc i
  have q:upW (aH [u,v,w]) (slb g) (hE g (slb g))+upW (aH (w::(m++[u]))) (slb g) (hE g (slb g))=0:=by
   rw[<-hw];exact(C3 u w [v] m _ _).symm
  have rT:=SepP.wrange (p:=[u,v,w]) K.sp1 wT (slb g) (hE g (slb g));have rP:=K.sp2.wrange wP (slb g) (hE g (slb g));by_cases left:(crE (w,u) (slb g))->(sgE (w,u)=1->hE (w,u) (slb g)<=hE g (slb g))/\(sgE (w,u)= -1->hE g (slb g)<hE (w,u) (slb g))
  grind;have ck:crE (w,u) (slb g):=xi fun k=>left (fun c=>absurd c k);have V:¬((sgE (w,u)=1->hE (w,u) (slb g)<=hE g (slb g))/\(sgE (w,u)= -1->hE g (slb g)<hE (w,u) (slb g))):=fun k=>left fun _=>k;clear left H;have t:=kZ ck;have A:crE (u,w) (slb g):=by grind[crE]
  have ek:∀z,yE (u,w) z=yE (w,u) z:=ZH t;have hk:hE (u,w) (slb g)=hE (w,u) (slb g):=by grind[hE]
  have sk:sgE (u,w)= -sgE (w,u):=Ol t;have hP:aH (w::(m++[u]))=aX w m u++[(u,w)]:=rj;have j:(u,w)∈aH (w::(m++[u])):=by grind
  have l:=wP.at_ (u,w) j (slb g) A;rw[hP,sd]at l rP q;have one:∀h,upW [(u,w)] (slb g) h=upE (slb g) h (u,w):=by simp[upW]
  rw[one]at l rP q;have L:upE (slb g) (hE (u,w) (slb g)) (u,w)=0:=vd fun k=>by grind
  rw[L,hk]at l;obtain⟨c0,lo,W⟩:=mK n;have M:((slb g:Int):Rat)<=(su g.1:Rat):=by exact_mod_cast lo
  have N:(su g.1:Rat)<=((slb g+1:Int):Rat):=by exact_mod_cast W
  have xk:(sgE (w,u)=1->yQ (w,u) (su g.1)<=(g.1.y:Rat))/\(sgE (w,u)= -1->(g.1.y:Rat)<=yQ (w,u) (su g.1)):=by
   have r:=DW (e:=(w,u)) t g.1;grind
  have c7:∀f,leE (u,w) f (slb g)->yQ (w,u) (su g.1)<=yQ f (su g.1):=by
   intro f d;refine pW (e:=(w,u)) ?_ M N;grind[leE]
  have c8:∀f,leE f (u,w) (slb g)->yQ f (su g.1)<=yQ (w,u) (su g.1):=by
   intro f d;refine pW (f:=(w,u)) ?_ M N;grind[leE]
  have pf:∀f∈aX w m u,crE f (slb g)->(leE g f (slb g)\/leE f g (slb g))/\(leE (u,w) f (slb g)\/leE f (u,w) (slb g))/\yQ f (su g.1)≠(g.1.y:Rat):=by
   intro f d X;have fm:f∈aH (u::v::w::m):=by grind[gd]
   have O:f∈aH (w::(m++[u])):=by grind
   have B:=D f fm
   have nf:f≠(u,w):=by
    rintro rfl;have Y:=K.nd2;exact J (u5 Y d (.inr rfl) (.inl rfl))
   refine⟨tB B.1 B.2 c0 X,tB (K.sp2.sep _ j _ O nf.symm) (K.sp2.twin' j O nf.symm) A X,Rv n B.1 ?_ X⟩;intro P;rcases R.mem d P with k|k|k
   grind;grind;grind
  have yg:=Zt g;have e0:∀f,leE g f (slb g)->(g.1.y:Rat)<=yQ f (su g.1):=fun f d=>by grind[pW]
  have e3:∀f,leE f g (slb g)->yQ f (su g.1)<=(g.1.y:Rat):=fun f d=>by grind[pW]
  rcases DK (w,u)with sg|sg
  .have Q:upW (aX w m u) (slb g) (hE g (slb g))=upW (aX w m u) (slb g) (hE (w,u) (slb g)):=by
    unfold upW;congr 1;apply yA;intro f d;refine ifc ⟨fun⟨a,b⟩=>⟨a,?_⟩,fun⟨a,b⟩=>⟨a,by grind⟩⟩;obtain⟨o1,o2,o3⟩:=pf f d a;rcases o1 with o1|o1
    .rcases o2 with o2|o2
     .rw[<-hk];exact o2.2.2
     grind
    have:=o1.2.2;grind
   have up:upE (slb g) (hE g (slb g)) (u,w)=sgE (u,w):=ve ⟨A,by grind⟩;omega
  have Q:upW (aX w m u) (slb g) (hE g (slb g))=upW (aX w m u) (slb g) (hE (w,u) (slb g)):=by
   unfold upW;congr 1;apply yA;intro f d;refine ifc ⟨fun⟨a,b⟩=>⟨a,by grind⟩,fun⟨a,b⟩=>⟨a,?_⟩⟩;obtain⟨o1,o2,o3⟩:=pf f d a;rcases o1 with o1|o1
   .exact o1.2.2
   rcases o2 with o2|o2
   grind
   .have:=o2.2.2;grind
  have up:upE (slb g) (hE g (slb g)) (u,w)=0:=vd fun k=>by grind
  omega
end
theorem Xg {p:Rp}(a:CP p){u v w:Spot}(b:Ear p u v w){g:Ed}(c:su g.1≠su g.2)(j:g.1∉p)(d:OkS g.1)
 (k:∀f∈aH p,sepE g f/\¬twinE g f) (l:upW (aH p) (slb g) (hE g (slb g))=0):¬inT u v w g.1:=by
 obtain⟨A,B,m,rfl,e⟩:=MM a.sp.nd a.sp.n3 b.e1 b.e2;have h:=a.rot;have i:=b.rot;grind[kI,C7,Wd]
theorem Cho.ear {a q:Spot}{l1 l2:Rp}(h:Cho a l1 q l2)(s:WcP (a::(l1++q::l2)) 1)(y:WcP (a::(l1++[q])) 1)(A:WcP (q::(l2++[a])) 1)
 {u v w:Spot} (c:Ear (a::(l1++[q])) u v w) (va:v≠a) (D:v≠q):Ear (a::(l1++q::l2)) u v w:=by
 have p:∀e,e∈aH (a::(l1++[q]))->endE v e->e∈aH (a::(l1++q::l2)):=by
  intro e n B;rw[rj,za,z8]at n;rcases n with n|rfl
  grind[Cho.left]
  .rcases B with k|k
   grind;grind
 refine⟨p _ c.e1 (.inr rfl),p _ c.e2 (.inl rfl),c.pos,?_⟩;intro x C hi;by_cases d:x∈a::(l1++[q])
 .exact c.free x d hi
 exfalso;have o:x∈l2:=by grind
 obtain⟨g,r,rfl⟩:=qU (a:=q) (z:=a) (zG q o);have b:g∈aH (a::(l1++q::l2)):=Cho.right r
 have j:su g.1≠su g.2:=by
  obtain⟨i,hi,rfl⟩:=(fF h.sp.pos).1 b;exact h.sp.sune i
 refine Xg ⟨h.sp1,y⟩ c j d (h.sp.ok.ok _ C) ?_ ?_ hi
 .intro f l;rw[rj,za,z8]at l;rcases l with l|rfl
  .have m:g≠f:=by
    grind[lM]
   exact⟨h.sp.sep _ b _ (Cho.left l) m,h.sp.twin' b (Cho.left l) m⟩
  exact⟨(h.ch g b).rev.symm,fun t=>h.twin b (twinE.rev t.symm)⟩
 rw[h.at_right s A r (mK j).1];rfl
end Go.F
