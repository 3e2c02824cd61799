/- Part 28. -/
import Derived.Test.YtglbdppmnchoeaaGreatZ27
set_option linter.all false
set_option maxHeartbeats 8000000
namespace Go.F
attribute [local irreducible] IntKind.wrap wpM
def dX (a b:Spot):Spot:=⟨a.x+b.x,a.y+b.y⟩
def qp (s:Spot):QP:=⟨s.x,s.y⟩
class MidS (s:Spot):Prop where
 bx:s.x.natAbs<=1099511627776
 byy:s.y.natAbs<=1099511627776
instance midOk {s:Spot} [h:OkS s]:MidS s:=⟨by have:=h.bx;omega,by have:=h.byy;omega⟩
instance (priority:=100) midX {s:Spot} [h:MidS s]:Bd s.x 1099511627776:=⟨h.bx⟩
instance (priority:=100) midY {s:Spot} [h:MidS s]:Bd s.y 1099511627776:=⟨h.byy⟩
instance qbQx {s:Spot} [h:MidS s]:QPB (qp s) 2:=⟨FI (by have:=h.bx;omega) (by have:=h.bx;omega),FI (by have:=h.byy;omega) (by have:=h.byy;omega)⟩
theorem sK (s:Spot) [h:MidS s]:PU 87 [s.enc]=some (pH (qp s)):=by
 have h1:=h.bx;have a:=h.byy;refine PS rfl (jA rfl (Wl s.x s.y (by omega) (by omega) (by omega) (by omega)) ?_);exact jZ rfl
theorem Du (a b:Spot) [MidS a] [MidS b]:PU 45 [a.enc,b.enc]=some (dX a b).enc:=by
 have c:IntKind.i64.wrap (a.x+b.x)=a.x+b.x:=cH (by decide);have d:IntKind.i64.wrap (a.y+b.y)=a.y+b.y:=cH (by decide);refine PS rfl (jF rfl ?_);rw[c,d];rfl
theorem Lh (s:Spot)(m:Int)(h0:0<=m)(h1:m<=1099511627776):PU 47 [s.enc,.int .i64 m]=some (.bool (aD s m)):=by
 have w:IntKind.i64.wrap (0-m)= -m:=by grind[wrap64]
 refine PS rfl ?_
 repeat' (first
  |refine jP rfl ?_
  |refine au rfl ?_ ?_<;>intro _
  |refine fI rfl ?_)
 all_goals ((try simp only[cw,ca,cC,eJ,zT,zQ,zj,zi,yO,yZ]at*);first|(simp_all[aD];done) |(simp_all[aD];omega) |(rw[D.bool.injEq,zN];simp[aD];omega) |(rw[D.bool.injEq,zN];simp_all[aD];omega) |(simp[aD];split<;>(try split)<;>omega))
structure Seg where
 fr:Spot
 to:Spot
 w:Int
def Seg.enc (s:Seg):D:=.agg [.int .i64 s.fr.x,.int .i64 s.fr.y,.int .i64 s.to.x,.int .i64 s.to.y,.int .i64 s.w]
class SegOk (s:Seg):Prop where
 fr:MidS s.fr
 to:MidS s.to
 w0:0<=s.w
 w1:s.w<=500
instance {s:Seg} [h:SegOk s]:MidS s.fr:=h.fr
instance {s:Seg} [h:SegOk s]:MidS s.to:=h.to
def nR (v:Spot)(a b:Seg):Rp:=
 match qj (qp a.fr) (qp a.to) (qp b.fr) (qp b.to)with
 |none=>[a.to,b.fr]
 |some m=>
  if(gU (bA m (qp v))).2=0/\aD (gU (bA m (qp v))).1 (4*max a.w b.w+4)=true then [dX v (gU (bA m (qp v))).1]else [a.to,b.fr]
theorem Ta (p:QP):MidS (gU p).1:=by
 unfold gU;split
 .rename_i h;rw[zJ,vn,vn]at h;exact⟨by grind,by grind⟩
 exact⟨by simp,by simp⟩
theorem vp {l:Rp}{n:Nat}(a:n=l.length):0+n<=(l.map Spot.enc).length/\(((l.map Spot.enc).drop 0).take n).all (dat 4)=true:=by
 grind[fh]
theorem TZ (v:Spot)(a b:Seg) [u:MidS v] [k:SegOk a] [o:SegOk b]:PU 46 [v.enc,a.enc,b.enc]=some (ac (nR v a b)):=by
 have e:=PG (RP.of (qp a.fr)) (RP.of (qp a.to)) (RP.of (qp b.fr)) (RP.of (qp b.to)) (by decide);rw[RP.of_v,RP.of_v,RP.of_v,RP.of_v]at e;have y:=k.w0;have z:=k.w1;have A:=o.w1;refine PS rfl (jA rfl (sK a.fr) (jA rfl (sK a.to) (jA rfl (sK b.fr) (jA rfl (sK b.to) ?_))))
 cases d:qj (qp a.fr) (qp a.to) (qp b.fr) (qp b.to)with
 |none=>
  rw[d]at e;refine aB rfl rfl e (jC rfl (fun g=>?_) (fun g=>?_))
  .rw[co]at g;cases g
  refine gg rfl (cS rfl rfl rfl ⟨vp (l:=[a.to,b.fr]) rfl,tr⟩ ?_);rw[nR,d];rfl
 |some m=>
  rw[d]at e
  have p:QPB m 50:=by
   unfold qj at d;split at d
   grind
   .cases d;exact inferInstance
  have c:=sV (RP.of m) (RP.of (qp v)) (by decide) (by decide);rw[RP.of_v,RP.of_v]at c;have f:=P5 (RP.of (bA m (qp v))) (by decide);rw[RP.of_v]at f;have q:=Ta (bA m (qp v))
  have r:nR v a b=if(gU (bA m (qp v))).2=0/\aD (gU (bA m (qp v))).1 (4*max a.w b.w+4)=true then [dX v (gU (bA m (qp v))).1]else [a.to,b.fr]:=by
   rw[nR,d]
  rw[r];generalize gU (bA m (qp v))=j at*;have s:=ww (x:=4*max a.w b.w);have t:=ww (x:=4*max a.w b.w+4);refine aB rfl rfl e (jC rfl (fun _=>?_) (fun g=>absurd rfl (dG.1 g)));refine jA rfl (sK v) (aB rfl rfl c (aB rfl rfl f (gg rfl (au rfl (fun i=>?_) (fun i=>?_)))))
  .rw[co]at i;refine gg rfl ?_;rw[s,t];refine aB rfl rfl (Lh j.1 (4*max a.w b.w+4) (by omega) (by omega)) ?_;refine jC rfl (fun n=>?_) (fun n=>?_)
   .refine jA rfl (Du v j.1) (gg rfl (cS rfl rfl rfl ⟨vp (l:=[dX v j.1]) rfl,tr⟩ ?_));rw[ve ⟨i,n⟩];rfl
   refine gg rfl (cS rfl rfl rfl ⟨vp (l:=[a.to,b.fr]) rfl,tr⟩ ?_);rw[vd (fun h=>by grind)];rfl
  rw[dG]at i;refine gg rfl (aj rfl (gg rfl (cS rfl rfl rfl ⟨vp (l:=[a.to,b.fr]) rfl,tr⟩ ?_)));rw[vd (fun h=>i h.1)];rfl
section
variable {T:Tab}{sh:Shr}{nx0:Nat}{s:List Fr}{t:ai}{h:ab}{z:Frz}{nx:Nat}{q:Ex->ai->ab->Frz->Nat->Prop}
variable {base i:Nat}{res:List Nat}{g:Gd}{rest:List KOper}
theorem cb {α:Type}{enc:α->D}{b ag:Bool}{n:Nat}{a:X}{c:Nat}{id f esz:Nat}(L:List α)(k:Nat)(d:α)(j:a.ev t=.ptr id f 0)(l:f=k)(m:∀w:α,rC ag n (enc w) 0=some (enc w))(hr:g.h base h id=some (.row (L.map enc) esz))(p:L[k]?=some d)
 (o:wpM T sh nx0 (.ops base res rest::s) .normal (upd t c (enc d)) h z nx q):
 wpM T sh nx0 (.ops base res (⟨i,some c,none,g,.load b ag n a⟩::rest)::s) .normal t h z nx q:=by
 exact aQ j hr (e:=enc d) (by grind) (m d) o
end
def eN (v sh:Rp)(a:List Int)(i:Nat):Seg:=⟨dX (pt v i) (pt sh i),dX (pt v ((i+1)%v.length)) (pt sh i),wd a i⟩
def ra (v sh:Rp)(a:List Int)(i:Nat):Rp:=nR (pt v i) (eN v sh a ((i+v.length-1)%v.length)) (eN v sh a i)
def dZ (v sh:Rp)(a:List Int):Nat->Rp
 |0=>[]
 |k+1=>dZ v sh a k++ra v sh a k
def pM (l:Rp):Spot:=pt l (l.length-1)
def dz (out:Rp)(p:Spot):Rp:=if out.length=0\/pM out≠p then out++[p]else out
def lH (l:Rp):Rp:=l.foldl dz []
def nm (R:Rp):Nat->Nat
 |0=>0
 |j+1=>if 1<=j/\pt R j=pt R 0 then nm R j else j+1
def La (v sh:Rp)(a:List Int):Rp:=(lH (dZ v sh a v.length)).take (nm (lH (dZ v sh a v.length)) (lH (dZ v sh a v.length)).length)
def u2 (v q:Rp):Rp×Int:=
 if q.any (fun s=>!aD s 1048576)then([],3)
 else if bE q=0 then if sgn (eL q)=sgn (eL v)then(q,0)else([],11)
 else([],bE q)
def oN (l:List Edge)(a:List Int):Rp×Int:=
 if(gw l a).2=0 then u2 (bJ l) (La (bJ l) (gw l a).1 (ct l a l.length))else([],(gw l a).2)
theorem mR (s:Seg):plain 4 s.enc=true:=rfl
theorem Nn (v:Spot)(a b:Seg):(nR v a b).length<=2:=by
 grind[nR]
theorem Wy (v sh:Rp)(a:List Int)(k:Nat):(dZ v sh a k).length<=2*k:=by
 induction k with
 |zero=>simp[dZ]
 |succ k b=>
  grind[Nn,dZ,ra]
theorem XV (out:Rp)(p:Spot):(dz out p).length<=out.length+1:=by
 grind[dz]
theorem Nk (l:Rp):∀out:Rp,(l.foldl dz out).length<=out.length+l.length:=by
 induction l with
 |nil=>simp
 |cons p l a=>grind[XV]
theorem T7 {l:List Edge}{a:List Int}(h:(gw l a).2=0):cK l=0/\a.length=l.length/\(∀x∈a,0<=x/\x<=500)/\(gw l a).1=tK (bJ l) (ct l a l.length) (sgn (eL (bJ l))):=by
 unfold gw at h⊢;split at h
 .split at h
  .split at h
   omega;simp_all[vd,eF]
  omega
 omega
theorem Te {l:List Edge}{a:List Int}(b:l.length<=a.length)(c:∀x∈a,0<=x/\x<=500)(i:Nat):0<=wd (ct l a l.length) i/\wd (ct l a l.length) i<=500:=by
 by_cases hi:i<(ct l a l.length).length
 .have:wd (ct l a l.length) i=(ct l a l.length)[i]:=by grind[wd]
  rw[this];exact c _ (K1 l a l.length b _ (zE _))
 grind[wd]
theorem G9 {v:Rp} [OkP v]{a:List Int}{c:Int}(l: -1<=c/\c<=1)(f:∀i,0<=wd a i/\wd a i<=500)(d:je v)(g:2<=v.length){i:Nat}(hi:i<v.length):
 (ml v a c i).x.natAbs<=4294967296/\(ml v a c i).y.natAbs<=4294967296:=by
 have e:=Ma d g hi;have h:=N6 (pt v i) (pt v ((i+1)%v.length));have j:=HT (n:=sqd (pt v i) (pt v ((i+1)%v.length))) (by omega) (I9 e);have f:=f i;have o:Bd (wd a i) 500:=⟨by omega⟩;have p:Bd c 1:=⟨by omega⟩;have k:Bd (c*wd a i*((pt v ((i+1)%v.length)).y-(pt v i).y)) _:=inferInstance;have b2:Bd (-(c*wd a i) *((pt v ((i+1)%v.length)).x-(pt v i).x)) _:=inferInstance;have l1:=k.le;have l2:=b2.le;have q:=uO (b:=(isq (sqd (pt v i) (pt v ((i+1)%v.length))):Int)) (m:=4294967296) (by omega) (show-((4294967296:Nat):Int)<=c*wd a i*((pt v ((i+1)%v.length)).y-(pt v i).y)by omega) (by omega);have r:=uO (b:=(isq (sqd (pt v i) (pt v ((i+1)%v.length))):Int)) (m:=4294967296) (by omega) (show-((4294967296:Nat):Int)<= -(c*wd a i) *((pt v ((i+1)%v.length)).x-(pt v i).x)by omega) (by omega);exact⟨by show(dl _ _).natAbs<=_;omega,by show(dl _ _).natAbs<=_;omega⟩
theorem K4 {f:Nat->Spot}{n i:Nat}(h:i<n):pt ((List.range n).map f) i=f i:=by
 grind[bc]
theorem Zg {c:Rp}{j:Nat}(h:j<c.length)(out:Rp):(c.take (j+1)).foldl dz out=dz ((c.take j).foldl dz out) (pt c j):=by
 grind[List.take_succ_eq_append_getElem,bc]
theorem LU (l:List Edge)(o:List Int):
 PU 15 [edges l,ints o]=some (oF (oN l o)):=by
 have q:=LG l;refine PS rfl (jA rfl (Vj l o) (jC rfl (fun g=>?_) (fun g=>?_)))
 .rw[aO]at g;refine jF rfl ?_;rw[oN,vd g];rfl
 rw[aE]at g;rw[oN,ve g];obtain⟨hc,c4,G,a1⟩:=T7 g;obtain⟨h2,c5,_,_,L⟩:=qC hc;obtain⟨v3,c6,c7,c8,vs⟩:=fj L;have a2:∀e∈l,1<=e.line.length/\e.line.length<=100000:=fun e he=>by grind[Ae]
 rw[rF,ve hc]at q;have M:=D0 l o l.length (zD _);rw[zH]at M;have H:=Te (l:=l) (by omega) G;have a3:=HI l o (by omega) a2 (by omega) (by omega);have a4: -1<=sgn (eL (bJ l))/\sgn (eL (bJ l))<=1:=by have:=(C2 (eL (bJ l))).le;omega
 have c9:(gw l o).1.length=(bJ l).length:=by grind[tK]
 have Q:∀i,i<(bJ l).length->(pt (gw l o).1 i).x.natAbs<=4294967296/\(pt (gw l o).1 i).y.natAbs<=4294967296:=by
  grind[tK,K4,G9]
 have a5:∀i,i<(bJ l).length->MidS (pt (gw l o).1 i):=by
  intro i hi;rw[a1,tK,K4 hi];have:=G9 a4 H vs (by omega) hi;exact⟨by omega,by omega⟩
 generalize (gw l o).1=sh at*;generalize (gw l o).2=e0 at*;subst g;refine jA rfl q (jC rfl (fun g=>absurd rfl (aO.1 g)) (fun _=>?_));refine jA rfl a3 (gg rfl ?_);generalize ct l o l.length=a at*;generalize bJ l=v at*
 have T:∀i,i<v.length->SegOk (eN v sh a i):=by
  intro i hi;have hb:=Q i hi;have x1:=(lq (p:=v) (i:=i)).bx;have x2:=(lq (p:=v) (i:=i)).byy;have x3:=(lq (p:=v) (i:=(i+1)%v.length)).bx;have x4:=(lq (p:=v) (i:=(i+1)%v.length)).byy;refine⟨⟨?_,?_⟩,⟨?_,?_⟩,(H i).1,(H i).2⟩<;>simp only[eN,dX]<;>omega
 rw[zA];refine eu v.length rfl rfl rfl (by grind[aK]) ?_
 have ez:List.replicate v.length (D.agg [D.int IntKind.i64 0,D.int IntKind.i64 0,D.int IntKind.i64 0,D.int IntKind.i64 0,D.int IntKind.i64 0])=(dI ⟨⟨0,0⟩,⟨0,0⟩,0⟩ v.length (eN v sh a) 0).map Seg.enc:=by
  simp[sA,Seg.enc]
 rw[ez];refine gg rfl (aw (S:=fun k:Nat=>([ac v,ints a,aa v.length,.ref 3 0 v.length,ac sh,aa v.length,aa k],none::none::none::some (.row ((dI ⟨⟨0,0⟩,⟨0,0⟩,0⟩ v.length (eN v sh a) k).map Seg.enc) 5)::nn3,zz7)) (C:=fun k=>k<=v.length) (m:=fun k=>v.length-k) 0 (zB _) (by omega) ?_ ?_)
 .exact ah rfl ⟨ae mR _,tr⟩ (by grind[ac,ints,aa])
 intro k hk N B;refine jC rfl (fun g2=>?_) (fun g2=>?_)
 .rw[ad]at g2;have b:k<v.length:=by omega
  have w1:=wS (n:=k);have c0:=tg ⟨⟨0,0⟩,⟨0,0⟩,0⟩ (eN v sh a) b;have e4:=a5 k b;refine jX k rfl rfl (aZ (by omega)) rfl ?_;refine jX k rfl rfl (aZ b) rfl (jA rfl (Du (pt v k) (pt sh k)) (gg rfl (dx rfl rfl (by omega) ?_)));refine cg ((k+1)%v.length) rfl rfl (by grind) (aZ (zI _ (by omega))) rfl ?_;refine jA rfl (Du (pt v ((k+1)%v.length)) (pt sh k)) (jX k rfl rfl (Dz (by omega)) rfl ?_);refine gg rfl (aA k rfl rfl rfl rfl rfl b (gp (enc:=Seg.enc) (dI ⟨⟨0,0⟩,⟨0,0⟩,0⟩ v.length (eN v sh a) k) k (eN v sh a k) rfl rfl (zC _) rfl (fun _=>rfl) rfl (zB _) (by grind[kj]) ?_));exact gE rfl (B (k+1) b (by omega) (ah rfl ⟨ae mR _,tr⟩ (by grind[ac,ints,aa])))
 rw[af]at g2;obtain rfl:k=v.length:=by omega
 clear B;refine gE rfl (gg rfl ?_);rw[tL]
 have F:∀i,i<v.length->((List.range v.length).map (eN v sh a))[i]?=some (eN v sh a i):=by
  grind
 have U:((List.range v.length).map (eN v sh a)).length=v.length:=by simp
 generalize e5:(List.range v.length).map (eN v sh a)=f at*
 have d:∀k,((dZ v sh a k).foldl dz []).length<=2*k:=fun k=>by
  grind[Nk,Wy]
 refine aw (S:=fun k:Nat=>([ac v,aa v.length,.ref 2 0 v.length,.ref 3 0 ((dZ v sh a k).foldl dz []).length,ac v,aa v.length,aa k],none::none::some (.row (f.map Seg.enc) 5)::some (.row (((dZ v sh a k).foldl dz []).map Spot.enc) 2)::nn3,zz7)) (C:=fun k=>k<=v.length) (m:=fun k=>v.length-k) 0 (zB _) (by omega) ?_ ?_
 .exact ah rfl ⟨ae mR _,rfl,tr⟩ (by grind[ac,aa])
 intro k hk N B;refine jC rfl (fun g3=>?_) (fun g3=>?_)
 .rw[ad]at g3;have b:k<v.length:=by omega
  have w1:=wS (n:=k);have w2:IntKind.i64.wrap (IntKind.i64.wrap ((k:Int)+v.length)-1)=((k+v.length-1:Nat):Int):=by grind[wrap64]
  have hm:(k+v.length-1)%v.length<v.length:=zI _ (by omega);have e6:=T _ hm;have e7:=T k b;have e8:=d (k+1);refine jX k rfl rfl (aZ b) rfl (gg rfl (dx rfl rfl (by omega) ?_));refine gg rfl (aA ((k+v.length-1)%v.length) rfl rfl rfl rfl (by grind) hm ?_);refine gg rfl (cb (enc:=Seg.enc) f ((k+v.length-1)%v.length) (eN v sh a ((k+v.length-1)%v.length)) rfl (zC _) (fun _=>rfl) rfl (F _ hm) (gg rfl (aA k rfl rfl rfl rfl rfl b (gg rfl (cb (enc:=Seg.enc) f k (eN v sh a k) rfl (zC _) (fun _=>rfl) rfl (F _ b) (jA rfl (TZ (pt v k) (eN v sh a ((k+v.length-1)%v.length)) (eN v sh a k)) (gg rfl ?_)))))));have e9:(ra v sh a k).length<=2:=Nn _ _ _;have g0:dZ v sh a (k+1)=dZ v sh a k++ra v sh a k:=rfl;have g1:=d k;change wpM _ _ _ _ _ (upd _ 100 _) _ _ _ _;have b0:nR (pt v k) (eN v sh a ((k+v.length-1)%v.length)) (eN v sh a k)=ra v sh a k:=rfl;rw[b0];generalize ra v sh a k=c at*;generalize hP:(dZ v sh a k).foldl dz []=P at*
  have b1:∀j,((c.take j).foldl dz P).length<=P.length+2:=fun j=>by
   grind[Nk]
  refine aw (S:=fun j:Nat=>([ac v,aa v.length,.ref 2 0 v.length,.ref 3 0 ((c.take j).foldl dz P).length,ac v,aa v.length,aa k,ac c,aa c.length,aa j],none::none::some (.row (f.map Seg.enc) 5)::some (.row (((c.take j).foldl dz P).map Spot.enc) 2)::nn6,zz10)) (C:=fun j=>j<=c.length) (m:=fun j=>c.length-j) 0 (zB _) (by omega) ?_ ?_
  .exact ah rfl ⟨ae mR _,ae am _,tr⟩ (by simp[ac,aa])
  intro j hj N2 b2;refine jC rfl (fun g4=>?_) (fun g4=>?_)
  .rw[ad]at g4;have V:j<c.length:=by omega
   have wj:=wS (n:=j);have b4:=Zg V P;have g7:=b1 j;generalize hO:(c.take j).foldl dz P=O at*
   have next:∀{t:ai} {h:ab} {z:Frz} {nx:Nat},(bz 0 [(8,0),(10,0),(11,0),(14,2),(77,0),(78,0),(79,0),(98,0),(99,0),(100,0)] t h z nx fun _ _ kp=>kp=([ac v,aa v.length,.ref 2 0 v.length,.ref 3 0 (dz O (pt c j)).length,ac v,aa v.length,aa k,ac c,aa c.length,aa ((j+1:Nat):Int)],none::none::some (.row (f.map Seg.enc) 5)::some (.row ((dz O (pt c j)).map Spot.enc) 2)::nn6,zz10))->N2 t h z nx:=by
    grind
   clear b2;have wl:O.length≠0->IntKind.i64.wrap ((O.length:Int)-1)=((O.length-1:Nat):Int):=fun h=>by grind[wrap64]
   refine jX j rfl rfl (aZ V) rfl (gg rfl (au rfl (fun I=>?_) (fun I=>?_)))
   .rw[co]at I;have W:O.length=0:=by omega
    have r:dz O (pt c j)=O++[pt c j]:=by simp_all[dz]
    refine gg rfl (ak rfl (gg rfl (bI rfl rfl rfl rfl rfl rfl (by simp) (zB _) (by grind[aK]) ?_)));refine gE rfl (next (ah rfl ⟨ae mR _,?_,tr⟩ ?_))
    .rw[zY,ae am];rfl
    grind[ac,aa,Spot.enc]
   rw[dG]at I;have W:O.length≠0:=by omega
   have J:O[O.length-1]?=some (pM O):=by grind[pM,bc]
   refine gg rfl (aA (O.length-1) rfl rfl rfl rfl (wl W) (by omega) ?_);refine gg rfl (cb (enc:=Spot.enc) O (O.length-1) (pM O) rfl (zC _) (fun _=>rfl) rfl J (jC rfl (fun K=>?_) (fun K=>?_)))
   .rw[hJ]at K;have E:pM O≠pt c j:=by grind
    have r:dz O (pt c j)=O++[pt c j]:=by simp_all[dz]
    refine gg rfl (bI rfl rfl rfl rfl rfl rfl (by simp) (zB _) (by grind[aK]) ?_);refine gE rfl (next (ah rfl ⟨ae mR _,?_,tr⟩ ?_))
    .rw[zY,ae am];rfl
    grind[ac,aa,Spot.enc]
   rw[hJ]at K;have g8:pM O=pt c j:=by grind
   have r:dz O (pt c j)=O:=by simp_all[dz]
   exact gE rfl (next (ah rfl ⟨ae mR _,ae am _,tr⟩ (by grind[ac,aa])))
  rw[af]at g4;refine gE rfl (gE rfl (B (k+1) b (by omega) (ah rfl ⟨ae mR _,ae am _,tr⟩ ?_)));grind[ac,aa]
 rw[af]at g3;obtain rfl:k=v.length:=by omega
 clear B;have b5:=d v.length;have hq:La v sh a=(lH (dZ v sh a v.length)).take (nm (lH (dZ v sh a v.length)) (lH (dZ v sh a v.length)).length):=rfl;rw[hq];change ((lH (dZ v sh a v.length))).length<=_ at b5;refine gE rfl (gg rfl ?_);have X:(dZ v sh a v.length).foldl dz []=lH (dZ v sh a v.length):=rfl;rw[X];clear hq d X;generalize lH (dZ v sh a v.length)=R at*;refine aw (S:=fun j:Nat=>([ac v,.ref 1 0 j],[none,some (.row (R.map Spot.enc) 2)],[0,0])) (C:=fun j=>j<=R.length/\nm R j=nm R R.length) (m:=fun j=>j) R.length ⟨zD _,rfl⟩ (by omega) ?_ ?_
 .exact ah rfl ⟨ae am _,tr⟩ (by rfl)
 rintro j ⟨hj,b6⟩ N B;have wl:j≠0->IntKind.i64.wrap ((j:Int)-1)=((j-1:Nat):Int):=fun h=>by grind[wrap64]
 have u:¬(2<=j/\pt R (j-1)=pt R 0)->nm R R.length=j:=by
  intro h;rw[<-b6]
  cases j with
  |zero=>rfl
  |succ j=>simp_all[nm,vd]
 refine gg rfl (au rfl (fun I=>?_) (fun I=>?_));rw[bk]at I;have g9:2<=j:=by omega
 refine gg rfl (aA (j-1) rfl rfl rfl rfl (wl (by omega)) (by omega) ?_);refine gg rfl (cb (enc:=Spot.enc) R (j-1) (pt R (j-1)) rfl (zC _) (fun _=>rfl) rfl (by grind[bc]) ?_);refine gg rfl (aA 0 rfl rfl rfl rfl rfl (by omega) ?_);refine gg rfl (cb (enc:=Spot.enc) R 0 (pt R 0) rfl rfl (fun _=>rfl) rfl (by grind[bc]) ?_);refine jC rfl (fun K=>?_) (fun K=>?_)
 .rw[hJ]at K;refine gg rfl (fi (j-1) rfl rfl rfl ⟨_,_,rfl,wl (by omega)⟩ (by omega) ?_);refine gE rfl (B (j-1) ⟨by omega,?_⟩ (by omega) (ah rfl ⟨ae am _,tr⟩ (by rfl)));obtain⟨i,rfl⟩:∃i,j=i+1:=⟨j-1,by omega⟩;simp_all[nm]
 rw[hJ]at K;have E:¬(2<=j/\pt R (j-1)=pt R 0):=fun h=>by grind
 rw[u E];refine gE rfl (gg rfl ?_);rotate_left;rw[aW]at I;have E:¬(2<=j/\pt R (j-1)=pt R 0):=fun h=>by omega
 rw[u E];refine gg rfl (aj rfl (gE rfl (gg rfl ?_)))
 all_goals
  have w:D.lst ((R.map Spot.enc).take j)=ac (R.take j):=by rw[ac,yD]
  have A:0+j<=(R.map Spot.enc).length/\(((R.map Spot.enc).drop 0).take j).all (dat 4)=true:=by
   refine⟨by simp;omega,?_⟩;rw[x6,<-yD];exact bF fh _
  have h0:(R.take j).length=j:=by simp;omega
  refine aw (S:=fun k:Nat=>([ac v,.ref 1 0 j,.ref 1 0 j,aa j,aa k],none::some (.row (R.map Spot.enc) 2)::nn3,zz5)) (C:=fun k=>k<=j/\∀i,i<k->aD (pt R i) 1048576=true) (m:=fun k=>j-k) 0 ⟨zB _,fun i hi=>by omega⟩ (by omega) ?_ ?_
  .exact ah rfl ⟨ae am _,ae am _,tr⟩ (by simp[ac,aa])
  rintro k ⟨hk,Y⟩ N B;refine jC rfl (fun f1=>?_) (fun f1=>?_)
  .rw[ad]at f1;have b:k<j:=by omega
   have w1:=wS (n:=k);refine gg rfl (aA k rfl rfl rfl rfl rfl b (gg rfl (cb (enc:=Spot.enc) R k (pt R k) rfl (zC _) (fun _=>rfl) rfl (by rw[bc (by omega)];exact zK (by omega)) ?_)));refine jA rfl (Lh (pt R k) 1048576 (by decide) (by decide)) ?_;refine jC rfl (fun f2=>?_) (fun f2=>?_)
   .refine gE rfl (jF rfl ?_)
    have:(R.take j).any (fun s=>!aD s 1048576)=true:=by
     refine xc.2 ⟨pt R k,?_,f2⟩;rw[bc (by omega)];exact ze.2 ⟨k,by omega,by simp⟩
    rw[u2,ve this];rfl
   refine gE rfl (B (k+1) ⟨b,fun i hi=>?_⟩ (by omega) (ah rfl ⟨ae am _,ae am _,tr⟩ (by simp[ac,aa,w1])));by_cases b7:i<k
   .exact Y i b7
   obtain rfl:i=k:=by omega
   simpa using f2
  rw[af]at f1;clear B
  have Z:(R.take j).any (fun s=>!aD s 1048576)=false:=by
   rw[wu];intro s hs;obtain⟨i,hi,rfl⟩:=wR hs;have:=Y i (by omega);rw[bc (by omega)]at this;simp[this]
  rw[u2,vd (by rw[Z];decide)];refine gE rfl (gg rfl (gk rfl rfl ⟨A,tr⟩ (by rw[w];exact pj (R.take j)) rfl ?_));refine jC rfl (fun f3=>?_) (fun f3=>?_)
  .rw[aO]at f3;refine jF rfl ?_;rw[vd f3];rfl
  rw[aE]at f3;rw[ve f3];refine gg rfl (gk rfl rfl ⟨A,tr⟩ (by rw[w];exact BL (R.take j)) rfl ?_);refine jA rfl (BL v) (jC rfl (fun f4=>?_) (fun f4=>?_))
  .rw[aO]at f4;refine jF rfl ?_;rw[vd f4];rfl
  rw[aE]at f4;rw[ve f4];refine gg rfl (cS rfl rfl rfl ⟨A,tr⟩ ?_);rw[w];rfl
section
variable {T:Tab}{sh:Shr}{nx0:Nat}{s:List Fr}{t:ai}{h:ab}{z:Frz}{nx:Nat}{q:Ex->ai->ab->Frz->Nat->Prop}
variable {base i:Nat}{res:List Nat}{dst:Nat}{g:Gd}{rest:List KOper}
end
end Go.F
namespace Go.F
def az (a b c:QP):Rat:=(b.x-a.x) *(c.y-a.y)-(b.y-a.y) *(c.x-a.x)
theorem dB (a b c:Spot):az (qp a) (qp b) (qp c)=((ay a b c:Int):Rat):=by
 simp[az,ay,qp]
theorem iR (a b c d:QP)(t:Rat):az a b (onP c d t)=(1-t) *az a b c+t*az a b d:=by
 grind[az,onP,eW,ew,bA]
theorem qq (a b:QP)(s:Rat):az a b (onP a b s)=0:=by
 grind[az,onP,eW,ew,bA]
theorem Qo {a b s:Rat}(h0:0<=s)(h1:s<=1):min a b<=a+(b-a) *s/\a+(b-a) *s<=max a b:=by
 rw[Rat.min_def,Rat.max_def];by_cases h:a<=b
 .have c:=zW (show 0<=b-a by grind) h0;have d:=zW (show 0<=b-a by grind) (show 0<=1-s by grind);grind
 have c:=zW (show 0<=a-b by grind) h0;have d:=zW (show 0<=a-b by grind) (show 0<=1-s by grind);grind
theorem TE {a b q:Int}{s:Rat}(h0:0<=s)(h1:s<=1)(d:(q:Rat)=a+((b:Rat)-a) *s):min a b<=q/\q<=max a b:=by
 have h:=Qo (a:=(a:Rat)) (b:=(b:Rat)) h0 h1;rw[<-d,Rat.min_def,Rat.max_def]at h;by_cases c:a<=b
 .have:(a:Rat)<=(b:Rat):=yF.2 c;rw[ve this,ve this,yF,yF]at h;omega
 have:¬(a:Rat)<=(b:Rat):=fun e=>c (yF.1 e);rw[vd this,vd this,yF,yF]at h;omega
theorem q9 {a b q:Spot}{s:Rat}(h0:0<=s)(h1:s<=1)(c:qp q=onP (qp a) (qp b) s):onS a b q=true:=by
 have d:ay a b q=0:=by
  grind[dB,qq,Rat.intCast_eq_zero_iff]
 have e:(q.x:Rat)=a.x+((b.x:Rat)-a.x) *s:=zX QP.x c;have f:(q.y:Rat)=a.y+((b.y:Rat)-a.y) *s:=zX QP.y c;grind[TE,onS]
theorem DX {a b c:Spot}(d:a≠b)(i:ay a b c=0):∃s:Rat,qp c=onP (qp a) (qp b) s:=by
 have e:az (qp a) (qp b) (qp c)=0:=by simp_all[dB]
 unfold az at e;by_cases j:b.x=a.x
 .have k:b.y≠a.y:=fun h=>d (by cases a;cases b;grind)
  have f:(qp b).y-(qp a).y≠0:=by
   show(b.y:Rat)-(a.y:Rat)≠0;rw[<-xn];intro h;rw[yw]at h;omega
  refine⟨((qp c).y-(qp a).y)/((qp b).y-(qp a).y),?_⟩;grind[qp,onP,eW,ew,bA]
 have g:(qp b).x-(qp a).x≠0:=by
  show(b.x:Rat)-(a.x:Rat)≠0;rw[<-xn];intro h;rw[yw]at h;omega
 refine⟨((qp c).x-(qp a).x)/((qp b).x-(qp a).x),?_⟩;grind[qp,onP,eW,ew,bA]
theorem Bo {a b:Spot}(c:a≠b){s t:Rat}(h:onP (qp a) (qp b) s=onP (qp a) (qp b) t):s=t:=by
 have f:(qp a).x+((qp b).x-(qp a).x) *s=(qp a).x+((qp b).x-(qp a).x) *t:=zX QP.x h;have g:(qp a).y+((qp b).y-(qp a).y) *s=(qp a).y+((qp b).y-(qp a).y) *t:=zX QP.y h;by_cases h1:b.x=a.x
 .have i:b.y≠a.y:=fun h=>c (by cases a;cases b;grind)
  have d:(qp b).y-(qp a).y≠0:=by
   show(b.y:Rat)-(a.y:Rat)≠0;rw[<-xn];intro h;rw[yw]at h;omega
  grind
 have e:(qp b).x-(qp a).x≠0:=by
  show(b.x:Rat)-(a.x:Rat)≠0;rw[<-xn];intro h;rw[yw]at h;omega
 grind
theorem BT (a b:QP)(c d t:Rat):onP (onP a b c) (onP a b d) t=onP a b (c+(d-c) *t):=by
 grind[onP,eW,ew,bA]
theorem fY (a b:QP):onP a b 0=a:=by
 cases a;grind[onP,eW,ew]
theorem iK (a b:QP):onP a b 1=b:=by
 cases b;grind[onP,eW,ew,bA]
theorem S5 {a b c d:Spot}(i:a≠b)(h1:ay a b c=0)(v:ay a b d=0){s t:Rat}(w:0<=s)(x:s<=1)(j:0<=t)(y:t<=1)(o:onP (qp a) (qp b) s=onP (qp c) (qp d) t):
 onS a b c=true\/onS a b d=true\/onS c d a=true:=by
 obtain⟨e,p⟩:=DX i h1;obtain⟨f,q⟩:=DX i v;rw[p,q,BT]at o;have B:=Bo i o;by_cases c1:0<=e/\e<=1
 grind[q9];by_cases c2:0<=f/\f<=1
 grind[q9]
 have k:f-e≠0:=by
  grind
 have g:(e<0/\1<f)\/(f<0/\1<e):=by
  rcases Rat.le_total (a:=e) (b:=f)with h|h
  .have z:=zW (show 0<=f-e by grind) j;have A:=zW (show 0<=f-e by grind) (show 0<=1-t by grind);grind
  have z:=zW (show 0<=e-f by grind) j;have A:=zW (show 0<=e-f by grind) (show 0<=1-t by grind);grind
 right;right;have hr:=yK (a:=0-e) k
 have u:onP (qp c) (qp d) ((0-e)/(f-e))=qp a:=by
  rw[p,q,BT];grind[fY]
 generalize (0-e)/(f-e)=r at hr u;refine q9 (s:=r) ?_ ?_ u.symm
 .rcases g with⟨l,m⟩ |⟨l,m⟩
  .by_cases n:0<=r
   omega
   .have:=xK (show 0< -r by grind) (show 0<f-e by grind);grind
  by_cases n:0<=r
  omega
  .have:=xK (show 0< -r by grind) (show 0<e-f by grind);grind
 rcases g with⟨l,m⟩ |⟨l,m⟩
 .by_cases n:r<=1
  omega
  .have:=xK (show 0<r-1 by grind) (show 0<f-e by grind);grind
 by_cases n:r<=1
 omega
 .have:=xK (show 0<r-1 by grind) (show 0<e-f by grind);grind
theorem SV {x y:Int}(h:(0<x/\y<0)\/(x<0/\0<y)):sgn x*sgn y<0:=by
 unfold sgn;grind
theorem Qg {a b c d:Spot}{s t:Rat}(e:0<=t)(i:t<=1)(o:onP (qp a) (qp b) s=onP (qp c) (qp d) t):
 (sgn (ay a b c) *sgn (ay a b d)<0)\/(ay a b c=0/\ay a b d=0)\/(ay a b c=0/\t=0)\/(ay a b d=0/\t=1):=by
 have h0:(1-t) *((ay a b c:Int):Rat)+t*((ay a b d:Int):Rat)=0:=by
  grind[dB,iR,qq]
 generalize ay a b c=x at*;generalize ay a b d=y at*;by_cases j:x=0
 grind[Rat.intCast_eq_zero_iff];by_cases k:y=0
 grind[Rat.intCast_eq_zero_iff];left;apply SV;rcases wZ j with h1|h1<;>rcases wZ k with f|f
 .have l:(x:Rat)<0:=Rat.intCast_neg_iff.2 h1;have g:(y:Rat)<0:=Rat.intCast_neg_iff.2 f;rcases Rat.le_iff_lt_or_eq.1 e with h|h
  .have m:=xK h (show 0< -(y:Rat)by grind);have n:=zW (show 0<=1-t by grind) (show 0<= -(x:Rat)by grind);grind
  grind
 omega;omega
 .have l:0<(x:Rat):=Rat.intCast_pos.2 h1;have g:0<(y:Rat):=Rat.intCast_pos.2 f;rcases Rat.le_iff_lt_or_eq.1 e with h|h
  .have m:=xK h g;have n:=zW (show 0<=1-t by grind) (show 0<=(x:Rat)by grind);grind
  grind
theorem Q2 {a b c d:Spot}(e:a≠b)(f:c≠d){s t:Rat}(g:0<=s)(h:s<=1)(i:0<=t)(j:t<=1)(k:onP (qp a) (qp b) s=onP (qp c) (qp d) t):ld a b c d=true:=by
 have key:onS a b c=true\/onS a b d=true\/onS c d a=true\/onS c d b=true\/(oi a b c d=true/\oi c d a b=true):=by
  grind[Qg,oi,S5,fY,q9,iK]
 grind[ld]
def sm {α:Type} [Add α] [OfNat α 0](f:Nat->α):Nat->α
 |0=>0
 |k+1=>sm f k+f k
theorem py {α:Type} [Add α] [OfNat α 0]{f g:Nat->α}{n:Nat}(h:∀j,j<n->f j=g j):sm f n=sm g n:=by
 induction n with
 |zero=>rfl
 |succ k a=>grind[sm]
theorem JG {f f' g:Nat->Int}{n:Nat}(h:∀j,j<n->f j-f' j=g (j+1)-g j):sm f n-sm f' n=g n-g 0:=by
 induction n with
 |zero=>simp[sm]
 |succ k a=>
  grind[sm]
theorem CF {f f':Nat->Int}{n o:Nat}(a:o<n)(h:∀j,j<n->j≠o->f j=f' j):sm f n=sm f' n+(f o-f' o):=by
 induction n with
 |zero=>omega
 |succ k b=>
  grind[sm,py]
def crU (U:Nat->Int)(j:Nat)(z:Int):Prop:=(U j<=z/\z<U (j+1))\/(U (j+1)<=z/\z<U j)
instance (U:Nat->Int)(j:Nat)(z:Int):Decidable (crU U j z):=by unfold crU;exact inferInstance
def sgU (U:Nat->Int)(j:Nat):Int:=if U j<U (j+1)then 1 else-1
def yU (U V:Nat->Int)(t:Nat->Rat)(j:Nat)(z:Int):Rat:=(V j:Rat)+t j*((z:Rat)-(U j:Rat))
structure ClU (n:Nat)(U V:Nat->Int)(t:Nat->Rat):Prop where
 cU:U n=U 0
 cV:V n=V 0
 ne:∀j,j<n->U j≠U (j+1)
 yt:∀j,j<n->yU U V t j (U (j+1))=V (j+1)
theorem JI (U V:Nat->Int)(t:Nat->Rat)(j:Nat):yU U V t j (U j)=V j:=by
 grind[yU]
def upR (U V:Nat->Int)(t:Nat->Rat)(z:Int)(y:Rat)(j:Nat):Int:=if crU U j z/\y<yU U V t j z then sgU U j else 0
def upL (U V:Nat->Int)(t:Nat->Rat)(z:Int)(y:Rat)(j:Nat):Int:=if crU U j (z-1)/\y<yU U V t j z then sgU U j else 0
theorem up_LR {n:Nat}{U V:Nat->Int}{t:Nat->Rat}(h:ClU n U V t)(z:Int)(y:Rat):sm (upL U V t z y) n=sm (upR U V t z y) n:=by
 have:=JG (f:=upL U V t z y) (f':=upR U V t z y) (g:=fun m=>if U m=z/\y<(V m:Rat)then 1 else 0) (n:=n) ?_
 .simp only[h.cU,h.cV]at this;omega
 intro j a;have h1:=h.yt j a;have h0:=JI U V t j;simp only[upL,upR,crU,sgU];grind
def inU (U:Nat->Int)(j:Nat)(z:Int):Prop:=(U j<=z/\z<=U (j+1))\/(U (j+1)<=z/\z<=U j)
structure SmU (n:Nat)(U V:Nat->Int)(t:Nat->Rat):Prop extends ClU n U V t where
 n3:3<=n
 same:∀i j z,i<n->j<n->i≠j->crU U i z->crU U j z->
  (yU U V t i z<=yU U V t j z/\yU U V t i (z+1)<=yU U V t j (z+1)/\yU U V t i z+yU U V t i (z+1)<yU U V t j z+yU U V t j (z+1))\/
  (yU U V t j z<=yU U V t i z/\yU U V t j (z+1)<=yU U V t i (z+1)/\yU U V t j z+yU U V t j (z+1)<yU U V t i z+yU U V t i (z+1))
 tch:∀i j z,i<n->j<n->i≠j->inU U i z->inU U j z->yU U V t i z=yU U V t j z->
  ∃m m',(m=i\/m=i+1)/\(m'=j\/m'=j+1)/\U m=z/\(m=m'\/(m=0/\m'=n)\/(m=n/\m'=0))
def hU (U V:Nat->Int)(t:Nat->Rat)(j:Nat)(z:Int):Rat:=yU U V t j z+yU U V t j (z+1)
def upM (U V:Nat->Int)(t:Nat->Rat)(z:Int)(i j:Nat):Int:=if crU U j z/\hU U V t i z<hU U V t j z then sgU U j else 0
def wU (n:Nat)(U V:Nat->Int)(t:Nat->Rat)(i:Nat)(z:Int):Int:=(if sgU U i= -1 then 1 else 0)-sm (upM U V t z i) n
theorem sideR {n:Nat}{U V:Nat->Int}{t:Nat->Rat}(h:SmU n U V t){i j:Nat}{z:Int}(hi:i<n)(b:j<n)(a:i≠j)(c:crU U i z)(d:crU U j z)(e:yU U V t i z≠yU U V t j z):
 hU U V t i z<hU U V t j z↔yU U V t i z<yU U V t j z:=by
 have:=h.same i j z hi b a c d;grind[hU]
theorem sideL {n:Nat}{U V:Nat->Int}{t:Nat->Rat}(h:SmU n U V t){i j:Nat}{z:Int}(hi:i<n)(b:j<n)(a:i≠j)(c:crU U i (z-1))(d:crU U j (z-1))(e:yU U V t i z≠yU U V t j z):
 hU U V t i (z-1)<hU U V t j (z-1)↔yU U V t i z<yU U V t j z:=by
 have:=h.same i j (z-1) hi b a c d;grind[hU]
theorem Gs {n:Nat}{U V:Nat->Int}{t:Nat->Rat}(h:SmU n U V t){i j:Nat}{z:Int}(hi:i<n)(b:j<n)(a:i≠j)(c:crU U i z)(d:crU U j z):
 hU U V t i z<hU U V t j z\/hU U V t j z<hU U V t i z:=by
 have:=h.same i j z hi b a c d;grind[hU]
theorem vq {U:Nat->Int}{j:Nat}{z:Int}(h:crU U j z):inU U j z:=by
 grind[crU,inU]
theorem Cu {U:Nat->Int}{j:Nat}{z:Int}(h:crU U j (z-1)):inU U j z:=by
 grind[crU,inU]
theorem Tx {n:Nat}{U V:Nat->Int}{t:Nat->Rat}(h:SmU n U V t){i:Nat}{z:Int}(hi:i<n)(e:crU U i (z-1))(c1:crU U i z):wU n U V t i (z-1)=wU n U V t i z:=by
 have key:∀j,j<n->j≠i->inU U j z->yU U V t i z≠yU U V t j z:=by
  intro j b d c f;obtain⟨m,m',l,_,o,_⟩:=h.tch i j z hi b (Ne.symm d) (vq c1) c f;grind[crU]
 have g:sm (upM U V t (z-1) i) n=sm (upL U V t z (yU U V t i z)) n:=by
  apply py;intro j b;unfold upM upL;by_cases a:j=i
  grind
  .by_cases c:crU U j (z-1)
   .have:=sideL h hi b (Ne.symm a) e c (key j b a (Cu c));grind
   grind
 have k:sm (upM U V t z i) n=sm (upR U V t z (yU U V t i z)) n:=by
  apply py;intro j b;unfold upM upR;by_cases a:j=i
  grind
  .by_cases c:crU U j z
   .have:=sideR h hi b (Ne.symm a) c1 c (key j b a (vq c));grind
   grind
 unfold wU;rw[g,k,up_LR h.toClU]
theorem cr_mid {U:Nat->Int}{j:Nat}{a b z:Int}(h1:crU U j a)(c:crU U j b)(d:a<=z)(e:z<=b):crU U j z:=by
 grind[crU]
theorem Gc {n:Nat}{U V:Nat->Int}{t:Nat->Rat}(h:SmU n U V t){i:Nat}(hi:i<n)(d:Nat):∀z:Int,crU U i z->crU U i (z+d)->wU n U V t i (z+d)=wU n U V t i z:=by
 induction d with
 |zero=>simp
 |succ d b=>
  intro z h1 a;have c:=cr_mid (z:=z+d) h1 a (by omega) (by omega);have e:z+((d+1:Nat):Int)-1=z+d:=by omega
  rw[<-Tx h hi (by grind) a,e,b z h1 c]
theorem HK {n:Nat}{U V:Nat->Int}{t:Nat->Rat}(h:SmU n U V t){i:Nat}(hi:i<n){z z':Int}(h1:crU U i z)(a:crU U i z'):wU n U V t i z'=wU n U V t i z:=by
 rcases vA z z' with b|b
 .have:=Gc h hi (z'-z).toNat z h1 (by grind);grind
 have:=Gc h hi (z-z').toNat z' a (by grind);grind
theorem G6 {n:Nat}{U V:Nat->Int}{t:Nat->Rat}(h:SmU n U V t){k e o j:Nat}(r:1<=k)(b:k<n)(c:(e=k-1/\o=k)\/(e=k/\o=k-1))(d:j<n)(f:j≠e)(s:j≠o)
 (g:inU U e (U k)) (i:inU U j (U k)):yU U V t e (U k)≠yU U V t j (U k):=by
 intro l;have a:e<n:=by omega
 obtain⟨m,m',u,p,v,w⟩:=h.tch e j (U k) a d (Ne.symm f) g i l;have q:=h.ne e a;grind
theorem Be {n:Nat}{U V:Nat->Int}{t:Nat->Rat}(h:SmU n U V t){k e:Nat}(c:1<=k)(a:k<n)(b:e=k-1\/e=k):yU U V t e (U k)=V k:=by
 rcases b with rfl|rfl
 .have:=h.yt (k-1) (by omega);grind
 simp[JI]
theorem JZ {n:Nat}{U V:Nat->Int}{t:Nat->Rat}(h:SmU n U V t){k e o:Nat}(c:1<=k)(a:k<n)(d:(e=k-1/\o=k)\/(e=k/\o=k-1))(l:crU U e (U k)):
 sm (upM U V t (U k) e) n=sm (upR U V t (U k) (V k)) n+upM U V t (U k) e o:=by
 have g:e<n:=by omega
 have q:=Be h (e:=e) c a (by omega);have r:=Be h (e:=o) c a (by omega);rw[CF (f:=upM U V t (U k) e) (f':=upR U V t (U k) (V k)) (o:=o) (by omega)];grind[upR]
 .intro j m i;unfold upM upR;by_cases b:j=e
  grind
  .by_cases p:crU U j (U k)
   .have:=sideR h g m (Ne.symm b) l p (G6 h c a d m b i (vq l) (vq p));grind
   grind
theorem LA {n:Nat}{U V:Nat->Int}{t:Nat->Rat}(h:SmU n U V t){k e o:Nat}(c:1<=k)(a:k<n)(d:(e=k-1/\o=k)\/(e=k/\o=k-1))(l:crU U e (U k-1)):
 sm (upM U V t (U k-1) e) n=sm (upR U V t (U k) (V k)) n+upM U V t (U k-1) e o:=by
 have g:e<n:=by omega
 have q:=Be h (e:=e) c a (by omega);have r:=Be h (e:=o) c a (by omega);rw[<-up_LR h.toClU,CF (f:=upM U V t (U k-1) e) (f':=upL U V t (U k) (V k)) (o:=o) (by omega)];grind[upL]
 .intro j m i;unfold upM upL;by_cases b:j=e
  grind
  .by_cases p:crU U j (U k-1)
   .have:=sideL h g m (Ne.symm b) l p (G6 h c a d m b i (Cu l) (Cu p));grind
   grind
theorem Xq {n:Nat}{U V:Nat->Int}{t:Nat->Rat}(h:SmU n U V t){k:Nat}(p:1<=k)(g:k<n){s s':Int}(i:s=U k\/s=U k-1)(d:s'=U k\/s'=U k-1)
 (c:crU U (k-1) s) (j:crU U k s'):wU n U V t (k-1) s=wU n U V t k s':=by
 have l:sm (upM U V t s (k-1)) n=sm (upR U V t (U k) (V k)) n+upM U V t s (k-1) k:=by
  rcases i with rfl|rfl
  grind[JZ];grind[LA]
 have m:sm (upM U V t s' k) n=sm (upR U V t (U k) (V k)) n+upM U V t s' k (k-1):=by
  rcases d with rfl|rfl
  grind[JZ];grind[LA]
 unfold wU;rw[l,m]
 have e:s=s'->hU U V t (k-1) s<hU U V t k s'\/hU U V t k s'<hU U V t (k-1) s:=by
  grind[Gs]
 unfold upM sgU;have o:=c;have f:=j;unfold crU at o f;by_cases a:U (k-1)<U k<;>by_cases b:U k<U (k+1)
 grind[crU];grind;grind;grind[crU]
theorem Yv {n:Nat}{U V:Nat->Int}{t:Nat->Rat}(h:SmU n U V t):∃c,∀i,i<n->∀z,crU U i z->wU n U V t i z=c:=by
 have h0:=h.ne 0 (by have:=h.n3;omega);refine⟨wU n U V t 0 (min (U 0) (U 1)),?_⟩;intro i
 induction i with
 |zero=>
  intro hi z b;exact HK h hi (by unfold crU;grind) b
 |succ i d=>
  intro hi z b;have e:=h.ne i (by omega);let s:Int:=if U i<U (i+1)then U (i+1)-1 else U (i+1)
  let s':Int:=if U (i+1)<U (i+1+1)then U (i+1)else U (i+1)-1
  have cs:crU U i s:=by grind[crU]
  have a:crU U (i+1) s':=by grind[crU]
  have v:=Xq h (k:=i+1) (by omega) hi (s:=s) (s':=s') (by omega) (by omega) (by grind) a;grind[HK]
def kb (c:Int):Int->List (Int×Rat)->Prop
 |a,[]=>a=0
 |a,e::r=>a=(if e.1= -1 then 1 else 0)-c/\kb c (a+e.1) r
def eC:List (Int×Rat)->Rat
 |[]=>0
 |e::r=>(e.1:Rat) *e.2+eC r
theorem I5:∀(l:List (Int×Rat)),kb 1 0 l->l.Pairwise (fun a b=>b.2<a.2)->(∀e∈l,e.1=1\/e.1= -1)->eC l<=0/\(l≠[]->eC l<0)
 |[],_,_,_=>by trivial
 |[e],h,_,_=>by
  grind[kb]
 |e::e'::r,h,g,c=>by
  simp only[kb]at h;have i:=c e' (by simp);have d:e.1= -1:=by omega
  have f:e'.1=1:=by omega
  have j:=I5 r (by grind) (by grind) (fun x k=>c x (by grind));have lt:e'.2<e.2:=by simp_all
  have:eC (e::e'::r)<0:=by
   simp only[eC,d,f];grind
  grind
theorem FB:∀(l:List (Int×Rat)),kb 0 0 l->l.Pairwise (fun a b=>b.2<a.2)->(∀e∈l,e.1=1\/e.1= -1)->0<=eC l/\(l≠[]->0<eC l)
 |[],_,_,_=>by trivial
 |[e],h,_,c=>by
  grind[kb]
 |e::e'::r,h,g,c=>by
  simp only[kb]at h;have i:=c e (by simp);have d:e.1=1:=by omega
  have f:e'.1= -1:=by omega
  have j:=FB r (by grind) (by grind) (fun x k=>c x (by grind));have lt:e'.2<e.2:=by simp_all
  have:0<eC (e::e'::r):=by
   simp only[eC,d,f];grind
  grind
theorem FY {l a:List (Int×Rat)}(h:l.Perm a):eC l=eC a:=by
 induction h with
 |nil=>rfl
 |cons x _ b=>grind[eC]
 |swap x y l=>grind[eC]
 |trans _ _ h1 c=>grind
def upS (h:Rat):List (Int×Rat)->Int
 |[]=>0
 |e::r=>(if h<e.2 then e.1 else 0)+upS h r
def eU:List (Int×Rat)->Int
 |[]=>0
 |e::r=>e.1+eU r
theorem XN {h:Rat}{l a:List (Int×Rat)}(b:l.Perm a):upS h l=upS h a:=by
 induction b with
 |nil=>rfl
 |cons x _ c=>grind[upS]
 |swap x y l=>grind[upS]
 |trans _ _ h1 d=>omega
theorem PE {l a:List (Int×Rat)}(b:l.Perm a):eU l=eU a:=by
 induction b with
 |nil=>rfl
 |cons x _ c=>grind[eU]
 |swap x y l=>grind[eU]
 |trans _ _ h1 d=>omega
theorem X0 {h:Rat}{l:List (Int×Rat)}(a:∀e∈l,¬h<e.2):upS h l=0:=by
 induction l with
 |nil=>rfl
 |cons e r b=>grind[upS]
theorem LF (h:Rat)(l a:List (Int×Rat)):upS h (l++a)=upS h l+upS h a:=by
 induction l with
 |nil=>simp[upS]
 |cons e r b=>grind[upS]
theorem Qw {h:Rat}{l:List (Int×Rat)}(a:∀e∈l,h<e.2):upS h l=eU l:=by
 induction l with
 |nil=>rfl
 |cons e r b=>grind[upS,eU]
theorem MC (l a:List (Int×Rat)):eU (l++a)=eU l+eU a:=by
 induction l with
 |nil=>simp[eU]
 |cons e r b=>grind[eU]
theorem OK {c:Int}:∀(r d:List (Int×Rat)),(d++r).Pairwise (fun a b=>b.2<a.2)->(∀e∈r,upS e.2 (d++r)=(if e.1= -1 then 1 else 0)-c)->eU (d++r)=0->kb c (eU d) r
 |[],d,_,_,h=>by grind[kb]
 |e::r,d,i,j,h=>by
  have f:=List.pairwise_append.1 i;have h1:upS e.2 d=eU d:=Qw (fun x g=>f.2.2 x g e (by simp))
  have k:upS e.2 (e::r)=0:=by
   grind[X0,List.pairwise_cons]
  have h3:=j e (by simp);rw[LF,h1,k]at h3;refine⟨by omega,?_⟩;have:=OK (c:=c) r (d++[e]) (by grind) (fun x g=>by grind) (by grind);rw[MC]at this;grind[eU]
theorem Px {l:List (Int×Rat)}(f:l.Pairwise (fun a b=>a.2≠b.2)):∃d,l.Perm d/\d.Pairwise (fun a b=>b.2<a.2):=by
 refine⟨l.mergeSort (fun a b=>decide (b.2<=a.2)),(vV _ _).symm,?_⟩;have h1:=vZ (le:=fun(a b:Int×Rat)=>decide (b.2<=a.2)) (fun a b c h1 e=>by grind) (fun a b=>by grind) l;have e:=((vV l (fun a b=>decide (b.2<=a.2))).pairwise_iff (R:=fun a b=>a.2≠b.2) (fun h=>Ne.symm h)).2 f;refine(List.pairwise_and_iff.2 ⟨h1,e⟩).imp ?_;grind
def iB (n:Nat)(U V:Nat->Int)(t:Nat->Rat)(z:Int):List (Int×Rat):=((List.range n).filter (fun j=>decide (crU U j z))).map (fun j=>(sgU U j,hU U V t j z))
def ku (n:Nat)(U V:Nat->Int)(t:Nat->Rat)(z:Int):Rat:=sm (fun j=>if crU U j z then(sgU U j:Rat) *hU U V t j z else 0) n
theorem Wn (l a:List (Int×Rat)):eC (l++a)=eC l+eC a:=by
 induction l with
 |nil=>grind[eC]
 |cons e r b=>grind[eC]
theorem Dh (n:Nat)(U V:Nat->Int)(t:Nat->Rat)(z:Int):iB (n+1) U V t z=iB n U V t z++(if crU U n z then [(sgU U n,hU U V t n z)]else []):=by
 grind[iB,List.range_succ]
theorem Fu (n:Nat)(U V:Nat->Int)(t:Nat->Rat)(z:Int):eC (iB n U V t z)=ku n U V t z:=by
 unfold ku
 induction n with
 |zero=>rfl
 |succ k a=>
  rw[Dh,Wn,a,sm];by_cases h:crU U k z
  .simp[h,eC];grind
  simp_all[eC]
theorem YL (n:Nat)(U V:Nat->Int)(t:Nat->Rat)(z:Int)(i:Nat):upS (hU U V t i z) (iB n U V t z)=sm (upM U V t z i) n:=by
 induction n with
 |zero=>rfl
 |succ k a=>
  rw[Dh,LF,a,sm];unfold upM;by_cases h:crU U k z
  simp_all[upS];simp_all[upS]
theorem VY (n:Nat)(U V:Nat->Int)(t:Nat->Rat)(z:Int):eU (iB n U V t z)=sm (fun j=>if crU U j z then sgU U j else 0) n:=by
 induction n with
 |zero=>rfl
 |succ k a=>
  rw[Dh,MC,a,sm];by_cases h:crU U k z
  simp_all[eU];simp_all[eU]
theorem VP {n:Nat}{U V:Nat->Int}{t:Nat->Rat}(h:ClU n U V t)(z:Int):sm (fun j=>if crU U j z then sgU U j else 0) n=0:=by
 have:=JG (f:=fun j=>if crU U j z then sgU U j else 0) (f':=fun _=>0) (g:=fun m=>if z<U m then 1 else 0) (n:=n) ?_
 .rw[h.cU]at this
  have h0:sm (fun _=>(0:Int)) n=0:=by
   generalize n=m
   induction m with
   |zero=>rfl
   |succ k a=>grind[sm]
  omega
 intro j _;unfold sgU;by_cases c:crU U j z
 .grind[crU]
 grind[crU]
theorem OT {n:Nat}{U V:Nat->Int}{t:Nat->Rat}{z:Int}{e:Int×Rat}(h:e∈iB n U V t z):∃j,j<n/\crU U j z/\e=(sgU U j,hU U V t j z):=by
 unfold iB at h;grind
theorem SO {n:Nat}{U V:Nat->Int}{t:Nat->Rat}(h:SmU n U V t)(z:Int):(iB n U V t z).Pairwise (fun a b=>a.2≠b.2):=by
 unfold iB;rw[List.pairwise_map,List.pairwise_filter];refine List.Pairwise.imp_of_mem ?_ (xx (n:=n));intro a b c d e f i j;simp at*;rcases Gs h c d (by omega) f i with g|g<;>grind
theorem EJ {n:Nat}{U V:Nat->Int}{t:Nat->Rat}(h:SmU n U V t){c:Int}(k:∀i,i<n->∀z,crU U i z->wU n U V t i z=c)(z:Int):
 ∃d,(iB n U V t z).Perm d/\d.Pairwise (fun a b=>b.2<a.2)/\kb c 0 d/\∀e∈d,e.1=1\/e.1= -1:=by
 obtain⟨d,f,g⟩:=Px (SO h z);refine⟨d,f,g,?_,?_⟩
 .refine OK (c:=c) d [] g ?_ ?_
  .intro e l;obtain⟨j,m,o,rfl⟩:=OT (f.mem_iff.2 l);simp;rw[<-XN f,YL,<-k j m z o];grind[wU]
  rw[yj,<-PE f,VY,VP h.toClU]
 grind[OT,sgU]
theorem Cd {l a:List (Int×Rat)}(b:l.Perm a)(h:l≠[]):a≠[]:=by
 intro e;simp_all
theorem qP9 {f g:Nat->Rat}{n:Nat}:sm (fun j=>f j+g j) n=sm f n+sm g n:=by
 induction n with
 |zero=>grind[sm]
 |succ k a=>grind[sm]
theorem sm_zero {n:Nat}:sm (fun _=>(0:Rat)) n=0:=by
 induction n with
 |zero=>rfl
 |succ k a=>grind[sm]
theorem S8 (f:Nat->Nat->Rat)(n N:Nat):sm (fun k=>sm (fun j=>f k j) n) N=sm (fun j=>sm (fun k=>f k j) N) n:=by
 induction N with
 |zero=>exact sm_zero.symm
 |succ K a=>simp_all[sm,qP9]
theorem Z9 {f:Nat->Rat}{n:Nat}(q:Rat):sm (fun j=>q*f j) n=q*sm f n:=by
 induction n with
 |zero=>simp[sm]
 |succ k a=>grind[sm]
theorem Gt (a b lo:Int)(c t:Rat)(d:a<=b)(e:lo<=a)(N:Nat):
 sm (fun k=>if a<=lo+(k:Int)/\lo+(k:Int)<b then(c+t*(((lo+(k:Int):Int):Rat)-a))+(c+t*(((lo+(k:Int)+1:Int):Rat)-a))else(0:Rat)) N
  =(((max a (min b (lo+N)):Int):Rat)-a) *(2*c+t*(((max a (min b (lo+N)):Int):Rat)-a)):=by
 induction N with
 |zero=>
  grind[sm]
 |succ k f=>
  rw[sm,f];by_cases h:a<=lo+(k:Int)/\lo+(k:Int)<b
  .have g:max a (min b (lo+(k:Int)))=lo+k:=by omega
   have i:max a (min b (lo+((k+1:Nat):Int)))=lo+k+1:=by omega
   rw[g,i];grind
  grind
theorem Yu {n:Nat}{U V:Nat->Int}{t:Nat->Rat}(h:ClU n U V t){j:Nat}(b:j<n)(lo:Int)(N:Nat)(h1:lo<=U j)(c:lo<=U (j+1))(h3:U j<=lo+N)(i:U (j+1)<=lo+N):
 sm (fun k=>if crU U j (lo+(k:Int))then(sgU U j:Rat) *hU U V t j (lo+(k:Int))else 0) N=((U (j+1)-U j:Int):Rat) *((V j:Rat)+V (j+1)):=by
 have d:=h.yt j b;unfold yU at d;by_cases f:U j<U (j+1)
 .have a:sgU U j=1:=by grind[sgU]
  have e:=Gt (U j) (U (j+1)) lo (V j) (t j) (by omega) h1 N;rw[py (g:=fun k=>if U j<=lo+(k:Int)/\lo+(k:Int)<U (j+1)then((V j:Rat)+t j*(((lo+(k:Int):Int):Rat)-U j))+(V j+t j*(((lo+(k:Int)+1:Int):Rat)-U j))else(0:Rat)),e];grind
  .intro k _;have:crU U j (lo+(k:Int))↔U j<=lo+(k:Int)/\lo+(k:Int)<U (j+1):=by grind[crU]
   simp_all[hU,yU]
 have a:sgU U j= -1:=by grind[sgU]
 have e:=Gt (U (j+1)) (U j) lo (V (j+1)) (t j) (by omega) c N;rw[py (g:=fun k=>(-1) *(if U (j+1)<=lo+(k:Int)/\lo+(k:Int)<U j then((V (j+1):Rat)+t j*(((lo+(k:Int):Int):Rat)-U (j+1)))+(V (j+1)+t j*(((lo+(k:Int)+1:Int):Rat)-U (j+1)))else(0:Rat))),Z9,e];grind
 .intro k _;have:crU U j (lo+(k:Int))↔U (j+1)<=lo+(k:Int)/\lo+(k:Int)<U j:=by grind[crU]
  simp[a,hU,yU];grind
theorem TS {n:Nat}{U V:Nat->Int}{t:Nat->Rat}(h:ClU n U V t)(lo:Int)(N:Nat)(h1:∀j,j<=n->lo<=U j/\U j<=lo+N):
 sm (fun k=>ku n U V t (lo+(k:Int))) N=((sm (fun j=>U (j+1) *V j-U j*V (j+1)) n:Int):Rat):=by
 unfold ku;rw[S8,py (fun j a=>Yu h a lo N (h1 j (by omega)).1 (h1 (j+1) (by omega)).1 (h1 j (by omega)).2 (h1 (j+1) (by omega)).2)]
 have key:∀m,sm (fun j=>((U (j+1)-U j:Int):Rat) *((V j:Rat)+V (j+1))) m=((sm (fun j=>U (j+1) *V j-U j*V (j+1)) m+(U m*V m-U 0*V 0):Int):Rat):=by
  intro m
  induction m with
  |zero=>simp[sm]
  |succ k b=>
   rw[sm,b,sm];grind
 rw[key n,h.cU,h.cV];simp
theorem Vr {f:Nat->Rat}{N k:Nat}(h:∀j,f j<=0)(b:k<N)(c:f k<0):sm f N<0:=by
 have le:∀M,sm f M<=0:=by
  intro M
  induction M with
  |zero=>rfl
  |succ j a=>grind[sm]
 induction N with
 |zero=>omega
 |succ j a=>
  grind[sm]
theorem Rf {f:Nat->Rat}{N k:Nat}(h:∀j,0<=f j)(b:k<N)(c:0<f k):0<sm f N:=by
 have le:∀M,0<=sm f M:=by
  intro M
  induction M with
  |zero=>rfl
  |succ j a=>grind[sm]
 induction N with
 |zero=>omega
 |succ j a=>
  grind[sm]
theorem Qz (U:Nat->Int)(n:Nat):∃(lo:Int) (N:Nat),∀j,j<=n->lo<=U j/\U j<=lo+N:=by
 induction n with
 |zero=>
  refine⟨U 0,0,fun j b=>?_⟩;grind
 |succ k a=>
  obtain⟨lo,N,h⟩:=a;refine⟨min lo (U (k+1)),(max (lo+N) (U (k+1))-min lo (U (k+1))).toNat,?_⟩;grind
def vx (p:Rp)(i:Nat):Spot:=pt p (i%p.length)
def shU (p:Rp)(i:Nat):Int:=16777216*(vx p i).x+(vx p i).y
def shV (p:Rp)(i:Nat):Int:=(vx p i).y
def shT (p:Rp)(i:Nat):Rat:=((shV p (i+1):Rat)-shV p i)/((shU p (i+1):Rat)-shU p i)
def yR (p:Rp)(j:Nat)(u:Rat):Rat:=(shV p j:Rat)+shT p j*(u-(shU p j:Rat))
def inR (p:Rp)(j:Nat)(u:Rat):Prop:=((shU p j:Rat)<=u/\u<=(shU p (j+1):Rat))\/((shU p (j+1):Rat)<=u/\u<=(shU p j:Rat))
theorem iy (a b:Rat):a<=b\/b<=a:=Rat.le_total
theorem gK {a b r:Rat}(c:0<=b)(d:b≠0)(h:r*b=a)(e:0<=a):0<=r:=by
 rcases iy 0 r with g|g
 omega
 .have k:=zW (show 0<= -r by grind) c;grind[Rat.mul_eq_zero]
theorem gt {p:Rp}{i:Nat}(h:i<p.length):vx p i=pt p i:=by grind[vx,Nat.mod_eq_of_lt]
theorem qS {a b:Int}(h:a≠b):(b:Rat)-(a:Rat)≠0:=by
 rw[<-xn];intro c;rw[yw]at c;omega
theorem W9 {p:Rp}{j:Nat}{u:Rat}(b:shU p j≠shU p (j+1))(h:inR p j u):
 ∃s:Rat,0<=s/\s<=1/\u=shU p j+((shU p (j+1):Rat)-shU p j) *s/\onP (qp (vx p j)) (qp (vx p (j+1))) s=⟨(u-yR p j u)/16777216,yR p j u⟩:=by
 have d:=qS b;have f:=yK (a:=u-(shU p j:Rat)) d;refine⟨(u-(shU p j:Rat))/((shU p (j+1):Rat)-shU p j),?_,?_,?_,?_⟩
 .generalize e:(u-(shU p j:Rat))/((shU p (j+1):Rat)-shU p j)=s at*;rcases iy 0 s with g|g
  omega
  .rcases h with⟨h1,c⟩ |⟨h1,c⟩
   .have k:=zW (show 0<= -s by grind) (show 0<=((shU p (j+1):Rat)-shU p j)by grind);have:s*((shU p (j+1):Rat)-shU p j)=0:=by grind
    grind
   have k:=zW (show 0<= -s by grind) (show 0<=((shU p j:Rat)-shU p (j+1))by grind);have:s*((shU p (j+1):Rat)-shU p j)=0:=by grind
   grind
 .generalize e:(u-(shU p j:Rat))/((shU p (j+1):Rat)-shU p j)=s at*;rcases iy s 1 with g|g
  omega
  .rcases h with⟨h1,c⟩ |⟨h1,c⟩
   .have k:=zW (show 0<=s-1 by grind) (show 0<=((shU p (j+1):Rat)-shU p j)by grind);have:(s-1) *((shU p (j+1):Rat)-shU p j)=0:=by grind
    grind
   have k:=zW (show 0<=s-1 by grind) (show 0<=((shU p j:Rat)-shU p (j+1))by grind);have:(s-1) *((shU p (j+1):Rat)-shU p j)=0:=by grind
   grind
 grind
 .have i:yR p j u=(shV p j:Rat)+((shV p (j+1):Rat)-shV p j) *((u-(shU p j:Rat))/((shU p (j+1):Rat)-shU p j)):=by
   grind[yR,shT]
  have l:(shU p j:Rat)=16777216*((vx p j).x:Rat)+((vx p j).y:Rat):=by simp[shU]
  have m:(shU p (j+1):Rat)=16777216*((vx p (j+1)).x:Rat)+((vx p (j+1)).y:Rat):=by simp[shU]
  have n:(shV p j:Rat)=((vx p j).y:Rat):=rfl;have o:(shV p (j+1):Rat)=((vx p (j+1)).y:Rat):=rfl;unfold onP eW ew bA qp;grind
theorem Kw {a b c:Spot}(e:onS a b c=false)(f:onS b c a=false){s t:Rat}(i:0<=s)(j:s<=1)(d:0<=t)(l:t<=1)(o:onP (qp a) (qp b) s=onP (qp b) (qp c) t):s=1/\t=0:=by
 rcases iy t (1-s)with h|h
 .by_cases h0:1-s=0
  grind
  .have hr:=yK (a:=t) h0;have m:0<=t/(1-s):=gK (by grind) h0 hr d
   have n:t/(1-s)<=1:=by
    generalize t/(1-s)=r at*;rcases iy r 1 with g|g
    omega
    .have k:=zW (show 0<=r-1 by grind) (show 0<=1-s by grind);have:(r-1) *(1-s)=0:=by grind
     grind
   grind[q9,onP,eW,ew,bA,qp]
 by_cases h0:t=0
 grind
 .have hr:=yK (a:=1-s) h0;have m:0<=(1-s)/t:=gK d h0 hr (by grind)
  have n:(1-s)/t<=1:=by
   generalize (1-s)/t=r at*;rcases iy r 1 with g|g
   omega
   .have k:=zW (show 0<=r-1 by grind) d;have:(r-1) *t=0:=by grind
    grind
  have:onS a b c=true:=by
   refine q9 (s:=1-(1-s)/t) (by grind) (by grind) ?_;grind[onP,eW,ew,bA,qp]
  grind
theorem Q3 {p:Rp}{i:Nat}{z:Int}(c:crU (shU p) i z){u:Rat}(h1:(z:Rat)<=u)(f:u<=((z+1:Int):Rat)):inR p i u:=by
 unfold crU at c;unfold inR;rcases c with⟨a,b⟩ |⟨a,b⟩
 .left;have d:(shU p i:Rat)<=(z:Rat):=yF.2 a;have e:((z+1:Int):Rat)<=(shU p (i+1):Rat):=yF.2 (by omega);grind
 right;have d:(shU p (i+1):Rat)<=(z:Rat):=yF.2 a;have e:((z+1:Int):Rat)<=(shU p i:Rat):=yF.2 (by omega);grind
theorem Vq (p:Rp)(i:Nat)(z:Int)(l:Rat):yR p i ((z:Rat)+l)=yR p i z+(yR p i ((z+1:Int):Rat)-yR p i z) *l:=by
 unfold yR;grind
theorem Ss (p:Rp):∀k,k<=p.length->sm (fun j=>shU p (j+1) *shV p j-shU p j*shV p (j+1)) k= -16777216*iT p k:=by
 intro k
 induction k with
 |zero=>intro _;rfl
 |succ k a=>
  grind[sm,iT,vx,gt,shU,shV]
theorem PD {p:Rp}(h:ic p=0){j:Nat}(a:j<p.length):aD (pt p j) 1048576=true:=by
 grind[bc,si]
attribute [local irreducible] IntKind.wrap wpM
structure Turn where
 flip:Bool
 quarter:Int
def Turn.enc (t:Turn):D:=.agg [.bool t.flip,.int .i64 t.quarter]
def ng (x:Int):Int:=IntKind.i64.wrap (0-x)
def normT (t:Turn):Turn:=⟨t.flip,t.quarter%4⟩
def nL:Nat->Spot->Spot
 |0,s=>s
 |k+1,s=>⟨ng (nL k s).y,(nL k s).x⟩
def n5 (f:Bool)(s:Spot):Spot:=if f then⟨ng s.x,s.y⟩else s
def dm (t:Turn)(s:Spot):Spot:=nL (t.quarter%4).toNat (n5 t.flip s)
theorem and3 (q:Int):IntKind.i64.wrap ((BitVec.ofInt IntKind.i64.bits q&&&BitVec.ofInt IntKind.i64.bits 3).toNat:Int)=q%4:=by
 have e:IntKind.i64.bits=64:=rfl;have h3:(BitVec.ofInt 64 3).toNat=2^2-1:=by decide
 rw[e,BitVec.toNat_and,h3,wE,BitVec.toNat_ofInt];grind[wrap64]
theorem UN (t:Turn):PU 50 [t.enc]=some (normT t).enc:=by
 refine PS rfl (gg rfl ?_);rw[and3];exact fI rfl rfl
theorem oz (t:Turn)(s:Spot):PU 49 [t.enc,s.enc]=some (dm t s).enc:=by
 have b:(t.quarter%4)=((t.quarter%4).toNat:Int):=by omega
 refine PS rfl (jC rfl (fun g=>?_) (fun g=>?_));have hr:n5 t.flip s=⟨ng s.x,s.y⟩:=by rw[n5,ve g]
 rotate_left;have hr:n5 t.flip s=s:=by rw[n5,vd (by grind)]
 all_goals
  refine gg rfl ?_;rw[and3,b];refine aw (S:=fun k:Nat=>([.ptr 0 0 0,.ptr 1 0 0,aa (t.quarter%4).toNat,aa k],some (.row [(nL k (n5 t.flip s)).enc] 2)::some (.row [Spot.enc ⟨0,0⟩] 2)::nn2,zz4)) (C:=fun k=>k<=(t.quarter%4).toNat) (m:=fun k=>4-k) 0 (zB _) (by omega) ?_ ?_
  .exact ah rfl ⟨rfl,rfl,tr⟩ (by simp[aa,hr,nL,Spot.enc,ng])
  intro k e N c;have d:=wS (n:=k);refine jC rfl (fun a=>?_) (fun a=>?_)
  .rw[ad]at a;exact gE rfl (c (k+1) (by omega) (by omega) (ah rfl ⟨rfl,rfl,tr⟩ (by simp[aa,d,nL,Spot.enc,ng])))
  rw[af]at a;obtain rfl:k=(t.quarter%4).toNat:=by omega
  exact gE rfl (jZ rfl)
theorem CR (s:Spot):PU 98 [s.enc]=some (.bool (!aD s 1048576)):=by
 refine PS rfl ?_
 repeat' (first
  |refine jP rfl ?_
  |refine au rfl ?_ ?_<;>intro _
  |refine fI rfl ?_)
 all_goals ((try simp only[cw,ca,cC,eJ,zT,zQ,zj,zi,yO,yZ]at*);first|(simp_all[aD];done) |grind[aD] |(rw[D.bool.injEq,zN];grind[aD]) |(rw[D.bool.injEq,zN];simp_all[aD];omega) |(simp[aD];split<;>(try split)<;>omega))
theorem NV (s:Spot):PU 219 [s.enc]=some (.bool (!aD s 1048576)):=by
 refine PS rfl ?_
 repeat' (first
  |refine jP rfl ?_
  |refine au rfl ?_ ?_<;>intro _
  |refine fI rfl ?_)
 all_goals ((try simp only[cw,ca,cC,eJ,zT,zQ,zj,zi,yO,yZ]at*);first|(simp_all[aD];done) |grind[aD] |(rw[D.bool.injEq,zN];grind[aD]) |(rw[D.bool.injEq,zN];simp_all[aD];omega) |(simp[aD];split<;>(try split)<;>omega))
theorem Br (s:Spot):PU 163 [s.enc]=some (.bool (!aD s 1048576)):=by
 refine PS rfl ?_
 repeat' (first
  |refine jP rfl ?_
  |refine au rfl ?_ ?_<;>intro _
  |refine fI rfl ?_)
 all_goals ((try simp only[cw,ca,cC,eJ,zT,zQ,zj,zi,yO,yZ]at*);first|(simp_all[aD];done) |grind[aD] |(rw[D.bool.injEq,zN];grind[aD]) |(rw[D.bool.injEq,zN];simp_all[aD];omega) |(simp[aD];split<;>(try split)<;>omega))
theorem Gk (s:Spot):PU 286 [s.enc]=some (.bool (!aD s 4194304)):=by
 refine PS rfl ?_
 repeat' (first
  |refine jP rfl ?_
  |refine au rfl ?_ ?_<;>intro _
  |refine fI rfl ?_)
 all_goals ((try simp only[cw,ca,cC,eJ,zT,zQ,zj,zi,yO,yZ]at*);first|(simp_all[aD];done) |grind[aD] |(rw[D.bool.injEq,zN];grind[aD]) |(rw[D.bool.injEq,zN];simp_all[aD];omega) |(simp[aD];split<;>(try split)<;>omega))
class OkC (s:Spot):Prop where
 bx:s.x.natAbs<=16777216
 byy:s.y.natAbs<=16777216
theorem okCx {s:Spot} [h:OkC s]:Bd s.x 16777216:=⟨h.bx⟩
theorem okCy {s:Spot} [h:OkC s]:Bd s.y 16777216:=⟨h.byy⟩
theorem OG (a b c:Spot) [OkC a] [OkC b] [OkC c]:PU 301 [a.enc,b.enc,c.enc]=some (.int .i64 (ay a b c)):=by
 have d:=okCx (s:=a);have e:=okCy (s:=a);have f:=okCx (s:=b);have b2:=okCy (s:=b);have c1:=okCx (s:=c);have c2:=okCy (s:=c);refine PS rfl ?_
 repeat' (first
  |refine jP rfl ?_
  |refine fI rfl ?_)
 simp[cH,ay]
theorem BM (a b c:Spot) [OkS a] [OkS b] [OkS c]:PU 114 [a.enc,b.enc,c.enc]=some (.int .i64 (ay a b c)):=by
 refine PS rfl ?_
 repeat' (first
  |refine jP rfl ?_
  |refine fI rfl ?_)
 simp[cH,ay]
theorem Dl (n:Int):PU 73 [.int .i64 n]=some (.bool (decide (0<=n)&&decide (n<=1048576))):=by
 refine PS rfl ?_
 repeat' (first
  |refine jP rfl ?_
  |refine au rfl ?_ ?_<;>intro _
  |refine fI rfl ?_)
 all_goals ((try simp only[cw,ca,cC,eJ,zT,zQ,zj,zi,yO,yZ]at*);first|(simp_all[];done) |grind|(rw[D.bool.injEq,zN];simp[];omega) |(rw[D.bool.injEq,zN];simp_all[];omega) |(simp[];split<;>(try split)<;>omega))
def ej (n:Int):Int:=if n<1\/1048576<n then 0 else n
theorem YG (n:Int):PU 277 [.int .i64 n]=some (.int .i64 (ej n)):=by
 refine PS rfl ?_
 repeat' (first
  |refine jP rfl ?_
  |refine au rfl ?_ ?_<;>intro _
  |refine an rfl ?_ ?_<;>intro _
  |refine fI rfl ?_)
 all_goals ((try simp only[cw,ca,cC,eJ,zT,zQ,zj,zi,yO,yZ]at*);first|(simp_all[ej];done) |grind[ej] |(rw[D.bool.injEq,zN];simp[ej];omega) |(rw[D.bool.injEq,zN];simp_all[ej];omega) |(simp[ej];split<;>(try split)<;>omega))
def dK (n:Int):Int:=min (max n (-1048576)) 1048576
theorem F4 (n:Int):PU 249 [.int .i64 n]=some (.int .i64 (dK n)):=by
 refine PS rfl ?_
 repeat' (first
  |refine jP rfl ?_
  |refine fI rfl ?_)
 rfl
def lZ (n p:Int):Int:=if p=0 then 0 else(n.tmod p+p).tmod p
theorem G7 (n p:Int)(a:n.natAbs<=4194304)(h0:0<=p)(b:p<=1048576):PU 278 [.int .i64 n,.int .i64 p]=some (.int .i64 (lZ n p)):=by
 refine PS rfl (jC rfl (fun e=>?_) (fun e=>?_))
 .refine jF rfl ?_;grind[co,lZ]
 rw[dG]at e;refine gg rfl (dx rfl rfl e (gg rfl (dx rfl rfl e (jF rfl ?_))));have l1:=Int.tmod_lt_of_pos n (show 0<p by omega)
 have l2: -p<n.tmod p:=by
  have:=Int.lt_tmod_of_pos n (show 0<p by omega);omega
 grind[wrap64,lZ]
structure Rep2 where
 x:Int
 y:Int
def Rep2.enc (r:Rep2):D:=.agg [.int .i64 r.x,.int .i64 r.y]
def repN (r:Rep2):Rep2:=⟨ej r.x,ej r.y⟩
theorem Ia (r:Rep2):PU 247 [r.enc]=some (repN r).enc:=by
 refine PS rfl ?_
 repeat' (first
  |refine jP rfl ?_
  |refine fI rfl ?_
  |refine aB rfl rfl (YG _) ?_)
 rfl
theorem qd (n:Int):0<=ej n/\ej n<=1048576:=by grind[ej]
theorem D2 (n:Int):(dK n).natAbs<=1048576:=by grind[dK]
theorem mod_bd (n p:Int)(h0:0<=p)(a:p<=1048576):(lZ n p).natAbs<=1048576:=by
 unfold lZ;split
 simp
 .have b:=Int.tmod_lt_of_pos (n.tmod p+p) (show 0<p by omega)
  have c: -p<(n.tmod p+p).tmod p:=by
   have:=Int.lt_tmod_of_pos (n.tmod p+p) (show 0<p by omega);omega
  omega
def s6 (r:Rep2)(a:Spot):Spot:=⟨lZ (dK a.x) (ej r.x),lZ (dK a.y) (ej r.y)⟩
theorem SM (a n:Int):PU 278 [.int .i64 (dK a),.int .i64 (ej n)]=some (.int .i64 (lZ (dK a) (ej n))):=
 G7 _ _ (zR (D2 a) (by decide)) (qd n).1 (qd n).2
theorem Spot.ext_iff' {a b:Spot}:a=b↔a.x=b.x/\a.y=b.y:=by cases a;cases b;simp
theorem X5 (r:Rep2)(a:Spot):PU 258 [r.enc,a.enc]=some (s6 r a).enc:=by
 refine PS rfl ?_
 repeat' (first
  |refine jP rfl ?_
  |refine fI rfl ?_
  |refine aB rfl rfl (Ia r) ?_
  |refine aB rfl rfl (F4 _) ?_
  |refine aB rfl rfl (SM _ _) ?_)
 rfl
theorem XZ (r:Rep2)(a b:Spot):PU 222 [r.enc,a.enc,b.enc]=some (.bool (decide (s6 r a=s6 r b))):=by
 refine PS rfl ?_
 repeat' (first
  |refine jP rfl ?_
  |refine fI rfl ?_
  |refine aB rfl rfl (X5 r _) ?_)
 simp[cC,Spot.ext_iff']
def sI (p a b:Int):Int:=a+lZ (b-a) p
theorem V8 (n a b:Int):PU 248 [.int .i64 (ej n),.int .i64 (dK a),.int .i64 (dK b)]=some (.int .i64 (sI (ej n) (dK a) (dK b))):=by
 have h1:=D2 a;have c:=D2 b;have h3:=mod_bd (dK b-dK a) _ (qd n).1 (qd n).2;refine PS rfl (gg rfl ?_);rw[wrap64 (x:=dK b-dK a) (by omega) (by omega)];refine aB rfl rfl (G7 _ _ (by omega) (qd n).1 (qd n).2) ?_;refine jF rfl ?_;rw[wrap64 (by omega) (by omega)];rfl
theorem Sa (r:Rep2)(a b:Spot):PU 220 [r.enc,a.enc,b.enc]=some (Spot.enc ⟨sI (ej r.x) (dK a.x) (dK b.x),sI (ej r.y) (dK a.y) (dK b.y)⟩):=by
 refine PS rfl ?_
 repeat' (first
  |refine jP rfl ?_
  |refine fI rfl ?_
  |refine aB rfl rfl (Ia r) ?_
  |refine aB rfl rfl (F4 _) ?_
  |refine aB rfl rfl (V8 _ _ _) ?_)
 rfl
def lh (g:Int)(m:Bool)(t:Turn):Bool:=
 (t.flip==m)&&(if g=1 then decide (t.quarter%4=0)else if g=2 then decide (t.quarter%4=0) ||decide (t.quarter%4=2)else decide (g=4))
theorem AC (g:Int)(m:Bool)(t:Turn):PU 18 [.int .i64 g,.bool m,t.enc]=some (.bool (lh g m t)):=by
 refine PS rfl ?_
 repeat' (first
  |refine jP rfl ?_
  |refine au rfl ?_ ?_<;>intro _
  |refine an rfl ?_ ?_<;>intro _
  |refine fI rfl ?_
  |refine aB rfl rfl (UN t) ?_)
 all_goals (cases t;cases m<;>simp_all[lh,normT,co,dG,cC])
def orF:List Int->Int
 |[]=>0
 |x::l=>if x=0 then orF l else x
theorem Bc (l:List Int)(g:l.length<=1000):PU 194 [ints l]=some (.int .i64 (orF l)):=by
 refine PS rfl (gg rfl ?_);rw[zA];refine aw (S:=fun k:Nat=>([aa 0,ints l,aa l.length,aa k],none::nn3,zz4)) (C:=fun k=>k<=l.length/\orF l=orF (l.drop k)) (m:=fun k=>l.length-k) 0 ⟨zB _,rfl⟩ (by omega) ?_ ?_;rfl;intro k ⟨h,c⟩ N d;refine jC rfl (fun e=>?_) (fun e=>?_)
 .rw[ad]at e;have a:k<l.length:=by omega
  have f:=wS (n:=k);rw[zz a]at c;refine jX k rfl rfl (eP a) rfl (jC rfl (fun b=>?_) (fun b=>?_))
  .rw[aO]at b;refine gE rfl (jF rfl ?_);grind[orF]
  rw[aE]at b;exact gE rfl (d (k+1) ⟨a,by grind[orF]⟩ (by omega) (ah rfl tr (by rw[f];rfl)))
 rw[af]at e;refine gE rfl (jF rfl ?_);grind[orF]
def cQ (a b:Spot):Int:=if br a.x b.x=0 then br a.y b.y else br a.x b.x
theorem orF2 (a b:Int):orF [a,b]=if a=0 then b else a:=by
 grind[orF]
theorem DL (a b:Spot):PU 192 [a.enc,b.enc]=some (.int .i64 (cQ a b)):=by
 refine PS rfl (jA rfl (js _ _) (jA rfl (js _ _) (gg rfl (gk rfl rfl ⟨⟨by simp,rfl⟩,tr⟩ (Bc [br a.x b.x,br a.y b.y] (by simp)) rfl ?_))));exact jF rfl (by rw[orF2];rfl)
theorem uV (a b:Spot):PU 246 [a.enc,b.enc]=some (.int .i64 (cQ a b)):=by
 refine PS rfl (jA rfl (js _ _) (jA rfl (js _ _) (gg rfl (gk rfl rfl ⟨⟨by simp,rfl⟩,tr⟩ (Bc [br a.x b.x,br a.y b.y] (by simp)) rfl ?_))));exact jF rfl (by rw[orF2];rfl)
theorem FX (a b:Spot):PU 290 [a.enc,b.enc]=some (.int .i64 (cQ a b)):=by
 refine PS rfl (jA rfl (js _ _) (jA rfl (js _ _) (gg rfl (gk rfl rfl ⟨⟨by simp,rfl⟩,tr⟩ (Bc [br a.x b.x,br a.y b.y] (by simp)) rfl ?_))));exact jF rfl (by rw[orF2];rfl)
theorem oZ {nx0:Nat}{h:ab}{id:Nat}{b:Blk}(a:h id=some b)(c:aI (some b)=true):cz nx0 h id=some b:=by
 grind[cz,lB]
def Old4 (a b2 b c:Blk)(h:ab)(z:Frz):Prop:=
 (∃h0:ab,h=upd (upd (upd (upd h0 1 (some a)) 2 (some b2)) 3 (some b)) 4 (some c))/\∃d:Frz,z=upd (upd (upd (upd d 1 0) 2 0) 3 0) 4 0
theorem Old4.of {a b2 b c:Blk}{h:ab}{z:Frz}(h1:h 1=some a)(d:h 2=some b2)(h3:h 3=some b)(e:h 4=some c)(f:z 1=0)(g:z 2=0)(z3:z 3=0)(i:z 4=0):Old4 a b2 b c h z:=by
 refine⟨⟨h,?_⟩,z,?_⟩;simp_all[dY];simp_all[dY]
theorem Old4.old {nx0:Nat}{a b2 b c:Blk}{h:ab}{z:Frz}(d:aI (some a)=true)(e:aI (some b2)=true)(f:aI (some b)=true)(g:aI (some c)=true)(h1:h 1=some a)(i:h 2=some b2)(h3:h 3=some b)(j:h 4=some c)(k:z 1=0)(l:z 2=0)(z3:z 3=0)(m:z 4=0):Old4 a b2 b c (cz nx0 h) z:=
 Old4.of (oZ h1 d) (oZ i e) (oZ h3 f) (oZ j g) k l z3 m
theorem cj {α:Type}{enc:α->D}(h:∀x,plain 4 (enc x)=true)(l:List α)(n:Nat):aI (some (.row (l.map enc) n))=true:=by
 grind[aI]
def dU (a:Rp)(i:Nat):Rp:=(List.range a.length).map fun m=>if m<i\/a.length<=m+i then pt a (a.length-1-m)else pt a m
theorem Oy (a:Rp)(i m:Nat)(h:m<(dU a i).length):(dU a i)[m]=if m<i\/a.length<=m+i then pt a (a.length-1-m)else pt a m:=by
 simp[dU]
theorem GS (a:Rp):dU a 0=a:=by
 unfold dU;apply zp;simp;simp_all[vd,bc]
theorem OA (a:Rp){i:Nat}(h:a.length<=2*i+1):dU a i=a.reverse:=by
 unfold dU;apply zp;simp;grind[bc]
theorem Lu (a:Rp){i:Nat}(h:2*i+1<a.length):((dU a i).set i (pt a (a.length-1-i))).set (a.length-1-i) (pt a i)=dU a (i+1):=by
 apply zp;simp[dU]
 .intro m h1 b;rw[yr,yr,Oy,Oy];grind
theorem Bb (a:Rp){i m:Nat}(b:m<a.length)(h1:¬m<i)(c:m+i<a.length):(dU a i)[m]?=some (pt a m):=by
 simp_all[dU,vd]
theorem Eo {b:ab}{es:Hm}{m:Nat}(c:4<=m)(a:es.all (dat 4)=true):es.mapM (aG b m)=some es:=by
 induction es with
 |nil=>rfl
 |cons x es d=>
  simp only[xl,zJ]at a;rw[xB,Fs 4 m x a.1 c,d a.2];rfl
end Go.F
