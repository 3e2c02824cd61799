/- Part 32. -/
import Derived.Test.YtglbdppmnchoeaaGreatZ31
set_option linter.all false
set_option maxHeartbeats 16000000
namespace Go.F
attribute [local irreducible] IntKind.wrap wpM
def bQ (p:Rp):Nat->Rp
 |0=>[]
 |k+1=>if uY p k≠0 then bQ p k++[pt p k]else bQ p k
theorem v2 (p:Rp):∀k,(bQ p k).length<=k
 |0=>zD _
 |k+1=>by
  have:=v2 p k;grind[bQ]
def lexB (a b:Spot):Bool:=decide (a.x<b.x) ||(decide (a.x=b.x)&&decide (a.y<b.y))
def cd (c:Rp):Nat->Nat
 |0=>0
 |k+1=>if lexB (pt c k) (pt c (cd c k))then k else cd c k
theorem Bj (c:Rp):∀k,cd c k<=k
 |0=>zD _
 |k+1=>by
  have:=Bj c k;grind[cd]
theorem SG (c:Rp):∀k,0<k->cd c k<k
 |0,h=>absurd h (by decide)
 |k+1,_=>by
  grind[cd,Bj]
def rQ (c:Rp):Rp:=c.drop (cd c c.length)++c.take (cd c c.length)
def lk (p:Rp):Rp:=if dJ p<0 then(bQ p p.length).reverse else bQ p p.length
def cP (p:Rp):Rp×Int:=if bE p=0 then(rQ (lk p),0)else([],bE p)
def OldR (b:Blk)(h:ab)(z:Frz):Prop:=(∃h0:ab,h=upd h0 1 (some b))/\∃a:Frz,z=upd a 1 0
theorem OldR.of {b:Blk}{h:ab}{z:Frz}(h1:h 1=some b)(a:z 1=0):OldR b h z:=
 ⟨⟨h,by grind[dY]⟩,z,by grind[dY]⟩
theorem OldR.old {nx0:Nat}{b:Blk}{h:ab}{z:Frz}(a:aI (some b)=true)(h1:h 1=some b)(c:z 1=0):OldR b (cz nx0 h) z:=
 OldR.of (oZ h1 a) c
theorem rev47 (a:Rp)(q:a.length<=1000000){h:ab}{z:Frz}{K:D->ab->Frz->Nat->Prop}
 (b:OldR (.row (a.map Spot.enc) 2) h z)
 (j:∀(h':ab) (z':Frz),OldR (.row (a.reverse.map Spot.enc) 2) h' z'->K (.tup []) h' z' 61):
 wpM TT (shr TT 5) 47 [.code qD.1.code] .normal (enter [.ref 1 0 a.length]) h z 47 (bB qD.1 K):=by
 obtain⟨⟨h0,rfl⟩,r,rfl⟩:=b;refine gg rfl ?_
 refine bO (S:=fun x:Nat=>([.ref 1 0 a.length,aa x,.int .i64 ((a.length:Int)-1-x)],none::nn2,zz3))
  (O:=fun x f g=>OldR (.row ((dU a x).map Spot.enc) 2) f g)
  (C:=fun x=>x<=a.length) (m:=fun x=>a.length-x) 0 (zB _) (by omega) ?_ ?_
 .have s:=ww (x:=(a.length:Int)-1);refine ba rfl ⟨ae am _,tr⟩ ⟨by grind[aa],?_⟩;rw[GS];exact OldR.old (cj am _ _) rfl rfl
 rintro k l f g b N o;obtain⟨⟨h1,rfl⟩,t,rfl⟩:=b;refine jC rfl (fun c=>?_) (fun c=>?_)
 .rw[ad]at c;have d:2*k+1<a.length:=by omega
  have p:(a.length:Int)-1-k=((a.length-1-k:Nat):Int):=by omega
  have u:=wS (n:=k);have v:IntKind.i64.wrap (((a.length-1-k:Nat):Int)-1)=(a.length:Int)-1-((k+1:Nat):Int):=by grind[wrap64]
  have e:=Lu a d;have l1:=Bb a (i:=k) (m:=a.length-1-k) (by omega) (by omega) (by omega);have l2:=Bb a (i:=k) (m:=k) (by omega) (by omega) (by omega);rw[p];refine gg rfl (aA (a.length-1-k) rfl rfl rfl rfl rfl (by omega) ?_);refine cb (enc:=Spot.enc) (dU a k) (a.length-1-k) (pt a (a.length-1-k)) rfl (zC _) (fun _=>rfl) rfl l1 (gg rfl (aA k rfl rfl rfl rfl rfl (by omega) ?_));refine cb (enc:=Spot.enc) (dU a k) k (pt a k) rfl (zC _) (fun _=>rfl) rfl l2 (aA k rfl rfl rfl rfl rfl (by omega) ?_);refine gp (enc:=Spot.enc) (dU a k) k (pt a (a.length-1-k)) rfl rfl (zC _) rfl (fun _=>rfl) rfl (zB _) (by grind) ?_;refine aA (a.length-1-k) rfl rfl rfl rfl rfl (by omega) ?_;refine gp (enc:=Spot.enc) ((dU a k).set k (pt a (a.length-1-k))) (a.length-1-k) (pt a k) rfl rfl (zC _) rfl (fun _=>rfl) rfl (zB _) (by grind) ?_;rw[e];refine gE rfl (o (k+1) (by omega) (by omega) (ba rfl ⟨ae am _,tr⟩ ⟨by grind[aa],?_⟩));exact OldR.old (cj am _ _) rfl rfl
 rw[af]at c;rw[OA a (by omega)];exact gE rfl (gg rfl (bd rfl rfl (j _ _ (OldR.of rfl rfl))))
theorem tS {h:ab}{id o n:Nat}{c:Rp}(hr:h id=some (.row (c.map Spot.enc) 2))(a:o+n<=c.length):aG h 8 (.ref id o n)=some (ac ((c.drop o).take n)):=by
 rw[aG,hr];simp only;rw[ve (by grind),<-xT,<-yD,Eo (by decide) (bF fh _)];rfl
theorem Ud (p:Rp):PU 111 [ac p]=some (.tup [ac (cP p).1,.int .i64 (cP p).2]):=by
 refine PS rfl (jA rfl (pj p) (jC rfl (fun h=>?_) (fun h=>?_)))
 .rw[aO]at h;refine jF rfl ?_;rw[cP,vd h];rfl
 have h:bE p=0:=aE.1 h;rw[cP,ve h];obtain⟨h3,D,E,F,G⟩:=fj h;refine gg rfl ?_;rw[zA];refine aw (S:=fun k:Nat=>([ac p,.ref 1 0 (bQ p k).length,ac p,aa p.length,aa k],none::some (.row ((bQ p k).map Spot.enc) 2)::nn3,zz5)) (C:=fun k=>k<=p.length) (m:=fun k=>p.length-k) 0 (zB _) (by omega) ?_ ?_
 .exact ah rfl ⟨rfl,tr⟩ (by rfl)
 intro k j N d;refine jC rfl (fun e=>?_) (fun e=>?_)
 .rw[ad]at e;have a:k<p.length:=by omega
  have l:=wS (n:=k);have o:=v2 p k;refine jX k rfl rfl (aZ a) rfl (jA rfl (Rq p k a (by omega)) ?_);refine jC rfl (fun w=>?_) (fun w=>?_)
  .rw[aO]at w;have x:bQ p (k+1)=bQ p k++[pt p k]:=by simp_all[bQ]
   refine gg rfl (bI rfl rfl rfl rfl rfl rfl (by simp) (zB _) (by grind[aK]) ?_);refine gE rfl (d (k+1) a (by omega) (ah rfl ⟨?_,tr⟩ ?_))
   .rw[zY,ae am];rfl
   grind[ac,aa,Spot.enc]
  rw[aE]at w;have x:bQ p (k+1)=bQ p k:=by simp_all[bQ]
  refine gE rfl (d (k+1) a (by omega) (ah rfl ⟨ae am _,tr⟩ ?_));grind[ac,aa]
 rw[af]at e;obtain rfl:k=p.length:=by omega
 clear d;have o:=v2 p p.length;refine gE rfl (jA rfl (H9 p (by omega)) ?_);refine jC rfl (fun g=>?_) (fun g=>?_);rw[ad]at g;have y:lk p=(bQ p p.length).reverse:=by simp_all[lk]
 rw[y];generalize bQ p p.length=c at*;refine gg rfl (cf rfl rfl (rev47 c (by omega) (OldR.of rfl rfl) fun h' z' q=>?_));obtain⟨⟨h0,rfl⟩,H,rfl⟩:=q;have A:c.length=c.reverse.length:=by simp
 rw[A]at o;rw[A];generalize c.reverse=r at*;rotate_left;rw[af]at g;have y:lk p=bQ p p.length:=by simp_all[lk,vd]
 rw[y];generalize bQ p p.length=r at*
 all_goals
  refine gg rfl (aw (S:=fun k:Nat=>([.ref 0 0 (r).length,aa (cd (r) k),.ref 0 0 (r).length,aa (r).length,aa k],some (.row ((r).map Spot.enc) 2)::nn4,zz5)) (C:=fun k=>k<=(r).length) (m:=fun k=>(r).length-k) 0 (zB _) (by omega) ?_ ?_)
  .exact ah rfl ⟨ae am _,ae am _,tr⟩ (by simp[aa,cd])
  intro k j N d;refine jC rfl (fun e=>?_) (fun e=>?_)
  .rw[ad]at e;have a:k<(r).length:=by omega
   have l:=wS (n:=k);have b:=Bj (r) k;refine gg rfl (aA k rfl rfl rfl rfl rfl (by omega) ?_);refine gg rfl (cb (enc:=Spot.enc) (r) k (pt (r) k) rfl (zC _) (fun _=>rfl) rfl (by rw[bc a];exact zK _) ?_);refine gg rfl (aA (cd (r) k) rfl rfl rfl rfl rfl (by omega) ?_);refine gg rfl (cb (enc:=Spot.enc) (r) (cd (r) k) (pt (r) (cd (r) k)) rfl (zC _) (fun _=>rfl) rfl (by rw[bc (by omega)];exact zK _) ?_);refine gg rfl ?_;have s:lexB (pt (r) k) (pt (r) (cd (r) k))=true->cd (r) (k+1)=k:=fun h=>by rw[cd,ve h]
   have B:lexB (pt (r) k) (pt (r) (cd (r) k))=false->cd (r) (k+1)=cd (r) k:=fun h=>by rw[cd,vd (by rw[h];decide)]
   refine au rfl (fun t=>?_) (fun t=>?_)
   .rw[ad]at t;have i:=s (by simp[lexB,t]);exact gg rfl (ak rfl (gE rfl (d (k+1) a (by omega) (ah rfl ⟨ae am _,ae am _,tr⟩ (by simp[aa,i,l])))))
   rw[af]at t;refine gg rfl (au rfl (fun u=>?_) (fun u=>?_))
   .rw[co]at u;refine jC rfl (fun v=>?_) (fun v=>?_)
    .rw[ad]at v;have i:=s (by simp[lexB,u,v]);exact gE rfl (d (k+1) a (by omega) (ah rfl ⟨ae am _,ae am _,tr⟩ (by simp[aa,i,l])))
    rw[af]at v;have i:=B (by simp[lexB];omega);exact gE rfl (d (k+1) a (by omega) (ah rfl ⟨ae am _,ae am _,tr⟩ (by simp[aa,i,l])))
   rw[dG]at u;have i:=B (by simp[lexB];omega);exact gg rfl (aj rfl (gE rfl (d (k+1) a (by omega) (ah rfl ⟨ae am _,ae am _,tr⟩ (by simp[aa,i,l])))))
  rw[af]at e;obtain rfl:k=(r).length:=by omega
  clear d;have b:=Bj (r) (r).length
  have f:PU 162 [ja [(r).drop (cd (r) (r).length),(r).take (cd (r) (r).length)]]=some (ac (rQ (r))):=by
   rw[TJ _ (by simp;omega) (by simp)];simp[rQ]
  refine gE rfl (gg rfl ?_);by_cases h0:cd (r) (r).length=0
  .refine dR (cd (r) (r).length) (r).length rfl rfl rfl ⟨_,_,rfl,rfl⟩ rfl ⟨b,zD _⟩ ?_;rw[ve h0];refine gg rfl (fi (cd (r) (r).length) rfl rfl rfl ⟨_,_,rfl,rfl⟩ b (gg rfl (HL [ja [(r).drop (cd (r) (r).length),(r).take (cd (r) (r).length)]] rfl (ME rfl (zD 2) ?_ (fun k j=>j)) f fun z=>?_)))
   .simp only[List.take,xB,vG];rw[tS rfl (by omega),tS rfl (by omega),h0];simp
   exact jZ rfl
  have a:=SG (r) (r).length (by omega);refine dR (cd (r) (r).length) (r).length rfl rfl rfl ⟨_,_,rfl,rfl⟩ rfl ⟨b,zD _⟩ ?_;rw[vd h0,eE];refine gg rfl (fi (cd (r) (r).length) rfl rfl rfl ⟨_,_,rfl,rfl⟩ b (gg rfl (HL [ja [(r).drop (cd (r) (r).length),(r).take (cd (r) (r).length)]] rfl (ME rfl (zD 2) ?_ (fun k j=>j)) f fun z=>?_)))
  .simp only[List.take,xB,vG];rw[tS rfl (by omega),tS rfl (by omega)]
   have e:((r).drop (0+cd (r) (r).length)).take ((r).length-cd (r) (r).length)=(r).drop (cd (r) (r).length):=by
    rw[zC];exact zZ (by simp)
   rw[e];simp
  exact jZ rfl
end Go.F
namespace Go.F
theorem Cx (A B:Rp):dJ (A++B)=dJ (B++A):=by
 by_cases h:A++B=[]
 simp_all
 .have h':B++A≠[]:=fun k=>h (by simp_all);obtain⟨X,Y,a,b⟩:=C0 A B;grind[AS]
theorem OJ:∀(l:Rp) (a z:Spot),((aX z l.reverse a).map dE).sum= -((aX a l z).map dE).sum
 |[],a,z=>by grind[aX,dE]
 |x::l,a,z=>by
  rw[List.reverse_cons,lN,zb,vN,OJ l x z,aX,aX];grind[dE]
theorem SP (p:Rp):dJ p.reverse= -dJ p:=by
 cases p with
 |nil=>rfl
 |cons a l=>
  grind[Cx,AS,aH,OJ]
theorem strip {A R:Rp}{v u w:Spot}{m:Rp}(h:SepP (A++v::R))(e:R++A=w::(m++[u]))(b:ay u v w=0):SepP (A++R)/\dJ (A++R)=dJ (A++v::R):=by
 have a:SepP (u::v::w::m):=by
  grind[SepP.rot]
 have c:dJ (A++v::R)=dJ (u::v::w::m):=by
  grind[Cx]
 have d:m≠[]:=by
  have h3:=a.wc;grind[NR]
 grind[GD,Kn,SepP.rot,Cx]
theorem col {a b c d:Spot}(g:b≠c)(h1:ay a b c=0)(h:ay b c d=0):ay a c d=0/\ay a b d=0:=by
 unfold ay at*
 have f:c.x-b.x≠0\/c.y-b.y≠0:=by
  rcases Decidable.em (c.x=b.x)with e|e
  .cases b;cases c;grind
  omega
 rcases f with f|f
 .constructor
  .have:(c.x-b.x) *((c.x-a.x) *(d.y-a.y)-(c.y-a.y) *(d.x-a.x))=0:=by grind
   grind[Int.mul_eq_zero]
  have:(c.x-b.x) *((b.x-a.x) *(d.y-a.y)-(b.y-a.y) *(d.x-a.x))=0:=by grind
  grind[Int.mul_eq_zero]
 constructor
 .have:(c.y-b.y) *((c.x-a.x) *(d.y-a.y)-(c.y-a.y) *(d.x-a.x))=0:=by grind
  grind[Int.mul_eq_zero]
 have:(c.y-b.y) *((b.x-a.x) *(d.y-a.y)-(b.y-a.y) *(d.x-a.x))=0:=by grind
 grind[Int.mul_eq_zero]
theorem OD (a b:Spot):ay a a b=0:=by simp[ay]
theorem Wt (a b:Spot):ay a b b=0:=by grind[ay]
theorem Ct {p:Rp}(h:SepP p){i j:Nat}(hi:i<p.length)(b:j<p.length)(a:i≠j):pt p i≠pt p j:=by
 intro e;have:=p9 (i:=i) (j:=j) h.nd h.pos (by grind[gt]);grind[Nat.mod_eq_of_lt]
def iO (p:Rp)(k:Nat):Spot:=(bQ p k).getLast?.getD (pt p (p.length-1))
def iE (p:Rp)(k:Nat):Spot:=(bQ p k).head?.getD (pt p k)
structure BendI (p:Rp)(k:Nat):Prop where
 sp:SepP (bQ p k++p.drop k)
 ar:dJ (bQ p k++p.drop k)=dJ p
 i1:k<p.length->ay (iO p k) (pt p ((k+p.length-1)%p.length)) (pt p k)=0
 i2:k<p.length\/bQ p k≠[]->ay (pt p (p.length-1)) (pt p 0) (iE p k)=0
theorem VD {p:Rp}(o:SepP p){k:Nat}(b:k<p.length)(h:BendI p k):BendI p (k+1):=by
 have h3:=o.n3;have C:p.drop k=pt p k::p.drop (k+1):=by grind[bc,List.drop_eq_getElem_cons]
 by_cases z:uY p k≠0
 .have D:bQ p (k+1)=bQ p k++[pt p k]:=by simp_all[bQ]
  have d:bQ p (k+1)++p.drop (k+1)=bQ p k++p.drop k:=by grind
  refine⟨by rw[d];exact h.sp,by rw[d];exact h.ar,fun a=>?_,fun _=>?_⟩;grind[iO,Nat.add_mod_right,Nat.mod_eq_of_lt,OD]
  .have n:iE p (k+1)=iE p k:=by
    grind[iE]
   rw[n];exact h.i2 (.inl b)
 have z:uY p k=0:=by omega
 have D:bQ p (k+1)=bQ p k:=by simp_all[bQ]
 have s:pt p ((k+p.length-1)%p.length)≠pt p k:=by
  refine Ct o (zI _ (by omega)) b ?_;intro e;rcases xu k with rfl|g
  .rw[zC,zU (by omega)]at e;omega
  rw[show k+p.length-1=k-1+p.length by omega,wx,zU (by omega)]at e;omega
 have c1:=(col s (h.i1 b) z).1;have c:=h.sp;have t:=h.ar;have u:=c.n3;rw[C]at c t u
 have E:∃w m,p.drop (k+1)++bQ p k=w::(m++[iO p k])/\ay (iO p k) (pt p k) w=0:=by
  rcases y6 (k+1) p.length with g|g
  .have F:p.drop (k+1)=pt p (k+1)::p.drop (k+2):=by grind[bc,List.drop_eq_getElem_cons]
   rw[zU g]at c1;rcases xU (bQ p k)with r|⟨A,x,r⟩
   .have d:iO p k=pt p (p.length-1):=by grind[iO]
    rw[r]at u;simp at u;have M:k+2<p.length:=by omega
    refine⟨pt p (k+1),(p.drop (k+2)).dropLast,?_,c1⟩;have B:p.drop (k+2)≠[]:=by simp_all
    grind[List.dropLast_concat_getLast,bc]
   grind[iO]
  have a:k+1=p.length:=by omega
  rw[a,vC]at c1;have v:pt p (p.length-1)=pt p k:=by grind
  rw[a,xA,yj]
  cases r:bQ p k with
  |nil=>grind
  |cons f l=>
   have y:=h.i2 (.inl b);have G:iE p k=f:=by grind[iE]
   rw[G,v]at y;rcases xU l with rfl|⟨m,x,rfl⟩
   grind
   .have d:iO p k=x:=by grind[iO]
    rw[d]at c1⊢;refine⟨f,m,by simp,?_⟩;exact(col (Ct o (i:=k) (j:=0) b (by omega) (by omega)) c1 y).2
 obtain⟨w,m,H,I⟩:=E;obtain⟨N,O⟩:=strip c H I;refine⟨by grind,by grind,fun a=>?_,fun J=>?_⟩;grind[iO,Nat.add_mod_right,Nat.mod_eq_of_lt]
 .cases r:bQ p k with
  |cons f l=>
   have n:iE p (k+1)=iE p k:=by grind[iE]
   rw[n];exact h.i2 (.inl b)
  |nil=>
   have a:k+1<p.length:=by
    grind
   have n:iE p (k+1)=pt p (k+1):=by grind[iE]
   have P:iE p k=pt p k:=by grind[iE]
   have K:iO p k=pt p (p.length-1):=by grind[iO]
   have y:=h.i2 (.inl b);rw[n];rw[K,zU a]at c1;rcases xu k with rfl|g
   omega
   .have q:=Ct o (i:=p.length-1) (j:=k) (by omega) b (by omega);have L:ay (pt p 0) (pt p (p.length-1)) (pt p k)=0:=by grind[ay]
    have:=(col q L c1).2;grind[ay]
theorem Na {p:Rp}(a:SepP p):∀k,k<=p.length->BendI p k
 |0,_=>⟨by trivial,by rfl,fun h=>by
   have e:iO p 0=pt p (p.length-1):=rfl
   simp_all[OD],fun _=>Wt _ _⟩
 |k+1,h=>VD a (by omega) (Na a k (by omega))
theorem JS {p:Rp}(b:0<p.length){e:Ed}(d:e∈aH p.reverse):(e.2,e.1)∈aH p:=by
 have a:0<p.reverse.length:=by grind
 obtain⟨i,hi,rfl⟩:=(fF a).1 d;rw[List.length_reverse]at hi
 have c:∀j,j<p.length->pt p.reverse j=pt p (p.length-1-j):=fun j k=>by
  grind[pt]
 refine(fF b).2 ?_;have l:p.reverse.length=p.length:=by simp
 rcases y6 (i+1) p.length with g|g
 .refine⟨p.length-1-(i+1),by omega,?_⟩;grind[gt]
 refine⟨p.length-1,by omega,?_⟩;have f:vx p.reverse (i+1)=pt p.reverse 0:=by grind[vx,Nat.mod_self]
 have h:vx p (p.length-1+1)=pt p 0:=by grind[vx,Nat.mod_self]
 rw[f,h,c 0 b,gt (by omega),gt (by omega),c i hi,show p.length-1-i=0 by omega,Nat.sub_zero]
theorem SepP.reverse {p:Rp}(h:SepP p):SepP p.reverse where
 n3:=by simpa using h.n3
 ok:=⟨fun s d=>h.ok.ok s (by grind)⟩
 nd:=List.pairwise_reverse.2 (h.nd.imp fun h=>h.symm)
 sep:=fun e a f b c=>by
  have:=(h.sep _ (JS h.pos a) _ (JS h.pos b) (by grind)).revL.symm.revL.symm;omega
theorem CP.dir {p:Rp}(h:bE p=0):CP (lk p):=by
 have c:=Wk h;have b:=Na c p.length (zD _);have s:=b.sp;have a:=b.ar;rw[xA,yI]at s a;unfold lk;split
 .next g=>
  have r:=s.reverse;refine .of r ?_;grind[SP]
 next g=>
 refine .of s ?_;rcases s.wc with k|k
 omega;omega
theorem CP.norm {p:Rp}(h:bE p=0):CP (cP p).1:=by
 simp_all[cP,CP.dir,rQ,CP.rot]
theorem Mz {a b c q:Spot}(h:0<ay a b c):0<=oA a b c q↔inT a b c q:=by
 have e:oA a b c q=sE a b c q:=by
  unfold oA;omega
 grind[sE,inT]
def s5 (l:Rp)(i:Nat):Rp:=[pt l (bg l.length i),pt l i,pt l (bf l.length i)]
def splitN:Nat->Rp->Fv
 |0,l=>[l]
 |n+1,l=>
  if l.length<=3 then [l]
  else if 0<=fg (iQ l l.length) l.length then splitN n (l.eraseIdx (fg (iQ l l.length) l.length).toNat)
  else s5 l (fg (dy l l.length) l.length).toNat::splitN n (l.eraseIdx (fg (dy l l.length) l.length).toNat)
def eD (p:Rp):Fv:=splitN (cP p).1.length (cP p).1
theorem pD (f:Nat->Bool)(m:Nat):(∃i,i<m/\f i=true/\fg f m=(i:Int))\/(∀j,j<m->f j=false)/\fg f m= -1:=by
 grind[fg]
theorem Cv {l:Rp}{i:Nat}:vxp l i=pt l (bg l.length i):=rfl
theorem D7 {l:Rp}{i:Nat}:vx l (i+1)=pt l (bf l.length i):=rfl
theorem uN {l:Rp}(h:CP l):∃i,i<l.length/\dy l l.length i=true:=by
 obtain⟨i,hi,h1,a⟩:=Ve h;rw[Cv,D7,gt hi]at h1 a;refine⟨i,hi,?_⟩;unfold dy crI;rw[xD h1,wG,xH,wu,zH];intro x b;have:=a x b;rw[<-Mz h1]at this;unfold fE;grind
theorem EY {l:Rp}(h:CP l)(a:4<=l.length){i:Nat}(hi:i<l.length)(b:iQ l l.length i=true):CP (l.eraseIdx i):=by
 refine Nb h a hi (.inl ?_);rw[Cv,D7,gt hi];exact x7 b
theorem Aa {l:Rp}(h:CP l)(b:4<=l.length){i:Nat}(hi:i<l.length)(a:dy l l.length i=true):CP (l.eraseIdx i):=by
 refine Nb h b hi (.inr ?_);rw[Cv,D7,gt hi];unfold dy crI at a;rw[zJ,zT,xH,wu,zH]at a;obtain⟨h1,c⟩:=a;refine⟨h1,fun x d hi=>?_⟩;rw[<-Mz h1]at hi;have:=c x d;unfold fE at this;grind
theorem Em {P:Spot->Prop}{k:Nat}(f:3<=k):∀(n:Nat) (l:Rp),l.length<=k->CP l->(∀s∈l,P s)->(splitN n l).length<=n+1/\∀t∈splitN n l,t.length<=k/\∀s∈t,P s
 |0,l,o,h,b=>⟨by simp[splitN],fun t c=>by
  grind[splitN]⟩
 |n+1,l,o,h,b=>by
  have j:∀i,i<l.length->(l.eraseIdx i).length<=k:=fun i hi=>by grind
  have m:∀i,∀s∈l.eraseIdx i,P s:=fun i s d=>b s (List.mem_of_mem_eraseIdx d);unfold splitN;split
  grind
  .next g=>
   split
   .next p=>
    rcases pD (iQ l l.length) l.length with⟨i,hi,a,e⟩ |⟨a,e⟩
    .have:=Em f n (l.eraseIdx i) (j i hi) (EY h (by omega) hi a) (m i);grind
    omega
   next p=>
   rcases pD (dy l l.length) l.length with⟨i,hi,a,e⟩ |⟨a,e⟩
   .have:=Em f n (l.eraseIdx i) (j i hi) (Aa h (by omega) hi a) (m i);refine⟨by grind,fun t c=>?_⟩;rcases zP.1 c with rfl|c
    .refine⟨by trivial,fun s d=>b s ?_⟩;have q:bg l.length i<l.length:=zI _ (by omega);have r:bf l.length i<l.length:=zI _ (by omega);simp[s5]at d;grind[bc]
    grind
   grind[uN]
attribute [local irreducible] IntKind.wrap wpM
section
variable {T:Tab}{sh:Shr}{nx0:Nat}{s:List Fr}{t:ai}{h:ab}{z:Frz}{nx:Nat}{q:Ex->ai->ab->Frz->Nat->Prop}
variable {base i:Nat}{res:List Nat}{g:Gd}{rest:List KOper}
theorem rv {n:Nat}{b x:X}{a:Option Nat}{id off len:Nat}{es:Hm}{esz:Nat}(l:Hm)(c:b.ev t=.ref id off len)(hr:g.h base h id=some (.row es esz))(d:Nat.beq n esz=true)(e:∀k:Hm->Prop,k l->mh n (g.h base h) (x.ev t) k)
 (f:off+len<=es.length) (j:g.z base z id<=off)
 (m:wpM T sh nx0 (.ops base res rest::s) .normal (put t a (.int .i64 (min l.length len:Nat))) (upd h id (some (.row (es.take off++l.take (min l.length len)++es.drop (off+min l.length len)) esz))) z nx q):
 wpM T sh nx0 (.ops base res (⟨i,a,none,g,.copy n b x⟩::rest)::s) .normal t h z nx q:=by
 refine bP ?_;grind[kop,Bg,dC]
theorem finW {fn:KFn}{a:Ex}{r d:D}(e:(match a with|.exit _=>false|_=>true)=true)(b:ln t h fn.res=some d)(c:∀k:D->Prop,k r->ws2 h d k):
 wpM T sh nx0 [] a t h z nx (bB fn fun d h _ _=>ws2 h d fun d=>d=r):=by
 refine bo ?_
 cases a with
 |exit i=>grind
 |normal=>exact kq b (c _ rfl)
 |ret=>exact kq b (c _ rfl)
end
def mo (p:Rp):Fv×Int:=if bE p=0 then(eD p,0)else([],bE p)
def encPE (r:Fv×Int):D:=.tup [aY r.1,.int .i64 r.2]
theorem shiftL {L:Rp}{m i:Nat}(hi:i<m)(a:m<=L.length):
 (L.take i++(L.drop (i+1)).take (m-i-1)++L.drop (m-1)).take (m-1)=(L.take m).eraseIdx i/\(L.take i++(L.drop (i+1)).take (m-i-1)++L.drop (m-1)).length=L.length:=by
 grind[List.eraseIdx_eq_take_drop_succ,List.drop_take]
theorem mN {L:Rp}{m i:Nat}(hi:i<m)(a:m<=L.length):pt (L.take m) i=pt L i:=by
 grind[bc]
theorem Bl {L:Rp}{m i:Nat}(hi:i<m)(a:m<=L.length):iQ (L.take m) m i=iQ L m i:=by
 grind[iQ,crI,bg,Nat.mod_lt,bf,mN]
theorem pQ {L:Rp}{m i:Nat}(hi:i<m)(a:m<=L.length):dy (L.take m) m i=dy L m i:=by
 grind[dy,crI,bg,Nat.mod_lt,bf,mN]
theorem tC {f g:Nat->Bool}{m:Nat}(h:∀i,i<m->f i=g i):fg f m=fg g m:=by
 grind[fg,List.find?_range_eq_some]
theorem NL (p:Rp):(cP p).1.length<=p.length:=by
 grind[cP,rQ,lk,v2]
theorem Bk (p:Rp):∀k,k<=p.length->∀s∈bQ p k,s∈p
 |0,_,s,a=>by trivial
 |k+1,b,s,a=>by
  rw[bQ]at a;split at a
  .rcases za.1 a with a|a
   .exact Bk p k (by omega) s a
   grind[bc]
  exact Bk p k (by omega) s a
theorem Iv (p:Rp):∀s∈(cP p).1,s∈p:=by
 intro s a;unfold cP at a;split at a
 .simp only[rQ]at a
  have h1:s∈lk p:=by
   grind
  unfold lk at h1;split at h1
  .exact Bk p _ (zD _) s (by grind)
  exact Bk p _ (zD _) s h1
 grind
structure SplI (p:Rp)(x:Rp×Nat×Fv):Prop where
 cp:CP (x.1.take x.2.1)
 le:x.2.1<=x.1.length
 sm:x.1.length<=40
 wi:∀s∈x.1,aD s 1048576=true
 m3:3<=x.2.1
 r:x.2.2.length<=40-x.2.1
 eq:x.2.2++splitN x.2.1 (x.1.take x.2.1)=eD p
theorem okPL {L:Rp}(h:∀s∈L,aD s 1048576=true):OkP L:=⟨fun s a=>by
 have:=(q2R (n:=1048576)).1 (h s a)
 exact⟨by omega,by omega⟩⟩
theorem SplI.cut {p L:Rp}{m i:Nat}{r r':Fv}(h:SplI p (L,m,r))(g:3<m)(hi:i<m)
 (j:CP ((L.take m).eraseIdx i)) (hr:r'++splitN (m-1) ((L.take m).eraseIdx i)=r++splitN m (L.take m)) (k:r'.length<=r.length+1):
 SplI p (L.take i++(L.drop (i+1)).take (m-i-1)++L.drop (m-1),m-1,r'):=by
 obtain⟨b,a,c,d,e,l,f⟩:=h;obtain⟨n,o⟩:=shiftL (L:=L) hi a;refine⟨by grind,by grind,by grind,fun s q=>?_,by grind,by grind,by grind⟩;grind
theorem qB {nx0:Nat}(ids:Ke)(l:Fv):(l.map ac).all (okD nx0 ids)=true:=by
 rw[xz,zM];intro x _;rfl
theorem qy {nx0:Nat}(ids:Ke)(l:Fv):(l.map ac).map (du nx0 ids)=l.map ac:=by
 rw[yv];rfl
theorem q5 {L:Rp}{m i:Nat}(hi:i<m)(a:m<=L.length):(L.map Spot.enc).take i++(((L.map Spot.enc).drop (i+1)).take (m-i-1)).take (min (((L.map Spot.enc).drop (i+1)).take (m-i-1)).length (m-i))++(L.map Spot.enc).drop (i+min (((L.map Spot.enc).drop (i+1)).take (m-i-1)).length (m-i))=(L.take i++(L.drop (i+1)).take (m-i-1)++L.drop (m-1)).map Spot.enc:=by
 grind[List.map_take,List.map_drop]
theorem Zv {nx0:Nat}{ids:Ke}{s g:St}{a b c d e f k:Nat}(h1:gu nx0 ids a s=some s)(h:gu nx0 ids b s=some s)(h3:gu nx0 ids c s=some s)(i:gu nx0 ids d s=some s)(j:gu nx0 ids e s=some g)(l:gu nx0 ids f g=some g):
 gD nx0 ids [(a,0),(b,0),(c,0),(d,0),(e,k),(f,0)] s=some g:=by
 simp_all[gD]
theorem Ax {α:Type}{g:D->Option D}{f f':α->D}:∀{l:List α},(∀x∈l,g (f x)=some (f' x))->(l.map f).mapM g=some (l.map f')
 |[],_=>rfl
 |x::l,h=>by
  rw[zg,xB,h x (zO ..),Ax fun y a=>h y (zG _ a)];rfl
theorem sO {nx0:Nat}{ids:Ke}{l:Hm}{d:D}(h:okD nx0 ids d=false):(l++[d]).all (okD nx0 ids)=false:=by
 grind
theorem AV {h:ab}{d a:D}(r:Fv)(b:jf h depth d=some a):(r.map ac++[d]).mapM (jf h depth)=some (r.map ac++[a]):=by
 have h1:(r.map ac).mapM (jf h depth)=some (r.map ac):=Ax fun x _=>rfl;simp_all
theorem Uj {h:ab}{d a:D}(r:Fv)(b:aG h 8 d=some a):(r.map ac++[d]).mapM (aG h 8)=some (r.map ac++[a]):=by
 have h1:(r.map ac).mapM (aG h 8)=some (r.map ac):=Ax fun x _=>rfl;simp_all
theorem An {h:ab}{d:D}(r:Fv):(r.map ac++[d]).flatMap (aN h depth)=aN h depth d:=by
 rw[List.flatMap_append,sN (bF (fun _=>rfl) _)];simp
theorem C8 (p:Rp):PU 74 [ac p]=some (encPE (mo p)):=by
 refine PS rfl (jA rfl (Ud p) (jC rfl (fun e=>?_) (fun e=>?_)))
 .rw[aO]at e;have H:bE p≠0:=fun h=>e (by unfold cP;rw[ve h]);refine jF rfl ?_;unfold mo cP;rw[vd H,vd H];rfl
 rw[aE]at e
 have H:bE p=0:=by
  rcases Decidable.em (bE p=0)with h|h
  .exact h
  unfold cP at e;rw[vd h]at e;exact e
 have P:=CP.norm H;have hl:(cP p).1.length<=40:=by have:=NL p;obtain⟨_,V,_⟩:=fj H;omega
 have hw:∀s∈(cP p).1,aD s 1048576=true:=fun s W=>(fj H).2.2.2.1 s (Iv p s W);have W:mo p=(splitN (cP p).1.length (cP p).1,0):=by unfold mo eD;rw[ve H]
 have ht:eD p=splitN (cP p).1.length (cP p).1:=rfl;rw[W,<-ht];generalize (cP p).1=q at*;have h3:=P.sp.n3;refine gg rfl ?_;rw[zA];refine eu q.length rfl rfl rfl ⟨xL _,by simp[aK];omega⟩ ?_;refine gg rfl (MO rfl rfl rfl rfl (dS (f:=Spot.enc) (n:=2) (fun _=>rfl) _) (by simp) (zD _) ?_)
 have e0:((List.replicate q.length (D.agg [.int .i64 0,.int .i64 0])).take 0++(q.map Spot.enc).take (min (q.map Spot.enc).length q.length)++(List.replicate q.length (D.agg [.int .i64 0,.int .i64 0])).drop (0+min (q.map Spot.enc).length q.length))=q.map Spot.enc:=by
  simp[zZ]
 rw[e0];refine gg rfl ?_
 refine PR 40 40 rfl (S:=fun x:Rp×Nat×Fv=>([.ptr 27 0 0,.ptr 33 0 0,.fn 113 [] [.ptr 33 0 0],.fn 115 [] [.ptr 33 0 0,.ptr 27 0 0],.ref 44 0 x.2.2.length,.bad],[none,none,none,none,some (.row (x.2.2.map ac) 1),none],zz6))
  (O:=fun x ho zo=>HasB [(26,some (.row (x.1.map Spot.enc) 2)),(27,some (.row [.ref 26 0 x.2.1] 1)),(33,Fc)] ho zo) (C:=SplI p) (m:=fun x=>x.2.1) (q,q.length,[]) ⟨by simpa using P,zD _,hl,hw,h3,by simp,by simp[ht]⟩ (by show q.length<_;omega) (by decide) ?_ ?_
 .refine cm rfl rfl rfl rfl rfl rfl ⟨rfl,HasB.of ⟨⟨aU rfl (ae am _),rfl⟩,⟨rfl,rfl⟩,⟨rfl,rfl⟩,tr⟩⟩
 rintro⟨L,m,r⟩ U ho zo ⟨⟨h1,rfl⟩,z1,rfl⟩ N I;have X:=U;obtain⟨A,a,Y,E,Z,ir,J⟩:=X;simp only at A a Y E Z ir J I⊢;have hR:(r.map ac).all (plain 4)=true:=ae (fun _=>rfl) _;have t:(L.take m).length=m:=by rw[y8];omega
 refine jC rfl (fun e=>?_) (fun e=>?_)
 .rw[ad]at e;refine gg rfl (cf rfl rfl (RZ L m a (by omega) (okPL E) _ hR (CutH.of rfl rfl rfl rfl) (CutZ.of rfl rfl rfl rfl) ?_));intro h' z' Q R T B;obtain⟨V,rfl⟩:=R;obtain⟨z2,rfl⟩:=T;rcases pD (iQ L m) m with⟨i,hi,e1,M⟩ |⟨e1,M⟩
  .rw[M];have F:=wS (n:=i);have G:IntKind.i64.wrap ((m:Int)-1)=((m-1:Nat):Int):=by rw[wrap64 (by omega) (by omega)];omega
   have b:(ltb (i:Int) 0)=false:=af.2 (by omega);have u:iQ (L.take m) m i=true:=by rw[Bl hi a];exact e1
   have v:splitN m (L.take m)=splitN (m-1) ((L.take m).eraseIdx i):=by
    obtain⟨k,rfl⟩:∃k,m=k+1:=⟨m-1,by omega⟩;rw[splitN,t,eE,tC (fun j w=>Bl w a),M,rA,yW];rfl
   have g:=U.cut (i:=i) (r':=r) (by omega) hi (EY A (by omega) (by omega) (by rw[t];exact u)) (by rw[v]) (by omega);rcases B with rfl|rfl
   .refine gg rfl (aj (by show D.bool (ltb _ 0)=_;rw[b]) ?_);refine gg rfl (dR i m rfl rfl rfl ⟨_,_,rfl,rfl⟩ rfl ⟨by omega,zD _⟩ ?_)
    have d1:(if i=0 then D.ref 26 0 m else if i=m then D.lst []else D.ref 26 (0+i) (m-i))=D.ref 26 i (m-i):=by
     by_cases h0:i=0
     .subst h0;rfl
     rw[vd h0,eE,zC]
    rw[d1];refine gg rfl (dR (i+1) m rfl rfl rfl ⟨_,_,rfl,F⟩ rfl ⟨by omega,zD _⟩ (rv (((L.map Spot.enc).drop (i+1)).take (m-i-1)) rfl rfl rfl ?_ (by simp;omega) (zB _) ?_))
    .intro k o;by_cases c:i+1=m
     .rw[ve c];rw[show m-i-1=0 by omega,yo]at o;exact lj rfl o
     rw[vd c];refine nc (by simp;omega) ?_ ?_
     .rw[<-xT,<-yD];exact dS (f:=Spot.enc) (n:=2) (fun _=>rfl) _
     rw[zC,show m-(i+1)=m-i-1 by omega];exact o
    rw[q5 hi a];refine gg rfl (fi (m-1) rfl rfl rfl ⟨_,_,rfl,G⟩ (by omega) ?_);refine gE rfl (I (L.take i++(L.drop (i+1)).take (m-i-1)++L.drop (m-1),m-1,r) g (by show m-1<m;omega) (by decide) ?_);refine cm rfl rfl ?_ rfl ?_ rfl ⟨rfl,HasB.of ⟨⟨aU rfl (ae am _),rfl⟩,⟨rfl,rfl⟩,⟨rfl,rfl⟩,tr⟩⟩
    .show((r.map ac).all (okD 40 _)&&true)=true;rw[qB];rfl
    exact zX (fun r:Hm=>([none,none,none,none,some (.row r 1),none]:RU)) (qy _ r)
   refine gg rfl (aj (by show D.bool (ltb _ 0)=_;rw[b]) ?_);refine gg rfl (dR i m rfl rfl rfl ⟨_,_,rfl,rfl⟩ rfl ⟨by omega,zD _⟩ ?_)
   have d1:(if i=0 then D.ref 26 0 m else if i=m then D.lst []else D.ref 26 (0+i) (m-i))=D.ref 26 i (m-i):=by
    by_cases h0:i=0
    .subst h0;rfl
    rw[vd h0,eE,zC]
   rw[d1];refine gg rfl (dR (i+1) m rfl rfl rfl ⟨_,_,rfl,F⟩ rfl ⟨by omega,zD _⟩ (rv (((L.map Spot.enc).drop (i+1)).take (m-i-1)) rfl rfl rfl ?_ (by simp;omega) (zB _) ?_))
   .intro k o;by_cases c:i+1=m
    .rw[ve c];rw[show m-i-1=0 by omega,yo]at o;exact lj rfl o
    rw[vd c];refine nc (by simp;omega) ?_ ?_
    .rw[<-xT,<-yD];exact dS (f:=Spot.enc) (n:=2) (fun _=>rfl) _
    rw[zC,show m-(i+1)=m-i-1 by omega];exact o
   rw[q5 hi a];refine gg rfl (fi (m-1) rfl rfl rfl ⟨_,_,rfl,G⟩ (by omega) ?_);refine gE rfl (I (L.take i++(L.drop (i+1)).take (m-i-1)++L.drop (m-1),m-1,r) g (by show m-1<m;omega) (by decide) ?_);refine cm rfl rfl ?_ rfl ?_ rfl ⟨rfl,HasB.of ⟨⟨aU rfl (ae am _),rfl⟩,⟨rfl,rfl⟩,⟨rfl,rfl⟩,tr⟩⟩
   .show((r.map ac).all (okD 40 _)&&true)=true;rw[qB];rfl
   exact zX (fun r:Hm=>([none,none,none,none,some (.row r 1),none]:RU)) (qy _ r)
  rw[M];have b:(ltb (-1) 0)=true:=ad.2 (by omega);rcases B with rfl|rfl
  .refine gg rfl (ak (by show D.bool (ltb _ 0)=_;rw[b]) ?_);refine gg rfl (cf rfl rfl (IC L m a (by omega) E _ hR (CutH.of rfl rfl rfl rfl) (CutZ.of rfl rfl rfl rfl) ?_));intro h' z' Q R T B;obtain⟨V,rfl⟩:=R;obtain⟨z2,rfl⟩:=T
   obtain⟨i,hi,f1,f2⟩:∃i,i<m/\dy L m i=true/\fg (dy L m) m=(i:Int):=by
    rcases pD (dy L m) m with h|⟨h,_⟩
    .exact h
    obtain⟨j,w,K⟩:=uN A;rw[t]at w K;rw[pQ w a,h j w]at K;cases K
   rw[f2];have F:=wS (n:=i);have G:IntKind.i64.wrap ((m:Int)-1)=((m-1:Nat):Int):=by rw[wrap64 (by omega) (by omega)];omega
   have b:(ltb (i:Int) 0)=false:=af.2 (by omega);have u:dy (L.take m) m i=true:=by rw[pQ hi a];exact f1
   have v:splitN m (L.take m)=[pt L (bg m i),pt L i,pt L (bf m i)]::splitN (m-1) ((L.take m).eraseIdx i):=by
    obtain⟨k,rfl⟩:∃k,m=k+1:=⟨m-1,by omega⟩;have p1:bg (k+1) i<k+1:=zI _ (by omega);have p2:bf (k+1) i<k+1:=zI _ (by omega);rw[splitN,t,eE,tC (fun j w=>Bl w a),M,eE,tC (fun j w=>pQ w a),f2,yW,s5,t,mN hi a,mN p1 a,mN p2 a];rfl
   have g:=U.cut (i:=i) (r':=r++[[pt L (bg m i),pt L i,pt L (bf m i)]]) (by omega) hi (Aa A (by omega) (by omega) (by rw[t];exact u)) (by rw[v];simp) (by simp);rcases B with rfl|rfl
   .refine gg rfl (aj (by show D.bool (ltb _ 0)=_;rw[b]) ?_);refine gg rfl (m7 rfl rfl rfl rfl (Ay L m i hi a (by omega) (LeftH.of rfl rfl) ?_));refine gg rfl (bI rfl rfl rfl rfl rfl rfl (by simp) (zB _) (by simp[aK];omega) ?_);refine gg rfl (dR i m rfl rfl rfl ⟨_,_,rfl,rfl⟩ rfl ⟨by omega,zD _⟩ ?_)
    have d1:(if i=0 then D.ref 26 0 m else if i=m then D.lst []else D.ref 26 (0+i) (m-i))=D.ref 26 i (m-i):=by
     by_cases h0:i=0
     .subst h0;rfl
     rw[vd h0,eE,zC]
    rw[d1];refine gg rfl (dR (i+1) m rfl rfl rfl ⟨_,_,rfl,F⟩ rfl ⟨by omega,zD _⟩ (rv (((L.map Spot.enc).drop (i+1)).take (m-i-1)) rfl rfl rfl ?_ (by simp;omega) (zB _) ?_))
    .intro k o;by_cases c:i+1=m
     .rw[ve c];rw[show m-i-1=0 by omega,yo]at o;exact lj rfl o
     rw[vd c];refine nc (by simp;omega) ?_ ?_
     .rw[<-xT,<-yD];exact dS (f:=Spot.enc) (n:=2) (fun _=>rfl) _
     rw[zC,show m-(i+1)=m-i-1 by omega];exact o
    rw[q5 hi a];refine gg rfl (fi (m-1) rfl rfl rfl ⟨_,_,rfl,G⟩ (by omega) ?_);refine gE rfl (I (L.take i++(L.drop (i+1)).take (m-i-1)++L.drop (m-1),m-1,r++[[pt L (bg m i),pt L i,pt L (bf m i)]]) g (by show m-1<m;omega) (by decide) ?_);have d:(r++[[pt L (bg m i),pt L i,pt L (bf m i)]]).map ac=r.map ac++[ac [pt L (bg m i),pt L i,pt L (bf m i)]]:=by simp
    have y:(r++[[pt L (bg m i),pt L i,pt L (bf m i)]]).length=r.length+1:=by simp
    simp only[d,y];refine qV rfl (Zv rfl rfl rfl rfl ((rz rfl rfl (sO rfl) (AV r rfl)).trans (by rw[An])) rfl) rfl ?_ rfl ?_ rfl ⟨rfl,HasB.of ⟨⟨aU rfl (ae am _),rfl⟩,⟨rfl,rfl⟩,⟨rfl,rfl⟩,tr⟩⟩
    .show((r.map ac++[ac [pt L (bg m i),pt L i,pt L (bf m i)]]).all (okD 40 _)&&true)=true;rw[<-d,qB];rfl
    have z:∀ids,(r.map ac++[ac [pt L (bg m i),pt L i,pt L (bf m i)]]).map (du 40 ids)=r.map ac++[ac [pt L (bg m i),pt L i,pt L (bf m i)]]:=fun ids=>by rw[<-d];exact qy ids _
    exact zX (fun r:Hm=>([none,none,none,none,some (.row r 1),none]:RU)) (z _)
   refine gg rfl (aj (by show D.bool (ltb _ 0)=_;rw[b]) ?_);refine gg rfl (m7 rfl rfl rfl rfl (Ay L m i hi a (by omega) (LeftH.of rfl rfl) ?_));refine gg rfl (bI rfl rfl rfl rfl rfl rfl (by simp) (zB _) (by simp[aK];omega) ?_);refine gg rfl (dR i m rfl rfl rfl ⟨_,_,rfl,rfl⟩ rfl ⟨by omega,zD _⟩ ?_)
   have d1:(if i=0 then D.ref 26 0 m else if i=m then D.lst []else D.ref 26 (0+i) (m-i))=D.ref 26 i (m-i):=by
    by_cases h0:i=0
    .subst h0;rfl
    rw[vd h0,eE,zC]
   rw[d1];refine gg rfl (dR (i+1) m rfl rfl rfl ⟨_,_,rfl,F⟩ rfl ⟨by omega,zD _⟩ (rv (((L.map Spot.enc).drop (i+1)).take (m-i-1)) rfl rfl rfl ?_ (by simp;omega) (zB _) ?_))
   .intro k o;by_cases c:i+1=m
    .rw[ve c];rw[show m-i-1=0 by omega,yo]at o;exact lj rfl o
    rw[vd c];refine nc (by simp;omega) ?_ ?_
    .rw[<-xT,<-yD];exact dS (f:=Spot.enc) (n:=2) (fun _=>rfl) _
    rw[zC,show m-(i+1)=m-i-1 by omega];exact o
   rw[q5 hi a];refine gg rfl (fi (m-1) rfl rfl rfl ⟨_,_,rfl,G⟩ (by omega) ?_);refine gE rfl (I (L.take i++(L.drop (i+1)).take (m-i-1)++L.drop (m-1),m-1,r++[[pt L (bg m i),pt L i,pt L (bf m i)]]) g (by show m-1<m;omega) (by decide) ?_);have d:(r++[[pt L (bg m i),pt L i,pt L (bf m i)]]).map ac=r.map ac++[ac [pt L (bg m i),pt L i,pt L (bf m i)]]:=by simp
   have y:(r++[[pt L (bg m i),pt L i,pt L (bf m i)]]).length=r.length+1:=by simp
   simp only[d,y];refine qV rfl (Zv rfl rfl rfl rfl ((rz rfl rfl (sO rfl) (AV r rfl)).trans (by rw[An])) rfl) rfl ?_ rfl ?_ rfl ⟨rfl,HasB.of ⟨⟨aU rfl (ae am _),rfl⟩,⟨rfl,rfl⟩,⟨rfl,rfl⟩,tr⟩⟩
   .show((r.map ac++[ac [pt L (bg m i),pt L i,pt L (bf m i)]]).all (okD 40 _)&&true)=true;rw[<-d,qB];rfl
   have z:∀ids,(r.map ac++[ac [pt L (bg m i),pt L i,pt L (bf m i)]]).map (du 40 ids)=r.map ac++[ac [pt L (bg m i),pt L i,pt L (bf m i)]]:=fun ids=>by rw[<-d];exact qy ids _
   exact zX (fun r:Hm=>([none,none,none,none,some (.row r 1),none]:RU)) (z _)
  refine gg rfl (ak (by show D.bool (ltb _ 0)=_;rw[b]) ?_);refine gg rfl (cf rfl rfl (IC L m a (by omega) E _ hR (CutH.of rfl rfl rfl rfl) (CutZ.of rfl rfl rfl rfl) ?_));intro h' z' Q R T B;obtain⟨V,rfl⟩:=R;obtain⟨z2,rfl⟩:=T
  obtain⟨i,hi,f1,f2⟩:∃i,i<m/\dy L m i=true/\fg (dy L m) m=(i:Int):=by
   rcases pD (dy L m) m with h|⟨h,_⟩
   .exact h
   obtain⟨j,w,K⟩:=uN A;rw[t]at w K;rw[pQ w a,h j w]at K;cases K
  rw[f2];have F:=wS (n:=i);have G:IntKind.i64.wrap ((m:Int)-1)=((m-1:Nat):Int):=by rw[wrap64 (by omega) (by omega)];omega
  have b:(ltb (i:Int) 0)=false:=af.2 (by omega);have u:dy (L.take m) m i=true:=by rw[pQ hi a];exact f1
  have v:splitN m (L.take m)=[pt L (bg m i),pt L i,pt L (bf m i)]::splitN (m-1) ((L.take m).eraseIdx i):=by
   obtain⟨k,rfl⟩:∃k,m=k+1:=⟨m-1,by omega⟩;have p1:bg (k+1) i<k+1:=zI _ (by omega);have p2:bf (k+1) i<k+1:=zI _ (by omega);rw[splitN,t,eE,tC (fun j w=>Bl w a),M,eE,tC (fun j w=>pQ w a),f2,yW,s5,t,mN hi a,mN p1 a,mN p2 a];rfl
  have g:=U.cut (i:=i) (r':=r++[[pt L (bg m i),pt L i,pt L (bf m i)]]) (by omega) hi (Aa A (by omega) (by omega) (by rw[t];exact u)) (by rw[v];simp) (by simp);rcases B with rfl|rfl
  .refine gg rfl (aj (by show D.bool (ltb _ 0)=_;rw[b]) ?_);refine gg rfl (m7 rfl rfl rfl rfl (Ay L m i hi a (by omega) (LeftH.of rfl rfl) ?_));refine gg rfl (bI rfl rfl rfl rfl rfl rfl (by simp) (zB _) (by simp[aK];omega) ?_);refine gg rfl (dR i m rfl rfl rfl ⟨_,_,rfl,rfl⟩ rfl ⟨by omega,zD _⟩ ?_)
   have d1:(if i=0 then D.ref 26 0 m else if i=m then D.lst []else D.ref 26 (0+i) (m-i))=D.ref 26 i (m-i):=by
    by_cases h0:i=0
    .subst h0;rfl
    rw[vd h0,eE,zC]
   rw[d1];refine gg rfl (dR (i+1) m rfl rfl rfl ⟨_,_,rfl,F⟩ rfl ⟨by omega,zD _⟩ (rv (((L.map Spot.enc).drop (i+1)).take (m-i-1)) rfl rfl rfl ?_ (by simp;omega) (zB _) ?_))
   .intro k o;by_cases c:i+1=m
    .rw[ve c];rw[show m-i-1=0 by omega,yo]at o;exact lj rfl o
    rw[vd c];refine nc (by simp;omega) ?_ ?_
    .rw[<-xT,<-yD];exact dS (f:=Spot.enc) (n:=2) (fun _=>rfl) _
    rw[zC,show m-(i+1)=m-i-1 by omega];exact o
   rw[q5 hi a];refine gg rfl (fi (m-1) rfl rfl rfl ⟨_,_,rfl,G⟩ (by omega) ?_);refine gE rfl (I (L.take i++(L.drop (i+1)).take (m-i-1)++L.drop (m-1),m-1,r++[[pt L (bg m i),pt L i,pt L (bf m i)]]) g (by show m-1<m;omega) (by decide) ?_);have d:(r++[[pt L (bg m i),pt L i,pt L (bf m i)]]).map ac=r.map ac++[ac [pt L (bg m i),pt L i,pt L (bf m i)]]:=by simp
   have y:(r++[[pt L (bg m i),pt L i,pt L (bf m i)]]).length=r.length+1:=by simp
   simp only[d,y];refine qV rfl (Zv rfl rfl rfl rfl ((rz rfl rfl (sO rfl) (AV r rfl)).trans (by rw[An])) rfl) rfl ?_ rfl ?_ rfl ⟨rfl,HasB.of ⟨⟨aU rfl (ae am _),rfl⟩,⟨rfl,rfl⟩,⟨rfl,rfl⟩,tr⟩⟩
   .show((r.map ac++[ac [pt L (bg m i),pt L i,pt L (bf m i)]]).all (okD 40 _)&&true)=true;rw[<-d,qB];rfl
   have z:∀ids,(r.map ac++[ac [pt L (bg m i),pt L i,pt L (bf m i)]]).map (du 40 ids)=r.map ac++[ac [pt L (bg m i),pt L i,pt L (bf m i)]]:=fun ids=>by rw[<-d];exact qy ids _
   exact zX (fun r:Hm=>([none,none,none,none,some (.row r 1),none]:RU)) (z _)
  refine gg rfl (aj (by show D.bool (ltb _ 0)=_;rw[b]) ?_);refine gg rfl (m7 rfl rfl rfl rfl (Ay L m i hi a (by omega) (LeftH.of rfl rfl) ?_));refine gg rfl (bI rfl rfl rfl rfl rfl rfl (by simp) (zB _) (by simp[aK];omega) ?_);refine gg rfl (dR i m rfl rfl rfl ⟨_,_,rfl,rfl⟩ rfl ⟨by omega,zD _⟩ ?_)
  have d1:(if i=0 then D.ref 26 0 m else if i=m then D.lst []else D.ref 26 (0+i) (m-i))=D.ref 26 i (m-i):=by
   by_cases h0:i=0
   .subst h0;rfl
   rw[vd h0,eE,zC]
  rw[d1];refine gg rfl (dR (i+1) m rfl rfl rfl ⟨_,_,rfl,F⟩ rfl ⟨by omega,zD _⟩ (rv (((L.map Spot.enc).drop (i+1)).take (m-i-1)) rfl rfl rfl ?_ (by simp;omega) (zB _) ?_))
  .intro k o;by_cases c:i+1=m
   .rw[ve c];rw[show m-i-1=0 by omega,yo]at o;exact lj rfl o
   rw[vd c];refine nc (by simp;omega) ?_ ?_
   .rw[<-xT,<-yD];exact dS (f:=Spot.enc) (n:=2) (fun _=>rfl) _
   rw[zC,show m-(i+1)=m-i-1 by omega];exact o
  rw[q5 hi a];refine gg rfl (fi (m-1) rfl rfl rfl ⟨_,_,rfl,G⟩ (by omega) ?_);refine gE rfl (I (L.take i++(L.drop (i+1)).take (m-i-1)++L.drop (m-1),m-1,r++[[pt L (bg m i),pt L i,pt L (bf m i)]]) g (by show m-1<m;omega) (by decide) ?_);have d:(r++[[pt L (bg m i),pt L i,pt L (bf m i)]]).map ac=r.map ac++[ac [pt L (bg m i),pt L i,pt L (bf m i)]]:=by simp
  have y:(r++[[pt L (bg m i),pt L i,pt L (bf m i)]]).length=r.length+1:=by simp
  simp only[d,y];refine qV rfl (Zv rfl rfl rfl rfl ((rz rfl rfl (sO rfl) (AV r rfl)).trans (by rw[An])) rfl) rfl ?_ rfl ?_ rfl ⟨rfl,HasB.of ⟨⟨aU rfl (ae am _),rfl⟩,⟨rfl,rfl⟩,⟨rfl,rfl⟩,tr⟩⟩
  .show((r.map ac++[ac [pt L (bg m i),pt L i,pt L (bf m i)]]).all (okD 40 _)&&true)=true;rw[<-d,qB];rfl
  have z:∀ids,(r.map ac++[ac [pt L (bg m i),pt L i,pt L (bf m i)]]).map (du 40 ids)=r.map ac++[ac [pt L (bg m i),pt L i,pt L (bf m i)]]:=fun ids=>by rw[<-d];exact qy ids _
  exact zX (fun r:Hm=>([none,none,none,none,some (.row r 1),none]:RU)) (z _)
 rw[af]at e;obtain rfl:m=3:=by omega
 have a3:splitN 3 (L.take 3)=[L.take 3]:=by rw[splitN,t,rA]
 rw[a3]at J;rw[<-J];refine gE rfl (gg rfl (bI rfl rfl rfl rfl rfl rfl (by simp) (zB _) (by simp[aK];omega) ?_));refine gg rfl (finW rfl rfl ?_);intro k o;show kM _ (r.map ac++[D.ref 26 0 3]) 0 (r.length+1) fun l=>k (.tup [.lst l,.int .i64 0]);unfold kM;refine⟨(r++[L.take 3]).map ac,by simp,?_,o⟩;rw[x6,zZ (by simp),Uj r (tS rfl (by omega)),x6];simp
section
variable {T:Tab}{sh:Shr}{nx0:Nat}{t:ai}{h:ab}{z:Frz}{nx:Nat}
theorem finRW {fn:KFn}{a:Ex}{Q:D->Prop}{r d:D}(f:(match a with|.exit _=>false|_=>true)=true)(b:ln t h fn.res=some d)(c:∀k:D->Prop,k r->ws2 h d k)(e:Q r):
 wpM T sh nx0 [] a t h z nx (bB fn fun d h _ _=>ws2 h d Q):=by
 refine bo ?_
 cases a with
 |exit i=>grind
 |normal=>exact kq b (c _ e)
 |ret=>exact kq b (c _ e)
end
def HullE (l:Rp)(d:D):Prop:=∃r e,d=.tup [ac r,.int .i64 e]/\(∀s∈r,s∈l)/\r.length<=2*l.length
theorem Gp (l:Rp)(j:l.length<=100000):∃d,PU 284 [ac l]=some d/\HullE l d:=by
 refine jh rfl (gg rfl ?_);rw[zA];refine an rfl (fun e=>?_) (fun e=>?_)
 .exact gg rfl (bt rfl rfl rfl tr ⟨[],5,rfl,by simp,by simp⟩)
 rw[af]at e;refine jA rfl (Ac 286 _ rfl Gk l (by omega)) ?_;refine jC rfl (fun c=>?_) (fun c=>?_)
 .exact gg rfl (bt rfl rfl rfl tr ⟨[],3,rfl,by simp,by simp⟩)
 have f:∀s∈l,OkC s:=fun s k=>by
  have h1:aD s 4194304=true:=by grind
  have:=(q2R (n:=4194304)).1 h1;exact⟨by omega,by omega⟩
 obtain⟨_,g,r,b,rfl,h,a⟩:=MI l (by omega) f;refine jA rfl g (jC rfl (fun i=>?_) (fun i=>?_))
 .exact gg rfl (bt rfl rfl rfl tr ⟨[],11,rfl,by simp,by simp⟩)
 exact gg rfl (bt rfl rfl rfl tr ⟨r,0,rfl,h,a⟩)
def pm (s:Spot):Prop:=s.x.natAbs<=2097152/\s.y.natAbs<=2097152
def SumE (d:D):Prop:=∃r e,d=.tup [ac r,.int .i64 e]/\r.length<=72/\∀s∈r,pm s
theorem Sum_ex (a b:Rp)(ha:a.length<=3)(hb:b.length<=3)(I:∀s∈a,aD s 1048576=true)(wb:∀s∈b,aD s 1048576=true):∃d,PU 268 [ac a,ac b]=some d/\SumE d:=by
 obtain⟨_,B,g,J,rfl,D,l1⟩:=Gp a (by omega);obtain⟨_,E,c,K,rfl,F,l2⟩:=Gp b (by omega);have O:∀s∈g,aD s 1048576=true:=fun s i=>I s (D s i);have P:∀s∈c,aD s 1048576=true:=fun s i=>wb s (F s i);have l1:g.length<=6:=by omega
 have l2:c.length<=6:=by omega
 refine jh rfl (jA rfl B (jC rfl (fun e=>?_) (fun e=>?_)))
 .exact gg rfl (bt rfl rfl rfl tr ⟨[],J,rfl,by simp,by simp⟩)
 refine jA rfl E (jC rfl (fun e'=>?_) (fun e'=>?_))
 .exact gg rfl (bt rfl rfl rfl tr ⟨[],K,rfl,by simp,by simp⟩)
 clear B E D F;refine gg rfl ?_;rw[zA];refine aw (S:=fun x:Nat×Rp=>([ac c,.ref 1 0 x.2.length,ac g,aa g.length,aa x.1],none::some (.row (x.2.map Spot.enc) 2)::nn3,zz5)) (C:=fun x=>x.1<=g.length/\x.2.length=x.1*c.length/\∀s∈x.2,pm s) (m:=fun x=>g.length-x.1) (0,[]) ⟨zB _,by simp,by simp⟩ (by omega) ?_ ?_
 .exact ah rfl ⟨rfl,tr⟩ rfl
 rintro⟨k,L⟩ ⟨Q,R,i⟩ N G;simp only at Q R i G⊢;refine jC rfl (fun v=>?_) (fun v=>?_)
 .rw[ad]at v;have o:k<g.length:=by omega
  have wk:=wS (n:=k);have w:=aZ o;have wp:=O _ (by grind[bc]:pt g k∈g);generalize pt g k=p at*;refine jX k rfl rfl w rfl (gg rfl ?_);rw[zA];refine aw (S:=fun x:Nat×Rp=>([ac c,.ref 1 0 x.2.length,.ptr 2 0 0,ac g,aa g.length,aa k,ac c,aa c.length,aa x.1],none::some (.row (x.2.map Spot.enc) 2)::some (.row [p.enc] 2)::nn6,zz9)) (C:=fun x=>x.1<=c.length/\x.2.length=k*c.length+x.1/\∀s∈x.2,pm s) (m:=fun x=>c.length-x.1) (0,L) ⟨zB _,by omega,i⟩ (by omega) ?_ ?_
  .exact ah rfl ⟨ae am _,rfl,tr⟩ rfl
  rintro⟨j,M⟩ ⟨T,U,t⟩ N2 u;simp only at T U t u⊢
  have V:M.length<=100:=by
   have:k*c.length<=6*6:=z6 (by omega) l2;omega
  refine jC rfl (fun A=>?_) (fun A=>?_)
  .rw[ad]at A;have l:j<c.length:=by omega
   have wj:=wS (n:=j);have W:=aZ l;have X:=P _ (by grind[bc]:pt c j∈c);generalize pt c j=q at*;have b1:=(q2R (n:=1048576)).1 wp;have b2:=(q2R (n:=1048576)).1 X;have Y:=ww (x:=p.x+q.x);have Z:=ww (x:=p.y+q.y);refine jX j rfl rfl W rfl (gg rfl ?_);rw[Y,Z];refine bI rfl rfl rfl rfl rfl rfl (by simp) (zB _) (by grind[aK]) ?_;refine gE rfl (u (j+1,M++[⟨p.x+q.x,p.y+q.y⟩]) ⟨l,by grind,?_⟩ (by omega) (ah rfl ⟨?_,rfl,tr⟩ ?_))
   .intro s i;rcases za.1 i with h|h
    grind
    .exact⟨by grind,by grind⟩
   .rw[zY,ae am];rfl
   grind[ac,aa,Spot.enc]
  rw[af]at A;refine gE rfl (gE rfl (G (k+1,M) ⟨o,by grind,t⟩ (by omega) (ah rfl ⟨ae am _,tr⟩ (by grind[ac,aa]))))
 rw[af]at v;obtain rfl:k=g.length:=by omega
 have a0:L.length<=36:=by
  have:g.length*c.length<=6*6:=z6 l1 l2;omega
 obtain⟨_,w,r,b,rfl,hm,H⟩:=MI L (by omega) (fun s h=>⟨by have:=(i s h).1;omega,by have:=(i s h).2;omega⟩);have hr:∀s∈r,pm s:=fun s h=>i s (hm s h);refine gE rfl (gg rfl (lr (r:=.tup [ac r,.bool b]) rfl rfl ⟨bK (by simp) (bF fh _),tr⟩ (by rw[bZ (by simp)];exact w) fun z=>?_));refine jA rfl (Ac 286 _ rfl Gk r (by omega)) ?_;refine jC rfl (fun f=>?_) (fun f=>?_)
 .exact gg rfl (bt rfl rfl rfl tr ⟨[],3,rfl,by simp,by simp⟩)
 refine jC rfl (fun f2=>?_) (fun f2=>?_)
 .exact gg rfl (bt rfl rfl rfl tr ⟨[],5,rfl,by simp,by simp⟩)
 exact gg rfl (bt rfl rfl rfl tr ⟨r,0,rfl,by omega,hr⟩)
theorem DI:∀(n:Nat) (l:Rp),l.length<=n+3->CP l->∀t∈splitN n l,t.length<=3
 |0,l,d,_,t,a=>by
  grind[splitN]
 |n+1,l,d,h,t,a=>by
  unfold splitN at a;split at a
  grind
  .split at a
   .next g e=>
    rcases pD (iQ l l.length) l.length with⟨i,hi,b,c⟩ |⟨b,c⟩
    .rw[c,yW]at a;exact DI n _ (by grind) (EY h (by omega) hi b) t a
    omega
   next g e=>
   rcases pD (dy l l.length) l.length with⟨i,hi,b,c⟩ |⟨b,c⟩
   .rw[c,yW]at a;rcases zP.1 a with rfl|a
    simp[s5]
    .exact DI n _ (by grind) (Aa h (by omega) hi b) t a
   grind[uN]
structure TriP (T:Fv):Prop where
 len:T.length<=41
 t3:∀t∈T,t.length<=3
 wi:∀t∈T,∀s∈t,aD s 1048576=true
theorem Nq {p:Rp}(b:bE p=0):TriP (eD p):=by
 have a:=CP.norm b;have c:(cP p).1.length<=40:=by grind[NL,fj]
 have d:∀s∈(cP p).1,aD s 1048576=true:=fun s e=>(fj b).2.2.2.1 s (Iv p s e);have h1:=Em (P:=fun s=>aD s 1048576=true) (k:=40) (by omega) (cP p).1.length (cP p).1 c a d;have f:=DI (cP p).1.length (cP p).1 (by omega) a;exact⟨zR h1.1 (by omega),f,fun t g=>(h1.2 t g).2⟩
theorem Ki (p:Rp):TriP (mo p).1:=by
 unfold mo;split
 grind[Nq]
 .exact⟨by simp,by simp,by simp⟩
def RegT:Type:={l:Rp//l.length<=72/\∀s∈l,pm s}
def RegT.enc (r:RegT):D:=ac r.1
theorem BR (r:RegT):plain 4 r.enc=true:=rfl
def RegE (d:D):Prop:=∃(R:Fv) (e:Int),d=.tup [aY R,.int .i64 e]/\R.length<=1681/\∀r∈R,r.length<=72/\∀s∈r,pm s
theorem YJ (l:Rp):eqL (l.map Spot.enc) (l.map Spot.enc)=true:=by
 induction l with
 |nil=>rfl
 |cons s l a=>grind[eqL,uv]
theorem CB {x:Rp}:∀{l:Fv},x∈cZ l->x∈l
 |[],h=>by trivial
 |[a],h=>h
 |a::b::l,h=>by
  rw[cZ]at h;split at h
  .exact zG _ (CB h)
  rcases zP.1 h with rfl|h
  simp
  .exact zG _ (CB h)
theorem PN (a b:Rp):∃d,PU 244 [ac a,ac b]=some d/\RegE d:=by
 have A:=C8 a;have D:=C8 b;have t1:=Ki a;have t2:=Ki b;generalize mo a=r1 at*;generalize mo b=r2 at*;obtain⟨g,e1⟩:=r1;obtain⟨f,e2⟩:=r2;simp only[encPE]at A D t1 t2;have l1:=t1.len;have l2:=t2.len;refine jh rfl (jA rfl A (jC rfl (fun e=>?_) (fun e=>?_)))
 .exact gg rfl (bt rfl rfl rfl tr ⟨[],e1,rfl,by simp,by simp⟩)
 refine jA rfl D (jC rfl (fun e'=>?_) (fun e'=>?_))
 .exact gg rfl (bt rfl rfl rfl tr ⟨[],e2,rfl,by simp,by simp⟩)
 clear A D;refine gg rfl ?_;rw[zA];refine aw (S:=fun x:Nat×List RegT=>([aY f,.ref 1 0 x.2.length,aY g,aa g.length,aa x.1],none::some (.row (x.2.map RegT.enc) 1)::nn3,zz5)) (C:=fun x=>x.1<=g.length/\x.2.length=x.1*f.length) (m:=fun x=>g.length-x.1) (0,[]) ⟨zB _,by simp⟩ (by omega) ?_ ?_
 .exact ah rfl ⟨rfl,tr⟩ rfl
 rintro⟨k,L⟩ ⟨E,hL⟩ N W;simp only at E hL W⊢;refine jC rfl (fun F=>?_) (fun F=>?_)
 .rw[ad]at F;have t:k<g.length:=by omega
  have wk:=wS (n:=k);have G:=kw t;have X:plg g k∈g:=by grind[fw]
  have tp:=t1.t3 _ X;have wp:=t1.wi _ X;generalize plg g k=p at*;refine jX k rfl rfl G rfl (gg rfl ?_);rw[zA];refine aw (S:=fun x:Nat×List RegT=>([aY f,.ref 1 0 x.2.length,ac p,aY g,aa g.length,aa k,aY f,aa f.length,aa x.1],none::some (.row (x.2.map RegT.enc) 1)::nn7,zz9)) (C:=fun x=>x.1<=f.length/\x.2.length=k*f.length+x.1) (m:=fun x=>f.length-x.1) (0,L) ⟨zB _,by omega⟩ (by omega) ?_ ?_
  .exact ah rfl ⟨ae BR _,tr⟩ rfl
  rintro⟨j,M⟩ ⟨hj,H⟩ N2 u;simp only at hj H u⊢
  have v:M.length<=1722:=by
   have:k*f.length<=41*41:=z6 (by omega) l2;omega
  refine jC rfl (fun I=>?_) (fun I=>?_)
  .rw[ad]at I;have o:j<f.length:=by omega
   have wj:=wS (n:=j);have hq:=kw o;have Y:plg f j∈f:=by grind[fw]
   have tq:=t2.t3 _ Y;have wq:=t2.wi _ Y;generalize plg f j=q at*;have Z:(uD q).length=q.length:=by simp[uD]
   have J:∀s∈uD q,aD s 1048576=true:=fun s hs=>by
    obtain⟨i,hi,rfl⟩:=zy.1 hs;have h1:=wq _ (by grind[bc]:pt q i∈q);have h2:=(q2R (n:=1048576)).1 h1;have nx:=As (B:=1048576) (by decide) (x:=(pt q i).x) (by omega);have ny:=As (B:=1048576) (by decide) (x:=(pt q i).y) (by omega);refine(q2R (n:=1048576)).2 ⟨by grind,by grind⟩
   obtain⟨_,G,r,er,rfl,K,O⟩:=Sum_ex p (uD q) tp (by omega) wp J;refine jX j rfl rfl hq rfl (jA rfl (Y7 q (by omega)) ?_);refine jA rfl G (jC rfl (fun e5=>?_) (fun e5=>?_))
   .exact gE rfl (gE rfl (gg rfl (bt rfl rfl rfl tr ⟨[],er,rfl,by simp,by simp⟩)))
   refine gg rfl (bI rfl rfl rfl rfl rfl rfl (by simp) (zB _) (by grind[aK]) ?_);refine gE rfl (u (j+1,M++[⟨r,K,O⟩]) ⟨o,by grind⟩ (by omega) (ah rfl ⟨?_,tr⟩ ?_))
   .rw[zY,ae BR];rfl
   grind[aY,ac,aa,RegT.enc]
  rw[af]at I;refine gE rfl (gE rfl (W (k+1,M) ⟨t,by grind⟩ (by omega) (ah rfl ⟨ae BR _,tr⟩ (by grind[aY,aa]))))
 rw[af]at F;obtain rfl:k=g.length:=by omega
 have b2:L.length<=1681:=by
  have:g.length*f.length<=41*41:=z6 l1 l2;omega
 have P:∀x y:RegT,PU 271 [x.enc,y.enc]=some (.int .i64 (cmpL x.1 y.1)):=fun x y=>Yd x.1 y.1 (by grind) (by grind)
 have T:Ord3 (fun x y:RegT=>cmpL x.1 y.1):=⟨fun x=>cmpL_ord.refl _,fun x y=>cmpL_ord.anti _ _,fun x y=>by
  rcases cmpL_ord.tot x.1 y.1 with h|h|h
  omega;grind[Subtype.ext]
  omega,fun x y z=>cmpL_ord.trans _ _ _⟩
 have b3:=qM (c:=fun x y:RegT=>cmpL x.1 y.1) (l:=L);refine gE rfl (gg rfl (r8 rfl rfl (by trivial) (tT (c:=fun x y:RegT=>cmpL x.1 y.1) (enc:=RegT.enc) (l:=L) P (fun x=>by show eqD (.lst (x.1.map Spot.enc)) (.lst (x.1.map Spot.enc))=true;simp[eqD,YJ]) T.refl T.anti' (fun x=>rfl) (fun x=>rfl) (pN T L) (by omega) rfl rfl) ?_));generalize dw (fun x y:RegT=>cmpL x.1 y.1) L=M at*;have H:M.map RegT.enc=(M.map (·.1)).map ac:=by rw[yv];rfl
 have v:L.length=(M.map (·.1)).length:=by grind
 rw[H,v]
 have w:∀r∈M.map (·.1),r.length<=72/\∀s∈r,pm s:=fun r hr=>by
  grind
 generalize M.map (·.1)=R at*;refine gg rfl (cf rfl rfl (UP R (by omega) (fun i=>?_) (HasB.of ⟨⟨rfl,rfl⟩,tr⟩) ?_));grind[plg];intro es h' z' b4 hh U b6;have b7:=PY R;have V:∀r∈cZ R,r∈R:=fun r hr=>CB hr;generalize cZ R=Q at*;refine gg rfl (finRW rfl rfl (r:=.tup [aY Q,.int .i64 0]) ?_ ⟨Q,0,rfl,by omega,fun r hr=>w r (V r hr)⟩);intro k E;show(match h' 1 with|some (.row es _)=>kM h' es 0 Q.length fun l=>k (.tup [.lst l,.int .i64 0]) |_=>False);rw[hh];unfold kM;refine⟨Q.map ac,by omega,?_,E⟩;rw[x6,U,Eo (by decide) (bF (fun _=>rfl) _)]
theorem Gi:∀V:Rp,∃U:Rp,pE (V.map Spot.enc)=U.map Spot.enc/\U.length<=V.length
 |[]=>⟨[],rfl,zD _⟩
 |v::V=>by
  obtain⟨U,h1,a⟩:=Gi V;rw[zg,pE,h1];split
  grind
  .exact⟨v::U,rfl,by grind⟩
def SpotsE (d:D):Prop:=∃(L:Rp) (e:Int),d=.tup [ac L,.int .i64 e]/\L.length<=121032
theorem Ly:∀R:Fv,na (R.map ac)=some ((R.flatMap id).map Spot.enc)
 |[]=>rfl
 |r::R=>by
  have h:(r.map Spot.enc).all isSp=true:=by rw[xz,zM];intro x _;rfl
  show na (.lst (r.map Spot.enc)::R.map ac)=_;rw[na,h,Ly R];simp
theorem Lw {R:Fv}(a:∀v:Spot,PU 245 [aY R,v.enc]=some (.bool (jR R v))):∀L:Rp,ik PU 245 (aY R) (L.map Spot.enc)=some ((L.filter fun v=>!jR R v).map Spot.enc)
 |[]=>rfl
 |v::L=>by
  rw[zg,ik,a,Lw a L];grind
theorem Sd (a b:Rp):∃d,PU 218 [ac a,ac b]=some d/\SpotsE d:=by
 obtain⟨_,f,R,e,rfl,n,hr⟩:=PN a b;by_cases i:e=0
 .subst i;have j:∀v:Spot,PU 245 [aY R,v.enc]=some (.bool (jR R v)):=fun v=>Tp R v (by omega) fun r h=>⟨⟨fun s k=>⟨by have:=((hr r h).2 s k).1;omega,by have:=((hr r h).2 s k).2;omega⟩⟩,by grind⟩;have l:=Ly R
  have m:(R.flatMap id).length<=R.length*72:=by
   clear f j l n
   induction R with
   |nil=>simp
   |cons r R o=>
    have t:=o fun x p=>hr x (zG _ p);grind
  generalize R.flatMap id=V at*;obtain⟨U,hU,q⟩:=Gi V;have g:=Lw j U;refine⟨_,MD (fn:=Au.1) (r:=.tup [ac (dw cQ (U.filter fun v=>!jR R v)),.int .i64 0]) rfl (by trivial) ?_,dw cQ (U.filter fun v=>!jR R v),0,rfl,?_⟩
  .show kx PU 244 245 246 [ac a,ac b]=_;unfold kx;rw[f];simp only[aY];rw[ve tr,l];simp only;rw[ve ⟨by grind,by grind⟩,hU];have g:ik PU 245 (.lst (R.map ac)) (U.map Spot.enc)=_:=g;rw[g];simp;rw[Ey (c:=cQ) (enc:=Spot.enc) uV];simp only;rw[BA (c:=cQ) (enc:=Spot.enc) uV uv cmpSp_ord.refl cmpSp_ord.anti' (pN cmpSp_ord _),ve rfl];rfl
  grind[qM]
 refine⟨_,MD (fn:=Au.1) (r:=.tup [ac [],.int .i64 e]) rfl (by trivial) ?_,[],e,rfl,by simp⟩;show kx PU 244 245 246 [ac a,ac b]=_;unfold kx;rw[f];simp only[aY];rw[vd i];rfl
theorem jo {α:Type}(enc:α->D)(l:List α):aI (mpB enc l)=true:=by
 exact ae (fun _=>rfl) _
theorem add159 (c:Rp)(a:Rp)(M:(c).length+a.length<=100000000){h:ab}{z:Frz}(H:HasB [(4,some (.row [.agg [.mref 11,.ref 12 0 (c).length]] 2)),(157,some (.row (a.map Spot.enc) 2)),(12,some (.row ((c).map Spot.enc) 2)),(11,mpB Spot.enc c)] h z){l:D->ab->Frz->Nat->Prop}
 (o:∀h' z',HasB [(4,some (.row [.agg [.mref 11,.ref 12 0 (aC c a).length]] 2)),(11,mpB Spot.enc (aC c a)),(12,some (.row ((aC c a).map Spot.enc) 2))] h' z'->l (.tup []) h' z' (159+22)) (p:∀h' z',HasB [(4,some (.row [.agg [.mref 11,.ref 164 0 (aC c a).length]] 2)),(11,mpB Spot.enc (aC c a)),(164,some (.row ((aC c a).map Spot.enc) 2))] h' z'->l (.tup []) h' z' (159+22)):
 wpM TT (shr TT 5) 159 [.code kG.1.code] .normal (enter [.ptr 4 0 0,.ref 157 0 a.length]) h z 159 (bB kG.1 l):=by
 obtain⟨⟨h0,rfl⟩,P,rfl⟩:=H;refine gg rfl (aQ rfl rfl rfl rfl (gg rfl ?_))
 first|refine ak rfl ?_|refine aj rfl ?_
 refine gg rfl ?_
 try (refine dq (k:=0) rfl rfl rfl (zB _) rfl rfl ?_;refine gg rfl ?_)
 refine bO (S:=fun x:Nat×Bool=>match x with|(k,true)=>([.ptr 4 0 0,.ref 157 0 a.length,aa a.length,aa k,.bad,.bad],[none,none,none,none,(fun _=>none) (aC c (a.take k)),some (.row ((aC c (a.take k)).map Spot.enc) 2)],zz6) |(k,false)=>([.ptr 4 0 0,.ref 157 0 a.length,aa a.length,aa k,.bad,.bad],[none,none,none,none,(fun _=>none) (aC c (a.take k)),none],zz6))
  (O:=fun x s t=>match x with|(k,true)=>HasB [(4,some (.row [.agg [.mref 11,.ref 164 0 (aC c (a.take k)).length]] 2)),(157,some (.row (a.map Spot.enc) 2)),(11,mpB Spot.enc (aC c (a.take k)))] s t|(k,false)=>HasB [(4,some (.row [.agg [.mref 11,.ref 12 0 (aC c (a.take k)).length]] 2)),(157,some (.row (a.map Spot.enc) 2)),(12,some (.row ((aC c (a.take k)).map Spot.enc) 2)),(11,mpB Spot.enc (aC c (a.take k)))] s t) (C:=fun x=>x.1<=a.length) (m:=fun x=>a.length-x.1) (0,false) (zB _) (by omega) ?_ ?_
 .refine cm rfl rfl ?_ rfl rfl rfl ⟨rfl,HasB.of ⟨⟨rfl,rfl⟩,⟨aU rfl (ae am _),rfl⟩,⟨aU rfl (ae am _),rfl⟩,⟨bv rfl (jo _ _),rfl⟩,tr⟩⟩
  .show((a.map Spot.enc).all (okD 159 _)&&((c.map fun _=>D.bool true).all (plain 4)&&((c.map Spot.enc).all (okD 159 _)&&true)))=true;rw[rows_ok am,rows_ok am,ae (fun _=>rfl)];rfl
 rintro⟨k,B⟩ u s t E N v;simp only at u;have I:∀j,aC c (a.take j)=aC c (a.take j):=fun _=>rfl;obtain⟨J,w⟩:∃b,b=B:=⟨_,rfl⟩;cases B
 all_goals
  dsimp only at E⊢;obtain⟨⟨h1,rfl⟩,Q,rfl⟩:=E;refine jC rfl (fun e=>?_) (fun e=>?_)
  .rw[ad]at e;have d:k<a.length:=by omega
   have K:=wS (n:=k);have f:=p5 c a d;have i:=jg c (a.take k);have i:(aC c (a.take k)).length<=1000000000:=by rw[y8]at i;omega
   have L:a[k]?=some a[k]:=zK d;generalize aC c (a.take k)=q at*;generalize a[k]=x at*;have F:([.ptr 4 0 0,.ref 157 0 a.length,aa a.length,aa ((k+1:Nat):Int),.bad,.bad]:Hm)=[.ptr 4 0 0,.ref 157 0 a.length,aa a.length,aa (IntKind.i64.wrap ((k:Int)+1)),.bad,.bad]:=by rw[K]
   refine gg rfl (aA k rfl rfl rfl rfl rfl d (gg rfl (cb (enc:=Spot.enc) a k x rfl (zC _) (fun _=>rfl) rfl L (gg rfl (aQ rfl rfl rfl rfl (gg rfl (qT mV q x rfl rfl rfl (jC rfl (fun y=>?_) (fun y=>?_)))))))))
   .have g:x∉q:=by simpa using y
    rw[vd g]at f;refine gg rfl (aQ rfl rfl rfl rfl (gg rfl (qc mV q x rfl rfl rfl rfl g (gg rfl (aQ rfl rfl rfl rfl (gg rfl (bI rfl rfl rfl rfl rfl rfl (by simp) (zB _) (by simp[aK];omega) ?_)))))));refine gg rfl (dq (k:=0) rfl rfl rfl (zB _) rfl rfl (gE rfl (v (k+1,true) d (by show _-(k+1)<_-k;omega) ?_)));simp only;rw[f,zL,F];refine cm rfl rfl ?_ rfl ?_ rfl ⟨rfl,HasB.of ⟨⟨rfl,rfl⟩,⟨aU rfl (ae am _),rfl⟩,⟨bv rfl (jo _ _),rfl⟩,tr⟩⟩
    .show((a.map Spot.enc).all (okD 159 _)&&(((q++[x]).map fun _=>D.bool true).all (plain 4)&&((q.map Spot.enc++[Spot.enc x]).all (okD 159 _)&&true)))=true;rw[show q.map Spot.enc++[Spot.enc x]=(q++[x]).map Spot.enc by simp,rows_ok am,rows_ok am,ae (fun _=>rfl)];rfl
    have G:(q++[x]).map Spot.enc=q.map Spot.enc++[Spot.enc x]:=by simp
    have A:∀ids,(q.map Spot.enc++[Spot.enc x]).map (du 159 ids)=q.map Spot.enc++[Spot.enc x]:=fun ids=>by rw[<-G];exact gx gJ ids _
    rw[G];exact zX (fun r:Hm=>([none,none,none,none,(fun _=>none) (q++[x]),some (.row r 2)]:RU)) (A _)
   have g:x∈q:=by simpa using y
   rw[ve g]at f;refine gE rfl (v (k+1,J) d (by show _-(k+1)<_-k;omega) ?_);subst w;simp only;rw[f,F];refine cm rfl rfl ?_ rfl ?_ rfl ⟨rfl,?_⟩
   .show((a.map Spot.enc).all (okD 159 _)&&((q.map fun _=>D.bool true).all (plain 4)&&((q.map Spot.enc).all (okD 159 _)&&true)))=true;rw[rows_ok am,rows_ok am,ae (fun _=>rfl)];rfl
   .first
     |rfl
     |exact zX (fun r:Hm=>([none,none,none,none,(fun _=>none) q,some (.row r 2)]:RU)) (gx gJ _ q)
   first
    |exact HasB.of ⟨⟨rfl,rfl⟩,⟨aU rfl (ae am _),rfl⟩,⟨aU rfl (ae am _),rfl⟩,⟨bv rfl (jo _ _),rfl⟩,tr⟩
    |exact HasB.of ⟨⟨rfl,rfl⟩,⟨aU rfl (ae am _),rfl⟩,⟨bv rfl (jo _ _),rfl⟩,tr⟩
  rw[af]at e;obtain rfl:k=a.length:=by omega
  clear v;rw[zH];refine gE rfl (gg rfl (bd rfl rfl ?_))
  first|exact o _ _ (HasB.of ⟨⟨rfl,rfl⟩,⟨rfl,rfl⟩,⟨rfl,rfl⟩,tr⟩) |exact p _ _ (HasB.of ⟨⟨rfl,rfl⟩,⟨rfl,rfl⟩,⟨rfl,rfl⟩,tr⟩)
theorem add58n (o:Option Blk)(d:aI o=true)(p:Option Blk)(f:aI p=true)(b2:Option Blk)(g:aI b2=true)(a:Rp)(T:(([]:Rp)).length+a.length<=100000000){h:ab}{z:Frz}(L:HasB [(3,some (.row [.agg [.opq (.map none),.ref 8 0 (([]:Rp)).length]] 2)),(56,some (.row (a.map Spot.enc) 2)),(8,some (.row ((([]:Rp)).map Spot.enc) 2)),(0,o),(1,p),(2,b2)] h z){t:D->ab->Frz->Nat->Prop}
 (u:∀h' z',HasB [(3,some (.row [.agg [.mref 62,.ref 8 0 (aC ([]:Rp) a).length]] 2)),(62,mpB Spot.enc (aC ([]:Rp) a)),(8,some (.row ((aC ([]:Rp) a).map Spot.enc) 2)),(0,o),(1,p),(2,b2)] h' z'->t (.tup []) h' z' (58+22)) (v:∀h' z',HasB [(3,some (.row [.agg [.mref 62,.ref 63 0 (aC ([]:Rp) a).length]] 2)),(62,mpB Spot.enc (aC ([]:Rp) a)),(63,some (.row ((aC ([]:Rp) a).map Spot.enc) 2)),(0,o),(1,p),(2,b2)] h' z'->t (.tup []) h' z' (58+22)):
 wpM TT (shr TT 5) 58 [.code kG.1.code] .normal (enter [.ptr 3 0 0,.ref 56 0 a.length]) h z 58 (bB kG.1 t):=by
 obtain⟨⟨h0,rfl⟩,U,rfl⟩:=L;refine gg rfl (aQ rfl rfl rfl rfl (gg rfl ?_))
 first|refine ak rfl ?_|refine aj rfl ?_
 refine gg rfl ?_
 try (refine dq (k:=0) rfl rfl rfl (zB _) rfl rfl ?_;refine gg rfl ?_)
 refine bO (S:=fun x:Nat×Bool=>match x with|(k,true)=>([.ptr 3 0 0,.ref 56 0 a.length,aa a.length,aa k,.bad,.bad],[none,none,none,none,(mpB Spot.enc) (aC ([]:Rp) (a.take k)),some (.row ((aC ([]:Rp) (a.take k)).map Spot.enc) 2)],zz6) |(k,false)=>([.ptr 3 0 0,.ref 56 0 a.length,aa a.length,aa k,.bad,.bad],[none,none,none,none,(mpB Spot.enc) (aC ([]:Rp) (a.take k)),none],zz6))
  (O:=fun x w y=>match x with|(k,true)=>HasB [(3,some (.row [.agg [.mref 62,.ref 63 0 (aC ([]:Rp) (a.take k)).length]] 2)),(56,some (.row (a.map Spot.enc) 2)),(0,o),(1,p),(2,b2)] w y|(k,false)=>HasB [(3,some (.row [.agg [.mref 62,.ref 8 0 (aC ([]:Rp) (a.take k)).length]] 2)),(56,some (.row (a.map Spot.enc) 2)),(8,some (.row ((aC ([]:Rp) (a.take k)).map Spot.enc) 2)),(0,o),(1,p),(2,b2)] w y) (C:=fun x=>x.1<=a.length) (m:=fun x=>a.length-x.1) (0,false) (zB _) (by omega) ?_ ?_
 .refine cm rfl rfl ?_ rfl rfl rfl ⟨rfl,HasB.of ⟨⟨rfl,rfl⟩,⟨aU rfl (ae am _),rfl⟩,⟨rfl,rfl⟩,⟨bv rfl d,rfl⟩,⟨bv rfl f,rfl⟩,⟨bv rfl g,rfl⟩,tr⟩⟩
  .show((a.map Spot.enc).all (okD 58 _)&&true)=true;rw[rows_ok am];rfl
 rintro⟨k,H⟩ A w y I N B;simp only at A;have M:∀j,aC ([]:Rp) (a.take j)=aC ([]:Rp) (a.take j):=fun _=>rfl;obtain⟨P,E⟩:∃b,b=H:=⟨_,rfl⟩;cases H
 all_goals
  dsimp only at I⊢;obtain⟨⟨h1,rfl⟩,V,rfl⟩:=I;refine jC rfl (fun e=>?_) (fun e=>?_)
  .rw[ad]at e;have c:k<a.length:=by omega
   have Q:=wS (n:=k);have i:=p5 ([]:Rp) a c;have s:=jg ([]:Rp) (a.take k);have s:(aC ([]:Rp) (a.take k)).length<=1000000000:=by rw[y8]at s;omega
   have R:a[k]?=some a[k]:=zK c;generalize aC ([]:Rp) (a.take k)=q at*;generalize a[k]=x at*;have J:([.ptr 3 0 0,.ref 56 0 a.length,aa a.length,aa ((k+1:Nat):Int),.bad,.bad]:Hm)=[.ptr 3 0 0,.ref 56 0 a.length,aa a.length,aa (IntKind.i64.wrap ((k:Int)+1)),.bad,.bad]:=by rw[Q]
   refine gg rfl (aA k rfl rfl rfl rfl rfl c (gg rfl (cb (enc:=Spot.enc) a k x rfl (zC _) (fun _=>rfl) rfl R (gg rfl (aQ rfl rfl rfl rfl (gg rfl (qT mV q x rfl rfl rfl (jC rfl (fun F=>?_) (fun F=>?_)))))))))
   .have l:x∉q:=by simpa using F
    rw[vd l]at i;refine gg rfl (aQ rfl rfl rfl rfl (gg rfl (qc mV q x rfl rfl rfl rfl l (gg rfl (aQ rfl rfl rfl rfl (gg rfl (bI rfl rfl rfl rfl rfl rfl (by simp) (zB _) (by simp[aK];omega) ?_)))))));refine gg rfl (dq (k:=0) rfl rfl rfl (zB _) rfl rfl (gE rfl (B (k+1,true) c (by show _-(k+1)<_-k;omega) ?_)));simp only;rw[i,zL,J];refine cm rfl rfl ?_ rfl ?_ rfl ⟨rfl,HasB.of ⟨⟨rfl,rfl⟩,⟨aU rfl (ae am _),rfl⟩,⟨bv rfl d,rfl⟩,⟨bv rfl f,rfl⟩,⟨bv rfl g,rfl⟩,tr⟩⟩
    .show((a.map Spot.enc).all (okD 58 _)&&(((q++[x]).map fun _=>D.bool true).all (plain 4)&&((q.map Spot.enc++[Spot.enc x]).all (okD 58 _)&&true)))=true;rw[show q.map Spot.enc++[Spot.enc x]=(q++[x]).map Spot.enc by simp,rows_ok am,rows_ok am,ae (fun _=>rfl)];rfl
    have K:(q++[x]).map Spot.enc=q.map Spot.enc++[Spot.enc x]:=by simp
    have G:∀ids,(q.map Spot.enc++[Spot.enc x]).map (du 58 ids)=q.map Spot.enc++[Spot.enc x]:=fun ids=>by rw[<-K];exact gx gJ ids _
    rw[K];exact zX (fun r:Hm=>([none,none,none,none,(mpB Spot.enc) (q++[x]),some (.row r 2)]:RU)) (G _)
   have l:x∈q:=by simpa using F
   rw[ve l]at i;refine gE rfl (B (k+1,P) c (by show _-(k+1)<_-k;omega) ?_);subst E;simp only;rw[i,J];refine cm rfl rfl ?_ rfl ?_ rfl ⟨rfl,?_⟩
   .show((a.map Spot.enc).all (okD 58 _)&&((q.map fun _=>D.bool true).all (plain 4)&&((q.map Spot.enc).all (okD 58 _)&&true)))=true;rw[rows_ok am,rows_ok am,ae (fun _=>rfl)];rfl
   .first
     |rfl
     |exact zX (fun r:Hm=>([none,none,none,none,(mpB Spot.enc) q,some (.row r 2)]:RU)) (gx gJ _ q)
   first
    |exact HasB.of ⟨⟨rfl,rfl⟩,⟨aU rfl (ae am _),rfl⟩,⟨aU rfl (ae am _),rfl⟩,⟨bv rfl d,rfl⟩,⟨bv rfl f,rfl⟩,⟨bv rfl g,rfl⟩,tr⟩
    |exact HasB.of ⟨⟨rfl,rfl⟩,⟨aU rfl (ae am _),rfl⟩,⟨bv rfl d,rfl⟩,⟨bv rfl f,rfl⟩,⟨bv rfl g,rfl⟩,tr⟩
  rw[af]at e;obtain rfl:k=a.length:=by omega
  clear B;rw[zH];refine gE rfl (gg rfl (bd rfl rfl ?_))
  first|exact u _ _ (HasB.of ⟨⟨rfl,rfl⟩,⟨rfl,rfl⟩,⟨rfl,rfl⟩,⟨rfl,rfl⟩,⟨rfl,rfl⟩,⟨rfl,rfl⟩,tr⟩) |exact v _ _ (HasB.of ⟨⟨rfl,rfl⟩,⟨rfl,rfl⟩,⟨rfl,rfl⟩,⟨rfl,rfl⟩,⟨rfl,rfl⟩,⟨rfl,rfl⟩,tr⟩)
theorem add58r (p:Option Blk)(f:aI p=true)(s:Option Blk)(g:aI s=true)(b2:Option Blk)(i:aI b2=true)(c:Rp)(a:Rp)(U:(c).length+a.length<=100000000){h:ab}{z:Frz}(M:HasB [(3,some (.row [.agg [.mref 7,.ref 8 0 (c).length]] 2)),(56,some (.row (a.map Spot.enc) 2)),(8,some (.row ((c).map Spot.enc) 2)),(7,mpB Spot.enc c),(0,p),(1,s),(2,b2)] h z){u:D->ab->Frz->Nat->Prop}
 (v:∀h' z',HasB [(3,some (.row [.agg [.mref 7,.ref 8 0 (aC c a).length]] 2)),(7,mpB Spot.enc (aC c a)),(8,some (.row ((aC c a).map Spot.enc) 2)),(0,p),(1,s),(2,b2)] h' z'->u (.tup []) h' z' (58+22)) (w:∀h' z',HasB [(3,some (.row [.agg [.mref 7,.ref 63 0 (aC c a).length]] 2)),(7,mpB Spot.enc (aC c a)),(63,some (.row ((aC c a).map Spot.enc) 2)),(0,p),(1,s),(2,b2)] h' z'->u (.tup []) h' z' (58+22)):
 wpM TT (shr TT 5) 58 [.code kG.1.code] .normal (enter [.ptr 3 0 0,.ref 56 0 a.length]) h z 58 (bB kG.1 u):=by
 obtain⟨⟨h0,rfl⟩,V,rfl⟩:=M;refine gg rfl (aQ rfl rfl rfl rfl (gg rfl ?_))
 first|refine ak rfl ?_|refine aj rfl ?_
 refine gg rfl ?_
 try (refine dq (k:=0) rfl rfl rfl (zB _) rfl rfl ?_;refine gg rfl ?_)
 refine bO (S:=fun x:Nat×Bool=>match x with|(k,true)=>([.ptr 3 0 0,.ref 56 0 a.length,aa a.length,aa k,.bad,.bad],[none,none,none,none,(fun _=>none) (aC c (a.take k)),some (.row ((aC c (a.take k)).map Spot.enc) 2)],zz6) |(k,false)=>([.ptr 3 0 0,.ref 56 0 a.length,aa a.length,aa k,.bad,.bad],[none,none,none,none,(fun _=>none) (aC c (a.take k)),none],zz6))
  (O:=fun x y A=>match x with|(k,true)=>HasB [(3,some (.row [.agg [.mref 7,.ref 63 0 (aC c (a.take k)).length]] 2)),(56,some (.row (a.map Spot.enc) 2)),(7,mpB Spot.enc (aC c (a.take k))),(0,p),(1,s),(2,b2)] y A|(k,false)=>HasB [(3,some (.row [.agg [.mref 7,.ref 8 0 (aC c (a.take k)).length]] 2)),(56,some (.row (a.map Spot.enc) 2)),(8,some (.row ((aC c (a.take k)).map Spot.enc) 2)),(7,mpB Spot.enc (aC c (a.take k))),(0,p),(1,s),(2,b2)] y A) (C:=fun x=>x.1<=a.length) (m:=fun x=>a.length-x.1) (0,false) (zB _) (by omega) ?_ ?_
 .refine cm rfl rfl ?_ rfl rfl rfl ⟨rfl,HasB.of ⟨⟨rfl,rfl⟩,⟨aU rfl (ae am _),rfl⟩,⟨aU rfl (ae am _),rfl⟩,⟨bv rfl (jo _ _),rfl⟩,⟨bv rfl f,rfl⟩,⟨bv rfl g,rfl⟩,⟨bv rfl i,rfl⟩,tr⟩⟩
  .show((a.map Spot.enc).all (okD 58 _)&&((c.map fun _=>D.bool true).all (plain 4)&&((c.map Spot.enc).all (okD 58 _)&&true)))=true;rw[rows_ok am,rows_ok am,ae (fun _=>rfl)];rfl
 rintro⟨k,I⟩ B y A J N E;simp only at B;have P:∀j,aC c (a.take j)=aC c (a.take j):=fun _=>rfl;obtain⟨Q,F⟩:∃b,b=I:=⟨_,rfl⟩;cases I
 all_goals
  dsimp only at J⊢;obtain⟨⟨h1,rfl⟩,W,rfl⟩:=J;refine jC rfl (fun e=>?_) (fun e=>?_)
  .rw[ad]at e;have d:k<a.length:=by omega
   have R:=wS (n:=k);have l:=p5 c a d;have t:=jg c (a.take k);have t:(aC c (a.take k)).length<=1000000000:=by rw[y8]at t;omega
   have T:a[k]?=some a[k]:=zK d;generalize aC c (a.take k)=q at*;generalize a[k]=x at*;have K:([.ptr 3 0 0,.ref 56 0 a.length,aa a.length,aa ((k+1:Nat):Int),.bad,.bad]:Hm)=[.ptr 3 0 0,.ref 56 0 a.length,aa a.length,aa (IntKind.i64.wrap ((k:Int)+1)),.bad,.bad]:=by rw[R]
   refine gg rfl (aA k rfl rfl rfl rfl rfl d (gg rfl (cb (enc:=Spot.enc) a k x rfl (zC _) (fun _=>rfl) rfl T (gg rfl (aQ rfl rfl rfl rfl (gg rfl (qT mV q x rfl rfl rfl (jC rfl (fun G=>?_) (fun G=>?_)))))))))
   .have o:x∉q:=by simpa using G
    rw[vd o]at l;refine gg rfl (aQ rfl rfl rfl rfl (gg rfl (qc mV q x rfl rfl rfl rfl o (gg rfl (aQ rfl rfl rfl rfl (gg rfl (bI rfl rfl rfl rfl rfl rfl (by simp) (zB _) (by simp[aK];omega) ?_)))))));refine gg rfl (dq (k:=0) rfl rfl rfl (zB _) rfl rfl (gE rfl (E (k+1,true) d (by show _-(k+1)<_-k;omega) ?_)));simp only;rw[l,zL,K];refine cm rfl rfl ?_ rfl ?_ rfl ⟨rfl,HasB.of ⟨⟨rfl,rfl⟩,⟨aU rfl (ae am _),rfl⟩,⟨bv rfl (jo _ _),rfl⟩,⟨bv rfl f,rfl⟩,⟨bv rfl g,rfl⟩,⟨bv rfl i,rfl⟩,tr⟩⟩
    .show((a.map Spot.enc).all (okD 58 _)&&(((q++[x]).map fun _=>D.bool true).all (plain 4)&&((q.map Spot.enc++[Spot.enc x]).all (okD 58 _)&&true)))=true;rw[show q.map Spot.enc++[Spot.enc x]=(q++[x]).map Spot.enc by simp,rows_ok am,rows_ok am,ae (fun _=>rfl)];rfl
    have L:(q++[x]).map Spot.enc=q.map Spot.enc++[Spot.enc x]:=by simp
    have H:∀ids,(q.map Spot.enc++[Spot.enc x]).map (du 58 ids)=q.map Spot.enc++[Spot.enc x]:=fun ids=>by rw[<-L];exact gx gJ ids _
    rw[L];exact zX (fun r:Hm=>([none,none,none,none,(fun _=>none) (q++[x]),some (.row r 2)]:RU)) (H _)
   have o:x∈q:=by simpa using G
   rw[ve o]at l;refine gE rfl (E (k+1,Q) d (by show _-(k+1)<_-k;omega) ?_);subst F;simp only;rw[l,K];refine cm rfl rfl ?_ rfl ?_ rfl ⟨rfl,?_⟩
   .show((a.map Spot.enc).all (okD 58 _)&&((q.map fun _=>D.bool true).all (plain 4)&&((q.map Spot.enc).all (okD 58 _)&&true)))=true;rw[rows_ok am,rows_ok am,ae (fun _=>rfl)];rfl
   .first
     |rfl
     |exact zX (fun r:Hm=>([none,none,none,none,(fun _=>none) q,some (.row r 2)]:RU)) (gx gJ _ q)
   first
    |exact HasB.of ⟨⟨rfl,rfl⟩,⟨aU rfl (ae am _),rfl⟩,⟨aU rfl (ae am _),rfl⟩,⟨bv rfl (jo _ _),rfl⟩,⟨bv rfl f,rfl⟩,⟨bv rfl g,rfl⟩,⟨bv rfl i,rfl⟩,tr⟩
    |exact HasB.of ⟨⟨rfl,rfl⟩,⟨aU rfl (ae am _),rfl⟩,⟨bv rfl (jo _ _),rfl⟩,⟨bv rfl f,rfl⟩,⟨bv rfl g,rfl⟩,⟨bv rfl i,rfl⟩,tr⟩
  rw[af]at e;obtain rfl:k=a.length:=by omega
  clear E;rw[zH];refine gE rfl (gg rfl (bd rfl rfl ?_))
  first|exact v _ _ (HasB.of ⟨⟨rfl,rfl⟩,⟨rfl,rfl⟩,⟨rfl,rfl⟩,⟨rfl,rfl⟩,⟨rfl,rfl⟩,⟨rfl,rfl⟩,tr⟩) |exact w _ _ (HasB.of ⟨⟨rfl,rfl⟩,⟨rfl,rfl⟩,⟨rfl,rfl⟩,⟨rfl,rfl⟩,⟨rfl,rfl⟩,⟨rfl,rfl⟩,tr⟩)
instance:DecidableEq Turn:=fun a b=>decidable_of_iff (a.flip=b.flip/\a.quarter=b.quarter) (by cases a;cases b;simp)
instance:DecidableEq Put2:=fun a b=>decidable_of_iff (a.shape=b.shape/\a.turn=b.turn/\a.at_=b.at_) (by cases a;cases b;simp)
instance:DecidableEq Ending:=fun a b=>decidable_of_iff (a.put=b.put/\a.right=b.right) (by cases a;cases b;simp)
theorem cX (e:Ending):plain 4 e.enc=true:=rfl
theorem L5 (e:Ending):dat 4 e.enc=true:=rfl
theorem lD {nx0:Nat}(ids:Ke)(e:Ending):du nx0 ids e.enc=e.enc:=rfl
theorem uP:KeyE (.flat [.int,.bool,.int,.int,.int,.int]) Ending.enc where
 ok:=fun a=>rfl
 eq:=fun a b=>by
  have:mq (.flat [.int,.bool,.int,.int,.int,.int]) (Ending.enc a) (Ending.enc b)=some (eqb a.put.shape b.put.shape&&((a.put.turn.flip==b.put.turn.flip)&&(eqb a.put.turn.quarter b.put.turn.quarter&&(eqb a.put.at_.x b.put.at_.x&&(eqb a.put.at_.y b.put.at_.y&&(eqb a.right b.right&&true)))))):=rfl;rw[this];congr 1;obtain⟨⟨s,⟨f,q⟩,⟨x,y⟩⟩,r⟩:=a;obtain⟨⟨s',⟨f',c⟩,⟨d,e⟩⟩,r'⟩:=b;rw[zN];simp[eqb,and_assoc]
theorem TN (l:Option Blk)(d:aI l=true)(o:Option Blk)(f:aI o=true)(a:List Ending)(R:(([]:List Ending)).length+a.length<=100000000){h:ab}{z:Frz}(K:HasB [(6,some (.row [.agg [.opq (.map none),.ref 16 0 (([]:List Ending)).length]] 2)),(146,some (.row (a.map Ending.enc) 6)),(16,some (.row ((([]:List Ending)).map Ending.enc) 6)),(3,l),(4,o)] h z){s:D->ab->Frz->Nat->Prop}
 (t:∀h' z',HasB [(6,some (.row [.agg [.mref 152,.ref 16 0 (aC ([]:List Ending) a).length]] 2)),(152,mpB Ending.enc (aC ([]:List Ending) a)),(16,some (.row ((aC ([]:List Ending) a).map Ending.enc) 6)),(3,l),(4,o)] h' z'->s (.tup []) h' z' (148+22)) (u:∀h' z',HasB [(6,some (.row [.agg [.mref 152,.ref 153 0 (aC ([]:List Ending) a).length]] 2)),(152,mpB Ending.enc (aC ([]:List Ending) a)),(153,some (.row ((aC ([]:List Ending) a).map Ending.enc) 6)),(3,l),(4,o)] h' z'->s (.tup []) h' z' (148+22)):
 wpM TT (shr TT 5) 148 [.code qN.1.code] .normal (enter [.ptr 6 0 0,.ref 146 0 a.length]) h z 148 (bB qN.1 s):=by
 obtain⟨⟨h0,rfl⟩,T,rfl⟩:=K;refine gg rfl (aQ rfl rfl rfl rfl (gg rfl ?_))
 first|refine ak rfl ?_|refine aj rfl ?_
 refine gg rfl ?_
 try (refine dq (k:=0) rfl rfl rfl (zB _) rfl rfl ?_;refine gg rfl ?_)
 refine bO (S:=fun x:Nat×Bool=>match x with|(k,true)=>([.ptr 6 0 0,.ref 146 0 a.length,aa a.length,aa k,.bad,.bad],[none,none,none,none,(mpB Ending.enc) (aC ([]:List Ending) (a.take k)),some (.row ((aC ([]:List Ending) (a.take k)).map Ending.enc) 6)],zz6) |(k,false)=>([.ptr 6 0 0,.ref 146 0 a.length,aa a.length,aa k,.bad,.bad],[none,none,none,none,(mpB Ending.enc) (aC ([]:List Ending) (a.take k)),none],zz6))
  (O:=fun x v w=>match x with|(k,true)=>HasB [(6,some (.row [.agg [.mref 152,.ref 153 0 (aC ([]:List Ending) (a.take k)).length]] 2)),(146,some (.row (a.map Ending.enc) 6)),(3,l),(4,o)] v w|(k,false)=>HasB [(6,some (.row [.agg [.mref 152,.ref 16 0 (aC ([]:List Ending) (a.take k)).length]] 2)),(146,some (.row (a.map Ending.enc) 6)),(16,some (.row ((aC ([]:List Ending) (a.take k)).map Ending.enc) 6)),(3,l),(4,o)] v w) (C:=fun x=>x.1<=a.length) (m:=fun x=>a.length-x.1) (0,false) (zB _) (by omega) ?_ ?_
 .refine cm rfl rfl ?_ rfl rfl rfl ⟨rfl,HasB.of ⟨⟨rfl,rfl⟩,⟨aU rfl (ae cX _),rfl⟩,⟨rfl,rfl⟩,⟨bv rfl d,rfl⟩,⟨bv rfl f,rfl⟩,tr⟩⟩
  .show((a.map Ending.enc).all (okD 148 _)&&true)=true;rw[rows_ok cX];rfl
 rintro⟨k,G⟩ y v w H N A;simp only at y;have L:∀j,aC ([]:List Ending) (a.take j)=aC ([]:List Ending) (a.take j):=fun _=>rfl;obtain⟨M,B⟩:∃b,b=G:=⟨_,rfl⟩;cases G
 all_goals
  dsimp only at H⊢;obtain⟨⟨h1,rfl⟩,U,rfl⟩:=H;refine jC rfl (fun e=>?_) (fun e=>?_)
  .rw[ad]at e;have c:k<a.length:=by omega
   have P:=wS (n:=k);have g:=p5 ([]:List Ending) a c;have p:=jg ([]:List Ending) (a.take k);have p:(aC ([]:List Ending) (a.take k)).length<=1000000000:=by rw[y8]at p;omega
   have Q:a[k]?=some a[k]:=zK c;generalize aC ([]:List Ending) (a.take k)=q at*;generalize a[k]=x at*;have I:([.ptr 6 0 0,.ref 146 0 a.length,aa a.length,aa ((k+1:Nat):Int),.bad,.bad]:Hm)=[.ptr 6 0 0,.ref 146 0 a.length,aa a.length,aa (IntKind.i64.wrap ((k:Int)+1)),.bad,.bad]:=by rw[P]
   refine gg rfl (aA k rfl rfl rfl rfl rfl c (gg rfl (cb (enc:=Ending.enc) a k x rfl (zC _) (fun _=>rfl) rfl Q (gg rfl (aQ rfl rfl rfl rfl (gg rfl (qT uP q x rfl rfl rfl (jC rfl (fun E=>?_) (fun E=>?_)))))))))
   .have i:x∉q:=by simpa using E
    rw[vd i]at g;refine gg rfl (aQ rfl rfl rfl rfl (gg rfl (qc uP q x rfl rfl rfl rfl i (gg rfl (aQ rfl rfl rfl rfl (gg rfl (bI rfl rfl rfl rfl rfl rfl (by simp) (zB _) (by simp[aK];omega) ?_)))))));refine gg rfl (dq (k:=0) rfl rfl rfl (zB _) rfl rfl (gE rfl (A (k+1,true) c (by show _-(k+1)<_-k;omega) ?_)));simp only;rw[g,zL,I];refine cm rfl rfl ?_ rfl ?_ rfl ⟨rfl,HasB.of ⟨⟨rfl,rfl⟩,⟨aU rfl (ae cX _),rfl⟩,⟨bv rfl d,rfl⟩,⟨bv rfl f,rfl⟩,tr⟩⟩
    .show((a.map Ending.enc).all (okD 148 _)&&(((q++[x]).map fun _=>D.bool true).all (plain 4)&&((q.map Ending.enc++[Ending.enc x]).all (okD 148 _)&&true)))=true;rw[show q.map Ending.enc++[Ending.enc x]=(q++[x]).map Ending.enc by simp,rows_ok cX,rows_ok cX,ae (fun _=>rfl)];rfl
    have J:(q++[x]).map Ending.enc=q.map Ending.enc++[Ending.enc x]:=by simp
    have F:∀ids,(q.map Ending.enc++[Ending.enc x]).map (du 148 ids)=q.map Ending.enc++[Ending.enc x]:=fun ids=>by rw[<-J];exact gx lD ids _
    rw[J];exact zX (fun r:Hm=>([none,none,none,none,(mpB Ending.enc) (q++[x]),some (.row r 6)]:RU)) (F _)
   have i:x∈q:=by simpa using E
   rw[ve i]at g;refine gE rfl (A (k+1,M) c (by show _-(k+1)<_-k;omega) ?_);subst B;simp only;rw[g,I];refine cm rfl rfl ?_ rfl ?_ rfl ⟨rfl,?_⟩
   .show((a.map Ending.enc).all (okD 148 _)&&((q.map fun _=>D.bool true).all (plain 4)&&((q.map Ending.enc).all (okD 148 _)&&true)))=true;rw[rows_ok cX,rows_ok cX,ae (fun _=>rfl)];rfl
   .first
     |rfl
     |exact zX (fun r:Hm=>([none,none,none,none,(mpB Ending.enc) q,some (.row r 6)]:RU)) (gx lD _ q)
   first
    |exact HasB.of ⟨⟨rfl,rfl⟩,⟨aU rfl (ae cX _),rfl⟩,⟨aU rfl (ae cX _),rfl⟩,⟨bv rfl d,rfl⟩,⟨bv rfl f,rfl⟩,tr⟩
    |exact HasB.of ⟨⟨rfl,rfl⟩,⟨aU rfl (ae cX _),rfl⟩,⟨bv rfl d,rfl⟩,⟨bv rfl f,rfl⟩,tr⟩
  rw[af]at e;obtain rfl:k=a.length:=by omega
  clear A;rw[zH];refine gE rfl (gg rfl (bd rfl rfl ?_))
  first|exact t _ _ (HasB.of ⟨⟨rfl,rfl⟩,⟨rfl,rfl⟩,⟨rfl,rfl⟩,⟨rfl,rfl⟩,⟨rfl,rfl⟩,tr⟩) |exact u _ _ (HasB.of ⟨⟨rfl,rfl⟩,⟨rfl,rfl⟩,⟨rfl,rfl⟩,⟨rfl,rfl⟩,⟨rfl,rfl⟩,tr⟩)
theorem T5 (o:Option Blk)(f:aI o=true)(p:Option Blk)(g:aI p=true)(c:List Ending)(a:List Ending)(T:(c).length+a.length<=100000000){h:ab}{z:Frz}(L:HasB [(6,some (.row [.agg [.mref 15,.ref 16 0 (c).length]] 2)),(146,some (.row (a.map Ending.enc) 6)),(16,some (.row ((c).map Ending.enc) 6)),(15,mpB Ending.enc c),(3,o),(4,p)] h z){t:D->ab->Frz->Nat->Prop}
 (u:∀h' z',HasB [(6,some (.row [.agg [.mref 15,.ref 16 0 (aC c a).length]] 2)),(15,mpB Ending.enc (aC c a)),(16,some (.row ((aC c a).map Ending.enc) 6)),(3,o),(4,p)] h' z'->t (.tup []) h' z' (148+22)) (v:∀h' z',HasB [(6,some (.row [.agg [.mref 15,.ref 153 0 (aC c a).length]] 2)),(15,mpB Ending.enc (aC c a)),(153,some (.row ((aC c a).map Ending.enc) 6)),(3,o),(4,p)] h' z'->t (.tup []) h' z' (148+22)):
 wpM TT (shr TT 5) 148 [.code qN.1.code] .normal (enter [.ptr 6 0 0,.ref 146 0 a.length]) h z 148 (bB qN.1 t):=by
 obtain⟨⟨h0,rfl⟩,U,rfl⟩:=L;refine gg rfl (aQ rfl rfl rfl rfl (gg rfl ?_))
 first|refine ak rfl ?_|refine aj rfl ?_
 refine gg rfl ?_
 try (refine dq (k:=0) rfl rfl rfl (zB _) rfl rfl ?_;refine gg rfl ?_)
 refine bO (S:=fun x:Nat×Bool=>match x with|(k,true)=>([.ptr 6 0 0,.ref 146 0 a.length,aa a.length,aa k,.bad,.bad],[none,none,none,none,(fun _=>none) (aC c (a.take k)),some (.row ((aC c (a.take k)).map Ending.enc) 6)],zz6) |(k,false)=>([.ptr 6 0 0,.ref 146 0 a.length,aa a.length,aa k,.bad,.bad],[none,none,none,none,(fun _=>none) (aC c (a.take k)),none],zz6))
  (O:=fun x w y=>match x with|(k,true)=>HasB [(6,some (.row [.agg [.mref 15,.ref 153 0 (aC c (a.take k)).length]] 2)),(146,some (.row (a.map Ending.enc) 6)),(15,mpB Ending.enc (aC c (a.take k))),(3,o),(4,p)] w y|(k,false)=>HasB [(6,some (.row [.agg [.mref 15,.ref 16 0 (aC c (a.take k)).length]] 2)),(146,some (.row (a.map Ending.enc) 6)),(16,some (.row ((aC c (a.take k)).map Ending.enc) 6)),(15,mpB Ending.enc (aC c (a.take k))),(3,o),(4,p)] w y) (C:=fun x=>x.1<=a.length) (m:=fun x=>a.length-x.1) (0,false) (zB _) (by omega) ?_ ?_
 .refine cm rfl rfl ?_ rfl rfl rfl ⟨rfl,HasB.of ⟨⟨rfl,rfl⟩,⟨aU rfl (ae cX _),rfl⟩,⟨aU rfl (ae cX _),rfl⟩,⟨bv rfl (jo _ _),rfl⟩,⟨bv rfl f,rfl⟩,⟨bv rfl g,rfl⟩,tr⟩⟩
  .show((a.map Ending.enc).all (okD 148 _)&&((c.map fun _=>D.bool true).all (plain 4)&&((c.map Ending.enc).all (okD 148 _)&&true)))=true;rw[rows_ok cX,rows_ok cX,ae (fun _=>rfl)];rfl
 rintro⟨k,H⟩ A w y I N B;simp only at A;have M:∀j,aC c (a.take j)=aC c (a.take j):=fun _=>rfl;obtain⟨P,E⟩:∃b,b=H:=⟨_,rfl⟩;cases H
 all_goals
  dsimp only at I⊢;obtain⟨⟨h1,rfl⟩,V,rfl⟩:=I;refine jC rfl (fun e=>?_) (fun e=>?_)
  .rw[ad]at e;have d:k<a.length:=by omega
   have Q:=wS (n:=k);have i:=p5 c a d;have s:=jg c (a.take k);have s:(aC c (a.take k)).length<=1000000000:=by rw[y8]at s;omega
   have R:a[k]?=some a[k]:=zK d;generalize aC c (a.take k)=q at*;generalize a[k]=x at*;have J:([.ptr 6 0 0,.ref 146 0 a.length,aa a.length,aa ((k+1:Nat):Int),.bad,.bad]:Hm)=[.ptr 6 0 0,.ref 146 0 a.length,aa a.length,aa (IntKind.i64.wrap ((k:Int)+1)),.bad,.bad]:=by rw[Q]
   refine gg rfl (aA k rfl rfl rfl rfl rfl d (gg rfl (cb (enc:=Ending.enc) a k x rfl (zC _) (fun _=>rfl) rfl R (gg rfl (aQ rfl rfl rfl rfl (gg rfl (qT uP q x rfl rfl rfl (jC rfl (fun F=>?_) (fun F=>?_)))))))))
   .have l:x∉q:=by simpa using F
    rw[vd l]at i;refine gg rfl (aQ rfl rfl rfl rfl (gg rfl (qc uP q x rfl rfl rfl rfl l (gg rfl (aQ rfl rfl rfl rfl (gg rfl (bI rfl rfl rfl rfl rfl rfl (by simp) (zB _) (by simp[aK];omega) ?_)))))));refine gg rfl (dq (k:=0) rfl rfl rfl (zB _) rfl rfl (gE rfl (B (k+1,true) d (by show _-(k+1)<_-k;omega) ?_)));simp only;rw[i,zL,J];refine cm rfl rfl ?_ rfl ?_ rfl ⟨rfl,HasB.of ⟨⟨rfl,rfl⟩,⟨aU rfl (ae cX _),rfl⟩,⟨bv rfl (jo _ _),rfl⟩,⟨bv rfl f,rfl⟩,⟨bv rfl g,rfl⟩,tr⟩⟩
    .show((a.map Ending.enc).all (okD 148 _)&&(((q++[x]).map fun _=>D.bool true).all (plain 4)&&((q.map Ending.enc++[Ending.enc x]).all (okD 148 _)&&true)))=true;rw[show q.map Ending.enc++[Ending.enc x]=(q++[x]).map Ending.enc by simp,rows_ok cX,rows_ok cX,ae (fun _=>rfl)];rfl
    have K:(q++[x]).map Ending.enc=q.map Ending.enc++[Ending.enc x]:=by simp
    have G:∀ids,(q.map Ending.enc++[Ending.enc x]).map (du 148 ids)=q.map Ending.enc++[Ending.enc x]:=fun ids=>by rw[<-K];exact gx lD ids _
    rw[K];exact zX (fun r:Hm=>([none,none,none,none,(fun _=>none) (q++[x]),some (.row r 6)]:RU)) (G _)
   have l:x∈q:=by simpa using F
   rw[ve l]at i;refine gE rfl (B (k+1,P) d (by show _-(k+1)<_-k;omega) ?_);subst E;simp only;rw[i,J];refine cm rfl rfl ?_ rfl ?_ rfl ⟨rfl,?_⟩
   .show((a.map Ending.enc).all (okD 148 _)&&((q.map fun _=>D.bool true).all (plain 4)&&((q.map Ending.enc).all (okD 148 _)&&true)))=true;rw[rows_ok cX,rows_ok cX,ae (fun _=>rfl)];rfl
   .first
     |rfl
     |exact zX (fun r:Hm=>([none,none,none,none,(fun _=>none) q,some (.row r 6)]:RU)) (gx lD _ q)
   first
    |exact HasB.of ⟨⟨rfl,rfl⟩,⟨aU rfl (ae cX _),rfl⟩,⟨aU rfl (ae cX _),rfl⟩,⟨bv rfl (jo _ _),rfl⟩,⟨bv rfl f,rfl⟩,⟨bv rfl g,rfl⟩,tr⟩
    |exact HasB.of ⟨⟨rfl,rfl⟩,⟨aU rfl (ae cX _),rfl⟩,⟨bv rfl (jo _ _),rfl⟩,⟨bv rfl f,rfl⟩,⟨bv rfl g,rfl⟩,tr⟩
  rw[af]at e;obtain rfl:k=a.length:=by omega
  clear B;rw[zH];refine gE rfl (gg rfl (bd rfl rfl ?_))
  first|exact u _ _ (HasB.of ⟨⟨rfl,rfl⟩,⟨rfl,rfl⟩,⟨rfl,rfl⟩,⟨rfl,rfl⟩,⟨rfl,rfl⟩,tr⟩) |exact v _ _ (HasB.of ⟨⟨rfl,rfl⟩,⟨rfl,rfl⟩,⟨rfl,rfl⟩,⟨rfl,rfl⟩,⟨rfl,rfl⟩,tr⟩)
def ListE (n:Nat)(d:D):Prop:=∃(L:Rp) (e:Int),d=.tup [ac L,.int .i64 e]/\L.length<=n
theorem WA (b:Bed)(c:Rp)(a:Fv)(hp:a.length<=60):∃d,PU 188 [b.enc,ac c,aY a]=some d/\ListE 30000000 d:=by
 refine jh rfl ?_;obtain⟨bl,I,⟨rx,ry⟩⟩:=b;refine jA rfl (tM c) ?_;generalize iM c=t;obtain⟨⟨t,o,J,K⟩,O⟩:=t;refine jC rfl (fun e=>?_) (fun e=>?_)
 .exact gg rfl (bt rfl rfl rfl tr ⟨[],O,rfl,by simp⟩)
 refine gg rfl ?_;generalize IntKind.i64.wrap (0-t)=f at*;generalize IntKind.i64.wrap (0-o)=g at*;generalize IntKind.i64.wrap (IntKind.i64.wrap (I-o)-K)=h at*;refine cf rfl rfl (add64 () [⟨f,g⟩,⟨f,h⟩] (by simp) (HasB.of ⟨⟨rfl,rfl⟩,⟨rfl,rfl⟩,tr⟩) ?_);intro h' z' u;have w:=jg ([]:Rp) [⟨f,g⟩,⟨f,h⟩];generalize aC ([]:Rp) [⟨f,g⟩,⟨f,h⟩]=l at*;simp only[yf,yM]at w;obtain⟨⟨h1,rfl⟩,z1,rfl⟩:=u;refine gg rfl ?_;rw[zA]
 refine aw (S:=fun x:Nat×Rp=>([ac c,.int .i64 f,.int .i64 g,.int .i64 h,.ptr 4 0 0,aY a,aa a.length,aa x.1,.bad,.bad],[none,none,none,none,some (.row [.agg [.mref 8,.ref 9 0 x.2.length]] 2),none,none,none,mpB Spot.enc x.2,some (.row (x.2.map Spot.enc) 2)],zz10))
  (C:=fun x=>x.1<=a.length/\x.2.length<=2+x.1*484128) (m:=fun x=>a.length-x.1) (0,l) ⟨zB _,by grind⟩ (by omega) ?_ ?_
 .refine dN rfl rfl ?_ rfl ?_ rfl rfl
  .show((l.map fun _=>D.bool true).all (plain 4)&&((l.map Spot.enc).all (okD 0 _)&&true))=true;rw[rows_ok am,ae (fun _=>rfl)];rfl
  exact zX (fun r:Hm=>([none,none,none,none,some (.row [.agg [.mref 8,.ref 9 0 l.length]] 2),none,none,none,mpB Spot.enc l,some (.row r 2)]:RU)) (gx gJ _ l)
 rintro⟨k,L⟩ ⟨P,R⟩ N F;simp only at P R F⊢;refine jC rfl (fun G=>?_) (fun G=>?_)
 .rw[ad]at G;have q:k<a.length:=by omega
  have T:=wS (n:=k);have z:=kw q;generalize plg a k=p at*;obtain⟨_,A,V,ev,rfl,hV⟩:=Sd p c;refine jX k rfl rfl z rfl (jA rfl A (jC rfl (fun U=>?_) (fun U=>?_)))
  .exact gE rfl (gg rfl (bt rfl rfl rfl tr ⟨[],ev,rfl,by simp⟩))
  refine gg rfl ?_;rw[zA]
  refine aw (S:=fun x:Nat×Rp=>([ac c,.int .i64 f,.int .i64 g,.int .i64 h,.ptr 4 0 0,aY a,aa a.length,aa k,ac V,aa V.length,aa x.1,.bad,.bad],[none,none,none,none,some (.row [.agg [.mref 11,.ref 12 0 x.2.length]] 2),none,none,none,none,none,none,mpB Spot.enc x.2,some (.row (x.2.map Spot.enc) 2)],zz13))
   (C:=fun x=>x.1<=V.length/\x.2.length<=2+k*484128+4*x.1) (m:=fun x=>V.length-x.1) (0,L) ⟨zB _,by omega⟩ (by omega) ?_ ?_
  .refine dN rfl rfl ?_ rfl ?_ rfl rfl
   .show((L.map fun _=>D.bool true).all (plain 4)&&((L.map Spot.enc).all (okD 0 _)&&true))=true;rw[rows_ok am,ae (fun _=>rfl)];rfl
   exact zX (fun r:Hm=>([none,none,none,none,some (.row [.agg [.mref 11,.ref 12 0 L.length]] 2),none,none,none,none,none,none,mpB Spot.enc L,some (.row r 2)]:RU)) (gx gJ _ L)
  rintro⟨j,M⟩ ⟨W,X⟩ N2 s;simp only at W X s⊢;refine jC rfl (fun H=>?_) (fun H=>?_)
  .rw[ad]at H;have i:j<V.length:=by omega
   have Y:=wS (n:=j);have B:=aZ i;generalize pt V j=v at*;have E:=jg M [v,⟨v.x,g⟩,⟨v.x,h⟩,⟨f,v.y⟩];simp only[yM,yf]at E;refine jX j rfl rfl B rfl (gg rfl (cf rfl rfl ?_));have Z:(j+1)<=V.length/\(aC M [v,⟨v.x,g⟩,⟨v.x,h⟩,⟨f,v.y⟩]).length<=2+k*484128+4*(j+1):=⟨i,by omega⟩;refine add159 M [v,⟨v.x,g⟩,⟨v.x,h⟩,⟨f,v.y⟩] (by grind) (HasB.of ⟨⟨rfl,rfl⟩,⟨rfl,rfl⟩,⟨rfl,rfl⟩,⟨rfl,rfl⟩,tr⟩) ?_ ?_
   all_goals
    intro h' z' u;generalize aC M [v,⟨v.x,g⟩,⟨v.x,h⟩,⟨f,v.y⟩]=Q at*;obtain⟨⟨h2,rfl⟩,z2,rfl⟩:=u;refine gE rfl (s (j+1,Q) Z (by show _-(j+1)<_-j;omega) ?_);rw[show aa (((j+1,Q):Nat×Rp).1:Int)=aa (IntKind.i64.wrap ((j:Int)+1))by rw[Y]];refine dN rfl rfl ?_ rfl ?_ rfl rfl
    .show((Q.map fun _=>D.bool true).all (plain 4)&&((Q.map Spot.enc).all (okD 0 _)&&true))=true;rw[rows_ok am,ae (fun _=>rfl)];rfl
    exact zX (fun r:Hm=>([none,none,none,none,some (.row [.agg [.mref 11,.ref 12 0 Q.length]] 2),none,none,none,none,none,none,mpB Spot.enc Q,some (.row r 2)]:RU)) (gx gJ _ Q)
  refine gE rfl (gE rfl (F (k+1,M) ⟨q,by grind⟩ (by omega) ?_));rw[show aa (((k+1,M):Nat×Rp).1:Int)=aa (IntKind.i64.wrap ((k:Int)+1))by rw[T]];refine dN rfl rfl ?_ rfl ?_ rfl rfl
  .show((M.map fun _=>D.bool true).all (plain 4)&&((M.map Spot.enc).all (okD 0 _)&&true))=true;rw[rows_ok am,ae (fun _=>rfl)];rfl
  exact zX (fun r:Hm=>([none,none,none,none,some (.row [.agg [.mref 8,.ref 9 0 M.length]] 2),none,none,none,mpB Spot.enc M,some (.row r 2)]:RU)) (gx gJ _ M)
 refine gE rfl (gg rfl (bt rfl rfl rfl ⟨bK (by simp) (bF fh _),tr⟩ ⟨L,0,?_,by omega⟩));rw[bZ (by simp)];rfl
def mapV (id:Nat)(L:Rp):D:=match L with|[]=> .opq (.map none) |_::_=> .mref id
def mapK (L:Rp):Option Blk:=match L with|[]=>none|_::_=>mpB Spot.enc L
theorem C1 {id:Nat}{L:Rp}(h:L≠[]):mapV id L=.mref id:=by
 cases L with
 |nil=>grind
 |cons x L=>rfl
theorem DM {L:Rp}(h:L≠[]):mapK L=mpB Spot.enc L:=by
 cases L with
 |nil=>grind
 |cons x L=>rfl
theorem vj {α:Type} [DecidableEq α](L:List α)(x:α):aC L [x]≠[]:=by
 grind[aC]
theorem Oc (b:Bed)(s:Shp)(t:Turn)(i:Rp)(f:Fv)(J:f.length<=60):∃d,PU 141 [b.enc,s.enc,t.enc,ac i,aY f]=some d/\ListE 30000000 d:=by
 obtain⟨_,p,V,ev,rfl,U⟩:=WA b i f J;refine jh rfl (jA rfl p (jC rfl (fun e=>?_) (fun e=>?_)))
 .exact gg rfl (bt rfl rfl rfl tr ⟨[],ev,rfl,by simp⟩)
 clear p;refine gg rfl ?_;rw[zA]
 refine aw (S:=fun x:Nat×Rp=>([.ptr 0 0 0,.ptr 1 0 0,.ptr 2 0 0,.ptr 3 0 0,ac V,aa V.length,aa x.1,.bad,.bad],[some (.row [b.enc] 4),some (.row [s.enc] 5),some (.row [t.enc] 2),some (.row [.agg [mapV 7 x.2,.ref 8 0 x.2.length]] 2),none,none,none,mapK x.2,some (.row (x.2.map Spot.enc) 2)],zz9))
  (C:=fun x=>x.1<=V.length/\x.2.length<=x.1) (m:=fun x=>V.length-x.1) (0,[]) ⟨zB _,zD _⟩ (by omega) ?_ ?_
 .refine dN rfl rfl rfl rfl rfl rfl rfl
 rintro⟨k,L⟩ ⟨K,O⟩ N q;simp only at K O q⊢;have rnd:∀(g:k<V.length),k+1<=V.length:=fun h=>h
 cases L with
 |nil=>
  simp only[mapV,mapK];refine jC rfl (fun u=>?_) (fun u=>?_)
  .rw[ad]at u;have g:k<V.length:=by omega
   have z:=wS (n:=k);have o:=aZ g;generalize pt V k=v at*;have j:=F6 b.rep s t v;generalize rB b.rep s t v=A at j;obtain⟨a,ok⟩:=A;have w:aa (((k+1:Nat)):Int)=aa (IntKind.i64.wrap ((k:Int)+1)):=by rw[z]
   have y:=vj (([]:Rp)) a;have B:=jg (([]:Rp)) [a];have E:k+1<=V.length/\(aC (([]:Rp)) [a]).length<=k+1:=⟨g,by grind⟩;refine jX k rfl rfl o rfl (jA rfl j (jC rfl (fun F=>?_) (fun F=>?_)))
   .refine gg rfl (cf rfl rfl (add58n (some (.row [b.enc] 4)) rfl (some (.row [s.enc] 5)) rfl (some (.row [t.enc] 2)) rfl [a] (by simp) (HasB.of ⟨⟨rfl,rfl⟩,⟨rfl,rfl⟩,⟨rfl,rfl⟩,⟨rfl,rfl⟩,⟨rfl,rfl⟩,⟨rfl,rfl⟩,tr⟩) ?_ ?_))
    all_goals
     intro h' z' G;generalize aC (([]:Rp)) [a]=Q at*;obtain⟨⟨P,rfl⟩,R,rfl⟩:=G;refine gE rfl (q (k+1,Q) E (by show _-(k+1)<_-k;omega) ?_);simp only[C1 y,DM y];rw[w];refine dN rfl rfl ?_ rfl ?_ rfl rfl
     .show((Q.map fun _=>D.bool true).all (plain 4)&&((Q.map Spot.enc).all (okD 0 _)&&true))=true;rw[rows_ok am,ae (fun _=>rfl)];rfl
     exact zX (fun r:Hm=>([some (.row [b.enc] 4),some (.row [s.enc] 5),some (.row [t.enc] 2),some (.row [.agg [.mref 7,.ref 8 0 Q.length]] 2),none,none,none,mpB Spot.enc Q,some (.row r 2)]:RU)) (gx gJ _ Q)
   refine gE rfl ?_
   exact q (k+1,[]) ⟨g,by simp⟩ (by omega) (by
    rw[w]
    exact dN rfl rfl rfl rfl rfl rfl rfl)
  refine gE rfl (gg rfl (r8 rfl rfl (by trivial) (tT (c:=cQ) (enc:=Spot.enc) (l:=([]:Rp)) DL uv cmpSp_ord.refl cmpSp_ord.anti' am (fun _=>rfl) (pN cmpSp_ord (([]:Rp))) (by simp) rfl rfl) ?_));have H:(dw cQ (([]:Rp))).length=(([]:Rp)).length:=qM;refine gg rfl (bt rfl rfl rfl ⟨bK (by rfl) (bF fh _),tr⟩ ⟨dw cQ (([]:Rp)),0,?_,by omega⟩);rfl
 |cons x L=>
  simp only[mapV,mapK];generalize T:x::L=M at*;have I:M≠[]:=by grind
  refine jC rfl (fun u=>?_) (fun u=>?_)
  .rw[ad]at u;have g:k<V.length:=by omega
   have z:=wS (n:=k);have o:=aZ g;generalize pt V k=v at*;have j:=F6 b.rep s t v;generalize rB b.rep s t v=A at j;obtain⟨a,ok⟩:=A;have w:aa (((k+1:Nat)):Int)=aa (IntKind.i64.wrap ((k:Int)+1)):=by rw[z]
   have y:=vj (M) a;have B:=jg (M) [a];have E:k+1<=V.length/\(aC (M) [a]).length<=k+1:=⟨g,by grind⟩;refine jX k rfl rfl o rfl (jA rfl j (jC rfl (fun F=>?_) (fun F=>?_)))
   .refine gg rfl (cf rfl rfl (add58r (some (.row [b.enc] 4)) rfl (some (.row [s.enc] 5)) rfl (some (.row [t.enc] 2)) rfl M [a] (by grind) (HasB.of ⟨⟨rfl,rfl⟩,⟨rfl,rfl⟩,⟨rfl,rfl⟩,⟨rfl,rfl⟩,⟨rfl,rfl⟩,⟨rfl,rfl⟩,⟨rfl,rfl⟩,tr⟩) ?_ ?_))
    all_goals
     intro h' z' G;generalize aC (M) [a]=Q at*;obtain⟨⟨P,rfl⟩,R,rfl⟩:=G;refine gE rfl (q (k+1,Q) E (by show _-(k+1)<_-k;omega) ?_);simp only[C1 y,DM y];rw[w];refine dN rfl rfl ?_ rfl ?_ rfl rfl
     .show((Q.map fun _=>D.bool true).all (plain 4)&&((Q.map Spot.enc).all (okD 0 _)&&true))=true;rw[rows_ok am,ae (fun _=>rfl)];rfl
     exact zX (fun r:Hm=>([some (.row [b.enc] 4),some (.row [s.enc] 5),some (.row [t.enc] 2),some (.row [.agg [.mref 7,.ref 8 0 Q.length]] 2),none,none,none,mpB Spot.enc Q,some (.row r 2)]:RU)) (gx gJ _ Q)
   refine gE rfl (q (k+1,M) ⟨g,by grind⟩ (by omega) ?_);simp only[C1 I,DM I];rw[w];refine dN rfl rfl ?_ rfl ?_ rfl rfl
   .show((M.map fun _=>D.bool true).all (plain 4)&&((M.map Spot.enc).all (okD 0 _)&&true))=true;rw[rows_ok am,ae (fun _=>rfl)];rfl
   exact zX (fun r:Hm=>([some (.row [b.enc] 4),some (.row [s.enc] 5),some (.row [t.enc] 2),some (.row [.agg [.mref 7,.ref 8 0 M.length]] 2),none,none,none,mpB Spot.enc M,some (.row r 2)]:RU)) (gx gJ _ M)
  refine gE rfl (gg rfl (r8 rfl rfl (by trivial) (tT (c:=cQ) (enc:=Spot.enc) (l:=M) DL uv cmpSp_ord.refl cmpSp_ord.anti' am (fun _=>rfl) (pN cmpSp_ord (M)) (by omega) rfl rfl) ?_));have H:(dw cQ (M)).length=(M).length:=qM;refine gg rfl (bt rfl rfl rfl ⟨bK (by grind) (bF fh _),tr⟩ ⟨dw cQ (M),0,?_,by omega⟩);rw[bZ (by grind)];rfl
def rW (id:Nat)(L:List Ending):D:=match L with|[]=> .opq (.map none) |_::_=> .mref id
def rm (L:List Ending):Option Blk:=match L with|[]=>none|_::_=>mpB Ending.enc L
theorem pK {id:Nat}{L:List Ending}(h:L≠[]):rW id L=.mref id:=by
 cases L with
 |nil=>grind
 |cons x L=>rfl
theorem rI {L:List Ending}(h:L≠[]):rm L=mpB Ending.enc L:=by
 cases L with
 |nil=>grind
 |cons x L=>rfl
theorem Xf {b:Bed}{shs:List Shp}{ps:List Put2}{i:Int}{t:Turn}(h:(jE b shs ps i t).2.2=0):0<=i/\i<shs.length:=by
 unfold jE at h;split at h
 grind
 .split at h
  grind
  .next g=>
   unfold bu at g;split at g
   omega;simp_all[nh]
theorem Wr (b:Bed)(shs:List Shp)(ps:List Put2)(i:Int)(t:Turn):(jE b shs ps i t).2.1.length<=ps.length:=by
 grind[jE]
def tno (l:List Turn)(i:Nat):Turn:=l.getD i ⟨false,0⟩
theorem NH {l:List Turn}{i:Nat}(h:i<l.length):(l.map Turn.enc)[i]?=some (tno l i).enc:=by grind[tno]
def StepE (shs:List Shp)(i:Int)(d:D):Prop:=∃(p:Put2) (e:Int),d=.tup [p.enc,.int .i64 e]/\(e=0->p.shape=i/\0<=i/\i<shs.length)
theorem lS:∀p,bE p=0->PU 74 [ac p]=some (lW (eD p))/\TriB (eD p):=fun p b=>by
 have h:=C8 p;unfold mo at h;rw[ve b]at h;have a:=Nq b;refine⟨h,by have:=a.len;omega,fun t c=>⟨okPL (a.wi t c),by have:=a.t3 t c;omega⟩⟩
theorem IL {α:Type} [DecidableEq α](L a:List α):∀x,x∈aC L a->x∈L\/x∈a:=by
 unfold aC
 induction a generalizing L with
 |nil=>simp
 |cons y a b=>
  grind
theorem CV (l:List Ending)(h0:0<l.length):∀k,k<=l.length->0<k->ij l k∈l
 |k+1,a,_=>by
  have b:en l k∈l:=by
   grind[en]
  unfold ij;split
  omega
  .next g=>
   refine CV l h0 k (by omega) ?_;omega
theorem SS (b:Bed)(shs:List Shp)(ps:List Put2)(i:Int)(b2:ps.length<=60):∃d,PU 94 [b.enc,cq shs,cW ps,.int .i64 i]=some d/\StepE shs i d:=by
 have g:=Qp b shs ps i ⟨false,0⟩ (by omega);have X:=Wr b shs ps i ⟨false,0⟩;have F:=Xf (b:=b) (shs:=shs) (ps:=ps) (i:=i) (t:=⟨false,0⟩);generalize jE b shs ps i ⟨false,0⟩=pr at*;obtain⟨T0,a,e0⟩:=pr;simp only[Fq]at g X F;refine jh rfl (jA rfl g (jC rfl (fun e=>?_) (fun e=>?_)))
 .rw[aO]at e;exact gg rfl (bt rfl rfl rfl tr ⟨⟨0,⟨false,0⟩,⟨0,0⟩⟩,e0,rfl,fun h=>absurd h e⟩)
 rw[aE]at e;have hi:=F e;clear g F;obtain⟨n,rfl⟩:∃n:Nat,i=n:=⟨i.toNat,by omega⟩;have hn:n<shs.length:=by omega
 have G:=uj hn;generalize shp shs n=s at*;refine jX n rfl rfl G rfl (jA rfl (All_PU s.grain false) ?_);have b5:=Mr s.grain false 4;generalize lL s.grain false 4=q at*;refine gg rfl ?_;rw[zA]
 refine aw (S:=fun x:Nat×List Ending=>([cq shs,cW ps,aa n,.ptr 3 0 0,.ptr 4 0 0,aY a,.ptr 6 0 0,.lst (q.map Turn.enc),aa q.length,aa x.1,.bad,.bad],[none,none,none,some (.row [b.enc] 4),some (.row [Put2.enc ⟨0,⟨false,0⟩,⟨0,0⟩⟩] 5),none,some (.row [.agg [rW 10 x.2,.ref 11 0 x.2.length]] 2),none,none,none,rm x.2,some (.row (x.2.map Ending.enc) 6)],zz12))
  (C:=fun x=>x.1<=q.length/\x.2.length<=x.1/\∀e∈x.2,e.put.shape=n) (m:=fun x=>q.length-x.1) (0,[]) ⟨zB _,zD _,by simp⟩ (by omega) ?_ ?_
 .exact dN rfl rfl rfl rfl rfl rfl rfl
 rintro⟨k,L⟩ ⟨hk,hL,l⟩ N Y;simp only at hk hL l Y⊢
 cases L with
 |nil=>
  simp only[rW,rm];refine jC rfl (fun Z=>?_) (fun Z=>?_)
  .rw[ad]at Z;have o:k<q.length:=by omega
   have wk:=wS (n:=k);have H:=NH o;generalize tno q k=t at*;have u:=mL shs ⟨n,t,⟨0,0⟩⟩;generalize bu shs ⟨n,t,⟨0,0⟩⟩=pp at u;obtain⟨T,e1⟩:=pp;refine jX k rfl rfl H rfl (jA rfl u (jC rfl (fun I=>?_) (fun I=>?_)))
   .rw[aO]at I;exact gE rfl (gg rfl (bt rfl rfl rfl tr ⟨⟨0,⟨false,0⟩,⟨0,0⟩⟩,e1,rfl,fun h=>absurd h I⟩))
   have y:=tM T;generalize iM T=p at y;obtain⟨p,e2⟩:=p;refine jA rfl y (jC rfl (fun J=>?_) (fun J=>?_))
   .rw[aO]at J;exact gE rfl (gg rfl (bt rfl rfl rfl tr ⟨⟨0,⟨false,0⟩,⟨0,0⟩⟩,e2,rfl,fun h=>absurd h J⟩))
   obtain⟨_,K,V,e6,rfl,hV⟩:=Oc b s t T a (by omega);refine jX n rfl rfl G rfl (jA rfl K (jC rfl (fun O=>?_) (fun O=>?_)))
   .rw[aO]at O;exact gE rfl (gg rfl (bt rfl rfl rfl tr ⟨⟨0,⟨false,0⟩,⟨0,0⟩⟩,e6,rfl,fun h=>absurd h O⟩))
   refine gg rfl ?_;rw[zA]
   refine aw (S:=fun j:Nat=>([cq shs,cW ps,aa n,.ptr 3 0 0,.ptr 4 0 0,aY a,.ptr 6 0 0,.ptr 7 0 0,.ptr 8 0 0,.lst (q.map Turn.enc),aa q.length,aa k,ac V,aa V.length,aa j,.bad,.bad],[none,none,none,some (.row [b.enc] 4),some (.row [Put2.enc ⟨0,⟨false,0⟩,⟨0,0⟩⟩] 5),none,some (.row [.agg [rW 15 ([]:List Ending),.ref 16 0 ([]:List Ending).length]] 2),some (.row [t.enc] 2),some (.row [p.enc] 4),none,none,none,none,none,none,rm ([]:List Ending),some (.row (([]:List Ending).map Ending.enc) 6)],zz17))
    (C:=fun j=>j<=V.length) (m:=fun j=>V.length-j) 0 (zB _) (by omega) ?_ ?_
   .exact dN rfl rfl rfl rfl rfl rfl rfl
   rintro j hj N2 B;refine jC rfl (fun e8=>?_) (fun e8=>?_)
   .rw[ad]at e8;have c:j<V.length:=by omega
    have wj:=wS (n:=j);have P:=aZ c;generalize pt V j=v at*;have z:=DC eD lS b shs ps ⟨n,t,v⟩ (by omega);generalize kg eD b shs ps ⟨n,t,v⟩=fe at z;refine jX j rfl rfl P rfl (jA rfl z (jC rfl (fun e9=>?_) (fun e9=>?_)))
    .refine gg rfl ?_;generalize IntKind.i64.wrap (IntKind.i64.wrap (v.x+p.x)+p.w)=A at*;refine cf rfl rfl (TN (some (.row [b.enc] 4)) rfl (some (.row [Put2.enc ⟨0,⟨false,0⟩,⟨0,0⟩⟩] 5)) rfl [⟨⟨n,t,v⟩,A⟩] (by simp) (HasB.of ⟨⟨rfl,rfl⟩,⟨rfl,rfl⟩,⟨rfl,rfl⟩,⟨rfl,rfl⟩,⟨rfl,rfl⟩,tr⟩) ?_ ?_)
     all_goals
      intro h' z' hB;have R:=IL (([]:List Ending)) [⟨⟨n,t,v⟩,A⟩];have U:=jg (([]:List Ending)) [⟨⟨n,t,v⟩,A⟩];have hQ:=vj (([]:List Ending)) (⟨⟨n,t,v⟩,A⟩:Ending);generalize aC (([]:List Ending)) [⟨⟨n,t,v⟩,A⟩]=Q at*;obtain⟨⟨h2,rfl⟩,z2,rfl⟩:=hB;have W:aa (((k+1:Nat)):Int)=aa (IntKind.i64.wrap ((k:Int)+1)):=by rw[wk]
      refine gE rfl (gE rfl (Y (k+1,Q) ⟨o,by simp only[yM,yf]at U hL;show Q.length<=_;omega,fun e he=>?_⟩ (by show _-(k+1)<_-k;omega) ?_))
      .rcases R e he with h|h
       .exact l e h
       rw[z8]at h;rw[h]
      simp only[pK hQ,rI hQ];rw[W];refine dN rfl rfl ?_ rfl ?_ rfl rfl
      .show((Q.map fun _=>D.bool true).all (plain 4)&&((Q.map Ending.enc).all (okD 0 _)&&true))=true;rw[rows_ok cX,ae (fun _=>rfl)];rfl
      exact zX (fun r:Hm=>([none,none,none,some (.row [b.enc] 4),some (.row [Put2.enc ⟨0,⟨false,0⟩,⟨0,0⟩⟩] 5),none,some (.row [.agg [.mref 10,.ref 11 0 Q.length]] 2),none,none,none,mpB Ending.enc Q,some (.row r 6)]:RU)) (gx lD _ Q)
    refine gE rfl (B (j+1) c (by omega) ?_);rw[<-wj];exact dN rfl rfl rfl rfl rfl rfl rfl
   refine gE rfl (gE rfl (Y (k+1,([]:List Ending)) ⟨o,by simp,l⟩ (by omega) ?_));have W:aa (((k+1:Nat)):Int)=aa (IntKind.i64.wrap ((k:Int)+1)):=by rw[wk]
   rw[W];exact dN rfl rfl rfl rfl rfl rfl rfl
  refine gE rfl (gg rfl (gk (r:=.tup [(ij (([]:List Ending)) (([]:List Ending)).length).enc,.bool (decide (0<(([]:List Ending)).length))]) rfl rfl ⟨bK (by simp) (bF L5 _),tr⟩ (by exact Kr (([]:List Ending)) (by omega)) rfl ?_));refine jC rfl (fun f=>?_) (fun f=>?_)
  .exact gg rfl (bt rfl rfl rfl tr ⟨⟨0,⟨false,0⟩,⟨0,0⟩⟩,18,rfl,fun h=>by omega⟩)
  refine gg rfl (bt rfl rfl rfl tr ⟨(ij (([]:List Ending)) (([]:List Ending)).length).put,0,rfl,fun _=>⟨l _ (CV (([]:List Ending)) (by grind) _ (zD _) (by grind)),hi.1,hi.2⟩⟩)
 |cons x L=>
  simp only[rW,rm];generalize c5:x::L=M at*;have E:M≠[]:=by grind
  refine jC rfl (fun Z=>?_) (fun Z=>?_)
  .rw[ad]at Z;have o:k<q.length:=by omega
   have wk:=wS (n:=k);have H:=NH o;generalize tno q k=t at*;have u:=mL shs ⟨n,t,⟨0,0⟩⟩;generalize bu shs ⟨n,t,⟨0,0⟩⟩=pp at u;obtain⟨T,e1⟩:=pp;refine jX k rfl rfl H rfl (jA rfl u (jC rfl (fun I=>?_) (fun I=>?_)))
   .rw[aO]at I;exact gE rfl (gg rfl (bt rfl rfl rfl tr ⟨⟨0,⟨false,0⟩,⟨0,0⟩⟩,e1,rfl,fun h=>absurd h I⟩))
   have y:=tM T;generalize iM T=p at y;obtain⟨p,e2⟩:=p;refine jA rfl y (jC rfl (fun J=>?_) (fun J=>?_))
   .rw[aO]at J;exact gE rfl (gg rfl (bt rfl rfl rfl tr ⟨⟨0,⟨false,0⟩,⟨0,0⟩⟩,e2,rfl,fun h=>absurd h J⟩))
   obtain⟨_,K,V,e6,rfl,hV⟩:=Oc b s t T a (by omega);refine jX n rfl rfl G rfl (jA rfl K (jC rfl (fun O=>?_) (fun O=>?_)))
   .rw[aO]at O;exact gE rfl (gg rfl (bt rfl rfl rfl tr ⟨⟨0,⟨false,0⟩,⟨0,0⟩⟩,e6,rfl,fun h=>absurd h O⟩))
   refine gg rfl ?_;rw[zA]
   refine aw (S:=fun j:Nat=>([cq shs,cW ps,aa n,.ptr 3 0 0,.ptr 4 0 0,aY a,.ptr 6 0 0,.ptr 7 0 0,.ptr 8 0 0,.lst (q.map Turn.enc),aa q.length,aa k,ac V,aa V.length,aa j,.bad,.bad],[none,none,none,some (.row [b.enc] 4),some (.row [Put2.enc ⟨0,⟨false,0⟩,⟨0,0⟩⟩] 5),none,some (.row [.agg [rW 15 M,.ref 16 0 M.length]] 2),some (.row [t.enc] 2),some (.row [p.enc] 4),none,none,none,none,none,none,rm M,some (.row (M.map Ending.enc) 6)],zz17))
    (C:=fun j=>j<=V.length) (m:=fun j=>V.length-j) 0 (zB _) (by omega) ?_ ?_
   .rw[pK E,rI E];refine dN rfl rfl ?_ rfl ?_ rfl rfl
    .show((M.map fun _=>D.bool true).all (plain 4)&&((M.map Ending.enc).all (okD 0 _)&&true))=true;rw[rows_ok cX,ae (fun _=>rfl)];rfl
    exact zX (fun r:Hm=>([none,none,none,some (.row [b.enc] 4),some (.row [Put2.enc ⟨0,⟨false,0⟩,⟨0,0⟩⟩] 5),none,some (.row [.agg [.mref 15,.ref 16 0 M.length]] 2),some (.row [t.enc] 2),some (.row [p.enc] 4),none,none,none,none,none,none,mpB Ending.enc M,some (.row r 6)]:RU)) (gx lD _ M)
   rintro j hj N2 B;refine jC rfl (fun e8=>?_) (fun e8=>?_)
   .rw[ad]at e8;have c:j<V.length:=by omega
    have wj:=wS (n:=j);have P:=aZ c;generalize pt V j=v at*;have z:=DC eD lS b shs ps ⟨n,t,v⟩ (by omega);generalize kg eD b shs ps ⟨n,t,v⟩=fe at z;refine jX j rfl rfl P rfl (jA rfl z (jC rfl (fun e9=>?_) (fun e9=>?_)))
    .refine gg rfl ?_;generalize IntKind.i64.wrap (IntKind.i64.wrap (v.x+p.x)+p.w)=A at*;refine cf rfl rfl ?_;rw[pK E,rI E];refine T5 (some (.row [b.enc] 4)) rfl (some (.row [Put2.enc ⟨0,⟨false,0⟩,⟨0,0⟩⟩] 5)) rfl M [⟨⟨n,t,v⟩,A⟩] (by grind) (HasB.of ⟨⟨rfl,rfl⟩,⟨rfl,rfl⟩,⟨rfl,rfl⟩,⟨rfl,rfl⟩,⟨rfl,rfl⟩,⟨rfl,rfl⟩,tr⟩) ?_ ?_
     all_goals
      intro h' z' hB;have R:=IL (M) [⟨⟨n,t,v⟩,A⟩];have U:=jg (M) [⟨⟨n,t,v⟩,A⟩];have hQ:=vj (M) (⟨⟨n,t,v⟩,A⟩:Ending);generalize aC (M) [⟨⟨n,t,v⟩,A⟩]=Q at*;obtain⟨⟨h2,rfl⟩,z2,rfl⟩:=hB;have W:aa (((k+1:Nat)):Int)=aa (IntKind.i64.wrap ((k:Int)+1)):=by rw[wk]
      refine gE rfl (gE rfl (Y (k+1,Q) ⟨o,by simp only[yM,yf]at U hL;show Q.length<=_;omega,fun e he=>?_⟩ (by show _-(k+1)<_-k;omega) ?_))
      .rcases R e he with h|h
       .exact l e h
       rw[z8]at h;rw[h]
      simp only[pK hQ,rI hQ];rw[W];refine dN rfl rfl ?_ rfl ?_ rfl rfl
      .show((Q.map fun _=>D.bool true).all (plain 4)&&((Q.map Ending.enc).all (okD 0 _)&&true))=true;rw[rows_ok cX,ae (fun _=>rfl)];rfl
      exact zX (fun r:Hm=>([none,none,none,some (.row [b.enc] 4),some (.row [Put2.enc ⟨0,⟨false,0⟩,⟨0,0⟩⟩] 5),none,some (.row [.agg [.mref 10,.ref 11 0 Q.length]] 2),none,none,none,mpB Ending.enc Q,some (.row r 6)]:RU)) (gx lD _ Q)
    refine gE rfl (B (j+1) c (by omega) ?_);rw[<-wj];rw[pK E,rI E];refine dN rfl rfl ?_ rfl ?_ rfl rfl
    .show((M.map fun _=>D.bool true).all (plain 4)&&((M.map Ending.enc).all (okD 0 _)&&true))=true;rw[rows_ok cX,ae (fun _=>rfl)];rfl
    exact zX (fun r:Hm=>([none,none,none,some (.row [b.enc] 4),some (.row [Put2.enc ⟨0,⟨false,0⟩,⟨0,0⟩⟩] 5),none,some (.row [.agg [.mref 15,.ref 16 0 M.length]] 2),some (.row [t.enc] 2),some (.row [p.enc] 4),none,none,none,none,none,none,mpB Ending.enc M,some (.row r 6)]:RU)) (gx lD _ M)
   clear B;refine gE rfl (gE rfl (Y (k+1,M) ⟨o,by grind,l⟩ (by omega) ?_));have W:aa (((k+1:Nat)):Int)=aa (IntKind.i64.wrap ((k:Int)+1)):=by rw[wk]
   simp only[pK E,rI E];rw[W];refine dN rfl rfl ?_ rfl ?_ rfl rfl
   .show((M.map fun _=>D.bool true).all (plain 4)&&((M.map Ending.enc).all (okD 0 _)&&true))=true;rw[rows_ok cX,ae (fun _=>rfl)];rfl
   exact zX (fun r:Hm=>([none,none,none,some (.row [b.enc] 4),some (.row [Put2.enc ⟨0,⟨false,0⟩,⟨0,0⟩⟩] 5),none,some (.row [.agg [.mref 10,.ref 11 0 M.length]] 2),none,none,none,mpB Ending.enc M,some (.row r 6)]:RU)) (gx lD _ M)
  refine gE rfl (gg rfl (gk (r:=.tup [(ij (M) (M).length).enc,.bool (decide (0<(M).length))]) rfl rfl ⟨bK (by simp) (bF L5 _),tr⟩ (by rw[bZ (by simp)];exact Kr (M) (by omega)) rfl ?_));refine jC rfl (fun f=>?_) (fun f=>?_)
  .exact gg rfl (bt rfl rfl rfl tr ⟨⟨0,⟨false,0⟩,⟨0,0⟩⟩,18,rfl,fun h=>by omega⟩)
  refine gg rfl (bt rfl rfl rfl tr ⟨(ij (M) (M).length).put,0,rfl,fun _=>⟨l _ (CV (M) (by grind) _ (zD _) (by grind)),hi.1,hi.2⟩⟩)
def RunE (shs:List Shp)(d:D):Prop:=∃(ps:List Put2) (e:Int),d=.tup [cW ps,.int .i64 e]/\ps.length<=60/\∀p∈ps,0<=p.shape/\p.shape<shs.length
def inr (l:List Int)(i:Nat):Int:=l.getD i 0
theorem Us {l:List Int}{i:Nat}(h:i<l.length):(l.map aa)[i]?=some (aa (inr l i)):=by grind[inr]
theorem Run_ex (b:Bed)(shs:List Shp)(a:List Int)(v:a.length<=100000):∃d,PU 55 [b.enc,cq shs,ints a]=some d/\RunE shs d:=by
 refine jh rfl (gg rfl ?_);rw[zA];refine an rfl (fun e=>?_) (fun e=>?_)
 .exact gg rfl (bt rfl rfl rfl tr ⟨[],5,rfl,by simp,by simp⟩)
 rw[af]at e;refine gg rfl ?_;rw[zA];refine aw (S:=fun x:Nat×List Put2=>([cq shs,.ptr 1 0 0,.ref 2 0 x.2.length,ints a,aa a.length,aa x.1],none::some (.row [b.enc] 4)::some (.row (x.2.map Put2.enc) 5)::nn3,zz6)) (C:=fun x=>x.1<=a.length/\x.2.length=x.1/\∀p∈x.2,0<=p.shape/\p.shape<shs.length) (m:=fun x=>a.length-x.1) (0,[]) ⟨zB _,rfl,by simp⟩ (by omega) ?_ ?_
 .exact ah rfl ⟨rfl,rfl,tr⟩ rfl
 rintro⟨k,L⟩ ⟨q,s,g⟩ N h;simp only at q s g h⊢;refine jC rfl (fun j=>?_) (fun j=>?_)
 .rw[ad]at j;have c:k<a.length:=by omega
  have t:=wS (n:=k);have f:=Us c;generalize inr a k=i at*;obtain⟨_,u,p,l,rfl,w⟩:=SS b shs L i (by omega);refine jX k rfl rfl f rfl (gg rfl (gk (r:=.tup [p.enc,.int .i64 l]) rfl rfl ⟨bK (by simp) (bF ZI _),tr⟩ (by rw[bZ (by simp)];trivial) rfl ?_));refine jC rfl (fun o=>?_) (fun o=>?_)
  .exact gE rfl (gg rfl (bt rfl rfl rfl tr ⟨[],l,rfl,by simp,by simp⟩))
  rw[aE]at o;refine gg rfl (bI rfl rfl rfl rfl rfl rfl (by simp) (zB _) (by grind[aK]) ?_);refine gE rfl (h (k+1,L++[p]) ⟨c,by grind,?_⟩ (by omega) (ah rfl ⟨rfl,?_,tr⟩ ?_));grind
  .rw[zY,ae ZF];rfl
  simp[ints,aa,t,Put2.enc];rfl
 refine gE rfl (gg rfl (bt rfl rfl rfl ⟨bK (by simp) (bF ZI _),tr⟩ ⟨L,0,?_,by omega,g⟩));rw[bZ (by simp)];rfl
section
variable {T:Tab}{sh:Shr}{nx0:Nat}{s:List Fr}{t:ai}{h:ab}{z:Frz}{nx:Nat}{q:Ex->ai->ab->Frz->Nat->Prop}
variable {base i:Nat}{res:List Nat}{g:Gd}{rest:List KOper}
theorem Hi {f:FuncId}{args:List X}{d:Hm}{a:List (Hm×Nat×Nat)}{r:D}{b id:Nat}(e:T.shared f=false)
 (j:nY (g.h base h) (args.map (·.ev t))=some (a,d)) (hr:gV a) (k:T.pu f d=some r) (l:noRef 4 r=false) (c:(args.map (·.ev t)).flatMap (aN (g.h base h) depth)=[id])
 (m:∀n,wpM T sh nx0 (.ops base res rest::s) .normal (upd t b r) h (upd z id n) nx q):
 wpM T sh nx0 (.ops base res (⟨i,some b,none,g,.callF f args⟩::rest)::s) .normal t h z nx q:=by
 refine bP ?_;simp only[kop,eQ,e];refine u7 j hr ?_;unfold mf;refine⟨r,k,?_⟩;simp only[iu,l,c];exact m _
theorem E6 {ids:Ke}{s a:St}{x:Nat×Nat}{l2:Live}(c:gu nx0 ids x.1 s=some a)(h3:gj nx0 ids a.heap a.tmps l2=true):∀{l1:Live},gj nx0 ids s.heap s.tmps l1=true->gD nx0 ids (l1++x::l2) s=some a
 |[],_=>by
  grind[gD,Ba]
 |y::l1,h1=>by
  rw[gj,zJ]at h1;have b:gD nx0 ids [y] s=some s:=Ba (by grind[gj]);rw[xN,gD];rw[gD]at b
  cases h:gu nx0 ids y.1 s with
  |none=>grind
  |some s'=>
   rw[h]at b;have:some s'=some s:=b;cases this;exact E6 c h3 h1.2
theorem flat3 {h:ab}{a b c:D}{id:Nat}(h1:aN h depth a=[])(d:aN h depth b=[])(h3:aN h depth c=[id]):[a,b,c].flatMap (aN h depth)=[id]:=by grind
theorem Vz {α:Type}{f:α->D}{l:List α}{ids:Ke}{x id esz a n e:Nat}{s:St}(c:∀x,dat 4 (f x)=true)(h1:bi (look s.tmps s.heap x)=some id)(d:s.heap id=some (.row [.ref a 0 n] esz))
 (h3:okD nx0 ids (.ref a 0 n)=false) (hr:s.heap a=some (.row (l.map f) e)) (g:n=l.length):
 gu nx0 ids x s=some ⟨s.tmps,upd s.heap id (some (.row [.lst (l.map f)] esz)),upd s.frz a (aV s.heap a),s.next⟩:=by
 have h:[D.ref a 0 n].mapM (jf s.heap depth)=some [.lst (l.map f)]:=by
  rw[xB,show jf s.heap depth (.ref a 0 n)=aG s.heap depth (.ref a 0 n)from rfl,nN (by decide) (Ig c hr g)];rfl
 have b:[D.ref a 0 n].flatMap (aN s.heap depth)=[a]:=by
  grind[I3]
 rw[rz h1 d (by grind) h,b];rfl
end
theorem B6 (x:Shp):dat 4 x.enc=true:=rfl
theorem DE {s:Sty}{sizes:List Int}(h:(bn s sizes).2.2=0):(bn s sizes).1.length=(bn s sizes).2.1.length:=by
 grind[bn]
def setP (P:List Plc)(p:Put2):List Plc:=P.set p.shape.toNat ⟨(db P p.shape.toNat).garment,(db P p.shape.toNat).use,(db P p.shape.toNat).copy,(db P p.shape.toNat).flip,p.turn.quarter,p.at_.x,p.at_.y⟩
def kT (P:List Plc)(ps:List Put2):Nat->List Plc
 |0=>P
 |k+1=>setP (kT P ps k) (pu2 ps k)
theorem R0 (P:List Plc)(p:Put2):(setP P p).length=P.length:=by simp[setP]
theorem AG (P:List Plc)(ps:List Put2):∀k,(kT P ps k).length=P.length
 |0=>rfl
 |k+1=>by rw[kT,R0,AG]
def q7:D:=.agg [.int .i64 0,.int .i64 0,.int .i64 0,.int .i64 0,.nilsl,.nilsl]
def mk0S:Mkr:=⟨0,0,⟨0,0⟩,[],[]⟩
def ordS (s:Sty)(sizes:List Int):List Int:=(ef (bn s sizes).1 (List.range (bn s sizes).1.length) (bn s sizes).1.length).map fun n=>((n:Nat):Int)
def EN (s:Sty)(b:Bed)(sizes:List Int)(d:D):Prop:=∃(m:Mkr) (e:Int),d=.tup [m.enc,.int .i64 e]/\
 (e=0->(bn s sizes).2.2=0/\∃ps:List Put2,PU 55 [b.enc,cq (bn s sizes).1,ints (ordS s sizes)]=some (.tup [cW ps,.int .i64 0])/\ps.length<=60/\
   (ob (bn s sizes).1 ps).2=0/\m=⟨(ob (bn s sizes).1 ps).1,b.width,b.rep,sizes,kT (bn s sizes).2.1 ps ps.length⟩)
theorem Hr {nx0:Nat}(ids:Ke)(x:Plc):du nx0 ids x.enc=x.enc:=rfl
theorem Fo {nx0:Nat}(ids:Ke)(x:Nat):du nx0 ids (aP x)=aP x:=rfl
def fT (n k:Nat):List Nat:=(List.range n).map fun i=>if i<k then i else 0
theorem WP (n:Nat):List.replicate n (D.int .i64 0)=(fT n 0).map aP:=by
 apply zp (by simp[fT]);intro i h1 a;simp[fT];rfl
theorem RD {n k:Nat}:((fT n k).map aP).set k (aP k)=(fT n (k+1)).map aP:=by
 apply zp (by simp[fT]);simp[fT];grind
theorem Vu (n:Nat):fT n n=List.range n:=by
 apply zp (by simp[fT]);grind[fT]
theorem Xc {n k:Nat}(h:k<n):((fT n k).map aP)[k]?=some (aP 0):=by grind[fT]
theorem VQ (s:Sty)(b:Bed)(sizes:List Int)(T:StyB s)(o:sizes.length<=100000)(U:(bn s sizes).1.length<=19):∃d,PU 21 [s.enc,b.enc,ints sizes]=some d/\EN s b sizes d:=by
 refine jh rfl (gg rfl (cf rfl rfl (RH b.enc q7 rfl rfl s sizes T o (HasB.of ⟨⟨rfl,rfl⟩,⟨rfl,rfl⟩,tr⟩) (fun q V r h' z' g=>?_) (fun q h' z' g=>?_))))
 .generalize (bn s sizes).2.2=B at*;simp at r;obtain⟨⟨h1,rfl⟩,W,rfl⟩:=g;rcases r with rfl|rfl|rfl|rfl|rfl
  all_goals
   refine jC rfl (fun e=>?_) (fun e=>absurd (aE.1 e) q);exact gg rfl (bt rfl rfl rfl tr ⟨mk0S,B,rfl,fun h=>absurd h q⟩)
 have X:=DE q;unfold EN ordS;rw[q];generalize (bn s sizes).1=S at*;generalize (bn s sizes).2.1=P at*;obtain⟨⟨h1,rfl⟩,W,rfl⟩:=g;refine jC rfl (fun e=>absurd (aO.1 e) (by simp)) (fun _=>?_);refine gg rfl (eu S.length rfl rfl rfl (by grind[aK]) ?_);rw[WP];refine gg rfl (aw (S:=fun k:Nat=>([ints sizes,.ptr 1 0 0,.ptr 2 0 0,.ptr 3 0 0,.ref 4 0 P.length,.ref 5 0 S.length,aa S.length,aa k,.bad],none::some (.row [b.enc] 4)::some (.row [q7] 6)::some (.row [cq S] 1)::some (.row (P.map Plc.enc) 7)::some (.row ((fT S.length k).map aP) 1)::nn3,zz9)) (C:=fun k=>k<=S.length) (m:=fun k=>S.length-k) 0 (zB _) (by omega) ?_ ?_)
 .refine qV rfl (E6 (l1:=[(2,0),(4,0),(6,0)]) (x:=(8,0)) (Vz B6 rfl rfl rfl rfl rfl) ?_ rfl) rfl ?_ rfl ?_ rfl rfl
  .show((P.map Plc.enc).all (okD 0 _)&&(((fT S.length 0).map aP).all (okD 0 _)&&true))=true;grind[rows_ok,dF,vX]
  .show((P.map Plc.enc).all (okD 0 _)&&(((fT S.length 0).map aP).all (okD 0 _)&&true))=true;grind[rows_ok,dF,vX]
  exact congr (zX (fun(E F:Hm)=>([none,some (.row [b.enc] 4),some (.row [q7] 6),some (.row [cq S] 1),some (.row E 7),some (.row F 1),none,none,none]:RU)) (gx Hr _ P)) (gx Fo _ _)
 intro k Y N A;refine jC rfl (fun e=>?_) (fun e=>?_)
 .rw[ad]at e;have a:k<S.length:=by omega
  have G:=wS (n:=k);refine gg rfl (aA k rfl rfl rfl rfl rfl a (dq (es:=(fT S.length k).map aP) (e':=aP k) rfl rfl rfl (zB _) (by rw[zC];exact Xc a) rfl ?_));rw[zC k,RD];refine gE rfl (A (k+1) a (by omega) ?_);refine dN rfl rfl ?_ rfl ?_ rfl (by rw[G];rfl)
  .show((P.map Plc.enc).all (okD 0 _)&&(((fT S.length (k+1)).map aP).all (okD 0 _)&&true))=true;grind[rows_ok,dF,vX]
  exact congr (zX (fun(E F:Hm)=>([none,some (.row [b.enc] 4),some (.row [q7] 6),some (.row [cq S] 1),some (.row E 7),some (.row F 1),none,none,none]:RU)) (gx Hr _ P)) (gx Fo _ _)
 rw[af]at e;obtain rfl:k=S.length:=by omega
 clear A;rw[Vu];refine gE rfl (gg rfl (cf rfl rfl (VI b.enc q7 rfl rfl S (P.map Plc.enc) (ae dF _) (List.range S.length) S.length (by simp) U (fun x Z=>yN.1 Z) (HasB.of ⟨⟨rfl,rfl⟩,⟨rfl,rfl⟩,⟨rfl,rfl⟩,⟨rfl,rfl⟩,⟨rfl,rfl⟩,tr⟩) ?_)));intro h' z' g;obtain⟨⟨h2,rfl⟩,z2,rfl⟩:=g;have a0:(ef S (List.range S.length) S.length).length=S.length:=by simp[EC]
 generalize ef S (List.range S.length) S.length=L at*;obtain⟨dr,t,ps,B,rfl,H,I⟩:=Run_ex b S (L.map fun n=>((n:Nat):Int)) (by grind);have J:L.map aP=(L.map fun n=>((n:Nat):Int)).map aa:=by rw[yv];rfl
 rw[J];have a1:(L.map fun n=>((n:Nat):Int)).length=S.length:=by grind
 generalize (L.map fun n=>((n:Nat):Int))=O at*;have j:=YK S ps (by omega);generalize a2:ob S ps=ex at*;obtain⟨M,xe⟩:=ex;dsimp only at j;refine gg rfl (Hi (id:=5) rfl rfl ⟨bK (by grind) (bF (fun _=>rfl) _),tr⟩ (by rw[bZ (by grind)];trivial) rfl ?_ fun z=>?_)
 .exact flat3 rfl rfl (I3 (f:=aa) (l:=O) (fun _=>rfl) rfl)
 refine jC rfl (fun e=>?_) (fun e=>?_)
 .rw[aO]at e;exact gg rfl (bt rfl rfl rfl tr ⟨mk0S,B,rfl,fun h=>absurd h e⟩)
 rw[aE]at e;subst e;refine jA rfl j (jC rfl (fun e=>?_) (fun e=>?_))
 .rw[aO]at e;exact gg rfl (bt rfl rfl rfl tr ⟨mk0S,xe,rfl,fun h=>absurd h e⟩)
 rw[aE]at e;subst e;refine gg rfl ?_;rw[zA];refine aw (S:=fun k:Nat=>([ints sizes,.ptr 1 0 0,.ptr 2 0 0,.ref 3 0 P.length,.int .i64 M,cW ps,aa ps.length,aa k],none::some (.row [b.enc] 4)::some (.row [q7] 6)::some (.row ((kT P ps k).map Plc.enc) 7)::nn4,zz8)) (C:=fun k=>k<=ps.length) (m:=fun k=>ps.length-k) 0 (zB _) (by omega) ?_ ?_
 .exact ah rfl ⟨rfl,rfl,ae dF _,tr⟩ rfl
 intro k Y N A;refine jC rfl (fun e=>?_) (fun e=>?_)
 .rw[ad]at e;have a:k<ps.length:=by omega
  have G:=wS (n:=k);have pe:=nW a;have R:=I (pu2 ps k) (by grind[kC]);have u:kT P ps (k+1)=setP (kT P ps k) (pu2 ps k):=rfl;have K:=AG P ps k;generalize pu2 ps k=p at*;generalize kT P ps k=Q at*;obtain⟨i,hi⟩:∃i:Nat,p.shape=i:=⟨p.shape.toNat,by omega⟩;have v:i<Q.length:=by omega
  have qe:=q6 v;unfold setP at u;rw[show p.shape.toNat=i by omega]at u;generalize db Q i=c at*
  have w:((Q.map Plc.enc).set i (Plc.enc ⟨c.garment,c.use,c.copy,c.flip,p.turn.quarter,c.x,c.y⟩)).set i (Plc.enc ⟨c.garment,c.use,c.copy,c.flip,p.turn.quarter,p.at_.x,p.at_.y⟩)=(kT P ps (k+1)).map Plc.enc:=by
   simp_all
  refine jX k rfl rfl pe rfl (gg rfl (aA i rfl rfl rfl rfl hi (by omega) ?_));refine gg rfl (dq (es:=Q.map Plc.enc) (e':=Plc.enc ⟨c.garment,c.use,c.copy,c.flip,p.turn.quarter,c.x,c.y⟩) rfl rfl rfl (zB _) (by rw[zC];omega) rfl ?_);refine gg rfl (aA i rfl rfl rfl rfl hi (by omega) ?_);refine gg rfl (dq (es:=(Q.map Plc.enc).set (0+i) (Plc.enc ⟨c.garment,c.use,c.copy,c.flip,p.turn.quarter,c.x,c.y⟩)) (e':=Plc.enc ⟨c.garment,c.use,c.copy,c.flip,p.turn.quarter,p.at_.x,p.at_.y⟩) rfl rfl rfl (zB _) (by simp[v];rfl) rfl ?_);rw[zC i,w];exact gE rfl (A (k+1) a (by omega) (ah rfl ⟨rfl,rfl,ae dF _,tr⟩ (by rw[G];rfl)))
 rw[af]at e;obtain rfl:k=ps.length:=by omega
 have K:=AG P ps ps.length;refine gE rfl (jA rfl (Hu sizes o) (gg rfl (bt rfl rfl rfl ⟨bK (by grind) (bF B8 _),tr⟩ ⟨⟨M,b.width,b.rep,sizes,kT P ps ps.length⟩,0,?_,fun _=>⟨rfl,ps,t,H,by grind,by grind⟩⟩)));rw[bZ (by grind)];rfl
def di (m:Mkr)(Q:List Ply):D:=.agg [.int .i64 m.length,.int .i64 m.width,.int .i64 m.rep.x,.int .i64 m.rep.y,ints m.sizes,dA m.places,.lst (Q.map Ply.enc)]
def lT:D:=.agg [.int .i64 0,.int .i64 0,.int .i64 0,.int .i64 0,.nilsl,.nilsl,.nilsl]
def o0:Mkr:=⟨0,0,⟨0,0⟩,[],[]⟩
def lJ (len:Int)(ps:Fv)(a:Int):Nat->List Rst->Nat->List Ply->Option (List Ply)
 |0,_,_,Q=>some Q
 |j+1,R,off,Q=>if(cG len ps (R.length-off) R off 0 []).1=true then lJ len ps a j (cG len ps (R.length-off) R off 0 []).2.2.1 (cG len ps (R.length-off) R off 0 []).2.2.2 (Q++[⟨a,(cG len ps (R.length-off) R off 0 []).2.1⟩])else none
def gB (m:Mkr)(ps:Fv)(rs:List RollS)(lots:List Int):List Int->Nat->List Ply->Option (List Ply)
 |[],_,Q=>some Q
 |n::r,k,Q=>if n=0 then gB m ps rs lots r (k+1) Q else match lJ m.length ps k n.toNat (cN rs lots k m.width rs.length) 0 Q with
  |none=>none
  |some a=>gB m ps rs lots r (k+1) a
def SprE (m:Mkr)(ps:Fv)(rs:List RollS)(lots a:List Int)(c:List Ply->Int)(d:D):Prop:=∃(x:Mkr) (Q:List Ply) (l:Hm) (e:Int),d=.tup [di x Q,.lst l,.int .i64 e]/\
 (e=0↔gy m ps rs lots.length=0/\px lots a=0/\∃b,gB m ps rs lots a 0 []=some b/\c b=0)/\(e=0->x=m/\gB m ps rs lots a 0 []=some Q)
theorem rE (y:Ply):plain 4 y.enc=true:=rfl
theorem AE (y:Ply):dat 4 y.enc=true:=rfl
theorem LJ {nx0:Nat}(ids:Ke)(y:Rst):du nx0 ids y.enc=y.enc:=rfl
theorem Ag {nx0:Nat}(ids:Ke)(y:Ply):du nx0 ids y.enc=y.enc:=rfl
theorem Ad (len:Int)(ps:Fv):∀(n:Nat) (R:List Rst) (off:Nat) (a:Int) (P:List Part),(cG len ps n R off a P).2.2.1.length=R.length
 |0,R,off,a,P=>rfl
 |n+1,R,off,a,P=>by
  rw[cG];split
  simp
  .split
   .rw[Ad len ps n];simp
   exact Ad len ps n _ _ _ _
theorem V2 {h:ab}(Q:List Ply){a:Int}{b e:Nat}{P:List Part}(hr:h b=some (.row (P.map Part.enc) e)):(Q.map Ply.enc++[D.agg [.int .i64 a,.ref b 0 P.length]]).mapM (jf h depth)=some (Q.map Ply.enc++[Ply.enc ⟨a,P⟩]):=by
 have h1:(Q.map Ply.enc).mapM (jf h depth)=some (Q.map Ply.enc):=Ax fun x _=>rfl
 have c:jf h depth (D.agg [.int .i64 a,.ref b 0 P.length])=some (Ply.enc ⟨a,P⟩):=by
  refine Gx 11 ?_;rw[xB,xB,vG,nN (n:=8) (by decide) (Ig LS hr rfl)];rfl
 simp_all
theorem UI {h:ab}(Q:List Ply){b:Int}{a e:Nat}{P:List Part}(hr:h a=some (.row (P.map Part.enc) e)):(Q.map Ply.enc++[D.agg [.int .i64 b,.ref a 0 P.length]]).flatMap (aN h depth)=[a]:=by
 rw[List.flatMap_append,sN (bF AE _),yj,List.flatMap_cons,List.flatMap_nil,yI];show aN h (11+1) (.agg [.int .i64 b,.ref a 0 P.length])=_;grind[aN,sN,bF,LS]
theorem flat3a {h:ab}{a b c:D}{id:Nat}(h1:aN h depth a=[id])(d:aN h depth b=[])(h3:aN h depth c=[]):[a,b,c].flatMap (aN h depth)=[id]:=by grind
theorem QC {h:ab}(Q:List Ply){f e:Nat}{a b c d:Int}{g i:Hm}(hr:h f=some (.row (Q.map Ply.enc) e)):aN h depth (D.agg [.int .i64 a,.int .i64 b,.int .i64 c,.int .i64 d,.lst g,.lst i,.ref f 0 Q.length])=[f]:=by
 have j:aN h (10+1) (.ref f 0 Q.length)=f::(Q.map Ply.enc).flatMap (aN h 10):=by
  grind[aN,List.take_of_length_le]
 show aN h (11+1) (D.agg _)=_;rw[aN];grind[aN,sN,AE]
theorem SH (m:Mkr)(ps:Fv)(rs:List RollS)(lots a:List Int)(hb:∀r∈rs,RollB r)(K:ps.length<=1000)(Y:m.sizes.length<=100000)(Z:m.places.length<=100000)(h1:lots.length<=1000000)(h2:a.length<=1000000)(B:List Ply->Int)
 (hR:∀Q:List Ply,gy m ps rs lots.length=0->gB m ps rs lots a 0 []=some Q->Q.length<=40->∃l:Hm,PU 8 [di m Q,rolls rs,ints lots]=some (.tup [.lst l,.int .i64 (B Q)])):
 ∃d,PU 23 [m.enc,aY ps,rolls rs,ints lots,ints a]=some d/\SprE m ps rs lots a B d:=by
 refine jh rfl (jA rfl (HQ m ps rs lots K hb) (jC rfl (fun e=>?_) (fun e=>?_)))
 .rw[aO]at e;exact gg rfl (bt rfl rfl rfl tr ⟨o0,[],[],gy m ps rs lots.length,rfl,⟨fun h=>absurd h e,fun h=>absurd h.1 e⟩,fun h=>absurd h e⟩)
 have G:=aE.1 e;clear e;refine jA rfl (RT lots a h1 h2) (jC rfl (fun e=>?_) (fun e=>?_))
 .rw[aO]at e;exact gg rfl (bt rfl rfl rfl tr ⟨o0,[],[],px lots a,rfl,⟨fun h=>absurd h e,fun h=>absurd h.2.1 e⟩,fun h=>absurd h e⟩)
 have q:=aE.1 e;clear e
 have b7:rs.length=lots.length/\rs.length<=20:=by
  unfold gy kY at G
  all_goals first|omega|(exfalso;omega)
 have a1:iH a 0=true:=by
  cases hh:iH a 0 with
  |true=>rfl
  |false=>
   unfold px at q;split at q
   .exact absurd q (by decide)
   exact absurd q (by decide)
 refine jA rfl (Hu m.sizes Y) (jA rfl (Wo m.places Z) ?_);generalize s:gB m ps rs lots a 0 []=FF at*
 have L:∀(d:D),FF=none->d=.tup [di o0 [],.lst [],.int .i64 17]->SprE m ps rs lots a B d:=fun d hn hd=>by
  refine⟨o0,[],[],17,hd,⟨fun h=>absurd h (by decide),fun h=>?_⟩,fun h=>absurd h (by decide)⟩;obtain⟨_,_,Q',M,_⟩:=h;rw[s,hn]at M;cases M
 refine gg rfl ?_;rw[zA]
 refine aw (S:=fun x:Nat×List Ply=>([aY ps,rolls rs,ints lots,.ptr 3 0 0,.ptr 4 0 0,.ptr 5 0 0,ints a,aa a.length,aa x.1,.bad,.bad,.bad],[none,none,none,some (.row [m.enc] 6),some (.row [lT] 7),some (.row [.agg [.int .i64 m.length,.int .i64 m.width,.int .i64 m.rep.x,.int .i64 m.rep.y,ints m.sizes,dA m.places,.ref 11 0 x.2.length]] 7),none,none,none,none,none,some (.row (x.2.map Ply.enc) 2)],zz12))
  (C:=fun x=>x.1<=a.length/\iH (a.drop x.1) x.2.length=true/\x.2.length<=40/\gB m ps rs lots (a.drop x.1) x.1 x.2=FF) (m:=fun x=>a.length-x.1) (0,[]) ⟨zB _,a1,by decide,s⟩ (by omega) ?_ ?_
 .exact dN rfl rfl rfl rfl rfl rfl rfl
 rintro⟨k,Q⟩ ⟨hk,c,t,b⟩ N hN;dsimp only at hk c t b hN⊢;refine jC rfl (fun e=>?_) (fun e=>?_)
 .rw[ad]at e;have w:k<a.length:=by omega
  have w1:=wS (n:=k);have he:=eP (f:=aa) w;rw[zz w]at c b;generalize a[k]=v at*;rw[iH]at c;rw[gB]at b;split at c
  .cases c
  rename_i hv;refine jX k rfl rfl he rfl (jC rfl (fun O=>?_) (fun O=>?_))
  .rw[co]at O;rw[ve O]at b;have e0:((Q.length:Nat):Int)+v=Q.length:=by omega
   rw[e0]at c;refine gE rfl (hN (k+1,Q) ⟨w,c,t,b⟩ (by omega) ?_);refine dN rfl rfl ?_ rfl ?_ rfl (by rw[w1];rfl)
   .show((Q.map Ply.enc).all (okD 0 _)&&true)=true;rw[rows_ok rE];rfl
   exact zX (fun r:Hm=>([none,none,none,some (.row [m.enc] 6),some (.row [lT] 7),some (.row [.agg [.int .i64 m.length,.int .i64 m.width,.int .i64 m.rep.x,.int .i64 m.rep.y,ints m.sizes,dA m.places,.ref 11 0 Q.length]] 7),none,none,none,none,none,some (.row r 2)]:RU)) (gx Ag _ Q)
  rw[dG]at O;rw[vd O]at b;obtain⟨n,rfl⟩:∃n:Nat,v=n:=⟨v.toNat,by omega⟩;rw[yW]at b;refine gg rfl (cf rfl rfl (QH m.enc lT rfl rfl m.length m.width m.rep.x m.rep.y (ints m.sizes) (dA m.places) Q.length (Q.map Ply.enc) rfl (ae rE _) rs lots k m.width (by omega) (by omega) (HasB.of ⟨⟨rfl,rfl⟩,⟨rfl,rfl⟩,⟨rfl,rfl⟩,⟨rfl,rfl⟩,tr⟩) ?_));intro h' z' u;have c4:=uQ rs lots k m.width rs.length;generalize cN rs lots k m.width rs.length=R at*;obtain⟨⟨h1,rfl⟩,z1,rfl⟩:=u;refine gg rfl ?_
  refine aw (S:=fun x:Nat×List Rst×Nat×List Ply=>([aY ps,rolls rs,ints lots,.ptr 3 0 0,.ptr 4 0 0,.ptr 5 0 0,aa k,.ref 7 x.2.2.1 (x.2.1.length-x.2.2.1),ints a,aa a.length,aa k,aa n,aa x.1,.bad,.bad,.bad],[none,none,none,some (.row [m.enc] 6),some (.row [lT] 7),some (.row [.agg [.int .i64 m.length,.int .i64 m.width,.int .i64 m.rep.x,.int .i64 m.rep.y,ints m.sizes,dA m.places,.ref 15 0 x.2.2.2.length]] 7),none,some (.row (x.2.1.map Rst.enc) 4),none,none,none,none,none,none,none,some (.row (x.2.2.2.map Ply.enc) 2)],zz16))
   (C:=fun x=>x.1<=n/\x.2.2.1<=x.2.1.length/\x.2.1.length<=1000/\x.2.2.2.length=Q.length+x.1/\(match lJ m.length ps k (n-x.1) x.2.1 x.2.2.1 x.2.2.2 with
     |none=>none
     |some Q'=>gB m ps rs lots (a.drop (k+1)) (k+1) Q')=FF) (m:=fun x=>n-x.1) (0,R,0,Q) ⟨zB _,zB _,by show R.length<=1000;omega,rfl,b⟩ (by omega) ?_ ?_
  .refine dN rfl rfl ?_ rfl ?_ rfl rfl
   .show(((R).map Rst.enc).all (okD 0 _)&&(((Q).map Ply.enc).all (okD 0 _)&&true))=true;rw[rows_ok eA,rows_ok rE];rfl
   exact congr (zX (fun(r1 r2:Hm)=>([none,none,none,some (.row [m.enc] 6),some (.row [lT] 7),some (.row [.agg [.int .i64 m.length,.int .i64 m.width,.int .i64 m.rep.x,.int .i64 m.rep.y,ints m.sizes,dA m.places,.ref 15 0 (Q).length]] 7),none,some (.row r1 4),none,none,none,none,none,none,none,some (.row r2 2)]:RU)) (gx LJ _ (R))) (gx Ag _ (Q))
  rintro⟨j,R,off,g⟩ ⟨hj,P,E,T,o⟩ N2 U;dsimp only at hj P E T o U⊢;refine jC rfl (fun e3=>?_) (fun e3=>?_)
  .rw[ad]at e3;have V:j<n:=by omega
   have wj:=wS (n:=j);obtain⟨i,hi⟩:∃i,n-j=i+1:=⟨n-j-1,by omega⟩;rw[hi,lJ]at o;refine gg rfl (cf rfl rfl (Sc m.enc lT rfl rfl m.length m.width m.rep.x m.rep.y (ints m.sizes) (dA m.places) g.length (g.map Ply.enc) rfl (ae rE _) m.length ps K R off (R.length-off) (by omega) E (HasB.of ⟨⟨rfl,rfl⟩,⟨rfl,rfl⟩,⟨rfl,rfl⟩,⟨rfl,rfl⟩,⟨rfl,rfl⟩,tr⟩) (fun hF h' z' u=>?_) (fun hF h' z' mm u c8 c9=>?_)))
   .obtain⟨⟨h2,rfl⟩,z2,rfl⟩:=u;rw[vd (by rw[hF];decide)]at o;exact gg rfl (ak rfl (gE rfl (gE rfl (gg rfl (bt rfl rfl rfl tr (L _ o.symm rfl))))))
   rw[ve hF]at o;have e4:=Ad m.length ps (R.length-off) R off 0 [];generalize cG m.length ps (R.length-off) R off 0 []=F at*;obtain⟨fb,H,I,fo⟩:=F;dsimp only at*;obtain rfl:mm=I.length-fo:=by omega
   obtain⟨⟨h2,rfl⟩,z2,rfl⟩:=u;refine gg rfl (aj rfl (gg rfl (bI rfl rfl rfl rfl rfl rfl (by simp) (zB _) (by simp[aK];omega) ?_)));refine gE rfl (U (j+1,I,fo,g++[⟨k,H⟩]) ⟨V,by show fo<=I.length;omega,by show I.length<=1000;omega,by simp;omega,?_⟩ (by omega) ?_)
   .rw[show n-(j+1)=i by omega];exact o
   have J:(g++[(⟨k,H⟩:Ply)]).map Ply.enc=g.map Ply.enc++[Ply.enc ⟨k,H⟩]:=by simp
   have b1:(g++[(⟨k,H⟩:Ply)]).length=g.length+1:=by simp
   have b2:∀ids,(g.map Ply.enc++[Ply.enc ⟨k,H⟩]).map (du 0 ids)=g.map Ply.enc++[Ply.enc ⟨k,H⟩]:=fun ids=>by rw[<-J];exact gx Ag ids _
   simp only[J,b1];refine qV rfl (E6 (l1:=[(1,0),(2,0),(3,0),(5,0),(10,0),(15,0),(16,0),(18,0),(50,0),(51,0),(52,0),(65,0),(66,0),(5242895,0),(6291471,0)]) (x:=(7340047,2)) (l2:=[]) ((rz rfl rfl (sO rfl) (V2 g rfl)).trans (by rw[UI g rfl])) rfl ?_) rfl ?_ rfl ?_ rfl (by rw[wj];rfl)
   .show((I.map Rst.enc).all (okD 0 _)&&true)=true;rw[rows_ok eA];rfl
   .show((I.map Rst.enc).all (okD 0 _)&&((g.map Ply.enc++[Ply.enc ⟨k,H⟩]).all (okD 0 _)&&true))=true;rw[<-J,rows_ok eA,rows_ok rE];rfl
   exact congr (zX (fun(r1 r2:Hm)=>([none,none,none,some (.row [m.enc] 6),some (.row [lT] 7),some (.row [.agg [.int .i64 m.length,.int .i64 m.width,.int .i64 m.rep.x,.int .i64 m.rep.y,ints m.sizes,dA m.places,.ref 15 0 (g.length+1)]] 7),none,some (.row r1 4),none,none,none,none,none,none,none,some (.row r2 2)]:RU)) (gx LJ _ I)) (b2 _)
  rw[af]at e3;obtain rfl:j=n:=by omega
  rw[Nat.sub_self,lJ]at o;refine gE rfl (gE rfl (hN (k+1,g) ⟨w,?_,by show g.length<=40;omega,o⟩ (by omega) ?_))
  .rw[T];exact c
  refine dN rfl rfl ?_ rfl ?_ rfl (by rw[w1];rfl)
  .show((g.map Ply.enc).all (okD 0 _)&&true)=true;rw[rows_ok rE];rfl
  exact zX (fun r:Hm=>([none,none,none,some (.row [m.enc] 6),some (.row [lT] 7),some (.row [.agg [.int .i64 m.length,.int .i64 m.width,.int .i64 m.rep.x,.int .i64 m.rep.y,ints m.sizes,dA m.places,.ref 11 0 g.length]] 7),none,none,none,none,none,some (.row r 2)]:RU)) (gx Ag _ g)
 rw[af]at e;obtain rfl:k=a.length:=by omega
 rw[xA,gB]at b;obtain⟨W,A⟩:=hR Q G b.symm t;refine gE rfl (gg rfl ?_)
 have p:∀(d:D) (x:Mkr) (X:List Ply) (l:Hm),d=.tup [di x X,.lst l,.int .i64 (B Q)]->(B Q=0->x=m/\X=Q)->SprE m ps rs lots a B d:=fun d x X l hd hx=>by
  refine⟨x,X,l,B Q,hd,⟨fun h=>⟨G,q,Q,by rw[s,b],h⟩,fun h=>?_⟩,fun h=>⟨(hx h).1,by rw[s,<-b,(hx h).2]⟩⟩;obtain⟨_,_,Q',M,hr⟩:=h;rw[s,<-b]at M;cases M;exact hr
 generalize B Q=er at*;refine Hi (id:=11) (r:=.tup [.lst W,.int .i64 er]) rfl rfl ⟨bK (by simp) (bF AE _),tr⟩ (by rw[bZ (by simp)];exact A) rfl ?_ fun z=>?_
 .exact flat3a (QC Q rfl) rfl rfl
 refine jC rfl (fun e=>?_) (fun e=>?_)
 .rw[aO]at e;exact gg rfl (bt rfl rfl rfl tr (p _ o0 [] [] rfl (fun h=>absurd h e)))
 rw[aE]at e;refine gg rfl (bt rfl rfl rfl ⟨bK (by simp) (bF AE _),tr⟩ (p _ m Q W ?_ (fun _=>⟨rfl,rfl⟩)));rw[bZ (by simp),e];rfl
end Go.F
namespace Go.F
def Chain:List Zone->Int->Int->Prop
 |[],s,e=>s=e
 |z::l,s,e=>z.lo=s/\z.lo<z.hi/\Chain l z.hi e
theorem Chain.snoc {l:List Zone}{s e f:Int}(h:Chain l s e)(b:e<f):Chain (l++[⟨e,f⟩]) s f:=by
 induction l generalizing s with
 |nil=>cases h;trivial
 |cons z l a=>exact⟨h.1,h.2.1,a h.2.2⟩
def zof (T:List Part)(r:Int):List Zone:=(T.filter fun q=>decide (q.roll=r)).map fun q=>⟨q.from_,q.to⟩
theorem uM (T:List Part)(q:Part)(r:Int):zof (T++[q]) r=if q.roll=r then zof T r++[⟨q.from_,q.to⟩]else zof T r:=by
 unfold zof;grind
structure Rm (rs:List RollS)(lots:List Int)(lot width:Int)(r:Rst):Prop where
 f0:0<=r.from_
 ft:r.from_<=r.to
 tl:r.to=(rl rs r.roll.toNat).length
 tm:r.to<=1048576
 r0:0<=r.roll
 rn:r.roll<rs.length
 lt:lots.getD r.roll.toNat 0=lot
 wd:width<=(rl rs r.roll.toNat).width
def RmI (rs:List RollS)(lots:List Int)(a width:Int)(T:List Part)(R:List Rst):Prop:=
 (∀i,i<R.length->Rm rs lots a width (rst R i)/\Chain (zof T (rst R i).roll) 0 (rst R i).from_)/\∀i j,i<j->j<R.length->(rst R i).roll≠(rst R j).roll
def ChI (T:List Part):Prop:=∀r,∃e,Chain (zof T r) 0 e
theorem CC (R:List Rst)(k i:Nat)(x:Rst)(a:k<R.length):rst (R.set k x) i=if i=k then x else rst R i:=by
 unfold rst;grind
section
variable {rs:List RollS}{lots:List Int}{lot width:Int}{T:List Part}{R:List Rst}
theorem nM {x:Int}(h1: -9223372036854775808<=x)(a:x<=9223372036854775807):w64 x=x:=wrap64 h1 a
theorem RmI.adv (h:RmI rs lots lot width T R){k:Nat}(c:k<R.length){l a:Int}(h0:0<l)(q:l<=szR (rst R k)):
 RmI rs lots lot width (T++[gb (rst R k) l a]) (R.set k (ph (rst R k) l))/\(gb (rst R k) l a).from_=(rst R k).from_/\(gb (rst R k) l a).to=(rst R k).from_+l/\(rst R k).from_+l<=(rst R k).to:=by
 obtain⟨h1,g⟩:=h;obtain⟨b,m⟩:=h1 k c;have n:=g;have r:=b.f0;have s:=b.ft;have t:=b.tm;have u:szR (rst R k)=(rst R k).to-(rst R k).from_:=nM (by omega) (by omega);have o:w64 ((rst R k).from_+l)=(rst R k).from_+l:=nM (by omega) (by omega);refine⟨⟨fun i hi=>?_,fun i j d f=>?_⟩,rfl,o,by omega⟩
 .rw[wK]at hi;rw[CC _ _ _ _ c];by_cases e:i=k
  .rw[ve e];refine⟨⟨?_,?_,b.tl,b.tm,b.r0,b.rn,b.lt,b.wd⟩,?_⟩
   .show 0<=w64 _;omega
   .show w64 _<=_;show _<=(rst R k).to;omega
   show Chain (zof _ (rst R k).roll) 0 (w64 _);rw[uM,ve (show(gb (rst R k) l a).roll=(rst R k).roll from rfl)];show Chain (_++[⟨(rst R k).from_,w64 ((rst R k).from_+l)⟩]) _ _;exact m.snoc (by omega)
  rw[vd e];obtain⟨p,v⟩:=h1 i hi;refine⟨p,?_⟩;rw[uM,vd];omega
  .show(rst R k).roll≠(rst R i).roll;grind
 rw[wK]at f;rw[CC _ _ _ _ c,CC _ _ _ _ c];have key:=n i j d f;split
 .rename_i e;subst e;rw[eE];trivial
 split
 .rename_i e;subst e;trivial
 omega
theorem ChI.adv (h:RmI rs lots lot width T R)(c:ChI T){k:Nat}(b:k<R.length){l a:Int}(h0:0<l)(d:l<=szR (rst R k)):ChI (T++[gb (rst R k) l a]):=by
 intro r;rw[uM];split
 .rename_i e;have hr:(rst R k).roll=r:=e;obtain⟨h1,f,g,i⟩:=h.adv (a:=a) b h0 d;rw[f,g,<-hr];exact⟨_,(h.1 k b).2.snoc (by omega)⟩
 exact c r
end
def atP (a:List Zone)(P:List Part)(i:Nat):Int:=if i=0 then 0 else fU a (cM (pa P (i-1)))
structure Good (rs:List RollS)(lots:List Int)(lot width:Int)(q:Part):Prop where
 cl:gl q rs=true
 lt:lots.getD q.roll.toNat 0=lot
 wd:width<=(rl rs q.roll.toNat).width
 tm:q.to<=1048576
structure Acc (rs:List RollS)(lots:List Int)(lot width len:Int)(zs:List Zone)(P:List Part)(a:Int):Prop where
 el:∀i,i<P.length->Good rs lots lot width (pa P i)/\(pa P i).at_=atP zs P i/\atP zs P i<atP zs P (i+1)/\atP zs P (i+1)<=cM (pa P i)/\cM (pa P i)<=len
 at_:a=atP zs P P.length
 a0:0<=a
 al:a<len
structure FinP (rs:List RollS)(lots:List Int)(lot width len:Int)(zs:List Zone)(P:List Part):Prop where
 ne:0<P.length
 el:∀i,i<P.length->Good rs lots lot width (pa P i)/\(pa P i).at_=atP zs P i/\0<=atP zs P i/\atP zs P i<len/\(i+1<P.length->atP zs P i<atP zs P (i+1)/\atP zs P (i+1)<=cM (pa P i)/\cM (pa P i)<=len)
 en:cM (pa P (P.length-1))=len
theorem E4 {P:List Part}{q:Part}{i:Nat}(h:i<P.length):pa (P++[q]) i=pa P i:=by grind[pa]
theorem AZ (P:List Part)(q:Part):pa (P++[q]) P.length=q:=by simp[pa]
theorem rk {a:List Zone}{P:List Part}{q:Part}{i:Nat}(h:i<=P.length):atP a (P++[q]) i=atP a P i:=by
 grind[atP,E4]
theorem N8 (a:List Zone)(P:List Part)(q:Part):atP a (P++[q]) (P.length+1)=fU a (cM q):=by
 simp[atP,AZ]
theorem M4 (l:List Zone)(hi:Int):∀k,li l hi k<=hi
 |0=>xL _
 |k+1=>by
  have:=M4 l hi k;grind[li]
theorem XU (l:List Zone)(hi:Int):fU l hi<=hi:=M4 l hi _
theorem Jt (l:List Zone)(hi:Int):∀k i,i<k->hi<(zn l i).hi->li l hi k<=(zn l i).lo
 |0,i,h,_=>by omega
 |k+1,i,h,a=>by
  rw[li];by_cases e:i=k
  grind
  .have:=Jt l hi k i (by omega) a;omega
theorem Uq {l:List Zone}{hi:Int}{z:Zone}(b:z∈l)(h:hi<z.hi):fU l hi<=z.lo:=by
 obtain⟨i,a,rfl⟩:=ze.1 b;have:=Jt l hi l.length i a (by grind[Zs]);rw[Zs a]at this
 trivial
theorem Dw (l:List Zone)(lo hi:Int)(es:List Int):∀k,(dt l lo hi es k).1=true->(dt l lo hi es k).2.hi<=hi/\lo<(dt l lo hi es k).2.lo/\(dt l lo hi es k).2.lo=fU l (dt l lo hi es k).2.hi
 |0,h=>by cases h
 |k+1,h=>by
  rw[dt]at h⊢;split
  .rename_i e;rw[ve e]at h;exact Dw l lo hi es k h
  rename_i e;rw[vd e]at h;split
  .exact⟨by show es.getD k 0<=hi;omega,by show lo<fU l _;omega,rfl⟩
  rename_i a;rw[vd a]at h;exact Dw l lo hi es k h
theorem TG {n:Int}{ps:Fv}{lo hi:Int}(h:(ii n ps lo hi).2=0):(ii n ps lo hi).1.hi<=hi/\lo<(ii n ps lo hi).1.lo/\(ii n ps lo hi).1.lo=fU (bL n ps).1 (ii n ps lo hi).1.hi/\0<=lo/\hi<=n:=by
 unfold ii at h⊢;split
 grind;split
 grind;dsimp only at h⊢;split
 .rename_i d;obtain⟨a,b,c⟩:=Dw _ _ _ _ _ d;grind
 grind
theorem o6 {n:Int}{l:Fv}(h:(bL n l).2=0):1<=n/\n<=1048576/\l.length<=60/\(bL n l).1=l.map nO/\∀p∈l,eO n p=0:=by
 unfold bL at h⊢;split at h
 omega;split at h
 omega;split at h
 omega
 have key:∀(l:Fv),orF (l.map (eO n))=0->∀p∈l,eO n p=0:=by
  intro l
  induction l with
  |nil=>simp
  |cons q l a=>
   grind[orF]
 grind
section
variable {rs:List RollS}{lots:List Int}{lot width len:Int}{ps:Fv}{T0:List Part}
theorem HN {r:Rst}(h:Rm rs lots lot width r){l a:Int}(h0:0<l)(h1:r.from_+l<=r.to):Good rs lots lot width (gb r l a):=by
 have c:=h.f0;have d:=h.tm;have e:=h.tl;have f:=h.r0;have g:=h.rn;have b:w64 (r.from_+l)=r.from_+l:=nM (by omega) (by omega);refine⟨?_,h.lt,h.wd,?_⟩
 .simp[gl,gb,b];omega
 show w64 _<=_;omega
theorem NY {r:Rst}(h:Rm rs lots lot width r){l a:Int}(h0:0<l)(h1:r.from_+l<=r.to)(b:0<=a)(c:a<=1048576):cM (gb r l a)=a+l:=by
 have d:=h.f0;have e:=h.tm;grind[nM,cM,gb,wrap64]
theorem B9 (f:1<=len)(k:len<=1048576):∀(n:Nat) (R:List Rst) (off:Nat) (a:Int) (P:List Part),R.length=off+n->RmI rs lots lot width (T0++P) R->ChI (T0++P)->Acc rs lots lot width len (bL len ps).1 P a->
 (cG len ps n R off a P).1=true->
 FinP rs lots lot width len (bL len ps).1 (cG len ps n R off a P).2.1/\RmI rs lots lot width (T0++(cG len ps n R off a P).2.1) (cG len ps n R off a P).2.2.1/\ChI (T0++(cG len ps n R off a P).2.1)/\
  (cG len ps n R off a P).2.1.length<=P.length+n/\(cG len ps n R off a P).2.2.2<=(cG len ps n R off a P).2.2.1.length
 |0,R,off,a,P,_,_,_,_,h=>by cases h
 |n+1,R,off,a,P,K,d,t,c,h=>by
  have u:=c.a0;have C:=c.al;have m:off<R.length:=by omega
  obtain⟨r,D⟩:=d.1 off m;have v:w64 (len-a)=len-a:=nM (by omega) (by omega);rw[cG]at h⊢;rw[v]at h⊢;split
  .rename_i e;obtain⟨o,E,F,p⟩:=d.adv (l:=len-a) (a:=a) m (by omega) e;have b:=ChI.adv (a:=a) d t m (l:=len-a) (by omega) e;have w:=HN r (l:=len-a) (a:=a) (by omega) p;have G:=NY r (l:=len-a) (a:=a) (by omega) p u (by omega);rw[z7]at o b;refine⟨⟨by simp,fun i hi=>?_,?_⟩,o,b,by simp,by grind⟩
   .rw[zL,yL]at hi;rcases y6 i P.length with g|g
    .obtain⟨L,M,N,O,Q⟩:=c.el i g;rw[E4 g,rk (by omega),rk (by omega)]
     have:∀j,j<=i->0<=atP (bL len ps).1 P j:=by
      intro j
      induction j with
      |zero=>intro _;exact xL _
      |succ j z=>
       intro S;have:=(c.el j (by omega)).2.2.1;omega
     grind
    obtain rfl:i=P.length:=by omega
    rw[AZ,rk (zD _),<-c.at_];exact⟨w,rfl,u,C,fun h=>by grind⟩
   grind[AZ]
  rename_i e;rw[vd e]at h;split
  .rename_i s;rw[ve s]at h;obtain⟨T,A⟩:=s;have H:w64 (a+szR (rst R off))=a+szR (rst R off):=nM (by omega) (by omega);rw[H]at A h⊢;obtain⟨U,b2,I,V,W⟩:=TG A;generalize X:(ii len ps a (a+szR (rst R off))).1=B at*;have J:=XU (bL len ps).1 B.hi;have x:w64 (B.hi-a)=B.hi-a:=nM (by omega) (by omega);rw[x]at h⊢;obtain⟨o,E,F,p⟩:=d.adv (l:=B.hi-a) (a:=a) m (by omega) (by omega);have b:=ChI.adv (a:=a) d t m (l:=B.hi-a) (by omega) (by omega);have w:=HN r (l:=B.hi-a) (a:=a) (by omega) p;have G:=NY r (l:=B.hi-a) (a:=a) (by omega) p u (by omega);have q:cM (gb (rst R off) (B.hi-a) a)=B.hi:=by omega
   rw[z7]at o b
   have y:Acc rs lots lot width len (bL len ps).1 (P++[gb (rst R off) (B.hi-a) a]) B.lo:=by
    refine⟨fun i hi=>?_,?_,by omega,by omega⟩
    .rw[zL,yL]at hi;rcases y6 i P.length with g|g
     .rw[E4 g,rk (by omega),rk (by omega)];exact c.el i g
     obtain rfl:i=P.length:=by omega
     rw[AZ,rk (zD _),<-c.at_,N8,q,<-I];exact⟨w,rfl,b2,by omega,by omega⟩
    rw[zL,yL,N8,q];omega
   have z:=B9 f k n _ (off+1) B.lo (P++[gb (rst R off) (B.hi-a) a]) (by grind) o b y h;grind
  rename_i s;rw[vd s]at h;have z:=B9 f k n R (off+1) a P (by omega) d t c h;grind
end
structure RolK (rs:List RollS)(n:Nat):Prop where
 len:rs.length<=20
 eq:n=rs.length
 ok:∀r∈rs,eB r=0
theorem rq {α:Type}{f:α->Int}:∀{l:List α},orF (l.map f)=0->∀x∈l,f x=0
 |[],_,x,a=>by grind
 |q::l,h,x,a=>by
  rw[zg,orF]at h;split at h
  .rcases zP.1 a with rfl|b
   omega
   .exact rq h x b
  omega
theorem Jk {rs:List RollS}{n:Nat}(h:kY rs n=0):RolK rs n:=by
 unfold kY at h;split at h
 omega;split at h
 omega;split at h
 omega;exact⟨by omega,by omega,rq (by omega)⟩
structure CloK (m:Mkr)(ps:Fv)(rs:List RollS)(n:Nat):Prop where
 ext:(bL m.length ps).2=0
 rol:RolK rs n
 w1:1<=m.width
 w2:m.width<=1048576
theorem sR {m:Mkr}{ps:Fv}{rs:List RollS}{n:Nat}(h:gy m ps rs n=0):CloK m ps rs n:=by
 unfold gy at h;split at h
 omega;split at h
 omega;split at h
 omega;refine⟨?_,Jk (by omega),by omega,by omega⟩;grind[kU]
theorem RJ {T:List Part}{r:Int}(h:∀q∈T,q.roll≠r):zof T r=[]:=by
 grind[zof,List.filter_eq_nil_iff]
theorem qrV {R:List Rst}{x:Rst}{i:Nat}(h:i<R.length):rst (R++[x]) i=rst R i:=by grind[rst]
theorem BX (R:List Rst)(x:Rst):rst (R++[x]) R.length=x:=by simp[rst]
theorem Xi {rs:List RollS}{lots:List Int}{a width:Int}{T:List Part}(hr:RolK rs lots.length)(h:∀q∈T,lots.getD q.roll.toNat 0≠a):
 ∀k,k<=rs.length->RmI rs lots a width T (cN rs lots a width k)/\∀i,i<(cN rs lots a width k).length->(rst (cN rs lots a width k) i).roll<k:=by
 intro k
 induction k with
 |zero=>intro _;exact⟨⟨fun i hi=>by trivial,fun i j _ c=>by trivial⟩,fun i hi=>by trivial⟩
 |succ k d=>
  intro l;obtain⟨⟨h1,m⟩,h3⟩:=d (by omega);rw[cN];split
  .rename_i e;have b:=Es (hr.ok _ (zE (show k<rs.length by omega)));rw[<-qL (by omega)]at b;refine⟨⟨fun i hi=>?_,fun i j f c=>?_⟩,fun i hi=>?_⟩
   .rw[zL,yL]at hi;rcases y6 i (cN rs lots a width k).length with g|g
    grind[qrV]
    .obtain rfl:i=(cN rs lots a width k).length:=by omega
     rw[BX];refine⟨⟨xL _,by grind,by rfl,by grind,by simp,by grind,by grind,by grind⟩,?_⟩;grind[Chain,RJ]
   grind[qrV,BX];grind[qrV,BX]
  grind
def cy (Q:List Ply):List Part:=Q.flatMap (·.parts)
structure LayOK (m:Mkr)(ps:Fv)(rs:List RollS)(lots:List Int)(Q:List Ply):Prop where
 pl:∀y∈Q,FinP rs lots y.lot m.width m.length (bL m.length ps).1 y.parts/\y.parts.length<=20
 ch:ChI (cy Q)
theorem E0 (Q:List Ply)(y:Ply):cy (Q++[y])=cy Q++y.parts:=by simp[cy]
section
variable {m:Mkr}{ps:Fv}{rs:List RollS}{lots:List Int}
theorem LayOK.snoc {Q:List Ply}(h:LayOK m ps rs lots Q){y:Ply}(b:FinP rs lots y.lot m.width m.length (bL m.length ps).1 y.parts/\y.parts.length<=20)(c:ChI (cy Q++y.parts)):LayOK m ps rs lots (Q++[y]):=
 ⟨fun x a=>by
   rcases za.1 a with a|a
   .exact h.pl x a
   grind,by grind[E0]⟩
theorem J9 (d:CloK m ps rs lots.length)(a:Int):∀(n:Nat) (R:List Rst) (off:Nat) (Q b:List Ply),off<=R.length->R.length<=20->LayOK m ps rs lots Q->RmI rs lots a m.width (cy Q) R->lJ m.length ps a n R off Q=some b->
 LayOK m ps rs lots b/\∀y∈b,y∈Q\/y.lot=a
 |0,R,off,Q,b,_,_,c,_,h=>by cases h;grind
 |n+1,R,off,Q,b,p,q,c,r,h=>by
  rw[lJ]at h;split at h
  .rename_i e;obtain⟨l1,l2,_,_,_⟩:=o6 d.ext;have g:Acc rs lots a m.width m.length (bL m.length ps).1 [] 0:=⟨fun i hi=>(by grind),rfl,xL _,by omega⟩;obtain⟨j,s,k,t,l⟩:=B9 (T0:=cy Q) l1 l2 (R.length-off) R off 0 [] (by omega) (by grind) (by rw[yI];exact c.ch) g e;have f:=Ad m.length ps (R.length-off) R off 0 [];generalize cG m.length ps (R.length-off) R off 0 []=F at*;have o:=c.snoc (y:=⟨a,F.2.1⟩) ⟨j,by grind⟩ k;obtain⟨u,v⟩:=J9 d a n _ _ _ _ l (by omega) o (by grind[E0]) h;grind
  grind
theorem CU (b:CloK m ps rs lots.length):∀(l:List Int) (k:Nat) (Q a:List Ply),LayOK m ps rs lots Q->(∀y∈Q,y.lot<(k:Int))->gB m ps rs lots l k Q=some a->LayOK m ps rs lots a
 |[],k,Q,a,c,_,h=>by cases h;omega
 |n::l,k,Q,a,c,t,h=>by
  rw[gB]at h;split at h
  .exact CU b l (k+1) Q a c (fun y d=>by grind) h
  split at h
  grind
  .rename_i f j
   have o:∀q∈cy Q,lots.getD q.roll.toNat 0≠(k:Int):=by
    intro q e;obtain⟨y,d,e⟩:=yc.1 e;obtain⟨i,hi,rfl⟩:=ze.1 e;have:=((c.pl y d).1.el i hi).1.lt;grind[oS]
   have p:=(Xi (width:=m.width) b.rol o rs.length (zD _)).1;have g:=uQ rs lots k m.width rs.length;have r:=b.rol.len;obtain⟨s,u⟩:=J9 b k n.toNat _ 0 Q f (zB _) (by omega) c p j;refine CU b l (k+1) f a s (fun y d=>?_) h;grind
theorem Gh {a:List Int}{Q:List Ply}(h:gy m ps rs lots.length=0)(b:gB m ps rs lots a 0 []=some Q):LayOK m ps rs lots Q:=
 CU (sR h) a 0 [] Q ⟨fun y c=>(by grind),fun r=>⟨0,rfl⟩⟩ (fun y c=>by grind) b
end
theorem Rw {l:List Int}(h:∀x∈l,x=0):orF l=0:=by
 induction l with
 |nil=>rfl
 |cons a l b=>simp_all[orF]
section
variable {m:Mkr}{ps:Fv}{rs:List RollS}{lots:List Int}
theorem ply_ok (b:CloK m ps rs lots.length){y:Ply}(h:FinP rs lots y.lot m.width m.length (bL m.length ps).1 y.parts):rK m ps rs lots y=0:=by
 have h0:=h.ne
 have k:orF ((List.range y.parts.length).map (jw m ps rs lots y))=0:=by
  refine Rw fun x c=>?_;obtain⟨i,hi,rfl⟩:=zy.1 c;rw[yN]at hi;obtain⟨g,d,l,n,o⟩:=h.el i hi;rw[jw,vd (by rw[g.cl,d];grind),vd (by rw[g.lt];simp),vd (by have:=g.wd;omega),vd];rintro(⟨a,e⟩ |⟨a,e⟩)
  .subst a;trivial
  obtain⟨j,rfl⟩:∃j,i=j+1:=⟨i-1,by omega⟩;obtain⟨_,p,b2,q,r⟩:=h.el j (by omega);have f:atP (bL m.length ps).1 y.parts (j+1)=fU (bL m.length ps).1 (cM (pa y.parts j)):=by rfl
  have s:kU m.length ps (cM (pa y.parts j))=(fU (bL m.length ps).1 (cM (pa y.parts j)),0):=by
   rw[kU,vd (by rw[b.ext];simp),eE]
  grind[lF]
 rw[rK,eE,eE,vd (by rw[h.en];simp)]
theorem DF (l:CloK m ps rs lots.length){y:Ply}(h:FinP rs lots y.lot m.width m.length (bL m.length ps).1 y.parts){p:Rp}(q:p∈ps):(dv y p).2=0:=by
 obtain⟨l1,l2,_,A,a⟩:=o6 l.ext;have a:=a p q;unfold eO at a;split at a
 omega;rename_i b;simp at b;split at a
 omega;have r:=OM b;have d:iM p=(bD p,0):=ve b;have e:nO p∈(bL m.length ps).1:=by grind
 have f:∃i,i<y.parts.length/\(bD p).x+(bD p).w<=cM (pa y.parts i)/\∀j,j<i->cM (pa y.parts j)<(bD p).x+(bD p).w:=by
  have:∃i,i<y.parts.length/\(bD p).x+(bD p).w<=cM (pa y.parts i):=⟨y.parts.length-1,by have:=h.ne;omega,by rw[h.en];omega⟩;obtain⟨n,s,t⟩:=this
  induction n using Nat.strongRecOn with
  |ind n B=>
   grind
 obtain⟨i,hi,u,k⟩:=f;obtain⟨g,v,C,D,E⟩:=h.el i hi
 have z:(pa y.parts i).at_<=(bD p).x:=by
  rw[v];by_cases h0:i=0
  .subst h0;show(0:Int)<=_;omega
  have:=Uq e (hi:=cM (pa y.parts (i-1))) (k (i-1) (by omega));rw[atP,vd h0];trivial
 obtain⟨o1,o2,F,G,H⟩:=tk g.cl;have c:=l.rol.ok _ (zE (show(pa y.parts i).roll.toNat<rs.length by omega));rw[<-qL (by omega)]at c;have c:=Es c
 have o:mE (pa y.parts i) (bD p)=true:=by
  have I:=ww (x:=(bD p).x+(bD p).w);simp[mE,pB];omega
 rw[dv,d,vd (by simp)];grind[oS]
theorem qPe (c:CloK m ps rs lots.length){y:Ply}(h:FinP rs lots y.lot m.width m.length (bL m.length ps).1 y.parts){p:Rp}(d:p∈ps)(a:Fv):(nP y rs a p).2=0:=by
 have b:=DF c h d;obtain⟨c1,c2⟩:=ZU b;obtain⟨g,_⟩:=h.el _ c2;obtain⟨o1,o2,f,i,j⟩:=tk g.cl;have e:=c.rol.ok _ (zE (show(pa y.parts (dv y p).1.toNat).roll.toNat<rs.length by omega));simp_all[qL,nP,vd]
end
attribute [local irreducible] IntKind.wrap wpM
def eT (sz tt:Nat):Nat->Nat->Live
 |_,0=>[]
 |j,n+1=>(1048576*(1001+j)+tt,sz+1)::eT sz tt (j+1) n
def TabG (R tb:Nat)(ids ns:Nat->Nat)(C:Nat->Option Blk)(h:ab)(z:Frz):Prop:=
 h tb=some (.row ((List.range R).map fun j=> .ref (ids j) 0 (ns j)) 1)/\z tb=0/\∀j,j<R->h (ids j)=C j/\z (ids j)=0
inductive VU (mr nx0 R b tb:Nat)(ids:Nat->Nat)(ow:List Nat):D->D->Prop where
 |pl (d:D) (h1:bi d=none) (h2:plain 4 d=true):VU mr nx0 R b tb ids ow d d
 |tab (o n:Nat):VU mr nx0 R b tb ids ow (.ref tb o n) (.ref nx0 o n)
 |row (j o n:Nat) (h:j<R):VU mr nx0 R b tb ids ow (.ref (ids j) o n) (.ref (b+j) o n)
 |own (k i o n:Nat) (h:ow[k]?=some i):VU mr nx0 R b tb ids ow (.ref i o n) (.ref (b+mr+k) o n)
 |ownp (k i o n:Nat) (h:ow[k]?=some i):VU mr nx0 R b tb ids ow (.ptr i o n) (.ptr (b+mr+k) o n)
def VsU (mr nx0 R b tb:Nat)(ids:Nat->Nat)(ow:List Nat)(t:ai):Live->Hm->Prop
 |[],[]=>True
 |x::A,d::va=>((x.2=0\/t x.1≠ .nilsl)/\dH x.1=false/\VU mr nx0 R b tb ids ow (t x.1) d)/\VsU mr nx0 R b tb ids ow t A va
 |_,_=>False
def Ee (tb:Nat)(t:ai)(A:Live):Prop:=∀x∈A,bi (t x.1)=none\/bi (t x.1)=some tb
theorem KD {nx0:Nat}{L:Ke}{b:Option Blk}(h:aI b=true):dQ nx0 L b=b:=by
 cases b with
 |none=>rfl
 |some b=>
  cases b with
  |mp d vs=>rfl
  |row es n=>
   show some (Blk.row (es.map (du nx0 L)) n)=_;congr 2;refine(yA fun x a=>?_).trans (List.map_id _);have a:=zM.1 h x a
   cases x with
   |agg l=>
    show D.agg (l.map (bN nx0 L))=.agg l;congr 1;refine(yA fun y c=>?_).trans (List.map_id _);simp[plain]at a;have c:=a y c;cases y<;>first|rfl|(simp[plain]at c)
   |_=>first|rfl|(simp[plain]at a)
theorem ER {R:Nat}{f:Nat->D}:∀{j:Nat} (s:Nat),nth ((List.range' s R).map f) j=if j<R then f (s+j)else .bad:=by
 induction R with
 |zero=>intro j s;rfl
 |succ R a=>
  intro j s
  cases j with
  |zero=>rfl
  |succ j=>
   show nth ((List.range' (s+1) R).map f) j=_;grind
theorem Dm {a b:Ke}{x:Nat}(h:some x∉a):∀(j:Nat),placeOf (a++b) x j=placeOf b x (j+a.length):=by
 induction a with
 |nil=>simp
 |cons o a d=>
  intro j
  cases o with
  |none=>grind[placeOf]
  |some y=>
   show cond (Nat.beq y x) _ _=_
   have c:Nat.beq y x=false:=by
    grind[Nat.eq_of_beq_eq_true]
   rw[c];show placeOf (a++b) x (j+1)=_;grind
theorem N4 {R:Nat}{ids:Nat->Nat}(b:∀i j,i<R->j<R->ids i=ids j->i=j){c:Ke}:∀(n s j a:Nat),s<=j->j<s+n->j<R->
 placeOf (((List.range' s n).map fun i=>if i<R then some (ids i)else none)++c) (ids j) a=some (a+(j-s))
 |0,s,j,a,h1,d,_=>by omega
 |n+1,s,j,a,h1,d,h3=>by
  rw[xb,zg,xN,rA];show cond (Nat.beq (ids s) (ids j)) _ _=_;by_cases e:s=j
  simp_all
  .have f:Nat.beq (ids s) (ids j)=false:=by
    grind[Nat.eq_of_beq_eq_true]
   rw[N4 b n (s+1) j (a+1) (by omega) (by omega) h3];grind
section
variable {sz mr:Nat}
variable {nx0 R tt tb nx:Nat}{ids ns:Nat->Nat}{ow:List Nat}{C:Nat->Option Blk}{t:ai}{h:ab}{z:Frz}{A Bn O:Live}
theorem Kl (a:tt<1048576)(b:t tt=.ref tb 0 R)(c:TabG R tb ids ns C h z)(j:Nat):look t h (1048576*(1001+j)+tt)=if j<R then .ref (ids j) 0 (ns j)else .bad:=by
 have d:dH (1048576*(1001+j)+tt)=true:=zw (by omega);have e:(1048576*(1001+j)+tt)%1048576=tt:=by omega
 have f:(1048576*(1001+j)+tt)/1048576=1001+j:=by omega
 unfold look;rw[d,e,f,b];simp only[show Nat.ble 1001 (1001+j)=true from zw (by omega),c.1];simp[xI,ER]
theorem Iy (a:tt<1048576)(b:t tt=.ref tb 0 R)(c:TabG R tb ids ns C h z):∀(n j:Nat),bS t h (eT sz tt j n)=(List.range' j n).map fun i=>if i<R then some (ids i)else none
 |0,j=>rfl
 |n+1,j=>by
  show bi (look t h _)::bS t h (eT sz tt (j+1) n)=_;rw[Iy a b c n (j+1),Kl a b c,xb,zg];split<;>rfl
theorem ol {x:Nat}(a:dH x=false):look t h x=t x:=by grind[look]
theorem Df (a:tt<1048576)(b:t tt=.ref tb 0 R)(c:TabG R tb ids ns C h z):∀(n j:Nat),cL (eT sz tt j n) ⟨t,h,z,nx⟩=⟨t,h,z,nx⟩
 |0,j=>rfl
 |n+1,j=>by
  show cL (eT sz tt (j+1) n) (dD (1048576*(1001+j)+tt) (sz+1) ⟨t,h,z,nx⟩)=_;have g:dH (1048576*(1001+j)+tt)=true:=zw (by omega);have d:(1048576*(1001+j)+tt)%1048576=tt:=by omega
  have f:(1048576*(1001+j)+tt)/1048576=1001+j:=by omega
  have e:dD (1048576*(1001+j)+tt) (sz+1) ⟨t,h,z,nx⟩=⟨t,h,z,nx⟩:=by
   unfold dD;simp only[d,f,b,show Nat.ble 1001 (1001+j)=true from zw (by omega),c.1];rw[show 0+(1001+j-1001)=j by omega,xI,ER,zC];grind
  rw[e,Df a b c n (j+1)]
theorem s9 {b:Nat}{L:Live}:∀{A:Live} {va:Hm},VsU mr nx0 R b tb ids ow t A va->cL (A++L) ⟨t,h,z,nx⟩=cL L ⟨t,h,z,nx⟩
 |[],_,_=>rfl
 |x::A,[],a=>a.elim
 |x::A,d::va,a=>by
  show cL (A++L) (dD x.1 x.2 ⟨t,h,z,nx⟩)=_
  have e:dD x.1 x.2 ⟨t,h,z,nx⟩=⟨t,h,z,nx⟩:=by
   unfold dD;rw[a.1.2.1];show gn x.1 x.2 _=_;unfold gn;split
   .rcases a.1.1 with h3|h3
    omega;grind
   rfl
  rw[e,s9 a.2]
def rg (nx0:Nat)(L:Ke)(t:ai)(h:ab)(x:Nat×Nat):Bool:=
 match bi (look t h x.1)with
 |none=>match dH x.1 with|true=>true|false=>plainO nx0 (t x.1)
 |some id=>eR nx0 L (h id)
theorem Ln {L:Ke}:∀{live:Live},(∀x∈live,rg nx0 L t h x=true)->gj nx0 L h t live=true
 |[],_=>rfl
 |x::l,a=>by
  show(rg nx0 L t h x&&gj nx0 L h t l)=true;rw[a x (zO ..),Ln fun y b=>a y (zG _ b)];rfl
theorem FS {l1 l2:Live}:∀{s:St},cL (l1++l2) s=cL l2 (cL l1 s):=by
 induction l1 with
 |nil=>intro s;rfl
 |cons x l a=>exact a
theorem KY:∀{n j:Nat} {x:Nat×Nat},x∈eT sz tt j n->∃i,x=(1048576*(1001+i)+tt,sz+1)
 |0,j,x,a=>by cases a
 |n+1,j,x,a=>by
  rcases zP.1 a with e|e
  grind
  .exact KY e
theorem By {b:Nat}:∀{A:Live} {va:Hm},VsU mr nx0 R b tb ids ow t A va->∀x∈A,dH x.1=false/\∃d,VU mr nx0 R b tb ids ow (t x.1) d
 |[],_,_,x,c=>by grind
 |y::A,[],a,_,_=>a.elim
 |y::A,d::va,a,x,c=>by
  rcases zP.1 c with rfl|e
  .exact⟨a.1.2.1,d,a.1.2.2⟩
  exact By a.2 x e
theorem Cb (L:Ke)(l1 l2:Live):fu nx0 L t (l1++l2)=fu nx0 L t l1++fu nx0 L t l2:=by
 induction l1 with
 |nil=>rfl
 |cons x l a=>grind[fu]
theorem H8 (L:Ke):∀(n j:Nat),fu nx0 L t (eT sz tt j n)=List.replicate n .bad
 |0,j=>rfl
 |n+1,j=>by
  rw[eT,fu,H8 L n,show dH (1048576*(1001+j)+tt)=true from zw (by omega)];rfl
theorem IA {b:Ke}:∀{ow:List Nat} {k i a:Nat},ow.Nodup->ow[k]?=some i->placeOf (ow.map some++b) i a=some (a+k)
 |[],k,i,a,_,h=>by grind
 |x::ow,0,i,a,_,h=>by
  cases h;show cond (Nat.beq x x) _ _=_;simp
 |x::ow,k+1,i,a,c,h=>by
  obtain⟨e,d⟩:=wJ.1 c;show cond (Nat.beq x i) _ (placeOf (ow.map some++b) i (a+1))=_
  rw[show Nat.beq x i=false from by
   grind[Nat.eq_of_beq_eq_true],IA d h]
  grind
theorem U0 {t0:ai}{h0:ab}{c:Frz}{a:Nat}{live:Live}{L:Ke}{K:ab->Frz->Kept->Prop}(d:cL live ⟨t0,h0,c,a⟩=⟨t,h,z,nx⟩)(hi:bS t h live=L)(e:gj nx0 L h t live=true)
 (f:K (dn nx0 L h) z (fu nx0 L t live,gP nx0 L none (fun i=>dQ nx0 L (h i)) L nx0,gP nx0 L 0 z L nx0)) (b:eV live=true):bz nx0 live t0 h0 c a K:=
 cm d hi e rfl rfl rfl f b
theorem sQ {t0:ai}{h0:ab}{z0:Frz}{v:Nat}{live:Live}{va vb vo:Hm}{b:Nat}{K:ab->Frz->Kept->Prop}(hn:cL live ⟨t0,h0,z0,v⟩=⟨t,h,z,nx⟩)(hb:nx0+1+A.length=b)(hl:(tt,0)::(A++(eT sz tt 0 mr++(O++Bn)))=live)(Q:t tt=.ref tb 0 R)(hR:R<=mr)(q:TabG R tb ids ns C h z)
 (U:∀i j,i<R->j<R->ids i=ids j->i=j) (l:∀j,j<R->nx0<=ids j/\ids j≠tb) (w:nx0<=tb) (hC:∀j,j<R->aI (C j)=true)
 (hA:VsU mr nx0 R b tb ids ow t A va) (V:Ee tb t A) (hB:VsU mr nx0 R b tb ids ow t Bn vb)
 (hO:VsU mr nx0 R b tb ids ow t O vo) (W:bS t h O=ow.map some) (X:ow.Nodup) (u:∀i∈ow,nx0<=i/\i≠tb/\(∀j,j<R->ids j≠i)/\aI (h i)=true)
 (hk:∀Y Z h1 z1,(∀y zo,TabG R nx0 (fun j=>b+j) ns C (mkF nx0 y none Y nx0) (mkF nx0 zo 0 Z nx0)/\∀k i,ow[k]?=some i->mkF nx0 y none Y nx0 (b+mr+k)=h i/\mkF nx0 zo 0 Z nx0 (b+mr+k)=z i)->K h1 z1 (.ref nx0 0 R::(va++(List.replicate mr .bad++(vo++vb))),Y,Z))
 (B:tt<1048576:=by decide) (E:eV live=true:=by rfl):bz nx0 live t0 h0 z0 v K:=by
 subst hl
 have F:dH tt=false:=by
  unfold dH
  cases hq:Nat.ble 1048576 tt with
  |false=>rfl
  |true=>exact absurd (zk hq) (by omega)
 have hL:bS t h ((tt,0)::(A++(eT sz tt 0 mr++(O++Bn))))=some tb::(bS t h A++(((List.range' 0 mr).map fun i=>if i<R then some (ids i)else none)++(ow.map some++bS t h Bn))):=by
  rw[<-Iy B Q q mr 0,<-W];unfold bS;rw[zg,zb,zb,zb,ol F,Q];rfl
 generalize G:some tb::(bS t h A++(((List.range' 0 mr).map fun i=>if i<R then some (ids i)else none)++(ow.map some++bS t h Bn)))=L at hL;have H:(bS t h A).length=A.length:=zA ..
 have S:∀o∈bS t h A,o=none\/o=some tb:=by
  intro o y;obtain⟨x,a,rfl⟩:=zy.1 y;rw[ol (By hA x a).1];exact V x a
 have r:∀x,x≠tb->some x∉some tb::bS t h A:=by
  grind
 have pt:placeOf L tb nx0=some nx0:=by
  rw[<-G];show cond (Nat.beq tb tb) _ _=_;simp
 have s:(some tb::bS t h A)++(((List.range' 0 mr).map fun i=>if i<R then some (ids i)else none)++(ow.map some++bS t h Bn))=L:=G
 have pr:∀j,j<R->placeOf L (ids j) nx0=some (b+j):=by
  intro j c;rw[<-s,Dm (r _ (l j c).2),N4 U mr 0 j _ (by omega) (by omega) c,yM,H];grind
 have po:∀k i,ow[k]?=some i->placeOf L i nx0=some (b+mr+k):=by
  intro k i I;have hm:=zh I;obtain⟨q1,q2,q3,q4⟩:=u i hm;rw[<-s,Dm (r _ q2),Dm,IA X I,yM,H];grind;grind
 have J:∀x,nx0<=x->Nat.blt x nx0=false:=by
  intro x a
  cases hq:Nat.blt x nx0 with
  |false=>rfl
  |true=>exact absurd (zk hq) (by omega)
 have a2:∀x p o n,nx0<=x->placeOf L x nx0=some p->bN nx0 L (.ref x o n)=.ref p o n:=by
  intro x p o n a M;show(match Nat.blt x nx0 with|true=>_|false=>_)=_;rw[J x a];rw[M];rfl
 have b2:∀x p o n,nx0<=x->placeOf L x nx0=some p->bN nx0 L (.ptr x o n)=.ptr p o n:=by
  intro x p o n a M;show(match Nat.blt x nx0 with|true=>_|false=>_)=_;rw[J x a];rw[M];rfl
 have kv:∀e d,VU mr nx0 R b tb ids ow e d->bN nx0 L e=d:=by
  intro e d f
  cases f with
  |pl d h1 T=>grind[bN]
  |tab o n=>grind
  |row j o n c=>grind
  |own k i o n hi=>grind
  |ownp k i o n hi=>grind
 have b3:∀{A:Live} {va:Hm},VsU mr nx0 R b tb ids ow t A va->fu nx0 L t A=va:=by
  intro A
  induction A with
  |nil=>intro va f;cases va with
   |nil=>rfl
   |cons d va=>trivial
  |cons x A ih=>
   intro va f
   cases va with
   |nil=>trivial
   |cons d va=>
    rw[fu,f.1.2.1,ih f.2];rw[kv _ _ f.1.2.2]
 have b5:eR nx0 L (h tb)=true:=by
  rw[q.1];show((List.range R).map _).all _=true;rw[xz,zM];intro j c;show jM nx0 L (.ref (ids j) 0 (ns j))=true;grind[jM,bi]
 have N:∀j,j<R->eR nx0 L (h (ids j))=true:=by
  intro j c;rw[(q.2.2 j c).1];grind[lB]
 have b6:∀(A:Live) (va:Hm),VsU mr nx0 R b tb ids ow t A va->∀x∈A,rg nx0 L t h x=true:=by
  intro A va f x a;obtain⟨h1,d,T⟩:=By f x a;unfold rg;rw[ol h1,h1];generalize t x.1=e at*
  cases T with
  |pl _ h1 T=>grind[plainO]
  |tab o n=>trivial
  |row j o n c=>exact N j c
  |own k i o n hi=>exact lB (u i (zh hi)).2.2.2
  |ownp k i o n hi=>exact lB (u i (zh hi)).2.2.2
 refine U0 hn hL ?_ ?_ E
 .refine Ln fun x a=>?_;rcases zP.1 a with rfl|a
  .unfold rg;rw[ol F,Q];trivial
  rcases za.1 a with a|a
  grind;rcases za.1 a with a|a
  .obtain⟨i,rfl⟩:=KY a;unfold rg;rw[Kl B Q q];by_cases hi:i<R
   .rw[ve hi];exact N i hi
   grind[bi,dH,Nat.ble_eq_true_of_le]
  grind
 have f:fu nx0 L t ((tt,0)::(A++(eT sz tt 0 mr++(O++Bn))))=.ref nx0 0 R::(va++(List.replicate mr .bad++(vo++vb))):=by
  grind[fu,Cb,H8]
 rw[f];refine hk _ _ _ _ fun y zo=>?_;rw[<-qi _ _ (zD _),<-qi _ _ (zD _)]
 have m:∀{α:Type} (P:Nat->α) (bot:α) (g:Nat->α) (x p:Nat),nx0<=x->placeOf L x nx0=some p->bC nx0 L P bot g L nx0 p=g x:=by
  intro α P bot g x p a M;obtain⟨h1,T⟩:=oX L x nx0 p M;simp_all[qE,vd]
 refine⟨⟨?_,?_,fun j c=>⟨?_,?_⟩⟩,fun k i hi=>⟨?_,?_⟩⟩
 .rw[m _ _ _ tb nx0 w pt,q.1];show some (Blk.row _ 1)=_;rw[yv];congr 2;apply yA;intro j c;exact a2 _ _ 0 (ns j) (l j (yN.1 c)).1 (pr j (yN.1 c))
 .rw[m _ _ _ tb nx0 w pt];exact q.2.1
 .rw[m _ _ _ _ _ (l j c).1 (pr j c),(q.2.2 j c).1];grind[KD]
 .rw[m _ _ _ _ _ (l j c).1 (pr j c)];exact(q.2.2 j c).2
 grind[KD];grind
theorem EE {b:Nat}{va:Hm}(d:t tt=.ref tb 0 R)(e:TabG R tb ids ns C h z)(f:VsU mr nx0 R b tb ids ow t A va)(a:tt<1048576:=by decide)(c:dH tt=false:=by rfl):cL ((tt,0)::(A++(eT sz tt 0 mr++O))) ⟨t,h,z,nx⟩=cL O ⟨t,h,z,nx⟩:=by
 show cL (A++(eT sz tt 0 mr++O)) (dD tt 0 ⟨t,h,z,nx⟩)=_;rw[show dD tt 0 ⟨t,h,z,nx⟩=⟨t,h,z,nx⟩by unfold dD;rw[c];rfl,s9 f,FS,Df a d e]
theorem pw {live:Live}{va vb:Hm}{b:Nat}{K:ab->Frz->Kept->Prop}(w:nx0+1+A.length=b)(q:(tt,0)::(A++(eT sz tt 0 mr++Bn))=live)(r:t tt=.ref tb 0 R)(x:R<=mr)(s:TabG R tb ids ns C h z)
 (f:∀i j,i<R->j<R->ids i=ids j->i=j) (g:∀j,j<R->nx0<=ids j/\ids j≠tb) (k:nx0<=tb) (y:∀j,j<R->aI (C j)=true)
 (u:VsU mr nx0 R b tb ids [] t A va) (l:Ee tb t A) (v:VsU mr nx0 R b tb ids [] t Bn vb)
 (B:∀d e h1 m,(∀n o,TabG R nx0 (fun j=>b+j) ns C (mkF nx0 n none d nx0) (mkF nx0 o 0 e nx0))->K h1 m (.ref nx0 0 R::(va++(List.replicate mr .bad++vb)),d,e))
 (a:tt<1048576:=by decide) (p:dH tt=false:=by rfl) (c:eV live=true:=by rfl):bz nx0 live t h z nx K:=by
 refine sQ (nx:=nx) (O:=[]) (vo:=[]) ?_ w q r x s f g k y u l v tr rfl .nil (fun i hi=>by grind) (fun d e h1 m E=>B d e h1 m fun n o=>(E n o).1) a c;subst q;show cL (A++(eT sz tt 0 mr++Bn)) (dD tt 0 ⟨t,h,z,nx⟩)=_;rw[show dD tt 0 ⟨t,h,z,nx⟩=⟨t,h,z,nx⟩by unfold dD;rw[p];rfl,s9 u,FS,Df a r s,<-yI Bn,s9 v];rfl
theorem O5 {R r:Nat}{f:Nat->D}{d:D}:((List.range R).map f).set r d=(List.range R).map fun j=>if j=r then d else f j:=by
 apply zp;simp;grind
theorem B3 (a:tt<1048576)(c:t tt=.ref tb 0 R){N:Nat}(f:tb<N):∀(n j:Nat) (h:ab) (z:Frz),h tb=some (.row ((List.range R).map fun i=>if i<j then .ref (N+i) 0 0 else .nilsl) 1)->z tb=0->(∀i,i<j->i<R->h (N+i)=some (.row [] (sz+1))/\z (N+i)=0)->
 ∃h' z',cL (eT sz tt j n) ⟨t,h,z,N+min j R⟩=⟨t,h',z',N+min (j+n) R⟩/\h' tb=some (.row ((List.range R).map fun i=>if i<j+n then .ref (N+i) 0 0 else .nilsl) 1)/\z' tb=0/\∀i,i<j+n->i<R->h' (N+i)=some (.row [] (sz+1))/\z' (N+i)=0
 |0,j,h,z,h1,d,h3=>⟨h,z,rfl,h1,d,h3⟩
 |n+1,j,h,z,h1,d,h3=>by
  have g:dH (1048576*(1001+j)+tt)=true:=zw (by omega);have k:(1048576*(1001+j)+tt)%1048576=tt:=by omega
  have l:(1048576*(1001+j)+tt)/1048576=1001+j:=by omega
  have b:nth ((List.range R).map fun i=>if i<j then(D.ref (N+i) 0 0)else .nilsl) j=if j<R then .nilsl else .bad:=by
   simp[xI,ER]
  have e:dD (1048576*(1001+j)+tt) (sz+1) ⟨t,h,z,N+min j R⟩=if j<R then⟨t,upd (upd h (N+j) (some (.row [] (sz+1)))) tb (some (.row ((List.range R).map fun i=>if i=j then .ref (N+j) 0 0 else if i<j then .ref (N+i) 0 0 else .nilsl) 1)),upd z (N+j) 0,N+j+1⟩else⟨t,h,z,N+min j R⟩:=by
   unfold dD;simp only[g,k,l,c,show Nat.ble 1001 (1001+j)=true from zw (by omega),h1];rw[show 0+(1001+j-1001)=j by omega,b];by_cases h:j<R
   .rw[ve h,ve h,O5,wI (by omega)]
   grind
  show∃h' z',cL (eT sz tt (j+1) n) (dD (1048576*(1001+j)+tt) (sz+1) ⟨t,h,z,N+min j R⟩)=_/\_;rw[e,show j+(n+1)=j+1+n by omega];by_cases m:j<R
  .have:=B3 a c f n (j+1) (upd (upd h (N+j) (some (.row [] (sz+1)))) tb (some (.row ((List.range R).map fun i=>if i=j then .ref (N+j) 0 0 else if i<j then .ref (N+i) 0 0 else .nilsl) 1))) (upd z (N+j) 0) ?_ ?_ ?_;grind
   .rw[upd_same];grind
   grind[upd_ne];grind[upd_ne,upd_same]
  have:=B3 a c f n (j+1) h z ?_ d ?_;grind
  .rw[h1];congr 2;apply yA;grind
  grind
theorem QD {live:Live}{va:Hm}{b:Nat}{K:ab->Frz->Kept->Prop}(p:nx0+1+A.length=b)(q:(tt,0)::(A++eT sz tt 0 mr)=live)(m:t tt=.ref tb 0 R)(r:R<=mr)(s:h tb=some (.row (List.replicate R .nilsl) 1))(u:z tb=0)(v:tb<nx)(d:nx0<=tb)
 (n:VsU mr nx0 R b tb (fun j=>nx+j) [] t A va) (f:Ee tb t A)
 (G:∀g k h1 o,(∀w x,TabG R nx0 (fun j=>b+j) (fun _=>0) (fun _=>some (.row [] (sz+1))) (mkF nx0 w none g nx0) (mkF nx0 x 0 k nx0))->K h1 o (.ref nx0 0 R::(va++List.replicate mr .bad),g,k))
 (a:tt<1048576:=by decide) (l:dH tt=false:=by rfl) (c:eV live=true:=by rfl):bz nx0 live t h z nx K:=by
 obtain⟨h',z',H,y,B,E⟩:=B3 (t:=t) (tt:=tt) a m v mr 0 h z (by
  rw[s];congr 2;apply zp;simp
  simp) u (fun i hi=>by omega)
 refine sQ (O:=[]) (vo:=[]) (ow:=[]) (Bn:=[]) (vb:=[]) (ids:=fun j=>nx+j) (ns:=fun _=>0) (C:=fun _=>some (.row [] (sz+1))) (nx:=nx+min (0+mr) R) (h:=h') (z:=z') ?_ p (by rw[yI,yI];omega) m r ⟨?_,B,fun j F=>E j (by omega) F⟩ (fun i j _ _ e=>by omega) (fun j _=>⟨by omega,by omega⟩) d (fun _ _=>rfl) n f tr tr rfl .nil (fun i hi=>by grind) (fun g k h1 o I=>by grind) a c
 .subst q;show cL (A++eT sz tt 0 mr) (dD tt 0 ⟨t,h,z,nx⟩)=_;rw[show dD tt 0 ⟨t,h,z,nx⟩=⟨t,h,z,nx⟩by unfold dD;rw[l];rfl,s9 n];grind
 rw[y];congr 2;apply yA;grind
end
def nsT (T:List Part)(j:Nat):Nat:=(zof T j).length
def cT (T:List Part)(j:Nat):Option Blk:=some (.row ((zof T j).map Zone.enc) 2)
def TabT (R b:Nat)(T:List Part)(a:RU)(c:List Nat):Prop:=∀d e,TabG R 76 (fun j=>b+j) (nsT T) (cT T) (mkF 76 d none a 76) (mkF 76 e 0 c 76)
theorem mB (T:List Part)(j:Nat):aI (cT T j)=true:=ae qf _
section
variable {T:Tab}{sh:Shr}{nx0:Nat}{s:List Fr}{t:ai}{h:ab}{z:Frz}{nx:Nat}{q:Ex->ai->ab->Frz->Nat->Prop}
theorem rJ {α:Type}(S:α->Kept)(C:α->Prop)(m:α->Nat){live:Live}{c:K}(M:Nat)(o:M<2^62)
 (h0:bz nx0 live t h z nx fun _ _ kp=>∃a,C a/\m a<=M/\kp=S a)
 (hr:∀a,C a->∀(d:ab) (e:Frz),∀N:ai->ab->Frz->Nat->Prop,(∀{t:ai} {h:ab} {z:Frz} {nx:Nat},(bz nx0 live t h z nx fun _ _ kp=>∃b,C b/\m b<m a/\kp=S b)->N t h z nx)->
   wpM T sh nx0 [.code c] .normal (mkT live (S a).1) (mkF nx0 d none (S a).2.1 nx0) (mkF nx0 e 0 (S a).2.2 nx0) (nx0+live.length) fun k t h z nx=>
    match k with
    |.normal=>N t h z nx
    |.exit i=>wpM T sh nx0 s (.exit i) t h z nx q
    |.ret=>wpM T sh nx0 s .ret t h z nx q):
 wpM T sh nx0 (.code (.loop live c)::s) .normal t h z nx q:=by
 obtain⟨_,_,_,⟨a,g,l,rfl⟩,j⟩:=my h0;refine bO S (fun _ _ _=>True) C m a g (by omega) (j _ ⟨rfl,tr⟩) fun a n d e _ N p=>hr a n d e N fun f=>?_;obtain⟨_,_,_,⟨b,g,l,rfl⟩,j⟩:=my f;grind
end
theorem TabG.upd {R tb:Nat}{ids ns:Nat->Nat}{C:Nat->Option Blk}{h:ab}{z:Frz}(a:TabG R tb ids ns C h z){x:Nat}{v:Option Blk}(h1:x≠tb)(c:∀j,j<R->x≠ids j):TabG R tb ids ns C (Go.F.upd h x v) z:=
 ⟨by rw[upd_ne h1.symm];exact a.1,a.2.1,fun j b=>by rw[upd_ne (c j b).symm];exact a.2.2 j b⟩
theorem TabG.updz {R tb:Nat}{ids ns:Nat->Nat}{C:Nat->Option Blk}{h:ab}{z:Frz}(a:TabG R tb ids ns C h z){x v:Nat}(h1:x≠tb)(c:∀j,j<R->x≠ids j):TabG R tb ids ns C h (Go.F.upd z x v):=
 ⟨a.1,by rw[upd_ne h1.symm];exact a.2.1,fun j b=>by rw[upd_ne (c j b).symm];exact a.2.2 j b⟩
theorem but_h {m n base id:Nat}{h:ab}(h1:id<base)(a:id+2≠base):(Gd.but [1] m n).h base h id=h id:=by
 have e:Nat.beq (id+2) base=false:=by
  grind[Nat.eq_of_beq_eq_true]
 show cond ((Nat.blt id base||_)&&(!Nat.beq (id+2) base&&true)) _ _=_;grind[Nat.blt,Nat.ble_eq_true_of_le]
theorem but_z {m n base id:Nat}{z:Frz}(h1:id<base)(a:id+2≠base):(Gd.but [1] m n).z base z id=z id:=by
 have e:Nat.beq (id+2) base=false:=by
  grind[Nat.eq_of_beq_eq_true]
 show cond ((Nat.blt id base||_)&&(!Nat.beq (id+2) base&&true)) _ _=_;grind[Nat.blt,Nat.ble_eq_true_of_le]
theorem km {m n base id:Nat}{h:ab}(h1:id<base):(Gd.bef m n).h base h id=h id:=by
 show cond (Nat.blt id base||_) _ _=_;grind[Nat.blt,Nat.ble_eq_true_of_le]
theorem TabG.app {R tb b:Nat}{T:List Part}{h:ab}{z:Frz}(a:TabG R tb (fun j=>b+j) (nsT T) (cT T) h z){q:Part}{r X v:Nat}(hr:r<R)(c:q.roll=r)(f:X≠tb)(i:b+R<=X)(k:v=0)(l:tb<b){d:D}(m:d=.ref X 0 (nsT T r+1)):
 (Go.F.upd (Go.F.upd h (b+r) none) X (some (.row ((zof T r).map Zone.enc++[Zone.enc ⟨q.from_,q.to⟩]) 2))) tb=some (.row ((List.range R).map fun j=> .ref (b+j) 0 (nsT T j)) 1)/\
 TabG R tb (fun j=>if j=r then X else b+j) (nsT (T++[q])) (cT (T++[q])) (Go.F.upd (Go.F.upd (Go.F.upd h (b+r) none) X (some (.row ((zof T r).map Zone.enc++[Zone.enc ⟨q.from_,q.to⟩]) 2))) tb (some (.row (((List.range R).map fun j=> .ref (b+j) 0 (nsT T j)).set r d) 1))) (Go.F.upd z X v):=by
 subst m k;refine⟨by rw[upd_ne f.symm,upd_ne (by omega)];exact a.1,?_,by rw[upd_ne f.symm];exact a.2.1,fun j g=>?_⟩
 .rw[upd_same,O5];congr 2;apply yA;intro j g;unfold nsT;rw[uM,c];grind
 unfold cT;rw[uM,c];dsimp only;by_cases e:j=r
 simp_all[upd_ne,upd_same]
 .rw[vd e,eE,upd_ne (by omega),upd_ne (by omega),upd_ne (by omega),upd_ne (by omega)];exact a.2.2 j g
def rD (a b:Zone):Int:=br a.lo b.lo
theorem WK (a b:Zone):PU 71 [a.enc,b.enc]=some (.int .i64 (rD a b)):=by
 refine PS rfl ?_
 repeat' (first
  |refine jP rfl ?_
  |refine gr rfl ?_|refine aq rfl ?_|refine au rfl ?_ ?_<;>intro _
  |refine ak rfl ?_|refine aj rfl ?_|refine an rfl ?_ ?_<;>intro _
  |refine aL rfl ?_ ?_<;>intro _
  |refine fI rfl ?_
  |refine aB rfl rfl (js _ _) ?_)
 rfl
theorem Chain.pair:∀{l:List Zone} {s e:Int},Chain l s e->(∀z∈l,s<=z.lo)/\l.Pairwise fun a b=>a.hi<=b.lo/\a.lo<b.lo
 |[],_,_,_=>⟨by simp,.nil⟩
 |z::l,s,e,⟨h1,g,h3⟩=>by
  obtain⟨d,f⟩:=Chain.pair h3;refine⟨fun x c=>?_,yl.2 ⟨fun x c=>?_,f⟩⟩
  .rcases zP.1 c with rfl|c
   .omega
   have:=d x c;omega
  have:=d x c;omega
theorem GI {α:Type}{c:α->α->Int}:∀{l:List α},(l.Pairwise fun a b=>c a b<0)->dw c l=l
 |[],_=>rfl
 |[x],_=>rfl
 |x::y::l,h=>by
  have h1:=(yl.1 h).1 y (zO ..);rw[dw,GI (yl.1 h).2,iF,ve h1]
theorem Ym (z:Zone):eqD z.enc z.enc=true:=by simp[Zone.enc,eqD,eqL]
theorem UF {l:List Zone}(d:∃e,Chain l 0 e)(j:l.length<4611686018427387904){h:ab}{z:Frz}{nx id:Nat}(f:h id=some (.row (l.map Zone.enc) 2))(m:z id=0):
 fM TT.pu [1,2] [.ref id 0 l.length,.fn 71 [] []] h z nx=some (.tup [],h,z,nx):=by
 obtain⟨e,d⟩:=d;have g:l.Pairwise fun a b=>rD a b<0:=d.pair.2.imp fun⟨_,h⟩=>by grind[rD,br]
 have i:=GI g;have:=tT (c:=rD) (enc:=Zone.enc) (l:=l) (nx:=nx) WK Ym (fun x=>by simp[rD,br]) (fun x y h=>by grind[rD,br]) qf (k:=2) (fun _=>rfl) (by rw[i];exact g.imp .inl) j f m;rw[i,dY f]at this
 trivial
theorem Yb (Q:List Ply)(k:Nat):(cy (Q.take k)).length<=(cy Q).length:=by
 grind[cy,List.take_append_drop]
theorem Lo (R:Nat)(p:R<=6)(m:Mkr)(Q:List Ply)(rs:List RollS)(hR:rs.length=R)(hQ:Q.length<=1000)(a4:∀y∈Q,y.parts.length<=1000)(a5:∀y∈Q,∀q∈y.parts,gl q rs=true)(K:ChI (cy Q))(a6:(cy Q).length<=1000000)
 {h:ab} {z:Frz} {Kq:D->ab->Frz->Nat->Prop} (hk:∀h' z',TabG R 76 (fun j=>80+j) (nsT (cy Q)) (cT (cy Q)) h' z'->Kq (.tup [.ref 76 0 R,.bool true]) h' z' 182):
 wpM TT (shr TT 5) 76 [.code ZD.1.code] .normal (enter [di m Q,rolls rs]) h z 76 (bB ZD.1 Kq):=by
 refine gg rfl (eu R rfl rfl (by grind) (by grind[aK]) ?_);refine gg rfl ?_;simp only[zA]
 refine rJ (S:=fun x:Nat×RU×List Nat=>(.ref 76 0 R::([.lst (Q.map Ply.enc),aa Q.length,aa x.1]++List.replicate 6 .bad),x.2.1,x.2.2))
  (C:=fun x=>x.1<=Q.length/\TabT R 80 (cy (Q.take x.1)) x.2.1 x.2.2) (m:=fun x=>Q.length-x.1) Q.length (by omega) ?_ ?_
 .refine QD (sz:=1) (mr:=6) (tt:=6) (tb:=95) (R:=R) (A:=[(18,0),(19,0),(20,0)]) (b:=80) (va:=[.lst (Q.map Ply.enc),aa Q.length,aa 0]) rfl rfl rfl p rfl rfl (by decide) (by decide) ⟨⟨.inl rfl,rfl,.pl _ rfl rfl⟩,⟨.inl rfl,rfl,.pl _ rfl rfl⟩,⟨.inl rfl,rfl,.pl _ rfl rfl⟩,tr⟩ ?_ fun l o _ _ a=>?_
  .intro x g;simp at g;rcases g with rfl|rfl|rfl<;>exact .inl rfl
  exact⟨(0,l,o),⟨zB _,a⟩,by simp,rfl⟩
 rintro⟨k,l,o⟩ ⟨a7,M⟩ ho zo N hN;dsimp only at a7 M hN⊢;have a:=M ho zo;generalize mkF 76 ho none l 76=H at*;generalize mkF 76 zo 0 o 76=Z at*;refine jC rfl (fun e=>?_) (fun e=>?_)
 .rw[ad]at e;have c:k<Q.length:=by omega
  have w1:=wS (n:=k);have he:(Q.map Ply.enc)[k]?=some Q[k].enc:=by grind
  have F:=a5 _ (zE c);have a9:=a4 _ (zE c);have b7:(cy (Q.take (k+1))).length<=1000000:=zR (Yb Q (k+1)) a6;have O:cy (Q.take (k+1))=cy (Q.take k)++Q[k].parts:=by rw[yd c,E0]
  generalize Q[k]=y at*;obtain⟨lt,P⟩:=y;dsimp only at F O a9;generalize cy (Q.take k)=T0 at*;refine jX k rfl rfl he rfl (gg rfl ?_);rw[zA]
  refine rJ (S:=fun x:Nat×RU×List Nat=>(.ref 76 0 R::([.lst (Q.map Ply.enc),aa Q.length,aa k,parts P,aa P.length,aa x.1]++List.replicate 6 .bad),x.2.1,x.2.2))
   (C:=fun x=>x.1<=P.length/\TabT R 83 (T0++P.take x.1) x.2.1 x.2.2) (m:=fun x=>P.length-x.1) P.length (by omega) ?_ ?_
  .refine pw (sz:=1) (mr:=6) (tt:=6) (tb:=76) (R:=R) (ids:=fun j=>80+j) (ns:=nsT T0) (C:=cT T0) (A:=[(18,0),(19,0),(20,0),(25,0),(26,0),(27,0)]) (Bn:=[]) (b:=83) (va:=[.lst (Q.map Ply.enc),aa Q.length,aa k,parts P,aa P.length,aa 0]) (vb:=[]) rfl rfl rfl p (((a.upd (by omega) (by omega)).upd (by omega) (by omega)).updz (by omega) (by omega)) (fun i j _ _ e=>by omega) (fun j _=>⟨by omega,by omega⟩) (by decide) (fun j _=>mB _ _) ⟨⟨.inl rfl,rfl,.pl _ rfl rfl⟩,⟨.inl rfl,rfl,.pl _ rfl rfl⟩,⟨.inl rfl,rfl,.pl _ rfl rfl⟩,⟨.inl rfl,rfl,.pl _ rfl rfl⟩,⟨.inl rfl,rfl,.pl _ rfl rfl⟩,⟨.inl rfl,rfl,.pl _ rfl rfl⟩,tr⟩ ?_ tr fun l o _ _ a=>?_
   .intro x g;simp at g;rcases g with rfl|rfl|rfl|rfl|rfl|rfl<;>exact .inl rfl
   exact⟨(0,l,o),⟨zB _,by rw[yo,yI];exact a⟩,by simp,rfl⟩
  rintro⟨j,b0,U⟩ ⟨b8,w⟩ G B N2 I;have f:=w G B;generalize mkF 76 B 0 U 76=Z2 at*;refine jC rfl (fun J=>?_) (fun J=>?_)
  .rw[ad]at J;have s:j<P.length:=by omega
   have w2:=wS (n:=j);have V:=nv s;have hq:=tk (F _ (zE s));have W:T0++P.take (j+1)=(T0++P.take j)++[P[j]]:=by simp
   rw[oS s]at V;have c3:(T0++P.take j).length<=1000000:=by grind
   generalize P[j]=q at*;generalize T0++P.take j=T at*;obtain⟨r,hr⟩:∃r:Nat,q.roll=r:=⟨q.roll.toNat,by omega⟩;refine jX j rfl rfl V rfl (gg rfl ?_);have t:r<R:=by omega
   refine aA r rfl f.1 rfl rfl hr (by omega) ?_;refine aQ rfl f.1 (e:=.ref (83+r) 0 (nsT T r)) (by grind) rfl ?_;refine gg rfl ?_;have E:=((((f.upd (x:=113) (v:=some (.row [.agg [.int .i64 0,.int .i64 0,.int .i64 0,.int .i64 0]] 4)) (by omega) (by omega)).upd (x:=113) (v:=some (.row [q.enc] 4)) (by omega) (by omega)).upd (x:=128) (v:=some (.row [Zone.enc ⟨q.from_,q.to⟩] 2)) (by omega) (by omega)).updz (x:=113) (v:=0) (by omega) (by omega)).updz (x:=128) (v:=0) (by omega) (by omega);refine bI (es:=(zof T r).map Zone.enc) (new:=[Zone.enc ⟨q.from_,q.to⟩]) rfl ((but_h (by omega) (by omega)).trans (E.2.2 r t).1) rfl rfl rfl rfl (by simp[nsT]) ?_ ?_ ?_
   .refine zR (vD ((but_z (by omega) (by omega)).trans (E.2.2 r t).2)) (zB _)
   grind[zof,aK];obtain⟨Y,b2⟩:=E.app (b:=83) (q:=q) (X:=129) (v:=(Gd.but [1] 16376 17).z 115 (upd (upd Z2 113 0) 128 0) (83+r)) (d:=.ref 129 0 (nsT T r+1)) t hr (by decide) (by omega) ((but_z (by omega) (by omega)).trans (E.2.2 r t).2) (by decide) rfl;refine aA r rfl ((km (by decide)).trans Y) rfl rfl hr t ?_;simp;refine dq (k:=r) (e:=.ref (83+r) 0 (nsT T r)) (e':=.ref 129 0 (nsT T r+1)) rfl rfl ((km (by decide)).trans Y) (zR (vD f.2.1) (zB _)) (by grind) rfl ?_;refine gE rfl (I (pw (sz:=1) (mr:=6) (tt:=6) (tb:=76) (R:=R) (ids:=fun j=>if j=r then 129 else 83+j) (ns:=nsT (T++[q])) (C:=cT (T++[q])) (A:=[(18,0),(19,0),(20,0),(25,0),(26,0),(27,0)]) (Bn:=[]) (b:=83) (va:=[.lst (Q.map Ply.enc),aa Q.length,aa k,parts P,aa P.length,aa (j+1:Nat)]) (vb:=[]) rfl rfl rfl p b2 (fun i j _ _ e=>by grind) (fun j _=>by grind) (by decide) (fun j _=>mB _ _) ⟨⟨.inl rfl,rfl,.pl _ rfl rfl⟩,⟨.inl rfl,rfl,.pl _ rfl rfl⟩,⟨.inl rfl,rfl,.pl _ rfl rfl⟩,⟨.inl rfl,rfl,.pl _ rfl rfl⟩,⟨.inl rfl,rfl,.pl _ rfl rfl⟩,⟨.inl rfl,rfl,by rw[<-w2];exact .pl _ rfl rfl⟩,tr⟩ ?_ tr fun l o _ _ a=>?_))
   .intro x g;simp at g;rcases g with rfl|rfl|rfl|rfl|rfl|rfl<;>exact .inl rfl
   exact⟨(j+1,l,o),⟨s,by rw[W];exact a⟩,by omega,rfl⟩
  rw[af]at J;obtain rfl:j=P.length:=by omega
  rw[zH,<-O]at w f;refine gE rfl (gE rfl (hN (pw (sz:=1) (mr:=6) (tt:=6) (tb:=76) (R:=R) (ids:=fun j=>83+j) (ns:=nsT (cy (Q.take (k+1)))) (C:=cT (cy (Q.take (k+1)))) (A:=[(18,0),(19,0),(20,0)]) (Bn:=[]) (b:=80) (va:=[.lst (Q.map Ply.enc),aa Q.length,aa (k+1:Nat)]) (vb:=[]) rfl rfl rfl p f (fun i j _ _ e=>by omega) (fun j _=>⟨by omega,by omega⟩) (by decide) (fun j _=>mB _ _) ⟨⟨.inl rfl,rfl,.pl _ rfl rfl⟩,⟨.inl rfl,rfl,.pl _ rfl rfl⟩,⟨.inl rfl,rfl,by rw[<-w1];exact .pl _ rfl rfl⟩,tr⟩ ?_ tr fun l o _ _ a=>?_)))
  .intro x g;simp at g;rcases g with rfl|rfl|rfl<;>exact .inl rfl
  exact⟨(k+1,l,o),⟨c,a⟩,by omega,rfl⟩
 rw[af]at e;obtain rfl:k=Q.length:=by omega
 rw[zH]at M a;refine gE rfl (gg rfl ?_);generalize cy Q=T at*
 refine rJ (S:=fun x:Nat×RU×List Nat=>(.ref 76 0 R::([.ref 76 0 R,aa R,aa x.1]++List.replicate 6 .bad),x.2.1,x.2.2))
  (C:=fun x=>x.1<=R/\TabT R 80 T x.2.1 x.2.2) (m:=fun x=>R-x.1) R (by omega) ?_ ?_
 .refine pw (sz:=1) (mr:=6) (tt:=6) (tb:=76) (R:=R) (ids:=fun j=>80+j) (ns:=nsT T) (C:=cT T) (A:=[(49,0),(50,0),(51,0)]) (Bn:=[]) (b:=80) (va:=[.ref 76 0 R,aa R,aa 0]) (vb:=[]) rfl rfl rfl p a (fun i j _ _ e=>by omega) (fun j _=>⟨by omega,by omega⟩) (by decide) (fun j _=>mB _ _) ⟨⟨.inl rfl,rfl,.tab _ _⟩,⟨.inl rfl,rfl,.pl _ rfl rfl⟩,⟨.inl rfl,rfl,.pl _ rfl rfl⟩,tr⟩ ?_ tr fun l o _ _ a=>?_
  .intro x g;simp at g;rcases g with rfl|rfl|rfl<;>first|exact .inl rfl|exact .inr rfl
  exact⟨(0,l,o),⟨zB _,a⟩,by simp,rfl⟩
 rintro⟨i,l,o⟩ ⟨c4,M⟩ ho zo N hN;have a:=M ho zo;refine jC rfl (fun e=>?_) (fun e=>?_)
 .rw[ad]at e;have c:i<R:=by omega
  have w1:=wS (n:=i)
  have a0:nsT T i<2^62:=by
   grind[nsT,zof]
  refine gg rfl (aA i rfl a.1 rfl rfl rfl c (aQ rfl a.1 (e:=.ref (80+i) 0 (nsT T i)) (by grind) rfl ?_));refine gg rfl (r8 rfl rfl (by trivial) (UF (K i) a0 (a.2.2 i c).1 (a.2.2 i c).2) ?_);refine gg rfl ?_
  refine rJ (S:=fun x:Nat×RU×List Nat=>(.ref 76 0 R::([]++(List.replicate 6 .bad++[.ref (77+i) 0 (nsT T i),aa x.1,.ref 76 0 R,aa R,aa i])),x.2.1,x.2.2))
   (C:=fun x=>1<=x.1/\x.1<=nsT T i+1/\TabT R 77 T x.2.1 x.2.2) (m:=fun x=>nsT T i+1-x.1) (nsT T i) a0 ?_ ?_
  .refine pw (sz:=1) (mr:=6) (tt:=6) (tb:=76) (R:=R) (ids:=fun j=>80+j) (ns:=nsT T) (C:=cT T) (A:=[]) (Bn:=[(12,0),(13,0),(49,0),(50,0),(51,0)]) (b:=77) (va:=[]) (vb:=[.ref (77+i) 0 (nsT T i),aa 1,.ref 76 0 R,aa R,aa i]) rfl rfl rfl p a (fun i j _ _ e=>by omega) (fun j _=>⟨by omega,by omega⟩) (by decide) (fun j _=>mB _ _) tr (fun x g=>by grind) ⟨⟨.inl rfl,rfl,.row i 0 _ c⟩,⟨.inl rfl,rfl,.pl _ rfl rfl⟩,⟨.inl rfl,rfl,.tab _ _⟩,⟨.inl rfl,rfl,.pl _ rfl rfl⟩,⟨.inl rfl,rfl,.pl _ rfl rfl⟩,tr⟩ fun l o _ _ a=>?_;exact⟨(1,l,o),⟨zD _,by simp,a⟩,by simp,rfl⟩
  rintro⟨j,b0,U⟩ ⟨c5,c6,w⟩ G B N2 I;have f:=w G B;refine jC rfl (fun J=>?_) (fun J=>?_)
  .rw[ad]at J;have s:j<(zof T i).length:=by grind[nsT]
   have w2:=wS (n:=j);have b3:=K i;have u:=(f.2.2 i c).1;unfold cT at u;generalize c7:zof T i=L at*
   have c8:(zn L (j-1)).hi<=(zn L j).lo:=by
    obtain⟨_,hc⟩:=b3;have:=xh.1 hc.pair.2 (j-1) j (by omega) s (by omega);grind[Zs]
   refine gg rfl (aA j rfl ((km (show 77+i<160 by omega)).trans u) rfl rfl rfl (by omega) ?_);simp;refine gg rfl (aQ rfl ((km (show 77+i<160 by omega)).trans u) (Az s) rfl ?_);refine gg rfl (aA (j-1) rfl ((km (show 77+i<160 by omega)).trans u) rfl rfl (by grind[wrap64]) (by omega) ?_);simp;refine gg rfl (aQ rfl ((km (show 77+i<160 by omega)).trans u) (Az (by omega)) rfl ?_);refine jC rfl (fun e3=>?_) (fun e3=>?_)
   .rw[ad]at e3;omega
   refine gE rfl (I (pw (sz:=1) (mr:=6) (tt:=6) (tb:=76) (R:=R) (ids:=fun j=>77+j) (ns:=nsT T) (C:=cT T) (A:=[]) (Bn:=[(12,0),(13,0),(49,0),(50,0),(51,0)]) (b:=77) (va:=[]) (vb:=[.ref (77+i) 0 (nsT T i),aa (j+1:Nat),.ref 76 0 R,aa R,aa i]) rfl rfl rfl p f (fun i j _ _ e=>by omega) (fun j _=>⟨by omega,by omega⟩) (by decide) (fun j _=>mB _ _) tr (fun x g=>by grind) ⟨⟨.inl rfl,rfl,.row i 0 _ c⟩,⟨.inl rfl,rfl,by rw[<-w2];exact .pl _ rfl rfl⟩,⟨.inl rfl,rfl,.tab _ _⟩,⟨.inl rfl,rfl,.pl _ rfl rfl⟩,⟨.inl rfl,rfl,.pl _ rfl rfl⟩,tr⟩ fun l o _ _ a=>?_));exact⟨(j+1,l,o),⟨by simp,by omega,a⟩,by omega,rfl⟩
  refine gE rfl (gE rfl (hN (pw (sz:=1) (mr:=6) (tt:=6) (tb:=76) (R:=R) (ids:=fun j=>77+j) (ns:=nsT T) (C:=cT T) (A:=[(49,0),(50,0),(51,0)]) (Bn:=[]) (b:=80) (va:=[.ref 76 0 R,aa R,aa (i+1:Nat)]) (vb:=[]) rfl rfl rfl p f (fun i j _ _ e=>by omega) (fun j _=>⟨by omega,by omega⟩) (by decide) (fun j _=>mB _ _) ⟨⟨.inl rfl,rfl,.tab _ _⟩,⟨.inl rfl,rfl,.pl _ rfl rfl⟩,⟨.inl rfl,rfl,by rw[<-w1];exact .pl _ rfl rfl⟩,tr⟩ ?_ tr fun l o _ _ a=>?_)))
  .intro x g;simp at g;rcases g with rfl|rfl|rfl<;>first|exact .inl rfl|exact .inr rfl
  exact⟨(i+1,l,o),⟨c,a⟩,by omega,rfl⟩
 refine gE rfl (gg rfl (bd rfl rfl ?_));grind
end Go.F
