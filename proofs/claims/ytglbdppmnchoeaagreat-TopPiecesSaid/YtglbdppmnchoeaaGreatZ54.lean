/- Part 54. -/
import Derived.Test.YtglbdppmnchoeaaGreatZ53
set_option linter.all false
set_option maxHeartbeats 16000000
namespace Go.F
attribute [local irreducible] IntKind.wrap wpM
def clo (T:List Part)(i j:Nat):Option Blk:=if j<i then none else cT T j
theorem tQ (T:List Part)(i j:Nat):aI (clo T i j)=true:=by unfold clo;split;rfl;simp[mB]
theorem bef_z {m n base id:Nat}{z:Frz}(h1:id<base):(Gd.bef m n).z base z id=z id:=by
 show cond (Nat.blt id base||_) _ _=_;grind[Nat.blt,Nat.ble_eq_true_of_le]
theorem PJ {H:ab}{id:Nat}{v:Option Blk}(h:H id=v):∃a,H=upd a id v:=⟨H,(dY h).symm⟩
theorem TabG.drop {R tb b i X w:Nat}{T:List Part}{ns:Nat->Nat}{h:ab}{z:Frz}{v:Option Blk}(a:TabG R tb (fun j=>b+j) ns (clo T i) h z)(_hi:i<R)(c:X≠tb)(f:b+R<=X)(g:tb<b):TabG R tb (fun j=>b+j) ns (clo T (i+1)) (Go.F.upd (Go.F.upd h (b+i) none) X v) (Go.F.upd z X w):=by
 refine⟨by rw[upd_ne c.symm,upd_ne (by omega)];exact a.1,by rw[upd_ne c.symm];exact a.2.1,fun j d=>?_⟩;rw[upd_ne (show b+j≠X by omega),upd_ne (show b+j≠X by omega)];refine⟨?_,(a.2.2 j d).2⟩;by_cases e:j=i
 simp_all[upd_same,clo]
 .rw[upd_ne (by omega),show h (b+j)=clo T i j from(a.2.2 j d).1,clo,clo];grind
section
variable {R tb nx:Nat}{ids ns:Nat->Nat}{C:Nat->Option Blk}{t:ai}{h:ab}{z:Frz}
theorem ji {nx0 R b tb:Nat}{ids:Nat->Nat}{ow:List Nat}{e d:D}(h:e=d)(h1:bi d=none)(a:plain 4 d=true):VU nx0 R b tb ids ow e d:=by subst h;exact .pl _ h1 a
theorem EZ {nx0 R b tb:Nat}{ids:Nat->Nat}{ow:List Nat}{e:D}{i o n:Nat}(k:Nat)(h:e=.ref i o n)(h1:ow[k]?=some i):VU nx0 R b tb ids ow e (.ref (b+6+k) o n):=by subst h;exact .own k i o n h1
theorem Eb {lots:List Int}{rs:List RollS}{i j n n' nr o1 o2:Nat}{fv:Int}{K:ab->Frz->Kept->Prop}
 (p:[t 13,t 2,t 16,t 18,t 59,t 60,t 61,t 77,t 78,t 15,t 76]=[.ref tb 0 R,ints lots,aa i,.int .i64 fv,rolls rs,aa R,aa i,aa n,aa j,.ref o1 0 nr,.ref o2 0 n'])
 (v:R<=6) (q:TabG R tb ids ns C h z) (l:∀i j,i<R->j<R->ids i=ids j->i=j) (m:∀j,j<R->ids j≠tb) (w:∀j,j<R->aI (C j)=true)
 (y:o1≠o2) (B:o1≠tb/\(∀j,j<R->ids j≠o1)/\aI (h o1)=true) (D:o2≠tb/\(∀j,j<R->ids j≠o2)/\aI (h o2)=true)
 (E:∀d e h1 o,(∀a c,TabG R 0 (fun j=>9+j) ns C (mkF 0 a none d 0) (mkF 0 c 0 e 0)/\mkF 0 a none d 0 15=h o1/\mkF 0 c 0 e 0 15=z o1/\mkF 0 a none d 0 16=h o2)->K h1 o (.ref 0 0 R::([ints lots,aa i,.int .i64 fv,rolls rs,aa R,aa i,aa n,aa j]++(List.replicate 6 .bad++([.ref 15 0 nr,.ref 16 0 n']++[]))),d,e)):
 bz 0 [(13,0),(2,0),(16,0),(18,0),(59,0),(60,0),(61,0),(77,0),(78,0),(1049624589,2),(1050673165,2),(1051721741,2),(1052770317,2),(1053818893,2),(1054867469,2),(15,4),(76,0)] t h z nx K:=by
 simp at p;obtain⟨r,F,G,H,I,J,L,M,N,f,g⟩:=p
 have s:∀(ow:List Nat),VsU 0 R 9 tb ids ow t [(2,0),(16,0),(18,0),(59,0),(60,0),(61,0),(77,0),(78,0)] [ints lots,aa i,.int .i64 fv,rolls rs,aa R,aa i,aa n,aa j]:=fun ow=>
  ⟨⟨.inl rfl,rfl,ji F rfl rfl⟩,⟨.inl rfl,rfl,ji G rfl rfl⟩,⟨.inl rfl,rfl,ji H rfl rfl⟩,⟨.inl rfl,rfl,ji I rfl rfl⟩,⟨.inl rfl,rfl,ji J rfl rfl⟩,⟨.inl rfl,rfl,ji L rfl rfl⟩,⟨.inl rfl,rfl,ji M rfl rfl⟩,⟨.inl rfl,rfl,ji N rfl rfl⟩,tr⟩
 refine sQ (nx:=nx) (tt:=13) (A:=[(2,0),(16,0),(18,0),(59,0),(60,0),(61,0),(77,0),(78,0)]) (O:=[(15,4),(76,0)]) (Bn:=[]) (ow:=[o1,o2]) (b:=9) (vo:=[.ref 15 0 nr,.ref 16 0 n']) (vb:=[]) ((EE (tt:=13) (A:=[(2,0),(16,0),(18,0),(59,0),(60,0),(61,0),(77,0),(78,0)]) (O:=[(15,4),(76,0)]) r q (s [])).trans ?_) rfl rfl r v q l (fun j P=>⟨zB _,m j P⟩) (zB _) w (s _) ?_ tr
  ⟨⟨.inr (by grind),rfl,EZ 0 f rfl⟩,⟨.inl rfl,rfl,EZ 1 g rfl⟩,tr⟩ ?_ (by grind) ?_ fun d e h1 o k=>E d e h1 o fun a c=>⟨(k a c).1,((k a c).2 0 o1 rfl).1,((k a c).2 0 o1 rfl).2,((k a c).2 1 o2 rfl).1⟩
 .show gn 76 0 (gn 15 4 _)=_;simp_all[gn]
 .intro x u;simp at u;rcases u with rfl|rfl|rfl|rfl|rfl|rfl|rfl|rfl<;>(left;simp only[*];rfl)
 .show [bi (look t h 15),bi (look t h 76)]=_;rw[ol rfl,ol rfl,f,g];rfl
 grind
theorem restO {lots:List Int}{rs:List RollS}{i nr o1:Nat}{K:ab->Frz->Kept->Prop}
 (m:[t 13,t 2,t 59,t 60,t 61,t 15]=[.ref tb 0 R,ints lots,rolls rs,aa R,aa i,.ref o1 0 nr])
 (s:R<=6) (n:TabG R tb ids ns C h z) (f:∀i j,i<R->j<R->ids i=ids j->i=j) (g:∀j,j<R->ids j≠tb) (u:∀j,j<R->aI (C j)=true)
 (v:o1≠tb/\(∀j,j<R->ids j≠o1)/\aI (h o1)=true)
 (w:∀d e h1 k,(∀a c,TabG R 0 (fun j=>5+j) ns C (mkF 0 a none d 0) (mkF 0 c 0 e 0)/\mkF 0 a none d 0 11=h o1/\mkF 0 c 0 e 0 11=z o1)->K h1 k (.ref 0 0 R::([ints lots,rolls rs,aa R,aa i]++(List.replicate 6 .bad++([.ref 11 0 nr]++[]))),d,e)):
 bz 0 [(13,0),(2,0),(59,0),(60,0),(61,0),(1049624589,2),(1050673165,2),(1051721741,2),(1052770317,2),(1053818893,2),(1054867469,2),(15,4)] t h z nx K:=by
 simp at m;obtain⟨o,y,B,D,E,p⟩:=m
 have q:∀(ow:List Nat),VsU 0 R 5 tb ids ow t [(2,0),(59,0),(60,0),(61,0)] [ints lots,rolls rs,aa R,aa i]:=fun ow=>
  ⟨⟨.inl rfl,rfl,ji y rfl rfl⟩,⟨.inl rfl,rfl,ji B rfl rfl⟩,⟨.inl rfl,rfl,ji D rfl rfl⟩,⟨.inl rfl,rfl,ji E rfl rfl⟩,tr⟩
 refine sQ (nx:=nx) (tt:=13) (A:=[(2,0),(59,0),(60,0),(61,0)]) (O:=[(15,4)]) (Bn:=[]) (ow:=[o1]) (b:=5) (vo:=[.ref 11 0 nr]) (vb:=[]) ((EE (tt:=13) (A:=[(2,0),(59,0),(60,0),(61,0)]) (O:=[(15,4)]) o n (q [])).trans ?_) rfl rfl o s n f (fun j F=>⟨zB _,g j F⟩) (zB _) u (q _) ?_ tr
  ⟨⟨.inr (by grind),rfl,EZ 0 p rfl⟩,tr⟩ ?_ (by simp) ?_ fun d e h1 k l=>w d e h1 k fun a c=>⟨(l a c).1,((l a c).2 0 o1 rfl).1,((l a c).2 0 o1 rfl).2⟩
 .show gn 15 4 _=_;grind[gn]
 .intro x r;simp at r;rcases r with rfl|rfl|rfl|rfl<;>(left;simp only[*];rfl)
 .show [bi (look t h 15)]=_;rw[ol rfl,p];rfl
 grind
end
theorem SN (m:Mkr)(Q:List Ply)(rs:List RollS)(lots:List Int)(h:rs.length<=6)(U:kY rs lots.length=0)(hb:∀r∈rs,RollB r)(hQ:Q.length<=40)(G:∀y∈Q,y.parts.length<=1000)(I:∀y∈Q,∀q∈y.parts,gl q rs=true)(a8:ChI (cy Q))(a9:(cy Q).length<=1000000):
 ∃d,PU 8 [di m Q,rolls rs,ints lots]=some d/\∃l,d=.tup [.lst l,.int .i64 0]:=by
 refine jh rfl (gA rfl rfl rfl (HZ rs lots hb) ?_);rw[U];refine gg rfl (aj (by show D.bool (nqb 0 0)=_;simp[aE]) ?_);refine gg rfl (aj (by show D.bool (ltb 40 _)=_;grind[af]) ?_);refine gg rfl ?_;rw[zA];refine aw (S:=fun k:Nat=>([rolls rs,ints lots,.ptr 2 0 0,.lst (Q.map Ply.enc),aa Q.length,aa k],[none,none,some (.row [di m Q] 7),none,none,none],[0,0,0,0,0,0])) (C:=fun k=>k<=Q.length) (m:=fun k=>Q.length-k) 0 (zB _) (by omega) ?_ ?_
 .exact ah rfl ⟨rfl,tr⟩ rfl
 intro k hk N V;refine gC rfl rfl (fun e=>?_) (fun e=>?_)
 .rw[ad]at e;have a:k<Q.length:=by omega
  have w1:=wS (n:=k);have he:(Q.map Ply.enc)[k]?=some Q[k].enc:=by grind
  have F:=I _ (zE a);have b1:=G _ (zE a);generalize Q[k]=y at*;obtain⟨lt,P⟩:=y;dsimp only at F b1;refine gX k rfl rfl rfl rfl he rfl (gg rfl ?_);rw[zA];refine aw (S:=fun j:Nat=>([rolls rs,ints lots,.ptr 2 0 0,.lst (Q.map Ply.enc),aa Q.length,aa k,parts P,aa P.length,aa j],[none,none,some (.row [di m Q] 7),none,none,none,none,none,none],[0,0,0,0,0,0,0,0,0])) (C:=fun j=>j<=P.length) (m:=fun j=>P.length-j) 0 (zB _) (by omega) ?_ ?_
  .exact ah rfl ⟨rfl,tr⟩ rfl
  intro j hj N2 s;refine gC rfl rfl (fun W=>?_) (fun W=>?_)
  .rw[ad]at W;have g:j<P.length:=by omega
   have w2:=wS (n:=j);have Y:=nv g;have hq:=F _ (zE g);rw[oS g]at Y;generalize P[j]=q at*;refine gX j rfl rfl rfl rfl Y rfl (gA rfl rfl rfl (JO q rs) ?_);rw[hq];exact gg rfl (aj rfl (gE rfl (s (j+1) g (by omega) (ah rfl ⟨rfl,tr⟩ (by rw[w2];rfl)))))
  exact gE rfl (gE rfl (V (k+1) a (by omega) (ah rfl ⟨rfl,tr⟩ (by rw[w1];rfl))))
 clear V;refine gE rfl (gg rfl (cf rfl rfl (Lo rs.length h m Q rs rfl (by omega) G I a8 a9 ?_)));intro h' z' t;refine gg rfl (aj rfl (gg rfl ?_));rw[zA];generalize cy Q=T at*;clear G I hk e;generalize hR:rs.length=R at*
 refine rJ (S:=fun x:Nat×List (Option Blk)×List Nat×List Rst=>(.ref 0 0 R::([ints lots,rolls rs,aa R,aa x.1]++(List.replicate 6 .bad++([.ref 11 0 x.2.2.2.length]++[]))),x.2.1,x.2.2.1))
  (C:=fun x=>x.1<=R/\x.2.2.2.length<=x.1*2000000/\∀c f,TabG R 0 (fun j=>5+j) (nsT T) (clo T x.1) (mkF 0 c none x.2.1 0) (mkF 0 f 0 x.2.2.1 0)/\mkF 0 c none x.2.1 0 11=some (.row (x.2.2.2.map Rst.enc) 4)/\mkF 0 f 0 x.2.2.1 0 11=0) (m:=fun x=>R-x.1) R (by omega) ?_ ?_
 .have b2:TabG R 76 (fun j=>80+j) (nsT T) (clo T 0) (upd h' 190 (some (.row [] 4))) (upd z' 190 0):=⟨t.1,t.2.1,fun j hj=>by
   show upd h' 190 _ (80+j)=_/\upd z' 190 0 (80+j)=0
   rw[clo,if_neg (by omega),upd_ne (by omega),upd_ne (by omega)];exact t.2.2 j hj⟩
  refine sQ (tt:=13) (tb:=76) (R:=R) (ids:=fun j=>80+j) (ns:=nsT T) (C:=clo T 0) (A:=[(2,0),(59,0),(60,0),(61,0)]) (O:=[(15,4)]) (Bn:=[]) (ow:=[190]) (b:=5) (va:=[ints lots,rolls rs,aa R,aa 0]) (vo:=[.ref 11 0 0]) (vb:=[])
   ((EE (tt:=13) (tb:=76) (R:=R) (A:=[(2,0),(59,0),(60,0),(61,0)]) (O:=[(15,4)]) (ids:=fun j=>80+j) (ns:=nsT T) (C:=cT T) (va:=[ints lots,rolls rs,aa R,aa 0]) (b:=5) (nx0:=0) (ow:=[]) rfl t ⟨⟨.inl rfl,rfl,.pl _ rfl rfl⟩,⟨.inl rfl,rfl,.pl _ rfl rfl⟩,⟨.inl rfl,rfl,.pl _ rfl rfl⟩,⟨.inl rfl,rfl,.pl _ rfl rfl⟩,tr⟩).trans rfl)
   rfl rfl rfl h b2 (fun i j _ _ e=>by omega) (fun j _=>⟨by omega,by omega⟩) (by decide) (fun j _=>tQ _ _ _) ⟨⟨.inl rfl,rfl,.pl _ rfl rfl⟩,⟨.inl rfl,rfl,.pl _ rfl rfl⟩,⟨.inl rfl,rfl,.pl _ rfl rfl⟩,⟨.inl rfl,rfl,.pl _ rfl rfl⟩,tr⟩ ?_ tr
   ⟨⟨.inr nofun,rfl,.own 0 190 0 0 rfl⟩,tr⟩ rfl (by decide) ?_ fun u B _ _ E=>?_
  .intro x hx;simp at hx;rcases hx with rfl|rfl|rfl|rfl<;>exact .inl rfl
  .intro x hx;obtain rfl:=z8.1 hx;exact⟨by omega,by decide,fun j _=>by omega,rfl⟩
  exact⟨(0,u,B,[]),⟨zB _,zB _,fun c f=>⟨(E c f).1,(E c f).2 0 190 rfl⟩⟩,by simp,rfl⟩
 rintro⟨i,u,B,a0⟩ ⟨b3,a1,hT⟩ c f N V;dsimp only at b3 a1 hT V⊢;obtain⟨t,hH,hZ⟩:=hT c f;generalize mkF 0 c none u 0=H at*;generalize mkF 0 f 0 B 0=Z at*;refine gC rfl rfl (fun e=>?_) (fun e=>?_)
 .rw[ad]at e;have a:i<R:=by omega
  have w1:=wS (n:=i);have b4:=oI (l:=rs) (i:=i) (by omega)
  have e5:nsT T i<=1000000:=by
   grind[nsT,zof]
  have b5:(lots.map aa)[i]?=some (aa (lots.getD i 0)):=by
   have:=(Jk U).eq;grind
  have b6:=(t.2.2 i a).1;rw[clo,if_neg (by omega)]at b6;generalize rl rs i=r at*;refine gX i rfl rfl rfl rfl b4 rfl (gg rfl (aA i rfl ((km (by decide)).trans t.1) rfl rfl rfl a ?_));simp only[zC];refine gg rfl (aQ rfl ((km (by decide)).trans t.1) (e:=.ref (5+i) 0 (nsT T i)) (by grind) rfl ?_);refine gg rfl (bI (es:=(zof T i).map Zone.enc) (new:=[Zone.enc ⟨r.length,r.length⟩]) rfl ((km (show 5+i<198 by omega)).trans ?_) rfl rfl rfl rfl (by simp[nsT]) ?_ ?_ ?_)
  .rw[upd_ne (by omega),upd_ne (by omega),upd_ne (by omega)];trivial
  .refine zR (vD (bef_z (show 5+i<198 by omega))) ?_;rw[upd_ne (by omega),upd_ne (by omega),(t.2.2 i a).2];simp
  grind[zof,aK]
  have e6:(Gd.bef 1023 13).z 198 (upd (upd Z 194 0) 207 0) (5+i)=0:=by
   rw[bef_z (show 5+i<198 by omega),upd_ne (by omega),upd_ne (by omega)];exact(t.2.2 i a).2
  have hD:=(((((t.upd (x:=194) (v:=some (.row [.agg [.str ⟨#[]⟩,.int .i64 0,.int .i64 0,.int .i64 0,.int .i64 0,.int .i64 0,.nilsl]] 7)) (by decide) (by omega)).upd (x:=194) (v:=some (.row [r.enc] 7)) (by decide) (by omega)).upd (x:=207) (v:=some (.row [Zone.enc ⟨r.length,r.length⟩] 2)) (by decide) (by omega)).updz (x:=194) (v:=0) (by decide) (by omega)).updz (x:=207) (v:=0) (by decide) (by omega)).drop a (X:=208) (v:=some (.row ((zof T i).map Zone.enc++[Zone.enc ⟨r.length,r.length⟩]) 2)) (w:=(Gd.bef 1023 13).z 198 (upd (upd Z 194 0) 207 0) (5+i)) (by decide) (by omega) (by decide);refine gg rfl ?_
  refine rJ (S:=fun x:Nat×List (Option Blk)×List Nat×List Rst×Int=>(.ref 0 0 R::([ints lots,aa i,.int .i64 x.2.2.2.2,rolls rs,aa R,aa i,aa (nsT T i+1:Nat),aa x.1]++(List.replicate 6 .bad++([.ref 15 0 x.2.2.2.1.length,.ref 16 0 (nsT T i+1)]++[]))),x.2.1,x.2.2.1))
   (C:=fun x=>x.1<=nsT T i+1/\x.2.2.2.1.length<=i*2000000+x.1/\∀c f,TabG R 0 (fun j=>9+j) (nsT T) (clo T (i+1)) (mkF 0 c none x.2.1 0) (mkF 0 f 0 x.2.2.1 0)/\mkF 0 c none x.2.1 0 15=some (.row (x.2.2.2.1.map Rst.enc) 4)/\mkF 0 f 0 x.2.2.1 0 15=0/\mkF 0 c none x.2.1 0 16=some (.row ((zof T i).map Zone.enc++[Zone.enc ⟨r.length,r.length⟩]) 2))
   (m:=fun x=>nsT T i+1-x.1) (nsT T i+1) (by omega) ?_ ?_
  .refine Eb (lots:=lots) (rs:=rs) (R:=R) (tb:=0) (ids:=fun j=>5+j) (i:=i) (j:=0) (n:=nsT T i+1) (n':=nsT T i+1) (nr:=a0.length) (o1:=11) (o2:=208) (fv:=0) rfl h hD (fun i j _ _ e=>by omega) (fun j _=>by omega) (fun j _=>tQ _ _ _) (by decide) ⟨by decide,fun j _=>by omega,?_⟩ ⟨by decide,fun j _=>by omega,?_⟩ fun u B _ _ E=>?_
   .rw[upd_ne (by omega),upd_ne (by omega),upd_ne (by omega),upd_ne (by omega),upd_ne (by omega),hH];exact ae eA _
   .show List.all _ _=true;simp[qf]
   refine⟨(0,u,B,a0,0),⟨zB _,zR a1 (Nat.le_add_right _ _),fun c f=>?_⟩,by simp,rfl⟩;obtain⟨f1,f2,f3,f4⟩:=E c f;grind[upd_same,upd_ne]
  have e8:((zof T i).map Zone.enc++[Zone.enc ⟨r.length,r.length⟩]).length=nsT T i+1:=by simp[nsT]
  rintro⟨j,b7,b8,rl,fv⟩ ⟨b9,a2,a3⟩ a4 a5 N2 s;dsimp only at b9 a2 a3 s⊢;obtain⟨J,K,L,o⟩:=a3 a4 a5;generalize mkF 0 a4 none b7 0=H2 at*;generalize mkF 0 a5 0 b8 0=Z2 at*;refine gC rfl rfl (fun W=>?_) (fun W=>?_)
  .rw[ad]at W;have g:j<nsT T i+1:=by omega
   have w2:=wS (n:=j)
   obtain⟨p,c0⟩:∃p:Zone,((zof T i).map Zone.enc++[Zone.enc ⟨r.length,r.length⟩])[j]?=some p.enc:=by
    grind
   refine gg rfl (aA j rfl o rfl rfl rfl g ?_);simp;refine aQ rfl o c0 rfl (gC rfl rfl (fun e3=>?_) (fun e3=>?_))
   .refine gX i rfl rfl rfl rfl b5 rfl (gg rfl (bI (es:=rl.map Rst.enc) (new:=[Rst.enc ⟨i,lots.getD i 0,fv,p.lo⟩]) rfl ((km (by decide)).trans ?_) rfl rfl rfl rfl (by simp) ?_ ?_ ?_))
    trivial
    .exact zR (vD L) (zB _)
    grind[aK];refine gE rfl ?_;have c3:(Gd.bef 2047 13).z 220 (upd (upd Z2 214 0) 230 0) 15=0:=L;have M:=(((((((J.upd (x:=214) (v:=some (.row [Zone.enc ⟨0,0⟩] 2)) (by decide) (by omega)).upd (x:=214) (v:=some (.row [p.enc] 2)) (by decide) (by omega)).upd (x:=230) (v:=some (.row [Rst.enc ⟨i,lots.getD i 0,fv,p.lo⟩] 4)) (by decide) (by omega)).upd (x:=15) (v:=none) (by decide) (by omega)).upd (x:=231) (v:=some (.row (rl.map Rst.enc++[Rst.enc ⟨i,lots.getD i 0,fv,p.lo⟩]) 4)) (by decide) (by omega)).updz (x:=214) (v:=0) (by decide) (by omega)).updz (x:=230) (v:=0) (by decide) (by omega)).updz (x:=231) (v:=(Gd.bef 2047 13).z 220 (upd (upd Z2 214 0) 230 0) 15) (by decide) (by omega);refine s (Eb (lots:=lots) (rs:=rs) (R:=R) (tb:=0) (ids:=fun j=>9+j) (i:=i) (j:=j+1) (n:=nsT T i+1) (n':=nsT T i+1) (nr:=rl.length+1) (o1:=231) (o2:=16) (fv:=p.hi) (by rw[<-w2];rfl) h M (fun i j _ _ e=>by omega) (fun j _=>by omega) (fun j _=>tQ _ _ _) (by decide) ⟨by decide,fun j _=>by omega,?_⟩ ⟨by decide,fun j _=>by omega,?_⟩ fun u B _ _ E=>?_)
    .show List.all _ _=true;simp[eA]
    .refine Eq.trans (zX aI o) ?_;show List.all _ _=true;simp[qf]
    refine⟨(j+1,u,B,rl++[⟨i,lots.getD i 0,fv,p.lo⟩],p.hi),⟨g,by grind,fun c f=>?_⟩,by omega,by simp⟩;obtain⟨f1,f2,f3,f4⟩:=E c f;refine⟨f1,f2.trans ((upd_same _ _ _).trans (by simp)),f3.trans ((upd_same _ _ _).trans c3),f4.trans o⟩
   refine gE rfl ?_;have M:=((J.upd (x:=214) (v:=some (.row [Zone.enc ⟨0,0⟩] 2)) (by decide) (by omega)).upd (x:=214) (v:=some (.row [p.enc] 2)) (by decide) (by omega)).updz (x:=214) (v:=0) (by decide) (by omega);refine s (Eb (lots:=lots) (rs:=rs) (R:=R) (tb:=0) (ids:=fun j=>9+j) (i:=i) (j:=j+1) (n:=nsT T i+1) (n':=nsT T i+1) (nr:=rl.length) (o1:=15) (o2:=16) (fv:=p.hi) (by rw[<-w2];rfl) h M (fun i j _ _ e=>by omega) (fun j _=>by omega) (fun j _=>tQ _ _ _) (by decide) ⟨by decide,fun j _=>by omega,?_⟩ ⟨by decide,fun j _=>by omega,?_⟩ fun u B _ _ E=>?_)
   .refine Eq.trans (zX aI K) (ae eA _)
   .refine Eq.trans (zX aI o) ?_;show List.all _ _=true;simp[qf]
   refine⟨(j+1,u,B,rl,p.hi),⟨g,by grind,fun c f=>?_⟩,by omega,rfl⟩;obtain⟨f1,f2,f3,f4⟩:=E c f;exact⟨f1,f2.trans K,f3.trans L,f4.trans o⟩
  refine gE rfl (gE rfl (V (restO (lots:=lots) (rs:=rs) (R:=R) (tb:=0) (ids:=fun j=>9+j) (i:=i+1) (nr:=rl.length) (o1:=15) (by rw[<-w1];rfl) h J (fun i j _ _ e=>by omega) (fun j _=>by omega) (fun j _=>tQ _ _ _) ⟨by decide,fun j _=>by omega,Eq.trans (zX aI K) (ae eA _)⟩ fun u B _ _ E=>?_)));refine⟨(i+1,u,B,rl),⟨a,by grind,fun c f=>?_⟩,by omega,rfl⟩;obtain⟨f1,f2,f3⟩:=E c f;grind
 obtain⟨H0,rfl⟩:=PJ hH;refine gE rfl (gg rfl (bt rfl rfl rfl ⟨bK (by simp) (bF Xj _),tr⟩ ?_));simp
structure LayB (m:Mkr)(ps:List (List Spot))(rs:List RollS)(lots:List Int)(Q:List Ply):Prop where
 clo:gy m ps rs lots.length=0
 lay:LayOK m ps rs lots Q
 q40:Q.length<=40
 r6:rs.length<=6
 rb:∀r∈rs,RollB r
section
variable {m:Mkr}{ps:List (List Spot)}{rs:List RollS}{lots:List Int}{Q:List Ply}
theorem LayB.cl (h:LayB m ps rs lots Q):∀y∈Q,∀q∈y.parts,gl q rs=true:=by
 intro y a q b;obtain⟨i,hi,rfl⟩:=ze.1 b;rw[<-oS hi];exact((h.lay.pl y a).1.el i hi).1.cl
theorem LayB.p20 (h:LayB m ps rs lots Q):∀y∈Q,y.parts.length<=1000:=fun y a=>by have:=(h.lay.pl y a).2;omega
theorem J7 {n:Nat}:∀{Q:List Ply},(∀y∈Q,y.parts.length<=n)->(cy Q).length<=Q.length*n
 |[],_=>by simp[cy]
 |y::Q,h=>by
  have b:=J7 fun x a=>h x (zG y a);grind[cy,Nat.succ_mul]
theorem LayB.tl (h:LayB m ps rs lots Q):(cy Q).length<=1000000:=by
 have:=J7 h.p20;have:=h.q40;omega
theorem Y9 (h:LayB m ps rs lots Q):PU 25 [di m Q,aY ps,rolls rs,ints lots]=some (.int .i64 0):=by
 have b:=sR h.clo;have c:=(o6 b.ext).2.2.1;refine PS rfl (gA rfl rfl rfl (HQ m ps rs lots (by omega) h.rb) ?_);rw[h.clo];refine gg rfl (aj (by show D.bool (nqb 0 0)=_;simp[aE]) ?_);refine gg rfl (aj (by show D.bool (ltb 40 _)=_;rw[af.2 (by rw[zA];have:=h.q40;omega)]) ?_);refine gg rfl ?_;rw[zA];have l:=h.q40;refine aw (S:=fun k:Nat=>([aY ps,rolls rs,ints lots,.ptr 3 0 0,.lst (Q.map Ply.enc),aa Q.length,aa k],[none,none,none,some (.row [di m Q] 7),none,none,none],[0,0,0,0,0,0,0])) (C:=fun k=>k<=Q.length) (m:=fun k=>Q.length-k) 0 (zB _) (by omega) ?_ ?_
 .exact ah rfl ⟨rfl,tr⟩ rfl
 intro k d N f;refine gC rfl rfl (fun e=>?_) (fun e=>?_)
 .rw[ad]at e;have a:k<Q.length:=by omega
  have g:=wS (n:=k);have i:(Q.map Ply.enc)[k]?=some Q[k].enc:=by grind
  have j:=h.lay.pl _ (zE a);generalize Q[k]=y at*;refine gX k rfl rfl rfl rfl i rfl (gA rfl rfl rfl (SQ m ps rs lots y (by omega) b.rol.eq (by omega)) ?_);rw[ply_ok b j.1];refine gg rfl (aj (by show D.bool (nqb 0 0)=_;simp[aE]) ?_);exact gE rfl (f (k+1) a (by omega) (ah rfl ⟨rfl,tr⟩ (by rw[g];rfl)))
 refine gE rfl (gg rfl (cf rfl rfl (Lo rs.length h.r6 m Q rs rfl (by omega) h.p20 h.cl h.lay.ch h.tl ?_)));intro h' z' _;exact gg rfl (aj rfl (gF rfl rfl rfl))
structure CutP where
 ply:Int
 place:Int
 lot:Int
 size:Int
 rolls:List Int
 hit:Bool
def CutP.enc (c:CutP):D:=.agg [.int .i64 c.ply,.int .i64 c.place,.int .i64 c.lot,.int .i64 c.size,ints c.rolls,.bool c.hit]
def pcl (l:List Plc)(i:Nat):Plc:=l.getD i ⟨0,0,0,false,0,0,0⟩
theorem II {l:List Plc}{i:Nat}(h:i<l.length):pcl l i=l[i]:=by grind[pcl]
def dL (Q:List Ply)(k:Nat):Ply:=Q.getD k ⟨0,[]⟩
def cutN (m:Mkr)(ps:List (List Spot))(rs:List RollS)(Q:List Ply)(k j:Nat):CutP:=
 ⟨k,j,(dL Q k).lot,m.sizes.getD (pcl m.places j).garment.toNat 0,[(pa (dL Q k).parts (dv (dL Q k) (plg ps j)).1.toNat).roll],(nP (dL Q k) rs (eD (plg ps j)) (plg ps j)).1⟩
structure PlaB (m:Mkr)(ps:List (List Spot)):Prop where
 len:ps.length=m.places.length
 gar:∀p∈m.places,0<=p.garment/\p.garment<m.sizes.length
theorem Yt (h:LayB m ps rs lots Q)(t:PlaB m ps){k j:Nat}(u:k<Q.length)(f:j<ps.length):PU 37 [di m Q,rolls rs,aa k,aa j,ac (plg ps j)]=some (.tup [(cutN m ps rs Q k j).enc,.int .i64 0]):=by
 have g:=sR h.clo;obtain⟨_,_,_,_,i⟩:=o6 g.ext;have l:=h.lay.pl _ (zE u);have a:=zE f
 have n:bE (plg ps j)=0:=by
  have:=i _ a;rw[<-fw f,eO]at this;omega
 have o:dL Q k=Q[k]:=by grind[dL]
 have p:(Q.map Ply.enc)[k]?=some (dL Q k).enc:=by grind
 rw[<-o]at l;rw[<-fw f]at a;have b:=DF g l.1 a;have q:=hit_ok g l.1 a (eD (plg ps j));obtain⟨c1,c2⟩:=vJ b;have c:=Fm (dL Q k) (plg ps j) (by omega);obtain⟨t1,t2⟩:=lS _ n;have d:=Hit_PU (dL Q k) rs (plg ps j) _ (by omega) h.rb t1 t2;have r:(m.places.map Plc.enc)[j]?=some (pcl m.places j).enc:=by simp[pcl,show j<m.places.length by have:=t.len;omega]
 have v:=t.gar (pcl m.places j) (by grind[II]);have s:(m.sizes.map aa)[(pcl m.places j).garment.toNat]?=some (aa (m.sizes.getD (pcl m.places j).garment.toNat 0)):=by grind
 unfold cutN;rw[b]at c;rw[q]at d;generalize dv (dL Q k) (plg ps j)=w at*;have e:=nv c2;generalize pcl m.places j=x at*;refine PS rfl (gX k rfl rfl rfl rfl p rfl (gA rfl rfl rfl c (gg rfl (aj (by show D.bool (nqb 0 0)=_;simp[aE]) ?_))));refine gA rfl rfl rfl d (gg rfl (aj (by show D.bool (nqb 0 0)=_;simp[aE]) ?_));refine gX j rfl rfl rfl rfl r rfl (gX x.garment.toNat rfl rfl rfl (by omega) s rfl ?_);refine gX w.1.toNat rfl rfl rfl (by omega) e rfl ?_;exact gg rfl (cS rfl rfl rfl ⟨bK rfl rfl,tr⟩ rfl)
end
def kR {α β:Type} [DecidableEq α]:List (α×β)->α->β->List (α×β)
 |[],a,v=>[(a,v)]
 |x::M,a,v=>if a=x.1 then(x.1,v)::M else x::kR M a v
def gL {α β:Type} [DecidableEq α]:List (α×β)->α->Option β
 |[],_=>none
 |x::M,a=>if a=x.1 then some x.2 else gL M a
theorem Fh {α β:Type} [DecidableEq α](a b:α)(v:β):∀M:List (α×β),gL (kR M a v) b=if b=a then some v else gL M b
 |[]=>by rfl
 |x::M=>by
  rw[kR];split
  grind[gL]
  .rw[gL,Fh a b v M,gL];grind
def mpV {α β:Type}(enc:α->D)(ev:β->D)(M:List (α×β)):Option Blk:=some (.mp (M.map fun x=>enc x.1) (M.map fun x=>ev x.2))
section
variable {T:Tab}{sh:Shr}{nx0:Nat}{s:List Fr}{t:ai}{h:ab}{z:Frz}{nx:Nat}{q:Ex->ai->ab->Frz->Nat->Prop}
variable {base i:Nat}{res:List Nat}{g:Gd}{rest:List KOper}
theorem CQ {α β:Type} [DecidableEq α]{e:EqK}{enc:α->D}(K:KeyE e enc)(ev:β->D)(a:α)(v:β):∀(M:List (α×β)) (n:Nat),
 (∃i w,iD e (enc a) (M.map fun x=>enc x.1) n=some (some (n+i))/\((kR M a v).map fun x=>enc x.1)=(M.map fun x=>enc x.1)/\((kR M a v).map fun x=>ev x.2)=(M.map fun x=>ev x.2).set i (ev v)/\(M.map fun x=>ev x.2)[i]?=some (ev w)/\gL M a=some w)\/
 (iD e (enc a) (M.map fun x=>enc x.1) n=some none/\kR M a v=M++[(a,v)]/\gL M a=none)
 |[],n=> .inr ⟨rfl,rfl,rfl⟩
 |x::M,n=>by
  rw[zg,zg,iD,K.eq,kR,gL];by_cases h:a=x.1
  simp_all
  .rw[yS h,if_neg h,if_neg h];rcases CQ K ev a v M (n+1)with⟨i,w,h1,b,h3,d,c⟩ |⟨h1,b,h3⟩
   .refine .inl ⟨i+1,w,?_,?_,?_,?_,c⟩;grind;grind;grind;grind
   grind
theorem Vh {α β:Type} [DecidableEq α]{e:EqK}{enc:α->D}(K:KeyE e enc)(ev:β->D){x f:X}{k:D}{b id:Nat}(M:List (α×β))(a:α)(l:x.ev t=.mref id)(n:g.h base h id=mpV enc ev M)(d:f.ev t=enc a)
 (c:wpM T sh nx0 (.ops base res rest::s) .normal (upd t b (match gL M a with|some w=> .tup [ev w,.bool true] |none=> .tup [k,.bool false])) h z nx q):
 wpM T sh nx0 (.ops base res (⟨i,some b,none,g,.lookup e k x f true⟩::rest)::s) .normal t h z nx q:=by
 refine bP ?_;simp only[kop,r7,l,n,qs,d,kf];refine⟨K.ok a,?_⟩
 cases M with
 |nil=>exact⟨_,rfl,c⟩
 |cons m M=>
 rcases CQ K ev a m.2 (m::M) 0 with⟨j,w,h1,o,h3,r,p⟩ |⟨h1,o,h3⟩
 .rw[p]at c;refine⟨_,h1,?_⟩;exact nD (x:=ev w) (by grind) c
 rw[h3]at c;exact⟨_,h1,c⟩
theorem atPutV {α β:Type} [DecidableEq α]{e:EqK}{enc:α->D}(K:KeyE e enc)(ev:β->D){d f vx:X}{b:Option Nat}{id:Nat}(M:List (α×β))(a:α)(v:β)(l:d.ev t=.mref id)(k:g.h base h id=mpV enc ev M)(m:g.z base z id=0)(c:f.ev t=enc a)(n:vx.ev t=ev v)
 (o:wpM T sh nx0 (.ops base res rest::s) .normal (put t b (.tup [])) (upd h id (mpV enc ev (kR M a v))) z nx q):
 wpM T sh nx0 (.ops base res (⟨i,b,none,g,.mapset e d f vx⟩::rest)::s) .normal t h z nx q:=by
 refine bP ?_;unfold mpV at k o;simp[kop,qJ,l,k,c,m,kf];refine⟨K.ok a,?_⟩;rcases CQ K ev a v M 0 with⟨j,w,h1,p,h3,r,u⟩ |⟨h1,p,h3⟩
 grind;grind
end
structure Key3 where
 g:Int
 u:Int
 n:Int
 deriving DecidableEq
def Key3.enc (k:Key3):D:=.agg [.int .i64 k.g,.int .i64 k.u,.int .i64 k.n]
def keyOf (p:Plc):Key3:=⟨p.garment,p.use,p.copy⟩
theorem Oi:KeyE (.flat [.int,.int,.int]) Key3.enc where
 ok:=fun a=>rfl
 eq:=fun a b=>by
  have:mq (.flat [.int,.int,.int]) (Key3.enc a) (Key3.enc b)=some (eqb a.g b.g&&(eqb a.u b.u&&(eqb a.n b.n&&true))):=rfl;rw[this];congr 1;cases a;cases b;rw[zN];simp[eqb]
def mapOf (C:List Plc):Nat->List (Key3×Nat)
 |0=>[]
 |k+1=>kR (mapOf C k) (keyOf (db C k)) k
def jQ (i:Nat)(p:Plc):Put2:=⟨i,⟨false,p.quarter⟩,⟨p.x,p.y⟩⟩
def gI (M:List (Key3×Nat)):List Bool->List Put2->List Plc->List Bool×List Put2×Int
 |sn,ps,[]=>(sn,ps,0)
 |sn,ps,p::r=>match gL M (keyOf p)with
  |none=>([],[],3)
  |some i=>if sn.getD i false=true then([],[],7)else gI M (sn.set i true) (ps++[jQ i p]) r
def om (C:List Plc)(ps:List Put2)(a:List Plc)(k:Nat):Int:=if(db a k).flip=(db C (pu2 ps k).shape.toNat).flip then 0 else 12
def bedM (m:Mkr):Bed:=⟨m.length,m.width,m.rep⟩
def jc (s:Sty)(m:Mkr):List Bool×List Put2×Int:=gI (mapOf (bn s m.sizes).2.1 (bn s m.sizes).2.1.length) (List.replicate (bn s m.sizes).2.1.length false) [] m.places
def gq (s:Sty)(m:Mkr):List Shp×List Put2×Int:=
 if(bn s m.sizes).2.2≠0 then([],[],(bn s m.sizes).2.2)
 else if(jc s m).2.2≠0 then([],[],(jc s m).2.2)
 else if 0<=rG (jc s m).1 false then([],[],20)
 else if orF ((List.range m.places.length).map (om (bn s m.sizes).2.1 (jc s m).2.1 m.places))≠0 then([],[],12)
 else if oQ eD (bedM m) (bn s m.sizes).1 (jc s m).2.1≠0 then([],[],oQ eD (bedM m) (bn s m.sizes).1 (jc s m).2.1)
 else((bn s m.sizes).1,(jc s m).2.1,0)
theorem DZ (C:List Plc){a:Key3}{i:Nat}:∀k,gL (mapOf C k) a=some i->i<k/\a=keyOf (db C i)
 |0,h=>by trivial
 |k+1,h=>by
  rw[mapOf,Fh]at h;split at h
  grind
  .have:=DZ C k h;grind
theorem CG (M:List (Key3×Nat)):(M.map fun x=>aP x.2).all (plain 4)=true:=ae (f:=fun x:Key3×Nat=>aP x.2) (fun _=>rfl) _
def HA (x:List Shp×List Put2×Int):D:=.tup [cq x.1,cW x.2.1,.int .i64 x.2.2]
theorem Xp (s:Sty)(m:Mkr)(hB:StyB s)(K:m.sizes.length<=100000)(a6:m.places.length<=1000)(hn:(bn s m.sizes).1.length<=60):PU 58 [s.enc,m.enc]=some (HA (gq s m)):=by
 refine PS rfl (gg rfl (cf rfl rfl (TM m.enc rfl s m.sizes hB K (HasB.of ⟨⟨rfl,rfl⟩,tr⟩) (fun H a7 t h' z' v=>?_) (fun H h' z' v=>?_))))
 .unfold gq;rw[if_pos H];simp at t;rcases t with rfl|rfl|rfl|rfl|rfl
  all_goals
   refine gC rfl rfl (fun e=>?_) (fun e=>absurd (aE.1 e) H);exact gF rfl rfl rfl
 have a8:=DE H;unfold gq jc;rw[if_neg (by omega)];generalize (bn s m.sizes).1=S at*;generalize (bn s m.sizes).2.1=C at*;obtain⟨⟨h1,rfl⟩,z1,rfl⟩:=v;refine gC rfl rfl (fun e=>absurd (aO.1 e) (by simp)) (fun _=>?_);refine gg rfl (aw (S:=fun k:Nat=>([.ptr 0 0 0,.ref 1 0 S.length,.ref 2 0 C.length,.mref 3,.ref 2 0 C.length,aa C.length,aa k],[some (.row [m.enc] 6),some (.row (S.map Shp.enc) 5),some (.row (C.map Plc.enc) 7),mpV Key3.enc aP (mapOf C k),none,none,none],[0,0,0,0,0,0,0])) (C:=fun k=>k<=C.length) (m:=fun k=>C.length-k) 0 (zB _) (by omega) ?_ ?_)
 .refine pJ (o:=[.p _,.p _,.p _,.p [],.p _]) (kp:=([.ptr 0 0 0,.ref 1 0 S.length,.ref 2 0 C.length,.mref 3,.ref 2 0 C.length,aa C.length,aa 0],[some (.row [m.enc] 6),some (.row (S.map Shp.enc) 5),some (.row (C.map Plc.enc) 7),some (.mp [] []),none,none,none],[0,0,0,0,0,0,0])) [none,none,none,none] rfl ?_ ?_
  .exact⟨rfl,ae jr _,ae dF _,rfl,ae dF _,tr⟩
  rfl
 intro k Y N g;refine gC rfl rfl (fun e=>?_) (fun e=>?_)
 .rw[ad]at e;have c:k<C.length:=by omega
  have I:=wS (n:=k);have wg:C[k]?=some (db C k):=by grind[q8]
  have L:mapOf C (k+1)=kR (mapOf C k) (keyOf (db C k)) k:=rfl;generalize mapOf C k=M at*;generalize db C k=p at*;refine gg rfl (aA k rfl rfl rfl rfl rfl c (cb (enc:=Plc.enc) C k p rfl (zC _) (fun _=>rfl) rfl wg (gA rfl rfl rfl (Mv p) (gg rfl (atPutV Oi aP M (keyOf p) k rfl rfl rfl rfl rfl ?_)))));rw[<-L];generalize O:mapOf C (k+1)=P at*;refine gE rfl (g (k+1) c (by omega) ?_);refine pJ (o:=[.p _,.p _,.p _,.p (P.map fun x=>aP x.2),.p _]) (kp:=([.ptr 0 0 0,.ref 1 0 S.length,.ref 2 0 C.length,.mref 3,.ref 2 0 C.length,aa C.length,.int .i64 (IntKind.i64.wrap ((k:Int)+1))],[some (.row [m.enc] 6),some (.row (S.map Shp.enc) 5),some (.row (C.map Plc.enc) 7),some (.mp (P.map fun x=>Key3.enc x.1) (P.map fun x=>aP x.2)),none,none,none],[0,0,0,0,0,0,0])) [none,none,none,none] rfl ?_ ?_
  .exact⟨rfl,ae jr _,ae dF _,CG _,ae dF _,tr⟩
  rw[I,O];rfl
 rw[af]at e;obtain rfl:k=C.length:=by omega
 clear g;have Z:=fun(a:Key3) (i:Nat)=>DZ C (a:=a) (i:=i) C.length;generalize mapOf C C.length=M at*;refine gE rfl (gg rfl (eu C.length rfl rfl rfl (by grind[aK]) ?_));rw[show List.replicate C.length (D.bool false)=(List.replicate C.length false).map D.bool by simp];refine gg rfl ?_;rw[zA];have Q:(List.replicate C.length false).length=C.length:=by simp
 generalize List.replicate C.length false=j at*;generalize hG:gI M j [] m.places=G at*;obtain⟨R,d,ge⟩:=G;dsimp only
 refine aw (S:=fun x:Nat×List Bool×List Put2=>([.ptr 0 0 0,.ref 1 0 S.length,.ref 2 0 C.length,.mref 3,.ref 4 0 C.length,.ref 5 0 x.2.2.length,dA m.places,aa m.places.length,aa x.1],[some (.row [m.enc] 6),some (.row (S.map Shp.enc) 5),some (.row (C.map Plc.enc) 7),mpV Key3.enc aP M,some (.row (x.2.1.map D.bool) 1),some (.row (x.2.2.map Put2.enc) 5),none,none,none],[0,0,0,0,0,0,0,0,0]))
  (C:=fun x=>x.1<=m.places.length/\x.2.1.length=C.length/\x.2.2.length=x.1/\gI M x.2.1 x.2.2 (m.places.drop x.1)=(R,d,ge)/\∀p∈x.2.2,0<=p.shape/\p.shape<C.length) (m:=fun x=>m.places.length-x.1) (0,j,[]) ⟨zB _,Q,rfl,hG,by simp⟩ (by omega) ?_ ?_
 .refine pJ (o:=[.p _,.p _,.p _,.p _,.p _,.p []]) (kp:=([.ptr 0 0 0,.ref 1 0 S.length,.ref 2 0 C.length,.mref 3,.ref 4 0 C.length,.ref 5 0 0,dA m.places,aa m.places.length,aa 0],[some (.row [m.enc] 6),some (.row (S.map Shp.enc) 5),some (.row (C.map Plc.enc) 7),mpV Key3.enc aP M,some (.row (j.map D.bool) 1),some (.row [] 5),none,none,none],[0,0,0,0,0,0,0,0,0])) [none,none,none,none,none] rfl ?_ ?_
  .exact⟨rfl,ae jr _,ae dF _,CG _,ae (fun _=>rfl) _,rfl,tr⟩
  rfl
 rintro⟨k,sn,ps⟩ ⟨Y,T,h,b,w⟩ N g;dsimp only at Y T h b w g⊢;refine gC rfl rfl (fun U=>?_) (fun U=>?_)
 .rw[ad]at U;have c:k<m.places.length:=by omega
  have I:=wS (n:=k);have V:=q6 c;rw[zz c,<-q8 c,gI]at b;generalize db m.places k=p at*;refine gX k rfl rfl rfl rfl V rfl (gA rfl rfl rfl (Mv p) (gg rfl (Vh Oi aP M (keyOf p) rfl rfl rfl ?_)))
  cases W:gL M (keyOf p)with
  |none=>
   rw[W]at b;cases b;refine gg rfl (ak rfl (gE rfl (gF rfl rfl ?_)));rfl
  |some i=>
   rw[W]at b;simp only at b⊢;have y:=(Z _ _ W).1;have se:(sn.map D.bool)[i]?=some (.bool (sn.getD i false)):=by grind
   generalize hb:sn.getD i false=bb at*;refine gg rfl (aj rfl (gg rfl (aA i rfl rfl rfl rfl rfl y (gg rfl (aQ rfl rfl (by rw[zC];omega) rfl ?_)))));refine gC rfl rfl (fun J=>?_) (fun J=>?_)
   .rw[if_pos J]at b;cases b;refine gE rfl (gF rfl rfl ?_);rfl
   rw[if_neg (by grind)]at b;refine gg rfl (aA i rfl rfl rfl rfl rfl y (gg rfl (dq (es:=sn.map D.bool) (e':=.bool true) rfl rfl rfl (zB _) (by rw[zC];omega) rfl ?_)));rw[zC i,show(sn.map D.bool).set i (.bool true)=(sn.set i true).map D.bool by simp];have z:(sn.set i true).length=C.length:=by grind
   generalize sn.set i true=A at*;refine gg rfl (bI rfl rfl rfl rfl rfl rfl (by simp) (zB _) (by grind[aK]) ?_);refine gE rfl (g (k+1,A,ps++[jQ i p]) ⟨c,z,by grind,b,?_⟩ (by omega) ?_);grind[jQ]
   .refine pJ (o:=[.p _,.p _,.p _,.p _,.p _,.p (ps.map Put2.enc++[(jQ i p).enc])]) (kp:=([.ptr 0 0 0,.ref 1 0 S.length,.ref 2 0 C.length,.mref 3,.ref 4 0 C.length,.ref 5 0 (ps.length+1),dA m.places,aa m.places.length,.int .i64 (IntKind.i64.wrap ((k:Int)+1))],[some (.row [m.enc] 6),some (.row (S.map Shp.enc) 5),some (.row (C.map Plc.enc) 7),mpV Key3.enc aP M,some (.row (A.map D.bool) 1),some (.row (ps.map Put2.enc++[(jQ i p).enc]) 5),none,none,none],[0,0,0,0,0,0,0,0,0])) [none,none,none,none,none] rfl ?_ ?_
    .exact⟨rfl,ae jr _,ae dF _,CG _,ae (fun _=>rfl) _,by show(ps.map Put2.enc++[(jQ i p).enc]).all (plain 4)=true;simp[vP],tr⟩
    grind[aa]
 rw[af]at U;obtain rfl:k=m.places.length:=by omega
 rw[xA,gI]at b;cases b;clear g;rw[if_neg (by simp)];refine gE rfl (gg rfl ?_);have a1:=h;clear hG Z;refine gk (r:=.bool (decide (0<=rG R false))) rfl rfl ⟨bK (by grind) (bF (fun _=>rfl) _),tr⟩ (by rw[bZ (by grind)];exact Tv R false (by omega)) rfl ?_;refine gC rfl rfl (fun J=>?_) (fun J=>?_)
 .rw[if_pos (by grind)];exact gF rfl rfl rfl
 rw[if_neg (by grind)];refine gg rfl ?_;rw[zA]
 refine aw (S:=fun k:Nat=>([.ptr 0 0 0,.ref 1 0 S.length,.ref 2 0 C.length,.ref 3 0 d.length,dA m.places,aa m.places.length,aa k],[some (.row [m.enc] 6),some (.row (S.map Shp.enc) 5),some (.row (C.map Plc.enc) 7),some (.row (d.map Put2.enc) 5),none,none,none],[0,0,0,0,0,0,0]))
  (C:=fun k=>k<=m.places.length/\orF ((List.range k).map (om C d m.places))=0) (m:=fun k=>m.places.length-k) 0 ⟨zB _,rfl⟩ (by omega) ?_ ?_
 .exact ah rfl ⟨rfl,ae jr _,ae dF _,ae vP _,tr⟩ rfl
 intro k ⟨b1,ho⟩ N g;refine gC rfl rfl (fun X=>?_) (fun X=>?_)
 .rw[ad]at X;have c:k<m.places.length:=by omega
  have I:=wS (n:=k);have V:=q6 c;have b2:=D8 (f:=om C d m.places) c ho;have B:=Da (f:=om C d m.places) ho;have ue:=nW (l:=d) (i:=k) (by omega);have b3:=w (pu2 d k) (by grind[kC]);have hE:om C d m.places k=if(db m.places k).flip=(db C (pu2 d k).shape.toNat).flip then 0 else 12:=rfl
  generalize om C d m.places k=E at*;generalize pu2 d k=u at*;obtain⟨i,hi⟩:∃i:Nat,u.shape=i:=⟨u.shape.toNat,by omega⟩;have ce:=q6 (l:=C) (i:=i) (by omega);refine gX k rfl rfl rfl rfl V rfl (gg rfl (aA k rfl rfl rfl rfl rfl (by omega) ?_));refine gg rfl (aQ rfl rfl (by rw[zC];omega) rfl ?_);refine aA i rfl rfl rfl rfl hi (by omega) ?_;refine gg rfl (aQ rfl rfl (by rw[zC];omega) rfl ?_);refine gC rfl rfl (fun q=>?_) (fun q=>?_)
  .have F:E=12:=by grind
   rw[if_pos (by omega)];exact gE rfl (gF rfl rfl rfl)
  have F:E=0:=by grind
  exact gE rfl (g (k+1) ⟨c,B F⟩ (by omega) (ah rfl ⟨rfl,ae jr _,ae dF _,ae vP _,tr⟩ (by rw[I];rfl)))
 rw[af]at X;obtain rfl:k=m.places.length:=by omega
 rw[if_neg (by omega)];have a4:=Zd eD lS (bedM m) S d;generalize oQ eD (bedM m) S d=ce at*;refine gE rfl (gg rfl (gk (r:=.int .i64 ce) rfl rfl ⟨bK (by simp) (bF B6 _),bK (by simp) (bF vQ _),tr⟩ (by rw[bZ (by simp),bZ (by simp)];trivial) rfl ?_));refine gC rfl rfl (fun q=>?_) (fun q=>?_)
 .rw[aO]at q;rw[if_pos q];exact gF rfl rfl rfl
 rw[aE]at q;rw[if_neg (by omega)];refine gg rfl (cS rfl rfl rfl ⟨bK (by simp) (bF B6 _),bK (by simp) (bF vQ _),tr⟩ ?_);rw[bZ (by simp),bZ (by simp)];rfl
def mU (S:List Shp)(p:Put2):Int:=(bu S p).2
def lP (S:List Shp)(p:Put2):List Spot:=(bu S p).1
def lR (s:Sty)(m:Mkr):List (List Spot)×Int:=
 if(gq s m).2.2≠0 then([],(gq s m).2.2)
 else if orF ((gq s m).2.1.map (mU (gq s m).1))≠0 then([],orF ((gq s m).2.1.map (mU (gq s m).1)))
 else((gq s m).2.1.map (lP (gq s m).1),0)
def M5 (x:List (List Spot)×Int):D:=.tup [aY x.1,.int .i64 x.2]
theorem MZ {M:List (Key3×Nat)}:∀{l:List Plc} {sn:List Bool} {ps:List Put2},(gI M sn ps l).2.1.length<=ps.length+l.length
 |[],sn,ps=>by simp[gI]
 |p::l,sn,ps=>by
  rw[gI];split
  simp
  .split
   simp
   .have:=MZ (M:=M) (l:=l) (sn:=sn.set ‹Nat› true) (ps:=ps++[jQ ‹Nat› p]);grind
theorem NG (s:Sty)(m:Mkr):(gq s m).2.1.length<=m.places.length:=by
 unfold gq;grind[MZ,jc]
theorem L2 (s:Sty)(m:Mkr)(t:StyB s)(i:m.sizes.length<=100000)(j:m.places.length<=1000)(u:(bn s m.sizes).1.length<=60):PU 22 [s.enc,m.enc]=some (M5 (lR s m)):=by
 have b:=Xp s m t i j u;have r:=NG s m;unfold lR;generalize gq s m=A at*;obtain⟨S,ps,y⟩:=A;dsimp only at*;simp only[HA]at b;refine PS rfl (gA rfl rfl rfl b (gC rfl rfl (fun e=>?_) (fun e=>?_)))
 .rw[aO]at e;rw[if_pos e];exact gF rfl rfl rfl
 rw[aE]at e;rw[if_neg (by omega)];refine gg rfl ?_;rw[zA];refine aw (S:=fun k:Nat=>([cq S,.ref 1 0 k,cW ps,aa ps.length,aa k],[none,some (.row ((ps.take k).map fun p=>ac (lP S p)) 1),none,none,none],[0,0,0,0,0])) (C:=fun k=>k<=ps.length/\orF ((ps.take k).map (mU S))=0) (m:=fun k=>ps.length-k) 0 ⟨zB _,rfl⟩ (by omega) ?_ ?_
 .exact ah rfl ⟨rfl,tr⟩ rfl
 intro k ⟨z,l⟩ N v;refine gC rfl rfl (fun o=>?_) (fun o=>?_)
 .rw[ad]at o;have a:k<ps.length:=by omega
  have w:=wS (n:=k);have x:=nW a;have c:=qg (f:=mU S) a l;have d:=uk (f:=mU S) a l
  have q:(ps.take (k+1)).map (fun p=>ac (lP S p))=(ps.take k).map (fun p=>ac (lP S p))++[ac (lP S (pu2 ps k))]:=by
   grind[List.take_succ_eq_append_getElem,kC]
  rw[<-kC a]at c d;generalize pu2 ps k=p at*;have h:=mL S p;have h1:mU S p=(bu S p).2:=rfl;rw[h1]at c d;refine gX k rfl rfl rfl rfl x rfl (gA rfl rfl rfl h (gC rfl rfl (fun g=>?_) (fun g=>?_)))
  .rw[aO]at g;rw[c,if_neg g,if_pos g];exact gE rfl (gF rfl rfl rfl)
  rw[aE]at g;refine gg rfl (bI rfl rfl rfl rfl rfl rfl (by grind) (zB _) (by grind[aK]) ?_);refine gE rfl (v (k+1) ⟨a,d g⟩ (by omega) ?_);rw[q];refine ah rfl ⟨?_,tr⟩ ?_
  .rw[zY,ae (f:=fun p=>ac (lP S p)) (fun _=>rfl)];rfl
  rw[w];rfl
 rw[af]at o;obtain rfl:k=ps.length:=by omega
 rw[zH]at l;rw[if_neg (by omega),zH];refine gE rfl (gg rfl (cS rfl rfl rfl ⟨bK (by simp) (bF (f:=fun p=>ac (lP S p)) (fun _=>rfl) _),tr⟩ ?_));simp[bZ,M5,aY]
section
variable {m:Mkr}{ps:List (List Spot)}{rs:List RollS}{lots:List Int}{Q:List Ply}
def jP (m:Mkr)(ps:List (List Spot))(rs:List RollS)(Q:List Ply)(k j:Nat):List CutP:=(List.range j).map (cutN m ps rs Q k)
def eE (m:Mkr)(ps:List (List Spot))(rs:List RollS)(Q:List Ply):Nat->List CutP
 |0=>[]
 |k+1=>eE m ps rs Q k++jP m ps rs Q k ps.length
theorem BF (c:CutP):plain 4 c.enc=true:=rfl
theorem RU (c:CutP):dat 4 c.enc=true:=rfl
theorem rA:∀k,(eE m ps rs Q k).length=k*ps.length
 |0=>by simp[eE]
 |k+1=>by rw[eE,zL,rA k,jP,zA,List.length_range,y3]
theorem RO (h:LayB m ps rs lots Q)(r:PlaB m ps)(s:Sty)(t:StyB s)(c:lR s m=(ps,0))(d:m.sizes.length<=100000)(f:m.places.length<=1000)(u:(bn s m.sizes).1.length<=60):
 PU 13 [s.enc,di m Q,rolls rs,ints lots]=some (.tup [.lst ((eE m ps rs Q Q.length).map CutP.enc),.int .i64 0]):=by
 have q:=L2 s m t d f u;rw[c]at q;have A:=h.q40;have g:=(o6 (sR h.clo).ext).2.2.1;refine PS rfl (gA rfl rfl rfl q (gg rfl (aj (by show D.bool (nqb 0 0)=_;simp[aE]) ?_)));refine gA rfl rfl rfl (Y9 h) (gg rfl (aj (by show D.bool (nqb 0 0)=_;simp[aE]) ?_));refine gg rfl ?_;rw[zA];refine aw (S:=fun k:Nat=>([rolls rs,.ptr 1 0 0,aY ps,.ref 3 0 (k*ps.length),aa Q.length,aa k],[none,some (.row [di m Q] 7),none,some (.row ((eE m ps rs Q k).map CutP.enc) 6),none,none],[0,0,0,0,0,0])) (C:=fun k=>k<=Q.length) (m:=fun k=>Q.length-k) 0 (zB _) (by omega) ?_ ?_
 .exact ah rfl ⟨rfl,rfl,tr⟩ (by rw[Nat.zero_mul];rfl)
 intro k B N v;refine gC rfl rfl (fun e=>?_) (fun e=>?_)
 .rw[ad]at e;have b:k<Q.length:=by omega
  have w:=wS (n:=k);refine gg rfl ?_;rw[zA];refine aw (S:=fun j:Nat=>([rolls rs,.ptr 1 0 0,aY ps,.ref 3 0 (k*ps.length+j),aa k,aa Q.length,aa k,aY ps,aa ps.length,aa j],[none,some (.row [di m Q] 7),none,some (.row ((eE m ps rs Q k++jP m ps rs Q k j).map CutP.enc) 6),none,none,none,none,none,none],[0,0,0,0,0,0,0,0,0,0])) (C:=fun j=>j<=ps.length) (m:=fun j=>ps.length-j) 0 (zB _) (by omega) ?_ ?_
  .refine ah rfl ⟨rfl,ae BF _,tr⟩ ?_;rw[Nat.add_zero,show jP m ps rs Q k 0=[]from rfl,yI];rfl
  intro j E F i;refine gC rfl rfl (fun l=>?_) (fun l=>?_)
  .rw[ad]at l;have a:j<ps.length:=by omega
   have x:=wS (n:=j);have o:=Yt h r b a
   have p:eE m ps rs Q k++jP m ps rs Q k (j+1)=(eE m ps rs Q k++jP m ps rs Q k j)++[cutN m ps rs Q k j]:=by
    simp[jP,xo]
   have y:(eE m ps rs Q k++jP m ps rs Q k j).length=k*ps.length+j:=by simp[rA,jP]
   have z:k*ps.length<=40*60:=z6 (by omega) g;generalize eE m ps rs Q k++jP m ps rs Q k j=L at*;refine gX j rfl rfl rfl rfl (kw a) rfl (gA rfl rfl rfl o (gg rfl (aj (by show D.bool (nqb 0 0)=_;simp[aE]) ?_)));refine gg rfl (bI (es:=L.map CutP.enc) rfl rfl rfl rfl rfl rfl (by grind) (zB _) (by grind[aK]) ?_);refine gE rfl (i (j+1) a (by omega) (ah rfl ⟨rfl,?_,tr⟩ ?_))
   .rw[zY,ae BF];rfl
   rw[x,p,zb,yG];rfl
  rw[af]at l;obtain rfl:j=ps.length:=by omega
  refine gE rfl (gE rfl (v (k+1) b (by omega) (ah rfl ⟨rfl,ae BF _,tr⟩ ?_)));rw[w,y3];rfl
 rw[af]at e;obtain rfl:k=Q.length:=by omega
 refine gE rfl (gg rfl (cS rfl rfl rfl ⟨bK (by simp[rA]) (bF RU _),tr⟩ ?_));simp[bZ,rA]
end
def lnN (l:List Edge)(k:Nat):Nat:=((l.map fun e=>e.line.length).getD k 0)
def kE (l:List Edge):Nat->Int
 |0=>0
 |k+1=>kE l k+min ((lnN l k:Nat):Int) 20
def jD (p:Piece):Bool:=decide (24<kE p.edges (min p.edges.length 17)) ||(decide (16<p.edges.length) ||decide (16<p.notches.length))
def fy (l:List Use):Nat->Int
 |0=>0
 |k+1=>fy l k+min (max (us l k).count 0) 9
def oG (s:Sty)(g:Int):Bool:=
 if 4<s.pieces.length\/4<s.uses.length\/4<s.sizes.length\/4<s.mults.length\/6<s.seams.length\/8<s.ops.length\/g<0\/7<g then false
 else if s.pieces.any jD=true then false else decide (fy s.uses s.uses.length*g<=6)
theorem JE (l:List Edge):∀k,0<=kE l k/\kE l k<=20*k
 |0=>by simp[kE]
 |k+1=>by have:=JE l k;grind[kE]
theorem CH (l:List Use):∀k,0<=fy l k/\fy l k<=9*k
 |0=>by simp[fy]
 |k+1=>by have:=CH l k;grind[fy]
theorem U6 (s:Sty)(g:Int):PU 19 [s.enc,.int .i64 g]=some (.bool (oG s g)):=by
 refine PS rfl ?_
 repeat' (first
  |refine goP 800 rfl rfl ?_
  |refine ap rfl ?_|refine aq rfl ?_|refine au rfl ?_ ?_<;>intro _
  |refine ak rfl ?_|refine aj rfl ?_|refine an rfl ?_ ?_<;>intro _
  |refine aL rfl ?_ ?_<;>intro _
  |refine fI rfl ?_)
 iterate 8
  .simp only[ad,af,zA]at*;rw[oG,if_pos (by omega)]
 simp only[af,zA]at*;have F:oG s g=if s.pieces.any jD=true then false else decide (fy s.uses s.uses.length*g<=6):=by rw[oG,if_neg (by omega)]
 rw[F];refine aw (S:=fun k:Nat=>([.int .i64 g,.ptr 1 0 0,aa k],[none,some (.row [s.enc] 7),none],[0,0,0])) (C:=fun k=>k<=s.pieces.length/\(s.pieces.take k).any jD=false) (m:=fun k=>s.pieces.length-k) 0 ⟨zB _,rfl⟩ (by omega) ?_ ?_
 .exact ah rfl ⟨rfl,tr⟩ rfl
 intro k ⟨G,H⟩ N w;refine gg rfl ?_;rw[zA];refine an rfl (fun e=>?_) (fun e=>?_)
 .rw[ad]at e;have a:k<s.pieces.length:=by omega
  have x:=wS (n:=k);have r:=jL (f:=jD) a H;have c:=jO (f:=jD) a;have y:=qF a;rw[<-E5 a]at r c;generalize pc s.pieces k=p at*;refine gg rfl (aw (S:=fun j:Nat=>([.int .i64 g,.ptr 1 0 0,aa k,.int .i64 (kE p.edges j),aa j],[none,some (.row [s.enc] 7),none,none,none],[0,0,0,0,0])) (C:=fun j=>j<=min p.edges.length 17) (m:=fun j=>min p.edges.length 17-j) 0 (zB _) (by omega) ?_ ?_)
  .exact ah rfl ⟨rfl,tr⟩ rfl
  intro j t O z;refine gX k rfl rfl rfl rfl y rfl (gg rfl ?_);rw[zA];have d:¬(j<min p.edges.length 17)->j=min p.edges.length 17:=fun h=>by omega
  have u:jD p=(decide (24<kE p.edges (min p.edges.length 17)) ||(decide (16<p.edges.length) ||decide (16<p.notches.length))):=rfl;have l:=JE p.edges j;refine au rfl (fun A=>?_) (fun A=>?_);rw[ad]at A;refine gC rfl rfl (fun B=>?_) (fun B=>?_)
  .rw[ad]at B;have I:=wS (n:=j);have J:(p.edges.map Edge.enc)[j]?=some (p.edges[j]).enc:=by grind
   have K:lnN p.edges j=(p.edges[j]).line.length:=by grind[lnN]
   have i:kE p.edges (j+1)=kE p.edges j+min ((lnN p.edges j:Nat):Int) 20:=rfl;rw[K]at i;refine gX k rfl rfl rfl rfl y rfl (gX j rfl rfl rfl rfl J rfl (gg rfl ?_));rw[zA];refine bo (z (j+1) (by omega) (by omega) (ah rfl ⟨rfl,tr⟩ ?_));rw[i,I,wrap64 (by omega) (by omega)];rfl
  rw[af]at B;have t:=d (by omega);subst t;rotate_left;rw[af]at A;have t:=d (by omega);subst t;refine gg rfl (aj rfl ?_)
  all_goals
   refine gE rfl ?_
   repeat' (first
    |refine goP 800 rfl rfl ?_
    |refine ap rfl ?_|refine aq rfl ?_|refine au rfl ?_ ?_<;>intro _
    |refine ak rfl ?_|refine aj rfl ?_|refine an rfl ?_ ?_<;>intro _
    |refine aL rfl ?_ ?_<;>intro _
    |refine fI rfl ?_
    |refine cg k rfl rfl rfl y rfl ?_)
   .rename_i q;rw[ad]at q;have b:jD p=true:=by rw[u,xD q];rfl
    refine bo (gF rfl rfl ?_);rw[if_pos (c b)]
   .rename_i q v;rw[ad,zA]at v;have b:jD p=true:=by rw[u,xD (show 16<p.edges.length by omega)];simp
    refine bo (gF rfl rfl ?_);rw[if_pos (c b)]
   .rename_i q v D;rw[ad,zA]at D;have b:jD p=true:=by rw[u,xD (show 16<p.notches.length by omega)];simp
    refine bo (gF rfl rfl ?_);rw[if_pos (c b)]
   rename_i q v D;rw[af]at q;rw[af,zA]at v D;have o:jD p=false:=by rw[u,yS (by omega),yS (by omega),yS (by omega)];rfl
   exact bo (w (k+1) ⟨a,r o⟩ (by omega) (ah rfl ⟨rfl,tr⟩ (by rw[x];rfl)))
 rw[af]at e;rw[if_neg (by grind)];refine gE rfl (gg rfl (aw (S:=fun k:Nat=>([.int .i64 g,.ptr 1 0 0,.int .i64 (fy s.uses k),aa k],[none,some (.row [s.enc] 7),none,none],[0,0,0,0])) (C:=fun k=>k<=s.uses.length) (m:=fun k=>s.uses.length-k) 0 (zB _) (by omega) ?_ ?_))
 .exact ah rfl ⟨rfl,tr⟩ rfl
 intro k G N w;refine gg rfl ?_;rw[zA];refine an rfl (fun e=>?_) (fun e=>?_)
 .rw[ad]at e;have a:k<s.uses.length:=by omega
  have x:=wS (n:=k);have l:=CH s.uses k;have i:fy s.uses (k+1)=fy s.uses k+min (max (us s.uses k).count 0) 9:=rfl;have L:=s7 a;refine gX k rfl rfl rfl rfl L rfl (gE rfl (w (k+1) a (by omega) (ah rfl ⟨rfl,tr⟩ ?_)));rw[i,x,wrap64 (by omega) (by omega)];rfl
 rw[af]at e;obtain rfl:k=s.uses.length:=by omega
 have l:=CH s.uses s.uses.length
 have E:0<=fy s.uses s.uses.length*g/\fy s.uses s.uses.length*g<=36*7:=by
  refine⟨ya l.1 (by omega),Int.le_trans (wF (show _<=36 by omega) (by omega)) (xO (by omega) (by omega))⟩
 have M:IntKind.i64.wrap (fy s.uses s.uses.length*g)=fy s.uses s.uses.length*g:=wrap64 (Int.le_trans (by decide) E.1) (Int.le_trans E.2 (by decide));refine gE rfl (gF rfl rfl ?_);rw[M,ca]
def lay0:D:=.agg [.int .i64 0,.int .i64 0,.int .i64 0,.int .i64 0,.lst [],.lst [],.lst []]
def mF (r:RollS):Bool:=decide (6<r.flaws.length) ||decide (40<r.id.size)
def oM (rs:List RollS)(lots:List Int):Bool:=if 6<rs.length\/8<lots.length then false else !rs.any mF
theorem Few_PU (rs:List RollS)(lots:List Int):PU 20 [lay0,.lst [],rolls rs,ints lots]=some (.bool (oM rs lots)):=by
 refine PS rfl ?_
 repeat' (first
  |refine goP 800 rfl rfl ?_
  |refine ap rfl ?_|refine aq rfl ?_|refine au rfl ?_ ?_<;>intro _
  |refine ak rfl ?_|refine aj rfl ?_|refine an rfl ?_ ?_<;>intro _
  |refine aL rfl ?_ ?_<;>intro _
  |refine fI rfl ?_)
 iterate 6
  .simp only[ad,af,zA,yf]at*;rw[oM,if_pos (by omega)]
 simp[af]at*;have l:oM rs lots=!rs.any mF:=by rw[oM,if_neg (by omega)]
 rw[l];refine aw (S:=fun _:Nat=>([.lst [],rolls rs,.ptr 2 0 0,.int .i64 0],[none,none,some (.row [lay0] 7),none],[0,0,0,0])) (C:=fun _=>True) (m:=fun _=>0) 0 tr (by omega) ?_ ?_
 .exact ah rfl ⟨rfl,tr⟩ rfl
 intro o _ N h;refine gC rfl rfl (fun e=>absurd (ad.1 e) (by simp)) (fun _=>?_);refine gE rfl (gg rfl (aw (S:=fun k:Nat=>([rolls rs,.ptr 1 0 0,aa k],[none,some (.row [lay0] 7),none],[0,0,0])) (C:=fun k=>k<=rs.length/\(rs.take k).any mF=false) (m:=fun k=>rs.length-k) 0 ⟨zB _,rfl⟩ (by omega) ?_ ?_))
 .exact ah rfl ⟨rfl,tr⟩ rfl
 intro k ⟨s,i⟩ N h;refine gg rfl ?_;rw[zA];refine an rfl (fun e=>?_) (fun e=>?_)
 .rw[ad]at e;have a:k<rs.length:=by omega
  have p:=wS (n:=k);have c:=jL (f:=mF) a i;have d:=jO (f:=mF) a;have q:=oI a;rw[<-qL a]at c d;generalize rl rs k=r at*;have t:mF r=(decide (6<r.flaws.length) ||decide (40<r.id.size)):=rfl
  repeat' (first
   |refine goP 800 rfl rfl ?_
   |refine ap rfl ?_|refine aq rfl ?_|refine au rfl ?_ ?_<;>intro _
   |refine ak rfl ?_|refine aj rfl ?_|refine an rfl ?_ ?_<;>intro _
   |refine aL rfl ?_ ?_<;>intro _
   |refine fI rfl ?_
   |refine cg k rfl rfl rfl q rfl ?_)
  .rename_i g;rw[ad,zA]at g;refine bo (gF rfl rfl ?_);grind
  .rename_i g j;rw[ad]at j;refine bo (gF rfl rfl ?_);grind
  rename_i g j;rw[af,zA]at g;rw[af]at j;have b:mF r=false:=by grind
  exact bo (h (k+1) ⟨a,c b⟩ (by omega) (ah rfl ⟨rfl,tr⟩ (by rw[p];rfl)))
 rw[af]at e;obtain rfl:k=rs.length:=by omega
 rw[zH]at i;rw[i];refine gE rfl (gg rfl (aw (S:=fun _:Nat=>([.ptr 0 0 0,.int .i64 0],[some (.row [lay0] 7),none],[0,0])) (C:=fun _=>True) (m:=fun _=>0) 0 tr (by omega) ?_ ?_))
 .exact ah rfl ⟨rfl,tr⟩ rfl
 intro o _ N h;refine gC rfl rfl (fun e=>absurd (ad.1 e) (by simp)) (fun _=>?_);exact gE rfl (gF rfl rfl rfl)
structure StyQ (s:Sty):Prop where
 size:∀x∈s.sizes,x.size<=140737488355328
 corners:∀p∈s.pieces,p.corners.length<=140737488355328
 widths:∀p∈s.pieces,p.widths.length<=140737488355328
structure RolQ (r:RollS):Prop where
 fl:∀f∈r.flaws,-9223372036854775808<=f.x/\f.x<=9223372036854775807/\ -9223372036854775808<=f.y/\f.y<=9223372036854775807
theorem SU {s:Sty}(a:StyQ s){g:Int}(h:oG s g=true):StyB s/\s.uses.length<=4/\fy s.uses s.uses.length*g<=6/\g<=7:=by
 unfold oG at h;split at h
 grind;split at h
 grind;refine⟨⟨by omega,a.size,by omega,by omega,by omega,by omega,by omega,a.corners,a.widths,fun p b=>?_⟩,by omega,by grind,by omega⟩;grind[jD]
theorem few_B {rs:List RollS}{lots:List Int}(a:∀r∈rs,RolQ r)(h:oM rs lots=true):(∀r∈rs,RollB r)/\rs.length<=6/\lots.length<=8:=by
 unfold oM at h;split at h
 grind;refine⟨fun r hr=>⟨?_,(a r hr).fl⟩,by omega,by omega⟩;grind[mF]
theorem FH {l:List Use}(h:∀u∈l,1<=u.count/\u.count<=4):∀k,k<=l.length->fy l k=(iS l k).length
 |0,_=>rfl
 |k+1,a=>by
  have b:=h (us l k) (by grind[qz]);rw[fy,FH h k (by omega),iS,zL];grind[gW]
theorem WJ {s:Sty}{sizes:List Int}(h:fy s.uses s.uses.length*(sizes.length:Int)<=6):(bn s sizes).1.length<=6:=by
 unfold bn;split
 simp;rename_i h1
 iterate 4 (split;exact zB _)
 have a:=lX (s:=s) (by omega);rw[FH (fun u b=>(a.use u b).2.2) _ (zD _)]at h;rw[zA,A9,dV,if_neg h1];omega
theorem Cm:∀{l:List Int} {s:Int},iH l s=true->0<=s->s<=40->∀{m:Mkr} {ps:List (List Spot)} {rs:List RollS} {lots:List Int} {k:Nat} {Q b:List Ply},(Q.length:Int)=s->gB m ps rs lots l k Q=some b->b.length<=40
 |[],s,h,_,c,m,ps,rs,lots,k,Q,b,d,a=>by cases a;omega
 |n::l,s,h,h0,c,m,ps,rs,lots,k,Q,b,d,a=>by
  rw[iH]at h;split at h
  grind;rw[gB]at a;split at a
  .exact Cm h (by omega) (by omega) (by omega) a
  split at a
  grind
  .rename_i f e;exact Cm h (by omega) (by omega) (by rw[layNs_len e];omega) a
where
 layNs_len {len:Int} {ps:List (List Spot)} {b:Int}:∀{j:Nat} {R:List Rst} {off:Nat} {Q a:List Ply},lJ len ps b j R off Q=some a->a.length=Q.length+j
  |0,R,off,Q,a,h=>by cases h;rfl
  |j+1,R,off,Q,a,h=>by
   rw[lJ]at h;split at h
   .have:=layNs_len h;grind
   grind
structure LaidF (s:Sty)(b:Bed)(sizes:List Int)(rs:List RollS)(lots:List Int)(m:Mkr)(ps:List (List Spot))(Q:List Ply):Prop where
 styB:StyB s
 gar:sizes.length<=7
 n6:(bn s sizes).1.length<=6
 msz:m.sizes=sizes
 mpl:m.places.length<=6
 bld:∃d,PU 21 [s.enc,b.enc,ints sizes]=some d/\EN s b sizes d/\d=.tup [m.enc,.int .i64 0]
 pol:lR s m=(ps,0)
 lay:LayB m ps rs lots Q
def jv (s:Sty)(b:Bed)(sizes:List Int):D:=.agg (s.enc.cells++(b.enc.cells++[ints sizes]))
def jl (rs:List RollS)(lots a:List Int):D:=.agg [rolls rs,ints lots,ints a]
def DH (s:Sty)(b:Bed)(sizes:List Int)(rs:List RollS)(lots a:List Int)(d:D):Prop:=∃(m:Mkr) (ps:List (List Spot)) (Q:List Ply) (ok:Bool),d=.tup [di m Q,aY ps,.bool ok]/\(ok=true->LaidF s b sizes rs lots m ps Q)
theorem XW (s:Sty)(b:Bed)(sizes:List Int)(rs:List RollS)(lots a:List Int)(O:StyQ s)(hr:∀r∈rs,RolQ r):∃d,PU 5 [jv s b sizes,jl rs lots a]=some d/\DH s b sizes rs lots a d:=by
 have c:∀d,d=.tup [di o0 [],aY [],.bool false]->DH s b sizes rs lots a d:=fun d z=>⟨o0,[],[],false,z,fun h=>by grind⟩;refine jh rfl (gg rfl ?_);rw[zA];refine aB rfl rfl (U6 s sizes.length) ?_
 repeat' (first
  |refine goP 800 rfl rfl ?_
  |refine ap rfl ?_|refine aq rfl ?_|refine au rfl ?_ ?_<;>intro _
  |refine ak rfl ?_|refine aj rfl ?_|refine an rfl ?_ ?_<;>intro _
  |refine aL rfl ?_ ?_<;>intro _
  |refine fI rfl ?_
  |refine aB rfl rfl (Few_PU rs lots) ?_)
 .exact bt rfl rfl rfl tr (c _ rfl)
 .exact bt rfl rfl rfl tr (c _ rfl)
 .exact bt rfl rfl rfl tr (c _ rfl)
 rename_i R T U;have q:oG s sizes.length=true:=by grind
 have t:oM rs lots=true:=by grind
 rw[af,zA]at T;obtain⟨j,u4,A,V⟩:=SU O q;obtain⟨f,o,W⟩:=few_B hr t;have B:=WJ A;clear R U q t;refine aw (S:=fun x:Nat×Int=>([.ptr 0 0 0,.ptr 1 0 0,.ptr 2 0 0,.int .i64 x.2,aa x.1],[some (.row [jv s b sizes] 12),some (.row [jl rs lots a] 3),some (.row [lT] 7),none,none],[0,0,0,0,0])) (C:=fun x=>x.1<=a.length) (m:=fun x=>a.length-x.1) (0,0) (zB _) (by omega) ?_ ?_
 .exact ah rfl ⟨rfl,rfl,rfl,tr⟩ rfl
 rintro⟨k,n⟩ hk N X;refine gC rfl rfl (fun e=>?_) (fun e=>?_)
 .rw[ad,zA]at e;have p:k<a.length:=by omega
  have Y:=wS (n:=k);refine gX k rfl rfl rfl rfl (eP p) rfl (gC rfl rfl (fun Z=>?_) (fun Z=>?_))
  .exact gE rfl (gg rfl (bt rfl rfl rfl tr (c _ rfl)))
  exact gX k rfl rfl rfl rfl (eP p) rfl (gE rfl (X (k+1,IntKind.i64.wrap (n+a[k])) p (by omega) (ah rfl ⟨rfl,rfl,rfl,tr⟩ (by rw[Y];rfl))))
 obtain⟨d,u,m,e,rfl,v⟩:=VQ s b sizes j (by omega) (by omega);refine gE rfl (gA rfl rfl rfl u ?_)
 repeat' (first
  |refine goP 800 rfl rfl ?_
  |refine ap rfl ?_|refine aq rfl ?_|refine au rfl ?_ ?_<;>intro _
  |refine ak rfl ?_|refine aj rfl ?_|refine an rfl ?_ ?_<;>intro _
  |refine aL rfl ?_ ?_<;>intro _
  |refine fI rfl ?_)
 .exact bt rfl rfl rfl tr (c _ rfl)
 .exact bt rfl rfl rfl tr (c _ rfl)
 rename_i f1 f2;rw[aE]at f1;obtain⟨b1,pus,b2,b3,b4,b5⟩:=v f1;have a2:=DE b1;have D:m.sizes=sizes:=by rw[b5]
 have E:m.places.length<=6:=by
  grind[AG]
 have F:=L2 s m j (by grind) (by omega) (by grind)
 have G:(lR s m).1.length<=6:=by
  have:=NG s m;unfold lR;grind
 generalize hP:lR s m=P at*;obtain⟨ps,pe⟩:=P;dsimp only at G
 obtain⟨d,H,x,Q,l,g,rfl,I,J⟩:=SH m ps rs lots a f (by omega) (by grind) (by omega) (by omega) (by omega) (fun _=>0) (fun Q w y L=>by
  have M:=Gh w y;have j:LayB m ps rs lots Q:=⟨w,M,L,o,f⟩
  obtain⟨d,h1,l,rfl⟩:=SN m Q rs lots o (by
   grind[gy]) f L j.p20 j.cl M.ch j.tl
  grind)
 refine aB rfl rfl F (gA rfl rfl rfl H ?_)
 have i:∀ok d,d=.tup [di x Q,aY ps,.bool ok]->(ok=true->pe=0/\g=0)->DH s b sizes rs lots a d:=fun ok d z ho=>⟨x,ps,Q,ok,z,fun h=>by
  obtain⟨rfl,rfl⟩:=ho h;obtain⟨rfl,y⟩:=J rfl;obtain⟨w,a6,_⟩:=I.1 rfl
  have K:iH a 0=true:=by
   grind[px]
  exact⟨j,by omega,B,D,E,⟨_,u,⟨_,_,rfl,v⟩,by rw[f1]⟩,hP,⟨w,Gh w y,Cm K (xL _) (by decide) (Q:=[]) rfl y,o,f⟩⟩⟩
 repeat' (first
  |refine goP 800 rfl rfl ?_
  |refine ap rfl ?_|refine aq rfl ?_|refine au rfl ?_ ?_<;>intro _
  |refine ak rfl ?_|refine aj rfl ?_|refine an rfl ?_ ?_<;>intro _
  |refine aL rfl ?_ ?_<;>intro _
  |refine fI rfl ?_)
 .rename_i h1;rw[co]at h1;refine bt rfl rfl rfl tr (i _ _ rfl fun h=>⟨h1,co.1 h⟩)
 exact bt rfl rfl rfl tr (i _ _ rfl fun h=>by grind)
end Go.F
namespace Go.F
theorem IB {M:List (Key3×Nat)}:∀{l:List Plc} {sn:List Bool} {ps:List Put2},(gI M sn ps l).2.2=0->(gI M sn ps l).2.1.length=ps.length+l.length/\(∀k,k<ps.length->pu2 (gI M sn ps l).2.1 k=pu2 ps k)/\
 ∀k (h:k<l.length),∃i,gL M (keyOf l[k])=some i/\pu2 (gI M sn ps l).2.1 (ps.length+k)=jQ i l[k]
 |[],sn,ps,h=>⟨rfl,fun _ _=>rfl,fun k h=>by grind⟩
 |p::l,sn,ps,h=>by
  rw[gI]at h⊢
  cases a:gL M (keyOf p)with
  |none=>grind
  |some i=>
   rw[a]at h;simp at h⊢;split at h
   grind
   .obtain⟨h1,c,h3⟩:=IB (l:=l) (sn:=sn.set i true) (ps:=ps++[jQ i p]) h;refine⟨by grind,fun k b=>?_,fun k b=>?_⟩;grind[pu2]
    .cases k with
     |zero=>
      simp_all[pu2]
     |succ k=>
      obtain⟨d,e,f⟩:=h3 k (by grind);grind
theorem O1 {l:List Use}{p:Plc}:∀{n:Nat},n<=l.length->p∈iS l n->∃i k:Nat,i<n/\p=kB (us l i) i k
 |0,_,h=>by cases h
 |n+1,a,h=>by
  rcases za.1 h with h|h
  .obtain⟨i,k,h1,b⟩:=O1 (by omega) h;grind
  obtain⟨k,_,rfl⟩:=zy.1 h;grind
theorem Hp {C:List Plc}{sizes:List Int}{j:Int×Plc}:∀{g:Nat},j∈bR C sizes g->∃(a:Nat) (c:Plc),a<g/\c∈C/\j=(szI sizes a,fZ c a)
 |0,h=>by cases h
 |g+1,h=>by
  rcases za.1 h with h|h
  .obtain⟨a,c,h1,b,h3⟩:=Hp h;grind
  obtain⟨c,d,rfl⟩:=zy.1 h;grind
structure ShpK (s:Sty)(sizes:List Int):Prop where
 ok:fx s=0
 sz:∀n∈sizes,0<=n/\n<s.sizes.length
 er:∀j∈bR (dV s) sizes sizes.length,fJ s j=0
 eq:bn s sizes=((bR (dV s) sizes sizes.length).map (fR s),(bR (dV s) sizes sizes.length).map (·.2),0)
theorem Tj {s:Sty}{sizes:List Int}(h:(bn s sizes).2.2=0):ShpK s sizes:=by
 unfold bn at h;split at h
 grind;split at h
 grind;split at h
 grind;split at h
 grind;split at h
 grind;refine⟨by omega,fun n a=>?_,rq (by omega),?_⟩;simp_all[gi];simp_all[bn,if_neg]
structure PlcF (s:Sty)(m:Mkr)(ps:List (List Spot))(j:Nat)(p:Plc):Prop where
 g0:0<=p.garment
 g1:p.garment<m.sizes.length
 u0:0<=p.use
 u1:p.use.toNat<s.uses.length
 s0:0<=szI m.sizes p.garment.toNat
 s1:szI m.sizes p.garment.toNat<s.sizes.length
 c0:0<=p.copy
 fl:p.flip=((us s.uses p.use.toNat).pair&&decide (p.copy%2=1))
 al:lh (eM s p.use).grain false ⟨false,p.quarter⟩=true
 cut:∃q,fQ s (szI m.sizes p.garment.toNat) p.use=(q,0)/\plg ps j=im ⟨p.x,p.y⟩ (dj ⟨false,p.quarter⟩ (if p.flip=true then dj kO q else q))
theorem Q0 {s:Sty}{m:Mkr}{ps:List (List Spot)}(h:lR s m=(ps,0)):fx s=0/\ps.length=m.places.length/\∀j (w:j<m.places.length),PlcF s m ps j m.places[j]:=by
 unfold lR at h;split at h
 grind;split at h
 grind;rename_i q hE;simp only[ne_eq,Decidable.not_not]at q hE;have e:=zX Prod.fst h;dsimp only at e;unfold gq at q hE e;split at q
 grind;rename_i h1;rw[if_neg h1]at hE e;split at q
 grind;rename_i A;rw[if_neg A]at hE e;split at q
 grind;rename_i h3;rw[if_neg h3]at hE e;split at q
 grind;rename_i B;rw[if_neg B]at hE e;split at q
 grind;rename_i r;rw[if_neg r]at hE e;simp only[ne_eq,Decidable.not_not]at h1 A B r;dsimp only at hE e;clear h h3 q;have K:=Tj h1;obtain⟨x,_,Q⟩:=IB (show(gI _ _ _ _).2.2=0 from A);rw[yf,zC]at x;have C:ps.length=m.places.length:=by rw[<-e,zA];exact x
 refine⟨K.ok,C,fun j w=>?_⟩;obtain⟨i,hi,y⟩:=Q j w;rw[yf,zC]at y;obtain⟨o,t⟩:=DZ _ _ hi;have y:pu2 (jc s m).2.1 j=jQ i m.places[j]:=y;have x:(jc s m).2.1.length=m.places.length:=x;generalize R:(jc s m).2.1=G at*;have f:=rq B j (yN.2 w)
 have g:pi eD (bedM m) (bn s m.sizes).1 G j=0:=by
  unfold oQ at r;split at r
  omega
  .exact rq r j (yN.2 (by omega))
 have l:mU (bn s m.sizes).1 (pu2 G j)=0:=rq hE (pu2 G j) (by grind[kC])
 have d:plg ps j=lP (bn s m.sizes).1 (pu2 G j):=by
  grind[fw,kC]
 rw[K.eq]at o t f g l d;dsimp only at o t f g l d;unfold om at f;unfold pi at g;rw[y]at f g l d;generalize V:bR (dV s) m.sizes m.sizes.length=J at*;rw[zA]at o;have L:i<J.length:=o;have v:J[i]∈bR (dV s) m.sizes m.sizes.length:=by grind
 obtain⟨a,c,W,M,D⟩:=Hp v;rw[dV,if_neg (by grind)]at M;obtain⟨u,k,S,rfl⟩:=O1 (zD _) M;have n:=K.er _ v;have N:db (J.map (·.2)) i=fZ (kB (us s.uses u) u k) a:=by grind[q8]
 have O:shp (J.map (fR s)) i=fR s (szI m.sizes a,fZ (kB (us s.uses u) u k) a):=by grind[WL]
 rw[D]at n;have E:(jQ i m.places[j]).shape.toNat=i:=by rfl
 rw[N]at t;rw[q8 w,E,N]at f;unfold mU at l;unfold lP at d;have b:=g;unfold kg at b;rw[E,O]at b;split at b
 omega;split at b
 omega;obtain⟨_,_,_,_,_,F⟩:=A6 l;rw[F]at d;unfold o4 at d;rw[E,O]at d;generalize m.places[j]=p at*;simp only[keyOf,Key3.mk.injEq]at t;obtain⟨H,z,P⟩:=t;have H:p.garment=a:=H;have z:p.use=u:=z;have P:p.copy=k:=P
 have f:p.flip=((us s.uses u).pair&&decide (k%2=1)):=by
  simp_all[fZ,kB,us]
 have T:=K.sz (szI m.sizes a) (by grind[D6]);unfold fJ ga at n;unfold fR ga at d b;dsimp only at n d b;split at n
 omega;rename_i I;rw[if_neg I]at d b;split at n
 omega;rename_i U;rw[if_neg U]at d b;dsimp only at d b;refine⟨by omega,by omega,by omega,by omega,?_,?_,by omega,?_,?_,?_⟩;grind[Int.toNat_natCast];grind[Int.toNat_natCast];grind
 .rw[z];split at b
  omega
  .rename_i h;rw[zi]at h;exact h
 rw[H,z,yW,f];simp at I;refine⟨(fQ s (szI m.sizes a) u).1,Prod.ext rfl I,d⟩
attribute [local irreducible] IntKind.wrap wpM
theorem PI (l o b2 q r s u:Option Blk)(b:aI l=true)(c:aI o=true)(d:aI b2=true)(e:aI q=true)(f:aI r=true)(i:aI s=true)(j:aI u=true)(t:Turn)(p:List Spot)(J:p.length<=100000){h:ab}{z:Frz}(E:HasB [(0,l),(1,o),(2,b2),(5,q),(84,r),(147,s),(241,u)] h z){x:D->ab->Frz->Nat->Prop}
 (F:∀h' z',HasB ((297,some (.row ((dj t p).map Spot.enc) 2))::[(0,l),(1,o),(2,b2),(5,q),(84,r),(147,s),(241,u)]) h' z'->x (.ref 297 0 p.length) h' z' 342):
 wpM TT (shr TT 5) 295 [.code sy.1.code] .normal (enter [t.enc,ac p]) h z 295 (bB sy.1 x):=by
 obtain⟨⟨h0,rfl⟩,K,rfl⟩:=E;refine gg rfl ?_;rw[zA];refine eu p.length rfl rfl rfl (by grind[aK]) ?_;rw[<-OV t];refine gg rfl ?_;rw[zA];refine bO (S:=fun k:Nat=>([ac p,.ptr 296 0 0,.ref 297 0 p.length,ac p,aa p.length,aa k],[none,some (.row [t.enc] 2),some (.row ((fX t p k).map Spot.enc) 2),none,none,none],[0,0,0,0,0,0])) (O:=fun _ y A=>HasB [(0,l),(1,o),(2,b2),(5,q),(84,r),(147,s),(241,u)] y A) (C:=fun k=>k<=p.length) (m:=fun k=>p.length-k) 0 (zB _) (by omega) ?_ ?_
 .exact ba rfl ⟨rfl,ae am _,tr⟩ ⟨by rfl,HasB.of ⟨⟨aF rfl b,rfl⟩,⟨aF rfl c,rfl⟩,⟨aF rfl d,rfl⟩,⟨aF rfl e,rfl⟩,⟨aF rfl f,rfl⟩,⟨aF rfl i,rfl⟩,⟨aF rfl j,rfl⟩,tr⟩⟩
 intro k G y A H N B;obtain⟨⟨h1,rfl⟩,L,rfl⟩:=H;refine gC rfl rfl (fun v=>?_) (fun v=>?_)
 .rw[ad]at v;have a:k<p.length:=by omega
  have M:=wS (n:=k);have I:=Oh t p a;refine gX k rfl rfl rfl rfl (aZ a) rfl (gC rfl rfl (fun g=>?_) (fun g=>?_))
  .have w:IntKind.i64.wrap (IntKind.i64.wrap (((p.map Spot.enc).length:Int)-1)-(k:Int))=((p.length-1-k:Nat):Int):=by grind[wrap64]
   refine gA rfl rfl rfl (oz t (pt p k)) (aA (p.length-1-k) rfl rfl rfl rfl w (by omega) ?_);refine gp (enc:=Spot.enc) (fX t p k) (p.length-1-k) (dm t (pt p k)) rfl rfl (zC _) rfl (fun _=>rfl) rfl (zB _) (by grind[fX]) ?_;exact gE rfl (B (k+1) a (by omega) (ba rfl ⟨rfl,ae am _,tr⟩ ⟨by grind[ac,aa],HasB.of ⟨⟨aF rfl b,rfl⟩,⟨aF rfl c,rfl⟩,⟨aF rfl d,rfl⟩,⟨aF rfl e,rfl⟩,⟨aF rfl f,rfl⟩,⟨aF rfl i,rfl⟩,⟨aF rfl j,rfl⟩,tr⟩⟩))
  have w:(k:Int)=(k:Int):=rfl;refine gA rfl rfl rfl (oz t (pt p k)) (aA (k) rfl rfl rfl rfl w (by omega) ?_);refine gp (enc:=Spot.enc) (fX t p k) (k) (dm t (pt p k)) rfl rfl (zC _) rfl (fun _=>rfl) rfl (zB _) (by grind[fX]) ?_;exact gE rfl (B (k+1) a (by omega) (ba rfl ⟨rfl,ae am _,tr⟩ ⟨by grind[ac,aa],HasB.of ⟨⟨aF rfl b,rfl⟩,⟨aF rfl c,rfl⟩,⟨aF rfl d,rfl⟩,⟨aF rfl e,rfl⟩,⟨aF rfl f,rfl⟩,⟨aF rfl i,rfl⟩,⟨aF rfl j,rfl⟩,tr⟩⟩))
 rw[af]at v;obtain rfl:k=p.length:=by omega
 rw[M2];exact gE rfl (gg rfl (bd rfl rfl (F _ _ (HasB.of ⟨⟨rfl,rfl⟩,⟨⟨rfl,rfl⟩,⟨rfl,rfl⟩,⟨rfl,rfl⟩,⟨rfl,rfl⟩,⟨rfl,rfl⟩,⟨rfl,rfl⟩,⟨rfl,rfl⟩,tr⟩⟩))))
section
variable {T0 T:Tab}{nx0:Nat}{s:List Fr}{t:ai}{h:ab}{z:Frz}{nx:Nat}{q:Ex->ai->ab->Frz->Nat->Prop}{base i:Nat}{res:List Nat}{g:Gd}{rest:List KOper}
theorem atShrT {n:Nat}{f:FuncId}{args:List X}{fn:KFn}{a:Option Nat}(c:T0.shared f=true)(d:T.tab f=some fn)
 (b:wpM T (shr T n) nx [.code fn.code] .normal (enter (args.map (·.ev t))) h z nx (bB fn fun v h z nx=>wpM T0 (shr T (n+1)) nx0 (.ops base res rest::s) .normal (put t a v) h z nx q))
 (e:(fn.em&&fW (args.map (·.ev t)))=false:=by rfl) (j:fn.gv=[]:=by rfl) (hr:fn.hr=[]:=by rfl):
 wpM T0 (shr T (n+1)) nx0 (.ops base res (⟨i,a,none,g,.callF f args⟩::rest)::s) .normal t h z nx q:=by
 refine bP ?_;simp[kop,eQ,c,shr,d,j,e,hr];simp only[wpM]at b⊢;exact b
end
section
variable {nx0:Nat}{t t':ai}
theorem FD:∀{live:Live},(∀x∈live,t x.1=t' x.1)->∀(h:ab) (z:Frz) (k:ab->Frz->Prop),eZ live t h z k=eZ live t' h z k
 |[],_,h,z,k=>rfl
 |x::l,e,h,z,k=>by
  have b:=FD (live:=l) fun y a=>e y (zG _ a);simp_all[eZ]
theorem Lr {ids:List (Option Nat)}:∀{live:Live},(∀x∈live,t x.1=t' x.1)->∀(k:List D->Prop),pq nx0 ids t live k=pq nx0 ids t' live k
 |[],_,k=>rfl
 |x::l,e,k=>by
  have b:=Lr (ids:=ids) (live:=l) fun y a=>e y (zG _ a);grind[pq]
theorem GG {h:ab}{z:Frz}{nx:Nat}{k:ai->ab->Frz->Nat->Prop}:∀{live:Live},(∀x∈live,x.2=0)->iP live t h z nx k=k t h z nx
 |[],_=>rfl
 |x::l,e=>by
  rw[iP,e x (zO ..)];exact GG fun y a=>e y (zG _ a)
theorem Rc {live:Live}{h:ab}{z:Frz}{nx:Nat}{K:ab->Frz->Kept->Prop}(h0:∀x∈live,x.2=0)(e:∀x∈live,t x.1=t' x.1)(a:eV live=false)(b:bz nx0 live t' h z nx K):bz nx0 live t h z nx K:=by
 unfold bz at b⊢;rw[a]at b⊢;unfold pG at b⊢;rw[GG h0]at b⊢;grind[bh,List.map_congr_left,FD,Lr]
theorem I8:∀{live:Live} {x:Nat×Nat},x∈live->mkT live (live.map fun x=>t x.1) x.1=t x.1
 |y::l,x,a=>by
  show upd (mkT l (l.map fun x=>t x.1)) y.1 (t y.1) x.1=t x.1;by_cases e:x.1=y.1
  grind[upd_same]
  .rw[upd_ne e];rcases zP.1 a with rfl|a
   omega
   .exact I8 a
theorem R6 {live:Live}{vs:List D}{h:ab}{z:Frz}{nx:Nat}{K:ab->Frz->Kept->Prop}(b:(live.map fun x=>t x.1)=vs)(h0:∀x∈live,x.2=0)(a:eV live=false)(c:bz nx0 live (mkT live vs) h z nx K):bz nx0 live t h z nx K:=
 Rc h0 (fun x d=>by rw[<-b,I8 d]) a c
end
theorem Mj {T:Tab}{fn:KFn}{args:List D}{r:D}(a:wpM (T.at fn.hr) (shr T 6) 0 [.code fn.code] .normal (enter args) empty kl 0 (bB fn fun d h _ _=>ws2 h d fun d=>d=r)):qv T fn args r:=by
 simp only[wpM]at a;exact a
section
variable {m:Mkr}{ps:List (List Spot)}{rs:List RollS}{lots:List Int}{Q:List Ply}
theorem Lg {P:Nat}(b:ps.length=P)(h0:0<P):∀{k a c:Nat},a<k->c<P->(eE m ps rs Q k)[a*P+c]?=some (cutN m ps rs Q a c)
 |0,a,c,h,_=>by omega
 |k+1,a,c,h,d=>by
  rw[eE];have e:=rA (m:=m) (ps:=ps) (rs:=rs) (Q:=Q) k;rw[b]at e;rcases y6 a k with g|g
  .have:(a+1) *P<=k*P:=zF P g;rw[y3]at this;rw[yh (by omega)];exact Lg b h0 g d
  grind[jP]
theorem Sn {s:Sty}{sz use:Int}{q:List Spot}(h:fQ s sz use=(q,0)):(bY (eM s use) (mu s.mults sz.toNat)).2=0/\oN (bY (eM s use) (mu s.mults sz.toNat)).1 (eM s use).widths=(q,0):=by
 have a:=Gy (s:=s) (size:=sz) (use:=use) (by rw[h])
 have b:eo s sz use=((bY (eM s use) (mu s.mults sz.toNat)).1,eM s use,(bY (eM s use) (mu s.mults sz.toNat)).2):=by
  simp_all[eo]
 unfold fQ at h;grind
theorem VO (f:Bool)(k:Int)(q:List Spot):dj ⟨f,k⟩ q=dj ⟨false,k⟩ (if f=true then dj kO q else q):=by
 cases f with
 |false=>rfl
 |true=>
  apply zp;simp[dj]
  .intro i h1 b
   have a:pt (dj kO q) i=dm kO (pt q (q.length-1-i)):=by
    grind[bc,dj,kO]
   simp[dj];show dm _ _=dm ⟨false,k⟩ (pt (dj kO q) i);rw[a];rfl
theorem wrap_add {a d:Spot}(h:aD (dX a d) 1048576=true):IntKind.i64.wrap (a.x+d.x)=a.x+d.x/\IntKind.i64.wrap (a.y+d.y)=a.y+d.y:=by
 obtain⟨h1,b⟩:=jC.1 h;have h1:(a.x+d.x).natAbs<=1048576:=h1;have b:(a.y+d.y).natAbs<=1048576:=b;grind[wrap64]
def mvS (d:Spot)(w:List Spot)(k:Nat):List Spot:=(List.range w.length).map fun j=>if j<k then dX (pt w j) d else pt w j
theorem Zc (d:Spot)(w:List Spot):mvS d w 0=w:=by
 apply zp (by simp[mvS]);grind[mvS,bc]
theorem Qs (d:Spot)(w:List Spot):mvS d w w.length=im d w:=by
 apply zp (by simp[mvS,im]);grind[im,mvS,bc]
theorem Wq {d:Spot}{w:List Spot}{k:Nat}(h:k<w.length):((mvS d w k).map Spot.enc)[k]?=some (pt w k).enc:=by grind[mvS]
theorem Vo {d:Spot}{w:List Spot}{k:Nat}(h:k<w.length):((mvS d w k).map Spot.enc).set k (dX (pt w k) d).enc=(mvS d w (k+1)).map Spot.enc:=by
 apply zp (by simp[mvS]);simp[mvS];grind
def gH (n k:Nat):List Bool:=(List.range n).map fun j=>decide (j<k)
theorem Vk (n:Nat):List.replicate n (D.bool false)=(gH n 0).map D.bool:=by
 apply zp (by simp[gH]);simp[gH]
theorem Yw {n k:Nat}(h:k<n):((gH n k).map D.bool).set k (.bool true)=(gH n (k+1)).map D.bool:=by
 apply zp (by simp[gH]);grind[gH]
theorem OZ {n k:Nat}(h:k<n):((gH n k).map D.bool)[k]?=some (.bool false):=by grind[gH]
set_option maxRecDepth 10000 in
theorem top_ok (s:Sty)(b:Bed)(sizes:List Int)(f:List Int)(o:LaidF s b sizes rs lots m ps Q)(B:PU 5 [jv s b sizes,jl rs lots f]=some (.tup [di m Q,aY ps,.bool true]))(hS:PU 6 []=some (.bool true)):
 PU 4 [jv s b sizes,jl rs lots f]=some (.bool true):=by
 obtain⟨a7,E,F⟩:=Q0 o.pol;have so:=lX a7;have M:=o.msz
 have hP:=RO o.lay ⟨E,fun p hp=>by
  obtain⟨j,hj,rfl⟩:=ze.1 hp
  exact⟨(F j hj).g0,(F j hj).g1⟩⟩ s o.styB o.pol (by rw[M];have:=o.gar;omega) (by have:=o.mpl;omega) (by rw[M];have:=o.n6;omega)
 refine EQ rfl (Mj (gA rfl rfl rfl B (gg rfl (aj rfl (gA rfl rfl rfl hP ?_)))));have a9:=rA (m:=m) (ps:=ps) (rs:=rs) (Q:=Q) Q.length;have O:=o.lay.q40;have b0:=o.mpl
 repeat (first|refine goP 800 rfl rfl ?_|(show wpM _ _ _ (Fr.ops _ _ (KOper.mk _ _ (some _) _ _::_)::_) Ex.normal _ _ _ _ _;first|refine ap rfl ?_|refine aq rfl ?_) |(show wpM _ _ _ (Fr.code (K.cond _ _ _)::_) Ex.normal _ _ _ _ _;first|refine ak rfl ?_|refine aj rfl ?_))
 rw[aE.2 rfl]
 repeat (first|refine goP 800 rfl rfl ?_|(show wpM _ _ _ (Fr.ops _ _ (KOper.mk _ _ (some _) _ _::_)::_) Ex.normal _ _ _ _ _;first|refine ap rfl ?_|refine aq rfl ?_) |(show wpM _ _ _ (Fr.code (K.cond _ _ _)::_) Ex.normal _ _ _ _ _;first|refine ak rfl ?_|refine aj rfl ?_))
 have b1:Q.length*m.places.length<=240:=z6 O b0;have g6:((Q.length:Int) *(m.places.length:Int))=((Q.length*m.places.length:Nat):Int):=by simp
 have b2:nqb (((eE m ps rs Q Q.length).map CutP.enc).length:Int) (IntKind.i64.wrap (((Q.map Ply.enc).length:Int) *((m.places.map Plc.enc).length:Int)))=false:=aE.2 (by
  grind[wrap64])
 refine aj (zX D.bool b2) (gg rfl (eu (Q.length*m.places.length) rfl rfl (by grind) (by grind[aK]) ?_));rw[Vk];refine gg rfl ?_;generalize hn:Q.length*m.places.length=n at*;refine aw (S:=fun i:Nat=>([.ptr 0 0 0,.ptr 1 0 0,.ptr 2 0 0,aY ps,.lst ((eE m ps rs Q Q.length).map CutP.enc),.ref 5 0 n,aa i],[some (.row [jv s b sizes] 12),some (.row [jl rs lots f] 3),some (.row [di m Q] 7),none,none,some (.row ((gH n i).map D.bool) 1),none],[0,0,0,0,0,0,0])) (C:=fun i=>i<=n) (m:=fun i=>n-i) 0 (zB _) (by omega) ?_ ?_
 .exact ah rfl ⟨rfl,rfl,rfl,ae (fun _=>rfl) _,tr⟩ rfl
 intro i hi N hN;refine gg rfl ?_;rw[zA,a9,E,hn];refine an rfl (fun e=>?_) (fun e=>?_)
 .rw[ad]at e;have g:i<n:=by omega
  have h0:0<m.places.length:=by
   grind
  have w1:=wS (n:=i)
  obtain⟨a,c,ha,hc,b4⟩:∃a c,a<Q.length/\c<m.places.length/\a*m.places.length+c=i:=by
   refine⟨i/m.places.length,i%m.places.length,?_,zI _ h0,Nat.div_add_mod' _ _⟩;simp_all[ym,zx]
  have v:=Lg (m:=m) (ps:=ps) (rs:=rs) (Q:=Q) E h0 ha hc;rw[b4]at v;have hF:=F c hc;have b5:(m.places.map Plc.enc)[c]?=some (m.places[c]).enc:=by grind
  have b6:(Q.map Ply.enc)[a]?=some (dL Q a).enc:=by grind[dL]
  have R:=o.lay.lay.pl (dL Q a) (by grind[dL]);have T:plg ps c∈ps:=by grind[fw]
  have G:=sR o.lay.clo;obtain⟨_,c2⟩:=vJ (DF G R.1 T);have U:=(R.1.el _ c2).1;obtain⟨r0,r1,_⟩:=tk U.cl;have e5:=U.lt
  have v:((eE m ps rs Q Q.length).map CutP.enc)[i]?=some (CutP.enc ⟨a,c,(dL Q a).lot,szI m.sizes (m.places[c]).garment.toNat,[(pa (dL Q a).parts (dv (dL Q a) (plg ps c)).1.toNat).roll],(nP (dL Q a) rs (eD (plg ps c)) (plg ps c)).1⟩):=by
   rw[List.getElem?_map,v,<-II hc];rfl
  generalize (nP (dL Q a) rs (eD (plg ps c)) (plg ps c)).1=hb at*;generalize (pa (dL Q a).parts (dv (dL Q a) (plg ps c)).1.toNat).roll=t at*;generalize dL Q a=y at*;obtain⟨g0,g1,u0,u1,s0,s1,h6,h7,b7,q,V,e6⟩:=hF;generalize m.places[c]=p at*;generalize e7:szI m.sizes p.garment.toNat=sz at*;have f1:ltb (a:Int) 0=false:=af.2 (by omega);have f2:leb ((Q.map Ply.enc).length:Int) (a:Int)=false:=aW.2 (by grind);have f3:ltb (c:Int) 0=false:=af.2 (by omega);have f4:leb ((m.places.map Plc.enc).length:Int) (c:Int)=false:=aW.2 (by grind);refine gX i rfl rfl rfl rfl v rfl ?_
  repeat (first|refine goP 800 rfl rfl ?_|(show wpM _ _ _ (Fr.ops _ _ (KOper.mk _ _ (some _) _ _::_)::_) Ex.normal _ _ _ _ _;first|refine ap rfl ?_|refine aq rfl ?_) |(show wpM _ _ _ (Fr.code (K.cond _ _ _)::_) Ex.normal _ _ _ _ _;first|refine ak rfl ?_|refine aj rfl ?_))
  rw[f1]
  repeat (first|refine goP 800 rfl rfl ?_|(show wpM _ _ _ (Fr.ops _ _ (KOper.mk _ _ (some _) _ _::_)::_) Ex.normal _ _ _ _ _;first|refine ap rfl ?_|refine aq rfl ?_) |(show wpM _ _ _ (Fr.code (K.cond _ _ _)::_) Ex.normal _ _ _ _ _;first|refine ak rfl ?_|refine aj rfl ?_))
  rw[f2]
  repeat (first|refine goP 800 rfl rfl ?_|(show wpM _ _ _ (Fr.ops _ _ (KOper.mk _ _ (some _) _ _::_)::_) Ex.normal _ _ _ _ _;first|refine ap rfl ?_|refine aq rfl ?_) |(show wpM _ _ _ (Fr.code (K.cond _ _ _)::_) Ex.normal _ _ _ _ _;first|refine ak rfl ?_|refine aj rfl ?_))
  rw[f3]
  repeat (first|refine goP 800 rfl rfl ?_|(show wpM _ _ _ (Fr.ops _ _ (KOper.mk _ _ (some _) _ _::_)::_) Ex.normal _ _ _ _ _;first|refine ap rfl ?_|refine aq rfl ?_) |(show wpM _ _ _ (Fr.code (K.cond _ _ _)::_) Ex.normal _ _ _ _ _;first|refine ak rfl ?_|refine aj rfl ?_))
  rw[f4]
  repeat (first|refine goP 800 rfl rfl ?_|(show wpM _ _ _ (Fr.ops _ _ (KOper.mk _ _ (some _) _ _::_)::_) Ex.normal _ _ _ _ _;first|refine ap rfl ?_|refine aq rfl ?_) |(show wpM _ _ _ (Fr.code (K.cond _ _ _)::_) Ex.normal _ _ _ _ _;first|refine ak rfl ?_|refine aj rfl ?_))
  have z:IntKind.i64.wrap (IntKind.i64.wrap ((a:Int) *((m.places.map Plc.enc).length:Int))+(c:Int))=(i:Int):=by
   grind[wrap64]
  refine aA i rfl rfl rfl rfl z g ?_
  repeat (first|refine goP 800 rfl rfl ?_|(show wpM _ _ _ (Fr.ops _ _ (KOper.mk _ _ (some _) _ _::_)::_) Ex.normal _ _ _ _ _;first|refine ap rfl ?_|refine aq rfl ?_) |(show wpM _ _ _ (Fr.code (K.cond _ _ _)::_) Ex.normal _ _ _ _ _;first|refine ak rfl ?_|refine aj rfl ?_))
  refine aQ rfl rfl (by rw[zC];exact OZ g) rfl ?_
  repeat (first|refine goP 800 rfl rfl ?_|(show wpM _ _ _ (Fr.ops _ _ (KOper.mk _ _ (some _) _ _::_)::_) Ex.normal _ _ _ _ _;first|refine ap rfl ?_|refine aq rfl ?_) |(show wpM _ _ _ (Fr.code (K.cond _ _ _)::_) Ex.normal _ _ _ _ _;first|refine ak rfl ?_|refine aj rfl ?_))
  refine aA i rfl rfl rfl rfl z g ?_;simp only[zC];refine gg rfl (dq (k:=i) (es:=(gH n i).map D.bool) (e':=.bool true) rfl rfl rfl (zB _) (OZ g) rfl ?_);rw[Yw g];refine gX c rfl rfl rfl rfl b5 rfl ?_;have f5:ltb p.garment 0=false:=af.2 g0;have f6:leb ((m.sizes.map aa).length:Int) p.garment=false:=aW.2 (by grind);have f7:ltb p.use 0=false:=af.2 u0;have f8:leb ((s.uses.map Use.enc).length:Int) p.use=false:=aW.2 (by grind);have h8:=so.use (us s.uses p.use.toNat) (by grind[qz]);have ue:=s7 u1;have pe:=qF (l:=s.pieces) (i:=(us s.uses p.use.toNat).piece.toNat) (by omega);unfold eM at b7;have X:pc s.pieces (us s.uses p.use.toNat).piece.toNat∈s.pieces:=by grind[E5]
  obtain⟨H,I⟩:=Sn V
  repeat (first|refine goP 800 rfl rfl ?_|(show wpM _ _ _ (Fr.ops _ _ (KOper.mk _ _ (some _) _ _::_)::_) Ex.normal _ _ _ _ _;first|refine ap rfl ?_|refine aq rfl ?_) |(show wpM _ _ _ (Fr.code (K.cond _ _ _)::_) Ex.normal _ _ _ _ _;first|refine ak rfl ?_|refine aj rfl ?_))
  rw[f5]
  repeat (first|refine goP 800 rfl rfl ?_|(show wpM _ _ _ (Fr.ops _ _ (KOper.mk _ _ (some _) _ _::_)::_) Ex.normal _ _ _ _ _;first|refine ap rfl ?_|refine aq rfl ?_) |(show wpM _ _ _ (Fr.code (K.cond _ _ _)::_) Ex.normal _ _ _ _ _;first|refine ak rfl ?_|refine aj rfl ?_))
  rw[f6]
  repeat (first|refine goP 800 rfl rfl ?_|(show wpM _ _ _ (Fr.ops _ _ (KOper.mk _ _ (some _) _ _::_)::_) Ex.normal _ _ _ _ _;first|refine ap rfl ?_|refine aq rfl ?_) |(show wpM _ _ _ (Fr.code (K.cond _ _ _)::_) Ex.normal _ _ _ _ _;first|refine ak rfl ?_|refine aj rfl ?_))
  rw[f7]
  repeat (first|refine goP 800 rfl rfl ?_|(show wpM _ _ _ (Fr.ops _ _ (KOper.mk _ _ (some _) _ _::_)::_) Ex.normal _ _ _ _ _;first|refine ap rfl ?_|refine aq rfl ?_) |(show wpM _ _ _ (Fr.code (K.cond _ _ _)::_) Ex.normal _ _ _ _ _;first|refine ak rfl ?_|refine aj rfl ?_))
  rw[f8]
  repeat (first|refine goP 800 rfl rfl ?_|(show wpM _ _ _ (Fr.ops _ _ (KOper.mk _ _ (some _) _ _::_)::_) Ex.normal _ _ _ _ _;first|refine ap rfl ?_|refine aq rfl ?_) |(show wpM _ _ _ (Fr.code (K.cond _ _ _)::_) Ex.normal _ _ _ _ _;first|refine ak rfl ?_|refine aj rfl ?_))
  refine cg p.use.toNat rfl rfl (by omega) ue rfl ?_;unfold eM at H I;generalize us s.uses p.use.toNat=u at*;generalize pc s.pieces u.piece.toNat=P at*;have f9:ltb u.piece 0=false:=af.2 (by omega);have f10:leb ((s.pieces.map Piece.enc).length:Int) u.piece=false:=aW.2 (by grind);have f11:ltb sz 0=false:=af.2 (by omega);have f12:leb ((s.mults.map aa).length:Int) sz=false:=aW.2 (by rw[zA,so.mults];omega);have f13:leb ((ps.map ac).length:Int) (c:Int)=false:=aW.2 (by grind);have b8:(m.sizes.map aa)[p.garment.toNat]?=some (aa sz):=by grind[szI]
  have b9:(s.mults.map aa)[sz.toNat]?=some (aa (mu s.mults sz.toNat)):=by simp[mu,show sz.toNat<s.mults.length by have:=so.mults;omega]
  repeat (first|refine goP 800 rfl rfl ?_|(show wpM _ _ _ (Fr.ops _ _ (KOper.mk _ _ (some _) _ _::_)::_) Ex.normal _ _ _ _ _;first|refine ap rfl ?_|refine aq rfl ?_) |(show wpM _ _ _ (Fr.code (K.cond _ _ _)::_) Ex.normal _ _ _ _ _;first|refine ak rfl ?_|refine aj rfl ?_))
  rw[f9]
  repeat (first|refine goP 800 rfl rfl ?_|(show wpM _ _ _ (Fr.ops _ _ (KOper.mk _ _ (some _) _ _::_)::_) Ex.normal _ _ _ _ _;first|refine ap rfl ?_|refine aq rfl ?_) |(show wpM _ _ _ (Fr.code (K.cond _ _ _)::_) Ex.normal _ _ _ _ _;first|refine ak rfl ?_|refine aj rfl ?_))
  refine cg p.use.toNat rfl rfl (by omega) ue rfl ?_
  repeat (first|refine goP 800 rfl rfl ?_|(show wpM _ _ _ (Fr.ops _ _ (KOper.mk _ _ (some _) _ _::_)::_) Ex.normal _ _ _ _ _;first|refine ap rfl ?_|refine aq rfl ?_) |(show wpM _ _ _ (Fr.code (K.cond _ _ _)::_) Ex.normal _ _ _ _ _;first|refine ak rfl ?_|refine aj rfl ?_))
  rw[f10]
  repeat (first|refine goP 800 rfl rfl ?_|(show wpM _ _ _ (Fr.ops _ _ (KOper.mk _ _ (some _) _ _::_)::_) Ex.normal _ _ _ _ _;first|refine ap rfl ?_|refine aq rfl ?_) |(show wpM _ _ _ (Fr.code (K.cond _ _ _)::_) Ex.normal _ _ _ _ _;first|refine ak rfl ?_|refine aj rfl ?_))
  refine cg p.garment.toNat rfl rfl (by omega) b8 rfl ?_
  repeat (first|refine goP 800 rfl rfl ?_|(show wpM _ _ _ (Fr.ops _ _ (KOper.mk _ _ (some _) _ _::_)::_) Ex.normal _ _ _ _ _;first|refine ap rfl ?_|refine aq rfl ?_) |(show wpM _ _ _ (Fr.code (K.cond _ _ _)::_) Ex.normal _ _ _ _ _;first|refine ak rfl ?_|refine aj rfl ?_))
  rw[f11]
  repeat (first|refine goP 800 rfl rfl ?_|(show wpM _ _ _ (Fr.ops _ _ (KOper.mk _ _ (some _) _ _::_)::_) Ex.normal _ _ _ _ _;first|refine ap rfl ?_|refine aq rfl ?_) |(show wpM _ _ _ (Fr.code (K.cond _ _ _)::_) Ex.normal _ _ _ _ _;first|refine ak rfl ?_|refine aj rfl ?_))
  rw[f12]
  repeat (first|refine goP 800 rfl rfl ?_|(show wpM _ _ _ (Fr.ops _ _ (KOper.mk _ _ (some _) _ _::_)::_) Ex.normal _ _ _ _ _;first|refine ap rfl ?_|refine aq rfl ?_) |(show wpM _ _ _ (Fr.code (K.cond _ _ _)::_) Ex.normal _ _ _ _ _;first|refine ak rfl ?_|refine aj rfl ?_))
  rw[f13]
  repeat (first|refine goP 800 rfl rfl ?_|(show wpM _ _ _ (Fr.ops _ _ (KOper.mk _ _ (some _) _ _::_)::_) Ex.normal _ _ _ _ _;first|refine ap rfl ?_|refine aq rfl ?_) |(show wpM _ _ _ (Fr.code (K.cond _ _ _)::_) Ex.normal _ _ _ _ _;first|refine ak rfl ?_|refine aj rfl ?_))
  refine cg p.use.toNat rfl rfl (by omega) ue rfl ?_;refine gX u.piece.toNat rfl rfl rfl (by omega) pe rfl ?_;refine gX sz.toNat rfl rfl rfl (by omega) b9 rfl ?_;refine gA rfl rfl rfl (Am P (mu s.mults sz.toNat) (o.styB.corners _ X)) (gA rfl rfl rfl (LU _ _) ?_);generalize bY P (mu s.mults sz.toNat)=gr at*;obtain⟨ge,gx⟩:=gr;dsimp only at H I;subst H;rw[I];have f14:nqb 0 0=false:=aE.2 rfl;have f15:nqb sz sz=false:=aE.2 rfl;have f16:nqb y.lot y.lot=false:=aE.2 rfl
  repeat (first|refine goP 800 rfl rfl ?_|(show wpM _ _ _ (Fr.ops _ _ (KOper.mk _ _ (some _) _ _::_)::_) Ex.normal _ _ _ _ _;first|refine ap rfl ?_|refine aq rfl ?_) |(show wpM _ _ _ (Fr.code (K.cond _ _ _)::_) Ex.normal _ _ _ _ _;first|refine ak rfl ?_|refine aj rfl ?_))
  rw[f14]
  repeat (first|refine goP 800 rfl rfl ?_|(show wpM _ _ _ (Fr.ops _ _ (KOper.mk _ _ (some _) _ _::_)::_) Ex.normal _ _ _ _ _;first|refine ap rfl ?_|refine aq rfl ?_) |(show wpM _ _ _ (Fr.code (K.cond _ _ _)::_) Ex.normal _ _ _ _ _;first|refine ak rfl ?_|refine aj rfl ?_))
  rw[f14]
  repeat (first|refine goP 800 rfl rfl ?_|(show wpM _ _ _ (Fr.ops _ _ (KOper.mk _ _ (some _) _ _::_)::_) Ex.normal _ _ _ _ _;first|refine ap rfl ?_|refine aq rfl ?_) |(show wpM _ _ _ (Fr.code (K.cond _ _ _)::_) Ex.normal _ _ _ _ _;first|refine ak rfl ?_|refine aj rfl ?_))
  rw[f15]
  repeat (first|refine goP 800 rfl rfl ?_|(show wpM _ _ _ (Fr.ops _ _ (KOper.mk _ _ (some _) _ _::_)::_) Ex.normal _ _ _ _ _;first|refine ap rfl ?_|refine aq rfl ?_) |(show wpM _ _ _ (Fr.code (K.cond _ _ _)::_) Ex.normal _ _ _ _ _;first|refine ak rfl ?_|refine aj rfl ?_))
  refine cg a rfl rfl rfl b6 rfl ?_
  repeat (first|refine goP 800 rfl rfl ?_|(show wpM _ _ _ (Fr.ops _ _ (KOper.mk _ _ (some _) _ _::_)::_) Ex.normal _ _ _ _ _;first|refine ap rfl ?_|refine aq rfl ?_) |(show wpM _ _ _ (Fr.code (K.cond _ _ _)::_) Ex.normal _ _ _ _ _;first|refine ak rfl ?_|refine aj rfl ?_))
  rw[f16]
  repeat (first|refine goP 800 rfl rfl ?_|(show wpM _ _ _ (Fr.ops _ _ (KOper.mk _ _ (some _) _ _::_)::_) Ex.normal _ _ _ _ _;first|refine ap rfl ?_|refine aq rfl ?_) |(show wpM _ _ _ (Fr.code (K.cond _ _ _)::_) Ex.normal _ _ _ _ _;first|refine ak rfl ?_|refine aj rfl ?_))
  have i1:q.length<=40:=by grind[Ec]
  refine atShrT (fn:=sy.1) rfl rfl (PI (some (.row [jv s b sizes] 12)) (some (.row [jl rs lots f] 3)) (some (.row [di m Q] 7)) (some (.row ((gH n (i+1)).map D.bool) 1)) (some (.row [CutP.enc ⟨a,c,y.lot,sz,[t],hb⟩] 6)) (some (.row [p.enc] 7)) (some (.row [P.enc] 7)) rfl rfl rfl (ae (fun _=>rfl) _) rfl rfl rfl ⟨p.flip,p.quarter⟩ q (by omega) (HasB.of ⟨⟨rfl,rfl⟩,⟨rfl,rfl⟩,⟨rfl,rfl⟩,⟨rfl,rfl⟩,⟨rfl,rfl⟩,⟨rfl,rfl⟩,⟨rfl,rfl⟩,tr⟩) ?_);intro h' z' c0;have c3:(dj ⟨p.flip,p.quarter⟩ q).length=q.length:=CL _ _;generalize hw:dj ⟨p.flip,p.quarter⟩ q=w at*;obtain⟨⟨h1,rfl⟩,z1,rfl⟩:=c0;refine gg rfl ?_;have Y:plg ps c=im ⟨p.x,p.y⟩ w:=by grind[VO]
  have c4:∀k,k<w.length->aD (dX (pt w k) ⟨p.x,p.y⟩) 1048576=true:=by
   intro k hk
   have c5:bE (plg ps c)=0:=by
    have hx:=(o6 G.ext).2.2.2.2 _ T;unfold eO at hx;omega
   have:=(fj c5).2.2.2.1 (dX (pt w k) ⟨p.x,p.y⟩) (by
    rw[Y,bc hk]
    exact List.mem_map_of_mem (zE _))
   omega
  rw[<-c3];refine aw (S:=fun k:Nat=>([.ptr 0 0 0,.ptr 1 0 0,.ptr 2 0 0,aY ps,.lst ((eE m ps rs Q Q.length).map CutP.enc),.ref 5 0 n,aa i,.ptr 7 0 0,.ptr 8 0 0,.ptr 9 0 0,.ref 10 0 w.length,aa k],[some (.row [jv s b sizes] 12),some (.row [jl rs lots f] 3),some (.row [di m Q] 7),none,none,some (.row ((gH n (i+1)).map D.bool) 1),none,some (.row [CutP.enc ⟨a,c,y.lot,sz,[t],hb⟩] 6),some (.row [p.enc] 7),some (.row [P.enc] 7),some (.row ((mvS ⟨p.x,p.y⟩ w k).map Spot.enc) 2),none],[0,0,0,0,0,0,0,0,0,0,0,0])) (C:=fun k=>k<=w.length) (m:=fun k=>w.length-k) 0 (zB _) (by omega) ?_ ?_
  .exact R6 (vs:=[.ptr 0 0 0,.ptr 1 0 0,.ptr 2 0 0,aY ps,.lst ((eE m ps rs Q Q.length).map CutP.enc),.ref 5 0 n,aa i,.ptr 84 0 0,.ptr 147 0 0,.ptr 241 0 0,.ref 297 0 w.length,aa 0]) rfl (by decide) rfl (ah rfl ⟨rfl,rfl,rfl,ae (fun _=>rfl) _,rfl,rfl,rfl,ae am _,tr⟩ (by rw[Zc];rfl))
  intro k hk N2 Z;refine gC rfl rfl (fun e2=>?_) (fun e2=>?_)
  .rw[ad]at e2;have h:k<w.length:=by omega
   have w2:=wS (n:=k);obtain⟨w3,w4⟩:=wrap_add (c4 k h);have c7:=Wq (d:=⟨p.x,p.y⟩) h;have a0:=Vo (d:=⟨p.x,p.y⟩) h;generalize mvS ⟨p.x,p.y⟩ w k=W at*;refine gg rfl (aA k rfl rfl rfl rfl rfl h (gg rfl (aQ rfl rfl (by rw[zC];omega) rfl ?_)));refine gg rfl (aA k rfl rfl rfl rfl rfl h (gg rfl (aQ rfl rfl (by rw[zC];omega) rfl ?_)));refine gg rfl (aA k rfl rfl rfl rfl rfl h ?_);simp only[zC];refine gg rfl ?_;rw[show(pt w k).x+p.x=_ from rfl,show(pt w k).y+p.y=_ from rfl,w3,w4];refine dq (k:=k) (es:=W.map Spot.enc) (e':=(dX (pt w k) ⟨p.x,p.y⟩).enc) rfl rfl rfl (zB _) c7 rfl ?_;rw[a0];exact gE rfl (Z (k+1) h (by omega) (ah rfl ⟨rfl,rfl,rfl,ae (fun _=>rfl) _,rfl,rfl,rfl,ae am _,tr⟩ (by rw[w2];rfl)))
  rw[af]at e2;obtain rfl:k=w.length:=by omega
  clear Z;rw[Qs,<-Y];have e9:(plg ps c).length=w.length:=by grind[im]
  generalize i6:plg ps c=J at*;have a1:(ps.map ac)[c]?=some (ac J):=by grind[kw]
  refine gE rfl (gX c rfl rfl rfl rfl a1 rfl (gg rfl (gk (r:=.bool (decide (J=J))) rfl rfl ⟨bK (by grind) (bF fh _),tr⟩ (by rw[bZ (by grind)];exact Rp J J (by omega)) rfl ?_)));rw[show decide (J=J)=true by simp]
  repeat (first|refine goP 800 rfl rfl ?_|(show wpM _ _ _ (Fr.ops _ _ (KOper.mk _ _ (some _) _ _::_)::_) Ex.normal _ _ _ _ _;first|refine ap rfl ?_|refine aq rfl ?_) |(show wpM _ _ _ (Fr.code (K.cond _ _ _)::_) Ex.normal _ _ _ _ _;first|refine ak rfl ?_|refine aj rfl ?_))
  refine cg p.use.toNat rfl rfl (by omega) ue rfl ?_;have w5:(p.copy).tmod 2=p.copy%2:=by grind
  repeat (first|refine goP 800 rfl rfl ?_|(show wpM _ _ _ (Fr.ops _ _ (KOper.mk _ _ (some _) _ _::_)::_) Ex.normal _ _ _ _ _;first|refine ap rfl ?_|refine aq rfl ?_) |(show wpM _ _ _ (Fr.code (K.cond _ _ _)::_) Ex.normal _ _ _ _ _;first|refine ak rfl ?_|refine aj rfl ?_))
  have a2:lh P.grain p.flip ⟨p.flip,p.quarter⟩=true:=by
   grind[lh]
  have g2:lots.length=rs.length:=G.rol.eq;have A:(lots.map aa)[t.toNat]?=some (aa y.lot):=by grind
  have f20:ltb t 0=false:=af.2 (by omega);have f21:leb ((rs.map RollS.enc).length:Int) t=false:=aW.2 (by grind);have f22:leb ((lots.map aa).length:Int) t=false:=aW.2 (by grind);cases i7:u.pair;rotate_left
  .have c8:eqb ((p.copy).tmod 2) 1=p.flip:=by grind[cC]
   repeat (first|refine goP 800 rfl rfl ?_|(show wpM _ _ _ (Fr.ops _ _ (KOper.mk _ _ (some _) _ _::_)::_) Ex.normal _ _ _ _ _;first|refine ap rfl ?_|refine aq rfl ?_) |(show wpM _ _ _ (Fr.code (K.cond _ _ _)::_) Ex.normal _ _ _ _ _;first|refine ak rfl ?_|refine aj rfl ?_))
   refine dx rfl rfl (by decide) ?_
   repeat (first|refine goP 800 rfl rfl ?_|(show wpM _ _ _ (Fr.ops _ _ (KOper.mk _ _ (some _) _ _::_)::_) Ex.normal _ _ _ _ _;first|refine ap rfl ?_|refine aq rfl ?_) |(show wpM _ _ _ (Fr.code (K.cond _ _ _)::_) Ex.normal _ _ _ _ _;first|refine ak rfl ?_|refine aj rfl ?_))
   rw[c8];refine aB rfl rfl (AC P.grain p.flip ⟨p.flip,p.quarter⟩) ?_;rw[a2]
   repeat (first|refine goP 800 rfl rfl ?_|(show wpM _ _ _ (Fr.ops _ _ (KOper.mk _ _ (some _) _ _::_)::_) Ex.normal _ _ _ _ _;first|refine ap rfl ?_|refine aq rfl ?_) |(show wpM _ _ _ (Fr.code (K.cond _ _ _)::_) Ex.normal _ _ _ _ _;first|refine ak rfl ?_|refine aj rfl ?_))
   refine aw (S:=fun r:Nat=>([.ptr 0 0 0,.ptr 1 0 0,.ptr 2 0 0,aY ps,.lst ((eE m ps rs Q Q.length).map CutP.enc),.ref 5 0 n,aa i,.ptr 7 0 0,aa r],[some (.row [jv s b sizes] 12),some (.row [jl rs lots f] 3),some (.row [di m Q] 7),none,none,some (.row ((gH n (i+1)).map D.bool) 1),none,some (.row [CutP.enc ⟨a,c,y.lot,sz,[t],hb⟩] 6),none],[0,0,0,0,0,0,0,0,0])) (C:=fun r=>r<=1) (m:=fun r=>1-r) 0 (zB _) (by omega) ?_ ?_
   .exact ah rfl ⟨rfl,rfl,rfl,ae (fun _=>rfl) _,rfl,tr⟩ rfl
   intro r hr N3 L;refine gC rfl rfl (fun e3=>?_) (fun e3=>?_)
   .have e4:(r:Int)<1:=ad.1 e3;obtain rfl:r=0:=by omega
    refine gX 0 rfl rfl rfl rfl rfl rfl ?_
    repeat (first|refine goP 800 rfl rfl ?_|(show wpM _ _ _ (Fr.ops _ _ (KOper.mk _ _ (some _) _ _::_)::_) Ex.normal _ _ _ _ _;first|refine ap rfl ?_|refine aq rfl ?_) |(show wpM _ _ _ (Fr.code (K.cond _ _ _)::_) Ex.normal _ _ _ _ _;first|refine ak rfl ?_|refine aj rfl ?_))
    rw[f20]
    repeat (first|refine goP 800 rfl rfl ?_|(show wpM _ _ _ (Fr.ops _ _ (KOper.mk _ _ (some _) _ _::_)::_) Ex.normal _ _ _ _ _;first|refine ap rfl ?_|refine aq rfl ?_) |(show wpM _ _ _ (Fr.code (K.cond _ _ _)::_) Ex.normal _ _ _ _ _;first|refine ak rfl ?_|refine aj rfl ?_))
    refine cg 0 rfl rfl rfl rfl rfl ?_
    repeat (first|refine goP 800 rfl rfl ?_|(show wpM _ _ _ (Fr.ops _ _ (KOper.mk _ _ (some _) _ _::_)::_) Ex.normal _ _ _ _ _;first|refine ap rfl ?_|refine aq rfl ?_) |(show wpM _ _ _ (Fr.code (K.cond _ _ _)::_) Ex.normal _ _ _ _ _;first|refine ak rfl ?_|refine aj rfl ?_))
    rw[f21]
    repeat (first|refine goP 800 rfl rfl ?_|(show wpM _ _ _ (Fr.ops _ _ (KOper.mk _ _ (some _) _ _::_)::_) Ex.normal _ _ _ _ _;first|refine ap rfl ?_|refine aq rfl ?_) |(show wpM _ _ _ (Fr.code (K.cond _ _ _)::_) Ex.normal _ _ _ _ _;first|refine ak rfl ?_|refine aj rfl ?_))
    refine cg 0 rfl rfl rfl rfl rfl ?_
    repeat (first|refine goP 800 rfl rfl ?_|(show wpM _ _ _ (Fr.ops _ _ (KOper.mk _ _ (some _) _ _::_)::_) Ex.normal _ _ _ _ _;first|refine ap rfl ?_|refine aq rfl ?_) |(show wpM _ _ _ (Fr.code (K.cond _ _ _)::_) Ex.normal _ _ _ _ _;first|refine ak rfl ?_|refine aj rfl ?_))
    rw[f22]
    repeat (first|refine goP 800 rfl rfl ?_|(show wpM _ _ _ (Fr.ops _ _ (KOper.mk _ _ (some _) _ _::_)::_) Ex.normal _ _ _ _ _;first|refine ap rfl ?_|refine aq rfl ?_) |(show wpM _ _ _ (Fr.code (K.cond _ _ _)::_) Ex.normal _ _ _ _ _;first|refine ak rfl ?_|refine aj rfl ?_))
    refine cg 0 rfl rfl rfl rfl rfl ?_
    repeat (first|refine goP 800 rfl rfl ?_|(show wpM _ _ _ (Fr.ops _ _ (KOper.mk _ _ (some _) _ _::_)::_) Ex.normal _ _ _ _ _;first|refine ap rfl ?_|refine aq rfl ?_) |(show wpM _ _ _ (Fr.code (K.cond _ _ _)::_) Ex.normal _ _ _ _ _;first|refine ak rfl ?_|refine aj rfl ?_))
    refine cg t.toNat rfl rfl (by omega) A rfl ?_
    repeat (first|refine goP 800 rfl rfl ?_|(show wpM _ _ _ (Fr.ops _ _ (KOper.mk _ _ (some _) _ _::_)::_) Ex.normal _ _ _ _ _;first|refine ap rfl ?_|refine aq rfl ?_) |(show wpM _ _ _ (Fr.code (K.cond _ _ _)::_) Ex.normal _ _ _ _ _;first|refine ak rfl ?_|refine aj rfl ?_))
    rw[f16]
    repeat (first|refine goP 800 rfl rfl ?_|(show wpM _ _ _ (Fr.ops _ _ (KOper.mk _ _ (some _) _ _::_)::_) Ex.normal _ _ _ _ _;first|refine ap rfl ?_|refine aq rfl ?_) |(show wpM _ _ _ (Fr.code (K.cond _ _ _)::_) Ex.normal _ _ _ _ _;first|refine ak rfl ?_|refine aj rfl ?_))
    exact bo (L 1 (zD _) (by omega) (ah rfl ⟨rfl,rfl,rfl,ae (fun _=>rfl) _,rfl,tr⟩ (by rw[show IntKind.i64.wrap (((0:Nat):Int)+1)=((1:Nat):Int)from wrap64 (by omega) (by omega)];rfl)))
   exact gE rfl (gE rfl (hN (i+1) g (by omega) (ah rfl ⟨rfl,rfl,rfl,ae (fun _=>rfl) _,tr⟩ (by rw[w1];rfl))))
  have j0:p.flip=false:=by grind
  have a4:lh P.grain false ⟨p.flip,p.quarter⟩=true:=by grind
  repeat (first|refine goP 800 rfl rfl ?_|(show wpM _ _ _ (Fr.ops _ _ (KOper.mk _ _ (some _) _ _::_)::_) Ex.normal _ _ _ _ _;first|refine ap rfl ?_|refine aq rfl ?_) |(show wpM _ _ _ (Fr.code (K.cond _ _ _)::_) Ex.normal _ _ _ _ _;first|refine ak rfl ?_|refine aj rfl ?_))
  refine aB rfl rfl (AC P.grain false ⟨p.flip,p.quarter⟩) ?_;rw[a4]
  repeat (first|refine goP 800 rfl rfl ?_|(show wpM _ _ _ (Fr.ops _ _ (KOper.mk _ _ (some _) _ _::_)::_) Ex.normal _ _ _ _ _;first|refine ap rfl ?_|refine aq rfl ?_) |(show wpM _ _ _ (Fr.code (K.cond _ _ _)::_) Ex.normal _ _ _ _ _;first|refine ak rfl ?_|refine aj rfl ?_))
  refine aw (S:=fun r:Nat=>([.ptr 0 0 0,.ptr 1 0 0,.ptr 2 0 0,aY ps,.lst ((eE m ps rs Q Q.length).map CutP.enc),.ref 5 0 n,aa i,.ptr 7 0 0,aa r],[some (.row [jv s b sizes] 12),some (.row [jl rs lots f] 3),some (.row [di m Q] 7),none,none,some (.row ((gH n (i+1)).map D.bool) 1),none,some (.row [CutP.enc ⟨a,c,y.lot,sz,[t],hb⟩] 6),none],[0,0,0,0,0,0,0,0,0])) (C:=fun r=>r<=1) (m:=fun r=>1-r) 0 (zB _) (by omega) ?_ ?_
  .exact ah rfl ⟨rfl,rfl,rfl,ae (fun _=>rfl) _,rfl,tr⟩ rfl
  intro r hr N3 L;refine gC rfl rfl (fun e3=>?_) (fun e3=>?_)
  .have e4:(r:Int)<1:=ad.1 e3;obtain rfl:r=0:=by omega
   refine gX 0 rfl rfl rfl rfl rfl rfl ?_
   repeat (first|refine goP 800 rfl rfl ?_|(show wpM _ _ _ (Fr.ops _ _ (KOper.mk _ _ (some _) _ _::_)::_) Ex.normal _ _ _ _ _;first|refine ap rfl ?_|refine aq rfl ?_) |(show wpM _ _ _ (Fr.code (K.cond _ _ _)::_) Ex.normal _ _ _ _ _;first|refine ak rfl ?_|refine aj rfl ?_))
   rw[f20]
   repeat (first|refine goP 800 rfl rfl ?_|(show wpM _ _ _ (Fr.ops _ _ (KOper.mk _ _ (some _) _ _::_)::_) Ex.normal _ _ _ _ _;first|refine ap rfl ?_|refine aq rfl ?_) |(show wpM _ _ _ (Fr.code (K.cond _ _ _)::_) Ex.normal _ _ _ _ _;first|refine ak rfl ?_|refine aj rfl ?_))
   refine cg 0 rfl rfl rfl rfl rfl ?_
   repeat (first|refine goP 800 rfl rfl ?_|(show wpM _ _ _ (Fr.ops _ _ (KOper.mk _ _ (some _) _ _::_)::_) Ex.normal _ _ _ _ _;first|refine ap rfl ?_|refine aq rfl ?_) |(show wpM _ _ _ (Fr.code (K.cond _ _ _)::_) Ex.normal _ _ _ _ _;first|refine ak rfl ?_|refine aj rfl ?_))
   rw[f21]
   repeat (first|refine goP 800 rfl rfl ?_|(show wpM _ _ _ (Fr.ops _ _ (KOper.mk _ _ (some _) _ _::_)::_) Ex.normal _ _ _ _ _;first|refine ap rfl ?_|refine aq rfl ?_) |(show wpM _ _ _ (Fr.code (K.cond _ _ _)::_) Ex.normal _ _ _ _ _;first|refine ak rfl ?_|refine aj rfl ?_))
   refine cg 0 rfl rfl rfl rfl rfl ?_
   repeat (first|refine goP 800 rfl rfl ?_|(show wpM _ _ _ (Fr.ops _ _ (KOper.mk _ _ (some _) _ _::_)::_) Ex.normal _ _ _ _ _;first|refine ap rfl ?_|refine aq rfl ?_) |(show wpM _ _ _ (Fr.code (K.cond _ _ _)::_) Ex.normal _ _ _ _ _;first|refine ak rfl ?_|refine aj rfl ?_))
   rw[f22]
   repeat (first|refine goP 800 rfl rfl ?_|(show wpM _ _ _ (Fr.ops _ _ (KOper.mk _ _ (some _) _ _::_)::_) Ex.normal _ _ _ _ _;first|refine ap rfl ?_|refine aq rfl ?_) |(show wpM _ _ _ (Fr.code (K.cond _ _ _)::_) Ex.normal _ _ _ _ _;first|refine ak rfl ?_|refine aj rfl ?_))
   refine cg 0 rfl rfl rfl rfl rfl ?_
   repeat (first|refine goP 800 rfl rfl ?_|(show wpM _ _ _ (Fr.ops _ _ (KOper.mk _ _ (some _) _ _::_)::_) Ex.normal _ _ _ _ _;first|refine ap rfl ?_|refine aq rfl ?_) |(show wpM _ _ _ (Fr.code (K.cond _ _ _)::_) Ex.normal _ _ _ _ _;first|refine ak rfl ?_|refine aj rfl ?_))
   refine cg t.toNat rfl rfl (by omega) A rfl ?_
   repeat (first|refine goP 800 rfl rfl ?_|(show wpM _ _ _ (Fr.ops _ _ (KOper.mk _ _ (some _) _ _::_)::_) Ex.normal _ _ _ _ _;first|refine ap rfl ?_|refine aq rfl ?_) |(show wpM _ _ _ (Fr.code (K.cond _ _ _)::_) Ex.normal _ _ _ _ _;first|refine ak rfl ?_|refine aj rfl ?_))
   rw[f16]
   repeat (first|refine goP 800 rfl rfl ?_|(show wpM _ _ _ (Fr.ops _ _ (KOper.mk _ _ (some _) _ _::_)::_) Ex.normal _ _ _ _ _;first|refine ap rfl ?_|refine aq rfl ?_) |(show wpM _ _ _ (Fr.code (K.cond _ _ _)::_) Ex.normal _ _ _ _ _;first|refine ak rfl ?_|refine aj rfl ?_))
   exact bo (L 1 (zD _) (by omega) (ah rfl ⟨rfl,rfl,rfl,ae (fun _=>rfl) _,rfl,tr⟩ (by rw[show IntKind.i64.wrap (((0:Nat):Int)+1)=((1:Nat):Int)from wrap64 (by omega) (by omega)];rfl)))
  exact gE rfl (gE rfl (hN (i+1) g (by omega) (ah rfl ⟨rfl,rfl,rfl,ae (fun _=>rfl) _,tr⟩ (by rw[w1];rfl))))
 exact gE rfl (gA rfl rfl rfl hS (gF rfl rfl rfl))
end
end Go.F
namespace Go.F
theorem rU {sh:Sh}{α:Type}{enc:α->D}{Q:α->Prop}(h:∀x,HasC sh x->∃a,mkD sh x=enc a/\Q a){c:List D}(e:HasC (.sl sh) c):∃l:List α,c=[.lst (l.map enc)]/\(∀a∈l,Q a)/\l.length<=reachBytes:=by
 cases e with
 |sl _ es _ f hr=>
  have key:∀es:List (List D),(∀x∈es,HasC sh x)->∃l:List α,es.map (mkD sh)=l.map enc/\(∀a∈l,Q a)/\l.length=es.length:=by
   intro es
   induction es with
   |nil=>simp
   |cons x es g=>
    intro d;obtain⟨l,h1,i,h3⟩:=g fun y j=>d y (zG _ j);obtain⟨a,k,m⟩:=h x (d x (zO ..));refine⟨a::l,by grind,fun b n=>?_,by grind⟩;grind
  obtain⟨l,h1,i,h3⟩:=key es f;grind
theorem Ti {x:List D}(h:HasC Dd x):∃n:Piece,mkD Dd x=n.enc/\n.corners.length<=reachBytes/\n.widths.length<=reachBytes:=by
 obtain⟨B,C,rfl,h1,b⟩:=bp h;obtain⟨E,F,rfl,c,d⟩:=bp b;obtain⟨G,H,rfl,h3,f⟩:=bp d;obtain⟨I,J,rfl,g,i⟩:=bp f;obtain⟨K,L,rfl,j,k⟩:=bp i;obtain⟨M,N,rfl,l,m⟩:=bp k;obtain⟨O,P,rfl,o,p⟩:=bp m;obtain⟨q,rfl,_⟩:=tI h1;obtain⟨r,rfl,_⟩:=mb (fun _ a=>QR a) c;obtain⟨t,rfl,_⟩:=dp h3;obtain⟨u,rfl,_⟩:=mb (fun _ a=>SK a) g;obtain⟨v,rfl,_,w⟩:=rU (enc:=Spot.enc) (Q:=fun _=>True) (fun _ a=>by obtain⟨s,e,_⟩:=DG a;grind) j;obtain⟨y,rfl,_,z⟩:=rU (enc:=aa) (Q:=fun _=>True) (fun _ a=>by simp_all[sv]) l;obtain⟨A,rfl⟩:=B2 o;obtain rfl:=gY p;exact⟨⟨q,r,t,u,v,y,A⟩,rfl,w,z⟩
theorem W1 {x:List D}(h:HasC OL x):∃n:Sty,x=n.enc.cells/\StyQ n:=by
 obtain⟨E,F,rfl,h1,d⟩:=bp h;obtain⟨G,H,rfl,e,f⟩:=bp d;obtain⟨I,J,rfl,h3,g⟩:=bp f;obtain⟨K,L,rfl,i,j⟩:=bp g;obtain⟨M,N,rfl,k,l⟩:=bp j;obtain⟨O,P,rfl,m,o⟩:=bp l;obtain⟨R,S,rfl,q,r⟩:=bp o;obtain⟨t,rfl,_⟩:=tI h1;obtain⟨u,rfl,v,_⟩:=rU (enc:=D.str) (Q:=fun s=>s.size<=reachBytes) (fun _ a=>by cases a with|str s _ hr=>exact⟨s,rfl,hr⟩) e;obtain⟨w,rfl,_⟩:=mb (fun _ a=>sv a) h3;obtain⟨y,rfl,c,_⟩:=rU (fun _ a=>Ti a) i;obtain⟨z,rfl,_⟩:=mb (fun _ a=>VL a) k;obtain⟨A,rfl,_⟩:=mb (fun _ a=>Yf a) m;obtain⟨B,rfl,_⟩:=mb (fun _ a=>PT a) q;obtain rfl:=gY r;exact⟨⟨t,u,w,y,z,A,B⟩,rfl,⟨fun s C=>zR (v s C) (by decide),fun p b=>zR (c p b).1 (by decide),fun p b=>zR (c p b).2 (by decide)⟩⟩
def shBed:Sh:=.st [.int .i64,.int .i64,.st [.int .i64,.int .i64]]
def shTone:Sh:=.st [.int .i64,.int .i64,.int .i64]
def EP:Sh:=.st [.str,.int .i64,.int .i64,shTone,.sl CY]
def rt:Sh:=.st [OL,shBed,mW]
def rR:Sh:=.st [.sl EP,mW,mW]
theorem XE {x:List D}(h:HasC (.st [.int .i64,.int .i64]) x):∃a b:Int,x=[.int .i64 a,.int .i64 b]:=by
 obtain⟨s,_,e,_⟩:=DG h;grind
theorem WX {x:List D}(h:HasC shBed x):∃b:Bed,x=b.enc.cells:=by
 obtain⟨j,k,rfl,h1,c⟩:=bp h;obtain⟨l,m,rfl,d,e⟩:=bp c;obtain⟨n,o,rfl,h3,f⟩:=bp e;obtain⟨g,rfl,_⟩:=dp h1;obtain⟨i,rfl,_⟩:=dp d;obtain⟨a,b,rfl⟩:=XE h3;obtain rfl:=gY f;exact⟨⟨g,i,⟨a,b⟩⟩,rfl⟩
theorem Tr {x:List D}(h:HasC CY x):∃r:Rect,mkD CY x=r.enc/\(-9223372036854775808<=r.x/\r.x<=9223372036854775807/\ -9223372036854775808<=r.y/\r.y<=9223372036854775807):=by
 obtain⟨o,p,rfl,h1,e⟩:=bp h;obtain⟨q,s,rfl,f,g⟩:=bp e;obtain⟨t,u,rfl,h3,i⟩:=bp g;obtain⟨v,w,rfl,j,k⟩:=bp i;obtain⟨a,rfl,l,m⟩:=dp h1;obtain⟨b,rfl,n,b2⟩:=dp f;obtain⟨c,rfl,_⟩:=dp h3;obtain⟨d,rfl,_⟩:=dp j;obtain rfl:=gY k;exact⟨⟨a,b,c,d⟩,rfl,l,m,n,b2⟩
theorem Xw {x:List D}(h:HasC EP x):∃r:RollS,mkD EP x=r.enc/\RolQ r:=by
 obtain⟨w,y,rfl,h1,a⟩:=bp h;obtain⟨z,A,rfl,b,c⟩:=bp a;obtain⟨B,C,rfl,h3,d⟩:=bp c;obtain⟨E,F,rfl,e,f⟩:=bp d;obtain⟨G,H,rfl,g,i⟩:=bp f;obtain⟨j,rfl,_⟩:=tI h1;obtain⟨k,rfl,_⟩:=dp b;obtain⟨l,rfl,_⟩:=dp h3;obtain⟨t1,I,rfl,m,l1⟩:=bp e;obtain⟨t2,J,rfl,n,l2⟩:=bp l1;obtain⟨t3,K,rfl,o,p⟩:=bp l2;obtain⟨s,rfl,_⟩:=dp m;obtain⟨t,rfl,_⟩:=dp n;obtain⟨u,rfl,_⟩:=dp o;obtain rfl:=gY p;obtain⟨fl,rfl,q,_⟩:=rU (fun _ v=>Tr v) g;obtain rfl:=gY i;exact⟨⟨j,k,l,s,t,u,fl⟩,rfl,⟨q⟩⟩
theorem DV {x:List D}(h:HasC mW x):∃l:List Int,x=[ints l]:=by
 obtain⟨l,rfl,_⟩:=mb (fun _ a=>sv a) h;exact⟨l,rfl⟩
theorem dec_case {x:List D}(h:HasC rt x):∃(s:Sty) (b:Bed) (sizes:List Int),mkD rt x=jv s b sizes/\StyQ s:=by
 obtain⟨f,g,rfl,h1,a⟩:=bp h;obtain⟨i,j,rfl,c,d⟩:=bp a;obtain⟨k,m,rfl,h3,e⟩:=bp d;obtain⟨s,rfl,q⟩:=W1 h1;obtain⟨b,rfl⟩:=WX c;obtain⟨l,rfl⟩:=DV h3;obtain rfl:=gY e;exact⟨s,b,l,rfl,q⟩
theorem dec_cloth {x:List D}(h:HasC rR x):∃(rs:List RollS) (lots a:List Int),mkD rR x=jl rs lots a/\∀r∈rs,RolQ r:=by
 obtain⟨g,i,rfl,h1,b⟩:=bp h;obtain⟨j,k,rfl,c,d⟩:=bp b;obtain⟨m,n,rfl,h3,e⟩:=bp d;obtain⟨rs,rfl,q,_⟩:=rU (fun _ f=>Xw f) h1;obtain⟨l,rfl⟩:=DV c;obtain⟨p,rfl⟩:=DV h3;obtain rfl:=gY e;exact⟨rs,l,p,rfl,q⟩
section
variable {P:Program}{G:FuncId->Bool}{pl:FuncId->Plan}{E:Env}
structure EvE (P:Program)(G:FuncId->Bool)(pl:FuncId->Plan)(E:Env):Prop where
 p:∀f args r,E.pure f args=some r->Evt fun M=>(env P G pl M).pure f args=some r
 s:∀f args h z nx r,E.shar f args h z nx=some r->Evt fun M=>(env P G pl M).shar f args h z nx=some r
abbrev qk (P:Program)(G:FuncId->Bool)(pl:FuncId->Plan)(S:FuncId->Bool)(M:Nat):Env:=⟨(env P G pl M).pure,(env P G pl M).shar,S⟩
theorem Qq (hE:EvE P G pl E){h:ab}{f:FuncId}{args:List D}{r:Out}(a:ig E.pure h f args=some r):Evt fun M=>ig (env P G pl M).pure h f args=some r:=by
 unfold ig at a;split at a
 grind
 .split at a
  grind
  .rename_i d b;exact(hE.p _ _ _ b).mono fun M c=>by grind[ig]
theorem XM (hE:EvE P G pl E){o:Oper}{t:ai}{h:ab}{z:Frz}{id:Nat}{r:Out}(b:step P E.pure o t h z id=some r):Evt fun M=>step P (env P G pl M).pure o t h z id=some r:=by
 unfold step at b;cases a:o.op<;>simp only[a]at b<;>first|(exact Evt.all fun M=>by unfold step;simp only[a];exact b) |skip
 rename_i cl;cases c:cl.callee<;>simp only[c]at b<;>first|(exact Evt.all fun M=>by unfold step;simp only[a,c];exact b) |skip
 grind[Qq,step]
theorem one_ev (hE:EvE P G pl E){a:Bool}{e:Sp}{ops:Array Oper}{o:Oper}{i base:Nat}{s s':St}(b:one P E a e ops o i base s=some s'):Evt fun M=>one P (qk P G pl E.shared M) a e ops o i base s=some s':=by
 unfold one at b;split at b
 .split at b
  .split at b
   .rename_i v h z nx c
    exact(hE.s _ _ _ _ _ _ c).mono fun M f=>by
     simp_all[one,de]
   grind
  split at b
  .rename_i r d
   exact(XM hE d).mono fun M f=>by
    simp_all[one,de]
  grind
 grind[Evt.all,one];grind
theorem NW (hE:EvE P G pl E){c:Bool}{d:Sp}{ops:Array Oper}{base:Nat}:∀{l:List Oper} {i:Nat} {s s':St},gG P E c d ops base l i s=some s'->Evt fun M=>gG P (qk P G pl E.shared M) c d ops base l i s=some s'
 |[],i,s,s',h=>Evt.all fun _=>h
 |o::l,i,s,s',h=>by
  simp only[gG]at h;split at h
  .rename_i e h1;exact(one_ev hE h1).of2 (NW hE h) fun M a b=>by grind[gG]
  grind
theorem XT (hE:EvE P G pl E){p:Plan}{nx0:Nat}:∀(c:Code) (s:St) (r:Ex×St),aR P E p nx0 c s=some r->Evt fun M=>aR P (qk P G pl E.shared M) p nx0 c s=some r:=by
 intro c
 induction c with
 |region k ops v=>
  intro s r h;simp only[aR]at h;grind[NW,aR]
 |seq a b d l=>
  intro s r h;simp only[aR]at h
  cases o:aR P E p nx0 a s with
  |none=>grind
  |some q=>
   rw[o]at h;obtain⟨m,j⟩:=q
   cases m with
   |normal=>exact(d s _ o).of2 (l j r h) fun M x y=>by grind[aR]
   |exit i=>exact(d s _ o).mono fun M x=>by grind[aR]
   |ret=>exact(d s _ o).mono fun M x=>by grind[aR]
 |cond c a b d l=>
  grind[aR]
 |block id c f=>
  intro s r h;simp only[aR]at h
  cases w:aR P E p nx0 c s with
  |none=>grind
  |some q=>
   exact(f s q w).mono fun M x=>by grind[aR]
 |loop c f=>
  intro s r h;simp only[aR]at h;split at h
  .have key:∀(n:Nat) (s:St),eK (aR P E p nx0 c) n s=some r->Evt fun M=>eK (aR P (qk P G pl E.shared M) p nx0 c) n s=some r:=by
    intro n
    induction n with
    |zero=>simp[eK]
    |succ n g=>
     intro s h;simp only[eK]at h
     cases e:aR P E p nx0 c s with
     |none=>grind
     |some q=>
      rw[e]at h;obtain⟨m,t⟩:=q
      cases m with
      |normal=>exact(f s _ e).of2 (g t h) fun M x y=>by grind[eK]
      |exit i=>exact(f s _ e).mono fun M x=>by grind[eK]
      |ret=>exact(f s _ e).mono fun M x=>by grind[eK]
   grind[aR]
  have key:∀(n:Nat) (s:St),dO nx0 (p.pn (dd c)) (p.lv (dd c)) (aR P E p nx0 c) n s=some r->Evt fun M=>dO nx0 (p.pn (dd c)) (p.lv (dd c)) (aR P (qk P G pl E.shared M) p nx0 c) n s=some r:=by
   intro n
   induction n with
   |zero=>simp[dO]
   |succ n g=>
    intro s h;simp only[dO]at h
    cases u:jF nx0 (p.pn (dd c)) (p.lv (dd c)) s with
    |none=>grind
    |some j=>
     rw[u]at h;simp at h
     cases e:aR P E p nx0 c j with
     |none=>grind
     |some q=>
      rw[e]at h;obtain⟨m,t⟩:=q
      cases m with
      |normal=>exact(f j _ e).of2 (g t h) fun M x y=>by grind[dO]
      |exit i=>exact(f j _ e).mono fun M x=>by grind[dO]
      |ret=>exact(f j _ e).mono fun M x=>by grind[dO]
  grind[aR]
 |_=>intro s r h;exact Evt.all fun _=>h
theorem Jz (hE:EvE P G pl E){p:Plan}{fn:Func}{c:Code}{args:List D}{h:ab}{z:Frz}{nx:Nat}{r:D×ab×Frz×Nat}(a:body P E p fn c args h z nx=some r):Evt fun M=>body P (qk P G pl E.shared M) p fn c args h z nx=some r:=by
 unfold body at a
 cases b:aR P E p nx c ⟨enter args,h,z,nx⟩with
 |none=>grind
 |some q=>exact(XT hE c _ q b).mono fun M d=>by grind[body]
def envS (P:Program)(G:FuncId->Bool)(pl:FuncId->Plan)(E:Env):Env:=
    ⟨fun f args=>
      match P.funcs[f]? with
      |none=>none
      |some fn=>
       match fn.body with
       |none=>none
       |some c=>
        match(pl f).gv with
        |[]=>
         match(pl f).em&&fW args with
         |true=>some (.lst [])
         |false=>
          match body P ⟨E.pure,E.shar,iI G (pl f).hr⟩ (pl f) fn c args empty kl 0 with
          |none=>none
          |some (d,h,_,_)=>aG h depth d
        |a=>ib E.pure a args,
     fun f args h z nx=>
      match P.funcs[f]? with
      |none=>none
      |some fn=>
       match fn.body with
       |none=>none
       |some c=>
        match(pl f).gv with
        |[]=>
         match(pl f).em&&fW args with
         |true=>some (.lst [],h,z,nx)
         |false=>body P ⟨E.pure,E.shar,iI G (pl f).hr⟩ (pl f) fn c args h z nx
        |a=>fM E.pure a args h z nx,
     G⟩
theorem Evt.succ {p:Nat->Prop}(h:Evt fun M=>p (M+1)):Evt p:=by
 obtain⟨N,a⟩:=h;exact⟨N+1,fun M b=>by obtain⟨k,rfl⟩:∃k,M=k+1:=⟨M-1,by omega⟩;grind⟩
theorem Qb (hE:EvE P G pl E):EvE P G pl (envS P G pl E) where
 p:=by
  intro f args r h;refine Evt.succ ?_;unfold envS at h;simp at h;split at h
  grind
  .rename_i fn e;split at h
   grind
   .rename_i c g;split at h
    .rename_i a;split at h
     grind[Evt.all,env]
     .rename_i i;split at h
      grind
      .rename_i d j z nx k
       exact(Jz (E:=⟨E.pure,E.shar,iI G (pl f).hr⟩) ⟨hE.p,hE.s⟩ k).mono fun M b=>by
        simp[env];grind
    exact(C6 (pus:=fun M=>(env P G pl M).pure) hE.p h).mono fun M b=>by
     grind[env]
 s:=by
  intro f args j z nx r h;refine Evt.succ ?_;unfold envS at h;simp at h;split at h
  grind
  .rename_i fn e;split at h
   grind
   .rename_i c g;split at h
    .rename_i a;split at h
     grind[Evt.all,env]
     .rename_i i
      exact(Jz (E:=⟨E.pure,E.shar,iI G (pl f).hr⟩) ⟨hE.p,hE.s⟩ h).mono fun M b=>by
       simp only[env,e,g,a,i];omega
    exact(Dq (pus:=fun M=>(env P G pl M).pure) hE.p h).mono fun M b=>by
     grind[env]
def tH (P:Program)(G:FuncId->Bool)(pl:FuncId->Plan)(a:Pure):Nat->Env
 |0=>⟨a,fun _ _ _ _ _=>none,G⟩
 |n+1=>
  ⟨fun f args=>match a f args with|some r=>some r|none=>(envS P G pl (tH P G pl a n)).pure f args,(envS P G pl (tH P G pl a n)).shar,G⟩
theorem Jc {a:Pure}(b:∀f args r,a f args=some r->Evt fun M=>(env P G pl M).pure f args=some r):∀n,EvE P G pl (tH P G pl a n)
 |0=>⟨b,fun f args h z nx r hr=>by trivial⟩
 |n+1=>by
  have c:=Qb (Jc b n);refine⟨fun f args r h=>?_,c.s⟩;simp only[tH]at h;split at h
  grind
  .exact c.p _ _ _ h
end
open Go.Proofs
def cmpO (f:FuncId)(args:List D):Option D:=
 match args with
 |[.agg [.int .i64 a,.int .i64 b],.agg [.int .i64 c,.int .i64 d]]=>
  match Nat.beq f 192||(Nat.beq f 246||Nat.beq f 290)with
  |true=>some (.int .i64 (cQ ⟨a,b⟩ ⟨c,d⟩))
  |false=>none
 |_=>none
theorem PV {f:FuncId}{args:List D}{r:D}(h:cmpO f args=some r):PU f args=some r:=by
 unfold cmpO at h;split at h
 .split at h
  .rename_i a;rw[xF,xF]at a;cases h;rcases a with a|a|a<;>obtain rfl:=zl a
   .exact DL ⟨_,_⟩ ⟨_,_⟩
   .exact uV ⟨_,_⟩ ⟨_,_⟩
   exact FX ⟨_,_⟩ ⟨_,_⟩
  cases h
 cases h
abbrev Memo:=List (FuncId×List D×D)
def AY:Memo->FuncId->List D->Option D
 |[],f,args=>cmpO f args
 |m::l,f,args=>match Nat.beq m.1 f&&eqL m.2.1 args with|true=>some m.2.2|false=>AY l f args
def DB:Memo->Prop
 |[]=>True
 |m::l=>PU m.1 m.2.1=some m.2.2/\DB l
theorem Ir:∀{l:Memo},DB l->∀{f:FuncId} {args:List D} {r:D},AY l f args=some r->PU f args=some r
 |[],_,f,args,r,h=>PV h
 |m::l,b,f,args,r,h=>by
  rw[AY]at h;split at h
  .rename_i a;rw[zJ]at a;rw[<-zl a.1,<-Gv.eqL_eq a.2,<-h];exact b.1
  exact Ir b.2 h
noncomputable def runO (l:Memo)(n:Nat)(f:FuncId)(args:List D)(r:D):Bool:=
 match(tH Tryz.prog kK fL (AY l) n).pure f args with
 |some d=>eqD d r
 |none=>false
theorem gQ {l:Memo}{n:Nat}{f:FuncId}{args:List D}{r:D}(h:runO l n f args r=true)(a:DB l):PU f args=some r:=by
 unfold runO at h;split at h
 .rename_i d b;rw[<-Gv.eqD_eq h];exact rX ((Jc (fun f args r h=>Bt (Ir a h)) n).p f args d b)
 cases h
end Go.F
namespace Go.F
attribute [local irreducible] IntKind.wrap wpM
theorem top_PU (e:PU 6 []=some (.bool true))(s:Sty)(b:Bed)(sizes:List Int)(rs:List RollS)(lots a:List Int)(g:StyQ s)(hr:∀r∈rs,RolQ r):
 PU 4 [jv s b sizes,jl rs lots a]=some (.bool true):=by
 obtain⟨d,f,m,ps,Q,ok,rfl,c⟩:=XW s b sizes rs lots a g hr
 cases ok with
 |true=>exact top_ok s b sizes a (c rfl) f e
 |false=>
  exact EQ rfl (Mj (gA rfl rfl rfl f (gg rfl (ak rfl (gA rfl rfl rfl e (gF rfl rfl rfl))))))
end Go.F
namespace Go.F
set_option maxRecDepth 100000
def sqA:List Spot:=[⟨0,0⟩,⟨10,0⟩,⟨10,10⟩,⟨0,10⟩]
def sqB:List Spot:=[⟨0,10⟩,⟨-10,10⟩,⟨-10,0⟩,⟨0,0⟩]
def sqC:List Spot:=[⟨10,20⟩,⟨0,20⟩,⟨0,10⟩,⟨10,10⟩]
def pairP:Piece:=⟨⟨#[102,114,111,110,116]⟩,
 [⟨⟨#[108,111,119]⟩,[⟨0,0⟩,⟨10,0⟩]⟩,⟨⟨#[114,105,103,104,116]⟩,[⟨10,0⟩,⟨10,10⟩]⟩,⟨⟨#[104,105,103,104]⟩,[⟨10,10⟩,⟨0,10⟩]⟩,⟨⟨#[108,101,102,116]⟩,[⟨0,10⟩,⟨0,0⟩]⟩],
 1,[],[⟨0,0⟩,⟨1,0⟩,⟨1,0⟩,⟨0,0⟩],[0,0,0,0],false⟩
def pairX:Sty:=⟨⟨#[115,104,105,114,116]⟩,[⟨#[83]⟩,⟨#[77]⟩],[0,2],[pairP],[⟨0,2,true⟩],[],[]⟩
def bedX:Bed:=⟨100,20,⟨0,0⟩⟩
def ni:List Shp:=[⟨sqA,1,false,⟨0,0⟩⟩,⟨sqB,1,false,⟨0,0⟩⟩]
def regX:List (List Spot):=[[⟨0,-10⟩,⟨20,-10⟩,⟨0,10⟩],[⟨0,0⟩,⟨10,-10⟩,⟨20,-10⟩,⟨20,0⟩,⟨10,10⟩,⟨0,10⟩],[⟨0,10⟩,⟨20,-10⟩,⟨20,10⟩]]
def sptX:List Spot:=[⟨0,-10⟩,⟨0,0⟩,⟨0,10⟩,⟨10,-10⟩,⟨10,10⟩,⟨20,-10⟩,⟨20,0⟩,⟨20,10⟩]
def oY:List Put2:=[⟨0,⟨false,0⟩,⟨0,0⟩⟩,⟨1,⟨false,0⟩,⟨10,10⟩⟩]
def okZ (d:D):D:=.tup [d,.int .i64 0]
def plcX:List Plc:=[⟨0,0,0,false,0,0,0⟩,⟨0,0,1,true,0,0,0⟩]
def mkrX:Mkr:=⟨10,20,⟨0,0⟩,[0],[⟨0,0,0,false,0,0,0⟩,⟨0,0,1,true,0,10,10⟩]⟩
def rolX:List RollS:=[⟨⟨#[65]⟩,20,25,0,0,0,[]⟩]
def plyX:List Ply:=[⟨0,[⟨0,0,10,0⟩]⟩,⟨0,[⟨0,10,20,0⟩]⟩]
theorem Qe:PU 24 []=some pairX.enc:=gQ (l:=[]) (n:=9) (by kernel_rfl) tr
theorem Yr:PU 244 [ac sqA,ac sqB]=some (okZ (aY regX)):=gQ (l:=[]) (n:=20) (by kernel_rfl) tr
theorem RK:PU 218 [ac sqA,ac sqB]=some (okZ (ac sptX)):=gQ (l:=[(_,_,_)]) (n:=20) (by kernel_rfl) ⟨Yr,tr⟩
theorem P8:PU 94 [bedX.enc,cq ni,cW [],aa 0]=some (okZ (pu2 oY 0).enc):=gQ (l:=[]) (n:=20) (by kernel_rfl) tr
theorem W6:PU 141 [bedX.enc,(shp ni 1).enc,.agg [.bool false,aa 0],ac sqB,aY [sqA]]=some (okZ (ac [⟨0,-10⟩,⟨0,0⟩,⟨0,10⟩,⟨10,-10⟩,⟨10,0⟩,⟨10,10⟩,⟨20,-10⟩,⟨20,0⟩,⟨20,10⟩])):=gQ (l:=[(_,_,_)]) (n:=20) (by kernel_rfl) ⟨RK,tr⟩
theorem QL:PU 142 [bedX.enc,cq ni,cW [pu2 oY 0],(⟨1,⟨false,0⟩,⟨10,0⟩⟩:Put2).enc]=some (aa 14):=gQ (l:=[]) (n:=20) (by kernel_rfl) tr
theorem XR:PU 142 [bedX.enc,cq ni,cW [pu2 oY 0],(pu2 oY 1).enc]=some (aa 0):=gQ (l:=[]) (n:=20) (by kernel_rfl) tr
theorem Xa:PU 94 [bedX.enc,cq ni,cW [pu2 oY 0],aa 1]=some (okZ (pu2 oY 1).enc):=gQ (l:=[(_,_,_),(_,_,_),(_,_,_)]) (n:=20) (by kernel_rfl) ⟨W6,QL,XR,tr⟩
theorem X4:PU 55 [bedX.enc,cq ni,ints [0,1]]=some (okZ (cW oY)):=gQ (l:=[(_,_,_),(_,_,_)]) (n:=20) (by kernel_rfl) ⟨P8,Xa,tr⟩
theorem Bs:StyB pairX:=⟨by decide,by decide,by decide,by decide,by decide,by decide,by decide,by decide,by decide,by decide⟩
theorem MN:PU 90 [pairX.enc]=some (aa 0):=by rw[sb _ Bs,show fx pairX=0 by decide+kernel];rfl
theorem Jo:PU 91 [pairX.enc]=some (dA plcX):=by rw[CI _ Bs,show dV pairX=plcX by decide+kernel]
theorem cutX:fQ pairX 0 0=(sqA,0):=by decide+kernel
theorem ancX:lU pairX 0 0=(⟨0,0⟩,0):=by decide+kernel
theorem ve (i:Nat)(hi:i<2):PU 92 [pairX.enc,aa 0,(plcX.getD i ⟨0,0,0,false,0,0,0⟩).enc]=some (okZ (shp ni i).enc):=by
 have h:(plcX.getD i ⟨0,0,0,false,0,0,0⟩).use=0/\ga pairX 0 (plcX.getD i ⟨0,0,0,false,0,0,0⟩)=(shp ni i,0):=by
  match i,hi with
  |0,_=>exact⟨rfl,by unfold ga;rw[show(plcX.getD 0 ⟨0,0,0,false,0,0,0⟩).use=0 from rfl,cutX,ancX];rfl⟩
  |1,_=>exact⟨rfl,by unfold ga;rw[show(plcX.getD 1 ⟨0,0,0,false,0,0,0⟩).use=0 from rfl,cutX,ancX];rfl⟩
 rw[show aa 0=D.int .i64 0 from rfl,Di _ _ _ Bs (by rw[h.1,cutX];decide),h.2];rfl
theorem RV:PU 21 [pairX.enc,bedX.enc,ints [0]]=some (okZ mkrX.enc):=
 gQ (l:=[(_,_,_),(_,_,_),(_,_,_),(_,_,_),(_,_,_)]) (n:=20) (by kernel_rfl) ⟨MN,Jo,ve 0 (by decide),ve 1 (by decide),X4,tr⟩
theorem Uc:PU 22 [pairX.enc,mkrX.enc]=some (okZ (aY [sqA,sqC])):=
 gQ (l:=[(_,_,_),(_,_,_),(_,_,_),(_,_,_)]) (n:=20) (by kernel_rfl) ⟨MN,Jo,ve 0 (by decide),ve 1 (by decide),tr⟩
theorem Rl:PU 23 [mkrX.enc,aY [sqA,sqC],rolls rolX,ints [0],ints [2]]=some (.tup [di mkrX plyX,.lst [(⟨0,0,20,25⟩:Rst).enc],aa 0]):=gQ (l:=[]) (n:=20) (by kernel_rfl) tr
theorem YX:PU 7 [di mkrX plyX,rolls rolX,ints [0],aY [sqA,sqC]]=some (okZ (.agg [aa 800,aa 800,aa 0,aa 0,aa 0])):=gQ (l:=[]) (n:=20) (by kernel_rfl) tr
theorem T8:PU 5 [jv pairX bedX [0],jl rolX [0] [2]]=some (.tup [di mkrX plyX,aY [sqA,sqC],.bool true]):=
 gQ (l:=[(_,_,_),(_,_,_),(_,_,_)]) (n:=20) (by kernel_rfl) ⟨RV,Uc,Rl,tr⟩
theorem RL:PU 6 []=some (.bool true):=
 gQ (l:=[(_,_,_),(_,_,_),(_,_,_)]) (n:=20) (by kernel_rfl) ⟨Qe,T8,YX,tr⟩
end Go.F
