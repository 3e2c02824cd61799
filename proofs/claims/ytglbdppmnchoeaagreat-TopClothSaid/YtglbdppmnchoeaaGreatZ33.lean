/- Part 33. -/
import Derived.Test.YtglbdppmnchoeaaGreatZ32
set_option linter.all false
set_option maxHeartbeats 16000000
namespace Go.F
attribute [local irreducible] IntKind.wrap wpM
def clo (T:List Part)(i j:Nat):Option Blk:=if j<i then none else cT T j
theorem tQ (T:List Part)(i j:Nat):aI (clo T i j)=true:=by unfold clo;split;rfl;simp[mB]
theorem bef_z {m n base id:Nat}{z:Frz}(h1:id<base):(Gd.bef m n).z base z id=z id:=by
 show cond (Nat.blt id base||_) _ _=_;grind[Nat.blt,Nat.ble_eq_true_of_le]
theorem PJ {H:ab}{id:Nat}{v:Option Blk}(h:H id=v):∃a,H=upd a id v:=⟨H,(dY h).symm⟩
theorem TabG.drop {R tb b i X w:Nat}{T:List Part}{ns:Nat->Nat}{h:ab}{z:Frz}{v:Option Blk}(a:TabG R tb (fun j=>b+j) ns (clo T i) h z)(_hi:i<R)(c:X≠tb)(f:b+R<=X)(g:tb<b):TabG R tb (fun j=>b+j) ns (clo T (i+1)) (Go.F.upd (Go.F.upd h (b+i) none) X v) (Go.F.upd z X w):=by
 refine⟨by rw[upd_ne c.symm,upd_ne (by omega)];exact a.1,by rw[upd_ne c.symm];exact a.2.1,fun j d=>?_⟩;rw[upd_ne (show b+j≠X by omega),upd_ne (show b+j≠X by omega)];refine⟨?_,(a.2.2 j d).2⟩;by_cases e:j=i
 simp_all[upd_same,clo]
 .rw[upd_ne (by omega),show h (b+j)=clo T i j from(a.2.2 j d).1,clo,clo];grind
section
variable {R tb nx:Nat}{ids ns:Nat->Nat}{C:Nat->Option Blk}{t:ai}{h:ab}{z:Frz}
theorem ji {mr nx0 R b tb:Nat}{ids:Nat->Nat}{ow:List Nat}{e d:D}(h:e=d)(h1:bi d=none)(a:plain 4 d=true):VU mr nx0 R b tb ids ow e d:=by subst h;exact .pl _ h1 a
theorem EZ {mr nx0 R b tb:Nat}{ids:Nat->Nat}{ow:List Nat}{e:D}{i o n:Nat}(k:Nat)(h:e=.ref i o n)(h1:ow[k]?=some i):VU mr nx0 R b tb ids ow e (.ref (b+mr+k) o n):=by subst h;exact .own k i o n h1
theorem Eb {lots:List Int}{rs:List RollS}{i j n n' nr o1 o2:Nat}{fv:Int}{K:ab->Frz->Kept->Prop}
 (p:[t 13,t 2,t 16,t 18,t 59,t 60,t 61,t 77,t 78,t 15,t 76]=[.ref tb 0 R,ints lots,aa i,.int .i64 fv,rolls rs,aa R,aa i,aa n,aa j,.ref o1 0 nr,.ref o2 0 n'])
 (v:R<=6) (q:TabG R tb ids ns C h z) (l:∀i j,i<R->j<R->ids i=ids j->i=j) (m:∀j,j<R->ids j≠tb) (w:∀j,j<R->aI (C j)=true)
 (y:o1≠o2) (B:o1≠tb/\(∀j,j<R->ids j≠o1)/\aI (h o1)=true) (D:o2≠tb/\(∀j,j<R->ids j≠o2)/\aI (h o2)=true)
 (E:∀d e h1 o,(∀a c,TabG R 0 (fun j=>9+j) ns C (mkF 0 a none d 0) (mkF 0 c 0 e 0)/\mkF 0 a none d 0 15=h o1/\mkF 0 c 0 e 0 15=z o1/\mkF 0 a none d 0 16=h o2)->K h1 o (.ref 0 0 R::([ints lots,aa i,.int .i64 fv,rolls rs,aa R,aa i,aa n,aa j]++(List.replicate 6 .bad++([.ref 15 0 nr,.ref 16 0 n']++[]))),d,e)):
 bz 0 [(13,0),(2,0),(16,0),(18,0),(59,0),(60,0),(61,0),(77,0),(78,0),(1049624589,2),(1050673165,2),(1051721741,2),(1052770317,2),(1053818893,2),(1054867469,2),(15,4),(76,0)] t h z nx K:=by
 simp at p;obtain⟨r,F,G,H,I,J,L,M,N,f,g⟩:=p
 have s:∀(ow:List Nat),VsU 6 0 R 9 tb ids ow t [(2,0),(16,0),(18,0),(59,0),(60,0),(61,0),(77,0),(78,0)] [ints lots,aa i,.int .i64 fv,rolls rs,aa R,aa i,aa n,aa j]:=fun ow=>
  ⟨⟨.inl rfl,rfl,ji F rfl rfl⟩,⟨.inl rfl,rfl,ji G rfl rfl⟩,⟨.inl rfl,rfl,ji H rfl rfl⟩,⟨.inl rfl,rfl,ji I rfl rfl⟩,⟨.inl rfl,rfl,ji J rfl rfl⟩,⟨.inl rfl,rfl,ji L rfl rfl⟩,⟨.inl rfl,rfl,ji M rfl rfl⟩,⟨.inl rfl,rfl,ji N rfl rfl⟩,tr⟩
 refine sQ (sz:=1) (mr:=6) (nx:=nx) (tt:=13) (A:=[(2,0),(16,0),(18,0),(59,0),(60,0),(61,0),(77,0),(78,0)]) (O:=[(15,4),(76,0)]) (Bn:=[]) (ow:=[o1,o2]) (b:=9) (vo:=[.ref 15 0 nr,.ref 16 0 n']) (vb:=[]) ((EE (sz:=1) (mr:=6) (tt:=13) (A:=[(2,0),(16,0),(18,0),(59,0),(60,0),(61,0),(77,0),(78,0)]) (O:=[(15,4),(76,0)]) r q (s [])).trans ?_) rfl rfl r v q l (fun j P=>⟨zB _,m j P⟩) (zB _) w (s _) ?_ tr
  ⟨⟨.inr (by grind),rfl,EZ 0 f rfl⟩,⟨.inl rfl,rfl,EZ 1 g rfl⟩,tr⟩ ?_ (by grind) ?_ fun d e h1 o k=>E d e h1 o fun a c=>⟨(k a c).1,((k a c).2 0 o1 rfl).1,((k a c).2 0 o1 rfl).2,((k a c).2 1 o2 rfl).1⟩
 .show gn 76 0 (gn 15 4 _)=_;simp_all[gn]
 .intro x u;simp at u;rcases u with rfl|rfl|rfl|rfl|rfl|rfl|rfl|rfl<;>(left;simp only[*];rfl)
 .show [bi (look t h 15),bi (look t h 76)]=_;rw[ol rfl,ol rfl,f,g];rfl
 grind
theorem restO {lots:List Int}{rs:List RollS}{i nr o1:Nat}{K:ab->Frz->Kept->Prop}
 (m:[t 13,t 2,t 59,t 60,t 61,t 15]=[.ref tb 0 R,ints lots,rolls rs,aa R,aa i,.ref o1 0 nr])
 (s:R<=6) (n:TabG R tb ids ns C h z) (f:∀i j,i<R->j<R->ids i=ids j->i=j) (g:∀j,j<R->ids j≠tb) (u:∀j,j<R->aI (C j)=true)
 (v:o1≠tb/\(∀j,j<R->ids j≠o1)/\aI (h o1)=true)
 (w:∀d e h1 k,(∀a c,TabG R 0 (fun j=>5+j) ns C (mkF 0 a none d 0) (mkF 0 c 0 e 0)/\mkF 0 a none d 0 11=h o1/\mkF 0 c 0 e 0 11=z o1)->K h1 k (.ref 0 0 R::([ints lots,rolls rs,aa R,aa i]++(List.replicate 6 .bad++([.ref 11 0 nr]++[]))),d,e)):
 bz 0 [(13,0),(2,0),(59,0),(60,0),(61,0),(1049624589,2),(1050673165,2),(1051721741,2),(1052770317,2),(1053818893,2),(1054867469,2),(15,4)] t h z nx K:=by
 simp at m;obtain⟨o,y,B,D,E,p⟩:=m
 have q:∀(ow:List Nat),VsU 6 0 R 5 tb ids ow t [(2,0),(59,0),(60,0),(61,0)] [ints lots,rolls rs,aa R,aa i]:=fun ow=>
  ⟨⟨.inl rfl,rfl,ji y rfl rfl⟩,⟨.inl rfl,rfl,ji B rfl rfl⟩,⟨.inl rfl,rfl,ji D rfl rfl⟩,⟨.inl rfl,rfl,ji E rfl rfl⟩,tr⟩
 refine sQ (sz:=1) (mr:=6) (nx:=nx) (tt:=13) (A:=[(2,0),(59,0),(60,0),(61,0)]) (O:=[(15,4)]) (Bn:=[]) (ow:=[o1]) (b:=5) (vo:=[.ref 11 0 nr]) (vb:=[]) ((EE (sz:=1) (mr:=6) (tt:=13) (A:=[(2,0),(59,0),(60,0),(61,0)]) (O:=[(15,4)]) o n (q [])).trans ?_) rfl rfl o s n f (fun j F=>⟨zB _,g j F⟩) (zB _) u (q _) ?_ tr
  ⟨⟨.inr (by grind),rfl,EZ 0 p rfl⟩,tr⟩ ?_ (by simp) ?_ fun d e h1 k l=>w d e h1 k fun a c=>⟨(l a c).1,((l a c).2 0 o1 rfl).1,((l a c).2 0 o1 rfl).2⟩
 .show gn 15 4 _=_;grind[gn]
 .intro x r;simp at r;rcases r with rfl|rfl|rfl|rfl<;>(left;simp only[*];rfl)
 .show [bi (look t h 15)]=_;rw[ol rfl,p];rfl
 grind
end
def frT (W:List Zone):Nat->Int
 |0=>0
 |j+1=>(zn W j).hi
def Zh (i:Nat)(a:Int)(W:List Zone):Nat->List Rst
 |0=>[]
 |j+1=>Zh i a W j++(if frT W j<(zn W j).lo then [⟨i,a,frT W j,(zn W j).lo⟩]else [])
def zlS (T:List Part)(rs:List RollS)(i:Nat):List Zone:=zof T i++[⟨(rl rs i).length,(rl rs i).length⟩]
def m0 (T:List Part)(rs:List RollS)(lots:List Int):Nat->List Rst
 |0=>[]
 |i+1=>m0 T rs lots i++Zh i (lots.getD i 0) (zlS T rs i) (nsT T i+1)
theorem R6 (m:Mkr)(Q:List Ply)(rs:List RollS)(lots:List Int)(g:rs.length<=6)(U:kY rs lots.length=0)(hb:∀r∈rs,RollB r)(hQ:Q.length<=40)(G:∀y∈Q,y.parts.length<=1000)(I:∀y∈Q,∀q∈y.parts,gl q rs=true)(a9:ChI (cy Q))(b0:(cy Q).length<=1000000):
 PU 8 [di m Q,rolls rs,ints lots]=some (.tup [.lst ((m0 (cy Q) rs lots rs.length).map Rst.enc),.int .i64 0]):=by
 refine PS rfl (jA rfl (HZ rs lots hb) ?_);rw[U];refine gg rfl (aj (by show D.bool (nqb 0 0)=_;simp[aE]) ?_);refine gg rfl (aj (by show D.bool (ltb 40 _)=_;grind[af]) ?_);refine gg rfl ?_;rw[zA];refine aw (S:=fun k:Nat=>([rolls rs,ints lots,.ptr 2 0 0,.lst (Q.map Ply.enc),aa Q.length,aa k],none::none::some (.row [di m Q] 7)::nn3,zz6)) (C:=fun k=>k<=Q.length) (m:=fun k=>Q.length-k) 0 (zB _) (by omega) ?_ ?_
 .exact ah rfl ⟨rfl,tr⟩ rfl
 intro k hk N V;refine jC rfl (fun e=>?_) (fun e=>?_)
 .rw[ad]at e;have a:k<Q.length:=by omega
  have w1:=wS (n:=k);have he:(Q.map Ply.enc)[k]?=some Q[k].enc:=by grind
  have F:=I _ (zE a);have b2:=G _ (zE a);generalize Q[k]=y at*;obtain⟨lt,P⟩:=y;dsimp only at F b2;refine jX k rfl rfl he rfl (gg rfl ?_);rw[zA];refine aw (S:=fun j:Nat=>([rolls rs,ints lots,.ptr 2 0 0,.lst (Q.map Ply.enc),aa Q.length,aa k,parts P,aa P.length,aa j],none::none::some (.row [di m Q] 7)::nn6,zz9)) (C:=fun j=>j<=P.length) (m:=fun j=>P.length-j) 0 (zB _) (by omega) ?_ ?_
  .exact ah rfl ⟨rfl,tr⟩ rfl
  intro j hj N2 p;refine jC rfl (fun Y=>?_) (fun Y=>?_)
  .rw[ad]at Y;have f:j<P.length:=by omega
   have w2:=wS (n:=j);have a0:=nv f;have hq:=F _ (zE f);rw[oS f]at a0;generalize P[j]=q at*;refine jX j rfl rfl a0 rfl (jA rfl (JO q rs) ?_);rw[hq];exact gg rfl (aj rfl (gE rfl (p (j+1) f (by omega) (ah rfl ⟨rfl,tr⟩ (by rw[w2];rfl)))))
  exact gE rfl (gE rfl (V (k+1) a (by omega) (ah rfl ⟨rfl,tr⟩ (by rw[w1];rfl))))
 clear V;refine gE rfl (gg rfl (cf rfl rfl (Lo rs.length g m Q rs rfl (by omega) G I a9 b0 ?_)));intro h' z' s;refine gg rfl (aj rfl (gg rfl ?_));rw[zA];generalize cy Q=T at*;clear G I hk e;generalize hR:rs.length=R at*
 refine rJ (S:=fun x:Nat×RU×List Nat×List Rst=>(.ref 0 0 R::([ints lots,rolls rs,aa R,aa x.1]++(List.replicate 6 .bad++([.ref 11 0 x.2.2.2.length]++[]))),x.2.1,x.2.2.1))
  (C:=fun x=>x.1<=R/\x.2.2.2.length<=x.1*2000000/\x.2.2.2=m0 T rs lots x.1/\∀c d,TabG R 0 (fun j=>5+j) (nsT T) (clo T x.1) (mkF 0 c none x.2.1 0) (mkF 0 d 0 x.2.2.1 0)/\mkF 0 c none x.2.1 0 11=some (.row (x.2.2.2.map Rst.enc) 4)/\mkF 0 d 0 x.2.2.1 0 11=0) (m:=fun x=>R-x.1) R (by omega) ?_ ?_
 .have b3:TabG R 76 (fun j=>80+j) (nsT T) (clo T 0) (upd h' 190 (some (.row [] 4))) (upd z' 190 0):=⟨s.1,s.2.1,fun j hj=>by
   show upd h' 190 _ (80+j)=_/\upd z' 190 0 (80+j)=0
   rw[clo,eE,upd_ne (by omega),upd_ne (by omega)];exact s.2.2 j hj⟩
  refine sQ (sz:=1) (mr:=6) (tt:=13) (tb:=76) (R:=R) (ids:=fun j=>80+j) (ns:=nsT T) (C:=clo T 0) (A:=[(2,0),(59,0),(60,0),(61,0)]) (O:=[(15,4)]) (Bn:=[]) (ow:=[190]) (b:=5) (va:=[ints lots,rolls rs,aa R,aa 0]) (vo:=[.ref 11 0 0]) (vb:=[])
   ((EE (sz:=1) (mr:=6) (tt:=13) (tb:=76) (R:=R) (A:=[(2,0),(59,0),(60,0),(61,0)]) (O:=[(15,4)]) (ids:=fun j=>80+j) (ns:=nsT T) (C:=cT T) (va:=[ints lots,rolls rs,aa R,aa 0]) (b:=5) (nx0:=0) (ow:=[]) rfl s ⟨⟨.inl rfl,rfl,.pl _ rfl rfl⟩,⟨.inl rfl,rfl,.pl _ rfl rfl⟩,⟨.inl rfl,rfl,.pl _ rfl rfl⟩,⟨.inl rfl,rfl,.pl _ rfl rfl⟩,tr⟩).trans rfl)
   rfl rfl rfl g b3 (fun i j _ _ e=>by omega) (fun j _=>⟨by omega,by omega⟩) (by decide) (fun j _=>tQ _ _ _) ⟨⟨.inl rfl,rfl,.pl _ rfl rfl⟩,⟨.inl rfl,rfl,.pl _ rfl rfl⟩,⟨.inl rfl,rfl,.pl _ rfl rfl⟩,⟨.inl rfl,rfl,.pl _ rfl rfl⟩,tr⟩ ?_ tr
   ⟨⟨.inr nofun,rfl,.own 0 190 0 0 rfl⟩,tr⟩ rfl (by decide) ?_ fun t u _ _ B=>?_
  .intro x hx;simp at hx;rcases hx with rfl|rfl|rfl|rfl<;>exact .inl rfl
  .intro x hx;obtain rfl:=z8.1 hx;exact⟨by omega,by decide,fun j _=>by omega,rfl⟩
  exact⟨(0,t,u,[]),⟨zB _,zB _,rfl,fun c d=>⟨(B c d).1,(B c d).2 0 190 rfl⟩⟩,by simp,rfl⟩
 rintro⟨i,t,u,E⟩ ⟨b4,a1,a2,hT⟩ c d N V;dsimp only at b4 a1 a2 hT V⊢;obtain⟨s,hH,hZ⟩:=hT c d;generalize mkF 0 c none t 0=H at*;generalize mkF 0 d 0 u 0=Z at*;refine jC rfl (fun e=>?_) (fun e=>?_)
 .rw[ad]at e;have a:i<R:=by omega
  have w1:=wS (n:=i);have b5:=oI (l:=rs) (i:=i) (by omega)
  have e8:nsT T i<=1000000:=by
   grind[nsT,zof]
  have b6:(lots.map aa)[i]?=some (aa (lots.getD i 0)):=by
   have:=(Jk U).eq;grind
  have b7:=(s.2.2 i a).1;rw[clo,eE]at b7;have e9:m0 T rs lots (i+1)=E++Zh i (lots.getD i 0) (zlS T rs i) (nsT T i+1):=by grind[m0]
  have g0:zof T i++[⟨(rl rs i).length,(rl rs i).length⟩]=zlS T rs i:=rfl;generalize zlS T rs i=W at*;generalize rl rs i=r at*;refine jX i rfl rfl b5 rfl (gg rfl (aA i rfl ((km (by decide)).trans s.1) rfl rfl rfl a ?_));simp only[zC];refine gg rfl (aQ rfl ((km (by decide)).trans s.1) (e:=.ref (5+i) 0 (nsT T i)) (by grind) rfl ?_);refine gg rfl (bI (es:=(zof T i).map Zone.enc) (new:=[Zone.enc ⟨r.length,r.length⟩]) rfl ((km (show 5+i<198 by omega)).trans ?_) rfl rfl rfl rfl (by simp[nsT]) ?_ ?_ ?_)
  .rw[upd_ne (by omega),upd_ne (by omega),upd_ne (by omega)];trivial
  .refine zR (vD (bef_z (show 5+i<198 by omega))) ?_;rw[upd_ne (by omega),upd_ne (by omega),(s.2.2 i a).2];simp
  grind[zof,aK]
  have g1:(Gd.bef 1023 13).z 198 (upd (upd Z 194 0) 207 0) (5+i)=0:=by
   rw[bef_z (show 5+i<198 by omega),upd_ne (by omega),upd_ne (by omega)];exact(s.2.2 i a).2
  have hD:=(((((s.upd (x:=194) (v:=some (.row [.agg [.str ⟨#[]⟩,.int .i64 0,.int .i64 0,.int .i64 0,.int .i64 0,.int .i64 0,.nilsl]] 7)) (by decide) (by omega)).upd (x:=194) (v:=some (.row [r.enc] 7)) (by decide) (by omega)).upd (x:=207) (v:=some (.row [Zone.enc ⟨r.length,r.length⟩] 2)) (by decide) (by omega)).updz (x:=194) (v:=0) (by decide) (by omega)).updz (x:=207) (v:=0) (by decide) (by omega)).drop a (X:=208) (v:=some (.row ((zof T i).map Zone.enc++[Zone.enc ⟨r.length,r.length⟩]) 2)) (w:=(Gd.bef 1023 13).z 198 (upd (upd Z 194 0) 207 0) (5+i)) (by decide) (by omega) (by decide);refine gg rfl ?_
  refine rJ (S:=fun x:Nat×RU×List Nat×List Rst×Int=>(.ref 0 0 R::([ints lots,aa i,.int .i64 x.2.2.2.2,rolls rs,aa R,aa i,aa (nsT T i+1:Nat),aa x.1]++(List.replicate 6 .bad++([.ref 15 0 x.2.2.2.1.length,.ref 16 0 (nsT T i+1)]++[]))),x.2.1,x.2.2.1))
   (C:=fun x=>x.1<=nsT T i+1/\x.2.2.2.1.length<=i*2000000+x.1/\x.2.2.2.1=E++Zh i (lots.getD i 0) W x.1/\x.2.2.2.2=frT W x.1/\∀c d,TabG R 0 (fun j=>9+j) (nsT T) (clo T (i+1)) (mkF 0 c none x.2.1 0) (mkF 0 d 0 x.2.2.1 0)/\mkF 0 c none x.2.1 0 15=some (.row (x.2.2.2.1.map Rst.enc) 4)/\mkF 0 d 0 x.2.2.1 0 15=0/\mkF 0 c none x.2.1 0 16=some (.row ((zof T i).map Zone.enc++[Zone.enc ⟨r.length,r.length⟩]) 2))
   (m:=fun x=>nsT T i+1-x.1) (nsT T i+1) (by omega) ?_ ?_
  .refine Eb (lots:=lots) (rs:=rs) (R:=R) (tb:=0) (ids:=fun j=>5+j) (i:=i) (j:=0) (n:=nsT T i+1) (n':=nsT T i+1) (nr:=E.length) (o1:=11) (o2:=208) (fv:=0) rfl g hD (fun i j _ _ e=>by omega) (fun j _=>by omega) (fun j _=>tQ _ _ _) (by decide) ⟨by decide,fun j _=>by omega,?_⟩ ⟨by decide,fun j _=>by omega,?_⟩ fun t u _ _ B=>?_
   .rw[upd_ne (by omega),upd_ne (by omega),upd_ne (by omega),upd_ne (by omega),upd_ne (by omega),hH];exact ae eA _
   .show List.all _ _=true;simp[qf]
   refine⟨(0,t,u,E,0),⟨zB _,zR a1 (Nat.le_add_right _ _),(yI _).symm,rfl,fun c d=>?_⟩,by simp,rfl⟩;obtain⟨f1,f2,f3,f4⟩:=B c d;grind[upd_same,upd_ne]
  have g3:((zof T i).map Zone.enc++[Zone.enc ⟨r.length,r.length⟩]).length=nsT T i+1:=by simp[nsT]
  rintro⟨j,b8,b9,rl,fv⟩ ⟨c0,a3,c3,c4,a4⟩ a5 a6 N2 p;dsimp only at c0 a3 c3 c4 a4 p⊢;obtain⟨J,K,L,h⟩:=a4 a5 a6;generalize mkF 0 a5 none b8 0=H2 at*;generalize mkF 0 a6 0 b9 0=Z2 at*;refine jC rfl (fun Y=>?_) (fun Y=>?_)
  .rw[ad]at Y;have f:j<nsT T i+1:=by omega
   have w2:=wS (n:=j)
   obtain⟨o,c5,g4⟩:∃o:Zone,((zof T i).map Zone.enc++[Zone.enc ⟨r.length,r.length⟩])[j]?=some o.enc/\zn W j=o:=⟨zn W j,by
    rw[show(zof T i).map Zone.enc++[Zone.enc ⟨r.length,r.length⟩]=W.map Zone.enc by grind]
    grind[Az],rfl⟩
   refine gg rfl (aA j rfl h rfl rfl rfl f ?_);simp only[zC];refine gg rfl (aQ rfl h c5 rfl (jC rfl (fun e3=>?_) (fun e3=>?_)))
   .refine jX i rfl rfl b6 rfl (gg rfl (bI (es:=rl.map Rst.enc) (new:=[Rst.enc ⟨i,lots.getD i 0,fv,o.lo⟩]) rfl ((km (by decide)).trans ?_) rfl rfl rfl rfl (by simp) ?_ ?_ ?_))
    trivial
    .exact zR (vD L) (zB _)
    grind[aK];refine gE rfl ?_;have c6:(Gd.bef 2047 13).z 220 (upd (upd Z2 214 0) 230 0) 15=0:=L;have M:=(((((((J.upd (x:=214) (v:=some (.row [Zone.enc ⟨0,0⟩] 2)) (by decide) (by omega)).upd (x:=214) (v:=some (.row [o.enc] 2)) (by decide) (by omega)).upd (x:=230) (v:=some (.row [Rst.enc ⟨i,lots.getD i 0,fv,o.lo⟩] 4)) (by decide) (by omega)).upd (x:=15) (v:=none) (by decide) (by omega)).upd (x:=231) (v:=some (.row (rl.map Rst.enc++[Rst.enc ⟨i,lots.getD i 0,fv,o.lo⟩]) 4)) (by decide) (by omega)).updz (x:=214) (v:=0) (by decide) (by omega)).updz (x:=230) (v:=0) (by decide) (by omega)).updz (x:=231) (v:=(Gd.bef 2047 13).z 220 (upd (upd Z2 214 0) 230 0) 15) (by decide) (by omega);refine p (Eb (lots:=lots) (rs:=rs) (R:=R) (tb:=0) (ids:=fun j=>9+j) (i:=i) (j:=j+1) (n:=nsT T i+1) (n':=nsT T i+1) (nr:=rl.length+1) (o1:=231) (o2:=16) (fv:=o.hi) (by rw[<-w2];rfl) g M (fun i j _ _ e=>by omega) (fun j _=>by omega) (fun j _=>tQ _ _ _) (by decide) ⟨by decide,fun j _=>by omega,?_⟩ ⟨by decide,fun j _=>by omega,?_⟩ fun t u _ _ B=>?_)
    .show List.all _ _=true;simp[eA]
    .refine Eq.trans (zX aI h) ?_;show List.all _ _=true;simp[qf]
    refine⟨(j+1,t,u,rl++[⟨i,lots.getD i 0,fv,o.lo⟩],o.hi),⟨f,by grind,by simp_all[Zh,ad],by grind[frT],fun c d=>?_⟩,by omega,by simp⟩;obtain⟨f1,f2,f3,f4⟩:=B c d;refine⟨f1,f2.trans ((upd_same _ _ _).trans (by simp)),f3.trans ((upd_same _ _ _).trans c6),f4.trans h⟩
   refine gE rfl ?_;have M:=((J.upd (x:=214) (v:=some (.row [Zone.enc ⟨0,0⟩] 2)) (by decide) (by omega)).upd (x:=214) (v:=some (.row [o.enc] 2)) (by decide) (by omega)).updz (x:=214) (v:=0) (by decide) (by omega);refine p (Eb (lots:=lots) (rs:=rs) (R:=R) (tb:=0) (ids:=fun j=>9+j) (i:=i) (j:=j+1) (n:=nsT T i+1) (n':=nsT T i+1) (nr:=rl.length) (o1:=15) (o2:=16) (fv:=o.hi) (by rw[<-w2];rfl) g M (fun i j _ _ e=>by omega) (fun j _=>by omega) (fun j _=>tQ _ _ _) (by decide) ⟨by decide,fun j _=>by omega,?_⟩ ⟨by decide,fun j _=>by omega,?_⟩ fun t u _ _ B=>?_)
   .refine Eq.trans (zX aI K) (ae eA _)
   .refine Eq.trans (zX aI h) ?_;show List.all _ _=true;simp[qf]
   refine⟨(j+1,t,u,rl,o.hi),⟨f,by grind,by simp_all[Zh,af],by grind[frT],fun c d=>?_⟩,by omega,rfl⟩;obtain⟨f1,f2,f3,f4⟩:=B c d;exact⟨f1,f2.trans K,f3.trans L,f4.trans h⟩
  refine gE rfl (gE rfl (V (restO (lots:=lots) (rs:=rs) (R:=R) (tb:=0) (ids:=fun j=>9+j) (i:=i+1) (nr:=rl.length) (o1:=15) (by rw[<-w1];rfl) g J (fun i j _ _ e=>by omega) (fun j _=>by omega) (fun j _=>tQ _ _ _) ⟨by decide,fun j _=>by omega,Eq.trans (zX aI K) (ae eA _)⟩ fun t u _ _ B=>?_)));refine⟨(i+1,t,u,rl),⟨a,by grind,by grind[af],fun c d=>?_⟩,by omega,rfl⟩;obtain⟨f1,f2,f3⟩:=B c d;grind
 obtain⟨H0,rfl⟩:=PJ hH;refine gE rfl (gg rfl (bt rfl rfl rfl ⟨bK (by simp) (bF Xj _),tr⟩ ?_));rw[a2,show i=R by grind[af]];simp[zZ]
theorem SN (m:Mkr)(Q:List Ply)(rs:List RollS)(lots:List Int)(a:rs.length<=6)(b:kY rs lots.length=0)(h:∀r∈rs,RollB r)(i:Q.length<=40)(c:∀y∈Q,y.parts.length<=1000)(e:∀y∈Q,∀q∈y.parts,gl q rs=true)(f:ChI (cy Q))(g:(cy Q).length<=1000000):
 ∃d,PU 8 [di m Q,rolls rs,ints lots]=some d/\∃l,d=.tup [.lst l,.int .i64 0]:=
 ⟨_,R6 m Q rs lots a b h i c e f g,_,rfl⟩
structure LayB (m:Mkr)(ps:Fv)(rs:List RollS)(lots:List Int)(Q:List Ply):Prop where
 clo:gy m ps rs lots.length=0
 lay:LayOK m ps rs lots Q
 q40:Q.length<=40
 r6:rs.length<=6
 rb:∀r∈rs,RollB r
section
variable {m:Mkr}{ps:Fv}{rs:List RollS}{lots:List Int}{Q:List Ply}
theorem LayB.cl (h:LayB m ps rs lots Q):∀y∈Q,∀q∈y.parts,gl q rs=true:=by
 intro y a q b;obtain⟨i,hi,rfl⟩:=ze.1 b;rw[<-oS hi];exact((h.lay.pl y a).1.el i hi).1.cl
theorem LayB.p20 (h:LayB m ps rs lots Q):∀y∈Q,y.parts.length<=1000:=fun y a=>by have:=(h.lay.pl y a).2;omega
theorem J7 {n:Nat}:∀{Q:List Ply},(∀y∈Q,y.parts.length<=n)->(cy Q).length<=Q.length*n
 |[],_=>by simp[cy]
 |y::Q,h=>by
  have b:=J7 fun x a=>h x (zG y a);grind[cy,Nat.succ_mul]
theorem LayB.tl (h:LayB m ps rs lots Q):(cy Q).length<=1000000:=by
 have:=J7 h.p20;have:=h.q40;omega
theorem Y9 (h:LayB m ps rs lots Q):PU 25 [di m Q,aY ps,rolls rs,ints lots]=some (.int .i64 0):=by
 have b:=sR h.clo;have c:=(o6 b.ext).2.2.1;refine PS rfl (jA rfl (HQ m ps rs lots (by omega) h.rb) ?_);rw[h.clo];refine gg rfl (aj (by show D.bool (nqb 0 0)=_;simp[aE]) ?_);refine gg rfl (aj (by show D.bool (ltb 40 _)=_;rw[af.2 (by rw[zA];have:=h.q40;omega)]) ?_);refine gg rfl ?_;rw[zA];have l:=h.q40;refine aw (S:=fun k:Nat=>([aY ps,rolls rs,ints lots,.ptr 3 0 0,.lst (Q.map Ply.enc),aa Q.length,aa k],none::none::none::some (.row [di m Q] 7)::nn3,zz7)) (C:=fun k=>k<=Q.length) (m:=fun k=>Q.length-k) 0 (zB _) (by omega) ?_ ?_
 .exact ah rfl ⟨rfl,tr⟩ rfl
 intro k d N f;refine jC rfl (fun e=>?_) (fun e=>?_)
 .rw[ad]at e;have a:k<Q.length:=by omega
  have g:=wS (n:=k);have i:(Q.map Ply.enc)[k]?=some Q[k].enc:=by grind
  have j:=h.lay.pl _ (zE a);generalize Q[k]=y at*;refine jX k rfl rfl i rfl (jA rfl (SQ m ps rs lots y (by omega) b.rol.eq (by omega)) ?_);rw[ply_ok b j.1];refine gg rfl (aj (by show D.bool (nqb 0 0)=_;simp[aE]) ?_);exact gE rfl (f (k+1) a (by omega) (ah rfl ⟨rfl,tr⟩ (by rw[g];rfl)))
 refine gE rfl (gg rfl (cf rfl rfl (Lo rs.length h.r6 m Q rs rfl (by omega) h.p20 h.cl h.lay.ch h.tl ?_)));intro h' z' _;exact gg rfl (aj rfl (jZ rfl))
structure CutP where
 ply:Int
 place:Int
 lot:Int
 size:Int
 rolls:List Int
 hit:Bool
def CutP.enc (c:CutP):D:=.agg [.int .i64 c.ply,.int .i64 c.place,.int .i64 c.lot,.int .i64 c.size,ints c.rolls,.bool c.hit]
def dL (Q:List Ply)(k:Nat):Ply:=Q.getD k ⟨0,[]⟩
structure PlaB (m:Mkr)(ps:Fv):Prop where
 len:ps.length=m.places.length
 gar:∀p∈m.places,0<=p.garment/\p.garment<m.sizes.length
end
def kR {α β:Type} [DecidableEq α]:List (α×β)->α->β->List (α×β)
 |[],a,v=>[(a,v)]
 |x::M,a,v=>if a=x.1 then(x.1,v)::M else x::kR M a v
def gL {α β:Type} [DecidableEq α]:List (α×β)->α->Option β
 |[],_=>none
 |x::M,a=>if a=x.1 then some x.2 else gL M a
theorem Fh {α β:Type} [DecidableEq α](a b:α)(v:β):∀M:List (α×β),gL (kR M a v) b=if b=a then some v else gL M b
 |[]=>by rfl
 |x::M=>by
  rw[kR];split
  grind[gL]
  .rw[gL,Fh a b v M,gL];grind
def mpV {α β:Type}(enc:α->D)(ev:β->D)(M:List (α×β)):Option Blk:=some (.mp (M.map fun x=>enc x.1) (M.map fun x=>ev x.2))
section
variable {T:Tab}{sh:Shr}{nx0:Nat}{s:List Fr}{t:ai}{h:ab}{z:Frz}{nx:Nat}{q:Ex->ai->ab->Frz->Nat->Prop}
variable {base i:Nat}{res:List Nat}{g:Gd}{rest:List KOper}
theorem CQ {α β:Type} [DecidableEq α]{e:EqK}{enc:α->D}(K:KeyE e enc)(ev:β->D)(a:α)(v:β):∀(M:List (α×β)) (n:Nat),
 (∃i w,iD e (enc a) (M.map fun x=>enc x.1) n=some (some (n+i))/\((kR M a v).map fun x=>enc x.1)=(M.map fun x=>enc x.1)/\((kR M a v).map fun x=>ev x.2)=(M.map fun x=>ev x.2).set i (ev v)/\(M.map fun x=>ev x.2)[i]?=some (ev w)/\gL M a=some w)\/
 (iD e (enc a) (M.map fun x=>enc x.1) n=some none/\kR M a v=M++[(a,v)]/\gL M a=none)
 |[],n=> .inr ⟨rfl,rfl,rfl⟩
 |x::M,n=>by
  rw[zg,zg,iD,K.eq,kR,gL];by_cases h:a=x.1
  simp_all
  .rw[yS h,vd h,vd h];rcases CQ K ev a v M (n+1)with⟨i,w,h1,b,h3,d,c⟩ |⟨h1,b,h3⟩
   .refine .inl ⟨i+1,w,?_,?_,?_,?_,c⟩;grind;grind;grind;grind
   grind
theorem Vh {α β:Type} [DecidableEq α]{e:EqK}{enc:α->D}(K:KeyE e enc)(ev:β->D){x f:X}{k:D}{b id:Nat}(M:List (α×β))(a:α)(l:x.ev t=.mref id)(n:g.h base h id=mpV enc ev M)(d:f.ev t=enc a)
 (c:wpM T sh nx0 (.ops base res rest::s) .normal (upd t b (match gL M a with|some w=> .tup [ev w,.bool true] |none=> .tup [k,.bool false])) h z nx q):
 wpM T sh nx0 (.ops base res (⟨i,some b,none,g,.lookup e k x f true⟩::rest)::s) .normal t h z nx q:=by
 refine bP ?_;simp only[kop,r7,l,n,qs,d,kf];refine⟨K.ok a,?_⟩
 cases M with
 |nil=>exact⟨_,rfl,c⟩
 |cons m M=>
 rcases CQ K ev a m.2 (m::M) 0 with⟨j,w,h1,o,h3,r,p⟩ |⟨h1,o,h3⟩
 .rw[p]at c;refine⟨_,h1,?_⟩;exact nD (x:=ev w) (by grind) c
 rw[h3]at c;exact⟨_,h1,c⟩
theorem atPutV {α β:Type} [DecidableEq α]{e:EqK}{enc:α->D}(K:KeyE e enc)(ev:β->D){d f vx:X}{b:Option Nat}{id:Nat}(M:List (α×β))(a:α)(v:β)(l:d.ev t=.mref id)(k:g.h base h id=mpV enc ev M)(m:g.z base z id=0)(c:f.ev t=enc a)(n:vx.ev t=ev v)
 (o:wpM T sh nx0 (.ops base res rest::s) .normal (put t b (.tup [])) (upd h id (mpV enc ev (kR M a v))) z nx q):
 wpM T sh nx0 (.ops base res (⟨i,b,none,g,.mapset e d f vx⟩::rest)::s) .normal t h z nx q:=by
 refine bP ?_;unfold mpV at k o;simp[kop,qJ,l,k,c,m,kf];refine⟨K.ok a,?_⟩;rcases CQ K ev a v M 0 with⟨j,w,h1,p,h3,r,u⟩ |⟨h1,p,h3⟩
 grind;grind
end
structure Key3 where
 g:Int
 u:Int
 n:Int
 deriving DecidableEq
def Key3.enc (k:Key3):D:=.agg [.int .i64 k.g,.int .i64 k.u,.int .i64 k.n]
def keyOf (p:Plc):Key3:=⟨p.garment,p.use,p.copy⟩
theorem Oi:KeyE (.flat [.int,.int,.int]) Key3.enc where
 ok:=fun a=>rfl
 eq:=fun a b=>by
  have:mq (.flat [.int,.int,.int]) (Key3.enc a) (Key3.enc b)=some (eqb a.g b.g&&(eqb a.u b.u&&(eqb a.n b.n&&true))):=rfl;rw[this];congr 1;cases a;cases b;rw[zN];simp[eqb]
def mapOf (C:List Plc):Nat->List (Key3×Nat)
 |0=>[]
 |k+1=>kR (mapOf C k) (keyOf (db C k)) k
def jQ (i:Nat)(p:Plc):Put2:=⟨i,⟨false,p.quarter⟩,⟨p.x,p.y⟩⟩
def gI (M:List (Key3×Nat)):List Bool->List Put2->List Plc->List Bool×List Put2×Int
 |sn,ps,[]=>(sn,ps,0)
 |sn,ps,p::r=>match gL M (keyOf p)with
  |none=>([],[],3)
  |some i=>if sn.getD i false=true then([],[],7)else gI M (sn.set i true) (ps++[jQ i p]) r
def om (C:List Plc)(ps:List Put2)(a:List Plc)(k:Nat):Int:=if(db a k).flip=(db C (pu2 ps k).shape.toNat).flip then 0 else 12
def Zm (m:Mkr):Bed:=⟨m.length,m.width,m.rep⟩
def jc (s:Sty)(m:Mkr):List Bool×List Put2×Int:=gI (mapOf (bn s m.sizes).2.1 (bn s m.sizes).2.1.length) (List.replicate (bn s m.sizes).2.1.length false) [] m.places
def gq (s:Sty)(m:Mkr):List Shp×List Put2×Int:=
 if(bn s m.sizes).2.2≠0 then([],[],(bn s m.sizes).2.2)
 else if(jc s m).2.2≠0 then([],[],(jc s m).2.2)
 else if 0<=rG (jc s m).1 false then([],[],20)
 else if orF ((List.range m.places.length).map (om (bn s m.sizes).2.1 (jc s m).2.1 m.places))≠0 then([],[],12)
 else if oQ eD (Zm m) (bn s m.sizes).1 (jc s m).2.1≠0 then([],[],oQ eD (Zm m) (bn s m.sizes).1 (jc s m).2.1)
 else((bn s m.sizes).1,(jc s m).2.1,0)
theorem DZ (C:List Plc){a:Key3}{i:Nat}:∀k,gL (mapOf C k) a=some i->i<k/\a=keyOf (db C i)
 |0,h=>by trivial
 |k+1,h=>by
  rw[mapOf,Fh]at h;split at h
  grind
  .have:=DZ C k h;grind
theorem CG (M:List (Key3×Nat)):(M.map fun x=>aP x.2).all (plain 4)=true:=ae (f:=fun x:Key3×Nat=>aP x.2) (fun _=>rfl) _
def HA (x:List Shp×List Put2×Int):D:=.tup [cq x.1,cW x.2.1,.int .i64 x.2.2]
theorem Xp (s:Sty)(m:Mkr)(hB:StyB s)(K:m.sizes.length<=100000)(a6:m.places.length<=1000)(hn:(bn s m.sizes).1.length<=60):PU 58 [s.enc,m.enc]=some (HA (gq s m)):=by
 refine PS rfl (gg rfl (cf rfl rfl (TM m.enc rfl s m.sizes hB K (HasB.of ⟨⟨rfl,rfl⟩,tr⟩) (fun H a7 t h' z' v=>?_) (fun H h' z' v=>?_))))
 .unfold gq;rw[ve H];simp at t;rcases t with rfl|rfl|rfl|rfl|rfl
  all_goals
   refine jC rfl (fun e=>?_) (fun e=>absurd (aE.1 e) H);exact jZ rfl
 have a8:=DE H;unfold gq jc;rw[eE];generalize (bn s m.sizes).1=S at*;generalize (bn s m.sizes).2.1=C at*;obtain⟨⟨h1,rfl⟩,z1,rfl⟩:=v;refine jC rfl (fun e=>absurd (aO.1 e) (by simp)) (fun _=>?_);refine gg rfl (aw (S:=fun k:Nat=>([.ptr 0 0 0,.ref 1 0 S.length,.ref 2 0 C.length,.mref 3,.ref 2 0 C.length,aa C.length,aa k],some (.row [m.enc] 6)::some (.row (S.map Shp.enc) 5)::some (.row (C.map Plc.enc) 7)::mpV Key3.enc aP (mapOf C k)::nn3,zz7)) (C:=fun k=>k<=C.length) (m:=fun k=>C.length-k) 0 (zB _) (by omega) ?_ ?_)
 .refine pJ (o:=[.p _,.p _,.p _,.p [],.p _]) (kp:=([.ptr 0 0 0,.ref 1 0 S.length,.ref 2 0 C.length,.mref 3,.ref 2 0 C.length,aa C.length,aa 0],some (.row [m.enc] 6)::some (.row (S.map Shp.enc) 5)::some (.row (C.map Plc.enc) 7)::some (.mp [] [])::nn3,zz7)) [none,none,none,none] rfl ?_ ?_
  .exact⟨rfl,ae jr _,ae dF _,rfl,ae dF _,tr⟩
  rfl
 intro k Y N g;refine jC rfl (fun e=>?_) (fun e=>?_)
 .rw[ad]at e;have c:k<C.length:=by omega
  have I:=wS (n:=k);have wg:C[k]?=some (db C k):=by grind[ZC]
  have L:mapOf C (k+1)=kR (mapOf C k) (keyOf (db C k)) k:=rfl;generalize mapOf C k=M at*;generalize db C k=p at*;refine gg rfl (aA k rfl rfl rfl rfl rfl c (cb (enc:=Plc.enc) C k p rfl (zC _) (fun _=>rfl) rfl wg (jA rfl (Mv p) (gg rfl (atPutV Oi aP M (keyOf p) k rfl rfl rfl rfl rfl ?_)))));rw[<-L];generalize O:mapOf C (k+1)=P at*;refine gE rfl (g (k+1) c (by omega) ?_);refine pJ (o:=[.p _,.p _,.p _,.p (P.map fun x=>aP x.2),.p _]) (kp:=([.ptr 0 0 0,.ref 1 0 S.length,.ref 2 0 C.length,.mref 3,.ref 2 0 C.length,aa C.length,.int .i64 (IntKind.i64.wrap ((k:Int)+1))],some (.row [m.enc] 6)::some (.row (S.map Shp.enc) 5)::some (.row (C.map Plc.enc) 7)::some (.mp (P.map fun x=>Key3.enc x.1) (P.map fun x=>aP x.2))::nn3,zz7)) [none,none,none,none] rfl ?_ ?_
  .exact⟨rfl,ae jr _,ae dF _,CG _,ae dF _,tr⟩
  rw[I,O];rfl
 rw[af]at e;obtain rfl:k=C.length:=by omega
 clear g;have Z:=fun(a:Key3) (i:Nat)=>DZ C (a:=a) (i:=i) C.length;generalize mapOf C C.length=M at*;refine gE rfl (gg rfl (eu C.length rfl rfl rfl (by grind[aK]) ?_));rw[show List.replicate C.length (D.bool false)=(List.replicate C.length false).map D.bool by simp];refine gg rfl ?_;rw[zA];have Q:(List.replicate C.length false).length=C.length:=by simp
 generalize List.replicate C.length false=j at*;generalize hG:gI M j [] m.places=G at*;obtain⟨R,d,ge⟩:=G;dsimp only
 refine aw (S:=fun x:Nat×List Bool×List Put2=>([.ptr 0 0 0,.ref 1 0 S.length,.ref 2 0 C.length,.mref 3,.ref 4 0 C.length,.ref 5 0 x.2.2.length,dA m.places,aa m.places.length,aa x.1],some (.row [m.enc] 6)::some (.row (S.map Shp.enc) 5)::some (.row (C.map Plc.enc) 7)::mpV Key3.enc aP M::some (.row (x.2.1.map D.bool) 1)::some (.row (x.2.2.map Put2.enc) 5)::nn3,zz9))
  (C:=fun x=>x.1<=m.places.length/\x.2.1.length=C.length/\x.2.2.length=x.1/\gI M x.2.1 x.2.2 (m.places.drop x.1)=(R,d,ge)/\∀p∈x.2.2,0<=p.shape/\p.shape<C.length) (m:=fun x=>m.places.length-x.1) (0,j,[]) ⟨zB _,Q,rfl,hG,by simp⟩ (by omega) ?_ ?_
 .refine pJ (o:=[.p _,.p _,.p _,.p _,.p _,.p []]) (kp:=([.ptr 0 0 0,.ref 1 0 S.length,.ref 2 0 C.length,.mref 3,.ref 4 0 C.length,.ref 5 0 0,dA m.places,aa m.places.length,aa 0],some (.row [m.enc] 6)::some (.row (S.map Shp.enc) 5)::some (.row (C.map Plc.enc) 7)::mpV Key3.enc aP M::some (.row (j.map D.bool) 1)::some (.row [] 5)::nn3,zz9)) [none,none,none,none,none] rfl ?_ ?_
  .exact⟨rfl,ae jr _,ae dF _,CG _,ae (fun _=>rfl) _,rfl,tr⟩
  rfl
 rintro⟨k,sn,ps⟩ ⟨Y,T,h,b,w⟩ N g;dsimp only at Y T h b w g⊢;refine jC rfl (fun U=>?_) (fun U=>?_)
 .rw[ad]at U;have c:k<m.places.length:=by omega
  have I:=wS (n:=k);have V:=q6 c;rw[zz c,<-ZC c,gI]at b;generalize db m.places k=p at*;refine jX k rfl rfl V rfl (jA rfl (Mv p) (gg rfl (Vh Oi aP M (keyOf p) rfl rfl rfl ?_)))
  cases W:gL M (keyOf p)with
  |none=>
   rw[W]at b;cases b;refine gg rfl (ak rfl (gE rfl (jF rfl ?_)));rfl
  |some i=>
   rw[W]at b;simp only at b⊢;have y:=(Z _ _ W).1;have se:(sn.map D.bool)[i]?=some (.bool (sn.getD i false)):=by grind
   generalize hb:sn.getD i false=bb at*;refine gg rfl (aj rfl (gg rfl (aA i rfl rfl rfl rfl rfl y (gg rfl (aQ rfl rfl (by rw[zC];omega) rfl ?_)))));refine jC rfl (fun J=>?_) (fun J=>?_)
   .rw[ve J]at b;cases b;refine gE rfl (jF rfl ?_);rfl
   rw[vd (by grind)]at b;refine gg rfl (aA i rfl rfl rfl rfl rfl y (gg rfl (dq (es:=sn.map D.bool) (e':=.bool true) rfl rfl rfl (zB _) (by rw[zC];omega) rfl ?_)));rw[zC i,show(sn.map D.bool).set i (.bool true)=(sn.set i true).map D.bool by simp];have z:(sn.set i true).length=C.length:=by grind
   generalize sn.set i true=A at*;refine gg rfl (bI rfl rfl rfl rfl rfl rfl (by simp) (zB _) (by grind[aK]) ?_);refine gE rfl (g (k+1,A,ps++[jQ i p]) ⟨c,z,by grind,b,?_⟩ (by omega) ?_);grind[jQ]
   .refine pJ (o:=[.p _,.p _,.p _,.p _,.p _,.p (ps.map Put2.enc++[(jQ i p).enc])]) (kp:=([.ptr 0 0 0,.ref 1 0 S.length,.ref 2 0 C.length,.mref 3,.ref 4 0 C.length,.ref 5 0 (ps.length+1),dA m.places,aa m.places.length,.int .i64 (IntKind.i64.wrap ((k:Int)+1))],some (.row [m.enc] 6)::some (.row (S.map Shp.enc) 5)::some (.row (C.map Plc.enc) 7)::mpV Key3.enc aP M::some (.row (A.map D.bool) 1)::some (.row (ps.map Put2.enc++[(jQ i p).enc]) 5)::nn3,zz9)) [none,none,none,none,none] rfl ?_ ?_
    .exact⟨rfl,ae jr _,ae dF _,CG _,ae (fun _=>rfl) _,by show(ps.map Put2.enc++[(jQ i p).enc]).all (plain 4)=true;simp[ZF],tr⟩
    grind[aa]
 rw[af]at U;obtain rfl:k=m.places.length:=by omega
 rw[xA,gI]at b;cases b;clear g;rw[vd (by simp)];refine gE rfl (gg rfl ?_);have a1:=h;clear hG Z;refine gk (r:=.bool (decide (0<=rG R false))) rfl rfl ⟨bK (by grind) (bF (fun _=>rfl) _),tr⟩ (by rw[bZ (by grind)];exact Tv R false (by omega)) rfl ?_;refine jC rfl (fun J=>?_) (fun J=>?_)
 .rw[ve (by grind)];exact jZ rfl
 rw[vd (by grind)];refine gg rfl ?_;rw[zA]
 refine aw (S:=fun k:Nat=>([.ptr 0 0 0,.ref 1 0 S.length,.ref 2 0 C.length,.ref 3 0 d.length,dA m.places,aa m.places.length,aa k],some (.row [m.enc] 6)::some (.row (S.map Shp.enc) 5)::some (.row (C.map Plc.enc) 7)::some (.row (d.map Put2.enc) 5)::nn3,zz7))
  (C:=fun k=>k<=m.places.length/\orF ((List.range k).map (om C d m.places))=0) (m:=fun k=>m.places.length-k) 0 ⟨zB _,rfl⟩ (by omega) ?_ ?_
 .exact ah rfl ⟨rfl,ae jr _,ae dF _,ae ZF _,tr⟩ rfl
 intro k ⟨b1,ho⟩ N g;refine jC rfl (fun X=>?_) (fun X=>?_)
 .rw[ad]at X;have c:k<m.places.length:=by omega
  have I:=wS (n:=k);have V:=q6 c;have b2:=D8 (f:=om C d m.places) c ho;have B:=Da (f:=om C d m.places) ho;have ue:=nW (l:=d) (i:=k) (by omega);have b3:=w (pu2 d k) (by grind[kC]);have hE:om C d m.places k=if(db m.places k).flip=(db C (pu2 d k).shape.toNat).flip then 0 else 12:=rfl
  generalize om C d m.places k=E at*;generalize pu2 d k=u at*;obtain⟨i,hi⟩:∃i:Nat,u.shape=i:=⟨u.shape.toNat,by omega⟩;have ce:=q6 (l:=C) (i:=i) (by omega);refine jX k rfl rfl V rfl (gg rfl (aA k rfl rfl rfl rfl rfl (by omega) ?_));refine gg rfl (aQ rfl rfl (by rw[zC];omega) rfl ?_);refine aA i rfl rfl rfl rfl hi (by omega) ?_;refine gg rfl (aQ rfl rfl (by rw[zC];omega) rfl ?_);refine jC rfl (fun q=>?_) (fun q=>?_)
  .have F:E=12:=by grind
   rw[rA];exact gE rfl (jZ rfl)
  have F:E=0:=by grind
  exact gE rfl (g (k+1) ⟨c,B F⟩ (by omega) (ah rfl ⟨rfl,ae jr _,ae dF _,ae ZF _,tr⟩ (by rw[I];rfl)))
 rw[af]at X;obtain rfl:k=m.places.length:=by omega
 rw[eE];have a4:=Zd eD lS (Zm m) S d;generalize oQ eD (Zm m) S d=ce at*;refine gE rfl (gg rfl (gk (r:=.int .i64 ce) rfl rfl ⟨bK (by simp) (bF B6 _),bK (by simp) (bF ZI _),tr⟩ (by rw[bZ (by simp),bZ (by simp)];trivial) rfl ?_));refine jC rfl (fun q=>?_) (fun q=>?_)
 .rw[aO]at q;rw[ve q];exact jZ rfl
 rw[aE]at q;rw[eE];refine gg rfl (cS rfl rfl rfl ⟨bK (by simp) (bF B6 _),bK (by simp) (bF ZI _),tr⟩ ?_);rw[bZ (by simp),bZ (by simp)];rfl
def mU (S:List Shp)(p:Put2):Int:=(bu S p).2
def lP (S:List Shp)(p:Put2):Rp:=(bu S p).1
def lR (s:Sty)(m:Mkr):Fv×Int:=
 if(gq s m).2.2≠0 then([],(gq s m).2.2)
 else if orF ((gq s m).2.1.map (mU (gq s m).1))≠0 then([],orF ((gq s m).2.1.map (mU (gq s m).1)))
 else((gq s m).2.1.map (lP (gq s m).1),0)
def M5 (x:Fv×Int):D:=.tup [aY x.1,.int .i64 x.2]
theorem MZ {M:List (Key3×Nat)}:∀{l:List Plc} {sn:List Bool} {ps:List Put2},(gI M sn ps l).2.1.length<=ps.length+l.length
 |[],sn,ps=>by simp[gI]
 |p::l,sn,ps=>by
  rw[gI];split
  simp
  .split
   simp
   .have:=MZ (M:=M) (l:=l) (sn:=sn.set ‹Nat› true) (ps:=ps++[jQ ‹Nat› p]);grind
theorem NG (s:Sty)(m:Mkr):(gq s m).2.1.length<=m.places.length:=by
 unfold gq;grind[MZ,jc]
theorem L2 (s:Sty)(m:Mkr)(t:StyB s)(i:m.sizes.length<=100000)(j:m.places.length<=1000)(u:(bn s m.sizes).1.length<=60):PU 22 [s.enc,m.enc]=some (M5 (lR s m)):=by
 have b:=Xp s m t i j u;have r:=NG s m;unfold lR;generalize gq s m=A at*;obtain⟨S,ps,y⟩:=A;dsimp only at*;simp only[HA]at b;refine PS rfl (jA rfl b (jC rfl (fun e=>?_) (fun e=>?_)))
 .rw[aO]at e;rw[ve e];exact jZ rfl
 rw[aE]at e;rw[eE];refine gg rfl ?_;rw[zA];refine aw (S:=fun k:Nat=>([cq S,.ref 1 0 k,cW ps,aa ps.length,aa k],none::some (.row ((ps.take k).map fun p=>ac (lP S p)) 1)::nn3,zz5)) (C:=fun k=>k<=ps.length/\orF ((ps.take k).map (mU S))=0) (m:=fun k=>ps.length-k) 0 ⟨zB _,rfl⟩ (by omega) ?_ ?_
 .exact ah rfl ⟨rfl,tr⟩ rfl
 intro k ⟨z,l⟩ N v;refine jC rfl (fun o=>?_) (fun o=>?_)
 .rw[ad]at o;have a:k<ps.length:=by omega
  have w:=wS (n:=k);have x:=nW a;have c:=qg (f:=mU S) a l;have d:=uk (f:=mU S) a l
  have q:(ps.take (k+1)).map (fun p=>ac (lP S p))=(ps.take k).map (fun p=>ac (lP S p))++[ac (lP S (pu2 ps k))]:=by
   grind[List.take_succ_eq_append_getElem,kC]
  rw[<-kC a]at c d;generalize pu2 ps k=p at*;have h:=mL S p;have h1:mU S p=(bu S p).2:=rfl;rw[h1]at c d;refine jX k rfl rfl x rfl (jA rfl h (jC rfl (fun g=>?_) (fun g=>?_)))
  .rw[aO]at g;rw[c,vd g,ve g];exact gE rfl (jZ rfl)
  rw[aE]at g;refine gg rfl (bI rfl rfl rfl rfl rfl rfl (by grind) (zB _) (by grind[aK]) ?_);refine gE rfl (v (k+1) ⟨a,d g⟩ (by omega) ?_);rw[q];refine ah rfl ⟨?_,tr⟩ ?_
  .rw[zY,ae (f:=fun p=>ac (lP S p)) (fun _=>rfl)];rfl
  rw[w];rfl
 rw[af]at o;obtain rfl:k=ps.length:=by omega
 rw[zH]at l;rw[eE,zH];refine gE rfl (gg rfl (cS rfl rfl rfl ⟨bK (by simp) (bF (f:=fun p=>ac (lP S p)) (fun _=>rfl) _),tr⟩ ?_));simp[bZ,M5,aY]
section
variable {m:Mkr}{ps:Fv}{rs:List RollS}{lots:List Int}{Q:List Ply}
end
def lnN (l:List Edge)(k:Nat):Nat:=((l.map fun e=>e.line.length).getD k 0)
def kE (l:List Edge):Nat->Int
 |0=>0
 |k+1=>kE l k+min ((lnN l k:Nat):Int) 20
def jD (p:Piece):Bool:=decide (24<kE p.edges (min p.edges.length 17)) ||(decide (16<p.edges.length) ||decide (16<p.notches.length))
def fy (l:List Use):Nat->Int
 |0=>0
 |k+1=>fy l k+min (max (us l k).count 0) 9
def oG (s:Sty)(g:Int):Bool:=
 if 4<s.pieces.length\/4<s.uses.length\/4<s.sizes.length\/4<s.mults.length\/6<s.seams.length\/8<s.ops.length\/g<0\/7<g then false
 else if s.pieces.any jD=true then false else decide (fy s.uses s.uses.length*g<=6)
theorem JE (l:List Edge):∀k,0<=kE l k/\kE l k<=20*k
 |0=>by simp[kE]
 |k+1=>by have:=JE l k;grind[kE]
theorem CH (l:List Use):∀k,0<=fy l k/\fy l k<=9*k
 |0=>by simp[fy]
 |k+1=>by have:=CH l k;grind[fy]
theorem U6 (s:Sty)(g:Int):PU 19 [s.enc,.int .i64 g]=some (.bool (oG s g)):=by
 refine PS rfl ?_
 repeat' (first
  |refine jP rfl ?_
  |refine gr rfl ?_|refine aq rfl ?_|refine au rfl ?_ ?_<;>intro _
  |refine ak rfl ?_|refine aj rfl ?_|refine an rfl ?_ ?_<;>intro _
  |refine aL rfl ?_ ?_<;>intro _
  |refine fI rfl ?_)
 iterate 8
  .simp only[ad,af,zA]at*;rw[oG,rA]
 simp only[af,zA]at*;have F:oG s g=if s.pieces.any jD=true then false else decide (fy s.uses s.uses.length*g<=6):=by rw[oG,eE]
 rw[F];refine aw (S:=fun k:Nat=>([.int .i64 g,.ptr 1 0 0,aa k],[none,some (.row [s.enc] 7),none],zz3)) (C:=fun k=>k<=s.pieces.length/\(s.pieces.take k).any jD=false) (m:=fun k=>s.pieces.length-k) 0 ⟨zB _,rfl⟩ (by omega) ?_ ?_
 .exact ah rfl ⟨rfl,tr⟩ rfl
 intro k ⟨G,H⟩ N w;refine gg rfl ?_;rw[zA];refine an rfl (fun e=>?_) (fun e=>?_)
 .rw[ad]at e;have a:k<s.pieces.length:=by omega
  have x:=wS (n:=k);have r:=jL (f:=jD) a H;have c:=jO (f:=jD) a;have y:=qF a;rw[<-E5 a]at r c;generalize pc s.pieces k=p at*;refine gg rfl (aw (S:=fun j:Nat=>([.int .i64 g,.ptr 1 0 0,aa k,.int .i64 (kE p.edges j),aa j],none::some (.row [s.enc] 7)::nn3,zz5)) (C:=fun j=>j<=min p.edges.length 17) (m:=fun j=>min p.edges.length 17-j) 0 (zB _) (by omega) ?_ ?_)
  .exact ah rfl ⟨rfl,tr⟩ rfl
  intro j t O z;refine jX k rfl rfl y rfl (gg rfl ?_);rw[zA];have d:¬(j<min p.edges.length 17)->j=min p.edges.length 17:=fun h=>by omega
  have u:jD p=(decide (24<kE p.edges (min p.edges.length 17)) ||(decide (16<p.edges.length) ||decide (16<p.notches.length))):=rfl;have l:=JE p.edges j;refine au rfl (fun A=>?_) (fun A=>?_);rw[ad]at A;refine jC rfl (fun B=>?_) (fun B=>?_)
  .rw[ad]at B;have I:=wS (n:=j);have J:(p.edges.map Edge.enc)[j]?=some (p.edges[j]).enc:=by grind
   have K:lnN p.edges j=(p.edges[j]).line.length:=by grind[lnN]
   have i:kE p.edges (j+1)=kE p.edges j+min ((lnN p.edges j:Nat):Int) 20:=rfl;rw[K]at i;refine jX k rfl rfl y rfl (jX j rfl rfl J rfl (gg rfl ?_));rw[zA];refine bo (z (j+1) (by omega) (by omega) (ah rfl ⟨rfl,tr⟩ ?_));rw[i,I,wrap64 (by omega) (by omega)];rfl
  rw[af]at B;have t:=d (by omega);subst t;rotate_left;rw[af]at A;have t:=d (by omega);subst t;refine gg rfl (aj rfl ?_)
  all_goals
   refine gE rfl ?_
   repeat' (first
    |refine jP rfl ?_
    |refine gr rfl ?_|refine aq rfl ?_|refine au rfl ?_ ?_<;>intro _
    |refine ak rfl ?_|refine aj rfl ?_|refine an rfl ?_ ?_<;>intro _
    |refine aL rfl ?_ ?_<;>intro _
    |refine fI rfl ?_
    |refine cg k rfl rfl rfl y rfl ?_)
   .rename_i q;rw[ad]at q;have b:jD p=true:=by rw[u,xD q];rfl
    refine bo (jF rfl ?_);rw[ve (c b)]
   .rename_i q v;rw[ad,zA]at v;have b:jD p=true:=by rw[u,xD (show 16<p.edges.length by omega)];simp
    refine bo (jF rfl ?_);rw[ve (c b)]
   .rename_i q v D;rw[ad,zA]at D;have b:jD p=true:=by rw[u,xD (show 16<p.notches.length by omega)];simp
    refine bo (jF rfl ?_);rw[ve (c b)]
   rename_i q v D;rw[af]at q;rw[af,zA]at v D;have o:jD p=false:=by rw[u,yS (by omega),yS (by omega),yS (by omega)];rfl
   exact bo (w (k+1) ⟨a,r o⟩ (by omega) (ah rfl ⟨rfl,tr⟩ (by rw[x];rfl)))
 rw[af]at e;rw[vd (by grind)];refine gE rfl (gg rfl (aw (S:=fun k:Nat=>([.int .i64 g,.ptr 1 0 0,.int .i64 (fy s.uses k),aa k],none::some (.row [s.enc] 7)::nn2,zz4)) (C:=fun k=>k<=s.uses.length) (m:=fun k=>s.uses.length-k) 0 (zB _) (by omega) ?_ ?_))
 .exact ah rfl ⟨rfl,tr⟩ rfl
 intro k G N w;refine gg rfl ?_;rw[zA];refine an rfl (fun e=>?_) (fun e=>?_)
 .rw[ad]at e;have a:k<s.uses.length:=by omega
  have x:=wS (n:=k);have l:=CH s.uses k;have i:fy s.uses (k+1)=fy s.uses k+min (max (us s.uses k).count 0) 9:=rfl;have L:=s7 a;refine jX k rfl rfl L rfl (gE rfl (w (k+1) a (by omega) (ah rfl ⟨rfl,tr⟩ ?_)));rw[i,x,wrap64 (by omega) (by omega)];rfl
 rw[af]at e;obtain rfl:k=s.uses.length:=by omega
 have l:=CH s.uses s.uses.length
 have E:0<=fy s.uses s.uses.length*g/\fy s.uses s.uses.length*g<=36*7:=by
  refine⟨vI l.1 (by omega),Int.le_trans (wF (show _<=36 by omega) (by omega)) (xO (by omega) (by omega))⟩
 have M:IntKind.i64.wrap (fy s.uses s.uses.length*g)=fy s.uses s.uses.length*g:=wrap64 (Int.le_trans (by decide) E.1) (Int.le_trans E.2 (by decide));refine gE rfl (jF rfl ?_);rw[M,ca]
def lay0:D:=.agg [.int .i64 0,.int .i64 0,.int .i64 0,.int .i64 0,.lst [],.lst [],.lst []]
def mF (r:RollS):Bool:=decide (6<r.flaws.length) ||decide (40<r.id.size)
def oM (rs:List RollS)(lots:List Int):Bool:=if 6<rs.length\/8<lots.length then false else !rs.any mF
theorem Few_PU (rs:List RollS)(lots:List Int):PU 20 [lay0,.lst [],rolls rs,ints lots]=some (.bool (oM rs lots)):=by
 refine PS rfl ?_
 repeat' (first
  |refine jP rfl ?_
  |refine gr rfl ?_|refine aq rfl ?_|refine au rfl ?_ ?_<;>intro _
  |refine ak rfl ?_|refine aj rfl ?_|refine an rfl ?_ ?_<;>intro _
  |refine aL rfl ?_ ?_<;>intro _
  |refine fI rfl ?_)
 iterate 6
  .simp only[ad,af,zA,yf]at*;rw[oM,rA]
 simp[af]at*;have l:oM rs lots=!rs.any mF:=by rw[oM,eE]
 rw[l];refine aw (S:=fun _:Nat=>([.lst [],rolls rs,.ptr 2 0 0,.int .i64 0],[none,none,some (.row [lay0] 7),none],zz4)) (C:=fun _=>True) (m:=fun _=>0) 0 tr (by omega) ?_ ?_
 .exact ah rfl ⟨rfl,tr⟩ rfl
 intro o _ N h;refine jC rfl (fun e=>absurd (ad.1 e) (by simp)) (fun _=>?_);refine gE rfl (gg rfl (aw (S:=fun k:Nat=>([rolls rs,.ptr 1 0 0,aa k],[none,some (.row [lay0] 7),none],zz3)) (C:=fun k=>k<=rs.length/\(rs.take k).any mF=false) (m:=fun k=>rs.length-k) 0 ⟨zB _,rfl⟩ (by omega) ?_ ?_))
 .exact ah rfl ⟨rfl,tr⟩ rfl
 intro k ⟨s,i⟩ N h;refine gg rfl ?_;rw[zA];refine an rfl (fun e=>?_) (fun e=>?_)
 .rw[ad]at e;have a:k<rs.length:=by omega
  have p:=wS (n:=k);have c:=jL (f:=mF) a i;have d:=jO (f:=mF) a;have q:=oI a;rw[<-qL a]at c d;generalize rl rs k=r at*;have t:mF r=(decide (6<r.flaws.length) ||decide (40<r.id.size)):=rfl
  repeat' (first
   |refine jP rfl ?_
   |refine gr rfl ?_|refine aq rfl ?_|refine au rfl ?_ ?_<;>intro _
   |refine ak rfl ?_|refine aj rfl ?_|refine an rfl ?_ ?_<;>intro _
   |refine aL rfl ?_ ?_<;>intro _
   |refine fI rfl ?_
   |refine cg k rfl rfl rfl q rfl ?_)
  .rename_i g;rw[ad,zA]at g;refine bo (jF rfl ?_);grind
  .rename_i g j;rw[ad]at j;refine bo (jF rfl ?_);grind
  rename_i g j;rw[af,zA]at g;rw[af]at j;have b:mF r=false:=by grind
  exact bo (h (k+1) ⟨a,c b⟩ (by omega) (ah rfl ⟨rfl,tr⟩ (by rw[p];rfl)))
 rw[af]at e;obtain rfl:k=rs.length:=by omega
 rw[zH]at i;rw[i];refine gE rfl (gg rfl (aw (S:=fun _:Nat=>([.ptr 0 0 0,.int .i64 0],[some (.row [lay0] 7),none],[0,0])) (C:=fun _=>True) (m:=fun _=>0) 0 tr (by omega) ?_ ?_))
 .exact ah rfl ⟨rfl,tr⟩ rfl
 intro o _ N h;refine jC rfl (fun e=>absurd (ad.1 e) (by simp)) (fun _=>?_);exact gE rfl (jZ rfl)
structure StyQ (s:Sty):Prop where
 size:∀x∈s.sizes,x.size<=140737488355328
 corners:∀p∈s.pieces,p.corners.length<=140737488355328
 widths:∀p∈s.pieces,p.widths.length<=140737488355328
structure RolQ (r:RollS):Prop where
 fl:∀f∈r.flaws,-9223372036854775808<=f.x/\f.x<=9223372036854775807/\ -9223372036854775808<=f.y/\f.y<=9223372036854775807
theorem SU {s:Sty}(a:StyQ s){g:Int}(h:oG s g=true):StyB s/\s.uses.length<=4/\fy s.uses s.uses.length*g<=6/\g<=7:=by
 unfold oG at h;split at h
 grind;split at h
 grind;refine⟨⟨by omega,a.size,by omega,by omega,by omega,by omega,by omega,a.corners,a.widths,fun p b=>?_⟩,by omega,by grind,by omega⟩;grind[jD]
theorem few_B {rs:List RollS}{lots:List Int}(a:∀r∈rs,RolQ r)(h:oM rs lots=true):(∀r∈rs,RollB r)/\rs.length<=6/\lots.length<=8:=by
 unfold oM at h;split at h
 grind;refine⟨fun r hr=>⟨?_,(a r hr).fl⟩,by omega,by omega⟩;grind[mF]
theorem FH {l:List Use}(h:∀u∈l,1<=u.count/\u.count<=4):∀k,k<=l.length->fy l k=(iS l k).length
 |0,_=>rfl
 |k+1,a=>by
  have b:=h (us l k) (by grind[qz]);rw[fy,FH h k (by omega),iS,zL];grind[gW]
theorem WJ {s:Sty}{sizes:List Int}(h:fy s.uses s.uses.length*(sizes.length:Int)<=6):(bn s sizes).1.length<=6:=by
 unfold bn;split
 simp;rename_i h1
 iterate 4 (split;exact zB _)
 have a:=lX (s:=s) (by omega);rw[FH (fun u b=>(a.use u b).2.2) _ (zD _)]at h;rw[zA,A9,dV,vd h1];omega
theorem Cm:∀{l:List Int} {s:Int},iH l s=true->0<=s->s<=40->∀{m:Mkr} {ps:Fv} {rs:List RollS} {lots:List Int} {k:Nat} {Q b:List Ply},(Q.length:Int)=s->gB m ps rs lots l k Q=some b->b.length<=40
 |[],s,h,_,c,m,ps,rs,lots,k,Q,b,d,a=>by cases a;omega
 |n::l,s,h,h0,c,m,ps,rs,lots,k,Q,b,d,a=>by
  rw[iH]at h;split at h
  grind;rw[gB]at a;split at a
  .exact Cm h (by omega) (by omega) (by omega) a
  split at a
  grind
  .rename_i f e;exact Cm h (by omega) (by omega) (by rw[layNs_len e];omega) a
where
 layNs_len {len:Int} {ps:Fv} {b:Int}:∀{j:Nat} {R:List Rst} {off:Nat} {Q a:List Ply},lJ len ps b j R off Q=some a->a.length=Q.length+j
  |0,R,off,Q,a,h=>by cases h;rfl
  |j+1,R,off,Q,a,h=>by
   rw[lJ]at h;split at h
   .have:=layNs_len h;grind
   grind
def Zn (l:List Int)(s:Int):Int:=l.foldl (fun a x=>IntKind.i64.wrap (a+x)) s
theorem qOj {len:Int}{ps:Fv}{b:Int}:∀{j:Nat} {R:List Rst} {off:Nat} {Q a:List Ply},lJ len ps b j R off Q=some a->a.length=Q.length+j
 |0,R,off,Q,a,h=>by cases h;rfl
 |j+1,R,off,Q,a,h=>by
  rw[lJ]at h;split at h
  .have:=qOj h;grind
  grind
theorem qOk:∀{l:List Int} {s:Int},iH l s=true->0<=s->s<=40->Zn l s=s+l.sum/\∀{m:Mkr} {ps:Fv} {rs:List RollS} {lots:List Int} {k:Nat} {Q b:List Ply},(Q.length:Int)=s->gB m ps rs lots l k Q=some b->(b.length:Int)=s+l.sum
 |[],s,h,_,a=>⟨by simp[Zn],fun d c=>by cases c;grind⟩
 |n::l,s,h,h0,a=>by
  rw[iH]at h;split at h
  grind;obtain⟨e,f⟩:=qOk (l:=l) (s:=s+n) h (by omega) (by omega);grind[Zn,wrap64,gB,qOj]
structure LaidF (s:Sty)(b:Bed)(sizes:List Int)(rs:List RollS)(lots:List Int)(m:Mkr)(ps:Fv)(Q:List Ply):Prop where
 styB:StyB s
 gar:sizes.length<=7
 n6:(bn s sizes).1.length<=6
 msz:m.sizes=sizes
 mpl:m.places.length<=6
 bld:∃d,PU 21 [s.enc,b.enc,ints sizes]=some d/\EN s b sizes d/\d=.tup [m.enc,.int .i64 0]
 pol:lR s m=(ps,0)
 lay:LayB m ps rs lots Q
 q8:Q.length<=8
def jv (s:Sty)(b:Bed)(sizes:List Int):D:=.agg (s.enc.cells++(b.enc.cells++[ints sizes]))
def jl (rs:List RollS)(lots a:List Int):D:=.agg [rolls rs,ints lots,ints a]
def DH (s:Sty)(b:Bed)(sizes:List Int)(rs:List RollS)(lots a:List Int)(d:D):Prop:=∃(m:Mkr) (ps:Fv) (Q:List Ply) (ok:Bool),d=.tup [di m Q,aY ps,.bool ok]/\(ok=true->LaidF s b sizes rs lots m ps Q)
theorem XW (s:Sty)(b:Bed)(sizes:List Int)(rs:List RollS)(lots a:List Int)(T:StyQ s)(hr:∀r∈rs,RolQ r):∃d,PU 5 [jv s b sizes,jl rs lots a]=some d/\DH s b sizes rs lots a d:=by
 have c:∀d,d=.tup [di o0 [],aY [],.bool false]->DH s b sizes rs lots a d:=fun d A=>⟨o0,[],[],false,A,fun h=>by grind⟩;refine jh rfl (gg rfl ?_);rw[zA];refine aB rfl rfl (U6 s sizes.length) ?_
 repeat' (first
  |refine jP rfl ?_
  |refine gr rfl ?_|refine aq rfl ?_|refine au rfl ?_ ?_<;>intro _
  |refine ak rfl ?_|refine aj rfl ?_|refine an rfl ?_ ?_<;>intro _
  |refine aL rfl ?_ ?_<;>intro _
  |refine fI rfl ?_
  |refine aB rfl rfl (Few_PU rs lots) ?_)
 .exact bt rfl rfl rfl tr (c _ rfl)
 .exact bt rfl rfl rfl tr (c _ rfl)
 .exact bt rfl rfl rfl tr (c _ rfl)
 rename_i U V W;have q:oG s sizes.length=true:=by grind
 have t:oM rs lots=true:=by grind
 rw[af,zA]at V;obtain⟨j,u4,B,X⟩:=SU T q;obtain⟨f,o,Y⟩:=few_B hr t;have D:=WJ B;clear U W q t;refine aw (S:=fun x:Nat×Int=>([.ptr 0 0 0,.ptr 1 0 0,.ptr 2 0 0,.int .i64 x.2,aa x.1],some (.row [jv s b sizes] 12)::some (.row [jl rs lots a] 3)::some (.row [lT] 7)::nn2,zz5)) (C:=fun x=>x.1<=a.length/\x.2=Zn (a.take x.1) 0) (m:=fun x=>a.length-x.1) (0,0) ⟨zB _,rfl⟩ (by omega) ?_ ?_
 .exact ah rfl ⟨rfl,rfl,rfl,tr⟩ rfl
 rintro⟨k,n⟩ ⟨Z,E⟩ N M;dsimp only at Z E M⊢;refine jC rfl (fun e=>?_) (fun e=>?_)
 .rw[ad,zA]at e;have p:k<a.length:=by omega
  have w1:=wS (n:=k);refine jX k rfl rfl (eP p) rfl (jC rfl (fun e4=>?_) (fun e4=>?_))
  .exact gE rfl (gg rfl (bt rfl rfl rfl tr (c _ rfl)))
  exact jX k rfl rfl (eP p) rfl (gE rfl (M (k+1,IntKind.i64.wrap (n+a[k])) ⟨p,by grind[List.take_succ_eq_append_getElem,Zn]⟩ (by omega) (ah rfl ⟨rfl,rfl,rfl,tr⟩ (by rw[w1];rfl))))
 obtain⟨d,u,m,e,rfl,v⟩:=VQ s b sizes j (by omega) (by omega);refine gE rfl (jA rfl u ?_)
 repeat' (first
  |refine jP rfl ?_
  |refine gr rfl ?_|refine aq rfl ?_|refine au rfl ?_ ?_<;>intro _
  |refine ak rfl ?_|refine aj rfl ?_|refine an rfl ?_ ?_<;>intro _
  |refine aL rfl ?_ ?_<;>intro _
  |refine fI rfl ?_)
 .exact bt rfl rfl rfl tr (c _ rfl)
 .exact bt rfl rfl rfl tr (c _ rfl)
 rename_i f1 f2;rw[aE]at f1;obtain⟨b1,pus,b2,b3,b4,b5⟩:=v f1;have a4:=DE b1;have F:m.sizes=sizes:=by rw[b5]
 have G:m.places.length<=6:=by
  grind[AG]
 have H:=L2 s m j (by grind) (by omega) (by grind)
 have I:(lR s m).1.length<=6:=by
  have:=NG s m;unfold lR;grind
 generalize hP:lR s m=P at*;obtain⟨ps,pe⟩:=P;dsimp only at I
 obtain⟨d,J,x,Q,l,g,rfl,K,L⟩:=SH m ps rs lots a f (by omega) (by grind) (by omega) (by omega) (by omega) (fun _=>0) (fun Q w z O=>by
  have R:=Gh w z;have j:LayB m ps rs lots Q:=⟨w,R,O,o,f⟩
  obtain⟨d,h1,l,rfl⟩:=SN m Q rs lots o (by
   grind[gy]) f O j.p20 j.cl R.ch j.tl
  grind)
 refine aB rfl rfl H (jA rfl J ?_)
 have i:∀ok d,d=.tup [di x Q,aY ps,.bool ok]->(ok=true->pe=0/\g=0)->DH s b sizes rs lots a d:=fun ok d A ho=>⟨x,ps,Q,ok,A,fun h=>by
  obtain⟨rfl,rfl⟩:=ho h;obtain⟨rfl,z⟩:=L rfl;obtain⟨w,a8,_⟩:=K.1 rfl
  have y:iH a 0=true:=by
   grind[px]
  exact⟨j,by omega,D,F,G,⟨_,u,⟨_,_,rfl,v⟩,by rw[f1]⟩,hP,⟨w,Gh w z,Cm y (xL _) (by decide) (Q:=[]) rfl z,o,f⟩,by
   obtain⟨o1,o2⟩:=qOk y (xL _) (by decide)
   grind[af]⟩⟩
 repeat' (first
  |refine jP rfl ?_
  |refine gr rfl ?_|refine aq rfl ?_|refine au rfl ?_ ?_<;>intro _
  |refine ak rfl ?_|refine aj rfl ?_|refine an rfl ?_ ?_<;>intro _
  |refine aL rfl ?_ ?_<;>intro _
  |refine fI rfl ?_)
 .rename_i h1;rw[co]at h1;refine bt rfl rfl rfl tr (i _ _ rfl fun h=>⟨h1,co.1 h⟩)
 exact bt rfl rfl rfl tr (i _ _ rfl fun h=>by grind)
end Go.F
namespace Go.F
theorem rU {sh:Sh}{α:Type}{enc:α->D}{Q:α->Prop}(h:∀x,HasC sh x->∃a,mkD sh x=enc a/\Q a){c:Hm}(e:HasC (.sl sh) c):∃l:List α,c=[.lst (l.map enc)]/\(∀a∈l,Q a)/\l.length<=reachBytes:=by
 cases e with
 |sl _ es _ f hr=>
  have key:∀es:List Hm,(∀x∈es,HasC sh x)->∃l:List α,es.map (mkD sh)=l.map enc/\(∀a∈l,Q a)/\l.length=es.length:=by
   intro es
   induction es with
   |nil=>simp
   |cons x es g=>
    intro d;obtain⟨l,h1,i,h3⟩:=g fun y j=>d y (zG _ j);obtain⟨a,k,m⟩:=h x (d x (zO ..));refine⟨a::l,by grind,fun b n=>?_,by grind⟩;grind
  obtain⟨l,h1,i,h3⟩:=key es f;grind
theorem Ti {x:Hm}(h:HasC Dd x):∃n:Piece,mkD Dd x=n.enc/\n.corners.length<=reachBytes/\n.widths.length<=reachBytes:=by
 obtain⟨B,C,rfl,h1,b⟩:=bp h;obtain⟨E,F,rfl,c,d⟩:=bp b;obtain⟨G,H,rfl,h3,f⟩:=bp d;obtain⟨I,J,rfl,g,i⟩:=bp f;obtain⟨K,L,rfl,j,k⟩:=bp i;obtain⟨M,N,rfl,l,m⟩:=bp k;obtain⟨O,P,rfl,o,p⟩:=bp m;obtain⟨q,rfl,_⟩:=tI h1;obtain⟨r,rfl,_⟩:=mb (fun _ a=>QR a) c;obtain⟨t,rfl,_⟩:=dp h3;obtain⟨u,rfl,_⟩:=mb (fun _ a=>SK a) g;obtain⟨v,rfl,_,w⟩:=rU (enc:=Spot.enc) (Q:=fun _=>True) (fun _ a=>by obtain⟨s,e,_⟩:=DG a;grind) j;obtain⟨y,rfl,_,z⟩:=rU (enc:=aa) (Q:=fun _=>True) (fun _ a=>by simp_all[sv]) l;obtain⟨A,rfl⟩:=B2 o;obtain rfl:=gY p;exact⟨⟨q,r,t,u,v,y,A⟩,rfl,w,z⟩
theorem W1 {x:Hm}(h:HasC OL x):∃n:Sty,x=n.enc.cells/\StyQ n:=by
 obtain⟨E,F,rfl,h1,d⟩:=bp h;obtain⟨G,H,rfl,e,f⟩:=bp d;obtain⟨I,J,rfl,h3,g⟩:=bp f;obtain⟨K,L,rfl,i,j⟩:=bp g;obtain⟨M,N,rfl,k,l⟩:=bp j;obtain⟨O,P,rfl,m,o⟩:=bp l;obtain⟨R,S,rfl,q,r⟩:=bp o;obtain⟨t,rfl,_⟩:=tI h1;obtain⟨u,rfl,v,_⟩:=rU (enc:=D.str) (Q:=fun s=>s.size<=reachBytes) (fun _ a=>by cases a with|str s _ hr=>exact⟨s,rfl,hr⟩) e;obtain⟨w,rfl,_⟩:=mb (fun _ a=>sv a) h3;obtain⟨y,rfl,c,_⟩:=rU (fun _ a=>Ti a) i;obtain⟨z,rfl,_⟩:=mb (fun _ a=>VL a) k;obtain⟨A,rfl,_⟩:=mb (fun _ a=>Yf a) m;obtain⟨B,rfl,_⟩:=mb (fun _ a=>PT a) q;obtain rfl:=gY r;exact⟨⟨t,u,w,y,z,A,B⟩,rfl,⟨fun s C=>zR (v s C) (by decide),fun p b=>zR (c p b).1 (by decide),fun p b=>zR (c p b).2 (by decide)⟩⟩
def shBed:Sh:=.st [.int .i64,.int .i64,.st [.int .i64,.int .i64]]
def shTone:Sh:=.st [.int .i64,.int .i64,.int .i64]
def EP:Sh:=.st [.str,.int .i64,.int .i64,shTone,.sl CY]
def rt:Sh:=.st [OL,shBed,mW]
def rR:Sh:=.st [.sl EP,mW,mW]
theorem XE {x:Hm}(h:HasC (.st [.int .i64,.int .i64]) x):∃a b:Int,x=[.int .i64 a,.int .i64 b]:=by
 obtain⟨s,_,e,_⟩:=DG h;grind
theorem WX {x:Hm}(h:HasC shBed x):∃b:Bed,x=b.enc.cells:=by
 obtain⟨j,k,rfl,h1,c⟩:=bp h;obtain⟨l,m,rfl,d,e⟩:=bp c;obtain⟨n,o,rfl,h3,f⟩:=bp e;obtain⟨g,rfl,_⟩:=dp h1;obtain⟨i,rfl,_⟩:=dp d;obtain⟨a,b,rfl⟩:=XE h3;obtain rfl:=gY f;exact⟨⟨g,i,⟨a,b⟩⟩,rfl⟩
theorem Tr {x:Hm}(h:HasC CY x):∃r:Rect,mkD CY x=r.enc/\(-9223372036854775808<=r.x/\r.x<=9223372036854775807/\ -9223372036854775808<=r.y/\r.y<=9223372036854775807):=by
 obtain⟨o,p,rfl,h1,e⟩:=bp h;obtain⟨q,s,rfl,f,g⟩:=bp e;obtain⟨t,u,rfl,h3,i⟩:=bp g;obtain⟨v,w,rfl,j,k⟩:=bp i;obtain⟨a,rfl,l,m⟩:=dp h1;obtain⟨b,rfl,n,b2⟩:=dp f;obtain⟨c,rfl,_⟩:=dp h3;obtain⟨d,rfl,_⟩:=dp j;obtain rfl:=gY k;exact⟨⟨a,b,c,d⟩,rfl,l,m,n,b2⟩
theorem Xw {x:Hm}(h:HasC EP x):∃r:RollS,mkD EP x=r.enc/\RolQ r:=by
 obtain⟨w,y,rfl,h1,a⟩:=bp h;obtain⟨z,A,rfl,b,c⟩:=bp a;obtain⟨B,C,rfl,h3,d⟩:=bp c;obtain⟨E,F,rfl,e,f⟩:=bp d;obtain⟨G,H,rfl,g,i⟩:=bp f;obtain⟨j,rfl,_⟩:=tI h1;obtain⟨k,rfl,_⟩:=dp b;obtain⟨l,rfl,_⟩:=dp h3;obtain⟨t1,I,rfl,m,l1⟩:=bp e;obtain⟨t2,J,rfl,n,l2⟩:=bp l1;obtain⟨t3,K,rfl,o,p⟩:=bp l2;obtain⟨s,rfl,_⟩:=dp m;obtain⟨t,rfl,_⟩:=dp n;obtain⟨u,rfl,_⟩:=dp o;obtain rfl:=gY p;obtain⟨fl,rfl,q,_⟩:=rU (fun _ v=>Tr v) g;obtain rfl:=gY i;exact⟨⟨j,k,l,s,t,u,fl⟩,rfl,⟨q⟩⟩
theorem DV {x:Hm}(h:HasC mW x):∃l:List Int,x=[ints l]:=by
 obtain⟨l,rfl,_⟩:=mb (fun _ a=>sv a) h;exact⟨l,rfl⟩
theorem dec_case {x:Hm}(h:HasC rt x):∃(s:Sty) (b:Bed) (sizes:List Int),mkD rt x=jv s b sizes/\StyQ s:=by
 obtain⟨f,g,rfl,h1,a⟩:=bp h;obtain⟨i,j,rfl,c,d⟩:=bp a;obtain⟨k,m,rfl,h3,e⟩:=bp d;obtain⟨s,rfl,q⟩:=W1 h1;obtain⟨b,rfl⟩:=WX c;obtain⟨l,rfl⟩:=DV h3;obtain rfl:=gY e;exact⟨s,b,l,rfl,q⟩
theorem dec_cloth {x:Hm}(h:HasC rR x):∃(rs:List RollS) (lots a:List Int),mkD rR x=jl rs lots a/\∀r∈rs,RolQ r:=by
 obtain⟨g,i,rfl,h1,b⟩:=bp h;obtain⟨j,k,rfl,c,d⟩:=bp b;obtain⟨m,n,rfl,h3,e⟩:=bp d;obtain⟨rs,rfl,q,_⟩:=rU (fun _ f=>Xw f) h1;obtain⟨l,rfl⟩:=DV c;obtain⟨p,rfl⟩:=DV h3;obtain rfl:=gY e;exact⟨rs,l,p,rfl,q⟩
theorem Qs {lo:Rat}:∀(r:List (Int×Rat)) (s:Int) (c:Rat),r.Pairwise (fun a b=>b.2<=a.2)->(∀e∈r,e.2<=c/\lo<=e.2)->lo<=c->
 (∀y,y<c->s+upS y r=0\/s+upS y r= -1)->s+eU r=0-> -(s:Rat) *c-eC r<=c-lo
 |[],s,c,_,_,j,_,k=>by
  have h0:s=0:=by grind[eU]
  subst h0;grind[eC]
 |e::r,s,c,l,g,j,h,k=>by
  have d:=yl.1 l;have m:=g e (by simp)
  have n:=Qs r (s+e.1) e.2 d.2 (fun x i=>⟨d.1 x i,(g x (by grind)).2⟩) m.2 (fun y o=>by
   have:=h y (by grind)
   simp_all[upS,Int.add_assoc]) (by grind[eU])
  have h0:upS e.2 (e::r)=0:=X0 fun x i=>by
   grind
  simp only[eC];by_cases f:e.2<c
  .have h1:=h e.2 f;rw[h0,Int.add_zero]at h1;rcases h1 with rfl|rfl
   grind;grind
  grind
theorem qOX {lo hi:Rat}{l:List (Int×Rat)}(g:∀e∈l,e.2<=hi/\lo<=e.2)(d:lo<=hi)(m:∀y,upS y l=0\/upS y l= -1)(n:eU l=0): -eC l<=hi-lo:=by
 have f:=vV l (fun a b=>decide (b.2<=a.2));have h1:=vZ (le:=fun(a b:Int×Rat)=>decide (b.2<=a.2)) (fun a b c h1 i=>by grind) (fun a b=>by grind) l;generalize l.mergeSort (fun a b=>decide (b.2<=a.2))=j at*;have i:=Qs j 0 hi (h1.imp fun h=>by grind) (fun e k=>g e (f.mem_iff.1 k)) d (fun y _=>by rw[XN f,Int.zero_add];grind) (by grind[PE]);grind[FY]
def O1 (E:List Ed)(z:Int):List (Int×Rat):=(E.filter fun e=>decide (crE e z)).map fun e=>(sgE e,hE e z)
theorem ZT (E F:List Ed)(z:Int):O1 (E++F) z=O1 E z++O1 F z:=by simp[O1]
theorem Mj (z:Int)(y:Rat):∀E:List Ed,upS y (O1 E z)=upW E z y
 |[]=>rfl
 |e::E=>by
  have a:=Mj z y E;rw[C9,<-a];unfold O1 upE;by_cases b:crE e z
  simp_all[upS];grind
theorem qv {e:Ed}(a:su e.1≠su e.2){v:Spot}(h:0<=ay e.1 e.2 v):if sgE e=1 then yQ e (su v)<=(v.y:Rat)else(v.y:Rat)<=yQ e (su v):=by
 have h1:=DW a v;grind
theorem Sn {e:Ed}(a:su e.1≠su e.2){v:Spot}(h:ay e.1 e.2 v<=0):if sgE e=1 then(v.y:Rat)<=yQ e (su v)else yQ e (su v)<=(v.y:Rat):=by
 have h1:=EX a v;grind
theorem Zz {a b u ya yb la lb y l:Rat}(d:a≠b)(e:(a<=u/\u<=b)\/(b<=u/\u<=a))(j:(y-ya) *(b-a)=(yb-ya) *(u-a))(k:(l-la) *(b-a)=(lb-la) *(u-a))(h1:la<=ya)(m:lb<=yb):l<=y:=by
 rcases e with⟨f,g⟩ |⟨f,g⟩
 .have h:0<=(ya-la) *(b-u):=zW (by grind) (by grind);have i:0<=(yb-lb) *(u-a):=zW (by grind) (by grind);have c:0<=(y-l) *(b-a):=by grind
  have:=gK (a:=(y-l) *(b-a)) (b:=b-a) (r:=y-l) (by grind) (by grind) rfl c;grind
 have h:0<=(ya-la) *(u-b):=zW (by grind) (by grind);have i:0<=(yb-lb) *(a-u):=zW (by grind) (by grind);have c:0<=(y-l) *(a-b):=by grind
 have:=gK (a:=(y-l) *(a-b)) (b:=a-b) (r:=y-l) (by grind) (by grind) rfl c;grind
theorem Wq {f:Ed}(h:su f.1≠su f.2):tE f*((su f.2:Rat)-su f.1)=(f.2.y:Rat)-f.1.y:=by
 grind[tE,qS]
theorem yQ_end {f:Ed}(h:su f.1≠su f.2):yQ f (su f.2)=(f.2.y:Rat):=by
 grind[Wq,yQ]
theorem Hp {e f:Ed}(c:su f.1≠su f.2)(h1:yQ e (su f.1)<=(f.1.y:Rat))(d:yQ e (su f.2)<=(f.2.y:Rat)){u:Rat}(g:inQ f u):yQ e u<=yQ f u:=by
 have i:=Wq c;refine Zz (a:=su f.1) (b:=su f.2) (ya:=f.1.y) (yb:=f.2.y) (la:=yQ e (su f.1)) (lb:=yQ e (su f.2)) (fun h=>c (by simp_all)) g ?_ ?_ h1 d;grind[yQ];grind[yQ]
theorem Lg {e f:Ed}(c:su f.1≠su f.2)(h1:(f.1.y:Rat)<=yQ e (su f.1))(d:(f.2.y:Rat)<=yQ e (su f.2)){u:Rat}(g:inQ f u):yQ f u<=yQ e u:=by
 have i:=Wq c;refine Zz (a:=su f.1) (b:=su f.2) (la:=f.1.y) (lb:=f.2.y) (ya:=yQ e (su f.1)) (yb:=yQ e (su f.2)) (fun h=>c (by simp_all)) g ?_ ?_ h1 d;grind[yQ];grind[yQ]
theorem Zp {e f:Ed}{z:Int}(h1:yQ e (z:Rat)<=yQ f (z:Rat))(a:yQ e ((z+1:Int):Rat)<=yQ f ((z+1:Int):Rat)):hE e z<=hE f z:=by
 grind[yE,yQ,hE]
theorem GG {f:Ed}{z:Int}(c:crE f z):inQ f (z:Rat)/\inQ f ((z+1:Int):Rat):=by
 grind[mJ]
def gz (z:Int)(s:Spot):Int:=if z<su s then 1 else 0
theorem qOJ (z:Int)(a b:Spot):eU (O1 [(a,b)] z)=gz z b-gz z a:=by
 unfold O1;by_cases c:crE (a,b) z
 .simp[c,eU];grind[crE,sgE,gz]
 simp[c,eU];grind[crE,gz]
theorem ZW (z:Int)(b:Spot):∀(l:Rp) (a:Spot),eU (O1 (aX a l b) z)=gz z b-gz z a
 |[],a=>qOJ z a b
 |c::l,a=>by
  have e:aX a (c::l) b=[(a,c)]++aX c l b:=rfl;rw[e,ZT,MC,ZW z b l c,qOJ];omega
theorem Tj (z:Int):∀p:Rp,eU (O1 (aH p) z)=0
 |[]=>rfl
 |a::l=>by simp[ZW,aH]
theorem Z3 {p:Rp}{z:Int}{y:Rat}(h:upW (aH p) z y≠0):(∃f∈aH p,crE f z/\y<hE f z)/\∃g∈aH p,crE g z/\hE g z<=y:=by
 rw[<-Mj]at h
 have b:∀e∈O1 (aH p) z,∃f∈aH p,crE f z/\e=(sgE f,hE f z):=fun e a=>by
  unfold O1 at a;grind
 constructor
 .refine xi fun c=>h (X0 fun e a d=>c ?_);grind
 grind[Qw,Tj]
theorem qOn {p q:Rp}{e:Ed}(a:su e.1≠su e.2)(l:∀f∈aH p,0<=ay e.1 e.2 f.1/\0<=ay e.1 e.2 f.2)(m:∀f∈aH q,ay e.1 e.2 f.1<=0/\ay e.1 e.2 f.2<=0)
 (z:Int) (y:Rat):upW (aH p) z y=0\/upW (aH q) z y=0:=by
 refine xi fun o=>?_;rw[not_or]at o;obtain⟨⟨f,f1,f2,f3⟩,g,r,n,x⟩:=Z3 o.1;obtain⟨⟨f',j,b,u⟩,s,k,c,v⟩:=Z3 o.2;by_cases t:sgE e=1
 .have d:=qv a (l g r).1;have h:=qv a (l g r).2;have i:=Sn a (m f' j).1;have b2:=Sn a (m f' j).2;rw[ve t]at d h i b2;have h1:=Zp (Hp (kZ n) d h (GG n).1) (Hp (kZ n) d h (GG n).2);have w:=Zp (Lg (kZ b) i b2 (GG b).1) (Lg (kZ b) i b2 (GG b).2);grind
 have d:=qv a (l f f1).1;have h:=qv a (l f f1).2;have i:=Sn a (m s k).1;have b2:=Sn a (m s k).2;rw[vd t]at d h i b2;have h1:=Zp (Lg (kZ f2) d h (GG f2).1) (Lg (kZ f2) d h (GG f2).2);have w:=Zp (Hp (kZ c) i b2 (GG c).1) (Hp (kZ c) i b2 (GG c).2);grind
theorem qOY {p:Rp}(a:p≠[])(z:Int):O1 (aH p) z=iB p.length (shU p) (shV p) (shT p) z:=by
 unfold O1 iB;rw[Ew a,List.filter_map,yv];rfl
theorem qPf {p:Rp}(a:SepP p)(N:Nat)(b:∀v∈p,0<=su v/\su v<=N):sm (fun k=>eC (O1 (aH p) (k:Int))) N= -16777216*(dJ p:Rat):=by
 have c:p≠[]:=fun h=>by have:=a.pos;grind
 have h:=TS a.smU.toClU 0 N fun j _=>by
  have:=b _ (De a.pos j);exact⟨by show 0<=su (vx p j);omega,by show su (vx p j)<=0+(N:Int);omega⟩
 rw[Ss p p.length (zD _)]at h;rw[py (g:=fun k=>ku p.length (shU p) (shV p) (shT p) (0+(k:Int))) fun k _=>?_,h]
 .rw[Rat.intCast_mul];rfl
 simp_all[qOY,Fu]
theorem Z6 {f:Ed}(e:su f.1≠su f.2)(c d:Rat)(h1:(f.1.y:Rat)<=c*su f.1+d)(g:(f.2.y:Rat)<=c*su f.2+d){u:Rat}(i:inQ f u):yQ f u<=c*u+d:=by
 have j:=Wq e;refine Zz (a:=su f.1) (b:=su f.2) (la:=f.1.y) (lb:=f.2.y) (ya:=c*su f.1+d) (yb:=c*su f.2+d) (fun h=>e (by simp_all)) i ?_ ?_ h1 g;grind;grind[yQ]
theorem qOp {f:Ed}(e:su f.1≠su f.2)(c d:Rat)(h1:c*su f.1+d<=(f.1.y:Rat))(g:c*su f.2+d<=(f.2.y:Rat)){u:Rat}(i:inQ f u):c*u+d<=yQ f u:=by
 have j:=Wq e;refine Zz (a:=su f.1) (b:=su f.2) (ya:=f.1.y) (yb:=f.2.y) (la:=c*su f.1+d) (lb:=c*su f.2+d) (fun h=>e (by simp_all)) i ?_ ?_ h1 g;grind[yQ];grind
def hiZ (W z:Int):Int:=min W z
def loZ (K z:Int):Int:=max 0 (z-K)
def Zq (W K:Int)(v:Spot):Prop:=0<=v.x/\16777216*v.x<=K/\0<=v.y/\v.y<=W
theorem qPg {f:Ed}{W K:Int}(a:su f.1≠su f.2)(h1:Zq W K f.1)(c:Zq W K f.2){z:Int}(b:inQ f (z:Rat)):yQ f (z:Rat)<=(hiZ W z:Rat)/\(loZ K z:Rat)<=yQ f (z:Rat):=by
 obtain⟨j,k,d,e⟩:=h1;obtain⟨l,b2,h,i⟩:=c;have c1:f.1.y<=su f.1/\su f.1-K<=f.1.y:=by grind[su]
 have c2:f.2.y<=su f.2/\su f.2-K<=f.2.y:=by grind[su]
 have m:(f.1.y:Rat)<=W:=by exact_mod_cast e
 have n:(f.2.y:Rat)<=W:=by exact_mod_cast i
 have o:(0:Rat)<=f.1.y:=by exact_mod_cast d
 have p:(0:Rat)<=f.2.y:=by exact_mod_cast h
 have q:(f.1.y:Rat)<=su f.1:=by exact_mod_cast c1.1
 have r:(f.2.y:Rat)<=su f.2:=by exact_mod_cast c2.1
 have s:(su f.1:Rat)-K<=f.1.y:=by exact_mod_cast c1.2
 have t:(su f.2:Rat)-K<=f.2.y:=by exact_mod_cast c2.2
 have u:=Z6 a 0 W (by grind) (by grind) b;have v:=Z6 a 1 0 (by grind) (by grind) b;have w:=qOp a 0 0 (by grind) (by grind) b;have x:=qOp a 1 (-K) (by grind) (by grind) b;constructor;grind[hiZ]
 .unfold loZ;by_cases g:z-K<=0
  .rw[show max 0 (z-K)=0 by omega];grind
  rw[show max 0 (z-K)=z-K by omega,xn];grind
theorem qP0 {f:Ed}{W K:Int}(h1:Zq W K f.1)(a:Zq W K f.2){z:Int}(c:crE f z):
 hE f z<=((hiZ W z+hiZ W (z+1):Int):Rat)/\((loZ K z+loZ K (z+1):Int):Rat)<=hE f z:=by
 obtain⟨b,d⟩:=GG c;have e:=qPg (kZ c) h1 a b;have g:=qPg (kZ c) h1 a d;grind[yE,yQ,hE]
def Zk (ps:Fv):List Ed:=ps.flatMap aH
theorem qOr (z:Int):∀ps:Fv,eC (O1 (Zk ps) z)=(ps.map fun p=>eC (O1 (aH p) z)).sum
 |[]=>rfl
 |p::ps=>by
  show eC (O1 (aH p++Zk ps) z)=_;rw[ZT,Wn,qOr z ps];rfl
theorem ZY (z:Int)(y:Rat):∀ps:Fv,upW (Zk ps) z y=(ps.map fun p=>upW (aH p) z y).sum
 |[]=>rfl
 |p::ps=>by
  show upW (aH p++Zk ps) z y=_;rw[sd,ZY z y ps];rfl
theorem qOK (z:Int):∀ps:Fv,eU (O1 (Zk ps) z)=0
 |[]=>rfl
 |p::ps=>by
  show eU (O1 (aH p++Zk ps) z)=_;rw[ZT,MC,Tj,qOK z ps];rfl
theorem qPi {α:Type}{f:α->Int}:∀l:List α,(∀p∈l,f p=0\/f p= -1)->l.Pairwise (fun p q=>f p=0\/f q=0)->((l.map f).sum=0\/(l.map f).sum= -1)/\((∃p∈l,f p≠0)\/(l.map f).sum=0)
 |[],_,_=>⟨.inl rfl,.inr rfl⟩
 |p::l,h,b=>by
  have a:=yl.1 b;obtain⟨c,d⟩:=qPi l (fun q e=>h q (by grind)) a.2;grind
theorem qPj {W:Int}(a:0<=W):∀N:Nat,sm (fun k=>hiZ W (k:Int)+hiZ W ((k:Int)+1)) N=if(N:Int)<=W then(N:Int) *N else 2*W*N-W*W
 |0=>by rw[rA];rfl
 |N+1=>by
  rw[sm,qPj a N];unfold hiZ;grind
theorem qPk {K:Int}(a:0<=K):∀N:Nat,sm (fun k=>loZ K (k:Int)+loZ K ((k:Int)+1)) N=loZ K N*loZ K N
 |0=>by unfold loZ;rw[show max 0 (((0:Nat):Int)-K)=0 by omega];rfl
 |N+1=>by
  rw[sm,qPk a N];grind[loZ]
theorem sm_le {f g:Nat->Rat}{N:Nat}(h:∀k,k<N->f k<=g k):sm f N<=sm g N:=by
 induction N with
 |zero=>rfl
 |succ n a=>grind[sm]
theorem qOL (f:Nat->Int):∀N,sm (fun k=>(f k:Rat)) N=((sm f N:Int):Rat)
 |0=>rfl
 |N+1=>by rw[sm,qOL f N,sm,Rat.intCast_add]
theorem qOM (N:Nat)(M:Rat){g:Rp->Nat->Rat}{a:Rp->Int}:∀ps:Fv,(∀p∈ps,sm (g p) N= -M*(a p:Rat))->sm (fun k=>(ps.map fun p=>g p k).sum) N= -M*(((ps.map a).sum:Int):Rat)
 |[],_=>by
  simp[sm_zero]
 |p::ps,h=>by
  have h1:=h p (by simp);have b:=qOM N M ps fun q c=>h q (by grind);simp only[zg,List.sum_cons];rw[qP9,h1,b,Rat.intCast_add];grind
theorem qP1 {ps:Fv}{L W:Int}(B:0<=L)(o:0<=W)(c:∀p∈ps,CP p/\∀v∈p,0<=v.x/\v.x<=L/\0<=v.y/\v.y<=W)
 (r:ps.Pairwise fun p q=>∀z y,upW (aH p) z y=0\/upW (aH q) z y=0):(ps.map dJ).sum<=2*L*W:=by
 obtain⟨N,s⟩:∃N:Nat,(N:Int)=16777216*L+W:=⟨(16777216*L+W).toNat,by omega⟩
 have C:∀p∈ps,∀v∈p,Zq W (16777216*L) v:=fun p b v m=>by
  have:=(c p b).2 v m;exact⟨this.1,by omega,this.2.2.1,this.2.2.2⟩
 have h1:=qOM N 16777216 (g:=fun p k=>eC (O1 (aH p) (k:Int))) (a:=dJ) ps fun p b=>qPf (c p b).1.sp N fun v m=>by
  grind[su]
 have t:∀k,k<N-> -(fun k=>(ps.map fun p=>eC (O1 (aH p) (k:Int))).sum) k<=(((hiZ W (k:Int)+hiZ W ((k:Int)+1))-(loZ (16777216*L) (k:Int)+loZ (16777216*L) ((k:Int)+1)):Int):Rat):=fun k D=>by
  simp;rw[<-qOr];have d:loZ (16777216*L) (k:Int)+loZ (16777216*L) ((k:Int)+1)<=hiZ W (k:Int)+hiZ W ((k:Int)+1):=by grind[loZ,hiZ]
  have:=qOX (l:=O1 (Zk ps) (k:Int)) (lo:=((loZ (16777216*L) (k:Int)+loZ (16777216*L) ((k:Int)+1):Int):Rat)) (hi:=((hiZ W (k:Int)+hiZ W ((k:Int)+1):Int):Rat)) (fun e j=>by
   unfold O1 Zk at j;simp only[zy,xE,yc]at j;obtain⟨f,⟨⟨p,b,u⟩,E⟩,rfl⟩:=j;obtain⟨i,hi,rfl⟩:=(fF (c p b).1.sp.pos).1 u
   grind[qP0,De]) (yF.2 d)
   (fun y=>by
     rw[Mj,ZY]
     exact(qPi ps (fun p b=>by
      rcases(c p b).1.sp.wrange (c p b).1.wc (k:Int) y with h|h
      omega
      omega) (r.imp fun h=>h _ _)).1) (qOK _ ps)
  grind
 have h3:=sm_le t;rw[qOL]at h3
 have w:sm (fun k=>hiZ W (k:Int)+hiZ W ((k:Int)+1)-(loZ (16777216*L) (k:Int)+loZ (16777216*L) ((k:Int)+1))) N=2*W*(16777216*L):=by
  have key:∀(f g:Nat->Int) M,sm (fun k=>f k-g k) M=sm f M-sm g M:=fun f g M=>by
   induction M with
   |zero=>rfl
   |succ n F=>grind[sm]
  rw[key,qPj o,qPk (by omega),s];grind[loZ]
 rw[w]at h3
 have A:sm (fun k=> -(ps.map fun p=>eC (O1 (aH p) (k:Int))).sum) N=16777216*(((ps.map dJ).sum:Int):Rat):=by
  have:=Z9 (f:=fun k=>(ps.map fun p=>eC (O1 (aH p) (k:Int))).sum) (n:=N) (-1);grind
 rw[A]at h3
 have G:16777216*(ps.map dJ).sum<=2*W*(16777216*L):=by
  have e:(16777216:Rat) *(((ps.map dJ).sum:Int):Rat)=((16777216*(ps.map dJ).sum:Int):Rat):=by simp
  rw[e]at h3;exact yF.1 h3
 grind
theorem rot3 {p:Rp}(c:4<=p.length){i:Nat}(hi:i<p.length):∃u v w m,vxp p i=u/\vx p i=v/\vx p (i+1)=w/\m≠[]/\
 (∀z y,upW (aH p) z y=upW (aH (u::v::w::m)) z y)/\(∀z y,upW (aH (p.eraseIdx i)) z y=upW (aH (w::(m++[u]))) z y)/\(CP p->CP (u::v::w::m))/\(∀x,x∈u::v::w::m->x∈p):=by
 obtain⟨L,R,e,d,g⟩:=XD hi;generalize vx p i=v at*;subst e;obtain⟨u,w,m,em,f⟩:=qP8 c;obtain⟨a,j,b⟩:=TK (v:=v) em;rw[d]at a b;refine⟨u,v,w,m,a,rfl,b,f,fun z y=>?_,fun z y=>?_,fun h=>?_,fun x k=>?_⟩;grind[C7];grind[C7];grind[CP.rot]
 .have l:x∈w::(m++[u])\/x=v:=by grind
  grind
theorem qPA {u v w:Spot}(h:ay u v w=0)(d:su u≠su v)(p:su v≠su w)(q:su w≠su u)(z:Int)(y:Rat):upW (aH [u,v,w]) z y=0:=by
 have r:yQ (u,v) (su w)=(w.y:Rat):=by
  have:=WW (e:=(u,v)) d w;rw[show ay (u,v).1 (u,v).2 w=0 from h]at this;grind[qS]
 have s:yQ (u,v) (su v)=(v.y:Rat):=yQ_end (f:=(u,v)) d;have t:yQ (u,v) (su u)=(u.y:Rat):=Zt (u,v)
 have l:∀f∈aH [u,v,w],crE f z->hE f z=hE (u,v) z:=fun f m c=>by
  have on:yQ (u,v) (su f.1)=(f.1.y:Rat)/\yQ (u,v) (su f.2)=(f.2.y:Rat):=by
   simp[aH,aX]at m;grind
  obtain⟨g,i⟩:=GG c;have l1:yQ (u,v) (su f.1)<=(f.1.y:Rat):=by grind
  have l2:yQ (u,v) (su f.2)<=(f.2.y:Rat):=by grind
  have j:(f.1.y:Rat)<=yQ (u,v) (su f.1):=by grind
  have k:(f.2.y:Rat)<=yQ (u,v) (su f.2):=by grind
  have a:=Zp (Hp (kZ c) l1 l2 g) (Hp (kZ c) l1 l2 i);have b:=Zp (Lg (kZ c) j k g) (Lg (kZ c) j k i);grind
 rw[<-Mj]
 have n:∀e∈O1 (aH [u,v,w]) z,e.2=hE (u,v) z:=fun e o=>by
  unfold O1 at o;grind
 grind[Qw,Tj,X0]
theorem qOs:∀(n:Nat) (l:Rp),l.length<=n+3->CP l->(∀t∈splitN n l,CP t/\t.length=3)/\∀z y,upW (aH l) z y=((splitN n l).map fun t=>upW (aH t) z y).sum:=by
 have one:∀l:Rp,l.length<=3->CP l->(∀t∈[l],CP t/\t.length=3)/\∀z y,upW (aH l) z y=(([l]).map fun t=>upW (aH t) z y).sum:=fun l K h=>by
  have:=h.sp.n3;grind
 intro n
 induction n with
 |zero=>trivial
 |succ n s=>
  intro l K h;unfold splitN;split
  grind
  .next g=>
   have base:∀i,i<l.length->(l.eraseIdx i).length<=n+3:=fun i hi=>by grind
   split
   .next L=>
    rcases pD (iQ l l.length) l.length with⟨i,hi,c,f⟩ |⟨c,f⟩
    .rw[f,yW];obtain⟨A,B⟩:=s (l.eraseIdx i) (base i hi) (EY h (by omega) hi c);refine⟨A,fun z y=>?_⟩;obtain⟨u,v,w,m,C,D,E,F,G,H,p,I⟩:=rot3 (by omega) hi
     have h0:ay u v w=0:=by
      have:=x7 c;grind[crI,Cv,D7,gt]
     have d:=(p h).sp;have a:=d.nd;have b:∀x∈u::v::w::m,OkS x:=d.ok.ok;simp at a;have f0:=qPA h0 (fun e=>a.1.1 (AF (b u (by simp)) (b v (by simp)) e)) (fun e=>a.2.1.1 (AF (b v (by simp)) (b w (by simp)) e)) (fun e=>a.1.2.1 (AF (b w (by simp)) (b u (by simp)) e).symm) z y;have M:=C3 u w [v] m z y;grind
    omega
   next L=>
   rcases pD (dy l l.length) l.length with⟨i,hi,c,f⟩ |⟨c,f⟩
   .rw[f,yW];obtain⟨A,B⟩:=s (l.eraseIdx i) (base i hi) (Aa h (by omega) hi c);obtain⟨u,v,w,m,C,D,E,F,G,H,p,I⟩:=rot3 (by omega) hi
    have j:s5 l i=[u,v,w]:=by
     grind[s5,Cv,D7,gt]
    rw[j];have d:=p h;have a:=d.sp.nd
    have q:0<ay u v w/\∀x∈m,¬inT u v w x:=by
     unfold dy crI at c;rw[zJ,zT,xH,wu,zH]at c;rw[<-Cv,<-D7,<-gt hi,C,D,E]at c;refine⟨c.1,fun x r k=>?_⟩;rw[<-Mz c.1]at k;have:=c.2 x (I x (by grind));unfold fE at this;simp only[zJ,zT,not_and]at this;simp at a;exact this (fun e=>a.1.2.2 (e▸r)) (fun e=>a.2.1.2 (e▸r)) (fun e=>a.2.2.1 (e▸r)) k
    have o:Cor u v w m:=⟨d.sp,F,q.1⟩;refine⟨fun t J=>?_,fun z y=>?_⟩
    .rcases zP.1 J with rfl|J
     .exact⟨⟨(o.free q.2).sp1,(o.parts d.wc q.2).1⟩,rfl⟩
     grind
    rw[zg,List.sum_cons,<-B,G,H];exact C3 u w [v] m z y
   grind[uN]
theorem qOt {p q:Spot}{b:Rp}:∀{k:Nat},DU p q b k<=0->∀i,i<k->ay p q (pt b i)<=0
 |k+1,h,i,hi=>by
  rw[DU]at h;by_cases e:i=k
  grind[br]
  .exact qOt (p:=p) (q:=q) (b:=b) (k:=k) (by omega) i (by omega)
theorem Vo {a b:Rp}:∀{k:Nat},rS a b k<=0->∃i,i<k/\∀j,j<b.length->ay (pt a i) (nx a i) (pt b j)<=0
 |0,h=>by trivial
 |k+1,h=>by
  rw[rS]at h;by_cases e:rS a b k<=0
  .obtain⟨i,hi,h1⟩:=Vo e;exact⟨i,by omega,h1⟩
  exact⟨k,by omega,fun j c=>qOt (by omega) j c⟩
theorem qON {a:Rp}(h:CP a)(h3:a.length=3){i j:Nat}(hi:i<3)(c:j<3):0<=ay (pt a i) (nx a i) (pt a j):=by
 obtain⟨u,v,w,rfl⟩:∃u v w,a=[u,v,w]:=by
  match a,h3 with
  |[u,v,w],_=>simp
 have b:=h.area;rw[NR]at b;have e:∀k:Nat,k<3->k=0\/k=1\/k=2:=by omega
 unfold ay at b;unfold nx;rcases e i hi with rfl|rfl|rfl<;>rcases e j c with rfl|rfl|rfl<;>simp only[pt,yM,yf,List.getD_cons_zero,List.getD_cons_succ,zC,Nat.reduceAdd,Nat.reduceMod,ay]<;>grind
theorem nx_vx {a:Rp}(i:Nat):nx a i=vx a (i+1):=rfl
theorem qO2 {a b:Rp}(d:CP a)(g:CP b)(h3:a.length=3)(h:rS a b a.length<=0)(z:Int)(y:Rat):upW (aH a) z y=0\/upW (aH b) z y=0:=by
 obtain⟨i,hi,w⟩:=Vo h
 have j:su (pt a i)≠su (nx a i):=fun e=>by
  have c:=d.sp.ok.ok;have p:pt a i∈a:=by grind[pt]
  have q:nx a i∈a:=by grind[nx,pt,List.getElem_mem]
  have e':=AF (c _ p) (c _ q) e;rw[<-gt hi]at e';have:=p9 d.sp.nd d.sp.pos (e'.trans (nx_vx i));grind
 have ev:∀{l:Rp} {k:Nat},0<l.length->∃m,m<l.length/\vx l k=pt l m:=fun{l k} r=>⟨k%l.length,zI _ r,rfl⟩;refine qOn (e:=(pt a i,nx a i)) j (fun f n=>?_) (fun f n=>?_) z y
 .obtain⟨k,s,rfl⟩:=(fF (by omega)).1 n;obtain⟨m,t,u⟩:=ev (l:=a) (k:=k) (by omega);obtain⟨m',o,v⟩:=ev (l:=a) (k:=k+1) (by omega);simp_all[qON]
 obtain⟨k,s,rfl⟩:=(fF g.sp.pos).1 n;obtain⟨m,t,u⟩:=ev (l:=b) (k:=k) g.sp.pos;obtain⟨m',o,v⟩:=ev (l:=b) (k:=k+1) g.sp.pos;grind
theorem qP2 {a b:Rp}(d:CP a)(e:CP b)(h3:a.length=3)(c:b.length=3)(h:nE a b<=0)(z:Int)(y:Rat):upW (aH a) z y=0\/upW (aH b) z y=0:=by
 grind[nE,qO2]
theorem qOu (s:Rp)(l:Fv):∀(c:Int) (k:Nat),qI s l c k<=0->c<=0/\∀j,j<k->nE s (plg l j)<=0
 |c,0,h=>⟨h,fun j a=>absurd a (by omega)⟩
 |c,k+1,h=>by
  rw[qI]at h;obtain⟨h1,b⟩:=qOu s l c k (by omega);grind
theorem WL (l m:Fv):∀(k:Nat),p8 l m k<=0->∀i,i<k->∀j,j<m.length->nE (plg l i) (plg m j)<=0
 |0,_,i,hi=>absurd hi (by omega)
 |k+1,h,i,hi=>by
  obtain⟨h1,a⟩:=qOu _ _ _ _ h;by_cases e:i=k
  grind
  .exact WL l m k h1 i (by omega)
theorem Z5 {α:Type}{f:α->Int}:∀l:List α,(∀a∈l,f a=0)->(l.map f).sum=0
 |[],_=>rfl
 |a::l,h=>by
  rw[zg,List.sum_cons,h a (by simp),Z5 l fun b c=>h b (by grind)];rfl
theorem qP3 {p q:Rp}(f:bE p=0)(g:bE q=0)(h:rY (eD p) (eD q)<=0)(z:Int)(y:Rat):upW (aH (cP p).1) z y=0\/upW (aH (cP q).1) z y=0:=by
 obtain⟨t1,k⟩:=qOs (cP p).1.length (cP p).1 (by omega) (CP.norm f);obtain⟨t2,m⟩:=qOs (cP q).1.length (cP q).1 (by omega) (CP.norm g);refine xi fun d=>?_;rw[not_or,k z y,m z y]at d
 have e:∀l:Fv,(l.map fun t=>upW (aH t) z y).sum≠0->∃t∈l,upW (aH t) z y≠0:=fun l n=>by
  refine xi fun u=>n (Z5 l fun a v=>?_);grind
 obtain⟨a,o,w⟩:=e _ d.1;obtain⟨b,r,b2⟩:=e _ d.2;obtain⟨i,hi,rfl⟩:=ze.1 o;obtain⟨j,s,rfl⟩:=ze.1 r;have c:=WL _ _ _ h i hi j s;grind[eD,fw,qP2]
theorem qPl {p:Rp}(h:bE p=0):dJ (lk p)=(dJ p).natAbs:=by
 have b:=Wk h;have a:=(Na b p.length (zD _)).ar;grind[lk,SP]
theorem qP4 {p:Rp}(h:bE p=0):dJ (cP p).1=(dJ p).natAbs:=by
 unfold cP;grind[rQ,Cx,List.take_append_drop,qPl]
theorem qOO (a b:Rp):∀k,rS a b k<=1
 |0=>by simp[rS]
 |k+1=>by
  rw[rS];have:=qOO a b k;omega
theorem qOP (s:Rp)(l:Fv){c:Int}(a:c<=1):∀k,qI s l c k<=1
 |0=>by trivial
 |k+1=>by
  rw[qI];have:=qOP s l a k;have:=qOO s (plg l k) s.length;grind[nE]
theorem qOw (l m:Fv):∀k,p8 l m k<=1
 |0=>by simp[p8]
 |k+1=>by
  exact qOP _ _ (qOw l m k) _
theorem Q0 {b:Bed}{shs:List Shp}{ps:List Put2}{p:Put2}(h:kg eD b shs ps p=0):
 bE (o4 shs p)=0/\(∀v∈o4 shs p,0<=v.x/\v.x<=b.length/\0<=v.y/\v.y<=b.width)/\∀o∈ps,(bu shs o).2=0->rY (eD (o4 shs o)) (eD (o4 shs p))<=0:=by
 unfold kg at h;split at h
 omega;split at h
 omega
 .have a:=A6 (by omega:(bu shs p).2=0);split at h
  omega;split at h
  omega
  .split at h
   omega
   .rw[<-a.2.2.2.2.2];refine⟨a.1,fun v d=>?_,fun o c h0=>?_⟩;simp_all[mj]
    .have:=rq h o c;unfold qt at this;rw[eE]at this;split at this
     omega
     .rename_i k;rw[(A6 h0).2.2.2.2.2]at k;have:=qOw (eD (o4 shs o)) (eD (bu shs p).1) (eD (o4 shs o)).length;grind[rY]
theorem qPm {b:Bed}{shs:List Shp}{ps:List Put2}(g:fc b=false)(h:oQ eD b shs ps=0):
 ((ps.map fun p=>(dJ (o4 shs p)).natAbs).sum:Int)<=2*b.length*b.width:=by
 unfold oQ at h;split at h
 omega
 have j:∀i (hi:i<ps.length),kg eD b shs (ps.take i) ps[i]=0:=fun i hi=>by
  have:=rq h i (yN.2 hi);grind[pi,kC]
 have f:∀i (hi:i<ps.length),(bu shs ps[i]).2=0:=fun i hi=>by
  grind[kg]
 have d:0<=b.length/\0<=b.width:=by grind[fc]
 have key:=qP1 (ps:=ps.map fun p=>(cP (o4 shs p)).1) d.1 d.2 (fun q k=>by
  grind[List.mem_iff_getElem,Q0,CP.norm,Iv]) (by
  grind[List.pairwise_iff_getElem,Q0,List.mem_take_iff_getElem,qP3])
 have e:(ps.map (dJ∘fun p=>(cP (o4 shs p)).1))=ps.map fun p=>((dJ (o4 shs p)).natAbs:Int):=by
  grind[List.map_congr_left,List.mem_iff_getElem,qP4,Q0]
 have c:∀l:List Put2,((l.map fun p=>(dJ (o4 shs p)).natAbs).sum:Int)=(l.map fun p=>((dJ (o4 shs p)).natAbs:Int)).sum:=fun l=>by
  induction l with
  |nil=>rfl
  |cons a l m=>grind
 grind
attribute [local irreducible] IntKind.wrap wpM
def Zc (rs:List RollS)(P:List Part):Nat->Int
 |0=>0
 |k+1=>IntKind.i64.wrap (Zc rs P k+IntKind.i64.wrap (IntKind.i64.wrap (2*IntKind.i64.wrap ((pa P k).to-(pa P k).from_)) *(rl rs (pa P k).roll.toNat).width))
def IB (rs:List RollS)(P:List Part):Nat->Int
 |0=>0
 |k+1=>if k=0 then IB rs P k else IntKind.i64.wrap (IB rs P k+IntKind.i64.wrap (IntKind.i64.wrap (2*IntKind.i64.wrap (IntKind.i64.wrap (IntKind.i64.wrap ((pa P (k-1)).at_+(pa P (k-1)).to)-(pa P (k-1)).from_)-(pa P k).at_)) *(rl rs (pa P (k-1)).roll.toNat).width))
theorem qPn (y:Ply)(rs:List RollS)(r:y.parts.length<=1000000)(h:∀q∈y.parts,gl q rs=true):
 PU 28 [y.enc,rolls rs]=some (.tup [.int .i64 (Zc rs y.parts y.parts.length),.int .i64 (IB rs y.parts y.parts.length)]):=by
 have b:∀k,k<y.parts.length->0<=(pa y.parts k).roll/\(pa y.parts k).roll.toNat<rs.length:=fun k i=>by
  grind[List.getElem_mem,oS,gl]
 refine PS rfl (gg rfl ?_);rw[zA];refine aw (S:=fun k:Nat=>([rolls rs,.ptr 1 0 0,.int .i64 (Zc rs y.parts k),.int .i64 (IB rs y.parts k),parts y.parts,aa y.parts.length,aa k],none::some (.row [y.enc] 2)::nn5,zz7)) (C:=fun k=>k<=y.parts.length) (m:=fun k=>y.parts.length-k) 0 (zB _) (by omega) ?_ ?_
 .exact ah rfl ⟨rfl,tr⟩ rfl
 intro k i N f;refine jC rfl (fun e=>?_) (fun e=>?_)
 .rw[ad]at e;have a:k<y.parts.length:=by omega
  have g:=wS (n:=k);obtain⟨s,j⟩:=b k a;refine jX k rfl rfl (nv a) rfl (jX (pa y.parts k).roll.toNat rfl (by omega) (oI j) rfl ?_);refine jC rfl (fun l=>?_) (fun l=>?_)
  .have c:0<k:=by grind[ad]
   have d:k-1<y.parts.length:=by omega
   have o:IntKind.i64.wrap ((k:Int)-1)=((k-1:Nat):Int):=wrap64 (by omega) (by omega) |>.trans (by omega)
   obtain⟨t,p⟩:=b (k-1) d;refine gg rfl ?_;rw[o];refine cg (k-1) rfl rfl rfl (nv d) rfl (jX (pa y.parts (k-1)).roll.toNat rfl (by omega) (oI p) rfl ?_);refine gE rfl (f (k+1) a (by omega) (ah rfl ⟨rfl,tr⟩ (by rw[g,IB,eE];rfl)))
  have c:k=0:=by grind[af]
  refine gE rfl (f (k+1) a (by omega) (ah rfl ⟨rfl,tr⟩ (by rw[g,IB,ve c];rfl)))
 rw[af]at e;obtain rfl:k=y.parts.length:=by omega
 exact gE rfl (jZ rfl)
structure Beside (ps:Fv)(w:Int):Prop where
 ck:∀p∈ps,bE p=0
 lo:∀p∈ps,0<=(bD p).y
 ge:∀p∈ps,0<=(bD p).h
 hi:∀p∈ps,(bD p).y+(bD p).h<=w
 ap:∀i,i<ps.length->∀j,j<i->rY (eD (plg ps i)) (eD (plg ps j))<=0
 w1:w<=1048576
theorem qO5 (ps:Fv)(w:Int)(v:ps.length<=1000)(h:Beside ps w):PU 26 [aY ps,.int .i64 w]=some (.int .i64 0):=by
 refine PS rfl (gg rfl ?_);rw[zA];refine aw (S:=fun k:Nat=>([aY ps,.int .i64 w,aY ps,aa ps.length,aa k],none::nn4,zz5)) (C:=fun k=>k<=ps.length) (m:=fun k=>ps.length-k) 0 (zB _) (by omega) ?_ ?_;rfl
 .intro k r N l;refine jC rfl (fun e=>?_) (fun e=>?_)
  .rw[ad]at e;have a:k<ps.length:=by omega
   have o:=wS (n:=k);have b:=zE a;rw[<-fw a]at b;have c:iM (plg ps k)=(bD (plg ps k),0):=ve (h.ck _ b);have E:=h.lo _ b;have b2:=h.hi _ b;have x:IntKind.i64.wrap ((bD (plg ps k)).y+(bD (plg ps k)).h)=(bD (plg ps k)).y+(bD (plg ps k)).h:=wrap64 (by have:=h.ge _ b;omega) (by have:=h.w1;omega);have s:=tM (plg ps k);rw[c]at s;refine jX k rfl rfl (kw a) rfl (jA rfl s (gg rfl (aj (by show D.bool (nqb 0 0)=_;simp[aE]) ?_)))
   repeat' (first
    |refine jP rfl ?_
    |refine gr rfl ?_|refine aq rfl ?_|refine au rfl ?_ ?_<;>intro _
    |refine ak rfl ?_|refine aj rfl ?_|refine an rfl ?_ ?_<;>intro _
    |refine aL rfl ?_ ?_<;>intro _
    |refine fI rfl ?_)
   all_goals try (exfalso;simp only[ad,af,x]at*;omega)
   exact bo (l (k+1) a (by omega) (ah rfl tr (by rw[o];rfl)))
  rw[af]at e;clear l;refine gE rfl (gg rfl ?_);rw[zA];clear e r;refine aw (S:=fun k:Nat=>([aY ps,aY ps,aa ps.length,aa k],none::nn3,zz4)) (C:=fun k=>k<=ps.length) (m:=fun k=>ps.length-k) 0 (zB _) (by omega) ?_ ?_;rfl;intro k r N l;refine jC rfl (fun e=>?_) (fun e=>?_)
  .rw[ad]at e;have a:k<ps.length:=by omega
   have o:=wS (n:=k);have b:=zE a;rw[<-fw a]at b;obtain⟨c1,c2⟩:=lS _ (h.ck _ b);refine jX k rfl rfl (kw a) rfl (gg rfl (nK k rfl (dS (f:=ac) (n:=1) (fun _=>rfl) _) ⟨_,_,rfl,rfl⟩ (by grind) ?_));rw[show(ps.map ac).take k=(ps.take k).map ac from yD.symm];refine gg rfl ?_;rw[zA];have F:(ps.take k).length=k:=by grind
   refine aw (S:=fun j:Nat=>([aY ps,ac (plg ps k),aY ps,aa ps.length,aa k,aY (ps.take k),aa (ps.take k).length,aa j],none::nn7,zz8)) (C:=fun j=>j<=k) (m:=fun j=>k-j) 0 (zB _) (by omega) ?_ ?_;rfl;intro j G H p;refine jC rfl (fun t=>?_) (fun t=>?_)
   .rw[ad]at t;have d:j<k:=by omega
    have q:j<(ps.take k).length:=by omega
    have z:=wS (n:=j);have A:plg (ps.take k) j=plg ps j:=by grind[fw]
    have g:=zE (show j<ps.length by omega);rw[<-fw (show j<ps.length by omega)]at g;obtain⟨d1,d2⟩:=lS _ (h.ck _ g);have B:=h.ap k a j d;have u:=Wa (plg ps k) (plg ps j) _ _ c1 d1 c2 d2;rw[yS (by omega)]at u;have i:=kw q;rw[A]at i;refine jX j rfl rfl i rfl (jA rfl u (gg rfl (aj (by show D.bool (nqb 0 0)=_;simp[aE]) ?_)));exact gg rfl (aj rfl (gE rfl (p (j+1) d (by omega) (ah rfl tr (by rw[z];rfl)))))
   exact gE rfl (gE rfl (l (k+1) a (by omega) (ah rfl tr (by rw[o];rfl))))
  exact gE rfl (jZ rfl)
def OZ (u:List Int)(q:Part):List Int:=u.set q.roll.toNat (IntKind.i64.wrap (u.getD q.roll.toNat 0+IntKind.i64.wrap (q.to-q.from_)))
theorem Yw (P:List Part):∀u:List Int,(P.foldl OZ u).length=u.length:=by
 induction P with
 |nil=>simp
 |cons q P a=>grind[OZ]
theorem qOx (P:List Part)(u:List Int){k:Nat}(a:k<P.length):(P.take (k+1)).foldl OZ u=OZ ((P.take k).foldl OZ u) (pa P k):=by
 grind[List.take_succ_eq_append_getElem,oS]
theorem qPo (m:Mkr)(Q:List Ply)(rs:List RollS)(lots:List Int)(o:rs.length<=6)(c:kY rs lots.length=0)(B:∀r∈rs,RollB r)(G:Q.length<=40)(d:∀y∈Q,y.parts.length<=1000)(f:∀y∈Q,∀q∈y.parts,gl q rs=true)(g:ChI (cy Q))(h:(cy Q).length<=1000000):
 PU 9 [di m Q,rolls rs,ints lots]=some (.tup [ints ((cy Q).foldl OZ (List.replicate rs.length 0)),.int .i64 0]):=by
 refine PS rfl (jA rfl (R6 m Q rs lots o c B G d f g h) (gg rfl (aj (by show D.bool (nqb 0 0)=_;simp[aE]) ?_)));refine gg rfl ?_;rw[zA];refine eu rs.length rfl rfl rfl (by grind[aK]) ?_;rw[show List.replicate rs.length (D.int .i64 0)=(([]:List Part).foldl OZ (List.replicate rs.length 0)).map aa by simp[aa]]
 have p:∀y∈Q,∀q∈y.parts,0<=q.roll/\q.roll.toNat<rs.length:=fun y O q E=>by
  grind[gl]
 generalize T:rs.length=R at*;clear c B g h f;have l:∀u:List Int,(u.map aa).all (plain 4)=true:=fun u=>ae iz _;refine gg rfl ?_;rw[zA];refine aw (S:=fun k:Nat=>([.ref 0 0 R,.lst (Q.map Ply.enc),aa Q.length,aa k],some (.row (((cy (Q.take k)).foldl OZ (List.replicate R 0)).map aa) 1)::nn3,zz4)) (C:=fun k=>k<=Q.length) (m:=fun k=>Q.length-k) 0 (zB _) (by omega) ?_ ?_
 .exact ah rfl ⟨l _,tr⟩ rfl
 intro k U N H;refine jC rfl (fun e=>?_) (fun e=>?_)
 .rw[ad]at e;have b:k<Q.length:=by omega
  have I:=wS (n:=k);have J:(Q.map Ply.enc)[k]?=some Q[k].enc:=by grind
  have s:=d _ (zE b);have i:=p _ (zE b);have t:cy (Q.take (k+1))=cy (Q.take k)++Q[k].parts:=by rw[yd b,E0]
  generalize Q[k]=y at*;obtain⟨lt,P⟩:=y;dsimp only at i s t;have F:=Yw (cy (Q.take k)) (List.replicate R 0);rw[vL]at F;have w:(cy (Q.take (k+1))).foldl OZ (List.replicate R 0)=P.foldl OZ ((cy (Q.take k)).foldl OZ (List.replicate R 0)):=by grind
  generalize (cy (Q.take k)).foldl OZ (List.replicate R 0)=u at*;refine jX k rfl rfl J rfl (gg rfl ?_);rw[zA];refine aw (S:=fun j:Nat=>([.ref 0 0 R,.lst (Q.map Ply.enc),aa Q.length,aa k,parts P,aa P.length,aa j],some (.row (((P.take j).foldl OZ u).map aa) 1)::nn6,zz7)) (C:=fun j=>j<=P.length) (m:=fun j=>P.length-j) 0 (zB _) (by omega) ?_ ?_
  .exact ah rfl ⟨l _,tr⟩ rfl
  intro j V W x;refine jC rfl (fun z=>?_) (fun z=>?_)
  .rw[ad]at z;have a:j<P.length:=by omega
   have K:=wS (n:=j);have A:=nv a;have E:=i _ (zE a);rw[<-oS a]at E;have X:=Yw (P.take j) u;have L:=qOx P u a;generalize pa P j=q at*;generalize (P.take j).foldl OZ u=v at*;have M:(v.map aa)[q.roll.toNat]?=some (aa (v.getD q.roll.toNat 0)):=by grind
   refine jX j rfl rfl A rfl (gg rfl (aA q.roll.toNat rfl rfl rfl rfl (by omega) (by omega) ?_));refine aQ rfl rfl (by rw[zC];omega) rfl ?_;refine gg rfl (aA q.roll.toNat rfl rfl rfl rfl (by omega) (by omega) ?_);refine gp (enc:=aa) v q.roll.toNat (IntKind.i64.wrap (v.getD q.roll.toNat 0+IntKind.i64.wrap (q.to-q.from_))) rfl rfl (zC _) rfl (fun _=>rfl) rfl (zB _) (by omega) ?_;refine gE rfl (x (j+1) a (by omega) (ah rfl ⟨l _,tr⟩ (by rw[K,L];rfl)))
  rw[af]at z;obtain rfl:j=P.length:=by omega
  refine gE rfl (gE rfl (H (k+1) b (by omega) (ah rfl ⟨l _,tr⟩ (by rw[I,w,zH];rfl))))
 rw[af]at e;obtain rfl:k=Q.length:=by omega
 have F:=Yw (cy Q) (List.replicate R 0);rw[zH];refine gE rfl (gg rfl (cS rfl rfl rfl ⟨bK (by grind) (bF Db _),tr⟩ ?_));rw[bZ (by grind)];rfl
end Go.F
namespace Go.F
theorem Chain.sum:∀{l:List Zone} {s e:Int},Chain l s e->(l.map fun z=>z.hi-z.lo).sum=e-s
 |[],s,e,h=>by have:s=e:=h;grind
 |z::l,s,e,h=>by
  obtain⟨h1,a,h3⟩:=h;rw[zg,List.sum_cons,h3.sum];omega
theorem Chain.end_le {L:Int}:∀{l:List Zone} {s e:Int},Chain l s e->s<=L->(∀z∈l,z.hi<=L)->e<=L
 |[],s,e,h,b,_=>by have:s=e:=h;omega
 |z::l,s,e,h,b,a=>h.2.2.end_le (a z (by simp)) fun y c=>a y (by grind)
theorem Chain.idx:∀{l:List Zone} {s e:Int},Chain l s e->(∀L:Int,zn (l++[⟨L,L⟩]) 0=(if l=[]then⟨L,L⟩else zn l 0)/\(0<l.length->(zn l 0).lo=s))/\(∀j,j+1<l.length->(zn l (j+1)).lo=(zn l j).hi)/\(0<l.length->(zn l (l.length-1)).hi=e)
 |[],s,e,h=>⟨fun L=>⟨rfl,fun k=>absurd k (by simp)⟩,fun j a=>absurd a (by simp),fun k=>absurd k (by simp)⟩
 |z::l,s,e,h=>by
  obtain⟨h1,f,h3⟩:=h;obtain⟨b,c,d⟩:=h3.idx;refine⟨fun L=>⟨rfl,fun _=>h1⟩,fun j a=>?_,fun _=>?_⟩
  .cases j with
   |zero=>exact(b 0).2 (by grind)
   |succ j=>exact c j (by grind)
  cases l with
  |nil=>exact h3
  |cons y l=>exact d (by simp)
theorem qO7 {l:List Zone}{e L:Int}{i:Nat}{a:Int}(h:Chain l 0 e):Zh i a (l++[⟨L,L⟩]) (l.length+1)=if e<L then [⟨i,a,e,L⟩]else []:=by
 obtain⟨c,m,n⟩:=h.idx;have d:∀j,j<l.length->zn (l++[⟨L,L⟩]) j=zn l j:=fun j b=>by grind[zn]
 have o:zn (l++[⟨L,L⟩]) l.length=⟨L,L⟩:=by simp[zn]
 have f:∀j,j<=l.length->frT (l++[⟨L,L⟩]) j=(if j<l.length then(zn l j).lo else e):=fun j b=>by
  cases j with
  |zero=>
   split
   .next g=>exact((c L).2 g).symm
   next g=>
   have:l=[]:=vY.1 (by omega);subst this;exact h
  |succ j=>
   grind[frT]
 have nil:∀j,j<=l.length->Zh i a (l++[⟨L,L⟩]) j=[]:=fun j=>by
  induction j with
  |zero=>intro _;rfl
  |succ j k=>
   intro b;rw[Zh,k (by omega),f j (by omega),ve (show j<l.length by omega),d j (by omega),vd (Int.lt_irrefl _)];rfl
 simp_all[Zh]
def gH (T:List Part)(r:Int):Int:=((zof T r).map fun z=>z.hi-z.lo).sum
theorem qO8 (T:List Part)(q:Part)(r:Int):gH (T++[q]) r=gH T r+if q.roll=r then q.to-q.from_ else 0:=by
 grind[gH,uM]
def kO (l:List Rst)(r:Int):Int:=(l.map fun x=>if x.roll=r then x.to-x.from_ else 0).sum
theorem qOy (a b:List Rst)(r:Int):kO (a++b) r=kO a r+kO b r:=by
 simp[kO]
structure UseK (T:List Part)(rs:List RollS):Prop where
 ch:ChI T
 cl:∀q∈T,gl q rs=true
 l0:∀r∈rs,0<=r.length/\r.length<=1048576
theorem UseK.chain {T:List Part}{rs:List RollS}(h:UseK T rs){i:Nat}(hi:i<rs.length):∃e,Chain (zof T i) 0 e/\0<=e/\e<=(rl rs i).length:=by
 obtain⟨e,b⟩:=h.ch i;have c:=h.l0 _ (zE hi);rw[<-qL hi]at c;refine⟨e,b,?_,b.end_le c.1 fun z a=>?_⟩
 .have f:∀{l:List Zone} {s e:Int},Chain l s e->s<=e:=by
   intro l
   induction l with
   |nil=>intro s e h;have:s=e:=h;omega
   |cons z l d=>intro s e h;have:=d h.2.2;have:=h.1;have:=h.2.1;omega
  grind
 unfold zof at a;simp at a;obtain⟨q,⟨h1,g⟩,rfl⟩:=a;have:=h.cl q h1;grind[gl]
theorem qO9 {T:List Part}{rs:List RollS}(h:UseK T rs)(lots:List Int)(r:Nat):∀n,n<=rs.length->kO (m0 T rs lots n) r=if r<n then(rl rs r).length-gH T r else 0
 |0,_=>by rfl
 |n+1,a=>by
  obtain⟨e,h1,b,h3⟩:=h.chain (i:=n) (by omega);rw[m0,qOy,qO9 h lots r n (by omega),show nsT T n=(zof T n).length from rfl,show zlS T rs n=zof T n++[⟨(rl rs n).length,(rl rs n).length⟩]from rfl,qO7 h1];have c:gH T n=e:=by unfold gH;rw[h1.sum];omega
  by_cases k:r=n
  .grind[kO]
  have:kO (if e<(rl rs n).length then [⟨(n:Int),lots.getD n 0,e,(rl rs n).length⟩]else []) r=0:=by
   split
   .simp[kO];omega
   rfl
  omega
theorem qOz (a b:List Part)(r:Int):gH (a++b) r=gH a r+gH b r:=by
 simp[gH,zof]
theorem ZP {T:List Part}{rs:List RollS}(h:∀q∈T,gl q rs=true)(r:Int):0<=gH T r:=by
 induction T with
 |nil=>simp[gH,zof]
 |cons q T b=>
  have a:=h q (by simp);simp[gl]at a;grind[gH,zof]
theorem qOQ {T:List Part}{rs:List RollS}(h:UseK T rs){i:Nat}(hi:i<rs.length):gH T i<=(rl rs i).length/\(rl rs i).length<=1048576:=by
 obtain⟨e,h1,b,h3⟩:=h.chain hi;have a:=h.l0 _ (zE hi);rw[<-qL hi]at a;unfold gH;rw[h1.sum];omega
theorem ZR {T:List Part}{rs:List RollS}(h:UseK T rs):∀k,k<=T.length->∀i,i<rs.length->((T.take k).foldl OZ (List.replicate rs.length 0)).getD i 0=gH (T.take k) i
 |0,_,i,hi=>by grind[gH,zof]
 |k+1,n,i,hi=>by
  have l:=ZR h k (by omega);have d:=h.cl _ (zE (show k<T.length by omega));have o:=Yw (T.take k) (List.replicate rs.length 0);have e:T.take (k+1)=T.take k++[pa T k]:=by grind[List.take_succ_eq_append_getElem,oS]
  rw[<-oS (show k<T.length by omega)]at d;rw[qOx _ _ (by omega),e,qO8]
  have a:∀j,j<rs.length->gH (T.take (k+1)) j<=1048576:=fun j m=>by
   have:=qOQ h m;have p:gH T j=gH (T.take (k+1)) j+gH (T.drop (k+1)) j:=by rw[<-qOz,wA]
   have:=ZP (T:=T.drop (k+1)) (fun q d=>h.cl q (yJ d)) j;omega
  have f:∀j:Int,0<=gH (T.take k) j:=fun j=>ZP (fun q d=>h.cl q (zt d)) j;generalize (T.take k).foldl OZ (List.replicate rs.length 0)=u at*;simp[gl]at d;unfold OZ;have hr:(pa T k).roll.toNat<rs.length:=by omega
  have g:((pa T k).roll.toNat:Int)=(pa T k).roll:=by omega
  have b:=a _ hr;rw[e,qO8,g,ve rfl]at b;have c:=f (pa T k).roll;rw[l _ hr,g];rw[wrap64 (x:=(pa T k).to-(pa T k).from_) (by omega) (by omega),wrap64 (by omega) (by omega)];grind
theorem qOF {T:List Part}{rs:List RollS}(h:UseK T rs)(lots:List Int){i:Nat}(hi:i<rs.length):(T.foldl OZ (List.replicate rs.length 0)).getD i 0+kO (m0 T rs lots rs.length) i=(rl rs i).length:=by
 have:=ZR h T.length (zD _) i hi;rw[zH]at this;rw[this,qO9 h lots i rs.length (zD _),ve hi];omega
structure PlyW (rs:List RollS)(width len:Int)(P:List Part):Prop where
 n0:0<P.length
 n20:P.length<=1000
 w0:1<=width
 l0:len<=1048576
 el:∀i,i<P.length->0<=(pa P i).from_/\(pa P i).from_<(pa P i).to/\(pa P i).to<=1048576/\0<=(pa P i).at_/\(pa P i).at_<=len/\width<=(rl rs (pa P i).roll.toNat).width/\(rl rs (pa P i).roll.toNat).width<=1048576/\(pa P i).at_+(pa P i).to-(pa P i).from_<=len
 st:∀i,i+1<P.length->(pa P i).at_<(pa P (i+1)).at_/\(pa P (i+1)).at_<=(pa P i).at_+(pa P i).to-(pa P i).from_
 a0:(pa P 0).at_=0
 en:(pa P (P.length-1)).at_+(pa P (P.length-1)).to-(pa P (P.length-1)).from_=len
theorem PlyW.step {rs:List RollS}{width len:Int}{P:List Part}(h:PlyW rs width len P):∀n,n<P.length->
 0<=Zc rs P (n+1)/\Zc rs P (n+1)<=(n+1) *2199023255552/\0<=IB rs P (n+1)/\IB rs P (n+1)<=(n+1) *2199023255552/\
 2*width*(pa P n).at_+2*((pa P n).to-(pa P n).from_) *(rl rs (pa P n).roll.toNat).width<=Zc rs P (n+1)-IB rs P (n+1)
 |0,e=>by
  obtain⟨f,g,i,j,k,l,m,o⟩:=h.el 0 e;have p:=h.w0;rw[Zc,IB,ve rfl,Zc,IB,h.a0];generalize (rl rs (pa P 0).roll.toNat).width=W at*;generalize q:(pa P 0).to-(pa P 0).from_=d at*;have r:0<=d*W:=vI (by omega) (by omega);have s:d*W<=1048576*1048576:=Int.mul_le_mul (by omega) (by omega) (by omega) (by omega);grind[Int.mul_assoc,wrap64]
 |n+1,e=>by
  obtain⟨w,y,z,C,D⟩:=h.step n (by omega);obtain⟨f,g,i,j,k,l,m,o⟩:=h.el (n+1) e;obtain⟨E,b2,F,G,H,I,J,K⟩:=h.el n (by omega);obtain⟨L,M⟩:=h.st n e;have p:=h.w0;have N:=h.l0;have t:=h.n20;rw[Zc,IB,vd (Nat.succ_ne_zero n),xP];generalize Zc rs P (n+1)=A at*;generalize IB rs P (n+1)=B at*;generalize (rl rs (pa P (n+1)).roll.toNat).width=W at*;generalize (rl rs (pa P n).roll.toNat).width=V at*;generalize (pa P (n+1)).at_=b at*;generalize (pa P n).at_=a at*;generalize q:(pa P (n+1)).to-(pa P (n+1)).from_=d at*
  have u:IntKind.i64.wrap (IntKind.i64.wrap (IntKind.i64.wrap (a+(pa P n).to)-(pa P n).from_)-b)=a+((pa P n).to-(pa P n).from_)-b:=by
   grind[wrap64]
  rw[u];generalize v:(pa P n).to-(pa P n).from_=c at*;have r:0<=d*W:=vI (by omega) (by omega);have s:d*W<=1048576*1048576:=Int.mul_le_mul (by omega) (by omega) (by omega) (by omega);have O:0<=(a+c-b) *V:=vI (by omega) (by omega);have Q:(a+c-b) *V<=1048576*1048576:=Int.mul_le_mul (by omega) (by omega) (by omega) (by omega);have R:2*d*W=2*(d*W):=Int.mul_assoc ..;have S:2*(a+c-b) *V=2*((a+c-b) *V):=Int.mul_assoc ..;have T:2*c*V=2*(c*V):=Int.mul_assoc ..;have U:(a+c-b) *V=c*V-(b-a) *V:=by grind
  have X:(b-a) *width<=(b-a) *V:=xO (by omega) (by omega);have Y:(b-a) *width=width*b-width*a:=by grind
  have Z:2*width*b=2*(width*b):=Int.mul_assoc ..;have e9:2*width*a=2*(width*a):=Int.mul_assoc ..
  rw[wrap64 (x:=d) (by omega) (by omega),wrap64 (x:=2*d) (by omega) (by omega),wrap64 (x:=2*d*W) (by omega) (by omega),wrap64 (x:=A+2*d*W) (by omega) (by omega),
   wrap64 (x:=2*(a+c-b)) (by omega) (by omega),wrap64 (x:=2*(a+c-b) *V) (by omega) (by omega),wrap64 (x:=B+2*(a+c-b) *V) (by omega) (by omega)]
  omega
theorem PlyW.whole {rs:List RollS}{width len:Int}{P:List Part}(h:PlyW rs width len P):
 0<=Zc rs P P.length/\Zc rs P P.length<=2199023255552000/\0<=IB rs P P.length/\IB rs P P.length<=2199023255552000/\2*width*len<=Zc rs P P.length-IB rs P P.length:=by
 have e:=h.n0;have b:=h.n20;obtain⟨f,g,i,j,c⟩:=h.step (P.length-1) (by omega);obtain⟨k,l,m,n,o,p,q,r⟩:=h.el (P.length-1) (by omega);have en:=h.en;generalize (rl rs (pa P (P.length-1)).roll.toNat).width=W at*;generalize (pa P (P.length-1)).at_=a at*;have d:(pa P (P.length-1)).to-(pa P (P.length-1)).from_=len-a:=by omega
 rw[d]at c;have s:(len-a) *width<=(len-a) *W:=xO (by omega) (by omega);grind
attribute [local irreducible] IntKind.wrap wpM
theorem qP5 (q:Part)(rs:List RollS)(p:Rp)(a:Fv)(l:PU 74 [ac p]=some (lW a))(o:TriB a)(h0:0<=q.roll)(h1:q.roll.toNat<rs.length)(hr:eB (rl rs q.roll.toNat)=0)
 (A:0<=q.at_/\q.at_<=1048576) (B:0<=q.from_/\q.from_<=1048576):
 PU 11 [q.enc,rolls rs,ac p]=some (.bool ((rl rs q.roll.toNat).flaws.any fun f=>jW a (lm q f))):=by
 have c:=oI h1;refine PS rfl ?_
 repeat' (first
  |refine jP rfl ?_
  |refine gr rfl ?_|refine aq rfl ?_|refine au rfl ?_ ?_<;>intro _
  |refine ak rfl ?_|refine aj rfl ?_|refine an rfl ?_ ?_<;>intro _
  |refine aL rfl ?_ ?_<;>intro _
  |refine fI rfl ?_)
 grind[ad];grind[bk];generalize rl rs q.roll.toNat=r at*;obtain⟨D,E,F,G,H,s⟩:=Es hr;refine aw (S:=fun k:Nat=>([rolls rs,ac p,.ptr 2 0 0,aa k],[none,none,some (.row [q.enc] 4),none],zz4)) (C:=fun k=>k<=r.flaws.length/\(r.flaws.take k).any (fun f=>jW a (lm q f))=false) (m:=fun k=>r.flaws.length-k) 0 ⟨zB _,rfl⟩ (by omega) ?_ ?_
 .exact ah rfl ⟨rfl,tr⟩ rfl
 intro k ⟨I,h⟩ N t;refine jX q.roll.toNat rfl (by omega) c rfl ?_;refine jC rfl (fun e=>?_) (fun e=>?_)
 .rw[ad,zA]at e;have b:k<r.flaws.length:=by omega
  have u:=wS (n:=k);have d:=jL (f:=fun f=>jW a (lm q f)) b h;have g:=jO (f:=fun f=>jW a (lm q f)) b;have i:=s _ (zE b);rw[<-HX b]at d g i
  have v:IntKind.i64.wrap (IntKind.i64.wrap ((rc r.flaws k).x+q.at_)-q.from_)=(lm q (rc r.flaws k)).x:=by
   grind[lm,wrap64]
  have w:=VF ((rc r.flaws k).x+IntKind.i64.wrap (q.at_-q.from_));have j:RectB (lm q (rc r.flaws k)):=⟨w,by grind[lm],by grind[lm],by grind[lm]⟩;have y:=W5 p (lm q (rc r.flaws k)) a l o j;refine jX q.roll.toNat rfl (by omega) c rfl ?_;refine jX k rfl rfl (JC b) rfl (gg rfl ?_);rw[v];refine aB rfl rfl y ?_
  repeat' (first
   |refine jP rfl ?_
   |refine gr rfl ?_|refine aq rfl ?_|refine au rfl ?_ ?_<;>intro _
   |refine ak rfl ?_|refine aj rfl ?_|refine an rfl ?_ ?_<;>intro _
   |refine aL rfl ?_ ?_<;>intro _
   |refine fI rfl ?_)
  all_goals try (exfalso;rename_i x;rw[dG]at x;omega)
  .refine bo (jF rfl ?_);grind
  rename_i z;refine bo (t (k+1) ⟨b,d z⟩ (by omega) ?_);refine ah rfl ⟨rfl,tr⟩ ?_;rw[u];rfl
 rw[af,zA]at e;obtain rfl:k=r.flaws.length:=by omega
 rw[zH]at h;refine gE rfl (jF rfl ?_);rw[h]
def xv (a b c d e:Int):D:=.agg [.int .i64 a,.int .i64 b,.int .i64 c,.int .i64 d,.int .i64 e]
def Zr (r:List Bool):D:=.lst (r.map D.bool)
def tabD (H:List (List Bool)):D:=.lst (H.map Zr)
def RO (p:Rp):Int:=max (eL p) (ng (eL p))
def tkS (rs:List RollS)(Q:List Ply):Nat->Int
 |0=>0
 |k+1=>IntKind.i64.wrap (tkS rs Q k+Zc rs (dL Q k).parts (dL Q k).parts.length)
def dbS (rs:List RollS)(Q:List Ply):Nat->Int
 |0=>0
 |k+1=>IntKind.i64.wrap (dbS rs Q k+IB rs (dL Q k).parts (dL Q k).parts.length)
def Zw (b:Bool)(a:Int)(x:Int×Int):Int×Int:=if b=true then(x.1,IntKind.i64.wrap (x.2+a))else(IntKind.i64.wrap (x.1+a),x.2)
def VO (ps:Fv)(r:List Bool)(x:Int×Int):Nat->Int×Int
 |0=>x
 |j+1=>Zw (r.getD j false) (RO (plg ps j)) (VO ps r x j)
def FD (ps:Fv)(H:List (List Bool)):Nat->Int×Int
 |0=>(0,0)
 |k+1=>VO ps (H.getD k []) (FD ps H k) (H.getD k []).length
theorem Of_PU {m:Mkr}{ps:Fv}{rs:List RollS}{lots:List Int}{Q:List Ply}{H:List (List Bool)}(h:LayB m ps rs lots Q)(E:ps.length<=60)(u:Beside ps m.width)
 (v:PU 27 [di m Q,rolls rs,aY ps]=some (.tup [tabD H,.int .i64 0])) (F:∀r∈H,r.length=ps.length) (G:H.length<=1000):
 PU 7 [di m Q,rolls rs,ints lots,aY ps]=some (.tup [xv (tkS rs Q Q.length) (FD ps H H.length).1 (FD ps H H.length).2
  (IntKind.i64.wrap (IntKind.i64.wrap (IntKind.i64.wrap (tkS rs Q Q.length-dbS rs Q Q.length)-(FD ps H H.length).2)-(FD ps H H.length).1)) (dbS rs Q Q.length),.int .i64 0]):=by
 have M:Q.length<=1000:=by have:=h.q40;omega
 have d:=qO5 ps m.width (by omega) u;refine PS rfl (jA rfl (Y9 h) (gg rfl (aj (by show D.bool (nqb 0 0)=_;simp[aE]) ?_)));refine jA rfl d (gg rfl (aj (by show D.bool (nqb 0 0)=_;simp[aE]) ?_));refine jA rfl v (gg rfl (aj (by show D.bool (nqb 0 0)=_;simp[aE]) ?_));refine gg rfl ?_;rw[zA];refine aw (S:=fun k:Nat=>([rolls rs,aY ps,.ptr 2 0 0,tabD H,.ptr 4 0 0,.lst (Q.map Ply.enc),aa Q.length,aa k],none::none::some (.row [xv 0 0 0 0 0] 5)::none::some (.row [xv (tkS rs Q k) 0 0 0 (dbS rs Q k)] 5)::nn3,zz8)) (C:=fun k=>k<=Q.length) (m:=fun k=>Q.length-k) 0 (zB _) (by omega) ?_ ?_
 .exact ah rfl ⟨rfl,rfl,tr⟩ rfl
 intro k w N i;refine jC rfl (fun e=>?_) (fun e=>?_)
 .rw[ad]at e;have a:k<Q.length:=by omega
  have l:=wS (n:=k);have I:dL Q k=Q[k]:=by grind[dL]
  have J:(Q.map Ply.enc)[k]?=some (dL Q k).enc:=by grind
  have o:=zE a;rw[<-I]at o;have K:=qPn (dL Q k) rs (by have:=h.p20 _ o;omega) (h.cl _ o);exact jX k rfl rfl J rfl (jA rfl K (gE rfl (i (k+1) a (by omega) (ah rfl ⟨rfl,rfl,tr⟩ (by rw[l];rfl)))))
 rw[af]at e;obtain rfl:k=Q.length:=by omega
 clear i;generalize tkS rs Q Q.length=z at*;generalize dbS rs Q Q.length=A at*;clear v d u w e;refine gE rfl (gg rfl ?_);rw[zA];refine aw (S:=fun k:Nat=>([aY ps,.ptr 1 0 0,.ptr 2 0 0,tabD H,aa H.length,aa k],none::some (.row [xv 0 0 0 0 0] 5)::some (.row [xv z (FD ps H k).1 (FD ps H k).2 0 A] 5)::nn3,zz6)) (C:=fun k=>k<=H.length) (m:=fun k=>H.length-k) 0 (zB _) (by omega) ?_ ?_
 .exact ah rfl ⟨rfl,rfl,tr⟩ rfl
 intro k w N i;refine jC rfl (fun e=>?_) (fun e=>?_)
 .rw[ad]at e;have a:k<H.length:=by omega
  have l:=wS (n:=k);have L:=F _ (zE a);have p:(H.map Zr)[k]?=some (Zr H[k]):=by grind
  have q:FD ps H (k+1)=VO ps H[k] (FD ps H k) H[k].length:=by grind[FD]
  generalize H[k]=r at*;generalize FD ps H k=x at*;refine jX k rfl rfl p rfl (gg rfl ?_);rw[zA];refine aw (S:=fun j:Nat=>([aY ps,.ptr 1 0 0,.ptr 2 0 0,tabD H,aa H.length,aa k,Zr r,aa r.length,aa j],none::some (.row [xv 0 0 0 0 0] 5)::some (.row [xv z (VO ps r x j).1 (VO ps r x j).2 0 A] 5)::nn6,zz9)) (C:=fun j=>j<=r.length) (m:=fun j=>r.length-j) 0 (zB _) (by omega) ?_ ?_
  .exact ah rfl ⟨rfl,rfl,tr⟩ rfl
  intro j O P f;refine jC rfl (fun s=>?_) (fun s=>?_)
  .rw[ad]at s;have g:j<r.length:=by omega
   have B:=wS (n:=j);have t:(r.map D.bool)[j]?=some (D.bool (r.getD j false)):=by grind
   have c:VO ps r x (j+1)=Zw (r.getD j false) (RO (plg ps j)) (VO ps r x j):=rfl;generalize r.getD j false=b at*;generalize VO ps r x j=y at*;refine jX j rfl rfl t rfl (jX j rfl rfl (kw (by omega)) rfl ?_);refine jA rfl (H4 (plg ps j)) (gg rfl ?_)
   cases b with
   |true=>
    exact ak rfl (gE rfl (f (j+1) g (by omega) (ah rfl ⟨rfl,rfl,tr⟩ (by rw[B,c];rfl))))
   |false=>
    exact aj rfl (gE rfl (f (j+1) g (by omega) (ah rfl ⟨rfl,rfl,tr⟩ (by rw[B,c];rfl))))
  rw[af]at s;obtain rfl:j=r.length:=by omega
  exact gE rfl (gE rfl (i (k+1) a (by omega) (ah rfl ⟨rfl,rfl,tr⟩ (by rw[l,q];rfl))))
 rw[af]at e;obtain rfl:k=H.length:=by omega
 exact gE rfl (jZ rfl)
end Go.F
namespace Go.F
theorem qOg (a b:Rp):nE a b=nE b a:=by simp[nE,Int.min_comm]
theorem qOA {s:Rp}{l:Fv}{c:Int}(a:c<=0):∀k,(∀j,j<k->nE s (plg l j)<=0)->qI s l c k<=0
 |0,_=>a
 |k+1,h=>by
  rw[qI];have:=qOA a k fun j b=>h j (by omega);grind
theorem Z4 {l m:Fv}:∀k,(∀i,i<k->∀j,j<m.length->nE (plg l i) (plg m j)<=0)->p8 l m k<=0
 |0,_=>by simp[p8]
 |k+1,h=>by
  exact qOA (Z4 k fun i hi=>h i (by omega)) _ (h k (by omega))
theorem qPp {l m:Fv}(h:rY l m<=0):rY m l<=0:=by
 have:=WL l m l.length h;exact Z4 _ fun i hi j a=>by grind[qOg]
theorem qPB {s:Sty}{m:Mkr}{ps:Fv}(h:lR s m=(ps,0)):∃shs pus,oQ eD (Zm m) shs pus=0/\ps=pus.map (lP shs):=by
 unfold lR at h;split at h
 grind;split at h
 grind;have h1:=(Prod.ext_iff.1 h).1;have a:(gq s m).2.2=0:=by omega
 refine⟨(gq s m).1,(gq s m).2.1,?_,h1.symm⟩;unfold gq at a⊢;grind
theorem ZN {p:Rp}{w:Int}(h0:0<p.length)(h:∀v∈p,0<=v.y/\v.y<=w):0<=(bD p).y/\0<=(bD p).h/\(bD p).y+(bD p).h<=w:=by
 obtain⟨_,i,hi,e⟩:=ZS p h0 p.length (zD _);obtain⟨_,j,c,f⟩:=ZM p h0 p.length (zD _);have a:=h _ (zE hi);have b:=h _ (zE c);rw[<-bc hi]at a;rw[<-bc c]at b;have d:=(hi_ge p p.length i hi).2;grind[bD]
theorem qOb {s:Sty}{m:Mkr}{ps:Fv}(h:lR s m=(ps,0))(w:1<=m.length/\m.length<=1048576)(f:1<=m.width/\m.width<=1048576):
 Beside ps m.width/\((ps.map fun p=>(dJ p).natAbs).sum:Int)<=2*m.length*m.width:=by
 obtain⟨shs,pus,h1,g⟩:=qPB h
 have k:fc (Zm m)=false:=by
  show(decide (m.length<1) ||(decide (1048576<m.length) ||(decide (m.width<1) ||decide (1048576<m.width))))=false;grind
 have key:=qPm k h1
 have l:∀i (hi:i<pus.length),kg eD (Zm m) shs (pus.take i) pus[i]=0:=fun i hi=>by
  unfold oQ at h1;split at h1
  omega;have:=rq h1 i (yN.2 hi);grind[pi,kC]
 have c:∀i (hi:i<pus.length),(bu shs pus[i]).2=0:=fun i hi=>by
  grind[kg]
 have d:∀i (hi:i<pus.length),lP shs pus[i]=o4 shs pus[i]:=fun i hi=>(A6 (c i hi)).2.2.2.2.2
 have n:∀i (hi:i<pus.length),plg ps i=o4 shs pus[i]:=fun i hi=>by
  grind[fw]
 have a:∀p∈ps,bE p=0/\∀v∈p,0<=v.y/\v.y<=m.width:=fun p b=>by
  rw[g]at b;obtain⟨q,o,rfl⟩:=zy.1 b;obtain⟨i,hi,rfl⟩:=ze.1 o;rw[d i hi];obtain⟨r,t,_⟩:=Q0 (l i hi);exact⟨r,fun v u=>(t v u).2.2⟩
 refine⟨⟨fun p b=>(a p b).1,fun p b=>?_,fun p b=>?_,fun p b=>?_,fun i hi j x=>?_,f.2⟩,?_⟩
 .exact(ZN (by grind[fj]) (a p b).2).1
 .exact(ZN (by grind[fj]) (a p b).2).2.1
 .exact(ZN (by grind[fj]) (a p b).2).2.2
 grind[qPp,Q0,List.mem_take_iff_getElem]
 .have e:(ps.map fun p=>(dJ p).natAbs)=pus.map fun p=>(dJ (o4 shs p)).natAbs:=by
   grind[List.map_congr_left,List.mem_iff_getElem]
  rw[e]
  trivial
theorem qOS {rs:List RollS}{lots:List Int}{d width len:Int}{f:List Zone}{P:List Part}(h:FinP rs lots d width len f P)(j:P.length<=20)(hr:∀r∈rs,eB r=0)(l:1<=width)(m:len<=1048576):PlyW rs width len P:=by
 have n:∀i,i<P.length->0<=(pa P i).from_/\(pa P i).from_<(pa P i).to/\(pa P i).to<=1048576/\0<=(pa P i).at_/\(pa P i).at_<=len/\width<=(rl rs (pa P i).roll.toNat).width/\(rl rs (pa P i).roll.toNat).width<=1048576/\cM (pa P i)=(pa P i).at_+(pa P i).to-(pa P i).from_:=fun i hi=>by
  obtain⟨g,o,p,z,A⟩:=h.el i hi;have c:=g.cl;simp[gl]at c;have a:(pa P i).roll.toNat<rs.length:=by omega
  have b:=hr _ (zE a);rw[<-qL a]at b;have r:=Es b;have wd:=g.wd;grind[cM,wrap64]
 have e:=h.ne;have en:=h.en;refine⟨e,by omega,l,m,fun i hi=>?_,fun i hi=>?_,?_,?_⟩
 .obtain⟨q,s,t,u,v,w,x,y⟩:=n i hi;refine⟨q,s,t,u,v,w,x,?_⟩;rw[<-y];by_cases k:i+1<P.length
  .exact((h.el i hi).2.2.2.2 k).2.2
  grind
 .obtain⟨B,b2,C⟩:=(h.el i (by omega)).2.2.2.2 hi;have o:=(h.el i (by omega)).2.1;have p:=(h.el (i+1) hi).2.1;grind
 .rw[(h.el 0 e).2.1];rfl
 grind
theorem qOc {rs:List RollS}{width len:Int}{Q:List Ply}(b:Q.length<=40)(h:∀y∈Q,PlyW rs width len y.parts):∀k,k<=Q.length->
 0<=tkS rs Q k/\tkS rs Q k<=k*2199023255552000/\0<=dbS rs Q k/\dbS rs Q k<=k*2199023255552000/\k*(2*width*len)<=tkS rs Q k-dbS rs Q k
 |0,_=>by simp[tkS,dbS]
 |k+1,d=>by
  obtain⟨e,f,g,i,j⟩:=qOc b h k (by omega);have c:dL Q k=Q[k]:=by grind[dL]
  have a:=zE (show k<Q.length by omega);rw[<-c]at a;obtain⟨l,m,n,o,p⟩:=(h _ a).whole;rw[tkS,dbS];rw[wrap64 (x:=tkS rs Q k+_) (by omega) (by omega),wrap64 (x:=dbS rs Q k+_) (by omega) (by omega)];grind
def arS (ps:Fv):Nat->Int
 |0=>0
 |j+1=>arS ps j+RO (plg ps j)
theorem qOT {ps:Fv}(b:∀j,j<ps.length->0<=RO (plg ps j)){r:List Bool}{x:Int×Int}(c:0<=x.1/\0<=x.2):∀j,j<=ps.length->x.1+x.2+arS ps j<=4611686018427387904->
 0<=(VO ps r x j).1/\0<=(VO ps r x j).2/\(VO ps r x j).1+(VO ps r x j).2=x.1+x.2+arS ps j
 |0,_,_=>by grind[VO,arS]
 |j+1,e,d=>by
  have a:=b j (by omega);rw[arS]at d⊢;obtain⟨f,g,h⟩:=qOT b (r:=r) c j (by omega) (by omega);grind[VO,Zw,wrap64]
theorem Z1 {ps:Fv}(d:∀j,j<ps.length->0<=RO (plg ps j))(e:arS ps ps.length<=2199023255552)(a:0<=arS ps ps.length){H:List (List Bool)}(f:∀r∈H,r.length=ps.length)(c:H.length<=40):∀k,k<=H.length->
 0<=(FD ps H k).1/\0<=(FD ps H k).2/\(FD ps H k).1+(FD ps H k).2=k*arS ps ps.length
 |0,_=>by simp[FD]
 |k+1,l=>by
  obtain⟨g,h,m⟩:=Z1 d e a f c k (by omega);have hr:=f _ (zE (show k<H.length by omega));have i:H.getD k []=H[k]:=by grind
  have b:(k:Int) *arS ps ps.length<=40*2199023255552:=Int.mul_le_mul (by omega) e a (by omega);rw[FD,i,hr];obtain⟨n,o,p⟩:=qOT d (r:=H[k]) (x:=FD ps H k) ⟨g,h⟩ ps.length (zD _) (by omega);grind
theorem qOV {f:Rp->Nat}:∀{l:Fv},∀p∈l,(f p:Int)<=((l.map f).sum:Nat)
 |[],p,a=>by grind
 |q::l,p,a=>by
  rw[zg,List.sum_cons];rcases zP.1 a with rfl|a
  omega
  .have:=qOV (f:=f) p a;omega
theorem Z7 {ps:Fv}(h:∀p∈ps,RO p=((dJ p).natAbs:Int)):∀j,j<=ps.length->arS ps j=((((ps.take j).map fun p=>(dJ p).natAbs).sum:Nat):Int)
 |0,_=>by rfl
 |j+1,a=>by
  rw[arS,Z7 h j (by omega),yd (by omega),zb,vN,fw (by omega),h _ (zE _)];simp
theorem qOH {s:Sty}{b:Bed}{sizes:List Int}{rs:List RollS}{lots:List Int}{m:Mkr}{ps:Fv}{Q:List Ply}(F:LaidF s b sizes rs lots m ps Q)
 {H:List (List Bool)} (h:∀r∈H,r.length=ps.length) (i:H.length=Q.length) {w:Int} (u:w=IntKind.i64.wrap (IntKind.i64.wrap (IntKind.i64.wrap (tkS rs Q Q.length-dbS rs Q Q.length)-(FD ps H H.length).2)-(FD ps H H.length).1)):
 tkS rs Q Q.length=IntKind.i64.wrap (IntKind.i64.wrap (IntKind.i64.wrap ((FD ps H H.length).1+(FD ps H H.length).2)+dbS rs Q Q.length)+w)/\
  0<=(FD ps H H.length).1/\0<=(FD ps H H.length).2/\0<=dbS rs Q Q.length/\0<=w:=by
 have a:=sR F.lay.clo;have c:=o6 a.ext;obtain⟨B,d⟩:=qOb F.pol ⟨c.1,c.2.1⟩ ⟨a.w1,a.w2⟩;have v:=F.q8;have k:=a.w1;have x:=a.w2;have l2:=c.2.1;have l:m.length*m.width<=1048576*1048576:=Int.mul_le_mul (by omega) (by omega) (by omega) (by omega);have e:2*m.length*m.width=2*(m.length*m.width):=Int.mul_assoc ..
 have n:∀p∈ps,RO p=((dJ p).natAbs:Int):=fun p g=>by
  have:=qOV (f:=fun p=>(dJ p).natAbs) p g;unfold RO eL ng;rw[ve (B.ck p g),wrap64 (by omega) (by omega)];omega
 have o:=Z7 n ps.length (zD _);rw[zH]at o
 have q:∀j,j<ps.length->0<=RO (plg ps j):=fun j z=>by
  grind[fw]
 obtain⟨t1,t2,t3⟩:=Z1 q (by omega) (by omega) h (by omega) H.length (zD _)
 obtain⟨c1,c2,A,C,D⟩:=qOc (rs:=rs) (width:=m.width) (len:=m.length) (Q:=Q) (by omega) (fun y t=>by
  obtain⟨f1,f2⟩:=F.lay.lay.pl y t
  exact qOS f1 f2 a.rol.ok k l2) Q.length (zD _)
 have key:(H.length:Int) *arS ps ps.length<=Q.length*(2*(m.length*m.width)):=by
  simp_all[xO]
 grind[wrap64]
theorem TabG.put {R tb:Nat}{ids ns:Nat->Nat}{C:Nat->Option Blk}{h:ab}{z:Frz}(b:TabG R tb ids ns C h z){k X n:Nat}{v:Option Blk}(f:X≠tb)(d:∀j,j<R->ids j≠X)(a:∀j,j<R->ids j≠tb)(g:h X=v)(i:z X=0):
 TabG R tb (fun j=>if j=k then X else ids j) (fun j=>if j=k then n else ns j) (fun j=>if j=k then v else C j)
  (Go.F.upd h tb (some (.row (((List.range R).map fun j=>D.ref (ids j) 0 (ns j)).set k (.ref X 0 n)) 1))) z:=by
 refine⟨?_,b.2.1,fun j c=>?_⟩;grind[upd_same,O5]
 .by_cases e:j=k
  simp_all[upd_ne]
  .simp[e];rw[upd_ne (a j c)];exact b.2.2 j c
theorem TabG.row {R tb:Nat}{ids ns:Nat->Nat}{C:Nat->Option Blk}{h:ab}{z:Frz}(a:TabG R tb ids ns C h z){k:Nat}{v:Option Blk}(f:k<R)(b:∀i j,i<R->j<R->ids i=ids j->i=j)(c:∀j,j<R->ids j≠tb):
 TabG R tb ids ns (fun j=>if j=k then v else C j) (Go.F.upd h (ids k) v) z:=by
 refine⟨?_,a.2.1,fun j d=>?_⟩
 .rw[upd_ne (c k f).symm];exact a.1
 by_cases e:j=k
 .subst e;dsimp only;rw[upd_same,ve rfl];exact⟨rfl,(a.2.2 j d).2⟩
 dsimp only;rw[vd e,upd_ne fun q=>e (b j k d f q)];exact a.2.2 j d
attribute [local irreducible] IntKind.wrap wpM
section
variable {R tb nx:Nat}{ids ns:Nat->Nat}{C:Nat->Option Blk}{t:ai}{h:ab}{z:Frz}
theorem qPC {mr nx0 R b tb:Nat}{ids:Nat->Nat}{ow:List Nat}{e:D}{i o n:Nat}(k:Nat)(h:e=.ptr i o n)(h1:ow[k]?=some i):VU mr nx0 R b tb ids ow e (.ptr (b+mr+k) o n):=by subst h;exact .ownp k i o n h1
theorem tblS {rs:List RollS}{ps:Fv}{L:Hm}{k n j o1:Nat}{K:ab->Frz->Kept->Prop}
 (q:[t 8,t 1,t 2,t 9,t 29,t 30,t 31,t 42,t 43,t 44,t 10]=[.ref tb 0 R,rolls rs,aY ps,aa k,.lst L,aa R,aa k,aY ps,aa n,aa j,.ptr o1 0 0])
 (w:R<=8) (r:TabG R tb ids ns C h z) (g:∀i j,i<R->j<R->ids i=ids j->i=j) (l:∀j,j<R->ids j≠tb) (y:∀j,j<R->aI (C j)=true)
 (B:o1≠tb/\(∀j,j<R->ids j≠o1)/\aI (h o1)=true)
 (E:∀d e h1 m,(∀a c,TabG R 0 (fun j=>10+j) ns C (mkF 0 a none d 0) (mkF 0 c 0 e 0)/\mkF 0 a none d 0 18=h o1/\mkF 0 c 0 e 0 18=z o1)->K h1 m (.ref 0 0 R::([rolls rs,aY ps,aa k,.lst L,aa R,aa k,aY ps,aa n,aa j]++(List.replicate 8 .bad++([.ptr 18 0 0]++[]))),d,e)):
 bz 0 [(8,0),(1,0),(2,0),(9,0),(29,0),(30,0),(31,0),(42,0),(43,0),(44,0),(1049624584,1),(1050673160,1),(1051721736,1),(1052770312,1),(1053818888,1),(1054867464,1),(1055916040,1),(1056964616,1),(10,0)] t h z nx K:=by
 simp at q;obtain⟨s,F,G,H,I,J,M,N,P,o,f⟩:=q
 have u:∀(ow:List Nat),VsU 8 0 R 10 tb ids ow t [(1,0),(2,0),(9,0),(29,0),(30,0),(31,0),(42,0),(43,0),(44,0)] [rolls rs,aY ps,aa k,.lst L,aa R,aa k,aY ps,aa n,aa j]:=fun ow=>
  ⟨⟨.inl rfl,rfl,ji F rfl rfl⟩,⟨.inl rfl,rfl,ji G rfl rfl⟩,⟨.inl rfl,rfl,ji H rfl rfl⟩,⟨.inl rfl,rfl,ji I rfl rfl⟩,⟨.inl rfl,rfl,ji J rfl rfl⟩,⟨.inl rfl,rfl,ji M rfl rfl⟩,⟨.inl rfl,rfl,ji N rfl rfl⟩,⟨.inl rfl,rfl,ji P rfl rfl⟩,⟨.inl rfl,rfl,ji o rfl rfl⟩,tr⟩
 refine sQ (sz:=0) (mr:=8) (nx:=nx) (tt:=8) (A:=[(1,0),(2,0),(9,0),(29,0),(30,0),(31,0),(42,0),(43,0),(44,0)]) (O:=[(10,0)]) (Bn:=[]) (ow:=[o1]) (b:=10) (vo:=[.ptr 18 0 0]) (vb:=[]) ((EE (sz:=0) (mr:=8) (tt:=8) (A:=[(1,0),(2,0),(9,0),(29,0),(30,0),(31,0),(42,0),(43,0),(44,0)]) (O:=[(10,0)]) s r (u [])).trans rfl) rfl rfl s w r g (fun j Q=>⟨zB _,l j Q⟩) (zB _) y (u _) ?_ tr
  ⟨⟨.inl rfl,rfl,qPC 0 f rfl⟩,tr⟩ ?_ (by simp) ?_ fun d e h1 m p=>E d e h1 m fun a c=>⟨(p a c).1,((p a c).2 0 o1 rfl).1,((p a c).2 0 o1 rfl).2⟩
 .intro x v;simp at v;rcases v with rfl|rfl|rfl|rfl|rfl|rfl|rfl|rfl|rfl<;>(left;simp only[*];rfl)
 .show [bi (look t h 10)]=_;rw[ol rfl,f];rfl
 grind
theorem tblO {rs:List RollS}{ps:Fv}{L:Hm}{k:Nat}{K:ab->Frz->Kept->Prop}
 (d:[t 8,t 1,t 2,t 29,t 30,t 31]=[.ref tb 0 R,rolls rs,aY ps,.lst L,aa R,aa k])
 (l:R<=8) (m:TabG R tb ids ns C h z) (a:∀i j,i<R->j<R->ids i=ids j->i=j) (c:∀j,j<R->ids j≠tb) (n:∀j,j<R->aI (C j)=true)
 (o:∀e f h1 p,(∀q r,TabG R 0 (fun j=>6+j) ns C (mkF 0 q none e 0) (mkF 0 r 0 f 0))->K h1 p (.ref 0 0 R::([rolls rs,aY ps,.lst L,aa R,aa k]++(List.replicate 8 .bad++[])),e,f)):
 bz 0 [(8,0),(1,0),(2,0),(29,0),(30,0),(31,0),(1049624584,1),(1050673160,1),(1051721736,1),(1052770312,1),(1053818888,1),(1054867464,1),(1055916040,1),(1056964616,1)] t h z nx K:=by
 simp at d;obtain⟨s,u,v,w,y,B⟩:=d
 refine pw (sz:=0) (mr:=8) (nx:=nx) (tt:=8) (A:=[(1,0),(2,0),(29,0),(30,0),(31,0)]) (Bn:=[]) (b:=6) (va:=[rolls rs,aY ps,.lst L,aa R,aa k]) (vb:=[]) rfl rfl s l m a (fun j E=>⟨zB _,c j E⟩) (zB _) n
  ⟨⟨.inl rfl,rfl,ji u rfl rfl⟩,⟨.inl rfl,rfl,ji v rfl rfl⟩,⟨.inl rfl,rfl,ji w rfl rfl⟩,⟨.inl rfl,rfl,ji y rfl rfl⟩,⟨.inl rfl,rfl,ji B rfl rfl⟩,tr⟩ ?_ tr o
 intro x g;simp at g;rcases g with rfl|rfl|rfl|rfl|rfl<;>(left;simp only[*];rfl)
end
theorem qOB {f g:Nat->D}{F:D->Option D}:∀(l:List Nat),(∀j∈l,F (f j)=some (g j))->(l.map f).mapM F=some (l.map g)
 |[],_=>rfl
 |a::l,h=>by
  rw[zg,xB,h a (zO ..),qOB l fun j b=>h j (zG _ b)];rfl
theorem snapR {h:ab}{id n:Nat}{es:Hm}(hr:h id=some (.row es 1))(a:n=es.length)(b:es.all (dat 4)=true):aG h 8 (.ref id 0 n)=some (.lst es):=by
 rw[aG,hr];simp_all[Eo]
def Lr (rs:List RollS)(ps:Fv)(y:Ply):List Bool:=ps.map fun p=>(nP y rs (eD p) p).1
def Zi (rs:List RollS)(ps:Fv)(Q:List Ply)(k j:Nat):List Bool:=if j<k then Lr rs ps (dL Q j)else []
def Rc (rs:List RollS)(ps:Fv)(Q:List Ply)(k j i:Nat):List Bool:=if i=k then(Lr rs ps (dL Q k)).take j++List.replicate (ps.length-j) false else Zi rs ps Q k i
def PI (l:List Bool):Option Blk:=some (.row (l.map D.bool) 1)
theorem Vk (l:List Bool):aI (PI l)=true:=ae (fun _=>rfl) l
theorem qPr {rs:List RollS}{ps:Fv}{Q:List Ply}(k i:Nat):Rc rs ps Q k ps.length i=Zi rs ps Q (k+1) i:=by
 unfold Rc Zi;simp_all[zZ,Lr];grind
theorem qP7 {rs:List RollS}{ps:Fv}{Q:List Ply}(k i:Nat):Rc rs ps Q k 0 i=if i=k then List.replicate ps.length false else Zi rs ps Q k i:=by
 rfl
theorem qPs {rs:List RollS}{ps:Fv}{Q:List Ply}{k j:Nat}(a:j<ps.length):((Rc rs ps Q k j k).map D.bool).set j (.bool (nP (dL Q k) rs (eD (plg ps j)) (plg ps j)).1)=(Rc rs ps Q k (j+1) k).map D.bool:=by
 unfold Rc;rw[ve rfl,ve rfl];apply zp;grind[Lr]
 .intro i h1 b;rw[yr];simp[List.getElem_append,Lr];by_cases e:j=i
  .subst e;rw[ve rfl,dif_pos (by omega),fw a]
  grind
theorem qPt {rs:List RollS}{ps:Fv}{Q:List Ply}{k j:Nat}(a:j<ps.length):((Rc rs ps Q k j k).map D.bool)[j]?=some (.bool false):=by
 unfold Rc;rw[ve rfl,List.getElem?_map,xX (by grind),y8,List.getElem?_replicate,ve (by grind[Lr])];rfl
theorem LayB.ck {m:Mkr}{ps:Fv}{rs:List RollS}{lots:List Int}{Q:List Ply}(h:LayB m ps rs lots Q){p:Rp}(a:p∈ps):bE p=0:=by
 have b:=(o6 (sR h.clo).ext).2.2.2.2 _ a;unfold eO at b;omega
theorem LayB.hit {m:Mkr}{ps:Fv}{rs:List RollS}{lots:List Int}{Q:List Ply}(h:LayB m ps rs lots Q){y:Ply}(a:y∈Q){p:Rp}(b:p∈ps):
 PU 68 [y.enc,rolls rs,ac p]=some (.tup [.bool (nP y rs (eD p) p).1,.int .i64 0]):=by
 obtain⟨t1,t2⟩:=lS _ (h.ck b);have:=qPd y rs p _ (by have:=h.p20 y a;omega) h.rb t1 t2;rwa[qPe (sR h.clo) (h.lay.pl y a).1 b (eD p)]at this
theorem qPu {m:Mkr}{ps:Fv}{rs:List RollS}{lots:List Int}{Q:List Ply}(h:LayB m ps rs lots Q)(G:Q.length<=8)(b0:ps.length<=60):
 PU 27 [di m Q,rolls rs,aY ps]=some (.tup [tabD (Q.map (Lr rs ps)),.int .i64 0]):=by
 refine PS rfl ?_
 repeat' (first
  |refine jP rfl ?_
  |refine gr rfl ?_|refine aq rfl ?_|refine au rfl ?_ ?_<;>intro _
  |refine ak rfl ?_|refine aj rfl ?_|refine an rfl ?_ ?_<;>intro _
  |refine aL rfl ?_ ?_<;>intro _
  |refine fI rfl ?_)
 grind[ad];grind[ad];rw[zA];refine eu Q.length rfl rfl rfl (by grind[aK]) ?_;refine gg rfl ?_;simp only[zA]
 refine rJ (S:=fun x:Nat×RU×List Nat=>(.ref 0 0 Q.length::([rolls rs,aY ps,.lst (Q.map Ply.enc),aa Q.length,aa x.1]++List.replicate 8 .bad),x.2.1,x.2.2))
  (C:=fun x=>x.1<=Q.length/\∀a c,TabG Q.length 0 (fun j=>6+j) (fun j=>if j<x.1 then ps.length else 0) (fun j=>PI (Zi rs ps Q x.1 j)) (mkF 0 a none x.2.1 0) (mkF 0 c 0 x.2.2 0)) (m:=fun x=>Q.length-x.1) Q.length (by omega) ?_ ?_
 .refine QD (sz:=0) (mr:=8) (tt:=8) (tb:=39) (R:=Q.length) (A:=[(1,0),(2,0),(29,0),(30,0),(31,0)]) (b:=6) (va:=[rolls rs,aY ps,.lst (Q.map Ply.enc),aa Q.length,aa 0]) rfl rfl rfl G rfl rfl (by decide) (by decide) ⟨⟨.inl rfl,rfl,.pl _ rfl rfl⟩,⟨.inl rfl,rfl,.pl _ rfl rfl⟩,⟨.inl rfl,rfl,.pl _ rfl rfl⟩,⟨.inl rfl,rfl,.pl _ rfl rfl⟩,⟨.inl rfl,rfl,.pl _ rfl rfl⟩,tr⟩ ?_ fun p q _ _ s=>?_
  .intro x hx;simp at hx;rcases hx with rfl|rfl|rfl|rfl|rfl<;>exact .inl rfl
  exact⟨(0,p,q),⟨zB _,s⟩,by simp,rfl⟩
 rintro⟨k,p,q⟩ ⟨H,hT⟩ a c N hN;dsimp only at H hT hN⊢;have s:=hT a c;generalize mkF 0 a none p 0=HH at*;generalize mkF 0 c 0 q 0=ZZ at*;refine jC rfl (fun e=>?_) (fun e=>?_)
 .rw[ad]at e;have f:k<Q.length:=by omega
  have w1:=wS (n:=k);have hy:dL Q k=Q[k]:=by grind[dL]
  have he:(Q.map Ply.enc)[k]?=some (dL Q k).enc:=by grind
  have I:dL Q k∈Q:=by grind
  refine jX k rfl rfl he rfl (gg rfl ?_);rw[zA];refine eu ps.length rfl rfl rfl (by grind[aK]) ?_;refine gg rfl (aA k rfl s.1 rfl rfl rfl f ?_);simp only[zC];refine gg rfl (dq (k:=k) (e:=.ref (6+k) 0 (if k<k then ps.length else 0)) (e':=.ref 56 0 ps.length) rfl rfl s.1 (zR (vD s.2.1) (zB _)) (by grind) rfl ?_);have J:=(((s.upd (x:=49) (v:=some (.row [.agg [.int .i64 0,.nilsl]] 2)) (by decide) (by omega)).upd (x:=49) (v:=some (.row [(dL Q k).enc] 2)) (by decide) (by omega)).upd (x:=56) (v:=some (.row (List.replicate ps.length (D.bool false)) 1)) (by decide) (by omega)).updz (x:=49) (v:=0) (by decide) (by omega) |>.updz (x:=56) (v:=0) (by decide) (by omega)
  refine gg rfl ?_;simp only[zA];have hP:=J.put (k:=k) (X:=56) (n:=ps.length) (v:=some (.row (List.replicate ps.length (D.bool false)) 1)) (by decide) (fun j _=>by omega) (fun j _=>by omega) (upd_same _ _ _) (upd_same _ _ _)
  have M:(fun j=>if j=k then ps.length else if j<k then ps.length else 0)=fun j=>if j<k+1 then ps.length else 0:=by
   grind
  have O:(fun j=>if j=k then some (.row (List.replicate ps.length (D.bool false)) 1)else PI (Zi rs ps Q k j))=fun j=>PI (Rc rs ps Q k 0 j):=by
   funext j;rw[qP7];by_cases e1:j=k
   simp_all[PI];grind
  rw[M,O]at hP
  refine rJ (S:=fun x:Nat×RU×List Nat=>(.ref 0 0 Q.length::([rolls rs,aY ps,aa k,.lst (Q.map Ply.enc),aa Q.length,aa k,aY ps,aa ps.length,aa x.1]++(List.replicate 8 .bad++([.ptr 18 0 0]++[]))),x.2.1,x.2.2))
   (C:=fun x=>x.1<=ps.length/\∀a c,TabG Q.length 0 (fun j=>10+j) (fun j=>if j<k+1 then ps.length else 0) (fun j=>PI (Rc rs ps Q k x.1 j)) (mkF 0 a none x.2.1 0) (mkF 0 c 0 x.2.2 0)/\mkF 0 a none x.2.1 0 18=some (.row [(dL Q k).enc] 2)/\mkF 0 c 0 x.2.2 0 18=0) (m:=fun x=>ps.length-x.1) ps.length (by omega) ?_ ?_
  .refine tblS (rs:=rs) (ps:=ps) (L:=Q.map Ply.enc) (k:=k) (n:=ps.length) (j:=0) (R:=Q.length) (tb:=0) (o1:=49) rfl G hP (fun i j _ _ e=>?_) (fun j _=>?_) (fun j _=>Vk _) ⟨by decide,fun j _=>?_,?_⟩ fun p q _ _ r=>?_;grind;grind;grind
   .rfl
   exact⟨(0,p,q),⟨zB _,fun a c=>⟨(r a c).1,(r a c).2.1,(r a c).2.2⟩⟩,by simp,rfl⟩
  rintro⟨j,P,T⟩ ⟨b4,U⟩ u w N2 V;obtain⟨d,t,W⟩:=U u w;generalize mkF 0 u none P 0=H2 at*;generalize mkF 0 w 0 T 0=Z2 at*;refine jC rfl (fun Y=>?_) (fun Y=>?_)
  .rw[ad]at Y;have o:j<ps.length:=by omega
   have w2:=wS (n:=j);have Z:=kw o;have a0:plg ps j∈ps:=by grind[fw]
   have y:=h.hit I a0;have z:=qPs (rs:=rs) (Q:=Q) (k:=k) o;have a1:=qPt (rs:=rs) (Q:=Q) (k:=k) o;have B:H2 (10+k)=some (.row ((Rc rs ps Q k j k).map D.bool) 1):=(d.2.2 k f).1;have a2:Z2 (10+k)=0:=(d.2.2 k f).2;generalize (nP (dL Q k) rs (eD (plg ps j)) (plg ps j)).1=hb at*;obtain⟨H0,rfl⟩:=PJ t;refine jX j rfl rfl Z rfl (jA rfl y (gg rfl (aj (by show D.bool (nqb 0 0)=_;simp[aE]) ?_)));refine gg rfl (aA k rfl d.1 rfl rfl rfl f (aQ rfl d.1 (e:=.ref (10+k) 0 (if k<k+1 then ps.length else 0)) (by grind) rfl ?_));rw[ve (vS k)];refine gg rfl (aA j rfl B rfl rfl rfl o ?_);simp;refine dq (k:=j) (e:=.bool false) (e':=.bool hb) rfl rfl B (zR (vD a2) (zB _)) a1 rfl ?_;rw[z];refine gE rfl ?_;have hD:=d.row (k:=k) (v:=PI (Rc rs ps Q k (j+1) k)) f (fun i j _ _ e=>by omega) (fun j _=>by omega)
   have E:(fun i=>if i=k then PI (Rc rs ps Q k (j+1) k)else PI (Rc rs ps Q k j i))=fun i=>PI (Rc rs ps Q k (j+1) i):=by
    funext i;by_cases e1:i=k
    grind;simp_all[Rc]
   rw[E]at hD;refine V (tblS (rs:=rs) (ps:=ps) (L:=Q.map Ply.enc) (k:=k) (n:=ps.length) (j:=j+1) (R:=Q.length) (tb:=0) (ids:=fun j=>10+j) (o1:=18) (by rw[<-w2];rfl) G hD (fun i j _ _ e=>by omega) (fun j _=>by omega) (fun j _=>Vk _) ⟨by decide,fun j _=>by omega,?_⟩ fun p q _ _ r=>?_)
   .rw[upd_ne (by omega),t];rfl
   refine⟨(j+1,p,q),⟨o,fun a c=>⟨(r a c).1,(r a c).2.1.trans ((upd_ne (by omega)).trans t),(r a c).2.2.trans W⟩⟩,by omega,rfl⟩
  rw[af]at Y;obtain rfl:j=ps.length:=by omega
  have a3:(fun i=>PI (Rc rs ps Q k ps.length i))=fun i=>PI (Zi rs ps Q (k+1) i):=by simp[qPr]
  rw[a3]at d;refine gE rfl (gE rfl (hN (tblO (rs:=rs) (ps:=ps) (L:=Q.map Ply.enc) (k:=k+1) (R:=Q.length) (tb:=0) (ids:=fun j=>10+j) (by rw[<-w1];rfl) G d (fun i j _ _ e=>by omega) (fun j _=>by omega) (fun j _=>Vk _) fun p q _ _ r=>?_)));exact⟨(k+1,p,q),⟨f,r⟩,by omega,rfl⟩
 rw[af]at e;obtain rfl:k=Q.length:=by omega
 obtain⟨H0,rfl⟩:=PJ s.1;refine gE rfl (gg rfl (finW rfl rfl ?_));intro K hK;show kM _ ((List.range Q.length).map fun j=>D.ref (6+j) 0 (if j<Q.length then ps.length else 0)) 0 Q.length fun l=>K (.tup [.lst l,.int .i64 0]);unfold kM;refine⟨(Q.map (Lr rs ps)).map Zr,by simp,?_,hK⟩;rw[x6,zZ (by simp),qOB (g:=fun j=>Zr (Lr rs ps (dL Q j)))]
 .congr 1;apply zp (by simp);grind[dL]
 intro j F;have F:=yN.1 F;have:upd H0 0 _ (6+j)=PI (Zi rs ps Q Q.length j):=(s.2.2 j F).1;rw[Zi,ve F]at this;rw[ve F];exact snapR this (by simp[Lr]) (bF (fun _=>rfl) _)
end Go.F
namespace Go.F
def I8 (L:List Rst)(i u:Int):Nat->Int
 |0=>u
 |k+1=>if(rst L k).roll=i then IntKind.i64.wrap (IntKind.i64.wrap (I8 L i u k+(rst L k).to)-(rst L k).from_)else I8 L i u k
theorem ZO (a:Int):IntKind.i64.wrap a=if 9223372036854775808<=a%18446744073709551616 then a%18446744073709551616-18446744073709551616 else a%18446744073709551616:=by simp[IntKind.wrap,IntKind.bits,IntKind.signed]
theorem qPw (a:Int):∃q:Int,IntKind.i64.wrap a=a+q*18446744073709551616:=by
 rw[ZO];by_cases h:9223372036854775808<=a%18446744073709551616
 .exact⟨-(a/18446744073709551616)-1,by omega⟩
 exact⟨-(a/18446744073709551616),by omega⟩
theorem qPD (a q:Int):IntKind.i64.wrap (a+q*18446744073709551616)=IntKind.i64.wrap a:=by
 simp[ZO]
theorem qPx (a b c:Int):IntKind.i64.wrap (IntKind.i64.wrap (IntKind.i64.wrap a+b)-c)=IntKind.i64.wrap (a+(b-c)):=by
 obtain⟨q,h⟩:=qPw a;rw[h];obtain⟨r,h⟩:=qPw (a+q*18446744073709551616+b);rw[h,show a+q*18446744073709551616+b+r*18446744073709551616-c=a+(b-c)+(q+r) *18446744073709551616 by omega,qPD]
theorem qOC {L:List Rst}{i u:Int}(h:IntKind.i64.wrap u=u):∀k,k<=L.length->I8 L i u k=IntKind.i64.wrap (u+kO (L.take k) i)
 |0,_=>by grind[I8,kO]
 |k+1,a=>by
  rw[I8,qOC h k (by omega),yd (by omega),qOy,<-qPz (show k<L.length by omega)];by_cases e:(rst L k).roll=i
  .rw[ve e,qPx];grind[kO]
  simp_all[kO]
theorem qOI {T:List Part}{rs:List RollS}(h:UseK T rs)(lots:List Int){i:Nat}(hi:i<rs.length):I8 (m0 T rs lots rs.length) i ((T.foldl OZ (List.replicate rs.length 0)).getD i 0) (m0 T rs lots rs.length).length=(rl rs i).length:=by
 have h1:=ZR h T.length (zD _) i hi;have a:=qOQ h hi;have h3:=ZP h.cl i;rw[qOC (by grind[wrap64]) _ (zD _),zH,qOF h lots hi,wrap64 (by omega) (by omega)]
theorem Z0 {T:List Part}{rs:List RollS}(h:UseK T rs)(lots:List Int):∀n,n<=rs.length->(m0 T rs lots n).length<=n
 |0,_=>zD _
 |n+1,a=>by
  obtain⟨e,h1,_,_⟩:=h.chain (i:=n) (by omega);have:=Z0 h lots n (by omega);rw[m0,zL,show nsT T n=(zof T n).length from rfl,show zlS T rs n=zof T n++[⟨(rl rs n).length,(rl rs n).length⟩]from rfl,qO7 h1];grind
attribute [local irreducible] IntKind.wrap wpM
theorem qOi {m:Mkr}{ps:Fv}{rs:List RollS}{n:Nat}(a:gy m ps rs n=0):kY rs n=0:=by
 grind[gy]
theorem LayB.fl {m:Mkr}{ps:Fv}{rs:List RollS}{lots:List Int}{Q:List Ply}(h:LayB m ps rs lots Q){y:Ply}(j:y∈Q){p:Rp}(f:p∈ps):∃d:Int,0<=d/\d.toNat<y.parts.length/\PU 10 [y.enc,ac p]=some (.tup [.int .i64 d,.int .i64 0])/\PU 11 [(pa y.parts d.toNat).enc,rolls rs,ac p]=some (.bool (nP y rs (eD p) p).1):=by
 have a:=sR h.clo;obtain⟨F,e⟩:=h.lay.pl y j;have b:=DF a F f;obtain⟨c1,c2⟩:=ZU b;have i:=Fm y p (by omega);rw[b]at i;obtain⟨g,_⟩:=F.el _ c2;obtain⟨o1,o2,l,n,o⟩:=tk g.cl;have c:=a.rol.ok _ (zE (show(pa y.parts (dv y p).1.toNat).roll.toNat<rs.length by omega));rw[<-qL (by omega)]at c;obtain⟨t1,t2⟩:=lS _ (h.ck f);have k:=o6 a.ext;obtain⟨q,r,s,t,u,_⟩:=(qOS F e a.rol.ok a.w1 k.2.1).el _ c2;refine⟨(dv y p).1,c1,c2,i,?_⟩;rw[qP5 _ rs p _ t1 t2 (by omega) (by omega) c ⟨by omega,by omega⟩ ⟨by omega,by omega⟩,nP,eE,eE,eE]
set_option maxRecDepth 10000 in
theorem qPy {m:Mkr}{ps:Fv}{rs:List RollS}{lots:List Int}{Q:List Ply}(s:Sty)(b:Bed)(sizes:List Int)(a:List Int)(I:LaidF s b sizes rs lots m ps Q)(t:PU 5 [jv s b sizes,jl rs lots a]=some (.tup [di m Q,aY ps,.bool true]))(hS:PU 6 []=some (.bool true)):
 PU 3 [jv s b sizes,jl rs lots a]=some (.bool true):=by
 have B:=I.lay;have hc:=sR B.clo;have J:=o6 hc.ext;have R:=(qOb I.pol ⟨J.1,J.2.1⟩ ⟨hc.w1,hc.w2⟩).1;have T:ps.length<=60:=J.2.2.1;have hT:=qPu B I.q8 T
 have v:∀r∈Q.map (Lr rs ps),r.length=ps.length:=fun r hr=>by
  obtain⟨y,_,rfl⟩:=zy.1 hr;exact zA ..
 have a2:=Of_PU B T R hT v (by rw[zA];have:=I.q8;omega);obtain⟨b1,b2,b3,b4,b5⟩:=qOH I v (zA ..) rfl;have w:=qOi B.clo;have hR:=R6 m Q rs lots B.r6 w B.rb B.q40 B.p20 B.cl B.lay.ch B.tl;have hU:=qPo m Q rs lots B.r6 w B.rb B.q40 B.p20 B.cl B.lay.ch B.tl
 have hK:UseK (cy Q) rs:=⟨B.lay.ch,fun q hq=>by
  obtain⟨y,K,hq⟩:=yc.1 hq;exact B.cl y K q hq,fun r hr=>by
  have:=Es (hc.rol.ok r hr);omega⟩
 have A:=Yw (cy Q) (List.replicate rs.length 0);rw[vL]at A;have a4:=Z0 hK lots rs.length (zD _);have hw:=fun i hi=>qOI hK lots (i:=i) hi;have e9:=I.q8;have r6:=B.r6;have a5:=fun(y:Ply) (K:y∈Q) (p:Rp) (hp:p∈ps)=>B.fl K hp
 have a6:∀k,k<Q.length->FD ps (Q.map (Lr rs ps)) (k+1)=VO ps (Lr rs ps (dL Q k)) (FD ps (Q.map (Lr rs ps)) k) ps.length:=fun k hk=>by
  rw[FD];simp[hk,dL,Lr]
 have a8:∀y j,j<ps.length->(Lr rs ps y).getD j false=(nP y rs (eD (plg ps j)) (plg ps j)).1:=fun y j hj=>by simp[Lr,hj,fw hj]
 have b0:(FD ps (Q.map (Lr rs ps)) (Q.map (Lr rs ps)).length).2=(FD ps (Q.map (Lr rs ps)) Q.length).2:=by rw[zA]
 generalize (FD ps (Q.map (Lr rs ps)) (Q.map (Lr rs ps)).length).1=M at*;generalize (FD ps (Q.map (Lr rs ps)) (Q.map (Lr rs ps)).length).2=l at*;generalize tkS rs Q Q.length=V at*;generalize dbS rs Q Q.length=O at*;generalize IntKind.i64.wrap (IntKind.i64.wrap (IntKind.i64.wrap (V-O)-l)-M)=W at*;have b6:FD ps (Q.map (Lr rs ps)) 0=(0,0):=rfl;generalize Q.map (Lr rs ps)=H at*;generalize b7:m0 (cy Q) rs lots rs.length=L at*;generalize b8:(cy Q).foldl OZ (List.replicate rs.length 0)=U at*;clear hT v R b7 b8 w;have f0:nqb 0 0=false:=aE.2 rfl;have f1:=aE.2 b1;have f2:ltb M 0=false:=af.2 (by omega);have f3:ltb l 0=false:=af.2 (by omega);have f4:ltb O 0=false:=af.2 (by omega);have f5:ltb W 0=false:=af.2 (by omega);have f6:nqb ((U.map aa).length:Int) ((rs.map RollS.enc).length:Int)=false:=aE.2 (by rw[zA,zA,A]);refine PS rfl (jA rfl t (gg rfl (aj rfl (jA rfl a2 (jA rfl hR (jA rfl hU ?_))))))
 repeat (first|refine jP rfl ?_|refine gr rfl ?_|refine aq rfl ?_|refine ak rfl ?_|refine aj rfl ?_|rw[f0] |rw[f1] |rw[f2] |rw[f3] |rw[f4] |rw[f5] |rw[f6])
 refine aw (S:=fun i:Nat=>([.ptr 0 0 0,.ptr 1 0 0,aY ps,.ptr 3 0 0,.lst (L.map Rst.enc),ints U,aa i],some (.row [jl rs lots a] 3)::some (.row [di m Q] 7)::none::some (.row [xv V M l W O] 5)::nn3,zz7)) (C:=fun i=>i<=rs.length) (m:=fun i=>rs.length-i) 0 (zB _) (by omega) ?_ ?_
 .exact ah rfl ⟨rfl,rfl,rfl,tr⟩ rfl
 intro i hi N Y;refine jC rfl (fun e=>?_) (fun e=>?_)
 .rw[ad,zA]at e;have c:i<rs.length:=by omega
  have w1:=wS (n:=i);have c0:(U.map aa)[i]?=some (aa (U.getD i 0)):=by simp[show i<U.length by omega]
  have c3:=hw i c;have c4:=oI c;generalize U.getD i 0=u at*;refine jX i rfl rfl c0 rfl (gg rfl (aw (S:=fun k:Nat=>([.ptr 0 0 0,.ptr 1 0 0,aY ps,.ptr 3 0 0,.lst (L.map Rst.enc),ints U,aa i,.int .i64 (I8 L i u k),aa k],some (.row [jl rs lots a] 3)::some (.row [di m Q] 7)::none::some (.row [xv V M l W O] 5)::nn5,zz9)) (C:=fun k=>k<=L.length) (m:=fun k=>L.length-k) 0 (zB _) (by omega) ?_ ?_))
  .exact ah rfl ⟨rfl,rfl,rfl,tr⟩ rfl
  intro k hk N2 d;refine jC rfl (fun E=>?_) (fun E=>?_)
  .rw[ad,zA]at E;have F:k<L.length:=by omega
   have Z:=wS (n:=k);have G:=Ty F;have f:I8 L i u (k+1)=if(rst L k).roll=i then IntKind.i64.wrap (IntKind.i64.wrap (I8 L i u k+(rst L k).to)-(rst L k).from_)else I8 L i u k:=rfl;generalize I8 L i u k=n at*;generalize rst L k=x at*;refine jX k rfl rfl G rfl (jC rfl (fun e3=>?_) (fun e3=>?_))
   .rw[co]at e3;exact jX k rfl rfl G rfl (jX k rfl rfl G rfl (gE rfl (d (k+1) F (by omega) (ah rfl ⟨rfl,rfl,rfl,tr⟩ (by rw[Z,f,ve e3];rfl)))))
   rw[dG]at e3;exact gE rfl (d (k+1) F (by omega) (ah rfl ⟨rfl,rfl,rfl,tr⟩ (by rw[Z,f,vd e3];rfl)))
  rw[af,zA]at E;obtain rfl:k=L.length:=by omega
  clear d;rw[c3];exact gE rfl (jX i rfl rfl c4 rfl (gg rfl (aj (zX D.bool (aE.2 rfl)) (gE rfl (Y (i+1) c (by omega) (ah rfl ⟨rfl,rfl,rfl,tr⟩ (by rw[w1];rfl)))))))
 clear Y e hi hw A a4 hR hU;refine gE rfl (gg rfl (aw (S:=fun k:Nat=>([.ptr 0 0 0,.ptr 1 0 0,aY ps,.ptr 3 0 0,.int .i64 (FD ps H k).2,aa k],some (.row [jl rs lots a] 3)::some (.row [di m Q] 7)::none::some (.row [xv V M l W O] 5)::nn2,zz6)) (C:=fun k=>k<=Q.length) (m:=fun k=>Q.length-k) 0 (zB _) (by omega) ?_ ?_))
 .exact ah rfl ⟨rfl,rfl,rfl,tr⟩ (by rw[b6];rfl)
 intro k hk N Y;refine jC rfl (fun e=>?_) (fun e=>?_)
 .rw[ad,zA]at e;have c:k<Q.length:=by omega
  have w1:=wS (n:=k);have K:dL Q k=Q[k]:=by simp[dL,c]
  have J:(Q.map Ply.enc)[k]?=some (dL Q k).enc:=by simp[c,K]
  have c5:dL Q k∈Q:=by rw[K];exact zE _
  have c6:=a6 k c;generalize FD ps H k=X at*;refine gg rfl (aw (S:=fun j:Nat=>([.ptr 0 0 0,.ptr 1 0 0,aY ps,.ptr 3 0 0,.int .i64 (VO ps (Lr rs ps (dL Q k)) X j).2,aa k,aa j],some (.row [jl rs lots a] 3)::some (.row [di m Q] 7)::none::some (.row [xv V M l W O] 5)::nn3,zz7)) (C:=fun j=>j<=ps.length) (m:=fun j=>ps.length-j) 0 (zB _) (by omega) ?_ ?_)
  .exact ah rfl ⟨rfl,rfl,rfl,tr⟩ rfl
  intro j hj N2 d;refine jC rfl (fun E=>?_) (fun E=>?_)
  .rw[ad,zA]at E;have g:j<ps.length:=by omega
   have Z:=wS (n:=j);have h:=kw g;have c7:plg ps j∈ps:=by rw[fw g];exact zE _
   obtain⟨ci,c1,c2,hC,hF⟩:=a5 _ c5 _ c7;have f:VO ps (Lr rs ps (dL Q k)) X (j+1)=Zw ((Lr rs ps (dL Q k)).getD j false) (RO (plg ps j)) (VO ps (Lr rs ps (dL Q k)) X j):=rfl;rw[a8 _ _ g]at f;have g1:ltb ci 0=false:=af.2 (by omega);have g2:leb (((dL Q k).parts.map Part.enc).length:Int) ci=false:=aW.2 (by rw[zA];omega);generalize (nP (dL Q k) rs (eD (plg ps j)) (plg ps j)).1=hb at*;generalize VO ps (Lr rs ps (dL Q k)) X j=z at*;generalize plg ps j=p at*;have o:=nv c2;generalize dL Q k=y at*;obtain⟨lt,P⟩:=y;dsimp only at c2 hF g2 o;refine jX k rfl rfl J rfl (jX j rfl rfl h rfl (jA rfl hC ?_))
   repeat (first|refine jP rfl ?_|refine gr rfl ?_|refine aq rfl ?_|refine ak rfl ?_|refine aj rfl ?_|rw[f0] |rw[g1] |rw[g2] |refine cg k rfl rfl rfl J rfl ?_)
   refine cg ci.toNat rfl rfl (by omega) o rfl ?_;refine jX j rfl rfl h rfl (jA rfl hF (gg rfl ?_))
   cases hb with
   |true=>
    exact ak rfl (jX j rfl rfl h rfl (jA rfl (H4 p) (jX j rfl rfl h rfl (jA rfl (H4 p) (gE rfl (d (j+1) g (by omega) (ah rfl ⟨rfl,rfl,rfl,tr⟩ (by rw[Z,f];rfl))))))))
   |false=>
    exact aj rfl (gE rfl (d (j+1) g (by omega) (ah rfl ⟨rfl,rfl,rfl,tr⟩ (by rw[Z,f];rfl))))
  rw[af,zA]at E;obtain rfl:j=ps.length:=by omega
  clear d;exact gE rfl (gE rfl (Y (k+1) c (by omega) (ah rfl ⟨rfl,rfl,rfl,tr⟩ (by rw[w1,c6];rfl))))
 rw[af,zA]at e;obtain rfl:k=Q.length:=by omega
 clear Y;rw[<-b0];refine gE rfl ?_;have f7:eqb l l=true:=co.2 rfl
 repeat (first|refine jP rfl ?_|refine gr rfl ?_|refine aq rfl ?_|refine ak rfl ?_|refine aj rfl ?_|rw[f7] |refine aB rfl rfl hS ?_)
 exact fI rfl rfl
theorem qPE (c:PU 6 []=some (.bool true))(s:Sty)(b:Bed)(sizes:List Int)(rs:List RollS)(lots a:List Int)(e:StyQ s)(hr:∀r∈rs,RolQ r):
 PU 3 [jv s b sizes,jl rs lots a]=some (.bool true):=by
 obtain⟨d,f,m,ps,Q,ok,rfl,g⟩:=XW s b sizes rs lots a e hr
 cases ok with
 |true=>grind[qPy]
 |false=>
  exact PS rfl (jA rfl f (gg rfl (ak rfl (jA rfl c (jZ rfl)))))
end Go.F
namespace Go.F
section
variable {P:Program}{G:FuncId->Bool}{pl:FuncId->Plan}{E:Env}
structure EvE (P:Program)(G:FuncId->Bool)(pl:FuncId->Plan)(E:Env):Prop where
 p:∀f args r,E.pure f args=some r->Evt fun M=>(env P G pl M).pure f args=some r
 s:∀f args h z nx r,E.shar f args h z nx=some r->Evt fun M=>(env P G pl M).shar f args h z nx=some r
abbrev qk (P:Program)(G:FuncId->Bool)(pl:FuncId->Plan)(S:FuncId->Bool)(M:Nat):Env:=⟨(env P G pl M).pure,(env P G pl M).shar,S⟩
theorem Qq (hE:EvE P G pl E){h:ab}{f:FuncId}{args:Hm}{r:Out}(a:ig E.pure h f args=some r):Evt fun M=>ig (env P G pl M).pure h f args=some r:=by
 unfold ig at a;split at a
 grind
 .split at a
  grind
  .rename_i d b;exact(hE.p _ _ _ b).mono fun M c=>by grind[ig]
theorem XM (hE:EvE P G pl E){o:Oper}{t:ai}{h:ab}{z:Frz}{id:Nat}{r:Out}(b:step P E.pure o t h z id=some r):Evt fun M=>step P (env P G pl M).pure o t h z id=some r:=by
 unfold step at b;cases a:o.op<;>simp only[a]at b<;>first|(exact Evt.all fun M=>by unfold step;simp only[a];exact b) |skip
 rename_i cl;cases c:cl.callee<;>simp only[c]at b<;>first|(exact Evt.all fun M=>by unfold step;simp only[a,c];exact b) |skip
 grind[Qq,step]
theorem one_ev (hE:EvE P G pl E){a:Bool}{e:Sp}{ops:Array Oper}{o:Oper}{i base:Nat}{s s':St}(b:one P E a e ops o i base s=some s'):Evt fun M=>one P (qk P G pl E.shared M) a e ops o i base s=some s':=by
 unfold one at b;split at b
 .split at b
  .split at b
   .rename_i v h z nx c
    exact(hE.s _ _ _ _ _ _ c).mono fun M f=>by
     simp_all[one,de]
   grind
  split at b
  .rename_i r d
   exact(XM hE d).mono fun M f=>by
    simp_all[one,de]
  grind
 grind[Evt.all,one];grind
theorem NW (hE:EvE P G pl E){c:Bool}{d:Sp}{ops:Array Oper}{base:Nat}:∀{l:List Oper} {i:Nat} {s s':St},gG P E c d ops base l i s=some s'->Evt fun M=>gG P (qk P G pl E.shared M) c d ops base l i s=some s'
 |[],i,s,s',h=>Evt.all fun _=>h
 |o::l,i,s,s',h=>by
  simp only[gG]at h;split at h
  .rename_i e h1;exact(one_ev hE h1).of2 (NW hE h) fun M a b=>by grind[gG]
  grind
theorem XT (hE:EvE P G pl E){p:Plan}{nx0:Nat}:∀(c:Code) (s:St) (r:Ex×St),aR P E p nx0 c s=some r->Evt fun M=>aR P (qk P G pl E.shared M) p nx0 c s=some r:=by
 intro c
 induction c with
 |region k ops v=>
  intro s r h;simp only[aR]at h;grind[NW,aR]
 |seq a b d l=>
  intro s r h;simp only[aR]at h
  cases o:aR P E p nx0 a s with
  |none=>grind
  |some q=>
   rw[o]at h;obtain⟨m,j⟩:=q
   cases m with
   |normal=>exact(d s _ o).of2 (l j r h) fun M x y=>by grind[aR]
   |exit i=>exact(d s _ o).mono fun M x=>by grind[aR]
   |ret=>exact(d s _ o).mono fun M x=>by grind[aR]
 |cond c a b d l=>
  grind[aR]
 |block id c f=>
  intro s r h;simp only[aR]at h
  cases w:aR P E p nx0 c s with
  |none=>grind
  |some q=>
   exact(f s q w).mono fun M x=>by grind[aR]
 |loop c f=>
  intro s r h;simp only[aR]at h;split at h
  .have key:∀(n:Nat) (s:St),eK (aR P E p nx0 c) n s=some r->Evt fun M=>eK (aR P (qk P G pl E.shared M) p nx0 c) n s=some r:=by
    intro n
    induction n with
    |zero=>simp[eK]
    |succ n g=>
     intro s h;simp only[eK]at h
     cases e:aR P E p nx0 c s with
     |none=>grind
     |some q=>
      rw[e]at h;obtain⟨m,t⟩:=q
      cases m with
      |normal=>exact(f s _ e).of2 (g t h) fun M x y=>by grind[eK]
      |exit i=>exact(f s _ e).mono fun M x=>by grind[eK]
      |ret=>exact(f s _ e).mono fun M x=>by grind[eK]
   grind[aR]
  have key:∀(n:Nat) (s:St),dO nx0 (p.pn (dd c)) (p.lv (dd c)) (aR P E p nx0 c) n s=some r->Evt fun M=>dO nx0 (p.pn (dd c)) (p.lv (dd c)) (aR P (qk P G pl E.shared M) p nx0 c) n s=some r:=by
   intro n
   induction n with
   |zero=>simp[dO]
   |succ n g=>
    intro s h;simp only[dO]at h
    cases u:q6I nx0 (p.pn (dd c)) (p.lv (dd c)) s with
    |none=>grind
    |some j=>
     rw[u]at h;simp at h
     cases e:aR P E p nx0 c j with
     |none=>grind
     |some q=>
      rw[e]at h;obtain⟨m,t⟩:=q
      cases m with
      |normal=>exact(f j _ e).of2 (g t h) fun M x y=>by grind[dO]
      |exit i=>exact(f j _ e).mono fun M x=>by grind[dO]
      |ret=>exact(f j _ e).mono fun M x=>by grind[dO]
  grind[aR]
 |_=>intro s r h;exact Evt.all fun _=>h
theorem Jz (hE:EvE P G pl E){p:Plan}{fn:Func}{c:Code}{args:Hm}{h:ab}{z:Frz}{nx:Nat}{r:D×ab×Frz×Nat}(a:body P E p fn c args h z nx=some r):Evt fun M=>body P (qk P G pl E.shared M) p fn c args h z nx=some r:=by
 unfold body at a
 cases b:aR P E p nx c ⟨enter args,h,z,nx⟩with
 |none=>grind
 |some q=>exact(XT hE c _ q b).mono fun M d=>by grind[body]
def envS (P:Program)(G:FuncId->Bool)(pl:FuncId->Plan)(E:Env):Env:=
    ⟨fun f args=>
      match P.funcs[f]? with
      |none=>none
      |some fn=>
       match fn.body with
       |none=>none
       |some c=>
        match(pl f).gv with
        |[]=>
         match(pl f).em&&fW args with
         |true=>some (.lst [])
         |false=>
          match body P ⟨E.pure,E.shar,iI G (pl f).hr⟩ (pl f) fn c args empty kl 0 with
          |none=>none
          |some (d,h,_,_)=>aG h depth d
        |a=>ib E.pure a args,
     fun f args h z nx=>
      match P.funcs[f]? with
      |none=>none
      |some fn=>
       match fn.body with
       |none=>none
       |some c=>
        match(pl f).gv with
        |[]=>
         match(pl f).em&&fW args with
         |true=>some (.lst [],h,z,nx)
         |false=>body P ⟨E.pure,E.shar,iI G (pl f).hr⟩ (pl f) fn c args h z nx
        |a=>fM E.pure a args h z nx,
     G⟩
theorem Evt.succ {p:Nat->Prop}(h:Evt fun M=>p (M+1)):Evt p:=by
 obtain⟨N,a⟩:=h;exact⟨N+1,fun M b=>by obtain⟨k,rfl⟩:∃k,M=k+1:=⟨M-1,by omega⟩;grind⟩
theorem Qb (hE:EvE P G pl E):EvE P G pl (envS P G pl E) where
 p:=by
  intro f args r h;refine Evt.succ ?_;unfold envS at h;simp at h;split at h
  grind
  .rename_i fn e;split at h
   grind
   .rename_i c g;split at h
    .rename_i a;split at h
     grind[Evt.all,env]
     .rename_i i;split at h
      grind
      .rename_i d j z nx k
       exact(Jz (E:=⟨E.pure,E.shar,iI G (pl f).hr⟩) ⟨hE.p,hE.s⟩ k).mono fun M b=>by
        simp[env];grind
    exact(C6 (pus:=fun M=>(env P G pl M).pure) hE.p h).mono fun M b=>by
     grind[env]
 s:=by
  intro f args j z nx r h;refine Evt.succ ?_;unfold envS at h;simp at h;split at h
  grind
  .rename_i fn e;split at h
   grind
   .rename_i c g;split at h
    .rename_i a;split at h
     grind[Evt.all,env]
     .rename_i i
      exact(Jz (E:=⟨E.pure,E.shar,iI G (pl f).hr⟩) ⟨hE.p,hE.s⟩ h).mono fun M b=>by
       simp only[env,e,g,a,i];omega
    exact(Dq (pus:=fun M=>(env P G pl M).pure) hE.p h).mono fun M b=>by
     grind[env]
def tH (P:Program)(G:FuncId->Bool)(pl:FuncId->Plan)(a:Pure):Nat->Env
 |0=>⟨a,fun _ _ _ _ _=>none,G⟩
 |n+1=>
  ⟨fun f args=>match a f args with|some r=>some r|none=>(envS P G pl (tH P G pl a n)).pure f args,(envS P G pl (tH P G pl a n)).shar,G⟩
theorem Jc {a:Pure}(b:∀f args r,a f args=some r->Evt fun M=>(env P G pl M).pure f args=some r):∀n,EvE P G pl (tH P G pl a n)
 |0=>⟨b,fun f args h z nx r hr=>by trivial⟩
 |n+1=>by
  have c:=Qb (Jc b n);refine⟨fun f args r h=>?_,c.s⟩;simp only[tH]at h;split at h
  grind
  .exact c.p _ _ _ h
end
open Go.Proofs
def cmpO (f:FuncId)(args:Hm):Option D:=
 match args with
 |[.agg [.int .i64 a,.int .i64 b],.agg [.int .i64 c,.int .i64 d]]=>
  match Nat.beq f 192||(Nat.beq f 246||Nat.beq f 290)with
  |true=>some (.int .i64 (cQ ⟨a,b⟩ ⟨c,d⟩))
  |false=>none
 |_=>none
theorem PV {f:FuncId}{args:Hm}{r:D}(h:cmpO f args=some r):PU f args=some r:=by
 unfold cmpO at h;split at h
 .split at h
  .rename_i a;rw[xF,xF]at a;cases h;rcases a with a|a|a<;>obtain rfl:=zl a
   .exact DL ⟨_,_⟩ ⟨_,_⟩
   .exact uV ⟨_,_⟩ ⟨_,_⟩
   exact FX ⟨_,_⟩ ⟨_,_⟩
  cases h
 cases h
abbrev Memo:=List (FuncId×Hm×D)
def AY:Memo->FuncId->Hm->Option D
 |[],f,args=>cmpO f args
 |m::l,f,args=>match Nat.beq m.1 f&&eqL m.2.1 args with|true=>some m.2.2|false=>AY l f args
def DB:Memo->Prop
 |[]=>True
 |m::l=>PU m.1 m.2.1=some m.2.2/\DB l
theorem Ir:∀{l:Memo},DB l->∀{f:FuncId} {args:Hm} {r:D},AY l f args=some r->PU f args=some r
 |[],_,f,args,r,h=>PV h
 |m::l,b,f,args,r,h=>by
  rw[AY]at h;split at h
  .rename_i a;rw[zJ]at a;rw[<-zl a.1,<-Gv.eqL_eq a.2,<-h];exact b.1
  exact Ir b.2 h
noncomputable def runO (l:Memo)(n:Nat)(f:FuncId)(args:Hm)(r:D):Bool:=
 match(tH Tryz.prog kK fL (AY l) n).pure f args with
 |some d=>eqD d r
 |none=>false
theorem gQ {l:Memo}{n:Nat}{f:FuncId}{args:Hm}{r:D}(h:runO l n f args r=true)(a:DB l):PU f args=some r:=by
 unfold runO at h;split at h
 .rename_i d b;rw[<-Gv.eqD_eq h];exact rX ((Jc (fun f args r h=>Bt (Ir a h)) n).p f args d b)
 cases h
end Go.F
namespace Go.F
set_option maxRecDepth 100000
def sqA:Rp:=[⟨0,0⟩,⟨10,0⟩,⟨10,10⟩,⟨0,10⟩]
def sqB:Rp:=[⟨0,10⟩,⟨-10,10⟩,⟨-10,0⟩,⟨0,0⟩]
def sqC:Rp:=[⟨10,20⟩,⟨0,20⟩,⟨0,10⟩,⟨10,10⟩]
def pairP:Piece:=⟨⟨#[102,114,111,110,116]⟩,
 [⟨⟨#[108,111,119]⟩,[⟨0,0⟩,⟨10,0⟩]⟩,⟨⟨#[114,105,103,104,116]⟩,[⟨10,0⟩,⟨10,10⟩]⟩,⟨⟨#[104,105,103,104]⟩,[⟨10,10⟩,⟨0,10⟩]⟩,⟨⟨#[108,101,102,116]⟩,[⟨0,10⟩,⟨0,0⟩]⟩],
 1,[],[⟨0,0⟩,⟨1,0⟩,⟨1,0⟩,⟨0,0⟩],[0,0,0,0],false⟩
def pairX:Sty:=⟨⟨#[115,104,105,114,116]⟩,[⟨#[83]⟩,⟨#[77]⟩],[0,2],[pairP],[⟨0,2,true⟩],[],[]⟩
def bedX:Bed:=⟨100,20,⟨0,0⟩⟩
def ni:List Shp:=[⟨sqA,1,false,⟨0,0⟩⟩,⟨sqB,1,false,⟨0,0⟩⟩]
def regX:Fv:=[[⟨0,-10⟩,⟨20,-10⟩,⟨0,10⟩],[⟨0,0⟩,⟨10,-10⟩,⟨20,-10⟩,⟨20,0⟩,⟨10,10⟩,⟨0,10⟩],[⟨0,10⟩,⟨20,-10⟩,⟨20,10⟩]]
def sptX:Rp:=[⟨0,-10⟩,⟨0,0⟩,⟨0,10⟩,⟨10,-10⟩,⟨10,10⟩,⟨20,-10⟩,⟨20,0⟩,⟨20,10⟩]
def oY:List Put2:=[⟨0,⟨false,0⟩,⟨0,0⟩⟩,⟨1,⟨false,0⟩,⟨10,10⟩⟩]
def okZ (d:D):D:=.tup [d,.int .i64 0]
def plcX:List Plc:=[⟨0,0,0,false,0,0,0⟩,⟨0,0,1,true,0,0,0⟩]
def mkrX:Mkr:=⟨10,20,⟨0,0⟩,[0],[⟨0,0,0,false,0,0,0⟩,⟨0,0,1,true,0,10,10⟩]⟩
def rolX:List RollS:=[⟨⟨#[65]⟩,20,25,0,0,0,[]⟩]
def plyX:List Ply:=[⟨0,[⟨0,0,10,0⟩]⟩,⟨0,[⟨0,10,20,0⟩]⟩]
theorem Qe:PU 24 []=some pairX.enc:=gQ (l:=[]) (n:=9) (by kernel_rfl) tr
theorem Yr:PU 244 [ac sqA,ac sqB]=some (okZ (aY regX)):=gQ (l:=[]) (n:=20) (by kernel_rfl) tr
theorem RK:PU 218 [ac sqA,ac sqB]=some (okZ (ac sptX)):=gQ (l:=[(_,_,_)]) (n:=20) (by kernel_rfl) ⟨Yr,tr⟩
theorem P8:PU 94 [bedX.enc,cq ni,cW [],aa 0]=some (okZ (pu2 oY 0).enc):=gQ (l:=[]) (n:=20) (by kernel_rfl) tr
theorem W6:PU 141 [bedX.enc,(shp ni 1).enc,.agg [.bool false,aa 0],ac sqB,aY [sqA]]=some (okZ (ac [⟨0,-10⟩,⟨0,0⟩,⟨0,10⟩,⟨10,-10⟩,⟨10,0⟩,⟨10,10⟩,⟨20,-10⟩,⟨20,0⟩,⟨20,10⟩])):=gQ (l:=[(_,_,_)]) (n:=20) (by kernel_rfl) ⟨RK,tr⟩
theorem QL:PU 142 [bedX.enc,cq ni,cW [pu2 oY 0],(⟨1,⟨false,0⟩,⟨10,0⟩⟩:Put2).enc]=some (aa 14):=gQ (l:=[]) (n:=20) (by kernel_rfl) tr
theorem XR:PU 142 [bedX.enc,cq ni,cW [pu2 oY 0],(pu2 oY 1).enc]=some (aa 0):=gQ (l:=[]) (n:=20) (by kernel_rfl) tr
theorem Xa:PU 94 [bedX.enc,cq ni,cW [pu2 oY 0],aa 1]=some (okZ (pu2 oY 1).enc):=gQ (l:=[(_,_,_),(_,_,_),(_,_,_)]) (n:=20) (by kernel_rfl) ⟨W6,QL,XR,tr⟩
theorem X4:PU 55 [bedX.enc,cq ni,ints [0,1]]=some (okZ (cW oY)):=gQ (l:=[(_,_,_),(_,_,_)]) (n:=20) (by kernel_rfl) ⟨P8,Xa,tr⟩
theorem Bs:StyB pairX:=⟨by decide,by decide,by decide,by decide,by decide,by decide,by decide,by decide,by decide,by decide⟩
theorem MN:PU 90 [pairX.enc]=some (aa 0):=by rw[sb _ Bs,show fx pairX=0 by decide+kernel];rfl
theorem Jo:PU 91 [pairX.enc]=some (dA plcX):=by rw[CI _ Bs,show dV pairX=plcX by decide+kernel]
theorem cutX:fQ pairX 0 0=(sqA,0):=by decide+kernel
theorem ancX:lU pairX 0 0=(⟨0,0⟩,0):=by decide+kernel
theorem qrW (i:Nat)(hi:i<2):PU 92 [pairX.enc,aa 0,(plcX.getD i ⟨0,0,0,false,0,0,0⟩).enc]=some (okZ (shp ni i).enc):=by
 have h:(plcX.getD i ⟨0,0,0,false,0,0,0⟩).use=0/\ga pairX 0 (plcX.getD i ⟨0,0,0,false,0,0,0⟩)=(shp ni i,0):=by
  match i,hi with
  |0,_=>exact⟨rfl,by unfold ga;rw[show(plcX.getD 0 ⟨0,0,0,false,0,0,0⟩).use=0 from rfl,cutX,ancX];rfl⟩
  |1,_=>exact⟨rfl,by unfold ga;rw[show(plcX.getD 1 ⟨0,0,0,false,0,0,0⟩).use=0 from rfl,cutX,ancX];rfl⟩
 rw[show aa 0=D.int .i64 0 from rfl,Di _ _ _ Bs (by rw[h.1,cutX];decide),h.2];rfl
theorem RV:PU 21 [pairX.enc,bedX.enc,ints [0]]=some (okZ mkrX.enc):=
 gQ (l:=[(_,_,_),(_,_,_),(_,_,_),(_,_,_),(_,_,_)]) (n:=20) (by kernel_rfl) ⟨MN,Jo,qrW 0 (by decide),qrW 1 (by decide),X4,tr⟩
theorem Uc:PU 22 [pairX.enc,mkrX.enc]=some (okZ (aY [sqA,sqC])):=
 gQ (l:=[(_,_,_),(_,_,_),(_,_,_),(_,_,_)]) (n:=20) (by kernel_rfl) ⟨MN,Jo,qrW 0 (by decide),qrW 1 (by decide),tr⟩
theorem Rl:PU 23 [mkrX.enc,aY [sqA,sqC],rolls rolX,ints [0],ints [2]]=some (.tup [di mkrX plyX,.lst [(⟨0,0,20,25⟩:Rst).enc],aa 0]):=gQ (l:=[]) (n:=20) (by kernel_rfl) tr
theorem YX:PU 7 [di mkrX plyX,rolls rolX,ints [0],aY [sqA,sqC]]=some (okZ (.agg [aa 800,aa 800,aa 0,aa 0,aa 0])):=gQ (l:=[]) (n:=20) (by kernel_rfl) tr
theorem T8:PU 5 [jv pairX bedX [0],jl rolX [0] [2]]=some (.tup [di mkrX plyX,aY [sqA,sqC],.bool true]):=
 gQ (l:=[(_,_,_),(_,_,_),(_,_,_)]) (n:=20) (by kernel_rfl) ⟨RV,Uc,Rl,tr⟩
theorem RL:PU 6 []=some (.bool true):=
 gQ (l:=[(_,_,_),(_,_,_),(_,_,_)]) (n:=20) (by kernel_rfl) ⟨Qe,T8,YX,tr⟩
theorem topC_all (s:Sty)(b:Bed)(sizes:List Int)(rs:List RollS)(lots a:List Int)(c:StyQ s)(hr:∀r∈rs,RolQ r):
 PU 3 [jv s b sizes,jl rs lots a]=some (.bool true):=qPE RL s b sizes rs lots a c hr
end Go.F
