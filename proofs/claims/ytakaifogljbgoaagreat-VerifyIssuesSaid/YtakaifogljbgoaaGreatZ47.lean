/- Parts of the proof, part 47: Nat11, Nat12, Int1, Rat1, Rat2, Rat3, Pt1, All3, All4, Gr1, Stop4, All5, All6, Ex1, Ex2, Sml, Zero, Nz1, Nz2, Nz3, Nz4, Nz5, Nz6, Nz7, Nz8, Nz9, SegP. -/
import Derived.Test.YtakaifogljbgoaaGreatZ45
import Derived.KernelRfl
set_option linter.all false
namespace Go.F
attribute [local irreducible] IntKind.wrap wpM
theorem qsA {x y b:Nat}{d:Int}(hx:x<4294967296)(hy:y<4294967296)(hb:b≤1)(hd:d=((x:Int)-y-b)%18446744073709551616):
 ∃u c:Nat,IntKind.u32.wrap d=u∧d=((d.toNat:Nat):Int)∧d.toNat/2^63=c∧u<4294967296∧c≤1∧u+(b+y)=x+4294967296*c:=by
 rw[qaI]
 refine⟨(d%4294967296).toNat,d.toNat/2^63,by omega,by omega,rfl,by omega,by omega,by omega⟩
set_option maxHeartbeats 8000000 in
theorem qFg (pre w post v Q:List Nat)(n:Nat)(T:Trial w v n)(hn:n≤2000000000){h:q0e}{z:Frz}{K:D→q0e→Frz→Nat→Prop}(hold:Old (pre++w++post) v Q h z)
 (hk:∀(w':List Nat) (h':q0e) (z':Frz) (nx':Nat),(nx'=356∨nx'=401)→w'.length=n+1→LOk w'→val w'=val w%val (v.take n)→Old (pre++w'++post) v Q h' z'→K (.int .u32 (val w/val (v.take n):Nat)) h' z' nx'):
 wpM TT (shr TT 5) 206 [.code k_natural_digit.code] .normal (enter [.ref 2 pre.length (n+1),.ref 3 0 n]) h z 206 (qeY k_natural_digit K):=by
 obtain⟨⟨h0,rfl⟩,z0,rfl⟩:=hold
 have hn2:=T.n2
 have hwl:=T.wl
 have hvl:=T.vl
 have hhi:=T.hi
 have hqlt:=T.qlt
 have hv1:=q1j T.vo (n-1)
 have hv2:=q1j T.vo (n-2)
 have hw0:=q1j T.wo n
 have hw1:=q1j T.wo (n-1)
 have hw2:=q1j T.wo (n-2)
 have hfl:=T.first_le
 have wn1:IntKind.i64.wrap ((n:Int)-1)=((n-1:Nat):Int):=by rw[wrap64 (by omega) (by omega)];omega
 have wn2:IntKind.i64.wrap ((n:Int)-2)=((n-2:Nat):Int):=by rw[wrap64 (by omega) (by omega)];omega
 have c0:IntKind.u64.wrap (dg w n:Int)=(dg w n:Int):=q0C (by omega)
 have c1:IntKind.u64.wrap (dg w (n-1):Int)=(dg w (n-1):Int):=q0C (by omega)
 have c2:IntKind.u64.wrap (dg w (n-2):Int)=(dg w (n-2):Int):=q0C (by omega)
 have d1:IntKind.u64.wrap (dg v (n-1):Int)=(dg v (n-1):Int):=q0C (by omega)
 have d2:IntKind.u64.wrap (dg v (n-2):Int)=(dg v (n-2):Int):=q0C (by omega)
 refine gg rfl (q0H n rfl rfl rfl rfl rfl (by omega) ?_)
 refine gg rfl (q5Z pre w post n rfl rfl rfl (by omega) ?_)
 refine gg rfl (q6w (dg w n) 32 rfl rfl c0 rfl (by decide) (q0C (by omega)) ?_)
 refine gg rfl (q0H (n-1) rfl rfl rfl rfl wn1 (by omega) ?_)
 refine gg rfl (q5Z pre w post (n-1) rfl rfl rfl (by omega) ?_)
 refine gg rfl ?_
 rw[c1,qB2 hw0 hw1]
 refine q0H (n-1) rfl rfl rfl rfl wn1 (by omega) ?_
 refine gg rfl (q4k v (n-1) rfl (Nat.zero_add _) rfl (by omega) ?_)
 refine gg rfl ?_
 rw[d1]
 generalize htop:dg w n*4294967296+dg w (n-1)=top
 rw[htop]at hfl
 have htl:top<18446744073709551616:=by omega
 have hql:=hfl.1
 refine q2Z top (dg v (n-1)) rfl rfl rfl rfl (by omega) (q0C (by omega)) ?_
 refine gg rfl (q7b top (dg v (n-1)) rfl rfl rfl rfl (by omega) ?_)
 refine gg rfl ?_
 refine q62 (S:=fun x:Nat×Nat=>([.ref 2 pre.length (n+1),.ref 3 0 n,q00 n,.int .u64 (dg v (n-1)),.int .u64 x.1,.int .u64 x.2],[none,none,none,none,none,none],[0,0,0,0,0,0]))
  (O:=fun _ ho zo=>Old (pre++w++post) v Q ho zo)
  (C:=fun x=>x.1*dg v (n-1)+x.2=top∧val w/val (v.take n)≤x.1∧x.1≤4294967297∧x.2<8589934592) (m:=fun x=>x.1) (top/dg v (n-1),top%dg v (n-1))
  ⟨by simp only;rw[Nat.mul_comm];exact Nat.div_add_mod _ _,by rw[←htop];exact T.first,hql,by have:=Nat.mod_lt top (show 0<dg v (n-1)by omega);simp only;omega⟩ (by simp only;omega) ?_ ?_
 ·exact q1U rfl ⟨q05 q0t _,q05 q0t _,trivial⟩ ⟨by simp[q00],Old.old rfl rfl rfl rfl rfl rfl⟩
 rintro⟨q,r⟩ ⟨hqr,hq1,hq2,hr⟩ ho zo hold N hN
 obtain⟨⟨h1,rfl⟩,z1,rfl⟩:=hold
 simp only at hqr hq1 hq2 hr
 have next:q≠0→r<4294967296→val w/val (v.take n)<q→∀{t:q0x} {h:q0e} {z:Frz} {nx:Nat},(q12 206 [(0,0),(1,0),(5,0),(7,0),(8,0),(9,0)] t h z nx fun h z kp=>kp=([.ref 2 pre.length (n+1),.ref 3 0 n,q00 n,.int .u64 (dg v (n-1)),.int .u64 (q-1:Nat),.int .u64 (r+dg v (n-1):Nat)],[none,none,none,none,none,none],[0,0,0,0,0,0])∧Old (pre++w++post) v Q (q1e 206 h) z)→N t h z nx:=by
  intro hq0 hrl hlt t h z nx hst
  refine hN (q-1,r+dg v (n-1)) ⟨?_,by simp only;omega,by simp only;omega,by simp only;omega⟩ (by simp only;omega) hst
  simp only
  obtain⟨k,rfl⟩:∃k,q=k+1:=⟨q-1,by omega⟩
  rw[Nat.add_mul,Nat.one_mul]at hqr
  simp only[Nat.add_sub_cancel]
  omega
 clear hN
 have s1:q≠0→IntKind.u64.wrap ((q:Int)-1)=((q-1:Nat):Int):=fun _=>by rw[q0U];omega
 have s2:IntKind.u64.wrap ((r:Int)+(dg v (n-1):Int))=((r+dg v (n-1):Nat):Int):=by rw[q0U];omega
 have after:q<4294967296→q≤val w/val (v.take n)+1→True:=fun _ _=>trivial
 refine gg rfl (q09 rfl (fun g1=>?_) (fun g1=>?_))
 ·rw[q06]at g1
  simp only at g1
  refine gg rfl (q09 rfl (fun g2=>?_) (fun g2=>?_))
  ·rw[q0E]at g2
   simp only at g2
   refine gg rfl (q0d rfl (gg rfl (q04 (next (by omega) (by omega) (by omega) (q1U rfl ⟨q05 q0t _,q05 q0t _,trivial⟩ ⟨?_,Old.old rfl rfl rfl rfl rfl rfl⟩)))))
   simp[q00,s1 (by omega),s2]
  rw[q0F]at g2
  simp only at g2
  have hq3:q<4294967296:=by omega
  have hqv:=qaJ hq3 hv2
  have em:IntKind.u64.wrap ((q:Int) *IntKind.u64.wrap (dg v (n-2):Int))=((q*dg v (n-2):Nat):Int):=by
   rw[d2,show(q:Int) *(dg v (n-2):Int)=((q*dg v (n-2):Nat):Int)by simp]
   exact q0C (by omega)
  refine gg rfl (q0H (n-2) rfl rfl rfl rfl wn2 (by omega) ?_)
  refine gg rfl (q4k v (n-2) rfl (Nat.zero_add _) rfl (by omega) ?_)
  refine gg rfl (q6w r 32 rfl rfl rfl rfl (by decide) (q0C (by omega)) ?_)
  refine gg rfl (q0H (n-2) rfl rfl rfl rfl wn2 (by omega) ?_)
  refine gg rfl (q5Z pre w post (n-2) rfl rfl rfl (by omega) ?_)
  refine gg rfl ?_
  rw[c2,qB2 (by omega) hw2,em]
  refine q01 rfl (fun g3=>?_) (fun g3=>?_)
  ·rw[q06]at g3
   have g3':r*4294967296+dg w (n-2)<q*dg v (n-2):=by omega
   have hq0:q≠0:=by rintro rfl;omega
   refine gg rfl (q04 (next hq0 (by omega) (T.less (by rw[hqr,htop]) g3') (q1U rfl ⟨q05 q0t _,q05 q0t _,trivial⟩ ⟨?_,Old.old rfl rfl rfl rfl rfl rfl⟩)))
   simp[q00,s1 hq0,s2]
  rw[q07]at g3
  have hq4:=T.end (q:=q) (r:=r) (by rw[hqr,htop]) hq3 (.inr (by omega))
  refine gg rfl (q04 (gg rfl ?_))
  refine q62 (S:=fun x:Nat×List Nat×Nat×Nat=>([.ref 2 pre.length (n+1),.ref 3 0 n,q00 n,.int .u64 q,.int .u64 x.2.2.1,.int .u64 x.2.2.2,.ref 3 0 n,q00 n,q00 x.1],[none,none,none,none,none,none,none,none,none],[0,0,0,0,0,0,0,0,0]))
   (O:=fun x ho zo=>Old (pre++x.2.1++post) v Q ho zo)
   (C:=fun x=>x.1≤n∧x.2.1.length=n+1∧LOk x.2.1∧x.2.2.1<4294967296∧x.2.2.2≤1∧val (x.2.1.take x.1)+q*val (v.take x.1)=val (w.take x.1)+4294967296^x.1*(x.2.2.2+x.2.2.1)∧∀j,x.1≤j→dg x.2.1 j=dg w j) (m:=fun x=>n-x.1) (0,w,0,0)
   ⟨Nat.zero_le _,hwl,T.wo,by simp,by simp,by simp[val],fun j _=>rfl⟩ (by simp only;omega) ?_ ?_
  ·exact q1U rfl ⟨q05 q0t _,q05 q0t _,q05 q0t _,trivial⟩ ⟨by simp[q00],Old.old rfl rfl rfl rfl rfl rfl⟩
  rintro⟨k,w',c,b⟩ ⟨hk1,hl',ho',hc,hb,hinv,hsame⟩ ho zo hold N hN
  obtain⟨⟨h2,rfl⟩,z2,rfl⟩:=hold
  simp only at hk1 hl' ho' hc hb hinv hsame
  refine gg rfl (q01 rfl (fun e1=>?_) (fun e1=>?_))
  ·rw[q06]at e1
   simp only at e1
   have hkn:k<n:=by omega
   have hvk:=q1j T.vo k
   have hwk:=q1j ho' k
   have hqv:=qaJ hq3 hvk
   have wk1:=wS (n:=k)
   have ee:((q*dg v k:Nat):Int)=(q:Int) *(dg v k:Int):=by simp
   have ec:IntKind.u64.wrap ((c:Int)+IntKind.u64.wrap ((q:Int) *IntKind.u64.wrap (dg v k:Int)))=((c+q*dg v k:Nat):Int):=by
    rw[q0C (n:=dg v k) (by omega),←ee,q0C (n:=q*dg v k) (by omega)]
    simp only[q0U];omega
   refine gg rfl (q0H k rfl rfl rfl rfl rfl hkn (gg rfl (q4k v k rfl (Nat.zero_add _) rfl (by omega) ?_)))
   refine gg rfl ?_
   rw[ec]
   refine q0H k rfl rfl rfl rfl rfl (by omega) ?_
   refine gg rfl (q5Z pre w' post k rfl rfl rfl (by omega) ?_)
   refine gg rfl ?_
   rw[q13]
   obtain⟨u,b',g1,g2,g3,g4,g5,g6⟩:=qsA (d:=IntKind.u64.wrap (IntKind.u64.wrap (IntKind.u64.wrap (dg w' k:Int)-IntKind.u64.wrap (((c+q*dg v k)%4294967296:Nat):Int))-(b:Int))) hwk (Nat.mod_lt (c+q*dg v k) (by decide)) hb (by simp only[q0U];omega)
   generalize IntKind.u64.wrap (IntKind.u64.wrap (IntKind.u64.wrap (dg w' k:Int)-IntKind.u64.wrap (((c+q*dg v k)%4294967296:Nat):Int))-(b:Int))=d at*
   rw[g1]
   refine q0H k rfl rfl rfl rfl rfl (by omega) ?_
   refine gg rfl (q55 pre w' post k u rfl rfl rfl rfl rfl rfl (by omega) ?_)
   refine gg rfl (q19 d.toNat 63 rfl rfl g2 rfl (by decide) ?_)
   rw[g3]
   refine gg rfl (q19 (c+q*dg v k) 32 rfl rfl rfl rfl (by decide) ?_)
   refine gg rfl (q04 (hN (k+1,w'.set k u,(c+q*dg v k)/2^32,b') ⟨hkn,by simp[hl'],ho'.set _ g4,by simp only;omega,g5,?_,?_⟩ (by simp only;omega) (q1U rfl ⟨q05 q0t _,q05 q0t _,q05 q0t _,trivial⟩ ⟨by simp[q00,wk1],Old.old rfl rfl rfl rfl rfl rfl⟩)))
   ·simp only
    rw[q2G (by omega),q0R v,q0R w,show(2:Nat)^32=4294967296 by decide,Nat.pow_succ]
    have hs:=hsame k (Nat.le_refl _)
    rw[hs]at g6
    have hdm:=Nat.div_add_mod (c+q*dg v k) 4294967296
    generalize (c+q*dg v k)/4294967296=c' at*
    generalize (c+q*dg v k)%4294967296=lo at*
    generalize 4294967296^k=P at*
    have e5:P*u+P*(q*dg v k)+P*(b+c)=P*dg w k+P*(4294967296*(b'+c')):=by
     rw[←Nat.mul_add,←Nat.mul_add,←Nat.mul_add];congr 1;omega
    rw[Nat.mul_add q,Nat.mul_left_comm q P,Nat.mul_assoc P 4294967296]
    omega
   intro j hj
   simp only at hj⊢
   rw[q3c,if_neg (by omega)]
   exact hsame j (by omega)
  rw[q07]at e1
  simp only at e1
  obtain rfl:k=n:=by omega
  clear hN
  obtain⟨se1,se2⟩:=qAZ T hq1 hq4 hl' ho' hc hb hinv
  have hdn:=hsame k (Nat.le_refl _)
  have cn:IntKind.u64.wrap (dg w' k:Int)=(dg w' k:Int):=q0C (by rw[hdn];omega)
  refine gg rfl (q04 (gg rfl (q0H k rfl rfl rfl rfl rfl (by omega) ?_)))
  refine gg rfl (q5Z pre w' post k rfl rfl rfl (by omega) ?_)
  refine gg rfl ?_
  by_cases hcase:c+b≤dg w k
  ·obtain⟨f1,f2⟩:=se1 hcase
   have ed:IntKind.u64.wrap (IntKind.u64.wrap (IntKind.u64.wrap (dg w' k:Int)-(c:Int))-(b:Int))=((dg w k-c-b:Nat):Int):=by rw[hdn];simp only[q0U];omega
   have ed2:IntKind.u32.wrap ((dg w k-c-b:Nat):Int)=((dg w k-c-b:Nat):Int):=by rw[q13];omega
   have eq2:IntKind.u32.wrap (q:Int)=(q:Int):=by rw[q13];omega
   rw[ed,ed2]
   refine q0H k rfl rfl rfl rfl rfl (by omega) ?_
   refine gg rfl (q55 pre w' post k (dg w k-c-b) rfl rfl rfl rfl rfl rfl (by omega) ?_)
   refine gg rfl (q19 (dg w k-c-b) 63 rfl rfl rfl rfl (by decide) ?_)
   refine gg rfl (q01 rfl (fun y1=>?_) (fun y1=>?_))
   ·refine gg rfl ?_
    rw[eq2]
    have hk':∀h' z',Old (pre++w'.set k (dg w k-c-b)++post) v Q h' z'→K (.int .u32 q) h' z' 356:=fun h' z' hol=>by
     rw[f1];exact hk (w'.set k (dg w k-c-b)) h' z' 356 (.inl rfl) (by simp[hl']) (ho'.set _ (by omega)) f2 hol
    exact qpg rfl rfl (hk' _ _ (Old.of rfl rfl rfl rfl rfl rfl))
   rw[q1Q]at y1
   exact absurd (by omega) y1
  obtain⟨f1,f0,f2⟩:=se2 (by omega)
  have ed:IntKind.u64.wrap (IntKind.u64.wrap (IntKind.u64.wrap (dg w' k:Int)-(c:Int))-(b:Int))=((18446744073709551616+dg w k-c-b:Nat):Int):=by rw[hdn];simp only[q0U];omega
  have ed2:IntKind.u32.wrap ((18446744073709551616+dg w k-c-b:Nat):Int)=((dg w k+4294967296-c-b:Nat):Int):=by rw[q13];omega
  rw[ed,ed2]
  refine q0H k rfl rfl rfl rfl rfl (by omega) ?_
  refine gg rfl (q55 pre w' post k (dg w k+4294967296-c-b) rfl rfl rfl rfl rfl rfl (by omega) ?_)
  refine gg rfl (q19 (18446744073709551616+dg w k-c-b) 63 rfl rfl rfl rfl (by decide) ?_)
  refine gg rfl (q01 rfl (fun y1=>?_) (fun y1=>?_))
  ·rw[q1n]at y1
   omega
  refine gg rfl ?_
  have hl1:(w'.set k (dg w k+4294967296-c-b)).length=k+1:=by simp[hl']
  have ho1:LOk (w'.set k (dg w k+4294967296-c-b)):=ho'.set _ f0
  generalize w'.set k (dg w k+4294967296-c-b)=x1 at*
  refine q62 (S:=fun x:Nat×List Nat×Nat=>([.ref 2 pre.length (k+1),q00 k,.int .u64 q,.int .u64 x.2.2,.ref 3 0 k,q00 k,q00 x.1],[none,none,none,none,none,none,none],[0,0,0,0,0,0,0]))
   (O:=fun x ho zo=>Old (pre++x.2.1++post) v Q ho zo)
   (C:=fun x=>x.1≤k∧x.2.1.length=k+1∧LOk x.2.1∧x.2.2≤1∧val (x.2.1.take x.1)+4294967296^x.1*x.2.2=val (x1.take x.1)+val (v.take x.1)∧∀j,x.1≤j→dg x.2.1 j=dg x1 j) (m:=fun x=>k-x.1) (0,x1,0)
   ⟨Nat.zero_le _,hl1,ho1,by simp,by simp[val],fun j _=>rfl⟩ (by simp only;omega) ?_ ?_
  ·exact q1U rfl ⟨q05 q0t _,q05 q0t _,trivial⟩ ⟨by simp[q00],Old.old rfl rfl rfl rfl rfl rfl⟩
  rintro⟨i,x2,c2'⟩ ⟨hi1,hl2,ho2,hc2,hinv2,hsame2⟩ ho zo hold N hN
  obtain⟨⟨h3,rfl⟩,z3,rfl⟩:=hold
  simp only at hi1 hl2 ho2 hc2 hinv2 hsame2
  refine gg rfl (q01 rfl (fun e2=>?_) (fun e2=>?_))
  ·rw[q06]at e2
   simp only at e2
   have hik:i<k:=by omega
   have hvi:=q1j T.vo i
   have hxi:=q1j ho2 i
   have wi1:=wS (n:=i)
   have es:IntKind.u64.wrap ((c2':Int)+IntKind.u64.wrap (IntKind.u64.wrap (dg x2 i:Int)+IntKind.u64.wrap (dg v i:Int)))=((c2'+dg x2 i+dg v i:Nat):Int):=by simp only[q0U];omega
   refine gg rfl (q0H i rfl rfl rfl rfl rfl hik (gg rfl (q4k v i rfl (Nat.zero_add _) rfl (by omega) ?_)))
   refine gg rfl (q0H i rfl rfl rfl rfl rfl (by omega) ?_)
   refine gg rfl (q5Z pre x2 post i rfl rfl rfl (by omega) ?_)
   refine gg rfl ?_
   rw[es,q13]
   refine q0H i rfl rfl rfl rfl rfl (by omega) ?_
   refine gg rfl (q55 pre x2 post i ((c2'+dg x2 i+dg v i)%4294967296) rfl rfl rfl rfl rfl rfl (by omega) ?_)
   refine gg rfl (q19 (c2'+dg x2 i+dg v i) 32 rfl rfl rfl rfl (by decide) ?_)
   refine gg rfl (q04 (hN (i+1,x2.set i ((c2'+dg x2 i+dg v i)%4294967296),(c2'+dg x2 i+dg v i)/2^32) ⟨hik,by simp[hl2],ho2.set _ (Nat.mod_lt _ (by decide)),by simp only;omega,?_,?_⟩ (by simp only;omega) (q1U rfl ⟨q05 q0t _,q05 q0t _,trivial⟩ ⟨by simp[q00,wi1],Old.old rfl rfl rfl rfl rfl rfl⟩)))
   ·simp only
    rw[q2G (by omega),q0R x1,q0R v,show(2:Nat)^32=4294967296 by decide,Nat.pow_succ,Nat.add_assoc,q4j,Nat.mul_add,Nat.mul_add,hsame2 i (Nat.le_refl _)]
    omega
   intro j hj
   simp only at hj⊢
   rw[q3c,if_neg (by omega)]
   exact hsame2 j (by omega)
  rw[q07]at e2
  simp only at e2
  obtain rfl:i=k:=by omega
  clear hN
  have hdx:=hsame2 i (Nat.le_refl _)
  have hx1:=q1j ho1 i
  have fin:=qB0 T f1 hl1 ho1 hl2 ho2 hc2 hdx f2 hinv2
  have ec2:IntKind.u32.wrap (c2':Int)=(c2':Int):=by rw[q13];omega
  have ea2:IntKind.u32.wrap ((dg x2 i:Int)+(c2':Int))=(((dg x1 i+c2')%4294967296:Nat):Int):=by rw[hdx,qaI];omega
  have eq3:IntKind.u32.wrap (IntKind.u64.wrap ((q:Int)-1))=((val w/val (v.take i):Nat):Int):=by
   have a1:=f1
   have a2:=hqlt
   generalize val w/val (v.take i)=Qt at a1 a2⊢
   rw[q0U,qaI]
   clear hinv hinv2 hqr hq1 hq2 hql f2 fin
   omega
  refine gg rfl (q04 (gg rfl (q0H i rfl rfl rfl rfl rfl (by omega) ?_)))
  refine gg rfl (q5Z pre x2 post i rfl rfl rfl (by omega) ?_)
  refine gg rfl ?_
  rw[ec2,ea2]
  refine q0H i rfl rfl rfl rfl rfl (by omega) ?_
  refine gg rfl (q55 pre x2 post i ((dg x1 i+c2')%4294967296) rfl rfl rfl rfl rfl rfl (by omega) ?_)
  refine gg rfl ?_
  rw[eq3]
  exact qpg rfl rfl (hk (x2.set i ((dg x1 i+c2')%4294967296)) _ _ 401 (.inr rfl) (by simp[hl2]) (ho2.set _ (Nat.mod_lt _ (by decide))) fin (Old.of rfl rfl rfl rfl rfl rfl))
 rw[q07]at g1
 simp only at g1
 have hq3:q<4294967296:=by
  have h5:=hfl.2
  have h6:q*dg v (n-1)<4294967296*dg v (n-1):=by omega
  exact Nat.lt_of_mul_lt_mul_right h6
 have hq4:=T.end (q:=q) (r:=r) (by rw[hqr,htop]) hq3 (.inl (by omega))
 refine gg rfl (q0j rfl (gg rfl (q04 (gg rfl ?_))))
 refine q62 (S:=fun x:Nat×List Nat×Nat×Nat=>([.ref 2 pre.length (n+1),.ref 3 0 n,q00 n,.int .u64 q,.int .u64 x.2.2.1,.int .u64 x.2.2.2,.ref 3 0 n,q00 n,q00 x.1],[none,none,none,none,none,none,none,none,none],[0,0,0,0,0,0,0,0,0]))
  (O:=fun x ho zo=>Old (pre++x.2.1++post) v Q ho zo)
  (C:=fun x=>x.1≤n∧x.2.1.length=n+1∧LOk x.2.1∧x.2.2.1<4294967296∧x.2.2.2≤1∧val (x.2.1.take x.1)+q*val (v.take x.1)=val (w.take x.1)+4294967296^x.1*(x.2.2.2+x.2.2.1)∧∀j,x.1≤j→dg x.2.1 j=dg w j) (m:=fun x=>n-x.1) (0,w,0,0)
  ⟨Nat.zero_le _,hwl,T.wo,by simp,by simp,by simp[val],fun j _=>rfl⟩ (by simp only;omega) ?_ ?_
 ·exact q1U rfl ⟨q05 q0t _,q05 q0t _,q05 q0t _,trivial⟩ ⟨by simp[q00],Old.old rfl rfl rfl rfl rfl rfl⟩
 rintro⟨k,w',c,b⟩ ⟨hk1,hl',ho',hc,hb,hinv,hsame⟩ ho zo hold N hN
 obtain⟨⟨h2,rfl⟩,z2,rfl⟩:=hold
 simp only at hk1 hl' ho' hc hb hinv hsame
 refine gg rfl (q01 rfl (fun e1=>?_) (fun e1=>?_))
 ·rw[q06]at e1
  simp only at e1
  have hkn:k<n:=by omega
  have hvk:=q1j T.vo k
  have hwk:=q1j ho' k
  have hqv:=qaJ hq3 hvk
  have wk1:=wS (n:=k)
  have ee:((q*dg v k:Nat):Int)=(q:Int) *(dg v k:Int):=by simp
  have ec:IntKind.u64.wrap ((c:Int)+IntKind.u64.wrap ((q:Int) *IntKind.u64.wrap (dg v k:Int)))=((c+q*dg v k:Nat):Int):=by
   rw[q0C (n:=dg v k) (by omega),←ee,q0C (n:=q*dg v k) (by omega)]
   simp only[q0U];omega
  refine gg rfl (q0H k rfl rfl rfl rfl rfl hkn (gg rfl (q4k v k rfl (Nat.zero_add _) rfl (by omega) ?_)))
  refine gg rfl ?_
  rw[ec]
  refine q0H k rfl rfl rfl rfl rfl (by omega) ?_
  refine gg rfl (q5Z pre w' post k rfl rfl rfl (by omega) ?_)
  refine gg rfl ?_
  rw[q13]
  obtain⟨u,b',g1,g2,g3,g4,g5,g6⟩:=qsA (d:=IntKind.u64.wrap (IntKind.u64.wrap (IntKind.u64.wrap (dg w' k:Int)-IntKind.u64.wrap (((c+q*dg v k)%4294967296:Nat):Int))-(b:Int))) hwk (Nat.mod_lt (c+q*dg v k) (by decide)) hb (by simp only[q0U];omega)
  generalize IntKind.u64.wrap (IntKind.u64.wrap (IntKind.u64.wrap (dg w' k:Int)-IntKind.u64.wrap (((c+q*dg v k)%4294967296:Nat):Int))-(b:Int))=d at*
  rw[g1]
  refine q0H k rfl rfl rfl rfl rfl (by omega) ?_
  refine gg rfl (q55 pre w' post k u rfl rfl rfl rfl rfl rfl (by omega) ?_)
  refine gg rfl (q19 d.toNat 63 rfl rfl g2 rfl (by decide) ?_)
  rw[g3]
  refine gg rfl (q19 (c+q*dg v k) 32 rfl rfl rfl rfl (by decide) ?_)
  refine gg rfl (q04 (hN (k+1,w'.set k u,(c+q*dg v k)/2^32,b') ⟨hkn,by simp[hl'],ho'.set _ g4,by simp only;omega,g5,?_,?_⟩ (by simp only;omega) (q1U rfl ⟨q05 q0t _,q05 q0t _,q05 q0t _,trivial⟩ ⟨by simp[q00,wk1],Old.old rfl rfl rfl rfl rfl rfl⟩)))
  ·simp only
   rw[q2G (by omega),q0R v,q0R w,show(2:Nat)^32=4294967296 by decide,Nat.pow_succ]
   have hs:=hsame k (Nat.le_refl _)
   rw[hs]at g6
   have hdm:=Nat.div_add_mod (c+q*dg v k) 4294967296
   generalize (c+q*dg v k)/4294967296=c' at*
   generalize (c+q*dg v k)%4294967296=lo at*
   generalize 4294967296^k=P at*
   have e5:P*u+P*(q*dg v k)+P*(b+c)=P*dg w k+P*(4294967296*(b'+c')):=by
    rw[←Nat.mul_add,←Nat.mul_add,←Nat.mul_add];congr 1;omega
   rw[Nat.mul_add q,Nat.mul_left_comm q P,Nat.mul_assoc P 4294967296]
   omega
  intro j hj
  simp only at hj⊢
  rw[q3c,if_neg (by omega)]
  exact hsame j (by omega)
 rw[q07]at e1
 simp only at e1
 obtain rfl:k=n:=by omega
 clear hN
 obtain⟨se1,se2⟩:=qAZ T hq1 hq4 hl' ho' hc hb hinv
 have hdn:=hsame k (Nat.le_refl _)
 have cn:IntKind.u64.wrap (dg w' k:Int)=(dg w' k:Int):=q0C (by rw[hdn];omega)
 refine gg rfl (q04 (gg rfl (q0H k rfl rfl rfl rfl rfl (by omega) ?_)))
 refine gg rfl (q5Z pre w' post k rfl rfl rfl (by omega) ?_)
 refine gg rfl ?_
 by_cases hcase:c+b≤dg w k
 ·obtain⟨f1,f2⟩:=se1 hcase
  have ed:IntKind.u64.wrap (IntKind.u64.wrap (IntKind.u64.wrap (dg w' k:Int)-(c:Int))-(b:Int))=((dg w k-c-b:Nat):Int):=by rw[hdn];simp only[q0U];omega
  have ed2:IntKind.u32.wrap ((dg w k-c-b:Nat):Int)=((dg w k-c-b:Nat):Int):=by rw[q13];omega
  have eq2:IntKind.u32.wrap (q:Int)=(q:Int):=by rw[q13];omega
  rw[ed,ed2]
  refine q0H k rfl rfl rfl rfl rfl (by omega) ?_
  refine gg rfl (q55 pre w' post k (dg w k-c-b) rfl rfl rfl rfl rfl rfl (by omega) ?_)
  refine gg rfl (q19 (dg w k-c-b) 63 rfl rfl rfl rfl (by decide) ?_)
  refine gg rfl (q01 rfl (fun y1=>?_) (fun y1=>?_))
  ·refine gg rfl ?_
   rw[eq2]
   have hk':∀h' z',Old (pre++w'.set k (dg w k-c-b)++post) v Q h' z'→K (.int .u32 q) h' z' 356:=fun h' z' hol=>by
    rw[f1];exact hk (w'.set k (dg w k-c-b)) h' z' 356 (.inl rfl) (by simp[hl']) (ho'.set _ (by omega)) f2 hol
   exact qpg rfl rfl (hk' _ _ (Old.of rfl rfl rfl rfl rfl rfl))
  rw[q1Q]at y1
  exact absurd (by omega) y1
 obtain⟨f1,f0,f2⟩:=se2 (by omega)
 have ed:IntKind.u64.wrap (IntKind.u64.wrap (IntKind.u64.wrap (dg w' k:Int)-(c:Int))-(b:Int))=((18446744073709551616+dg w k-c-b:Nat):Int):=by rw[hdn];simp only[q0U];omega
 have ed2:IntKind.u32.wrap ((18446744073709551616+dg w k-c-b:Nat):Int)=((dg w k+4294967296-c-b:Nat):Int):=by rw[q13];omega
 rw[ed,ed2]
 refine q0H k rfl rfl rfl rfl rfl (by omega) ?_
 refine gg rfl (q55 pre w' post k (dg w k+4294967296-c-b) rfl rfl rfl rfl rfl rfl (by omega) ?_)
 refine gg rfl (q19 (18446744073709551616+dg w k-c-b) 63 rfl rfl rfl rfl (by decide) ?_)
 refine gg rfl (q01 rfl (fun y1=>?_) (fun y1=>?_))
 ·rw[q1n]at y1
  omega
 refine gg rfl ?_
 have hl1:(w'.set k (dg w k+4294967296-c-b)).length=k+1:=by simp[hl']
 have ho1:LOk (w'.set k (dg w k+4294967296-c-b)):=ho'.set _ f0
 generalize w'.set k (dg w k+4294967296-c-b)=x1 at*
 refine q62 (S:=fun x:Nat×List Nat×Nat=>([.ref 2 pre.length (k+1),q00 k,.int .u64 q,.int .u64 x.2.2,.ref 3 0 k,q00 k,q00 x.1],[none,none,none,none,none,none,none],[0,0,0,0,0,0,0]))
  (O:=fun x ho zo=>Old (pre++x.2.1++post) v Q ho zo)
  (C:=fun x=>x.1≤k∧x.2.1.length=k+1∧LOk x.2.1∧x.2.2≤1∧val (x.2.1.take x.1)+4294967296^x.1*x.2.2=val (x1.take x.1)+val (v.take x.1)∧∀j,x.1≤j→dg x.2.1 j=dg x1 j) (m:=fun x=>k-x.1) (0,x1,0)
  ⟨Nat.zero_le _,hl1,ho1,by simp,by simp[val],fun j _=>rfl⟩ (by simp only;omega) ?_ ?_
 ·exact q1U rfl ⟨q05 q0t _,q05 q0t _,trivial⟩ ⟨by simp[q00],Old.old rfl rfl rfl rfl rfl rfl⟩
 rintro⟨i,x2,c2'⟩ ⟨hi1,hl2,ho2,hc2,hinv2,hsame2⟩ ho zo hold N hN
 obtain⟨⟨h3,rfl⟩,z3,rfl⟩:=hold
 simp only at hi1 hl2 ho2 hc2 hinv2 hsame2
 refine gg rfl (q01 rfl (fun e2=>?_) (fun e2=>?_))
 ·rw[q06]at e2
  simp only at e2
  have hik:i<k:=by omega
  have hvi:=q1j T.vo i
  have hxi:=q1j ho2 i
  have wi1:=wS (n:=i)
  have es:IntKind.u64.wrap ((c2':Int)+IntKind.u64.wrap (IntKind.u64.wrap (dg x2 i:Int)+IntKind.u64.wrap (dg v i:Int)))=((c2'+dg x2 i+dg v i:Nat):Int):=by simp only[q0U];omega
  refine gg rfl (q0H i rfl rfl rfl rfl rfl hik (gg rfl (q4k v i rfl (Nat.zero_add _) rfl (by omega) ?_)))
  refine gg rfl (q0H i rfl rfl rfl rfl rfl (by omega) ?_)
  refine gg rfl (q5Z pre x2 post i rfl rfl rfl (by omega) ?_)
  refine gg rfl ?_
  rw[es,q13]
  refine q0H i rfl rfl rfl rfl rfl (by omega) ?_
  refine gg rfl (q55 pre x2 post i ((c2'+dg x2 i+dg v i)%4294967296) rfl rfl rfl rfl rfl rfl (by omega) ?_)
  refine gg rfl (q19 (c2'+dg x2 i+dg v i) 32 rfl rfl rfl rfl (by decide) ?_)
  refine gg rfl (q04 (hN (i+1,x2.set i ((c2'+dg x2 i+dg v i)%4294967296),(c2'+dg x2 i+dg v i)/2^32) ⟨hik,by simp[hl2],ho2.set _ (Nat.mod_lt _ (by decide)),by simp only;omega,?_,?_⟩ (by simp only;omega) (q1U rfl ⟨q05 q0t _,q05 q0t _,trivial⟩ ⟨by simp[q00,wi1],Old.old rfl rfl rfl rfl rfl rfl⟩)))
  ·simp only
   rw[q2G (by omega),q0R x1,q0R v,show(2:Nat)^32=4294967296 by decide,Nat.pow_succ,Nat.add_assoc,q4j,Nat.mul_add,Nat.mul_add,hsame2 i (Nat.le_refl _)]
   omega
  intro j hj
  simp only at hj⊢
  rw[q3c,if_neg (by omega)]
  exact hsame2 j (by omega)
 rw[q07]at e2
 simp only at e2
 obtain rfl:i=k:=by omega
 clear hN
 have hdx:=hsame2 i (Nat.le_refl _)
 have hx1:=q1j ho1 i
 have fin:=qB0 T f1 hl1 ho1 hl2 ho2 hc2 hdx f2 hinv2
 have ec2:IntKind.u32.wrap (c2':Int)=(c2':Int):=by rw[q13];omega
 have ea2:IntKind.u32.wrap ((dg x2 i:Int)+(c2':Int))=(((dg x1 i+c2')%4294967296:Nat):Int):=by rw[hdx,qaI];omega
 have eq3:IntKind.u32.wrap (IntKind.u64.wrap ((q:Int)-1))=((val w/val (v.take i):Nat):Int):=by
  have a1:=f1
  have a2:=hqlt
  generalize val w/val (v.take i)=Qt at a1 a2⊢
  rw[q0U,qaI]
  clear hinv hinv2 hqr hq1 hq2 hql f2 fin
  omega
 refine gg rfl (q04 (gg rfl (q0H i rfl rfl rfl rfl rfl (by omega) ?_)))
 refine gg rfl (q5Z pre x2 post i rfl rfl rfl (by omega) ?_)
 refine gg rfl ?_
 rw[ec2,ea2]
 refine q0H i rfl rfl rfl rfl rfl (by omega) ?_
 refine gg rfl (q55 pre x2 post i ((dg x1 i+c2')%4294967296) rfl rfl rfl rfl rfl rfl (by omega) ?_)
 refine gg rfl ?_
 rw[eq3]
 exact qpg rfl rfl (hk (x2.set i ((dg x1 i+c2')%4294967296)) _ _ 401 (.inr rfl) (by simp[hl2]) (ho2.set _ (Nat.mod_lt _ (by decide))) fin (Old.of rfl rfl rfl rfl rfl rfl))
end Go.F

namespace Go.F
attribute [local irreducible] IntKind.wrap wpM
theorem qB1 {U:List Nat}{i n:Nat}(h:i+n+1≤U.length):U=U.take i++(U.drop i).take (n+1)++U.drop (i+n+1)∧(U.take i).length=i∧((U.drop i).take (n+1)).length=n+1:=by
 refine⟨?_,by simp;omega,by simp;omega⟩
 rw[List.append_assoc,show U.drop (i+n+1)=(U.drop i).drop (n+1)by rw[List.drop_drop];congr 1,List.take_append_drop,List.take_append_drop]
theorem q9D {l:List Nat}{n:Nat}(h:val l<4294967296^n):val (l.drop n)=0∧val (l.take n)=val l:=by
 have:=q2L l n
 have hz:val (l.drop n)=0:=by
  by_cases h0:val (l.drop n)=0
  ·exact h0
  have:4294967296^n*1≤4294967296^n*val (l.drop n):=Nat.mul_le_mul_left _ (by omega)
  omega
 rw[hz]at this
 exact⟨hz,by omega⟩
structure Dv (r v U Q:List Nat)(n m j:Nat):Prop where
 jm:j≤m
 ul:U.length=m+n
 uo:LOk U
 ql:Q.length=m
 qo:LOk Q
 lt:val (U.drop j)<val (v.take n)
 eq:val r=val U+val (v.take n) *(4294967296^j*val (Q.drop j))
theorem Dv.trial {r v U Q:List Nat}{n m j:Nat}(h:Dv r v U Q n m (j+1))(n2:2≤n)(vo:LOk v)(vl:n≤v.length)(hi:2147483648≤dg v (n-1)):
 Trial ((U.drop j).take (n+1)) v n∧val ((U.drop j).take (n+1))=val (U.drop j):=by
 have hl:=h.ul
 have hj:=h.jm
 have hV:=q2d vo n
 have hlt:=h.lt
 have e1:val (U.drop j)<4294967296*val (v.take n):=by
  rw[q2R]
  have:=q1j h.uo j
  omega
 have e2:val (U.drop j)<4294967296^(n+1):=by
  rw[Nat.pow_succ]
  have:4294967296*val (v.take n)≤4294967296*4294967296^n:=Nat.mul_le_mul_left _ (by omega)
  omega
 have e3:=(q9D e2).2
 exact⟨⟨n2,by simp;omega,(h.uo.drop j).take _,vo,vl,hi,by rw[e3];exact e1⟩,e3⟩
theorem Dv.next {r v U Q w':List Nat}{n m j:Nat}(h:Dv r v U Q n m (j+1))(T:Trial ((U.drop j).take (n+1)) v n)(hw:val ((U.drop j).take (n+1))=val (U.drop j))(hl':w'.length=n+1)(ho':LOk w')(hv':val w'=val ((U.drop j).take (n+1))%val (v.take n)):
 Dv r v (U.take j++w'++U.drop (j+n+1)) (Q.set j (val ((U.drop j).take (n+1))/val (v.take n))) n m j:=by
 have hl:=h.ul
 have hj:=h.jm
 have hpos:=T.pos.2
 have hq:=T.qlt
 obtain⟨w1,w2,w3⟩:=qB1 (U:=U) (i:=j) (n:=n) (by omega)
 have hpz:val (U.drop (j+n+1))=0:=by
  have:=q2L (U.drop j) (n+1)
  rw[hw,List.drop_drop,show j+(n+1)=j+n+1 by omega]at this
  have hp:0<4294967296^(n+1):=Nat.pow_pos (by decide)
  have h0:4294967296^(n+1) *val (U.drop (j+n+1))=0:=by omega
  rcases Nat.mul_eq_zero.1 h0 with h1|h1
  ·omega
  exact h1
 refine⟨by omega,by simp[hl'];omega,((h.uo.take j).append ho').append (h.uo.drop _),by simp[h.ql],h.qo.set _ hq,?_,?_⟩
 ·rw[List.append_assoc,List.drop_left' w2,val_append,hpz,hv']
  have:=Nat.mod_lt (val ((U.drop j).take (n+1))) hpos
  omega
 have heq:=h.eq
 have e1:val (U.take j++w'++U.drop (j+n+1))=val (U.take j)+4294967296^j*val w':=by
  rw[List.append_assoc,val_append,val_append,w2,hpz];simp
 have e2:val U=val (U.take j)+4294967296^j*val (U.drop j):=q2L U j
 rw[e1,q2R,q3c,if_pos ⟨rfl,by rw[h.ql];omega⟩,List.drop_set_of_lt (by omega),hv',hw]
 rw[heq,e2,Nat.pow_succ]
 have hdm:=Nat.div_add_mod (val (U.drop j)) (val (v.take n))
 generalize val (v.take n)=V at*
 generalize val (U.drop j)/V=q at*
 generalize val (U.drop j)%V=R at*
 rw[←hdm]
 generalize val (Q.drop (j+1))=X
 generalize 4294967296^j=P
 grind
set_option maxHeartbeats 8000000 in
theorem qeK (a b:List Nat) [ha:LOk a] [hb:LOk b](hla:a.length≤900000000)(hlb:b.length≤900000000):
 PU qjq [nat a,nat b]=some (if val b=0 then .tup [nat [],nat [],.bool false]else .tup [nat (q0f (val a/val b)),nat (q0f (val a%val b)),.bool true]):=by
 have ea:val (q0f (val a))=val a:=q0o _
 have eb:val (q0f (val b))=val b:=q0o _
 have hla':=q1F ha
 have hlb':=q1F hb
 refine q0g (fn:=qan) rfl (q0a ?_)
 refine gg rfl (q02 rfl rfl (q2F a (by omega)) ?_)
 refine gg rfl (q02 rfl rfl (q2F b (by omega)) ?_)
 refine gg rfl ?_
 have hAo:LOk (q0f (val a)):=q0A _
 have hBo:LOk (q0f (val b)):=q0A _
 have hb0:(q0f (val b)).length=0↔val b=0:=by rw[List.length_eq_zero_iff];exact qjw
 have hbtop:val b≠0→dg (q0f (val b)) ((q0f (val b)).length-1)≠0:=qsy
 have hlen:val b≤val a→(q0f (val b)).length≤(q0f (val a)).length:=fun h=>q0q.2 (Nat.lt_of_le_of_lt h (q0q.1 (Nat.le_refl _)))
 generalize q0f (val a)=A at*
 generalize q0f (val b)=B at*
 rw[List.length_map]
 refine q01 rfl (fun h1=>?_) (fun h1=>?_)
 ·rw[q1n]at h1
  refine gg rfl (q08 rfl rfl rfl trivial ?_)
  rw[if_pos (hb0.1 (by omega))];rfl
 rw[q1Q]at h1
 have hvb:val b≠0:=fun h=>h1 (by have:=hb0.2 h;omega)
 rw[if_neg hvb]
 refine gg rfl (q02 rfl rfl (qpe A B (by omega) (by omega)) ?_)
 refine gg rfl ?_
 rw[ea,eb]
 refine q01 rfl (fun h2=>?_) (fun h2=>?_)
 ·rw[q06]at h2
  have hlt:val a<val b:=by
   unfold q3B at h2
   split at h2
   ·omega
   split at h2<;>omega
  refine gg rfl (q02 rfl rfl (q5h A (by omega)) ?_)
  refine gg rfl (q08 rfl rfl rfl trivial ?_)
  rw[Nat.div_eq_of_lt hlt,Nat.mod_eq_of_lt hlt,ea];rfl
 rw[q07]at h2
 have hle:val b≤val a:=by
  unfold q3B at h2
  split at h2
  ·omega
  omega
 have hlen:=hlen hle
 refine gg rfl ?_
 rw[List.length_map]
 refine q01 rfl (fun h3=>?_) (fun h3=>?_)
 ·rw[q1n]at h3
  have hB1:B.length=1:=by omega
  have hd:=q1j hBo 0
  have ev:val B=dg B 0:=by
   have:=q0R B 0
   rw[List.take_of_length_le (by omega)]at this
   simpa[val]using this
  have hd0:dg B 0≠0:=by rw[←ev,eb];exact hvb
  have w0:IntKind.u64.wrap ((val A%dg B 0:Nat):Int)=((val A%dg B 0:Nat):Int):=q0C (by have:=Nat.mod_lt (val A) (show 0<dg B 0 by omega);omega)
  refine gg rfl (q0i 0 rfl rfl rfl (q2B (by omega)) rfl ?_)
  refine gg rfl (q02 rfl rfl (qFj A (dg B 0) (by omega) hd0 hd) ?_)
  refine gg rfl ?_
  rw[w0]
  refine q02 rfl rfl (q6E (val A%dg B 0) (by have:=Nat.mod_lt (val A) (show 0<dg B 0 by omega);omega)) ?_
  refine gg rfl (q08 rfl rfl rfl trivial ?_)
  rw[←eb,←ea,ev]
  rfl
 rw[q1Q]at h3
 have hn2:2≤B.length:=by omega
 generalize hn:B.length=n at*
 have wn1:IntKind.i64.wrap ((n:Int)-1)=((n-1:Nat):Int):=by rw[wrap64 (by omega) (by omega)];omega
 obtain⟨s,hs1,hs2,hs3,hs4⟩:=qik (dg B (n-1)) (q1j hBo _) (hbtop hvb)
 refine gg rfl ?_
 rw[List.length_map,hn]
 refine q0i (n-1) rfl rfl wn1 (q2B (by omega)) rfl ?_
 refine gg rfl (q02 rfl rfl hs1 (gg rfl (qjT rfl rfl (left1 A s (by omega) hs2 trivial fun r h' z' hr hro hrv hh' hz' _=>?_))))
 refine gg rfl (qjT rfl rfl (left2 B s (by omega) hs2 r ⟨hh',hz'⟩ fun v h'' z'' hv hvo hvv hh'' hz'' hold=>?_))
 obtain⟨h0,rfl⟩:∃h0:q0e,h''=upd (upd h0 80 (some (.row (r.map u32) 1))) 131 (some (.row (v.map u32) 1)):=⟨h'',by rw[q2w (f:=h'') hold.1,q2w (f:=h'') hh'']⟩
 obtain⟨z0,rfl⟩:∃z0:Frz,z''=upd (upd z0 80 0) 131 0:=⟨z'',by rw[q2w (f:=z'') hold.2,q2w (f:=z'') hz'']⟩
 rw[hn]at hv
 refine gg rfl (q9O n rfl rfl rfl ⟨_,_,rfl,rfl⟩ (by omega) ?_)
 refine gg rfl ?_
 have wm:IntKind.i64.wrap (((A.length+1:Nat):Int)-(n:Int))=((A.length+1-n:Nat):Int):=by rw[wrap64 (by omega) (by omega)];omega
 rw[wm]
 refine q44 (A.length+1-n) rfl rfl rfl (by simp[q0M];omega) ?_
 rw[q7r]
 refine gg rfl ?_
 have wm1:=ww (x:=((A.length+1-n:Nat):Int)-1)
 generalize hm:A.length+1-n=m at*
 have hAl:A.length+1=m+n:=by omega
 rw[hAl]at hr
 have hvV:val (v.take n)=val b*2^s:=by
  have h5:val v<4294967296^n:=by
   rw[hvv]
   have e1:=q0R B (n-1)
   rw[Nat.sub_add_cancel (by omega),List.take_of_length_le (by omega)]at e1
   have e2:=q2d hBo (n-1)
   have e3:val B<4294967296^(n-1) *(dg B (n-1)+1):=by rw[e1,Nat.mul_add];omega
   have e4:4294967296^n=4294967296^(n-1) *4294967296:=by rw[←Nat.pow_succ];congr 1;omega
   calc val B*2^s<4294967296^(n-1) *(dg B (n-1)+1) *2^s:=Nat.mul_lt_mul_of_pos_right e3 (Nat.two_pow_pos s)
    _=4294967296^(n-1) *((dg B (n-1)+1) *2^s):=Nat.mul_assoc _ _ _
    _≤4294967296^(n-1) *4294967296:=Nat.mul_le_mul_left _ hs4
    _=4294967296^n:=e4.symm
  rw[(q9D h5).2,hvv,eb]
 have hvtop:2147483648≤dg v (n-1):=by
  rw[qzw hvo,hvv]
  have e1:=q0R B (n-1)
  rw[Nat.sub_add_cancel (by omega),List.take_of_length_le (by omega)]at e1
  have e2:dg B (n-1) *2^s≤val B*2^s/4294967296^(n-1):=by
   rw[Nat.le_div_iff_mul_le (Nat.pow_pos (by decide)),e1,Nat.mul_right_comm]
   refine Nat.mul_le_mul_right _ ?_
   rw[Nat.mul_comm];omega
  have e3:val B*2^s/4294967296^(n-1)<4294967296:=by
   rw[Nat.div_lt_iff_lt_mul (Nat.pow_pos (by decide)),Nat.mul_comm 4294967296,←Nat.pow_succ,show(n-1).succ=n by omega,eb,←hvV]
   exact q2d hvo n
  rw[Nat.mod_eq_of_lt e3]
  omega
 have hstart:Dv r v r (List.replicate m 0) n m m:=by
  refine⟨Nat.le_refl _,hr,hro,by simp,q54 _,?_,by simp[val]⟩
  have e1:=q2L r m
  have e2:val r<4294967296^m*(4294967296^(n-1) *2^s):=by
   rw[hrv,←Nat.mul_assoc,←Nat.pow_add,show m+(n-1)=A.length by omega]
   exact Nat.mul_lt_mul_of_pos_right (q2Y hAo) (Nat.two_pow_pos s)
  have e3:val (r.drop m)<4294967296^(n-1) *2^s:=by
   refine Nat.lt_of_mul_lt_mul_left (a:=4294967296^m) ?_
   omega
  have e4:4294967296^(n-1) *dg v (n-1)≤val (v.take n):=by
   have:=q0R v (n-1)
   rw[Nat.sub_add_cancel (by omega)]at this
   omega
  have e5:2^s≤2147483648:=by simpa using Nat.pow_le_pow_right (n:=2) (by decide) hs2
  have e6:4294967296^(n-1) *2^s≤4294967296^(n-1) *dg v (n-1):=Nat.mul_le_mul_left _ (by omega)
  omega
 refine q0l (S:=fun x:Nat×List Nat×List Nat=>([q00 n,q00 s,.ref 2 0 (m+n),.ref 3 0 n,.ref 4 0 m,q00 ((x.1:Int)-1)],[none,none,some (.row (x.2.1.map u32) 1),some (.row (v.map u32) 1),some (.row (x.2.2.map u32) 1),none],[0,0,0,0,0,0]))
  (C:=fun x=>Dv r v x.2.1 x.2.2 n m x.1) (m:=fun x=>x.1) (m,r,List.replicate m 0) hstart (by simp only;omega) ?_ ?_
 ·exact q03 rfl ⟨q05 q0t _,q05 q0t _,q05 q0t _,trivial⟩ (by simp[q00,wm1,hAl])
 rintro⟨j,U,Q⟩ hD N hN
 simp only at hD
 have hul:=hD.ul
 have hql:=hD.ql
 have hjm:=hD.jm
 refine gg rfl (q01 rfl (fun g1=>?_) (fun g1=>?_))
 ·rw[q0E]at g1
  simp only at g1
  obtain⟨i,rfl⟩:∃i,j=i+1:=⟨j-1,by omega⟩
  obtain⟨T,hT⟩:=hD.trial hn2 hvo (by omega) hvtop
  obtain⟨w1,w2,w3⟩:=qB1 (U:=U) (i:=i) (n:=n) (by omega)
  have ei:((i+1:Nat):Int)-1=(i:Int):=by omega
  have wi:IntKind.i64.wrap (IntKind.i64.wrap ((i:Int)+(n:Int))+1)=((i+n+1:Nat):Int):=by rw[wrap64 (x:=(i:Int)+n) (by omega) (by omega),wrap64 (by omega) (by omega)];omega
  refine gg rfl ?_
  rw[ei]
  refine qy6 i (i+n+1) rfl rfl rfl ⟨_,_,rfl,rfl⟩ ⟨_,_,rfl,wi⟩ (by omega) ?_
  have esl:(if i=0 then D.ref 2 0 (i+n+1)else if i=i+n+1 then D.lst []else D.ref 2 (0+i) (i+n+1-i))=D.ref 2 (U.take i).length (n+1):=by
   rw[w2]
   by_cases hi0:i=0
   ·subst hi0;simp
   rw[if_neg hi0,if_neg (by omega)];congr 1<;>omega
  rw[esl]
  refine gg rfl (qjT rfl rfl (qFg (U.take i) ((U.drop i).take (n+1)) (U.drop (i+n+1)) v Q n T (by omega) (Old.of (by rw[←w1];rfl) rfl rfl rfl rfl rfl) fun w' h' z' nx' hnx hl' ho' hv' hold=>?_))
  obtain⟨⟨h1,rfl⟩,z1,rfl⟩:=hold
  have hD':=hD.next T hT hl' ho' hv'
  generalize U.take i++w'++U.drop (i+n+1)=U' at*
  have hq:=T.qlt
  generalize val ((U.drop i).take (n+1))/val (v.take n)=qd at*
  have wj:=ww (x:=(i:Int)-1)
  rcases hnx with rfl|rfl
  ·refine gg rfl (q0H i rfl rfl rfl rfl rfl (by omega) ?_)
   refine gg rfl (q20 Q i qd rfl rfl (Nat.zero_add _) rfl rfl (Nat.zero_le _) (by omega) ?_)
   exact gg rfl (q04 (hN (i,U',Q.set i qd) hD' (by simp only;omega) (q03 rfl ⟨q05 q0t _,q05 q0t _,q05 q0t _,trivial⟩ (by simp[q00,wj]))))
  refine gg rfl (q0H i rfl rfl rfl rfl rfl (by omega) ?_)
  refine gg rfl (q20 Q i qd rfl rfl (Nat.zero_add _) rfl rfl (Nat.zero_le _) (by omega) ?_)
  exact gg rfl (q04 (hN (i,U',Q.set i qd) hD' (by simp only;omega) (q03 rfl ⟨q05 q0t _,q05 q0t _,q05 q0t _,trivial⟩ (by simp[q00,wj]))))
 rw[q0F]at g1
 simp only at g1
 obtain rfl:j=0:=by omega
 have heq:=hD.eq
 have hlt:=hD.lt
 simp only[Nat.pow_zero,Nat.one_mul,List.drop_zero]at heq hlt
 have hU:val U<4294967296^n:=Nat.lt_trans hlt (q2d hvo n)
 have hUt:=(q9D hU).2
 have hpos:0<val (v.take n):=by omega
 have hQ:val Q=val a/val b:=by
  have:val Q=val r/val (v.take n):=by rw[heq,Nat.add_mul_div_left _ _ hpos,Nat.div_eq_of_lt hlt,Nat.zero_add]
  rw[this,hrv,hvV,ea,Nat.mul_div_mul_right _ _ (Nat.two_pow_pos s)]
 have hR:val (U.take n)/2^s=val a%val b:=by
  have:val U=val r%val (v.take n):=by rw[heq,Nat.add_mul_mod_self_left,Nat.mod_eq_of_lt hlt]
  rw[hUt,this,hrv,hvV,ea,Nat.mul_mod_mul_right,Nat.mul_div_cancel _ (Nat.two_pow_pos s)]
 have hQo:=hD.qo
 have hUo:LOk (U.take n):=hD.uo.take n
 have hp:=q2F Q (by omega)
 rw[hQ]at hp
 have hp2:=qjy (U.take n) s (by simp;omega) hs2
 rw[hR]at hp2
 have hrow:D.lst ((U.map u32).take n)=nat (U.take n):=by rw[nat,List.map_take]
 refine gg rfl (q04 (gg rfl (q1T rfl rfl ⟨q3H (l:=Q) hql.symm,trivial⟩ (by rw[q42 (l:=Q) hql.symm];exact hp) fun z=>?_)))
 refine gg rfl (q9O n rfl rfl rfl ⟨_,_,rfl,rfl⟩ (by omega) ?_)
 refine gg rfl (q1T rfl rfl ⟨⟨by simp;omega,?_⟩,trivial⟩ (by rw[hrow];exact hp2) fun z=>?_)
 ·rw[List.drop_zero,←List.map_take];exact q0W qAY _
 exact gg rfl (q08 rfl rfl rfl trivial rfl)
def bl (n:Nat):Nat:=if n=0 then 0 else n.log2+1
theorem qx0 {n k:Nat}(h:n<4294967296^k):bl n≤32*k:=by
 unfold bl
 split
 ·omega
 rename_i h0
 rw[show(4294967296:Nat)=2^32 by decide,←Nat.pow_mul]at h
 exact(Nat.log2_lt h0).2 h
theorem qFh {x y:Nat}(hy:y≠0)(h:y≤x):bl (x%y)<bl x:=by
 have hx:x≠0:=by omega
 unfold bl
 rw[if_neg hx]
 split
 ·omega
 rename_i h0
 have h2:2*(x%y)≤x:=by
  have hm:=Nat.mod_lt x (show 0<y by omega)
  have hd:=Nat.div_add_mod x y
  have hq:1≤x/y:=(Nat.le_div_iff_mul_le (by omega)).2 (by omega)
  have:y*1≤y*(x/y):=Nat.mul_le_mul_left _ hq
  omega
 have h3:(x%y).log2+1≤x.log2:=by
  have:=(Nat.le_log2 hx (k:=(x%y).log2+1)).2 (by
   have:=Nat.log2_self_le h0
   rw[Nat.pow_succ];omega)
  exact this
 omega
theorem Gcd_PU (a b:List Nat) [ha:LOk a] [hb:LOk b](hla:a.length≤900000000)(hlb:b.length≤900000000):PU qqV [nat a,nat b]=some (nat (q0f (Nat.gcd (val a) (val b)))):=by
 refine q0g (fn:=qfe) rfl (q0a ?_)
 refine gg rfl (q02 rfl rfl (q5h a (by omega)) ?_)
 refine gg rfl (q02 rfl rfl (q5h b (by omega)) ?_)
 refine gg rfl ?_
 obtain⟨K,hK⟩:∃K:Nat,K=900000000:=⟨_,rfl⟩
 rw[←hK]at hla hlb
 have hA:=Nat.lt_of_lt_of_le (q2Y ha) (Nat.pow_le_pow_right (show 0<4294967296 by decide) hla)
 have hB:=Nat.lt_of_lt_of_le (q2Y hb) (Nat.pow_le_pow_right (show 0<4294967296 by decide) hlb)
 refine q0l (S:=fun x:Nat×Nat=>([nat (q0f x.1),nat (q0f x.2)],[none,none],[0,0])) (C:=fun x=>x.1<4294967296^K∧x.2<4294967296^K∧Nat.gcd x.1 x.2=Nat.gcd (val a) (val b)) (m:=fun x=>2*(bl x.1+bl x.2)+if x.1<x.2 then 1 else 0) (val a,val b) ⟨hA,hB,rfl⟩ ?_ ?_ ?_
 ·simp only
  have h1:=qx0 hA
  have h2:=qx0 hB
  split<;>omega
 ·exact q03 rfl trivial (by simp[nat])
 rintro⟨x,y⟩ ⟨hx,hy,hg⟩ N hN
 simp only at hx hy hg
 refine gg rfl ?_
 rw[List.length_map]
 refine q01 rfl (fun h1=>?_) (fun h1=>?_)
 ·rw[q06]at h1
  have hy0:y≠0:=q3b.1 (by simp only at h1;omega)
  have hp:=qeK (q0f x) (q0f y) (hK▸q0q.2 hx) (hK▸q0q.2 hy)
  rw[q0o,q0o,if_neg hy0]at hp
  refine gg rfl (q02 rfl rfl hp (gg rfl (q04 (hN (y,x%y) ⟨hy,Nat.lt_of_le_of_lt (Nat.mod_le _ _) hx,?_⟩ ?_ (q03 rfl trivial (by simp[nat]))))))
  ·simp only
   rw[←hg,Nat.gcd_comm x y,Nat.gcd_rec y x,Nat.gcd_comm]
  simp only
  have hm:=Nat.mod_lt x (show 0<y by omega)
  by_cases hxy:x<y
  ·rw[if_pos hxy,Nat.mod_eq_of_lt hxy,if_neg (by omega)];omega
  have:=qFh hy0 (Nat.le_of_not_lt hxy)
  rw[if_neg hxy,if_neg (by omega)];omega
 rw[q07]at h1
 have hy0:y=0:=by
  by_cases h:y=0
  ·exact h
  have:=q3b.2 h;simp only at h1;omega
 refine gg rfl (q04 (gg rfl (q08 rfl rfl rfl trivial ?_)))
 rw[←hg,hy0,Nat.gcd_zero_right];rfl
end Go.F

namespace Go.F
attribute [local irreducible] IntKind.wrap wpM
class Sz (l:List Nat) (k:outParam Nat):Prop where
 ok:LOk l
 len:l.length≤k
instance {l:List Nat}{k:Nat} [h:Sz l k]:LOk l:=h.ok
class NB (n:Nat) (k:outParam Nat):Prop where
 lt:n<4294967296^k
instance szLimbs {n k:Nat} [h:NB n k]:Sz (q0f n) k:=⟨q0A _,q0q.2 h.lt⟩
instance q53 {l:List Nat}{k:Nat} [h:Sz l k]:NB (val l) k:=⟨Nat.lt_of_lt_of_le (q2Y h.ok) (Nat.pow_le_pow_right (by decide) h.len)⟩
theorem qdW {j k:Nat}(h:j≤k):4294967296^j≤4294967296^k:=Nat.pow_le_pow_right (by decide) h
theorem qEY (k:Nat):0<4294967296^k:=Nat.pow_pos (by decide)
theorem q6c {m n k:Nat}(h:m≤n)(hn:n<4294967296^k):m<4294967296^k:=Nat.lt_of_le_of_lt h hn
theorem qdX {m n j k:Nat}(h1:m<4294967296^j)(h2:n<4294967296^k):m+n<4294967296^(j+k+1):=by
 have a:=qdW (show j≤j+k by omega)
 have b:=qdW (show k≤j+k by omega)
 rw[Nat.pow_succ]
 omega
theorem q2l {m n j k:Nat}(h1:m<4294967296^j)(h2:n<4294967296^k):m*n<4294967296^(j+k):=by
 rw[Nat.pow_add]
 exact Nat.mul_lt_mul'' h1 h2
structure RI where
 neg:Bool
 mag:List Nat
def RI.enc (a:RI):D:=.agg [.bool a.neg,nat a.mag]
def RI.v (a:RI):Int:=if a.neg then-(val a.mag:Int)else val a.mag
def RI.of (z:Int):RI:=⟨decide (z<0),q0f z.natAbs⟩
def encI (z:Int):D:=(RI.of z).enc
theorem RI.of_v (z:Int):(RI.of z).v=z:=by
 unfold RI.of RI.v
 simp only[q0o]
 by_cases h:z<0
 ·rw[decide_eq_true h];simp;omega
 rw[decide_eq_false h];simp;omega
theorem RI.v_abs (a:RI):a.v.natAbs=val a.mag:=by
 unfold RI.v;split<;>omega
theorem qeJ (z:Int){neg:Bool}{n:Nat}(h1:neg=decide (z<0))(h2:n=z.natAbs):D.agg [.bool neg,nat (q0f n)]=encI z:=by
 subst h1;subst h2;rfl
theorem q5G (neg:Bool)(l:List Nat){k:Nat} [h:Sz l k](hk:k≤500000000):PU qjs [.bool neg,nat l]=some (encI (RI.v ⟨neg,l⟩)):=by
 have hl:=h.len
 have e:∀n:Nat,n=(q0f (val l)).length→ltb 0 (n:Int)=decide (val l≠0):=by
  rintro n rfl
  rw[q1J,decide_eq_decide]
  have:= @q3b (val l)
  omega
 refine q0g (fn:=qag) rfl (q0a ?_)
 refine gg rfl (q02 rfl rfl (q5h l (by omega)) ?_)
 refine gg rfl (q09 rfl (fun h1=>?_) (fun h1=>?_))
 ·refine gg rfl (q08 rfl rfl rfl trivial ?_)
  subst h1
  refine qeJ _ ?_ ?_
  ·rw[List.length_map,e _ rfl]
   simp only[RI.v]
   rw[decide_eq_decide];simp;omega
  simp[RI.v]
 refine gg rfl (q08 rfl rfl rfl trivial ?_)
 subst h1
 refine qeJ _ ?_ ?_
 ·simp only[RI.v]
  rw[eq_comm,decide_eq_false_iff_not,if_neg (by decide)];omega
 simp[RI.v]
theorem qfU (n:Int)(h1: -9223372036854775808≤n)(h2:n≤9223372036854775807):PU qtY [.int .i64 n]=some (encI n):=by
 have nb:NB n.natAbs 2:=⟨by show n.natAbs<18446744073709551616;omega⟩
 refine q0g (fn:=qh4) rfl (q0a ?_)
 refine gg rfl (q01 rfl (fun g1=>?_) (fun g1=>?_))
 ·rw[q06]at g1
  have e:IntKind.u64.wrap (0-IntKind.u64.wrap n)=((n.natAbs:Nat):Int):=by simp only[q0U];omega
  refine gg rfl ?_
  rw[e]
  refine q02 rfl rfl (q6E n.natAbs (by omega)) ?_
  refine gg rfl (q02 rfl rfl (q5G true (q0f n.natAbs) (by decide)) ?_)
  refine gg rfl (q08 rfl rfl rfl trivial ?_)
  have:RI.v ⟨true,q0f n.natAbs⟩=n:=by rw[RI.v,if_pos rfl,q0o];omega
  rw[this];rfl
 rw[q07]at g1
 have e:IntKind.u64.wrap n=((n.natAbs:Nat):Int):=by simp only[q0U];omega
 refine gg rfl ?_
 rw[e]
 refine q02 rfl rfl (q6E n.natAbs (by omega)) ?_
 refine gg rfl (q02 rfl rfl (q5G false (q0f n.natAbs) (by decide)) ?_)
 refine gg rfl (q08 rfl rfl rfl trivial ?_)
 have:RI.v ⟨false,q0f n.natAbs⟩=n:=by rw[RI.v,if_neg (by simp),q0o];omega
 rw[this];rfl
theorem q3S (a:RI){k:Nat} [h:Sz a.mag k](hk:k≤500000000):PU qoV [a.enc]=some (encI a.v):=by
 refine q0g (fn:=qdp) rfl (q0a ?_)
 exact gg rfl (q02 rfl rfl (q5G a.neg a.mag hk) (gg rfl (q08 rfl rfl rfl trivial rfl)))
theorem qoZ (a:RI){k:Nat} [h:Sz a.mag k](hk:k≤500000000):PU qqZ [a.enc]=some (encI (-a.v)):=by
 refine q0g (fn:=qfJ) rfl (q0a ?_)
 refine gg rfl (q02 rfl rfl (q5G (!a.neg) a.mag hk) (gg rfl (q08 rfl rfl rfl trivial ?_)))
 have:RI.v ⟨!a.neg,a.mag⟩= -a.v:=by unfold RI.v;cases a.neg<;>simp
 rw[this];rfl
theorem qp1 (a b:RI){j k:Nat} [ha:Sz a.mag j] [hb:Sz b.mag k](hj:j≤100000000)(hk:k≤100000000):PU qqY [a.enc,b.enc]=some (encI (a.v+b.v)):=by
 have la:=ha.len
 have lb:=hb.len
 have nba:NB (val a.mag) j:=inferInstance
 have nbb:NB (val b.mag) k:=inferInstance
 have sAdd:Sz (q0f (val a.mag+val b.mag)) (j+k+1):=⟨q0A _,q0q.2 (qdX nba.lt nbb.lt)⟩
 have sSub:Sz (q0f (val a.mag-val b.mag)) j:=⟨q0A _,q0q.2 (q6c (Nat.sub_le _ _) nba.lt)⟩
 have sSub':Sz (q0f (val b.mag-val a.mag)) k:=⟨q0A _,q0q.2 (q6c (Nat.sub_le _ _) nbb.lt)⟩
 have s1:=qFi a.mag b.mag (by omega) (by omega)
 have s2:=qFi b.mag a.mag (by omega) (by omega)
 refine q0g (fn:=qfQ) rfl (q0a ?_)
 refine gg rfl (q01 rfl (fun g1=>?_) (fun g1=>?_))
 ·refine gg rfl (q02 rfl rfl (qud a.mag b.mag (by omega) (by omega)) ?_)
  refine gg rfl (q02 rfl rfl (q5G a.neg _ (by omega)) ?_)
  refine gg rfl (q08 rfl rfl rfl trivial ?_)
  have g:a.neg=b.neg:=by simpa using g1
  have:RI.v ⟨a.neg,q0f (val a.mag+val b.mag)⟩=a.v+b.v:=by
   unfold RI.v;simp only[q0o,←g];split<;>omega
  rw[this];rfl
 have g:b.neg=!a.neg:=by revert g1;cases a.neg<;>cases b.neg<;>simp
 refine gg rfl ?_
 by_cases hlt:val a.mag<val b.mag
 ·rw[if_pos hlt]at s1
  rw[if_neg (by omega)]at s2
  refine q02 rfl rfl s1 (gg rfl (q0j rfl (gg rfl (q02 rfl rfl s2 (gg rfl (q02 rfl rfl (q5G b.neg _ (by omega)) ?_))))))
  refine gg rfl (q08 rfl rfl rfl trivial ?_)
  have:RI.v ⟨b.neg,q0f (val b.mag-val a.mag)⟩=a.v+b.v:=by
   unfold RI.v;simp only[q0o,g];cases a.neg<;>simp<;>omega
  rw[this];rfl
 rw[if_neg hlt]at s1
 refine q02 rfl rfl s1 (gg rfl (q0d rfl (gg rfl (q02 rfl rfl (q5G a.neg _ (by omega)) ?_))))
 refine gg rfl (q08 rfl rfl rfl trivial ?_)
 have:RI.v ⟨a.neg,q0f (val a.mag-val b.mag)⟩=a.v+b.v:=by
  unfold RI.v;simp only[q0o,g];cases a.neg<;>simp<;>omega
 rw[this];rfl
instance szOf {z:Int}{k:Nat} [h:NB z.natAbs k]:Sz (RI.of z).mag k:=⟨q0A _,q0q.2 h.lt⟩
theorem q4i (a b:RI){j k:Nat} [ha:Sz a.mag j] [hb:Sz b.mag k](hj:j≤100000000)(hk:k≤100000000):PU qqW [a.enc,b.enc]=some (encI (a.v*b.v)):=by
 have la:=ha.len
 have lb:=hb.len
 have nba:NB (val a.mag) j:=inferInstance
 have nbb:NB (val b.mag) k:=inferInstance
 have sM:Sz (q0f (val a.mag*val b.mag)) (j+k):=⟨q0A _,q0q.2 (q2l nba.lt nbb.lt)⟩
 refine q0g (fn:=qfg) rfl (q0a ?_)
 refine gg rfl (q02 rfl rfl (qpf a.mag b.mag (by omega) (by omega)) ?_)
 refine gg rfl (q02 rfl rfl (q5G _ _ (by omega)) ?_)
 refine gg rfl (q08 rfl rfl rfl trivial ?_)
 have:RI.v ⟨!(a.neg==b.neg),q0f (val a.mag*val b.mag)⟩=a.v*b.v:=by
  unfold RI.v;simp only[q0o];cases a.neg<;>cases b.neg<;>simp[Int.mul_neg,Int.neg_mul]
 rw[this];rfl
theorem orU64g {a b m:Nat}(hm:m≤64)(ha:a<2^m)(hb:b*2^m<18446744073709551616):IntKind.u64.wrap ((BitVec.ofInt IntKind.u64.bits (a:Int) |||BitVec.ofInt IntKind.u64.bits ((b*2^m:Nat):Int)).toNat:Int)=((a+b*2^m:Nat):Int):=by
 have hp:2^m≤18446744073709551616:=by simpa using Nat.pow_le_pow_right (n:=2) (by decide) hm
 rw[BitVec.or_comm,q7B,q7B,BitVec.toNat_or,BitVec.toNat_ofNat,BitVec.toNat_ofNat]
 have e:IntKind.u64.bits=64:=rfl
 rw[e,Nat.mod_eq_of_lt (show b*2^m<2^64 by omega),Nat.mod_eq_of_lt (show a<2^64 by omega),Nat.mul_comm b,←Nat.two_pow_add_eq_or_of_lt ha]
 have:2^m*b+a<18446744073709551616:=by
  have h1:2^m*b<2^m*2^(64-m):=by rw[←Nat.pow_add,show m+(64-m)=64 by omega,Nat.mul_comm];omega
  have h2:b+1≤2^(64-m):=Nat.lt_of_mul_lt_mul_left h1
  have h3:=Nat.mul_le_mul_left (2^m) h2
  rw[←Nat.pow_add,show m+(64-m)=64 by omega,Nat.mul_add]at h3
  omega
 rw[q0C this,Nat.add_comm]
def q9C (z:Int):D:=if-9223372036854775808≤z∧z≤9223372036854775807 then .tup [.int .i64 z,.bool true]else .tup [.int .i64 0,.bool false]
set_option maxHeartbeats 1000000 in
theorem qEZ (a:RI){k:Nat} [ha:Sz a.mag k](hk:k≤500000000):PU qmr [a.enc]=some (q9C a.v):=by
 refine q0g (fn:=qbI) rfl (q0a ?_)
 refine gg rfl (q02 rfl rfl (q3S a hk) (gg rfl ?_))
 have hMo:LOk (q0f a.v.natAbs):=q0A _
 have hMv:val (q0f a.v.natAbs)=a.v.natAbs:=q0o _
 have hlen:(q0f a.v.natAbs).length≤2↔a.v.natAbs<18446744073709551616:=by rw[q0q]
 have hneg:(RI.of a.v).neg=decide (a.v<0):=rfl
 have hmag:(RI.of a.v).mag=q0f a.v.natAbs:=rfl
 rw[hmag]at*
 generalize q0f a.v.natAbs=M at*
 rw[List.length_map]
 refine q01 rfl (fun h1=>?_) (fun h1=>?_)
 ·rw[q06]at h1
  refine gg rfl (q08 rfl rfl rfl trivial ?_)
  rw[q9C,if_neg (by omega)]
 rw[q07]at h1
 have h2:=hlen.1 (by omega)
 refine gg rfl (q0l (S:=fun x:Nat=>([.ptr 0 0 0,.int .u64 (val (M.take x)),nat M,q00 M.length,q00 x],[some (.row [.agg [.bool (decide (a.v<0)),nat M]] 2),none,none,none,none],[0,0,0,0,0])) (C:=fun x=>x≤M.length) (m:=fun x=>M.length-x) 0 (Nat.zero_le _) (by omega) ?_ ?_)
 ·exact q03 rfl ⟨rfl,trivial⟩ (by simp[nat,q00,val,hneg])
 intro i hi N hN
 refine gg rfl (q01 rfl (fun g1=>?_) (fun g1=>?_))
 ·rw[q06]at g1
  have hlt:i<M.length:=by omega
  have hx:=q1j hMo i
  have wi:=wS (n:=i)
  have w3:IntKind.i64.wrap (32*(i:Int))=((32*i:Nat):Int):=by rw[wrap64 (by omega) (by omega)];omega
  have wx:IntKind.u64.wrap (dg M i:Int)=(dg M i:Int):=q0C (by omega)
  have hb:dg M i*2^(32*i)<18446744073709551616:=by
   have:i=0∨i=1:=by omega
   rcases this with rfl|rfl<;>simp<;>omega
  have hv:=q2d hMo i
  have ho:=orU64g (a:=val (M.take i)) (b:=dg M i) (m:=32*i) (by omega) (by rw[Nat.pow_mul];exact hv) hb
  refine gg rfl (q0i i rfl rfl rfl (q2B hlt) rfl (gg rfl (q6w (dg M i) (32*i) rfl rfl wx w3 (by show 32*i≤64;omega) (q0C hb) ?_)))
  refine gg rfl ?_
  rw[ho]
  refine q04 (hN (i+1) hlt (by omega) (q03 rfl ⟨rfl,trivial⟩ ?_))
  have e:val (M.take (i+1))=val (M.take i)+dg M i*2^(32*i):=by rw[q0R,Nat.pow_mul,Nat.mul_comm]
  simp[nat,q00,wi,e]
 rw[q07]at g1
 obtain rfl:i=M.length:=by omega
 have e1:IntKind.i64.wrap (IntKind.u64.wrap (0-(a.v.natAbs:Int)))= -(a.v.natAbs:Int)∨9223372036854775808<a.v.natAbs:=by
  by_cases h:a.v.natAbs≤9223372036854775808
  ·left
   rw[q0U]
   simp[IntKind.wrap,IntKind.bits,IntKind.signed]
   omega
  right;omega
 have e2:IntKind.i64.wrap (a.v.natAbs:Int)=(a.v.natAbs:Int)∨9223372036854775808≤a.v.natAbs:=by
  by_cases h:a.v.natAbs<9223372036854775808
  ·left;exact wrap64 (by omega) (by omega)
  right;omega
 rw[List.take_length,hMv]at*
 clear hN
 refine gg rfl (q04 ?_)
 repeat' (first
  |refine goP 800 rfl rfl ?_
  |refine q0h rfl ?_|refine q0n rfl ?_|refine q09 rfl (fun _=>?_) (fun _=>?_)
  |refine q0d rfl ?_|refine q0j rfl ?_|refine q01 rfl (fun _=>?_) (fun _=>?_)
  |refine q0N rfl (fun _=>?_) (fun _=>?_)
  |refine q08 rfl rfl rfl trivial ?_)
 all_goals simp only[q1J,q27,decide_eq_true_eq,decide_eq_false_iff_not,Bool.not_eq_true',Bool.not_eq_false']at*
 all_goals unfold q9C
 all_goals (rcases e1 with e1|e1<;>rcases e2 with e2|e2<;>(try rw[e1])<;>(try rw[e2])<;>split<;>first|(exfalso;omega) |rfl|(simp;omega) |trace_state)
end Go.F

namespace Go.F
structure RR where
 neg:Bool
 mag:List Nat
 den:List Nat
def RR.num (a:RR):RI:=⟨a.neg,a.mag⟩
def RR.enc (a:RR):D:=.agg [.bool a.neg,nat a.mag,nat a.den]
def RR.v (a:RR):Rat:=mkRat a.num.v (val a.den)
def RR.of (q:Rat):RR:=⟨decide (q.num<0),q0f q.num.natAbs,q0f q.den⟩
def q7s (q:Rat):D:=(RR.of q).enc
theorem RR.of_v (q:Rat):(RR.of q).v=q:=by
 show mkRat (RI.of q.num).v (val (q0f q.den))=q
 rw[RI.of_v,q0o,Rat.mkRat_self]
theorem RR.of_den (q:Rat):val (RR.of q).den=q.den:=q0o _
class SzR (a:RR) (k:outParam Nat):Prop where
 mag:Sz a.mag k
 den:Sz a.den k
instance szRm {a:RR}{k:Nat} [h:SzR a k]:Sz a.mag k:=h.mag
instance szRd {a:RR}{k:Nat} [h:SzR a k]:Sz a.den k:=h.den
instance szRn {a:RR}{k:Nat} [h:SzR a k]:Sz a.num.mag k:=h.mag
class QB (q:Rat) (k:outParam Nat):Prop where
 num:q.num.natAbs<4294967296^k
 den:q.den<4294967296^k
instance qFL {q:Rat}{k:Nat} [h:QB q k]:SzR (RR.of q) k:=⟨⟨q0A _,q0q.2 h.num⟩,⟨q0A _,q0q.2 h.den⟩⟩
theorem qlY {n:Int}{g:Nat}(hg:g∣n.natAbs):(n/(g:Int)).natAbs=n.natAbs/g:=by
 have:(g:Int)∣n:=Int.dvd_natAbs.1 (Int.natCast_dvd_natCast.2 hg)
 rw[Int.natAbs_ediv_of_dvd this];simp
theorem qBi {n:Int}{d:Nat}{j:Nat}(hn:n.natAbs<4294967296^j)(hd:d<4294967296^j)(hd0:d≠0):QB (mkRat n d) j:=by
 constructor
 ·rw[Rat.num_mkRat,if_neg hd0,qlY (Nat.gcd_dvd_right _ _)]
  exact q6c (Nat.div_le_self _ _) hn
 rw[Rat.den_mkRat,if_neg hd0]
 exact q6c (Nat.div_le_self _ _) hd
instance qFM {a b:Rat}{j k:Nat} [ha:QB a j] [hb:QB b k]:QB (a+b) (j+k+1):=by
 rw[Rat.add_def']
 refine qBi ?_ ?_ (Nat.mul_ne_zero a.den_nz b.den_nz)
 ·have h1:=q2l ha.num hb.den
  have h2:=q2l hb.num ha.den
  rw[Nat.add_comm k j]at h2
  have:(a.num*b.den+b.num*a.den).natAbs≤a.num.natAbs*b.den+b.num.natAbs*a.den:=by
   refine Nat.le_trans (Int.natAbs_add_le _ _) ?_
   rw[Int.natAbs_mul,Int.natAbs_mul];simp
  rw[Nat.pow_succ]
  omega
 exact q6c (Nat.le_refl _) (Nat.lt_of_lt_of_le (q2l ha.den hb.den) (qdW (by omega)))
instance qFN {a b:Rat}{j k:Nat} [ha:QB a j] [hb:QB b k]:QB (a*b) (j+k):=by
 rw[Rat.mul_def']
 refine qBi ?_ (q2l ha.den hb.den) (Nat.mul_ne_zero a.den_nz b.den_nz)
 rw[Int.natAbs_mul];exact q2l ha.num hb.num
instance qbNeg {a:Rat}{k:Nat} [h:QB a k]:QB (-a) k:=⟨by rw[Rat.neg_num,Int.natAbs_neg];exact h.num,by rw[Rat.neg_den];exact h.den⟩
instance qFO {a b:Rat}{j k:Nat} [ha:QB a j] [hb:QB b k]:QB (a-b) (j+k+1):=by
 rw[Rat.sub_eq_add_neg];exact qFM
theorem qH9 (n:Int):n.sign.natAbs≤1:=by
 rcases Int.lt_trichotomy n 0 with h|h|h
 ·rw[Int.sign_eq_neg_one_of_neg h];decide
 ·subst h;decide
 rw[Int.sign_eq_one_of_pos h];decide
instance qbInv {a:Rat}{k:Nat} [h:QB a k]:QB a⁻¹ k:=by
 constructor
 ·rw[Rat.num_inv,Int.natAbs_mul]
  have h1:=qH9 a.num
  refine q6c ?_ h.den
  calc a.num.sign.natAbs*((a.den:Int)).natAbs≤1*a.den:=Nat.mul_le_mul h1 (by simp)
   _=a.den:=Nat.one_mul _
 rw[Rat.den_inv]
 split
 ·exact q6c a.den_pos h.den
 exact h.num
instance qbDiv {a b:Rat}{j k:Nat} [ha:QB a j] [hb:QB b k]:QB (a/b) (j+k):=by
 rw[Rat.div_def];exact qFN
theorem qzX {z:Int}(h1: -9223372036854775808≤z)(h2:z≤9223372036854775807):QB (z:Rat) 2:=by
 constructor
 ·rw[Rat.num_intCast];show z.natAbs<18446744073709551616;omega
 rw[Rat.den_intCast];decide
def rnd (n:Int)(d:Nat):Int:=if n<0 then-(((2*n.natAbs+d)/(2*d):Nat):Int)else((2*n.natAbs+d)/(2*d):Nat)
def q1l (q:Rat):Int:=rnd q.num q.den
theorem qHa (n:Int)(d k:Nat)(hk:k≠0):rnd (n*k) (d*k)=rnd n d:=by
 unfold rnd
 have e:(2*(n*(k:Int)).natAbs+d*k)/(2*(d*k))=(2*n.natAbs+d)/(2*d):=by
  rw[Int.natAbs_mul]
  simp only[Int.natAbs_natCast]
  rw[←Nat.mul_assoc,←Nat.add_mul,←Nat.mul_assoc,Nat.mul_div_mul_right _ _ (Nat.pos_of_ne_zero hk)]
 have hs:n*(k:Int)<0↔n<0:=by
  have hk':(0:Int)<k:=by omega
  constructor
  ·intro h
   by_cases hn:n<0
   ·exact hn
   have:=Int.mul_nonneg (show 0≤n by omega) (Int.le_of_lt hk');omega
  intro h;exact Int.mul_neg_of_neg_of_pos h hk'
 rw[e]
 by_cases h:n<0
 ·rw[if_pos h,if_pos (hs.2 h)]
 rw[if_neg h,if_neg (fun h'=>h (hs.1 h'))]
theorem qjH (n:Int){d:Nat}(hd:d≠0):q1l (mkRat n d)=rnd n d:=by
 obtain⟨k,hk,h1,h2⟩:=Rat.normalize_num_den' n d hd
 rw[Rat.normalize_eq_mkRat]at h1 h2
 show rnd (mkRat n d).num (mkRat n d).den=rnd n d
 rw[←qHa _ _ k hk,←h1,←h2]
theorem qBj {n:Int}{d:Nat}(hd:d≠0):q7s (mkRat n d)=.agg [.bool (decide (n<0)),nat (q0f (n.natAbs/Nat.gcd n.natAbs d)),nat (q0f (d/Nat.gcd n.natAbs d))]:=by
 have e1:(mkRat n d).num.natAbs=n.natAbs/Nat.gcd n.natAbs d:=by
  rw[Rat.num_mkRat,if_neg hd,qlY (Nat.gcd_dvd_right _ _),Nat.gcd_comm]
 have e2:(mkRat n d).den=d/Nat.gcd n.natAbs d:=by
  rw[Rat.den_mkRat,if_neg hd,Nat.gcd_comm]
 have e3:(mkRat n d).num<0↔n<0:=by
  have h1:0≤(mkRat n d).num↔0≤n:=by
   rw[Rat.num_nonneg,←Rat.divInt_ofNat,Rat.divInt_nonneg_iff_of_pos_right (by omega)]
  omega
 unfold q7s RR.of RR.enc
 simp only[e1,e2]
 rw[show decide ((mkRat n d).num<0)=decide (n<0)from by simp only[e3]]
def RR.fix (a:RR):RR:=if val a.den=0 then⟨false,[],[1]⟩else a
theorem RR.fix_v (a:RR):a.fix.v=a.v:=by
 unfold RR.fix
 split
 ·rename_i h
  simp only[RR.v,h,Rat.mkRat_zero]
  rfl
 rfl
theorem RR.fix_den (a:RR):val a.fix.den≠0:=by
 unfold RR.fix
 split
 ·simp[val]
 assumption
instance q9s {a:RR}{k:Nat} [h:SzR a k]:SzR a.fix (k+1):=by
 have h1:=h.mag.len
 have h2:=h.den.len
 unfold RR.fix
 split
 ·exact⟨⟨⟨by simp⟩,by simp⟩,⟨⟨by simp⟩,by simp⟩⟩
 exact⟨⟨h.mag.ok,by omega⟩,⟨h.den.ok,by omega⟩⟩
end Go.F

namespace Go.F
attribute [local irreducible] IntKind.wrap wpM
theorem qBk (l:List Nat){k:Nat} [h:Sz l k](hk:k≤100000000):PU qtT [nat l]=some (.bool (decide (val l=0))):=by
 have hl:=h.len
 refine q0g (fn:=qgT) rfl (q0a ?_)
 refine gg rfl (q02 rfl rfl (qpe l [] (by omega) (by simp)) ?_)
 refine gg rfl (q08 rfl rfl rfl trivial ?_)
 congr 1
 rw[q2e,decide_eq_decide]
 have e:q3B (val l:Int) (val ([]:List Nat):Int)=if val l=0 then 0 else 1:=by
  show q3B (val l:Int) 0=_
  unfold q3B
  by_cases h0:val l=0
  ·simp[h0]
  rw[if_neg (by omega),if_pos (by omega),if_neg h0]
 rw[e]
 by_cases h0:val l=0<;>simp[h0]
theorem q9t (l:List Nat):PU qjr [nat l]=some (RI.enc ⟨false,l⟩):=by
 refine q0g (fn:=qaa) rfl (q0a ?_)
 exact gg rfl (q08 rfl rfl rfl trivial rfl)
theorem q57 (a:RR){k:Nat} [h:SzR a k](hk:k≤100000000):PU qqR [a.enc]=some a.fix.enc:=by
 refine q0g (fn:=qfa) rfl (q0a ?_)
 refine gg rfl (q02 rfl rfl (qBk a.den hk) (gg rfl (q01 rfl (fun g=>?_) (fun g=>?_))))
 ·refine gg rfl (q02 rfl rfl (q6E 1 (by decide)) ?_)
  refine gg rfl (q08 rfl rfl rfl trivial ?_)
  rw[RR.fix,if_pos (by simpa using g)];rfl
 refine gg rfl (q08 rfl rfl rfl trivial ?_)
 rw[RR.fix,if_neg (by simpa using g)];rfl
theorem qaO (n:RI)(d:List Nat){j k:Nat} [hn:Sz n.mag j] [hd:Sz d k](hj:j≤100000000)(hk:k≤100000000)(hd0:val d≠0):PU qoS [n.enc,nat d]=some (q7s (mkRat n.v (val d))):=by
 have ln:=hn.len
 have ld:=hd.len
 have nbn:NB (val n.mag) j:=inferInstance
 have nbd:NB (val d) k:=inferInstance
 have hg0:Nat.gcd (val n.mag) (val d)≠0:=by
  have:=Nat.gcd_pos_of_pos_right (val n.mag) (show 0<val d by omega);omega
 have lg:(q0f (Nat.gcd (val n.mag) (val d))).length≤k:=q0q.2 (q6c (Nat.gcd_le_right _ (by omega)) nbd.lt)
 have d1:=qeK n.mag (q0f (Nat.gcd (val n.mag) (val d))) (by omega) (by omega)
 have d2:=qeK d (q0f (Nat.gcd (val n.mag) (val d))) (by omega) (by omega)
 rw[q0o,if_neg hg0]at d1 d2
 have s1:Sz (q0f (val n.mag/Nat.gcd (val n.mag) (val d))) j:=⟨q0A _,q0q.2 (q6c (Nat.div_le_self _ _) nbn.lt)⟩
 refine q0g (fn:=qcV) rfl (q0a ?_)
 refine gg rfl (q02 rfl rfl (Gcd_PU n.mag d (by omega) (by omega)) ?_)
 refine gg rfl (q02 rfl rfl d1 (gg rfl (q02 rfl rfl d2 (gg rfl (q02 rfl rfl (q3S ⟨n.neg,q0f (val n.mag/Nat.gcd (val n.mag) (val d))⟩ (by omega)) ?_)))))
 refine gg rfl (q08 rfl rfl rfl trivial ?_)
 rw[qBj hd0,RI.v_abs]
 have e1:RI.v ⟨n.neg,q0f (val n.mag/Nat.gcd (val n.mag) (val d))⟩=if n.neg then-((val n.mag/Nat.gcd (val n.mag) (val d):Nat):Int)else(val n.mag/Nat.gcd (val n.mag) (val d):Nat):=by
  rw[RI.v,q0o]
 have hdv:=Nat.div_mul_cancel (Nat.gcd_dvd_left (val n.mag) (val d))
 have e2:decide (RI.v ⟨n.neg,q0f (val n.mag/Nat.gcd (val n.mag) (val d))⟩<0)=decide (n.v<0):=by
  rw[e1,decide_eq_decide,RI.v]
  have hz:val n.mag/Nat.gcd (val n.mag) (val d)=0↔val n.mag=0:=by
   constructor
   ·intro h;rw[h]at hdv;omega
   intro h;rw[h];simp
  generalize val n.mag/Nat.gcd (val n.mag) (val d)=x at*
  split<;>omega
 have e3:(RI.v ⟨n.neg,q0f (val n.mag/Nat.gcd (val n.mag) (val d))⟩).natAbs=val n.mag/Nat.gcd (val n.mag) (val d):=by
  rw[RI.v_abs,q0o]
 show D.agg [.bool (decide (RI.v ⟨n.neg,q0f (val n.mag/Nat.gcd (val n.mag) (val d))⟩<0)),nat (q0f (RI.v ⟨n.neg,q0f (val n.mag/Nat.gcd (val n.mag) (val d))⟩).natAbs),nat (q0f (val d/Nat.gcd (val n.mag) (val d)))]=_
 rw[e2,e3]
theorem qlZ (n d:Int)(h1: -9223372036854775808≤n)(h2:n≤9223372036854775807)(h3:0<d)(h4:d≤9223372036854775807):PU qz7 [.int .i64 n,.int .i64 d]=some (.tup [q7s (mkRat n d.toNat),.bool true]):=by
 have nb:NB n.natAbs 2:=⟨by show n.natAbs<18446744073709551616;omega⟩
 have nb2:NB d.natAbs 2:=⟨by show d.natAbs<18446744073709551616;omega⟩
 have hneg:(RI.of d).neg=false:=by show decide (d<0)=false;simp;omega
 have hr:=qaO (RI.of n) (q0f d.natAbs) (by decide) (by decide) (by rw[q0o];omega)
 rw[RI.of_v,q0o]at hr
 have hdn:d.natAbs=d.toNat:=by omega
 rw[←hdn]
 refine q0g (fn:=qo6) rfl (q0a ?_)
 refine gg rfl (q01 rfl (fun g=>?_) (fun g=>?_))
 ·rw[q1n]at g;omega
 refine gg rfl (q02 rfl rfl (qfU n (by omega) (by omega)) ?_)
 refine gg rfl (q02 rfl rfl (qfU d (by omega) (by omega)) ?_)
 refine gg rfl ?_
 have e:(!((RI.of n).neg==(RI.of d).neg))=(RI.of n).neg:=by rw[hneg];cases(RI.of n).neg<;>rfl
 rw[e]
 exact q02 rfl rfl hr (gg rfl (q08 rfl rfl rfl trivial rfl))
theorem quQ (a:RR){k:Nat} [h:SzR a k](hk:k≤10000000):PU qwv [a.enc]=some (q7s (-a.v)):=by
 have h0:=a.fix_den
 have hv:=a.fix_v
 have sn:Sz (RI.of (-a.fix.num.v)).mag (k+1):=⟨q0A _,q0q.2 (by rw[Int.natAbs_neg,RI.v_abs];exact(q53 (l:=a.fix.num.mag)).lt)⟩
 have hr:=qaO (RI.of (-a.fix.num.v)) a.fix.den (by omega) (by omega) h0
 rw[RI.of_v,←Rat.neg_mkRat]at hr
 refine q0g (fn:=qkO) rfl (q0a ?_)
 refine gg rfl (q02 rfl rfl (q57 a (by omega)) ?_)
 refine gg rfl (q02 rfl rfl (qoZ a.fix.num (by omega)) ?_)
 refine gg rfl (q02 rfl rfl hr (gg rfl (q08 rfl rfl rfl trivial ?_)))
 rw[←hv];rfl
theorem qFQ (l:List Nat):RI.v ⟨false,l⟩=val l:=by simp[RI.v]
theorem qbt (a b:RR){j k:Nat} [ha:SzR a j] [hb:SzR b k](hj:j≤10000000)(hk:k≤10000000):PU qwu [a.enc,b.enc]=some (q7s (a.v+b.v)):=by
 have ha0:=a.fix_den
 have hb0:=b.fix_den
 have hva:=a.fix_v
 have hvb:=b.fix_v
 have na:=(q53 (l:=a.fix.num.mag)).lt
 have nad:=(q53 (l:=a.fix.den)).lt
 have nb:=(q53 (l:=b.fix.num.mag)).lt
 have nbd:=(q53 (l:=b.fix.den)).lt
 have s1:Sz (RI.of (a.fix.num.v*val b.fix.den)).mag ((j+1)+(k+1)):=⟨q0A _,q0q.2 (by rw[Int.natAbs_mul,RI.v_abs];exact q2l na nbd)⟩
 have s2:Sz (RI.of (b.fix.num.v*val a.fix.den)).mag ((k+1)+(j+1)):=⟨q0A _,q0q.2 (by rw[Int.natAbs_mul,RI.v_abs];exact q2l nb nad)⟩
 have s3:Sz (RI.of (a.fix.num.v*val b.fix.den+b.fix.num.v*val a.fix.den)).mag (((j+1)+(k+1))+((k+1)+(j+1))+1):=
  ⟨q0A _,q0q.2 (q6c (Int.natAbs_add_le _ _) (qdX (by rw[Int.natAbs_mul,RI.v_abs];exact q2l na nbd) (by rw[Int.natAbs_mul,RI.v_abs];exact q2l nb nad)))⟩
 have s4:Sz (q0f (val a.fix.den*val b.fix.den)) ((j+1)+(k+1)):=⟨q0A _,q0q.2 (q2l nad nbd)⟩
 have sp1:Sz (RI.mag ⟨false,b.fix.den⟩) (k+1):=(q9s (a:=b)).den
 have sp2:Sz (RI.mag ⟨false,a.fix.den⟩) (j+1):=(q9s (a:=a)).den
 have lad:=(q9s (a:=a)).den.len
 have lbd:=(q9s (a:=b)).den.len
 have m1:=q4i a.fix.num ⟨false,b.fix.den⟩ (by omega) (by omega)
 have m2:=q4i b.fix.num ⟨false,a.fix.den⟩ (by omega) (by omega)
 rw[qFQ]at m1 m2
 have a1:=qp1 (RI.of (a.fix.num.v*val b.fix.den)) (RI.of (b.fix.num.v*val a.fix.den)) (by omega) (by omega)
 rw[RI.of_v,RI.of_v]at a1
 have r1:=qaO (RI.of (a.fix.num.v*val b.fix.den+b.fix.num.v*val a.fix.den)) (q0f (val a.fix.den*val b.fix.den)) (by omega) (by omega) (by rw[q0o];exact Nat.mul_ne_zero ha0 hb0)
 rw[RI.of_v,q0o,←Rat.mkRat_add_mkRat _ _ ha0 hb0]at r1
 refine q0g (fn:=ql5) rfl (q0a ?_)
 refine gg rfl (q02 rfl rfl (q57 a (by omega)) ?_)
 refine gg rfl (q02 rfl rfl (q57 b (by omega)) ?_)
 refine gg rfl (q02 rfl rfl (q9t b.fix.den) (gg rfl (q02 rfl rfl m1 (gg rfl (q02 rfl rfl (q9t a.fix.den) (gg rfl (q02 rfl rfl m2 (gg rfl (q02 rfl rfl a1 (gg rfl (q02 rfl rfl (qpf a.fix.den b.fix.den (by omega) (by omega)) ?_)))))))))))
 refine gg rfl (q02 rfl rfl r1 (gg rfl (q08 rfl rfl rfl trivial ?_)))
 rw[←hva,←hvb];rfl
end Go.F

namespace Go.F
attribute [local irreducible] IntKind.wrap wpM
instance qbV {a:RR}{k:Nat} [h:SzR a k]:QB a.v (k+1):=by
 by_cases h0:val a.den=0
 ·have e:a.v=0:=by rw[RR.v,h0,Rat.mkRat_zero]
  rw[e]
  refine⟨?_,?_⟩
  ·show 0<_;exact qEY _
  show 1<_
  have:=qdW (show 1≤k+1 by omega)
  omega
 have h1:=(q53 (l:=a.num.mag)).lt
 have h2:=(q53 (l:=a.den)).lt
 have:=qdW (show k≤k+1 by omega)
 exact qBi (by rw[RI.v_abs];omega) (by omega) h0
theorem qbu (a b:RR){j k:Nat} [ha:SzR a j] [hb:SzR b k](hj:j≤1000000)(hk:k≤1000000):PU qwo [a.enc,b.enc]=some (q7s (a.v-b.v)):=by
 have h1:=qbt a (RR.of (-b.v)) (by omega) (by omega)
 rw[RR.of_v,←Rat.sub_eq_add_neg]at h1
 refine q0g (fn:=qlq) rfl (q0a ?_)
 refine gg rfl (q02 rfl rfl (quQ b (by omega)) ?_)
 exact gg rfl (q02 rfl rfl h1 (gg rfl (q08 rfl rfl rfl trivial rfl)))
theorem q7t (a b:RR){j k:Nat} [ha:SzR a j] [hb:SzR b k](hj:j≤10000000)(hk:k≤10000000):PU qws [a.enc,b.enc]=some (q7s (a.v*b.v)):=by
 have ha0:=a.fix_den
 have hb0:=b.fix_den
 have hva:=a.fix_v
 have hvb:=b.fix_v
 have na:=(q53 (l:=a.fix.num.mag)).lt
 have nad:=(q53 (l:=a.fix.den)).lt
 have nb:=(q53 (l:=b.fix.num.mag)).lt
 have nbd:=(q53 (l:=b.fix.den)).lt
 have lad:=(q9s (a:=a)).den.len
 have lbd:=(q9s (a:=b)).den.len
 have s1:Sz (RI.of (a.fix.num.v*b.fix.num.v)).mag ((j+1)+(k+1)):=⟨q0A _,q0q.2 (by rw[Int.natAbs_mul,RI.v_abs,RI.v_abs];exact q2l na nb)⟩
 have s4:Sz (q0f (val a.fix.den*val b.fix.den)) ((j+1)+(k+1)):=⟨q0A _,q0q.2 (q2l nad nbd)⟩
 have r1:=qaO (RI.of (a.fix.num.v*b.fix.num.v)) (q0f (val a.fix.den*val b.fix.den)) (by omega) (by omega) (by rw[q0o];exact Nat.mul_ne_zero ha0 hb0)
 rw[RI.of_v,q0o,←Rat.mkRat_mul_mkRat]at r1
 refine q0g (fn:=qkp) rfl (q0a ?_)
 refine gg rfl (q02 rfl rfl (q57 a (by omega)) ?_)
 refine gg rfl (q02 rfl rfl (q57 b (by omega)) ?_)
 refine gg rfl (q02 rfl rfl (q4i a.fix.num b.fix.num (by omega) (by omega)) ?_)
 refine gg rfl (q02 rfl rfl (qpf a.fix.den b.fix.den (by omega) (by omega)) ?_)
 refine gg rfl (q02 rfl rfl r1 (gg rfl (q08 rfl rfl rfl trivial ?_)))
 rw[←hva,←hvb];rfl
theorem qFR (a b:RR)(ha:val a.den≠0)(hb:val b.den≠0)(hbm:val b.mag≠0):mkRat (RI.v ⟨!(a.neg==b.neg),q0f (val a.mag*val b.den)⟩) (val a.den*val b.mag)=a.v/b.v:=by
 have hbv:b.v≠0:=by
  rw[RR.v,Rat.mkRat_ne_zero hb]
  intro h
  have:=RI.v_abs b.num
  rw[h]at this
  exact hbm (by simpa[RR.num]using this.symm)
 have e:mkRat (RI.v ⟨!(a.neg==b.neg),q0f (val a.mag*val b.den)⟩) (val a.den*val b.mag) *b.v=a.v:=by
  rw[RR.v,RR.v,Rat.mkRat_mul_mkRat,Rat.mkRat_eq_iff (Nat.mul_ne_zero (Nat.mul_ne_zero ha hbm) hb) ha]
  unfold RI.v RR.num
  simp only[q0o]
  cases a.neg<;>cases b.neg<;>simp<;>grind
 rw[←e,Rat.mul_div_cancel hbv]
theorem quR (a b:RR){j k:Nat} [ha:SzR a j] [hb:SzR b k](hj:j≤10000000)(hk:k≤10000000):PU qwn [a.enc,b.enc]=some (if b.v=0 then .tup [RR.enc ⟨false,[],[]⟩,.bool false]else .tup [q7s (a.v/b.v),.bool true]):=by
 have ha0:=a.fix_den
 have hb0:=b.fix_den
 have hva:=a.fix_v
 have hvb:=b.fix_v
 have na:=(q53 (l:=a.fix.mag)).lt
 have nad:=(q53 (l:=a.fix.den)).lt
 have nb:=(q53 (l:=b.fix.mag)).lt
 have nbd:=(q53 (l:=b.fix.den)).lt
 have lad:=(q9s (a:=a)).den.len
 have lbd:=(q9s (a:=b)).den.len
 have lam:=(q9s (a:=a)).mag.len
 have lbm:=(q9s (a:=b)).mag.len
 have hz:b.v=0↔val b.fix.mag=0:=by
  rw[←hvb,RR.v,Rat.mkRat_eq_zero hb0]
  have:=RI.v_abs b.fix.num
  constructor
  ·intro h;rw[h]at this;exact this.symm
  intro h;have h2:b.fix.num.v.natAbs=0:=by rw[this];exact h
  exact Int.natAbs_eq_zero.1 h2
 have s1:Sz (q0f (val a.fix.mag*val b.fix.den)) ((j+1)+(k+1)):=⟨q0A _,q0q.2 (q2l na nbd)⟩
 have s1':Sz (RI.mag ⟨!(a.fix.neg==b.fix.neg),q0f (val a.fix.mag*val b.fix.den)⟩) ((j+1)+(k+1)):=s1
 have s4:Sz (q0f (val a.fix.den*val b.fix.mag)) ((j+1)+(k+1)):=⟨q0A _,q0q.2 (q2l nad nb)⟩
 refine q0g (fn:=qkE) rfl (q0a ?_)
 refine gg rfl (q02 rfl rfl (q57 a (by omega)) ?_)
 refine gg rfl (q02 rfl rfl (q57 b (by omega)) ?_)
 refine gg rfl (q02 rfl rfl (qBk b.fix.mag (by omega)) ?_)
 refine gg rfl (q01 rfl (fun g=>?_) (fun g=>?_))
 ·have g:val b.fix.mag=0:=by simpa using g
  refine gg rfl (q08 rfl rfl rfl trivial ?_)
  rw[if_pos (hz.2 g)];rfl
 have g:val b.fix.mag≠0:=by simpa using g
 have r1:=qaO ⟨!(a.fix.neg==b.fix.neg),q0f (val a.fix.mag*val b.fix.den)⟩ (q0f (val a.fix.den*val b.fix.mag)) (by omega) (by omega) (by rw[q0o];exact Nat.mul_ne_zero ha0 g)
 rw[q0o,qFR a.fix b.fix ha0 hb0 g,hva,hvb]at r1
 refine gg rfl (q02 rfl rfl (qpf a.fix.mag b.fix.den (by omega) (by omega)) ?_)
 refine gg rfl (q02 rfl rfl (qpf a.fix.den b.fix.mag (by omega) (by omega)) ?_)
 refine gg rfl (q02 rfl rfl r1 (gg rfl (q08 rfl rfl rfl trivial ?_)))
 rw[if_neg (fun h=>g (hz.1 h))];rfl
theorem qxD (a:RR)(ha:val a.den≠0):RI.v ⟨a.neg,q0f ((val a.mag+val a.mag+val a.den)/(val a.den+val a.den))⟩=q1l a.v:=by
 rw[RR.v,qjH _ ha]
 unfold rnd
 rw[RI.v_abs]
 simp only[RR.num,q0o,RI.v]
 rw[←Nat.two_mul,←Nat.two_mul]
 by_cases h0:val a.mag=0
 ·have:(2*val a.mag+val a.den)/(2*val a.den)=0:=by rw[h0];exact Nat.div_eq_of_lt (by omega)
  rw[this];simp[h0]
 by_cases hn:a.neg=true
 ·simp only[hn,if_true];rw[if_pos (by omega)]
 simp only[hn,if_false];rw[if_neg (by simp),if_neg (by rw[if_neg (by simp)];omega)]
theorem qDi (q:Rat):(q1l q).natAbs≤2*q.num.natAbs+q.den:=by
 unfold q1l rnd
 have:=Nat.div_le_self (2*q.num.natAbs+q.den) (2*q.den)
 generalize (2*q.num.natAbs+q.den)/(2*q.den)=x at*
 split<;>omega
instance nbRound {q:Rat}{k:Nat} [h:QB q k]:NB (q1l q).natAbs (k+1):=by
 refine⟨q6c (qDi q) ?_⟩
 have h1:=h.num
 have h2:=h.den
 rw[Nat.pow_succ]
 omega
theorem qpP (a:RR){k:Nat} [h:SzR a k](hk:k≤1000000):PU qqU [a.enc]=some (encI (q1l a.v)):=by
 have ha0:=a.fix_den
 have hva:=a.fix_v
 have na:=(q53 (l:=a.fix.mag)).lt
 have nad:=(q53 (l:=a.fix.den)).lt
 have lad:=(q9s (a:=a)).den.len
 have lam:=(q9s (a:=a)).mag.len
 have n2:=qdX na na
 have n3:=qdX n2 nad
 have n4:=qdX nad nad
 have l2:=q0q.2 n2
 have l3:=q0q.2 n3
 have l4:=q0q.2 n4
 have a2:=qud (q0f (val a.fix.mag+val a.fix.mag)) a.fix.den (by omega) (by omega)
 rw[q0o]at a2
 have d1:=qeK (q0f (val a.fix.mag+val a.fix.mag+val a.fix.den)) (q0f (val a.fix.den+val a.fix.den)) (by omega) (by omega)
 rw[q0o,q0o,if_neg (by omega)]at d1
 have s5:Sz (RI.mag ⟨a.fix.neg,q0f ((val a.fix.mag+val a.fix.mag+val a.fix.den)/(val a.fix.den+val a.fix.den))⟩) _:=⟨q0A _,q0q.2 (q6c (Nat.div_le_self _ _) n3)⟩
 have nrm:=q3S ⟨a.fix.neg,q0f ((val a.fix.mag+val a.fix.mag+val a.fix.den)/(val a.fix.den+val a.fix.den))⟩ (by omega)
 rw[qxD a.fix ha0,hva]at nrm
 refine q0g (fn:=qfc) rfl (q0a ?_)
 refine gg rfl (q02 rfl rfl (q57 a (by omega)) ?_)
 refine gg rfl (q02 rfl rfl (qud a.fix.mag a.fix.mag (by omega) (by omega)) ?_)
 refine gg rfl (q02 rfl rfl a2 (gg rfl (q02 rfl rfl (qud a.fix.den a.fix.den (by omega) (by omega)) ?_)))
 exact gg rfl (q02 rfl rfl d1 (gg rfl (q02 rfl rfl nrm (gg rfl (q08 rfl rfl rfl trivial rfl)))))
end Go.F

namespace Go.F
attribute [local irreducible] IntKind.wrap wpM
structure RP where
 x:RR
 y:RR
structure QP where
 x:Rat
 y:Rat
 deriving DecidableEq
def RP.enc (p:RP):D:=.agg [.bool p.x.neg,nat p.x.mag,nat p.x.den,.bool p.y.neg,nat p.y.mag,nat p.y.den]
def RP.v (p:RP):QP:=⟨p.x.v,p.y.v⟩
def RP.of (q:QP):RP:=⟨RR.of q.x,RR.of q.y⟩
def qjF (q:QP):D:=(RP.of q).enc
theorem RP.of_v (q:QP):(RP.of q).v=q:=by
 unfold RP.of RP.v;simp only[RR.of_v]
class SzP (p:RP) (k:outParam Nat):Prop where
 x:SzR p.x k
 y:SzR p.y k
instance szPx {p:RP}{k:Nat} [h:SzP p k]:SzR p.x k:=h.x
instance szPy {p:RP}{k:Nat} [h:SzP p k]:SzR p.y k:=h.y
class QPB (q:QP) (k:outParam Nat):Prop where
 x:QB q.x k
 y:QB q.y k
instance qpX {q:QP}{k:Nat} [h:QPB q k]:QB q.x k:=h.x
instance qpY {q:QP}{k:Nat} [h:QPB q k]:QB q.y k:=h.y
instance szPOf {q:QP}{k:Nat} [h:QPB q k]:SzP (RP.of q) k:=⟨qFL (h:=h.x),qFL (h:=h.y)⟩
instance qpV {p:RP}{k:Nat} [h:SzP p k]:QPB p.v (k+1):=⟨qbV (h:=h.x),qbV (h:=h.y)⟩
def qcB (a b:QP):QP:=⟨a.x+b.x,a.y+b.y⟩
def q15 (a b:QP):QP:=⟨a.x-b.x,a.y-b.y⟩
def q3r (a:QP)(r:Rat):QP:=⟨a.x*r,a.y*r⟩
def q1C (a b:QP):Rat:=a.x*b.y-a.y*b.x
def onP (a b:QP)(t:Rat):QP:=qcB a (q3r (q15 b a) t)
instance qpAdd {a b:QP}{j k:Nat} [QPB a j] [QPB b k]:QPB (qcB a b) (j+k+1):=⟨qFM,qFM⟩
instance qpSub {a b:QP}{j k:Nat} [QPB a j] [QPB b k]:QPB (q15 a b) (j+k+1):=⟨qFO,qFO⟩
instance qpScale {a:QP}{r:Rat}{j k:Nat} [QPB a j] [QB r k]:QPB (q3r a r) (j+k):=⟨qFN,qFN⟩
instance qbCross {a b:QP}{j k:Nat} [QPB a j] [QPB b k]:QB (q1C a b) ((j+k)+(j+k)+1):=qFO
instance qpOn {a b:QP}{t:Rat}{i j k:Nat} [QPB a i] [QPB b j] [QB t k]:QPB (onP a b t) (i+((j+i+1)+k)+1):=qpAdd
theorem qit (n:Int):mkRat n (1:Int).toNat=(n:Rat):=Rat.mkRat_one n
theorem qxq (x y:Int)(hx1: -9223372036854775808≤x)(hx2:x≤9223372036854775807)(hy1: -9223372036854775808≤y)(hy2:y≤9223372036854775807):PU qz5 [.int .i64 x,.int .i64 y]=some (qjF ⟨x,y⟩):=by
 have r1:=qlZ x 1 hx1 hx2 (by decide) (by decide)
 have r2:=qlZ y 1 hy1 hy2 (by decide) (by decide)
 rw[qit]at r1 r2
 refine q0g (fn:=qo2) rfl (q0a ?_)
 exact gg rfl (q02 rfl rfl r1 (gg rfl (q02 rfl rfl r2 (gg rfl (q08 rfl rfl rfl trivial rfl)))))
theorem quz (a b:RP){j k:Nat} [ha:SzP a j] [hb:SzP b k](hj:j≤1000000)(hk:k≤1000000):PU qwt [a.enc,b.enc]=some (qjF (qcB a.v b.v)):=by
 refine q0g (fn:=qkM) rfl (q0a ?_)
 refine gg rfl (q02 rfl rfl (qbt a.x b.x (by omega) (by omega)) ?_)
 refine gg rfl (q02 rfl rfl (qbt a.y b.y (by omega) (by omega)) ?_)
 exact gg rfl (q08 rfl rfl rfl trivial rfl)
theorem q60 (a b:RP){j k:Nat} [ha:SzP a j] [hb:SzP b k](hj:j≤1000000)(hk:k≤1000000):PU qwk [a.enc,b.enc]=some (qjF (q15 a.v b.v)):=by
 refine q0g (fn:=qkl) rfl (q0a ?_)
 refine gg rfl (q02 rfl rfl (qbu a.x b.x (by omega) (by omega)) ?_)
 refine gg rfl (q02 rfl rfl (qbu a.y b.y (by omega) (by omega)) ?_)
 exact gg rfl (q08 rfl rfl rfl trivial rfl)
theorem qpJ (a:RP)(r:RR){j k:Nat} [ha:SzP a j] [hb:SzR r k](hj:j≤1000000)(hk:k≤1000000):PU qqT [a.enc,r.enc]=some (qjF (q3r a.v r.v)):=by
 refine q0g (fn:=qfx) rfl (q0a ?_)
 refine gg rfl (q02 rfl rfl (q7t a.x r (by omega) (by omega)) ?_)
 refine gg rfl (q02 rfl rfl (q7t a.y r (by omega) (by omega)) ?_)
 exact gg rfl (q08 rfl rfl rfl trivial rfl)
theorem qec (a b:RP){j k:Nat} [ha:SzP a j] [hb:SzP b k](hj:j≤100000)(hk:k≤100000):PU qqN [a.enc,b.enc]=some (q7s (q1C a.v b.v)):=by
 have s:=qbu (RR.of (a.x.v*b.y.v)) (RR.of (a.y.v*b.x.v)) (by omega) (by omega)
 rw[RR.of_v,RR.of_v]at s
 refine q0g (fn:=qf6) rfl (q0a ?_)
 refine gg rfl (q02 rfl rfl (q7t a.x b.y (by omega) (by omega)) ?_)
 refine gg rfl (q02 rfl rfl (q7t a.y b.x (by omega) (by omega)) ?_)
 exact gg rfl (q02 rfl rfl s (gg rfl (q08 rfl rfl rfl trivial rfl)))
theorem qxr (a b:RP)(t:RR){i j k:Nat} [ha:SzP a i] [hb:SzP b j] [ht:SzR t k](hi:i≤10000)(hj:j≤10000)(hk:k≤10000):PU qz4 [a.enc,b.enc,t.enc]=some (qjF (onP a.v b.v t.v)):=by
 have s:=qpJ (RP.of (q15 b.v a.v)) t (by omega) (by omega)
 rw[RP.of_v]at s
 have d:=quz a (RP.of (q3r (q15 b.v a.v) t.v)) (by omega) (by omega)
 rw[RP.of_v]at d
 refine q0g (fn:=qnQ) rfl (q0a ?_)
 refine gg rfl (q02 rfl rfl (q60 b a (by omega) (by omega)) ?_)
 exact gg rfl (q02 rfl rfl s (gg rfl (q02 rfl rfl d (gg rfl (q08 rfl rfl rfl trivial rfl)))))
def q3w (a b c d:QP):Option QP:=
 if q1C (q15 b a) (q15 d c)=0 then none else some (onP a b (q1C (q15 c a) (q15 d c)/q1C (q15 b a) (q15 d c)))
def qBg:Option QP→D
 |none=> .tup [RP.enc ⟨⟨false,[],[]⟩,⟨false,[],[]⟩⟩,.int .i64 10]
 |some p=> .tup [qjF p,.int .i64 0]
theorem qrh (a b c d:RP){k:Nat} [ha:SzP a k] [hb:SzP b k] [hc:SzP c k] [hd:SzP d k](hk:k≤100):PU qtH [a.enc,b.enc,c.enc,d.enc]=some (qBg (q3w a.v b.v c.v d.v)):=by
 have c1:=qec (RP.of (q15 c.v a.v)) (RP.of (q15 d.v c.v)) (by omega) (by omega)
 have c2:=qec (RP.of (q15 b.v a.v)) (RP.of (q15 d.v c.v)) (by omega) (by omega)
 rw[RP.of_v,RP.of_v]at c1 c2
 have dv:=quR (RR.of (q1C (q15 c.v a.v) (q15 d.v c.v))) (RR.of (q1C (q15 b.v a.v) (q15 d.v c.v))) (by omega) (by omega)
 rw[RR.of_v,RR.of_v]at dv
 refine q0g (fn:=qhf) rfl (q0a ?_)
 refine gg rfl (q02 rfl rfl (q60 d c (by omega) (by omega)) ?_)
 refine gg rfl (q02 rfl rfl (q60 c a (by omega) (by omega)) ?_)
 refine gg rfl (q02 rfl rfl c1 (gg rfl (q02 rfl rfl (q60 b a (by omega) (by omega)) ?_)))
 refine gg rfl (q02 rfl rfl c2 (gg rfl ?_))
 by_cases h0:q1C (q15 b.v a.v) (q15 d.v c.v)=0
 ·rw[if_pos h0]at dv
  refine q02 rfl rfl dv (gg rfl (q0d rfl (gg rfl (q08 rfl rfl rfl trivial ?_))))
  rw[q3w,if_pos h0];rfl
 rw[if_neg h0]at dv
 have o:=qxr a b (RR.of (q1C (q15 c.v a.v) (q15 d.v c.v)/q1C (q15 b.v a.v) (q15 d.v c.v))) (by omega) (by omega) (by omega)
 rw[RR.of_v]at o
 refine q02 rfl rfl dv (gg rfl (q0j rfl (gg rfl (q02 rfl rfl o (gg rfl (q08 rfl rfl rfl trivial ?_))))))
 rw[q3w,if_neg h0];rfl
def q8A (z:Int):Bool:=decide (-1048576≤z)&&decide (z≤1048576)
theorem qfX (r:RR){k:Nat} [h:SzR r k](hk:k≤100000):PU qgr [r.enc]=some (.tup [.int .i64 (if-9223372036854775808≤q1l r.v∧q1l r.v≤9223372036854775807 then q1l r.v else 0),.bool (q8A (q1l r.v))]):=by
 have s:=qEZ (RI.of (q1l r.v)) (by omega)
 rw[RI.of_v]at s
 refine q0g (fn:=q80) rfl (q0a ?_)
 refine gg rfl (q02 rfl rfl (qpP r (by omega)) ?_)
 refine gg rfl ?_
 by_cases h1: -9223372036854775808≤q1l r.v∧q1l r.v≤9223372036854775807
 ·rw[q9C,if_pos h1]at s
  rw[if_pos h1]
  refine q02 rfl rfl s ?_
  repeat' (first
   |refine goP 800 rfl rfl ?_
   |refine q0h rfl ?_|refine q0n rfl ?_|refine q09 rfl (fun _=>?_) (fun _=>?_)
   |refine q0d rfl ?_|refine q0j rfl ?_|refine q01 rfl (fun _=>?_) (fun _=>?_)
   |refine q0N rfl (fun _=>?_) (fun _=>?_)
   |refine q08 rfl rfl rfl trivial ?_)
  all_goals simp only[q1J,q27,decide_eq_true_eq,decide_eq_false_iff_not]at*
  all_goals simp only[q8A]
  all_goals simp_all
  all_goals omega
 rw[q9C,if_neg h1]at s
 rw[if_neg h1]
 refine q02 rfl rfl s ?_
 repeat' (first
  |refine goP 800 rfl rfl ?_
  |refine q0h rfl ?_|refine q0n rfl ?_|refine q09 rfl (fun _=>?_) (fun _=>?_)
  |refine q0d rfl ?_|refine q0j rfl ?_|refine q01 rfl (fun _=>?_) (fun _=>?_)
  |refine q0N rfl (fun _=>?_) (fun _=>?_)
  |refine q08 rfl rfl rfl trivial ?_)
 all_goals simp only[q8A]
 all_goals (simp;omega)
def q2y (p:QP):Spot×Int:=if q8A (q1l p.x)&&q8A (q1l p.y)then(⟨q1l p.x,q1l p.y⟩,0)else(⟨0,0⟩,3)
theorem q3d {z:Int}:q8A z=true↔ -1048576≤z∧z≤1048576:=by simp[q8A]
theorem qH7 (p:RP){k:Nat} [h:SzP p k](hk:k≤100000):PU qtI [p.enc]=some (.tup [(q2y p.v).1.enc,.int .i64 (q2y p.v).2]):=by
 have ex:p.v.x=p.x.v:=rfl
 have ey:p.v.y=p.y.v:=rfl
 refine q0g (fn:=qgY) rfl (q0a ?_)
 refine gg rfl (q02 rfl rfl (qfX p.x hk) (gg rfl (q02 rfl rfl (qfX p.y hk) (gg rfl (q09 rfl (fun g1=>?_) (fun g1=>?_))))))
 ·repeat' (first
   |refine goP 800 rfl rfl ?_
   |refine q0h rfl ?_|refine q0n rfl ?_|refine q09 rfl (fun _=>?_) (fun _=>?_)
   |refine q0d rfl ?_|refine q0j rfl ?_|refine q01 rfl (fun _=>?_) (fun _=>?_)
   |refine q0N rfl (fun _=>?_) (fun _=>?_)
   |refine q08 rfl rfl rfl trivial ?_)
  simp only[Bool.not_eq_true',Bool.not_eq_false']at g1
  rw[q2y,ex,ey,g1];rfl
 simp only[Bool.not_eq_true',Bool.not_eq_false']at g1
 repeat' (first
  |refine goP 800 rfl rfl ?_
  |refine q0h rfl ?_|refine q0n rfl ?_|refine q09 rfl (fun _=>?_) (fun _=>?_)
  |refine q0d rfl ?_|refine q0j rfl ?_|refine q01 rfl (fun _=>?_) (fun _=>?_)
  |refine q0N rfl (fun _=>?_) (fun _=>?_)
  |refine q08 rfl rfl rfl trivial ?_)
 ·rename_i g2
  simp only[Bool.not_eq_true',Bool.not_eq_false']at g2
  rw[q2y,ex,ey,g1,g2];rfl
 rename_i g2
 simp only[Bool.not_eq_true',Bool.not_eq_false']at g2
 have g1':=q3d.1 g1
 have g2':=q3d.1 g2
 rw[q2y,ex,ey,g1,g2,if_pos (by omega),if_pos (by omega)];rfl
end Go.F

namespace Go.F
attribute [local irreducible] IntKind.wrap wpM
set_option maxRecDepth 100000 in
theorem qBJ:(prog.funcs[qdS]?).map (fun fn=>fn.body.isNone&&fn.name== "math.sqrt")=some true:=by kernel_rfl
theorem qEb {x y:Nat}(h:FloatKind.f64.format.sqrt x=some y):PU qdS [.float .f64 x]=some (.float .f64 y):=by
 refine qyu (n:=1) ?_
 have h0:=qBJ
 cases hf:prog.funcs[qdS]? with
 |none=>rw[hf]at h0;simp at h0
 |some fn=>
  rw[hf]at h0
  simp only[Option.map_some,Option.some.injEq,Bool.and_eq_true]at h0
  obtain⟨h1,h2⟩:=h0
  have hb:fn.body=none:=by simpa using h1
  simp only[run,env,hf,hb,h2,if_true,qEB,h]
  rfl
theorem qGx {x y:Nat}(h:FloatKind.f64.format.sqrt x=some y):PU qwm [.float .f64 x]=some (.float .f64 y):=by
 refine q0g (fn:=qkC) rfl (q0a ?_)
 exact gg rfl (q02 rfl rfl (qEb h) (gg rfl (q08 rfl rfl rfl trivial rfl)))
section
variable {T:Tab}{sh:Shr}{nx0:Nat}{s:List Fr}{t:q0x}{h:q0e}{z:Frz}{nx:Nat}{q:Ex→q0x→q0e→Frz→Nat→Prop}
variable {base i:Nat}{res:List Nat}{dst:Nat}{g:Gd}{rest:List KOper}
theorem atCvF {k:IntKind}{x:X}{b:Nat}{n:Int}(hx:x.ev t=.float .f64 b)(hd:(FloatKind.f64.decode b).toInt .zero=some n)(hb:k.min≤n∧n≤k.max)
 (hk:wpM T sh nx0 (.ops base res rest::s) .normal (upd t dst (.int k n)) h z nx q):
 wpM T sh nx0 (.ops base res (⟨i,some dst,none,g,.conv (.int k) x⟩::rest)::s) .normal t h z nx q:=by
 refine q3t ?_
 simp only[kop,qdY,hx]
 exact qpR hd (q1t hb hk)
end
def qmc (n:Nat):Nat→Nat→Nat
 |0,r=>r
 |k+1,r=>if(r+2^k) *(r+2^k)≤n then qmc n k (r+2^k)else qmc n k r
def isq (n:Nat):Nat:=qmc n 27 0
theorem qrD (n:Nat):∀(k r:Nat),r*r≤n→n<(r+2^k) *(r+2^k)→qmc n k r*qmc n k r≤n∧n<(qmc n k r+1) *(qmc n k r+1):=by
 intro k
 induction k with
 |zero=>intro r h1 h2;simp only[qmc];exact⟨h1,by simpa using h2⟩
 |succ k ih=>
  intro r h1 h2
  rw[qmc]
  rw[Nat.pow_succ]at h2
  split
  ·rename_i h;exact ih _ h (by rw[show r+2^k+2^k=r+2^k*2 by omega];exact h2)
  rename_i h;exact ih _ h1 (by omega)
theorem qgH {n:Nat}(h:n<2^54):isq n*isq n≤n∧n<(isq n+1) *(isq n+1):=
 qrD n 27 0 (Nat.zero_le _) (by simp;omega)
theorem qgI {a b:Nat}(h:a*a<b*b):a<b:=by
 by_cases hc:b≤a
 ·exact absurd (Nat.mul_le_mul hc hc) (by omega)
 omega
theorem qnb {n r:Nat}(h:n<2^54)(h1:r*r≤n)(h2:n<(r+1) *(r+1)):r=isq n:=by
 obtain⟨g1,g2⟩:=qgH h
 have:=qgI (Nat.lt_of_le_of_lt h1 g2)
 have:=qgI (Nat.lt_of_le_of_lt g1 h2)
 omega
set_option maxHeartbeats 1000000 in
theorem qGy (n:Nat)(hn:n<2^50):PU qjl [.int .i64 n]=some (.int .i64 (isq n)):=by
 obtain⟨y,r0,h1,h2,h3,h4⟩:=qC2 n (by omega)
 refine q0g (fn:=qa0) rfl (q0a ?_)
 refine gg rfl (q02 rfl rfl (qGx h1) (gg rfl (atCvF rfl h2 ⟨by have:IntKind.i64.min= -9223372036854775808:=rfl;omega,by have:IntKind.i64.max=9223372036854775807:=rfl;omega⟩ ?_)))
 refine gg rfl ?_
 obtain⟨a,rfl⟩:∃a:Nat,r0=a:=⟨r0.toNat,by omega⟩
 refine q0l (S:=fun r:Nat=>([q00 n,q00 r],[none,none],[0,0])) (C:=fun r=>r≤268435456) (m:=fun r=>r) a (by omega) (by omega) ?_ ?_
 ·exact q03 rfl trivial (by simp[q00])
 intro r hr N hN
 have wr:IntKind.i64.wrap ((r:Int) *r)=((r*r:Nat):Int):=by
  have hb:r*r≤268435456*268435456:=Nat.mul_le_mul hr hr
  rw[←Int.natCast_mul];exact qcJ (by omega)
 refine gg rfl ?_
 rw[wr]
 refine q01 rfl (fun g1=>?_) (fun g1=>?_)
 ·rw[q06]at g1
  have hr0:r≠0:=by rintro rfl;simp at g1;omega
  have w1:IntKind.i64.wrap ((r:Int)-1)=((r-1:Nat):Int):=by rw[wrap64 (by omega) (by omega)];omega
  exact gg rfl (q04 (hN (r-1) (by omega) (by omega) (q03 rfl trivial (by simp[q00,w1]))))
 rw[q07]at g1
 have g1':r*r≤n:=by omega
 clear hN
 refine gg rfl (q04 (gg rfl (q0l (S:=fun r:Nat=>([q00 n,q00 r],[none,none],[0,0])) (C:=fun r=>r*r≤n) (m:=fun r=>n-r) r g1' (by omega) ?_ ?_)))
 ·exact q03 rfl trivial (by simp[q00])
 intro r hr N hN
 have hrl:r<33554432:=qgI (by omega)
 have w1:=wS (n:=r)
 have w2:IntKind.i64.wrap (((r+1:Nat):Int) *((r+1:Nat):Int))=(((r+1) *(r+1):Nat):Int):=by
  have hb:(r+1) *(r+1)≤33554432*33554432:=Nat.mul_le_mul hrl hrl
  rw[←Int.natCast_mul];exact qcJ (by omega)
 refine gg rfl ?_
 rw[w1,w2]
 refine q01 rfl (fun g2=>?_) (fun g2=>?_)
 ·rw[q0E]at g2
  have g2':(r+1) *(r+1)≤n:=by omega
  have hlt:r<n:=by
   have:(r+1) *1≤(r+1) *(r+1):=Nat.mul_le_mul_left _ (by omega)
   omega
  exact gg rfl (q04 (hN (r+1) g2' (by omega) (q03 rfl trivial (by simp[q00,w1]))))
 rw[q0F]at g2
 refine gg rfl (q04 (gg rfl (q08 rfl rfl rfl trivial ?_)))
 rw[qnb (n:=n) (r:=r) (by omega) hr (by omega)]
end Go.F

namespace Go.F
attribute [local irreducible] IntKind.wrap wpM
def q5N {α:Type}(d:α)(n:Nat)(f:Nat→α)(k:Nat):List α:=(List.range n).map fun i=>if i<k then f i else d
theorem qj3 {α:Type}(d:α)(n:Nat)(f:Nat→α):q5N d n f 0=List.replicate n d:=by
 unfold q5N
 apply List.ext_getElem<;>simp
theorem qeB {α:Type}(d:α)(n:Nat)(f:Nat→α):q5N d n f n=(List.range n).map f:=by
 unfold q5N
 refine List.map_congr_left fun i hi=>?_
 rw[if_pos (List.mem_range.1 hi)]
theorem qcG {α:Type}(d:α)(n:Nat)(f:Nat→α)(k:Nat):(q5N d n f k).length=n:=by simp[q5N]
theorem qnc {α:Type}(d:α){n:Nat}(f:Nat→α){k:Nat}(h:k<n):(q5N d n f k).set k (f k)=q5N d n f (k+1):=by
 unfold q5N
 apply List.ext_getElem
 ·simp
 intro i h1 h2
 simp only[List.length_set,List.length_map,List.length_range]at h1
 rw[List.getElem_set]
 by_cases hik:k=i
 ·subst hik;simp
 rw[if_neg hik]
 simp only[List.getElem_map,List.getElem_range]
 by_cases h3:i<k
 ·rw[if_pos h3,if_pos (by omega)]
 rw[if_neg h3,if_neg (by omega)]
section
variable {T:Tab}{sh:Shr}{nx0:Nat}{s:List Fr}{t:q0x}{h:q0e}{z:Frz}{nx:Nat}{q:Ex→q0x→q0e→Frz→Nat→Prop}
variable {base i:Nat}{res:List Nat}{g:Gd}{rest:List KOper}
theorem q4R {α:Type}{enc:α→D}{hint:Bool}{a v:X}{dst:Option Nat}{id k' n:Nat}(L:List α)(k:Nat)(w:α)(ha:a.ev t=.ptr id k' 0)(hv:v.ev t=enc w)(hkk:k'=k)
 (hn:(Nat.beq (enc w).cells.length n&&(enc w).sto)=true) (hs:∀x:α,qaQ (enc x) 0 (enc w).cells=some (enc w))
 (hr:g.h base h id=some (.row (L.map enc) n)) (hz:g.z base z id≤k) (hl:k<L.length)
 (hk:wpM T sh nx0 (.ops base res rest::s) .normal (put t dst (.tup [])) (upd h id (some (.row ((L.set k w).map enc) n))) z nx q):
 wpM T sh nx0 (.ops base res (⟨i,dst,none,g,.store hint n a v⟩::rest)::s) .normal t h z nx q:=by
 subst hkk
 refine qy5 (e:=enc L[k']) (e':=enc w) ha (by rw[hv];exact hn) hr hz (q1A hl) (by rw[hv];exact hs _) ?_
 rw[←List.map_set]
 exact hk
end
def sqd (a b:Spot):Nat:=((b.x-a.x) *(b.x-a.x)+(b.y-a.y) *(b.y-a.y)).toNat
def q2N (a b:Spot)(w:Int):Spot:=⟨q1u (w*(b.y-a.y)) (isq (sqd a b)),q1u (-w*(b.x-a.x)) (isq (sqd a b))⟩
def q3n (p:List Spot)(each:List Int)(sign:Int)(i:Nat):Spot:=q2N (pt p i) (pt p ((i+1)%p.length)) (sign*wd each i)
def q22 (p:List Spot)(each:List Int)(sign:Int):List Spot:=(List.range p.length).map (q3n p each sign)
def q2j (w:Int):Bool:=decide (w<0) ||decide (500<w)
def q1c (l:List Edge)(ws:List Int):List Spot×Int:=
 if q0J l=0 then
  if ws.length=l.length then
   if ws.any q2j then([],3)else(q22 (q0m l) (q1X l ws l.length) (sgn (q0Z (q0m l))),0)
  else([],1)
 else([],q0J l)
def qnd (r:List Spot×Int):D:=.tup [q0k r.1,.int .i64 r.2]
theorem q6f (a b:Spot):((sqd a b:Nat):Int)=(b.x-a.x) *(b.x-a.x)+(b.y-a.y) *(b.y-a.y):=by
 unfold sqd
 have h1:=q6q (b.x-a.x)
 have h2:=q6q (b.y-a.y)
 omega
theorem qyp (a b:Spot) [OkS a] [OkS b]:sqd a b<2^50:=by
 have e:=q6f a b
 have hb:Bd ((b.x-a.x) *(b.x-a.x)+(b.y-a.y) *(b.y-a.y)) _:=inferInstance
 have:=hb.le
 omega
theorem qEc {x:Int}(h:x≠0):0<x*x:=by
 rcases Int.lt_or_gt_of_ne h with h|h
 ·have:=Int.mul_pos (show 0< -x by omega) (show 0< -x by omega)
  rwa[Int.neg_mul_neg]at this
 exact Int.mul_pos h h
theorem qb0 {a b:Spot}(h:a≠b):0<sqd a b:=by
 have e:=q6f a b
 have h1:=q6q (b.x-a.x)
 have h2:=q6q (b.y-a.y)
 by_cases hx:b.x-a.x=0
 ·have hy:b.y-a.y≠0:=fun hy=>h (by cases a;cases b;simp at hx hy⊢;omega)
  have:=qEc hy
  omega
 have:=qEc hx
 omega
theorem qeC {n:Nat}(h:n<2^54)(h0:0<n):0<isq n:=by
 obtain⟨_,h2⟩:=qgH h
 by_cases hc:isq n=0
 ·rw[hc]at h2;omega
 omega
theorem qEd {n:Nat}(h:n<2^50):isq n<33554432:=by
 obtain⟨h1,_⟩:=qgH (n:=n) (by omega)
 exact qgI (by omega)
theorem qj4 {p:List Spot}(hs:q3D p)(h2:2≤p.length){i:Nat}(hi:i<p.length):pt p i≠pt p ((i+1)%p.length):=by
 intro he
 by_cases hl:i+1<p.length
 ·rw[Nat.mod_eq_of_lt hl]at he
  refine hs.1 (i+1) hl ?_
  rw[←he,q0D hi]
  exact List.mem_iff_getElem.2 ⟨i,by simp;omega,by simp⟩
 have:i+1=p.length:=by omega
 rw[this,Nat.mod_self]at he
 refine hs.1 i hi ?_
 rw[he,q0D (by omega)]
 exact List.mem_iff_getElem.2 ⟨0,by simp;omega,by simp⟩
theorem qvl (l:List Edge)(ws:List Int):∀k,k≤ws.length→∀x∈q1X l ws k,x∈ws:=by
 intro k
 induction k with
 |zero=>intro _ x hx;simp[q1X]at hx
 |succ k ih=>
  intro hk x hx
  rw[q1X,List.mem_append]at hx
  rcases hx with hx|hx
  ·exact ih (by omega) x hx
  rw[(List.mem_replicate.1 hx).2]
  have:wd ws k=ws[k]:=by simp[wd,show k<ws.length by omega]
  rw[this];exact List.getElem_mem _
theorem qgJ {w:Int}(h:q2j w=false):0≤w∧w≤500:=by simp[q2j]at h;omega
theorem q8O {a b:Int}{m:Nat}(hb:0<b)(h1: -(m:Int)≤a)(h2:a≤m): -(m:Int)≤q1u a b∧q1u a b≤m:=by
 have key:∀x:Int,0≤x→x≤m→0≤(2*x+b)/(2*b)∧(2*x+b)/(2*b)≤m:=by
  intro x h0 hx
  refine⟨Int.ediv_nonneg (by omega) (by omega),?_⟩
  by_cases hx0:x=0
  ·subst hx0;rw[Int.ediv_eq_zero_of_lt (by omega) (by omega)];omega
  have h4:2*x+b<(x+1) *(2*b):=by
   have:x*(2*b)≥x*2:=Int.mul_le_mul_of_nonneg_left (by omega) h0
   rw[Int.add_mul];omega
  have:=Int.ediv_lt_of_lt_mul (by omega) h4
  omega
 unfold q1u
 split
 ·have:=key (-a) (by omega) (by omega);omega
 have:=key a (by omega) (by omega);omega
set_option maxHeartbeats 4000000 in
theorem qj5 (l:List Edge)(ws:List Int):
 PU qgl [edges l,ints ws]=some (qnd (q1c l ws)):=by
 have hpoly:=q5q l
 refine q0g (fn:=q7U) rfl (q0a ?_)
 refine gg rfl ?_
 by_cases hc:¬q0J l=0
 ·rw[q8p,if_neg hc]at hpoly
  refine q02 rfl rfl hpoly (gg rfl (q01 rfl (fun g=>?_) (fun g=>?_)))
  ·refine gg rfl (q08 rfl rfl rfl trivial ?_)
   rw[q1c,if_neg hc];rfl
  rw[q0z]at g;exact absurd g hc
 have hc:q0J l=0:=Classical.byContradiction hc
 rw[q8p,if_pos hc]at hpoly
 rw[q1c,if_pos hc]
 obtain⟨h2,h16,_,_,hchk⟩:=q11 hc
 obtain⟨v3,v40,vok,vin,vs⟩:=q16 hchk
 have hl1:∀e∈l,1≤e.line.length∧e.line.length≤100000:=fun e he=>by have:=q2p hc e he;omega
 refine q02 rfl rfl hpoly (gg rfl (q01 rfl (fun g=>?_) (fun g=>?_)))
 ·rw[q0u]at g;exact absurd rfl g
 refine gg rfl ?_
 rw[List.length_map,List.length_map]
 refine q01 rfl (fun g=>?_) (fun g=>?_)
 ·rw[q0u]at g
  refine gg rfl (q08 rfl rfl rfl trivial ?_)
  rw[if_neg (by omega)];rfl
 rw[q0z]at g
 have hwl:ws.length=l.length:=by omega
 rw[if_pos hwl]
 refine gg rfl (q0l (S:=fun k:Nat=>([edges l,ints ws,q0k (q0m l),ints ws,q00 ws.length,q00 k],[none,none,none,none,none,none],[0,0,0,0,0,0])) (C:=fun k=>k≤ws.length∧∀i (hi:i<ws.length),i<k→q2j ws[i]=false) (m:=fun k=>ws.length-k) 0 ⟨Nat.zero_le _,fun i hi h=>by omega⟩ (by omega) ?_ ?_)
 ·exact q03 rfl trivial (by simp[edges,ints,q0k,q00])
 intro k ⟨hk,hall⟩ N hN
 refine gg rfl (q01 rfl (fun g1=>?_) (fun g1=>?_))
 ·rw[q06]at g1
  have hlt:k<ws.length:=by omega
  have w1:=wS (n:=k)
  have yes:q2j ws[k]=false→∀{t:q0x} {h:q0e} {z:Frz} {nx:Nat},(q12 0 [(0,0),(1,0),(6,0),(33,0),(34,0),(35,0)] t h z nx fun _ _ kp=>kp=([edges l,ints ws,q0k (q0m l),ints ws,q00 ws.length,q00 ((k+1:Nat):Int)],[none,none,none,none,none,none],[0,0,0,0,0,0]))→N t h z nx:=by
   intro hb t h z nx hst
   refine hN (k+1) ⟨by omega,fun i hi hik=>?_⟩ (by omega) hst
   by_cases hik':i<k
   ·exact hall i hi hik'
   obtain rfl:i=k:=by omega
   exact hb
  have no:q2j ws[k]=true→ws.any q2j=true:=fun hb=>List.any_eq_true.2 ⟨_,List.getElem_mem hlt,hb⟩
  clear hN
  refine gg rfl (q0i k rfl rfl rfl (q1A hlt) rfl (gg rfl (q09 rfl (fun e1=>?_) (fun e1=>?_))))
  ·rw[q06]at e1
   refine gg rfl (q0d rfl (gg rfl (q04 (gg rfl (q08 rfl rfl rfl trivial ?_)))))
   rw[if_pos (no (by simp[q2j,e1]))];rfl
  rw[q07]at e1
  refine gg rfl (q01 rfl (fun e2=>?_) (fun e2=>?_))
  ·rw[q06]at e2
   refine gg rfl (q04 (gg rfl (q08 rfl rfl rfl trivial ?_)))
   rw[if_pos (no (by simp[q2j,e2]))];rfl
  rw[q07]at e2
  exact gg rfl (q04 (yes (by simp[q2j];omega) (q03 rfl trivial (by simp[edges,ints,q0k,q00,w1]))))
 rw[q07]at g1
 clear hN
 have hgood:ws.any q2j=false:=by
  rw[List.any_eq_false]
  intro x hx
  obtain⟨i,hi,rfl⟩:=List.getElem_of_mem hx
  rw[hall i hi (by omega)];decide
 rw[if_neg (by rw[hgood];decide)]
 have hgood':∀x∈ws,0≤x∧x≤500:=fun x hx=>qgJ (by
  cases hb:q2j x with
  |false=>rfl
  |true=>rw[List.any_eq_true.2 ⟨x,hx,hb⟩]at hgood;cases hgood)
 have hseg:=qcF l ws l.length (Nat.le_refl _)
 rw[List.take_length]at hseg
 refine gg rfl (q04 (gg rfl (q02 rfl rfl (q4b (q0m l)) (gg rfl (q02 rfl rfl (q9T l ws (by omega) hl1 (by omega) (by omega)) ?_)))))
 refine gg rfl ?_
 have heb:∀i,0≤wd (q1X l ws l.length) i∧wd (q1X l ws l.length) i≤500:=by
  intro i
  by_cases hi:i<(q1X l ws l.length).length
  ·have:wd (q1X l ws l.length) i=(q1X l ws l.length)[i]:=by simp[wd,hi]
   rw[this];exact hgood' _ (qvl l ws l.length (by omega) _ (List.getElem_mem _))
  have:wd (q1X l ws l.length) i=0:=by simp[wd,List.getElem?_eq_none (Nat.le_of_not_lt hi)]
  rw[this];decide
 generalize hv:q0m l=v at*
 generalize q1X l ws l.length=each at*
 have hsb: -1≤sgn (q0Z v)∧sgn (q0Z v)≤1:=by have:=(qyQ (q0Z v)).le;omega
 generalize sgn (q0Z v)=sg at*
 rw[List.length_map]
 refine q44 v.length rfl rfl rfl (by simp[q0M];omega) ?_
 have ez:List.replicate v.length (D.agg [D.int IntKind.i64 0,D.int IntKind.i64 0])=(q5N ⟨0,0⟩ v.length (q3n v each sg) 0).map Spot.enc:=by
  rw[qj3];simp[Spot.enc]
 rw[ez]
 refine gg rfl (q0l (S:=fun k:Nat=>([q0k v,.int .i64 sg,ints each,.ref 3 0 v.length,q0k v,q00 v.length,q00 k],[none,none,none,some (.row ((q5N ⟨0,0⟩ v.length (q3n v each sg) k).map Spot.enc) 2),none,none,none],[0,0,0,0,0,0,0])) (C:=fun k=>k≤v.length) (m:=fun k=>v.length-k) 0 (Nat.zero_le _) (by omega) ?_ ?_)
 ·exact q03 rfl ⟨q05 q0r _,trivial⟩ (by simp[q0k,ints,q00])
 intro k hk N hN
 refine gg rfl (q01 rfl (fun g2=>?_) (fun g2=>?_))
 ·rw[q06]at g2
  have hlt:k<v.length:=by omega
  have w1:=wS (n:=k)
  have hne:=qj4 vs (by omega) hlt
  have heb:=heb k
  have hsq:=qyp (pt v k) (pt v ((k+1)%v.length))
  have hsp:=qb0 hne
  have hir:=qeC (n:=sqd (pt v k) (pt v ((k+1)%v.length))) (by omega) hsp
  have hil:=qEd hsq
  have hse:=q6f (pt v k) (pt v ((k+1)%v.length))
  have hset:=qnc ⟨0,0⟩ (q3n v each sg) hlt
  have hsh:q3n v each sg k=⟨q1u (sg*wd each k*((pt v ((k+1)%v.length)).y-(pt v k).y)) (isq (sqd (pt v k) (pt v ((k+1)%v.length)))),q1u (-(sg*wd each k) *((pt v ((k+1)%v.length)).x-(pt v k).x)) (isq (sqd (pt v k) (pt v ((k+1)%v.length))))⟩:=rfl
  have bx:Bd ((pt v ((k+1)%v.length)).x-(pt v k).x) 8388608:=inferInstance
  have by':Bd ((pt v ((k+1)%v.length)).y-(pt v k).y) 8388608:=inferInstance
  have c1:IntKind.i64.wrap ((pt v ((k+1)%v.length)).x-(pt v k).x)=(pt v ((k+1)%v.length)).x-(pt v k).x:=q0V (by decide)
  have c2:IntKind.i64.wrap ((pt v ((k+1)%v.length)).y-(pt v k).y)=(pt v ((k+1)%v.length)).y-(pt v k).y:=q0V (by decide)
  have bw:Bd (wd each k) 500:=⟨by omega⟩
  have bs:Bd sg 1:=⟨by omega⟩
  have c3:IntKind.i64.wrap (sg*wd each k)=sg*wd each k:=q0V (by decide)
  generalize hdx:(pt v ((k+1)%v.length)).x-(pt v k).x=dx at*
  generalize hdy:(pt v ((k+1)%v.length)).y-(pt v k).y=dy at*
  generalize hw':sg*wd each k=w at*
  have bw':Bd w 500:=by rw[←hw'];exact⟨Nat.le_trans (qvn (a:=bs) (b:=bw)).le (by decide)⟩
  have c4:IntKind.i64.wrap (dx*dx)=dx*dx:=q0V (by decide)
  have c5:IntKind.i64.wrap (dy*dy)=dy*dy:=q0V (by decide)
  have c6:IntKind.i64.wrap (dx*dx+dy*dy)=((sqd (pt v k) (pt v ((k+1)%v.length)):Nat):Int):=by rw[hse];exact q0V (by decide)
  have c7:IntKind.i64.wrap (w*dy)=w*dy:=q0V (by decide)
  have c8:IntKind.i64.wrap (0-w)= -w:=by rw[wrap64 (by have:=bw'.le;omega) (by have:=bw'.le;omega)];omega
  have c9:IntKind.i64.wrap (-w*dx)= -w*dx:=q0V (by decide)
  have b7:Bd (w*dy) _:=qvn
  have b9:Bd (-w*dx) _:=qvn
  have l7:=b7.le
  have l9:=b9.le
  refine gg rfl (q0i k rfl rfl rfl (q0Q hlt) rfl (gg rfl (q37 rfl rfl (by rw[List.length_map];omega) ?_)))
  refine gg rfl (q0i ((k+1)%v.length) rfl rfl (by rw[w1,List.length_map,q1s]) (q0Q (Nat.mod_lt _ (by omega))) rfl ?_)
  refine gg rfl (q0i k rfl rfl rfl (qna (by omega)) rfl ?_)
  refine gg rfl ?_
  rw[hdx,hdy,c1,c2,hw',c3,c4,c5,c6]
  refine q02 rfl rfl (qGy _ hsq) (gg rfl ?_)
  rw[c7]
  refine q02 rfl rfl (qn9 (w*dy) _ (by omega) (by omega) (by omega) (by omega)) ?_
  refine gg rfl ?_
  rw[c8,c9]
  refine q02 rfl rfl (qn9 (-w*dx) _ (by omega) (by omega) (by omega) (by omega)) ?_
  refine gg rfl (q0H k rfl rfl rfl rfl rfl hlt (gg rfl (q4R (enc:=Spot.enc) (q5N ⟨0,0⟩ v.length (q3n v each sg) k) k (q3n v each sg k) rfl (by rw[hsh];rfl) (Nat.zero_add _) rfl (fun _=>rfl) rfl (Nat.zero_le _) (by rw[qcG];exact hlt) ?_)))
  rw[hset]
  exact gg rfl (q04 (hN (k+1) hlt (by omega) (q03 rfl ⟨q05 q0r _,trivial⟩ (by simp[q0k,ints,q00,w1]))))
 rw[q07]at g2
 obtain rfl:k=v.length:=by omega
 refine gg rfl (q04 (gg rfl (q08 rfl rfl rfl ⟨q2s (by simp[qcG]) (q0W q2r _),trivial⟩ ?_)))
 rw[q2t (by simp[qcG]),qeB];rfl
end Go.F

namespace Go.F
attribute [local irreducible] IntKind.wrap wpM
section
variable {T:Tab}{sh:Shr}{nx0:Nat}{s:List Fr}{t:q0x}{h:q0e}{z:Frz}{nx:Nat}{q:Ex→q0x→q0e→Frz→Nat→Prop}
variable {base i:Nat}{res:List Nat}{g:Gd}{rest:List KOper}
theorem qw6 {f:X}{args:List X}{fid:FuncId}{dst:Option Nat}{a e:List D}(hf:f.ev t=.fn fid a e)(hs:T.shared fid=false)
 (hk:wpM T sh nx0 (.ops base res (⟨i,dst,none,g,.callF fid (a.map .c++args++e.map .c)⟩::rest)::s) .normal t h z nx q):
 wpM T sh nx0 (.ops base res (⟨i,dst,none,g,.callV f args⟩::rest)::s) .normal t h z nx q:=by
 have e1:∀l:List D,(l.map X.c).map (·.ev t)=l:=by
  intro l;induction l with
  |nil=>rfl
  |cons x l ih=>simp only[List.map_cons,ih];rfl
 simp only[wpM,wpo,kop,hf,hs,List.map_append,e1]at hk⊢
 exact hk
end
def inB (n m:Int):Bool:=decide (-m≤n)&&decide (n≤m)
theorem qeI {n m:Int}:inB n m=true↔ -m≤n∧n≤m:=by simp[inB]
theorem q78 (n m:Int)(h0:0≤m)(h1:m≤1000000):PU qoM [.int .i64 n,.int .i64 m]=some (.bool (inB n m)):=by
 have w:IntKind.i64.wrap (0-m)= -m:=by rw[wrap64 (by omega) (by omega)];omega
 refine q0g (fn:=qdz) rfl (q0a ?_)
 refine gg rfl ?_
 rw[w]
 repeat' (first
  |refine goP 800 rfl rfl ?_
  |refine q0h rfl ?_|refine q0n rfl ?_|refine q09 rfl (fun _=>?_) (fun _=>?_)
  |refine q0d rfl ?_|refine q0j rfl ?_|refine q01 rfl (fun _=>?_) (fun _=>?_)
  |refine q0N rfl (fun _=>?_) (fun _=>?_)
  |refine q08 rfl rfl rfl trivial ?_)
 all_goals simp only[w]at*
 all_goals ((try simp only[q1J,q27,q2e,q40,decide_eq_true_eq,decide_eq_false_iff_not,Bool.not_eq_true,Bool.not_eq_false,Int.not_lt,Int.not_le]at*);first|(simp_all[inB];done) |(simp_all[inB];omega) |(rw[D.bool.injEq,Bool.eq_iff_iff];simp[inB];omega) |(rw[D.bool.injEq,Bool.eq_iff_iff];simp_all[inB];omega) |(simp[inB];split<;>(try split)<;>omega))
theorem q9k (a b:Int)(h0:0≤a)(ha:a≤1099511627776)(hb:0<b)(hb':b≤1099511627776):PU qch [.int .i64 a,.int .i64 b]=some (.int .i64 (q1u a b)):=by
 refine q0g (fn:=q74) rfl (q0a ?_)
 refine gg rfl ?_
 have w1:=ww (x:=2*a)
 have w2:=ww (x:=2*a+b)
 have w3:=ww (x:=2*b)
 refine q01 rfl (fun h=>?_) (fun h=>?_)
 ·rw[q06]at h;omega
 refine gg rfl (qem rfl rfl (by rw[w3];omega) ?_)
 refine gg rfl (q08 rfl rfl rfl trivial ?_)
 have hd:(2*a+b).tdiv (2*b)=(2*a+b)/(2*b):=Int.tdiv_eq_ediv_of_nonneg (by omega)
 have hq:(2*a+b)/(2*b)≤2*a+b:=Int.ediv_le_self _ (by omega)
 have hq0:0≤(2*a+b)/(2*b):=Int.ediv_nonneg (by omega) (by omega)
 rw[w1,w2,w3,hd,wrap64 (by omega) (by omega),q1u,if_neg (by omega)]
theorem qaz (a b:Int)(ha0: -1099511627776≤a)(ha:a≤1099511627776)(hb:0<b)(hb':b≤1099511627776):PU qch [.int .i64 a,.int .i64 b]=some (.int .i64 (q1u a b)):=by
 by_cases h0:0≤a
 ·exact q9k a b h0 ha hb hb'
 refine q0g (fn:=q74) rfl (q0a ?_)
 refine gg rfl (q01 rfl (fun h=>?_) (fun h=>?_))
 ·refine gg rfl ?_
  have w1:IntKind.i64.wrap (0-a)= -a:=by rw[wrap64 (by omega) (by omega)];omega
  rw[w1]
  refine q02 rfl rfl (q9k (-a) b (by omega) (by omega) hb hb') ?_
  refine gg rfl (q08 rfl rfl rfl trivial ?_)
  have hq:(2*(-a)+b)/(2*b)≤2*(-a)+b:=Int.ediv_le_self _ (by omega)
  have hq0:0≤(2*(-a)+b)/(2*b):=Int.ediv_nonneg (by omega) (by omega)
  rw[q1u,if_neg (by omega),q1u,if_pos (by omega),wrap64 (by omega) (by omega)]
  simp
 rw[q07]at h;omega
def q7j (c:List Spot)(m:Int)(i:Nat):Spot:=⟨m*(pt c (i%c.length)).x,m*(pt c (i%c.length)).y⟩
def qi4 (s:Spot)(n:Nat):Prop:=s.x.natAbs≤n∧s.y.natAbs≤n
theorem qw7 {m x:Int}(hm:m.natAbs≤100)(hx:x.natAbs≤1000):(m*x).natAbs≤100000:=by
 rw[Int.natAbs_mul]
 exact Nat.le_trans (Nat.mul_le_mul hm hx) (by decide)
theorem q8q {c:List Spot}(hc:∀s∈c,qi4 s 1000){m:Int}(hm:m.natAbs≤100)(h0:0<c.length)(i:Nat):qi4 (q7j c m i) 100000:=by
 have h:=hc (pt c (i%c.length)) (by rw[q0D (Nat.mod_lt _ h0)];exact List.getElem_mem _)
 exact⟨qw7 hm h.1,qw7 hm h.2⟩
theorem qce (c:List Spot)(m:Int)(i:Nat)(hc:∀s∈c,qi4 s 1000)(hm:m.natAbs≤100)(h0:0<c.length)(hi:i≤1000000)(hl:c.length≤1000000):
 PU q51 [.agg [q0k c,.int .i64 m],.int .i64 i]=some (q7j c m i).enc:=by
 have hml:i%c.length<c.length:=Nat.mod_lt _ h0
 have hn:=q8q hc hm h0 i
 have e1:(q7j c m i).x=m*(pt c (i%c.length)).x:=rfl
 have e2:(q7j c m i).y=m*(pt c (i%c.length)).y:=rfl
 have w1:IntKind.i64.wrap (m*(pt c (i%c.length)).x)=m*(pt c (i%c.length)).x:=wrap64 (by have:=hn.1;rw[e1]at this;omega) (by have:=hn.1;rw[e1]at this;omega)
 have w2:IntKind.i64.wrap (m*(pt c (i%c.length)).y)=m*(pt c (i%c.length)).y:=wrap64 (by have:=hn.2;rw[e2]at this;omega) (by have:=hn.2;rw[e2]at this;omega)
 refine q0g (fn:=q4W) rfl (q0a ?_)
 refine gg rfl ?_
 rw[List.length_map]
 refine q37 rfl rfl (by omega) ?_
 refine gg rfl (q0i (i%c.length) rfl rfl q1s (q0Q hml) rfl (gg rfl ?_))
 rw[w1,w2]
 exact q08 rfl rfl rfl trivial rfl
def qJc (n k:Nat)(v a b:Int):Int:=v+q1u (((n:Int)-1-k) *a+k*b) ((n:Int)-1)
def qeX (l:List Spot)(a b:Spot)(k:Nat):Spot:=⟨qJc l.length k (pt l k).x a.x b.x,qJc l.length k (pt l k).y a.y b.y⟩
def qtB (l:List Spot)(a b:Spot):List Spot:=(List.range l.length).map (qeX l a b)
theorem qmU {n k:Nat}(hk:k<n)(hn:n≤40){a b:Int}(ha:a.natAbs≤100000)(hb:b.natAbs≤100000):(((n:Int)-1-k) *a).natAbs≤4000000∧((k:Int) *b).natAbs≤4000000:=by
 constructor
 ·rw[Int.natAbs_mul]
  exact Nat.le_trans (Nat.mul_le_mul (show _≤40 by omega) ha) (by decide)
 rw[Int.natAbs_mul]
 exact Nat.le_trans (Nat.mul_le_mul (show _≤40 by omega) hb) (by decide)
set_option maxHeartbeats 2000000 in
theorem qEJ (l:List Spot)(a b:Spot)(h2:2≤l.length)(h40:l.length≤40)(hw:∀s∈l,q0v s 1048576=true)(ha:qi4 a 100000)(hb:qi4 b 100000):
 PU qqI [q0k l,a.enc,b.enc]=some (q0k (qtB l a b)):=by
 have w0:=ww (x:=(l.length:Int)-1)
 refine q0g (fn:=qfn) rfl (q0a ?_)
 refine gg rfl ?_
 rw[List.length_map,w0]
 refine q44 l.length rfl rfl rfl (by simp[q0M];omega) ?_
 have ez:List.replicate l.length (D.agg [.int .i64 0,.int .i64 0])=(q5N ⟨0,0⟩ l.length (qeX l a b) 0).map Spot.enc:=by
  rw[qj3];simp[Spot.enc]
 rw[ez]
 refine gg rfl ?_
 rw[List.length_map]
 refine q0l (S:=fun k:Nat=>([.ptr 0 0 0,.ptr 1 0 0,.int .i64 ((l.length:Int)-1),.ref 3 0 l.length,q0k l,q00 l.length,q00 k],[some (.row [a.enc] 2),some (.row [b.enc] 2),none,some (.row ((q5N ⟨0,0⟩ l.length (qeX l a b) k).map Spot.enc) 2),none,none,none],[0,0,0,0,0,0,0])) (C:=fun k=>k≤l.length) (m:=fun k=>l.length-k) 0 (Nat.zero_le _) (by omega) ?_ ?_
 ·exact q03 rfl ⟨rfl,rfl,q05 q0r _,trivial⟩ (by simp[q0k,q00,Spot.enc])
 intro k hk N hN
 refine gg rfl (q01 rfl (fun e1=>?_) (fun e1=>?_))
 ·rw[q06]at e1
  have hlt:k<l.length:=by omega
  have w1:=wS (n:=k)
  have hin:=hw (pt l k) (by rw[q0D hlt];exact List.getElem_mem _)
  rw[q1B]at hin
  have c1:=qmU hlt h40 ha.1 hb.1
  have c2:=qmU hlt h40 ha.2 hb.2
  have d0:IntKind.i64.wrap ((l.length:Int)-1-(k:Int))=(l.length:Int)-1-k:=ww
  have d1:=ww (x:=((l.length:Int)-1-k) *a.x)
  have d2:=ww (x:=(k:Int) *b.x)
  have d3:=ww (x:=((l.length:Int)-1-k) *a.x+(k:Int) *b.x)
  have d4:=ww (x:=((l.length:Int)-1-k) *a.y)
  have d5:=ww (x:=(k:Int) *b.y)
  have d6:=ww (x:=((l.length:Int)-1-k) *a.y+(k:Int) *b.y)
  have q1:=qaz (((l.length:Int)-1-k) *a.x+(k:Int) *b.x) ((l.length:Int)-1) (by omega) (by omega) (by omega) (by omega)
  have q2:=qaz (((l.length:Int)-1-k) *a.y+(k:Int) *b.y) ((l.length:Int)-1) (by omega) (by omega) (by omega) (by omega)
  have r1:=q8O (a:=((l.length:Int)-1-k) *a.x+(k:Int) *b.x) (b:=(l.length:Int)-1) (m:=8000000) (by omega) (by omega) (by omega)
  have r2:=q8O (a:=((l.length:Int)-1-k) *a.y+(k:Int) *b.y) (b:=(l.length:Int)-1) (m:=8000000) (by omega) (by omega) (by omega)
  have d7:=ww (x:=(pt l k).x+q1u (((l.length:Int)-1-k) *a.x+(k:Int) *b.x) ((l.length:Int)-1))
  have d8:=ww (x:=(pt l k).y+q1u (((l.length:Int)-1-k) *a.y+(k:Int) *b.y) ((l.length:Int)-1))
  have hset:=qnc ⟨0,0⟩ (qeX l a b) hlt
  refine gg rfl (q0i k rfl rfl rfl (q0Q hlt) rfl (gg rfl ?_))
  rw[d0,d1,d2,d3]
  refine q02 rfl rfl q1 (gg rfl ?_)
  rw[d7,d0,d4,d5,d6]
  refine q02 rfl rfl q2 (gg rfl ?_)
  rw[d8]
  refine q0H k rfl rfl rfl rfl rfl (by omega) ?_
  refine gg rfl (q4R (enc:=Spot.enc) (q5N ⟨0,0⟩ l.length (qeX l a b) k) k (qeX l a b k) rfl rfl (Nat.zero_add _) rfl (fun _=>rfl) rfl (Nat.zero_le _) (by rw[qcG];omega) ?_)
  rw[hset]
  exact gg rfl (q04 (hN (k+1) hlt (by omega) (q03 rfl ⟨rfl,rfl,q05 q0r _,trivial⟩ (by simp[q0k,q00,w1,Spot.enc]))))
 rw[q07]at e1
 obtain rfl:k=l.length:=by omega
 rw[qeB]
 refine gg rfl (q04 (gg rfl (q08 rfl rfl rfl ⟨q2s (by simp) (q0W q2r _),trivial⟩ ?_)))
 rw[q2t (by simp)];rfl
def q79 (p:Piece)(m:Int)(i:Nat):Edge:=⟨(eg p.edges i).name,qtB (eg p.edges i).line (q7j p.corners m i) (q7j p.corners m (i+1))⟩
def q3E (p:Piece)(m:Int):List Edge:=(List.range p.edges.length).map (q79 p m)
def q0p (p:Piece)(m:Int):List Edge×Int:=
 if inB m 100=false then([],3)
 else if p.corners.length≠p.edges.length then([],1)
 else if(p.corners.any fun s=>!(inB s.x 1000&&inB s.y 1000))then([],3)
 else if q0J p.edges≠0 then([],q0J p.edges)
 else if q0J (q3E p m)≠0 then([],q0J (q3E p m))
 else(q3E p m,0)
theorem q29 {α:Type}{f:α→Bool}{l:List α}{k:Nat}(hk:k<l.length)(h:f l[k]=true):l.any f=true:=by
 rw[List.any_eq_true];exact⟨_,List.getElem_mem _,h⟩
theorem q1Z {α:Type}{f:α→Bool}{l:List α}(h:∀k (hk:k<l.length),f l[k]=false):l.any f=false:=by
 rw[List.any_eq_false]
 intro x hx
 obtain⟨k,hk,rfl⟩:=List.getElem_of_mem hx
 rw[h k hk];decide
def encGr (r:List Edge×Int):D:=.tup [edges r.1,.int .i64 r.2]
set_option maxHeartbeats 4000000 in
theorem q5F (p:Piece)(m:Int)(hc:p.corners.length≤1000000):PU qoG [p.enc,.int .i64 m]=some (encGr (q0p p m)):=by
 refine q0g (fn:=qcR) rfl (q0a ?_)
 refine gg rfl (q02 rfl rfl (q78 m 100 (by decide) (by decide)) ?_)
 cases hm:inB m 100 with
 |false=>
  refine gg rfl (q0d rfl (gg rfl (q08 rfl rfl rfl trivial ?_)))
  rw[q0p,if_pos hm];rfl
 |true=>
  have hm1:¬inB m 100=false:=by rw[hm];decide
  rw[qeI]at hm
  refine gg rfl (q0j rfl (gg rfl ?_))
  rw[List.length_map,List.length_map]
  refine q01 rfl (fun g1=>?_) (fun g1=>?_)
  ·rw[q0u]at g1
   refine gg rfl (q08 rfl rfl rfl trivial ?_)
   rw[q0p,if_neg hm1,if_pos (by omega)];rfl
  rw[q0z]at g1
  have g1':p.corners.length=p.edges.length:=by omega
  refine gg rfl ?_
  rw[List.length_map]
  refine q0l (S:=fun k:Nat=>([.int .i64 m,.ptr 1 0 0,q0k p.corners,q00 p.corners.length,q00 k],[none,some (.row [p.enc] 7),none,none,none],[0,0,0,0,0])) (C:=fun k=>k≤p.corners.length∧∀j (hj:j<p.corners.length),j<k→(inB p.corners[j].x 1000&&inB p.corners[j].y 1000)=true) (m:=fun k=>p.corners.length-k) 0 ⟨Nat.zero_le _,fun j _ hj=>by omega⟩ (by omega) ?_ ?_
  ·exact q03 rfl ⟨rfl,trivial⟩ (by simp[q0k,q00,Piece.enc,edges,qgD,ints])
  rintro k ⟨hk,hin⟩ N hN
  refine gg rfl (q01 rfl (fun e1=>?_) (fun e1=>?_))
  ·rw[q06]at e1
   have hlt:k<p.corners.length:=by omega
   have w1:=wS (n:=k)
   have hx:=q78 (pt p.corners k).x 1000 (by decide) (by decide)
   have hy:=q78 (pt p.corners k).y 1000 (by decide) (by decide)
   have bad:(inB (pt p.corners k).x 1000&&inB (pt p.corners k).y 1000)=false→q0p p m=([],3):=by
    intro h
    rw[q0p,if_neg hm1,if_neg (by omega),if_pos]
    refine q29 hlt ?_
    rw[←q0D hlt,h];rfl
   refine gg rfl (q0i k rfl rfl rfl (q0Q hlt) rfl (gg rfl (q02 rfl rfl hx ?_)))
   cases bx:inB (pt p.corners k).x 1000 with
   |false=>
    refine gg rfl (q0h rfl (gg rfl (q0d rfl (gg rfl (q04 (gg rfl (q08 rfl rfl rfl trivial ?_)))))))
    rw[bad (by rw[bx];rfl)];rfl
   |true=>
    refine gg rfl (q0n rfl (gg rfl (q02 rfl rfl hy ?_)))
    cases by':inB (pt p.corners k).y 1000 with
    |false=>
     refine gg rfl (q0d rfl (gg rfl (q04 (gg rfl (q08 rfl rfl rfl trivial ?_)))))
     rw[bad (by rw[bx,by'];rfl)];rfl
    |true=>
     refine gg rfl (q0j rfl (gg rfl (q04 (hN (k+1) ⟨hlt,fun j hj hjk=>?_⟩ (by omega) (q03 rfl ⟨rfl,trivial⟩ (by simp[q0k,q00,Piece.enc,edges,qgD,ints,w1]))))))
     by_cases e:j=k
     ·subst e;rw[←q0D hj,bx,by'];rfl
     exact hin j hj (by omega)
  rw[q07]at e1
  obtain rfl:k=p.corners.length:=by omega
  clear hN
  have hany:¬(p.corners.any fun s=>!(inB s.x 1000&&inB s.y 1000))=true:=by
   rw[q1Z fun k hk=>by rw[hin k hk hk];rfl];decide
  have hnear:∀s∈p.corners,qi4 s 1000:=by
   intro s hs
   obtain⟨j,hj,rfl⟩:=List.getElem_of_mem hs
   have:=hin j hj hj
   rw[Bool.and_eq_true,qeI,qeI]at this
   exact⟨by omega,by omega⟩
  refine gg rfl (q04 (gg rfl (q02 rfl rfl (q6k p.edges) (gg rfl (q01 rfl (fun g2=>?_) (fun g2=>?_))))))
  ·rw[q0u]at g2
   refine gg rfl (q08 rfl rfl rfl trivial ?_)
   rw[q0p,if_neg hm1,if_neg (by omega),if_neg hany,if_pos g2];rfl
  have g2:q0J p.edges=0:=q0z.1 g2
  obtain⟨c1,c2,c3,c4,c5⟩:=q11 g2
  have hr:q0p p m=if q0J (q3E p m)≠0 then([],q0J (q3E p m))else(q3E p m,0):=by
   rw[q0p,if_neg hm1,if_neg (by omega),if_neg hany,if_neg (by omega)]
  rw[hr]
  have hm2:m.natAbs≤100:=by omega
  refine gg rfl ?_
  rw[List.length_map]
  refine q0l (S:=fun k:Nat=>([.fn q51 [.agg [q0k p.corners,.int .i64 m]] [],.ref 1 0 k,edges p.edges,q00 p.edges.length,q00 k],[none,some (.row (((List.range k).map (q79 p m)).map Edge.enc) 2),none,none,none],[0,0,0,0,0])) (C:=fun k=>k≤p.edges.length) (m:=fun k=>p.edges.length-k) 0 (Nat.zero_le _) (by omega) ?_ ?_
  ·exact q03 rfl ⟨rfl,trivial⟩ rfl
  intro k hk N hN
  refine gg rfl (q01 rfl (fun e2=>?_) (fun e2=>?_))
  ·rw[q06]at e2
   have hlt:k<p.edges.length:=by omega
   have w1:=wS (n:=k)
   have hL:=q2P (q1a c3 hlt)
   obtain⟨n2,n40,hw⟩:=q2k hL
   have ca:=qce p.corners m k hnear hm2 (by omega) (by omega) (by omega)
   have cb:=qce p.corners m (k+1) hnear hm2 (by omega) (by omega) (by omega)
   have mv:=qEJ (eg p.edges k).line (q7j p.corners m k) (q7j p.corners m (k+1)) n2 n40 hw (q8q hnear hm2 (by omega) _) (q8q hnear hm2 (by omega) _)
   have hst:(((List.range (k+1)).map (q79 p m)).map Edge.enc)=((List.range k).map (q79 p m)).map Edge.enc++[(q79 p m k).enc]:=by
    rw[List.range_succ,List.map_append,List.map_append];rfl
   refine gg rfl (q0i k rfl rfl rfl (q1K hlt) rfl (gg rfl (qw6 rfl rfl (q02 rfl rfl ca (gg rfl ?_)))))
   rw[w1]
   refine qw6 rfl rfl (q02 rfl rfl cb (gg rfl (q02 rfl rfl mv (gg rfl (q1b rfl rfl rfl rfl rfl rfl (by simp) (Nat.zero_le _) (by simp[q0M];omega) ?_)))))
   refine gg rfl (q04 (hN (k+1) hlt (by omega) (q03 rfl ⟨?_,trivial⟩ ?_)))
   ·rw[List.all_append,q05 q39];rfl
   rw[hst];simp[q0k,edges,q00,w1];rfl
  rw[q07]at e2
  obtain rfl:k=p.edges.length:=by omega
  have hgl:(q3E p m).length=p.edges.length:=by simp[q3E]
  refine gg rfl (q04 (gg rfl (q6N rfl rfl ⟨q2s (by simp) (q0W q5O _),trivial⟩ (by rw[q2t (by simp)];exact q6k (q3E p m)) rfl ?_)))
  refine gg rfl (q01 rfl (fun g3=>?_) (fun g3=>?_))
  ·rw[q0u]at g3
   refine gg rfl (q08 rfl rfl rfl trivial ?_)
   rw[if_pos g3];rfl
  rw[q0z]at g3
  refine gg rfl (q08 rfl rfl rfl ⟨q2s (by simp) (q0W q5O _),trivial⟩ ?_)
  rw[q2t (by simp),if_neg (by simp[g3])];rfl
end Go.F

namespace Go.F
section
variable {T:Tab}{sh:Shr}{nx0:Nat}{s:List Fr}{t:q0x}{h:q0e}{z:Frz}{nx:Nat}{q:Ex→q0x→q0e→Frz→Nat→Prop}
abbrev Rep:=Option (List D×List Nat)
inductive Obl where
 |p (es:List D)
 |s (h:q0e) (es l:List D) (rs:List Nat)
def Obl.ok:Obl→Prop
 |.p es=>es.all (plain 4)=true
 |.s h es l rs=>es.all (plain 4)=false∧es.mapM (q18 h 8)=some l∧es.flatMap (q0P h depth)=rs∧l.all (plain 4)=true
def qjU:List Obl→Prop
 |[]=>True
 |o::r=>o.ok∧qjU r
def qeo (t:q0x):Live→List Rep→q0e→Frz→Option (List Obl×q0e×Frz)
 |[],_,h,z=>some ([],h,z)
 |x::rest,reps,h,z=>
  match q28 (t x.1)with
  |none=>
   match plain 4 (t x.1)with
   |true=>qeo t rest reps h z
   |false=>none
  |some id=>
   match h id with
   |some (.row es esz)=>
    match reps with
    |[]=>none
    |none::reps=>
     match qeo t rest reps h z with
     |some (o,h',z')=>some (.p es::o,h',z')
     |none=>none
    |some (l,rs)::reps=>
     match qeo t rest reps (upd h id (some (.row l esz))) (q8k h z rs)with
     |some (o,h',z')=>some (.s h es l rs::o,h',z')
     |none=>none
   |some (.mp _ _)=>none
   |none=>qeo t rest reps h z
theorem qGa {t:q0x}:∀{live:Live} {reps:List Rep} {h:q0e} {z:Frz} {o:List Obl} {h':q0e} {z':Frz} {k:q0e→Frz→Prop},qeo t live reps h z=some (o,h',z')→qjU o→k h' z'→q34 live t h z k:=by
 intro live
 induction live with
 |nil=>intro reps h z o h' z' k hr _ hk;simp only[qeo,Option.some.injEq,Prod.mk.injEq]at hr;obtain⟨_,rfl,rfl⟩:=hr;exact hk
 |cons x live ih=>
  intro reps h z o h' z' k hr ho hk
  simp only[qeo]at hr
  simp only[q34]
  cases hid:q28 (t x.1)with
  |none=>
   rw[hid]at hr
   simp only at hr⊢
   cases hb:plain 4 (t x.1)with
   |true=>rw[hb]at hr;exact ih hr ho hk
   |false=>rw[hb]at hr;cases hr
  |some id=>
   rw[hid]at hr
   simp only at hr⊢
   cases hb:h id with
   |none=>rw[hb]at hr;exact ih hr ho hk
   |some b=>
    rw[hb]at hr
    cases b with
    |mp ks vs=>cases hr
    |row es esz=>
     simp only at hr⊢
     match reps,hr with
     |none::reps,hr=>
      simp only at hr
      cases hx:qeo t live reps h z with
      |none=>rw[hx]at hr;cases hr
      |some y=>
       obtain⟨o1,h1,z1⟩:=y
       rw[hx]at hr
       simp only[Option.some.injEq,Prod.mk.injEq]at hr
       obtain⟨rfl,rfl,rfl⟩:=hr
       unfold qbh
       exact .inl ⟨ho.1,ih hx ho.2 hk⟩
     |some (l,rs)::reps,hr=>
      simp only at hr
      cases hx:qeo t live reps (upd h id (some (.row l esz))) (q8k h z rs)with
      |none=>rw[hx]at hr;cases hr
      |some y=>
       obtain⟨o1,h1,z1⟩:=y
       rw[hx]at hr
       simp only[Option.some.injEq,Prod.mk.injEq]at hr
       obtain⟨rfl,rfl,rfl⟩:=hr
       obtain⟨g1,g2,g3,g4⟩:=ho.1
       unfold qbh
       exact .inr ⟨l,rs,g1,g2,g3,g4,ih hx ho.2 hk⟩
def setX (live:Live)(reps:List Rep)(t:q0x)(h:q0e)(z:Frz)(nx:Nat):Option (List Obl×Kept):=
 match qcs live t h z nx with
 |(t,h,z)=>
  match qeo t live reps h z with
  |some (o,h',z')=>fL1 (q9M 0 (q0B t live) t live) fun vs=>fLi (q9N 0 (q0B t live) h' (q0B t live) 0) fun bs=>fNs (qie 0 (q0B t live) z' (q0B t live) 0) fun zs=>some (o,vs,bs,zs)
  |none=>none
theorem qiT {live:Live}(reps:List Rep){o:List Obl}{kp:Kept}{K:Kept→Prop}(hs:setX live reps t h z nx=some (o,kp))(hp:qjU o)(hk:K kp)(hnst:q5p live=false:=by rfl):q12 0 live t h z nx fun _ _ kp=>K kp:=by
 unfold setX at hs
 split at hs
 rename_i t1 h1 z1 hn
 split at hs
 ·rename_i o1 h2 z2 hr
  simp only[q5u,qq7,qv9,Option.some.injEq,Prod.mk.injEq]at hs
  obtain⟨rfl,rfl⟩:=hs
  unfold q12
  simp only[hnst]
  unfold q6U
  refine qiP _ _ _ _ _ _ fun nx'=>?_
  rw[hn]
  refine qGa hr hp ?_
  rw[q6t,q6u]
  exact hk
 cases hs
end
theorem qt2 {h:q0e}:∀(n m:Nat) (d:D),dat n d=true→q0P h m d=[]:=by
 intro n
 induction n with
 |zero=>intro m d hd;simp[dat]at hd
 |succ n ih=>
  intro m d hd
  cases m with
  |zero=>rfl
  |succ m=>
   have list:∀l:List D,l.all (dat n)=true→l.flatMap (q0P h m)=[]:=by
    intro l hl
    rw[List.flatMap_eq_nil_iff]
    intro x hx
    exact ih m x (List.all_eq_true.1 hl x hx)
   cases d with
   |agg l=>simp only[dat]at hd;simp only[q0P];exact list l hd
   |tup l=>simp only[dat]at hd;simp only[q0P];exact list l hd
   |_=>first|(simp[dat]at hd;done) |rfl
theorem q72 {h:q0e}{es:List D}{m:Nat}(hd:es.all (dat 4)=true):es.flatMap (q0P h m)=[]:=by
 rw[List.flatMap_eq_nil_iff]
 intro x hx
 exact qt2 4 m x (List.all_eq_true.1 hd x hx)
end Go.F

namespace Go.F
attribute [local irreducible] IntKind.wrap wpM
def q1N (a b:Spot):Spot:=⟨a.x+b.x,a.y+b.y⟩
def qp (s:Spot):QP:=⟨s.x,s.y⟩
class MidS (s:Spot):Prop where
 bx:s.x.natAbs≤1099511627776
 byy:s.y.natAbs≤1099511627776
instance midOk {s:Spot} [h:OkS s]:MidS s:=⟨by have:=h.bx;omega,by have:=h.byy;omega⟩
instance (priority:=100) midX {s:Spot} [h:MidS s]:Bd s.x 1099511627776:=⟨h.bx⟩
instance (priority:=100) midY {s:Spot} [h:MidS s]:Bd s.y 1099511627776:=⟨h.byy⟩
instance qbQx {s:Spot} [h:MidS s]:QPB (qp s) 2:=⟨qzX (by have:=h.bx;omega) (by have:=h.bx;omega),qzX (by have:=h.byy;omega) (by have:=h.byy;omega)⟩
theorem qcH (s:Spot) [h:MidS s]:PU qi9 [s.enc]=some (qjF (qp s)):=by
 have h1:=h.bx
 have h2:=h.byy
 refine q0g (fn:=q9b) rfl (q0a ?_)
 refine gg rfl (q02 rfl rfl (qxq s.x s.y (by omega) (by omega) (by omega) (by omega)) ?_)
 exact gg rfl (q08 rfl rfl rfl trivial rfl)
theorem qyq (a b:Spot) [MidS a] [MidS b]:PU qmm [a.enc,b.enc]=some (q1N a b).enc:=by
 have w1:IntKind.i64.wrap (a.x+b.x)=a.x+b.x:=q0V (by decide)
 have w2:IntKind.i64.wrap (a.y+b.y)=a.y+b.y:=q0V (by decide)
 refine q0g (fn:=qbU) rfl (q0a ?_)
 refine gg rfl (q08 rfl rfl rfl trivial ?_)
 rw[w1,w2];rfl
theorem q4M (s:Spot)(m:Int)(h0:0≤m)(h1:m≤1099511627776):PU qgn [s.enc,.int .i64 m]=some (.bool (q0v s m)):=by
 have w:IntKind.i64.wrap (0-m)= -m:=by rw[wrap64 (by omega) (by omega)];omega
 refine q0g (fn:=q7W) rfl (q0a ?_)
 refine gg rfl ?_
 rw[w]
 repeat' (first
  |refine goP 800 rfl rfl ?_
  |refine q0h rfl ?_|refine q0n rfl ?_|refine q09 rfl (fun _=>?_) (fun _=>?_)
  |refine q0d rfl ?_|refine q0j rfl ?_|refine q01 rfl (fun _=>?_) (fun _=>?_)
  |refine q0N rfl (fun _=>?_) (fun _=>?_)
  |refine q08 rfl rfl rfl trivial ?_)
 all_goals simp only[w]at*
 all_goals ((try simp only[q1J,q27,q2e,q40,decide_eq_true_eq,decide_eq_false_iff_not,Bool.not_eq_true,Bool.not_eq_false,Int.not_lt,Int.not_le]at*);first|(simp_all[q0v];done) |(simp_all[q0v];omega) |(rw[D.bool.injEq,Bool.eq_iff_iff];simp[q0v];omega) |(rw[D.bool.injEq,Bool.eq_iff_iff];simp_all[q0v];omega) |(simp[q0v];split<;>(try split)<;>omega))
structure Seg where
 fr:Spot
 to:Spot
 w:Int
def Seg.enc (s:Seg):D:=.agg [.int .i64 s.fr.x,.int .i64 s.fr.y,.int .i64 s.to.x,.int .i64 s.to.y,.int .i64 s.w]
class SegOk (s:Seg):Prop where
 fr:MidS s.fr
 to:MidS s.to
 w0:0≤s.w
 w1:s.w≤500
instance {s:Seg} [h:SegOk s]:MidS s.fr:=h.fr
instance {s:Seg} [h:SegOk s]:MidS s.to:=h.to
def q1z (v:Spot)(a b:Seg):List Spot:=
 match q3w (qp a.fr) (qp a.to) (qp b.fr) (qp b.to)with
 |none=>[a.to,b.fr]
 |some m=>
  if(q2y (q15 m (qp v))).2=0∧q0v (q2y (q15 m (qp v))).1 (4*max a.w b.w+4)=true then [q1N v (q2y (q15 m (qp v))).1]else [a.to,b.fr]
theorem qEe (p:QP):MidS (q2y p).1:=by
 unfold q2y
 split
 ·rename_i h
  rw[Bool.and_eq_true,q3d,q3d]at h
  exact⟨by simp only;omega,by simp only;omega⟩
 exact⟨by simp,by simp⟩
theorem q4S {l:List Spot}{n:Nat}(hn:n=l.length):0+n≤(l.map Spot.enc).length∧(((l.map Spot.enc).drop 0).take n).all (dat 4)=true:=by
 subst hn
 refine⟨by simp,?_⟩
 rw[List.drop_zero,List.take_of_length_le (by simp)]
 exact q0W q2r _
set_option maxHeartbeats 1000000 in
theorem qBK (v:Spot)(a b:Seg) [hv:MidS v] [ha:SegOk a] [hb:SegOk b]:PU qgm [v.enc,a.enc,b.enc]=some (q0k (q1z v a b)):=by
 have hm:=qrh (RP.of (qp a.fr)) (RP.of (qp a.to)) (RP.of (qp b.fr)) (RP.of (qp b.to)) (by decide)
 rw[RP.of_v,RP.of_v,RP.of_v,RP.of_v]at hm
 have a0:=ha.w0
 have a1:=ha.w1
 have b0:=hb.w0
 have b1:=hb.w1
 refine q0g (fn:=q8b) rfl (q0a ?_)
 refine gg rfl (q02 rfl rfl (qcH a.fr) (gg rfl (q02 rfl rfl (qcH a.to) (gg rfl (q02 rfl rfl (qcH b.fr) (gg rfl (q02 rfl rfl (qcH b.to) (gg rfl ?_))))))))
 cases hq:q3w (qp a.fr) (qp a.to) (qp b.fr) (qp b.to)with
 |none=>
  rw[hq]at hm
  refine q02 rfl rfl hm (gg rfl (q01 rfl (fun g=>?_) (fun g=>?_)))
  ·rw[q1n]at g;cases g
  refine gg rfl (q08 rfl rfl rfl ⟨q4S (l:=[a.to,b.fr]) rfl,trivial⟩ ?_)
  rw[q1z,hq];rfl
 |some m=>
  rw[hq]at hm
  have hqm:QPB m 50:=by
   unfold q3w at hq
   split at hq
   ·cases hq
   cases hq;exact inferInstance
  have hsub:=q60 (RP.of m) (RP.of (qp v)) (by decide) (by decide)
  rw[RP.of_v,RP.of_v]at hsub
  have hgr:=qH7 (RP.of (q15 m (qp v))) (by decide)
  rw[RP.of_v]at hgr
  have hgm:=qEe (q15 m (qp v))
  have hc:q1z v a b=if(q2y (q15 m (qp v))).2=0∧q0v (q2y (q15 m (qp v))).1 (4*max a.w b.w+4)=true then [q1N v (q2y (q15 m (qp v))).1]else [a.to,b.fr]:=by
   rw[q1z,hq]
  rw[hc]
  generalize q2y (q15 m (qp v))=gd at*
  have w1:=ww (x:=4*max a.w b.w)
  have w2:=ww (x:=4*max a.w b.w+4)
  refine q02 rfl rfl hm (gg rfl (q01 rfl (fun _=>?_) (fun g=>absurd rfl (q1Q.1 g))))
  refine gg rfl (q02 rfl rfl (qcH v) (gg rfl (q02 rfl rfl hsub (gg rfl (q02 rfl rfl hgr (gg rfl (q09 rfl (fun g1=>?_) (fun g1=>?_))))))))
  ·rw[q1n]at g1
   refine gg rfl ?_
   rw[w1,w2]
   refine q02 rfl rfl (q4M gd.1 (4*max a.w b.w+4) (by omega) (by omega)) ?_
   refine gg rfl (q01 rfl (fun g2=>?_) (fun g2=>?_))
   ·refine gg rfl (q02 rfl rfl (qyq v gd.1) (gg rfl (q08 rfl rfl rfl ⟨q4S (l:=[q1N v gd.1]) rfl,trivial⟩ ?_)))
    rw[if_pos ⟨g1,g2⟩];rfl
   refine gg rfl (q08 rfl rfl rfl ⟨q4S (l:=[a.to,b.fr]) rfl,trivial⟩ ?_)
   rw[if_neg (fun h=>by rw[h.2]at g2;cases g2)];rfl
  rw[q1Q]at g1
  refine gg rfl (q0j rfl (gg rfl (q08 rfl rfl rfl ⟨q4S (l:=[a.to,b.fr]) rfl,trivial⟩ ?_)))
  rw[if_neg (fun h=>g1 h.1)];rfl
end Go.F

namespace Go.F
attribute [local irreducible] IntKind.wrap wpM
section
variable {T:Tab}{sh:Shr}{nx0:Nat}{s:List Fr}{t:q0x}{h:q0e}{z:Frz}{nx:Nat}{q:Ex→q0x→q0e→Frz→Nat→Prop}
variable {base i:Nat}{res:List Nat}{g:Gd}{rest:List KOper}
theorem q2U {α:Type}{enc:α→D}{hint ag:Bool}{n:Nat}{a:X}{dst:Nat}{id k' esz:Nat}(L:List α)(k:Nat)(d:α)(ha:a.ev t=.ptr id k' 0)(hkk:k'=k)(hp:∀w:α,qsO ag n (enc w) 0=some (enc w))(hr:g.h base h id=some (.row (L.map enc) esz))(hd:L[k]?=some d)
 (hk:wpM T sh nx0 (.ops base res rest::s) .normal (upd t dst (enc d)) h z nx q):
 wpM T sh nx0 (.ops base res (⟨i,some dst,none,g,.load hint ag n a⟩::rest)::s) .normal t h z nx q:=by
 subst hkk
 exact qn1 ha hr (e:=enc d) (by rw[List.getElem?_map,hd];rfl) (hp d) hk
end
def q3h (v sh:List Spot)(each:List Int)(i:Nat):Seg:=⟨q1N (pt v i) (pt sh i),q1N (pt v ((i+1)%v.length)) (pt sh i),wd each i⟩
def q32 (v sh:List Spot)(each:List Int)(i:Nat):List Spot:=q1z (pt v i) (q3h v sh each ((i+v.length-1)%v.length)) (q3h v sh each i)
def q0X (v sh:List Spot)(each:List Int):Nat→List Spot
 |0=>[]
 |k+1=>q0X v sh each k++q32 v sh each k
def q1x (l:List Spot):Spot:=pt l (l.length-1)
def q1p (out:List Spot)(p:Spot):List Spot:=if out.length=0∨q1x out≠p then out++[p]else out
def q26 (l:List Spot):List Spot:=l.foldl q1p []
def q3i (R:List Spot):Nat→Nat
 |0=>0
 |j+1=>if 1≤j∧pt R j=pt R 0 then q3i R j else j+1
def q2O (v sh:List Spot)(each:List Int):List Spot:=(q26 (q0X v sh each v.length)).take (q3i (q26 (q0X v sh each v.length)) (q26 (q0X v sh each v.length)).length)
def q7H (v q:List Spot):List Spot×Int:=
 if q.any (fun s=>!q0v s 1048576)then([],3)
 else if q1E q=0 then if sgn (q0Z q)=sgn (q0Z v)then(q,0)else([],11)
 else([],q1E q)
def q23 (l:List Edge)(ws:List Int):List Spot×Int:=
 if(q1c l ws).2=0 then q7H (q0m l) (q2O (q0m l) (q1c l ws).1 (q1X l ws l.length))else([],(q1c l ws).2)
theorem q5x (s:Seg):plain 4 s.enc=true:=rfl
theorem q8P (v:Spot)(a b:Seg):(q1z v a b).length≤2:=by
 unfold q1z
 split
 ·simp
 split<;>simp
theorem qqy (v sh:List Spot)(each:List Int)(k:Nat):(q0X v sh each k).length≤2*k:=by
 induction k with
 |zero=>simp[q0X]
 |succ k ih=>
  have:=q8P (pt v k) (q3h v sh each ((k+v.length-1)%v.length)) (q3h v sh each k)
  rw[q0X,List.length_append,q32];omega
theorem qBL (out:List Spot)(p:Spot):(q1p out p).length≤out.length+1:=by
 unfold q1p;split<;>simp
theorem qeD (l:List Spot):∀out:List Spot,(l.foldl q1p out).length≤out.length+l.length:=by
 induction l with
 |nil=>intro out;simp
 |cons p l ih=>intro out;have:=ih (q1p out p);have:=qBL out p;simp only[List.foldl_cons,List.length_cons];omega
theorem q7I {l:List Edge}{ws:List Int}(h:(q1c l ws).2=0):q0J l=0∧ws.length=l.length∧(∀x∈ws,0≤x∧x≤500)∧(q1c l ws).1=q22 (q0m l) (q1X l ws l.length) (sgn (q0Z (q0m l))):=by
 unfold q1c at h⊢
 split at h
 ·rename_i h1
  split at h
  ·rename_i h2
   split at h
   ·cases h
   rename_i h3
   refine⟨h1,h2,fun x hx=>qgJ ?_,by rw[if_pos h1,if_pos h2,if_neg h3]⟩
   cases hb:q2j x with
   |false=>rfl
   |true=>exact absurd (List.any_eq_true.2 ⟨x,hx,hb⟩) h3
  cases h
 rename_i h1;exact absurd h h1
theorem qAG {l:List Edge}{ws:List Int}(hl:l.length≤ws.length)(hg:∀x∈ws,0≤x∧x≤500)(i:Nat):0≤wd (q1X l ws l.length) i∧wd (q1X l ws l.length) i≤500:=by
 by_cases hi:i<(q1X l ws l.length).length
 ·have:wd (q1X l ws l.length) i=(q1X l ws l.length)[i]:=by simp[wd,hi]
  rw[this];exact hg _ (qvl l ws l.length hl _ (List.getElem_mem _))
 have:wd (q1X l ws l.length) i=0:=by simp[wd,List.getElem?_eq_none (Nat.le_of_not_lt hi)]
 rw[this];decide
theorem qg7 {v:List Spot} [OkP v]{each:List Int}{sg:Int}(hs: -1≤sg∧sg≤1)(hw:∀i,0≤wd each i∧wd each i≤500)(hsim:q3D v)(h2:2≤v.length){i:Nat}(hi:i<v.length):
 (q3n v each sg i).x.natAbs≤4294967296∧(q3n v each sg i).y.natAbs≤4294967296:=by
 have hne:=qj4 hsim h2 hi
 have hsq:=qyp (pt v i) (pt v ((i+1)%v.length))
 have hir:=qeC (n:=sqd (pt v i) (pt v ((i+1)%v.length))) (by omega) (qb0 hne)
 have hw:=hw i
 have bw:Bd (wd each i) 500:=⟨by omega⟩
 have bs:Bd sg 1:=⟨by omega⟩
 have b1:Bd (sg*wd each i*((pt v ((i+1)%v.length)).y-(pt v i).y)) _:=inferInstance
 have b2:Bd (-(sg*wd each i) *((pt v ((i+1)%v.length)).x-(pt v i).x)) _:=inferInstance
 have l1:=b1.le
 have l2:=b2.le
 have r1:=q8O (b:=(isq (sqd (pt v i) (pt v ((i+1)%v.length))):Int)) (m:=4294967296) (by omega) (show-((4294967296:Nat):Int)≤sg*wd each i*((pt v ((i+1)%v.length)).y-(pt v i).y)by omega) (by omega)
 have r2:=q8O (b:=(isq (sqd (pt v i) (pt v ((i+1)%v.length))):Int)) (m:=4294967296) (by omega) (show-((4294967296:Nat):Int)≤ -(sg*wd each i) *((pt v ((i+1)%v.length)).x-(pt v i).x)by omega) (by omega)
 exact⟨by show(q1u _ _).natAbs≤_;omega,by show(q1u _ _).natAbs≤_;omega⟩
theorem qne {f:Nat→Spot}{n i:Nat}(h:i<n):pt ((List.range n).map f) i=f i:=by
 rw[q0D (by simpa using h)];simp
theorem qnf {c:List Spot}{j:Nat}(h:j<c.length)(out:List Spot):(c.take (j+1)).foldl q1p out=q1p ((c.take j).foldl q1p out) (pt c j):=by
 rw[List.take_succ_eq_append_getElem h,List.foldl_append,q0D h];rfl
set_option maxHeartbeats 8000000 in
theorem qcI (l:List Edge)(ws:List Int):
 PU qi5 [edges l,ints ws]=some (qnd (q23 l ws)):=by
 have hpoly:=q5q l
 refine q0g (fn:=q8S) rfl (q0a ?_)
 refine gg rfl (q02 rfl rfl (qj5 l ws) (gg rfl (q01 rfl (fun g=>?_) (fun g=>?_))))
 ·rw[q0u]at g
  refine gg rfl (q08 rfl rfl rfl trivial ?_)
  rw[q23,if_neg g];rfl
 rw[q0z]at g
 rw[q23,if_pos g]
 obtain⟨hc,hwl,hgood,hs1⟩:=q7I g
 obtain⟨h2,h16,_,_,hchk⟩:=q11 hc
 obtain⟨v3,v40,vok,vin,vs⟩:=q16 hchk
 have hl1:∀e∈l,1≤e.line.length∧e.line.length≤100000:=fun e he=>by have:=q2p hc e he;omega
 rw[q8p,if_pos hc]at hpoly
 have hseg:=qcF l ws l.length (Nat.le_refl _)
 rw[List.take_length]at hseg
 have heb:=qAG (l:=l) (by omega) hgood
 have hsw:=q9T l ws (by omega) hl1 (by omega) (by omega)
 have hsb: -1≤sgn (q0Z (q0m l))∧sgn (q0Z (q0m l))≤1:=by have:=(qyQ (q0Z (q0m l))).le;omega
 have hsl:(q1c l ws).1.length=(q0m l).length:=by rw[hs1];simp[q22]
 have hsb':∀i,i<(q0m l).length→(pt (q1c l ws).1 i).x.natAbs≤4294967296∧(pt (q1c l ws).1 i).y.natAbs≤4294967296:=by
  intro i hi
  rw[hs1,q22,qne hi]
  exact qg7 hsb heb vs (by omega) hi
 have hsm:∀i,i<(q0m l).length→MidS (pt (q1c l ws).1 i):=by
  intro i hi
  rw[hs1,q22,qne hi]
  have:=qg7 hsb heb vs (by omega) hi
  exact⟨by omega,by omega⟩
 generalize (q1c l ws).1=sh at*
 generalize (q1c l ws).2=e0 at*
 subst g
 refine gg rfl (q02 rfl rfl hpoly (gg rfl (q01 rfl (fun g=>absurd rfl (q0u.1 g)) (fun _=>?_))))
 refine gg rfl (q02 rfl rfl hsw (gg rfl ?_))
 generalize q1X l ws l.length=each at*
 generalize q0m l=v at*
 have hok:∀i,i<v.length→SegOk (q3h v sh each i):=by
  intro i hi
  have hb:=hsb' i hi
  have x1:=(qC5 (p:=v) (i:=i)).bx
  have x2:=(qC5 (p:=v) (i:=i)).byy
  have x3:=(qC5 (p:=v) (i:=(i+1)%v.length)).bx
  have x4:=(qC5 (p:=v) (i:=(i+1)%v.length)).byy
  refine⟨⟨?_,?_⟩,⟨?_,?_⟩,(heb i).1,(heb i).2⟩<;>simp only[q3h,q1N]<;>omega
 rw[List.length_map]
 refine q44 v.length rfl rfl rfl (by simp[q0M];omega) ?_
 have ez:List.replicate v.length (D.agg [D.int IntKind.i64 0,D.int IntKind.i64 0,D.int IntKind.i64 0,D.int IntKind.i64 0,D.int IntKind.i64 0])=(q5N ⟨⟨0,0⟩,⟨0,0⟩,0⟩ v.length (q3h v sh each) 0).map Seg.enc:=by
  rw[qj3];simp[Seg.enc]
 rw[ez]
 refine gg rfl (q0l (S:=fun k:Nat=>([q0k v,ints each,q00 v.length,.ref 3 0 v.length,q0k sh,q00 v.length,q00 k],[none,none,none,some (.row ((q5N ⟨⟨0,0⟩,⟨0,0⟩,0⟩ v.length (q3h v sh each) k).map Seg.enc) 5),none,none,none],[0,0,0,0,0,0,0])) (C:=fun k=>k≤v.length) (m:=fun k=>v.length-k) 0 (Nat.zero_le _) (by omega) ?_ ?_)
 ·exact q03 rfl ⟨q05 q5x _,trivial⟩ (by simp[q0k,ints,q00,hsl])
 intro k hk N hN
 refine gg rfl (q01 rfl (fun g2=>?_) (fun g2=>?_))
 ·rw[q06]at g2
  have hlt:k<v.length:=by omega
  have w1:=wS (n:=k)
  have hset:=qnc ⟨⟨0,0⟩,⟨0,0⟩,0⟩ (q3h v sh each) hlt
  have hms:=hsm k hlt
  refine gg rfl (q0i k rfl rfl rfl (q0Q (by omega)) rfl ?_)
  refine gg rfl (q0i k rfl rfl rfl (q0Q hlt) rfl (gg rfl (q02 rfl rfl (qyq (pt v k) (pt sh k)) (gg rfl (q37 rfl rfl (by omega) ?_)))))
  refine gg rfl (q0i ((k+1)%v.length) rfl rfl (by rw[w1,q1s]) (q0Q (Nat.mod_lt _ (by omega))) rfl ?_)
  refine gg rfl (q02 rfl rfl (qyq (pt v ((k+1)%v.length)) (pt sh k)) (gg rfl (q0i k rfl rfl rfl (qna (by omega)) rfl ?_)))
  refine gg rfl (q0H k rfl rfl rfl rfl rfl hlt (gg rfl (q4R (enc:=Seg.enc) (q5N ⟨⟨0,0⟩,⟨0,0⟩,0⟩ v.length (q3h v sh each) k) k (q3h v sh each k) rfl rfl (Nat.zero_add _) rfl (fun _=>rfl) rfl (Nat.zero_le _) (by rw[qcG];exact hlt) ?_)))
  rw[hset]
  exact gg rfl (q04 (hN (k+1) hlt (by omega) (q03 rfl ⟨q05 q5x _,trivial⟩ (by simp[q0k,ints,q00,w1]))))
 rw[q07]at g2
 obtain rfl:k=v.length:=by omega
 clear hN
 refine gg rfl (q04 (gg rfl ?_))
 rw[qeB]
 have hsgs:∀i,i<v.length→((List.range v.length).map (q3h v sh each))[i]?=some (q3h v sh each i):=by
  intro i hi;simp[hi]
 have hseglen:((List.range v.length).map (q3h v sh each)).length=v.length:=by simp
 generalize hsg:(List.range v.length).map (q3h v sh each)=segs at*
 have hPlen:∀k,((q0X v sh each k).foldl q1p []).length≤2*k:=fun k=>by
  have:=qeD (q0X v sh each k) []
  have:=qqy v sh each k
  simp at*;omega
 refine q0l (S:=fun k:Nat=>([q0k v,q00 v.length,.ref 2 0 v.length,.ref 3 0 ((q0X v sh each k).foldl q1p []).length,q0k v,q00 v.length,q00 k],[none,none,some (.row (segs.map Seg.enc) 5),some (.row (((q0X v sh each k).foldl q1p []).map Spot.enc) 2),none,none,none],[0,0,0,0,0,0,0])) (C:=fun k=>k≤v.length) (m:=fun k=>v.length-k) 0 (Nat.zero_le _) (by omega) ?_ ?_
 ·exact q03 rfl ⟨q05 q5x _,rfl,trivial⟩ (by simp[q0k,q00,q0X])
 intro k hk N hN
 refine gg rfl (q01 rfl (fun g3=>?_) (fun g3=>?_))
 ·rw[q06]at g3
  have hlt:k<v.length:=by omega
  have w1:=wS (n:=k)
  have w2:IntKind.i64.wrap (IntKind.i64.wrap ((k:Int)+v.length)-1)=((k+v.length-1:Nat):Int):=by rw[wrap64 (x:=(k:Int)+v.length) (by omega) (by omega),wrap64 (by omega) (by omega)];omega
  have hm:(k+v.length-1)%v.length<v.length:=Nat.mod_lt _ (by omega)
  have ok1:=hok _ hm
  have ok2:=hok k hlt
  have hk1:=hPlen (k+1)
  refine gg rfl (q0i k rfl rfl rfl (q0Q hlt) rfl (gg rfl (q37 rfl rfl (by omega) ?_)))
  refine gg rfl (q0H ((k+v.length-1)%v.length) rfl rfl rfl rfl (by rw[w2,q1s]) hm ?_)
  refine gg rfl (q2U (enc:=Seg.enc) segs ((k+v.length-1)%v.length) (q3h v sh each ((k+v.length-1)%v.length)) rfl (Nat.zero_add _) (fun _=>rfl) rfl (hsgs _ hm) (gg rfl (q0H k rfl rfl rfl rfl rfl hlt (gg rfl (q2U (enc:=Seg.enc) segs k (q3h v sh each k) rfl (Nat.zero_add _) (fun _=>rfl) rfl (hsgs _ hlt) (gg rfl (q02 rfl rfl (qBK (pt v k) (q3h v sh each ((k+v.length-1)%v.length)) (q3h v sh each k)) (gg rfl ?_))))))))
  have hcl:(q32 v sh each k).length≤2:=q8P _ _ _
  have hct:q0X v sh each (k+1)=q0X v sh each k++q32 v sh each k:=rfl
  have hPk:=hPlen k
  change wpM _ _ _ _ _ (upd _ 100 _) _ _ _ _
  have hcd:q1z (pt v k) (q3h v sh each ((k+v.length-1)%v.length)) (q3h v sh each k)=q32 v sh each k:=rfl
  rw[hcd]
  generalize q32 v sh each k=c at*
  generalize hP:(q0X v sh each k).foldl q1p []=P at*
  have hfl:∀j,((c.take j).foldl q1p P).length≤P.length+2:=fun j=>by
   have:=qeD (c.take j) P
   simp at*;omega
  refine q0l (S:=fun j:Nat=>([q0k v,q00 v.length,.ref 2 0 v.length,.ref 3 0 ((c.take j).foldl q1p P).length,q0k v,q00 v.length,q00 k,q0k c,q00 c.length,q00 j],[none,none,some (.row (segs.map Seg.enc) 5),some (.row (((c.take j).foldl q1p P).map Spot.enc) 2),none,none,none,none,none,none],[0,0,0,0,0,0,0,0,0,0])) (C:=fun j=>j≤c.length) (m:=fun j=>c.length-j) 0 (Nat.zero_le _) (by omega) ?_ ?_
  ·exact q03 rfl ⟨q05 q5x _,q05 q0r _,trivial⟩ (by simp[q0k,q00])
  intro j hj N2 hN2
  refine gg rfl (q01 rfl (fun g4=>?_) (fun g4=>?_))
  ·rw[q06]at g4
   have hjl:j<c.length:=by omega
   have wj:=wS (n:=j)
   have hstep:=qnf hjl P
   have hfj:=hfl j
   generalize hO:(c.take j).foldl q1p P=O at*
   have next:∀{t:q0x} {h:q0e} {z:Frz} {nx:Nat},(q12 0 [(8,0),(10,0),(11,0),(14,2),(77,0),(78,0),(79,0),(98,0),(99,0),(100,0)] t h z nx fun _ _ kp=>kp=([q0k v,q00 v.length,.ref 2 0 v.length,.ref 3 0 (q1p O (pt c j)).length,q0k v,q00 v.length,q00 k,q0k c,q00 c.length,q00 ((j+1:Nat):Int)],[none,none,some (.row (segs.map Seg.enc) 5),some (.row ((q1p O (pt c j)).map Spot.enc) 2),none,none,none,none,none,none],[0,0,0,0,0,0,0,0,0,0]))→N2 t h z nx:=by
    intro t h z nx hst
    refine hN2 (j+1) hjl (by omega) ?_
    rw[hstep];exact hst
   clear hN2
   have wl:O.length≠0→IntKind.i64.wrap ((O.length:Int)-1)=((O.length-1:Nat):Int):=fun h=>by rw[wrap64 (by omega) (by omega)];omega
   refine gg rfl (q0i j rfl rfl rfl (q0Q hjl) rfl (gg rfl (q09 rfl (fun e1=>?_) (fun e1=>?_))))
   ·rw[q1n]at e1
    have hO0:O.length=0:=by omega
    have hpush:q1p O (pt c j)=O++[pt c j]:=by rw[q1p,if_pos (.inl hO0)]
    refine gg rfl (q0d rfl (gg rfl (q1b rfl rfl rfl rfl rfl rfl (by simp) (Nat.zero_le _) (by simp[q0M];omega) ?_)))
    refine gg rfl (q04 (next (q03 rfl ⟨q05 q5x _,?_,trivial⟩ ?_)))
    ·rw[List.all_append,q05 q0r];rfl
    rw[hpush];simp[q0k,q00,wj,Spot.enc]
   rw[q1Q]at e1
   have hO0:O.length≠0:=by omega
   have hlast:O[O.length-1]?=some (q1x O):=by rw[q1x,q0D (by omega)];exact List.getElem?_eq_getElem (by omega)
   refine gg rfl (q0H (O.length-1) rfl rfl rfl rfl (wl hO0) (by omega) ?_)
   refine gg rfl (q2U (enc:=Spot.enc) O (O.length-1) (q1x O) rfl (Nat.zero_add _) (fun _=>rfl) rfl hlast (gg rfl (q01 rfl (fun e2=>?_) (fun e2=>?_))))
   ·rw[q1I]at e2
    have hne:q1x O≠pt c j:=by simpa using e2
    have hpush:q1p O (pt c j)=O++[pt c j]:=by rw[q1p,if_pos (.inr hne)]
    refine gg rfl (q1b rfl rfl rfl rfl rfl rfl (by simp) (Nat.zero_le _) (by simp[q0M];omega) ?_)
    refine gg rfl (q04 (next (q03 rfl ⟨q05 q5x _,?_,trivial⟩ ?_)))
    ·rw[List.all_append,q05 q0r];rfl
    rw[hpush];simp[q0k,q00,wj,Spot.enc]
   rw[q1I]at e2
   have heq:q1x O=pt c j:=by simpa using e2
   have hpush:q1p O (pt c j)=O:=by rw[q1p,if_neg (by intro h;rcases h with h|h;exact hO0 h;exact h heq)]
   exact gg rfl (q04 (next (q03 rfl ⟨q05 q5x _,q05 q0r _,trivial⟩ (by rw[hpush];simp[q0k,q00,wj]))))
  rw[q07]at g4
  obtain rfl:j=c.length:=by omega
  clear hN2
  refine gg rfl (q04 (gg rfl (q04 (hN (k+1) hlt (by omega) (q03 rfl ⟨q05 q5x _,q05 q0r _,trivial⟩ ?_)))))
  simp[q0k,q00,w1,hct,hP]
 rw[q07]at g3
 obtain rfl:k=v.length:=by omega
 clear hN
 have hR2:=hPlen v.length
 have hq:q2O v sh each=(q26 (q0X v sh each v.length)).take (q3i (q26 (q0X v sh each v.length)) (q26 (q0X v sh each v.length)).length):=rfl
 rw[hq]
 change ((q26 (q0X v sh each v.length))).length≤_ at hR2
 refine gg rfl (q04 (gg rfl ?_))
 have hon:(q0X v sh each v.length).foldl q1p []=q26 (q0X v sh each v.length):=rfl
 rw[hon]
 clear hq hPlen hon
 generalize q26 (q0X v sh each v.length)=R at*
 refine q0l (S:=fun j:Nat=>([q0k v,.ref 1 0 j],[none,some (.row (R.map Spot.enc) 2)],[0,0])) (C:=fun j=>j≤R.length∧q3i R j=q3i R R.length) (m:=fun j=>j) R.length ⟨Nat.le_refl _,rfl⟩ (by omega) ?_ ?_
 ·exact q03 rfl ⟨q05 q0r _,trivial⟩ (by simp[q0k])
 rintro j ⟨hj,htr⟩ N hN
 have wl:j≠0→IntKind.i64.wrap ((j:Int)-1)=((j-1:Nat):Int):=fun h=>by rw[wrap64 (by omega) (by omega)];omega
 have hstop:¬(2≤j∧pt R (j-1)=pt R 0)→q3i R R.length=j:=by
  intro h
  rw[←htr]
  cases j with
  |zero=>rfl
  |succ j=>rw[q3i,if_neg (fun h'=>h ⟨by omega,by simpa using h'.2⟩)]
 refine gg rfl (q09 rfl (fun e1=>?_) (fun e1=>?_))
 ·rw[q0E]at e1
  have hj2:2≤j:=by omega
  refine gg rfl (q0H (j-1) rfl rfl rfl rfl (wl (by omega)) (by omega) ?_)
  refine gg rfl (q2U (enc:=Spot.enc) R (j-1) (pt R (j-1)) rfl (Nat.zero_add _) (fun _=>rfl) rfl (by rw[q0D (by omega)];exact List.getElem?_eq_getElem (by omega)) ?_)
  refine gg rfl (q0H 0 rfl rfl rfl rfl rfl (by omega) ?_)
  refine gg rfl (q2U (enc:=Spot.enc) R 0 (pt R 0) rfl rfl (fun _=>rfl) rfl (by rw[q0D (by omega)];exact List.getElem?_eq_getElem (by omega)) ?_)
  refine gg rfl (q01 rfl (fun e2=>?_) (fun e2=>?_))
  ·rw[q1I]at e2
   have heq:pt R (j-1)=pt R 0:=by simpa using e2
   refine gg rfl (q9O (j-1) rfl rfl rfl ⟨_,_,rfl,wl (by omega)⟩ (by omega) ?_)
   refine gg rfl (q04 (hN (j-1) ⟨by omega,?_⟩ (by omega) (q03 rfl ⟨q05 q0r _,trivial⟩ (by simp[q0k]))))
   rw[←htr]
   obtain⟨i,rfl⟩:∃i,j=i+1:=⟨j-1,by omega⟩
   rw[q3i,if_pos ⟨by omega,by simpa using heq⟩];rfl
  rw[q1I]at e2
  have hne:¬(2≤j∧pt R (j-1)=pt R 0):=fun h=>by rw[h.2]at e2;simp at e2
  rw[hstop hne]
  clear hN
  refine gg rfl (q04 (gg rfl ?_))
  have hrow:D.lst ((R.map Spot.enc).take j)=q0k (R.take j):=by rw[q0k,List.map_take]
  have hdat:0+j≤(R.map Spot.enc).length∧(((R.map Spot.enc).drop 0).take j).all (dat 4)=true:=by
   refine⟨by simp;omega,?_⟩
   rw[List.drop_zero,←List.map_take];exact q0W q2r _
  have hql:(R.take j).length=j:=by simp;omega
  refine q0l (S:=fun k:Nat=>([q0k v,.ref 1 0 j,.ref 1 0 j,q00 j,q00 k],[none,some (.row (R.map Spot.enc) 2),none,none,none],[0,0,0,0,0])) (C:=fun k=>k≤j∧∀i,i<k→q0v (pt R i) 1048576=true) (m:=fun k=>j-k) 0 ⟨Nat.zero_le _,fun i hi=>by omega⟩ (by omega) ?_ ?_
  ·exact q03 rfl ⟨q05 q0r _,q05 q0r _,trivial⟩ (by simp[q0k,q00])
  rintro k ⟨hk,hin⟩ N hN
  refine gg rfl (q01 rfl (fun f1=>?_) (fun f1=>?_))
  ·rw[q06]at f1
   have hlt:k<j:=by omega
   have w1:=wS (n:=k)
   refine gg rfl (q0H k rfl rfl rfl rfl rfl hlt (gg rfl (q2U (enc:=Spot.enc) R k (pt R k) rfl (Nat.zero_add _) (fun _=>rfl) rfl (by rw[q0D (by omega)];exact List.getElem?_eq_getElem (by omega)) ?_)))
   refine gg rfl (q02 rfl rfl (q4M (pt R k) 1048576 (by decide) (by decide)) ?_)
   refine gg rfl (q01 rfl (fun f2=>?_) (fun f2=>?_))
   ·refine gg rfl (q04 (gg rfl (q08 rfl rfl rfl trivial ?_)))
    have:(R.take j).any (fun s=>!q0v s 1048576)=true:=by
     refine List.any_eq_true.2 ⟨pt R k,?_,f2⟩
     rw[q0D (by omega)]
     exact List.mem_iff_getElem.2 ⟨k,by omega,by simp⟩
    rw[q7H,if_pos this];rfl
   refine gg rfl (q04 (hN (k+1) ⟨hlt,fun i hi=>?_⟩ (by omega) (q03 rfl ⟨q05 q0r _,q05 q0r _,trivial⟩ (by simp[q0k,q00,w1]))))
   by_cases hik:i<k
   ·exact hin i hik
   obtain rfl:i=k:=by omega
   simpa using f2
  rw[q07]at f1
  clear hN
  have hany:(R.take j).any (fun s=>!q0v s 1048576)=false:=by
   rw[List.any_eq_false]
   intro s hs
   obtain⟨i,hi,rfl⟩:=List.getElem_of_mem hs
   have:=hin i (by omega)
   rw[q0D (by omega)]at this
   simp[this]
  rw[q7H,if_neg (by rw[hany];decide)]
  refine gg rfl (q04 (gg rfl (q6N rfl rfl ⟨hdat,trivial⟩ (by rw[hrow];exact q3q (R.take j)) rfl ?_)))
  refine gg rfl (q01 rfl (fun f3=>?_) (fun f3=>?_))
  ·rw[q0u]at f3
   refine gg rfl (q08 rfl rfl rfl trivial ?_)
   rw[if_neg f3];rfl
  rw[q0z]at f3
  rw[if_pos f3]
  refine gg rfl (q6N rfl rfl ⟨hdat,trivial⟩ (by rw[hrow];exact q4b (R.take j)) rfl ?_)
  refine gg rfl (q02 rfl rfl (q4b v) (gg rfl (q01 rfl (fun f4=>?_) (fun f4=>?_))))
  ·rw[q0u]at f4
   refine gg rfl (q08 rfl rfl rfl trivial ?_)
   rw[if_neg f4];rfl
  rw[q0z]at f4
  rw[if_pos f4]
  refine gg rfl (q08 rfl rfl rfl ⟨hdat,trivial⟩ ?_)
  rw[hrow];rfl
 rw[q0F]at e1
 have hne:¬(2≤j∧pt R (j-1)=pt R 0):=fun h=>by omega
 rw[hstop hne]
 clear hN
 refine gg rfl (q0j rfl (gg rfl (q04 (gg rfl ?_))))
 have hrow:D.lst ((R.map Spot.enc).take j)=q0k (R.take j):=by rw[q0k,List.map_take]
 have hdat:0+j≤(R.map Spot.enc).length∧(((R.map Spot.enc).drop 0).take j).all (dat 4)=true:=by
  refine⟨by simp;omega,?_⟩
  rw[List.drop_zero,←List.map_take];exact q0W q2r _
 have hql:(R.take j).length=j:=by simp;omega
 refine q0l (S:=fun k:Nat=>([q0k v,.ref 1 0 j,.ref 1 0 j,q00 j,q00 k],[none,some (.row (R.map Spot.enc) 2),none,none,none],[0,0,0,0,0])) (C:=fun k=>k≤j∧∀i,i<k→q0v (pt R i) 1048576=true) (m:=fun k=>j-k) 0 ⟨Nat.zero_le _,fun i hi=>by omega⟩ (by omega) ?_ ?_
 ·exact q03 rfl ⟨q05 q0r _,q05 q0r _,trivial⟩ (by simp[q0k,q00])
 rintro k ⟨hk,hin⟩ N hN
 refine gg rfl (q01 rfl (fun f1=>?_) (fun f1=>?_))
 ·rw[q06]at f1
  have hlt:k<j:=by omega
  have w1:=wS (n:=k)
  refine gg rfl (q0H k rfl rfl rfl rfl rfl hlt (gg rfl (q2U (enc:=Spot.enc) R k (pt R k) rfl (Nat.zero_add _) (fun _=>rfl) rfl (by rw[q0D (by omega)];exact List.getElem?_eq_getElem (by omega)) ?_)))
  refine gg rfl (q02 rfl rfl (q4M (pt R k) 1048576 (by decide) (by decide)) ?_)
  refine gg rfl (q01 rfl (fun f2=>?_) (fun f2=>?_))
  ·refine gg rfl (q04 (gg rfl (q08 rfl rfl rfl trivial ?_)))
   have:(R.take j).any (fun s=>!q0v s 1048576)=true:=by
    refine List.any_eq_true.2 ⟨pt R k,?_,f2⟩
    rw[q0D (by omega)]
    exact List.mem_iff_getElem.2 ⟨k,by omega,by simp⟩
   rw[q7H,if_pos this];rfl
  refine gg rfl (q04 (hN (k+1) ⟨hlt,fun i hi=>?_⟩ (by omega) (q03 rfl ⟨q05 q0r _,q05 q0r _,trivial⟩ (by simp[q0k,q00,w1]))))
  by_cases hik:i<k
  ·exact hin i hik
  obtain rfl:i=k:=by omega
  simpa using f2
 rw[q07]at f1
 clear hN
 have hany:(R.take j).any (fun s=>!q0v s 1048576)=false:=by
  rw[List.any_eq_false]
  intro s hs
  obtain⟨i,hi,rfl⟩:=List.getElem_of_mem hs
  have:=hin i (by omega)
  rw[q0D (by omega)]at this
  simp[this]
 rw[q7H,if_neg (by rw[hany];decide)]
 refine gg rfl (q04 (gg rfl (q6N rfl rfl ⟨hdat,trivial⟩ (by rw[hrow];exact q3q (R.take j)) rfl ?_)))
 refine gg rfl (q01 rfl (fun f3=>?_) (fun f3=>?_))
 ·rw[q0u]at f3
  refine gg rfl (q08 rfl rfl rfl trivial ?_)
  rw[if_neg f3];rfl
 rw[q0z]at f3
 rw[if_pos f3]
 refine gg rfl (q6N rfl rfl ⟨hdat,trivial⟩ (by rw[hrow];exact q4b (R.take j)) rfl ?_)
 refine gg rfl (q02 rfl rfl (q4b v) (gg rfl (q01 rfl (fun f4=>?_) (fun f4=>?_))))
 ·rw[q0u]at f4
  refine gg rfl (q08 rfl rfl rfl trivial ?_)
  rw[if_neg f4];rfl
 rw[q0z]at f4
 rw[if_pos f4]
 refine gg rfl (q08 rfl rfl rfl ⟨hdat,trivial⟩ ?_)
 rw[hrow];rfl
end Go.F

namespace Go.F
attribute [local irreducible] IntKind.wrap wpM
section
variable {T:Tab}{sh:Shr}{nx0:Nat}{s:List Fr}{t:q0x}{h:q0e}{z:Frz}{nx:Nat}{q:Ex→q0x→q0e→Frz→Nat→Prop}
variable {base i:Nat}{res:List Nat}{dst:Nat}{g:Gd}{rest:List KOper}
end
end Go.F

namespace Go.F
attribute [local irreducible] IntKind.wrap wpM
end Go.F

namespace Go.F
attribute [local irreducible] IntKind.wrap wpM
end Go.F

namespace Go.F
theorem qk2 {b:Int}(hb:0<b):q1u 0 b=0:=by
 unfold q1u
 rw[if_neg (by omega)]
 exact Int.ediv_eq_zero_of_lt (by omega) (by omega)
end Go.F

namespace Go.F
def q9E (a b c:QP):Rat:=(b.x-a.x) *(c.y-a.y)-(b.y-a.y) *(c.x-a.x)
theorem qbk (a b c:Spot):q9E (qp a) (qp b) (qp c)=((q14 a b c:Int):Rat):=by
 unfold q9E q14 qp
 simp only[Rat.intCast_sub,Rat.intCast_mul]
theorem qCM (a b c d:QP)(t:Rat):q9E a b (onP c d t)=(1-t) *q9E a b c+t*q9E a b d:=by
 unfold q9E onP qcB q3r q15
 simp only
 grind
theorem qlP (a b:QP)(s:Rat):q9E a b (onP a b s)=0:=by
 unfold q9E onP qcB q3r q15
 simp only
 grind
theorem qGS {a b s:Rat}(h0:0≤s)(h1:s≤1):min a b≤a+(b-a) *s∧a+(b-a) *s≤max a b:=by
 rw[Rat.min_def,Rat.max_def]
 by_cases h:a≤b
 ·rw[if_pos h,if_pos h]
  have p1:=Rat.mul_nonneg (show 0≤b-a by grind) h0
  have p2:=Rat.mul_nonneg (show 0≤b-a by grind) (show 0≤1-s by grind)
  constructor<;>grind
 rw[if_neg h,if_neg h]
 have p1:=Rat.mul_nonneg (show 0≤a-b by grind) h0
 have p2:=Rat.mul_nonneg (show 0≤a-b by grind) (show 0≤1-s by grind)
 constructor<;>grind
theorem qlQ {a b q:Int}{s:Rat}(h0:0≤s)(h1:s≤1)(he:(q:Rat)=a+((b:Rat)-a) *s):min a b≤q∧q≤max a b:=by
 have h:=qGS (a:=(a:Rat)) (b:=(b:Rat)) h0 h1
 rw[←he,Rat.min_def,Rat.max_def]at h
 by_cases hab:a≤b
 ·have:(a:Rat)≤(b:Rat):=Rat.intCast_le_intCast.2 hab
  rw[if_pos this,if_pos this,Rat.intCast_le_intCast,Rat.intCast_le_intCast]at h
  omega
 have:¬(a:Rat)≤(b:Rat):=fun hh=>hab (Rat.intCast_le_intCast.1 hh)
 rw[if_neg this,if_neg this,Rat.intCast_le_intCast,Rat.intCast_le_intCast]at h
 omega
theorem qio {a b q:Spot}{s:Rat}(h0:0≤s)(h1:s≤1)(he:qp q=onP (qp a) (qp b) s):onS a b q=true:=by
 have hc:q14 a b q=0:=by
  have:((q14 a b q:Int):Rat)=0:=by rw[←qbk,he,qlP]
  exact Rat.intCast_eq_zero_iff.1 this
 have hx:(q.x:Rat)=a.x+((b.x:Rat)-a.x) *s:=congrArg QP.x he
 have hy:(q.y:Rat)=a.y+((b.y:Rat)-a.y) *s:=congrArg QP.y he
 have bx:=qlQ h0 h1 hx
 have by':=qlQ h0 h1 hy
 unfold onS
 simp[hc,bx,by']
theorem qpm {a b c:Spot}(hab:a≠b)(hc:q14 a b c=0):∃s:Rat,qp c=onP (qp a) (qp b) s:=by
 have hq:q9E (qp a) (qp b) (qp c)=0:=by rw[qbk,hc];rfl
 unfold q9E at hq
 by_cases hx:b.x=a.x
 ·have hy:b.y≠a.y:=fun h=>hab (by cases a;cases b;simp at hx h⊢;omega)
  have hy':(qp b).y-(qp a).y≠0:=by
   show(b.y:Rat)-(a.y:Rat)≠0
   rw[←Rat.intCast_sub];intro h;rw[Rat.intCast_eq_zero_iff]at h;omega
  have hx':(qp b).x=(qp a).x:=by show(b.x:Rat)=(a.x:Rat);rw[hx]
  refine⟨((qp c).y-(qp a).y)/((qp b).y-(qp a).y),?_⟩
  have ht:=Rat.div_mul_cancel (a:=(qp c).y-(qp a).y) hy'
  generalize ((qp c).y-(qp a).y)/((qp b).y-(qp a).y)=t at ht
  have h1:((qp b).y-(qp a).y) *((qp c).x-(qp a).x)=0:=by grind
  have h2:(qp c).x=(qp a).x:=by
   rcases Rat.mul_eq_zero.1 h1 with h|h
   ·exact absurd h hy'
   grind
  unfold onP qcB q3r q15
  cases hcc:qp c with
  |mk cx cy=>
   rw[hcc]at h2 ht
   simp only[QP.mk.injEq]at h2 ht⊢
   constructor<;>grind
 have hx':(qp b).x-(qp a).x≠0:=by
  show(b.x:Rat)-(a.x:Rat)≠0
  rw[←Rat.intCast_sub];intro h;rw[Rat.intCast_eq_zero_iff]at h;omega
 refine⟨((qp c).x-(qp a).x)/((qp b).x-(qp a).x),?_⟩
 have ht:=Rat.div_mul_cancel (a:=(qp c).x-(qp a).x) hx'
 generalize ((qp c).x-(qp a).x)/((qp b).x-(qp a).x)=t at ht
 have h1:((qp b).x-(qp a).x) *((qp c).y-(qp a).y-((qp b).y-(qp a).y) *t)=0:=by grind
 have h2:(qp c).y-(qp a).y-((qp b).y-(qp a).y) *t=0:=by
  rcases Rat.mul_eq_zero.1 h1 with h|h
  ·exact absurd h hx'
  exact h
 unfold onP qcB q3r q15
 cases hcc:qp c with
 |mk cx cy=>
  rw[hcc]at h2 ht
  simp only[QP.mk.injEq]at h2 ht⊢
  constructor<;>grind
end Go.F

namespace Go.F
theorem quj {a b:Spot}(hab:a≠b){s t:Rat}(h:onP (qp a) (qp b) s=onP (qp a) (qp b) t):s=t:=by
 have hx:(qp a).x+((qp b).x-(qp a).x) *s=(qp a).x+((qp b).x-(qp a).x) *t:=congrArg QP.x h
 have hy:(qp a).y+((qp b).y-(qp a).y) *s=(qp a).y+((qp b).y-(qp a).y) *t:=congrArg QP.y h
 by_cases h1:b.x=a.x
 ·have h2:b.y≠a.y:=fun h=>hab (by cases a;cases b;simp at h1 h⊢;omega)
  have hy':(qp b).y-(qp a).y≠0:=by
   show(b.y:Rat)-(a.y:Rat)≠0
   rw[←Rat.intCast_sub];intro h;rw[Rat.intCast_eq_zero_iff]at h;omega
  have:((qp b).y-(qp a).y) *(s-t)=0:=by grind
  rcases Rat.mul_eq_zero.1 this with h|h
  ·exact absurd h hy'
  grind
 have hx':(qp b).x-(qp a).x≠0:=by
  show(b.x:Rat)-(a.x:Rat)≠0
  rw[←Rat.intCast_sub];intro h;rw[Rat.intCast_eq_zero_iff]at h;omega
 have:((qp b).x-(qp a).x) *(s-t)=0:=by grind
 rcases Rat.mul_eq_zero.1 this with h|h
 ·exact absurd h hx'
 grind
theorem on_on (a b:QP)(s1 s2 t:Rat):onP (onP a b s1) (onP a b s2) t=onP a b (s1+(s2-s1) *t):=by
 unfold onP qcB q3r q15;simp only[QP.mk.injEq];constructor<;>grind
theorem quk (a b:QP):onP a b 0=a:=by
 cases a;unfold onP qcB q3r q15;simp only[QP.mk.injEq];constructor<;>grind
theorem qFp (a b:QP):onP a b 1=b:=by
 cases b;unfold onP qcB q3r q15;simp only[QP.mk.injEq];constructor<;>grind
theorem qe7 {a b c d:Spot}(hab:a≠b)(h1:q14 a b c=0)(h2:q14 a b d=0){s t:Rat}(hs0:0≤s)(hs1:s≤1)(ht0:0≤t)(ht1:t≤1)(he:onP (qp a) (qp b) s=onP (qp c) (qp d) t):
 onS a b c=true∨onS a b d=true∨onS c d a=true:=by
 obtain⟨s1,e1⟩:=qpm hab h1
 obtain⟨s2,e2⟩:=qpm hab h2
 rw[e1,e2,on_on]at he
 have hs:=quj hab he
 by_cases c1:0≤s1∧s1≤1
 ·exact .inl (qio c1.1 c1.2 e1)
 by_cases c2:0≤s2∧s2≤1
 ·exact .inr (.inl (qio c2.1 c2.2 e2))
 have hne:s2-s1≠0:=by
  intro h
  have:s=s1:=by rw[hs,h];grind
  exact c1 ⟨by grind,by grind⟩
 have p1:s-s1=(s2-s1) *t:=by grind
 have p2:s2-s=(s2-s1) *(1-t):=by grind
 have hcase:(s1<0∧1<s2)∨(s2<0∧1<s1):=by
  rcases Rat.le_total (a:=s1) (b:=s2)with h|h
  ·have q1:=Rat.mul_nonneg (show 0≤s2-s1 by grind) ht0
   have q2:=Rat.mul_nonneg (show 0≤s2-s1 by grind) (show 0≤1-t by grind)
   left;grind
  have q1:=Rat.mul_nonneg (show 0≤s1-s2 by grind) ht0
  have q2:=Rat.mul_nonneg (show 0≤s1-s2 by grind) (show 0≤1-t by grind)
  right;grind
 right;right
 have hr:=Rat.div_mul_cancel (a:=0-s1) hne
 have hd:onP (qp c) (qp d) ((0-s1)/(s2-s1))=qp a:=by
  rw[e1,e2,on_on]
  have:s1+(s2-s1) *((0-s1)/(s2-s1))=0:=by grind
  rw[this,quk]
 generalize (0-s1)/(s2-s1)=r at hr hd
 refine qio (s:=r) ?_ ?_ hd.symm
 ·rcases hcase with⟨g1,g2⟩ |⟨g1,g2⟩
  ·by_cases hh:0≤r
   ·exact hh
   have:=Rat.mul_pos (show 0< -r by grind) (show 0<s2-s1 by grind)
   grind
  by_cases hh:0≤r
  ·exact hh
  have:=Rat.mul_pos (show 0< -r by grind) (show 0<s1-s2 by grind)
  grind
 rcases hcase with⟨g1,g2⟩ |⟨g1,g2⟩
 ·by_cases hh:r≤1
  ·exact hh
  have:=Rat.mul_pos (show 0<r-1 by grind) (show 0<s2-s1 by grind)
  grind
 by_cases hh:r≤1
 ·exact hh
 have:=Rat.mul_pos (show 0<r-1 by grind) (show 0<s1-s2 by grind)
 grind
theorem qx5 {x y:Int}(h:(0<x∧y<0)∨(x<0∧0<y)):sgn x*sgn y<0:=by
 unfold sgn
 rcases h with⟨h1,h2⟩ |⟨h1,h2⟩
 ·rw[if_neg (by omega),if_pos h1,if_pos h2];decide
 rw[if_pos h1,if_neg (by omega),if_pos h2];decide
theorem qpn {a b c d:Spot}{s t:Rat}(ht0:0≤t)(ht1:t≤1)(he:onP (qp a) (qp b) s=onP (qp c) (qp d) t):
 (sgn (q14 a b c) *sgn (q14 a b d)<0)∨(q14 a b c=0∧q14 a b d=0)∨(q14 a b c=0∧t=0)∨(q14 a b d=0∧t=1):=by
 have h0:(1-t) *((q14 a b c:Int):Rat)+t*((q14 a b d:Int):Rat)=0:=by
  rw[←qbk,←qbk,←qCM,←he,qlP]
 generalize q14 a b c=x at*
 generalize q14 a b d=y at*
 by_cases hx:x=0
 ·subst hx
  have:t*((y:Int):Rat)=0:=by grind
  rcases Rat.mul_eq_zero.1 this with h|h
  ·exact .inr (.inr (.inl ⟨rfl,h⟩))
  exact .inr (.inl ⟨rfl,Rat.intCast_eq_zero_iff.1 h⟩)
 by_cases hy:y=0
 ·subst hy
  have:(1-t) *((x:Int):Rat)=0:=by grind
  rcases Rat.mul_eq_zero.1 this with h|h
  ·exact .inr (.inr (.inr ⟨rfl,by grind⟩))
  exact absurd (Rat.intCast_eq_zero_iff.1 h) hx
 left
 apply qx5
 rcases Int.lt_or_gt_of_ne hx with h1|h1<;>rcases Int.lt_or_gt_of_ne hy with h2|h2
 ·exfalso
  have g1:(x:Rat)<0:=Rat.intCast_neg_iff.2 h1
  have g2:(y:Rat)<0:=Rat.intCast_neg_iff.2 h2
  rcases Rat.le_iff_lt_or_eq.1 ht0 with h|h
  ·have q1:=Rat.mul_pos h (show 0< -(y:Rat)by grind)
   have q2:=Rat.mul_nonneg (show 0≤1-t by grind) (show 0≤ -(x:Rat)by grind)
   grind
  rw[←h]at h0;grind
 ·right;exact⟨h1,h2⟩
 ·left;exact⟨h1,h2⟩
 exfalso
 have g1:0<(x:Rat):=Rat.intCast_pos.2 h1
 have g2:0<(y:Rat):=Rat.intCast_pos.2 h2
 rcases Rat.le_iff_lt_or_eq.1 ht0 with h|h
 ·have q1:=Rat.mul_pos h g2
  have q2:=Rat.mul_nonneg (show 0≤1-t by grind) (show 0≤(x:Rat)by grind)
  grind
 rw[←h]at h0;grind
theorem qx6 {a b c d:Spot}(hab:a≠b)(hcd:c≠d){s t:Rat}(hs0:0≤s)(hs1:s≤1)(ht0:0≤t)(ht1:t≤1)(he:onP (qp a) (qp b) s=onP (qp c) (qp d) t):q2I a b c d=true:=by
 have key:onS a b c=true∨onS a b d=true∨onS c d a=true∨onS c d b=true∨(q2n a b c d=true∧q2n c d a b=true):=by
  rcases qpn ht0 ht1 he with h|⟨h,h'⟩ |⟨h,h'⟩ |⟨h,h'⟩
  ·rcases qpn hs0 hs1 he.symm with g|⟨g,g'⟩ |⟨g,g'⟩ |⟨g,g'⟩
   ·right;right;right;right
    unfold q2n;simp[h,g]
   ·rcases qe7 hcd g g' ht0 ht1 hs0 hs1 he.symm with k|k|k
    ·exact .inr (.inr (.inl k))
    ·exact .inr (.inr (.inr (.inl k)))
    exact .inl k
   ·subst g';rw[quk]at he;exact .inr (.inr (.inl (qio ht0 ht1 he)))
   subst g';rw[qFp]at he;exact .inr (.inr (.inr (.inl (qio ht0 ht1 he))))
  ·rcases qe7 hab h h' hs0 hs1 ht0 ht1 he with k|k|k
   ·exact .inl k
   ·exact .inr (.inl k)
   exact .inr (.inr (.inl k))
  ·subst h';rw[quk]at he;exact .inl (qio hs0 hs1 he.symm)
  subst h';rw[qFp]at he;exact .inr (.inl (qio hs0 hs1 he.symm))
 unfold q2I
 rcases key with h|h|h|h|⟨h,h'⟩
 ·simp[h]
 ·simp[h]
 ·simp[h]
 ·simp[h]
 simp[h,h']
end Go.F

namespace Go.F
def sm {α:Type} [Add α] [OfNat α 0](f:Nat→α):Nat→α
 |0=>0
 |k+1=>sm f k+f k
theorem qaL {α:Type} [Add α] [OfNat α 0]{f g:Nat→α}{n:Nat}(h:∀j,j<n→f j=g j):sm f n=sm g n:=by
 induction n with
 |zero=>rfl
 |succ k ih=>rw[sm,sm,ih (fun j hj=>h j (by omega)),h k (by omega)]
theorem qB8 {f f' g:Nat→Int}{n:Nat}(h:∀j,j<n→f j-f' j=g (j+1)-g j):sm f n-sm f' n=g n-g 0:=by
 induction n with
 |zero=>simp[sm]
 |succ k ih=>
  have h1:=ih (fun j hj=>h j (by omega))
  have h2:=h k (by omega)
  simp only[sm]
  omega
theorem qFq {f f':Nat→Int}{n o:Nat}(ho:o<n)(h:∀j,j<n→j≠o→f j=f' j):sm f n=sm f' n+(f o-f' o):=by
 induction n with
 |zero=>omega
 |succ k ih=>
  simp only[sm]
  by_cases hk:o=k
  ·subst hk
   rw[qaL (fun j hj=>h j (by omega) (by omega))]
   omega
  rw[ih (by omega) (fun j hj=>h j (by omega)),h k (by omega) (by omega)]
  omega
def crU (U:Nat→Int)(j:Nat)(z:Int):Prop:=(U j≤z∧z<U (j+1))∨(U (j+1)≤z∧z<U j)
instance (U:Nat→Int)(j:Nat)(z:Int):Decidable (crU U j z):=by unfold crU;exact inferInstance
def sgU (U:Nat→Int)(j:Nat):Int:=if U j<U (j+1)then 1 else-1
def yU (U V:Nat→Int)(t:Nat→Rat)(j:Nat)(z:Int):Rat:=(V j:Rat)+t j*((z:Rat)-(U j:Rat))
structure ClU (n:Nat)(U V:Nat→Int)(t:Nat→Rat):Prop where
 cU:U n=U 0
 cV:V n=V 0
 ne:∀j,j<n→U j≠U (j+1)
 yt:∀j,j<n→yU U V t j (U (j+1))=V (j+1)
theorem qB9 (U V:Nat→Int)(t:Nat→Rat)(j:Nat):yU U V t j (U j)=V j:=by
 unfold yU;grind
def upR (U V:Nat→Int)(t:Nat→Rat)(z:Int)(y:Rat)(j:Nat):Int:=if crU U j z∧y<yU U V t j z then sgU U j else 0
def upL (U V:Nat→Int)(t:Nat→Rat)(z:Int)(y:Rat)(j:Nat):Int:=if crU U j (z-1)∧y<yU U V t j z then sgU U j else 0
theorem up_LR {n:Nat}{U V:Nat→Int}{t:Nat→Rat}(h:ClU n U V t)(z:Int)(y:Rat):sm (upL U V t z y) n=sm (upR U V t z y) n:=by
 have:=qB8 (f:=upL U V t z y) (f':=upR U V t z y) (g:=fun m=>if U m=z∧y<(V m:Rat)then 1 else 0) (n:=n) ?_
 ·simp only[h.cU,h.cV]at this
  omega
 intro j hj
 have hne:=h.ne j hj
 have h1:=h.yt j hj
 have h0:=qB9 U V t j
 simp only[upL,upR,crU,sgU]
 by_cases ha:U j=z
 ·have hb:¬U (j+1)=z:=by omega
  rw[ha]at h0
  rw[h0,if_neg (c:=U (j+1)=z∧_) (by omega)]
  by_cases hy:y<(V j:Rat)
  ·simp only[hy,ha,and_true]
   repeat' split
   all_goals first|omega|(simp_all;done) |(simp_all;omega)
  simp[hy]
 by_cases hb:U (j+1)=z
 ·rw[hb]at h1
  rw[h1,if_neg (c:=U j=z∧_) (by omega)]
  by_cases hy:y<(V (j+1):Rat)
  ·simp only[hy,hb,and_true]
   repeat' split
   all_goals first|omega|(simp_all;done) |(simp_all;omega)
  simp[hy]
 rw[if_neg (c:=U j=z∧_) (by omega),if_neg (c:=U (j+1)=z∧_) (by omega)]
 by_cases hy:y<yU U V t j z
 ·simp only[hy,and_true]
  repeat' split
  all_goals first|omega|(simp_all;done) |(simp_all;omega)
 simp[hy]
end Go.F

namespace Go.F
def inU (U:Nat→Int)(j:Nat)(z:Int):Prop:=(U j≤z∧z≤U (j+1))∨(U (j+1)≤z∧z≤U j)
structure SmU (n:Nat)(U V:Nat→Int)(t:Nat→Rat):Prop extends ClU n U V t where
 n3:3≤n
 same:∀i j z,i<n→j<n→i≠j→crU U i z→crU U j z→
  (yU U V t i z≤yU U V t j z∧yU U V t i (z+1)≤yU U V t j (z+1)∧yU U V t i z+yU U V t i (z+1)<yU U V t j z+yU U V t j (z+1))∨
  (yU U V t j z≤yU U V t i z∧yU U V t j (z+1)≤yU U V t i (z+1)∧yU U V t j z+yU U V t j (z+1)<yU U V t i z+yU U V t i (z+1))
 tch:∀i j z,i<n→j<n→i≠j→inU U i z→inU U j z→yU U V t i z=yU U V t j z→
  ∃m m',(m=i∨m=i+1)∧(m'=j∨m'=j+1)∧U m=z∧(m=m'∨(m=0∧m'=n)∨(m=n∧m'=0))
def hU (U V:Nat→Int)(t:Nat→Rat)(j:Nat)(z:Int):Rat:=yU U V t j z+yU U V t j (z+1)
def upM (U V:Nat→Int)(t:Nat→Rat)(z:Int)(i j:Nat):Int:=if crU U j z∧hU U V t i z<hU U V t j z then sgU U j else 0
def wU (n:Nat)(U V:Nat→Int)(t:Nat→Rat)(i:Nat)(z:Int):Int:=(if sgU U i= -1 then 1 else 0)-sm (upM U V t z i) n
theorem sideR {n:Nat}{U V:Nat→Int}{t:Nat→Rat}(h:SmU n U V t){i j:Nat}{z:Int}(hi:i<n)(hj:j<n)(hij:i≠j)(ci:crU U i z)(cj:crU U j z)(hne:yU U V t i z≠yU U V t j z):
 hU U V t i z<hU U V t j z↔yU U V t i z<yU U V t j z:=by
 have:=h.same i j z hi hj hij ci cj
 unfold hU
 constructor<;>intro _<;>grind
theorem sideL {n:Nat}{U V:Nat→Int}{t:Nat→Rat}(h:SmU n U V t){i j:Nat}{z:Int}(hi:i<n)(hj:j<n)(hij:i≠j)(ci:crU U i (z-1))(cj:crU U j (z-1))(hne:yU U V t i z≠yU U V t j z):
 hU U V t i (z-1)<hU U V t j (z-1)↔yU U V t i z<yU U V t j z:=by
 have:=h.same i j (z-1) hi hj hij ci cj
 unfold hU
 rw[show z-1+1=z by omega]at*
 constructor<;>intro _<;>grind
theorem qBa {n:Nat}{U V:Nat→Int}{t:Nat→Rat}(h:SmU n U V t){i j:Nat}{z:Int}(hi:i<n)(hj:j<n)(hij:i≠j)(ci:crU U i z)(cj:crU U j z):
 hU U V t i z<hU U V t j z∨hU U V t j z<hU U V t i z:=by
 have:=h.same i j z hi hj hij ci cj
 unfold hU
 grind
theorem qul {U:Nat→Int}{j:Nat}{z:Int}(h:crU U j z):inU U j z:=by
 unfold crU at h;unfold inU;omega
theorem qzA {U:Nat→Int}{j:Nat}{z:Int}(h:crU U j (z-1)):inU U j z:=by
 unfold crU at h;unfold inU;omega
theorem qCN {n:Nat}{U V:Nat→Int}{t:Nat→Rat}(h:SmU n U V t){i:Nat}{z:Int}(hi:i<n)(c0:crU U i (z-1))(c1:crU U i z):wU n U V t i (z-1)=wU n U V t i z:=by
 have hlt:∀x:Rat,¬x<x:=fun x=>by grind
 have key:∀j,j<n→j≠i→inU U j z→yU U V t i z≠yU U V t j z:=by
  intro j hj hne cj he
  obtain⟨m,m',hm,_,hz,_⟩:=h.tch i j z hi hj (Ne.symm hne) (qul c1) cj he
  unfold crU at c0 c1
  rcases hm with rfl|rfl<;>omega
 have e1:sm (upM U V t (z-1) i) n=sm (upL U V t z (yU U V t i z)) n:=by
  apply qaL
  intro j hj
  unfold upM upL
  by_cases hji:j=i
  ·subst hji;simp[hlt]
  by_cases cj:crU U j (z-1)
  ·have:=sideL h hi hj (Ne.symm hji) c0 cj (key j hj hji (qzA cj))
   simp only[cj,this]
  simp[cj]
 have e2:sm (upM U V t z i) n=sm (upR U V t z (yU U V t i z)) n:=by
  apply qaL
  intro j hj
  unfold upM upR
  by_cases hji:j=i
  ·subst hji;simp[hlt]
  by_cases cj:crU U j z
  ·have:=sideR h hi hj (Ne.symm hji) c1 cj (key j hj hji (qul cj))
   simp only[cj,this]
  simp[cj]
 unfold wU
 rw[e1,e2,up_LR h.toClU]
theorem cr_mid {U:Nat→Int}{j:Nat}{a b z:Int}(h1:crU U j a)(h2:crU U j b)(ha:a≤z)(hb:z≤b):crU U j z:=by
 unfold crU at*;omega
theorem qpo {n:Nat}{U V:Nat→Int}{t:Nat→Rat}(h:SmU n U V t){i:Nat}(hi:i<n)(d:Nat):∀z:Int,crU U i z→crU U i (z+d)→wU n U V t i (z+d)=wU n U V t i z:=by
 induction d with
 |zero=>intro z _ _;simp
 |succ d ih=>
  intro z h1 h2
  have c:=cr_mid (z:=z+d) h1 h2 (by omega) (by omega)
  have e:z+((d+1:Nat):Int)-1=z+d:=by omega
  rw[←qCN h hi (by rw[e];exact c) h2,e,ih z h1 c]
theorem qlR {n:Nat}{U V:Nat→Int}{t:Nat→Rat}(h:SmU n U V t){i:Nat}(hi:i<n){z z':Int}(h1:crU U i z)(h2:crU U i z'):wU n U V t i z'=wU n U V t i z:=by
 rcases Int.le_total z z' with hz|hz
 ·have:=qpo h hi (z'-z).toNat z h1 (by rw[show z+((z'-z).toNat:Int)=z' by omega];exact h2)
  rwa[show z+((z'-z).toNat:Int)=z' by omega]at this
 have:=qpo h hi (z-z').toNat z' h2 (by rw[show z'+((z-z').toNat:Int)=z by omega];exact h1)
 rw[show z'+((z-z').toNat:Int)=z by omega]at this
 exact this.symm
theorem qpp {n:Nat}{U V:Nat→Int}{t:Nat→Rat}(h:SmU n U V t){k e o j:Nat}(hk:1≤k)(hkn:k<n)(heo:(e=k-1∧o=k)∨(e=k∧o=k-1))(hj:j<n)(je:j≠e)(jo:j≠o)
 (ce:inU U e (U k)) (cj:inU U j (U k)):yU U V t e (U k)≠yU U V t j (U k):=by
 intro he
 have hen:e<n:=by omega
 obtain⟨m,m',hm,hm',hz,hq⟩:=h.tch e j (U k) hen hj (Ne.symm je) ce cj he
 have hne:=h.ne e hen
 have:m=k:=by
  rcases heo with⟨rfl,rfl⟩ |⟨rfl,rfl⟩
  ·rcases hm with rfl|rfl
   ·rw[show o-1+1=o by omega]at hne;exact absurd hz hne
   omega
  rcases hm with rfl|rfl
  ·rfl
  exact absurd hz.symm hne
 omega
theorem qip {n:Nat}{U V:Nat→Int}{t:Nat→Rat}(h:SmU n U V t){k e:Nat}(hk:1≤k)(hkn:k<n)(he:e=k-1∨e=k):yU U V t e (U k)=V k:=by
 rcases he with rfl|rfl
 ·have:=h.yt (k-1) (by omega)
  rwa[show k-1+1=k by omega]at this
 exact qB9 U V t e
theorem qx7 {n:Nat}{U V:Nat→Int}{t:Nat→Rat}(h:SmU n U V t){k e o:Nat}(hk:1≤k)(hkn:k<n)(heo:(e=k-1∧o=k)∨(e=k∧o=k-1))(ce:crU U e (U k)):
 sm (upM U V t (U k) e) n=sm (upR U V t (U k) (V k)) n+upM U V t (U k) e o:=by
 have hlt:∀x:Rat,¬x<x:=fun x=>by grind
 have hen:e<n:=by omega
 have ye:=qip h (e:=e) hk hkn (by omega)
 have yo:=qip h (e:=o) hk hkn (by omega)
 rw[qFq (f:=upM U V t (U k) e) (f':=upR U V t (U k) (V k)) (o:=o) (by omega)]
 ·have:upR U V t (U k) (V k) o=0:=by unfold upR;rw[yo];simp[hlt]
  rw[this];omega
 intro j hj hjo
 unfold upM upR
 by_cases hje:j=e
 ·subst hje;rw[ye];simp[hlt]
 by_cases cj:crU U j (U k)
 ·have:=sideR h hen hj (Ne.symm hje) ce cj (qpp h hk hkn heo hj hje hjo (qul ce) (qul cj))
  rw[ye]at this
  simp only[cj,this]
 simp[cj]
theorem qx8 {n:Nat}{U V:Nat→Int}{t:Nat→Rat}(h:SmU n U V t){k e o:Nat}(hk:1≤k)(hkn:k<n)(heo:(e=k-1∧o=k)∨(e=k∧o=k-1))(ce:crU U e (U k-1)):
 sm (upM U V t (U k-1) e) n=sm (upR U V t (U k) (V k)) n+upM U V t (U k-1) e o:=by
 have hlt:∀x:Rat,¬x<x:=fun x=>by grind
 have hen:e<n:=by omega
 have ye:=qip h (e:=e) hk hkn (by omega)
 have yo:=qip h (e:=o) hk hkn (by omega)
 rw[←up_LR h.toClU,qFq (f:=upM U V t (U k-1) e) (f':=upL U V t (U k) (V k)) (o:=o) (by omega)]
 ·have:upL U V t (U k) (V k) o=0:=by unfold upL;rw[yo];simp[hlt]
  rw[this];omega
 intro j hj hjo
 unfold upM upL
 by_cases hje:j=e
 ·subst hje;rw[ye];simp[hlt]
 by_cases cj:crU U j (U k-1)
 ·have:=sideL h hen hj (Ne.symm hje) ce cj (qpp h hk hkn heo hj hje hjo (qzA ce) (qzA cj))
  rw[ye]at this
  simp only[cj,this]
 simp[cj]
end Go.F

namespace Go.F
theorem qx9 {n:Nat}{U V:Nat→Int}{t:Nat→Rat}(h:SmU n U V t){k:Nat}(hk:1≤k)(hkn:k<n){s s':Int}(hs:s=U k∨s=U k-1)(hs':s'=U k∨s'=U k-1)
 (c:crU U (k-1) s) (c':crU U k s'):wU n U V t (k-1) s=wU n U V t k s':=by
 have hn1:=h.ne (k-1) (by omega)
 have hn2:=h.ne k hkn
 have e1:sm (upM U V t s (k-1)) n=sm (upR U V t (U k) (V k)) n+upM U V t s (k-1) k:=by
  rcases hs with rfl|rfl
  ·exact qx7 h hk hkn (.inl ⟨rfl,rfl⟩) c
  exact qx8 h hk hkn (.inl ⟨rfl,rfl⟩) c
 have e2:sm (upM U V t s' k) n=sm (upR U V t (U k) (V k)) n+upM U V t s' k (k-1):=by
  rcases hs' with rfl|rfl
  ·exact qx7 h hk hkn (.inr ⟨rfl,rfl⟩) c'
  exact qx8 h hk hkn (.inr ⟨rfl,rfl⟩) c'
 unfold wU
 rw[e1,e2]
 generalize sm (upR U V t (U k) (V k)) n=B
 have hside:s=s'→hU U V t (k-1) s<hU U V t k s'∨hU U V t k s'<hU U V t (k-1) s:=by
  rintro rfl;exact qBa h (by omega) hkn (by omega) c c'
 unfold upM sgU
 have hkk:k-1+1=k:=by omega
 have c0:=c
 have c0':=c'
 unfold crU at c0 c0'
 rw[hkk]at hn1 c0
 simp only[hkk]
 by_cases a:U (k-1)<U k<;>by_cases b:U k<U (k+1)
 ·have q1:¬crU U k s:=by unfold crU;omega
  have q2:¬crU U (k-1) s':=by unfold crU;rw[hkk];omega
  simp[a,b,q1,q2]
 ·have:s=s':=by omega
  subst this
  have hh:=hside rfl
  simp only[a,b,c,c',if_true,if_false,true_and]
  rcases hh with hh|hh
  ·have:¬hU U V t k s<hU U V t (k-1) s:=by grind
   simp[hh,this];omega
  have:¬hU U V t (k-1) s<hU U V t k s:=by grind
  simp[hh,this];try omega
 ·have:s=s':=by omega
  subst this
  have hh:=hside rfl
  simp only[a,b,c,c',if_true,if_false,true_and]
  rcases hh with hh|hh
  ·have:¬hU U V t k s<hU U V t (k-1) s:=by grind
   simp[hh,this];try omega
  have:¬hU U V t (k-1) s<hU U V t k s:=by grind
  simp[hh,this];try omega
 have q1:¬crU U k s:=by unfold crU;omega
 have q2:¬crU U (k-1) s':=by unfold crU;rw[hkk];omega
 simp[a,b,q1,q2]
theorem qGT {n:Nat}{U V:Nat→Int}{t:Nat→Rat}(h:SmU n U V t):∃c,∀i,i<n→∀z,crU U i z→wU n U V t i z=c:=by
 have h0:=h.ne 0 (by have:=h.n3;omega)
 refine⟨wU n U V t 0 (min (U 0) (U 1)),?_⟩
 intro i
 induction i with
 |zero=>
  intro hi z hz
  exact qlR h hi (by unfold crU;simp only[Nat.zero_add];simp only[Nat.zero_add]at h0;omega) hz
 |succ i ih=>
  intro hi z hz
  have n1:=h.ne i (by omega)
  have n2:=h.ne (i+1) hi
  let s:Int:=if U i<U (i+1)then U (i+1)-1 else U (i+1)
  let s':Int:=if U (i+1)<U (i+1+1)then U (i+1)else U (i+1)-1
  have cs:crU U i s:=by unfold crU;simp only[s];split<;>omega
  have cs':crU U (i+1) s':=by unfold crU;simp only[s'];split<;>omega
  have v:=qx9 h (k:=i+1) (by omega) hi (s:=s) (s':=s') (by simp only[s];split<;>omega) (by simp only[s'];split<;>omega) (by simpa using cs) cs'
  rw[qlR h hi cs' hz,←v]
  simpa using ih (by omega) s cs
end Go.F

namespace Go.F
def qe8 (c:Int):Int→List (Int×Rat)→Prop
 |acc,[]=>acc=0
 |acc,e::r=>acc=(if e.1= -1 then 1 else 0)-c∧qe8 c (acc+e.1) r
def q8x:List (Int×Rat)→Rat
 |[]=>0
 |e::r=>(e.1:Rat) *e.2+q8x r
theorem qBb:∀(l:List (Int×Rat)),qe8 1 0 l→l.Pairwise (fun a b=>b.2<a.2)→(∀e∈l,e.1=1∨e.1= -1)→q8x l≤0∧(l≠[]→q8x l<0)
 |[],_,_,_=>by simp[q8x]
 |[e],h,_,_=>by
  exfalso
  simp only[qe8]at h
  split at h<;>omega
 |e::e'::r,h,hp,hs=>by
  simp only[qe8]at h
  have s1:=hs e (by simp)
  have s2:=hs e' (by simp)
  obtain⟨h1,h2,h3⟩:=h
  have g1:e.1= -1:=by split at h1<;>omega
  have g2:e'.1=1:=by rw[g1]at h2;split at h2<;>omega
  rw[g1,g2]at h3
  have ih:=qBb r (by simpa using h3) (by simp only[List.pairwise_cons]at hp;exact hp.2.2) (fun x hx=>hs x (by simp[hx]))
  have lt:e'.2<e.2:=by simp only[List.pairwise_cons]at hp;exact hp.1 e' (by simp)
  have:q8x (e::e'::r)<0:=by
   simp only[q8x,g1,g2]
   have:=ih.1
   have q1:((-1:Int):Rat)= -1:=rfl
   have q2:((1:Int):Rat)=1:=rfl
   rw[q1,q2]
   grind
  exact⟨by grind,fun _=>this⟩
theorem qBc:∀(l:List (Int×Rat)),qe8 0 0 l→l.Pairwise (fun a b=>b.2<a.2)→(∀e∈l,e.1=1∨e.1= -1)→0≤q8x l∧(l≠[]→0<q8x l)
 |[],_,_,_=>by simp[q8x]
 |[e],h,_,hs=>by
  exfalso
  have s1:=hs e (by simp)
  simp only[qe8]at h
  split at h<;>omega
 |e::e'::r,h,hp,hs=>by
  simp only[qe8]at h
  have s1:=hs e (by simp)
  have s2:=hs e' (by simp)
  obtain⟨h1,h2,h3⟩:=h
  have g1:e.1=1:=by split at h1<;>omega
  have g2:e'.1= -1:=by rw[g1]at h2;split at h2<;>omega
  rw[g1,g2]at h3
  have ih:=qBc r (by simpa using h3) (by simp only[List.pairwise_cons]at hp;exact hp.2.2) (fun x hx=>hs x (by simp[hx]))
  have lt:e'.2<e.2:=by simp only[List.pairwise_cons]at hp;exact hp.1 e' (by simp)
  have:0<q8x (e::e'::r):=by
   simp only[q8x,g1,g2]
   have:=ih.1
   have q1:((-1:Int):Rat)= -1:=rfl
   have q2:((1:Int):Rat)=1:=rfl
   rw[q1,q2]
   grind
  exact⟨by grind,fun _=>this⟩
theorem qsD {l l':List (Int×Rat)}(h:l.Perm l'):q8x l=q8x l':=by
 induction h with
 |nil=>rfl
 |cons x _ ih=>simp only[q8x,ih]
 |swap x y l=>simp only[q8x];grind
 |trans _ _ h1 h2=>rw[h1,h2]
def upS (h:Rat):List (Int×Rat)→Int
 |[]=>0
 |e::r=>(if h<e.2 then e.1 else 0)+upS h r
def qbl:List (Int×Rat)→Int
 |[]=>0
 |e::r=>e.1+qbl r
theorem qFr {h:Rat}{l l':List (Int×Rat)}(hp:l.Perm l'):upS h l=upS h l':=by
 induction hp with
 |nil=>rfl
 |cons x _ ih=>simp only[upS,ih]
 |swap x y l=>simp only[upS];omega
 |trans _ _ h1 h2=>rw[h1,h2]
theorem qCO {l l':List (Int×Rat)}(hp:l.Perm l'):qbl l=qbl l':=by
 induction hp with
 |nil=>rfl
 |cons x _ ih=>simp only[qbl,ih]
 |swap x y l=>simp only[qbl];omega
 |trans _ _ h1 h2=>rw[h1,h2]
theorem qFs {h:Rat}{l:List (Int×Rat)}(hl:∀e∈l,¬h<e.2):upS h l=0:=by
 induction l with
 |nil=>rfl
 |cons e r ih=>simp[upS,ih (fun x hx=>hl x (by simp[hx])),hl e (by simp)]
theorem qpq (h:Rat)(l l':List (Int×Rat)):upS h (l++l')=upS h l+upS h l':=by
 induction l with
 |nil=>simp[upS]
 |cons e r ih=>simp only[List.cons_append,upS,ih];omega
theorem qGU {h:Rat}{l:List (Int×Rat)}(hl:∀e∈l,h<e.2):upS h l=qbl l:=by
 induction l with
 |nil=>rfl
 |cons e r ih=>simp[upS,qbl,ih (fun x hx=>hl x (by simp[hx])),hl e (by simp)]
theorem qlS (l l':List (Int×Rat)):qbl (l++l')=qbl l+qbl l':=by
 induction l with
 |nil=>simp[qbl]
 |cons e r ih=>simp only[List.cons_append,qbl,ih];omega
theorem qFt {c:Int}:∀(r pre:List (Int×Rat)),(pre++r).Pairwise (fun a b=>b.2<a.2)→(∀e∈r,upS e.2 (pre++r)=(if e.1= -1 then 1 else 0)-c)→qbl (pre++r)=0→qe8 c (qbl pre) r
 |[],pre,_,_,ht=>by simpa[qe8]using ht
 |e::r,pre,hp,hu,ht=>by
  have hpp:=List.pairwise_append.1 hp
  have h1:upS e.2 pre=qbl pre:=qGU (fun x hx=>hpp.2.2 x hx e (by simp))
  have h2:upS e.2 (e::r)=0:=by
   apply qFs
   intro x hx
   rcases List.mem_cons.1 hx with rfl|hx
   ·grind
   have:=(List.pairwise_cons.1 hpp.2.1).1 x hx
   grind
  have h3:=hu e (by simp)
  rw[qpq,h1,h2]at h3
  refine⟨by omega,?_⟩
  have e1:pre++e::r=(pre++[e])++r:=by simp
  have:=qFt (c:=c) r (pre++[e]) (by rw[←e1];exact hp) (fun x hx=>by rw[←e1];exact hu x (by simp[hx])) (by rw[←e1];exact ht)
  rw[qlS]at this
  simpa[qbl]using this
theorem qCP {l:List (Int×Rat)}(hd:l.Pairwise (fun a b=>a.2≠b.2)):∃l',l.Perm l'∧l'.Pairwise (fun a b=>b.2<a.2):=by
 refine⟨l.mergeSort (fun a b=>decide (b.2≤a.2)),(List.mergeSort_perm _ _).symm,?_⟩
 have h1:=List.pairwise_mergeSort (le:=fun(a b:Int×Rat)=>decide (b.2≤a.2)) (fun a b c h1 h2=>by simp at*;grind) (fun a b=>by simp;grind) l
 have h2:=((List.mergeSort_perm l (fun a b=>decide (b.2≤a.2))).pairwise_iff (R:=fun a b=>a.2≠b.2) (fun h=>Ne.symm h)).2 hd
 refine(List.pairwise_and_iff.2 ⟨h1,h2⟩).imp ?_
 intro a b ⟨g1,g2⟩
 simp at g1
 grind
end Go.F

namespace Go.F
def q9p (n:Nat)(U V:Nat→Int)(t:Nat→Rat)(z:Int):List (Int×Rat):=((List.range n).filter (fun j=>decide (crU U j z))).map (fun j=>(sgU U j,hU U V t j z))
def qfW (n:Nat)(U V:Nat→Int)(t:Nat→Rat)(z:Int):Rat:=sm (fun j=>if crU U j z then(sgU U j:Rat) *hU U V t j z else 0) n
theorem qxa (l l':List (Int×Rat)):q8x (l++l')=q8x l+q8x l':=by
 induction l with
 |nil=>simp[q8x];grind
 |cons e r ih=>simp only[List.cons_append,q8x,ih];grind
theorem qgx (n:Nat)(U V:Nat→Int)(t:Nat→Rat)(z:Int):q9p (n+1) U V t z=q9p n U V t z++(if crU U n z then [(sgU U n,hU U V t n z)]else []):=by
 unfold q9p
 rw[List.range_succ,List.filter_append,List.map_append]
 congr 1
 by_cases h:crU U n z<;>simp[h]
theorem qsE (n:Nat)(U V:Nat→Int)(t:Nat→Rat)(z:Int):q8x (q9p n U V t z)=qfW n U V t z:=by
 unfold qfW
 induction n with
 |zero=>rfl
 |succ k ih=>
  rw[qgx,qxa,ih,sm]
  by_cases h:crU U k z
  ·simp only[h,if_true,q8x];grind
  simp only[h,if_false,q8x]
theorem qGV (n:Nat)(U V:Nat→Int)(t:Nat→Rat)(z:Int)(i:Nat):upS (hU U V t i z) (q9p n U V t z)=sm (upM U V t z i) n:=by
 induction n with
 |zero=>rfl
 |succ k ih=>
  rw[qgx,qpq,ih,sm]
  unfold upM
  by_cases h:crU U k z
  ·simp only[h,if_true,upS,true_and];omega
  simp only[h,if_false,upS,false_and]
theorem qFu (n:Nat)(U V:Nat→Int)(t:Nat→Rat)(z:Int):qbl (q9p n U V t z)=sm (fun j=>if crU U j z then sgU U j else 0) n:=by
 induction n with
 |zero=>rfl
 |succ k ih=>
  rw[qgx,qlS,ih,sm]
  by_cases h:crU U k z
  ·simp only[h,if_true,qbl];omega
  simp only[h,if_false,qbl]
theorem qFv {n:Nat}{U V:Nat→Int}{t:Nat→Rat}(h:ClU n U V t)(z:Int):sm (fun j=>if crU U j z then sgU U j else 0) n=0:=by
 have:=qB8 (f:=fun j=>if crU U j z then sgU U j else 0) (f':=fun _=>0) (g:=fun m=>if z<U m then 1 else 0) (n:=n) ?_
 ·rw[h.cU]at this
  have h0:sm (fun _=>(0:Int)) n=0:=by
   clear this
   generalize n=m
   induction m with
   |zero=>rfl
   |succ k ih=>rw[sm,ih];rfl
  omega
 intro j _
 unfold sgU
 by_cases c:crU U j z
 ·simp only[c,if_true];unfold crU at c
  repeat' split
  all_goals omega
 simp only[c,if_false];unfold crU at c
 repeat' split
 all_goals omega
theorem qxb {n:Nat}{U V:Nat→Int}{t:Nat→Rat}{z:Int}{e:Int×Rat}(h:e∈q9p n U V t z):∃j,j<n∧crU U j z∧e=(sgU U j,hU U V t j z):=by
 unfold q9p at h
 simp only[List.mem_map,List.mem_filter,List.mem_range,decide_eq_true_eq]at h
 obtain⟨j,⟨h1,h2⟩,h3⟩:=h
 exact⟨j,h1,h2,h3.symm⟩
theorem qGW {n:Nat}{U V:Nat→Int}{t:Nat→Rat}(h:SmU n U V t)(z:Int):(q9p n U V t z).Pairwise (fun a b=>a.2≠b.2):=by
 unfold q9p
 rw[List.pairwise_map,List.pairwise_filter]
 refine List.Pairwise.imp_of_mem ?_ (List.pairwise_lt_range (n:=n))
 intro a b ha hb hab ca cb he
 simp only[decide_eq_true_eq,List.mem_range]at*
 rcases qBa h ha hb (by omega) ca cb with g|g<;>grind
theorem qpr {n:Nat}{U V:Nat→Int}{t:Nat→Rat}(h:SmU n U V t){c:Int}(hc:∀i,i<n→∀z,crU U i z→wU n U V t i z=c)(z:Int):
 ∃l',(q9p n U V t z).Perm l'∧l'.Pairwise (fun a b=>b.2<a.2)∧qe8 c 0 l'∧∀e∈l',e.1=1∨e.1= -1:=by
 obtain⟨l',hp,hs⟩:=qCP (qGW h z)
 refine⟨l',hp,hs,?_,?_⟩
 ·refine qFt (c:=c) l' [] hs ?_ ?_
  ·intro e he
   obtain⟨j,hj,cj,rfl⟩:=qxb (hp.mem_iff.2 he)
   simp only[List.nil_append]
   rw[←qFr hp,qGV,←hc j hj z cj]
   unfold wU
   omega
  rw[List.nil_append,←qCO hp,qFu,qFv h.toClU]
 intro e he
 obtain⟨j,hj,cj,rfl⟩:=qxb (hp.mem_iff.2 he)
 unfold sgU
 simp only
 split<;>simp
theorem qps {l l':List (Int×Rat)}(hp:l.Perm l')(h:l≠[]):l'≠[]:=by
 intro e;subst e;exact h hp.eq_nil
theorem qCQ {n:Nat}{U V:Nat→Int}{t:Nat→Rat}(h:SmU n U V t):
 (∀z,qfW n U V t z≤0∧(∀i,i<n→crU U i z→qfW n U V t z<0))∨(∀z,0≤qfW n U V t z∧(∀i,i<n→crU U i z→0<qfW n U V t z)):=by
 obtain⟨c,hc⟩:=qGT h
 have mem:∀z i,i<n→crU U i z→q9p n U V t z≠[]:=by
  intro z i hi ci he
  have:(sgU U i,hU U V t i z)∈q9p n U V t z:=by
   unfold q9p
   simp only[List.mem_map,List.mem_filter,List.mem_range,decide_eq_true_eq]
   exact⟨i,⟨hi,ci⟩,rfl⟩
  rw[he]at this
  exact absurd this (by simp)
 have c01:c=0∨c=1:=by
  have h0:=h.ne 0 (by have:=h.n3;omega)
  have c0:crU U 0 (min (U 0) (U 1)):=by unfold crU;simp only[Nat.zero_add]at*;omega
  obtain⟨l',hp,hs,ha,_⟩:=qpr h hc (min (U 0) (U 1))
  have:=qps hp (mem _ 0 (by have:=h.n3;omega) c0)
  cases l' with
  |nil=>exact absurd rfl this
  |cons e r=>
   simp only[qe8]at ha
   have:=ha.1
   split at this<;>omega
 rcases c01 with rfl|rfl
 ·right
  intro z
  obtain⟨l',hp,hs,ha,h1⟩:=qpr h hc z
  have k:=qBc l' ha hs h1
  rw[←qsD hp,qsE]at k
  exact⟨k.1,fun i hi ci=>k.2 (qps hp (mem z i hi ci))⟩
 left
 intro z
 obtain⟨l',hp,hs,ha,h1⟩:=qpr h hc z
 have k:=qBb l' ha hs h1
 rw[←qsD hp,qsE]at k
 exact⟨k.1,fun i hi ci=>k.2 (qps hp (mem z i hi ci))⟩
end Go.F

namespace Go.F
theorem sm_add {f g:Nat→Rat}{n:Nat}:sm (fun j=>f j+g j) n=sm f n+sm g n:=by
 induction n with
 |zero=>simp[sm];grind
 |succ k ih=>simp only[sm,ih];grind
theorem sm_zero {n:Nat}:sm (fun _=>(0:Rat)) n=0:=by
 induction n with
 |zero=>rfl
 |succ k ih=>rw[sm,ih];grind
theorem qGX (f:Nat→Nat→Rat)(n N:Nat):sm (fun k=>sm (fun j=>f k j) n) N=sm (fun j=>sm (fun k=>f k j) N) n:=by
 induction N with
 |zero=>simp only[sm];exact sm_zero.symm
 |succ K ih=>simp only[sm];rw[sm_add,ih]
theorem sm_mul {f:Nat→Rat}{n:Nat}(q:Rat):sm (fun j=>q*f j) n=q*sm f n:=by
 induction n with
 |zero=>simp[sm]
 |succ k ih=>simp only[sm,ih];grind
theorem qxc (a b lo:Int)(y0 t:Rat)(hab:a≤b)(hlo:lo≤a)(N:Nat):
 sm (fun k=>if a≤lo+(k:Int)∧lo+(k:Int)<b then(y0+t*(((lo+(k:Int):Int):Rat)-a))+(y0+t*(((lo+(k:Int)+1:Int):Rat)-a))else(0:Rat)) N
  =(((max a (min b (lo+N)):Int):Rat)-a) *(2*y0+t*(((max a (min b (lo+N)):Int):Rat)-a)):=by
 induction N with
 |zero=>
  have:max a (min b (lo+((0:Nat):Int)))=a:=by omega
  rw[this,sm];grind
 |succ k ih=>
  rw[sm,ih]
  by_cases h:a≤lo+(k:Int)∧lo+(k:Int)<b
  ·rw[if_pos h]
   have e1:max a (min b (lo+(k:Int)))=lo+k:=by omega
   have e2:max a (min b (lo+((k+1:Nat):Int)))=lo+k+1:=by omega
   rw[e1,e2]
   generalize lo+(k:Int)=z
   rw[Rat.intCast_add]
   have:((1:Int):Rat)=1:=rfl
   rw[this]
   grind
  rw[if_neg h]
  have e1:max a (min b (lo+((k+1:Nat):Int)))=max a (min b (lo+(k:Int))):=by omega
  rw[e1];grind
theorem qCR {n:Nat}{U V:Nat→Int}{t:Nat→Rat}(h:ClU n U V t){j:Nat}(hj:j<n)(lo:Int)(N:Nat)(h1:lo≤U j)(h2:lo≤U (j+1))(h3:U j≤lo+N)(h4:U (j+1)≤lo+N):
 sm (fun k=>if crU U j (lo+(k:Int))then(sgU U j:Rat) *hU U V t j (lo+(k:Int))else 0) N=((U (j+1)-U j:Int):Rat) *((V j:Rat)+V (j+1)):=by
 have hne:=h.ne j hj
 have hy:=h.yt j hj
 unfold yU at hy
 by_cases hlt:U j<U (j+1)
 ·have hs:sgU U j=1:=by unfold sgU;simp[hlt]
  have e:=qxc (U j) (U (j+1)) lo (V j) (t j) (by omega) h1 N
  rw[show max (U j) (min (U (j+1)) (lo+(N:Int)))=U (j+1)by omega]at e
  rw[qaL (g:=fun k=>if U j≤lo+(k:Int)∧lo+(k:Int)<U (j+1)then((V j:Rat)+t j*(((lo+(k:Int):Int):Rat)-U j))+(V j+t j*(((lo+(k:Int)+1:Int):Rat)-U j))else(0:Rat)),e]
  ·rw[Rat.intCast_sub];grind
  intro k _
  have:crU U j (lo+(k:Int))↔U j≤lo+(k:Int)∧lo+(k:Int)<U (j+1):=by unfold crU;omega
  simp only[this,hs,hU,yU]
  have:((1:Int):Rat)=1:=rfl
  rw[this]
  split<;>grind
 have hs:sgU U j= -1:=by unfold sgU;simp[hlt]
 have e:=qxc (U (j+1)) (U j) lo (V (j+1)) (t j) (by omega) h2 N
 rw[show max (U (j+1)) (min (U j) (lo+(N:Int)))=U j by omega]at e
 rw[qaL (g:=fun k=>(-1) *(if U (j+1)≤lo+(k:Int)∧lo+(k:Int)<U j then((V (j+1):Rat)+t j*(((lo+(k:Int):Int):Rat)-U (j+1)))+(V (j+1)+t j*(((lo+(k:Int)+1:Int):Rat)-U (j+1)))else(0:Rat))),sm_mul,e]
 ·rw[Rat.intCast_sub];grind
 intro k _
 have:crU U j (lo+(k:Int))↔U (j+1)≤lo+(k:Int)∧lo+(k:Int)<U j:=by unfold crU;omega
 simp only[this,hs,hU,yU]
 have:((-1:Int):Rat)= -1:=rfl
 rw[this]
 split<;>grind
theorem qzB {n:Nat}{U V:Nat→Int}{t:Nat→Rat}(h:ClU n U V t)(lo:Int)(N:Nat)(h1:∀j,j≤n→lo≤U j∧U j≤lo+N):
 sm (fun k=>qfW n U V t (lo+(k:Int))) N=((sm (fun j=>U (j+1) *V j-U j*V (j+1)) n:Int):Rat):=by
 unfold qfW
 rw[qGX,qaL (fun j hj=>qCR h hj lo N (h1 j (by omega)).1 (h1 (j+1) (by omega)).1 (h1 j (by omega)).2 (h1 (j+1) (by omega)).2)]
 have key:∀m,sm (fun j=>((U (j+1)-U j:Int):Rat) *((V j:Rat)+V (j+1))) m=((sm (fun j=>U (j+1) *V j-U j*V (j+1)) m+(U m*V m-U 0*V 0):Int):Rat):=by
  intro m
  induction m with
  |zero=>simp[sm]
  |succ k ih=>
   rw[sm,ih,sm]
   simp only[Rat.intCast_add,Rat.intCast_sub,Rat.intCast_mul]
   grind
 rw[key n,h.cU,h.cV]
 congr 1
 omega
theorem qCS {f:Nat→Rat}{N k:Nat}(h:∀j,f j≤0)(hk:k<N)(h2:f k<0):sm f N<0:=by
 have le:∀M,sm f M≤0:=by
  intro M
  induction M with
  |zero=>simp[sm]
  |succ j ih=>rw[sm];have:=h j;grind
 induction N with
 |zero=>omega
 |succ j ih=>
  rw[sm]
  by_cases hj:k=j
  ·subst hj;have:=le k;grind
  have:=ih (by omega);have:=h j;grind
theorem qCT {f:Nat→Rat}{N k:Nat}(h:∀j,0≤f j)(hk:k<N)(h2:0<f k):0<sm f N:=by
 have le:∀M,0≤sm f M:=by
  intro M
  induction M with
  |zero=>simp[sm]
  |succ j ih=>rw[sm];have:=h j;grind
 induction N with
 |zero=>omega
 |succ j ih=>
  rw[sm]
  by_cases hj:k=j
  ·subst hj;have:=le k;grind
  have:=ih (by omega);have:=h j;grind
theorem bounds (U:Nat→Int)(n:Nat):∃(lo:Int) (N:Nat),∀j,j≤n→lo≤U j∧U j≤lo+N:=by
 induction n with
 |zero=>
  refine⟨U 0,0,fun j hj=>?_⟩
  have:j=0:=by omega
  subst this;omega
 |succ k ih=>
  obtain⟨lo,N,h⟩:=ih
  refine⟨min lo (U (k+1)),(max (lo+N) (U (k+1))-min lo (U (k+1))).toNat,?_⟩
  intro j hj
  by_cases e:j=k+1
  ·subst e;omega
  have:=h j (by omega);omega
theorem qGY {n:Nat}{U V:Nat→Int}{t:Nat→Rat}(h:SmU n U V t):sm (fun j=>U (j+1) *V j-U j*V (j+1)) n≠0:=by
 obtain⟨lo,N,hb⟩:=bounds U n
 have e:=qzB h.toClU lo N hb
 have h3:=h.n3
 have hn:=h.ne 0 (by omega)
 have b0:=hb 0 (by omega)
 have b1:=hb 1 (by omega)
 simp only[Nat.zero_add]at hn
 have c0:crU U 0 (lo+(((min (U 0) (U 1))-lo).toNat:Int)):=by unfold crU;simp only[Nat.zero_add];omega
 have hk:((min (U 0) (U 1))-lo).toNat<N:=by omega
 intro hz
 rw[hz]at e
 have e0:((0:Int):Rat)=0:=rfl
 rcases qCQ h with g|g
 ·have:=qCS (f:=fun k=>qfW n U V t (lo+(k:Int))) (fun j=>(g _).1) hk ((g _).2 0 (by omega) c0)
  rw[e,e0]at this;grind
 have:=qCT (f:=fun k=>qfW n U V t (lo+(k:Int))) (fun j=>(g _).1) hk ((g _).2 0 (by omega) c0)
 rw[e,e0]at this;grind
end Go.F

namespace Go.F
def vx (p:List Spot)(i:Nat):Spot:=pt p (i%p.length)
def shU (p:List Spot)(i:Nat):Int:=16777216*(vx p i).x+(vx p i).y
def shV (p:List Spot)(i:Nat):Int:=(vx p i).y
def shT (p:List Spot)(i:Nat):Rat:=((shV p (i+1):Rat)-shV p i)/((shU p (i+1):Rat)-shU p i)
def yR (p:List Spot)(j:Nat)(u:Rat):Rat:=(shV p j:Rat)+shT p j*(u-(shU p j:Rat))
def inR (p:List Spot)(j:Nat)(u:Rat):Prop:=((shU p j:Rat)≤u∧u≤(shU p (j+1):Rat))∨((shU p (j+1):Rat)≤u∧u≤(shU p j:Rat))
theorem q9F (a b:Rat):a≤b∨b≤a:=Rat.le_total
theorem qlT {a b r:Rat}(hb:0≤b)(hb0:b≠0)(h:r*b=a)(ha:0≤a):0≤r:=by
 rcases q9F 0 r with g|g
 ·exact g
 have k:=Rat.mul_nonneg (show 0≤ -r by grind) hb
 have:r*b=0:=by grind
 rcases Rat.mul_eq_zero.1 this with e|e
 ·grind
 exact absurd e hb0
theorem qeL {a b c:Rat}(h:c≠0)(he:a*c=b*c):a=b:=by
 have h1:(a-b) *c=0:=by grind
 rcases Rat.mul_eq_zero.1 h1 with h2|h2
 ·grind
 exact absurd h2 h
theorem qlU {p:List Spot}{i:Nat}(h:i<p.length):vx p i=pt p i:=by unfold vx;rw[Nat.mod_eq_of_lt h]
theorem qum {p:List Spot} [OkP p](hs:q2h p){i:Nat}(hi:i<p.length):shU p i≠shU p (i+1):=by
 have h:=(hs i hi).1.1
 rw[←qlU hi]at h
 have e:pt p ((i+1)%p.length)=vx p (i+1):=rfl
 rw[e]at h
 have b1:OkS (vx p i):=by unfold vx;exact inferInstance
 have b2:OkS (vx p (i+1)):=by unfold vx;exact inferInstance
 have:=b1.bx;have:=b1.byy;have:=b2.bx;have:=b2.byy
 unfold shU
 intro he
 apply h
 generalize vx p i=a at*
 generalize vx p (i+1)=b at*
 cases a;cases b
 simp only[Spot.mk.injEq]at*
 omega
theorem qBd {a b:Int}(h:a≠b):(b:Rat)-(a:Rat)≠0:=by
 rw[←Rat.intCast_sub];intro hh;rw[Rat.intCast_eq_zero_iff]at hh;omega
theorem qxd {p:List Spot}{j:Nat}{u:Rat}(hne:shU p j≠shU p (j+1))(h:inR p j u):
 ∃s:Rat,0≤s∧s≤1∧u=shU p j+((shU p (j+1):Rat)-shU p j) *s∧onP (qp (vx p j)) (qp (vx p (j+1))) s=⟨(u-yR p j u)/16777216,yR p j u⟩:=by
 have hd:=qBd hne
 have hs:=Rat.div_mul_cancel (a:=u-(shU p j:Rat)) hd
 have ht:=Rat.div_mul_cancel (a:=(shV p (j+1):Rat)-shV p j) hd
 refine⟨(u-(shU p j:Rat))/((shU p (j+1):Rat)-shU p j),?_,?_,?_,?_⟩
 ·generalize hS:(u-(shU p j:Rat))/((shU p (j+1):Rat)-shU p j)=s at*
  rcases q9F 0 s with g|g
  ·exact g
  unfold inR at h
  have h1:=Rat.mul_nonneg (show 0≤ -s by grind) (show(0:Rat)≤1 by decide)
  rcases h with⟨h1,h2⟩ |⟨h1,h2⟩
  ·have k:=Rat.mul_nonneg (show 0≤ -s by grind) (show 0≤((shU p (j+1):Rat)-shU p j)by grind)
   have:s*((shU p (j+1):Rat)-shU p j)=0:=by grind
   rcases Rat.mul_eq_zero.1 this with e|e
   ·grind
   exact absurd e hd
  have k:=Rat.mul_nonneg (show 0≤ -s by grind) (show 0≤((shU p j:Rat)-shU p (j+1))by grind)
  have:s*((shU p (j+1):Rat)-shU p j)=0:=by grind
  rcases Rat.mul_eq_zero.1 this with e|e
  ·grind
  exact absurd e hd
 ·generalize hS:(u-(shU p j:Rat))/((shU p (j+1):Rat)-shU p j)=s at*
  rcases q9F s 1 with g|g
  ·exact g
  unfold inR at h
  rcases h with⟨h1,h2⟩ |⟨h1,h2⟩
  ·have k:=Rat.mul_nonneg (show 0≤s-1 by grind) (show 0≤((shU p (j+1):Rat)-shU p j)by grind)
   have:(s-1) *((shU p (j+1):Rat)-shU p j)=0:=by grind
   rcases Rat.mul_eq_zero.1 this with e|e
   ·grind
   exact absurd e hd
  have k:=Rat.mul_nonneg (show 0≤s-1 by grind) (show 0≤((shU p j:Rat)-shU p (j+1))by grind)
  have:(s-1) *((shU p (j+1):Rat)-shU p j)=0:=by grind
  rcases Rat.mul_eq_zero.1 this with e|e
  ·grind
  exact absurd e hd
 ·grind
 have hy:yR p j u=(shV p j:Rat)+((shV p (j+1):Rat)-shV p j) *((u-(shU p j:Rat))/((shU p (j+1):Rat)-shU p j)):=by
  unfold yR shT
  congr 1
  apply qeL hd
  grind
 rw[hy]
 generalize hS:(u-(shU p j:Rat))/((shU p (j+1):Rat)-shU p j)=s at*
 have hu:u=shU p j+((shU p (j+1):Rat)-shU p j) *s:=by grind
 rw[hu]
 have e1:(shU p j:Rat)=16777216*((vx p j).x:Rat)+((vx p j).y:Rat):=by unfold shU;rw[Rat.intCast_add,Rat.intCast_mul];rfl
 have e2:(shU p (j+1):Rat)=16777216*((vx p (j+1)).x:Rat)+((vx p (j+1)).y:Rat):=by unfold shU;rw[Rat.intCast_add,Rat.intCast_mul];rfl
 have e3:(shV p j:Rat)=((vx p j).y:Rat):=rfl
 have e4:(shV p (j+1):Rat)=((vx p (j+1)).y:Rat):=rfl
 rw[e1,e2,e3,e4]
 unfold onP qcB q3r q15 qp
 simp only[QP.mk.injEq]
 refine⟨?_,trivial⟩
 generalize ((vx p j).x:Rat)=a
 generalize ((vx p j).y:Rat)=b
 generalize ((vx p (j+1)).x:Rat)=c
 generalize ((vx p (j+1)).y:Rat)=d
 have k:(16777216:Rat)≠0:=by decide
 apply qeL k
 rw[Rat.div_mul_cancel k]
 grind
theorem qsF {a b c:Spot}(hon1:onS a b c=false)(hon2:onS b c a=false){s t:Rat}(hs0:0≤s)(hs1:s≤1)(ht0:0≤t)(ht1:t≤1)(he:onP (qp a) (qp b) s=onP (qp b) (qp c) t):s=1∧t=0:=by
 have hx:(a.x:Rat)+((b.x:Rat)-a.x) *s=b.x+((c.x:Rat)-b.x) *t:=congrArg QP.x he
 have hy:(a.y:Rat)+((b.y:Rat)-a.y) *s=b.y+((c.y:Rat)-b.y) *t:=congrArg QP.y he
 rcases q9F t (1-s)with h|h
 ·by_cases h0:1-s=0
  ·constructor<;>grind
  exfalso
  have hr:=Rat.div_mul_cancel (a:=t) h0
  have hp:0<1-s:=by grind
  have r0:0≤t/(1-s):=qlT (by grind) h0 hr ht0
  have r1:t/(1-s)≤1:=by
   generalize t/(1-s)=r at*
   rcases q9F r 1 with g|g
   ·exact g
   have k:=Rat.mul_nonneg (show 0≤r-1 by grind) (show 0≤1-s by grind)
   have:(r-1) *(1-s)=0:=by grind
   rcases Rat.mul_eq_zero.1 this with e|e
   ·grind
   exact absurd e h0
  have:onS b c a=true:=by
   refine qio r0 r1 ?_
   generalize t/(1-s)=r at*
   unfold onP qcB q3r q15 qp
   simp only[QP.mk.injEq]
   constructor
   ·apply qeL h0;grind
   apply qeL h0;grind
  rw[hon2]at this;cases this
 by_cases h0:t=0
 ·constructor<;>grind
 exfalso
 have hr:=Rat.div_mul_cancel (a:=1-s) h0
 have r0:0≤(1-s)/t:=qlT ht0 h0 hr (by grind)
 have r1:(1-s)/t≤1:=by
  generalize (1-s)/t=r at*
  rcases q9F r 1 with g|g
  ·exact g
  have k:=Rat.mul_nonneg (show 0≤r-1 by grind) ht0
  have:(r-1) *t=0:=by grind
  rcases Rat.mul_eq_zero.1 this with e|e
  ·grind
  exact absurd e h0
 have:onS a b c=true:=by
  refine qio (s:=1-(1-s)/t) (by grind) (by grind) ?_
  generalize (1-s)/t=r at*
  unfold onP qcB q3r q15 qp
  simp only[QP.mk.injEq]
  constructor
  ·apply qeL h0;grind
  apply qeL h0;grind
 rw[hon1]at this;cases this
theorem qFw {p:List Spot} [OkP p](hs:q2h p)(h3:3≤p.length){i j:Nat}(hj:j<p.length)(hij:i<j){u:Rat}(ci:inR p i u)(cj:inR p j u)(he:yR p i u=yR p j u):
 ∃m m',(m=i∨m=i+1)∧(m'=j∨m'=j+1)∧(shU p m:Rat)=u∧(m=m'∨(m=0∧m'=p.length)∨(m=p.length∧m'=0)):=by
 have hi:i<p.length:=by omega
 obtain⟨s,s0,s1,su,sp⟩:=qxd (qum hs hi) ci
 obtain⟨t,t0,t1,tu,tp⟩:=qxd (qum hs hj) cj
 have hc:onP (qp (vx p i)) (qp (vx p (i+1))) s=onP (qp (vx p j)) (qp (vx p (j+1))) t:=by rw[sp,tp,he]
 by_cases ha:j=i+1
 ·subst ha
  have h2:=(hs i hi).1.2
  have e:pt p ((i+2)%p.length)=vx p (i+1+1):=rfl
  have e':pt p ((i+1)%p.length)=vx p (i+1):=rfl
  rw[←qlU hi,e,e']at h2
  obtain⟨r1,r2⟩:=qsF h2.1 h2.2 s0 s1 t0 t1 hc
  exact⟨i+1,i+1,.inr rfl,.inl rfl,by rw[su,r1];grind,.inl rfl⟩
 by_cases hb:(j+1)%p.length=i
 ·have hj1:j+1=p.length:=by
   rcases Nat.lt_or_ge (j+1) p.length with g|g
   ·rw[Nat.mod_eq_of_lt g]at hb;omega
   omega
  rw[hj1,Nat.mod_self]at hb
  subst hb
  have h2:=(hs j hj).1.2
  have e0:vx p (j+1)=vx p 0:=by unfold vx;rw[hj1,Nat.mod_self,Nat.zero_mod]
  have e:pt p ((j+2)%p.length)=vx p (0+1):=by
   unfold vx
   rw[show j+2=p.length+1 by omega,Nat.add_mod_left]
  have e':pt p ((j+1)%p.length)=vx p (j+1):=rfl
  rw[←qlU hj,e,e',e0]at h2
  rw[e0]at hc
  obtain⟨r1,r2⟩:=qsF h2.1 h2.2 t0 t1 s0 s1 hc.symm
  refine⟨0,j+1,.inl rfl,.inr rfl,?_,.inr (.inl ⟨rfl,hj1⟩)⟩
  rw[su,r2];grind
 exfalso
 have h2:=(hs i hi).2 j hj (by omega) hb
 have n1:=(hs i hi).1.1
 have n2:=(hs j hj).1.1
 have e1:pt p ((i+1)%p.length)=vx p (i+1):=rfl
 have e2:pt p ((j+1)%p.length)=vx p (j+1):=rfl
 rw[←qlU hi,e1]at n1
 rw[←qlU hj,e2]at n2
 rw[←qlU hi,←qlU hj,e1,e2,qx6 n1 n2 s0 s1 t0 t1 hc]at h2
 cases h2
theorem touch {p:List Spot} [OkP p](hs:q2h p)(h3:3≤p.length){i j:Nat}(hi:i<p.length)(hj:j<p.length)(hij:i≠j){u:Rat}(ci:inR p i u)(cj:inR p j u)(he:yR p i u=yR p j u):
 ∃m m',(m=i∨m=i+1)∧(m'=j∨m'=j+1)∧(shU p m:Rat)=u∧(m=m'∨(m=0∧m'=p.length)∨(m=p.length∧m'=0)):=by
 rcases Nat.lt_or_gt_of_ne hij with h|h
 ·exact qFw hs h3 hj h ci cj he
 obtain⟨m,m',h1,h2,h4,h5⟩:=qFw hs h3 hi h cj ci he.symm
 refine⟨m',m,h2,h1,?_,?_⟩
 ·rcases h5 with rfl|⟨rfl,rfl⟩ |⟨rfl,rfl⟩
  ·exact h4
  ·rw[←h4];unfold shU vx;rw[Nat.mod_self,Nat.zero_mod]
  rw[←h4];unfold shU vx;rw[Nat.mod_self,Nat.zero_mod]
 rcases h5 with rfl|⟨rfl,rfl⟩ |⟨rfl,rfl⟩
 ·exact .inl rfl
 ·exact .inr (.inr ⟨rfl,rfl⟩)
 exact .inr (.inl ⟨rfl,rfl⟩)
theorem qsG {p:List Spot}{i:Nat}{z:Int}(c:crU (shU p) i z){u:Rat}(h1:(z:Rat)≤u)(h2:u≤((z+1:Int):Rat)):inR p i u:=by
 unfold crU at c
 unfold inR
 rcases c with⟨a,b⟩ |⟨a,b⟩
 ·left
  have a':(shU p i:Rat)≤(z:Rat):=Rat.intCast_le_intCast.2 a
  have b':((z+1:Int):Rat)≤(shU p (i+1):Rat):=Rat.intCast_le_intCast.2 (by omega)
  exact⟨Rat.le_trans a' h1,Rat.le_trans h2 b'⟩
 right
 have a':(shU p (i+1):Rat)≤(z:Rat):=Rat.intCast_le_intCast.2 a
 have b':((z+1:Int):Rat)≤(shU p i:Rat):=Rat.intCast_le_intCast.2 (by omega)
 exact⟨Rat.le_trans a' h1,Rat.le_trans h2 b'⟩
theorem qFx (p:List Spot)(i:Nat)(z:Int)(l:Rat):yR p i ((z:Rat)+l)=yR p i z+(yR p i ((z+1:Int):Rat)-yR p i z) *l:=by
 unfold yR
 rw[Rat.intCast_add]
 have:((1:Int):Rat)=1:=rfl
 rw[this]
 grind
theorem qxe {p:List Spot} [OkP p](hs:q2h p)(h3:3≤p.length){i j:Nat}(hi:i<p.length)(hj:j<p.length)(hij:i≠j){z:Int}(ci:crU (shU p) i z)(cj:crU (shU p) j z)
 (h1:yR p i z<yR p j z) (h2:yR p j ((z+1:Int):Rat)<yR p i ((z+1:Int):Rat)):False:=by
 generalize hA0:yR p i z=A0 at*
 generalize hA1:yR p i ((z+1:Int):Rat)=A1 at*
 generalize hB0:yR p j z=B0 at*
 generalize hB1:yR p j ((z+1:Int):Rat)=B1 at*
 have hd:(B0-A0)+(A1-B1)≠0:=by grind
 have hl:=Rat.div_mul_cancel (a:=B0-A0) hd
 generalize hL:(B0-A0)/((B0-A0)+(A1-B1))=l at hl
 have l0:0<l:=by
  rcases q9F l 0 with g|g
  ·have:=Rat.mul_nonneg (show 0≤ -l by grind) (show 0≤(B0-A0)+(A1-B1)by grind)
   grind
  by_cases e:l=0
  ·rw[e]at hl;grind
  grind
 have l1:l<1:=by
  rcases q9F 1 l with g|g
  ·have:=Rat.mul_nonneg (show 0≤l-1 by grind) (show 0≤(B0-A0)+(A1-B1)by grind)
   grind
  by_cases e:l=1
  ·rw[e]at hl;grind
  grind
 have e1:((z+1:Int):Rat)=(z:Rat)+1:=by rw[Rat.intCast_add];rfl
 obtain⟨m,_,_,_,hu,_⟩:=touch hs h3 hi hj hij (u:=(z:Rat)+l) (qsG ci (by grind) (by rw[e1];grind)) (qsG cj (by grind) (by rw[e1];grind)) (by
  rw[qFx,qFx,hA0,hA1,hB0,hB1];grind)
 have k1:(z:Rat)<(shU p m:Rat):=by rw[hu];grind
 have k2:(shU p m:Rat)<((z+1:Int):Rat):=by rw[hu,e1];grind
 rw[Rat.intCast_lt_intCast]at k1 k2
 omega
theorem qGZ {p:List Spot} [OkP p](hs:q2h p)(h3:3≤p.length){i j:Nat}(hi:i<p.length)(hj:j<p.length)(hij:i≠j){z:Int}(ci:crU (shU p) i z)(cj:crU (shU p) j z)
 (h1:yR p i z=yR p j z) (h2:yR p i ((z+1:Int):Rat)=yR p j ((z+1:Int):Rat)):False:=by
 have e1:((z+1:Int):Rat)=(z:Rat)+1:=by rw[Rat.intCast_add];rfl
 obtain⟨m,m',a1,a2,a3,a4⟩:=touch hs h3 hi hj hij (qsG ci (by grind) (by rw[e1];grind)) (qsG cj (by grind) (by rw[e1];grind)) h1
 obtain⟨k,k',b1,b2,b3,b4⟩:=touch hs h3 hi hj hij (qsG ci (by rw[e1];grind) (by grind)) (qsG cj (by rw[e1];grind) (by grind)) h2
 have hmk:m≠k:=by
  rintro rfl
  rw[a3,e1]at b3;grind
 have hmk':m'≠k':=by
  rintro rfl
  have q0:∀x y,(x=y∨(x=0∧y=p.length)∨(x=p.length∧y=0))→shU p x=shU p y:=by
   rintro x y (rfl|⟨rfl,rfl⟩ |⟨rfl,rfl⟩)
   ·rfl
   ·unfold shU vx;rw[Nat.mod_self,Nat.zero_mod]
   unfold shU vx;rw[Nat.mod_self,Nat.zero_mod]
  rw[q0 _ _ a4]at a3
  rw[q0 _ _ b4,a3,e1]at b3
  grind
 omega
theorem qzC {p:List Spot} [OkP p](hs:q2h p)(h3:3≤p.length):SmU p.length (shU p) (shV p) (shT p) where
 cU:=by unfold shU vx;rw[Nat.mod_self,Nat.zero_mod]
 cV:=by unfold shV vx;rw[Nat.mod_self,Nat.zero_mod]
 ne:=fun j hj=>qum hs hj
 yt:=fun j hj=>by
  have hd:=qBd (qum hs hj)
  have:=Rat.div_mul_cancel (a:=(shV p (j+1):Rat)-shV p j) hd
  unfold yU shT
  rw[this];grind
 n3:=h3
 same:=fun i j z hi hj hij ci cj=>by
  show(yR p i z≤yR p j z∧yR p i ((z+1:Int):Rat)≤yR p j ((z+1:Int):Rat)∧yR p i z+yR p i ((z+1:Int):Rat)<yR p j z+yR p j ((z+1:Int):Rat))∨(yR p j z≤yR p i z∧yR p j ((z+1:Int):Rat)≤yR p i ((z+1:Int):Rat)∧yR p j z+yR p j ((z+1:Int):Rat)<yR p i z+yR p i ((z+1:Int):Rat))
  have n1:=qxe hs h3 hi hj hij ci cj
  have n2:=qxe hs h3 hj hi (Ne.symm hij) cj ci
  have n3:=qGZ hs h3 hi hj hij ci cj
  generalize yR p i z=A0 at*
  generalize yR p i ((z+1:Int):Rat)=A1 at*
  generalize yR p j z=B0 at*
  generalize yR p j ((z+1:Int):Rat)=B1 at*
  clear hs ci cj
  rcases q9F A0 B0 with h|h<;>rcases q9F A1 B1 with g|g
  ·left;refine⟨h,g,?_⟩
   by_cases e:A0=B0
   ·by_cases e':A1=B1
    ·exact(n3 e e').elim
    grind
   grind
  ·by_cases e:A0=B0
   ·by_cases e':A1=B1
    ·exact(n3 e e').elim
    right;grind
   by_cases e':A1=B1
   ·left;grind
   exact(n1 (by grind) (by grind)).elim
  ·by_cases e:A0=B0
   ·by_cases e':A1=B1
    ·exact(n3 e e').elim
    left;grind
   by_cases e':A1=B1
   ·right;grind
   exact(n2 (by grind) (by grind)).elim
  right;refine⟨h,g,?_⟩
  by_cases e:A0=B0
  ·by_cases e':A1=B1
   ·exact(n3 e e').elim
   grind
  grind
 tch:=fun i j z hi hj hij ci cj he=>by
  have k:∀i,inU (shU p) i z→inR p i (z:Rat):=by
   intro i c
   unfold inU at c
   unfold inR
   simp only[Rat.intCast_le_intCast]
   exact c
  obtain⟨m,m',h1,h2,h4,h5⟩:=touch hs h3 hi hj hij (u:=(z:Rat)) (k i ci) (k j cj) he
  exact⟨m,m',h1,h2,by exact_mod_cast h4,h5⟩
theorem qun (p:List Spot):∀k,k≤p.length→sm (fun j=>shU p (j+1) *shV p j-shU p j*shV p (j+1)) k= -16777216*q2z p k:=by
 intro k
 induction k with
 |zero=>intro _;rfl
 |succ k ih=>
  intro hk
  rw[sm,ih (by omega),q2z]
  have e1:pt p k=vx p k:=(qlU (by omega)).symm
  have e2:pt p ((k+1)%p.length)=vx p (k+1):=rfl
  rw[e1,e2]
  unfold shU shV
  generalize (vx p k).x=a
  generalize (vx p k).y=b
  generalize (vx p (k+1)).x=c
  generalize (vx p (k+1)).y=d
  grind
theorem qH0 {p:List Spot} [OkP p](h3:3≤p.length)(hs:q2h p):qaw p≠0:=by
 have h:=qGY (qzC hs h3)
 rw[qun p p.length (Nat.le_refl _)]at h
 unfold qaw
 intro e
 rw[e]at h
 exact h rfl
theorem qpt {p:List Spot}(h:q1E p=0):q0Z p≠0:=by
 obtain⟨h3,_,hok,_,hs⟩:=q16 h
 unfold q0Z
 rw[if_pos h]
 exact qH0 h3 ((q8z h3).1 hs)
end Go.F

namespace Go.F
theorem qei (a:Int){b:Int}(hb:0<b):q1u (-a) b= -q1u a b:=by
 by_cases h0:a=0
 ·subst h0;rw[Int.neg_zero,qk2 hb];rfl
 unfold q1u
 by_cases h:a<0
 ·rw[if_neg (by omega),if_pos h];simp
 rw[if_pos (by omega),if_neg h];simp
theorem qiD {sg:Int}(hs:sg=1∨sg= -1)(a:Int){b:Int}(hb:0<b):sg*q1u a b=q1u (sg*a) b:=by
 rcases hs with rfl|rfl
 ·rw[Int.one_mul,Int.one_mul]
 rw[Int.neg_mul,Int.neg_mul,Int.one_mul,Int.one_mul,qei a hb]
theorem qA9 {a b:Spot}(ha:q0v a 1048576=true)(hb:q0v b 1048576=true):sqd a b<17592186044416:=by
 rw[q1B]at ha hb
 have e:=q6f a b
 have b1:Bd (b.x-a.x) 2097152:=⟨by omega⟩
 have b2:Bd (b.y-a.y) 2097152:=⟨by omega⟩
 have hb:Bd ((b.x-a.x) *(b.x-a.x)+(b.y-a.y) *(b.y-a.y)) _:=inferInstance
 have:=hb.le
 omega
theorem qej {l:List Edge}{k:Nat}(hk:k<l.length):q0m l=q0m (l.take k)++((eg l k).line.dropLast++q0m (l.drop (k+1))):=by
 have:l=l.take k++(eg l k::l.drop (k+1)):=by
  rw[q41 hk,List.getElem_cons_drop,List.take_append_drop]
 conv=>lhs;rw[this]
 unfold q0m
 rw[List.flatMap_append,List.flatMap_cons]
theorem qaR {l:List Edge}{k j:Nat}(hk:k<l.length)(hj:j+1<(eg l k).line.length):pt (q0m l) ((q0m (l.take k)).length+j)=pt (eg l k).line j:=by
 have e:=qej hk
 have hl:(q0m (l.take k)).length+j<(q0m l).length:=by rw[e];simp;omega
 rw[q0D hl,q0D (by omega)]
 simp only[e]
 rw[List.getElem_append_right (by omega),List.getElem_append_left (by simp;omega),List.getElem_dropLast]
 congr 1
 omega
theorem qpT {l:List Edge}(hc:q0J l=0){k j:Nat}(hk:k<l.length)(hj:j+1<(eg l k).line.length):pt (q0m l) (((q0m (l.take k)).length+j+1)%(q0m l).length)=pt (eg l k).line (j+1):=by
 obtain⟨h2,h16,hfe,hje,hchk⟩:=q11 hc
 have h2l:∀i,i<l.length→2≤(eg l i).line.length:=fun i hi=>(q2k (q2P (q1a hfe hi))).1
 have ht:=congrArg List.length (q3y hk)
 rw[List.length_append,List.length_dropLast]at ht
 by_cases hl:j+2<(eg l k).line.length
 ·have e:=qej hk
  have hlen:(q0m (l.take k)).length+j+1<(q0m l).length:=by rw[e];simp;omega
  rw[Nat.mod_eq_of_lt hlen,Nat.add_assoc]
  exact qaR hk (by omega)
 have hje':=q1a hje hk
 unfold q2E at hje'
 split at hje'
 ·rename_i hq
  rw[show j+1=(eg l k).line.length-1 by omega,hq]
  by_cases hk1:k+1<l.length
  ·have h0:=qaR hk1 (j:=0) (by have:=h2l (k+1) hk1;omega)
   have e:=qej hk1
   have hlen:(q0m (l.take (k+1))).length<(q0m l).length:=by rw[e];simp;have:=h2l (k+1) hk1;omega
   rw[show(q0m (l.take k)).length+j+1=(q0m (l.take (k+1))).length by omega,Nat.mod_eq_of_lt hlen,Nat.mod_eq_of_lt hk1,←h0];rfl
  have hke:k+1=l.length:=by omega
  have h0:=qaR (l:=l) (k:=0) (j:=0) (by omega) (by have:=h2l 0 (by omega);omega)
  have:(q0m (l.take (k+1))).length=(q0m l).length:=by rw[hke,List.take_length]
  rw[show(q0m (l.take k)).length+j+1=(q0m l).length by omega,Nat.mod_self,hke,Nat.mod_self,←h0]
  simp[q0m]
 cases hje'
theorem qmY (l:List Edge)(ws:List Int):∀n,n≤l.length→∀k,k<n→∀j,j+1<(eg l k).line.length→wd (q1X l ws n) ((q0m (l.take k)).length+j)=wd ws k:=by
 intro n
 induction n with
 |zero=>intro _ k hk;omega
 |succ n ih=>
  intro hn k hk j hj
  have hln:=qcF l ws n (by omega)
  rw[q1X]
  by_cases hkn:k<n
  ·rw[←ih (by omega) k hkn j hj]
   have h1:=qcF l ws n (by omega)
   have h2:=q3y (l:=l) (k:=k) (by omega)
   have h3:(q0m (l.take (k+1))).length≤(q0m (l.take n)).length:=by
    have:q0m (l.take (k+1))=q0m ((l.take n).take (k+1)):=by rw[List.take_take,Nat.min_eq_left (by omega)]
    rw[this];exact qdP _
   rw[h2,List.length_append,List.length_dropLast]at h3
   unfold wd
   rw[List.getD_eq_getElem?_getD,List.getElem?_append_left (by omega),List.getD_eq_getElem?_getD]
  obtain rfl:k=n:=by omega
  unfold wd
  rw[List.getD_eq_getElem?_getD,List.getElem?_append_right (by omega),List.getElem?_replicate,if_pos (by omega)]
  rfl
theorem qBm {p:List Spot}(h:q1v p=0){j:Nat}(hj:j+1<p.length):pt p j≠pt p (j+1):=by
 unfold q1v at h
 split at h
 ·cases h
 split at h
 ·cases h
 split at h
 ·cases h
 split at h
 ·rename_i h4;exact h4 j (by omega)
 cases h
theorem qbw {p:List Spot}(h:q1v p=0){j:Nat}(hj:j<p.length):q0v (pt p j) 1048576=true:=by
 rw[q0D hj];exact(q2k h).2.2 _ (List.getElem_mem _)
def sg1 (n:Int):Int:=if n<0 then-1 else 1
theorem qG0 (n:Int):sg1 n=1∨sg1 n= -1:=by unfold sg1;split<;>simp
theorem qv0 {n:Int}(h:n≠0):sg1 n=sgn n:=by
 unfold sg1 sgn
 split
 ·simp[*]
 rename_i h1
 have:¬n<0:=h1
 simp[this,show 0<n by omega]
end Go.F
