/- Parts of the proof, part 49: RG2, Ply3, RG3, RG4, RG5, VExa. -/
import Derived.Test.YtakaifogljbgoaaGreatZ48
import Derived.Test.YtakaifogljbgoaaGreatZ44
set_option linter.all false
namespace Go.F
attribute [local irreducible] IntKind.wrap wpM
set_option maxHeartbeats 4000000 in
theorem q56 (p:Piece)(m:Int)(hc:p.corners.length≤1000000):PU qtx [p.enc,.int .i64 m]=some (encGr (q0q p m)):=by
 refine q0g (fn:=qgJ) rfl (q0a ?_)
 refine gg rfl (q02 rfl rfl (q9C m 100 (by decide) (by decide)) ?_)
 cases hm:inB m 100 with
 |false=>
  refine gg rfl (q0e rfl (gg rfl (q08 rfl rfl rfl trivial ?_)))
  rw[q0q,if_pos hm];rfl
 |true=>
  have hm1:¬inB m 100=false:=by rw[hm];decide
  rw[qeD]at hm
  refine gg rfl (q0j rfl (gg rfl ?_))
  rw[List.length_map,List.length_map]
  refine q01 rfl (fun g1=>?_) (fun g1=>?_)
  ·rw[q0u]at g1
   refine gg rfl (q08 rfl rfl rfl trivial ?_)
   rw[q0q,if_neg hm1,if_pos (by omega)];rfl
  rw[q0z]at g1
  have g1':p.corners.length=p.edges.length:=by omega
  refine gg rfl (q0l (S:=fun k:Nat=>([.int .i64 m,.ptr 1 0 0,q00 p.edges.length,q00 k],[none,some (.row [p.enc] 7),none,none],[0,0,0,0])) (C:=fun k=>k≤p.corners.length∧∀j (hj:j<p.corners.length),j<k→(inB p.corners[j].x 1000&&inB p.corners[j].y 1000)=true) (m:=fun k=>p.corners.length-k) 0 ⟨Nat.zero_le _,fun j _ hj=>by omega⟩ (by omega) ?_ ?_)
  ·exact q03 rfl ⟨rfl,trivial⟩ (by simp[q0k,q00,Piece.enc,edges,qgy,ints])
  rintro k ⟨hk,hin⟩ N hN
  refine gg rfl (q01 rfl (fun e1=>?_) (fun e1=>?_))
  ·rw[q06]at e1
   have hlt:k<p.corners.length:=by omega
   have w1:=wS (n:=k)
   have hx:=q9C (pt p.corners k).x 1000 (by decide) (by decide)
   have hy:=q9C (pt p.corners k).y 1000 (by decide) (by decide)
   have bad:(inB (pt p.corners k).x 1000&&inB (pt p.corners k).y 1000)=false→q0q p m=([],3):=by
    intro h
    rw[q0q,if_neg hm1,if_neg (by omega),if_pos]
    refine q27 hlt ?_
    rw[←q0D hlt,h];rfl
   refine gg rfl (q0i k rfl rfl rfl (q0P hlt) rfl (gg rfl (q02 rfl rfl hx ?_)))
   cases bx:inB (pt p.corners k).x 1000 with
   |false=>
    refine gg rfl (q0h rfl (gg rfl (q0e rfl (gg rfl (q04 (gg rfl (q08 rfl rfl rfl trivial ?_)))))))
    rw[bad (by rw[bx];rfl)];rfl
   |true=>
    refine gg rfl (q0o rfl (gg rfl (q0i k rfl rfl rfl (q0P hlt) rfl (gg rfl (q02 rfl rfl hy ?_)))))
    cases by':inB (pt p.corners k).y 1000 with
    |false=>
     refine gg rfl (q0e rfl (gg rfl (q04 (gg rfl (q08 rfl rfl rfl trivial ?_)))))
     rw[bad (by rw[bx,by'];rfl)];rfl
    |true=>
     refine gg rfl (q0j rfl (gg rfl (q04 (hN (k+1) ⟨hlt,fun j hj hjk=>?_⟩ (by omega) (q03 rfl ⟨rfl,trivial⟩ (by simp[q0k,q00,Piece.enc,edges,qgy,ints,w1]))))))
     by_cases e:j=k
     ·subst e;rw[←q0D hj,bx,by'];rfl
     exact hin j hj (by omega)
  rw[q07]at e1
  obtain rfl:k=p.corners.length:=by omega
  clear hN
  have hany:¬(p.corners.any fun s=>!(inB s.x 1000&&inB s.y 1000))=true:=by
   rw[q1W fun k hk=>by rw[hin k hk hk];rfl];decide
  have hnear:∀s∈p.corners,qhX s 1000:=by
   intro s hs
   obtain⟨j,hj,rfl⟩:=List.getElem_of_mem hs
   have:=hin j hj hj
   rw[Bool.and_eq_true,qeD,qeD]at this
   exact⟨by omega,by omega⟩
  refine gg rfl (q04 (gg rfl (q02 rfl rfl (q7u p.edges) (gg rfl (q01 rfl (fun g2=>?_) (fun g2=>?_))))))
  ·rw[q0u]at g2
   refine gg rfl (q08 rfl rfl rfl trivial ?_)
   rw[q0q,if_neg hm1,if_neg (by omega),if_neg hany,if_pos g2];rfl
  have g2:q0J p.edges=0:=q0z.1 g2
  obtain⟨c1,c2,c3,c4,c5⟩:=q0Z g2
  have hr:q0q p m=if q0J (q3G p m)≠0 then([],q0J (q3G p m))else(q3G p m,0):=by
   rw[q0q,if_neg hm1,if_neg (by omega),if_neg hany,if_neg (by omega)]
  rw[hr]
  have hm2:m.natAbs≤100:=by omega
  refine gg rfl (q0l (S:=fun k:Nat=>([.int .i64 m,.ptr 1 0 0,q00 p.edges.length,.ref 3 0 k,q00 k],[none,some (.row [p.enc] 7),none,some (.row (((List.range k).map (q7a p m)).map Edge.enc) 2),none],[0,0,0,0,0])) (C:=fun k=>k≤p.edges.length) (m:=fun k=>p.edges.length-k) 0 (Nat.zero_le _) (by omega) ?_ ?_)
  ·exact q03 rfl ⟨rfl,rfl,trivial⟩ rfl
  intro k hk N hN
  refine gg rfl (q01 rfl (fun e2=>?_) (fun e2=>?_))
  ·rw[q06]at e2
   have hlt:k<p.edges.length:=by omega
   have w1:=wS (n:=k)
   have hL:=q2P (q18 c3 hlt)
   obtain⟨n2,n40,hw⟩:=q2j hL
   have na:=q8p hnear hm2 (by omega) k
   have nb:=q8p hnear hm2 (by omega) (k+1)
   have mv:=qr5 (eg p.edges k) (q7i p.corners m k) (q7i p.corners m (k+1)) n2 n40 hw na nb
   have hst:(((List.range (k+1)).map (q7a p m)).map Edge.enc)=((List.range k).map (q7a p m)).map Edge.enc++[(q7a p m k).enc]:=by
    rw[List.range_succ,List.map_append,List.map_append];rfl
   have hka:q7i p.corners m k=⟨m*(pt p.corners k).x,m*(pt p.corners k).y⟩:=by unfold q7i;rw[Nat.mod_eq_of_lt (by omega)]
   have hkb:q7i p.corners m (k+1)=⟨m*(pt p.corners ((k+1)%p.edges.length)).x,m*(pt p.corners ((k+1)%p.edges.length)).y⟩:=by unfold q7i;rw[g1']
   have hge:q7a p m k=⟨(eg p.edges k).name,qtp (eg p.edges k).line ⟨m*(pt p.corners k).x,m*(pt p.corners k).y⟩ ⟨m*(pt p.corners ((k+1)%p.edges.length)).x,m*(pt p.corners ((k+1)%p.edges.length)).y⟩⟩:=by unfold q7a;rw[hka,hkb]
   rw[hge]at hst
   have hml:(k+1)%p.edges.length<p.corners.length:=by rw[g1'];exact Nat.mod_lt _ (by omega)
   have hrem:(((k+1:Nat):Int)).tmod (p.edges.length:Nat)=(((k+1)%p.edges.length:Nat):Int):=by rw[Int.tmod_eq_emod_of_nonneg (by omega)];omega
   rw[hka,hkb]at mv
   rw[hka]at na
   rw[hkb]at nb
   obtain⟨na1,na2⟩:=na
   obtain⟨nb1,nb2⟩:=nb
   simp only at na1 na2 nb1 nb2
   generalize (k+1)%p.edges.length=k2 at*
   have wa:=ww (x:=m*(pt p.corners k).x)
   have wb:=ww (x:=m*(pt p.corners k).y)
   have wc:=ww (x:=m*(pt p.corners k2).x)
   have wd:=ww (x:=m*(pt p.corners k2).y)
   refine gg rfl (q0i k rfl rfl rfl (q0P (by omega)) rfl ?_)
   refine gg rfl ?_
   rw[w1]
   refine q37 rfl rfl (by omega) ?_
   rw[hrem]
   refine gg rfl (q0i k2 rfl rfl rfl (q0P hml) rfl (gg rfl (q0i k rfl rfl rfl (q1O hlt) rfl (gg rfl ?_))))
   rw[wa,wb,wc,wd]
   refine q02 rfl rfl mv (gg rfl (q1f rfl rfl rfl rfl rfl rfl (by simp) (Nat.zero_le _) (by simp[q0M];omega) ?_))
   refine gg rfl (q04 (hN (k+1) hlt (by omega) (q03 rfl ⟨rfl,?_,trivial⟩ ?_)))
   ·rw[List.all_append,q05 q39];rfl
   rw[hst];simp[q0k,edges,q00,w1];rfl
  rw[q07]at e2
  obtain rfl:k=p.edges.length:=by omega
  have hgl:(q3G p m).length=p.edges.length:=by simp[q3G]
  refine gg rfl (q04 (gg rfl (q6L rfl rfl ⟨q2D (by simp) (q0X q5M _),trivial⟩ (by rw[q2E (by simp)];exact q7u (q3G p m)) rfl ?_)))
  refine gg rfl (q01 rfl (fun g3=>?_) (fun g3=>?_))
  ·rw[q0u]at g3
   refine gg rfl (q08 rfl rfl rfl trivial ?_)
   rw[if_pos g3];rfl
  rw[q0z]at g3
  refine gg rfl (q08 rfl rfl rfl ⟨q2D (by simp) (q0X q5M _),trivial⟩ ?_)
  rw[q2E (by simp),if_neg (by simp[g3])];rfl
end Go.F

namespace Go.F
attribute [local irreducible] IntKind.wrap wpM
theorem qup (p:List Spot)(h:q1t p=0):PU qwE [q0k p]=some (.int .i64 (q36 p (p.length-1))):=by
 obtain⟨n2,n40,_⟩:=q2j h
 have hin:∀i,i<p.length→q0v (pt p i) 1048576=true:=fun i hi=>qbp h hi
 refine q0g (fn:=qln) rfl (q0a ?_)
 refine gg rfl (q0l (S:=fun k:Nat=>([q0k p,q00 (q36 p k),q00 (k+1:Nat)],[none,none,none],[0,0,0])) (C:=fun k=>k≤p.length-1) (m:=fun k=>p.length-k) 0 (Nat.zero_le _) (by omega) ?_ ?_)
 ·exact q03 rfl trivial (by simp[q0k,q00,q36])
 intro k hk N hN
 refine gg rfl ?_
 rw[List.length_map]
 refine q01 rfl (fun g1=>?_) (fun g1=>?_)
 ·rw[q06]at g1
  have hlt:k+1<p.length:=by omega
  have w0:IntKind.i64.wrap (((k+1:Nat):Int)-1)=(k:Int):=by rw[wrap64 (by omega) (by omega)];omega
  have w1:=ww (x:=(k:Int)+1+1)
  have hin1:=hin k (by omega)
  have hin2:=hin (k+1) hlt
  have hsl':=qun hin1 hin2
  have hle:=qpw hin k (by omega)
  have w2:IntKind.i64.wrap ((q36 p k:Int)+(qeU (pt p k) (pt p (k+1)):Int))=(q36 p (k+1):Int):=by rw[wrap64 (by omega) (by omega)];rfl
  refine gg rfl (q0i k rfl rfl w0 (q0P (by omega)) rfl ?_)
  refine gg rfl (q0i (k+1) rfl rfl rfl (q0P hlt) rfl (gg rfl (q02 rfl rfl (qpx (pt p k) (pt p (k+1)) hin1 hin2) (gg rfl ?_))))
  rw[w2]
  exact q04 (hN (k+1) (by omega) (by omega) (q03 rfl trivial (by simp[q0k,q00,w1])))
 rw[q07]at g1
 obtain rfl:k=p.length-1:=by omega
 exact gg rfl (q04 (gg rfl (q08 rfl rfl rfl trivial rfl)))
end Go.F

namespace Go.F
attribute [local irreducible] IntKind.wrap wpM
theorem qfS (p:List Spot):PU qtG [q0k p]=some (.tup [.int .i64 (q15 p).1,.int .i64 (q15 p).2]):=by
 refine q0g (fn:=qhx) rfl (q0a ?_)
 refine gg rfl (q02 rfl rfl (qit p) (gg rfl (q01 rfl (fun h=>?_) (fun h=>?_))))
 ·rw[q0u]at h
  refine gg rfl (q08 rfl rfl rfl trivial ?_)
  rw[q15,if_neg h]
 rw[q0z]at h
 refine gg rfl (q02 rfl rfl (qup p h) (gg rfl (q08 rfl rfl rfl trivial ?_)))
 rw[q15,if_pos h]
theorem qzN {A rest c bit:Nat}(hc:0<c):2*(A*rest/c)+(2*(A*rest%c)+bit*rest)/c=(2*A+bit) *rest/c∧(2*(A*rest%c)+bit*rest)%c=(2*A+bit) *rest%c:=by
 have h1:=Nat.div_add_mod (A*rest) c
 have e:(2*A+bit) *rest=(2*(A*rest%c)+bit*rest)+c*(2*(A*rest/c)):=by
  have:(2*A+bit) *rest=2*(A*rest)+bit*rest:=by rw[Nat.add_mul,Nat.mul_assoc]
  rw[this]
  generalize A*rest=X at*
  generalize X/c=q at*
  generalize X%c=r at*
  rw[←h1,Nat.mul_add]
  rw[←Nat.mul_assoc c 2 q,Nat.mul_comm c 2,Nat.mul_assoc]
  omega
 rw[e,Nat.add_mul_div_left _ _ hc,Nat.add_mul_mod_self_left]
 exact⟨Nat.add_comm _ _,rfl⟩
theorem qDd (a k:Nat)(hk:k≤40):a/2^(40-k)=2*(a/2^(41-k))+a/2^(40-k)%2:=by
 have e:41-k=40-k+1:=by omega
 rw[e,Nat.pow_succ,←Nat.div_div_eq_div_mul]
 omega
set_option maxHeartbeats 4000000 in
theorem qur (a b c:Nat)(hc:0<c)(hc2:c≤1099511627776)(hb:b≤1099511627776)(ha:a≤c):
 PU qwF [.int .i64 a,.int .i64 b,.int .i64 c]=some (.int .i64 (q1s ((a:Int) *b) c)):=by
 have hr:=qmK (a:=a*b) hc
 rw[Int.natCast_mul]at hr
 rw[hr]
 have e1:((b:Int)).tdiv (c:Int)=((b/c:Nat):Int):=by rw[Int.tdiv_eq_ediv_of_nonneg (by omega)];rfl
 have e2:((b:Int)).tmod (c:Int)=((b%c:Nat):Int):=by rw[Int.tmod_eq_emod_of_nonneg (by omega)];rfl
 have hdm:=Nat.div_add_mod b c
 have hrest:=Nat.mod_lt b hc
 have hW:a*(b/c)≤b:=Nat.le_trans (Nat.mul_le_mul_right _ ha) (by rw[Nat.mul_comm];exact Nat.div_mul_le_self b c)
 have hW2:b/c≤b:=Nat.div_le_self _ _
 have hab:a*b=a*(b%c)+c*(a*(b/c)):=by
  conv=>lhs;rw[←hdm]
  rw[Nat.mul_add,←Nat.mul_assoc,Nat.mul_comm a c,Nat.mul_assoc,Nat.add_comm]
 have hq:a*b/c=a*(b/c)+a*(b%c)/c:=by rw[hab,Nat.add_mul_div_left _ _ hc,Nat.add_comm]
 have hm:a*b%c=a*(b%c)%c:=by rw[hab,Nat.add_mul_mod_self_left]
 rw[hq,hm]
 generalize b/c=wh at*
 generalize b%c=rest at*
 clear hr hab hq hm hdm
 have w0:=ww (x:=(wh:Int))
 have w1:IntKind.i64.wrap ((a:Int) *(wh:Int))=((a*wh:Nat):Int):=by
  rw[←Int.natCast_mul]
  generalize a*wh=x at*
  exact wrap64 (by omega) (by omega)
 have hpow:a/2^41=0:=Nat.div_eq_of_lt (by omega)
 refine q0g (fn:=qkl) rfl (q0a ?_)
 refine gg rfl (qeh rfl rfl (by omega) ?_)
 rw[e1,w0]
 refine gg rfl (q37 rfl rfl (by omega) ?_)
 rw[e2]
 refine gg rfl ?_
 rw[w1]
 refine q0l (S:=fun k:Nat=>([.int .i64 a,.int .i64 c,.int .i64 rest,.int .i64 ((a*wh:Nat):Int),.int .i64 ((a/2^(41-k) *rest/c:Nat):Int),.int .i64 ((a/2^(41-k) *rest%c:Nat):Int),.int .i64 (40-(k:Int))],[none,none,none,none,none,none,none],[0,0,0,0,0,0,0])) (C:=fun k=>k≤41) (m:=fun k=>41-k) 0 (Nat.zero_le _) (by omega) ?_ ?_
 ·refine q03 rfl trivial ?_
  show _=([D.int .i64 a,.int .i64 c,.int .i64 rest,.int .i64 ((a*wh:Nat):Int),.int .i64 ((a/2^41*rest/c:Nat):Int),.int .i64 ((a/2^41*rest%c:Nat):Int),.int .i64 (40-((0:Nat):Int))],_,_)
  rw[hpow]
  simp
 intro k hk N hN
 refine gg rfl (q01 rfl (fun g=>?_) (fun g=>?_))
 ·rw[q0G]at g
  have hk40:k≤40:=by omega
  have hh:=qDd a k hk40
  have hB:a/2^(40-k)≤a:=Nat.div_le_self _ _
  have hbit:a/2^(40-k)%2<2:=Nat.mod_lt _ (by decide)
  have hs:=qzN (A:=a/2^(41-k)) (rest:=rest) (c:=c) (bit:=a/2^(40-k)%2) hc
  rw[←hh]at hs
  have hl:=Nat.mod_lt (a/2^(41-k) *rest) hc
  have hq:a/2^(40-k) *rest/c≤a:=Nat.le_trans (Nat.div_le_of_le_mul (by rw[Nat.mul_comm];exact Nat.mul_le_mul_right _ (by omega))) hB
  have sh:IntKind.u64.wrap (40-(k:Int))=((40-k:Nat):Int):=by
   rw[show(40-(k:Int))=((40-k:Nat):Int)by omega];exact q0C (by omega)
  have ek:(40-((k+1:Nat):Int))=40-(k:Int)-1:=by omega
  have wk:=ww (x:=40-(k:Int)-1)
  have e41:41-(k+1)=40-k:=by omega
  generalize hX:a/2^(40-k) *rest/c=q' at*
  generalize hY:a/2^(40-k) *rest%c=l' at*
  generalize a/2^(41-k) *rest/c=q at*
  generalize a/2^(41-k) *rest%c=l at*
  obtain⟨hs1,hs2⟩:=hs
  have h2q:2*q≤q':=by rw[←hs1];exact Nat.le_add_right _ _
  have w2:=ww (x:=2*(q:Int))
  have w3:=ww (x:=2*(l:Int))
  refine gg rfl ?_
  rw[w2,w3,sh]
  refine q17 a (40-k) rfl rfl rfl rfl (by show 40-k≤64;omega) ?_
  generalize hBB:a/2^(40-k)=B at*
  have e3:((B:Nat):Int).tmod 2=((B%2:Nat):Int):=by rw[Int.tmod_eq_emod_of_nonneg (by omega)];rfl
  have fin:∀L:Nat,L=2*l+B%2*rest→((L:Int)).tdiv (c:Int)=((L/c:Nat):Int)∧((L:Int)).tmod (c:Int)=((l':Nat):Int)∧L/c≤L∧2*q+L/c=q':=by
   rintro L rfl
   refine⟨by rw[Int.tdiv_eq_ediv_of_nonneg (by omega)];rfl,?_,Nat.div_le_self _ _,hs1⟩
   rw[Int.tmod_eq_emod_of_nonneg (by omega),←hs2];rfl
  refine gg rfl (q37 rfl rfl (by decide) ?_)
  rw[e3]
  refine gg rfl (q01 rfl (fun f=>?_) (fun f=>?_))
  ·rw[q1n]at f
   have f:B%2=1:=by omega
   have hf:=fin (2*l+rest) (by rw[f];omega)
   have w4:IntKind.i64.wrap (2*(l:Int)+(rest:Int))=((2*l+rest:Nat):Int):=by rw[wrap64 (by omega) (by omega)];omega
   obtain⟨f1,f2,f3,f4⟩:=hf
   refine gg rfl ?_
   rw[w4]
   refine qeh rfl rfl (by omega) ?_
   rw[f1]
   generalize (2*l+rest)/c=v at*
   have w5:=ww (x:=(v:Int))
   rw[w5]
   have w6:IntKind.i64.wrap (2*(q:Int)+(v:Int))=(q':Int):=by rw[wrap64 (by omega) (by omega)];omega
   refine gg rfl ?_
   rw[w6]
   refine q37 rfl rfl (by omega) ?_
   rw[f2]
   refine gg rfl (q04 (hN (k+1) (by omega) (by omega) (q03 rfl trivial ?_)))
   rw[e41,hBB,hX,hY,ek,wk]
  rw[q20]at f
  have f:B%2=0:=by omega
  have hf:=fin (2*l) (by rw[f];omega)
  obtain⟨f1,f2,f3,f4⟩:=hf
  have el:(2*(l:Int))=((2*l:Nat):Int):=by omega
  refine gg rfl ?_
  rw[el]
  refine qeh rfl rfl (by omega) ?_
  rw[f1]
  generalize (2*l)/c=v at*
  have w5:=ww (x:=(v:Int))
  rw[w5]
  have w6:IntKind.i64.wrap (2*(q:Int)+(v:Int))=(q':Int):=by rw[wrap64 (by omega) (by omega)];omega
  refine gg rfl ?_
  rw[w6]
  refine q37 rfl rfl (by omega) ?_
  rw[f2]
  refine gg rfl (q04 (hN (k+1) (by omega) (by omega) (q03 rfl trivial ?_)))
  rw[e41,hBB,hX,hY,ek,wk]
 rw[q0H]at g
 obtain rfl:k=41:=by omega
 clear hN
 have e0:a/2^(41-41)=a:=by simp
 rw[e0]
 have hl:=Nat.mod_lt (a*rest) hc
 have hq:a*rest/c≤a:=Nat.div_le_of_le_mul (by rw[Nat.mul_comm];exact Nat.mul_le_mul_right _ (by omega))
 generalize a*rest/c=q at*
 generalize a*rest%c=l at*
 have w2:=ww (x:=2*(l:Int))
 refine gg rfl (q04 (gg rfl ?_))
 rw[w2]
 refine q01 rfl (fun f=>?_) (fun f=>?_)
 ·rw[q0G]at f
  rw[if_pos (by omega)]
  have w3:=ww (x:=(q:Int)+1)
  have w4:IntKind.i64.wrap (((a*wh:Nat):Int)+((q:Int)+1))=((a*wh+q+1:Nat):Int):=by rw[wrap64 (by omega) (by omega)];omega
  refine gg rfl ?_
  rw[w3,w4]
  exact q08 rfl rfl rfl trivial rfl
 rw[q0H]at f
 rw[if_neg (by omega)]
 have w4:IntKind.i64.wrap (((a*wh:Nat):Int)+(q:Int))=((a*wh+q+0:Nat):Int):=by rw[wrap64 (by omega) (by omega)];omega
 refine gg rfl ?_
 rw[w4]
 exact q08 rfl rfl rfl trivial rfl
theorem qpz (fr to:Int)(rev:Bool)(at_:Int):PU qqC [.int .i64 fr,.int .i64 to,.bool rev,.int .i64 at_]=some (.tup [.int .i64 (q3x fr to rev at_).1,.int .i64 (q3x fr to rev at_).2]):=by
 by_cases hb:q4x fr to at_
 ·rw[q3x,if_pos hb]
  unfold q4x at hb
  refine q0g (fn:=q9v) rfl (q0a ?_)
  repeat' (first
   |refine goP 800 rfl rfl ?_
   |refine q0h rfl ?_|refine q0o rfl ?_|refine q09 rfl (fun _=>?_) (fun _=>?_)
   |refine q0e rfl ?_|refine q0j rfl ?_|refine q01 rfl (fun _=>?_) (fun _=>?_)
   |refine q0L rfl (fun _=>?_) (fun _=>?_)
   |refine q08 rfl rfl rfl trivial ?_)
  all_goals first
   |rfl
   |(exfalso;simp only[q06,q07]at*;omega)
 rw[q3x,if_neg hb]
 unfold q4x at hb
 obtain⟨F,rfl⟩:∃n:Nat,fr=n:=⟨fr.toNat,by omega⟩
 obtain⟨T,rfl⟩:∃n:Nat,to=n:=⟨to.toNat,by omega⟩
 obtain⟨A,rfl⟩:∃n:Nat,at_=n:=⟨at_.toNat,by omega⟩
 have hs:=qur A T F (by omega) (by omega) (by omega) (by omega)
 have hr:=qmK (a:=A*T) (b:=F) (by omega)
 rw[Int.natCast_mul]at hr
 have hquo:A*T/F≤T:=Nat.div_le_of_le_mul (Nat.mul_le_mul_right _ (by omega))
 have hR:0≤q1s ((A:Int) *T) F∧q1s ((A:Int) *T) F≤T+1:=by
  rw[hr]
  generalize A*T/F=x at*
  split<;>omega
 generalize q1s ((A:Int) *T) F=R at*
 have w7:=ww (x:=(T:Int)-R)
 have no:∀{x y:Int} {P:Prop},¬x<y→ltb x y=true→P:=fun h g=>absurd (q06.1 g) h
 refine q0g (fn:=q9v) rfl (q0a ?_)
 refine gg rfl (q09 rfl (no (by omega)) (fun _=>?_))
 refine gg rfl (q09 rfl (no (by omega)) (fun _=>?_))
 refine gg rfl (q09 rfl (no (by omega)) (fun _=>?_))
 refine gg rfl (q09 rfl (no (by omega)) (fun _=>?_))
 refine gg rfl (q09 rfl (no (by omega)) (fun _=>?_))
 refine gg rfl (q01 rfl (no (by omega)) (fun _=>?_))
 refine gg rfl (q02 rfl rfl hs (gg rfl ?_))
 cases rev with
 |true=>
  refine q0e rfl (gg rfl ?_)
  rw[w7]
  exact q08 rfl rfl rfl trivial rfl
 |false=>
  exact q0j rfl (gg rfl (q08 rfl rfl rfl trivial rfl))
theorem qxs {l:List Edge}(h:q0J l=0){k:Nat}(hk:k<l.length):q1t (eg l k).line=0:=q2P (q18 (q0Z h).2.2.1 hk)
set_option maxHeartbeats 4000000 in
theorem q9D (p:Piece)(m:Int)(hc:p.corners.length≤1000000):
 PU qtA [p.enc,.int .i64 m]=some (.tup [ints (q0R p m).1,.int .i64 (q0R p m).2]):=by
 refine q0g (fn:=qgL) rfl (q0a ?_)
 refine gg rfl (q02 rfl rfl (q56 p m hc) (gg rfl (q01 rfl (fun h=>?_) (fun h=>?_))))
 ·rw[q0u]at h
  refine gg rfl (q08 rfl rfl rfl trivial ?_)
  rw[q0R,if_pos h];rfl
 have h:(q0q p m).2=0:=q0z.1 h
 obtain⟨hg,hck1,hck2,_⟩:=q2s h
 have hr:q0R p m=if 16<p.notches.length then([],5)
  else if q2y p (q0q p m).1 p.notches≠0 then([],q2y p (q0q p m).1 p.notches)
  else(p.notches.map fun n=>(q1u p (q0q p m).1 n).1,0):=by rw[q0R,if_neg (by omega)]
 rw[hr]
 generalize (q0q p m).1=G at*
 refine gg rfl ?_
 rw[List.length_map]
 refine q01 rfl (fun h2=>?_) (fun h2=>?_)
 ·rw[q06]at h2
  refine gg rfl (q08 rfl rfl rfl trivial ?_)
  rw[if_pos (by omega)];rfl
 rw[q07]at h2
 rw[if_neg (by omega)]
 refine gg rfl (q0l (S:=fun k:Nat=>([.ptr 0 0 0,edges G,.ref 2 0 k,q00 k],[some (.row [p.enc] 7),none,some (.row (((p.notches.take k).map fun n=>(q1u p G n).1).map q00) 1),none],[0,0,0,0])) (C:=fun k=>k≤p.notches.length∧q2y p G p.notches=q2y p G (p.notches.drop k)) (m:=fun k=>p.notches.length-k) 0 ⟨Nat.zero_le _,rfl⟩ (by omega) ?_ ?_)
 ·exact q03 rfl ⟨rfl,rfl,trivial⟩ rfl
 rintro k ⟨hk,hke⟩ N hN
 refine gg rfl ?_
 rw[List.length_map]
 refine q01 rfl (fun e1=>?_) (fun e1=>?_)
 ·rw[q06]at e1
  have hlt:k<p.notches.length:=by omega
  have w1:=wS (n:=k)
  have hdr:p.notches.drop k=nt p.notches k::p.notches.drop (k+1):=by rw[List.drop_eq_getElem_cons hlt,quZ hlt]
  have hst:(((p.notches.take (k+1)).map fun n=>(q1u p G n).1).map q00)=((p.notches.take k).map fun n=>(q1u p G n).1).map q00++[q00 (q1u p G (nt p.notches k)).1]:=by
   rw[List.take_succ_eq_append_getElem hlt,List.map_append,List.map_append,quZ hlt];rfl
  have hne:=qv0 hlt
  rw[hdr,q2y]at hke
  generalize nt p.notches k=n at*
  have bad:(q1u p G n).2≠0→q2y p G p.notches=(q1u p G n).2:=fun h=>by rw[hke,if_neg h]
  refine gg rfl (q0i k rfl rfl rfl hne rfl (gg rfl (q09 rfl (fun f1=>?_) (fun f1=>?_))))
  ·rw[q06]at f1
   have hn:q1u p G n=(0,3):=by rw[q1u,if_pos (.inl f1)]
   rw[hn]at bad
   refine gg rfl (q0e rfl (gg rfl (q04 (gg rfl (q08 rfl rfl rfl trivial ?_)))))
   rw[bad (by decide)];rfl
  rw[q07]at f1
  refine gg rfl ?_
  rw[List.length_map]
  refine q01 rfl (fun f2=>?_) (fun f2=>?_)
  ·rw[q0G]at f2
   have hn:q1u p G n=(0,3):=by rw[q1u,if_pos (.inr f2)]
   rw[hn]at bad
   refine gg rfl (q04 (gg rfl (q08 rfl rfl rfl trivial ?_)))
   rw[bad (by decide)];rfl
  rw[q0H]at f2
  have ei:n.edge=((n.edge.toNat:Nat):Int):=by omega
  have hl1:n.edge.toNat<p.edges.length:=by omega
  have hl2:n.edge.toNat<G.length:=by omega
  have l1:=qfS (eg p.edges n.edge.toNat).line
  have l2:=qfS (eg G n.edge.toNat).line
  have hn0:q1u p G n=if(q15 (eg p.edges n.edge.toNat).line).2≠0 then(0,(q15 (eg p.edges n.edge.toNat).line).2)
   else if(q15 (eg G n.edge.toNat).line).2≠0 then(0,(q15 (eg G n.edge.toNat).line).2)
   else q3x (q15 (eg p.edges n.edge.toNat).line).1 (q15 (eg G n.edge.toNat).line).1 false n.at_:=by rw[q1u,if_neg (by omega)]
  have f3:(q15 (eg p.edges n.edge.toNat).line).2=0:=by rw[q15,if_pos (qxs hck1 hl1)]
  have f4:(q15 (eg G n.edge.toNat).line).2=0:=by rw[q15,if_pos (qxs hck2 hl2)]
  rw[if_neg (by simp[f3]),if_neg (by simp[f4])]at hn0
  refine gg rfl (q0i n.edge.toNat rfl rfl ei (q1O hl1) rfl (gg rfl (q02 rfl rfl l1 (gg rfl (q0i n.edge.toNat rfl rfl ei (q1O hl2) rfl (gg rfl (q02 rfl rfl l2 (gg rfl (q02 rfl rfl (qpz (q15 (eg p.edges n.edge.toNat).line).1 (q15 (eg G n.edge.toNat).line).1 false n.at_) ?_)))))))))
  rw[←hn0]
  refine gg rfl (q01 rfl (fun f5=>?_) (fun f5=>?_))
  ·rw[q0u]at f5
   refine gg rfl (q04 (gg rfl (q08 rfl rfl rfl trivial ?_)))
   rw[bad f5,if_pos f5];rfl
  rw[q0z]at f5
  rw[if_pos f5]at hke
  refine gg rfl (q1f rfl rfl rfl rfl rfl rfl (by simp;omega) (Nat.zero_le _) (by simp[q0M];omega) ?_)
  refine gg rfl (q04 (hN (k+1) ⟨hlt,hke⟩ (by omega) (q03 rfl ⟨rfl,?_,trivial⟩ ?_)))
  ·rw[List.all_append,q05 q6f];rfl
  rw[hst,w1];rfl
 rw[q07]at e1
 obtain rfl:k=p.notches.length:=by omega
 have hz:q2y p G p.notches=0:=by rw[hke,List.drop_length];rfl
 rw[hz,List.take_length]
 refine gg rfl (q04 (gg rfl (q08 rfl rfl rfl ⟨q2D (by simp) (q0X qgF _),trivial⟩ ?_)))
 rw[q2E (by simp)];rfl
end Go.F

namespace Go.F
attribute [local irreducible] IntKind.wrap wpM
set_option maxHeartbeats 2000000 in
theorem qxt (s:ByteArray):PU qz5 [.str s]=some (.bool (sizeS s)):=by
 refine q0g (fn:=qnc) rfl (q0a ?_)
 refine gg rfl (q09 rfl (fun h0=>?_) (fun h0=>?_))
 ·repeat' (first
   |refine goP 800 rfl rfl ?_
   |refine q0h rfl ?_|refine q0o rfl ?_|refine q09 rfl (fun _=>?_) (fun _=>?_)
   |refine q0e rfl ?_|refine q0j rfl ?_|refine q01 rfl (fun _=>?_) (fun _=>?_)
   |refine q0L rfl (fun _=>?_) (fun _=>?_)
   |refine q08 rfl rfl rfl trivial ?_)
  rw[qb7,qhV,decide_eq_true_eq]at h0
  simp[sizeS,h0]
 refine gg rfl ?_
 rw[qb7,qhV,decide_eq_false_iff_not]at h0
 refine q01 rfl (fun h1=>?_) (fun h1=>?_)
 ·refine gg rfl (q08 rfl rfl rfl trivial ?_)
  rw[q06]at h1
  have:¬s.size≤8:=by omega
  simp[sizeS,this]
 rw[q07]at h1
 refine gg rfl (q0l (S:=fun k:Nat=>([.str s,q00 k],[none,none],[0,0])) (C:=fun k=>k≤s.size∧∀i,i<k→q2S (q2r s i).toNat=true) (m:=fun k=>s.size-k) 0 ⟨by omega,fun i hi=>by omega⟩ (by omega) ?_ ?_)
 ·exact q03 rfl trivial (by simp[q00])
 intro k ⟨hk,hall⟩ N hN
 refine gg rfl (q01 rfl (fun g1=>?_) (fun g1=>?_))
 ·rw[q06]at g1
  have hlt:k<s.size:=by omega
  have w1:=wS (n:=k)
  have hb:=q6j hlt
  have hno:=qy1 hlt
  have hyes:q2S (q2r s k).toNat=true→∀i,i<k+1→q2S (q2r s i).toNat=true:=by
   intro h i hi
   by_cases e:i=k
   ·subst e;exact h
   exact hall i (by omega)
  generalize q2r s k=c at*
  refine gg rfl (q2d k rfl rfl rfl hb (gg rfl (q09 rfl (fun a1=>?_) (fun a1=>?_))))
  ·refine gg rfl (q2d k rfl rfl rfl hb (gg rfl (q09 rfl (fun a2=>?_) (fun a2=>?_))))
   ·have hc:q2S c.toNat=true:=by rw[q1z];simp_all
    exact gg rfl (q0j rfl (gg rfl (q04 (hN (k+1) ⟨hlt,hyes hc⟩ (by omega) (q03 rfl trivial (by simp[q00,w1]))))))
   refine gg rfl (q2d k rfl rfl rfl hb (gg rfl (q09 rfl (fun d1=>?_) (fun d1=>?_))))
   ·refine gg rfl (q2d k rfl rfl rfl hb (gg rfl (q01 rfl (fun d2=>?_) (fun d2=>?_))))
    ·have hc:q2S c.toNat=false:=by rw[q1z];simp_all
     refine gg rfl (q04 (gg rfl (q08 rfl rfl rfl trivial ?_)))
     rw[hno hc]
    have hc:q2S c.toNat=true:=by rw[q1z];simp_all
    exact gg rfl (q04 (hN (k+1) ⟨hlt,hyes hc⟩ (by omega) (q03 rfl trivial (by simp[q00,w1]))))
   have hc:q2S c.toNat=false:=by rw[q1z];simp_all
   refine gg rfl (q0e rfl (gg rfl (q04 (gg rfl (q08 rfl rfl rfl trivial ?_)))))
   rw[hno hc]
  refine gg rfl (q0o rfl (gg rfl (q2d k rfl rfl rfl hb (gg rfl (q09 rfl (fun d1=>?_) (fun d1=>?_))))))
  ·refine gg rfl (q2d k rfl rfl rfl hb (gg rfl (q01 rfl (fun d2=>?_) (fun d2=>?_))))
   ·have hc:q2S c.toNat=false:=by rw[q1z];simp_all
    refine gg rfl (q04 (gg rfl (q08 rfl rfl rfl trivial ?_)))
    rw[hno hc]
   have hc:q2S c.toNat=true:=by rw[q1z];simp_all
   exact gg rfl (q04 (hN (k+1) ⟨hlt,hyes hc⟩ (by omega) (q03 rfl trivial (by simp[q00,w1]))))
  have hc:q2S c.toNat=false:=by rw[q1z];simp_all
  refine gg rfl (q0e rfl (gg rfl (q04 (gg rfl (q08 rfl rfl rfl trivial ?_)))))
  rw[hno hc]
 rw[q07]at g1
 obtain rfl:k=s.size:=by omega
 refine gg rfl (q04 (gg rfl (q08 rfl rfl rfl trivial ?_)))
 rw[sizeS,decide_eq_true hall,decide_eq_true (show 1≤s.size by omega),decide_eq_true (show s.size≤8 by omega)];rfl
def sizedB (s:Sty):Bool:=decide (q1K s.name=true∧s.sizes.length≠0∧s.sizes.any (fun x=>!sizeS x)=false∧0∈s.mults∧s.mults.length=s.sizes.length)
set_option maxHeartbeats 4000000 in
theorem qus (s:Sty)(hB:StyB s):PU qwh [s.enc]=some (.bool (sizedB s)):=by
 have b1:=hB.sizes
 have b2:=hB.mults
 refine q0g (fn:=qkR) rfl (q0a ?_)
 refine gg rfl (q02 rfl rfl (qdJ s.name) ?_)
 cases hn:q1K s.name with
 |false=>
  refine gg rfl (q0h rfl (gg rfl (q0e rfl (gg rfl (q08 rfl rfl rfl trivial ?_)))))
  simp[sizedB,hn]
 |true=>
  refine gg rfl (q0o rfl (gg rfl ?_))
  rw[List.length_map]
  refine q01 rfl (fun g=>?_) (fun g=>?_)
  ·rw[q1n]at g
   refine gg rfl (q08 rfl rfl rfl trivial ?_)
   have:s.sizes.length=0:=by omega
   rw[sizedB,decide_eq_false (fun h=>h.2.1 this)]
  rw[q20]at g
  refine gg rfl (q0l (S:=fun k:Nat=>([.ptr 0 0 0,q00 k],[some (.row [s.enc] 7),none],[0,0])) (C:=fun k=>k≤s.sizes.length∧∀j (hj:j<s.sizes.length),j<k→sizeS s.sizes[j]=true) (m:=fun k=>s.sizes.length-k) 0 ⟨Nat.zero_le _,fun j _ h=>by omega⟩ (by omega) ?_ ?_)
  ·exact q03 rfl ⟨rfl,trivial⟩ rfl
  rintro k ⟨hk,hall⟩ N hN
  refine gg rfl ?_
  rw[List.length_map]
  refine q01 rfl (fun e=>?_) (fun e=>?_)
  ·rw[q06]at e
   have hlt:k<s.sizes.length:=by omega
   have w1:=wS (n:=k)
   have hz:=qxt s.sizes[k]
   refine gg rfl (q0i k rfl rfl rfl (q1B hlt) rfl (gg rfl (q02 rfl rfl hz ?_)))
   cases hv:sizeS s.sizes[k]with
   |false=>
    refine gg rfl (q0e rfl (gg rfl (q04 (gg rfl (q08 rfl rfl rfl trivial ?_)))))
    have ha:s.sizes.any (fun x=>!sizeS x)=true:=q27 hlt (by rw[hv];rfl)
    rw[sizedB,decide_eq_false (fun h=>by rw[ha]at h;cases h.2.2.1)]
   |true=>
    refine gg rfl (q0j rfl (gg rfl (q04 (hN (k+1) ⟨hlt,fun j hj hjk=>?_⟩ (by omega) (q03 rfl ⟨rfl,trivial⟩ (by rw[w1];rfl))))))
    by_cases ej:j=k
    ·subst ej;exact hv
    exact hall j hj (by omega)
  rw[q07]at e
  obtain rfl:k=s.sizes.length:=by omega
  clear hN
  have hc2:s.sizes.any (fun x=>!sizeS x)=false:=q1W fun j hj=>by rw[hall j hj hj];rfl
  refine gg rfl (q04 (gg rfl (q0l (S:=fun k:Nat=>([.ptr 0 0 0,.bool (decide (0∈s.mults.take k)),q00 k],[some (.row [s.enc] 7),none,none],[0,0,0])) (C:=fun k=>k≤s.mults.length) (m:=fun k=>s.mults.length-k) 0 (Nat.zero_le _) (by omega) ?_ ?_)))
  ·exact q03 rfl ⟨rfl,trivial⟩ (by simp[q00])
  intro k hk N hN
  refine gg rfl ?_
  rw[List.length_map]
  refine q01 rfl (fun e=>?_) (fun e=>?_)
  ·rw[q06]at e
   have hlt:k<s.mults.length:=by omega
   have w1:=wS (n:=k)
   have hst:(0∈s.mults.take (k+1))↔(0∈s.mults.take k∨mu s.mults k=0):=by
    rw[List.take_succ_eq_append_getElem hlt,List.mem_append,List.mem_singleton,qv2 hlt]
    exact⟨fun h=>h.imp id Eq.symm,fun h=>h.imp id Eq.symm⟩
   cases hb:decide (0∈s.mults.take k)with
   |true=>
    have hb:=of_decide_eq_true hb
    refine gg rfl (q0h rfl (gg rfl (q04 (hN (k+1) hlt (by omega) (q03 rfl ⟨rfl,trivial⟩ ?_)))))
    rw[w1,decide_eq_true (hst.2 (.inl hb))];rfl
   |false=>
    have hb:=of_decide_eq_false hb
    refine gg rfl (q0o rfl (gg rfl (q0i k rfl rfl rfl (q9H hlt) rfl (gg rfl (q04 (hN (k+1) hlt (by omega) (q03 rfl ⟨rfl,trivial⟩ ?_)))))))
    have e2:decide (0∈s.mults.take (k+1))=eqb (mu s.mults k) 0:=by
     rw[q2c]
     exact decide_eq_decide.2 ⟨fun h=>(hst.1 h).resolve_left hb,fun h=>hst.2 (.inr h)⟩
    rw[w1,e2];rfl
  rw[q07]at e
  obtain rfl:k=s.mults.length:=by omega
  clear hN
  rw[List.take_length]
  refine gg rfl (q04 (gg rfl ?_))
  cases hz:decide (0∈s.mults)with
  |false=>
   have hz:=of_decide_eq_false hz
   refine q0o rfl (gg rfl (q08 rfl rfl rfl trivial ?_))
   rw[sizedB,decide_eq_false (fun h=>hz h.2.2.2.1)]
  |true=>
   have hz:=of_decide_eq_true hz
   refine q0h rfl (gg rfl (q08 rfl rfl rfl trivial ?_))
   rw[List.length_map,List.length_map,q2c,sizedB]
   congr 1
   refine decide_eq_decide.2 ⟨fun h=>⟨hn,by omega,hc2,hz,by omega⟩,fun h=>?_⟩
   have:=h.2.2.2.2
   omega
set_option maxHeartbeats 4000000 in
theorem qut (l:List ByteArray)(hl:l.length≤1000):PU qwi [strs l]=some (.bool (q4P l)):=by
 refine q0g (fn:=qkT) rfl (q0a ?_)
 refine gg rfl (q0l (S:=fun k:Nat=>([strs l,q00 k],[none,none],[0,0])) (C:=fun k=>k≤l.length∧∀i,i<k→((l.take i).any fun x=>x.toList==(sz l i).toList)=false) (m:=fun k=>l.length-k) 0 ⟨Nat.zero_le _,fun j h=>by omega⟩ (by omega) ?_ ?_)
 ·exact q03 rfl trivial rfl
 rintro k ⟨hk,htw⟩ N hN
 refine gg rfl ?_
 rw[List.length_map]
 refine q01 rfl (fun e=>?_) (fun e=>?_)
 ·rw[q06]at e
  have hlt:k<l.length:=by omega
  have w1:=wS (n:=k)
  refine gg rfl (q0l (S:=fun j:Nat=>([strs l,q00 k,q00 j],[none,none,none],[0,0,0])) (C:=fun j=>j≤k∧∀i (hi:i<l.length),i<j→(l[i].toList==(sz l k).toList)=false) (m:=fun j=>k-j) 0 ⟨Nat.zero_le _,fun j _ h=>by omega⟩ (by omega) ?_ ?_)
  ·exact q03 rfl trivial rfl
  rintro j ⟨hj,hno⟩ N2 hN2
  refine gg rfl (q01 rfl (fun f=>?_) (fun f=>?_))
  ·rw[q06]at f
   have hjk:j<k:=by omega
   have w2:=wS (n:=j)
   refine gg rfl (q0i k rfl rfl rfl (qAi hlt) rfl (gg rfl (q0i j rfl rfl rfl (qAi (by omega)) rfl ?_)))
   refine gg rfl (q01 rfl (fun g=>?_) (fun g=>?_))
   ·refine gg rfl (q04 (gg rfl (q04 (gg rfl (q08 rfl rfl rfl trivial ?_)))))
    have ht:q4P l=true:=by
     unfold q4P
     rw[List.any_eq_true]
     refine⟨k,List.mem_range.2 hlt,?_⟩
     rw[List.any_eq_true]
     refine⟨sz l j,?_,?_⟩
     ·rw[qAh (by omega)]
      have h1:(l.take k)[j]'(by rw[List.length_take];omega)=l[j]:=by simp
      rw[←h1]
      exact List.getElem_mem _
     have g:((sz l k).toList==(sz l j).toList)=true:=g
     rw[beq_iff_eq]at g⊢
     exact g.symm
    rw[ht]
   refine gg rfl (q04 (hN2 (j+1) ⟨hjk,fun i hi hij=>?_⟩ (by omega) (q03 rfl trivial (by rw[w2];rfl))))
   by_cases ei:i=j
   ·subst ei
    have g:((sz l k).toList==(sz l i).toList)=false:=g
    rw[beq_eq_false_iff_ne]at g⊢
    rw[←qAh hi]
    exact fun h=>g h.symm
   exact hno i hi (by omega)
  rw[q07]at f
  obtain rfl:j=k:=by omega
  clear hN2
  refine gg rfl (q04 (gg rfl (q04 (hN (j+1) ⟨hlt,fun i hi=>?_⟩ (by omega) (q03 rfl trivial (by rw[w1];rfl))))))
  by_cases ei:i=j
  ·subst ei
   refine q1W fun a ha=>?_
   rw[List.length_take]at ha
   have h1:(l.take i)[a]'(by rw[List.length_take];omega)=l[a]:=by simp
   rw[h1]
   exact hno a (by omega) (by omega)
  exact htw i (by omega)
 rw[q07]at e
 obtain rfl:k=l.length:=by omega
 clear hN
 refine gg rfl (q04 (gg rfl (q08 rfl rfl rfl trivial ?_)))
 have ht:q4P l=false:=by
  unfold q4P
  rw[List.any_eq_false]
  intro i hi h
  rw[htw i (List.mem_range.1 hi)]at h;cases h
 rw[ht]
def qip (s:Sty):Bool:=decide (12<s.sizes.length∨12<s.pieces.length∨24<s.seams.length∨16<s.ops.length∨12<s.uses.length)
theorem qxu (s:Sty):PU qz2 [s.enc]=some (.bool (qip s)):=by
 refine q0g (fn:=qn8) rfl (q0a ?_)
 refine gg rfl ?_
 rw[List.length_map]
 refine q09 rfl (fun e1=>?_) (fun e1=>?_)
 ·rw[q06]at e1
  repeat' (first
   |refine goP 800 rfl rfl ?_
   |refine q0h rfl ?_|refine q0o rfl ?_|refine q09 rfl (fun _=>?_) (fun _=>?_)
   |refine q0e rfl ?_|refine q0j rfl ?_|refine q01 rfl (fun _=>?_) (fun _=>?_)
   |refine q0L rfl (fun _=>?_) (fun _=>?_)
   |refine q08 rfl rfl rfl trivial ?_)
  rw[qip,decide_eq_true (.inl (by omega))]
 rw[q07]at e1
 refine gg rfl ?_
 rw[List.length_map]
 refine q09 rfl (fun e2=>?_) (fun e2=>?_)
 ·rw[q06]at e2
  repeat' (first
   |refine goP 800 rfl rfl ?_
   |refine q0h rfl ?_|refine q0o rfl ?_|refine q09 rfl (fun _=>?_) (fun _=>?_)
   |refine q0e rfl ?_|refine q0j rfl ?_|refine q01 rfl (fun _=>?_) (fun _=>?_)
   |refine q0L rfl (fun _=>?_) (fun _=>?_)
   |refine q08 rfl rfl rfl trivial ?_)
  rw[qip,decide_eq_true (.inr (.inl (by omega)))]
 rw[q07]at e2
 refine gg rfl ?_
 rw[List.length_map]
 refine q09 rfl (fun e3=>?_) (fun e3=>?_)
 ·rw[q06]at e3
  repeat' (first
   |refine goP 800 rfl rfl ?_
   |refine q0h rfl ?_|refine q0o rfl ?_|refine q09 rfl (fun _=>?_) (fun _=>?_)
   |refine q0e rfl ?_|refine q0j rfl ?_|refine q01 rfl (fun _=>?_) (fun _=>?_)
   |refine q0L rfl (fun _=>?_) (fun _=>?_)
   |refine q08 rfl rfl rfl trivial ?_)
  rw[qip,decide_eq_true (.inr (.inr (.inl (by omega))))]
 rw[q07]at e3
 refine gg rfl ?_
 rw[List.length_map]
 refine q09 rfl (fun e4=>?_) (fun e4=>?_)
 ·rw[q06]at e4
  repeat' (first
   |refine goP 800 rfl rfl ?_
   |refine q0h rfl ?_|refine q0o rfl ?_|refine q09 rfl (fun _=>?_) (fun _=>?_)
   |refine q0e rfl ?_|refine q0j rfl ?_|refine q01 rfl (fun _=>?_) (fun _=>?_)
   |refine q0L rfl (fun _=>?_) (fun _=>?_)
   |refine q08 rfl rfl rfl trivial ?_)
  rw[qip,decide_eq_true (.inr (.inr (.inr (.inl (by omega)))))]
 rw[q07]at e4
 refine gg rfl (q08 rfl rfl rfl trivial ?_)
 rw[List.length_map,q1M,qip]
 congr 1
 exact decide_eq_decide.2 ⟨fun h=>by omega,fun h=>by omega⟩
theorem qfT (s:Sty)(p e:Int):PU qtC [s.enc,.int .i64 p,.int .i64 e]=some (.bool (q2b s p e)):=by
 refine q0g (fn:=qgN) rfl (q0a ?_)
 refine gg rfl (q09 rfl (fun g1=>?_) (fun g1=>?_))
 ·rw[q0G]at g1
  refine gg rfl ?_
  rw[List.length_map]
  refine q09 rfl (fun g2=>?_) (fun g2=>?_)
  ·rw[q06]at g2
   refine gg rfl (q09 rfl (fun g3=>?_) (fun g3=>?_))
   ·rw[q0G]at g3
    refine gg rfl (q0i p.toNat rfl rfl (by omega) (q5w (by omega)) rfl ?_)
    refine gg rfl (q08 rfl rfl rfl trivial ?_)
    rw[q2b,decide_eq_true g1,decide_eq_true g2,decide_eq_true g3,q1M,List.length_map];rfl
   rw[q0H]at g3
   refine gg rfl (q08 rfl rfl rfl trivial ?_)
   rw[q2b,decide_eq_false (show¬0≤e by omega)];simp
  rw[q07]at g2
  refine gg rfl (q0o rfl (gg rfl (q08 rfl rfl rfl trivial ?_)))
  rw[q2b,decide_eq_false (show¬p<s.pieces.length by omega)];simp
 rw[q0H]at g1
 refine gg rfl (q0o rfl (gg rfl (q0o rfl (gg rfl (q08 rfl rfl rfl trivial ?_)))))
 rw[q2b,decide_eq_false (show¬0≤p by omega)];rfl
def qDe (p:Piece):Int:=if p.widths.length≠p.edges.length then 1 else if p.widths.any q2h then 3 else 0
end Go.F

namespace Go.F
attribute [local irreducible] IntKind.wrap wpM
theorem q9E (p:Piece)(h2:p.widths.length≤1000):PU qtB [p.enc]=some (.int .i64 (qDe p)):=by
 refine q0g (fn:=qhf) rfl (q0a ?_)
 refine gg rfl ?_
 rw[List.length_map,List.length_map]
 refine q01 rfl (fun f3=>?_) (fun f3=>?_)
 ·rw[q0u]at f3
  refine gg rfl (q08 rfl rfl rfl trivial ?_)
  rw[qDe,if_pos (by omega)]
 rw[q0z]at f3
 rw[qDe,if_neg (by omega)]
 refine gg rfl (q0l (S:=fun k:Nat=>([.ptr 0 0 0,q00 k],[some (.row [p.enc] 7),none],[0,0])) (C:=fun k=>k≤p.widths.length∧∀j (hj:j<p.widths.length),j<k→q2h p.widths[j]=false) (m:=fun k=>p.widths.length-k) 0 ⟨Nat.zero_le _,fun j _ h=>by omega⟩ (by omega) ?_ ?_)
 ·exact q03 rfl ⟨rfl,trivial⟩ rfl
 rintro k ⟨hk,hm⟩ N hN
 refine gg rfl ?_
 rw[List.length_map]
 refine q01 rfl (fun e=>?_) (fun e=>?_)
 ·rw[q06]at e
  have hlt:k<p.widths.length:=by omega
  have w1:=wS (n:=k)
  have bad:q2h p.widths[k]=true→p.widths.any q2h=true:=fun h=>q27 hlt h
  have hx:(p.widths.map q00)[k]?=some (.int .i64 p.widths[k]):=q1B hlt
  refine gg rfl (q0i k rfl rfl rfl hx rfl (gg rfl (q09 rfl (fun f1=>?_) (fun f1=>?_))))
  ·rw[q06]at f1
   refine gg rfl (q0e rfl (gg rfl (q04 (gg rfl (q08 rfl rfl rfl trivial ?_)))))
   rw[if_pos (bad (by simp[q2h];omega))]
  rw[q07]at f1
  refine gg rfl (q0i k rfl rfl rfl hx rfl (gg rfl (q01 rfl (fun f2=>?_) (fun f2=>?_))))
  ·rw[q06]at f2
   refine gg rfl (q04 (gg rfl (q08 rfl rfl rfl trivial ?_)))
   rw[if_pos (bad (by simp[q2h];omega))]
  rw[q07]at f2
  refine gg rfl (q04 (hN (k+1) ⟨hlt,fun j hj hjk=>?_⟩ (by omega) (q03 rfl ⟨rfl,trivial⟩ (by rw[w1];rfl))))
  by_cases ej:j=k
  ·subst ej;simp[q2h];omega
  exact hm j hj (by omega)
 rw[q07]at e
 obtain rfl:k=p.widths.length:=by omega
 clear hN
 refine gg rfl (q04 (gg rfl (q08 rfl rfl rfl trivial ?_)))
 rw[if_neg (by rw[q1W fun j hj=>hm j hj hj];decide)]
set_option maxHeartbeats 8000000 in
theorem quu (b:List Piece)(p:Piece)(hb:b.length≤1000)(h1:p.corners.length≤1000)(h2:p.widths.length≤1000):PU qwj [Go.F.pieces b,p.enc]=some (.int .i64 (q22 b p)):=by
 refine q0g (fn:=qkb) rfl (q0a ?_)
 refine gg rfl (q02 rfl rfl (qdJ p.name) ?_)
 cases hn:q1K p.name with
 |false=>
  refine gg rfl (q0h rfl (gg rfl (q0e rfl (gg rfl (q08 rfl rfl rfl trivial ?_)))))
  rw[q22,if_pos hn]
 |true=>
  have hc1:¬q1K p.name=false:=by rw[hn];decide
  refine gg rfl (q0o rfl (gg rfl (q09 rfl (fun g1=>?_) (fun g1=>?_))))
  ·rw[q0u]at g1
   refine gg rfl (q09 rfl (fun g2=>?_) (fun g2=>?_))
   ·rw[q0u]at g2
    refine gg rfl (q01 rfl (fun g3=>?_) (fun g3=>?_))
    ·rw[q0u]at g3
     refine gg rfl (q08 rfl rfl rfl trivial ?_)
     rw[q22,if_neg hc1,if_pos ⟨g1,g2,g3⟩]
    rw[q0z]at g3
    have hc2:¬(p.grain≠1∧p.grain≠2∧p.grain≠4):=fun h=>h.2.2 g3
    refine gg rfl (q0l (S:=fun k:Nat=>([Go.F.pieces b,.ptr 1 0 0,q00 k],[none,some (.row [p.enc] 7),none],[0,0,0])) (C:=fun k=>k≤b.length∧∀j (hj:j<b.length),j<k→(b[j].name.toList==p.name.toList)=false) (m:=fun k=>b.length-k) 0 ⟨Nat.zero_le _,fun j _ h=>by omega⟩ (by omega) ?_ ?_)
    ·exact q03 rfl ⟨rfl,trivial⟩ rfl
    rintro k ⟨hk,hno⟩ N hN
    refine gg rfl ?_
    rw[List.length_map]
    refine q01 rfl (fun e=>?_) (fun e=>?_)
    ·rw[q06]at e
     have hlt:k<b.length:=by omega
     have w1:=wS (n:=k)
     have hx:(b.map Piece.enc)[k]?=some b[k].enc:=q1B hlt
     refine gg rfl (q0i k rfl rfl rfl hx rfl (gg rfl (q01 rfl (fun f=>?_) (fun f=>?_))))
     ·refine gg rfl (q04 (gg rfl (q08 rfl rfl rfl trivial ?_)))
      rw[q22,if_neg hc1,if_neg hc2,if_pos (q27 hlt f)]
     refine gg rfl (q04 (hN (k+1) ⟨hlt,fun j hj hjk=>?_⟩ (by omega) (q03 rfl ⟨rfl,trivial⟩ (by rw[w1];rfl))))
     by_cases ej:j=k
     ·subst ej;exact f
     exact hno j hj (by omega)
    rw[q07]at e
    obtain rfl:k=b.length:=by omega
    clear hN
    have hc3:¬(b.any fun o=>o.name.toList==p.name.toList)=true:=by rw[q1W fun j hj=>hno j hj hj];decide
    have hw:q22 b p=if(q0q p 0).2≠0 then(q0q p 0).2
     else if(q0R p 0).2≠0 then(q0R p 0).2
     else qDe p:=by rw[q22,if_neg hc1,if_neg hc2,if_neg hc3];rfl
    rw[hw]
    refine gg rfl (q04 (gg rfl (q02 rfl rfl (q56 p 0 (by omega)) ?_)))
    refine gg rfl (q01 rfl (fun f=>?_) (fun f=>?_))
    ·rw[q0u]at f
     refine gg rfl (q08 rfl rfl rfl trivial ?_)
     rw[if_pos f]
    rw[q0z]at f
    rw[if_neg (by simp[f])]
    refine gg rfl (q02 rfl rfl (q9D p 0 (by omega)) ?_)
    refine gg rfl (q01 rfl (fun f2=>?_) (fun f2=>?_))
    ·rw[q0u]at f2
     refine gg rfl (q08 rfl rfl rfl trivial ?_)
     rw[if_pos f2]
    rw[q0z]at f2
    rw[if_neg (by simp[f2])]
    exact gg rfl (q02 rfl rfl (q9E p h2) (gg rfl (q08 rfl rfl rfl trivial rfl)))
   rw[q0z]at g2
   have hc2:¬(p.grain≠1∧p.grain≠2∧p.grain≠4):=fun h=>h.2.1 g2
   refine gg rfl (q0j rfl (gg rfl (q0l (S:=fun k:Nat=>([Go.F.pieces b,.ptr 1 0 0,q00 k],[none,some (.row [p.enc] 7),none],[0,0,0])) (C:=fun k=>k≤b.length∧∀j (hj:j<b.length),j<k→(b[j].name.toList==p.name.toList)=false) (m:=fun k=>b.length-k) 0 ⟨Nat.zero_le _,fun j _ h=>by omega⟩ (by omega) ?_ ?_)))
   ·exact q03 rfl ⟨rfl,trivial⟩ rfl
   rintro k ⟨hk,hno⟩ N hN
   refine gg rfl ?_
   rw[List.length_map]
   refine q01 rfl (fun e=>?_) (fun e=>?_)
   ·rw[q06]at e
    have hlt:k<b.length:=by omega
    have w1:=wS (n:=k)
    have hx:(b.map Piece.enc)[k]?=some b[k].enc:=q1B hlt
    refine gg rfl (q0i k rfl rfl rfl hx rfl (gg rfl (q01 rfl (fun f=>?_) (fun f=>?_))))
    ·refine gg rfl (q04 (gg rfl (q08 rfl rfl rfl trivial ?_)))
     rw[q22,if_neg hc1,if_neg hc2,if_pos (q27 hlt f)]
    refine gg rfl (q04 (hN (k+1) ⟨hlt,fun j hj hjk=>?_⟩ (by omega) (q03 rfl ⟨rfl,trivial⟩ (by rw[w1];rfl))))
    by_cases ej:j=k
    ·subst ej;exact f
    exact hno j hj (by omega)
   rw[q07]at e
   obtain rfl:k=b.length:=by omega
   clear hN
   have hc3:¬(b.any fun o=>o.name.toList==p.name.toList)=true:=by rw[q1W fun j hj=>hno j hj hj];decide
   have hw:q22 b p=if(q0q p 0).2≠0 then(q0q p 0).2
    else if(q0R p 0).2≠0 then(q0R p 0).2
    else qDe p:=by rw[q22,if_neg hc1,if_neg hc2,if_neg hc3];rfl
   rw[hw]
   refine gg rfl (q04 (gg rfl (q02 rfl rfl (q56 p 0 (by omega)) ?_)))
   refine gg rfl (q01 rfl (fun f=>?_) (fun f=>?_))
   ·rw[q0u]at f
    refine gg rfl (q08 rfl rfl rfl trivial ?_)
    rw[if_pos f]
   rw[q0z]at f
   rw[if_neg (by simp[f])]
   refine gg rfl (q02 rfl rfl (q9D p 0 (by omega)) ?_)
   refine gg rfl (q01 rfl (fun f2=>?_) (fun f2=>?_))
   ·rw[q0u]at f2
    refine gg rfl (q08 rfl rfl rfl trivial ?_)
    rw[if_pos f2]
   rw[q0z]at f2
   rw[if_neg (by simp[f2])]
   exact gg rfl (q02 rfl rfl (q9E p h2) (gg rfl (q08 rfl rfl rfl trivial rfl)))
  rw[q0z]at g1
  have hc2:¬(p.grain≠1∧p.grain≠2∧p.grain≠4):=fun h=>h.1 g1
  refine gg rfl (q0o rfl (gg rfl (q0j rfl (gg rfl (q0l (S:=fun k:Nat=>([Go.F.pieces b,.ptr 1 0 0,q00 k],[none,some (.row [p.enc] 7),none],[0,0,0])) (C:=fun k=>k≤b.length∧∀j (hj:j<b.length),j<k→(b[j].name.toList==p.name.toList)=false) (m:=fun k=>b.length-k) 0 ⟨Nat.zero_le _,fun j _ h=>by omega⟩ (by omega) ?_ ?_)))))
  ·exact q03 rfl ⟨rfl,trivial⟩ rfl
  rintro k ⟨hk,hno⟩ N hN
  refine gg rfl ?_
  rw[List.length_map]
  refine q01 rfl (fun e=>?_) (fun e=>?_)
  ·rw[q06]at e
   have hlt:k<b.length:=by omega
   have w1:=wS (n:=k)
   have hx:(b.map Piece.enc)[k]?=some b[k].enc:=q1B hlt
   refine gg rfl (q0i k rfl rfl rfl hx rfl (gg rfl (q01 rfl (fun f=>?_) (fun f=>?_))))
   ·refine gg rfl (q04 (gg rfl (q08 rfl rfl rfl trivial ?_)))
    rw[q22,if_neg hc1,if_neg hc2,if_pos (q27 hlt f)]
   refine gg rfl (q04 (hN (k+1) ⟨hlt,fun j hj hjk=>?_⟩ (by omega) (q03 rfl ⟨rfl,trivial⟩ (by rw[w1];rfl))))
   by_cases ej:j=k
   ·subst ej;exact f
   exact hno j hj (by omega)
  rw[q07]at e
  obtain rfl:k=b.length:=by omega
  clear hN
  have hc3:¬(b.any fun o=>o.name.toList==p.name.toList)=true:=by rw[q1W fun j hj=>hno j hj hj];decide
  have hw:q22 b p=if(q0q p 0).2≠0 then(q0q p 0).2
   else if(q0R p 0).2≠0 then(q0R p 0).2
   else qDe p:=by rw[q22,if_neg hc1,if_neg hc2,if_neg hc3];rfl
  rw[hw]
  refine gg rfl (q04 (gg rfl (q02 rfl rfl (q56 p 0 (by omega)) ?_)))
  refine gg rfl (q01 rfl (fun f=>?_) (fun f=>?_))
  ·rw[q0u]at f
   refine gg rfl (q08 rfl rfl rfl trivial ?_)
   rw[if_pos f]
  rw[q0z]at f
  rw[if_neg (by simp[f])]
  refine gg rfl (q02 rfl rfl (q9D p 0 (by omega)) ?_)
  refine gg rfl (q01 rfl (fun f2=>?_) (fun f2=>?_))
  ·rw[q0u]at f2
   refine gg rfl (q08 rfl rfl rfl trivial ?_)
   rw[if_pos f2]
  rw[q0z]at f2
  rw[if_neg (by simp[f2])]
  exact gg rfl (q02 rfl rfl (q9E p h2) (gg rfl (q08 rfl rfl rfl trivial rfl)))
def quv (s:Sty):Int:=if s.uses.any (q1V s.pieces.length)then 3 else q0E (q45 s) s.seams.length
set_option maxHeartbeats 8000000 in
theorem qr6 (s:Sty)(hB:StyB s):PU qtu [s.enc]=some (.int .i64 (quv s)):=by
 have b1:=hB.pieces
 have b2:=hB.uses
 have b3:=hB.seams
 unfold quv
 refine q0g (fn:=qh9) rfl (q0a ?_)
 refine gg rfl (q0l (S:=fun k:Nat=>([.ptr 0 0 0,q00 k],[some (.row [s.enc] 7),none],[0,0])) (C:=fun k=>k≤s.uses.length∧∀j (hj:j<s.uses.length),j<k→q1V s.pieces.length s.uses[j]=false) (m:=fun k=>s.uses.length-k) 0 ⟨Nat.zero_le _,fun j _ h=>by omega⟩ (by omega) ?_ ?_)
 ·exact q03 rfl ⟨rfl,trivial⟩ rfl
 rintro k ⟨hk,hu⟩ N hN
 refine gg rfl ?_
 rw[List.length_map]
 refine q01 rfl (fun e=>?_) (fun e=>?_)
 ·rw[q06]at e
  have hlt:k<s.uses.length:=by omega
  have w1:=wS (n:=k)
  have hx:(s.uses.map Use.enc)[k]?=some s.uses[k].enc:=q1B hlt
  have bad:q1V s.pieces.length s.uses[k]=true→s.uses.any (q1V s.pieces.length)=true:=fun h=>q27 hlt h
  have hnx:q1V s.pieces.length s.uses[k]=false→∀j (hj:j<s.uses.length),j<k+1→q1V s.pieces.length s.uses[j]=false:=by
   intro h j hj hjk
   by_cases ej:j=k
   ·subst ej;exact h
   exact hu j hj (by omega)
  generalize s.uses[k]=u at*
  refine gg rfl (q0i k rfl rfl rfl hx rfl (gg rfl (q09 rfl (fun f1=>?_) (fun f1=>?_))))
  ·rw[q06]at f1
   refine gg rfl (q0h rfl (gg rfl (q0h rfl (gg rfl (q0e rfl (gg rfl (q04 (gg rfl (q08 rfl rfl rfl trivial ?_)))))))))
   rw[if_pos (bad (by simp[q1V];omega))]
  rw[q07]at f1
  refine gg rfl ?_
  rw[List.length_map]
  refine q09 rfl (fun f2=>?_) (fun f2=>?_)
  ·rw[q0G]at f2
   refine gg rfl (q0h rfl (gg rfl (q0e rfl (gg rfl (q04 (gg rfl (q08 rfl rfl rfl trivial ?_)))))))
   rw[if_pos (bad (by simp[q1V];omega))]
  rw[q0H]at f2
  refine gg rfl (q09 rfl (fun f3=>?_) (fun f3=>?_))
  ·rw[q06]at f3
   refine gg rfl (q0e rfl (gg rfl (q04 (gg rfl (q08 rfl rfl rfl trivial ?_)))))
   rw[if_pos (bad (by simp[q1V];omega))]
  rw[q07]at f3
  refine gg rfl (q01 rfl (fun f4=>?_) (fun f4=>?_))
  ·rw[q06]at f4
   refine gg rfl (q04 (gg rfl (q08 rfl rfl rfl trivial ?_)))
   rw[if_pos (bad (by simp[q1V];omega))]
  rw[q07]at f4
  exact gg rfl (q04 (hN (k+1) ⟨hlt,hnx (by simp[q1V];omega)⟩ (by omega) (q03 rfl ⟨rfl,trivial⟩ (by rw[w1];rfl))))
 rw[q07]at e
 obtain rfl:k=s.uses.length:=by omega
 clear hN
 rw[if_neg (by rw[q1W fun j hj=>hu j hj hj];decide)]
 refine gg rfl (q04 (gg rfl (q0l (S:=fun k:Nat=>([.ptr 0 0 0,q00 k],[some (.row [s.enc] 7),none],[0,0])) (C:=fun k=>k≤s.seams.length∧q0E (q45 s) k=0) (m:=fun k=>s.seams.length-k) 0 ⟨Nat.zero_le _,rfl⟩ (by omega) ?_ ?_)))
 ·exact q03 rfl ⟨rfl,trivial⟩ rfl
 rintro k ⟨hk,h0⟩ N hN
 refine gg rfl ?_
 rw[List.length_map]
 refine q01 rfl (fun e=>?_) (fun e=>?_)
 ·rw[q06]at e
  have hlt:k<s.seams.length:=by omega
  have w1:=wS (n:=k)
  have hx:=qv1 hlt
  have bad:∀x,q6d s (sw s.seams k)=x→x≠0→q0E (q45 s) s.seams.length=x:=by
   intro x h hx0
   have:=q3w (f:=q45 s) h0 (by show q6d s (sw s.seams k)≠0;rw[h];exact hx0) hlt
   rw[this];exact h
  have good:q6d s (sw s.seams k)=0→q0E (q45 s) (k+1)=0:=fun h=>q2n h0 h
  generalize sw s.seams k=m at*
  have e1:=qfT s m.pa m.ea
  have e2:=qfT s m.pb m.eb
  refine gg rfl (q0i k rfl rfl rfl hx rfl (gg rfl (q02 rfl rfl e1 ?_)))
  cases ha:q2b s m.pa m.ea with
  |false=>
   refine gg rfl (q0h rfl (gg rfl (q0e rfl (gg rfl (q04 (gg rfl (q08 rfl rfl rfl trivial ?_)))))))
   rw[bad 3 (by rw[q6d,if_pos (.inl ha)]) (by decide)]
  |true=>
   refine gg rfl (q0o rfl (gg rfl (q02 rfl rfl e2 ?_)))
   cases hb:q2b s m.pb m.eb with
   |false=>
    refine gg rfl (q0e rfl (gg rfl (q04 (gg rfl (q08 rfl rfl rfl trivial ?_)))))
    rw[bad 3 (by rw[q6d,if_pos (.inr hb)]) (by decide)]
   |true=>
    have hn:¬(q2b s m.pa m.ea=false∨q2b s m.pb m.eb=false):=by rw[ha,hb];simp
    refine gg rfl (q0j rfl (gg rfl (q01 rfl (fun f=>?_) (fun f=>?_))))
    ·rw[q06]at f
     refine gg rfl (q04 (gg rfl (q08 rfl rfl rfl trivial ?_)))
     rw[bad 1 (by rw[q6d,if_neg hn,if_pos f]) (by decide)]
    rw[q07]at f
    exact gg rfl (q04 (hN (k+1) ⟨hlt,good (by rw[q6d,if_neg hn,if_neg (by omega)])⟩ (by omega) (q03 rfl ⟨rfl,trivial⟩ (by rw[w1];rfl))))
 rw[q07]at e
 obtain rfl:k=s.seams.length:=by omega
 clear hN
 refine gg rfl (q04 (gg rfl (q08 rfl rfl rfl trivial ?_)))
 rw[h0]
theorem qxv {s:Sty}(h:sizedB s=false):q2l s=1:=by
 unfold sizedB at h
 have h:=of_decide_eq_false h
 unfold q2l
 by_cases c1:q1K s.name=false∨s.sizes.length=0
 ·rw[if_pos c1]
 rw[if_neg c1]
 by_cases c2:s.sizes.any (fun x=>!sizeS x)=true
 ·rw[if_pos c2]
 rw[if_neg c2]
 by_cases c3:s.mults.length≠s.sizes.length∨0∉s.mults
 ·rw[if_pos c3]
 exfalso
 refine h ⟨?_,fun e=>c1 (.inr e),by simpa using c2,?_,?_⟩
 ·cases hn:q1K s.name with
  |true=>rfl
  |false=>exact absurd (.inl hn) c1
 ·by_cases e:0∈s.mults
  ·exact e
  exact absurd (.inr e) c3
 by_cases e:s.mults.length=s.sizes.length
 ·exact e
 exact absurd (.inl e) c3
theorem qzO {s:Sty}(h:sizedB s=true):q2l s=if q4P s.sizes then 7 else if qip s then 5 else if s.mults.any (fun m=>decide (m< -100) ||decide (100<m))then 3 else 0:=by
 unfold sizedB at h
 obtain⟨h1,h2,h3,h4,h5⟩:=of_decide_eq_true h
 unfold q2l
 rw[if_neg (by rintro(e|e);rw[h1]at e;cases e;exact h2 e),if_neg (by rw[h3];decide),if_neg (by rintro(e|e);exact e h5;exact e h4)]
 by_cases c:q4P s.sizes=true
 ·rw[if_pos c,if_pos c]
 rw[if_neg c,if_neg c]
 unfold qip
 by_cases d1:12<s.sizes.length∨12<s.pieces.length∨12<s.uses.length
 ·rw[if_pos d1,if_pos (decide_eq_true (by omega))]
 rw[if_neg d1]
 by_cases d2:24<s.seams.length∨16<s.ops.length
 ·rw[if_pos d2,if_pos (decide_eq_true (by omega))]
 have d3:¬decide (12<s.sizes.length∨12<s.pieces.length∨24<s.seams.length∨16<s.ops.length∨12<s.uses.length)=true:=by rw[decide_eq_true_eq];omega
 rw[if_neg d2,if_neg d3]
set_option maxHeartbeats 8000000 in
theorem quw (s:Sty)(hB:StyB s):PU qwe [s.enc]=some (.int .i64 (q2C s)):=by
 have b1:=hB.pieces
 have b2:=hB.mults
 refine q0g (fn:=qld) rfl (q0a ?_)
 refine gg rfl (q02 rfl rfl (qus s hB) ?_)
 cases hsz:sizedB s with
 |false=>
  refine gg rfl (q0e rfl (gg rfl (q08 rfl rfl rfl trivial ?_)))
  rw[q2C,qxv hsz];rfl
 |true=>
  have hw:=qzO hsz
  refine gg rfl (q0j rfl (gg rfl (q02 rfl rfl (qut s.sizes hB.sizes) ?_)))
  cases ht:q4P s.sizes with
  |true=>
   refine gg rfl (q0e rfl (gg rfl (q08 rfl rfl rfl trivial ?_)))
   rw[ht]at hw
   rw[q2C,hw];rfl
  |false=>
   rw[if_neg (by rw[ht];decide)]at hw
   refine gg rfl (q0j rfl (gg rfl (q02 rfl rfl (qxu s) ?_)))
   cases hlg:qip s with
   |true=>
    refine gg rfl (q0e rfl (gg rfl (q08 rfl rfl rfl trivial ?_)))
    rw[hlg]at hw
    rw[q2C,hw];rfl
   |false=>
    rw[if_neg (by rw[hlg];decide)]at hw
    refine gg rfl (q0j rfl (gg rfl (q0l (S:=fun k:Nat=>([.ptr 0 0 0,q00 k],[some (.row [s.enc] 7),none],[0,0])) (C:=fun k=>k≤s.mults.length∧∀j (hj:j<s.mults.length),j<k→(decide (s.mults[j]< -100) ||decide (100<s.mults[j]))=false) (m:=fun k=>s.mults.length-k) 0 ⟨Nat.zero_le _,fun j _ h=>by omega⟩ (by omega) ?_ ?_)))
    ·exact q03 rfl ⟨rfl,trivial⟩ rfl
    rintro k ⟨hk,hm⟩ N hN
    refine gg rfl ?_
    rw[List.length_map]
    refine q01 rfl (fun e=>?_) (fun e=>?_)
    ·rw[q06]at e
     have hlt:k<s.mults.length:=by omega
     have w1:=wS (n:=k)
     have bad:(decide (s.mults[k]< -100) ||decide (100<s.mults[k]))=true→q2C s=3:=by
      intro h
      have ha:s.mults.any (fun m=>decide (m< -100) ||decide (100<m))=true:=q27 hlt h
      rw[if_pos ha]at hw
      rw[q2C,hw];rfl
     have hx:(s.mults.map q00)[k]?=some (.int .i64 s.mults[k]):=q1B hlt
     refine gg rfl (q0i k rfl rfl rfl hx rfl (gg rfl (q09 rfl (fun f1=>?_) (fun f1=>?_))))
     ·rw[q06]at f1
      refine gg rfl (q0e rfl (gg rfl (q04 (gg rfl (q08 rfl rfl rfl trivial ?_)))))
      rw[bad (by simp;omega)]
     rw[q07]at f1
     refine gg rfl (q0i k rfl rfl rfl hx rfl (gg rfl (q01 rfl (fun f2=>?_) (fun f2=>?_))))
     ·rw[q06]at f2
      refine gg rfl (q04 (gg rfl (q08 rfl rfl rfl trivial ?_)))
      rw[bad (by simp;omega)]
     rw[q07]at f2
     refine gg rfl (q04 (hN (k+1) ⟨hlt,fun j hj hjk=>?_⟩ (by omega) (q03 rfl ⟨rfl,trivial⟩ (by rw[w1];rfl))))
     by_cases ej:j=k
     ·subst ej;simp;omega
     exact hm j hj (by omega)
    rw[q07]at e
    obtain rfl:k=s.mults.length:=by omega
    clear hN
    rw[if_neg (by rw[q1W fun j hj=>hm j hj hj];decide)]at hw
    have hw2:q2C s=if q0E (q2p s) s.pieces.length≠0 then q0E (q2p s) s.pieces.length else quv s:=by
     rw[q2C,if_neg (by simp[hw])];rfl
    rw[hw2]
    refine gg rfl (q04 (gg rfl (q0l (S:=fun k:Nat=>([.ptr 0 0 0,q00 k],[some (.row [s.enc] 7),none],[0,0])) (C:=fun k=>k≤s.pieces.length∧q0E (q2p s) k=0) (m:=fun k=>s.pieces.length-k) 0 ⟨Nat.zero_le _,rfl⟩ (by omega) ?_ ?_)))
    ·exact q03 rfl ⟨rfl,trivial⟩ rfl
    rintro k ⟨hk,h0⟩ N hN
    refine gg rfl ?_
    rw[List.length_map]
    refine q01 rfl (fun e=>?_) (fun e=>?_)
    ·rw[q06]at e
     have hlt:k<s.pieces.length:=by omega
     have w1:=wS (n:=k)
     have hp:=quu (s.pieces.take k) (pc s.pieces k) (by rw[List.length_take];omega) (hB.corners _ (q9G hlt)) (hB.widths _ (q9G hlt))
     refine gg rfl (qcE k rfl (q1x (n:=7) (fun _=>rfl) _) ⟨_,_,rfl,rfl⟩ (by rw[List.length_map];omega) ?_)
     rw[←List.map_take]
     refine gg rfl (q0i k rfl rfl rfl (q5w hlt) rfl (gg rfl (q02 rfl rfl hp (gg rfl (q01 rfl (fun f=>?_) (fun f=>?_))))))
     ·rw[q0u]at f
      refine gg rfl (q04 (gg rfl (q08 rfl rfl rfl trivial ?_)))
      have f':q2p s k≠0:=f
      have hf:=q3w (f:=q2p s) h0 f' hlt
      rw[hf,if_pos f'];rfl
     rw[q0z]at f
     exact gg rfl (q04 (hN (k+1) ⟨hlt,q2n h0 f⟩ (by omega) (q03 rfl ⟨rfl,trivial⟩ (by rw[w1];rfl))))
    rw[q07]at e
    obtain rfl:k=s.pieces.length:=by omega
    clear hN
    rw[if_neg (by simp[h0])]
    exact gg rfl (q04 (gg rfl (q02 rfl rfl (qr6 s hB) (gg rfl (q08 rfl rfl rfl trivial rfl)))))
end Go.F

namespace Go.F
attribute [local irreducible] IntKind.wrap wpM
set_option maxRecDepth 100000 in
set_option maxHeartbeats 16000000 in
theorem qJr (s:Sty):PU qAW [s.enc]=some (.bool true):=by
 obtain⟨b,hF,hfew⟩:=qIo s
 have ha:=qIL
 refine q0g (fn:=qgH) rfl (q0a ?_)
 refine gg rfl (q02 rfl rfl hF ?_)
 cases b with
 |false=>
  exact gg rfl (q0e rfl (gg rfl (q02 rfl rfl ha (gg rfl (q08 rfl rfl rfl trivial rfl)))))
 |true=>
  obtain⟨hL,hp4,hz4,hs6⟩:=hfew rfl
  have hB:=hL.B
  have hv:=qID s hB
  have hr:=quw s hB
  have hs:=q3t s hB
  refine gg rfl (q0j rfl (gg rfl (q02 rfl rfl hv (gg rfl (q02 rfl rfl hr ?_)))))
  by_cases h:q2C s=0
  case neg=>
   rw[qve,if_pos h]
   refine gg rfl (q01 rfl (fun _=>?_) (fun q=>absurd (q0z.1 q) h))
   refine gg rfl (q02 rfl rfl hs (gg rfl (q09 rfl (fun _=>?_) (fun q=>absurd rfl (q20.1 q)))))
   refine gg rfl (q09 rfl (fun _=>?_) (fun q=>absurd (q0z.1 q) h))
   refine gg rfl (q09 rfl (fun _=>?_) (fun q=>absurd rfl (q20.1 q)))
   exact gg rfl (q02 rfl rfl ha (gg rfl (q08 rfl rfl rfl trivial rfl)))
  have hok:=qiE h
  have hmm:=hok.mults
  have hlen:(qIz s).length≤1000000000:=Nat.le_trans (qIM s (by omega) (by omega) (by omega)) (by decide)
  have hcr:∀{i:Nat},i<s.pieces.length→(pc s.pieces i).corners.length≤16:=fun hi=>(qiR h hi).2.2
  have hu12:=hok.uses
  rw[qve,if_neg (by simp[h])]
  refine gg rfl (q01 rfl (fun q=>absurd h (q0u.1 q)) (fun _=>?_))
  refine gg rfl (q01 rfl (fun q=>absurd rfl (q0u.1 q)) (fun _=>?_))
  refine gg rfl (q0l (S:=fun b:Nat=>([.ptr 0 0 0,qqc (qIz s),q00 b],[some (.row [s.enc] 7),none,none],[0,0,0])) (C:=fun b=>b≤s.sizes.length) (m:=fun b=>s.sizes.length-b) 0 (Nat.zero_le _) (by omega) ?_ ?_)
  ·exact q03 rfl ⟨rfl,trivial⟩ rfl
  intro b hb N hN
  refine gg rfl ?_
  rw[List.length_map]
  refine q01 rfl (fun e=>?_) (fun e=>?_)
  ·rw[q06]at e
   have hlt:b<s.sizes.length:=by omega
   have hbz:b<s.mults.length:=by omega
   have w1:=wS (n:=b)
   refine gg rfl (q0l (S:=fun a:Nat=>([.ptr 0 0 0,qqc (qIz s),q00 b,q00 a],[some (.row [s.enc] 7),none,none,none],[0,0,0,0])) (C:=fun a=>a≤s.pieces.length) (m:=fun a=>s.pieces.length-a) 0 (Nat.zero_le _) (by omega) ?_ ?_)
   ·exact q03 rfl ⟨rfl,trivial⟩ rfl
   intro a hal N2 hN2
   refine gg rfl ?_
   rw[List.length_map]
   refine q01 rfl (fun f=>?_) (fun f=>?_)
   ·rw[q06]at f
    have hlu:a<s.pieces.length:=by omega
    have w2:=wS (n:=a)
    refine gg rfl (q02 rfl rfl (qJe s hlu hbz (by omega) (hcr hlu) hlen) ?_)
    exact gg rfl (q0j rfl (gg rfl (q04 (hN2 (a+1) hlu (by omega) (q03 rfl ⟨rfl,trivial⟩ (by rw[w2];rfl))))))
   clear hN2
   refine gg rfl (q04 (gg rfl (q0l (S:=fun a:Nat=>([.ptr 0 0 0,qqc (qIz s),q00 b,q00 a],[some (.row [s.enc] 7),none,none,none],[0,0,0,0])) (C:=fun a=>a≤s.seams.length) (m:=fun a=>s.seams.length-a) 0 (Nat.zero_le _) (by omega) ?_ ?_)))
   ·exact q03 rfl ⟨rfl,trivial⟩ rfl
   intro a hal N2 hN2
   refine gg rfl ?_
   rw[List.length_map]
   refine q01 rfl (fun f=>?_) (fun f=>?_)
   ·rw[q06]at f
    have hlu:a<s.seams.length:=by omega
    have w2:=wS (n:=a)
    exact gg rfl (q02 rfl rfl (qJ8 s h hlu hbz hlen) (gg rfl (q0j rfl (gg rfl (q04 (hN2 (a+1) hlu (by omega) (q03 rfl ⟨rfl,trivial⟩ (by rw[w2];rfl))))))))
   clear hN2
   exact gg rfl (q04 (gg rfl (q04 (hN (b+1) hlt (by omega) (q03 rfl ⟨rfl,trivial⟩ (by rw[w1];rfl))))))
  clear hN
  refine gg rfl (q04 (gg rfl (q0l (S:=fun a:Nat=>([.ptr 0 0 0,qqc (qIz s),q00 a],[some (.row [s.enc] 7),none,none],[0,0,0])) (C:=fun a=>a≤s.pieces.length) (m:=fun a=>s.pieces.length-a) 0 (Nat.zero_le _) (by omega) ?_ ?_)))
  ·exact q03 rfl ⟨rfl,trivial⟩ rfl
  intro a hal N hN
  refine gg rfl ?_
  rw[List.length_map]
  refine q01 rfl (fun e=>?_) (fun e=>?_)
  ·rw[q06]at e
   have hlt:a<s.pieces.length:=by omega
   have w1:=wS (n:=a)
   have L6:=qIP hlen ((in6 s hlt (z:=0) (by have:=hok.size;omega)).trans (show o6 s a 0=!qet s.uses a by unfold o6;rw[decide_eq_true rfl,Bool.true_and]))
   refine gg rfl (q0l (S:=fun u:Nat=>([.ptr 0 0 0,qqc (qIz s),q00 a,.bool (!qet (s.uses.take u) a),q00 u],[some (.row [s.enc] 7),none,none,none,none],[0,0,0,0,0])) (C:=fun u=>u≤s.uses.length) (m:=fun u=>s.uses.length-u) 0 (Nat.zero_le _) (by omega) ?_ ?_)
   ·exact q03 rfl ⟨rfl,trivial⟩ rfl
   intro u hu N2 hN2
   refine gg rfl ?_
   rw[List.length_map]
   refine q01 rfl (fun f=>?_) (fun f=>?_)
   ·rw[q06]at f
    have hlu:u<s.uses.length:=by omega
    have w2:=wS (n:=u)
    have hx:=qpR hlu
    have hst:=qDT hlu a
    cases hub:qet (s.uses.take u) a with
    |true=>
     rw[hub,Bool.true_or]at hst
     exact gg rfl (q0o rfl (gg rfl (q04 (hN2 (u+1) hlu (by omega) (q03 rfl ⟨rfl,trivial⟩ (by rw[w2,hst];rfl))))))
    |false=>
     rw[hub,Bool.false_or]at hst
     have hn:nqb (us s.uses u).piece (a:Nat)=!qet (s.uses.take (u+1)) a:=by rw[hst,q42]
     generalize us s.uses u=x at*
     exact gg rfl (q0h rfl (gg rfl (q0i u rfl rfl rfl hx rfl (gg rfl (q04 (hN2 (u+1) hlu (by omega) (q03 rfl ⟨rfl,trivial⟩ (by rw[w2,←hn];rfl))))))))
   rw[q07]at f
   obtain rfl:u=s.uses.length:=by omega
   clear hN2
   rw[List.take_length]
   exact gg rfl (q04 (gg rfl (q02 rfl rfl L6 (gg rfl (q0j rfl (gg rfl (q04 (hN (a+1) hlt (by omega) (q03 rfl ⟨rfl,trivial⟩ (by rw[w1];rfl))))))))))
  clear hN
  exact gg rfl (q04 (gg rfl (q02 rfl rfl ha (gg rfl (q08 rfl rfl rfl trivial rfl)))))
end Go.F
