/- Parts of the proof, part 49: RG3, RG4, RG5, RN1, RN2, RN3, RN4, RefA, RefB, RN5, RN6, RG7, Turn1, Turn2, Turn3, Crv1, Crv2, Cmp1, Trc1, Trc2, Awk0, Awk1, Crv3, Trc3. -/
import Derived.Test.YtakaifogljbgoaaGreatZ48
import Derived.Test.YtakaifogljbgoaaGreatZ47
set_option linter.all false
namespace Go.F
attribute [local irreducible] IntKind.wrap wpM
theorem qau (p:List Spot):PU qvi [q0k p]=some (.tup [.int .i64 (q16 p).1,.int .i64 (q16 p).2]):=by
 refine q0g (fn:=qiA) rfl (q0a ?_)
 refine gg rfl (q02 rfl rfl (qjA p) (gg rfl (q01 rfl (fun h=>?_) (fun h=>?_))))
 ·rw[q0w]at h
  refine gg rfl (q09 rfl rfl rfl trivial ?_)
  rw[q16,if_neg h]
 rw[q0B]at h
 refine gg rfl (q02 rfl rfl (qvY p h) (gg rfl (q09 rfl rfl rfl trivial ?_)))
 rw[q16,if_pos h]
theorem qBn {A rest c bit:Nat}(hc:0<c):2*(A*rest/c)+(2*(A*rest%c)+bit*rest)/c=(2*A+bit) *rest/c∧(2*(A*rest%c)+bit*rest)%c=(2*A+bit) *rest%c:=by
 have h1:=Nat.div_add_mod (A*rest) c
 have e:(2*A+bit) *rest=(2*(A*rest%c)+bit*rest)+c*(2*(A*rest/c)):=by
  have:(2*A+bit) *rest=2*(A*rest)+bit*rest:=by rw[Nat.add_mul,Nat.mul_assoc]
  rw[this]
  generalize A*rest=X at*
  generalize X/c=q at*
  generalize X%c=r at*
  rw[←h1,Nat.mul_add]
  rw[←Nat.mul_assoc c 2 q,Nat.mul_comm c 2,Nat.mul_assoc]
  omega
 rw[e,Nat.add_mul_div_left _ _ hc,Nat.add_mul_mod_self_left]
 exact⟨Nat.add_comm _ _,rfl⟩
theorem qEK (a k:Nat)(hk:k≤40):a/2^(40-k)=2*(a/2^(41-k))+a/2^(40-k)%2:=by
 have e:41-k=40-k+1:=by omega
 rw[e,Nat.pow_succ,←Nat.div_div_eq_div_mul]
 omega
set_option maxHeartbeats 4000000 in
theorem qw0 (a b c:Nat)(hc:0<c)(hc2:c≤1099511627776)(hb:b≤1099511627776)(ha:a≤c):
 PU qy7 [.int .i64 a,.int .i64 b,.int .i64 c]=some (.int .i64 (q1B ((a:Int) *b) c)):=by
 have hr:=qnY (a:=a*b) hc
 rw[Int.natCast_mul]at hr
 rw[hr]
 have e1:((b:Int)).tdiv (c:Int)=((b/c:Nat):Int):=by rw[Int.tdiv_eq_ediv_of_nonneg (by omega)];rfl
 have e2:((b:Int)).tmod (c:Int)=((b%c:Nat):Int):=by rw[Int.tmod_eq_emod_of_nonneg (by omega)];rfl
 have hdm:=Nat.div_add_mod b c
 have hrest:=Nat.mod_lt b hc
 have hW:a*(b/c)≤b:=Nat.le_trans (Nat.mul_le_mul_right _ ha) (by rw[Nat.mul_comm];exact Nat.div_mul_le_self b c)
 have hW2:b/c≤b:=Nat.div_le_self _ _
 have hab:a*b=a*(b%c)+c*(a*(b/c)):=by
  conv=>lhs;rw[←hdm]
  rw[Nat.mul_add,←Nat.mul_assoc,Nat.mul_comm a c,Nat.mul_assoc,Nat.add_comm]
 have hq:a*b/c=a*(b/c)+a*(b%c)/c:=by rw[hab,Nat.add_mul_div_left _ _ hc,Nat.add_comm]
 have hm:a*b%c=a*(b%c)%c:=by rw[hab,Nat.add_mul_mod_self_left]
 rw[hq,hm]
 generalize b/c=wh at*
 generalize b%c=rest at*
 clear hr hab hq hm hdm
 have w0:=ww (x:=(wh:Int))
 have w1:IntKind.i64.wrap ((a:Int) *(wh:Int))=((a*wh:Nat):Int):=by
  rw[←Int.natCast_mul]
  generalize a*wh=x at*
  exact wrap64 (by omega) (by omega)
 have hpow:a/2^41=0:=Nat.div_eq_of_lt (by omega)
 refine q0g (fn:=qlB) rfl (q0a ?_)
 refine gg rfl (qfg rfl rfl (by omega) ?_)
 rw[e1,w0]
 refine gg rfl (q2K rfl rfl (by omega) ?_)
 rw[e2]
 refine gg rfl ?_
 rw[w1]
 refine q0l (S:=fun k:Nat=>([.int .i64 a,.int .i64 c,.int .i64 rest,.int .i64 ((a*wh:Nat):Int),.int .i64 ((a/2^(41-k) *rest/c:Nat):Int),.int .i64 ((a/2^(41-k) *rest%c:Nat):Int),.int .i64 (40-(k:Int))],[none,none,none,none,none,none,none],[0,0,0,0,0,0,0])) (C:=fun k=>k≤41) (m:=fun k=>41-k) 0 (Nat.zero_le _) (by omega) ?_ ?_
 ·refine q03 rfl trivial ?_
  show _=([D.int .i64 a,.int .i64 c,.int .i64 rest,.int .i64 ((a*wh:Nat):Int),.int .i64 ((a/2^41*rest/c:Nat):Int),.int .i64 ((a/2^41*rest%c:Nat):Int),.int .i64 (40-((0:Nat):Int))],_,_)
  rw[hpow]
  simp
 intro k hk N hN
 refine gg rfl (q01 rfl (fun g=>?_) (fun g=>?_))
 ·rw[q0G]at g
  have hk40:k≤40:=by omega
  have hh:=qEK a k hk40
  have hB:a/2^(40-k)≤a:=Nat.div_le_self _ _
  have hbit:a/2^(40-k)%2<2:=Nat.mod_lt _ (by decide)
  have hs:=qBn (A:=a/2^(41-k)) (rest:=rest) (c:=c) (bit:=a/2^(40-k)%2) hc
  rw[←hh]at hs
  have hl:=Nat.mod_lt (a/2^(41-k) *rest) hc
  have hq:a/2^(40-k) *rest/c≤a:=Nat.le_trans (Nat.div_le_of_le_mul (by rw[Nat.mul_comm];exact Nat.mul_le_mul_right _ (by omega))) hB
  have sh:IntKind.u64.wrap (40-(k:Int))=((40-k:Nat):Int):=by
   rw[show(40-(k:Int))=((40-k:Nat):Int)by omega];exact q0F (by omega)
  have ek:(40-((k+1:Nat):Int))=40-(k:Int)-1:=by omega
  have wk:=ww (x:=40-(k:Int)-1)
  have e41:41-(k+1)=40-k:=by omega
  generalize hX:a/2^(40-k) *rest/c=q' at*
  generalize hY:a/2^(40-k) *rest%c=l' at*
  generalize a/2^(41-k) *rest/c=q at*
  generalize a/2^(41-k) *rest%c=l at*
  obtain⟨hs1,hs2⟩:=hs
  have h2q:2*q≤q':=by rw[←hs1];exact Nat.le_add_right _ _
  have w2:=ww (x:=2*(q:Int))
  have w3:=ww (x:=2*(l:Int))
  refine gg rfl ?_
  rw[w2,w3,sh]
  refine q1d a (40-k) rfl rfl rfl rfl (by show 40-k≤64;omega) ?_
  generalize hBB:a/2^(40-k)=B at*
  have e3:((B:Nat):Int).tmod 2=((B%2:Nat):Int):=by rw[Int.tmod_eq_emod_of_nonneg (by omega)];rfl
  have fin:∀L:Nat,L=2*l+B%2*rest→((L:Int)).tdiv (c:Int)=((L/c:Nat):Int)∧((L:Int)).tmod (c:Int)=((l':Nat):Int)∧L/c≤L∧2*q+L/c=q':=by
   rintro L rfl
   refine⟨by rw[Int.tdiv_eq_ediv_of_nonneg (by omega)];rfl,?_,Nat.div_le_self _ _,hs1⟩
   rw[Int.tmod_eq_emod_of_nonneg (by omega),←hs2];rfl
  refine gg rfl (q2K rfl rfl (by decide) ?_)
  rw[e3]
  refine gg rfl (q01 rfl (fun f=>?_) (fun f=>?_))
  ·rw[q1I]at f
   have f:B%2=1:=by omega
   have hf:=fin (2*l+rest) (by rw[f];omega)
   have w4:IntKind.i64.wrap (2*(l:Int)+(rest:Int))=((2*l+rest:Nat):Int):=by rw[wrap64 (by omega) (by omega)];omega
   obtain⟨f1,f2,f3,f4⟩:=hf
   refine gg rfl ?_
   rw[w4]
   refine qfg rfl rfl (by omega) ?_
   rw[f1]
   generalize (2*l+rest)/c=v at*
   have w5:=ww (x:=(v:Int))
   rw[w5]
   have w6:IntKind.i64.wrap (2*(q:Int)+(v:Int))=(q':Int):=by rw[wrap64 (by omega) (by omega)];omega
   refine gg rfl ?_
   rw[w6]
   refine q2K rfl rfl (by omega) ?_
   rw[f2]
   refine gg rfl (q04 (hN (k+1) (by omega) (by omega) (q03 rfl trivial ?_)))
   rw[e41,hBB,hX,hY,ek,wk]
  rw[q1J]at f
  have f:B%2=0:=by omega
  have hf:=fin (2*l) (by rw[f];omega)
  obtain⟨f1,f2,f3,f4⟩:=hf
  have el:(2*(l:Int))=((2*l:Nat):Int):=by omega
  refine gg rfl ?_
  rw[el]
  refine qfg rfl rfl (by omega) ?_
  rw[f1]
  generalize (2*l)/c=v at*
  have w5:=ww (x:=(v:Int))
  rw[w5]
  have w6:IntKind.i64.wrap (2*(q:Int)+(v:Int))=(q':Int):=by rw[wrap64 (by omega) (by omega)];omega
  refine gg rfl ?_
  rw[w6]
  refine q2K rfl rfl (by omega) ?_
  rw[f2]
  refine gg rfl (q04 (hN (k+1) (by omega) (by omega) (q03 rfl trivial ?_)))
  rw[e41,hBB,hX,hY,ek,wk]
 rw[q0I]at g
 obtain rfl:k=41:=by omega
 clear hN
 have e0:a/2^(41-41)=a:=by simp
 rw[e0]
 have hl:=Nat.mod_lt (a*rest) hc
 have hq:a*rest/c≤a:=Nat.div_le_of_le_mul (by rw[Nat.mul_comm];exact Nat.mul_le_mul_right _ (by omega))
 generalize a*rest/c=q at*
 generalize a*rest%c=l at*
 have w2:=ww (x:=2*(l:Int))
 refine gg rfl (q04 (gg rfl ?_))
 rw[w2]
 refine q01 rfl (fun f=>?_) (fun f=>?_)
 ·rw[q0G]at f
  rw[if_pos (by omega)]
  have w3:=ww (x:=(q:Int)+1)
  have w4:IntKind.i64.wrap (((a*wh:Nat):Int)+((q:Int)+1))=((a*wh+q+1:Nat):Int):=by rw[wrap64 (by omega) (by omega)];omega
  refine gg rfl ?_
  rw[w3,w4]
  exact q09 rfl rfl rfl trivial rfl
 rw[q0I]at f
 rw[if_neg (by omega)]
 have w4:IntKind.i64.wrap (((a*wh:Nat):Int)+(q:Int))=((a*wh+q+0:Nat):Int):=by rw[wrap64 (by omega) (by omega)];omega
 refine gg rfl ?_
 rw[w4]
 exact q09 rfl rfl rfl trivial rfl
theorem qqW (fr to:Int)(rev:Bool)(at_:Int):PU qs0 [.int .i64 fr,.int .i64 to,.bool rev,.int .i64 at_]=some (.tup [.int .i64 (q3R fr to rev at_).1,.int .i64 (q3R fr to rev at_).2]):=by
 by_cases hb:q4X fr to at_
 ·rw[q3R,if_pos hb]
  unfold q4X at hb
  refine q0g (fn:=qan) rfl (q0a ?_)
  repeat' (first
   |refine goP 800 rfl rfl ?_
   |refine q0h rfl ?_|refine q0m rfl ?_|refine q08 rfl (fun _=>?_) (fun _=>?_)
   |refine q0d rfl ?_|refine q0i rfl ?_|refine q01 rfl (fun _=>?_) (fun _=>?_)
   |refine q0Q rfl (fun _=>?_) (fun _=>?_)
   |refine q09 rfl rfl rfl trivial ?_)
  all_goals first
   |rfl
   |(exfalso;simp only[q06,q07]at*;omega)
 rw[q3R,if_neg hb]
 unfold q4X at hb
 obtain⟨F,rfl⟩:∃n:Nat,fr=n:=⟨fr.toNat,by omega⟩
 obtain⟨T,rfl⟩:∃n:Nat,to=n:=⟨to.toNat,by omega⟩
 obtain⟨A,rfl⟩:∃n:Nat,at_=n:=⟨at_.toNat,by omega⟩
 have hs:=qw0 A T F (by omega) (by omega) (by omega) (by omega)
 have hr:=qnY (a:=A*T) (b:=F) (by omega)
 rw[Int.natCast_mul]at hr
 have hquo:A*T/F≤T:=Nat.div_le_of_le_mul (Nat.mul_le_mul_right _ (by omega))
 have hR:0≤q1B ((A:Int) *T) F∧q1B ((A:Int) *T) F≤T+1:=by
  rw[hr]
  generalize A*T/F=x at*
  split<;>omega
 generalize q1B ((A:Int) *T) F=R at*
 have w7:=ww (x:=(T:Int)-R)
 have no:∀{x y:Int} {P:Prop},¬x<y→ltb x y=true→P:=fun h g=>absurd (q06.1 g) h
 refine q0g (fn:=qan) rfl (q0a ?_)
 refine gg rfl (q08 rfl (no (by omega)) (fun _=>?_))
 refine gg rfl (q08 rfl (no (by omega)) (fun _=>?_))
 refine gg rfl (q08 rfl (no (by omega)) (fun _=>?_))
 refine gg rfl (q08 rfl (no (by omega)) (fun _=>?_))
 refine gg rfl (q08 rfl (no (by omega)) (fun _=>?_))
 refine gg rfl (q01 rfl (no (by omega)) (fun _=>?_))
 refine gg rfl (q02 rfl rfl hs (gg rfl ?_))
 cases rev with
 |true=>
  refine q0d rfl (gg rfl ?_)
  rw[w7]
  exact q09 rfl rfl rfl trivial rfl
 |false=>
  exact q0i rfl (gg rfl (q09 rfl rfl rfl trivial rfl))
theorem qyT {l:List Edge}(h:q0O l=0){k:Nat}(hk:k<l.length):q1C (eg l k).line=0:=q34 (q1e (q18 h).2.2.1 hk)
set_option maxHeartbeats 4000000 in
theorem qav (p:Piece)(m:Int)(hc:p.corners.length≤1000000):
 PU qvc [p.enc,.int .i64 m]=some (.tup [ints (q0W p m).1,.int .i64 (q0W p m).2]):=by
 refine q0g (fn:=qhO) rfl (q0a ?_)
 refine gg rfl (q02 rfl rfl (q3w p m hc) (gg rfl (q01 rfl (fun h=>?_) (fun h=>?_))))
 ·rw[q0w]at h
  refine gg rfl (q09 rfl rfl rfl trivial ?_)
  rw[q0W,if_pos h];rfl
 have h:(q0p p m).2=0:=q0B.1 h
 obtain⟨hg,hck1,hck2,_⟩:=q2l h
 have hr:q0W p m=if 16<p.notches.length then([],5)
  else if q2O p (q0p p m).1 p.notches≠0 then([],q2O p (q0p p m).1 p.notches)
  else(p.notches.map fun n=>(q1E p (q0p p m).1 n).1,0):=by rw[q0W,if_neg (by omega)]
 rw[hr]
 generalize (q0p p m).1=G at*
 refine gg rfl ?_
 rw[List.length_map]
 refine q01 rfl (fun h2=>?_) (fun h2=>?_)
 ·rw[q06]at h2
  refine gg rfl (q09 rfl rfl rfl trivial ?_)
  rw[if_pos (by omega)];rfl
 rw[q07]at h2
 rw[if_neg (by omega)]
 refine gg rfl (q0l (S:=fun k:Nat=>([.ptr 0 0 0,edges G,.ref 2 0 k,q00 k],[some (.row [p.enc] 7),none,some (.row (((p.notches.take k).map fun n=>(q1E p G n).1).map q00) 1),none],[0,0,0,0])) (C:=fun k=>k≤p.notches.length∧q2O p G p.notches=q2O p G (p.notches.drop k)) (m:=fun k=>p.notches.length-k) 0 ⟨Nat.zero_le _,rfl⟩ (by omega) ?_ ?_)
 ·exact q03 rfl ⟨rfl,rfl,trivial⟩ rfl
 rintro k ⟨hk,hke⟩ N hN
 refine gg rfl ?_
 rw[List.length_map]
 refine q01 rfl (fun e1=>?_) (fun e1=>?_)
 ·rw[q06]at e1
  have hlt:k<p.notches.length:=by omega
  have w1:=wS (n:=k)
  have hdr:p.notches.drop k=nt p.notches k::p.notches.drop (k+1):=by rw[List.drop_eq_getElem_cons hlt,qwv hlt]
  have hst:(((p.notches.take (k+1)).map fun n=>(q1E p G n).1).map q00)=((p.notches.take k).map fun n=>(q1E p G n).1).map q00++[q00 (q1E p G (nt p.notches k)).1]:=by
   rw[List.take_succ_eq_append_getElem hlt,List.map_append,List.map_append,qwv hlt];rfl
  have hne:=qhE hlt
  rw[hdr,q2O]at hke
  generalize nt p.notches k=n at*
  have bad:(q1E p G n).2≠0→q2O p G p.notches=(q1E p G n).2:=fun h=>by rw[hke,if_neg h]
  refine gg rfl (q0j k rfl rfl rfl hne rfl (gg rfl (q08 rfl (fun f1=>?_) (fun f1=>?_))))
  ·rw[q06]at f1
   have hn:q1E p G n=(0,3):=by rw[q1E,if_pos (.inl f1)]
   rw[hn]at bad
   refine gg rfl (q0d rfl (gg rfl (q04 (gg rfl (q09 rfl rfl rfl trivial ?_)))))
   rw[bad (by decide)];rfl
  rw[q07]at f1
  refine gg rfl ?_
  rw[List.length_map]
  refine q01 rfl (fun f2=>?_) (fun f2=>?_)
  ·rw[q0G]at f2
   have hn:q1E p G n=(0,3):=by rw[q1E,if_pos (.inr f2)]
   rw[hn]at bad
   refine gg rfl (q04 (gg rfl (q09 rfl rfl rfl trivial ?_)))
   rw[bad (by decide)];rfl
  rw[q0I]at f2
  have ei:n.edge=((n.edge.toNat:Nat):Int):=by omega
  have hl1:n.edge.toNat<p.edges.length:=by omega
  have hl2:n.edge.toNat<G.length:=by omega
  have l1:=qau (eg p.edges n.edge.toNat).line
  have l2:=qau (eg G n.edge.toNat).line
  have hn0:q1E p G n=if(q16 (eg p.edges n.edge.toNat).line).2≠0 then(0,(q16 (eg p.edges n.edge.toNat).line).2)
   else if(q16 (eg G n.edge.toNat).line).2≠0 then(0,(q16 (eg G n.edge.toNat).line).2)
   else q3R (q16 (eg p.edges n.edge.toNat).line).1 (q16 (eg G n.edge.toNat).line).1 false n.at_:=by rw[q1E,if_neg (by omega)]
  have f3:(q16 (eg p.edges n.edge.toNat).line).2=0:=by rw[q16,if_pos (qyT hck1 hl1)]
  have f4:(q16 (eg G n.edge.toNat).line).2=0:=by rw[q16,if_pos (qyT hck2 hl2)]
  rw[if_neg (by simp[f3]),if_neg (by simp[f4])]at hn0
  refine gg rfl (q0j n.edge.toNat rfl rfl ei (q1D hl1) rfl (gg rfl (q02 rfl rfl l1 (gg rfl (q0j n.edge.toNat rfl rfl ei (q1D hl2) rfl (gg rfl (q02 rfl rfl l2 (gg rfl (q02 rfl rfl (qqW (q16 (eg p.edges n.edge.toNat).line).1 (q16 (eg G n.edge.toNat).line).1 false n.at_) ?_)))))))))
  rw[←hn0]
  refine gg rfl (q01 rfl (fun f5=>?_) (fun f5=>?_))
  ·rw[q0w]at f5
   refine gg rfl (q04 (gg rfl (q09 rfl rfl rfl trivial ?_)))
   rw[bad f5,if_pos f5];rfl
  rw[q0B]at f5
  rw[if_pos f5]at hke
  refine gg rfl (q1g rfl rfl rfl rfl rfl rfl (by simp;omega) (Nat.zero_le _) (by simp[q0N];omega) ?_)
  refine gg rfl (q04 (hN (k+1) ⟨hlt,hke⟩ (by omega) (q03 rfl ⟨rfl,?_,trivial⟩ ?_)))
  ·rw[List.all_append,q05 q4Q];rfl
  rw[hst,w1];rfl
 rw[q07]at e1
 obtain rfl:k=p.notches.length:=by omega
 have hz:q2O p G p.notches=0:=by rw[hke,List.drop_length];rfl
 rw[hz,List.take_length]
 refine gg rfl (q04 (gg rfl (q09 rfl rfl rfl ⟨q1n (by simp) (q0L q7e _),trivial⟩ ?_)))
 rw[q1o (by simp)];rfl
end Go.F

namespace Go.F
attribute [local irreducible] IntKind.wrap wpM
set_option maxHeartbeats 2000000 in
theorem qyU (s:ByteArray):PU qAD [.str s]=some (.bool (sizeS s)):=by
 refine q0g (fn:=qoq) rfl (q0a ?_)
 refine gg rfl (q08 rfl (fun h0=>?_) (fun h0=>?_))
 ·repeat' (first
   |refine goP 800 rfl rfl ?_
   |refine q0h rfl ?_|refine q0m rfl ?_|refine q08 rfl (fun _=>?_) (fun _=>?_)
   |refine q0d rfl ?_|refine q0i rfl ?_|refine q01 rfl (fun _=>?_) (fun _=>?_)
   |refine q0Q rfl (fun _=>?_) (fun _=>?_)
   |refine q09 rfl rfl rfl trivial ?_)
  rw[qc6,qj2,decide_eq_true_eq]at h0
  simp[sizeS,h0]
 refine gg rfl ?_
 rw[qc6,qj2,decide_eq_false_iff_not]at h0
 refine q01 rfl (fun h1=>?_) (fun h1=>?_)
 ·refine gg rfl (q09 rfl rfl rfl trivial ?_)
  rw[q06]at h1
  have:¬s.size≤8:=by omega
  simp[sizeS,this]
 rw[q07]at h1
 refine gg rfl (q0l (S:=fun k:Nat=>([.str s,q00 k],[none,none],[0,0])) (C:=fun k=>k≤s.size∧∀i,i<k→q38 (q2G s i).toNat=true) (m:=fun k=>s.size-k) 0 ⟨by omega,fun i hi=>by omega⟩ (by omega) ?_ ?_)
 ·exact q03 rfl trivial (by simp[q00])
 intro k ⟨hk,hall⟩ N hN
 refine gg rfl (q01 rfl (fun g1=>?_) (fun g1=>?_))
 ·rw[q06]at g1
  have hlt:k<s.size:=by omega
  have w1:=wS (n:=k)
  have hb:=q6V hlt
  have hno:=qzr hlt
  have hyes:q38 (q2G s k).toNat=true→∀i,i<k+1→q38 (q2G s i).toNat=true:=by
   intro h i hi
   by_cases e:i=k
   ·subst e;exact h
   exact hall i (by omega)
  generalize q2G s k=c at*
  refine gg rfl (q2q k rfl rfl rfl hb (gg rfl (q08 rfl (fun a1=>?_) (fun a1=>?_))))
  ·refine gg rfl (q2q k rfl rfl rfl hb (gg rfl (q08 rfl (fun a2=>?_) (fun a2=>?_))))
   ·have hc:q38 c.toNat=true:=by rw[q1G];simp_all
    exact gg rfl (q0i rfl (gg rfl (q04 (hN (k+1) ⟨hlt,hyes hc⟩ (by omega) (q03 rfl trivial (by simp[q00,w1]))))))
   refine gg rfl (q2q k rfl rfl rfl hb (gg rfl (q08 rfl (fun d1=>?_) (fun d1=>?_))))
   ·refine gg rfl (q2q k rfl rfl rfl hb (gg rfl (q01 rfl (fun d2=>?_) (fun d2=>?_))))
    ·have hc:q38 c.toNat=false:=by rw[q1G];simp_all
     refine gg rfl (q04 (gg rfl (q09 rfl rfl rfl trivial ?_)))
     rw[hno hc]
    have hc:q38 c.toNat=true:=by rw[q1G];simp_all
    exact gg rfl (q04 (hN (k+1) ⟨hlt,hyes hc⟩ (by omega) (q03 rfl trivial (by simp[q00,w1]))))
   have hc:q38 c.toNat=false:=by rw[q1G];simp_all
   refine gg rfl (q0d rfl (gg rfl (q04 (gg rfl (q09 rfl rfl rfl trivial ?_)))))
   rw[hno hc]
  refine gg rfl (q0m rfl (gg rfl (q2q k rfl rfl rfl hb (gg rfl (q08 rfl (fun d1=>?_) (fun d1=>?_))))))
  ·refine gg rfl (q2q k rfl rfl rfl hb (gg rfl (q01 rfl (fun d2=>?_) (fun d2=>?_))))
   ·have hc:q38 c.toNat=false:=by rw[q1G];simp_all
    refine gg rfl (q04 (gg rfl (q09 rfl rfl rfl trivial ?_)))
    rw[hno hc]
   have hc:q38 c.toNat=true:=by rw[q1G];simp_all
   exact gg rfl (q04 (hN (k+1) ⟨hlt,hyes hc⟩ (by omega) (q03 rfl trivial (by simp[q00,w1]))))
  have hc:q38 c.toNat=false:=by rw[q1G];simp_all
  refine gg rfl (q0d rfl (gg rfl (q04 (gg rfl (q09 rfl rfl rfl trivial ?_)))))
  rw[hno hc]
 rw[q07]at g1
 obtain rfl:k=s.size:=by omega
 refine gg rfl (q04 (gg rfl (q09 rfl rfl rfl trivial ?_)))
 rw[sizeS,decide_eq_true hall,decide_eq_true (show 1≤s.size by omega),decide_eq_true (show s.size≤8 by omega)];rfl
def sizedB (s:Sty):Bool:=decide (q1X s.name=true∧s.sizes.length≠0∧s.sizes.any (fun x=>!sizeS x)=false∧0∈s.mults∧s.mults.length=s.sizes.length)
set_option maxHeartbeats 4000000 in
theorem qw1 (s:Sty)(hB:StyB s):PU qxI [s.enc]=some (.bool (sizedB s)):=by
 have b1:=hB.sizes
 have b2:=hB.mults
 refine q0g (fn:=qm6) rfl (q0a ?_)
 refine gg rfl (q02 rfl rfl (qeI s.name) ?_)
 cases hn:q1X s.name with
 |false=>
  refine gg rfl (q0h rfl (gg rfl (q0d rfl (gg rfl (q09 rfl rfl rfl trivial ?_)))))
  simp[sizedB,hn]
 |true=>
  refine gg rfl (q0m rfl (gg rfl ?_))
  rw[List.length_map]
  refine q01 rfl (fun g=>?_) (fun g=>?_)
  ·rw[q1I]at g
   refine gg rfl (q09 rfl rfl rfl trivial ?_)
   have:s.sizes.length=0:=by omega
   rw[sizedB,decide_eq_false (fun h=>h.2.1 this)]
  rw[q1J]at g
  refine gg rfl (q0l (S:=fun k:Nat=>([.ptr 0 0 0,q00 k],[some (.row [s.enc] 7),none],[0,0])) (C:=fun k=>k≤s.sizes.length∧∀j (hj:j<s.sizes.length),j<k→sizeS s.sizes[j]=true) (m:=fun k=>s.sizes.length-k) 0 ⟨Nat.zero_le _,fun j _ h=>by omega⟩ (by omega) ?_ ?_)
  ·exact q03 rfl ⟨rfl,trivial⟩ rfl
  rintro k ⟨hk,hall⟩ N hN
  refine gg rfl ?_
  rw[List.length_map]
  refine q01 rfl (fun e=>?_) (fun e=>?_)
  ·rw[q06]at e
   have hlt:k<s.sizes.length:=by omega
   have w1:=wS (n:=k)
   have hz:=qyU s.sizes[k]
   refine gg rfl (q0j k rfl rfl rfl (q1K hlt) rfl (gg rfl (q02 rfl rfl hz ?_)))
   cases hv:sizeS s.sizes[k]with
   |false=>
    refine gg rfl (q0d rfl (gg rfl (q04 (gg rfl (q09 rfl rfl rfl trivial ?_)))))
    have ha:s.sizes.any (fun x=>!sizeS x)=true:=q2j hlt (by rw[hv];rfl)
    rw[sizedB,decide_eq_false (fun h=>by rw[ha]at h;cases h.2.2.1)]
   |true=>
    refine gg rfl (q0i rfl (gg rfl (q04 (hN (k+1) ⟨hlt,fun j hj hjk=>?_⟩ (by omega) (q03 rfl ⟨rfl,trivial⟩ (by rw[w1];rfl))))))
    by_cases ej:j=k
    ·subst ej;exact hv
    exact hall j hj (by omega)
  rw[q07]at e
  obtain rfl:k=s.sizes.length:=by omega
  clear hN
  have hc2:s.sizes.any (fun x=>!sizeS x)=false:=q29 fun j hj=>by rw[hall j hj hj];rfl
  refine gg rfl (q04 (gg rfl (q0l (S:=fun k:Nat=>([.ptr 0 0 0,.bool (decide (0∈s.mults.take k)),q00 k],[some (.row [s.enc] 7),none,none],[0,0,0])) (C:=fun k=>k≤s.mults.length) (m:=fun k=>s.mults.length-k) 0 (Nat.zero_le _) (by omega) ?_ ?_)))
  ·exact q03 rfl ⟨rfl,trivial⟩ (by simp[q00])
  intro k hk N hN
  refine gg rfl ?_
  rw[List.length_map]
  refine q01 rfl (fun e=>?_) (fun e=>?_)
  ·rw[q06]at e
   have hlt:k<s.mults.length:=by omega
   have w1:=wS (n:=k)
   have hst:(0∈s.mults.take (k+1))↔(0∈s.mults.take k∨mu s.mults k=0):=by
    rw[List.take_succ_eq_append_getElem hlt,List.mem_append,List.mem_singleton,qkU hlt]
    exact⟨fun h=>h.imp id Eq.symm,fun h=>h.imp id Eq.symm⟩
   cases hb:decide (0∈s.mults.take k)with
   |true=>
    have hb:=of_decide_eq_true hb
    refine gg rfl (q0h rfl (gg rfl (q04 (hN (k+1) hlt (by omega) (q03 rfl ⟨rfl,trivial⟩ ?_)))))
    rw[w1,decide_eq_true (hst.2 (.inl hb))];rfl
   |false=>
    have hb:=of_decide_eq_false hb
    refine gg rfl (q0m rfl (gg rfl (q0j k rfl rfl rfl (q7Z hlt) rfl (gg rfl (q04 (hN (k+1) hlt (by omega) (q03 rfl ⟨rfl,trivial⟩ ?_)))))))
    have e2:decide (0∈s.mults.take (k+1))=eqb (mu s.mults k) 0:=by
     rw[q2o]
     exact decide_eq_decide.2 ⟨fun h=>(hst.1 h).resolve_left hb,fun h=>hst.2 (.inr h)⟩
    rw[w1,e2];rfl
  rw[q07]at e
  obtain rfl:k=s.mults.length:=by omega
  clear hN
  rw[List.take_length]
  refine gg rfl (q04 (gg rfl ?_))
  cases hz:decide (0∈s.mults)with
  |false=>
   have hz:=of_decide_eq_false hz
   refine q0m rfl (gg rfl (q09 rfl rfl rfl trivial ?_))
   rw[sizedB,decide_eq_false (fun h=>hz h.2.2.2.1)]
  |true=>
   have hz:=of_decide_eq_true hz
   refine q0h rfl (gg rfl (q09 rfl rfl rfl trivial ?_))
   rw[List.length_map,List.length_map,q2o,sizedB]
   congr 1
   refine decide_eq_decide.2 ⟨fun h=>⟨hn,by omega,hc2,hz,by omega⟩,fun h=>?_⟩
   have:=h.2.2.2.2
   omega
set_option maxHeartbeats 4000000 in
theorem qw2 (l:List ByteArray)(hl:l.length≤1000):PU qxJ [strs l]=some (.bool (q5i l)):=by
 refine q0g (fn:=qm8) rfl (q0a ?_)
 refine gg rfl (q0l (S:=fun k:Nat=>([strs l,q00 k],[none,none],[0,0])) (C:=fun k=>k≤l.length∧∀i,i<k→((l.take i).any fun x=>x.toList==(sz l i).toList)=false) (m:=fun k=>l.length-k) 0 ⟨Nat.zero_le _,fun j h=>by omega⟩ (by omega) ?_ ?_)
 ·exact q03 rfl trivial rfl
 rintro k ⟨hk,htw⟩ N hN
 refine gg rfl ?_
 rw[List.length_map]
 refine q01 rfl (fun e=>?_) (fun e=>?_)
 ·rw[q06]at e
  have hlt:k<l.length:=by omega
  have w1:=wS (n:=k)
  refine gg rfl (q0l (S:=fun j:Nat=>([strs l,q00 k,q00 j],[none,none,none],[0,0,0])) (C:=fun j=>j≤k∧∀i (hi:i<l.length),i<j→(l[i].toList==(sz l k).toList)=false) (m:=fun j=>k-j) 0 ⟨Nat.zero_le _,fun j _ h=>by omega⟩ (by omega) ?_ ?_)
  ·exact q03 rfl trivial rfl
  rintro j ⟨hj,hno⟩ N2 hN2
  refine gg rfl (q01 rfl (fun f=>?_) (fun f=>?_))
  ·rw[q06]at f
   have hjk:j<k:=by omega
   have w2:=wS (n:=j)
   refine gg rfl (q0j k rfl rfl rfl (qBR hlt) rfl (gg rfl (q0j j rfl rfl rfl (qBR (by omega)) rfl ?_)))
   refine gg rfl (q01 rfl (fun g=>?_) (fun g=>?_))
   ·refine gg rfl (q04 (gg rfl (q04 (gg rfl (q09 rfl rfl rfl trivial ?_)))))
    have ht:q5i l=true:=by
     unfold q5i
     rw[List.any_eq_true]
     refine⟨k,List.mem_range.2 hlt,?_⟩
     rw[List.any_eq_true]
     refine⟨sz l j,?_,?_⟩
     ·rw[qBQ (by omega)]
      have h1:(l.take k)[j]'(by rw[List.length_take];omega)=l[j]:=by simp
      rw[←h1]
      exact List.getElem_mem _
     have g:((sz l k).toList==(sz l j).toList)=true:=g
     rw[beq_iff_eq]at g⊢
     exact g.symm
    rw[ht]
   refine gg rfl (q04 (hN2 (j+1) ⟨hjk,fun i hi hij=>?_⟩ (by omega) (q03 rfl trivial (by rw[w2];rfl))))
   by_cases ei:i=j
   ·subst ei
    have g:((sz l k).toList==(sz l i).toList)=false:=g
    rw[beq_eq_false_iff_ne]at g⊢
    rw[←qBQ hi]
    exact fun h=>g h.symm
   exact hno i hi (by omega)
  rw[q07]at f
  obtain rfl:j=k:=by omega
  clear hN2
  refine gg rfl (q04 (gg rfl (q04 (hN (j+1) ⟨hlt,fun i hi=>?_⟩ (by omega) (q03 rfl trivial (by rw[w1];rfl))))))
  by_cases ei:i=j
  ·subst ei
   refine q29 fun a ha=>?_
   rw[List.length_take]at ha
   have h1:(l.take i)[a]'(by rw[List.length_take];omega)=l[a]:=by simp
   rw[h1]
   exact hno a (by omega) (by omega)
  exact htw i (by omega)
 rw[q07]at e
 obtain rfl:k=l.length:=by omega
 clear hN
 refine gg rfl (q04 (gg rfl (q09 rfl rfl rfl trivial ?_)))
 have ht:q5i l=false:=by
  unfold q5i
  rw[List.any_eq_false]
  intro i hi h
  rw[htw i (List.mem_range.1 hi)]at h;cases h
 rw[ht]
def qjw (s:Sty):Bool:=decide (12<s.sizes.length∨12<s.pieces.length∨24<s.seams.length∨16<s.ops.length∨12<s.uses.length)
theorem qyV (s:Sty):PU qAA [s.enc]=some (.bool (qjw s)):=by
 refine q0g (fn:=qom) rfl (q0a ?_)
 refine gg rfl ?_
 rw[List.length_map]
 refine q08 rfl (fun e1=>?_) (fun e1=>?_)
 ·rw[q06]at e1
  repeat' (first
   |refine goP 800 rfl rfl ?_
   |refine q0h rfl ?_|refine q0m rfl ?_|refine q08 rfl (fun _=>?_) (fun _=>?_)
   |refine q0d rfl ?_|refine q0i rfl ?_|refine q01 rfl (fun _=>?_) (fun _=>?_)
   |refine q0Q rfl (fun _=>?_) (fun _=>?_)
   |refine q09 rfl rfl rfl trivial ?_)
  rw[qjw,decide_eq_true (.inl (by omega))]
 rw[q07]at e1
 refine gg rfl ?_
 rw[List.length_map]
 refine q08 rfl (fun e2=>?_) (fun e2=>?_)
 ·rw[q06]at e2
  repeat' (first
   |refine goP 800 rfl rfl ?_
   |refine q0h rfl ?_|refine q0m rfl ?_|refine q08 rfl (fun _=>?_) (fun _=>?_)
   |refine q0d rfl ?_|refine q0i rfl ?_|refine q01 rfl (fun _=>?_) (fun _=>?_)
   |refine q0Q rfl (fun _=>?_) (fun _=>?_)
   |refine q09 rfl rfl rfl trivial ?_)
  rw[qjw,decide_eq_true (.inr (.inl (by omega)))]
 rw[q07]at e2
 refine gg rfl ?_
 rw[List.length_map]
 refine q08 rfl (fun e3=>?_) (fun e3=>?_)
 ·rw[q06]at e3
  repeat' (first
   |refine goP 800 rfl rfl ?_
   |refine q0h rfl ?_|refine q0m rfl ?_|refine q08 rfl (fun _=>?_) (fun _=>?_)
   |refine q0d rfl ?_|refine q0i rfl ?_|refine q01 rfl (fun _=>?_) (fun _=>?_)
   |refine q0Q rfl (fun _=>?_) (fun _=>?_)
   |refine q09 rfl rfl rfl trivial ?_)
  rw[qjw,decide_eq_true (.inr (.inr (.inl (by omega))))]
 rw[q07]at e3
 refine gg rfl ?_
 rw[List.length_map]
 refine q08 rfl (fun e4=>?_) (fun e4=>?_)
 ·rw[q06]at e4
  repeat' (first
   |refine goP 800 rfl rfl ?_
   |refine q0h rfl ?_|refine q0m rfl ?_|refine q08 rfl (fun _=>?_) (fun _=>?_)
   |refine q0d rfl ?_|refine q0i rfl ?_|refine q01 rfl (fun _=>?_) (fun _=>?_)
   |refine q0Q rfl (fun _=>?_) (fun _=>?_)
   |refine q09 rfl rfl rfl trivial ?_)
  rw[qjw,decide_eq_true (.inr (.inr (.inr (.inl (by omega)))))]
 rw[q07]at e4
 refine gg rfl (q09 rfl rfl rfl trivial ?_)
 rw[List.length_map,q1U,qjw]
 congr 1
 exact decide_eq_decide.2 ⟨fun h=>by omega,fun h=>by omega⟩
theorem qgZ (s:Sty)(p e:Int):PU qve [s.enc,.int .i64 p,.int .i64 e]=some (.bool (q22 s p e)):=by
 refine q0g (fn:=qhQ) rfl (q0a ?_)
 refine gg rfl (q08 rfl (fun g1=>?_) (fun g1=>?_))
 ·rw[q0G]at g1
  refine gg rfl ?_
  rw[List.length_map]
  refine q08 rfl (fun g2=>?_) (fun g2=>?_)
  ·rw[q06]at g2
   refine gg rfl (q08 rfl (fun g3=>?_) (fun g3=>?_))
   ·rw[q0G]at g3
    refine gg rfl (q0j p.toNat rfl rfl (by omega) (q4N (by omega)) rfl ?_)
    refine gg rfl (q09 rfl rfl rfl trivial ?_)
    rw[q22,decide_eq_true g1,decide_eq_true g2,decide_eq_true g3,q1U,List.length_map];rfl
   rw[q0I]at g3
   refine gg rfl (q09 rfl rfl rfl trivial ?_)
   rw[q22,decide_eq_false (show¬0≤e by omega)];simp
  rw[q07]at g2
  refine gg rfl (q0m rfl (gg rfl (q09 rfl rfl rfl trivial ?_)))
  rw[q22,decide_eq_false (show¬p<s.pieces.length by omega)];simp
 rw[q0I]at g1
 refine gg rfl (q0m rfl (gg rfl (q0m rfl (gg rfl (q09 rfl rfl rfl trivial ?_)))))
 rw[q22,decide_eq_false (show¬0≤p by omega)];rfl
def qEL (p:Piece):Int:=if p.widths.length≠p.edges.length then 1 else if p.widths.any q2v then 3 else 0
end Go.F

namespace Go.F
attribute [local irreducible] IntKind.wrap wpM
theorem qaw (p:Piece)(h2:p.widths.length≤1000):PU qvd [p.enc]=some (.int .i64 (qEL p)):=by
 refine q0g (fn:=qii) rfl (q0a ?_)
 refine gg rfl ?_
 rw[List.length_map,List.length_map]
 refine q01 rfl (fun f3=>?_) (fun f3=>?_)
 ·rw[q0w]at f3
  refine gg rfl (q09 rfl rfl rfl trivial ?_)
  rw[qEL,if_pos (by omega)]
 rw[q0B]at f3
 rw[qEL,if_neg (by omega)]
 refine gg rfl (q0l (S:=fun k:Nat=>([.ptr 0 0 0,q00 k],[some (.row [p.enc] 7),none],[0,0])) (C:=fun k=>k≤p.widths.length∧∀j (hj:j<p.widths.length),j<k→q2v p.widths[j]=false) (m:=fun k=>p.widths.length-k) 0 ⟨Nat.zero_le _,fun j _ h=>by omega⟩ (by omega) ?_ ?_)
 ·exact q03 rfl ⟨rfl,trivial⟩ rfl
 rintro k ⟨hk,hm⟩ N hN
 refine gg rfl ?_
 rw[List.length_map]
 refine q01 rfl (fun e=>?_) (fun e=>?_)
 ·rw[q06]at e
  have hlt:k<p.widths.length:=by omega
  have w1:=wS (n:=k)
  have bad:q2v p.widths[k]=true→p.widths.any q2v=true:=fun h=>q2j hlt h
  have hx:(p.widths.map q00)[k]?=some (.int .i64 p.widths[k]):=q1K hlt
  refine gg rfl (q0j k rfl rfl rfl hx rfl (gg rfl (q08 rfl (fun f1=>?_) (fun f1=>?_))))
  ·rw[q06]at f1
   refine gg rfl (q0d rfl (gg rfl (q04 (gg rfl (q09 rfl rfl rfl trivial ?_)))))
   rw[if_pos (bad (by simp[q2v];omega))]
  rw[q07]at f1
  refine gg rfl (q0j k rfl rfl rfl hx rfl (gg rfl (q01 rfl (fun f2=>?_) (fun f2=>?_))))
  ·rw[q06]at f2
   refine gg rfl (q04 (gg rfl (q09 rfl rfl rfl trivial ?_)))
   rw[if_pos (bad (by simp[q2v];omega))]
  rw[q07]at f2
  refine gg rfl (q04 (hN (k+1) ⟨hlt,fun j hj hjk=>?_⟩ (by omega) (q03 rfl ⟨rfl,trivial⟩ (by rw[w1];rfl))))
  by_cases ej:j=k
  ·subst ej;simp[q2v];omega
  exact hm j hj (by omega)
 rw[q07]at e
 obtain rfl:k=p.widths.length:=by omega
 clear hN
 refine gg rfl (q04 (gg rfl (q09 rfl rfl rfl trivial ?_)))
 rw[if_neg (by rw[q29 fun j hj=>hm j hj hj];decide)]
set_option maxHeartbeats 8000000 in
theorem qw3 (b:List Piece)(p:Piece)(hb:b.length≤1000)(h1:p.corners.length≤1000)(h2:p.widths.length≤1000):PU qxK [Go.F.pieces b,p.enc]=some (.int .i64 (q2d b p)):=by
 refine q0g (fn:=qlq) rfl (q0a ?_)
 refine gg rfl (q02 rfl rfl (qeI p.name) ?_)
 cases hn:q1X p.name with
 |false=>
  refine gg rfl (q0h rfl (gg rfl (q0d rfl (gg rfl (q09 rfl rfl rfl trivial ?_)))))
  rw[q2d,if_pos hn]
 |true=>
  have hc1:¬q1X p.name=false:=by rw[hn];decide
  refine gg rfl (q0m rfl (gg rfl (q08 rfl (fun g1=>?_) (fun g1=>?_))))
  ·rw[q0w]at g1
   refine gg rfl (q08 rfl (fun g2=>?_) (fun g2=>?_))
   ·rw[q0w]at g2
    refine gg rfl (q01 rfl (fun g3=>?_) (fun g3=>?_))
    ·rw[q0w]at g3
     refine gg rfl (q09 rfl rfl rfl trivial ?_)
     rw[q2d,if_neg hc1,if_pos ⟨g1,g2,g3⟩]
    rw[q0B]at g3
    have hc2:¬(p.grain≠1∧p.grain≠2∧p.grain≠4):=fun h=>h.2.2 g3
    refine gg rfl (q0l (S:=fun k:Nat=>([Go.F.pieces b,.ptr 1 0 0,q00 k],[none,some (.row [p.enc] 7),none],[0,0,0])) (C:=fun k=>k≤b.length∧∀j (hj:j<b.length),j<k→(b[j].name.toList==p.name.toList)=false) (m:=fun k=>b.length-k) 0 ⟨Nat.zero_le _,fun j _ h=>by omega⟩ (by omega) ?_ ?_)
    ·exact q03 rfl ⟨rfl,trivial⟩ rfl
    rintro k ⟨hk,hno⟩ N hN
    refine gg rfl ?_
    rw[List.length_map]
    refine q01 rfl (fun e=>?_) (fun e=>?_)
    ·rw[q06]at e
     have hlt:k<b.length:=by omega
     have w1:=wS (n:=k)
     have hx:(b.map Piece.enc)[k]?=some b[k].enc:=q1K hlt
     refine gg rfl (q0j k rfl rfl rfl hx rfl (gg rfl (q01 rfl (fun f=>?_) (fun f=>?_))))
     ·refine gg rfl (q04 (gg rfl (q09 rfl rfl rfl trivial ?_)))
      rw[q2d,if_neg hc1,if_neg hc2,if_pos (q2j hlt f)]
     refine gg rfl (q04 (hN (k+1) ⟨hlt,fun j hj hjk=>?_⟩ (by omega) (q03 rfl ⟨rfl,trivial⟩ (by rw[w1];rfl))))
     by_cases ej:j=k
     ·subst ej;exact f
     exact hno j hj (by omega)
    rw[q07]at e
    obtain rfl:k=b.length:=by omega
    clear hN
    have hc3:¬(b.any fun o=>o.name.toList==p.name.toList)=true:=by rw[q29 fun j hj=>hno j hj hj];decide
    have hw:q2d b p=if(q0p p 0).2≠0 then(q0p p 0).2
     else if(q0W p 0).2≠0 then(q0W p 0).2
     else qEL p:=by rw[q2d,if_neg hc1,if_neg hc2,if_neg hc3];rfl
    rw[hw]
    refine gg rfl (q04 (gg rfl (q02 rfl rfl (q3w p 0 (by omega)) ?_)))
    refine gg rfl (q01 rfl (fun f=>?_) (fun f=>?_))
    ·rw[q0w]at f
     refine gg rfl (q09 rfl rfl rfl trivial ?_)
     rw[if_pos f]
    rw[q0B]at f
    rw[if_neg (by simp[f])]
    refine gg rfl (q02 rfl rfl (qav p 0 (by omega)) ?_)
    refine gg rfl (q01 rfl (fun f2=>?_) (fun f2=>?_))
    ·rw[q0w]at f2
     refine gg rfl (q09 rfl rfl rfl trivial ?_)
     rw[if_pos f2]
    rw[q0B]at f2
    rw[if_neg (by simp[f2])]
    exact gg rfl (q02 rfl rfl (qaw p h2) (gg rfl (q09 rfl rfl rfl trivial rfl)))
   rw[q0B]at g2
   have hc2:¬(p.grain≠1∧p.grain≠2∧p.grain≠4):=fun h=>h.2.1 g2
   refine gg rfl (q0i rfl (gg rfl (q0l (S:=fun k:Nat=>([Go.F.pieces b,.ptr 1 0 0,q00 k],[none,some (.row [p.enc] 7),none],[0,0,0])) (C:=fun k=>k≤b.length∧∀j (hj:j<b.length),j<k→(b[j].name.toList==p.name.toList)=false) (m:=fun k=>b.length-k) 0 ⟨Nat.zero_le _,fun j _ h=>by omega⟩ (by omega) ?_ ?_)))
   ·exact q03 rfl ⟨rfl,trivial⟩ rfl
   rintro k ⟨hk,hno⟩ N hN
   refine gg rfl ?_
   rw[List.length_map]
   refine q01 rfl (fun e=>?_) (fun e=>?_)
   ·rw[q06]at e
    have hlt:k<b.length:=by omega
    have w1:=wS (n:=k)
    have hx:(b.map Piece.enc)[k]?=some b[k].enc:=q1K hlt
    refine gg rfl (q0j k rfl rfl rfl hx rfl (gg rfl (q01 rfl (fun f=>?_) (fun f=>?_))))
    ·refine gg rfl (q04 (gg rfl (q09 rfl rfl rfl trivial ?_)))
     rw[q2d,if_neg hc1,if_neg hc2,if_pos (q2j hlt f)]
    refine gg rfl (q04 (hN (k+1) ⟨hlt,fun j hj hjk=>?_⟩ (by omega) (q03 rfl ⟨rfl,trivial⟩ (by rw[w1];rfl))))
    by_cases ej:j=k
    ·subst ej;exact f
    exact hno j hj (by omega)
   rw[q07]at e
   obtain rfl:k=b.length:=by omega
   clear hN
   have hc3:¬(b.any fun o=>o.name.toList==p.name.toList)=true:=by rw[q29 fun j hj=>hno j hj hj];decide
   have hw:q2d b p=if(q0p p 0).2≠0 then(q0p p 0).2
    else if(q0W p 0).2≠0 then(q0W p 0).2
    else qEL p:=by rw[q2d,if_neg hc1,if_neg hc2,if_neg hc3];rfl
   rw[hw]
   refine gg rfl (q04 (gg rfl (q02 rfl rfl (q3w p 0 (by omega)) ?_)))
   refine gg rfl (q01 rfl (fun f=>?_) (fun f=>?_))
   ·rw[q0w]at f
    refine gg rfl (q09 rfl rfl rfl trivial ?_)
    rw[if_pos f]
   rw[q0B]at f
   rw[if_neg (by simp[f])]
   refine gg rfl (q02 rfl rfl (qav p 0 (by omega)) ?_)
   refine gg rfl (q01 rfl (fun f2=>?_) (fun f2=>?_))
   ·rw[q0w]at f2
    refine gg rfl (q09 rfl rfl rfl trivial ?_)
    rw[if_pos f2]
   rw[q0B]at f2
   rw[if_neg (by simp[f2])]
   exact gg rfl (q02 rfl rfl (qaw p h2) (gg rfl (q09 rfl rfl rfl trivial rfl)))
  rw[q0B]at g1
  have hc2:¬(p.grain≠1∧p.grain≠2∧p.grain≠4):=fun h=>h.1 g1
  refine gg rfl (q0m rfl (gg rfl (q0i rfl (gg rfl (q0l (S:=fun k:Nat=>([Go.F.pieces b,.ptr 1 0 0,q00 k],[none,some (.row [p.enc] 7),none],[0,0,0])) (C:=fun k=>k≤b.length∧∀j (hj:j<b.length),j<k→(b[j].name.toList==p.name.toList)=false) (m:=fun k=>b.length-k) 0 ⟨Nat.zero_le _,fun j _ h=>by omega⟩ (by omega) ?_ ?_)))))
  ·exact q03 rfl ⟨rfl,trivial⟩ rfl
  rintro k ⟨hk,hno⟩ N hN
  refine gg rfl ?_
  rw[List.length_map]
  refine q01 rfl (fun e=>?_) (fun e=>?_)
  ·rw[q06]at e
   have hlt:k<b.length:=by omega
   have w1:=wS (n:=k)
   have hx:(b.map Piece.enc)[k]?=some b[k].enc:=q1K hlt
   refine gg rfl (q0j k rfl rfl rfl hx rfl (gg rfl (q01 rfl (fun f=>?_) (fun f=>?_))))
   ·refine gg rfl (q04 (gg rfl (q09 rfl rfl rfl trivial ?_)))
    rw[q2d,if_neg hc1,if_neg hc2,if_pos (q2j hlt f)]
   refine gg rfl (q04 (hN (k+1) ⟨hlt,fun j hj hjk=>?_⟩ (by omega) (q03 rfl ⟨rfl,trivial⟩ (by rw[w1];rfl))))
   by_cases ej:j=k
   ·subst ej;exact f
   exact hno j hj (by omega)
  rw[q07]at e
  obtain rfl:k=b.length:=by omega
  clear hN
  have hc3:¬(b.any fun o=>o.name.toList==p.name.toList)=true:=by rw[q29 fun j hj=>hno j hj hj];decide
  have hw:q2d b p=if(q0p p 0).2≠0 then(q0p p 0).2
   else if(q0W p 0).2≠0 then(q0W p 0).2
   else qEL p:=by rw[q2d,if_neg hc1,if_neg hc2,if_neg hc3];rfl
  rw[hw]
  refine gg rfl (q04 (gg rfl (q02 rfl rfl (q3w p 0 (by omega)) ?_)))
  refine gg rfl (q01 rfl (fun f=>?_) (fun f=>?_))
  ·rw[q0w]at f
   refine gg rfl (q09 rfl rfl rfl trivial ?_)
   rw[if_pos f]
  rw[q0B]at f
  rw[if_neg (by simp[f])]
  refine gg rfl (q02 rfl rfl (qav p 0 (by omega)) ?_)
  refine gg rfl (q01 rfl (fun f2=>?_) (fun f2=>?_))
  ·rw[q0w]at f2
   refine gg rfl (q09 rfl rfl rfl trivial ?_)
   rw[if_pos f2]
  rw[q0B]at f2
  rw[if_neg (by simp[f2])]
  exact gg rfl (q02 rfl rfl (qaw p h2) (gg rfl (q09 rfl rfl rfl trivial rfl)))
def qw4 (s:Sty):Int:=if s.uses.any (q28 s.pieces.length)then 3 else q0K (q4p s) s.seams.length
set_option maxHeartbeats 8000000 in
theorem qsv (s:Sty)(hB:StyB s):PU qv6 [s.enc]=some (.int .i64 (qw4 s)):=by
 have b1:=hB.pieces
 have b2:=hB.uses
 have b3:=hB.seams
 unfold qw4
 refine q0g (fn:=qic) rfl (q0a ?_)
 refine gg rfl (q0l (S:=fun k:Nat=>([.ptr 0 0 0,q00 k],[some (.row [s.enc] 7),none],[0,0])) (C:=fun k=>k≤s.uses.length∧∀j (hj:j<s.uses.length),j<k→q28 s.pieces.length s.uses[j]=false) (m:=fun k=>s.uses.length-k) 0 ⟨Nat.zero_le _,fun j _ h=>by omega⟩ (by omega) ?_ ?_)
 ·exact q03 rfl ⟨rfl,trivial⟩ rfl
 rintro k ⟨hk,hu⟩ N hN
 refine gg rfl ?_
 rw[List.length_map]
 refine q01 rfl (fun e=>?_) (fun e=>?_)
 ·rw[q06]at e
  have hlt:k<s.uses.length:=by omega
  have w1:=wS (n:=k)
  have hx:(s.uses.map Use.enc)[k]?=some s.uses[k].enc:=q1K hlt
  have bad:q28 s.pieces.length s.uses[k]=true→s.uses.any (q28 s.pieces.length)=true:=fun h=>q2j hlt h
  have hnx:q28 s.pieces.length s.uses[k]=false→∀j (hj:j<s.uses.length),j<k+1→q28 s.pieces.length s.uses[j]=false:=by
   intro h j hj hjk
   by_cases ej:j=k
   ·subst ej;exact h
   exact hu j hj (by omega)
  generalize s.uses[k]=u at*
  refine gg rfl (q0j k rfl rfl rfl hx rfl (gg rfl (q08 rfl (fun f1=>?_) (fun f1=>?_))))
  ·rw[q06]at f1
   refine gg rfl (q0h rfl (gg rfl (q0h rfl (gg rfl (q0d rfl (gg rfl (q04 (gg rfl (q09 rfl rfl rfl trivial ?_)))))))))
   rw[if_pos (bad (by simp[q28];omega))]
  rw[q07]at f1
  refine gg rfl ?_
  rw[List.length_map]
  refine q08 rfl (fun f2=>?_) (fun f2=>?_)
  ·rw[q0G]at f2
   refine gg rfl (q0h rfl (gg rfl (q0d rfl (gg rfl (q04 (gg rfl (q09 rfl rfl rfl trivial ?_)))))))
   rw[if_pos (bad (by simp[q28];omega))]
  rw[q0I]at f2
  refine gg rfl (q08 rfl (fun f3=>?_) (fun f3=>?_))
  ·rw[q06]at f3
   refine gg rfl (q0d rfl (gg rfl (q04 (gg rfl (q09 rfl rfl rfl trivial ?_)))))
   rw[if_pos (bad (by simp[q28];omega))]
  rw[q07]at f3
  refine gg rfl (q01 rfl (fun f4=>?_) (fun f4=>?_))
  ·rw[q06]at f4
   refine gg rfl (q04 (gg rfl (q09 rfl rfl rfl trivial ?_)))
   rw[if_pos (bad (by simp[q28];omega))]
  rw[q07]at f4
  exact gg rfl (q04 (hN (k+1) ⟨hlt,hnx (by simp[q28];omega)⟩ (by omega) (q03 rfl ⟨rfl,trivial⟩ (by rw[w1];rfl))))
 rw[q07]at e
 obtain rfl:k=s.uses.length:=by omega
 clear hN
 rw[if_neg (by rw[q29 fun j hj=>hu j hj hj];decide)]
 refine gg rfl (q04 (gg rfl (q0l (S:=fun k:Nat=>([.ptr 0 0 0,q00 k],[some (.row [s.enc] 7),none],[0,0])) (C:=fun k=>k≤s.seams.length∧q0K (q4p s) k=0) (m:=fun k=>s.seams.length-k) 0 ⟨Nat.zero_le _,rfl⟩ (by omega) ?_ ?_)))
 ·exact q03 rfl ⟨rfl,trivial⟩ rfl
 rintro k ⟨hk,h0⟩ N hN
 refine gg rfl ?_
 rw[List.length_map]
 refine q01 rfl (fun e=>?_) (fun e=>?_)
 ·rw[q06]at e
  have hlt:k<s.seams.length:=by omega
  have w1:=wS (n:=k)
  have hx:=qkT hlt
  have bad:∀x,q6M s (sw s.seams k)=x→x≠0→q0K (q4p s) s.seams.length=x:=by
   intro x h hx0
   have:=q3Q (f:=q4p s) h0 (by show q6M s (sw s.seams k)≠0;rw[h];exact hx0) hlt
   rw[this];exact h
  have good:q6M s (sw s.seams k)=0→q0K (q4p s) (k+1)=0:=fun h=>q2D h0 h
  generalize sw s.seams k=m at*
  have e1:=qgZ s m.pa m.ea
  have e2:=qgZ s m.pb m.eb
  refine gg rfl (q0j k rfl rfl rfl hx rfl (gg rfl (q02 rfl rfl e1 ?_)))
  cases ha:q22 s m.pa m.ea with
  |false=>
   refine gg rfl (q0h rfl (gg rfl (q0d rfl (gg rfl (q04 (gg rfl (q09 rfl rfl rfl trivial ?_)))))))
   rw[bad 3 (by rw[q6M,if_pos (.inl ha)]) (by decide)]
  |true=>
   refine gg rfl (q0m rfl (gg rfl (q02 rfl rfl e2 ?_)))
   cases hb:q22 s m.pb m.eb with
   |false=>
    refine gg rfl (q0d rfl (gg rfl (q04 (gg rfl (q09 rfl rfl rfl trivial ?_)))))
    rw[bad 3 (by rw[q6M,if_pos (.inr hb)]) (by decide)]
   |true=>
    have hn:¬(q22 s m.pa m.ea=false∨q22 s m.pb m.eb=false):=by rw[ha,hb];simp
    refine gg rfl (q0i rfl (gg rfl (q01 rfl (fun f=>?_) (fun f=>?_))))
    ·rw[q06]at f
     refine gg rfl (q04 (gg rfl (q09 rfl rfl rfl trivial ?_)))
     rw[bad 1 (by rw[q6M,if_neg hn,if_pos f]) (by decide)]
    rw[q07]at f
    exact gg rfl (q04 (hN (k+1) ⟨hlt,good (by rw[q6M,if_neg hn,if_neg (by omega)])⟩ (by omega) (q03 rfl ⟨rfl,trivial⟩ (by rw[w1];rfl))))
 rw[q07]at e
 obtain rfl:k=s.seams.length:=by omega
 clear hN
 refine gg rfl (q04 (gg rfl (q09 rfl rfl rfl trivial ?_)))
 rw[h0]
theorem qyW {s:Sty}(h:sizedB s=false):q2A s=1:=by
 unfold sizedB at h
 have h:=of_decide_eq_false h
 unfold q2A
 by_cases c1:q1X s.name=false∨s.sizes.length=0
 ·rw[if_pos c1]
 rw[if_neg c1]
 by_cases c2:s.sizes.any (fun x=>!sizeS x)=true
 ·rw[if_pos c2]
 rw[if_neg c2]
 by_cases c3:s.mults.length≠s.sizes.length∨0∉s.mults
 ·rw[if_pos c3]
 exfalso
 refine h ⟨?_,fun e=>c1 (.inr e),by simpa using c2,?_,?_⟩
 ·cases hn:q1X s.name with
  |true=>rfl
  |false=>exact absurd (.inl hn) c1
 ·by_cases e:0∈s.mults
  ·exact e
  exact absurd (.inr e) c3
 by_cases e:s.mults.length=s.sizes.length
 ·exact e
 exact absurd (.inl e) c3
theorem qBo {s:Sty}(h:sizedB s=true):q2A s=if q5i s.sizes then 7 else if qjw s then 5 else if s.mults.any (fun m=>decide (m< -100) ||decide (100<m))then 3 else 0:=by
 unfold sizedB at h
 obtain⟨h1,h2,h3,h4,h5⟩:=of_decide_eq_true h
 unfold q2A
 rw[if_neg (by rintro(e|e);rw[h1]at e;cases e;exact h2 e),if_neg (by rw[h3];decide),if_neg (by rintro(e|e);exact e h5;exact e h4)]
 by_cases c:q5i s.sizes=true
 ·rw[if_pos c,if_pos c]
 rw[if_neg c,if_neg c]
 unfold qjw
 by_cases d1:12<s.sizes.length∨12<s.pieces.length∨12<s.uses.length
 ·rw[if_pos d1,if_pos (decide_eq_true (by omega))]
 rw[if_neg d1]
 by_cases d2:24<s.seams.length∨16<s.ops.length
 ·rw[if_pos d2,if_pos (decide_eq_true (by omega))]
 have d3:¬decide (12<s.sizes.length∨12<s.pieces.length∨24<s.seams.length∨16<s.ops.length∨12<s.uses.length)=true:=by rw[decide_eq_true_eq];omega
 rw[if_neg d2,if_neg d3]
set_option maxHeartbeats 8000000 in
theorem qw5 (s:Sty)(hB:StyB s):PU qxF [s.enc]=some (.int .i64 (q3f s)):=by
 have b1:=hB.pieces
 have b2:=hB.mults
 refine q0g (fn:=qmt) rfl (q0a ?_)
 refine gg rfl (q02 rfl rfl (qw1 s hB) ?_)
 cases hsz:sizedB s with
 |false=>
  refine gg rfl (q0d rfl (gg rfl (q09 rfl rfl rfl trivial ?_)))
  rw[q3f,qyW hsz];rfl
 |true=>
  have hw:=qBo hsz
  refine gg rfl (q0i rfl (gg rfl (q02 rfl rfl (qw2 s.sizes hB.sizes) ?_)))
  cases ht:q5i s.sizes with
  |true=>
   refine gg rfl (q0d rfl (gg rfl (q09 rfl rfl rfl trivial ?_)))
   rw[ht]at hw
   rw[q3f,hw];rfl
  |false=>
   rw[if_neg (by rw[ht];decide)]at hw
   refine gg rfl (q0i rfl (gg rfl (q02 rfl rfl (qyV s) ?_)))
   cases hlg:qjw s with
   |true=>
    refine gg rfl (q0d rfl (gg rfl (q09 rfl rfl rfl trivial ?_)))
    rw[hlg]at hw
    rw[q3f,hw];rfl
   |false=>
    rw[if_neg (by rw[hlg];decide)]at hw
    refine gg rfl (q0i rfl (gg rfl (q0l (S:=fun k:Nat=>([.ptr 0 0 0,q00 k],[some (.row [s.enc] 7),none],[0,0])) (C:=fun k=>k≤s.mults.length∧∀j (hj:j<s.mults.length),j<k→(decide (s.mults[j]< -100) ||decide (100<s.mults[j]))=false) (m:=fun k=>s.mults.length-k) 0 ⟨Nat.zero_le _,fun j _ h=>by omega⟩ (by omega) ?_ ?_)))
    ·exact q03 rfl ⟨rfl,trivial⟩ rfl
    rintro k ⟨hk,hm⟩ N hN
    refine gg rfl ?_
    rw[List.length_map]
    refine q01 rfl (fun e=>?_) (fun e=>?_)
    ·rw[q06]at e
     have hlt:k<s.mults.length:=by omega
     have w1:=wS (n:=k)
     have bad:(decide (s.mults[k]< -100) ||decide (100<s.mults[k]))=true→q3f s=3:=by
      intro h
      have ha:s.mults.any (fun m=>decide (m< -100) ||decide (100<m))=true:=q2j hlt h
      rw[if_pos ha]at hw
      rw[q3f,hw];rfl
     have hx:(s.mults.map q00)[k]?=some (.int .i64 s.mults[k]):=q1K hlt
     refine gg rfl (q0j k rfl rfl rfl hx rfl (gg rfl (q08 rfl (fun f1=>?_) (fun f1=>?_))))
     ·rw[q06]at f1
      refine gg rfl (q0d rfl (gg rfl (q04 (gg rfl (q09 rfl rfl rfl trivial ?_)))))
      rw[bad (by simp;omega)]
     rw[q07]at f1
     refine gg rfl (q0j k rfl rfl rfl hx rfl (gg rfl (q01 rfl (fun f2=>?_) (fun f2=>?_))))
     ·rw[q06]at f2
      refine gg rfl (q04 (gg rfl (q09 rfl rfl rfl trivial ?_)))
      rw[bad (by simp;omega)]
     rw[q07]at f2
     refine gg rfl (q04 (hN (k+1) ⟨hlt,fun j hj hjk=>?_⟩ (by omega) (q03 rfl ⟨rfl,trivial⟩ (by rw[w1];rfl))))
     by_cases ej:j=k
     ·subst ej;simp;omega
     exact hm j hj (by omega)
    rw[q07]at e
    obtain rfl:k=s.mults.length:=by omega
    clear hN
    rw[if_neg (by rw[q29 fun j hj=>hm j hj hj];decide)]at hw
    have hw2:q3f s=if q0K (q2F s) s.pieces.length≠0 then q0K (q2F s) s.pieces.length else qw4 s:=by
     rw[q3f,if_neg (by simp[hw])];rfl
    rw[hw2]
    refine gg rfl (q04 (gg rfl (q0l (S:=fun k:Nat=>([.ptr 0 0 0,q00 k],[some (.row [s.enc] 7),none],[0,0])) (C:=fun k=>k≤s.pieces.length∧q0K (q2F s) k=0) (m:=fun k=>s.pieces.length-k) 0 ⟨Nat.zero_le _,rfl⟩ (by omega) ?_ ?_)))
    ·exact q03 rfl ⟨rfl,trivial⟩ rfl
    rintro k ⟨hk,h0⟩ N hN
    refine gg rfl ?_
    rw[List.length_map]
    refine q01 rfl (fun e=>?_) (fun e=>?_)
    ·rw[q06]at e
     have hlt:k<s.pieces.length:=by omega
     have w1:=wS (n:=k)
     have hp:=qw3 (s.pieces.take k) (pc s.pieces k) (by rw[List.length_take];omega) (hB.corners _ (q7Y hlt)) (hB.widths _ (q7Y hlt))
     refine gg rfl (qdB k rfl (q1k (n:=7) (fun _=>rfl) _) ⟨_,_,rfl,rfl⟩ (by rw[List.length_map];omega) ?_)
     rw[←List.map_take]
     refine gg rfl (q0j k rfl rfl rfl (q4N hlt) rfl (gg rfl (q02 rfl rfl hp (gg rfl (q01 rfl (fun f=>?_) (fun f=>?_))))))
     ·rw[q0w]at f
      refine gg rfl (q04 (gg rfl (q09 rfl rfl rfl trivial ?_)))
      have f':q2F s k≠0:=f
      have hf:=q3Q (f:=q2F s) h0 f' hlt
      rw[hf,if_pos f'];rfl
     rw[q0B]at f
     exact gg rfl (q04 (hN (k+1) ⟨hlt,q2D h0 f⟩ (by omega) (q03 rfl ⟨rfl,trivial⟩ (by rw[w1];rfl))))
    rw[q07]at e
    obtain rfl:k=s.pieces.length:=by omega
    clear hN
    rw[if_neg (by simp[h0])]
    exact gg rfl (q04 (gg rfl (q02 rfl rfl (qsv s hB) (gg rfl (q09 rfl rfl rfl trivial rfl)))))
end Go.F

namespace Go.F
attribute [local irreducible] IntKind.wrap wpM
end Go.F

namespace Go.F
attribute [local irreducible] IntKind.wrap wpM
end Go.F

namespace Go.F
attribute [local irreducible] IntKind.wrap wpM
end Go.F

namespace Go.F
attribute [local irreducible] IntKind.wrap wpM
end Go.F

namespace Go.F
attribute [local irreducible] IntKind.wrap wpM
structure RSeg where
 a:Spot
 b:Spot
 w:Int
 s:Spot
def RSeg.enc (g:RSeg):D:=.agg [.int .i64 g.a.x,.int .i64 g.a.y,.int .i64 g.b.x,.int .i64 g.b.y,.int .i64 g.w,.int .i64 g.s.x,.int .i64 g.s.y]
end Go.F

namespace Go.F
attribute [local irreducible] IntKind.wrap wpM
end Go.F

namespace Go.F
attribute [local irreducible] IntKind.wrap wpM
class RSegOk (g:RSeg):Prop where
 a:OkS g.a
 b:OkS g.b
 s:g.s.x.natAbs≤4294967296∧g.s.y.natAbs≤4294967296
 w0:0≤g.w
 w1:g.w≤500
end Go.F

namespace Go.F
attribute [local irreducible] IntKind.wrap wpM
end Go.F

namespace Go.F
attribute [local irreducible] IntKind.wrap wpM
end Go.F

namespace Go.F
attribute [local irreducible] IntKind.wrap wpM
structure Turn where
 flip:Bool
 quarter:Int
def Turn.enc (t:Turn):D:=.agg [.bool t.flip,.int .i64 t.quarter]
def ng (x:Int):Int:=IntKind.i64.wrap (0-x)
def q6g:Nat→Spot→Spot
 |0,s=>s
 |k+1,s=>⟨ng (q6g k s).y,(q6g k s).x⟩
def q4v (f:Bool)(s:Spot):Spot:=if f then⟨ng s.x,s.y⟩else s
def q1a (t:Turn)(s:Spot):Spot:=q6g (t.quarter%4).toNat (q4v t.flip s)
theorem and3 (q:Int):IntKind.i64.wrap ((BitVec.ofInt IntKind.i64.bits q&&&BitVec.ofInt IntKind.i64.bits 3).toNat:Int)=q%4:=by
 have e:IntKind.i64.bits=64:=rfl
 have h3:(BitVec.ofInt 64 3).toNat=2^2-1:=by decide
 rw[e,BitVec.toNat_and,h3,Nat.and_two_pow_sub_one_eq_mod,BitVec.toNat_ofInt]
 have hq:((q%((2^64:Nat):Int)).toNat%2^2:Nat)=(q%4).toNat:=by omega
 rw[hq,wrap64 (by omega) (by omega)]
 omega
theorem q5E (t:Turn)(s:Spot):PU qv3 [t.enc,s.enc]=some (q1a t s).enc:=by
 have hm:(t.quarter%4)=((t.quarter%4).toNat:Int):=by omega
 have hm4:(t.quarter%4).toNat<4:=by omega
 refine q0g (fn:=qis) rfl (q0a ?_)
 refine gg rfl (q01 rfl (fun g=>?_) (fun g=>?_))
 ·have hr:q4v t.flip s=⟨ng s.x,s.y⟩:=by rw[q4v,if_pos g]
  refine gg rfl ?_
  rw[and3,hm]
  refine q0l (S:=fun k:Nat=>([.ptr 0 0 0,.ptr 1 0 0,q00 (t.quarter%4).toNat,q00 k],[some (.row [(q6g k (q4v t.flip s)).enc] 2),some (.row [Spot.enc ⟨0,0⟩] 2),none,none],[0,0,0,0])) (C:=fun k=>k≤(t.quarter%4).toNat) (m:=fun k=>4-k) 0 (Nat.zero_le _) (by omega) ?_ ?_
  ·exact q03 rfl ⟨rfl,rfl,trivial⟩ (by simp[q00,hr,q6g,Spot.enc,ng])
  intro k hk N hN
  have w1:=wS (n:=k)
  refine gg rfl (q01 rfl (fun g1=>?_) (fun g1=>?_))
  ·rw[q06]at g1
   exact gg rfl (q04 (hN (k+1) (by omega) (by omega) (q03 rfl ⟨rfl,rfl,trivial⟩ (by simp[q00,w1,q6g,Spot.enc,ng]))))
  rw[q07]at g1
  obtain rfl:k=(t.quarter%4).toNat:=by omega
  exact gg rfl (q04 (gg rfl (q09 rfl rfl rfl trivial rfl)))
 have hr:q4v t.flip s=s:=by rw[q4v,if_neg (by rw[g];decide)]
 refine gg rfl ?_
 rw[and3,hm]
 refine q0l (S:=fun k:Nat=>([.ptr 0 0 0,.ptr 1 0 0,q00 (t.quarter%4).toNat,q00 k],[some (.row [(q6g k (q4v t.flip s)).enc] 2),some (.row [Spot.enc ⟨0,0⟩] 2),none,none],[0,0,0,0])) (C:=fun k=>k≤(t.quarter%4).toNat) (m:=fun k=>4-k) 0 (Nat.zero_le _) (by omega) ?_ ?_
 ·exact q03 rfl ⟨rfl,rfl,trivial⟩ (by simp[q00,hr,q6g,Spot.enc,ng])
 intro k hk N hN
 have w1:=wS (n:=k)
 refine gg rfl (q01 rfl (fun g1=>?_) (fun g1=>?_))
 ·rw[q06]at g1
  exact gg rfl (q04 (hN (k+1) (by omega) (by omega) (q03 rfl ⟨rfl,rfl,trivial⟩ (by simp[q00,w1,q6g,Spot.enc,ng]))))
 rw[q07]at g1
 obtain rfl:k=(t.quarter%4).toNat:=by omega
 exact gg rfl (q04 (gg rfl (q09 rfl rfl rfl trivial rfl)))
def q4i (t:Turn):Turn:=if t.flip then⟨true,t.quarter%4⟩else⟨false,-t.quarter%4⟩
def q4j (a b:Turn):Turn:=⟨a.flip !=b.flip,(if b.flip then-(a.quarter%4)+b.quarter%4 else a.quarter%4+b.quarter%4)%4⟩
end Go.F

namespace Go.F
attribute [local irreducible] IntKind.wrap wpM
def q5b (t:Turn)(p:List Spot):List Spot:=if t.flip then(p.map (q1a t)).reverse else p.map (q1a t)
def q25 (t:Turn)(e:Edge):Edge:=⟨e.name,q5b t e.line⟩
def q2e (t:Turn)(n i:Nat):Nat:=if t.flip then(n-i)%n else i
def q0P (t:Turn)(l:List Edge):List Edge:=(List.range l.length).map fun i=>q25 t (eg l (q2e t l.length i))
theorem q5Q (t:Turn){n i:Nat}(h:i<n):q2e t n i<n:=by
 unfold q2e;split
 ·exact Nat.mod_lt _ (by omega)
 exact h
theorem q3p {nx0:Nat}{h:q0e}{id:Nat}{b:Blk}(hh:h id=some b)(hp:q1y (some b)=true):q1h nx0 h id=some b:=by
 unfold q1h
 rw[hh,q7z hp];rfl
def Old4 (b1 b2 b3 b4:Blk)(h:q0e)(z:Frz):Prop:=
 (∃h0:q0e,h=upd (upd (upd (upd h0 1 (some b1)) 2 (some b2)) 3 (some b3)) 4 (some b4))∧∃z0:Frz,z=upd (upd (upd (upd z0 1 0) 2 0) 3 0) 4 0
theorem Old4.of {b1 b2 b3 b4:Blk}{h:q0e}{z:Frz}(h1:h 1=some b1)(h2:h 2=some b2)(h3:h 3=some b3)(h4:h 4=some b4)(z1:z 1=0)(z2:z 2=0)(z3:z 3=0)(z4:z 4=0):Old4 b1 b2 b3 b4 h z:=by
 refine⟨⟨h,?_⟩,z,?_⟩
 ·rw[q2J (f:=h) h1,q2J (f:=h) h2,q2J (f:=h) h3,q2J (f:=h) h4]
 rw[q2J (f:=z) z1,q2J (f:=z) z2,q2J (f:=z) z3,q2J (f:=z) z4]
theorem Old4.old {nx0:Nat}{b1 b2 b3 b4:Blk}{h:q0e}{z:Frz}(p1:q1y (some b1)=true)(p2:q1y (some b2)=true)(p3:q1y (some b3)=true)(p4:q1y (some b4)=true)(h1:h 1=some b1)(h2:h 2=some b2)(h3:h 3=some b3)(h4:h 4=some b4)(z1:z 1=0)(z2:z 2=0)(z3:z 3=0)(z4:z 4=0):Old4 b1 b2 b3 b4 (q1h nx0 h) z:=
 Old4.of (q3p h1 p1) (q3p h2 p2) (q3p h3 p3) (q3p h4 p4) z1 z2 z3 z4
theorem q8s {α:Type}{enc:α→D}(h:∀x,plain 4 (enc x)=true)(l:List α)(n:Nat):q1y (some (.row (l.map enc) n))=true:=by
 simp only[q1y];exact q05 h l
def q4w (a:List Spot)(i:Nat):List Spot:=(List.range a.length).map fun m=>if m<i∨a.length≤m+i then pt a (a.length-1-m)else pt a m
theorem qbL (a:List Spot)(i:Nat):(q4w a i).length=a.length:=by simp[q4w]
theorem qun (a:List Spot)(i m:Nat)(h:m<(q4w a i).length):(q4w a i)[m]=if m<i∨a.length≤m+i then pt a (a.length-1-m)else pt a m:=by
 simp[q4w]
theorem qrq (a:List Spot):q4w a 0=a:=by
 unfold q4w
 apply List.ext_getElem
 ·simp
 intro m h1 h2
 simp only[List.getElem_map,List.getElem_range]
 rw[if_neg (by omega),q0H h2]
theorem qup (a:List Spot){i:Nat}(h:a.length≤2*i+1):q4w a i=a.reverse:=by
 unfold q4w
 apply List.ext_getElem
 ·simp
 intro m h1 h2
 simp only[List.length_map,List.length_range]at h1
 simp only[List.getElem_map,List.getElem_range,List.getElem_reverse]
 split
 ·rw[q0H (by omega)]
 rw[q0H h1]
 congr 1
 omega
theorem qrr (a:List Spot){i:Nat}(h:2*i+1<a.length):((q4w a i).set i (pt a (a.length-1-i))).set (a.length-1-i) (pt a i)=q4w a (i+1):=by
 apply List.ext_getElem
 ·simp[q4w]
 intro m h1 h2
 simp only[List.length_set,qbL]at h1
 rw[List.getElem_set,List.getElem_set,qun,qun]
 by_cases e1:a.length-1-i=m
 ·rw[if_pos e1,if_pos (by omega)]
  congr 1;omega
 rw[if_neg e1]
 by_cases e2:i=m
 ·rw[if_pos e2,if_pos (by omega),e2]
 rw[if_neg e2]
 by_cases e3:m<i∨a.length≤m+i
 ·rw[if_pos e3,if_pos (by omega)]
 rw[if_neg e3,if_neg (by omega)]
theorem qjW (a:List Spot){i m:Nat}(hm:m<a.length)(h1:¬m<i)(h2:m+i<a.length):(q4w a i)[m]?=some (pt a m):=by
 unfold q4w
 rw[List.getElem?_map,List.getElem?_range hm]
 simp only[Option.map_some]
 rw[if_neg (by omega)]
set_option maxHeartbeats 2000000 in
theorem rev71 (a:List Spot)(ha:a.length≤1000000)(b1 b2 b3:Blk)(p1:q1y (some b1)=true)(p2:q1y (some b2)=true)(p3:q1y (some b3)=true){h:q0e}{z:Frz}{K:D→q0e→Frz→Nat→Prop}
 (hold:Old4 b1 b2 b3 (.row (a.map Spot.enc) 2) h z)
 (hk:∀(h':q0e) (z':Frz),Old4 b1 b2 b3 (.row (a.reverse.map Spot.enc) 2) h' z'→K (.tup []) h' z' 85):
 wpM TT (shr TT 5) 71 [.code k_slices_Reverse_Spot_Spot.code] .normal (enter [.ref 4 0 a.length]) h z 71 (qdr k_slices_Reverse_Spot_Spot K):=by
 obtain⟨⟨h0,rfl⟩,z0,rfl⟩:=hold
 refine gg rfl ?_
 refine q2X (S:=fun x:Nat=>([.ref 4 0 a.length,q00 x,.int .i64 ((a.length:Int)-1-x)],[none,none,none],[0,0,0]))
  (O:=fun x ho zo=>Old4 b1 b2 b3 (.row ((q4w a x).map Spot.enc) 2) ho zo)
  (C:=fun x=>x≤a.length) (m:=fun x=>a.length-x) 0 (Nat.zero_le _) (by omega) ?_ ?_
 ·have w0:=ww (x:=(a.length:Int)-1)
  refine q24 rfl ⟨q05 q0r _,trivial⟩ ⟨by simp[q00,w0],?_⟩
  rw[qrq]
  exact Old4.old p1 p2 p3 (q8s q0r _ _) rfl rfl rfl rfl rfl rfl rfl rfl
 rintro k hk' ho zo hold N hN
 obtain⟨⟨h1,rfl⟩,z1,rfl⟩:=hold
 refine gg rfl (q01 rfl (fun e1=>?_) (fun e1=>?_))
 ·rw[q06]at e1
  have hlt:2*k+1<a.length:=by omega
  have ej:(a.length:Int)-1-k=((a.length-1-k:Nat):Int):=by omega
  have w1:=wS (n:=k)
  have w2:IntKind.i64.wrap (((a.length-1-k:Nat):Int)-1)=(a.length:Int)-1-((k+1:Nat):Int):=by rw[wrap64 (by omega) (by omega)];omega
  have hst:=qrr a hlt
  have l1:=qjW a (i:=k) (m:=a.length-1-k) (by omega) (by omega) (by omega)
  have l2:=qjW a (i:=k) (m:=k) (by omega) (by omega) (by omega)
  rw[ej]
  refine gg rfl (q0J (a.length-1-k) rfl rfl rfl rfl rfl (by omega) ?_)
  refine gg rfl (q2S (enc:=Spot.enc) (q4w a k) (a.length-1-k) (pt a (a.length-1-k)) rfl (Nat.zero_add _) (fun _=>rfl) rfl l1 (gg rfl (q0J k rfl rfl rfl rfl rfl (by omega) ?_)))
  refine gg rfl (q2S (enc:=Spot.enc) (q4w a k) k (pt a k) rfl (Nat.zero_add _) (fun _=>rfl) rfl l2 (gg rfl (q0J k rfl rfl rfl rfl rfl (by omega) ?_)))
  refine gg rfl (q2t (enc:=Spot.enc) (q4w a k) k (pt a (a.length-1-k)) rfl rfl (Nat.zero_add _) rfl (fun _=>rfl) rfl (Nat.zero_le _) (by rw[qbL];omega) ?_)
  refine gg rfl (q0J (a.length-1-k) rfl rfl rfl rfl rfl (by omega) ?_)
  refine gg rfl (q2t (enc:=Spot.enc) ((q4w a k).set k (pt a (a.length-1-k))) (a.length-1-k) (pt a k) rfl rfl (Nat.zero_add _) rfl (fun _=>rfl) rfl (Nat.zero_le _) (by rw[List.length_set,qbL];omega) ?_)
  rw[hst]
  refine gg rfl (q04 (hN (k+1) (by omega) (by omega) (q24 rfl ⟨q05 q0r _,trivial⟩ ⟨by simp[q00,w1,w2],?_⟩)))
  exact Old4.old p1 p2 p3 (q8s q0r _ _) rfl rfl rfl rfl rfl rfl rfl rfl
 rw[q07]at e1
 rw[qup a (by omega)]
 exact gg rfl (q04 (gg rfl (qds rfl rfl (hk _ _ (Old4.of rfl rfl rfl rfl rfl rfl rfl rfl)))))
theorem qwD {hp:q0e}{es:List D}{m:Nat}(hm:4≤m)(hd:es.all (dat 4)=true):es.mapM (q1b hp m)=some es:=by
 induction es with
 |nil=>rfl
 |cons x es ih=>
  simp only[List.all_cons,Bool.and_eq_true]at hd
  rw[List.mapM_cons,qrk 4 m x hd.1 hm,ih hd.2];rfl
theorem quq {h:q0e}{id n:Nat}{l:List Spot}{name:ByteArray}(hr:h id=some (.row (l.map Spot.enc) 2))(hn:n=l.length):q1b h 8 (.agg [.str name,.ref id 0 n])=some (Edge.enc ⟨name,l⟩):=by
 subst hn
 have e:q1b h 7 (.ref id 0 l.length)=some (q0k l):=by
  rw[q1b,hr]
  simp only
  rw[if_pos (by simp),List.drop_zero,List.take_of_length_le (by simp),qwD (by decide) (q0L q1u _)]
  rfl
 rw[q1b]
 simp only[List.mapM_cons,List.mapM_nil,e]
 rfl
theorem qrs {h:q0e}{id n:Nat}{l:List Spot}{name:ByteArray}(hr:h id=some (.row (l.map Spot.enc) 2)):q0T h depth (.agg [.str name,.ref id 0 n])=[id]:=by
 have e:q0T h 11 (.ref id 0 n)=[id]:=by
  rw[q0T,hr]
  simp only
  rw[q7N]
  rw[List.drop_zero,←List.map_take]
  exact q0L q1u _
 show q0T h 12 _=_
 rw[q0T]
 simp only[List.flatMap_cons,List.flatMap_nil,e]
 rfl
theorem qzz (t:Turn)(l:List Edge){k:Nat}(n:Nat):((List.range (k+1)).map fun i=>q25 t (eg l (q2e t n i))).map Edge.enc=((List.range k).map fun i=>q25 t (eg l (q2e t n i))).map Edge.enc++[(q25 t (eg l (q2e t n k))).enc]:=by
 rw[List.range_succ,List.map_append,List.map_append];rfl
set_option maxHeartbeats 8000000 in
theorem qjX (l:List Edge)(t:Turn)(hl:l.length≤1000)(hlen:∀e∈l,e.line.length≤1000):PU qkm [edges l,t.enc]=some (edges (q0P t l)):=by
 refine q0g (fn:=qb9) rfl (q0a ?_)
 refine gg rfl ?_
 rw[List.length_map]
 refine q0l (S:=fun k:Nat=>([edges l,.ptr 1 0 0,.ref 2 0 k,q00 l.length,q00 k],[none,some (.row [t.enc] 2),some (.row (((List.range k).map fun i=>q25 t (eg l (q2e t l.length i))).map Edge.enc) 2),none,none],[0,0,0,0,0])) (C:=fun k=>k≤l.length) (m:=fun k=>l.length-k) 0 (Nat.zero_le _) (by omega) ?_ ?_
 ·exact q03 rfl ⟨rfl,rfl,trivial⟩ (by simp[edges,q00,Turn.enc])
 intro k hk N hN
 refine gg rfl (q01 rfl (fun e1=>?_) (fun e1=>?_))
 ·rw[q06]at e1
  have hlt:k<l.length:=by omega
  have w1:=wS (n:=k)
  have hstep:=qzz t l (k:=k) l.length
  have hln:∀i,i<l.length→(eg l i).line.length≤1000:=fun i hi=>by rw[q3M hi];exact hlen _ (List.getElem_mem _)
  refine gg rfl (q0j k rfl rfl rfl (q1D hlt) rfl (gg rfl (q01 rfl (fun g=>?_) (fun g=>?_))))
  ·have g:t.flip=true:=g
   have hm:(l.length-k)%l.length<l.length:=Nat.mod_lt _ (by omega)
   have hx:q2e t l.length k=(l.length-k)%l.length:=by rw[q2e,if_pos g]
   have w2:IntKind.i64.wrap (((l.map Edge.enc).length:Int)-(k:Int))=((l.length-k:Nat):Int):=by rw[List.length_map,wrap64 (by omega) (by omega)];omega
   have hE:=hln _ hm
   rw[hx]at hstep
   refine gg rfl (q2K rfl rfl (by rw[List.length_map];omega) ?_)
   refine gg rfl (q0j ((l.length-k)%l.length) rfl rfl (by rw[w2,List.length_map,q1z]) (q1D hm) rfl ?_)
   have hle:(q25 t (eg l ((l.length-k)%l.length))).enc=.agg [.str (eg l ((l.length-k)%l.length)).name,q0k ((eg l ((l.length-k)%l.length)).line.map (q1a t)).reverse]:=by
    unfold q25 q5b;rw[if_pos g];rfl
   generalize eg l ((l.length-k)%l.length)=E at*
   refine gg rfl (q0l (S:=fun j:Nat=>([edges l,.ptr 1 0 0,.ref 2 0 k,.ptr 3 0 0,.ref 4 0 j,q00 l.length,q00 k,q0k (E).line,q00 (E).line.length,q00 j],[none,some (.row [t.enc] 2),some (.row (((List.range k).map fun i=>q25 t (eg l (q2e t l.length i))).map Edge.enc) 2),some (.row [(E).enc] 2),some (.row ((((E).line.take j).map (q1a t)).map Spot.enc) 2),none,none,none,none,none],[0,0,0,0,0,0,0,0,0,0])) (C:=fun j=>j≤(E).line.length) (m:=fun j=>(E).line.length-j) 0 (Nat.zero_le _) (by omega) ?_ ?_)
   ·exact q03 rfl ⟨rfl,q05 q3r _,rfl,rfl,trivial⟩ (by simp[edges,q0k,q00,Edge.enc,Turn.enc])
   intro j hj N2 hN2
   refine gg rfl (q01 rfl (fun f1=>?_) (fun f1=>?_))
   ·rw[q06]at f1
    have hjl:j<(E).line.length:=by omega
    have wj:=wS (n:=j)
    have hst:(((E).line.take (j+1)).map (q1a t)).map Spot.enc=(((E).line.take j).map (q1a t)).map Spot.enc++[(q1a t (pt (E).line j)).enc]:=by
     rw[List.take_succ_eq_append_getElem hjl,List.map_append,List.map_append,q0H hjl];rfl
    refine gg rfl (q0j j rfl rfl rfl (q0U hjl) rfl (gg rfl (q02 rfl rfl (q5E t (pt (E).line j)) (gg rfl (q1g rfl rfl rfl rfl rfl rfl (by simp;omega) (Nat.zero_le _) (by simp[q0N];omega) ?_)))))
    refine gg rfl (q04 (hN2 (j+1) hjl (by omega) (q03 rfl ⟨rfl,q05 q3r _,rfl,?_,trivial⟩ ?_)))
    ·rw[List.all_append,q05 q0r];rfl
    rw[hst];simp[edges,q0k,q00,Edge.enc,Turn.enc,wj,Spot.enc]
   rw[q07]at f1
   obtain rfl:j=(E).line.length:=by omega
   clear hN2
   rw[List.take_length]
   refine gg rfl (q04 (gg rfl (q01 rfl (fun _=>?_) (fun g2=>absurd g (by have g2:t.flip=false:=g2;rw[g2];decide)))))
   refine gg rfl ?_
   have er:E.line.length=(E.line.map (q1a t)).length:=by simp
   rw[er]
   refine q6y rfl rfl (rev71 (E.line.map (q1a t)) (by simp;omega) _ _ _ rfl (q8s q3r _ _) rfl (Old4.of rfl rfl rfl rfl rfl rfl rfl rfl) fun h' z' hold=>?_)
   obtain⟨⟨h0,rfl⟩,z0,rfl⟩:=hold
   refine gg rfl (q1g rfl rfl rfl rfl rfl rfl (by simp) (Nat.zero_le _) (by simp[q0N];omega) ?_)
   refine gg rfl (q04 (hN (k+1) hlt (by omega) (qjT [none,some (((List.range (k+1)).map fun i=>q25 t (eg l (q2e t l.length i))).map Edge.enc,[4])] rfl ⟨rfl,?_,trivial⟩ ?_)))
   ·rw[hstep]
    refine qrl (q0L q6j _) (q05 q3r _) rfl ?_ (qrs (l:=(E.line.map (q1a t)).reverse) rfl) rfl
    rw[quq (l:=(E.line.map (q1a t)).reverse) rfl (by simp),hle];rfl
   simp[edges,q00,w1,Turn.enc]
  have g:t.flip=false:=g
  have hx:q2e t l.length k=k:=by rw[q2e,if_neg (by rw[g];decide)]
  have hE:=hln k hlt
  rw[hx]at hstep
  have hle:(q25 t (eg l k)).enc=.agg [.str (eg l k).name,q0k ((eg l k).line.map (q1a t))]:=by
   unfold q25 q5b;rw[if_neg (by rw[g];decide)];rfl
  generalize eg l k=E at*
  refine gg rfl (q0l (S:=fun j:Nat=>([edges l,.ptr 1 0 0,.ref 2 0 k,.ptr 3 0 0,.ref 4 0 j,q00 l.length,q00 k,q0k (E).line,q00 (E).line.length,q00 j],[none,some (.row [t.enc] 2),some (.row (((List.range k).map fun i=>q25 t (eg l (q2e t l.length i))).map Edge.enc) 2),some (.row [(E).enc] 2),some (.row ((((E).line.take j).map (q1a t)).map Spot.enc) 2),none,none,none,none,none],[0,0,0,0,0,0,0,0,0,0])) (C:=fun j=>j≤(E).line.length) (m:=fun j=>(E).line.length-j) 0 (Nat.zero_le _) (by omega) ?_ ?_)
  ·exact q03 rfl ⟨rfl,q05 q3r _,rfl,rfl,trivial⟩ (by simp[edges,q0k,q00,Edge.enc,Turn.enc])
  intro j hj N2 hN2
  refine gg rfl (q01 rfl (fun f1=>?_) (fun f1=>?_))
  ·rw[q06]at f1
   have hjl:j<(E).line.length:=by omega
   have wj:=wS (n:=j)
   have hst:(((E).line.take (j+1)).map (q1a t)).map Spot.enc=(((E).line.take j).map (q1a t)).map Spot.enc++[(q1a t (pt (E).line j)).enc]:=by
    rw[List.take_succ_eq_append_getElem hjl,List.map_append,List.map_append,q0H hjl];rfl
   refine gg rfl (q0j j rfl rfl rfl (q0U hjl) rfl (gg rfl (q02 rfl rfl (q5E t (pt (E).line j)) (gg rfl (q1g rfl rfl rfl rfl rfl rfl (by simp;omega) (Nat.zero_le _) (by simp[q0N];omega) ?_)))))
   refine gg rfl (q04 (hN2 (j+1) hjl (by omega) (q03 rfl ⟨rfl,q05 q3r _,rfl,?_,trivial⟩ ?_)))
   ·rw[List.all_append,q05 q0r];rfl
   rw[hst];simp[edges,q0k,q00,Edge.enc,Turn.enc,wj,Spot.enc]
  rw[q07]at f1
  obtain rfl:j=(E).line.length:=by omega
  clear hN2
  rw[List.take_length]
  refine gg rfl (q04 (gg rfl (q01 rfl (fun g2=>absurd g (by have g2:t.flip=true:=g2;rw[g2];decide)) (fun _=>?_))))
  refine gg rfl (q1g rfl rfl rfl rfl rfl rfl (by simp) (Nat.zero_le _) (by simp[q0N];omega) ?_)
  refine gg rfl (q04 (hN (k+1) hlt (by omega) (qjT [none,some (((List.range (k+1)).map fun i=>q25 t (eg l (q2e t l.length i))).map Edge.enc,[4])] rfl ⟨rfl,?_,trivial⟩ ?_)))
  ·rw[hstep]
   refine qrl (q0L q6j _) (q05 q3r _) rfl ?_ (qrs (l:=E.line.map (q1a t)) rfl) rfl
   rw[quq (l:=E.line.map (q1a t)) rfl (by simp),hle];rfl
  simp[edges,q00,w1,Turn.enc]
 rw[q07]at e1
 obtain rfl:k=l.length:=by omega
 refine gg rfl (q04 (gg rfl (q09 rfl rfl rfl ⟨q1n (by simp) (q0L q6j _),trivial⟩ ?_)))
 rw[q1o (by simp)];rfl
end Go.F

namespace Go.F
attribute [local irreducible] IntKind.wrap wpM
end Go.F

namespace Go.F
attribute [local irreducible] IntKind.wrap wpM
def rp0:RP:=⟨⟨false,[],[]⟩,⟨false,[],[]⟩⟩
def rp (c:List RP)(i:Nat):RP:=c.getD i rp0
def pts (c:List RP):D:=.lst (c.map RP.enc)
def RB (k:Nat)(c:List RP):Prop:=∀p∈c,SzP p k
theorem qph {c:List RP}{i:Nat}(h:i<c.length):rp c i=c[i]:=by simp[rp,h]
theorem RB.at {k:Nat}{c:List RP}(h:RB k c){i:Nat}(hi:i<c.length):SzP (rp c i) k:=by
 rw[qph hi];exact h _ (List.getElem_mem _)
section
variable {t:q0z}{h:q0e}{z:Frz}{nx:Nat}
end
end Go.F

namespace Go.F
attribute [local irreducible] IntKind.wrap wpM
end Go.F

namespace Go.F
attribute [local irreducible] IntKind.wrap wpM
def q0y:List Spot→List Spot
 |[]=>[]
 |[a]=>[a]
 |a::b::l=>if a=b then q0y (b::l)else a::q0y (b::l)
theorem qhJ (l:List Spot)(x y:Spot):q0y (l++[x,y])=q0y (l++[x])++if x=y then []else [y]:=by
 induction l with
 |nil=>
  simp only[List.nil_append,q0y]
  by_cases h:x=y
  ·simp[h]
  simp[h]
 |cons a l ih=>
  cases l with
  |nil=>
   by_cases g1:a=x<;>by_cases g2:x=y<;>simp[q0y,g1,g2]
  |cons b l=>
   simp only[List.cons_append]at ih⊢
   rw[q0y,ih,q0y]
   split<;>simp
theorem quC (a:List Spot){j:Nat}(h1:1≤j)(h2:j<a.length):q0y (a.take (j+1))=q0y (a.take j)++if pt a (j-1)=pt a j then []else [pt a j]:=by
 obtain⟨m,rfl⟩:∃m,j=m+1:=⟨j-1,by omega⟩
 have e1:a.take (m+1+1)=a.take m++[pt a m,pt a (m+1)]:=by
  rw[List.take_succ_eq_append_getElem h2,List.take_succ_eq_append_getElem (by omega),q0H h2,q0H (by omega:m<a.length),List.append_assoc]
  rfl
 have e2:a.take (m+1)=a.take m++[pt a m]:=by
  rw[List.take_succ_eq_append_getElem (by omega),q0H (by omega:m<a.length)]
 rw[e1,e2,qhJ]
 rfl
def Old1 (b:Blk)(h:q0e)(z:Frz):Prop:=(∃h0:q0e,h=upd h0 0 (some b))∧∃z0:Frz,z=upd z0 0 0
theorem Old1.of {b:Blk}{h:q0e}{z:Frz}(h1:h 0=some b)(z1:z 0=0):Old1 b h z:=
 ⟨⟨h,by rw[q2J (f:=h) h1]⟩,z,by rw[q2J (f:=z) z1]⟩
section
variable {T:Tab}{sh:Shr}{nx0:Nat}{s:List Fr}{t:q0z}{h:q0e}{z:Frz}{nx:Nat}{q:Ex→q0z→q0e→Frz→Nat→Prop}
variable {base i:Nat}{res:List Nat}{g:Gd}{rest:List KOper}
end
end Go.F

namespace Go.F
attribute [local irreducible] IntKind.wrap wpM
structure Crvd where
 name:ByteArray
 ctl:List ByteArray
 seg:Int
def Crvd.enc (c:Crvd):D:=.agg [.str c.name,.lst (c.ctl.map .str),.int .i64 c.seg]
def q6f (m:List (ByteArray×RP))(s:ByteArray):Option RP:=(m.find? fun p=>s==p.1).map (·.2)
end Go.F

namespace Go.F
attribute [local irreducible] IntKind.wrap wpM
section
variable {T:Tab}{sh:Shr}{nx0:Nat}{s:List Fr}{t:q0z}{h:q0e}{z:Frz}{nx:Nat}{q:Ex→q0z→q0e→Frz→Nat→Prop}
variable {base i:Nat}{res:List Nat}{g:Gd}{rest:List KOper}
end
structure Nmd where
 name:ByteArray
 at_:RP
def Nmd.enc (n:Nmd):D:=.agg [.str n.name,.bool n.at_.x.neg,nat n.at_.x.mag,nat n.at_.x.den,.bool n.at_.y.neg,nat n.at_.y.mag,nat n.at_.y.den]
def qum (m:List (ByteArray×RP))(n:Nmd):List (ByteArray×RP):=if(q6f m n.name).isSome then m else m++[(n.name,n.at_)]
def places (p:List Nmd):List (ByteArray×RP):=p.foldl qum []
def cv (l:List Crvd)(i:Nat):Crvd:=l.getD i ⟨⟨#[]⟩,[],0⟩
def lastC (c:Crvd):ByteArray:=c.ctl.getD (c.ctl.length-1) ⟨#[]⟩
def headC (c:Crvd):ByteArray:=c.ctl.getD 0 ⟨#[]⟩
def linked (l:List Crvd)(i:Nat):Prop:=(lastC (cv l i)).toList=(headC (cv l ((i+1)%l.length))).toList
instance (l:List Crvd)(i:Nat):Decidable (linked l i):=inferInstanceAs (Decidable (_=_))
end Go.F

namespace Go.F
end Go.F

namespace Go.F
attribute [local irreducible] IntKind.wrap wpM
section
variable {T:Tab}{sh:Shr}{nx0:Nat}{s:List Fr}{t:q0z}{h:q0e}{z:Frz}{nx:Nat}{q:Ex→q0z→q0e→Frz→Nat→Prop}
variable {base i:Nat}{res:List Nat}{g:Gd}{rest:List KOper}
end
end Go.F

namespace Go.F
attribute [local irreducible] IntKind.wrap wpM
end Go.F

namespace Go.F
attribute [local irreducible] IntKind.wrap wpM
theorem q8f:∀a:List Spot,(q0y a).getLast?=a.getLast?
 |[]=>rfl
 |[_]=>rfl
 |a::b::l=>by
  have ih:=q8f (b::l)
  rw[q0y]
  split
  ·rw[ih,List.getLast?_cons_cons]
  rw[List.getLast?_cons_cons,←ih]
  have hne:q0y (b::l)≠[]:=by
   intro e;rw[e,List.getLast?_cons]at ih
   cases ih
  cases h:q0y (b::l)with
  |nil=>exact absurd h hne
  |cons x r=>rw[List.getLast?_cons_cons]
theorem qcq {a:List Spot}(h:a≠[]):(q0y a).length≠0∧(q0y a)[(q0y a).length-1]?=some (pt a (a.length-1)):=by
 have hl:=q8f a
 have e:a.getLast?=some (pt a (a.length-1)):=by
  rw[List.getLast?_eq_getElem?,q0H (by have:=List.length_pos_iff.2 h;omega)]
  exact List.getElem?_eq_getElem _
 rw[e]at hl
 refine⟨fun h0=>?_,?_⟩
 ·rw[List.eq_nil_of_length_eq_zero h0]at hl;simp at hl
 rw[←List.getLast?_eq_getElem?];exact hl
end Go.F
