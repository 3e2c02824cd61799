/- Parts of the proof, part 48: Ply2, Gr2, Map1, St2, St3, St4, St5, SPl, V1, V2, V3, V4, V5, V6, SBs, V7, Nst, SRow, V8, V13, Nst2, V9, V10, Lgt, V11, Pl1, V12, V14, V15, V16, RG1, RG2, Ply3. -/
import Derived.Test.YtakaifogljbgoaaGreatZ47
import Derived.Test.YtakaifogljbgoaaGreatZ45
set_option linter.all false
namespace Go.F
attribute [local irreducible] IntKind.wrap wpM
def q3o (p:List Spot):Nat→Nat
 |0=>0
 |k+1=>q3o p k+qfY (pt p k) (pt p (k+1))
theorem qqT {p:List Spot}(h:∀i,i<p.length→q0x (pt p i) 1048576=true):∀k,k<p.length→q3o p k≤k*4294967296:=by
 intro k
 induction k with
 |zero=>intro _;simp[q3o]
 |succ k ih=>
  intro hk
  have:=ih (by omega)
  have:=qvX (h k (by omega)) (h (k+1) hk)
  rw[q3o];omega
def q16 (p:List Spot):Int×Int:=if q1C p=0 then((q3o p (p.length-1):Int),0)else(0,q1C p)
theorem q44 (p:List Spot):PU qjb [q0k p]=some (.tup [.int .i64 (q16 p).1,.int .i64 (q16 p).2]):=by
 refine q0g (fn:=q9V) rfl (q0a ?_)
 refine gg rfl (q02 rfl rfl (qa8 p) (gg rfl (q01 rfl (fun h=>?_) (fun h=>?_))))
 ·rw[q0w]at h
  refine gg rfl (q09 rfl rfl rfl trivial ?_)
  rw[q16,if_neg h]
 rw[q0B]at h
 rw[q16,if_pos h]
 obtain⟨n2,n40,_⟩:=q2x h
 have hin:∀i,i<p.length→q0x (pt p i) 1048576=true:=fun i hi=>qcn h hi
 refine gg rfl (q0l (S:=fun k:Nat=>([q0k p,q00 (q3o p k),q00 (p.length-1:Nat),q00 k],[none,none,none,none],[0,0,0,0])) (C:=fun k=>k≤p.length-1) (m:=fun k=>p.length-k) 0 (Nat.zero_le _) (by omega) ?_ ?_)
 ·refine q03 rfl trivial ?_
  have:IntKind.i64.wrap ((p.length:Int)-1)=((p.length-1:Nat):Int):=by rw[wrap64 (by omega) (by omega)];omega
  simp[q0k,q00,q3o,this]
 intro k hk N hN
 refine gg rfl (q01 rfl (fun g1=>?_) (fun g1=>?_))
 ·rw[q06]at g1
  have hlt:k+1<p.length:=by omega
  have w1:=wS (n:=k)
  have hin1:=hin k (by omega)
  have hin2:=hin (k+1) hlt
  have hsl':=qvX hin1 hin2
  have hle:=qqT hin k (by omega)
  have w2:IntKind.i64.wrap ((q3o p k:Int)+(qfY (pt p k) (pt p (k+1)):Int))=(q3o p (k+1):Int):=by rw[wrap64 (by omega) (by omega)];rfl
  refine gg rfl (q0j k rfl rfl rfl (q0U (by omega)) rfl ?_)
  refine gg rfl (q0j (k+1) rfl rfl w1 (q0U hlt) rfl (gg rfl (q02 rfl rfl (qfZ (pt p k) (pt p (k+1)) hin1 hin2) (gg rfl ?_))))
  rw[w2]
  exact q04 (hN (k+1) (by omega) (by omega) (q03 rfl trivial (by simp[q0k,q00,w1])))
 rw[q07]at g1
 obtain rfl:k=p.length-1:=by omega
 exact gg rfl (q04 (gg rfl (q09 rfl rfl rfl trivial rfl)))
theorem qyQ (n:Nat)(hn:n<9223372036854775808):PU qAT [.int .i64 n]=some (.int .i64 (qqS n)):=by
 refine q0g (fn:=qpe) rfl (q0a ?_)
 refine gg rfl (q0l (S:=fun q:Nat×Nat=>([q00 n,q00 q.2,.int .i64 ((q.1:Int)-1)],[none,none,none],[0,0,0])) (C:=fun q=>q.1≤32∧q.2+2^q.1≤4294967296∧qni n q.1 q.2=qqS n) (m:=fun q=>q.1) (32,0) ⟨by decide,by decide,rfl⟩ (by decide) ?_ ?_)
 ·exact q03 rfl trivial (by simp[q00])
 rintro⟨j,r⟩ ⟨hj,hr,hinv⟩ N hN
 simp only at hj hr hinv
 refine gg rfl (q01 rfl (fun g=>?_) (fun g=>?_))
 ·rw[q0G]at g
  simp only at g
  obtain⟨k,rfl⟩:∃k,j=k+1:=⟨j-1,by omega⟩
  have ek:((k+1:Nat):Int)-1=(k:Int):=by omega
  have hp:2^(k+1)=2*2^k:=by rw[Nat.pow_succ];omega
  have hp0:0<2^k:=Nat.pow_pos (by decide)
  rw[qni]at hinv
  rw[hp]at hr
  generalize hP:2^k=P at*
  have wk:IntKind.u64.wrap (k:Int)=(k:Int):=q0F (by omega)
  have wk1:=ww (x:=(k:Int)-1)
  have wt:IntKind.i64.wrap ((r:Int)+(P:Int))=((r+P:Nat):Int):=by rw[wrap64 (by omega) (by omega)];omega
  have wt2:IntKind.u64.wrap ((r+P:Nat):Int)=((r+P:Nat):Int):=q0F (by omega)
  have hmul:(r+P) *(r+P)≤4294967295*4294967295:=Nat.mul_le_mul (by omega) (by omega)
  have wm:IntKind.u64.wrap (((r+P:Nat):Int) *((r+P:Nat):Int))=(((r+P) *(r+P):Nat):Int):=by rw[←Int.natCast_mul];exact q0F (by omega)
  have wn:IntKind.u64.wrap (n:Int)=(n:Int):=q0F (by omega)
  have wb:=ww (x:=((r+P:Nat):Int))
  simp only
  rw[ek]
  refine gg rfl ?_
  rw[wk]
  refine q7a 1 k rfl rfl rfl rfl (by show k≤64;omega) (by rw[hP,Nat.one_mul];exact wrap64 (by omega) (by omega)) ?_
  rw[hP,Nat.one_mul]
  refine gg rfl ?_
  rw[wt,wt2,wm,wn]
  refine q01 rfl (fun g2=>?_) (fun g2=>?_)
  ·rw[q0G]at g2
   rw[if_pos (by omega)]at hinv
   refine gg rfl ?_
   rw[wb]
   exact q04 (hN (k,r+P) ⟨by simp only;omega,by simp only;rw[hP];omega,hinv⟩ (by simp only;omega) (q03 rfl trivial (by simp[q00,wk1])))
  rw[q0I]at g2
  rw[if_neg (by omega)]at hinv
  exact gg rfl (q04 (hN (k,r) ⟨by simp only;omega,by simp only;rw[hP];omega,hinv⟩ (by simp only;omega) (q03 rfl trivial (by simp[q00,wk1]))))
 rw[q0I]at g
 simp only at g
 obtain rfl:j=0:=by omega
 refine gg rfl (q04 (gg rfl (q09 rfl rfl rfl trivial ?_)))
 rw[←hinv];rfl
theorem qqU (a b:Spot)(ha:q0x a 1048576=true)(hb:q0x b 1048576=true):PU qsb [a.enc,b.enc]=some (.int .i64 (qfY a b)):=by
 refine q0g (fn:=qgK) rfl (q0a ?_)
 have h:=qvW ha hb
 have hse:=q6O a b
 rw[q1L]at ha hb
 have bx:Bd (b.x-a.x) 2097152:=⟨by omega⟩
 have by':Bd (b.y-a.y) 2097152:=⟨by omega⟩
 have c1:IntKind.i64.wrap (b.x-a.x)=b.x-a.x:=q0Z (by decide)
 have c2:IntKind.i64.wrap (b.y-a.y)=b.y-a.y:=q0Z (by decide)
 refine gg rfl ?_
 rw[c1,c2]
 have c4:IntKind.i64.wrap ((b.x-a.x) *(b.x-a.x))=(b.x-a.x) *(b.x-a.x):=q0Z (by decide)
 have c5:IntKind.i64.wrap ((b.y-a.y) *(b.y-a.y))=(b.y-a.y) *(b.y-a.y):=q0Z (by decide)
 have c6:IntKind.i64.wrap ((b.x-a.x) *(b.x-a.x)+(b.y-a.y) *(b.y-a.y))=(sqd a b:Int):=by rw[hse];exact q0Z (by decide)
 have c7:IntKind.i64.wrap (1000000*(sqd a b:Int))=((1000000*sqd a b:Nat):Int):=by rw[wrap64 (by omega) (by omega)];omega
 rw[c4,c5,c6,c7]
 refine q02 rfl rfl (qyQ (1000000*sqd a b) (by omega)) ?_
 exact gg rfl (q09 rfl rfl rfl trivial rfl)
end Go.F

namespace Go.F
attribute [local irreducible] IntKind.wrap wpM
def q4X (fr to at_:Int):Prop:=fr<1∨1099511627776<fr∨to<0∨1099511627776<to∨at_<0∨fr<at_
instance (a b c:Int):Decidable (q4X a b c):=by unfold q4X;exact inferInstance
def q3R (fr to:Int)(rev:Bool)(at_:Int):Int×Int:=
 if q4X fr to at_ then(0,3)else(if rev then to-q1B (at_*to) fr else q1B (at_*to) fr,0)
theorem qnY {a b:Nat}(hb:0<b):q1B (a:Int) b=((a/b+if b≤2*(a%b)then 1 else 0:Nat):Int):=by
 rw[q1B,if_neg (by omega)]
 have h1:=Nat.div_add_mod a b
 have h2:=Nat.mod_lt a hb
 generalize a/b=q at*
 generalize a%b=r at*
 have e:(2*(a:Int)+b)=(2*(r:Int)+b)+(2*(b:Int)) *q:=by
  rw[←h1];simp only[Int.natCast_add,Int.natCast_mul];grind
 rw[e,Int.add_mul_ediv_left _ _ (by omega)]
 split
 ·have:(2*(r:Int)+b)/(2*b)=1:=by
   rw[Int.ediv_eq_iff_of_pos (by omega)];omega
  rw[this];omega
 have:(2*(r:Int)+b)/(2*b)=0:=Int.ediv_eq_zero_of_lt (by omega) (by omega)
 rw[this];omega
set_option maxHeartbeats 2000000 in
theorem qpF (fr to:Int)(rev:Bool)(at_:Int):PU qq2 [.int .i64 fr,.int .i64 to,.bool rev,.int .i64 at_]=some (.tup [.int .i64 (q3R fr to rev at_).1,.int .i64 (q3R fr to rev at_).2]):=by
 by_cases hb:q4X fr to at_
 ·rw[q3R,if_pos hb]
  unfold q4X at hb
  refine q0g (fn:=q8Q) rfl (q0a ?_)
  repeat' (first
   |refine goP 800 rfl rfl ?_
   |refine q0h rfl ?_|refine q0m rfl ?_|refine q08 rfl (fun _=>?_) (fun _=>?_)
   |refine q0d rfl ?_|refine q0i rfl ?_|refine q01 rfl (fun _=>?_) (fun _=>?_)
   |refine q0Q rfl (fun _=>?_) (fun _=>?_)
   |refine q09 rfl rfl rfl trivial ?_)
  all_goals first
   |rfl
   |(exfalso;simp only[q06,q07]at*;omega)
 rw[q3R,if_neg hb]
 unfold q4X at hb
 obtain⟨F,rfl⟩:∃n:Nat,fr=n:=⟨fr.toNat,by omega⟩
 obtain⟨T,rfl⟩:∃n:Nat,to=n:=⟨to.toNat,by omega⟩
 obtain⟨A,rfl⟩:∃n:Nat,at_=n:=⟨at_.toNat,by omega⟩
 have hF:0<F:=by omega
 have hprod:A*T≤F*T:=Nat.mul_le_mul_right _ (by omega)
 have hm:=qG1 A T (by omega) (by omega)
 have hquo:A*T/F≤T:=by
  rw[Nat.div_le_iff_le_mul_add_pred hF]
  omega
 have hhi:A*T/18446744073709551616<F:=by
  rw[Nat.div_lt_iff_lt_mul (by decide)]
  exact Nat.lt_of_le_of_lt hprod (Nat.mul_lt_mul_of_pos_left (by omega) hF)
 have hd:=qG2 (A*T/18446744073709551616) (A*T%18446744073709551616) F hhi (by omega) (Nat.mod_lt _ (by decide))
 have e0:A*T/18446744073709551616*18446744073709551616+A*T%18446744073709551616=A*T:=by
  have:=Nat.div_add_mod (A*T) 18446744073709551616
  rw[Nat.mul_comm]at this;exact this
 rw[e0]at hd
 have hr:=qnY (a:=A*T) hF
 rw[Int.natCast_mul]at hr
 rw[hr]
 have hmod:=Nat.mod_lt (A*T) hF
 have w1:IntKind.u64.wrap ((A:Nat):Int)=(A:Int):=q0F (by omega)
 have w2:IntKind.u64.wrap ((T:Nat):Int)=(T:Int):=q0F (by omega)
 have w3:IntKind.u64.wrap ((F:Nat):Int)=(F:Int):=q0F (by omega)
 have no:∀{x y:Int} {P:Prop},¬x<y→ltb x y=true→P:=fun h g=>absurd (q06.1 g) h
 generalize A*T/F=q at*
 generalize A*T%F=r at*
 have w4:IntKind.u64.wrap (2*(r:Int))=((2*r:Nat):Int):=qc0 (x:=2) (by omega)
 have w5:IntKind.u64.wrap ((q:Int)+1)=((q+1:Nat):Int):=qdm (y:=1) (by omega)
 refine q0g (fn:=q8Q) rfl (q0a ?_)
 refine gg rfl (q08 rfl (no (by omega)) (fun _=>?_))
 refine gg rfl (q08 rfl (no (by omega)) (fun _=>?_))
 refine gg rfl (q08 rfl (no (by omega)) (fun _=>?_))
 refine gg rfl (q08 rfl (no (by omega)) (fun _=>?_))
 refine gg rfl (q08 rfl (no (by omega)) (fun _=>?_))
 refine gg rfl (q01 rfl (no (by omega)) (fun _=>?_))
 refine gg rfl ?_
 rw[w1,w2]
 refine q02 rfl rfl hm (gg rfl ?_)
 rw[w3]
 refine q02 rfl rfl hd (gg rfl ?_)
 rw[w4,w3]
 refine q01 rfl (fun g=>?_) (fun g=>?_)
 ·rw[q0G]at g
  have ei:(if F≤2*r then 1 else 0:Nat)=1:=if_pos (by omega)
  simp only[ei]
  have w6:=ww (x:=((q+1:Nat):Int))
  have w7:=ww (x:=(T:Int)-((q+1:Nat):Int))
  refine gg rfl ?_
  rw[w5,w6]
  cases rev with
  |true=>
   refine q0d rfl (gg rfl ?_)
   rw[w7]
   exact q09 rfl rfl rfl trivial rfl
  |false=>
   exact q0i rfl (gg rfl (q09 rfl rfl rfl trivial rfl))
 rw[q0I]at g
 have ei:(if F≤2*r then 1 else 0:Nat)=0:=if_neg (by omega)
 simp only[ei]
 have w6:=ww (x:=((q:Nat):Int))
 have w7:=ww (x:=(T:Int)-((q:Nat):Int))
 refine gg rfl ?_
 rw[w6]
 cases rev with
 |true=>
  refine q0d rfl (gg rfl ?_)
  rw[w7]
  exact q09 rfl rfl rfl trivial rfl
 |false=>
  exact q0i rfl (gg rfl (q09 rfl rfl rfl trivial rfl))
def q1E (p:Piece)(g:List Edge)(n:Ntc):Int×Int:=
 if n.edge<0∨(p.edges.length:Int)≤n.edge then(0,3)
 else if(q16 (eg p.edges n.edge.toNat).line).2≠0 then(0,(q16 (eg p.edges n.edge.toNat).line).2)
 else if(q16 (eg g n.edge.toNat).line).2≠0 then(0,(q16 (eg g n.edge.toNat).line).2)
 else q3R (q16 (eg p.edges n.edge.toNat).line).1 (q16 (eg g n.edge.toNat).line).1 false n.at_
def q2O (p:Piece)(g:List Edge):List Ntc→Int
 |[]=>0
 |n::l=>if(q1E p g n).2=0 then q2O p g l else(q1E p g n).2
def q0W (p:Piece)(m:Int):List Int×Int:=
 if(q0p p m).2≠0 then([],(q0p p m).2)
 else if 16<p.notches.length then([],5)
 else if q2O p (q0p p m).1 p.notches≠0 then([],q2O p (q0p p m).1 p.notches)
 else(p.notches.map fun n=>(q1E p (q0p p m).1 n).1,0)
theorem q2l {p:Piece}{m:Int}(h:(q0p p m).2=0):(q0p p m).1.length=p.edges.length∧q0O p.edges=0∧q0O (q0p p m).1=0∧p.corners.length=p.edges.length:=by
 unfold q0p at h⊢
 split at h
 ·cases h
 rename_i h1
 rw[if_neg h1]
 split at h
 ·cases h
 rename_i h2
 rw[if_neg h2]
 split at h
 ·cases h
 rename_i h3
 rw[if_neg h3]
 split at h
 ·rename_i h4;exact absurd h h4
 rename_i h4
 rw[if_neg h4]
 split at h
 ·rename_i h5;exact absurd h h5
 rename_i h5
 rw[if_neg h5]
 exact⟨by simp[q3Z],by simpa using h4,by simpa using h5,by simpa using h2⟩
set_option maxHeartbeats 4000000 in
theorem qDN (p:Piece)(m:Int)(hc:p.corners.length≤1000000):
 PU qq1 [p.enc,.int .i64 m]=some (.tup [ints (q0W p m).1,edges (if(q0W p m).2=0 then(q0p p m).1 else []),.int .i64 (q0W p m).2]):=by
 refine q0g (fn:=qeq) rfl (q0a ?_)
 refine gg rfl (q02 rfl rfl (q67 p m hc) (gg rfl (q01 rfl (fun h=>?_) (fun h=>?_))))
 ·rw[q0w]at h
  refine gg rfl (q09 rfl rfl rfl trivial ?_)
  rw[q0W,if_pos h,if_neg h];rfl
 have h:(q0p p m).2=0:=q0B.1 h
 obtain⟨hg,_,_⟩:=q2l h
 have hr:q0W p m=if 16<p.notches.length then([],5)
  else if q2O p (q0p p m).1 p.notches≠0 then([],q2O p (q0p p m).1 p.notches)
  else(p.notches.map fun n=>(q1E p (q0p p m).1 n).1,0):=by rw[q0W,if_neg (by omega)]
 rw[hr]
 generalize (q0p p m).1=G at*
 refine gg rfl ?_
 rw[List.length_map]
 refine q01 rfl (fun h2=>?_) (fun h2=>?_)
 ·rw[q06]at h2
  refine gg rfl (q09 rfl rfl rfl trivial ?_)
  rw[if_pos (by omega)];rfl
 rw[q07]at h2
 rw[if_neg (by omega)]
 refine gg rfl ?_
 rw[List.length_map]
 refine q0l (S:=fun k:Nat=>([.ptr 0 0 0,edges G,.ref 2 0 k,q51 p.notches,q00 p.notches.length,q00 k],[some (.row [p.enc] 7),none,some (.row (((p.notches.take k).map fun n=>(q1E p G n).1).map q00) 1),none,none,none],[0,0,0,0,0,0])) (C:=fun k=>k≤p.notches.length∧q2O p G p.notches=q2O p G (p.notches.drop k)) (m:=fun k=>p.notches.length-k) 0 ⟨Nat.zero_le _,rfl⟩ (by omega) ?_ ?_
 ·exact q03 rfl ⟨rfl,rfl,trivial⟩ rfl
 rintro k ⟨hk,hke⟩ N hN
 refine gg rfl (q01 rfl (fun e1=>?_) (fun e1=>?_))
 ·rw[q06]at e1
  have hlt:k<p.notches.length:=by omega
  have w1:=wS (n:=k)
  have hdr:p.notches.drop k=nt p.notches k::p.notches.drop (k+1):=by rw[List.drop_eq_getElem_cons hlt,qwv hlt]
  have hst:(((p.notches.take (k+1)).map fun n=>(q1E p G n).1).map q00)=((p.notches.take k).map fun n=>(q1E p G n).1).map q00++[q00 (q1E p G (nt p.notches k)).1]:=by
   rw[List.take_succ_eq_append_getElem hlt,List.map_append,List.map_append,qwv hlt];rfl
  have hne:=qhE hlt
  rw[hdr,q2O]at hke
  generalize nt p.notches k=n at*
  have bad:(q1E p G n).2≠0→q2O p G p.notches=(q1E p G n).2:=fun h=>by rw[hke,if_neg h]
  refine gg rfl (q0j k rfl rfl rfl hne rfl (gg rfl (q08 rfl (fun f1=>?_) (fun f1=>?_))))
  ·rw[q06]at f1
   have hn:q1E p G n=(0,3):=by rw[q1E,if_pos (.inl f1)]
   rw[hn]at bad
   refine gg rfl (q0d rfl (gg rfl (q04 (gg rfl (q09 rfl rfl rfl trivial ?_)))))
   rw[bad (by decide)];rfl
  rw[q07]at f1
  refine gg rfl ?_
  rw[List.length_map]
  refine q01 rfl (fun f2=>?_) (fun f2=>?_)
  ·rw[q0G]at f2
   have hn:q1E p G n=(0,3):=by rw[q1E,if_pos (.inr f2)]
   rw[hn]at bad
   refine gg rfl (q04 (gg rfl (q09 rfl rfl rfl trivial ?_)))
   rw[bad (by decide)];rfl
  rw[q0I]at f2
  have ei:n.edge=((n.edge.toNat:Nat):Int):=by omega
  have hl1:n.edge.toNat<p.edges.length:=by omega
  have hl2:n.edge.toNat<G.length:=by omega
  have l1:=q44 (eg p.edges n.edge.toNat).line
  have l2:=q44 (eg G n.edge.toNat).line
  have hn0:q1E p G n=if(q16 (eg p.edges n.edge.toNat).line).2≠0 then(0,(q16 (eg p.edges n.edge.toNat).line).2)
   else if(q16 (eg G n.edge.toNat).line).2≠0 then(0,(q16 (eg G n.edge.toNat).line).2)
   else q3R (q16 (eg p.edges n.edge.toNat).line).1 (q16 (eg G n.edge.toNat).line).1 false n.at_:=by rw[q1E,if_neg (by omega)]
  refine gg rfl (q0j n.edge.toNat rfl rfl ei (q1D hl1) rfl (gg rfl (q02 rfl rfl l1 (gg rfl (q01 rfl (fun f3=>?_) (fun f3=>?_))))))
  ·rw[q0w]at f3
   rw[if_pos f3]at hn0
   rw[hn0]at bad
   refine gg rfl (q04 (gg rfl (q09 rfl rfl rfl trivial ?_)))
   rw[bad f3,if_pos f3,if_neg f3];rfl
  rw[q0B]at f3
  rw[if_neg (by simp[f3])]at hn0
  refine gg rfl (q0j n.edge.toNat rfl rfl ei (q1D hl2) rfl (gg rfl (q02 rfl rfl l2 (gg rfl (q01 rfl (fun f4=>?_) (fun f4=>?_))))))
  ·rw[q0w]at f4
   rw[if_pos f4]at hn0
   rw[hn0]at bad
   refine gg rfl (q04 (gg rfl (q09 rfl rfl rfl trivial ?_)))
   rw[bad f4,if_pos f4,if_neg f4];rfl
  rw[q0B]at f4
  rw[if_neg (by simp[f4])]at hn0
  refine gg rfl (q02 rfl rfl (qpF (q16 (eg p.edges n.edge.toNat).line).1 (q16 (eg G n.edge.toNat).line).1 false n.at_) ?_)
  rw[←hn0]
  refine gg rfl (q01 rfl (fun f5=>?_) (fun f5=>?_))
  ·rw[q0w]at f5
   refine gg rfl (q04 (gg rfl (q09 rfl rfl rfl trivial ?_)))
   rw[bad f5,if_pos f5,if_neg f5];rfl
  rw[q0B]at f5
  rw[if_pos f5]at hke
  refine gg rfl (q1g rfl rfl rfl rfl rfl rfl (by simp;omega) (Nat.zero_le _) (by simp[q0N];omega) ?_)
  refine gg rfl (q04 (hN (k+1) ⟨hlt,hke⟩ (by omega) (q03 rfl ⟨rfl,?_,trivial⟩ ?_)))
  ·rw[List.all_append,q05 q4Q];rfl
  rw[hst,w1];rfl
 rw[q07]at e1
 obtain rfl:k=p.notches.length:=by omega
 have hz:q2O p G p.notches=0:=by rw[hke,List.drop_length];rfl
 rw[hz,List.take_length]
 refine gg rfl (q04 (gg rfl (q09 rfl rfl rfl ⟨q1n (by simp) (q0L q7e _),trivial⟩ ?_)))
 rw[q1o (by simp)];rfl
theorem qbq (p:Piece)(m:Int)(hc:p.corners.length≤1000000):PU qpT [p.enc,.int .i64 m]=some (.tup [ints (q0W p m).1,.int .i64 (q0W p m).2]):=by
 have h:=qDN p m hc
 refine q0g (fn:=qdJ) rfl (q0a ?_)
 exact gg rfl (q02 rfl rfl h (gg rfl (q09 rfl rfl rfl trivial rfl)))
end Go.F

namespace Go.F
section
variable {T:Tab}{sh:Shr}{nx0:Nat}{s:List Fr}{t:q0z}{h:q0e}{z:Frz}{nx:Nat}{q:Ex→q0z→q0e→Frz→Nat→Prop}
variable {base i:Nat}{res:List Nat}{g:Gd}{rest:List KOper}
def qd8 (t:q0z):Live→List Rep→q0e→Frz→Option (List Obl×q0e×Frz)
 |[],_,h,z=>some ([],h,z)
 |x::rest,reps,h,z=>
  match q2i (t x.1)with
  |none=>
   match plain 4 (t x.1)with
   |true=>qd8 t rest reps h z
   |false=>none
  |some id=>
   match h id with
   |some (.row es esz)=>
    match reps with
    |[]=>none
    |none::reps=>
     match qd8 t rest reps h z with
     |some (o,h',z')=>some (.p es::o,h',z')
     |none=>none
    |some (l,rs)::reps=>
     match qd8 t rest reps (upd h id (some (.row l esz))) (q99 h z rs)with
     |some (o,h',z')=>some (.s h es l rs::o,h',z')
     |none=>none
   |some (.mp _ vs)=>
    match qd8 t rest reps h z with
    |some (o,h',z')=>some (.p vs::o,h',z')
    |none=>none
   |none=>qd8 t rest reps h z
theorem qGX {t:q0z}:∀{live:Live} {reps:List Rep} {h:q0e} {z:Frz} {o:List Obl} {h':q0e} {z':Frz} {k:q0e→Frz→Prop},qd8 t live reps h z=some (o,h',z')→ql0 o→k h' z'→q3m live t h z k:=by
 intro live
 induction live with
 |nil=>intro reps h z o h' z' k hr _ hk;simp only[qd8,Option.some.injEq,Prod.mk.injEq]at hr;obtain⟨_,rfl,rfl⟩:=hr;exact hk
 |cons x live ih=>
  intro reps h z o h' z' k hr ho hk
  simp only[qd8]at hr
  simp only[q3m]
  cases hid:q2i (t x.1)with
  |none=>
   rw[hid]at hr
   simp only at hr⊢
   cases hb:plain 4 (t x.1)with
   |true=>rw[hb]at hr;exact ih hr ho hk
   |false=>rw[hb]at hr;cases hr
  |some id=>
   rw[hid]at hr
   simp only at hr⊢
   cases hb:h id with
   |none=>rw[hb]at hr;exact ih hr ho hk
   |some b=>
    rw[hb]at hr
    cases b with
    |mp ks vs=>
     simp only at hr⊢
     cases hx:qd8 t live reps h z with
     |none=>rw[hx]at hr;cases hr
     |some y=>
      obtain⟨o1,h1,z1⟩:=y
      rw[hx]at hr
      simp only[Option.some.injEq,Prod.mk.injEq]at hr
      obtain⟨rfl,rfl,rfl⟩:=hr
      exact q1A ho.1 (ih hx ho.2 hk)
    |row es esz=>
     simp only at hr⊢
     match reps,hr with
     |none::reps,hr=>
      simp only at hr
      cases hx:qd8 t live reps h z with
      |none=>rw[hx]at hr;cases hr
      |some y=>
       obtain⟨o1,h1,z1⟩:=y
       rw[hx]at hr
       simp only[Option.some.injEq,Prod.mk.injEq]at hr
       obtain⟨rfl,rfl,rfl⟩:=hr
       unfold qc9
       exact .inl ⟨ho.1,ih hx ho.2 hk⟩
     |some (l,rs)::reps,hr=>
      simp only at hr
      cases hx:qd8 t live reps (upd h id (some (.row l esz))) (q99 h z rs)with
      |none=>rw[hx]at hr;cases hr
      |some y=>
       obtain⟨o1,h1,z1⟩:=y
       rw[hx]at hr
       simp only[Option.some.injEq,Prod.mk.injEq]at hr
       obtain⟨rfl,rfl,rfl⟩:=hr
       obtain⟨g1,g2,g3,g4⟩:=ho.1
       unfold qc9
       exact .inr ⟨l,rs,g1,g2,g3,g4,ih hx ho.2 hk⟩
def setZ (live:Live)(reps:List Rep)(t:q0z)(h:q0e)(z:Frz)(nx:Nat):Option (List Obl×Kept):=
 match qdi live t h z nx with
 |(t,h,z)=>
  match qd8 t live reps h z with
  |some (o,h',z')=>fL1 (qaz 0 (q0E t live) t live) fun vs=>fLi (qaA 0 (q0E t live) h' (q0E t live) 0) fun bs=>fLi (qje 0 (q0E t live) z' (q0E t live) 0) fun zs=>some (o,vs,bs,zs)
  |none=>none
theorem qCB {live:Live}(reps:List Rep){o:List Obl}{kp:Kept}{K:Kept→Prop}(hs:setZ live reps t h z nx=some (o,kp))(hp:ql0 o)(hk:K kp)(hnst:q5e live=false:=by rfl):q15 0 live t h z nx fun _ _ kp=>K kp:=by
 unfold setZ at hs
 split at hs
 rename_i t1 h1 z1 hn
 split at hs
 ·rename_i o1 h2 z2 hr
  simp only[q5X,qri,Option.some.injEq,Prod.mk.injEq]at hs
  obtain⟨rfl,rfl⟩:=hs
  unfold q15
  simp only[hnst]
  unfold q7C
  refine qjP _ _ _ _ _ _ fun nx'=>?_
  rw[hn]
  refine qGX hr hp ?_
  rw[q77,q78]
  exact hk
 cases hs
def qeY (m:List (ByteArray×D))(s:ByteArray):Option D:=(m.find? fun p=>s==p.1).map (·.2)
theorem qad (m:List (ByteArray×D))(s:ByteArray):∀n,match findKey s (m.map (·.1)) n with
 |some i=>n≤i∧∃v,(m.map (·.2))[i-n]?=some v∧qeY m s=some v
 |none=>qeY m s=none:=by
 induction m with
 |nil=>intro n;rfl
 |cons p m ih=>
  intro n
  simp only[List.map_cons,findKey]
  by_cases e:(s==p.1)=true
  ·rw[if_pos e]
   refine⟨Nat.le_refl _,p.2,by simp,by simp[qeY,List.find?_cons,e]⟩
  rw[if_neg e]
  have h:=ih (n+1)
  have em:qeY (p::m) s=qeY m s:=by
   unfold qeY;rw[List.find?_cons]
   simp only[Bool.not_eq_true]at e
   rw[e]
  cases hf:findKey s (m.map (·.1)) (n+1)with
  |none=>rw[hf]at h;simp only at h⊢;rw[em];exact h
  |some i=>
   rw[hf]at h
   simp only at h⊢
   obtain⟨h1,v,h2,h3⟩:=h
   refine⟨by omega,v,?_,by rw[em];exact h3⟩
   have:i-n=(i-(n+1))+1:=by omega
   rw[this,List.getElem?_cons_succ];exact h2
theorem atPut {mx kx vx:X}{dst:Option Nat}{m:List (ByteArray×D)}{st:ByteArray}{id:Nat}(hx:mx.ev t=.mref id)(hh:g.h base h id=some (.mp (m.map (·.1)) (m.map (·.2))))(hz:g.z base z id=0)(hkx:kx.ev t=.str st)(hn:qeY m st=none)
 (hk:wpM T sh nx0 (.ops base res rest::s) .normal (put t dst (.tup [])) (upd h id (some (.mp ((m++[(st,vx.ev t)]).map (·.1)) ((m++[(st,vx.ev t)]).map (·.2))))) z nx q):
 wpM T sh nx0 (.ops base res (⟨i,dst,none,g,.mapset mx kx vx⟩::rest)::s) .normal t h z nx q:=by
 refine q3P ?_
 have hf:=qad m st 0
 simp only[kop,qnZ,hx,hh,hkx,hz,qvt]
 cases hk':findKey st (m.map (·.1)) 0 with
 |none=>rw[List.map_append,List.map_append]at hk;exact hk
 |some j=>
  rw[hk']at hf
  obtain⟨_,v,h2,h3⟩:=hf
  rw[hn]at h3;cases h3
end
end Go.F

namespace Go.F
attribute [local irreducible] IntKind.wrap wpM
section
variable {T:Tab}{sh:Shr}{nx0:Nat}{s:List Fr}{t:q0z}{h:q0e}{z:Frz}{nx:Nat}{q:Ex→q0z→q0e→Frz→Nat→Prop}
variable {base i:Nat}{res:List Nat}{g:Gd}{rest:List KOper}
end
def q38 (n:Nat):Bool:=(decide (65≤n)&&decide (n≤90)) ||(decide (48≤n)&&decide (n≤57))
def sizeS (s:ByteArray):Bool:=decide (1≤s.size)&&(decide (s.size≤8)&&decide (∀i,i<s.size→q38 (q2G s i).toNat=true))
theorem qzr {s:ByteArray}{k:Nat}(hk:k<s.size)(h:q38 (q2G s k).toNat=false):sizeS s=false:=by
 unfold sizeS
 rw[Bool.and_eq_false_iff,Bool.and_eq_false_iff]
 right;right
 rw[decide_eq_false_iff_not]
 intro g
 rw[g k hk]at h;cases h
theorem q1G (n:Nat):q38 n=((leb 65 n&&leb n 90) ||(leb 48 n&&leb n 57)):=by
 simp only[q38,q2h]
 congr 1
 ·congr 1<;>(apply decide_eq_decide.2;omega)
 congr 1<;>(apply decide_eq_decide.2;omega)
set_option maxHeartbeats 2000000 in
theorem qnO (s:ByteArray)(hs:s.size≤1000000):PU qq4 [.str s]=some (.bool (sizeS s)):=by
 refine q0g (fn:=qed) rfl (q0a ?_)
 refine gg rfl (q0l (S:=fun k:Nat=>([.str s,q00 s.size,q00 k],[none,none,none],[0,0,0])) (C:=fun k=>k≤s.size∧∀i,i<k→q38 (q2G s i).toNat=true) (m:=fun k=>s.size-k) 0 ⟨by omega,fun i hi=>by omega⟩ (by omega) ?_ ?_)
 ·exact q03 rfl trivial (by simp[q00])
 intro k ⟨hk,hall⟩ N hN
 refine gg rfl (q01 rfl (fun g1=>?_) (fun g1=>?_))
 ·rw[q06]at g1
  have hlt:k<s.size:=by omega
  have w1:=wS (n:=k)
  have hb:=q6V hlt
  have hno:=qzr hlt
  have hyes:q38 (q2G s k).toNat=true→∀i,i<k+1→q38 (q2G s i).toNat=true:=by
   intro h i hi
   by_cases e:i=k
   ·subst e;exact h
   exact hall i (by omega)
  generalize q2G s k=c at*
  refine gg rfl (q2q k rfl rfl rfl hb (gg rfl (q08 rfl (fun a1=>?_) (fun a1=>?_))))
  ·refine gg rfl (q2q k rfl rfl rfl hb (gg rfl (q2q k rfl rfl rfl hb (gg rfl (q08 rfl (fun d1=>?_) (fun d1=>?_))))))
   ·refine gg rfl (q2q k rfl rfl rfl hb (gg rfl (q08 rfl (fun e1=>?_) (fun e1=>?_))))
    ·refine gg rfl (q01 rfl (fun e2=>?_) (fun e2=>?_))
     ·have hc:q38 c.toNat=false:=by rw[q1G];simp_all
      refine gg rfl (q04 (gg rfl (q09 rfl rfl rfl trivial ?_)))
      rw[hno hc]
     have hc:q38 c.toNat=true:=by rw[q1G];simp_all
     exact gg rfl (q04 (hN (k+1) ⟨hlt,hyes hc⟩ (by omega) (q03 rfl trivial (by simp[q00,w1]))))
    refine gg rfl (q0i rfl ?_)
    have hc:q38 c.toNat=true:=by rw[q1G];simp_all
    exact gg rfl (q04 (hN (k+1) ⟨hlt,hyes hc⟩ (by omega) (q03 rfl trivial (by simp[q00,w1]))))
   refine gg rfl (q08 rfl (fun e1=>?_) (fun e1=>?_))
   ·refine gg rfl (q01 rfl (fun e2=>?_) (fun e2=>?_))
    ·have hc:q38 c.toNat=false:=by rw[q1G];simp_all
     refine gg rfl (q04 (gg rfl (q09 rfl rfl rfl trivial ?_)))
     rw[hno hc]
    have hc:q38 c.toNat=true:=by rw[q1G];simp_all
    exact gg rfl (q04 (hN (k+1) ⟨hlt,hyes hc⟩ (by omega) (q03 rfl trivial (by simp[q00,w1]))))
   refine gg rfl (q0i rfl ?_)
   have hc:q38 c.toNat=true:=by rw[q1G];simp_all
   exact gg rfl (q04 (hN (k+1) ⟨hlt,hyes hc⟩ (by omega) (q03 rfl trivial (by simp[q00,w1]))))
  refine gg rfl (q2q k rfl rfl rfl hb (gg rfl (q08 rfl (fun d1=>?_) (fun d1=>?_))))
  ·refine gg rfl (q2q k rfl rfl rfl hb (gg rfl (q08 rfl (fun e1=>?_) (fun e1=>?_))))
   ·refine gg rfl (q01 rfl (fun e2=>?_) (fun e2=>?_))
    ·have hc:q38 c.toNat=false:=by rw[q1G];simp_all
     refine gg rfl (q04 (gg rfl (q09 rfl rfl rfl trivial ?_)))
     rw[hno hc]
    have hc:q38 c.toNat=true:=by rw[q1G];simp_all
    exact gg rfl (q04 (hN (k+1) ⟨hlt,hyes hc⟩ (by omega) (q03 rfl trivial (by simp[q00,w1]))))
   refine gg rfl (q0i rfl ?_)
   have hc:q38 c.toNat=true:=by rw[q1G];simp_all
   exact gg rfl (q04 (hN (k+1) ⟨hlt,hyes hc⟩ (by omega) (q03 rfl trivial (by simp[q00,w1]))))
  refine gg rfl (q08 rfl (fun e1=>?_) (fun e1=>?_))
  ·refine gg rfl (q01 rfl (fun e2=>?_) (fun e2=>?_))
   ·have hc:q38 c.toNat=false:=by rw[q1G];simp_all
    refine gg rfl (q04 (gg rfl (q09 rfl rfl rfl trivial ?_)))
    rw[hno hc]
   have hc:q38 c.toNat=true:=by rw[q1G];simp_all
   exact gg rfl (q04 (hN (k+1) ⟨hlt,hyes hc⟩ (by omega) (q03 rfl trivial (by simp[q00,w1]))))
  refine gg rfl (q0i rfl ?_)
  have hc:q38 c.toNat=true:=by rw[q1G];simp_all
  exact gg rfl (q04 (hN (k+1) ⟨hlt,hyes hc⟩ (by omega) (q03 rfl trivial (by simp[q00,w1]))))
 rw[q07]at g1
 obtain rfl:k=s.size:=by omega
 have hA:decide (∀i,i<s.size→q38 (q2G s i).toNat=true)=true:=decide_eq_true hall
 refine gg rfl (q04 (gg rfl (q08 rfl (fun h1=>?_) (fun h1=>?_))))
 ·rw[q0G]at h1
  refine gg rfl (q09 rfl rfl rfl trivial ?_)
  rw[sizeS,hA,q2h,decide_eq_true (show 1≤s.size by omega)]
  simp
  omega
 rw[q0I]at h1
 refine gg rfl (q09 rfl rfl rfl trivial ?_)
 rw[sizeS,decide_eq_false (show¬1≤s.size by omega)];rfl
theorem qdh (s:ByteArray):PU qpR [.str s]=some (.bool (q1X s)):=by
 refine q0g (fn:=qem) rfl (q0a ?_)
 refine gg rfl (q02 rfl rfl (qbo s) ?_)
 repeat' (first
  |refine goP 800 rfl rfl ?_
  |refine q0h rfl ?_|refine q0m rfl ?_|refine q08 rfl (fun _=>?_) (fun _=>?_)
  |refine q0d rfl ?_|refine q0i rfl ?_|refine q01 rfl (fun _=>?_) (fun _=>?_)
  |refine q0Q rfl (fun _=>?_) (fun _=>?_)
  |refine q09 rfl rfl rfl trivial ?_)
 cases q1X s<;>simp[eqb]
theorem qsE (s:ByteArray):PU q7U [.lst [],.str s]=some (.int .i64 (-1)):=by
 refine q0g (fn:=q4c) rfl (q0a ?_)
 refine gg rfl (q0l (S:=fun k:Nat=>([.lst [],.str s,q00 0,q00 k],[none,none,none,none],[0,0,0,0])) (C:=fun k=>k=0) (m:=fun k=>0) 0 rfl (by omega) ?_ ?_)
 ·exact q03 rfl trivial rfl
 rintro k rfl N hN
 refine gg rfl (q01 rfl (fun g=>absurd (q06.1 g) (by simp)) (fun _=>?_))
 exact gg rfl (q04 (gg rfl (q09 rfl rfl rfl trivial rfl)))
theorem qkV (s:ByteArray):PU q6D [.lst [],.str s]=some (.bool false):=by
 refine q0g (fn:=q3E) rfl (q0a ?_)
 refine gg rfl (q02 rfl rfl (qsE s) (gg rfl (q09 rfl rfl rfl trivial ?_)))
 rw[q2h];rfl
def qkW (s:ByteArray):D:=.agg [.lst [.str s],.int .i64 0,.lst []]
theorem qBS (s:ByteArray):PU qny [qkW s,.int .i64 0]=some (.bool true):=by
 refine q0g (fn:=qcO) rfl (q0a ?_)
 repeat' (first
  |refine goP 800 rfl rfl ?_
  |refine q0h rfl ?_|refine q0m rfl ?_|refine q08 rfl (fun _=>?_) (fun _=>?_)
  |refine q0d rfl ?_|refine q0i rfl ?_|refine q01 rfl (fun _=>?_) (fun _=>?_)
  |refine q0Q rfl (fun _=>?_) (fun _=>?_)
  |refine q09 rfl rfl rfl trivial ?_)
 all_goals (first|rfl|(simp_all[q2h,q1U];done) |(simp only[q0I,q07]at*;omega))
set_option maxHeartbeats 4000000 in
theorem qrf (s:ByteArray)(hs:s.size≤1000000):PU qs1 [qkW s]=some (.int .i64 (if sizeS s then 0 else 1)):=by
 have hz:=qnO s hs
 refine q0g (fn:=qgE) rfl (q0a ?_)
 refine gg rfl (q08 rfl (fun g=>absurd (q06.1 g) (by simp)) (fun _=>?_))
 refine gg rfl (q01 rfl (fun g=>absurd (q06.1 g) (by simp)) (fun _=>?_))
 refine gg rfl (q01 rfl (fun g=>absurd (q1I.1 g) (by simp)) (fun _=>?_))
 refine gg rfl (q0l (S:=fun k:Nat=>([.ptr 0 0 0,.lst [.str s],q00 1,q00 k],[some (.row [qkW s] 3),none,none,none],[0,0,0,0])) (C:=fun k=>k≤1∧(k=1→sizeS s=true)) (m:=fun k=>1-k) 0 ⟨by omega,fun h=>by omega⟩ (by omega) ?_ ?_)
 ·exact q03 rfl ⟨rfl,trivial⟩ rfl
 rintro k ⟨hk,hks⟩ N hN
 refine gg rfl (q01 rfl (fun g=>?_) (fun g=>?_))
 ·rw[q06]at g
  obtain rfl:k=0:=by omega
  refine gg rfl (q0j 0 rfl rfl rfl rfl rfl (gg rfl (q02 rfl rfl hz ?_)))
  cases hv:sizeS s with
  |false=>
   exact gg rfl (q0d rfl (gg rfl (q04 (gg rfl (q09 rfl rfl rfl trivial rfl)))))
  |true=>
   refine gg rfl (q0i rfl (gg rfl (q04 (hN 1 ⟨by omega,fun _=>hv⟩ (by omega) (q03 rfl ⟨rfl,trivial⟩ ?_)))))
   have w:IntKind.i64.wrap (((0:Nat):Int)+1)=((1:Nat):Int):=ww
   rw[w];rfl
 rw[q07]at g
 obtain rfl:k=1:=by omega
 clear hN
 rw[hks rfl]
 refine gg rfl (q04 (gg rfl (q0l (S:=fun k:Nat=>([.ptr 0 0 0,.lst [],q00 0,q00 0],[some (.row [qkW s] 3),none,none,none],[0,0,0,0])) (C:=fun k=>k=0) (m:=fun k=>0) 0 rfl (by omega) ?_ ?_)))
 ·exact q03 rfl ⟨rfl,trivial⟩ rfl
 rintro k rfl N hN
 refine gg rfl (q01 rfl (fun g=>absurd (q06.1 g) (by simp)) (fun _=>?_))
 clear hN
 refine gg rfl (q04 (gg rfl (q0l (S:=fun k:Nat=>([.ptr 0 0 0,.lst [.str s],q00 1,q00 k],[some (.row [qkW s] 3),none,none,none],[0,0,0,0])) (C:=fun k=>k≤1) (m:=fun k=>1-k) 0 (by omega) (by omega) ?_ ?_)))
 ·exact q03 rfl ⟨rfl,trivial⟩ rfl
 intro k hk N hN
 refine gg rfl (q01 rfl (fun g=>?_) (fun g=>?_))
 ·rw[q06]at g
  obtain rfl:k=0:=by omega
  refine gg rfl (q0j 0 rfl rfl rfl rfl rfl (gg rfl (qdB 0 rfl rfl ⟨_,_,rfl,rfl⟩ (Nat.zero_le _) (gg rfl (q02 rfl rfl (qkV s) (gg rfl (q0i rfl (gg rfl (q04 (hN 1 (by omega) (by omega) (q03 rfl ⟨rfl,trivial⟩ ?_)))))))))))
  have w:IntKind.i64.wrap (((0:Nat):Int)+1)=((1:Nat):Int):=ww
  rw[w];rfl
 rw[q07]at g
 clear hN
 refine gg rfl (q04 (gg rfl (q0l (S:=fun k:Nat=>([.ptr 0 0 0,.lst [],q00 0,q00 0],[some (.row [qkW s] 3),none,none,none],[0,0,0,0])) (C:=fun k=>k=0) (m:=fun k=>0) 0 rfl (by omega) ?_ ?_)))
 ·exact q03 rfl ⟨rfl,trivial⟩ rfl
 rintro k rfl N hN
 refine gg rfl (q01 rfl (fun g=>absurd (q06.1 g) (by simp)) (fun _=>?_))
 clear hN
 exact gg rfl (q04 (gg rfl (q02 rfl rfl (qBS s) (gg rfl (q0i rfl (gg rfl (q09 rfl rfl rfl trivial rfl)))))))
theorem qnP (s:ByteArray)(hs:s.size≤1000000):PU qpS [.str s]=some (.bool (sizeS s)):=by
 have hz:=qrf s hs
 refine q0g (fn:=qe8) rfl (q0a ?_)
 refine gg rfl (q7u rfl rfl ⟨⟨Nat.le_refl _,rfl⟩,trivial⟩ hz rfl (gg rfl (q09 rfl rfl rfl trivial ?_)))
 cases sizeS s<;>simp[q2o]
theorem qww (l:List Int)(v:Int)(hl:l.length≤1000000):PU qc7 [ints l,.int .i64 v]=some (.int .i64 (qeG (fun x=>decide (v=x)) l)):=by
 refine q0g (fn:=q6m) rfl (q0a ?_)
 refine gg rfl ?_
 rw[List.length_map]
 refine q0l (S:=fun k:Nat=>([ints l,.int .i64 v,q00 l.length,q00 k],[none,none,none,none],[0,0,0,0])) (C:=fun k=>k≤l.length∧∀j (hj:j<l.length),j<k→decide (v=l[j])=false) (m:=fun k=>l.length-k) 0 ⟨Nat.zero_le _,fun j _ h=>by omega⟩ (by omega) ?_ ?_
 ·exact q03 rfl trivial (by simp[ints,q00])
 rintro k ⟨hk,hno⟩ N hN
 refine gg rfl (q01 rfl (fun g=>?_) (fun g=>?_))
 ·rw[q06]at g
  have hlt:k<l.length:=by omega
  have w1:=wS (n:=k)
  refine gg rfl (q0j k rfl rfl rfl (q1K hlt) rfl (gg rfl (q01 rfl (fun e=>?_) (fun e=>?_))))
  ·rw[q1I]at e
   refine gg rfl (q04 (gg rfl (q09 rfl rfl rfl trivial ?_)))
   rw[qhj hlt hno (decide_eq_true e)]
  rw[q1J]at e
  refine gg rfl (q04 (hN (k+1) ⟨hlt,fun j hj hjk=>?_⟩ (by omega) (q03 rfl trivial (by simp[ints,q00,w1]))))
  by_cases ej:j=k
  ·subst ej;exact decide_eq_false e
  exact hno j hj (by omega)
 rw[q07]at g
 obtain rfl:k=l.length:=by omega
 refine gg rfl (q04 (gg rfl (q09 rfl rfl rfl trivial ?_)))
 rw[qhk fun j hj=>hno j hj hj]
theorem qnQ (l:List Int)(v:Int)(hl:l.length≤1000000):PU q9B [ints l,.int .i64 v]=some (.bool (decide (v∈l))):=by
 have h:=qww l v hl
 have e:decide (v∈l)=decide (0≤qeG (fun x=>decide (v=x)) l):=by
  rw[qc4]
  rw[Bool.eq_iff_iff]
  simp
 refine q0g (fn:=q58) rfl (q0a ?_)
 refine gg rfl (q02 rfl rfl h (gg rfl (q09 rfl rfl rfl trivial ?_)))
 rw[e,q2h]
end Go.F

namespace Go.F
attribute [local irreducible] IntKind.wrap wpM
section
variable {T:Tab}{sh:Shr}{nx0:Nat}{s:List Fr}{t:q0z}{h:q0e}{z:Frz}{nx:Nat}{q:Ex→q0z→q0e→Frz→Nat→Prop}
variable {base i:Nat}{res:List Nat}{g:Gd}{rest:List KOper}
theorem qJ5 {zv:D}{x kx:X}{dst:Nat}{m:List (ByteArray×D)}{st:ByteArray}{id:Nat}(hx:x.ev t=.mref id)(hh:g.h base h id=some (.mp (m.map (·.1)) (m.map (·.2))))(hkx:kx.ev t=.str st)
 (hs:∀v,qeY m st=some v→wpM T sh nx0 (.ops base res rest::s) .normal (upd t dst v) h z nx q)
 (hn:qeY m st=none→wpM T sh nx0 (.ops base res rest::s) .normal (upd t dst zv) h z nx q):
 wpM T sh nx0 (.ops base res (⟨i,some dst,none,g,.lookup zv x kx false⟩::rest)::s) .normal t h z nx q:=by
 refine q3P ?_
 have hf:=qad m st 0
 simp only[kop,qjd,hx,hh,q6Y,hkx,qvt]
 cases hk:findKey st (m.map (·.1)) 0 with
 |none=>rw[hk]at hf;exact hn hf
 |some j=>
  rw[hk]at hf
  obtain⟨_,v,h2,h3⟩:=hf
  exact qaj h2 (hs v h3)
end
theorem qJ6 {a b:ByteArray}(h:a.toList=b.toList):a=b:=by
 rw[Go.ByteArray.toList_eq,Go.ByteArray.toList_eq]at h
 exact ByteArray.ext (Array.ext' h)
theorem ba_eq2 (a b:ByteArray):(a==b)=(a.toList==b.toList):=by
 have e:(a==b)=(a.data==b.data):=rfl
 rw[e,Bool.eq_iff_iff,beq_iff_eq,beq_iff_eq]
 exact⟨fun h=>by rw[Go.ByteArray.toList_eq,Go.ByteArray.toList_eq,h],fun h=>by rw[qJ6 h]⟩
def q7M (l:List ByteArray):List (ByteArray×D):=l.map fun x=>(x,D.bool true)
theorem qBT (l:List ByteArray)(x:ByteArray):q7M (l++[x])=q7M l++[(x,.bool true)]:=by simp[q7M]
theorem qFb (l:List ByteArray)(s:ByteArray):qeY (q7M l) s=cond (l.any fun x=>x.toList==s.toList) (some (.bool true)) none:=by
 induction l with
 |nil=>rfl
 |cons x l ih=>
  unfold qeY q7M at*
  simp only[List.map_cons,List.find?_cons,List.any_cons]
  rw[ba_eq2,Bool.beq_comm]
  cases x.toList==s.toList with
  |true=>rfl
  |false=>exact ih
theorem qzs (l:List ByteArray):((q7M l).map (·.2)).all (plain 4)=true:=by
 unfold q7M;rw[List.map_map];exact q05 (fun _=>rfl) _
def q5i (l:List ByteArray):Bool:=(List.range l.length).any fun i=>(l.take i).any fun x=>x.toList==(sz l i).toList
def q2A (s:Sty):Int:=
 if q1X s.name=false∨s.sizes.length=0 then 1
 else if s.sizes.any (fun x=>!sizeS x)then 1
 else if s.mults.length≠s.sizes.length∨0∉s.mults then 1
 else if q5i s.sizes then 7
 else if 12<s.sizes.length∨12<s.pieces.length∨12<s.uses.length then 5
 else if 24<s.seams.length∨16<s.ops.length then 5
 else if s.mults.any (fun m=>decide (m< -100) ||decide (100<m))then 3 else 0
structure StyB (s:Sty):Prop where
 sizes:s.sizes.length≤1000
 size:∀x∈s.sizes,x.size≤1000
 mults:s.mults.length≤1000
 pieces:s.pieces.length≤1000
 uses:s.uses.length≤1000
 seams:s.seams.length≤1000
 ops:s.ops.length≤1000
 corners:∀p∈s.pieces,p.corners.length≤1000
 widths:∀p∈s.pieces,p.widths.length≤1000
 notches:∀p∈s.pieces,p.notches.length≤1000
theorem qfP (s:Sty):s.enc=.agg [.str s.name,.lst (s.sizes.map .str),.lst (s.mults.map q00),.lst (s.pieces.map Piece.enc),.lst (s.uses.map Use.enc),.lst (s.seams.map Sew.enc),.lst (s.ops.map Opn.enc)]:=rfl
set_option maxHeartbeats 8000000 in
theorem qsF (s:Sty)(hB:StyB s):PU qhp [s.enc]=some (.int .i64 (q2A s)):=by
 have b1:=hB.sizes
 have b2:=hB.mults
 refine q0g (fn:=q92) rfl (q0a ?_)
 refine gg rfl (q02 rfl rfl (qdh s.name) ?_)
 cases hn:q1X s.name with
 |false=>
  refine gg rfl (q0h rfl (gg rfl (q0d rfl (gg rfl (q09 rfl rfl rfl trivial ?_)))))
  rw[q2A,if_pos (.inl hn)]
 |true=>
  refine gg rfl (q0m rfl (gg rfl ?_))
  rw[List.length_map]
  refine q01 rfl (fun g=>?_) (fun g=>?_)
  ·rw[q1I]at g
   refine gg rfl (q09 rfl rfl rfl trivial ?_)
   rw[q2A,if_pos (.inr (by omega))]
  rw[q1J]at g
  have hc1:¬(q1X s.name=false∨s.sizes.length=0):=by
   rintro(h|h)
   ·rw[hn]at h;cases h
   omega
  refine gg rfl ?_
  rw[List.length_map]
  refine q0l (S:=fun k:Nat=>([.ptr 0 0 0,strs s.sizes,q00 s.sizes.length,q00 k],[some (.row [s.enc] 7),none,none,none],[0,0,0,0])) (C:=fun k=>k≤s.sizes.length∧∀j (hj:j<s.sizes.length),j<k→sizeS s.sizes[j]=true) (m:=fun k=>s.sizes.length-k) 0 ⟨Nat.zero_le _,fun j _ h=>by omega⟩ (by omega) ?_ ?_
  ·exact q03 rfl ⟨rfl,trivial⟩ rfl
  rintro k ⟨hk,hall⟩ N hN
  refine gg rfl (q01 rfl (fun e=>?_) (fun e=>?_))
  ·rw[q06]at e
   have hlt:k<s.sizes.length:=by omega
   have w1:=wS (n:=k)
   have hz:=qnP s.sizes[k] (by have:=hB.size _ (List.getElem_mem hlt);omega)
   refine gg rfl (q0j k rfl rfl rfl (q1K hlt) rfl (gg rfl (q02 rfl rfl hz ?_)))
   cases hv:sizeS s.sizes[k]with
   |false=>
    refine gg rfl (q0d rfl (gg rfl (q04 (gg rfl (q09 rfl rfl rfl trivial ?_)))))
    rw[q2A,if_neg hc1,if_pos (q2j hlt (by rw[hv];rfl))]
   |true=>
    refine gg rfl (q0i rfl (gg rfl (q04 (hN (k+1) ⟨hlt,fun j hj hjk=>?_⟩ (by omega) (q03 rfl ⟨rfl,trivial⟩ (by rw[w1];rfl))))))
    by_cases ej:j=k
    ·subst ej;exact hv
    exact hall j hj (by omega)
  rw[q07]at e
  obtain rfl:k=s.sizes.length:=by omega
  clear hN
  have hc2:¬(s.sizes.any (fun x=>!sizeS x))=true:=by rw[q29 fun j hj=>by rw[hall j hj hj];rfl];decide
  refine gg rfl (q04 (gg rfl ?_))
  rw[List.length_map,List.length_map]
  refine q08 rfl (fun g2=>?_) (fun g2=>?_)
  ·rw[q0w]at g2
   refine gg rfl (q0d rfl (gg rfl (q09 rfl rfl rfl trivial ?_)))
   rw[q2A,if_neg hc1,if_neg hc2,if_pos (.inl (by omega))]
  rw[q0B]at g2
  have g2':s.mults.length=s.sizes.length:=by omega
  refine gg rfl (q02 rfl rfl (qnQ s.mults 0 (by omega)) ?_)
  cases hz:decide (0∈s.mults)with
  |false=>
   have hz:=of_decide_eq_false hz
   refine gg rfl (q0d rfl (gg rfl (q09 rfl rfl rfl trivial ?_)))
   rw[q2A,if_neg hc1,if_neg hc2,if_pos (.inr hz)]
  |true=>
   have hz:=of_decide_eq_true hz
   have hc3:¬(s.mults.length≠s.sizes.length∨0∉s.mults):=by
    rintro(h|h)
    ·exact h g2'
    exact h hz
   refine gg rfl (q0i rfl (gg rfl ?_))
   rw[List.length_map]
   refine q0l (S:=fun k:Nat=>([.ptr 0 0 0,.mref 1,strs s.sizes,q00 s.sizes.length,q00 k],[some (.row [s.enc] 7),some (.mp ((q7M (s.sizes.take k)).map (·.1)) ((q7M (s.sizes.take k)).map (·.2))),none,none,none],[0,0,0,0,0])) (C:=fun k=>k≤s.sizes.length∧∀i,i<k→((s.sizes.take i).any fun x=>x.toList==(sz s.sizes i).toList)=false) (m:=fun k=>s.sizes.length-k) 0 ⟨Nat.zero_le _,fun j h=>by omega⟩ (by omega) ?_ ?_
   ·exact qCB (o:=[.p _,.p _]) (kp:=([.ptr 0 0 0,.mref 1,strs s.sizes,q00 s.sizes.length,q00 0],[some (.row [s.enc] 7),some (.mp [] []),none,none,none],[0,0,0,0,0])) [none] rfl ⟨rfl,rfl,trivial⟩ rfl
   rintro k ⟨hk,htw⟩ N hN
   refine gg rfl (q01 rfl (fun e=>?_) (fun e=>?_))
   ·rw[q06]at e
    have hlt:k<s.sizes.length:=by omega
    have w1:=wS (n:=k)
    have hst:q7M (s.sizes.take (k+1))=q7M (s.sizes.take k)++[(sz s.sizes k,.bool true)]:=by
     rw[List.take_succ_eq_append_getElem hlt,qBT,qBQ hlt]
    have hgt:=qFb (s.sizes.take k) (sz s.sizes k)
    refine gg rfl (q0j k rfl rfl rfl (qBR hlt) rfl (gg rfl (qJ5 (m:=q7M (s.sizes.take k)) rfl rfl rfl (fun v hv=>?_) (fun hv=>?_))))
    ·rw[hgt]at hv
     cases ha:((s.sizes.take k).any fun x=>x.toList==(sz s.sizes k).toList)with
     |true=>
      rw[ha]at hv
      cases hv
      refine gg rfl (q0d rfl (gg rfl (q04 (gg rfl (q09 rfl rfl rfl trivial ?_)))))
      have ht:q5i s.sizes=true:=by
       unfold q5i
       rw[List.any_eq_true]
       exact⟨k,List.mem_range.2 hlt,ha⟩
      rw[q2A,if_neg hc1,if_neg hc2,if_neg hc3,if_pos ht]
     |false=>rw[ha]at hv;cases hv
    have ha:((s.sizes.take k).any fun x=>x.toList==(sz s.sizes k).toList)=false:=by
     rw[hgt]at hv
     cases ha:((s.sizes.take k).any fun x=>x.toList==(sz s.sizes k).toList)with
     |true=>rw[ha]at hv;cases hv
     |false=>rfl
    refine gg rfl (q0i rfl (gg rfl (atPut (m:=q7M (s.sizes.take k)) rfl rfl rfl rfl hv (gg rfl (q04 (hN (k+1) ⟨hlt,fun i hi=>?_⟩ (by omega) (qCB (o:=[.p [s.enc],.p ((q7M (s.sizes.take k)++[(sz s.sizes k,D.bool true)]:List (ByteArray×D)).map (·.2))]) (kp:=([.ptr 0 0 0,.mref 1,strs s.sizes,q00 s.sizes.length,.int .i64 (IntKind.i64.wrap ((k:Int)+1))],[some (.row [s.enc] 7),some (.mp ((q7M (s.sizes.take k)++[(sz s.sizes k,D.bool true)]:List (ByteArray×D)).map (·.1)) ((q7M (s.sizes.take k)++[(sz s.sizes k,D.bool true)]:List (ByteArray×D)).map (·.2))),none,none,none],[0,0,0,0,0])) [none] rfl ⟨rfl,?_,trivial⟩ ?_)))))))
    ·by_cases ei:i=k
     ·subst ei;exact ha
     exact htw i (by omega)
    ·show List.all ((q7M (s.sizes.take k)++[(sz s.sizes k,D.bool true)]:List (ByteArray×D)).map (·.2)) _=true
     rw[←hst];exact qzs _
    rw[w1,hst];rfl
   rw[q07]at e
   obtain rfl:k=s.sizes.length:=by omega
   clear hN
   have hc4:¬q5i s.sizes=true:=by
    unfold q5i
    rw[List.any_eq_true]
    rintro⟨i,hi,h⟩
    rw[htw i (List.mem_range.1 hi)]at h;cases h
   have hw:q2A s=if 12<s.sizes.length∨12<s.pieces.length∨12<s.uses.length then 5
    else if 24<s.seams.length∨16<s.ops.length then 5
    else if s.mults.any (fun m=>decide (m< -100) ||decide (100<m))then 3 else 0:=by
    rw[q2A,if_neg hc1,if_neg hc2,if_neg hc3,if_neg hc4]
   rw[hw]
   refine gg rfl (q04 (gg rfl ?_))
   rw[List.length_map]
   refine q08 rfl (fun g3=>?_) (fun g3=>?_)
   ·rw[q06]at g3
    refine gg rfl (q0h rfl (gg rfl (q0d rfl (gg rfl (q09 rfl rfl rfl trivial ?_)))))
    rw[if_pos (.inl (by omega))]
   rw[q07]at g3
   refine gg rfl ?_
   rw[List.length_map]
   refine q08 rfl (fun g4=>?_) (fun g4=>?_)
   ·rw[q06]at g4
    refine gg rfl (q0d rfl (gg rfl (q09 rfl rfl rfl trivial ?_)))
    rw[if_pos (.inr (.inl (by omega)))]
   rw[q07]at g4
   refine gg rfl ?_
   rw[List.length_map]
   refine q01 rfl (fun g5=>?_) (fun g5=>?_)
   ·rw[q06]at g5
    refine gg rfl (q09 rfl rfl rfl trivial ?_)
    rw[if_pos (.inr (.inr (by omega)))]
   rw[q07]at g5
   rw[if_neg (by omega)]
   refine gg rfl ?_
   rw[List.length_map]
   refine q08 rfl (fun g6=>?_) (fun g6=>?_)
   ·rw[q06]at g6
    refine gg rfl (q0d rfl (gg rfl (q09 rfl rfl rfl trivial ?_)))
    rw[if_pos (.inl (by omega))]
   rw[q07]at g6
   refine gg rfl ?_
   rw[List.length_map]
   refine q01 rfl (fun g7=>?_) (fun g7=>?_)
   ·rw[q06]at g7
    refine gg rfl (q09 rfl rfl rfl trivial ?_)
    rw[if_pos (.inr (by omega))]
   rw[q07]at g7
   rw[if_neg (by omega)]
   refine gg rfl ?_
   rw[List.length_map]
   refine q0l (S:=fun k:Nat=>([ints s.mults,q00 s.mults.length,q00 k],[none,none,none],[0,0,0])) (C:=fun k=>k≤s.mults.length∧∀j (hj:j<s.mults.length),j<k→(decide (s.mults[j]< -100) ||decide (100<s.mults[j]))=false) (m:=fun k=>s.mults.length-k) 0 ⟨Nat.zero_le _,fun j _ h=>by omega⟩ (by omega) ?_ ?_
   ·exact q03 rfl trivial rfl
   rintro k ⟨hk,hm⟩ N hN
   refine gg rfl (q01 rfl (fun e=>?_) (fun e=>?_))
   ·rw[q06]at e
    have hlt:k<s.mults.length:=by omega
    have w1:=wS (n:=k)
    have bad:(decide (s.mults[k]< -100) ||decide (100<s.mults[k]))=true→(s.mults.any fun m=>decide (m< -100) ||decide (100<m))=true:=fun h=>q2j hlt h
    have hx:(s.mults.map q00)[k]?=some (.int .i64 s.mults[k]):=q1K hlt
    refine gg rfl (q0j k rfl rfl rfl hx rfl (gg rfl (q08 rfl (fun f1=>?_) (fun f1=>?_))))
    ·rw[q06]at f1
     refine gg rfl (q0d rfl (gg rfl (q04 (gg rfl (q09 rfl rfl rfl trivial ?_)))))
     rw[if_pos (bad (by simp;omega))]
    rw[q07]at f1
    refine gg rfl (q01 rfl (fun f2=>?_) (fun f2=>?_))
    ·rw[q06]at f2
     refine gg rfl (q04 (gg rfl (q09 rfl rfl rfl trivial ?_)))
     rw[if_pos (bad (by simp;omega))]
    rw[q07]at f2
    refine gg rfl (q04 (hN (k+1) ⟨hlt,fun j hj hjk=>?_⟩ (by omega) (q03 rfl trivial (by rw[w1];rfl))))
    by_cases ej:j=k
    ·subst ej;simp;omega
    exact hm j hj (by omega)
   rw[q07]at e
   obtain rfl:k=s.mults.length:=by omega
   rw[if_neg (by rw[q29 fun j hj=>hm j hj hj];decide)]
   exact gg rfl (q04 (gg rfl (q09 rfl rfl rfl trivial rfl)))
end Go.F

namespace Go.F
attribute [local irreducible] IntKind.wrap wpM
def q2d (b:List Piece)(p:Piece):Int:=
 if q1X p.name=false then 1
 else if p.grain≠1∧p.grain≠2∧p.grain≠4 then 1
 else if(b.any fun o=>o.name.toList==p.name.toList)then 7
 else if(q0p p 0).2≠0 then(q0p p 0).2
 else if(q0W p 0).2≠0 then(q0W p 0).2
 else if p.widths.length≠p.edges.length then 1
 else if p.widths.any q2v then 3 else 0
set_option maxHeartbeats 8000000 in
theorem qsG (b:List Piece)(p:Piece)(hb:b.length≤1000)(h1:p.corners.length≤1000)(h2:p.widths.length≤1000):PU qhq [Go.F.pieces b,p.enc]=some (.int .i64 (q2d b p)):=by
 refine q0g (fn:=q8N) rfl (q0a ?_)
 refine gg rfl (q02 rfl rfl (qdh p.name) ?_)
 cases hn:q1X p.name with
 |false=>
  refine gg rfl (q0d rfl (gg rfl (q09 rfl rfl rfl trivial ?_)))
  rw[q2d,if_pos hn]
 |true=>
  have hc1:¬q1X p.name=false:=by rw[hn];decide
  refine gg rfl (q0i rfl (gg rfl (q08 rfl (fun g1=>?_) (fun g1=>?_))))
  ·rw[q0w]at g1
   refine gg rfl (q08 rfl (fun g2=>?_) (fun g2=>?_))
   ·rw[q0w]at g2
    refine gg rfl (q01 rfl (fun g3=>?_) (fun g3=>?_))
    ·rw[q0w]at g3
     refine gg rfl (q09 rfl rfl rfl trivial ?_)
     rw[q2d,if_neg hc1,if_pos ⟨g1,g2,g3⟩]
    rw[q0B]at g3
    have hc2:¬(p.grain≠1∧p.grain≠2∧p.grain≠4):=fun h=>h.2.2 g3
    refine gg rfl ?_
    rw[List.length_map]
    refine q0l (S:=fun k:Nat=>([.ptr 0 0 0,Go.F.pieces b,q00 b.length,q00 k],[some (.row [p.enc] 7),none,none,none],[0,0,0,0])) (C:=fun k=>k≤b.length∧∀j (hj:j<b.length),j<k→(b[j].name.toList==p.name.toList)=false) (m:=fun k=>b.length-k) 0 ⟨Nat.zero_le _,fun j _ h=>by omega⟩ (by omega) ?_ ?_
    ·exact q03 rfl ⟨rfl,trivial⟩ rfl
    rintro k ⟨hk,hno⟩ N hN
    refine gg rfl (q01 rfl (fun e=>?_) (fun e=>?_))
    ·rw[q06]at e
     have hlt:k<b.length:=by omega
     have w1:=wS (n:=k)
     refine gg rfl (q0j k rfl rfl rfl (q1K hlt) rfl (gg rfl (q01 rfl (fun f=>?_) (fun f=>?_))))
     ·refine gg rfl (q04 (gg rfl (q09 rfl rfl rfl trivial ?_)))
      rw[q2d,if_neg hc1,if_neg hc2,if_pos (q2j hlt f)]
     refine gg rfl (q04 (hN (k+1) ⟨hlt,fun j hj hjk=>?_⟩ (by omega) (q03 rfl ⟨rfl,trivial⟩ (by rw[w1];rfl))))
     by_cases ej:j=k
     ·subst ej;exact f
     exact hno j hj (by omega)
    rw[q07]at e
    obtain rfl:k=b.length:=by omega
    clear hN
    have hc3:¬(b.any fun o=>o.name.toList==p.name.toList)=true:=by rw[q29 fun j hj=>hno j hj hj];decide
    have hw:q2d b p=if(q0p p 0).2≠0 then(q0p p 0).2
     else if(q0W p 0).2≠0 then(q0W p 0).2
     else if p.widths.length≠p.edges.length then 1
     else if p.widths.any q2v then 3 else 0:=by rw[q2d,if_neg hc1,if_neg hc2,if_neg hc3]
    rw[hw]
    refine gg rfl (q04 (gg rfl (q02 rfl rfl (q67 p 0 (by omega)) ?_)))
    refine gg rfl (q01 rfl (fun f=>?_) (fun f=>?_))
    ·rw[q0w]at f
     refine gg rfl (q09 rfl rfl rfl trivial ?_)
     rw[if_pos f]
    rw[q0B]at f
    rw[if_neg (by simp[f])]
    refine gg rfl (q02 rfl rfl (qbq p 0 (by omega)) ?_)
    refine gg rfl (q01 rfl (fun f2=>?_) (fun f2=>?_))
    ·rw[q0w]at f2
     refine gg rfl (q09 rfl rfl rfl trivial ?_)
     rw[if_pos f2]
    rw[q0B]at f2
    rw[if_neg (by simp[f2])]
    refine gg rfl ?_
    rw[List.length_map,List.length_map]
    refine q01 rfl (fun f3=>?_) (fun f3=>?_)
    ·rw[q0w]at f3
     refine gg rfl (q09 rfl rfl rfl trivial ?_)
     rw[if_pos (by omega)]
    rw[q0B]at f3
    rw[if_neg (by omega)]
    refine gg rfl ?_
    rw[List.length_map]
    refine q0l (S:=fun k:Nat=>([ints p.widths,q00 p.widths.length,q00 k],[none,none,none],[0,0,0])) (C:=fun k=>k≤p.widths.length∧∀j (hj:j<p.widths.length),j<k→q2v p.widths[j]=false) (m:=fun k=>p.widths.length-k) 0 ⟨Nat.zero_le _,fun j _ h=>by omega⟩ (by omega) ?_ ?_
    ·exact q03 rfl trivial rfl
    rintro k ⟨hk,hm⟩ N hN
    refine gg rfl (q01 rfl (fun e=>?_) (fun e=>?_))
    ·rw[q06]at e
     have hlt:k<p.widths.length:=by omega
     have w1:=wS (n:=k)
     have bad:q2v p.widths[k]=true→p.widths.any q2v=true:=fun h=>q2j hlt h
     have hx:(p.widths.map q00)[k]?=some (.int .i64 p.widths[k]):=q1K hlt
     refine gg rfl (q0j k rfl rfl rfl hx rfl (gg rfl (q08 rfl (fun f1=>?_) (fun f1=>?_))))
     ·rw[q06]at f1
      refine gg rfl (q0d rfl (gg rfl (q04 (gg rfl (q09 rfl rfl rfl trivial ?_)))))
      rw[if_pos (bad (by simp[q2v];omega))]
     rw[q07]at f1
     refine gg rfl (q01 rfl (fun f2=>?_) (fun f2=>?_))
     ·rw[q06]at f2
      refine gg rfl (q04 (gg rfl (q09 rfl rfl rfl trivial ?_)))
      rw[if_pos (bad (by simp[q2v];omega))]
     rw[q07]at f2
     refine gg rfl (q04 (hN (k+1) ⟨hlt,fun j hj hjk=>?_⟩ (by omega) (q03 rfl trivial (by rw[w1];rfl))))
     by_cases ej:j=k
     ·subst ej;simp[q2v];omega
     exact hm j hj (by omega)
    rw[q07]at e
    obtain rfl:k=p.widths.length:=by omega
    rw[if_neg (by rw[q29 fun j hj=>hm j hj hj];decide)]
    exact gg rfl (q04 (gg rfl (q09 rfl rfl rfl trivial rfl)))
   rw[q0B]at g2
   have hc2:¬(p.grain≠1∧p.grain≠2∧p.grain≠4):=fun h=>h.2.1 g2
   refine gg rfl (q0i rfl (gg rfl ?_))
   rw[List.length_map]
   refine q0l (S:=fun k:Nat=>([.ptr 0 0 0,Go.F.pieces b,q00 b.length,q00 k],[some (.row [p.enc] 7),none,none,none],[0,0,0,0])) (C:=fun k=>k≤b.length∧∀j (hj:j<b.length),j<k→(b[j].name.toList==p.name.toList)=false) (m:=fun k=>b.length-k) 0 ⟨Nat.zero_le _,fun j _ h=>by omega⟩ (by omega) ?_ ?_
   ·exact q03 rfl ⟨rfl,trivial⟩ rfl
   rintro k ⟨hk,hno⟩ N hN
   refine gg rfl (q01 rfl (fun e=>?_) (fun e=>?_))
   ·rw[q06]at e
    have hlt:k<b.length:=by omega
    have w1:=wS (n:=k)
    refine gg rfl (q0j k rfl rfl rfl (q1K hlt) rfl (gg rfl (q01 rfl (fun f=>?_) (fun f=>?_))))
    ·refine gg rfl (q04 (gg rfl (q09 rfl rfl rfl trivial ?_)))
     rw[q2d,if_neg hc1,if_neg hc2,if_pos (q2j hlt f)]
    refine gg rfl (q04 (hN (k+1) ⟨hlt,fun j hj hjk=>?_⟩ (by omega) (q03 rfl ⟨rfl,trivial⟩ (by rw[w1];rfl))))
    by_cases ej:j=k
    ·subst ej;exact f
    exact hno j hj (by omega)
   rw[q07]at e
   obtain rfl:k=b.length:=by omega
   clear hN
   have hc3:¬(b.any fun o=>o.name.toList==p.name.toList)=true:=by rw[q29 fun j hj=>hno j hj hj];decide
   have hw:q2d b p=if(q0p p 0).2≠0 then(q0p p 0).2
    else if(q0W p 0).2≠0 then(q0W p 0).2
    else if p.widths.length≠p.edges.length then 1
    else if p.widths.any q2v then 3 else 0:=by rw[q2d,if_neg hc1,if_neg hc2,if_neg hc3]
   rw[hw]
   refine gg rfl (q04 (gg rfl (q02 rfl rfl (q67 p 0 (by omega)) ?_)))
   refine gg rfl (q01 rfl (fun f=>?_) (fun f=>?_))
   ·rw[q0w]at f
    refine gg rfl (q09 rfl rfl rfl trivial ?_)
    rw[if_pos f]
   rw[q0B]at f
   rw[if_neg (by simp[f])]
   refine gg rfl (q02 rfl rfl (qbq p 0 (by omega)) ?_)
   refine gg rfl (q01 rfl (fun f2=>?_) (fun f2=>?_))
   ·rw[q0w]at f2
    refine gg rfl (q09 rfl rfl rfl trivial ?_)
    rw[if_pos f2]
   rw[q0B]at f2
   rw[if_neg (by simp[f2])]
   refine gg rfl ?_
   rw[List.length_map,List.length_map]
   refine q01 rfl (fun f3=>?_) (fun f3=>?_)
   ·rw[q0w]at f3
    refine gg rfl (q09 rfl rfl rfl trivial ?_)
    rw[if_pos (by omega)]
   rw[q0B]at f3
   rw[if_neg (by omega)]
   refine gg rfl ?_
   rw[List.length_map]
   refine q0l (S:=fun k:Nat=>([ints p.widths,q00 p.widths.length,q00 k],[none,none,none],[0,0,0])) (C:=fun k=>k≤p.widths.length∧∀j (hj:j<p.widths.length),j<k→q2v p.widths[j]=false) (m:=fun k=>p.widths.length-k) 0 ⟨Nat.zero_le _,fun j _ h=>by omega⟩ (by omega) ?_ ?_
   ·exact q03 rfl trivial rfl
   rintro k ⟨hk,hm⟩ N hN
   refine gg rfl (q01 rfl (fun e=>?_) (fun e=>?_))
   ·rw[q06]at e
    have hlt:k<p.widths.length:=by omega
    have w1:=wS (n:=k)
    have bad:q2v p.widths[k]=true→p.widths.any q2v=true:=fun h=>q2j hlt h
    have hx:(p.widths.map q00)[k]?=some (.int .i64 p.widths[k]):=q1K hlt
    refine gg rfl (q0j k rfl rfl rfl hx rfl (gg rfl (q08 rfl (fun f1=>?_) (fun f1=>?_))))
    ·rw[q06]at f1
     refine gg rfl (q0d rfl (gg rfl (q04 (gg rfl (q09 rfl rfl rfl trivial ?_)))))
     rw[if_pos (bad (by simp[q2v];omega))]
    rw[q07]at f1
    refine gg rfl (q01 rfl (fun f2=>?_) (fun f2=>?_))
    ·rw[q06]at f2
     refine gg rfl (q04 (gg rfl (q09 rfl rfl rfl trivial ?_)))
     rw[if_pos (bad (by simp[q2v];omega))]
    rw[q07]at f2
    refine gg rfl (q04 (hN (k+1) ⟨hlt,fun j hj hjk=>?_⟩ (by omega) (q03 rfl trivial (by rw[w1];rfl))))
    by_cases ej:j=k
    ·subst ej;simp[q2v];omega
    exact hm j hj (by omega)
   rw[q07]at e
   obtain rfl:k=p.widths.length:=by omega
   rw[if_neg (by rw[q29 fun j hj=>hm j hj hj];decide)]
   exact gg rfl (q04 (gg rfl (q09 rfl rfl rfl trivial rfl)))
  rw[q0B]at g1
  have hc2:¬(p.grain≠1∧p.grain≠2∧p.grain≠4):=fun h=>h.1 g1
  refine gg rfl (q0m rfl (gg rfl (q0i rfl (gg rfl ?_))))
  rw[List.length_map]
  refine q0l (S:=fun k:Nat=>([.ptr 0 0 0,Go.F.pieces b,q00 b.length,q00 k],[some (.row [p.enc] 7),none,none,none],[0,0,0,0])) (C:=fun k=>k≤b.length∧∀j (hj:j<b.length),j<k→(b[j].name.toList==p.name.toList)=false) (m:=fun k=>b.length-k) 0 ⟨Nat.zero_le _,fun j _ h=>by omega⟩ (by omega) ?_ ?_
  ·exact q03 rfl ⟨rfl,trivial⟩ rfl
  rintro k ⟨hk,hno⟩ N hN
  refine gg rfl (q01 rfl (fun e=>?_) (fun e=>?_))
  ·rw[q06]at e
   have hlt:k<b.length:=by omega
   have w1:=wS (n:=k)
   refine gg rfl (q0j k rfl rfl rfl (q1K hlt) rfl (gg rfl (q01 rfl (fun f=>?_) (fun f=>?_))))
   ·refine gg rfl (q04 (gg rfl (q09 rfl rfl rfl trivial ?_)))
    rw[q2d,if_neg hc1,if_neg hc2,if_pos (q2j hlt f)]
   refine gg rfl (q04 (hN (k+1) ⟨hlt,fun j hj hjk=>?_⟩ (by omega) (q03 rfl ⟨rfl,trivial⟩ (by rw[w1];rfl))))
   by_cases ej:j=k
   ·subst ej;exact f
   exact hno j hj (by omega)
  rw[q07]at e
  obtain rfl:k=b.length:=by omega
  clear hN
  have hc3:¬(b.any fun o=>o.name.toList==p.name.toList)=true:=by rw[q29 fun j hj=>hno j hj hj];decide
  have hw:q2d b p=if(q0p p 0).2≠0 then(q0p p 0).2
   else if(q0W p 0).2≠0 then(q0W p 0).2
   else if p.widths.length≠p.edges.length then 1
   else if p.widths.any q2v then 3 else 0:=by rw[q2d,if_neg hc1,if_neg hc2,if_neg hc3]
  rw[hw]
  refine gg rfl (q04 (gg rfl (q02 rfl rfl (q67 p 0 (by omega)) ?_)))
  refine gg rfl (q01 rfl (fun f=>?_) (fun f=>?_))
  ·rw[q0w]at f
   refine gg rfl (q09 rfl rfl rfl trivial ?_)
   rw[if_pos f]
  rw[q0B]at f
  rw[if_neg (by simp[f])]
  refine gg rfl (q02 rfl rfl (qbq p 0 (by omega)) ?_)
  refine gg rfl (q01 rfl (fun f2=>?_) (fun f2=>?_))
  ·rw[q0w]at f2
   refine gg rfl (q09 rfl rfl rfl trivial ?_)
   rw[if_pos f2]
  rw[q0B]at f2
  rw[if_neg (by simp[f2])]
  refine gg rfl ?_
  rw[List.length_map,List.length_map]
  refine q01 rfl (fun f3=>?_) (fun f3=>?_)
  ·rw[q0w]at f3
   refine gg rfl (q09 rfl rfl rfl trivial ?_)
   rw[if_pos (by omega)]
  rw[q0B]at f3
  rw[if_neg (by omega)]
  refine gg rfl ?_
  rw[List.length_map]
  refine q0l (S:=fun k:Nat=>([ints p.widths,q00 p.widths.length,q00 k],[none,none,none],[0,0,0])) (C:=fun k=>k≤p.widths.length∧∀j (hj:j<p.widths.length),j<k→q2v p.widths[j]=false) (m:=fun k=>p.widths.length-k) 0 ⟨Nat.zero_le _,fun j _ h=>by omega⟩ (by omega) ?_ ?_
  ·exact q03 rfl trivial rfl
  rintro k ⟨hk,hm⟩ N hN
  refine gg rfl (q01 rfl (fun e=>?_) (fun e=>?_))
  ·rw[q06]at e
   have hlt:k<p.widths.length:=by omega
   have w1:=wS (n:=k)
   have bad:q2v p.widths[k]=true→p.widths.any q2v=true:=fun h=>q2j hlt h
   have hx:(p.widths.map q00)[k]?=some (.int .i64 p.widths[k]):=q1K hlt
   refine gg rfl (q0j k rfl rfl rfl hx rfl (gg rfl (q08 rfl (fun f1=>?_) (fun f1=>?_))))
   ·rw[q06]at f1
    refine gg rfl (q0d rfl (gg rfl (q04 (gg rfl (q09 rfl rfl rfl trivial ?_)))))
    rw[if_pos (bad (by simp[q2v];omega))]
   rw[q07]at f1
   refine gg rfl (q01 rfl (fun f2=>?_) (fun f2=>?_))
   ·rw[q06]at f2
    refine gg rfl (q04 (gg rfl (q09 rfl rfl rfl trivial ?_)))
    rw[if_pos (bad (by simp[q2v];omega))]
   rw[q07]at f2
   refine gg rfl (q04 (hN (k+1) ⟨hlt,fun j hj hjk=>?_⟩ (by omega) (q03 rfl trivial (by rw[w1];rfl))))
   by_cases ej:j=k
   ·subst ej;simp[q2v];omega
   exact hm j hj (by omega)
  rw[q07]at e
  obtain rfl:k=p.widths.length:=by omega
  rw[if_neg (by rw[q29 fun j hj=>hm j hj hj];decide)]
  exact gg rfl (q04 (gg rfl (q09 rfl rfl rfl trivial rfl)))
def q22 (s:Sty)(p e:Int):Bool:=decide (0≤p)&&(decide (p<s.pieces.length)&&(decide (0≤e)&&decide (e<(pc s.pieces p.toNat).edges.length)))
theorem que (s:Sty)(p e:Int):PU qpN [s.enc,.int .i64 p,.int .i64 e]=some (.bool (q22 s p e)):=by
 refine q0g (fn:=qek) rfl (q0a ?_)
 refine gg rfl (q08 rfl (fun g1=>?_) (fun g1=>?_))
 ·rw[q0G]at g1
  refine gg rfl ?_
  rw[List.length_map]
  refine q08 rfl (fun g2=>?_) (fun g2=>?_)
  ·rw[q06]at g2
   refine gg rfl (q08 rfl (fun g3=>?_) (fun g3=>?_))
   ·rw[q0G]at g3
    refine gg rfl (q0j p.toNat rfl rfl (by omega) (q4N (by omega)) rfl ?_)
    refine gg rfl (q09 rfl rfl rfl trivial ?_)
    rw[q22,decide_eq_true g1,decide_eq_true g2,decide_eq_true g3,q1U,List.length_map];rfl
   rw[q0I]at g3
   refine gg rfl (q09 rfl rfl rfl trivial ?_)
   rw[q22,decide_eq_false (show¬0≤e by omega)];simp
  rw[q07]at g2
  refine gg rfl (q0m rfl (gg rfl (q09 rfl rfl rfl trivial ?_)))
  rw[q22,decide_eq_false (show¬p<s.pieces.length by omega)];simp
 rw[q0I]at g1
 refine gg rfl (q0m rfl (gg rfl (q0m rfl (gg rfl (q09 rfl rfl rfl trivial ?_)))))
 rw[q22,decide_eq_false (show¬0≤p by omega)];rfl
def q28 (n:Nat)(u:Use):Bool:=decide (u.piece<0) ||(decide ((n:Int)≤u.piece) ||(decide (u.count<1) ||decide (4<u.count)))
def q6M (s:Sty)(m:Sew):Int:=if q22 s m.pa m.ea=false∨q22 s m.pb m.eb=false then 3 else if m.ease<0 then 1 else 0
def q2F (s:Sty)(i:Nat):Int:=q2d (s.pieces.take i) (pc s.pieces i)
def q4p (s:Sty)(i:Nat):Int:=q6M s (sw s.seams i)
def q3f (s:Sty):Int:=
 if q2A s≠0 then q2A s
 else if q0K (q2F s) s.pieces.length≠0 then q0K (q2F s) s.pieces.length
 else if s.uses.any (q28 s.pieces.length)then 3
 else q0K (q4p s) s.seams.length
set_option maxHeartbeats 8000000 in
theorem q9v (s:Sty)(hB:StyB s):PU qrO [s.enc]=some (.int .i64 (q3f s)):=by
 have b1:=hB.pieces
 have b2:=hB.uses
 have b3:=hB.seams
 refine q0g (fn:=qg1) rfl (q0a ?_)
 refine gg rfl (q02 rfl rfl (qsF s hB) (gg rfl (q01 rfl (fun g=>?_) (fun g=>?_))))
 ·rw[q0w]at g
  refine gg rfl (q09 rfl rfl rfl trivial ?_)
  rw[q3f,if_pos g]
 have g:q2A s=0:=q0B.1 g
 have hw:q3f s=if q0K (q2F s) s.pieces.length≠0 then q0K (q2F s) s.pieces.length
  else if s.uses.any (q28 s.pieces.length)then 3
  else q0K (q4p s) s.seams.length:=by rw[q3f,if_neg (by simp[g])]
 rw[hw]
 refine gg rfl ?_
 rw[List.length_map]
 refine q0l (S:=fun k:Nat=>([.ptr 0 0 0,Go.F.pieces s.pieces,q00 s.pieces.length,q00 k],[some (.row [s.enc] 7),none,none,none],[0,0,0,0])) (C:=fun k=>k≤s.pieces.length∧q0K (q2F s) k=0) (m:=fun k=>s.pieces.length-k) 0 ⟨Nat.zero_le _,rfl⟩ (by omega) ?_ ?_
 ·exact q03 rfl ⟨rfl,trivial⟩ rfl
 rintro k ⟨hk,h0⟩ N hN
 refine gg rfl (q01 rfl (fun e=>?_) (fun e=>?_))
 ·rw[q06]at e
  have hlt:k<s.pieces.length:=by omega
  have w1:=wS (n:=k)
  have hp:=qsG (s.pieces.take k) (pc s.pieces k) (by rw[List.length_take];omega) (hB.corners _ (q7Y hlt)) (hB.widths _ (q7Y hlt))
  refine gg rfl (q0j k rfl rfl rfl (q4N hlt) rfl (gg rfl (qdB k rfl (q1k (n:=7) (fun _=>rfl) _) ⟨_,_,rfl,rfl⟩ (by rw[List.length_map];omega) ?_)))
  rw[←List.map_take]
  refine gg rfl (q02 rfl rfl hp (gg rfl (q01 rfl (fun f=>?_) (fun f=>?_))))
  ·rw[q0w]at f
   refine gg rfl (q04 (gg rfl (q09 rfl rfl rfl trivial ?_)))
   have f':q2F s k≠0:=f
   have hf:=q3Q (f:=q2F s) h0 f' hlt
   rw[hf,if_pos f'];rfl
  rw[q0B]at f
  exact gg rfl (q04 (hN (k+1) ⟨hlt,q2D h0 f⟩ (by omega) (q03 rfl ⟨rfl,trivial⟩ (by rw[w1];rfl))))
 rw[q07]at e
 obtain rfl:k=s.pieces.length:=by omega
 clear hN
 rw[if_neg (by simp[h0])]
 refine gg rfl (q04 (gg rfl ?_))
 rw[List.length_map]
 refine q0l (S:=fun k:Nat=>([.ptr 0 0 0,Go.F.uses s.uses,q00 s.uses.length,q00 k],[some (.row [s.enc] 7),none,none,none],[0,0,0,0])) (C:=fun k=>k≤s.uses.length∧∀j (hj:j<s.uses.length),j<k→q28 s.pieces.length s.uses[j]=false) (m:=fun k=>s.uses.length-k) 0 ⟨Nat.zero_le _,fun j _ h=>by omega⟩ (by omega) ?_ ?_
 ·exact q03 rfl ⟨rfl,trivial⟩ rfl
 rintro k ⟨hk,hu⟩ N hN
 refine gg rfl (q01 rfl (fun e=>?_) (fun e=>?_))
 ·rw[q06]at e
  have hlt:k<s.uses.length:=by omega
  have w1:=wS (n:=k)
  have hx:(s.uses.map Use.enc)[k]?=some s.uses[k].enc:=q1K hlt
  have bad:q28 s.pieces.length s.uses[k]=true→s.uses.any (q28 s.pieces.length)=true:=fun h=>q2j hlt h
  have hnx:q28 s.pieces.length s.uses[k]=false→∀j (hj:j<s.uses.length),j<k+1→q28 s.pieces.length s.uses[j]=false:=by
   intro h j hj hjk
   by_cases ej:j=k
   ·subst ej;exact h
   exact hu j hj (by omega)
  generalize s.uses[k]=u at*
  refine gg rfl (q0j k rfl rfl rfl hx rfl (gg rfl (q08 rfl (fun f1=>?_) (fun f1=>?_))))
  ·rw[q06]at f1
   refine gg rfl (q0h rfl (gg rfl (q0h rfl (gg rfl (q0d rfl (gg rfl (q04 (gg rfl (q09 rfl rfl rfl trivial ?_)))))))))
   rw[if_pos (bad (by simp[q28];omega))]
  rw[q07]at f1
  refine gg rfl ?_
  rw[List.length_map]
  refine q08 rfl (fun f2=>?_) (fun f2=>?_)
  ·rw[q0G]at f2
   refine gg rfl (q0h rfl (gg rfl (q0d rfl (gg rfl (q04 (gg rfl (q09 rfl rfl rfl trivial ?_)))))))
   rw[if_pos (bad (by simp[q28];omega))]
  rw[q0I]at f2
  refine gg rfl (q08 rfl (fun f3=>?_) (fun f3=>?_))
  ·rw[q06]at f3
   refine gg rfl (q0d rfl (gg rfl (q04 (gg rfl (q09 rfl rfl rfl trivial ?_)))))
   rw[if_pos (bad (by simp[q28];omega))]
  rw[q07]at f3
  refine gg rfl (q01 rfl (fun f4=>?_) (fun f4=>?_))
  ·rw[q06]at f4
   refine gg rfl (q04 (gg rfl (q09 rfl rfl rfl trivial ?_)))
   rw[if_pos (bad (by simp[q28];omega))]
  rw[q07]at f4
  exact gg rfl (q04 (hN (k+1) ⟨hlt,hnx (by simp[q28];omega)⟩ (by omega) (q03 rfl ⟨rfl,trivial⟩ (by rw[w1];rfl))))
 rw[q07]at e
 obtain rfl:k=s.uses.length:=by omega
 clear hN
 rw[if_neg (by rw[q29 fun j hj=>hu j hj hj];decide)]
 refine gg rfl (q04 (gg rfl ?_))
 rw[List.length_map]
 refine q0l (S:=fun k:Nat=>([.ptr 0 0 0,qdt s.seams,q00 s.seams.length,q00 k],[some (.row [s.enc] 7),none,none,none],[0,0,0,0])) (C:=fun k=>k≤s.seams.length∧q0K (q4p s) k=0) (m:=fun k=>s.seams.length-k) 0 ⟨Nat.zero_le _,rfl⟩ (by omega) ?_ ?_
 ·exact q03 rfl ⟨rfl,trivial⟩ rfl
 rintro k ⟨hk,h0⟩ N hN
 refine gg rfl (q01 rfl (fun e=>?_) (fun e=>?_))
 ·rw[q06]at e
  have hlt:k<s.seams.length:=by omega
  have w1:=wS (n:=k)
  have hx:=qkT hlt
  have bad:∀x,q6M s (sw s.seams k)=x→x≠0→q0K (q4p s) s.seams.length=x:=by
   intro x h hx0
   have:=q3Q (f:=q4p s) h0 (by show q6M s (sw s.seams k)≠0;rw[h];exact hx0) hlt
   rw[this];exact h
  have good:q6M s (sw s.seams k)=0→q0K (q4p s) (k+1)=0:=fun h=>q2D h0 h
  generalize sw s.seams k=m at*
  have e1:=que s m.pa m.ea
  have e2:=que s m.pb m.eb
  refine gg rfl (q0j k rfl rfl rfl hx rfl (gg rfl (q02 rfl rfl e1 ?_)))
  cases ha:q22 s m.pa m.ea with
  |false=>
   refine gg rfl (q0h rfl (gg rfl (q0d rfl (gg rfl (q04 (gg rfl (q09 rfl rfl rfl trivial ?_)))))))
   rw[bad 3 (by rw[q6M,if_pos (.inl ha)]) (by decide)]
  |true=>
   refine gg rfl (q0m rfl (gg rfl (q02 rfl rfl e2 ?_)))
   cases hb:q22 s m.pb m.eb with
   |false=>
    refine gg rfl (q0d rfl (gg rfl (q04 (gg rfl (q09 rfl rfl rfl trivial ?_)))))
    rw[bad 3 (by rw[q6M,if_pos (.inr hb)]) (by decide)]
   |true=>
    have hn:¬(q22 s m.pa m.ea=false∨q22 s m.pb m.eb=false):=by rw[ha,hb];simp
    refine gg rfl (q0i rfl (gg rfl (q01 rfl (fun f=>?_) (fun f=>?_))))
    ·rw[q06]at f
     refine gg rfl (q04 (gg rfl (q09 rfl rfl rfl trivial ?_)))
     rw[bad 1 (by rw[q6M,if_neg hn,if_pos f]) (by decide)]
    rw[q07]at f
    exact gg rfl (q04 (hN (k+1) ⟨hlt,good (by rw[q6M,if_neg hn,if_neg (by omega)])⟩ (by omega) (q03 rfl ⟨rfl,trivial⟩ (by rw[w1];rfl))))
 rw[q07]at e
 obtain rfl:k=s.seams.length:=by omega
 refine gg rfl (q04 (gg rfl (q09 rfl rfl rfl trivial ?_)))
 rw[h0]
end Go.F

namespace Go.F
attribute [local irreducible] IntKind.wrap wpM
structure StyOk (s:Sty):Prop where
 mults:s.mults.length=s.sizes.length
 size:0<s.sizes.length
 sizes:s.sizes.length≤12
 pieces:s.pieces.length≤12
 uses:s.uses.length≤12
 seams:s.seams.length≤24
 use:∀u∈s.uses,0≤u.piece∧u.piece<s.pieces.length∧1≤u.count∧u.count≤4
 piece:∀i,i<s.pieces.length→q2F s i=0
 mult:∀m∈s.mults,-100≤m∧m≤100
 base:0∈s.mults
theorem qjM {s:Sty}(h:q3f s=0):StyOk s:=by
 unfold q3f at h
 split at h
 ·rename_i h1;exact absurd h h1
 rename_i h1
 split at h
 ·rename_i h2;exact absurd h h2
 rename_i h2
 split at h
 ·cases h
 rename_i h3
 have h1:q2A s=0:=by simpa using h1
 have h2:q0K (q2F s) s.pieces.length=0:=by simpa using h2
 unfold q2A at h1
 split at h1
 ·cases h1
 split at h1
 ·cases h1
 split at h1
 ·cases h1
 split at h1
 ·cases h1
 split at h1
 ·cases h1
 split at h1
 ·cases h1
 split at h1
 ·cases h1
 rename_i g1 g2 g3 g4 g5 g6 g7
 refine⟨by omega,by omega,by omega,by omega,by omega,by omega,fun u hu=>?_,fun i hi=>q1e h2 hi,fun m hm=>?_,?_⟩
 ·have hb:q28 s.pieces.length u=false:=by
   cases hb:q28 s.pieces.length u with
   |false=>rfl
   |true=>exact absurd (List.any_eq_true.2 ⟨u,hu,hb⟩) h3
  simp[q28]at hb
  omega
 ·have hb:(decide (m< -100) ||decide (100<m))=false:=by
   cases hb:(decide (m< -100) ||decide (100<m))with
   |false=>rfl
   |true=>exact absurd (List.any_eq_true.2 ⟨m,hm,hb⟩) g7
  simp at hb
  omega
 rcases Classical.em (0∈s.mults)with h|h
 ·exact h
 exact absurd (.inr h) g3
def qrg (s:Sty)(size use:Int):Prop:=size<0∨(s.sizes.length:Int)≤size∨use<0∨(s.uses.length:Int)≤use
instance (s:Sty)(a b:Int):Decidable (qrg s a b):=by unfold qrg;exact inferInstance
structure Plc where
 garment:Int
 use:Int
 copy:Int
 flip:Bool
 quarter:Int
 x:Int
 y:Int
 deriving DecidableEq
def Plc.enc (p:Plc):D:=.agg [.int .i64 p.garment,.int .i64 p.use,.int .i64 p.copy,.bool p.flip,.int .i64 p.quarter,.int .i64 p.x,.int .i64 p.y]
end Go.F

namespace Go.F
theorem q5Y {s:Sty}(h:q3f s=0):q2A s=0∧q0K (q2F s) s.pieces.length=0∧s.uses.any (q28 s.pieces.length)=false∧q0K (q4p s) s.seams.length=0:=by
 unfold q3f at h
 split at h
 ·rename_i h1;exact absurd h h1
 rename_i h1
 split at h
 ·rename_i h2;exact absurd h h2
 rename_i h2
 split at h
 ·cases h
 rename_i h3
 exact⟨by simpa using h1,by simpa using h2,by simpa using h3,h⟩
theorem qwp {s:Sty}(h1:q2A s=0)(h2:q0K (q2F s) s.pieces.length=0):q3f s=if s.uses.any (q28 s.pieces.length)then 3 else q0K (q4p s) s.seams.length:=by
 unfold q3f
 rw[if_neg (by simp[h1]),if_neg (by simp[h2])]
structure WholeOk (s:Sty):Prop where
 name:q1X s.name=true
 size:s.sizes.length≠0
 sizeS:∀x∈s.sizes,sizeS x=true
 mults:s.mults.length=s.sizes.length
 base:0∈s.mults
 once:q5i s.sizes=false
 sizes:s.sizes.length≤12
 pieces:s.pieces.length≤12
 uses:s.uses.length≤12
 seams:s.seams.length≤24
 ops:s.ops.length≤16
 mult:∀m∈s.mults,-100≤m∧m≤100
theorem qfN {s:Sty}(h:q2A s=0):WholeOk s:=by
 unfold q2A at h
 split at h
 ·cases h
 rename_i h1
 split at h
 ·cases h
 rename_i h2
 split at h
 ·cases h
 rename_i h3
 split at h
 ·cases h
 rename_i h4
 split at h
 ·cases h
 rename_i h5
 split at h
 ·cases h
 rename_i h6
 split at h
 ·cases h
 rename_i h7
 refine⟨?_,fun e=>h1 (.inr e),fun x hx=>?_,?_,?_,by simpa using h4,by omega,by omega,by omega,by omega,by omega,fun m hm=>?_⟩
 ·cases hn:q1X s.name with
  |true=>rfl
  |false=>exact absurd (.inl hn) h1
 ·have h2:s.sizes.any (fun x=>!Go.F.sizeS x)=false:=by simpa using h2
  have:=List.any_eq_false.1 h2 x hx
  simpa using this
 ·by_cases e:s.mults.length=s.sizes.length
  ·exact e
  exact absurd (.inl e) h3
 ·by_cases e:0∈s.mults
  ·exact e
  exact absurd (.inr e) h3
 have h7:s.mults.any (fun m=>decide (m< -100) ||decide (100<m))=false:=by simpa using h7
 have:=List.any_eq_false.1 h7 m hm
 simp at this
 omega
theorem qfc {s:Sty}(h:WholeOk s):q2A s=0:=by
 unfold q2A
 rw[if_neg (by simp[h.name,h.size]),if_neg (by
  rw[List.any_eq_true];rintro⟨x,hx,e⟩;rw[h.sizeS x hx]at e;cases e),if_neg (by simp[h.mults,h.base]),if_neg (by simp[h.once]),
  if_neg (by have:=h.sizes;have:=h.pieces;have:=h.uses;omega),if_neg (by have:=h.seams;have:=h.ops;omega),if_neg]
 rw[List.any_eq_true]
 rintro⟨m,hm,e⟩
 have:=h.mult m hm
 simp at e
 omega
end Go.F

namespace Go.F
attribute [local irreducible] IntKind.wrap wpM
def q7b (p:Piece)(m:Int):Int:=max (q12 (q0n (q0p p m).1)) (-q12 (q0n (q0p p m).1))
def q7c (p:Piece):List Int→Int
 |[]=>0
 |m::l=>if(q0p p m).2=0 then q7c p l else(q0p p m).2
def qfl (p:Piece)(l:List Int):List Int×Int:=if q7c p l≠0 then([],q7c p l)else(l.map (q7b p),0)
theorem qzE (q:List Spot): -70368744177664000≤q12 q∧q12 q≤70368744177664000:=by
 unfold q12
 split
 ·rename_i h
  obtain⟨_,h40,ho,_⟩:=q17 h
  have hb:=qbn q q.length
  have h1:=hb.lo
  have h2:=hb.hi
  have:(q.length*35184372088832:Nat)≤40*35184372088832:=Nat.mul_le_mul_right _ h40
  have e:q4s q=q2p q q.length:=rfl
  rw[e]
  omega
 omega
theorem qru {p:Piece}{m:Int}(h:(q0p p m).2=0):q0O (q0p p m).1=0:=(q2l h).2.2.1
set_option maxHeartbeats 2000000 in
theorem qHY (p:Piece)(l:List Int)(hc:p.corners.length≤1000000)(hl:l.length≤1000000):PU qrQ [p.enc,ints l]=some (.tup [ints (qfl p l).1,.int .i64 (qfl p l).2]):=by
 unfold qfl
 have hn:∀{x:Int} {P:Prop},nqb x x=true→P:=fun h=>absurd rfl (q0w.1 h)
 refine q0g (fn:=qgC) rfl (q0a ?_)
 refine gg rfl ?_
 rw[List.length_map]
 refine q0l (S:=fun k:Nat=>([.ptr 0 0 0,.ref 1 0 k,ints l,q00 l.length,q00 k],[some (.row [p.enc] 7),some (.row (((l.take k).map (q7b p)).map q00) 1),none,none,none],[0,0,0,0,0])) (C:=fun k=>k≤l.length∧q7c p l=q7c p (l.drop k)) (m:=fun k=>l.length-k) 0 ⟨Nat.zero_le _,rfl⟩ (by omega) ?_ ?_
 ·exact q03 rfl ⟨rfl,rfl,trivial⟩ rfl
 rintro k ⟨hk,hke⟩ N hN
 refine gg rfl (q01 rfl (fun e=>?_) (fun e=>?_))
 ·rw[q06]at e
  have hlt:k<l.length:=by omega
  have w1:=wS (n:=k)
  have hdr:l.drop k=mu l k::l.drop (k+1):=by rw[List.drop_eq_getElem_cons hlt,qkU hlt]
  have hst:(((l.take (k+1)).map (q7b p)).map q00)=((l.take k).map (q7b p)).map q00++[q00 (q7b p (mu l k))]:=by
   rw[List.take_succ_eq_append_getElem hlt,List.map_append,List.map_append,qkU hlt];rfl
  have hx:=q7Z hlt
  rw[hdr,q7c]at hke
  generalize mu l k=m at*
  have hg:=q67 p m hc
  have hbd:=qzE (q0n (q0p p m).1)
  have hmx:q7b p m=max (q12 (q0n (q0p p m).1)) (-q12 (q0n (q0p p m).1)):=rfl
  have hp:=q5U (q0p p m).1
  have ha:=qxz (q0n (q0p p m).1)
  have w2:IntKind.i64.wrap (0-q12 (q0n (q0p p m).1))= -q12 (q0n (q0p p m).1):=by rw[wrap64 (by omega) (by omega)];omega
  have w3:=ww (x:= -q12 (q0n (q0p p m).1))
  refine gg rfl (q0j k rfl rfl rfl hx rfl (gg rfl (q02 rfl rfl hg (gg rfl (q01 rfl (fun f=>?_) (fun f=>?_))))))
  ·rw[q0w]at f
   rw[if_neg f]at hke
   refine gg rfl (q04 (gg rfl (q09 rfl rfl rfl trivial ?_)))
   rw[hke,if_pos f];rfl
  rw[q0B]at f
  rw[if_pos f]at hke
  rw[q9e,if_pos (qru f)]at hp
  refine gg rfl (q02 rfl rfl hp (gg rfl (q01 rfl hn (fun _=>?_))))
  refine gg rfl (q02 rfl rfl ha (gg rfl ?_))
  first|rw[w2] |rw[w3]
  rw[←hmx]
  refine q1g rfl rfl rfl rfl rfl rfl (by simp;omega) (Nat.zero_le _) (by simp[q0N];omega) ?_
  refine gg rfl (q04 (hN (k+1) ⟨hlt,hke⟩ (by omega) (q03 rfl ⟨rfl,?_,trivial⟩ ?_)))
  ·rw[List.all_append,q05 q4Q];rfl
  rw[hst,w1];rfl
 rw[q07]at e
 obtain rfl:k=l.length:=by omega
 have hz:q7c p l=0:=by rw[hke,List.drop_length];rfl
 rw[hz,List.take_length]
 refine gg rfl (q04 (gg rfl (q09 rfl rfl rfl ⟨q1n (by simp) (q0L q7e _),trivial⟩ ?_)))
 rw[q1o (by simp)];rfl
def qzF (p:Piece)(m:Int)(e:Nat):Int:=(q16 (eg (q0p p m).1 e).line).1
theorem qD8 {p:Piece}{m:Int}{e:Nat}(hg:(q0p p m).2=0)(he:e<p.edges.length):q16 (eg (q0p p m).1 e).line=(qzF p m e,0):=by
 have hl:=q2l hg
 have h0:q1C (eg (q0p p m).1 e).line=0:=q34 (q1e (q18 hl.2.2.1).2.2.1 (by rw[hl.1];exact he))
 unfold qzF q16
 rw[if_pos h0]
theorem qfm (p:Piece)(m:Int)(e:Nat)(hc:p.corners.length≤1000000)(hg:(q0p p m).2=0)(he:e<p.edges.length):PU qrW [p.enc,.int .i64 m,.int .i64 e]=some (.tup [.int .i64 (qzF p m e),.int .i64 0]):=by
 have h1:=q67 p m hc
 have hl:=q2l hg
 have h2:=q44 (eg (q0p p m).1 e).line
 rw[qD8 hg he]at h2
 have hn:∀{x:Int} {P:Prop},nqb x x=true→P:=fun h=>absurd rfl (q0w.1 h)
 refine q0g (fn:=qgs) rfl (q0a ?_)
 refine gg rfl (q02 rfl rfl h1 (gg rfl ?_))
 rw[hg]
 refine q01 rfl hn (fun _=>?_)
 refine gg rfl (q0j e rfl rfl rfl (q1D (by omega)) rfl ?_)
 exact gg rfl (q02 rfl rfl h2 (gg rfl (q09 rfl rfl rfl trivial rfl)))
theorem qrv (s:Sty)(z:Nat)(hz:z<s.mults.length):PU qrU [s.enc,.int .i64 z]=some (.bool true):=by
 refine q0g (fn:=qgo) rfl (q0a ?_)
 refine gg rfl (q08 rfl (fun g=>?_) (fun g=>?_))
 ·refine gg rfl (q09 rfl rfl rfl trivial ?_)
  rw[List.length_map,q1U,decide_eq_true (by omega)]
 rw[q0I]at g;omega
theorem qfn (s:Sty)(p e:Int):PU qrV [s.enc,.int .i64 p,.int .i64 e]=some (.bool (q22 s p e)):=by
 refine q0g (fn:=qgq) rfl (q0a ?_)
 refine gg rfl (q08 rfl (fun g1=>?_) (fun g1=>?_))
 ·rw[q0G]at g1
  refine gg rfl ?_
  rw[List.length_map]
  refine q08 rfl (fun g2=>?_) (fun g2=>?_)
  ·rw[q06]at g2
   refine gg rfl (q08 rfl (fun g3=>?_) (fun g3=>?_))
   ·rw[q0G]at g3
    refine gg rfl (q0j p.toNat rfl rfl (by omega) (q4N (by omega)) rfl ?_)
    refine gg rfl (q09 rfl rfl rfl trivial ?_)
    rw[q22,decide_eq_true g1,decide_eq_true g2,decide_eq_true g3,q1U,List.length_map];rfl
   rw[q0I]at g3
   refine gg rfl (q09 rfl rfl rfl trivial ?_)
   rw[q22,decide_eq_false (show¬0≤e by omega)];simp
  rw[q07]at g2
  refine gg rfl (q0m rfl (gg rfl (q09 rfl rfl rfl trivial ?_)))
  rw[q22,decide_eq_false (show¬p<s.pieces.length by omega)];simp
 rw[q0I]at g1
 refine gg rfl (q0m rfl (gg rfl (q0m rfl (gg rfl (q09 rfl rfl rfl trivial ?_)))))
 rw[q22,decide_eq_false (show¬0≤p by omega)];rfl
theorem q5F {s:Sty}{p e:Int}(h:q22 s p e=true):0≤p∧p.toNat<s.pieces.length∧0≤e∧e.toNat<(pc s.pieces p.toNat).edges.length:=by
 unfold q22 at h
 simp only[Bool.and_eq_true,decide_eq_true_eq]at h
 omega
structure SewOk (s:Sty)(z k:Nat):Prop where
 size:z<s.mults.length
 seam:k<s.seams.length
 ea:q22 s (sw s.seams k).pa (sw s.seams k).ea=true
 eb:q22 s (sw s.seams k).pb (sw s.seams k).eb=true
 ga:(q0p (pc s.pieces (sw s.seams k).pa.toNat) (mu s.mults z)).2=0
 gb:(q0p (pc s.pieces (sw s.seams k).pb.toNat) (mu s.mults z)).2=0
 ca:∀p∈s.pieces,p.corners.length≤1000000
def qjY (s:Sty)(z:Nat)(m:Sew):Int:=qzF (pc s.pieces m.pa.toNat) (mu s.mults z) m.ea.toNat
def qjZ (s:Sty)(z:Nat)(m:Sew):Int:=qzF (pc s.pieces m.pb.toNat) (mu s.mults z) m.eb.toNat
theorem qrw (s:Sty)(z k:Nat)(h:SewOk s z k):PU qpP [s.enc,.int .i64 z,.int .i64 k]=some (.tup [.int .i64 (qjY s z (sw s.seams k)),.int .i64 (qjZ s z (sw s.seams k)),.int .i64 0]):=by
 obtain⟨hz,hk,hea,heb,hga,hgb,hca⟩:=h
 have hx:=qkT hk
 unfold qjY qjZ
 generalize sw s.seams k=m at*
 obtain⟨a1,a2,a3,a4⟩:=q5F hea
 obtain⟨b1,b2,b3,b4⟩:=q5F heb
 have e1:=qfn s m.pa m.ea
 have e2:=qfn s m.pb m.eb
 rw[hea]at e1
 rw[heb]at e2
 have la:=qfm (pc s.pieces m.pa.toNat) (mu s.mults z) m.ea.toNat (hca _ (q7Y a2)) hga a4
 have lb:=qfm (pc s.pieces m.pb.toNat) (mu s.mults z) m.eb.toNat (hca _ (q7Y b2)) hgb b4
 have ia:((m.ea.toNat:Nat):Int)=m.ea:=by omega
 have ib:((m.eb.toNat:Nat):Int)=m.eb:=by omega
 rw[ia]at la
 rw[ib]at lb
 have hn:∀{x:Int} {P:Prop},nqb x x=true→P:=fun h=>absurd rfl (q0w.1 h)
 refine q0g (fn:=qdY) rfl (q0a ?_)
 refine gg rfl (q02 rfl rfl (qrv s z hz) (gg rfl (q0m rfl (gg rfl (q08 rfl (fun g=>?_) (fun g=>?_))))))
 ·rw[q06]at g;omega
 refine gg rfl ?_
 rw[List.length_map]
 refine q01 rfl (fun g=>?_) (fun g=>?_)
 ·rw[q0G]at g;omega
 refine gg rfl (q0j k rfl rfl rfl hx rfl (gg rfl (q02 rfl rfl e1 (gg rfl (q0m rfl (gg rfl (q02 rfl rfl e2 (gg rfl (q0i rfl (gg rfl (q0j m.pa.toNat rfl rfl (by omega) (q4N a2) rfl ?_)))))))))))
 refine gg rfl (q0j z rfl rfl rfl (q7Z hz) rfl (gg rfl (q02 rfl rfl la (gg rfl (q01 rfl hn (fun _=>?_))))))
 refine gg rfl (q0j m.pb.toNat rfl rfl (by omega) (q4N b2) rfl ?_)
 refine gg rfl (q0j z rfl rfl rfl (q7Z hz) rfl (gg rfl (q02 rfl rfl lb (gg rfl (q01 rfl hn (fun _=>?_))))))
 exact gg rfl (q09 rfl rfl rfl trivial rfl)
end Go.F

namespace Go.F
attribute [local irreducible] IntKind.wrap wpM
theorem qDb (fr to:Int)(rev:Bool)(at_:Int): -1099511627777≤(q3R fr to rev at_).1∧(q3R fr to rev at_).1≤1099511627777:=by
 by_cases hb:q4X fr to at_
 ·rw[q3R,if_pos hb];decide
 rw[q3R,if_neg hb]
 unfold q4X at hb
 obtain⟨F,rfl⟩:∃n:Nat,fr=n:=⟨fr.toNat,by omega⟩
 obtain⟨T,rfl⟩:∃n:Nat,to=n:=⟨to.toNat,by omega⟩
 obtain⟨A,rfl⟩:∃n:Nat,at_=n:=⟨at_.toNat,by omega⟩
 have hr:=qnY (a:=A*T) (b:=F) (by omega)
 rw[Int.natCast_mul]at hr
 have hquo:A*T/F≤T:=Nat.div_le_of_le_mul (Nat.mul_le_mul_right _ (by omega))
 have hR:0≤q1B ((A:Int) *T) F∧q1B ((A:Int) *T) F≤T+1:=by
  rw[hr]
  generalize A*T/F=x at*
  split<;>omega
 simp only
 split<;>omega
structure Sid where
 ns:List Ntc
 ps:List Int
 edge:Int
 len:Int
def Sid.enc (s:Sid):D:=.agg [q51 s.ns,ints s.ps,.int .i64 s.edge,.int .i64 s.len]
structure SidOk (s:Sid):Prop where
 len:s.ps.length=s.ns.length
 few:s.ns.length≤1000
 bd:∀x∈s.ps,-1099511627777≤x∧x≤1099511627777
def qFq (s:Sid)(at_:Int)(i:Nat):Bool:=decide ((nt s.ns i).edge=s.edge)&&decide (max (mu s.ps i-at_) (at_-mu s.ps i)≤1000)
def qry (s:Sid)(at_:Int):Bool:=(List.range s.ns.length).any (qFq s at_)
set_option maxHeartbeats 2000000 in
theorem has_PU (s:Sid)(at_:Int)(h:SidOk s)(h1: -1099511627777≤at_)(h2:at_≤1099511627777):PU qht [s.enc,.int .i64 at_]=some (.bool (qry s at_)):=by
 have hlen:=h.len
 have hfew:=h.few
 refine q0g (fn:=q8D) rfl (q0a ?_)
 refine gg rfl ?_
 rw[List.length_map]
 refine q0l (S:=fun k:Nat=>([.int .i64 at_,.ptr 1 0 0,q51 s.ns,q00 s.ns.length,q00 k],[none,some (.row [s.enc] 4),none,none,none],[0,0,0,0,0])) (C:=fun k=>k≤s.ns.length∧∀i,i<k→qFq s at_ i=false) (m:=fun k=>s.ns.length-k) 0 ⟨Nat.zero_le _,fun i hi=>by omega⟩ (by omega) ?_ ?_
 ·exact q03 rfl ⟨rfl,trivial⟩ rfl
 rintro k ⟨hk,hno⟩ N hN
 refine gg rfl (q01 rfl (fun e=>?_) (fun e=>?_))
 ·rw[q06]at e
  have hlt:k<s.ns.length:=by omega
  have w1:=wS (n:=k)
  have hx:=qhE hlt
  have hp:=q7Z (l:=s.ps) (i:=k) (by omega)
  have hpb:=h.bd (mu s.ps k) (by rw[qkU (by omega)];exact List.getElem_mem _)
  have hnb:qFq s at_ k=(decide ((nt s.ns k).edge=s.edge)&&decide (max (mu s.ps k-at_) (at_-mu s.ps k)≤1000)):=rfl
  have yes:qFq s at_ k=true→qry s at_=true:=fun hh=>List.any_eq_true.2 ⟨k,List.mem_range.2 hlt,hh⟩
  have nxt:qFq s at_ k=false→∀i,i<k+1→qFq s at_ i=false:=by
   intro hh i hi
   by_cases ei:i=k
   ·subst ei;exact hh
   exact hno i (by omega)
  generalize nt s.ns k=n at*
  generalize mu s.ps k=q at*
  have wa:=ww (x:=q-at_)
  have wb:=ww (x:=at_-q)
  refine gg rfl (q0j k rfl rfl rfl hx rfl (gg rfl (q08 rfl (fun f=>?_) (fun f=>?_))))
  ·rw[q1I]at f
   refine gg rfl (q0j k rfl rfl rfl hp rfl (gg rfl (q0j k rfl rfl rfl hp rfl (gg rfl ?_))))
   rw[wa,wb]
   refine q01 rfl (fun f2=>?_) (fun f2=>?_)
   ·rw[q0G]at f2
    refine gg rfl (q04 (gg rfl (q09 rfl rfl rfl trivial ?_)))
    rw[yes (by rw[hnb,decide_eq_true f,decide_eq_true f2];rfl)]
   rw[q0I]at f2
   exact gg rfl (q04 (hN (k+1) ⟨hlt,nxt (by rw[hnb,decide_eq_false (show¬max (q-at_) (at_-q)≤1000 by omega)];simp)⟩ (by omega) (q03 rfl ⟨rfl,trivial⟩ (by rw[w1];rfl))))
  rw[q1J]at f
  exact gg rfl (q0i rfl (gg rfl (q04 (hN (k+1) ⟨hlt,nxt (by rw[hnb,decide_eq_false f];rfl)⟩ (by omega) (q03 rfl ⟨rfl,trivial⟩ (by rw[w1];rfl))))))
 rw[q07]at e
 obtain rfl:k=s.ns.length:=by omega
 clear hN
 refine gg rfl (q04 (gg rfl (q09 rfl rfl rfl trivial ?_)))
 have:qry s at_=false:=by
  unfold qry
  rw[List.any_eq_false]
  intro i hi
  rw[hno i (List.mem_range.1 hi)];decide
 rw[this]
def ql5 (a b:Sid)(rev:Bool)(i:Nat):Bool:=decide ((nt a.ns i).edge=a.edge)&&(decide ((q3R a.len b.len rev (mu a.ps i)).2≠0) ||!qry b (q3R a.len b.len rev (mu a.ps i)).1)
def qfo (a b:Sid)(rev:Bool):List Nat:=(List.range a.ns.length).filter (ql5 a b rev)
def qfp (n:Nat):D:=.int .i64 n
theorem qfq (f:Nat→Bool)(k:Nat):(List.range (k+1)).filter f=(List.range k).filter f++(if f k then [k]else []):=by
 rw[List.range_succ,List.filter_append]
 congr 1
 cases h:f k<;>simp[List.filter,h]
set_option maxHeartbeats 4000000 in
theorem qzG (a b:Sid)(rev:Bool)(ha:SidOk a)(hb:SidOk b):PU qrX [a.enc,b.enc,.bool rev]=some (.lst ((qfo a b rev).map qfp)):=by
 have hlen:=ha.len
 have hfew:=ha.few
 refine q0g (fn:=qg3) rfl (q0a ?_)
 refine gg rfl ?_
 rw[List.length_map]
 refine q0l (S:=fun k:Nat=>([.bool rev,.ptr 1 0 0,.ptr 2 0 0,.ref 3 0 ((List.range k).filter (ql5 a b rev)).length,q51 a.ns,q00 a.ns.length,q00 k],[none,some (.row [a.enc] 4),some (.row [b.enc] 4),some (.row (((List.range k).filter (ql5 a b rev)).map qfp) 1),none,none,none],[0,0,0,0,0,0,0])) (C:=fun k=>k≤a.ns.length) (m:=fun k=>a.ns.length-k) 0 (Nat.zero_le _) (by omega) ?_ ?_
 ·exact q03 rfl ⟨rfl,rfl,rfl,trivial⟩ rfl
 intro k hk N hN
 refine gg rfl (q01 rfl (fun e=>?_) (fun e=>?_))
 ·rw[q06]at e
  have hlt:k<a.ns.length:=by omega
  have w1:=wS (n:=k)
  have hx:=qhE hlt
  have hp:=q7Z (l:=a.ps) (i:=k) (by omega)
  have hst:=qfq (ql5 a b rev) k
  have hlb:ql5 a b rev k=(decide ((nt a.ns k).edge=a.edge)&&(decide ((q3R a.len b.len rev (mu a.ps k)).2≠0) ||!qry b (q3R a.len b.len rev (mu a.ps k)).1)):=rfl
  have hfl:((List.range k).filter (ql5 a b rev)).length≤k:=by
   have:=List.length_filter_le (ql5 a b rev) (List.range k)
   rw[List.length_range]at this;exact this
  generalize nt a.ns k=n at*
  generalize mu a.ps k=q at*
  have pb:=qDb a.len b.len rev q
  have hP:=qpF a.len b.len rev q
  have hH:=has_PU b (q3R a.len b.len rev q).1 hb pb.1 pb.2
  generalize (List.range k).filter (ql5 a b rev)=L at*
  have no:ql5 a b rev k=false→(List.range (k+1)).filter (ql5 a b rev)=L:=fun h=>by rw[hst,h];simp
  have ye:ql5 a b rev k=true→(List.range (k+1)).filter (ql5 a b rev)=L++[k]:=fun h=>by rw[hst,h];rfl
  refine gg rfl (q0j k rfl rfl rfl hx rfl (gg rfl (q01 rfl (fun f=>?_) (fun f=>?_))))
  ·rw[q0w]at f
   have hst0:=no (by rw[hlb,decide_eq_false f];rfl)
   refine gg rfl (q04 (hN (k+1) hlt (by omega) (q03 rfl ⟨rfl,rfl,q05 (fun _=>rfl) _,trivial⟩ ?_)))
   rw[hst0,w1];rfl
  rw[q0B]at f
  refine gg rfl (q0j k rfl rfl rfl hp rfl (gg rfl (q02 rfl rfl hP (gg rfl (q08 rfl (fun f2=>?_) (fun f2=>?_))))))
  ·rw[q0w]at f2
   have hst1:=ye (by rw[hlb,decide_eq_true f,decide_eq_true f2];rfl)
   refine gg rfl (q0d rfl (gg rfl (q1g rfl rfl rfl rfl rfl rfl (by simp) (Nat.zero_le _) (by simp[q0N];omega) ?_)))
   refine gg rfl (q04 (hN (k+1) hlt (by omega) (q03 rfl ⟨rfl,rfl,?_,trivial⟩ ?_)))
   ·rw[List.all_append,q05 (fun _=>rfl)];rfl
   rw[hst1,w1]
   simp[q51,q00,Sid.enc,qfp]
  rw[q0B]at f2
  refine gg rfl (q02 rfl rfl hH ?_)
  cases hh:qry b (q3R a.len b.len rev q).1 with
  |true=>
   have hst0:=no (by rw[hlb,hh,f2];simp)
   refine gg rfl (q0i rfl (gg rfl (q04 (hN (k+1) hlt (by omega) (q03 rfl ⟨rfl,rfl,q05 (fun _=>rfl) _,trivial⟩ ?_)))))
   rw[hst0,w1];rfl
  |false=>
   have hst1:=ye (by rw[hlb,hh,decide_eq_true f];simp)
   refine gg rfl (q0d rfl (gg rfl (q1g rfl rfl rfl rfl rfl rfl (by simp) (Nat.zero_le _) (by simp[q0N];omega) ?_)))
   refine gg rfl (q04 (hN (k+1) hlt (by omega) (q03 rfl ⟨rfl,rfl,?_,trivial⟩ ?_)))
   ·rw[List.all_append,q05 (fun _=>rfl)];rfl
   rw[hst1,w1]
   simp[q51,q00,Sid.enc,qfp]
 rw[q07]at e
 obtain rfl:k=a.ns.length:=by omega
 clear hN
 refine gg rfl (q04 (gg rfl (q09 rfl rfl rfl ⟨q1n (by simp) (q0L (fun _=>rfl) _),trivial⟩ ?_)))
 rw[q1o (by simp)];rfl
end Go.F

namespace Go.F
attribute [local irreducible] IntKind.wrap wpM
structure Iss where
 kind:Int
 a:Int
 b:Int
 deriving DecidableEq
def Iss.enc (i:Iss):D:=.agg [.int .i64 i.kind,.int .i64 i.a,.int .i64 i.b]
def qrz (l:List Iss):D:=.lst (l.map Iss.enc)
theorem q0S (i:Iss):plain 4 i.enc=true:=rfl
theorem qfV (i:Iss):dat 4 i.enc=true:=rfl
def mz (s:Sty)(z:Nat):Int:=mu s.mults z
def pcA (s:Sty)(m:Sew):Piece:=pc s.pieces m.pa.toNat
def pcB (s:Sty)(m:Sew):Piece:=pc s.pieces m.pb.toNat
def ql6 (s:Sty)(z:Nat)(m:Sew):Sid:=⟨(pcA s m).notches,(q0W (pcA s m) (mz s z)).1,m.ea,qjY s z m⟩
def ql7 (s:Sty)(z:Nat)(m:Sew):Sid:=⟨(pcB s m).notches,(q0W (pcB s m) (mz s z)).1,m.eb,qjZ s z m⟩
def q8g (kd:Int)(l:List Nat):List Iss:=l.map fun i:Nat=>(⟨kd,0,(i:Int)⟩:Iss)
def qFr (s:Sty)(z:Nat)(m:Sew):List Iss:=q8g 1 (qfo (ql6 s z m) (ql7 s z m) m.rev)++q8g 2 (qfo (ql7 s z m) (ql6 s z m) m.rev)
theorem qFs {p:Piece}{m:Int}(h:(q0W p m).2=0):(q0W p m).1.length=p.notches.length∧p.notches.length≤16∧∀x∈(q0W p m).1,-1099511627777≤x∧x≤1099511627777:=by
 unfold q0W at h⊢
 split at h
 ·rename_i g;exact absurd h g
 rename_i g
 rw[if_neg g]
 split at h
 ·cases h
 rename_i g2
 rw[if_neg g2]
 split at h
 ·rename_i g3;exact absurd h g3
 rename_i g3
 rw[if_neg g3]
 refine⟨by simp,by omega,fun x hx=>?_⟩
 obtain⟨n,_,rfl⟩:=List.mem_map.1 hx
 unfold q1E
 split
 ·exact⟨by simp,by simp⟩
 split
 ·exact⟨by simp,by simp⟩
 split
 ·exact⟨by simp,by simp⟩
 exact qDb _ _ _ _
theorem qI0 {p:Piece}{m e l:Int}(h:(q0W p m).2=0):SidOk ⟨p.notches,(q0W p m).1,e,l⟩:=by
 obtain⟨h1,h2,h3⟩:=qFs h
 exact⟨h1,by show p.notches.length≤1000;omega,h3⟩
theorem quv (a b:Sid)(rev:Bool):(qfo a b rev).length≤a.ns.length:=by
 have:=List.length_filter_le (ql5 a b rev) (List.range a.ns.length)
 rw[List.length_range]at this;exact this
def at1 (l:List Nat)(i:Nat):Nat:=l.getD i 0
theorem qDc {l:List Nat}{i:Nat}(h:i<l.length):(l.map qfp)[i]?=some (.int .i64 ((at1 l i:Nat):Int)):=by simp[at1,h,qfp]
theorem qJf {l:List Nat}{i:Nat}(h:i<l.length):at1 l i=l[i]:=by simp[at1,h]
theorem quw (kd:Int){l:List Nat}{k:Nat}(h:k<l.length):q8g kd (l.take (k+1))=q8g kd (l.take k)++[⟨kd,0,(at1 l k:Nat)⟩]:=by
 unfold q8g
 rw[List.take_succ_eq_append_getElem h,List.map_append,qJf h];rfl
set_option maxRecDepth 100000 in
set_option maxHeartbeats 8000000 in
theorem qwH (s:Sty)(z:Nat)(h:SewOk s z 0)(h1:s.seams.length=1)(pa:(q0W (pcA s (sw s.seams 0)) (mz s z)).2=0)(pb:(q0W (pcB s (sw s.seams 0)) (mz s z)).2=0):
 PU qaa [s.enc,.int .i64 z]=some (.tup [qrz (qFr s z (sw s.seams 0)),.int .i64 0]):=by
 have hL:=qrw s z 0 h
 obtain⟨hz,hk,hea,heb,hga,hgb,hca⟩:=h
 have hx:=qkT hk
 obtain⟨a1,a2,a3,a4⟩:=q5F hea
 obtain⟨b1,b2,b3,b4⟩:=q5F heb
 have soA:SidOk (ql6 s z (sw s.seams 0)):=qI0 pa
 have soB:SidOk (ql7 s z (sw s.seams 0)):=qI0 pb
 have hA:=qzG (ql6 s z (sw s.seams 0)) (ql7 s z (sw s.seams 0)) (sw s.seams 0).rev soA soB
 have hB:=qzG (ql7 s z (sw s.seams 0)) (ql6 s z (sw s.seams 0)) (sw s.seams 0).rev soB soA
 have qA:=qbq (pcA s (sw s.seams 0)) (mz s z) (hca _ (q7Y a2))
 have qB:=qbq (pcB s (sw s.seams 0)) (mz s z) (hca _ (q7Y b2))
 rw[pa]at qA
 rw[pb]at qB
 have lA:=quv (ql6 s z (sw s.seams 0)) (ql7 s z (sw s.seams 0)) (sw s.seams 0).rev
 have lB:=quv (ql7 s z (sw s.seams 0)) (ql6 s z (sw s.seams 0)) (sw s.seams 0).rev
 have fA:=soA.few
 have fB:=soB.few
 have hu:qFr s z (sw s.seams 0)=q8g 1 (qfo (ql6 s z (sw s.seams 0)) (ql7 s z (sw s.seams 0)) (sw s.seams 0).rev)++q8g 2 (qfo (ql7 s z (sw s.seams 0)) (ql6 s z (sw s.seams 0)) (sw s.seams 0).rev):=rfl
 have eA:(ql6 s z (sw s.seams 0)).enc=.agg [.lst ((pcA s (sw s.seams 0)).notches.map Ntc.enc),.lst ((q0W (pcA s (sw s.seams 0)) (mz s z)).1.map q00),.int .i64 (sw s.seams 0).ea,.int .i64 (qjY s z (sw s.seams 0))]:=rfl
 have eB:(ql7 s z (sw s.seams 0)).enc=.agg [.lst ((pcB s (sw s.seams 0)).notches.map Ntc.enc),.lst ((q0W (pcB s (sw s.seams 0)) (mz s z)).1.map q00),.int .i64 (sw s.seams 0).eb,.int .i64 (qjZ s z (sw s.seams 0))]:=rfl
 have hpA:(s.pieces.map Piece.enc)[(sw s.seams 0).pa.toNat]?=some (pcA s (sw s.seams 0)).enc:=q4N a2
 have hpB:(s.pieces.map Piece.enc)[(sw s.seams 0).pb.toNat]?=some (pcB s (sw s.seams 0)).enc:=q4N b2
 have hmz:(s.mults.map q00)[z]?=some (q00 (mz s z)):=q7Z hz
 rw[hu]
 generalize qfo (ql6 s z (sw s.seams 0)) (ql7 s z (sw s.seams 0)) (sw s.seams 0).rev=LA at*
 generalize qfo (ql7 s z (sw s.seams 0)) (ql6 s z (sw s.seams 0)) (sw s.seams 0).rev=LB at*
 generalize ql6 s z (sw s.seams 0)=SA at*
 generalize ql7 s z (sw s.seams 0)=SB at*
 generalize qjY s z (sw s.seams 0)=nA at*
 generalize qjZ s z (sw s.seams 0)=nB at*
 generalize (q0W (pcA s (sw s.seams 0)) (mz s z)).1=PA at*
 generalize (q0W (pcB s (sw s.seams 0)) (mz s z)).1=PB at*
 generalize pcA s (sw s.seams 0)=cA at*
 generalize pcB s (sw s.seams 0)=cB at*
 generalize sw s.seams 0=m at*
 have hn:∀{x:Int} {P:Prop},nqb x x=true→P:=fun h=>absurd rfl (q0w.1 h)
 refine q0g (fn:=q9R) rfl (q0a ?_)
 refine gg rfl (q08 rfl (fun g=>?_) (fun g=>?_))
 ·rw[q06]at g;omega
 refine gg rfl ?_
 rw[List.length_map]
 refine q01 rfl (fun g=>?_) (fun g=>?_)
 ·rw[q0G]at g;omega
 refine gg rfl ?_
 rw[List.length_map,h1]
 refine q0l (S:=fun k:Nat=>([.int .i64 z,.ptr 1 0 0,.ref 2 0 (if k=0 then []else q8g 1 LA++q8g 2 LB).length,qdt s.seams,q00 1,q00 k],[none,some (.row [s.enc] 7),some (.row ((if k=0 then []else q8g 1 LA++q8g 2 LB).map Iss.enc) 3),none,none,none],[0,0,0,0,0,0])) (C:=fun k=>k≤1) (m:=fun k=>1-k) 0 (Nat.zero_le _) (by omega) ?_ ?_
 ·exact q03 rfl ⟨rfl,rfl,trivial⟩ rfl
 intro k hk1 N hN
 refine gg rfl (q01 rfl (fun e=>?_) (fun e=>?_))
 ·rw[q06]at e
  obtain rfl:k=0:=by omega
  refine gg rfl (q0j 0 rfl rfl rfl hx rfl (gg rfl (q02 rfl rfl hL (gg rfl (q01 rfl hn (fun _=>?_))))))
  refine gg rfl (q0j m.pa.toNat rfl rfl (by omega) hpA rfl ?_)
  refine gg rfl (q0j m.pa.toNat rfl rfl (by omega) hpA rfl ?_)
  refine gg rfl (q0j z rfl rfl rfl hmz rfl (gg rfl (q02 rfl rfl qA (gg rfl (q01 rfl hn (fun _=>?_))))))
  refine gg rfl (q0j m.pb.toNat rfl rfl (by omega) hpB rfl ?_)
  refine gg rfl (q0j m.pb.toNat rfl rfl (by omega) hpB rfl ?_)
  refine gg rfl (q0j z rfl rfl rfl hmz rfl (gg rfl (q02 rfl rfl qB (gg rfl (q01 rfl hn (fun _=>?_))))))
  refine gg rfl ?_
  rw[eA]at hA hB
  rw[eB]at hA hB
  refine q02 rfl rfl hA (gg rfl ?_)
  rw[List.length_map]
  refine q0l (S:=fun n:Nat=>([.int .i64 z,.ptr 1 0 0,.ref 2 0 (q8g 1 (LA.take n)).length,q00 0,.ptr 4 0 0,.ptr 5 0 0,.ptr 6 0 0,qdt s.seams,q00 1,q00 0,.lst (LA.map qfp),q00 LA.length,q00 n],[none,some (.row [s.enc] 7),some (.row ((q8g 1 (LA.take n)).map Iss.enc) 3),none,some (.row [m.enc] 6),some (.row [.agg [q51 cA.notches,ints PA,.int .i64 m.ea,.int .i64 nA]] 4),some (.row [.agg [q51 cB.notches,ints PB,.int .i64 m.eb,.int .i64 nB]] 4),none,none,none,none,none,none],[0,0,0,0,0,0,0,0,0,0,0,0,0])) (C:=fun n=>n≤LA.length) (m:=fun n=>LA.length-n) 0 (Nat.zero_le _) (by omega) ?_ ?_
  ·exact q03 rfl ⟨rfl,rfl,rfl,rfl,rfl,trivial⟩ rfl
  intro n hn0 N2 hN2
  refine gg rfl (q01 rfl (fun f=>?_) (fun f=>?_))
  ·rw[q06]at f
   have hlt:n<LA.length:=by omega
   have w2:=wS (n:=n)
   have hst:=quw 1 hlt
   have hl1:(q8g 1 (LA.take n)).length=n:=by simp[q8g];omega
   refine gg rfl (q0j n rfl rfl rfl (qDc hlt) rfl (gg rfl (q1g rfl rfl rfl rfl rfl rfl (by simp) (Nat.zero_le _) (by simp[q0N];omega) ?_)))
   refine gg rfl (q04 (hN2 (n+1) hlt (by omega) (q03 rfl ⟨rfl,?_,rfl,rfl,rfl,trivial⟩ ?_)))
   ·rw[List.all_append,q05 q0S];rfl
   rw[hst,w2]
   simp[q00,Iss.enc,qdt,q51,ints,Sew.enc]
  rw[q07]at f
  obtain rfl:n=LA.length:=by omega
  clear hN2
  rw[List.take_length]
  have hl1:(q8g 1 LA).length=LA.length:=by simp[q8g]
  refine gg rfl (q04 (gg rfl (q02 rfl rfl hB (gg rfl ?_))))
  rw[List.length_map]
  refine q0l (S:=fun n:Nat=>([.int .i64 z,.ptr 1 0 0,.ref 2 0 (q8g 1 LA++q8g 2 (LB.take n)).length,q00 0,qdt s.seams,q00 1,q00 0,.lst (LB.map qfp),q00 LB.length,q00 n],[none,some (.row [s.enc] 7),some (.row ((q8g 1 LA++q8g 2 (LB.take n)).map Iss.enc) 3),none,none,none,none,none,none,none],[0,0,0,0,0,0,0,0,0,0])) (C:=fun n=>n≤LB.length) (m:=fun n=>LB.length-n) 0 (Nat.zero_le _) (by omega) ?_ ?_
  ·exact q03 rfl ⟨rfl,q05 q0S _,trivial⟩ (by simp[q8g,q00,qdt])
  intro n hn0 N2 hN2
  refine gg rfl (q01 rfl (fun f=>?_) (fun f=>?_))
  ·rw[q06]at f
   have hlt:n<LB.length:=by omega
   have w2:=wS (n:=n)
   have hst:=quw 2 hlt
   have hl2:(q8g 2 (LB.take n)).length=n:=by simp[q8g];omega
   refine gg rfl (q0j n rfl rfl rfl (qDc hlt) rfl (gg rfl (q1g rfl rfl rfl rfl rfl rfl (by simp) (Nat.zero_le _) (by simp[q0N];omega) ?_)))
   refine gg rfl (q04 (hN2 (n+1) hlt (by omega) (q03 rfl ⟨rfl,?_,trivial⟩ ?_)))
   ·rw[List.all_append,q05 q0S];rfl
   rw[hst,w2]
   simp[q00,Iss.enc,qdt]
   try omega
  rw[q07]at f
  obtain rfl:n=LB.length:=by omega
  clear hN2
  rw[List.take_length]
  refine gg rfl (q04 (gg rfl (q04 (hN 1 (by omega) (by omega) (q03 rfl ⟨rfl,q05 q0S _,trivial⟩ ?_)))))
  have w0:IntKind.i64.wrap 1=1:=wrap64 (by decide) (by decide)
  simp[q00,qdt,w0]
 rw[q07]at e
 obtain rfl:k=1:=by omega
 clear hN
 refine gg rfl (q04 (gg rfl (q09 rfl rfl rfl ⟨q1n (by simp) (q0L qfV _),trivial⟩ ?_)))
 rw[q1o (by simp)];rfl
end Go.F

namespace Go.F
attribute [local irreducible] IntKind.wrap wpM
section
variable {T:Tab}{sh:Shr}{nx0:Nat}{s:List Fr}{t:q0z}{h:q0e}{z:Frz}{nx:Nat}{q:Ex→q0z→q0e→Frz→Nat→Prop}
variable {base i:Nat}{res:List Nat}{g:Gd}{rest:List KOper}
theorem qJg {f:FuncId}{dst:Nat}{args:List X}{bs:List D}{rows:List (List D×Nat×Nat)}{r:D}(ids:List Nat)(hs:T.shared f=false)
 (ha:qzx (g.h base h) (args.map (·.ev t))=some (rows,bs)) (hr:q4u rows) (hp:T.pu f bs=some r) (hno:noRef 4 r=false) (hre:(args.map (·.ev t)).flatMap (q0T (g.h base h) depth)=ids)
 (hk:wpM T sh nx0 (.ops base res rest::s) .normal (upd t dst r) h (q99 (g.h base h) z ids) nx q):
 wpM T sh nx0 (.ops base res (⟨i,some dst,none,g,.callF f args⟩::rest)::s) .normal t h z nx q:=by
 refine q3P ?_
 simp only[kop,q6r,hs]
 refine qcp ha hr ?_
 unfold qbv
 refine⟨r,hp,?_⟩
 simp only[q6L,hno,hre]
 cases ids with
 |nil=>exact hk
 |cons a l=>exact hk
end
structure Grd where
 outline:Bool
 cut:Bool
 area:Int
def Grd.enc (g:Grd):D:=.agg [.bool g.outline,.bool g.cut,.int .i64 g.area]
theorem qMi (g:Grd):dat 4 g.enc=true:=rfl
def exm (p:Piece)(m:Int):Grd:=if(q0p p m).2≠0 then⟨false,false,0⟩else⟨true,decide ((q1Q (q0p p m).1 p.widths).2=0),q7b p m⟩
theorem areas1 {p:Piece}{m:Int}(h:(q0p p m).2=0):qfl p [m]=([q7b p m],0):=by
 have e:q7c p [m]=0:=by rw[q7c,if_pos h];rfl
 unfold qfl
 rw[if_neg (by simp[e])];rfl
set_option maxHeartbeats 4000000 in
theorem qJT (p:Piece)(m:Int)(hc:p.corners.length≤1000000):PU qkn [p.enc,.int .i64 m]=some (exm p m).enc:=by
 have h1:=q67 p m hc
 have h2:=q8w (q0p p m).1 p.widths
 have h3:=qHY p [m] hc (by simp)
 unfold exm
 have he:∀{x:Int} {P:Prop},eqb x x=false→P:=fun h=>absurd rfl (q1J.1 h)
 refine q0g (fn:=qaI) rfl (q0a ?_)
 refine gg rfl (q02 rfl rfl h1 (gg rfl (q01 rfl (fun g=>?_) (fun g=>?_))))
 ·rw[q0w]at g
  refine gg rfl (q09 rfl rfl rfl trivial ?_)
  rw[if_pos g];rfl
 rw[q0B]at g
 rw[if_neg (by simp[g])]
 rw[areas1 g]at h3
 refine gg rfl (q02 rfl rfl h2 (gg rfl (qJg [_] rfl rfl ⟨q1n rfl rfl,trivial⟩ h3 rfl rfl (gg rfl (q08 rfl (fun _=>?_) he)))))
 refine gg rfl (q01 rfl (fun _=>?_) (fun h=>?_))
 ·refine gg rfl (q0j 0 rfl rfl rfl rfl rfl (gg rfl (q09 rfl rfl rfl trivial ?_)))
  rw[q2o];rfl
 exact he h
def q6h (kd:Int)(P:Nat→Nat→Bool)(i w:Nat):List Iss:=((List.range w).filter (P i)).map fun z=>⟨kd,(i:Nat),(z:Nat)⟩
def q26 (kd:Int)(P:Nat→Nat→Bool)(n w:Nat):List Iss:=(List.range n).flatMap fun i=>q6h kd P i w
theorem q52 (kd:Int)(P:Nat→Nat→Bool)(i w:Nat):q26 kd P (i+1) w=q26 kd P i w++q6h kd P i w:=by
 unfold q26
 rw[List.range_succ,List.flatMap_append];simp
theorem row_step (kd:Int)(P:Nat→Nat→Bool)(i z:Nat):q6h kd P i (z+1)=q6h kd P i z++(if P i z then [⟨kd,(i:Nat),(z:Nat)⟩]else []):=by
 unfold q6h
 rw[qfq,List.map_append]
 congr 1
 split<;>rfl
theorem qcr (kd:Int)(P:Nat→Nat→Bool)(i w:Nat):(q6h kd P i w).length≤w:=by
 unfold q6h
 rw[List.length_map]
 have:=List.length_filter_le (P i) (List.range w)
 rw[List.length_range]at this;exact this
theorem q4k (kd:Int)(P:Nat→Nat→Bool)(n w:Nat):(q26 kd P n w).length≤n*w:=by
 induction n with
 |zero=>simp[q26]
 |succ n ih=>
  rw[q52,List.length_append,Nat.succ_mul]
  have:=qcr kd P n w
  omega
end Go.F

namespace Go.F
attribute [local irreducible] IntKind.wrap wpM
def qaD (w:Nat)(g:Nat→Grd):D:=.lst (((List.range w).map g).map Grd.enc)
def qfr (n w:Nat)(g:Nat→Nat→Grd):D:=.lst ((List.range n).map fun i=>qaD w (g i))
theorem qk0 {w z:Nat}(g:Nat→Grd)(h:z<w):(((List.range w).map g).map Grd.enc)[z]?=some (g z).enc:=by simp[h]
theorem qk1 {n w i:Nat}(g:Nat→Nat→Grd)(h:i<n):((List.range n).map fun i=>qaD w (g i))[i]?=some (qaD w (g i)):=by simp[h]
def o1 (g:Nat→Nat→Grd)(i z:Nat):Bool:=!(g i z).outline
def o2 (g:Nat→Nat→Grd)(i z:Nat):Bool:=(g i z).outline&&!(g i z).cut
set_option maxRecDepth 100000 in
set_option maxHeartbeats 8000000 in
theorem qJA (n w:Nat)(g:Nat→Nat→Grd)(hn:n≤1000)(hw:w≤1000):PU qj8 [qfr n w g]=some (qrz (q26 1 (o1 g) n w++q26 2 (o2 g) n w)):=by
 refine q0g (fn:=k_verify_outlines) rfl (q0a ?_)
 refine gg rfl ?_
 rw[List.length_map,List.length_range]
 refine q0l (S:=fun i:Nat=>([.ref 0 0 (q26 1 (o1 g) i w).length,.ref 1 0 (q26 2 (o2 g) i w).length,qfr n w g,q00 n,q00 i],[some (.row ((q26 1 (o1 g) i w).map Iss.enc) 3),some (.row ((q26 2 (o2 g) i w).map Iss.enc) 3),none,none,none],[0,0,0,0,0])) (C:=fun i=>i≤n) (m:=fun i=>n-i) 0 (Nat.zero_le _) (by omega) ?_ ?_
 ·exact q03 rfl ⟨rfl,rfl,trivial⟩ rfl
 intro i hi N hN
 refine gg rfl (q01 rfl (fun e=>?_) (fun e=>?_))
 ·rw[q06]at e
  have hlt:i<n:=by omega
  have w1:=wS (n:=i)
  have l1:=q4k 1 (o1 g) i w
  have l2:=q4k 2 (o2 g) i w
  have hiw:i*w≤1000*1000:=Nat.mul_le_mul (by omega) hw
  have ps1:=q52 1 (o1 g) i w
  have ps2:=q52 2 (o2 g) i w
  generalize q26 1 (o1 g) i w=A at*
  generalize q26 2 (o2 g) i w=B at*
  refine gg rfl (q0j i rfl rfl rfl (qk1 g hlt) rfl (gg rfl ?_))
  rw[List.length_map,List.length_map,List.length_range]
  refine q0l (S:=fun z:Nat=>([.ref 0 0 (A++q6h 1 (o1 g) i z).length,.ref 1 0 (B++q6h 2 (o2 g) i z).length,q00 i,qfr n w g,q00 n,q00 i,qaD w (g i),q00 w,q00 z],[some (.row ((A++q6h 1 (o1 g) i z).map Iss.enc) 3),some (.row ((B++q6h 2 (o2 g) i z).map Iss.enc) 3),none,none,none,none,none,none,none],[0,0,0,0,0,0,0,0,0])) (C:=fun z=>z≤w) (m:=fun z=>w-z) 0 (Nat.zero_le _) (by omega) ?_ ?_
  ·exact q03 rfl ⟨q05 q0S _,q05 q0S _,trivial⟩ (by simp[q6h,q00,qfr,qaD])
  intro z hz N2 hN2
  refine gg rfl (q01 rfl (fun f=>?_) (fun f=>?_))
  ·rw[q06]at f
   have hlz:z<w:=by omega
   have w2:=wS (n:=z)
   have r1:=row_step 1 (o1 g) i z
   have r2:=row_step 2 (o2 g) i z
   have k1:=qcr 1 (o1 g) i z
   have k2:=qcr 2 (o2 g) i z
   have hx:=qk0 (g i) hlz
   have e1:o1 g i z=!(g i z).outline:=rfl
   have e2:o2 g i z=((g i z).outline&&!(g i z).cut):=rfl
   generalize g i z=G at*
   generalize q6h 1 (o1 g) i z=A2 at*
   generalize q6h 2 (o2 g) i z=B2 at*
   refine gg rfl (q0j z rfl rfl rfl hx rfl ?_)
   cases ho:G.outline with
   |false=>
    rw[ho]at e1 e2
    refine gg rfl ?_
    rw[ho]
    refine q0d rfl (gg rfl (q1g rfl rfl rfl rfl rfl rfl (by simp) (Nat.zero_le _) (by simp[q0N];omega) ?_))
    refine gg rfl (q04 (hN2 (z+1) (by omega) (by omega) (q03 rfl ⟨?_,q05 q0S _,trivial⟩ ?_)))
    ·rw[List.all_append,q05 q0S];rfl
    rw[r1,r2,e1,e2,w2]
    simp[q00,Iss.enc,qfr,qaD]
    omega
   |true=>
    rw[ho]at e1 e2
    refine gg rfl ?_
    rw[ho]
    refine q0i rfl ?_
    cases hcu:G.cut with
    |false=>
     rw[hcu]at e2
     refine gg rfl (q0d rfl (gg rfl (q1g rfl rfl rfl rfl rfl rfl (by simp) (Nat.zero_le _) (by simp[q0N];omega) ?_)))
     refine gg rfl (q04 (hN2 (z+1) (by omega) (by omega) (q03 rfl ⟨q05 q0S _,?_,trivial⟩ ?_)))
     ·rw[List.all_append,q05 q0S];rfl
     rw[r1,r2,e1,e2,w2]
     simp[q00,Iss.enc,qfr,qaD]
     omega
    |true=>
     rw[hcu]at e2
     refine gg rfl (q0i rfl (gg rfl (q04 (hN2 (z+1) (by omega) (by omega) (q03 rfl ⟨q05 q0S _,q05 q0S _,trivial⟩ ?_)))))
     rw[r1,r2,e1,e2,w2]
     simp[q00,qfr,qaD]
  rw[q07]at f
  obtain rfl:z=w:=by omega
  clear hN2
  refine gg rfl (q04 (gg rfl (q04 (hN (i+1) (by omega) (by omega) (q03 rfl ⟨q05 q0S _,q05 q0S _,trivial⟩ ?_)))))
  rw[ps1,ps2,w1];rfl
 rw[q07]at e
 obtain rfl:i=n:=by omega
 have l1:=q4k 1 (o1 g) i w
 have l2:=q4k 2 (o2 g) i w
 have hiw:i*w≤1000*1000:=Nat.mul_le_mul (by omega) hw
 clear hN
 refine gg rfl (q04 (gg rfl (q1g rfl rfl rfl rfl (by simp) (q1k (n:=3) (fun _=>rfl) _) (by simp) (Nat.zero_le _) (by simp[q0N];omega) ?_)))
 refine gg rfl (q09 rfl rfl rfl ⟨q1n (by simp) ?_,trivial⟩ ?_)
 ·rw[List.all_append,q0L qfV,q0L qfV];rfl
 rw[q1o (by simp),←List.map_append];rfl
theorem qJU (a b:Grd):PU qko [a.enc,b.enc]=some (.bool (a.outline&&(b.outline&&decide (b.area<a.area)))):=by
 obtain⟨ao,ac,aa⟩:=a
 obtain⟨bo,bc,ba⟩:=b
 simp only
 refine q0g (fn:=qb0) rfl (q0a ?_)
 cases ao with
 |false=>
  repeat' (first
   |refine goP 800 rfl rfl ?_
   |refine q0h rfl ?_|refine q0m rfl ?_|refine q08 rfl (fun _=>?_) (fun _=>?_)
   |refine q0d rfl ?_|refine q0i rfl ?_|refine q01 rfl (fun _=>?_) (fun _=>?_)
   |refine q0Q rfl (fun _=>?_) (fun _=>?_)
   |refine q09 rfl rfl rfl trivial ?_)
  rfl
 |true=>
  cases bo with
  |false=>
   repeat' (first
    |refine goP 800 rfl rfl ?_
    |refine q0h rfl ?_|refine q0m rfl ?_|refine q08 rfl (fun _=>?_) (fun _=>?_)
    |refine q0d rfl ?_|refine q0i rfl ?_|refine q01 rfl (fun _=>?_) (fun _=>?_)
    |refine q0Q rfl (fun _=>?_) (fun _=>?_)
    |refine q09 rfl rfl rfl trivial ?_)
   rfl
  |true=>
   repeat' (first
    |refine goP 800 rfl rfl ?_
    |refine q0h rfl ?_|refine q0m rfl ?_|refine q08 rfl (fun _=>?_) (fun _=>?_)
    |refine q0d rfl ?_|refine q0i rfl ?_|refine q01 rfl (fun _=>?_) (fun _=>?_)
    |refine q0Q rfl (fun _=>?_) (fun _=>?_)
    |refine q09 rfl rfl rfl trivial ?_)
   rw[q1U];rfl
end Go.F

namespace Go.F
attribute [local irreducible] IntKind.wrap wpM
def qfs (us:List Use)(i:Nat):Bool:=us.any fun u=>decide (u.piece=(i:Nat))
def o6 (s:Sty)(i z:Nat):Bool:=decide (z=0)&&!qfs s.uses i
theorem row6 (s:Sty)(i w:Nat)(hw:0<w):q6h 6 (o6 s) i w=if qfs s.uses i then []else [⟨6,(i:Nat),0⟩]:=by
 unfold q6h
 have e:(List.range w).filter (o6 s i)=if qfs s.uses i then []else [0]:=by
  induction w with
  |zero=>omega
  |succ w ih=>
   rw[qfq]
   by_cases h0:w=0
   ·subst h0
    cases h:qfs s.uses i<;>simp[o6,h]
   rw[ih (by omega)]
   have:o6 s i w=false:=by simp[o6,h0]
   rw[this];simp
 rw[e]
 split<;>rfl
def qft (s:Sty)(k n:Nat):List Bool:=(List.range n).map fun i=>qfs (s.uses.take k) i
def qrA (b:Bool):D:=.bool b
theorem qFt {s:Sty}{k:Nat}(h:k<s.uses.length)(i:Nat):qfs (s.uses.take (k+1)) i=(qfs (s.uses.take k) i||decide ((us s.uses k).piece=(i:Nat))):=by
 unfold qfs
 rw[List.take_succ_eq_append_getElem h,List.any_append,qff h];simp
theorem qC6 {s:Sty}{k n p:Nat}(h:k<s.uses.length)(hp:(us s.uses k).piece=(p:Nat))(hpn:p<n):(qft s k n).set p true=qft s (k+1) n:=by
 unfold qft
 apply List.ext_getElem
 ·simp
 intro j h1 h2
 rw[List.getElem_set]
 simp only[List.getElem_map,List.getElem_range]
 rw[qFt h,hp]
 split
 ·rename_i e;subst e;simp
 rename_i e
 have:¬((p:Int)=(j:Nat)):=by omega
 rw[decide_eq_false this,Bool.or_false]
set_option maxRecDepth 100000 in
set_option maxHeartbeats 8000000 in
theorem qLP (s:Sty)(w:Nat)(hw:0<w)(hn:s.pieces.length≤1000)(hu:∀u∈s.uses,0≤u.piece∧u.piece<s.pieces.length)(hul:s.uses.length≤1000):PU qnt [s.enc]=some (qrz (q26 6 (o6 s) s.pieces.length w)):=by
 refine q0g (fn:=qcG) rfl (q0a ?_)
 refine gg rfl ?_
 rw[List.length_map]
 refine q48 s.pieces.length rfl rfl rfl (by simp[q0N];omega) ?_
 have ez:List.replicate s.pieces.length (D.bool false)=(qft s 0 s.pieces.length).map qrA:=by
  unfold qft
  rw[List.map_map]
  apply List.ext_getElem
  ·simp
  intro i h1 h2;simp[qfs,qrA]
 show wpM _ _ _ _ _ _ (upd _ _ (some (.row (List.replicate s.pieces.length (D.bool false)) 1))) _ _ _
 rw[ez]
 refine gg rfl ?_
 rw[List.length_map]
 refine q0l (S:=fun k:Nat=>([.ptr 0 0 0,.ref 1 0 s.pieces.length,Go.F.uses s.uses,q00 s.uses.length,q00 k],[some (.row [s.enc] 7),some (.row ((qft s k s.pieces.length).map qrA) 1),none,none,none],[0,0,0,0,0])) (C:=fun k=>k≤s.uses.length) (m:=fun k=>s.uses.length-k) 0 (Nat.zero_le _) (by omega) ?_ ?_
 ·exact q03 rfl ⟨rfl,q05 (fun _=>rfl) _,trivial⟩ rfl
 intro k hk N hN
 refine gg rfl (q01 rfl (fun e=>?_) (fun e=>?_))
 ·rw[q06]at e
  have hlt:k<s.uses.length:=by omega
  have w1:=wS (n:=k)
  have hup:=hu (us s.uses k) (by rw[qff hlt];exact List.getElem_mem _)
  have hx:=qre hlt
  have hst:=qC6 (s:=s) (k:=k) (n:=s.pieces.length) (p:=(us s.uses k).piece.toNat) hlt (by omega) (by omega)
  have hpp:(us s.uses k).piece=(((us s.uses k).piece.toNat:Nat):Int):=by omega
  have hpn:(us s.uses k).piece.toNat<s.pieces.length:=by omega
  generalize us s.uses k=u at*
  refine gg rfl (q0j k rfl rfl rfl hx rfl (gg rfl (q0J u.piece.toNat rfl rfl rfl rfl hpp hpn (gg rfl (q2t (enc:=qrA) (qft s k s.pieces.length) u.piece.toNat true rfl rfl (Nat.zero_add _) rfl (fun _=>rfl) rfl (Nat.zero_le _) (by simp[qft];omega) ?_)))))
  rw[hst]
  exact gg rfl (q04 (hN (k+1) hlt (by omega) (q03 rfl ⟨rfl,q05 (fun _=>rfl) _,trivial⟩ (by rw[w1];rfl))))
 rw[q07]at e
 obtain rfl:k=s.uses.length:=by omega
 clear hN
 refine gg rfl (q04 (gg rfl ?_))
 rw[List.length_map]
 refine q0l (S:=fun i:Nat=>([.ref 0 0 s.pieces.length,.ref 1 0 (q26 6 (o6 s) i w).length,q00 s.pieces.length,q00 i],[some (.row ((qft s s.uses.length s.pieces.length).map qrA) 1),some (.row ((q26 6 (o6 s) i w).map Iss.enc) 3),none,none],[0,0,0,0])) (C:=fun i=>i≤s.pieces.length) (m:=fun i=>s.pieces.length-i) 0 (Nat.zero_le _) (by omega) ?_ ?_
 ·exact q03 rfl ⟨q05 (fun _=>rfl) _,rfl,trivial⟩ rfl
 intro i hi N hN
 refine gg rfl (q01 rfl (fun e=>?_) (fun e=>?_))
 ·rw[q06]at e
  have hlt:i<s.pieces.length:=by omega
  have w1:=wS (n:=i)
  have hg:((qft s s.uses.length s.pieces.length).map qrA)[i]?=some (.bool (qfs s.uses i)):=by simp[qft,hlt,qrA]
  have ps:=q52 6 (o6 s) i w
  rw[row6 s i w hw]at ps
  have pl:(q26 6 (o6 s) i w).length≤i:=by
   have hz:∀j,(q26 6 (o6 s) j w).length≤j:=by
    intro j
    induction j with
    |zero=>simp[q26]
    |succ j ih=>
     rw[q52,List.length_append,row6 s j w hw]
     split<;>simp<;>omega
   exact hz i
  generalize q26 6 (o6 s) i w=A at*
  refine gg rfl (q0J i rfl rfl rfl rfl rfl hlt (gg rfl (q5P rfl rfl (by rw[Nat.zero_add];exact hg) rfl ?_)))
  cases hub:qfs s.uses i with
  |false=>
   rw[hub]at ps
   refine gg rfl (q0d rfl (gg rfl (q1g rfl rfl rfl rfl rfl rfl (by simp) (Nat.zero_le _) (by simp[q0N];omega) ?_)))
   refine gg rfl (q04 (hN (i+1) hlt (by omega) (q03 rfl ⟨q05 (fun _=>rfl) _,?_,trivial⟩ ?_)))
   ·rw[List.all_append,q05 q0S];rfl
   rw[ps,w1]
   simp[q00,Iss.enc]
  |true=>
   rw[hub]at ps
   refine gg rfl (q0i rfl (gg rfl (q04 (hN (i+1) hlt (by omega) (q03 rfl ⟨q05 (fun _=>rfl) _,q05 q0S _,trivial⟩ ?_)))))
   rw[ps,w1]
   simp[q00]
 rw[q07]at e
 obtain rfl:i=s.pieces.length:=by omega
 clear hN
 refine gg rfl (q04 (gg rfl (q09 rfl rfl rfl ⟨q1n (by simp) (q0L qfV _),trivial⟩ ?_)))
 rw[q1o (by simp)];rfl
end Go.F

namespace Go.F
structure PcOk (b:List Piece)(p:Piece):Prop where
 name:q1X p.name=true
 grain:¬(p.grain≠1∧p.grain≠2∧p.grain≠4)
 once:(b.any fun o=>o.name.toList==p.name.toList)=false
 grad:(q0p p 0).2=0
 plac:(q0W p 0).2=0
 wlen:p.widths.length=p.edges.length
 wid:¬(p.widths.any q2v)=true
theorem qkO {b:List Piece}{p:Piece}(h:q2d b p=0):PcOk b p:=by
 unfold q2d at h
 split at h
 ·cases h
 rename_i g1
 split at h
 ·cases h
 rename_i g2
 split at h
 ·cases h
 rename_i g3
 split at h
 ·rename_i g;exact absurd h g
 rename_i g4
 split at h
 ·rename_i g;exact absurd h g
 rename_i g5
 split at h
 ·cases h
 rename_i g6
 split at h
 ·cases h
 rename_i g7
 exact⟨by simpa using g1,g2,by simpa using g3,by simpa using g4,by simpa using g5,by simpa using g6,g7⟩
theorem qn7 {b:List Piece}{p:Piece}(h:PcOk b p):q2d b p=0:=by
 unfold q2d
 rw[if_neg (by simp[h.name]),if_neg h.grain,if_neg (by simp[h.once]),if_neg (by simp[h.grad]),if_neg (by simp[h.plac]),if_neg (by simp[h.wlen]),if_neg h.wid]
theorem qzg (b:List Piece)(x:List UInt8):(b.any fun o=>o.name.toList==x)=((b.map Piece.name).any fun n=>n.toList==x):=by
 rw[List.any_map];rfl
theorem qay {f:Nat→Int}:∀{n:Nat},(∀i,i<n→f i=0)→q0K f n=0
 |0,_=>rfl
 |n+1,h=>by rw[q0K,if_pos (qay fun i hi=>h i (by omega)),h n (by omega)]
end Go.F

namespace Go.F
attribute [local irreducible] IntKind.wrap wpM
theorem qI1 {l:List Spot}(h:q1C l=0):(q16 l).2=0∧0≤(q16 l).1∧(q16 l).1≤1099511627776:=by
 obtain⟨h2,h40,hw⟩:=q2x h
 have hl:=qqT (p:=l) (fun i hi=>hw (pt l i) (by rw[q0H hi];exact List.getElem_mem _)) (l.length-1) (by omega)
 have h3:(l.length-1) *4294967296≤39*4294967296:=Nat.mul_le_mul_right _ (by omega)
 unfold q16
 rw[if_pos h]
 refine⟨rfl,?_,?_⟩
 ·show(0:Int)≤((q3o l (l.length-1):Nat):Int);omega
 show((q3o l (l.length-1):Nat):Int)≤_;omega
theorem qzH {p:Piece}{m:Int}(hg:(q0p p m).2=0){e:Nat}(he:e<p.edges.length):q1C (eg (q0p p m).1 e).line=0:=by
 have hl:=q2l hg
 exact q34 (q1e (q18 hl.2.2.1).2.2.1 (by rw[hl.1];exact he))
theorem qFu {fr to at_:Int}{rev:Bool}:(q3R fr to rev at_).2=0↔¬q4X fr to at_:=by
 unfold q3R
 split
 ·rename_i h;exact⟨fun e=>by simp at e,fun e=>absurd h e⟩
 rename_i h;exact⟨fun _=>h,fun _=>rfl⟩
theorem qC7 {p:Piece}{m:Int}{n:Ntc}(h0:(q0p p 0).2=0)(hg:(q0p p m).2=0)(h:(q1E p (q0p p 0).1 n).2=0):(q1E p (q0p p m).1 n).2=0:=by
 unfold q1E at h⊢
 split at h
 ·cases h
 rename_i g1
 rw[if_neg g1]
 split at h
 ·rename_i g2;exact absurd h g2
 rename_i g2
 rw[if_neg g2]
 split at h
 ·rename_i g3;exact absurd h g3
 rename_i g3
 have hb:=qI1 (qzH hg (e:=n.edge.toNat) (by omega))
 rw[if_neg (by simp[hb.1])]
 rw[qFu]at h⊢
 unfold q4X at h⊢
 omega
theorem qfu {p:Piece}{g:List Edge}:∀{l:List Ntc},q2O p g l=0↔∀n∈l,(q1E p g n).2=0
 |[]=>by simp[q2O]
 |n::l=>by
  rw[q2O]
  split
  ·rename_i h
   rw[qfu]
   constructor
   ·intro h2 x hx
    rcases List.mem_cons.1 hx with rfl|hx
    ·exact h
    exact h2 x hx
   intro h2 x hx;exact h2 x (List.mem_cons_of_mem _ hx)
  rename_i h
  exact⟨fun e=>absurd e h,fun h2=>absurd (h2 n (List.mem_cons_self ..)) h⟩
theorem qrB {p:Piece}{m:Int}(h0:(q0p p 0).2=0)(hp:(q0W p 0).2=0)(hg:(q0p p m).2=0):(q0W p m).2=0:=by
 unfold q0W at hp⊢
 rw[if_neg (by simp[h0])]at hp
 rw[if_neg (by simp[hg])]
 split at hp
 ·cases hp
 rename_i g
 rw[if_neg g]
 split at hp
 ·rename_i g2;exact absurd hp g2
 rename_i g2
 have g2:q2O p (q0p p 0).1 p.notches=0:=by simpa using g2
 rw[if_neg]
 ·simp only[ne_eq,Decidable.not_not]
  exact qfu.2 fun n hn=>qC7 h0 hg (qfu.1 g2 n hn)
def qux (s:Sty)(p:Nat)(z:Nat):Bool:=decide ((q0p (pc s.pieces p) (mz s z)).2=0)
def qbN (s:Sty)(k z:Nat):Bool:=qux s (sw s.seams k).pa.toNat z&&qux s (sw s.seams k).pb.toNat z
def o3 (s:Sty)(k z:Nat):Bool:=qbN s k z&&decide ((sw s.seams k).ease<max (qjY s z (sw s.seams k)-qjZ s z (sw s.seams k)) (qjZ s z (sw s.seams k)-qjY s z (sw s.seams k)))
def o4 (s:Sty)(k z:Nat):Bool:=qbN s k z&&decide (0<(qFr s z (sw s.seams k)).length)
def qrC (s:Sty)(m:Sew):Sty:={s with seams:=[m]}
def ql8 (s:Sty)(i z:Nat):Grd:=exm (pc s.pieces i) (mz s z)
theorem qng (s:Sty)(i z:Nat):(ql8 s i z).outline=qux s i z:=by
 unfold ql8 exm qux
 split
 ·rename_i h;rw[decide_eq_false h]
 rename_i h
 have h:(q0p (pc s.pieces i) (mz s z)).2=0:=Decidable.not_not.1 h
 rw[h];rfl
theorem qDd {s:Sty}(h:q3f s=0){k:Nat}(hk:k<s.seams.length):q22 s (sw s.seams k).pa (sw s.seams k).ea=true∧q22 s (sw s.seams k).pb (sw s.seams k).eb=true∧0≤(sw s.seams k).ease:=by
 have h2:=q1e (q5Y h).2.2.2 hk
 unfold q4p q6M at h2
 split at h2
 ·cases h2
 rename_i g
 split at h2
 ·cases h2
 rename_i g2
 refine⟨?_,?_,by omega⟩
 ·cases hh:q22 s (sw s.seams k).pa (sw s.seams k).ea with
  |true=>rfl
  |false=>exact absurd (.inl hh) g
 cases hh:q22 s (sw s.seams k).pb (sw s.seams k).eb with
 |true=>rfl
 |false=>exact absurd (.inr hh) g
theorem qrD {s:Sty}(h:q3f s=0){i:Nat}(hi:i<s.pieces.length):(q0p (pc s.pieces i) 0).2=0∧(q0W (pc s.pieces i) 0).2=0∧(pc s.pieces i).corners.length≤16:=by
 have hp:=qkO (q1e (q5Y h).2.1 hi)
 have hl:=q2l hp.grad
 have:=(q18 hl.2.1).2.1
 exact⟨hp.grad,hp.plac,by omega⟩
theorem qrE {s:Sty}(h:q3f s=0):∀p∈s.pieces,p.corners.length≤1000000:=by
 intro p hp
 obtain⟨i,hi,rfl⟩:=List.getElem_of_mem hp
 have:=(qrD h hi).2.2
 rw[q76 hi]at this
 omega
theorem qC8 {s:Sty}(h:q3f s=0){k z:Nat}(hk:k<s.seams.length)(hz:z<s.mults.length)(hb:qbN s k z=true):SewOk s z k:=by
 obtain⟨e1,e2,_⟩:=qDd h hk
 unfold qbN qux at hb
 rw[Bool.and_eq_true,decide_eq_true_eq,decide_eq_true_eq]at hb
 exact⟨hz,hk,e1,e2,hb.1,hb.2,qrE h⟩
theorem qI2 {s:Sty}(h:q3f s=0){k z:Nat}(hk:k<s.seams.length)(hz:z<s.mults.length)(hb:qbN s k z=true):SewOk (qrC s (sw s.seams k)) z 0:=by
 have:=qC8 h hk hz hb
 exact⟨hz,by show 0<1;decide,this.ea,this.eb,this.ga,this.gb,fun p hp=>qrE h p hp⟩
theorem qFv {s:Sty}(h:q3f s=0){k z:Nat}(hk:k<s.seams.length)(hz:z<s.mults.length)(hb:qbN s k z=true):
 PU qaa [(qrC s (sw s.seams k)).enc,.int .i64 z]=some (.tup [qrz (qFr s z (sw s.seams k)),.int .i64 0]):=by
 have h1:=qC8 h hk hz hb
 have h2:=qI2 h hk hz hb
 obtain⟨_,a2,_,_⟩:=q5F h1.ea
 obtain⟨_,b2,_,_⟩:=q5F h1.eb
 have pa:=qrD h a2
 have pb:=qrD h b2
 exact qwH (qrC s (sw s.seams k)) z h2 rfl (qrB pa.1 pa.2.1 h1.ga) (qrB pb.1 pb.2.1 h1.gb)
theorem qDe {p:Piece}{m:Int}{e:Nat}(hg:(q0p p m).2=0)(he:e<p.edges.length):0≤qzF p m e∧qzF p m e≤1099511627776:=(qI1 (qzH hg he)).2
end Go.F

namespace Go.F
section
variable {t:q0z}{h:q0e}{z:Frz}{nx:Nat}
def qf2 (nx0:Nat)(ids:List (Option Nat))(t:q0z):Live→List D
 |[]=>[]
 |x::rest=>(match q6U x.1 with|true=> .bad|false=>q1l nx0 ids (t x.1))::qf2 nx0 ids t rest
theorem qfH (nx0:Nat)(ids:List (Option Nat))(t:q0z):∀live,qhh nx0 ids t live=mkT live (qf2 nx0 ids t live)
 |[]=>rfl
 |x::rest=>by rw[qhh,qf2,mkT,qfH nx0 ids t rest];rfl
theorem qtX {nx0:Nat}{ids:List (Option Nat)}{s:St}:∀{live:Live},q3H nx0 ids s.heap s.tmps live=true→q4l nx0 ids live s=some s:=by
 intro live
 induction live with
 |nil=>intro _;rfl
 |cons x rest ih=>
  intro hk
  rw[q3H,Bool.and_eq_true]at hk
  rw[q4l]
  have e:q4W nx0 ids x.1 s=some s:=by
   unfold q4W
   have h1:=hk.1
   split
   ·rename_i hid
    rw[hid]at h1
    split
    ·rfl
    rename_i hp
    rw[hp]at h1
    have hl:look s.tmps s.heap x.1=s.tmps x.1:=by unfold look;rw[hp]
    rw[hl]at hid
    unfold qkg
    rw[hid]
    simp only
    simp only at h1
    rw[h1]
   rename_i id hid
   rw[hid]at h1
   split
   ·rename_i es esz hh
    have h1:q2B nx0 ids (s.heap id)=true:=h1
    rw[hh]at h1
    have h1:es.all (okD nx0 ids)=true:=h1
    rw[h1]
   rfl
  rw[e]
  exact ih hk.2
theorem qCM {live:Live}{s1:St}{ids:List (Option Nat)}{vs:List D}{bs:List (Option Blk)}{zs:List Nat}{K:Kept→Prop}
 (hn:q4V live ⟨t,h,z,nx⟩=s1) (hi:q1W s1.tmps s1.heap live=ids) (ho:q3H 0 ids s1.heap s1.tmps live=true)
 (hv:qf2 0 ids s1.tmps live=vs) (hb:q7F 0 ids none (fun i=>q7A 0 ids (s1.heap i)) ids 0=bs) (hz:q7F 0 ids 0 s1.frz ids 0=zs)
 (hk:K (vs,bs,zs)) (hnst:q5e live=true:=by rfl):q15 0 live t h z nx fun _ _ kp=>K kp:=by
 unfold q15
 rw[hnst]
 simp only
 refine⟨s1.heap,s1.frz,(vs,bs,zs),hk,?_⟩
 unfold qa7
 rw[hn,hi,qtX ho]
 simp only
 unfold qtH
 rw[hi,ho]
 simp only
 rw[qfH,hv,q69 _ _ (Nat.le_refl _),q69 _ _ (Nat.le_refl _),hb,hz]
theorem qCN {live:Live}{s1:St}{ids:List (Option Nat)}{vs:List D}{bs:List (Option Blk)}{zs:List Nat}
 (hn:q4V live ⟨t,h,z,nx⟩=s1) (hi:q1W s1.tmps s1.heap live=ids) (ho:q3H 0 ids s1.heap s1.tmps live=true)
 (hv:qf2 0 ids s1.tmps live=vs) (hb:q7F 0 ids none (fun i=>q7A 0 ids (s1.heap i)) ids 0=bs) (hz:q7F 0 ids 0 s1.frz ids 0=zs)
 (hnst:q5e live=true:=by rfl):q15 0 live t h z nx fun _ _ kp=>kp=(vs,bs,zs):=
 qCM hn hi ho hv hb hz rfl hnst
end
theorem qEo (ids:List (Option Nat))(l:List Spot):(l.map Spot.enc).all (okD 0 ids)=true:=by
 rw[List.all_map,List.all_eq_true]
 intro x _;rfl
theorem qEp (ids:List (Option Nat))(l:List Spot):(l.map Spot.enc).map (qxu 0 ids)=l.map Spot.enc:=by
 rw[List.map_map]
 apply List.map_congr_left
 intro x _;rfl
end Go.F

namespace Go.F
theorem qBH {hp:q0e}{es:List D}{n:Nat}(hd:es.all (dat 4)=true)(hn:4≤n):es.mapM (q1b hp n)=some es:=by
 induction es with
 |nil=>rfl
 |cons x es ih=>
  simp only[List.all_cons,Bool.and_eq_true]at hd
  simp[List.mapM_cons,qrk 4 n x hd.1 hn,ih hd.2]
theorem qF0 {h:q0e}{id len sz n:Nat}{es:List D}(hh:h id=some (.row es sz))(hl:len=es.length)(hd:es.all (dat 4)=true)(hn:4≤n):q1b h (n+1) (.ref id 0 len)=some (.lst es):=by
 subst hl
 simp only[q1b,hh]
 rw[if_pos (by omega),List.drop_zero,List.take_length,qBH hd hn];rfl
theorem qBI {h:q0e}{id len sz n:Nat}{es:List D}(hh:h id=some (.row es sz))(hd:es.all (dat 4)=true):q0T h (n+1) (.ref id 0 len)=[id]:=by
 simp only[q0T,hh]
 rw[q7N]
 rw[List.all_eq_true]at hd⊢
 intro x hx
 exact hd x (List.mem_of_mem_drop (List.mem_of_mem_take hx))
end Go.F

namespace Go.F
attribute [local irreducible] IntKind.wrap wpM
theorem qI3 {h:q0e}{A a x:Nat}{nm:ByteArray}{S M P U W O:List D}(hA:h A=some (.row W x))(ha:a=W.length)(hW:W.all (dat 4)=true):
 Obl.ok (.s h [.agg [.str nm,.lst S,.lst M,.lst P,.lst U,.ref A 0 a,.lst O]] [.agg [.str nm,.lst S,.lst M,.lst P,.lst U,.lst W,.lst O]] [A]):=by
 refine⟨rfl,?_,?_,rfl⟩
 ·have e:∀d:List D,q1b h 7 (.lst d)=some (.lst d):=fun _=>rfl
  have e2:q1b h 7 (.str nm)=some (.str nm):=rfl
  show([_]:List D).mapM (q1b h 8)=_
  rw[List.mapM_cons,List.mapM_nil]
  have e3:q1b h 8 (.agg [.str nm,.lst S,.lst M,.lst P,.lst U,.ref A 0 a,.lst O])=(([.str nm,.lst S,.lst M,.lst P,.lst U,.ref A 0 a,.lst O]:List D).mapM (q1b h 7)).map .agg:=rfl
  rw[e3]
  simp only[List.mapM_cons,List.mapM_nil,e,e2,qF0 hA ha hW (show 4≤6 by decide)]
  rfl
 show List.flatMap (q0T h 12) [_]=_
 have e3:q0T h 12 (.agg [.str nm,.lst S,.lst M,.lst P,.lst U,.ref A 0 a,.lst O])=([.str nm,.lst S,.lst M,.lst P,.lst U,.ref A 0 a,.lst O]:List D).flatMap (q0T h 11):=rfl
 rw[List.flatMap_cons,List.flatMap_nil,e3]
 simp only[List.flatMap_cons,List.flatMap_nil,qBI hA hW (n:=10)]
 rfl
set_option maxRecDepth 100000 in
set_option maxHeartbeats 16000000 in
theorem qM4 (s:Sty)(h:q3f s=0):PU qpM [s.enc,qfr s.pieces.length s.mults.length (ql8 s)]=some (qrz (q26 3 (o3 s) s.seams.length s.mults.length++q26 4 (o4 s) s.seams.length s.mults.length)):=by
 have hok:=qjM h
 have hs24:=hok.seams
 have hm12:s.mults.length≤12:=by have:=hok.mults;have:=hok.sizes;omega
 have he:∀{x:Int} {P:Prop},eqb x x=false→P:=fun h=>absurd rfl (q1J.1 h)
 refine q0g (fn:=qei) rfl (q0a ?_)
 refine gg rfl ?_
 rw[List.length_map]
 refine q0l (S:=fun k:Nat=>([qfr s.pieces.length s.mults.length (ql8 s),.ptr 1 0 0,.ref 2 0 (q26 3 (o3 s) k s.mults.length).length,.ref 3 0 (q26 4 (o4 s) k s.mults.length).length,qdt s.seams,q00 s.seams.length,q00 k],[none,some (.row [s.enc] 7),some (.row ((q26 3 (o3 s) k s.mults.length).map Iss.enc) 3),some (.row ((q26 4 (o4 s) k s.mults.length).map Iss.enc) 3),none,none,none],[0,0,0,0,0,0,0])) (C:=fun k=>k≤s.seams.length) (m:=fun k=>s.seams.length-k) 0 (Nat.zero_le _) (by omega) ?_ ?_
 ·exact q03 rfl ⟨rfl,rfl,rfl,trivial⟩ rfl
 intro k hk N hN
 refine gg rfl (q01 rfl (fun e=>?_) (fun e=>?_))
 ·rw[q06]at e
  have hlt:k<s.seams.length:=by omega
  have w1:=wS (n:=k)
  have l1:=q4k 3 (o3 s) k s.mults.length
  have l2:=q4k 4 (o4 s) k s.mults.length
  have hiw:k*s.mults.length≤24*12:=Nat.mul_le_mul (by omega) hm12
  have ps1:=q52 3 (o3 s) k s.mults.length
  have ps2:=q52 4 (o4 s) k s.mults.length
  have hx:=qkT hlt
  obtain⟨ea,eb,hease⟩:=qDd h hlt
  obtain⟨a1,a2,a3,a4⟩:=q5F ea
  obtain⟨b1,b2,b3,b4⟩:=q5F eb
  have hSE:=fun z (hz:z<s.mults.length) hb=>qrw s z k (qC8 h hlt hz hb)
  have hUE:=fun z (hz:z<s.mults.length) hb=>qFv h hlt hz hb
  have hLA:∀z,qbN s k z=true→0≤qjY s z (sw s.seams k)∧qjY s z (sw s.seams k)≤1099511627776∧0≤qjZ s z (sw s.seams k)∧qjZ s z (sw s.seams k)≤1099511627776:=by
   intro z hb
   unfold qbN qux at hb
   rw[Bool.and_eq_true,decide_eq_true_eq,decide_eq_true_eq]at hb
   have q1:=qDe hb.1 a4
   have q2:=qDe hb.2 b4
   exact⟨q1.1,q1.2,q2.1,q2.2⟩
  have hd3:∀z,o3 s k z=(qbN s k z&&decide ((sw s.seams k).ease<max (qjY s z (sw s.seams k)-qjZ s z (sw s.seams k)) (qjZ s z (sw s.seams k)-qjY s z (sw s.seams k)))):=fun _=>rfl
  have hbd:∀z,qbN s k z=((ql8 s (sw s.seams k).pa.toNat z).outline&&(ql8 s (sw s.seams k).pb.toNat z).outline):=fun z=>by rw[qng,qng];rfl
  generalize q26 3 (o3 s) k s.mults.length=A at*
  generalize q26 4 (o4 s) k s.mults.length=B at*
  generalize hmm0:sw s.seams k=m at*
  refine gg rfl (q0j k rfl rfl rfl hx rfl (gg rfl ?_))
  rw[List.length_map]
  refine q0l (S:=fun z:Nat=>([qfr s.pieces.length s.mults.length (ql8 s),.ptr 1 0 0,.ref 2 0 (A++q6h 3 (o3 s) k z).length,.ref 3 0 (B++q6h 4 (o4 s) k z).length,q00 k,.ptr 5 0 0,.ptr 6 0 0,qdt s.seams,q00 s.seams.length,q00 k,q00 s.mults.length,q00 z],[none,some (.row [s.enc] 7),some (.row ((A++q6h 3 (o3 s) k z).map Iss.enc) 3),some (.row ((B++q6h 4 (o4 s) k z).map Iss.enc) 3),none,some (.row [m.enc] 6),some (.row [(qrC s m).enc] 7),none,none,none,none,none],[0,0,0,0,0,0,0,0,0,0,0,0])) (C:=fun z=>z≤s.mults.length) (m:=fun z=>s.mults.length-z) 0 (Nat.zero_le _) (by omega) ?_ ?_
  ·refine qjT [none,none,none,none,some ([(qrC s m).enc],[43])] rfl ⟨rfl,q05 q0S _,q05 q0S _,rfl,qI3 rfl rfl rfl,trivial⟩ ?_
   simp[q6h,q00,qdt,qfr,qaD,qfP,Sew.enc]
  intro z hz N2 hN2
  refine gg rfl (q01 rfl (fun f=>?_) (fun f=>?_))
  ·rw[q06]at f
   have hlz:z<s.mults.length:=by omega
   have w2:=wS (n:=z)
   have r1:=row_step 3 (o3 s) k z
   have r2:=row_step 4 (o4 s) k z
   have k1:=qcr 3 (o3 s) k z
   have k2:=qcr 4 (o4 s) k z
   have hd3:=hd3 z
   have hbd:=hbd z
   have gA:=qk1 (n:=s.pieces.length) (w:=s.mults.length) (ql8 s) a2
   have gB:=qk1 (n:=s.pieces.length) (w:=s.mults.length) (ql8 s) b2
   have ga:=qk0 (ql8 s m.pa.toNat) hlz
   have gb:=qk0 (ql8 s m.pb.toNat) hlz
   have hLA:=hLA z
   have hSE:=hSE z hlz
   have hUE:=hUE z hlz
   generalize q6h 3 (o3 s) k z=A2 at*
   generalize q6h 4 (o4 s) k z=B2 at*
   generalize ql8 s m.pa.toNat z=GA at*
   generalize ql8 s m.pb.toNat z=GB at*
   refine gg rfl (q0j m.pa.toNat rfl rfl (by omega) gA rfl ?_)
   refine gg rfl (q0j z rfl rfl rfl ga rfl ?_)
   cases hoA:GA.outline with
   |false=>
    have hbf:qbN s k z=false:=by rw[hbd,hoA];rfl
    refine gg rfl ?_
    rw[hoA]
    refine q0h rfl (gg rfl (q0d rfl ?_))
    have e3:o3 s k z=false:=by unfold o3;rw[hbf];rfl
    have e4:o4 s k z=false:=by unfold o4;rw[hbf];rfl
    refine gg rfl (q04 (hN2 (z+1) (by omega) (by omega) (q03 rfl ⟨rfl,q05 q0S _,q05 q0S _,rfl,rfl,trivial⟩ ?_)))
    rw[r1,r2,e3,e4,w2]
    simp[q00,qfr,qaD,qdt]
   |true=>
    refine gg rfl ?_
    rw[hoA]
    refine q0m rfl (gg rfl (q0j m.pb.toNat rfl rfl (by omega) gB rfl ?_))
    refine gg rfl (q0j z rfl rfl rfl gb rfl ?_)
    cases hoB:GB.outline with
    |false=>
     have hbf:qbN s k z=false:=by rw[hbd,hoA,hoB];rfl
     refine gg rfl ?_
     rw[hoB]
     refine q0d rfl ?_
     have e3:o3 s k z=false:=by unfold o3;rw[hbf];rfl
     have e4:o4 s k z=false:=by unfold o4;rw[hbf];rfl
     refine gg rfl (q04 (hN2 (z+1) (by omega) (by omega) (q03 rfl ⟨rfl,q05 q0S _,q05 q0S _,rfl,rfl,trivial⟩ ?_)))
     rw[r1,r2,e3,e4,w2]
     simp[q00,qfr,qaD,qdt]
    |true=>
     have hbt:qbN s k z=true:=by rw[hbd,hoA,hoB];rfl
     have hLn:=hSE hbt
     have hU:=hUE hbt
     obtain⟨n1,n2,n3,n4⟩:=hLA hbt
     rw[hbt,Bool.true_and]at hd3
     have hmm:qFr s z m=qFr s z (sw s.seams k):=by rw[hmm0]
     generalize qjY s z m=nA at*
     generalize qjZ s z m=nB at*
     have wa:=ww (x:=nA-nB)
     have wb:=ww (x:=nB-nA)
     refine gg rfl ?_
     rw[hoB]
     refine q0i rfl (gg rfl (q02 rfl rfl hLn (gg rfl (q08 rfl (fun _=>?_) he))))
     refine gg rfl ?_
     rw[wa,wb]
     refine q01 rfl (fun f3=>?_) (fun f3=>?_)
     ·rw[q06]at f3
      have e3:o3 s k z=true:=by rw[hd3,decide_eq_true f3]
      refine gg rfl (q1g rfl rfl rfl rfl rfl rfl (by simp) (Nat.zero_le _) (by simp[q0N];omega) ?_)
      have PL:((A++A2).map Iss.enc++[Iss.enc ⟨3,(k:Nat),(z:Nat)⟩]).all (plain 4)=true:=by rw[List.all_append,q05 q0S];rfl
      refine gg rfl (q02 rfl rfl hU (gg rfl (q08 rfl (fun _=>?_) he)))
      refine gg rfl ?_
      rw[List.length_map]
      refine q01 rfl (fun f4=>?_) (fun f4=>?_)
      ·rw[q06]at f4
       have e4:o4 s k z=true:=by unfold o4;rw[hbt,decide_eq_true (by rw[←hmm];omega)];rfl
       refine gg rfl (q1g rfl rfl rfl rfl rfl rfl (by simp) (Nat.zero_le _) (by simp[q0N];omega) ?_)
       refine gg rfl (q04 (hN2 (z+1) (by omega) (by omega) (q03 rfl ⟨rfl,PL,?_,rfl,rfl,trivial⟩ ?_)))
       ·rw[List.all_append,q05 q0S];rfl
       rw[r1,r2,e3,e4,w2]
       simp[q00,Iss.enc,qfr,qaD,qdt,Nat.add_assoc]
      rw[q07]at f4
      have e4:o4 s k z=false:=by unfold o4;rw[hbt,decide_eq_false (by rw[←hmm];omega)];rfl
      refine gg rfl (q04 (hN2 (z+1) (by omega) (by omega) (q03 rfl ⟨rfl,PL,q05 q0S _,rfl,rfl,trivial⟩ ?_)))
      rw[r1,r2,e3,e4,w2]
      simp[q00,Iss.enc,qfr,qaD,qdt,Nat.add_assoc]
     rw[q07]at f3
     have e3:o3 s k z=false:=by rw[hd3,decide_eq_false (by omega)]
     have PL:((A++A2).map Iss.enc).all (plain 4)=true:=q05 q0S _
     refine gg rfl (q02 rfl rfl hU (gg rfl (q08 rfl (fun _=>?_) he)))
     refine gg rfl ?_
     rw[List.length_map]
     refine q01 rfl (fun f4=>?_) (fun f4=>?_)
     ·rw[q06]at f4
      have e4:o4 s k z=true:=by unfold o4;rw[hbt,decide_eq_true (by rw[←hmm];omega)];rfl
      refine gg rfl (q1g rfl rfl rfl rfl rfl rfl (by simp) (Nat.zero_le _) (by simp[q0N];omega) ?_)
      refine gg rfl (q04 (hN2 (z+1) (by omega) (by omega) (q03 rfl ⟨rfl,PL,?_,rfl,rfl,trivial⟩ ?_)))
      ·rw[List.all_append,q05 q0S];rfl
      rw[r1,r2,e3,e4,w2]
      simp[q00,Iss.enc,qfr,qaD,qdt,Nat.add_assoc]
     rw[q07]at f4
     have e4:o4 s k z=false:=by unfold o4;rw[hbt,decide_eq_false (by rw[←hmm];omega)];rfl
     refine gg rfl (q04 (hN2 (z+1) (by omega) (by omega) (q03 rfl ⟨rfl,PL,q05 q0S _,rfl,rfl,trivial⟩ ?_)))
     rw[r1,r2,e3,e4,w2]
     simp[q00,Iss.enc,qfr,qaD,qdt,Nat.add_assoc]
  rw[q07]at f
  obtain rfl:z=s.mults.length:=by omega
  clear hN2
  refine gg rfl (q04 (gg rfl (q04 (hN (k+1) (by omega) (by omega) (q03 rfl ⟨rfl,q05 q0S _,q05 q0S _,trivial⟩ ?_)))))
  rw[ps1,ps2,w1];rfl
 rw[q07]at e
 obtain rfl:k=s.seams.length:=by omega
 have l1:=q4k 3 (o3 s) s.seams.length s.mults.length
 have l2:=q4k 4 (o4 s) s.seams.length s.mults.length
 have hiw:s.seams.length*s.mults.length≤24*12:=Nat.mul_le_mul (by omega) hm12
 clear hN
 refine gg rfl (q04 (gg rfl (q1g rfl rfl rfl rfl (by simp) (q1k (n:=3) (fun _=>rfl) _) (by simp) (Nat.zero_le _) (by simp[q0N];omega) ?_)))
 refine gg rfl (q09 rfl rfl rfl ⟨q1n (by simp) ?_,trivial⟩ ?_)
 ·rw[List.all_append,q0L qfV,q0L qfV];rfl
 rw[q1o (by simp),←List.map_append];rfl
end Go.F

namespace Go.F
attribute [local irreducible] IntKind.wrap wpM
theorem q3h {nx0:Nat}{h:q0e}{id n:Nat}{es:List D}(hh:h id=some (.row es n))(hp:es.all (plain 4)=true):q1h nx0 h id=some (.row es n):=by
 unfold q1h
 rw[hh,q7z (b:=some (.row es n)) hp]
 rfl
def qFp (n w:Nat)(g:Nat→Nat→Grd):List D:=(List.range n).map fun i=>qaD w (g i)
theorem q2R (n w:Nat)(g:Nat→Nat→Grd):(qFp n w g).all (plain 4)=true:=q05 (fun _=>rfl) _
def qrx (s:Sty)(T:List D)(ho:q0e)(zo:Frz):Prop:=ho 0=some (.row [s.enc] 7)∧zo 0=0∧ho 1=some (.row T 1)∧zo 1=0
theorem q4x {α:Type}{f:Nat→α}{i:Nat}{v:α}(hf:f i=v):upd f i v=f:=by
 funext k
 unfold upd
 cases hb:Nat.beq k i with
 |true=>rw[Nat.eq_of_beq_eq_true hb,hf];rfl
 |false=>rfl
theorem ql4 {s:Sty}{T:List D}{ho:q0e}{zo:Frz}(h:qrx s T ho zo):∃(h0:q0e) (z0:Frz),ho=upd (upd h0 0 (some (.row [s.enc] 7))) 1 (some (.row T 1))∧zo=upd (upd z0 0 0) 1 0:=
 ⟨ho,zo,by rw[q4x h.1,q4x h.2.2.1],by rw[q4x h.2.1,q4x h.2.2.2]⟩
set_option maxRecDepth 100000 in
set_option maxHeartbeats 8000000 in
theorem qJz (s:Sty)(n w:Nat)(g:Nat→Nat→Grd)(hn:n≤1000)(hw:w≤1000){h:q0e}{z:Frz}{K:D→q0e→Frz→Nat→Prop}(hold:qrx s (qFp n w g) h z)
 (hk:∀(h':q0e) (z':Frz),h' 141=some (.row ((q26 1 (o1 g) n w++q26 2 (o2 g) n w).map Iss.enc) 3)→z' 141=0→qrx s (qFp n w g) h' z'→K (.ref 141 0 (q26 1 (o1 g) n w++q26 2 (o2 g) n w).length) h' z' 143):
 wpM TT (shr TT 5) 75 [.code k_verify_outlines.code] .normal (enter [.ref 1 0 n]) h z 75 (qdr k_verify_outlines K):=by
 obtain⟨h0,z0,rfl,rfl⟩:=ql4 hold
 refine gg rfl (q2X (S:=fun i:Nat=>([.ref 75 0 (q26 1 (o1 g) i w).length,.ref 76 0 (q26 2 (o2 g) i w).length,.ref 1 0 n,q00 n,q00 i],[some (.row ((q26 1 (o1 g) i w).map Iss.enc) 3),some (.row ((q26 2 (o2 g) i w).map Iss.enc) 3),none,none,none],[0,0,0,0,0])) (O:=fun _ ho zo=>qrx s (qFp n w g) ho zo) (C:=fun i=>i≤n) (m:=fun i=>n-i) 0 (Nat.zero_le _) (by omega) ?_ ?_)
 ·exact q24 rfl ⟨rfl,rfl,q2R _ _ _,trivial⟩ (⟨rfl,q3h hold.1 rfl,hold.2.1,q3h hold.2.2.1 (q2R _ _ _),hold.2.2.2⟩)
 intro i hi ho zo hold N hN
 obtain⟨h0,z0,rfl,rfl⟩:=ql4 hold
 refine gg rfl (q01 rfl (fun e=>?_) (fun e=>?_))
 ·rw[q06]at e
  have hlt:i<n:=by omega
  have w1:=wS (n:=i)
  have l1:=q4k 1 (o1 g) i w
  have l2:=q4k 2 (o2 g) i w
  have hiw:i*w≤1000*1000:=Nat.mul_le_mul (by omega) hw
  have ps1:=q52 1 (o1 g) i w
  have ps2:=q52 2 (o2 g) i w
  generalize q26 1 (o1 g) i w=A at*
  generalize q26 2 (o2 g) i w=B at*
  refine gg rfl (q0J i rfl hold.2.2.1 rfl rfl rfl hlt (gg rfl (q5P rfl hold.2.2.1 (by rw[Nat.zero_add];exact qk1 g hlt) rfl ?_)))
  refine gg rfl ?_
  rw[List.length_map,List.length_map,List.length_range]
  refine q2X (S:=fun z:Nat=>([.ref 75 0 (A++q6h 1 (o1 g) i z).length,.ref 76 0 (B++q6h 2 (o2 g) i z).length,q00 i,.ref 1 0 n,q00 n,q00 i,qaD w (g i),q00 w,q00 z],[some (.row ((A++q6h 1 (o1 g) i z).map Iss.enc) 3),some (.row ((B++q6h 2 (o2 g) i z).map Iss.enc) 3),none,none,none,none,none,none,none],[0,0,0,0,0,0,0,0,0])) (O:=fun _ ho zo=>qrx s (qFp n w g) ho zo) (C:=fun z=>z≤w) (m:=fun z=>w-z) 0 (Nat.zero_le _) (by omega) ?_ ?_
  ·refine q24 rfl ⟨q05 q0S _,q05 q0S _,q2R _ _ _,trivial⟩ (⟨by simp[q6h,q00,qaD],⟨q3h hold.1 rfl,hold.2.1,q3h hold.2.2.1 (q2R _ _ _),hold.2.2.2⟩⟩)
  intro z hz ho2 zo2 hold2 N2 hN2
  obtain⟨h02,z02,rfl,rfl⟩:=ql4 hold2
  refine gg rfl (q01 rfl (fun f=>?_) (fun f=>?_))
  ·rw[q06]at f
   have hlz:z<w:=by omega
   have w2:=wS (n:=z)
   have r1:=row_step 1 (o1 g) i z
   have r2:=row_step 2 (o2 g) i z
   have k1:=qcr 1 (o1 g) i z
   have k2:=qcr 2 (o2 g) i z
   have hx:=qk0 (g i) hlz
   have e1:o1 g i z=!(g i z).outline:=rfl
   have e2:o2 g i z=((g i z).outline&&!(g i z).cut):=rfl
   generalize g i z=G at*
   generalize q6h 1 (o1 g) i z=A2 at*
   generalize q6h 2 (o2 g) i z=B2 at*
   refine gg rfl (q0j z rfl rfl rfl hx rfl ?_)
   cases ho:G.outline with
   |false=>
    rw[ho]at e1 e2
    refine gg rfl ?_
    rw[ho]
    refine q0d rfl (gg rfl (q1g rfl rfl rfl rfl rfl rfl (by simp) (Nat.zero_le _) (by simp[q0N];omega) ?_))
    refine gg rfl (q04 (hN2 (z+1) (by omega) (by omega) (q24 rfl ⟨?_,q05 q0S _,q2R _ _ _,trivial⟩ ?_)))
    ·rw[List.all_append,q05 q0S];rfl
    refine⟨?_,⟨q3h hold2.1 rfl,hold2.2.1,q3h hold2.2.2.1 (q2R _ _ _),hold2.2.2.2⟩⟩
    rw[r1,r2,e1,e2,w2]
    simp[q00,Iss.enc,qaD]
    omega
   |true=>
    rw[ho]at e1 e2
    refine gg rfl ?_
    rw[ho]
    refine q0i rfl ?_
    cases hcu:G.cut with
    |false=>
     rw[hcu]at e2
     refine gg rfl (q0d rfl (gg rfl (q1g rfl rfl rfl rfl rfl rfl (by simp) (Nat.zero_le _) (by simp[q0N];omega) ?_)))
     refine gg rfl (q04 (hN2 (z+1) (by omega) (by omega) (q24 rfl ⟨q05 q0S _,?_,q2R _ _ _,trivial⟩ ?_)))
     ·rw[List.all_append,q05 q0S];rfl
     refine⟨?_,⟨q3h hold2.1 rfl,hold2.2.1,q3h hold2.2.2.1 (q2R _ _ _),hold2.2.2.2⟩⟩
     rw[r1,r2,e1,e2,w2]
     simp[q00,Iss.enc,qaD]
     omega
    |true=>
     rw[hcu]at e2
     refine gg rfl (q0i rfl (gg rfl (q04 (hN2 (z+1) (by omega) (by omega) (q24 rfl ⟨q05 q0S _,q05 q0S _,q2R _ _ _,trivial⟩ ?_)))))
     refine⟨?_,⟨q3h hold2.1 rfl,hold2.2.1,q3h hold2.2.2.1 (q2R _ _ _),hold2.2.2.2⟩⟩
     rw[r1,r2,e1,e2,w2]
     simp[q00,qaD]
  rw[q07]at f
  obtain rfl:z=w:=by omega
  clear hN2
  refine gg rfl (q04 (gg rfl (q04 (hN (i+1) (by omega) (by omega) (q24 rfl ⟨q05 q0S _,q05 q0S _,q2R _ _ _,trivial⟩ ?_)))))
  refine⟨?_,⟨q3h hold2.1 rfl,hold2.2.1,q3h hold2.2.2.1 (q2R _ _ _),hold2.2.2.2⟩⟩
  rw[ps1,ps2,w1];rfl
 rw[q07]at e
 obtain rfl:i=n:=by omega
 have l1:=q4k 1 (o1 g) i w
 have l2:=q4k 2 (o2 g) i w
 have hiw:i*w≤1000*1000:=Nat.mul_le_mul (by omega) hw
 clear hN
 refine gg rfl (q04 (gg rfl (q1g rfl rfl rfl rfl (by simp) (q1k (n:=3) (fun _=>rfl) _) (by simp) (Nat.zero_le _) (by simp[q0N];omega) ?_)))
 refine gg rfl (qds rfl rfl ?_)
 have hK:=hk (upd (upd (mkF 75 (upd (upd h0 0 (some (.row [s.enc] 7))) 1 (some (.row (qFp i w g) 1))) none [some (.row ((q26 1 (o1 g) i w).map Iss.enc) 3),some (.row ((q26 2 (o2 g) i w).map Iss.enc) 3),none,none,none] 75) 75 none) 141 (some (.row ((q26 1 (o1 g) i w).map Iss.enc++(q26 2 (o2 g) i w).map Iss.enc) 3))) (upd (mkF 75 (upd (upd z0 0 0) 1 0) 0 [0,0,0,0,0] 75) 141 0) (by rw[List.map_append];rfl) rfl hold
 rw[List.length_append]at hK
 exact hK
end Go.F

namespace Go.F
section
variable {t:q0z}{h:q0e}{z:Frz}{nx:Nat}
theorem qvK (t:q0z)(h:q0e)(live0:Live)(x k:Nat):q1W t h (live0++[(x,k)])=q1W t h live0++[q2i (look t h x)]:=by
 unfold q1W
 rw[List.map_append];rfl
theorem qjm (ids:List (Option Nat))(h:q0e)(t:q0z)(x k:Nat)(hx:q6U x=true):∀live0:Live,q3H 0 ids h t (live0++[(x,k)])=(q3H 0 ids h t live0&&(match q2i (look t h x)with|none=>true|some id=>q2B 0 ids (h id)))
 |[]=>by
  simp only[List.nil_append,q3H,hx,Bool.and_true,Bool.true_and]
  rfl
 |y::l=>by
  rw[List.cons_append,q3H,q3H,qjm ids h t x k hx l,Bool.and_assoc]
theorem qCO {live0:Live}{x:Nat}{t1:q0z}{h1:q0e}{z1:Frz}{nx1:Nat}(d:D){ids0:List (Option Nat)}{vs:List D}{bs:List (Option Blk)}{zs:List Nat}
 (hx:q6U x=true) (hn:q4V (live0++[(x,0)]) ⟨t,h,z,nx⟩=⟨t1,h1,z1,nx1⟩) (hlook:look t1 h1 x=d) (hi:q1W t1 h1 live0=ids0)
 (ho:q3H 0 (ids0++[q2i d]) h1 t1 live0=true) (ho2:(match q2i d with|none=>true|some id=>q2B 0 (ids0++[q2i d]) (h1 id))=true)
 (hv:qf2 0 (ids0++[q2i d]) t1 (live0++[(x,0)])=vs) (hb:q7F 0 (ids0++[q2i d]) none (fun i=>q7A 0 (ids0++[q2i d]) (h1 i)) (ids0++[q2i d]) 0=bs) (hz:q7F 0 (ids0++[q2i d]) 0 z1 (ids0++[q2i d]) 0=zs)
 (hnst:q5e (live0++[(x,0)])=true:=by rfl):q15 0 (live0++[(x,0)]) t h z nx fun _ _ kp=>kp=(vs,bs,zs):=by
 subst hlook
 subst hi
 refine qCM (s1:=⟨t1,h1,z1,nx1⟩) hn (qvK _ _ _ _ _) ?_ hv hb hz rfl hnst
 rw[qjm _ _ _ _ _ hx,ho]
 exact ho2
theorem qMe {live:Live}{s1 s2:St}{ids ids2:List (Option Nat)}{vs:List D}{bs:List (Option Blk)}{zs:List Nat}
 (hn:q4V live ⟨t,h,z,nx⟩=s1) (hi:q1W s1.tmps s1.heap live=ids) (hp:q4l 0 ids live s1=some s2) (hi2:q1W s2.tmps s2.heap live=ids2) (ho:q3H 0 ids2 s2.heap s2.tmps live=true)
 (hv:qf2 0 ids2 s2.tmps live=vs) (hb:q7F 0 ids2 none (fun i=>q7A 0 ids2 (s2.heap i)) ids2 0=bs) (hz:q7F 0 ids2 0 s2.frz ids2 0=zs)
 (hnst:q5e live=true:=by rfl):q15 0 live t h z nx fun _ _ kp=>kp=(vs,bs,zs):=by
 unfold q15
 rw[hnst]
 simp only
 refine⟨s2.heap,s2.frz,(vs,bs,zs),rfl,?_⟩
 unfold qa7
 rw[hn,hi,hp]
 simp only
 unfold qtH
 rw[hi2,ho]
 simp only
 rw[qfH,hv,q69 _ _ (Nat.le_refl _),q69 _ _ (Nat.le_refl _),hb,hz]
theorem qIz {ids:List (Option Nat)}{x id esz:Nat}{s:St}{es es':List D}(hid:q2i (look s.tmps s.heap x)=some id)(hh:s.heap id=some (.row es esz))(hb:es.all (okD 0 ids)=false)(hm:es.mapM (qCp s.heap depth)=some es'):
 q4W 0 ids x s=some ⟨s.tmps,upd s.heap id (some (.row es' esz)),q99 s.heap s.frz (es.flatMap (q0T s.heap depth)),s.next⟩:=by
 unfold q4W
 rw[hid]
 simp only
 rw[hh]
 simp only
 rw[hb,hm]
end
theorem plain6 {ids:List (Option Nat)}{a b c d e f:Nat}{s s2:St}(h1:q4W 0 ids a s=some s)(h2:q4W 0 ids b s=some s2)(h3:q4W 0 ids c s2=some s2)(h4:q4W 0 ids d s2=some s2)(h5:q4W 0 ids e s2=some s2)(h6:q4W 0 ids f s2=some s2):
 q4l 0 ids [(a,0),(b,0),(c,0),(d,0),(e,0),(f,0)] s=some s2:=by
 simp only[q4l,h1,h2,h3,h4,h5,h6]
theorem qH8:∀(l:List D) (i:Nat),nth l i=l.getD i .bad
 |[],_=>by simp[nth]
 |d::l,0=>rfl
 |d::l,i+1=>by rw[nth,qH8 l i];rfl
theorem qH9 {α:Type}{g:D→Option D}{f f':α→D}:∀{l:List α},(∀x∈l,g (f x)=some (f' x))→(l.map f).mapM g=some (l.map f')
 |[],_=>rfl
 |x::l,h=>by
  rw[List.map_cons,List.mapM_cons,h x (List.mem_cons_self ..),qH9 fun y hy=>h y (List.mem_cons_of_mem _ hy)]
  rfl
end Go.F

namespace Go.F
attribute [local irreducible] IntKind.wrap wpM
theorem qJV {t t1:q0z}{h h1:q0e}{z z1:Frz}{nx:Nat}{live:Live}{rows:List (List D)}{vs:List D}{bs:List (Option Blk)}{zs:List Nat}{K:Kept→Prop}(hn:qdi live t h z nx=(t1,h1,z1))(hr:qnb t1 h1 live=some rows)(hp:qfR rows)
 (hv:qaz 0 (q0E t1 live) t1 live=vs) (hb:qaA 0 (q0E t1 live) h1 (q0E t1 live) 0=bs) (hz:qje 0 (q0E t1 live) z1 (q0E t1 live) 0=zs) (hk:K (vs,bs,zs)) (hnst:q5e live=false:=by rfl):q15 0 live t h z nx fun _ _ kp=>K kp:=by
 unfold q15
 simp only[hnst]
 unfold q7C
 refine qjP _ _ _ _ _ _ fun nx'=>?_
 rw[hn]
 refine qrj hr hp ?_
 rw[q77,q78,hv,hb,hz]
 exact hk
def o5 (s:Sty)(i z:Nat):Bool:=decide (1≤z)&&(decide (mz s (z-1)<mz s z)&&((ql8 s i (z-1)).outline&&((ql8 s i z).outline&&decide ((ql8 s i z).area<(ql8 s i (z-1)).area))))
def qK4 (s:Sty):List Iss:=
 q26 1 (o1 (ql8 s)) s.pieces.length s.mults.length++q26 2 (o2 (ql8 s)) s.pieces.length s.mults.length++
 (q26 3 (o3 s) s.seams.length s.mults.length++q26 4 (o4 s) s.seams.length s.mults.length)++
 q26 5 (o5 s) s.pieces.length s.mults.length++q26 6 (o6 s) s.pieces.length s.mults.length
def qK2 (s:Sty):List Iss×Int:=if q3f s≠0 then([],q3f s)else(qK4 s,0)
def cellS (s:Sty)(a:Nat)(d:D)(i:Nat):D:=if i<a then qaD s.mults.length (ql8 s i)else if i=a then d else .nilsl
def qK1 (s:Sty)(a:Nat)(d:D):List D:=(List.range s.pieces.length).map (cellS s a d)
def qKa (s:Sty)(a b:Nat):List D:=((List.range b).map (ql8 s a)).map Grd.enc
def dB:Nat→D
 |0=> .nilsl
 |b+1=> .ref 10 0 (b+1)
def blkB (s:Sty)(a:Nat):Nat→Option Blk
 |0=>none
 |b+1=>some (.row (qKa s a (b+1)) 3)
theorem qM5 (s:Sty)(i:Nat):q6h 5 (o5 s) i 1=[]:=by
 rw[row_step]
 have:o5 s i 0=false:=rfl
 rw[this];rfl
theorem qLi (s:Sty)(a:Nat)(d d':D):(qK1 s a d).set a d'=qK1 s a d':=by
 unfold qK1
 apply List.ext_getElem
 ·simp
 intro i h1 h2
 rw[List.getElem_set]
 simp only[List.getElem_map,List.getElem_range,cellS]
 split
 ·rename_i e;subst e;rw[if_neg (by omega),if_pos rfl]
 rename_i e;by_cases hi:i<a
 ·rw[if_pos hi,if_pos hi]
 rw[if_neg hi,if_neg hi,if_neg (fun h=>e h.symm),if_neg (fun h=>e h.symm)]
theorem qK8 {s:Sty}{a:Nat}(d:D)(h:a<s.pieces.length):(qK1 s a d)[a]?=some d:=by
 simp[qK1,h,cellS]
theorem qKy (s:Sty)(a:Nat)(d:D)(ids:List (Option Nat))(h:okD 0 ids d=true):(qK1 s a d).all (okD 0 ids)=true:=by
 unfold qK1
 rw[List.all_map,List.all_eq_true]
 intro i _
 simp only[Function.comp,cellS]
 split
 ·rfl
 split
 ·exact h
 rfl
theorem qM6 {s:Sty}{a:Nat}{d:D}{ids:List (Option Nat)}(ha:a<s.pieces.length)(h:okD 0 ids d=false):(qK1 s a d).all (okD 0 ids)=false:=by
 rw[List.all_eq_false]
 exact⟨d,List.mem_of_getElem? (qK8 d ha),by rw[h];decide⟩
theorem qKp (s:Sty)(a:Nat)(d:D)(ids:List (Option Nat)):(qK1 s a d).map (qxu 0 ids)=qK1 s a (qxu 0 ids d):=by
 unfold qK1
 rw[List.map_map]
 apply List.map_congr_left
 intro i _
 simp only[Function.comp,cellS]
 split
 ·rfl
 split
 ·rfl
 rfl
theorem qLQ (s:Sty)(a:Nat):qK1 s a (qaD s.mults.length (ql8 s a))=qK1 s (a+1) .nilsl:=by
 unfold qK1
 apply List.map_congr_left
 intro i _
 simp only[cellS]
 by_cases h1:i<a
 ·rw[if_pos h1,if_pos (by omega)]
 rw[if_neg h1]
 by_cases h2:i=a
 ·subst h2;rw[if_pos rfl,if_pos (by omega)]
 rw[if_neg h2,if_neg (by omega)];split<;>rfl
theorem qLR {s:Sty}{a:Nat}{d d':D}{h:q0e}(hd:qCp h depth d=some d'):(qK1 s a d).mapM (qCp h depth)=some (qK1 s a d'):=by
 unfold qK1
 refine qH9 fun i _=>?_
 simp only[cellS]
 split
 ·rfl
 split
 ·exact hd
 rfl
theorem qLS {h:q0e}{id len sz:Nat}{es:List D}(hh:h id=some (.row es sz))(hl:len=es.length)(hd:es.all (dat 4)=true):qCp h depth (.ref id 0 len)=some (.lst es):=qF0 (n:=11) hh hl hd (by decide)
theorem qM7 {α:Type}{f:Nat→List α}{a:Nat}{x:α}(h0:∀i,i≠a→f i=[])(h1:f a=[x]):∀n,a<n→(List.range n).flatMap f=[x]:=by
 have zero:∀n,n≤a→(List.range n).flatMap f=[]:=by
  intro n hn
  rw[List.flatMap_eq_nil_iff]
  intro i hi
  rw[List.mem_range]at hi
  exact h0 i (by omega)
 intro n
 induction n with
 |zero=>intro h;omega
 |succ n ih=>
  intro h
  rw[List.range_succ,List.flatMap_append,List.flatMap_cons,List.flatMap_nil,List.append_nil]
  by_cases e:n=a
  ·subst e;rw[zero n (Nat.le_refl _),h1];rfl
  rw[ih (by omega),h0 n e,List.append_nil]
theorem qLy {s:Sty}{a id len sz:Nat}{h:q0e}{es:List D}(ha:a<s.pieces.length)(hh:h id=some (.row es sz))(hd:es.all (dat 4)=true):(qK1 s a (.ref id 0 len)).flatMap (q0T h depth)=[id]:=by
 unfold qK1
 rw[List.flatMap_map]
 refine qM7 (a:=a) (fun i hi=>?_) ?_ _ ha
 ·simp only[cellS]
  split
  ·rfl
  first|rfl|(rw[if_neg hi];rfl)
 have e:cellS s a (.ref id 0 len) a=.ref id 0 len:=by unfold cellS;rw[if_neg (by omega),if_pos rfl]
 rw[e]
 exact qBI (n:=11) hh hd
theorem qM8 (s:Sty):qK1 s s.pieces.length .nilsl=(List.range s.pieces.length).map fun i=>qaD s.mults.length (ql8 s i):=by
 unfold qK1
 apply List.map_congr_left
 intro i hi
 rw[List.mem_range]at hi
 simp only[cellS,if_pos hi]
theorem qKr (s:Sty)(a b:Nat):qKa s a (b+1)=qKa s a b++[(ql8 s a b).enc]:=by
 unfold qKa
 rw[List.range_succ,List.map_append,List.map_append];rfl
theorem qKR (s:Sty)(a b:Nat):(qKa s a b).length=b:=by simp[qKa]
theorem qLj (s:Sty)(a b:Nat):(qKa s a b).all (dat 4)=true:=q0L qMi _
theorem qLk (s:Sty)(a b:Nat)(ids:List (Option Nat)):(qKa s a b).all (okD 0 ids)=true:=by
 unfold qKa
 rw[List.all_map,List.all_eq_true]
 intro x _;rfl
theorem qLl (s:Sty)(a b:Nat)(ids:List (Option Nat)):(qKa s a b).map (qxu 0 ids)=qKa s a b:=by
 unfold qKa
 rw[List.map_map]
 apply List.map_congr_left
 intro x _;rfl
set_option maxRecDepth 100000 in
set_option maxHeartbeats 16000000 in
theorem qJZ (s:Sty)(hB:StyB s):PU qFB [s.enc]=some (.tup [qrz (qK2 s).1,.int .i64 (qK2 s).2]):=by
 refine q0g (fn:=qnl) rfl (q0a ?_)
 refine gg rfl (q02 rfl rfl (q9v s hB) (gg rfl (q01 rfl (fun g=>?_) (fun g=>?_))))
 ·rw[q0w]at g
  refine gg rfl (q09 rfl rfl rfl trivial ?_)
  rw[qK2,if_pos g];rfl
 have h:q3f s=0:=q0B.1 g
 rw[qK2,if_neg (by simp[h])]
 have hok:=qjM h
 have hp12:=hok.pieces
 have hm12:s.mults.length≤12:=by have:=hok.mults;have:=hok.sizes;omega
 have hm1:0<s.mults.length:=by have:=hok.mults;have:=hok.size;omega
 refine gg rfl ?_
 rw[List.length_map]
 refine q48 s.pieces.length rfl rfl rfl (by simp[q0N];omega) ?_
 have ez:List.replicate s.pieces.length D.nilsl=qK1 s 0 .nilsl:=by
  unfold qK1
  apply List.ext_getElem
  ·simp
  intro i h1 h2;simp[cellS]
 show wpM _ _ _ _ _ _ (upd _ _ (some (.row (List.replicate s.pieces.length D.nilsl) 1))) _ _ _
 rw[ez]
 refine gg rfl ?_
 rw[List.length_map]
 refine q0l (S:=fun a:Nat=>([.ptr 0 0 0,.ref 1 0 s.pieces.length,Go.F.pieces s.pieces,q00 s.pieces.length,q00 a,.bad],[some (.row [s.enc] 7),some (.row (qK1 s a .nilsl) 1),none,none,none,none],[0,0,0,0,0,0])) (C:=fun a=>a≤s.pieces.length) (m:=fun a=>s.pieces.length-a) 0 (Nat.zero_le _) (by omega) ?_ ?_
 ·refine qCN rfl rfl ?_ rfl ?_ rfl
  ·show((qK1 s 0 .nilsl).all (okD 0 _)&&true)=true
   rw[qKy _ _ _ _ rfl];rfl
  exact congrArg (fun r:List D=>([some (.row [s.enc] 7),some (.row r 1),none,none,none,none]:List (Option Blk))) (qKp _ _ _ _)
 intro a ha N hN
 refine gg rfl (q01 rfl (fun e=>?_) (fun e=>?_))
 ·rw[q06]at e
  have hlt:a<s.pieces.length:=by omega
  have w1:=wS (n:=a)
  have hx:=q4N hlt
  refine gg rfl (q0j a rfl rfl rfl hx rfl (gg rfl ?_))
  rw[List.length_map]
  refine q0l (S:=fun b:Nat=>([.ptr 0 0 0,.ref 1 0 s.pieces.length,q00 a,.ptr 3 0 0,Go.F.pieces s.pieces,q00 s.pieces.length,q00 a,ints s.mults,q00 s.mults.length,q00 b,.bad],[some (.row [s.enc] 7),some (.row (qK1 s a (dB b)) 1),none,some (.row [(pc s.pieces a).enc] 7),none,none,none,none,none,none,blkB s a b],[0,0,0,0,0,0,0,0,0,0,0])) (C:=fun b=>b≤s.mults.length) (m:=fun b=>s.mults.length-b) 0 (Nat.zero_le _) (by omega) ?_ ?_
  ·refine qCO (live0:=[(1,0),(5,0),(6,0),(7,0),(24,0),(25,0),(26,0),(32,0),(33,0),(34,0)]) (x:=7340037) .nilsl rfl rfl ?_ rfl ?_ rfl rfl ?_ rfl
   ·show nth (qK1 s a .nilsl) (0+a)=_
    rw[qH8,Nat.zero_add a,List.getD_eq_getElem?_getD,qK8 _ hlt];rfl
   ·show((qK1 s a .nilsl).all (okD 0 _)&&true)=true
    rw[qKy _ _ _ _ rfl];rfl
   exact congrArg (fun r:List D=>([some (.row [s.enc] 7),some (.row r 1),none,some (.row [(pc s.pieces a).enc] 7),none,none,none,none,none,none,none]:List (Option Blk))) (qKp _ _ _ _)
  intro b hb N2 hN2
  refine gg rfl (q01 rfl (fun f=>?_) (fun f=>?_))
  ·rw[q06]at f
   have hlb:b<s.mults.length:=by omega
   have w2:=wS (n:=b)
   have hex:=qJT (pc s.pieces a) (mz s b) (by have:=(qrD h hlt).2.2;omega)
   have hmb:(s.mults.map q00)[b]?=some (.int .i64 (mz s b)):=q7Z hlb
   refine gg rfl (q0j b rfl rfl rfl hmb rfl (gg rfl (q0J a rfl rfl rfl rfl rfl hlt (gg rfl ?_))))
   cases b with
   |zero=>
    refine q5P rfl rfl (by rw[Nat.zero_add];exact qK8 _ hlt) rfl ?_
    refine gg rfl (q02 rfl rfl hex (gg rfl (qLL rfl rfl rfl rfl rfl (by simp[q0N]) ?_)))
    refine gg rfl ?_
    rw[Nat.zero_add]
    refine q0J a rfl rfl rfl rfl rfl hlt (gg rfl ?_)
    rw[Nat.zero_add]
    refine qzv rfl rfl rfl (Nat.zero_le _) (qK8 _ hlt) rfl ?_
    rw[qLi]
    refine gg rfl (q04 (hN2 ((0)+1) hlb (by omega) ?_))
    rw[←w2]
    refine qCO (live0:=[(1,0),(5,0),(6,0),(7,0),(24,0),(25,0),(26,0),(32,0),(33,0),(34,0)]) (x:=7340037) (.ref 65 0 ((0)+1)) rfl rfl ?_ rfl ?_ ?_ rfl ?_ rfl
    ·show nth (qK1 s a (.ref 65 0 ((0)+1))) (0+a)=_
     rw[qH8,Nat.zero_add a,List.getD_eq_getElem?_getD,qK8 _ hlt];rfl
    ·show((qK1 s a (.ref 65 0 ((0)+1))).all (okD 0 _)&&true)=true
     rw[qKy _ _ _ _ rfl];rfl
    ·show(qKa s a (0)++[(ql8 s a (0)).enc]).all (okD 0 _)=true
     rw[←qKr,qLk]
    have hq:∀ids,(qKa s a (0)++[(ql8 s a (0)).enc]).map (qxu 0 ids)=qKa s a ((0)+1):=fun ids=>by rw[←qKr,qLl]
    exact(congrArg (fun r:List D=>([some (.row [s.enc] 7),some (.row r 1),none,some (.row [(pc s.pieces a).enc] 7),none,none,none,none,none,none,some (.row ((qKa s a (0)++[(ql8 s a (0)).enc]).map (qxu 0 [some 0,some 1,none,some 3,none,none,none,none,none,none,some 65])) 3)]:List (Option Blk))) (qKp _ _ _ _)).trans (congrArg (fun r:List D=>([some (.row [s.enc] 7),some (.row (qK1 s a (.ref 10 0 ((0)+1))) 1),none,some (.row [(pc s.pieces a).enc] 7),none,none,none,none,none,none,some (.row r 3)]:List (Option Blk))) (hq _))
   |succ b=>
    refine q5P rfl rfl (by rw[Nat.zero_add];exact qK8 _ hlt) rfl ?_
    refine gg rfl (q02 rfl rfl hex (gg rfl (q1g rfl rfl rfl rfl rfl rfl (by simp[qKR]) (Nat.zero_le _) (by simp[q0N,qKR];omega) ?_)))
    refine gg rfl ?_
    rw[Nat.zero_add]
    refine q0J a rfl rfl rfl rfl rfl hlt (gg rfl ?_)
    rw[Nat.zero_add]
    refine qzv rfl rfl rfl (Nat.zero_le _) (qK8 _ hlt) rfl ?_
    rw[qLi]
    refine gg rfl (q04 (hN2 ((b+1)+1) hlb (by omega) ?_))
    rw[←w2]
    refine qCO (live0:=[(1,0),(5,0),(6,0),(7,0),(24,0),(25,0),(26,0),(32,0),(33,0),(34,0)]) (x:=7340037) (.ref 65 0 ((b+1)+1)) rfl rfl ?_ rfl ?_ ?_ rfl ?_ rfl
    ·show nth (qK1 s a (.ref 65 0 ((b+1)+1))) (0+a)=_
     rw[qH8,Nat.zero_add a,List.getD_eq_getElem?_getD,qK8 _ hlt];rfl
    ·show((qK1 s a (.ref 65 0 ((b+1)+1))).all (okD 0 _)&&true)=true
     rw[qKy _ _ _ _ rfl];rfl
    ·show(qKa s a (b+1)++[(ql8 s a (b+1)).enc]).all (okD 0 _)=true
     rw[←qKr,qLk]
    have hq:∀ids,(qKa s a (b+1)++[(ql8 s a (b+1)).enc]).map (qxu 0 ids)=qKa s a ((b+1)+1):=fun ids=>by rw[←qKr,qLl]
    exact(congrArg (fun r:List D=>([some (.row [s.enc] 7),some (.row r 1),none,some (.row [(pc s.pieces a).enc] 7),none,none,none,none,none,none,some (.row ((qKa s a (b+1)++[(ql8 s a (b+1)).enc]).map (qxu 0 [some 0,some 1,none,some 3,none,none,none,none,none,none,some 65])) 3)]:List (Option Blk))) (qKp _ _ _ _)).trans (congrArg (fun r:List D=>([some (.row [s.enc] 7),some (.row (qK1 s a (.ref 10 0 ((b+1)+1))) 1),none,some (.row [(pc s.pieces a).enc] 7),none,none,none,none,none,none,some (.row r 3)]:List (Option Blk))) (hq _))
  rw[q07]at f
  obtain rfl:b=s.mults.length:=by omega
  clear hN2
  refine gg rfl (q04 (gg rfl (q04 (hN (a+1) hlt (by omega) ?_))))
  rw[←w1]
  obtain⟨w',hw'⟩:∃w',s.mults.length=w'+1:=⟨s.mults.length-1,by omega⟩
  have hnx:=qLQ s a
  have hd0:dB s.mults.length=.ref 10 0 s.mults.length:=by rw[hw'];rfl
  have hb0:blkB s a s.mults.length=some (.row (qKa s a s.mults.length) 3):=by rw[hw'];rfl
  rw[hd0,hb0]
  refine qMe rfl rfl (plain6 rfl (qIz rfl rfl (qM6 hlt rfl) (qLR (qLS rfl (qKR s a _).symm (qLj s a _)))) rfl rfl rfl rfl) rfl ?_ rfl ?_ ?_
  ·show((qK1 s a (.lst (qKa s a s.mults.length))).all (okD 0 _)&&true)=true
   rw[qKy _ _ _ _ rfl];rfl
  ·have hq:∀ids,(qK1 s a (.lst (qKa s a s.mults.length))).map (qxu 0 ids)=qK1 s (a+1) .nilsl:=fun ids=>by rw[qKp];exact hnx
   exact congrArg (fun r:List D=>([some (.row [s.enc] 7),some (.row r 1),none,none,none,none]:List (Option Blk))) (hq _)
  show q7F 0 _ 0 (q99 _ _ ((qK1 s a (.ref 10 0 s.mults.length)).flatMap (q0T _ depth))) _ 0=_
  rw[qLy (es:=qKa s a s.mults.length) (sz:=3) hlt rfl (qLj s a _)]
  rfl
 rw[q07]at e
 obtain rfl:a=s.pieces.length:=by omega
 clear hN
 have hsm:=qM4 s h
 have hun:=qLP s s.mults.length hm1 (by omega) (fun u hu=>⟨(hok.use u hu).1,(hok.use u hu).2.1⟩) (by have:=hok.uses;omega)
 have hq:qK1 s s.pieces.length .nilsl=qFp s.pieces.length s.mults.length (ql8 s):=qM8 s
 rw[hq]
 refine gg rfl (q04 (gg rfl (q6y rfl rfl (qJz s s.pieces.length s.mults.length (ql8 s) (by omega) (by omega) ⟨rfl,rfl,rfl,rfl⟩ ?_))))
 intro h' z' hr hz hold
 obtain⟨g0,g1,g2,g3⟩:=hold
 obtain⟨hh,rfl⟩:∃hh:q0e,h'=upd (upd (upd hh 0 (some (.row [s.enc] 7))) 1 (some (.row (qFp s.pieces.length s.mults.length (ql8 s)) 1))) 141 (some (.row ((q26 1 (o1 (ql8 s)) s.pieces.length s.mults.length++q26 2 (o2 (ql8 s)) s.pieces.length s.mults.length).map Iss.enc) 3)):=⟨h',by rw[q4x g0,q4x g2,q4x hr]⟩
 obtain⟨zz,rfl⟩:∃zz:Frz,z'=upd (upd (upd zz 0 0) 1 0) 141 0:=⟨z',by rw[q4x g1,q4x g3,q4x hz]⟩
 clear g0 g1 g2 g3 hr hz
 have q:∀(kd:Int) (P:Nat→Nat→Bool) (n:Nat),n≤24→(q26 kd P n s.mults.length).length≤24*12:=fun kd P n hn=>Nat.le_trans (q4k kd P n _) (Nat.mul_le_mul hn hm12)
 have q1:=q 1 (o1 (ql8 s)) s.pieces.length (by omega)
 have q2:=q 2 (o2 (ql8 s)) s.pieces.length (by omega)
 have q3:=q 3 (o3 s) s.seams.length hok.seams
 have q4:=q 4 (o4 s) s.seams.length hok.seams
 have q6:=q 6 (o6 s) s.pieces.length (by omega)
 unfold qK4
 generalize q26 6 (o6 s) s.pieces.length s.mults.length=L6 at*
 generalize hA1:q26 1 (o1 (ql8 s)) s.pieces.length s.mults.length++q26 2 (o2 (ql8 s)) s.pieces.length s.mults.length=A1 at*
 generalize hA2:q26 3 (o3 s) s.seams.length s.mults.length++q26 4 (o4 s) s.seams.length s.mults.length=A2 at*
 have hl1:A1.length≤600:=by rw[←hA1,List.length_append];omega
 have hl2:A2.length≤600:=by rw[←hA2,List.length_append];omega
 clear hA1 hA2 q1 q2 q3 q4
 refine gg rfl (qJg [1] rfl rfl ⟨q1n (by simp[qFp]) (q0L (fun _=>rfl) _),trivial⟩ (by rw[q1o (by simp[qFp])];exact hsm) rfl (by show([]++(q0T _ (11+1) (.ref 1 0 _)++[]))=_;rw[qBI rfl (q0L (fun _=>rfl) _)];rfl) ?_)
 refine gg rfl (qkZ rfl rfl rfl (q1k (n:=3) (fun _=>rfl) _) (by simp) (Nat.zero_le _) (by simp[q0N];omega) ?_)
 rw[←List.map_append]
 refine gg rfl ?_
 have hgl:(qFp s.pieces.length s.mults.length (ql8 s)).length=s.pieces.length:=by simp[qFp]
 refine q0l (S:=fun i:Nat=>([.ptr 0 0 0,.ref 1 0 (A1++A2++q26 5 (o5 s) i s.mults.length).length,.ref 2 0 s.pieces.length,q00 s.pieces.length,q00 i],[some (.row [s.enc] 7),some (.row ((A1++A2++q26 5 (o5 s) i s.mults.length).map Iss.enc) 3),some (.row (qFp s.pieces.length s.mults.length (ql8 s)) 1),none,none],[0,0,(qFp s.pieces.length s.mults.length (ql8 s)).length,0,0])) (C:=fun i=>i≤s.pieces.length) (m:=fun i=>s.pieces.length-i) 0 (Nat.zero_le _) (by omega) ?_ ?_
 ·refine qJV rfl rfl ⟨rfl,q05 q0S _,q2R _ _ _,trivial⟩ rfl rfl rfl ?_
  have e0:A1++A2++q26 5 (o5 s) 0 s.mults.length=A1++A2:=by simp[q26]
  rw[e0,show(A1++A2).length=A1.length+(A2.map Iss.enc).length by simp]
  rfl
 intro i hi N hN
 refine gg rfl (q01 rfl (fun e=>?_) (fun e=>?_))
 ·rw[q06]at e
  have hlt:i<s.pieces.length:=by omega
  have w1:=wS (n:=i)
  have l5:=q4k 5 (o5 s) i s.mults.length
  have hiw:i*s.mults.length≤12*12:=Nat.mul_le_mul (by omega) hm12
  have ps:=q52 5 (o5 s) i s.mults.length
  have r0:=qM5 s i
  generalize q26 5 (o5 s) i s.mults.length=A5 at*
  refine gg rfl ?_
  rw[Nat.zero_add]
  refine q0J i rfl rfl rfl rfl rfl hlt (gg rfl (q5P rfl rfl (by rw[Nat.zero_add];exact qk1 (ql8 s) hlt) rfl ?_))
  refine gg rfl (q0l (S:=fun z:Nat=>([.ptr 0 0 0,.ref 1 0 (A1++A2++A5++q6h 5 (o5 s) i z).length,q00 i,qaD s.mults.length (ql8 s i),q00 z,.ref 5 0 s.pieces.length,q00 s.pieces.length,q00 i],[some (.row [s.enc] 7),some (.row ((A1++A2++A5++q6h 5 (o5 s) i z).map Iss.enc) 3),none,none,none,some (.row (qFp s.pieces.length s.mults.length (ql8 s)) 1),none,none],[0,0,0,0,0,(qFp s.pieces.length s.mults.length (ql8 s)).length,0,0])) (C:=fun z=>1≤z∧z≤s.mults.length) (m:=fun z=>s.mults.length-z) 1 ⟨Nat.le_refl _,hm1⟩ (by omega) ?_ ?_)
  ·refine qJV rfl rfl ⟨rfl,q05 q0S _,q2R _ _ _,trivial⟩ rfl rfl rfl ?_
   rw[r0,List.append_nil]
   rfl
  rintro z ⟨hz1,hz⟩ N2 hN2
  refine gg rfl ?_
  rw[List.length_map,List.length_map,List.length_range]
  refine q01 rfl (fun f=>?_) (fun f=>?_)
  ·rw[q06]at f
   have hlz:z<s.mults.length:=by omega
   have w2:=wS (n:=z)
   have w3:IntKind.i64.wrap ((z:Int)-1)=((z-1:Nat):Int):=by rw[wrap64 (by omega) (by omega)];omega
   have k5:=qcr 5 (o5 s) i z
   have rs:=row_step 5 (o5 s) i z
   have eo:o5 s i z=(decide (mz s (z-1)<mz s z)&&((ql8 s i (z-1)).outline&&((ql8 s i z).outline&&decide ((ql8 s i z).area<(ql8 s i (z-1)).area)))):=by unfold o5;rw[decide_eq_true hz1,Bool.true_and]
   have m1:(s.mults.map q00)[z]?=some (.int .i64 (mz s z)):=q7Z hlz
   have m2:(s.mults.map q00)[z-1]?=some (.int .i64 (mz s (z-1))):=q7Z (by omega)
   have g1:=qk0 (ql8 s i) hlz
   have g2:=qk0 (w:=s.mults.length) (z:=z-1) (ql8 s i) (by omega)
   have hsh:=qJU (ql8 s i (z-1)) (ql8 s i z)
   generalize ((ql8 s i (z-1)).outline&&((ql8 s i z).outline&&decide ((ql8 s i z).area<(ql8 s i (z-1)).area)))=b at*
   generalize ql8 s i (z-1)=G1 at*
   generalize hG2:ql8 s i z=G2 at*
   generalize mz s (z-1)=M1 at*
   generalize mz s z=M2 at*
   generalize q6h 5 (o5 s) i z=R5 at*
   refine gg rfl (q0j z rfl rfl rfl m1 rfl (gg rfl ?_))
   rw[w3]
   refine q0j (z-1) rfl rfl rfl m2 rfl (gg rfl (q08 rfl (fun c=>?_) (fun c=>?_)))
   ·rw[q06]at c
    rw[decide_eq_true c,Bool.true_and]at eo
    refine gg rfl ?_
    rw[w3]
    refine q0j (z-1) rfl rfl rfl g2 rfl (gg rfl (q0j z rfl rfl rfl g1 rfl (gg rfl (q02 rfl rfl hsh ?_))))
    cases b with
    |false=>
     have e5:q6h 5 (o5 s) i (z+1)=R5:=by rw[rs,eo];simp
     refine gg rfl (q0i rfl (gg rfl (q04 (hN2 (z+1) ⟨by omega,by omega⟩ (by omega) (qJV rfl rfl ⟨rfl,q05 q0S _,q2R _ _ _,trivial⟩ rfl rfl rfl ?_)))))
     rw[e5,←w2];rfl
    |true=>
     have e5:A1++A2++A5++q6h 5 (o5 s) i (z+1)=A1++A2++A5++R5++[⟨5,(i:Nat),(z:Nat)⟩]:=by rw[rs,eo];simp
     refine gg rfl (q0d rfl (gg rfl (q1g rfl rfl rfl rfl rfl rfl (by simp) (Nat.zero_le _) (by simp[q0N];omega) ?_)))
     refine gg rfl (q04 (hN2 (z+1) ⟨by omega,by omega⟩ (by omega) (qJV rfl rfl ⟨rfl,?_,q2R _ _ _,trivial⟩ rfl rfl rfl ?_)))
     ·rw[List.all_append,q05 q0S];rfl
     rw[e5,←w2]
     generalize A1++A2++A5++R5=B
     have e6:(B++[(⟨5,(i:Nat),(z:Nat)⟩:Iss)]).length=B.length+1:=by simp
     rw[e6,List.map_append];rfl
   rw[q07]at c
   rw[decide_eq_false (by omega),Bool.false_and]at eo
   have e5:q6h 5 (o5 s) i (z+1)=R5:=by rw[rs,eo];simp
   refine gg rfl (q0i rfl (gg rfl (q04 (hN2 (z+1) ⟨by omega,by omega⟩ (by omega) (qJV rfl rfl ⟨rfl,q05 q0S _,q2R _ _ _,trivial⟩ rfl rfl rfl ?_)))))
   rw[e5,←w2];rfl
  rw[q07]at f
  obtain rfl:z=s.mults.length:=by omega
  clear hN2
  refine gg rfl (q04 (gg rfl (q04 (hN (i+1) (by omega) (by omega) (qJV rfl rfl ⟨rfl,q05 q0S _,q2R _ _ _,trivial⟩ rfl rfl rfl ?_)))))
  rw[ps,←List.append_assoc,←w1];rfl
 rw[q07]at e
 obtain rfl:i=s.pieces.length:=by omega
 have l5:=q4k 5 (o5 s) s.pieces.length s.mults.length
 have hiw:s.pieces.length*s.mults.length≤12*12:=Nat.mul_le_mul hp12 hm12
 clear hN
 generalize q26 5 (o5 s) s.pieces.length s.mults.length=A5 at*
 refine gg rfl (q04 (gg rfl (q02 rfl rfl hun (gg rfl (qkZ rfl rfl rfl (q1k (n:=3) (fun _=>rfl) _) (by simp) (Nat.zero_le _) (by simp[q0N];omega) ?_)))))
 refine gg rfl (q09 rfl rfl rfl ⟨q1n (by simp[Nat.add_assoc]) ?_,trivial⟩ ?_)
 ·rw[List.all_append,q0L qfV,q0L qfV];rfl
 rw[q1o (by simp[Nat.add_assoc]),←List.map_append];rfl
end Go.F

namespace Go.F
theorem qKP (s:Sty)(hp:s.pieces.length≤1000)(hs:s.seams.length≤1000)(hm:s.mults.length≤1000):(qK4 s).length≤6000000:=by
 have p:∀(kd:Int) (P:Nat→Nat→Bool) (n:Nat),n≤1000→(q26 kd P n s.mults.length).length≤1000000:=fun kd P n hn=>Nat.le_trans (q4k kd P n _) (Nat.mul_le_mul hn hm)
 unfold qK4
 simp only[List.length_append]
 have h1:=p 1 (o1 (ql8 s)) _ hp
 have h2:=p 2 (o2 (ql8 s)) _ hp
 have h3:=p 3 (o3 s) _ hs
 have h4:=p 4 (o4 s) _ hs
 have h5:=p 5 (o5 s) _ hp
 have h6:=p 6 (o6 s) _ hp
 omega
end Go.F

namespace Go.F
theorem qCA {f:FuncId}{fn:KFn}{args:List D}{Q:D→Prop}(hf:tab f=some fn)(hw:wp TT (shr TT 6) 0 fn.code (enter args) empty qgU 0 (qdr fn fun d h _ _=>ws2 h d Q)):∃r,Q r∧PU f args=some r:=by
 obtain⟨F,cd,h1,h2,h3⟩:=tt_ok.tab f fn hf
 obtain⟨d,h',z',nx',q1,e1⟩:=qeX tt_ok (qtP tt_ok 6) h2 h3 hw
 obtain⟨d',h4,h5⟩:=qCy q1
 refine⟨d',h5,qvA (e1.up.mono fun M hM=>?_)⟩
 obtain⟨M',rfl,hM'⟩:=hM
 simp only[EM,env,h1,h2]
 have hM2:body prog (env prog q7r qnI M') (qnI f) F cd args empty qgU 0=some (d,h',z',nx'):=hM'
 rw[hM2]
 exact h4
theorem qGW {f:FuncId}{fn:KFn}{args:List D}{R:Prop}(hf:tab f=some fn)
 (hw:wpM TT (shr TT 6) 0 [.code fn.code] .normal (enter args) empty qgU 0 (qdr fn fun d h _ _=>ws2 h d fun d=>∃b:Bool,d=.bool b∧(b=true→R))):∃b:Bool,PU f args=some (.bool b)∧(b=true→R):=by
 simp only[wpM]at hw
 obtain⟨r,⟨b,rfl,hb⟩,h2⟩:=qCA hf hw
 exact⟨b,h2,hb⟩
attribute [local irreducible] IntKind.wrap wpM
section
variable {T:Tab}{sh:Shr}{nx0:Nat}{t:q0z}{h:q0e}{z:Frz}{nx:Nat}
theorem q5x {fn:KFn}{ex:Ex}{Q:D→Prop}{d d':D}{rows:List (List D×Nat×Nat)}(hex:(match ex with|.exit _=>false|_=>true)=true)(hd:dres t h fn.res=some d)(hs:dr2 h d=some (rows,d'))(hr:q4u rows)(he:Q d'):
 wpM T sh nx0 [] ex t h z nx (qdr fn fun d h _ _=>ws2 h d Q):=by
 refine q04 ?_
 cases ex with
 |exit i=>cases hex
 |normal=>exact q79 hd (qfS hs hr he)
 |ret=>exact q79 hd (qfS hs hr he)
end
structure PcL (p:Piece):Prop where
 edges:p.edges.length≤20
 corners:p.corners.length≤20
 widths:p.widths.length≤20
 notches:p.notches.length≤20
 line:∀i,i<p.edges.length→(eg p.edges i).line.length≤80∧(eg p.edges i).name.size≤100
theorem qql (p:Piece):p.enc=.agg [.str p.name,.lst (p.edges.map Edge.enc),.int .i64 p.grain,.lst (p.notches.map Ntc.enc),.lst (p.corners.map Spot.enc),.lst (p.widths.map q00),.bool p.match_]:=rfl
set_option maxHeartbeats 8000000 in
theorem qgX (p:Piece)(M:Nat)(hM:M≤80):∃b:Bool,PU qmO [p.enc,.int .i64 M]=some (.bool b)∧(b=true→PcL p):=by
 refine qGW (fn:=qm4) rfl ?_
 rw[qql]
 refine gg rfl (q08 rfl (fun g0=>?_) (fun g0=>?_))
 ·exact gg rfl (q0h rfl (gg rfl (q0h rfl (gg rfl (q0d rfl (gg rfl (q5x rfl rfl rfl trivial ⟨false,rfl,fun h=>by cases h⟩)))))))
 refine gg rfl (q08 rfl (fun g1=>?_) (fun g1=>?_))
 ·exact gg rfl (q0h rfl (gg rfl (q0d rfl (gg rfl (q5x rfl rfl rfl trivial ⟨false,rfl,fun h=>by cases h⟩)))))
 refine gg rfl (q08 rfl (fun g2=>?_) (fun g2=>?_))
 ·exact gg rfl (q0d rfl (gg rfl (q5x rfl rfl rfl trivial ⟨false,rfl,fun h=>by cases h⟩)))
 refine gg rfl (q01 rfl (fun g3=>?_) (fun g3=>?_))
 ·exact gg rfl (q5x rfl rfl rfl trivial ⟨false,rfl,fun h=>by cases h⟩)
 rw[q07,List.length_map]at g0 g1 g2 g3
 refine gg rfl (q0l (S:=fun a:Nat×Nat=>([.int .i64 M,.ptr 1 0 0,q00 a.2,q00 a.1],[none,some (.row [p.enc] 7),none,none],[0,0,0,0])) (C:=fun a=>a.1≤p.edges.length∧a.2≤80*a.1∧∀j,j<a.1→(eg p.edges j).line.length≤80∧(eg p.edges j).name.size≤100) (m:=fun a=>p.edges.length-a.1) (0,0) ⟨Nat.zero_le _,Nat.zero_le _,fun j h=>by simp at h⟩ (by show p.edges.length-0<_;omega) ?_ ?_)
 ·exact q03 rfl ⟨rfl,trivial⟩ rfl
 rintro⟨k,n⟩ ⟨hk,hn,hj⟩ N hN
 simp only at hk hn hj
 simp only[qql]
 refine gg rfl ?_
 rw[List.length_map]
 refine q01 rfl (fun e=>?_) (fun e=>?_)
 ·rw[q06]at e
  have hlt:k<p.edges.length:=by omega
  have w1:=wS (n:=k)
  refine gg rfl (q0j k rfl rfl rfl (q1D hlt) rfl (gg rfl ?_))
  rw[List.length_map]
  refine q08 rfl (fun f1=>?_) (fun f1=>?_)
  ·exact gg rfl (q0d rfl (gg rfl (q04 (gg rfl (q5x rfl rfl rfl trivial ⟨false,rfl,fun h=>by cases h⟩)))))
  rw[q07]at f1
  refine gg rfl (q0j k rfl rfl rfl (q1D hlt) rfl (gg rfl (q01 rfl (fun f2=>?_) (fun f2=>?_))))
  ·exact gg rfl (q04 (gg rfl (q5x rfl rfl rfl trivial ⟨false,rfl,fun h=>by cases h⟩)))
  rw[q07]at f2
  have w2:IntKind.i64.wrap ((n:Int)+((eg p.edges k).line.length:Nat))=((n+(eg p.edges k).line.length:Nat):Int):=ww
  refine gg rfl (q0j k rfl rfl rfl (q1D hlt) rfl (gg rfl ?_))
  rw[List.length_map]
  refine q04 (hN (k+1,n+(eg p.edges k).line.length) ⟨hlt,by show _≤80*(k+1);omega,fun j hjk=>?_⟩ (by show p.edges.length-(k+1)<p.edges.length-k;omega) (q03 rfl ⟨rfl,trivial⟩ (by rw[w1,w2];rfl)))
  have hjk:j<k+1:=hjk
  by_cases ej:j=k
  ·subst ej;omega
  exact hj j (by omega)
 rw[q07]at e
 obtain rfl:k=p.edges.length:=by omega
 exact gg rfl (q04 (gg rfl (q5x rfl rfl rfl trivial ⟨_,rfl,fun _=>⟨by omega,by omega,by omega,by omega,hj⟩⟩)))
theorem qvB (p:Piece):∃b:Bool,PU qmO [p.enc,.int .i64 80]=some (.bool b)∧(b=true→PcL p):=qgX p 80 (Nat.le_refl _)
structure StyL (s:Sty):Prop where
 name:s.name.size≤100
 sizes:s.sizes.length≤30
 mults:s.mults.length≤30
 uses:s.uses.length≤30
 seams:s.seams.length≤30
 ops:s.ops.length≤30
 pieces:s.pieces.length≤14
 size:∀i (h:i<s.sizes.length),s.sizes[i].size≤100
 piece:∀i,i<s.pieces.length→PcL (pc s.pieces i)
theorem StyL.B {s:Sty}(h:StyL s):StyB s where
 sizes:=Nat.le_trans h.sizes (by decide)
 size:=fun x hx=>by
  obtain⟨i,hi,rfl⟩:=List.mem_iff_getElem.1 hx
  exact Nat.le_trans (h.size i hi) (by decide)
 mults:=Nat.le_trans h.mults (by decide)
 pieces:=Nat.le_trans h.pieces (by decide)
 uses:=Nat.le_trans h.uses (by decide)
 seams:=Nat.le_trans h.seams (by decide)
 ops:=Nat.le_trans h.ops (by decide)
 corners:=fun p hp=>by
  obtain⟨i,hi,rfl⟩:=List.mem_iff_getElem.1 hp
  exact q76 hi▸Nat.le_trans (h.piece i hi).corners (by decide)
 widths:=fun p hp=>by
  obtain⟨i,hi,rfl⟩:=List.mem_iff_getElem.1 hp
  exact q76 hi▸Nat.le_trans (h.piece i hi).widths (by decide)
 notches:=fun p hp=>by
  obtain⟨i,hi,rfl⟩:=List.mem_iff_getElem.1 hp
  exact q76 hi▸Nat.le_trans (h.piece i hi).notches (by decide)
set_option maxHeartbeats 8000000 in
theorem qvC (s:Sty):∃b:Bool,PU qxD [s.enc]=some (.bool b)∧(b=true→StyL s):=by
 refine qGW (fn:=qlh) rfl ?_
 rw[qfP]
 refine gg rfl (q08 rfl (fun g0=>?_) (fun g0=>?_))
 ·exact gg rfl (q0h rfl (gg rfl (q0h rfl (gg rfl (q0h rfl (gg rfl (q0h rfl (gg rfl (q0h rfl (gg rfl (q0d rfl (gg rfl (q5x rfl rfl rfl trivial ⟨false,rfl,fun h=>by cases h⟩)))))))))))))
 refine gg rfl (q08 rfl (fun g1=>?_) (fun g1=>?_))
 ·exact gg rfl (q0h rfl (gg rfl (q0h rfl (gg rfl (q0h rfl (gg rfl (q0h rfl (gg rfl (q0d rfl (gg rfl (q5x rfl rfl rfl trivial ⟨false,rfl,fun h=>by cases h⟩)))))))))))
 refine gg rfl (q08 rfl (fun g2=>?_) (fun g2=>?_))
 ·exact gg rfl (q0h rfl (gg rfl (q0h rfl (gg rfl (q0h rfl (gg rfl (q0d rfl (gg rfl (q5x rfl rfl rfl trivial ⟨false,rfl,fun h=>by cases h⟩)))))))))
 refine gg rfl (q08 rfl (fun g3=>?_) (fun g3=>?_))
 ·exact gg rfl (q0h rfl (gg rfl (q0h rfl (gg rfl (q0d rfl (gg rfl (q5x rfl rfl rfl trivial ⟨false,rfl,fun h=>by cases h⟩)))))))
 refine gg rfl (q08 rfl (fun g4=>?_) (fun g4=>?_))
 ·exact gg rfl (q0h rfl (gg rfl (q0d rfl (gg rfl (q5x rfl rfl rfl trivial ⟨false,rfl,fun h=>by cases h⟩)))))
 refine gg rfl (q08 rfl (fun g5=>?_) (fun g5=>?_))
 ·exact gg rfl (q0d rfl (gg rfl (q5x rfl rfl rfl trivial ⟨false,rfl,fun h=>by cases h⟩)))
 refine gg rfl (q01 rfl (fun g6=>?_) (fun g6=>?_))
 ·exact gg rfl (q5x rfl rfl rfl trivial ⟨false,rfl,fun h=>by cases h⟩)
 rw[q07]at g0 g1 g2 g3 g4 g5 g6
 rw[List.length_map]at g1 g2 g3 g4 g5 g6
 refine gg rfl (q0l (S:=fun k:Nat=>([.ptr 0 0 0,q00 k],[some (.row [s.enc] 7),none],[0,0])) (C:=fun k=>k≤s.sizes.length∧∀j (h:j<s.sizes.length),j<k→s.sizes[j].size≤100) (m:=fun k=>s.sizes.length-k) 0 ⟨Nat.zero_le _,fun j _ h=>by omega⟩ (by omega) ?_ ?_)
 ·exact q03 rfl ⟨rfl,trivial⟩ rfl
 rintro k ⟨hk,hj⟩ N hN
 simp only[qfP]
 refine gg rfl ?_
 rw[List.length_map]
 refine q01 rfl (fun e=>?_) (fun e=>?_)
 ·rw[q06]at e
  have hlt:k<s.sizes.length:=by omega
  have w1:=wS (n:=k)
  have hx:(s.sizes.map D.str)[k]?=some (.str s.sizes[k]):=q1K hlt
  refine gg rfl (q0j k rfl rfl rfl hx rfl (gg rfl (q01 rfl (fun f1=>?_) (fun f1=>?_))))
  ·exact gg rfl (q04 (gg rfl (q5x rfl rfl rfl trivial ⟨false,rfl,fun h=>by cases h⟩)))
  rw[q07]at f1
  refine gg rfl (q04 (hN (k+1) ⟨hlt,fun j hj2 hjk=>?_⟩ (by omega) (q03 rfl ⟨rfl,trivial⟩ (by rw[w1];rfl))))
  by_cases ej:j=k
  ·subst ej;omega
  exact hj j hj2 (by omega)
 rw[q07]at e
 obtain rfl:k=s.sizes.length:=by omega
 clear hN
 refine gg rfl (q04 (gg rfl (q0l (S:=fun k:Nat=>([.ptr 0 0 0,q00 k],[some (.row [s.enc] 7),none],[0,0])) (C:=fun k=>k≤s.pieces.length∧∀j,j<k→PcL (pc s.pieces j)) (m:=fun k=>s.pieces.length-k) 0 ⟨Nat.zero_le _,fun j h=>by omega⟩ (by omega) ?_ ?_)))
 ·exact q03 rfl ⟨rfl,trivial⟩ rfl
 rintro k ⟨hk,hp⟩ N hN
 simp only[qfP]
 refine gg rfl ?_
 rw[List.length_map]
 refine q01 rfl (fun e=>?_) (fun e=>?_)
 ·rw[q06]at e
  have hlt:k<s.pieces.length:=by omega
  have w1:=wS (n:=k)
  obtain⟨b,hb,hbs⟩:=qvB (pc s.pieces k)
  refine gg rfl (q0j k rfl rfl rfl (q4N hlt) rfl (gg rfl (q08 rfl (fun f1=>?_) (fun f1=>?_))))
  ·exact gg rfl (q0d rfl (gg rfl (q04 (gg rfl (q5x rfl rfl rfl trivial ⟨false,rfl,fun h=>by cases h⟩)))))
  refine gg rfl (q0j k rfl rfl rfl (q4N hlt) rfl (gg rfl (q02 rfl rfl hb (gg rfl ?_))))
  cases b with
  |false=>
   exact q0d rfl (gg rfl (q04 (gg rfl (q5x rfl rfl rfl trivial ⟨false,rfl,fun h=>by cases h⟩))))
  |true=>
   refine q0i rfl (gg rfl (q04 (hN (k+1) ⟨hlt,fun j hjk=>?_⟩ (by omega) (q03 rfl ⟨rfl,trivial⟩ (by rw[w1];rfl)))))
   by_cases ej:j=k
   ·subst ej;exact hbs rfl
   exact hp j (by omega)
 rw[q07]at e
 obtain rfl:k=s.pieces.length:=by omega
 exact gg rfl (q04 (gg rfl (q5x rfl rfl rfl trivial ⟨_,rfl,fun _=>⟨by omega,by omega,by omega,by omega,by omega,by omega,by omega,fun i hi=>hj i hi hi,hp⟩⟩)))
end Go.F

namespace Go.F
attribute [local irreducible] IntKind.wrap wpM
def isA (l:List Iss)(i:Nat):Iss:=l.getD i ⟨0,0,0⟩
theorem qD9 {l:List Iss}{i:Nat}(h:i<l.length):isA l i=l[i]:=by simp[isA,h]
theorem qDa {l:List Iss}{i:Nat}(h:i<l.length):(l.map Iss.enc)[i]?=some (isA l i).enc:=by simp[isA,h]
theorem qHZ (x y:Iss):(!(eqb x.kind y.kind&&(eqb x.a y.a&&(eqb x.b y.b&&true))))=decide (x≠y):=by
 rw[q2o,q2o,q2o]
 by_cases h:x=y
 ·subst h;simp
 rw[decide_eq_true h]
 have:¬(x.kind=y.kind∧x.a=y.a∧x.b=y.b):=by
  rintro⟨h1,h2,h3⟩
  apply h
  cases x;cases y;simp_all
 simp only[Bool.and_true,Bool.not_eq_true',Bool.and_eq_false_imp,decide_eq_true_eq,decide_eq_false_iff_not]
 intro h1 h2 h3
 exact this ⟨h1,h2,h3⟩
theorem qIc (p q:List Iss)(hp:p.length<4611686018427387904):PU qkl [qrz p,qrz q]=some (.bool (decide (p=q))):=by
 refine q0g (fn:=qb7) rfl (q0a ?_)
 refine gg rfl (q01 rfl (fun h1=>?_) (fun h1=>?_))
 ·refine gg rfl (q09 rfl rfl rfl trivial ?_)
  rw[q0w,List.length_map,List.length_map]at h1
  have:p≠q:=by rintro rfl;exact h1 rfl
  simp[this]
 rw[q0B,List.length_map,List.length_map]at h1
 refine gg rfl (q0l (S:=fun k:Nat=>([qrz p,qrz q,q00 k],[none,none,none],[0,0,0])) (C:=fun k=>k≤p.length∧∀i,i<k→isA p i=isA q i) (m:=fun k=>p.length-k) 0 ⟨by omega,fun i hi=>by omega⟩ (by omega) ?_ ?_)
 ·exact q03 rfl trivial (by simp[qrz,q00])
 intro k ⟨hk,hall⟩ N hN
 refine gg rfl (q01 rfl (fun g1=>?_) (fun g1=>?_))
 ·rw[q06,List.length_map]at g1
  have hlt:k<p.length:=by omega
  have w1:=wS (n:=k)
  refine gg rfl (q0j k rfl rfl rfl (qDa hlt) rfl (gg rfl (q0j k rfl rfl rfl (qDa (by omega)) rfl ?_)))
  refine gg rfl (q01 rfl (fun g2=>?_) (fun g2=>?_))
  ·refine gg rfl (q04 (gg rfl (q09 rfl rfl rfl trivial ?_)))
   have g2:(!(eqb (isA p k).kind (isA q k).kind&&(eqb (isA p k).a (isA q k).a&&(eqb (isA p k).b (isA q k).b&&true))))=true:=g2
   rw[qHZ,decide_eq_true_eq]at g2
   have:p≠q:=by rintro rfl;exact g2 rfl
   simp[this]
  refine gg rfl (q04 ?_)
  have g2:(!(eqb (isA p k).kind (isA q k).kind&&(eqb (isA p k).a (isA q k).a&&(eqb (isA p k).b (isA q k).b&&true))))=false:=g2
  rw[qHZ,decide_eq_false_iff_not,Decidable.not_not]at g2
  refine hN (k+1) ⟨by omega,fun i hi=>?_⟩ (by omega) (q03 rfl trivial (by simp[qrz,q00,w1]))
  by_cases hik:i<k
  ·exact hall i hik
  obtain rfl:i=k:=by omega
  exact g2
 rw[q07,List.length_map]at g1
 refine gg rfl (q04 (gg rfl (q09 rfl rfl rfl trivial ?_)))
 have:p=q:=by
  refine List.ext_getElem (by omega) fun i hi1 hi2=>?_
  rw[←qD9 hi1,←qD9 hi2];exact hall i (by omega)
 simp[this]
set_option maxHeartbeats 4000000 in
theorem qJS (s:Sty):∃b:Bool,PU qDQ [s.enc]=some (.bool b)∧(b=true→StyL s∧s.pieces.length≤4∧s.sizes.length≤4∧s.seams.length≤6):=by
 obtain⟨b,hb,hbs⟩:=qvC s
 refine qGW (fn:=qsT) rfl ?_
 rw[qfP]at hb
 rw[qfP]
 refine gg rfl (q02 rfl rfl hb ?_)
 cases b with
 |false=>
  exact gg rfl (q0h rfl (gg rfl (q0h rfl (gg rfl (q0h rfl (gg rfl (q0d rfl (gg rfl (q5x rfl rfl rfl trivial ⟨false,rfl,fun h=>by cases h⟩)))))))))
 |true=>
  have hL:=hbs rfl
  refine gg rfl (q0m rfl (gg rfl ?_))
  rw[List.length_map]
  refine q08 rfl (fun f1=>?_) (fun f1=>?_)
  ·exact gg rfl (q0h rfl (gg rfl (q0d rfl (gg rfl (q5x rfl rfl rfl trivial ⟨false,rfl,fun h=>by cases h⟩)))))
  rw[q07]at f1
  refine gg rfl ?_
  rw[List.length_map]
  refine q08 rfl (fun f2=>?_) (fun f2=>?_)
  ·exact gg rfl (q0d rfl (gg rfl (q5x rfl rfl rfl trivial ⟨false,rfl,fun h=>by cases h⟩)))
  rw[q07]at f2
  refine gg rfl ?_
  rw[List.length_map]
  refine q01 rfl (fun f3=>?_) (fun f3=>?_)
  ·exact gg rfl (q5x rfl rfl rfl trivial ⟨false,rfl,fun h=>by cases h⟩)
  rw[q07]at f3
  refine gg rfl (q0l (S:=fun k:Nat=>([.ptr 0 0 0,q00 k],[some (.row [s.enc] 7),none],[0,0])) (C:=fun k=>k≤s.pieces.length) (m:=fun k=>s.pieces.length-k) 0 (Nat.zero_le _) (by omega) ?_ ?_)
  ·exact q03 rfl ⟨rfl,trivial⟩ rfl
  intro k hk N hN
  refine gg rfl ?_
  rw[List.length_map]
  refine q01 rfl (fun e=>?_) (fun e=>?_)
  ·rw[q06]at e
   have hlt:k<s.pieces.length:=by omega
   have w1:=wS (n:=k)
   obtain⟨b2,hb2,_⟩:=qgX (pc s.pieces k) 40 (by decide)
   refine gg rfl (q0j k rfl rfl rfl (q4N hlt) rfl (gg rfl (q02 rfl rfl hb2 ?_)))
   cases b2 with
   |false=>
    exact gg rfl (q0d rfl (gg rfl (q04 (gg rfl (q5x rfl rfl rfl trivial ⟨false,rfl,fun h=>by cases h⟩)))))
   |true=>
    exact gg rfl (q0i rfl (gg rfl (q04 (hN (k+1) hlt (by omega) (q03 rfl ⟨rfl,trivial⟩ (by rw[w1];rfl))))))
  exact gg rfl (q04 (gg rfl (q5x rfl rfl rfl trivial ⟨true,rfl,fun _=>⟨hL,by omega,by omega,by omega⟩⟩)))
end Go.F

namespace Go.F
mutual
def eqD:D→D→Bool
 |.bool a,.bool b=>a==b
 |.int k n,.int k' n'=>decide (k=k')&&decide (n=n')
 |.str a,.str b=>decide (a=b)
 |.lst l,.lst m=>eqL l m
 |.agg l,.agg m=>eqL l m
 |.tup l,.tup m=>eqL l m
 |_,_=>false
def eqL:List D→List D→Bool
 |[],[]=>true
 |a::l,b::m=>eqD a b&&eqL l m
 |_,_=>false
end
mutual
theorem qHn:∀{a b:D},eqD a b=true→a=b
 |.bool a,.bool b,h=>by simp[eqD]at h;rw[h]
 |.int k n,.int k' n',h=>by simp[eqD]at h;rw[h.1,h.2]
 |.str a,.str b,h=>by simp[eqD]at h;rw[h]
 |.lst l,.lst m,h=>by rw[eqD]at h;rw[qvV h]
 |.agg l,.agg m,h=>by rw[eqD]at h;rw[qvV h]
 |.tup l,.tup m,h=>by rw[eqD]at h;rw[qvV h]
 |.float ..,_,h=>by simp[eqD]at h
 |.nilsl,_,h=>by simp[eqD]at h
 |.ref ..,_,h=>by simp[eqD]at h
 |.pl ..,_,h=>by simp[eqD]at h
 |.ptr ..,_,h=>by simp[eqD]at h
 |.fn ..,_,h=>by simp[eqD]at h
 |.mref ..,_,h=>by simp[eqD]at h
 |.mlst ..,_,h=>by simp[eqD]at h
 |.opq ..,_,h=>by simp[eqD]at h
 |.bad,_,h=>by simp[eqD]at h
theorem qvV:∀{a b:List D},eqL a b=true→a=b
 |[],[],_=>rfl
 |a::l,b::m,h=>by rw[eqL,Bool.and_eq_true]at h;rw[qHn h.1,qvV h.2]
 |[],_::_,h=>by simp[eqL]at h
 |_::_,[],h=>by simp[eqL]at h
end
def eqO:Option D→D→Bool
 |some a,b=>eqD a b
 |none,_=>false
theorem qL5 {a:Option D}{b:D}(h:eqO a b=true):a=some b:=by
 cases a with
 |none=>simp[eqO]at h
 |some a=>rw[qHn h]
end Go.F

namespace Go.F
def sqPc (k:Int):Piece:=⟨⟨#[102,114,111,110,116]⟩,[⟨⟨#[108,111,119]⟩,[⟨0,0⟩,⟨10,0⟩]⟩,⟨⟨#[114,105,103,104,116]⟩,[⟨10,0⟩,⟨10,10⟩]⟩,⟨⟨#[104,105,103,104]⟩,[⟨10,10⟩,⟨0,10⟩]⟩,⟨⟨#[108,101,102,116]⟩,[⟨0,10⟩,⟨0,0⟩]⟩],1,[],[⟨0,0⟩,⟨k,0⟩,⟨k,0⟩,⟨0,0⟩],[0,0,0,0],false⟩
def sqS (k:Int)(us:List Use)(sm:List Sew):Sty:=⟨⟨#[115,104,105,114,116]⟩,[⟨#[83]⟩,⟨#[77]⟩,⟨#[76]⟩],[-1,0,1],[sqPc k],us,sm,[]⟩
def qKI:List Use:=[⟨0,1,false⟩]
def sew1:List Sew:=[⟨0,0,0,3,false,1000⟩]
theorem qMf:eqO (run prog q7r qnI 12 qIs [.int .i64 2]) (sqS 2 qKI []).enc=true:=by decide+kernel
theorem qMg:eqO (run prog q7r qnI 12 qIs [.int .i64 (-2)]) (sqS (-2) qKI []).enc=true:=by decide+kernel
theorem qMh:eqO (run prog q7r qnI 12 qIs [.int .i64 10]) (sqS 10 qKI []).enc=true:=by decide+kernel
theorem qLw:PU qIs [.int .i64 2]=some (sqS 2 qKI []).enc:=qzU (qL5 qMf)
theorem sq2_PU:PU qIs [.int .i64 (-2)]=some (sqS (-2) qKI []).enc:=qzU (qL5 qMg)
theorem sq3_PU:PU qIs [.int .i64 10]=some (sqS 10 qKI []).enc:=qzU (qL5 qMh)
theorem ex_a:qK2 (sqS 2 qKI [])=([],0):=by decide+kernel
theorem ex_b:qK2 (sqS (-2) qKI [])=([⟨5,0,1⟩,⟨5,0,2⟩],0):=by decide+kernel
theorem ex_c:qK2 (sqS 10 [] [])=([⟨1,0,0⟩,⟨6,0,0⟩],0):=by decide+kernel
theorem ex_d:qK2 (sqS 2 qKI sew1)=([⟨3,0,0⟩,⟨3,0,2⟩],0):=by decide+kernel
theorem ex_e:(qK2 ⟨⟨#[]⟩,[],[],[],[],[],[]⟩)=([],1):=by decide+kernel
end Go.F

namespace Go.F
attribute [local irreducible] IntKind.wrap wpM
theorem qKn (s:Sty)(hB:StyB s):PU qGt [s.enc]=some (.bool (decide (qK2 s=([],0)))):=by
 have h:=qJZ s hB
 generalize qK2 s=r at*
 obtain⟨l,e⟩:=r
 refine q0g (fn:=qok) rfl (q0a ?_)
 refine gg rfl (q02 rfl rfl h (gg rfl (q08 rfl (fun g=>?_) (fun g=>?_))))
 ·rw[q1I]at g
  refine gg rfl (q09 rfl rfl rfl trivial ?_)
  simp only at g
  rw[q2o,List.length_map,g]
  cases l<;>simp
  omega
 rw[q1J]at g
 refine gg rfl (q09 rfl rfl rfl trivial ?_)
 simp only at g
 simp[g]
def noS:Sty:=⟨⟨#[]⟩,[],[],[],[],[],[]⟩
theorem sqB1:StyB (sqS 2 qKI []):=⟨by decide,by decide,by decide,by decide,by decide,by decide,by decide,by decide,by decide,by decide⟩
theorem sqB2:StyB (sqS (-2) qKI []):=⟨by decide,by decide,by decide,by decide,by decide,by decide,by decide,by decide,by decide,by decide⟩
theorem sqB3:StyB (sqS 10 [] []):=⟨by decide,by decide,by decide,by decide,by decide,by decide,by decide,by decide,by decide,by decide⟩
theorem sqB4:StyB (sqS 2 qKI sew1):=⟨by decide,by decide,by decide,by decide,by decide,by decide,by decide,by decide,by decide,by decide⟩
theorem noB:StyB noS:=⟨by decide,by decide,by decide,by decide,by decide,by decide,by decide,by decide,by decide,by decide⟩
set_option maxRecDepth 100000 in
set_option maxHeartbeats 16000000 in
theorem qKh:PU qJn []=some (.bool true):=by
 have v1:=qJZ _ sqB1
 have v2:=qJZ _ sqB2
 have v3:=qJZ _ sqB3
 have v4:=qJZ _ sqB4
 have v5:=qJZ _ noB
 have c1:=qKn _ sqB1
 have c2:=qKn _ sqB4
 have c3:=qKn _ noB
 rw[ex_a]at v1 c1
 rw[ex_b]at v2
 rw[ex_c]at v3
 rw[ex_d]at v4 c2
 rw[show qK2 noS=([],1)from ex_e]at v5 c3
 rw[decide_eq_true rfl]at c1
 rw[decide_eq_false (by simp)]at c2 c3
 have hn:∀{x:Int} {P:Prop},nqb x x=true→P:=fun h=>absurd rfl (q0w.1 h)
 have s1:=qIc [⟨5,0,1⟩,⟨5,0,2⟩] [⟨5,0,1⟩,⟨5,0,2⟩] (by decide)
 have s2:=qIc [⟨1,0,0⟩,⟨6,0,0⟩] [⟨1,0,0⟩,⟨6,0,0⟩] (by decide)
 have s3:=qIc [⟨3,0,0⟩,⟨3,0,2⟩] [⟨3,0,0⟩,⟨3,0,2⟩] (by decide)
 rw[decide_eq_true rfl]at s1 s2 s3
 refine q0g (fn:=qwW) rfl (q0a ?_)
 refine gg rfl (q02 rfl rfl qLw (gg rfl (q02 rfl rfl v1 (gg rfl (q02 rfl rfl sq2_PU (gg rfl (q02 rfl rfl v2 (gg rfl (q02 rfl rfl sq3_PU (gg rfl (q02 rfl rfl v3 (gg rfl (q02 rfl rfl qLw ?_)))))))))))))
 refine gg rfl (q2s rfl rfl ⟨⟨by decide,rfl⟩,trivial⟩ v4 fun z=>(gg rfl (q02 rfl rfl v5 (gg rfl (q08 rfl hn (fun _=>?_))))))
 refine gg rfl (q08 rfl hn (fun _=>?_))
 refine gg rfl (q08 rfl hn (fun _=>?_))
 refine gg rfl (q08 rfl hn (fun _=>?_))
 refine gg rfl (q08 rfl hn (fun _=>?_))
 refine gg rfl (q01 rfl hn (fun _=>?_))
 refine gg rfl (q2s rfl rfl ⟨⟨by decide,rfl⟩,trivial⟩ s1 fun z=>(gg rfl (q0m rfl (gg rfl (q2s rfl rfl ⟨⟨by decide,rfl⟩,trivial⟩ s2 fun z=>(gg rfl (q0m rfl (gg rfl (q2s rfl rfl ⟨⟨by decide,rfl⟩,trivial⟩ s3 fun z=>(gg rfl (q0i rfl (gg rfl (q02 rfl rfl qLw ?_)))))))))))))
 exact gg rfl (q02 rfl rfl c1 (gg rfl (q0h rfl (gg rfl (q2s rfl rfl ⟨⟨by decide,rfl⟩,trivial⟩ c2 fun z=>(gg rfl (q0h rfl (gg rfl (q02 rfl rfl c3 (gg rfl (q09 rfl rfl rfl trivial rfl)))))))))))
end Go.F

namespace Go.F
theorem qL2 {kd:Int}{P Q:Nat→Nat→Bool}{i:Nat}:∀{w:Nat},(∀z,z<w→P i z=Q i z)→q6h kd P i w=q6h kd Q i w
 |0,_=>rfl
 |w+1,h=>by rw[row_step,row_step,qL2 fun z hz=>h z (by omega),h w (by omega)]
theorem qJX {kd:Int}{P Q:Nat→Nat→Bool}{w:Nat}:∀{n:Nat},(∀i,i<n→∀z,z<w→P i z=Q i z)→q26 kd P n w=q26 kd Q n w
 |0,_=>rfl
 |n+1,h=>by rw[q52,q52,qJX fun i hi=>h i (by omega),qL2 (h n (by omega))]
end Go.F

namespace Go.F
end Go.F

namespace Go.F
attribute [local irreducible] IntKind.wrap wpM
theorem qat (n m:Int)(h0:0≤m)(h1:m≤1000000):PU qvf [.int .i64 n,.int .i64 m]=some (.bool (inB n m)):=by
 have w:IntKind.i64.wrap (0-m)= -m:=by rw[wrap64 (by omega) (by omega)];omega
 have w':IntKind.i64.wrap (-m)= -m:=ww
 refine q0g (fn:=qik) rfl (q0a ?_)
 refine gg rfl ?_
 repeat' (first
  |refine goP 800 rfl rfl ?_
  |refine q0h rfl ?_|refine q0m rfl ?_|refine q08 rfl (fun _=>?_) (fun _=>?_)
  |refine q0d rfl ?_|refine q0i rfl ?_|refine q01 rfl (fun _=>?_) (fun _=>?_)
  |refine q0Q rfl (fun _=>?_) (fun _=>?_)
  |refine q09 rfl rfl rfl trivial ?_)
 all_goals (try simp only[w,w']at*)
 all_goals ((try simp only[q1U,q2h,q2o,q4n,decide_eq_true_eq,decide_eq_false_iff_not,Bool.not_eq_true,Bool.not_eq_false,Int.not_lt,Int.not_le]at*);first|(simp_all[inB];done) |(simp_all[inB];omega) |(rw[D.bool.injEq,Bool.eq_iff_iff];simp[inB];omega) |(rw[D.bool.injEq,Bool.eq_iff_iff];simp_all[inB];omega) |(simp[inB];split<;>(try split)<;>omega))
theorem qjv (a b:Int)(ha0: -1099511627776≤a)(ha:a≤1099511627776)(hb:0<b)(hb':b≤1099511627776):PU qxZ [.int .i64 a,.int .i64 b]=some (.int .i64 (q1B a b)):=by
 have w3:=ww (x:=2*b)
 refine q0g (fn:=qlY) rfl (q0a ?_)
 refine gg rfl (q01 rfl (fun h=>?_) (fun h=>?_))
 ·rw[q06]at h
  have w1:=ww (x:= -2*a)
  have w2:=ww (x:= -2*a+b)
  refine gg rfl (qfg rfl rfl (by rw[w3];omega) ?_)
  refine gg rfl (q09 rfl rfl rfl trivial ?_)
  have hd:(-2*a+b).tdiv (2*b)=(-2*a+b)/(2*b):=Int.tdiv_eq_ediv_of_nonneg (by omega)
  have hq:(-2*a+b)/(2*b)≤ -2*a+b:=Int.ediv_le_self _ (by omega)
  have hq0:0≤(-2*a+b)/(2*b):=Int.ediv_nonneg (by omega) (by omega)
  rw[w1,w2,w3,hd,wrap64 (x:=(-2*a+b)/(2*b)) (by omega) (by omega),wrap64 (by omega) (by omega),q1B,if_pos (by omega),show 2* -a+b= -2*a+b by omega]
  simp
 rw[q07]at h
 have w1:=ww (x:=2*a)
 have w2:=ww (x:=2*a+b)
 refine gg rfl (qfg rfl rfl (by rw[w3];omega) ?_)
 refine gg rfl (q09 rfl rfl rfl trivial ?_)
 have hd:(2*a+b).tdiv (2*b)=(2*a+b)/(2*b):=Int.tdiv_eq_ediv_of_nonneg (by omega)
 have hq:(2*a+b)/(2*b)≤2*a+b:=Int.ediv_le_self _ (by omega)
 have hq0:0≤(2*a+b)/(2*b):=Int.ediv_nonneg (by omega) (by omega)
 rw[w1,w2,w3,hd,wrap64 (by omega) (by omega),q1B,if_neg (by omega)]
set_option maxHeartbeats 4000000 in
theorem qsu (e:Edge)(a b:Spot)(h2:2≤e.line.length)(h40:e.line.length≤40)(hw:∀s∈e.line,q0x s 1048576=true)(ha:qj4 a 100000)(hb:qj4 b 100000):
 PU qvg [e.enc,a.enc,b.enc]=some (Edge.enc ⟨e.name,qv1 e.line a b⟩):=by
 obtain⟨name,l⟩:=e
 simp only at h2 h40 hw⊢
 have w0:=ww (x:=(l.length:Int)-1)
 refine q0g (fn:=qim) rfl (q0a ?_)
 refine gg rfl ?_
 rw[List.length_map,w0]
 refine q0l (S:=fun k:Nat=>([.ptr 0 0 0,.ptr 1 0 0,.ptr 2 0 0,.ptr 3 0 0,.ptr 4 0 0,.int .i64 ((l.length:Int)-1),q00 k,.bad],[some (.row [Edge.enc ⟨name,l⟩] 2),some (.row [a.enc] 2),some (.row [b.enc] 2),some (.row [.agg [.str ⟨#[]⟩,.nilsl]] 2),some (.row [.agg [.str name,.ref 7 0 k]] 2),none,none,some (.row (((List.range k).map (qfX l a b)).map Spot.enc) 2)],[0,0,0,0,0,0,0,0])) (C:=fun k=>k≤l.length) (m:=fun k=>l.length-k) 0 (Nat.zero_le _) (by omega) ?_ ?_
 ·exact qCN rfl rfl rfl rfl rfl rfl
 intro k hk N hN
 refine gg rfl (q01 rfl (fun e1=>?_) (fun e1=>?_))
 ·rw[q0G]at e1
  have hlt:k<l.length:=by omega
  have w1:=wS (n:=k)
  have hin:=hw (pt l k) (by rw[q0H hlt];exact List.getElem_mem _)
  rw[q1L]at hin
  have c1:=qnX hlt h40 ha.1 hb.1
  have c2:=qnX hlt h40 ha.2 hb.2
  have d0:IntKind.i64.wrap ((l.length:Int)-1-(k:Int))=(l.length:Int)-1-k:=ww
  have d1:=ww (x:=((l.length:Int)-1-k) *a.x)
  have d2:=ww (x:=(k:Int) *b.x)
  have d3:=ww (x:=((l.length:Int)-1-k) *a.x+(k:Int) *b.x)
  have d4:=ww (x:=((l.length:Int)-1-k) *a.y)
  have d5:=ww (x:=(k:Int) *b.y)
  have d6:=ww (x:=((l.length:Int)-1-k) *a.y+(k:Int) *b.y)
  have q1:=qjv (((l.length:Int)-1-k) *a.x+(k:Int) *b.x) ((l.length:Int)-1) (by omega) (by omega) (by omega) (by omega)
  have q2:=qjv (((l.length:Int)-1-k) *a.y+(k:Int) *b.y) ((l.length:Int)-1) (by omega) (by omega) (by omega) (by omega)
  have hst:(((List.range (k+1)).map (qfX l a b)).map Spot.enc)=((List.range k).map (qfX l a b)).map Spot.enc++[(qfX l a b k).enc]:=by
   rw[List.range_succ,List.map_append,List.map_append];rfl
  have hro:=fun ids=>qEo ids ((List.range (k+1)).map (qfX l a b))
  have hrr:=fun ids=>qEp ids ((List.range (k+1)).map (qfX l a b))
  have r1:=q9C (a:=((l.length:Int)-1-k) *a.x+(k:Int) *b.x) (b:=(l.length:Int)-1) (m:=8000000) (by omega) (by omega) (by omega)
  have r2:=q9C (a:=((l.length:Int)-1-k) *a.y+(k:Int) *b.y) (b:=(l.length:Int)-1) (m:=8000000) (by omega) (by omega) (by omega)
  have d7:=ww (x:=(pt l k).x+q1B (((l.length:Int)-1-k) *a.x+(k:Int) *b.x) ((l.length:Int)-1))
  have d8:=ww (x:=(pt l k).y+q1B (((l.length:Int)-1-k) *a.y+(k:Int) *b.y) ((l.length:Int)-1))
  refine gg rfl ?_
  rw[d0,d1,d2,d3]
  refine q02 rfl rfl q1 (gg rfl ?_)
  rw[d0,d4,d5,d6]
  refine q02 rfl rfl q2 (gg rfl (q0j k rfl rfl rfl (q0U hlt) rfl (gg rfl ?_)))
  rw[d7]
  refine q0j k rfl rfl rfl (q0U hlt) rfl (gg rfl ?_)
  rw[d8]
  refine q1g rfl rfl rfl rfl rfl rfl (by simp) (Nat.zero_le _) (by simp[q0N];omega) ?_
  refine gg rfl (q04 ?_)
  have hst2:((List.range k).map (qfX l a b)).map Spot.enc++[.agg [.int .i64 ((pt l k).x+q1B (((l.length:Int)-1-k) *a.x+(k:Int) *b.x) ((l.length:Int)-1)),.int .i64 ((pt l k).y+q1B (((l.length:Int)-1-k) *a.y+(k:Int) *b.y) ((l.length:Int)-1))]]=((List.range (k+1)).map (qfX l a b)).map Spot.enc:=hst.symm
  rw[hst2,w1]
  refine hN (k+1) (by omega) (by omega) (qCN rfl rfl ?_ rfl ?_ rfl)
  ·show((((List.range (k+1)).map (qfX l a b)).map Spot.enc).all (okD 0 _)&&true)=true
   rw[hro];rfl
  exact congrArg (fun r:List D=>([some (.row [Edge.enc ⟨name,l⟩] 2),some (.row [a.enc] 2),some (.row [b.enc] 2),some (.row [.agg [.str ⟨#[]⟩,.nilsl]] 2),some (.row [.agg [.str name,.ref 7 0 (k+1)]] 2),none,none,some (.row r 2)]:List (Option Blk))) (hrr _)
 rw[q0I]at e1
 obtain rfl:k=l.length:=by omega
 refine gg rfl (q04 (gg rfl (q09 rfl rfl rfl ⟨q1n (by simp) (q0L q1u _),trivial⟩ ?_)))
 rw[q1o (by simp)];rfl
end Go.F

namespace Go.F
attribute [local irreducible] IntKind.wrap wpM
set_option maxHeartbeats 4000000 in
theorem q3w (p:Piece)(m:Int)(hc:p.corners.length≤1000000):PU qv9 [p.enc,.int .i64 m]=some (encGr (q0p p m)):=by
 refine q0g (fn:=qhM) rfl (q0a ?_)
 refine gg rfl (q02 rfl rfl (qat m 100 (by decide) (by decide)) ?_)
 cases hm:inB m 100 with
 |false=>
  refine gg rfl (q0d rfl (gg rfl (q09 rfl rfl rfl trivial ?_)))
  rw[q0p,if_pos hm];rfl
 |true=>
  have hm1:¬inB m 100=false:=by rw[hm];decide
  rw[qfD]at hm
  refine gg rfl (q0i rfl (gg rfl ?_))
  rw[List.length_map,List.length_map]
  refine q01 rfl (fun g1=>?_) (fun g1=>?_)
  ·rw[q0w]at g1
   refine gg rfl (q09 rfl rfl rfl trivial ?_)
   rw[q0p,if_neg hm1,if_pos (by omega)];rfl
  rw[q0B]at g1
  have g1':p.corners.length=p.edges.length:=by omega
  refine gg rfl (q0l (S:=fun k:Nat=>([.int .i64 m,.ptr 1 0 0,q00 p.edges.length,q00 k],[none,some (.row [p.enc] 7),none,none],[0,0,0,0])) (C:=fun k=>k≤p.corners.length∧∀j (hj:j<p.corners.length),j<k→(inB p.corners[j].x 1000&&inB p.corners[j].y 1000)=true) (m:=fun k=>p.corners.length-k) 0 ⟨Nat.zero_le _,fun j _ hj=>by omega⟩ (by omega) ?_ ?_)
  ·exact q03 rfl ⟨rfl,trivial⟩ (by simp[q0k,q00,Piece.enc,edges,q51,ints])
  rintro k ⟨hk,hin⟩ N hN
  refine gg rfl (q01 rfl (fun e1=>?_) (fun e1=>?_))
  ·rw[q06]at e1
   have hlt:k<p.corners.length:=by omega
   have w1:=wS (n:=k)
   have hx:=qat (pt p.corners k).x 1000 (by decide) (by decide)
   have hy:=qat (pt p.corners k).y 1000 (by decide) (by decide)
   have bad:(inB (pt p.corners k).x 1000&&inB (pt p.corners k).y 1000)=false→q0p p m=([],3):=by
    intro h
    rw[q0p,if_neg hm1,if_neg (by omega),if_pos]
    refine q2j hlt ?_
    rw[←q0H hlt,h];rfl
   refine gg rfl (q0j k rfl rfl rfl (q0U hlt) rfl (gg rfl (q02 rfl rfl hx ?_)))
   cases bx:inB (pt p.corners k).x 1000 with
   |false=>
    refine gg rfl (q0h rfl (gg rfl (q0d rfl (gg rfl (q04 (gg rfl (q09 rfl rfl rfl trivial ?_)))))))
    rw[bad (by rw[bx];rfl)];rfl
   |true=>
    refine gg rfl (q0m rfl (gg rfl (q0j k rfl rfl rfl (q0U hlt) rfl (gg rfl (q02 rfl rfl hy ?_)))))
    cases by':inB (pt p.corners k).y 1000 with
    |false=>
     refine gg rfl (q0d rfl (gg rfl (q04 (gg rfl (q09 rfl rfl rfl trivial ?_)))))
     rw[bad (by rw[bx,by'];rfl)];rfl
    |true=>
     refine gg rfl (q0i rfl (gg rfl (q04 (hN (k+1) ⟨hlt,fun j hj hjk=>?_⟩ (by omega) (q03 rfl ⟨rfl,trivial⟩ (by simp[q0k,q00,Piece.enc,edges,q51,ints,w1]))))))
     by_cases e:j=k
     ·subst e;rw[←q0H hj,bx,by'];rfl
     exact hin j hj (by omega)
  rw[q07]at e1
  obtain rfl:k=p.corners.length:=by omega
  clear hN
  have hany:¬(p.corners.any fun s=>!(inB s.x 1000&&inB s.y 1000))=true:=by
   rw[q29 fun k hk=>by rw[hin k hk hk];rfl];decide
  have hnear:∀s∈p.corners,qj4 s 1000:=by
   intro s hs
   obtain⟨j,hj,rfl⟩:=List.getElem_of_mem hs
   have:=hin j hj hj
   rw[Bool.and_eq_true,qfD,qfD]at this
   exact⟨by omega,by omega⟩
  refine gg rfl (q04 (gg rfl (q02 rfl rfl (q8e p.edges) (gg rfl (q01 rfl (fun g2=>?_) (fun g2=>?_))))))
  ·rw[q0w]at g2
   refine gg rfl (q09 rfl rfl rfl trivial ?_)
   rw[q0p,if_neg hm1,if_neg (by omega),if_neg hany,if_pos g2];rfl
  have g2:q0O p.edges=0:=q0B.1 g2
  obtain⟨c1,c2,c3,c4,c5⟩:=q18 g2
  have hr:q0p p m=if q0O (q3Z p m)≠0 then([],q0O (q3Z p m))else(q3Z p m,0):=by
   rw[q0p,if_neg hm1,if_neg (by omega),if_neg hany,if_neg (by omega)]
  rw[hr]
  have hm2:m.natAbs≤100:=by omega
  refine gg rfl (q0l (S:=fun k:Nat=>([.int .i64 m,.ptr 1 0 0,q00 p.edges.length,.ref 3 0 k,q00 k],[none,some (.row [p.enc] 7),none,some (.row (((List.range k).map (q7T p m)).map Edge.enc) 2),none],[0,0,0,0,0])) (C:=fun k=>k≤p.edges.length) (m:=fun k=>p.edges.length-k) 0 (Nat.zero_le _) (by omega) ?_ ?_)
  ·exact q03 rfl ⟨rfl,rfl,trivial⟩ rfl
  intro k hk N hN
  refine gg rfl (q01 rfl (fun e2=>?_) (fun e2=>?_))
  ·rw[q06]at e2
   have hlt:k<p.edges.length:=by omega
   have w1:=wS (n:=k)
   have hL:=q34 (q1e c3 hlt)
   obtain⟨n2,n40,hw⟩:=q2x hL
   have na:=q9f hnear hm2 (by omega) k
   have nb:=q9f hnear hm2 (by omega) (k+1)
   have mv:=qsu (eg p.edges k) (q83 p.corners m k) (q83 p.corners m (k+1)) n2 n40 hw na nb
   have hst:(((List.range (k+1)).map (q7T p m)).map Edge.enc)=((List.range k).map (q7T p m)).map Edge.enc++[(q7T p m k).enc]:=by
    rw[List.range_succ,List.map_append,List.map_append];rfl
   have hka:q83 p.corners m k=⟨m*(pt p.corners k).x,m*(pt p.corners k).y⟩:=by unfold q83;rw[Nat.mod_eq_of_lt (by omega)]
   have hkb:q83 p.corners m (k+1)=⟨m*(pt p.corners ((k+1)%p.edges.length)).x,m*(pt p.corners ((k+1)%p.edges.length)).y⟩:=by unfold q83;rw[g1']
   have hge:q7T p m k=⟨(eg p.edges k).name,qv1 (eg p.edges k).line ⟨m*(pt p.corners k).x,m*(pt p.corners k).y⟩ ⟨m*(pt p.corners ((k+1)%p.edges.length)).x,m*(pt p.corners ((k+1)%p.edges.length)).y⟩⟩:=by unfold q7T;rw[hka,hkb]
   rw[hge]at hst
   have hml:(k+1)%p.edges.length<p.corners.length:=by rw[g1'];exact Nat.mod_lt _ (by omega)
   have hrem:(((k+1:Nat):Int)).tmod (p.edges.length:Nat)=(((k+1)%p.edges.length:Nat):Int):=by rw[Int.tmod_eq_emod_of_nonneg (by omega)];omega
   rw[hka,hkb]at mv
   rw[hka]at na
   rw[hkb]at nb
   obtain⟨na1,na2⟩:=na
   obtain⟨nb1,nb2⟩:=nb
   simp only at na1 na2 nb1 nb2
   generalize (k+1)%p.edges.length=k2 at*
   have wa:=ww (x:=m*(pt p.corners k).x)
   have wb:=ww (x:=m*(pt p.corners k).y)
   have wc:=ww (x:=m*(pt p.corners k2).x)
   have wd:=ww (x:=m*(pt p.corners k2).y)
   refine gg rfl (q0j k rfl rfl rfl (q0U (by omega)) rfl ?_)
   refine gg rfl ?_
   rw[w1]
   refine q2K rfl rfl (by omega) ?_
   rw[hrem]
   refine gg rfl (q0j k2 rfl rfl rfl (q0U hml) rfl (gg rfl (q0j k rfl rfl rfl (q1D hlt) rfl (gg rfl ?_))))
   rw[wa,wb,wc,wd]
   refine q02 rfl rfl mv (gg rfl (q1g rfl rfl rfl rfl rfl rfl (by simp) (Nat.zero_le _) (by simp[q0N];omega) ?_))
   refine gg rfl (q04 (hN (k+1) hlt (by omega) (q03 rfl ⟨rfl,?_,trivial⟩ ?_)))
   ·rw[List.all_append,q05 q3r];rfl
   rw[hst];simp[q0k,edges,q00,w1];rfl
  rw[q07]at e2
  obtain rfl:k=p.edges.length:=by omega
  have hgl:(q3Z p m).length=p.edges.length:=by simp[q3Z]
  refine gg rfl (q04 (gg rfl (q7u rfl rfl ⟨q1n (by simp) (q0L q6j _),trivial⟩ (by rw[q1o (by simp)];exact q8e (q3Z p m)) rfl ?_)))
  refine gg rfl (q01 rfl (fun g3=>?_) (fun g3=>?_))
  ·rw[q0w]at g3
   refine gg rfl (q09 rfl rfl rfl trivial ?_)
   rw[if_pos g3];rfl
  rw[q0B]at g3
  refine gg rfl (q09 rfl rfl rfl ⟨q1n (by simp) (q0L q6j _),trivial⟩ ?_)
  rw[q1o (by simp),if_neg (by simp[g3])];rfl
end Go.F

namespace Go.F
attribute [local irreducible] IntKind.wrap wpM
theorem qvY (p:List Spot)(h:q1C p=0):PU qy6 [q0k p]=some (.int .i64 (q3o p (p.length-1))):=by
 obtain⟨n2,n40,_⟩:=q2x h
 have hin:∀i,i<p.length→q0x (pt p i) 1048576=true:=fun i hi=>qcn h hi
 refine q0g (fn:=qmD) rfl (q0a ?_)
 refine gg rfl (q0l (S:=fun k:Nat=>([q0k p,q00 (q3o p k),q00 (k+1:Nat)],[none,none,none],[0,0,0])) (C:=fun k=>k≤p.length-1) (m:=fun k=>p.length-k) 0 (Nat.zero_le _) (by omega) ?_ ?_)
 ·exact q03 rfl trivial (by simp[q0k,q00,q3o])
 intro k hk N hN
 refine gg rfl ?_
 rw[List.length_map]
 refine q01 rfl (fun g1=>?_) (fun g1=>?_)
 ·rw[q06]at g1
  have hlt:k+1<p.length:=by omega
  have w0:IntKind.i64.wrap (((k+1:Nat):Int)-1)=(k:Int):=by rw[wrap64 (by omega) (by omega)];omega
  have w1:=ww (x:=(k:Int)+1+1)
  have hin1:=hin k (by omega)
  have hin2:=hin (k+1) hlt
  have hsl':=qvX hin1 hin2
  have hle:=qqT hin k (by omega)
  have w2:IntKind.i64.wrap ((q3o p k:Int)+(qfY (pt p k) (pt p (k+1)):Int))=(q3o p (k+1):Int):=by rw[wrap64 (by omega) (by omega)];rfl
  refine gg rfl (q0j k rfl rfl w0 (q0U (by omega)) rfl ?_)
  refine gg rfl (q0j (k+1) rfl rfl rfl (q0U hlt) rfl (gg rfl (q02 rfl rfl (qqU (pt p k) (pt p (k+1)) hin1 hin2) (gg rfl ?_))))
  rw[w2]
  exact q04 (hN (k+1) (by omega) (by omega) (q03 rfl trivial (by simp[q0k,q00,w1])))
 rw[q07]at g1
 obtain rfl:k=p.length-1:=by omega
 exact gg rfl (q04 (gg rfl (q09 rfl rfl rfl trivial rfl)))
end Go.F
