/- Parts of the proof, part 49: Gr2, St2, St3, St4, St5, SPl, V1, V2, V3, V4, V5, V6, SBs, V7, V13, Lgt, Sml2. -/
import Derived.Test.YtakaifogljbgoaaGreatZ47
import Derived.Test.YtakaifogljbgoaaGreatZ45
set_option linter.all false
namespace Go.F
attribute [local irreducible] IntKind.wrap wpM
def q4X (fr to at_:Int):Prop:=fr<1∨1099511627776<fr∨to<0∨1099511627776<to∨at_<0∨fr<at_
instance (a b c:Int):Decidable (q4X a b c):=by unfold q4X;exact inferInstance
def q3R (fr to:Int)(rev:Bool)(at_:Int):Int×Int:=
 if q4X fr to at_ then(0,3)else(if rev then to-q1B (at_*to) fr else q1B (at_*to) fr,0)
theorem qnY {a b:Nat}(hb:0<b):q1B (a:Int) b=((a/b+if b≤2*(a%b)then 1 else 0:Nat):Int):=by
 rw[q1B,if_neg (by omega)]
 have h1:=Nat.div_add_mod a b
 have h2:=Nat.mod_lt a hb
 generalize a/b=q at*
 generalize a%b=r at*
 have e:(2*(a:Int)+b)=(2*(r:Int)+b)+(2*(b:Int)) *q:=by
  rw[←h1];simp only[Int.natCast_add,Int.natCast_mul];grind
 rw[e,Int.add_mul_ediv_left _ _ (by omega)]
 split
 ·have:(2*(r:Int)+b)/(2*b)=1:=by
   rw[Int.ediv_eq_iff_of_pos (by omega)];omega
  rw[this];omega
 have:(2*(r:Int)+b)/(2*b)=0:=Int.ediv_eq_zero_of_lt (by omega) (by omega)
 rw[this];omega
set_option maxHeartbeats 2000000 in
theorem qpF (fr to:Int)(rev:Bool)(at_:Int):PU qq2 [.int .i64 fr,.int .i64 to,.bool rev,.int .i64 at_]=some (.tup [.int .i64 (q3R fr to rev at_).1,.int .i64 (q3R fr to rev at_).2]):=by
 by_cases hb:q4X fr to at_
 ·rw[q3R,if_pos hb]
  unfold q4X at hb
  refine q0g (fn:=q8Q) rfl (q0a ?_)
  repeat' (first
   |refine goP 800 rfl rfl ?_
   |refine q0h rfl ?_|refine q0m rfl ?_|refine q08 rfl (fun _=>?_) (fun _=>?_)
   |refine q0d rfl ?_|refine q0i rfl ?_|refine q01 rfl (fun _=>?_) (fun _=>?_)
   |refine q0Q rfl (fun _=>?_) (fun _=>?_)
   |refine q09 rfl rfl rfl trivial ?_)
  all_goals first
   |rfl
   |(exfalso;simp only[q06,q07]at*;omega)
 rw[q3R,if_neg hb]
 unfold q4X at hb
 obtain⟨F,rfl⟩:∃n:Nat,fr=n:=⟨fr.toNat,by omega⟩
 obtain⟨T,rfl⟩:∃n:Nat,to=n:=⟨to.toNat,by omega⟩
 obtain⟨A,rfl⟩:∃n:Nat,at_=n:=⟨at_.toNat,by omega⟩
 have hF:0<F:=by omega
 have hprod:A*T≤F*T:=Nat.mul_le_mul_right _ (by omega)
 have hm:=qG1 A T (by omega) (by omega)
 have hquo:A*T/F≤T:=by
  rw[Nat.div_le_iff_le_mul_add_pred hF]
  omega
 have hhi:A*T/18446744073709551616<F:=by
  rw[Nat.div_lt_iff_lt_mul (by decide)]
  exact Nat.lt_of_le_of_lt hprod (Nat.mul_lt_mul_of_pos_left (by omega) hF)
 have hd:=qG2 (A*T/18446744073709551616) (A*T%18446744073709551616) F hhi (by omega) (Nat.mod_lt _ (by decide))
 have e0:A*T/18446744073709551616*18446744073709551616+A*T%18446744073709551616=A*T:=by
  have:=Nat.div_add_mod (A*T) 18446744073709551616
  rw[Nat.mul_comm]at this;exact this
 rw[e0]at hd
 have hr:=qnY (a:=A*T) hF
 rw[Int.natCast_mul]at hr
 rw[hr]
 have hmod:=Nat.mod_lt (A*T) hF
 have w1:IntKind.u64.wrap ((A:Nat):Int)=(A:Int):=q0F (by omega)
 have w2:IntKind.u64.wrap ((T:Nat):Int)=(T:Int):=q0F (by omega)
 have w3:IntKind.u64.wrap ((F:Nat):Int)=(F:Int):=q0F (by omega)
 have no:∀{x y:Int} {P:Prop},¬x<y→ltb x y=true→P:=fun h g=>absurd (q06.1 g) h
 generalize A*T/F=q at*
 generalize A*T%F=r at*
 have w4:IntKind.u64.wrap (2*(r:Int))=((2*r:Nat):Int):=qc0 (x:=2) (by omega)
 have w5:IntKind.u64.wrap ((q:Int)+1)=((q+1:Nat):Int):=qdm (y:=1) (by omega)
 refine q0g (fn:=q8Q) rfl (q0a ?_)
 refine gg rfl (q08 rfl (no (by omega)) (fun _=>?_))
 refine gg rfl (q08 rfl (no (by omega)) (fun _=>?_))
 refine gg rfl (q08 rfl (no (by omega)) (fun _=>?_))
 refine gg rfl (q08 rfl (no (by omega)) (fun _=>?_))
 refine gg rfl (q08 rfl (no (by omega)) (fun _=>?_))
 refine gg rfl (q01 rfl (no (by omega)) (fun _=>?_))
 refine gg rfl ?_
 rw[w1,w2]
 refine q02 rfl rfl hm (gg rfl ?_)
 rw[w3]
 refine q02 rfl rfl hd (gg rfl ?_)
 rw[w4,w3]
 refine q01 rfl (fun g=>?_) (fun g=>?_)
 ·rw[q0G]at g
  have ei:(if F≤2*r then 1 else 0:Nat)=1:=if_pos (by omega)
  simp only[ei]
  have w6:=ww (x:=((q+1:Nat):Int))
  have w7:=ww (x:=(T:Int)-((q+1:Nat):Int))
  refine gg rfl ?_
  rw[w5,w6]
  cases rev with
  |true=>
   refine q0d rfl (gg rfl ?_)
   rw[w7]
   exact q09 rfl rfl rfl trivial rfl
  |false=>
   exact q0i rfl (gg rfl (q09 rfl rfl rfl trivial rfl))
 rw[q0I]at g
 have ei:(if F≤2*r then 1 else 0:Nat)=0:=if_neg (by omega)
 simp only[ei]
 have w6:=ww (x:=((q:Nat):Int))
 have w7:=ww (x:=(T:Int)-((q:Nat):Int))
 refine gg rfl ?_
 rw[w6]
 cases rev with
 |true=>
  refine q0d rfl (gg rfl ?_)
  rw[w7]
  exact q09 rfl rfl rfl trivial rfl
 |false=>
  exact q0i rfl (gg rfl (q09 rfl rfl rfl trivial rfl))
def q1E (p:Piece)(g:List Edge)(n:Ntc):Int×Int:=
 if n.edge<0∨(p.edges.length:Int)≤n.edge then(0,3)
 else if(q16 (eg p.edges n.edge.toNat).line).2≠0 then(0,(q16 (eg p.edges n.edge.toNat).line).2)
 else if(q16 (eg g n.edge.toNat).line).2≠0 then(0,(q16 (eg g n.edge.toNat).line).2)
 else q3R (q16 (eg p.edges n.edge.toNat).line).1 (q16 (eg g n.edge.toNat).line).1 false n.at_
def q2O (p:Piece)(g:List Edge):List Ntc→Int
 |[]=>0
 |n::l=>if(q1E p g n).2=0 then q2O p g l else(q1E p g n).2
def q0W (p:Piece)(m:Int):List Int×Int:=
 if(q0p p m).2≠0 then([],(q0p p m).2)
 else if 16<p.notches.length then([],5)
 else if q2O p (q0p p m).1 p.notches≠0 then([],q2O p (q0p p m).1 p.notches)
 else(p.notches.map fun n=>(q1E p (q0p p m).1 n).1,0)
theorem q2l {p:Piece}{m:Int}(h:(q0p p m).2=0):(q0p p m).1.length=p.edges.length∧q0O p.edges=0∧q0O (q0p p m).1=0∧p.corners.length=p.edges.length:=by
 unfold q0p at h⊢
 split at h
 ·cases h
 rename_i h1
 rw[if_neg h1]
 split at h
 ·cases h
 rename_i h2
 rw[if_neg h2]
 split at h
 ·cases h
 rename_i h3
 rw[if_neg h3]
 split at h
 ·rename_i h4;exact absurd h h4
 rename_i h4
 rw[if_neg h4]
 split at h
 ·rename_i h5;exact absurd h h5
 rename_i h5
 rw[if_neg h5]
 exact⟨by simp[q3Z],by simpa using h4,by simpa using h5,by simpa using h2⟩
set_option maxHeartbeats 4000000 in
theorem qDN (p:Piece)(m:Int)(hc:p.corners.length≤1000000):
 PU qq1 [p.enc,.int .i64 m]=some (.tup [ints (q0W p m).1,edges (if(q0W p m).2=0 then(q0p p m).1 else []),.int .i64 (q0W p m).2]):=by
 refine q0g (fn:=qeq) rfl (q0a ?_)
 refine gg rfl (q02 rfl rfl (q67 p m hc) (gg rfl (q01 rfl (fun h=>?_) (fun h=>?_))))
 ·rw[q0w]at h
  refine gg rfl (q09 rfl rfl rfl trivial ?_)
  rw[q0W,if_pos h,if_neg h];rfl
 have h:(q0p p m).2=0:=q0B.1 h
 obtain⟨hg,_,_⟩:=q2l h
 have hr:q0W p m=if 16<p.notches.length then([],5)
  else if q2O p (q0p p m).1 p.notches≠0 then([],q2O p (q0p p m).1 p.notches)
  else(p.notches.map fun n=>(q1E p (q0p p m).1 n).1,0):=by rw[q0W,if_neg (by omega)]
 rw[hr]
 generalize (q0p p m).1=G at*
 refine gg rfl ?_
 rw[List.length_map]
 refine q01 rfl (fun h2=>?_) (fun h2=>?_)
 ·rw[q06]at h2
  refine gg rfl (q09 rfl rfl rfl trivial ?_)
  rw[if_pos (by omega)];rfl
 rw[q07]at h2
 rw[if_neg (by omega)]
 refine gg rfl ?_
 rw[List.length_map]
 refine q0l (S:=fun k:Nat=>([.ptr 0 0 0,edges G,.ref 2 0 k,q51 p.notches,q00 p.notches.length,q00 k],[some (.row [p.enc] 7),none,some (.row (((p.notches.take k).map fun n=>(q1E p G n).1).map q00) 1),none,none,none],[0,0,0,0,0,0])) (C:=fun k=>k≤p.notches.length∧q2O p G p.notches=q2O p G (p.notches.drop k)) (m:=fun k=>p.notches.length-k) 0 ⟨Nat.zero_le _,rfl⟩ (by omega) ?_ ?_
 ·exact q03 rfl ⟨rfl,rfl,trivial⟩ rfl
 rintro k ⟨hk,hke⟩ N hN
 refine gg rfl (q01 rfl (fun e1=>?_) (fun e1=>?_))
 ·rw[q06]at e1
  have hlt:k<p.notches.length:=by omega
  have w1:=wS (n:=k)
  have hdr:p.notches.drop k=nt p.notches k::p.notches.drop (k+1):=by rw[List.drop_eq_getElem_cons hlt,qwv hlt]
  have hst:(((p.notches.take (k+1)).map fun n=>(q1E p G n).1).map q00)=((p.notches.take k).map fun n=>(q1E p G n).1).map q00++[q00 (q1E p G (nt p.notches k)).1]:=by
   rw[List.take_succ_eq_append_getElem hlt,List.map_append,List.map_append,qwv hlt];rfl
  have hne:=qhE hlt
  rw[hdr,q2O]at hke
  generalize nt p.notches k=n at*
  have bad:(q1E p G n).2≠0→q2O p G p.notches=(q1E p G n).2:=fun h=>by rw[hke,if_neg h]
  refine gg rfl (q0j k rfl rfl rfl hne rfl (gg rfl (q08 rfl (fun f1=>?_) (fun f1=>?_))))
  ·rw[q06]at f1
   have hn:q1E p G n=(0,3):=by rw[q1E,if_pos (.inl f1)]
   rw[hn]at bad
   refine gg rfl (q0d rfl (gg rfl (q04 (gg rfl (q09 rfl rfl rfl trivial ?_)))))
   rw[bad (by decide)];rfl
  rw[q07]at f1
  refine gg rfl ?_
  rw[List.length_map]
  refine q01 rfl (fun f2=>?_) (fun f2=>?_)
  ·rw[q0G]at f2
   have hn:q1E p G n=(0,3):=by rw[q1E,if_pos (.inr f2)]
   rw[hn]at bad
   refine gg rfl (q04 (gg rfl (q09 rfl rfl rfl trivial ?_)))
   rw[bad (by decide)];rfl
  rw[q0I]at f2
  have ei:n.edge=((n.edge.toNat:Nat):Int):=by omega
  have hl1:n.edge.toNat<p.edges.length:=by omega
  have hl2:n.edge.toNat<G.length:=by omega
  have l1:=q44 (eg p.edges n.edge.toNat).line
  have l2:=q44 (eg G n.edge.toNat).line
  have hn0:q1E p G n=if(q16 (eg p.edges n.edge.toNat).line).2≠0 then(0,(q16 (eg p.edges n.edge.toNat).line).2)
   else if(q16 (eg G n.edge.toNat).line).2≠0 then(0,(q16 (eg G n.edge.toNat).line).2)
   else q3R (q16 (eg p.edges n.edge.toNat).line).1 (q16 (eg G n.edge.toNat).line).1 false n.at_:=by rw[q1E,if_neg (by omega)]
  refine gg rfl (q0j n.edge.toNat rfl rfl ei (q1D hl1) rfl (gg rfl (q02 rfl rfl l1 (gg rfl (q01 rfl (fun f3=>?_) (fun f3=>?_))))))
  ·rw[q0w]at f3
   rw[if_pos f3]at hn0
   rw[hn0]at bad
   refine gg rfl (q04 (gg rfl (q09 rfl rfl rfl trivial ?_)))
   rw[bad f3,if_pos f3,if_neg f3];rfl
  rw[q0B]at f3
  rw[if_neg (by simp[f3])]at hn0
  refine gg rfl (q0j n.edge.toNat rfl rfl ei (q1D hl2) rfl (gg rfl (q02 rfl rfl l2 (gg rfl (q01 rfl (fun f4=>?_) (fun f4=>?_))))))
  ·rw[q0w]at f4
   rw[if_pos f4]at hn0
   rw[hn0]at bad
   refine gg rfl (q04 (gg rfl (q09 rfl rfl rfl trivial ?_)))
   rw[bad f4,if_pos f4,if_neg f4];rfl
  rw[q0B]at f4
  rw[if_neg (by simp[f4])]at hn0
  refine gg rfl (q02 rfl rfl (qpF (q16 (eg p.edges n.edge.toNat).line).1 (q16 (eg G n.edge.toNat).line).1 false n.at_) ?_)
  rw[←hn0]
  refine gg rfl (q01 rfl (fun f5=>?_) (fun f5=>?_))
  ·rw[q0w]at f5
   refine gg rfl (q04 (gg rfl (q09 rfl rfl rfl trivial ?_)))
   rw[bad f5,if_pos f5,if_neg f5];rfl
  rw[q0B]at f5
  rw[if_pos f5]at hke
  refine gg rfl (q1g rfl rfl rfl rfl rfl rfl (by simp;omega) (Nat.zero_le _) (by simp[q0N];omega) ?_)
  refine gg rfl (q04 (hN (k+1) ⟨hlt,hke⟩ (by omega) (q03 rfl ⟨rfl,?_,trivial⟩ ?_)))
  ·rw[List.all_append,q05 q4Q];rfl
  rw[hst,w1];rfl
 rw[q07]at e1
 obtain rfl:k=p.notches.length:=by omega
 have hz:q2O p G p.notches=0:=by rw[hke,List.drop_length];rfl
 rw[hz,List.take_length]
 refine gg rfl (q04 (gg rfl (q09 rfl rfl rfl ⟨q1n (by simp) (q0L q7e _),trivial⟩ ?_)))
 rw[q1o (by simp)];rfl
theorem qbq (p:Piece)(m:Int)(hc:p.corners.length≤1000000):PU qpT [p.enc,.int .i64 m]=some (.tup [ints (q0W p m).1,.int .i64 (q0W p m).2]):=by
 have h:=qDN p m hc
 refine q0g (fn:=qdJ) rfl (q0a ?_)
 exact gg rfl (q02 rfl rfl h (gg rfl (q09 rfl rfl rfl trivial rfl)))
end Go.F

namespace Go.F
attribute [local irreducible] IntKind.wrap wpM
section
variable {T:Tab}{sh:Shr}{nx0:Nat}{s:List Fr}{t:q0z}{h:q0e}{z:Frz}{nx:Nat}{q:Ex→q0z→q0e→Frz→Nat→Prop}
variable {base i:Nat}{res:List Nat}{g:Gd}{rest:List KOper}
end
def q38 (n:Nat):Bool:=(decide (65≤n)&&decide (n≤90)) ||(decide (48≤n)&&decide (n≤57))
def sizeS (s:ByteArray):Bool:=decide (1≤s.size)&&(decide (s.size≤8)&&decide (∀i,i<s.size→q38 (q2G s i).toNat=true))
end Go.F

namespace Go.F
attribute [local irreducible] IntKind.wrap wpM
section
variable {T:Tab}{sh:Shr}{nx0:Nat}{s:List Fr}{t:q0z}{h:q0e}{z:Frz}{nx:Nat}{q:Ex→q0z→q0e→Frz→Nat→Prop}
variable {base i:Nat}{res:List Nat}{g:Gd}{rest:List KOper}
end
def q5i (l:List ByteArray):Bool:=(List.range l.length).any fun i=>(l.take i).any fun x=>x.toList==(sz l i).toList
structure StyB (s:Sty):Prop where
 sizes:s.sizes.length≤1000
 size:∀x∈s.sizes,x.size≤1000
 mults:s.mults.length≤1000
 pieces:s.pieces.length≤1000
 uses:s.uses.length≤1000
 seams:s.seams.length≤1000
 ops:s.ops.length≤1000
 corners:∀p∈s.pieces,p.corners.length≤1000
 widths:∀p∈s.pieces,p.widths.length≤1000
 notches:∀p∈s.pieces,p.notches.length≤1000
end Go.F

namespace Go.F
attribute [local irreducible] IntKind.wrap wpM
def q2d (b:List Piece)(p:Piece):Int:=
 if q1X p.name=false then 1
 else if p.grain≠1∧p.grain≠2∧p.grain≠4 then 1
 else if(b.any fun o=>o.name.toList==p.name.toList)then 7
 else if(q0p p 0).2≠0 then(q0p p 0).2
 else if(q0W p 0).2≠0 then(q0W p 0).2
 else if p.widths.length≠p.edges.length then 1
 else if p.widths.any q2v then 3 else 0
def q22 (s:Sty)(p e:Int):Bool:=decide (0≤p)&&(decide (p<s.pieces.length)&&(decide (0≤e)&&decide (e<(pc s.pieces p.toNat).edges.length)))
def q2F (s:Sty)(i:Nat):Int:=q2d (s.pieces.take i) (pc s.pieces i)
end Go.F

namespace Go.F
attribute [local irreducible] IntKind.wrap wpM
structure StyOk (s:Sty):Prop where
 mults:s.mults.length=s.sizes.length
 size:0<s.sizes.length
 sizes:s.sizes.length≤12
 pieces:s.pieces.length≤12
 uses:s.uses.length≤12
 seams:s.seams.length≤24
 use:∀u∈s.uses,0≤u.piece∧u.piece<s.pieces.length∧1≤u.count∧u.count≤4
 piece:∀i,i<s.pieces.length→q2F s i=0
 mult:∀m∈s.mults,-100≤m∧m≤100
 base:0∈s.mults
def qrg (s:Sty)(size use:Int):Prop:=size<0∨(s.sizes.length:Int)≤size∨use<0∨(s.uses.length:Int)≤use
instance (s:Sty)(a b:Int):Decidable (qrg s a b):=by unfold qrg;exact inferInstance
structure Plc where
 garment:Int
 use:Int
 copy:Int
 flip:Bool
 quarter:Int
 x:Int
 y:Int
 deriving DecidableEq
def Plc.enc (p:Plc):D:=.agg [.int .i64 p.garment,.int .i64 p.use,.int .i64 p.copy,.bool p.flip,.int .i64 p.quarter,.int .i64 p.x,.int .i64 p.y]
end Go.F

namespace Go.F
structure WholeOk (s:Sty):Prop where
 name:q1X s.name=true
 size:s.sizes.length≠0
 sizeS:∀x∈s.sizes,sizeS x=true
 mults:s.mults.length=s.sizes.length
 base:0∈s.mults
 once:q5i s.sizes=false
 sizes:s.sizes.length≤12
 pieces:s.pieces.length≤12
 uses:s.uses.length≤12
 seams:s.seams.length≤24
 ops:s.ops.length≤16
 mult:∀m∈s.mults,-100≤m∧m≤100
end Go.F

namespace Go.F
attribute [local irreducible] IntKind.wrap wpM
def qzF (p:Piece)(m:Int)(e:Nat):Int:=(q16 (eg (q0p p m).1 e).line).1
theorem qD8 {p:Piece}{m:Int}{e:Nat}(hg:(q0p p m).2=0)(he:e<p.edges.length):q16 (eg (q0p p m).1 e).line=(qzF p m e,0):=by
 have hl:=q2l hg
 have h0:q1C (eg (q0p p m).1 e).line=0:=q34 (q1e (q18 hl.2.2.1).2.2.1 (by rw[hl.1];exact he))
 unfold qzF q16
 rw[if_pos h0]
theorem qfm (p:Piece)(m:Int)(e:Nat)(hc:p.corners.length≤1000000)(hg:(q0p p m).2=0)(he:e<p.edges.length):PU qrW [p.enc,.int .i64 m,.int .i64 e]=some (.tup [.int .i64 (qzF p m e),.int .i64 0]):=by
 have h1:=q67 p m hc
 have hl:=q2l hg
 have h2:=q44 (eg (q0p p m).1 e).line
 rw[qD8 hg he]at h2
 have hn:∀{x:Int} {P:Prop},nqb x x=true→P:=fun h=>absurd rfl (q0w.1 h)
 refine q0g (fn:=qgs) rfl (q0a ?_)
 refine gg rfl (q02 rfl rfl h1 (gg rfl ?_))
 rw[hg]
 refine q01 rfl hn (fun _=>?_)
 refine gg rfl (q0j e rfl rfl rfl (q1D (by omega)) rfl ?_)
 exact gg rfl (q02 rfl rfl h2 (gg rfl (q09 rfl rfl rfl trivial rfl)))
theorem qrv (s:Sty)(z:Nat)(hz:z<s.mults.length):PU qrU [s.enc,.int .i64 z]=some (.bool true):=by
 refine q0g (fn:=qgo) rfl (q0a ?_)
 refine gg rfl (q08 rfl (fun g=>?_) (fun g=>?_))
 ·refine gg rfl (q09 rfl rfl rfl trivial ?_)
  rw[List.length_map,q1U,decide_eq_true (by omega)]
 rw[q0I]at g;omega
theorem qfn (s:Sty)(p e:Int):PU qrV [s.enc,.int .i64 p,.int .i64 e]=some (.bool (q22 s p e)):=by
 refine q0g (fn:=qgq) rfl (q0a ?_)
 refine gg rfl (q08 rfl (fun g1=>?_) (fun g1=>?_))
 ·rw[q0G]at g1
  refine gg rfl ?_
  rw[List.length_map]
  refine q08 rfl (fun g2=>?_) (fun g2=>?_)
  ·rw[q06]at g2
   refine gg rfl (q08 rfl (fun g3=>?_) (fun g3=>?_))
   ·rw[q0G]at g3
    refine gg rfl (q0j p.toNat rfl rfl (by omega) (q4N (by omega)) rfl ?_)
    refine gg rfl (q09 rfl rfl rfl trivial ?_)
    rw[q22,decide_eq_true g1,decide_eq_true g2,decide_eq_true g3,q1U,List.length_map];rfl
   rw[q0I]at g3
   refine gg rfl (q09 rfl rfl rfl trivial ?_)
   rw[q22,decide_eq_false (show¬0≤e by omega)];simp
  rw[q07]at g2
  refine gg rfl (q0m rfl (gg rfl (q09 rfl rfl rfl trivial ?_)))
  rw[q22,decide_eq_false (show¬p<s.pieces.length by omega)];simp
 rw[q0I]at g1
 refine gg rfl (q0m rfl (gg rfl (q0m rfl (gg rfl (q09 rfl rfl rfl trivial ?_)))))
 rw[q22,decide_eq_false (show¬0≤p by omega)];rfl
theorem q5F {s:Sty}{p e:Int}(h:q22 s p e=true):0≤p∧p.toNat<s.pieces.length∧0≤e∧e.toNat<(pc s.pieces p.toNat).edges.length:=by
 unfold q22 at h
 simp only[Bool.and_eq_true,decide_eq_true_eq]at h
 omega
structure SewOk (s:Sty)(z k:Nat):Prop where
 size:z<s.mults.length
 seam:k<s.seams.length
 ea:q22 s (sw s.seams k).pa (sw s.seams k).ea=true
 eb:q22 s (sw s.seams k).pb (sw s.seams k).eb=true
 ga:(q0p (pc s.pieces (sw s.seams k).pa.toNat) (mu s.mults z)).2=0
 gb:(q0p (pc s.pieces (sw s.seams k).pb.toNat) (mu s.mults z)).2=0
 ca:∀p∈s.pieces,p.corners.length≤1000000
def qjY (s:Sty)(z:Nat)(m:Sew):Int:=qzF (pc s.pieces m.pa.toNat) (mu s.mults z) m.ea.toNat
def qjZ (s:Sty)(z:Nat)(m:Sew):Int:=qzF (pc s.pieces m.pb.toNat) (mu s.mults z) m.eb.toNat
theorem qrw (s:Sty)(z k:Nat)(h:SewOk s z k):PU qpP [s.enc,.int .i64 z,.int .i64 k]=some (.tup [.int .i64 (qjY s z (sw s.seams k)),.int .i64 (qjZ s z (sw s.seams k)),.int .i64 0]):=by
 obtain⟨hz,hk,hea,heb,hga,hgb,hca⟩:=h
 have hx:=qkT hk
 unfold qjY qjZ
 generalize sw s.seams k=m at*
 obtain⟨a1,a2,a3,a4⟩:=q5F hea
 obtain⟨b1,b2,b3,b4⟩:=q5F heb
 have e1:=qfn s m.pa m.ea
 have e2:=qfn s m.pb m.eb
 rw[hea]at e1
 rw[heb]at e2
 have la:=qfm (pc s.pieces m.pa.toNat) (mu s.mults z) m.ea.toNat (hca _ (q7Y a2)) hga a4
 have lb:=qfm (pc s.pieces m.pb.toNat) (mu s.mults z) m.eb.toNat (hca _ (q7Y b2)) hgb b4
 have ia:((m.ea.toNat:Nat):Int)=m.ea:=by omega
 have ib:((m.eb.toNat:Nat):Int)=m.eb:=by omega
 rw[ia]at la
 rw[ib]at lb
 have hn:∀{x:Int} {P:Prop},nqb x x=true→P:=fun h=>absurd rfl (q0w.1 h)
 refine q0g (fn:=qdY) rfl (q0a ?_)
 refine gg rfl (q02 rfl rfl (qrv s z hz) (gg rfl (q0m rfl (gg rfl (q08 rfl (fun g=>?_) (fun g=>?_))))))
 ·rw[q06]at g;omega
 refine gg rfl ?_
 rw[List.length_map]
 refine q01 rfl (fun g=>?_) (fun g=>?_)
 ·rw[q0G]at g;omega
 refine gg rfl (q0j k rfl rfl rfl hx rfl (gg rfl (q02 rfl rfl e1 (gg rfl (q0m rfl (gg rfl (q02 rfl rfl e2 (gg rfl (q0i rfl (gg rfl (q0j m.pa.toNat rfl rfl (by omega) (q4N a2) rfl ?_)))))))))))
 refine gg rfl (q0j z rfl rfl rfl (q7Z hz) rfl (gg rfl (q02 rfl rfl la (gg rfl (q01 rfl hn (fun _=>?_))))))
 refine gg rfl (q0j m.pb.toNat rfl rfl (by omega) (q4N b2) rfl ?_)
 refine gg rfl (q0j z rfl rfl rfl (q7Z hz) rfl (gg rfl (q02 rfl rfl lb (gg rfl (q01 rfl hn (fun _=>?_))))))
 exact gg rfl (q09 rfl rfl rfl trivial rfl)
end Go.F

namespace Go.F
attribute [local irreducible] IntKind.wrap wpM
theorem qDb (fr to:Int)(rev:Bool)(at_:Int): -1099511627777≤(q3R fr to rev at_).1∧(q3R fr to rev at_).1≤1099511627777:=by
 by_cases hb:q4X fr to at_
 ·rw[q3R,if_pos hb];decide
 rw[q3R,if_neg hb]
 unfold q4X at hb
 obtain⟨F,rfl⟩:∃n:Nat,fr=n:=⟨fr.toNat,by omega⟩
 obtain⟨T,rfl⟩:∃n:Nat,to=n:=⟨to.toNat,by omega⟩
 obtain⟨A,rfl⟩:∃n:Nat,at_=n:=⟨at_.toNat,by omega⟩
 have hr:=qnY (a:=A*T) (b:=F) (by omega)
 rw[Int.natCast_mul]at hr
 have hquo:A*T/F≤T:=Nat.div_le_of_le_mul (Nat.mul_le_mul_right _ (by omega))
 have hR:0≤q1B ((A:Int) *T) F∧q1B ((A:Int) *T) F≤T+1:=by
  rw[hr]
  generalize A*T/F=x at*
  split<;>omega
 simp only
 split<;>omega
structure Sid where
 ns:List Ntc
 ps:List Int
 edge:Int
 len:Int
def Sid.enc (s:Sid):D:=.agg [q51 s.ns,ints s.ps,.int .i64 s.edge,.int .i64 s.len]
structure SidOk (s:Sid):Prop where
 len:s.ps.length=s.ns.length
 few:s.ns.length≤1000
 bd:∀x∈s.ps,-1099511627777≤x∧x≤1099511627777
def qFq (s:Sid)(at_:Int)(i:Nat):Bool:=decide ((nt s.ns i).edge=s.edge)&&decide (max (mu s.ps i-at_) (at_-mu s.ps i)≤1000)
def qry (s:Sid)(at_:Int):Bool:=(List.range s.ns.length).any (qFq s at_)
set_option maxHeartbeats 2000000 in
theorem has_PU (s:Sid)(at_:Int)(h:SidOk s)(h1: -1099511627777≤at_)(h2:at_≤1099511627777):PU qht [s.enc,.int .i64 at_]=some (.bool (qry s at_)):=by
 have hlen:=h.len
 have hfew:=h.few
 refine q0g (fn:=q8D) rfl (q0a ?_)
 refine gg rfl ?_
 rw[List.length_map]
 refine q0l (S:=fun k:Nat=>([.int .i64 at_,.ptr 1 0 0,q51 s.ns,q00 s.ns.length,q00 k],[none,some (.row [s.enc] 4),none,none,none],[0,0,0,0,0])) (C:=fun k=>k≤s.ns.length∧∀i,i<k→qFq s at_ i=false) (m:=fun k=>s.ns.length-k) 0 ⟨Nat.zero_le _,fun i hi=>by omega⟩ (by omega) ?_ ?_
 ·exact q03 rfl ⟨rfl,trivial⟩ rfl
 rintro k ⟨hk,hno⟩ N hN
 refine gg rfl (q01 rfl (fun e=>?_) (fun e=>?_))
 ·rw[q06]at e
  have hlt:k<s.ns.length:=by omega
  have w1:=wS (n:=k)
  have hx:=qhE hlt
  have hp:=q7Z (l:=s.ps) (i:=k) (by omega)
  have hpb:=h.bd (mu s.ps k) (by rw[qkU (by omega)];exact List.getElem_mem _)
  have hnb:qFq s at_ k=(decide ((nt s.ns k).edge=s.edge)&&decide (max (mu s.ps k-at_) (at_-mu s.ps k)≤1000)):=rfl
  have yes:qFq s at_ k=true→qry s at_=true:=fun hh=>List.any_eq_true.2 ⟨k,List.mem_range.2 hlt,hh⟩
  have nxt:qFq s at_ k=false→∀i,i<k+1→qFq s at_ i=false:=by
   intro hh i hi
   by_cases ei:i=k
   ·subst ei;exact hh
   exact hno i (by omega)
  generalize nt s.ns k=n at*
  generalize mu s.ps k=q at*
  have wa:=ww (x:=q-at_)
  have wb:=ww (x:=at_-q)
  refine gg rfl (q0j k rfl rfl rfl hx rfl (gg rfl (q08 rfl (fun f=>?_) (fun f=>?_))))
  ·rw[q1I]at f
   refine gg rfl (q0j k rfl rfl rfl hp rfl (gg rfl (q0j k rfl rfl rfl hp rfl (gg rfl ?_))))
   rw[wa,wb]
   refine q01 rfl (fun f2=>?_) (fun f2=>?_)
   ·rw[q0G]at f2
    refine gg rfl (q04 (gg rfl (q09 rfl rfl rfl trivial ?_)))
    rw[yes (by rw[hnb,decide_eq_true f,decide_eq_true f2];rfl)]
   rw[q0I]at f2
   exact gg rfl (q04 (hN (k+1) ⟨hlt,nxt (by rw[hnb,decide_eq_false (show¬max (q-at_) (at_-q)≤1000 by omega)];simp)⟩ (by omega) (q03 rfl ⟨rfl,trivial⟩ (by rw[w1];rfl))))
  rw[q1J]at f
  exact gg rfl (q0i rfl (gg rfl (q04 (hN (k+1) ⟨hlt,nxt (by rw[hnb,decide_eq_false f];rfl)⟩ (by omega) (q03 rfl ⟨rfl,trivial⟩ (by rw[w1];rfl))))))
 rw[q07]at e
 obtain rfl:k=s.ns.length:=by omega
 clear hN
 refine gg rfl (q04 (gg rfl (q09 rfl rfl rfl trivial ?_)))
 have:qry s at_=false:=by
  unfold qry
  rw[List.any_eq_false]
  intro i hi
  rw[hno i (List.mem_range.1 hi)];decide
 rw[this]
def ql5 (a b:Sid)(rev:Bool)(i:Nat):Bool:=decide ((nt a.ns i).edge=a.edge)&&(decide ((q3R a.len b.len rev (mu a.ps i)).2≠0) ||!qry b (q3R a.len b.len rev (mu a.ps i)).1)
def qfo (a b:Sid)(rev:Bool):List Nat:=(List.range a.ns.length).filter (ql5 a b rev)
def qfp (n:Nat):D:=.int .i64 n
theorem qfq (f:Nat→Bool)(k:Nat):(List.range (k+1)).filter f=(List.range k).filter f++(if f k then [k]else []):=by
 rw[List.range_succ,List.filter_append]
 congr 1
 cases h:f k<;>simp[List.filter,h]
set_option maxHeartbeats 4000000 in
theorem qzG (a b:Sid)(rev:Bool)(ha:SidOk a)(hb:SidOk b):PU qrX [a.enc,b.enc,.bool rev]=some (.lst ((qfo a b rev).map qfp)):=by
 have hlen:=ha.len
 have hfew:=ha.few
 refine q0g (fn:=qg3) rfl (q0a ?_)
 refine gg rfl ?_
 rw[List.length_map]
 refine q0l (S:=fun k:Nat=>([.bool rev,.ptr 1 0 0,.ptr 2 0 0,.ref 3 0 ((List.range k).filter (ql5 a b rev)).length,q51 a.ns,q00 a.ns.length,q00 k],[none,some (.row [a.enc] 4),some (.row [b.enc] 4),some (.row (((List.range k).filter (ql5 a b rev)).map qfp) 1),none,none,none],[0,0,0,0,0,0,0])) (C:=fun k=>k≤a.ns.length) (m:=fun k=>a.ns.length-k) 0 (Nat.zero_le _) (by omega) ?_ ?_
 ·exact q03 rfl ⟨rfl,rfl,rfl,trivial⟩ rfl
 intro k hk N hN
 refine gg rfl (q01 rfl (fun e=>?_) (fun e=>?_))
 ·rw[q06]at e
  have hlt:k<a.ns.length:=by omega
  have w1:=wS (n:=k)
  have hx:=qhE hlt
  have hp:=q7Z (l:=a.ps) (i:=k) (by omega)
  have hst:=qfq (ql5 a b rev) k
  have hlb:ql5 a b rev k=(decide ((nt a.ns k).edge=a.edge)&&(decide ((q3R a.len b.len rev (mu a.ps k)).2≠0) ||!qry b (q3R a.len b.len rev (mu a.ps k)).1)):=rfl
  have hfl:((List.range k).filter (ql5 a b rev)).length≤k:=by
   have:=List.length_filter_le (ql5 a b rev) (List.range k)
   rw[List.length_range]at this;exact this
  generalize nt a.ns k=n at*
  generalize mu a.ps k=q at*
  have pb:=qDb a.len b.len rev q
  have hP:=qpF a.len b.len rev q
  have hH:=has_PU b (q3R a.len b.len rev q).1 hb pb.1 pb.2
  generalize (List.range k).filter (ql5 a b rev)=L at*
  have no:ql5 a b rev k=false→(List.range (k+1)).filter (ql5 a b rev)=L:=fun h=>by rw[hst,h];simp
  have ye:ql5 a b rev k=true→(List.range (k+1)).filter (ql5 a b rev)=L++[k]:=fun h=>by rw[hst,h];rfl
  refine gg rfl (q0j k rfl rfl rfl hx rfl (gg rfl (q01 rfl (fun f=>?_) (fun f=>?_))))
  ·rw[q0w]at f
   have hst0:=no (by rw[hlb,decide_eq_false f];rfl)
   refine gg rfl (q04 (hN (k+1) hlt (by omega) (q03 rfl ⟨rfl,rfl,q05 (fun _=>rfl) _,trivial⟩ ?_)))
   rw[hst0,w1];rfl
  rw[q0B]at f
  refine gg rfl (q0j k rfl rfl rfl hp rfl (gg rfl (q02 rfl rfl hP (gg rfl (q08 rfl (fun f2=>?_) (fun f2=>?_))))))
  ·rw[q0w]at f2
   have hst1:=ye (by rw[hlb,decide_eq_true f,decide_eq_true f2];rfl)
   refine gg rfl (q0d rfl (gg rfl (q1g rfl rfl rfl rfl rfl rfl (by simp) (Nat.zero_le _) (by simp[q0N];omega) ?_)))
   refine gg rfl (q04 (hN (k+1) hlt (by omega) (q03 rfl ⟨rfl,rfl,?_,trivial⟩ ?_)))
   ·rw[List.all_append,q05 (fun _=>rfl)];rfl
   rw[hst1,w1]
   simp[q51,q00,Sid.enc,qfp]
  rw[q0B]at f2
  refine gg rfl (q02 rfl rfl hH ?_)
  cases hh:qry b (q3R a.len b.len rev q).1 with
  |true=>
   have hst0:=no (by rw[hlb,hh,f2];simp)
   refine gg rfl (q0i rfl (gg rfl (q04 (hN (k+1) hlt (by omega) (q03 rfl ⟨rfl,rfl,q05 (fun _=>rfl) _,trivial⟩ ?_)))))
   rw[hst0,w1];rfl
  |false=>
   have hst1:=ye (by rw[hlb,hh,decide_eq_true f];simp)
   refine gg rfl (q0d rfl (gg rfl (q1g rfl rfl rfl rfl rfl rfl (by simp) (Nat.zero_le _) (by simp[q0N];omega) ?_)))
   refine gg rfl (q04 (hN (k+1) hlt (by omega) (q03 rfl ⟨rfl,rfl,?_,trivial⟩ ?_)))
   ·rw[List.all_append,q05 (fun _=>rfl)];rfl
   rw[hst1,w1]
   simp[q51,q00,Sid.enc,qfp]
 rw[q07]at e
 obtain rfl:k=a.ns.length:=by omega
 clear hN
 refine gg rfl (q04 (gg rfl (q09 rfl rfl rfl ⟨q1n (by simp) (q0L (fun _=>rfl) _),trivial⟩ ?_)))
 rw[q1o (by simp)];rfl
end Go.F

namespace Go.F
attribute [local irreducible] IntKind.wrap wpM
structure Iss where
 kind:Int
 a:Int
 b:Int
 deriving DecidableEq
def Iss.enc (i:Iss):D:=.agg [.int .i64 i.kind,.int .i64 i.a,.int .i64 i.b]
def qrz (l:List Iss):D:=.lst (l.map Iss.enc)
theorem q0S (i:Iss):plain 4 i.enc=true:=rfl
theorem qfV (i:Iss):dat 4 i.enc=true:=rfl
def mz (s:Sty)(z:Nat):Int:=mu s.mults z
def pcA (s:Sty)(m:Sew):Piece:=pc s.pieces m.pa.toNat
def pcB (s:Sty)(m:Sew):Piece:=pc s.pieces m.pb.toNat
def ql6 (s:Sty)(z:Nat)(m:Sew):Sid:=⟨(pcA s m).notches,(q0W (pcA s m) (mz s z)).1,m.ea,qjY s z m⟩
def ql7 (s:Sty)(z:Nat)(m:Sew):Sid:=⟨(pcB s m).notches,(q0W (pcB s m) (mz s z)).1,m.eb,qjZ s z m⟩
def q8g (kd:Int)(l:List Nat):List Iss:=l.map fun i:Nat=>(⟨kd,0,(i:Int)⟩:Iss)
def qFr (s:Sty)(z:Nat)(m:Sew):List Iss:=q8g 1 (qfo (ql6 s z m) (ql7 s z m) m.rev)++q8g 2 (qfo (ql7 s z m) (ql6 s z m) m.rev)
theorem qFs {p:Piece}{m:Int}(h:(q0W p m).2=0):(q0W p m).1.length=p.notches.length∧p.notches.length≤16∧∀x∈(q0W p m).1,-1099511627777≤x∧x≤1099511627777:=by
 unfold q0W at h⊢
 split at h
 ·rename_i g;exact absurd h g
 rename_i g
 rw[if_neg g]
 split at h
 ·cases h
 rename_i g2
 rw[if_neg g2]
 split at h
 ·rename_i g3;exact absurd h g3
 rename_i g3
 rw[if_neg g3]
 refine⟨by simp,by omega,fun x hx=>?_⟩
 obtain⟨n,_,rfl⟩:=List.mem_map.1 hx
 unfold q1E
 split
 ·exact⟨by simp,by simp⟩
 split
 ·exact⟨by simp,by simp⟩
 split
 ·exact⟨by simp,by simp⟩
 exact qDb _ _ _ _
theorem qI0 {p:Piece}{m e l:Int}(h:(q0W p m).2=0):SidOk ⟨p.notches,(q0W p m).1,e,l⟩:=by
 obtain⟨h1,h2,h3⟩:=qFs h
 exact⟨h1,by show p.notches.length≤1000;omega,h3⟩
theorem quv (a b:Sid)(rev:Bool):(qfo a b rev).length≤a.ns.length:=by
 have:=List.length_filter_le (ql5 a b rev) (List.range a.ns.length)
 rw[List.length_range]at this;exact this
def at1 (l:List Nat)(i:Nat):Nat:=l.getD i 0
theorem qDc {l:List Nat}{i:Nat}(h:i<l.length):(l.map qfp)[i]?=some (.int .i64 ((at1 l i:Nat):Int)):=by simp[at1,h,qfp]
theorem qJf {l:List Nat}{i:Nat}(h:i<l.length):at1 l i=l[i]:=by simp[at1,h]
theorem quw (kd:Int){l:List Nat}{k:Nat}(h:k<l.length):q8g kd (l.take (k+1))=q8g kd (l.take k)++[⟨kd,0,(at1 l k:Nat)⟩]:=by
 unfold q8g
 rw[List.take_succ_eq_append_getElem h,List.map_append,qJf h];rfl
set_option maxRecDepth 100000 in
set_option maxHeartbeats 8000000 in
theorem qwH (s:Sty)(z:Nat)(h:SewOk s z 0)(h1:s.seams.length=1)(pa:(q0W (pcA s (sw s.seams 0)) (mz s z)).2=0)(pb:(q0W (pcB s (sw s.seams 0)) (mz s z)).2=0):
 PU qaa [s.enc,.int .i64 z]=some (.tup [qrz (qFr s z (sw s.seams 0)),.int .i64 0]):=by
 have hL:=qrw s z 0 h
 obtain⟨hz,hk,hea,heb,hga,hgb,hca⟩:=h
 have hx:=qkT hk
 obtain⟨a1,a2,a3,a4⟩:=q5F hea
 obtain⟨b1,b2,b3,b4⟩:=q5F heb
 have soA:SidOk (ql6 s z (sw s.seams 0)):=qI0 pa
 have soB:SidOk (ql7 s z (sw s.seams 0)):=qI0 pb
 have hA:=qzG (ql6 s z (sw s.seams 0)) (ql7 s z (sw s.seams 0)) (sw s.seams 0).rev soA soB
 have hB:=qzG (ql7 s z (sw s.seams 0)) (ql6 s z (sw s.seams 0)) (sw s.seams 0).rev soB soA
 have qA:=qbq (pcA s (sw s.seams 0)) (mz s z) (hca _ (q7Y a2))
 have qB:=qbq (pcB s (sw s.seams 0)) (mz s z) (hca _ (q7Y b2))
 rw[pa]at qA
 rw[pb]at qB
 have lA:=quv (ql6 s z (sw s.seams 0)) (ql7 s z (sw s.seams 0)) (sw s.seams 0).rev
 have lB:=quv (ql7 s z (sw s.seams 0)) (ql6 s z (sw s.seams 0)) (sw s.seams 0).rev
 have fA:=soA.few
 have fB:=soB.few
 have hu:qFr s z (sw s.seams 0)=q8g 1 (qfo (ql6 s z (sw s.seams 0)) (ql7 s z (sw s.seams 0)) (sw s.seams 0).rev)++q8g 2 (qfo (ql7 s z (sw s.seams 0)) (ql6 s z (sw s.seams 0)) (sw s.seams 0).rev):=rfl
 have eA:(ql6 s z (sw s.seams 0)).enc=.agg [.lst ((pcA s (sw s.seams 0)).notches.map Ntc.enc),.lst ((q0W (pcA s (sw s.seams 0)) (mz s z)).1.map q00),.int .i64 (sw s.seams 0).ea,.int .i64 (qjY s z (sw s.seams 0))]:=rfl
 have eB:(ql7 s z (sw s.seams 0)).enc=.agg [.lst ((pcB s (sw s.seams 0)).notches.map Ntc.enc),.lst ((q0W (pcB s (sw s.seams 0)) (mz s z)).1.map q00),.int .i64 (sw s.seams 0).eb,.int .i64 (qjZ s z (sw s.seams 0))]:=rfl
 have hpA:(s.pieces.map Piece.enc)[(sw s.seams 0).pa.toNat]?=some (pcA s (sw s.seams 0)).enc:=q4N a2
 have hpB:(s.pieces.map Piece.enc)[(sw s.seams 0).pb.toNat]?=some (pcB s (sw s.seams 0)).enc:=q4N b2
 have hmz:(s.mults.map q00)[z]?=some (q00 (mz s z)):=q7Z hz
 rw[hu]
 generalize qfo (ql6 s z (sw s.seams 0)) (ql7 s z (sw s.seams 0)) (sw s.seams 0).rev=LA at*
 generalize qfo (ql7 s z (sw s.seams 0)) (ql6 s z (sw s.seams 0)) (sw s.seams 0).rev=LB at*
 generalize ql6 s z (sw s.seams 0)=SA at*
 generalize ql7 s z (sw s.seams 0)=SB at*
 generalize qjY s z (sw s.seams 0)=nA at*
 generalize qjZ s z (sw s.seams 0)=nB at*
 generalize (q0W (pcA s (sw s.seams 0)) (mz s z)).1=PA at*
 generalize (q0W (pcB s (sw s.seams 0)) (mz s z)).1=PB at*
 generalize pcA s (sw s.seams 0)=cA at*
 generalize pcB s (sw s.seams 0)=cB at*
 generalize sw s.seams 0=m at*
 have hn:∀{x:Int} {P:Prop},nqb x x=true→P:=fun h=>absurd rfl (q0w.1 h)
 refine q0g (fn:=q9R) rfl (q0a ?_)
 refine gg rfl (q08 rfl (fun g=>?_) (fun g=>?_))
 ·rw[q06]at g;omega
 refine gg rfl ?_
 rw[List.length_map]
 refine q01 rfl (fun g=>?_) (fun g=>?_)
 ·rw[q0G]at g;omega
 refine gg rfl ?_
 rw[List.length_map,h1]
 refine q0l (S:=fun k:Nat=>([.int .i64 z,.ptr 1 0 0,.ref 2 0 (if k=0 then []else q8g 1 LA++q8g 2 LB).length,qdt s.seams,q00 1,q00 k],[none,some (.row [s.enc] 7),some (.row ((if k=0 then []else q8g 1 LA++q8g 2 LB).map Iss.enc) 3),none,none,none],[0,0,0,0,0,0])) (C:=fun k=>k≤1) (m:=fun k=>1-k) 0 (Nat.zero_le _) (by omega) ?_ ?_
 ·exact q03 rfl ⟨rfl,rfl,trivial⟩ rfl
 intro k hk1 N hN
 refine gg rfl (q01 rfl (fun e=>?_) (fun e=>?_))
 ·rw[q06]at e
  obtain rfl:k=0:=by omega
  refine gg rfl (q0j 0 rfl rfl rfl hx rfl (gg rfl (q02 rfl rfl hL (gg rfl (q01 rfl hn (fun _=>?_))))))
  refine gg rfl (q0j m.pa.toNat rfl rfl (by omega) hpA rfl ?_)
  refine gg rfl (q0j m.pa.toNat rfl rfl (by omega) hpA rfl ?_)
  refine gg rfl (q0j z rfl rfl rfl hmz rfl (gg rfl (q02 rfl rfl qA (gg rfl (q01 rfl hn (fun _=>?_))))))
  refine gg rfl (q0j m.pb.toNat rfl rfl (by omega) hpB rfl ?_)
  refine gg rfl (q0j m.pb.toNat rfl rfl (by omega) hpB rfl ?_)
  refine gg rfl (q0j z rfl rfl rfl hmz rfl (gg rfl (q02 rfl rfl qB (gg rfl (q01 rfl hn (fun _=>?_))))))
  refine gg rfl ?_
  rw[eA]at hA hB
  rw[eB]at hA hB
  refine q02 rfl rfl hA (gg rfl ?_)
  rw[List.length_map]
  refine q0l (S:=fun n:Nat=>([.int .i64 z,.ptr 1 0 0,.ref 2 0 (q8g 1 (LA.take n)).length,q00 0,.ptr 4 0 0,.ptr 5 0 0,.ptr 6 0 0,qdt s.seams,q00 1,q00 0,.lst (LA.map qfp),q00 LA.length,q00 n],[none,some (.row [s.enc] 7),some (.row ((q8g 1 (LA.take n)).map Iss.enc) 3),none,some (.row [m.enc] 6),some (.row [.agg [q51 cA.notches,ints PA,.int .i64 m.ea,.int .i64 nA]] 4),some (.row [.agg [q51 cB.notches,ints PB,.int .i64 m.eb,.int .i64 nB]] 4),none,none,none,none,none,none],[0,0,0,0,0,0,0,0,0,0,0,0,0])) (C:=fun n=>n≤LA.length) (m:=fun n=>LA.length-n) 0 (Nat.zero_le _) (by omega) ?_ ?_
  ·exact q03 rfl ⟨rfl,rfl,rfl,rfl,rfl,trivial⟩ rfl
  intro n hn0 N2 hN2
  refine gg rfl (q01 rfl (fun f=>?_) (fun f=>?_))
  ·rw[q06]at f
   have hlt:n<LA.length:=by omega
   have w2:=wS (n:=n)
   have hst:=quw 1 hlt
   have hl1:(q8g 1 (LA.take n)).length=n:=by simp[q8g];omega
   refine gg rfl (q0j n rfl rfl rfl (qDc hlt) rfl (gg rfl (q1g rfl rfl rfl rfl rfl rfl (by simp) (Nat.zero_le _) (by simp[q0N];omega) ?_)))
   refine gg rfl (q04 (hN2 (n+1) hlt (by omega) (q03 rfl ⟨rfl,?_,rfl,rfl,rfl,trivial⟩ ?_)))
   ·rw[List.all_append,q05 q0S];rfl
   rw[hst,w2]
   simp[q00,Iss.enc,qdt,q51,ints,Sew.enc]
  rw[q07]at f
  obtain rfl:n=LA.length:=by omega
  clear hN2
  rw[List.take_length]
  have hl1:(q8g 1 LA).length=LA.length:=by simp[q8g]
  refine gg rfl (q04 (gg rfl (q02 rfl rfl hB (gg rfl ?_))))
  rw[List.length_map]
  refine q0l (S:=fun n:Nat=>([.int .i64 z,.ptr 1 0 0,.ref 2 0 (q8g 1 LA++q8g 2 (LB.take n)).length,q00 0,qdt s.seams,q00 1,q00 0,.lst (LB.map qfp),q00 LB.length,q00 n],[none,some (.row [s.enc] 7),some (.row ((q8g 1 LA++q8g 2 (LB.take n)).map Iss.enc) 3),none,none,none,none,none,none,none],[0,0,0,0,0,0,0,0,0,0])) (C:=fun n=>n≤LB.length) (m:=fun n=>LB.length-n) 0 (Nat.zero_le _) (by omega) ?_ ?_
  ·exact q03 rfl ⟨rfl,q05 q0S _,trivial⟩ (by simp[q8g,q00,qdt])
  intro n hn0 N2 hN2
  refine gg rfl (q01 rfl (fun f=>?_) (fun f=>?_))
  ·rw[q06]at f
   have hlt:n<LB.length:=by omega
   have w2:=wS (n:=n)
   have hst:=quw 2 hlt
   have hl2:(q8g 2 (LB.take n)).length=n:=by simp[q8g];omega
   refine gg rfl (q0j n rfl rfl rfl (qDc hlt) rfl (gg rfl (q1g rfl rfl rfl rfl rfl rfl (by simp) (Nat.zero_le _) (by simp[q0N];omega) ?_)))
   refine gg rfl (q04 (hN2 (n+1) hlt (by omega) (q03 rfl ⟨rfl,?_,trivial⟩ ?_)))
   ·rw[List.all_append,q05 q0S];rfl
   rw[hst,w2]
   simp[q00,Iss.enc,qdt]
   try omega
  rw[q07]at f
  obtain rfl:n=LB.length:=by omega
  clear hN2
  rw[List.take_length]
  refine gg rfl (q04 (gg rfl (q04 (hN 1 (by omega) (by omega) (q03 rfl ⟨rfl,q05 q0S _,trivial⟩ ?_)))))
  have w0:IntKind.i64.wrap 1=1:=wrap64 (by decide) (by decide)
  simp[q00,qdt,w0]
 rw[q07]at e
 obtain rfl:k=1:=by omega
 clear hN
 refine gg rfl (q04 (gg rfl (q09 rfl rfl rfl ⟨q1n (by simp) (q0L qfV _),trivial⟩ ?_)))
 rw[q1o (by simp)];rfl
end Go.F

namespace Go.F
attribute [local irreducible] IntKind.wrap wpM
section
variable {T:Tab}{sh:Shr}{nx0:Nat}{s:List Fr}{t:q0z}{h:q0e}{z:Frz}{nx:Nat}{q:Ex→q0z→q0e→Frz→Nat→Prop}
variable {base i:Nat}{res:List Nat}{g:Gd}{rest:List KOper}
end
structure Grd where
 outline:Bool
 cut:Bool
 area:Int
def Grd.enc (g:Grd):D:=.agg [.bool g.outline,.bool g.cut,.int .i64 g.area]
def q6h (kd:Int)(P:Nat→Nat→Bool)(i w:Nat):List Iss:=((List.range w).filter (P i)).map fun z=>⟨kd,(i:Nat),(z:Nat)⟩
def q26 (kd:Int)(P:Nat→Nat→Bool)(n w:Nat):List Iss:=(List.range n).flatMap fun i=>q6h kd P i w
theorem q52 (kd:Int)(P:Nat→Nat→Bool)(i w:Nat):q26 kd P (i+1) w=q26 kd P i w++q6h kd P i w:=by
 unfold q26
 rw[List.range_succ,List.flatMap_append];simp
theorem row_step (kd:Int)(P:Nat→Nat→Bool)(i z:Nat):q6h kd P i (z+1)=q6h kd P i z++(if P i z then [⟨kd,(i:Nat),(z:Nat)⟩]else []):=by
 unfold q6h
 rw[qfq,List.map_append]
 congr 1
 split<;>rfl
theorem qcr (kd:Int)(P:Nat→Nat→Bool)(i w:Nat):(q6h kd P i w).length≤w:=by
 unfold q6h
 rw[List.length_map]
 have:=List.length_filter_le (P i) (List.range w)
 rw[List.length_range]at this;exact this
theorem q4k (kd:Int)(P:Nat→Nat→Bool)(n w:Nat):(q26 kd P n w).length≤n*w:=by
 induction n with
 |zero=>simp[q26]
 |succ n ih=>
  rw[q52,List.length_append,Nat.succ_mul]
  have:=qcr kd P n w
  omega
end Go.F

namespace Go.F
attribute [local irreducible] IntKind.wrap wpM
def qaD (w:Nat)(g:Nat→Grd):D:=.lst (((List.range w).map g).map Grd.enc)
def qfr (n w:Nat)(g:Nat→Nat→Grd):D:=.lst ((List.range n).map fun i=>qaD w (g i))
theorem qk0 {w z:Nat}(g:Nat→Grd)(h:z<w):(((List.range w).map g).map Grd.enc)[z]?=some (g z).enc:=by simp[h]
theorem qk1 {n w i:Nat}(g:Nat→Nat→Grd)(h:i<n):((List.range n).map fun i=>qaD w (g i))[i]?=some (qaD w (g i)):=by simp[h]
def o1 (g:Nat→Nat→Grd)(i z:Nat):Bool:=!(g i z).outline
def o2 (g:Nat→Nat→Grd)(i z:Nat):Bool:=(g i z).outline&&!(g i z).cut
set_option maxRecDepth 100000 in
set_option maxHeartbeats 8000000 in
theorem qJA (n w:Nat)(g:Nat→Nat→Grd)(hn:n≤1000)(hw:w≤1000):PU qj8 [qfr n w g]=some (qrz (q26 1 (o1 g) n w++q26 2 (o2 g) n w)):=by
 refine q0g (fn:=k_verify_outlines) rfl (q0a ?_)
 refine gg rfl ?_
 rw[List.length_map,List.length_range]
 refine q0l (S:=fun i:Nat=>([.ref 0 0 (q26 1 (o1 g) i w).length,.ref 1 0 (q26 2 (o2 g) i w).length,qfr n w g,q00 n,q00 i],[some (.row ((q26 1 (o1 g) i w).map Iss.enc) 3),some (.row ((q26 2 (o2 g) i w).map Iss.enc) 3),none,none,none],[0,0,0,0,0])) (C:=fun i=>i≤n) (m:=fun i=>n-i) 0 (Nat.zero_le _) (by omega) ?_ ?_
 ·exact q03 rfl ⟨rfl,rfl,trivial⟩ rfl
 intro i hi N hN
 refine gg rfl (q01 rfl (fun e=>?_) (fun e=>?_))
 ·rw[q06]at e
  have hlt:i<n:=by omega
  have w1:=wS (n:=i)
  have l1:=q4k 1 (o1 g) i w
  have l2:=q4k 2 (o2 g) i w
  have hiw:i*w≤1000*1000:=Nat.mul_le_mul (by omega) hw
  have ps1:=q52 1 (o1 g) i w
  have ps2:=q52 2 (o2 g) i w
  generalize q26 1 (o1 g) i w=A at*
  generalize q26 2 (o2 g) i w=B at*
  refine gg rfl (q0j i rfl rfl rfl (qk1 g hlt) rfl (gg rfl ?_))
  rw[List.length_map,List.length_map,List.length_range]
  refine q0l (S:=fun z:Nat=>([.ref 0 0 (A++q6h 1 (o1 g) i z).length,.ref 1 0 (B++q6h 2 (o2 g) i z).length,q00 i,qfr n w g,q00 n,q00 i,qaD w (g i),q00 w,q00 z],[some (.row ((A++q6h 1 (o1 g) i z).map Iss.enc) 3),some (.row ((B++q6h 2 (o2 g) i z).map Iss.enc) 3),none,none,none,none,none,none,none],[0,0,0,0,0,0,0,0,0])) (C:=fun z=>z≤w) (m:=fun z=>w-z) 0 (Nat.zero_le _) (by omega) ?_ ?_
  ·exact q03 rfl ⟨q05 q0S _,q05 q0S _,trivial⟩ (by simp[q6h,q00,qfr,qaD])
  intro z hz N2 hN2
  refine gg rfl (q01 rfl (fun f=>?_) (fun f=>?_))
  ·rw[q06]at f
   have hlz:z<w:=by omega
   have w2:=wS (n:=z)
   have r1:=row_step 1 (o1 g) i z
   have r2:=row_step 2 (o2 g) i z
   have k1:=qcr 1 (o1 g) i z
   have k2:=qcr 2 (o2 g) i z
   have hx:=qk0 (g i) hlz
   have e1:o1 g i z=!(g i z).outline:=rfl
   have e2:o2 g i z=((g i z).outline&&!(g i z).cut):=rfl
   generalize g i z=G at*
   generalize q6h 1 (o1 g) i z=A2 at*
   generalize q6h 2 (o2 g) i z=B2 at*
   refine gg rfl (q0j z rfl rfl rfl hx rfl ?_)
   cases ho:G.outline with
   |false=>
    rw[ho]at e1 e2
    refine gg rfl ?_
    rw[ho]
    refine q0d rfl (gg rfl (q1g rfl rfl rfl rfl rfl rfl (by simp) (Nat.zero_le _) (by simp[q0N];omega) ?_))
    refine gg rfl (q04 (hN2 (z+1) (by omega) (by omega) (q03 rfl ⟨?_,q05 q0S _,trivial⟩ ?_)))
    ·rw[List.all_append,q05 q0S];rfl
    rw[r1,r2,e1,e2,w2]
    simp[q00,Iss.enc,qfr,qaD]
    omega
   |true=>
    rw[ho]at e1 e2
    refine gg rfl ?_
    rw[ho]
    refine q0i rfl ?_
    cases hcu:G.cut with
    |false=>
     rw[hcu]at e2
     refine gg rfl (q0d rfl (gg rfl (q1g rfl rfl rfl rfl rfl rfl (by simp) (Nat.zero_le _) (by simp[q0N];omega) ?_)))
     refine gg rfl (q04 (hN2 (z+1) (by omega) (by omega) (q03 rfl ⟨q05 q0S _,?_,trivial⟩ ?_)))
     ·rw[List.all_append,q05 q0S];rfl
     rw[r1,r2,e1,e2,w2]
     simp[q00,Iss.enc,qfr,qaD]
     omega
    |true=>
     rw[hcu]at e2
     refine gg rfl (q0i rfl (gg rfl (q04 (hN2 (z+1) (by omega) (by omega) (q03 rfl ⟨q05 q0S _,q05 q0S _,trivial⟩ ?_)))))
     rw[r1,r2,e1,e2,w2]
     simp[q00,qfr,qaD]
  rw[q07]at f
  obtain rfl:z=w:=by omega
  clear hN2
  refine gg rfl (q04 (gg rfl (q04 (hN (i+1) (by omega) (by omega) (q03 rfl ⟨q05 q0S _,q05 q0S _,trivial⟩ ?_)))))
  rw[ps1,ps2,w1];rfl
 rw[q07]at e
 obtain rfl:i=n:=by omega
 have l1:=q4k 1 (o1 g) i w
 have l2:=q4k 2 (o2 g) i w
 have hiw:i*w≤1000*1000:=Nat.mul_le_mul (by omega) hw
 clear hN
 refine gg rfl (q04 (gg rfl (q1g rfl rfl rfl rfl (by simp) (q1k (n:=3) (fun _=>rfl) _) (by simp) (Nat.zero_le _) (by simp[q0N];omega) ?_)))
 refine gg rfl (q09 rfl rfl rfl ⟨q1n (by simp) ?_,trivial⟩ ?_)
 ·rw[List.all_append,q0L qfV,q0L qfV];rfl
 rw[q1o (by simp),←List.map_append];rfl
end Go.F

namespace Go.F
attribute [local irreducible] IntKind.wrap wpM
def qfs (us:List Use)(i:Nat):Bool:=us.any fun u=>decide (u.piece=(i:Nat))
def o6 (s:Sty)(i z:Nat):Bool:=decide (z=0)&&!qfs s.uses i
theorem row6 (s:Sty)(i w:Nat)(hw:0<w):q6h 6 (o6 s) i w=if qfs s.uses i then []else [⟨6,(i:Nat),0⟩]:=by
 unfold q6h
 have e:(List.range w).filter (o6 s i)=if qfs s.uses i then []else [0]:=by
  induction w with
  |zero=>omega
  |succ w ih=>
   rw[qfq]
   by_cases h0:w=0
   ·subst h0
    cases h:qfs s.uses i<;>simp[o6,h]
   rw[ih (by omega)]
   have:o6 s i w=false:=by simp[o6,h0]
   rw[this];simp
 rw[e]
 split<;>rfl
def qft (s:Sty)(k n:Nat):List Bool:=(List.range n).map fun i=>qfs (s.uses.take k) i
def qrA (b:Bool):D:=.bool b
theorem qFt {s:Sty}{k:Nat}(h:k<s.uses.length)(i:Nat):qfs (s.uses.take (k+1)) i=(qfs (s.uses.take k) i||decide ((us s.uses k).piece=(i:Nat))):=by
 unfold qfs
 rw[List.take_succ_eq_append_getElem h,List.any_append,qff h];simp
theorem qC6 {s:Sty}{k n p:Nat}(h:k<s.uses.length)(hp:(us s.uses k).piece=(p:Nat))(hpn:p<n):(qft s k n).set p true=qft s (k+1) n:=by
 unfold qft
 apply List.ext_getElem
 ·simp
 intro j h1 h2
 rw[List.getElem_set]
 simp only[List.getElem_map,List.getElem_range]
 rw[qFt h,hp]
 split
 ·rename_i e;subst e;simp
 rename_i e
 have:¬((p:Int)=(j:Nat)):=by omega
 rw[decide_eq_false this,Bool.or_false]
set_option maxRecDepth 100000 in
set_option maxHeartbeats 8000000 in
theorem qLP (s:Sty)(w:Nat)(hw:0<w)(hn:s.pieces.length≤1000)(hu:∀u∈s.uses,0≤u.piece∧u.piece<s.pieces.length)(hul:s.uses.length≤1000):PU qnt [s.enc]=some (qrz (q26 6 (o6 s) s.pieces.length w)):=by
 refine q0g (fn:=qcG) rfl (q0a ?_)
 refine gg rfl ?_
 rw[List.length_map]
 refine q48 s.pieces.length rfl rfl rfl (by simp[q0N];omega) ?_
 have ez:List.replicate s.pieces.length (D.bool false)=(qft s 0 s.pieces.length).map qrA:=by
  unfold qft
  rw[List.map_map]
  apply List.ext_getElem
  ·simp
  intro i h1 h2;simp[qfs,qrA]
 show wpM _ _ _ _ _ _ (upd _ _ (some (.row (List.replicate s.pieces.length (D.bool false)) 1))) _ _ _
 rw[ez]
 refine gg rfl ?_
 rw[List.length_map]
 refine q0l (S:=fun k:Nat=>([.ptr 0 0 0,.ref 1 0 s.pieces.length,Go.F.uses s.uses,q00 s.uses.length,q00 k],[some (.row [s.enc] 7),some (.row ((qft s k s.pieces.length).map qrA) 1),none,none,none],[0,0,0,0,0])) (C:=fun k=>k≤s.uses.length) (m:=fun k=>s.uses.length-k) 0 (Nat.zero_le _) (by omega) ?_ ?_
 ·exact q03 rfl ⟨rfl,q05 (fun _=>rfl) _,trivial⟩ rfl
 intro k hk N hN
 refine gg rfl (q01 rfl (fun e=>?_) (fun e=>?_))
 ·rw[q06]at e
  have hlt:k<s.uses.length:=by omega
  have w1:=wS (n:=k)
  have hup:=hu (us s.uses k) (by rw[qff hlt];exact List.getElem_mem _)
  have hx:=qre hlt
  have hst:=qC6 (s:=s) (k:=k) (n:=s.pieces.length) (p:=(us s.uses k).piece.toNat) hlt (by omega) (by omega)
  have hpp:(us s.uses k).piece=(((us s.uses k).piece.toNat:Nat):Int):=by omega
  have hpn:(us s.uses k).piece.toNat<s.pieces.length:=by omega
  generalize us s.uses k=u at*
  refine gg rfl (q0j k rfl rfl rfl hx rfl (gg rfl (q0J u.piece.toNat rfl rfl rfl rfl hpp hpn (gg rfl (q2t (enc:=qrA) (qft s k s.pieces.length) u.piece.toNat true rfl rfl (Nat.zero_add _) rfl (fun _=>rfl) rfl (Nat.zero_le _) (by simp[qft];omega) ?_)))))
  rw[hst]
  exact gg rfl (q04 (hN (k+1) hlt (by omega) (q03 rfl ⟨rfl,q05 (fun _=>rfl) _,trivial⟩ (by rw[w1];rfl))))
 rw[q07]at e
 obtain rfl:k=s.uses.length:=by omega
 clear hN
 refine gg rfl (q04 (gg rfl ?_))
 rw[List.length_map]
 refine q0l (S:=fun i:Nat=>([.ref 0 0 s.pieces.length,.ref 1 0 (q26 6 (o6 s) i w).length,q00 s.pieces.length,q00 i],[some (.row ((qft s s.uses.length s.pieces.length).map qrA) 1),some (.row ((q26 6 (o6 s) i w).map Iss.enc) 3),none,none],[0,0,0,0])) (C:=fun i=>i≤s.pieces.length) (m:=fun i=>s.pieces.length-i) 0 (Nat.zero_le _) (by omega) ?_ ?_
 ·exact q03 rfl ⟨q05 (fun _=>rfl) _,rfl,trivial⟩ rfl
 intro i hi N hN
 refine gg rfl (q01 rfl (fun e=>?_) (fun e=>?_))
 ·rw[q06]at e
  have hlt:i<s.pieces.length:=by omega
  have w1:=wS (n:=i)
  have hg:((qft s s.uses.length s.pieces.length).map qrA)[i]?=some (.bool (qfs s.uses i)):=by simp[qft,hlt,qrA]
  have ps:=q52 6 (o6 s) i w
  rw[row6 s i w hw]at ps
  have pl:(q26 6 (o6 s) i w).length≤i:=by
   have hz:∀j,(q26 6 (o6 s) j w).length≤j:=by
    intro j
    induction j with
    |zero=>simp[q26]
    |succ j ih=>
     rw[q52,List.length_append,row6 s j w hw]
     split<;>simp<;>omega
   exact hz i
  generalize q26 6 (o6 s) i w=A at*
  refine gg rfl (q0J i rfl rfl rfl rfl rfl hlt (gg rfl (q5P rfl rfl (by rw[Nat.zero_add];exact hg) rfl ?_)))
  cases hub:qfs s.uses i with
  |false=>
   rw[hub]at ps
   refine gg rfl (q0d rfl (gg rfl (q1g rfl rfl rfl rfl rfl rfl (by simp) (Nat.zero_le _) (by simp[q0N];omega) ?_)))
   refine gg rfl (q04 (hN (i+1) hlt (by omega) (q03 rfl ⟨q05 (fun _=>rfl) _,?_,trivial⟩ ?_)))
   ·rw[List.all_append,q05 q0S];rfl
   rw[ps,w1]
   simp[q00,Iss.enc]
  |true=>
   rw[hub]at ps
   refine gg rfl (q0i rfl (gg rfl (q04 (hN (i+1) hlt (by omega) (q03 rfl ⟨q05 (fun _=>rfl) _,q05 q0S _,trivial⟩ ?_)))))
   rw[ps,w1]
   simp[q00]
 rw[q07]at e
 obtain rfl:i=s.pieces.length:=by omega
 clear hN
 refine gg rfl (q04 (gg rfl (q09 rfl rfl rfl ⟨q1n (by simp) (q0L qfV _),trivial⟩ ?_)))
 rw[q1o (by simp)];rfl
end Go.F

namespace Go.F
structure PcOk (b:List Piece)(p:Piece):Prop where
 name:q1X p.name=true
 grain:¬(p.grain≠1∧p.grain≠2∧p.grain≠4)
 once:(b.any fun o=>o.name.toList==p.name.toList)=false
 grad:(q0p p 0).2=0
 plac:(q0W p 0).2=0
 wlen:p.widths.length=p.edges.length
 wid:¬(p.widths.any q2v)=true
end Go.F

namespace Go.F
attribute [local irreducible] IntKind.wrap wpM
end Go.F

namespace Go.F
attribute [local irreducible] IntKind.wrap wpM
theorem q3h {nx0:Nat}{h:q0e}{id n:Nat}{es:List D}(hh:h id=some (.row es n))(hp:es.all (plain 4)=true):q1h nx0 h id=some (.row es n):=by
 unfold q1h
 rw[hh,q7z (b:=some (.row es n)) hp]
 rfl
def qFp (n w:Nat)(g:Nat→Nat→Grd):List D:=(List.range n).map fun i=>qaD w (g i)
theorem q2R (n w:Nat)(g:Nat→Nat→Grd):(qFp n w g).all (plain 4)=true:=q05 (fun _=>rfl) _
def qrx (s:Sty)(T:List D)(ho:q0e)(zo:Frz):Prop:=ho 0=some (.row [s.enc] 7)∧zo 0=0∧ho 1=some (.row T 1)∧zo 1=0
theorem q4x {α:Type}{f:Nat→α}{i:Nat}{v:α}(hf:f i=v):upd f i v=f:=by
 funext k
 unfold upd
 cases hb:Nat.beq k i with
 |true=>rw[Nat.eq_of_beq_eq_true hb,hf];rfl
 |false=>rfl
theorem ql4 {s:Sty}{T:List D}{ho:q0e}{zo:Frz}(h:qrx s T ho zo):∃(h0:q0e) (z0:Frz),ho=upd (upd h0 0 (some (.row [s.enc] 7))) 1 (some (.row T 1))∧zo=upd (upd z0 0 0) 1 0:=
 ⟨ho,zo,by rw[q4x h.1,q4x h.2.2.1],by rw[q4x h.2.1,q4x h.2.2.2]⟩
set_option maxRecDepth 100000 in
set_option maxHeartbeats 8000000 in
theorem qJz (s:Sty)(n w:Nat)(g:Nat→Nat→Grd)(hn:n≤1000)(hw:w≤1000){h:q0e}{z:Frz}{K:D→q0e→Frz→Nat→Prop}(hold:qrx s (qFp n w g) h z)
 (hk:∀(h':q0e) (z':Frz),h' 141=some (.row ((q26 1 (o1 g) n w++q26 2 (o2 g) n w).map Iss.enc) 3)→z' 141=0→qrx s (qFp n w g) h' z'→K (.ref 141 0 (q26 1 (o1 g) n w++q26 2 (o2 g) n w).length) h' z' 143):
 wpM TT (shr TT 5) 75 [.code k_verify_outlines.code] .normal (enter [.ref 1 0 n]) h z 75 (qdr k_verify_outlines K):=by
 obtain⟨h0,z0,rfl,rfl⟩:=ql4 hold
 refine gg rfl (q2X (S:=fun i:Nat=>([.ref 75 0 (q26 1 (o1 g) i w).length,.ref 76 0 (q26 2 (o2 g) i w).length,.ref 1 0 n,q00 n,q00 i],[some (.row ((q26 1 (o1 g) i w).map Iss.enc) 3),some (.row ((q26 2 (o2 g) i w).map Iss.enc) 3),none,none,none],[0,0,0,0,0])) (O:=fun _ ho zo=>qrx s (qFp n w g) ho zo) (C:=fun i=>i≤n) (m:=fun i=>n-i) 0 (Nat.zero_le _) (by omega) ?_ ?_)
 ·exact q24 rfl ⟨rfl,rfl,q2R _ _ _,trivial⟩ (⟨rfl,q3h hold.1 rfl,hold.2.1,q3h hold.2.2.1 (q2R _ _ _),hold.2.2.2⟩)
 intro i hi ho zo hold N hN
 obtain⟨h0,z0,rfl,rfl⟩:=ql4 hold
 refine gg rfl (q01 rfl (fun e=>?_) (fun e=>?_))
 ·rw[q06]at e
  have hlt:i<n:=by omega
  have w1:=wS (n:=i)
  have l1:=q4k 1 (o1 g) i w
  have l2:=q4k 2 (o2 g) i w
  have hiw:i*w≤1000*1000:=Nat.mul_le_mul (by omega) hw
  have ps1:=q52 1 (o1 g) i w
  have ps2:=q52 2 (o2 g) i w
  generalize q26 1 (o1 g) i w=A at*
  generalize q26 2 (o2 g) i w=B at*
  refine gg rfl (q0J i rfl hold.2.2.1 rfl rfl rfl hlt (gg rfl (q5P rfl hold.2.2.1 (by rw[Nat.zero_add];exact qk1 g hlt) rfl ?_)))
  refine gg rfl ?_
  rw[List.length_map,List.length_map,List.length_range]
  refine q2X (S:=fun z:Nat=>([.ref 75 0 (A++q6h 1 (o1 g) i z).length,.ref 76 0 (B++q6h 2 (o2 g) i z).length,q00 i,.ref 1 0 n,q00 n,q00 i,qaD w (g i),q00 w,q00 z],[some (.row ((A++q6h 1 (o1 g) i z).map Iss.enc) 3),some (.row ((B++q6h 2 (o2 g) i z).map Iss.enc) 3),none,none,none,none,none,none,none],[0,0,0,0,0,0,0,0,0])) (O:=fun _ ho zo=>qrx s (qFp n w g) ho zo) (C:=fun z=>z≤w) (m:=fun z=>w-z) 0 (Nat.zero_le _) (by omega) ?_ ?_
  ·refine q24 rfl ⟨q05 q0S _,q05 q0S _,q2R _ _ _,trivial⟩ (⟨by simp[q6h,q00,qaD],⟨q3h hold.1 rfl,hold.2.1,q3h hold.2.2.1 (q2R _ _ _),hold.2.2.2⟩⟩)
  intro z hz ho2 zo2 hold2 N2 hN2
  obtain⟨h02,z02,rfl,rfl⟩:=ql4 hold2
  refine gg rfl (q01 rfl (fun f=>?_) (fun f=>?_))
  ·rw[q06]at f
   have hlz:z<w:=by omega
   have w2:=wS (n:=z)
   have r1:=row_step 1 (o1 g) i z
   have r2:=row_step 2 (o2 g) i z
   have k1:=qcr 1 (o1 g) i z
   have k2:=qcr 2 (o2 g) i z
   have hx:=qk0 (g i) hlz
   have e1:o1 g i z=!(g i z).outline:=rfl
   have e2:o2 g i z=((g i z).outline&&!(g i z).cut):=rfl
   generalize g i z=G at*
   generalize q6h 1 (o1 g) i z=A2 at*
   generalize q6h 2 (o2 g) i z=B2 at*
   refine gg rfl (q0j z rfl rfl rfl hx rfl ?_)
   cases ho:G.outline with
   |false=>
    rw[ho]at e1 e2
    refine gg rfl ?_
    rw[ho]
    refine q0d rfl (gg rfl (q1g rfl rfl rfl rfl rfl rfl (by simp) (Nat.zero_le _) (by simp[q0N];omega) ?_))
    refine gg rfl (q04 (hN2 (z+1) (by omega) (by omega) (q24 rfl ⟨?_,q05 q0S _,q2R _ _ _,trivial⟩ ?_)))
    ·rw[List.all_append,q05 q0S];rfl
    refine⟨?_,⟨q3h hold2.1 rfl,hold2.2.1,q3h hold2.2.2.1 (q2R _ _ _),hold2.2.2.2⟩⟩
    rw[r1,r2,e1,e2,w2]
    simp[q00,Iss.enc,qaD]
    omega
   |true=>
    rw[ho]at e1 e2
    refine gg rfl ?_
    rw[ho]
    refine q0i rfl ?_
    cases hcu:G.cut with
    |false=>
     rw[hcu]at e2
     refine gg rfl (q0d rfl (gg rfl (q1g rfl rfl rfl rfl rfl rfl (by simp) (Nat.zero_le _) (by simp[q0N];omega) ?_)))
     refine gg rfl (q04 (hN2 (z+1) (by omega) (by omega) (q24 rfl ⟨q05 q0S _,?_,q2R _ _ _,trivial⟩ ?_)))
     ·rw[List.all_append,q05 q0S];rfl
     refine⟨?_,⟨q3h hold2.1 rfl,hold2.2.1,q3h hold2.2.2.1 (q2R _ _ _),hold2.2.2.2⟩⟩
     rw[r1,r2,e1,e2,w2]
     simp[q00,Iss.enc,qaD]
     omega
    |true=>
     rw[hcu]at e2
     refine gg rfl (q0i rfl (gg rfl (q04 (hN2 (z+1) (by omega) (by omega) (q24 rfl ⟨q05 q0S _,q05 q0S _,q2R _ _ _,trivial⟩ ?_)))))
     refine⟨?_,⟨q3h hold2.1 rfl,hold2.2.1,q3h hold2.2.2.1 (q2R _ _ _),hold2.2.2.2⟩⟩
     rw[r1,r2,e1,e2,w2]
     simp[q00,qaD]
  rw[q07]at f
  obtain rfl:z=w:=by omega
  clear hN2
  refine gg rfl (q04 (gg rfl (q04 (hN (i+1) (by omega) (by omega) (q24 rfl ⟨q05 q0S _,q05 q0S _,q2R _ _ _,trivial⟩ ?_)))))
  refine⟨?_,⟨q3h hold2.1 rfl,hold2.2.1,q3h hold2.2.2.1 (q2R _ _ _),hold2.2.2.2⟩⟩
  rw[ps1,ps2,w1];rfl
 rw[q07]at e
 obtain rfl:i=n:=by omega
 have l1:=q4k 1 (o1 g) i w
 have l2:=q4k 2 (o2 g) i w
 have hiw:i*w≤1000*1000:=Nat.mul_le_mul (by omega) hw
 clear hN
 refine gg rfl (q04 (gg rfl (q1g rfl rfl rfl rfl (by simp) (q1k (n:=3) (fun _=>rfl) _) (by simp) (Nat.zero_le _) (by simp[q0N];omega) ?_)))
 refine gg rfl (qds rfl rfl ?_)
 have hK:=hk (upd (upd (mkF 75 (upd (upd h0 0 (some (.row [s.enc] 7))) 1 (some (.row (qFp i w g) 1))) none [some (.row ((q26 1 (o1 g) i w).map Iss.enc) 3),some (.row ((q26 2 (o2 g) i w).map Iss.enc) 3),none,none,none] 75) 75 none) 141 (some (.row ((q26 1 (o1 g) i w).map Iss.enc++(q26 2 (o2 g) i w).map Iss.enc) 3))) (upd (mkF 75 (upd (upd z0 0 0) 1 0) 0 [0,0,0,0,0] 75) 141 0) (by rw[List.map_append];rfl) rfl hold
 rw[List.length_append]at hK
 exact hK
end Go.F

namespace Go.F
theorem qCA {f:FuncId}{fn:KFn}{args:List D}{Q:D→Prop}(hf:tab f=some fn)(hw:wp TT (shr TT 6) 0 fn.code (enter args) empty qgU 0 (qdr fn fun d h _ _=>ws2 h d Q)):∃r,Q r∧PU f args=some r:=by
 obtain⟨F,cd,h1,h2,h3⟩:=tt_ok.tab f fn hf
 obtain⟨d,h',z',nx',q1,e1⟩:=qeX tt_ok (qtP tt_ok 6) h2 h3 hw
 obtain⟨d',h4,h5⟩:=qCy q1
 refine⟨d',h5,qvA (e1.up.mono fun M hM=>?_)⟩
 obtain⟨M',rfl,hM'⟩:=hM
 simp only[EM,env,h1,h2]
 have hM2:body prog (env prog q7r qnI M') (qnI f) F cd args empty qgU 0=some (d,h',z',nx'):=hM'
 rw[hM2]
 exact h4
attribute [local irreducible] IntKind.wrap wpM
section
variable {T:Tab}{sh:Shr}{nx0:Nat}{t:q0z}{h:q0e}{z:Frz}{nx:Nat}
theorem q5x {fn:KFn}{ex:Ex}{Q:D→Prop}{d d':D}{rows:List (List D×Nat×Nat)}(hex:(match ex with|.exit _=>false|_=>true)=true)(hd:dres t h fn.res=some d)(hs:dr2 h d=some (rows,d'))(hr:q4u rows)(he:Q d'):
 wpM T sh nx0 [] ex t h z nx (qdr fn fun d h _ _=>ws2 h d Q):=by
 refine q04 ?_
 cases ex with
 |exit i=>cases hex
 |normal=>exact q79 hd (qfS hs hr he)
 |ret=>exact q79 hd (qfS hs hr he)
end
structure PcL (p:Piece):Prop where
 edges:p.edges.length≤20
 corners:p.corners.length≤20
 widths:p.widths.length≤20
 notches:p.notches.length≤20
 line:∀i,i<p.edges.length→(eg p.edges i).line.length≤80∧(eg p.edges i).name.size≤100
structure StyL (s:Sty):Prop where
 name:s.name.size≤100
 sizes:s.sizes.length≤30
 mults:s.mults.length≤30
 uses:s.uses.length≤30
 seams:s.seams.length≤30
 ops:s.ops.length≤30
 pieces:s.pieces.length≤14
 size:∀i (h:i<s.sizes.length),s.sizes[i].size≤100
 piece:∀i,i<s.pieces.length→PcL (pc s.pieces i)
end Go.F

namespace Go.F
attribute [local irreducible] IntKind.wrap wpM
set_option maxHeartbeats 1000000 in
theorem qkS (l:List Edge)(hl:l.length≤30)(hb:∀i,i<l.length→(eg l i).line.length≤1000000000000000):∃n:Int,PU qeM [edges l,.int .i64 60]=some (.int .i64 n)∧(n≤60→∀i,i<l.length→(eg l i).line.length≤60):=by
 obtain⟨f,f0,fs⟩:∃f:Nat→Int,f 0=0∧∀k,f (k+1)=min (IntKind.i64.wrap (IntKind.i64.wrap (f k+(eg l k).line.length)+1)) (IntKind.i64.wrap (60+1)):=⟨vcnt l,rfl,fun _=>rfl⟩
 have hex:∃k,k≤l.length∧(∀i,i<k→f i≤60)∧(k=l.length∨¬f k≤60):=by
  have:∀m,m≤l.length→(∃k,k≤l.length∧(∀i,i<k→f i≤60)∧(k=l.length∨¬f k≤60))∨∀i,i<m→f i≤60:=by
   intro m
   induction m with
   |zero=>intro _;right;intro i hi;omega
   |succ m ih=>
    intro hm
    rcases ih (by omega)with h|h
    ·exact .inl h
    by_cases hf:f m≤60
    ·right;intro i hi
     by_cases him:i<m
     ·exact h i him
     obtain rfl:i=m:=by omega
     exact hf
    exact .inl ⟨m,by omega,h,.inr hf⟩
  rcases this l.length (Nat.le_refl _)with h|h
  ·exact h
  exact⟨l.length,Nat.le_refl _,h,.inl rfl⟩
 obtain⟨K,hK,hlow,hend⟩:=hex
 have hf0:∀k,k≤l.length→0≤f k∧f k≤61∧(f k≤60→∀i,i<k→(eg l i).line.length≤60):=by
  intro k
  induction k with
  |zero=>intro _;rw[f0];exact⟨by omega,by omega,fun _ i hi=>by omega⟩
  |succ k ih=>
   intro hk
   obtain⟨a1,a2,a3⟩:=ih (by omega)
   have a4:=hb k (by omega)
   rw[fs,wrap64 (x:=f k+_) (by omega) (by omega),wrap64 (by omega) (by omega),wrap64 (by omega) (by omega)]
   refine⟨by omega,by omega,fun hlt i hi=>?_⟩
   rcases Nat.lt_succ_iff_lt_or_eq.1 hi with h|rfl
   ·exact a3 (by omega) i h
   omega
 refine⟨f K,?_,fun hn=>?_⟩
 rotate_left
 ·rcases hend with rfl|h
  ·exact(hf0 _ (Nat.le_refl _)).2.2 hn
  omega
 refine q0g (fn:=q8x) rfl (q0a ?_)
 refine gg rfl (q0l (S:=fun k:Nat=>([edges l,.int .i64 60,.int .i64 (f k),q00 k],[none,none,none,none],[0,0,0,0])) (C:=fun k=>k≤K) (m:=fun k=>K-k) 0 (Nat.zero_le _) (by omega) ?_ ?_)
 ·exact q03 rfl trivial (by simp[edges,q00,f0])
 intro k hk N hN
 have done:¬(k<l.length∧f k≤60)→k=K:=by
  intro h
  by_cases hkK:k=K
  ·exact hkK
  exfalso
  exact h ⟨by omega,hlow k (by omega)⟩
 refine gg rfl ?_
 rw[List.length_map]
 refine q08 rfl (fun g1=>?_) (fun g1=>?_)
 ·rw[q06]at g1
  have hlt:k<l.length:=by omega
  have w1:=wS (n:=k)
  refine gg rfl (q01 rfl (fun g2=>?_) (fun g2=>?_))
  ·rw[q0G]at g2
   have hkK:k<K:=by
    by_cases h:k<K
    ·exact h
    obtain rfl:k=K:=by omega
    rcases hend with h|h
    ·omega
    exact absurd g2 h
   refine gg rfl (q0j k rfl rfl rfl (q1D hlt) rfl (gg rfl (q04 (hN (k+1) hkK (by omega) (q03 rfl trivial ?_)))))
   rw[fs,List.length_map]
   simp[edges,q00,w1]
  rw[q0I]at g2
  obtain rfl:=done (fun h=>by omega)
  exact gg rfl (q04 (gg rfl (q09 rfl rfl rfl trivial rfl)))
 rw[q07]at g1
 obtain rfl:=done (fun h=>by omega)
 exact gg rfl (q0i rfl (gg rfl (q04 (gg rfl (q09 rfl rfl rfl trivial rfl)))))
set_option maxHeartbeats 1000000 in
theorem qF7 (l:List Edge)(ws:List Int)(hb:∀i,i<l.length→(eg l i).line.length≤1000000000000000):∃b:Bool,PU qmN [edges l,ints ws]=some (.bool b)∧(b=true→l.length≤30∧ws.length≤20∧∀i,i<l.length→(eg l i).line.length≤60):=by
 by_cases hl:30<l.length
 ·refine⟨false,?_,fun h=>by cases h⟩
  refine q0g (fn:=q3j) rfl (q0a ?_)
  refine gg rfl (q08 rfl (fun g=>?_) (fun g=>?_))
  ·exact gg rfl (q0h rfl (gg rfl (q0d rfl (gg rfl (q09 rfl rfl rfl trivial rfl)))))
  rw[q07,List.length_map]at g;omega
 by_cases hw:20<ws.length
 ·refine⟨false,?_,fun h=>by cases h⟩
  refine q0g (fn:=q3j) rfl (q0a ?_)
  refine gg rfl (q08 rfl (fun g=>?_) (fun g=>?_))
  ·rw[q06,List.length_map]at g;omega
  refine gg rfl (q08 rfl (fun g=>?_) (fun g=>?_))
  ·exact gg rfl (q0d rfl (gg rfl (q09 rfl rfl rfl trivial rfl)))
  rw[q07,List.length_map]at g;omega
 obtain⟨n,hn,hn2⟩:=qkS l (by omega) hb
 by_cases hn6:60<n
 ·refine⟨false,?_,fun h=>by cases h⟩
  refine q0g (fn:=q3j) rfl (q0a ?_)
  refine gg rfl (q08 rfl (fun g=>?_) (fun g=>?_))
  ·rw[q06,List.length_map]at g;omega
  refine gg rfl (q08 rfl (fun g=>?_) (fun g=>?_))
  ·rw[q06,List.length_map]at g;omega
  refine gg rfl (q02 rfl rfl hn (gg rfl (q01 rfl (fun g=>?_) (fun g=>?_))))
  ·exact gg rfl (q09 rfl rfl rfl trivial rfl)
  rw[q07]at g;omega
 refine⟨decide (∀i,i<l.length→(eg l i).name.size≤100),?_,fun _=>⟨by omega,by omega,hn2 (by omega)⟩⟩
 refine q0g (fn:=q3j) rfl (q0a ?_)
 refine gg rfl (q08 rfl (fun g=>?_) (fun g=>?_))
 ·rw[q06,List.length_map]at g;omega
 refine gg rfl (q08 rfl (fun g=>?_) (fun g=>?_))
 ·rw[q06,List.length_map]at g;omega
 refine gg rfl (q02 rfl rfl hn (gg rfl (q01 rfl (fun g=>?_) (fun g=>?_))))
 ·rw[q06]at g;omega
 refine gg rfl (q0l (S:=fun k:Nat=>([edges l,q00 l.length,q00 k],[none,none,none],[0,0,0])) (C:=fun k=>k≤l.length∧∀i,i<k→(eg l i).name.size≤100) (m:=fun k=>l.length-k) 0 ⟨Nat.zero_le _,fun i hi=>by omega⟩ (by omega) ?_ ?_)
 ·exact q03 rfl trivial (by simp[edges,q00])
 rintro k ⟨hk,hall⟩ N hN
 refine gg rfl (q01 rfl (fun g1=>?_) (fun g1=>?_))
 ·rw[q06]at g1
  have hlt:k<l.length:=by omega
  have w1:=wS (n:=k)
  refine gg rfl (q0j k rfl rfl rfl (q1D hlt) rfl (gg rfl (q01 rfl (fun g2=>?_) (fun g2=>?_))))
  ·rw[q06]at g2
   refine gg rfl (q04 (gg rfl (q09 rfl rfl rfl trivial ?_)))
   rw[D.bool.injEq,eq_comm,decide_eq_false_iff_not]
   intro h
   have:=h k hlt
   omega
  rw[q07]at g2
  refine gg rfl (q04 (hN (k+1) ⟨hlt,fun i hi=>?_⟩ (by omega) (q03 rfl trivial (by simp[edges,q00,w1]))))
  by_cases hik:i<k
  ·exact hall i hik
  obtain rfl:i=k:=by omega
  omega
 rw[q07]at g1
 refine gg rfl (q04 (gg rfl (q09 rfl rfl rfl trivial ?_)))
 rw[D.bool.injEq,eq_comm,decide_eq_true_iff]
 exact fun i hi=>hall i (by omega)
end Go.F
