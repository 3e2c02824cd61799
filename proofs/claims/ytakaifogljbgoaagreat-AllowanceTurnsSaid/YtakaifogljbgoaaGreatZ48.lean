/- Parts of the proof, part 48: Turn4, TDec, Norm1, Norm2, Cyc1, Cyc2, Norm3, ATurn1, ATurn2, ATurn3, TwC. -/
import Derived.Test.YtakaifogljbgoaaGreatZ47
import Derived.Test.YtakaifogljbgoaaGreatZ44
import Derived.Test.YtakaifogljbgoaaGreatZ46
set_option linter.all false
namespace Go.F
def I64 (x:Int):Prop:= -9223372036854775808≤x∧x≤9223372036854775807
def In (s:Spot):Prop:=I64 s.x∧I64 s.y
def InE (l:List Edge):Prop:=∀e∈l,∀s∈e.line,In s
theorem qHW (x:Int):I64 (ng x):=by
 unfold ng I64
 simp only[IntKind.wrap,IntKind.bits,IntKind.signed]
 have h1:=Int.le_bmod (x:=0-x) (m:=2^64) (by decide)
 have h2:=Int.bmod_lt (x:=0-x) (m:=2^64) (by decide)
 simp at h1 h2⊢
 omega
theorem qHX {x:Int}(h:I64 x):ng x=if x= -9223372036854775808 then x else-x:=by
 unfold I64 at h
 unfold ng
 split
 ·rename_i e;subst e;decide
 rw[wrap64 (by omega) (by omega)];omega
theorem qD6 {x:Int}(h:I64 x):ng (ng x)=x:=by
 have h1:=qHW x
 rw[qHX h1,qHX h]
 unfold I64 at h
 repeat' split
 all_goals omega
theorem qwE {s:Spot}(h:In s):∀k,In (q6g k s)
 |0=>h
 |k+1=>⟨qHW _,(qwE h k).1⟩
theorem qfk {s:Spot}(h:In s)(f:Bool):In (q4v f s):=by
 unfold q4v;split
 ·exact⟨qHW _,h.2⟩
 exact h
theorem qbM (s:Spot)(j:Nat):∀k,q6g k (q6g j s)=q6g (j+k) s
 |0=>rfl
 |k+1=>by rw[q6g,qbM s j k,←Nat.add_assoc,q6g]
theorem rotN_4 {s:Spot}(h:In s):q6g 4 s=s:=by
 obtain⟨x,y⟩:=s
 simp only[q6g]
 rw[qD6 h.1,qD6 h.2]
theorem qzA {s:Spot}(h:In s)(k:Nat):q6g (k%4) s=q6g k s:=by
 induction k using Nat.strongRecOn with
 |_ k ih=>
  by_cases hk:k<4
  ·rw[Nat.mod_eq_of_lt hk]
  have e:k=4+(k-4):=by omega
  have e2:k%4=(k-4)%4:=by omega
  rw[e2,ih (k-4) (by omega)]
  conv=>rhs;rw[e,←qbM,rotN_4 h]
theorem qrt {s:Spot}(h:In s){j k:Nat}(e:j%4=k%4):q6g j s=q6g k s:=by
 rw[←qzA h j,←qzA h k,e]
theorem qFj {s:Spot}(h:In s):q4v true (q6g 1 s)=q6g 3 (q4v true s):=by
 obtain⟨x,y⟩:=s
 simp only[q6g,q4v,if_true]
 rw[qD6 h.1]
theorem qzB {s:Spot}(h:In s):∀k,q4v true (q6g k s)=q6g (3*k) (q4v true s)
 |0=>rfl
 |k+1=>by
  rw[←qbM s k 1,qFj (qwE h k),qzB h k,qbM]
  congr 1
theorem qFk {s:Spot}(h:In s):q4v true (q4v true s)=s:=by
 obtain⟨x,y⟩:=s
 simp only[q4v,if_true]
 rw[qD6 h.1]
theorem qzC {s:Spot}(h:In s)(t u:Turn):q1a u (q1a t s)=q1a (q4j t u) s:=by
 obtain⟨f,q⟩:=t
 obtain⟨g,r⟩:=u
 unfold q1a q4j
 simp only
 cases g with
 |false=>
  have e:q4v false (q6g (q%4).toNat (q4v f s))=q6g (q%4).toNat (q4v f s):=rfl
  rw[e,qbM]
  have e2:(f !=false)=f:=by cases f<;>rfl
  rw[e2]
  refine qrt (qfk h _) ?_
  simp only[Bool.false_eq_true,if_false]
  omega
 |true=>
  rw[qzB (qfk h _),qbM]
  have e2:q4v (f !=true) s=q4v true (q4v f s):=by
   cases f with
   |true=>rw[qFk h];rfl
   |false=>rfl
  rw[e2]
  refine qrt (qfk (qfk h _) _) ?_
  simp only[if_true]
  omega
theorem qC2 {p:List Spot}(h:∀s∈p,In s)(t u:Turn):q5b u (q5b t p)=q5b (q4j t u) p:=by
 have hm:(p.map (q1a t)).map (q1a u)=p.map (q1a (q4j t u)):=by
  rw[List.map_map]
  exact List.map_congr_left fun s hs=>qzC (h s hs) t u
 have hf:(q4j t u).flip=(t.flip !=u.flip):=rfl
 unfold q5b
 rw[hf]
 cases t.flip<;>cases u.flip<;>simp[hm]<;>simp[←hm]
theorem qus (t u:Turn){n i:Nat}(hi:i<n):q2e t n (q2e u n i)=q2e (q4j t u) n i:=by
 have hf:(q4j t u).flip=(t.flip !=u.flip):=rfl
 unfold q2e
 rw[hf]
 cases t.flip<;>cases u.flip<;>simp
 rcases Nat.eq_zero_or_pos i with rfl|h
 ·simp
 rw[Nat.mod_eq_of_lt (show n-i<n by omega),show n-(n-i)=i by omega,Nat.mod_eq_of_lt hi]
theorem q3q (t:Turn){l:List Edge}{i:Nat}(h:i<l.length):eg (q0P t l) i=q25 t (eg l (q2e t l.length i)):=by
 rw[q3M (by simpa[q0P]using h)]
 simp[q0P]
theorem qwF {l:List Edge}(h:InE l)(t u:Turn):q0P u (q0P t l)=q0P (q4j t u) l:=by
 have hl:(q0P t l).length=l.length:=by simp[q0P]
 have e:q0P u (q0P t l)=(List.range l.length).map fun i=>q25 u (eg (q0P t l) (q2e u l.length i)):=by
  conv=>lhs;rw[q0P,hl]
 rw[e]
 conv=>rhs;rw[q0P]
 apply List.map_congr_left
 intro i hi
 have hi:=List.mem_range.1 hi
 have hx:=q5Q u hi
 rw[q3q t hx,qus t u hi]
 unfold q25
 simp only[Edge.mk.injEq,true_and]
 refine qC2 (fun s hs=>h _ ?_ s hs) t u
 have hj:=q5Q (q4j t u) hi
 rw[q3M hj];exact List.getElem_mem _
theorem qnf (t:Turn):q4j t (q4i t)=⟨false,0⟩:=by
 obtain⟨f,q⟩:=t
 cases f with
 |true=>
  simp only[q4j,q4i,if_true,Turn.mk.injEq]
  exact⟨rfl,by omega⟩
 |false=>
  simp only[q4j,q4i,Bool.false_eq_true,if_false,Turn.mk.injEq]
  exact⟨rfl,by omega⟩
theorem qC3 (l:List Edge):q0P ⟨false,0⟩ l=l:=by
 unfold q0P
 apply List.ext_getElem
 ·simp
 intro i h1 h2
 simp only[List.getElem_map,List.getElem_range]
 have e:q2e ⟨false,0⟩ l.length i=i:=rfl
 rw[e,q3M h2]
 have e2:q5b ⟨false,0⟩ l[i].line=l[i].line:=by
  unfold q5b
  have:q1a ⟨false,0⟩=id:=by funext s;rfl
  rw[this];simp
 unfold q25
 rw[e2]
theorem qwG {l:List Edge}(h:InE l)(t:Turn):q0P (q4i t) (q0P t l)=l:=by
 rw[qwF h,qnf,qC3]
theorem q4O (t:Turn)(l:List Edge):(q0P t l).length=l.length:=by simp[q0P]
theorem qFl {x:List D}(h:HasC qeA x):∃s:Spot,mkD qeA x=s.enc∧In s:=by
 obtain⟨s,h1,_,h2,h3⟩:=qpq h
 refine⟨s,h1,?_,?_⟩
 ·exact h2
 exact h3
end Go.F

namespace Go.F
theorem qMr {sh:Sh}{α:Type}{enc:α→D}{Q:α→Prop}(h:∀x,HasC sh x→∃a,mkD sh x=enc a∧Q a){c:List D}(hc:HasC (.sl sh) c):∃l:List α,c=[.lst (l.map enc)]∧(∀a∈l,Q a)∧l.length≤reachBytes:=by
 cases hc with
 |sl _ es _ he hr=>
  have key:∀es:List (List D),(∀x∈es,HasC sh x)→∃l:List α,es.map (mkD sh)=l.map enc∧(∀a∈l,Q a)∧l.length=es.length:=by
   intro es
   induction es with
   |nil=>intro _;exact⟨[],rfl,by simp,rfl⟩
   |cons x es ih=>
    intro hx
    obtain⟨l,h1,h2,h3⟩:=ih fun y hy=>hx y (List.mem_cons_of_mem _ hy)
    obtain⟨a,ha,hq⟩:=h x (hx x (List.mem_cons_self ..))
    refine⟨a::l,by rw[List.map_cons,ha,h1,List.map_cons],fun b hb=>?_,by simp[h3]⟩
    rcases List.mem_cons.1 hb with rfl|hb
    ·exact hq
    exact h2 b hb
  obtain⟨l,h1,h2,h3⟩:=key es he
  exact⟨l,by rw[h1],h2,by rw[h3];exact hr⟩
theorem qMs {x:List D}(h:HasC qpp x):∃e:Edge,mkD qpp x=e.enc∧e.line.length≤reachBytes∧∀s∈e.line,In s:=by
 obtain⟨a,b,rfl,ha,hb⟩:=q0X h
 obtain⟨c,d,rfl,hc,hd⟩:=q0X hb
 obtain⟨s,rfl,_⟩:=qfz ha
 obtain rfl:=q7f hd
 obtain⟨l,rfl,hi,hl⟩:=qMr (enc:=Spot.enc) (fun x hx=>qFl hx) hc
 exact⟨⟨s,l⟩,rfl,hl,hi⟩
theorem qMu {x:List D}(h:HasC qwo x):∃p:Piece,mkD qwo x=p.enc∧(∀e∈p.edges,e.line.length≤reachBytes)∧InE p.edges:=by
 obtain⟨a1,r1,rfl,h1,g1⟩:=q0X h
 obtain⟨a2,r2,rfl,h2,g2⟩:=q0X g1
 obtain⟨a3,r3,rfl,h3,g3⟩:=q0X g2
 obtain⟨a4,r4,rfl,h4,g4⟩:=q0X g3
 obtain⟨a5,r5,rfl,h5,g5⟩:=q0X g4
 obtain⟨a6,r6,rfl,h6,g6⟩:=q0X g5
 obtain⟨a7,r7,rfl,h7,g7⟩:=q0X g6
 obtain⟨n1,rfl,_⟩:=qfz h1
 obtain⟨n2,rfl,q2,_⟩:=qMr (fun _ hx=>qMs hx) h2
 obtain⟨n3,rfl,_⟩:=q2r h3
 obtain⟨n4,rfl,_⟩:=q5O (fun _ hx=>qIX hx) h4
 obtain⟨n5,rfl,_⟩:=q5O (enc:=Spot.enc) (fun x hx=>by obtain⟨s,h1,_⟩:=qpq hx;exact⟨s,h1⟩) h5
 obtain⟨n6,rfl,_⟩:=q5O (fun _ hx=>qjD hx) h6
 obtain⟨n7,rfl⟩:=qpo h7
 obtain rfl:=q7f g7
 exact⟨⟨n1,n2,n3,n4,n5,n6,n7⟩,rfl,fun e he=>(q2 e he).1,fun e he=>(q2 e he).2⟩
def qMt:Sh:=.st [.bool,.int .i64]
theorem dec_turn {x:List D}(h:HasC qMt x):∃t:Turn,mkD qMt x=t.enc:=by
 obtain⟨a,b,rfl,ha,hb⟩:=q0X h
 obtain⟨c,d,rfl,hc,hd⟩:=q0X hb
 obtain⟨n,rfl⟩:=qpo ha
 obtain⟨m,rfl,_⟩:=q2r hc
 obtain rfl:=q7f hd
 exact⟨⟨n,m⟩,rfl⟩
end Go.F

namespace Go.F
attribute [local irreducible] IntKind.wrap wpM
theorem qEm {α:Type}(f:Nat→α)(n i:Nat)(v:α):((List.range n).map f).set i v=(List.range n).map fun m=>if m=i then v else f m:=by
 apply List.ext_getElem
 ·simp
 intro m h1 h2
 rw[List.getElem_set]
 simp only[List.getElem_map,List.getElem_range]
 by_cases h:i=m
 ·rw[if_pos h,if_pos h.symm]
 rw[if_neg h,if_neg (fun e=>h e.symm)]
def q3N (t:Turn)(p:List Spot):List Spot:=(List.range p.length).map fun m=>q1a t (pt p (if t.flip then p.length-1-m else m))
def q7V (t:Turn)(p:List Spot)(k:Nat):List Spot:=(List.range p.length).map fun m=>if(if t.flip then p.length-1-m else m)<k then q1a t (pt p (if t.flip then p.length-1-m else m))else⟨0,0⟩
theorem qyt (t:Turn)(p:List Spot):(q7V t p 0).map Spot.enc=List.replicate p.length (.agg [.int .i64 0,.int .i64 0]):=by
 unfold q7V
 rw[List.map_map]
 apply List.ext_getElem
 ·simp
 intro m h1 h2
 simp[Spot.enc]
theorem qB8 (t:Turn)(p:List Spot):q7V t p p.length=q3N t p:=by
 unfold q7V q3N
 apply List.map_congr_left
 intro m hm
 have hm:=List.mem_range.1 hm
 rw[if_pos (by split<;>omega)]
theorem qyu (t:Turn)(p:List Spot){k:Nat}(hk:k<p.length):(q7V t p k).set (if t.flip then p.length-1-k else k) (q1a t (pt p k))=q7V t p (k+1):=by
 unfold q7V
 rw[qEm]
 apply List.map_congr_left
 intro m hm
 have hm:=List.mem_range.1 hm
 cases t.flip with
 |false=>
  simp only[Bool.false_eq_true,if_false]
  by_cases h:m=k
  ·rw[if_pos h,if_pos (by omega),h]
  rw[if_neg h]
  by_cases h2:m<k
  ·rw[if_pos h2,if_pos (by omega)]
  rw[if_neg h2,if_neg (by omega)]
 |true=>
  simp only[if_true]
  by_cases h:m=p.length-1-k
  ·rw[if_pos h,if_pos (by omega),show p.length-1-m=k by omega]
  rw[if_neg h]
  by_cases h2:p.length-1-m<k
  ·rw[if_pos h2,if_pos (by omega)]
  rw[if_neg h2,if_neg (by omega)]
set_option maxHeartbeats 2000000 in
theorem qvG (t:Turn)(p:List Spot)(hp:p.length≤100000):PU qxC [t.enc,q0k p]=some (q0k (q3N t p)):=by
 refine q0g (fn:=qlf) rfl (q0a ?_)
 refine gg rfl ?_
 rw[List.length_map]
 refine q48 p.length rfl rfl rfl (by simp[q0N];omega) ?_
 rw[←qyt t]
 refine gg rfl ?_
 rw[List.length_map]
 refine q0l (S:=fun k:Nat=>([q0k p,.ptr 1 0 0,.ref 2 0 p.length,q0k p,q00 p.length,q00 k],[none,some (.row [t.enc] 2),some (.row ((q7V t p k).map Spot.enc) 2),none,none,none],[0,0,0,0,0,0])) (C:=fun k=>k≤p.length) (m:=fun k=>p.length-k) 0 (Nat.zero_le _) (by omega) ?_ ?_
 ·exact q03 rfl ⟨rfl,q05 q0r _,trivial⟩ (by simp[q0k,q00,Turn.enc])
 intro k hk N hN
 refine gg rfl (q01 rfl (fun e1=>?_) (fun e1=>?_))
 ·rw[q06]at e1
  have hlt:k<p.length:=by omega
  have w1:=wS (n:=k)
  have hst:=qyu t p hlt
  refine gg rfl (q0j k rfl rfl rfl (q0U hlt) rfl (gg rfl (q01 rfl (fun g=>?_) (fun g=>?_))))
  ·have g:t.flip=true:=g
   rw[g,if_pos rfl]at hst
   have HK0:IntKind.i64.wrap (((p.map Spot.enc).length:Int)-1)=(p.length:Int)-1:=by rw[List.length_map];exact wrap64 (by omega) (by omega)
   have HK:IntKind.i64.wrap (IntKind.i64.wrap (((p.map Spot.enc).length:Int)-1)-(k:Int))=((p.length-1-k:Nat):Int):=by rw[HK0,wrap64 (by omega) (by omega)];omega
   refine gg rfl (q02 rfl rfl (q5E t (pt p k)) (gg rfl (q0J (p.length-1-k) rfl rfl rfl rfl HK (by omega) ?_)))
   refine gg rfl (q2t (enc:=Spot.enc) (q7V t p k) (p.length-1-k) (q1a t (pt p k)) rfl rfl (Nat.zero_add _) rfl (fun _=>rfl) rfl (Nat.zero_le _) (by simp[q7V];omega) ?_)
   rw[hst]
   exact gg rfl (q04 (hN (k+1) hlt (by omega) (q03 rfl ⟨rfl,q05 q0r _,trivial⟩ (by simp[q0k,q00,w1,Turn.enc]))))
  have g:t.flip=false:=g
  rw[g,if_neg (by decide)]at hst
  have HK:(k:Int)=(k:Int):=rfl
  refine gg rfl (q02 rfl rfl (q5E t (pt p k)) (gg rfl (q0J (k) rfl rfl rfl rfl HK (by omega) ?_)))
  refine gg rfl (q2t (enc:=Spot.enc) (q7V t p k) (k) (q1a t (pt p k)) rfl rfl (Nat.zero_add _) rfl (fun _=>rfl) rfl (Nat.zero_le _) (by simp[q7V];omega) ?_)
  rw[hst]
  exact gg rfl (q04 (hN (k+1) hlt (by omega) (q03 rfl ⟨rfl,q05 q0r _,trivial⟩ (by simp[q0k,q00,w1,Turn.enc]))))
 rw[q07]at e1
 obtain rfl:k=p.length:=by omega
 rw[qB8]
 refine gg rfl (q04 (gg rfl (q09 rfl rfl rfl ⟨q1n (by simp[q3N]) (q0L q1u _),trivial⟩ ?_)))
 rw[q1o (by simp[q3N])];rfl
def qCL (p:List Spot)(i:Nat):Int:=q0v (pt p ((i+p.length-1)%p.length)) (pt p i) (pt p ((i+1)%p.length))
theorem qIv (p:List Spot) [OkP p](i:Nat)(hi:i<p.length)(hp:p.length≤100000):PU qpI [q0k p,.int .i64 i]=some (.int .i64 (qCL p i)):=by
 have w1:=ww (x:=(i:Int)+(p.length:Int))
 have w2:IntKind.i64.wrap ((i:Int)+(p.length:Int)-1)=((i+p.length-1:Nat):Int):=by rw[wrap64 (by omega) (by omega)];omega
 have w3:=wS (n:=i)
 have m1:(i+p.length-1)%p.length<p.length:=Nat.mod_lt _ (by omega)
 have m2:(i+1)%p.length<p.length:=Nat.mod_lt _ (by omega)
 refine q0g (fn:=qdS) rfl (q0a ?_)
 refine gg rfl ?_
 rw[List.length_map,w1,w2]
 refine q2K rfl rfl (by omega) ?_
 refine gg rfl (q0j ((i+p.length-1)%p.length) rfl rfl q1z (q0U m1) rfl (gg rfl (q0j i rfl rfl rfl (q0U hi) rfl (gg rfl ?_))))
 rw[w3]
 refine q2K rfl rfl (by omega) ?_
 exact gg rfl (q0j ((i+1)%p.length) rfl rfl q1z (q0U m2) rfl (gg rfl (q02 rfl rfl (qj0 (pt p ((i+p.length-1)%p.length)) (pt p i) (pt p ((i+1)%p.length))) (gg rfl (q09 rfl rfl rfl trivial rfl)))))
section
variable {T:Tab}{sh:Shr}{nx0:Nat}{s:List Fr}{t:q0z}{h:q0e}{z:Frz}{nx:Nat}{q:Ex→q0z→q0e→Frz→Nat→Prop}
variable {base i:Nat}{res:List Nat}{dst:Nat}{g:Gd}{rest:List KOper}
theorem qIw {n:Nat}{x:X}{hi:Option X}(hx:x.ev t=.nilsl)(hhi:qjS t hi 0 0)
 (hk:wpM T sh nx0 (.ops base res rest::s) .normal (upd t dst .nilsl) h z nx q):
 wpM T sh nx0 (.ops base res (⟨i,some dst,none,g,.slsl n x none hi none⟩::rest)::s) .normal t h z nx q:=by
 refine q3P ?_
 simp only[kop,qqi,hx]
 exact q6e (a:=0) rfl (q6e hhi (q1A ⟨rfl,rfl⟩ hk))
end
def qca (n:Nat)(ls:List (List Spot)):Nat→List Spot
 |0=>List.replicate n ⟨0,0⟩
 |j+1=>(ls.take (j+1)).flatten
theorem qkF (ls:List (List Spot)){j:Nat}(h:j<ls.length):(ls.take (j+1)).flatten=(ls.take j).flatten++ls[j]:=by
 rw[List.take_succ_eq_append_getElem h,List.flatten_append];simp
theorem qvH (ls:List (List Spot))(j:Nat):(ls.take j).flatten.length≤ls.flatten.length:=by
 conv=>rhs;rw[←List.take_append_drop j ls,List.flatten_append]
 simp
theorem q6a (n:Nat)(ls:List (List Spot))(j:Nat):(qca n ls j).take (ls.take j).flatten.length=(ls.take j).flatten:=by
 cases j with
 |zero=>simp
 |succ j=>exact List.take_length
theorem qcb (n:Nat)(ls:List (List Spot))(j:Nat):(ls.take j).flatten.length≤(qca n ls j).length:=by
 cases j with
 |zero=>simp
 |succ j=>simp[qca]
def q7H (ls:List (List Spot)):D:=.lst (ls.map q0k)
set_option maxHeartbeats 4000000 in
theorem qtV (ls:List (List Spot))(hn:ls.flatten.length≤100000)(hl:ls.length≤100000):PU q3c [q7H ls]=some (q0k ls.flatten):=by
 refine q0g (fn:=q56) rfl (q0a ?_)
 refine gg rfl ?_
 rw[List.length_map]
 refine q0l (S:=fun j:Nat=>([q7H ls,q00 (ls.take j).flatten.length,q7H ls,q00 ls.length,q00 j],[none,none,none,none,none],[0,0,0,0,0])) (C:=fun j=>j≤ls.length) (m:=fun j=>ls.length-j) 0 (Nat.zero_le _) (by omega) ?_ ?_
 ·exact q03 rfl trivial (by simp[q7H,q00])
 intro j hj N hN
 refine gg rfl (q01 rfl (fun f1=>?_) (fun f1=>?_))
 ·rw[q06]at f1
  have hjl:j<ls.length:=by omega
  have wj:=wS (n:=j)
  have hst:=qkF ls hjl
  have hle:=qvH ls (j+1)
  have hx:(ls.map q0k)[j]?=some (q0k ls[j]):=by rw[List.getElem?_map,List.getElem?_eq_getElem hjl];rfl
  generalize ls[j]=x at*
  have hl2:(ls.take (j+1)).flatten.length=(ls.take j).flatten.length+x.length:=by rw[hst,List.length_append]
  have w2:IntKind.i64.wrap (((ls.take j).flatten.length:Int)+((x.map Spot.enc).length:Int))=((ls.take (j+1)).flatten.length:Int):=by rw[List.length_map,wrap64 (by omega) (by omega)];omega
  refine gg rfl (q0j j rfl rfl rfl hx rfl (gg rfl ?_))
  rw[w2]
  refine q01 rfl (fun e=>absurd (q06.1 e) (by omega)) (fun _=>?_)
  exact gg rfl (q04 (hN (j+1) hjl (by omega) (q03 rfl trivial (by simp[q7H,q00,wj]))))
 rw[q07]at f1
 obtain rfl:j=ls.length:=by omega
 clear hN
 rw[List.take_length]
 have w3:IntKind.i64.wrap ((ls.flatten.length:Int)-IntKind.i64.wrap (0-0))=(ls.flatten.length:Int):=by rw[wrap64 (x:=0-0) (by omega) (by omega),wrap64 (by omega) (by omega)];omega
 refine gg rfl (q04 (gg rfl (q6y (fn:=q64) rfl rfl (gg rfl (q01 rfl (fun e=>absurd (q06.1 e) (by omega)) (fun _=>?_))))))
 refine gg rfl (q01 rfl (fun e=>?_) (fun e=>?_))
 ·refine gg rfl (qIw rfl ⟨_,_,rfl,rfl⟩ (gg rfl (qFh (n:=ls.flatten.length) rfl (by first|rfl|exact congrArg _ w3) (by show _*17≤2^40;omega) ?_)))
  refine gg rfl (qaB 0 rfl rfl rfl ⟨_,_,rfl,rfl⟩ (Nat.zero_le _) (gg rfl (qds rfl rfl (gg rfl ?_))))
  rw[List.length_map]
  refine q0l (S:=fun j:Nat=>([.ref 0 0 (ls.take j).flatten.length,q7H ls,q00 ls.length,q00 j],[some (.row ((qca ls.flatten.length ls j).map Spot.enc) 2),none,none,none],[0,0,0,0])) (C:=fun j=>j≤ls.length) (m:=fun j=>ls.length-j) 0 (Nat.zero_le _) (by omega) ?_ ?_
  ·refine q03 rfl ⟨?_,trivial⟩ ?_
   ·rw[List.all_eq_true];intro x hx;simp at hx;try (obtain⟨_,rfl⟩:=hx;rfl)
   simp[q7H,q00,qca,Spot.enc]
  intro j hj N2 hN2
  refine gg rfl (q01 rfl (fun f1=>?_) (fun f1=>?_))
  ·rw[q06]at f1
   have hjl:j<ls.length:=by omega
   have wj:=wS (n:=j)
   have hst:=qkF ls hjl
   have hle:=qvH ls (j+1)
   have hx:(ls.map q0k)[j]?=some (q0k ls[j]):=by rw[List.getElem?_map,List.getElem?_eq_getElem hjl];rfl
   have htk:=q6a ls.flatten.length ls j
   have hcl:=qcb ls.flatten.length ls j
   generalize ls[j]=x at*
   have hl2:(ls.take (j+1)).flatten.length=(ls.take j).flatten.length+x.length:=by rw[hst,List.length_append]
   refine gg rfl (q0j j rfl rfl rfl hx rfl (gg rfl (qD5 rfl rfl rfl (q1k (n:=2) (fun _=>rfl) _) (by rw[List.length_map];exact hcl) (Nat.zero_le _) (by rw[List.length_map];show(_+_) *17≤2^40;omega) ?_)))
   rw[←List.map_take,htk,←List.map_append,←hst,List.length_map,←hl2]
   refine gg rfl (q04 (hN2 (j+1) hjl (by omega) (q03 rfl ⟨q05 q0r _,trivial⟩ ?_)))
   simp[q7H,q00,qca,wj]
  rw[q07]at f1
  obtain rfl:j=ls.length:=by omega
  refine gg rfl (q04 (gg rfl (q09 rfl rfl rfl ⟨?_,trivial⟩ ?_)))
  ·refine⟨by have:=qcb ls.flatten.length ls ls.length;simpa using this,?_⟩
   rw[List.drop_zero,←List.map_take,q6a]
   exact q0L q1u _
  rw[←List.map_take,q6a,List.take_length];rfl
 refine gg rfl (qds rfl rfl (gg rfl ?_))
 rw[List.length_map]
 refine q0l (S:=fun j:Nat=>([.ref 0 0 (ls.take j).flatten.length,q7H ls,q00 ls.length,q00 j],[some (.row ((qca 0 ls j).map Spot.enc) 2),none,none,none],[0,0,0,0])) (C:=fun j=>j≤ls.length) (m:=fun j=>ls.length-j) 0 (Nat.zero_le _) (by omega) ?_ ?_
 ·refine q03 rfl ⟨?_,trivial⟩ ?_
  ·rw[List.all_eq_true];intro x hx;simp at hx;try (obtain⟨_,rfl⟩:=hx;rfl)
  simp[q7H,q00,qca,Spot.enc]
 intro j hj N2 hN2
 refine gg rfl (q01 rfl (fun f1=>?_) (fun f1=>?_))
 ·rw[q06]at f1
  have hjl:j<ls.length:=by omega
  have wj:=wS (n:=j)
  have hst:=qkF ls hjl
  have hle:=qvH ls (j+1)
  have hx:(ls.map q0k)[j]?=some (q0k ls[j]):=by rw[List.getElem?_map,List.getElem?_eq_getElem hjl];rfl
  have htk:=q6a 0 ls j
  have hcl:=qcb 0 ls j
  generalize ls[j]=x at*
  have hl2:(ls.take (j+1)).flatten.length=(ls.take j).flatten.length+x.length:=by rw[hst,List.length_append]
  refine gg rfl (q0j j rfl rfl rfl hx rfl (gg rfl (qD5 rfl rfl rfl (q1k (n:=2) (fun _=>rfl) _) (by rw[List.length_map];exact hcl) (Nat.zero_le _) (by rw[List.length_map];show(_+_) *17≤2^40;omega) ?_)))
  rw[←List.map_take,htk,←List.map_append,←hst,List.length_map,←hl2]
  refine gg rfl (q04 (hN2 (j+1) hjl (by omega) (q03 rfl ⟨q05 q0r _,trivial⟩ ?_)))
  simp[q7H,q00,qca,wj]
 rw[q07]at f1
 obtain rfl:j=ls.length:=by omega
 refine gg rfl (q04 (gg rfl (q09 rfl rfl rfl ⟨?_,trivial⟩ ?_)))
 ·refine⟨by have:=qcb 0 ls ls.length;simpa using this,?_⟩
  rw[List.drop_zero,←List.map_take,q6a]
  exact q0L q1u _
 rw[←List.map_take,q6a,List.take_length];rfl
end Go.F

namespace Go.F
attribute [local irreducible] IntKind.wrap wpM
def q1S (p:List Spot):Nat→List Spot
 |0=>[]
 |k+1=>if qCL p k≠0 then q1S p k++[pt p k]else q1S p k
theorem qae (p:List Spot):∀k,(q1S p k).length≤k
 |0=>Nat.le_refl _
 |k+1=>by
  have:=qae p k
  rw[q1S];split<;>simp<;>omega
def lexB (a b:Spot):Bool:=decide (a.x<b.x) ||(decide (a.x=b.x)&&decide (a.y<b.y))
def q0R (c:List Spot):Nat→Nat
 |0=>0
 |k+1=>if lexB (pt c k) (pt c (q0R c k))then k else q0R c k
theorem q8n (c:List Spot):∀k,q0R c k≤k
 |0=>Nat.le_refl _
 |k+1=>by
  have:=q8n c k
  rw[q0R];split<;>omega
theorem qkG (c:List Spot):∀k,0<k→q0R c k<k
 |0,h=>absurd h (by decide)
 |k+1,_=>by
  rw[q0R]
  split
  ·omega
  have:=q8n c k;omega
def qsi (c:List Spot):List Spot:=c.drop (q0R c c.length)++c.take (q0R c c.length)
def qyv (p:List Spot):List Spot:=if q4s p<0 then(q1S p p.length).reverse else q1S p p.length
def q6b (p:List Spot):List Spot×Int:=if q1M p=0 then(qsi (qyv p),0)else([],q1M p)
def OldR (b:Blk)(h:q0e)(z:Frz):Prop:=(∃h0:q0e,h=upd h0 1 (some b))∧∃z0:Frz,z=upd z0 1 0
theorem OldR.of {b:Blk}{h:q0e}{z:Frz}(h1:h 1=some b)(z1:z 1=0):OldR b h z:=
 ⟨⟨h,by rw[q2J (f:=h) h1]⟩,z,by rw[q2J (f:=z) z1]⟩
theorem OldR.old {nx0:Nat}{b:Blk}{h:q0e}{z:Frz}(p1:q1y (some b)=true)(h1:h 1=some b)(z1:z 1=0):OldR b (q1h nx0 h) z:=
 OldR.of (q3p h1 p1) z1
set_option maxHeartbeats 2000000 in
theorem rev47 (a:List Spot)(ha:a.length≤1000000){h:q0e}{z:Frz}{K:D→q0e→Frz→Nat→Prop}
 (hold:OldR (.row (a.map Spot.enc) 2) h z)
 (hk:∀(h':q0e) (z':Frz),OldR (.row (a.reverse.map Spot.enc) 2) h' z'→K (.tup []) h' z' 61):
 wpM TT (shr TT 5) 47 [.code k_slices_Reverse_Spot_Spot.code] .normal (enter [.ref 1 0 a.length]) h z 47 (qdr k_slices_Reverse_Spot_Spot K):=by
 obtain⟨⟨h0,rfl⟩,z0,rfl⟩:=hold
 refine gg rfl ?_
 refine q2X (S:=fun x:Nat=>([.ref 1 0 a.length,q00 x,.int .i64 ((a.length:Int)-1-x)],[none,none,none],[0,0,0]))
  (O:=fun x ho zo=>OldR (.row ((q4w a x).map Spot.enc) 2) ho zo)
  (C:=fun x=>x≤a.length) (m:=fun x=>a.length-x) 0 (Nat.zero_le _) (by omega) ?_ ?_
 ·have w0:=ww (x:=(a.length:Int)-1)
  refine q24 rfl ⟨q05 q0r _,trivial⟩ ⟨by simp[q00,w0],?_⟩
  rw[qrq]
  exact OldR.old (q8s q0r _ _) rfl rfl
 rintro k hk' ho zo hold N hN
 obtain⟨⟨h1,rfl⟩,z1,rfl⟩:=hold
 refine gg rfl (q01 rfl (fun e1=>?_) (fun e1=>?_))
 ·rw[q06]at e1
  have hlt:2*k+1<a.length:=by omega
  have ej:(a.length:Int)-1-k=((a.length-1-k:Nat):Int):=by omega
  have w1:=wS (n:=k)
  have w2:IntKind.i64.wrap (((a.length-1-k:Nat):Int)-1)=(a.length:Int)-1-((k+1:Nat):Int):=by rw[wrap64 (by omega) (by omega)];omega
  have hst:=qrr a hlt
  have l1:=qjW a (i:=k) (m:=a.length-1-k) (by omega) (by omega) (by omega)
  have l2:=qjW a (i:=k) (m:=k) (by omega) (by omega) (by omega)
  rw[ej]
  refine gg rfl (q0J (a.length-1-k) rfl rfl rfl rfl rfl (by omega) ?_)
  refine gg rfl (q2S (enc:=Spot.enc) (q4w a k) (a.length-1-k) (pt a (a.length-1-k)) rfl (Nat.zero_add _) (fun _=>rfl) rfl l1 (gg rfl (q0J k rfl rfl rfl rfl rfl (by omega) ?_)))
  refine gg rfl (q2S (enc:=Spot.enc) (q4w a k) k (pt a k) rfl (Nat.zero_add _) (fun _=>rfl) rfl l2 (gg rfl (q0J k rfl rfl rfl rfl rfl (by omega) ?_)))
  refine gg rfl (q2t (enc:=Spot.enc) (q4w a k) k (pt a (a.length-1-k)) rfl rfl (Nat.zero_add _) rfl (fun _=>rfl) rfl (Nat.zero_le _) (by rw[qbL];omega) ?_)
  refine gg rfl (q0J (a.length-1-k) rfl rfl rfl rfl rfl (by omega) ?_)
  refine gg rfl (q2t (enc:=Spot.enc) ((q4w a k).set k (pt a (a.length-1-k))) (a.length-1-k) (pt a k) rfl rfl (Nat.zero_add _) rfl (fun _=>rfl) rfl (Nat.zero_le _) (by rw[List.length_set,qbL];omega) ?_)
  rw[hst]
  refine gg rfl (q04 (hN (k+1) (by omega) (by omega) (q24 rfl ⟨q05 q0r _,trivial⟩ ⟨by simp[q00,w1,w2],?_⟩)))
  exact OldR.old (q8s q0r _ _) rfl rfl
 rw[q07]at e1
 rw[qup a (by omega)]
 exact gg rfl (q04 (gg rfl (qds rfl rfl (hk _ _ (OldR.of rfl rfl)))))
theorem q6c {h:q0e}{id o n:Nat}{c:List Spot}(hr:h id=some (.row (c.map Spot.enc) 2))(hn:o+n≤c.length):q1b h 8 (.ref id o n)=some (q0k ((c.drop o).take n)):=by
 rw[q1b,hr]
 simp only
 rw[if_pos (by simpa using hn),←List.map_drop,←List.map_take,qwD (by decide) (q0L q1u _)]
 rfl
set_option maxHeartbeats 8000000 in
theorem qtW (p:List Spot):PU qkk [q0k p]=some (.tup [q0k (q6b p).1,.int .i64 (q6b p).2]):=by
 refine q0g (fn:=qaM) rfl (q0a ?_)
 refine gg rfl (q02 rfl rfl (q3L p) (gg rfl (q01 rfl (fun h=>?_) (fun h=>?_))))
 ·rw[q0w]at h
  refine gg rfl (q09 rfl rfl rfl trivial ?_)
  rw[q6b,if_neg h];rfl
 have h:q1M p=0:=q0B.1 h
 rw[q6b,if_pos h]
 obtain⟨h3,h40,hok,hw,hs⟩:=q17 h
 refine gg rfl ?_
 rw[List.length_map]
 refine q0l (S:=fun k:Nat=>([q0k p,.ref 1 0 (q1S p k).length,q0k p,q00 p.length,q00 k],[none,some (.row ((q1S p k).map Spot.enc) 2),none,none,none],[0,0,0,0,0])) (C:=fun k=>k≤p.length) (m:=fun k=>p.length-k) 0 (Nat.zero_le _) (by omega) ?_ ?_
 ·exact q03 rfl ⟨rfl,trivial⟩ (by simp[q0k,q00,q1S])
 intro k hk N hN
 refine gg rfl (q01 rfl (fun e1=>?_) (fun e1=>?_))
 ·rw[q06]at e1
  have hlt:k<p.length:=by omega
  have w1:=wS (n:=k)
  have hcl:=qae p k
  refine gg rfl (q0j k rfl rfl rfl (q0U hlt) rfl (gg rfl (q02 rfl rfl (qIv p k hlt (by omega)) ?_)))
  refine gg rfl (q01 rfl (fun e2=>?_) (fun e2=>?_))
  ·rw[q0w]at e2
   have hst:q1S p (k+1)=q1S p k++[pt p k]:=by rw[q1S,if_pos e2]
   refine gg rfl (q1g rfl rfl rfl rfl rfl rfl (by simp) (Nat.zero_le _) (by simp[q0N];omega) ?_)
   refine gg rfl (q04 (hN (k+1) hlt (by omega) (q03 rfl ⟨?_,trivial⟩ ?_)))
   ·rw[List.all_append,q05 q0r];rfl
   rw[hst];simp[q0k,q00,w1,Spot.enc]
  rw[q0B]at e2
  have hst:q1S p (k+1)=q1S p k:=by rw[q1S,if_neg (by simp[e2])]
  refine gg rfl (q04 (hN (k+1) hlt (by omega) (q03 rfl ⟨q05 q0r _,trivial⟩ ?_)))
  rw[hst];simp[q0k,q00,w1]
 rw[q07]at e1
 obtain rfl:k=p.length:=by omega
 clear hN
 have hcl:=qae p p.length
 refine gg rfl (q04 (gg rfl (q02 rfl rfl (qCr p (by omega)) ?_)))
 refine gg rfl (q01 rfl (fun g=>?_) (fun g=>?_))
 ·rw[q06]at g
  have hd:qyv p=(q1S p p.length).reverse:=by rw[qyv,if_pos g]
  rw[hd]
  generalize q1S p p.length=c at*
  refine gg rfl (q6y (fn:=k_slices_Reverse_Spot_Spot) rfl rfl (rev47 c (by omega) (OldR.of rfl rfl) fun h' z' hold=>?_))
  obtain⟨⟨h0,rfl⟩,z0,rfl⟩:=hold
  have hl:c.length=c.reverse.length:=by simp
  rw[hl]at hcl
  rw[hl]
  generalize c.reverse=r at*
  refine gg rfl (q0l (S:=fun k:Nat=>([.ref 0 0 (r).length,q00 (q0R (r) k),.ref 0 0 (r).length,q00 (r).length,q00 k],[some (.row ((r).map Spot.enc) 2),none,none,none,none],[0,0,0,0,0])) (C:=fun k=>k≤(r).length) (m:=fun k=>(r).length-k) 0 (Nat.zero_le _) (by omega) ?_ ?_)
  ·exact q03 rfl ⟨q05 q0r _,q05 q0r _,trivial⟩ (by simp[q00,q0R])
  intro k hk N hN
  refine gg rfl (q01 rfl (fun e1=>?_) (fun e1=>?_))
  ·rw[q06]at e1
   have hlt:k<(r).length:=by omega
   have w1:=wS (n:=k)
   have hfl:=q8n (r) k
   refine gg rfl (q0J k rfl rfl rfl rfl rfl (by omega) ?_)
   refine gg rfl (q2S (enc:=Spot.enc) (r) k (pt (r) k) rfl (Nat.zero_add _) (fun _=>rfl) rfl (by rw[q0H hlt];exact List.getElem?_eq_getElem _) ?_)
   refine gg rfl (q0J (q0R (r) k) rfl rfl rfl rfl rfl (by omega) ?_)
   refine gg rfl (q2S (enc:=Spot.enc) (r) (q0R (r) k) (pt (r) (q0R (r) k)) rfl (Nat.zero_add _) (fun _=>rfl) rfl (by rw[q0H (by omega)];exact List.getElem?_eq_getElem _) ?_)
   refine gg rfl ?_
   have yes:lexB (pt (r) k) (pt (r) (q0R (r) k))=true→q0R (r) (k+1)=k:=fun h=>by rw[q0R,if_pos h]
   have no:lexB (pt (r) k) (pt (r) (q0R (r) k))=false→q0R (r) (k+1)=q0R (r) k:=fun h=>by rw[q0R,if_neg (by rw[h];decide)]
   refine q08 rfl (fun g1=>?_) (fun g1=>?_)
   ·rw[q06]at g1
    have hy:=yes (by simp[lexB,g1])
    exact gg rfl (q0d rfl (gg rfl (q04 (hN (k+1) hlt (by omega) (q03 rfl ⟨q05 q0r _,q05 q0r _,trivial⟩ (by simp[q00,hy,w1]))))))
   rw[q07]at g1
   refine gg rfl (q08 rfl (fun g2=>?_) (fun g2=>?_))
   ·rw[q1I]at g2
    refine gg rfl (q01 rfl (fun g3=>?_) (fun g3=>?_))
    ·rw[q06]at g3
     have hy:=yes (by simp[lexB,g2,g3])
     exact gg rfl (q04 (hN (k+1) hlt (by omega) (q03 rfl ⟨q05 q0r _,q05 q0r _,trivial⟩ (by simp[q00,hy,w1]))))
    rw[q07]at g3
    have hy:=no (by simp[lexB];omega)
    exact gg rfl (q04 (hN (k+1) hlt (by omega) (q03 rfl ⟨q05 q0r _,q05 q0r _,trivial⟩ (by simp[q00,hy,w1]))))
   rw[q1J]at g2
   have hy:=no (by simp[lexB];omega)
   exact gg rfl (q0i rfl (gg rfl (q04 (hN (k+1) hlt (by omega) (q03 rfl ⟨q05 q0r _,q05 q0r _,trivial⟩ (by simp[q00,hy,w1]))))))
  rw[q07]at e1
  obtain rfl:k=(r).length:=by omega
  clear hN
  have hfl:=q8n (r) (r).length
  have hfin:PU q3c [q7H [(r).drop (q0R (r) (r).length),(r).take (q0R (r) (r).length)]]=some (q0k (qsi (r))):=by
   rw[qtV _ (by simp;omega) (by simp)]
   simp[qsi]
  refine gg rfl (q04 (gg rfl ?_))
  by_cases h0:q0R (r) (r).length=0
  ·refine qzw (q0R (r) (r).length) (r).length rfl rfl rfl ⟨_,_,rfl,rfl⟩ rfl ⟨hfl,Nat.le_refl _⟩ ?_
   rw[if_pos h0]
   refine gg rfl (qaB (q0R (r) (r).length) rfl rfl rfl ⟨_,_,rfl,rfl⟩ hfl (gg rfl (qnT [q7H [(r).drop (q0R (r) (r).length),(r).take (q0R (r) (r).length)]] rfl (qoj rfl (Nat.le_refl 2) ?_ (fun k hk=>hk)) hfin fun z=>?_)))
   ·simp only[List.take,List.mapM_cons,List.mapM_nil]
    rw[q6c rfl (by omega),q6c rfl (by omega),h0]
    simp
   exact gg rfl (q09 rfl rfl rfl trivial rfl)
  have hlt:=qkG (r) (r).length (by omega)
  refine qzw (q0R (r) (r).length) (r).length rfl rfl rfl ⟨_,_,rfl,rfl⟩ rfl ⟨hfl,Nat.le_refl _⟩ ?_
  rw[if_neg h0,if_neg (by omega)]
  refine gg rfl (qaB (q0R (r) (r).length) rfl rfl rfl ⟨_,_,rfl,rfl⟩ hfl (gg rfl (qnT [q7H [(r).drop (q0R (r) (r).length),(r).take (q0R (r) (r).length)]] rfl (qoj rfl (Nat.le_refl 2) ?_ (fun k hk=>hk)) hfin fun z=>?_)))
  ·simp only[List.take,List.mapM_cons,List.mapM_nil]
   rw[q6c rfl (by omega),q6c rfl (by omega)]
   have e1:((r).drop (0+q0R (r) (r).length)).take ((r).length-q0R (r) (r).length)=(r).drop (q0R (r) (r).length):=by
    rw[Nat.zero_add];exact List.take_of_length_le (by simp)
   rw[e1];simp
  exact gg rfl (q09 rfl rfl rfl trivial rfl)
 rw[q07]at g
 have hd:qyv p=q1S p p.length:=by rw[qyv,if_neg (by omega)]
 rw[hd]
 generalize q1S p p.length=r at*
 refine gg rfl (q0l (S:=fun k:Nat=>([.ref 0 0 (r).length,q00 (q0R (r) k),.ref 0 0 (r).length,q00 (r).length,q00 k],[some (.row ((r).map Spot.enc) 2),none,none,none,none],[0,0,0,0,0])) (C:=fun k=>k≤(r).length) (m:=fun k=>(r).length-k) 0 (Nat.zero_le _) (by omega) ?_ ?_)
 ·exact q03 rfl ⟨q05 q0r _,q05 q0r _,trivial⟩ (by simp[q00,q0R])
 intro k hk N hN
 refine gg rfl (q01 rfl (fun e1=>?_) (fun e1=>?_))
 ·rw[q06]at e1
  have hlt:k<(r).length:=by omega
  have w1:=wS (n:=k)
  have hfl:=q8n (r) k
  refine gg rfl (q0J k rfl rfl rfl rfl rfl (by omega) ?_)
  refine gg rfl (q2S (enc:=Spot.enc) (r) k (pt (r) k) rfl (Nat.zero_add _) (fun _=>rfl) rfl (by rw[q0H hlt];exact List.getElem?_eq_getElem _) ?_)
  refine gg rfl (q0J (q0R (r) k) rfl rfl rfl rfl rfl (by omega) ?_)
  refine gg rfl (q2S (enc:=Spot.enc) (r) (q0R (r) k) (pt (r) (q0R (r) k)) rfl (Nat.zero_add _) (fun _=>rfl) rfl (by rw[q0H (by omega)];exact List.getElem?_eq_getElem _) ?_)
  refine gg rfl ?_
  have yes:lexB (pt (r) k) (pt (r) (q0R (r) k))=true→q0R (r) (k+1)=k:=fun h=>by rw[q0R,if_pos h]
  have no:lexB (pt (r) k) (pt (r) (q0R (r) k))=false→q0R (r) (k+1)=q0R (r) k:=fun h=>by rw[q0R,if_neg (by rw[h];decide)]
  refine q08 rfl (fun g1=>?_) (fun g1=>?_)
  ·rw[q06]at g1
   have hy:=yes (by simp[lexB,g1])
   exact gg rfl (q0d rfl (gg rfl (q04 (hN (k+1) hlt (by omega) (q03 rfl ⟨q05 q0r _,q05 q0r _,trivial⟩ (by simp[q00,hy,w1]))))))
  rw[q07]at g1
  refine gg rfl (q08 rfl (fun g2=>?_) (fun g2=>?_))
  ·rw[q1I]at g2
   refine gg rfl (q01 rfl (fun g3=>?_) (fun g3=>?_))
   ·rw[q06]at g3
    have hy:=yes (by simp[lexB,g2,g3])
    exact gg rfl (q04 (hN (k+1) hlt (by omega) (q03 rfl ⟨q05 q0r _,q05 q0r _,trivial⟩ (by simp[q00,hy,w1]))))
   rw[q07]at g3
   have hy:=no (by simp[lexB];omega)
   exact gg rfl (q04 (hN (k+1) hlt (by omega) (q03 rfl ⟨q05 q0r _,q05 q0r _,trivial⟩ (by simp[q00,hy,w1]))))
  rw[q1J]at g2
  have hy:=no (by simp[lexB];omega)
  exact gg rfl (q0i rfl (gg rfl (q04 (hN (k+1) hlt (by omega) (q03 rfl ⟨q05 q0r _,q05 q0r _,trivial⟩ (by simp[q00,hy,w1]))))))
 rw[q07]at e1
 obtain rfl:k=(r).length:=by omega
 clear hN
 have hfl:=q8n (r) (r).length
 have hfin:PU q3c [q7H [(r).drop (q0R (r) (r).length),(r).take (q0R (r) (r).length)]]=some (q0k (qsi (r))):=by
  rw[qtV _ (by simp;omega) (by simp)]
  simp[qsi]
 refine gg rfl (q04 (gg rfl ?_))
 by_cases h0:q0R (r) (r).length=0
 ·refine qzw (q0R (r) (r).length) (r).length rfl rfl rfl ⟨_,_,rfl,rfl⟩ rfl ⟨hfl,Nat.le_refl _⟩ ?_
  rw[if_pos h0]
  refine gg rfl (qaB (q0R (r) (r).length) rfl rfl rfl ⟨_,_,rfl,rfl⟩ hfl (gg rfl (qnT [q7H [(r).drop (q0R (r) (r).length),(r).take (q0R (r) (r).length)]] rfl (qoj rfl (Nat.le_refl 2) ?_ (fun k hk=>hk)) hfin fun z=>?_)))
  ·simp only[List.take,List.mapM_cons,List.mapM_nil]
   rw[q6c rfl (by omega),q6c rfl (by omega),h0]
   simp
  exact gg rfl (q09 rfl rfl rfl trivial rfl)
 have hlt:=qkG (r) (r).length (by omega)
 refine qzw (q0R (r) (r).length) (r).length rfl rfl rfl ⟨_,_,rfl,rfl⟩ rfl ⟨hfl,Nat.le_refl _⟩ ?_
 rw[if_neg h0,if_neg (by omega)]
 refine gg rfl (qaB (q0R (r) (r).length) rfl rfl rfl ⟨_,_,rfl,rfl⟩ hfl (gg rfl (qnT [q7H [(r).drop (q0R (r) (r).length),(r).take (q0R (r) (r).length)]] rfl (qoj rfl (Nat.le_refl 2) ?_ (fun k hk=>hk)) hfin fun z=>?_)))
 ·simp only[List.take,List.mapM_cons,List.mapM_nil]
  rw[q6c rfl (by omega),q6c rfl (by omega)]
  have e1:((r).drop (0+q0R (r) (r).length)).take ((r).length-q0R (r) (r).length)=(r).drop (q0R (r) (r).length):=by
   rw[Nat.zero_add];exact List.take_of_length_le (by simp)
  rw[e1];simp
 exact gg rfl (q09 rfl rfl rfl trivial rfl)
end Go.F

namespace Go.F
def q5R (s:Spot):Spot:=⟨-s.y,s.x⟩
def q5r (s:Spot):Spot:=⟨-s.x,s.y⟩
def q3b:Nat→Spot→Spot
 |0,s=>s
 |k+1,s=>q5R (q3b k s)
def q1j (t:Turn)(s:Spot):Spot:=q3b (t.quarter%4).toNat (if t.flip then q5r s else s)
def Sm (s:Spot):Prop:=s.x.natAbs≤1099511627776∧s.y.natAbs≤1099511627776
theorem Sm.of {s:Spot}{m:Int}(h:q0x s m=true)(hm:m≤1099511627776):Sm s:=by
 rw[q1L]at h
 exact⟨by omega,by omega⟩
theorem ng_sm {x:Int}(h:x.natAbs≤1099511627776):ng x= -x:=by
 rw[qHX ⟨by omega,by omega⟩,if_neg (by omega)]
theorem qIh {s:Spot}(h:Sm s):Sm (q5R s):=⟨by have:=h.2;simp[q5R];omega,h.1⟩
theorem qIi {s:Spot}(h:Sm s):Sm (q5r s):=⟨by have:=h.1;simp[q5r];omega,h.2⟩
theorem qxb {s:Spot}(h:Sm s):∀k,Sm (q3b k s)
 |0=>h
 |k+1=>qIh (qxb h k)
theorem qA6 {s:Spot}(h:Sm s):∀k,q6g k s=q3b k s
 |0=>rfl
 |k+1=>by rw[q6g,qA6 h k,ng_sm (qxb h k).2];rfl
theorem qex {s:Spot}(h:Sm s)(t:Turn):q1a t s=q1j t s:=by
 unfold q1a q1j q4v
 split
 ·rw[ng_sm h.1];exact qA6 (qIi h) _
 exact qA6 h _
structure Iso (T:Spot→Spot)(w:Int):Prop where
 sg:w=1∨w= -1
 cross:∀a b c,q0v (T a) (T b) (T c)=w*q0v a b c
 on:∀a b p,onS (T a) (T b) (T p)=onS a b p
 area:∀a b,(T a).x*(T b).y-(T a).y*(T b).x=w*(a.x*b.y-a.y*b.x)
 inj:∀a b,T a=T b→a=b
 within:∀s m,q0x (T s) m=q0x s m
 dist:∀a b,((T b).x-(T a).x) *((T b).x-(T a).x)+((T b).y-(T a).y) *((T b).y-(T a).y)=(b.x-a.x) *(b.x-a.x)+(b.y-a.y) *(b.y-a.y)
theorem qA7:Iso (fun s=>s) 1:=⟨.inl rfl,fun _ _ _=>by omega,fun _ _ _=>rfl,fun _ _=>by omega,fun _ _ h=>h,fun _ _=>rfl,fun _ _=>rfl⟩
theorem qxc {S T:Spot→Spot}{u v:Int}(hS:Iso S u)(hT:Iso T v):Iso (fun s=>S (T s)) (u*v):=by
 refine⟨?_,fun a b c=>?_,fun a b p=>?_,fun a b=>?_,fun a b h=>hT.inj _ _ (hS.inj _ _ h),fun s m=>?_,fun a b=>?_⟩
 ·rcases hS.sg with rfl|rfl<;>rcases hT.sg with rfl|rfl<;>simp
 ·rw[hS.cross,hT.cross,Int.mul_assoc]
 ·rw[hS.on,hT.on]
 ·rw[hS.area,hT.area,Int.mul_assoc]
 ·rw[hS.within,hT.within]
 rw[hS.dist,hT.dist]
theorem iso_rot:Iso q5R 1:=by
 have hc:∀a b c,q0v (q5R a) (q5R b) (q5R c)=q0v a b c:=fun a b c=>by
  unfold q0v q5R;simp only;grind
 refine⟨.inl rfl,fun a b c=>by rw[hc];omega,fun a b p=>?_,fun a b=>?_,fun a b h=>?_,fun s m=>?_,fun a b=>?_⟩
 ·rw[Bool.eq_iff_iff,q7q,q7q,hc]
  simp only[q5R]
  omega
 ·simp only[q5R];grind
 ·obtain⟨ax,ay⟩:=a
  obtain⟨bx,by'⟩:=b
  simp only[q5R,Spot.mk.injEq]at h⊢
  omega
 ·rw[Bool.eq_iff_iff,q1L,q1L];simp only[q5R];omega
 simp only[q5R];grind
theorem iso_flp:Iso q5r (-1):=by
 have hc:∀a b c,q0v (q5r a) (q5r b) (q5r c)= -1*q0v a b c:=fun a b c=>by
  unfold q0v q5r;simp only;grind
 refine⟨.inr rfl,hc,fun a b p=>?_,fun a b=>?_,fun a b h=>?_,fun s m=>?_,fun a b=>?_⟩
 ·rw[Bool.eq_iff_iff,q7q,q7q,hc]
  simp only[q5r]
  omega
 ·simp only[q5r];grind
 ·obtain⟨ax,ay⟩:=a
  obtain⟨bx,by'⟩:=b
  simp only[q5r,Spot.mk.injEq]at h⊢
  omega
 ·rw[Bool.eq_iff_iff,q1L,q1L];simp only[q5r];omega
 simp only[q5r];grind
theorem qiN:∀k,Iso (q3b k) 1
 |0=>qA7
 |k+1=>by
  have h:=qxc iso_rot (qiN k)
  rw[Int.mul_one]at h
  exact h
def sgT (t:Turn):Int:=if t.flip then-1 else 1
theorem q8i (t:Turn):Iso (q1j t) (sgT t):=by
 unfold sgT
 cases hf:t.flip with
 |true=>
  have e:q1j t=fun s=>q3b (t.quarter%4).toNat (q5r s):=by funext s;simp[q1j,hf]
  rw[e]
  have:=qxc (qiN (t.quarter%4).toNat) iso_flp
  simpa using this
 |false=>
  have e:q1j t=fun s=>q3b (t.quarter%4).toNat s:=by funext s;simp[q1j,hf]
  rw[e]
  simpa using qiN (t.quarter%4).toNat
theorem Iso.parted {T:Spot→Spot}{u:Int}(h:Iso T u)(a b c d:Spot):q2C (T a) (T b) (T c) (T d)=q2C a b c d:=by
 unfold q2C
 rw[h.cross,h.cross]
 have hs:∀x:Int,sgn (-1*x)= -sgn x:=by intro x;unfold sgn;repeat' split
                                       all_goals omega
 rcases h.sg with rfl|rfl
 ·simp
 rw[hs,hs,Int.neg_mul_neg]
theorem Iso.meet {T:Spot→Spot}{u:Int}(h:Iso T u)(a b c d:Spot):q2Y (T a) (T b) (T c) (T d)=q2Y a b c d:=by
 unfold q2Y
 rw[h.on,h.on,h.on,h.on,h.parted,h.parted]
theorem qpj (a b c:Spot):q0v b a c= -q0v a b c:=by unfold q0v;grind
theorem qCj (x:Int):sgn (-x)= -sgn x:=by
 unfold sgn;repeat' split
 all_goals omega
theorem qxd (a b c d:Spot):q2C b a c d=q2C a b c d:=by
 unfold q2C
 rw[qpj,qpj a b d,qCj,qCj,Int.neg_mul_neg]
theorem quM (a b c d:Spot):q2C a b d c=q2C a b c d:=by
 unfold q2C;rw[Int.mul_comm]
theorem qtv (a b c d:Spot):q2Y b a c d=q2Y a b c d:=by
 unfold q2Y
 rw[qqR b a c,qqR b a d,qxd,quM c d a b,Bool.eq_iff_iff]
 simp only[Bool.or_eq_true]
 grind
theorem qk8 (a b c d:Spot):q2Y c d a b=q2Y a b c d:=by
 unfold q2Y
 rw[Bool.eq_iff_iff]
 simp only[Bool.or_eq_true,Bool.and_eq_true]
 grind
theorem qA8 (a b c d:Spot):q2Y a b d c=q2Y a b c d:=by
 rw[qk8,qtv,qk8]
def cyc (p:List Spot)(i:Int):Spot:=pt p (i%p.length).toNat
theorem q4R {p:List Spot}{i:Nat}:cyc p i=pt p (i%p.length):=by
 unfold cyc;congr 1
theorem q95 {p:List Spot}{i:Nat}(h:i<p.length):cyc p i=pt p i:=by rw[q4R,Nat.mod_eq_of_lt h]
theorem qA9 (p:List Spot)(i k:Int):cyc p (i+p.length*k)=cyc p i:=by
 unfold cyc;rw[Int.add_mul_emod_self_left]
theorem q8j {p:List Spot}{i j:Int}(h:(p.length:Int)∣i-j):cyc p i=cyc p j:=by
 unfold cyc
 rw[Int.emod_emod_of_dvd _ (Int.dvd_refl _) |>.symm,Int.emod_eq_emod_iff_emod_sub_eq_zero.2 (Int.emod_eq_zero_of_dvd h),Int.emod_emod]
structure SimC (n:Int)(F:Int→Spot):Prop where
 side:∀i,F i≠F (i+1)∧onS (F i) (F (i+1)) (F (i+2))=false∧onS (F (i+1)) (F (i+2)) (F i)=false
 apart:∀i k,¬n∣i-k→¬n∣i+1-k→¬n∣k+1-i→q2Y (F i) (F (i+1)) (F k) (F (k+1))=false
theorem qiO {n a b:Nat}(hn:0<n):((n:Int)∣(a:Int)-b)↔a%n=b%n:=by
 rw[←Int.emod_eq_emod_iff_emod_sub_eq_zero.trans (Int.dvd_iff_emod_eq_zero).symm]
 omega
theorem qCk {p:List Spot}(h3:3≤p.length)(h:q2k p):SimC p.length (cyc p):=by
 have red:∀i:Int,∃j:Nat,j<p.length∧∀k:Nat,cyc p (i+k)=pt p ((j+k)%p.length):=by
  intro i
  have h0:=Int.emod_nonneg i (show(p.length:Int)≠0 by omega)
  have h1:=Int.emod_lt_of_pos i (show 0<(p.length:Int)by omega)
  refine⟨(i%p.length).toNat,by omega,fun k=>?_⟩
  rw[←q4R]
  refine q8j (⟨i/p.length,?_⟩)
  have:=Int.emod_add_mul_ediv i p.length
  omega
 have red2:∀i:Int,∃j:Nat,j<p.length∧(∀k:Nat,cyc p (i+k)=pt p ((j+k)%p.length))∧(p.length:Int)∣i-j:=by
  intro i
  have h0:=Int.emod_nonneg i (show(p.length:Int)≠0 by omega)
  have h1:=Int.emod_lt_of_pos i (show 0<(p.length:Int)by omega)
  have hd:(p.length:Int)∣i-(i%p.length).toNat:=⟨i/p.length,by have:=Int.emod_add_mul_ediv i p.length;omega⟩
  refine⟨(i%p.length).toNat,by omega,fun k=>?_,hd⟩
  rw[←q4R]
  refine q8j ?_
  obtain⟨c,hc⟩:=hd
  exact⟨c,by omega⟩
 refine⟨fun i=>?_,fun i k e1 e2 e3=>?_⟩
 ·obtain⟨j,hj,hF⟩:=red i
  have f0:=hF 0
  have f1:=hF 1
  have f2:=hF 2
  simp only[Int.natCast_zero,Int.add_zero,Nat.add_zero,Nat.mod_eq_of_lt hj]at f0
  have f1:cyc p (i+1)=pt p ((j+1)%p.length):=f1
  have f2:cyc p (i+2)=pt p ((j+2)%p.length):=f2
  rw[f0,f1,f2]
  exact(h j hj).1
 obtain⟨j,hj,hF,d1⟩:=red2 i
 obtain⟨m,hm,hG,d2⟩:=red2 k
 have f0:=hF 0
 have f1:cyc p (i+1)=pt p ((j+1)%p.length):=hF 1
 have g0:=hG 0
 have g1:cyc p (k+1)=pt p ((m+1)%p.length):=hG 1
 simp only[Int.natCast_zero,Int.add_zero,Nat.add_zero,Nat.mod_eq_of_lt hj]at f0
 simp only[Int.natCast_zero,Int.add_zero,Nat.add_zero,Nat.mod_eq_of_lt hm]at g0
 have tr:∀{a b:Int},(p.length:Int)∣a-b→((p.length:Int)∣a↔(p.length:Int)∣b):=by
  intro a b hab
  obtain⟨c,hc⟩:=hab
  constructor
  ·rintro⟨d,hd⟩;exact⟨d-c,by rw[Int.mul_sub];omega⟩
  rintro⟨d,hd⟩;exact⟨d+c,by rw[Int.mul_add];omega⟩
 have ddif:∀z:Int,(p.length:Int)∣(i+z-k)-((j:Int)+z-m):=by
  intro z
  obtain⟨c,hc⟩:=d1
  obtain⟨d,hd⟩:=d2
  exact⟨c-d,by rw[Int.mul_sub];omega⟩
 have ddif2:(p.length:Int)∣(k+1-i)-((m:Int)+1-j):=by
  obtain⟨c,hc⟩:=d1
  obtain⟨d,hd⟩:=d2
  exact⟨d-c,by rw[Int.mul_sub];omega⟩
 have n1:j≠m:=by
  intro e
  apply e1
  have:=(tr (ddif 0)).2 (by rw[e];exact⟨0,by omega⟩)
  simpa using this
 have n2:(j+1)%p.length≠m:=by
  intro e
  apply e2
  refine(tr (ddif 1)).2 ?_
  have:=(qiO (a:=j+1) (b:=m) (show 0<p.length by omega)).2 (by rw[e,Nat.mod_eq_of_lt hm])
  simpa using this
 have n3:(m+1)%p.length≠j:=by
  intro e
  apply e3
  refine(tr ddif2).2 ?_
  have:=(qiO (a:=m+1) (b:=j) (show 0<p.length by omega)).2 (by rw[e,Nat.mod_eq_of_lt hj])
  simpa using this
 rw[f0,f1,g0,g1]
 rcases Nat.lt_or_gt_of_ne n1 with hlt|hlt
 ·refine(h j hj).2 m hm ?_ n3
  rcases Nat.lt_or_ge (j+1) m with g|g
  ·omega
  exfalso;apply n2
  rw[Nat.mod_eq_of_lt (by omega)];omega
 rw[qk8]
 refine(h m hm).2 j hj ?_ n2
 rcases Nat.lt_or_ge (m+1) j with g|g
 ·omega
 exfalso;apply n3
 rw[Nat.mod_eq_of_lt (by omega)];omega
theorem qIj {p:List Spot}(h3:3≤p.length)(h:SimC p.length (cyc p)):q2k p:=by
 intro i hi
 have c0:cyc p (i:Int)=pt p i:=q95 hi
 have c1:cyc p ((i:Int)+1)=pt p ((i+1)%p.length):=q4R (i:=i+1)
 have c2:cyc p ((i:Int)+2)=pt p ((i+2)%p.length):=q4R (i:=i+2)
 refine⟨?_,fun k hk hik hki=>?_⟩
 ·have:=h.side i
  rw[c0,c1,c2]at this
  exact this
 have d0:cyc p (k:Int)=pt p k:=q95 hk
 have d1:cyc p ((k:Int)+1)=pt p ((k+1)%p.length):=q4R (i:=k+1)
 have hn:0<p.length:=by omega
 have:=h.apart i k (fun e=>?_) (fun e=>?_) (fun e=>?_)
 ·rw[c0,c1,d0,d1]at this;exact this
 ·have:=(qiO hn).1 e
  rw[Nat.mod_eq_of_lt hi,Nat.mod_eq_of_lt hk]at this;omega
 ·have:=(qiO (a:=i+1) (b:=k) hn).1 (by simpa using e)
  rw[Nat.mod_eq_of_lt hk,Nat.mod_eq_of_lt (by omega)]at this;omega
 have:=(qiO (a:=k+1) (b:=i) hn).1 (by simpa using e)
 rw[Nat.mod_eq_of_lt hi]at this;exact hki this
theorem SimC.image {n:Int}{F:Int→Spot}(h:SimC n F){T:Spot→Spot}{u:Int}(hT:Iso T u):SimC n fun i=>T (F i):=by
 refine⟨fun i=>?_,fun i k e1 e2 e3=>?_⟩
 ·obtain⟨h1,h2,h3⟩:=h.side i
  exact⟨fun e=>h1 (hT.inj _ _ e),by rw[hT.on];exact h2,by rw[hT.on];exact h3⟩
 rw[hT.meet];exact h.apart i k e1 e2 e3
theorem SimC.shift {n:Int}{F:Int→Spot}(h:SimC n F)(c:Int):SimC n fun i=>F (c+i):=by
 refine⟨fun i=>?_,fun i k e1 e2 e3=>?_⟩
 ·have:=h.side (c+i)
  rw[Int.add_assoc,Int.add_assoc]at this
  exact this
 have:=h.apart (c+i) (c+k) (by rwa[show c+i-(c+k)=i-k by omega]) (by rwa[show c+i+1-(c+k)=i+1-k by omega]) (by rwa[show c+k+1-(c+i)=k+1-i by omega])
 rw[Int.add_assoc,Int.add_assoc]at this
 exact this
theorem SimC.back {n:Int}{F:Int→Spot}(h:SimC n F)(c:Int):SimC n fun i=>F (c-i):=by
 refine⟨fun i=>?_,fun i k e1 e2 e3=>?_⟩
 ·obtain⟨h1,h2,h3⟩:=h.side (c-i-2)
  have s1:=h.side (c-i-1)
  rw[show c-i-2+1=c-(i+1)by omega,show c-i-2+2=c-i by omega,show c-i-2=c-(i+2)by omega]at h2 h3
  rw[show c-i-1+1=c-i by omega,show c-i-1=c-(i+1)by omega]at s1
  refine⟨fun e=>s1.1 e.symm,?_,?_⟩
  ·rw[qqR];exact h3
  rw[qqR];exact h2
 have:=h.apart (c-(i+1)) (c-(k+1)) (fun e=>e1 ?_) (fun e=>e3 ?_) (fun e=>e2 ?_)
 ·rw[qtv,qA8]
  rw[show c-(i+1)+1=c-i by omega,show c-(k+1)+1=c-k by omega]at this
  exact this
 ·obtain⟨d,hd⟩:=e;exact⟨-d,by rw[Int.mul_neg];omega⟩
 ·obtain⟨d,hd⟩:=e;exact⟨d,by omega⟩
 obtain⟨d,hd⟩:=e;exact⟨d,by omega⟩
def q6A (g:Int→Int):Nat→Int
 |0=>0
 |k+1=>q6A g k+g k
theorem qbT {f g:Int→Int}:∀n:Nat,(∀i:Nat,i<n→f i=g i)→q6A f n=q6A g n
 |0,_=>rfl
 |n+1,h=>by rw[q6A,q6A,qbT n (fun i hi=>h i (by omega)),h n (by omega)]
theorem qey (g:Int→Int):∀n:Nat,q6A (fun i=>g (1+i)) n+g 0=q6A g n+g n
 |0=>by simp[q6A]
 |n+1=>by
  have:=qey g n
  rw[q6A,q6A]
  have e:g (1+(n:Int))=g ((n+1:Nat):Int):=by congr 1;omega
  rw[e];omega
theorem qbU {g:Int→Int}{n:Nat}(hg:∀i,g (i+n)=g i):∀c:Nat,q6A (fun i=>g (c+i)) n=q6A g n
 |0=>by simp
 |c+1=>by
  have h1:=qey (fun i=>g (c+i)) n
  have h0:g ((c:Int)+(n:Int))=g ((c:Int)+0):=by rw[hg,Int.add_zero]
  have e:(fun i:Int=>g ((c:Int)+(1+i)))=fun i=>g ((c+1:Nat)+i):=by funext i;congr 1;omega
  rw[e,h0]at h1
  rw[←qbU hg c]
  omega
theorem qxe (g:Int→Int):∀n:Nat,q6A (fun i=>g (n-1-i)) n=q6A g n
 |0=>rfl
 |n+1=>by
  have h1:=qey (fun i=>g ((n+1:Nat)-1-i)) n
  have e:(fun i:Int=>g ((n+1:Nat)-1-(1+i)))=fun i=>g (n-1-i):=by funext i;congr 1;omega
  rw[e,qxe g n]at h1
  rw[q6A,q6A]
  have e2:((n+1:Nat):Int)-1-0=n:=by omega
  rw[e2]at h1
  omega
theorem qDy {g:Int→Int}{n:Nat}(hg:∀i,g (i+n)=g i)(c:Nat):q6A (fun i=>g (c-i)) n=q6A g n:=by
 rw[←qbU hg (c+1),←qxe (fun i=>g ((c+1:Nat)+i)) n]
 congr 1
 funext i
 rw[←hg (c-i)]
 congr 1
 omega
def q6P (a b:Spot):Int:=a.x*b.y-a.y*b.x
theorem qtw (p:List Spot):q4s p=q6A (fun i=>q6P (cyc p i) (cyc p (i+1))) p.length:=by
 unfold q4s
 have key:∀k,k≤p.length→q2p p k=q6A (fun i=>q6P (cyc p i) (cyc p (i+1))) k:=by
  intro k
  induction k with
  |zero=>intro _;rfl
  |succ k ih=>
   intro hk
   rw[q2p,q6A,ih (by omega),q95 (by omega)]
   have:cyc p ((k:Int)+1)=pt p ((k+1)%p.length):=q4R (i:=k+1)
   rw[this];rfl
 exact key _ (Nat.le_refl _)
theorem q4C (p:List Spot)(i:Int):cyc p (i+p.length)=cyc p i:=by
 have:=qA9 p i 1
 rwa[Int.mul_one]at this
def Img (T:Spot→Spot)(u:Int)(back:Bool)(c:Nat)(p q:List Spot):Prop:=
 q.length=p.length∧Iso T u∧∀i:Nat,i<q.length→pt q i=T (cyc p (if back then(c:Int)-i else(c:Int)+i))
theorem Img.cyc {T:Spot→Spot}{u:Int}{b:Bool}{c:Nat}{p q:List Spot}(h:Img T u b c p q)(h0:0<p.length)(i:Int):cyc q i=T (cyc p (if b then(c:Int)-i else(c:Int)+i)):=by
 obtain⟨hl,hT,hi⟩:=h
 have h1:=Int.emod_nonneg i (show(q.length:Int)≠0 by omega)
 have h2:=Int.emod_lt_of_pos i (show 0<(q.length:Int)by omega)
 unfold Go.F.cyc
 rw[hi _ (by omega)]
 congr 1
 refine q8j ?_
 have hd:=Int.emod_add_mul_ediv i q.length
 rw[hl]at hd⊢
 rw[hl]at h1 h2
 split
 ·exact⟨i/p.length,by omega⟩
 exact⟨-(i/p.length),by rw[Int.mul_neg];omega⟩
theorem Img.simple {T:Spot→Spot}{u:Int}{b:Bool}{c:Nat}{p q:List Spot}(h:Img T u b c p q)(h3:3≤p.length)(hs:q2k p):q2k q:=by
 have hS:=qCk h3 hs
 refine qIj (by rw[h.1];exact h3) ?_
 have e:Go.F.cyc q=fun i=>T (Go.F.cyc p (if b then(c:Int)-i else(c:Int)+i)):=by funext i;exact h.cyc (by omega) i
 rw[e,h.1]
 cases b with
 |true=>exact(hS.back c).image h.2.1
 |false=>exact(hS.shift c).image h.2.1
theorem Img.area {T:Spot→Spot}{u:Int}{b:Bool}{c:Nat}{p q:List Spot}(h:Img T u b c p q)(h0:0<p.length):q4s q=(if b then-u else u) *q4s p:=by
 rw[qtw,qtw,h.1]
 have hper:∀i,q6P (Go.F.cyc p (i+p.length)) (Go.F.cyc p (i+p.length+1))=q6P (Go.F.cyc p i) (Go.F.cyc p (i+1)):=by
  intro i
  rw[q4C,show i+(p.length:Int)+1=(i+1)+p.length by omega,q4C]
 have hlin:∀(v:Int) (f:Int→Int) (n:Nat),q6A (fun i=>v*f i) n=v*q6A f n:=by
  intro v f n
  induction n with
  |zero=>simp[q6A]
  |succ n ih=>rw[q6A,q6A,ih,Int.mul_add]
 cases b with
 |false=>
  simp only[Bool.false_eq_true,if_false]
  rw[←qbU (g:=fun i=>q6P (Go.F.cyc p i) (Go.F.cyc p (i+1))) hper c,←hlin]
  apply qbT
  intro i _
  rw[h.cyc h0,h.cyc h0]
  simp only[Bool.false_eq_true,if_false,q6P]
  rw[h.2.1.area,←Int.add_assoc]
 |true=>
  simp only[if_true]
  have hper2:∀i,q6P (Go.F.cyc p (i+p.length-1)) (Go.F.cyc p (i+p.length))=q6P (Go.F.cyc p (i-1)) (Go.F.cyc p i):=by
   intro i
   rw[q4C,show i+(p.length:Int)-1=(i-1)+p.length by omega,q4C]
  have e1:q6A (fun i=>q6P (Go.F.cyc p i) (Go.F.cyc p (i+1))) p.length=q6A (fun i=>q6P (Go.F.cyc p (i-1)) (Go.F.cyc p i)) p.length:=by
   rw[←qbU (g:=fun i=>q6P (Go.F.cyc p (i-1)) (Go.F.cyc p i)) hper2 1]
   apply qbT
   intro i _
   congr 2<;>omega
  rw[e1,←qDy (g:=fun i=>q6P (Go.F.cyc p (i-1)) (Go.F.cyc p i)) hper2 c,←hlin]
  apply qbT
  intro i _
  rw[h.cyc h0,h.cyc h0]
  simp only[if_true,q6P]
  rw[h.2.1.area,show(c:Int)-(i+1)=c-i-1 by omega,Int.neg_mul]
  have:∀a b:Spot,b.x*a.y-b.y*a.x= -(a.x*b.y-a.y*b.x):=fun a b=>by grind
  rw[this,Int.mul_neg]
theorem Img.within {T:Spot→Spot}{u:Int}{b:Bool}{c:Nat}{p q:List Spot}(h:Img T u b c p q)(h0:0<p.length){m:Int}(hw:∀s∈p,q0x s m=true):∀s∈q,q0x s m=true:=by
 intro s hs
 obtain⟨i,hi,rfl⟩:=List.getElem_of_mem hs
 rw[←q0H hi,h.2.2 i hi,h.2.1.within]
 unfold Go.F.cyc
 generalize (if b=true then(c:Int)-(i:Int)else(c:Int)+(i:Int))=z
 have h1:=Int.emod_nonneg z (show(p.length:Int)≠0 by omega)
 have h2:=Int.emod_lt_of_pos z (show 0<(p.length:Int)by omega)
 rw[q0H (by omega)]
 exact hw _ (List.getElem_mem _)
theorem Img.check {T:Spot→Spot}{u:Int}{b:Bool}{c:Nat}{p q:List Spot}(h:Img T u b c p q)(hc:q1M p=0):q1M q=0:=by
 obtain⟨h3,h40,_,hw,hs⟩:=q17 hc
 have hs':=h.simple h3 ((q74 h3).1 hs)
 have h3':3≤q.length:=by rw[h.1];exact h3
 have hw':=h.within (by omega) hw
 rw[q1M,if_neg (by rw[h.1];omega),if_neg (by omega),if_neg,if_pos ((q74 h3').2 hs')]
 simp only[List.any_eq_true,not_exists,not_and]
 intro s hsq
 rw[hw' s hsq];decide
end Go.F

namespace Go.F
def off (l:List Edge)(k:Nat):Nat:=(q0n (l.take k)).length
theorem qiP (l:List Edge):off l 0=0:=by simp[off,q0n]
theorem q6o {l:List Edge}{k:Nat}(h:k<l.length):off l (k+1)=off l k+((eg l k).line.length-1):=by
 unfold off;rw[qc5 h,q3M h];simp
theorem qa3 (l:List Edge):off l l.length=(q0n l).length:=by unfold off;rw[List.take_length]
theorem qpk {l:List Edge}:∀n,n≤l.length→∀i,i<off l n→∃k j,k<n∧j+1<(eg l k).line.length∧i=off l k+j
 |0,_,i,hi=>by rw[qiP]at hi;omega
 |n+1,hn,i,hi=>by
  by_cases h:i<off l n
  ·obtain⟨k,j,h1,h2,h3⟩:=qpk n (by omega) i h
   exact⟨k,j,by omega,h2,h3⟩
  rw[q6o (by omega)]at hi
  exact⟨n,i-off l n,by omega,by omega,by omega⟩
theorem qbe {l:List Edge}{j k:Nat}(h:j≤k)(hk:k≤l.length):off l j≤off l k:=by
 induction k with
 |zero=>obtain rfl:j=0:=by omega
        exact Nat.le_refl _
 |succ k ih=>
  by_cases e:j=k+1
  ·subst e;exact Nat.le_refl _
  have:=ih (by omega) (by omega)
  rw[q6o (by omega)];omega
theorem q6Q (t:Turn)(p:List Spot):(q5b t p).length=p.length:=by unfold q5b;split<;>simp
theorem q5s (t:Turn){p:List Spot}{j:Nat}(h:j<p.length):pt (q5b t p) j=q1a t (pt p (if t.flip then p.length-1-j else j)):=by
 rw[q0H (by rw[q6Q];exact h)]
 unfold q5b
 split
 ·rename_i hf
  simp only[if_pos hf,List.getElem_reverse,List.getElem_map,List.length_map]
  rw[q0H (by omega)]
 rename_i hf
 simp only[if_neg hf,List.getElem_map]
 rw[q0H h]
theorem qbW (t:Turn){l:List Edge}(hm:0<l.length):∀k,k≤l.length→off (q0P t l) k=if t.flip then(if k=0 then 0 else off l 1+(off l l.length-off l (l.length-k+1)))else off l k
 |0,_=>by rw[qiP];split<;>simp[qiP]
 |k+1,hk=>by
  have hl:=q4O t l
  rw[q6o (by omega),qbW t hm k (by omega),q3q t (by omega)]
  have e:(q25 t (eg l (q2e t l.length k))).line.length=(eg l (q2e t l.length k)).line.length:=q6Q t _
  rw[e]
  cases hf:t.flip with
  |false=>
   simp only[Bool.false_eq_true,if_false]
   rw[q6o (by omega),q2e,if_neg (by rw[hf];decide)]
  |true=>
   simp only[if_true,Nat.add_eq_zero_iff,Nat.one_ne_zero,and_false,if_false]
   rw[q2e,if_pos hf]
   rcases Nat.eq_zero_or_pos k with rfl|h0
   ·rw[if_pos rfl,Nat.sub_zero,Nat.mod_self,Nat.sub_add_cancel (by omega),Nat.sub_self,q6o (l:=l) (k:=0) hm,qiP]
    omega
   rw[if_neg (by omega),Nat.mod_eq_of_lt (by omega)]
   have e1:l.length-(k+1)+1=l.length-k:=by omega
   have e2:off l (l.length-k+1)=off l (l.length-k)+((eg l (l.length-k)).line.length-1):=q6o (by omega)
   have e3:=qbe (l:=l) (j:=l.length-k+1) (k:=l.length) (by omega) (Nat.le_refl _)
   rw[e1];omega
theorem qk9 (t:Turn){l:List Edge}(hm:0<l.length):(q0n (q0P t l)).length=(q0n l).length:=by
 have h:=qbW t hm l.length (Nat.le_refl _)
 have e:off (q0P t l) l.length=(q0n (q0P t l)).length:=by rw[←q4O t l];exact qa3 _
 rw[e]at h
 rw[h,←qa3 l]
 split
 ·rw[if_neg (by omega),Nat.sub_self]
  have:=qbe (l:=l) (j:=0+1) (k:=l.length) (by omega) (Nat.le_refl _)
  simp only[Nat.zero_add]at*
  omega
 rfl
def beg (t:Turn)(l:List Edge):Nat:=if t.flip then off l 1 else 0
theorem qxf {l:List Edge}(hc:q0O l=0):∀s∈q0n l,q0x s 1048576=true:=(q17 (q18 hc).2.2.2.2).2.2.2.1
theorem qfy {l:List Edge}(hc:q0O l=0)(t:Turn):Img (q1j t) (sgT t) t.flip (beg t l) (q0n l) (q0n (q0P t l)):=by
 obtain⟨h2,h16,hfe,hje,hchk⟩:=q18 hc
 have hlt:=q4O t l
 have hlen:=qk9 t (l:=l) (by omega)
 have hn3:=(q17 hchk).1
 have hin:=qxf hc
 refine⟨hlen,q8i t,fun i hi=>?_⟩
 have hE:∀z,q1j t (cyc (q0n l) z)=q1a t (cyc (q0n l) z):=by
  intro z
  refine(qex (Sm.of (hin _ ?_) (by decide)) t).symm
  unfold cyc
  have h1:=Int.emod_nonneg z (show((q0n l).length:Int)≠0 by omega)
  have h2:=Int.emod_lt_of_pos z (show 0<((q0n l).length:Int)by omega)
  rw[q0H (by omega)];exact List.getElem_mem _
 rw[hE]
 obtain⟨k,j,hk,hj,rfl⟩:=qpk (l:=q0P t l) l.length (by omega) i (by rw[←hlt,qa3];exact hi)
 have hp:=qbI (l:=q0P t l) (k:=k) (j:=j) (by omega) hj
 have hp:pt (q0n (q0P t l)) (off (q0P t l) k+j)=pt (eg (q0P t l) k).line j:=hp
 have hge:=q3q t hk
 rw[hp,hge]
 rw[hge]at hj
 have hx:=q5Q t hk
 have el:(q25 t (eg l (q2e t l.length k))).line=q5b t (eg l (q2e t l.length k)).line:=rfl
 rw[el,q6Q]at hj
 rw[el,q5s t (by omega)]
 congr 1
 have hot:=qbW t (l:=l) (by omega) k (by omega)
 cases hf:t.flip with
 |false=>
  simp only[Bool.false_eq_true,if_false,beg,hf]
  rw[hf]at hot
  simp only[Bool.false_eq_true,if_false]at hot
  have ex:q2e t l.length k=k:=by rw[q2e,if_neg (by rw[hf];decide)]
  rw[ex]at hj⊢
  rw[←qbI hk hj,hot]
  have e0:((0:Nat):Int)+((off l k+j:Nat):Int)=((off l k+j:Nat):Int):=by omega
  rw[e0,q95]
  ·rfl
  have h1:=q6o hk
  have h2:=qbe (l:=l) (j:=k+1) (k:=l.length) (by omega) (Nat.le_refl _)
  rw[qa3]at h2
  omega
 |true=>
  simp only[if_true,beg,hf]
  rw[hf]at hot
  simp only[if_true]at hot
  have hx':=hx
  generalize hK:q2e t l.length k=K at*
  have hnx:=qr5 hc hx' (j:=(eg l K).line.length-2-j) (by omega)
  rw[show(eg l K).line.length-2-j+1=(eg l K).line.length-1-j by omega]at hnx
  rw[←hnx,←q4R]
  refine q8j ?_
  have ho:=q6o hx'
  have e1:(q0n (l.take K)).length=off l K:=rfl
  rw[e1]
  have hall:=qa3 l
  have hmono:=qbe (l:=l) (j:=K+1) (k:=l.length) (by omega) (Nat.le_refl _)
  rw[hot]
  rw[q2e,if_pos hf]at hK
  rcases Nat.eq_zero_or_pos k with rfl|h0
  ·rw[Nat.sub_zero,Nat.mod_self]at hK
   subst hK
   refine⟨0,?_⟩
   rw[if_pos rfl]
   rw[Nat.zero_add]at ho
   omega
  rw[Nat.mod_eq_of_lt (by omega)]at hK
  rw[if_neg (by omega),show l.length-k+1=K+1 by omega]
  refine⟨1,?_⟩
  omega
theorem qxg {l:List Edge}(hfe:q0K (q1r l) l.length=0){i j:Nat}(hi:i<l.length)(hj:j<l.length)(hne:i≠j):((eg l i).name.toList==(eg l j).name.toList)=false:=by
 have key:∀i j,j<i→i<l.length→((eg l j).name.toList==(eg l i).name.toList)=false:=by
  intro i j hji hi
  have h:=q1e hfe hi
  unfold q1r at h
  split at h
  ·cases h
  split at h
  ·cases h
  rename_i h2
  cases e:((eg l j).name.toList==(eg l i).name.toList)with
  |false=>rfl
  |true=>exact absurd (qhl hji e) h2
 rcases Nat.lt_or_gt_of_ne hne with h|h
 ·exact key j i h hj
 have:=key i j h hi
 rw[Bool.beq_comm];exact this
theorem qFY (t:Turn){n i j:Nat}(hi:i<n)(hj:j<n)(h:q2e t n i=q2e t n j):i=j:=by
 unfold q2e at h
 split at h
 ·rcases Nat.eq_zero_or_pos i with rfl|hi0
  ·rcases Nat.eq_zero_or_pos j with rfl|hj0
   ·rfl
   rw[Nat.sub_zero,Nat.mod_self,Nat.mod_eq_of_lt (by omega)]at h;omega
  rcases Nat.eq_zero_or_pos j with rfl|hj0
  ·rw[Nat.sub_zero,Nat.mod_self,Nat.mod_eq_of_lt (by omega)]at h;omega
  rw[Nat.mod_eq_of_lt (by omega),Nat.mod_eq_of_lt (by omega)]at h;omega
 exact h
theorem qxh {p:List Spot}(h:q1C p=0)(t:Turn):q1C (q5b t p)=0:=by
 obtain⟨h2,h40,hw⟩:=q2x h
 have hl:=q6Q t p
 have hne:=fun j (hj:j+1<p.length)=>qD1 h hj
 have hiso:=q8i t
 have hap:∀i,i<p.length→q1a t (pt p i)=q1j t (pt p i):=fun i hi=>qex (Sm.of (qcn h hi) (by decide)) t
 rw[q1C,if_neg (by omega),if_neg (by omega),if_neg,if_pos]
 ·intro i hi
  rw[hl]at hi
  rw[q5s t (by omega),q5s t (by omega)]
  split
  ·rw[hap _ (by omega),hap _ (by omega)]
   intro e
   have:=hiso.inj _ _ e
   have h3:=hne (p.length-1-(i+1)) (by omega)
   rw[show p.length-1-(i+1)+1=p.length-1-i by omega]at h3
   exact h3 this.symm
  rw[hap _ (by omega),hap _ (by omega)]
  intro e
  exact hne i (by omega) (hiso.inj _ _ e)
 simp only[List.any_eq_true,not_exists,not_and]
 intro s hs
 obtain⟨i,hi,rfl⟩:=List.getElem_of_mem hs
 rw[←q0H hi,q5s t (by omega),hap _ (by split<;>omega),hiso.within,qcn h (by split<;>omega)]
 decide
theorem qbX {f:Nat→Int}:∀{n:Nat},(∀i,i<n→f i=0)→q0K f n=0
 |0,_=>rfl
 |n+1,h=>q2D (qbX fun i hi=>h i (by omega)) (h n (by omega))
theorem qDz {l:List Edge}(h2:2≤l.length)(h16:l.length≤16)(he:∀i,i<l.length→q1r l i=0)(hj:∀i,i<l.length→q2T l i=0)(hc:q1M (q0n l)=0):q0O l=0:=by
 rw[q0O,if_neg (by omega),if_neg (by omega),if_pos (qbX he),if_pos (qbX hj),hc]
theorem qmJ {l:List Edge}(hc:q0O l=0)(t:Turn):q0O (q0P t l)=0:=by
 obtain⟨h2,h16,hfe,hje,hchk⟩:=q18 hc
 have hlt:=q4O t l
 have hL:∀i,i<l.length→q1C (eg l i).line=0:=fun i hi=>q34 (q1e hfe hi)
 refine qDz (by omega) (by omega) (fun i hi=>?_) (fun i hi=>?_) ((qfy hc t).check hchk)
 ·rw[hlt]at hi
  have hx:=q5Q t hi
  have hn:q1X (eg l (q2e t l.length i)).name≠false:=by
   have h:=q1e hfe hx
   unfold q1r at h
   split at h
   ·cases h
   rename_i h1;exact h1
  have hnm:qeJ (q0P t l) i=false:=by
   refine qkj fun j hj=>?_
   rw[q3q t hi,q3q t (by omega)]
   refine qxg hfe (q5Q t (by omega)) hx fun e=>?_
   have:=qFY t (by omega) hi e
   omega
  rw[q1r,q3q t hi]
  have e:(q25 t (eg l (q2e t l.length i))).name=(eg l (q2e t l.length i)).name:=rfl
  rw[e,if_neg hn,hnm,if_neg (by decide)]
  exact qxh (hL _ hx) t
 rw[hlt]at hi
 have hx:=q5Q t hi
 have hm:(i+1)%l.length<l.length:=Nat.mod_lt _ (by omega)
 have hy:=q5Q t hm
 have l1:=(q2x (hL _ hx)).1
 have l2:=(q2x (hL _ hy)).1
 rw[q2T,hlt,q3q t hi,q3q t hm]
 have ea:(q25 t (eg l (q2e t l.length i))).line=q5b t (eg l (q2e t l.length i)).line:=rfl
 have eb:(q25 t (eg l (q2e t l.length ((i+1)%l.length)))).line=q5b t (eg l (q2e t l.length ((i+1)%l.length))).line:=rfl
 rw[ea,eb,q6Q,q5s t (by omega),q5s t (by omega),if_pos]
 congr 1
 have hjn:∀k,k<l.length→pt (eg l k).line ((eg l k).line.length-1)=pt (eg l ((k+1)%l.length)).line 0:=by
  intro k hk
  have h:=q1e hje hk
  unfold q2T at h
  split at h
  ·rename_i h1;exact h1
  cases h
 cases hf:t.flip with
 |false=>
  simp only[Bool.false_eq_true,if_false]
  have ex:∀k,q2e t l.length k=k:=fun k=>by rw[q2e,if_neg (by rw[hf];decide)]
  rw[ex,ex]
  exact hjn i hi
 |true=>
  simp only[if_true,Nat.sub_zero]
  have h:=hjn _ hy
  have e:(q2e t l.length ((i+1)%l.length)+1)%l.length=q2e t l.length i:=by
   simp only[q2e,hf,if_true]
   by_cases h1:i+1=l.length
   ·rw[h1,Nat.mod_self,Nat.sub_zero,Nat.mod_self,show l.length-i=1 by omega]
   rw[Nat.mod_eq_of_lt (show i+1<l.length by omega),Nat.mod_eq_of_lt (show l.length-(i+1)<l.length by omega),show l.length-(i+1)+1=l.length-i by omega]
  rw[e]at h
  rw[h,show(eg l (q2e t l.length i)).line.length-1-((eg l (q2e t l.length i)).line.length-1)=0 by omega]
theorem qbY {T:Spot→Spot}{u:Int}(h:Iso T u)(a b:Spot):sqd (T a) (T b)=sqd a b:=by
 have e1:=q6O (T a) (T b)
 have e2:=q6O a b
 have:=h.dist a b
 omega
theorem qpl (a b:Spot):sqd a b=sqd b a:=by
 have e1:=q6O a b
 have e2:=q6O b a
 have:(b.x-a.x) *(b.x-a.x)+(b.y-a.y) *(b.y-a.y)=(a.x-b.x) *(a.x-b.x)+(a.y-b.y) *(a.y-b.y):=by grind
 omega
theorem qDA {l:List Edge}(hc:q0O l=0)(t:Turn):q12 (q0n (q0P t l))=q12 (q0n l):=by
 have h1:=(q18 hc).2.2.2.2
 have h2:=(q18 (qmJ hc t)).2.2.2.2
 have h3:=(q17 h1).1
 rw[q12,q12,if_pos h1,if_pos h2,(qfy hc t).area (by omega),sgT]
 cases t.flip<;>simp
end Go.F

namespace Go.F
def qjk (u:List Spot)(z:Int):Int:=q0v (cyc u (z-1)) (cyc u z) (cyc u (z+1))
theorem qIx {p:List Spot}{i:Nat}(h:i<p.length):qCL p i=qjk p i:=by
 unfold qCL qjk
 have e1:cyc p ((i:Int)-1)=pt p ((i+p.length-1)%p.length):=by
  rw[←q4R]
  refine q8j ⟨-1,?_⟩
  omega
 have e2:cyc p ((i:Int)+1)=pt p ((i+1)%p.length):=q4R (i:=i+1)
 rw[e1,e2,q95 h]
def qbA (u:List Spot)(a:Int):Nat→List Spot
 |0=>[]
 |k+1=>if qjk u (a+k)≠0 then qbA u a k++[cyc u (a+k)]else qbA u a k
theorem qqu (u:List Spot)(a:Int)(j:Nat):∀k,qbA u a (j+k)=qbA u a j++qbA u (a+j) k
 |0=>by simp[qbA]
 |k+1=>by
  have e:a+((j+k:Nat):Int)=a+j+k:=by omega
  rw[←Nat.add_assoc,qbA,qbA,qqu u a j k,e]
  split<;>simp
theorem qvI (u:List Spot)(z:Int):qjk u (z+u.length)=qjk u z:=by
 unfold qjk
 rw[q4C,show z+(u.length:Int)-1=(z-1)+u.length by omega,q4C,show z+(u.length:Int)+1=(z+1)+u.length by omega,q4C]
theorem qmU (u:List Spot)(a:Int):∀k,qbA u (a+u.length) k=qbA u a k
 |0=>rfl
 |k+1=>by
  have e:a+(u.length:Int)+k=(a+k)+u.length:=by omega
  rw[qbA,qbA,qmU u a k,e,qvI,q4C]
theorem qf1 (p:List Spot):∀k,k≤p.length→q1S p k=qbA p 0 k
 |0,_=>rfl
 |k+1,h=>by
  have e:(0:Int)+(k:Int)=k:=by omega
  rw[q1S,qbA,qf1 p k (by omega),qIx (by omega),e,q95 (by omega)]
theorem qyw {u v:List Spot}{c:Nat}(h:Img (fun s=>s) 1 false c u v)(h0:0<u.length)(hc:c≤u.length):∃A B,q1S u u.length=A++B∧q1S v v.length=B++A:=by
 have hcy:∀i:Int,cyc v i=cyc u ((c:Int)+i):=fun i=>by
  have:=h.cyc h0 i
  simpa using this
 have hb:∀i:Int,qjk v i=qjk u ((c:Int)+i):=by
  intro i
  unfold qjk
  rw[hcy,hcy,hcy,show(c:Int)+(i-1)=c+i-1 by omega,show(c:Int)+(i+1)=c+i+1 by omega]
 have hseg:∀k,qbA v 0 k=qbA u c k:=by
  intro k
  induction k with
  |zero=>rfl
  |succ k ih=>
   have e:(0:Int)+(k:Int)=k:=by omega
   rw[qbA,qbA,ih,e,hb,hcy]
 refine⟨qbA u 0 c,qbA u c (u.length-c),?_,?_⟩
 ·rw[qf1 u _ (Nat.le_refl _)]
  have:=qqu u 0 c (u.length-c)
  rw[show c+(u.length-c)=u.length by omega,show(0:Int)+(c:Int)=c by omega]at this
  exact this
 rw[qf1 v _ (Nat.le_refl _),hseg,h.1]
 have:=qqu u c (u.length-c) c
 rw[show u.length-c+c=u.length by omega,show(c:Int)+((u.length-c:Nat):Int)=0+u.length by omega,qmU]at this
 exact this
theorem qH7 (a:Spot):lexB a a=false:=by simp[lexB]
theorem qEn {a b:Spot}(h1:lexB a b=false)(h2:lexB b a=false):a=b:=by
 obtain⟨ax,ay⟩:=a
 obtain⟨bx,by'⟩:=b
 simp only[lexB,Bool.or_eq_false_iff,Bool.and_eq_false_iff,decide_eq_false_iff_not,Spot.mk.injEq]at*
 omega
theorem qB9 {a b c:Spot}(h1:lexB a b=true)(h2:lexB c b=false):lexB c a=false:=by
 simp only[lexB,Bool.or_eq_true,Bool.and_eq_true,decide_eq_true_eq,Bool.or_eq_false_iff,Bool.and_eq_false_iff,decide_eq_false_iff_not]at*
 omega
theorem qqv (c:List Spot):∀k,∀j,j<k→lexB (pt c j) (pt c (q0R c k))=false
 |0,j,h=>absurd h (by omega)
 |k+1,j,h=>by
  have ih:=qqv c k
  rw[q0R]
  split
  ·rename_i hl
   by_cases e:j=k
   ·subst e;exact qH7 _
   exact qB9 hl (ih j (by omega))
  rename_i hl
  by_cases e:j=k
  ·subst e;simpa using hl
  exact ih j (by omega)
theorem qjl {α:Type}{m:α}:∀{P Q P' Q':List α},m∉P→m∉P'→P++m::Q=P'++m::Q'→P=P'∧Q=Q'
 |[],Q,[],Q',_,_,h=>⟨rfl,by simpa using h⟩
 |[],Q,x::P',Q',_,h2,h=>by
  simp only[List.nil_append,List.cons_append,List.cons.injEq]at h
  exact absurd (by rw[←h.1];exact List.mem_cons_self) h2
 |x::P,Q,[],Q',h1,_,h=>by
  simp only[List.nil_append,List.cons_append,List.cons.injEq]at h
  exact absurd (by rw[h.1];exact List.mem_cons_self) h1
 |x::P,Q,y::P',Q',h1,h2,h=>by
  simp only[List.cons_append,List.cons.injEq]at h
  have:=qjl (fun hm=>h1 (List.mem_cons_of_mem _ hm)) (fun hm=>h2 (List.mem_cons_of_mem _ hm)) h.2
  exact⟨by rw[h.1,this.1],this.2⟩
theorem qqw {c:List Spot}(h:c≠[])(hn:c.Nodup):∃m P Q,c=P++m::Q∧m∉P∧m∉Q∧qsi c=m::Q++P∧∀x∈c,lexB x m=false:=by
 have hl:0<c.length:=List.length_pos_iff.2 h
 have hf:=qkG c c.length hl
 have hd:c.drop (q0R c c.length)=c[q0R c c.length]::c.drop (q0R c c.length+1):=List.drop_eq_getElem_cons hf
 have hc:c=c.take (q0R c c.length)++c[q0R c c.length]::c.drop (q0R c c.length+1):=by
  rw[←hd,List.take_append_drop]
 refine⟨c[q0R c c.length],c.take (q0R c c.length),c.drop (q0R c c.length+1),hc,?_,?_,?_,?_⟩
 ·intro hm
  rw[hc,List.nodup_append]at hn
  exact hn.2.2 _ hm _ List.mem_cons_self rfl
 ·intro hm
  rw[hc,List.nodup_append]at hn
  have:=hn.2.1
  rw[List.nodup_cons]at this
  exact this.1 hm
 ·rw[qsi,hd]
 intro x hx
 obtain⟨j,hj,rfl⟩:=List.getElem_of_mem hx
 have:=qqv c c.length j hj
 rw[q0H hj,q0H hf]at this
 exact this
theorem qyx {A B:List Spot}(hn:(A++B).Nodup):qsi (A++B)=qsi (B++A):=by
 by_cases h:A++B=[]
 ·obtain⟨rfl,rfl⟩:=List.append_eq_nil_iff.1 h;rfl
 have hn':(B++A).Nodup:=by
  rw[List.nodup_append]at hn⊢
  exact⟨hn.2.1,hn.1,fun a ha b hb e=>hn.2.2 b hb a ha e.symm⟩
 have h':B++A≠[]:=by
  intro e
  obtain⟨rfl,rfl⟩:=List.append_eq_nil_iff.1 e
  exact h rfl
 obtain⟨m,P,Q,e1,e2,e3,e4,e5⟩:=qqw h hn
 obtain⟨m',P',Q',f1,f2,f3,f4,f5⟩:=qqw h' hn'
 have hm:m∈A++B:=by rw[e1];simp
 have hm':m'∈B++A:=by rw[f1];simp
 have hsw:∀x:Spot,x∈A++B↔x∈B++A:=by intro x;simp[or_comm]
 have he:m=m':=qEn (f5 m ((hsw m).1 hm)) (e5 m' ((hsw m').2 hm'))
 subst he
 rw[e4,f4]
 have key:∀{A B P Q P' Q':List Spot},m∈A→A++B=P++m::Q→m∉P→m∉Q→B++A=P'++m::Q'→m∉P'→m::Q++P=m::Q'++P':=by
  intro A B P Q P' Q' hA e1 e2 e3 f1 f2
  obtain⟨A1,A2,rfl⟩:=List.append_of_mem hA
  have nA1:m∉A1:=by
   intro hx
   obtain⟨X,Y,rfl⟩:=List.append_of_mem hx
   have e:X++m::(Y++m::A2++B)=P++m::Q:=by rw[←e1];simp
   by_cases hX:m∈X
   ·obtain⟨X1,X2,rfl⟩:=List.append_of_mem hX
    have:m∈P∨m∈Q:=by
     have h1:((X1++m::X2)++m::(Y++m::A2++B)).count m=(P++m::Q).count m:=by rw[e]
     simp only[List.count_append,List.count_cons_self]at h1
     have h2:P.count m=0:=List.count_eq_zero.2 e2
     have h3:Q.count m=0:=List.count_eq_zero.2 e3
     omega
    rcases this with h|h
    ·exact e2 h
    exact e3 h
   obtain⟨_,rfl⟩:=qjl hX e2 e
   exact e3 (by simp)
  have e:A1++m::(A2++B)=P++m::Q:=by rw[←e1];simp
  obtain⟨rfl,rfl⟩:=qjl nA1 e2 e
  have nB:m∉B:=fun h=>e3 (by simp[h])
  have f:(B++A1)++m::A2=P'++m::Q':=by rw[←f1];simp
  obtain⟨rfl,rfl⟩:=qjl (fun h=>by rcases List.mem_append.1 h with h|h;exact nB h;exact nA1 h) f2 f
  simp
 rcases List.mem_append.1 hm with hA|hB
 ·exact key hA e1 e2 e3 f1 f2
 exact(key hB f1 f2 f3 e1 e2).symm
theorem qmV (p:List Spot):∀k,k≤p.length→List.Sublist (q1S p k) (p.take k)
 |0,_=>by simp[q1S]
 |k+1,h=>by
  have ih:=qmV p k (by omega)
  rw[List.take_succ_eq_append_getElem (by omega),q1S]
  split
  ·rw[q0H (by omega)]
   exact ih.append (List.Sublist.refl _)
  exact ih.trans (List.sublist_append_left _ _)
theorem qvJ {p:List Spot}(h:q3Y p):p.Nodup:=by
 rw[List.nodup_iff_pairwise_ne,List.pairwise_iff_getElem]
 intro i j hi hj hij e
 apply h.1 j hj
 rw[q0H hj,←e]
 rw[List.mem_take_iff_getElem]
 exact⟨i,by omega,rfl⟩
theorem qsj {p:List Spot}(h:q1M p=0):(q1S p p.length).Nodup:=by
 have h1:=qmV p p.length (Nat.le_refl _)
 rw[List.take_length]at h1
 exact h1.nodup (qvJ (q17 h).2.2.2.2)
theorem qqx {u v:List Spot}{c:Nat}(h:Img (fun s=>s) 1 false c u v)(hc:c≤u.length)(hu:q1M u=0):q6b v=q6b u:=by
 have hv:=h.check hu
 have h3:=(q17 hu).1
 have ha:=h.area (by omega)
 simp only[Bool.false_eq_true,if_false,Int.one_mul]at ha
 obtain⟨A,B,e1,e2⟩:=qyw h (by omega) hc
 have hn:=qsj hu
 rw[e1]at hn
 rw[q6b,q6b,if_pos hu,if_pos hv,qyv,qyv,ha,e1,e2]
 split
 ·rw[List.reverse_append,List.reverse_append]
  have hn2:(B.reverse++A.reverse).Nodup:=by
   rw[←List.reverse_append]
   exact List.pairwise_reverse.2 (hn.imp fun h=>h.symm)
  rw[qyx hn2]
 rw[qyx hn]
theorem qqy {p:List Spot}(hw:∀s∈p,q0x s 1048576=true)(t:Turn):Img (q1j t) (sgT t) t.flip (if t.flip then p.length-1 else 0) p (q3N t p):=by
 have hl:(q3N t p).length=p.length:=by simp[q3N]
 refine⟨hl,q8i t,fun i hi=>?_⟩
 rw[hl]at hi
 rw[q0H (by omega)]
 simp only[q3N,List.getElem_map,List.getElem_range]
 rw[qex (Sm.of (hw _ (by rw[q0H (by split<;>omega)];exact List.getElem_mem _)) (by decide))]
 congr 1
 split
 ·have e:((p.length-1:Nat):Int)-(i:Int)=((p.length-1-i:Nat):Int):=by omega
  rw[e,q95 (by omega)]
 have e:((0:Nat):Int)+(i:Int)=(i:Int):=by omega
 rw[e,q95 (by omega)]
end Go.F

namespace Go.F
def qaE (p:QP):QP:=⟨-p.y,p.x⟩
def qaF (p:QP):QP:=⟨-p.x,p.y⟩
theorem qp_rot (s:Spot):qp (q5R s)=qaE (qp s):=by simp[qp,q5R,qaE]
theorem qp_flp (s:Spot):qp (q5r s)=qaF (qp s):=by simp[qp,q5r,qaF]
theorem qo7 (q:Rat):q1s (-q)= -q1s q:=by
 have e:q=mkRat q.num q.den:=(Rat.mkRat_self q).symm
 have hd:q.den≠0:=q.den_nz
 have e2: -q=mkRat (-q.num) q.den:=by
  conv=>lhs;rw[e]
  rw[Rat.neg_mkRat]
 rw[e2,qkM _ hd]
 conv=>rhs;rw[e,qkM _ hd]
 unfold rnd
 rw[Int.natAbs_neg]
 have hz:q.num=0→(2*q.num.natAbs+q.den)/(2*q.den)=0:=by
  intro h0
  rw[h0]
  exact Nat.div_eq_of_lt (by simp;omega)
 generalize (2*q.num.natAbs+q.den)/(2*q.den)=m at*
 repeat' split
 all_goals first
  |omega
  |(have:=hz (by omega);omega)
theorem qo8 (z:Int):q9n (-z)=q9n z:=by
 rw[Bool.eq_iff_iff,q3v,q3v];omega
theorem qFF (p:QP):q2M (qaE p)=(q5R (q2M p).1,(q2M p).2):=by
 unfold q2M qaE
 simp only
 rw[qo7,qo8,Bool.and_comm]
 split<;>rfl
theorem qFG (p:QP):q2M (qaF p)=(q5r (q2M p).1,(q2M p).2):=by
 unfold q2M qaF
 simp only
 rw[qo7,qo8]
 split<;>rfl
theorem qCb (a b:QP):q14 (qaE a) (qaE b)=qaE (q14 a b):=by
 simp only[q14,qaE,QP.mk.injEq];exact⟨by grind,trivial⟩
theorem qCc (a b:QP):q14 (qaF a) (qaF b)=qaF (q14 a b):=by
 simp only[q14,qaF,QP.mk.injEq];exact⟨by grind,trivial⟩
theorem qDf (a b:QP):q1O (qaE a) (qaE b)=q1O a b:=by
 simp only[q1O,qaE];grind
theorem qDg (a b:QP):q1O (qaF a) (qaF b)= -q1O a b:=by
 simp only[q1O,qaF];grind
theorem on_rot (a b:QP)(t:Rat):onP (qaE a) (qaE b) t=qaE (onP a b t):=by
 simp only[onP,q7W,q2z,q14,qaE,QP.mk.injEq];constructor<;>grind
theorem on_flp (a b:QP)(t:Rat):onP (qaF a) (qaF b) t=qaF (onP a b t):=by
 simp only[onP,q7W,q2z,q14,qaF,QP.mk.injEq];constructor<;>grind
theorem qFH (a b c d:QP):q3S (qaE a) (qaE b) (qaE c) (qaE d)=(q3S a b c d).map qaE:=by
 unfold q3S
 simp only[qCb,qDf]
 split
 ·rfl
 simp only[Option.map_some,on_rot]
theorem qDh (a b c d:QP):q3S d c b a=q3S a b c d:=by
 unfold q3S
 have e:q1O (q14 c d) (q14 a b)= -q1O (q14 b a) (q14 d c):=by
  simp only[q1O,q14];grind
 rw[e]
 by_cases h:q1O (q14 b a) (q14 d c)=0
 ·rw[if_pos h,if_pos (by rw[h];rfl)]
 rw[if_neg h,if_neg (fun g=>h (by have:=congrArg (fun x=> -x) g;simpa using this))]
 congr 1
 generalize hD:q1O (q14 b a) (q14 d c)=Δ at*
 have ht:∃t,t=q1O (q14 c a) (q14 d c)/Δ∧t*Δ=q1O (q14 c a) (q14 d c):=⟨_,rfl,Rat.div_mul_cancel h⟩
 have hs:∃s,s=q1O (q14 b d) (q14 a b)/(-Δ)∧s*(-Δ)=q1O (q14 b d) (q14 a b):=⟨_,rfl,Rat.div_mul_cancel (fun g=>h (by have:=congrArg (fun x=> -x) g;simpa using this))⟩
 obtain⟨t,rfl',h1⟩:=ht
 obtain⟨s,rfl'',h2⟩:=hs
 rw[←rfl',←rfl'']
 have key:∀x y:Rat,(x-y) *Δ=0→x=y:=by
  intro x y g
  rcases Rat.mul_eq_zero.1 g with g|g
  ·grind
  exact absurd g h
 simp only[onP,q7W,q2z,q14,QP.mk.injEq]
 simp only[q1O,q14]at h1 h2 hD
 constructor
 ·apply key;grind
 apply key;grind
theorem qFI (a b c d:QP):q3S (qaF d) (qaF c) (qaF b) (qaF a)=(q3S a b c d).map qaF:=by
 rw[←qDh a b c d]
 unfold q3S
 simp only[qCc,qDg]
 by_cases h:q1O (q14 c d) (q14 a b)=0
 ·rw[if_pos h,if_pos (by rw[h];rfl)];rfl
 rw[if_neg h,if_neg (fun g=>h (by have:=congrArg (fun x=> -x) g;simpa using this))]
 simp only[Option.map_some,on_flp]
 congr 3
 rw[Rat.div_def,Rat.div_def]
 grind
def rotG (a:Seg):Seg:=⟨q5R a.fr,q5R a.to,a.w⟩
def flpG (a:Seg):Seg:=⟨q5r a.to,q5r a.fr,a.w⟩
theorem qCd (a b:Spot):q1Y (q5R a) (q5R b)=q5R (q1Y a b):=by
 simp only[q1Y,q5R,Spot.mk.injEq];exact⟨by omega,trivial⟩
theorem qCe (a b:Spot):q1Y (q5r a) (q5r b)=q5r (q1Y a b):=by
 simp only[q1Y,q5r,Spot.mk.injEq];exact⟨by omega,trivial⟩
theorem qzK (v:Spot)(a b:Seg):q1H (q5R v) (rotG a) (rotG b)=(q1H v a b).map q5R:=by
 unfold q1H rotG
 simp only[qp_rot,qFH]
 cases q3S (qp a.fr) (qp a.to) (qp b.fr) (qp b.to)with
 |none=>rfl
 |some m=>
  simp only[Option.map_some,qCb,qFF,iso_rot.within]
  split
  ·simp[qCd]
  rfl
theorem qzL (v:Spot)(a b:Seg):q1H (q5r v) (flpG b) (flpG a)=((q1H v a b).map q5r).reverse:=by
 unfold q1H flpG
 simp only[qp_flp,qFI]
 cases q3S (qp a.fr) (qp a.to) (qp b.fr) (qp b.to)with
 |none=>rfl
 |some m=>
  simp only[Option.map_some,qCc,qFG,iso_flp.within]
  rw[Int.max_comm]
  split
  ·simp[qCe]
  rfl
theorem qDi {a b:Spot}(w:Int)(h:0<isq (sqd a b)):q32 (q5R a) (q5R b) w=q5R (q32 a b w):=by
 have hn:(0:Int)<(isq (sqd a b):Int):=by omega
 unfold q32
 rw[qbY iso_rot]
 simp only[q5R,Spot.mk.injEq]
 rw[←qfd _ hn]
 constructor
 ·congr 1;grind
 congr 1;grind
theorem qDj {a b:Spot}(w:Int)(h:0<isq (sqd a b)):q32 (q5r b) (q5r a) w=q5r (q32 a b w):=by
 have hn:(0:Int)<(isq (sqd a b):Int):=by omega
 unfold q32
 rw[qbY iso_flp,qpl b a]
 simp only[q5r,Spot.mk.injEq]
 rw[←qfd _ hn]
 constructor
 ·congr 1;grind
 congr 1;grind
def qwI (t:Turn)(a:Seg):Seg:=if t.flip then⟨q1j t a.to,q1j t a.fr,a.w⟩else⟨q1j t a.fr,q1j t a.to,a.w⟩
theorem qdu (v:Spot)(a b:Seg):∀k,q1H (q3b k v) ⟨q3b k a.fr,q3b k a.to,a.w⟩ ⟨q3b k b.fr,q3b k b.to,b.w⟩=(q1H v a b).map (q3b k)
 |0=>by
  have:q3b 0=id:=by funext s;rfl
  rw[this];simp
 |k+1=>by
  have h:=qzK (q3b k v) ⟨q3b k a.fr,q3b k a.to,a.w⟩ ⟨q3b k b.fr,q3b k b.to,b.w⟩
  rw[qdu v a b k,List.map_map]at h
  exact h
theorem qwJ (t:Turn)(v:Spot)(a b:Seg):q1H (q1j t v) (qwI t (if t.flip then b else a)) (qwI t (if t.flip then a else b))=if t.flip then((q1H v a b).map (q1j t)).reverse else(q1H v a b).map (q1j t):=by
 unfold qwI q1j
 cases hf:t.flip with
 |false=>
  simp only[Bool.false_eq_true,if_false]
  exact qdu v a b _
 |true=>
  simp only[if_true]
  have h:=qdu (q5r v) (flpG b) (flpG a) (t.quarter%4).toNat
  rw[qzL,List.map_reverse,List.map_map]at h
  exact h
theorem qh3 {a b:Spot}(w:Int)(h:0<isq (sqd a b)):∀k,q32 (q3b k a) (q3b k b) w=q3b k (q32 a b w)
 |0=>rfl
 |k+1=>by
  have:=qDi (a:=q3b k a) (b:=q3b k b) w (by rw[qbY (qiN k)];exact h)
  rw[qh3 w h k]at this
  exact this
theorem qzM (t:Turn){a b:Spot}(w:Int)(h:0<isq (sqd a b)):(if t.flip then q32 (q1j t b) (q1j t a) w else q32 (q1j t a) (q1j t b) w)=q1j t (q32 a b w):=by
 unfold q1j
 cases hf:t.flip with
 |false=>
  simp only[Bool.false_eq_true,if_false]
  exact qh3 w h _
 |true=>
  simp only[if_true]
  have h1:=qh3 (a:=q5r b) (b:=q5r a) w (by rw[qbY iso_flp,qpl];exact h) (t.quarter%4).toNat
  rw[qDj w h]at h1
  exact h1
theorem qo9 (a b:Spot):∀k,q1Y (q3b k a) (q3b k b)=q3b k (q1Y a b)
 |0=>rfl
 |k+1=>by
  show q1Y (q5R (q3b k a)) (q5R (q3b k b))=q5R (q3b k (q1Y a b))
  rw[qCd,qo9 a b k]
theorem qwK (t:Turn)(a b:Spot):q1Y (q1j t a) (q1j t b)=q1j t (q1Y a b):=by
 unfold q1j
 split
 ·rw[qo9,qCe]
 exact qo9 a b _
end Go.F

namespace Go.F
def dd (L:List Spot):List Spot:=(q2g L).take (q3A (q2g L) (q2g L).length)
theorem qDk (l:List Spot)(y:Spot):q2g (l++[y])=q1v (q2g l) y:=by
 unfold q2g;rw[List.foldl_append];rfl
theorem q4P {l:List Spot}(h:l≠[]):l.getLast?=some (q1F l):=by
 have:=List.length_pos_iff.2 h
 rw[List.getLast?_eq_getElem?,List.getElem?_eq_getElem (by omega),q1F,q0H (by omega)]
theorem quy:∀l:List Spot,q2g l=q0y l:=by
 intro l
 have key:∀n,n≤l.length→q2g (l.take n)=q0y (l.take n):=by
  intro n
  induction n with
  |zero=>intro _;rfl
  |succ n ih=>
   intro hn
   rw[List.take_succ_eq_append_getElem (by omega),qDk,ih (by omega)]
   rcases Nat.eq_zero_or_pos n with rfl|h0
   ·simp[q0y,q1v]
   have hst:=quC l h0 (show n<l.length by omega)
   rw[List.take_succ_eq_append_getElem (by omega)]at hst
   rw[hst]
   have hne:l.take n≠[]:=by
    intro e
    have:=congrArg List.length e
    rw[List.length_take,List.length_nil]at this;omega
   obtain⟨q1,_⟩:=qcq hne
   have hl:q1F (q0y (l.take n))=pt l (n-1):=by
    have h1:=q8f (l.take n)
    rw[q4P hne,q4P (by intro e;rw[e]at q1;exact q1 rfl)]at h1
    have h2:q1F (l.take n)=pt l (n-1):=by
     have hln:(l.take n).length=n:=by rw[List.length_take];omega
     rw[q1F,hln,q0H (by omega),q0H (by omega),List.getElem_take]
    rw[←h2]
    exact Option.some.inj h1
   unfold q1v
   rw[hl,q0H (show n<l.length by omega)]
   by_cases e:pt l (n-1)=l[n]
   ·rw[if_pos e,if_neg (by simp[e,q1]),List.append_nil]
   rw[if_neg e,if_pos (.inr e)]
 have:=key l.length (Nat.le_refl _)
 rwa[List.take_length]at this
theorem qh4:∀a:List Spot,(q0y a)[0]?=a[0]?
 |[]=>rfl
 |[_]=>rfl
 |a::b::l=>by
  rw[q0y]
  split
  ·rename_i e;subst e
   rw[qh4 (a::l)];rfl
  rfl
def Apart (l:List Spot):Prop:=∀i,i+1<l.length→pt l i≠pt l (i+1)
theorem qal:∀l:List Spot,Apart (q0y l)
 |[]=>fun i h=>by simp[q0y]at h
 |[a]=>fun i h=>by simp[q0y]at h
 |a::b::l=>by
  have ih:=qal (b::l)
  rw[q0y]
  split
  ·exact ih
  rename_i hne
  intro i hi
  cases i with
  |zero=>
   have hh:=qh4 (b::l)
   have:pt (q0y (b::l)) 0=b:=by
    unfold pt;rw[List.getD_eq_getElem?_getD,hh];rfl
   show a≠pt (q0y (b::l)) 0
   rw[this];exact hne
  |succ i=>exact ih i (by simpa using hi)
theorem qzN {R:List Spot}(h:Apart R):R.take (q3A R R.length)=if 2≤R.length∧q1F R=pt R 0 then R.dropLast else R:=by
 have stop:∀j,j+1≤R.length→(j=0∨pt R j≠pt R 0)→q3A R (j+1)=j+1:=by
  intro j _ hj
  rw[q3A,if_neg]
  rintro⟨h1,h2⟩
  rcases hj with hj|hj
  ·omega
  exact hj h2
 by_cases hc:2≤R.length∧q1F R=pt R 0
 ·rw[if_pos hc]
  obtain⟨m,hm⟩:∃m,R.length=m+2:=⟨R.length-2,by omega⟩
  have hl:pt R (m+1)=pt R 0:=by have:=hc.2;rw[q1F,hm]at this;exact this
  rw[hm,q3A,if_pos ⟨by omega,hl⟩,stop m (by omega),List.dropLast_eq_take,hm]
  ·rfl
  rcases Nat.eq_zero_or_pos m with h0|h0
  ·exact .inl h0
  right
  have:=h m (by omega)
  rw[hl]at this;exact this
 rw[if_neg hc]
 rcases Nat.eq_zero_or_pos R.length with h0|h0
 ·rw[List.eq_nil_of_length_eq_zero h0];rfl
 obtain⟨m,hm⟩:∃m,R.length=m+1:=⟨R.length-1,by omega⟩
 rw[hm,stop m (by omega),←hm,List.take_length]
 rcases Nat.eq_zero_or_pos m with h1|h1
 ·exact .inl h1
 right;intro e
 exact hc ⟨by omega,by rw[q1F,hm];exact e⟩
theorem qsK (L:List Spot):dd L=if 2≤(q0y L).length∧q1F (q0y L)=pt (q0y L) 0 then(q0y L).dropLast else q0y L:=by
 rw[dd,quy,qzN (qal L)]
def Rot (x y:List Spot):Prop:=∃a b,x=a++b∧y=b++a
theorem Rot.refl (x:List Spot):Rot x x:=⟨x,[],by simp,by simp⟩
theorem Rot.symm {x y:List Spot}:Rot x y→Rot y x:=fun⟨a,b,h1,h2⟩=>⟨b,a,h2,h1⟩
theorem Rot.trans {x y z:List Spot}(h1:Rot x y)(h2:Rot y z):Rot x z:=by
 obtain⟨a,b,rfl,rfl⟩:=h1
 obtain⟨c,d,e,rfl⟩:=h2
 rcases List.append_eq_append_iff.1 e with⟨u,rfl,rfl⟩ |⟨u,rfl,rfl⟩
 ·exact⟨u,d++b,by simp,by simp⟩
 exact⟨a++c,u,by simp,by simp⟩
theorem quz (x:Spot){B:List Spot}(h:B≠[]):q0y (x::B)=if x=pt B 0 then q0y B else x::q0y B:=by
 cases B with
 |nil=>exact absurd rfl h
 |cons b l=>rw[q0y];rfl
theorem qla (x:Spot){B:List Spot}(h:B≠[]):q0y (B++[x])=q0y B++if q1F B=x then []else [x]:=by
 have e:B=B.dropLast++[q1F B]:=by
  have h1:=List.dropLast_concat_getLast h
  have h2:B.getLast h=q1F B:=by
   have:=q4P h
   rw[List.getLast?_eq_getLast h]at this
   exact Option.some.inj this
  rw[h2]at h1;exact h1.symm
 have:=qhJ B.dropLast (q1F B) x
 rw[←e]at this
 rw[←this]
 conv=>lhs;rw[e]
 simp
theorem qrG {B:List Spot}(h:B≠[]):pt (q0y B) 0=pt B 0:=by
 unfold pt;rw[List.getD_eq_getElem?_getD,List.getD_eq_getElem?_getD,qh4]
theorem qrH {B:List Spot}(h:B≠[]):q1F (q0y B)=q1F B:=by
 have h1:=q8f B
 have h2:=(qcq h).1
 rw[q4P h,q4P (by intro e;rw[e]at h2;exact h2 rfl)]at h1
 exact Option.some.inj h1
theorem qbP (l:List Spot)(x:Spot):q1F (l++[x])=x:=by
 unfold q1F;rw[q0H (by simp)];simp
theorem qh5 (x:Spot){l:List Spot}(h:l≠[]):q1F (x::l)=q1F l:=by
 have h1:=q4P (l:=x::l) (by simp)
 rw[List.getLast?_cons,Option.some.injEq]at h1
 rw[←h1,q4P h];rfl
theorem qFJ {a b:List Spot}(h:a≠[]):pt (a++b) 0=pt a 0:=by
 cases a with
 |nil=>exact absurd rfl h
 |cons x a=>rfl
theorem qId (x:Spot)(B:List Spot):Rot (dd (x::B)) (dd (B++[x])):=by
 by_cases h:B=[]
 ·subst h;exact Rot.refl _
 obtain⟨q1,_⟩:=qcq h
 have hD:q0y B≠[]:=by intro e;rw[e]at q1;exact q1 rfl
 have f1:=qrG h
 have f2:=qrH h
 rw[qsK,qsK,quz x h,qla x h]
 have hap:=qal B
 generalize q0y B=D at*
 rw[←f1,←f2]
 by_cases e1:x=pt D 0
 ·rw[if_pos e1]
  by_cases e2:q1F D=x
  ·rw[if_pos e2,List.append_nil];exact Rot.refl _
  rw[if_neg e2,if_neg (by rintro⟨_,g⟩;exact e2 (by rw[g,e1])),if_pos ⟨by simp;omega,by rw[qbP,qFJ hD];exact e1⟩]
  rw[List.dropLast_concat]
  exact Rot.refl _
 rw[if_neg e1]
 by_cases e2:q1F D=x
 ·rw[if_pos e2,List.append_nil,if_pos ⟨by simp;omega,by rw[qh5 x hD];exact e2⟩,if_neg (by rintro⟨_,g⟩;exact e1 (by rw[←e2,g]))]
  refine⟨[x],D.dropLast,by rw[List.dropLast_cons_of_ne_nil hD];rfl,?_⟩
  have h1:=List.dropLast_concat_getLast hD
  have h2:D.getLast hD=q1F D:=by
   have:=q4P hD
   rw[List.getLast?_eq_getLast hD]at this
   exact Option.some.inj this
  rw[h2,e2]at h1
  exact h1.symm
 rw[if_neg e2,if_neg (by rintro⟨_,g⟩;rw[qh5 x hD]at g;exact e2 g),if_neg (by rintro⟨_,g⟩;rw[qbP,qFJ hD]at g;exact e1 g)]
 exact⟨[x],D,rfl,rfl⟩
theorem qFK:∀(A B:List Spot),Rot (dd (A++B)) (dd (B++A))
 |[],B=>by rw[List.nil_append,List.append_nil];exact Rot.refl _
 |x::A,B=>by
  have h1:=qId x (A++B)
  have h2:=qFK A (B++[x])
  rw[List.append_assoc]at h1
  rw[List.append_assoc,List.singleton_append]at h2
  exact h1.trans h2
theorem qlb:∀l:List Spot,q0y l.reverse=(q0y l).reverse
 |[]=>rfl
 |[_]=>rfl
 |a::b::l=>by
  have ih:=qlb (b::l)
  have hne:(b::l).reverse≠[]:=by simp
  rw[List.reverse_cons,qla a hne,ih,q0y]
  have hl:q1F (b::l).reverse=b:=by rw[List.reverse_cons,qbP]
  rw[hl]
  by_cases e:b=a
  ·rw[if_pos e,if_pos e.symm,List.append_nil]
  rw[if_neg e,if_neg (fun g=>e g.symm),List.reverse_cons]
theorem qsL {l:List Spot}(h:l≠[]):q1F l.reverse=pt l 0:=by
 cases l with
 |nil=>exact absurd rfl h
 |cons x l=>rw[List.reverse_cons,qbP];rfl
theorem pt_rev {l:List Spot}(h:l≠[]):pt l.reverse 0=q1F l:=by
 have:=qsL (l:=l.reverse) (by simpa using h)
 rw[List.reverse_reverse]at this;exact this.symm
theorem dd_rev (L:List Spot):Rot (dd L.reverse) (dd L).reverse:=by
 by_cases h:L=[]
 ·subst h;exact Rot.refl _
 obtain⟨q1,_⟩:=qcq h
 have hD:q0y L≠[]:=by intro e;rw[e]at q1;exact q1 rfl
 rw[qsK,qsK,qlb]
 generalize q0y L=D at*
 rw[List.length_reverse,qsL hD,pt_rev hD]
 by_cases e:2≤D.length∧q1F D=pt D 0
 ·rw[if_pos e,if_pos ⟨e.1,e.2.symm⟩]
  obtain⟨h2,e2⟩:=e
  match D,h2,hD with
  |x::D',h2,_=>
   have hD':D'≠[]:=by intro e;subst e;simp at h2
   have h1:=List.dropLast_concat_getLast hD'
   have h3:D'.getLast hD'=x:=by
    have:=q4P hD'
    rw[List.getLast?_eq_getLast hD']at this
    rw[Option.some.inj this,←qh5 x hD',e2];rfl
   rw[h3]at h1
   rw[←h1]
   generalize D'.dropLast=M
   have e4:(x::(M++[x])).reverse=x::(M.reverse++[x]):=by simp
   have e5:(x::(M++[x])).dropLast=x::M:=by rw[←List.cons_append,List.dropLast_concat]
   have e6:(x::(M.reverse++[x])).dropLast=x::M.reverse:=by rw[←List.cons_append,List.dropLast_concat]
   rw[e4,e5,e6]
   exact⟨[x],M.reverse,rfl,by simp⟩
 rw[if_neg e,if_neg (by rintro⟨a,b⟩;exact e ⟨a,b.symm⟩)]
 exact Rot.refl _
theorem qlc {T:Spot→Spot}(hT:∀a b,T a=T b→a=b):∀l:List Spot,q0y (l.map T)=(q0y l).map T
 |[]=>rfl
 |[_]=>rfl
 |a::b::l=>by
  have ih:=qlc hT (b::l)
  simp only[List.map_cons]at ih⊢
  rw[q0y,q0y,ih]
  by_cases e:a=b
  ·rw[if_pos e,if_pos (by rw[e])]
  rw[if_neg e,if_neg (fun g=>e (hT _ _ g)),List.map_cons]
theorem qFL {T:Spot→Spot}(hT:∀a b,T a=T b→a=b)(L:List Spot):dd (L.map T)=(dd L).map T:=by
 rw[qsK,qsK,qlc hT]
 by_cases hD:q0y L=[]
 ·rw[hD];rfl
 have h1:pt ((q0y L).map T) 0=T (pt (q0y L) 0):=by
  generalize q0y L=D at*
  cases D with
  |nil=>exact absurd rfl hD
  |cons x D=>rfl
 have h2:q1F ((q0y L).map T)=T (q1F (q0y L)):=by
  have:=List.length_pos_iff.2 hD
  rw[q1F,q1F,q0H (by simp;omega),q0H (by omega)]
  simp
 rw[h1,h2,List.length_map]
 by_cases e:2≤(q0y L).length∧q1F (q0y L)=pt (q0y L) 0
 ·rw[if_pos e,if_pos ⟨e.1,by rw[e.2]⟩,List.map_dropLast]
 rw[if_neg e,if_neg (by rintro⟨a,b⟩;exact e ⟨a,hT _ _ b⟩)]
theorem qCf {x y:List Spot}(h:Rot x y):∃c,c≤x.length∧Img (fun s=>s) 1 false c x y:=by
 obtain⟨a,b,rfl,rfl⟩:=h
 refine⟨a.length,by simp,by simp;omega,qA7,fun i hi=>?_⟩
 simp only[Bool.false_eq_true,if_false]
 have e:((a.length:Int)+(i:Int))=((a.length+i:Nat):Int):=by omega
 rw[e,q4R,List.length_append]
 simp only[List.length_append]at hi
 by_cases hb:i<b.length
 ·rw[Nat.mod_eq_of_lt (by omega),q0H (by simp;omega),q0H (by simp;omega)]
  rw[List.getElem_append_left hb,List.getElem_append_right (by omega)]
  congr 1;omega
 have e2:(a.length+i)%(a.length+b.length)=i-b.length:=by
  rw[show a.length+i=(i-b.length)+(a.length+b.length)by omega,Nat.add_mod_right,Nat.mod_eq_of_lt (by omega)]
 rw[e2,q0H (by simp;omega),q0H (by simp;omega)]
 rw[List.getElem_append_right (by omega),List.getElem_append_left (by omega)]
end Go.F

namespace Go.F
def qk2 (e:List Int)(n:Nat)(i:Int):Int:=wd e (i%n).toNat
def shI (v:List Spot)(e:List Int)(sg i:Int):Spot:=q32 (cyc v i) (cyc v (i+1)) (sg*qk2 e v.length i)
def qrI (v:List Spot)(e:List Int)(sg i:Int):Seg:=⟨q1Y (cyc v i) (shI v e sg i),q1Y (cyc v (i+1)) (shI v e sg i),qk2 e v.length i⟩
def qdl (v:List Spot)(e:List Int)(sg i:Int):List Spot:=q1H (cyc v i) (qrI v e sg (i-1)) (qrI v e sg i)
theorem qsM (e:List Int)(n:Nat)(i:Int):qk2 e n (i+n)=qk2 e n i:=by
 unfold qk2;rw[Int.add_emod_right]
theorem qnS (e:List Int){n i:Nat}(h:i<n):qk2 e n i=wd e i:=by
 unfold qk2
 rw[Int.emod_eq_of_lt (by omega) (by omega)];rfl
theorem qk3 (v:List Spot)(e:List Int)(sg i:Int):qrI v e sg (i+v.length)=qrI v e sg i:=by
 unfold qrI shI
 rw[qsM,q4C,show i+(v.length:Int)+1=(i+1)+v.length by omega,q4C]
theorem qsN (v:List Spot)(e:List Int)(sg i:Int):qdl v e sg (i+v.length)=qdl v e sg i:=by
 unfold qdl
 rw[qk3,q4C,show i+(v.length:Int)-1=(i-1)+v.length by omega,qk3]
theorem qCg {v:List Spot}(e:List Int)(sg:Int){i:Nat}(h:i<v.length):q3z v (q2c v e sg) e i=qrI v e sg i:=by
 have e1:pt (q2c v e sg) i=shI v e sg i:=by
  unfold q2c
  rw[qoh h]
  unfold q3G shI
  have:cyc v ((i:Int)+1)=pt v ((i+1)%v.length):=q4R (i:=i+1)
  rw[this,q95 h,qnS e h]
 unfold q3z qrI
 have:cyc v ((i:Int)+1)=pt v ((i+1)%v.length):=q4R (i:=i+1)
 rw[e1,this,q95 h,qnS e h]
theorem qzO {v:List Spot}(e:List Int)(sg:Int){i:Nat}(h:i<v.length):q3i v (q2c v e sg) e i=qdl v e sg i:=by
 unfold q3i qdl
 rw[qCg e sg h,qCg e sg (Nat.mod_lt _ (by omega)),q95 h]
 congr 1
 by_cases h0:i=0
 ·subst h0
  rw[Nat.zero_add,Nat.mod_eq_of_lt (by omega)]
  have:=qk3 v e sg (-1)
  rw[show(-1:Int)+(v.length:Int)=((v.length-1:Nat):Int)by omega]at this
  rw[this];rfl
 have e1:(i+v.length-1)%v.length=i-1:=by
  rw[show i+v.length-1=(i-1)+v.length by omega,Nat.add_mod_right,Nat.mod_eq_of_lt (by omega)]
 rw[e1]
 congr 1
 omega
def q5j (f:Int→List Spot):Nat→List Spot
 |0=>[]
 |k+1=>q5j f k++f k
theorem q8t {f g:Int→List Spot}:∀n:Nat,(∀i:Nat,i<n→f i=g i)→q5j f n=q5j g n
 |0,_=>rfl
 |n+1,h=>by rw[q5j,q5j,q8t n (fun i hi=>h i (by omega)),h n (by omega)]
theorem qdv {v:List Spot}(e:List Int)(sg:Int):∀k,k≤v.length→q10 v (q2c v e sg) e k=q5j (qdl v e sg) k
 |0,_=>rfl
 |k+1,h=>by rw[q10,q5j,qdv e sg k (by omega),qzO e sg (by omega)]
theorem qoa (T:Spot→Spot)(f:Int→List Spot):∀n,q5j (fun i=>(f i).map T) n=(q5j f n).map T
 |0=>rfl
 |n+1=>by rw[q5j,q5j,qoa T f n,List.map_append]
theorem qh6 (f:Int→List Spot):∀n:Nat,q5j f (n+1)=f 0++q5j (fun i=>f (1+i)) n
 |0=>by simp[q5j]
 |n+1=>by
  rw[q5j,qh6 f n,q5j,List.append_assoc]
  congr 3
  omega
theorem qwL (g:Int→List Spot):∀n:Nat,q5j (fun i=>(g (n-1-i)).reverse) n=(q5j g n).reverse
 |0=>rfl
 |n+1=>by
  rw[qh6]
  have e:q5j (fun i=>(g (((n+1:Nat):Int)-1-(1+i))).reverse) n=q5j (fun i=>(g ((n:Int)-1-i)).reverse) n:=q8t n fun i _=>by congr 2;omega
  rw[e,qwL g n,q5j,List.reverse_append]
  congr 3
  omega
theorem qob {f:Int→List Spot}{n:Nat}(hf:∀i,f (i+n)=f i):∀m:Nat,Rot (q5j f n) (q5j (fun i=>f (m+i)) n)
 |0=>by
  have:(fun i=>f (((0:Nat):Int)+i))=f:=by funext i;congr 1;omega
  rw[this];exact Rot.refl _
 |m+1=>by
  refine(qob hf m).trans ?_
  cases n with
  |zero=>exact Rot.refl _
  |succ n=>
   refine⟨f (m+0),q5j (fun i=>f (m+(1+i))) n,qh6 _ n,?_⟩
   rw[q5j]
   congr 1
   ·exact q8t n fun i _=>by congr 1;omega
   rw[←hf (m+0)];congr 1;omega
structure WImg (t:Turn)(c:Nat)(v v':List Spot)(e e':List Int):Prop where
 img:Img (q1j t) (sgT t) t.flip c v v'
 w:∀i:Int,qk2 e' v'.length i=qk2 e v.length (if t.flip then(c:Int)-i-1 else(c:Int)+i)
 ne:∀i:Int,0<isq (sqd (cyc v i) (cyc v (i+1)))
 pos:0<v.length
theorem WImg.sh {t:Turn}{c:Nat}{v v':List Spot}{e e':List Int}(h:WImg t c v v' e e')(sg i:Int):shI v' e' sg i=q1j t (shI v e sg (if t.flip then(c:Int)-i-1 else(c:Int)+i)):=by
 unfold shI
 rw[h.w,h.img.cyc h.pos,h.img.cyc h.pos]
 have hs:=qzM t (sg*qk2 e v.length (if t.flip then(c:Int)-i-1 else(c:Int)+i)) (h.ne (if t.flip then(c:Int)-i-1 else(c:Int)+i))
 cases hf:t.flip with
 |false=>
  rw[hf]at hs
  simp only[Bool.false_eq_true,if_false]at hs⊢
  rw[←hs,Int.add_assoc]
 |true=>
  rw[hf]at hs
  simp only[if_true]at hs⊢
  rw[←hs]
  congr 2
  ·congr 1;omega
  congr 1;omega
theorem WImg.seg {t:Turn}{c:Nat}{v v':List Spot}{e e':List Int}(h:WImg t c v v' e e')(sg i:Int):qrI v' e' sg i=qwI t (qrI v e sg (if t.flip then(c:Int)-i-1 else(c:Int)+i)):=by
 unfold qrI
 rw[h.sh,h.w,h.img.cyc h.pos,h.img.cyc h.pos,qwK,qwK]
 unfold qwI
 cases hf:t.flip with
 |false=>
  simp only[Bool.false_eq_true,if_false]
  rw[Int.add_assoc]
 |true=>
  simp only[if_true]
  rw[show(c:Int)-i-1+1=c-i by omega,show(c:Int)-(i+1)=c-i-1 by omega]
theorem WImg.cor {t:Turn}{c:Nat}{v v':List Spot}{e e':List Int}(h:WImg t c v v' e e')(sg i:Int):qdl v' e' sg i=if t.flip then((qdl v e sg ((c:Int)-i)).map (q1j t)).reverse else(qdl v e sg ((c:Int)+i)).map (q1j t):=by
 unfold qdl
 rw[h.seg,h.seg,h.img.cyc h.pos]
 have hc:=fun x a b=>qwJ t x a b
 cases hf:t.flip with
 |false=>
  simp only[hf,Bool.false_eq_true,if_false]at hc⊢
  rw[hc,show(c:Int)+(i-1)=c+i-1 by omega]
 |true=>
  simp only[hf,if_true]at hc⊢
  rw[show(c:Int)-(i-1)-1=c-i by omega,hc]
theorem WImg.pts {t:Turn}{c:Nat}{v v':List Spot}{e e':List Int}(h:WImg t c v v' e e')(sg:Int)(hc:t.flip=false→c=0):
 Rot (q33 v' (q2c v' e' sg) e') (if t.flip then((q33 v (q2c v e sg) e).map (q1j t)).reverse else(q33 v (q2c v e sg) e).map (q1j t))∧
 (t.flip=false→q33 v' (q2c v' e' sg) e'=(q33 v (q2c v e sg) e).map (q1j t)):=by
 have hinj:=(q8i t).inj
 have e1:q33 v' (q2c v' e' sg) e'=dd (q5j (qdl v' e' sg) v.length):=by
  unfold q33 dd
  rw[qdv e' sg _ (Nat.le_refl _),h.img.1]
 have e2:q33 v (q2c v e sg) e=dd (q5j (qdl v e sg) v.length):=by
  unfold q33 dd
  rw[qdv e sg _ (Nat.le_refl _)]
 rw[e1,e2]
 cases hf:t.flip with
 |false=>
  have hc0:=hc hf
  have e3:q5j (qdl v' e' sg) v.length=(q5j (qdl v e sg) v.length).map (q1j t):=by
   rw[←qoa]
   refine q8t _ fun i _=>?_
   rw[h.cor,hf,hc0]
   simp
  simp only[Bool.false_eq_true,if_false]
  rw[e3,qFL hinj]
  exact⟨Rot.refl _,fun _=>rfl⟩
 |true=>
  refine⟨?_,fun g=>absurd g (by decide)⟩
  simp only[if_true]
  have e3:q5j (qdl v' e' sg) v.length=((q5j (fun j=>qdl v e sg (((c+1:Nat):Int)+j)) v.length).map (q1j t)).reverse:=by
   rw[←qoa,←qwL]
   refine q8t _ fun i _=>?_
   rw[h.cor,hf]
   simp only[if_true]
   congr 2
   rw[←qsN v e sg ((c:Int)-i)]
   congr 1
   omega
  rw[e3]
  have r1:=dd_rev ((q5j (fun j=>qdl v e sg (((c+1:Nat):Int)+j)) v.length).map (q1j t))
  rw[qFL hinj]at r1
  refine r1.trans ?_
  obtain⟨A,B,hA,hB⟩:=qob (f:=qdl v e sg) (n:=v.length) (fun i=>qsN v e sg i) (c+1)
  rw[hB,hA]
  obtain⟨X,Y,hX,hY⟩:=qFK B A
  rw[hX,hY]
  exact⟨(Y.map (q1j t)).reverse,(X.map (q1j t)).reverse,by simp,by simp⟩
def wsT (t:Turn)(ws:List Int):List Int:=(List.range ws.length).map fun j=>wd ws (q2e t ws.length j)
theorem q7d (t:Turn)(ws:List Int):(wsT t ws).length=ws.length:=by simp[wsT]
theorem qzP (t:Turn){ws:List Int}{j:Nat}(h:j<ws.length):wd (wsT t ws) j=wd ws (q2e t ws.length j):=by
 simp[wsT,wd,h]
theorem wd_mem {ws:List Int}{j:Nat}(h:j<ws.length):wd ws j∈ws:=by
 simp[wd,h]
theorem qIe {t:Turn}{ws:List Int}{x:Int}(h:x∈wsT t ws):x∈ws:=by
 simp only[wsT,List.mem_map,List.mem_range]at h
 obtain⟨j,hj,rfl⟩:=h
 exact wd_mem (q5Q t hj)
theorem qDl {v:List Spot}(hv:q1M v=0)(i:Int):0<isq (sqd (cyc v i) (cyc v (i+1))):=by
 obtain⟨h3,h40,hok,hw,hs⟩:=q17 hv
 have hne:=((qCk h3 ((q74 h3).1 hs)).side i).1
 have hin:∀z,q0x (cyc v z) 1048576=true:=by
  intro z
  unfold cyc
  have h1:=Int.emod_nonneg z (show(v.length:Int)≠0 by omega)
  have h2:=Int.emod_lt_of_pos z (show 0<(v.length:Int)by omega)
  rw[q0H (by omega)]
  exact hw _ (List.getElem_mem _)
 have:=qBJ (hin i) (hin (i+1))
 exact qfw (by omega) (qbQ hne)
theorem qDm {l:List Edge}{ws:List Int}(hc:q0O l=0)(hw:ws.length=l.length)(t:Turn):
 WImg t (beg t l) (q0n l) (q0n (q0P t l)) (q27 l ws l.length) (q27 (q0P t l) (wsT t ws) l.length):=by
 obtain⟨h2,h16,hfe,hje,hchk⟩:=q18 hc
 have hn3:=(q17 hchk).1
 have hlt:=q4O t l
 have himg:=qfy hc t
 refine⟨himg,?_,qDl hchk,by omega⟩
 have base:∀i:Nat,i<(q0n l).length→wd (q27 (q0P t l) (wsT t ws) l.length) i=qk2 (q27 l ws l.length) (q0n l).length (if t.flip then(beg t l:Int)-i-1 else(beg t l:Int)+i):=by
  intro i hi
  obtain⟨k,j,hk,hj,rfl⟩:=qpk (l:=q0P t l) l.length (by omega) i (by rw[←hlt,qa3,himg.1];exact hi)
  have hj0:=hj
  rw[show off (q0P t l) k+j=(q0n ((q0P t l).take k)).length+j from rfl,qo2 (q0P t l) (wsT t ws) l.length (by omega) k hk j hj,qzP t (by omega),hw]
  have hge:=q3q t hk
  rw[hge]at hj
  have hx:=q5Q t hk
  have el:(q25 t (eg l (q2e t l.length k))).line=q5b t (eg l (q2e t l.length k)).line:=rfl
  rw[el,q6Q]at hj
  have hot:=qbW t (l:=l) (by omega) k (by omega)
  have hall:=qa3 l
  have e0:(q0n ((q0P t l).take k)).length=off (q0P t l) k:=rfl
  rw[e0]
  cases hf:t.flip with
  |false=>
   have ex:q2e t l.length k=k:=by rw[q2e,if_neg (by rw[hf];decide)]
   rw[ex]at hj⊢
   simp only[Bool.false_eq_true,if_false,beg,hf]
   rw[hf]at hot
   simp only[Bool.false_eq_true,if_false]at hot
   rw[hot]at hi⊢
   rw[show((0:Nat):Int)+((off l k+j:Nat):Int)=((off l k+j:Nat):Int)by omega,qnS _ hi]
   exact(qo2 l ws l.length (Nat.le_refl _) k hk j hj).symm
  |true=>
   simp only[if_true,beg,hf]
   rw[hf]at hot
   simp only[if_true]at hot
   generalize hK:q2e t l.length k=K at*
   have ho:=q6o hx
   have hmono:=qbe (l:=l) (j:=K+1) (k:=l.length) (by omega) (Nat.le_refl _)
   have hsg:=qo2 l ws l.length (Nat.le_refl _) K hx ((eg l K).line.length-2-j) (by omega)
   have e1:(q0n (l.take K)).length=off l K:=rfl
   rw[e1]at hsg
   rw[←hsg,←qnS _ (n:=(q0n l).length) (by omega)]
   rw[q2e,if_pos hf]at hK
   rw[hot]
   rcases Nat.eq_zero_or_pos k with rfl|h0
   ·rw[Nat.sub_zero,Nat.mod_self]at hK
    subst hK
    rw[if_pos rfl]
    rw[Nat.zero_add]at ho
    congr 1
    omega
   rw[Nat.mod_eq_of_lt (by omega)]at hK
   rw[if_neg (by omega),show l.length-k+1=K+1 by omega,←qsM _ _ ((off l 1:Int)-_-1)]
   congr 1
   omega
 intro i
 have h1:=Int.emod_nonneg i (show((q0n l).length:Int)≠0 by omega)
 have h2:=Int.emod_lt_of_pos i (show 0<((q0n l).length:Int)by omega)
 have hb:=base (i%(q0n l).length).toNat (by omega)
 have hd:=Int.emod_add_mul_ediv i (q0n l).length
 unfold qk2
 rw[himg.1,hb]
 unfold qk2
 congr 2
 have e3:(((i%(q0n l).length).toNat:Nat):Int)=i%(q0n l).length:=by omega
 rw[e3]
 split
 ·rw[Int.emod_eq_emod_iff_emod_sub_eq_zero]
  refine Int.emod_eq_zero_of_dvd ⟨i/(q0n l).length,?_⟩
  omega
 rw[Int.emod_eq_emod_iff_emod_sub_eq_zero]
 refine Int.emod_eq_zero_of_dvd ⟨-(i/(q0n l).length),?_⟩
 rw[Int.mul_neg];omega
theorem qDn {q:List Spot}(hw:∀s∈q,q0x s 1048576=true)(t:Turn):q3N t q=if t.flip then(q.map (q1j t)).reverse else q.map (q1j t):=by
 have hE:∀j,j<q.length→q1a t (pt q j)=q1j t (pt q j):=fun j hj=>qex (Sm.of (hw _ (by rw[q0H hj];exact List.getElem_mem _)) (by decide)) t
 cases hf:t.flip with
 |false=>
  simp only[Bool.false_eq_true,if_false]
  apply List.ext_getElem
  ·simp[q3N]
  intro i h1 h2
  have hi:i<q.length:=by simpa[q3N]using h1
  simp only[q3N,List.getElem_map,List.getElem_range,hf,Bool.false_eq_true,if_false]
  rw[hE _ hi,q0H hi]
 |true=>
  simp only[if_true]
  apply List.ext_getElem
  ·simp[q3N]
  intro i h1 h2
  have hi:i<q.length:=by simpa[q3N]using h1
  simp only[q3N,List.getElem_map,List.getElem_range,List.getElem_reverse,List.length_map,hf,if_true]
  rw[hE _ (by omega),q0H (by omega)]
theorem quA {l:List Edge}{ws:List Int}(h:(q1i l ws).2=0)(t:Turn):(q1i (q0P t l) (wsT t ws)).2=0:=by
 obtain⟨hc,hw,hg,_⟩:=q8v h
 rw[q1i,if_pos (qmJ hc t),if_pos (by rw[q7d,q4O,hw]),if_neg]
 simp only[List.any_eq_true,not_exists,not_and]
 intro x hx hb
 have:=hg x (qIe hx)
 simp[q2v]at hb
 omega
theorem qh7 {l:List Edge}{ws:List Int}{q:List Spot}(h:q1Q l ws=(q,0))(t:Turn):
 ∃b,q1Q (q0P t l) (wsT t ws)=(b,0)∧Rot (q3N t q) b∧(t.flip=false→b=q3N t q)∧q1M q=0:=by
 unfold q1Q at h
 by_cases hs:(q1i l ws).2=0
 ·rw[if_pos hs]at h
  obtain⟨hc,hw,hg,he⟩:=q8v hs
  have hs':=quA hs t
  obtain⟨hc',hw',hg',he'⟩:=q8v hs'
  have hlt:=q4O t l
  have har:=qDA hc t
  rw[he]at h
  rw[har,hlt]at he'
  have hW:=qDm hc hw t
  obtain⟨p1,p2⟩:=hW.pts (sgn (q12 (q0n l))) (fun hf=>by rw[beg,if_neg (by rw[hf];decide)])
  unfold q8u at h
  split at h
  ·cases h
  rename_i hany
  split at h
  ·rename_i hq
   split at h
   ·rename_i hsg
    have hq0:=congrArg Prod.fst h
    simp only at hq0
    rw[hq0]at p1 p2 hq hsg hany
    have hwq:∀s∈q,q0x s 1048576=true:=(q17 hq).2.2.2.1
    have hpm:=qDn hwq t
    rw[←hpm]at p1
    have hq3:=(q17 hq).1
    have i1:=qqy hwq t
    have hu:=i1.check hq
    obtain⟨c,hcl,i2⟩:=qCf p1.symm
    have hb:=i2.check hu
    have ha1:q4s (q3N t q)=q4s q:=by
     rw[i1.area (by omega),sgT]
     cases t.flip<;>simp
    have ha2:=i2.area (by have:=(q17 hu).1;omega)
    simp only[Bool.false_eq_true,if_false,Int.one_mul]at ha2
    refine⟨_,?_,p1.symm,fun hf=>?_,hq⟩
    ·unfold q1Q
     rw[if_pos hs',he',hlt]
     unfold q8u
     rw[if_neg,if_pos hb,if_pos]
     ·rw[har,q12,if_pos hb,ha2,ha1,←hsg,q12,if_pos hq]
     simp only[List.any_eq_true,not_exists,not_and]
     intro s hsb
     rw[(q17 hb).2.2.2.1 s hsb];decide
    rw[p2 hf,hpm,if_neg (by rw[hf];decide)]
   cases h
  rename_i hq
  have:=congrArg Prod.snd h
  exact absurd this hq
 rw[if_neg hs]at h
 have:=congrArg Prod.snd h
 exact absurd this hs
theorem qFM (t:Turn)(ws:List Int):wsT (q4i t) (wsT t ws)=ws:=by
 have hf:(q4i t).flip=t.flip:=by unfold q4i;split<;>simp_all
 apply List.ext_getElem
 ·simp[q7d]
 intro j h1 h2
 have e1:(wsT (q4i t) (wsT t ws))[j]=wd (wsT (q4i t) (wsT t ws)) j:=by simp[wd,h1]
 have e2:ws[j]=wd ws j:=by simp[wd,h2]
 have hx:=q5Q (q4i t) h2
 rw[e1,e2,qzP _ (by rw[q7d];exact h2),q7d,qzP _ hx]
 have hi:=qus t (q4i t) h2
 rw[qnf]at hi
 rw[hi]
 rfl
theorem qoc {l:List Edge}{ws:List Int}(hI:InE l)(t:Turn):(q1Q l ws).2=0↔(q1Q (q0P t l) (wsT t ws)).2=0:=by
 constructor
 ·intro h
  obtain⟨b,hb,_⟩:=qh7 (q:=(q1Q l ws).1) (by rw[←h]) t
  rw[hb]
 intro h
 obtain⟨b,hb,_⟩:=qh7 (q:=(q1Q (q0P t l) (wsT t ws)).1) (by rw[←h]) (q4i t)
 rw[qwG hI,qFM]at hb
 rw[hb]
theorem qzQ {l:List Edge}{ws:List Int}{q b:List Spot}{t:Turn}(h:q1Q l ws=(q,0))(h2:q1Q (q0P t l) (wsT t ws)=(b,0)):
 q6b (q3N t q)=q6b b∧(q6b b).2=0∧(t.flip=false→q3N t q=b):=by
 obtain⟨b',hb,hr,hf,hq⟩:=qh7 h t
 rw[h2]at hb
 obtain rfl:b=b':=congrArg Prod.fst hb
 have hwq:∀s∈q,q0x s 1048576=true:=(q17 hq).2.2.2.1
 have hu:=(qqy hwq t).check hq
 obtain⟨c,hcl,i2⟩:=qCf hr
 refine⟨(qqx i2 hcl hu).symm,?_,fun g=>(hf g).symm⟩
 rw[qqx i2 hcl hu,q6b,if_pos hu]
end Go.F

namespace Go.F
def q6N (t:Turn)(c:List Spot)(k:Nat):List Spot:=(List.range c.length).map fun i=>if i<k then q1a t (pt c i)else⟨0,0⟩
theorem qFn (t:Turn)(c:List Spot)(k:Nat):(q6N t c k).length=c.length:=by simp[q6N]
theorem qC4 (t:Turn)(c:List Spot):List.replicate c.length (D.agg [.int .i64 0,.int .i64 0])=(q6N t c 0).map Spot.enc:=by
 apply List.ext_getElem
 ·simp[q6N]
 intro i h1 h2;simp[q6N,Spot.enc]
theorem qC5 (t:Turn)(c:List Spot)(k:Nat):(q6N t c k).set k (q1a t (pt c k))=q6N t c (k+1):=by
 apply List.ext_getElem
 ·simp[q6N]
 intro i h1 h2
 rw[List.getElem_set]
 simp only[q6N,List.getElem_map,List.getElem_range]
 split
 ·rename_i e;subst e;rw[if_pos (by omega)]
 rename_i e
 by_cases hi:i<k
 ·rw[if_pos hi,if_pos (by omega)]
 rw[if_neg hi,if_neg (by omega)]
theorem qFo (t:Turn)(c:List Spot):q6N t c c.length=c.map (q1a t):=by
 apply List.ext_getElem
 ·simp[q6N]
 intro i h1 h2
 simp only[q6N,List.getElem_map,List.getElem_range]
 have:i<c.length:=by simpa[q6N]using h1
 rw[if_pos this,q0H this]
theorem qzD (t:Turn)(c:List Spot)(k:Nat)(ids:List (Option Nat)):((q6N t c k).map Spot.enc).all (okD 0 ids)=true:=by
 rw[List.all_map,List.all_eq_true]
 intro x _;rfl
theorem quu (t:Turn)(c:List Spot)(k:Nat)(ids:List (Option Nat)):((q6N t c k).map Spot.enc).map (qxu 0 ids)=(q6N t c k).map Spot.enc:=by
 rw[List.map_map]
 apply List.map_congr_left
 intro x _;rfl
end Go.F
