/- Parts of the proof, part 48: All4~, Stop4~, All5~, All6~, Nz3~, Ply2~, Map1~, St2~, St3~, St4~, St5~, SPl~, V1~, V4~, V5, V6, SBs, V7, Nst, SRow, V8, V13, Nst2, V9, V10, Lgt~, V11~, Pl1, V12, V14, RG1, RG2, Ply3, RG3. -/
import Derived.Test.YtakaifogljbgoaaGreatZ44
import Derived.Test.YtakaifogljbgoaaGreatZ46
set_option linter.all false
namespace Go.F
attribute [local irreducible] IntKind.wrap wpM
section
variable {T:Tab}{sh:Shr}{nx0:Nat}{s:List Fr}{t:q0x}{h:q0d}{z:Frz}{nx:Nat}{q:Ex→q0x→q0d→Frz→Nat→Prop}
variable {base i:Nat}{res:List Nat}{g:Gd}{rest:List KOper}
end
def q2N (a b:Spot)(w:Int):Spot:=⟨q1s (w*(b.y-a.y)) (isq (sqd a b)),q1s (-w*(b.x-a.x)) (isq (sqd a b))⟩
def q3n (p:List Spot)(each:List Int)(sign:Int)(i:Nat):Spot:=q2N (pt p i) (pt p ((i+1)%p.length)) (sign*wd each i)
def q1Z (p:List Spot)(each:List Int)(sign:Int):List Spot:=(List.range p.length).map (q3n p each sign)
def q1a (l:List Edge)(ws:List Int):List Spot×Int:=
 if q0J l=0 then
  if ws.length=l.length then
   if ws.any q2h then([],3)else(q1Z (q0n l) (q1U l ws l.length) (sgn (q16 (q0n l))),0)
  else([],1)
 else([],q0J l)
def qn2 (r:List Spot×Int):D:=.tup [q0k r.1,.int .i64 r.2]
theorem qyt (a b:Spot) [OkS a] [OkS b]:sqd a b<2^50:=by
 have e:=q6e a b
 have hb:Bd ((b.x-a.x) *(b.x-a.x)+(b.y-a.y) *(b.y-a.y)) _:=inferInstance
 have:=hb.le
 omega
theorem qEg {x:Int}(h:x≠0):0<x*x:=by
 rcases Int.lt_or_gt_of_ne h with h|h
 ·have:=Int.mul_pos (show 0< -x by omega) (show 0< -x by omega)
  rwa[Int.neg_mul_neg]at this
 exact Int.mul_pos h h
theorem qaU {a b:Spot}(h:a≠b):0<sqd a b:=by
 have e:=q6e a b
 have h1:=q6q (b.x-a.x)
 have h2:=q6q (b.y-a.y)
 by_cases hx:b.x-a.x=0
 ·have hy:b.y-a.y≠0:=fun hy=>h (by cases a;cases b;simp at hx hy⊢;omega)
  have:=qEg hy
  omega
 have:=qEg hx
 omega
theorem qey {n:Nat}(h:n<2^54)(h0:0<n):0<isq n:=by
 obtain⟨_,h2⟩:=qgC h
 by_cases hc:isq n=0
 ·rw[hc]at h2;omega
 omega
theorem qEh {n:Nat}(h:n<2^50):isq n<33554432:=by
 obtain⟨h1,_⟩:=qgC (n:=n) (by omega)
 exact qgD (by omega)
theorem qiW {p:List Spot}(hs:q3F p)(h2:2≤p.length){i:Nat}(hi:i<p.length):pt p i≠pt p ((i+1)%p.length):=by
 intro he
 by_cases hl:i+1<p.length
 ·rw[Nat.mod_eq_of_lt hl]at he
  refine hs.1 (i+1) hl ?_
  rw[←he,q0D hi]
  exact List.mem_iff_getElem.2 ⟨i,by simp;omega,by simp⟩
 have:i+1=p.length:=by omega
 rw[this,Nat.mod_self]at he
 refine hs.1 i hi ?_
 rw[he,q0D (by omega)]
 exact List.mem_iff_getElem.2 ⟨0,by simp;omega,by simp⟩
theorem qvj (l:List Edge)(ws:List Int):∀k,k≤ws.length→∀x∈q1U l ws k,x∈ws:=by
 intro k
 induction k with
 |zero=>intro _ x hx;simp[q1U]at hx
 |succ k ih=>
  intro hk x hx
  rw[q1U,List.mem_append]at hx
  rcases hx with hx|hx
  ·exact ih (by omega) x hx
  rw[(List.mem_replicate.1 hx).2]
  have:wd ws k=ws[k]:=by simp[wd,show k<ws.length by omega]
  rw[this];exact List.getElem_mem _
theorem qgE {w:Int}(h:q2h w=false):0≤w∧w≤500:=by simp[q2h]at h;omega
set_option maxHeartbeats 4000000 in
theorem qiX (l:List Edge)(ws:List Int):
 PU qgf [edges l,ints ws]=some (qn2 (q1a l ws)):=by
 have hpoly:=q5q l
 refine q0g (fn:=q7V) rfl (q0a ?_)
 refine gg rfl ?_
 by_cases hc:¬q0J l=0
 ·rw[q9f,if_neg hc]at hpoly
  refine q02 rfl rfl hpoly (gg rfl (q01 rfl (fun g=>?_) (fun g=>?_)))
  ·refine gg rfl (q08 rfl rfl rfl trivial ?_)
   rw[q1a,if_neg hc];rfl
  rw[q0z]at g;exact absurd g hc
 have hc:q0J l=0:=Classical.byContradiction hc
 rw[q9f,if_pos hc]at hpoly
 rw[q1a,if_pos hc]
 obtain⟨h2,h16,_,_,hchk⟩:=q0Z hc
 obtain⟨v3,v40,vok,vin,vs⟩:=q14 hchk
 have hl1:∀e∈l,1≤e.line.length∧e.line.length≤100000:=fun e he=>by have:=q2o hc e he;omega
 refine q02 rfl rfl hpoly (gg rfl (q01 rfl (fun g=>?_) (fun g=>?_)))
 ·rw[q0u]at g;exact absurd rfl g
 refine gg rfl ?_
 rw[List.length_map,List.length_map]
 refine q01 rfl (fun g=>?_) (fun g=>?_)
 ·rw[q0u]at g
  refine gg rfl (q08 rfl rfl rfl trivial ?_)
  rw[if_neg (by omega)];rfl
 rw[q0z]at g
 have hwl:ws.length=l.length:=by omega
 rw[if_pos hwl]
 refine gg rfl (q0l (S:=fun k:Nat=>([edges l,ints ws,q0k (q0n l),ints ws,q00 ws.length,q00 k],[none,none,none,none,none,none],[0,0,0,0,0,0])) (C:=fun k=>k≤ws.length∧∀i (hi:i<ws.length),i<k→q2h ws[i]=false) (m:=fun k=>ws.length-k) 0 ⟨Nat.zero_le _,fun i hi h=>by omega⟩ (by omega) ?_ ?_)
 ·exact q03 rfl trivial (by simp[edges,ints,q0k,q00])
 intro k ⟨hk,hall⟩ N hN
 refine gg rfl (q01 rfl (fun g1=>?_) (fun g1=>?_))
 ·rw[q06]at g1
  have hlt:k<ws.length:=by omega
  have w1:=wS (n:=k)
  have yes:q2h ws[k]=false→∀{t:q0x} {h:q0d} {z:Frz} {nx:Nat},(q10 0 [(0,0),(1,0),(6,0),(33,0),(34,0),(35,0)] t h z nx fun _ _ kp=>kp=([edges l,ints ws,q0k (q0n l),ints ws,q00 ws.length,q00 ((k+1:Nat):Int)],[none,none,none,none,none,none],[0,0,0,0,0,0]))→N t h z nx:=by
   intro hb t h z nx hst
   refine hN (k+1) ⟨by omega,fun i hi hik=>?_⟩ (by omega) hst
   by_cases hik':i<k
   ·exact hall i hi hik'
   obtain rfl:i=k:=by omega
   exact hb
  have no:q2h ws[k]=true→ws.any q2h=true:=fun hb=>List.any_eq_true.2 ⟨_,List.getElem_mem hlt,hb⟩
  clear hN
  refine gg rfl (q0i k rfl rfl rfl (q1B hlt) rfl (gg rfl (q09 rfl (fun e1=>?_) (fun e1=>?_))))
  ·rw[q06]at e1
   refine gg rfl (q0e rfl (gg rfl (q04 (gg rfl (q08 rfl rfl rfl trivial ?_)))))
   rw[if_pos (no (by simp[q2h,e1]))];rfl
  rw[q07]at e1
  refine gg rfl (q01 rfl (fun e2=>?_) (fun e2=>?_))
  ·rw[q06]at e2
   refine gg rfl (q04 (gg rfl (q08 rfl rfl rfl trivial ?_)))
   rw[if_pos (no (by simp[q2h,e2]))];rfl
  rw[q07]at e2
  exact gg rfl (q04 (yes (by simp[q2h];omega) (q03 rfl trivial (by simp[edges,ints,q0k,q00,w1]))))
 rw[q07]at g1
 clear hN
 have hgood:ws.any q2h=false:=by
  rw[List.any_eq_false]
  intro x hx
  obtain⟨i,hi,rfl⟩:=List.getElem_of_mem hx
  rw[hall i hi (by omega)];decide
 rw[if_neg (by rw[hgood];decide)]
 have hgood':∀x∈ws,0≤x∧x≤500:=fun x hx=>qgE (by
  cases hb:q2h x with
  |false=>rfl
  |true=>rw[List.any_eq_true.2 ⟨x,hx,hb⟩]at hgood;cases hgood)
 have hseg:=qcz l ws l.length (Nat.le_refl _)
 rw[List.take_length]at hseg
 refine gg rfl (q04 (gg rfl (q02 rfl rfl (q4c (q0n l)) (gg rfl (q02 rfl rfl (q9O l ws (by omega) hl1 (by omega) (by omega)) ?_)))))
 refine gg rfl ?_
 have heb:∀i,0≤wd (q1U l ws l.length) i∧wd (q1U l ws l.length) i≤500:=by
  intro i
  by_cases hi:i<(q1U l ws l.length).length
  ·have:wd (q1U l ws l.length) i=(q1U l ws l.length)[i]:=by simp[wd,hi]
   rw[this];exact hgood' _ (qvj l ws l.length (by omega) _ (List.getElem_mem _))
  have:wd (q1U l ws l.length) i=0:=by simp[wd,List.getElem?_eq_none (Nat.le_of_not_lt hi)]
  rw[this];decide
 generalize hv:q0n l=v at*
 generalize q1U l ws l.length=each at*
 have hsb: -1≤sgn (q16 v)∧sgn (q16 v)≤1:=by have:=(qyS (q16 v)).le;omega
 generalize sgn (q16 v)=sg at*
 rw[List.length_map]
 refine q3O v.length rfl rfl rfl (by simp[q0M];omega) ?_
 have ez:List.replicate v.length (D.agg [D.int IntKind.i64 0,D.int IntKind.i64 0])=(q5L ⟨0,0⟩ v.length (q3n v each sg) 0).map Spot.enc:=by
  rw[qiV];simp[Spot.enc]
 rw[ez]
 refine gg rfl (q0l (S:=fun k:Nat=>([q0k v,.int .i64 sg,ints each,.ref 3 0 v.length,q0k v,q00 v.length,q00 k],[none,none,none,some (.row ((q5L ⟨0,0⟩ v.length (q3n v each sg) k).map Spot.enc) 2),none,none,none],[0,0,0,0,0,0,0])) (C:=fun k=>k≤v.length) (m:=fun k=>v.length-k) 0 (Nat.zero_le _) (by omega) ?_ ?_)
 ·exact q03 rfl ⟨q05 q0r _,trivial⟩ (by simp[q0k,ints,q00])
 intro k hk N hN
 refine gg rfl (q01 rfl (fun g2=>?_) (fun g2=>?_))
 ·rw[q06]at g2
  have hlt:k<v.length:=by omega
  have w1:=wS (n:=k)
  have hne:=qiW vs (by omega) hlt
  have heb:=heb k
  have hsq:=qyt (pt v k) (pt v ((k+1)%v.length))
  have hsp:=qaU hne
  have hir:=qey (n:=sqd (pt v k) (pt v ((k+1)%v.length))) (by omega) hsp
  have hil:=qEh hsq
  have hse:=q6e (pt v k) (pt v ((k+1)%v.length))
  have hset:=qn1 ⟨0,0⟩ (q3n v each sg) hlt
  have hsh:q3n v each sg k=⟨q1s (sg*wd each k*((pt v ((k+1)%v.length)).y-(pt v k).y)) (isq (sqd (pt v k) (pt v ((k+1)%v.length)))),q1s (-(sg*wd each k) *((pt v ((k+1)%v.length)).x-(pt v k).x)) (isq (sqd (pt v k) (pt v ((k+1)%v.length))))⟩:=rfl
  have bx:Bd ((pt v ((k+1)%v.length)).x-(pt v k).x) 8388608:=inferInstance
  have by':Bd ((pt v ((k+1)%v.length)).y-(pt v k).y) 8388608:=inferInstance
  have c1:IntKind.i64.wrap ((pt v ((k+1)%v.length)).x-(pt v k).x)=(pt v ((k+1)%v.length)).x-(pt v k).x:=q0U (by decide)
  have c2:IntKind.i64.wrap ((pt v ((k+1)%v.length)).y-(pt v k).y)=(pt v ((k+1)%v.length)).y-(pt v k).y:=q0U (by decide)
  have bw:Bd (wd each k) 500:=⟨by omega⟩
  have bs:Bd sg 1:=⟨by omega⟩
  have c3:IntKind.i64.wrap (sg*wd each k)=sg*wd each k:=q0U (by decide)
  generalize hdx:(pt v ((k+1)%v.length)).x-(pt v k).x=dx at*
  generalize hdy:(pt v ((k+1)%v.length)).y-(pt v k).y=dy at*
  generalize hw':sg*wd each k=w at*
  have bw':Bd w 500:=by rw[←hw'];exact⟨Nat.le_trans (qvl (a:=bs) (b:=bw)).le (by decide)⟩
  have c4:IntKind.i64.wrap (dx*dx)=dx*dx:=q0U (by decide)
  have c5:IntKind.i64.wrap (dy*dy)=dy*dy:=q0U (by decide)
  have c6:IntKind.i64.wrap (dx*dx+dy*dy)=((sqd (pt v k) (pt v ((k+1)%v.length)):Nat):Int):=by rw[hse];exact q0U (by decide)
  have c7:IntKind.i64.wrap (w*dy)=w*dy:=q0U (by decide)
  have c8:IntKind.i64.wrap (0-w)= -w:=by rw[wrap64 (by have:=bw'.le;omega) (by have:=bw'.le;omega)];omega
  have c9:IntKind.i64.wrap (-w*dx)= -w*dx:=q0U (by decide)
  have b7:Bd (w*dy) _:=qvl
  have b9:Bd (-w*dx) _:=qvl
  have l7:=b7.le
  have l9:=b9.le
  refine gg rfl (q0i k rfl rfl rfl (q0P hlt) rfl (gg rfl (q37 rfl rfl (by rw[List.length_map];omega) ?_)))
  refine gg rfl (q0i ((k+1)%v.length) rfl rfl (by rw[w1,List.length_map,q1q]) (q0P (Nat.mod_lt _ (by omega))) rfl ?_)
  refine gg rfl (q0i k rfl rfl rfl (qmZ (by omega)) rfl ?_)
  refine gg rfl ?_
  rw[hdx,hdy,c1,c2,hw',c3,c4,c5,c6]
  refine q02 rfl rfl (qGE _ hsq) (gg rfl ?_)
  rw[c7]
  refine q02 rfl rfl (qmY (w*dy) _ (by omega) (by omega) (by omega) (by omega)) ?_
  refine gg rfl ?_
  rw[c8,c9]
  refine q02 rfl rfl (qmY (-w*dx) _ (by omega) (by omega) (by omega) (by omega)) ?_
  refine gg rfl (q0F k rfl rfl rfl rfl rfl hlt (gg rfl (q4R (enc:=Spot.enc) (q5L ⟨0,0⟩ v.length (q3n v each sg) k) k (q3n v each sg k) rfl (by rw[hsh];rfl) (Nat.zero_add _) rfl (fun _=>rfl) rfl (Nat.zero_le _) (by rw[qcA];exact hlt) ?_)))
  rw[hset]
  exact gg rfl (q04 (hN (k+1) hlt (by omega) (q03 rfl ⟨q05 q0r _,trivial⟩ (by simp[q0k,ints,q00,w1]))))
 rw[q07]at g2
 obtain rfl:k=v.length:=by omega
 refine gg rfl (q04 (gg rfl (q08 rfl rfl rfl ⟨q2D (by simp[qcA]) (q0X q2q _),trivial⟩ ?_)))
 rw[q2E (by simp[qcA]),qex];rfl
end Go.F

namespace Go.F
section
variable {T:Tab}{sh:Shr}{nx0:Nat}{s:List Fr}{t:q0x}{h:q0d}{z:Frz}{nx:Nat}{q:Ex→q0x→q0d→Frz→Nat→Prop}
abbrev Rep:=Option (List D×List Nat)
def Obl.ok:Obl→Prop
 |.p es=>es.all (plain 4)=true
 |.s h es l rs=>es.all (plain 4)=false∧es.mapM (q19 h 8)=some l∧es.flatMap (q0O h depth)=rs∧l.all (plain 4)=true
def qjN:List Obl→Prop
 |[]=>True
 |o::r=>o.ok∧qjN r
def qej (t:q0x):Live→List Rep→q0d→Frz→Option (List Obl×q0d×Frz)
 |[],_,h,z=>some ([],h,z)
 |x::rest,reps,h,z=>
  match q2i (t x.1)with
  |none=>
   match plain 4 (t x.1)with
   |true=>qej t rest reps h z
   |false=>none
  |some id=>
   match h id with
   |some (.row es esz)=>
    match reps with
    |[]=>none
    |none::reps=>
     match qej t rest reps h z with
     |some (o,h',z')=>some (.p es::o,h',z')
     |none=>none
    |some (l,rs)::reps=>
     match qej t rest reps (upd h id (some (.row l esz))) (q77 h z rs)with
     |some (o,h',z')=>some (.s h es l rs::o,h',z')
     |none=>none
   |some (.mp _ _)=>none
   |none=>qej t rest reps h z
theorem qGd {t:q0x}:∀{live:Live} {reps:List Rep} {h:q0d} {z:Frz} {o:List Obl} {h':q0d} {z':Frz} {k:q0d→Frz→Prop},qej t live reps h z=some (o,h',z')→qjN o→k h' z'→q34 live t h z k:=by
 intro live
 induction live with
 |nil=>intro reps h z o h' z' k hr _ hk;simp only[qej,Option.some.injEq,Prod.mk.injEq]at hr;obtain⟨_,rfl,rfl⟩:=hr;exact hk
 |cons x live ih=>
  intro reps h z o h' z' k hr ho hk
  simp only[qej]at hr
  simp only[q34]
  cases hid:q2i (t x.1)with
  |none=>
   rw[hid]at hr
   simp only at hr⊢
   cases hb:plain 4 (t x.1)with
   |true=>rw[hb]at hr;exact ih hr ho hk
   |false=>rw[hb]at hr;cases hr
  |some id=>
   rw[hid]at hr
   simp only at hr⊢
   cases hb:h id with
   |none=>rw[hb]at hr;exact ih hr ho hk
   |some b=>
    rw[hb]at hr
    cases b with
    |mp ks vs=>cases hr
    |row es esz=>
     simp only at hr⊢
     match reps,hr with
     |none::reps,hr=>
      simp only at hr
      cases hx:qej t live reps h z with
      |none=>rw[hx]at hr;cases hr
      |some y=>
       obtain⟨o1,h1,z1⟩:=y
       rw[hx]at hr
       simp only[Option.some.injEq,Prod.mk.injEq]at hr
       obtain⟨rfl,rfl,rfl⟩:=hr
       unfold qba
       exact .inl ⟨ho.1,ih hx ho.2 hk⟩
     |some (l,rs)::reps,hr=>
      simp only at hr
      cases hx:qej t live reps (upd h id (some (.row l esz))) (q77 h z rs)with
      |none=>rw[hx]at hr;cases hr
      |some y=>
       obtain⟨o1,h1,z1⟩:=y
       rw[hx]at hr
       simp only[Option.some.injEq,Prod.mk.injEq]at hr
       obtain⟨rfl,rfl,rfl⟩:=hr
       obtain⟨g1,g2,g3,g4⟩:=ho.1
       unfold qba
       exact .inr ⟨l,rs,g1,g2,g3,g4,ih hx ho.2 hk⟩
def setX (live:Live)(reps:List Rep)(t:q0x)(h:q0d)(z:Frz)(nx:Nat):Option (List Obl×Kept):=
 match qcn live t h z nx with
 |(t,h,z)=>
  match qej t live reps h z with
  |some (o,h',z')=>fL1 (q9I 0 (q0B t live) t live) fun vs=>fLi (q9J 0 (q0B t live) h' (q0B t live) 0) fun bs=>fNs (qi7 0 (q0B t live) z' (q0B t live) 0) fun zs=>some (o,vs,bs,zs)
  |none=>none
theorem qmP {live:Live}(reps:List Rep){o:List Obl}{kp:Kept}{K:Kept→Prop}(hs:setX live reps t h z nx=some (o,kp))(hp:qjN o)(hk:K kp)(hnst:q5p live=false:=by rfl):q10 0 live t h z nx fun _ _ kp=>K kp:=by
 unfold setX at hs
 split at hs
 rename_i t1 h1 z1 hn
 split at hs
 ·rename_i o1 h2 z2 hr
  simp only[q5u,qpT,qv5,Option.some.injEq,Prod.mk.injEq]at hs
  obtain⟨rfl,rfl⟩:=hs
  unfold q10
  simp only[hnst]
  unfold q6S
  refine qiI _ _ _ _ _ _ fun nx'=>?_
  rw[hn]
  refine qGd hr hp ?_
  rw[q6t,q6u]
  exact hk
 cases hs
end
theorem qsP {h:q0d}:∀(n m:Nat) (d:D),dat n d=true→q0O h m d=[]:=by
 intro n
 induction n with
 |zero=>intro m d hd;simp[dat]at hd
 |succ n ih=>
  intro m d hd
  cases m with
  |zero=>rfl
  |succ m=>
   have list:∀l:List D,l.all (dat n)=true→l.flatMap (q0O h m)=[]:=by
    intro l hl
    rw[List.flatMap_eq_nil_iff]
    intro x hx
    exact ih m x (List.all_eq_true.1 hl x hx)
   cases d with
   |agg l=>simp only[dat]at hd;simp only[q0O];exact list l hd
   |tup l=>simp only[dat]at hd;simp only[q0O];exact list l hd
   |_=>first|(simp[dat]at hd;done) |rfl
theorem q70 {h:q0d}{es:List D}{m:Nat}(hd:es.all (dat 4)=true):es.flatMap (q0O h m)=[]:=by
 rw[List.flatMap_eq_nil_iff]
 intro x hx
 exact qsP 4 m x (List.all_eq_true.1 hd x hx)
end Go.F

namespace Go.F
attribute [local irreducible] IntKind.wrap wpM
def q1L (a b:Spot):Spot:=⟨a.x+b.x,a.y+b.y⟩
theorem qcB (s:Spot) [h:MidS s]:PU qi2 [s.enc]=some (qjz (qp s)):=by
 have h1:=h.bx
 have h2:=h.byy
 refine q0g (fn:=q98) rfl (q0a ?_)
 refine gg rfl (q02 rfl rfl (qxq s.x s.y (by omega) (by omega) (by omega) (by omega)) ?_)
 exact gg rfl (q08 rfl rfl rfl trivial rfl)
theorem qyu (a b:Spot) [MidS a] [MidS b]:PU qmb [a.enc,b.enc]=some (q1L a b).enc:=by
 have w1:IntKind.i64.wrap (a.x+b.x)=a.x+b.x:=q0U (by decide)
 have w2:IntKind.i64.wrap (a.y+b.y)=a.y+b.y:=q0U (by decide)
 refine q0g (fn:=qbP) rfl (q0a ?_)
 refine gg rfl (q08 rfl rfl rfl trivial ?_)
 rw[w1,w2];rfl
theorem q4M (s:Spot)(m:Int)(h0:0≤m)(h1:m≤1099511627776):PU qgh [s.enc,.int .i64 m]=some (.bool (q0v s m)):=by
 have w:IntKind.i64.wrap (0-m)= -m:=by rw[wrap64 (by omega) (by omega)];omega
 refine q0g (fn:=q7X) rfl (q0a ?_)
 refine gg rfl ?_
 rw[w]
 repeat' (first
  |refine goP 800 rfl rfl ?_
  |refine q0h rfl ?_|refine q0o rfl ?_|refine q09 rfl (fun _=>?_) (fun _=>?_)
  |refine q0e rfl ?_|refine q0j rfl ?_|refine q01 rfl (fun _=>?_) (fun _=>?_)
  |refine q0L rfl (fun _=>?_) (fun _=>?_)
  |refine q08 rfl rfl rfl trivial ?_)
 all_goals simp only[w]at*
 all_goals ((try simp only[q1M,q26,q2c,q42,decide_eq_true_eq,decide_eq_false_iff_not,Bool.not_eq_true,Bool.not_eq_false,Int.not_lt,Int.not_le]at*);first|(simp_all[q0v];done) |(simp_all[q0v];omega) |(rw[D.bool.injEq,Bool.eq_iff_iff];simp[q0v];omega) |(rw[D.bool.injEq,Bool.eq_iff_iff];simp_all[q0v];omega) |(simp[q0v];split<;>(try split)<;>omega))
def q1A (v:Spot)(a b:Seg):List Spot:=
 match q3y (qp a.fr) (qp a.to) (qp b.fr) (qp b.to)with
 |none=>[a.to,b.fr]
 |some m=>
  if(q2w (q13 m (qp v))).2=0∧q0v (q2w (q13 m (qp v))).1 (4*max a.w b.w+4)=true then [q1L v (q2w (q13 m (qp v))).1]else [a.to,b.fr]
theorem qEi (p:QP):MidS (q2w p).1:=by
 unfold q2w
 split
 ·rename_i h
  rw[Bool.and_eq_true,q3e,q3e]at h
  exact⟨by simp only;omega,by simp only;omega⟩
 exact⟨by simp,by simp⟩
theorem q4S {l:List Spot}{n:Nat}(hn:n=l.length):0+n≤(l.map Spot.enc).length∧(((l.map Spot.enc).drop 0).take n).all (dat 4)=true:=by
 subst hn
 refine⟨by simp,?_⟩
 rw[List.drop_zero,List.take_of_length_le (by simp)]
 exact q0X q2q _
set_option maxHeartbeats 1000000 in
theorem qBO (v:Spot)(a b:Seg) [hv:MidS v] [ha:SegOk a] [hb:SegOk b]:PU qgg [v.enc,a.enc,b.enc]=some (q0k (q1A v a b)):=by
 have hm:=qr4 (RP.of (qp a.fr)) (RP.of (qp a.to)) (RP.of (qp b.fr)) (RP.of (qp b.to)) (by decide)
 rw[RP.of_v,RP.of_v,RP.of_v,RP.of_v]at hm
 have a0:=ha.w0
 have a1:=ha.w1
 have b0:=hb.w0
 have b1:=hb.w1
 refine q0g (fn:=q8c) rfl (q0a ?_)
 refine gg rfl (q02 rfl rfl (qcB a.fr) (gg rfl (q02 rfl rfl (qcB a.to) (gg rfl (q02 rfl rfl (qcB b.fr) (gg rfl (q02 rfl rfl (qcB b.to) (gg rfl ?_))))))))
 cases hq:q3y (qp a.fr) (qp a.to) (qp b.fr) (qp b.to)with
 |none=>
  rw[hq]at hm
  refine q02 rfl rfl hm (gg rfl (q01 rfl (fun g=>?_) (fun g=>?_)))
  ·rw[q1n]at g;cases g
  refine gg rfl (q08 rfl rfl rfl ⟨q4S (l:=[a.to,b.fr]) rfl,trivial⟩ ?_)
  rw[q1A,hq];rfl
 |some m=>
  rw[hq]at hm
  have hqm:QPB m 50:=by
   unfold q3y at hq
   split at hq
   ·cases hq
   cases hq;exact inferInstance
  have hsub:=q5Y (RP.of m) (RP.of (qp v)) (by decide) (by decide)
  rw[RP.of_v,RP.of_v]at hsub
  have hgr:=qHd (RP.of (q13 m (qp v))) (by decide)
  rw[RP.of_v]at hgr
  have hgm:=qEi (q13 m (qp v))
  have hc:q1A v a b=if(q2w (q13 m (qp v))).2=0∧q0v (q2w (q13 m (qp v))).1 (4*max a.w b.w+4)=true then [q1L v (q2w (q13 m (qp v))).1]else [a.to,b.fr]:=by
   rw[q1A,hq]
  rw[hc]
  generalize q2w (q13 m (qp v))=gd at*
  have w1:=ww (x:=4*max a.w b.w)
  have w2:=ww (x:=4*max a.w b.w+4)
  refine q02 rfl rfl hm (gg rfl (q01 rfl (fun _=>?_) (fun g=>absurd rfl (q20.1 g))))
  refine gg rfl (q02 rfl rfl (qcB v) (gg rfl (q02 rfl rfl hsub (gg rfl (q02 rfl rfl hgr (gg rfl (q09 rfl (fun g1=>?_) (fun g1=>?_))))))))
  ·rw[q1n]at g1
   refine gg rfl ?_
   rw[w1,w2]
   refine q02 rfl rfl (q4M gd.1 (4*max a.w b.w+4) (by omega) (by omega)) ?_
   refine gg rfl (q01 rfl (fun g2=>?_) (fun g2=>?_))
   ·refine gg rfl (q02 rfl rfl (qyu v gd.1) (gg rfl (q08 rfl rfl rfl ⟨q4S (l:=[q1L v gd.1]) rfl,trivial⟩ ?_)))
    rw[if_pos ⟨g1,g2⟩];rfl
   refine gg rfl (q08 rfl rfl rfl ⟨q4S (l:=[a.to,b.fr]) rfl,trivial⟩ ?_)
   rw[if_neg (fun h=>by rw[h.2]at g2;cases g2)];rfl
  rw[q20]at g1
  refine gg rfl (q0j rfl (gg rfl (q08 rfl rfl rfl ⟨q4S (l:=[a.to,b.fr]) rfl,trivial⟩ ?_)))
  rw[if_neg (fun h=>g1 h.1)];rfl
end Go.F

namespace Go.F
attribute [local irreducible] IntKind.wrap wpM
section
variable {T:Tab}{sh:Shr}{nx0:Nat}{s:List Fr}{t:q0x}{h:q0d}{z:Frz}{nx:Nat}{q:Ex→q0x→q0d→Frz→Nat→Prop}
variable {base i:Nat}{res:List Nat}{g:Gd}{rest:List KOper}
theorem q2U {α:Type}{enc:α→D}{hint ag:Bool}{n:Nat}{a:X}{dst:Nat}{id k' esz:Nat}(L:List α)(k:Nat)(d:α)(ha:a.ev t=.ptr id k' 0)(hkk:k'=k)(hp:∀w:α,qsC ag n (enc w) 0=some (enc w))(hr:g.h base h id=some (.row (L.map enc) esz))(hd:L[k]?=some d)
 (hk:wpM T sh nx0 (.ops base res rest::s) .normal (upd t dst (enc d)) h z nx q):
 wpM T sh nx0 (.ops base res (⟨i,some dst,none,g,.load hint ag n a⟩::rest)::s) .normal t h z nx q:=by
 subst hkk
 exact qeN ha hr (e:=enc d) (by rw[List.getElem?_map,hd];rfl) (hp d) hk
end
def q3h (v sh:List Spot)(each:List Int)(i:Nat):Seg:=⟨q1L (pt v i) (pt sh i),q1L (pt v ((i+1)%v.length)) (pt sh i),wd each i⟩
def q32 (v sh:List Spot)(each:List Int)(i:Nat):List Spot:=q1A (pt v i) (q3h v sh each ((i+v.length-1)%v.length)) (q3h v sh each i)
def q0V (v sh:List Spot)(each:List Int):Nat→List Spot
 |0=>[]
 |k+1=>q0V v sh each k++q32 v sh each k
def q1w (l:List Spot):Spot:=pt l (l.length-1)
def q1o (out:List Spot)(p:Spot):List Spot:=if out.length=0∨q1w out≠p then out++[p]else out
def q25 (l:List Spot):List Spot:=l.foldl q1o []
def q3i (R:List Spot):Nat→Nat
 |0=>0
 |j+1=>if 1≤j∧pt R j=pt R 0 then q3i R j else j+1
def q2O (v sh:List Spot)(each:List Int):List Spot:=(q25 (q0V v sh each v.length)).take (q3i (q25 (q0V v sh each v.length)) (q25 (q0V v sh each v.length)).length)
def q7I (v q:List Spot):List Spot×Int:=
 if q.any (fun s=>!q0v s 1048576)then([],3)
 else if q1F q=0 then if sgn (q16 q)=sgn (q16 v)then(q,0)else([],11)
 else([],q1F q)
def q21 (l:List Edge)(ws:List Int):List Spot×Int:=
 if(q1a l ws).2=0 then q7I (q0n l) (q2O (q0n l) (q1a l ws).1 (q1U l ws l.length))else([],(q1a l ws).2)
theorem q5x (s:Seg):plain 4 s.enc=true:=rfl
theorem q8M (v:Spot)(a b:Seg):(q1A v a b).length≤2:=by
 unfold q1A
 split
 ·simp
 split<;>simp
theorem qql (v sh:List Spot)(each:List Int)(k:Nat):(q0V v sh each k).length≤2*k:=by
 induction k with
 |zero=>simp[q0V]
 |succ k ih=>
  have:=q8M (pt v k) (q3h v sh each ((k+v.length-1)%v.length)) (q3h v sh each k)
  rw[q0V,List.length_append,q32];omega
theorem qBP (out:List Spot)(p:Spot):(q1o out p).length≤out.length+1:=by
 unfold q1o;split<;>simp
theorem qez (l:List Spot):∀out:List Spot,(l.foldl q1o out).length≤out.length+l.length:=by
 induction l with
 |nil=>intro out;simp
 |cons p l ih=>intro out;have:=ih (q1o out p);have:=qBP out p;simp only[List.foldl_cons,List.length_cons];omega
theorem q7J {l:List Edge}{ws:List Int}(h:(q1a l ws).2=0):q0J l=0∧ws.length=l.length∧(∀x∈ws,0≤x∧x≤500)∧(q1a l ws).1=q1Z (q0n l) (q1U l ws l.length) (sgn (q16 (q0n l))):=by
 unfold q1a at h⊢
 split at h
 ·rename_i h1
  split at h
  ·rename_i h2
   split at h
   ·cases h
   rename_i h3
   refine⟨h1,h2,fun x hx=>qgE ?_,by rw[if_pos h1,if_pos h2,if_neg h3]⟩
   cases hb:q2h x with
   |false=>rfl
   |true=>exact absurd (List.any_eq_true.2 ⟨x,hx,hb⟩) h3
  cases h
 rename_i h1;exact absurd h h1
theorem qAP {l:List Edge}{ws:List Int}(hl:l.length≤ws.length)(hg:∀x∈ws,0≤x∧x≤500)(i:Nat):0≤wd (q1U l ws l.length) i∧wd (q1U l ws l.length) i≤500:=by
 by_cases hi:i<(q1U l ws l.length).length
 ·have:wd (q1U l ws l.length) i=(q1U l ws l.length)[i]:=by simp[wd,hi]
  rw[this];exact hg _ (qvj l ws l.length hl _ (List.getElem_mem _))
 have:wd (q1U l ws l.length) i=0:=by simp[wd,List.getElem?_eq_none (Nat.le_of_not_lt hi)]
 rw[this];decide
theorem qg1 {v:List Spot} [OkP v]{each:List Int}{sg:Int}(hs: -1≤sg∧sg≤1)(hw:∀i,0≤wd each i∧wd each i≤500)(hsim:q3F v)(h2:2≤v.length){i:Nat}(hi:i<v.length):
 (q3n v each sg i).x.natAbs≤4294967296∧(q3n v each sg i).y.natAbs≤4294967296:=by
 have hne:=qiW hsim h2 hi
 have hsq:=qyt (pt v i) (pt v ((i+1)%v.length))
 have hir:=qey (n:=sqd (pt v i) (pt v ((i+1)%v.length))) (by omega) (qaU hne)
 have hw:=hw i
 have bw:Bd (wd each i) 500:=⟨by omega⟩
 have bs:Bd sg 1:=⟨by omega⟩
 have b1:Bd (sg*wd each i*((pt v ((i+1)%v.length)).y-(pt v i).y)) _:=inferInstance
 have b2:Bd (-(sg*wd each i) *((pt v ((i+1)%v.length)).x-(pt v i).x)) _:=inferInstance
 have l1:=b1.le
 have l2:=b2.le
 have r1:=q8L (b:=(isq (sqd (pt v i) (pt v ((i+1)%v.length))):Int)) (m:=4294967296) (by omega) (show-((4294967296:Nat):Int)≤sg*wd each i*((pt v ((i+1)%v.length)).y-(pt v i).y)by omega) (by omega)
 have r2:=q8L (b:=(isq (sqd (pt v i) (pt v ((i+1)%v.length))):Int)) (m:=4294967296) (by omega) (show-((4294967296:Nat):Int)≤ -(sg*wd each i) *((pt v ((i+1)%v.length)).x-(pt v i).x)by omega) (by omega)
 exact⟨by show(q1s _ _).natAbs≤_;omega,by show(q1s _ _).natAbs≤_;omega⟩
theorem qn3 {f:Nat→Spot}{n i:Nat}(h:i<n):pt ((List.range n).map f) i=f i:=by
 rw[q0D (by simpa using h)];simp
theorem qn4 {c:List Spot}{j:Nat}(h:j<c.length)(out:List Spot):(c.take (j+1)).foldl q1o out=q1o ((c.take j).foldl q1o out) (pt c j):=by
 rw[List.take_succ_eq_append_getElem h,List.foldl_append,q0D h];rfl
set_option maxHeartbeats 8000000 in
theorem qcC (l:List Edge)(ws:List Int):
 PU qhY [edges l,ints ws]=some (qn2 (q21 l ws)):=by
 have hpoly:=q5q l
 refine q0g (fn:=q8P) rfl (q0a ?_)
 refine gg rfl (q02 rfl rfl (qiX l ws) (gg rfl (q01 rfl (fun g=>?_) (fun g=>?_))))
 ·rw[q0u]at g
  refine gg rfl (q08 rfl rfl rfl trivial ?_)
  rw[q21,if_neg g];rfl
 rw[q0z]at g
 rw[q21,if_pos g]
 obtain⟨hc,hwl,hgood,hs1⟩:=q7J g
 obtain⟨h2,h16,_,_,hchk⟩:=q0Z hc
 obtain⟨v3,v40,vok,vin,vs⟩:=q14 hchk
 have hl1:∀e∈l,1≤e.line.length∧e.line.length≤100000:=fun e he=>by have:=q2o hc e he;omega
 rw[q9f,if_pos hc]at hpoly
 have hseg:=qcz l ws l.length (Nat.le_refl _)
 rw[List.take_length]at hseg
 have heb:=qAP (l:=l) (by omega) hgood
 have hsw:=q9O l ws (by omega) hl1 (by omega) (by omega)
 have hsb: -1≤sgn (q16 (q0n l))∧sgn (q16 (q0n l))≤1:=by have:=(qyS (q16 (q0n l))).le;omega
 have hsl:(q1a l ws).1.length=(q0n l).length:=by rw[hs1];simp[q1Z]
 have hsb':∀i,i<(q0n l).length→(pt (q1a l ws).1 i).x.natAbs≤4294967296∧(pt (q1a l ws).1 i).y.natAbs≤4294967296:=by
  intro i hi
  rw[hs1,q1Z,qn3 hi]
  exact qg1 hsb heb vs (by omega) hi
 have hsm:∀i,i<(q0n l).length→MidS (pt (q1a l ws).1 i):=by
  intro i hi
  rw[hs1,q1Z,qn3 hi]
  have:=qg1 hsb heb vs (by omega) hi
  exact⟨by omega,by omega⟩
 generalize (q1a l ws).1=sh at*
 generalize (q1a l ws).2=e0 at*
 subst g
 refine gg rfl (q02 rfl rfl hpoly (gg rfl (q01 rfl (fun g=>absurd rfl (q0u.1 g)) (fun _=>?_))))
 refine gg rfl (q02 rfl rfl hsw (gg rfl ?_))
 generalize q1U l ws l.length=each at*
 generalize q0n l=v at*
 have hok:∀i,i<v.length→SegOk (q3h v sh each i):=by
  intro i hi
  have hb:=hsb' i hi
  have x1:=(qC8 (p:=v) (i:=i)).bx
  have x2:=(qC8 (p:=v) (i:=i)).byy
  have x3:=(qC8 (p:=v) (i:=(i+1)%v.length)).bx
  have x4:=(qC8 (p:=v) (i:=(i+1)%v.length)).byy
  refine⟨⟨?_,?_⟩,⟨?_,?_⟩,(heb i).1,(heb i).2⟩<;>simp only[q3h,q1L]<;>omega
 rw[List.length_map]
 refine q3O v.length rfl rfl rfl (by simp[q0M];omega) ?_
 have ez:List.replicate v.length (D.agg [D.int IntKind.i64 0,D.int IntKind.i64 0,D.int IntKind.i64 0,D.int IntKind.i64 0,D.int IntKind.i64 0])=(q5L ⟨⟨0,0⟩,⟨0,0⟩,0⟩ v.length (q3h v sh each) 0).map Seg.enc:=by
  rw[qiV];simp[Seg.enc]
 rw[ez]
 refine gg rfl (q0l (S:=fun k:Nat=>([q0k v,ints each,q00 v.length,.ref 3 0 v.length,q0k sh,q00 v.length,q00 k],[none,none,none,some (.row ((q5L ⟨⟨0,0⟩,⟨0,0⟩,0⟩ v.length (q3h v sh each) k).map Seg.enc) 5),none,none,none],[0,0,0,0,0,0,0])) (C:=fun k=>k≤v.length) (m:=fun k=>v.length-k) 0 (Nat.zero_le _) (by omega) ?_ ?_)
 ·exact q03 rfl ⟨q05 q5x _,trivial⟩ (by simp[q0k,ints,q00,hsl])
 intro k hk N hN
 refine gg rfl (q01 rfl (fun g2=>?_) (fun g2=>?_))
 ·rw[q06]at g2
  have hlt:k<v.length:=by omega
  have w1:=wS (n:=k)
  have hset:=qn1 ⟨⟨0,0⟩,⟨0,0⟩,0⟩ (q3h v sh each) hlt
  have hms:=hsm k hlt
  refine gg rfl (q0i k rfl rfl rfl (q0P (by omega)) rfl ?_)
  refine gg rfl (q0i k rfl rfl rfl (q0P hlt) rfl (gg rfl (q02 rfl rfl (qyu (pt v k) (pt sh k)) (gg rfl (q37 rfl rfl (by omega) ?_)))))
  refine gg rfl (q0i ((k+1)%v.length) rfl rfl (by rw[w1,q1q]) (q0P (Nat.mod_lt _ (by omega))) rfl ?_)
  refine gg rfl (q02 rfl rfl (qyu (pt v ((k+1)%v.length)) (pt sh k)) (gg rfl (q0i k rfl rfl rfl (qmZ (by omega)) rfl ?_)))
  refine gg rfl (q0F k rfl rfl rfl rfl rfl hlt (gg rfl (q4R (enc:=Seg.enc) (q5L ⟨⟨0,0⟩,⟨0,0⟩,0⟩ v.length (q3h v sh each) k) k (q3h v sh each k) rfl rfl (Nat.zero_add _) rfl (fun _=>rfl) rfl (Nat.zero_le _) (by rw[qcA];exact hlt) ?_)))
  rw[hset]
  exact gg rfl (q04 (hN (k+1) hlt (by omega) (q03 rfl ⟨q05 q5x _,trivial⟩ (by simp[q0k,ints,q00,w1]))))
 rw[q07]at g2
 obtain rfl:k=v.length:=by omega
 clear hN
 refine gg rfl (q04 (gg rfl ?_))
 rw[qex]
 have hsgs:∀i,i<v.length→((List.range v.length).map (q3h v sh each))[i]?=some (q3h v sh each i):=by
  intro i hi;simp[hi]
 have hseglen:((List.range v.length).map (q3h v sh each)).length=v.length:=by simp
 generalize hsg:(List.range v.length).map (q3h v sh each)=segs at*
 have hPlen:∀k,((q0V v sh each k).foldl q1o []).length≤2*k:=fun k=>by
  have:=qez (q0V v sh each k) []
  have:=qql v sh each k
  simp at*;omega
 refine q0l (S:=fun k:Nat=>([q0k v,q00 v.length,.ref 2 0 v.length,.ref 3 0 ((q0V v sh each k).foldl q1o []).length,q0k v,q00 v.length,q00 k],[none,none,some (.row (segs.map Seg.enc) 5),some (.row (((q0V v sh each k).foldl q1o []).map Spot.enc) 2),none,none,none],[0,0,0,0,0,0,0])) (C:=fun k=>k≤v.length) (m:=fun k=>v.length-k) 0 (Nat.zero_le _) (by omega) ?_ ?_
 ·exact q03 rfl ⟨q05 q5x _,rfl,trivial⟩ (by simp[q0k,q00,q0V])
 intro k hk N hN
 refine gg rfl (q01 rfl (fun g3=>?_) (fun g3=>?_))
 ·rw[q06]at g3
  have hlt:k<v.length:=by omega
  have w1:=wS (n:=k)
  have w2:IntKind.i64.wrap (IntKind.i64.wrap ((k:Int)+v.length)-1)=((k+v.length-1:Nat):Int):=by rw[wrap64 (x:=(k:Int)+v.length) (by omega) (by omega),wrap64 (by omega) (by omega)];omega
  have hm:(k+v.length-1)%v.length<v.length:=Nat.mod_lt _ (by omega)
  have ok1:=hok _ hm
  have ok2:=hok k hlt
  have hk1:=hPlen (k+1)
  refine gg rfl (q0i k rfl rfl rfl (q0P hlt) rfl (gg rfl (q37 rfl rfl (by omega) ?_)))
  refine gg rfl (q0F ((k+v.length-1)%v.length) rfl rfl rfl rfl (by rw[w2,q1q]) hm ?_)
  refine gg rfl (q2U (enc:=Seg.enc) segs ((k+v.length-1)%v.length) (q3h v sh each ((k+v.length-1)%v.length)) rfl (Nat.zero_add _) (fun _=>rfl) rfl (hsgs _ hm) (gg rfl (q0F k rfl rfl rfl rfl rfl hlt (gg rfl (q2U (enc:=Seg.enc) segs k (q3h v sh each k) rfl (Nat.zero_add _) (fun _=>rfl) rfl (hsgs _ hlt) (gg rfl (q02 rfl rfl (qBO (pt v k) (q3h v sh each ((k+v.length-1)%v.length)) (q3h v sh each k)) (gg rfl ?_))))))))
  have hcl:(q32 v sh each k).length≤2:=q8M _ _ _
  have hct:q0V v sh each (k+1)=q0V v sh each k++q32 v sh each k:=rfl
  have hPk:=hPlen k
  change wpM _ _ _ _ _ (upd _ 100 _) _ _ _ _
  have hcd:q1A (pt v k) (q3h v sh each ((k+v.length-1)%v.length)) (q3h v sh each k)=q32 v sh each k:=rfl
  rw[hcd]
  generalize q32 v sh each k=c at*
  generalize hP:(q0V v sh each k).foldl q1o []=P at*
  have hfl:∀j,((c.take j).foldl q1o P).length≤P.length+2:=fun j=>by
   have:=qez (c.take j) P
   simp at*;omega
  refine q0l (S:=fun j:Nat=>([q0k v,q00 v.length,.ref 2 0 v.length,.ref 3 0 ((c.take j).foldl q1o P).length,q0k v,q00 v.length,q00 k,q0k c,q00 c.length,q00 j],[none,none,some (.row (segs.map Seg.enc) 5),some (.row (((c.take j).foldl q1o P).map Spot.enc) 2),none,none,none,none,none,none],[0,0,0,0,0,0,0,0,0,0])) (C:=fun j=>j≤c.length) (m:=fun j=>c.length-j) 0 (Nat.zero_le _) (by omega) ?_ ?_
  ·exact q03 rfl ⟨q05 q5x _,q05 q0r _,trivial⟩ (by simp[q0k,q00])
  intro j hj N2 hN2
  refine gg rfl (q01 rfl (fun g4=>?_) (fun g4=>?_))
  ·rw[q06]at g4
   have hjl:j<c.length:=by omega
   have wj:=wS (n:=j)
   have hstep:=qn4 hjl P
   have hfj:=hfl j
   generalize hO:(c.take j).foldl q1o P=O at*
   have next:∀{t:q0x} {h:q0d} {z:Frz} {nx:Nat},(q10 0 [(8,0),(10,0),(11,0),(14,2),(77,0),(78,0),(79,0),(98,0),(99,0),(100,0)] t h z nx fun _ _ kp=>kp=([q0k v,q00 v.length,.ref 2 0 v.length,.ref 3 0 (q1o O (pt c j)).length,q0k v,q00 v.length,q00 k,q0k c,q00 c.length,q00 ((j+1:Nat):Int)],[none,none,some (.row (segs.map Seg.enc) 5),some (.row ((q1o O (pt c j)).map Spot.enc) 2),none,none,none,none,none,none],[0,0,0,0,0,0,0,0,0,0]))→N2 t h z nx:=by
    intro t h z nx hst
    refine hN2 (j+1) hjl (by omega) ?_
    rw[hstep];exact hst
   clear hN2
   have wl:O.length≠0→IntKind.i64.wrap ((O.length:Int)-1)=((O.length-1:Nat):Int):=fun h=>by rw[wrap64 (by omega) (by omega)];omega
   refine gg rfl (q0i j rfl rfl rfl (q0P hjl) rfl (gg rfl (q09 rfl (fun e1=>?_) (fun e1=>?_))))
   ·rw[q1n]at e1
    have hO0:O.length=0:=by omega
    have hpush:q1o O (pt c j)=O++[pt c j]:=by rw[q1o,if_pos (.inl hO0)]
    refine gg rfl (q0e rfl (gg rfl (q1f rfl rfl rfl rfl rfl rfl (by simp) (Nat.zero_le _) (by simp[q0M];omega) ?_)))
    refine gg rfl (q04 (next (q03 rfl ⟨q05 q5x _,?_,trivial⟩ ?_)))
    ·rw[List.all_append,q05 q0r];rfl
    rw[hpush];simp[q0k,q00,wj,Spot.enc]
   rw[q20]at e1
   have hO0:O.length≠0:=by omega
   have hlast:O[O.length-1]?=some (q1w O):=by rw[q1w,q0D (by omega)];exact List.getElem?_eq_getElem (by omega)
   refine gg rfl (q0F (O.length-1) rfl rfl rfl rfl (wl hO0) (by omega) ?_)
   refine gg rfl (q2U (enc:=Spot.enc) O (O.length-1) (q1w O) rfl (Nat.zero_add _) (fun _=>rfl) rfl hlast (gg rfl (q01 rfl (fun e2=>?_) (fun e2=>?_))))
   ·rw[q1I]at e2
    have hne:q1w O≠pt c j:=by simpa using e2
    have hpush:q1o O (pt c j)=O++[pt c j]:=by rw[q1o,if_pos (.inr hne)]
    refine gg rfl (q1f rfl rfl rfl rfl rfl rfl (by simp) (Nat.zero_le _) (by simp[q0M];omega) ?_)
    refine gg rfl (q04 (next (q03 rfl ⟨q05 q5x _,?_,trivial⟩ ?_)))
    ·rw[List.all_append,q05 q0r];rfl
    rw[hpush];simp[q0k,q00,wj,Spot.enc]
   rw[q1I]at e2
   have heq:q1w O=pt c j:=by simpa using e2
   have hpush:q1o O (pt c j)=O:=by rw[q1o,if_neg (by intro h;rcases h with h|h;exact hO0 h;exact h heq)]
   exact gg rfl (q04 (next (q03 rfl ⟨q05 q5x _,q05 q0r _,trivial⟩ (by rw[hpush];simp[q0k,q00,wj]))))
  rw[q07]at g4
  obtain rfl:j=c.length:=by omega
  clear hN2
  refine gg rfl (q04 (gg rfl (q04 (hN (k+1) hlt (by omega) (q03 rfl ⟨q05 q5x _,q05 q0r _,trivial⟩ ?_)))))
  simp[q0k,q00,w1,hct,hP]
 rw[q07]at g3
 obtain rfl:k=v.length:=by omega
 clear hN
 have hR2:=hPlen v.length
 have hq:q2O v sh each=(q25 (q0V v sh each v.length)).take (q3i (q25 (q0V v sh each v.length)) (q25 (q0V v sh each v.length)).length):=rfl
 rw[hq]
 change ((q25 (q0V v sh each v.length))).length≤_ at hR2
 refine gg rfl (q04 (gg rfl ?_))
 have hon:(q0V v sh each v.length).foldl q1o []=q25 (q0V v sh each v.length):=rfl
 rw[hon]
 clear hq hPlen hon
 generalize q25 (q0V v sh each v.length)=R at*
 refine q0l (S:=fun j:Nat=>([q0k v,.ref 1 0 j],[none,some (.row (R.map Spot.enc) 2)],[0,0])) (C:=fun j=>j≤R.length∧q3i R j=q3i R R.length) (m:=fun j=>j) R.length ⟨Nat.le_refl _,rfl⟩ (by omega) ?_ ?_
 ·exact q03 rfl ⟨q05 q0r _,trivial⟩ (by simp[q0k])
 rintro j ⟨hj,htr⟩ N hN
 have wl:j≠0→IntKind.i64.wrap ((j:Int)-1)=((j-1:Nat):Int):=fun h=>by rw[wrap64 (by omega) (by omega)];omega
 have hstop:¬(2≤j∧pt R (j-1)=pt R 0)→q3i R R.length=j:=by
  intro h
  rw[←htr]
  cases j with
  |zero=>rfl
  |succ j=>rw[q3i,if_neg (fun h'=>h ⟨by omega,by simpa using h'.2⟩)]
 refine gg rfl (q09 rfl (fun e1=>?_) (fun e1=>?_))
 ·rw[q0G]at e1
  have hj2:2≤j:=by omega
  refine gg rfl (q0F (j-1) rfl rfl rfl rfl (wl (by omega)) (by omega) ?_)
  refine gg rfl (q2U (enc:=Spot.enc) R (j-1) (pt R (j-1)) rfl (Nat.zero_add _) (fun _=>rfl) rfl (by rw[q0D (by omega)];exact List.getElem?_eq_getElem (by omega)) ?_)
  refine gg rfl (q0F 0 rfl rfl rfl rfl rfl (by omega) ?_)
  refine gg rfl (q2U (enc:=Spot.enc) R 0 (pt R 0) rfl rfl (fun _=>rfl) rfl (by rw[q0D (by omega)];exact List.getElem?_eq_getElem (by omega)) ?_)
  refine gg rfl (q01 rfl (fun e2=>?_) (fun e2=>?_))
  ·rw[q1I]at e2
   have heq:pt R (j-1)=pt R 0:=by simpa using e2
   refine gg rfl (q9K (j-1) rfl rfl rfl ⟨_,_,rfl,wl (by omega)⟩ (by omega) ?_)
   refine gg rfl (q04 (hN (j-1) ⟨by omega,?_⟩ (by omega) (q03 rfl ⟨q05 q0r _,trivial⟩ (by simp[q0k]))))
   rw[←htr]
   obtain⟨i,rfl⟩:∃i,j=i+1:=⟨j-1,by omega⟩
   rw[q3i,if_pos ⟨by omega,by simpa using heq⟩];rfl
  rw[q1I]at e2
  have hne:¬(2≤j∧pt R (j-1)=pt R 0):=fun h=>by rw[h.2]at e2;simp at e2
  rw[hstop hne]
  clear hN
  refine gg rfl (q04 (gg rfl ?_))
  have hrow:D.lst ((R.map Spot.enc).take j)=q0k (R.take j):=by rw[q0k,List.map_take]
  have hdat:0+j≤(R.map Spot.enc).length∧(((R.map Spot.enc).drop 0).take j).all (dat 4)=true:=by
   refine⟨by simp;omega,?_⟩
   rw[List.drop_zero,←List.map_take];exact q0X q2q _
  have hql:(R.take j).length=j:=by simp;omega
  refine q0l (S:=fun k:Nat=>([q0k v,.ref 1 0 j,.ref 1 0 j,q00 j,q00 k],[none,some (.row (R.map Spot.enc) 2),none,none,none],[0,0,0,0,0])) (C:=fun k=>k≤j∧∀i,i<k→q0v (pt R i) 1048576=true) (m:=fun k=>j-k) 0 ⟨Nat.zero_le _,fun i hi=>by omega⟩ (by omega) ?_ ?_
  ·exact q03 rfl ⟨q05 q0r _,q05 q0r _,trivial⟩ (by simp[q0k,q00])
  rintro k ⟨hk,hin⟩ N hN
  refine gg rfl (q01 rfl (fun f1=>?_) (fun f1=>?_))
  ·rw[q06]at f1
   have hlt:k<j:=by omega
   have w1:=wS (n:=k)
   refine gg rfl (q0F k rfl rfl rfl rfl rfl hlt (gg rfl (q2U (enc:=Spot.enc) R k (pt R k) rfl (Nat.zero_add _) (fun _=>rfl) rfl (by rw[q0D (by omega)];exact List.getElem?_eq_getElem (by omega)) ?_)))
   refine gg rfl (q02 rfl rfl (q4M (pt R k) 1048576 (by decide) (by decide)) ?_)
   refine gg rfl (q01 rfl (fun f2=>?_) (fun f2=>?_))
   ·refine gg rfl (q04 (gg rfl (q08 rfl rfl rfl trivial ?_)))
    have:(R.take j).any (fun s=>!q0v s 1048576)=true:=by
     refine List.any_eq_true.2 ⟨pt R k,?_,f2⟩
     rw[q0D (by omega)]
     exact List.mem_iff_getElem.2 ⟨k,by omega,by simp⟩
    rw[q7I,if_pos this];rfl
   refine gg rfl (q04 (hN (k+1) ⟨hlt,fun i hi=>?_⟩ (by omega) (q03 rfl ⟨q05 q0r _,q05 q0r _,trivial⟩ (by simp[q0k,q00,w1]))))
   by_cases hik:i<k
   ·exact hin i hik
   obtain rfl:i=k:=by omega
   simpa using f2
  rw[q07]at f1
  clear hN
  have hany:(R.take j).any (fun s=>!q0v s 1048576)=false:=by
   rw[List.any_eq_false]
   intro s hs
   obtain⟨i,hi,rfl⟩:=List.getElem_of_mem hs
   have:=hin i (by omega)
   rw[q0D (by omega)]at this
   simp[this]
  rw[q7I,if_neg (by rw[hany];decide)]
  refine gg rfl (q04 (gg rfl (q6L rfl rfl ⟨hdat,trivial⟩ (by rw[hrow];exact q3q (R.take j)) rfl ?_)))
  refine gg rfl (q01 rfl (fun f3=>?_) (fun f3=>?_))
  ·rw[q0u]at f3
   refine gg rfl (q08 rfl rfl rfl trivial ?_)
   rw[if_neg f3];rfl
  rw[q0z]at f3
  rw[if_pos f3]
  refine gg rfl (q6L rfl rfl ⟨hdat,trivial⟩ (by rw[hrow];exact q4c (R.take j)) rfl ?_)
  refine gg rfl (q02 rfl rfl (q4c v) (gg rfl (q01 rfl (fun f4=>?_) (fun f4=>?_))))
  ·rw[q0u]at f4
   refine gg rfl (q08 rfl rfl rfl trivial ?_)
   rw[if_neg f4];rfl
  rw[q0z]at f4
  rw[if_pos f4]
  refine gg rfl (q08 rfl rfl rfl ⟨hdat,trivial⟩ ?_)
  rw[hrow];rfl
 rw[q0H]at e1
 have hne:¬(2≤j∧pt R (j-1)=pt R 0):=fun h=>by omega
 rw[hstop hne]
 clear hN
 refine gg rfl (q0j rfl (gg rfl (q04 (gg rfl ?_))))
 have hrow:D.lst ((R.map Spot.enc).take j)=q0k (R.take j):=by rw[q0k,List.map_take]
 have hdat:0+j≤(R.map Spot.enc).length∧(((R.map Spot.enc).drop 0).take j).all (dat 4)=true:=by
  refine⟨by simp;omega,?_⟩
  rw[List.drop_zero,←List.map_take];exact q0X q2q _
 have hql:(R.take j).length=j:=by simp;omega
 refine q0l (S:=fun k:Nat=>([q0k v,.ref 1 0 j,.ref 1 0 j,q00 j,q00 k],[none,some (.row (R.map Spot.enc) 2),none,none,none],[0,0,0,0,0])) (C:=fun k=>k≤j∧∀i,i<k→q0v (pt R i) 1048576=true) (m:=fun k=>j-k) 0 ⟨Nat.zero_le _,fun i hi=>by omega⟩ (by omega) ?_ ?_
 ·exact q03 rfl ⟨q05 q0r _,q05 q0r _,trivial⟩ (by simp[q0k,q00])
 rintro k ⟨hk,hin⟩ N hN
 refine gg rfl (q01 rfl (fun f1=>?_) (fun f1=>?_))
 ·rw[q06]at f1
  have hlt:k<j:=by omega
  have w1:=wS (n:=k)
  refine gg rfl (q0F k rfl rfl rfl rfl rfl hlt (gg rfl (q2U (enc:=Spot.enc) R k (pt R k) rfl (Nat.zero_add _) (fun _=>rfl) rfl (by rw[q0D (by omega)];exact List.getElem?_eq_getElem (by omega)) ?_)))
  refine gg rfl (q02 rfl rfl (q4M (pt R k) 1048576 (by decide) (by decide)) ?_)
  refine gg rfl (q01 rfl (fun f2=>?_) (fun f2=>?_))
  ·refine gg rfl (q04 (gg rfl (q08 rfl rfl rfl trivial ?_)))
   have:(R.take j).any (fun s=>!q0v s 1048576)=true:=by
    refine List.any_eq_true.2 ⟨pt R k,?_,f2⟩
    rw[q0D (by omega)]
    exact List.mem_iff_getElem.2 ⟨k,by omega,by simp⟩
   rw[q7I,if_pos this];rfl
  refine gg rfl (q04 (hN (k+1) ⟨hlt,fun i hi=>?_⟩ (by omega) (q03 rfl ⟨q05 q0r _,q05 q0r _,trivial⟩ (by simp[q0k,q00,w1]))))
  by_cases hik:i<k
  ·exact hin i hik
  obtain rfl:i=k:=by omega
  simpa using f2
 rw[q07]at f1
 clear hN
 have hany:(R.take j).any (fun s=>!q0v s 1048576)=false:=by
  rw[List.any_eq_false]
  intro s hs
  obtain⟨i,hi,rfl⟩:=List.getElem_of_mem hs
  have:=hin i (by omega)
  rw[q0D (by omega)]at this
  simp[this]
 rw[q7I,if_neg (by rw[hany];decide)]
 refine gg rfl (q04 (gg rfl (q6L rfl rfl ⟨hdat,trivial⟩ (by rw[hrow];exact q3q (R.take j)) rfl ?_)))
 refine gg rfl (q01 rfl (fun f3=>?_) (fun f3=>?_))
 ·rw[q0u]at f3
  refine gg rfl (q08 rfl rfl rfl trivial ?_)
  rw[if_neg f3];rfl
 rw[q0z]at f3
 rw[if_pos f3]
 refine gg rfl (q6L rfl rfl ⟨hdat,trivial⟩ (by rw[hrow];exact q4c (R.take j)) rfl ?_)
 refine gg rfl (q02 rfl rfl (q4c v) (gg rfl (q01 rfl (fun f4=>?_) (fun f4=>?_))))
 ·rw[q0u]at f4
  refine gg rfl (q08 rfl rfl rfl trivial ?_)
  rw[if_neg f4];rfl
 rw[q0z]at f4
 rw[if_pos f4]
 refine gg rfl (q08 rfl rfl rfl ⟨hdat,trivial⟩ ?_)
 rw[hrow];rfl
end Go.F

namespace Go.F
def sm {α:Type} [Add α] [OfNat α 0](f:Nat→α):Nat→α
 |0=>0
 |k+1=>sm f k+f k
end Go.F

namespace Go.F
attribute [local irreducible] IntKind.wrap wpM
theorem qxp (n:Nat)(hn:n<9223372036854775808):PU qzk [.int .i64 n]=some (.int .i64 (qpv n)):=by
 refine q0g (fn:=qo1) rfl (q0a ?_)
 refine gg rfl (q0l (S:=fun q:Nat×Nat=>([q00 n,q00 q.2,.int .i64 ((q.1:Int)-1)],[none,none,none],[0,0,0])) (C:=fun q=>q.1≤32∧q.2+2^q.1≤4294967296∧qm1 n q.1 q.2=qpv n) (m:=fun q=>q.1) (32,0) ⟨by decide,by decide,rfl⟩ (by decide) ?_ ?_)
 ·exact q03 rfl trivial (by simp[q00])
 rintro⟨j,r⟩ ⟨hj,hr,hinv⟩ N hN
 simp only at hj hr hinv
 refine gg rfl (q01 rfl (fun g=>?_) (fun g=>?_))
 ·rw[q0G]at g
  simp only at g
  obtain⟨k,rfl⟩:∃k,j=k+1:=⟨j-1,by omega⟩
  have ek:((k+1:Nat):Int)-1=(k:Int):=by omega
  have hp:2^(k+1)=2*2^k:=by rw[Nat.pow_succ];omega
  have hp0:0<2^k:=Nat.pow_pos (by decide)
  rw[qm1]at hinv
  rw[hp]at hr
  generalize hP:2^k=P at*
  have wk:IntKind.u64.wrap (k:Int)=(k:Int):=q0C (by omega)
  have wk1:=ww (x:=(k:Int)-1)
  have wt:IntKind.i64.wrap ((r:Int)+(P:Int))=((r+P:Nat):Int):=by rw[wrap64 (by omega) (by omega)];omega
  have wt2:IntKind.u64.wrap ((r+P:Nat):Int)=((r+P:Nat):Int):=q0C (by omega)
  have hmul:(r+P) *(r+P)≤4294967295*4294967295:=Nat.mul_le_mul (by omega) (by omega)
  have wm:IntKind.u64.wrap (((r+P:Nat):Int) *((r+P:Nat):Int))=(((r+P) *(r+P):Nat):Int):=by rw[←Int.natCast_mul];exact q0C (by omega)
  have wn:IntKind.u64.wrap (n:Int)=(n:Int):=q0C (by omega)
  have wb:=ww (x:=((r+P:Nat):Int))
  simp only
  rw[ek]
  refine gg rfl ?_
  rw[wk]
  refine q6w 1 k rfl rfl rfl rfl (by show k≤64;omega) (by rw[hP,Nat.one_mul];exact wrap64 (by omega) (by omega)) ?_
  rw[hP,Nat.one_mul]
  refine gg rfl ?_
  rw[wt,wt2,wm,wn]
  refine q01 rfl (fun g2=>?_) (fun g2=>?_)
  ·rw[q0G]at g2
   rw[if_pos (by omega)]at hinv
   refine gg rfl ?_
   rw[wb]
   exact q04 (hN (k,r+P) ⟨by simp only;omega,by simp only;rw[hP];omega,hinv⟩ (by simp only;omega) (q03 rfl trivial (by simp[q00,wk1])))
  rw[q0H]at g2
  rw[if_neg (by omega)]at hinv
  exact gg rfl (q04 (hN (k,r) ⟨by simp only;omega,by simp only;rw[hP];omega,hinv⟩ (by simp only;omega) (q03 rfl trivial (by simp[q00,wk1]))))
 rw[q0H]at g
 simp only at g
 obtain rfl:j=0:=by omega
 refine gg rfl (q04 (gg rfl (q08 rfl rfl rfl trivial ?_)))
 rw[←hinv];rfl
theorem qpx (a b:Spot)(ha:q0v a 1048576=true)(hb:q0v b 1048576=true):PU qqN [a.enc,b.enc]=some (.int .i64 (qeU a b)):=by
 refine q0g (fn:=qfF) rfl (q0a ?_)
 have h:=qum ha hb
 have hse:=q6e a b
 rw[q1C]at ha hb
 have bx:Bd (b.x-a.x) 2097152:=⟨by omega⟩
 have by':Bd (b.y-a.y) 2097152:=⟨by omega⟩
 have c1:IntKind.i64.wrap (b.x-a.x)=b.x-a.x:=q0U (by decide)
 have c2:IntKind.i64.wrap (b.y-a.y)=b.y-a.y:=q0U (by decide)
 refine gg rfl ?_
 rw[c1,c2]
 have c4:IntKind.i64.wrap ((b.x-a.x) *(b.x-a.x))=(b.x-a.x) *(b.x-a.x):=q0U (by decide)
 have c5:IntKind.i64.wrap ((b.y-a.y) *(b.y-a.y))=(b.y-a.y) *(b.y-a.y):=q0U (by decide)
 have c6:IntKind.i64.wrap ((b.x-a.x) *(b.x-a.x)+(b.y-a.y) *(b.y-a.y))=(sqd a b:Int):=by rw[hse];exact q0U (by decide)
 have c7:IntKind.i64.wrap (1000000*(sqd a b:Int))=((1000000*sqd a b:Nat):Int):=by rw[wrap64 (by omega) (by omega)];omega
 rw[c4,c5,c6,c7]
 refine q02 rfl rfl (qxp (1000000*sqd a b) (by omega)) ?_
 exact gg rfl (q08 rfl rfl rfl trivial rfl)
end Go.F

namespace Go.F
section
variable {T:Tab}{sh:Shr}{nx0:Nat}{s:List Fr}{t:q0x}{h:q0d}{z:Frz}{nx:Nat}{q:Ex→q0x→q0d→Frz→Nat→Prop}
variable {base i:Nat}{res:List Nat}{g:Gd}{rest:List KOper}
def qce (t:q0x):Live→List Rep→q0d→Frz→Option (List Obl×q0d×Frz)
 |[],_,h,z=>some ([],h,z)
 |x::rest,reps,h,z=>
  match q2i (t x.1)with
  |none=>
   match plain 4 (t x.1)with
   |true=>qce t rest reps h z
   |false=>none
  |some id=>
   match h id with
   |some (.row es esz)=>
    match reps with
    |[]=>none
    |none::reps=>
     match qce t rest reps h z with
     |some (o,h',z')=>some (.p es::o,h',z')
     |none=>none
    |some (l,rs)::reps=>
     match qce t rest reps (upd h id (some (.row l esz))) (q77 h z rs)with
     |some (o,h',z')=>some (.s h es l rs::o,h',z')
     |none=>none
   |some (.mp _ vs)=>
    match qce t rest reps h z with
    |some (o,h',z')=>some (.p vs::o,h',z')
    |none=>none
   |none=>qce t rest reps h z
theorem qFi {t:q0x}:∀{live:Live} {reps:List Rep} {h:q0d} {z:Frz} {o:List Obl} {h':q0d} {z':Frz} {k:q0d→Frz→Prop},qce t live reps h z=some (o,h',z')→qjN o→k h' z'→q34 live t h z k:=by
 intro live
 induction live with
 |nil=>intro reps h z o h' z' k hr _ hk;simp only[qce,Option.some.injEq,Prod.mk.injEq]at hr;obtain⟨_,rfl,rfl⟩:=hr;exact hk
 |cons x live ih=>
  intro reps h z o h' z' k hr ho hk
  simp only[qce]at hr
  simp only[q34]
  cases hid:q2i (t x.1)with
  |none=>
   rw[hid]at hr
   simp only at hr⊢
   cases hb:plain 4 (t x.1)with
   |true=>rw[hb]at hr;exact ih hr ho hk
   |false=>rw[hb]at hr;cases hr
  |some id=>
   rw[hid]at hr
   simp only at hr⊢
   cases hb:h id with
   |none=>rw[hb]at hr;exact ih hr ho hk
   |some b=>
    rw[hb]at hr
    cases b with
    |mp ks vs=>
     simp only at hr⊢
     cases hx:qce t live reps h z with
     |none=>rw[hx]at hr;cases hr
     |some y=>
      obtain⟨o1,h1,z1⟩:=y
      rw[hx]at hr
      simp only[Option.some.injEq,Prod.mk.injEq]at hr
      obtain⟨rfl,rfl,rfl⟩:=hr
      exact q1r ho.1 (ih hx ho.2 hk)
    |row es esz=>
     simp only at hr⊢
     match reps,hr with
     |none::reps,hr=>
      simp only at hr
      cases hx:qce t live reps h z with
      |none=>rw[hx]at hr;cases hr
      |some y=>
       obtain⟨o1,h1,z1⟩:=y
       rw[hx]at hr
       simp only[Option.some.injEq,Prod.mk.injEq]at hr
       obtain⟨rfl,rfl,rfl⟩:=hr
       unfold qba
       exact .inl ⟨ho.1,ih hx ho.2 hk⟩
     |some (l,rs)::reps,hr=>
      simp only at hr
      cases hx:qce t live reps (upd h id (some (.row l esz))) (q77 h z rs)with
      |none=>rw[hx]at hr;cases hr
      |some y=>
       obtain⟨o1,h1,z1⟩:=y
       rw[hx]at hr
       simp only[Option.some.injEq,Prod.mk.injEq]at hr
       obtain⟨rfl,rfl,rfl⟩:=hr
       obtain⟨g1,g2,g3,g4⟩:=ho.1
       unfold qba
       exact .inr ⟨l,rs,g1,g2,g3,g4,ih hx ho.2 hk⟩
def setZ (live:Live)(reps:List Rep)(t:q0x)(h:q0d)(z:Frz)(nx:Nat):Option (List Obl×Kept):=
 match qcn live t h z nx with
 |(t,h,z)=>
  match qce t live reps h z with
  |some (o,h',z')=>fL1 (q9I 0 (q0B t live) t live) fun vs=>fLi (q9J 0 (q0B t live) h' (q0B t live) 0) fun bs=>fLi (qi7 0 (q0B t live) z' (q0B t live) 0) fun zs=>some (o,vs,bs,zs)
  |none=>none
theorem qB4 {live:Live}(reps:List Rep){o:List Obl}{kp:Kept}{K:Kept→Prop}(hs:setZ live reps t h z nx=some (o,kp))(hp:qjN o)(hk:K kp)(hnst:q5p live=false:=by rfl):q10 0 live t h z nx fun _ _ kp=>K kp:=by
 unfold setZ at hs
 split at hs
 rename_i t1 h1 z1 hn
 split at hs
 ·rename_i o1 h2 z2 hr
  simp only[q5u,qpT,Option.some.injEq,Prod.mk.injEq]at hs
  obtain⟨rfl,rfl⟩:=hs
  unfold q10
  simp only[hnst]
  unfold q6S
  refine qiI _ _ _ _ _ _ fun nx'=>?_
  rw[hn]
  refine qFi hr hp ?_
  rw[q6t,q6u]
  exact hk
 cases hs
def qdW (m:List (ByteArray×D))(s:ByteArray):Option D:=(m.find? fun p=>s==p.1).map (·.2)
theorem q9k (m:List (ByteArray×D))(s:ByteArray):∀n,match findKey s (m.map (·.1)) n with
 |some i=>n≤i∧∃v,(m.map (·.2))[i-n]?=some v∧qdW m s=some v
 |none=>qdW m s=none:=by
 induction m with
 |nil=>intro n;rfl
 |cons p m ih=>
  intro n
  simp only[List.map_cons,findKey]
  by_cases e:(s==p.1)=true
  ·rw[if_pos e]
   refine⟨Nat.le_refl _,p.2,by simp,by simp[qdW,List.find?_cons,e]⟩
  rw[if_neg e]
  have h:=ih (n+1)
  have em:qdW (p::m) s=qdW m s:=by
   unfold qdW;rw[List.find?_cons]
   simp only[Bool.not_eq_true]at e
   rw[e]
  cases hf:findKey s (m.map (·.1)) (n+1)with
  |none=>rw[hf]at h;simp only at h⊢;rw[em];exact h
  |some i=>
   rw[hf]at h
   simp only at h⊢
   obtain⟨h1,v,h2,h3⟩:=h
   refine⟨by omega,v,?_,by rw[em];exact h3⟩
   have:i-n=(i-(n+1))+1:=by omega
   rw[this,List.getElem?_cons_succ];exact h2
theorem atPut {mx kx vx:X}{dst:Option Nat}{m:List (ByteArray×D)}{st:ByteArray}{id:Nat}(hx:mx.ev t=.mref id)(hh:g.h base h id=some (.mp (m.map (·.1)) (m.map (·.2))))(hz:g.z base z id=0)(hkx:kx.ev t=.str st)(hn:qdW m st=none)
 (hk:wpM T sh nx0 (.ops base res rest::s) .normal (put t dst (.tup [])) (upd h id (some (.mp ((m++[(st,vx.ev t)]).map (·.1)) ((m++[(st,vx.ev t)]).map (·.2))))) z nx q):
 wpM T sh nx0 (.ops base res (⟨i,dst,none,g,.mapset mx kx vx⟩::rest)::s) .normal t h z nx q:=by
 refine q3u ?_
 have hf:=q9k m st 0
 simp only[kop,qmL,hx,hh,hkx,hz,qtQ]
 cases hk':findKey st (m.map (·.1)) 0 with
 |none=>rw[List.map_append,List.map_append]at hk;exact hk
 |some j=>
  rw[hk']at hf
  obtain⟨_,v,h2,h3⟩:=hf
  rw[hn]at h3;cases h3
end
end Go.F

namespace Go.F
attribute [local irreducible] IntKind.wrap wpM
section
variable {T:Tab}{sh:Shr}{nx0:Nat}{s:List Fr}{t:q0x}{h:q0d}{z:Frz}{nx:Nat}{q:Ex→q0x→q0d→Frz→Nat→Prop}
variable {base i:Nat}{res:List Nat}{g:Gd}{rest:List KOper}
end
theorem qy1 {s:ByteArray}{k:Nat}(hk:k<s.size)(h:q2S (q2r s k).toNat=false):sizeS s=false:=by
 unfold sizeS
 rw[Bool.and_eq_false_iff,Bool.and_eq_false_iff]
 right;right
 rw[decide_eq_false_iff_not]
 intro g
 rw[g k hk]at h;cases h
theorem q1z (n:Nat):q2S n=((leb 65 n&&leb n 90) ||(leb 48 n&&leb n 57)):=by
 simp only[q2S,q26]
 congr 1
 ·congr 1<;>(apply decide_eq_decide.2;omega)
 congr 1<;>(apply decide_eq_decide.2;omega)
set_option maxHeartbeats 2000000 in
theorem qmx (s:ByteArray)(hs:s.size≤1000000):PU qoI [.str s]=some (.bool (sizeS s)):=by
 refine q0g (fn:=qdh) rfl (q0a ?_)
 refine gg rfl (q0l (S:=fun k:Nat=>([.str s,q00 s.size,q00 k],[none,none,none],[0,0,0])) (C:=fun k=>k≤s.size∧∀i,i<k→q2S (q2r s i).toNat=true) (m:=fun k=>s.size-k) 0 ⟨by omega,fun i hi=>by omega⟩ (by omega) ?_ ?_)
 ·exact q03 rfl trivial (by simp[q00])
 intro k ⟨hk,hall⟩ N hN
 refine gg rfl (q01 rfl (fun g1=>?_) (fun g1=>?_))
 ·rw[q06]at g1
  have hlt:k<s.size:=by omega
  have w1:=wS (n:=k)
  have hb:=q6j hlt
  have hno:=qy1 hlt
  have hyes:q2S (q2r s k).toNat=true→∀i,i<k+1→q2S (q2r s i).toNat=true:=by
   intro h i hi
   by_cases e:i=k
   ·subst e;exact h
   exact hall i (by omega)
  generalize q2r s k=c at*
  refine gg rfl (q2d k rfl rfl rfl hb (gg rfl (q09 rfl (fun a1=>?_) (fun a1=>?_))))
  ·refine gg rfl (q2d k rfl rfl rfl hb (gg rfl (q2d k rfl rfl rfl hb (gg rfl (q09 rfl (fun d1=>?_) (fun d1=>?_))))))
   ·refine gg rfl (q2d k rfl rfl rfl hb (gg rfl (q09 rfl (fun e1=>?_) (fun e1=>?_))))
    ·refine gg rfl (q01 rfl (fun e2=>?_) (fun e2=>?_))
     ·have hc:q2S c.toNat=false:=by rw[q1z];simp_all
      refine gg rfl (q04 (gg rfl (q08 rfl rfl rfl trivial ?_)))
      rw[hno hc]
     have hc:q2S c.toNat=true:=by rw[q1z];simp_all
     exact gg rfl (q04 (hN (k+1) ⟨hlt,hyes hc⟩ (by omega) (q03 rfl trivial (by simp[q00,w1]))))
    refine gg rfl (q0j rfl ?_)
    have hc:q2S c.toNat=true:=by rw[q1z];simp_all
    exact gg rfl (q04 (hN (k+1) ⟨hlt,hyes hc⟩ (by omega) (q03 rfl trivial (by simp[q00,w1]))))
   refine gg rfl (q09 rfl (fun e1=>?_) (fun e1=>?_))
   ·refine gg rfl (q01 rfl (fun e2=>?_) (fun e2=>?_))
    ·have hc:q2S c.toNat=false:=by rw[q1z];simp_all
     refine gg rfl (q04 (gg rfl (q08 rfl rfl rfl trivial ?_)))
     rw[hno hc]
    have hc:q2S c.toNat=true:=by rw[q1z];simp_all
    exact gg rfl (q04 (hN (k+1) ⟨hlt,hyes hc⟩ (by omega) (q03 rfl trivial (by simp[q00,w1]))))
   refine gg rfl (q0j rfl ?_)
   have hc:q2S c.toNat=true:=by rw[q1z];simp_all
   exact gg rfl (q04 (hN (k+1) ⟨hlt,hyes hc⟩ (by omega) (q03 rfl trivial (by simp[q00,w1]))))
  refine gg rfl (q2d k rfl rfl rfl hb (gg rfl (q09 rfl (fun d1=>?_) (fun d1=>?_))))
  ·refine gg rfl (q2d k rfl rfl rfl hb (gg rfl (q09 rfl (fun e1=>?_) (fun e1=>?_))))
   ·refine gg rfl (q01 rfl (fun e2=>?_) (fun e2=>?_))
    ·have hc:q2S c.toNat=false:=by rw[q1z];simp_all
     refine gg rfl (q04 (gg rfl (q08 rfl rfl rfl trivial ?_)))
     rw[hno hc]
    have hc:q2S c.toNat=true:=by rw[q1z];simp_all
    exact gg rfl (q04 (hN (k+1) ⟨hlt,hyes hc⟩ (by omega) (q03 rfl trivial (by simp[q00,w1]))))
   refine gg rfl (q0j rfl ?_)
   have hc:q2S c.toNat=true:=by rw[q1z];simp_all
   exact gg rfl (q04 (hN (k+1) ⟨hlt,hyes hc⟩ (by omega) (q03 rfl trivial (by simp[q00,w1]))))
  refine gg rfl (q09 rfl (fun e1=>?_) (fun e1=>?_))
  ·refine gg rfl (q01 rfl (fun e2=>?_) (fun e2=>?_))
   ·have hc:q2S c.toNat=false:=by rw[q1z];simp_all
    refine gg rfl (q04 (gg rfl (q08 rfl rfl rfl trivial ?_)))
    rw[hno hc]
   have hc:q2S c.toNat=true:=by rw[q1z];simp_all
   exact gg rfl (q04 (hN (k+1) ⟨hlt,hyes hc⟩ (by omega) (q03 rfl trivial (by simp[q00,w1]))))
  refine gg rfl (q0j rfl ?_)
  have hc:q2S c.toNat=true:=by rw[q1z];simp_all
  exact gg rfl (q04 (hN (k+1) ⟨hlt,hyes hc⟩ (by omega) (q03 rfl trivial (by simp[q00,w1]))))
 rw[q07]at g1
 obtain rfl:k=s.size:=by omega
 have hA:decide (∀i,i<s.size→q2S (q2r s i).toNat=true)=true:=decide_eq_true hall
 refine gg rfl (q04 (gg rfl (q09 rfl (fun h1=>?_) (fun h1=>?_))))
 ·rw[q0G]at h1
  refine gg rfl (q08 rfl rfl rfl trivial ?_)
  rw[sizeS,hA,q26,decide_eq_true (show 1≤s.size by omega)]
  simp
  omega
 rw[q0H]at h1
 refine gg rfl (q08 rfl rfl rfl trivial ?_)
 rw[sizeS,decide_eq_false (show¬1≤s.size by omega)];rfl
theorem qcm (s:ByteArray):PU qoy [.str s]=some (.bool (q1K s)):=by
 refine q0g (fn:=qdq) rfl (q0a ?_)
 refine gg rfl (q02 rfl rfl (qat s) ?_)
 repeat' (first
  |refine goP 800 rfl rfl ?_
  |refine q0h rfl ?_|refine q0o rfl ?_|refine q09 rfl (fun _=>?_) (fun _=>?_)
  |refine q0e rfl ?_|refine q0j rfl ?_|refine q01 rfl (fun _=>?_) (fun _=>?_)
  |refine q0L rfl (fun _=>?_) (fun _=>?_)
  |refine q08 rfl rfl rfl trivial ?_)
 cases q1K s<;>simp[eqb]
theorem qrg (s:ByteArray):PU q7b [.lst [],.str s]=some (.int .i64 (-1)):=by
 refine q0g (fn:=q3S) rfl (q0a ?_)
 refine gg rfl (q0l (S:=fun k:Nat=>([.lst [],.str s,q00 0,q00 k],[none,none,none,none],[0,0,0,0])) (C:=fun k=>k=0) (m:=fun k=>0) 0 rfl (by omega) ?_ ?_)
 ·exact q03 rfl trivial rfl
 rintro k rfl N hN
 refine gg rfl (q01 rfl (fun g=>absurd (q06.1 g) (by simp)) (fun _=>?_))
 exact gg rfl (q04 (gg rfl (q08 rfl rfl rfl trivial rfl)))
theorem qjI (s:ByteArray):PU q66 [.lst [],.str s]=some (.bool false):=by
 refine q0g (fn:=q3m) rfl (q0a ?_)
 refine gg rfl (q02 rfl rfl (qrg s) (gg rfl (q08 rfl rfl rfl trivial ?_)))
 rw[q26];rfl
def qjJ (s:ByteArray):D:=.agg [.lst [.str s],.int .i64 0,.lst []]
theorem qAj (s:ByteArray):PU qmi [qjJ s,.int .i64 0]=some (.bool true):=by
 refine q0g (fn:=qbT) rfl (q0a ?_)
 repeat' (first
  |refine goP 800 rfl rfl ?_
  |refine q0h rfl ?_|refine q0o rfl ?_|refine q09 rfl (fun _=>?_) (fun _=>?_)
  |refine q0e rfl ?_|refine q0j rfl ?_|refine q01 rfl (fun _=>?_) (fun _=>?_)
  |refine q0L rfl (fun _=>?_) (fun _=>?_)
  |refine q08 rfl rfl rfl trivial ?_)
 all_goals (first|rfl|(simp_all[q26,q1M];done) |(simp only[q0H,q07]at*;omega))
set_option maxHeartbeats 4000000 in
theorem qpS (s:ByteArray)(hs:s.size≤1000000):PU qqD [qjJ s]=some (.int .i64 (if sizeS s then 0 else 1)):=by
 have hz:=qmx s hs
 refine q0g (fn:=qfz) rfl (q0a ?_)
 refine gg rfl (q09 rfl (fun g=>absurd (q06.1 g) (by simp)) (fun _=>?_))
 refine gg rfl (q01 rfl (fun g=>absurd (q06.1 g) (by simp)) (fun _=>?_))
 refine gg rfl (q01 rfl (fun g=>absurd (q1n.1 g) (by simp)) (fun _=>?_))
 refine gg rfl (q0l (S:=fun k:Nat=>([.ptr 0 0 0,.lst [.str s],q00 1,q00 k],[some (.row [qjJ s] 3),none,none,none],[0,0,0,0])) (C:=fun k=>k≤1∧(k=1→sizeS s=true)) (m:=fun k=>1-k) 0 ⟨by omega,fun h=>by omega⟩ (by omega) ?_ ?_)
 ·exact q03 rfl ⟨rfl,trivial⟩ rfl
 rintro k ⟨hk,hks⟩ N hN
 refine gg rfl (q01 rfl (fun g=>?_) (fun g=>?_))
 ·rw[q06]at g
  obtain rfl:k=0:=by omega
  refine gg rfl (q0i 0 rfl rfl rfl rfl rfl (gg rfl (q02 rfl rfl hz ?_)))
  cases hv:sizeS s with
  |false=>
   exact gg rfl (q0e rfl (gg rfl (q04 (gg rfl (q08 rfl rfl rfl trivial rfl)))))
  |true=>
   refine gg rfl (q0j rfl (gg rfl (q04 (hN 1 ⟨by omega,fun _=>hv⟩ (by omega) (q03 rfl ⟨rfl,trivial⟩ ?_)))))
   have w:IntKind.i64.wrap (((0:Nat):Int)+1)=((1:Nat):Int):=ww
   rw[w];rfl
 rw[q07]at g
 obtain rfl:k=1:=by omega
 clear hN
 rw[hks rfl]
 refine gg rfl (q04 (gg rfl (q0l (S:=fun k:Nat=>([.ptr 0 0 0,.lst [],q00 0,q00 0],[some (.row [qjJ s] 3),none,none,none],[0,0,0,0])) (C:=fun k=>k=0) (m:=fun k=>0) 0 rfl (by omega) ?_ ?_)))
 ·exact q03 rfl ⟨rfl,trivial⟩ rfl
 rintro k rfl N hN
 refine gg rfl (q01 rfl (fun g=>absurd (q06.1 g) (by simp)) (fun _=>?_))
 clear hN
 refine gg rfl (q04 (gg rfl (q0l (S:=fun k:Nat=>([.ptr 0 0 0,.lst [.str s],q00 1,q00 k],[some (.row [qjJ s] 3),none,none,none],[0,0,0,0])) (C:=fun k=>k≤1) (m:=fun k=>1-k) 0 (by omega) (by omega) ?_ ?_)))
 ·exact q03 rfl ⟨rfl,trivial⟩ rfl
 intro k hk N hN
 refine gg rfl (q01 rfl (fun g=>?_) (fun g=>?_))
 ·rw[q06]at g
  obtain rfl:k=0:=by omega
  refine gg rfl (q0i 0 rfl rfl rfl rfl rfl (gg rfl (qcE 0 rfl rfl ⟨_,_,rfl,rfl⟩ (Nat.zero_le _) (gg rfl (q02 rfl rfl (qjI s) (gg rfl (q0j rfl (gg rfl (q04 (hN 1 (by omega) (by omega) (q03 rfl ⟨rfl,trivial⟩ ?_)))))))))))
  have w:IntKind.i64.wrap (((0:Nat):Int)+1)=((1:Nat):Int):=ww
  rw[w];rfl
 rw[q07]at g
 clear hN
 refine gg rfl (q04 (gg rfl (q0l (S:=fun k:Nat=>([.ptr 0 0 0,.lst [],q00 0,q00 0],[some (.row [qjJ s] 3),none,none,none],[0,0,0,0])) (C:=fun k=>k=0) (m:=fun k=>0) 0 rfl (by omega) ?_ ?_)))
 ·exact q03 rfl ⟨rfl,trivial⟩ rfl
 rintro k rfl N hN
 refine gg rfl (q01 rfl (fun g=>absurd (q06.1 g) (by simp)) (fun _=>?_))
 clear hN
 exact gg rfl (q04 (gg rfl (q02 rfl rfl (qAj s) (gg rfl (q0j rfl (gg rfl (q08 rfl rfl rfl trivial rfl)))))))
theorem qmy (s:ByteArray)(hs:s.size≤1000000):PU qoz [.str s]=some (.bool (sizeS s)):=by
 have hz:=qpS s hs
 refine q0g (fn:=qdc) rfl (q0a ?_)
 refine gg rfl (q6L rfl rfl ⟨⟨Nat.le_refl _,rfl⟩,trivial⟩ hz rfl (gg rfl (q08 rfl rfl rfl trivial ?_)))
 cases sizeS s<;>simp[q2c]
theorem qv3 (l:List Int)(v:Int)(hl:l.length≤1000000):PU qb8 [ints l,.int .i64 v]=some (.int .i64 (qdH (fun x=>decide (v=x)) l)):=by
 refine q0g (fn:=q5P) rfl (q0a ?_)
 refine gg rfl ?_
 rw[List.length_map]
 refine q0l (S:=fun k:Nat=>([ints l,.int .i64 v,q00 l.length,q00 k],[none,none,none,none],[0,0,0,0])) (C:=fun k=>k≤l.length∧∀j (hj:j<l.length),j<k→decide (v=l[j])=false) (m:=fun k=>l.length-k) 0 ⟨Nat.zero_le _,fun j _ h=>by omega⟩ (by omega) ?_ ?_
 ·exact q03 rfl trivial (by simp[ints,q00])
 rintro k ⟨hk,hno⟩ N hN
 refine gg rfl (q01 rfl (fun g=>?_) (fun g=>?_))
 ·rw[q06]at g
  have hlt:k<l.length:=by omega
  have w1:=wS (n:=k)
  refine gg rfl (q0i k rfl rfl rfl (q1B hlt) rfl (gg rfl (q01 rfl (fun e=>?_) (fun e=>?_))))
  ·rw[q1n]at e
   refine gg rfl (q04 (gg rfl (q08 rfl rfl rfl trivial ?_)))
   rw[qgb hlt hno (decide_eq_true e)]
  rw[q20]at e
  refine gg rfl (q04 (hN (k+1) ⟨hlt,fun j hj hjk=>?_⟩ (by omega) (q03 rfl trivial (by simp[ints,q00,w1]))))
  by_cases ej:j=k
  ·subst ej;exact decide_eq_false e
  exact hno j hj (by omega)
 rw[q07]at g
 obtain rfl:k=l.length:=by omega
 refine gg rfl (q04 (gg rfl (q08 rfl rfl rfl trivial ?_)))
 rw[qgc fun j hj=>hno j hj hj]
theorem qmz (l:List Int)(v:Int)(hl:l.length≤1000000):PU q8K [ints l,.int .i64 v]=some (.bool (decide (v∈l))):=by
 have h:=qv3 l v hl
 have e:decide (v∈l)=decide (0≤qdH (fun x=>decide (v=x)) l):=by
  rw[qb5]
  rw[Bool.eq_iff_iff]
  simp
 refine q0g (fn:=q4J) rfl (q0a ?_)
 refine gg rfl (q02 rfl rfl h (gg rfl (q08 rfl rfl rfl trivial ?_)))
 rw[e,q26]
end Go.F

namespace Go.F
attribute [local irreducible] IntKind.wrap wpM
section
variable {T:Tab}{sh:Shr}{nx0:Nat}{s:List Fr}{t:q0x}{h:q0d}{z:Frz}{nx:Nat}{q:Ex→q0x→q0d→Frz→Nat→Prop}
variable {base i:Nat}{res:List Nat}{g:Gd}{rest:List KOper}
theorem qHu {zv:D}{x kx:X}{dst:Nat}{m:List (ByteArray×D)}{st:ByteArray}{id:Nat}(hx:x.ev t=.mref id)(hh:g.h base h id=some (.mp (m.map (·.1)) (m.map (·.2))))(hkx:kx.ev t=.str st)
 (hs:∀v,qdW m st=some v→wpM T sh nx0 (.ops base res rest::s) .normal (upd t dst v) h z nx q)
 (hn:qdW m st=none→wpM T sh nx0 (.ops base res rest::s) .normal (upd t dst zv) h z nx q):
 wpM T sh nx0 (.ops base res (⟨i,some dst,none,g,.lookup zv x kx false⟩::rest)::s) .normal t h z nx q:=by
 refine q3u ?_
 have hf:=q9k m st 0
 simp only[kop,qi6,hx,hh,q6m,hkx,qtQ]
 cases hk:findKey st (m.map (·.1)) 0 with
 |none=>rw[hk]at hf;exact hn hf
 |some j=>
  rw[hk]at hf
  obtain⟨_,v,h2,h3⟩:=hf
  exact q9q h2 (hs v h3)
end
theorem qHv {a b:ByteArray}(h:a.toList=b.toList):a=b:=by
 rw[Go.ByteArray.toList_eq,Go.ByteArray.toList_eq]at h
 exact ByteArray.ext (Array.ext' h)
theorem ba_eq2 (a b:ByteArray):(a==b)=(a.toList==b.toList):=by
 have e:(a==b)=(a.data==b.data):=rfl
 rw[e,Bool.eq_iff_iff,beq_iff_eq,beq_iff_eq]
 exact⟨fun h=>by rw[Go.ByteArray.toList_eq,Go.ByteArray.toList_eq,h],fun h=>by rw[qHv h]⟩
def q6Z (l:List ByteArray):List (ByteArray×D):=l.map fun x=>(x,D.bool true)
theorem qAk (l:List ByteArray)(x:ByteArray):q6Z (l++[x])=q6Z l++[(x,.bool true)]:=by simp[q6Z]
theorem qDD (l:List ByteArray)(s:ByteArray):qdW (q6Z l) s=cond (l.any fun x=>x.toList==s.toList) (some (.bool true)) none:=by
 induction l with
 |nil=>rfl
 |cons x l ih=>
  unfold qdW q6Z at*
  simp only[List.map_cons,List.find?_cons,List.any_cons]
  rw[ba_eq2,Bool.beq_comm]
  cases x.toList==s.toList with
  |true=>rfl
  |false=>exact ih
theorem qy2 (l:List ByteArray):((q6Z l).map (·.2)).all (plain 4)=true:=by
 unfold q6Z;rw[List.map_map];exact q05 (fun _=>rfl) _
def q2l (s:Sty):Int:=
 if q1K s.name=false∨s.sizes.length=0 then 1
 else if s.sizes.any (fun x=>!sizeS x)then 1
 else if s.mults.length≠s.sizes.length∨0∉s.mults then 1
 else if q4P s.sizes then 7
 else if 12<s.sizes.length∨12<s.pieces.length∨12<s.uses.length then 5
 else if 24<s.seams.length∨16<s.ops.length then 5
 else if s.mults.any (fun m=>decide (m< -100) ||decide (100<m))then 3 else 0
set_option maxHeartbeats 8000000 in
theorem qrh (s:Sty)(hB:StyB s):PU qgi [s.enc]=some (.int .i64 (q2l s)):=by
 have b1:=hB.sizes
 have b2:=hB.mults
 refine q0g (fn:=q8e) rfl (q0a ?_)
 refine gg rfl (q02 rfl rfl (qcm s.name) ?_)
 cases hn:q1K s.name with
 |false=>
  refine gg rfl (q0h rfl (gg rfl (q0e rfl (gg rfl (q08 rfl rfl rfl trivial ?_)))))
  rw[q2l,if_pos (.inl hn)]
 |true=>
  refine gg rfl (q0o rfl (gg rfl ?_))
  rw[List.length_map]
  refine q01 rfl (fun g=>?_) (fun g=>?_)
  ·rw[q1n]at g
   refine gg rfl (q08 rfl rfl rfl trivial ?_)
   rw[q2l,if_pos (.inr (by omega))]
  rw[q20]at g
  have hc1:¬(q1K s.name=false∨s.sizes.length=0):=by
   rintro(h|h)
   ·rw[hn]at h;cases h
   omega
  refine gg rfl ?_
  rw[List.length_map]
  refine q0l (S:=fun k:Nat=>([.ptr 0 0 0,strs s.sizes,q00 s.sizes.length,q00 k],[some (.row [s.enc] 7),none,none,none],[0,0,0,0])) (C:=fun k=>k≤s.sizes.length∧∀j (hj:j<s.sizes.length),j<k→sizeS s.sizes[j]=true) (m:=fun k=>s.sizes.length-k) 0 ⟨Nat.zero_le _,fun j _ h=>by omega⟩ (by omega) ?_ ?_
  ·exact q03 rfl ⟨rfl,trivial⟩ rfl
  rintro k ⟨hk,hall⟩ N hN
  refine gg rfl (q01 rfl (fun e=>?_) (fun e=>?_))
  ·rw[q06]at e
   have hlt:k<s.sizes.length:=by omega
   have w1:=wS (n:=k)
   have hz:=qmy s.sizes[k] (by have:=hB.size _ (List.getElem_mem hlt);omega)
   refine gg rfl (q0i k rfl rfl rfl (q1B hlt) rfl (gg rfl (q02 rfl rfl hz ?_)))
   cases hv:sizeS s.sizes[k]with
   |false=>
    refine gg rfl (q0e rfl (gg rfl (q04 (gg rfl (q08 rfl rfl rfl trivial ?_)))))
    rw[q2l,if_neg hc1,if_pos (q27 hlt (by rw[hv];rfl))]
   |true=>
    refine gg rfl (q0j rfl (gg rfl (q04 (hN (k+1) ⟨hlt,fun j hj hjk=>?_⟩ (by omega) (q03 rfl ⟨rfl,trivial⟩ (by rw[w1];rfl))))))
    by_cases ej:j=k
    ·subst ej;exact hv
    exact hall j hj (by omega)
  rw[q07]at e
  obtain rfl:k=s.sizes.length:=by omega
  clear hN
  have hc2:¬(s.sizes.any (fun x=>!sizeS x))=true:=by rw[q1W fun j hj=>by rw[hall j hj hj];rfl];decide
  refine gg rfl (q04 (gg rfl ?_))
  rw[List.length_map,List.length_map]
  refine q09 rfl (fun g2=>?_) (fun g2=>?_)
  ·rw[q0u]at g2
   refine gg rfl (q0e rfl (gg rfl (q08 rfl rfl rfl trivial ?_)))
   rw[q2l,if_neg hc1,if_neg hc2,if_pos (.inl (by omega))]
  rw[q0z]at g2
  have g2':s.mults.length=s.sizes.length:=by omega
  refine gg rfl (q02 rfl rfl (qmz s.mults 0 (by omega)) ?_)
  cases hz:decide (0∈s.mults)with
  |false=>
   have hz:=of_decide_eq_false hz
   refine gg rfl (q0e rfl (gg rfl (q08 rfl rfl rfl trivial ?_)))
   rw[q2l,if_neg hc1,if_neg hc2,if_pos (.inr hz)]
  |true=>
   have hz:=of_decide_eq_true hz
   have hc3:¬(s.mults.length≠s.sizes.length∨0∉s.mults):=by
    rintro(h|h)
    ·exact h g2'
    exact h hz
   refine gg rfl (q0j rfl (gg rfl ?_))
   rw[List.length_map]
   refine q0l (S:=fun k:Nat=>([.ptr 0 0 0,.mref 1,strs s.sizes,q00 s.sizes.length,q00 k],[some (.row [s.enc] 7),some (.mp ((q6Z (s.sizes.take k)).map (·.1)) ((q6Z (s.sizes.take k)).map (·.2))),none,none,none],[0,0,0,0,0])) (C:=fun k=>k≤s.sizes.length∧∀i,i<k→((s.sizes.take i).any fun x=>x.toList==(sz s.sizes i).toList)=false) (m:=fun k=>s.sizes.length-k) 0 ⟨Nat.zero_le _,fun j h=>by omega⟩ (by omega) ?_ ?_
   ·exact qB4 (o:=[.p _,.p _]) (kp:=([.ptr 0 0 0,.mref 1,strs s.sizes,q00 s.sizes.length,q00 0],[some (.row [s.enc] 7),some (.mp [] []),none,none,none],[0,0,0,0,0])) [none] rfl ⟨rfl,rfl,trivial⟩ rfl
   rintro k ⟨hk,htw⟩ N hN
   refine gg rfl (q01 rfl (fun e=>?_) (fun e=>?_))
   ·rw[q06]at e
    have hlt:k<s.sizes.length:=by omega
    have w1:=wS (n:=k)
    have hst:q6Z (s.sizes.take (k+1))=q6Z (s.sizes.take k)++[(sz s.sizes k,.bool true)]:=by
     rw[List.take_succ_eq_append_getElem hlt,qAk,qAh hlt]
    have hgt:=qDD (s.sizes.take k) (sz s.sizes k)
    refine gg rfl (q0i k rfl rfl rfl (qAi hlt) rfl (gg rfl (qHu (m:=q6Z (s.sizes.take k)) rfl rfl rfl (fun v hv=>?_) (fun hv=>?_))))
    ·rw[hgt]at hv
     cases ha:((s.sizes.take k).any fun x=>x.toList==(sz s.sizes k).toList)with
     |true=>
      rw[ha]at hv
      cases hv
      refine gg rfl (q0e rfl (gg rfl (q04 (gg rfl (q08 rfl rfl rfl trivial ?_)))))
      have ht:q4P s.sizes=true:=by
       unfold q4P
       rw[List.any_eq_true]
       exact⟨k,List.mem_range.2 hlt,ha⟩
      rw[q2l,if_neg hc1,if_neg hc2,if_neg hc3,if_pos ht]
     |false=>rw[ha]at hv;cases hv
    have ha:((s.sizes.take k).any fun x=>x.toList==(sz s.sizes k).toList)=false:=by
     rw[hgt]at hv
     cases ha:((s.sizes.take k).any fun x=>x.toList==(sz s.sizes k).toList)with
     |true=>rw[ha]at hv;cases hv
     |false=>rfl
    refine gg rfl (q0j rfl (gg rfl (atPut (m:=q6Z (s.sizes.take k)) rfl rfl rfl rfl hv (gg rfl (q04 (hN (k+1) ⟨hlt,fun i hi=>?_⟩ (by omega) (qB4 (o:=[.p [s.enc],.p ((q6Z (s.sizes.take k)++[(sz s.sizes k,D.bool true)]:List (ByteArray×D)).map (·.2))]) (kp:=([.ptr 0 0 0,.mref 1,strs s.sizes,q00 s.sizes.length,.int .i64 (IntKind.i64.wrap ((k:Int)+1))],[some (.row [s.enc] 7),some (.mp ((q6Z (s.sizes.take k)++[(sz s.sizes k,D.bool true)]:List (ByteArray×D)).map (·.1)) ((q6Z (s.sizes.take k)++[(sz s.sizes k,D.bool true)]:List (ByteArray×D)).map (·.2))),none,none,none],[0,0,0,0,0])) [none] rfl ⟨rfl,?_,trivial⟩ ?_)))))))
    ·by_cases ei:i=k
     ·subst ei;exact ha
     exact htw i (by omega)
    ·show List.all ((q6Z (s.sizes.take k)++[(sz s.sizes k,D.bool true)]:List (ByteArray×D)).map (·.2)) _=true
     rw[←hst];exact qy2 _
    rw[w1,hst];rfl
   rw[q07]at e
   obtain rfl:k=s.sizes.length:=by omega
   clear hN
   have hc4:¬q4P s.sizes=true:=by
    unfold q4P
    rw[List.any_eq_true]
    rintro⟨i,hi,h⟩
    rw[htw i (List.mem_range.1 hi)]at h;cases h
   have hw:q2l s=if 12<s.sizes.length∨12<s.pieces.length∨12<s.uses.length then 5
    else if 24<s.seams.length∨16<s.ops.length then 5
    else if s.mults.any (fun m=>decide (m< -100) ||decide (100<m))then 3 else 0:=by
    rw[q2l,if_neg hc1,if_neg hc2,if_neg hc3,if_neg hc4]
   rw[hw]
   refine gg rfl (q04 (gg rfl ?_))
   rw[List.length_map]
   refine q09 rfl (fun g3=>?_) (fun g3=>?_)
   ·rw[q06]at g3
    refine gg rfl (q0h rfl (gg rfl (q0e rfl (gg rfl (q08 rfl rfl rfl trivial ?_)))))
    rw[if_pos (.inl (by omega))]
   rw[q07]at g3
   refine gg rfl ?_
   rw[List.length_map]
   refine q09 rfl (fun g4=>?_) (fun g4=>?_)
   ·rw[q06]at g4
    refine gg rfl (q0e rfl (gg rfl (q08 rfl rfl rfl trivial ?_)))
    rw[if_pos (.inr (.inl (by omega)))]
   rw[q07]at g4
   refine gg rfl ?_
   rw[List.length_map]
   refine q01 rfl (fun g5=>?_) (fun g5=>?_)
   ·rw[q06]at g5
    refine gg rfl (q08 rfl rfl rfl trivial ?_)
    rw[if_pos (.inr (.inr (by omega)))]
   rw[q07]at g5
   rw[if_neg (by omega)]
   refine gg rfl ?_
   rw[List.length_map]
   refine q09 rfl (fun g6=>?_) (fun g6=>?_)
   ·rw[q06]at g6
    refine gg rfl (q0e rfl (gg rfl (q08 rfl rfl rfl trivial ?_)))
    rw[if_pos (.inl (by omega))]
   rw[q07]at g6
   refine gg rfl ?_
   rw[List.length_map]
   refine q01 rfl (fun g7=>?_) (fun g7=>?_)
   ·rw[q06]at g7
    refine gg rfl (q08 rfl rfl rfl trivial ?_)
    rw[if_pos (.inr (by omega))]
   rw[q07]at g7
   rw[if_neg (by omega)]
   refine gg rfl ?_
   rw[List.length_map]
   refine q0l (S:=fun k:Nat=>([ints s.mults,q00 s.mults.length,q00 k],[none,none,none],[0,0,0])) (C:=fun k=>k≤s.mults.length∧∀j (hj:j<s.mults.length),j<k→(decide (s.mults[j]< -100) ||decide (100<s.mults[j]))=false) (m:=fun k=>s.mults.length-k) 0 ⟨Nat.zero_le _,fun j _ h=>by omega⟩ (by omega) ?_ ?_
   ·exact q03 rfl trivial rfl
   rintro k ⟨hk,hm⟩ N hN
   refine gg rfl (q01 rfl (fun e=>?_) (fun e=>?_))
   ·rw[q06]at e
    have hlt:k<s.mults.length:=by omega
    have w1:=wS (n:=k)
    have bad:(decide (s.mults[k]< -100) ||decide (100<s.mults[k]))=true→(s.mults.any fun m=>decide (m< -100) ||decide (100<m))=true:=fun h=>q27 hlt h
    have hx:(s.mults.map q00)[k]?=some (.int .i64 s.mults[k]):=q1B hlt
    refine gg rfl (q0i k rfl rfl rfl hx rfl (gg rfl (q09 rfl (fun f1=>?_) (fun f1=>?_))))
    ·rw[q06]at f1
     refine gg rfl (q0e rfl (gg rfl (q04 (gg rfl (q08 rfl rfl rfl trivial ?_)))))
     rw[if_pos (bad (by simp;omega))]
    rw[q07]at f1
    refine gg rfl (q01 rfl (fun f2=>?_) (fun f2=>?_))
    ·rw[q06]at f2
     refine gg rfl (q04 (gg rfl (q08 rfl rfl rfl trivial ?_)))
     rw[if_pos (bad (by simp;omega))]
    rw[q07]at f2
    refine gg rfl (q04 (hN (k+1) ⟨hlt,fun j hj hjk=>?_⟩ (by omega) (q03 rfl trivial (by rw[w1];rfl))))
    by_cases ej:j=k
    ·subst ej;simp;omega
    exact hm j hj (by omega)
   rw[q07]at e
   obtain rfl:k=s.mults.length:=by omega
   rw[if_neg (by rw[q1W fun j hj=>hm j hj hj];decide)]
   exact gg rfl (q04 (gg rfl (q08 rfl rfl rfl trivial rfl)))
end Go.F

namespace Go.F
attribute [local irreducible] IntKind.wrap wpM
set_option maxHeartbeats 8000000 in
theorem qri (b:List Piece)(p:Piece)(hb:b.length≤1000)(h1:p.corners.length≤1000)(h2:p.widths.length≤1000):PU qgj [Go.F.pieces b,p.enc]=some (.int .i64 (q22 b p)):=by
 refine q0g (fn:=q7Z) rfl (q0a ?_)
 refine gg rfl (q02 rfl rfl (qcm p.name) ?_)
 cases hn:q1K p.name with
 |false=>
  refine gg rfl (q0e rfl (gg rfl (q08 rfl rfl rfl trivial ?_)))
  rw[q22,if_pos hn]
 |true=>
  have hc1:¬q1K p.name=false:=by rw[hn];decide
  refine gg rfl (q0j rfl (gg rfl (q09 rfl (fun g1=>?_) (fun g1=>?_))))
  ·rw[q0u]at g1
   refine gg rfl (q09 rfl (fun g2=>?_) (fun g2=>?_))
   ·rw[q0u]at g2
    refine gg rfl (q01 rfl (fun g3=>?_) (fun g3=>?_))
    ·rw[q0u]at g3
     refine gg rfl (q08 rfl rfl rfl trivial ?_)
     rw[q22,if_neg hc1,if_pos ⟨g1,g2,g3⟩]
    rw[q0z]at g3
    have hc2:¬(p.grain≠1∧p.grain≠2∧p.grain≠4):=fun h=>h.2.2 g3
    refine gg rfl ?_
    rw[List.length_map]
    refine q0l (S:=fun k:Nat=>([.ptr 0 0 0,Go.F.pieces b,q00 b.length,q00 k],[some (.row [p.enc] 7),none,none,none],[0,0,0,0])) (C:=fun k=>k≤b.length∧∀j (hj:j<b.length),j<k→(b[j].name.toList==p.name.toList)=false) (m:=fun k=>b.length-k) 0 ⟨Nat.zero_le _,fun j _ h=>by omega⟩ (by omega) ?_ ?_
    ·exact q03 rfl ⟨rfl,trivial⟩ rfl
    rintro k ⟨hk,hno⟩ N hN
    refine gg rfl (q01 rfl (fun e=>?_) (fun e=>?_))
    ·rw[q06]at e
     have hlt:k<b.length:=by omega
     have w1:=wS (n:=k)
     refine gg rfl (q0i k rfl rfl rfl (q1B hlt) rfl (gg rfl (q01 rfl (fun f=>?_) (fun f=>?_))))
     ·refine gg rfl (q04 (gg rfl (q08 rfl rfl rfl trivial ?_)))
      rw[q22,if_neg hc1,if_neg hc2,if_pos (q27 hlt f)]
     refine gg rfl (q04 (hN (k+1) ⟨hlt,fun j hj hjk=>?_⟩ (by omega) (q03 rfl ⟨rfl,trivial⟩ (by rw[w1];rfl))))
     by_cases ej:j=k
     ·subst ej;exact f
     exact hno j hj (by omega)
    rw[q07]at e
    obtain rfl:k=b.length:=by omega
    clear hN
    have hc3:¬(b.any fun o=>o.name.toList==p.name.toList)=true:=by rw[q1W fun j hj=>hno j hj hj];decide
    have hw:q22 b p=if(q0q p 0).2≠0 then(q0q p 0).2
     else if(q0R p 0).2≠0 then(q0R p 0).2
     else if p.widths.length≠p.edges.length then 1
     else if p.widths.any q2h then 3 else 0:=by rw[q22,if_neg hc1,if_neg hc2,if_neg hc3]
    rw[hw]
    refine gg rfl (q04 (gg rfl (q02 rfl rfl (q5E p 0 (by omega)) ?_)))
    refine gg rfl (q01 rfl (fun f=>?_) (fun f=>?_))
    ·rw[q0u]at f
     refine gg rfl (q08 rfl rfl rfl trivial ?_)
     rw[if_pos f]
    rw[q0z]at f
    rw[if_neg (by simp[f])]
    refine gg rfl (q02 rfl rfl (qav p 0 (by omega)) ?_)
    refine gg rfl (q01 rfl (fun f2=>?_) (fun f2=>?_))
    ·rw[q0u]at f2
     refine gg rfl (q08 rfl rfl rfl trivial ?_)
     rw[if_pos f2]
    rw[q0z]at f2
    rw[if_neg (by simp[f2])]
    refine gg rfl ?_
    rw[List.length_map,List.length_map]
    refine q01 rfl (fun f3=>?_) (fun f3=>?_)
    ·rw[q0u]at f3
     refine gg rfl (q08 rfl rfl rfl trivial ?_)
     rw[if_pos (by omega)]
    rw[q0z]at f3
    rw[if_neg (by omega)]
    refine gg rfl ?_
    rw[List.length_map]
    refine q0l (S:=fun k:Nat=>([ints p.widths,q00 p.widths.length,q00 k],[none,none,none],[0,0,0])) (C:=fun k=>k≤p.widths.length∧∀j (hj:j<p.widths.length),j<k→q2h p.widths[j]=false) (m:=fun k=>p.widths.length-k) 0 ⟨Nat.zero_le _,fun j _ h=>by omega⟩ (by omega) ?_ ?_
    ·exact q03 rfl trivial rfl
    rintro k ⟨hk,hm⟩ N hN
    refine gg rfl (q01 rfl (fun e=>?_) (fun e=>?_))
    ·rw[q06]at e
     have hlt:k<p.widths.length:=by omega
     have w1:=wS (n:=k)
     have bad:q2h p.widths[k]=true→p.widths.any q2h=true:=fun h=>q27 hlt h
     have hx:(p.widths.map q00)[k]?=some (.int .i64 p.widths[k]):=q1B hlt
     refine gg rfl (q0i k rfl rfl rfl hx rfl (gg rfl (q09 rfl (fun f1=>?_) (fun f1=>?_))))
     ·rw[q06]at f1
      refine gg rfl (q0e rfl (gg rfl (q04 (gg rfl (q08 rfl rfl rfl trivial ?_)))))
      rw[if_pos (bad (by simp[q2h];omega))]
     rw[q07]at f1
     refine gg rfl (q01 rfl (fun f2=>?_) (fun f2=>?_))
     ·rw[q06]at f2
      refine gg rfl (q04 (gg rfl (q08 rfl rfl rfl trivial ?_)))
      rw[if_pos (bad (by simp[q2h];omega))]
     rw[q07]at f2
     refine gg rfl (q04 (hN (k+1) ⟨hlt,fun j hj hjk=>?_⟩ (by omega) (q03 rfl trivial (by rw[w1];rfl))))
     by_cases ej:j=k
     ·subst ej;simp[q2h];omega
     exact hm j hj (by omega)
    rw[q07]at e
    obtain rfl:k=p.widths.length:=by omega
    rw[if_neg (by rw[q1W fun j hj=>hm j hj hj];decide)]
    exact gg rfl (q04 (gg rfl (q08 rfl rfl rfl trivial rfl)))
   rw[q0z]at g2
   have hc2:¬(p.grain≠1∧p.grain≠2∧p.grain≠4):=fun h=>h.2.1 g2
   refine gg rfl (q0j rfl (gg rfl ?_))
   rw[List.length_map]
   refine q0l (S:=fun k:Nat=>([.ptr 0 0 0,Go.F.pieces b,q00 b.length,q00 k],[some (.row [p.enc] 7),none,none,none],[0,0,0,0])) (C:=fun k=>k≤b.length∧∀j (hj:j<b.length),j<k→(b[j].name.toList==p.name.toList)=false) (m:=fun k=>b.length-k) 0 ⟨Nat.zero_le _,fun j _ h=>by omega⟩ (by omega) ?_ ?_
   ·exact q03 rfl ⟨rfl,trivial⟩ rfl
   rintro k ⟨hk,hno⟩ N hN
   refine gg rfl (q01 rfl (fun e=>?_) (fun e=>?_))
   ·rw[q06]at e
    have hlt:k<b.length:=by omega
    have w1:=wS (n:=k)
    refine gg rfl (q0i k rfl rfl rfl (q1B hlt) rfl (gg rfl (q01 rfl (fun f=>?_) (fun f=>?_))))
    ·refine gg rfl (q04 (gg rfl (q08 rfl rfl rfl trivial ?_)))
     rw[q22,if_neg hc1,if_neg hc2,if_pos (q27 hlt f)]
    refine gg rfl (q04 (hN (k+1) ⟨hlt,fun j hj hjk=>?_⟩ (by omega) (q03 rfl ⟨rfl,trivial⟩ (by rw[w1];rfl))))
    by_cases ej:j=k
    ·subst ej;exact f
    exact hno j hj (by omega)
   rw[q07]at e
   obtain rfl:k=b.length:=by omega
   clear hN
   have hc3:¬(b.any fun o=>o.name.toList==p.name.toList)=true:=by rw[q1W fun j hj=>hno j hj hj];decide
   have hw:q22 b p=if(q0q p 0).2≠0 then(q0q p 0).2
    else if(q0R p 0).2≠0 then(q0R p 0).2
    else if p.widths.length≠p.edges.length then 1
    else if p.widths.any q2h then 3 else 0:=by rw[q22,if_neg hc1,if_neg hc2,if_neg hc3]
   rw[hw]
   refine gg rfl (q04 (gg rfl (q02 rfl rfl (q5E p 0 (by omega)) ?_)))
   refine gg rfl (q01 rfl (fun f=>?_) (fun f=>?_))
   ·rw[q0u]at f
    refine gg rfl (q08 rfl rfl rfl trivial ?_)
    rw[if_pos f]
   rw[q0z]at f
   rw[if_neg (by simp[f])]
   refine gg rfl (q02 rfl rfl (qav p 0 (by omega)) ?_)
   refine gg rfl (q01 rfl (fun f2=>?_) (fun f2=>?_))
   ·rw[q0u]at f2
    refine gg rfl (q08 rfl rfl rfl trivial ?_)
    rw[if_pos f2]
   rw[q0z]at f2
   rw[if_neg (by simp[f2])]
   refine gg rfl ?_
   rw[List.length_map,List.length_map]
   refine q01 rfl (fun f3=>?_) (fun f3=>?_)
   ·rw[q0u]at f3
    refine gg rfl (q08 rfl rfl rfl trivial ?_)
    rw[if_pos (by omega)]
   rw[q0z]at f3
   rw[if_neg (by omega)]
   refine gg rfl ?_
   rw[List.length_map]
   refine q0l (S:=fun k:Nat=>([ints p.widths,q00 p.widths.length,q00 k],[none,none,none],[0,0,0])) (C:=fun k=>k≤p.widths.length∧∀j (hj:j<p.widths.length),j<k→q2h p.widths[j]=false) (m:=fun k=>p.widths.length-k) 0 ⟨Nat.zero_le _,fun j _ h=>by omega⟩ (by omega) ?_ ?_
   ·exact q03 rfl trivial rfl
   rintro k ⟨hk,hm⟩ N hN
   refine gg rfl (q01 rfl (fun e=>?_) (fun e=>?_))
   ·rw[q06]at e
    have hlt:k<p.widths.length:=by omega
    have w1:=wS (n:=k)
    have bad:q2h p.widths[k]=true→p.widths.any q2h=true:=fun h=>q27 hlt h
    have hx:(p.widths.map q00)[k]?=some (.int .i64 p.widths[k]):=q1B hlt
    refine gg rfl (q0i k rfl rfl rfl hx rfl (gg rfl (q09 rfl (fun f1=>?_) (fun f1=>?_))))
    ·rw[q06]at f1
     refine gg rfl (q0e rfl (gg rfl (q04 (gg rfl (q08 rfl rfl rfl trivial ?_)))))
     rw[if_pos (bad (by simp[q2h];omega))]
    rw[q07]at f1
    refine gg rfl (q01 rfl (fun f2=>?_) (fun f2=>?_))
    ·rw[q06]at f2
     refine gg rfl (q04 (gg rfl (q08 rfl rfl rfl trivial ?_)))
     rw[if_pos (bad (by simp[q2h];omega))]
    rw[q07]at f2
    refine gg rfl (q04 (hN (k+1) ⟨hlt,fun j hj hjk=>?_⟩ (by omega) (q03 rfl trivial (by rw[w1];rfl))))
    by_cases ej:j=k
    ·subst ej;simp[q2h];omega
    exact hm j hj (by omega)
   rw[q07]at e
   obtain rfl:k=p.widths.length:=by omega
   rw[if_neg (by rw[q1W fun j hj=>hm j hj hj];decide)]
   exact gg rfl (q04 (gg rfl (q08 rfl rfl rfl trivial rfl)))
  rw[q0z]at g1
  have hc2:¬(p.grain≠1∧p.grain≠2∧p.grain≠4):=fun h=>h.1 g1
  refine gg rfl (q0o rfl (gg rfl (q0j rfl (gg rfl ?_))))
  rw[List.length_map]
  refine q0l (S:=fun k:Nat=>([.ptr 0 0 0,Go.F.pieces b,q00 b.length,q00 k],[some (.row [p.enc] 7),none,none,none],[0,0,0,0])) (C:=fun k=>k≤b.length∧∀j (hj:j<b.length),j<k→(b[j].name.toList==p.name.toList)=false) (m:=fun k=>b.length-k) 0 ⟨Nat.zero_le _,fun j _ h=>by omega⟩ (by omega) ?_ ?_
  ·exact q03 rfl ⟨rfl,trivial⟩ rfl
  rintro k ⟨hk,hno⟩ N hN
  refine gg rfl (q01 rfl (fun e=>?_) (fun e=>?_))
  ·rw[q06]at e
   have hlt:k<b.length:=by omega
   have w1:=wS (n:=k)
   refine gg rfl (q0i k rfl rfl rfl (q1B hlt) rfl (gg rfl (q01 rfl (fun f=>?_) (fun f=>?_))))
   ·refine gg rfl (q04 (gg rfl (q08 rfl rfl rfl trivial ?_)))
    rw[q22,if_neg hc1,if_neg hc2,if_pos (q27 hlt f)]
   refine gg rfl (q04 (hN (k+1) ⟨hlt,fun j hj hjk=>?_⟩ (by omega) (q03 rfl ⟨rfl,trivial⟩ (by rw[w1];rfl))))
   by_cases ej:j=k
   ·subst ej;exact f
   exact hno j hj (by omega)
  rw[q07]at e
  obtain rfl:k=b.length:=by omega
  clear hN
  have hc3:¬(b.any fun o=>o.name.toList==p.name.toList)=true:=by rw[q1W fun j hj=>hno j hj hj];decide
  have hw:q22 b p=if(q0q p 0).2≠0 then(q0q p 0).2
   else if(q0R p 0).2≠0 then(q0R p 0).2
   else if p.widths.length≠p.edges.length then 1
   else if p.widths.any q2h then 3 else 0:=by rw[q22,if_neg hc1,if_neg hc2,if_neg hc3]
  rw[hw]
  refine gg rfl (q04 (gg rfl (q02 rfl rfl (q5E p 0 (by omega)) ?_)))
  refine gg rfl (q01 rfl (fun f=>?_) (fun f=>?_))
  ·rw[q0u]at f
   refine gg rfl (q08 rfl rfl rfl trivial ?_)
   rw[if_pos f]
  rw[q0z]at f
  rw[if_neg (by simp[f])]
  refine gg rfl (q02 rfl rfl (qav p 0 (by omega)) ?_)
  refine gg rfl (q01 rfl (fun f2=>?_) (fun f2=>?_))
  ·rw[q0u]at f2
   refine gg rfl (q08 rfl rfl rfl trivial ?_)
   rw[if_pos f2]
  rw[q0z]at f2
  rw[if_neg (by simp[f2])]
  refine gg rfl ?_
  rw[List.length_map,List.length_map]
  refine q01 rfl (fun f3=>?_) (fun f3=>?_)
  ·rw[q0u]at f3
   refine gg rfl (q08 rfl rfl rfl trivial ?_)
   rw[if_pos (by omega)]
  rw[q0z]at f3
  rw[if_neg (by omega)]
  refine gg rfl ?_
  rw[List.length_map]
  refine q0l (S:=fun k:Nat=>([ints p.widths,q00 p.widths.length,q00 k],[none,none,none],[0,0,0])) (C:=fun k=>k≤p.widths.length∧∀j (hj:j<p.widths.length),j<k→q2h p.widths[j]=false) (m:=fun k=>p.widths.length-k) 0 ⟨Nat.zero_le _,fun j _ h=>by omega⟩ (by omega) ?_ ?_
  ·exact q03 rfl trivial rfl
  rintro k ⟨hk,hm⟩ N hN
  refine gg rfl (q01 rfl (fun e=>?_) (fun e=>?_))
  ·rw[q06]at e
   have hlt:k<p.widths.length:=by omega
   have w1:=wS (n:=k)
   have bad:q2h p.widths[k]=true→p.widths.any q2h=true:=fun h=>q27 hlt h
   have hx:(p.widths.map q00)[k]?=some (.int .i64 p.widths[k]):=q1B hlt
   refine gg rfl (q0i k rfl rfl rfl hx rfl (gg rfl (q09 rfl (fun f1=>?_) (fun f1=>?_))))
   ·rw[q06]at f1
    refine gg rfl (q0e rfl (gg rfl (q04 (gg rfl (q08 rfl rfl rfl trivial ?_)))))
    rw[if_pos (bad (by simp[q2h];omega))]
   rw[q07]at f1
   refine gg rfl (q01 rfl (fun f2=>?_) (fun f2=>?_))
   ·rw[q06]at f2
    refine gg rfl (q04 (gg rfl (q08 rfl rfl rfl trivial ?_)))
    rw[if_pos (bad (by simp[q2h];omega))]
   rw[q07]at f2
   refine gg rfl (q04 (hN (k+1) ⟨hlt,fun j hj hjk=>?_⟩ (by omega) (q03 rfl trivial (by rw[w1];rfl))))
   by_cases ej:j=k
   ·subst ej;simp[q2h];omega
   exact hm j hj (by omega)
  rw[q07]at e
  obtain rfl:k=p.widths.length:=by omega
  rw[if_neg (by rw[q1W fun j hj=>hm j hj hj];decide)]
  exact gg rfl (q04 (gg rfl (q08 rfl rfl rfl trivial rfl)))
theorem qsI (s:Sty)(p e:Int):PU qou [s.enc,.int .i64 p,.int .i64 e]=some (.bool (q2b s p e)):=by
 refine q0g (fn:=qdo) rfl (q0a ?_)
 refine gg rfl (q09 rfl (fun g1=>?_) (fun g1=>?_))
 ·rw[q0G]at g1
  refine gg rfl ?_
  rw[List.length_map]
  refine q09 rfl (fun g2=>?_) (fun g2=>?_)
  ·rw[q06]at g2
   refine gg rfl (q09 rfl (fun g3=>?_) (fun g3=>?_))
   ·rw[q0G]at g3
    refine gg rfl (q0i p.toNat rfl rfl (by omega) (q5w (by omega)) rfl ?_)
    refine gg rfl (q08 rfl rfl rfl trivial ?_)
    rw[q2b,decide_eq_true g1,decide_eq_true g2,decide_eq_true g3,q1M,List.length_map];rfl
   rw[q0H]at g3
   refine gg rfl (q08 rfl rfl rfl trivial ?_)
   rw[q2b,decide_eq_false (show¬0≤e by omega)];simp
  rw[q07]at g2
  refine gg rfl (q0o rfl (gg rfl (q08 rfl rfl rfl trivial ?_)))
  rw[q2b,decide_eq_false (show¬p<s.pieces.length by omega)];simp
 rw[q0H]at g1
 refine gg rfl (q0o rfl (gg rfl (q0o rfl (gg rfl (q08 rfl rfl rfl trivial ?_)))))
 rw[q2b,decide_eq_false (show¬0≤p by omega)];rfl
def q1V (n:Nat)(u:Use):Bool:=decide (u.piece<0) ||(decide ((n:Int)≤u.piece) ||(decide (u.count<1) ||decide (4<u.count)))
def q6d (s:Sty)(m:Sew):Int:=if q2b s m.pa m.ea=false∨q2b s m.pb m.eb=false then 3 else if m.ease<0 then 1 else 0
def q45 (s:Sty)(i:Nat):Int:=q6d s (sw s.seams i)
def q2C (s:Sty):Int:=
 if q2l s≠0 then q2l s
 else if q0E (q2p s) s.pieces.length≠0 then q0E (q2p s) s.pieces.length
 else if s.uses.any (q1V s.pieces.length)then 3
 else q0E (q45 s) s.seams.length
set_option maxHeartbeats 8000000 in
theorem q3t (s:Sty)(hB:StyB s):PU qqr [s.enc]=some (.int .i64 (q2C s)):=by
 have b1:=hB.pieces
 have b2:=hB.uses
 have b3:=hB.seams
 refine q0g (fn:=qeX) rfl (q0a ?_)
 refine gg rfl (q02 rfl rfl (qrh s hB) (gg rfl (q01 rfl (fun g=>?_) (fun g=>?_))))
 ·rw[q0u]at g
  refine gg rfl (q08 rfl rfl rfl trivial ?_)
  rw[q2C,if_pos g]
 have g:q2l s=0:=q0z.1 g
 have hw:q2C s=if q0E (q2p s) s.pieces.length≠0 then q0E (q2p s) s.pieces.length
  else if s.uses.any (q1V s.pieces.length)then 3
  else q0E (q45 s) s.seams.length:=by rw[q2C,if_neg (by simp[g])]
 rw[hw]
 refine gg rfl ?_
 rw[List.length_map]
 refine q0l (S:=fun k:Nat=>([.ptr 0 0 0,Go.F.pieces s.pieces,q00 s.pieces.length,q00 k],[some (.row [s.enc] 7),none,none,none],[0,0,0,0])) (C:=fun k=>k≤s.pieces.length∧q0E (q2p s) k=0) (m:=fun k=>s.pieces.length-k) 0 ⟨Nat.zero_le _,rfl⟩ (by omega) ?_ ?_
 ·exact q03 rfl ⟨rfl,trivial⟩ rfl
 rintro k ⟨hk,h0⟩ N hN
 refine gg rfl (q01 rfl (fun e=>?_) (fun e=>?_))
 ·rw[q06]at e
  have hlt:k<s.pieces.length:=by omega
  have w1:=wS (n:=k)
  have hp:=qri (s.pieces.take k) (pc s.pieces k) (by rw[List.length_take];omega) (hB.corners _ (q9G hlt)) (hB.widths _ (q9G hlt))
  refine gg rfl (q0i k rfl rfl rfl (q5w hlt) rfl (gg rfl (qcE k rfl (q1x (n:=7) (fun _=>rfl) _) ⟨_,_,rfl,rfl⟩ (by rw[List.length_map];omega) ?_)))
  rw[←List.map_take]
  refine gg rfl (q02 rfl rfl hp (gg rfl (q01 rfl (fun f=>?_) (fun f=>?_))))
  ·rw[q0u]at f
   refine gg rfl (q04 (gg rfl (q08 rfl rfl rfl trivial ?_)))
   have f':q2p s k≠0:=f
   have hf:=q3w (f:=q2p s) h0 f' hlt
   rw[hf,if_pos f'];rfl
  rw[q0z]at f
  exact gg rfl (q04 (hN (k+1) ⟨hlt,q2n h0 f⟩ (by omega) (q03 rfl ⟨rfl,trivial⟩ (by rw[w1];rfl))))
 rw[q07]at e
 obtain rfl:k=s.pieces.length:=by omega
 clear hN
 rw[if_neg (by simp[h0])]
 refine gg rfl (q04 (gg rfl ?_))
 rw[List.length_map]
 refine q0l (S:=fun k:Nat=>([.ptr 0 0 0,Go.F.uses s.uses,q00 s.uses.length,q00 k],[some (.row [s.enc] 7),none,none,none],[0,0,0,0])) (C:=fun k=>k≤s.uses.length∧∀j (hj:j<s.uses.length),j<k→q1V s.pieces.length s.uses[j]=false) (m:=fun k=>s.uses.length-k) 0 ⟨Nat.zero_le _,fun j _ h=>by omega⟩ (by omega) ?_ ?_
 ·exact q03 rfl ⟨rfl,trivial⟩ rfl
 rintro k ⟨hk,hu⟩ N hN
 refine gg rfl (q01 rfl (fun e=>?_) (fun e=>?_))
 ·rw[q06]at e
  have hlt:k<s.uses.length:=by omega
  have w1:=wS (n:=k)
  have hx:(s.uses.map Use.enc)[k]?=some s.uses[k].enc:=q1B hlt
  have bad:q1V s.pieces.length s.uses[k]=true→s.uses.any (q1V s.pieces.length)=true:=fun h=>q27 hlt h
  have hnx:q1V s.pieces.length s.uses[k]=false→∀j (hj:j<s.uses.length),j<k+1→q1V s.pieces.length s.uses[j]=false:=by
   intro h j hj hjk
   by_cases ej:j=k
   ·subst ej;exact h
   exact hu j hj (by omega)
  generalize s.uses[k]=u at*
  refine gg rfl (q0i k rfl rfl rfl hx rfl (gg rfl (q09 rfl (fun f1=>?_) (fun f1=>?_))))
  ·rw[q06]at f1
   refine gg rfl (q0h rfl (gg rfl (q0h rfl (gg rfl (q0e rfl (gg rfl (q04 (gg rfl (q08 rfl rfl rfl trivial ?_)))))))))
   rw[if_pos (bad (by simp[q1V];omega))]
  rw[q07]at f1
  refine gg rfl ?_
  rw[List.length_map]
  refine q09 rfl (fun f2=>?_) (fun f2=>?_)
  ·rw[q0G]at f2
   refine gg rfl (q0h rfl (gg rfl (q0e rfl (gg rfl (q04 (gg rfl (q08 rfl rfl rfl trivial ?_)))))))
   rw[if_pos (bad (by simp[q1V];omega))]
  rw[q0H]at f2
  refine gg rfl (q09 rfl (fun f3=>?_) (fun f3=>?_))
  ·rw[q06]at f3
   refine gg rfl (q0e rfl (gg rfl (q04 (gg rfl (q08 rfl rfl rfl trivial ?_)))))
   rw[if_pos (bad (by simp[q1V];omega))]
  rw[q07]at f3
  refine gg rfl (q01 rfl (fun f4=>?_) (fun f4=>?_))
  ·rw[q06]at f4
   refine gg rfl (q04 (gg rfl (q08 rfl rfl rfl trivial ?_)))
   rw[if_pos (bad (by simp[q1V];omega))]
  rw[q07]at f4
  exact gg rfl (q04 (hN (k+1) ⟨hlt,hnx (by simp[q1V];omega)⟩ (by omega) (q03 rfl ⟨rfl,trivial⟩ (by rw[w1];rfl))))
 rw[q07]at e
 obtain rfl:k=s.uses.length:=by omega
 clear hN
 rw[if_neg (by rw[q1W fun j hj=>hu j hj hj];decide)]
 refine gg rfl (q04 (gg rfl ?_))
 rw[List.length_map]
 refine q0l (S:=fun k:Nat=>([.ptr 0 0 0,quY s.seams,q00 s.seams.length,q00 k],[some (.row [s.enc] 7),none,none,none],[0,0,0,0])) (C:=fun k=>k≤s.seams.length∧q0E (q45 s) k=0) (m:=fun k=>s.seams.length-k) 0 ⟨Nat.zero_le _,rfl⟩ (by omega) ?_ ?_
 ·exact q03 rfl ⟨rfl,trivial⟩ rfl
 rintro k ⟨hk,h0⟩ N hN
 refine gg rfl (q01 rfl (fun e=>?_) (fun e=>?_))
 ·rw[q06]at e
  have hlt:k<s.seams.length:=by omega
  have w1:=wS (n:=k)
  have hx:=qv1 hlt
  have bad:∀x,q6d s (sw s.seams k)=x→x≠0→q0E (q45 s) s.seams.length=x:=by
   intro x h hx0
   have:=q3w (f:=q45 s) h0 (by show q6d s (sw s.seams k)≠0;rw[h];exact hx0) hlt
   rw[this];exact h
  have good:q6d s (sw s.seams k)=0→q0E (q45 s) (k+1)=0:=fun h=>q2n h0 h
  generalize sw s.seams k=m at*
  have e1:=qsI s m.pa m.ea
  have e2:=qsI s m.pb m.eb
  refine gg rfl (q0i k rfl rfl rfl hx rfl (gg rfl (q02 rfl rfl e1 ?_)))
  cases ha:q2b s m.pa m.ea with
  |false=>
   refine gg rfl (q0h rfl (gg rfl (q0e rfl (gg rfl (q04 (gg rfl (q08 rfl rfl rfl trivial ?_)))))))
   rw[bad 3 (by rw[q6d,if_pos (.inl ha)]) (by decide)]
  |true=>
   refine gg rfl (q0o rfl (gg rfl (q02 rfl rfl e2 ?_)))
   cases hb:q2b s m.pb m.eb with
   |false=>
    refine gg rfl (q0e rfl (gg rfl (q04 (gg rfl (q08 rfl rfl rfl trivial ?_)))))
    rw[bad 3 (by rw[q6d,if_pos (.inr hb)]) (by decide)]
   |true=>
    have hn:¬(q2b s m.pa m.ea=false∨q2b s m.pb m.eb=false):=by rw[ha,hb];simp
    refine gg rfl (q0j rfl (gg rfl (q01 rfl (fun f=>?_) (fun f=>?_))))
    ·rw[q06]at f
     refine gg rfl (q04 (gg rfl (q08 rfl rfl rfl trivial ?_)))
     rw[bad 1 (by rw[q6d,if_neg hn,if_pos f]) (by decide)]
    rw[q07]at f
    exact gg rfl (q04 (hN (k+1) ⟨hlt,good (by rw[q6d,if_neg hn,if_neg (by omega)])⟩ (by omega) (q03 rfl ⟨rfl,trivial⟩ (by rw[w1];rfl))))
 rw[q07]at e
 obtain rfl:k=s.seams.length:=by omega
 refine gg rfl (q04 (gg rfl (q08 rfl rfl rfl trivial ?_)))
 rw[h0]
end Go.F

namespace Go.F
attribute [local irreducible] IntKind.wrap wpM
theorem qiE {s:Sty}(h:q2C s=0):StyOk s:=by
 unfold q2C at h
 split at h
 ·rename_i h1;exact absurd h h1
 rename_i h1
 split at h
 ·rename_i h2;exact absurd h h2
 rename_i h2
 split at h
 ·cases h
 rename_i h3
 have h1:q2l s=0:=by simpa using h1
 have h2:q0E (q2p s) s.pieces.length=0:=by simpa using h2
 unfold q2l at h1
 split at h1
 ·cases h1
 split at h1
 ·cases h1
 split at h1
 ·cases h1
 split at h1
 ·cases h1
 split at h1
 ·cases h1
 split at h1
 ·cases h1
 split at h1
 ·cases h1
 rename_i g1 g2 g3 g4 g5 g6 g7
 refine⟨by omega,by omega,by omega,by omega,by omega,by omega,fun u hu=>?_,fun i hi=>q18 h2 hi,fun m hm=>?_,?_⟩
 ·have hb:q1V s.pieces.length u=false:=by
   cases hb:q1V s.pieces.length u with
   |false=>rfl
   |true=>exact absurd (List.any_eq_true.2 ⟨u,hu,hb⟩) h3
  simp[q1V]at hb
  omega
 ·have hb:(decide (m< -100) ||decide (100<m))=false:=by
   cases hb:(decide (m< -100) ||decide (100<m))with
   |false=>rfl
   |true=>exact absurd (List.any_eq_true.2 ⟨m,hm,hb⟩) g7
  simp at hb
  omega
 rcases Classical.em (0∈s.mults)with h|h
 ·exact h
 exact absurd (.inr h) g3
end Go.F

namespace Go.F
theorem q5v {s:Sty}(h:q2C s=0):q2l s=0∧q0E (q2p s) s.pieces.length=0∧s.uses.any (q1V s.pieces.length)=false∧q0E (q45 s) s.seams.length=0:=by
 unfold q2C at h
 split at h
 ·rename_i h1;exact absurd h h1
 rename_i h1
 split at h
 ·rename_i h2;exact absurd h h2
 rename_i h2
 split at h
 ·cases h
 rename_i h3
 exact⟨by simpa using h1,by simpa using h2,by simpa using h3,h⟩
end Go.F

namespace Go.F
attribute [local irreducible] IntKind.wrap wpM
def qem (p:Piece)(m:Int):Int:=max (q16 (q0n (q0q p m).1)) (-q16 (q0n (q0q p m).1))
def qbt (p:Piece):List Int→Int
 |[]=>0
 |m::l=>if(q0q p m).2=0 then qbt p l else(q0q p m).2
def qq8 (p:Piece)(l:List Int):List Int×Int:=if qbt p l≠0 then([],qbt p l)else(l.map (qem p),0)
theorem qGl (q:List Spot): -70368744177664000≤q16 q∧q16 q≤70368744177664000:=by
 unfold q16
 split
 ·rename_i h
  obtain⟨_,h40,ho,_⟩:=q14 h
  have hb:=qas q q.length
  have h1:=hb.lo
  have h2:=hb.hi
  have:(q.length*35184372088832:Nat)≤40*35184372088832:=Nat.mul_le_mul_right _ h40
  have e:qar q=q2x q q.length:=rfl
  rw[e]
  omega
 omega
theorem qAw {p:Piece}{m:Int}(h:(q0q p m).2=0):q0J (q0q p m).1=0:=(q2s h).2.2.1
set_option maxHeartbeats 2000000 in
theorem qGm (p:Piece)(l:List Int)(hc:p.corners.length≤1000000)(hl:l.length≤1000000):PU qqt [p.enc,ints l]=some (.tup [ints (qq8 p l).1,.int .i64 (qq8 p l).2]):=by
 unfold qq8
 have hn:∀{x:Int} {P:Prop},nqb x x=true→P:=fun h=>absurd rfl (q0u.1 h)
 refine q0g (fn:=qfx) rfl (q0a ?_)
 refine gg rfl ?_
 rw[List.length_map]
 refine q0l (S:=fun k:Nat=>([.ptr 0 0 0,.ref 1 0 k,ints l,q00 l.length,q00 k],[some (.row [p.enc] 7),some (.row (((l.take k).map (qem p)).map q00) 1),none,none,none],[0,0,0,0,0])) (C:=fun k=>k≤l.length∧qbt p l=qbt p (l.drop k)) (m:=fun k=>l.length-k) 0 ⟨Nat.zero_le _,rfl⟩ (by omega) ?_ ?_
 ·exact q03 rfl ⟨rfl,rfl,trivial⟩ rfl
 rintro k ⟨hk,hke⟩ N hN
 refine gg rfl (q01 rfl (fun e=>?_) (fun e=>?_))
 ·rw[q06]at e
  have hlt:k<l.length:=by omega
  have w1:=wS (n:=k)
  have hdr:l.drop k=mu l k::l.drop (k+1):=by rw[List.drop_eq_getElem_cons hlt,qv2 hlt]
  have hst:(((l.take (k+1)).map (qem p)).map q00)=((l.take k).map (qem p)).map q00++[q00 (qem p (mu l k))]:=by
   rw[List.take_succ_eq_append_getElem hlt,List.map_append,List.map_append,qv2 hlt];rfl
  have hx:=q9H hlt
  rw[hdr,qbt]at hke
  generalize mu l k=m at*
  have hg:=q5E p m hc
  have hbd:=qGl (q0n (q0q p m).1)
  have hmx:qem p m=max (q16 (q0n (q0q p m).1)) (-q16 (q0n (q0q p m).1)):=rfl
  have hp:=q5q (q0q p m).1
  have ha:=qw5 (q0n (q0q p m).1)
  have w2:IntKind.i64.wrap (0-q16 (q0n (q0q p m).1))= -q16 (q0n (q0q p m).1):=by rw[wrap64 (by omega) (by omega)];omega
  have w3:=ww (x:= -q16 (q0n (q0q p m).1))
  refine gg rfl (q0i k rfl rfl rfl hx rfl (gg rfl (q02 rfl rfl hg (gg rfl (q01 rfl (fun f=>?_) (fun f=>?_))))))
  ·rw[q0u]at f
   rw[if_neg f]at hke
   refine gg rfl (q04 (gg rfl (q08 rfl rfl rfl trivial ?_)))
   rw[hke,if_pos f];rfl
  rw[q0z]at f
  rw[if_pos f]at hke
  rw[q9f,if_pos (qAw f)]at hp
  refine gg rfl (q02 rfl rfl hp (gg rfl (q01 rfl hn (fun _=>?_))))
  refine gg rfl (q02 rfl rfl ha (gg rfl ?_))
  first|rw[w2] |rw[w3]
  rw[←hmx]
  refine q1f rfl rfl rfl rfl rfl rfl (by simp;omega) (Nat.zero_le _) (by simp[q0M];omega) ?_
  refine gg rfl (q04 (hN (k+1) ⟨hlt,hke⟩ (by omega) (q03 rfl ⟨rfl,?_,trivial⟩ ?_)))
  ·rw[List.all_append,q05 q6f];rfl
  rw[hst,w1];rfl
 rw[q07]at e
 obtain rfl:k=l.length:=by omega
 have hz:qbt p l=0:=by rw[hke,List.drop_length];rfl
 rw[hz,List.take_length]
 refine gg rfl (q04 (gg rfl (q08 rfl rfl rfl ⟨q2D (by simp) (q0X qgF _),trivial⟩ ?_)))
 rw[q2E (by simp)];rfl
end Go.F

namespace Go.F
attribute [local irreducible] IntKind.wrap wpM
section
variable {T:Tab}{sh:Shr}{nx0:Nat}{s:List Fr}{t:q0x}{h:q0d}{z:Frz}{nx:Nat}{q:Ex→q0x→q0d→Frz→Nat→Prop}
variable {base i:Nat}{res:List Nat}{g:Gd}{rest:List KOper}
theorem qHJ {f:FuncId}{dst:Nat}{args:List X}{bs:List D}{rows:List (List D×Nat×Nat)}{r:D}(ids:List Nat)(hs:T.shared f=false)
 (ha:qy6 (g.h base h) (args.map (·.ev t))=some (rows,bs)) (hr:q49 rows) (hp:T.pu f bs=some r) (hno:noRef 4 r=false) (hre:(args.map (·.ev t)).flatMap (q0O (g.h base h) depth)=ids)
 (hk:wpM T sh nx0 (.ops base res rest::s) .normal (upd t dst r) h (q77 (g.h base h) z ids) nx q):
 wpM T sh nx0 (.ops base res (⟨i,some dst,none,g,.callF f args⟩::rest)::s) .normal t h z nx q:=by
 refine q3u ?_
 simp only[kop,q5U,hs]
 refine qbr ha hr ?_
 unfold qaA
 refine⟨r,hp,?_⟩
 simp only[q6c,hno,hre]
 cases ids with
 |nil=>exact hk
 |cons a l=>exact hk
end
theorem qHK (g:Grd):dat 4 g.enc=true:=rfl
def exm (p:Piece)(m:Int):Grd:=if(q0q p m).2≠0 then⟨false,false,0⟩else⟨true,decide ((q21 (q0q p m).1 p.widths).2=0),qem p m⟩
theorem areas1 {p:Piece}{m:Int}(h:(q0q p m).2=0):qq8 p [m]=([qem p m],0):=by
 have e:qbt p [m]=0:=by rw[qbt,if_pos h];rfl
 unfold qq8
 rw[if_neg (by simp[e])];rfl
set_option maxHeartbeats 4000000 in
theorem qAB (p:Piece)(m:Int)(hc:p.corners.length≤1000000):PU qjd [p.enc,.int .i64 m]=some (exm p m).enc:=by
 have h1:=q5E p m hc
 have h2:=qcC (q0q p m).1 p.widths
 have h3:=qGm p [m] hc (by simp)
 unfold exm
 have he:∀{x:Int} {P:Prop},eqb x x=false→P:=fun h=>absurd rfl (q20.1 h)
 refine q0g (fn:=q9Q) rfl (q0a ?_)
 refine gg rfl (q02 rfl rfl h1 (gg rfl (q01 rfl (fun g=>?_) (fun g=>?_))))
 ·rw[q0u]at g
  refine gg rfl (q08 rfl rfl rfl trivial ?_)
  rw[if_pos g];rfl
 rw[q0z]at g
 rw[if_neg (by simp[g])]
 rw[areas1 g]at h3
 refine gg rfl (q02 rfl rfl h2 (gg rfl (qHJ [_] rfl rfl ⟨q2D rfl rfl,trivial⟩ h3 rfl rfl (gg rfl (q09 rfl (fun _=>?_) he)))))
 refine gg rfl (q01 rfl (fun _=>?_) (fun h=>?_))
 ·refine gg rfl (q0i 0 rfl rfl rfl rfl rfl (gg rfl (q08 rfl rfl rfl trivial ?_)))
  rw[q2c];rfl
 exact he h
def q8H (kd:Int)(P:Nat→Nat→Bool)(i w:Nat):List Iss:=((List.range w).filter (P i)).map fun z=>⟨kd,(i:Nat),(z:Nat)⟩
def q23 (kd:Int)(P:Nat→Nat→Bool)(n w:Nat):List Iss:=(List.range n).flatMap fun i=>q8H kd P i w
theorem q6x (kd:Int)(P:Nat→Nat→Bool)(i w:Nat):q23 kd P (i+1) w=q23 kd P i w++q8H kd P i w:=by
 unfold q23
 rw[List.range_succ,List.flatMap_append];simp
theorem row_step (kd:Int)(P:Nat→Nat→Bool)(i z:Nat):q8H kd P i (z+1)=q8H kd P i z++(if P i z then [⟨kd,(i:Nat),(z:Nat)⟩]else []):=by
 unfold q8H
 rw[qer,List.map_append]
 congr 1
 split<;>rfl
theorem qiQ (kd:Int)(P:Nat→Nat→Bool)(i w:Nat):(q8H kd P i w).length≤w:=by
 unfold q8H
 rw[List.length_map]
 have:=List.length_filter_le (P i) (List.range w)
 rw[List.length_range]at this;exact this
theorem q72 (kd:Int)(P:Nat→Nat→Bool)(n w:Nat):(q23 kd P n w).length≤n*w:=by
 induction n with
 |zero=>simp[q23]
 |succ n ih=>
  rw[q6x,List.length_append,Nat.succ_mul]
  have:=qiQ kd P n w
  omega
end Go.F

namespace Go.F
attribute [local irreducible] IntKind.wrap wpM
def qes (w:Nat)(g:Nat→Grd):D:=.lst (((List.range w).map g).map Grd.enc)
def qAC (n w:Nat)(g:Nat→Nat→Grd):D:=.lst ((List.range n).map fun i=>qes w (g i))
theorem qyd {w z:Nat}(g:Nat→Grd)(h:z<w):(((List.range w).map g).map Grd.enc)[z]?=some (g z).enc:=by simp[h]
theorem qye {n w i:Nat}(g:Nat→Nat→Grd)(h:i<n):((List.range n).map fun i=>qes w (g i))[i]?=some (qes w (g i)):=by simp[h]
def o1 (g:Nat→Nat→Grd)(i z:Nat):Bool:=!(g i z).outline
def o2 (g:Nat→Nat→Grd)(i z:Nat):Bool:=(g i z).outline&&!(g i z).cut
set_option maxRecDepth 100000 in
set_option maxHeartbeats 8000000 in
theorem qI5 (n w:Nat)(g:Nat→Nat→Grd)(hn:n≤1000)(hw:w≤1000):PU qi1 [qAC n w g]=some (qqc (q23 1 (o1 g) n w++q23 2 (o2 g) n w)):=by
 refine q0g (fn:=k_verify_outlines) rfl (q0a ?_)
 refine gg rfl ?_
 rw[List.length_map,List.length_range]
 refine q0l (S:=fun i:Nat=>([.ref 0 0 (q23 1 (o1 g) i w).length,.ref 1 0 (q23 2 (o2 g) i w).length,qAC n w g,q00 n,q00 i],[some (.row ((q23 1 (o1 g) i w).map Iss.enc) 3),some (.row ((q23 2 (o2 g) i w).map Iss.enc) 3),none,none,none],[0,0,0,0,0])) (C:=fun i=>i≤n) (m:=fun i=>n-i) 0 (Nat.zero_le _) (by omega) ?_ ?_
 ·exact q03 rfl ⟨rfl,rfl,trivial⟩ rfl
 intro i hi N hN
 refine gg rfl (q01 rfl (fun e=>?_) (fun e=>?_))
 ·rw[q06]at e
  have hlt:i<n:=by omega
  have w1:=wS (n:=i)
  have l1:=q72 1 (o1 g) i w
  have l2:=q72 2 (o2 g) i w
  have hiw:i*w≤1000*1000:=Nat.mul_le_mul (by omega) hw
  have ps1:=q6x 1 (o1 g) i w
  have ps2:=q6x 2 (o2 g) i w
  generalize q23 1 (o1 g) i w=A at*
  generalize q23 2 (o2 g) i w=B at*
  refine gg rfl (q0i i rfl rfl rfl (qye g hlt) rfl (gg rfl ?_))
  rw[List.length_map,List.length_map,List.length_range]
  refine q0l (S:=fun z:Nat=>([.ref 0 0 (A++q8H 1 (o1 g) i z).length,.ref 1 0 (B++q8H 2 (o2 g) i z).length,q00 i,qAC n w g,q00 n,q00 i,qes w (g i),q00 w,q00 z],[some (.row ((A++q8H 1 (o1 g) i z).map Iss.enc) 3),some (.row ((B++q8H 2 (o2 g) i z).map Iss.enc) 3),none,none,none,none,none,none,none],[0,0,0,0,0,0,0,0,0])) (C:=fun z=>z≤w) (m:=fun z=>w-z) 0 (Nat.zero_le _) (by omega) ?_ ?_
  ·exact q03 rfl ⟨q05 q1c _,q05 q1c _,trivial⟩ (by simp[q8H,q00,qAC,qes])
  intro z hz N2 hN2
  refine gg rfl (q01 rfl (fun f=>?_) (fun f=>?_))
  ·rw[q06]at f
   have hlz:z<w:=by omega
   have w2:=wS (n:=z)
   have r1:=row_step 1 (o1 g) i z
   have r2:=row_step 2 (o2 g) i z
   have k1:=qiQ 1 (o1 g) i z
   have k2:=qiQ 2 (o2 g) i z
   have hx:=qyd (g i) hlz
   have e1:o1 g i z=!(g i z).outline:=rfl
   have e2:o2 g i z=((g i z).outline&&!(g i z).cut):=rfl
   generalize g i z=G at*
   generalize q8H 1 (o1 g) i z=A2 at*
   generalize q8H 2 (o2 g) i z=B2 at*
   refine gg rfl (q0i z rfl rfl rfl hx rfl ?_)
   cases ho:G.outline with
   |false=>
    rw[ho]at e1 e2
    refine gg rfl ?_
    rw[ho]
    refine q0e rfl (gg rfl (q1f rfl rfl rfl rfl rfl rfl (by simp) (Nat.zero_le _) (by simp[q0M];omega) ?_))
    refine gg rfl (q04 (hN2 (z+1) (by omega) (by omega) (q03 rfl ⟨?_,q05 q1c _,trivial⟩ ?_)))
    ·rw[List.all_append,q05 q1c];rfl
    rw[r1,r2,e1,e2,w2]
    simp[q00,Iss.enc,qAC,qes]
    omega
   |true=>
    rw[ho]at e1 e2
    refine gg rfl ?_
    rw[ho]
    refine q0j rfl ?_
    cases hcu:G.cut with
    |false=>
     rw[hcu]at e2
     refine gg rfl (q0e rfl (gg rfl (q1f rfl rfl rfl rfl rfl rfl (by simp) (Nat.zero_le _) (by simp[q0M];omega) ?_)))
     refine gg rfl (q04 (hN2 (z+1) (by omega) (by omega) (q03 rfl ⟨q05 q1c _,?_,trivial⟩ ?_)))
     ·rw[List.all_append,q05 q1c];rfl
     rw[r1,r2,e1,e2,w2]
     simp[q00,Iss.enc,qAC,qes]
     omega
    |true=>
     rw[hcu]at e2
     refine gg rfl (q0j rfl (gg rfl (q04 (hN2 (z+1) (by omega) (by omega) (q03 rfl ⟨q05 q1c _,q05 q1c _,trivial⟩ ?_)))))
     rw[r1,r2,e1,e2,w2]
     simp[q00,qAC,qes]
  rw[q07]at f
  obtain rfl:z=w:=by omega
  clear hN2
  refine gg rfl (q04 (gg rfl (q04 (hN (i+1) (by omega) (by omega) (q03 rfl ⟨q05 q1c _,q05 q1c _,trivial⟩ ?_)))))
  rw[ps1,ps2,w1];rfl
 rw[q07]at e
 obtain rfl:i=n:=by omega
 have l1:=q72 1 (o1 g) i w
 have l2:=q72 2 (o2 g) i w
 have hiw:i*w≤1000*1000:=Nat.mul_le_mul (by omega) hw
 clear hN
 refine gg rfl (q04 (gg rfl (q1f rfl rfl rfl rfl (by simp) (q1x (n:=3) (fun _=>rfl) _) (by simp) (Nat.zero_le _) (by simp[q0M];omega) ?_)))
 refine gg rfl (q08 rfl rfl rfl ⟨q2D (by simp) ?_,trivial⟩ ?_)
 ·rw[List.all_append,q0X qmS,q0X qmS];rfl
 rw[q2E (by simp),←List.map_append];rfl
theorem qIp (a b:Grd):PU qje [a.enc,b.enc]=some (.bool (a.outline&&(b.outline&&decide (b.area<a.area)))):=by
 obtain⟨ao,ac,aa⟩:=a
 obtain⟨bo,bc,ba⟩:=b
 simp only
 refine q0g (fn:=qa7) rfl (q0a ?_)
 cases ao with
 |false=>
  repeat' (first
   |refine goP 800 rfl rfl ?_
   |refine q0h rfl ?_|refine q0o rfl ?_|refine q09 rfl (fun _=>?_) (fun _=>?_)
   |refine q0e rfl ?_|refine q0j rfl ?_|refine q01 rfl (fun _=>?_) (fun _=>?_)
   |refine q0L rfl (fun _=>?_) (fun _=>?_)
   |refine q08 rfl rfl rfl trivial ?_)
  rfl
 |true=>
  cases bo with
  |false=>
   repeat' (first
    |refine goP 800 rfl rfl ?_
    |refine q0h rfl ?_|refine q0o rfl ?_|refine q09 rfl (fun _=>?_) (fun _=>?_)
    |refine q0e rfl ?_|refine q0j rfl ?_|refine q01 rfl (fun _=>?_) (fun _=>?_)
    |refine q0L rfl (fun _=>?_) (fun _=>?_)
    |refine q08 rfl rfl rfl trivial ?_)
   rfl
  |true=>
   repeat' (first
    |refine goP 800 rfl rfl ?_
    |refine q0h rfl ?_|refine q0o rfl ?_|refine q09 rfl (fun _=>?_) (fun _=>?_)
    |refine q0e rfl ?_|refine q0j rfl ?_|refine q01 rfl (fun _=>?_) (fun _=>?_)
    |refine q0L rfl (fun _=>?_) (fun _=>?_)
    |refine q08 rfl rfl rfl trivial ?_)
   rw[q1M];rfl
end Go.F

namespace Go.F
attribute [local irreducible] IntKind.wrap wpM
def qet (us:List Use)(i:Nat):Bool:=us.any fun u=>decide (u.piece=(i:Nat))
def o6 (s:Sty)(i z:Nat):Bool:=decide (z=0)&&!qet s.uses i
theorem row6 (s:Sty)(i w:Nat)(hw:0<w):q8H 6 (o6 s) i w=if qet s.uses i then []else [⟨6,(i:Nat),0⟩]:=by
 unfold q8H
 have e:(List.range w).filter (o6 s i)=if qet s.uses i then []else [0]:=by
  induction w with
  |zero=>omega
  |succ w ih=>
   rw[qer]
   by_cases h0:w=0
   ·subst h0
    cases h:qet s.uses i<;>simp[o6,h]
   rw[ih (by omega)]
   have:o6 s i w=false:=by simp[o6,h0]
   rw[this];simp
 rw[e]
 split<;>rfl
def qeu (s:Sty)(k n:Nat):List Bool:=(List.range n).map fun i=>qet (s.uses.take k) i
def qqd (b:Bool):D:=.bool b
theorem qDT {s:Sty}{k:Nat}(h:k<s.uses.length)(i:Nat):qet (s.uses.take (k+1)) i=(qet (s.uses.take k) i||decide ((us s.uses k).piece=(i:Nat))):=by
 unfold qet
 rw[List.take_succ_eq_append_getElem h,List.any_append,qef h];simp
theorem qAD {s:Sty}{k n p:Nat}(h:k<s.uses.length)(hp:(us s.uses k).piece=(p:Nat))(hpn:p<n):(qeu s k n).set p true=qeu s (k+1) n:=by
 unfold qeu
 apply List.ext_getElem
 ·simp
 intro j h1 h2
 rw[List.getElem_set]
 simp only[List.getElem_map,List.getElem_range]
 rw[qDT h,hp]
 split
 ·rename_i e;subst e;simp
 rename_i e
 have:¬((p:Int)=(j:Nat)):=by omega
 rw[decide_eq_false this,Bool.or_false]
set_option maxRecDepth 100000 in
set_option maxHeartbeats 8000000 in
theorem qIs (s:Sty)(w:Nat)(hw:0<w)(hn:s.pieces.length≤1000)(hu:∀u∈s.uses,0≤u.piece∧u.piece<s.pieces.length)(hul:s.uses.length≤1000):PU qmd [s.enc]=some (qqc (q23 6 (o6 s) s.pieces.length w)):=by
 refine q0g (fn:=qbK) rfl (q0a ?_)
 refine gg rfl ?_
 rw[List.length_map]
 refine q3O s.pieces.length rfl rfl rfl (by simp[q0M];omega) ?_
 have ez:List.replicate s.pieces.length (D.bool false)=(qeu s 0 s.pieces.length).map qqd:=by
  unfold qeu
  rw[List.map_map]
  apply List.ext_getElem
  ·simp
  intro i h1 h2;simp[qet,qqd]
 show wpM _ _ _ _ _ _ (upd _ _ (some (.row (List.replicate s.pieces.length (D.bool false)) 1))) _ _ _
 rw[ez]
 refine gg rfl ?_
 rw[List.length_map]
 refine q0l (S:=fun k:Nat=>([.ptr 0 0 0,.ref 1 0 s.pieces.length,Go.F.uses s.uses,q00 s.uses.length,q00 k],[some (.row [s.enc] 7),some (.row ((qeu s k s.pieces.length).map qqd) 1),none,none,none],[0,0,0,0,0])) (C:=fun k=>k≤s.uses.length) (m:=fun k=>s.uses.length-k) 0 (Nat.zero_le _) (by omega) ?_ ?_
 ·exact q03 rfl ⟨rfl,q05 (fun _=>rfl) _,trivial⟩ rfl
 intro k hk N hN
 refine gg rfl (q01 rfl (fun e=>?_) (fun e=>?_))
 ·rw[q06]at e
  have hlt:k<s.uses.length:=by omega
  have w1:=wS (n:=k)
  have hup:=hu (us s.uses k) (by rw[qef hlt];exact List.getElem_mem _)
  have hx:=qpR hlt
  have hst:=qAD (s:=s) (k:=k) (n:=s.pieces.length) (p:=(us s.uses k).piece.toNat) hlt (by omega) (by omega)
  have hpp:(us s.uses k).piece=(((us s.uses k).piece.toNat:Nat):Int):=by omega
  have hpn:(us s.uses k).piece.toNat<s.pieces.length:=by omega
  generalize us s.uses k=u at*
  refine gg rfl (q0i k rfl rfl rfl hx rfl (gg rfl (q0F u.piece.toNat rfl rfl rfl rfl hpp hpn (gg rfl (q4R (enc:=qqd) (qeu s k s.pieces.length) u.piece.toNat true rfl rfl (Nat.zero_add _) rfl (fun _=>rfl) rfl (Nat.zero_le _) (by simp[qeu];omega) ?_)))))
  rw[hst]
  exact gg rfl (q04 (hN (k+1) hlt (by omega) (q03 rfl ⟨rfl,q05 (fun _=>rfl) _,trivial⟩ (by rw[w1];rfl))))
 rw[q07]at e
 obtain rfl:k=s.uses.length:=by omega
 clear hN
 refine gg rfl (q04 (gg rfl ?_))
 rw[List.length_map]
 refine q0l (S:=fun i:Nat=>([.ref 0 0 s.pieces.length,.ref 1 0 (q23 6 (o6 s) i w).length,q00 s.pieces.length,q00 i],[some (.row ((qeu s s.uses.length s.pieces.length).map qqd) 1),some (.row ((q23 6 (o6 s) i w).map Iss.enc) 3),none,none],[0,0,0,0])) (C:=fun i=>i≤s.pieces.length) (m:=fun i=>s.pieces.length-i) 0 (Nat.zero_le _) (by omega) ?_ ?_
 ·exact q03 rfl ⟨q05 (fun _=>rfl) _,rfl,trivial⟩ rfl
 intro i hi N hN
 refine gg rfl (q01 rfl (fun e=>?_) (fun e=>?_))
 ·rw[q06]at e
  have hlt:i<s.pieces.length:=by omega
  have w1:=wS (n:=i)
  have hg:((qeu s s.uses.length s.pieces.length).map qqd)[i]?=some (.bool (qet s.uses i)):=by simp[qeu,hlt,qqd]
  have ps:=q6x 6 (o6 s) i w
  rw[row6 s i w hw]at ps
  have pl:(q23 6 (o6 s) i w).length≤i:=by
   have hz:∀j,(q23 6 (o6 s) j w).length≤j:=by
    intro j
    induction j with
    |zero=>simp[q23]
    |succ j ih=>
     rw[q6x,List.length_append,row6 s j w hw]
     split<;>simp<;>omega
   exact hz i
  generalize q23 6 (o6 s) i w=A at*
  refine gg rfl (q0F i rfl rfl rfl rfl rfl hlt (gg rfl (qeN rfl rfl (by rw[Nat.zero_add];exact hg) rfl ?_)))
  cases hub:qet s.uses i with
  |false=>
   rw[hub]at ps
   refine gg rfl (q0e rfl (gg rfl (q1f rfl rfl rfl rfl rfl rfl (by simp) (Nat.zero_le _) (by simp[q0M];omega) ?_)))
   refine gg rfl (q04 (hN (i+1) hlt (by omega) (q03 rfl ⟨q05 (fun _=>rfl) _,?_,trivial⟩ ?_)))
   ·rw[List.all_append,q05 q1c];rfl
   rw[ps,w1]
   simp[q00,Iss.enc]
  |true=>
   rw[hub]at ps
   refine gg rfl (q0j rfl (gg rfl (q04 (hN (i+1) hlt (by omega) (q03 rfl ⟨q05 (fun _=>rfl) _,q05 q1c _,trivial⟩ ?_)))))
   rw[ps,w1]
   simp[q00]
 rw[q07]at e
 obtain rfl:i=s.pieces.length:=by omega
 clear hN
 refine gg rfl (q04 (gg rfl (q08 rfl rfl rfl ⟨q2D (by simp) (q0X qmS _),trivial⟩ ?_)))
 rw[q2E (by simp)];rfl
end Go.F

namespace Go.F
structure PcOk (b:List Piece)(p:Piece):Prop where
 name:q1K p.name=true
 grain:¬(p.grain≠1∧p.grain≠2∧p.grain≠4)
 once:(b.any fun o=>o.name.toList==p.name.toList)=false
 grad:(q0q p 0).2=0
 plac:(q0R p 0).2=0
 wlen:p.widths.length=p.edges.length
 wid:¬(p.widths.any q2h)=true
theorem qjD {b:List Piece}{p:Piece}(h:q22 b p=0):PcOk b p:=by
 unfold q22 at h
 split at h
 ·cases h
 rename_i g1
 split at h
 ·cases h
 rename_i g2
 split at h
 ·cases h
 rename_i g3
 split at h
 ·rename_i g;exact absurd h g
 rename_i g4
 split at h
 ·rename_i g;exact absurd h g
 rename_i g5
 split at h
 ·cases h
 rename_i g6
 split at h
 ·cases h
 rename_i g7
 exact⟨by simpa using g1,g2,by simpa using g3,by simpa using g4,by simpa using g5,by simpa using g6,g7⟩
end Go.F

namespace Go.F
attribute [local irreducible] IntKind.wrap wpM
theorem qGp {l:List Spot}(h:q1t l=0):(q15 l).2=0∧0≤(q15 l).1∧(q15 l).1≤1099511627776:=by
 obtain⟨h2,h40,hw⟩:=q2j h
 have hl:=qpw (p:=l) (fun i hi=>hw (pt l i) (by rw[q0D hi];exact List.getElem_mem _)) (l.length-1) (by omega)
 have h3:(l.length-1) *4294967296≤39*4294967296:=Nat.mul_le_mul_right _ (by omega)
 unfold q15
 rw[if_pos h]
 refine⟨rfl,?_,?_⟩
 ·show(0:Int)≤((q36 l (l.length-1):Nat):Int);omega
 show((q36 l (l.length-1):Nat):Int)≤_;omega
theorem qyf {p:Piece}{m:Int}(hg:(q0q p m).2=0){e:Nat}(he:e<p.edges.length):q1t (eg (q0q p m).1 e).line=0:=by
 have hl:=q2s hg
 exact q2P (q18 (q0Z hl.2.2.1).2.2.1 (by rw[hl.1];exact he))
theorem qDU {fr to at_:Int}{rev:Bool}:(q3x fr to rev at_).2=0↔¬q4x fr to at_:=by
 unfold q3x
 split
 ·rename_i h;exact⟨fun e=>by simp at e,fun e=>absurd h e⟩
 rename_i h;exact⟨fun _=>h,fun _=>rfl⟩
theorem qAE {p:Piece}{m:Int}{n:Ntc}(h0:(q0q p 0).2=0)(hg:(q0q p m).2=0)(h:(q1u p (q0q p 0).1 n).2=0):(q1u p (q0q p m).1 n).2=0:=by
 unfold q1u at h⊢
 split at h
 ·cases h
 rename_i g1
 rw[if_neg g1]
 split at h
 ·rename_i g2;exact absurd h g2
 rename_i g2
 rw[if_neg g2]
 split at h
 ·rename_i g3;exact absurd h g3
 rename_i g3
 have hb:=qGp (qyf hg (e:=n.edge.toNat) (by omega))
 rw[if_neg (by simp[hb.1])]
 rw[qDU]at h⊢
 unfold q4x at h⊢
 omega
theorem qev {p:Piece}{g:List Edge}:∀{l:List Ntc},q2y p g l=0↔∀n∈l,(q1u p g n).2=0
 |[]=>by simp[q2y]
 |n::l=>by
  rw[q2y]
  split
  ·rename_i h
   rw[qev]
   constructor
   ·intro h2 x hx
    rcases List.mem_cons.1 hx with rfl|hx
    ·exact h
    exact h2 x hx
   intro h2 x hx;exact h2 x (List.mem_cons_of_mem _ hx)
  rename_i h
  exact⟨fun e=>absurd e h,fun h2=>absurd (h2 n (List.mem_cons_self ..)) h⟩
theorem qqe {p:Piece}{m:Int}(h0:(q0q p 0).2=0)(hp:(q0R p 0).2=0)(hg:(q0q p m).2=0):(q0R p m).2=0:=by
 unfold q0R at hp⊢
 rw[if_neg (by simp[h0])]at hp
 rw[if_neg (by simp[hg])]
 split at hp
 ·cases hp
 rename_i g
 rw[if_neg g]
 split at hp
 ·rename_i g2;exact absurd hp g2
 rename_i g2
 have g2:q2y p (q0q p 0).1 p.notches=0:=by simpa using g2
 rw[if_neg]
 ·simp only[ne_eq,Decidable.not_not]
  exact qev.2 fun n hn=>qAE h0 hg (qev.1 g2 n hn)
def qyg (s:Sty)(p:Nat)(z:Nat):Bool:=decide ((q0q (pc s.pieces p) (mz s z)).2=0)
def qt0 (s:Sty)(k z:Nat):Bool:=qyg s (sw s.seams k).pa.toNat z&&qyg s (sw s.seams k).pb.toNat z
def o3 (s:Sty)(k z:Nat):Bool:=qt0 s k z&&decide ((sw s.seams k).ease<max (qAy s z (sw s.seams k)-qAz s z (sw s.seams k)) (qAz s z (sw s.seams k)-qAy s z (sw s.seams k)))
def o4 (s:Sty)(k z:Nat):Bool:=qt0 s k z&&decide (0<(qIr s z (sw s.seams k)).length)
def qAF (s:Sty)(m:Sew):Sty:={s with seams:=[m]}
def qbu (s:Sty)(i z:Nat):Grd:=exm (pc s.pieces i) (mz s z)
theorem qI6 (s:Sty)(i z:Nat):(qbu s i z).outline=qyg s i z:=by
 unfold qbu exm qyg
 split
 ·rename_i h;rw[decide_eq_false h]
 rename_i h
 have h:(q0q (pc s.pieces i) (mz s z)).2=0:=Decidable.not_not.1 h
 rw[h];rfl
theorem qHL {s:Sty}(h:q2C s=0){k:Nat}(hk:k<s.seams.length):q2b s (sw s.seams k).pa (sw s.seams k).ea=true∧q2b s (sw s.seams k).pb (sw s.seams k).eb=true∧0≤(sw s.seams k).ease:=by
 have h2:=q18 (q5v h).2.2.2 hk
 unfold q45 q6d at h2
 split at h2
 ·cases h2
 rename_i g
 split at h2
 ·cases h2
 rename_i g2
 refine⟨?_,?_,by omega⟩
 ·cases hh:q2b s (sw s.seams k).pa (sw s.seams k).ea with
  |true=>rfl
  |false=>exact absurd (.inl hh) g
 cases hh:q2b s (sw s.seams k).pb (sw s.seams k).eb with
 |true=>rfl
 |false=>exact absurd (.inr hh) g
theorem qiR {s:Sty}(h:q2C s=0){i:Nat}(hi:i<s.pieces.length):(q0q (pc s.pieces i) 0).2=0∧(q0R (pc s.pieces i) 0).2=0∧(pc s.pieces i).corners.length≤16:=by
 have hp:=qjD (q18 (q5v h).2.1 hi)
 have hl:=q2s hp.grad
 have:=(q0Z hl.2.1).2.1
 exact⟨hp.grad,hp.plac,by omega⟩
theorem qqf {s:Sty}(h:q2C s=0):∀p∈s.pieces,p.corners.length≤1000000:=by
 intro p hp
 obtain⟨i,hi,rfl⟩:=List.getElem_of_mem hp
 have:=(qiR h hi).2.2
 rw[q6s hi]at this
 omega
theorem qGq {s:Sty}(h:q2C s=0){k z:Nat}(hk:k<s.seams.length)(hz:z<s.mults.length)(hb:qt0 s k z=true):SewOk s z k:=by
 obtain⟨e1,e2,_⟩:=qHL h hk
 unfold qt0 qyg at hb
 rw[Bool.and_eq_true,decide_eq_true_eq,decide_eq_true_eq]at hb
 exact⟨hz,hk,e1,e2,hb.1,hb.2,qqf h⟩
theorem qGr {s:Sty}(h:q2C s=0){k z:Nat}(hk:k<s.seams.length)(hz:z<s.mults.length)(hb:qt0 s k z=true):SewOk (qAF s (sw s.seams k)) z 0:=by
 have:=qGq h hk hz hb
 exact⟨hz,by show 0<1;decide,this.ea,this.eb,this.ga,this.gb,fun p hp=>qqf h p hp⟩
theorem qIt {s:Sty}(h:q2C s=0){k z:Nat}(hk:k<s.seams.length)(hz:z<s.mults.length)(hb:qt0 s k z=true):
 PU q9h [(qAF s (sw s.seams k)).enc,.int .i64 z]=some (.tup [qqc (qIr s z (sw s.seams k)),.int .i64 0]):=by
 have h1:=qGq h hk hz hb
 have h2:=qGr h hk hz hb
 obtain⟨_,a2,_,_⟩:=qaR h1.ea
 obtain⟨_,b2,_,_⟩:=qaR h1.eb
 have pa:=qiR h a2
 have pb:=qiR h b2
 exact qvd (qAF s (sw s.seams k)) z h2 rfl (qqe pa.1 pa.2.1 h1.ga) (qqe pb.1 pb.2.1 h1.gb)
theorem qIq {p:Piece}{m:Int}{e:Nat}(hg:(q0q p m).2=0)(he:e<p.edges.length):0≤qAx p m e∧qAx p m e≤1099511627776:=(qGp (qyf hg he)).2
end Go.F

namespace Go.F
section
variable {t:q0x}{h:q0d}{z:Frz}{nx:Nat}
def qgq (nx0:Nat)(ids:List (Option Nat))(t:q0x):Live→List D
 |[]=>[]
 |x::rest=>(match q6i x.1 with|true=> .bad|false=>q1g nx0 ids (t x.1))::qgq nx0 ids t rest
theorem qjv (nx0:Nat)(ids:List (Option Nat))(t:q0x):∀live,qg9 nx0 ids t live=mkT live (qgq nx0 ids t live)
 |[]=>rfl
 |x::rest=>by rw[qg9,qgq,mkT,qjv nx0 ids t rest];rfl
theorem qCM {nx0:Nat}{ids:List (Option Nat)}{s:St}:∀{live:Live},q3C nx0 ids s.heap s.tmps live=true→q40 nx0 ids live s=some s:=by
 intro live
 induction live with
 |nil=>intro _;rfl
 |cons x rest ih=>
  intro hk
  rw[q3C,Bool.and_eq_true]at hk
  rw[q40]
  have e:q4w nx0 ids x.1 s=some s:=by
   unfold q4w
   have h1:=hk.1
   split
   ·rename_i hid
    rw[hid]at h1
    split
    ·rfl
    rename_i hp
    rw[hp]at h1
    have hl:look s.tmps s.heap x.1=s.tmps x.1:=by unfold look;rw[hp]
    rw[hl]at hid
    unfold qj5
    rw[hid]
    simp only
    simp only at h1
    rw[h1]
   rename_i id hid
   rw[hid]at h1
   split
   ·rename_i es esz hh
    have h1:qsc nx0 ids (s.heap id)=true:=h1
    rw[hh]at h1
    have h1:es.all (okD nx0 ids)=true:=h1
    rw[h1]
   rfl
  rw[e]
  exact ih hk.2
theorem qBe {live:Live}{s1:St}{ids:List (Option Nat)}{vs:List D}{bs:List (Option Blk)}{zs:List Nat}{K:Kept→Prop}
 (hn:q5e live ⟨t,h,z,nx⟩=s1) (hi:q1Q s1.tmps s1.heap live=ids) (ho:q3C 0 ids s1.heap s1.tmps live=true)
 (hv:qgq 0 ids s1.tmps live=vs) (hb:q7k 0 ids none (fun i=>q78 0 ids (s1.heap i)) ids 0=bs) (hz:q7k 0 ids 0 s1.frz ids 0=zs)
 (hk:K (vs,bs,zs)) (hnst:q5p live=true:=by rfl):q10 0 live t h z nx fun _ _ kp=>K kp:=by
 unfold q10
 rw[hnst]
 simp only
 refine⟨s1.heap,s1.frz,(vs,bs,zs),hk,?_⟩
 unfold qb4
 rw[hn,hi,qCM ho]
 simp only
 unfold qw0
 rw[hi,ho]
 simp only
 rw[qjv,hv,q7B _ _ (Nat.le_refl _),q7B _ _ (Nat.le_refl _),hb,hz]
theorem qu5 {live:Live}{s1:St}{ids:List (Option Nat)}{vs:List D}{bs:List (Option Blk)}{zs:List Nat}
 (hn:q5e live ⟨t,h,z,nx⟩=s1) (hi:q1Q s1.tmps s1.heap live=ids) (ho:q3C 0 ids s1.heap s1.tmps live=true)
 (hv:qgq 0 ids s1.tmps live=vs) (hb:q7k 0 ids none (fun i=>q78 0 ids (s1.heap i)) ids 0=bs) (hz:q7k 0 ids 0 s1.frz ids 0=zs)
 (hnst:q5p live=true:=by rfl):q10 0 live t h z nx fun _ _ kp=>kp=(vs,bs,zs):=
 qBe hn hi ho hv hb hz rfl hnst
end
theorem qCN (ids:List (Option Nat))(l:List Spot):(l.map Spot.enc).all (okD 0 ids)=true:=by
 rw[List.all_map,List.all_eq_true]
 intro x _;rfl
theorem qCO (ids:List (Option Nat))(l:List Spot):(l.map Spot.enc).map (qj7 0 ids)=l.map Spot.enc:=by
 rw[List.map_map]
 apply List.map_congr_left
 intro x _;rfl
end Go.F

namespace Go.F
theorem qA8 {hp:q0d}{es:List D}{n:Nat}(hd:es.all (dat 4)=true)(hn:4≤n):es.mapM (q19 hp n)=some es:=by
 induction es with
 |nil=>rfl
 |cons x es ih=>
  simp only[List.all_cons,Bool.and_eq_true]at hd
  simp[List.mapM_cons,qpW 4 n x hd.1 hn,ih hd.2]
theorem qDt {h:q0d}{id len sz n:Nat}{es:List D}(hh:h id=some (.row es sz))(hl:len=es.length)(hd:es.all (dat 4)=true)(hn:4≤n):q19 h (n+1) (.ref id 0 len)=some (.lst es):=by
 subst hl
 simp only[q19,hh]
 rw[if_pos (by omega),List.drop_zero,List.take_length,qA8 hd hn];rfl
theorem qA9 {h:q0d}{id len sz n:Nat}{es:List D}(hh:h id=some (.row es sz))(hd:es.all (dat 4)=true):q0O h (n+1) (.ref id 0 len)=[id]:=by
 simp only[q0O,hh]
 rw[q70]
 rw[List.all_eq_true]at hd⊢
 intro x hx
 exact hd x (List.mem_of_mem_drop (List.mem_of_mem_take hx))
end Go.F

namespace Go.F
attribute [local irreducible] IntKind.wrap wpM
theorem qIu {h:q0d}{A a x:Nat}{nm:ByteArray}{S M P U W O:List D}(hA:h A=some (.row W x))(ha:a=W.length)(hW:W.all (dat 4)=true):
 Obl.ok (.s h [.agg [.str nm,.lst S,.lst M,.lst P,.lst U,.ref A 0 a,.lst O]] [.agg [.str nm,.lst S,.lst M,.lst P,.lst U,.lst W,.lst O]] [A]):=by
 refine⟨rfl,?_,?_,rfl⟩
 ·have e:∀d:List D,q19 h 7 (.lst d)=some (.lst d):=fun _=>rfl
  have e2:q19 h 7 (.str nm)=some (.str nm):=rfl
  show([_]:List D).mapM (q19 h 8)=_
  rw[List.mapM_cons,List.mapM_nil]
  have e3:q19 h 8 (.agg [.str nm,.lst S,.lst M,.lst P,.lst U,.ref A 0 a,.lst O])=(([.str nm,.lst S,.lst M,.lst P,.lst U,.ref A 0 a,.lst O]:List D).mapM (q19 h 7)).map .agg:=rfl
  rw[e3]
  simp only[List.mapM_cons,List.mapM_nil,e,e2,qDt hA ha hW (show 4≤6 by decide)]
  rfl
 show List.flatMap (q0O h 12) [_]=_
 have e3:q0O h 12 (.agg [.str nm,.lst S,.lst M,.lst P,.lst U,.ref A 0 a,.lst O])=([.str nm,.lst S,.lst M,.lst P,.lst U,.ref A 0 a,.lst O]:List D).flatMap (q0O h 11):=rfl
 rw[List.flatMap_cons,List.flatMap_nil,e3]
 simp only[List.flatMap_cons,List.flatMap_nil,qA9 hA hW (n:=10)]
 rfl
set_option maxRecDepth 100000 in
set_option maxHeartbeats 16000000 in
theorem qIv (s:Sty)(h:q2C s=0):PU qER [s.enc,qAC s.pieces.length s.mults.length (qbu s)]=some (qqc (q23 3 (o3 s) s.seams.length s.mults.length++q23 4 (o4 s) s.seams.length s.mults.length)):=by
 have hok:=qiE h
 have hs24:=hok.seams
 have hm12:s.mults.length≤12:=by have:=hok.mults;have:=hok.sizes;omega
 have he:∀{x:Int} {P:Prop},eqb x x=false→P:=fun h=>absurd rfl (q20.1 h)
 refine q0g (fn:=qnO) rfl (q0a ?_)
 refine gg rfl ?_
 rw[List.length_map]
 refine q0l (S:=fun k:Nat=>([qAC s.pieces.length s.mults.length (qbu s),.ptr 1 0 0,.ref 2 0 (q23 3 (o3 s) k s.mults.length).length,.ref 3 0 (q23 4 (o4 s) k s.mults.length).length,quY s.seams,q00 s.seams.length,q00 k],[none,some (.row [s.enc] 7),some (.row ((q23 3 (o3 s) k s.mults.length).map Iss.enc) 3),some (.row ((q23 4 (o4 s) k s.mults.length).map Iss.enc) 3),none,none,none],[0,0,0,0,0,0,0])) (C:=fun k=>k≤s.seams.length) (m:=fun k=>s.seams.length-k) 0 (Nat.zero_le _) (by omega) ?_ ?_
 ·exact q03 rfl ⟨rfl,rfl,rfl,trivial⟩ rfl
 intro k hk N hN
 refine gg rfl (q01 rfl (fun e=>?_) (fun e=>?_))
 ·rw[q06]at e
  have hlt:k<s.seams.length:=by omega
  have w1:=wS (n:=k)
  have l1:=q72 3 (o3 s) k s.mults.length
  have l2:=q72 4 (o4 s) k s.mults.length
  have hiw:k*s.mults.length≤24*12:=Nat.mul_le_mul (by omega) hm12
  have ps1:=q6x 3 (o3 s) k s.mults.length
  have ps2:=q6x 4 (o4 s) k s.mults.length
  have hx:=qv1 hlt
  obtain⟨ea,eb,hease⟩:=qHL h hlt
  obtain⟨a1,a2,a3,a4⟩:=qaR ea
  obtain⟨b1,b2,b3,b4⟩:=qaR eb
  have hSE:=fun z (hz:z<s.mults.length) hb=>qAA s z k (qGq h hlt hz hb)
  have hUE:=fun z (hz:z<s.mults.length) hb=>qIt h hlt hz hb
  have hLA:∀z,qt0 s k z=true→0≤qAy s z (sw s.seams k)∧qAy s z (sw s.seams k)≤1099511627776∧0≤qAz s z (sw s.seams k)∧qAz s z (sw s.seams k)≤1099511627776:=by
   intro z hb
   unfold qt0 qyg at hb
   rw[Bool.and_eq_true,decide_eq_true_eq,decide_eq_true_eq]at hb
   have q1:=qIq hb.1 a4
   have q2:=qIq hb.2 b4
   exact⟨q1.1,q1.2,q2.1,q2.2⟩
  have hd3:∀z,o3 s k z=(qt0 s k z&&decide ((sw s.seams k).ease<max (qAy s z (sw s.seams k)-qAz s z (sw s.seams k)) (qAz s z (sw s.seams k)-qAy s z (sw s.seams k)))):=fun _=>rfl
  have hbd:∀z,qt0 s k z=((qbu s (sw s.seams k).pa.toNat z).outline&&(qbu s (sw s.seams k).pb.toNat z).outline):=fun z=>by rw[qI6,qI6];rfl
  generalize q23 3 (o3 s) k s.mults.length=A at*
  generalize q23 4 (o4 s) k s.mults.length=B at*
  generalize hmm0:sw s.seams k=m at*
  refine gg rfl (q0i k rfl rfl rfl hx rfl (gg rfl ?_))
  rw[List.length_map]
  refine q0l (S:=fun z:Nat=>([qAC s.pieces.length s.mults.length (qbu s),.ptr 1 0 0,.ref 2 0 (A++q8H 3 (o3 s) k z).length,.ref 3 0 (B++q8H 4 (o4 s) k z).length,q00 k,.ptr 5 0 0,.ptr 6 0 0,quY s.seams,q00 s.seams.length,q00 k,q00 s.mults.length,q00 z],[none,some (.row [s.enc] 7),some (.row ((A++q8H 3 (o3 s) k z).map Iss.enc) 3),some (.row ((B++q8H 4 (o4 s) k z).map Iss.enc) 3),none,some (.row [m.enc] 6),some (.row [(qAF s m).enc] 7),none,none,none,none,none],[0,0,0,0,0,0,0,0,0,0,0,0])) (C:=fun z=>z≤s.mults.length) (m:=fun z=>s.mults.length-z) 0 (Nat.zero_le _) (by omega) ?_ ?_
  ·refine qmP [none,none,none,none,some ([(qAF s m).enc],[43])] rfl ⟨rfl,q05 q1c _,q05 q1c _,rfl,qIu rfl rfl rfl,trivial⟩ ?_
   simp[q8H,q00,quY,qAC,qes,qiD,Sew.enc]
  intro z hz N2 hN2
  refine gg rfl (q01 rfl (fun f=>?_) (fun f=>?_))
  ·rw[q06]at f
   have hlz:z<s.mults.length:=by omega
   have w2:=wS (n:=z)
   have r1:=row_step 3 (o3 s) k z
   have r2:=row_step 4 (o4 s) k z
   have k1:=qiQ 3 (o3 s) k z
   have k2:=qiQ 4 (o4 s) k z
   have hd3:=hd3 z
   have hbd:=hbd z
   have gA:=qye (n:=s.pieces.length) (w:=s.mults.length) (qbu s) a2
   have gB:=qye (n:=s.pieces.length) (w:=s.mults.length) (qbu s) b2
   have ga:=qyd (qbu s m.pa.toNat) hlz
   have gb:=qyd (qbu s m.pb.toNat) hlz
   have hLA:=hLA z
   have hSE:=hSE z hlz
   have hUE:=hUE z hlz
   generalize q8H 3 (o3 s) k z=A2 at*
   generalize q8H 4 (o4 s) k z=B2 at*
   generalize qbu s m.pa.toNat z=GA at*
   generalize qbu s m.pb.toNat z=GB at*
   refine gg rfl (q0i m.pa.toNat rfl rfl (by omega) gA rfl ?_)
   refine gg rfl (q0i z rfl rfl rfl ga rfl ?_)
   cases hoA:GA.outline with
   |false=>
    have hbf:qt0 s k z=false:=by rw[hbd,hoA];rfl
    refine gg rfl ?_
    rw[hoA]
    refine q0h rfl (gg rfl (q0e rfl ?_))
    have e3:o3 s k z=false:=by unfold o3;rw[hbf];rfl
    have e4:o4 s k z=false:=by unfold o4;rw[hbf];rfl
    refine gg rfl (q04 (hN2 (z+1) (by omega) (by omega) (q03 rfl ⟨rfl,q05 q1c _,q05 q1c _,rfl,rfl,trivial⟩ ?_)))
    rw[r1,r2,e3,e4,w2]
    simp[q00,qAC,qes,quY]
   |true=>
    refine gg rfl ?_
    rw[hoA]
    refine q0o rfl (gg rfl (q0i m.pb.toNat rfl rfl (by omega) gB rfl ?_))
    refine gg rfl (q0i z rfl rfl rfl gb rfl ?_)
    cases hoB:GB.outline with
    |false=>
     have hbf:qt0 s k z=false:=by rw[hbd,hoA,hoB];rfl
     refine gg rfl ?_
     rw[hoB]
     refine q0e rfl ?_
     have e3:o3 s k z=false:=by unfold o3;rw[hbf];rfl
     have e4:o4 s k z=false:=by unfold o4;rw[hbf];rfl
     refine gg rfl (q04 (hN2 (z+1) (by omega) (by omega) (q03 rfl ⟨rfl,q05 q1c _,q05 q1c _,rfl,rfl,trivial⟩ ?_)))
     rw[r1,r2,e3,e4,w2]
     simp[q00,qAC,qes,quY]
    |true=>
     have hbt:qt0 s k z=true:=by rw[hbd,hoA,hoB];rfl
     have hLn:=hSE hbt
     have hU:=hUE hbt
     obtain⟨n1,n2,n3,n4⟩:=hLA hbt
     rw[hbt,Bool.true_and]at hd3
     have hmm:qIr s z m=qIr s z (sw s.seams k):=by rw[hmm0]
     generalize qAy s z m=nA at*
     generalize qAz s z m=nB at*
     have wa:=ww (x:=nA-nB)
     have wb:=ww (x:=nB-nA)
     refine gg rfl ?_
     rw[hoB]
     refine q0j rfl (gg rfl (q02 rfl rfl hLn (gg rfl (q09 rfl (fun _=>?_) he))))
     refine gg rfl ?_
     rw[wa,wb]
     refine q01 rfl (fun f3=>?_) (fun f3=>?_)
     ·rw[q06]at f3
      have e3:o3 s k z=true:=by rw[hd3,decide_eq_true f3]
      refine gg rfl (q1f rfl rfl rfl rfl rfl rfl (by simp) (Nat.zero_le _) (by simp[q0M];omega) ?_)
      have PL:((A++A2).map Iss.enc++[Iss.enc ⟨3,(k:Nat),(z:Nat)⟩]).all (plain 4)=true:=by rw[List.all_append,q05 q1c];rfl
      refine gg rfl (q02 rfl rfl hU (gg rfl (q09 rfl (fun _=>?_) he)))
      refine gg rfl ?_
      rw[List.length_map]
      refine q01 rfl (fun f4=>?_) (fun f4=>?_)
      ·rw[q06]at f4
       have e4:o4 s k z=true:=by unfold o4;rw[hbt,decide_eq_true (by rw[←hmm];omega)];rfl
       refine gg rfl (q1f rfl rfl rfl rfl rfl rfl (by simp) (Nat.zero_le _) (by simp[q0M];omega) ?_)
       refine gg rfl (q04 (hN2 (z+1) (by omega) (by omega) (q03 rfl ⟨rfl,PL,?_,rfl,rfl,trivial⟩ ?_)))
       ·rw[List.all_append,q05 q1c];rfl
       rw[r1,r2,e3,e4,w2]
       simp[q00,Iss.enc,qAC,qes,quY,Nat.add_assoc]
      rw[q07]at f4
      have e4:o4 s k z=false:=by unfold o4;rw[hbt,decide_eq_false (by rw[←hmm];omega)];rfl
      refine gg rfl (q04 (hN2 (z+1) (by omega) (by omega) (q03 rfl ⟨rfl,PL,q05 q1c _,rfl,rfl,trivial⟩ ?_)))
      rw[r1,r2,e3,e4,w2]
      simp[q00,Iss.enc,qAC,qes,quY,Nat.add_assoc]
     rw[q07]at f3
     have e3:o3 s k z=false:=by rw[hd3,decide_eq_false (by omega)]
     have PL:((A++A2).map Iss.enc).all (plain 4)=true:=q05 q1c _
     refine gg rfl (q02 rfl rfl hU (gg rfl (q09 rfl (fun _=>?_) he)))
     refine gg rfl ?_
     rw[List.length_map]
     refine q01 rfl (fun f4=>?_) (fun f4=>?_)
     ·rw[q06]at f4
      have e4:o4 s k z=true:=by unfold o4;rw[hbt,decide_eq_true (by rw[←hmm];omega)];rfl
      refine gg rfl (q1f rfl rfl rfl rfl rfl rfl (by simp) (Nat.zero_le _) (by simp[q0M];omega) ?_)
      refine gg rfl (q04 (hN2 (z+1) (by omega) (by omega) (q03 rfl ⟨rfl,PL,?_,rfl,rfl,trivial⟩ ?_)))
      ·rw[List.all_append,q05 q1c];rfl
      rw[r1,r2,e3,e4,w2]
      simp[q00,Iss.enc,qAC,qes,quY,Nat.add_assoc]
     rw[q07]at f4
     have e4:o4 s k z=false:=by unfold o4;rw[hbt,decide_eq_false (by rw[←hmm];omega)];rfl
     refine gg rfl (q04 (hN2 (z+1) (by omega) (by omega) (q03 rfl ⟨rfl,PL,q05 q1c _,rfl,rfl,trivial⟩ ?_)))
     rw[r1,r2,e3,e4,w2]
     simp[q00,Iss.enc,qAC,qes,quY,Nat.add_assoc]
  rw[q07]at f
  obtain rfl:z=s.mults.length:=by omega
  clear hN2
  refine gg rfl (q04 (gg rfl (q04 (hN (k+1) (by omega) (by omega) (q03 rfl ⟨rfl,q05 q1c _,q05 q1c _,trivial⟩ ?_)))))
  rw[ps1,ps2,w1];rfl
 rw[q07]at e
 obtain rfl:k=s.seams.length:=by omega
 have l1:=q72 3 (o3 s) s.seams.length s.mults.length
 have l2:=q72 4 (o4 s) s.seams.length s.mults.length
 have hiw:s.seams.length*s.mults.length≤24*12:=Nat.mul_le_mul (by omega) hm12
 clear hN
 refine gg rfl (q04 (gg rfl (q1f rfl rfl rfl rfl (by simp) (q1x (n:=3) (fun _=>rfl) _) (by simp) (Nat.zero_le _) (by simp[q0M];omega) ?_)))
 refine gg rfl (q08 rfl rfl rfl ⟨q2D (by simp) ?_,trivial⟩ ?_)
 ·rw[List.all_append,q0X qmS,q0X qmS];rfl
 rw[q2E (by simp),←List.map_append];rfl
end Go.F

namespace Go.F
attribute [local irreducible] IntKind.wrap wpM
theorem q31 {h:q0d}{id n:Nat}{es:List D}(hh:h id=some (.row es n))(hp:es.all (plain 4)=true):q1e h id=some (.row es n):=by
 unfold q1e
 rw[hh]
 simp only[q1d,hp]
 rfl
def qDQ (n w:Nat)(g:Nat→Nat→Grd):List D:=(List.range n).map fun i=>qes w (g i)
theorem q2B (n w:Nat)(g:Nat→Nat→Grd):(qDQ n w g).all (plain 4)=true:=q05 (fun _=>rfl) _
def qqa (s:Sty)(T:List D)(ho:q0d)(zo:Frz):Prop:=ho 0=some (.row [s.enc] 7)∧zo 0=0∧ho 1=some (.row T 1)∧zo 1=0
theorem qmR {α:Type}{f:Nat→α}{i:Nat}{v:α}(hf:f i=v):upd f i v=f:=by
 funext k
 unfold upd
 cases hb:Nat.beq k i with
 |true=>rw[Nat.eq_of_beq_eq_true hb,hf];rfl
 |false=>rfl
theorem qjQ {s:Sty}{T:List D}{ho:q0d}{zo:Frz}(h:qqa s T ho zo):∃(h0:q0d) (z0:Frz),ho=upd (upd h0 0 (some (.row [s.enc] 7))) 1 (some (.row T 1))∧zo=upd (upd z0 0 0) 1 0:=
 ⟨ho,zo,by rw[qmR h.1,qmR h.2.2.1],by rw[qmR h.2.1,qmR h.2.2.2]⟩
set_option maxRecDepth 100000 in
set_option maxHeartbeats 8000000 in
theorem qI4 (s:Sty)(n w:Nat)(g:Nat→Nat→Grd)(hn:n≤1000)(hw:w≤1000){h:q0d}{z:Frz}{K:D→q0d→Frz→Nat→Prop}(hold:qqa s (qDQ n w g) h z)
 (hk:∀(h':q0d) (z':Frz),h' 141=some (.row ((q23 1 (o1 g) n w++q23 2 (o2 g) n w).map Iss.enc) 3)→z' 141=0→qqa s (qDQ n w g) h' z'→K (.ref 141 0 (q23 1 (o1 g) n w++q23 2 (o2 g) n w).length) h' z' 143):
 wpM TT (shr TT 5) 75 [.code k_verify_outlines.code] .normal (enter [.ref 1 0 n]) h z 75 (qeT k_verify_outlines K):=by
 obtain⟨h0,z0,rfl,rfl⟩:=qjQ hold
 refine gg rfl (q61 (S:=fun i:Nat=>([.ref 75 0 (q23 1 (o1 g) i w).length,.ref 76 0 (q23 2 (o2 g) i w).length,.ref 1 0 n,q00 n,q00 i],[some (.row ((q23 1 (o1 g) i w).map Iss.enc) 3),some (.row ((q23 2 (o2 g) i w).map Iss.enc) 3),none,none,none],[0,0,0,0,0])) (O:=fun _ ho zo=>qqa s (qDQ n w g) ho zo) (C:=fun i=>i≤n) (m:=fun i=>n-i) 0 (Nat.zero_le _) (by omega) ?_ ?_)
 ·exact q1S rfl ⟨rfl,rfl,q2B _ _ _,trivial⟩ (⟨rfl,q31 hold.1 rfl,hold.2.1,q31 hold.2.2.1 (q2B _ _ _),hold.2.2.2⟩)
 intro i hi ho zo hold N hN
 obtain⟨h0,z0,rfl,rfl⟩:=qjQ hold
 refine gg rfl (q01 rfl (fun e=>?_) (fun e=>?_))
 ·rw[q06]at e
  have hlt:i<n:=by omega
  have w1:=wS (n:=i)
  have l1:=q72 1 (o1 g) i w
  have l2:=q72 2 (o2 g) i w
  have hiw:i*w≤1000*1000:=Nat.mul_le_mul (by omega) hw
  have ps1:=q6x 1 (o1 g) i w
  have ps2:=q6x 2 (o2 g) i w
  generalize q23 1 (o1 g) i w=A at*
  generalize q23 2 (o2 g) i w=B at*
  refine gg rfl (q0F i rfl hold.2.2.1 rfl rfl rfl hlt (gg rfl (qeN rfl hold.2.2.1 (by rw[Nat.zero_add];exact qye g hlt) rfl ?_)))
  refine gg rfl ?_
  rw[List.length_map,List.length_map,List.length_range]
  refine q61 (S:=fun z:Nat=>([.ref 75 0 (A++q8H 1 (o1 g) i z).length,.ref 76 0 (B++q8H 2 (o2 g) i z).length,q00 i,.ref 1 0 n,q00 n,q00 i,qes w (g i),q00 w,q00 z],[some (.row ((A++q8H 1 (o1 g) i z).map Iss.enc) 3),some (.row ((B++q8H 2 (o2 g) i z).map Iss.enc) 3),none,none,none,none,none,none,none],[0,0,0,0,0,0,0,0,0])) (O:=fun _ ho zo=>qqa s (qDQ n w g) ho zo) (C:=fun z=>z≤w) (m:=fun z=>w-z) 0 (Nat.zero_le _) (by omega) ?_ ?_
  ·refine q1S rfl ⟨q05 q1c _,q05 q1c _,q2B _ _ _,trivial⟩ (⟨by simp[q8H,q00,qes],⟨q31 hold.1 rfl,hold.2.1,q31 hold.2.2.1 (q2B _ _ _),hold.2.2.2⟩⟩)
  intro z hz ho2 zo2 hold2 N2 hN2
  obtain⟨h02,z02,rfl,rfl⟩:=qjQ hold2
  refine gg rfl (q01 rfl (fun f=>?_) (fun f=>?_))
  ·rw[q06]at f
   have hlz:z<w:=by omega
   have w2:=wS (n:=z)
   have r1:=row_step 1 (o1 g) i z
   have r2:=row_step 2 (o2 g) i z
   have k1:=qiQ 1 (o1 g) i z
   have k2:=qiQ 2 (o2 g) i z
   have hx:=qyd (g i) hlz
   have e1:o1 g i z=!(g i z).outline:=rfl
   have e2:o2 g i z=((g i z).outline&&!(g i z).cut):=rfl
   generalize g i z=G at*
   generalize q8H 1 (o1 g) i z=A2 at*
   generalize q8H 2 (o2 g) i z=B2 at*
   refine gg rfl (q0i z rfl rfl rfl hx rfl ?_)
   cases ho:G.outline with
   |false=>
    rw[ho]at e1 e2
    refine gg rfl ?_
    rw[ho]
    refine q0e rfl (gg rfl (q1f rfl rfl rfl rfl rfl rfl (by simp) (Nat.zero_le _) (by simp[q0M];omega) ?_))
    refine gg rfl (q04 (hN2 (z+1) (by omega) (by omega) (q1S rfl ⟨?_,q05 q1c _,q2B _ _ _,trivial⟩ ?_)))
    ·rw[List.all_append,q05 q1c];rfl
    refine⟨?_,⟨q31 hold2.1 rfl,hold2.2.1,q31 hold2.2.2.1 (q2B _ _ _),hold2.2.2.2⟩⟩
    rw[r1,r2,e1,e2,w2]
    simp[q00,Iss.enc,qes]
    omega
   |true=>
    rw[ho]at e1 e2
    refine gg rfl ?_
    rw[ho]
    refine q0j rfl ?_
    cases hcu:G.cut with
    |false=>
     rw[hcu]at e2
     refine gg rfl (q0e rfl (gg rfl (q1f rfl rfl rfl rfl rfl rfl (by simp) (Nat.zero_le _) (by simp[q0M];omega) ?_)))
     refine gg rfl (q04 (hN2 (z+1) (by omega) (by omega) (q1S rfl ⟨q05 q1c _,?_,q2B _ _ _,trivial⟩ ?_)))
     ·rw[List.all_append,q05 q1c];rfl
     refine⟨?_,⟨q31 hold2.1 rfl,hold2.2.1,q31 hold2.2.2.1 (q2B _ _ _),hold2.2.2.2⟩⟩
     rw[r1,r2,e1,e2,w2]
     simp[q00,Iss.enc,qes]
     omega
    |true=>
     rw[hcu]at e2
     refine gg rfl (q0j rfl (gg rfl (q04 (hN2 (z+1) (by omega) (by omega) (q1S rfl ⟨q05 q1c _,q05 q1c _,q2B _ _ _,trivial⟩ ?_)))))
     refine⟨?_,⟨q31 hold2.1 rfl,hold2.2.1,q31 hold2.2.2.1 (q2B _ _ _),hold2.2.2.2⟩⟩
     rw[r1,r2,e1,e2,w2]
     simp[q00,qes]
  rw[q07]at f
  obtain rfl:z=w:=by omega
  clear hN2
  refine gg rfl (q04 (gg rfl (q04 (hN (i+1) (by omega) (by omega) (q1S rfl ⟨q05 q1c _,q05 q1c _,q2B _ _ _,trivial⟩ ?_)))))
  refine⟨?_,⟨q31 hold2.1 rfl,hold2.2.1,q31 hold2.2.2.1 (q2B _ _ _),hold2.2.2.2⟩⟩
  rw[ps1,ps2,w1];rfl
 rw[q07]at e
 obtain rfl:i=n:=by omega
 have l1:=q72 1 (o1 g) i w
 have l2:=q72 2 (o2 g) i w
 have hiw:i*w≤1000*1000:=Nat.mul_le_mul (by omega) hw
 clear hN
 refine gg rfl (q04 (gg rfl (q1f rfl rfl rfl rfl (by simp) (q1x (n:=3) (fun _=>rfl) _) (by simp) (Nat.zero_le _) (by simp[q0M];omega) ?_)))
 refine gg rfl (qp5 rfl rfl ?_)
 have hK:=hk (upd (upd (mkF 75 (upd (upd h0 0 (some (.row [s.enc] 7))) 1 (some (.row (qDQ i w g) 1))) none [some (.row ((q23 1 (o1 g) i w).map Iss.enc) 3),some (.row ((q23 2 (o2 g) i w).map Iss.enc) 3),none,none,none] 75) 75 none) 141 (some (.row ((q23 1 (o1 g) i w).map Iss.enc++(q23 2 (o2 g) i w).map Iss.enc) 3))) (upd (mkF 75 (upd (upd z0 0 0) 1 0) 0 [0,0,0,0,0] 75) 141 0) (by rw[List.map_append];rfl) rfl hold
 rw[List.length_append]at hK
 exact hK
end Go.F

namespace Go.F
section
variable {t:q0x}{h:q0d}{z:Frz}{nx:Nat}
theorem qu6 (t:q0x)(h:q0d)(live0:Live)(x k:Nat):q1Q t h (live0++[(x,k)])=q1Q t h live0++[q2i (look t h x)]:=by
 unfold q1Q
 rw[List.map_append];rfl
theorem qig (ids:List (Option Nat))(h:q0d)(t:q0x)(x k:Nat)(hx:q6i x=true):∀live0:Live,q3C 0 ids h t (live0++[(x,k)])=(q3C 0 ids h t live0&&(match q2i (look t h x)with|none=>true|some id=>qsc 0 ids (h id)))
 |[]=>by
  simp only[List.nil_append,q3C,hx,Bool.and_true,Bool.true_and]
  rfl
 |y::l=>by
  rw[List.cons_append,q3C,q3C,qig ids h t x k hx l,Bool.and_assoc]
theorem qu7 {live0:Live}{x:Nat}{t1:q0x}{h1:q0d}{z1:Frz}{nx1:Nat}(d:D){ids0:List (Option Nat)}{vs:List D}{bs:List (Option Blk)}{zs:List Nat}
 (hx:q6i x=true) (hn:q5e (live0++[(x,0)]) ⟨t,h,z,nx⟩=⟨t1,h1,z1,nx1⟩) (hlook:look t1 h1 x=d) (hi:q1Q t1 h1 live0=ids0)
 (ho:q3C 0 (ids0++[q2i d]) h1 t1 live0=true) (ho2:(match q2i d with|none=>true|some id=>qsc 0 (ids0++[q2i d]) (h1 id))=true)
 (hv:qgq 0 (ids0++[q2i d]) t1 (live0++[(x,0)])=vs) (hb:q7k 0 (ids0++[q2i d]) none (fun i=>q78 0 (ids0++[q2i d]) (h1 i)) (ids0++[q2i d]) 0=bs) (hz:q7k 0 (ids0++[q2i d]) 0 z1 (ids0++[q2i d]) 0=zs)
 (hnst:q5p (live0++[(x,0)])=true:=by rfl):q10 0 (live0++[(x,0)]) t h z nx fun _ _ kp=>kp=(vs,bs,zs):=by
 subst hlook
 subst hi
 refine qBe (s1:=⟨t1,h1,z1,nx1⟩) hn (qu6 _ _ _ _ _) ?_ hv hb hz rfl hnst
 rw[qig _ _ _ _ _ hx,ho]
 exact ho2
theorem qGX {live:Live}{s1 s2:St}{ids ids2:List (Option Nat)}{vs:List D}{bs:List (Option Blk)}{zs:List Nat}
 (hn:q5e live ⟨t,h,z,nx⟩=s1) (hi:q1Q s1.tmps s1.heap live=ids) (hp:q40 0 ids live s1=some s2) (hi2:q1Q s2.tmps s2.heap live=ids2) (ho:q3C 0 ids2 s2.heap s2.tmps live=true)
 (hv:qgq 0 ids2 s2.tmps live=vs) (hb:q7k 0 ids2 none (fun i=>q78 0 ids2 (s2.heap i)) ids2 0=bs) (hz:q7k 0 ids2 0 s2.frz ids2 0=zs)
 (hnst:q5p live=true:=by rfl):q10 0 live t h z nx fun _ _ kp=>kp=(vs,bs,zs):=by
 unfold q10
 rw[hnst]
 simp only
 refine⟨s2.heap,s2.frz,(vs,bs,zs),rfl,?_⟩
 unfold qb4
 rw[hn,hi,hp]
 simp only
 unfold qw0
 rw[hi2,ho]
 simp only
 rw[qjv,hv,q7B _ _ (Nat.le_refl _),q7B _ _ (Nat.le_refl _),hb,hz]
theorem qu8 {ids:List (Option Nat)}{x id esz:Nat}{s:St}{es es':List D}(hid:q2i (look s.tmps s.heap x)=some id)(hh:s.heap id=some (.row es esz))(hb:es.all (okD 0 ids)=false)(hm:es.mapM (qoh s.heap depth)=some es'):
 q4w 0 ids x s=some ⟨s.tmps,upd s.heap id (some (.row es' esz)),q77 s.heap s.frz (es.flatMap (q0O s.heap depth)),s.next⟩:=by
 unfold q4w
 rw[hid]
 simp only
 rw[hh]
 simp only
 rw[hb,hm]
end
theorem plain6 {ids:List (Option Nat)}{a b c d e f:Nat}{s s2:St}(h1:q4w 0 ids a s=some s)(h2:q4w 0 ids b s=some s2)(h3:q4w 0 ids c s2=some s2)(h4:q4w 0 ids d s2=some s2)(h5:q4w 0 ids e s2=some s2)(h6:q4w 0 ids f s2=some s2):
 q40 0 ids [(a,0),(b,0),(c,0),(d,0),(e,0),(f,0)] s=some s2:=by
 simp only[q40,h1,h2,h3,h4,h5,h6]
theorem qih:∀(l:List D) (i:Nat),nth l i=l.getD i .bad
 |[],_=>by simp[nth]
 |d::l,0=>rfl
 |d::l,i+1=>by rw[nth,qih l i];rfl
theorem qx4 {α:Type}{g:D→Option D}{f f':α→D}:∀{l:List α},(∀x∈l,g (f x)=some (f' x))→(l.map f).mapM g=some (l.map f')
 |[],_=>rfl
 |x::l,h=>by
  rw[List.map_cons,List.mapM_cons,h x (List.mem_cons_self ..),qx4 fun y hy=>h y (List.mem_cons_of_mem _ hy)]
  rfl
end Go.F

namespace Go.F
attribute [local irreducible] IntKind.wrap wpM
theorem qIx {t t1:q0x}{h h1:q0d}{z z1:Frz}{nx:Nat}{live:Live}{rows:List (List D)}{vs:List D}{bs:List (Option Blk)}{zs:List Nat}{K:Kept→Prop}(hn:qcn live t h z nx=(t1,h1,z1))(hr:qlW t1 h1 live=some rows)(hp:qeM rows)
 (hv:q9I 0 (q0B t1 live) t1 live=vs) (hb:q9J 0 (q0B t1 live) h1 (q0B t1 live) 0=bs) (hz:qi7 0 (q0B t1 live) z1 (q0B t1 live) 0=zs) (hk:K (vs,bs,zs)) (hnst:q5p live=false:=by rfl):q10 0 live t h z nx fun _ _ kp=>K kp:=by
 unfold q10
 simp only[hnst]
 unfold q6S
 refine qiI _ _ _ _ _ _ fun nx'=>?_
 rw[hn]
 refine qpU hr hp ?_
 rw[q6t,q6u,hv,hb,hz]
 exact hk
def o5 (s:Sty)(i z:Nat):Bool:=decide (1≤z)&&(decide (mz s (z-1)<mz s z)&&((qbu s i (z-1)).outline&&((qbu s i z).outline&&decide ((qbu s i z).area<(qbu s i (z-1)).area))))
def qIz (s:Sty):List Iss:=
 q23 1 (o1 (qbu s)) s.pieces.length s.mults.length++q23 2 (o2 (qbu s)) s.pieces.length s.mults.length++
 (q23 3 (o3 s) s.seams.length s.mults.length++q23 4 (o4 s) s.seams.length s.mults.length)++
 q23 5 (o5 s) s.pieces.length s.mults.length++q23 6 (o6 s) s.pieces.length s.mults.length
def qve (s:Sty):List Iss×Int:=if q2C s≠0 then([],q2C s)else(qIz s,0)
def cellS (s:Sty)(a:Nat)(d:D)(i:Nat):D:=if i<a then qes s.mults.length (qbu s i)else if i=a then d else .nilsl
def q3v (s:Sty)(a:Nat)(d:D):List D:=(List.range s.pieces.length).map (cellS s a d)
def q7x (s:Sty)(a b:Nat):List D:=((List.range b).map (qbu s a)).map Grd.enc
def dB:Nat→D
 |0=> .nilsl
 |b+1=> .ref 10 0 (b+1)
def blkB (s:Sty)(a:Nat):Nat→Option Blk
 |0=>none
 |b+1=>some (.row (q7x s a (b+1)) 3)
theorem qIy (s:Sty)(i:Nat):q8H 5 (o5 s) i 1=[]:=by
 rw[row_step]
 have:o5 s i 0=false:=rfl
 rw[this];rfl
theorem qyh (s:Sty)(a:Nat)(d d':D):(q3v s a d).set a d'=q3v s a d':=by
 unfold q3v
 apply List.ext_getElem
 ·simp
 intro i h1 h2
 rw[List.getElem_set]
 simp only[List.getElem_map,List.getElem_range,cellS]
 split
 ·rename_i e;subst e;rw[if_neg (by omega),if_pos rfl]
 rename_i e;by_cases hi:i<a
 ·rw[if_pos hi,if_pos hi]
 rw[if_neg hi,if_neg hi,if_neg (fun h=>e h.symm),if_neg (fun h=>e h.symm)]
theorem q73 {s:Sty}{a:Nat}(d:D)(h:a<s.pieces.length):(q3v s a d)[a]?=some d:=by
 simp[q3v,h,cellS]
theorem qiS (s:Sty)(a:Nat)(d:D)(ids:List (Option Nat))(h:okD 0 ids d=true):(q3v s a d).all (okD 0 ids)=true:=by
 unfold q3v
 rw[List.all_map,List.all_eq_true]
 intro i _
 simp only[Function.comp,cellS]
 split
 ·rfl
 split
 ·exact h
 rfl
theorem qGs {s:Sty}{a:Nat}{d:D}{ids:List (Option Nat)}(ha:a<s.pieces.length)(h:okD 0 ids d=false):(q3v s a d).all (okD 0 ids)=false:=by
 rw[List.all_eq_false]
 exact⟨d,List.mem_of_getElem? (q73 d ha),by rw[h];decide⟩
theorem qew (s:Sty)(a:Nat)(d:D)(ids:List (Option Nat)):(q3v s a d).map (qj7 0 ids)=q3v s a (qj7 0 ids d):=by
 unfold q3v
 rw[List.map_map]
 apply List.map_congr_left
 intro i _
 simp only[Function.comp,cellS]
 split
 ·rfl
 split
 ·rfl
 rfl
theorem qDV (s:Sty)(a:Nat):q3v s a (qes s.mults.length (qbu s a))=q3v s (a+1) .nilsl:=by
 unfold q3v
 apply List.map_congr_left
 intro i _
 simp only[cellS]
 by_cases h1:i<a
 ·rw[if_pos h1,if_pos (by omega)]
 rw[if_neg h1]
 by_cases h2:i=a
 ·subst h2;rw[if_pos rfl,if_pos (by omega)]
 rw[if_neg h2,if_neg (by omega)];split<;>rfl
theorem qDW {s:Sty}{a:Nat}{d d':D}{h:q0d}(hd:qoh h depth d=some d'):(q3v s a d).mapM (qoh h depth)=some (q3v s a d'):=by
 unfold q3v
 refine qx4 fun i _=>?_
 simp only[cellS]
 split
 ·rfl
 split
 ·exact hd
 rfl
theorem qDX {h:q0d}{id len sz:Nat}{es:List D}(hh:h id=some (.row es sz))(hl:len=es.length)(hd:es.all (dat 4)=true):qoh h depth (.ref id 0 len)=some (.lst es):=qDt (n:=11) hh hl hd (by decide)
theorem qGt {α:Type}{f:Nat→List α}{a:Nat}{x:α}(h0:∀i,i≠a→f i=[])(h1:f a=[x]):∀n,a<n→(List.range n).flatMap f=[x]:=by
 have zero:∀n,n≤a→(List.range n).flatMap f=[]:=by
  intro n hn
  rw[List.flatMap_eq_nil_iff]
  intro i hi
  rw[List.mem_range]at hi
  exact h0 i (by omega)
 intro n
 induction n with
 |zero=>intro h;omega
 |succ n ih=>
  intro h
  rw[List.range_succ,List.flatMap_append,List.flatMap_cons,List.flatMap_nil,List.append_nil]
  by_cases e:n=a
  ·subst e;rw[zero n (Nat.le_refl _),h1];rfl
  rw[ih (by omega),h0 n e,List.append_nil]
theorem qAG {s:Sty}{a id len sz:Nat}{h:q0d}{es:List D}(ha:a<s.pieces.length)(hh:h id=some (.row es sz))(hd:es.all (dat 4)=true):(q3v s a (.ref id 0 len)).flatMap (q0O h depth)=[id]:=by
 unfold q3v
 rw[List.flatMap_map]
 refine qGt (a:=a) (fun i hi=>?_) ?_ _ ha
 ·simp only[cellS]
  split
  ·rfl
  first|rfl|(rw[if_neg hi];rfl)
 have e:cellS s a (.ref id 0 len) a=.ref id 0 len:=by unfold cellS;rw[if_neg (by omega),if_pos rfl]
 rw[e]
 exact qA9 (n:=11) hh hd
theorem qIw (s:Sty):q3v s s.pieces.length .nilsl=(List.range s.pieces.length).map fun i=>qes s.mults.length (qbu s i):=by
 unfold q3v
 apply List.map_congr_left
 intro i hi
 rw[List.mem_range]at hi
 simp only[cellS,if_pos hi]
theorem qeQ (s:Sty)(a b:Nat):q7x s a (b+1)=q7x s a b++[(qbu s a b).enc]:=by
 unfold q7x
 rw[List.range_succ,List.map_append,List.map_append];rfl
theorem qqg (s:Sty)(a b:Nat):(q7x s a b).length=b:=by simp[q7x]
theorem qyi (s:Sty)(a b:Nat):(q7x s a b).all (dat 4)=true:=q0X qHK _
theorem qyj (s:Sty)(a b:Nat)(ids:List (Option Nat)):(q7x s a b).all (okD 0 ids)=true:=by
 unfold q7x
 rw[List.all_map,List.all_eq_true]
 intro x _;rfl
theorem qyk (s:Sty)(a b:Nat)(ids:List (Option Nat)):(q7x s a b).map (qj7 0 ids)=q7x s a b:=by
 unfold q7x
 rw[List.map_map]
 apply List.map_congr_left
 intro x _;rfl
set_option maxRecDepth 100000 in
set_option maxHeartbeats 16000000 in
theorem qID (s:Sty)(hB:StyB s):PU qma [s.enc]=some (.tup [qqc (qve s).1,.int .i64 (qve s).2]):=by
 refine q0g (fn:=qbN) rfl (q0a ?_)
 refine gg rfl (q02 rfl rfl (q3t s hB) (gg rfl (q01 rfl (fun g=>?_) (fun g=>?_))))
 ·rw[q0u]at g
  refine gg rfl (q08 rfl rfl rfl trivial ?_)
  rw[qve,if_pos g];rfl
 have h:q2C s=0:=q0z.1 g
 rw[qve,if_neg (by simp[h])]
 have hok:=qiE h
 have hp12:=hok.pieces
 have hm12:s.mults.length≤12:=by have:=hok.mults;have:=hok.sizes;omega
 have hm1:0<s.mults.length:=by have:=hok.mults;have:=hok.size;omega
 refine gg rfl ?_
 rw[List.length_map]
 refine q3O s.pieces.length rfl rfl rfl (by simp[q0M];omega) ?_
 have ez:List.replicate s.pieces.length D.nilsl=q3v s 0 .nilsl:=by
  unfold q3v
  apply List.ext_getElem
  ·simp
  intro i h1 h2;simp[cellS]
 show wpM _ _ _ _ _ _ (upd _ _ (some (.row (List.replicate s.pieces.length D.nilsl) 1))) _ _ _
 rw[ez]
 refine gg rfl ?_
 rw[List.length_map]
 refine q0l (S:=fun a:Nat=>([.ptr 0 0 0,.ref 1 0 s.pieces.length,Go.F.pieces s.pieces,q00 s.pieces.length,q00 a,.bad],[some (.row [s.enc] 7),some (.row (q3v s a .nilsl) 1),none,none,none,none],[0,0,0,0,0,0])) (C:=fun a=>a≤s.pieces.length) (m:=fun a=>s.pieces.length-a) 0 (Nat.zero_le _) (by omega) ?_ ?_
 ·refine qu5 rfl rfl ?_ rfl ?_ rfl
  ·show((q3v s 0 .nilsl).all (okD 0 _)&&true)=true
   rw[qiS _ _ _ _ rfl];rfl
  exact congrArg (fun r:List D=>([some (.row [s.enc] 7),some (.row r 1),none,none,none,none]:List (Option Blk))) (qew _ _ _ _)
 intro a ha N hN
 refine gg rfl (q01 rfl (fun e=>?_) (fun e=>?_))
 ·rw[q06]at e
  have hlt:a<s.pieces.length:=by omega
  have w1:=wS (n:=a)
  have hx:=q5w hlt
  refine gg rfl (q0i a rfl rfl rfl hx rfl (gg rfl ?_))
  rw[List.length_map]
  refine q0l (S:=fun b:Nat=>([.ptr 0 0 0,.ref 1 0 s.pieces.length,q00 a,.ptr 3 0 0,Go.F.pieces s.pieces,q00 s.pieces.length,q00 a,ints s.mults,q00 s.mults.length,q00 b,.bad],[some (.row [s.enc] 7),some (.row (q3v s a (dB b)) 1),none,some (.row [(pc s.pieces a).enc] 7),none,none,none,none,none,none,blkB s a b],[0,0,0,0,0,0,0,0,0,0,0])) (C:=fun b=>b≤s.mults.length) (m:=fun b=>s.mults.length-b) 0 (Nat.zero_le _) (by omega) ?_ ?_
  ·refine qu7 (live0:=[(1,0),(5,0),(6,0),(7,0),(24,0),(25,0),(26,0),(32,0),(33,0),(34,0)]) (x:=7340037) .nilsl rfl rfl ?_ rfl ?_ rfl rfl ?_ rfl
   ·show nth (q3v s a .nilsl) (0+a)=_
    rw[qih,Nat.zero_add a,List.getD_eq_getElem?_getD,q73 _ hlt];rfl
   ·show((q3v s a .nilsl).all (okD 0 _)&&true)=true
    rw[qiS _ _ _ _ rfl];rfl
   exact congrArg (fun r:List D=>([some (.row [s.enc] 7),some (.row r 1),none,some (.row [(pc s.pieces a).enc] 7),none,none,none,none,none,none,none]:List (Option Blk))) (qew _ _ _ _)
  intro b hb N2 hN2
  refine gg rfl (q01 rfl (fun f=>?_) (fun f=>?_))
  ·rw[q06]at f
   have hlb:b<s.mults.length:=by omega
   have w2:=wS (n:=b)
   have hex:=qAB (pc s.pieces a) (mz s b) (by have:=(qiR h hlt).2.2;omega)
   have hmb:(s.mults.map q00)[b]?=some (.int .i64 (mz s b)):=q9H hlb
   refine gg rfl (q0i b rfl rfl rfl hmb rfl (gg rfl (q0F a rfl rfl rfl rfl rfl hlt (gg rfl ?_))))
   cases b with
   |zero=>
    refine qeN rfl rfl (by rw[Nat.zero_add];exact q73 _ hlt) rfl ?_
    refine gg rfl (q02 rfl rfl hex (gg rfl (qDJ rfl rfl rfl rfl rfl (by simp[q0M]) ?_)))
    refine gg rfl ?_
    rw[Nat.zero_add]
    refine q0F a rfl rfl rfl rfl rfl hlt (gg rfl ?_)
    rw[Nat.zero_add]
    refine qiL rfl rfl rfl (Nat.zero_le _) (q73 _ hlt) rfl ?_
    rw[qyh]
    refine gg rfl (q04 (hN2 ((0)+1) hlb (by omega) ?_))
    rw[←w2]
    refine qu7 (live0:=[(1,0),(5,0),(6,0),(7,0),(24,0),(25,0),(26,0),(32,0),(33,0),(34,0)]) (x:=7340037) (.ref 65 0 ((0)+1)) rfl rfl ?_ rfl ?_ ?_ rfl ?_ rfl
    ·show nth (q3v s a (.ref 65 0 ((0)+1))) (0+a)=_
     rw[qih,Nat.zero_add a,List.getD_eq_getElem?_getD,q73 _ hlt];rfl
    ·show((q3v s a (.ref 65 0 ((0)+1))).all (okD 0 _)&&true)=true
     rw[qiS _ _ _ _ rfl];rfl
    ·show(q7x s a (0)++[(qbu s a (0)).enc]).all (okD 0 _)=true
     rw[←qeQ,qyj]
    have hq:∀ids,(q7x s a (0)++[(qbu s a (0)).enc]).map (qj7 0 ids)=q7x s a ((0)+1):=fun ids=>by rw[←qeQ,qyk]
    exact(congrArg (fun r:List D=>([some (.row [s.enc] 7),some (.row r 1),none,some (.row [(pc s.pieces a).enc] 7),none,none,none,none,none,none,some (.row ((q7x s a (0)++[(qbu s a (0)).enc]).map (qj7 0 [some 0,some 1,none,some 3,none,none,none,none,none,none,some 65])) 3)]:List (Option Blk))) (qew _ _ _ _)).trans (congrArg (fun r:List D=>([some (.row [s.enc] 7),some (.row (q3v s a (.ref 10 0 ((0)+1))) 1),none,some (.row [(pc s.pieces a).enc] 7),none,none,none,none,none,none,some (.row r 3)]:List (Option Blk))) (hq _))
   |succ b=>
    refine qeN rfl rfl (by rw[Nat.zero_add];exact q73 _ hlt) rfl ?_
    refine gg rfl (q02 rfl rfl hex (gg rfl (q1f rfl rfl rfl rfl rfl rfl (by simp[qqg]) (Nat.zero_le _) (by simp[q0M,qqg];omega) ?_)))
    refine gg rfl ?_
    rw[Nat.zero_add]
    refine q0F a rfl rfl rfl rfl rfl hlt (gg rfl ?_)
    rw[Nat.zero_add]
    refine qiL rfl rfl rfl (Nat.zero_le _) (q73 _ hlt) rfl ?_
    rw[qyh]
    refine gg rfl (q04 (hN2 ((b+1)+1) hlb (by omega) ?_))
    rw[←w2]
    refine qu7 (live0:=[(1,0),(5,0),(6,0),(7,0),(24,0),(25,0),(26,0),(32,0),(33,0),(34,0)]) (x:=7340037) (.ref 65 0 ((b+1)+1)) rfl rfl ?_ rfl ?_ ?_ rfl ?_ rfl
    ·show nth (q3v s a (.ref 65 0 ((b+1)+1))) (0+a)=_
     rw[qih,Nat.zero_add a,List.getD_eq_getElem?_getD,q73 _ hlt];rfl
    ·show((q3v s a (.ref 65 0 ((b+1)+1))).all (okD 0 _)&&true)=true
     rw[qiS _ _ _ _ rfl];rfl
    ·show(q7x s a (b+1)++[(qbu s a (b+1)).enc]).all (okD 0 _)=true
     rw[←qeQ,qyj]
    have hq:∀ids,(q7x s a (b+1)++[(qbu s a (b+1)).enc]).map (qj7 0 ids)=q7x s a ((b+1)+1):=fun ids=>by rw[←qeQ,qyk]
    exact(congrArg (fun r:List D=>([some (.row [s.enc] 7),some (.row r 1),none,some (.row [(pc s.pieces a).enc] 7),none,none,none,none,none,none,some (.row ((q7x s a (b+1)++[(qbu s a (b+1)).enc]).map (qj7 0 [some 0,some 1,none,some 3,none,none,none,none,none,none,some 65])) 3)]:List (Option Blk))) (qew _ _ _ _)).trans (congrArg (fun r:List D=>([some (.row [s.enc] 7),some (.row (q3v s a (.ref 10 0 ((b+1)+1))) 1),none,some (.row [(pc s.pieces a).enc] 7),none,none,none,none,none,none,some (.row r 3)]:List (Option Blk))) (hq _))
  rw[q07]at f
  obtain rfl:b=s.mults.length:=by omega
  clear hN2
  refine gg rfl (q04 (gg rfl (q04 (hN (a+1) hlt (by omega) ?_))))
  rw[←w1]
  obtain⟨w',hw'⟩:∃w',s.mults.length=w'+1:=⟨s.mults.length-1,by omega⟩
  have hnx:=qDV s a
  have hd0:dB s.mults.length=.ref 10 0 s.mults.length:=by rw[hw'];rfl
  have hb0:blkB s a s.mults.length=some (.row (q7x s a s.mults.length) 3):=by rw[hw'];rfl
  rw[hd0,hb0]
  refine qGX rfl rfl (plain6 rfl (qu8 rfl rfl (qGs hlt rfl) (qDW (qDX rfl (qqg s a _).symm (qyi s a _)))) rfl rfl rfl rfl) rfl ?_ rfl ?_ ?_
  ·show((q3v s a (.lst (q7x s a s.mults.length))).all (okD 0 _)&&true)=true
   rw[qiS _ _ _ _ rfl];rfl
  ·have hq:∀ids,(q3v s a (.lst (q7x s a s.mults.length))).map (qj7 0 ids)=q3v s (a+1) .nilsl:=fun ids=>by rw[qew];exact hnx
   exact congrArg (fun r:List D=>([some (.row [s.enc] 7),some (.row r 1),none,none,none,none]:List (Option Blk))) (hq _)
  show q7k 0 _ 0 (q77 _ _ ((q3v s a (.ref 10 0 s.mults.length)).flatMap (q0O _ depth))) _ 0=_
  rw[qAG (es:=q7x s a s.mults.length) (sz:=3) hlt rfl (qyi s a _)]
  rfl
 rw[q07]at e
 obtain rfl:a=s.pieces.length:=by omega
 clear hN
 have hsm:=qIv s h
 have hun:=qIs s s.mults.length hm1 (by omega) (fun u hu=>⟨(hok.use u hu).1,(hok.use u hu).2.1⟩) (by have:=hok.uses;omega)
 have hq:q3v s s.pieces.length .nilsl=qDQ s.pieces.length s.mults.length (qbu s):=qIw s
 rw[hq]
 refine gg rfl (q04 (gg rfl (qjM rfl rfl (qI4 s s.pieces.length s.mults.length (qbu s) (by omega) (by omega) ⟨rfl,rfl,rfl,rfl⟩ ?_))))
 intro h' z' hr hz hold
 obtain⟨g0,g1,g2,g3⟩:=hold
 obtain⟨hh,rfl⟩:∃hh:q0d,h'=upd (upd (upd hh 0 (some (.row [s.enc] 7))) 1 (some (.row (qDQ s.pieces.length s.mults.length (qbu s)) 1))) 141 (some (.row ((q23 1 (o1 (qbu s)) s.pieces.length s.mults.length++q23 2 (o2 (qbu s)) s.pieces.length s.mults.length).map Iss.enc) 3)):=⟨h',by rw[qmR g0,qmR g2,qmR hr]⟩
 obtain⟨zz,rfl⟩:∃zz:Frz,z'=upd (upd (upd zz 0 0) 1 0) 141 0:=⟨z',by rw[qmR g1,qmR g3,qmR hz]⟩
 clear g0 g1 g2 g3 hr hz
 have q:∀(kd:Int) (P:Nat→Nat→Bool) (n:Nat),n≤24→(q23 kd P n s.mults.length).length≤24*12:=fun kd P n hn=>Nat.le_trans (q72 kd P n _) (Nat.mul_le_mul hn hm12)
 have q1:=q 1 (o1 (qbu s)) s.pieces.length (by omega)
 have q2:=q 2 (o2 (qbu s)) s.pieces.length (by omega)
 have q3:=q 3 (o3 s) s.seams.length hok.seams
 have q4:=q 4 (o4 s) s.seams.length hok.seams
 have q6:=q 6 (o6 s) s.pieces.length (by omega)
 unfold qIz
 generalize q23 6 (o6 s) s.pieces.length s.mults.length=L6 at*
 generalize hA1:q23 1 (o1 (qbu s)) s.pieces.length s.mults.length++q23 2 (o2 (qbu s)) s.pieces.length s.mults.length=A1 at*
 generalize hA2:q23 3 (o3 s) s.seams.length s.mults.length++q23 4 (o4 s) s.seams.length s.mults.length=A2 at*
 have hl1:A1.length≤600:=by rw[←hA1,List.length_append];omega
 have hl2:A2.length≤600:=by rw[←hA2,List.length_append];omega
 clear hA1 hA2 q1 q2 q3 q4
 refine gg rfl (qHJ [1] rfl rfl ⟨q2D (by simp[qDQ]) (q0X (fun _=>rfl) _),trivial⟩ (by rw[q2E (by simp[qDQ])];exact hsm) rfl (by show([]++(q0O _ (11+1) (.ref 1 0 _)++[]))=_;rw[qA9 rfl (q0X (fun _=>rfl) _)];rfl) ?_)
 refine gg rfl (qAr rfl rfl rfl (q1x (n:=3) (fun _=>rfl) _) (by simp) (Nat.zero_le _) (by simp[q0M];omega) ?_)
 rw[←List.map_append]
 refine gg rfl ?_
 have hgl:(qDQ s.pieces.length s.mults.length (qbu s)).length=s.pieces.length:=by simp[qDQ]
 refine q0l (S:=fun i:Nat=>([.ptr 0 0 0,.ref 1 0 (A1++A2++q23 5 (o5 s) i s.mults.length).length,.ref 2 0 s.pieces.length,q00 s.pieces.length,q00 i],[some (.row [s.enc] 7),some (.row ((A1++A2++q23 5 (o5 s) i s.mults.length).map Iss.enc) 3),some (.row (qDQ s.pieces.length s.mults.length (qbu s)) 1),none,none],[0,0,(qDQ s.pieces.length s.mults.length (qbu s)).length,0,0])) (C:=fun i=>i≤s.pieces.length) (m:=fun i=>s.pieces.length-i) 0 (Nat.zero_le _) (by omega) ?_ ?_
 ·refine qIx rfl rfl ⟨rfl,q05 q1c _,q2B _ _ _,trivial⟩ rfl rfl rfl ?_
  have e0:A1++A2++q23 5 (o5 s) 0 s.mults.length=A1++A2:=by simp[q23]
  rw[e0,show(A1++A2).length=A1.length+(A2.map Iss.enc).length by simp]
  rfl
 intro i hi N hN
 refine gg rfl (q01 rfl (fun e=>?_) (fun e=>?_))
 ·rw[q06]at e
  have hlt:i<s.pieces.length:=by omega
  have w1:=wS (n:=i)
  have l5:=q72 5 (o5 s) i s.mults.length
  have hiw:i*s.mults.length≤12*12:=Nat.mul_le_mul (by omega) hm12
  have ps:=q6x 5 (o5 s) i s.mults.length
  have r0:=qIy s i
  generalize q23 5 (o5 s) i s.mults.length=A5 at*
  refine gg rfl ?_
  rw[Nat.zero_add]
  refine q0F i rfl rfl rfl rfl rfl hlt (gg rfl (qeN rfl rfl (by rw[Nat.zero_add];exact qye (qbu s) hlt) rfl ?_))
  refine gg rfl (q0l (S:=fun z:Nat=>([.ptr 0 0 0,.ref 1 0 (A1++A2++A5++q8H 5 (o5 s) i z).length,q00 i,qes s.mults.length (qbu s i),q00 z,.ref 5 0 s.pieces.length,q00 s.pieces.length,q00 i],[some (.row [s.enc] 7),some (.row ((A1++A2++A5++q8H 5 (o5 s) i z).map Iss.enc) 3),none,none,none,some (.row (qDQ s.pieces.length s.mults.length (qbu s)) 1),none,none],[0,0,0,0,0,(qDQ s.pieces.length s.mults.length (qbu s)).length,0,0])) (C:=fun z=>1≤z∧z≤s.mults.length) (m:=fun z=>s.mults.length-z) 1 ⟨Nat.le_refl _,hm1⟩ (by omega) ?_ ?_)
  ·refine qIx rfl rfl ⟨rfl,q05 q1c _,q2B _ _ _,trivial⟩ rfl rfl rfl ?_
   rw[r0,List.append_nil]
   rfl
  rintro z ⟨hz1,hz⟩ N2 hN2
  refine gg rfl ?_
  rw[List.length_map,List.length_map,List.length_range]
  refine q01 rfl (fun f=>?_) (fun f=>?_)
  ·rw[q06]at f
   have hlz:z<s.mults.length:=by omega
   have w2:=wS (n:=z)
   have w3:IntKind.i64.wrap ((z:Int)-1)=((z-1:Nat):Int):=by rw[wrap64 (by omega) (by omega)];omega
   have k5:=qiQ 5 (o5 s) i z
   have rs:=row_step 5 (o5 s) i z
   have eo:o5 s i z=(decide (mz s (z-1)<mz s z)&&((qbu s i (z-1)).outline&&((qbu s i z).outline&&decide ((qbu s i z).area<(qbu s i (z-1)).area)))):=by unfold o5;rw[decide_eq_true hz1,Bool.true_and]
   have m1:(s.mults.map q00)[z]?=some (.int .i64 (mz s z)):=q9H hlz
   have m2:(s.mults.map q00)[z-1]?=some (.int .i64 (mz s (z-1))):=q9H (by omega)
   have g1:=qyd (qbu s i) hlz
   have g2:=qyd (w:=s.mults.length) (z:=z-1) (qbu s i) (by omega)
   have hsh:=qIp (qbu s i (z-1)) (qbu s i z)
   generalize ((qbu s i (z-1)).outline&&((qbu s i z).outline&&decide ((qbu s i z).area<(qbu s i (z-1)).area)))=b at*
   generalize qbu s i (z-1)=G1 at*
   generalize hG2:qbu s i z=G2 at*
   generalize mz s (z-1)=M1 at*
   generalize mz s z=M2 at*
   generalize q8H 5 (o5 s) i z=R5 at*
   refine gg rfl (q0i z rfl rfl rfl m1 rfl (gg rfl ?_))
   rw[w3]
   refine q0i (z-1) rfl rfl rfl m2 rfl (gg rfl (q09 rfl (fun c=>?_) (fun c=>?_)))
   ·rw[q06]at c
    rw[decide_eq_true c,Bool.true_and]at eo
    refine gg rfl ?_
    rw[w3]
    refine q0i (z-1) rfl rfl rfl g2 rfl (gg rfl (q0i z rfl rfl rfl g1 rfl (gg rfl (q02 rfl rfl hsh ?_))))
    cases b with
    |false=>
     have e5:q8H 5 (o5 s) i (z+1)=R5:=by rw[rs,eo];simp
     refine gg rfl (q0j rfl (gg rfl (q04 (hN2 (z+1) ⟨by omega,by omega⟩ (by omega) (qIx rfl rfl ⟨rfl,q05 q1c _,q2B _ _ _,trivial⟩ rfl rfl rfl ?_)))))
     rw[e5,←w2];rfl
    |true=>
     have e5:A1++A2++A5++q8H 5 (o5 s) i (z+1)=A1++A2++A5++R5++[⟨5,(i:Nat),(z:Nat)⟩]:=by rw[rs,eo];simp
     refine gg rfl (q0e rfl (gg rfl (q1f rfl rfl rfl rfl rfl rfl (by simp) (Nat.zero_le _) (by simp[q0M];omega) ?_)))
     refine gg rfl (q04 (hN2 (z+1) ⟨by omega,by omega⟩ (by omega) (qIx rfl rfl ⟨rfl,?_,q2B _ _ _,trivial⟩ rfl rfl rfl ?_)))
     ·rw[List.all_append,q05 q1c];rfl
     rw[e5,←w2]
     generalize A1++A2++A5++R5=B
     have e6:(B++[(⟨5,(i:Nat),(z:Nat)⟩:Iss)]).length=B.length+1:=by simp
     rw[e6,List.map_append];rfl
   rw[q07]at c
   rw[decide_eq_false (by omega),Bool.false_and]at eo
   have e5:q8H 5 (o5 s) i (z+1)=R5:=by rw[rs,eo];simp
   refine gg rfl (q0j rfl (gg rfl (q04 (hN2 (z+1) ⟨by omega,by omega⟩ (by omega) (qIx rfl rfl ⟨rfl,q05 q1c _,q2B _ _ _,trivial⟩ rfl rfl rfl ?_)))))
   rw[e5,←w2];rfl
  rw[q07]at f
  obtain rfl:z=s.mults.length:=by omega
  clear hN2
  refine gg rfl (q04 (gg rfl (q04 (hN (i+1) (by omega) (by omega) (qIx rfl rfl ⟨rfl,q05 q1c _,q2B _ _ _,trivial⟩ rfl rfl rfl ?_)))))
  rw[ps,←List.append_assoc,←w1];rfl
 rw[q07]at e
 obtain rfl:i=s.pieces.length:=by omega
 have l5:=q72 5 (o5 s) s.pieces.length s.mults.length
 have hiw:s.pieces.length*s.mults.length≤12*12:=Nat.mul_le_mul hp12 hm12
 clear hN
 generalize q23 5 (o5 s) s.pieces.length s.mults.length=A5 at*
 refine gg rfl (q04 (gg rfl (q02 rfl rfl hun (gg rfl (qAr rfl rfl rfl (q1x (n:=3) (fun _=>rfl) _) (by simp) (Nat.zero_le _) (by simp[q0M];omega) ?_)))))
 refine gg rfl (q08 rfl rfl rfl ⟨q2D (by simp[Nat.add_assoc]) ?_,trivial⟩ ?_)
 ·rw[List.all_append,q0X qmS,q0X qmS];rfl
 rw[q2E (by simp[Nat.add_assoc]),←List.map_append];rfl
end Go.F

namespace Go.F
theorem mem_row {kd:Int}{P:Nat→Nat→Bool}{i w:Nat}{x:Iss}:x∈q8H kd P i w↔∃z,z<w∧P i z=true∧x=⟨kd,(i:Nat),(z:Nat)⟩:=by
 unfold q8H
 rw[List.mem_map]
 constructor
 ·rintro⟨z,hz,rfl⟩
  rw[List.mem_filter,List.mem_range]at hz
  exact⟨z,hz.1,hz.2,rfl⟩
 rintro⟨z,h1,h2,rfl⟩
 exact⟨z,List.mem_filter.2 ⟨List.mem_range.2 h1,h2⟩,rfl⟩
theorem qIM (s:Sty)(hp:s.pieces.length≤1000)(hs:s.seams.length≤1000)(hm:s.mults.length≤1000):(qIz s).length≤6000000:=by
 have p:∀(kd:Int) (P:Nat→Nat→Bool) (n:Nat),n≤1000→(q23 kd P n s.mults.length).length≤1000000:=fun kd P n hn=>Nat.le_trans (q72 kd P n _) (Nat.mul_le_mul hn hm)
 unfold qIz
 simp only[List.length_append]
 have h1:=p 1 (o1 (qbu s)) _ hp
 have h2:=p 2 (o2 (qbu s)) _ hp
 have h3:=p 3 (o3 s) _ hs
 have h4:=p 4 (o4 s) _ hs
 have h5:=p 5 (o5 s) _ hp
 have h6:=p 6 (o6 s) _ hp
 omega
end Go.F

namespace Go.F
attribute [local irreducible] IntKind.wrap wpM
section
variable {T:Tab}{sh:Shr}{nx0:Nat}{t:q0x}{h:q0d}{z:Frz}{nx:Nat}
end
theorem StyL.B {s:Sty}(h:StyL s):StyB s where
 sizes:=Nat.le_trans h.sizes (by decide)
 size:=fun x hx=>by
  obtain⟨i,hi,rfl⟩:=List.mem_iff_getElem.1 hx
  exact Nat.le_trans (h.size i hi) (by decide)
 mults:=Nat.le_trans h.mults (by decide)
 pieces:=Nat.le_trans h.pieces (by decide)
 uses:=Nat.le_trans h.uses (by decide)
 seams:=Nat.le_trans h.seams (by decide)
 ops:=Nat.le_trans h.ops (by decide)
 corners:=fun p hp=>by
  obtain⟨i,hi,rfl⟩:=List.mem_iff_getElem.1 hp
  exact q6s hi▸Nat.le_trans (h.piece i hi).corners (by decide)
 widths:=fun p hp=>by
  obtain⟨i,hi,rfl⟩:=List.mem_iff_getElem.1 hp
  exact q6s hi▸Nat.le_trans (h.piece i hi).widths (by decide)
 notches:=fun p hp=>by
  obtain⟨i,hi,rfl⟩:=List.mem_iff_getElem.1 hp
  exact q6s hi▸Nat.le_trans (h.piece i hi).notches (by decide)
end Go.F

namespace Go.F
attribute [local irreducible] IntKind.wrap wpM
def isA (l:List Iss)(i:Nat):Iss:=l.getD i ⟨0,0,0⟩
theorem qBA {l:List Iss}{i:Nat}(h:i<l.length):isA l i=l[i]:=by simp[isA,h]
theorem qBB {l:List Iss}{i:Nat}(h:i<l.length):(l.map Iss.enc)[i]?=some (isA l i).enc:=by simp[isA,h]
theorem qGn (x y:Iss):(!(eqb x.kind y.kind&&(eqb x.a y.a&&(eqb x.b y.b&&true))))=decide (x≠y):=by
 rw[q2c,q2c,q2c]
 by_cases h:x=y
 ·subst h;simp
 rw[decide_eq_true h]
 have:¬(x.kind=y.kind∧x.a=y.a∧x.b=y.b):=by
  rintro⟨h1,h2,h3⟩
  apply h
  cases x;cases y;simp_all
 simp only[Bool.and_true,Bool.not_eq_true',Bool.and_eq_false_imp,decide_eq_true_eq,decide_eq_false_iff_not]
 intro h1 h2 h3
 exact this ⟨h1,h2,h3⟩
theorem qGA (p q:List Iss)(hp:p.length<4611686018427387904):PU qjb [qqc p,qqc q]=some (.bool (decide (p=q))):=by
 refine q0g (fn:=qae) rfl (q0a ?_)
 refine gg rfl (q01 rfl (fun h1=>?_) (fun h1=>?_))
 ·refine gg rfl (q08 rfl rfl rfl trivial ?_)
  rw[q0u,List.length_map,List.length_map]at h1
  have:p≠q:=by rintro rfl;exact h1 rfl
  simp[this]
 rw[q0z,List.length_map,List.length_map]at h1
 refine gg rfl (q0l (S:=fun k:Nat=>([qqc p,qqc q,q00 k],[none,none,none],[0,0,0])) (C:=fun k=>k≤p.length∧∀i,i<k→isA p i=isA q i) (m:=fun k=>p.length-k) 0 ⟨by omega,fun i hi=>by omega⟩ (by omega) ?_ ?_)
 ·exact q03 rfl trivial (by simp[qqc,q00])
 intro k ⟨hk,hall⟩ N hN
 refine gg rfl (q01 rfl (fun g1=>?_) (fun g1=>?_))
 ·rw[q06,List.length_map]at g1
  have hlt:k<p.length:=by omega
  have w1:=wS (n:=k)
  refine gg rfl (q0i k rfl rfl rfl (qBB hlt) rfl (gg rfl (q0i k rfl rfl rfl (qBB (by omega)) rfl ?_)))
  refine gg rfl (q01 rfl (fun g2=>?_) (fun g2=>?_))
  ·refine gg rfl (q04 (gg rfl (q08 rfl rfl rfl trivial ?_)))
   have g2:(!(eqb (isA p k).kind (isA q k).kind&&(eqb (isA p k).a (isA q k).a&&(eqb (isA p k).b (isA q k).b&&true))))=true:=g2
   rw[qGn,decide_eq_true_eq]at g2
   have:p≠q:=by rintro rfl;exact g2 rfl
   simp[this]
  refine gg rfl (q04 ?_)
  have g2:(!(eqb (isA p k).kind (isA q k).kind&&(eqb (isA p k).a (isA q k).a&&(eqb (isA p k).b (isA q k).b&&true))))=false:=g2
  rw[qGn,decide_eq_false_iff_not,Decidable.not_not]at g2
  refine hN (k+1) ⟨by omega,fun i hi=>?_⟩ (by omega) (q03 rfl trivial (by simp[qqc,q00,w1]))
  by_cases hik:i<k
  ·exact hall i hik
  obtain rfl:i=k:=by omega
  exact g2
 rw[q07,List.length_map]at g1
 refine gg rfl (q04 (gg rfl (q08 rfl rfl rfl trivial ?_)))
 have:p=q:=by
  refine List.ext_getElem (by omega) fun i hi1 hi2=>?_
  rw[←qBA hi1,←qBA hi2];exact hall i (by omega)
 simp[this]
end Go.F

namespace Go.F
mutual
def eqD:D→D→Bool
 |.bool a,.bool b=>a==b
 |.int k n,.int k' n'=>decide (k=k')&&decide (n=n')
 |.str a,.str b=>decide (a=b)
 |.lst l,.lst m=>eqL l m
 |.agg l,.agg m=>eqL l m
 |.tup l,.tup m=>eqL l m
 |_,_=>false
def eqL:List D→List D→Bool
 |[],[]=>true
 |a::l,b::m=>eqD a b&&eqL l m
 |_,_=>false
end
mutual
theorem qFG:∀{a b:D},eqD a b=true→a=b
 |.bool a,.bool b,h=>by simp[eqD]at h;rw[h]
 |.int k n,.int k' n',h=>by simp[eqD]at h;rw[h.1,h.2]
 |.str a,.str b,h=>by simp[eqD]at h;rw[h]
 |.lst l,.lst m,h=>by rw[eqD]at h;rw[quk h]
 |.agg l,.agg m,h=>by rw[eqD]at h;rw[quk h]
 |.tup l,.tup m,h=>by rw[eqD]at h;rw[quk h]
 |.float ..,_,h=>by simp[eqD]at h
 |.nilsl,_,h=>by simp[eqD]at h
 |.ref ..,_,h=>by simp[eqD]at h
 |.pl ..,_,h=>by simp[eqD]at h
 |.ptr ..,_,h=>by simp[eqD]at h
 |.fn ..,_,h=>by simp[eqD]at h
 |.mref ..,_,h=>by simp[eqD]at h
 |.mlst ..,_,h=>by simp[eqD]at h
 |.opq ..,_,h=>by simp[eqD]at h
 |.bad,_,h=>by simp[eqD]at h
theorem quk:∀{a b:List D},eqL a b=true→a=b
 |[],[],_=>rfl
 |a::l,b::m,h=>by rw[eqL,Bool.and_eq_true]at h;rw[qFG h.1,quk h.2]
 |[],_::_,h=>by simp[eqL]at h
 |_::_,[],h=>by simp[eqL]at h
end
def eqO:Option D→D→Bool
 |some a,b=>eqD a b
 |none,_=>false
theorem qul {a:Option D}{b:D}(h:eqO a b=true):a=some b:=by
 cases a with
 |none=>simp[eqO]at h
 |some a=>rw[qFG h]
end Go.F

namespace Go.F
def sqPc (k:Int):Piece:=⟨⟨#[102,114,111,110,116]⟩,[⟨⟨#[108,111,119]⟩,[⟨0,0⟩,⟨10,0⟩]⟩,⟨⟨#[114,105,103,104,116]⟩,[⟨10,0⟩,⟨10,10⟩]⟩,⟨⟨#[104,105,103,104]⟩,[⟨10,10⟩,⟨0,10⟩]⟩,⟨⟨#[108,101,102,116]⟩,[⟨0,10⟩,⟨0,0⟩]⟩],1,[],[⟨0,0⟩,⟨k,0⟩,⟨k,0⟩,⟨0,0⟩],[0,0,0,0],false⟩
def sqS (k:Int)(us:List Use)(sm:List Sew):Sty:=⟨⟨#[115,104,105,114,116]⟩,[⟨#[83]⟩,⟨#[77]⟩,⟨#[76]⟩],[-1,0,1],[sqPc k],us,sm,[]⟩
def qvc:List Use:=[⟨0,1,false⟩]
def sew1:List Sew:=[⟨0,0,0,3,false,1000⟩]
theorem qHF:eqO (run prog q4B qgt 12 q4y [.int .i64 2]) (sqS 2 qvc []).enc=true:=by decide+kernel
theorem qHG:eqO (run prog q4B qgt 12 q4y [.int .i64 (-2)]) (sqS (-2) qvc []).enc=true:=by decide+kernel
theorem qHH:eqO (run prog q4B qgt 12 q4y [.int .i64 10]) (sqS 10 qvc []).enc=true:=by decide+kernel
theorem qIK:PU q4y [.int .i64 2]=some (sqS 2 qvc []).enc:=qiY (qul qHF)
theorem sq2_PU:PU q4y [.int .i64 (-2)]=some (sqS (-2) qvc []).enc:=qiY (qul qHG)
theorem sq3_PU:PU q4y [.int .i64 10]=some (sqS 10 qvc []).enc:=qiY (qul qHH)
theorem ex_a:qve (sqS 2 qvc [])=([],0):=by decide+kernel
theorem ex_b:qve (sqS (-2) qvc [])=([⟨5,0,1⟩,⟨5,0,2⟩],0):=by decide+kernel
theorem ex_c:qve (sqS 10 [] [])=([⟨1,0,0⟩,⟨6,0,0⟩],0):=by decide+kernel
theorem ex_d:qve (sqS 2 qvc sew1)=([⟨3,0,0⟩,⟨3,0,2⟩],0):=by decide+kernel
theorem ex_e:(qve ⟨⟨#[]⟩,[],[],[],[],[],[]⟩)=([],1):=by decide+kernel
end Go.F

namespace Go.F
attribute [local irreducible] IntKind.wrap wpM
theorem qIH (s:Sty)(hB:StyB s):PU qEP [s.enc]=some (.bool (decide (qve s=([],0)))):=by
 have h:=qID s hB
 generalize qve s=r at*
 obtain⟨l,e⟩:=r
 refine q0g (fn:=qn6) rfl (q0a ?_)
 refine gg rfl (q02 rfl rfl h (gg rfl (q09 rfl (fun g=>?_) (fun g=>?_))))
 ·rw[q1n]at g
  refine gg rfl (q08 rfl rfl rfl trivial ?_)
  simp only at g
  rw[q2c,List.length_map,g]
  cases l<;>simp
  omega
 rw[q20]at g
 refine gg rfl (q08 rfl rfl rfl trivial ?_)
 simp only at g
 simp[g]
def noS:Sty:=⟨⟨#[]⟩,[],[],[],[],[],[]⟩
theorem sqB1:StyB (sqS 2 qvc []):=⟨by decide,by decide,by decide,by decide,by decide,by decide,by decide,by decide,by decide,by decide⟩
theorem sqB2:StyB (sqS (-2) qvc []):=⟨by decide,by decide,by decide,by decide,by decide,by decide,by decide,by decide,by decide,by decide⟩
theorem sqB3:StyB (sqS 10 [] []):=⟨by decide,by decide,by decide,by decide,by decide,by decide,by decide,by decide,by decide,by decide⟩
theorem sqB4:StyB (sqS 2 qvc sew1):=⟨by decide,by decide,by decide,by decide,by decide,by decide,by decide,by decide,by decide,by decide⟩
theorem noB:StyB noS:=⟨by decide,by decide,by decide,by decide,by decide,by decide,by decide,by decide,by decide,by decide⟩
set_option maxRecDepth 100000 in
set_option maxHeartbeats 16000000 in
theorem qIL:PU qHQ []=some (.bool true):=by
 have v1:=qID _ sqB1
 have v2:=qID _ sqB2
 have v3:=qID _ sqB3
 have v4:=qID _ sqB4
 have v5:=qID _ noB
 have c1:=qIH _ sqB1
 have c2:=qIH _ sqB4
 have c3:=qIH _ noB
 rw[ex_a]at v1 c1
 rw[ex_b]at v2
 rw[ex_c]at v3
 rw[ex_d]at v4 c2
 rw[show qve noS=([],1)from ex_e]at v5 c3
 rw[decide_eq_true rfl]at c1
 rw[decide_eq_false (by simp)]at c2 c3
 have hn:∀{x:Int} {P:Prop},nqb x x=true→P:=fun h=>absurd rfl (q0u.1 h)
 have s1:=qGA [⟨5,0,1⟩,⟨5,0,2⟩] [⟨5,0,1⟩,⟨5,0,2⟩] (by decide)
 have s2:=qGA [⟨1,0,0⟩,⟨6,0,0⟩] [⟨1,0,0⟩,⟨6,0,0⟩] (by decide)
 have s3:=qGA [⟨3,0,0⟩,⟨3,0,2⟩] [⟨3,0,0⟩,⟨3,0,2⟩] (by decide)
 rw[decide_eq_true rfl]at s1 s2 s3
 refine q0g (fn:=qvu) rfl (q0a ?_)
 refine gg rfl (q02 rfl rfl qIK (gg rfl (q02 rfl rfl v1 (gg rfl (q02 rfl rfl sq2_PU (gg rfl (q02 rfl rfl v2 (gg rfl (q02 rfl rfl sq3_PU (gg rfl (q02 rfl rfl v3 (gg rfl (q02 rfl rfl qIK ?_)))))))))))))
 refine gg rfl (q1R rfl rfl ⟨⟨by decide,rfl⟩,trivial⟩ v4 fun z=>(gg rfl (q02 rfl rfl v5 (gg rfl (q09 rfl hn (fun _=>?_))))))
 refine gg rfl (q09 rfl hn (fun _=>?_))
 refine gg rfl (q09 rfl hn (fun _=>?_))
 refine gg rfl (q09 rfl hn (fun _=>?_))
 refine gg rfl (q09 rfl hn (fun _=>?_))
 refine gg rfl (q01 rfl hn (fun _=>?_))
 refine gg rfl (q1R rfl rfl ⟨⟨by decide,rfl⟩,trivial⟩ s1 fun z=>(gg rfl (q0o rfl (gg rfl (q1R rfl rfl ⟨⟨by decide,rfl⟩,trivial⟩ s2 fun z=>(gg rfl (q0o rfl (gg rfl (q1R rfl rfl ⟨⟨by decide,rfl⟩,trivial⟩ s3 fun z=>(gg rfl (q0j rfl (gg rfl (q02 rfl rfl qIK ?_)))))))))))))
 exact gg rfl (q02 rfl rfl c1 (gg rfl (q0h rfl (gg rfl (q1R rfl rfl ⟨⟨by decide,rfl⟩,trivial⟩ c2 fun z=>(gg rfl (q0h rfl (gg rfl (q02 rfl rfl c3 (gg rfl (q08 rfl rfl rfl trivial rfl)))))))))))
end Go.F

namespace Go.F
attribute [local irreducible] IntKind.wrap wpM
theorem q9C (n m:Int)(h0:0≤m)(h1:m≤1000000):PU qtD [.int .i64 n,.int .i64 m]=some (.bool (inB n m)):=by
 have w:IntKind.i64.wrap (0-m)= -m:=by rw[wrap64 (by omega) (by omega)];omega
 have w':IntKind.i64.wrap (-m)= -m:=ww
 refine q0g (fn:=qhh) rfl (q0a ?_)
 refine gg rfl ?_
 repeat' (first
  |refine goP 800 rfl rfl ?_
  |refine q0h rfl ?_|refine q0o rfl ?_|refine q09 rfl (fun _=>?_) (fun _=>?_)
  |refine q0e rfl ?_|refine q0j rfl ?_|refine q01 rfl (fun _=>?_) (fun _=>?_)
  |refine q0L rfl (fun _=>?_) (fun _=>?_)
  |refine q08 rfl rfl rfl trivial ?_)
 all_goals (try simp only[w,w']at*)
 all_goals ((try simp only[q1M,q26,q2c,q42,decide_eq_true_eq,decide_eq_false_iff_not,Bool.not_eq_true,Bool.not_eq_false,Int.not_lt,Int.not_le]at*);first|(simp_all[inB];done) |(simp_all[inB];omega) |(rw[D.bool.injEq,Bool.eq_iff_iff];simp[inB];omega) |(rw[D.bool.injEq,Bool.eq_iff_iff];simp_all[inB];omega) |(simp[inB];split<;>(try split)<;>omega))
theorem qio (a b:Int)(ha0: -1099511627776≤a)(ha:a≤1099511627776)(hb:0<b)(hb':b≤1099511627776):PU qwx [.int .i64 a,.int .i64 b]=some (.int .i64 (q1s a b)):=by
 have w3:=ww (x:=2*b)
 refine q0g (fn:=qkI) rfl (q0a ?_)
 refine gg rfl (q01 rfl (fun h=>?_) (fun h=>?_))
 ·rw[q06]at h
  have w1:=ww (x:= -2*a)
  have w2:=ww (x:= -2*a+b)
  refine gg rfl (qeh rfl rfl (by rw[w3];omega) ?_)
  refine gg rfl (q08 rfl rfl rfl trivial ?_)
  have hd:(-2*a+b).tdiv (2*b)=(-2*a+b)/(2*b):=Int.tdiv_eq_ediv_of_nonneg (by omega)
  have hq:(-2*a+b)/(2*b)≤ -2*a+b:=Int.ediv_le_self _ (by omega)
  have hq0:0≤(-2*a+b)/(2*b):=Int.ediv_nonneg (by omega) (by omega)
  rw[w1,w2,w3,hd,wrap64 (x:=(-2*a+b)/(2*b)) (by omega) (by omega),wrap64 (by omega) (by omega),q1s,if_pos (by omega),show 2* -a+b= -2*a+b by omega]
  simp
 rw[q07]at h
 have w1:=ww (x:=2*a)
 have w2:=ww (x:=2*a+b)
 refine gg rfl (qeh rfl rfl (by rw[w3];omega) ?_)
 refine gg rfl (q08 rfl rfl rfl trivial ?_)
 have hd:(2*a+b).tdiv (2*b)=(2*a+b)/(2*b):=Int.tdiv_eq_ediv_of_nonneg (by omega)
 have hq:(2*a+b)/(2*b)≤2*a+b:=Int.ediv_le_self _ (by omega)
 have hq0:0≤(2*a+b)/(2*b):=Int.ediv_nonneg (by omega) (by omega)
 rw[w1,w2,w3,hd,wrap64 (by omega) (by omega),q1s,if_neg (by omega)]
set_option maxHeartbeats 4000000 in
theorem qr5 (e:Edge)(a b:Spot)(h2:2≤e.line.length)(h40:e.line.length≤40)(hw:∀s∈e.line,q0v s 1048576=true)(ha:qhX a 100000)(hb:qhX b 100000):
 PU qtE [e.enc,a.enc,b.enc]=some (Edge.enc ⟨e.name,qtp e.line a b⟩):=by
 obtain⟨name,l⟩:=e
 simp only at h2 h40 hw⊢
 have w0:=ww (x:=(l.length:Int)-1)
 refine q0g (fn:=qhj) rfl (q0a ?_)
 refine gg rfl ?_
 rw[List.length_map,w0]
 refine q0l (S:=fun k:Nat=>([.ptr 0 0 0,.ptr 1 0 0,.ptr 2 0 0,.ptr 3 0 0,.ptr 4 0 0,.int .i64 ((l.length:Int)-1),q00 k,.bad],[some (.row [Edge.enc ⟨name,l⟩] 2),some (.row [a.enc] 2),some (.row [b.enc] 2),some (.row [.agg [.str ⟨#[]⟩,.nilsl]] 2),some (.row [.agg [.str name,.ref 7 0 k]] 2),none,none,some (.row (((List.range k).map (qeS l a b)).map Spot.enc) 2)],[0,0,0,0,0,0,0,0])) (C:=fun k=>k≤l.length) (m:=fun k=>l.length-k) 0 (Nat.zero_le _) (by omega) ?_ ?_
 ·exact qu5 rfl rfl rfl rfl rfl rfl
 intro k hk N hN
 refine gg rfl (q01 rfl (fun e1=>?_) (fun e1=>?_))
 ·rw[q0G]at e1
  have hlt:k<l.length:=by omega
  have w1:=wS (n:=k)
  have hin:=hw (pt l k) (by rw[q0D hlt];exact List.getElem_mem _)
  rw[q1C]at hin
  have c1:=qmJ hlt h40 ha.1 hb.1
  have c2:=qmJ hlt h40 ha.2 hb.2
  have d0:IntKind.i64.wrap ((l.length:Int)-1-(k:Int))=(l.length:Int)-1-k:=ww
  have d1:=ww (x:=((l.length:Int)-1-k) *a.x)
  have d2:=ww (x:=(k:Int) *b.x)
  have d3:=ww (x:=((l.length:Int)-1-k) *a.x+(k:Int) *b.x)
  have d4:=ww (x:=((l.length:Int)-1-k) *a.y)
  have d5:=ww (x:=(k:Int) *b.y)
  have d6:=ww (x:=((l.length:Int)-1-k) *a.y+(k:Int) *b.y)
  have q1:=qio (((l.length:Int)-1-k) *a.x+(k:Int) *b.x) ((l.length:Int)-1) (by omega) (by omega) (by omega) (by omega)
  have q2:=qio (((l.length:Int)-1-k) *a.y+(k:Int) *b.y) ((l.length:Int)-1) (by omega) (by omega) (by omega) (by omega)
  have hst:(((List.range (k+1)).map (qeS l a b)).map Spot.enc)=((List.range k).map (qeS l a b)).map Spot.enc++[(qeS l a b k).enc]:=by
   rw[List.range_succ,List.map_append,List.map_append];rfl
  have hro:=fun ids=>qCN ids ((List.range (k+1)).map (qeS l a b))
  have hrr:=fun ids=>qCO ids ((List.range (k+1)).map (qeS l a b))
  have r1:=q8L (a:=((l.length:Int)-1-k) *a.x+(k:Int) *b.x) (b:=(l.length:Int)-1) (m:=8000000) (by omega) (by omega) (by omega)
  have r2:=q8L (a:=((l.length:Int)-1-k) *a.y+(k:Int) *b.y) (b:=(l.length:Int)-1) (m:=8000000) (by omega) (by omega) (by omega)
  have d7:=ww (x:=(pt l k).x+q1s (((l.length:Int)-1-k) *a.x+(k:Int) *b.x) ((l.length:Int)-1))
  have d8:=ww (x:=(pt l k).y+q1s (((l.length:Int)-1-k) *a.y+(k:Int) *b.y) ((l.length:Int)-1))
  refine gg rfl ?_
  rw[d0,d1,d2,d3]
  refine q02 rfl rfl q1 (gg rfl ?_)
  rw[d0,d4,d5,d6]
  refine q02 rfl rfl q2 (gg rfl (q0i k rfl rfl rfl (q0P hlt) rfl (gg rfl ?_)))
  rw[d7]
  refine q0i k rfl rfl rfl (q0P hlt) rfl (gg rfl ?_)
  rw[d8]
  refine q1f rfl rfl rfl rfl rfl rfl (by simp) (Nat.zero_le _) (by simp[q0M];omega) ?_
  refine gg rfl (q04 ?_)
  have hst2:((List.range k).map (qeS l a b)).map Spot.enc++[.agg [.int .i64 ((pt l k).x+q1s (((l.length:Int)-1-k) *a.x+(k:Int) *b.x) ((l.length:Int)-1)),.int .i64 ((pt l k).y+q1s (((l.length:Int)-1-k) *a.y+(k:Int) *b.y) ((l.length:Int)-1))]]=((List.range (k+1)).map (qeS l a b)).map Spot.enc:=hst.symm
  rw[hst2,w1]
  refine hN (k+1) (by omega) (by omega) (qu5 rfl rfl ?_ rfl ?_ rfl)
  ·show((((List.range (k+1)).map (qeS l a b)).map Spot.enc).all (okD 0 _)&&true)=true
   rw[hro];rfl
  exact congrArg (fun r:List D=>([some (.row [Edge.enc ⟨name,l⟩] 2),some (.row [a.enc] 2),some (.row [b.enc] 2),some (.row [.agg [.str ⟨#[]⟩,.nilsl]] 2),some (.row [.agg [.str name,.ref 7 0 (k+1)]] 2),none,none,some (.row r 2)]:List (Option Blk))) (hrr _)
 rw[q0H]at e1
 obtain rfl:k=l.length:=by omega
 refine gg rfl (q04 (gg rfl (q08 rfl rfl rfl ⟨q2D (by simp) (q0X q2q _),trivial⟩ ?_)))
 rw[q2E (by simp)];rfl
end Go.F

namespace Go.F
attribute [local irreducible] IntKind.wrap wpM
set_option maxHeartbeats 4000000 in
theorem q56 (p:Piece)(m:Int)(hc:p.corners.length≤1000000):PU qtx [p.enc,.int .i64 m]=some (encGr (q0q p m)):=by
 refine q0g (fn:=qgJ) rfl (q0a ?_)
 refine gg rfl (q02 rfl rfl (q9C m 100 (by decide) (by decide)) ?_)
 cases hm:inB m 100 with
 |false=>
  refine gg rfl (q0e rfl (gg rfl (q08 rfl rfl rfl trivial ?_)))
  rw[q0q,if_pos hm];rfl
 |true=>
  have hm1:¬inB m 100=false:=by rw[hm];decide
  rw[qeD]at hm
  refine gg rfl (q0j rfl (gg rfl ?_))
  rw[List.length_map,List.length_map]
  refine q01 rfl (fun g1=>?_) (fun g1=>?_)
  ·rw[q0u]at g1
   refine gg rfl (q08 rfl rfl rfl trivial ?_)
   rw[q0q,if_neg hm1,if_pos (by omega)];rfl
  rw[q0z]at g1
  have g1':p.corners.length=p.edges.length:=by omega
  refine gg rfl (q0l (S:=fun k:Nat=>([.int .i64 m,.ptr 1 0 0,q00 p.edges.length,q00 k],[none,some (.row [p.enc] 7),none,none],[0,0,0,0])) (C:=fun k=>k≤p.corners.length∧∀j (hj:j<p.corners.length),j<k→(inB p.corners[j].x 1000&&inB p.corners[j].y 1000)=true) (m:=fun k=>p.corners.length-k) 0 ⟨Nat.zero_le _,fun j _ hj=>by omega⟩ (by omega) ?_ ?_)
  ·exact q03 rfl ⟨rfl,trivial⟩ (by simp[q0k,q00,Piece.enc,edges,qgy,ints])
  rintro k ⟨hk,hin⟩ N hN
  refine gg rfl (q01 rfl (fun e1=>?_) (fun e1=>?_))
  ·rw[q06]at e1
   have hlt:k<p.corners.length:=by omega
   have w1:=wS (n:=k)
   have hx:=q9C (pt p.corners k).x 1000 (by decide) (by decide)
   have hy:=q9C (pt p.corners k).y 1000 (by decide) (by decide)
   have bad:(inB (pt p.corners k).x 1000&&inB (pt p.corners k).y 1000)=false→q0q p m=([],3):=by
    intro h
    rw[q0q,if_neg hm1,if_neg (by omega),if_pos]
    refine q27 hlt ?_
    rw[←q0D hlt,h];rfl
   refine gg rfl (q0i k rfl rfl rfl (q0P hlt) rfl (gg rfl (q02 rfl rfl hx ?_)))
   cases bx:inB (pt p.corners k).x 1000 with
   |false=>
    refine gg rfl (q0h rfl (gg rfl (q0e rfl (gg rfl (q04 (gg rfl (q08 rfl rfl rfl trivial ?_)))))))
    rw[bad (by rw[bx];rfl)];rfl
   |true=>
    refine gg rfl (q0o rfl (gg rfl (q0i k rfl rfl rfl (q0P hlt) rfl (gg rfl (q02 rfl rfl hy ?_)))))
    cases by':inB (pt p.corners k).y 1000 with
    |false=>
     refine gg rfl (q0e rfl (gg rfl (q04 (gg rfl (q08 rfl rfl rfl trivial ?_)))))
     rw[bad (by rw[bx,by'];rfl)];rfl
    |true=>
     refine gg rfl (q0j rfl (gg rfl (q04 (hN (k+1) ⟨hlt,fun j hj hjk=>?_⟩ (by omega) (q03 rfl ⟨rfl,trivial⟩ (by simp[q0k,q00,Piece.enc,edges,qgy,ints,w1]))))))
     by_cases e:j=k
     ·subst e;rw[←q0D hj,bx,by'];rfl
     exact hin j hj (by omega)
  rw[q07]at e1
  obtain rfl:k=p.corners.length:=by omega
  clear hN
  have hany:¬(p.corners.any fun s=>!(inB s.x 1000&&inB s.y 1000))=true:=by
   rw[q1W fun k hk=>by rw[hin k hk hk];rfl];decide
  have hnear:∀s∈p.corners,qhX s 1000:=by
   intro s hs
   obtain⟨j,hj,rfl⟩:=List.getElem_of_mem hs
   have:=hin j hj hj
   rw[Bool.and_eq_true,qeD,qeD]at this
   exact⟨by omega,by omega⟩
  refine gg rfl (q04 (gg rfl (q02 rfl rfl (q7u p.edges) (gg rfl (q01 rfl (fun g2=>?_) (fun g2=>?_))))))
  ·rw[q0u]at g2
   refine gg rfl (q08 rfl rfl rfl trivial ?_)
   rw[q0q,if_neg hm1,if_neg (by omega),if_neg hany,if_pos g2];rfl
  have g2:q0J p.edges=0:=q0z.1 g2
  obtain⟨c1,c2,c3,c4,c5⟩:=q0Z g2
  have hr:q0q p m=if q0J (q3G p m)≠0 then([],q0J (q3G p m))else(q3G p m,0):=by
   rw[q0q,if_neg hm1,if_neg (by omega),if_neg hany,if_neg (by omega)]
  rw[hr]
  have hm2:m.natAbs≤100:=by omega
  refine gg rfl (q0l (S:=fun k:Nat=>([.int .i64 m,.ptr 1 0 0,q00 p.edges.length,.ref 3 0 k,q00 k],[none,some (.row [p.enc] 7),none,some (.row (((List.range k).map (q7a p m)).map Edge.enc) 2),none],[0,0,0,0,0])) (C:=fun k=>k≤p.edges.length) (m:=fun k=>p.edges.length-k) 0 (Nat.zero_le _) (by omega) ?_ ?_)
  ·exact q03 rfl ⟨rfl,rfl,trivial⟩ rfl
  intro k hk N hN
  refine gg rfl (q01 rfl (fun e2=>?_) (fun e2=>?_))
  ·rw[q06]at e2
   have hlt:k<p.edges.length:=by omega
   have w1:=wS (n:=k)
   have hL:=q2P (q18 c3 hlt)
   obtain⟨n2,n40,hw⟩:=q2j hL
   have na:=q8p hnear hm2 (by omega) k
   have nb:=q8p hnear hm2 (by omega) (k+1)
   have mv:=qr5 (eg p.edges k) (q7i p.corners m k) (q7i p.corners m (k+1)) n2 n40 hw na nb
   have hst:(((List.range (k+1)).map (q7a p m)).map Edge.enc)=((List.range k).map (q7a p m)).map Edge.enc++[(q7a p m k).enc]:=by
    rw[List.range_succ,List.map_append,List.map_append];rfl
   have hka:q7i p.corners m k=⟨m*(pt p.corners k).x,m*(pt p.corners k).y⟩:=by unfold q7i;rw[Nat.mod_eq_of_lt (by omega)]
   have hkb:q7i p.corners m (k+1)=⟨m*(pt p.corners ((k+1)%p.edges.length)).x,m*(pt p.corners ((k+1)%p.edges.length)).y⟩:=by unfold q7i;rw[g1']
   have hge:q7a p m k=⟨(eg p.edges k).name,qtp (eg p.edges k).line ⟨m*(pt p.corners k).x,m*(pt p.corners k).y⟩ ⟨m*(pt p.corners ((k+1)%p.edges.length)).x,m*(pt p.corners ((k+1)%p.edges.length)).y⟩⟩:=by unfold q7a;rw[hka,hkb]
   rw[hge]at hst
   have hml:(k+1)%p.edges.length<p.corners.length:=by rw[g1'];exact Nat.mod_lt _ (by omega)
   have hrem:(((k+1:Nat):Int)).tmod (p.edges.length:Nat)=(((k+1)%p.edges.length:Nat):Int):=by rw[Int.tmod_eq_emod_of_nonneg (by omega)];omega
   rw[hka,hkb]at mv
   rw[hka]at na
   rw[hkb]at nb
   obtain⟨na1,na2⟩:=na
   obtain⟨nb1,nb2⟩:=nb
   simp only at na1 na2 nb1 nb2
   generalize (k+1)%p.edges.length=k2 at*
   have wa:=ww (x:=m*(pt p.corners k).x)
   have wb:=ww (x:=m*(pt p.corners k).y)
   have wc:=ww (x:=m*(pt p.corners k2).x)
   have wd:=ww (x:=m*(pt p.corners k2).y)
   refine gg rfl (q0i k rfl rfl rfl (q0P (by omega)) rfl ?_)
   refine gg rfl ?_
   rw[w1]
   refine q37 rfl rfl (by omega) ?_
   rw[hrem]
   refine gg rfl (q0i k2 rfl rfl rfl (q0P hml) rfl (gg rfl (q0i k rfl rfl rfl (q1O hlt) rfl (gg rfl ?_))))
   rw[wa,wb,wc,wd]
   refine q02 rfl rfl mv (gg rfl (q1f rfl rfl rfl rfl rfl rfl (by simp) (Nat.zero_le _) (by simp[q0M];omega) ?_))
   refine gg rfl (q04 (hN (k+1) hlt (by omega) (q03 rfl ⟨rfl,?_,trivial⟩ ?_)))
   ·rw[List.all_append,q05 q39];rfl
   rw[hst];simp[q0k,edges,q00,w1];rfl
  rw[q07]at e2
  obtain rfl:k=p.edges.length:=by omega
  have hgl:(q3G p m).length=p.edges.length:=by simp[q3G]
  refine gg rfl (q04 (gg rfl (q6L rfl rfl ⟨q2D (by simp) (q0X q5M _),trivial⟩ (by rw[q2E (by simp)];exact q7u (q3G p m)) rfl ?_)))
  refine gg rfl (q01 rfl (fun g3=>?_) (fun g3=>?_))
  ·rw[q0u]at g3
   refine gg rfl (q08 rfl rfl rfl trivial ?_)
   rw[if_pos g3];rfl
  rw[q0z]at g3
  refine gg rfl (q08 rfl rfl rfl ⟨q2D (by simp) (q0X q5M _),trivial⟩ ?_)
  rw[q2E (by simp),if_neg (by simp[g3])];rfl
end Go.F

namespace Go.F
attribute [local irreducible] IntKind.wrap wpM
theorem qup (p:List Spot)(h:q1t p=0):PU qwE [q0k p]=some (.int .i64 (q36 p (p.length-1))):=by
 obtain⟨n2,n40,_⟩:=q2j h
 have hin:∀i,i<p.length→q0v (pt p i) 1048576=true:=fun i hi=>qbp h hi
 refine q0g (fn:=qln) rfl (q0a ?_)
 refine gg rfl (q0l (S:=fun k:Nat=>([q0k p,q00 (q36 p k),q00 (k+1:Nat)],[none,none,none],[0,0,0])) (C:=fun k=>k≤p.length-1) (m:=fun k=>p.length-k) 0 (Nat.zero_le _) (by omega) ?_ ?_)
 ·exact q03 rfl trivial (by simp[q0k,q00,q36])
 intro k hk N hN
 refine gg rfl ?_
 rw[List.length_map]
 refine q01 rfl (fun g1=>?_) (fun g1=>?_)
 ·rw[q06]at g1
  have hlt:k+1<p.length:=by omega
  have w0:IntKind.i64.wrap (((k+1:Nat):Int)-1)=(k:Int):=by rw[wrap64 (by omega) (by omega)];omega
  have w1:=ww (x:=(k:Int)+1+1)
  have hin1:=hin k (by omega)
  have hin2:=hin (k+1) hlt
  have hsl':=qun hin1 hin2
  have hle:=qpw hin k (by omega)
  have w2:IntKind.i64.wrap ((q36 p k:Int)+(qeU (pt p k) (pt p (k+1)):Int))=(q36 p (k+1):Int):=by rw[wrap64 (by omega) (by omega)];rfl
  refine gg rfl (q0i k rfl rfl w0 (q0P (by omega)) rfl ?_)
  refine gg rfl (q0i (k+1) rfl rfl rfl (q0P hlt) rfl (gg rfl (q02 rfl rfl (qpx (pt p k) (pt p (k+1)) hin1 hin2) (gg rfl ?_))))
  rw[w2]
  exact q04 (hN (k+1) (by omega) (by omega) (q03 rfl trivial (by simp[q0k,q00,w1])))
 rw[q07]at g1
 obtain rfl:k=p.length-1:=by omega
 exact gg rfl (q04 (gg rfl (q08 rfl rfl rfl trivial rfl)))
end Go.F

namespace Go.F
attribute [local irreducible] IntKind.wrap wpM
theorem qfS (p:List Spot):PU qtG [q0k p]=some (.tup [.int .i64 (q15 p).1,.int .i64 (q15 p).2]):=by
 refine q0g (fn:=qhx) rfl (q0a ?_)
 refine gg rfl (q02 rfl rfl (qit p) (gg rfl (q01 rfl (fun h=>?_) (fun h=>?_))))
 ·rw[q0u]at h
  refine gg rfl (q08 rfl rfl rfl trivial ?_)
  rw[q15,if_neg h]
 rw[q0z]at h
 refine gg rfl (q02 rfl rfl (qup p h) (gg rfl (q08 rfl rfl rfl trivial ?_)))
 rw[q15,if_pos h]
theorem qzN {A rest c bit:Nat}(hc:0<c):2*(A*rest/c)+(2*(A*rest%c)+bit*rest)/c=(2*A+bit) *rest/c∧(2*(A*rest%c)+bit*rest)%c=(2*A+bit) *rest%c:=by
 have h1:=Nat.div_add_mod (A*rest) c
 have e:(2*A+bit) *rest=(2*(A*rest%c)+bit*rest)+c*(2*(A*rest/c)):=by
  have:(2*A+bit) *rest=2*(A*rest)+bit*rest:=by rw[Nat.add_mul,Nat.mul_assoc]
  rw[this]
  generalize A*rest=X at*
  generalize X/c=q at*
  generalize X%c=r at*
  rw[←h1,Nat.mul_add]
  rw[←Nat.mul_assoc c 2 q,Nat.mul_comm c 2,Nat.mul_assoc]
  omega
 rw[e,Nat.add_mul_div_left _ _ hc,Nat.add_mul_mod_self_left]
 exact⟨Nat.add_comm _ _,rfl⟩
theorem qDd (a k:Nat)(hk:k≤40):a/2^(40-k)=2*(a/2^(41-k))+a/2^(40-k)%2:=by
 have e:41-k=40-k+1:=by omega
 rw[e,Nat.pow_succ,←Nat.div_div_eq_div_mul]
 omega
set_option maxHeartbeats 4000000 in
theorem qur (a b c:Nat)(hc:0<c)(hc2:c≤1099511627776)(hb:b≤1099511627776)(ha:a≤c):
 PU qwF [.int .i64 a,.int .i64 b,.int .i64 c]=some (.int .i64 (q1s ((a:Int) *b) c)):=by
 have hr:=qmK (a:=a*b) hc
 rw[Int.natCast_mul]at hr
 rw[hr]
 have e1:((b:Int)).tdiv (c:Int)=((b/c:Nat):Int):=by rw[Int.tdiv_eq_ediv_of_nonneg (by omega)];rfl
 have e2:((b:Int)).tmod (c:Int)=((b%c:Nat):Int):=by rw[Int.tmod_eq_emod_of_nonneg (by omega)];rfl
 have hdm:=Nat.div_add_mod b c
 have hrest:=Nat.mod_lt b hc
 have hW:a*(b/c)≤b:=Nat.le_trans (Nat.mul_le_mul_right _ ha) (by rw[Nat.mul_comm];exact Nat.div_mul_le_self b c)
 have hW2:b/c≤b:=Nat.div_le_self _ _
 have hab:a*b=a*(b%c)+c*(a*(b/c)):=by
  conv=>lhs;rw[←hdm]
  rw[Nat.mul_add,←Nat.mul_assoc,Nat.mul_comm a c,Nat.mul_assoc,Nat.add_comm]
 have hq:a*b/c=a*(b/c)+a*(b%c)/c:=by rw[hab,Nat.add_mul_div_left _ _ hc,Nat.add_comm]
 have hm:a*b%c=a*(b%c)%c:=by rw[hab,Nat.add_mul_mod_self_left]
 rw[hq,hm]
 generalize b/c=wh at*
 generalize b%c=rest at*
 clear hr hab hq hm hdm
 have w0:=ww (x:=(wh:Int))
 have w1:IntKind.i64.wrap ((a:Int) *(wh:Int))=((a*wh:Nat):Int):=by
  rw[←Int.natCast_mul]
  generalize a*wh=x at*
  exact wrap64 (by omega) (by omega)
 have hpow:a/2^41=0:=Nat.div_eq_of_lt (by omega)
 refine q0g (fn:=qkl) rfl (q0a ?_)
 refine gg rfl (qeh rfl rfl (by omega) ?_)
 rw[e1,w0]
 refine gg rfl (q37 rfl rfl (by omega) ?_)
 rw[e2]
 refine gg rfl ?_
 rw[w1]
 refine q0l (S:=fun k:Nat=>([.int .i64 a,.int .i64 c,.int .i64 rest,.int .i64 ((a*wh:Nat):Int),.int .i64 ((a/2^(41-k) *rest/c:Nat):Int),.int .i64 ((a/2^(41-k) *rest%c:Nat):Int),.int .i64 (40-(k:Int))],[none,none,none,none,none,none,none],[0,0,0,0,0,0,0])) (C:=fun k=>k≤41) (m:=fun k=>41-k) 0 (Nat.zero_le _) (by omega) ?_ ?_
 ·refine q03 rfl trivial ?_
  show _=([D.int .i64 a,.int .i64 c,.int .i64 rest,.int .i64 ((a*wh:Nat):Int),.int .i64 ((a/2^41*rest/c:Nat):Int),.int .i64 ((a/2^41*rest%c:Nat):Int),.int .i64 (40-((0:Nat):Int))],_,_)
  rw[hpow]
  simp
 intro k hk N hN
 refine gg rfl (q01 rfl (fun g=>?_) (fun g=>?_))
 ·rw[q0G]at g
  have hk40:k≤40:=by omega
  have hh:=qDd a k hk40
  have hB:a/2^(40-k)≤a:=Nat.div_le_self _ _
  have hbit:a/2^(40-k)%2<2:=Nat.mod_lt _ (by decide)
  have hs:=qzN (A:=a/2^(41-k)) (rest:=rest) (c:=c) (bit:=a/2^(40-k)%2) hc
  rw[←hh]at hs
  have hl:=Nat.mod_lt (a/2^(41-k) *rest) hc
  have hq:a/2^(40-k) *rest/c≤a:=Nat.le_trans (Nat.div_le_of_le_mul (by rw[Nat.mul_comm];exact Nat.mul_le_mul_right _ (by omega))) hB
  have sh:IntKind.u64.wrap (40-(k:Int))=((40-k:Nat):Int):=by
   rw[show(40-(k:Int))=((40-k:Nat):Int)by omega];exact q0C (by omega)
  have ek:(40-((k+1:Nat):Int))=40-(k:Int)-1:=by omega
  have wk:=ww (x:=40-(k:Int)-1)
  have e41:41-(k+1)=40-k:=by omega
  generalize hX:a/2^(40-k) *rest/c=q' at*
  generalize hY:a/2^(40-k) *rest%c=l' at*
  generalize a/2^(41-k) *rest/c=q at*
  generalize a/2^(41-k) *rest%c=l at*
  obtain⟨hs1,hs2⟩:=hs
  have h2q:2*q≤q':=by rw[←hs1];exact Nat.le_add_right _ _
  have w2:=ww (x:=2*(q:Int))
  have w3:=ww (x:=2*(l:Int))
  refine gg rfl ?_
  rw[w2,w3,sh]
  refine q17 a (40-k) rfl rfl rfl rfl (by show 40-k≤64;omega) ?_
  generalize hBB:a/2^(40-k)=B at*
  have e3:((B:Nat):Int).tmod 2=((B%2:Nat):Int):=by rw[Int.tmod_eq_emod_of_nonneg (by omega)];rfl
  have fin:∀L:Nat,L=2*l+B%2*rest→((L:Int)).tdiv (c:Int)=((L/c:Nat):Int)∧((L:Int)).tmod (c:Int)=((l':Nat):Int)∧L/c≤L∧2*q+L/c=q':=by
   rintro L rfl
   refine⟨by rw[Int.tdiv_eq_ediv_of_nonneg (by omega)];rfl,?_,Nat.div_le_self _ _,hs1⟩
   rw[Int.tmod_eq_emod_of_nonneg (by omega),←hs2];rfl
  refine gg rfl (q37 rfl rfl (by decide) ?_)
  rw[e3]
  refine gg rfl (q01 rfl (fun f=>?_) (fun f=>?_))
  ·rw[q1n]at f
   have f:B%2=1:=by omega
   have hf:=fin (2*l+rest) (by rw[f];omega)
   have w4:IntKind.i64.wrap (2*(l:Int)+(rest:Int))=((2*l+rest:Nat):Int):=by rw[wrap64 (by omega) (by omega)];omega
   obtain⟨f1,f2,f3,f4⟩:=hf
   refine gg rfl ?_
   rw[w4]
   refine qeh rfl rfl (by omega) ?_
   rw[f1]
   generalize (2*l+rest)/c=v at*
   have w5:=ww (x:=(v:Int))
   rw[w5]
   have w6:IntKind.i64.wrap (2*(q:Int)+(v:Int))=(q':Int):=by rw[wrap64 (by omega) (by omega)];omega
   refine gg rfl ?_
   rw[w6]
   refine q37 rfl rfl (by omega) ?_
   rw[f2]
   refine gg rfl (q04 (hN (k+1) (by omega) (by omega) (q03 rfl trivial ?_)))
   rw[e41,hBB,hX,hY,ek,wk]
  rw[q20]at f
  have f:B%2=0:=by omega
  have hf:=fin (2*l) (by rw[f];omega)
  obtain⟨f1,f2,f3,f4⟩:=hf
  have el:(2*(l:Int))=((2*l:Nat):Int):=by omega
  refine gg rfl ?_
  rw[el]
  refine qeh rfl rfl (by omega) ?_
  rw[f1]
  generalize (2*l)/c=v at*
  have w5:=ww (x:=(v:Int))
  rw[w5]
  have w6:IntKind.i64.wrap (2*(q:Int)+(v:Int))=(q':Int):=by rw[wrap64 (by omega) (by omega)];omega
  refine gg rfl ?_
  rw[w6]
  refine q37 rfl rfl (by omega) ?_
  rw[f2]
  refine gg rfl (q04 (hN (k+1) (by omega) (by omega) (q03 rfl trivial ?_)))
  rw[e41,hBB,hX,hY,ek,wk]
 rw[q0H]at g
 obtain rfl:k=41:=by omega
 clear hN
 have e0:a/2^(41-41)=a:=by simp
 rw[e0]
 have hl:=Nat.mod_lt (a*rest) hc
 have hq:a*rest/c≤a:=Nat.div_le_of_le_mul (by rw[Nat.mul_comm];exact Nat.mul_le_mul_right _ (by omega))
 generalize a*rest/c=q at*
 generalize a*rest%c=l at*
 have w2:=ww (x:=2*(l:Int))
 refine gg rfl (q04 (gg rfl ?_))
 rw[w2]
 refine q01 rfl (fun f=>?_) (fun f=>?_)
 ·rw[q0G]at f
  rw[if_pos (by omega)]
  have w3:=ww (x:=(q:Int)+1)
  have w4:IntKind.i64.wrap (((a*wh:Nat):Int)+((q:Int)+1))=((a*wh+q+1:Nat):Int):=by rw[wrap64 (by omega) (by omega)];omega
  refine gg rfl ?_
  rw[w3,w4]
  exact q08 rfl rfl rfl trivial rfl
 rw[q0H]at f
 rw[if_neg (by omega)]
 have w4:IntKind.i64.wrap (((a*wh:Nat):Int)+(q:Int))=((a*wh+q+0:Nat):Int):=by rw[wrap64 (by omega) (by omega)];omega
 refine gg rfl ?_
 rw[w4]
 exact q08 rfl rfl rfl trivial rfl
theorem qpz (fr to:Int)(rev:Bool)(at_:Int):PU qqC [.int .i64 fr,.int .i64 to,.bool rev,.int .i64 at_]=some (.tup [.int .i64 (q3x fr to rev at_).1,.int .i64 (q3x fr to rev at_).2]):=by
 by_cases hb:q4x fr to at_
 ·rw[q3x,if_pos hb]
  unfold q4x at hb
  refine q0g (fn:=q9v) rfl (q0a ?_)
  repeat' (first
   |refine goP 800 rfl rfl ?_
   |refine q0h rfl ?_|refine q0o rfl ?_|refine q09 rfl (fun _=>?_) (fun _=>?_)
   |refine q0e rfl ?_|refine q0j rfl ?_|refine q01 rfl (fun _=>?_) (fun _=>?_)
   |refine q0L rfl (fun _=>?_) (fun _=>?_)
   |refine q08 rfl rfl rfl trivial ?_)
  all_goals first
   |rfl
   |(exfalso;simp only[q06,q07]at*;omega)
 rw[q3x,if_neg hb]
 unfold q4x at hb
 obtain⟨F,rfl⟩:∃n:Nat,fr=n:=⟨fr.toNat,by omega⟩
 obtain⟨T,rfl⟩:∃n:Nat,to=n:=⟨to.toNat,by omega⟩
 obtain⟨A,rfl⟩:∃n:Nat,at_=n:=⟨at_.toNat,by omega⟩
 have hs:=qur A T F (by omega) (by omega) (by omega) (by omega)
 have hr:=qmK (a:=A*T) (b:=F) (by omega)
 rw[Int.natCast_mul]at hr
 have hquo:A*T/F≤T:=Nat.div_le_of_le_mul (Nat.mul_le_mul_right _ (by omega))
 have hR:0≤q1s ((A:Int) *T) F∧q1s ((A:Int) *T) F≤T+1:=by
  rw[hr]
  generalize A*T/F=x at*
  split<;>omega
 generalize q1s ((A:Int) *T) F=R at*
 have w7:=ww (x:=(T:Int)-R)
 have no:∀{x y:Int} {P:Prop},¬x<y→ltb x y=true→P:=fun h g=>absurd (q06.1 g) h
 refine q0g (fn:=q9v) rfl (q0a ?_)
 refine gg rfl (q09 rfl (no (by omega)) (fun _=>?_))
 refine gg rfl (q09 rfl (no (by omega)) (fun _=>?_))
 refine gg rfl (q09 rfl (no (by omega)) (fun _=>?_))
 refine gg rfl (q09 rfl (no (by omega)) (fun _=>?_))
 refine gg rfl (q09 rfl (no (by omega)) (fun _=>?_))
 refine gg rfl (q01 rfl (no (by omega)) (fun _=>?_))
 refine gg rfl (q02 rfl rfl hs (gg rfl ?_))
 cases rev with
 |true=>
  refine q0e rfl (gg rfl ?_)
  rw[w7]
  exact q08 rfl rfl rfl trivial rfl
 |false=>
  exact q0j rfl (gg rfl (q08 rfl rfl rfl trivial rfl))
theorem qxs {l:List Edge}(h:q0J l=0){k:Nat}(hk:k<l.length):q1t (eg l k).line=0:=q2P (q18 (q0Z h).2.2.1 hk)
set_option maxHeartbeats 4000000 in
theorem q9D (p:Piece)(m:Int)(hc:p.corners.length≤1000000):
 PU qtA [p.enc,.int .i64 m]=some (.tup [ints (q0R p m).1,.int .i64 (q0R p m).2]):=by
 refine q0g (fn:=qgL) rfl (q0a ?_)
 refine gg rfl (q02 rfl rfl (q56 p m hc) (gg rfl (q01 rfl (fun h=>?_) (fun h=>?_))))
 ·rw[q0u]at h
  refine gg rfl (q08 rfl rfl rfl trivial ?_)
  rw[q0R,if_pos h];rfl
 have h:(q0q p m).2=0:=q0z.1 h
 obtain⟨hg,hck1,hck2,_⟩:=q2s h
 have hr:q0R p m=if 16<p.notches.length then([],5)
  else if q2y p (q0q p m).1 p.notches≠0 then([],q2y p (q0q p m).1 p.notches)
  else(p.notches.map fun n=>(q1u p (q0q p m).1 n).1,0):=by rw[q0R,if_neg (by omega)]
 rw[hr]
 generalize (q0q p m).1=G at*
 refine gg rfl ?_
 rw[List.length_map]
 refine q01 rfl (fun h2=>?_) (fun h2=>?_)
 ·rw[q06]at h2
  refine gg rfl (q08 rfl rfl rfl trivial ?_)
  rw[if_pos (by omega)];rfl
 rw[q07]at h2
 rw[if_neg (by omega)]
 refine gg rfl (q0l (S:=fun k:Nat=>([.ptr 0 0 0,edges G,.ref 2 0 k,q00 k],[some (.row [p.enc] 7),none,some (.row (((p.notches.take k).map fun n=>(q1u p G n).1).map q00) 1),none],[0,0,0,0])) (C:=fun k=>k≤p.notches.length∧q2y p G p.notches=q2y p G (p.notches.drop k)) (m:=fun k=>p.notches.length-k) 0 ⟨Nat.zero_le _,rfl⟩ (by omega) ?_ ?_)
 ·exact q03 rfl ⟨rfl,rfl,trivial⟩ rfl
 rintro k ⟨hk,hke⟩ N hN
 refine gg rfl ?_
 rw[List.length_map]
 refine q01 rfl (fun e1=>?_) (fun e1=>?_)
 ·rw[q06]at e1
  have hlt:k<p.notches.length:=by omega
  have w1:=wS (n:=k)
  have hdr:p.notches.drop k=nt p.notches k::p.notches.drop (k+1):=by rw[List.drop_eq_getElem_cons hlt,quZ hlt]
  have hst:(((p.notches.take (k+1)).map fun n=>(q1u p G n).1).map q00)=((p.notches.take k).map fun n=>(q1u p G n).1).map q00++[q00 (q1u p G (nt p.notches k)).1]:=by
   rw[List.take_succ_eq_append_getElem hlt,List.map_append,List.map_append,quZ hlt];rfl
  have hne:=qv0 hlt
  rw[hdr,q2y]at hke
  generalize nt p.notches k=n at*
  have bad:(q1u p G n).2≠0→q2y p G p.notches=(q1u p G n).2:=fun h=>by rw[hke,if_neg h]
  refine gg rfl (q0i k rfl rfl rfl hne rfl (gg rfl (q09 rfl (fun f1=>?_) (fun f1=>?_))))
  ·rw[q06]at f1
   have hn:q1u p G n=(0,3):=by rw[q1u,if_pos (.inl f1)]
   rw[hn]at bad
   refine gg rfl (q0e rfl (gg rfl (q04 (gg rfl (q08 rfl rfl rfl trivial ?_)))))
   rw[bad (by decide)];rfl
  rw[q07]at f1
  refine gg rfl ?_
  rw[List.length_map]
  refine q01 rfl (fun f2=>?_) (fun f2=>?_)
  ·rw[q0G]at f2
   have hn:q1u p G n=(0,3):=by rw[q1u,if_pos (.inr f2)]
   rw[hn]at bad
   refine gg rfl (q04 (gg rfl (q08 rfl rfl rfl trivial ?_)))
   rw[bad (by decide)];rfl
  rw[q0H]at f2
  have ei:n.edge=((n.edge.toNat:Nat):Int):=by omega
  have hl1:n.edge.toNat<p.edges.length:=by omega
  have hl2:n.edge.toNat<G.length:=by omega
  have l1:=qfS (eg p.edges n.edge.toNat).line
  have l2:=qfS (eg G n.edge.toNat).line
  have hn0:q1u p G n=if(q15 (eg p.edges n.edge.toNat).line).2≠0 then(0,(q15 (eg p.edges n.edge.toNat).line).2)
   else if(q15 (eg G n.edge.toNat).line).2≠0 then(0,(q15 (eg G n.edge.toNat).line).2)
   else q3x (q15 (eg p.edges n.edge.toNat).line).1 (q15 (eg G n.edge.toNat).line).1 false n.at_:=by rw[q1u,if_neg (by omega)]
  have f3:(q15 (eg p.edges n.edge.toNat).line).2=0:=by rw[q15,if_pos (qxs hck1 hl1)]
  have f4:(q15 (eg G n.edge.toNat).line).2=0:=by rw[q15,if_pos (qxs hck2 hl2)]
  rw[if_neg (by simp[f3]),if_neg (by simp[f4])]at hn0
  refine gg rfl (q0i n.edge.toNat rfl rfl ei (q1O hl1) rfl (gg rfl (q02 rfl rfl l1 (gg rfl (q0i n.edge.toNat rfl rfl ei (q1O hl2) rfl (gg rfl (q02 rfl rfl l2 (gg rfl (q02 rfl rfl (qpz (q15 (eg p.edges n.edge.toNat).line).1 (q15 (eg G n.edge.toNat).line).1 false n.at_) ?_)))))))))
  rw[←hn0]
  refine gg rfl (q01 rfl (fun f5=>?_) (fun f5=>?_))
  ·rw[q0u]at f5
   refine gg rfl (q04 (gg rfl (q08 rfl rfl rfl trivial ?_)))
   rw[bad f5,if_pos f5];rfl
  rw[q0z]at f5
  rw[if_pos f5]at hke
  refine gg rfl (q1f rfl rfl rfl rfl rfl rfl (by simp;omega) (Nat.zero_le _) (by simp[q0M];omega) ?_)
  refine gg rfl (q04 (hN (k+1) ⟨hlt,hke⟩ (by omega) (q03 rfl ⟨rfl,?_,trivial⟩ ?_)))
  ·rw[List.all_append,q05 q6f];rfl
  rw[hst,w1];rfl
 rw[q07]at e1
 obtain rfl:k=p.notches.length:=by omega
 have hz:q2y p G p.notches=0:=by rw[hke,List.drop_length];rfl
 rw[hz,List.take_length]
 refine gg rfl (q04 (gg rfl (q08 rfl rfl rfl ⟨q2D (by simp) (q0X qgF _),trivial⟩ ?_)))
 rw[q2E (by simp)];rfl
end Go.F
