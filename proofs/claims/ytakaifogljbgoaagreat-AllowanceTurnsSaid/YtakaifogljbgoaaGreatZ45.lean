/- Parts of the proof, part 45: Geo1, Geo2, Geo3, Geo4, Geo5, Geo6, Geo7, Geo8, Geo9, St1, Stop3, Stop4, Ref1, Plain1, Ref2, Ref3, All1, All2, Flt, Nat1, Nat2, Nat3, Nat4, Nat5, Nat6, Nat7, Nat8, Nat9, Nat10, Nat11, Nat12. -/
import Derived.Test.YtakaifogljbgoaaGreatZ43
import Derived.KernelRfl
set_option linter.all false
namespace Go.F
attribute [local irreducible] IntKind.wrap wpM
def q0v (a b c:Spot):Int:=(b.x-a.x) *(c.y-a.y)-(b.y-a.y) *(c.x-a.x)
theorem qj0 (a b c:Spot) [OkS a] [OkS b] [OkS c]:PU q5J [a.enc,b.enc,c.enc]=some (.int .i64 (q0v a b c)):=by
 refine q0g (fn:=qcv) rfl (q0a ?_)
 repeat' (first
  |refine goP 800 rfl rfl ?_
  |refine q0h rfl ?_|refine q0m rfl ?_|refine q08 rfl (fun _=>?_) (fun _=>?_)
  |refine q0d rfl ?_|refine q0i rfl ?_|refine q01 rfl (fun _=>?_) (fun _=>?_)
  |refine q0Q rfl (fun _=>?_) (fun _=>?_)
  |refine q09 rfl rfl rfl trivial ?_)
 simp[q0Z,q0v]
def onS (a b p:Spot):Bool:=decide (q0v a b p=0)&&(decide (min a.x b.x≤p.x)&&(decide (p.x≤max a.x b.x)&&(decide (min a.y b.y≤p.y)&&decide (p.y≤max a.y b.y))))
theorem on_PU (a b p:Spot) [OkS a] [OkS b] [OkS p]:PU qjc [a.enc,b.enc,p.enc]=some (.bool (onS a b p)):=by
 refine q0g (fn:=qiC) rfl (q0a ?_)
 repeat' (first
  |refine goP 800 rfl rfl ?_
  |refine q0h rfl ?_|refine q0m rfl ?_|refine q08 rfl (fun _=>?_) (fun _=>?_)
  |refine q0d rfl ?_|refine q0i rfl ?_|refine q01 rfl (fun _=>?_) (fun _=>?_)
  |refine q0Q rfl (fun _=>?_) (fun _=>?_)
  |refine q09 rfl rfl rfl trivial ?_
  |refine q02 rfl rfl (qj0 _ _ _) ?_)
 all_goals ((try simp only[q1U,q2h,q2o,q4n,decide_eq_true_eq,decide_eq_false_iff_not,Bool.not_eq_true,Bool.not_eq_false,Int.not_lt,Int.not_le]at*);first|(simp_all[onS];done) |(simp_all[onS];omega) |(rw[D.bool.injEq,Bool.eq_iff_iff];simp[onS];omega) |(rw[D.bool.injEq,Bool.eq_iff_iff];simp_all[onS];omega) |(simp[onS];split<;>(try split)<;>omega))
def sgn (n:Int):Int:=if n<0 then-1 else if 0<n then 1 else 0
theorem qAq (n:Int):Bd (sgn n) 1:=⟨by unfold sgn;split<;>(try split)<;>decide⟩
instance (n:Int):Bd (sgn n) 1:=qAq n
theorem qGm (n:Int):PU qd5 [.int .i64 n]=some (.bool false):=by
 refine q0g (fn:=qcx) rfl (q0a ?_)
 repeat' (first
  |refine goP 800 rfl rfl ?_
  |refine q0h rfl ?_|refine q0m rfl ?_|refine q08 rfl (fun _=>?_) (fun _=>?_)
  |refine q0d rfl ?_|refine q0i rfl ?_|refine q01 rfl (fun _=>?_) (fun _=>?_)
  |refine q0Q rfl (fun _=>?_) (fun _=>?_)
  |refine q09 rfl rfl rfl trivial ?_)
 simp[nqb]
def q3W (a b:Int):Int:=if a<b then-1 else if b<a then 1 else 0
theorem cmp0 (a:Int):q3W a 0=sgn a:=rfl
theorem qhi (a b:Int):PU q6q [.int .i64 a,.int .i64 b]=some (.int .i64 (q3W a b)):=by
 refine q0g (fn:=q9N) rfl (q0a ?_)
 repeat' (first
  |refine goP 800 rfl rfl ?_
  |refine q0h rfl ?_|refine q0m rfl ?_|refine q08 rfl (fun _=>?_) (fun _=>?_)
  |refine q0d rfl ?_|refine q0i rfl ?_|refine q01 rfl (fun _=>?_) (fun _=>?_)
  |refine q0Q rfl (fun _=>?_) (fun _=>?_)
  |refine q09 rfl rfl rfl trivial ?_
  |refine q02 rfl rfl (qGm _) ?_)
 all_goals ((try simp only[q1U,q2h,q2o,q4n,decide_eq_true_eq,decide_eq_false_iff_not,Bool.not_eq_true,Bool.not_eq_false,Int.not_lt,Int.not_le]at*);first|(simp_all[q3W];done) |(simp_all[q3W];omega) |(rw[D.bool.injEq,Bool.eq_iff_iff];simp[q3W];omega) |(rw[D.bool.injEq,Bool.eq_iff_iff];simp_all[q3W];omega) |(simp[q3W];split<;>(try split)<;>omega))
def q2C (a b c d:Spot):Bool:=decide (sgn (q0v a b c) *sgn (q0v a b d)<0)
theorem qDI (a b c d:Spot) [OkS a] [OkS b] [OkS c] [OkS d]:PU qbs [a.enc,b.enc,c.enc,d.enc]=some (.bool (q2C a b c d)):=by
 refine q0g (fn:=qaW) rfl (q0a ?_)
 repeat' (first
  |refine goP 800 rfl rfl ?_
  |refine q0h rfl ?_|refine q0m rfl ?_|refine q08 rfl (fun _=>?_) (fun _=>?_)
  |refine q0d rfl ?_|refine q0i rfl ?_|refine q01 rfl (fun _=>?_) (fun _=>?_)
  |refine q0Q rfl (fun _=>?_) (fun _=>?_)
  |refine q09 rfl rfl rfl trivial ?_
  |refine q02 rfl rfl (qj0 _ _ _) ?_
  |refine q02 rfl rfl (qhi _ _) ?_)
 simp[cmp0,q0Z,q1U,q2C]
def q2Y (a b c d:Spot):Bool:=onS a b c||(onS a b d||(onS c d a||(onS c d b||(q2C a b c d&&q2C c d a b))))
theorem qIo (a b c d:Spot) [OkS a] [OkS b] [OkS c] [OkS d]:PU qpW [a.enc,b.enc,c.enc,d.enc]=some (.bool (q2Y a b c d)):=by
 refine q0g (fn:=qe3) rfl (q0a ?_)
 repeat' (first
  |refine goP 800 rfl rfl ?_
  |refine q0h rfl ?_|refine q0m rfl ?_|refine q08 rfl (fun _=>?_) (fun _=>?_)
  |refine q0d rfl ?_|refine q0i rfl ?_|refine q01 rfl (fun _=>?_) (fun _=>?_)
  |refine q0Q rfl (fun _=>?_) (fun _=>?_)
  |refine q09 rfl rfl rfl trivial ?_
  |refine q02 rfl rfl (on_PU _ _ _) ?_
  |refine q02 rfl rfl (qDI _ _ _ _) ?_)
 all_goals simp_all[q2Y]
def q3X (a b c:Spot):Bool:=decide (q0v a b c=0)&&decide (0<(a.x-b.x) *(c.x-b.x)+(a.y-b.y) *(c.y-b.y))
theorem qDJ (a b c:Spot) [OkS a] [OkS b] [OkS c]:PU qku [a.enc,b.enc,c.enc]=some (.bool (q3X a b c)):=by
 refine q0g (fn:=qb2) rfl (q0a ?_)
 repeat' (first
  |refine goP 800 rfl rfl ?_
  |refine q0h rfl ?_|refine q0m rfl ?_|refine q08 rfl (fun _=>?_) (fun _=>?_)
  |refine q0d rfl ?_|refine q0i rfl ?_|refine q01 rfl (fun _=>?_) (fun _=>?_)
  |refine q0Q rfl (fun _=>?_) (fun _=>?_)
  |refine q09 rfl rfl rfl trivial ?_
  |refine q02 rfl rfl (qj0 _ _ _) ?_)
 all_goals ((try simp only[q1U,q2h,q2o,q4n,decide_eq_true_eq,decide_eq_false_iff_not,Bool.not_eq_true,Bool.not_eq_false,Int.not_lt,Int.not_le]at*);first|(simp_all[q3X,q0Z];done) |(simp_all[q3X,q0Z];omega) |(rw[D.bool.injEq,Bool.eq_iff_iff];simp[q3X,q0Z];omega) |(rw[D.bool.injEq,Bool.eq_iff_iff];simp_all[q3X,q0Z];omega) |(simp[q3X,q0Z];split<;>(try split)<;>omega))
def q0x (s:Spot)(m:Int):Bool:=decide (-m≤s.x)&&(decide (s.x≤m)&&(decide (-m≤s.y)&&decide (s.y≤m)))
theorem qAr (s:Spot):PU qab [s.enc]=some (.bool (!q0x s 1048576)):=by
 refine q0g (fn:=q9L) rfl (q0a ?_)
 repeat' (first
  |refine goP 800 rfl rfl ?_
  |refine q0h rfl ?_|refine q0m rfl ?_|refine q08 rfl (fun _=>?_) (fun _=>?_)
  |refine q0d rfl ?_|refine q0i rfl ?_|refine q01 rfl (fun _=>?_) (fun _=>?_)
  |refine q0Q rfl (fun _=>?_) (fun _=>?_)
  |refine q09 rfl rfl rfl trivial ?_)
 all_goals ((try simp only[q1U,q2h,q2o,q4n,decide_eq_true_eq,decide_eq_false_iff_not,Bool.not_eq_true,Bool.not_eq_false,Int.not_lt,Int.not_le]at*);first|(simp_all[q0x];done) |(simp_all[q0x];omega) |(rw[D.bool.injEq,Bool.eq_iff_iff];simp[q0x];omega) |(rw[D.bool.injEq,Bool.eq_iff_iff];simp_all[q0x];omega) |(simp[q0x];split<;>(try split)<;>omega))
theorem qfW (s:Spot):PU q9g [s.enc]=some (.bool (!q0x s 1048576)):=by
 refine q0g (fn:=q8S) rfl (q0a ?_)
 repeat' (first
  |refine goP 800 rfl rfl ?_
  |refine q0h rfl ?_|refine q0m rfl ?_|refine q08 rfl (fun _=>?_) (fun _=>?_)
  |refine q0d rfl ?_|refine q0i rfl ?_|refine q01 rfl (fun _=>?_) (fun _=>?_)
  |refine q0Q rfl (fun _=>?_) (fun _=>?_)
  |refine q09 rfl rfl rfl trivial ?_)
 all_goals ((try simp only[q1U,q2h,q2o,q4n,decide_eq_true_eq,decide_eq_false_iff_not,Bool.not_eq_true,Bool.not_eq_false,Int.not_lt,Int.not_le]at*);first|(simp_all[q0x];done) |(simp_all[q0x];omega) |(rw[D.bool.injEq,Bool.eq_iff_iff];simp[q0x];omega) |(rw[D.bool.injEq,Bool.eq_iff_iff];simp_all[q0x];omega) |(simp[q0x];split<;>(try split)<;>omega))
end Go.F

namespace Go.F
attribute [local irreducible] IntKind.wrap wpM
def qeG {α:Type}(g:α→Bool)(p:List α):Int:=match p.findIdx? g with|some i=>i|none=> -1
theorem qhj {α:Type}{g:α→Bool}{p:List α}{k:Nat}(hk:k<p.length)(hno:∀j (hj:j<p.length),j<k→g p[j]=false)(hg:g p[k]=true):qeG g p=k:=by
 have:p.findIdx? g=some k:=by
  rw[List.findIdx?_eq_some_iff_getElem]
  exact⟨hk,hg,fun j hj=>by simp[hno j (by omega) hj]⟩
 simp[qeG,this]
theorem qhk {α:Type}{g:α→Bool}{p:List α}(hno:∀j (hj:j<p.length),g p[j]=false):qeG g p= -1:=by
 have:p.findIdx? g=none:=by
  rw[List.findIdx?_eq_none_iff]
  intro x hx
  obtain⟨j,hj,rfl⟩:=List.mem_iff_getElem.1 hx
  exact hno j hj
 simp[qeG,this]
theorem qc4 {α:Type}{g:α→Bool}{p:List α}:decide (0≤qeG g p)=p.any g:=by
 cases h:p.findIdx? g with
 |none=>
  have hn:=h
  rw[List.findIdx?_eq_none_iff]at hn
  have:p.any g=false:=by rw[List.any_eq_false];exact fun x hx=>by simp[hn x hx]
  simp[qeG,h,this]
 |some i=>
  rw[List.findIdx?_eq_some_iff_getElem]at h
  obtain⟨hi,hg,_⟩:=h
  have h2:p.findIdx? g=some i:=by rw[List.findIdx?_eq_some_iff_getElem];exact⟨hi,hg,by assumption⟩
  have:p.any g=true:=by rw[List.any_eq_true];exact⟨p[i],List.getElem_mem _,hg⟩
  simp[qeG,h2,this]
theorem quW (fid:FuncId)(g:Spot→Bool)(hsh:q7r fid=false)(hg:∀s,PU fid [s.enc]=some (.bool (g s)))(p:List Spot)(hp:p.length<4611686018427387904):
 PU q4e [q0k p,.fn fid [] []]=some (.int .i64 (qeG g p)):=by
 refine q0g (fn:=q4a) rfl (q0a ?_)
 refine gg rfl (q0l (S:=fun k:Nat=>([q0k p,.fn fid [] [],q00 p.length,q00 k],[none,none,none,none],[0,0,0,0])) (C:=fun k=>k≤p.length∧∀j (hj:j<p.length),j<k→g p[j]=false) (m:=fun k=>p.length-k) 0 ⟨by omega,fun j hj h=>by omega⟩ (by omega) ?_ ?_)
 ·exact q03 rfl trivial (by simp[q0k,q00])
 intro k ⟨hk,hno⟩ N hN
 refine gg rfl (q01 rfl (fun h1=>?_) (fun h1=>?_))
 ·rw[q06]at h1
  have hlt:k<p.length:=by omega
  refine gg rfl (q0j k rfl rfl rfl (q1K hlt) rfl (gg rfl (qJ9 rfl hsh (q02 hsh rfl (hg p[k]) (gg rfl (q01 rfl (fun h2=>?_) (fun h2=>?_)))))))
  ·refine gg rfl (q04 (gg rfl (q09 rfl rfl rfl trivial ?_)))
   rw[qhj hlt hno h2]
  refine gg rfl (q04 (hN (k+1) ⟨by omega,fun j hj hjk=>?_⟩ (by omega) ?_))
  ·by_cases hjk':j<k
   ·exact hno j hj hjk'
   obtain rfl:j=k:=by omega
   exact h2
  exact q03 rfl trivial (by simp[q0k,q00,wrap64 (x:=(k:Int)+1) (by omega) (by omega)])
 rw[q07]at h1
 refine gg rfl (q04 (gg rfl (q09 rfl rfl rfl trivial ?_)))
 rw[qhk fun j hj=>hno j hj (by omega)]
theorem qd2 (fid:FuncId)(g:Spot→Bool)(hsh:q7r fid=false)(hg:∀s,PU fid [s.enc]=some (.bool (g s)))(p:List Spot)(hp:p.length<4611686018427387904):
 PU q6C [q0k p,.fn fid [] []]=some (.bool (p.any g)):=by
 refine q0g (fn:=q3C) rfl (q0a ?_)
 repeat' (first
  |refine goP 800 rfl rfl ?_
  |refine q0h rfl ?_|refine q0m rfl ?_|refine q08 rfl (fun _=>?_) (fun _=>?_)
  |refine q0d rfl ?_|refine q0i rfl ?_|refine q01 rfl (fun _=>?_) (fun _=>?_)
  |refine q0Q rfl (fun _=>?_) (fun _=>?_)
  |refine q09 rfl rfl rfl trivial ?_
  |refine q02 rfl rfl (quW fid g hsh hg p hp) ?_)
 rw[q2h,qc4]
theorem q1T (a b:Spot):(eqb a.x b.x&&(eqb a.y b.y&&true))=decide (a=b):=by
 cases a;cases b;simp[eqb,Bool.beq_eq_decide_eq]
theorem qGn (p:List Spot)(v:Spot)(hp:p.length<4611686018427387904):PU q5v [q0k p,v.enc]=some (.int .i64 (qeG (fun s=>decide (v=s)) p)):=by
 refine q0g (fn:=q5m) rfl (q0a ?_)
 refine gg rfl (q0l (S:=fun k:Nat=>([q0k p,.ptr 1 0 0,q00 p.length,q00 k],[none,some (.row [v.enc] 2),none,none],[0,0,0,0])) (C:=fun k=>k≤p.length∧∀j (hj:j<p.length),j<k→decide (v=p[j])=false) (m:=fun k=>p.length-k) 0 ⟨by omega,fun j hj h=>by omega⟩ (by omega) ?_ ?_)
 ·exact q03 rfl ⟨rfl,trivial⟩ (by simp[q0k,q00,Spot.enc])
 intro k ⟨hk,hno⟩ N hN
 refine gg rfl (q01 rfl (fun h1=>?_) (fun h1=>?_))
 ·rw[q06]at h1
  have hlt:k<p.length:=by omega
  refine gg rfl (q0j k rfl rfl rfl (q1K hlt) rfl (gg rfl (q01 rfl (fun h2=>?_) (fun h2=>?_))))
  ·rw[q1T]at h2
   refine gg rfl (q04 (gg rfl (q09 rfl rfl rfl trivial ?_)))
   rw[qhj hlt hno h2]
  rw[q1T]at h2
  refine gg rfl (q04 (hN (k+1) ⟨by omega,fun j hj hjk=>?_⟩ (by omega) ?_))
  ·by_cases hjk':j<k
   ·exact hno j hj hjk'
   obtain rfl:j=k:=by omega
   exact h2
  exact q03 rfl ⟨rfl,trivial⟩ (by simp[q0k,q00,Spot.enc,wrap64 (x:=(k:Int)+1) (by omega) (by omega)])
 rw[q07]at h1
 refine gg rfl (q04 (gg rfl (q09 rfl rfl rfl trivial ?_)))
 rw[qhk fun j hj=>hno j hj (by omega)]
theorem qIp {p:List Spot}{v:Spot}:p.any (fun s=>decide (v=s))=decide (v∈p):=by
 rw[Bool.eq_iff_iff];simp
theorem qxy (p:List Spot)(v:Spot)(hp:p.length<4611686018427387904):PU q89 [q0k p,v.enc]=some (.bool (decide (v∈p))):=by
 refine q0g (fn:=q4r) rfl (q0a ?_)
 repeat' (first
  |refine goP 800 rfl rfl ?_
  |refine q0h rfl ?_|refine q0m rfl ?_|refine q08 rfl (fun _=>?_) (fun _=>?_)
  |refine q0d rfl ?_|refine q0i rfl ?_|refine q01 rfl (fun _=>?_) (fun _=>?_)
  |refine q0Q rfl (fun _=>?_) (fun _=>?_)
  |refine q09 rfl rfl rfl trivial ?_
  |refine q02 rfl rfl (qGn p v hp) ?_)
 rw[q2h,qc4,qIp]
end Go.F

namespace Go.F
attribute [local irreducible] IntKind.wrap wpM
def pt (p:List Spot)(i:Nat):Spot:=p.getD i ⟨0,0⟩
theorem q0H {p:List Spot}{i:Nat}(h:i<p.length):pt p i=p[i]:=by simp[pt,h]
theorem q0U {p:List Spot}{i:Nat}(h:i<p.length):(p.map Spot.enc)[i]?=some (pt p i).enc:=by simp[pt,h]
class OkP (p:List Spot):Prop where
 ok:∀s∈p,OkS s
instance qDK {p:List Spot} [h:OkP p]{i:Nat}:OkS (pt p i):=by
 by_cases hi:i<p.length
 ·rw[q0H hi];exact h.ok _ (List.getElem_mem _)
 have:pt p i=⟨0,0⟩:=by simp[pt,List.getElem?_eq_none (Nat.le_of_not_lt hi)]
 rw[this];exact⟨by decide,by decide⟩
def q3Y (p:List Spot):Prop:=
 (∀i,i<p.length→pt p i∉p.take i)∧
 ∀i,i<p.length→q3X (pt p i) (pt p ((i+1)%p.length)) (pt p ((i+2)%p.length))=false∧
  ∀k,k<p.length→i+2≤k→(k+1)%p.length≠i→q2Y (pt p i) (pt p ((i+1)%p.length)) (pt p k) (pt p ((k+1)%p.length))=false
instance (p:List Spot):Decidable (q3Y p):=by unfold q3Y;exact inferInstance
theorem q1z {a n:Nat}:((a:Int)).tmod (n:Int)=((a%n:Nat):Int):=by
 rw[Int.tmod_eq_emod_of_nonneg (by omega)];simp
set_option maxHeartbeats 1000000 in
theorem qDL (p:List Spot) [OkP p](h3:3≤p.length)(hp:p.length≤1000):PU qkr [q0k p]=some (.bool (decide (q3Y p))):=by
 refine q0g (fn:=qaQ) rfl (q0a ?_)
 refine gg rfl ?_
 have hcells:(p.map Spot.enc).all (fun d=>d.cells.length==2)=true:=q1k (f:=Spot.enc) (n:=2) (fun _=>rfl) p
 refine q0l (S:=fun k:Nat=>([q0k p,q00 p.length,q0k p,q00 p.length,q00 k],[none,none,none,none,none],[0,0,0,0,0])) (C:=fun k=>k≤p.length∧∀j,j<k→pt p j∉p.take j) (m:=fun k=>p.length-k) 0 ⟨by omega,fun j h=>by omega⟩ (by omega) ?_ ?_
 ·exact q03 rfl trivial (by simp[q0k,q00])
 intro k ⟨hk,hno⟩ N hN
 refine gg rfl (q01 rfl (fun h1=>?_) (fun h1=>?_))
 ·rw[q06]at h1
  have hlt:k<p.length:=by omega
  refine gg rfl (q0j k rfl rfl rfl (q0U hlt) rfl (gg rfl (qdB k rfl hcells ⟨_,_,rfl,rfl⟩ (by simp;omega) ?_)))
  refine gg rfl ?_
  have hc:=qxy (p.take k) (pt p k) (by simp;omega)
  rw[q0k,List.map_take]at hc
  refine q02 rfl rfl hc (gg rfl (q01 rfl (fun h2=>?_) (fun h2=>?_)))
  ·refine gg rfl (q04 (gg rfl (q09 rfl rfl rfl trivial ?_)))
   have:¬q3Y p:=fun hs=>hs.1 k hlt (by simpa using h2)
   simp[this]
  refine gg rfl (q04 (hN (k+1) ⟨by omega,fun j hj=>?_⟩ (by omega) ?_))
  ·by_cases hjk:j<k
   ·exact hno j hjk
   obtain rfl:j=k:=by omega
   simpa using h2
  exact q03 rfl trivial (by simp[q0k,q00,wrap64 (x:=(k:Int)+1) (by omega) (by omega)])
 rw[q07]at h1
 have hdup:∀j,j<p.length→pt p j∉p.take j:=fun j hj=>hno j (by omega)
 clear hN
 refine gg rfl (q04 (gg rfl ?_))
 refine q0l (S:=fun k:Nat=>([q0k p,q00 p.length,q0k p,q00 p.length,q00 k],[none,none,none,none,none],[0,0,0,0,0]))
  (C:=fun i=>i≤p.length∧∀j,j<i→q3X (pt p j) (pt p ((j+1)%p.length)) (pt p ((j+2)%p.length))=false∧∀k,k<p.length→j+2≤k→(k+1)%p.length≠j→q2Y (pt p j) (pt p ((j+1)%p.length)) (pt p k) (pt p ((k+1)%p.length))=false)
  (m:=fun k=>p.length-k) 0 ⟨by omega,fun j h=>by omega⟩ (by omega) ?_ ?_
 ·exact q03 rfl trivial (by simp[q0k,q00])
 intro i ⟨hi,hall⟩ N hN
 refine gg rfl (q01 rfl (fun g1=>?_) (fun g1=>?_))
 ·rw[q06]at g1
  have hlt:i<p.length:=by omega
  have w1:=wS (n:=i)
  have w2:IntKind.i64.wrap ((i:Int)+2)=((i+2:Nat):Int):=ww
  refine gg rfl (q0j i rfl rfl rfl (q0U hlt) rfl (gg rfl (q2K rfl rfl (by omega) ?_)))
  refine gg rfl (q0j ((i+1)%p.length) rfl rfl (by rw[w1,q1z]) (q0U (Nat.mod_lt _ (by omega))) rfl ?_)
  refine gg rfl (q2K rfl rfl (by omega) ?_)
  refine gg rfl (q0j ((i+2)%p.length) rfl rfl (by rw[w2,q1z]) (q0U (Nat.mod_lt _ (by omega))) rfl ?_)
  refine gg rfl (q02 rfl rfl (qDJ (pt p i) (pt p ((i+1)%p.length)) (pt p ((i+2)%p.length))) (gg rfl (q01 rfl (fun g2=>?_) (fun g2=>?_))))
  ·refine gg rfl (q04 (gg rfl (q09 rfl rfl rfl trivial ?_)))
   have:¬q3Y p:=fun hs=>by have:=(hs.2 i hlt).1;rw[g2]at this;cases this
   simp[this]
  refine gg rfl ?_
  have fin:∀{t:q0z} {h:q0e} {z:Frz} {nx:Nat},(∀k,k<p.length→i+2≤k→(k+1)%p.length≠i→q2Y (pt p i) (pt p ((i+1)%p.length)) (pt p k) (pt p ((k+1)%p.length))=false)→
   (q15 0 [(0,0),(3,0),(25,0),(26,0),(27,0)] t h z nx fun _ _ kp=>kp=([q0k p,q00 p.length,q0k p,q00 p.length,q00 ((i+1:Nat):Int)],[none,none,none,none,none],[0,0,0,0,0]))→N t h z nx:=by
   intro t h z nx hm hst
   refine hN (i+1) ⟨by omega,fun j hj=>?_⟩ (by omega) hst
   by_cases hji:j<i
   ·exact hall j hji
   obtain rfl:j=i:=by omega
   exact⟨g2,hm⟩
  clear hN
  refine q0l (S:=fun k:Nat=>([q0k p,q00 p.length,q00 i,.ptr 3 0 0,.ptr 4 0 0,q00 k,q0k p,q00 p.length,q00 i],[none,none,none,some (.row [(pt p i).enc] 2),some (.row [(pt p ((i+1)%p.length)).enc] 2),none,none,none,none],[0,0,0,0,0,0,0,0,0]))
   (C:=fun k=>i+2≤k∧k≤p.length+2∧∀k',k'<p.length→k'<k→i+2≤k'→(k'+1)%p.length≠i→q2Y (pt p i) (pt p ((i+1)%p.length)) (pt p k') (pt p ((k'+1)%p.length))=false)
   (m:=fun k=>p.length+2-k) (i+2) ⟨by omega,by omega,fun k' _ h1 h2=>by omega⟩ (by omega) ?_ ?_
  ·exact q03 rfl ⟨rfl,rfl,trivial⟩ (by simp[q0k,q00,Spot.enc,w2])
  intro k ⟨hk1,hk2,hkall⟩ N2 hN2
  refine gg rfl (q08 rfl (fun e1=>?_) (fun e1=>?_))
  ·rw[q06]at e1
   have hkl:k<p.length:=by omega
   have wk:=wS (n:=k)
   refine gg rfl (q2K rfl rfl (by omega) ?_)
   refine gg rfl (q01 rfl (fun e2=>?_) (fun e2=>?_))
   ·rw[q0w,wk,q1z]at e2
    have hne:(k+1)%p.length≠i:=fun e=>e2 (by rw[e])
    refine gg rfl (q0j k rfl rfl rfl (q0U hkl) rfl (gg rfl (q2K rfl rfl (by omega) ?_)))
    refine gg rfl (q0j ((k+1)%p.length) rfl rfl (by rw[wk,q1z]) (q0U (Nat.mod_lt _ (by omega))) rfl ?_)
    refine gg rfl (q02 rfl rfl (qIo (pt p i) (pt p ((i+1)%p.length)) (pt p k) (pt p ((k+1)%p.length))) (gg rfl (q01 rfl (fun e3=>?_) (fun e3=>?_))))
    ·refine gg rfl (q04 (gg rfl (q04 (gg rfl (q09 rfl rfl rfl trivial ?_)))))
     have:¬q3Y p:=fun hs=>by have:=(hs.2 i hlt).2 k hkl hk1 hne;rw[e3]at this;cases this
     simp[this]
    refine gg rfl (q04 (hN2 (k+1) ⟨by omega,by omega,fun k' h1 h2 h3 h4=>?_⟩ (by omega) ?_))
    ·by_cases hkk:k'<k
     ·exact hkall k' h1 hkk h3 h4
     obtain rfl:k'=k:=by omega
     exact e3
    exact q03 rfl ⟨rfl,rfl,trivial⟩ (by simp[q0k,q00,Spot.enc,wk])
   rw[q0B,wk,q1z]at e2
   have heq:(k+1)%p.length=i:=by omega
   refine gg rfl (q04 (gg rfl (q04 (fin (fun k' h1 h2 h3=>?_) ?_))))
   ·by_cases hkk:k'<k
    ·exact hkall k' h1 hkk h2 h3
    by_cases hkk2:k'=k
    ·subst hkk2;exact absurd heq h3
    exfalso
    rw[Nat.mod_eq_of_lt (by omega)]at heq
    omega
   exact q03 rfl trivial (by simp[q0k,q00,w1])
  rw[q07]at e1
  refine gg rfl (q0i rfl (gg rfl (q04 (gg rfl (q04 (fin (fun k' h1 h2 h3=>hkall k' h1 (by omega) h2 h3) ?_))))))
  exact q03 rfl trivial (by simp[q0k,q00,w1])
 rw[q07]at g1
 refine gg rfl (q04 (gg rfl (q09 rfl rfl rfl trivial ?_)))
 have:q3Y p:=⟨hdup,fun j hj=>hall j (by omega)⟩
 simp[this]
end Go.F

namespace Go.F
attribute [local irreducible] IntKind.wrap wpM
theorem q1L {s:Spot}{m:Int}:q0x s m=true↔(-m≤s.x∧s.x≤m∧ -m≤s.y∧s.y≤m):=by simp[q0x]
theorem qAs {p:List Spot}(h:p.any (fun s=>!q0x s 1048576)=false):OkP p:=by
 refine⟨fun s hs=>?_⟩
 have:q0x s 1048576=true:=by
  cases hw:q0x s 1048576
  ·exact absurd (List.any_eq_true (p:=fun s=>!q0x s 1048576).2 ⟨s,hs,by simp[hw]⟩) (by simp only[h];decide)
  rfl
 rw[q1L]at this
 exact⟨by omega,by omega⟩
def q1M (p:List Spot):Int:=
 if 40<p.length then 5 else if p.length<3 then 11 else if p.any (fun s=>!q0x s 1048576)then 3 else if q3Y p then 0 else 11
theorem q3L (p:List Spot):PU qns [q0k p]=some (.int .i64 (q1M p)):=by
 refine q0g (fn:=qcE) rfl (q0a ?_)
 refine gg rfl (q01 rfl (fun h1=>?_) (fun h1=>?_))
 ·refine gg rfl (q09 rfl rfl rfl trivial ?_)
  rw[q06]at h1
  simp at h1
  rw[q1M,if_pos (by omega)]
 refine gg rfl ?_
 rw[q07]at h1
 simp at h1
 refine q01 rfl (fun h2=>?_) (fun h2=>?_)
 ·refine gg rfl (q09 rfl rfl rfl trivial ?_)
  rw[q06]at h2
  simp at h2
  rw[q1M,if_neg (by omega),if_pos (by omega)]
 refine gg rfl ?_
 rw[q07]at h2
 simp at h2
 refine q02 rfl rfl (qd2 qab _ rfl qAr p (by omega)) ?_
 refine gg rfl (q01 rfl (fun h3=>?_) (fun h3=>?_))
 ·refine gg rfl (q09 rfl rfl rfl trivial ?_)
  simp[q1M,show¬40<p.length by omega,show¬p.length<3 by omega]at h3⊢
  intro h4
  exact absurd h3 (by simpa using h4)
 refine gg rfl ?_
 have:=qAs h3
 refine q02 rfl rfl (qDL p (by omega) (by omega)) ?_
 refine gg rfl (q01 rfl (fun h4=>?_) (fun h4=>?_))
 ·refine gg rfl (q09 rfl rfl rfl trivial ?_)
  simp at h4
  rw[q1M,if_neg (by omega),if_neg (by omega),if_neg (by simp[h3]),if_neg h4]
 refine gg rfl (q09 rfl rfl rfl trivial ?_)
 simp at h4
 rw[q1M,if_neg (by omega),if_neg (by omega),if_neg (by simp[h3]),if_pos h4]
def q2p (p:List Spot):Nat→Int
 |0=>0
 |k+1=>q2p p k+((pt p k).x*(pt p ((k+1)%p.length)).y-(pt p k).y*(pt p ((k+1)%p.length)).x)
def q4s (p:List Spot):Int:=q2p p p.length
theorem qbn (p:List Spot) [OkP p](k:Nat):Bd (q2p p k) (k*35184372088832):=by
 induction k with
 |zero=>exact⟨by simp[q2p]⟩
 |succ k ih=>
  have h:Bd ((pt p k).x*(pt p ((k+1)%p.length)).y-(pt p k).y*(pt p ((k+1)%p.length)).x) _:=inferInstance
  have:=h.le
  have:=ih.le
  refine⟨?_⟩
  rw[q2p]
  omega
set_option maxHeartbeats 1000000 in
theorem qCr (p:List Spot) [OkP p](hp:p.length≤1000):PU qpJ [q0k p]=some (.int .i64 (q4s p)):=by
 refine q0g (fn:=qdF) rfl (q0a ?_)
 refine gg rfl (q0l (S:=fun k:Nat=>([q0k p,q00 (q2p p k),q0k p,q00 p.length,q00 k],[none,none,none,none,none],[0,0,0,0,0])) (C:=fun k=>k≤p.length) (m:=fun k=>p.length-k) 0 (by omega) (by omega) ?_ ?_)
 ·exact q03 rfl trivial (by simp[q0k,q00,q2p])
 intro k hk N hN
 refine gg rfl (q01 rfl (fun h1=>?_) (fun h1=>?_))
 ·rw[q06]at h1
  have hlt:k<p.length:=by omega
  have w1:=wS (n:=k)
  have b0:=(qbn p k).le
  have b1:=(qbn p (k+1)).le
  refine gg rfl (q0j k rfl rfl rfl (q0U hlt) rfl (gg rfl (q2K rfl rfl (by rw[List.length_map];omega) ?_)))
  refine gg rfl (q0j ((k+1)%p.length) rfl rfl (by rw[w1,List.length_map,q1z]) (q0U (Nat.mod_lt _ (by omega))) rfl ?_)
  refine gg rfl (q04 (hN (k+1) (by omega) (by omega) ?_))
  refine q03 rfl trivial ?_
  have e1:IntKind.i64.wrap ((pt p k).x*(pt p ((k+1)%p.length)).y)=(pt p k).x*(pt p ((k+1)%p.length)).y:=q0Z (by decide)
  have e2:IntKind.i64.wrap ((pt p k).y*(pt p ((k+1)%p.length)).x)=(pt p k).y*(pt p ((k+1)%p.length)).x:=q0Z (by decide)
  have e3:IntKind.i64.wrap ((pt p k).x*(pt p ((k+1)%p.length)).y-(pt p k).y*(pt p ((k+1)%p.length)).x)=(pt p k).x*(pt p ((k+1)%p.length)).y-(pt p k).y*(pt p ((k+1)%p.length)).x:=q0Z (by decide)
  have e4:=ww (x:=q2p p (k+1))
  rw[q2p]at e4
  simp[q0k,q00,q2p,w1,e1,e2,e3,e4]
 rw[q07]at h1
 refine gg rfl (q04 (gg rfl (q09 rfl rfl rfl trivial ?_)))
 obtain rfl:k=p.length:=by omega
 rfl
def q12 (p:List Spot):Int:=if q1M p=0 then q4s p else 0
theorem q17 {p:List Spot}(h:q1M p=0):3≤p.length∧p.length≤40∧OkP p∧(∀s∈p,q0x s 1048576=true)∧q3Y p:=by
 unfold q1M at h
 split at h
 ·cases h
 split at h
 ·cases h
 split at h
 ·cases h
 split at h
 ·rename_i h1 h2 h3 h4
  have h3':p.any (fun s=>!q0x s 1048576)=false:=by simpa using h3
  refine⟨by omega,by omega,qAs h3',?_,h4⟩
  simpa using h3
 cases h
theorem qxz (p:List Spot):PU qd4 [q0k p]=some (.int .i64 (q12 p)):=by
 refine q0g (fn:=qct) rfl (q0a ?_)
 refine gg rfl (q02 rfl rfl (q3L p) (gg rfl (q01 rfl (fun h=>?_) (fun h=>?_))))
 ·refine gg rfl (q09 rfl rfl rfl trivial ?_)
  rw[q0w]at h
  rw[q12,if_neg h]
 rw[q0B]at h
 obtain⟨_,h2,h3,_,_⟩:=q17 h
 refine gg rfl (q02 rfl rfl (qCr p (by omega)) ?_)
 refine gg rfl (q09 rfl rfl rfl trivial ?_)
 rw[q12,if_pos h]
end Go.F

namespace Go.F
attribute [local irreducible] IntKind.wrap wpM
def q1C (p:List Spot):Int:=
 if 40<p.length then 5 else if p.length<2 then 11 else if p.any (fun s=>!q0x s 1048576)then 3 else if∀i,i<p.length-1→pt p i≠pt p (i+1)then 0 else 11
theorem qa8 (p:List Spot):PU qkt [q0k p]=some (.int .i64 (q1C p)):=by
 refine q0g (fn:=qaU) rfl (q0a ?_)
 refine gg rfl (q01 rfl (fun h1=>?_) (fun h1=>?_))
 ·refine gg rfl (q09 rfl rfl rfl trivial ?_)
  rw[q06,List.length_map]at h1
  rw[q1C,if_pos (by omega)]
 refine gg rfl ?_
 rw[q07,List.length_map]at h1
 refine q01 rfl (fun h2=>?_) (fun h2=>?_)
 ·refine gg rfl (q09 rfl rfl rfl trivial ?_)
  rw[q06,List.length_map]at h2
  rw[q1C,if_neg (by omega),if_pos (by omega)]
 refine gg rfl ?_
 rw[q07,List.length_map]at h2
 refine q02 rfl rfl (qd2 q9g _ rfl qfW p (by omega)) ?_
 refine gg rfl (q01 rfl (fun h3=>?_) (fun h3=>?_))
 ·refine gg rfl (q09 rfl rfl rfl trivial ?_)
  rw[q1C,if_neg (by omega),if_neg (by omega),if_pos h3]
 refine gg rfl (q0l (S:=fun k:Nat=>([q0k p,q00 (p.length-1:Nat),q00 k],[none,none,none],[0,0,0])) (C:=fun k=>k≤p.length-1∧∀i,i<k→pt p i≠pt p (i+1)) (m:=fun k=>p.length-k) 0 ⟨by omega,fun i hi=>by omega⟩ (by omega) ?_ ?_)
 ·refine q03 rfl trivial ?_
  have:IntKind.i64.wrap ((p.length:Int)-1)=((p.length-1:Nat):Int):=by rw[wrap64 (by omega) (by omega)];omega
  simp[q0k,q00,this]
 intro k ⟨hk,hno⟩ N hN
 refine gg rfl (q01 rfl (fun g1=>?_) (fun g1=>?_))
 ·rw[q06]at g1
  have hlt:k+1<p.length:=by omega
  have w1:=wS (n:=k)
  refine gg rfl (q0j k rfl rfl rfl (q0U (by omega)) rfl ?_)
  refine gg rfl (q0j (k+1) rfl rfl w1 (q0U hlt) rfl (gg rfl (q01 rfl (fun g2=>?_) (fun g2=>?_))))
  ·refine gg rfl (q04 (gg rfl (q09 rfl rfl rfl trivial ?_)))
   rw[q1C,if_neg (by omega),if_neg (by omega),if_neg (by rw[h3];decide),if_neg]
   intro hall
   refine hall k (by omega) ?_
   rw[q1T]at g2
   simpa using g2
  refine gg rfl (q04 (hN (k+1) ⟨by omega,fun i hi=>?_⟩ (by omega) (q03 rfl trivial (by simp[q0k,q00,w1]))))
  by_cases hik:i<k
  ·exact hno i hik
  obtain rfl:i=k:=by omega
  rw[q1T]at g2
  simpa using g2
 rw[q07]at g1
 refine gg rfl (q04 (gg rfl (q09 rfl rfl rfl trivial ?_)))
 rw[q1C,if_neg (by omega),if_neg (by omega),if_neg (by rw[h3];decide),if_pos (fun i hi=>hno i (by omega))]
end Go.F

namespace Go.F
attribute [local irreducible] IntKind.wrap wpM
def q0n (l:List Edge):List Spot:=l.flatMap (fun e=>e.line.dropLast)
theorem qc5 {l:List Edge}{k:Nat}(h:k<l.length):q0n (l.take (k+1))=q0n (l.take k)++l[k].line.dropLast:=by
 rw[List.take_succ_eq_append_getElem h,q0n,List.flatMap_append];simp[q0n]
theorem qeH {l:List Edge}(k:Nat):(q0n (l.take k)).length≤(q0n l).length:=by
 have:q0n l=q0n (l.take k)++q0n (l.drop k):=by
  rw[q0n,q0n,q0n,←List.flatMap_append,List.take_append_drop]
 rw[this,List.length_append];omega
theorem q1n {l:List D}{n:Nat}(hn:n=l.length)(h:l.all (dat 4)=true):0+n≤l.length∧((l.drop 0).take n).all (dat 4)=true:=by
 subst hn
 simpa using h
theorem q1o {l:List D}{n:Nat}(hn:n=l.length):D.lst (l.take n)=.lst l:=by
 subst hn
 simp
set_option maxHeartbeats 1000000 in
theorem qmL (l:List Edge)(h1:∀e∈l,1≤e.line.length∧e.line.length≤100000)(hl:l.length≤100000)(hv:(q0n l).length≤100000):PU qhr [edges l]=some (q0k (q0n l)):=by
 refine q0g (fn:=q8B) rfl (q0a ?_)
 refine gg rfl (q0l (S:=fun k:Nat=>([.ref 0 0 (q0n (l.take k)).length,edges l,q00 l.length,q00 k],[some (.row ((q0n (l.take k)).map Spot.enc) 2),none,none,none],[0,0,0,0])) (C:=fun k=>k≤l.length) (m:=fun k=>l.length-k) 0 (by omega) (by omega) ?_ ?_)
 ·exact q03 rfl ⟨rfl,trivial⟩ (by simp[edges,q00,q0n])
 intro k hk N hN
 refine gg rfl (q01 rfl (fun g1=>?_) (fun g1=>?_))
 ·rw[q06]at g1
  have hlt:k<l.length:=by omega
  have w1:=wS (n:=k)
  have hln:=h1 _ (List.getElem_mem hlt)
  have hcells:(l[k].line.map Spot.enc).all (fun d=>d.cells.length==2)=true:=q1k (f:=Spot.enc) (n:=2) (fun _=>rfl) _
  have hle:=qeH (l:=l) (k+1)
  rw[qc5 hlt,List.length_append]at hle
  have w2:IntKind.i64.wrap ((l[k].line.length:Int)-1)=((l[k].line.length-1:Nat):Int):=by rw[wrap64 (by omega) (by omega)];omega
  refine gg rfl (q0j k rfl rfl rfl (q1K hlt) rfl (gg rfl (qdB (l[k].line.length-1) rfl hcells ⟨_,_,rfl,by rw[List.length_map];exact w2⟩ (by simp) ?_)))
  refine gg rfl ?_
  have e:(l[k].line.map Spot.enc).take (l[k].line.length-1)=l[k].line.dropLast.map Spot.enc:=by
   rw[List.dropLast_eq_take,List.map_take]
  rw[e]
  refine qkZ rfl rfl rfl (q1k (f:=Spot.enc) (n:=2) (fun _=>rfl) _) (by simp) (Nat.zero_le _) (by simp[q0N]at*;omega) ?_
  refine gg rfl (q04 (hN (k+1) (by omega) (by omega) (q03 rfl ⟨by rw[←List.map_append];exact q05 q0r _,trivial⟩ ?_)))
  simp[edges,q00,w1,qc5 hlt]
 rw[q07]at g1
 refine gg rfl (q04 (gg rfl ?_))
 obtain rfl:k=l.length:=by omega
 rw[List.take_length]
 refine q09 rfl rfl rfl ⟨q1n (by simp) (q0L q1u _),trivial⟩ ?_
 rw[q1o (by simp),q0k]
end Go.F

namespace Go.F
attribute [local irreducible] IntKind.wrap wpM
def q2G (s:ByteArray)(i:Nat):UInt8:=s.toList.getD i 0
theorem qpD (s:ByteArray):s.toList.length=s.size:=by rw[Go.ByteArray.toList_eq];rfl
theorem q6V {s:ByteArray}{i:Nat}(h:i<s.size):s.toList[i]?=some (q2G s i):=by
 have:i<s.toList.length:=by rw[qpD];exact h
 simp[q2G,this]
def q5f (n:Nat):Bool:=decide (48≤n)&&decide (n≤57)
theorem qAt (n:Nat):PU qac [.int .u8 n]=some (.bool (q5f n)):=by
 refine q0g (fn:=q9P) rfl (q0a ?_)
 repeat' (first
  |refine goP 800 rfl rfl ?_
  |refine q0h rfl ?_|refine q0m rfl ?_|refine q08 rfl (fun _=>?_) (fun _=>?_)
  |refine q0d rfl ?_|refine q0i rfl ?_|refine q01 rfl (fun _=>?_) (fun _=>?_)
  |refine q0Q rfl (fun _=>?_) (fun _=>?_)
  |refine q09 rfl rfl rfl trivial ?_)
 all_goals ((try simp only[q1U,q2h,q2o,q4n,decide_eq_true_eq,decide_eq_false_iff_not,Bool.not_eq_true,Bool.not_eq_false,Int.not_lt,Int.not_le]at*);first|(simp_all[q5f];done) |(simp_all[q5f];omega) |(rw[D.bool.injEq,Bool.eq_iff_iff];simp[q5f];omega) |(rw[D.bool.injEq,Bool.eq_iff_iff];simp_all[q5f];omega) |(simp[q5f];split<;>(try split)<;>omega))
def q82 (i n:Nat):Bool:=(decide (97≤n)&&decide (n≤122)) ||(!decide (i=0)&&(decide (n=95) ||q5f n))
def q1X (s:ByteArray):Bool:=
 !decide (s.size=0)&&(!decide (24<s.size)&&(!(s.toList==[109,105,110])&&(!(s.toList==[109,97,120])&&decide (∀i,i<s.size→q82 i (q2G s i).toNat=true))))
theorem qGo:(⟨#[109,105,110]⟩:ByteArray).toList=[109,105,110]:=by rw[Go.ByteArray.toList_eq]
theorem qGp:(⟨#[109,97,120]⟩:ByteArray).toList=[109,97,120]:=by rw[Go.ByteArray.toList_eq]
theorem quY {s:ByteArray}{b:Bool}(h:(s.toList==(⟨#[109,105,110]⟩:ByteArray).toList)=b):(s.toList==[109,105,110])=b:=by rwa[qGo]at h
theorem quZ {s:ByteArray}{b:Bool}(h:(s.toList==(⟨#[109,97,120]⟩:ByteArray).toList)=b):(s.toList==[109,97,120])=b:=by rwa[qGp]at h
set_option maxHeartbeats 2000000 in
theorem qDM (s:ByteArray):PU qbt [.str s]=some (.bool (q1X s)):=by
 refine q0g (fn:=qbd) rfl (q0a ?_)
 refine gg rfl (q08 rfl (fun h0=>?_) (fun h0=>?_))
 ·repeat' (first
   |refine goP 800 rfl rfl ?_
   |refine q0h rfl ?_|refine q0m rfl ?_|refine q08 rfl (fun _=>?_) (fun _=>?_)
   |refine q0d rfl ?_|refine q0i rfl ?_|refine q01 rfl (fun _=>?_) (fun _=>?_)
   |refine q0Q rfl (fun _=>?_) (fun _=>?_)
   |refine q09 rfl rfl rfl trivial ?_)
  rw[q1I]at h0
  have:s.size=0:=by omega
  simp[q1X,this]
 refine gg rfl ?_
 rw[q1J]at h0
 refine q08 rfl (fun h1=>?_) (fun h1=>?_)
 ·repeat' (first
   |refine goP 800 rfl rfl ?_
   |refine q0h rfl ?_|refine q0m rfl ?_|refine q08 rfl (fun _=>?_) (fun _=>?_)
   |refine q0d rfl ?_|refine q0i rfl ?_|refine q01 rfl (fun _=>?_) (fun _=>?_)
   |refine q0Q rfl (fun _=>?_) (fun _=>?_)
   |refine q09 rfl rfl rfl trivial ?_)
  rw[q06]at h1
  have:24<s.size:=by omega
  simp[q1X,this]
 refine gg rfl ?_
 rw[q07]at h1
 refine q08 rfl (fun h2=>?_) (fun h2=>?_)
 ·repeat' (first
   |refine goP 800 rfl rfl ?_
   |refine q0h rfl ?_|refine q0m rfl ?_|refine q08 rfl (fun _=>?_) (fun _=>?_)
   |refine q0d rfl ?_|refine q0i rfl ?_|refine q01 rfl (fun _=>?_) (fun _=>?_)
   |refine q0Q rfl (fun _=>?_) (fun _=>?_)
   |refine q09 rfl rfl rfl trivial ?_)
  replace h2:=quY h2
  simp[q1X,h2]
 refine gg rfl ?_
 replace h2:=quY h2
 refine q01 rfl (fun h3=>?_) (fun h3=>?_)
 ·refine gg rfl (q09 rfl rfl rfl trivial ?_)
  replace h3:=quZ h3
  simp[q1X,h3]
 refine gg rfl ?_
 replace h3:=quZ h3
 have key:∀b,(decide (∀i,i<s.size→q82 i (q2G s i).toNat=true))=b→q1X s=b:=by
  intro b hb
  rw[q1X,hb,h2,h3]
  rw[show decide (s.size=0)=false by rw[decide_eq_false_iff_not];omega,show decide (24<s.size)=false by rw[decide_eq_false_iff_not];omega]
  simp
 refine q0l (S:=fun k:Nat=>([.str s,q00 s.size,q00 k],[none,none,none],[0,0,0])) (C:=fun k=>k≤s.size∧∀i,i<k→q82 i (q2G s i).toNat=true) (m:=fun k=>s.size-k) 0 ⟨by omega,fun i hi=>by omega⟩ (by omega) ?_ ?_
 ·exact q03 rfl trivial (by simp[q00])
 intro k ⟨hk,hall⟩ N hN
 refine gg rfl (q01 rfl (fun g1=>?_) (fun g1=>?_))
 ·rw[q06]at g1
  have hlt:k<s.size:=by omega
  have w1:=wS (n:=k)
  have yes:q82 k (q2G s k).toNat=true→∀{t:q0z} {h:q0e} {z:Frz} {nx:Nat},(q15 0 [(0,0),(23,0),(24,0)] t h z nx fun _ _ kp=>kp=([.str s,q00 s.size,q00 ((k+1:Nat):Int)],[none,none,none],[0,0,0]))→N t h z nx:=by
   intro hc t h z nx hst
   refine hN (k+1) ⟨by omega,fun i hi=>?_⟩ (by omega) hst
   by_cases hik:i<k
   ·exact hall i hik
   obtain rfl:i=k:=by omega
   exact hc
  have no:q82 k (q2G s k).toNat=false→q1X s=false:=by
   intro hc
   refine key false ?_
   simp
   exact⟨k,hlt,hc⟩
  clear hN
  refine gg rfl (q2q k rfl rfl rfl (q6V hlt) ?_)
  repeat' (first
   |refine goP 800 rfl rfl ?_
   |refine q0h rfl ?_|refine q0m rfl ?_|refine q08 rfl (fun _=>?_) (fun _=>?_)
   |refine q0d rfl ?_|refine q0i rfl ?_|refine q01 rfl (fun _=>?_) (fun _=>?_)
   |refine q0Q rfl (fun _=>?_) (fun _=>?_)
   |refine q02 rfl rfl (qAt _) ?_)
  all_goals refine q04 ?_
  all_goals first
   |(refine yes ?_ (q03 rfl trivial (by simp[q00,w1]))
     simp only[q1U,q2h,q2o,q4n,decide_eq_true_eq,decide_eq_false_iff_not,Bool.not_eq_true,Bool.not_eq_false,Int.not_lt,Int.not_le]at*
     simp_all[q82]
     try omega)
   |(refine gg rfl ?_
     refine q09 rfl rfl rfl trivial ?_
     rw[no]
     simp only[q1U,q2h,q2o,q4n,decide_eq_true_eq,decide_eq_false_iff_not,Bool.not_eq_true,Bool.not_eq_false,Int.not_lt,Int.not_le]at*
     simp_all[q82]
     try omega)
 rw[q07]at g1
 refine gg rfl (q04 (gg rfl (q09 rfl rfl rfl trivial ?_)))
 rw[key true (by simp;exact fun i hi=>hall i (by omega))]
end Go.F

namespace Go.F
attribute [local irreducible] IntKind.wrap wpM
theorem qv0:PU q9h [.int .i64 2]=some (.tup [.int .i64 0,.int .i64 0]):=by
 refine q0g (fn:=q8F) rfl (q0a ?_)
 repeat' (first
  |refine goP 800 rfl rfl ?_
  |refine q0h rfl ?_|refine q0m rfl ?_|refine q08 rfl (fun _=>?_) (fun _=>?_)
  |refine q0d rfl ?_|refine q0i rfl ?_|refine q01 rfl (fun _=>?_) (fun _=>?_)
  |refine q0Q rfl (fun _=>?_) (fun _=>?_)
  |refine q09 rfl rfl rfl trivial ?_)
 all_goals simp_all[eqb]
theorem qpE:PU qeO [.agg [.bool false,.lst [],.lst []],.agg [.bool false,.lst [],.lst []]]=some (.int .i64 0):=qzU (n:=30) (by kernel_rfl)
def qGq (s:ByteArray):D:=.agg [.int .i64 2,.bool false,.lst [],.lst [],.str s,.lst []]
theorem qGr (s:ByteArray):PU qnA [qGq s]=some (.bool (q1X s)):=by
 refine q0g (fn:=qcX) rfl (q0a ?_)
 repeat' (first
  |refine goP 800 rfl rfl ?_
  |refine q0h rfl ?_|refine q0m rfl ?_|refine q08 rfl (fun _=>?_) (fun _=>?_)
  |refine q0d rfl ?_|refine q0i rfl ?_|refine q01 rfl (fun _=>?_) (fun _=>?_)
  |refine q0Q rfl (fun _=>?_) (fun _=>?_)
  |refine q09 rfl rfl rfl trivial ?_
  |refine q02 rfl rfl (qv0) ?_
  |refine q02 rfl rfl (qDM s) ?_
  |refine q02 rfl rfl (qpE) ?_)
 all_goals simp_all[ltb,eqb]
end Go.F

namespace Go.F
attribute [local irreducible] IntKind.wrap wpM
theorem qki (s:ByteArray):PU qnx [qGq s,.int .i64 1]=some (.int .i64 (if q1X s then 0 else 1)):=by
 refine q0g (fn:=qcB) rfl (q0a ?_)
 refine gg rfl (q01 rfl (fun h=>?_) (fun h=>?_))
 ·exact absurd h (by simp[ltb])
 refine gg rfl (q02 rfl rfl (qGr s) (gg rfl (q01 rfl (fun h1=>?_) (fun h1=>?_))))
 ·repeat' (first
   |refine goP 800 rfl rfl ?_
   |refine q0h rfl ?_|refine q0m rfl ?_|refine q08 rfl (fun _=>?_) (fun _=>?_)
   |refine q0d rfl ?_|refine q0i rfl ?_|refine q01 rfl (fun _=>?_) (fun _=>?_)
   |refine q0Q rfl (fun _=>?_) (fun _=>?_)
   |refine q09 rfl rfl rfl trivial ?_)
  simp at h1
  simp[h1]
 refine gg rfl (q0l (S:=fun _:Unit=>([.int .i64 1,.lst [],.int .i64 0,.int .i64 0],[none,none,none,none],[0,0,0,0])) (C:=fun _=>True) (m:=fun _=>0) () trivial (by decide) ?_ ?_)
 ·exact q03 rfl trivial (by simp)
 intro _ _ N hN
 repeat' (first
  |refine goP 800 rfl rfl ?_
  |refine q0h rfl ?_|refine q0m rfl ?_|refine q08 rfl (fun _=>?_) (fun _=>?_)
  |refine q0d rfl ?_|refine q0i rfl ?_|refine q01 rfl (fun _=>?_) (fun _=>?_)
  |refine q0Q rfl (fun _=>?_) (fun _=>?_)
  |refine q09 rfl rfl rfl trivial ?_)
 ·exact absurd ‹ltb _ _=true› (by simp[ltb])
 refine q04 (gg rfl (q09 rfl rfl rfl trivial ?_))
 simp at h1
 simp[h1]
theorem qbo (s:ByteArray):PU qnv [qGq s]=some (.int .i64 (if q1X s then 0 else 1)):=by
 refine q0g (fn:=qcU) rfl (q0a ?_)
 refine gg rfl (q02 rfl rfl (qki s) ?_)
 repeat' (first
  |refine goP 800 rfl rfl ?_
  |refine q0h rfl ?_|refine q0m rfl ?_|refine q08 rfl (fun _=>?_) (fun _=>?_)
  |refine q0d rfl ?_|refine q0i rfl ?_|refine q01 rfl (fun _=>?_) (fun _=>?_)
  |refine q0Q rfl (fun _=>?_) (fun _=>?_)
  |refine q09 rfl rfl rfl trivial ?_)
 rfl
theorem qj3 (s:ByteArray):PU qks [.str s]=some (.bool (q1X s)):=by
 refine q0g (fn:=qaS) rfl (q0a ?_)
 refine gg rfl (q02 rfl rfl (qbo s) ?_)
 repeat' (first
  |refine goP 800 rfl rfl ?_
  |refine q0h rfl ?_|refine q0m rfl ?_|refine q08 rfl (fun _=>?_) (fun _=>?_)
  |refine q0d rfl ?_|refine q0i rfl ?_|refine q01 rfl (fun _=>?_) (fun _=>?_)
  |refine q0Q rfl (fun _=>?_) (fun _=>?_)
  |refine q09 rfl rfl rfl trivial ?_)
 cases q1X s<;>simp[eqb]
def q0K (f:Nat→Int):Nat→Int
 |0=>0
 |k+1=>if q0K f k=0 then f k else q0K f k
theorem q3Q {f:Nat→Int}{k n:Nat}(h0:q0K f k=0)(h1:f k≠0)(h:k<n):q0K f n=f k:=by
 induction n with
 |zero=>omega
 |succ n ih=>
  rw[q0K]
  by_cases hk:k<n
  ·rw[ih hk,if_neg h1]
  obtain rfl:k=n:=by omega
  rw[if_pos h0]
theorem q2D {f:Nat→Int}{k:Nat}(h0:q0K f k=0)(h1:f k=0):q0K f (k+1)=0:=by
 rw[q0K,if_pos h0,h1]
theorem q1e {f:Nat→Int}{n k:Nat}(h0:q0K f n=0)(h:k<n):f k=0:=by
 induction n with
 |zero=>omega
 |succ n ih=>
  rw[q0K]at h0
  split at h0
  ·rename_i h2
   by_cases hk:k<n
   ·exact ih h2 hk
   obtain rfl:k=n:=by omega
   exact h0
  rename_i h2;exact absurd h0 h2
def eg (l:List Edge)(i:Nat):Edge:=l.getD i ⟨⟨#[]⟩,[]⟩
theorem q1D {l:List Edge}{i:Nat}(h:i<l.length):(l.map Edge.enc)[i]?=some (eg l i).enc:=by simp[eg,h]
theorem q3M {l:List Edge}{i:Nat}(h:i<l.length):eg l i=l[i]:=by simp[eg,h]
def qeJ (l:List Edge)(i:Nat):Bool:=(List.range i).any fun j=>(eg l j).name.toList==(eg l i).name.toList
theorem qhl {l:List Edge}{i j:Nat}(hj:j<i)(h:(eg l j).name.toList==(eg l i).name.toList):qeJ l i=true:=
 List.any_eq_true.2 ⟨j,List.mem_range.2 hj,h⟩
theorem qkj {l:List Edge}{i:Nat}(h:∀j,j<i→((eg l j).name.toList==(eg l i).name.toList)=false):qeJ l i=false:=by
 unfold qeJ
 rw[List.any_eq_false]
 intro j hj
 rw[h j (List.mem_range.1 hj)]
 decide
def q1r (l:List Edge)(i:Nat):Int:=
 if q1X (eg l i).name=false then 1 else if qeJ l i then 7 else q1C (eg l i).line
def q2T (l:List Edge)(i:Nat):Int:=
 if pt (eg l i).line ((eg l i).line.length-1)=pt (eg l ((i+1)%l.length)).line 0 then 0 else 11
def q0O (l:List Edge):Int:=
 if 16<l.length then 5 else if l.length<2 then 11
 else if q0K (q1r l) l.length=0 then
  if q0K (q2T l) l.length=0 then q1M (q0n l)else q0K (q2T l) l.length
 else q0K (q1r l) l.length
theorem q2x {p:List Spot}(h:q1C p=0):2≤p.length∧p.length≤40∧(∀s∈p,q0x s 1048576=true):=by
 unfold q1C at h
 split at h
 ·cases h
 split at h
 ·cases h
 split at h
 ·cases h
 rename_i h1 h2 h3
 exact⟨by omega,by omega,by simpa using h3⟩
theorem q34 {l:List Edge}{i:Nat}(h:q1r l i=0):q1C (eg l i).line=0:=by
 unfold q1r at h
 split at h
 ·cases h
 split at h
 ·cases h
 exact h
theorem qmM {l:List Edge}{m:Nat}(h:∀e∈l,e.line.length≤m):(q0n l).length≤l.length*m:=by
 induction l with
 |nil=>simp[q0n]
 |cons e l ih=>
  have h1:=ih fun e he=>h e (List.mem_cons_of_mem _ he)
  have h2:=h e List.mem_cons_self
  have:q0n (e::l)=e.line.dropLast++q0n l:=rfl
  rw[this,List.length_append,List.length_dropLast,List.length_cons,Nat.succ_mul]
  omega
theorem qAu {l:List Edge}{e:Edge}(h:e∈l):∃i,i<l.length∧eg l i=e:=by
 obtain⟨i,hi,rfl⟩:=List.getElem_of_mem h
 exact⟨i,hi,q3M hi⟩
set_option maxHeartbeats 2000000 in
theorem q6W (l:List Edge):PU qnu [edges l]=some (.int .i64 (q0O l)):=by
 refine q0g (fn:=qcM) rfl (q0a ?_)
 refine gg rfl (q01 rfl (fun h1=>?_) (fun h1=>?_))
 ·refine gg rfl (q09 rfl rfl rfl trivial ?_)
  rw[q06,List.length_map]at h1
  rw[q0O,if_pos (by omega)]
 refine gg rfl ?_
 rw[q07,List.length_map]at h1
 refine q01 rfl (fun h2=>?_) (fun h2=>?_)
 ·refine gg rfl (q09 rfl rfl rfl trivial ?_)
  rw[q06,List.length_map]at h2
  rw[q0O,if_neg (by omega),if_pos (by omega)]
 refine gg rfl ?_
 rw[q07,List.length_map]at h2
 have hcells:(l.map Edge.enc).all (fun d=>d.cells.length==2)=true:=q1k (f:=Edge.enc) (n:=2) (fun _=>rfl) l
 refine q0l (S:=fun k:Nat=>([edges l,edges l,q00 l.length,q00 k],[none,none,none,none],[0,0,0,0])) (C:=fun k=>k≤l.length∧q0K (q1r l) k=0) (m:=fun k=>l.length-k) 0 ⟨by omega,rfl⟩ (by omega) ?_ ?_
 ·exact q03 rfl trivial (by simp[edges,q00])
 intro k ⟨hk,hall⟩ N hN
 refine gg rfl (q01 rfl (fun g1=>?_) (fun g1=>?_))
 ·rw[q06]at g1
  have hlt:k<l.length:=by omega
  have w1:=wS (n:=k)
  have yes:q1r l k=0→∀{t:q0z} {h:q0e} {z:Frz} {nx:Nat},(q15 0 [(0,0),(17,0),(18,0),(19,0)] t h z nx fun _ _ kp=>kp=([edges l,edges l,q00 l.length,q00 ((k+1:Nat):Int)],[none,none,none,none],[0,0,0,0]))→N t h z nx:=
   fun hc {t h z nx} hst=>hN (k+1) ⟨by omega,q2D hall hc⟩ (by omega) hst
  have no:q1r l k≠0→q0O l=q1r l k:=by
   intro hc
   have:=q3Q hall hc hlt
   rw[q0O,if_neg (by omega),if_neg (by omega),if_neg (by rw[this];exact hc),this]
  clear hN
  refine gg rfl (q0j k rfl rfl rfl (q1D hlt) rfl (gg rfl (q02 rfl rfl (qj3 (eg l k).name) (gg rfl (q01 rfl (fun g2=>?_) (fun g2=>?_))))))
  ·refine gg rfl (q04 (gg rfl (q09 rfl rfl rfl trivial ?_)))
   have:q1r l k=1:=by rw[q1r,if_pos (by simpa using g2)]
   rw[no (by rw[this];decide),this]
  have g2':¬q1X (eg l k).name=false:=by simpa using g2
  refine gg rfl (qdB k rfl hcells ⟨_,_,rfl,rfl⟩ (by simp;omega) ?_)
  refine gg rfl ?_
  refine q0l (S:=fun j:Nat=>([edges l,.ptr 1 0 0,edges l,q00 l.length,q00 k,edges (l.take k),q00 k,q00 j],[none,some (.row [(eg l k).enc] 2),none,none,none,none,none,none],[0,0,0,0,0,0,0,0]))
   (C:=fun j=>j≤k∧∀i,i<j→((eg l i).name.toList==(eg l k).name.toList)=false) (m:=fun j=>k-j) 0 ⟨by omega,fun i hi=>by omega⟩ (by omega) ?_ ?_
  ·exact q03 rfl ⟨rfl,trivial⟩ (by simp[edges,q00,q0k,Edge.enc,List.map_take,Nat.min_eq_left (Nat.le_of_lt hlt)])
  intro j ⟨hj,hno⟩ N2 hN2
  refine gg rfl (q01 rfl (fun e1=>?_) (fun e1=>?_))
  ·rw[q06]at e1
   have hjk:j<k:=by omega
   have wj:=wS (n:=j)
   have hj2:((l.take k).map Edge.enc)[j]?=some (eg l j).enc:=by
    rw[List.map_take,List.getElem?_take,if_pos hjk];exact q1D (by omega)
   refine gg rfl (q0j j rfl rfl rfl hj2 rfl (gg rfl (q01 rfl (fun e2=>?_) (fun e2=>?_))))
   ·refine gg rfl (q04 (gg rfl (q04 (gg rfl (q09 rfl rfl rfl trivial ?_)))))
    have:q1r l k=7:=by rw[q1r,if_neg g2',if_pos (qhl hjk e2)]
    rw[no (by rw[this];decide),this]
   refine gg rfl (q04 (hN2 (j+1) ⟨by omega,fun i hi=>?_⟩ (by omega) (q03 rfl ⟨rfl,trivial⟩ (by simp[edges,q00,q0k,Edge.enc,wj]))))
   by_cases hij:i<j
   ·exact hno i hij
   obtain rfl:i=j:=by omega
   exact e2
  rw[q07]at e1
  clear hN2
  refine gg rfl (q04 (gg rfl ?_))
  have hnb:qeJ l k=false:=qkj fun i hi=>hno i (by omega)
  have hee:q1r l k=q1C (eg l k).line:=by rw[q1r,if_neg g2',if_neg (by rw[hnb];decide)]
  refine q02 rfl rfl (qa8 (eg l k).line) (gg rfl (q01 rfl (fun g3=>?_) (fun g3=>?_)))
  ·rw[q0w,←hee]at g3
   refine gg rfl (q04 (gg rfl (q09 rfl rfl rfl trivial ?_)))
   rw[no g3,hee]
  rw[q0B,←hee]at g3
  exact gg rfl (q04 (yes g3 (q03 rfl trivial (by simp[edges,q00,w1]))))
 rw[q07]at g1
 obtain rfl:k=l.length:=by omega
 clear hN hk g1
 have hln:∀i,i<l.length→2≤(eg l i).line.length∧(eg l i).line.length≤40∧_:=fun i hi=>q2x (q34 (q1e hall hi))
 refine gg rfl (q04 (gg rfl (q0l (S:=fun k:Nat=>([edges l,edges l,q00 l.length,q00 k],[none,none,none,none],[0,0,0,0])) (C:=fun k=>k≤l.length∧q0K (q2T l) k=0) (m:=fun k=>l.length-k) 0 ⟨by omega,rfl⟩ (by omega) ?_ ?_)))
 ·exact q03 rfl trivial (by simp[edges,q00])
 intro k ⟨hk,hjo⟩ N hN
 refine gg rfl (q01 rfl (fun g1=>?_) (fun g1=>?_))
 ·rw[q06]at g1
  have hlt:k<l.length:=by omega
  have hlt2:(k+1)%l.length<l.length:=Nat.mod_lt _ (by omega)
  have w1:=wS (n:=k)
  have a1:=hln k hlt
  have a2:=hln _ hlt2
  have w2:IntKind.i64.wrap (((eg l k).line.length:Int)-1)=(((eg l k).line.length-1:Nat):Int):=by rw[wrap64 (by omega) (by omega)];omega
  refine gg rfl (q0j k rfl rfl rfl (q1D hlt) rfl (gg rfl (q2K rfl rfl (by rw[List.length_map];omega) ?_)))
  refine gg rfl (q0j ((k+1)%l.length) rfl rfl (by rw[w1,List.length_map,q1z]) (q1D hlt2) rfl ?_)
  refine gg rfl (q0j ((eg l k).line.length-1) rfl rfl (by rw[List.length_map];exact w2) (q0U (by omega)) rfl ?_)
  refine gg rfl (q0j 0 rfl rfl rfl (q0U (by omega)) rfl ?_)
  refine gg rfl (q01 rfl (fun g2=>?_) (fun g2=>?_))
  ·refine gg rfl (q04 (gg rfl (q09 rfl rfl rfl trivial ?_)))
   rw[q1T]at g2
   have:q2T l k=11:=by rw[q2T,if_neg (by simpa using g2)]
   have h11:=q3Q hjo (by rw[this];decide) hlt
   rw[q0O,if_neg (by omega),if_neg (by omega),if_pos hall,if_neg (by rw[h11,this];decide),h11,this]
  refine gg rfl (q04 ?_)
  rw[q1T]at g2
  have:q2T l k=0:=by rw[q2T,if_pos (by simpa using g2)]
  refine hN (k+1) ⟨by omega,q2D hjo this⟩ (by omega) (q03 rfl trivial (by simp[edges,q00,w1]))
 rw[q07]at g1
 obtain rfl:k=l.length:=by omega
 refine gg rfl (q04 (gg rfl ?_))
 have hb:∀e∈l,1≤e.line.length∧e.line.length≤40:=by
  intro e he
  obtain⟨i,hi,rfl⟩:=qAu he
  have:=hln i hi
  exact⟨by omega,by omega⟩
 have hv:=qmM (m:=40) fun e he=>(hb e he).2
 refine q02 rfl rfl (qmL l (fun e he=>⟨(hb e he).1,by have:=(hb e he).2;omega⟩) (by omega) (by omega)) ?_
 refine gg rfl (q02 rfl rfl (q3L (q0n l)) (gg rfl (q09 rfl rfl rfl trivial ?_)))
 rw[q0O,if_neg (by omega),if_neg (by omega),if_pos hall,if_pos hjo]
theorem q18 {l:List Edge}(h:q0O l=0):2≤l.length∧l.length≤16∧q0K (q1r l) l.length=0∧q0K (q2T l) l.length=0∧q1M (q0n l)=0:=by
 unfold q0O at h
 split at h
 ·cases h
 split at h
 ·cases h
 split at h
 ·split at h
  ·exact⟨by omega,by omega,‹_›,‹_›,h⟩
  exact absurd h ‹_›
 exact absurd h ‹_›
theorem q2E {l:List Edge}(h:q0O l=0):∀e∈l,2≤e.line.length∧e.line.length≤40:=by
 intro e he
 obtain⟨i,hi,rfl⟩:=qAu he
 have:=q2x (q34 (q1e (q18 h).2.2.1 hi))
 exact⟨this.1,this.2.1⟩
def q9e (l:List Edge):D:=if q0O l=0 then .tup [q0k (q0n l),.int .i64 0]else .tup [.lst [],.int .i64 (q0O l)]
theorem q5U (l:List Edge):PU qj6 [edges l]=some (q9e l):=by
 refine q0g (fn:=q9X) rfl (q0a ?_)
 refine gg rfl (q02 rfl rfl (q6W l) (gg rfl (q01 rfl (fun h=>?_) (fun h=>?_))))
 ·rw[q0w]at h
  refine gg rfl (q09 rfl rfl rfl trivial ?_)
  rw[q9e,if_neg h]
 rw[q0B]at h
 have hb:=q2E h
 have:=q18 h
 have hv:=q17 this.2.2.2.2
 refine gg rfl (q02 rfl rfl (qmL l (fun e he=>⟨by have:=hb e he;omega,by have:=hb e he;omega⟩) (by omega) (by omega)) ?_)
 refine gg rfl (q09 rfl rfl rfl trivial ?_)
 rw[q9e,if_pos h,q0k]
end Go.F

namespace Go.F
structure Ntc where
 edge:Int
 at_:Int
 deriving DecidableEq
def Ntc.enc (n:Ntc):D:=.agg [.int .i64 n.edge,.int .i64 n.at_]
def q51 (l:List Ntc):D:=.lst (l.map Ntc.enc)
structure Piece where
 name:ByteArray
 edges:List Edge
 grain:Int
 notches:List Ntc
 corners:List Spot
 widths:List Int
 match_:Bool
def Piece.cs (p:Piece):List D:=[.str p.name,Go.F.edges p.edges,.int .i64 p.grain,q51 p.notches,q0k p.corners,ints p.widths,.bool p.match_]
def Piece.enc (p:Piece):D:=.agg [.str p.name,Go.F.edges p.edges,.int .i64 p.grain,q51 p.notches,q0k p.corners,ints p.widths,.bool p.match_]
def pieces (l:List Piece):D:=.lst (l.map Piece.enc)
structure Use where
 piece:Int
 count:Int
 pair:Bool
def Use.enc (u:Use):D:=.agg [.int .i64 u.piece,.int .i64 u.count,.bool u.pair]
def uses (l:List Use):D:=.lst (l.map Use.enc)
structure Sew where
 pa:Int
 ea:Int
 pb:Int
 eb:Int
 rev:Bool
 ease:Int
def Sew.enc (s:Sew):D:=.agg [.int .i64 s.pa,.int .i64 s.ea,.int .i64 s.pb,.int .i64 s.eb,.bool s.rev,.int .i64 s.ease]
def qdt (l:List Sew):D:=.lst (l.map Sew.enc)
structure Opn where
 name:ByteArray
 machine:Int
 minutes:Int
 after:List Int
 uses:List Int
def Opn.enc (o:Opn):D:=.agg [.str o.name,.int .i64 o.machine,.int .i64 o.minutes,ints o.after,ints o.uses]
def opns (l:List Opn):D:=.lst (l.map Opn.enc)
def strs (l:List ByteArray):D:=.lst (l.map .str)
structure Sty where
 name:ByteArray
 sizes:List ByteArray
 mults:List Int
 pieces:List Piece
 uses:List Use
 seams:List Sew
 ops:List Opn
def Sty.enc (s:Sty):D:=.agg [.str s.name,strs s.sizes,ints s.mults,Go.F.pieces s.pieces,Go.F.uses s.uses,qdt s.seams,opns s.ops]
def pc (l:List Piece)(i:Nat):Piece:=l.getD i ⟨⟨#[]⟩,[],0,[],[],[],false⟩
theorem q76 {l:List Piece}{i:Nat}(h:i<l.length):pc l i=l[i]:=by simp[pc,h]
theorem q4N {l:List Piece}{i:Nat}(h:i<l.length):(l.map Piece.enc)[i]?=some (pc l i).enc:=by simp[pc,h]
theorem q7Y {l:List Piece}{i:Nat}(h:i<l.length):pc l i∈l:=by rw[q76 h];exact List.getElem_mem _
def nt (l:List Ntc)(i:Nat):Ntc:=l.getD i ⟨0,0⟩
theorem qwv {l:List Ntc}{i:Nat}(h:i<l.length):nt l i=l[i]:=by simp[nt,h]
theorem qhE {l:List Ntc}{i:Nat}(h:i<l.length):(l.map Ntc.enc)[i]?=some (nt l i).enc:=by simp[nt,h]
def us (l:List Use)(i:Nat):Use:=l.getD i ⟨0,0,false⟩
theorem qff {l:List Use}{i:Nat}(h:i<l.length):us l i=l[i]:=by simp[us,h]
theorem qre {l:List Use}{i:Nat}(h:i<l.length):(l.map Use.enc)[i]?=some (us l i).enc:=by simp[us,h]
def sw (l:List Sew)(i:Nat):Sew:=l.getD i ⟨0,0,0,0,false,0⟩
theorem qkT {l:List Sew}{i:Nat}(h:i<l.length):(l.map Sew.enc)[i]?=some (sw l i).enc:=by simp[sw,h]
def sz (l:List ByteArray)(i:Nat):ByteArray:=l.getD i ⟨#[]⟩
def mu (l:List Int)(i:Nat):Int:=l.getD i 0
theorem qkU {l:List Int}{i:Nat}(h:i<l.length):mu l i=l[i]:=by simp[mu,h]
theorem q7Z {l:List Int}{i:Nat}(h:i<l.length):(l.map q00)[i]?=some (q00 (mu l i)):=by simp[mu,h]
end Go.F

namespace Go.F
section
variable {T:Tab}{sh:Shr}{nx0:Nat}{s:List Fr}{t:q0z}{h:q0e}{z:Frz}{nx:Nat}{q:Ex→q0z→q0e→Frz→Nat→Prop}
variable {base i:Nat}{res:List Nat}{dst:Nat}{g:Gd}{rest:List KOper}
theorem q2s {f:FuncId}{args:List X}{bs:List D}{rows:List (List D×Nat×Nat)}{r:D}(hs:T.shared f=false)
 (ha:qzx (g.h base h) (args.map (·.ev t))=some (rows,bs)) (hr:q4u rows) (hp:T.pu f bs=some r)
 (hk:∀z,wpM T sh nx0 (.ops base res rest::s) .normal (upd t dst r) h z nx q):
 wpM T sh nx0 (.ops base res (⟨i,some dst,none,g,.callF f args⟩::rest)::s) .normal t h z nx q:=by
 refine q3P ?_
 simp only[kop,q6r,hs]
 refine qcp ha hr ?_
 unfold qbv
 refine⟨r,hp,?_⟩
 simp only[q6L]
 split
 ·exact hk _
 split
 ·exact hk _
 exact hk _
theorem q7u {f:FuncId}{args:List X}{bs:List D}{rows:List (List D×Nat×Nat)}{r:D}(hs:T.shared f=false)
 (ha:qzx (g.h base h) (args.map (·.ev t))=some (rows,bs)) (hr:q4u rows) (hp:T.pu f bs=some r) (hn:noRef 4 r=true)
 (hk:wpM T sh nx0 (.ops base res rest::s) .normal (upd t dst r) h z nx q):
 wpM T sh nx0 (.ops base res (⟨i,some dst,none,g,.callF f args⟩::rest)::s) .normal t h z nx q:=by
 refine q3P ?_
 simp only[kop,q6r,hs]
 refine qcp ha hr ?_
 unfold qbv
 refine⟨r,hp,?_⟩
 simp only[q6L,hn]
 exact hk
theorem qJa {n:Nat}{sx x:X}{dst:Option Nat}{id off len:Nat}{es l:List D}{esz:Nat}(hs:sx.ev t=.ref id off len)(hr:g.h base h id=some (.row es esz))(he:Nat.beq n esz=true)(hx:x.ev t=.lst l)
 (hc:l.all (fun d=>d.cells.length==n)=true) (hb:off+len≤es.length) (hz:g.z base z id≤off)
 (hk:wpM T sh nx0 (.ops base res rest::s) .normal (put t dst (.int .i64 (min l.length len:Nat))) (upd h id (some (.row (es.take off++l.take (min l.length len)++es.drop (off+min l.length len)) esz))) z nx q):
 wpM T sh nx0 (.ops base res (⟨i,dst,none,g,.copy n sx x⟩::rest)::s) .normal t h z nx q:=by
 refine q3P ?_
 simp only[kop,qGM,hs,hr,he,hx,q5K]
 exact qjR hc (q1A ⟨hb,hz⟩ hk)
theorem q1d {e:EqK}{x y:X}{kk kk':IntKind}{a b:Int}(n k:Nat)(hx:x.ev t=.int kk a)(hy:y.ev t=.int kk' b)(ha:a=n)(hb:b=k)(hkb:k≤kk.bits)
 (hk:wpM T sh nx0 (.ops base res rest::s) .normal (upd t dst (.int kk ((n/2^k:Nat):Int))) h z nx q):
 wpM T sh nx0 (.ops base res (⟨i,some dst,none,g,.bin .shr e x y⟩::rest)::s) .normal t h z nx q:=by
 subst ha;subst hb
 refine atShr hx hy (by omega) ?_
 rw[Int.toNat_natCast,Nat.min_eq_left hkb]
 have e:((n:Int)).fdiv (2^k)=((n/2^k:Nat):Int):=by
  rw[show((2:Int)^k)=((2^k:Nat):Int)by simp]
  rw[Int.fdiv_eq_ediv_of_nonneg _ (Int.natCast_nonneg _)]
  rfl
 rw[e]
 exact hk
theorem q7a {e:EqK}{x y:X}{kk kk':IntKind}{a b:Int}(n k:Nat)(hx:x.ev t=.int kk a)(hy:y.ev t=.int kk' b)(ha:a=n)(hb:b=k)(hkb:k≤kk.bits)(hw:kk.wrap ((n*2^k:Nat):Int)=((n*2^k:Nat):Int))
 (hk:wpM T sh nx0 (.ops base res rest::s) .normal (upd t dst (.int kk ((n*2^k:Nat):Int))) h z nx q):
 wpM T sh nx0 (.ops base res (⟨i,some dst,none,g,.bin .shl e x y⟩::rest)::s) .normal t h z nx q:=by
 subst ha;subst hb
 refine atShl hx hy (by omega) ?_
 rw[Int.toNat_natCast,Nat.min_eq_left hkb]
 have e:((n:Int)) *2^k=((n*2^k:Nat):Int):=by simp
 rw[e,hw]
 exact hk
def setMN (nx0:Nat)(live:Live)(t:q0z)(h:q0e)(z:Frz)(nx:Nat):Option (List (List D)×q0e×Frz×Kept):=
 match qdi live t h z nx with
 |(t,h,z)=>
  match qnb t h live with
  |some rows=>fL1 (qaz nx0 (q0E t live) t live) fun vs=>fLi (qaA nx0 (q0E t live) h (q0E t live) nx0) fun bs=>fNs (qje nx0 (q0E t live) z (q0E t live) nx0) fun zs=>some (rows,h,z,vs,bs,zs)
  |none=>none
theorem q24 {live:Live}{rows:List (List D)}{h':q0e}{z':Frz}{kp:Kept}{K:q0e→Frz→Kept→Prop}(hs:setMN nx0 live t h z nx=some (rows,h',z',kp))(hp:qfR rows)(hk:K h' z' kp)(hnst:q5e live=false:=by rfl):q15 nx0 live t h z nx K:=by
 unfold setMN at hs
 split at hs
 rename_i t1 h1 z1 hn
 split at hs
 ·rename_i rows1 hr
  simp only[q5X,qri,qwz,Option.some.injEq,Prod.mk.injEq]at hs
  obtain⟨rfl,rfl,rfl,rfl⟩:=hs
  unfold q15
  simp only[hnst]
  unfold q7C
  refine qjP _ _ _ _ _ _ fun nx'=>?_
  rw[hn]
  refine qrj hr hp ?_
  rw[q77,q78]
  exact hk
 cases hs
theorem q2X {α:Type}(S:α→Kept)(O:α→q0e→Frz→Prop)(C:α→Prop)(m:α→Nat){live:Live}{c:K}
 (a:α) (hC:C a) (hm:m a<2^62) (h0:q15 nx0 live t h z nx fun h z kp=>kp=S a∧O a (q1h nx0 h) z)
 (hr:∀a,C a→∀(ho:q0e) (zo:Frz),O a ho zo→∀N:q0z→q0e→Frz→Nat→Prop,(∀a' {t:q0z} {h:q0e} {z:Frz} {nx:Nat},C a'→m a'<m a→(q15 nx0 live t h z nx fun h z kp=>kp=S a'∧O a' (q1h nx0 h) z)→N t h z nx)→
   wpM T sh nx0 [.code c] .normal (mkT live (S a).1) (mkF nx0 ho none (S a).2.1 nx0) (mkF nx0 zo 0 (S a).2.2 nx0) (nx0+live.length) fun ex t h z nx=>
    match ex with
    |.normal=>N t h z nx
    |.exit i=>wpM T sh nx0 s (.exit i) t h z nx q
    |.ret=>wpM T sh nx0 s .ret t h z nx q):
 wpM T sh nx0 (.code (.loop live c)::s) .normal t h z nx q:=by
 simp only[wpM,wp]at hr⊢
 unfold qyd
 have key:∀(n:Nat) (a:α),C a→m a≤n→∀(fuel:Nat),n<fuel→∀(t:q0z) (h:q0e) (z:Frz) (nx:Nat),(q15 nx0 live t h z nx fun h z kp=>kp=S a∧O a (q1h nx0 h) z)→
  q4t nx0 live (fun t h z nx q=>wp T sh nx0 c t h z nx q) fuel t h z nx fun ex t h z nx=>wpM T sh nx0 s ex t h z nx q:=by
  intro n
  induction n with
  |zero=>
   intro a hC hm fuel hf t h z nx hst
   obtain⟨fuel,rfl⟩:∃k,fuel=k+1:=⟨fuel-1,by omega⟩
   simp only[q4t]
   obtain⟨h1,z1,kp,g1,g2⟩:=qak hst
   refine g2 _ ?_
   obtain⟨rfl,g3⟩:=g1
   exact hr a hC _ _ g3 (fun t h z nx=>q4t nx0 live (fun t h z nx q=>wp T sh nx0 c t h z nx q) fuel t h z nx fun ex t h z nx=>wpM T sh nx0 s ex t h z nx q) (fun a' _ _ _ _ _ hlt _=>absurd hlt (by omega))
  |succ n ih=>
   intro a hC hm fuel hf t h z nx hst
   obtain⟨fuel,rfl⟩:∃k,fuel=k+1:=⟨fuel-1,by omega⟩
   simp only[q4t]
   obtain⟨h1,z1,kp,g1,g2⟩:=qak hst
   refine g2 _ ?_
   obtain⟨rfl,g3⟩:=g1
   exact hr a hC _ _ g3 (fun t h z nx=>q4t nx0 live (fun t h z nx q=>wp T sh nx0 c t h z nx q) fuel t h z nx fun ex t h z nx=>wpM T sh nx0 s ex t h z nx q)
    (fun a' t h z nx h1 hlt hst=>ih a' h1 (by omega) fuel (by omega) t h z nx hst)
 exact key (m a) a hC (Nat.le_refl _) q9c hm t h z nx h0
end
end Go.F

namespace Go.F
section
variable {T:Tab}{sh:Shr}{nx0:Nat}{s:List Fr}{t:q0z}{h:q0e}{z:Frz}{nx:Nat}{q:Ex→q0z→q0e→Frz→Nat→Prop}
abbrev Rep:=Option (List D×List Nat)
inductive Obl where
 |p (es:List D)
 |s (h:q0e) (es l:List D) (rs:List Nat)
def Obl.ok:Obl→Prop
 |.p es=>es.all (plain 4)=true
 |.s h es l rs=>es.all (plain 4)=false∧es.mapM (q1b h 8)=some l∧es.flatMap (q0T h depth)=rs∧l.all (plain 4)=true
def ql0:List Obl→Prop
 |[]=>True
 |o::r=>o.ok∧ql0 r
def qfi (t:q0z):Live→List Rep→q0e→Frz→Option (List Obl×q0e×Frz)
 |[],_,h,z=>some ([],h,z)
 |x::rest,reps,h,z=>
  match q2i (t x.1)with
  |none=>
   match plain 4 (t x.1)with
   |true=>qfi t rest reps h z
   |false=>none
  |some id=>
   match h id with
   |some (.row es esz)=>
    match reps with
    |[]=>none
    |none::reps=>
     match qfi t rest reps h z with
     |some (o,h',z')=>some (.p es::o,h',z')
     |none=>none
    |some (l,rs)::reps=>
     match qfi t rest reps (upd h id (some (.row l esz))) (q99 h z rs)with
     |some (o,h',z')=>some (.s h es l rs::o,h',z')
     |none=>none
   |some (.mp _ _)=>none
   |none=>qfi t rest reps h z
theorem qHQ {t:q0z}:∀{live:Live} {reps:List Rep} {h:q0e} {z:Frz} {o:List Obl} {h':q0e} {z':Frz} {k:q0e→Frz→Prop},qfi t live reps h z=some (o,h',z')→ql0 o→k h' z'→q3m live t h z k:=by
 intro live
 induction live with
 |nil=>intro reps h z o h' z' k hr _ hk;simp only[qfi,Option.some.injEq,Prod.mk.injEq]at hr;obtain⟨_,rfl,rfl⟩:=hr;exact hk
 |cons x live ih=>
  intro reps h z o h' z' k hr ho hk
  simp only[qfi]at hr
  simp only[q3m]
  cases hid:q2i (t x.1)with
  |none=>
   rw[hid]at hr
   simp only at hr⊢
   cases hb:plain 4 (t x.1)with
   |true=>rw[hb]at hr;exact ih hr ho hk
   |false=>rw[hb]at hr;cases hr
  |some id=>
   rw[hid]at hr
   simp only at hr⊢
   cases hb:h id with
   |none=>rw[hb]at hr;exact ih hr ho hk
   |some b=>
    rw[hb]at hr
    cases b with
    |mp ks vs=>cases hr
    |row es esz=>
     simp only at hr⊢
     match reps,hr with
     |none::reps,hr=>
      simp only at hr
      cases hx:qfi t live reps h z with
      |none=>rw[hx]at hr;cases hr
      |some y=>
       obtain⟨o1,h1,z1⟩:=y
       rw[hx]at hr
       simp only[Option.some.injEq,Prod.mk.injEq]at hr
       obtain⟨rfl,rfl,rfl⟩:=hr
       unfold qc9
       exact .inl ⟨ho.1,ih hx ho.2 hk⟩
     |some (l,rs)::reps,hr=>
      simp only at hr
      cases hx:qfi t live reps (upd h id (some (.row l esz))) (q99 h z rs)with
      |none=>rw[hx]at hr;cases hr
      |some y=>
       obtain⟨o1,h1,z1⟩:=y
       rw[hx]at hr
       simp only[Option.some.injEq,Prod.mk.injEq]at hr
       obtain⟨rfl,rfl,rfl⟩:=hr
       obtain⟨g1,g2,g3,g4⟩:=ho.1
       unfold qc9
       exact .inr ⟨l,rs,g1,g2,g3,g4,ih hx ho.2 hk⟩
def setX (live:Live)(reps:List Rep)(t:q0z)(h:q0e)(z:Frz)(nx:Nat):Option (List Obl×Kept):=
 match qdi live t h z nx with
 |(t,h,z)=>
  match qfi t live reps h z with
  |some (o,h',z')=>fL1 (qaz 0 (q0E t live) t live) fun vs=>fLi (qaA 0 (q0E t live) h' (q0E t live) 0) fun bs=>fNs (qje 0 (q0E t live) z' (q0E t live) 0) fun zs=>some (o,vs,bs,zs)
  |none=>none
theorem qjT {live:Live}(reps:List Rep){o:List Obl}{kp:Kept}{K:Kept→Prop}(hs:setX live reps t h z nx=some (o,kp))(hp:ql0 o)(hk:K kp)(hnst:q5e live=false:=by rfl):q15 0 live t h z nx fun _ _ kp=>K kp:=by
 unfold setX at hs
 split at hs
 rename_i t1 h1 z1 hn
 split at hs
 ·rename_i o1 h2 z2 hr
  simp only[q5X,qri,qwz,Option.some.injEq,Prod.mk.injEq]at hs
  obtain⟨rfl,rfl⟩:=hs
  unfold q15
  simp only[hnst]
  unfold q7C
  refine qjP _ _ _ _ _ _ fun nx'=>?_
  rw[hn]
  refine qHQ hr hp ?_
  rw[q77,q78]
  exact hk
 cases hs
end
theorem quk {h:q0e}:∀(n m:Nat) (d:D),dat n d=true→q0T h m d=[]:=by
 intro n
 induction n with
 |zero=>intro m d hd;simp[dat]at hd
 |succ n ih=>
  intro m d hd
  cases m with
  |zero=>rfl
  |succ m=>
   have list:∀l:List D,l.all (dat n)=true→l.flatMap (q0T h m)=[]:=by
    intro l hl
    rw[List.flatMap_eq_nil_iff]
    intro x hx
    exact ih m x (List.all_eq_true.1 hl x hx)
   cases d with
   |agg l=>simp only[dat]at hd;simp only[q0T];exact list l hd
   |tup l=>simp only[dat]at hd;simp only[q0T];exact list l hd
   |_=>first|(simp[dat]at hd;done) |rfl
theorem q7N {h:q0e}{es:List D}{m:Nat}(hd:es.all (dat 4)=true):es.flatMap (q0T h m)=[]:=by
 rw[List.flatMap_eq_nil_iff]
 intro x hx
 exact quk 4 m x (List.all_eq_true.1 hd x hx)
theorem qrl {h:q0e}{es:List D}{e e':D}{rs:List Nat}(hd:es.all (dat 4)=true)(hp:es.all (plain 4)=true)(he:plain 4 e=false)(hs:q1b h 8 e=some e')(hr:q0T h depth e=rs)(hp':plain 4 e'=true):
 Obl.ok (.s h (es++[e]) (es++[e']) rs):=by
 refine⟨?_,?_,?_,?_⟩
 ·rw[List.all_append];simp[he]
 ·rw[List.mapM_append,qbK hd];simp[hs]
 ·rw[List.flatMap_append,q7N hd];simp[hr]
 rw[List.all_append,hp];simp[hp']
end Go.F

namespace Go.F
attribute [local irreducible] IntKind.wrap wpM
theorem q7L (p q:List Spot)(hp:p.length<4611686018427387904):PU qAy [q0k p,q0k q]=some (.bool (decide (p=q))):=by
 refine q0g (fn:=qoP) rfl (q0a ?_)
 refine gg rfl (q01 rfl (fun h1=>?_) (fun h1=>?_))
 ·refine gg rfl (q09 rfl rfl rfl trivial ?_)
  rw[q0w,List.length_map,List.length_map]at h1
  have:p≠q:=by rintro rfl;exact h1 rfl
  simp[this]
 rw[q0B,List.length_map,List.length_map]at h1
 refine gg rfl (q0l (S:=fun k:Nat=>([q0k p,q0k q,q00 k],[none,none,none],[0,0,0])) (C:=fun k=>k≤p.length∧∀i,i<k→pt p i=pt q i) (m:=fun k=>p.length-k) 0 ⟨by omega,fun i hi=>by omega⟩ (by omega) ?_ ?_)
 ·exact q03 rfl trivial (by simp[q0k,q00])
 intro k ⟨hk,hall⟩ N hN
 refine gg rfl (q01 rfl (fun g1=>?_) (fun g1=>?_))
 ·rw[q06,List.length_map]at g1
  have hlt:k<p.length:=by omega
  have w1:=wS (n:=k)
  refine gg rfl (q0j k rfl rfl rfl (q0U hlt) rfl (gg rfl (q0j k rfl rfl rfl (q0U (by omega)) rfl ?_)))
  refine gg rfl (q01 rfl (fun g2=>?_) (fun g2=>?_))
  ·refine gg rfl (q04 (gg rfl (q09 rfl rfl rfl trivial ?_)))
   rw[q1T]at g2
   have:p≠q:=by rintro rfl;simp at g2
   simp[this]
  refine gg rfl (q04 ?_)
  rw[q1T]at g2
  refine hN (k+1) ⟨by omega,fun i hi=>?_⟩ (by omega) (q03 rfl trivial (by simp[q0k,q00,w1]))
  by_cases hik:i<k
  ·exact hall i hik
  obtain rfl:i=k:=by omega
  simpa using g2
 rw[q07,List.length_map]at g1
 refine gg rfl (q04 (gg rfl (q09 rfl rfl rfl trivial ?_)))
 have:p=q:=by
  refine List.ext_getElem (by omega) fun i hi1 hi2=>?_
  rw[←q0H hi1,←q0H hi2];exact hall i (by omega)
 simp[this]
end Go.F

namespace Go.F
def q2k (p:List Spot):Prop:=
 ∀i,i<p.length→(pt p i≠pt p ((i+1)%p.length)∧onS (pt p i) (pt p ((i+1)%p.length)) (pt p ((i+2)%p.length))=false∧onS (pt p ((i+1)%p.length)) (pt p ((i+2)%p.length)) (pt p i)=false)∧
  ∀k,k<p.length→i+2≤k→(k+1)%p.length≠i→q2Y (pt p i) (pt p ((i+1)%p.length)) (pt p k) (pt p ((k+1)%p.length))=false
instance (p:List Spot):Decidable (q2k p):=by unfold q2k;exact inferInstance
theorem q73 (t:Int):0≤t*t:=by
 rcases Int.le_total 0 t with h|h
 ·exact Int.mul_nonneg h h
 exact Int.mul_nonneg_of_nonpos_of_nonpos h h
theorem qEI {ux uy vx vy:Int}(hc:ux*vy=uy*vx)(hd:0<ux*vx+uy*vy):0≤ux*vx∧0≤uy*vy:=by
 have e:(ux*vx) *(uy*vy)=(ux*vy) *(ux*vy):=by
  calc (ux*vx) *(uy*vy)=(ux*vy) *(uy*vx):=by ac_rfl
   _=_:=by rw[←hc]
 have hn:=q73 (ux*vy)
 rw[←e]at hn
 constructor
 ·refine Int.not_lt.1 fun h=>?_
  have:=Int.mul_neg_of_neg_of_pos h (show 0<uy*vy by omega)
  omega
 refine Int.not_lt.1 fun h=>?_
 have:=Int.mul_neg_of_pos_of_neg (show 0<ux*vx by omega) h
 omega
theorem qbE {u v:Int}(hs:0≤u*v)(hl:v.natAbs≤u.natAbs):min u 0≤v∧v≤max u 0:=by
 rcases Int.lt_trichotomy v 0 with h|h|h
 ·have:u≤0:=by
   refine Int.not_lt.1 fun h2=>?_
   have:=Int.mul_neg_of_pos_of_neg h2 h
   omega
  omega
 ·omega
 have:0≤u:=by
  refine Int.not_lt.1 fun h2=>?_
  have:=Int.mul_neg_of_neg_of_pos h2 h
  omega
 omega
theorem qHo (a b c:Spot):q0v a b c=(a.y-b.y) *(c.x-b.x)-(a.x-b.x) *(c.y-b.y):=by
 unfold q0v;grind
theorem q8p (a b c:Spot):q0v b c a=q0v a b c:=by unfold q0v;grind
theorem q7q {a b p:Spot}:onS a b p=true↔q0v a b p=0∧min a.x b.x≤p.x∧p.x≤max a.x b.x∧min a.y b.y≤p.y∧p.y≤max a.y b.y:=by simp[onS]
theorem qaf {a b c:Spot}:q3X a b c=true↔q0v a b c=0∧0<(a.x-b.x) *(c.x-b.x)+(a.y-b.y) *(c.y-b.y):=by simp[q3X]
theorem qEJ {a b c:Spot}(h:q3X a b c=true):onS a b c=true∨onS b c a=true:=by
 rw[qaf]at h
 obtain⟨h1,h2⟩:=h
 have hc:(a.x-b.x) *(c.y-b.y)=(a.y-b.y) *(c.x-b.x):=by rw[qHo]at h1;omega
 obtain⟨s1,s2⟩:=qEI hc h2
 have hn:(a.x-b.x).natAbs*(c.y-b.y).natAbs=(a.y-b.y).natAbs*(c.x-b.x).natAbs:=by rw[←Int.natAbs_mul,←Int.natAbs_mul,hc]
 rw[q7q,q7q,q8p a b c]
 by_cases hx:(c.x-b.x).natAbs≤(a.x-b.x).natAbs
 ·by_cases hy:(c.y-b.y).natAbs≤(a.y-b.y).natAbs
  ·left
   have:=qbE s1 hx
   have:=qbE s2 hy
   refine⟨h1,?_⟩
   omega
  by_cases hx':(a.x-b.x).natAbs≤(c.x-b.x).natAbs
  ·right
   rw[Int.mul_comm]at s1 s2
   have:=qbE s1 hx'
   have:=qbE s2 (show(a.y-b.y).natAbs≤(c.y-b.y).natAbs by omega)
   refine⟨h1,?_⟩
   omega
  have:=Nat.mul_lt_mul'' (Nat.lt_of_not_le hx') (Nat.lt_of_not_le hy)
  rw[Nat.mul_comm (c.x-b.x).natAbs]at this
  omega
 by_cases hy:(a.y-b.y).natAbs≤(c.y-b.y).natAbs
 ·right
  rw[Int.mul_comm]at s1 s2
  have:=qbE s1 (show(a.x-b.x).natAbs≤(c.x-b.x).natAbs by omega)
  have:=qbE s2 hy
  refine⟨h1,?_⟩
  omega
 have:=Nat.mul_lt_mul'' (Nat.lt_of_not_le hx) (Nat.lt_of_not_le hy)
 rw[Nat.mul_comm (c.x-b.x).natAbs]at this
 omega
theorem qyL {u v:Int}(h:min u 0≤v∧v≤max u 0):0≤u*v:=by
 rcases Int.le_total 0 u with h2|h2
 ·exact Int.mul_nonneg h2 (by omega)
 exact Int.mul_nonneg_of_nonpos_of_nonpos h2 (by omega)
theorem qu3 {u v:Int}(h:min u 0≤v∧v≤max u 0)(hv:v≠0):0<u*v:=by
 rcases Int.lt_trichotomy v 0 with h2|h2|h2
 ·exact Int.mul_pos_of_neg_of_neg (by omega) h2
 ·exact absurd h2 hv
 exact Int.mul_pos (by omega) h2
theorem qIN {a b:Spot}(h:a≠b):a.x-b.x≠0∨a.y-b.y≠0:=by
 by_cases hx:a.x=b.x
 ·by_cases hy:a.y=b.y
  ·exact absurd (by cases a;cases b;simp_all) h
  right;omega
 left;omega
theorem qu4 {a b c:Spot}(hcb:c≠b)(h:onS a b c=true):q3X a b c=true:=by
 rw[q7q]at h
 rw[qaf]
 refine⟨h.1,?_⟩
 have bx:min (a.x-b.x) 0≤c.x-b.x∧c.x-b.x≤max (a.x-b.x) 0:=by omega
 have bY:min (a.y-b.y) 0≤c.y-b.y∧c.y-b.y≤max (a.y-b.y) 0:=by omega
 have p1:=qyL bx
 have p2:=qyL bY
 rcases qIN hcb with h2|h2
 ·have:=qu3 bx h2;omega
 have:=qu3 bY h2;omega
theorem qBm (a b c:Spot):q3X a b c=q3X c b a:=by
 rw[Bool.eq_iff_iff,qaf,qaf]
 have:q0v c b a= -q0v a b c:=by unfold q0v;grind
 rw[this,Int.mul_comm (c.x-b.x),Int.mul_comm (c.y-b.y)]
 omega
theorem qqR (a b c:Spot):onS a b c=onS b a c:=by
 rw[Bool.eq_iff_iff,q7q,q7q]
 have:q0v b a c= -q0v a b c:=by unfold q0v;grind
 rw[this]
 omega
theorem on_end (a b:Spot):onS a b a=true:=by
 rw[q7q]
 refine⟨by unfold q0v;grind,?_⟩
 omega
theorem qjt {p:List Spot}{i:Nat}(hi:i<p.length):pt p i∈p.take i↔∃j,j<i∧pt p j=pt p i:=by
 rw[List.mem_take_iff_getElem]
 constructor
 ·rintro⟨j,hj,e⟩
  exact⟨j,by omega,by rw[q0H (by omega)];exact e⟩
 rintro⟨j,hj,e⟩
 exact⟨j,by omega,by rw[←e,q0H (by omega)]⟩
theorem mod1 {n i:Nat}(hi:i<n):(i+1)%n=if i+1=n then 0 else i+1:=by
 split
 ·rename_i h;rw[h];simp
 exact Nat.mod_eq_of_lt (by omega)
theorem mod2 {n i:Nat}(h3:3≤n)(hi:i<n):(i+2)%n=if i+2<n then i+2 else i+2-n:=by
 split
 ·rename_i h;exact Nat.mod_eq_of_lt h
 rw[Nat.mod_eq_sub_mod (by omega),Nat.mod_eq_of_lt (by omega)]
theorem q74 {p:List Spot}(h3:3≤p.length):q3Y p↔q2k p:=by
 constructor
 ·rintro⟨hd,hs⟩ i hi
  have inj:∀{j k},j<p.length→k<p.length→j≠k→pt p j≠pt p k:=by
   intro j k hj hk hne e
   rcases Nat.lt_or_gt_of_ne hne with h|h
   ·exact hd k hk ((qjt hk).2 ⟨j,h,e⟩)
   exact hd j hj ((qjt hj).2 ⟨k,h,e.symm⟩)
  have m1:=mod1 hi
  have m2:=mod2 h3 hi
  have l1:(i+1)%p.length<p.length:=Nat.mod_lt _ (by omega)
  have l2:(i+2)%p.length<p.length:=Nat.mod_lt _ (by omega)
  have n01:pt p i≠pt p ((i+1)%p.length):=inj hi l1 (by rw[m1];split<;>omega)
  have n12:pt p ((i+2)%p.length)≠pt p ((i+1)%p.length):=inj l2 l1 (by rw[m1,m2];split<;>split<;>omega)
  obtain⟨hf,hm⟩:=hs i hi
  refine⟨⟨n01,?_,?_⟩,hm⟩
  ·cases ho:onS (pt p i) (pt p ((i+1)%p.length)) (pt p ((i+2)%p.length))
   ·rfl
   rw[qu4 n12 ho]at hf;cases hf
  cases ho:onS (pt p ((i+1)%p.length)) (pt p ((i+2)%p.length)) (pt p i)
  ·rfl
  rw[qqR]at ho
  rw[qBm,qu4 n01 ho]at hf;cases hf
 intro hr
 refine⟨fun i hi hm=>?_,fun i hi=>⟨?_,(hr i hi).2⟩⟩
 ·obtain⟨j,hj,e⟩:=(qjt hi).1 hm
  have hjl:j<p.length:=by omega
  have m1:=mod1 hjl
  have m1':=mod1 hi
  by_cases h1:j+1=i
  ·have:=(hr j hjl).1.1
   rw[m1,if_neg (by omega),h1]at this
   exact this e
  by_cases h2:(i+1)%p.length=j
  ·have:=(hr i hi).1.1
   rw[h2]at this
   exact this e.symm
  have:=(hr j hjl).2 i hi (by omega) h2
  have ho:=on_end (pt p j) (pt p ((j+1)%p.length))
  rw[←e]at this
  simp[q2Y,ho]at this
 cases hf:q3X (pt p i) (pt p ((i+1)%p.length)) (pt p ((i+2)%p.length))
 ·rfl
 have:=(hr i hi).1
 rcases qEJ hf with h|h
 ·rw[h]at this;cases this.2.1
 rw[h]at this;cases this.2.2
end Go.F

namespace Go.F
attribute [local irreducible] IntKind.wrap wpM
end Go.F

namespace Go.F
attribute [local irreducible] IntKind.wrap wpM
theorem q3U {l:List Edge}{k:Nat}(h:k<l.length):q0n (l.take (k+1))=q0n (l.take k)++(eg l k).line.dropLast:=by
 rw[qc5 h,q3M h]
end Go.F

namespace Go.F
attribute [local irreducible] IntKind.wrap wpM
theorem q4y (p:List Spot):PU qbr [q0k p]=some (.int .i64 (sgn (q12 p))):=by
 refine q0g (fn:=q62) rfl (q0a ?_)
 repeat' (first
  |refine goP 800 rfl rfl ?_
  |refine q0h rfl ?_|refine q0m rfl ?_|refine q08 rfl (fun _=>?_) (fun _=>?_)
  |refine q0d rfl ?_|refine q0i rfl ?_|refine q01 rfl (fun _=>?_) (fun _=>?_)
  |refine q0Q rfl (fun _=>?_) (fun _=>?_)
  |refine q09 rfl rfl rfl trivial ?_
  |refine q02 rfl rfl (qxz p) ?_
  |refine q02 rfl rfl (qhi _ _) ?_)
 rfl
def q1B (a b:Int):Int:=if a<0 then-((2*(-a)+b)/(2*b))else(2*a+b)/(2*b)
theorem qld (a b:Int)(h0:0≤a)(ha:a≤1099511627776)(hb:0<b)(hb':b≤1099511627776):PU q84 [.int .i64 a,.int .i64 b]=some (.int .i64 (q1B a b)):=by
 refine q0g (fn:=q5d) rfl (q0a ?_)
 refine gg rfl ?_
 have w1:=ww (x:=2*a)
 have w2:=ww (x:=2*a+b)
 have w3:=ww (x:=2*b)
 refine q01 rfl (fun h=>?_) (fun h=>?_)
 ·rw[q06]at h;omega
 refine gg rfl (qfg rfl rfl (by rw[w3];omega) ?_)
 refine gg rfl (q09 rfl rfl rfl trivial ?_)
 have hd:(2*a+b).tdiv (2*b)=(2*a+b)/(2*b):=Int.tdiv_eq_ediv_of_nonneg (by omega)
 have hq:(2*a+b)/(2*b)≤2*a+b:=Int.ediv_le_self _ (by omega)
 have hq0:0≤(2*a+b)/(2*b):=Int.ediv_nonneg (by omega) (by omega)
 rw[w1,w2,w3,hd,wrap64 (by omega) (by omega),q1B,if_neg (by omega)]
theorem qod (a b:Int)(ha0: -1099511627776≤a)(ha:a≤1099511627776)(hb:0<b)(hb':b≤1099511627776):PU q84 [.int .i64 a,.int .i64 b]=some (.int .i64 (q1B a b)):=by
 by_cases h0:0≤a
 ·exact qld a b h0 ha hb hb'
 refine q0g (fn:=q5d) rfl (q0a ?_)
 refine gg rfl (q01 rfl (fun h=>?_) (fun h=>?_))
 ·refine gg rfl ?_
  have w1:IntKind.i64.wrap (0-a)= -a:=by rw[wrap64 (by omega) (by omega)];omega
  rw[w1]
  refine q02 rfl rfl (qld (-a) b (by omega) (by omega) hb hb') ?_
  refine gg rfl (q09 rfl rfl rfl trivial ?_)
  have hq:(2*(-a)+b)/(2*b)≤2*(-a)+b:=Int.ediv_le_self _ (by omega)
  have hq0:0≤(2*(-a)+b)/(2*b):=Int.ediv_nonneg (by omega) (by omega)
  rw[q1B,if_neg (by omega),q1B,if_pos (by omega),wrap64 (by omega) (by omega)]
  simp
 rw[q07]at h;omega
end Go.F

namespace Go.F
attribute [local irreducible] IntKind.wrap wpM
def wd (ws:List Int)(i:Nat):Int:=ws.getD i 0
theorem qdw {ws:List Int}{i:Nat}(h:i<ws.length):(ws.map q00)[i]?=some (q00 (wd ws i)):=by simp[wd,h]
def q27 (l:List Edge)(ws:List Int):Nat→List Int
 |0=>[]
 |k+1=>q27 l ws k++List.replicate ((eg l k).line.length-1) (wd ws k)
theorem qdx (l:List Edge)(ws:List Int):∀k,k≤l.length→(q27 l ws k).length=(q0n (l.take k)).length:=by
 intro k
 induction k with
 |zero=>intro _;simp[q27,q0n]
 |succ k ih=>
  intro hk
  rw[q27,q3U (by omega),List.length_append,List.length_append,ih (by omega)]
  simp
set_option maxHeartbeats 1000000 in
theorem qaG (l:List Edge)(ws:List Int)(hw:l.length≤ws.length)(h1:∀e∈l,1≤e.line.length∧e.line.length≤100000)(hl:l.length≤100000)(hv:(q0n l).length≤100000):PU q9A [edges l,ints ws]=some (ints (q27 l ws l.length)):=by
 have hlen:∀k,k≤l.length→(q27 l ws k).length≤100000:=by
  intro k hk
  rw[qdx l ws k hk]
  have:=qeH (l:=l) k
  omega
 refine q0g (fn:=q54) rfl (q0a ?_)
 refine gg rfl (q0l (S:=fun k:Nat=>([ints ws,.ref 1 0 (q27 l ws k).length,edges l,q00 l.length,q00 k],[none,some (.row ((q27 l ws k).map q00) 1),none,none,none],[0,0,0,0,0])) (C:=fun k=>k≤l.length) (m:=fun k=>l.length-k) 0 (by omega) (by omega) ?_ ?_)
 ·exact q03 rfl ⟨rfl,trivial⟩ (by simp[edges,ints,q00,q27])
 intro k hk N hN
 refine gg rfl (q01 rfl (fun g1=>?_) (fun g1=>?_))
 ·rw[q06]at g1
  have hlt:k<l.length:=by omega
  have w1:=wS (n:=k)
  have hln:1≤(eg l k).line.length∧(eg l k).line.length≤100000:=by rw[q3M hlt];exact h1 _ (List.getElem_mem hlt)
  have w2:IntKind.i64.wrap (((eg l k).line.length:Int)-1)=(((eg l k).line.length-1:Nat):Int):=by rw[wrap64 (by omega) (by omega)];omega
  have hk1:=hlen (k+1) (by omega)
  rw[q27,List.length_append,List.length_replicate]at hk1
  refine gg rfl (q0j k rfl rfl rfl (q1D hlt) rfl (gg rfl ?_))
  refine q0l (S:=fun j:Nat=>([ints ws,.ref 1 0 ((q27 l ws k).length+j),q00 k,edges l,q00 l.length,q00 k,q00 ((eg l k).line.length-1:Nat),q00 j],
   [none,some (.row ((q27 l ws k++List.replicate j (wd ws k)).map q00) 1),none,none,none,none,none,none],[0,0,0,0,0,0,0,0]))
   (C:=fun j=>j≤(eg l k).line.length-1) (m:=fun j=>(eg l k).line.length-j) 0 (by omega) (by omega) ?_ ?_
  ·exact q03 rfl ⟨q05 q4Q _,trivial⟩ (by simp[edges,ints,q00,w2])
  intro j hj N2 hN2
  refine gg rfl (q01 rfl (fun e1=>?_) (fun e1=>?_))
  ·rw[q06]at e1
   have hjl:j<(eg l k).line.length-1:=by omega
   have wj:=wS (n:=j)
   refine gg rfl (q0j k rfl rfl rfl (qdw (by omega)) rfl ?_)
   refine gg rfl (q1g rfl rfl rfl rfl rfl rfl (by simp) (Nat.zero_le _) (by simp[q0N]at*;omega) ?_)
   refine gg rfl (q04 (hN2 (j+1) (by omega) (by omega) (q03 rfl ⟨?_,trivial⟩ ?_)))
   ·rw[List.all_append,q05 q4Q];rfl
   simp[edges,ints,q00,wj,List.replicate_succ']
   omega
  rw[q07]at e1
  clear hN2
  obtain rfl:j=(eg l k).line.length-1:=by omega
  refine gg rfl (q04 (gg rfl (q04 (hN (k+1) (by omega) (by omega) (q03 rfl ⟨q05 q4Q _,trivial⟩ ?_)))))
  simp[edges,ints,q00,w1,q27]
 rw[q07]at g1
 obtain rfl:k=l.length:=by omega
 refine gg rfl (q04 (gg rfl (q09 rfl rfl rfl ⟨q1n (by simp) (q0L q7e _),trivial⟩ ?_)))
 rw[q1o (by simp),ints]
end Go.F

namespace Go.F
open Ieee
theorem quU (a b:Nat):a<<<b=a*2^b:=Nat.shiftLeft_eq a b
theorem dbl:FloatKind.f64.format=Ieee.double:=rfl
theorem quV {n k:Nat}(h:n<2^(k+1)):n.log2≤k:=by
 by_cases h0:n=0
 ·subst h0;simp
 have:=(Nat.log2_lt h0).2 h
 omega
theorem cut_le {neg:Bool}{n drop k:Nat}(h:n<2^k*2^drop):Toward.even.cut neg n drop≤2^k:=by
 unfold Toward.cut
 simp only
 have hg:∀g:Nat,0<g→n<2^k*g→n/g+1≤2^k:=by
  intro g hg hn
  have:=(Nat.div_lt_iff_lt_mul hg).2 hn
  omega
 by_cases hd:drop≤n.log2+2
 ·rw[Nat.min_eq_left hd,Nat.one_shiftLeft]
  have:=hg _ (Nat.two_pow_pos drop) h
  have hb:=Bool.toNat_le (decide (2^drop<2*(n%2^drop)) ||(2^drop==2*(n%2^drop)&&n/2^drop%2==1))
  omega
 rw[Nat.min_eq_right (by omega),Nat.one_shiftLeft]
 have hn:n<2^(n.log2+2):=Nat.lt_of_lt_of_le Nat.lt_log2_self (Nat.pow_le_pow_right (by omega) (by omega))
 have h0:n/2^(n.log2+2)=0:=Nat.div_eq_of_lt hn
 have:=Nat.two_pow_pos k
 have hb:=Bool.toNat_le (decide (2^(n.log2+2)<2*(n%2^(n.log2+2))) ||(2^(n.log2+2)==2*(n%2^(n.log2+2))&&n/2^(n.log2+2)%2==1))
 rw[h0]at hb⊢
 omega
theorem qpC {mag:Nat}{place e:Int}(h:place+mag.log2≤e)(he: -1000≤e):(double.nearest false mag place:Int)≤(e+1024) *4503599627370496:=by
 unfold Format.nearest
 by_cases h0:mag=0
 ·rw[if_pos h0]
  simp only[Format.word]
  simp
  omega
 rw[if_neg h0]
 simp only[Format.word]
 have hb:double.binade=4503599627370496:=rfl
 have hl:double.leastPlace= -1074:=rfl
 have hf:(double.fractionBits:Int)=52:=rfl
 rw[hb,hl,hf]
 generalize hlast:max (place+(mag.log2:Int)-52) (-1074)=last
 have hm:mag<2^(mag.log2+1):=Nat.lt_log2_self
 have hk:Toward.even.cut false (mag<<<(place-last).toNat) (last-place).toNat≤2^53:=by
  refine cut_le ?_
  rw[quU]
  rcases Int.le_total last place with hc|hc
  ·have e1:(last-place).toNat=0:=by omega
   rw[e1,Nat.pow_zero,Nat.mul_one]
   have e2:(place-last).toNat+(mag.log2+1)≤53:=by omega
   calc mag*2^(place-last).toNat<2^(mag.log2+1) *2^(place-last).toNat:=Nat.mul_lt_mul_of_pos_right hm (Nat.two_pow_pos _)
    _=2^((place-last).toNat+(mag.log2+1)):=by rw[←Nat.pow_add,Nat.add_comm]
    _≤2^53:=Nat.pow_le_pow_right (by omega) e2
  have e1:(place-last).toNat=0:=by omega
  rw[e1,Nat.pow_zero,Nat.mul_one,←Nat.pow_add]
  exact Nat.lt_of_lt_of_le hm (Nat.pow_le_pow_right (by omega) (by omega))
 generalize Toward.even.cut false (mag<<<(place-last).toNat) (last-place).toNat=kept at hk⊢
 generalize double.infRung=inf
 have h2:(last- -1074).toNat≤(e+1022).toNat:=by omega
 generalize (last- -1074).toNat=q at h2⊢
 clear hlast hm h0 h
 simp only[Bool.false_eq_true,if_false]
 have hk':kept≤9007199254740992:=hk
 have h4:min (q*4503599627370496+kept) inf≤q*4503599627370496+kept:=Nat.min_le_left _ _
 generalize min (q*4503599627370496+kept) inf=z at h4⊢
 have h5:(q:Int)≤e+1022:=by omega
 clear hk
 omega
theorem qCq {w:Nat}{E:Nat}(hE1:1≤E)(hE:E≤2000)(h:w≤E*4503599627370496):∃m i,double.read w=.number false m i∧m<9007199254740992∧i≤ -1075+E:=by
 unfold Format.read
 have hb:double.binade=4503599627370496:=rfl
 have hl:double.leastPlace= -1074:=rfl
 have hs:double.signWeight=9223372036854775808:=rfl
 have hi:double.infRung=9218868437227405312:=rfl
 simp only[hb,hl,hs,hi]
 have h1:w/9223372036854775808=0:=by omega
 have h2:w%9223372036854775808=w:=by omega
 rw[h1,h2]
 by_cases hc:w<4503599627370496
 ·rw[if_pos hc]
  exact⟨w,-1074,rfl,by omega,by omega⟩
 rw[if_neg hc,if_pos (by omega)]
 refine⟨_,_,rfl,by omega,?_⟩
 have:w/4503599627370496≤E:=by omega
 omega
theorem qxv (n:Nat):∀(todo root:Nat),Datum.rootFrom n todo root<root+2^todo:=by
 intro todo
 induction todo with
 |zero=>intro root;simp[Datum.rootFrom]
 |succ k ih=>
  intro root
  rw[Datum.rootFrom]
  rw[Nat.one_shiftLeft]
  have hp:2^(k+1)=2^k+2^k:=by rw[Nat.pow_succ];omega
  split
  ·have:=ih (root+2^k);omega
  have:=ih root;have:=Nat.two_pow_pos k;omega
theorem qGl {m:Nat}{i:Int}(hm:m<9007199254740992)(hi:i≤ -25):∃r:Int,Datum.toInt .zero (.number false m i)=some r∧0≤r∧r≤268435456:=by
 unfold Datum.toInt Datum.integral
 refine⟨_,rfl,?_⟩
 simp only[signed,Bool.false_eq_true,if_false]
 have e1:i.toNat=0:=by omega
 rw[e1,quU,quU]
 simp only[Nat.pow_zero,Nat.mul_one]
 have:Toward.zero.cut false m (-i).toNat≤268435456:=by
  unfold Toward.cut
  simp only[Bool.toNat_false,Nat.add_zero,Nat.one_shiftLeft]
  by_cases hd:(-i).toNat≤m.log2+2
  ·rw[Nat.min_eq_left hd]
   have h2:2^25≤2^(-i).toNat:=Nat.pow_le_pow_right (by omega) (by omega)
   have h3:m/2^(-i).toNat≤m/2^25:=Nat.div_le_div_left h2 (by decide)
   have h4:(2:Nat)^25=33554432:=by decide
   rw[h4]at h3
   omega
  rw[Nat.min_eq_right (by omega)]
  have hn:m<2^(m.log2+2):=Nat.lt_of_lt_of_le Nat.lt_log2_self (Nat.pow_le_pow_right (by omega) (by omega))
  rw[Nat.div_eq_of_lt hn]
  omega
 constructor
 ·omega
 omega
theorem qDH (n:Nat)(hn:n<2^51):∃(y:Nat) (r:Int),FloatKind.f64.format.sqrt (FloatKind.f64.nearest n)=some y∧(FloatKind.f64.decode y).toInt .zero=some r∧0≤r∧r≤268435456:=by
 have hx:FloatKind.f64.nearest n=double.nearest false n 0:=by
  unfold FloatKind.nearest FloatKind.encode Format.write
  rw[show decide ((n:Int)<0)=false by simp]
  rfl
 have h1:=qpC (mag:=n) (place:=0) (e:=50) (by have:=quV (k:=50) hn;omega) (by omega)
 obtain⟨m,i,hr,hm,hi⟩:=qCq (w:=double.nearest false n 0) (E:=1074) (by omega) (by omega) (by omega)
 have key:∀(mag:Nat) (place:Int),place+mag.log2≤26→∃r:Int,(double.read (double.nearest false mag place)).toInt .zero=some r∧0≤r∧r≤268435456:=by
  intro mag place h
  have h2:=qpC (mag:=mag) (place:=place) (e:=26) h (by omega)
  obtain⟨m',i',hr',hm',hi'⟩:=qCq (w:=double.nearest false mag place) (E:=1050) (by omega) (by omega) (by omega)
  rw[hr']
  exact qGl hm' (by omega)
 rw[hx,dbl]
 unfold Format.sqrt
 rw[hr]
 unfold Datum.root
 by_cases h0:m=0
 ·subst h0
  simp only[if_true,Option.map_some,Format.write]
  obtain⟨r,g1,g2,g3⟩:=key 0 i (by simp;omega)
  exact⟨_,r,rfl,g1,g2,g3⟩
 simp only[h0,if_false,Bool.false_eq_true,Option.map_some,Format.write]
 generalize 2*(double.fractionBits+2)-m.log2+((i-(2*(double.fractionBits+2)-m.log2:Nat))%2).toNat=more
 have hnn:m<<<more<2^(52+more+1):=by
  rw[quU,show 52+more+1=53+more by omega,Nat.pow_add]
  exact Nat.mul_lt_mul_of_pos_right (by simpa using hm) (Nat.two_pow_pos _)
 have hlog:=quV hnn
 have hw:=qxv (m<<<more) ((m<<<more).log2/2+1) 0
 generalize hT:(m<<<more).log2/2+1=T at hw⊢
 generalize Datum.rootFrom (m<<<more) T 0=whole at hw⊢
 have hbit:=Bool.toNat_le (whole*whole !=m<<<more)
 generalize (whole*whole !=m<<<more).toNat=bit at hbit⊢
 have hmag:2*whole+bit<2^(T+1):=by rw[Nat.pow_succ];omega
 have hl:=quV hmag
 obtain⟨r,g1,g2,g3⟩:=key (2*whole+bit) ((i-more)/2-1) (by omega)
 exact⟨_,r,rfl,g1,g2,g3⟩
end Go.F

namespace Go.F
def val:List Nat→Nat
 |[]=>0
 |x::l=>x+4294967296*val l
def qf0:Nat→Nat→List Nat
 |0,_=>[]
 |k+1,n=>if n=0 then []else n%4294967296::qf0 k (n/4294967296)
def q0f (n:Nat):List Nat:=qf0 n n
def dg (l:List Nat)(i:Nat):Nat:=l.getD i 0
class LOk (l:List Nat):Prop where
 lt:∀x∈l,x<4294967296
theorem qyr:∀(k j n:Nat),n≤k→n≤j→qf0 k n=qf0 j n:=by
 intro k
 induction k with
 |zero=>
  intro j n h1 h2
  obtain rfl:n=0:=by omega
  cases j<;>simp[qf0]
 |succ k ih=>
  intro j n h1 h2
  cases j with
  |zero=>
   obtain rfl:n=0:=by omega
   simp[qf0]
  |succ j=>
   simp only[qf0]
   split
   ·rfl
   rw[ih j (n/4294967296) (by omega) (by omega)]
theorem q5V:q0f 0=[]:=rfl
theorem q4m {n:Nat}(h:n≠0):q0f n=n%4294967296::q0f (n/4294967296):=by
 obtain⟨k,rfl⟩:∃k,n=k+1:=⟨n-1,by omega⟩
 unfold q0f
 rw[qf0,if_neg h,qyr k ((k+1)/4294967296) _ (by omega) (Nat.le_refl _)]
theorem qkB {P:Nat→Prop}(h0:P 0)(h1:∀n,n≠0→P (n/4294967296)→P n)(n:Nat):P n:=by
 induction n using Nat.strongRecOn with
 |_ n ih=>
  by_cases h:n=0
  ·subst h;exact h0
  exact h1 n h (ih _ (by omega))
theorem q0o (n:Nat):val (q0f n)=n:=by
 induction n using qkB with
 |h0=>rfl
 |h1 n hn ih=>rw[q4m hn,val,ih];omega
instance q0D (n:Nat):LOk (q0f n):=by
 refine⟨?_⟩
 induction n using qkB with
 |h0=>intro x hx;simp[q5V]at hx
 |h1 n hn ih=>
  rw[q4m hn]
  intro x hx
  rcases List.mem_cons.1 hx with rfl|hx
  ·omega
  exact ih x hx
theorem q0q {n k:Nat}:(q0f n).length≤k↔n<4294967296^k:=by
 induction k generalizing n with
 |zero=>
  rw[Nat.pow_zero]
  by_cases h:n=0
  ·subst h;simp[q5V]
  rw[q4m h];simp;omega
 |succ k ih=>
  by_cases h:n=0
  ·subst h;simp only[q5V,List.length_nil,Nat.zero_le,true_iff];exact Nat.pow_pos (by decide)
  rw[q4m h,List.length_cons,Nat.add_le_add_iff_right,ih,Nat.pow_succ]
  exact Nat.div_lt_iff_lt_mul (by decide)
theorem q3t {n:Nat}:0<(q0f n).length↔n≠0:=by
 by_cases h:n=0
 ·subst h;simp[q5V]
 rw[q4m h];simp[h]
theorem qkC {n:Nat}:q0f n=[]↔n=0:=by
 by_cases h:n=0
 ·subst h;simp[q5V]
 rw[q4m h];simp[h]
theorem val_append (a b:List Nat):val (a++b)=val a+4294967296^a.length*val b:=by
 induction a with
 |nil=>simp[val]
 |cons x a ih=>rw[List.cons_append,val,ih,val,List.length_cons,Nat.pow_succ,Nat.mul_add,←Nat.mul_assoc,Nat.mul_comm 4294967296 (_^_)];omega
theorem q6t (a:List Nat)(x:Nat):val (a++[x])=val a+4294967296^a.length*x:=by
 rw[val_append];simp[val]
theorem qbx (k:Nat):val (List.replicate k 0)=0:=by
 induction k with
 |zero=>rfl
 |succ k ih=>rw[List.replicate_succ,val,ih]
theorem LOk.cons {x:Nat}{l:List Nat}(h:LOk (x::l)):x<4294967296∧LOk l:=
 ⟨h.lt x (by simp),⟨fun y hy=>h.lt y (by simp[hy])⟩⟩
theorem LOk.append {a b:List Nat}(h:LOk a)(g:LOk b):LOk (a++b):=
 ⟨fun x hx=>by rcases List.mem_append.1 hx with h1|h1;exact h.lt x h1;exact g.lt x h1⟩
theorem LOk.snoc {a:List Nat}{x:Nat}(h:LOk a)(g:x<4294967296):LOk (a++[x]):=
 h.append ⟨fun y hy=>by simp at hy;omega⟩
theorem LOk.take {a:List Nat}(h:LOk a)(k:Nat):LOk (a.take k):=⟨fun x hx=>h.lt x (List.mem_of_mem_take hx)⟩
theorem LOk.drop {a:List Nat}(h:LOk a)(k:Nat):LOk (a.drop k):=⟨fun x hx=>h.lt x (List.mem_of_mem_drop hx)⟩
theorem LOk.set {a:List Nat}(h:LOk a)(k:Nat){v:Nat}(hv:v<4294967296):LOk (a.set k v):=
 ⟨fun x hx=>by rcases List.mem_or_eq_of_mem_set hx with h1|h1;exact h.lt x h1;omega⟩
theorem q5y (k:Nat):LOk (List.replicate k 0):=⟨fun x hx=>by rw[(List.mem_replicate.1 hx).2];decide⟩
instance qqq:LOk []:=⟨by simp⟩
theorem q3d {l:List Nat}(h:LOk l):val l<4294967296^l.length:=by
 induction l with
 |nil=>simp[val]
 |cons x l ih=>
  obtain⟨h1,h2⟩:=h.cons
  have:=ih h2
  rw[val,List.length_cons,Nat.pow_succ]
  omega
theorem q1q {l:List Nat}(h:LOk l)(i:Nat):dg l i<4294967296:=by
 unfold dg
 rw[List.getD_eq_getElem?_getD]
 cases hx:l[i]? with
 |none=>simp
 |some x=>simp;exact h.lt x (List.mem_of_getElem? hx)
theorem q85 {l:List Nat}{i:Nat}(h:l.length≤i):dg l i=0:=by
 unfold dg;rw[List.getD_eq_getElem?_getD,List.getElem?_eq_none h];rfl
theorem qkD {l:List Nat}{i:Nat}(h:i<l.length):dg l i=l[i]:=by simp[dg,h]
theorem qCD {l:List Nat}{k:Nat}(h:k<l.length):l.take (k+1)=l.take k++[dg l k]:=by
 rw[List.take_succ_eq_append_getElem h,qkD h]
theorem q0V (l:List Nat)(k:Nat):val (l.take (k+1))=val (l.take k)+4294967296^k*dg l k:=by
 by_cases h:k<l.length
 ·rw[qCD h,q6t,List.length_take,Nat.min_eq_left (Nat.le_of_lt h)]
 rw[List.take_of_length_le (by omega),List.take_of_length_le (by omega),q85 (by omega)];simp
theorem q37 (l:List Nat)(k:Nat):val (l.drop k)=dg l k+4294967296*val (l.drop (k+1)):=by
 by_cases h:k<l.length
 ·rw[List.drop_eq_getElem_cons h,val,qkD h]
 rw[List.drop_of_length_le (by omega),List.drop_of_length_le (by omega),q85 (by omega)];rfl
theorem q31 (l:List Nat)(k:Nat):val l=val (l.take k)+4294967296^k*val (l.drop k):=by
 by_cases h:k≤l.length
 ·have:=val_append (l.take k) (l.drop k)
  rw[List.take_append_drop,List.length_take,Nat.min_eq_left h]at this
  exact this
 rw[List.take_of_length_le (by omega),List.drop_of_length_le (by omega)];simp[val]
theorem qB7:∀{l:List Nat} (_:LOk l) (i:Nat),dg l i=val l/4294967296^i%4294967296:=by
 intro l
 induction l with
 |nil=>intro _ i;simp[dg,val]
 |cons x l ih=>
  intro h i
  obtain⟨h1,h2⟩:=h.cons
  cases i with
  |zero=>simp[dg,val];omega
  |succ i=>
   have:=ih h2 i
   have e:dg (x::l) (i+1)=dg l i:=by simp[dg]
   rw[e,this,val,Nat.pow_succ,Nat.mul_comm (4294967296^i),←Nat.div_div_eq_div_mul]
   congr 2
   omega
theorem qnE {l:List Nat}(hl:l≠[])(h:dg l (l.length-1)≠0):val l≠0:=by
 have hlen:0<l.length:=List.length_pos_iff.2 hl
 have:=q31 l (l.length-1)
 rw[q37,Nat.sub_add_cancel hlen,List.drop_length]at this
 simp only[val,Nat.mul_zero,Nat.add_zero]at this
 intro h0
 rw[h0]at this
 have hp:0<4294967296^(l.length-1) *dg l (l.length-1):=Nat.mul_pos (Nat.pow_pos (by decide)) (by omega)
 omega
theorem qEj {l:List Nat}(h:LOk l)(hl:l=[]∨dg l (l.length-1)≠0):q0f (val l)=l:=by
 induction l with
 |nil=>rfl
 |cons x l ih=>
  obtain⟨h1,h2⟩:=h.cons
  rcases hl with hl|hl
  ·cases hl
  have hv:=qnE (l:=x::l) (by simp) hl
  rw[q4m hv]
  have e1:val (x::l)%4294967296=x:=by rw[val];omega
  have e2:val (x::l)/4294967296=val l:=by rw[val];omega
  rw[e1,e2,ih h2]
  by_cases hn:l=[]
  ·exact .inl hn
  refine .inr ?_
  obtain⟨m,hm⟩:∃m,l.length=m+1:=⟨l.length-1,by have:=List.length_pos_iff.2 hn;omega⟩
  simp only[List.length_cons,Nat.add_sub_cancel,hm]at hl⊢
  simpa[dg]using hl
theorem qtR {n:Nat}(h:n≠0):dg (q0f n) ((q0f n).length-1)≠0:=by
 induction n using qkB with
 |h0=>exact absurd rfl h
 |h1 n hn ih=>
  rw[q4m hn]
  by_cases hd:n/4294967296=0
  ·rw[hd,q5V];simp[dg];omega
  have:=ih hd
  have hp:=q3t.2 hd
  obtain⟨m,hm⟩:∃m,(q0f (n/4294967296)).length=m+1:=⟨_,(Nat.sub_add_cancel hp).symm⟩
  simp only[List.length_cons,Nat.add_sub_cancel,hm]at this⊢
  simpa[dg]using this
theorem qtS {l:List Nat}{n:Nat}(h:LOk l)(hn:n≤l.length)(h0:∀i,n≤i→dg l i=0)(h1:n=0∨dg l (n-1)≠0):l.take n=q0f (val l):=by
 have hz:∀k j,n≤j→j+k=l.length→val (l.drop j)=0:=by
  intro k
  induction k with
  |zero=>intro j _ hj;rw[List.drop_of_length_le (by omega)];rfl
  |succ k ih=>intro j hj hk;rw[q37,h0 j hj,ih (j+1) (by omega) (by omega)]
 have hv:val l=val (l.take n):=by
  rw[q31 l n,hz (l.length-n) n (Nat.le_refl _) (by omega)];simp
 rw[hv,qEj (h.take n)]
 by_cases hn0:n=0
 ·left;simp[hn0]
 right
 rcases h1 with h1|h1
 ·exact absurd h1 hn0
 rw[List.length_take,Nat.min_eq_left hn]
 simpa[dg,List.getElem?_take,show n-1<n by omega]using h1
theorem qji {l:List Nat}{i v:Nat}(h:i<l.length):val (l.set i v)+4294967296^i*dg l i=val l+4294967296^i*v:=by
 induction l generalizing i with
 |nil=>simp at h
 |cons x l ih=>
  cases i with
  |zero=>simp[val,dg];omega
  |succ i=>
   have:=ih (i:=i) (by simpa using h)
   have e:dg (x::l) (i+1)=dg l i:=by simp[dg]
   rw[List.set_cons_succ,val,val,e,Nat.pow_succ]
   have e1:4294967296^i*4294967296*dg l i=4294967296*(4294967296^i*dg l i):=by rw[Nat.mul_comm (4294967296^i),Nat.mul_assoc]
   have e2:4294967296^i*4294967296*v=4294967296*(4294967296^i*v):=by rw[Nat.mul_comm (4294967296^i),Nat.mul_assoc]
   rw[e1,e2]
   omega
theorem q3u {l:List Nat}{i j v:Nat}:dg (l.set i v) j=if i=j∧j<l.length then v else dg l j:=by
 unfold dg
 rw[List.getD_eq_getElem?_getD,List.getD_eq_getElem?_getD,List.getElem?_set]
 split
 ·rename_i h;subst h
  split
  ·rename_i h2;simp[h2]
  rename_i h2;simp[h2]
 rename_i h;simp[h]
theorem qqr {a b:List Nat}{i:Nat}(h:i<a.length):dg (a++b) i=dg a i:=by
 simp[dg,List.getElem?_append_left h]
theorem qnF {a b:List Nat}{i:Nat}(h:a.length≤i):dg (a++b) i=dg b (i-a.length):=by
 simp[dg,List.getElem?_append_right h]
theorem q7G (k i:Nat):dg (List.replicate k 0) i=0:=by
 simp only[dg,List.getD_eq_getElem?_getD,List.getElem?_replicate];split<;>rfl
theorem q4H (p t:Nat):p*(t%4294967296)+p*4294967296*(t/4294967296)=p*t:=by
 rw[Nat.mul_assoc,←Nat.mul_add,Nat.mod_add_div]
def u32 (n:Nat):D:=.int .u32 n
def nat (l:List Nat):D:=.lst (l.map u32)
theorem q2P {l:List Nat}{i:Nat}(h:i<l.length):(l.map u32)[i]?=some (u32 (dg l i)):=by simp[dg,h]
theorem q0u (n:Nat):plain 4 (u32 n)=true:=rfl
theorem qCE (n:Nat):dat 4 (u32 n)=true:=rfl
theorem q19 (n:Nat):IntKind.u32.wrap (n:Int)=((n%4294967296:Nat):Int):=by
 simp[IntKind.wrap,IntKind.bits,IntKind.signed]
theorem qby (n:Int):IntKind.u32.wrap n=n%4294967296:=by
 simp[IntKind.wrap,IntKind.bits,IntKind.signed]
theorem q0Y (n:Int):IntKind.u64.wrap n=n%18446744073709551616:=by
 simp[IntKind.wrap,IntKind.bits,IntKind.signed]
theorem q0F {n:Nat}(h:n<18446744073709551616):IntKind.u64.wrap (n:Int)=(n:Int):=by
 rw[q0Y];omega
end Go.F

namespace Go.F
theorem kn_gt {U V P ut vt q:Nat}(hU:U<(ut+1) *P)(hV:vt*P≤V)(hV0:0<V)(h:ut<q*vt):U/V<q:=by
 rw[Nat.div_lt_iff_lt_mul hV0]
 calc U<(ut+1) *P:=hU
  _≤q*vt*P:=Nat.mul_le_mul_right _ h
  _=q*(vt*P):=Nat.mul_assoc _ _ _
  _≤q*V:=Nat.mul_le_mul_left _ hV
theorem kn_le {U V P ut vt q B:Nat}(hU:ut*P≤U)(hV:V<(vt+1) *P)(hV0:B*P≤V)(hp:0<V)(hq:q<B)(h:q*vt≤ut):q≤U/V+1:=by
 by_cases h0:q=0
 ·rw[h0];exact Nat.zero_le _
 have h1:q*V≤U+V:=by
  calc q*V≤q*((vt+1) *P):=Nat.mul_le_mul_left _ (Nat.le_of_lt hV)
   _=q*vt*P+q*P:=by rw[←Nat.mul_assoc,Nat.mul_add,Nat.add_mul,Nat.mul_one]
   _≤ut*P+B*P:=Nat.add_le_add (Nat.mul_le_mul_right _ h) (Nat.mul_le_mul_right _ (Nat.le_of_lt hq))
   _≤U+V:=Nat.add_le_add hU hV0
 have h2:(q-1) *V≤U:=by
  obtain⟨k,rfl⟩:∃k,q=k+1:=⟨q-1,by omega⟩
  rw[Nat.add_mul,Nat.one_mul]at h1
  simpa using h1
 have:=(Nat.le_div_iff_mul_le hp).2 h2
 omega
end Go.F

namespace Go.F
attribute [local irreducible] IntKind.wrap wpM
theorem qEk {r:List Nat}{k:Nat}(v:Nat):(r.map u32).set k (.int .u32 v)=(r.set k v).map u32:=by
 rw[List.map_set];rfl
section
variable {T:Tab}{sh:Shr}{nx0:Nat}{s:List Fr}{t:q0z}{h:q0e}{z:Frz}{nx:Nat}{q:Ex→q0z→q0e→Frz→Nat→Prop}
variable {base i:Nat}{res:List Nat}{g:Gd}{rest:List KOper}
theorem q2a {hint:Bool}{a v:X}{dst:Option Nat}{id k':Nat}{w':Int}(r:List Nat)(k w:Nat)(ha:a.ev t=.ptr id k' 0)(hv:v.ev t=.int .u32 w')(hkk:k'=k)(hw:w'=w)(hr:g.h base h id=some (.row (r.map u32) 1))(hz:g.z base z id≤k)(hl:k<r.length)
 (hk:wpM T sh nx0 (.ops base res rest::s) .normal (put t dst (.tup [])) (upd h id (some (.row ((r.set k w).map u32) 1))) z nx q):
 wpM T sh nx0 (.ops base res (⟨i,dst,none,g,.store hint 1 a v⟩::rest)::s) .normal t h z nx q:=by
 subst hkk;subst hw
 refine qzv (e':=.int .u32 w) ha (by rw[hv];rfl) hr hz (q2P hl) (by rw[hv];rfl) ?_
 rw[qEk]
 exact hk
theorem q4I {hint:Bool}{a:X}{dst:Nat}{id k':Nat}(r:List Nat)(k:Nat)(ha:a.ev t=.ptr id k' 0)(hkk:k'=k)(hr:g.h base h id=some (.row (r.map u32) 1))(hl:k<r.length)
 (hk:wpM T sh nx0 (.ops base res rest::s) .normal (upd t dst (.int .u32 (dg r k))) h z nx q):
 wpM T sh nx0 (.ops base res (⟨i,some dst,none,g,.load hint false 1 a⟩::rest)::s) .normal t h z nx q:=by
 subst hkk
 exact q5P ha hr (q2P hl) rfl hk
end
theorem q2U (l:List Nat) [ho:LOk l](hl:l.length≤4000000000):PU qq5 [nat l]=some (nat (q0f (val l))):=by
 refine q0g (fn:=qdN) rfl (q0a ?_)
 refine gg rfl (q0l (S:=fun n:Nat=>([nat l,q00 n],[none,none],[0,0])) (C:=fun n=>n≤l.length∧∀i,n≤i→dg l i=0) (m:=fun n=>n) l.length ⟨Nat.le_refl _,fun i hi=>q85 hi⟩ (by omega) ?_ ?_)
 ·exact q03 rfl trivial (by simp[nat,q00])
 intro n ⟨hn,h0⟩ N hN
 have fin:(n=0∨dg l (n-1)≠0)→D.lst ((l.map u32).take n)=nat (q0f (val l)):=fun h=>by
  rw[nat,←qtS ho hn h0 h,List.map_take]
 refine gg rfl (q08 rfl (fun h1=>?_) (fun h1=>?_))
 ·rw[q06]at h1
  have w1:IntKind.i64.wrap ((n:Int)-1)=((n-1:Nat):Int):=by rw[wrap64 (by omega) (by omega)];omega
  refine gg rfl (q0j (n-1) rfl rfl w1 (q2P (by omega)) rfl ?_)
  refine gg rfl (q01 rfl (fun h2=>?_) (fun h2=>?_))
  ·rw[q1I]at h2
   refine gg rfl (q04 (hN (n-1) ⟨by omega,fun i hi=>?_⟩ (by omega) (q03 rfl trivial (by simp[nat,q00,w1]))))
   by_cases hin:i=n-1
   ·subst hin;omega
   exact h0 i (by omega)
  rw[q1J]at h2
  refine gg rfl (q04 (gg rfl (qdB n rfl (q1k (f:=u32) (n:=1) (fun _=>rfl) _) ⟨_,_,rfl,rfl⟩ (by simpa using hn) ?_)))
  refine gg rfl (q09 rfl rfl rfl trivial (fin (.inr ?_)))
  omega
 rw[q07]at h1
 refine gg rfl (q0i rfl (gg rfl (q04 (gg rfl (qdB n rfl (q1k (f:=u32) (n:=1) (fun _=>rfl) _) ⟨_,_,rfl,rfl⟩ (by simpa using hn) ?_)))))
 refine gg rfl (q09 rfl rfl rfl trivial (fin (.inl (by omega))))
theorem q42 {l:List Nat}{n:Nat}(hn:n=l.length):0+n≤(l.map u32).length∧(((l.map u32).drop 0).take n).all (dat 4)=true:=by
 subst hn
 refine⟨by simp,?_⟩
 rw[List.drop_zero,List.take_of_length_le (by simp)]
 exact q0L qCE _
theorem q4o {l:List Nat}{n:Nat}(hn:n=l.length):D.lst ((l.map u32).take n)=nat l:=by
 subst hn
 rw[nat,List.take_of_length_le (by simp)]
theorem q7l (n:Nat)(hn:n<18446744073709551616):PU qvn [.int .u64 n]=some (nat (q0f n)):=by
 have:LOk [n%4294967296,n/4294967296]:=⟨by simp;omega⟩
 have hp:=q2U [n%4294967296,n/4294967296] (by simp)
 have hv:val [n%4294967296,n/4294967296]=n:=by simp[val];omega
 rw[hv]at hp
 refine q0g (fn:=qi1) rfl (q0a ?_)
 refine gg rfl (q1d n 32 rfl rfl rfl rfl (by decide) ?_)
 refine gg rfl ?_
 rw[q19,q19,show n/2^32%4294967296=n/4294967296 by omega]
 exact q2s rfl rfl ⟨q42 (l:=[n%4294967296,n/4294967296]) rfl,trivial⟩ hp fun z=>(gg rfl (q09 rfl rfl rfl trivial rfl))
theorem q5L (l:List Nat) [ho:LOk l](hl:l.length≤4000000000):PU qq9 [nat l]=some (nat (q0f (val l))):=by
 have hlen:(q0f (val l)).length≤l.length:=q0q.2 (q3d ho)
 refine q0g (fn:=qet) rfl (q0a ?_)
 refine gg rfl (q02 rfl rfl (q2U l hl) (gg rfl (q48 (q0f (val l)).length rfl rfl (by simp) (by simp[q0N];omega) ?_)))
 refine gg rfl (qJa rfl rfl rfl rfl (q1k (f:=u32) (n:=1) (fun _=>rfl) _) (by simp) (Nat.zero_le _) ?_)
 refine gg rfl ?_
 have e:List.take 0 (List.replicate (q0f (val l)).length (D.int IntKind.u32 0))++((q0f (val l)).map u32).take (min ((q0f (val l)).map u32).length (q0f (val l)).length)++(List.replicate (q0f (val l)).length (D.int IntKind.u32 0)).drop (0+min ((q0f (val l)).map u32).length (q0f (val l)).length)=(q0f (val l)).map u32:=by
  simp
  rw[List.take_of_length_le (by simp)]
 rw[e]
 exact q09 rfl rfl rfl ⟨q42 rfl,trivial⟩ (q4o rfl)
theorem qhw (n:Nat):PU q9i [.int .u32 n]=some (.bool false):=by
 refine q0g (fn:=q8W) rfl (q0a ?_)
 repeat' (first
  |refine goP 800 rfl rfl ?_
  |refine q0h rfl ?_|refine q0m rfl ?_|refine q08 rfl (fun _=>?_) (fun _=>?_)
  |refine q0d rfl ?_|refine q0i rfl ?_|refine q01 rfl (fun _=>?_) (fun _=>?_)
  |refine q0Q rfl (fun _=>?_) (fun _=>?_)
  |refine q09 rfl rfl rfl trivial ?_)
 simp[nqb]
theorem qvE (a b:Nat):PU qeQ [.int .u32 a,.int .u32 b]=some (.int .i64 (q3W a b)):=by
 refine q0g (fn:=q7w) rfl (q0a ?_)
 repeat' (first
  |refine goP 800 rfl rfl ?_
  |refine q0h rfl ?_|refine q0m rfl ?_|refine q08 rfl (fun _=>?_) (fun _=>?_)
  |refine q0d rfl ?_|refine q0i rfl ?_|refine q01 rfl (fun _=>?_) (fun _=>?_)
  |refine q0Q rfl (fun _=>?_) (fun _=>?_)
  |refine q09 rfl rfl rfl trivial ?_
  |refine q02 rfl rfl (qhw _) ?_)
 all_goals ((try simp only[q1U,q2h,q2o,q4n,decide_eq_true_eq,decide_eq_false_iff_not,Bool.not_eq_true,Bool.not_eq_false,Int.not_lt,Int.not_le]at*);first|(simp_all[q3W];done) |(simp_all[q3W];omega) |(rw[D.bool.injEq,Bool.eq_iff_iff];simp[q3W];omega) |(rw[D.bool.injEq,Bool.eq_iff_iff];simp_all[q3W];omega) |(simp[q3W];split<;>(try split)<;>omega))
theorem qtU {a b:List Nat}(ha:LOk a){i:Nat}(h:a.drop (i+1)=b.drop (i+1))(hi:dg a i<dg b i):val a<val b:=by
 have e1:=q31 a i
 have e2:=q31 b i
 rw[q37]at e1 e2
 rw[h]at e1
 have h1:=q3d (ha.take i)
 have h3:4294967296^(a.take i).length≤4294967296^i:=Nat.pow_le_pow_right (by decide) (by simp;omega)
 generalize 4294967296^i=P at*
 generalize 4294967296*val (List.drop (i+1) b)=R at*
 have h2:P*(dg a i+R)+P≤P*(dg b i+R):=by
  rw[←Nat.mul_succ];exact Nat.mul_le_mul_left _ (by omega)
 omega
theorem qqs (a b:List Nat) [ha:LOk a] [hb:LOk b](hla:a.length≤1000000000)(hlb:b.length≤1000000000):PU qaq [nat a,nat b]=some (.int .i64 (q3W (val a) (val b))):=by
 have ea:val (q0f (val a))=val a:=q0o _
 have eb:val (q0f (val b))=val b:=q0o _
 have hla':(q0f (val a)).length≤a.length:=q0q.2 (q3d ha)
 have hlb':(q0f (val b)).length≤b.length:=q0q.2 (q3d hb)
 refine q0g (fn:=qgG) rfl (q0a ?_)
 refine gg rfl (q02 rfl rfl (q2U a (by omega)) ?_)
 refine gg rfl (q02 rfl rfl (q2U b (by omega)) ?_)
 refine gg rfl (q02 rfl rfl (qhi _ _) (gg rfl ?_))
 rw[List.length_map,List.length_map]
 refine q01 rfl (fun h1=>?_) (fun h1=>?_)
 ·rw[q0w]at h1
  refine gg rfl (q09 rfl rfl rfl trivial ?_)
  congr 1
  unfold q3W at h1⊢
  rcases Nat.lt_trichotomy (q0f (val a)).length (q0f (val b)).length with h|h|h
  ·have h2:¬val b<4294967296^(q0f (val a)).length:=fun h3=>by have:=q0q.2 h3;omega
   have h3:val a<4294967296^(q0f (val a)).length:=q0q.1 (Nat.le_refl _)
   rw[if_pos (by omega),if_pos (by omega)]
  ·rw[if_neg (by omega),if_neg (by omega)]at h1;exact absurd rfl h1
  have h2:¬val a<4294967296^(q0f (val b)).length:=fun h3=>by have:=q0q.2 h3;omega
  have h3:val b<4294967296^(q0f (val b)).length:=q0q.1 (Nat.le_refl _)
  rw[if_neg (by omega),if_pos (by omega),if_neg (by omega),if_pos (by omega)]
 rw[q0B]at h1
 have hlen:(q0f (val a)).length=(q0f (val b)).length:=by
  unfold q3W at h1
  split at h1
  ·cases h1
  split at h1
  ·cases h1
  omega
 generalize hA:q0f (val a)=A at*
 generalize hB:q0f (val b)=B at*
 have hAo:LOk A:=hA▸q0D _
 have hBo:LOk B:=hB▸q0D _
 refine gg rfl (q0l (S:=fun n:Nat=>([nat A,nat B,q00 ((n:Int)-1)],[none,none,none],[0,0,0])) (C:=fun n=>n≤A.length∧A.drop n=B.drop n) (m:=fun n=>n) A.length ⟨Nat.le_refl _,by rw[List.drop_length,hlen,List.drop_length]⟩ (by omega) ?_ ?_)
 ·exact q03 rfl trivial (by simp[nat,q00];exact wrap64 (by omega) (by omega))
 intro n ⟨hn,hd⟩ N hN
 refine gg rfl (q01 rfl (fun h2=>?_) (fun h2=>?_))
 ·rw[q0G]at h2
  refine gg rfl (q0j (n-1) rfl rfl (by omega) (q2P (by omega)) rfl ?_)
  refine gg rfl (q0j (n-1) rfl rfl (by omega) (q2P (by omega)) rfl ?_)
  refine gg rfl (q02 rfl rfl (qvE _ _) (gg rfl (q01 rfl (fun h3=>?_) (fun h3=>?_))))
  ·rw[q0w]at h3
   refine gg rfl (q04 (gg rfl (q09 rfl rfl rfl trivial ?_)))
   congr 1
   unfold q3W at h3⊢
   have hd':A.drop (n-1+1)=B.drop (n-1+1):=by rw[Nat.sub_add_cancel (by omega)];exact hd
   rcases Nat.lt_trichotomy (dg A (n-1)) (dg B (n-1))with h|h|h
   ·have:=qtU hAo hd' h
    rw[if_pos (by omega),if_pos (by omega)]
   ·rw[if_neg (by omega),if_neg (by omega)]at h3;exact absurd rfl h3
   have:=qtU hBo hd'.symm h
   rw[if_neg (by omega),if_pos (by omega),if_neg (by omega),if_pos (by omega)]
  rw[q0B]at h3
  have heq:dg A (n-1)=dg B (n-1):=by
   unfold q3W at h3
   split at h3
   ·cases h3
   split at h3
   ·cases h3
   omega
  refine gg rfl (q04 (hN (n-1) ⟨by omega,?_⟩ (by omega) (q03 rfl trivial ?_)))
  ·have e1:A.drop (n-1)=dg A (n-1)::A.drop n:=by rw[List.drop_eq_getElem_cons (by omega),qkD (by omega),Nat.sub_add_cancel (by omega)]
   have e2:B.drop (n-1)=dg B (n-1)::B.drop n:=by rw[List.drop_eq_getElem_cons (by omega),qkD (by omega),Nat.sub_add_cancel (by omega)]
   rw[e1,e2,heq,hd]
  have w:IntKind.i64.wrap ((n:Int)-1-1)=((n-1:Nat):Int)-1:=by rw[wrap64 (by omega) (by omega)];omega
  simp[nat,q00,w]
 rw[q0I]at h2
 obtain rfl:n=0:=by omega
 refine gg rfl (q04 (gg rfl (q09 rfl rfl rfl trivial ?_)))
 have:val a=val b:=by rw[←ea,←eb];simp at hd;rw[hd]
 simp[q3W,this]
end Go.F

namespace Go.F
attribute [local irreducible] IntKind.wrap wpM
theorem q2V {r:List Nat}{k v:Nat}(h:k<r.length):val ((r.set k v).take (k+1))=val (r.take k)+4294967296^k*v:=by
 rw[q0V,q3u,if_pos ⟨rfl,h⟩,List.take_set_of_le (Nat.le_refl _)]
theorem q1R {l:List Nat}(h:LOk l):(q0f (val l)).length≤l.length:=q0q.2 (q3d h)
set_option maxHeartbeats 2000000 in
theorem qvF (a b:List Nat) [ha:LOk a] [hb:LOk b](hla:a.length≤1000000000)(hlb:b.length≤1000000000):PU qs8 [nat a,nat b]=some (nat (q0f (val a+val b))):=by
 have ea:val (q0f (val a))=val a:=q0o _
 have eb:val (q0f (val b))=val b:=q0o _
 have hla':=q1R ha
 have hlb':=q1R hb
 refine q0g (fn:=qgN) rfl (q0a ?_)
 refine gg rfl (q02 rfl rfl (q2U a (by omega)) ?_)
 refine gg rfl (q02 rfl rfl (q2U b (by omega)) ?_)
 refine gg rfl ?_
 rw[List.length_map,List.length_map]
 have hAo:LOk (q0f (val a)):=q0D _
 have hBo:LOk (q0f (val b)):=q0D _
 generalize q0f (val a)=P at*
 generalize q0f (val b)=Q at*
 refine q01 rfl (fun h1=>?_) (fun h1=>?_)
 ·rw[q06]at h1
  have hx:=hAo
  clear hAo
  have hAo:=hBo
  clear hBo
  have hBo:=hx
  refine gg rfl (q48 0 rfl rfl rfl (by rw[List.length_map,wrap64 (by omega) (by omega)];simp[q0N];omega) ?_)
  refine gg rfl ?_
  refine q0l (S:=fun x:Nat×List Nat×Nat=>([nat P,.ref 1 0 x.2.1.length,.int .u64 x.2.2,nat Q,q00 Q.length,q00 x.1],[none,some (.row (x.2.1.map u32) 1),none,none,none,none],[0,0,0,0,0,0]))
   (C:=fun x=>x.1≤Q.length∧x.2.1.length=x.1∧LOk x.2.1∧x.2.2≤1∧val x.2.1+4294967296^x.1*x.2.2=val (Q.take x.1)+val (P.take x.1)) (m:=fun x=>Q.length-x.1) (0,[],0) ⟨Nat.zero_le _,rfl,qqq,by decide,by simp[val]⟩ (by simp;omega) ?_ ?_
  ·exact q03 rfl ⟨rfl,trivial⟩ (by simp[nat,q00])
  rintro⟨k,r,c⟩ ⟨hk,hr,hro,hc,hinv⟩ N hN
  simp only at hk hr hro hc hinv
  refine gg rfl (q01 rfl (fun h2=>?_) (fun h2=>?_))
  ·rw[q06]at h2
   have hlt:k<Q.length:=by omega
   have hx:=q1q hAo k
   have hy:=q1q hBo k
   have w1:=wS (n:=k)
   have next:∀{t:q0z} {h:q0e} {z:Frz} {nx:Nat},(q15 0 [(1,0),(5,1),(6,0),(24,0),(25,0),(26,0)] t h z nx fun _ _ kp=>kp=([nat P,.ref 1 0 (r++[(c+dg Q k+dg P k)%4294967296]).length,.int .u64 ((c+dg Q k+dg P k)/2^32:Nat),nat Q,q00 Q.length,q00 ((k+1:Nat):Int)],[none,some (.row ((r++[(c+dg Q k+dg P k)%4294967296]).map u32) 1),none,none,none,none],[0,0,0,0,0,0]))→N t h z nx:=by
    intro t h z nx hst
    refine hN (k+1,r++[(c+dg Q k+dg P k)%4294967296],(c+dg Q k+dg P k)/2^32) ⟨hlt,by simp[hr],hro.snoc (by omega),by simp only;omega,?_⟩ (by simp only;omega) hst
    simp only
    rw[q6t,hr,q0V,q0V,Nat.pow_succ,Nat.add_assoc,show(2:Nat)^32=4294967296 by decide,q4H,Nat.mul_add,Nat.mul_add]
    omega
   clear hN
   refine gg rfl (q0j k rfl rfl rfl (q2P hlt) rfl (gg rfl ?_))
   rw[List.length_map]
   refine q01 rfl (fun h3=>?_) (fun h3=>?_)
   ·rw[q06]at h3
    refine gg rfl (q0j k rfl rfl rfl (q2P (by omega)) rfl ?_)
    refine gg rfl ?_
    have e:IntKind.u64.wrap (IntKind.u64.wrap ((c:Int)+IntKind.u64.wrap (dg Q k:Int))+IntKind.u64.wrap (dg P k:Int))=((c+dg Q k+dg P k:Nat):Int):=by simp only[q0Y];omega
    rw[e,q19]
    refine q1g rfl rfl rfl rfl rfl rfl (by simp) (Nat.zero_le _) (by simp[q0N];omega) ?_
    refine gg rfl (q1d (c+dg Q k+dg P k) 32 rfl rfl rfl rfl (by decide) ?_)
    refine gg rfl (q04 (next (q03 rfl ⟨?_,trivial⟩ ?_)))
    ·rw[List.all_append,q05 q0u];rfl
    simp[nat,q00,w1,u32]
   rw[q07]at h3
   have h0:dg P k=0:=q85 (by omega)
   refine gg rfl ?_
   have e:IntKind.u64.wrap ((c:Int)+IntKind.u64.wrap (dg Q k:Int))=((c+dg Q k+dg P k:Nat):Int):=by simp only[q0Y];omega
   rw[e,q19]
   refine q1g rfl rfl rfl rfl rfl rfl (by simp) (Nat.zero_le _) (by simp[q0N];omega) ?_
   refine gg rfl (q1d (c+dg Q k+dg P k) 32 rfl rfl rfl rfl (by decide) ?_)
   refine gg rfl (q04 (next (q03 rfl ⟨?_,trivial⟩ ?_)))
   ·rw[List.all_append,q05 q0u];rfl
   simp[nat,q00,w1,u32]
  rw[q07]at h2
  obtain rfl:k=Q.length:=by omega
  rw[List.take_length,List.take_of_length_le (l:=P) (by omega)]at hinv
  refine gg rfl (q04 (gg rfl ?_))
  have ec:IntKind.u32.wrap (c:Int)=(c:Int):=by rw[q19];omega
  rw[ec]
  refine q1g rfl rfl rfl rfl rfl rfl (by simp) (Nat.zero_le _) (by simp[q0N];omega) ?_
  refine gg rfl ?_
  have:LOk (r++[c]):=hro.snoc (by omega)
  have hp:=q2U (r++[c]) (by simp;omega)
  have hv:val (r++[c])=val a+val b:=by rw[q6t,hr,hinv];exact(by omega)
  rw[hv]at hp
  have er:r.map u32++[D.int IntKind.u32 (c:Int)]=(r++[c]).map u32:=by simp[u32]
  rw[er]
  refine q2s rfl rfl ⟨q42 (l:=r++[c]) (by simp),trivial⟩ (by rw[q4o (by simp)];exact hp) fun z=>?_
  exact gg rfl (q09 rfl rfl rfl trivial rfl)
 rw[q07]at h1
 refine gg rfl (q48 0 rfl rfl rfl (by rw[List.length_map,wrap64 (by omega) (by omega)];simp[q0N];omega) ?_)
 refine gg rfl ?_
 refine q0l (S:=fun x:Nat×List Nat×Nat=>([nat Q,.ref 1 0 x.2.1.length,.int .u64 x.2.2,nat P,q00 P.length,q00 x.1],[none,some (.row (x.2.1.map u32) 1),none,none,none,none],[0,0,0,0,0,0]))
  (C:=fun x=>x.1≤P.length∧x.2.1.length=x.1∧LOk x.2.1∧x.2.2≤1∧val x.2.1+4294967296^x.1*x.2.2=val (P.take x.1)+val (Q.take x.1)) (m:=fun x=>P.length-x.1) (0,[],0) ⟨Nat.zero_le _,rfl,qqq,by decide,by simp[val]⟩ (by simp;omega) ?_ ?_
 ·exact q03 rfl ⟨rfl,trivial⟩ (by simp[nat,q00])
 rintro⟨k,r,c⟩ ⟨hk,hr,hro,hc,hinv⟩ N hN
 simp only at hk hr hro hc hinv
 refine gg rfl (q01 rfl (fun h2=>?_) (fun h2=>?_))
 ·rw[q06]at h2
  have hlt:k<P.length:=by omega
  have hx:=q1q hAo k
  have hy:=q1q hBo k
  have w1:=wS (n:=k)
  have next:∀{t:q0z} {h:q0e} {z:Frz} {nx:Nat},(q15 0 [(1,0),(5,1),(6,0),(24,0),(25,0),(26,0)] t h z nx fun _ _ kp=>kp=([nat Q,.ref 1 0 (r++[(c+dg P k+dg Q k)%4294967296]).length,.int .u64 ((c+dg P k+dg Q k)/2^32:Nat),nat P,q00 P.length,q00 ((k+1:Nat):Int)],[none,some (.row ((r++[(c+dg P k+dg Q k)%4294967296]).map u32) 1),none,none,none,none],[0,0,0,0,0,0]))→N t h z nx:=by
   intro t h z nx hst
   refine hN (k+1,r++[(c+dg P k+dg Q k)%4294967296],(c+dg P k+dg Q k)/2^32) ⟨hlt,by simp[hr],hro.snoc (by omega),by simp only;omega,?_⟩ (by simp only;omega) hst
   simp only
   rw[q6t,hr,q0V,q0V,Nat.pow_succ,Nat.add_assoc,show(2:Nat)^32=4294967296 by decide,q4H,Nat.mul_add,Nat.mul_add]
   omega
  clear hN
  refine gg rfl (q0j k rfl rfl rfl (q2P hlt) rfl (gg rfl ?_))
  rw[List.length_map]
  refine q01 rfl (fun h3=>?_) (fun h3=>?_)
  ·rw[q06]at h3
   refine gg rfl (q0j k rfl rfl rfl (q2P (by omega)) rfl ?_)
   refine gg rfl ?_
   have e:IntKind.u64.wrap (IntKind.u64.wrap ((c:Int)+IntKind.u64.wrap (dg P k:Int))+IntKind.u64.wrap (dg Q k:Int))=((c+dg P k+dg Q k:Nat):Int):=by simp only[q0Y];omega
   rw[e,q19]
   refine q1g rfl rfl rfl rfl rfl rfl (by simp) (Nat.zero_le _) (by simp[q0N];omega) ?_
   refine gg rfl (q1d (c+dg P k+dg Q k) 32 rfl rfl rfl rfl (by decide) ?_)
   refine gg rfl (q04 (next (q03 rfl ⟨?_,trivial⟩ ?_)))
   ·rw[List.all_append,q05 q0u];rfl
   simp[nat,q00,w1,u32]
  rw[q07]at h3
  have h0:dg Q k=0:=q85 (by omega)
  refine gg rfl ?_
  have e:IntKind.u64.wrap ((c:Int)+IntKind.u64.wrap (dg P k:Int))=((c+dg P k+dg Q k:Nat):Int):=by simp only[q0Y];omega
  rw[e,q19]
  refine q1g rfl rfl rfl rfl rfl rfl (by simp) (Nat.zero_le _) (by simp[q0N];omega) ?_
  refine gg rfl (q1d (c+dg P k+dg Q k) 32 rfl rfl rfl rfl (by decide) ?_)
  refine gg rfl (q04 (next (q03 rfl ⟨?_,trivial⟩ ?_)))
  ·rw[List.all_append,q05 q0u];rfl
  simp[nat,q00,w1,u32]
 rw[q07]at h2
 obtain rfl:k=P.length:=by omega
 rw[List.take_length,List.take_of_length_le (l:=Q) (by omega)]at hinv
 refine gg rfl (q04 (gg rfl ?_))
 have ec:IntKind.u32.wrap (c:Int)=(c:Int):=by rw[q19];omega
 rw[ec]
 refine q1g rfl rfl rfl rfl rfl rfl (by simp) (Nat.zero_le _) (by simp[q0N];omega) ?_
 refine gg rfl ?_
 have:LOk (r++[c]):=hro.snoc (by omega)
 have hp:=q2U (r++[c]) (by simp;omega)
 have hv:val (r++[c])=val a+val b:=by rw[q6t,hr,hinv];exact(by omega)
 rw[hv]at hp
 have er:r.map u32++[D.int IntKind.u32 (c:Int)]=(r++[c]).map u32:=by simp[u32]
 rw[er]
 refine q2s rfl rfl ⟨q42 (l:=r++[c]) (by simp),trivial⟩ (by rw[q4o (by simp)];exact hp) fun z=>?_
 exact gg rfl (q09 rfl rfl rfl trivial rfl)
set_option maxHeartbeats 2000000 in
theorem qH3 (a b:List Nat) [ha:LOk a] [hb:LOk b](hla:a.length≤1000000000)(hlb:b.length≤1000000000):
 PU qsd [nat a,nat b]=some (if val a<val b then .tup [nat [],.bool false]else .tup [nat (q0f (val a-val b)),.bool true]):=by
 have ea:val (q0f (val a))=val a:=q0o _
 have eb:val (q0f (val b))=val b:=q0o _
 have hla':=q1R ha
 have hlb':=q1R hb
 refine q0g (fn:=qgR) rfl (q0a ?_)
 refine gg rfl (q02 rfl rfl (q2U a (by omega)) ?_)
 refine gg rfl (q02 rfl rfl (q2U b (by omega)) ?_)
 refine gg rfl ?_
 have hAo:LOk (q0f (val a)):=q0D _
 have hBo:LOk (q0f (val b)):=q0D _
 have hlen:val b≤val a→(q0f (val b)).length≤(q0f (val a)).length:=fun h=>q0q.2 (Nat.lt_of_le_of_lt h (q0q.1 (Nat.le_refl _)))
 generalize q0f (val a)=A at*
 generalize q0f (val b)=B at*
 refine q02 rfl rfl (qqs A B (by omega) (by omega)) ?_
 refine gg rfl ?_
 rw[ea,eb]
 refine q01 rfl (fun h1=>?_) (fun h1=>?_)
 ·rw[q06]at h1
  have:val a<val b:=by
   unfold q3W at h1
   split at h1
   ·omega
   split at h1<;>omega
  refine gg rfl (q09 rfl rfl rfl trivial ?_)
  rw[if_pos this];rfl
 rw[q07]at h1
 have hle:val b≤val a:=by
  unfold q3W at h1
  split at h1
  ·omega
  omega
 rw[if_neg (by omega)]
 refine gg rfl (q48 A.length rfl rfl (by simp) (by simp[q0N];omega) ?_)
 refine gg rfl ?_
 refine q0l (S:=fun x:Nat×List Nat×Nat=>([nat B,.ref 1 0 A.length,.int .u64 x.2.2,nat A,q00 A.length,q00 x.1],[none,some (.row (x.2.1.map u32) 1),none,none,none,none],[0,0,0,0,0,0]))
  (C:=fun x=>x.1≤A.length∧x.2.1.length=A.length∧LOk x.2.1∧x.2.2≤1∧val (x.2.1.take x.1)+val (B.take x.1)=val (A.take x.1)+4294967296^x.1*x.2.2) (m:=fun x=>A.length-x.1) (0,List.replicate A.length 0,0)
  ⟨Nat.zero_le _,by simp,q5y _,Nat.zero_le _,by simp[val]⟩ (by simp;omega) ?_ ?_
 ·refine q03 rfl ⟨?_,trivial⟩ (by simp[nat,q00,u32])
  rw[List.all_eq_true];intro x hx;rw[(List.mem_replicate.1 hx).2];rfl
 rintro⟨k,r,c⟩ ⟨hk,hr,hro,hc,hinv⟩ N hN
 simp only at hk hr hro hc hinv
 refine gg rfl (q01 rfl (fun h2=>?_) (fun h2=>?_))
 ·rw[q06]at h2
  have hlt:k<A.length:=by omega
  have hx:=q1q hAo k
  have hy:=q1q hBo k
  have w1:=wS (n:=k)
  have next:∀(v c':Nat),v<4294967296→c'≤1→v+(c+dg B k)=dg A k+4294967296*c'→∀{t:q0z} {h:q0e} {z:Frz} {nx:Nat},(q15 0 [(1,0),(6,0),(7,0),(22,0),(23,0),(24,0)] t h z nx fun _ _ kp=>kp=([nat B,.ref 1 0 A.length,.int .u64 c',nat A,q00 A.length,q00 ((k+1:Nat):Int)],[none,some (.row ((r.set k v).map u32) 1),none,none,none,none],[0,0,0,0,0,0]))→N t h z nx:=by
   intro v c' hv hc' he t h z nx hst
   refine hN (k+1,r.set k v,c') ⟨hlt,by simp[hr],hro.set k hv,hc',?_⟩ (by simp only;omega) hst
   simp only
   rw[q2V (by omega),q0V,q0V,Nat.pow_succ]
   have e2:4294967296^k*v+(4294967296^k*c+4294967296^k*dg B k)=4294967296^k*dg A k+4294967296^k*4294967296*c':=by
    rw[←Nat.mul_add,←Nat.mul_add,he,Nat.mul_add,Nat.mul_assoc]
   omega
  clear hN
  refine gg rfl (q0j k rfl rfl rfl (q2P hlt) rfl (gg rfl ?_))
  rw[List.length_map]
  have body:∀d:Int,d=((dg A k:Int)-c-dg B k)%18446744073709551616→
   (∃v c':Nat,IntKind.u32.wrap d=v∧d=((d.toNat:Nat):Int)∧d.toNat/2^63=c'∧v<4294967296∧c'≤1∧v+(c+dg B k)=dg A k+4294967296*c'):=by
   intro d hd
   rw[qby]
   refine⟨(d%4294967296).toNat,d.toNat/2^63,by omega,by omega,rfl,by omega,by omega,by omega⟩
  refine q01 rfl (fun h3=>?_) (fun h3=>?_)
  ·rw[q06]at h3
   refine gg rfl (q0j k rfl rfl rfl (q2P (by omega)) rfl ?_)
   refine gg rfl ?_
   obtain⟨v,c',g1,g2,g3,g4,g5,g6⟩:=body (IntKind.u64.wrap (IntKind.u64.wrap (IntKind.u64.wrap (dg A k:Int)-(c:Int))-IntKind.u64.wrap (dg B k:Int))) (by simp only[q0Y];omega)
   generalize IntKind.u64.wrap (IntKind.u64.wrap (IntKind.u64.wrap (dg A k:Int)-(c:Int))-IntKind.u64.wrap (dg B k:Int))=d at*
   rw[g1]
   refine q0J k rfl rfl rfl rfl rfl hlt (gg rfl (q2a r k v rfl rfl (Nat.zero_add _) rfl rfl (Nat.zero_le _) (by omega) ?_))
   refine gg rfl (q1d d.toNat 63 rfl rfl g2 rfl (by decide) ?_)
   rw[g3]
   exact gg rfl (q04 (next v c' g4 g5 g6 (q03 rfl ⟨q05 q0u _,trivial⟩ (by simp[nat,q00,w1]))))
  rw[q07]at h3
  have h0:dg B k=0:=q85 (by omega)
  refine gg rfl ?_
  obtain⟨v,c',g1,g2,g3,g4,g5,g6⟩:=body (IntKind.u64.wrap (IntKind.u64.wrap (dg A k:Int)-(c:Int))) (by simp only[q0Y];omega)
  generalize IntKind.u64.wrap (IntKind.u64.wrap (dg A k:Int)-(c:Int))=d at*
  rw[g1]
  refine q0J k rfl rfl rfl rfl rfl hlt (gg rfl (q2a r k v rfl rfl (Nat.zero_add _) rfl rfl (Nat.zero_le _) (by omega) ?_))
  refine gg rfl (q1d d.toNat 63 rfl rfl g2 rfl (by decide) ?_)
  rw[g3]
  exact gg rfl (q04 (next v c' g4 g5 g6 (q03 rfl ⟨q05 q0u _,trivial⟩ (by simp[nat,q00,w1]))))
 rw[q07]at h2
 obtain rfl:k=A.length:=by omega
 rw[List.take_length,List.take_of_length_le (l:=r) (by omega)]at hinv
 refine gg rfl (q04 (gg rfl ?_))
 have hp:=q2U r (by omega)
 have hlen:=hlen hle
 rw[List.take_of_length_le (by omega)]at hinv
 have hv:val r=val a-val b:=by
  have h1:=q3d hro
  rw[hr]at h1
  have hc0:c=0∨c=1:=by omega
  rcases hc0 with rfl|rfl
  ·omega
  omega
 rw[hv]at hp
 refine q2s rfl rfl ⟨q42 (l:=r) hr.symm,trivial⟩ (by rw[q4o (l:=r) hr.symm];exact hp) fun z=>?_
 exact gg rfl (q09 rfl rfl rfl trivial rfl)
end Go.F

namespace Go.F
attribute [local irreducible] IntKind.wrap wpM
theorem q8a (n:Nat):List.replicate n (D.int IntKind.u32 0)=(List.replicate n 0).map u32:=by
 simp[u32]
theorem qbz {x y:Nat}(hx:x<4294967296)(hy:y<4294967296):x*y≤18446744065119617025:=by
 calc x*y≤4294967295*4294967295:=Nat.mul_le_mul (by omega) (by omega)
  _=18446744065119617025:=by decide
set_option maxHeartbeats 4000000 in
theorem qqt (a b:List Nat) [ha:LOk a] [hb:LOk b](hla:a.length≤1000000000)(hlb:b.length≤1000000000):PU qs3 [nat a,nat b]=some (nat (q0f (val a*val b))):=by
 have ea:val (q0f (val a))=val a:=q0o _
 have eb:val (q0f (val b))=val b:=q0o _
 have hla':=q1R ha
 have hlb':=q1R hb
 refine q0g (fn:=qgu) rfl (q0a ?_)
 refine gg rfl (q02 rfl rfl (q2U a (by omega)) ?_)
 refine gg rfl (q02 rfl rfl (q2U b (by omega)) ?_)
 refine gg rfl ?_
 have hAo:LOk (q0f (val a)):=q0D _
 have hBo:LOk (q0f (val b)):=q0D _
 generalize q0f (val a)=A at*
 generalize q0f (val b)=B at*
 have w0:IntKind.i64.wrap (((A.map u32).length:Int)+((B.map u32).length:Int))=((A.length+B.length:Nat):Int):=by rw[List.length_map,List.length_map,wrap64 (by omega) (by omega)];omega
 rw[w0]
 refine q48 (A.length+B.length) rfl rfl rfl (by simp[q0N];omega) ?_
 rw[q8a]
 refine gg rfl ?_
 refine q0l (S:=fun x:Nat×List Nat=>([nat B,.ref 1 0 (A.length+B.length),nat A,q00 A.length,q00 x.1],[none,some (.row (x.2.map u32) 1),none,none,none],[0,0,0,0,0]))
  (C:=fun x=>x.1≤A.length∧x.2.length=A.length+B.length∧LOk x.2∧val x.2=val (A.take x.1) *val B∧∀j,x.1+B.length≤j→dg x.2 j=0) (m:=fun x=>A.length-x.1) (0,List.replicate (A.length+B.length) 0)
  ⟨Nat.zero_le _,by simp,q5y _,by simp[val,qbx],fun j _=>q7G _ _⟩ (by simp;omega) ?_ ?_
 ·exact q03 rfl ⟨q05 q0u _,trivial⟩ (by simp[nat,q00])
 rintro⟨k,r⟩ ⟨hk,hr,hro,hinv,hz⟩ N hN
 simp only at hk hr hro hinv hz
 refine gg rfl (q01 rfl (fun h2=>?_) (fun h2=>?_))
 ·rw[q06]at h2
  have hlt:k<A.length:=by omega
  have hx:=q1q hAo k
  have w1:=wS (n:=k)
  refine gg rfl (q0j k rfl rfl rfl (q2P hlt) rfl (gg rfl ?_))
  refine q0l (S:=fun x:Nat×List Nat×Nat=>([nat B,.ref 1 0 (A.length+B.length),q00 k,u32 (dg A k),.int .u64 x.2.2,nat A,q00 A.length,q00 k,nat B,q00 B.length,q00 x.1],[none,some (.row (x.2.1.map u32) 1),none,none,none,none,none,none,none,none,none],[0,0,0,0,0,0,0,0,0,0,0]))
   (C:=fun x=>x.1≤B.length∧x.2.1.length=A.length+B.length∧LOk x.2.1∧x.2.2<4294967296∧val x.2.1+4294967296^(k+x.1) *x.2.2=val r+4294967296^k*(dg A k*val (B.take x.1))∧∀j,k+x.1≤j→dg x.2.1 j=dg r j) (m:=fun x=>B.length-x.1) (0,r,0)
   ⟨Nat.zero_le _,hr,hro,by simp,by simp[val],fun j _=>rfl⟩ (by simp;omega) ?_ ?_
  ·exact q03 rfl ⟨q05 q0u _,trivial⟩ (by simp[nat,q00,u32])
  rintro⟨i,r',c⟩ ⟨hi,hr',hro',hc,hinv',hz'⟩ N2 hN2
  simp only at hi hr' hro' hc hinv' hz'
  refine gg rfl (q01 rfl (fun h3=>?_) (fun h3=>?_))
  ·rw[q06]at h3
   have hil:i<B.length:=by omega
   have hy:=q1q hBo i
   have hq:=q1q hro' (k+i)
   have hxy:=qbz hx hy
   have wi:=wS (n:=i)
   have wki:IntKind.i64.wrap ((k:Int)+i)=((k+i:Nat):Int):=by rw[wrap64 (by omega) (by omega)];omega
   refine gg rfl (q0j i rfl rfl rfl (q2P hil) rfl (gg rfl (q0J (k+i) rfl rfl rfl rfl wki (by omega) ?_)))
   refine gg rfl (q4I r' (k+i) rfl (Nat.zero_add _) rfl (by omega) ?_)
   refine gg rfl ?_
   have e1:((dg A k*dg B i:Nat):Int)=(dg A k:Int) *(dg B i:Int):=by simp
   have e:IntKind.u64.wrap ((c:Int)+IntKind.u64.wrap (IntKind.u64.wrap (IntKind.u64.wrap (dg A k:Int) *IntKind.u64.wrap (dg B i:Int))+IntKind.u64.wrap (dg r' (k+i):Int)))=((c+(dg A k*dg B i+dg r' (k+i)):Nat):Int):=by
    rw[q0F (n:=dg A k) (by omega),q0F (n:=dg B i) (by omega),q0F (n:=dg r' (k+i)) (by omega),←e1,q0F (n:=dg A k*dg B i) (by omega)]
    simp only[q0Y];omega
   rw[e,q19]
   refine q0J (k+i) rfl rfl rfl rfl wki (by omega) ?_
   refine gg rfl (q2a r' (k+i) ((c+(dg A k*dg B i+dg r' (k+i)))%4294967296) rfl rfl (Nat.zero_add _) rfl rfl (Nat.zero_le _) (by omega) ?_)
   refine gg rfl (q1d (c+(dg A k*dg B i+dg r' (k+i))) 32 rfl rfl rfl rfl (by decide) ?_)
   refine gg rfl (q04 (hN2 (i+1,r'.set (k+i) ((c+(dg A k*dg B i+dg r' (k+i)))%4294967296),(c+(dg A k*dg B i+dg r' (k+i)))/2^32) ⟨hil,by simp[hr'],hro'.set _ (by omega),by simp only;omega,?_,?_⟩ (by simp only;omega) (q03 rfl ⟨q05 q0u _,trivial⟩ (by simp[nat,q00,wi,u32]))))
   ·simp only
    have hs:=qji (l:=r') (i:=k+i) (v:=(c+(dg A k*dg B i+dg r' (k+i)))%4294967296) (by omega)
    have hcar:=q4H (4294967296^(k+i)) (c+(dg A k*dg B i+dg r' (k+i)))
    rw[show(2:Nat)^32=4294967296 by decide,q0V,show k+(i+1)=(k+i)+1 from rfl,Nat.pow_succ,Nat.mul_add (dg A k),Nat.mul_add (4294967296^k)]
    rw[Nat.mul_add (4294967296^(k+i)) c,Nat.mul_add (4294967296^(k+i)) (dg A k*dg B i)]at hcar
    have e5:4294967296^k*(dg A k*(4294967296^i*dg B i))=4294967296^(k+i) *(dg A k*dg B i):=by
     rw[Nat.pow_add,Nat.mul_left_comm (dg A k),←Nat.mul_assoc]
    rw[e5]
    omega
   intro j hj
   simp only at hj⊢
   rw[q3u,if_neg (by omega)]
   exact hz' j (by omega)
  rw[q07]at h3
  obtain rfl:i=B.length:=by omega
  rw[List.take_length]at hinv'
  have wkb:IntKind.i64.wrap ((k:Int)+(B.map u32).length)=((k+B.length:Nat):Int):=by rw[List.length_map,wrap64 (by omega) (by omega)];omega
  have ec:IntKind.u32.wrap (c:Int)=(c:Int):=by rw[q19];omega
  refine gg rfl (q04 (gg rfl ?_))
  rw[ec]
  refine q0J (k+B.length) rfl rfl rfl rfl wkb (by omega) ?_
  refine gg rfl (q2a r' (k+B.length) c rfl rfl (Nat.zero_add _) rfl rfl (Nat.zero_le _) (by omega) ?_)
  refine gg rfl (q04 ?_)
  have hd0:dg r' (k+B.length)=0:=by rw[hz' _ (Nat.le_refl _)];exact hz _ (Nat.le_refl _)
  have hs:=qji (l:=r') (i:=k+B.length) (v:=c) (by omega)
  rw[hd0,Nat.mul_zero,Nat.add_zero]at hs
  refine hN (k+1,r'.set (k+B.length) c) ⟨hlt,by simp[hr'],hro'.set _ hc,?_,?_⟩ (by simp only;omega) (q03 rfl ⟨q05 q0u _,trivial⟩ (by simp[nat,q00,w1]))
  ·simp only
   rw[hs,hinv',hinv,q0V,Nat.add_mul,Nat.mul_assoc]
  intro j hj
  simp only at hj⊢
  rw[q3u,if_neg (by omega),hz' j (by omega)]
  exact hz j (by omega)
 rw[q07]at h2
 obtain rfl:k=A.length:=by omega
 rw[List.take_length]at hinv
 refine gg rfl (q04 (gg rfl ?_))
 have hp:=q2U r (by omega)
 rw[hinv,ea,eb]at hp
 refine q2s rfl rfl ⟨q42 (l:=r) hr.symm,trivial⟩ (by rw[q4o (l:=r) hr.symm];exact hp) fun z=>?_
 exact gg rfl (q09 rfl rfl rfl trivial rfl)
end Go.F

namespace Go.F
attribute [local irreducible] IntKind.wrap wpM
section
variable {T:Tab}{sh:Shr}{nx0:Nat}{s:List Fr}{t:q0z}{h:q0e}{z:Frz}{nx:Nat}{q:Ex→q0z→q0e→Frz→Nat→Prop}
variable {base i:Nat}{res:List Nat}{dst:Nat}{g:Gd}{rest:List KOper}
theorem q3e {e:EqK}{x y:X}{kk:IntKind}{a b:Int}(n m:Nat)(hx:x.ev t=.int kk a)(hy:y.ev t=.int kk b)(ha:a=n)(hb:b=m)(hm:m≠0)(hw:kk.wrap ((n/m:Nat):Int)=((n/m:Nat):Int))
 (hk:wpM T sh nx0 (.ops base res rest::s) .normal (upd t dst (.int kk ((n/m:Nat):Int))) h z nx q):
 wpM T sh nx0 (.ops base res (⟨i,some dst,none,g,.bin .quo e x y⟩::rest)::s) .normal t h z nx q:=by
 subst ha;subst hb
 refine qfg hx hy (by omega) ?_
 have e:((n:Int)).tdiv m=((n/m:Nat):Int):=by rw[Int.tdiv_eq_ediv_of_nonneg (by omega)];rfl
 rw[e,hw]
 exact hk
theorem q5g {e:EqK}{x y:X}{kk:IntKind}{a b:Int}(n m:Nat)(hx:x.ev t=.int kk a)(hy:y.ev t=.int kk b)(ha:a=n)(hb:b=m)(hm:m≠0)
 (hk:wpM T sh nx0 (.ops base res rest::s) .normal (upd t dst (.int kk ((n%m:Nat):Int))) h z nx q):
 wpM T sh nx0 (.ops base res (⟨i,some dst,none,g,.bin .rem e x y⟩::rest)::s) .normal t h z nx q:=by
 subst ha;subst hb
 refine q2K hx hy (by omega) ?_
 have e:((n:Int)).tmod m=((n%m:Nat):Int):=by rw[Int.tmod_eq_emod_of_nonneg (by omega)];rfl
 rw[e]
 exact hk
end
theorem q8m (w n:Nat):BitVec.ofInt w (n:Int)=BitVec.ofNat w n:=by simp
theorem qCI {a b:Nat}(ha:a<4294967296)(hb:b<4294967296):IntKind.u64.wrap ((BitVec.ofInt IntKind.u64.bits ((a*2^32:Nat):Int) |||BitVec.ofInt IntKind.u64.bits (b:Int)).toNat:Int)=((a*4294967296+b:Nat):Int):=by
 rw[q8m,q8m,BitVec.toNat_or,BitVec.toNat_ofNat,BitVec.toNat_ofNat]
 have e:IntKind.u64.bits=64:=rfl
 rw[e,Nat.mod_eq_of_lt (by omega),Nat.mod_eq_of_lt (by omega),Nat.mul_comm a,←Nat.two_pow_add_eq_or_of_lt (by omega),q0F (by omega)]
theorem orU64' {a b:Nat}(ha:a<4294967296)(hb:b<4294967296):IntKind.u64.wrap ((BitVec.ofInt IntKind.u64.bits (b:Int) |||BitVec.ofInt IntKind.u64.bits ((a*2^32:Nat):Int)).toNat:Int)=((a*4294967296+b:Nat):Int):=by
 rw[BitVec.or_comm];exact qCI ha hb
set_option maxHeartbeats 2000000 in
theorem qH4 (a:List Nat)(d:Nat) [ha:LOk a](hla:a.length≤1000000000)(hd0:d≠0)(hd:d<4294967296):PU qnB [nat a,.int .u32 d]=some (.tup [nat (q0f (val a/d)),.int .u32 (val a%d:Nat)]):=by
 refine q0g (fn:=qcZ) rfl (q0a ?_)
 refine gg rfl (q48 a.length rfl rfl (by simp) (by simp[q0N];omega) ?_)
 rw[q8a]
 refine gg rfl ?_
 refine q0l (S:=fun x:Nat×List Nat×Nat=>([nat a,.int .u32 d,.ref 2 0 a.length,.int .u64 x.2.2,q00 ((x.1:Int)-1)],[none,none,some (.row (x.2.1.map u32) 1),none,none],[0,0,0,0,0]))
  (C:=fun x=>x.1≤a.length∧x.2.1.length=a.length∧LOk x.2.1∧x.2.2<d∧val (a.drop x.1)=val (x.2.1.drop x.1) *d+x.2.2) (m:=fun x=>x.1) (a.length,List.replicate a.length 0,0)
  ⟨Nat.le_refl _,by simp,q5y _,Nat.pos_of_ne_zero hd0,by simp[val]⟩ (by simp;omega) ?_ ?_
 ·refine q03 rfl ⟨q05 q0u _,trivial⟩ ?_
  have w:=ww (x:=(a.length:Int)-1)
  simp[nat,q00,w]
 rintro⟨n,q,r⟩ ⟨hn,hq,hqo,hr,hinv⟩ N hN
 simp only at hn hq hqo hr hinv
 refine gg rfl (q01 rfl (fun h2=>?_) (fun h2=>?_))
 ·rw[q0G]at h2
  simp only at h2
  have hx:=q1q ha (n-1)
  have hw:IntKind.u64.wrap (dg a (n-1):Int)=(dg a (n-1):Int):=q0F (by omega)
  have hwd:IntKind.u64.wrap (d:Int)=(d:Int):=q0F (by omega)
  have w2:IntKind.i64.wrap ((n:Int)-1-1)=((n-1:Nat):Int)-1:=by rw[wrap64 (by omega) (by omega)];omega
  have htd:(r*4294967296+dg a (n-1))/d<4294967296:=by
   rw[Nat.div_lt_iff_lt_mul (by omega)]
   calc r*4294967296+dg a (n-1)<(r+1) *4294967296:=by omega
    _≤d*4294967296:=Nat.mul_le_mul_right _ hr
    _=4294967296*d:=Nat.mul_comm _ _
  have htm:(r*4294967296+dg a (n-1))%d<d:=Nat.mod_lt _ (by omega)
  refine gg rfl (q7a r 32 rfl rfl rfl rfl (by decide) (q0F (by omega)) ?_)
  refine gg rfl (q0j (n-1) rfl rfl (by omega) (q2P (by omega)) rfl ?_)
  refine gg rfl ?_
  rw[hw,qCI (by omega) hx]
  refine gg rfl ?_
  rw[hwd]
  refine q3e (r*4294967296+dg a (n-1)) d rfl rfl rfl rfl hd0 (q0F (by omega)) ?_
  refine gg rfl ?_
  rw[q19,Nat.mod_eq_of_lt htd]
  refine q0J (n-1) rfl rfl rfl rfl (by omega) (by omega) ?_
  refine gg rfl (q2a q (n-1) ((r*4294967296+dg a (n-1))/d) rfl rfl (Nat.zero_add _) rfl rfl (Nat.zero_le _) (by omega) ?_)
  refine gg rfl ?_
  rw[hwd]
  refine q5g (r*4294967296+dg a (n-1)) d rfl rfl rfl rfl hd0 (gg rfl (q04 (hN (n-1,q.set (n-1) ((r*4294967296+dg a (n-1))/d),(r*4294967296+dg a (n-1))%d) ⟨by simp only;omega,by simp[hq],hqo.set _ htd,htm,?_⟩ (by simp only;omega) (q03 rfl ⟨q05 q0u _,trivial⟩ (by simp[nat,q00,w2])))))
  simp only
  rw[q37,q37 (q.set _ _),q3u,if_pos ⟨rfl,by omega⟩,Nat.sub_add_cancel (by omega),List.drop_set_of_lt (by omega),hinv]
  have hdm:=Nat.div_add_mod (r*4294967296+dg a (n-1)) d
  rw[Nat.add_mul,Nat.mul_assoc 4294967296,Nat.mul_comm ((r*4294967296+dg a (n-1))/d) d]
  omega
 rw[q0I]at h2
 simp only at h2
 obtain rfl:n=0:=by omega
 simp only[List.drop_zero]at hinv
 refine gg rfl (q04 (gg rfl ?_))
 have hp:=q2U q (by omega)
 have hv1:val q=val a/d:=by rw[hinv,Nat.add_comm,Nat.add_mul_div_right _ _ (by omega),Nat.div_eq_of_lt hr,Nat.zero_add]
 have hv2:val a%d=r:=by rw[hinv,Nat.add_comm,Nat.add_mul_mod_self_right,Nat.mod_eq_of_lt hr]
 rw[hv1]at hp
 refine q2s rfl rfl ⟨q42 (l:=q) hq.symm,trivial⟩ (by rw[q4o (l:=q) hq.symm];exact hp) fun z=>?_
 refine gg rfl (q09 rfl rfl rfl trivial ?_)
 have e:IntKind.u32.wrap (r:Int)=(r:Int):=by rw[q19];omega
 rw[e,hv2]
 rfl
theorem qEl {l:List Nat}{V:Nat}(h:∀j,j<l.length→dg l j=V/4294967296^j%4294967296):val l=V%4294967296^l.length:=by
 have key:∀k,k≤l.length→val (l.take k)=V%4294967296^k:=by
  intro k
  induction k with
  |zero=>intro _;simp[val,Nat.mod_one]
  |succ k ih=>intro hk;rw[q0V,ih (by omega),h k hk,Nat.mod_pow_succ]
 have:=key l.length (Nat.le_refl _)
 rwa[List.take_length]at this
theorem qH5 {a:List Nat}(ha:LOk a){s:Nat}(hs:s≤31)(i:Nat):(dg a (i+1) *4294967296+dg a i)/2^s%4294967296=val a/2^s/4294967296^i%4294967296:=by
 have h1:val a/4294967296^i=dg a i+4294967296*(dg a (i+1)+4294967296*val (a.drop (i+2))):=by
  rw[←q37 a (i+1),←q37 a i]
  have:=q31 a i
  have h2:val (a.take i)<4294967296^i∨a.length≤i:=by
   by_cases hl:i≤a.length
   ·left
    have:=q3d (ha.take i)
    rwa[List.length_take,Nat.min_eq_left hl]at this
   right;omega
  rcases h2 with h2|h2
  ·rw[this,Nat.add_mul_div_left _ _ (Nat.pow_pos (by decide)),Nat.div_eq_of_lt h2,Nat.zero_add]
  rw[List.drop_of_length_le h2,Nat.div_eq_of_lt]
  ·rfl
  exact Nat.lt_of_lt_of_le (q3d ha) (Nat.pow_le_pow_right (by decide) h2)
 rw[Nat.div_div_eq_div_mul,Nat.mul_comm (2^s),←Nat.div_div_eq_div_mul,h1]
 generalize val (a.drop (i+2))=R
 have e:(18446744073709551616:Nat)=2^s*(4294967296*2^(32-s)):=by
  rw[Nat.mul_left_comm,←Nat.pow_add,show s+(32-s)=32 by omega]
 have e2:dg a i+4294967296*(dg a (i+1)+4294967296*R)=(dg a (i+1) *4294967296+dg a i)+2^s*(4294967296*2^(32-s) *R):=by
  rw[←Nat.mul_assoc (2^s),←e];omega
 rw[e2,Nat.add_mul_div_left _ _ (Nat.two_pow_pos s),Nat.mul_assoc,Nat.add_mul_mod_self_left]
set_option maxHeartbeats 2000000 in
theorem qkE (a:List Nat)(s:Nat) [ha:LOk a](hla:a.length≤1000000000)(hs:s≤31):PU qnC [nat a,.int .i64 s]=some (nat (q0f (val a/2^s))):=by
 refine q0g (fn:=qd1) rfl (q0a ?_)
 refine gg rfl (q48 a.length rfl rfl (by simp) (by simp[q0N];omega) ?_)
 rw[q8a]
 refine gg rfl ?_
 refine q0l (S:=fun x:Nat×List Nat=>([nat a,q00 s,.ref 2 0 a.length,nat a,q00 a.length,q00 x.1],[none,none,some (.row (x.2.map u32) 1),none,none,none],[0,0,0,0,0,0]))
  (C:=fun x=>x.1≤a.length∧x.2.length=a.length∧LOk x.2∧∀j,j<x.1→dg x.2 j=val a/2^s/4294967296^j%4294967296) (m:=fun x=>a.length-x.1) (0,List.replicate a.length 0)
  ⟨Nat.zero_le _,by simp,q5y _,fun j hj=>by simp at hj⟩ (by simp;omega) ?_ ?_
 ·exact q03 rfl ⟨q05 q0u _,trivial⟩ (by simp[nat,q00])
 rintro⟨k,r⟩ ⟨hk,hr,hro,hinv⟩ N hN
 simp only at hk hr hro hinv
 refine gg rfl (q01 rfl (fun h2=>?_) (fun h2=>?_))
 ·rw[q06]at h2
  have hlt:k<a.length:=by omega
  have hx:=q1q ha k
  have hy:=q1q ha (k+1)
  have hw:IntKind.u64.wrap (dg a k:Int)=(dg a k:Int):=q0F (by omega)
  have hwy:IntKind.u64.wrap (dg a (k+1):Int)=(dg a (k+1):Int):=q0F (by omega)
  have w1:=wS (n:=k)
  refine gg rfl (q0j k rfl rfl rfl (q2P hlt) rfl (gg rfl ?_))
  rw[List.length_map,hw]
  refine q01 rfl (fun h3=>?_) (fun h3=>?_)
  ·rw[q06,w1]at h3
   refine gg rfl (q0j (k+1) rfl rfl w1 (q2P (by omega)) rfl ?_)
   refine gg rfl ?_
   rw[hwy]
   refine q7a (dg a (k+1)) 32 rfl rfl rfl rfl (by decide) (q0F (by omega)) ?_
   refine gg rfl ?_
   rw[orU64' hy hx]
   refine gg rfl (q1d (dg a (k+1) *4294967296+dg a k) s rfl rfl rfl rfl (by show s≤64;omega) ?_)
   refine gg rfl ?_
   rw[q19]
   refine q0J k rfl rfl rfl rfl rfl hlt (gg rfl (q2a r k ((dg a (k+1) *4294967296+dg a k)/2^s%4294967296) rfl rfl (Nat.zero_add _) rfl rfl (Nat.zero_le _) (by omega) ?_))
   refine gg rfl (q04 (hN (k+1,r.set k ((dg a (k+1) *4294967296+dg a k)/2^s%4294967296)) ⟨hlt,by simp[hr],hro.set _ (Nat.mod_lt _ (by decide)),?_⟩ (by simp only;omega) (q03 rfl ⟨q05 q0u _,trivial⟩ (by simp[nat,q00,w1]))))
   intro j hj
   simp only at hj⊢
   rw[q3u]
   by_cases hjk:k=j
   ·subst hjk
    rw[if_pos ⟨rfl,by omega⟩]
    rw[←qH5 ha hs]
    try rw[q85 (l:=a) (i:=k+1) (by omega),Nat.zero_mul,Nat.zero_add]
   rw[if_neg (by omega)]
   exact hinv j (by omega)
  rw[q07,w1]at h3
  refine gg rfl (q1d (dg a k) s rfl rfl rfl rfl (by show s≤64;omega) ?_)
  refine gg rfl ?_
  rw[q19]
  refine q0J k rfl rfl rfl rfl rfl hlt (gg rfl (q2a r k ((dg a k)/2^s%4294967296) rfl rfl (Nat.zero_add _) rfl rfl (Nat.zero_le _) (by omega) ?_))
  refine gg rfl (q04 (hN (k+1,r.set k ((dg a k)/2^s%4294967296)) ⟨hlt,by simp[hr],hro.set _ (Nat.mod_lt _ (by decide)),?_⟩ (by simp only;omega) (q03 rfl ⟨q05 q0u _,trivial⟩ (by simp[nat,q00,w1]))))
  intro j hj
  simp only at hj⊢
  rw[q3u]
  by_cases hjk:k=j
  ·subst hjk
   rw[if_pos ⟨rfl,by omega⟩]
   rw[←qH5 ha hs]
   try rw[q85 (l:=a) (i:=k+1) (by omega),Nat.zero_mul,Nat.zero_add]
  rw[if_neg (by omega)]
  exact hinv j (by omega)
 rw[q07]at h2
 simp only at h2
 obtain rfl:k=a.length:=by omega
 refine gg rfl (q04 (gg rfl ?_))
 have hp:=q2U r (by omega)
 have hv:val r=val a/2^s:=by
  rw[qEl (fun j hj=>hinv j (by omega)),hr,Nat.mod_eq_of_lt]
  exact Nat.lt_of_le_of_lt (Nat.div_le_self _ _) (q3d ha)
 rw[hv]at hp
 refine q2s rfl rfl ⟨q42 (l:=r) hr.symm,trivial⟩ (by rw[q4o (l:=r) hr.symm];exact hp) fun z=>?_
 exact gg rfl (q09 rfl rfl rfl trivial rfl)
end Go.F

namespace Go.F
attribute [local irreducible] IntKind.wrap wpM
section
variable {T:Tab}{sh:Shr}{nx0:Nat}{s:List Fr}{t:q0z}{h:q0e}{z:Frz}{nx:Nat}{q:Ex→q0z→q0e→Frz→Nat→Prop}
theorem qds {fn:KFn}{ex:Ex}{d:D}{K:D→q0e→Frz→Nat→Prop}(hex:(match ex with|.exit _=>false|_=>true)=true)(hd:dres t h fn.res=some d)(hk:K d h z nx):
 wpM T sh nx0 [] ex t h z nx (qdr fn K):=by
 refine q04 ?_
 cases ex with
 |exit i=>cases hex
 |normal=>exact q79 hd hk
 |ret=>exact q79 hd hk
end
theorem q9k {nx0:Nat}{h:q0e}{id:Nat}{l:List Nat}(hh:h id=some (.row (l.map u32) 1)):q1h nx0 h id=some (.row (l.map u32) 1):=by
 unfold q1h
 rw[hh,q7z (b:=some (.row (l.map u32) 1)) (q05 q0u _)]
 rfl
theorem orU32 {c x s:Nat}(hs:s≤31)(hc:c<2^s):IntKind.u32.wrap ((BitVec.ofInt IntKind.u32.bits (c:Int) |||BitVec.ofInt IntKind.u32.bits ((x*2^s%4294967296:Nat):Int)).toNat:Int)=((c+x*2^s%4294967296:Nat):Int)
 ∧c+x*2^s%4294967296<4294967296:=by
 have e:(4294967296:Nat)=2^s*2^(32-s):=by rw[←Nat.pow_add,show s+(32-s)=32 by omega]
 have em:x*2^s%4294967296=2^s*(x%2^(32-s)):=by rw[e,Nat.mul_comm x,Nat.mul_mod_mul_left]
 have hx:x%2^(32-s)+1≤2^(32-s):=Nat.mod_lt _ (Nat.two_pow_pos _)
 have hlt:c+x*2^s%4294967296<4294967296:=by
  have:=Nat.mul_le_mul_left (2^s) hx
  rw[←e,Nat.mul_add]at this
  omega
 refine⟨?_,hlt⟩
 have hsp:2^s≤2^31:=Nat.pow_le_pow_right (by decide) hs
 rw[q8m,q8m,BitVec.or_comm,BitVec.toNat_or,BitVec.toNat_ofNat,BitVec.toNat_ofNat]
 have eb:IntKind.u32.bits=32:=rfl
 rw[eb,Nat.mod_eq_of_lt (show x*2^s%4294967296<2^32 by omega),Nat.mod_eq_of_lt (show c<2^32 by omega),em,←Nat.two_pow_add_eq_or_of_lt hc,←em,q19,Nat.mod_eq_of_lt (by omega),Nat.add_comm]
set_option maxHeartbeats 2000000 in
theorem left1 (a:List Nat)(s:Nat) [ha:LOk a](hla:a.length≤1000000000)(hs:s≤31){h:q0e}{z:Frz}{K:D→q0e→Frz→Nat→Prop}(hold:(fun(_:q0e) (_:Frz)=>True) h z)
 (hk:∀(r:List Nat) (h':q0e) (z':Frz),r.length=a.length+1→LOk r→val r=val a*2^s→h' 80=some (.row (r.map u32) 1)→z' 80=0→(fun(_:q0e) (_:Frz)=>True) h' z'→K (.ref 80 0 (a.length+1)) h' z' 130):
 wpM TT (shr TT 5) 79 [.code k_natural_left.code] .normal (enter [nat a,.int .i64 s]) h z 79 (qdr k_natural_left K):=by
 have h2s:2^s≤2147483648:=by simpa using Nat.pow_le_pow_right (n:=2) (by decide) hs
 refine gg rfl ?_
 have w0:IntKind.i64.wrap (((a.map u32).length:Int)+1)=((a.length+1:Nat):Int):=by rw[List.length_map,wrap64 (by omega) (by omega)];omega
 rw[w0]
 refine q48 (a.length+1) rfl rfl rfl (by simp[q0N];omega) ?_
 rw[q8a]
 refine gg rfl ?_
 refine q2X (S:=fun x:Nat×List Nat=>([q00 s,.ref 80 0 (a.length+1),nat a,q00 a.length,q00 x.1],[none,some (.row (x.2.map u32) 1),none,none,none],[0,0,0,0,0]))
  (O:=fun _ ho zo=>(fun(_:q0e) (_:Frz)=>True) ho zo)
  (C:=fun x=>x.1≤a.length∧x.2.length=a.length+1∧LOk x.2∧dg x.2 x.1<2^s∧val (x.2.take x.1)+4294967296^x.1*dg x.2 x.1=val (a.take x.1) *2^s∧∀j,x.1<j→dg x.2 j=0) (m:=fun x=>a.length-x.1) (0,List.replicate (a.length+1) 0)
  ⟨Nat.zero_le _,by simp,q5y _,by simp only[q7G];exact Nat.two_pow_pos s,by simp[val,q7G],fun j _=>q7G _ _⟩ (by simp;omega) ?_ ?_
 ·exact q24 rfl ⟨q05 q0u _,trivial⟩ ⟨by simp[nat,q00],trivial⟩
 rintro⟨k,r⟩ ⟨hk',hr,hro,hc,hinv,hz⟩ ho zo hold N hN
 simp only at hk' hr hro hc hinv hz
 refine gg rfl (q01 rfl (fun h2=>?_) (fun h2=>?_))
 ·rw[q06]at h2
  simp only at h2
  have hlt:k<a.length:=by omega
  have hx:=q1q ha k
  have hw:IntKind.u64.wrap (dg a k:Int)=(dg a k:Int):=q0F (by omega)
  have w1:=wS (n:=k)
  have hxs:dg a k*2^s≤4294967295*2147483648:=Nat.mul_le_mul (by omega) h2s
  obtain⟨ho1,ho2⟩:=orU32 (x:=dg a k) hs hc
  have htop:dg a k*2^s/2^32<2^s:=by
   rw[Nat.div_lt_iff_lt_mul (by decide),Nat.mul_comm];exact Nat.mul_lt_mul_of_pos_left (by omega) (Nat.two_pow_pos s)
  refine gg rfl (q0j k rfl rfl rfl (q2P hlt) rfl (gg rfl ?_))
  rw[hw]
  refine q7a (dg a k) s rfl rfl rfl rfl (by show s≤64;omega) (q0F (by omega)) ?_
  refine gg rfl (q0J k rfl rfl rfl rfl rfl (by omega) ?_)
  refine gg rfl (q4I r k rfl (Nat.zero_add _) rfl (by omega) ?_)
  refine gg rfl ?_
  rw[q19,ho1]
  refine q0J k rfl rfl rfl rfl rfl (by omega) ?_
  refine gg rfl (q2a r k (dg r k+dg a k*2^s%4294967296) rfl rfl (Nat.zero_add _) rfl rfl (Nat.zero_le _) (by omega) ?_)
  refine gg rfl (q1d (dg a k*2^s) 32 rfl rfl rfl rfl (by decide) ?_)
  have e3:IntKind.u32.wrap ((dg a k*2^s/2^32:Nat):Int)=((dg a k*2^s/2^32:Nat):Int):=by rw[q19];omega
  refine gg rfl ?_
  rw[e3]
  refine q0J (k+1) rfl rfl rfl rfl w1 (by omega) ?_
  refine gg rfl (q2a (r.set k (dg r k+dg a k*2^s%4294967296)) (k+1) (dg a k*2^s/2^32) rfl rfl (Nat.zero_add _) rfl rfl (Nat.zero_le _) (by simp;omega) ?_)
  refine gg rfl (q04 ?_)
  refine hN (k+1,(r.set k (dg r k+dg a k*2^s%4294967296)).set (k+1) (dg a k*2^s/2^32)) ⟨hlt,by simp[hr],(hro.set _ ho2).set _ (by omega),?_,?_,?_⟩ (by simp only;omega)
   (q24 rfl ⟨q05 q0u _,trivial⟩ ⟨by simp[nat,q00,w1],trivial⟩)
  ·simp only
   rw[q3u,if_pos ⟨rfl,by simp;omega⟩];exact htop
  ·simp only
   rw[q3u,if_pos ⟨rfl,by simp;omega⟩,List.take_set_of_le (Nat.le_refl _),q2V (by omega),q0V a,Nat.add_mul,←hinv,show(2:Nat)^32=4294967296 by decide,Nat.pow_succ,Nat.add_assoc,Nat.mul_add,Nat.add_assoc,q4H,Nat.mul_assoc,Nat.add_assoc]
  intro j hj
  simp only at hj⊢
  rw[q3u,if_neg (by omega),q3u,if_neg (by omega)]
  exact hz j (by omega)
 rw[q07]at h2
 simp only at h2
 obtain rfl:k=a.length:=by omega
 rw[List.take_length]at hinv
 refine gg rfl (q04 (gg rfl (qds rfl rfl (hk r _ _ hr hro ?_ rfl rfl (trivial)))))
 rw[←hinv,←List.take_of_length_le (l:=r) (i:=a.length+1) (by omega),q0V]
 rw[List.take_of_length_le (l:=r) (i:=a.length+1) (by omega)]
set_option maxHeartbeats 2000000 in
theorem left2 (a:List Nat)(s:Nat) [ha:LOk a](hla:a.length≤1000000000)(hs:s≤31)(us:List Nat){h:q0e}{z:Frz}{K:D→q0e→Frz→Nat→Prop}(hold:(fun(hh:q0e) (zz:Frz)=>hh 80=some (.row (us.map u32) 1)∧zz 80=0) h z)
 (hk:∀(r:List Nat) (h':q0e) (z':Frz),r.length=a.length+1→LOk r→val r=val a*2^s→h' 131=some (.row (r.map u32) 1)→z' 131=0→(fun(hh:q0e) (zz:Frz)=>hh 80=some (.row (us.map u32) 1)∧zz 80=0) h' z'→K (.ref 131 0 (a.length+1)) h' z' 181):
 wpM TT (shr TT 5) 130 [.code k_natural_left.code] .normal (enter [nat a,.int .i64 s]) h z 130 (qdr k_natural_left K):=by
 have h2s:2^s≤2147483648:=by simpa using Nat.pow_le_pow_right (n:=2) (by decide) hs
 refine gg rfl ?_
 have w0:IntKind.i64.wrap (((a.map u32).length:Int)+1)=((a.length+1:Nat):Int):=by rw[List.length_map,wrap64 (by omega) (by omega)];omega
 rw[w0]
 refine q48 (a.length+1) rfl rfl rfl (by simp[q0N];omega) ?_
 rw[q8a]
 refine gg rfl ?_
 refine q2X (S:=fun x:Nat×List Nat=>([q00 s,.ref 131 0 (a.length+1),nat a,q00 a.length,q00 x.1],[none,some (.row (x.2.map u32) 1),none,none,none],[0,0,0,0,0]))
  (O:=fun _ ho zo=>(fun(hh:q0e) (zz:Frz)=>hh 80=some (.row (us.map u32) 1)∧zz 80=0) ho zo)
  (C:=fun x=>x.1≤a.length∧x.2.length=a.length+1∧LOk x.2∧dg x.2 x.1<2^s∧val (x.2.take x.1)+4294967296^x.1*dg x.2 x.1=val (a.take x.1) *2^s∧∀j,x.1<j→dg x.2 j=0) (m:=fun x=>a.length-x.1) (0,List.replicate (a.length+1) 0)
  ⟨Nat.zero_le _,by simp,q5y _,by simp only[q7G];exact Nat.two_pow_pos s,by simp[val,q7G],fun j _=>q7G _ _⟩ (by simp;omega) ?_ ?_
 ·exact q24 rfl ⟨q05 q0u _,trivial⟩ ⟨by simp[nat,q00],⟨q9k hold.1,hold.2⟩⟩
 rintro⟨k,r⟩ ⟨hk',hr,hro,hc,hinv,hz⟩ ho zo hold N hN
 simp only at hk' hr hro hc hinv hz
 refine gg rfl (q01 rfl (fun h2=>?_) (fun h2=>?_))
 ·rw[q06]at h2
  simp only at h2
  have hlt:k<a.length:=by omega
  have hx:=q1q ha k
  have hw:IntKind.u64.wrap (dg a k:Int)=(dg a k:Int):=q0F (by omega)
  have w1:=wS (n:=k)
  have hxs:dg a k*2^s≤4294967295*2147483648:=Nat.mul_le_mul (by omega) h2s
  obtain⟨ho1,ho2⟩:=orU32 (x:=dg a k) hs hc
  have htop:dg a k*2^s/2^32<2^s:=by
   rw[Nat.div_lt_iff_lt_mul (by decide),Nat.mul_comm];exact Nat.mul_lt_mul_of_pos_left (by omega) (Nat.two_pow_pos s)
  refine gg rfl (q0j k rfl rfl rfl (q2P hlt) rfl (gg rfl ?_))
  rw[hw]
  refine q7a (dg a k) s rfl rfl rfl rfl (by show s≤64;omega) (q0F (by omega)) ?_
  refine gg rfl (q0J k rfl rfl rfl rfl rfl (by omega) ?_)
  refine gg rfl (q4I r k rfl (Nat.zero_add _) rfl (by omega) ?_)
  refine gg rfl ?_
  rw[q19,ho1]
  refine q0J k rfl rfl rfl rfl rfl (by omega) ?_
  refine gg rfl (q2a r k (dg r k+dg a k*2^s%4294967296) rfl rfl (Nat.zero_add _) rfl rfl (Nat.zero_le _) (by omega) ?_)
  refine gg rfl (q1d (dg a k*2^s) 32 rfl rfl rfl rfl (by decide) ?_)
  have e3:IntKind.u32.wrap ((dg a k*2^s/2^32:Nat):Int)=((dg a k*2^s/2^32:Nat):Int):=by rw[q19];omega
  refine gg rfl ?_
  rw[e3]
  refine q0J (k+1) rfl rfl rfl rfl w1 (by omega) ?_
  refine gg rfl (q2a (r.set k (dg r k+dg a k*2^s%4294967296)) (k+1) (dg a k*2^s/2^32) rfl rfl (Nat.zero_add _) rfl rfl (Nat.zero_le _) (by simp;omega) ?_)
  refine gg rfl (q04 ?_)
  refine hN (k+1,(r.set k (dg r k+dg a k*2^s%4294967296)).set (k+1) (dg a k*2^s/2^32)) ⟨hlt,by simp[hr],(hro.set _ ho2).set _ (by omega),?_,?_,?_⟩ (by simp only;omega)
   (q24 rfl ⟨q05 q0u _,trivial⟩ ⟨by simp[nat,q00,w1],⟨q9k hold.1,hold.2⟩⟩)
  ·simp only
   rw[q3u,if_pos ⟨rfl,by simp;omega⟩];exact htop
  ·simp only
   rw[q3u,if_pos ⟨rfl,by simp;omega⟩,List.take_set_of_le (Nat.le_refl _),q2V (by omega),q0V a,Nat.add_mul,←hinv,show(2:Nat)^32=4294967296 by decide,Nat.pow_succ,Nat.add_assoc,Nat.mul_add,Nat.add_assoc,q4H,Nat.mul_assoc,Nat.add_assoc]
  intro j hj
  simp only at hj⊢
  rw[q3u,if_neg (by omega),q3u,if_neg (by omega)]
  exact hz j (by omega)
 rw[q07]at h2
 simp only at h2
 obtain rfl:k=a.length:=by omega
 rw[List.take_length]at hinv
 refine gg rfl (q04 (gg rfl (qds rfl rfl (hk r _ _ hr hro ?_ rfl rfl (hold)))))
 rw[←hinv,←List.take_of_length_le (l:=r) (i:=a.length+1) (by omega),q0V]
 rw[List.take_of_length_le (l:=r) (i:=a.length+1) (by omega)]
end Go.F

namespace Go.F
attribute [local irreducible] IntKind.wrap wpM
def len8:ByteArray:=⟨#[0,1,2,2,3,3,3,3,4,4,4,4,4,4,4,4,5,5,5,5,5,5,5,5,5,5,5,5,5,5,5,5,6,6,6,6,6,6,6,6,6,6,6,6,6,6,6,6,6,6,6,6,6,6,6,6,6,6,6,6,6,6,6,6,7,7,7,7,7,7,7,7,7,7,7,7,7,7,7,7,7,7,7,7,7,7,7,7,7,7,7,7,7,7,7,7,7,7,7,7,7,7,7,7,7,7,7,7,7,7,7,7,7,7,7,7,7,7,7,7,7,7,7,7,7,7,7,7,8,8,8,8,8,8,8,8,8,8,8,8,8,8,8,8,8,8,8,8,8,8,8,8,8,8,8,8,8,8,8,8,8,8,8,8,8,8,8,8,8,8,8,8,8,8,8,8,8,8,8,8,8,8,8,8,8,8,8,8,8,8,8,8,8,8,8,8,8,8,8,8,8,8,8,8,8,8,8,8,8,8,8,8,8,8,8,8,8,8,8,8,8,8,8,8,8,8,8,8,8,8,8,8,8,8,8,8,8,8,8,8,8,8,8,8,8,8,8,8,8,8,8,8,8,8,8,8]⟩
def q2H (k:Nat):UInt8:=len8.data.toList.getD k 0
set_option maxRecDepth 100000 in
theorem q2u:∀k,k<256→len8.data.toList[k]?=some (q2H k)∧(q2H k).toNat≤8∧k<2^(q2H k).toNat∧(k≠0→2^(q2H k).toNat≤2*k):=by decide+kernel
theorem q5M {k:Nat}(h:k<256):len8.toList[k]?=some (q2H k):=by
 rw[Go.ByteArray.toList_eq];exact(q2u k h).1
theorem qH6 (x:Nat)(hx:x<4294967296):∃L:Nat,PU qvs [.int .u32 x]=some (.int .i64 L)∧L≤32∧x<2^L∧(x≠0→2^L≤2*x):=by
 by_cases h1:65536≤x
 ·by_cases h2:256≤x/2^16
  ·have hy:x/2^16/2^8<256:=by omega
   obtain⟨_,g2,g3,g4⟩:=q2u (x/2^16/2^8) hy
   refine⟨24+(q2H (x/2^16/2^8)).toNat,?_,by omega,?_,fun h0=>?_⟩
   ·refine q0g (fn:=q6n) rfl (q0a ?_)
    refine gg rfl (q01 rfl (fun g=>?_) (fun g=>?_))
    ·refine gg rfl (q1d x 16 rfl rfl rfl rfl (by decide) ?_)
     refine gg rfl (q01 rfl (fun g=>?_) (fun g=>?_))
     ·refine gg rfl (q1d (x/2^16) 8 rfl rfl rfl rfl (by decide) ?_)
      have hy:(x/2^16/2^8)<256:=by omega
      obtain⟨_,g2,g3,g4⟩:=q2u ((x/2^16/2^8)) hy
      have w8:IntKind.u8.wrap (((x/2^16/2^8):Nat):Int)=(((x/2^16/2^8):Nat):Int):=by simp[IntKind.wrap,IntKind.bits,IntKind.signed];omega
      have w9:=ww (x:=(((q2H ((x/2^16/2^8))).toNat:Nat):Int))
      refine gg rfl (q2q ((x/2^16/2^8)) rfl rfl w8 (q5M hy) (gg rfl (q09 rfl rfl rfl trivial ?_)))
      rw[w9]
      congr 1
      rw[wrap64 (x:=16+8) (by omega) (by omega),wrap64 (by omega) (by omega)]
      omega
     rw[q0I]at g;omega
    rw[q0I]at g;omega
   ·rw[Nat.pow_add];omega
   have:=g4 (by omega);rw[Nat.pow_add];omega
  have hy:x/2^16<256:=by omega
  obtain⟨_,g2,g3,g4⟩:=q2u (x/2^16) hy
  refine⟨16+(q2H (x/2^16)).toNat,?_,by omega,?_,fun h0=>?_⟩
  ·refine q0g (fn:=q6n) rfl (q0a ?_)
   refine gg rfl (q01 rfl (fun g=>?_) (fun g=>?_))
   ·refine gg rfl (q1d x 16 rfl rfl rfl rfl (by decide) ?_)
    refine gg rfl (q01 rfl (fun g=>?_) (fun g=>?_))
    ·rw[q0G]at g;omega
    have hy:(x/2^16)<256:=by omega
    obtain⟨_,g2,g3,g4⟩:=q2u ((x/2^16)) hy
    have w8:IntKind.u8.wrap (((x/2^16):Nat):Int)=(((x/2^16):Nat):Int):=by simp[IntKind.wrap,IntKind.bits,IntKind.signed];omega
    have w9:=ww (x:=(((q2H ((x/2^16))).toNat:Nat):Int))
    refine gg rfl (q2q ((x/2^16)) rfl rfl w8 (q5M hy) (gg rfl (q09 rfl rfl rfl trivial ?_)))
    rw[w9]
    congr 1
    rw[wrap64 (by omega) (by omega)]
    omega
   rw[q0I]at g;omega
  ·rw[Nat.pow_add];omega
  have:=g4 (by omega);rw[Nat.pow_add];omega
 by_cases h2:256≤x
 ·have hy:x/2^8<256:=by omega
  obtain⟨_,g2,g3,g4⟩:=q2u (x/2^8) hy
  refine⟨8+(q2H (x/2^8)).toNat,?_,by omega,?_,fun h0=>?_⟩
  ·refine q0g (fn:=q6n) rfl (q0a ?_)
   refine gg rfl (q01 rfl (fun g=>?_) (fun g=>?_))
   ·rw[q0G]at g;omega
   refine gg rfl (q01 rfl (fun g=>?_) (fun g=>?_))
   ·refine gg rfl (q1d x 8 rfl rfl rfl rfl (by decide) ?_)
    have hy:(x/2^8)<256:=by omega
    obtain⟨_,g2,g3,g4⟩:=q2u ((x/2^8)) hy
    have w8:IntKind.u8.wrap (((x/2^8):Nat):Int)=(((x/2^8):Nat):Int):=by simp[IntKind.wrap,IntKind.bits,IntKind.signed];omega
    have w9:=ww (x:=(((q2H ((x/2^8))).toNat:Nat):Int))
    refine gg rfl (q2q ((x/2^8)) rfl rfl w8 (q5M hy) (gg rfl (q09 rfl rfl rfl trivial ?_)))
    rw[w9]
    congr 1
    rw[wrap64 (x:=0+8) (by omega) (by omega),wrap64 (by omega) (by omega)]
    omega
   rw[q0I]at g;omega
  ·rw[Nat.pow_add];omega
  have:=g4 (by omega);rw[Nat.pow_add];omega
 have hy:x<256:=by omega
 obtain⟨_,g2,g3,g4⟩:=q2u x hy
 refine⟨(q2H x).toNat,?_,by omega,g3,g4⟩
 refine q0g (fn:=q6n) rfl (q0a ?_)
 refine gg rfl (q01 rfl (fun g=>?_) (fun g=>?_))
 ·rw[q0G]at g;omega
 refine gg rfl (q01 rfl (fun g=>?_) (fun g=>?_))
 ·rw[q0G]at g;omega
 have hy:x<256:=by omega
 obtain⟨_,g2,g3,g4⟩:=q2u (x) hy
 have w8:IntKind.u8.wrap ((x:Nat):Int)=((x:Nat):Int):=by simp[IntKind.wrap,IntKind.bits,IntKind.signed];omega
 have w9:=ww (x:=(((q2H (x)).toNat:Nat):Int))
 refine gg rfl (q2q (x) rfl rfl w8 (q5M hy) (gg rfl (q09 rfl rfl rfl trivial ?_)))
 rw[w9]
 congr 1
 rw[wrap64 (by omega) (by omega)]
 omega
theorem qjj (x:Nat)(hx:x<4294967296)(h0:x≠0):∃s:Nat,PU qdp [.int .u32 x]=some (.int .i64 s)∧s≤31∧2147483648≤x*2^s∧(x+1) *2^s≤4294967296:=by
 obtain⟨L,h1,h2,h3,h4⟩:=qH6 x hx
 have h4:=h4 h0
 have hL:L≠0:=by rintro rfl;simp at h3;exact h0 h3
 refine⟨32-L,?_,by omega,?_,?_⟩
 ·refine q0g (fn:=q6H) rfl (q0a ?_)
  refine gg rfl (q02 rfl rfl h1 (gg rfl (q09 rfl rfl rfl trivial ?_)))
  congr 1
  rw[wrap64 (by omega) (by omega)]
  omega
 ·have e:2^L*2^(32-L)=4294967296:=by rw[←Nat.pow_add,show L+(32-L)=32 by omega]
  have:=Nat.mul_le_mul_right (2^(32-L)) h4
  rw[e,Nat.mul_assoc]at this
  omega
 have e:2^L*2^(32-L)=4294967296:=by rw[←Nat.pow_add,show L+(32-L)=32 by omega]
 rw[←e]
 exact Nat.mul_le_mul_right _ h3
end Go.F

namespace Go.F
attribute [local irreducible] IntKind.wrap wpM
theorem dg_mid {pre w post:List Nat}{k:Nat}(h:k<w.length):dg (pre++w++post) (pre.length+k)=dg w k:=by
 rw[qqr (by simp;omega),qnF (by omega)]
 congr 1;omega
theorem set_mid {pre w post:List Nat}{k v:Nat}(h:k<w.length):(pre++w++post).set (pre.length+k) v=pre++w.set k v++post:=by
 rw[List.set_append_left _ _ (by simp;omega),List.set_append_right _ _ (by omega)]
 congr 3;omega
section
variable {T:Tab}{sh:Shr}{nx0:Nat}{s:List Fr}{t:q0z}{h:q0e}{z:Frz}{nx:Nat}{q:Ex→q0z→q0e→Frz→Nat→Prop}
variable {base i:Nat}{res:List Nat}{g:Gd}{rest:List KOper}
theorem q5z {hint:Bool}{a v:X}{dst:Option Nat}{id k':Nat}{w':Int}(pre w post:List Nat)(k x:Nat)(ha:a.ev t=.ptr id k' 0)(hv:v.ev t=.int .u32 w')(hkk:k'=pre.length+k)(hw:w'=x)(hr:g.h base h id=some (.row ((pre++w++post).map u32) 1))(hz:g.z base z id=0)(hl:k<w.length)
 (hk:wpM T sh nx0 (.ops base res rest::s) .normal (put t dst (.tup [])) (upd h id (some (.row ((pre++w.set k x++post).map u32) 1))) z nx q):
 wpM T sh nx0 (.ops base res (⟨i,dst,none,g,.store hint 1 a v⟩::rest)::s) .normal t h z nx q:=by
 refine q2a (pre++w++post) (pre.length+k) x ha hv hkk hw hr (by omega) (by simp;omega) ?_
 rw[set_mid hl]
 exact hk
theorem q6u {hint:Bool}{a:X}{dst:Nat}{id k':Nat}(pre w post:List Nat)(k:Nat)(ha:a.ev t=.ptr id k' 0)(hkk:k'=pre.length+k)(hr:g.h base h id=some (.row ((pre++w++post).map u32) 1))(hl:k<w.length)
 (hk:wpM T sh nx0 (.ops base res rest::s) .normal (upd t dst (.int .u32 (dg w k))) h z nx q):
 wpM T sh nx0 (.ops base res (⟨i,some dst,none,g,.load hint false 1 a⟩::rest)::s) .normal t h z nx q:=by
 refine q4I (pre++w++post) (pre.length+k) ha hkk hr (by simp;omega) ?_
 rw[dg_mid hl]
 exact hk
end
theorem qo1 {l:List Nat}{n:Nat}(h:LOk l)(hn:l.length=n+1):val l=val (l.take n)+4294967296^n*dg l n∧val (l.take n)<4294967296^n:=by
 constructor
 ·have:=q0V l n
  rwa[List.take_of_length_le (by omega)]at this
 have:=q3d (h.take n)
 rwa[List.length_take,hn,Nat.min_eq_left (by omega)]at this
theorem q2n {l:List Nat}(h:LOk l)(n:Nat):val (l.take n)<4294967296^n:=by
 refine Nat.lt_of_lt_of_le (q3d (h.take n)) (Nat.pow_le_pow_right (by decide) (by simp;omega))
structure Trial (w v:List Nat)(n:Nat):Prop where
 n2:2≤n
 wl:w.length=n+1
 wo:LOk w
 vo:LOk v
 vl:n≤v.length
 hi:2147483648≤dg v (n-1)
 lt:val w<4294967296*val (v.take n)
theorem aux0 (T:Nat){d:Nat}(h:0<d):T<(T/d+1) *d:=by
 have:=Nat.div_add_mod T d
 have hm:=Nat.mod_lt T h
 rw[Nat.add_mul,Nat.one_mul,Nat.mul_comm]
 omega
theorem aux1 {x P T d:Nat}(h1:x<P)(h2:d<4294967296):x+P*(T*4294967296+d)<(T+1) *(P*4294967296):=by
 have h3:P*(T*4294967296+d)+P≤(T+1) *(P*4294967296):=by
  have e:(T+1) *(P*4294967296)=P*((T+1) *4294967296):=by rw[Nat.mul_left_comm]
  rw[e,←Nat.mul_succ]
  exact Nat.mul_le_mul_left _ (by omega)
 omega
theorem aux2 {q a b r d:Nat}(h:r*4294967296+d<q*b):(q*a+r) *4294967296+d<q*(a*4294967296+b):=by
 grind
theorem aux3 {q a b r d:Nat}(h0:q*b≤18446744065119617025)(h:4294967296≤r∨q*b≤r*4294967296+d):q*(a*4294967296+b)≤(q*a+r) *4294967296+d:=by
 rw[Nat.mul_add q,←Nat.mul_assoc]
 omega
theorem qCJ {x P T:Nat}(h:x<P):x+P*T<(T+1) *P:=by
 rw[Nat.add_mul,Nat.one_mul,Nat.mul_comm P];omega
theorem qCK {x P T:Nat}:T*P≤x+P*T:=by
 rw[Nat.mul_comm P];omega
theorem Trial.v3 {w v:List Nat}{n:Nat}(h:Trial w v n):val (v.take n)=val (v.take (n-2))+4294967296^(n-2) *(dg v (n-1) *4294967296+dg v (n-2)):=by
 obtain⟨m,rfl⟩:∃m,n=m+2:=⟨n-2,by have:=h.n2;omega⟩
 simp only[Nat.add_sub_cancel,show m+2-1=m+1 by omega]
 rw[q0V,q0V,Nat.pow_succ,Nat.mul_add,Nat.mul_assoc,Nat.mul_comm 4294967296]
 omega
theorem Trial.w3 {w v:List Nat}{n:Nat}(h:Trial w v n):val w=val (w.take (n-2))+4294967296^(n-2) *((dg w n*4294967296+dg w (n-1)) *4294967296+dg w (n-2)):=by
 obtain⟨m,rfl⟩:∃m,n=m+2:=⟨n-2,by have:=h.n2;omega⟩
 simp only[Nat.add_sub_cancel,show m+2-1=m+1 by omega]
 rw[(qo1 h.wo h.wl).1,q0V,q0V,show 4294967296^(m+2)=4294967296^m*4294967296*4294967296 by rw[Nat.pow_succ,Nat.pow_succ],Nat.pow_succ]
 generalize 4294967296^m=P
 generalize dg w (m+2)=a
 generalize dg w (m+1)=b
 grind
theorem Trial.pos {w v:List Nat}{n:Nat}(h:Trial w v n):4294967296*4294967296^(n-2)≤val (v.take n)∧0<val (v.take n):=by
 have hp:0<4294967296^(n-2):=Nat.pow_pos (by decide)
 have:4294967296*4294967296^(n-2)≤val (v.take n):=by
  rw[h.v3]
  have h1:=h.hi
  have:4294967296^(n-2) *4294967296≤4294967296^(n-2) *(dg v (n-1) *4294967296+dg v (n-2)):=Nat.mul_le_mul_left _ (by omega)
  omega
 exact⟨this,by omega⟩
theorem Trial.first {w v:List Nat}{n:Nat}(h:Trial w v n):val w/val (v.take n)≤(dg w n*4294967296+dg w (n-1))/dg v (n-1):=by
 have hh:=h.hi
 have key:=kn_gt (U:=val w) (V:=val (v.take n)) (P:=4294967296^(n-2) *4294967296) (ut:=dg w n*4294967296+dg w (n-1)) (vt:=dg v (n-1)) (q:=(dg w n*4294967296+dg w (n-1))/dg v (n-1)+1) ?_ ?_ h.pos.2 ?_
 ·exact Nat.le_of_lt_succ key
 ·rw[h.w3];exact aux1 (q2n h.wo (n-2)) (q1q h.wo (n-2))
 ·rw[h.v3]
  have e:dg v (n-1) *(4294967296^(n-2) *4294967296)=4294967296^(n-2) *(dg v (n-1) *4294967296):=by rw[Nat.mul_left_comm]
  rw[e,Nat.mul_add]
  exact Nat.le_trans (Nat.le_add_right _ _) (Nat.le_add_left _ _)
 exact aux0 _ (by omega)
theorem Trial.less {w v:List Nat}{n:Nat}(h:Trial w v n){q r:Nat}(he:q*dg v (n-1)+r=dg w n*4294967296+dg w (n-1))(hq:r*4294967296+dg w (n-2)<q*dg v (n-2)):val w/val (v.take n)<q:=by
 refine kn_gt (P:=4294967296^(n-2)) (ut:=(dg w n*4294967296+dg w (n-1)) *4294967296+dg w (n-2)) (vt:=dg v (n-1) *4294967296+dg v (n-2)) ?_ ?_ h.pos.2 ?_
 ·rw[h.w3];exact qCJ (q2n h.wo (n-2))
 ·rw[h.v3];exact qCK
 rw[←he];exact aux2 hq
theorem Trial.qlt {w v:List Nat}{n:Nat}(h:Trial w v n):val w/val (v.take n)<4294967296:=(Nat.div_lt_iff_lt_mul h.pos.2).2 h.lt
theorem Trial.end {w v:List Nat}{n:Nat}(h:Trial w v n){q r:Nat}(he:q*dg v (n-1)+r=dg w n*4294967296+dg w (n-1))(hq:q<4294967296)(hr:4294967296≤r∨q*dg v (n-2)≤r*4294967296+dg w (n-2)):q≤val w/val (v.take n)+1:=by
 refine kn_le (P:=4294967296^(n-2)) (B:=4294967296) (ut:=(dg w n*4294967296+dg w (n-1)) *4294967296+dg w (n-2)) (vt:=dg v (n-1) *4294967296+dg v (n-2)) ?_ ?_ h.pos.1 h.pos.2 hq ?_
 ·rw[h.w3];exact qCK
 ·rw[h.v3];exact qCJ (q2n h.vo (n-2))
 rw[←he];exact aux3 (qbz hq (q1q h.vo (n-2))) hr
theorem Trial.first_le {w v:List Nat}{n:Nat}(h:Trial w v n):(dg w n*4294967296+dg w (n-1))/dg v (n-1)≤4294967297∧dg w n≤dg v (n-1):=by
 have hh:=h.hi
 have h1:dg w n≤dg v (n-1):=by
  have h2:=h.lt
  have hv:val (v.take n)<(dg v (n-1)+1) *(4294967296^(n-1)):=by
   have:=q0V v (n-1)
   rw[Nat.sub_add_cancel (by have:=h.n2;omega)]at this
   rw[this,Nat.add_mul,Nat.one_mul,Nat.mul_comm]
   have:=q2n h.vo (n-1)
   omega
  have hw:=(qo1 h.wo h.wl).1
  have e:4294967296^n=4294967296*4294967296^(n-1):=by
   obtain⟨m,rfl⟩:∃m,n=m+1:=⟨n-1,by have:=h.n2;omega⟩
   rw[Nat.pow_succ,Nat.mul_comm];rfl
  by_cases hc:dg w n≤dg v (n-1)
  ·exact hc
  exfalso
  have h3:4294967296^n*(dg v (n-1)+1)≤4294967296^n*dg w n:=Nat.mul_le_mul_left _ (by omega)
  rw[e,Nat.mul_assoc,Nat.mul_comm (4294967296^(n-1))]at h3
  rw[e]at hw
  omega
 refine⟨?_,h1⟩
 have hl:=q1q h.wo (n-1)
 have:dg w n*4294967296+dg w (n-1)<4294967298*dg v (n-1):=by omega
 have:=(Nat.div_lt_iff_lt_mul (show 0<dg v (n-1)by omega)).2 this
 omega
end Go.F

namespace Go.F
attribute [local irreducible] IntKind.wrap wpM
def Old (U v Q:List Nat)(h:q0e)(z:Frz):Prop:=
 (∃h0:q0e,h=upd (upd (upd h0 4 (some (.row (Q.map u32) 1))) 3 (some (.row (v.map u32) 1))) 2 (some (.row (U.map u32) 1)))∧∃z0:Frz,z=upd (upd (upd z0 4 0) 3 0) 2 0
theorem Old.of {U v Q:List Nat}{h:q0e}{z:Frz}(h2:h 2=some (.row (U.map u32) 1))(h3:h 3=some (.row (v.map u32) 1))(h4:h 4=some (.row (Q.map u32) 1))(z2:z 2=0)(z3:z 3=0)(z4:z 4=0):Old U v Q h z:=by
 refine⟨⟨h,?_⟩,z,?_⟩
 ·rw[q2J (f:=h) h4,q2J (f:=h) h3,q2J (f:=h) h2]
 rw[q2J (f:=z) z4,q2J (f:=z) z3,q2J (f:=z) z2]
theorem Old.old {nx0:Nat}{U v Q:List Nat}{h:q0e}{z:Frz}(h2:h 2=some (.row (U.map u32) 1))(h3:h 3=some (.row (v.map u32) 1))(h4:h 4=some (.row (Q.map u32) 1))(z2:z 2=0)(z3:z 3=0)(z4:z 4=0):Old U v Q (q1h nx0 h) z:=
 Old.of (q9k h2) (q9k h3) (q9k h4) z2 z3 z4
theorem qCF {w w' v:List Nat}{n q c b:Nat}(T:Trial w v n)(hq1:val w/val (v.take n)≤q)(hq2:q≤val w/val (v.take n)+1)(hw':w'.length=n+1)(hwo':LOk w')(hc:c<4294967296)(hb:b≤1)
 (hinv:val (w'.take n)+q*val (v.take n)=val (w.take n)+4294967296^n*(b+c)):
 (c+b≤dg w n→q=val w/val (v.take n)∧val (w'.set n (dg w n-c-b))=val w%val (v.take n))∧
 (dg w n<c+b→q=val w/val (v.take n)+1∧dg w n+4294967296-c-b<4294967296∧val (w'.set n (dg w n+4294967296-c-b))+q*val (v.take n)=val w+4294967296^(n+1)):=by
 have e1:=(qo1 T.wo T.wl).1
 have hset:∀x,val (w'.set n x)=val (w'.take n)+4294967296^n*x:=by
  intro x
  have:=q2V (r:=w') (k:=n) (v:=x) (by omega)
  rwa[List.take_of_length_le (by simp;omega)]at this
 have hV:=T.pos.2
 have hlt:=q2n hwo' n
 generalize val (v.take n)=V at*
 constructor
 ·intro hle
  have e2:val (w'.set n (dg w n-c-b))+q*V=val w:=by
   rw[hset,e1]
   have:4294967296^n*(dg w n-c-b)+4294967296^n*(b+c)=4294967296^n*dg w n:=by rw[←Nat.mul_add];congr 1;omega
   omega
  have hqle:q≤val w/V:=(Nat.le_div_iff_mul_le hV).2 (by omega)
  have hq:q=val w/V:=by omega
  refine⟨hq,?_⟩
  have:=Nat.div_add_mod (val w) V
  rw[←hq,Nat.mul_comm]at this
  omega
 intro hgt
 have hgt':val w<q*V:=by
  rw[e1]
  have h1:4294967296^n*(dg w n+1)≤4294967296^n*(b+c):=Nat.mul_le_mul_left _ (by omega)
  rw[Nat.mul_add,Nat.mul_one]at h1
  omega
 have hne:q≠val w/V:=by
  intro e
  have:=Nat.div_mul_le_self (val w) V
  rw[←e]at this
  omega
 have hwn:=q1q T.wo n
 have hcb:c+b≤dg w n+4294967296:=by
  by_cases h:c+b≤dg w n+4294967296
  ·exact h
  omega
 refine⟨by omega,by omega,?_⟩
 rw[hset,e1,Nat.pow_succ]
 have:4294967296^n*(dg w n+4294967296-c-b)+4294967296^n*(b+c)=4294967296^n*dg w n+4294967296^n*4294967296:=by rw[←Nat.mul_add,←Nat.mul_add];congr 1;omega
 omega
theorem qCG {w w1 w2 v:List Nat}{n q c:Nat}(T:Trial w v n)(hq:q=val w/val (v.take n)+1)(h1:w1.length=n+1)(h1o:LOk w1)(h2:w2.length=n+1)(h2o:LOk w2)(hc:c≤1)(hd:dg w2 n=dg w1 n)
 (hv1:val w1+q*val (v.take n)=val w+4294967296^(n+1)) (hinv:val (w2.take n)+4294967296^n*c=val (w1.take n)+val (v.take n)):
 val (w2.set n ((dg w1 n+c)%4294967296))=val w%val (v.take n):=by
 have e1:=(qo1 h1o h1).1
 have hset:val (w2.set n ((dg w1 n+c)%4294967296))=val (w2.take n)+4294967296^n*((dg w1 n+c)%4294967296):=by
  have:=q2V (r:=w2) (k:=n) (v:=(dg w1 n+c)%4294967296) (by omega)
  rwa[List.take_of_length_le (by simp;omega)]at this
 have hV:=T.pos.2
 have hl2:=q2n h2o n
 have hdm:=Nat.div_add_mod (val w) (val (v.take n))
 have hml:=Nat.mod_lt (val w) hV
 have hVl:=q2n T.vo n
 generalize val (v.take n)=V at*
 generalize val w/V=Qt at*
 generalize val w%V=R at*
 subst hq
 rw[Nat.add_mul,Nat.one_mul,Nat.mul_comm Qt]at hv1
 have hdl:=q1q h1o n
 have hcar:=q4H (4294967296^n) (dg w1 n+c)
 rw[Nat.mul_add (4294967296^n) (dg w1 n) c,←Nat.pow_succ]at hcar
 have hcase:(dg w1 n+c)/4294967296=0∨(dg w1 n+c)/4294967296=1:=by omega
 rw[hset]
 have hmul:4294967296^n*((dg w1 n+c)%4294967296)+4294967296^n≤4294967296^(n+1):=by
  rw[Nat.pow_succ,←Nat.mul_succ];exact Nat.mul_le_mul_left _ (Nat.mod_lt _ (by decide))
 rcases hcase with h|h
 ·rw[h,Nat.mul_zero]at hcar
  omega
 rw[h,Nat.mul_one]at hcar
 omega
end Go.F

namespace Go.F
attribute [local irreducible] IntKind.wrap wpM
theorem qtT {x y b:Nat}{d:Int}(hx:x<4294967296)(hy:y<4294967296)(hb:b≤1)(hd:d=((x:Int)-y-b)%18446744073709551616):
 ∃u c:Nat,IntKind.u32.wrap d=u∧d=((d.toNat:Nat):Int)∧d.toNat/2^63=c∧u<4294967296∧c≤1∧u+(b+y)=x+4294967296*c:=by
 rw[qby]
 refine⟨(d%4294967296).toNat,d.toNat/2^63,by omega,by omega,rfl,by omega,by omega,by omega⟩
set_option maxHeartbeats 8000000 in
theorem qH1 (pre w post v Q:List Nat)(n:Nat)(T:Trial w v n)(hn:n≤2000000000){h:q0e}{z:Frz}{K:D→q0e→Frz→Nat→Prop}(hold:Old (pre++w++post) v Q h z)
 (hk:∀(w':List Nat) (h':q0e) (z':Frz) (nx':Nat),(nx'=356∨nx'=401)→w'.length=n+1→LOk w'→val w'=val w%val (v.take n)→Old (pre++w'++post) v Q h' z'→K (.int .u32 (val w/val (v.take n):Nat)) h' z' nx'):
 wpM TT (shr TT 5) 206 [.code k_natural_digit.code] .normal (enter [.ref 2 pre.length (n+1),.ref 3 0 n]) h z 206 (qdr k_natural_digit K):=by
 obtain⟨⟨h0,rfl⟩,z0,rfl⟩:=hold
 have hn2:=T.n2
 have hwl:=T.wl
 have hvl:=T.vl
 have hhi:=T.hi
 have hqlt:=T.qlt
 have hv1:=q1q T.vo (n-1)
 have hv2:=q1q T.vo (n-2)
 have hw0:=q1q T.wo n
 have hw1:=q1q T.wo (n-1)
 have hw2:=q1q T.wo (n-2)
 have hfl:=T.first_le
 have wn1:IntKind.i64.wrap ((n:Int)-1)=((n-1:Nat):Int):=by rw[wrap64 (by omega) (by omega)];omega
 have wn2:IntKind.i64.wrap ((n:Int)-2)=((n-2:Nat):Int):=by rw[wrap64 (by omega) (by omega)];omega
 have c0:IntKind.u64.wrap (dg w n:Int)=(dg w n:Int):=q0F (by omega)
 have c1:IntKind.u64.wrap (dg w (n-1):Int)=(dg w (n-1):Int):=q0F (by omega)
 have c2:IntKind.u64.wrap (dg w (n-2):Int)=(dg w (n-2):Int):=q0F (by omega)
 have d1:IntKind.u64.wrap (dg v (n-1):Int)=(dg v (n-1):Int):=q0F (by omega)
 have d2:IntKind.u64.wrap (dg v (n-2):Int)=(dg v (n-2):Int):=q0F (by omega)
 refine gg rfl (q0J n rfl rfl rfl rfl rfl (by omega) ?_)
 refine gg rfl (q6u pre w post n rfl rfl rfl (by omega) ?_)
 refine gg rfl (q7a (dg w n) 32 rfl rfl c0 rfl (by decide) (q0F (by omega)) ?_)
 refine gg rfl (q0J (n-1) rfl rfl rfl rfl wn1 (by omega) ?_)
 refine gg rfl (q6u pre w post (n-1) rfl rfl rfl (by omega) ?_)
 refine gg rfl ?_
 rw[c1,qCI hw0 hw1]
 refine q0J (n-1) rfl rfl rfl rfl wn1 (by omega) ?_
 refine gg rfl (q4I v (n-1) rfl (Nat.zero_add _) rfl (by omega) ?_)
 refine gg rfl ?_
 rw[d1]
 generalize htop:dg w n*4294967296+dg w (n-1)=top
 rw[htop]at hfl
 have htl:top<18446744073709551616:=by omega
 have hql:=hfl.1
 refine q3e top (dg v (n-1)) rfl rfl rfl rfl (by omega) (q0F (by omega)) ?_
 refine gg rfl (q5g top (dg v (n-1)) rfl rfl rfl rfl (by omega) ?_)
 refine gg rfl ?_
 refine q2X (S:=fun x:Nat×Nat=>([.ref 2 pre.length (n+1),.ref 3 0 n,q00 n,.int .u64 (dg v (n-1)),.int .u64 x.1,.int .u64 x.2],[none,none,none,none,none,none],[0,0,0,0,0,0]))
  (O:=fun _ ho zo=>Old (pre++w++post) v Q ho zo)
  (C:=fun x=>x.1*dg v (n-1)+x.2=top∧val w/val (v.take n)≤x.1∧x.1≤4294967297∧x.2<8589934592) (m:=fun x=>x.1) (top/dg v (n-1),top%dg v (n-1))
  ⟨by simp only;rw[Nat.mul_comm];exact Nat.div_add_mod _ _,by rw[←htop];exact T.first,hql,by have:=Nat.mod_lt top (show 0<dg v (n-1)by omega);simp only;omega⟩ (by simp only;omega) ?_ ?_
 ·exact q24 rfl ⟨q05 q0u _,q05 q0u _,trivial⟩ ⟨by simp[q00],Old.old rfl rfl rfl rfl rfl rfl⟩
 rintro⟨q,r⟩ ⟨hqr,hq1,hq2,hr⟩ ho zo hold N hN
 obtain⟨⟨h1,rfl⟩,z1,rfl⟩:=hold
 simp only at hqr hq1 hq2 hr
 have next:q≠0→r<4294967296→val w/val (v.take n)<q→∀{t:q0z} {h:q0e} {z:Frz} {nx:Nat},(q15 206 [(0,0),(1,0),(5,0),(7,0),(8,0),(9,0)] t h z nx fun h z kp=>kp=([.ref 2 pre.length (n+1),.ref 3 0 n,q00 n,.int .u64 (dg v (n-1)),.int .u64 (q-1:Nat),.int .u64 (r+dg v (n-1):Nat)],[none,none,none,none,none,none],[0,0,0,0,0,0])∧Old (pre++w++post) v Q (q1h 206 h) z)→N t h z nx:=by
  intro hq0 hrl hlt t h z nx hst
  refine hN (q-1,r+dg v (n-1)) ⟨?_,by simp only;omega,by simp only;omega,by simp only;omega⟩ (by simp only;omega) hst
  simp only
  obtain⟨k,rfl⟩:∃k,q=k+1:=⟨q-1,by omega⟩
  rw[Nat.add_mul,Nat.one_mul]at hqr
  simp only[Nat.add_sub_cancel]
  omega
 clear hN
 have s1:q≠0→IntKind.u64.wrap ((q:Int)-1)=((q-1:Nat):Int):=fun _=>by rw[q0Y];omega
 have s2:IntKind.u64.wrap ((r:Int)+(dg v (n-1):Int))=((r+dg v (n-1):Nat):Int):=by rw[q0Y];omega
 have after:q<4294967296→q≤val w/val (v.take n)+1→True:=fun _ _=>trivial
 refine gg rfl (q08 rfl (fun g1=>?_) (fun g1=>?_))
 ·rw[q06]at g1
  simp only at g1
  refine gg rfl (q08 rfl (fun g2=>?_) (fun g2=>?_))
  ·rw[q0G]at g2
   simp only at g2
   refine gg rfl (q0d rfl (gg rfl (q04 (next (by omega) (by omega) (by omega) (q24 rfl ⟨q05 q0u _,q05 q0u _,trivial⟩ ⟨?_,Old.old rfl rfl rfl rfl rfl rfl⟩)))))
   simp[q00,s1 (by omega),s2]
  rw[q0I]at g2
  simp only at g2
  have hq3:q<4294967296:=by omega
  have hqv:=qbz hq3 hv2
  have em:IntKind.u64.wrap ((q:Int) *IntKind.u64.wrap (dg v (n-2):Int))=((q*dg v (n-2):Nat):Int):=by
   rw[d2,show(q:Int) *(dg v (n-2):Int)=((q*dg v (n-2):Nat):Int)by simp]
   exact q0F (by omega)
  refine gg rfl (q0J (n-2) rfl rfl rfl rfl wn2 (by omega) ?_)
  refine gg rfl (q4I v (n-2) rfl (Nat.zero_add _) rfl (by omega) ?_)
  refine gg rfl (q7a r 32 rfl rfl rfl rfl (by decide) (q0F (by omega)) ?_)
  refine gg rfl (q0J (n-2) rfl rfl rfl rfl wn2 (by omega) ?_)
  refine gg rfl (q6u pre w post (n-2) rfl rfl rfl (by omega) ?_)
  refine gg rfl ?_
  rw[c2,qCI (by omega) hw2,em]
  refine q01 rfl (fun g3=>?_) (fun g3=>?_)
  ·rw[q06]at g3
   have g3':r*4294967296+dg w (n-2)<q*dg v (n-2):=by omega
   have hq0:q≠0:=by rintro rfl;omega
   refine gg rfl (q04 (next hq0 (by omega) (T.less (by rw[hqr,htop]) g3') (q24 rfl ⟨q05 q0u _,q05 q0u _,trivial⟩ ⟨?_,Old.old rfl rfl rfl rfl rfl rfl⟩)))
   simp[q00,s1 hq0,s2]
  rw[q07]at g3
  have hq4:=T.end (q:=q) (r:=r) (by rw[hqr,htop]) hq3 (.inr (by omega))
  refine gg rfl (q04 (gg rfl ?_))
  refine q2X (S:=fun x:Nat×List Nat×Nat×Nat=>([.ref 2 pre.length (n+1),.ref 3 0 n,q00 n,.int .u64 q,.int .u64 x.2.2.1,.int .u64 x.2.2.2,.ref 3 0 n,q00 n,q00 x.1],[none,none,none,none,none,none,none,none,none],[0,0,0,0,0,0,0,0,0]))
   (O:=fun x ho zo=>Old (pre++x.2.1++post) v Q ho zo)
   (C:=fun x=>x.1≤n∧x.2.1.length=n+1∧LOk x.2.1∧x.2.2.1<4294967296∧x.2.2.2≤1∧val (x.2.1.take x.1)+q*val (v.take x.1)=val (w.take x.1)+4294967296^x.1*(x.2.2.2+x.2.2.1)∧∀j,x.1≤j→dg x.2.1 j=dg w j) (m:=fun x=>n-x.1) (0,w,0,0)
   ⟨Nat.zero_le _,hwl,T.wo,by simp,by simp,by simp[val],fun j _=>rfl⟩ (by simp only;omega) ?_ ?_
  ·exact q24 rfl ⟨q05 q0u _,q05 q0u _,q05 q0u _,trivial⟩ ⟨by simp[q00],Old.old rfl rfl rfl rfl rfl rfl⟩
  rintro⟨k,w',c,b⟩ ⟨hk1,hl',ho',hc,hb,hinv,hsame⟩ ho zo hold N hN
  obtain⟨⟨h2,rfl⟩,z2,rfl⟩:=hold
  simp only at hk1 hl' ho' hc hb hinv hsame
  refine gg rfl (q01 rfl (fun e1=>?_) (fun e1=>?_))
  ·rw[q06]at e1
   simp only at e1
   have hkn:k<n:=by omega
   have hvk:=q1q T.vo k
   have hwk:=q1q ho' k
   have hqv:=qbz hq3 hvk
   have wk1:=wS (n:=k)
   have ee:((q*dg v k:Nat):Int)=(q:Int) *(dg v k:Int):=by simp
   have ec:IntKind.u64.wrap ((c:Int)+IntKind.u64.wrap ((q:Int) *IntKind.u64.wrap (dg v k:Int)))=((c+q*dg v k:Nat):Int):=by
    rw[q0F (n:=dg v k) (by omega),←ee,q0F (n:=q*dg v k) (by omega)]
    simp only[q0Y];omega
   refine gg rfl (q0J k rfl rfl rfl rfl rfl hkn (gg rfl (q4I v k rfl (Nat.zero_add _) rfl (by omega) ?_)))
   refine gg rfl ?_
   rw[ec]
   refine q0J k rfl rfl rfl rfl rfl (by omega) ?_
   refine gg rfl (q6u pre w' post k rfl rfl rfl (by omega) ?_)
   refine gg rfl ?_
   rw[q19]
   obtain⟨u,b',g1,g2,g3,g4,g5,g6⟩:=qtT (d:=IntKind.u64.wrap (IntKind.u64.wrap (IntKind.u64.wrap (dg w' k:Int)-IntKind.u64.wrap (((c+q*dg v k)%4294967296:Nat):Int))-(b:Int))) hwk (Nat.mod_lt (c+q*dg v k) (by decide)) hb (by simp only[q0Y];omega)
   generalize IntKind.u64.wrap (IntKind.u64.wrap (IntKind.u64.wrap (dg w' k:Int)-IntKind.u64.wrap (((c+q*dg v k)%4294967296:Nat):Int))-(b:Int))=d at*
   rw[g1]
   refine q0J k rfl rfl rfl rfl rfl (by omega) ?_
   refine gg rfl (q5z pre w' post k u rfl rfl rfl rfl rfl rfl (by omega) ?_)
   refine gg rfl (q1d d.toNat 63 rfl rfl g2 rfl (by decide) ?_)
   rw[g3]
   refine gg rfl (q1d (c+q*dg v k) 32 rfl rfl rfl rfl (by decide) ?_)
   refine gg rfl (q04 (hN (k+1,w'.set k u,(c+q*dg v k)/2^32,b') ⟨hkn,by simp[hl'],ho'.set _ g4,by simp only;omega,g5,?_,?_⟩ (by simp only;omega) (q24 rfl ⟨q05 q0u _,q05 q0u _,q05 q0u _,trivial⟩ ⟨by simp[q00,wk1],Old.old rfl rfl rfl rfl rfl rfl⟩)))
   ·simp only
    rw[q2V (by omega),q0V v,q0V w,show(2:Nat)^32=4294967296 by decide,Nat.pow_succ]
    have hs:=hsame k (Nat.le_refl _)
    rw[hs]at g6
    have hdm:=Nat.div_add_mod (c+q*dg v k) 4294967296
    generalize (c+q*dg v k)/4294967296=c' at*
    generalize (c+q*dg v k)%4294967296=lo at*
    generalize 4294967296^k=P at*
    have e5:P*u+P*(q*dg v k)+P*(b+c)=P*dg w k+P*(4294967296*(b'+c')):=by
     rw[←Nat.mul_add,←Nat.mul_add,←Nat.mul_add];congr 1;omega
    rw[Nat.mul_add q,Nat.mul_left_comm q P,Nat.mul_assoc P 4294967296]
    omega
   intro j hj
   simp only at hj⊢
   rw[q3u,if_neg (by omega)]
   exact hsame j (by omega)
  rw[q07]at e1
  simp only at e1
  obtain rfl:k=n:=by omega
  clear hN
  obtain⟨se1,se2⟩:=qCF T hq1 hq4 hl' ho' hc hb hinv
  have hdn:=hsame k (Nat.le_refl _)
  have cn:IntKind.u64.wrap (dg w' k:Int)=(dg w' k:Int):=q0F (by rw[hdn];omega)
  refine gg rfl (q04 (gg rfl (q0J k rfl rfl rfl rfl rfl (by omega) ?_)))
  refine gg rfl (q6u pre w' post k rfl rfl rfl (by omega) ?_)
  refine gg rfl ?_
  by_cases hcase:c+b≤dg w k
  ·obtain⟨f1,f2⟩:=se1 hcase
   have ed:IntKind.u64.wrap (IntKind.u64.wrap (IntKind.u64.wrap (dg w' k:Int)-(c:Int))-(b:Int))=((dg w k-c-b:Nat):Int):=by rw[hdn];simp only[q0Y];omega
   have ed2:IntKind.u32.wrap ((dg w k-c-b:Nat):Int)=((dg w k-c-b:Nat):Int):=by rw[q19];omega
   have eq2:IntKind.u32.wrap (q:Int)=(q:Int):=by rw[q19];omega
   rw[ed,ed2]
   refine q0J k rfl rfl rfl rfl rfl (by omega) ?_
   refine gg rfl (q5z pre w' post k (dg w k-c-b) rfl rfl rfl rfl rfl rfl (by omega) ?_)
   refine gg rfl (q1d (dg w k-c-b) 63 rfl rfl rfl rfl (by decide) ?_)
   refine gg rfl (q01 rfl (fun y1=>?_) (fun y1=>?_))
   ·refine gg rfl ?_
    rw[eq2]
    have hk':∀h' z',Old (pre++w'.set k (dg w k-c-b)++post) v Q h' z'→K (.int .u32 q) h' z' 356:=fun h' z' hol=>by
     rw[f1];exact hk (w'.set k (dg w k-c-b)) h' z' 356 (.inl rfl) (by simp[hl']) (ho'.set _ (by omega)) f2 hol
    exact qds rfl rfl (hk' _ _ (Old.of rfl rfl rfl rfl rfl rfl))
   rw[q1J]at y1
   exact absurd (by omega) y1
  obtain⟨f1,f0,f2⟩:=se2 (by omega)
  have ed:IntKind.u64.wrap (IntKind.u64.wrap (IntKind.u64.wrap (dg w' k:Int)-(c:Int))-(b:Int))=((18446744073709551616+dg w k-c-b:Nat):Int):=by rw[hdn];simp only[q0Y];omega
  have ed2:IntKind.u32.wrap ((18446744073709551616+dg w k-c-b:Nat):Int)=((dg w k+4294967296-c-b:Nat):Int):=by rw[q19];omega
  rw[ed,ed2]
  refine q0J k rfl rfl rfl rfl rfl (by omega) ?_
  refine gg rfl (q5z pre w' post k (dg w k+4294967296-c-b) rfl rfl rfl rfl rfl rfl (by omega) ?_)
  refine gg rfl (q1d (18446744073709551616+dg w k-c-b) 63 rfl rfl rfl rfl (by decide) ?_)
  refine gg rfl (q01 rfl (fun y1=>?_) (fun y1=>?_))
  ·rw[q1I]at y1
   omega
  refine gg rfl ?_
  have hl1:(w'.set k (dg w k+4294967296-c-b)).length=k+1:=by simp[hl']
  have ho1:LOk (w'.set k (dg w k+4294967296-c-b)):=ho'.set _ f0
  generalize w'.set k (dg w k+4294967296-c-b)=x1 at*
  refine q2X (S:=fun x:Nat×List Nat×Nat=>([.ref 2 pre.length (k+1),q00 k,.int .u64 q,.int .u64 x.2.2,.ref 3 0 k,q00 k,q00 x.1],[none,none,none,none,none,none,none],[0,0,0,0,0,0,0]))
   (O:=fun x ho zo=>Old (pre++x.2.1++post) v Q ho zo)
   (C:=fun x=>x.1≤k∧x.2.1.length=k+1∧LOk x.2.1∧x.2.2≤1∧val (x.2.1.take x.1)+4294967296^x.1*x.2.2=val (x1.take x.1)+val (v.take x.1)∧∀j,x.1≤j→dg x.2.1 j=dg x1 j) (m:=fun x=>k-x.1) (0,x1,0)
   ⟨Nat.zero_le _,hl1,ho1,by simp,by simp[val],fun j _=>rfl⟩ (by simp only;omega) ?_ ?_
  ·exact q24 rfl ⟨q05 q0u _,q05 q0u _,trivial⟩ ⟨by simp[q00],Old.old rfl rfl rfl rfl rfl rfl⟩
  rintro⟨i,x2,c2'⟩ ⟨hi1,hl2,ho2,hc2,hinv2,hsame2⟩ ho zo hold N hN
  obtain⟨⟨h3,rfl⟩,z3,rfl⟩:=hold
  simp only at hi1 hl2 ho2 hc2 hinv2 hsame2
  refine gg rfl (q01 rfl (fun e2=>?_) (fun e2=>?_))
  ·rw[q06]at e2
   simp only at e2
   have hik:i<k:=by omega
   have hvi:=q1q T.vo i
   have hxi:=q1q ho2 i
   have wi1:=wS (n:=i)
   have es:IntKind.u64.wrap ((c2':Int)+IntKind.u64.wrap (IntKind.u64.wrap (dg x2 i:Int)+IntKind.u64.wrap (dg v i:Int)))=((c2'+dg x2 i+dg v i:Nat):Int):=by simp only[q0Y];omega
   refine gg rfl (q0J i rfl rfl rfl rfl rfl hik (gg rfl (q4I v i rfl (Nat.zero_add _) rfl (by omega) ?_)))
   refine gg rfl (q0J i rfl rfl rfl rfl rfl (by omega) ?_)
   refine gg rfl (q6u pre x2 post i rfl rfl rfl (by omega) ?_)
   refine gg rfl ?_
   rw[es,q19]
   refine q0J i rfl rfl rfl rfl rfl (by omega) ?_
   refine gg rfl (q5z pre x2 post i ((c2'+dg x2 i+dg v i)%4294967296) rfl rfl rfl rfl rfl rfl (by omega) ?_)
   refine gg rfl (q1d (c2'+dg x2 i+dg v i) 32 rfl rfl rfl rfl (by decide) ?_)
   refine gg rfl (q04 (hN (i+1,x2.set i ((c2'+dg x2 i+dg v i)%4294967296),(c2'+dg x2 i+dg v i)/2^32) ⟨hik,by simp[hl2],ho2.set _ (Nat.mod_lt _ (by decide)),by simp only;omega,?_,?_⟩ (by simp only;omega) (q24 rfl ⟨q05 q0u _,q05 q0u _,trivial⟩ ⟨by simp[q00,wi1],Old.old rfl rfl rfl rfl rfl rfl⟩)))
   ·simp only
    rw[q2V (by omega),q0V x1,q0V v,show(2:Nat)^32=4294967296 by decide,Nat.pow_succ,Nat.add_assoc,q4H,Nat.mul_add,Nat.mul_add,hsame2 i (Nat.le_refl _)]
    omega
   intro j hj
   simp only at hj⊢
   rw[q3u,if_neg (by omega)]
   exact hsame2 j (by omega)
  rw[q07]at e2
  simp only at e2
  obtain rfl:i=k:=by omega
  clear hN
  have hdx:=hsame2 i (Nat.le_refl _)
  have hx1:=q1q ho1 i
  have fin:=qCG T f1 hl1 ho1 hl2 ho2 hc2 hdx f2 hinv2
  have ec2:IntKind.u32.wrap (c2':Int)=(c2':Int):=by rw[q19];omega
  have ea2:IntKind.u32.wrap ((dg x2 i:Int)+(c2':Int))=(((dg x1 i+c2')%4294967296:Nat):Int):=by rw[hdx,qby];omega
  have eq3:IntKind.u32.wrap (IntKind.u64.wrap ((q:Int)-1))=((val w/val (v.take i):Nat):Int):=by
   have a1:=f1
   have a2:=hqlt
   generalize val w/val (v.take i)=Qt at a1 a2⊢
   rw[q0Y,qby]
   clear hinv hinv2 hqr hq1 hq2 hql f2 fin
   omega
  refine gg rfl (q04 (gg rfl (q0J i rfl rfl rfl rfl rfl (by omega) ?_)))
  refine gg rfl (q6u pre x2 post i rfl rfl rfl (by omega) ?_)
  refine gg rfl ?_
  rw[ec2,ea2]
  refine q0J i rfl rfl rfl rfl rfl (by omega) ?_
  refine gg rfl (q5z pre x2 post i ((dg x1 i+c2')%4294967296) rfl rfl rfl rfl rfl rfl (by omega) ?_)
  refine gg rfl ?_
  rw[eq3]
  exact qds rfl rfl (hk (x2.set i ((dg x1 i+c2')%4294967296)) _ _ 401 (.inr rfl) (by simp[hl2]) (ho2.set _ (Nat.mod_lt _ (by decide))) fin (Old.of rfl rfl rfl rfl rfl rfl))
 rw[q07]at g1
 simp only at g1
 have hq3:q<4294967296:=by
  have h5:=hfl.2
  have h6:q*dg v (n-1)<4294967296*dg v (n-1):=by omega
  exact Nat.lt_of_mul_lt_mul_right h6
 have hq4:=T.end (q:=q) (r:=r) (by rw[hqr,htop]) hq3 (.inl (by omega))
 refine gg rfl (q0i rfl (gg rfl (q04 (gg rfl ?_))))
 refine q2X (S:=fun x:Nat×List Nat×Nat×Nat=>([.ref 2 pre.length (n+1),.ref 3 0 n,q00 n,.int .u64 q,.int .u64 x.2.2.1,.int .u64 x.2.2.2,.ref 3 0 n,q00 n,q00 x.1],[none,none,none,none,none,none,none,none,none],[0,0,0,0,0,0,0,0,0]))
  (O:=fun x ho zo=>Old (pre++x.2.1++post) v Q ho zo)
  (C:=fun x=>x.1≤n∧x.2.1.length=n+1∧LOk x.2.1∧x.2.2.1<4294967296∧x.2.2.2≤1∧val (x.2.1.take x.1)+q*val (v.take x.1)=val (w.take x.1)+4294967296^x.1*(x.2.2.2+x.2.2.1)∧∀j,x.1≤j→dg x.2.1 j=dg w j) (m:=fun x=>n-x.1) (0,w,0,0)
  ⟨Nat.zero_le _,hwl,T.wo,by simp,by simp,by simp[val],fun j _=>rfl⟩ (by simp only;omega) ?_ ?_
 ·exact q24 rfl ⟨q05 q0u _,q05 q0u _,q05 q0u _,trivial⟩ ⟨by simp[q00],Old.old rfl rfl rfl rfl rfl rfl⟩
 rintro⟨k,w',c,b⟩ ⟨hk1,hl',ho',hc,hb,hinv,hsame⟩ ho zo hold N hN
 obtain⟨⟨h2,rfl⟩,z2,rfl⟩:=hold
 simp only at hk1 hl' ho' hc hb hinv hsame
 refine gg rfl (q01 rfl (fun e1=>?_) (fun e1=>?_))
 ·rw[q06]at e1
  simp only at e1
  have hkn:k<n:=by omega
  have hvk:=q1q T.vo k
  have hwk:=q1q ho' k
  have hqv:=qbz hq3 hvk
  have wk1:=wS (n:=k)
  have ee:((q*dg v k:Nat):Int)=(q:Int) *(dg v k:Int):=by simp
  have ec:IntKind.u64.wrap ((c:Int)+IntKind.u64.wrap ((q:Int) *IntKind.u64.wrap (dg v k:Int)))=((c+q*dg v k:Nat):Int):=by
   rw[q0F (n:=dg v k) (by omega),←ee,q0F (n:=q*dg v k) (by omega)]
   simp only[q0Y];omega
  refine gg rfl (q0J k rfl rfl rfl rfl rfl hkn (gg rfl (q4I v k rfl (Nat.zero_add _) rfl (by omega) ?_)))
  refine gg rfl ?_
  rw[ec]
  refine q0J k rfl rfl rfl rfl rfl (by omega) ?_
  refine gg rfl (q6u pre w' post k rfl rfl rfl (by omega) ?_)
  refine gg rfl ?_
  rw[q19]
  obtain⟨u,b',g1,g2,g3,g4,g5,g6⟩:=qtT (d:=IntKind.u64.wrap (IntKind.u64.wrap (IntKind.u64.wrap (dg w' k:Int)-IntKind.u64.wrap (((c+q*dg v k)%4294967296:Nat):Int))-(b:Int))) hwk (Nat.mod_lt (c+q*dg v k) (by decide)) hb (by simp only[q0Y];omega)
  generalize IntKind.u64.wrap (IntKind.u64.wrap (IntKind.u64.wrap (dg w' k:Int)-IntKind.u64.wrap (((c+q*dg v k)%4294967296:Nat):Int))-(b:Int))=d at*
  rw[g1]
  refine q0J k rfl rfl rfl rfl rfl (by omega) ?_
  refine gg rfl (q5z pre w' post k u rfl rfl rfl rfl rfl rfl (by omega) ?_)
  refine gg rfl (q1d d.toNat 63 rfl rfl g2 rfl (by decide) ?_)
  rw[g3]
  refine gg rfl (q1d (c+q*dg v k) 32 rfl rfl rfl rfl (by decide) ?_)
  refine gg rfl (q04 (hN (k+1,w'.set k u,(c+q*dg v k)/2^32,b') ⟨hkn,by simp[hl'],ho'.set _ g4,by simp only;omega,g5,?_,?_⟩ (by simp only;omega) (q24 rfl ⟨q05 q0u _,q05 q0u _,q05 q0u _,trivial⟩ ⟨by simp[q00,wk1],Old.old rfl rfl rfl rfl rfl rfl⟩)))
  ·simp only
   rw[q2V (by omega),q0V v,q0V w,show(2:Nat)^32=4294967296 by decide,Nat.pow_succ]
   have hs:=hsame k (Nat.le_refl _)
   rw[hs]at g6
   have hdm:=Nat.div_add_mod (c+q*dg v k) 4294967296
   generalize (c+q*dg v k)/4294967296=c' at*
   generalize (c+q*dg v k)%4294967296=lo at*
   generalize 4294967296^k=P at*
   have e5:P*u+P*(q*dg v k)+P*(b+c)=P*dg w k+P*(4294967296*(b'+c')):=by
    rw[←Nat.mul_add,←Nat.mul_add,←Nat.mul_add];congr 1;omega
   rw[Nat.mul_add q,Nat.mul_left_comm q P,Nat.mul_assoc P 4294967296]
   omega
  intro j hj
  simp only at hj⊢
  rw[q3u,if_neg (by omega)]
  exact hsame j (by omega)
 rw[q07]at e1
 simp only at e1
 obtain rfl:k=n:=by omega
 clear hN
 obtain⟨se1,se2⟩:=qCF T hq1 hq4 hl' ho' hc hb hinv
 have hdn:=hsame k (Nat.le_refl _)
 have cn:IntKind.u64.wrap (dg w' k:Int)=(dg w' k:Int):=q0F (by rw[hdn];omega)
 refine gg rfl (q04 (gg rfl (q0J k rfl rfl rfl rfl rfl (by omega) ?_)))
 refine gg rfl (q6u pre w' post k rfl rfl rfl (by omega) ?_)
 refine gg rfl ?_
 by_cases hcase:c+b≤dg w k
 ·obtain⟨f1,f2⟩:=se1 hcase
  have ed:IntKind.u64.wrap (IntKind.u64.wrap (IntKind.u64.wrap (dg w' k:Int)-(c:Int))-(b:Int))=((dg w k-c-b:Nat):Int):=by rw[hdn];simp only[q0Y];omega
  have ed2:IntKind.u32.wrap ((dg w k-c-b:Nat):Int)=((dg w k-c-b:Nat):Int):=by rw[q19];omega
  have eq2:IntKind.u32.wrap (q:Int)=(q:Int):=by rw[q19];omega
  rw[ed,ed2]
  refine q0J k rfl rfl rfl rfl rfl (by omega) ?_
  refine gg rfl (q5z pre w' post k (dg w k-c-b) rfl rfl rfl rfl rfl rfl (by omega) ?_)
  refine gg rfl (q1d (dg w k-c-b) 63 rfl rfl rfl rfl (by decide) ?_)
  refine gg rfl (q01 rfl (fun y1=>?_) (fun y1=>?_))
  ·refine gg rfl ?_
   rw[eq2]
   have hk':∀h' z',Old (pre++w'.set k (dg w k-c-b)++post) v Q h' z'→K (.int .u32 q) h' z' 356:=fun h' z' hol=>by
    rw[f1];exact hk (w'.set k (dg w k-c-b)) h' z' 356 (.inl rfl) (by simp[hl']) (ho'.set _ (by omega)) f2 hol
   exact qds rfl rfl (hk' _ _ (Old.of rfl rfl rfl rfl rfl rfl))
  rw[q1J]at y1
  exact absurd (by omega) y1
 obtain⟨f1,f0,f2⟩:=se2 (by omega)
 have ed:IntKind.u64.wrap (IntKind.u64.wrap (IntKind.u64.wrap (dg w' k:Int)-(c:Int))-(b:Int))=((18446744073709551616+dg w k-c-b:Nat):Int):=by rw[hdn];simp only[q0Y];omega
 have ed2:IntKind.u32.wrap ((18446744073709551616+dg w k-c-b:Nat):Int)=((dg w k+4294967296-c-b:Nat):Int):=by rw[q19];omega
 rw[ed,ed2]
 refine q0J k rfl rfl rfl rfl rfl (by omega) ?_
 refine gg rfl (q5z pre w' post k (dg w k+4294967296-c-b) rfl rfl rfl rfl rfl rfl (by omega) ?_)
 refine gg rfl (q1d (18446744073709551616+dg w k-c-b) 63 rfl rfl rfl rfl (by decide) ?_)
 refine gg rfl (q01 rfl (fun y1=>?_) (fun y1=>?_))
 ·rw[q1I]at y1
  omega
 refine gg rfl ?_
 have hl1:(w'.set k (dg w k+4294967296-c-b)).length=k+1:=by simp[hl']
 have ho1:LOk (w'.set k (dg w k+4294967296-c-b)):=ho'.set _ f0
 generalize w'.set k (dg w k+4294967296-c-b)=x1 at*
 refine q2X (S:=fun x:Nat×List Nat×Nat=>([.ref 2 pre.length (k+1),q00 k,.int .u64 q,.int .u64 x.2.2,.ref 3 0 k,q00 k,q00 x.1],[none,none,none,none,none,none,none],[0,0,0,0,0,0,0]))
  (O:=fun x ho zo=>Old (pre++x.2.1++post) v Q ho zo)
  (C:=fun x=>x.1≤k∧x.2.1.length=k+1∧LOk x.2.1∧x.2.2≤1∧val (x.2.1.take x.1)+4294967296^x.1*x.2.2=val (x1.take x.1)+val (v.take x.1)∧∀j,x.1≤j→dg x.2.1 j=dg x1 j) (m:=fun x=>k-x.1) (0,x1,0)
  ⟨Nat.zero_le _,hl1,ho1,by simp,by simp[val],fun j _=>rfl⟩ (by simp only;omega) ?_ ?_
 ·exact q24 rfl ⟨q05 q0u _,q05 q0u _,trivial⟩ ⟨by simp[q00],Old.old rfl rfl rfl rfl rfl rfl⟩
 rintro⟨i,x2,c2'⟩ ⟨hi1,hl2,ho2,hc2,hinv2,hsame2⟩ ho zo hold N hN
 obtain⟨⟨h3,rfl⟩,z3,rfl⟩:=hold
 simp only at hi1 hl2 ho2 hc2 hinv2 hsame2
 refine gg rfl (q01 rfl (fun e2=>?_) (fun e2=>?_))
 ·rw[q06]at e2
  simp only at e2
  have hik:i<k:=by omega
  have hvi:=q1q T.vo i
  have hxi:=q1q ho2 i
  have wi1:=wS (n:=i)
  have es:IntKind.u64.wrap ((c2':Int)+IntKind.u64.wrap (IntKind.u64.wrap (dg x2 i:Int)+IntKind.u64.wrap (dg v i:Int)))=((c2'+dg x2 i+dg v i:Nat):Int):=by simp only[q0Y];omega
  refine gg rfl (q0J i rfl rfl rfl rfl rfl hik (gg rfl (q4I v i rfl (Nat.zero_add _) rfl (by omega) ?_)))
  refine gg rfl (q0J i rfl rfl rfl rfl rfl (by omega) ?_)
  refine gg rfl (q6u pre x2 post i rfl rfl rfl (by omega) ?_)
  refine gg rfl ?_
  rw[es,q19]
  refine q0J i rfl rfl rfl rfl rfl (by omega) ?_
  refine gg rfl (q5z pre x2 post i ((c2'+dg x2 i+dg v i)%4294967296) rfl rfl rfl rfl rfl rfl (by omega) ?_)
  refine gg rfl (q1d (c2'+dg x2 i+dg v i) 32 rfl rfl rfl rfl (by decide) ?_)
  refine gg rfl (q04 (hN (i+1,x2.set i ((c2'+dg x2 i+dg v i)%4294967296),(c2'+dg x2 i+dg v i)/2^32) ⟨hik,by simp[hl2],ho2.set _ (Nat.mod_lt _ (by decide)),by simp only;omega,?_,?_⟩ (by simp only;omega) (q24 rfl ⟨q05 q0u _,q05 q0u _,trivial⟩ ⟨by simp[q00,wi1],Old.old rfl rfl rfl rfl rfl rfl⟩)))
  ·simp only
   rw[q2V (by omega),q0V x1,q0V v,show(2:Nat)^32=4294967296 by decide,Nat.pow_succ,Nat.add_assoc,q4H,Nat.mul_add,Nat.mul_add,hsame2 i (Nat.le_refl _)]
   omega
  intro j hj
  simp only at hj⊢
  rw[q3u,if_neg (by omega)]
  exact hsame2 j (by omega)
 rw[q07]at e2
 simp only at e2
 obtain rfl:i=k:=by omega
 clear hN
 have hdx:=hsame2 i (Nat.le_refl _)
 have hx1:=q1q ho1 i
 have fin:=qCG T f1 hl1 ho1 hl2 ho2 hc2 hdx f2 hinv2
 have ec2:IntKind.u32.wrap (c2':Int)=(c2':Int):=by rw[q19];omega
 have ea2:IntKind.u32.wrap ((dg x2 i:Int)+(c2':Int))=(((dg x1 i+c2')%4294967296:Nat):Int):=by rw[hdx,qby];omega
 have eq3:IntKind.u32.wrap (IntKind.u64.wrap ((q:Int)-1))=((val w/val (v.take i):Nat):Int):=by
  have a1:=f1
  have a2:=hqlt
  generalize val w/val (v.take i)=Qt at a1 a2⊢
  rw[q0Y,qby]
  clear hinv hinv2 hqr hq1 hq2 hql f2 fin
  omega
 refine gg rfl (q04 (gg rfl (q0J i rfl rfl rfl rfl rfl (by omega) ?_)))
 refine gg rfl (q6u pre x2 post i rfl rfl rfl (by omega) ?_)
 refine gg rfl ?_
 rw[ec2,ea2]
 refine q0J i rfl rfl rfl rfl rfl (by omega) ?_
 refine gg rfl (q5z pre x2 post i ((dg x1 i+c2')%4294967296) rfl rfl rfl rfl rfl rfl (by omega) ?_)
 refine gg rfl ?_
 rw[eq3]
 exact qds rfl rfl (hk (x2.set i ((dg x1 i+c2')%4294967296)) _ _ 401 (.inr rfl) (by simp[hl2]) (ho2.set _ (Nat.mod_lt _ (by decide))) fin (Old.of rfl rfl rfl rfl rfl rfl))
end Go.F

namespace Go.F
attribute [local irreducible] IntKind.wrap wpM
theorem qCH {U:List Nat}{i n:Nat}(h:i+n+1≤U.length):U=U.take i++(U.drop i).take (n+1)++U.drop (i+n+1)∧(U.take i).length=i∧((U.drop i).take (n+1)).length=n+1:=by
 refine⟨?_,by simp;omega,by simp;omega⟩
 rw[List.append_assoc,show U.drop (i+n+1)=(U.drop i).drop (n+1)by rw[List.drop_drop];congr 1,List.take_append_drop,List.take_append_drop]
theorem qas {l:List Nat}{n:Nat}(h:val l<4294967296^n):val (l.drop n)=0∧val (l.take n)=val l:=by
 have:=q31 l n
 have hz:val (l.drop n)=0:=by
  by_cases h0:val (l.drop n)=0
  ·exact h0
  have:4294967296^n*1≤4294967296^n*val (l.drop n):=Nat.mul_le_mul_left _ (by omega)
  omega
 rw[hz]at this
 exact⟨hz,by omega⟩
structure Dv (r v U Q:List Nat)(n m j:Nat):Prop where
 jm:j≤m
 ul:U.length=m+n
 uo:LOk U
 ql:Q.length=m
 qo:LOk Q
 lt:val (U.drop j)<val (v.take n)
 eq:val r=val U+val (v.take n) *(4294967296^j*val (Q.drop j))
theorem Dv.trial {r v U Q:List Nat}{n m j:Nat}(h:Dv r v U Q n m (j+1))(n2:2≤n)(vo:LOk v)(vl:n≤v.length)(hi:2147483648≤dg v (n-1)):
 Trial ((U.drop j).take (n+1)) v n∧val ((U.drop j).take (n+1))=val (U.drop j):=by
 have hl:=h.ul
 have hj:=h.jm
 have hV:=q2n vo n
 have hlt:=h.lt
 have e1:val (U.drop j)<4294967296*val (v.take n):=by
  rw[q37]
  have:=q1q h.uo j
  omega
 have e2:val (U.drop j)<4294967296^(n+1):=by
  rw[Nat.pow_succ]
  have:4294967296*val (v.take n)≤4294967296*4294967296^n:=Nat.mul_le_mul_left _ (by omega)
  omega
 have e3:=(qas e2).2
 exact⟨⟨n2,by simp;omega,(h.uo.drop j).take _,vo,vl,hi,by rw[e3];exact e1⟩,e3⟩
theorem Dv.next {r v U Q w':List Nat}{n m j:Nat}(h:Dv r v U Q n m (j+1))(T:Trial ((U.drop j).take (n+1)) v n)(hw:val ((U.drop j).take (n+1))=val (U.drop j))(hl':w'.length=n+1)(ho':LOk w')(hv':val w'=val ((U.drop j).take (n+1))%val (v.take n)):
 Dv r v (U.take j++w'++U.drop (j+n+1)) (Q.set j (val ((U.drop j).take (n+1))/val (v.take n))) n m j:=by
 have hl:=h.ul
 have hj:=h.jm
 have hpos:=T.pos.2
 have hq:=T.qlt
 obtain⟨w1,w2,w3⟩:=qCH (U:=U) (i:=j) (n:=n) (by omega)
 have hpz:val (U.drop (j+n+1))=0:=by
  have:=q31 (U.drop j) (n+1)
  rw[hw,List.drop_drop,show j+(n+1)=j+n+1 by omega]at this
  have hp:0<4294967296^(n+1):=Nat.pow_pos (by decide)
  have h0:4294967296^(n+1) *val (U.drop (j+n+1))=0:=by omega
  rcases Nat.mul_eq_zero.1 h0 with h1|h1
  ·omega
  exact h1
 refine⟨by omega,by simp[hl'];omega,((h.uo.take j).append ho').append (h.uo.drop _),by simp[h.ql],h.qo.set _ hq,?_,?_⟩
 ·rw[List.append_assoc,List.drop_left' w2,val_append,hpz,hv']
  have:=Nat.mod_lt (val ((U.drop j).take (n+1))) hpos
  omega
 have heq:=h.eq
 have e1:val (U.take j++w'++U.drop (j+n+1))=val (U.take j)+4294967296^j*val w':=by
  rw[List.append_assoc,val_append,val_append,w2,hpz];simp
 have e2:val U=val (U.take j)+4294967296^j*val (U.drop j):=q31 U j
 rw[e1,q37,q3u,if_pos ⟨rfl,by rw[h.ql];omega⟩,List.drop_set_of_lt (by omega),hv',hw]
 rw[heq,e2,Nat.pow_succ]
 have hdm:=Nat.div_add_mod (val (U.drop j)) (val (v.take n))
 generalize val (v.take n)=V at*
 generalize val (U.drop j)/V=q at*
 generalize val (U.drop j)%V=R at*
 rw[←hdm]
 generalize val (Q.drop (j+1))=X
 generalize 4294967296^j=P
 grind
set_option maxHeartbeats 8000000 in
theorem qfG (a b:List Nat) [ha:LOk a] [hb:LOk b](hla:a.length≤900000000)(hlb:b.length≤900000000):
 PU qkv [nat a,nat b]=some (if val b=0 then .tup [nat [],nat [],.bool false]else .tup [nat (q0f (val a/val b)),nat (q0f (val a%val b)),.bool true]):=by
 have ea:val (q0f (val a))=val a:=q0o _
 have eb:val (q0f (val b))=val b:=q0o _
 have hla':=q1R ha
 have hlb':=q1R hb
 refine q0g (fn:=qbb) rfl (q0a ?_)
 refine gg rfl (q02 rfl rfl (q2U a (by omega)) ?_)
 refine gg rfl (q02 rfl rfl (q2U b (by omega)) ?_)
 refine gg rfl ?_
 have hAo:LOk (q0f (val a)):=q0D _
 have hBo:LOk (q0f (val b)):=q0D _
 have hb0:(q0f (val b)).length=0↔val b=0:=by rw[List.length_eq_zero_iff];exact qkC
 have hbtop:val b≠0→dg (q0f (val b)) ((q0f (val b)).length-1)≠0:=qtR
 have hlen:val b≤val a→(q0f (val b)).length≤(q0f (val a)).length:=fun h=>q0q.2 (Nat.lt_of_le_of_lt h (q0q.1 (Nat.le_refl _)))
 generalize q0f (val a)=A at*
 generalize q0f (val b)=B at*
 rw[List.length_map]
 refine q01 rfl (fun h1=>?_) (fun h1=>?_)
 ·rw[q1I]at h1
  refine gg rfl (q09 rfl rfl rfl trivial ?_)
  rw[if_pos (hb0.1 (by omega))];rfl
 rw[q1J]at h1
 have hvb:val b≠0:=fun h=>h1 (by have:=hb0.2 h;omega)
 rw[if_neg hvb]
 refine gg rfl (q02 rfl rfl (qqs A B (by omega) (by omega)) ?_)
 refine gg rfl ?_
 rw[ea,eb]
 refine q01 rfl (fun h2=>?_) (fun h2=>?_)
 ·rw[q06]at h2
  have hlt:val a<val b:=by
   unfold q3W at h2
   split at h2
   ·omega
   split at h2<;>omega
  refine gg rfl (q02 rfl rfl (q5L A (by omega)) ?_)
  refine gg rfl (q09 rfl rfl rfl trivial ?_)
  rw[Nat.div_eq_of_lt hlt,Nat.mod_eq_of_lt hlt,ea];rfl
 rw[q07]at h2
 have hle:val b≤val a:=by
  unfold q3W at h2
  split at h2
  ·omega
  omega
 have hlen:=hlen hle
 refine gg rfl ?_
 rw[List.length_map]
 refine q01 rfl (fun h3=>?_) (fun h3=>?_)
 ·rw[q1I]at h3
  have hB1:B.length=1:=by omega
  have hd:=q1q hBo 0
  have ev:val B=dg B 0:=by
   have:=q0V B 0
   rw[List.take_of_length_le (by omega)]at this
   simpa[val]using this
  have hd0:dg B 0≠0:=by rw[←ev,eb];exact hvb
  have w0:IntKind.u64.wrap ((val A%dg B 0:Nat):Int)=((val A%dg B 0:Nat):Int):=q0F (by have:=Nat.mod_lt (val A) (show 0<dg B 0 by omega);omega)
  refine gg rfl (q0j 0 rfl rfl rfl (q2P (by omega)) rfl ?_)
  refine gg rfl (q02 rfl rfl (qH4 A (dg B 0) (by omega) hd0 hd) ?_)
  refine gg rfl ?_
  rw[w0]
  refine q02 rfl rfl (q7l (val A%dg B 0) (by have:=Nat.mod_lt (val A) (show 0<dg B 0 by omega);omega)) ?_
  refine gg rfl (q09 rfl rfl rfl trivial ?_)
  rw[←eb,←ea,ev]
  rfl
 rw[q1J]at h3
 have hn2:2≤B.length:=by omega
 generalize hn:B.length=n at*
 have wn1:IntKind.i64.wrap ((n:Int)-1)=((n-1:Nat):Int):=by rw[wrap64 (by omega) (by omega)];omega
 obtain⟨s,hs1,hs2,hs3,hs4⟩:=qjj (dg B (n-1)) (q1q hBo _) (hbtop hvb)
 refine gg rfl ?_
 rw[List.length_map,hn]
 refine q0j (n-1) rfl rfl wn1 (q2P (by omega)) rfl ?_
 refine gg rfl (q02 rfl rfl hs1 (gg rfl (q6y rfl rfl (left1 A s (by omega) hs2 trivial fun r h' z' hr hro hrv hh' hz' _=>?_))))
 refine gg rfl (q6y rfl rfl (left2 B s (by omega) hs2 r ⟨hh',hz'⟩ fun v h'' z'' hv hvo hvv hh'' hz'' hold=>?_))
 obtain⟨h0,rfl⟩:∃h0:q0e,h''=upd (upd h0 80 (some (.row (r.map u32) 1))) 131 (some (.row (v.map u32) 1)):=⟨h'',by rw[q2J (f:=h'') hold.1,q2J (f:=h'') hh'']⟩
 obtain⟨z0,rfl⟩:∃z0:Frz,z''=upd (upd z0 80 0) 131 0:=⟨z'',by rw[q2J (f:=z'') hold.2,q2J (f:=z'') hz'']⟩
 rw[hn]at hv
 refine gg rfl (qaB n rfl rfl rfl ⟨_,_,rfl,rfl⟩ (by omega) ?_)
 refine gg rfl ?_
 have wm:IntKind.i64.wrap (((A.length+1:Nat):Int)-(n:Int))=((A.length+1-n:Nat):Int):=by rw[wrap64 (by omega) (by omega)];omega
 rw[wm]
 refine q48 (A.length+1-n) rfl rfl rfl (by simp[q0N];omega) ?_
 rw[q8a]
 refine gg rfl ?_
 have wm1:=ww (x:=((A.length+1-n:Nat):Int)-1)
 generalize hm:A.length+1-n=m at*
 have hAl:A.length+1=m+n:=by omega
 rw[hAl]at hr
 have hvV:val (v.take n)=val b*2^s:=by
  have h5:val v<4294967296^n:=by
   rw[hvv]
   have e1:=q0V B (n-1)
   rw[Nat.sub_add_cancel (by omega),List.take_of_length_le (by omega)]at e1
   have e2:=q2n hBo (n-1)
   have e3:val B<4294967296^(n-1) *(dg B (n-1)+1):=by rw[e1,Nat.mul_add];omega
   have e4:4294967296^n=4294967296^(n-1) *4294967296:=by rw[←Nat.pow_succ];congr 1;omega
   calc val B*2^s<4294967296^(n-1) *(dg B (n-1)+1) *2^s:=Nat.mul_lt_mul_of_pos_right e3 (Nat.two_pow_pos s)
    _=4294967296^(n-1) *((dg B (n-1)+1) *2^s):=Nat.mul_assoc _ _ _
    _≤4294967296^(n-1) *4294967296:=Nat.mul_le_mul_left _ hs4
    _=4294967296^n:=e4.symm
  rw[(qas h5).2,hvv,eb]
 have hvtop:2147483648≤dg v (n-1):=by
  rw[qB7 hvo,hvv]
  have e1:=q0V B (n-1)
  rw[Nat.sub_add_cancel (by omega),List.take_of_length_le (by omega)]at e1
  have e2:dg B (n-1) *2^s≤val B*2^s/4294967296^(n-1):=by
   rw[Nat.le_div_iff_mul_le (Nat.pow_pos (by decide)),e1,Nat.mul_right_comm]
   refine Nat.mul_le_mul_right _ ?_
   rw[Nat.mul_comm];omega
  have e3:val B*2^s/4294967296^(n-1)<4294967296:=by
   rw[Nat.div_lt_iff_lt_mul (Nat.pow_pos (by decide)),Nat.mul_comm 4294967296,←Nat.pow_succ,show(n-1).succ=n by omega,eb,←hvV]
   exact q2n hvo n
  rw[Nat.mod_eq_of_lt e3]
  omega
 have hstart:Dv r v r (List.replicate m 0) n m m:=by
  refine⟨Nat.le_refl _,hr,hro,by simp,q5y _,?_,by simp[val]⟩
  have e1:=q31 r m
  have e2:val r<4294967296^m*(4294967296^(n-1) *2^s):=by
   rw[hrv,←Nat.mul_assoc,←Nat.pow_add,show m+(n-1)=A.length by omega]
   exact Nat.mul_lt_mul_of_pos_right (q3d hAo) (Nat.two_pow_pos s)
  have e3:val (r.drop m)<4294967296^(n-1) *2^s:=by
   refine Nat.lt_of_mul_lt_mul_left (a:=4294967296^m) ?_
   omega
  have e4:4294967296^(n-1) *dg v (n-1)≤val (v.take n):=by
   have:=q0V v (n-1)
   rw[Nat.sub_add_cancel (by omega)]at this
   omega
  have e5:2^s≤2147483648:=by simpa using Nat.pow_le_pow_right (n:=2) (by decide) hs2
  have e6:4294967296^(n-1) *2^s≤4294967296^(n-1) *dg v (n-1):=Nat.mul_le_mul_left _ (by omega)
  omega
 refine q0l (S:=fun x:Nat×List Nat×List Nat=>([q00 n,q00 s,.ref 2 0 (m+n),.ref 3 0 n,.ref 4 0 m,q00 ((x.1:Int)-1)],[none,none,some (.row (x.2.1.map u32) 1),some (.row (v.map u32) 1),some (.row (x.2.2.map u32) 1),none],[0,0,0,0,0,0]))
  (C:=fun x=>Dv r v x.2.1 x.2.2 n m x.1) (m:=fun x=>x.1) (m,r,List.replicate m 0) hstart (by simp only;omega) ?_ ?_
 ·exact q03 rfl ⟨q05 q0u _,q05 q0u _,q05 q0u _,trivial⟩ (by simp[q00,wm1,hAl])
 rintro⟨j,U,Q⟩ hD N hN
 simp only at hD
 have hul:=hD.ul
 have hql:=hD.ql
 have hjm:=hD.jm
 refine gg rfl (q01 rfl (fun g1=>?_) (fun g1=>?_))
 ·rw[q0G]at g1
  simp only at g1
  obtain⟨i,rfl⟩:∃i,j=i+1:=⟨j-1,by omega⟩
  obtain⟨T,hT⟩:=hD.trial hn2 hvo (by omega) hvtop
  obtain⟨w1,w2,w3⟩:=qCH (U:=U) (i:=i) (n:=n) (by omega)
  have ei:((i+1:Nat):Int)-1=(i:Int):=by omega
  have wi:IntKind.i64.wrap (IntKind.i64.wrap ((i:Int)+(n:Int))+1)=((i+n+1:Nat):Int):=by rw[wrap64 (x:=(i:Int)+n) (by omega) (by omega),wrap64 (by omega) (by omega)];omega
  refine gg rfl ?_
  rw[ei]
  refine qzw i (i+n+1) rfl rfl rfl ⟨_,_,rfl,rfl⟩ ⟨_,_,rfl,wi⟩ (by omega) ?_
  have esl:(if i=0 then D.ref 2 0 (i+n+1)else if i=i+n+1 then D.lst []else D.ref 2 (0+i) (i+n+1-i))=D.ref 2 (U.take i).length (n+1):=by
   rw[w2]
   by_cases hi0:i=0
   ·subst hi0;simp
   rw[if_neg hi0,if_neg (by omega)];congr 1<;>omega
  rw[esl]
  refine gg rfl (q6y rfl rfl (qH1 (U.take i) ((U.drop i).take (n+1)) (U.drop (i+n+1)) v Q n T (by omega) (Old.of (by rw[←w1];rfl) rfl rfl rfl rfl rfl) fun w' h' z' nx' hnx hl' ho' hv' hold=>?_))
  obtain⟨⟨h1,rfl⟩,z1,rfl⟩:=hold
  have hD':=hD.next T hT hl' ho' hv'
  generalize U.take i++w'++U.drop (i+n+1)=U' at*
  have hq:=T.qlt
  generalize val ((U.drop i).take (n+1))/val (v.take n)=qd at*
  have wj:=ww (x:=(i:Int)-1)
  rcases hnx with rfl|rfl
  ·refine gg rfl (q0J i rfl rfl rfl rfl rfl (by omega) ?_)
   refine gg rfl (q2a Q i qd rfl rfl (Nat.zero_add _) rfl rfl (Nat.zero_le _) (by omega) ?_)
   exact gg rfl (q04 (hN (i,U',Q.set i qd) hD' (by simp only;omega) (q03 rfl ⟨q05 q0u _,q05 q0u _,q05 q0u _,trivial⟩ (by simp[q00,wj]))))
  refine gg rfl (q0J i rfl rfl rfl rfl rfl (by omega) ?_)
  refine gg rfl (q2a Q i qd rfl rfl (Nat.zero_add _) rfl rfl (Nat.zero_le _) (by omega) ?_)
  exact gg rfl (q04 (hN (i,U',Q.set i qd) hD' (by simp only;omega) (q03 rfl ⟨q05 q0u _,q05 q0u _,q05 q0u _,trivial⟩ (by simp[q00,wj]))))
 rw[q0I]at g1
 simp only at g1
 obtain rfl:j=0:=by omega
 have heq:=hD.eq
 have hlt:=hD.lt
 simp only[Nat.pow_zero,Nat.one_mul,List.drop_zero]at heq hlt
 have hU:val U<4294967296^n:=Nat.lt_trans hlt (q2n hvo n)
 have hUt:=(qas hU).2
 have hpos:0<val (v.take n):=by omega
 have hQ:val Q=val a/val b:=by
  have:val Q=val r/val (v.take n):=by rw[heq,Nat.add_mul_div_left _ _ hpos,Nat.div_eq_of_lt hlt,Nat.zero_add]
  rw[this,hrv,hvV,ea,Nat.mul_div_mul_right _ _ (Nat.two_pow_pos s)]
 have hR:val (U.take n)/2^s=val a%val b:=by
  have:val U=val r%val (v.take n):=by rw[heq,Nat.add_mul_mod_self_left,Nat.mod_eq_of_lt hlt]
  rw[hUt,this,hrv,hvV,ea,Nat.mul_mod_mul_right,Nat.mul_div_cancel _ (Nat.two_pow_pos s)]
 have hQo:=hD.qo
 have hUo:LOk (U.take n):=hD.uo.take n
 have hp:=q2U Q (by omega)
 rw[hQ]at hp
 have hp2:=qkE (U.take n) s (by simp;omega) hs2
 rw[hR]at hp2
 have hrow:D.lst ((U.map u32).take n)=nat (U.take n):=by rw[nat,List.map_take]
 refine gg rfl (q04 (gg rfl (q2s rfl rfl ⟨q42 (l:=Q) hql.symm,trivial⟩ (by rw[q4o (l:=Q) hql.symm];exact hp) fun z=>?_)))
 refine gg rfl (qaB n rfl rfl rfl ⟨_,_,rfl,rfl⟩ (by omega) ?_)
 refine gg rfl (q2s rfl rfl ⟨⟨by simp;omega,?_⟩,trivial⟩ (by rw[hrow];exact hp2) fun z=>?_)
 ·rw[List.drop_zero,←List.map_take];exact q0L qCE _
 exact gg rfl (q09 rfl rfl rfl trivial rfl)
def bl (n:Nat):Nat:=if n=0 then 0 else n.log2+1
theorem qys {n k:Nat}(h:n<4294967296^k):bl n≤32*k:=by
 unfold bl
 split
 ·omega
 rename_i h0
 rw[show(4294967296:Nat)=2^32 by decide,←Nat.pow_mul]at h
 exact(Nat.log2_lt h0).2 h
theorem qH2 {x y:Nat}(hy:y≠0)(h:y≤x):bl (x%y)<bl x:=by
 have hx:x≠0:=by omega
 unfold bl
 rw[if_neg hx]
 split
 ·omega
 rename_i h0
 have h2:2*(x%y)≤x:=by
  have hm:=Nat.mod_lt x (show 0<y by omega)
  have hd:=Nat.div_add_mod x y
  have hq:1≤x/y:=(Nat.le_div_iff_mul_le (by omega)).2 (by omega)
  have:y*1≤y*(x/y):=Nat.mul_le_mul_left _ hq
  omega
 have h3:(x%y).log2+1≤x.log2:=by
  have:=(Nat.le_log2 hx (k:=(x%y).log2+1)).2 (by
   have:=Nat.log2_self_le h0
   rw[Nat.pow_succ];omega)
  exact this
 omega
theorem Gcd_PU (a b:List Nat) [ha:LOk a] [hb:LOk b](hla:a.length≤900000000)(hlb:b.length≤900000000):PU qs6 [nat a,nat b]=some (nat (q0f (Nat.gcd (val a) (val b)))):=by
 refine q0g (fn:=qgd) rfl (q0a ?_)
 refine gg rfl (q02 rfl rfl (q5L a (by omega)) ?_)
 refine gg rfl (q02 rfl rfl (q5L b (by omega)) ?_)
 refine gg rfl ?_
 obtain⟨K,hK⟩:∃K:Nat,K=900000000:=⟨_,rfl⟩
 rw[←hK]at hla hlb
 have hA:=Nat.lt_of_lt_of_le (q3d ha) (Nat.pow_le_pow_right (show 0<4294967296 by decide) hla)
 have hB:=Nat.lt_of_lt_of_le (q3d hb) (Nat.pow_le_pow_right (show 0<4294967296 by decide) hlb)
 refine q0l (S:=fun x:Nat×Nat=>([nat (q0f x.1),nat (q0f x.2)],[none,none],[0,0])) (C:=fun x=>x.1<4294967296^K∧x.2<4294967296^K∧Nat.gcd x.1 x.2=Nat.gcd (val a) (val b)) (m:=fun x=>2*(bl x.1+bl x.2)+if x.1<x.2 then 1 else 0) (val a,val b) ⟨hA,hB,rfl⟩ ?_ ?_ ?_
 ·simp only
  have h1:=qys hA
  have h2:=qys hB
  split<;>omega
 ·exact q03 rfl trivial (by simp[nat])
 rintro⟨x,y⟩ ⟨hx,hy,hg⟩ N hN
 simp only at hx hy hg
 refine gg rfl ?_
 rw[List.length_map]
 refine q01 rfl (fun h1=>?_) (fun h1=>?_)
 ·rw[q06]at h1
  have hy0:y≠0:=q3t.1 (by simp only at h1;omega)
  have hp:=qfG (q0f x) (q0f y) (hK▸q0q.2 hx) (hK▸q0q.2 hy)
  rw[q0o,q0o,if_neg hy0]at hp
  refine gg rfl (q02 rfl rfl hp (gg rfl (q04 (hN (y,x%y) ⟨hy,Nat.lt_of_le_of_lt (Nat.mod_le _ _) hx,?_⟩ ?_ (q03 rfl trivial (by simp[nat]))))))
  ·simp only
   rw[←hg,Nat.gcd_comm x y,Nat.gcd_rec y x,Nat.gcd_comm]
  simp only
  have hm:=Nat.mod_lt x (show 0<y by omega)
  by_cases hxy:x<y
  ·rw[if_pos hxy,Nat.mod_eq_of_lt hxy,if_neg (by omega)];omega
  have:=qH2 hy0 (Nat.le_of_not_lt hxy)
  rw[if_neg hxy,if_neg (by omega)];omega
 rw[q07]at h1
 have hy0:y=0:=by
  by_cases h:y=0
  ·exact h
  have:=q3t.2 h;simp only at h1;omega
 refine gg rfl (q04 (gg rfl (q09 rfl rfl rfl trivial ?_)))
 rw[←hg,hy0,Nat.gcd_zero_right];rfl
end Go.F
