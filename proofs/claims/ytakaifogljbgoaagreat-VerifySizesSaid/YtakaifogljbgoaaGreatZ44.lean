/- Parts of the proof, part 44: Geo1, Geo2, Geo3, Geo4, Geo5, Geo6, Geo7, Geo8, Geo9, St1, Ref1, Plain1, Ref2, Ref3, All1, All2, Flt, Stop3, Nat1, Nat2, Nat3, Nat4, Nat5, Nat6, Nat7, Nat8, Nat9, Nat10, Nat11, Nat12, Int1, Rat1, Rat2, Rat3, Pt1, All3, All4, Gr1, Stop4, All5, All6, Ex1, Ex2, Sml, Zero, Nz1, Nz2, Nz3, Nz4, Nz5, Nz6, Nz7, Nz8, Nz9, SegP, Ply1, D64, D64b, D64c, Ply2, Gr2, Map1, St2, St3, St4, St5, SPl, V1, V2, V3, V4, Lgt, V11. -/
import Derived.Test.YtakaifogljbgoaaGreatZ43
import Derived.KernelRfl
set_option linter.all false
namespace Go.F
attribute [local irreducible] IntKind.wrap wpM
def q12 (a b c:Spot):Int:=(b.x-a.x) *(c.y-a.y)-(b.y-a.y) *(c.x-a.x)
theorem qhT (a b c:Spot) [OkS a] [OkS b] [OkS c]:PU q5f [a.enc,b.enc,c.enc]=some (.int .i64 (q12 a b c)):=by
 refine q0g (fn:=qby) rfl (q0a ?_)
 repeat' (first
  |refine goP 800 rfl rfl ?_
  |refine q0h rfl ?_|refine q0o rfl ?_|refine q09 rfl (fun _=>?_) (fun _=>?_)
  |refine q0e rfl ?_|refine q0j rfl ?_|refine q01 rfl (fun _=>?_) (fun _=>?_)
  |refine q0L rfl (fun _=>?_) (fun _=>?_)
  |refine q08 rfl rfl rfl trivial ?_)
 simp[q0U,q12]
def onS (a b p:Spot):Bool:=decide (q12 a b p=0)&&(decide (min a.x b.x≤p.x)&&(decide (p.x≤max a.x b.x)&&(decide (min a.y b.y≤p.y)&&decide (p.y≤max a.y b.y))))
theorem on_PU (a b p:Spot) [OkS a] [OkS b] [OkS p]:PU qi5 [a.enc,b.enc,p.enc]=some (.bool (onS a b p)):=by
 refine q0g (fn:=qhz) rfl (q0a ?_)
 repeat' (first
  |refine goP 800 rfl rfl ?_
  |refine q0h rfl ?_|refine q0o rfl ?_|refine q09 rfl (fun _=>?_) (fun _=>?_)
  |refine q0e rfl ?_|refine q0j rfl ?_|refine q01 rfl (fun _=>?_) (fun _=>?_)
  |refine q0L rfl (fun _=>?_) (fun _=>?_)
  |refine q08 rfl rfl rfl trivial ?_
  |refine q02 rfl rfl (qhT _ _ _) ?_)
 all_goals ((try simp only[q1M,q26,q2c,q42,decide_eq_true_eq,decide_eq_false_iff_not,Bool.not_eq_true,Bool.not_eq_false,Int.not_lt,Int.not_le]at*);first|(simp_all[onS];done) |(simp_all[onS];omega) |(rw[D.bool.injEq,Bool.eq_iff_iff];simp[onS];omega) |(rw[D.bool.injEq,Bool.eq_iff_iff];simp_all[onS];omega) |(simp[onS];split<;>(try split)<;>omega))
def sgn (n:Int):Int:=if n<0 then-1 else if 0<n then 1 else 0
theorem qyS (n:Int):Bd (sgn n) 1:=⟨by unfold sgn;split<;>(try split)<;>decide⟩
instance (n:Int):Bd (sgn n) 1:=qyS n
theorem qEH (n:Int):PU qcb [.int .i64 n]=some (.bool false):=by
 refine q0g (fn:=qbA) rfl (q0a ?_)
 repeat' (first
  |refine goP 800 rfl rfl ?_
  |refine q0h rfl ?_|refine q0o rfl ?_|refine q09 rfl (fun _=>?_) (fun _=>?_)
  |refine q0e rfl ?_|refine q0j rfl ?_|refine q01 rfl (fun _=>?_) (fun _=>?_)
  |refine q0L rfl (fun _=>?_) (fun _=>?_)
  |refine q08 rfl rfl rfl trivial ?_)
 simp[nqb]
def q3D (a b:Int):Int:=if a<b then-1 else if b<a then 1 else 0
theorem cmp0 (a:Int):q3D a 0=sgn a:=rfl
theorem qga (a b:Int):PU q5T [.int .i64 a,.int .i64 b]=some (.int .i64 (q3D a b)):=by
 refine q0g (fn:=q8W) rfl (q0a ?_)
 repeat' (first
  |refine goP 800 rfl rfl ?_
  |refine q0h rfl ?_|refine q0o rfl ?_|refine q09 rfl (fun _=>?_) (fun _=>?_)
  |refine q0e rfl ?_|refine q0j rfl ?_|refine q01 rfl (fun _=>?_) (fun _=>?_)
  |refine q0L rfl (fun _=>?_) (fun _=>?_)
  |refine q08 rfl rfl rfl trivial ?_
  |refine q02 rfl rfl (qEH _) ?_)
 all_goals ((try simp only[q1M,q26,q2c,q42,decide_eq_true_eq,decide_eq_false_iff_not,Bool.not_eq_true,Bool.not_eq_false,Int.not_lt,Int.not_le]at*);first|(simp_all[q3D];done) |(simp_all[q3D];omega) |(rw[D.bool.injEq,Bool.eq_iff_iff];simp[q3D];omega) |(rw[D.bool.injEq,Bool.eq_iff_iff];simp_all[q3D];omega) |(simp[q3D];split<;>(try split)<;>omega))
def q2m (a b c d:Spot):Bool:=decide (sgn (q12 a b c) *sgn (q12 a b d)<0)
theorem qC6 (a b c d:Spot) [OkS a] [OkS b] [OkS c] [OkS d]:PU qax [a.enc,b.enc,c.enc,d.enc]=some (.bool (q2m a b c d)):=by
 refine q0g (fn:=qa3) rfl (q0a ?_)
 repeat' (first
  |refine goP 800 rfl rfl ?_
  |refine q0h rfl ?_|refine q0o rfl ?_|refine q09 rfl (fun _=>?_) (fun _=>?_)
  |refine q0e rfl ?_|refine q0j rfl ?_|refine q01 rfl (fun _=>?_) (fun _=>?_)
  |refine q0L rfl (fun _=>?_) (fun _=>?_)
  |refine q08 rfl rfl rfl trivial ?_
  |refine q02 rfl rfl (qhT _ _ _) ?_
  |refine q02 rfl rfl (qga _ _) ?_)
 simp[cmp0,q0U,q1M,q2m]
def q2J (a b c d:Spot):Bool:=onS a b c||(onS a b d||(onS c d a||(onS c d b||(q2m a b c d&&q2m c d a b))))
theorem qGK (a b c d:Spot) [OkS a] [OkS b] [OkS c] [OkS d]:PU qoC [a.enc,b.enc,c.enc,d.enc]=some (.bool (q2J a b c d)):=by
 refine q0g (fn:=qd8) rfl (q0a ?_)
 repeat' (first
  |refine goP 800 rfl rfl ?_
  |refine q0h rfl ?_|refine q0o rfl ?_|refine q09 rfl (fun _=>?_) (fun _=>?_)
  |refine q0e rfl ?_|refine q0j rfl ?_|refine q01 rfl (fun _=>?_) (fun _=>?_)
  |refine q0L rfl (fun _=>?_) (fun _=>?_)
  |refine q08 rfl rfl rfl trivial ?_
  |refine q02 rfl rfl (on_PU _ _ _) ?_
  |refine q02 rfl rfl (qC6 _ _ _ _) ?_)
 all_goals simp_all[q2J]
def q3E (a b c:Spot):Bool:=decide (q12 a b c=0)&&decide (0<(a.x-b.x) *(c.x-b.x)+(a.y-b.y) *(c.y-b.y))
theorem qC7 (a b c:Spot) [OkS a] [OkS b] [OkS c]:PU qjj [a.enc,b.enc,c.enc]=some (.bool (q3E a b c)):=by
 refine q0g (fn:=qa9) rfl (q0a ?_)
 repeat' (first
  |refine goP 800 rfl rfl ?_
  |refine q0h rfl ?_|refine q0o rfl ?_|refine q09 rfl (fun _=>?_) (fun _=>?_)
  |refine q0e rfl ?_|refine q0j rfl ?_|refine q01 rfl (fun _=>?_) (fun _=>?_)
  |refine q0L rfl (fun _=>?_) (fun _=>?_)
  |refine q08 rfl rfl rfl trivial ?_
  |refine q02 rfl rfl (qhT _ _ _) ?_)
 all_goals ((try simp only[q1M,q26,q2c,q42,decide_eq_true_eq,decide_eq_false_iff_not,Bool.not_eq_true,Bool.not_eq_false,Int.not_lt,Int.not_le]at*);first|(simp_all[q3E,q0U];done) |(simp_all[q3E,q0U];omega) |(rw[D.bool.injEq,Bool.eq_iff_iff];simp[q3E,q0U];omega) |(rw[D.bool.injEq,Bool.eq_iff_iff];simp_all[q3E,q0U];omega) |(simp[q3E,q0U];split<;>(try split)<;>omega))
def q0v (s:Spot)(m:Int):Bool:=decide (-m≤s.x)&&(decide (s.x≤m)&&(decide (-m≤s.y)&&decide (s.y≤m)))
theorem qyT (s:Spot):PU q9i [s.enc]=some (.bool (!q0v s 1048576)):=by
 refine q0g (fn:=q8U) rfl (q0a ?_)
 repeat' (first
  |refine goP 800 rfl rfl ?_
  |refine q0h rfl ?_|refine q0o rfl ?_|refine q09 rfl (fun _=>?_) (fun _=>?_)
  |refine q0e rfl ?_|refine q0j rfl ?_|refine q01 rfl (fun _=>?_) (fun _=>?_)
  |refine q0L rfl (fun _=>?_) (fun _=>?_)
  |refine q08 rfl rfl rfl trivial ?_)
 all_goals ((try simp only[q1M,q26,q2c,q42,decide_eq_true_eq,decide_eq_false_iff_not,Bool.not_eq_true,Bool.not_eq_false,Int.not_lt,Int.not_le]at*);first|(simp_all[q0v];done) |(simp_all[q0v];omega) |(rw[D.bool.injEq,Bool.eq_iff_iff];simp[q0v];omega) |(rw[D.bool.injEq,Bool.eq_iff_iff];simp_all[q0v];omega) |(simp[q0v];split<;>(try split)<;>omega))
theorem qeR (s:Spot):PU q8q [s.enc]=some (.bool (!q0v s 1048576)):=by
 refine q0g (fn:=q84) rfl (q0a ?_)
 repeat' (first
  |refine goP 800 rfl rfl ?_
  |refine q0h rfl ?_|refine q0o rfl ?_|refine q09 rfl (fun _=>?_) (fun _=>?_)
  |refine q0e rfl ?_|refine q0j rfl ?_|refine q01 rfl (fun _=>?_) (fun _=>?_)
  |refine q0L rfl (fun _=>?_) (fun _=>?_)
  |refine q08 rfl rfl rfl trivial ?_)
 all_goals ((try simp only[q1M,q26,q2c,q42,decide_eq_true_eq,decide_eq_false_iff_not,Bool.not_eq_true,Bool.not_eq_false,Int.not_lt,Int.not_le]at*);first|(simp_all[q0v];done) |(simp_all[q0v];omega) |(rw[D.bool.injEq,Bool.eq_iff_iff];simp[q0v];omega) |(rw[D.bool.injEq,Bool.eq_iff_iff];simp_all[q0v];omega) |(simp[q0v];split<;>(try split)<;>omega))
end Go.F

namespace Go.F
attribute [local irreducible] IntKind.wrap wpM
def qdH {α:Type}(g:α→Bool)(p:List α):Int:=match p.findIdx? g with|some i=>i|none=> -1
theorem qgb {α:Type}{g:α→Bool}{p:List α}{k:Nat}(hk:k<p.length)(hno:∀j (hj:j<p.length),j<k→g p[j]=false)(hg:g p[k]=true):qdH g p=k:=by
 have:p.findIdx? g=some k:=by
  rw[List.findIdx?_eq_some_iff_getElem]
  exact⟨hk,hg,fun j hj=>by simp[hno j (by omega) hj]⟩
 simp[qdH,this]
theorem qgc {α:Type}{g:α→Bool}{p:List α}(hno:∀j (hj:j<p.length),g p[j]=false):qdH g p= -1:=by
 have:p.findIdx? g=none:=by
  rw[List.findIdx?_eq_none_iff]
  intro x hx
  obtain⟨j,hj,rfl⟩:=List.mem_iff_getElem.1 hx
  exact hno j hj
 simp[qdH,this]
theorem qb5 {α:Type}{g:α→Bool}{p:List α}:decide (0≤qdH g p)=p.any g:=by
 cases h:p.findIdx? g with
 |none=>
  have hn:=h
  rw[List.findIdx?_eq_none_iff]at hn
  have:p.any g=false:=by rw[List.any_eq_false];exact fun x hx=>by simp[hn x hx]
  simp[qdH,h,this]
 |some i=>
  rw[List.findIdx?_eq_some_iff_getElem]at h
  obtain⟨hi,hg,_⟩:=h
  have h2:p.findIdx? g=some i:=by rw[List.findIdx?_eq_some_iff_getElem];exact⟨hi,hg,by assumption⟩
  have:p.any g=true:=by rw[List.any_eq_true];exact⟨p[i],List.getElem_mem _,hg⟩
  simp[qdH,h2,this]
theorem qtk (fid:FuncId)(g:Spot→Bool)(hsh:q4B fid=false)(hg:∀s,PU fid [s.enc]=some (.bool (g s)))(p:List Spot)(hp:p.length<4611686018427387904):
 PU q3U [q0k p,.fn fid [] []]=some (.int .i64 (qdH g p)):=by
 refine q0g (fn:=q3Q) rfl (q0a ?_)
 refine gg rfl (q0l (S:=fun k:Nat=>([q0k p,.fn fid [] [],q00 p.length,q00 k],[none,none,none,none],[0,0,0,0])) (C:=fun k=>k≤p.length∧∀j (hj:j<p.length),j<k→g p[j]=false) (m:=fun k=>p.length-k) 0 ⟨by omega,fun j hj h=>by omega⟩ (by omega) ?_ ?_)
 ·exact q03 rfl trivial (by simp[q0k,q00])
 intro k ⟨hk,hno⟩ N hN
 refine gg rfl (q01 rfl (fun h1=>?_) (fun h1=>?_))
 ·rw[q06]at h1
  have hlt:k<p.length:=by omega
  refine gg rfl (q0i k rfl rfl rfl (q1B hlt) rfl (gg rfl (qHy rfl hsh (q02 hsh rfl (hg p[k]) (gg rfl (q01 rfl (fun h2=>?_) (fun h2=>?_)))))))
  ·refine gg rfl (q04 (gg rfl (q08 rfl rfl rfl trivial ?_)))
   rw[qgb hlt hno h2]
  refine gg rfl (q04 (hN (k+1) ⟨by omega,fun j hj hjk=>?_⟩ (by omega) ?_))
  ·by_cases hjk':j<k
   ·exact hno j hj hjk'
   obtain rfl:j=k:=by omega
   exact h2
  exact q03 rfl trivial (by simp[q0k,q00,wrap64 (x:=(k:Int)+1) (by omega) (by omega)])
 rw[q07]at h1
 refine gg rfl (q04 (gg rfl (q08 rfl rfl rfl trivial ?_)))
 rw[qgc fun j hj=>hno j hj (by omega)]
theorem qc8 (fid:FuncId)(g:Spot→Bool)(hsh:q4B fid=false)(hg:∀s,PU fid [s.enc]=some (.bool (g s)))(p:List Spot)(hp:p.length<4611686018427387904):
 PU q65 [q0k p,.fn fid [] []]=some (.bool (p.any g)):=by
 refine q0g (fn:=q3k) rfl (q0a ?_)
 repeat' (first
  |refine goP 800 rfl rfl ?_
  |refine q0h rfl ?_|refine q0o rfl ?_|refine q09 rfl (fun _=>?_) (fun _=>?_)
  |refine q0e rfl ?_|refine q0j rfl ?_|refine q01 rfl (fun _=>?_) (fun _=>?_)
  |refine q0L rfl (fun _=>?_) (fun _=>?_)
  |refine q08 rfl rfl rfl trivial ?_
  |refine q02 rfl rfl (qtk fid g hsh hg p hp) ?_)
 rw[q26,qb5]
theorem q1I (a b:Spot):(eqb a.x b.x&&(eqb a.y b.y&&true))=decide (a=b):=by
 cases a;cases b;simp[eqb,Bool.beq_eq_decide_eq]
theorem qEI (p:List Spot)(v:Spot)(hp:p.length<4611686018427387904):PU q52 [q0k p,v.enc]=some (.int .i64 (qdH (fun s=>decide (v=s)) p)):=by
 refine q0g (fn:=q4U) rfl (q0a ?_)
 refine gg rfl (q0l (S:=fun k:Nat=>([q0k p,.ptr 1 0 0,q00 p.length,q00 k],[none,some (.row [v.enc] 2),none,none],[0,0,0,0])) (C:=fun k=>k≤p.length∧∀j (hj:j<p.length),j<k→decide (v=p[j])=false) (m:=fun k=>p.length-k) 0 ⟨by omega,fun j hj h=>by omega⟩ (by omega) ?_ ?_)
 ·exact q03 rfl ⟨rfl,trivial⟩ (by simp[q0k,q00,Spot.enc])
 intro k ⟨hk,hno⟩ N hN
 refine gg rfl (q01 rfl (fun h1=>?_) (fun h1=>?_))
 ·rw[q06]at h1
  have hlt:k<p.length:=by omega
  refine gg rfl (q0i k rfl rfl rfl (q1B hlt) rfl (gg rfl (q01 rfl (fun h2=>?_) (fun h2=>?_))))
  ·rw[q1I]at h2
   refine gg rfl (q04 (gg rfl (q08 rfl rfl rfl trivial ?_)))
   rw[qgb hlt hno h2]
  rw[q1I]at h2
  refine gg rfl (q04 (hN (k+1) ⟨by omega,fun j hj hjk=>?_⟩ (by omega) ?_))
  ·by_cases hjk':j<k
   ·exact hno j hj hjk'
   obtain rfl:j=k:=by omega
   exact h2
  exact q03 rfl ⟨rfl,trivial⟩ (by simp[q0k,q00,Spot.enc,wrap64 (x:=(k:Int)+1) (by omega) (by omega)])
 rw[q07]at h1
 refine gg rfl (q04 (gg rfl (q08 rfl rfl rfl trivial ?_)))
 rw[qgc fun j hj=>hno j hj (by omega)]
theorem qGL {p:List Spot}{v:Spot}:p.any (fun s=>decide (v=s))=decide (v∈p):=by
 rw[Bool.eq_iff_iff];simp
theorem qw4 (p:List Spot)(v:Spot)(hp:p.length<4611686018427387904):PU q7p [q0k p,v.enc]=some (.bool (decide (v∈p))):=by
 refine q0g (fn:=q47) rfl (q0a ?_)
 repeat' (first
  |refine goP 800 rfl rfl ?_
  |refine q0h rfl ?_|refine q0o rfl ?_|refine q09 rfl (fun _=>?_) (fun _=>?_)
  |refine q0e rfl ?_|refine q0j rfl ?_|refine q01 rfl (fun _=>?_) (fun _=>?_)
  |refine q0L rfl (fun _=>?_) (fun _=>?_)
  |refine q08 rfl rfl rfl trivial ?_
  |refine q02 rfl rfl (qEI p v hp) ?_)
 rw[q26,qb5,qGL]
end Go.F

namespace Go.F
attribute [local irreducible] IntKind.wrap wpM
def pt (p:List Spot)(i:Nat):Spot:=p.getD i ⟨0,0⟩
theorem q0D {p:List Spot}{i:Nat}(h:i<p.length):pt p i=p[i]:=by simp[pt,h]
theorem q0P {p:List Spot}{i:Nat}(h:i<p.length):(p.map Spot.enc)[i]?=some (pt p i).enc:=by simp[pt,h]
class OkP (p:List Spot):Prop where
 ok:∀s∈p,OkS s
instance qC8 {p:List Spot} [h:OkP p]{i:Nat}:OkS (pt p i):=by
 by_cases hi:i<p.length
 ·rw[q0D hi];exact h.ok _ (List.getElem_mem _)
 have:pt p i=⟨0,0⟩:=by simp[pt,List.getElem?_eq_none (Nat.le_of_not_lt hi)]
 rw[this];exact⟨by decide,by decide⟩
def q3F (p:List Spot):Prop:=
 (∀i,i<p.length→pt p i∉p.take i)∧
 ∀i,i<p.length→q3E (pt p i) (pt p ((i+1)%p.length)) (pt p ((i+2)%p.length))=false∧
  ∀k,k<p.length→i+2≤k→(k+1)%p.length≠i→q2J (pt p i) (pt p ((i+1)%p.length)) (pt p k) (pt p ((k+1)%p.length))=false
instance (p:List Spot):Decidable (q3F p):=by unfold q3F;exact inferInstance
theorem q1q {a n:Nat}:((a:Int)).tmod (n:Int)=((a%n:Nat):Int):=by
 rw[Int.tmod_eq_emod_of_nonneg (by omega)];simp
set_option maxHeartbeats 1000000 in
theorem qC9 (p:List Spot) [OkP p](h3:3≤p.length)(hp:p.length≤1000):PU qjg [q0k p]=some (.bool (decide (q3F p))):=by
 refine q0g (fn:=q9X) rfl (q0a ?_)
 refine gg rfl ?_
 have hcells:(p.map Spot.enc).all (fun d=>d.cells.length==2)=true:=q1x (f:=Spot.enc) (n:=2) (fun _=>rfl) p
 refine q0l (S:=fun k:Nat=>([q0k p,q00 p.length,q0k p,q00 p.length,q00 k],[none,none,none,none,none],[0,0,0,0,0])) (C:=fun k=>k≤p.length∧∀j,j<k→pt p j∉p.take j) (m:=fun k=>p.length-k) 0 ⟨by omega,fun j h=>by omega⟩ (by omega) ?_ ?_
 ·exact q03 rfl trivial (by simp[q0k,q00])
 intro k ⟨hk,hno⟩ N hN
 refine gg rfl (q01 rfl (fun h1=>?_) (fun h1=>?_))
 ·rw[q06]at h1
  have hlt:k<p.length:=by omega
  refine gg rfl (q0i k rfl rfl rfl (q0P hlt) rfl (gg rfl (qcE k rfl hcells ⟨_,_,rfl,rfl⟩ (by simp;omega) ?_)))
  refine gg rfl ?_
  have hc:=qw4 (p.take k) (pt p k) (by simp;omega)
  rw[q0k,List.map_take]at hc
  refine q02 rfl rfl hc (gg rfl (q01 rfl (fun h2=>?_) (fun h2=>?_)))
  ·refine gg rfl (q04 (gg rfl (q08 rfl rfl rfl trivial ?_)))
   have:¬q3F p:=fun hs=>hs.1 k hlt (by simpa using h2)
   simp[this]
  refine gg rfl (q04 (hN (k+1) ⟨by omega,fun j hj=>?_⟩ (by omega) ?_))
  ·by_cases hjk:j<k
   ·exact hno j hjk
   obtain rfl:j=k:=by omega
   simpa using h2
  exact q03 rfl trivial (by simp[q0k,q00,wrap64 (x:=(k:Int)+1) (by omega) (by omega)])
 rw[q07]at h1
 have hdup:∀j,j<p.length→pt p j∉p.take j:=fun j hj=>hno j (by omega)
 clear hN
 refine gg rfl (q04 (gg rfl ?_))
 refine q0l (S:=fun k:Nat=>([q0k p,q00 p.length,q0k p,q00 p.length,q00 k],[none,none,none,none,none],[0,0,0,0,0]))
  (C:=fun i=>i≤p.length∧∀j,j<i→q3E (pt p j) (pt p ((j+1)%p.length)) (pt p ((j+2)%p.length))=false∧∀k,k<p.length→j+2≤k→(k+1)%p.length≠j→q2J (pt p j) (pt p ((j+1)%p.length)) (pt p k) (pt p ((k+1)%p.length))=false)
  (m:=fun k=>p.length-k) 0 ⟨by omega,fun j h=>by omega⟩ (by omega) ?_ ?_
 ·exact q03 rfl trivial (by simp[q0k,q00])
 intro i ⟨hi,hall⟩ N hN
 refine gg rfl (q01 rfl (fun g1=>?_) (fun g1=>?_))
 ·rw[q06]at g1
  have hlt:i<p.length:=by omega
  have w1:=wS (n:=i)
  have w2:IntKind.i64.wrap ((i:Int)+2)=((i+2:Nat):Int):=ww
  refine gg rfl (q0i i rfl rfl rfl (q0P hlt) rfl (gg rfl (q37 rfl rfl (by omega) ?_)))
  refine gg rfl (q0i ((i+1)%p.length) rfl rfl (by rw[w1,q1q]) (q0P (Nat.mod_lt _ (by omega))) rfl ?_)
  refine gg rfl (q37 rfl rfl (by omega) ?_)
  refine gg rfl (q0i ((i+2)%p.length) rfl rfl (by rw[w2,q1q]) (q0P (Nat.mod_lt _ (by omega))) rfl ?_)
  refine gg rfl (q02 rfl rfl (qC7 (pt p i) (pt p ((i+1)%p.length)) (pt p ((i+2)%p.length))) (gg rfl (q01 rfl (fun g2=>?_) (fun g2=>?_))))
  ·refine gg rfl (q04 (gg rfl (q08 rfl rfl rfl trivial ?_)))
   have:¬q3F p:=fun hs=>by have:=(hs.2 i hlt).1;rw[g2]at this;cases this
   simp[this]
  refine gg rfl ?_
  have fin:∀{t:q0x} {h:q0d} {z:Frz} {nx:Nat},(∀k,k<p.length→i+2≤k→(k+1)%p.length≠i→q2J (pt p i) (pt p ((i+1)%p.length)) (pt p k) (pt p ((k+1)%p.length))=false)→
   (q10 0 [(0,0),(3,0),(25,0),(26,0),(27,0)] t h z nx fun _ _ kp=>kp=([q0k p,q00 p.length,q0k p,q00 p.length,q00 ((i+1:Nat):Int)],[none,none,none,none,none],[0,0,0,0,0]))→N t h z nx:=by
   intro t h z nx hm hst
   refine hN (i+1) ⟨by omega,fun j hj=>?_⟩ (by omega) hst
   by_cases hji:j<i
   ·exact hall j hji
   obtain rfl:j=i:=by omega
   exact⟨g2,hm⟩
  clear hN
  refine q0l (S:=fun k:Nat=>([q0k p,q00 p.length,q00 i,.ptr 3 0 0,.ptr 4 0 0,q00 k,q0k p,q00 p.length,q00 i],[none,none,none,some (.row [(pt p i).enc] 2),some (.row [(pt p ((i+1)%p.length)).enc] 2),none,none,none,none],[0,0,0,0,0,0,0,0,0]))
   (C:=fun k=>i+2≤k∧k≤p.length+2∧∀k',k'<p.length→k'<k→i+2≤k'→(k'+1)%p.length≠i→q2J (pt p i) (pt p ((i+1)%p.length)) (pt p k') (pt p ((k'+1)%p.length))=false)
   (m:=fun k=>p.length+2-k) (i+2) ⟨by omega,by omega,fun k' _ h1 h2=>by omega⟩ (by omega) ?_ ?_
  ·exact q03 rfl ⟨rfl,rfl,trivial⟩ (by simp[q0k,q00,Spot.enc,w2])
  intro k ⟨hk1,hk2,hkall⟩ N2 hN2
  refine gg rfl (q09 rfl (fun e1=>?_) (fun e1=>?_))
  ·rw[q06]at e1
   have hkl:k<p.length:=by omega
   have wk:=wS (n:=k)
   refine gg rfl (q37 rfl rfl (by omega) ?_)
   refine gg rfl (q01 rfl (fun e2=>?_) (fun e2=>?_))
   ·rw[q0u,wk,q1q]at e2
    have hne:(k+1)%p.length≠i:=fun e=>e2 (by rw[e])
    refine gg rfl (q0i k rfl rfl rfl (q0P hkl) rfl (gg rfl (q37 rfl rfl (by omega) ?_)))
    refine gg rfl (q0i ((k+1)%p.length) rfl rfl (by rw[wk,q1q]) (q0P (Nat.mod_lt _ (by omega))) rfl ?_)
    refine gg rfl (q02 rfl rfl (qGK (pt p i) (pt p ((i+1)%p.length)) (pt p k) (pt p ((k+1)%p.length))) (gg rfl (q01 rfl (fun e3=>?_) (fun e3=>?_))))
    ·refine gg rfl (q04 (gg rfl (q04 (gg rfl (q08 rfl rfl rfl trivial ?_)))))
     have:¬q3F p:=fun hs=>by have:=(hs.2 i hlt).2 k hkl hk1 hne;rw[e3]at this;cases this
     simp[this]
    refine gg rfl (q04 (hN2 (k+1) ⟨by omega,by omega,fun k' h1 h2 h3 h4=>?_⟩ (by omega) ?_))
    ·by_cases hkk:k'<k
     ·exact hkall k' h1 hkk h3 h4
     obtain rfl:k'=k:=by omega
     exact e3
    exact q03 rfl ⟨rfl,rfl,trivial⟩ (by simp[q0k,q00,Spot.enc,wk])
   rw[q0z,wk,q1q]at e2
   have heq:(k+1)%p.length=i:=by omega
   refine gg rfl (q04 (gg rfl (q04 (fin (fun k' h1 h2 h3=>?_) ?_))))
   ·by_cases hkk:k'<k
    ·exact hkall k' h1 hkk h2 h3
    by_cases hkk2:k'=k
    ·subst hkk2;exact absurd heq h3
    exfalso
    rw[Nat.mod_eq_of_lt (by omega)]at heq
    omega
   exact q03 rfl trivial (by simp[q0k,q00,w1])
  rw[q07]at e1
  refine gg rfl (q0j rfl (gg rfl (q04 (gg rfl (q04 (fin (fun k' h1 h2 h3=>hkall k' h1 (by omega) h2 h3) ?_))))))
  exact q03 rfl trivial (by simp[q0k,q00,w1])
 rw[q07]at g1
 refine gg rfl (q04 (gg rfl (q08 rfl rfl rfl trivial ?_)))
 have:q3F p:=⟨hdup,fun j hj=>hall j (by omega)⟩
 simp[this]
end Go.F

namespace Go.F
attribute [local irreducible] IntKind.wrap wpM
theorem q1C {s:Spot}{m:Int}:q0v s m=true↔(-m≤s.x∧s.x≤m∧ -m≤s.y∧s.y≤m):=by simp[q0v]
theorem qyU {p:List Spot}(h:p.any (fun s=>!q0v s 1048576)=false):OkP p:=by
 refine⟨fun s hs=>?_⟩
 have:q0v s 1048576=true:=by
  cases hw:q0v s 1048576
  ·exact absurd (List.any_eq_true (p:=fun s=>!q0v s 1048576).2 ⟨s,hs,by simp[hw]⟩) (by simp only[h];decide)
  rfl
 rw[q1C]at this
 exact⟨by omega,by omega⟩
def q1F (p:List Spot):Int:=
 if 40<p.length then 5 else if p.length<3 then 11 else if p.any (fun s=>!q0v s 1048576)then 3 else if q3F p then 0 else 11
theorem q3q (p:List Spot):PU qmc [q0k p]=some (.int .i64 (q1F p)):=by
 refine q0g (fn:=qbI) rfl (q0a ?_)
 refine gg rfl (q01 rfl (fun h1=>?_) (fun h1=>?_))
 ·refine gg rfl (q08 rfl rfl rfl trivial ?_)
  rw[q06]at h1
  simp at h1
  rw[q1F,if_pos (by omega)]
 refine gg rfl ?_
 rw[q07]at h1
 simp at h1
 refine q01 rfl (fun h2=>?_) (fun h2=>?_)
 ·refine gg rfl (q08 rfl rfl rfl trivial ?_)
  rw[q06]at h2
  simp at h2
  rw[q1F,if_neg (by omega),if_pos (by omega)]
 refine gg rfl ?_
 rw[q07]at h2
 simp at h2
 refine q02 rfl rfl (qc8 q9i _ rfl qyT p (by omega)) ?_
 refine gg rfl (q01 rfl (fun h3=>?_) (fun h3=>?_))
 ·refine gg rfl (q08 rfl rfl rfl trivial ?_)
  simp[q1F,show¬40<p.length by omega,show¬p.length<3 by omega]at h3⊢
  intro h4
  exact absurd h3 (by simpa using h4)
 refine gg rfl ?_
 have:=qyU h3
 refine q02 rfl rfl (qC9 p (by omega) (by omega)) ?_
 refine gg rfl (q01 rfl (fun h4=>?_) (fun h4=>?_))
 ·refine gg rfl (q08 rfl rfl rfl trivial ?_)
  simp at h4
  rw[q1F,if_neg (by omega),if_neg (by omega),if_neg (by simp[h3]),if_neg h4]
 refine gg rfl (q08 rfl rfl rfl trivial ?_)
 simp at h4
 rw[q1F,if_neg (by omega),if_neg (by omega),if_neg (by simp[h3]),if_pos h4]
end Go.F

namespace Go.F
attribute [local irreducible] IntKind.wrap wpM
def q1t (p:List Spot):Int:=
 if 40<p.length then 5 else if p.length<2 then 11 else if p.any (fun s=>!q0v s 1048576)then 3 else if∀i,i<p.length-1→pt p i≠pt p (i+1)then 0 else 11
theorem q9e (p:List Spot):PU qji [q0k p]=some (.int .i64 (q1t p)):=by
 refine q0g (fn:=qa1) rfl (q0a ?_)
 refine gg rfl (q01 rfl (fun h1=>?_) (fun h1=>?_))
 ·refine gg rfl (q08 rfl rfl rfl trivial ?_)
  rw[q06,List.length_map]at h1
  rw[q1t,if_pos (by omega)]
 refine gg rfl ?_
 rw[q07,List.length_map]at h1
 refine q01 rfl (fun h2=>?_) (fun h2=>?_)
 ·refine gg rfl (q08 rfl rfl rfl trivial ?_)
  rw[q06,List.length_map]at h2
  rw[q1t,if_neg (by omega),if_pos (by omega)]
 refine gg rfl ?_
 rw[q07,List.length_map]at h2
 refine q02 rfl rfl (qc8 q8q _ rfl qeR p (by omega)) ?_
 refine gg rfl (q01 rfl (fun h3=>?_) (fun h3=>?_))
 ·refine gg rfl (q08 rfl rfl rfl trivial ?_)
  rw[q1t,if_neg (by omega),if_neg (by omega),if_pos h3]
 refine gg rfl (q0l (S:=fun k:Nat=>([q0k p,q00 (p.length-1:Nat),q00 k],[none,none,none],[0,0,0])) (C:=fun k=>k≤p.length-1∧∀i,i<k→pt p i≠pt p (i+1)) (m:=fun k=>p.length-k) 0 ⟨by omega,fun i hi=>by omega⟩ (by omega) ?_ ?_)
 ·refine q03 rfl trivial ?_
  have:IntKind.i64.wrap ((p.length:Int)-1)=((p.length-1:Nat):Int):=by rw[wrap64 (by omega) (by omega)];omega
  simp[q0k,q00,this]
 intro k ⟨hk,hno⟩ N hN
 refine gg rfl (q01 rfl (fun g1=>?_) (fun g1=>?_))
 ·rw[q06]at g1
  have hlt:k+1<p.length:=by omega
  have w1:=wS (n:=k)
  refine gg rfl (q0i k rfl rfl rfl (q0P (by omega)) rfl ?_)
  refine gg rfl (q0i (k+1) rfl rfl w1 (q0P hlt) rfl (gg rfl (q01 rfl (fun g2=>?_) (fun g2=>?_))))
  ·refine gg rfl (q04 (gg rfl (q08 rfl rfl rfl trivial ?_)))
   rw[q1t,if_neg (by omega),if_neg (by omega),if_neg (by rw[h3];decide),if_neg]
   intro hall
   refine hall k (by omega) ?_
   rw[q1I]at g2
   simpa using g2
  refine gg rfl (q04 (hN (k+1) ⟨by omega,fun i hi=>?_⟩ (by omega) (q03 rfl trivial (by simp[q0k,q00,w1]))))
  by_cases hik:i<k
  ·exact hno i hik
  obtain rfl:i=k:=by omega
  rw[q1I]at g2
  simpa using g2
 rw[q07]at g1
 refine gg rfl (q04 (gg rfl (q08 rfl rfl rfl trivial ?_)))
 rw[q1t,if_neg (by omega),if_neg (by omega),if_neg (by rw[h3];decide),if_pos (fun i hi=>hno i (by omega))]
end Go.F

namespace Go.F
attribute [local irreducible] IntKind.wrap wpM
def q0n (l:List Edge):List Spot:=l.flatMap (fun e=>e.line.dropLast)
theorem qb6 {l:List Edge}{k:Nat}(h:k<l.length):q0n (l.take (k+1))=q0n (l.take k)++l[k].line.dropLast:=by
 rw[List.take_succ_eq_append_getElem h,q0n,List.flatMap_append];simp[q0n]
theorem qdI {l:List Edge}(k:Nat):(q0n (l.take k)).length≤(q0n l).length:=by
 have:q0n l=q0n (l.take k)++q0n (l.drop k):=by
  rw[q0n,q0n,q0n,←List.flatMap_append,List.take_append_drop]
 rw[this,List.length_append];omega
theorem q2D {l:List D}{n:Nat}(hn:n=l.length)(h:l.all (dat 4)=true):0+n≤l.length∧((l.drop 0).take n).all (dat 4)=true:=by
 subst hn
 simpa using h
theorem q2E {l:List D}{n:Nat}(hn:n=l.length):D.lst (l.take n)=.lst l:=by
 subst hn
 simp
set_option maxHeartbeats 1000000 in
theorem qlw (l:List Edge)(h1:∀e∈l,1≤e.line.length∧e.line.length≤100000)(hl:l.length≤100000)(hv:(q0n l).length≤100000):PU qgk [edges l]=some (q0k (q0n l)):=by
 refine q0g (fn:=q7N) rfl (q0a ?_)
 refine gg rfl (q0l (S:=fun k:Nat=>([.ref 0 0 (q0n (l.take k)).length,edges l,q00 l.length,q00 k],[some (.row ((q0n (l.take k)).map Spot.enc) 2),none,none,none],[0,0,0,0])) (C:=fun k=>k≤l.length) (m:=fun k=>l.length-k) 0 (by omega) (by omega) ?_ ?_)
 ·exact q03 rfl ⟨rfl,trivial⟩ (by simp[edges,q00,q0n])
 intro k hk N hN
 refine gg rfl (q01 rfl (fun g1=>?_) (fun g1=>?_))
 ·rw[q06]at g1
  have hlt:k<l.length:=by omega
  have w1:=wS (n:=k)
  have hln:=h1 _ (List.getElem_mem hlt)
  have hcells:(l[k].line.map Spot.enc).all (fun d=>d.cells.length==2)=true:=q1x (f:=Spot.enc) (n:=2) (fun _=>rfl) _
  have hle:=qdI (l:=l) (k+1)
  rw[qb6 hlt,List.length_append]at hle
  have w2:IntKind.i64.wrap ((l[k].line.length:Int)-1)=((l[k].line.length-1:Nat):Int):=by rw[wrap64 (by omega) (by omega)];omega
  refine gg rfl (q0i k rfl rfl rfl (q1B hlt) rfl (gg rfl (qcE (l[k].line.length-1) rfl hcells ⟨_,_,rfl,by rw[List.length_map];exact w2⟩ (by simp) ?_)))
  refine gg rfl ?_
  have e:(l[k].line.map Spot.enc).take (l[k].line.length-1)=l[k].line.dropLast.map Spot.enc:=by
   rw[List.dropLast_eq_take,List.map_take]
  rw[e]
  refine qAr rfl rfl rfl (q1x (f:=Spot.enc) (n:=2) (fun _=>rfl) _) (by simp) (Nat.zero_le _) (by simp[q0M]at*;omega) ?_
  refine gg rfl (q04 (hN (k+1) (by omega) (by omega) (q03 rfl ⟨by rw[←List.map_append];exact q05 q0r _,trivial⟩ ?_)))
  simp[edges,q00,w1,qb6 hlt]
 rw[q07]at g1
 refine gg rfl (q04 (gg rfl ?_))
 obtain rfl:k=l.length:=by omega
 rw[List.take_length]
 refine q08 rfl rfl rfl ⟨q2D (by simp) (q0X q2q _),trivial⟩ ?_
 rw[q2E (by simp),q0k]
end Go.F

namespace Go.F
attribute [local irreducible] IntKind.wrap wpM
def q2r (s:ByteArray)(i:Nat):UInt8:=s.toList.getD i 0
theorem qoj (s:ByteArray):s.toList.length=s.size:=by rw[Go.ByteArray.toList_eq];rfl
theorem q6j {s:ByteArray}{i:Nat}(h:i<s.size):s.toList[i]?=some (q2r s i):=by
 have:i<s.toList.length:=by rw[qoj];exact h
 simp[q2r,this]
def q4O (n:Nat):Bool:=decide (48≤n)&&decide (n≤57)
theorem qyV (n:Nat):PU q9j [.int .u8 n]=some (.bool (q4O n)):=by
 refine q0g (fn:=q8Y) rfl (q0a ?_)
 repeat' (first
  |refine goP 800 rfl rfl ?_
  |refine q0h rfl ?_|refine q0o rfl ?_|refine q09 rfl (fun _=>?_) (fun _=>?_)
  |refine q0e rfl ?_|refine q0j rfl ?_|refine q01 rfl (fun _=>?_) (fun _=>?_)
  |refine q0L rfl (fun _=>?_) (fun _=>?_)
  |refine q08 rfl rfl rfl trivial ?_)
 all_goals ((try simp only[q1M,q26,q2c,q42,decide_eq_true_eq,decide_eq_false_iff_not,Bool.not_eq_true,Bool.not_eq_false,Int.not_lt,Int.not_le]at*);first|(simp_all[q4O];done) |(simp_all[q4O];omega) |(rw[D.bool.injEq,Bool.eq_iff_iff];simp[q4O];omega) |(rw[D.bool.injEq,Bool.eq_iff_iff];simp_all[q4O];omega) |(simp[q4O];split<;>(try split)<;>omega))
def q7h (i n:Nat):Bool:=(decide (97≤n)&&decide (n≤122)) ||(!decide (i=0)&&(decide (n=95) ||q4O n))
def q1K (s:ByteArray):Bool:=
 !decide (s.size=0)&&(!decide (24<s.size)&&(!(s.toList==[109,105,110])&&(!(s.toList==[109,97,120])&&decide (∀i,i<s.size→q7h i (q2r s i).toNat=true))))
theorem qEJ:(⟨#[109,105,110]⟩:ByteArray).toList=[109,105,110]:=by rw[Go.ByteArray.toList_eq]
theorem qEK:(⟨#[109,97,120]⟩:ByteArray).toList=[109,97,120]:=by rw[Go.ByteArray.toList_eq]
theorem qtm {s:ByteArray}{b:Bool}(h:(s.toList==(⟨#[109,105,110]⟩:ByteArray).toList)=b):(s.toList==[109,105,110])=b:=by rwa[qEJ]at h
theorem qtn {s:ByteArray}{b:Bool}(h:(s.toList==(⟨#[109,97,120]⟩:ByteArray).toList)=b):(s.toList==[109,97,120])=b:=by rwa[qEK]at h
set_option maxHeartbeats 2000000 in
theorem qCa (s:ByteArray):PU qay [.str s]=some (.bool (q1K s)):=by
 refine q0g (fn:=qak) rfl (q0a ?_)
 refine gg rfl (q09 rfl (fun h0=>?_) (fun h0=>?_))
 ·repeat' (first
   |refine goP 800 rfl rfl ?_
   |refine q0h rfl ?_|refine q0o rfl ?_|refine q09 rfl (fun _=>?_) (fun _=>?_)
   |refine q0e rfl ?_|refine q0j rfl ?_|refine q01 rfl (fun _=>?_) (fun _=>?_)
   |refine q0L rfl (fun _=>?_) (fun _=>?_)
   |refine q08 rfl rfl rfl trivial ?_)
  rw[q1n]at h0
  have:s.size=0:=by omega
  simp[q1K,this]
 refine gg rfl ?_
 rw[q20]at h0
 refine q09 rfl (fun h1=>?_) (fun h1=>?_)
 ·repeat' (first
   |refine goP 800 rfl rfl ?_
   |refine q0h rfl ?_|refine q0o rfl ?_|refine q09 rfl (fun _=>?_) (fun _=>?_)
   |refine q0e rfl ?_|refine q0j rfl ?_|refine q01 rfl (fun _=>?_) (fun _=>?_)
   |refine q0L rfl (fun _=>?_) (fun _=>?_)
   |refine q08 rfl rfl rfl trivial ?_)
  rw[q06]at h1
  have:24<s.size:=by omega
  simp[q1K,this]
 refine gg rfl ?_
 rw[q07]at h1
 refine q09 rfl (fun h2=>?_) (fun h2=>?_)
 ·repeat' (first
   |refine goP 800 rfl rfl ?_
   |refine q0h rfl ?_|refine q0o rfl ?_|refine q09 rfl (fun _=>?_) (fun _=>?_)
   |refine q0e rfl ?_|refine q0j rfl ?_|refine q01 rfl (fun _=>?_) (fun _=>?_)
   |refine q0L rfl (fun _=>?_) (fun _=>?_)
   |refine q08 rfl rfl rfl trivial ?_)
  replace h2:=qtm h2
  simp[q1K,h2]
 refine gg rfl ?_
 replace h2:=qtm h2
 refine q01 rfl (fun h3=>?_) (fun h3=>?_)
 ·refine gg rfl (q08 rfl rfl rfl trivial ?_)
  replace h3:=qtn h3
  simp[q1K,h3]
 refine gg rfl ?_
 replace h3:=qtn h3
 have key:∀b,(decide (∀i,i<s.size→q7h i (q2r s i).toNat=true))=b→q1K s=b:=by
  intro b hb
  rw[q1K,hb,h2,h3]
  rw[show decide (s.size=0)=false by rw[decide_eq_false_iff_not];omega,show decide (24<s.size)=false by rw[decide_eq_false_iff_not];omega]
  simp
 refine q0l (S:=fun k:Nat=>([.str s,q00 s.size,q00 k],[none,none,none],[0,0,0])) (C:=fun k=>k≤s.size∧∀i,i<k→q7h i (q2r s i).toNat=true) (m:=fun k=>s.size-k) 0 ⟨by omega,fun i hi=>by omega⟩ (by omega) ?_ ?_
 ·exact q03 rfl trivial (by simp[q00])
 intro k ⟨hk,hall⟩ N hN
 refine gg rfl (q01 rfl (fun g1=>?_) (fun g1=>?_))
 ·rw[q06]at g1
  have hlt:k<s.size:=by omega
  have w1:=wS (n:=k)
  have yes:q7h k (q2r s k).toNat=true→∀{t:q0x} {h:q0d} {z:Frz} {nx:Nat},(q10 0 [(0,0),(23,0),(24,0)] t h z nx fun _ _ kp=>kp=([.str s,q00 s.size,q00 ((k+1:Nat):Int)],[none,none,none],[0,0,0]))→N t h z nx:=by
   intro hc t h z nx hst
   refine hN (k+1) ⟨by omega,fun i hi=>?_⟩ (by omega) hst
   by_cases hik:i<k
   ·exact hall i hik
   obtain rfl:i=k:=by omega
   exact hc
  have no:q7h k (q2r s k).toNat=false→q1K s=false:=by
   intro hc
   refine key false ?_
   simp
   exact⟨k,hlt,hc⟩
  clear hN
  refine gg rfl (q2d k rfl rfl rfl (q6j hlt) ?_)
  repeat' (first
   |refine goP 800 rfl rfl ?_
   |refine q0h rfl ?_|refine q0o rfl ?_|refine q09 rfl (fun _=>?_) (fun _=>?_)
   |refine q0e rfl ?_|refine q0j rfl ?_|refine q01 rfl (fun _=>?_) (fun _=>?_)
   |refine q0L rfl (fun _=>?_) (fun _=>?_)
   |refine q02 rfl rfl (qyV _) ?_)
  all_goals refine q04 ?_
  all_goals first
   |(refine yes ?_ (q03 rfl trivial (by simp[q00,w1]))
     simp only[q1M,q26,q2c,q42,decide_eq_true_eq,decide_eq_false_iff_not,Bool.not_eq_true,Bool.not_eq_false,Int.not_lt,Int.not_le]at*
     simp_all[q7h]
     try omega)
   |(refine gg rfl ?_
     refine q08 rfl rfl rfl trivial ?_
     rw[no]
     simp only[q1M,q26,q2c,q42,decide_eq_true_eq,decide_eq_false_iff_not,Bool.not_eq_true,Bool.not_eq_false,Int.not_lt,Int.not_le]at*
     simp_all[q7h]
     try omega)
 rw[q07]at g1
 refine gg rfl (q04 (gg rfl (q08 rfl rfl rfl trivial ?_)))
 rw[key true (by simp;exact fun i hi=>hall i (by omega))]
end Go.F

namespace Go.F
attribute [local irreducible] IntKind.wrap wpM
theorem qto:PU q8r [.int .i64 2]=some (.tup [.int .i64 0,.int .i64 0]):=by
 refine q0g (fn:=q7R) rfl (q0a ?_)
 repeat' (first
  |refine goP 800 rfl rfl ?_
  |refine q0h rfl ?_|refine q0o rfl ?_|refine q09 rfl (fun _=>?_) (fun _=>?_)
  |refine q0e rfl ?_|refine q0j rfl ?_|refine q01 rfl (fun _=>?_) (fun _=>?_)
  |refine q0L rfl (fun _=>?_) (fun _=>?_)
  |refine q08 rfl rfl rfl trivial ?_)
 all_goals simp_all[eqb]
theorem qok:PU qdM [.agg [.bool false,.lst [],.lst []],.agg [.bool false,.lst [],.lst []]]=some (.int .i64 0):=qiY (n:=30) (by kernel_rfl)
def qEL (s:ByteArray):D:=.agg [.int .i64 2,.bool false,.lst [],.lst [],.str s,.lst []]
theorem qEM (s:ByteArray):PU qmk [qEL s]=some (.bool (q1K s)):=by
 refine q0g (fn:=qc3) rfl (q0a ?_)
 repeat' (first
  |refine goP 800 rfl rfl ?_
  |refine q0h rfl ?_|refine q0o rfl ?_|refine q09 rfl (fun _=>?_) (fun _=>?_)
  |refine q0e rfl ?_|refine q0j rfl ?_|refine q01 rfl (fun _=>?_) (fun _=>?_)
  |refine q0L rfl (fun _=>?_) (fun _=>?_)
  |refine q08 rfl rfl rfl trivial ?_
  |refine q02 rfl rfl (qto) ?_
  |refine q02 rfl rfl (qCa s) ?_
  |refine q02 rfl rfl (qok) ?_)
 all_goals simp_all[ltb,eqb]
end Go.F

namespace Go.F
attribute [local irreducible] IntKind.wrap wpM
theorem qj8 (s:ByteArray):PU qmh [qEL s,.int .i64 1]=some (.int .i64 (if q1K s then 0 else 1)):=by
 refine q0g (fn:=qbE) rfl (q0a ?_)
 refine gg rfl (q01 rfl (fun h=>?_) (fun h=>?_))
 ·exact absurd h (by simp[ltb])
 refine gg rfl (q02 rfl rfl (qEM s) (gg rfl (q01 rfl (fun h1=>?_) (fun h1=>?_))))
 ·repeat' (first
   |refine goP 800 rfl rfl ?_
   |refine q0h rfl ?_|refine q0o rfl ?_|refine q09 rfl (fun _=>?_) (fun _=>?_)
   |refine q0e rfl ?_|refine q0j rfl ?_|refine q01 rfl (fun _=>?_) (fun _=>?_)
   |refine q0L rfl (fun _=>?_) (fun _=>?_)
   |refine q08 rfl rfl rfl trivial ?_)
  simp at h1
  simp[h1]
 refine gg rfl (q0l (S:=fun _:Unit=>([.int .i64 1,.lst [],.int .i64 0,.int .i64 0],[none,none,none,none],[0,0,0,0])) (C:=fun _=>True) (m:=fun _=>0) () trivial (by decide) ?_ ?_)
 ·exact q03 rfl trivial (by simp)
 intro _ _ N hN
 repeat' (first
  |refine goP 800 rfl rfl ?_
  |refine q0h rfl ?_|refine q0o rfl ?_|refine q09 rfl (fun _=>?_) (fun _=>?_)
  |refine q0e rfl ?_|refine q0j rfl ?_|refine q01 rfl (fun _=>?_) (fun _=>?_)
  |refine q0L rfl (fun _=>?_) (fun _=>?_)
  |refine q08 rfl rfl rfl trivial ?_)
 ·exact absurd ‹ltb _ _=true› (by simp[ltb])
 refine q04 (gg rfl (q08 rfl rfl rfl trivial ?_))
 simp at h1
 simp[h1]
theorem qat (s:ByteArray):PU qmf [qEL s]=some (.int .i64 (if q1K s then 0 else 1)):=by
 refine q0g (fn:=qc0) rfl (q0a ?_)
 refine gg rfl (q02 rfl rfl (qj8 s) ?_)
 repeat' (first
  |refine goP 800 rfl rfl ?_
  |refine q0h rfl ?_|refine q0o rfl ?_|refine q09 rfl (fun _=>?_) (fun _=>?_)
  |refine q0e rfl ?_|refine q0j rfl ?_|refine q01 rfl (fun _=>?_) (fun _=>?_)
  |refine q0L rfl (fun _=>?_) (fun _=>?_)
  |refine q08 rfl rfl rfl trivial ?_)
 rfl
theorem qhW (s:ByteArray):PU qjh [.str s]=some (.bool (q1K s)):=by
 refine q0g (fn:=q9Z) rfl (q0a ?_)
 refine gg rfl (q02 rfl rfl (qat s) ?_)
 repeat' (first
  |refine goP 800 rfl rfl ?_
  |refine q0h rfl ?_|refine q0o rfl ?_|refine q09 rfl (fun _=>?_) (fun _=>?_)
  |refine q0e rfl ?_|refine q0j rfl ?_|refine q01 rfl (fun _=>?_) (fun _=>?_)
  |refine q0L rfl (fun _=>?_) (fun _=>?_)
  |refine q08 rfl rfl rfl trivial ?_)
 cases q1K s<;>simp[eqb]
def q0E (f:Nat→Int):Nat→Int
 |0=>0
 |k+1=>if q0E f k=0 then f k else q0E f k
theorem q3w {f:Nat→Int}{k n:Nat}(h0:q0E f k=0)(h1:f k≠0)(h:k<n):q0E f n=f k:=by
 induction n with
 |zero=>omega
 |succ n ih=>
  rw[q0E]
  by_cases hk:k<n
  ·rw[ih hk,if_neg h1]
  obtain rfl:k=n:=by omega
  rw[if_pos h0]
theorem q2n {f:Nat→Int}{k:Nat}(h0:q0E f k=0)(h1:f k=0):q0E f (k+1)=0:=by
 rw[q0E,if_pos h0,h1]
theorem q18 {f:Nat→Int}{n k:Nat}(h0:q0E f n=0)(h:k<n):f k=0:=by
 induction n with
 |zero=>omega
 |succ n ih=>
  rw[q0E]at h0
  split at h0
  ·rename_i h2
   by_cases hk:k<n
   ·exact ih h2 hk
   obtain rfl:k=n:=by omega
   exact h0
  rename_i h2;exact absurd h0 h2
def eg (l:List Edge)(i:Nat):Edge:=l.getD i ⟨⟨#[]⟩,[]⟩
theorem q1O {l:List Edge}{i:Nat}(h:i<l.length):(l.map Edge.enc)[i]?=some (eg l i).enc:=by simp[eg,h]
theorem q43 {l:List Edge}{i:Nat}(h:i<l.length):eg l i=l[i]:=by simp[eg,h]
def qdK (l:List Edge)(i:Nat):Bool:=(List.range i).any fun j=>(eg l j).name.toList==(eg l i).name.toList
theorem qgd {l:List Edge}{i j:Nat}(hj:j<i)(h:(eg l j).name.toList==(eg l i).name.toList):qdK l i=true:=
 List.any_eq_true.2 ⟨j,List.mem_range.2 hj,h⟩
theorem qj9 {l:List Edge}{i:Nat}(h:∀j,j<i→((eg l j).name.toList==(eg l i).name.toList)=false):qdK l i=false:=by
 unfold qdK
 rw[List.any_eq_false]
 intro j hj
 rw[h j (List.mem_range.1 hj)]
 decide
def q1l (l:List Edge)(i:Nat):Int:=
 if q1K (eg l i).name=false then 1 else if qdK l i then 7 else q1t (eg l i).line
def q2F (l:List Edge)(i:Nat):Int:=
 if pt (eg l i).line ((eg l i).line.length-1)=pt (eg l ((i+1)%l.length)).line 0 then 0 else 11
def q0J (l:List Edge):Int:=
 if 16<l.length then 5 else if l.length<2 then 11
 else if q0E (q1l l) l.length=0 then
  if q0E (q2F l) l.length=0 then q1F (q0n l)else q0E (q2F l) l.length
 else q0E (q1l l) l.length
theorem q2j {p:List Spot}(h:q1t p=0):2≤p.length∧p.length≤40∧(∀s∈p,q0v s 1048576=true):=by
 unfold q1t at h
 split at h
 ·cases h
 split at h
 ·cases h
 split at h
 ·cases h
 rename_i h1 h2 h3
 exact⟨by omega,by omega,by simpa using h3⟩
theorem q2P {l:List Edge}{i:Nat}(h:q1l l i=0):q1t (eg l i).line=0:=by
 unfold q1l at h
 split at h
 ·cases h
 split at h
 ·cases h
 exact h
theorem qlx {l:List Edge}{m:Nat}(h:∀e∈l,e.line.length≤m):(q0n l).length≤l.length*m:=by
 induction l with
 |nil=>simp[q0n]
 |cons e l ih=>
  have h1:=ih fun e he=>h e (List.mem_cons_of_mem _ he)
  have h2:=h e List.mem_cons_self
  have:q0n (e::l)=e.line.dropLast++q0n l:=rfl
  rw[this,List.length_append,List.length_dropLast,List.length_cons,Nat.succ_mul]
  omega
theorem qyW {l:List Edge}{e:Edge}(h:e∈l):∃i,i<l.length∧eg l i=e:=by
 obtain⟨i,hi,rfl⟩:=List.getElem_of_mem h
 exact⟨i,hi,q43 hi⟩
set_option maxHeartbeats 2000000 in
theorem q6k (l:List Edge):PU qme [edges l]=some (.int .i64 (q0J l)):=by
 refine q0g (fn:=qbR) rfl (q0a ?_)
 refine gg rfl (q01 rfl (fun h1=>?_) (fun h1=>?_))
 ·refine gg rfl (q08 rfl rfl rfl trivial ?_)
  rw[q06,List.length_map]at h1
  rw[q0J,if_pos (by omega)]
 refine gg rfl ?_
 rw[q07,List.length_map]at h1
 refine q01 rfl (fun h2=>?_) (fun h2=>?_)
 ·refine gg rfl (q08 rfl rfl rfl trivial ?_)
  rw[q06,List.length_map]at h2
  rw[q0J,if_neg (by omega),if_pos (by omega)]
 refine gg rfl ?_
 rw[q07,List.length_map]at h2
 have hcells:(l.map Edge.enc).all (fun d=>d.cells.length==2)=true:=q1x (f:=Edge.enc) (n:=2) (fun _=>rfl) l
 refine q0l (S:=fun k:Nat=>([edges l,edges l,q00 l.length,q00 k],[none,none,none,none],[0,0,0,0])) (C:=fun k=>k≤l.length∧q0E (q1l l) k=0) (m:=fun k=>l.length-k) 0 ⟨by omega,rfl⟩ (by omega) ?_ ?_
 ·exact q03 rfl trivial (by simp[edges,q00])
 intro k ⟨hk,hall⟩ N hN
 refine gg rfl (q01 rfl (fun g1=>?_) (fun g1=>?_))
 ·rw[q06]at g1
  have hlt:k<l.length:=by omega
  have w1:=wS (n:=k)
  have yes:q1l l k=0→∀{t:q0x} {h:q0d} {z:Frz} {nx:Nat},(q10 0 [(0,0),(17,0),(18,0),(19,0)] t h z nx fun _ _ kp=>kp=([edges l,edges l,q00 l.length,q00 ((k+1:Nat):Int)],[none,none,none,none],[0,0,0,0]))→N t h z nx:=
   fun hc {t h z nx} hst=>hN (k+1) ⟨by omega,q2n hall hc⟩ (by omega) hst
  have no:q1l l k≠0→q0J l=q1l l k:=by
   intro hc
   have:=q3w hall hc hlt
   rw[q0J,if_neg (by omega),if_neg (by omega),if_neg (by rw[this];exact hc),this]
  clear hN
  refine gg rfl (q0i k rfl rfl rfl (q1O hlt) rfl (gg rfl (q02 rfl rfl (qhW (eg l k).name) (gg rfl (q01 rfl (fun g2=>?_) (fun g2=>?_))))))
  ·refine gg rfl (q04 (gg rfl (q08 rfl rfl rfl trivial ?_)))
   have:q1l l k=1:=by rw[q1l,if_pos (by simpa using g2)]
   rw[no (by rw[this];decide),this]
  have g2':¬q1K (eg l k).name=false:=by simpa using g2
  refine gg rfl (qcE k rfl hcells ⟨_,_,rfl,rfl⟩ (by simp;omega) ?_)
  refine gg rfl ?_
  refine q0l (S:=fun j:Nat=>([edges l,.ptr 1 0 0,edges l,q00 l.length,q00 k,edges (l.take k),q00 k,q00 j],[none,some (.row [(eg l k).enc] 2),none,none,none,none,none,none],[0,0,0,0,0,0,0,0]))
   (C:=fun j=>j≤k∧∀i,i<j→((eg l i).name.toList==(eg l k).name.toList)=false) (m:=fun j=>k-j) 0 ⟨by omega,fun i hi=>by omega⟩ (by omega) ?_ ?_
  ·exact q03 rfl ⟨rfl,trivial⟩ (by simp[edges,q00,q0k,Edge.enc,List.map_take,Nat.min_eq_left (Nat.le_of_lt hlt)])
  intro j ⟨hj,hno⟩ N2 hN2
  refine gg rfl (q01 rfl (fun e1=>?_) (fun e1=>?_))
  ·rw[q06]at e1
   have hjk:j<k:=by omega
   have wj:=wS (n:=j)
   have hj2:((l.take k).map Edge.enc)[j]?=some (eg l j).enc:=by
    rw[List.map_take,List.getElem?_take,if_pos hjk];exact q1O (by omega)
   refine gg rfl (q0i j rfl rfl rfl hj2 rfl (gg rfl (q01 rfl (fun e2=>?_) (fun e2=>?_))))
   ·refine gg rfl (q04 (gg rfl (q04 (gg rfl (q08 rfl rfl rfl trivial ?_)))))
    have:q1l l k=7:=by rw[q1l,if_neg g2',if_pos (qgd hjk e2)]
    rw[no (by rw[this];decide),this]
   refine gg rfl (q04 (hN2 (j+1) ⟨by omega,fun i hi=>?_⟩ (by omega) (q03 rfl ⟨rfl,trivial⟩ (by simp[edges,q00,q0k,Edge.enc,wj]))))
   by_cases hij:i<j
   ·exact hno i hij
   obtain rfl:i=j:=by omega
   exact e2
  rw[q07]at e1
  clear hN2
  refine gg rfl (q04 (gg rfl ?_))
  have hnb:qdK l k=false:=qj9 fun i hi=>hno i (by omega)
  have hee:q1l l k=q1t (eg l k).line:=by rw[q1l,if_neg g2',if_neg (by rw[hnb];decide)]
  refine q02 rfl rfl (q9e (eg l k).line) (gg rfl (q01 rfl (fun g3=>?_) (fun g3=>?_)))
  ·rw[q0u,←hee]at g3
   refine gg rfl (q04 (gg rfl (q08 rfl rfl rfl trivial ?_)))
   rw[no g3,hee]
  rw[q0z,←hee]at g3
  exact gg rfl (q04 (yes g3 (q03 rfl trivial (by simp[edges,q00,w1]))))
 rw[q07]at g1
 obtain rfl:k=l.length:=by omega
 clear hN hk g1
 have hln:∀i,i<l.length→2≤(eg l i).line.length∧(eg l i).line.length≤40∧_:=fun i hi=>q2j (q2P (q18 hall hi))
 refine gg rfl (q04 (gg rfl (q0l (S:=fun k:Nat=>([edges l,edges l,q00 l.length,q00 k],[none,none,none,none],[0,0,0,0])) (C:=fun k=>k≤l.length∧q0E (q2F l) k=0) (m:=fun k=>l.length-k) 0 ⟨by omega,rfl⟩ (by omega) ?_ ?_)))
 ·exact q03 rfl trivial (by simp[edges,q00])
 intro k ⟨hk,hjo⟩ N hN
 refine gg rfl (q01 rfl (fun g1=>?_) (fun g1=>?_))
 ·rw[q06]at g1
  have hlt:k<l.length:=by omega
  have hlt2:(k+1)%l.length<l.length:=Nat.mod_lt _ (by omega)
  have w1:=wS (n:=k)
  have a1:=hln k hlt
  have a2:=hln _ hlt2
  have w2:IntKind.i64.wrap (((eg l k).line.length:Int)-1)=(((eg l k).line.length-1:Nat):Int):=by rw[wrap64 (by omega) (by omega)];omega
  refine gg rfl (q0i k rfl rfl rfl (q1O hlt) rfl (gg rfl (q37 rfl rfl (by rw[List.length_map];omega) ?_)))
  refine gg rfl (q0i ((k+1)%l.length) rfl rfl (by rw[w1,List.length_map,q1q]) (q1O hlt2) rfl ?_)
  refine gg rfl (q0i ((eg l k).line.length-1) rfl rfl (by rw[List.length_map];exact w2) (q0P (by omega)) rfl ?_)
  refine gg rfl (q0i 0 rfl rfl rfl (q0P (by omega)) rfl ?_)
  refine gg rfl (q01 rfl (fun g2=>?_) (fun g2=>?_))
  ·refine gg rfl (q04 (gg rfl (q08 rfl rfl rfl trivial ?_)))
   rw[q1I]at g2
   have:q2F l k=11:=by rw[q2F,if_neg (by simpa using g2)]
   have h11:=q3w hjo (by rw[this];decide) hlt
   rw[q0J,if_neg (by omega),if_neg (by omega),if_pos hall,if_neg (by rw[h11,this];decide),h11,this]
  refine gg rfl (q04 ?_)
  rw[q1I]at g2
  have:q2F l k=0:=by rw[q2F,if_pos (by simpa using g2)]
  refine hN (k+1) ⟨by omega,q2n hjo this⟩ (by omega) (q03 rfl trivial (by simp[edges,q00,w1]))
 rw[q07]at g1
 obtain rfl:k=l.length:=by omega
 refine gg rfl (q04 (gg rfl ?_))
 have hb:∀e∈l,1≤e.line.length∧e.line.length≤40:=by
  intro e he
  obtain⟨i,hi,rfl⟩:=qyW he
  have:=hln i hi
  exact⟨by omega,by omega⟩
 have hv:=qlx (m:=40) fun e he=>(hb e he).2
 refine q02 rfl rfl (qlw l (fun e he=>⟨(hb e he).1,by have:=(hb e he).2;omega⟩) (by omega) (by omega)) ?_
 refine gg rfl (q02 rfl rfl (q3q (q0n l)) (gg rfl (q08 rfl rfl rfl trivial ?_)))
 rw[q0J,if_neg (by omega),if_neg (by omega),if_pos hall,if_pos hjo]
theorem q0Z {l:List Edge}(h:q0J l=0):2≤l.length∧l.length≤16∧q0E (q1l l) l.length=0∧q0E (q2F l) l.length=0∧q1F (q0n l)=0:=by
 unfold q0J at h
 split at h
 ·cases h
 split at h
 ·cases h
 split at h
 ·split at h
  ·exact⟨by omega,by omega,‹_›,‹_›,h⟩
  exact absurd h ‹_›
 exact absurd h ‹_›
end Go.F

namespace Go.F
structure Ntc where
 edge:Int
 at_:Int
 deriving DecidableEq
def Ntc.enc (n:Ntc):D:=.agg [.int .i64 n.edge,.int .i64 n.at_]
def qgy (l:List Ntc):D:=.lst (l.map Ntc.enc)
structure Piece where
 name:ByteArray
 edges:List Edge
 grain:Int
 notches:List Ntc
 corners:List Spot
 widths:List Int
 match_:Bool
def Piece.enc (p:Piece):D:=.agg [.str p.name,Go.F.edges p.edges,.int .i64 p.grain,qgy p.notches,q0k p.corners,ints p.widths,.bool p.match_]
def pieces (l:List Piece):D:=.lst (l.map Piece.enc)
structure Use where
 piece:Int
 count:Int
 pair:Bool
def Use.enc (u:Use):D:=.agg [.int .i64 u.piece,.int .i64 u.count,.bool u.pair]
def uses (l:List Use):D:=.lst (l.map Use.enc)
structure Sew where
 pa:Int
 ea:Int
 pb:Int
 eb:Int
 rev:Bool
 ease:Int
def Sew.enc (s:Sew):D:=.agg [.int .i64 s.pa,.int .i64 s.ea,.int .i64 s.pb,.int .i64 s.eb,.bool s.rev,.int .i64 s.ease]
def quY (l:List Sew):D:=.lst (l.map Sew.enc)
structure Opn where
 name:ByteArray
 machine:Int
 minutes:Int
 after:List Int
 uses:List Int
def Opn.enc (o:Opn):D:=.agg [.str o.name,.int .i64 o.machine,.int .i64 o.minutes,ints o.after,ints o.uses]
def opns (l:List Opn):D:=.lst (l.map Opn.enc)
def strs (l:List ByteArray):D:=.lst (l.map .str)
structure Sty where
 name:ByteArray
 sizes:List ByteArray
 mults:List Int
 pieces:List Piece
 uses:List Use
 seams:List Sew
 ops:List Opn
def Sty.enc (s:Sty):D:=.agg [.str s.name,strs s.sizes,ints s.mults,Go.F.pieces s.pieces,Go.F.uses s.uses,quY s.seams,opns s.ops]
def pc (l:List Piece)(i:Nat):Piece:=l.getD i ⟨⟨#[]⟩,[],0,[],[],[],false⟩
theorem q6s {l:List Piece}{i:Nat}(h:i<l.length):pc l i=l[i]:=by simp[pc,h]
theorem q5w {l:List Piece}{i:Nat}(h:i<l.length):(l.map Piece.enc)[i]?=some (pc l i).enc:=by simp[pc,h]
theorem q9G {l:List Piece}{i:Nat}(h:i<l.length):pc l i∈l:=by rw[q6s h];exact List.getElem_mem _
def nt (l:List Ntc)(i:Nat):Ntc:=l.getD i ⟨0,0⟩
theorem quZ {l:List Ntc}{i:Nat}(h:i<l.length):nt l i=l[i]:=by simp[nt,h]
theorem qv0 {l:List Ntc}{i:Nat}(h:i<l.length):(l.map Ntc.enc)[i]?=some (nt l i).enc:=by simp[nt,h]
def sw (l:List Sew)(i:Nat):Sew:=l.getD i ⟨0,0,0,0,false,0⟩
theorem qv1 {l:List Sew}{i:Nat}(h:i<l.length):(l.map Sew.enc)[i]?=some (sw l i).enc:=by simp[sw,h]
def sz (l:List ByteArray)(i:Nat):ByteArray:=l.getD i ⟨#[]⟩
def mu (l:List Int)(i:Nat):Int:=l.getD i 0
theorem qv2 {l:List Int}{i:Nat}(h:i<l.length):mu l i=l[i]:=by simp[mu,h]
theorem q9H {l:List Int}{i:Nat}(h:i<l.length):(l.map q00)[i]?=some (q00 (mu l i)):=by simp[mu,h]
end Go.F

namespace Go.F
attribute [local irreducible] IntKind.wrap wpM
end Go.F

namespace Go.F
def q2f (p:List Spot):Prop:=
 ∀i,i<p.length→(pt p i≠pt p ((i+1)%p.length)∧onS (pt p i) (pt p ((i+1)%p.length)) (pt p ((i+2)%p.length))=false∧onS (pt p ((i+1)%p.length)) (pt p ((i+2)%p.length)) (pt p i)=false)∧
  ∀k,k<p.length→i+2≤k→(k+1)%p.length≠i→q2J (pt p i) (pt p ((i+1)%p.length)) (pt p k) (pt p ((k+1)%p.length))=false
instance (p:List Spot):Decidable (q2f p):=by unfold q2f;exact inferInstance
theorem q6q (t:Int):0≤t*t:=by
 rcases Int.le_total 0 t with h|h
 ·exact Int.mul_nonneg h h
 exact Int.mul_nonneg_of_nonpos_of_nonpos h h
end Go.F

namespace Go.F
attribute [local irreducible] IntKind.wrap wpM
end Go.F

namespace Go.F
attribute [local irreducible] IntKind.wrap wpM
end Go.F

namespace Go.F
attribute [local irreducible] IntKind.wrap wpM
def q1s (a b:Int):Int:=if a<0 then-((2*(-a)+b)/(2*b))else(2*a+b)/(2*b)
end Go.F

namespace Go.F
attribute [local irreducible] IntKind.wrap wpM
end Go.F

namespace Go.F
open Ieee
end Go.F

namespace Go.F
section
variable {T:Tab}{sh:Shr}{nx0:Nat}{s:List Fr}{t:q0x}{h:q0d}{z:Frz}{nx:Nat}{q:Ex→q0x→q0d→Frz→Nat→Prop}
variable {base i:Nat}{res:List Nat}{dst:Nat}{g:Gd}{rest:List KOper}
theorem q6L {f:FuncId}{args:List X}{bs:List D}{rows:List (List D×Nat×Nat)}{r:D}(hs:T.shared f=false)
 (ha:qy6 (g.h base h) (args.map (·.ev t))=some (rows,bs)) (hr:q49 rows) (hp:T.pu f bs=some r) (hn:noRef 4 r=true)
 (hk:wpM T sh nx0 (.ops base res rest::s) .normal (upd t dst r) h z nx q):
 wpM T sh nx0 (.ops base res (⟨i,some dst,none,g,.callF f args⟩::rest)::s) .normal t h z nx q:=by
 refine q3u ?_
 simp only[kop,q5U,hs]
 refine qbr ha hr ?_
 unfold qaA
 refine⟨r,hp,?_⟩
 simp only[q6c,hn]
 exact hk
theorem q17 {e:EqK}{x y:X}{kk kk':IntKind}{a b:Int}(n k:Nat)(hx:x.ev t=.int kk a)(hy:y.ev t=.int kk' b)(ha:a=n)(hb:b=k)(hkb:k≤kk.bits)
 (hk:wpM T sh nx0 (.ops base res rest::s) .normal (upd t dst (.int kk ((n/2^k:Nat):Int))) h z nx q):
 wpM T sh nx0 (.ops base res (⟨i,some dst,none,g,.bin .shr e x y⟩::rest)::s) .normal t h z nx q:=by
 subst ha;subst hb
 refine atShr hx hy (by omega) ?_
 rw[Int.toNat_natCast,Nat.min_eq_left hkb]
 have e:((n:Int)).fdiv (2^k)=((n/2^k:Nat):Int):=by
  rw[show((2:Int)^k)=((2^k:Nat):Int)by simp]
  rw[Int.fdiv_eq_ediv_of_nonneg _ (Int.natCast_nonneg _)]
  rfl
 rw[e]
 exact hk
theorem q6w {e:EqK}{x y:X}{kk kk':IntKind}{a b:Int}(n k:Nat)(hx:x.ev t=.int kk a)(hy:y.ev t=.int kk' b)(ha:a=n)(hb:b=k)(hkb:k≤kk.bits)(hw:kk.wrap ((n*2^k:Nat):Int)=((n*2^k:Nat):Int))
 (hk:wpM T sh nx0 (.ops base res rest::s) .normal (upd t dst (.int kk ((n*2^k:Nat):Int))) h z nx q):
 wpM T sh nx0 (.ops base res (⟨i,some dst,none,g,.bin .shl e x y⟩::rest)::s) .normal t h z nx q:=by
 subst ha;subst hb
 refine atShl hx hy (by omega) ?_
 rw[Int.toNat_natCast,Nat.min_eq_left hkb]
 have e:((n:Int)) *2^k=((n*2^k:Nat):Int):=by simp
 rw[e,hw]
 exact hk
end
end Go.F

namespace Go.F
def val:List Nat→Nat
 |[]=>0
 |x::l=>x+4294967296*val l
def qdX:Nat→Nat→List Nat
 |0,_=>[]
 |k+1,n=>if n=0 then []else n%4294967296::qdX k (n/4294967296)
def q0f (n:Nat):List Nat:=qdX n n
def dg (l:List Nat)(i:Nat):Nat:=l.getD i 0
class LOk (l:List Nat):Prop where
 lt:∀x∈l,x<4294967296
theorem qwY:∀(k j n:Nat),n≤k→n≤j→qdX k n=qdX j n:=by
 intro k
 induction k with
 |zero=>
  intro j n h1 h2
  obtain rfl:n=0:=by omega
  cases j<;>simp[qdX]
 |succ k ih=>
  intro j n h1 h2
  cases j with
  |zero=>
   obtain rfl:n=0:=by omega
   simp[qdX]
  |succ j=>
   simp only[qdX]
   split
   ·rfl
   rw[ih j (n/4294967296) (by omega) (by omega)]
theorem q5r:q0f 0=[]:=rfl
theorem q41 {n:Nat}(h:n≠0):q0f n=n%4294967296::q0f (n/4294967296):=by
 obtain⟨k,rfl⟩:∃k,n=k+1:=⟨n-1,by omega⟩
 unfold q0f
 rw[qdX,if_neg h,qwY k ((k+1)/4294967296) _ (by omega) (Nat.le_refl _)]
theorem qjp {P:Nat→Prop}(h0:P 0)(h1:∀n,n≠0→P (n/4294967296)→P n)(n:Nat):P n:=by
 induction n using Nat.strongRecOn with
 |_ n ih=>
  by_cases h:n=0
  ·subst h;exact h0
  exact h1 n h (ih _ (by omega))
instance q0A (n:Nat):LOk (q0f n):=by
 refine⟨?_⟩
 induction n using qjp with
 |h0=>intro x hx;simp[q5r]at hx
 |h1 n hn ih=>
  rw[q41 hn]
  intro x hx
  rcases List.mem_cons.1 hx with rfl|hx
  ·omega
  exact ih x hx
theorem q0p {n k:Nat}:(q0f n).length≤k↔n<4294967296^k:=by
 induction k generalizing n with
 |zero=>
  rw[Nat.pow_zero]
  by_cases h:n=0
  ·subst h;simp[q5r]
  rw[q41 h];simp;omega
 |succ k ih=>
  by_cases h:n=0
  ·subst h;simp only[q5r,List.length_nil,Nat.zero_le,true_iff];exact Nat.pow_pos (by decide)
  rw[q41 h,List.length_cons,Nat.add_le_add_iff_right,ih,Nat.pow_succ]
  exact Nat.div_lt_iff_lt_mul (by decide)
theorem val_append (a b:List Nat):val (a++b)=val a+4294967296^a.length*val b:=by
 induction a with
 |nil=>simp[val]
 |cons x a ih=>rw[List.cons_append,val,ih,val,List.length_cons,Nat.pow_succ,Nat.mul_add,←Nat.mul_assoc,Nat.mul_comm 4294967296 (_^_)];omega
theorem q5W (a:List Nat)(x:Nat):val (a++[x])=val a+4294967296^a.length*x:=by
 rw[val_append];simp[val]
theorem LOk.cons {x:Nat}{l:List Nat}(h:LOk (x::l)):x<4294967296∧LOk l:=
 ⟨h.lt x (by simp),⟨fun y hy=>h.lt y (by simp[hy])⟩⟩
theorem LOk.take {a:List Nat}(h:LOk a)(k:Nat):LOk (a.take k):=⟨fun x hx=>h.lt x (List.mem_of_mem_take hx)⟩
theorem LOk.drop {a:List Nat}(h:LOk a)(k:Nat):LOk (a.drop k):=⟨fun x hx=>h.lt x (List.mem_of_mem_drop hx)⟩
theorem LOk.set {a:List Nat}(h:LOk a)(k:Nat){v:Nat}(hv:v<4294967296):LOk (a.set k v):=
 ⟨fun x hx=>by rcases List.mem_or_eq_of_mem_set hx with h1|h1;exact h.lt x h1;omega⟩
instance qp1:LOk []:=⟨by simp⟩
theorem q2Y {l:List Nat}(h:LOk l):val l<4294967296^l.length:=by
 induction l with
 |nil=>simp[val]
 |cons x l ih=>
  obtain⟨h1,h2⟩:=h.cons
  have:=ih h2
  rw[val,List.length_cons,Nat.pow_succ]
  omega
theorem q1k {l:List Nat}(h:LOk l)(i:Nat):dg l i<4294967296:=by
 unfold dg
 rw[List.getD_eq_getElem?_getD]
 cases hx:l[i]? with
 |none=>simp
 |some x=>simp;exact h.lt x (List.mem_of_getElem? hx)
theorem q7l {l:List Nat}{i:Nat}(h:l.length≤i):dg l i=0:=by
 unfold dg;rw[List.getD_eq_getElem?_getD,List.getElem?_eq_none h];rfl
theorem qjr {l:List Nat}{i:Nat}(h:i<l.length):dg l i=l[i]:=by simp[dg,h]
theorem qB5 {l:List Nat}{k:Nat}(h:k<l.length):l.take (k+1)=l.take k++[dg l k]:=by
 rw[List.take_succ_eq_append_getElem h,qjr h]
theorem q0Q (l:List Nat)(k:Nat):val (l.take (k+1))=val (l.take k)+4294967296^k*dg l k:=by
 by_cases h:k<l.length
 ·rw[qB5 h,q5W,List.length_take,Nat.min_eq_left (Nat.le_of_lt h)]
 rw[List.take_of_length_le (by omega),List.take_of_length_le (by omega),q7l (by omega)];simp
def u32 (n:Nat):D:=.int .u32 n
def nat (l:List Nat):D:=.lst (l.map u32)
theorem q0T (n:Int):IntKind.u64.wrap n=n%18446744073709551616:=by
 simp[IntKind.wrap,IntKind.bits,IntKind.signed]
theorem q0C {n:Nat}(h:n<18446744073709551616):IntKind.u64.wrap (n:Int)=(n:Int):=by
 rw[q0T];omega
end Go.F

namespace Go.F
theorem kn_gt {U V P ut vt q:Nat}(hU:U<(ut+1) *P)(hV:vt*P≤V)(hV0:0<V)(h:ut<q*vt):U/V<q:=by
 rw[Nat.div_lt_iff_lt_mul hV0]
 calc U<(ut+1) *P:=hU
  _≤q*vt*P:=Nat.mul_le_mul_right _ h
  _=q*(vt*P):=Nat.mul_assoc _ _ _
  _≤q*V:=Nat.mul_le_mul_left _ hV
theorem kn_le {U V P ut vt q B:Nat}(hU:ut*P≤U)(hV:V<(vt+1) *P)(hV0:B*P≤V)(hp:0<V)(hq:q<B)(h:q*vt≤ut):q≤U/V+1:=by
 by_cases h0:q=0
 ·rw[h0];exact Nat.zero_le _
 have h1:q*V≤U+V:=by
  calc q*V≤q*((vt+1) *P):=Nat.mul_le_mul_left _ (Nat.le_of_lt hV)
   _=q*vt*P+q*P:=by rw[←Nat.mul_assoc,Nat.mul_add,Nat.add_mul,Nat.mul_one]
   _≤ut*P+B*P:=Nat.add_le_add (Nat.mul_le_mul_right _ h) (Nat.mul_le_mul_right _ (Nat.le_of_lt hq))
   _≤U+V:=Nat.add_le_add hU hV0
 have h2:(q-1) *V≤U:=by
  obtain⟨k,rfl⟩:∃k,q=k+1:=⟨q-1,by omega⟩
  rw[Nat.add_mul,Nat.one_mul]at h1
  simpa using h1
 have:=(Nat.le_div_iff_mul_le hp).2 h2
 omega
end Go.F

namespace Go.F
attribute [local irreducible] IntKind.wrap wpM
section
variable {T:Tab}{sh:Shr}{nx0:Nat}{s:List Fr}{t:q0x}{h:q0d}{z:Frz}{nx:Nat}{q:Ex→q0x→q0d→Frz→Nat→Prop}
variable {base i:Nat}{res:List Nat}{g:Gd}{rest:List KOper}
end
end Go.F

namespace Go.F
attribute [local irreducible] IntKind.wrap wpM
end Go.F

namespace Go.F
attribute [local irreducible] IntKind.wrap wpM
theorem qaE {x y:Nat}(hx:x<4294967296)(hy:y<4294967296):x*y≤18446744065119617025:=by
 calc x*y≤4294967295*4294967295:=Nat.mul_le_mul (by omega) (by omega)
  _=18446744065119617025:=by decide
end Go.F

namespace Go.F
attribute [local irreducible] IntKind.wrap wpM
section
variable {T:Tab}{sh:Shr}{nx0:Nat}{s:List Fr}{t:q0x}{h:q0d}{z:Frz}{nx:Nat}{q:Ex→q0x→q0d→Frz→Nat→Prop}
variable {base i:Nat}{res:List Nat}{dst:Nat}{g:Gd}{rest:List KOper}
theorem q2Z {e:EqK}{x y:X}{kk:IntKind}{a b:Int}(n m:Nat)(hx:x.ev t=.int kk a)(hy:y.ev t=.int kk b)(ha:a=n)(hb:b=m)(hm:m≠0)(hw:kk.wrap ((n/m:Nat):Int)=((n/m:Nat):Int))
 (hk:wpM T sh nx0 (.ops base res rest::s) .normal (upd t dst (.int kk ((n/m:Nat):Int))) h z nx q):
 wpM T sh nx0 (.ops base res (⟨i,some dst,none,g,.bin .quo e x y⟩::rest)::s) .normal t h z nx q:=by
 subst ha;subst hb
 refine qeh hx hy (by omega) ?_
 have e:((n:Int)).tdiv m=((n/m:Nat):Int):=by rw[Int.tdiv_eq_ediv_of_nonneg (by omega)];rfl
 rw[e,hw]
 exact hk
theorem q7c {e:EqK}{x y:X}{kk:IntKind}{a b:Int}(n m:Nat)(hx:x.ev t=.int kk a)(hy:y.ev t=.int kk b)(ha:a=n)(hb:b=m)(hm:m≠0)
 (hk:wpM T sh nx0 (.ops base res rest::s) .normal (upd t dst (.int kk ((n%m:Nat):Int))) h z nx q):
 wpM T sh nx0 (.ops base res (⟨i,some dst,none,g,.bin .rem e x y⟩::rest)::s) .normal t h z nx q:=by
 subst ha;subst hb
 refine q37 hx hy (by omega) ?_
 have e:((n:Int)).tmod m=((n%m:Nat):Int):=by rw[Int.tmod_eq_emod_of_nonneg (by omega)];rfl
 rw[e]
 exact hk
end
end Go.F

namespace Go.F
attribute [local irreducible] IntKind.wrap wpM
section
variable {T:Tab}{sh:Shr}{nx0:Nat}{s:List Fr}{t:q0x}{h:q0d}{z:Frz}{nx:Nat}{q:Ex→q0x→q0d→Frz→Nat→Prop}
end
end Go.F

namespace Go.F
attribute [local irreducible] IntKind.wrap wpM
def len8:ByteArray:=⟨#[0,1,2,2,3,3,3,3,4,4,4,4,4,4,4,4,5,5,5,5,5,5,5,5,5,5,5,5,5,5,5,5,6,6,6,6,6,6,6,6,6,6,6,6,6,6,6,6,6,6,6,6,6,6,6,6,6,6,6,6,6,6,6,6,7,7,7,7,7,7,7,7,7,7,7,7,7,7,7,7,7,7,7,7,7,7,7,7,7,7,7,7,7,7,7,7,7,7,7,7,7,7,7,7,7,7,7,7,7,7,7,7,7,7,7,7,7,7,7,7,7,7,7,7,7,7,7,7,8,8,8,8,8,8,8,8,8,8,8,8,8,8,8,8,8,8,8,8,8,8,8,8,8,8,8,8,8,8,8,8,8,8,8,8,8,8,8,8,8,8,8,8,8,8,8,8,8,8,8,8,8,8,8,8,8,8,8,8,8,8,8,8,8,8,8,8,8,8,8,8,8,8,8,8,8,8,8,8,8,8,8,8,8,8,8,8,8,8,8,8,8,8,8,8,8,8,8,8,8,8,8,8,8,8,8,8,8,8,8,8,8,8,8,8,8,8,8,8,8,8,8,8,8,8,8,8]⟩
def q2t (k:Nat):UInt8:=len8.data.toList.getD k 0
set_option maxRecDepth 100000 in
theorem q2g:∀k,k<256→len8.data.toList[k]?=some (q2t k)∧(q2t k).toNat≤8∧k<2^(q2t k).toNat∧(k≠0→2^(q2t k).toNat≤2*k):=by decide+kernel
theorem q5i {k:Nat}(h:k<256):len8.toList[k]?=some (q2t k):=by
 rw[Go.ByteArray.toList_eq];exact(q2g k h).1
end Go.F

namespace Go.F
attribute [local irreducible] IntKind.wrap wpM
section
variable {T:Tab}{sh:Shr}{nx0:Nat}{s:List Fr}{t:q0x}{h:q0d}{z:Frz}{nx:Nat}{q:Ex→q0x→q0d→Frz→Nat→Prop}
variable {base i:Nat}{res:List Nat}{g:Gd}{rest:List KOper}
end
theorem qmM {l:List Nat}{n:Nat}(h:LOk l)(hn:l.length=n+1):val l=val (l.take n)+4294967296^n*dg l n∧val (l.take n)<4294967296^n:=by
 constructor
 ·have:=q0Q l n
  rwa[List.take_of_length_le (by omega)]at this
 have:=q2Y (h.take n)
 rwa[List.length_take,hn,Nat.min_eq_left (by omega)]at this
theorem q2a {l:List Nat}(h:LOk l)(n:Nat):val (l.take n)<4294967296^n:=by
 refine Nat.lt_of_lt_of_le (q2Y (h.take n)) (Nat.pow_le_pow_right (by decide) (by simp;omega))
structure Trial (w v:List Nat)(n:Nat):Prop where
 n2:2≤n
 wl:w.length=n+1
 wo:LOk w
 vo:LOk v
 vl:n≤v.length
 hi:2147483648≤dg v (n-1)
 lt:val w<4294967296*val (v.take n)
theorem aux0 (T:Nat){d:Nat}(h:0<d):T<(T/d+1) *d:=by
 have:=Nat.div_add_mod T d
 have hm:=Nat.mod_lt T h
 rw[Nat.add_mul,Nat.one_mul,Nat.mul_comm]
 omega
theorem aux1 {x P T d:Nat}(h1:x<P)(h2:d<4294967296):x+P*(T*4294967296+d)<(T+1) *(P*4294967296):=by
 have h3:P*(T*4294967296+d)+P≤(T+1) *(P*4294967296):=by
  have e:(T+1) *(P*4294967296)=P*((T+1) *4294967296):=by rw[Nat.mul_left_comm]
  rw[e,←Nat.mul_succ]
  exact Nat.mul_le_mul_left _ (by omega)
 omega
theorem aux3 {q a b r d:Nat}(h0:q*b≤18446744065119617025)(h:4294967296≤r∨q*b≤r*4294967296+d):q*(a*4294967296+b)≤(q*a+r) *4294967296+d:=by
 rw[Nat.mul_add q,←Nat.mul_assoc]
 omega
theorem qBb {x P T:Nat}(h:x<P):x+P*T<(T+1) *P:=by
 rw[Nat.add_mul,Nat.one_mul,Nat.mul_comm P];omega
theorem qBc {x P T:Nat}:T*P≤x+P*T:=by
 rw[Nat.mul_comm P];omega
theorem Trial.v3 {w v:List Nat}{n:Nat}(h:Trial w v n):val (v.take n)=val (v.take (n-2))+4294967296^(n-2) *(dg v (n-1) *4294967296+dg v (n-2)):=by
 obtain⟨m,rfl⟩:∃m,n=m+2:=⟨n-2,by have:=h.n2;omega⟩
 simp only[Nat.add_sub_cancel,show m+2-1=m+1 by omega]
 rw[q0Q,q0Q,Nat.pow_succ,Nat.mul_add,Nat.mul_assoc,Nat.mul_comm 4294967296]
 omega
theorem Trial.w3 {w v:List Nat}{n:Nat}(h:Trial w v n):val w=val (w.take (n-2))+4294967296^(n-2) *((dg w n*4294967296+dg w (n-1)) *4294967296+dg w (n-2)):=by
 obtain⟨m,rfl⟩:∃m,n=m+2:=⟨n-2,by have:=h.n2;omega⟩
 simp only[Nat.add_sub_cancel,show m+2-1=m+1 by omega]
 rw[(qmM h.wo h.wl).1,q0Q,q0Q,show 4294967296^(m+2)=4294967296^m*4294967296*4294967296 by rw[Nat.pow_succ,Nat.pow_succ],Nat.pow_succ]
 generalize 4294967296^m=P
 generalize dg w (m+2)=a
 generalize dg w (m+1)=b
 grind
theorem Trial.pos {w v:List Nat}{n:Nat}(h:Trial w v n):4294967296*4294967296^(n-2)≤val (v.take n)∧0<val (v.take n):=by
 have hp:0<4294967296^(n-2):=Nat.pow_pos (by decide)
 have:4294967296*4294967296^(n-2)≤val (v.take n):=by
  rw[h.v3]
  have h1:=h.hi
  have:4294967296^(n-2) *4294967296≤4294967296^(n-2) *(dg v (n-1) *4294967296+dg v (n-2)):=Nat.mul_le_mul_left _ (by omega)
  omega
 exact⟨this,by omega⟩
theorem Trial.first {w v:List Nat}{n:Nat}(h:Trial w v n):val w/val (v.take n)≤(dg w n*4294967296+dg w (n-1))/dg v (n-1):=by
 have hh:=h.hi
 have key:=kn_gt (U:=val w) (V:=val (v.take n)) (P:=4294967296^(n-2) *4294967296) (ut:=dg w n*4294967296+dg w (n-1)) (vt:=dg v (n-1)) (q:=(dg w n*4294967296+dg w (n-1))/dg v (n-1)+1) ?_ ?_ h.pos.2 ?_
 ·exact Nat.le_of_lt_succ key
 ·rw[h.w3];exact aux1 (q2a h.wo (n-2)) (q1k h.wo (n-2))
 ·rw[h.v3]
  have e:dg v (n-1) *(4294967296^(n-2) *4294967296)=4294967296^(n-2) *(dg v (n-1) *4294967296):=by rw[Nat.mul_left_comm]
  rw[e,Nat.mul_add]
  exact Nat.le_trans (Nat.le_add_right _ _) (Nat.le_add_left _ _)
 exact aux0 _ (by omega)
theorem Trial.qlt {w v:List Nat}{n:Nat}(h:Trial w v n):val w/val (v.take n)<4294967296:=(Nat.div_lt_iff_lt_mul h.pos.2).2 h.lt
theorem Trial.end {w v:List Nat}{n:Nat}(h:Trial w v n){q r:Nat}(he:q*dg v (n-1)+r=dg w n*4294967296+dg w (n-1))(hq:q<4294967296)(hr:4294967296≤r∨q*dg v (n-2)≤r*4294967296+dg w (n-2)):q≤val w/val (v.take n)+1:=by
 refine kn_le (P:=4294967296^(n-2)) (B:=4294967296) (ut:=(dg w n*4294967296+dg w (n-1)) *4294967296+dg w (n-2)) (vt:=dg v (n-1) *4294967296+dg v (n-2)) ?_ ?_ h.pos.1 h.pos.2 hq ?_
 ·rw[h.w3];exact qBc
 ·rw[h.v3];exact qBb (q2a h.vo (n-2))
 rw[←he];exact aux3 (qaE hq (q1k h.vo (n-2))) hr
end Go.F

namespace Go.F
attribute [local irreducible] IntKind.wrap wpM
def Old (U v Q:List Nat)(h:q0d)(z:Frz):Prop:=
 (∃h0:q0d,h=upd (upd (upd h0 4 (some (.row (Q.map u32) 1))) 3 (some (.row (v.map u32) 1))) 2 (some (.row (U.map u32) 1)))∧∃z0:Frz,z=upd (upd (upd z0 4 0) 3 0) 2 0
theorem Old.of {U v Q:List Nat}{h:q0d}{z:Frz}(h2:h 2=some (.row (U.map u32) 1))(h3:h 3=some (.row (v.map u32) 1))(h4:h 4=some (.row (Q.map u32) 1))(z2:z 2=0)(z3:z 3=0)(z4:z 4=0):Old U v Q h z:=by
 refine⟨⟨h,?_⟩,z,?_⟩
 ·rw[q2u (f:=h) h4,q2u (f:=h) h3,q2u (f:=h) h2]
 rw[q2u (f:=z) z4,q2u (f:=z) z3,q2u (f:=z) z2]
end Go.F

namespace Go.F
attribute [local irreducible] IntKind.wrap wpM
end Go.F

namespace Go.F
attribute [local irreducible] IntKind.wrap wpM
structure Dv (r v U Q:List Nat)(n m j:Nat):Prop where
 jm:j≤m
 ul:U.length=m+n
 uo:LOk U
 ql:Q.length=m
 qo:LOk Q
 lt:val (U.drop j)<val (v.take n)
 eq:val r=val U+val (v.take n) *(4294967296^j*val (Q.drop j))
def bl (n:Nat):Nat:=if n=0 then 0 else n.log2+1
end Go.F

namespace Go.F
attribute [local irreducible] IntKind.wrap wpM
class Sz (l:List Nat) (k:outParam Nat):Prop where
 ok:LOk l
 len:l.length≤k
instance {l:List Nat}{k:Nat} [h:Sz l k]:LOk l:=h.ok
class NB (n:Nat) (k:outParam Nat):Prop where
 lt:n<4294967296^k
instance szLimbs {n k:Nat} [h:NB n k]:Sz (q0f n) k:=⟨q0A _,q0p.2 h.lt⟩
instance q53 {l:List Nat}{k:Nat} [h:Sz l k]:NB (val l) k:=⟨Nat.lt_of_lt_of_le (q2Y h.ok) (Nat.pow_le_pow_right (by decide) h.len)⟩
theorem qdP {j k:Nat}(h:j≤k):4294967296^j≤4294967296^k:=Nat.pow_le_pow_right (by decide) h
theorem qF3 (k:Nat):0<4294967296^k:=Nat.pow_pos (by decide)
theorem q6b {m n k:Nat}(h:m≤n)(hn:n<4294967296^k):m<4294967296^k:=Nat.lt_of_le_of_lt h hn
theorem q2k {m n j k:Nat}(h1:m<4294967296^j)(h2:n<4294967296^k):m*n<4294967296^(j+k):=by
 rw[Nat.pow_add]
 exact Nat.mul_lt_mul'' h1 h2
structure RI where
 neg:Bool
 mag:List Nat
def RI.enc (a:RI):D:=.agg [.bool a.neg,nat a.mag]
def RI.v (a:RI):Int:=if a.neg then-(val a.mag:Int)else val a.mag
def RI.of (z:Int):RI:=⟨decide (z<0),q0f z.natAbs⟩
theorem RI.v_abs (a:RI):a.v.natAbs=val a.mag:=by
 unfold RI.v;split<;>omega
instance szOf {z:Int}{k:Nat} [h:NB z.natAbs k]:Sz (RI.of z).mag k:=⟨q0A _,q0p.2 h.lt⟩
end Go.F

namespace Go.F
structure RR where
 neg:Bool
 mag:List Nat
 den:List Nat
def RR.num (a:RR):RI:=⟨a.neg,a.mag⟩
def RR.enc (a:RR):D:=.agg [.bool a.neg,nat a.mag,nat a.den]
def RR.v (a:RR):Rat:=mkRat a.num.v (val a.den)
def RR.of (q:Rat):RR:=⟨decide (q.num<0),q0f q.num.natAbs,q0f q.den⟩
class SzR (a:RR) (k:outParam Nat):Prop where
 mag:Sz a.mag k
 den:Sz a.den k
instance szRm {a:RR}{k:Nat} [h:SzR a k]:Sz a.mag k:=h.mag
instance szRd {a:RR}{k:Nat} [h:SzR a k]:Sz a.den k:=h.den
instance szRn {a:RR}{k:Nat} [h:SzR a k]:Sz a.num.mag k:=h.mag
class QB (q:Rat) (k:outParam Nat):Prop where
 num:q.num.natAbs<4294967296^k
 den:q.den<4294967296^k
instance qFO {q:Rat}{k:Nat} [h:QB q k]:SzR (RR.of q) k:=⟨⟨q0A _,q0p.2 h.num⟩,⟨q0A _,q0p.2 h.den⟩⟩
theorem qlP {n:Int}{g:Nat}(hg:g∣n.natAbs):(n/(g:Int)).natAbs=n.natAbs/g:=by
 have:(g:Int)∣n:=Int.dvd_natAbs.1 (Int.natCast_dvd_natCast.2 hg)
 rw[Int.natAbs_ediv_of_dvd this];simp
theorem qBp {n:Int}{d:Nat}{j:Nat}(hn:n.natAbs<4294967296^j)(hd:d<4294967296^j)(hd0:d≠0):QB (mkRat n d) j:=by
 constructor
 ·rw[Rat.num_mkRat,if_neg hd0,qlP (Nat.gcd_dvd_right _ _)]
  exact q6b (Nat.div_le_self _ _) hn
 rw[Rat.den_mkRat,if_neg hd0]
 exact q6b (Nat.div_le_self _ _) hd
instance qFP {a b:Rat}{j k:Nat} [ha:QB a j] [hb:QB b k]:QB (a+b) (j+k+1):=by
 rw[Rat.add_def']
 refine qBp ?_ ?_ (Nat.mul_ne_zero a.den_nz b.den_nz)
 ·have h1:=q2k ha.num hb.den
  have h2:=q2k hb.num ha.den
  rw[Nat.add_comm k j]at h2
  have:(a.num*b.den+b.num*a.den).natAbs≤a.num.natAbs*b.den+b.num.natAbs*a.den:=by
   refine Nat.le_trans (Int.natAbs_add_le _ _) ?_
   rw[Int.natAbs_mul,Int.natAbs_mul];simp
  rw[Nat.pow_succ]
  omega
 exact q6b (Nat.le_refl _) (Nat.lt_of_lt_of_le (q2k ha.den hb.den) (qdP (by omega)))
instance qFQ {a b:Rat}{j k:Nat} [ha:QB a j] [hb:QB b k]:QB (a*b) (j+k):=by
 rw[Rat.mul_def']
 refine qBp ?_ (q2k ha.den hb.den) (Nat.mul_ne_zero a.den_nz b.den_nz)
 rw[Int.natAbs_mul];exact q2k ha.num hb.num
instance qbNeg {a:Rat}{k:Nat} [h:QB a k]:QB (-a) k:=⟨by rw[Rat.neg_num,Int.natAbs_neg];exact h.num,by rw[Rat.neg_den];exact h.den⟩
instance qFR {a b:Rat}{j k:Nat} [ha:QB a j] [hb:QB b k]:QB (a-b) (j+k+1):=by
 rw[Rat.sub_eq_add_neg];exact qFP
theorem qHf (n:Int):n.sign.natAbs≤1:=by
 rcases Int.lt_trichotomy n 0 with h|h|h
 ·rw[Int.sign_eq_neg_one_of_neg h];decide
 ·subst h;decide
 rw[Int.sign_eq_one_of_pos h];decide
instance qbInv {a:Rat}{k:Nat} [h:QB a k]:QB a⁻¹ k:=by
 constructor
 ·rw[Rat.num_inv,Int.natAbs_mul]
  have h1:=qHf a.num
  refine q6b ?_ h.den
  calc a.num.sign.natAbs*((a.den:Int)).natAbs≤1*a.den:=Nat.mul_le_mul h1 (by simp)
   _=a.den:=Nat.one_mul _
 rw[Rat.den_inv]
 split
 ·exact q6b a.den_pos h.den
 exact h.num
instance qbDiv {a b:Rat}{j k:Nat} [ha:QB a j] [hb:QB b k]:QB (a/b) (j+k):=by
 rw[Rat.div_def];exact qFQ
theorem qzY {z:Int}(h1: -9223372036854775808≤z)(h2:z≤9223372036854775807):QB (z:Rat) 2:=by
 constructor
 ·rw[Rat.num_intCast];show z.natAbs<18446744073709551616;omega
 rw[Rat.den_intCast];decide
def rnd (n:Int)(d:Nat):Int:=if n<0 then-(((2*n.natAbs+d)/(2*d):Nat):Int)else((2*n.natAbs+d)/(2*d):Nat)
def q1m (q:Rat):Int:=rnd q.num q.den
def RR.fix (a:RR):RR:=if val a.den=0 then⟨false,[],[1]⟩else a
instance q9o {a:RR}{k:Nat} [h:SzR a k]:SzR a.fix (k+1):=by
 have h1:=h.mag.len
 have h2:=h.den.len
 unfold RR.fix
 split
 ·exact⟨⟨⟨by simp⟩,by simp⟩,⟨⟨by simp⟩,by simp⟩⟩
 exact⟨⟨h.mag.ok,by omega⟩,⟨h.den.ok,by omega⟩⟩
end Go.F

namespace Go.F
attribute [local irreducible] IntKind.wrap wpM
end Go.F

namespace Go.F
attribute [local irreducible] IntKind.wrap wpM
instance qbV {a:RR}{k:Nat} [h:SzR a k]:QB a.v (k+1):=by
 by_cases h0:val a.den=0
 ·have e:a.v=0:=by rw[RR.v,h0,Rat.mkRat_zero]
  rw[e]
  refine⟨?_,?_⟩
  ·show 0<_;exact qF3 _
  show 1<_
  have:=qdP (show 1≤k+1 by omega)
  omega
 have h1:=(q53 (l:=a.num.mag)).lt
 have h2:=(q53 (l:=a.den)).lt
 have:=qdP (show k≤k+1 by omega)
 exact qBp (by rw[RI.v_abs];omega) (by omega) h0
theorem qDl (q:Rat):(q1m q).natAbs≤2*q.num.natAbs+q.den:=by
 unfold q1m rnd
 have:=Nat.div_le_self (2*q.num.natAbs+q.den) (2*q.den)
 generalize (2*q.num.natAbs+q.den)/(2*q.den)=x at*
 split<;>omega
instance nbRound {q:Rat}{k:Nat} [h:QB q k]:NB (q1m q).natAbs (k+1):=by
 refine⟨q6b (qDl q) ?_⟩
 have h1:=h.num
 have h2:=h.den
 rw[Nat.pow_succ]
 omega
end Go.F

namespace Go.F
attribute [local irreducible] IntKind.wrap wpM
structure RP where
 x:RR
 y:RR
structure QP where
 x:Rat
 y:Rat
 deriving DecidableEq
def RP.enc (p:RP):D:=.agg [.bool p.x.neg,nat p.x.mag,nat p.x.den,.bool p.y.neg,nat p.y.mag,nat p.y.den]
def RP.v (p:RP):QP:=⟨p.x.v,p.y.v⟩
def RP.of (q:QP):RP:=⟨RR.of q.x,RR.of q.y⟩
class SzP (p:RP) (k:outParam Nat):Prop where
 x:SzR p.x k
 y:SzR p.y k
instance szPx {p:RP}{k:Nat} [h:SzP p k]:SzR p.x k:=h.x
instance szPy {p:RP}{k:Nat} [h:SzP p k]:SzR p.y k:=h.y
class QPB (q:QP) (k:outParam Nat):Prop where
 x:QB q.x k
 y:QB q.y k
instance qpX {q:QP}{k:Nat} [h:QPB q k]:QB q.x k:=h.x
instance qpY {q:QP}{k:Nat} [h:QPB q k]:QB q.y k:=h.y
instance szPOf {q:QP}{k:Nat} [h:QPB q k]:SzP (RP.of q) k:=⟨qFO (h:=h.x),qFO (h:=h.y)⟩
instance qpV {p:RP}{k:Nat} [h:SzP p k]:QPB p.v (k+1):=⟨qbV (h:=h.x),qbV (h:=h.y)⟩
def qcw (a b:QP):QP:=⟨a.x+b.x,a.y+b.y⟩
def q13 (a b:QP):QP:=⟨a.x-b.x,a.y-b.y⟩
def q3r (a:QP)(r:Rat):QP:=⟨a.x*r,a.y*r⟩
def q1D (a b:QP):Rat:=a.x*b.y-a.y*b.x
def onP (a b:QP)(t:Rat):QP:=qcw a (q3r (q13 b a) t)
instance qpAdd {a b:QP}{j k:Nat} [QPB a j] [QPB b k]:QPB (qcw a b) (j+k+1):=⟨qFP,qFP⟩
instance qpSub {a b:QP}{j k:Nat} [QPB a j] [QPB b k]:QPB (q13 a b) (j+k+1):=⟨qFR,qFR⟩
instance qpScale {a:QP}{r:Rat}{j k:Nat} [QPB a j] [QB r k]:QPB (q3r a r) (j+k):=⟨qFQ,qFQ⟩
instance qbCross {a b:QP}{j k:Nat} [QPB a j] [QPB b k]:QB (q1D a b) ((j+k)+(j+k)+1):=qFR
instance qpOn {a b:QP}{t:Rat}{i j k:Nat} [QPB a i] [QPB b j] [QB t k]:QPB (onP a b t) (i+((j+i+1)+k)+1):=qpAdd
end Go.F

namespace Go.F
attribute [local irreducible] IntKind.wrap wpM
section
variable {T:Tab}{sh:Shr}{nx0:Nat}{s:List Fr}{t:q0x}{h:q0d}{z:Frz}{nx:Nat}{q:Ex→q0x→q0d→Frz→Nat→Prop}
variable {base i:Nat}{res:List Nat}{dst:Nat}{g:Gd}{rest:List KOper}
end
def qm1 (n:Nat):Nat→Nat→Nat
 |0,r=>r
 |k+1,r=>if(r+2^k) *(r+2^k)≤n then qm1 n k (r+2^k)else qm1 n k r
theorem qrq (n:Nat):∀(k r:Nat),r*r≤n→n<(r+2^k) *(r+2^k)→qm1 n k r*qm1 n k r≤n∧n<(qm1 n k r+1) *(qm1 n k r+1):=by
 intro k
 induction k with
 |zero=>intro r h1 h2;simp only[qm1];exact⟨h1,by simpa using h2⟩
 |succ k ih=>
  intro r h1 h2
  rw[qm1]
  rw[Nat.pow_succ]at h2
  split
  ·rename_i h;exact ih _ h (by rw[show r+2^k+2^k=r+2^k*2 by omega];exact h2)
  rename_i h;exact ih _ h1 (by omega)
theorem qgD {a b:Nat}(h:a*a<b*b):a<b:=by
 by_cases hc:b≤a
 ·exact absurd (Nat.mul_le_mul hc hc) (by omega)
 omega
end Go.F

namespace Go.F
attribute [local irreducible] IntKind.wrap wpM
def q5L {α:Type}(d:α)(n:Nat)(f:Nat→α)(k:Nat):List α:=(List.range n).map fun i=>if i<k then f i else d
theorem qiV {α:Type}(d:α)(n:Nat)(f:Nat→α):q5L d n f 0=List.replicate n d:=by
 unfold q5L
 apply List.ext_getElem<;>simp
theorem qex {α:Type}(d:α)(n:Nat)(f:Nat→α):q5L d n f n=(List.range n).map f:=by
 unfold q5L
 refine List.map_congr_left fun i hi=>?_
 rw[if_pos (List.mem_range.1 hi)]
theorem qcA {α:Type}(d:α)(n:Nat)(f:Nat→α)(k:Nat):(q5L d n f k).length=n:=by simp[q5L]
theorem qn1 {α:Type}(d:α){n:Nat}(f:Nat→α){k:Nat}(h:k<n):(q5L d n f k).set k (f k)=q5L d n f (k+1):=by
 unfold q5L
 apply List.ext_getElem
 ·simp
 intro i h1 h2
 simp only[List.length_set,List.length_map,List.length_range]at h1
 rw[List.getElem_set]
 by_cases hik:k=i
 ·subst hik;simp
 rw[if_neg hik]
 simp only[List.getElem_map,List.getElem_range]
 by_cases h3:i<k
 ·rw[if_pos h3,if_pos (by omega)]
 rw[if_neg h3,if_neg (by omega)]
section
variable {T:Tab}{sh:Shr}{nx0:Nat}{s:List Fr}{t:q0x}{h:q0d}{z:Frz}{nx:Nat}{q:Ex→q0x→q0d→Frz→Nat→Prop}
variable {base i:Nat}{res:List Nat}{g:Gd}{rest:List KOper}
theorem q4R {α:Type}{enc:α→D}{hint:Bool}{a v:X}{dst:Option Nat}{id k' n:Nat}(L:List α)(k:Nat)(w:α)(ha:a.ev t=.ptr id k' 0)(hv:v.ev t=enc w)(hkk:k'=k)
 (hn:(Nat.beq (enc w).cells.length n&&(enc w).sto)=true) (hs:∀x:α,qaL (enc x) 0 (enc w).cells=some (enc w))
 (hr:g.h base h id=some (.row (L.map enc) n)) (hz:g.z base z id≤k) (hl:k<L.length)
 (hk:wpM T sh nx0 (.ops base res rest::s) .normal (put t dst (.tup [])) (upd h id (some (.row ((L.set k w).map enc) n))) z nx q):
 wpM T sh nx0 (.ops base res (⟨i,dst,none,g,.store hint n a v⟩::rest)::s) .normal t h z nx q:=by
 subst hkk
 refine qiL (e:=enc L[k']) (e':=enc w) ha (by rw[hv];exact hn) hr hz (q1B hl) (by rw[hv];exact hs _) ?_
 rw[←List.map_set]
 exact hk
end
def sqd (a b:Spot):Nat:=((b.x-a.x) *(b.x-a.x)+(b.y-a.y) *(b.y-a.y)).toNat
def q2h (w:Int):Bool:=decide (w<0) ||decide (500<w)
theorem q6e (a b:Spot):((sqd a b:Nat):Int)=(b.x-a.x) *(b.x-a.x)+(b.y-a.y) *(b.y-a.y):=by
 unfold sqd
 have h1:=q6q (b.x-a.x)
 have h2:=q6q (b.y-a.y)
 omega
theorem q8L {a b:Int}{m:Nat}(hb:0<b)(h1: -(m:Int)≤a)(h2:a≤m): -(m:Int)≤q1s a b∧q1s a b≤m:=by
 have key:∀x:Int,0≤x→x≤m→0≤(2*x+b)/(2*b)∧(2*x+b)/(2*b)≤m:=by
  intro x h0 hx
  refine⟨Int.ediv_nonneg (by omega) (by omega),?_⟩
  by_cases hx0:x=0
  ·subst hx0;rw[Int.ediv_eq_zero_of_lt (by omega) (by omega)];omega
  have h4:2*x+b<(x+1) *(2*b):=by
   have:x*(2*b)≥x*2:=Int.mul_le_mul_of_nonneg_left (by omega) h0
   rw[Int.add_mul];omega
  have:=Int.ediv_lt_of_lt_mul (by omega) h4
  omega
 unfold q1s
 split
 ·have:=key (-a) (by omega) (by omega);omega
 have:=key a (by omega) (by omega);omega
end Go.F

namespace Go.F
attribute [local irreducible] IntKind.wrap wpM
section
variable {T:Tab}{sh:Shr}{nx0:Nat}{s:List Fr}{t:q0x}{h:q0d}{z:Frz}{nx:Nat}{q:Ex→q0x→q0d→Frz→Nat→Prop}
variable {base i:Nat}{res:List Nat}{g:Gd}{rest:List KOper}
theorem qw6 {f:X}{args:List X}{fid:FuncId}{dst:Option Nat}{a e:List D}(hf:f.ev t=.fn fid a e)(hs:T.shared fid=false)
 (hk:wpM T sh nx0 (.ops base res (⟨i,dst,none,g,.callF fid (a.map .c++args++e.map .c)⟩::rest)::s) .normal t h z nx q):
 wpM T sh nx0 (.ops base res (⟨i,dst,none,g,.callV f args⟩::rest)::s) .normal t h z nx q:=by
 have e1:∀l:List D,(l.map X.c).map (·.ev t)=l:=by
  intro l;induction l with
  |nil=>rfl
  |cons x l ih=>simp only[List.map_cons,ih];rfl
 simp only[wpM,wpo,kop,hf,hs,List.map_append,e1]at hk⊢
 exact hk
end
def inB (n m:Int):Bool:=decide (-m≤n)&&decide (n≤m)
theorem qeD {n m:Int}:inB n m=true↔ -m≤n∧n≤m:=by simp[inB]
theorem q79 (n m:Int)(h0:0≤m)(h1:m≤1000000):PU qoB [.int .i64 n,.int .i64 m]=some (.bool (inB n m)):=by
 have w:IntKind.i64.wrap (0-m)= -m:=by rw[wrap64 (by omega) (by omega)];omega
 refine q0g (fn:=qds) rfl (q0a ?_)
 refine gg rfl ?_
 rw[w]
 repeat' (first
  |refine goP 800 rfl rfl ?_
  |refine q0h rfl ?_|refine q0o rfl ?_|refine q09 rfl (fun _=>?_) (fun _=>?_)
  |refine q0e rfl ?_|refine q0j rfl ?_|refine q01 rfl (fun _=>?_) (fun _=>?_)
  |refine q0L rfl (fun _=>?_) (fun _=>?_)
  |refine q08 rfl rfl rfl trivial ?_)
 all_goals simp only[w]at*
 all_goals ((try simp only[q1M,q26,q2c,q42,decide_eq_true_eq,decide_eq_false_iff_not,Bool.not_eq_true,Bool.not_eq_false,Int.not_lt,Int.not_le]at*);first|(simp_all[inB];done) |(simp_all[inB];omega) |(rw[D.bool.injEq,Bool.eq_iff_iff];simp[inB];omega) |(rw[D.bool.injEq,Bool.eq_iff_iff];simp_all[inB];omega) |(simp[inB];split<;>(try split)<;>omega))
theorem q9g (a b:Int)(h0:0≤a)(ha:a≤1099511627776)(hb:0<b)(hb':b≤1099511627776):PU qcc [.int .i64 a,.int .i64 b]=some (.int .i64 (q1s a b)):=by
 refine q0g (fn:=q74) rfl (q0a ?_)
 refine gg rfl ?_
 have w1:=ww (x:=2*a)
 have w2:=ww (x:=2*a+b)
 have w3:=ww (x:=2*b)
 refine q01 rfl (fun h=>?_) (fun h=>?_)
 ·rw[q06]at h;omega
 refine gg rfl (qeh rfl rfl (by rw[w3];omega) ?_)
 refine gg rfl (q08 rfl rfl rfl trivial ?_)
 have hd:(2*a+b).tdiv (2*b)=(2*a+b)/(2*b):=Int.tdiv_eq_ediv_of_nonneg (by omega)
 have hq:(2*a+b)/(2*b)≤2*a+b:=Int.ediv_le_self _ (by omega)
 have hq0:0≤(2*a+b)/(2*b):=Int.ediv_nonneg (by omega) (by omega)
 rw[w1,w2,w3,hd,wrap64 (by omega) (by omega),q1s,if_neg (by omega)]
theorem qau (a b:Int)(ha0: -1099511627776≤a)(ha:a≤1099511627776)(hb:0<b)(hb':b≤1099511627776):PU qcc [.int .i64 a,.int .i64 b]=some (.int .i64 (q1s a b)):=by
 by_cases h0:0≤a
 ·exact q9g a b h0 ha hb hb'
 refine q0g (fn:=q74) rfl (q0a ?_)
 refine gg rfl (q01 rfl (fun h=>?_) (fun h=>?_))
 ·refine gg rfl ?_
  have w1:IntKind.i64.wrap (0-a)= -a:=by rw[wrap64 (by omega) (by omega)];omega
  rw[w1]
  refine q02 rfl rfl (q9g (-a) b (by omega) (by omega) hb hb') ?_
  refine gg rfl (q08 rfl rfl rfl trivial ?_)
  have hq:(2*(-a)+b)/(2*b)≤2*(-a)+b:=Int.ediv_le_self _ (by omega)
  have hq0:0≤(2*(-a)+b)/(2*b):=Int.ediv_nonneg (by omega) (by omega)
  rw[q1s,if_neg (by omega),q1s,if_pos (by omega),wrap64 (by omega) (by omega)]
  simp
 rw[q07]at h;omega
def q7i (c:List Spot)(m:Int)(i:Nat):Spot:=⟨m*(pt c (i%c.length)).x,m*(pt c (i%c.length)).y⟩
def qhX (s:Spot)(n:Nat):Prop:=s.x.natAbs≤n∧s.y.natAbs≤n
theorem qw7 {m x:Int}(hm:m.natAbs≤100)(hx:x.natAbs≤1000):(m*x).natAbs≤100000:=by
 rw[Int.natAbs_mul]
 exact Nat.le_trans (Nat.mul_le_mul hm hx) (by decide)
theorem q8p {c:List Spot}(hc:∀s∈c,qhX s 1000){m:Int}(hm:m.natAbs≤100)(h0:0<c.length)(i:Nat):qhX (q7i c m i) 100000:=by
 have h:=hc (pt c (i%c.length)) (by rw[q0D (Nat.mod_lt _ h0)];exact List.getElem_mem _)
 exact⟨qw7 hm h.1,qw7 hm h.2⟩
theorem qc9 (c:List Spot)(m:Int)(i:Nat)(hc:∀s∈c,qhX s 1000)(hm:m.natAbs≤100)(h0:0<c.length)(hi:i≤1000000)(hl:c.length≤1000000):
 PU q51 [.agg [q0k c,.int .i64 m],.int .i64 i]=some (q7i c m i).enc:=by
 have hml:i%c.length<c.length:=Nat.mod_lt _ h0
 have hn:=q8p hc hm h0 i
 have e1:(q7i c m i).x=m*(pt c (i%c.length)).x:=rfl
 have e2:(q7i c m i).y=m*(pt c (i%c.length)).y:=rfl
 have w1:IntKind.i64.wrap (m*(pt c (i%c.length)).x)=m*(pt c (i%c.length)).x:=wrap64 (by have:=hn.1;rw[e1]at this;omega) (by have:=hn.1;rw[e1]at this;omega)
 have w2:IntKind.i64.wrap (m*(pt c (i%c.length)).y)=m*(pt c (i%c.length)).y:=wrap64 (by have:=hn.2;rw[e2]at this;omega) (by have:=hn.2;rw[e2]at this;omega)
 refine q0g (fn:=q4W) rfl (q0a ?_)
 refine gg rfl ?_
 rw[List.length_map]
 refine q37 rfl rfl (by omega) ?_
 refine gg rfl (q0i (i%c.length) rfl rfl q1q (q0P hml) rfl (gg rfl ?_))
 rw[w1,w2]
 exact q08 rfl rfl rfl trivial rfl
def movC (n k:Nat)(v a b:Int):Int:=v+q1s (((n:Int)-1-k) *a+k*b) ((n:Int)-1)
def qeS (l:List Spot)(a b:Spot)(k:Nat):Spot:=⟨movC l.length k (pt l k).x a.x b.x,movC l.length k (pt l k).y a.y b.y⟩
def qtp (l:List Spot)(a b:Spot):List Spot:=(List.range l.length).map (qeS l a b)
theorem qmJ {n k:Nat}(hk:k<n)(hn:n≤40){a b:Int}(ha:a.natAbs≤100000)(hb:b.natAbs≤100000):(((n:Int)-1-k) *a).natAbs≤4000000∧((k:Int) *b).natAbs≤4000000:=by
 constructor
 ·rw[Int.natAbs_mul]
  exact Nat.le_trans (Nat.mul_le_mul (show _≤40 by omega) ha) (by decide)
 rw[Int.natAbs_mul]
 exact Nat.le_trans (Nat.mul_le_mul (show _≤40 by omega) hb) (by decide)
set_option maxHeartbeats 2000000 in
theorem qEN (l:List Spot)(a b:Spot)(h2:2≤l.length)(h40:l.length≤40)(hw:∀s∈l,q0v s 1048576=true)(ha:qhX a 100000)(hb:qhX b 100000):
 PU qqw [q0k l,a.enc,b.enc]=some (q0k (qtp l a b)):=by
 have w0:=ww (x:=(l.length:Int)-1)
 refine q0g (fn:=qfh) rfl (q0a ?_)
 refine gg rfl ?_
 rw[List.length_map,w0]
 refine q3O l.length rfl rfl rfl (by simp[q0M];omega) ?_
 have ez:List.replicate l.length (D.agg [.int .i64 0,.int .i64 0])=(q5L ⟨0,0⟩ l.length (qeS l a b) 0).map Spot.enc:=by
  rw[qiV];simp[Spot.enc]
 rw[ez]
 refine gg rfl ?_
 rw[List.length_map]
 refine q0l (S:=fun k:Nat=>([.ptr 0 0 0,.ptr 1 0 0,.int .i64 ((l.length:Int)-1),.ref 3 0 l.length,q0k l,q00 l.length,q00 k],[some (.row [a.enc] 2),some (.row [b.enc] 2),none,some (.row ((q5L ⟨0,0⟩ l.length (qeS l a b) k).map Spot.enc) 2),none,none,none],[0,0,0,0,0,0,0])) (C:=fun k=>k≤l.length) (m:=fun k=>l.length-k) 0 (Nat.zero_le _) (by omega) ?_ ?_
 ·exact q03 rfl ⟨rfl,rfl,q05 q0r _,trivial⟩ (by simp[q0k,q00,Spot.enc])
 intro k hk N hN
 refine gg rfl (q01 rfl (fun e1=>?_) (fun e1=>?_))
 ·rw[q06]at e1
  have hlt:k<l.length:=by omega
  have w1:=wS (n:=k)
  have hin:=hw (pt l k) (by rw[q0D hlt];exact List.getElem_mem _)
  rw[q1C]at hin
  have c1:=qmJ hlt h40 ha.1 hb.1
  have c2:=qmJ hlt h40 ha.2 hb.2
  have d0:IntKind.i64.wrap ((l.length:Int)-1-(k:Int))=(l.length:Int)-1-k:=ww
  have d1:=ww (x:=((l.length:Int)-1-k) *a.x)
  have d2:=ww (x:=(k:Int) *b.x)
  have d3:=ww (x:=((l.length:Int)-1-k) *a.x+(k:Int) *b.x)
  have d4:=ww (x:=((l.length:Int)-1-k) *a.y)
  have d5:=ww (x:=(k:Int) *b.y)
  have d6:=ww (x:=((l.length:Int)-1-k) *a.y+(k:Int) *b.y)
  have q1:=qau (((l.length:Int)-1-k) *a.x+(k:Int) *b.x) ((l.length:Int)-1) (by omega) (by omega) (by omega) (by omega)
  have q2:=qau (((l.length:Int)-1-k) *a.y+(k:Int) *b.y) ((l.length:Int)-1) (by omega) (by omega) (by omega) (by omega)
  have r1:=q8L (a:=((l.length:Int)-1-k) *a.x+(k:Int) *b.x) (b:=(l.length:Int)-1) (m:=8000000) (by omega) (by omega) (by omega)
  have r2:=q8L (a:=((l.length:Int)-1-k) *a.y+(k:Int) *b.y) (b:=(l.length:Int)-1) (m:=8000000) (by omega) (by omega) (by omega)
  have d7:=ww (x:=(pt l k).x+q1s (((l.length:Int)-1-k) *a.x+(k:Int) *b.x) ((l.length:Int)-1))
  have d8:=ww (x:=(pt l k).y+q1s (((l.length:Int)-1-k) *a.y+(k:Int) *b.y) ((l.length:Int)-1))
  have hset:=qn1 ⟨0,0⟩ (qeS l a b) hlt
  refine gg rfl (q0i k rfl rfl rfl (q0P hlt) rfl (gg rfl ?_))
  rw[d0,d1,d2,d3]
  refine q02 rfl rfl q1 (gg rfl ?_)
  rw[d7,d0,d4,d5,d6]
  refine q02 rfl rfl q2 (gg rfl ?_)
  rw[d8]
  refine q0F k rfl rfl rfl rfl rfl (by omega) ?_
  refine gg rfl (q4R (enc:=Spot.enc) (q5L ⟨0,0⟩ l.length (qeS l a b) k) k (qeS l a b k) rfl rfl (Nat.zero_add _) rfl (fun _=>rfl) rfl (Nat.zero_le _) (by rw[qcA];omega) ?_)
  rw[hset]
  exact gg rfl (q04 (hN (k+1) hlt (by omega) (q03 rfl ⟨rfl,rfl,q05 q0r _,trivial⟩ (by simp[q0k,q00,w1,Spot.enc]))))
 rw[q07]at e1
 obtain rfl:k=l.length:=by omega
 rw[qex]
 refine gg rfl (q04 (gg rfl (q08 rfl rfl rfl ⟨q2D (by simp) (q0X q2q _),trivial⟩ ?_)))
 rw[q2E (by simp)];rfl
def q7a (p:Piece)(m:Int)(i:Nat):Edge:=⟨(eg p.edges i).name,qtp (eg p.edges i).line (q7i p.corners m i) (q7i p.corners m (i+1))⟩
def q3G (p:Piece)(m:Int):List Edge:=(List.range p.edges.length).map (q7a p m)
def q0q (p:Piece)(m:Int):List Edge×Int:=
 if inB m 100=false then([],3)
 else if p.corners.length≠p.edges.length then([],1)
 else if(p.corners.any fun s=>!(inB s.x 1000&&inB s.y 1000))then([],3)
 else if q0J p.edges≠0 then([],q0J p.edges)
 else if q0J (q3G p m)≠0 then([],q0J (q3G p m))
 else(q3G p m,0)
theorem q27 {α:Type}{f:α→Bool}{l:List α}{k:Nat}(hk:k<l.length)(h:f l[k]=true):l.any f=true:=by
 rw[List.any_eq_true];exact⟨_,List.getElem_mem _,h⟩
theorem q1W {α:Type}{f:α→Bool}{l:List α}(h:∀k (hk:k<l.length),f l[k]=false):l.any f=false:=by
 rw[List.any_eq_false]
 intro x hx
 obtain⟨k,hk,rfl⟩:=List.getElem_of_mem hx
 rw[h k hk];decide
def encGr (r:List Edge×Int):D:=.tup [edges r.1,.int .i64 r.2]
set_option maxHeartbeats 4000000 in
theorem q5E (p:Piece)(m:Int)(hc:p.corners.length≤1000000):PU qov [p.enc,.int .i64 m]=some (encGr (q0q p m)):=by
 refine q0g (fn:=qcL) rfl (q0a ?_)
 refine gg rfl (q02 rfl rfl (q79 m 100 (by decide) (by decide)) ?_)
 cases hm:inB m 100 with
 |false=>
  refine gg rfl (q0e rfl (gg rfl (q08 rfl rfl rfl trivial ?_)))
  rw[q0q,if_pos hm];rfl
 |true=>
  have hm1:¬inB m 100=false:=by rw[hm];decide
  rw[qeD]at hm
  refine gg rfl (q0j rfl (gg rfl ?_))
  rw[List.length_map,List.length_map]
  refine q01 rfl (fun g1=>?_) (fun g1=>?_)
  ·rw[q0u]at g1
   refine gg rfl (q08 rfl rfl rfl trivial ?_)
   rw[q0q,if_neg hm1,if_pos (by omega)];rfl
  rw[q0z]at g1
  have g1':p.corners.length=p.edges.length:=by omega
  refine gg rfl ?_
  rw[List.length_map]
  refine q0l (S:=fun k:Nat=>([.int .i64 m,.ptr 1 0 0,q0k p.corners,q00 p.corners.length,q00 k],[none,some (.row [p.enc] 7),none,none,none],[0,0,0,0,0])) (C:=fun k=>k≤p.corners.length∧∀j (hj:j<p.corners.length),j<k→(inB p.corners[j].x 1000&&inB p.corners[j].y 1000)=true) (m:=fun k=>p.corners.length-k) 0 ⟨Nat.zero_le _,fun j _ hj=>by omega⟩ (by omega) ?_ ?_
  ·exact q03 rfl ⟨rfl,trivial⟩ (by simp[q0k,q00,Piece.enc,edges,qgy,ints])
  rintro k ⟨hk,hin⟩ N hN
  refine gg rfl (q01 rfl (fun e1=>?_) (fun e1=>?_))
  ·rw[q06]at e1
   have hlt:k<p.corners.length:=by omega
   have w1:=wS (n:=k)
   have hx:=q79 (pt p.corners k).x 1000 (by decide) (by decide)
   have hy:=q79 (pt p.corners k).y 1000 (by decide) (by decide)
   have bad:(inB (pt p.corners k).x 1000&&inB (pt p.corners k).y 1000)=false→q0q p m=([],3):=by
    intro h
    rw[q0q,if_neg hm1,if_neg (by omega),if_pos]
    refine q27 hlt ?_
    rw[←q0D hlt,h];rfl
   refine gg rfl (q0i k rfl rfl rfl (q0P hlt) rfl (gg rfl (q02 rfl rfl hx ?_)))
   cases bx:inB (pt p.corners k).x 1000 with
   |false=>
    refine gg rfl (q0h rfl (gg rfl (q0e rfl (gg rfl (q04 (gg rfl (q08 rfl rfl rfl trivial ?_)))))))
    rw[bad (by rw[bx];rfl)];rfl
   |true=>
    refine gg rfl (q0o rfl (gg rfl (q02 rfl rfl hy ?_)))
    cases by':inB (pt p.corners k).y 1000 with
    |false=>
     refine gg rfl (q0e rfl (gg rfl (q04 (gg rfl (q08 rfl rfl rfl trivial ?_)))))
     rw[bad (by rw[bx,by'];rfl)];rfl
    |true=>
     refine gg rfl (q0j rfl (gg rfl (q04 (hN (k+1) ⟨hlt,fun j hj hjk=>?_⟩ (by omega) (q03 rfl ⟨rfl,trivial⟩ (by simp[q0k,q00,Piece.enc,edges,qgy,ints,w1]))))))
     by_cases e:j=k
     ·subst e;rw[←q0D hj,bx,by'];rfl
     exact hin j hj (by omega)
  rw[q07]at e1
  obtain rfl:k=p.corners.length:=by omega
  clear hN
  have hany:¬(p.corners.any fun s=>!(inB s.x 1000&&inB s.y 1000))=true:=by
   rw[q1W fun k hk=>by rw[hin k hk hk];rfl];decide
  have hnear:∀s∈p.corners,qhX s 1000:=by
   intro s hs
   obtain⟨j,hj,rfl⟩:=List.getElem_of_mem hs
   have:=hin j hj hj
   rw[Bool.and_eq_true,qeD,qeD]at this
   exact⟨by omega,by omega⟩
  refine gg rfl (q04 (gg rfl (q02 rfl rfl (q6k p.edges) (gg rfl (q01 rfl (fun g2=>?_) (fun g2=>?_))))))
  ·rw[q0u]at g2
   refine gg rfl (q08 rfl rfl rfl trivial ?_)
   rw[q0q,if_neg hm1,if_neg (by omega),if_neg hany,if_pos g2];rfl
  have g2:q0J p.edges=0:=q0z.1 g2
  obtain⟨c1,c2,c3,c4,c5⟩:=q0Z g2
  have hr:q0q p m=if q0J (q3G p m)≠0 then([],q0J (q3G p m))else(q3G p m,0):=by
   rw[q0q,if_neg hm1,if_neg (by omega),if_neg hany,if_neg (by omega)]
  rw[hr]
  have hm2:m.natAbs≤100:=by omega
  refine gg rfl ?_
  rw[List.length_map]
  refine q0l (S:=fun k:Nat=>([.fn q51 [.agg [q0k p.corners,.int .i64 m]] [],.ref 1 0 k,edges p.edges,q00 p.edges.length,q00 k],[none,some (.row (((List.range k).map (q7a p m)).map Edge.enc) 2),none,none,none],[0,0,0,0,0])) (C:=fun k=>k≤p.edges.length) (m:=fun k=>p.edges.length-k) 0 (Nat.zero_le _) (by omega) ?_ ?_
  ·exact q03 rfl ⟨rfl,trivial⟩ rfl
  intro k hk N hN
  refine gg rfl (q01 rfl (fun e2=>?_) (fun e2=>?_))
  ·rw[q06]at e2
   have hlt:k<p.edges.length:=by omega
   have w1:=wS (n:=k)
   have hL:=q2P (q18 c3 hlt)
   obtain⟨n2,n40,hw⟩:=q2j hL
   have ca:=qc9 p.corners m k hnear hm2 (by omega) (by omega) (by omega)
   have cb:=qc9 p.corners m (k+1) hnear hm2 (by omega) (by omega) (by omega)
   have mv:=qEN (eg p.edges k).line (q7i p.corners m k) (q7i p.corners m (k+1)) n2 n40 hw (q8p hnear hm2 (by omega) _) (q8p hnear hm2 (by omega) _)
   have hst:(((List.range (k+1)).map (q7a p m)).map Edge.enc)=((List.range k).map (q7a p m)).map Edge.enc++[(q7a p m k).enc]:=by
    rw[List.range_succ,List.map_append,List.map_append];rfl
   refine gg rfl (q0i k rfl rfl rfl (q1O hlt) rfl (gg rfl (qw6 rfl rfl (q02 rfl rfl ca (gg rfl ?_)))))
   rw[w1]
   refine qw6 rfl rfl (q02 rfl rfl cb (gg rfl (q02 rfl rfl mv (gg rfl (q1f rfl rfl rfl rfl rfl rfl (by simp) (Nat.zero_le _) (by simp[q0M];omega) ?_)))))
   refine gg rfl (q04 (hN (k+1) hlt (by omega) (q03 rfl ⟨?_,trivial⟩ ?_)))
   ·rw[List.all_append,q05 q39];rfl
   rw[hst];simp[q0k,edges,q00,w1];rfl
  rw[q07]at e2
  obtain rfl:k=p.edges.length:=by omega
  have hgl:(q3G p m).length=p.edges.length:=by simp[q3G]
  refine gg rfl (q04 (gg rfl (q6L rfl rfl ⟨q2D (by simp) (q0X q5M _),trivial⟩ (by rw[q2E (by simp)];exact q6k (q3G p m)) rfl ?_)))
  refine gg rfl (q01 rfl (fun g3=>?_) (fun g3=>?_))
  ·rw[q0u]at g3
   refine gg rfl (q08 rfl rfl rfl trivial ?_)
   rw[if_pos g3];rfl
  rw[q0z]at g3
  refine gg rfl (q08 rfl rfl rfl ⟨q2D (by simp) (q0X q5M _),trivial⟩ ?_)
  rw[q2E (by simp),if_neg (by simp[g3])];rfl
end Go.F

namespace Go.F
section
variable {T:Tab}{sh:Shr}{nx0:Nat}{s:List Fr}{t:q0x}{h:q0d}{z:Frz}{nx:Nat}{q:Ex→q0x→q0d→Frz→Nat→Prop}
inductive Obl where
 |p (es:List D)
 |s (h:q0d) (es l:List D) (rs:List Nat)
end
end Go.F

namespace Go.F
attribute [local irreducible] IntKind.wrap wpM
def qp (s:Spot):QP:=⟨s.x,s.y⟩
class MidS (s:Spot):Prop where
 bx:s.x.natAbs≤1099511627776
 byy:s.y.natAbs≤1099511627776
instance midOk {s:Spot} [h:OkS s]:MidS s:=⟨by have:=h.bx;omega,by have:=h.byy;omega⟩
instance (priority:=100) midX {s:Spot} [h:MidS s]:Bd s.x 1099511627776:=⟨h.bx⟩
instance (priority:=100) midY {s:Spot} [h:MidS s]:Bd s.y 1099511627776:=⟨h.byy⟩
instance qbQx {s:Spot} [h:MidS s]:QPB (qp s) 2:=⟨qzY (by have:=h.bx;omega) (by have:=h.bx;omega),qzY (by have:=h.byy;omega) (by have:=h.byy;omega)⟩
structure Seg where
 fr:Spot
 to:Spot
 w:Int
def Seg.enc (s:Seg):D:=.agg [.int .i64 s.fr.x,.int .i64 s.fr.y,.int .i64 s.to.x,.int .i64 s.to.y,.int .i64 s.w]
class SegOk (s:Seg):Prop where
 fr:MidS s.fr
 to:MidS s.to
 w0:0≤s.w
 w1:s.w≤500
instance {s:Seg} [h:SegOk s]:MidS s.fr:=h.fr
instance {s:Seg} [h:SegOk s]:MidS s.to:=h.to
end Go.F

namespace Go.F
attribute [local irreducible] IntKind.wrap wpM
section
variable {T:Tab}{sh:Shr}{nx0:Nat}{s:List Fr}{t:q0x}{h:q0d}{z:Frz}{nx:Nat}{q:Ex→q0x→q0d→Frz→Nat→Prop}
variable {base i:Nat}{res:List Nat}{g:Gd}{rest:List KOper}
end
end Go.F

namespace Go.F
attribute [local irreducible] IntKind.wrap wpM
section
variable {T:Tab}{sh:Shr}{nx0:Nat}{s:List Fr}{t:q0x}{h:q0d}{z:Frz}{nx:Nat}{q:Ex→q0x→q0d→Frz→Nat→Prop}
variable {base i:Nat}{res:List Nat}{dst:Nat}{g:Gd}{rest:List KOper}
end
end Go.F

namespace Go.F
attribute [local irreducible] IntKind.wrap wpM
end Go.F

namespace Go.F
attribute [local irreducible] IntKind.wrap wpM
end Go.F

namespace Go.F
end Go.F

namespace Go.F
end Go.F

namespace Go.F
end Go.F

namespace Go.F
def crU (U:Nat→Int)(j:Nat)(z:Int):Prop:=(U j≤z∧z<U (j+1))∨(U (j+1)≤z∧z<U j)
instance (U:Nat→Int)(j:Nat)(z:Int):Decidable (crU U j z):=by unfold crU;exact inferInstance
def yU (U V:Nat→Int)(t:Nat→Rat)(j:Nat)(z:Int):Rat:=(V j:Rat)+t j*((z:Rat)-(U j:Rat))
structure ClU (n:Nat)(U V:Nat→Int)(t:Nat→Rat):Prop where
 cU:U n=U 0
 cV:V n=V 0
 ne:∀j,j<n→U j≠U (j+1)
 yt:∀j,j<n→yU U V t j (U (j+1))=V (j+1)
end Go.F

namespace Go.F
def inU (U:Nat→Int)(j:Nat)(z:Int):Prop:=(U j≤z∧z≤U (j+1))∨(U (j+1)≤z∧z≤U j)
structure SmU (n:Nat)(U V:Nat→Int)(t:Nat→Rat):Prop extends ClU n U V t where
 n3:3≤n
 same:∀i j z,i<n→j<n→i≠j→crU U i z→crU U j z→
  (yU U V t i z≤yU U V t j z∧yU U V t i (z+1)≤yU U V t j (z+1)∧yU U V t i z+yU U V t i (z+1)<yU U V t j z+yU U V t j (z+1))∨
  (yU U V t j z≤yU U V t i z∧yU U V t j (z+1)≤yU U V t i (z+1)∧yU U V t j z+yU U V t j (z+1)<yU U V t i z+yU U V t i (z+1))
 tch:∀i j z,i<n→j<n→i≠j→inU U i z→inU U j z→yU U V t i z=yU U V t j z→
  ∃m m',(m=i∨m=i+1)∧(m'=j∨m'=j+1)∧U m=z∧(m=m'∨(m=0∧m'=n)∨(m=n∧m'=0))
def hU (U V:Nat→Int)(t:Nat→Rat)(j:Nat)(z:Int):Rat:=yU U V t j z+yU U V t j (z+1)
end Go.F

namespace Go.F
end Go.F

namespace Go.F
end Go.F

namespace Go.F
end Go.F

namespace Go.F
end Go.F

namespace Go.F
end Go.F

namespace Go.F
theorem qbp {p:List Spot}(h:q1t p=0){j:Nat}(hj:j<p.length):q0v (pt p j) 1048576=true:=by
 rw[q0D hj];exact(q2j h).2.2 _ (List.getElem_mem _)
end Go.F

namespace Go.F
attribute [local irreducible] IntKind.wrap wpM
theorem q9n {x S:Nat}(hY:x/2^S<256)(h0:S≠0→x/2^S≠0):S+(q2t (x/2^S)).toNat=bl x:=by
 obtain⟨_,g2,g3,g4⟩:=q2g (x/2^S) hY
 have hx:x<(x/2^S+1) *2^S:=by
  have:=Nat.div_add_mod x (2^S)
  have h2:=Nat.mod_lt x (Nat.pow_pos (n:=S) (show 0<2 by decide))
  rw[Nat.add_mul,Nat.mul_comm (x/2^S)];omega
 by_cases hy0:x/2^S=0
 ·have hS:S=0:=by
   rcases Nat.eq_zero_or_pos S with h|h
   ·exact h
   exact absurd hy0 (h0 (by omega))
  subst hS
  rw[Nat.pow_zero,Nat.div_one]at hy0
  subst hy0
  decide+kernel
 have hd:x/2^S*2^S≤x:=Nat.div_mul_le_self _ _
 have g4:=g4 hy0
 generalize (q2t (x/2^S)).toNat=e at*
 generalize x/2^S=Y at*
 have h1:x<2^(S+e):=by
  rw[Nat.pow_add]
  calc x<(Y+1) *2^S:=hx
   _≤2^e*2^S:=Nat.mul_le_mul_right _ g3
   _=2^S*2^e:=Nat.mul_comm _ _
 have h2:2^(S+e)≤2*x:=by
  rw[Nat.pow_add]
  calc 2^S*2^e≤2^S*(2*Y):=Nat.mul_le_mul_left _ g4
   _=2*(Y*2^S):=by ac_rfl
   _≤2*x:=Nat.mul_le_mul_left _ hd
 have hx0:x≠0:=by rintro rfl;have:=Nat.pow_pos (n:=S+e) (show 0<2 by decide);omega
 unfold bl
 rw[if_neg hx0]
 have a1:=(Nat.log2_lt hx0).2 h1
 have a2:S+e-1≤x.log2:=by
  rcases Nat.eq_zero_or_pos (S+e)with h|h
  ·omega
  refine(Nat.le_log2 hx0).2 ?_
  have:2^(S+e)=2*2^(S+e-1):=by rw[←Nat.pow_succ'];congr 1;omega
  omega
 omega
set_option maxHeartbeats 4000000 in
theorem qxm (x:Nat)(hx:x<18446744073709551616):PU qtO [.int .u64 x]=some (.int .i64 (bl x)):=by
 refine q0g (fn:=qhn) rfl (q0a ?_)
 refine gg rfl (q01 rfl (fun g1=>?_) (fun g1=>?_))
 ·rw[q0G]at g1
  refine gg rfl (q17 x 32 rfl rfl rfl rfl (by decide) ?_)
  refine gg rfl (q01 rfl (fun g2=>?_) (fun g2=>?_))
  ·rw[q0G]at g2
   refine gg rfl (q17 ((x/2^32)) 16 rfl rfl rfl rfl (by decide) ?_)
   refine gg rfl (q01 rfl (fun g3=>?_) (fun g3=>?_))
   ·rw[q0G]at g3
    refine gg rfl (q17 (((x/2^32)/2^16)) 8 rfl rfl rfl rfl (by decide) ?_)
    have eY:(((x/2^32)/2^16)/2^8)=x/2^56:=by simp only[Nat.div_div_eq_div_mul];try rfl
    have hy:x/2^56<256:=by rw[←eY];omega
    have hfin:=q9n (x:=x) (S:=56) hy (fun h=>by rw[←eY];omega)
    rw[eY]
    obtain⟨_,g2,g3,g4⟩:=q2g (x/2^56) hy
    have w8:IntKind.u8.wrap ((x/2^56:Nat):Int)=((x/2^56:Nat):Int):=by simp only[IntKind.wrap,IntKind.bits,IntKind.signed];simp;omega
    have w9:=ww (x:=(((q2t (x/2^56)).toNat:Nat):Int))
    refine gg rfl (q2d (x/2^56) rfl rfl w8 (q5i hy) (gg rfl (q08 rfl rfl rfl trivial ?_)))
    rw[w9,←hfin]
    congr 1
    try simp only[wrap64 (x:=32+16) (by decide) (by decide),wrap64 (x:=32+8) (by decide) (by decide),wrap64 (x:=48+8) (by decide) (by decide),wrap64 (x:=0+16) (by decide) (by decide),wrap64 (x:=0+8) (by decide) (by decide),wrap64 (x:=16+8) (by decide) (by decide),wrap64 (x:=32+16+8) (by decide) (by decide),wrap64 (x:=0+16+8) (by decide) (by decide)]
    rw[wrap64 (by omega) (by omega)]
    omega
   rw[q0H]at g3
   have eY:(((x/2^32)/2^16))=x/2^48:=by simp only[Nat.div_div_eq_div_mul];try rfl
   have hy:x/2^48<256:=by rw[←eY];omega
   have hfin:=q9n (x:=x) (S:=48) hy (fun h=>by rw[←eY];omega)
   rw[eY]
   obtain⟨_,g2,g3,g4⟩:=q2g (x/2^48) hy
   have w8:IntKind.u8.wrap ((x/2^48:Nat):Int)=((x/2^48:Nat):Int):=by simp only[IntKind.wrap,IntKind.bits,IntKind.signed];simp;omega
   have w9:=ww (x:=(((q2t (x/2^48)).toNat:Nat):Int))
   refine gg rfl (q2d (x/2^48) rfl rfl w8 (q5i hy) (gg rfl (q08 rfl rfl rfl trivial ?_)))
   rw[w9,←hfin]
   congr 1
   try simp only[wrap64 (x:=32+16) (by decide) (by decide),wrap64 (x:=32+8) (by decide) (by decide),wrap64 (x:=48+8) (by decide) (by decide),wrap64 (x:=0+16) (by decide) (by decide),wrap64 (x:=0+8) (by decide) (by decide),wrap64 (x:=16+8) (by decide) (by decide),wrap64 (x:=32+16+8) (by decide) (by decide),wrap64 (x:=0+16+8) (by decide) (by decide)]
   rw[wrap64 (by omega) (by omega)]
   omega
  rw[q0H]at g2
  refine gg rfl (q01 rfl (fun g3=>?_) (fun g3=>?_))
  ·rw[q0G]at g3
   refine gg rfl (q17 (((x/2^32))) 8 rfl rfl rfl rfl (by decide) ?_)
   have eY:(((x/2^32))/2^8)=x/2^40:=by simp only[Nat.div_div_eq_div_mul];try rfl
   have hy:x/2^40<256:=by rw[←eY];omega
   have hfin:=q9n (x:=x) (S:=40) hy (fun h=>by rw[←eY];omega)
   rw[eY]
   obtain⟨_,g2,g3,g4⟩:=q2g (x/2^40) hy
   have w8:IntKind.u8.wrap ((x/2^40:Nat):Int)=((x/2^40:Nat):Int):=by simp only[IntKind.wrap,IntKind.bits,IntKind.signed];simp;omega
   have w9:=ww (x:=(((q2t (x/2^40)).toNat:Nat):Int))
   refine gg rfl (q2d (x/2^40) rfl rfl w8 (q5i hy) (gg rfl (q08 rfl rfl rfl trivial ?_)))
   rw[w9,←hfin]
   congr 1
   try simp only[wrap64 (x:=32+16) (by decide) (by decide),wrap64 (x:=32+8) (by decide) (by decide),wrap64 (x:=48+8) (by decide) (by decide),wrap64 (x:=0+16) (by decide) (by decide),wrap64 (x:=0+8) (by decide) (by decide),wrap64 (x:=16+8) (by decide) (by decide),wrap64 (x:=32+16+8) (by decide) (by decide),wrap64 (x:=0+16+8) (by decide) (by decide)]
   rw[wrap64 (by omega) (by omega)]
   omega
  rw[q0H]at g3
  have eY:(((x/2^32)))=x/2^32:=by simp only[Nat.div_div_eq_div_mul];try rfl
  have hy:x/2^32<256:=by rw[←eY];omega
  have hfin:=q9n (x:=x) (S:=32) hy (fun h=>by rw[←eY];omega)
  rw[eY]
  obtain⟨_,g2,g3,g4⟩:=q2g (x/2^32) hy
  have w8:IntKind.u8.wrap ((x/2^32:Nat):Int)=((x/2^32:Nat):Int):=by simp only[IntKind.wrap,IntKind.bits,IntKind.signed];simp;omega
  have w9:=ww (x:=(((q2t (x/2^32)).toNat:Nat):Int))
  refine gg rfl (q2d (x/2^32) rfl rfl w8 (q5i hy) (gg rfl (q08 rfl rfl rfl trivial ?_)))
  rw[w9,←hfin]
  congr 1
  try simp only[wrap64 (x:=32+16) (by decide) (by decide),wrap64 (x:=32+8) (by decide) (by decide),wrap64 (x:=48+8) (by decide) (by decide),wrap64 (x:=0+16) (by decide) (by decide),wrap64 (x:=0+8) (by decide) (by decide),wrap64 (x:=16+8) (by decide) (by decide),wrap64 (x:=32+16+8) (by decide) (by decide),wrap64 (x:=0+16+8) (by decide) (by decide)]
  rw[wrap64 (by omega) (by omega)]
  omega
 rw[q0H]at g1
 refine gg rfl (q01 rfl (fun g2=>?_) (fun g2=>?_))
 ·rw[q0G]at g2
  refine gg rfl (q17 (x) 16 rfl rfl rfl rfl (by decide) ?_)
  refine gg rfl (q01 rfl (fun g3=>?_) (fun g3=>?_))
  ·rw[q0G]at g3
   refine gg rfl (q17 ((x/2^16)) 8 rfl rfl rfl rfl (by decide) ?_)
   have eY:((x/2^16)/2^8)=x/2^24:=by simp only[Nat.div_div_eq_div_mul];try rfl
   have hy:x/2^24<256:=by rw[←eY];omega
   have hfin:=q9n (x:=x) (S:=24) hy (fun h=>by rw[←eY];omega)
   rw[eY]
   obtain⟨_,g2,g3,g4⟩:=q2g (x/2^24) hy
   have w8:IntKind.u8.wrap ((x/2^24:Nat):Int)=((x/2^24:Nat):Int):=by simp only[IntKind.wrap,IntKind.bits,IntKind.signed];simp;omega
   have w9:=ww (x:=(((q2t (x/2^24)).toNat:Nat):Int))
   refine gg rfl (q2d (x/2^24) rfl rfl w8 (q5i hy) (gg rfl (q08 rfl rfl rfl trivial ?_)))
   rw[w9,←hfin]
   congr 1
   try simp only[wrap64 (x:=32+16) (by decide) (by decide),wrap64 (x:=32+8) (by decide) (by decide),wrap64 (x:=48+8) (by decide) (by decide),wrap64 (x:=0+16) (by decide) (by decide),wrap64 (x:=0+8) (by decide) (by decide),wrap64 (x:=16+8) (by decide) (by decide),wrap64 (x:=32+16+8) (by decide) (by decide),wrap64 (x:=0+16+8) (by decide) (by decide)]
   rw[wrap64 (by omega) (by omega)]
   omega
  rw[q0H]at g3
  have eY:((x/2^16))=x/2^16:=by simp only[Nat.div_div_eq_div_mul];try rfl
  have hy:x/2^16<256:=by rw[←eY];omega
  have hfin:=q9n (x:=x) (S:=16) hy (fun h=>by rw[←eY];omega)
  rw[eY]
  obtain⟨_,g2,g3,g4⟩:=q2g (x/2^16) hy
  have w8:IntKind.u8.wrap ((x/2^16:Nat):Int)=((x/2^16:Nat):Int):=by simp only[IntKind.wrap,IntKind.bits,IntKind.signed];simp;omega
  have w9:=ww (x:=(((q2t (x/2^16)).toNat:Nat):Int))
  refine gg rfl (q2d (x/2^16) rfl rfl w8 (q5i hy) (gg rfl (q08 rfl rfl rfl trivial ?_)))
  rw[w9,←hfin]
  congr 1
  try simp only[wrap64 (x:=32+16) (by decide) (by decide),wrap64 (x:=32+8) (by decide) (by decide),wrap64 (x:=48+8) (by decide) (by decide),wrap64 (x:=0+16) (by decide) (by decide),wrap64 (x:=0+8) (by decide) (by decide),wrap64 (x:=16+8) (by decide) (by decide),wrap64 (x:=32+16+8) (by decide) (by decide),wrap64 (x:=0+16+8) (by decide) (by decide)]
  rw[wrap64 (by omega) (by omega)]
  omega
 rw[q0H]at g2
 refine gg rfl (q01 rfl (fun g3=>?_) (fun g3=>?_))
 ·rw[q0G]at g3
  refine gg rfl (q17 ((x)) 8 rfl rfl rfl rfl (by decide) ?_)
  have eY:((x)/2^8)=x/2^8:=by simp only[Nat.div_div_eq_div_mul];try rfl
  have hy:x/2^8<256:=by rw[←eY];omega
  have hfin:=q9n (x:=x) (S:=8) hy (fun h=>by rw[←eY];omega)
  rw[eY]
  obtain⟨_,g2,g3,g4⟩:=q2g (x/2^8) hy
  have w8:IntKind.u8.wrap ((x/2^8:Nat):Int)=((x/2^8:Nat):Int):=by simp only[IntKind.wrap,IntKind.bits,IntKind.signed];simp;omega
  have w9:=ww (x:=(((q2t (x/2^8)).toNat:Nat):Int))
  refine gg rfl (q2d (x/2^8) rfl rfl w8 (q5i hy) (gg rfl (q08 rfl rfl rfl trivial ?_)))
  rw[w9,←hfin]
  congr 1
  try simp only[wrap64 (x:=32+16) (by decide) (by decide),wrap64 (x:=32+8) (by decide) (by decide),wrap64 (x:=48+8) (by decide) (by decide),wrap64 (x:=0+16) (by decide) (by decide),wrap64 (x:=0+8) (by decide) (by decide),wrap64 (x:=16+8) (by decide) (by decide),wrap64 (x:=32+16+8) (by decide) (by decide),wrap64 (x:=0+16+8) (by decide) (by decide)]
  rw[wrap64 (by omega) (by omega)]
  omega
 rw[q0H]at g3
 have hy:x<256:=by omega
 have hfin:=q9n (x:=x) (S:=0) (by simpa using hy) (fun h=>absurd rfl h)
 rw[Nat.pow_zero,Nat.div_one,Nat.zero_add]at hfin
 obtain⟨_,g2,g3,g4⟩:=q2g x hy
 have w8:IntKind.u8.wrap (x:Int)=(x:Int):=by simp only[IntKind.wrap,IntKind.bits,IntKind.signed];simp;omega
 have w9:=ww (x:=(((q2t x).toNat:Nat):Int))
 refine gg rfl (q2d x rfl rfl w8 (q5i hy) (gg rfl (q08 rfl rfl rfl trivial ?_)))
 rw[w9,←hfin,wrap64 (by omega) (by omega)]
 congr 1
 omega
theorem qxn (x:Nat)(hx:x<18446744073709551616):PU qzf [.int .u64 x]=some (.int .i64 (bl x)):=by
 refine q0g (fn:=qnj) rfl (q0a ?_)
 exact gg rfl (q0j rfl (gg rfl (q02 rfl rfl (qxm x hx) (gg rfl (q08 rfl rfl rfl trivial rfl)))))
def qpv (n:Nat):Nat:=qm1 n 32 0
theorem qjx {n:Nat}(h:n<2^64):qpv n*qpv n≤n∧n<(qpv n+1) *(qpv n+1):=
 qrq n 32 0 (Nat.zero_le _) (by simp;omega)
theorem qxo {n r:Nat}(h:n<2^64)(h1:r*r≤n)(h2:n<(r+1) *(r+1)):r=qpv n:=by
 obtain⟨g1,g2⟩:=qjx h
 have:=qgD (Nat.lt_of_le_of_lt h1 g2)
 have:=qgD (Nat.lt_of_le_of_lt g1 h2)
 omega
theorem newton {n x:Nat}(hx:0<x):n<((x+n/x)/2+1) *((x+n/x)/2+1):=by
 have h1:n<x*(n/x+1):=by
  have:=Nat.div_add_mod n x
  have h2:=Nat.mod_lt n hx
  rw[Nat.mul_add];omega
 generalize n/x=q at*
 have h2:x+(q+1)≤2*((x+q)/2+1):=by omega
 generalize (x+q)/2+1=s at*
 have h3:4*(x*(q+1))≤(x+(q+1)) *(x+(q+1)):=by
  generalize q+1=r
  rcases Nat.le_total x r with h|h
  ·obtain⟨d,rfl⟩:∃d,r=x+d:=⟨r-x,by omega⟩
   have:(x+(x+d)) *(x+(x+d))=4*(x*(x+d))+d*d:=by grind
   omega
  obtain⟨d,rfl⟩:∃d,x=r+d:=⟨x-r,by omega⟩
  have:(r+d+r) *(r+d+r)=4*((r+d) *r)+d*d:=by grind
  omega
 have h4:(x+(q+1)) *(x+(q+1))≤(2*s) *(2*s):=Nat.mul_le_mul h2 h2
 have h5:(2*s) *(2*s)=4*(s*s):=by grind
 omega
theorem qjy (n:Nat)(hn:n<9223372036854775808):PU qmj [.int .i64 n]=some (.int .i64 (qpv n)):=by
 refine q0g (fn:=qbW) rfl (q0a ?_)
 refine gg rfl (q01 rfl (fun h1=>?_) (fun h1=>?_))
 ·rw[q06]at h1
  refine gg rfl (q08 rfl rfl rfl trivial ?_)
  have:n=0∨n=1:=by omega
  rcases this with rfl|rfl<;>rfl
 rw[q07]at h1
 have wu:IntKind.u64.wrap (n:Int)=(n:Int):=q0C (by omega)
 have hbl:bl n≤63:=by
  unfold bl
  rw[if_neg (by omega)]
  have:=(Nat.log2_lt (n:=n) (k:=63) (by omega)).2 (by omega)
  omega
 have hblt:n<2^bl n:=by
  unfold bl
  rw[if_neg (by omega)]
  exact(Nat.log2_lt (by omega)).1 (Nat.lt_succ_self _)
 have w1:IntKind.i64.wrap ((bl n:Int)+1)=((bl n+1:Nat):Int):=ww
 refine gg rfl ?_
 rw[wu]
 refine q02 rfl rfl (qxn n (by omega)) ?_
 refine gg rfl ?_
 rw[w1]
 refine q2Z (bl n+1) 2 rfl rfl rfl rfl (by decide) (wrap64 (by omega) (by omega)) ?_
 refine gg rfl ?_
 have hk:(bl n+1)/2≤32:=by omega
 have hp:2^((bl n+1)/2)≤4294967296:=by
  have:=Nat.pow_le_pow_right (show 0<2 by decide) hk
  omega
 have hp0:0<2^((bl n+1)/2):=Nat.pow_pos (by decide)
 have hsq:n<(2^((bl n+1)/2)+1) *(2^((bl n+1)/2)+1):=by
  have e:2^bl n≤2^((bl n+1)/2) *2^((bl n+1)/2):=by rw[←Nat.pow_add];exact Nat.pow_le_pow_right (by decide) (by omega)
  have e2:2^((bl n+1)/2) *2^((bl n+1)/2)≤(2^((bl n+1)/2)+1) *(2^((bl n+1)/2)+1):=Nat.mul_le_mul (by omega) (by omega)
  omega
 generalize hX:2^((bl n+1)/2)=X at*
 refine q6w 1 ((bl n+1)/2) rfl rfl rfl rfl (by show(bl n+1)/2≤64;omega) (by rw[hX,Nat.one_mul];exact wrap64 (by omega) (by omega)) ?_
 rw[hX,Nat.one_mul]
 refine gg rfl (q0l (S:=fun x:Nat=>([q00 n,q00 x],[none,none],[0,0])) (C:=fun x=>0<x∧x≤4294967296∧n<(x+1) *(x+1)) (m:=fun x=>x) X ⟨hp0,hp,hsq⟩ (by omega) ?_ ?_)
 ·exact q03 rfl trivial (by simp[q00])
 rintro x ⟨hx0,hx1,hx2⟩ N hN
 have hq:n/x≤n:=Nat.div_le_self _ _
 have w2:IntKind.i64.wrap ((x:Int)+((n/x:Nat):Int))=((x+n/x:Nat):Int):=by rw[←Int.natCast_add];exact qcD (by
  have h2:n/x*x≤n:=Nat.div_mul_le_self _ _
  rcases Nat.lt_or_ge x 2 with h|h
  ·obtain rfl:x=1:=by omega
   simp at hx2;omega
  have:n/x*2≤n/x*x:=Nat.mul_le_mul_left _ h
  omega)
 have hne:=newton (n:=n) hx0
 refine gg rfl (q2Z n x rfl rfl rfl rfl (by omega) (qcD (by omega)) ?_)
 refine gg rfl ?_
 rw[w2]
 refine q2Z (x+n/x) 2 rfl rfl rfl rfl (by decide) (qcD (by omega)) ?_
 refine gg rfl (q01 rfl (fun g=>?_) (fun g=>?_))
 ·rw[q0G]at g
  have g':x≤(x+n/x)/2:=by omega
  have hxx:x*x≤n:=by
   have:x≤n/x:=by omega
   have h2:=Nat.div_mul_le_self n x
   have h3:=Nat.mul_le_mul_right x this
   omega
  refine gg rfl (q04 (gg rfl (q08 rfl rfl rfl trivial ?_)))
  rw[qxo (n:=n) (r:=x) (by omega) hxx hx2]
 rw[q0H]at g
 have g':(x+n/x)/2<x:=by omega
 have hy0:0<(x+n/x)/2:=by
  rcases Nat.lt_or_ge x 2 with h|h
  ·obtain rfl:x=1:=by omega
   rw[Nat.div_one]at g'⊢;omega
  clear hq w2 hne g g'
  generalize n/x=q
  omega
 exact gg rfl (q04 (hN ((x+n/x)/2) ⟨hy0,by omega,hne⟩ g' (q03 rfl trivial (by simp[q00]))))
theorem qum {a b:Spot}(ha:q0v a 1048576=true)(hb:q0v b 1048576=true):sqd a b≤8796093022208:=by
 rw[q1C]at ha hb
 have e:=q6e a b
 have b1:Bd (b.x-a.x) 2097152:=⟨by omega⟩
 have b2:Bd (b.y-a.y) 2097152:=⟨by omega⟩
 have hb:Bd ((b.x-a.x) *(b.x-a.x)+(b.y-a.y) *(b.y-a.y)) _:=inferInstance
 have:=hb.le
 omega
def qeU (a b:Spot):Nat:=qpv (1000000*sqd a b)
theorem qun {a b:Spot}(ha:q0v a 1048576=true)(hb:q0v b 1048576=true):qeU a b≤4294967296:=by
 have h:=qum ha hb
 obtain⟨h1,_⟩:=qjx (n:=1000000*sqd a b) (by omega)
 unfold qeU
 have:qpv (1000000*sqd a b)<4294967296:=qgD (by omega)
 omega
theorem qeV (a b:Spot)(ha:q0v a 1048576=true)(hb:q0v b 1048576=true):PU qgn [a.enc,b.enc]=some (.int .i64 (qeU a b)):=by
 refine q0g (fn:=q8g) rfl (q0a ?_)
 have h:=qum ha hb
 have hse:=q6e a b
 rw[q1C]at ha hb
 have bx:Bd (b.x-a.x) 2097152:=⟨by omega⟩
 have by':Bd (b.y-a.y) 2097152:=⟨by omega⟩
 have c1:IntKind.i64.wrap (b.x-a.x)=b.x-a.x:=q0U (by decide)
 have c2:IntKind.i64.wrap (b.y-a.y)=b.y-a.y:=q0U (by decide)
 refine gg rfl ?_
 rw[c1,c2]
 have c4:IntKind.i64.wrap ((b.x-a.x) *(b.x-a.x))=(b.x-a.x) *(b.x-a.x):=q0U (by decide)
 have c5:IntKind.i64.wrap ((b.y-a.y) *(b.y-a.y))=(b.y-a.y) *(b.y-a.y):=q0U (by decide)
 have c6:IntKind.i64.wrap ((b.x-a.x) *(b.x-a.x)+(b.y-a.y) *(b.y-a.y))=(sqd a b:Int):=by rw[hse];exact q0U (by decide)
 have c7:IntKind.i64.wrap (1000000*(sqd a b:Int))=((1000000*sqd a b:Nat):Int):=by rw[wrap64 (by omega) (by omega)];omega
 rw[c4,c5,c6,c7]
 refine q02 rfl rfl (qjy (1000000*sqd a b) (by omega)) ?_
 exact gg rfl (q08 rfl rfl rfl trivial rfl)
end Go.F

namespace Go.F
structure Dg (U u a b:Nat):Prop where
 hu:u<4294967296
 a1:2147483648≤a
 a2:a<4294967296
 hb:b<4294967296
 lt:U<a*4294967296+b
def dgN (U u:Nat):Nat:=U*4294967296+u
def dgY (a b:Nat):Nat:=a*4294967296+b
theorem Dg.pos {U u a b:Nat}(h:Dg U u a b):0<dgY a b:=by have:=h.a1;unfold dgY;omega
theorem Dg.qlt {U u a b:Nat}(h:Dg U u a b):dgN U u/dgY a b<4294967296:=by
 rw[Nat.div_lt_iff_lt_mul h.pos]
 have h1:=h.lt
 have h2:=h.hu
 have:(U+1) *4294967296≤dgY a b*4294967296:=Nat.mul_le_mul_right _ h1
 unfold dgN;omega
theorem Dg.first {U u a b:Nat}(h:Dg U u a b):dgN U u/dgY a b≤U/a∧U/a≤4294967297:=by
 have h1:=h.a1
 constructor
 ·rw[Nat.le_div_iff_mul_le (by omega)]
  have hd:=Nat.div_mul_le_self (dgN U u) (dgY a b)
  generalize dgN U u/dgY a b=q at*
  unfold dgN dgY at hd
  have e:q*(a*4294967296+b)=q*a*4294967296+q*b:=by rw[Nat.mul_add,Nat.mul_assoc]
  rw[e]at hd
  have:=h.hu
  omega
 have h2:=h.lt
 have h3:=h.hb
 have:U<4294967298*a:=by omega
 have:=(Nat.div_lt_iff_lt_mul (show 0<a by omega)).2 this
 omega
structure DgI (U u a b q r:Nat):Prop where
 eq:q*a+r=U
 le:dgN U u/dgY a b≤q
 hq:q≤4294967297
theorem Dg.start {U u a b:Nat}(h:Dg U u a b):DgI U u a b (U/a) (U%a):=by
 have:=Nat.div_add_mod U a
 exact⟨by rw[Nat.mul_comm];exact this,h.first.1,h.first.2⟩
theorem qEv (q a b:Nat):q*dgY a b=q*a*4294967296+q*b:=by unfold dgY;rw[Nat.mul_add,Nat.mul_assoc]
theorem qEw {q a r U:Nat}(h:q*a+r=U)(u:Nat):dgN U u=q*a*4294967296+r*4294967296+u:=by
 unfold dgN;rw[←h,Nat.add_mul]
theorem Dg.step {U u a b q r:Nat}(h:Dg U u a b)(hi:DgI U u a b q r)(hc:4294967296≤q∨r*4294967296+u<q*b):1≤q∧DgI U u a b (q-1) (r+a)∧q-1≤4294967296:=by
 have hlt:dgN U u/dgY a b<q:=by
  rcases hc with hc|hc
  ·exact Nat.lt_of_lt_of_le h.qlt hc
  rw[Nat.div_lt_iff_lt_mul h.pos,qEv,qEw hi.eq,Nat.add_assoc]
  exact Nat.add_lt_add_left hc _
 have h1:=hi.eq
 have h2:=hi.hq
 have h3:1≤q:=Nat.lt_of_le_of_lt (Nat.zero_le _) hlt
 refine⟨h3,⟨?_,Nat.le_pred_of_lt hlt,by omega⟩,by omega⟩
 obtain⟨p,rfl⟩:∃p,q=p+1:=⟨q-1,by omega⟩
 rw[Nat.succ_mul]at h1
 rw[Nat.add_sub_cancel]
 omega
theorem Dg.fin {U u a b q r:Nat}(h:Dg U u a b)(hi:DgI U u a b q r)(hc:q*b≤r*4294967296+u):q=dgN U u/dgY a b:=by
 refine Nat.le_antisymm ?_ hi.le
 rw[Nat.le_div_iff_mul_le h.pos,qEv,qEw hi.eq,Nat.add_assoc]
 exact Nat.add_le_add_left hc _
theorem Dg.stop {U u a b q r:Nat}(h:Dg U u a b)(hi:DgI U u a b q r)(hq:q≤4294967296)(hr:4294967296≤r):q=dgN U u/dgY a b:=by
 refine h.fin hi ?_
 have h1:=h.hb
 have h2:q*b≤4294967296*4294967295:=Nat.mul_le_mul hq (Nat.le_of_lt_succ h1)
 have h3:4294967296*4294967296≤r*4294967296:=Nat.mul_le_mul_right _ hr
 exact Nat.le_trans h2 (Nat.le_trans (Nat.mul_le_mul_left _ (Nat.le_succ _)) (Nat.le_trans h3 (Nat.le_add_right _ _)))
theorem qyO (N u0 y L:Nat)(hy:0<y):N/y*L+(N%y*L+u0)/y=(N*L+u0)/y∧(N%y*L+u0)%y=(N*L+u0)%y:=by
 have e:N*L+u0=(N%y*L+u0)+y*(N/y*L):=by
  have h1:=Nat.div_add_mod N y
  have h2:N*L=y*(N/y*L)+N%y*L:=by
   conv=>lhs;rw[←h1]
   rw[Nat.add_mul,Nat.mul_assoc]
  omega
 constructor
 ·rw[e,Nat.add_mul_div_left _ _ hy,Nat.add_comm]
 rw[e,Nat.add_mul_mod_self_left]
theorem qGJ (m y s:Nat)(hy:0<y):(m*2^s)/(y*2^s)=m/y∧(m*2^s)%(y*2^s)/2^s=m%y:=by
 have hp:0<2^s:=Nat.pow_pos (by decide)
 constructor
 ·exact Nat.mul_div_mul_right m y hp
 rw[Nat.mul_mod_mul_right,Nat.mul_div_cancel _ hp]
end Go.F

namespace Go.F
attribute [local irreducible] IntKind.wrap wpM
theorem qvR (x:Nat)(hx:x<18446744073709551616):IntKind.u64.wrap ((BitVec.ofInt IntKind.u64.bits (x:Int)&&&BitVec.ofInt IntKind.u64.bits 4294967295).toNat:Int)=((x%4294967296:Nat):Int):=by
 have e:IntKind.u64.bits=64:=rfl
 have h3:(BitVec.ofInt 64 4294967295).toNat=2^32-1:=by decide
 rw[e,BitVec.toNat_and,h3,Nat.and_two_pow_sub_one_eq_mod,BitVec.toNat_ofInt]
 have hq:(((x:Int)%((2^64:Nat):Int)).toNat%2^32:Nat)=x%4294967296:=by omega
 rw[hq,q0C (by omega)]
theorem or64 (a b:Nat)(s:Nat)(hb:b<2^s)(hs:2^s*a+b<18446744073709551616):IntKind.u64.wrap ((BitVec.ofInt IntKind.u64.bits ((2^s*a:Nat):Int) |||BitVec.ofInt IntKind.u64.bits (b:Int)).toNat:Int)=((2^s*a+b:Nat):Int):=by
 have e:IntKind.u64.bits=64:=rfl
 have f:∀n:Nat,n<18446744073709551616→(BitVec.ofInt 64 (n:Int)).toNat=n:=by
  intro n hn
  rw[BitVec.toNat_ofInt]
  omega
 rw[e,BitVec.toNat_or,f _ (by omega),f _ (by omega),←Nat.two_pow_add_eq_or_of_lt hb,q0C hs]
def w32 (x:Nat):Nat:=x%4294967296
def h32 (x:Nat):Nat:=x/2^32
theorem qmG (x:Nat):x=h32 x*4294967296+w32 x:=by unfold h32 w32;omega
theorem qC1 (x1 x0 y1 y0:Nat)(hx:x0<4294967296)(hy:y0<4294967296):
 x1*y1+h32 (x1*y0+h32 (x0*y0))+h32 (w32 (x1*y0+h32 (x0*y0))+x0*y1)=(x1*4294967296+x0) *(y1*4294967296+y0)/18446744073709551616:=by
 have e:(x1*4294967296+x0) *(y1*4294967296+y0)=x1*y1*18446744073709551616+(x1*y0+x0*y1) *4294967296+x0*y0:=by grind
 rw[e]
 generalize x1*y1=p
 generalize x1*y0=q
 generalize x0*y1=r
 generalize x0*y0=s
 unfold h32 w32
 omega
theorem q5C {a b:Nat}(ha:a<4294967296)(hb:b<4294967296):a*b≤18446744065119617025:=
 Nat.le_trans (Nat.mul_le_mul (Nat.le_of_lt_succ ha) (Nat.le_of_lt_succ hb)) (by decide)
theorem qg7 {x:Nat}(h:x<18446744073709551616):h32 x<4294967296:=by unfold h32;omega
theorem qoa (x:Nat):w32 x<4294967296:=by unfold w32;omega
set_option maxHeartbeats 1000000 in
theorem qEx (x y:Nat)(hx:x<18446744073709551616)(hy:y<18446744073709551616):PU qtI [.int .u64 x,.int .u64 y]=some (.tup [.int .u64 ((x*y/18446744073709551616:Nat):Int),.int .u64 ((x*y%18446744073709551616:Nat):Int)]):=by
 have x1:=qg7 hx
 have y1:=qg7 hy
 have x0:=qoa x
 have y0:=qoa y
 have b00:=q5C x0 y0
 have b10:=q5C x1 y0
 have b01:=q5C x0 y1
 have b11:=q5C x1 y1
 have hm:=qC1 (h32 x) (w32 x) (h32 y) (w32 y) x0 y0
 rw[←qmG,←qmG]at hm
 have hxy:x*y/18446744073709551616<18446744073709551616:=by
  rw[Nat.div_lt_iff_lt_mul (by decide)]
  exact Nat.mul_lt_mul_of_lt_of_le hx (Nat.le_of_lt hy) (by omega)
 have a1:=qvR x hx
 have a2:=qvR y hy
 have c1:IntKind.u64.wrap (((w32 x:Nat):Int) *((w32 y:Nat):Int))=((w32 x*w32 y:Nat):Int):=by rw[←Int.natCast_mul];exact q0C (by omega)
 have c2:IntKind.u64.wrap (((h32 x:Nat):Int) *((w32 y:Nat):Int))=((h32 x*w32 y:Nat):Int):=by rw[←Int.natCast_mul];exact q0C (by omega)
 have c3:IntKind.u64.wrap (((w32 x:Nat):Int) *((h32 y:Nat):Int))=((w32 x*h32 y:Nat):Int):=by rw[←Int.natCast_mul];exact q0C (by omega)
 have c4:IntKind.u64.wrap (((h32 x:Nat):Int) *((h32 y:Nat):Int))=((h32 x*h32 y:Nat):Int):=by rw[←Int.natCast_mul];exact q0C (by omega)
 have g0:h32 (w32 x*w32 y)<4294967296:=qg7 (by omega)
 have c5:IntKind.u64.wrap (((h32 x*w32 y:Nat):Int)+((h32 (w32 x*w32 y):Nat):Int))=((h32 x*w32 y+h32 (w32 x*w32 y):Nat):Int):=by rw[←Int.natCast_add];exact q0C (by omega)
 have a3:=qvR (h32 x*w32 y+h32 (w32 x*w32 y)) (by omega)
 have g1:=qoa (h32 x*w32 y+h32 (w32 x*w32 y))
 have g2:=qg7 (x:=h32 x*w32 y+h32 (w32 x*w32 y)) (by omega)
 have c6:IntKind.u64.wrap (((w32 (h32 x*w32 y+h32 (w32 x*w32 y)):Nat):Int)+((w32 x*h32 y:Nat):Int))=((w32 (h32 x*w32 y+h32 (w32 x*w32 y))+w32 x*h32 y:Nat):Int):=by rw[←Int.natCast_add];exact q0C (by omega)
 have g3:=qg7 (x:=w32 (h32 x*w32 y+h32 (w32 x*w32 y))+w32 x*h32 y) (by omega)
 have c7:IntKind.u64.wrap (((h32 x*h32 y:Nat):Int)+((h32 (h32 x*w32 y+h32 (w32 x*w32 y)):Nat):Int))=((h32 x*h32 y+h32 (h32 x*w32 y+h32 (w32 x*w32 y)):Nat):Int):=by rw[←Int.natCast_add];exact q0C (by omega)
 have c8:IntKind.u64.wrap (((h32 x*h32 y+h32 (h32 x*w32 y+h32 (w32 x*w32 y)):Nat):Int)+((h32 (w32 (h32 x*w32 y+h32 (w32 x*w32 y))+w32 x*h32 y):Nat):Int))=((x*y/18446744073709551616:Nat):Int):=by
  rw[←Int.natCast_add,hm];exact q0C hxy
 have c9:IntKind.u64.wrap ((x:Int) *(y:Int))=((x*y%18446744073709551616:Nat):Int):=by rw[q0T,←Int.natCast_mul];rfl
 refine q0g (fn:=qgW) rfl (q0a ?_)
 refine gg rfl ?_
 rw[a1]
 refine q17 x 32 rfl rfl rfl rfl (by decide) ?_
 refine gg rfl ?_
 rw[a2]
 refine q17 y 32 rfl rfl rfl rfl (by decide) ?_
 refine gg rfl ?_
 rw[show((x%4294967296:Nat):Int)=((w32 x:Nat):Int)from rfl,show((y%4294967296:Nat):Int)=((w32 y:Nat):Int)from rfl,show((x/2^32:Nat):Int)=((h32 x:Nat):Int)from rfl,show((y/2^32:Nat):Int)=((h32 y:Nat):Int)from rfl,c1,c2]
 refine q17 (w32 x*w32 y) 32 rfl rfl rfl rfl (by decide) ?_
 refine gg rfl ?_
 rw[show((w32 x*w32 y/2^32:Nat):Int)=((h32 (w32 x*w32 y):Nat):Int)from rfl,c5,a3]
 refine q17 (h32 x*w32 y+h32 (w32 x*w32 y)) 32 rfl rfl rfl rfl (by decide) ?_
 refine gg rfl ?_
 rw[show(((h32 x*w32 y+h32 (w32 x*w32 y))%4294967296:Nat):Int)=((w32 (h32 x*w32 y+h32 (w32 x*w32 y)):Nat):Int)from rfl,show(((h32 x*w32 y+h32 (w32 x*w32 y))/2^32:Nat):Int)=((h32 (h32 x*w32 y+h32 (w32 x*w32 y)):Nat):Int)from rfl,c3,c6,c4,c7]
 refine q17 (w32 (h32 x*w32 y+h32 (w32 x*w32 y))+w32 x*h32 y) 32 rfl rfl rfl rfl (by decide) ?_
 refine gg rfl ?_
 rw[show(((w32 (h32 x*w32 y+h32 (w32 x*w32 y))+w32 x*h32 y)/2^32:Nat):Int)=((h32 (w32 (h32 x*w32 y+h32 (w32 x*w32 y))+w32 x*h32 y):Nat):Int)from rfl,c8,c9]
 exact q08 rfl rfl rfl trivial rfl
theorem qhM (x:Nat)(hx:x<18446744073709551616):PU qct [.int .u64 x]=some (.int .i64 ((64-bl x:Nat):Int)):=by
 have hb:bl x≤64:=by
  unfold bl
  split
  ·omega
  rename_i h
  have:=(Nat.log2_lt (n:=x) (k:=64) h).2 (by omega)
  omega
 refine q0g (fn:=q68) rfl (q0a ?_)
 refine gg rfl (q02 rfl rfl (qxm x hx) (gg rfl ?_))
 have w:IntKind.i64.wrap (64-(bl x:Int))=((64-bl x:Nat):Int):=by rw[wrap64 (by omega) (by omega)];omega
 rw[w]
 exact q08 rfl rfl rfl trivial rfl
end Go.F

namespace Go.F
attribute [local irreducible] IntKind.wrap wpM
theorem or64' (a b:Nat)(s:Nat)(hb:b<2^s)(hs:a*2^s+b<18446744073709551616):IntKind.u64.wrap ((BitVec.ofInt IntKind.u64.bits ((a*2^s:Nat):Int) |||BitVec.ofInt IntKind.u64.bits (b:Int)).toNat:Int)=((a*2^s+b:Nat):Int):=by
 rw[Nat.mul_comm]at hs⊢
 exact or64 a b s hb hs
structure Nrm (hi lo y s:Nat):Prop where
 s63:s≤63
 y2:y*2^s<18446744073709551616
 y1:9223372036854775808≤y*2^s
 l:lo/2^(64-s)<2^s
 u:hi*2^s+lo/2^(64-s)<y*2^s
 h:hi*2^s<18446744073709551616
 e:(hi*2^s+lo/2^(64-s)) *18446744073709551616+lo*2^s%18446744073709551616=(hi*18446744073709551616+lo) *2^s
theorem nrm_of {hi lo y:Nat}(hh:hi<y)(hy:y<18446744073709551616)(hl:lo<18446744073709551616):Nrm hi lo y (64-bl y):=by
 have hy0:y≠0:=by omega
 have hb:bl y=y.log2+1:=by unfold bl;rw[if_neg hy0]
 have hlg:y.log2<64:=(Nat.log2_lt hy0).2 (by omega)
 have h1:2^y.log2≤y:=(Nat.le_log2 hy0).1 (Nat.le_refl _)
 have h2:y<2^(y.log2+1):=(Nat.log2_lt hy0).1 (Nat.lt_succ_self _)
 generalize hs:64-bl y=s
 have es:y.log2+1+s=64:=by omega
 have hP:0<2^s:=Nat.pow_pos (by decide)
 have hPQ:2^(64-s) *2^s=18446744073709551616:=by
  rw[←Nat.pow_add,show 64-s+s=64 by omega]
 have e1:2^(y.log2+1) *2^s=18446744073709551616:=by rw[←Nat.pow_add,es]
 have e2:2^y.log2*2^s*2=18446744073709551616:=by
  rw[Nat.pow_succ]at e1
  rw[←e1];ac_rfl
 have f1:y*2^s<18446744073709551616:=by rw[←e1];exact Nat.mul_lt_mul_of_pos_right h2 hP
 have f2:9223372036854775808≤y*2^s:=by
  have:=Nat.mul_le_mul_right (2^s) h1
  omega
 have hQ:0<2^(64-s):=Nat.pow_pos (by decide)
 have f3:lo/2^(64-s)<2^s:=by
  rw[Nat.div_lt_iff_lt_mul hQ,Nat.mul_comm,hPQ];exact hl
 have fd:lo*2^s/18446744073709551616=lo/2^(64-s):=by
  rw[←hPQ,Nat.mul_div_mul_right _ _ hP]
 have fe:(hi*2^s+lo/2^(64-s)) *18446744073709551616+lo*2^s%18446744073709551616=(hi*18446744073709551616+lo) *2^s:=by
  have hdm:=Nat.div_add_mod (lo*2^s) 18446744073709551616
  rw[fd]at hdm
  have g:(hi*18446744073709551616+lo) *2^s=hi*2^s*18446744073709551616+lo*2^s:=by
   rw[Nat.add_mul];congr 1;ac_rfl
  rw[g,Nat.add_mul]
  omega
 have fh:hi*2^s<18446744073709551616:=Nat.lt_of_le_of_lt (Nat.mul_le_mul_right _ (Nat.le_of_lt hh)) f1
 refine⟨by omega,f1,f2,f3,?_,fh,fe⟩
 have hle:(hi+1) *2^s≤y*2^s:=Nat.mul_le_mul_right _ hh
 rw[Nat.add_mul,Nat.one_mul]at hle
 omega
theorem qqq {x y:Nat}(h:y≤x)(hx:x<18446744073709551616):IntKind.u64.wrap ((x:Int)-(y:Int))=((x-y:Nat):Int):=by
 rw[q0T];omega
theorem qcr {x y:Nat}(h:x+y<18446744073709551616):IntKind.u64.wrap ((x:Int)+(y:Int))=((x+y:Nat):Int):=by
 rw[←Int.natCast_add];exact q0C h
theorem qb2 {x y:Nat}(h:x*y<18446744073709551616):IntKind.u64.wrap ((x:Int) *(y:Int))=((x*y:Nat):Int):=by
 rw[←Int.natCast_mul];exact q0C h
theorem qm7 {U u q y:Nat}(hq:q=dgN U u/y)(hy0:0<y)(hy:y<18446744073709551616):
 IntKind.u64.wrap (IntKind.u64.wrap (IntKind.u64.wrap ((U:Int) *4294967296)+(u:Int))-IntKind.u64.wrap ((q:Int) *(y:Int)))=((dgN U u%y:Nat):Int):=by
 have h1:=Nat.div_add_mod (dgN U u) y
 have h2:=Nat.mod_lt (dgN U u) hy0
 rw[←hq,Nat.mul_comm]at h1
 have h3:((dgN U u:Nat):Int)=(U:Int) *4294967296+u:=by unfold dgN;simp
 have h4:((q*y:Nat):Int)+((dgN U u%y:Nat):Int)=(U:Int) *4294967296+u:=by rw[←h3,←Int.natCast_add,h1]
 rw[Int.natCast_mul]at h4
 simp only[q0T]
 have hR:(0:Int)≤((dgN U u%y:Nat):Int)∧((dgN U u%y:Nat):Int)<18446744073709551616:=by omega
 generalize ((dgN U u%y:Nat):Int)=R at*
 generalize (U:Int) *4294967296=A at*
 generalize (q:Int) *(y:Int)=B at*
 omega
structure Dv64 (hi lo y s a b U u1 u0:Nat):Prop where
 n:Nrm hi lo y s
 hy:y*2^s=dgY a b
 a1:2147483648≤a
 a2:a<4294967296
 b2:b<4294967296
 hu1:u1<4294967296
 hu0:u0<4294967296
 lt:U<dgY a b
 y0:0<y
 e:dgN U u1*4294967296+u0=(hi*18446744073709551616+lo) *2^s
theorem Dv64.d1 {hi lo y s a b U u1 u0:Nat}(h:Dv64 hi lo y s a b U u1 u0):Dg U u1 a b:=⟨h.hu1,h.a1,h.a2,h.b2,h.lt⟩
theorem Dv64.d0 {hi lo y s a b U u1 u0:Nat}(h:Dv64 hi lo y s a b U u1 u0):Dg (dgN U u1%dgY a b) u0 a b:=⟨h.hu0,h.a1,h.a2,h.b2,Nat.mod_lt _ h.d1.pos⟩
theorem Dv64.y64 {hi lo y s a b U u1 u0:Nat}(h:Dv64 hi lo y s a b U u1 u0):dgY a b<18446744073709551616:=by rw[←h.hy];exact h.n.y2
theorem Dv64.quo {hi lo y s a b U u1 u0:Nat}(h:Dv64 hi lo y s a b U u1 u0):
 dgN U u1/dgY a b*4294967296+dgN (dgN U u1%dgY a b) u0/dgY a b=(hi*18446744073709551616+lo)/y∧dgN (dgN U u1%dgY a b) u0%dgY a b/2^s=(hi*18446744073709551616+lo)%y:=by
 obtain⟨t1,t2⟩:=qyO (dgN U u1) u0 (dgY a b) 4294967296 h.d1.pos
 obtain⟨s1,s2⟩:=qGJ (hi*18446744073709551616+lo) y s h.y0
 constructor
 ·rw[←s1,←h.e,h.hy,←t1];rfl
 rw[←s2,←h.e,h.hy,←t2];rfl
theorem dvd_of {hi lo y:Nat}(hh:hi<y)(hy:y<18446744073709551616)(hl:lo<18446744073709551616):
 Dv64 hi lo y (64-bl y) (h32 (y*2^(64-bl y))) (w32 (y*2^(64-bl y))) (hi*2^(64-bl y)+lo/2^(64-(64-bl y))) (h32 (lo*2^(64-bl y)%18446744073709551616)) (w32 (lo*2^(64-bl y)%18446744073709551616)):=by
 have n:=nrm_of hh hy hl
 generalize 64-bl y=s at*
 have hY:y*2^s=dgY (h32 (y*2^s)) (w32 (y*2^s)):=qmG _
 have hL:=qmG (lo*2^s%18446744073709551616)
 have hlt:lo*2^s%18446744073709551616<18446744073709551616:=Nat.mod_lt _ (by decide)
 refine⟨n,hY,?_,qg7 n.y2,qoa _,qg7 hlt,qoa _,by rw[←hY];exact n.u,by omega,?_⟩
 ·have:=n.y1
  generalize y*2^s=Y at*
  unfold h32;omega
 have e:=n.e
 generalize hi*2^s+lo/2^(64-s)=U at*
 generalize lo*2^s%18446744073709551616=L at*
 have hB:4294967296*4294967296=18446744073709551616:=by decide
 rw[←e,dgN,Nat.add_mul,Nat.mul_assoc,hB,Nat.add_assoc,←hL]
theorem shlU (lo s:Nat)(hs:s≤63):IntKind.u64.wrap ((lo:Int) *2^min ((s:Nat):Int).toNat IntKind.u64.bits)=((lo*2^s%18446744073709551616:Nat):Int):=by
 have e:IntKind.u64.bits=64:=rfl
 rw[e,Int.toNat_natCast,Nat.min_eq_left (by omega),q0T]
 have:(lo:Int) *2^s=((lo*2^s:Nat):Int):=by simp
 rw[this];omega
theorem qmH {U a:Nat}(hU:U<18446744073709551616):IntKind.u64.wrap ((U:Int)-IntKind.u64.wrap (((U/a:Nat):Int) *(a:Int)))=((U%a:Nat):Int):=by
 have h1:=Nat.div_mul_le_self U a
 have h2:=Nat.mod_add_div U a
 rw[qb2 (by omega),qqq h1 hU]
 congr 1
 rw[Nat.mul_comm]at h2
 omega
set_option maxHeartbeats 8000000 in
theorem qEy (hi lo y:Nat)(hh:hi<y)(hy:y<18446744073709551616)(hl:lo<18446744073709551616):
 PU qtJ [.int .u64 hi,.int .u64 lo,.int .u64 y]=some (.tup [.int .u64 (((hi*18446744073709551616+lo)/y:Nat):Int),.int .u64 (((hi*18446744073709551616+lo)%y:Nat):Int)]):=by
 have D:=dvd_of hh hy hl
 have lz:=qhM y hy
 have hs63:=D.n.s63
 generalize 64-bl y=s at*
 refine q0g (fn:=qhD) rfl (q0a ?_)
 refine gg rfl (q01 rfl (fun e=>absurd (q1n.1 e) (by omega)) (fun _=>?_))
 refine gg rfl (q01 rfl (fun e=>absurd (q0G.1 e) (by omega)) (fun _=>?_))
 refine gg rfl (q01 rfl (fun e=>?_) (fun e=>?_))
 ·rw[q1n]at e
  obtain rfl:hi=0:=by omega
  refine gg rfl (q2Z lo y rfl rfl rfl rfl (by omega) (q0C (Nat.lt_of_le_of_lt (Nat.div_le_self _ _) hl)) ?_)
  refine gg rfl (q7c lo y rfl rfl rfl rfl (by omega) ?_)
  refine gg rfl (q08 rfl rfl rfl trivial ?_)
  rw[Nat.zero_mul,Nat.zero_add]
 have e64:IntKind.u64.wrap (64-(s:Int))=((64-s:Nat):Int):=qqq (x:=64) (by omega) (by decide)
 have a1:=qvR (y*2^s) D.n.y2
 have hL64:lo*2^s%18446744073709551616<18446744073709551616:=Nat.mod_lt _ (by decide)
 have a2:=qvR (lo*2^s%18446744073709551616) hL64
 have o1:=or64' hi (lo/2^(64-s)) s D.n.l (Nat.lt_trans D.n.u D.n.y2)
 have sl:=shlU lo s hs63
 refine gg rfl (q02 rfl rfl lz (gg rfl ?_))
 rw[q0C (n:=s) (by omega)]
 refine q6w y s rfl rfl rfl rfl (by show s≤64;omega) (q0C D.n.y2) ?_
 refine gg rfl (q17 (y*2^s) 32 rfl rfl rfl rfl (by decide) ?_)
 refine gg rfl ?_
 rw[a1]
 refine q6w hi s rfl rfl rfl rfl (by show s≤64;omega) (q0C D.n.h) ?_
 refine gg rfl ?_
 rw[e64]
 refine q17 lo (64-s) rfl rfl rfl rfl (by show 64-s≤64;omega) ?_
 refine gg rfl ?_
 rw[o1]
 refine atShl rfl rfl (by omega) ?_
 rw[sl]
 refine gg rfl (q17 (lo*2^s%18446744073709551616) 32 rfl rfl rfl rfl (by decide) ?_)
 refine gg rfl ?_
 rw[a2]
 have hY:=D.hy
 rw[hY]
 rw[show((dgY (h32 (y*2^s)) (w32 (y*2^s))/2^32:Nat):Int)=((h32 (y*2^s):Nat):Int)by rw[←hY];rfl,show((dgY (h32 (y*2^s)) (w32 (y*2^s))%4294967296:Nat):Int)=((w32 (y*2^s):Nat):Int)by rw[←hY];rfl,show((lo*2^s%18446744073709551616/2^32:Nat):Int)=((h32 (lo*2^s%18446744073709551616):Nat):Int)from rfl,show((lo*2^s%18446744073709551616%4294967296:Nat):Int)=((w32 (lo*2^s%18446744073709551616):Nat):Int)from rfl]
 clear a1 a2 o1 sl e64 lz hY
 generalize h32 (y*2^s)=a at*
 generalize w32 (y*2^s)=b at*
 generalize h32 (lo*2^s%18446744073709551616)=u1 at*
 generalize w32 (lo*2^s%18446744073709551616)=u0 at*
 generalize hi*2^s+lo/2^(64-s)=U at*
 have DD:=D.d1
 have hU:U<18446744073709551616:=Nat.lt_trans DD.lt D.y64
 refine q2Z U a rfl rfl rfl rfl (by have:=D.a1;omega) (q0C (Nat.lt_of_le_of_lt (Nat.div_le_self _ _) hU)) ?_
 refine gg rfl ?_
 rw[qmH hU]
 refine q0l (S:=fun x:Nat×Nat=>([.int .u64 (dgY a b:Nat),.int .u64 s,.int .u64 a,.int .u64 b,.int .u64 U,.int .u64 u1,.int .u64 u0,.int .u64 x.1,.int .u64 x.2],[none,none,none,none,none,none,none,none,none],[0,0,0,0,0,0,0,0,0])) (C:=fun x=>DgI U u1 a b x.1 x.2∧x.2<4294967296) (m:=fun x=>x.1) (U/a,U%a) ⟨DD.start,Nat.lt_trans (Nat.mod_lt _ (by have:=D.a1;omega)) D.a2⟩ (by have:=DD.start.hq;show U/a<_;omega) ?_ ?_
 ·exact q03 rfl trivial rfl
 rintro⟨q,r⟩ ⟨hi1,hr⟩ N hN
 simp only at hi1 hr
 have hq:=hi1.hq
 have hb':=D.b2
 have w1:q<4294967296→IntKind.u64.wrap ((q:Int) *(b:Int))=((q*b:Nat):Int):=fun h=>qb2 (by have:=q5C h hb';omega)
 have w2:IntKind.u64.wrap ((4294967296:Int) *(r:Int))=((4294967296*r:Nat):Int):=qb2 (x:=4294967296) (by omega)
 have w3:IntKind.u64.wrap (((4294967296*r:Nat):Int)+(u1:Int))=((4294967296*r+u1:Nat):Int):=qcr (by have:=DD.hu;omega)
 have body:(4294967296≤q∨r*4294967296+u1<q*b)→1≤q∧DgI U u1 a b (q-1) (r+a)∧q-1≤4294967296:=DD.step hi1
 have a2:=D.a2
 have w5:IntKind.u64.wrap ((r:Int)+(a:Int))=((r+a:Nat):Int):=qcr (by omega)
 refine gg rfl (q09 rfl (fun g1=>?_) (fun g1=>?_))
 ·rw[q0G]at g1
  obtain⟨k1,k2,k3⟩:=body (.inl (by omega))
  have w4:IntKind.u64.wrap ((q:Int)-1)=((q-1:Nat):Int):=qqq (y:=1) k1 (by omega)
  refine gg rfl (q0e rfl (gg rfl ?_))
  rw[w4,w5]
  refine q01 rfl (fun g2=>?_) (fun g2=>?_)
  ·rw[q0G]at g2
   have hq1:=DD.stop k2 k3 (by omega)
   generalize q-1=q' at*
   refine gg rfl (q04 ?_)
   have hp:=hq1
   have hplt:=D.d1.qlt
   rw[←hp]at hplt
   clear hq1
   generalize q'=p at hp hplt
   have hrm:=qm7 (U:=U) (u:=u1) hp D.d1.pos D.y64
   refine gg rfl ?_
   rw[hrm]
   have DD:=D.d0
   have hV:dgN U u1%dgY a b<18446744073709551616:=Nat.lt_trans DD.lt D.y64
   clear hi1 hN
   refine q2Z (dgN U u1%dgY a b) a rfl rfl rfl rfl (by have:=D.a1;omega) (q0C (Nat.lt_of_le_of_lt (Nat.div_le_self _ _) hV)) ?_
   refine gg rfl ?_
   rw[qmH hV]
   refine q0l (S:=fun x:Nat×Nat=>([.int .u64 (dgY a b:Nat),.int .u64 s,.int .u64 a,.int .u64 b,.int .u64 u0,.int .u64 p,.int .u64 x.2,.int .u64 ((dgN U u1%dgY a b:Nat):Int),.int .u64 x.1],[none,none,none,none,none,none,none,none,none],[0,0,0,0,0,0,0,0,0])) (C:=fun x=>DgI (dgN U u1%dgY a b) u0 a b x.1 x.2∧x.2<4294967296) (m:=fun x=>x.1) ((dgN U u1%dgY a b)/a,(dgN U u1%dgY a b)%a) ⟨DD.start,Nat.lt_trans (Nat.mod_lt _ (by have:=D.a1;omega)) D.a2⟩ (by have:=DD.start.hq;show _/a<_;omega) ?_ ?_
   ·exact q03 rfl trivial rfl
   rintro⟨q,r⟩ ⟨hi1,hr⟩ N hN
   simp only at hi1 hr
   have hq:=hi1.hq
   have hb':=D.b2
   have w1:q<4294967296→IntKind.u64.wrap ((q:Int) *(b:Int))=((q*b:Nat):Int):=fun h=>qb2 (by have:=q5C h hb';omega)
   have w2:IntKind.u64.wrap ((4294967296:Int) *(r:Int))=((4294967296*r:Nat):Int):=qb2 (x:=4294967296) (by omega)
   have w3:IntKind.u64.wrap (((4294967296*r:Nat):Int)+(u0:Int))=((4294967296*r+u0:Nat):Int):=qcr (by have:=DD.hu;omega)
   have body:(4294967296≤q∨r*4294967296+u0<q*b)→1≤q∧DgI (dgN U u1%dgY a b) u0 a b (q-1) (r+a)∧q-1≤4294967296:=DD.step hi1
   have a2:=D.a2
   have w5:IntKind.u64.wrap ((r:Int)+(a:Int))=((r+a:Nat):Int):=qcr (by omega)
   refine gg rfl (q09 rfl (fun g1=>?_) (fun g1=>?_))
   ·rw[q0G]at g1
    obtain⟨k1,k2,k3⟩:=body (.inl (by omega))
    have w4:IntKind.u64.wrap ((q:Int)-1)=((q-1:Nat):Int):=qqq (y:=1) k1 (by omega)
    refine gg rfl (q0e rfl (gg rfl ?_))
    rw[w4,w5]
    refine q01 rfl (fun g2=>?_) (fun g2=>?_)
    ·rw[q0G]at g2
     have hq1:=DD.stop k2 k3 (by omega)
     generalize q-1=q' at*
     refine gg rfl (q04 ?_)
     have hq0lt:=D.d0.qlt
     rw[←hq1]at hq0lt
     have m1:IntKind.u64.wrap ((p:Int) *4294967296)=((p*4294967296:Nat):Int):=qb2 (y:=4294967296) (by omega)
     have m2:IntKind.u64.wrap (((p*4294967296:Nat):Int)+(q':Int))=((p*4294967296+q':Nat):Int):=qcr (by omega)
     have m3:=qm7 (U:=dgN U u1%dgY a b) (u:=u0) hq1 D.d1.pos D.y64
     obtain⟨z1,z2⟩:=D.quo
     refine gg rfl ?_
     rw[m1,m2,m3]
     refine q17 (dgN (dgN U u1%dgY a b) u0%dgY a b) s rfl rfl rfl rfl (by show s≤64;have:=D.n.s63;omega) ?_
     refine gg rfl (q08 rfl rfl rfl trivial ?_)
     rw[z2,←z1,hp,hq1]
    rw[q0H]at g2
    exact gg rfl (q04 (hN (q-1,r+a) ⟨k2,by show r+a<_;omega⟩ (by show q-1<q;omega) (q03 rfl trivial rfl)))
   rw[q0H]at g1
   refine gg rfl ?_
   rw[w1 (by omega),w2,w3]
   refine q01 rfl (fun g2=>?_) (fun g2=>?_)
   ·rw[q06]at g2
    obtain⟨k1,k2,k3⟩:=body (.inr (by omega))
    have w4:IntKind.u64.wrap ((q:Int)-1)=((q-1:Nat):Int):=qqq (y:=1) k1 (by omega)
    refine gg rfl ?_
    rw[w4,w5]
    refine q01 rfl (fun g3=>?_) (fun g3=>?_)
    ·rw[q0G]at g3
     have hq1:=DD.stop k2 k3 (by omega)
     generalize q-1=q' at*
     refine gg rfl (q04 ?_)
     have hq0lt:=D.d0.qlt
     rw[←hq1]at hq0lt
     have m1:IntKind.u64.wrap ((p:Int) *4294967296)=((p*4294967296:Nat):Int):=qb2 (y:=4294967296) (by omega)
     have m2:IntKind.u64.wrap (((p*4294967296:Nat):Int)+(q':Int))=((p*4294967296+q':Nat):Int):=qcr (by omega)
     have m3:=qm7 (U:=dgN U u1%dgY a b) (u:=u0) hq1 D.d1.pos D.y64
     obtain⟨z1,z2⟩:=D.quo
     refine gg rfl ?_
     rw[m1,m2,m3]
     refine q17 (dgN (dgN U u1%dgY a b) u0%dgY a b) s rfl rfl rfl rfl (by show s≤64;have:=D.n.s63;omega) ?_
     refine gg rfl (q08 rfl rfl rfl trivial ?_)
     rw[z2,←z1,hp,hq1]
    rw[q0H]at g3
    exact gg rfl (q04 (hN (q-1,r+a) ⟨k2,by show r+a<_;omega⟩ (by show q-1<q;omega) (q03 rfl trivial rfl)))
   rw[q07]at g2
   have hq1:=DD.fin hi1 (by omega)
   refine gg rfl (q04 ?_)
   have hq0lt:=D.d0.qlt
   rw[←hq1]at hq0lt
   have m1:IntKind.u64.wrap ((p:Int) *4294967296)=((p*4294967296:Nat):Int):=qb2 (y:=4294967296) (by omega)
   have m2:IntKind.u64.wrap (((p*4294967296:Nat):Int)+(q:Int))=((p*4294967296+q:Nat):Int):=qcr (by omega)
   have m3:=qm7 (U:=dgN U u1%dgY a b) (u:=u0) hq1 D.d1.pos D.y64
   obtain⟨z1,z2⟩:=D.quo
   refine gg rfl ?_
   rw[m1,m2,m3]
   refine q17 (dgN (dgN U u1%dgY a b) u0%dgY a b) s rfl rfl rfl rfl (by show s≤64;have:=D.n.s63;omega) ?_
   refine gg rfl (q08 rfl rfl rfl trivial ?_)
   rw[z2,←z1,hp,hq1]
  rw[q0H]at g2
  exact gg rfl (q04 (hN (q-1,r+a) ⟨k2,by show r+a<_;omega⟩ (by show q-1<q;omega) (q03 rfl trivial rfl)))
 rw[q0H]at g1
 refine gg rfl ?_
 rw[w1 (by omega),w2,w3]
 refine q01 rfl (fun g2=>?_) (fun g2=>?_)
 ·rw[q06]at g2
  obtain⟨k1,k2,k3⟩:=body (.inr (by omega))
  have w4:IntKind.u64.wrap ((q:Int)-1)=((q-1:Nat):Int):=qqq (y:=1) k1 (by omega)
  refine gg rfl ?_
  rw[w4,w5]
  refine q01 rfl (fun g3=>?_) (fun g3=>?_)
  ·rw[q0G]at g3
   have hq1:=DD.stop k2 k3 (by omega)
   generalize q-1=q' at*
   refine gg rfl (q04 ?_)
   have hp:=hq1
   have hplt:=D.d1.qlt
   rw[←hp]at hplt
   clear hq1
   generalize q'=p at hp hplt
   have hrm:=qm7 (U:=U) (u:=u1) hp D.d1.pos D.y64
   refine gg rfl ?_
   rw[hrm]
   have DD:=D.d0
   have hV:dgN U u1%dgY a b<18446744073709551616:=Nat.lt_trans DD.lt D.y64
   clear hi1 hN
   refine q2Z (dgN U u1%dgY a b) a rfl rfl rfl rfl (by have:=D.a1;omega) (q0C (Nat.lt_of_le_of_lt (Nat.div_le_self _ _) hV)) ?_
   refine gg rfl ?_
   rw[qmH hV]
   refine q0l (S:=fun x:Nat×Nat=>([.int .u64 (dgY a b:Nat),.int .u64 s,.int .u64 a,.int .u64 b,.int .u64 u0,.int .u64 p,.int .u64 x.2,.int .u64 ((dgN U u1%dgY a b:Nat):Int),.int .u64 x.1],[none,none,none,none,none,none,none,none,none],[0,0,0,0,0,0,0,0,0])) (C:=fun x=>DgI (dgN U u1%dgY a b) u0 a b x.1 x.2∧x.2<4294967296) (m:=fun x=>x.1) ((dgN U u1%dgY a b)/a,(dgN U u1%dgY a b)%a) ⟨DD.start,Nat.lt_trans (Nat.mod_lt _ (by have:=D.a1;omega)) D.a2⟩ (by have:=DD.start.hq;show _/a<_;omega) ?_ ?_
   ·exact q03 rfl trivial rfl
   rintro⟨q,r⟩ ⟨hi1,hr⟩ N hN
   simp only at hi1 hr
   have hq:=hi1.hq
   have hb':=D.b2
   have w1:q<4294967296→IntKind.u64.wrap ((q:Int) *(b:Int))=((q*b:Nat):Int):=fun h=>qb2 (by have:=q5C h hb';omega)
   have w2:IntKind.u64.wrap ((4294967296:Int) *(r:Int))=((4294967296*r:Nat):Int):=qb2 (x:=4294967296) (by omega)
   have w3:IntKind.u64.wrap (((4294967296*r:Nat):Int)+(u0:Int))=((4294967296*r+u0:Nat):Int):=qcr (by have:=DD.hu;omega)
   have body:(4294967296≤q∨r*4294967296+u0<q*b)→1≤q∧DgI (dgN U u1%dgY a b) u0 a b (q-1) (r+a)∧q-1≤4294967296:=DD.step hi1
   have a2:=D.a2
   have w5:IntKind.u64.wrap ((r:Int)+(a:Int))=((r+a:Nat):Int):=qcr (by omega)
   refine gg rfl (q09 rfl (fun g1=>?_) (fun g1=>?_))
   ·rw[q0G]at g1
    obtain⟨k1,k2,k3⟩:=body (.inl (by omega))
    have w4:IntKind.u64.wrap ((q:Int)-1)=((q-1:Nat):Int):=qqq (y:=1) k1 (by omega)
    refine gg rfl (q0e rfl (gg rfl ?_))
    rw[w4,w5]
    refine q01 rfl (fun g2=>?_) (fun g2=>?_)
    ·rw[q0G]at g2
     have hq1:=DD.stop k2 k3 (by omega)
     generalize q-1=q' at*
     refine gg rfl (q04 ?_)
     have hq0lt:=D.d0.qlt
     rw[←hq1]at hq0lt
     have m1:IntKind.u64.wrap ((p:Int) *4294967296)=((p*4294967296:Nat):Int):=qb2 (y:=4294967296) (by omega)
     have m2:IntKind.u64.wrap (((p*4294967296:Nat):Int)+(q':Int))=((p*4294967296+q':Nat):Int):=qcr (by omega)
     have m3:=qm7 (U:=dgN U u1%dgY a b) (u:=u0) hq1 D.d1.pos D.y64
     obtain⟨z1,z2⟩:=D.quo
     refine gg rfl ?_
     rw[m1,m2,m3]
     refine q17 (dgN (dgN U u1%dgY a b) u0%dgY a b) s rfl rfl rfl rfl (by show s≤64;have:=D.n.s63;omega) ?_
     refine gg rfl (q08 rfl rfl rfl trivial ?_)
     rw[z2,←z1,hp,hq1]
    rw[q0H]at g2
    exact gg rfl (q04 (hN (q-1,r+a) ⟨k2,by show r+a<_;omega⟩ (by show q-1<q;omega) (q03 rfl trivial rfl)))
   rw[q0H]at g1
   refine gg rfl ?_
   rw[w1 (by omega),w2,w3]
   refine q01 rfl (fun g2=>?_) (fun g2=>?_)
   ·rw[q06]at g2
    obtain⟨k1,k2,k3⟩:=body (.inr (by omega))
    have w4:IntKind.u64.wrap ((q:Int)-1)=((q-1:Nat):Int):=qqq (y:=1) k1 (by omega)
    refine gg rfl ?_
    rw[w4,w5]
    refine q01 rfl (fun g3=>?_) (fun g3=>?_)
    ·rw[q0G]at g3
     have hq1:=DD.stop k2 k3 (by omega)
     generalize q-1=q' at*
     refine gg rfl (q04 ?_)
     have hq0lt:=D.d0.qlt
     rw[←hq1]at hq0lt
     have m1:IntKind.u64.wrap ((p:Int) *4294967296)=((p*4294967296:Nat):Int):=qb2 (y:=4294967296) (by omega)
     have m2:IntKind.u64.wrap (((p*4294967296:Nat):Int)+(q':Int))=((p*4294967296+q':Nat):Int):=qcr (by omega)
     have m3:=qm7 (U:=dgN U u1%dgY a b) (u:=u0) hq1 D.d1.pos D.y64
     obtain⟨z1,z2⟩:=D.quo
     refine gg rfl ?_
     rw[m1,m2,m3]
     refine q17 (dgN (dgN U u1%dgY a b) u0%dgY a b) s rfl rfl rfl rfl (by show s≤64;have:=D.n.s63;omega) ?_
     refine gg rfl (q08 rfl rfl rfl trivial ?_)
     rw[z2,←z1,hp,hq1]
    rw[q0H]at g3
    exact gg rfl (q04 (hN (q-1,r+a) ⟨k2,by show r+a<_;omega⟩ (by show q-1<q;omega) (q03 rfl trivial rfl)))
   rw[q07]at g2
   have hq1:=DD.fin hi1 (by omega)
   refine gg rfl (q04 ?_)
   have hq0lt:=D.d0.qlt
   rw[←hq1]at hq0lt
   have m1:IntKind.u64.wrap ((p:Int) *4294967296)=((p*4294967296:Nat):Int):=qb2 (y:=4294967296) (by omega)
   have m2:IntKind.u64.wrap (((p*4294967296:Nat):Int)+(q:Int))=((p*4294967296+q:Nat):Int):=qcr (by omega)
   have m3:=qm7 (U:=dgN U u1%dgY a b) (u:=u0) hq1 D.d1.pos D.y64
   obtain⟨z1,z2⟩:=D.quo
   refine gg rfl ?_
   rw[m1,m2,m3]
   refine q17 (dgN (dgN U u1%dgY a b) u0%dgY a b) s rfl rfl rfl rfl (by show s≤64;have:=D.n.s63;omega) ?_
   refine gg rfl (q08 rfl rfl rfl trivial ?_)
   rw[z2,←z1,hp,hq1]
  rw[q0H]at g3
  exact gg rfl (q04 (hN (q-1,r+a) ⟨k2,by show r+a<_;omega⟩ (by show q-1<q;omega) (q03 rfl trivial rfl)))
 rw[q07]at g2
 have hq1:=DD.fin hi1 (by omega)
 refine gg rfl (q04 ?_)
 have hp:=hq1
 have hplt:=D.d1.qlt
 rw[←hp]at hplt
 clear hq1
 generalize q=p at hp hplt
 have hrm:=qm7 (U:=U) (u:=u1) hp D.d1.pos D.y64
 refine gg rfl ?_
 rw[hrm]
 have DD:=D.d0
 have hV:dgN U u1%dgY a b<18446744073709551616:=Nat.lt_trans DD.lt D.y64
 clear hi1 hN
 refine q2Z (dgN U u1%dgY a b) a rfl rfl rfl rfl (by have:=D.a1;omega) (q0C (Nat.lt_of_le_of_lt (Nat.div_le_self _ _) hV)) ?_
 refine gg rfl ?_
 rw[qmH hV]
 refine q0l (S:=fun x:Nat×Nat=>([.int .u64 (dgY a b:Nat),.int .u64 s,.int .u64 a,.int .u64 b,.int .u64 u0,.int .u64 p,.int .u64 x.2,.int .u64 ((dgN U u1%dgY a b:Nat):Int),.int .u64 x.1],[none,none,none,none,none,none,none,none,none],[0,0,0,0,0,0,0,0,0])) (C:=fun x=>DgI (dgN U u1%dgY a b) u0 a b x.1 x.2∧x.2<4294967296) (m:=fun x=>x.1) ((dgN U u1%dgY a b)/a,(dgN U u1%dgY a b)%a) ⟨DD.start,Nat.lt_trans (Nat.mod_lt _ (by have:=D.a1;omega)) D.a2⟩ (by have:=DD.start.hq;show _/a<_;omega) ?_ ?_
 ·exact q03 rfl trivial rfl
 rintro⟨q,r⟩ ⟨hi1,hr⟩ N hN
 simp only at hi1 hr
 have hq:=hi1.hq
 have hb':=D.b2
 have w1:q<4294967296→IntKind.u64.wrap ((q:Int) *(b:Int))=((q*b:Nat):Int):=fun h=>qb2 (by have:=q5C h hb';omega)
 have w2:IntKind.u64.wrap ((4294967296:Int) *(r:Int))=((4294967296*r:Nat):Int):=qb2 (x:=4294967296) (by omega)
 have w3:IntKind.u64.wrap (((4294967296*r:Nat):Int)+(u0:Int))=((4294967296*r+u0:Nat):Int):=qcr (by have:=DD.hu;omega)
 have body:(4294967296≤q∨r*4294967296+u0<q*b)→1≤q∧DgI (dgN U u1%dgY a b) u0 a b (q-1) (r+a)∧q-1≤4294967296:=DD.step hi1
 have a2:=D.a2
 have w5:IntKind.u64.wrap ((r:Int)+(a:Int))=((r+a:Nat):Int):=qcr (by omega)
 refine gg rfl (q09 rfl (fun g1=>?_) (fun g1=>?_))
 ·rw[q0G]at g1
  obtain⟨k1,k2,k3⟩:=body (.inl (by omega))
  have w4:IntKind.u64.wrap ((q:Int)-1)=((q-1:Nat):Int):=qqq (y:=1) k1 (by omega)
  refine gg rfl (q0e rfl (gg rfl ?_))
  rw[w4,w5]
  refine q01 rfl (fun g2=>?_) (fun g2=>?_)
  ·rw[q0G]at g2
   have hq1:=DD.stop k2 k3 (by omega)
   generalize q-1=q' at*
   refine gg rfl (q04 ?_)
   have hq0lt:=D.d0.qlt
   rw[←hq1]at hq0lt
   have m1:IntKind.u64.wrap ((p:Int) *4294967296)=((p*4294967296:Nat):Int):=qb2 (y:=4294967296) (by omega)
   have m2:IntKind.u64.wrap (((p*4294967296:Nat):Int)+(q':Int))=((p*4294967296+q':Nat):Int):=qcr (by omega)
   have m3:=qm7 (U:=dgN U u1%dgY a b) (u:=u0) hq1 D.d1.pos D.y64
   obtain⟨z1,z2⟩:=D.quo
   refine gg rfl ?_
   rw[m1,m2,m3]
   refine q17 (dgN (dgN U u1%dgY a b) u0%dgY a b) s rfl rfl rfl rfl (by show s≤64;have:=D.n.s63;omega) ?_
   refine gg rfl (q08 rfl rfl rfl trivial ?_)
   rw[z2,←z1,hp,hq1]
  rw[q0H]at g2
  exact gg rfl (q04 (hN (q-1,r+a) ⟨k2,by show r+a<_;omega⟩ (by show q-1<q;omega) (q03 rfl trivial rfl)))
 rw[q0H]at g1
 refine gg rfl ?_
 rw[w1 (by omega),w2,w3]
 refine q01 rfl (fun g2=>?_) (fun g2=>?_)
 ·rw[q06]at g2
  obtain⟨k1,k2,k3⟩:=body (.inr (by omega))
  have w4:IntKind.u64.wrap ((q:Int)-1)=((q-1:Nat):Int):=qqq (y:=1) k1 (by omega)
  refine gg rfl ?_
  rw[w4,w5]
  refine q01 rfl (fun g3=>?_) (fun g3=>?_)
  ·rw[q0G]at g3
   have hq1:=DD.stop k2 k3 (by omega)
   generalize q-1=q' at*
   refine gg rfl (q04 ?_)
   have hq0lt:=D.d0.qlt
   rw[←hq1]at hq0lt
   have m1:IntKind.u64.wrap ((p:Int) *4294967296)=((p*4294967296:Nat):Int):=qb2 (y:=4294967296) (by omega)
   have m2:IntKind.u64.wrap (((p*4294967296:Nat):Int)+(q':Int))=((p*4294967296+q':Nat):Int):=qcr (by omega)
   have m3:=qm7 (U:=dgN U u1%dgY a b) (u:=u0) hq1 D.d1.pos D.y64
   obtain⟨z1,z2⟩:=D.quo
   refine gg rfl ?_
   rw[m1,m2,m3]
   refine q17 (dgN (dgN U u1%dgY a b) u0%dgY a b) s rfl rfl rfl rfl (by show s≤64;have:=D.n.s63;omega) ?_
   refine gg rfl (q08 rfl rfl rfl trivial ?_)
   rw[z2,←z1,hp,hq1]
  rw[q0H]at g3
  exact gg rfl (q04 (hN (q-1,r+a) ⟨k2,by show r+a<_;omega⟩ (by show q-1<q;omega) (q03 rfl trivial rfl)))
 rw[q07]at g2
 have hq1:=DD.fin hi1 (by omega)
 refine gg rfl (q04 ?_)
 have hq0lt:=D.d0.qlt
 rw[←hq1]at hq0lt
 have m1:IntKind.u64.wrap ((p:Int) *4294967296)=((p*4294967296:Nat):Int):=qb2 (y:=4294967296) (by omega)
 have m2:IntKind.u64.wrap (((p*4294967296:Nat):Int)+(q:Int))=((p*4294967296+q:Nat):Int):=qcr (by omega)
 have m3:=qm7 (U:=dgN U u1%dgY a b) (u:=u0) hq1 D.d1.pos D.y64
 obtain⟨z1,z2⟩:=D.quo
 refine gg rfl ?_
 rw[m1,m2,m3]
 refine q17 (dgN (dgN U u1%dgY a b) u0%dgY a b) s rfl rfl rfl rfl (by show s≤64;have:=D.n.s63;omega) ?_
 refine gg rfl (q08 rfl rfl rfl trivial ?_)
 rw[z2,←z1,hp,hq1]
end Go.F

namespace Go.F
attribute [local irreducible] IntKind.wrap wpM
def q36 (p:List Spot):Nat→Nat
 |0=>0
 |k+1=>q36 p k+qeU (pt p k) (pt p (k+1))
theorem qpw {p:List Spot}(h:∀i,i<p.length→q0v (pt p i) 1048576=true):∀k,k<p.length→q36 p k≤k*4294967296:=by
 intro k
 induction k with
 |zero=>intro _;simp[q36]
 |succ k ih=>
  intro hk
  have:=ih (by omega)
  have:=qun (h k (by omega)) (h (k+1) hk)
  rw[q36];omega
def q15 (p:List Spot):Int×Int:=if q1t p=0 then((q36 p (p.length-1):Int),0)else(0,q1t p)
theorem q5s (p:List Spot):PU qi4 [q0k p]=some (.tup [.int .i64 (q15 p).1,.int .i64 (q15 p).2]):=by
 refine q0g (fn:=q94) rfl (q0a ?_)
 refine gg rfl (q02 rfl rfl (q9e p) (gg rfl (q01 rfl (fun h=>?_) (fun h=>?_))))
 ·rw[q0u]at h
  refine gg rfl (q08 rfl rfl rfl trivial ?_)
  rw[q15,if_neg h]
 rw[q0z]at h
 rw[q15,if_pos h]
 obtain⟨n2,n40,_⟩:=q2j h
 have hin:∀i,i<p.length→q0v (pt p i) 1048576=true:=fun i hi=>qbp h hi
 refine gg rfl (q0l (S:=fun k:Nat=>([q0k p,q00 (q36 p k),q00 (p.length-1:Nat),q00 k],[none,none,none,none],[0,0,0,0])) (C:=fun k=>k≤p.length-1) (m:=fun k=>p.length-k) 0 (Nat.zero_le _) (by omega) ?_ ?_)
 ·refine q03 rfl trivial ?_
  have:IntKind.i64.wrap ((p.length:Int)-1)=((p.length-1:Nat):Int):=by rw[wrap64 (by omega) (by omega)];omega
  simp[q0k,q00,q36,this]
 intro k hk N hN
 refine gg rfl (q01 rfl (fun g1=>?_) (fun g1=>?_))
 ·rw[q06]at g1
  have hlt:k+1<p.length:=by omega
  have w1:=wS (n:=k)
  have hin1:=hin k (by omega)
  have hin2:=hin (k+1) hlt
  have hsl':=qun hin1 hin2
  have hle:=qpw hin k (by omega)
  have w2:IntKind.i64.wrap ((q36 p k:Int)+(qeU (pt p k) (pt p (k+1)):Int))=(q36 p (k+1):Int):=by rw[wrap64 (by omega) (by omega)];rfl
  refine gg rfl (q0i k rfl rfl rfl (q0P (by omega)) rfl ?_)
  refine gg rfl (q0i (k+1) rfl rfl w1 (q0P hlt) rfl (gg rfl (q02 rfl rfl (qeV (pt p k) (pt p (k+1)) hin1 hin2) (gg rfl ?_))))
  rw[w2]
  exact q04 (hN (k+1) (by omega) (by omega) (q03 rfl trivial (by simp[q0k,q00,w1])))
 rw[q07]at g1
 obtain rfl:k=p.length-1:=by omega
 exact gg rfl (q04 (gg rfl (q08 rfl rfl rfl trivial rfl)))
end Go.F

namespace Go.F
attribute [local irreducible] IntKind.wrap wpM
def q4x (fr to at_:Int):Prop:=fr<1∨1099511627776<fr∨to<0∨1099511627776<to∨at_<0∨fr<at_
instance (a b c:Int):Decidable (q4x a b c):=by unfold q4x;exact inferInstance
def q3x (fr to:Int)(rev:Bool)(at_:Int):Int×Int:=
 if q4x fr to at_ then(0,3)else(if rev then to-q1s (at_*to) fr else q1s (at_*to) fr,0)
theorem qmK {a b:Nat}(hb:0<b):q1s (a:Int) b=((a/b+if b≤2*(a%b)then 1 else 0:Nat):Int):=by
 rw[q1s,if_neg (by omega)]
 have h1:=Nat.div_add_mod a b
 have h2:=Nat.mod_lt a hb
 generalize a/b=q at*
 generalize a%b=r at*
 have e:(2*(a:Int)+b)=(2*(r:Int)+b)+(2*(b:Int)) *q:=by
  rw[←h1];simp only[Int.natCast_add,Int.natCast_mul];grind
 rw[e,Int.add_mul_ediv_left _ _ (by omega)]
 split
 ·have:(2*(r:Int)+b)/(2*b)=1:=by
   rw[Int.ediv_eq_iff_of_pos (by omega)];omega
  rw[this];omega
 have:(2*(r:Int)+b)/(2*b)=0:=Int.ediv_eq_zero_of_lt (by omega) (by omega)
 rw[this];omega
set_option maxHeartbeats 2000000 in
theorem qol (fr to:Int)(rev:Bool)(at_:Int):PU qoG [.int .i64 fr,.int .i64 to,.bool rev,.int .i64 at_]=some (.tup [.int .i64 (q3x fr to rev at_).1,.int .i64 (q3x fr to rev at_).2]):=by
 by_cases hb:q4x fr to at_
 ·rw[q3x,if_pos hb]
  unfold q4x at hb
  refine q0g (fn:=q82) rfl (q0a ?_)
  repeat' (first
   |refine goP 800 rfl rfl ?_
   |refine q0h rfl ?_|refine q0o rfl ?_|refine q09 rfl (fun _=>?_) (fun _=>?_)
   |refine q0e rfl ?_|refine q0j rfl ?_|refine q01 rfl (fun _=>?_) (fun _=>?_)
   |refine q0L rfl (fun _=>?_) (fun _=>?_)
   |refine q08 rfl rfl rfl trivial ?_)
  all_goals first
   |rfl
   |(exfalso;simp only[q06,q07]at*;omega)
 rw[q3x,if_neg hb]
 unfold q4x at hb
 obtain⟨F,rfl⟩:∃n:Nat,fr=n:=⟨fr.toNat,by omega⟩
 obtain⟨T,rfl⟩:∃n:Nat,to=n:=⟨to.toNat,by omega⟩
 obtain⟨A,rfl⟩:∃n:Nat,at_=n:=⟨at_.toNat,by omega⟩
 have hF:0<F:=by omega
 have hprod:A*T≤F*T:=Nat.mul_le_mul_right _ (by omega)
 have hm:=qEx A T (by omega) (by omega)
 have hquo:A*T/F≤T:=by
  rw[Nat.div_le_iff_le_mul_add_pred hF]
  omega
 have hhi:A*T/18446744073709551616<F:=by
  rw[Nat.div_lt_iff_lt_mul (by decide)]
  exact Nat.lt_of_le_of_lt hprod (Nat.mul_lt_mul_of_pos_left (by omega) hF)
 have hd:=qEy (A*T/18446744073709551616) (A*T%18446744073709551616) F hhi (by omega) (Nat.mod_lt _ (by decide))
 have e0:A*T/18446744073709551616*18446744073709551616+A*T%18446744073709551616=A*T:=by
  have:=Nat.div_add_mod (A*T) 18446744073709551616
  rw[Nat.mul_comm]at this;exact this
 rw[e0]at hd
 have hr:=qmK (a:=A*T) hF
 rw[Int.natCast_mul]at hr
 rw[hr]
 have hmod:=Nat.mod_lt (A*T) hF
 have w1:IntKind.u64.wrap ((A:Nat):Int)=(A:Int):=q0C (by omega)
 have w2:IntKind.u64.wrap ((T:Nat):Int)=(T:Int):=q0C (by omega)
 have w3:IntKind.u64.wrap ((F:Nat):Int)=(F:Int):=q0C (by omega)
 have no:∀{x y:Int} {P:Prop},¬x<y→ltb x y=true→P:=fun h g=>absurd (q06.1 g) h
 generalize A*T/F=q at*
 generalize A*T%F=r at*
 have w4:IntKind.u64.wrap (2*(r:Int))=((2*r:Nat):Int):=qb2 (x:=2) (by omega)
 have w5:IntKind.u64.wrap ((q:Int)+1)=((q+1:Nat):Int):=qcr (y:=1) (by omega)
 refine q0g (fn:=q82) rfl (q0a ?_)
 refine gg rfl (q09 rfl (no (by omega)) (fun _=>?_))
 refine gg rfl (q09 rfl (no (by omega)) (fun _=>?_))
 refine gg rfl (q09 rfl (no (by omega)) (fun _=>?_))
 refine gg rfl (q09 rfl (no (by omega)) (fun _=>?_))
 refine gg rfl (q09 rfl (no (by omega)) (fun _=>?_))
 refine gg rfl (q01 rfl (no (by omega)) (fun _=>?_))
 refine gg rfl ?_
 rw[w1,w2]
 refine q02 rfl rfl hm (gg rfl ?_)
 rw[w3]
 refine q02 rfl rfl hd (gg rfl ?_)
 rw[w4,w3]
 refine q01 rfl (fun g=>?_) (fun g=>?_)
 ·rw[q0G]at g
  have ei:(if F≤2*r then 1 else 0:Nat)=1:=if_pos (by omega)
  simp only[ei]
  have w6:=ww (x:=((q+1:Nat):Int))
  have w7:=ww (x:=(T:Int)-((q+1:Nat):Int))
  refine gg rfl ?_
  rw[w5,w6]
  cases rev with
  |true=>
   refine q0e rfl (gg rfl ?_)
   rw[w7]
   exact q08 rfl rfl rfl trivial rfl
  |false=>
   exact q0j rfl (gg rfl (q08 rfl rfl rfl trivial rfl))
 rw[q0H]at g
 have ei:(if F≤2*r then 1 else 0:Nat)=0:=if_neg (by omega)
 simp only[ei]
 have w6:=ww (x:=((q:Nat):Int))
 have w7:=ww (x:=(T:Int)-((q:Nat):Int))
 refine gg rfl ?_
 rw[w6]
 cases rev with
 |true=>
  refine q0e rfl (gg rfl ?_)
  rw[w7]
  exact q08 rfl rfl rfl trivial rfl
 |false=>
  exact q0j rfl (gg rfl (q08 rfl rfl rfl trivial rfl))
def q1u (p:Piece)(g:List Edge)(n:Ntc):Int×Int:=
 if n.edge<0∨(p.edges.length:Int)≤n.edge then(0,3)
 else if(q15 (eg p.edges n.edge.toNat).line).2≠0 then(0,(q15 (eg p.edges n.edge.toNat).line).2)
 else if(q15 (eg g n.edge.toNat).line).2≠0 then(0,(q15 (eg g n.edge.toNat).line).2)
 else q3x (q15 (eg p.edges n.edge.toNat).line).1 (q15 (eg g n.edge.toNat).line).1 false n.at_
def q2y (p:Piece)(g:List Edge):List Ntc→Int
 |[]=>0
 |n::l=>if(q1u p g n).2=0 then q2y p g l else(q1u p g n).2
def q0R (p:Piece)(m:Int):List Int×Int:=
 if(q0q p m).2≠0 then([],(q0q p m).2)
 else if 16<p.notches.length then([],5)
 else if q2y p (q0q p m).1 p.notches≠0 then([],q2y p (q0q p m).1 p.notches)
 else(p.notches.map fun n=>(q1u p (q0q p m).1 n).1,0)
theorem q2s {p:Piece}{m:Int}(h:(q0q p m).2=0):(q0q p m).1.length=p.edges.length∧q0J p.edges=0∧q0J (q0q p m).1=0∧p.corners.length=p.edges.length:=by
 unfold q0q at h⊢
 split at h
 ·cases h
 rename_i h1
 rw[if_neg h1]
 split at h
 ·cases h
 rename_i h2
 rw[if_neg h2]
 split at h
 ·cases h
 rename_i h3
 rw[if_neg h3]
 split at h
 ·rename_i h4;exact absurd h h4
 rename_i h4
 rw[if_neg h4]
 split at h
 ·rename_i h5;exact absurd h h5
 rename_i h5
 rw[if_neg h5]
 exact⟨by simp[q3G],by simpa using h4,by simpa using h5,by simpa using h2⟩
set_option maxHeartbeats 4000000 in
theorem qCb (p:Piece)(m:Int)(hc:p.corners.length≤1000000):
 PU qoF [p.enc,.int .i64 m]=some (.tup [ints (q0R p m).1,edges (if(q0R p m).2=0 then(q0q p m).1 else []),.int .i64 (q0R p m).2]):=by
 refine q0g (fn:=qdu) rfl (q0a ?_)
 refine gg rfl (q02 rfl rfl (q5E p m hc) (gg rfl (q01 rfl (fun h=>?_) (fun h=>?_))))
 ·rw[q0u]at h
  refine gg rfl (q08 rfl rfl rfl trivial ?_)
  rw[q0R,if_pos h,if_neg h];rfl
 have h:(q0q p m).2=0:=q0z.1 h
 obtain⟨hg,_,_⟩:=q2s h
 have hr:q0R p m=if 16<p.notches.length then([],5)
  else if q2y p (q0q p m).1 p.notches≠0 then([],q2y p (q0q p m).1 p.notches)
  else(p.notches.map fun n=>(q1u p (q0q p m).1 n).1,0):=by rw[q0R,if_neg (by omega)]
 rw[hr]
 generalize (q0q p m).1=G at*
 refine gg rfl ?_
 rw[List.length_map]
 refine q01 rfl (fun h2=>?_) (fun h2=>?_)
 ·rw[q06]at h2
  refine gg rfl (q08 rfl rfl rfl trivial ?_)
  rw[if_pos (by omega)];rfl
 rw[q07]at h2
 rw[if_neg (by omega)]
 refine gg rfl ?_
 rw[List.length_map]
 refine q0l (S:=fun k:Nat=>([.ptr 0 0 0,edges G,.ref 2 0 k,qgy p.notches,q00 p.notches.length,q00 k],[some (.row [p.enc] 7),none,some (.row (((p.notches.take k).map fun n=>(q1u p G n).1).map q00) 1),none,none,none],[0,0,0,0,0,0])) (C:=fun k=>k≤p.notches.length∧q2y p G p.notches=q2y p G (p.notches.drop k)) (m:=fun k=>p.notches.length-k) 0 ⟨Nat.zero_le _,rfl⟩ (by omega) ?_ ?_
 ·exact q03 rfl ⟨rfl,rfl,trivial⟩ rfl
 rintro k ⟨hk,hke⟩ N hN
 refine gg rfl (q01 rfl (fun e1=>?_) (fun e1=>?_))
 ·rw[q06]at e1
  have hlt:k<p.notches.length:=by omega
  have w1:=wS (n:=k)
  have hdr:p.notches.drop k=nt p.notches k::p.notches.drop (k+1):=by rw[List.drop_eq_getElem_cons hlt,quZ hlt]
  have hst:(((p.notches.take (k+1)).map fun n=>(q1u p G n).1).map q00)=((p.notches.take k).map fun n=>(q1u p G n).1).map q00++[q00 (q1u p G (nt p.notches k)).1]:=by
   rw[List.take_succ_eq_append_getElem hlt,List.map_append,List.map_append,quZ hlt];rfl
  have hne:=qv0 hlt
  rw[hdr,q2y]at hke
  generalize nt p.notches k=n at*
  have bad:(q1u p G n).2≠0→q2y p G p.notches=(q1u p G n).2:=fun h=>by rw[hke,if_neg h]
  refine gg rfl (q0i k rfl rfl rfl hne rfl (gg rfl (q09 rfl (fun f1=>?_) (fun f1=>?_))))
  ·rw[q06]at f1
   have hn:q1u p G n=(0,3):=by rw[q1u,if_pos (.inl f1)]
   rw[hn]at bad
   refine gg rfl (q0e rfl (gg rfl (q04 (gg rfl (q08 rfl rfl rfl trivial ?_)))))
   rw[bad (by decide)];rfl
  rw[q07]at f1
  refine gg rfl ?_
  rw[List.length_map]
  refine q01 rfl (fun f2=>?_) (fun f2=>?_)
  ·rw[q0G]at f2
   have hn:q1u p G n=(0,3):=by rw[q1u,if_pos (.inr f2)]
   rw[hn]at bad
   refine gg rfl (q04 (gg rfl (q08 rfl rfl rfl trivial ?_)))
   rw[bad (by decide)];rfl
  rw[q0H]at f2
  have ei:n.edge=((n.edge.toNat:Nat):Int):=by omega
  have hl1:n.edge.toNat<p.edges.length:=by omega
  have hl2:n.edge.toNat<G.length:=by omega
  have l1:=q5s (eg p.edges n.edge.toNat).line
  have l2:=q5s (eg G n.edge.toNat).line
  have hn0:q1u p G n=if(q15 (eg p.edges n.edge.toNat).line).2≠0 then(0,(q15 (eg p.edges n.edge.toNat).line).2)
   else if(q15 (eg G n.edge.toNat).line).2≠0 then(0,(q15 (eg G n.edge.toNat).line).2)
   else q3x (q15 (eg p.edges n.edge.toNat).line).1 (q15 (eg G n.edge.toNat).line).1 false n.at_:=by rw[q1u,if_neg (by omega)]
  refine gg rfl (q0i n.edge.toNat rfl rfl ei (q1O hl1) rfl (gg rfl (q02 rfl rfl l1 (gg rfl (q01 rfl (fun f3=>?_) (fun f3=>?_))))))
  ·rw[q0u]at f3
   rw[if_pos f3]at hn0
   rw[hn0]at bad
   refine gg rfl (q04 (gg rfl (q08 rfl rfl rfl trivial ?_)))
   rw[bad f3,if_pos f3,if_neg f3];rfl
  rw[q0z]at f3
  rw[if_neg (by simp[f3])]at hn0
  refine gg rfl (q0i n.edge.toNat rfl rfl ei (q1O hl2) rfl (gg rfl (q02 rfl rfl l2 (gg rfl (q01 rfl (fun f4=>?_) (fun f4=>?_))))))
  ·rw[q0u]at f4
   rw[if_pos f4]at hn0
   rw[hn0]at bad
   refine gg rfl (q04 (gg rfl (q08 rfl rfl rfl trivial ?_)))
   rw[bad f4,if_pos f4,if_neg f4];rfl
  rw[q0z]at f4
  rw[if_neg (by simp[f4])]at hn0
  refine gg rfl (q02 rfl rfl (qol (q15 (eg p.edges n.edge.toNat).line).1 (q15 (eg G n.edge.toNat).line).1 false n.at_) ?_)
  rw[←hn0]
  refine gg rfl (q01 rfl (fun f5=>?_) (fun f5=>?_))
  ·rw[q0u]at f5
   refine gg rfl (q04 (gg rfl (q08 rfl rfl rfl trivial ?_)))
   rw[bad f5,if_pos f5,if_neg f5];rfl
  rw[q0z]at f5
  rw[if_pos f5]at hke
  refine gg rfl (q1f rfl rfl rfl rfl rfl rfl (by simp;omega) (Nat.zero_le _) (by simp[q0M];omega) ?_)
  refine gg rfl (q04 (hN (k+1) ⟨hlt,hke⟩ (by omega) (q03 rfl ⟨rfl,?_,trivial⟩ ?_)))
  ·rw[List.all_append,q05 q6f];rfl
  rw[hst,w1];rfl
 rw[q07]at e1
 obtain rfl:k=p.notches.length:=by omega
 have hz:q2y p G p.notches=0:=by rw[hke,List.drop_length];rfl
 rw[hz,List.take_length]
 refine gg rfl (q04 (gg rfl (q08 rfl rfl rfl ⟨q2D (by simp) (q0X qgF _),trivial⟩ ?_)))
 rw[q2E (by simp)];rfl
theorem qav (p:Piece)(m:Int)(hc:p.corners.length≤1000000):PU qoA [p.enc,.int .i64 m]=some (.tup [ints (q0R p m).1,.int .i64 (q0R p m).2]):=by
 have h:=qCb p m hc
 refine q0g (fn:=qcN) rfl (q0a ?_)
 exact gg rfl (q02 rfl rfl h (gg rfl (q08 rfl rfl rfl trivial rfl)))
end Go.F

namespace Go.F
section
variable {T:Tab}{sh:Shr}{nx0:Nat}{s:List Fr}{t:q0x}{h:q0d}{z:Frz}{nx:Nat}{q:Ex→q0x→q0d→Frz→Nat→Prop}
variable {base i:Nat}{res:List Nat}{g:Gd}{rest:List KOper}
end
end Go.F

namespace Go.F
attribute [local irreducible] IntKind.wrap wpM
section
variable {T:Tab}{sh:Shr}{nx0:Nat}{s:List Fr}{t:q0x}{h:q0d}{z:Frz}{nx:Nat}{q:Ex→q0x→q0d→Frz→Nat→Prop}
variable {base i:Nat}{res:List Nat}{g:Gd}{rest:List KOper}
end
def q2S (n:Nat):Bool:=(decide (65≤n)&&decide (n≤90)) ||(decide (48≤n)&&decide (n≤57))
def sizeS (s:ByteArray):Bool:=decide (1≤s.size)&&(decide (s.size≤8)&&decide (∀i,i<s.size→q2S (q2r s i).toNat=true))
end Go.F

namespace Go.F
attribute [local irreducible] IntKind.wrap wpM
section
variable {T:Tab}{sh:Shr}{nx0:Nat}{s:List Fr}{t:q0x}{h:q0d}{z:Frz}{nx:Nat}{q:Ex→q0x→q0d→Frz→Nat→Prop}
variable {base i:Nat}{res:List Nat}{g:Gd}{rest:List KOper}
end
def q4P (l:List ByteArray):Bool:=(List.range l.length).any fun i=>(l.take i).any fun x=>x.toList==(sz l i).toList
structure StyB (s:Sty):Prop where
 sizes:s.sizes.length≤1000
 size:∀x∈s.sizes,x.size≤1000
 mults:s.mults.length≤1000
 pieces:s.pieces.length≤1000
 uses:s.uses.length≤1000
 seams:s.seams.length≤1000
 ops:s.ops.length≤1000
 corners:∀p∈s.pieces,p.corners.length≤1000
 widths:∀p∈s.pieces,p.widths.length≤1000
 notches:∀p∈s.pieces,p.notches.length≤1000
theorem qiD (s:Sty):s.enc=.agg [.str s.name,.lst (s.sizes.map .str),.lst (s.mults.map q00),.lst (s.pieces.map Piece.enc),.lst (s.uses.map Use.enc),.lst (s.seams.map Sew.enc),.lst (s.ops.map Opn.enc)]:=rfl
end Go.F

namespace Go.F
attribute [local irreducible] IntKind.wrap wpM
def q22 (b:List Piece)(p:Piece):Int:=
 if q1K p.name=false then 1
 else if p.grain≠1∧p.grain≠2∧p.grain≠4 then 1
 else if(b.any fun o=>o.name.toList==p.name.toList)then 7
 else if(q0q p 0).2≠0 then(q0q p 0).2
 else if(q0R p 0).2≠0 then(q0R p 0).2
 else if p.widths.length≠p.edges.length then 1
 else if p.widths.any q2h then 3 else 0
def q2b (s:Sty)(p e:Int):Bool:=decide (0≤p)&&(decide (p<s.pieces.length)&&(decide (0≤e)&&decide (e<(pc s.pieces p.toNat).edges.length)))
def q2p (s:Sty)(i:Nat):Int:=q22 (s.pieces.take i) (pc s.pieces i)
end Go.F

namespace Go.F
attribute [local irreducible] IntKind.wrap wpM
structure StyOk (s:Sty):Prop where
 mults:s.mults.length=s.sizes.length
 size:0<s.sizes.length
 sizes:s.sizes.length≤12
 pieces:s.pieces.length≤12
 uses:s.uses.length≤12
 seams:s.seams.length≤24
 use:∀u∈s.uses,0≤u.piece∧u.piece<s.pieces.length∧1≤u.count∧u.count≤4
 piece:∀i,i<s.pieces.length→q2p s i=0
 mult:∀m∈s.mults,-100≤m∧m≤100
 base:0∈s.mults
def qmA (s:Sty)(size use:Int):Prop:=size<0∨(s.sizes.length:Int)≤size∨use<0∨(s.uses.length:Int)≤use
instance (s:Sty)(a b:Int):Decidable (qmA s a b):=by unfold qmA;exact inferInstance
structure Plc where
 garment:Int
 use:Int
 copy:Int
 flip:Bool
 quarter:Int
 x:Int
 y:Int
 deriving DecidableEq
def Plc.enc (p:Plc):D:=.agg [.int .i64 p.garment,.int .i64 p.use,.int .i64 p.copy,.bool p.flip,.int .i64 p.quarter,.int .i64 p.x,.int .i64 p.y]
end Go.F

namespace Go.F
structure WholeOk (s:Sty):Prop where
 name:q1K s.name=true
 size:s.sizes.length≠0
 sizeS:∀x∈s.sizes,sizeS x=true
 mults:s.mults.length=s.sizes.length
 base:0∈s.mults
 once:q4P s.sizes=false
 sizes:s.sizes.length≤12
 pieces:s.pieces.length≤12
 uses:s.uses.length≤12
 seams:s.seams.length≤24
 ops:s.ops.length≤16
 mult:∀m∈s.mults,-100≤m∧m≤100
end Go.F

namespace Go.F
attribute [local irreducible] IntKind.wrap wpM
def qAx (p:Piece)(m:Int)(e:Nat):Int:=(q15 (eg (q0q p m).1 e).line).1
theorem qHE {p:Piece}{m:Int}{e:Nat}(hg:(q0q p m).2=0)(he:e<p.edges.length):q15 (eg (q0q p m).1 e).line=(qAx p m e,0):=by
 have hl:=q2s hg
 have h0:q1t (eg (q0q p m).1 e).line=0:=q2P (q18 (q0Z hl.2.2.1).2.2.1 (by rw[hl.1];exact he))
 unfold qAx q15
 rw[if_pos h0]
theorem qen (p:Piece)(m:Int)(e:Nat)(hc:p.corners.length≤1000000)(hg:(q0q p m).2=0)(he:e<p.edges.length):PU qqz [p.enc,.int .i64 m,.int .i64 e]=some (.tup [.int .i64 (qAx p m e),.int .i64 0]):=by
 have h1:=q5E p m hc
 have hl:=q2s hg
 have h2:=q5s (eg (q0q p m).1 e).line
 rw[qHE hg he]at h2
 have hn:∀{x:Int} {P:Prop},nqb x x=true→P:=fun h=>absurd rfl (q0u.1 h)
 refine q0g (fn:=qfn) rfl (q0a ?_)
 refine gg rfl (q02 rfl rfl h1 (gg rfl ?_))
 rw[hg]
 refine q01 rfl hn (fun _=>?_)
 refine gg rfl (q0i e rfl rfl rfl (q1O (by omega)) rfl ?_)
 exact gg rfl (q02 rfl rfl h2 (gg rfl (q08 rfl rfl rfl trivial rfl)))
theorem qq9 (s:Sty)(z:Nat)(hz:z<s.mults.length):PU qqx [s.enc,.int .i64 z]=some (.bool true):=by
 refine q0g (fn:=qfj) rfl (q0a ?_)
 refine gg rfl (q09 rfl (fun g=>?_) (fun g=>?_))
 ·refine gg rfl (q08 rfl rfl rfl trivial ?_)
  rw[List.length_map,q1M,decide_eq_true (by omega)]
 rw[q0H]at g;omega
theorem qeo (s:Sty)(p e:Int):PU qqy [s.enc,.int .i64 p,.int .i64 e]=some (.bool (q2b s p e)):=by
 refine q0g (fn:=qfl) rfl (q0a ?_)
 refine gg rfl (q09 rfl (fun g1=>?_) (fun g1=>?_))
 ·rw[q0G]at g1
  refine gg rfl ?_
  rw[List.length_map]
  refine q09 rfl (fun g2=>?_) (fun g2=>?_)
  ·rw[q06]at g2
   refine gg rfl (q09 rfl (fun g3=>?_) (fun g3=>?_))
   ·rw[q0G]at g3
    refine gg rfl (q0i p.toNat rfl rfl (by omega) (q5w (by omega)) rfl ?_)
    refine gg rfl (q08 rfl rfl rfl trivial ?_)
    rw[q2b,decide_eq_true g1,decide_eq_true g2,decide_eq_true g3,q1M,List.length_map];rfl
   rw[q0H]at g3
   refine gg rfl (q08 rfl rfl rfl trivial ?_)
   rw[q2b,decide_eq_false (show¬0≤e by omega)];simp
  rw[q07]at g2
  refine gg rfl (q0o rfl (gg rfl (q08 rfl rfl rfl trivial ?_)))
  rw[q2b,decide_eq_false (show¬p<s.pieces.length by omega)];simp
 rw[q0H]at g1
 refine gg rfl (q0o rfl (gg rfl (q0o rfl (gg rfl (q08 rfl rfl rfl trivial ?_)))))
 rw[q2b,decide_eq_false (show¬0≤p by omega)];rfl
theorem qaR {s:Sty}{p e:Int}(h:q2b s p e=true):0≤p∧p.toNat<s.pieces.length∧0≤e∧e.toNat<(pc s.pieces p.toNat).edges.length:=by
 unfold q2b at h
 simp only[Bool.and_eq_true,decide_eq_true_eq]at h
 omega
structure SewOk (s:Sty)(z k:Nat):Prop where
 size:z<s.mults.length
 seam:k<s.seams.length
 ea:q2b s (sw s.seams k).pa (sw s.seams k).ea=true
 eb:q2b s (sw s.seams k).pb (sw s.seams k).eb=true
 ga:(q0q (pc s.pieces (sw s.seams k).pa.toNat) (mu s.mults z)).2=0
 gb:(q0q (pc s.pieces (sw s.seams k).pb.toNat) (mu s.mults z)).2=0
 ca:∀p∈s.pieces,p.corners.length≤1000000
def qAy (s:Sty)(z:Nat)(m:Sew):Int:=qAx (pc s.pieces m.pa.toNat) (mu s.mults z) m.ea.toNat
def qAz (s:Sty)(z:Nat)(m:Sew):Int:=qAx (pc s.pieces m.pb.toNat) (mu s.mults z) m.eb.toNat
theorem qAA (s:Sty)(z k:Nat)(h:SewOk s z k):PU qow [s.enc,.int .i64 z,.int .i64 k]=some (.tup [.int .i64 (qAy s z (sw s.seams k)),.int .i64 (qAz s z (sw s.seams k)),.int .i64 0]):=by
 obtain⟨hz,hk,hea,heb,hga,hgb,hca⟩:=h
 have hx:=qv1 hk
 unfold qAy qAz
 generalize sw s.seams k=m at*
 obtain⟨a1,a2,a3,a4⟩:=qaR hea
 obtain⟨b1,b2,b3,b4⟩:=qaR heb
 have e1:=qeo s m.pa m.ea
 have e2:=qeo s m.pb m.eb
 rw[hea]at e1
 rw[heb]at e2
 have la:=qen (pc s.pieces m.pa.toNat) (mu s.mults z) m.ea.toNat (hca _ (q9G a2)) hga a4
 have lb:=qen (pc s.pieces m.pb.toNat) (mu s.mults z) m.eb.toNat (hca _ (q9G b2)) hgb b4
 have ia:((m.ea.toNat:Nat):Int)=m.ea:=by omega
 have ib:((m.eb.toNat:Nat):Int)=m.eb:=by omega
 rw[ia]at la
 rw[ib]at lb
 have hn:∀{x:Int} {P:Prop},nqb x x=true→P:=fun h=>absurd rfl (q0u.1 h)
 refine q0g (fn:=qd3) rfl (q0a ?_)
 refine gg rfl (q02 rfl rfl (qq9 s z hz) (gg rfl (q0o rfl (gg rfl (q09 rfl (fun g=>?_) (fun g=>?_))))))
 ·rw[q06]at g;omega
 refine gg rfl ?_
 rw[List.length_map]
 refine q01 rfl (fun g=>?_) (fun g=>?_)
 ·rw[q0G]at g;omega
 refine gg rfl (q0i k rfl rfl rfl hx rfl (gg rfl (q02 rfl rfl e1 (gg rfl (q0o rfl (gg rfl (q02 rfl rfl e2 (gg rfl (q0j rfl (gg rfl (q0i m.pa.toNat rfl rfl (by omega) (q5w a2) rfl ?_)))))))))))
 refine gg rfl (q0i z rfl rfl rfl (q9H hz) rfl (gg rfl (q02 rfl rfl la (gg rfl (q01 rfl hn (fun _=>?_))))))
 refine gg rfl (q0i m.pb.toNat rfl rfl (by omega) (q5w b2) rfl ?_)
 refine gg rfl (q0i z rfl rfl rfl (q9H hz) rfl (gg rfl (q02 rfl rfl lb (gg rfl (q01 rfl hn (fun _=>?_))))))
 exact gg rfl (q08 rfl rfl rfl trivial rfl)
end Go.F

namespace Go.F
attribute [local irreducible] IntKind.wrap wpM
theorem qBC (fr to:Int)(rev:Bool)(at_:Int): -1099511627777≤(q3x fr to rev at_).1∧(q3x fr to rev at_).1≤1099511627777:=by
 by_cases hb:q4x fr to at_
 ·rw[q3x,if_pos hb];decide
 rw[q3x,if_neg hb]
 unfold q4x at hb
 obtain⟨F,rfl⟩:∃n:Nat,fr=n:=⟨fr.toNat,by omega⟩
 obtain⟨T,rfl⟩:∃n:Nat,to=n:=⟨to.toNat,by omega⟩
 obtain⟨A,rfl⟩:∃n:Nat,at_=n:=⟨at_.toNat,by omega⟩
 have hr:=qmK (a:=A*T) (b:=F) (by omega)
 rw[Int.natCast_mul]at hr
 have hquo:A*T/F≤T:=Nat.div_le_of_le_mul (Nat.mul_le_mul_right _ (by omega))
 have hR:0≤q1s ((A:Int) *T) F∧q1s ((A:Int) *T) F≤T+1:=by
  rw[hr]
  generalize A*T/F=x at*
  split<;>omega
 simp only
 split<;>omega
structure Sid where
 ns:List Ntc
 ps:List Int
 edge:Int
 len:Int
def Sid.enc (s:Sid):D:=.agg [qgy s.ns,ints s.ps,.int .i64 s.edge,.int .i64 s.len]
structure SidOk (s:Sid):Prop where
 len:s.ps.length=s.ns.length
 few:s.ns.length≤1000
 bd:∀x∈s.ps,-1099511627777≤x∧x≤1099511627777
def qDR (s:Sid)(at_:Int)(i:Nat):Bool:=decide ((nt s.ns i).edge=s.edge)&&decide (max (mu s.ps i-at_) (at_-mu s.ps i)≤1000)
def qqb (s:Sid)(at_:Int):Bool:=(List.range s.ns.length).any (qDR s at_)
set_option maxHeartbeats 2000000 in
theorem has_PU (s:Sid)(at_:Int)(h:SidOk s)(h1: -1099511627777≤at_)(h2:at_≤1099511627777):PU qgm [s.enc,.int .i64 at_]=some (.bool (qqb s at_)):=by
 have hlen:=h.len
 have hfew:=h.few
 refine q0g (fn:=q7P) rfl (q0a ?_)
 refine gg rfl ?_
 rw[List.length_map]
 refine q0l (S:=fun k:Nat=>([.int .i64 at_,.ptr 1 0 0,qgy s.ns,q00 s.ns.length,q00 k],[none,some (.row [s.enc] 4),none,none,none],[0,0,0,0,0])) (C:=fun k=>k≤s.ns.length∧∀i,i<k→qDR s at_ i=false) (m:=fun k=>s.ns.length-k) 0 ⟨Nat.zero_le _,fun i hi=>by omega⟩ (by omega) ?_ ?_
 ·exact q03 rfl ⟨rfl,trivial⟩ rfl
 rintro k ⟨hk,hno⟩ N hN
 refine gg rfl (q01 rfl (fun e=>?_) (fun e=>?_))
 ·rw[q06]at e
  have hlt:k<s.ns.length:=by omega
  have w1:=wS (n:=k)
  have hx:=qv0 hlt
  have hp:=q9H (l:=s.ps) (i:=k) (by omega)
  have hpb:=h.bd (mu s.ps k) (by rw[qv2 (by omega)];exact List.getElem_mem _)
  have hnb:qDR s at_ k=(decide ((nt s.ns k).edge=s.edge)&&decide (max (mu s.ps k-at_) (at_-mu s.ps k)≤1000)):=rfl
  have yes:qDR s at_ k=true→qqb s at_=true:=fun hh=>List.any_eq_true.2 ⟨k,List.mem_range.2 hlt,hh⟩
  have nxt:qDR s at_ k=false→∀i,i<k+1→qDR s at_ i=false:=by
   intro hh i hi
   by_cases ei:i=k
   ·subst ei;exact hh
   exact hno i (by omega)
  generalize nt s.ns k=n at*
  generalize mu s.ps k=q at*
  have wa:=ww (x:=q-at_)
  have wb:=ww (x:=at_-q)
  refine gg rfl (q0i k rfl rfl rfl hx rfl (gg rfl (q09 rfl (fun f=>?_) (fun f=>?_))))
  ·rw[q1n]at f
   refine gg rfl (q0i k rfl rfl rfl hp rfl (gg rfl (q0i k rfl rfl rfl hp rfl (gg rfl ?_))))
   rw[wa,wb]
   refine q01 rfl (fun f2=>?_) (fun f2=>?_)
   ·rw[q0G]at f2
    refine gg rfl (q04 (gg rfl (q08 rfl rfl rfl trivial ?_)))
    rw[yes (by rw[hnb,decide_eq_true f,decide_eq_true f2];rfl)]
   rw[q0H]at f2
   exact gg rfl (q04 (hN (k+1) ⟨hlt,nxt (by rw[hnb,decide_eq_false (show¬max (q-at_) (at_-q)≤1000 by omega)];simp)⟩ (by omega) (q03 rfl ⟨rfl,trivial⟩ (by rw[w1];rfl))))
  rw[q20]at f
  exact gg rfl (q0j rfl (gg rfl (q04 (hN (k+1) ⟨hlt,nxt (by rw[hnb,decide_eq_false f];rfl)⟩ (by omega) (q03 rfl ⟨rfl,trivial⟩ (by rw[w1];rfl))))))
 rw[q07]at e
 obtain rfl:k=s.ns.length:=by omega
 clear hN
 refine gg rfl (q04 (gg rfl (q08 rfl rfl rfl trivial ?_)))
 have:qqb s at_=false:=by
  unfold qqb
  rw[List.any_eq_false]
  intro i hi
  rw[hno i (List.mem_range.1 hi)];decide
 rw[this]
def qjR (a b:Sid)(rev:Bool)(i:Nat):Bool:=decide ((nt a.ns i).edge=a.edge)&&(decide ((q3x a.len b.len rev (mu a.ps i)).2≠0) ||!qqb b (q3x a.len b.len rev (mu a.ps i)).1)
def qep (a b:Sid)(rev:Bool):List Nat:=(List.range a.ns.length).filter (qjR a b rev)
def qeq (n:Nat):D:=.int .i64 n
theorem qer (f:Nat→Bool)(k:Nat):(List.range (k+1)).filter f=(List.range k).filter f++(if f k then [k]else []):=by
 rw[List.range_succ,List.filter_append]
 congr 1
 cases h:f k<;>simp[List.filter,h]
set_option maxHeartbeats 4000000 in
theorem qyc (a b:Sid)(rev:Bool)(ha:SidOk a)(hb:SidOk b):PU qqA [a.enc,b.enc,.bool rev]=some (.lst ((qep a b rev).map qeq)):=by
 have hlen:=ha.len
 have hfew:=ha.few
 refine q0g (fn:=qeZ) rfl (q0a ?_)
 refine gg rfl ?_
 rw[List.length_map]
 refine q0l (S:=fun k:Nat=>([.bool rev,.ptr 1 0 0,.ptr 2 0 0,.ref 3 0 ((List.range k).filter (qjR a b rev)).length,qgy a.ns,q00 a.ns.length,q00 k],[none,some (.row [a.enc] 4),some (.row [b.enc] 4),some (.row (((List.range k).filter (qjR a b rev)).map qeq) 1),none,none,none],[0,0,0,0,0,0,0])) (C:=fun k=>k≤a.ns.length) (m:=fun k=>a.ns.length-k) 0 (Nat.zero_le _) (by omega) ?_ ?_
 ·exact q03 rfl ⟨rfl,rfl,rfl,trivial⟩ rfl
 intro k hk N hN
 refine gg rfl (q01 rfl (fun e=>?_) (fun e=>?_))
 ·rw[q06]at e
  have hlt:k<a.ns.length:=by omega
  have w1:=wS (n:=k)
  have hx:=qv0 hlt
  have hp:=q9H (l:=a.ps) (i:=k) (by omega)
  have hst:=qer (qjR a b rev) k
  have hlb:qjR a b rev k=(decide ((nt a.ns k).edge=a.edge)&&(decide ((q3x a.len b.len rev (mu a.ps k)).2≠0) ||!qqb b (q3x a.len b.len rev (mu a.ps k)).1)):=rfl
  have hfl:((List.range k).filter (qjR a b rev)).length≤k:=by
   have:=List.length_filter_le (qjR a b rev) (List.range k)
   rw[List.length_range]at this;exact this
  generalize nt a.ns k=n at*
  generalize mu a.ps k=q at*
  have pb:=qBC a.len b.len rev q
  have hP:=qol a.len b.len rev q
  have hH:=has_PU b (q3x a.len b.len rev q).1 hb pb.1 pb.2
  generalize (List.range k).filter (qjR a b rev)=L at*
  have no:qjR a b rev k=false→(List.range (k+1)).filter (qjR a b rev)=L:=fun h=>by rw[hst,h];simp
  have ye:qjR a b rev k=true→(List.range (k+1)).filter (qjR a b rev)=L++[k]:=fun h=>by rw[hst,h];rfl
  refine gg rfl (q0i k rfl rfl rfl hx rfl (gg rfl (q01 rfl (fun f=>?_) (fun f=>?_))))
  ·rw[q0u]at f
   have hst0:=no (by rw[hlb,decide_eq_false f];rfl)
   refine gg rfl (q04 (hN (k+1) hlt (by omega) (q03 rfl ⟨rfl,rfl,q05 (fun _=>rfl) _,trivial⟩ ?_)))
   rw[hst0,w1];rfl
  rw[q0z]at f
  refine gg rfl (q0i k rfl rfl rfl hp rfl (gg rfl (q02 rfl rfl hP (gg rfl (q09 rfl (fun f2=>?_) (fun f2=>?_))))))
  ·rw[q0u]at f2
   have hst1:=ye (by rw[hlb,decide_eq_true f,decide_eq_true f2];rfl)
   refine gg rfl (q0e rfl (gg rfl (q1f rfl rfl rfl rfl rfl rfl (by simp) (Nat.zero_le _) (by simp[q0M];omega) ?_)))
   refine gg rfl (q04 (hN (k+1) hlt (by omega) (q03 rfl ⟨rfl,rfl,?_,trivial⟩ ?_)))
   ·rw[List.all_append,q05 (fun _=>rfl)];rfl
   rw[hst1,w1]
   simp[qgy,q00,Sid.enc,qeq]
  rw[q0z]at f2
  refine gg rfl (q02 rfl rfl hH ?_)
  cases hh:qqb b (q3x a.len b.len rev q).1 with
  |true=>
   have hst0:=no (by rw[hlb,hh,f2];simp)
   refine gg rfl (q0j rfl (gg rfl (q04 (hN (k+1) hlt (by omega) (q03 rfl ⟨rfl,rfl,q05 (fun _=>rfl) _,trivial⟩ ?_)))))
   rw[hst0,w1];rfl
  |false=>
   have hst1:=ye (by rw[hlb,hh,decide_eq_true f];simp)
   refine gg rfl (q0e rfl (gg rfl (q1f rfl rfl rfl rfl rfl rfl (by simp) (Nat.zero_le _) (by simp[q0M];omega) ?_)))
   refine gg rfl (q04 (hN (k+1) hlt (by omega) (q03 rfl ⟨rfl,rfl,?_,trivial⟩ ?_)))
   ·rw[List.all_append,q05 (fun _=>rfl)];rfl
   rw[hst1,w1]
   simp[qgy,q00,Sid.enc,qeq]
 rw[q07]at e
 obtain rfl:k=a.ns.length:=by omega
 clear hN
 refine gg rfl (q04 (gg rfl (q08 rfl rfl rfl ⟨q2D (by simp) (q0X (fun _=>rfl) _),trivial⟩ ?_)))
 rw[q2E (by simp)];rfl
end Go.F

namespace Go.F
attribute [local irreducible] IntKind.wrap wpM
structure Iss where
 kind:Int
 a:Int
 b:Int
 deriving DecidableEq
def Iss.enc (i:Iss):D:=.agg [.int .i64 i.kind,.int .i64 i.a,.int .i64 i.b]
def qqc (l:List Iss):D:=.lst (l.map Iss.enc)
theorem q1c (i:Iss):plain 4 i.enc=true:=rfl
theorem qmS (i:Iss):dat 4 i.enc=true:=rfl
def mz (s:Sty)(z:Nat):Int:=mu s.mults z
def pcA (s:Sty)(m:Sew):Piece:=pc s.pieces m.pa.toNat
def pcB (s:Sty)(m:Sew):Piece:=pc s.pieces m.pb.toNat
def qjS (s:Sty)(z:Nat)(m:Sew):Sid:=⟨(pcA s m).notches,(q0R (pcA s m) (mz s z)).1,m.ea,qAy s z m⟩
def qjT (s:Sty)(z:Nat)(m:Sew):Sid:=⟨(pcB s m).notches,(q0R (pcB s m) (mz s z)).1,m.eb,qAz s z m⟩
def q7w (kd:Int)(l:List Nat):List Iss:=l.map fun i:Nat=>(⟨kd,0,(i:Int)⟩:Iss)
def qIr (s:Sty)(z:Nat)(m:Sew):List Iss:=q7w 1 (qep (qjS s z m) (qjT s z m) m.rev)++q7w 2 (qep (qjT s z m) (qjS s z m) m.rev)
theorem qDS {p:Piece}{m:Int}(h:(q0R p m).2=0):(q0R p m).1.length=p.notches.length∧p.notches.length≤16∧∀x∈(q0R p m).1,-1099511627777≤x∧x≤1099511627777:=by
 unfold q0R at h⊢
 split at h
 ·rename_i g;exact absurd h g
 rename_i g
 rw[if_neg g]
 split at h
 ·cases h
 rename_i g2
 rw[if_neg g2]
 split at h
 ·rename_i g3;exact absurd h g3
 rename_i g3
 rw[if_neg g3]
 refine⟨by simp,by omega,fun x hx=>?_⟩
 obtain⟨n,_,rfl⟩:=List.mem_map.1 hx
 unfold q1u
 split
 ·exact⟨by simp,by simp⟩
 split
 ·exact⟨by simp,by simp⟩
 split
 ·exact⟨by simp,by simp⟩
 exact qBC _ _ _ _
theorem qGo {p:Piece}{m e l:Int}(h:(q0R p m).2=0):SidOk ⟨p.notches,(q0R p m).1,e,l⟩:=by
 obtain⟨h1,h2,h3⟩:=qDS h
 exact⟨h1,by show p.notches.length≤1000;omega,h3⟩
theorem qsY (a b:Sid)(rev:Bool):(qep a b rev).length≤a.ns.length:=by
 have:=List.length_filter_le (qjR a b rev) (List.range a.ns.length)
 rw[List.length_range]at this;exact this
def at1 (l:List Nat)(i:Nat):Nat:=l.getD i 0
theorem qBD {l:List Nat}{i:Nat}(h:i<l.length):(l.map qeq)[i]?=some (.int .i64 ((at1 l i:Nat):Int)):=by simp[at1,h,qeq]
theorem qHI {l:List Nat}{i:Nat}(h:i<l.length):at1 l i=l[i]:=by simp[at1,h]
theorem qsZ (kd:Int){l:List Nat}{k:Nat}(h:k<l.length):q7w kd (l.take (k+1))=q7w kd (l.take k)++[⟨kd,0,(at1 l k:Nat)⟩]:=by
 unfold q7w
 rw[List.take_succ_eq_append_getElem h,List.map_append,qHI h];rfl
set_option maxRecDepth 100000 in
set_option maxHeartbeats 8000000 in
theorem qvd (s:Sty)(z:Nat)(h:SewOk s z 0)(h1:s.seams.length=1)(pa:(q0R (pcA s (sw s.seams 0)) (mz s z)).2=0)(pb:(q0R (pcB s (sw s.seams 0)) (mz s z)).2=0):
 PU q9h [s.enc,.int .i64 z]=some (.tup [qqc (qIr s z (sw s.seams 0)),.int .i64 0]):=by
 have hL:=qAA s z 0 h
 obtain⟨hz,hk,hea,heb,hga,hgb,hca⟩:=h
 have hx:=qv1 hk
 obtain⟨a1,a2,a3,a4⟩:=qaR hea
 obtain⟨b1,b2,b3,b4⟩:=qaR heb
 have soA:SidOk (qjS s z (sw s.seams 0)):=qGo pa
 have soB:SidOk (qjT s z (sw s.seams 0)):=qGo pb
 have hA:=qyc (qjS s z (sw s.seams 0)) (qjT s z (sw s.seams 0)) (sw s.seams 0).rev soA soB
 have hB:=qyc (qjT s z (sw s.seams 0)) (qjS s z (sw s.seams 0)) (sw s.seams 0).rev soB soA
 have qA:=qav (pcA s (sw s.seams 0)) (mz s z) (hca _ (q9G a2))
 have qB:=qav (pcB s (sw s.seams 0)) (mz s z) (hca _ (q9G b2))
 rw[pa]at qA
 rw[pb]at qB
 have lA:=qsY (qjS s z (sw s.seams 0)) (qjT s z (sw s.seams 0)) (sw s.seams 0).rev
 have lB:=qsY (qjT s z (sw s.seams 0)) (qjS s z (sw s.seams 0)) (sw s.seams 0).rev
 have fA:=soA.few
 have fB:=soB.few
 have hu:qIr s z (sw s.seams 0)=q7w 1 (qep (qjS s z (sw s.seams 0)) (qjT s z (sw s.seams 0)) (sw s.seams 0).rev)++q7w 2 (qep (qjT s z (sw s.seams 0)) (qjS s z (sw s.seams 0)) (sw s.seams 0).rev):=rfl
 have eA:(qjS s z (sw s.seams 0)).enc=.agg [.lst ((pcA s (sw s.seams 0)).notches.map Ntc.enc),.lst ((q0R (pcA s (sw s.seams 0)) (mz s z)).1.map q00),.int .i64 (sw s.seams 0).ea,.int .i64 (qAy s z (sw s.seams 0))]:=rfl
 have eB:(qjT s z (sw s.seams 0)).enc=.agg [.lst ((pcB s (sw s.seams 0)).notches.map Ntc.enc),.lst ((q0R (pcB s (sw s.seams 0)) (mz s z)).1.map q00),.int .i64 (sw s.seams 0).eb,.int .i64 (qAz s z (sw s.seams 0))]:=rfl
 have hpA:(s.pieces.map Piece.enc)[(sw s.seams 0).pa.toNat]?=some (pcA s (sw s.seams 0)).enc:=q5w a2
 have hpB:(s.pieces.map Piece.enc)[(sw s.seams 0).pb.toNat]?=some (pcB s (sw s.seams 0)).enc:=q5w b2
 have hmz:(s.mults.map q00)[z]?=some (q00 (mz s z)):=q9H hz
 rw[hu]
 generalize qep (qjS s z (sw s.seams 0)) (qjT s z (sw s.seams 0)) (sw s.seams 0).rev=LA at*
 generalize qep (qjT s z (sw s.seams 0)) (qjS s z (sw s.seams 0)) (sw s.seams 0).rev=LB at*
 generalize qjS s z (sw s.seams 0)=SA at*
 generalize qjT s z (sw s.seams 0)=SB at*
 generalize qAy s z (sw s.seams 0)=nA at*
 generalize qAz s z (sw s.seams 0)=nB at*
 generalize (q0R (pcA s (sw s.seams 0)) (mz s z)).1=PA at*
 generalize (q0R (pcB s (sw s.seams 0)) (mz s z)).1=PB at*
 generalize pcA s (sw s.seams 0)=cA at*
 generalize pcB s (sw s.seams 0)=cB at*
 generalize sw s.seams 0=m at*
 have hn:∀{x:Int} {P:Prop},nqb x x=true→P:=fun h=>absurd rfl (q0u.1 h)
 refine q0g (fn:=q90) rfl (q0a ?_)
 refine gg rfl (q09 rfl (fun g=>?_) (fun g=>?_))
 ·rw[q06]at g;omega
 refine gg rfl ?_
 rw[List.length_map]
 refine q01 rfl (fun g=>?_) (fun g=>?_)
 ·rw[q0G]at g;omega
 refine gg rfl ?_
 rw[List.length_map,h1]
 refine q0l (S:=fun k:Nat=>([.int .i64 z,.ptr 1 0 0,.ref 2 0 (if k=0 then []else q7w 1 LA++q7w 2 LB).length,quY s.seams,q00 1,q00 k],[none,some (.row [s.enc] 7),some (.row ((if k=0 then []else q7w 1 LA++q7w 2 LB).map Iss.enc) 3),none,none,none],[0,0,0,0,0,0])) (C:=fun k=>k≤1) (m:=fun k=>1-k) 0 (Nat.zero_le _) (by omega) ?_ ?_
 ·exact q03 rfl ⟨rfl,rfl,trivial⟩ rfl
 intro k hk1 N hN
 refine gg rfl (q01 rfl (fun e=>?_) (fun e=>?_))
 ·rw[q06]at e
  obtain rfl:k=0:=by omega
  refine gg rfl (q0i 0 rfl rfl rfl hx rfl (gg rfl (q02 rfl rfl hL (gg rfl (q01 rfl hn (fun _=>?_))))))
  refine gg rfl (q0i m.pa.toNat rfl rfl (by omega) hpA rfl ?_)
  refine gg rfl (q0i m.pa.toNat rfl rfl (by omega) hpA rfl ?_)
  refine gg rfl (q0i z rfl rfl rfl hmz rfl (gg rfl (q02 rfl rfl qA (gg rfl (q01 rfl hn (fun _=>?_))))))
  refine gg rfl (q0i m.pb.toNat rfl rfl (by omega) hpB rfl ?_)
  refine gg rfl (q0i m.pb.toNat rfl rfl (by omega) hpB rfl ?_)
  refine gg rfl (q0i z rfl rfl rfl hmz rfl (gg rfl (q02 rfl rfl qB (gg rfl (q01 rfl hn (fun _=>?_))))))
  refine gg rfl ?_
  rw[eA]at hA hB
  rw[eB]at hA hB
  refine q02 rfl rfl hA (gg rfl ?_)
  rw[List.length_map]
  refine q0l (S:=fun n:Nat=>([.int .i64 z,.ptr 1 0 0,.ref 2 0 (q7w 1 (LA.take n)).length,q00 0,.ptr 4 0 0,.ptr 5 0 0,.ptr 6 0 0,quY s.seams,q00 1,q00 0,.lst (LA.map qeq),q00 LA.length,q00 n],[none,some (.row [s.enc] 7),some (.row ((q7w 1 (LA.take n)).map Iss.enc) 3),none,some (.row [m.enc] 6),some (.row [.agg [qgy cA.notches,ints PA,.int .i64 m.ea,.int .i64 nA]] 4),some (.row [.agg [qgy cB.notches,ints PB,.int .i64 m.eb,.int .i64 nB]] 4),none,none,none,none,none,none],[0,0,0,0,0,0,0,0,0,0,0,0,0])) (C:=fun n=>n≤LA.length) (m:=fun n=>LA.length-n) 0 (Nat.zero_le _) (by omega) ?_ ?_
  ·exact q03 rfl ⟨rfl,rfl,rfl,rfl,rfl,trivial⟩ rfl
  intro n hn0 N2 hN2
  refine gg rfl (q01 rfl (fun f=>?_) (fun f=>?_))
  ·rw[q06]at f
   have hlt:n<LA.length:=by omega
   have w2:=wS (n:=n)
   have hst:=qsZ 1 hlt
   have hl1:(q7w 1 (LA.take n)).length=n:=by simp[q7w];omega
   refine gg rfl (q0i n rfl rfl rfl (qBD hlt) rfl (gg rfl (q1f rfl rfl rfl rfl rfl rfl (by simp) (Nat.zero_le _) (by simp[q0M];omega) ?_)))
   refine gg rfl (q04 (hN2 (n+1) hlt (by omega) (q03 rfl ⟨rfl,?_,rfl,rfl,rfl,trivial⟩ ?_)))
   ·rw[List.all_append,q05 q1c];rfl
   rw[hst,w2]
   simp[q00,Iss.enc,quY,qgy,ints,Sew.enc]
  rw[q07]at f
  obtain rfl:n=LA.length:=by omega
  clear hN2
  rw[List.take_length]
  have hl1:(q7w 1 LA).length=LA.length:=by simp[q7w]
  refine gg rfl (q04 (gg rfl (q02 rfl rfl hB (gg rfl ?_))))
  rw[List.length_map]
  refine q0l (S:=fun n:Nat=>([.int .i64 z,.ptr 1 0 0,.ref 2 0 (q7w 1 LA++q7w 2 (LB.take n)).length,q00 0,quY s.seams,q00 1,q00 0,.lst (LB.map qeq),q00 LB.length,q00 n],[none,some (.row [s.enc] 7),some (.row ((q7w 1 LA++q7w 2 (LB.take n)).map Iss.enc) 3),none,none,none,none,none,none,none],[0,0,0,0,0,0,0,0,0,0])) (C:=fun n=>n≤LB.length) (m:=fun n=>LB.length-n) 0 (Nat.zero_le _) (by omega) ?_ ?_
  ·exact q03 rfl ⟨rfl,q05 q1c _,trivial⟩ (by simp[q7w,q00,quY])
  intro n hn0 N2 hN2
  refine gg rfl (q01 rfl (fun f=>?_) (fun f=>?_))
  ·rw[q06]at f
   have hlt:n<LB.length:=by omega
   have w2:=wS (n:=n)
   have hst:=qsZ 2 hlt
   have hl2:(q7w 2 (LB.take n)).length=n:=by simp[q7w];omega
   refine gg rfl (q0i n rfl rfl rfl (qBD hlt) rfl (gg rfl (q1f rfl rfl rfl rfl rfl rfl (by simp) (Nat.zero_le _) (by simp[q0M];omega) ?_)))
   refine gg rfl (q04 (hN2 (n+1) hlt (by omega) (q03 rfl ⟨rfl,?_,trivial⟩ ?_)))
   ·rw[List.all_append,q05 q1c];rfl
   rw[hst,w2]
   simp[q00,Iss.enc,quY]
   try omega
  rw[q07]at f
  obtain rfl:n=LB.length:=by omega
  clear hN2
  rw[List.take_length]
  refine gg rfl (q04 (gg rfl (q04 (hN 1 (by omega) (by omega) (q03 rfl ⟨rfl,q05 q1c _,trivial⟩ ?_)))))
  have w0:IntKind.i64.wrap 1=1:=wrap64 (by decide) (by decide)
  simp[q00,quY,w0]
 rw[q07]at e
 obtain rfl:k=1:=by omega
 clear hN
 refine gg rfl (q04 (gg rfl (q08 rfl rfl rfl ⟨q2D (by simp) (q0X qmS _),trivial⟩ ?_)))
 rw[q2E (by simp)];rfl
end Go.F

namespace Go.F
attribute [local irreducible] IntKind.wrap wpM
section
variable {T:Tab}{sh:Shr}{nx0:Nat}{s:List Fr}{t:q0x}{h:q0d}{z:Frz}{nx:Nat}{q:Ex→q0x→q0d→Frz→Nat→Prop}
variable {base i:Nat}{res:List Nat}{g:Gd}{rest:List KOper}
end
structure Grd where
 outline:Bool
 cut:Bool
 area:Int
def Grd.enc (g:Grd):D:=.agg [.bool g.outline,.bool g.cut,.int .i64 g.area]
end Go.F

namespace Go.F
theorem qGR {f:FuncId}{fn:KFn}{args:List D}{Q:D→Prop}(hf:tab f=some fn)(hw:wp TT (shr TT 6) 0 fn.code (enter args) empty qhS 0 (qeT fn fun d h _ _=>ws2 h d Q)):∃r,Q r∧PU f args=some r:=by
 obtain⟨F,cd,h1,h2,h3⟩:=tt_ok.tab f fn hf
 obtain⟨d,h',z',nx',q1,e1⟩:=qdV tt_ok (qsk tt_ok 6) h2 h3 hw
 obtain⟨d',h4,h5⟩:=qB2 q1
 refine⟨d',h5,qtX (e1.up.mono fun M hM=>?_)⟩
 obtain⟨M',rfl,hM'⟩:=hM
 simp only[EM,env,h1,h2]
 have hM2:body prog (env prog q4B qgt M') (qgt f) F cd args empty qhS 0=some (d,h',z',nx'):=hM'
 rw[hM2]
 exact h4
theorem qFh {f:FuncId}{fn:KFn}{args:List D}{R:Prop}(hf:tab f=some fn)
 (hw:wpM TT (shr TT 6) 0 [.code fn.code] .normal (enter args) empty qhS 0 (qeT fn fun d h _ _=>ws2 h d fun d=>∃b:Bool,d=.bool b∧(b=true→R))):∃b:Bool,PU f args=some (.bool b)∧(b=true→R):=by
 simp only[wpM]at hw
 obtain⟨r,⟨b,rfl,hb⟩,h2⟩:=qGR hf hw
 exact⟨b,h2,hb⟩
attribute [local irreducible] IntKind.wrap wpM
section
variable {T:Tab}{sh:Shr}{nx0:Nat}{t:q0x}{h:q0d}{z:Frz}{nx:Nat}
theorem q7q {fn:KFn}{ex:Ex}{Q:D→Prop}{d d':D}{rows:List (List D×Nat×Nat)}(hex:(match ex with|.exit _=>false|_=>true)=true)(hd:dres t h fn.res=some d)(hs:dr2 h d=some (rows,d'))(hr:q49 rows)(he:Q d'):
 wpM T sh nx0 [] ex t h z nx (qeT fn fun d h _ _=>ws2 h d Q):=by
 refine q04 ?_
 cases ex with
 |exit i=>cases hex
 |normal=>exact q6v hd (qeO hs hr he)
 |ret=>exact q6v hd (qeO hs hr he)
end
structure PcL (p:Piece):Prop where
 edges:p.edges.length≤20
 corners:p.corners.length≤20
 widths:p.widths.length≤20
 notches:p.notches.length≤20
 line:∀i,i<p.edges.length→(eg p.edges i).line.length≤80∧(eg p.edges i).name.size≤100
theorem qoZ (p:Piece):p.enc=.agg [.str p.name,.lst (p.edges.map Edge.enc),.int .i64 p.grain,.lst (p.notches.map Ntc.enc),.lst (p.corners.map Spot.enc),.lst (p.widths.map q00),.bool p.match_]:=rfl
set_option maxHeartbeats 8000000 in
theorem qfP (p:Piece)(M:Nat)(hM:M≤80):∃b:Bool,PU qly [p.enc,.int .i64 M]=some (.bool b)∧(b=true→PcL p):=by
 refine qFh (fn:=qkP) rfl ?_
 rw[qoZ]
 refine gg rfl (q09 rfl (fun g0=>?_) (fun g0=>?_))
 ·exact gg rfl (q0h rfl (gg rfl (q0h rfl (gg rfl (q0e rfl (gg rfl (q7q rfl rfl rfl trivial ⟨false,rfl,fun h=>by cases h⟩)))))))
 refine gg rfl (q09 rfl (fun g1=>?_) (fun g1=>?_))
 ·exact gg rfl (q0h rfl (gg rfl (q0e rfl (gg rfl (q7q rfl rfl rfl trivial ⟨false,rfl,fun h=>by cases h⟩)))))
 refine gg rfl (q09 rfl (fun g2=>?_) (fun g2=>?_))
 ·exact gg rfl (q0e rfl (gg rfl (q7q rfl rfl rfl trivial ⟨false,rfl,fun h=>by cases h⟩)))
 refine gg rfl (q01 rfl (fun g3=>?_) (fun g3=>?_))
 ·exact gg rfl (q7q rfl rfl rfl trivial ⟨false,rfl,fun h=>by cases h⟩)
 rw[q07,List.length_map]at g0 g1 g2 g3
 refine gg rfl (q0l (S:=fun a:Nat×Nat=>([.int .i64 M,.ptr 1 0 0,q00 a.2,q00 a.1],[none,some (.row [p.enc] 7),none,none],[0,0,0,0])) (C:=fun a=>a.1≤p.edges.length∧a.2≤80*a.1∧∀j,j<a.1→(eg p.edges j).line.length≤80∧(eg p.edges j).name.size≤100) (m:=fun a=>p.edges.length-a.1) (0,0) ⟨Nat.zero_le _,Nat.zero_le _,fun j h=>by simp at h⟩ (by show p.edges.length-0<_;omega) ?_ ?_)
 ·exact q03 rfl ⟨rfl,trivial⟩ rfl
 rintro⟨k,n⟩ ⟨hk,hn,hj⟩ N hN
 simp only at hk hn hj
 simp only[qoZ]
 refine gg rfl ?_
 rw[List.length_map]
 refine q01 rfl (fun e=>?_) (fun e=>?_)
 ·rw[q06]at e
  have hlt:k<p.edges.length:=by omega
  have w1:=wS (n:=k)
  refine gg rfl (q0i k rfl rfl rfl (q1O hlt) rfl (gg rfl ?_))
  rw[List.length_map]
  refine q09 rfl (fun f1=>?_) (fun f1=>?_)
  ·exact gg rfl (q0e rfl (gg rfl (q04 (gg rfl (q7q rfl rfl rfl trivial ⟨false,rfl,fun h=>by cases h⟩)))))
  rw[q07]at f1
  refine gg rfl (q0i k rfl rfl rfl (q1O hlt) rfl (gg rfl (q01 rfl (fun f2=>?_) (fun f2=>?_))))
  ·exact gg rfl (q04 (gg rfl (q7q rfl rfl rfl trivial ⟨false,rfl,fun h=>by cases h⟩)))
  rw[q07]at f2
  have w2:IntKind.i64.wrap ((n:Int)+((eg p.edges k).line.length:Nat))=((n+(eg p.edges k).line.length:Nat):Int):=ww
  refine gg rfl (q0i k rfl rfl rfl (q1O hlt) rfl (gg rfl ?_))
  rw[List.length_map]
  refine q04 (hN (k+1,n+(eg p.edges k).line.length) ⟨hlt,by show _≤80*(k+1);omega,fun j hjk=>?_⟩ (by show p.edges.length-(k+1)<p.edges.length-k;omega) (q03 rfl ⟨rfl,trivial⟩ (by rw[w1,w2];rfl)))
  have hjk:j<k+1:=hjk
  by_cases ej:j=k
  ·subst ej;omega
  exact hj j (by omega)
 rw[q07]at e
 obtain rfl:k=p.edges.length:=by omega
 exact gg rfl (q04 (gg rfl (q7q rfl rfl rfl trivial ⟨_,rfl,fun _=>⟨by omega,by omega,by omega,by omega,hj⟩⟩)))
theorem qtY (p:Piece):∃b:Bool,PU qly [p.enc,.int .i64 80]=some (.bool b)∧(b=true→PcL p):=qfP p 80 (Nat.le_refl _)
structure StyL (s:Sty):Prop where
 name:s.name.size≤100
 sizes:s.sizes.length≤30
 mults:s.mults.length≤30
 uses:s.uses.length≤30
 seams:s.seams.length≤30
 ops:s.ops.length≤30
 pieces:s.pieces.length≤14
 size:∀i (h:i<s.sizes.length),s.sizes[i].size≤100
 piece:∀i,i<s.pieces.length→PcL (pc s.pieces i)
set_option maxHeartbeats 8000000 in
theorem qib (s:Sty):∃b:Bool,PU qwb [s.enc]=some (.bool b)∧(b=true→StyL s):=by
 refine qFh (fn:=qk2) rfl ?_
 rw[qiD]
 refine gg rfl (q09 rfl (fun g0=>?_) (fun g0=>?_))
 ·exact gg rfl (q0h rfl (gg rfl (q0h rfl (gg rfl (q0h rfl (gg rfl (q0h rfl (gg rfl (q0h rfl (gg rfl (q0e rfl (gg rfl (q7q rfl rfl rfl trivial ⟨false,rfl,fun h=>by cases h⟩)))))))))))))
 refine gg rfl (q09 rfl (fun g1=>?_) (fun g1=>?_))
 ·exact gg rfl (q0h rfl (gg rfl (q0h rfl (gg rfl (q0h rfl (gg rfl (q0h rfl (gg rfl (q0e rfl (gg rfl (q7q rfl rfl rfl trivial ⟨false,rfl,fun h=>by cases h⟩)))))))))))
 refine gg rfl (q09 rfl (fun g2=>?_) (fun g2=>?_))
 ·exact gg rfl (q0h rfl (gg rfl (q0h rfl (gg rfl (q0h rfl (gg rfl (q0e rfl (gg rfl (q7q rfl rfl rfl trivial ⟨false,rfl,fun h=>by cases h⟩)))))))))
 refine gg rfl (q09 rfl (fun g3=>?_) (fun g3=>?_))
 ·exact gg rfl (q0h rfl (gg rfl (q0h rfl (gg rfl (q0e rfl (gg rfl (q7q rfl rfl rfl trivial ⟨false,rfl,fun h=>by cases h⟩)))))))
 refine gg rfl (q09 rfl (fun g4=>?_) (fun g4=>?_))
 ·exact gg rfl (q0h rfl (gg rfl (q0e rfl (gg rfl (q7q rfl rfl rfl trivial ⟨false,rfl,fun h=>by cases h⟩)))))
 refine gg rfl (q09 rfl (fun g5=>?_) (fun g5=>?_))
 ·exact gg rfl (q0e rfl (gg rfl (q7q rfl rfl rfl trivial ⟨false,rfl,fun h=>by cases h⟩)))
 refine gg rfl (q01 rfl (fun g6=>?_) (fun g6=>?_))
 ·exact gg rfl (q7q rfl rfl rfl trivial ⟨false,rfl,fun h=>by cases h⟩)
 rw[q07]at g0 g1 g2 g3 g4 g5 g6
 rw[List.length_map]at g1 g2 g3 g4 g5 g6
 refine gg rfl (q0l (S:=fun k:Nat=>([.ptr 0 0 0,q00 k],[some (.row [s.enc] 7),none],[0,0])) (C:=fun k=>k≤s.sizes.length∧∀j (h:j<s.sizes.length),j<k→s.sizes[j].size≤100) (m:=fun k=>s.sizes.length-k) 0 ⟨Nat.zero_le _,fun j _ h=>by omega⟩ (by omega) ?_ ?_)
 ·exact q03 rfl ⟨rfl,trivial⟩ rfl
 rintro k ⟨hk,hj⟩ N hN
 simp only[qiD]
 refine gg rfl ?_
 rw[List.length_map]
 refine q01 rfl (fun e=>?_) (fun e=>?_)
 ·rw[q06]at e
  have hlt:k<s.sizes.length:=by omega
  have w1:=wS (n:=k)
  have hx:(s.sizes.map D.str)[k]?=some (.str s.sizes[k]):=q1B hlt
  refine gg rfl (q0i k rfl rfl rfl hx rfl (gg rfl (q01 rfl (fun f1=>?_) (fun f1=>?_))))
  ·exact gg rfl (q04 (gg rfl (q7q rfl rfl rfl trivial ⟨false,rfl,fun h=>by cases h⟩)))
  rw[q07]at f1
  refine gg rfl (q04 (hN (k+1) ⟨hlt,fun j hj2 hjk=>?_⟩ (by omega) (q03 rfl ⟨rfl,trivial⟩ (by rw[w1];rfl))))
  by_cases ej:j=k
  ·subst ej;omega
  exact hj j hj2 (by omega)
 rw[q07]at e
 obtain rfl:k=s.sizes.length:=by omega
 clear hN
 refine gg rfl (q04 (gg rfl (q0l (S:=fun k:Nat=>([.ptr 0 0 0,q00 k],[some (.row [s.enc] 7),none],[0,0])) (C:=fun k=>k≤s.pieces.length∧∀j,j<k→PcL (pc s.pieces j)) (m:=fun k=>s.pieces.length-k) 0 ⟨Nat.zero_le _,fun j h=>by omega⟩ (by omega) ?_ ?_)))
 ·exact q03 rfl ⟨rfl,trivial⟩ rfl
 rintro k ⟨hk,hp⟩ N hN
 simp only[qiD]
 refine gg rfl ?_
 rw[List.length_map]
 refine q01 rfl (fun e=>?_) (fun e=>?_)
 ·rw[q06]at e
  have hlt:k<s.pieces.length:=by omega
  have w1:=wS (n:=k)
  obtain⟨b,hb,hbs⟩:=qtY (pc s.pieces k)
  refine gg rfl (q0i k rfl rfl rfl (q5w hlt) rfl (gg rfl (q09 rfl (fun f1=>?_) (fun f1=>?_))))
  ·exact gg rfl (q0e rfl (gg rfl (q04 (gg rfl (q7q rfl rfl rfl trivial ⟨false,rfl,fun h=>by cases h⟩)))))
  refine gg rfl (q0i k rfl rfl rfl (q5w hlt) rfl (gg rfl (q02 rfl rfl hb (gg rfl ?_))))
  cases b with
  |false=>
   exact q0e rfl (gg rfl (q04 (gg rfl (q7q rfl rfl rfl trivial ⟨false,rfl,fun h=>by cases h⟩))))
  |true=>
   refine q0j rfl (gg rfl (q04 (hN (k+1) ⟨hlt,fun j hjk=>?_⟩ (by omega) (q03 rfl ⟨rfl,trivial⟩ (by rw[w1];rfl)))))
   by_cases ej:j=k
   ·subst ej;exact hbs rfl
   exact hp j (by omega)
 rw[q07]at e
 obtain rfl:k=s.pieces.length:=by omega
 exact gg rfl (q04 (gg rfl (q7q rfl rfl rfl trivial ⟨_,rfl,fun _=>⟨by omega,by omega,by omega,by omega,by omega,by omega,by omega,fun i hi=>hj i hi hi,hp⟩⟩)))
end Go.F

namespace Go.F
attribute [local irreducible] IntKind.wrap wpM
set_option maxHeartbeats 4000000 in
theorem qIo (s:Sty):∃b:Bool,PU qCe [s.enc]=some (.bool b)∧(b=true→StyL s∧s.pieces.length≤4∧s.sizes.length≤4∧s.seams.length≤6):=by
 obtain⟨b,hb,hbs⟩:=qib s
 refine qFh (fn:=qrv) rfl ?_
 rw[qiD]at hb
 rw[qiD]
 refine gg rfl (q02 rfl rfl hb ?_)
 cases b with
 |false=>
  exact gg rfl (q0h rfl (gg rfl (q0h rfl (gg rfl (q0h rfl (gg rfl (q0e rfl (gg rfl (q7q rfl rfl rfl trivial ⟨false,rfl,fun h=>by cases h⟩)))))))))
 |true=>
  have hL:=hbs rfl
  refine gg rfl (q0o rfl (gg rfl ?_))
  rw[List.length_map]
  refine q09 rfl (fun f1=>?_) (fun f1=>?_)
  ·exact gg rfl (q0h rfl (gg rfl (q0e rfl (gg rfl (q7q rfl rfl rfl trivial ⟨false,rfl,fun h=>by cases h⟩)))))
  rw[q07]at f1
  refine gg rfl ?_
  rw[List.length_map]
  refine q09 rfl (fun f2=>?_) (fun f2=>?_)
  ·exact gg rfl (q0e rfl (gg rfl (q7q rfl rfl rfl trivial ⟨false,rfl,fun h=>by cases h⟩)))
  rw[q07]at f2
  refine gg rfl ?_
  rw[List.length_map]
  refine q01 rfl (fun f3=>?_) (fun f3=>?_)
  ·exact gg rfl (q7q rfl rfl rfl trivial ⟨false,rfl,fun h=>by cases h⟩)
  rw[q07]at f3
  refine gg rfl (q0l (S:=fun k:Nat=>([.ptr 0 0 0,q00 k],[some (.row [s.enc] 7),none],[0,0])) (C:=fun k=>k≤s.pieces.length) (m:=fun k=>s.pieces.length-k) 0 (Nat.zero_le _) (by omega) ?_ ?_)
  ·exact q03 rfl ⟨rfl,trivial⟩ rfl
  intro k hk N hN
  refine gg rfl ?_
  rw[List.length_map]
  refine q01 rfl (fun e=>?_) (fun e=>?_)
  ·rw[q06]at e
   have hlt:k<s.pieces.length:=by omega
   have w1:=wS (n:=k)
   obtain⟨b2,hb2,_⟩:=qfP (pc s.pieces k) 40 (by decide)
   refine gg rfl (q0i k rfl rfl rfl (q5w hlt) rfl (gg rfl (q02 rfl rfl hb2 ?_)))
   cases b2 with
   |false=>
    exact gg rfl (q0e rfl (gg rfl (q04 (gg rfl (q7q rfl rfl rfl trivial ⟨false,rfl,fun h=>by cases h⟩)))))
   |true=>
    exact gg rfl (q0j rfl (gg rfl (q04 (hN (k+1) hlt (by omega) (q03 rfl ⟨rfl,trivial⟩ (by rw[w1];rfl))))))
  exact gg rfl (q04 (gg rfl (q7q rfl rfl rfl trivial ⟨true,rfl,fun _=>⟨hL,by omega,by omega,by omega⟩⟩)))
end Go.F
