/- Parts of the proof, part 45: Geo1, Geo2, Geo3, Geo4, Geo5, Geo6, Geo7, Geo8, Geo9, St1, Ref1, Plain1, Ref2, Ref3, All1, All2, Flt, Stop3, Nat1, Nat2, Nat3, Nat4, Nat5, Nat6, Nat7, Nat8, Nat9, Nat10. -/
import Derived.Test.YtakaifogljbgoaaGreatZ43
import Derived.KernelRfl
set_option linter.all false
namespace Go.F
attribute [local irreducible] IntKind.wrap wpM
def q14 (a b c:Spot):Int:=(b.x-a.x) *(c.y-a.y)-(b.y-a.y) *(c.x-a.x)
theorem qi0 (a b c:Spot) [OkS a] [OkS b] [OkS c]:PU q5f [a.enc,b.enc,c.enc]=some (.int .i64 (q14 a b c)):=by
 refine q0g (fn:=qbE) rfl (q0a ?_)
 repeat' (first
  |refine goP 800 rfl rfl ?_
  |refine q0h rfl ?_|refine q0n rfl ?_|refine q09 rfl (fun _=>?_) (fun _=>?_)
  |refine q0d rfl ?_|refine q0j rfl ?_|refine q01 rfl (fun _=>?_) (fun _=>?_)
  |refine q0N rfl (fun _=>?_) (fun _=>?_)
  |refine q08 rfl rfl rfl trivial ?_)
 simp[q0V,q14]
theorem qi1 (a b c:Spot) [OkS a] [OkS b] [OkS c]:PU qdU [a.enc,b.enc,c.enc]=some (.int .i64 (q14 a b c)):=by
 refine q0g (fn:=qkS) rfl (q0a ?_)
 repeat' (first
  |refine goP 800 rfl rfl ?_
  |refine q0h rfl ?_|refine q0n rfl ?_|refine q09 rfl (fun _=>?_) (fun _=>?_)
  |refine q0d rfl ?_|refine q0j rfl ?_|refine q01 rfl (fun _=>?_) (fun _=>?_)
  |refine q0N rfl (fun _=>?_) (fun _=>?_)
  |refine q08 rfl rfl rfl trivial ?_)
 simp[q0V,q14]
def onS (a b p:Spot):Bool:=decide (q14 a b p=0)&&(decide (min a.x b.x≤p.x)&&(decide (p.x≤max a.x b.x)&&(decide (min a.y b.y≤p.y)&&decide (p.y≤max a.y b.y))))
theorem on_PU (a b p:Spot) [OkS a] [OkS b] [OkS p]:PU qic [a.enc,b.enc,p.enc]=some (.bool (onS a b p)):=by
 refine q0g (fn:=qhD) rfl (q0a ?_)
 repeat' (first
  |refine goP 800 rfl rfl ?_
  |refine q0h rfl ?_|refine q0n rfl ?_|refine q09 rfl (fun _=>?_) (fun _=>?_)
  |refine q0d rfl ?_|refine q0j rfl ?_|refine q01 rfl (fun _=>?_) (fun _=>?_)
  |refine q0N rfl (fun _=>?_) (fun _=>?_)
  |refine q08 rfl rfl rfl trivial ?_
  |refine q02 rfl rfl (qi0 _ _ _) ?_)
 all_goals ((try simp only[q1J,q27,q2e,q40,decide_eq_true_eq,decide_eq_false_iff_not,Bool.not_eq_true,Bool.not_eq_false,Int.not_lt,Int.not_le]at*);first|(simp_all[onS];done) |(simp_all[onS];omega) |(rw[D.bool.injEq,Bool.eq_iff_iff];simp[onS];omega) |(rw[D.bool.injEq,Bool.eq_iff_iff];simp_all[onS];omega) |(simp[onS];split<;>(try split)<;>omega))
theorem q8o (a b p:Spot) [OkS a] [OkS b] [OkS p]:PU qfT [a.enc,b.enc,p.enc]=some (.bool (onS a b p)):=by
 refine q0g (fn:=qfz) rfl (q0a ?_)
 repeat' (first
  |refine goP 800 rfl rfl ?_
  |refine q0h rfl ?_|refine q0n rfl ?_|refine q09 rfl (fun _=>?_) (fun _=>?_)
  |refine q0d rfl ?_|refine q0j rfl ?_|refine q01 rfl (fun _=>?_) (fun _=>?_)
  |refine q0N rfl (fun _=>?_) (fun _=>?_)
  |refine q08 rfl rfl rfl trivial ?_
  |refine q02 rfl rfl (qi1 _ _ _) ?_)
 all_goals ((try simp only[q1J,q27,q2e,q40,decide_eq_true_eq,decide_eq_false_iff_not,Bool.not_eq_true,Bool.not_eq_false,Int.not_lt,Int.not_le]at*);first|(simp_all[onS];done) |(simp_all[onS];omega) |(rw[D.bool.injEq,Bool.eq_iff_iff];simp[onS];omega) |(rw[D.bool.injEq,Bool.eq_iff_iff];simp_all[onS];omega) |(simp[onS];split<;>(try split)<;>omega))
def sgn (n:Int):Int:=if n<0 then-1 else if 0<n then 1 else 0
theorem qyQ (n:Int):Bd (sgn n) 1:=⟨by unfold sgn;split<;>(try split)<;>decide⟩
instance (n:Int):Bd (sgn n) 1:=qyQ n
theorem qED (n:Int):PU qcg [.int .i64 n]=some (.bool false):=by
 refine q0g (fn:=qbG) rfl (q0a ?_)
 repeat' (first
  |refine goP 800 rfl rfl ?_
  |refine q0h rfl ?_|refine q0n rfl ?_|refine q09 rfl (fun _=>?_) (fun _=>?_)
  |refine q0d rfl ?_|refine q0j rfl ?_|refine q01 rfl (fun _=>?_) (fun _=>?_)
  |refine q0N rfl (fun _=>?_) (fun _=>?_)
  |refine q08 rfl rfl rfl trivial ?_)
 simp[nqb]
def q3B (a b:Int):Int:=if a<b then-1 else if b<a then 1 else 0
theorem cmp0 (a:Int):q3B a 0=sgn a:=rfl
theorem qgg (a b:Int):PU q5V [.int .i64 a,.int .i64 b]=some (.int .i64 (q3B a b)):=by
 refine q0g (fn:=q8Z) rfl (q0a ?_)
 repeat' (first
  |refine goP 800 rfl rfl ?_
  |refine q0h rfl ?_|refine q0n rfl ?_|refine q09 rfl (fun _=>?_) (fun _=>?_)
  |refine q0d rfl ?_|refine q0j rfl ?_|refine q01 rfl (fun _=>?_) (fun _=>?_)
  |refine q0N rfl (fun _=>?_) (fun _=>?_)
  |refine q08 rfl rfl rfl trivial ?_
  |refine q02 rfl rfl (qED _) ?_)
 all_goals ((try simp only[q1J,q27,q2e,q40,decide_eq_true_eq,decide_eq_false_iff_not,Bool.not_eq_true,Bool.not_eq_false,Int.not_lt,Int.not_le]at*);first|(simp_all[q3B];done) |(simp_all[q3B];omega) |(rw[D.bool.injEq,Bool.eq_iff_iff];simp[q3B];omega) |(rw[D.bool.injEq,Bool.eq_iff_iff];simp_all[q3B];omega) |(simp[q3B];split<;>(try split)<;>omega))
def q2n (a b c d:Spot):Bool:=decide (sgn (q14 a b c) *sgn (q14 a b d)<0)
theorem qC3 (a b c d:Spot) [OkS a] [OkS b] [OkS c] [OkS d]:PU qaC [a.enc,b.enc,c.enc,d.enc]=some (.bool (q2n a b c d)):=by
 refine q0g (fn:=qa8) rfl (q0a ?_)
 repeat' (first
  |refine goP 800 rfl rfl ?_
  |refine q0h rfl ?_|refine q0n rfl ?_|refine q09 rfl (fun _=>?_) (fun _=>?_)
  |refine q0d rfl ?_|refine q0j rfl ?_|refine q01 rfl (fun _=>?_) (fun _=>?_)
  |refine q0N rfl (fun _=>?_) (fun _=>?_)
  |refine q08 rfl rfl rfl trivial ?_
  |refine q02 rfl rfl (qi0 _ _ _) ?_
  |refine q02 rfl rfl (qgg _ _) ?_)
 simp[cmp0,q0V,q1J,q2n]
def q2I (a b c d:Spot):Bool:=onS a b c||(onS a b d||(onS c d a||(onS c d b||(q2n a b c d&&q2n c d a b))))
theorem qGE (a b c d:Spot) [OkS a] [OkS b] [OkS c] [OkS d]:PU qoN [a.enc,b.enc,c.enc,d.enc]=some (.bool (q2I a b c d)):=by
 refine q0g (fn:=qde) rfl (q0a ?_)
 repeat' (first
  |refine goP 800 rfl rfl ?_
  |refine q0h rfl ?_|refine q0n rfl ?_|refine q09 rfl (fun _=>?_) (fun _=>?_)
  |refine q0d rfl ?_|refine q0j rfl ?_|refine q01 rfl (fun _=>?_) (fun _=>?_)
  |refine q0N rfl (fun _=>?_) (fun _=>?_)
  |refine q08 rfl rfl rfl trivial ?_
  |refine q02 rfl rfl (on_PU _ _ _) ?_
  |refine q02 rfl rfl (qC3 _ _ _ _) ?_)
 all_goals simp_all[q2I]
def q3C (a b c:Spot):Bool:=decide (q14 a b c=0)&&decide (0<(a.x-b.x) *(c.x-b.x)+(a.y-b.y) *(c.y-b.y))
theorem qC4 (a b c:Spot) [OkS a] [OkS b] [OkS c]:PU qjp [a.enc,b.enc,c.enc]=some (.bool (q3C a b c)):=by
 refine q0g (fn:=qae) rfl (q0a ?_)
 repeat' (first
  |refine goP 800 rfl rfl ?_
  |refine q0h rfl ?_|refine q0n rfl ?_|refine q09 rfl (fun _=>?_) (fun _=>?_)
  |refine q0d rfl ?_|refine q0j rfl ?_|refine q01 rfl (fun _=>?_) (fun _=>?_)
  |refine q0N rfl (fun _=>?_) (fun _=>?_)
  |refine q08 rfl rfl rfl trivial ?_
  |refine q02 rfl rfl (qi0 _ _ _) ?_)
 all_goals ((try simp only[q1J,q27,q2e,q40,decide_eq_true_eq,decide_eq_false_iff_not,Bool.not_eq_true,Bool.not_eq_false,Int.not_lt,Int.not_le]at*);first|(simp_all[q3C,q0V];done) |(simp_all[q3C,q0V];omega) |(rw[D.bool.injEq,Bool.eq_iff_iff];simp[q3C,q0V];omega) |(rw[D.bool.injEq,Bool.eq_iff_iff];simp_all[q3C,q0V];omega) |(simp[q3C,q0V];split<;>(try split)<;>omega))
theorem qw2 (n:Int):PU qoW [.int .i64 n]=some (.int .i64 (sgn n)):=by
 refine q0g (fn:=qnH) rfl (q0a ?_)
 repeat' (first
  |refine goP 800 rfl rfl ?_
  |refine q0h rfl ?_|refine q0n rfl ?_|refine q09 rfl (fun _=>?_) (fun _=>?_)
  |refine q0d rfl ?_|refine q0j rfl ?_|refine q01 rfl (fun _=>?_) (fun _=>?_)
  |refine q0N rfl (fun _=>?_) (fun _=>?_)
  |refine q08 rfl rfl rfl trivial ?_)
 all_goals ((try simp only[q1J,q27,q2e,q40,decide_eq_true_eq,decide_eq_false_iff_not,Bool.not_eq_true,Bool.not_eq_false,Int.not_lt,Int.not_le]at*);first|(simp_all[sgn];done) |(simp_all[sgn];omega) |(rw[D.bool.injEq,Bool.eq_iff_iff];simp[sgn];omega) |(rw[D.bool.injEq,Bool.eq_iff_iff];simp_all[sgn];omega) |(simp[sgn];split<;>(try split)<;>omega))
theorem qw3 (a b c d:Spot) [OkS a] [OkS b] [OkS c] [OkS d]:PU qz9 [a.enc,b.enc,c.enc,d.enc]=some (.bool (q2I a b c d)):=by
 refine q0g (fn:=qnE) rfl (q0a ?_)
 repeat' (first
  |refine goP 800 rfl rfl ?_
  |refine q0h rfl ?_|refine q0n rfl ?_|refine q09 rfl (fun _=>?_) (fun _=>?_)
  |refine q0d rfl ?_|refine q0j rfl ?_|refine q01 rfl (fun _=>?_) (fun _=>?_)
  |refine q0N rfl (fun _=>?_) (fun _=>?_)
  |refine q08 rfl rfl rfl trivial ?_
  |refine q02 rfl rfl (q8o _ _ _) ?_
  |refine q02 rfl rfl (qi1 _ _ _) ?_
  |refine q02 rfl rfl (qw2 _) ?_)
 all_goals ((try simp only[q1J,q27,q2e,q40,decide_eq_true_eq,decide_eq_false_iff_not,Bool.not_eq_true,Bool.not_eq_false,Int.not_lt,Int.not_le]at*);first|(simp_all[q2I,q2n,q0V];done) |(simp_all[q2I,q2n,q0V];omega) |(rw[D.bool.injEq,Bool.eq_iff_iff];simp[q2I,q2n,q0V];omega) |(rw[D.bool.injEq,Bool.eq_iff_iff];simp_all[q2I,q2n,q0V];omega) |(simp[q2I,q2n,q0V];split<;>(try split)<;>omega))
def q0v (s:Spot)(m:Int):Bool:=decide (-m≤s.x)&&(decide (s.x≤m)&&(decide (-m≤s.y)&&decide (s.y≤m)))
theorem qyR (s:Spot):PU q9m [s.enc]=some (.bool (!q0v s 1048576)):=by
 refine q0g (fn:=q8X) rfl (q0a ?_)
 repeat' (first
  |refine goP 800 rfl rfl ?_
  |refine q0h rfl ?_|refine q0n rfl ?_|refine q09 rfl (fun _=>?_) (fun _=>?_)
  |refine q0d rfl ?_|refine q0j rfl ?_|refine q01 rfl (fun _=>?_) (fun _=>?_)
  |refine q0N rfl (fun _=>?_) (fun _=>?_)
  |refine q08 rfl rfl rfl trivial ?_)
 all_goals ((try simp only[q1J,q27,q2e,q40,decide_eq_true_eq,decide_eq_false_iff_not,Bool.not_eq_true,Bool.not_eq_false,Int.not_lt,Int.not_le]at*);first|(simp_all[q0v];done) |(simp_all[q0v];omega) |(rw[D.bool.injEq,Bool.eq_iff_iff];simp[q0v];omega) |(rw[D.bool.injEq,Bool.eq_iff_iff];simp_all[q0v];omega) |(simp[q0v];split<;>(try split)<;>omega))
theorem qeW (s:Spot):PU q8r [s.enc]=some (.bool (!q0v s 1048576)):=by
 refine q0g (fn:=q83) rfl (q0a ?_)
 repeat' (first
  |refine goP 800 rfl rfl ?_
  |refine q0h rfl ?_|refine q0n rfl ?_|refine q09 rfl (fun _=>?_) (fun _=>?_)
  |refine q0d rfl ?_|refine q0j rfl ?_|refine q01 rfl (fun _=>?_) (fun _=>?_)
  |refine q0N rfl (fun _=>?_) (fun _=>?_)
  |refine q08 rfl rfl rfl trivial ?_)
 all_goals ((try simp only[q1J,q27,q2e,q40,decide_eq_true_eq,decide_eq_false_iff_not,Bool.not_eq_true,Bool.not_eq_false,Int.not_lt,Int.not_le]at*);first|(simp_all[q0v];done) |(simp_all[q0v];omega) |(rw[D.bool.injEq,Bool.eq_iff_iff];simp[q0v];omega) |(rw[D.bool.injEq,Bool.eq_iff_iff];simp_all[q0v];omega) |(simp[q0v];split<;>(try split)<;>omega))
end Go.F

namespace Go.F
attribute [local irreducible] IntKind.wrap wpM
def qdO {α:Type}(g:α→Bool)(p:List α):Int:=match p.findIdx? g with|some i=>i|none=> -1
theorem qgh {α:Type}{g:α→Bool}{p:List α}{k:Nat}(hk:k<p.length)(hno:∀j (hj:j<p.length),j<k→g p[j]=false)(hg:g p[k]=true):qdO g p=k:=by
 have:p.findIdx? g=some k:=by
  rw[List.findIdx?_eq_some_iff_getElem]
  exact⟨hk,hg,fun j hj=>by simp[hno j (by omega) hj]⟩
 simp[qdO,this]
theorem qgi {α:Type}{g:α→Bool}{p:List α}(hno:∀j (hj:j<p.length),g p[j]=false):qdO g p= -1:=by
 have:p.findIdx? g=none:=by
  rw[List.findIdx?_eq_none_iff]
  intro x hx
  obtain⟨j,hj,rfl⟩:=List.mem_iff_getElem.1 hx
  exact hno j hj
 simp[qdO,this]
theorem qbc {α:Type}{g:α→Bool}{p:List α}:decide (0≤qdO g p)=p.any g:=by
 cases h:p.findIdx? g with
 |none=>
  have hn:=h
  rw[List.findIdx?_eq_none_iff]at hn
  have:p.any g=false:=by rw[List.any_eq_false];exact fun x hx=>by simp[hn x hx]
  simp[qdO,h,this]
 |some i=>
  rw[List.findIdx?_eq_some_iff_getElem]at h
  obtain⟨hi,hg,_⟩:=h
  have h2:p.findIdx? g=some i:=by rw[List.findIdx?_eq_some_iff_getElem];exact⟨hi,hg,by assumption⟩
  have:p.any g=true:=by rw[List.any_eq_true];exact⟨p[i],List.getElem_mem _,hg⟩
  simp[qdO,h2,this]
theorem qtw (fid:FuncId)(g:Spot→Bool)(hsh:q6K fid=false)(hg:∀s,PU fid [s.enc]=some (.bool (g s)))(p:List Spot)(hp:p.length<4611686018427387904):
 PU q3R [q0k p,.fn fid [] []]=some (.int .i64 (qdO g p)):=by
 refine q0g (fn:=q3N) rfl (q0a ?_)
 refine gg rfl (q0l (S:=fun k:Nat=>([q0k p,.fn fid [] [],q00 p.length,q00 k],[none,none,none,none],[0,0,0,0])) (C:=fun k=>k≤p.length∧∀j (hj:j<p.length),j<k→g p[j]=false) (m:=fun k=>p.length-k) 0 ⟨by omega,fun j hj h=>by omega⟩ (by omega) ?_ ?_)
 ·exact q03 rfl trivial (by simp[q0k,q00])
 intro k ⟨hk,hno⟩ N hN
 refine gg rfl (q01 rfl (fun h1=>?_) (fun h1=>?_))
 ·rw[q06]at h1
  have hlt:k<p.length:=by omega
  refine gg rfl (q0i k rfl rfl rfl (q1A hlt) rfl (gg rfl (qHs rfl hsh (q02 hsh rfl (hg p[k]) (gg rfl (q01 rfl (fun h2=>?_) (fun h2=>?_)))))))
  ·refine gg rfl (q04 (gg rfl (q08 rfl rfl rfl trivial ?_)))
   rw[qgh hlt hno h2]
  refine gg rfl (q04 (hN (k+1) ⟨by omega,fun j hj hjk=>?_⟩ (by omega) ?_))
  ·by_cases hjk':j<k
   ·exact hno j hj hjk'
   obtain rfl:j=k:=by omega
   exact h2
  exact q03 rfl trivial (by simp[q0k,q00,wrap64 (x:=(k:Int)+1) (by omega) (by omega)])
 rw[q07]at h1
 refine gg rfl (q04 (gg rfl (q08 rfl rfl rfl trivial ?_)))
 rw[qgi fun j hj=>hno j hj (by omega)]
theorem qcd (fid:FuncId)(g:Spot→Bool)(hsh:q6K fid=false)(hg:∀s,PU fid [s.enc]=some (.bool (g s)))(p:List Spot)(hp:p.length<4611686018427387904):
 PU q66 [q0k p,.fn fid [] []]=some (.bool (p.any g)):=by
 refine q0g (fn:=q3k) rfl (q0a ?_)
 repeat' (first
  |refine goP 800 rfl rfl ?_
  |refine q0h rfl ?_|refine q0n rfl ?_|refine q09 rfl (fun _=>?_) (fun _=>?_)
  |refine q0d rfl ?_|refine q0j rfl ?_|refine q01 rfl (fun _=>?_) (fun _=>?_)
  |refine q0N rfl (fun _=>?_) (fun _=>?_)
  |refine q08 rfl rfl rfl trivial ?_
  |refine q02 rfl rfl (qtw fid g hsh hg p hp) ?_)
 rw[q27,qbc]
theorem q1I (a b:Spot):(eqb a.x b.x&&(eqb a.y b.y&&true))=decide (a=b):=by
 cases a;cases b;simp[eqb,Bool.beq_eq_decide_eq]
theorem qEE (p:List Spot)(v:Spot)(hp:p.length<4611686018427387904):PU q52 [q0k p,v.enc]=some (.int .i64 (qdO (fun s=>decide (v=s)) p)):=by
 refine q0g (fn:=q4U) rfl (q0a ?_)
 refine gg rfl (q0l (S:=fun k:Nat=>([q0k p,.ptr 1 0 0,q00 p.length,q00 k],[none,some (.row [v.enc] 2),none,none],[0,0,0,0])) (C:=fun k=>k≤p.length∧∀j (hj:j<p.length),j<k→decide (v=p[j])=false) (m:=fun k=>p.length-k) 0 ⟨by omega,fun j hj h=>by omega⟩ (by omega) ?_ ?_)
 ·exact q03 rfl ⟨rfl,trivial⟩ (by simp[q0k,q00,Spot.enc])
 intro k ⟨hk,hno⟩ N hN
 refine gg rfl (q01 rfl (fun h1=>?_) (fun h1=>?_))
 ·rw[q06]at h1
  have hlt:k<p.length:=by omega
  refine gg rfl (q0i k rfl rfl rfl (q1A hlt) rfl (gg rfl (q01 rfl (fun h2=>?_) (fun h2=>?_))))
  ·rw[q1I]at h2
   refine gg rfl (q04 (gg rfl (q08 rfl rfl rfl trivial ?_)))
   rw[qgh hlt hno h2]
  rw[q1I]at h2
  refine gg rfl (q04 (hN (k+1) ⟨by omega,fun j hj hjk=>?_⟩ (by omega) ?_))
  ·by_cases hjk':j<k
   ·exact hno j hj hjk'
   obtain rfl:j=k:=by omega
   exact h2
  exact q03 rfl ⟨rfl,trivial⟩ (by simp[q0k,q00,Spot.enc,wrap64 (x:=(k:Int)+1) (by omega) (by omega)])
 rw[q07]at h1
 refine gg rfl (q04 (gg rfl (q08 rfl rfl rfl trivial ?_)))
 rw[qgi fun j hj=>hno j hj (by omega)]
theorem qGF {p:List Spot}{v:Spot}:p.any (fun s=>decide (v=s))=decide (v∈p):=by
 rw[Bool.eq_iff_iff];simp
theorem qw4 (p:List Spot)(v:Spot)(hp:p.length<4611686018427387904):PU q7p [q0k p,v.enc]=some (.bool (decide (v∈p))):=by
 refine q0g (fn:=q46) rfl (q0a ?_)
 repeat' (first
  |refine goP 800 rfl rfl ?_
  |refine q0h rfl ?_|refine q0n rfl ?_|refine q09 rfl (fun _=>?_) (fun _=>?_)
  |refine q0d rfl ?_|refine q0j rfl ?_|refine q01 rfl (fun _=>?_) (fun _=>?_)
  |refine q0N rfl (fun _=>?_) (fun _=>?_)
  |refine q08 rfl rfl rfl trivial ?_
  |refine q02 rfl rfl (qEE p v hp) ?_)
 rw[q27,qbc,qGF]
end Go.F

namespace Go.F
attribute [local irreducible] IntKind.wrap wpM
def pt (p:List Spot)(i:Nat):Spot:=p.getD i ⟨0,0⟩
theorem q0D {p:List Spot}{i:Nat}(h:i<p.length):pt p i=p[i]:=by simp[pt,h]
theorem q0Q {p:List Spot}{i:Nat}(h:i<p.length):(p.map Spot.enc)[i]?=some (pt p i).enc:=by simp[pt,h]
class OkP (p:List Spot):Prop where
 ok:∀s∈p,OkS s
instance qC5 {p:List Spot} [h:OkP p]{i:Nat}:OkS (pt p i):=by
 by_cases hi:i<p.length
 ·rw[q0D hi];exact h.ok _ (List.getElem_mem _)
 have:pt p i=⟨0,0⟩:=by simp[pt,List.getElem?_eq_none (Nat.le_of_not_lt hi)]
 rw[this];exact⟨by decide,by decide⟩
def q3D (p:List Spot):Prop:=
 (∀i,i<p.length→pt p i∉p.take i)∧
 ∀i,i<p.length→q3C (pt p i) (pt p ((i+1)%p.length)) (pt p ((i+2)%p.length))=false∧
  ∀k,k<p.length→i+2≤k→(k+1)%p.length≠i→q2I (pt p i) (pt p ((i+1)%p.length)) (pt p k) (pt p ((k+1)%p.length))=false
instance (p:List Spot):Decidable (q3D p):=by unfold q3D;exact inferInstance
theorem q1s {a n:Nat}:((a:Int)).tmod (n:Int)=((a%n:Nat):Int):=by
 rw[Int.tmod_eq_emod_of_nonneg (by omega)];simp
set_option maxHeartbeats 1000000 in
theorem qC6 (p:List Spot) [OkP p](h3:3≤p.length)(hp:p.length≤1000):PU qjm [q0k p]=some (.bool (decide (q3D p))):=by
 refine q0g (fn:=qa2) rfl (q0a ?_)
 refine gg rfl ?_
 have hcells:(p.map Spot.enc).all (fun d=>d.cells.length==2)=true:=q1o (f:=Spot.enc) (n:=2) (fun _=>rfl) p
 refine q0l (S:=fun k:Nat=>([q0k p,q00 p.length,q0k p,q00 p.length,q00 k],[none,none,none,none,none],[0,0,0,0,0])) (C:=fun k=>k≤p.length∧∀j,j<k→pt p j∉p.take j) (m:=fun k=>p.length-k) 0 ⟨by omega,fun j h=>by omega⟩ (by omega) ?_ ?_
 ·exact q03 rfl trivial (by simp[q0k,q00])
 intro k ⟨hk,hno⟩ N hN
 refine gg rfl (q01 rfl (fun h1=>?_) (fun h1=>?_))
 ·rw[q06]at h1
  have hlt:k<p.length:=by omega
  refine gg rfl (q0i k rfl rfl rfl (q0Q hlt) rfl (gg rfl (qcK k rfl hcells ⟨_,_,rfl,rfl⟩ (by simp;omega) ?_)))
  refine gg rfl ?_
  have hc:=qw4 (p.take k) (pt p k) (by simp;omega)
  rw[q0k,List.map_take]at hc
  refine q02 rfl rfl hc (gg rfl (q01 rfl (fun h2=>?_) (fun h2=>?_)))
  ·refine gg rfl (q04 (gg rfl (q08 rfl rfl rfl trivial ?_)))
   have:¬q3D p:=fun hs=>hs.1 k hlt (by simpa using h2)
   simp[this]
  refine gg rfl (q04 (hN (k+1) ⟨by omega,fun j hj=>?_⟩ (by omega) ?_))
  ·by_cases hjk:j<k
   ·exact hno j hjk
   obtain rfl:j=k:=by omega
   simpa using h2
  exact q03 rfl trivial (by simp[q0k,q00,wrap64 (x:=(k:Int)+1) (by omega) (by omega)])
 rw[q07]at h1
 have hdup:∀j,j<p.length→pt p j∉p.take j:=fun j hj=>hno j (by omega)
 clear hN
 refine gg rfl (q04 (gg rfl ?_))
 refine q0l (S:=fun k:Nat=>([q0k p,q00 p.length,q0k p,q00 p.length,q00 k],[none,none,none,none,none],[0,0,0,0,0]))
  (C:=fun i=>i≤p.length∧∀j,j<i→q3C (pt p j) (pt p ((j+1)%p.length)) (pt p ((j+2)%p.length))=false∧∀k,k<p.length→j+2≤k→(k+1)%p.length≠j→q2I (pt p j) (pt p ((j+1)%p.length)) (pt p k) (pt p ((k+1)%p.length))=false)
  (m:=fun k=>p.length-k) 0 ⟨by omega,fun j h=>by omega⟩ (by omega) ?_ ?_
 ·exact q03 rfl trivial (by simp[q0k,q00])
 intro i ⟨hi,hall⟩ N hN
 refine gg rfl (q01 rfl (fun g1=>?_) (fun g1=>?_))
 ·rw[q06]at g1
  have hlt:i<p.length:=by omega
  have w1:=wS (n:=i)
  have w2:IntKind.i64.wrap ((i:Int)+2)=((i+2:Nat):Int):=ww
  refine gg rfl (q0i i rfl rfl rfl (q0Q hlt) rfl (gg rfl (q37 rfl rfl (by omega) ?_)))
  refine gg rfl (q0i ((i+1)%p.length) rfl rfl (by rw[w1,q1s]) (q0Q (Nat.mod_lt _ (by omega))) rfl ?_)
  refine gg rfl (q37 rfl rfl (by omega) ?_)
  refine gg rfl (q0i ((i+2)%p.length) rfl rfl (by rw[w2,q1s]) (q0Q (Nat.mod_lt _ (by omega))) rfl ?_)
  refine gg rfl (q02 rfl rfl (qC4 (pt p i) (pt p ((i+1)%p.length)) (pt p ((i+2)%p.length))) (gg rfl (q01 rfl (fun g2=>?_) (fun g2=>?_))))
  ·refine gg rfl (q04 (gg rfl (q08 rfl rfl rfl trivial ?_)))
   have:¬q3D p:=fun hs=>by have:=(hs.2 i hlt).1;rw[g2]at this;cases this
   simp[this]
  refine gg rfl ?_
  have fin:∀{t:q0x} {h:q0e} {z:Frz} {nx:Nat},(∀k,k<p.length→i+2≤k→(k+1)%p.length≠i→q2I (pt p i) (pt p ((i+1)%p.length)) (pt p k) (pt p ((k+1)%p.length))=false)→
   (q12 0 [(0,0),(3,0),(25,0),(26,0),(27,0)] t h z nx fun _ _ kp=>kp=([q0k p,q00 p.length,q0k p,q00 p.length,q00 ((i+1:Nat):Int)],[none,none,none,none,none],[0,0,0,0,0]))→N t h z nx:=by
   intro t h z nx hm hst
   refine hN (i+1) ⟨by omega,fun j hj=>?_⟩ (by omega) hst
   by_cases hji:j<i
   ·exact hall j hji
   obtain rfl:j=i:=by omega
   exact⟨g2,hm⟩
  clear hN
  refine q0l (S:=fun k:Nat=>([q0k p,q00 p.length,q00 i,.ptr 3 0 0,.ptr 4 0 0,q00 k,q0k p,q00 p.length,q00 i],[none,none,none,some (.row [(pt p i).enc] 2),some (.row [(pt p ((i+1)%p.length)).enc] 2),none,none,none,none],[0,0,0,0,0,0,0,0,0]))
   (C:=fun k=>i+2≤k∧k≤p.length+2∧∀k',k'<p.length→k'<k→i+2≤k'→(k'+1)%p.length≠i→q2I (pt p i) (pt p ((i+1)%p.length)) (pt p k') (pt p ((k'+1)%p.length))=false)
   (m:=fun k=>p.length+2-k) (i+2) ⟨by omega,by omega,fun k' _ h1 h2=>by omega⟩ (by omega) ?_ ?_
  ·exact q03 rfl ⟨rfl,rfl,trivial⟩ (by simp[q0k,q00,Spot.enc,w2])
  intro k ⟨hk1,hk2,hkall⟩ N2 hN2
  refine gg rfl (q09 rfl (fun e1=>?_) (fun e1=>?_))
  ·rw[q06]at e1
   have hkl:k<p.length:=by omega
   have wk:=wS (n:=k)
   refine gg rfl (q37 rfl rfl (by omega) ?_)
   refine gg rfl (q01 rfl (fun e2=>?_) (fun e2=>?_))
   ·rw[q0u,wk,q1s]at e2
    have hne:(k+1)%p.length≠i:=fun e=>e2 (by rw[e])
    refine gg rfl (q0i k rfl rfl rfl (q0Q hkl) rfl (gg rfl (q37 rfl rfl (by omega) ?_)))
    refine gg rfl (q0i ((k+1)%p.length) rfl rfl (by rw[wk,q1s]) (q0Q (Nat.mod_lt _ (by omega))) rfl ?_)
    refine gg rfl (q02 rfl rfl (qGE (pt p i) (pt p ((i+1)%p.length)) (pt p k) (pt p ((k+1)%p.length))) (gg rfl (q01 rfl (fun e3=>?_) (fun e3=>?_))))
    ·refine gg rfl (q04 (gg rfl (q04 (gg rfl (q08 rfl rfl rfl trivial ?_)))))
     have:¬q3D p:=fun hs=>by have:=(hs.2 i hlt).2 k hkl hk1 hne;rw[e3]at this;cases this
     simp[this]
    refine gg rfl (q04 (hN2 (k+1) ⟨by omega,by omega,fun k' h1 h2 h3 h4=>?_⟩ (by omega) ?_))
    ·by_cases hkk:k'<k
     ·exact hkall k' h1 hkk h3 h4
     obtain rfl:k'=k:=by omega
     exact e3
    exact q03 rfl ⟨rfl,rfl,trivial⟩ (by simp[q0k,q00,Spot.enc,wk])
   rw[q0z,wk,q1s]at e2
   have heq:(k+1)%p.length=i:=by omega
   refine gg rfl (q04 (gg rfl (q04 (fin (fun k' h1 h2 h3=>?_) ?_))))
   ·by_cases hkk:k'<k
    ·exact hkall k' h1 hkk h2 h3
    by_cases hkk2:k'=k
    ·subst hkk2;exact absurd heq h3
    exfalso
    rw[Nat.mod_eq_of_lt (by omega)]at heq
    omega
   exact q03 rfl trivial (by simp[q0k,q00,w1])
  rw[q07]at e1
  refine gg rfl (q0j rfl (gg rfl (q04 (gg rfl (q04 (fin (fun k' h1 h2 h3=>hkall k' h1 (by omega) h2 h3) ?_))))))
  exact q03 rfl trivial (by simp[q0k,q00,w1])
 rw[q07]at g1
 refine gg rfl (q04 (gg rfl (q08 rfl rfl rfl trivial ?_)))
 have:q3D p:=⟨hdup,fun j hj=>hall j (by omega)⟩
 simp[this]
end Go.F

namespace Go.F
attribute [local irreducible] IntKind.wrap wpM
theorem q1B {s:Spot}{m:Int}:q0v s m=true↔(-m≤s.x∧s.x≤m∧ -m≤s.y∧s.y≤m):=by simp[q0v]
theorem qyS {p:List Spot}(h:p.any (fun s=>!q0v s 1048576)=false):OkP p:=by
 refine⟨fun s hs=>?_⟩
 have:q0v s 1048576=true:=by
  cases hw:q0v s 1048576
  ·exact absurd (List.any_eq_true (p:=fun s=>!q0v s 1048576).2 ⟨s,hs,by simp[hw]⟩) (by simp only[h];decide)
  rfl
 rw[q1B]at this
 exact⟨by omega,by omega⟩
def q1E (p:List Spot):Int:=
 if 40<p.length then 5 else if p.length<3 then 11 else if p.any (fun s=>!q0v s 1048576)then 3 else if q3D p then 0 else 11
theorem q3q (p:List Spot):PU qmn [q0k p]=some (.int .i64 (q1E p)):=by
 refine q0g (fn:=qbO) rfl (q0a ?_)
 refine gg rfl (q01 rfl (fun h1=>?_) (fun h1=>?_))
 ·refine gg rfl (q08 rfl rfl rfl trivial ?_)
  rw[q06]at h1
  simp at h1
  rw[q1E,if_pos (by omega)]
 refine gg rfl ?_
 rw[q07]at h1
 simp at h1
 refine q01 rfl (fun h2=>?_) (fun h2=>?_)
 ·refine gg rfl (q08 rfl rfl rfl trivial ?_)
  rw[q06]at h2
  simp at h2
  rw[q1E,if_neg (by omega),if_pos (by omega)]
 refine gg rfl ?_
 rw[q07]at h2
 simp at h2
 refine q02 rfl rfl (qcd q9m _ rfl qyR p (by omega)) ?_
 refine gg rfl (q01 rfl (fun h3=>?_) (fun h3=>?_))
 ·refine gg rfl (q08 rfl rfl rfl trivial ?_)
  simp[q1E,show¬40<p.length by omega,show¬p.length<3 by omega]at h3⊢
  intro h4
  exact absurd h3 (by simpa using h4)
 refine gg rfl ?_
 have:=qyS h3
 refine q02 rfl rfl (qC6 p (by omega) (by omega)) ?_
 refine gg rfl (q01 rfl (fun h4=>?_) (fun h4=>?_))
 ·refine gg rfl (q08 rfl rfl rfl trivial ?_)
  simp at h4
  rw[q1E,if_neg (by omega),if_neg (by omega),if_neg (by simp[h3]),if_neg h4]
 refine gg rfl (q08 rfl rfl rfl trivial ?_)
 simp at h4
 rw[q1E,if_neg (by omega),if_neg (by omega),if_neg (by simp[h3]),if_pos h4]
def q2z (p:List Spot):Nat→Int
 |0=>0
 |k+1=>q2z p k+((pt p k).x*(pt p ((k+1)%p.length)).y-(pt p k).y*(pt p ((k+1)%p.length)).x)
def qaw (p:List Spot):Int:=q2z p p.length
theorem qax (p:List Spot) [OkP p](k:Nat):Bd (q2z p k) (k*35184372088832):=by
 induction k with
 |zero=>exact⟨by simp[q2z]⟩
 |succ k ih=>
  have h:Bd ((pt p k).x*(pt p ((k+1)%p.length)).y-(pt p k).y*(pt p ((k+1)%p.length)).x) _:=inferInstance
  have:=h.le
  have:=ih.le
  refine⟨?_⟩
  rw[q2z]
  omega
set_option maxHeartbeats 1000000 in
theorem qAN (p:List Spot) [OkP p](hp:p.length≤1000):PU qoA [q0k p]=some (.int .i64 (qaw p)):=by
 refine q0g (fn:=qcP) rfl (q0a ?_)
 refine gg rfl (q0l (S:=fun k:Nat=>([q0k p,q00 (q2z p k),q0k p,q00 p.length,q00 k],[none,none,none,none,none],[0,0,0,0,0])) (C:=fun k=>k≤p.length) (m:=fun k=>p.length-k) 0 (by omega) (by omega) ?_ ?_)
 ·exact q03 rfl trivial (by simp[q0k,q00,q2z])
 intro k hk N hN
 refine gg rfl (q01 rfl (fun h1=>?_) (fun h1=>?_))
 ·rw[q06]at h1
  have hlt:k<p.length:=by omega
  have w1:=wS (n:=k)
  have b0:=(qax p k).le
  have b1:=(qax p (k+1)).le
  refine gg rfl (q0i k rfl rfl rfl (q0Q hlt) rfl (gg rfl (q37 rfl rfl (by rw[List.length_map];omega) ?_)))
  refine gg rfl (q0i ((k+1)%p.length) rfl rfl (by rw[w1,List.length_map,q1s]) (q0Q (Nat.mod_lt _ (by omega))) rfl ?_)
  refine gg rfl (q04 (hN (k+1) (by omega) (by omega) ?_))
  refine q03 rfl trivial ?_
  have e1:IntKind.i64.wrap ((pt p k).x*(pt p ((k+1)%p.length)).y)=(pt p k).x*(pt p ((k+1)%p.length)).y:=q0V (by decide)
  have e2:IntKind.i64.wrap ((pt p k).y*(pt p ((k+1)%p.length)).x)=(pt p k).y*(pt p ((k+1)%p.length)).x:=q0V (by decide)
  have e3:IntKind.i64.wrap ((pt p k).x*(pt p ((k+1)%p.length)).y-(pt p k).y*(pt p ((k+1)%p.length)).x)=(pt p k).x*(pt p ((k+1)%p.length)).y-(pt p k).y*(pt p ((k+1)%p.length)).x:=q0V (by decide)
  have e4:=ww (x:=q2z p (k+1))
  rw[q2z]at e4
  simp[q0k,q00,q2z,w1,e1,e2,e3,e4]
 rw[q07]at h1
 refine gg rfl (q04 (gg rfl (q08 rfl rfl rfl trivial ?_)))
 obtain rfl:k=p.length:=by omega
 rfl
def q0Z (p:List Spot):Int:=if q1E p=0 then qaw p else 0
theorem q16 {p:List Spot}(h:q1E p=0):3≤p.length∧p.length≤40∧OkP p∧(∀s∈p,q0v s 1048576=true)∧q3D p:=by
 unfold q1E at h
 split at h
 ·cases h
 split at h
 ·cases h
 split at h
 ·cases h
 split at h
 ·rename_i h1 h2 h3 h4
  have h3':p.any (fun s=>!q0v s 1048576)=false:=by simpa using h3
  refine⟨by omega,by omega,qyS h3',?_,h4⟩
  simpa using h3
 cases h
theorem qw5 (p:List Spot):PU qcf [q0k p]=some (.int .i64 (q0Z p)):=by
 refine q0g (fn:=qbC) rfl (q0a ?_)
 refine gg rfl (q02 rfl rfl (q3q p) (gg rfl (q01 rfl (fun h=>?_) (fun h=>?_))))
 ·refine gg rfl (q08 rfl rfl rfl trivial ?_)
  rw[q0u]at h
  rw[q0Z,if_neg h]
 rw[q0z]at h
 obtain⟨_,h2,h3,_,_⟩:=q16 h
 refine gg rfl (q02 rfl rfl (qAN p (by omega)) ?_)
 refine gg rfl (q08 rfl rfl rfl trivial ?_)
 rw[q0Z,if_pos h]
end Go.F

namespace Go.F
attribute [local irreducible] IntKind.wrap wpM
def q1v (p:List Spot):Int:=
 if 40<p.length then 5 else if p.length<2 then 11 else if p.any (fun s=>!q0v s 1048576)then 3 else if∀i,i<p.length-1→pt p i≠pt p (i+1)then 0 else 11
theorem q9j (p:List Spot):PU qjo [q0k p]=some (.int .i64 (q1v p)):=by
 refine q0g (fn:=qa6) rfl (q0a ?_)
 refine gg rfl (q01 rfl (fun h1=>?_) (fun h1=>?_))
 ·refine gg rfl (q08 rfl rfl rfl trivial ?_)
  rw[q06,List.length_map]at h1
  rw[q1v,if_pos (by omega)]
 refine gg rfl ?_
 rw[q07,List.length_map]at h1
 refine q01 rfl (fun h2=>?_) (fun h2=>?_)
 ·refine gg rfl (q08 rfl rfl rfl trivial ?_)
  rw[q06,List.length_map]at h2
  rw[q1v,if_neg (by omega),if_pos (by omega)]
 refine gg rfl ?_
 rw[q07,List.length_map]at h2
 refine q02 rfl rfl (qcd q8r _ rfl qeW p (by omega)) ?_
 refine gg rfl (q01 rfl (fun h3=>?_) (fun h3=>?_))
 ·refine gg rfl (q08 rfl rfl rfl trivial ?_)
  rw[q1v,if_neg (by omega),if_neg (by omega),if_pos h3]
 refine gg rfl (q0l (S:=fun k:Nat=>([q0k p,q00 (p.length-1:Nat),q00 k],[none,none,none],[0,0,0])) (C:=fun k=>k≤p.length-1∧∀i,i<k→pt p i≠pt p (i+1)) (m:=fun k=>p.length-k) 0 ⟨by omega,fun i hi=>by omega⟩ (by omega) ?_ ?_)
 ·refine q03 rfl trivial ?_
  have:IntKind.i64.wrap ((p.length:Int)-1)=((p.length-1:Nat):Int):=by rw[wrap64 (by omega) (by omega)];omega
  simp[q0k,q00,this]
 intro k ⟨hk,hno⟩ N hN
 refine gg rfl (q01 rfl (fun g1=>?_) (fun g1=>?_))
 ·rw[q06]at g1
  have hlt:k+1<p.length:=by omega
  have w1:=wS (n:=k)
  refine gg rfl (q0i k rfl rfl rfl (q0Q (by omega)) rfl ?_)
  refine gg rfl (q0i (k+1) rfl rfl w1 (q0Q hlt) rfl (gg rfl (q01 rfl (fun g2=>?_) (fun g2=>?_))))
  ·refine gg rfl (q04 (gg rfl (q08 rfl rfl rfl trivial ?_)))
   rw[q1v,if_neg (by omega),if_neg (by omega),if_neg (by rw[h3];decide),if_neg]
   intro hall
   refine hall k (by omega) ?_
   rw[q1I]at g2
   simpa using g2
  refine gg rfl (q04 (hN (k+1) ⟨by omega,fun i hi=>?_⟩ (by omega) (q03 rfl trivial (by simp[q0k,q00,w1]))))
  by_cases hik:i<k
  ·exact hno i hik
  obtain rfl:i=k:=by omega
  rw[q1I]at g2
  simpa using g2
 rw[q07]at g1
 refine gg rfl (q04 (gg rfl (q08 rfl rfl rfl trivial ?_)))
 rw[q1v,if_neg (by omega),if_neg (by omega),if_neg (by rw[h3];decide),if_pos (fun i hi=>hno i (by omega))]
end Go.F

namespace Go.F
attribute [local irreducible] IntKind.wrap wpM
def q0m (l:List Edge):List Spot:=l.flatMap (fun e=>e.line.dropLast)
theorem qbd {l:List Edge}{k:Nat}(h:k<l.length):q0m (l.take (k+1))=q0m (l.take k)++l[k].line.dropLast:=by
 rw[List.take_succ_eq_append_getElem h,q0m,List.flatMap_append];simp[q0m]
theorem qdP {l:List Edge}(k:Nat):(q0m (l.take k)).length≤(q0m l).length:=by
 have:q0m l=q0m (l.take k)++q0m (l.drop k):=by
  rw[q0m,q0m,q0m,←List.flatMap_append,List.take_append_drop]
 rw[this,List.length_append];omega
theorem q2s {l:List D}{n:Nat}(hn:n=l.length)(h:l.all (dat 4)=true):0+n≤l.length∧((l.drop 0).take n).all (dat 4)=true:=by
 subst hn
 simpa using h
theorem q2t {l:List D}{n:Nat}(hn:n=l.length):D.lst (l.take n)=.lst l:=by
 subst hn
 simp
set_option maxHeartbeats 1000000 in
theorem qlF (l:List Edge)(h1:∀e∈l,1≤e.line.length∧e.line.length≤100000)(hl:l.length≤100000)(hv:(q0m l).length≤100000):PU qgq [edges l]=some (q0k (q0m l)):=by
 refine q0g (fn:=q7M) rfl (q0a ?_)
 refine gg rfl (q0l (S:=fun k:Nat=>([.ref 0 0 (q0m (l.take k)).length,edges l,q00 l.length,q00 k],[some (.row ((q0m (l.take k)).map Spot.enc) 2),none,none,none],[0,0,0,0])) (C:=fun k=>k≤l.length) (m:=fun k=>l.length-k) 0 (by omega) (by omega) ?_ ?_)
 ·exact q03 rfl ⟨rfl,trivial⟩ (by simp[edges,q00,q0m])
 intro k hk N hN
 refine gg rfl (q01 rfl (fun g1=>?_) (fun g1=>?_))
 ·rw[q06]at g1
  have hlt:k<l.length:=by omega
  have w1:=wS (n:=k)
  have hln:=h1 _ (List.getElem_mem hlt)
  have hcells:(l[k].line.map Spot.enc).all (fun d=>d.cells.length==2)=true:=q1o (f:=Spot.enc) (n:=2) (fun _=>rfl) _
  have hle:=qdP (l:=l) (k+1)
  rw[qbd hlt,List.length_append]at hle
  have w2:IntKind.i64.wrap ((l[k].line.length:Int)-1)=((l[k].line.length-1:Nat):Int):=by rw[wrap64 (by omega) (by omega)];omega
  refine gg rfl (q0i k rfl rfl rfl (q1A hlt) rfl (gg rfl (qcK (l[k].line.length-1) rfl hcells ⟨_,_,rfl,by rw[List.length_map];exact w2⟩ (by simp) ?_)))
  refine gg rfl ?_
  have e:(l[k].line.map Spot.enc).take (l[k].line.length-1)=l[k].line.dropLast.map Spot.enc:=by
   rw[List.dropLast_eq_take,List.map_take]
  rw[e]
  refine qAq rfl rfl rfl (q1o (f:=Spot.enc) (n:=2) (fun _=>rfl) _) (by simp) (Nat.zero_le _) (by simp[q0M]at*;omega) ?_
  refine gg rfl (q04 (hN (k+1) (by omega) (by omega) (q03 rfl ⟨by rw[←List.map_append];exact q05 q0r _,trivial⟩ ?_)))
  simp[edges,q00,w1,qbd hlt]
 rw[q07]at g1
 refine gg rfl (q04 (gg rfl ?_))
 obtain rfl:k=l.length:=by omega
 rw[List.take_length]
 refine q08 rfl rfl rfl ⟨q2s (by simp) (q0W q2r _),trivial⟩ ?_
 rw[q2t (by simp),q0k]
end Go.F

namespace Go.F
attribute [local irreducible] IntKind.wrap wpM
def q2u (s:ByteArray)(i:Nat):UInt8:=s.toList.getD i 0
theorem qot (s:ByteArray):s.toList.length=s.size:=by rw[Go.ByteArray.toList_eq];rfl
theorem q6j {s:ByteArray}{i:Nat}(h:i<s.size):s.toList[i]?=some (q2u s i):=by
 have:i<s.toList.length:=by rw[qot];exact h
 simp[q2u,this]
def q4O (n:Nat):Bool:=decide (48≤n)&&decide (n≤57)
theorem qyT (n:Nat):PU q9n [.int .u8 n]=some (.bool (q4O n)):=by
 refine q0g (fn:=q91) rfl (q0a ?_)
 repeat' (first
  |refine goP 800 rfl rfl ?_
  |refine q0h rfl ?_|refine q0n rfl ?_|refine q09 rfl (fun _=>?_) (fun _=>?_)
  |refine q0d rfl ?_|refine q0j rfl ?_|refine q01 rfl (fun _=>?_) (fun _=>?_)
  |refine q0N rfl (fun _=>?_) (fun _=>?_)
  |refine q08 rfl rfl rfl trivial ?_)
 all_goals ((try simp only[q1J,q27,q2e,q40,decide_eq_true_eq,decide_eq_false_iff_not,Bool.not_eq_true,Bool.not_eq_false,Int.not_lt,Int.not_le]at*);first|(simp_all[q4O];done) |(simp_all[q4O];omega) |(rw[D.bool.injEq,Bool.eq_iff_iff];simp[q4O];omega) |(rw[D.bool.injEq,Bool.eq_iff_iff];simp_all[q4O];omega) |(simp[q4O];split<;>(try split)<;>omega))
theorem qtx (n:Nat):PU qlK [.int .u8 n]=some (.bool (q4O n)):=by
 refine q0g (fn:=qkK) rfl (q0a ?_)
 repeat' (first
  |refine goP 800 rfl rfl ?_
  |refine q0h rfl ?_|refine q0n rfl ?_|refine q09 rfl (fun _=>?_) (fun _=>?_)
  |refine q0d rfl ?_|refine q0j rfl ?_|refine q01 rfl (fun _=>?_) (fun _=>?_)
  |refine q0N rfl (fun _=>?_) (fun _=>?_)
  |refine q08 rfl rfl rfl trivial ?_)
 all_goals ((try simp only[q1J,q27,q2e,q40,decide_eq_true_eq,decide_eq_false_iff_not,Bool.not_eq_true,Bool.not_eq_false,Int.not_lt,Int.not_le]at*);first|(simp_all[q4O];done) |(simp_all[q4O];omega) |(rw[D.bool.injEq,Bool.eq_iff_iff];simp[q4O];omega) |(rw[D.bool.injEq,Bool.eq_iff_iff];simp_all[q4O];omega) |(simp[q4O];split<;>(try split)<;>omega))
def q7i (i n:Nat):Bool:=(decide (97≤n)&&decide (n≤122)) ||(!decide (i=0)&&(decide (n=95) ||q4O n))
def q1M (s:ByteArray):Bool:=
 !decide (s.size=0)&&(!decide (24<s.size)&&(!(s.toList==[109,105,110])&&(!(s.toList==[109,97,120])&&decide (∀i,i<s.size→q7i i (q2u s i).toNat=true))))
theorem qEF:(⟨#[109,105,110]⟩:ByteArray).toList=[109,105,110]:=by rw[Go.ByteArray.toList_eq]
theorem qEG:(⟨#[109,97,120]⟩:ByteArray).toList=[109,97,120]:=by rw[Go.ByteArray.toList_eq]
theorem qty {s:ByteArray}{b:Bool}(h:(s.toList==(⟨#[109,105,110]⟩:ByteArray).toList)=b):(s.toList==[109,105,110])=b:=by rwa[qEF]at h
theorem qtz {s:ByteArray}{b:Bool}(h:(s.toList==(⟨#[109,97,120]⟩:ByteArray).toList)=b):(s.toList==[109,97,120])=b:=by rwa[qEG]at h
set_option maxHeartbeats 2000000 in
theorem qC7 (s:ByteArray):PU qaD [.str s]=some (.bool (q1M s)):=by
 refine q0g (fn:=qap) rfl (q0a ?_)
 refine gg rfl (q09 rfl (fun h0=>?_) (fun h0=>?_))
 ·repeat' (first
   |refine goP 800 rfl rfl ?_
   |refine q0h rfl ?_|refine q0n rfl ?_|refine q09 rfl (fun _=>?_) (fun _=>?_)
   |refine q0d rfl ?_|refine q0j rfl ?_|refine q01 rfl (fun _=>?_) (fun _=>?_)
   |refine q0N rfl (fun _=>?_) (fun _=>?_)
   |refine q08 rfl rfl rfl trivial ?_)
  rw[q1n]at h0
  have:s.size=0:=by omega
  simp[q1M,this]
 refine gg rfl ?_
 rw[q1Q]at h0
 refine q09 rfl (fun h1=>?_) (fun h1=>?_)
 ·repeat' (first
   |refine goP 800 rfl rfl ?_
   |refine q0h rfl ?_|refine q0n rfl ?_|refine q09 rfl (fun _=>?_) (fun _=>?_)
   |refine q0d rfl ?_|refine q0j rfl ?_|refine q01 rfl (fun _=>?_) (fun _=>?_)
   |refine q0N rfl (fun _=>?_) (fun _=>?_)
   |refine q08 rfl rfl rfl trivial ?_)
  rw[q06]at h1
  have:24<s.size:=by omega
  simp[q1M,this]
 refine gg rfl ?_
 rw[q07]at h1
 refine q09 rfl (fun h2=>?_) (fun h2=>?_)
 ·repeat' (first
   |refine goP 800 rfl rfl ?_
   |refine q0h rfl ?_|refine q0n rfl ?_|refine q09 rfl (fun _=>?_) (fun _=>?_)
   |refine q0d rfl ?_|refine q0j rfl ?_|refine q01 rfl (fun _=>?_) (fun _=>?_)
   |refine q0N rfl (fun _=>?_) (fun _=>?_)
   |refine q08 rfl rfl rfl trivial ?_)
  replace h2:=qty h2
  simp[q1M,h2]
 refine gg rfl ?_
 replace h2:=qty h2
 refine q01 rfl (fun h3=>?_) (fun h3=>?_)
 ·refine gg rfl (q08 rfl rfl rfl trivial ?_)
  replace h3:=qtz h3
  simp[q1M,h3]
 refine gg rfl ?_
 replace h3:=qtz h3
 have key:∀b,(decide (∀i,i<s.size→q7i i (q2u s i).toNat=true))=b→q1M s=b:=by
  intro b hb
  rw[q1M,hb,h2,h3]
  rw[show decide (s.size=0)=false by rw[decide_eq_false_iff_not];omega,show decide (24<s.size)=false by rw[decide_eq_false_iff_not];omega]
  simp
 refine q0l (S:=fun k:Nat=>([.str s,q00 s.size,q00 k],[none,none,none],[0,0,0])) (C:=fun k=>k≤s.size∧∀i,i<k→q7i i (q2u s i).toNat=true) (m:=fun k=>s.size-k) 0 ⟨by omega,fun i hi=>by omega⟩ (by omega) ?_ ?_
 ·exact q03 rfl trivial (by simp[q00])
 intro k ⟨hk,hall⟩ N hN
 refine gg rfl (q01 rfl (fun g1=>?_) (fun g1=>?_))
 ·rw[q06]at g1
  have hlt:k<s.size:=by omega
  have w1:=wS (n:=k)
  have yes:q7i k (q2u s k).toNat=true→∀{t:q0x} {h:q0e} {z:Frz} {nx:Nat},(q12 0 [(0,0),(23,0),(24,0)] t h z nx fun _ _ kp=>kp=([.str s,q00 s.size,q00 ((k+1:Nat):Int)],[none,none,none],[0,0,0]))→N t h z nx:=by
   intro hc t h z nx hst
   refine hN (k+1) ⟨by omega,fun i hi=>?_⟩ (by omega) hst
   by_cases hik:i<k
   ·exact hall i hik
   obtain rfl:i=k:=by omega
   exact hc
  have no:q7i k (q2u s k).toNat=false→q1M s=false:=by
   intro hc
   refine key false ?_
   simp
   exact⟨k,hlt,hc⟩
  clear hN
  refine gg rfl (q2f k rfl rfl rfl (q6j hlt) ?_)
  repeat' (first
   |refine goP 800 rfl rfl ?_
   |refine q0h rfl ?_|refine q0n rfl ?_|refine q09 rfl (fun _=>?_) (fun _=>?_)
   |refine q0d rfl ?_|refine q0j rfl ?_|refine q01 rfl (fun _=>?_) (fun _=>?_)
   |refine q0N rfl (fun _=>?_) (fun _=>?_)
   |refine q02 rfl rfl (qyT _) ?_)
  all_goals refine q04 ?_
  all_goals first
   |(refine yes ?_ (q03 rfl trivial (by simp[q00,w1]))
     simp only[q1J,q27,q2e,q40,decide_eq_true_eq,decide_eq_false_iff_not,Bool.not_eq_true,Bool.not_eq_false,Int.not_lt,Int.not_le]at*
     simp_all[q7i]
     try omega)
   |(refine gg rfl ?_
     refine q08 rfl rfl rfl trivial ?_
     rw[no]
     simp only[q1J,q27,q2e,q40,decide_eq_true_eq,decide_eq_false_iff_not,Bool.not_eq_true,Bool.not_eq_false,Int.not_lt,Int.not_le]at*
     simp_all[q7i]
     try omega)
 rw[q07]at g1
 refine gg rfl (q04 (gg rfl (q08 rfl rfl rfl trivial ?_)))
 rw[key true (by simp;exact fun i hi=>hall i (by omega))]
end Go.F

namespace Go.F
attribute [local irreducible] IntKind.wrap wpM
theorem qbe:(⟨#[]⟩:ByteArray).toList=[]:=by rw[Go.ByteArray.toList_eq]
theorem qi2 {s:ByteArray}:(s.toList==[])=decide (s.size=0):=by
 rw[←qot]
 cases s.toList<;>simp
set_option maxHeartbeats 2000000 in
theorem qdQ (s:ByteArray):PU qz2 [.str s]=some (.bool (q1M s)):=by
 refine q0g (fn:=qnO) rfl (q0a ?_)
 refine gg rfl (q09 rfl (fun h0=>?_) (fun h0=>?_))
 ·repeat' (first
   |refine goP 800 rfl rfl ?_
   |refine q0h rfl ?_|refine q0n rfl ?_|refine q09 rfl (fun _=>?_) (fun _=>?_)
   |refine q0d rfl ?_|refine q0j rfl ?_|refine q01 rfl (fun _=>?_) (fun _=>?_)
   |refine q0N rfl (fun _=>?_) (fun _=>?_)
   |refine q08 rfl rfl rfl trivial ?_)
  rw[qbe,qi2,decide_eq_true_eq]at h0
  simp[q1M,h0]
 refine gg rfl ?_
 rw[qbe,qi2,decide_eq_false_iff_not]at h0
 refine q09 rfl (fun h1=>?_) (fun h1=>?_)
 ·repeat' (first
   |refine goP 800 rfl rfl ?_
   |refine q0h rfl ?_|refine q0n rfl ?_|refine q09 rfl (fun _=>?_) (fun _=>?_)
   |refine q0d rfl ?_|refine q0j rfl ?_|refine q01 rfl (fun _=>?_) (fun _=>?_)
   |refine q0N rfl (fun _=>?_) (fun _=>?_)
   |refine q08 rfl rfl rfl trivial ?_)
  rw[q06]at h1
  have:24<s.size:=by omega
  simp[q1M,this]
 refine gg rfl ?_
 rw[q07]at h1
 refine q09 rfl (fun h2=>?_) (fun h2=>?_)
 ·repeat' (first
   |refine goP 800 rfl rfl ?_
   |refine q0h rfl ?_|refine q0n rfl ?_|refine q09 rfl (fun _=>?_) (fun _=>?_)
   |refine q0d rfl ?_|refine q0j rfl ?_|refine q01 rfl (fun _=>?_) (fun _=>?_)
   |refine q0N rfl (fun _=>?_) (fun _=>?_)
   |refine q08 rfl rfl rfl trivial ?_)
  replace h2:=qty h2
  simp[q1M,h2]
 refine gg rfl ?_
 replace h2:=qty h2
 refine q09 rfl (fun h3=>?_) (fun h3=>?_)
 ·repeat' (first
   |refine goP 800 rfl rfl ?_
   |refine q0h rfl ?_|refine q0n rfl ?_|refine q09 rfl (fun _=>?_) (fun _=>?_)
   |refine q0d rfl ?_|refine q0j rfl ?_|refine q01 rfl (fun _=>?_) (fun _=>?_)
   |refine q0N rfl (fun _=>?_) (fun _=>?_)
   |refine q08 rfl rfl rfl trivial ?_)
  replace h3:=qtz h3
  simp[q1M,h3]
 refine gg rfl ?_
 replace h3:=qtz h3
 have key:∀b,(decide (∀i,i<s.size→q7i i (q2u s i).toNat=true))=b→q1M s=b:=by
  intro b hb
  rw[q1M,hb,h2,h3]
  rw[show decide (s.size=0)=false by rw[decide_eq_false_iff_not];omega,show decide (24<s.size)=false by rw[decide_eq_false_iff_not];omega]
  simp
 have no:∀k,k<s.size→q7i k (q2u s k).toNat=false→q1M s=false:=by
  intro k hk hc
  refine key false ?_
  simp
  exact⟨k,hk,hc⟩
 have h00:0<s.size:=by omega
 refine q2f 0 rfl rfl rfl (q6j h00) (gg rfl (q09 rfl (fun h4=>?_) (fun h4=>?_)))
 ·repeat' (first
   |refine goP 800 rfl rfl ?_
   |refine q0h rfl ?_|refine q0n rfl ?_|refine q09 rfl (fun _=>?_) (fun _=>?_)
   |refine q0d rfl ?_|refine q0j rfl ?_|refine q01 rfl (fun _=>?_) (fun _=>?_)
   |refine q0N rfl (fun _=>?_) (fun _=>?_)
   |refine q08 rfl rfl rfl trivial ?_)
  rw[q06]at h4
  rw[no 0 h00 (by simp[q7i];omega)]
 refine gg rfl ?_
 rw[q07]at h4
 refine q2f 0 rfl rfl rfl (q6j h00) (gg rfl (q01 rfl (fun h5=>?_) (fun h5=>?_)))
 ·repeat' (first
   |refine goP 800 rfl rfl ?_
   |refine q0h rfl ?_|refine q0n rfl ?_|refine q09 rfl (fun _=>?_) (fun _=>?_)
   |refine q0d rfl ?_|refine q0j rfl ?_|refine q01 rfl (fun _=>?_) (fun _=>?_)
   |refine q0N rfl (fun _=>?_) (fun _=>?_)
   |refine q08 rfl rfl rfl trivial ?_)
  rw[q06]at h5
  rw[no 0 h00 (by simp[q7i];omega)]
 refine gg rfl ?_
 rw[q07]at h5
 refine q0l (S:=fun k:Nat=>([.str s,q00 k],[none,none],[0,0])) (C:=fun k=>k≤s.size∧∀i,i<k→q7i i (q2u s i).toNat=true) (m:=fun k=>s.size-k) 0 ⟨by omega,fun i hi=>by omega⟩ (by omega) ?_ ?_
 ·exact q03 rfl trivial (by simp[q00])
 intro k ⟨hk,hall⟩ N hN
 refine gg rfl (q01 rfl (fun g1=>?_) (fun g1=>?_))
 ·rw[q06]at g1
  have hlt:k<s.size:=by omega
  have w1:=wS (n:=k)
  have yes:q7i k (q2u s k).toNat=true→∀{t:q0x} {h:q0e} {z:Frz} {nx:Nat},(q12 0 [(0,0),(3,0)] t h z nx fun _ _ kp=>kp=([.str s,q00 ((k+1:Nat):Int)],[none,none],[0,0]))→N t h z nx:=by
   intro hc t h z nx hst
   refine hN (k+1) ⟨by omega,fun i hi=>?_⟩ (by omega) hst
   by_cases hik:i<k
   ·exact hall i hik
   obtain rfl:i=k:=by omega
   exact hc
  have no':=no k hlt
  have k0:k=0→97≤(q2u s k).toNat∧(q2u s k).toNat≤122:=by intro e;subst e;omega
  clear hN no key hall h4 h5 h2 h3
  refine gg rfl ?_
  repeat' (first
   |refine goP 800 rfl rfl ?_
   |refine q0h rfl ?_|refine q0n rfl ?_|refine q09 rfl (fun _=>?_) (fun _=>?_)
   |refine q0d rfl ?_|refine q0j rfl ?_|refine q01 rfl (fun _=>?_) (fun _=>?_)
   |refine q0N rfl (fun _=>?_) (fun _=>?_)
   |refine q08 rfl rfl rfl trivial ?_
   |refine q2f k rfl rfl rfl (q6j hlt) ?_
   |refine q02 rfl rfl (qtx _) ?_)
  all_goals refine q04 ?_
  all_goals generalize (q2u s k).toNat=c at*
  all_goals simp only[q1J,q27,q2e,q40,q4O,decide_eq_true_eq,decide_eq_false_iff_not,Bool.not_eq_true,Bool.not_eq_false,Int.not_lt,Int.not_le]at*
  all_goals first
   |(refine yes ?_ (q03 rfl trivial (by simp[q00,w1]))
     simp_all[q7i,q4O]
     try omega)
   |(refine gg rfl ?_
     refine q08 rfl rfl rfl trivial ?_
     rw[no']
     simp_all[q7i,q4O]
     try omega)
 rw[q07]at g1
 refine gg rfl (q04 (gg rfl (q08 rfl rfl rfl trivial ?_)))
 rw[key true (by simp;exact fun i hi=>hall i (by omega))]
theorem qtA:PU q8s [.int .i64 2]=some (.tup [.int .i64 0,.int .i64 0]):=by
 refine q0g (fn:=q7Q) rfl (q0a ?_)
 repeat' (first
  |refine goP 800 rfl rfl ?_
  |refine q0h rfl ?_|refine q0n rfl ?_|refine q09 rfl (fun _=>?_) (fun _=>?_)
  |refine q0d rfl ?_|refine q0j rfl ?_|refine q01 rfl (fun _=>?_) (fun _=>?_)
  |refine q0N rfl (fun _=>?_) (fun _=>?_)
  |refine q08 rfl rfl rfl trivial ?_)
 all_goals simp_all[eqb]
theorem qou:PU qdT [.agg [.bool false,.lst [],.lst []],.agg [.bool false,.lst [],.lst []]]=some (.int .i64 0):=qyu (n:=30) (by kernel_rfl)
def qEH (s:ByteArray):D:=.agg [.int .i64 2,.bool false,.lst [],.lst [],.str s,.lst []]
theorem qEI (s:ByteArray):PU qmv [qEH s]=some (.bool (q1M s)):=by
 refine q0g (fn:=qc8) rfl (q0a ?_)
 repeat' (first
  |refine goP 800 rfl rfl ?_
  |refine q0h rfl ?_|refine q0n rfl ?_|refine q09 rfl (fun _=>?_) (fun _=>?_)
  |refine q0d rfl ?_|refine q0j rfl ?_|refine q01 rfl (fun _=>?_) (fun _=>?_)
  |refine q0N rfl (fun _=>?_) (fun _=>?_)
  |refine q08 rfl rfl rfl trivial ?_
  |refine q02 rfl rfl (qtA) ?_
  |refine q02 rfl rfl (qC7 s) ?_
  |refine q02 rfl rfl (qou) ?_)
 all_goals simp_all[ltb,eqb]
end Go.F

namespace Go.F
attribute [local irreducible] IntKind.wrap wpM
theorem qje (s:ByteArray):PU qms [qEH s,.int .i64 1]=some (.int .i64 (if q1M s then 0 else 1)):=by
 refine q0g (fn:=qbK) rfl (q0a ?_)
 refine gg rfl (q01 rfl (fun h=>?_) (fun h=>?_))
 ·exact absurd h (by simp[ltb])
 refine gg rfl (q02 rfl rfl (qEI s) (gg rfl (q01 rfl (fun h1=>?_) (fun h1=>?_))))
 ·repeat' (first
   |refine goP 800 rfl rfl ?_
   |refine q0h rfl ?_|refine q0n rfl ?_|refine q09 rfl (fun _=>?_) (fun _=>?_)
   |refine q0d rfl ?_|refine q0j rfl ?_|refine q01 rfl (fun _=>?_) (fun _=>?_)
   |refine q0N rfl (fun _=>?_) (fun _=>?_)
   |refine q08 rfl rfl rfl trivial ?_)
  simp at h1
  simp[h1]
 refine gg rfl (q0l (S:=fun _:Unit=>([.int .i64 1,.lst [],.int .i64 0,.int .i64 0],[none,none,none,none],[0,0,0,0])) (C:=fun _=>True) (m:=fun _=>0) () trivial (by decide) ?_ ?_)
 ·exact q03 rfl trivial (by simp)
 intro _ _ N hN
 repeat' (first
  |refine goP 800 rfl rfl ?_
  |refine q0h rfl ?_|refine q0n rfl ?_|refine q09 rfl (fun _=>?_) (fun _=>?_)
  |refine q0d rfl ?_|refine q0j rfl ?_|refine q01 rfl (fun _=>?_) (fun _=>?_)
  |refine q0N rfl (fun _=>?_) (fun _=>?_)
  |refine q08 rfl rfl rfl trivial ?_)
 ·exact absurd ‹ltb _ _=true› (by simp[ltb])
 refine q04 (gg rfl (q08 rfl rfl rfl trivial ?_))
 simp at h1
 simp[h1]
theorem qay (s:ByteArray):PU qmq [qEH s]=some (.int .i64 (if q1M s then 0 else 1)):=by
 refine q0g (fn:=qc5) rfl (q0a ?_)
 refine gg rfl (q02 rfl rfl (qje s) ?_)
 repeat' (first
  |refine goP 800 rfl rfl ?_
  |refine q0h rfl ?_|refine q0n rfl ?_|refine q09 rfl (fun _=>?_) (fun _=>?_)
  |refine q0d rfl ?_|refine q0j rfl ?_|refine q01 rfl (fun _=>?_) (fun _=>?_)
  |refine q0N rfl (fun _=>?_) (fun _=>?_)
  |refine q08 rfl rfl rfl trivial ?_)
 rfl
theorem qi3 (s:ByteArray):PU qjn [.str s]=some (.bool (q1M s)):=by
 refine q0g (fn:=qa4) rfl (q0a ?_)
 refine gg rfl (q02 rfl rfl (qay s) ?_)
 repeat' (first
  |refine goP 800 rfl rfl ?_
  |refine q0h rfl ?_|refine q0n rfl ?_|refine q09 rfl (fun _=>?_) (fun _=>?_)
  |refine q0d rfl ?_|refine q0j rfl ?_|refine q01 rfl (fun _=>?_) (fun _=>?_)
  |refine q0N rfl (fun _=>?_) (fun _=>?_)
  |refine q08 rfl rfl rfl trivial ?_)
 cases q1M s<;>simp[eqb]
def q0G (f:Nat→Int):Nat→Int
 |0=>0
 |k+1=>if q0G f k=0 then f k else q0G f k
theorem q3u {f:Nat→Int}{k n:Nat}(h0:q0G f k=0)(h1:f k≠0)(h:k<n):q0G f n=f k:=by
 induction n with
 |zero=>omega
 |succ n ih=>
  rw[q0G]
  by_cases hk:k<n
  ·rw[ih hk,if_neg h1]
  obtain rfl:k=n:=by omega
  rw[if_pos h0]
theorem q2o {f:Nat→Int}{k:Nat}(h0:q0G f k=0)(h1:f k=0):q0G f (k+1)=0:=by
 rw[q0G,if_pos h0,h1]
theorem q1a {f:Nat→Int}{n k:Nat}(h0:q0G f n=0)(h:k<n):f k=0:=by
 induction n with
 |zero=>omega
 |succ n ih=>
  rw[q0G]at h0
  split at h0
  ·rename_i h2
   by_cases hk:k<n
   ·exact ih h2 hk
   obtain rfl:k=n:=by omega
   exact h0
  rename_i h2;exact absurd h0 h2
def eg (l:List Edge)(i:Nat):Edge:=l.getD i ⟨⟨#[]⟩,[]⟩
theorem q1K {l:List Edge}{i:Nat}(h:i<l.length):(l.map Edge.enc)[i]?=some (eg l i).enc:=by simp[eg,h]
theorem q41 {l:List Edge}{i:Nat}(h:i<l.length):eg l i=l[i]:=by simp[eg,h]
def qdR (l:List Edge)(i:Nat):Bool:=(List.range i).any fun j=>(eg l j).name.toList==(eg l i).name.toList
theorem qgj {l:List Edge}{i j:Nat}(hj:j<i)(h:(eg l j).name.toList==(eg l i).name.toList):qdR l i=true:=
 List.any_eq_true.2 ⟨j,List.mem_range.2 hj,h⟩
theorem qjf {l:List Edge}{i:Nat}(h:∀j,j<i→((eg l j).name.toList==(eg l i).name.toList)=false):qdR l i=false:=by
 unfold qdR
 rw[List.any_eq_false]
 intro j hj
 rw[h j (List.mem_range.1 hj)]
 decide
def q1k (l:List Edge)(i:Nat):Int:=
 if q1M (eg l i).name=false then 1 else if qdR l i then 7 else q1v (eg l i).line
def q2E (l:List Edge)(i:Nat):Int:=
 if pt (eg l i).line ((eg l i).line.length-1)=pt (eg l ((i+1)%l.length)).line 0 then 0 else 11
def q0J (l:List Edge):Int:=
 if 16<l.length then 5 else if l.length<2 then 11
 else if q0G (q1k l) l.length=0 then
  if q0G (q2E l) l.length=0 then q1E (q0m l)else q0G (q2E l) l.length
 else q0G (q1k l) l.length
theorem q2k {p:List Spot}(h:q1v p=0):2≤p.length∧p.length≤40∧(∀s∈p,q0v s 1048576=true):=by
 unfold q1v at h
 split at h
 ·cases h
 split at h
 ·cases h
 split at h
 ·cases h
 rename_i h1 h2 h3
 exact⟨by omega,by omega,by simpa using h3⟩
theorem q2P {l:List Edge}{i:Nat}(h:q1k l i=0):q1v (eg l i).line=0:=by
 unfold q1k at h
 split at h
 ·cases h
 split at h
 ·cases h
 exact h
theorem qlG {l:List Edge}{m:Nat}(h:∀e∈l,e.line.length≤m):(q0m l).length≤l.length*m:=by
 induction l with
 |nil=>simp[q0m]
 |cons e l ih=>
  have h1:=ih fun e he=>h e (List.mem_cons_of_mem _ he)
  have h2:=h e List.mem_cons_self
  have:q0m (e::l)=e.line.dropLast++q0m l:=rfl
  rw[this,List.length_append,List.length_dropLast,List.length_cons,Nat.succ_mul]
  omega
theorem qyU {l:List Edge}{e:Edge}(h:e∈l):∃i,i<l.length∧eg l i=e:=by
 obtain⟨i,hi,rfl⟩:=List.getElem_of_mem h
 exact⟨i,hi,q41 hi⟩
set_option maxHeartbeats 2000000 in
theorem q6k (l:List Edge):PU qmp [edges l]=some (.int .i64 (q0J l)):=by
 refine q0g (fn:=qbX) rfl (q0a ?_)
 refine gg rfl (q01 rfl (fun h1=>?_) (fun h1=>?_))
 ·refine gg rfl (q08 rfl rfl rfl trivial ?_)
  rw[q06,List.length_map]at h1
  rw[q0J,if_pos (by omega)]
 refine gg rfl ?_
 rw[q07,List.length_map]at h1
 refine q01 rfl (fun h2=>?_) (fun h2=>?_)
 ·refine gg rfl (q08 rfl rfl rfl trivial ?_)
  rw[q06,List.length_map]at h2
  rw[q0J,if_neg (by omega),if_pos (by omega)]
 refine gg rfl ?_
 rw[q07,List.length_map]at h2
 have hcells:(l.map Edge.enc).all (fun d=>d.cells.length==2)=true:=q1o (f:=Edge.enc) (n:=2) (fun _=>rfl) l
 refine q0l (S:=fun k:Nat=>([edges l,edges l,q00 l.length,q00 k],[none,none,none,none],[0,0,0,0])) (C:=fun k=>k≤l.length∧q0G (q1k l) k=0) (m:=fun k=>l.length-k) 0 ⟨by omega,rfl⟩ (by omega) ?_ ?_
 ·exact q03 rfl trivial (by simp[edges,q00])
 intro k ⟨hk,hall⟩ N hN
 refine gg rfl (q01 rfl (fun g1=>?_) (fun g1=>?_))
 ·rw[q06]at g1
  have hlt:k<l.length:=by omega
  have w1:=wS (n:=k)
  have yes:q1k l k=0→∀{t:q0x} {h:q0e} {z:Frz} {nx:Nat},(q12 0 [(0,0),(17,0),(18,0),(19,0)] t h z nx fun _ _ kp=>kp=([edges l,edges l,q00 l.length,q00 ((k+1:Nat):Int)],[none,none,none,none],[0,0,0,0]))→N t h z nx:=
   fun hc {t h z nx} hst=>hN (k+1) ⟨by omega,q2o hall hc⟩ (by omega) hst
  have no:q1k l k≠0→q0J l=q1k l k:=by
   intro hc
   have:=q3u hall hc hlt
   rw[q0J,if_neg (by omega),if_neg (by omega),if_neg (by rw[this];exact hc),this]
  clear hN
  refine gg rfl (q0i k rfl rfl rfl (q1K hlt) rfl (gg rfl (q02 rfl rfl (qi3 (eg l k).name) (gg rfl (q01 rfl (fun g2=>?_) (fun g2=>?_))))))
  ·refine gg rfl (q04 (gg rfl (q08 rfl rfl rfl trivial ?_)))
   have:q1k l k=1:=by rw[q1k,if_pos (by simpa using g2)]
   rw[no (by rw[this];decide),this]
  have g2':¬q1M (eg l k).name=false:=by simpa using g2
  refine gg rfl (qcK k rfl hcells ⟨_,_,rfl,rfl⟩ (by simp;omega) ?_)
  refine gg rfl ?_
  refine q0l (S:=fun j:Nat=>([edges l,.ptr 1 0 0,edges l,q00 l.length,q00 k,edges (l.take k),q00 k,q00 j],[none,some (.row [(eg l k).enc] 2),none,none,none,none,none,none],[0,0,0,0,0,0,0,0]))
   (C:=fun j=>j≤k∧∀i,i<j→((eg l i).name.toList==(eg l k).name.toList)=false) (m:=fun j=>k-j) 0 ⟨by omega,fun i hi=>by omega⟩ (by omega) ?_ ?_
  ·exact q03 rfl ⟨rfl,trivial⟩ (by simp[edges,q00,q0k,Edge.enc,List.map_take,Nat.min_eq_left (Nat.le_of_lt hlt)])
  intro j ⟨hj,hno⟩ N2 hN2
  refine gg rfl (q01 rfl (fun e1=>?_) (fun e1=>?_))
  ·rw[q06]at e1
   have hjk:j<k:=by omega
   have wj:=wS (n:=j)
   have hj2:((l.take k).map Edge.enc)[j]?=some (eg l j).enc:=by
    rw[List.map_take,List.getElem?_take,if_pos hjk];exact q1K (by omega)
   refine gg rfl (q0i j rfl rfl rfl hj2 rfl (gg rfl (q01 rfl (fun e2=>?_) (fun e2=>?_))))
   ·refine gg rfl (q04 (gg rfl (q04 (gg rfl (q08 rfl rfl rfl trivial ?_)))))
    have:q1k l k=7:=by rw[q1k,if_neg g2',if_pos (qgj hjk e2)]
    rw[no (by rw[this];decide),this]
   refine gg rfl (q04 (hN2 (j+1) ⟨by omega,fun i hi=>?_⟩ (by omega) (q03 rfl ⟨rfl,trivial⟩ (by simp[edges,q00,q0k,Edge.enc,wj]))))
   by_cases hij:i<j
   ·exact hno i hij
   obtain rfl:i=j:=by omega
   exact e2
  rw[q07]at e1
  clear hN2
  refine gg rfl (q04 (gg rfl ?_))
  have hnb:qdR l k=false:=qjf fun i hi=>hno i (by omega)
  have hee:q1k l k=q1v (eg l k).line:=by rw[q1k,if_neg g2',if_neg (by rw[hnb];decide)]
  refine q02 rfl rfl (q9j (eg l k).line) (gg rfl (q01 rfl (fun g3=>?_) (fun g3=>?_)))
  ·rw[q0u,←hee]at g3
   refine gg rfl (q04 (gg rfl (q08 rfl rfl rfl trivial ?_)))
   rw[no g3,hee]
  rw[q0z,←hee]at g3
  exact gg rfl (q04 (yes g3 (q03 rfl trivial (by simp[edges,q00,w1]))))
 rw[q07]at g1
 obtain rfl:k=l.length:=by omega
 clear hN hk g1
 have hln:∀i,i<l.length→2≤(eg l i).line.length∧(eg l i).line.length≤40∧_:=fun i hi=>q2k (q2P (q1a hall hi))
 refine gg rfl (q04 (gg rfl (q0l (S:=fun k:Nat=>([edges l,edges l,q00 l.length,q00 k],[none,none,none,none],[0,0,0,0])) (C:=fun k=>k≤l.length∧q0G (q2E l) k=0) (m:=fun k=>l.length-k) 0 ⟨by omega,rfl⟩ (by omega) ?_ ?_)))
 ·exact q03 rfl trivial (by simp[edges,q00])
 intro k ⟨hk,hjo⟩ N hN
 refine gg rfl (q01 rfl (fun g1=>?_) (fun g1=>?_))
 ·rw[q06]at g1
  have hlt:k<l.length:=by omega
  have hlt2:(k+1)%l.length<l.length:=Nat.mod_lt _ (by omega)
  have w1:=wS (n:=k)
  have a1:=hln k hlt
  have a2:=hln _ hlt2
  have w2:IntKind.i64.wrap (((eg l k).line.length:Int)-1)=(((eg l k).line.length-1:Nat):Int):=by rw[wrap64 (by omega) (by omega)];omega
  refine gg rfl (q0i k rfl rfl rfl (q1K hlt) rfl (gg rfl (q37 rfl rfl (by rw[List.length_map];omega) ?_)))
  refine gg rfl (q0i ((k+1)%l.length) rfl rfl (by rw[w1,List.length_map,q1s]) (q1K hlt2) rfl ?_)
  refine gg rfl (q0i ((eg l k).line.length-1) rfl rfl (by rw[List.length_map];exact w2) (q0Q (by omega)) rfl ?_)
  refine gg rfl (q0i 0 rfl rfl rfl (q0Q (by omega)) rfl ?_)
  refine gg rfl (q01 rfl (fun g2=>?_) (fun g2=>?_))
  ·refine gg rfl (q04 (gg rfl (q08 rfl rfl rfl trivial ?_)))
   rw[q1I]at g2
   have:q2E l k=11:=by rw[q2E,if_neg (by simpa using g2)]
   have h11:=q3u hjo (by rw[this];decide) hlt
   rw[q0J,if_neg (by omega),if_neg (by omega),if_pos hall,if_neg (by rw[h11,this];decide),h11,this]
  refine gg rfl (q04 ?_)
  rw[q1I]at g2
  have:q2E l k=0:=by rw[q2E,if_pos (by simpa using g2)]
  refine hN (k+1) ⟨by omega,q2o hjo this⟩ (by omega) (q03 rfl trivial (by simp[edges,q00,w1]))
 rw[q07]at g1
 obtain rfl:k=l.length:=by omega
 refine gg rfl (q04 (gg rfl ?_))
 have hb:∀e∈l,1≤e.line.length∧e.line.length≤40:=by
  intro e he
  obtain⟨i,hi,rfl⟩:=qyU he
  have:=hln i hi
  exact⟨by omega,by omega⟩
 have hv:=qlG (m:=40) fun e he=>(hb e he).2
 refine q02 rfl rfl (qlF l (fun e he=>⟨(hb e he).1,by have:=(hb e he).2;omega⟩) (by omega) (by omega)) ?_
 refine gg rfl (q02 rfl rfl (q3q (q0m l)) (gg rfl (q08 rfl rfl rfl trivial ?_)))
 rw[q0J,if_neg (by omega),if_neg (by omega),if_pos hall,if_pos hjo]
theorem q11 {l:List Edge}(h:q0J l=0):2≤l.length∧l.length≤16∧q0G (q1k l) l.length=0∧q0G (q2E l) l.length=0∧q1E (q0m l)=0:=by
 unfold q0J at h
 split at h
 ·cases h
 split at h
 ·cases h
 split at h
 ·split at h
  ·exact⟨by omega,by omega,‹_›,‹_›,h⟩
  exact absurd h ‹_›
 exact absurd h ‹_›
theorem q2p {l:List Edge}(h:q0J l=0):∀e∈l,2≤e.line.length∧e.line.length≤40:=by
 intro e he
 obtain⟨i,hi,rfl⟩:=qyU he
 have:=q2k (q2P (q1a (q11 h).2.2.1 hi))
 exact⟨this.1,this.2.1⟩
def q8p (l:List Edge):D:=if q0J l=0 then .tup [q0k (q0m l),.int .i64 0]else .tup [.lst [],.int .i64 (q0J l)]
theorem q5q (l:List Edge):PU qi6 [edges l]=some (q8p l):=by
 refine q0g (fn:=q99) rfl (q0a ?_)
 refine gg rfl (q02 rfl rfl (q6k l) (gg rfl (q01 rfl (fun h=>?_) (fun h=>?_))))
 ·rw[q0u]at h
  refine gg rfl (q08 rfl rfl rfl trivial ?_)
  rw[q8p,if_neg h]
 rw[q0z]at h
 have hb:=q2p h
 have:=q11 h
 have hv:=q16 this.2.2.2.2
 refine gg rfl (q02 rfl rfl (qlF l (fun e he=>⟨by have:=hb e he;omega,by have:=hb e he;omega⟩) (by omega) (by omega)) ?_)
 refine gg rfl (q08 rfl rfl rfl trivial ?_)
 rw[q8p,if_pos h,q0k]
end Go.F

namespace Go.F
structure Ntc where
 edge:Int
 at_:Int
 deriving DecidableEq
def Ntc.enc (n:Ntc):D:=.agg [.int .i64 n.edge,.int .i64 n.at_]
def qgD (l:List Ntc):D:=.lst (l.map Ntc.enc)
structure Piece where
 name:ByteArray
 edges:List Edge
 grain:Int
 notches:List Ntc
 corners:List Spot
 widths:List Int
 match_:Bool
def Piece.enc (p:Piece):D:=.agg [.str p.name,Go.F.edges p.edges,.int .i64 p.grain,qgD p.notches,q0k p.corners,ints p.widths,.bool p.match_]
def pieces (l:List Piece):D:=.lst (l.map Piece.enc)
structure Use where
 piece:Int
 count:Int
 pair:Bool
def Use.enc (u:Use):D:=.agg [.int .i64 u.piece,.int .i64 u.count,.bool u.pair]
def uses (l:List Use):D:=.lst (l.map Use.enc)
structure Sew where
 pa:Int
 ea:Int
 pb:Int
 eb:Int
 rev:Bool
 ease:Int
def Sew.enc (s:Sew):D:=.agg [.int .i64 s.pa,.int .i64 s.ea,.int .i64 s.pb,.int .i64 s.eb,.bool s.rev,.int .i64 s.ease]
def qcC (l:List Sew):D:=.lst (l.map Sew.enc)
structure Opn where
 name:ByteArray
 machine:Int
 minutes:Int
 after:List Int
 uses:List Int
def Opn.enc (o:Opn):D:=.agg [.str o.name,.int .i64 o.machine,.int .i64 o.minutes,ints o.after,ints o.uses]
def opns (l:List Opn):D:=.lst (l.map Opn.enc)
def strs (l:List ByteArray):D:=.lst (l.map .str)
structure Sty where
 name:ByteArray
 sizes:List ByteArray
 mults:List Int
 pieces:List Piece
 uses:List Use
 seams:List Sew
 ops:List Opn
def Sty.enc (s:Sty):D:=.agg [.str s.name,strs s.sizes,ints s.mults,Go.F.pieces s.pieces,Go.F.uses s.uses,qcC s.seams,opns s.ops]
def pc (l:List Piece)(i:Nat):Piece:=l.getD i ⟨⟨#[]⟩,[],0,[],[],[],false⟩
theorem q6s {l:List Piece}{i:Nat}(h:i<l.length):pc l i=l[i]:=by simp[pc,h]
theorem q4q {l:List Piece}{i:Nat}(h:i<l.length):(l.map Piece.enc)[i]?=some (pc l i).enc:=by simp[pc,h]
theorem q7e {l:List Piece}{i:Nat}(h:i<l.length):pc l i∈l:=by rw[q6s h];exact List.getElem_mem _
def nt (l:List Ntc)(i:Nat):Ntc:=l.getD i ⟨0,0⟩
theorem qv5 {l:List Ntc}{i:Nat}(h:i<l.length):nt l i=l[i]:=by simp[nt,h]
theorem qv6 {l:List Ntc}{i:Nat}(h:i<l.length):(l.map Ntc.enc)[i]?=some (nt l i).enc:=by simp[nt,h]
def us (l:List Use)(i:Nat):Use:=l.getD i ⟨0,0,false⟩
theorem qek {l:List Use}{i:Nat}(h:i<l.length):us l i=l[i]:=by simp[us,h]
theorem qq5 {l:List Use}{i:Nat}(h:i<l.length):(l.map Use.enc)[i]?=some (us l i).enc:=by simp[us,h]
def sw (l:List Sew)(i:Nat):Sew:=l.getD i ⟨0,0,0,0,false,0⟩
theorem sw_get {l:List Sew}{i:Nat}(h:i<l.length):sw l i=l[i]:=by simp[sw,h]
theorem qjN {l:List Sew}{i:Nat}(h:i<l.length):(l.map Sew.enc)[i]?=some (sw l i).enc:=by simp[sw,h]
def sz (l:List ByteArray)(i:Nat):ByteArray:=l.getD i ⟨#[]⟩
theorem qAg {l:List ByteArray}{i:Nat}(h:i<l.length):sz l i=l[i]:=by simp[sz,h]
theorem qAh {l:List ByteArray}{i:Nat}(h:i<l.length):(l.map D.str)[i]?=some (.str (sz l i)):=by simp[sz,h]
def mu (l:List Int)(i:Nat):Int:=l.getD i 0
theorem qjO {l:List Int}{i:Nat}(h:i<l.length):mu l i=l[i]:=by simp[mu,h]
theorem q7f {l:List Int}{i:Nat}(h:i<l.length):(l.map q00)[i]?=some (q00 (mu l i)):=by simp[mu,h]
end Go.F

namespace Go.F
attribute [local irreducible] IntKind.wrap wpM
def quS (n:Int):Bool:=decide (1048576<n) ||decide (n< -1048576)
theorem qzY (n:Int):PU qsq [.int .i64 n]=some (.bool (quS n)):=by
 refine q0g (fn:=qsj) rfl (q0a ?_)
 repeat' (first
  |refine goP 800 rfl rfl ?_
  |refine q0h rfl ?_|refine q0n rfl ?_|refine q09 rfl (fun _=>?_) (fun _=>?_)
  |refine q0d rfl ?_|refine q0j rfl ?_|refine q01 rfl (fun _=>?_) (fun _=>?_)
  |refine q0N rfl (fun _=>?_) (fun _=>?_)
  |refine q08 rfl rfl rfl trivial ?_)
 all_goals ((try simp only[q1J,q27,q2e,q40,decide_eq_true_eq,decide_eq_false_iff_not,Bool.not_eq_true,Bool.not_eq_false,Int.not_lt,Int.not_le]at*);first|(simp_all[quS];done) |(simp_all[quS];omega) |(rw[D.bool.injEq,Bool.eq_iff_iff];simp[quS];omega) |(rw[D.bool.injEq,Bool.eq_iff_iff];simp_all[quS];omega) |(simp[quS];split<;>(try split)<;>omega))
theorem qzZ (s:Spot):(quS s.x||quS s.y)=!q0v s 1048576:=by
 rw[Bool.eq_iff_iff]
 simp[quS,q0v]
 omega
theorem qA0 (p:List Spot)(hp:p.length<4611686018427387904):PU qCh [q0k p]=some (.bool (p.any fun s=>!q0v s 1048576)):=by
 refine q0g (fn:=qrM) rfl (q0a ?_)
 refine gg rfl (q0l (S:=fun k:Nat=>([q0k p,q00 k],[none,none],[0,0])) (C:=fun k=>k≤p.length∧∀i,i<k→(!q0v (pt p i) 1048576)=false) (m:=fun k=>p.length-k) 0 ⟨by omega,fun i hi=>by omega⟩ (by omega) ?_ ?_)
 ·exact q03 rfl trivial (by simp[q0k,q00])
 intro k ⟨hk,hall⟩ N hN
 refine gg rfl (q01 rfl (fun g1=>?_) (fun g1=>?_))
 ·rw[q06,List.length_map]at g1
  have hlt:k<p.length:=by omega
  have w1:=wS (n:=k)
  have hfar:=qzZ (pt p k)
  have yes:(!q0v (pt p k) 1048576)=true→(p.any fun s=>!q0v s 1048576)=true:=by
   intro h
   rw[List.any_eq_true]
   exact⟨pt p k,by rw[q0D hlt];exact List.getElem_mem hlt,h⟩
  refine gg rfl ?_
  repeat' (first
   |refine goP 800 rfl rfl ?_
   |refine q0h rfl ?_|refine q0n rfl ?_|refine q09 rfl (fun _=>?_) (fun _=>?_)
   |refine q0d rfl ?_|refine q0j rfl ?_|refine q01 rfl (fun _=>?_) (fun _=>?_)
   |refine q0N rfl (fun _=>?_) (fun _=>?_)
   |refine q08 rfl rfl rfl trivial ?_
   |refine q0i k rfl rfl rfl (q0Q hlt) rfl ?_
   |refine q02 rfl rfl (qzY _) ?_)
  ·refine q04 (gg rfl (q08 rfl rfl rfl trivial ?_))
   rw[yes]
   simp_all
  ·refine q04 (gg rfl (q08 rfl rfl rfl trivial ?_))
   rw[yes]
   simp_all
  refine q04 (hN (k+1) ⟨by omega,fun i hi=>?_⟩ (by omega) (q03 rfl trivial (by simp[q0k,q00,w1])))
  by_cases hik:i<k
  ·exact hall i hik
  obtain rfl:i=k:=by omega
  rw[←hfar]
  simp_all
 rw[q07,List.length_map]at g1
 refine gg rfl (q04 (gg rfl (q08 rfl rfl rfl trivial ?_)))
 congr 1
 symm
 rw[List.any_eq_false]
 intro s hs
 obtain⟨i,hi,rfl⟩:=List.getElem_of_mem hs
 rw[←q0D hi,hall i (by omega)]
 decide
theorem qiz (p:List Spot):PU qwx [q0k p]=some (.int .i64 (q1v p)):=by
 refine q0g (fn:=ql7) rfl (q0a ?_)
 refine gg rfl (q01 rfl (fun h1=>?_) (fun h1=>?_))
 ·refine gg rfl (q08 rfl rfl rfl trivial ?_)
  rw[q06,List.length_map]at h1
  rw[q1v,if_pos (by omega)]
 refine gg rfl ?_
 rw[q07,List.length_map]at h1
 refine q01 rfl (fun h2=>?_) (fun h2=>?_)
 ·refine gg rfl (q08 rfl rfl rfl trivial ?_)
  rw[q06,List.length_map]at h2
  rw[q1v,if_neg (by omega),if_pos (by omega)]
 refine gg rfl ?_
 rw[q07,List.length_map]at h2
 refine q02 rfl rfl (qA0 p (by omega)) ?_
 refine gg rfl (q01 rfl (fun h3=>?_) (fun h3=>?_))
 ·refine gg rfl (q08 rfl rfl rfl trivial ?_)
  rw[q1v,if_neg (by omega),if_neg (by omega),if_pos h3]
 refine gg rfl (q0l (S:=fun k:Nat=>([q0k p,q00 k],[none,none],[0,0])) (C:=fun k=>1≤k∧k≤p.length∧∀i,i+1<k→pt p i≠pt p (i+1)) (m:=fun k=>p.length-k) 1 ⟨by omega,by omega,fun i hi=>by omega⟩ (by omega) ?_ ?_)
 ·exact q03 rfl trivial (by simp[q0k,q00])
 intro k ⟨hk0,hk,hno⟩ N hN
 refine gg rfl (q01 rfl (fun g1=>?_) (fun g1=>?_))
 ·rw[q06,List.length_map]at g1
  have hlt:k<p.length:=by omega
  have w1:=wS (n:=k)
  have w2:IntKind.i64.wrap ((k:Int)-1)=((k-1:Nat):Int):=by rw[wrap64 (by omega) (by omega)];omega
  have hk1:k-1+1=k:=by omega
  refine gg rfl (q0i k rfl rfl rfl (q0Q hlt) rfl (gg rfl (q0i (k-1) rfl rfl w2 (q0Q (by omega)) rfl ?_)))
  refine gg rfl (q01 rfl (fun g2=>?_) (fun g2=>?_))
  ·refine gg rfl (q04 (gg rfl (q08 rfl rfl rfl trivial ?_)))
   rw[q1v,if_neg (by omega),if_neg (by omega),if_neg (by rw[h3];decide),if_neg]
   intro hall
   refine hall (k-1) (by omega) ?_
   rw[q1I]at g2
   rw[hk1]
   exact(of_decide_eq_true g2).symm
  refine gg rfl (q04 (hN (k+1) ⟨by omega,by omega,fun i hi=>?_⟩ (by omega) (q03 rfl trivial (by simp[q0k,q00,w1]))))
  by_cases hik:i+1<k
  ·exact hno i hik
  obtain rfl:i=k-1:=by omega
  rw[q1I]at g2
  rw[hk1]
  exact fun e=>of_decide_eq_false g2 e.symm
 rw[q07,List.length_map]at g1
 refine gg rfl (q04 (gg rfl (q08 rfl rfl rfl trivial ?_)))
 rw[q1v,if_neg (by omega),if_neg (by omega),if_neg (by rw[h3];decide),if_pos (fun i hi=>hno i (by omega))]
theorem qg0 (s:Spot):PU qtL [s.enc,.int .i64 1048576]=some (.bool (q0v s 1048576)):=by
 have w:IntKind.i64.wrap (0-1048576)= -1048576:=wrap64 (by decide) (by decide)
 refine q0g (fn:=qhh) rfl (q0a ?_)
 repeat' (first
  |refine goP 800 rfl rfl ?_
  |refine q0h rfl ?_|refine q0n rfl ?_|refine q09 rfl (fun _=>?_) (fun _=>?_)
  |refine q0d rfl ?_|refine q0j rfl ?_|refine q01 rfl (fun _=>?_) (fun _=>?_)
  |refine q0N rfl (fun _=>?_) (fun _=>?_)
  |refine q08 rfl rfl rfl trivial ?_)
 all_goals rw[D.bool.injEq,Bool.eq_iff_iff]
 all_goals simp only[q1J,q27,w,decide_eq_true_eq,decide_eq_false_iff_not]at*
 all_goals simp[q0v]
 all_goals omega
set_option maxHeartbeats 1000000 in
theorem quT (p:List Spot) [OkP p](hp:p.length≤1000):PU qwE [q0k p]=some (.int .i64 (qaw p)):=by
 refine q0g (fn:=qlf) rfl (q0a ?_)
 refine gg rfl (q0l (S:=fun k:Nat=>([q0k p,q00 (q2z p k),q00 k],[none,none,none],[0,0,0])) (C:=fun k=>k≤p.length) (m:=fun k=>p.length-k) 0 (by omega) (by omega) ?_ ?_)
 ·exact q03 rfl trivial (by simp[q0k,q00,q2z])
 intro k hk N hN
 refine gg rfl (q01 rfl (fun h1=>?_) (fun h1=>?_))
 ·rw[q06,List.length_map]at h1
  have hlt:k<p.length:=by omega
  have w1:=wS (n:=k)
  have b0:=(qax p k).le
  have b1:=(qax p (k+1)).le
  refine gg rfl (q0i k rfl rfl rfl (q0Q hlt) rfl (gg rfl (q37 rfl rfl (by rw[List.length_map];omega) ?_)))
  refine gg rfl (q0i ((k+1)%p.length) rfl rfl (by rw[w1,List.length_map,q1s]) (q0Q (Nat.mod_lt _ (by omega))) rfl ?_)
  refine gg rfl (q04 (hN (k+1) (by omega) (by omega) ?_))
  refine q03 rfl trivial ?_
  have e1:IntKind.i64.wrap ((pt p k).x*(pt p ((k+1)%p.length)).y)=(pt p k).x*(pt p ((k+1)%p.length)).y:=q0V (by decide)
  have e2:IntKind.i64.wrap ((pt p k).y*(pt p ((k+1)%p.length)).x)=(pt p k).y*(pt p ((k+1)%p.length)).x:=q0V (by decide)
  have hx:Bd ((pt p k).x*(pt p ((k+1)%p.length)).y) _:=inferInstance
  have hx:=hx.le
  have e3:=ww (x:=q2z p k+(pt p k).x*(pt p ((k+1)%p.length)).y)
  have e4:IntKind.i64.wrap (q2z p k+(pt p k).x*(pt p ((k+1)%p.length)).y-(pt p k).y*(pt p ((k+1)%p.length)).x)=q2z p (k+1):=by
   have:q2z p k+(pt p k).x*(pt p ((k+1)%p.length)).y-(pt p k).y*(pt p ((k+1)%p.length)).x=q2z p (k+1):=by rw[q2z];omega
   rw[this];exact wrap64 (by omega) (by omega)
  simp[q0k,q00,w1,e1,e2,e3,e4]
 rw[q07,List.length_map]at h1
 refine gg rfl (q04 (gg rfl (q08 rfl rfl rfl trivial ?_)))
 obtain rfl:k=p.length:=by omega
 rfl
end Go.F

namespace Go.F
def q2h (p:List Spot):Prop:=
 ∀i,i<p.length→(pt p i≠pt p ((i+1)%p.length)∧onS (pt p i) (pt p ((i+1)%p.length)) (pt p ((i+2)%p.length))=false∧onS (pt p ((i+1)%p.length)) (pt p ((i+2)%p.length)) (pt p i)=false)∧
  ∀k,k<p.length→i+2≤k→(k+1)%p.length≠i→q2I (pt p i) (pt p ((i+1)%p.length)) (pt p k) (pt p ((k+1)%p.length))=false
instance (p:List Spot):Decidable (q2h p):=by unfold q2h;exact inferInstance
theorem q6q (t:Int):0≤t*t:=by
 rcases Int.le_total 0 t with h|h
 ·exact Int.mul_nonneg h h
 exact Int.mul_nonneg_of_nonpos_of_nonpos h h
theorem qD7 {ux uy vx vy:Int}(hc:ux*vy=uy*vx)(hd:0<ux*vx+uy*vy):0≤ux*vx∧0≤uy*vy:=by
 have e:(ux*vx) *(uy*vy)=(ux*vy) *(ux*vy):=by
  calc (ux*vx) *(uy*vy)=(ux*vy) *(uy*vx):=by ac_rfl
   _=_:=by rw[←hc]
 have hn:=q6q (ux*vy)
 rw[←e]at hn
 constructor
 ·refine Int.not_lt.1 fun h=>?_
  have:=Int.mul_neg_of_neg_of_pos h (show 0<uy*vy by omega)
  omega
 refine Int.not_lt.1 fun h=>?_
 have:=Int.mul_neg_of_pos_of_neg (show 0<ux*vx by omega) h
 omega
theorem qaN {u v:Int}(hs:0≤u*v)(hl:v.natAbs≤u.natAbs):min u 0≤v∧v≤max u 0:=by
 rcases Int.lt_trichotomy v 0 with h|h|h
 ·have:u≤0:=by
   refine Int.not_lt.1 fun h2=>?_
   have:=Int.mul_neg_of_pos_of_neg h2 h
   omega
  omega
 ·omega
 have:0≤u:=by
  refine Int.not_lt.1 fun h2=>?_
  have:=Int.mul_neg_of_neg_of_pos h2 h
  omega
 omega
theorem qFF (a b c:Spot):q14 a b c=(a.y-b.y) *(c.x-b.x)-(a.x-b.x) *(c.y-b.y):=by
 unfold q14;grind
theorem qD8 (a b c:Spot):q14 b c a=q14 a b c:=by unfold q14;grind
theorem q6J {a b p:Spot}:onS a b p=true↔q14 a b p=0∧min a.x b.x≤p.x∧p.x≤max a.x b.x∧min a.y b.y≤p.y∧p.y≤max a.y b.y:=by simp[onS]
theorem q9q {a b c:Spot}:q3C a b c=true↔q14 a b c=0∧0<(a.x-b.x) *(c.x-b.x)+(a.y-b.y) *(c.y-b.y):=by simp[q3C]
theorem qD9 {a b c:Spot}(h:q3C a b c=true):onS a b c=true∨onS b c a=true:=by
 rw[q9q]at h
 obtain⟨h1,h2⟩:=h
 have hc:(a.x-b.x) *(c.y-b.y)=(a.y-b.y) *(c.x-b.x):=by rw[qFF]at h1;omega
 obtain⟨s1,s2⟩:=qD7 hc h2
 have hn:(a.x-b.x).natAbs*(c.y-b.y).natAbs=(a.y-b.y).natAbs*(c.x-b.x).natAbs:=by rw[←Int.natAbs_mul,←Int.natAbs_mul,hc]
 rw[q6J,q6J,qD8 a b c]
 by_cases hx:(c.x-b.x).natAbs≤(a.x-b.x).natAbs
 ·by_cases hy:(c.y-b.y).natAbs≤(a.y-b.y).natAbs
  ·left
   have:=qaN s1 hx
   have:=qaN s2 hy
   refine⟨h1,?_⟩
   omega
  by_cases hx':(a.x-b.x).natAbs≤(c.x-b.x).natAbs
  ·right
   rw[Int.mul_comm]at s1 s2
   have:=qaN s1 hx'
   have:=qaN s2 (show(a.y-b.y).natAbs≤(c.y-b.y).natAbs by omega)
   refine⟨h1,?_⟩
   omega
  have:=Nat.mul_lt_mul'' (Nat.lt_of_not_le hx') (Nat.lt_of_not_le hy)
  rw[Nat.mul_comm (c.x-b.x).natAbs]at this
  omega
 by_cases hy:(a.y-b.y).natAbs≤(c.y-b.y).natAbs
 ·right
  rw[Int.mul_comm]at s1 s2
  have:=qaN s1 (show(a.x-b.x).natAbs≤(c.x-b.x).natAbs by omega)
  have:=qaN s2 hy
  refine⟨h1,?_⟩
  omega
 have:=Nat.mul_lt_mul'' (Nat.lt_of_not_le hx) (Nat.lt_of_not_le hy)
 rw[Nat.mul_comm (c.x-b.x).natAbs]at this
 omega
theorem qxk {u v:Int}(h:min u 0≤v∧v≤max u 0):0≤u*v:=by
 rcases Int.le_total 0 u with h2|h2
 ·exact Int.mul_nonneg h2 (by omega)
 exact Int.mul_nonneg_of_nonpos_of_nonpos h2 (by omega)
theorem qsK {u v:Int}(h:min u 0≤v∧v≤max u 0)(hv:v≠0):0<u*v:=by
 rcases Int.lt_trichotomy v 0 with h2|h2|h2
 ·exact Int.mul_pos_of_neg_of_neg (by omega) h2
 ·exact absurd h2 hv
 exact Int.mul_pos (by omega) h2
theorem qH6 {a b:Spot}(h:a≠b):a.x-b.x≠0∨a.y-b.y≠0:=by
 by_cases hx:a.x=b.x
 ·by_cases hy:a.y=b.y
  ·exact absurd (by cases a;cases b;simp_all) h
  right;omega
 left;omega
theorem qsL {a b c:Spot}(hcb:c≠b)(h:onS a b c=true):q3C a b c=true:=by
 rw[q6J]at h
 rw[q9q]
 refine⟨h.1,?_⟩
 have bx:min (a.x-b.x) 0≤c.x-b.x∧c.x-b.x≤max (a.x-b.x) 0:=by omega
 have bY:min (a.y-b.y) 0≤c.y-b.y∧c.y-b.y≤max (a.y-b.y) 0:=by omega
 have p1:=qxk bx
 have p2:=qxk bY
 rcases qH6 hcb with h2|h2
 ·have:=qsK bx h2;omega
 have:=qsK bY h2;omega
theorem qzL (a b c:Spot):q3C a b c=q3C c b a:=by
 rw[Bool.eq_iff_iff,q9q,q9q]
 have:q14 c b a= -q14 a b c:=by unfold q14;grind
 rw[this,Int.mul_comm (c.x-b.x),Int.mul_comm (c.y-b.y)]
 omega
theorem qpE (a b c:Spot):onS a b c=onS b a c:=by
 rw[Bool.eq_iff_iff,q6J,q6J]
 have:q14 b a c= -q14 a b c:=by unfold q14;grind
 rw[this]
 omega
theorem on_end (a b:Spot):onS a b a=true:=by
 rw[q6J]
 refine⟨by unfold q14;grind,?_⟩
 omega
theorem qpF {p:List Spot}{i:Nat}(hi:i<p.length):pt p i∈p.take i↔∃j,j<i∧pt p j=pt p i:=by
 rw[List.mem_take_iff_getElem]
 constructor
 ·rintro⟨j,hj,e⟩
  exact⟨j,by omega,by rw[q0D (by omega)];exact e⟩
 rintro⟨j,hj,e⟩
 exact⟨j,by omega,by rw[←e,q0D (by omega)]⟩
theorem mod1 {n i:Nat}(hi:i<n):(i+1)%n=if i+1=n then 0 else i+1:=by
 split
 ·rename_i h;rw[h];simp
 exact Nat.mod_eq_of_lt (by omega)
theorem mod2 {n i:Nat}(h3:3≤n)(hi:i<n):(i+2)%n=if i+2<n then i+2 else i+2-n:=by
 split
 ·rename_i h;exact Nat.mod_eq_of_lt h
 rw[Nat.mod_eq_sub_mod (by omega),Nat.mod_eq_of_lt (by omega)]
theorem q8z {p:List Spot}(h3:3≤p.length):q3D p↔q2h p:=by
 constructor
 ·rintro⟨hd,hs⟩ i hi
  have inj:∀{j k},j<p.length→k<p.length→j≠k→pt p j≠pt p k:=by
   intro j k hj hk hne e
   rcases Nat.lt_or_gt_of_ne hne with h|h
   ·exact hd k hk ((qpF hk).2 ⟨j,h,e⟩)
   exact hd j hj ((qpF hj).2 ⟨k,h,e.symm⟩)
  have m1:=mod1 hi
  have m2:=mod2 h3 hi
  have l1:(i+1)%p.length<p.length:=Nat.mod_lt _ (by omega)
  have l2:(i+2)%p.length<p.length:=Nat.mod_lt _ (by omega)
  have n01:pt p i≠pt p ((i+1)%p.length):=inj hi l1 (by rw[m1];split<;>omega)
  have n12:pt p ((i+2)%p.length)≠pt p ((i+1)%p.length):=inj l2 l1 (by rw[m1,m2];split<;>split<;>omega)
  obtain⟨hf,hm⟩:=hs i hi
  refine⟨⟨n01,?_,?_⟩,hm⟩
  ·cases ho:onS (pt p i) (pt p ((i+1)%p.length)) (pt p ((i+2)%p.length))
   ·rfl
   rw[qsL n12 ho]at hf;cases hf
  cases ho:onS (pt p ((i+1)%p.length)) (pt p ((i+2)%p.length)) (pt p i)
  ·rfl
  rw[qpE]at ho
  rw[qzL,qsL n01 ho]at hf;cases hf
 intro hr
 refine⟨fun i hi hm=>?_,fun i hi=>⟨?_,(hr i hi).2⟩⟩
 ·obtain⟨j,hj,e⟩:=(qpF hi).1 hm
  have hjl:j<p.length:=by omega
  have m1:=mod1 hjl
  have m1':=mod1 hi
  by_cases h1:j+1=i
  ·have:=(hr j hjl).1.1
   rw[m1,if_neg (by omega),h1]at this
   exact this e
  by_cases h2:(i+1)%p.length=j
  ·have:=(hr i hi).1.1
   rw[h2]at this
   exact this e.symm
  have:=(hr j hjl).2 i hi (by omega) h2
  have ho:=on_end (pt p j) (pt p ((j+1)%p.length))
  rw[←e]at this
  simp[q2I,ho]at this
 cases hf:q3C (pt p i) (pt p ((i+1)%p.length)) (pt p ((i+2)%p.length))
 ·rfl
 have:=(hr i hi).1
 rcases qD9 hf with h|h
 ·rw[h]at this;cases this.2.1
 rw[h]at this;cases this.2.2
end Go.F

namespace Go.F
attribute [local irreducible] IntKind.wrap wpM
set_option maxHeartbeats 2000000 in
theorem qrm (p:List Spot) [OkP p](h3:3≤p.length)(hp:p.length≤1000):PU qtR [q0k p]=some (.bool (decide (q2h p))):=by
 refine q0g (fn:=qhz) rfl (q0a ?_)
 refine gg rfl ?_
 rw[List.length_map]
 refine q0l (S:=fun k:Nat=>([q0k p,q00 p.length,q00 k],[none,none,none],[0,0,0]))
  (C:=fun i=>i≤p.length∧∀j,j<i→(pt p j≠pt p ((j+1)%p.length)∧onS (pt p j) (pt p ((j+1)%p.length)) (pt p ((j+2)%p.length))=false∧onS (pt p ((j+1)%p.length)) (pt p ((j+2)%p.length)) (pt p j)=false)∧
    ∀k,k<p.length→j+2≤k→(k+1)%p.length≠j→q2I (pt p j) (pt p ((j+1)%p.length)) (pt p k) (pt p ((k+1)%p.length))=false)
  (m:=fun k=>p.length-k) 0 ⟨by omega,fun j h=>by omega⟩ (by omega) ?_ ?_
 ·exact q03 rfl trivial (by simp[q0k,q00])
 intro i ⟨hi,hall⟩ N hN
 refine gg rfl (q01 rfl (fun g1=>?_) (fun g1=>?_))
 ·rw[q06]at g1
  have hlt:i<p.length:=by omega
  have w1:=wS (n:=i)
  have w2:IntKind.i64.wrap ((i:Int)+2)=((i+2:Nat):Int):=ww
  refine gg rfl (q0i i rfl rfl rfl (q0Q hlt) rfl (gg rfl (q37 rfl rfl (by omega) ?_)))
  refine gg rfl (q0i ((i+1)%p.length) rfl rfl (by rw[w1,q1s]) (q0Q (Nat.mod_lt _ (by omega))) rfl ?_)
  refine gg rfl (q37 rfl rfl (by omega) ?_)
  refine gg rfl (q0i ((i+2)%p.length) rfl rfl (by rw[w2,q1s]) (q0Q (Nat.mod_lt _ (by omega))) rfl ?_)
  refine gg rfl (q09 rfl (fun e0=>?_) (fun e0=>?_))
  ·repeat' (first
    |refine goP 800 rfl rfl ?_
    |refine q0h rfl ?_|refine q0n rfl ?_|refine q09 rfl (fun _=>?_) (fun _=>?_)
    |refine q0d rfl ?_|refine q0j rfl ?_|refine q01 rfl (fun _=>?_) (fun _=>?_)
    |refine q0N rfl (fun _=>?_) (fun _=>?_)
    |refine q08 rfl rfl rfl trivial ?_)
   refine q04 (gg rfl (q08 rfl rfl rfl trivial ?_))
   rw[q1I]at e0
   have:¬q2h p:=fun hs=>(hs i hlt).1.1 (of_decide_eq_true e0)
   simp[this]
  rw[q1I]at e0
  refine gg rfl (q02 rfl rfl (q8o (pt p i) (pt p ((i+1)%p.length)) (pt p ((i+2)%p.length))) (gg rfl (q09 rfl (fun e1=>?_) (fun e1=>?_))))
  ·repeat' (first
    |refine goP 800 rfl rfl ?_
    |refine q0h rfl ?_|refine q0n rfl ?_|refine q09 rfl (fun _=>?_) (fun _=>?_)
    |refine q0d rfl ?_|refine q0j rfl ?_|refine q01 rfl (fun _=>?_) (fun _=>?_)
    |refine q0N rfl (fun _=>?_) (fun _=>?_)
    |refine q08 rfl rfl rfl trivial ?_)
   refine q04 (gg rfl (q08 rfl rfl rfl trivial ?_))
   have:¬q2h p:=fun hs=>by have:=(hs i hlt).1.2.1;rw[e1]at this;cases this
   simp[this]
  refine gg rfl (q02 rfl rfl (q8o (pt p ((i+1)%p.length)) (pt p ((i+2)%p.length)) (pt p i)) (gg rfl (q01 rfl (fun e2=>?_) (fun e2=>?_))))
  ·repeat' (first
    |refine goP 800 rfl rfl ?_
    |refine q0h rfl ?_|refine q0n rfl ?_|refine q09 rfl (fun _=>?_) (fun _=>?_)
    |refine q0d rfl ?_|refine q0j rfl ?_|refine q01 rfl (fun _=>?_) (fun _=>?_)
    |refine q0N rfl (fun _=>?_) (fun _=>?_)
    |refine q08 rfl rfl rfl trivial ?_)
   refine q04 (gg rfl (q08 rfl rfl rfl trivial ?_))
   have:¬q2h p:=fun hs=>by have:=(hs i hlt).1.2.2;rw[e2]at this;cases this
   simp[this]
  refine gg rfl ?_
  have fin:∀{t:q0x} {h:q0e} {z:Frz} {nx:Nat},(∀k,k<p.length→i+2≤k→(k+1)%p.length≠i→q2I (pt p i) (pt p ((i+1)%p.length)) (pt p k) (pt p ((k+1)%p.length))=false)→
   (q12 0 [(0,0),(3,0),(4,0)] t h z nx fun _ _ kp=>kp=([q0k p,q00 p.length,q00 ((i+1:Nat):Int)],[none,none,none],[0,0,0]))→N t h z nx:=by
   intro t h z nx hm hst
   refine hN (i+1) ⟨by omega,fun j hj=>?_⟩ (by omega) hst
   by_cases hji:j<i
   ·exact hall j hji
   obtain rfl:j=i:=by omega
   exact⟨⟨of_decide_eq_false e0,e1,e2⟩,hm⟩
  clear hN
  refine q0l (S:=fun k:Nat=>([q0k p,q00 p.length,q00 i,.ptr 3 0 0,.ptr 4 0 0,q00 k],[none,none,none,some (.row [(pt p i).enc] 2),some (.row [(pt p ((i+1)%p.length)).enc] 2),none],[0,0,0,0,0,0]))
   (C:=fun k=>i+2≤k∧k≤p.length+2∧∀k',k'<p.length→k'<k→i+2≤k'→(k'+1)%p.length≠i→q2I (pt p i) (pt p ((i+1)%p.length)) (pt p k') (pt p ((k'+1)%p.length))=false)
   (m:=fun k=>p.length+2-k) (i+2) ⟨by omega,by omega,fun k' _ h1 h2=>by omega⟩ (by omega) ?_ ?_
  ·exact q03 rfl ⟨rfl,rfl,trivial⟩ (by simp[q0k,q00,Spot.enc,w2])
  intro k ⟨hk1,hk2,hkall⟩ N2 hN2
  refine gg rfl (q01 rfl (fun e3=>?_) (fun e3=>?_))
  ·rw[q06]at e3
   have hkl:k<p.length:=by omega
   have wk:=wS (n:=k)
   have nxt:∀{t:q0x} {h:q0e} {z:Frz} {nx:Nat},((k+1)%p.length≠i→q2I (pt p i) (pt p ((i+1)%p.length)) (pt p k) (pt p ((k+1)%p.length))=false)→
    (q12 0 [(0,0),(3,0),(4,0),(5,0),(6,0),(8,0)] t h z nx fun _ _ kp=>kp=([q0k p,q00 p.length,q00 i,.ptr 3 0 0,.ptr 4 0 0,q00 ((k+1:Nat):Int)],[none,none,none,some (.row [(pt p i).enc] 2),some (.row [(pt p ((i+1)%p.length)).enc] 2),none],[0,0,0,0,0,0]))→N2 t h z nx:=by
    intro t h z nx hm hst
    refine hN2 (k+1) ⟨by omega,by omega,fun k' q1 q2 q3 q4=>?_⟩ (by omega) hst
    by_cases hkk:k'<k
    ·exact hkall k' q1 hkk q3 q4
    obtain rfl:k'=k:=by omega
    exact hm q4
   clear hN2
   refine gg rfl (q37 rfl rfl (by omega) ?_)
   refine gg rfl (q09 rfl (fun e4=>?_) (fun e4=>?_))
   ·rw[q0u,wk,q1s]at e4
    have hne:(k+1)%p.length≠i:=fun e=>e4 (by rw[e])
    refine gg rfl (q0i k rfl rfl rfl (q0Q hkl) rfl (gg rfl (q37 rfl rfl (by omega) ?_)))
    refine gg rfl (q0i ((k+1)%p.length) rfl rfl (by rw[wk,q1s]) (q0Q (Nat.mod_lt _ (by omega))) rfl ?_)
    refine gg rfl (q02 rfl rfl (qw3 (pt p i) (pt p ((i+1)%p.length)) (pt p k) (pt p ((k+1)%p.length))) (gg rfl (q01 rfl (fun e5=>?_) (fun e5=>?_))))
    ·refine gg rfl (q04 (gg rfl (q04 (gg rfl (q08 rfl rfl rfl trivial ?_)))))
     have:¬q2h p:=fun hs=>by have:=(hs i hlt).2 k hkl hk1 hne;rw[e5]at this;cases this
     simp[this]
    exact gg rfl (q04 (nxt (fun _=>e5) (q03 rfl ⟨rfl,rfl,trivial⟩ (by simp[q0k,q00,Spot.enc,wk]))))
   rw[q0z,wk,q1s]at e4
   have hne:(k+1)%p.length=i:=by omega
   repeat' (first
    |refine goP 800 rfl rfl ?_
    |refine q0h rfl ?_|refine q0n rfl ?_|refine q09 rfl (fun _=>?_) (fun _=>?_)
    |refine q0d rfl ?_|refine q0j rfl ?_|refine q01 rfl (fun _=>?_) (fun _=>?_)
    |refine q0N rfl (fun _=>?_) (fun _=>?_)
    |refine q08 rfl rfl rfl trivial ?_)
   exact q04 (nxt (fun h=>absurd hne h) (q03 rfl ⟨rfl,rfl,trivial⟩ (by simp[q0k,q00,Spot.enc,wk])))
  rw[q07]at e3
  exact gg rfl (q04 (gg rfl (q04 (fin (fun k' q1 q2 q3=>hkall k' q1 (by omega) q2 q3) (q03 rfl trivial (by simp[q0k,q00,w1]))))))
 rw[q07]at g1
 refine gg rfl (q04 (gg rfl (q08 rfl rfl rfl trivial ?_)))
 have:q2h p:=fun i h=>hall i (by omega)
 simp[this]
theorem qbv (p:List Spot):PU qwl [q0k p]=some (.int .i64 (q1E p)):=by
 refine q0g (fn:=qkA) rfl (q0a ?_)
 refine gg rfl (q01 rfl (fun h1=>?_) (fun h1=>?_))
 ·refine gg rfl (q08 rfl rfl rfl trivial ?_)
  rw[q06,List.length_map]at h1
  rw[q1E,if_pos (by omega)]
 refine gg rfl ?_
 rw[q07,List.length_map]at h1
 refine q01 rfl (fun h2=>?_) (fun h2=>?_)
 ·refine gg rfl (q08 rfl rfl rfl trivial ?_)
  rw[q06,List.length_map]at h2
  rw[q1E,if_neg (by omega),if_pos (by omega)]
 refine gg rfl ?_
 rw[q07,List.length_map]at h2
 refine q0l (S:=fun k:Nat=>([q0k p,q00 k],[none,none],[0,0])) (C:=fun k=>k≤p.length∧∀i,i<k→(!q0v (pt p i) 1048576)=false) (m:=fun k=>p.length-k) 0 ⟨by omega,fun i hi=>by omega⟩ (by omega) ?_ ?_
 ·exact q03 rfl trivial (by simp[q0k,q00])
 intro k ⟨hk,hall⟩ N hN
 refine gg rfl (q01 rfl (fun g1=>?_) (fun g1=>?_))
 ·rw[q06,List.length_map]at g1
  have hlt:k<p.length:=by omega
  have w1:=wS (n:=k)
  refine gg rfl (q0i k rfl rfl rfl (q0Q hlt) rfl (gg rfl (q02 rfl rfl (qg0 (pt p k)) (gg rfl (q01 rfl (fun g2=>?_) (fun g2=>?_))))))
  ·refine gg rfl (q04 (gg rfl (q08 rfl rfl rfl trivial ?_)))
   have:(p.any fun s=>!q0v s 1048576)=true:=List.any_eq_true.2 ⟨pt p k,by rw[q0D hlt];exact List.getElem_mem hlt,g2⟩
   rw[q1E,if_neg (by omega),if_neg (by omega),if_pos this]
  refine gg rfl (q04 (hN (k+1) ⟨by omega,fun i hi=>?_⟩ (by omega) (q03 rfl trivial (by simp[q0k,q00,w1]))))
  by_cases hik:i<k
  ·exact hall i hik
  obtain rfl:i=k:=by omega
  exact g2
 rw[q07,List.length_map]at g1
 have hany:(p.any fun s=>!q0v s 1048576)=false:=by
  rw[List.any_eq_false]
  intro s hs
  obtain⟨i,hi,rfl⟩:=List.getElem_of_mem hs
  rw[←q0D hi,hall i (by omega)]
  decide
 have:=qyS hany
 refine gg rfl (q04 (gg rfl (q02 rfl rfl (qrm p (by omega) (by omega)) ?_)))
 refine gg rfl ?_
 have hsi:=q8z (p:=p) (by omega)
 refine q01 rfl (fun h4=>?_) (fun h4=>?_)
 ·refine gg rfl (q08 rfl rfl rfl trivial ?_)
  have h4':¬q2h p:=by simpa using h4
  rw[q1E,if_neg (by omega),if_neg (by omega),if_neg (by rw[hany];decide),if_neg (by rw[hsi];exact h4')]
 refine gg rfl (q08 rfl rfl rfl trivial ?_)
 have h4':q2h p:=by simpa using h4
 rw[q1E,if_neg (by omega),if_neg (by omega),if_neg (by rw[hany];decide),if_pos (hsi.2 h4')]
theorem qiA (p:List Spot):PU qlJ [q0k p]=some (.int .i64 (q0Z p)):=by
 refine q0g (fn:=qkI) rfl (q0a ?_)
 refine gg rfl (q02 rfl rfl (qbv p) (gg rfl (q01 rfl (fun h=>?_) (fun h=>?_))))
 ·refine gg rfl (q08 rfl rfl rfl trivial ?_)
  rw[q0u]at h
  rw[q0Z,if_neg h]
 rw[q0z]at h
 obtain⟨_,h2,h3,_,_⟩:=q16 h
 refine gg rfl (q02 rfl rfl (quT p (by omega)) ?_)
 refine gg rfl (q08 rfl rfl rfl trivial ?_)
 rw[q0Z,if_pos h]
end Go.F

namespace Go.F
attribute [local irreducible] IntKind.wrap wpM
theorem quU (l:List Edge)(k:Nat)(hk:k<l.length)(hl:l.length<4611686018427387904):PU qww [edges l,.int .i64 k,.str (eg l k).name]=some (.bool (qdR l k)):=by
 refine q0g (fn:=qls) rfl (q0a ?_)
 refine gg rfl (q0l (S:=fun j:Nat=>([edges l,q00 k,.str (eg l k).name,q00 j],[none,none,none,none],[0,0,0,0])) (C:=fun j=>j≤k∧∀i,i<j→((eg l i).name.toList==(eg l k).name.toList)=false) (m:=fun j=>k-j) 0 ⟨by omega,fun i hi=>by omega⟩ (by omega) ?_ ?_)
 ·exact q03 rfl trivial (by simp[edges,q00])
 intro j ⟨hj,hno⟩ N hN
 refine gg rfl (q01 rfl (fun e1=>?_) (fun e1=>?_))
 ·rw[q06]at e1
  have hjk:j<k:=by omega
  have wj:=wS (n:=j)
  refine gg rfl (q0i j rfl rfl rfl (q1K (by omega)) rfl ?_)
  refine gg rfl (q01 rfl (fun e2=>?_) (fun e2=>?_))
  ·refine gg rfl (q04 (gg rfl (q08 rfl rfl rfl trivial ?_)))
   rw[qgj hjk e2]
  refine gg rfl (q04 (hN (j+1) ⟨by omega,fun i hi=>?_⟩ (by omega) (q03 rfl trivial (by simp[edges,q00,wj]))))
  by_cases hij:i<j
  ·exact hno i hij
  obtain rfl:i=j:=by omega
  exact e2
 rw[q07]at e1
 refine gg rfl (q04 (gg rfl (q08 rfl rfl rfl trivial ?_)))
 rw[qjf fun i hi=>hno i (by omega)]
theorem q3y {l:List Edge}{k:Nat}(h:k<l.length):q0m (l.take (k+1))=q0m (l.take k)++(eg l k).line.dropLast:=by
 rw[qbd h,q41 h]
set_option maxHeartbeats 1000000 in
theorem qcn (l:List Edge)(h1:∀e∈l,e.line.length≤100000)(hl:l.length≤100000)(hv:(q0m l).length≤100000):PU qoP [edges l]=some (q0k (q0m l)):=by
 refine q0g (fn:=qdk) rfl (q0a ?_)
 refine gg rfl (q0l (S:=fun k:Nat=>([edges l,.ref 1 0 (q0m (l.take k)).length,q00 k],[none,some (.row ((q0m (l.take k)).map Spot.enc) 2),none],[0,0,0])) (C:=fun k=>k≤l.length) (m:=fun k=>l.length-k) 0 (by omega) (by omega) ?_ ?_)
 ·exact q03 rfl ⟨rfl,trivial⟩ (by simp[edges,q00,q0m])
 intro k hk N hN
 refine gg rfl (q01 rfl (fun g1=>?_) (fun g1=>?_))
 ·rw[q06,List.length_map]at g1
  have hlt:k<l.length:=by omega
  have w1:=wS (n:=k)
  have hln:(eg l k).line.length≤100000:=by rw[q41 hlt];exact h1 _ (List.getElem_mem hlt)
  have hcells:((eg l k).line.map Spot.enc).all (fun d=>d.cells.length==2)=true:=q1o (f:=Spot.enc) (n:=2) (fun _=>rfl) _
  have hle:=qdP (l:=l) (k+1)
  rw[q3y hlt,List.length_append]at hle
  refine gg rfl (q0i k rfl rfl rfl (q1K hlt) rfl (gg rfl (q01 rfl (fun g2=>?_) (fun g2=>?_))))
  ·rw[q06,List.length_map]at g2
   have w2:IntKind.i64.wrap (((eg l k).line.length:Int)-1)=(((eg l k).line.length-1:Nat):Int):=by rw[wrap64 (by omega) (by omega)];omega
   refine gg rfl (q0i k rfl rfl rfl (q1K hlt) rfl (gg rfl (qcK ((eg l k).line.length-1) rfl hcells ⟨_,_,rfl,by rw[List.length_map];exact w2⟩ (by simp) ?_)))
   refine gg rfl ?_
   have e:((eg l k).line.map Spot.enc).take ((eg l k).line.length-1)=(eg l k).line.dropLast.map Spot.enc:=by
    rw[List.dropLast_eq_take,List.map_take]
   rw[e]
   refine qAq rfl rfl rfl (q1o (f:=Spot.enc) (n:=2) (fun _=>rfl) _) (by simp) (Nat.zero_le _) (by simp[q0M]at*;omega) ?_
   refine gg rfl (q04 (hN (k+1) (by omega) (by omega) (q03 rfl ⟨by rw[←List.map_append];exact q05 q0r _,trivial⟩ ?_)))
   simp[edges,q00,w1,q3y hlt]
  rw[q07,List.length_map]at g2
  have h0:(eg l k).line=[]:=List.eq_nil_of_length_eq_zero (by omega)
  refine gg rfl (q04 (hN (k+1) (by omega) (by omega) (q03 rfl ⟨q05 q0r _,trivial⟩ ?_)))
  simp[edges,q00,w1,q3y hlt,h0]
 rw[q07,List.length_map]at g1
 refine gg rfl (q04 (gg rfl ?_))
 obtain rfl:k=l.length:=by omega
 rw[List.take_length]
 refine q08 rfl rfl rfl ⟨q2s (by simp) (q0W q2r _),trivial⟩ ?_
 rw[q2t (by simp),q0k]
set_option maxHeartbeats 2000000 in
theorem q7u (l:List Edge):PU qwp [edges l]=some (.int .i64 (q0J l)):=by
 refine q0g (fn:=qkn) rfl (q0a ?_)
 refine gg rfl (q01 rfl (fun h1=>?_) (fun h1=>?_))
 ·refine gg rfl (q08 rfl rfl rfl trivial ?_)
  rw[q06,List.length_map]at h1
  rw[q0J,if_pos (by omega)]
 refine gg rfl ?_
 rw[q07,List.length_map]at h1
 refine q01 rfl (fun h2=>?_) (fun h2=>?_)
 ·refine gg rfl (q08 rfl rfl rfl trivial ?_)
  rw[q06,List.length_map]at h2
  rw[q0J,if_neg (by omega),if_pos (by omega)]
 refine gg rfl ?_
 rw[q07,List.length_map]at h2
 refine q0l (S:=fun k:Nat=>([edges l,q00 k],[none,none],[0,0])) (C:=fun k=>k≤l.length∧q0G (q1k l) k=0) (m:=fun k=>l.length-k) 0 ⟨by omega,rfl⟩ (by omega) ?_ ?_
 ·exact q03 rfl trivial (by simp[edges,q00])
 intro k ⟨hk,hall⟩ N hN
 refine gg rfl (q01 rfl (fun g1=>?_) (fun g1=>?_))
 ·rw[q06,List.length_map]at g1
  have hlt:k<l.length:=by omega
  have w1:=wS (n:=k)
  have no:q1k l k≠0→q0J l=q1k l k:=by
   intro hc
   have:=q3u hall hc hlt
   rw[q0J,if_neg (by omega),if_neg (by omega),if_neg (by rw[this];exact hc),this]
  refine gg rfl (q0i k rfl rfl rfl (q1K hlt) rfl (gg rfl (q02 rfl rfl (qdQ (eg l k).name) (gg rfl (q01 rfl (fun g2=>?_) (fun g2=>?_))))))
  ·refine gg rfl (q04 (gg rfl (q08 rfl rfl rfl trivial ?_)))
   have:q1k l k=1:=by rw[q1k,if_pos (by simpa using g2)]
   rw[no (by rw[this];decide),this]
  have g2':¬q1M (eg l k).name=false:=by simpa using g2
  refine gg rfl (q0i k rfl rfl rfl (q1K hlt) rfl (gg rfl (q02 rfl rfl (quU l k hlt (by omega)) ?_)))
  refine gg rfl (q01 rfl (fun e2=>?_) (fun e2=>?_))
  ·refine gg rfl (q04 (gg rfl (q08 rfl rfl rfl trivial ?_)))
   have:q1k l k=7:=by rw[q1k,if_neg g2',if_pos e2]
   rw[no (by rw[this];decide),this]
  refine gg rfl ?_
  have hee:q1k l k=q1v (eg l k).line:=by rw[q1k,if_neg g2',if_neg (by rw[e2];decide)]
  refine q0i k rfl rfl rfl (q1K hlt) rfl (gg rfl (q02 rfl rfl (qiz (eg l k).line) (gg rfl (q01 rfl (fun g3=>?_) (fun g3=>?_)))))
  ·rw[q0u,←hee]at g3
   refine gg rfl (q04 (gg rfl (q08 rfl rfl rfl trivial ?_)))
   rw[no g3,hee]
  rw[q0z,←hee]at g3
  exact gg rfl (q04 (hN (k+1) ⟨by omega,q2o hall g3⟩ (by omega) (q03 rfl trivial (by simp[edges,q00,w1]))))
 rw[q07,List.length_map]at g1
 obtain rfl:k=l.length:=by omega
 clear hN hk g1
 have hln:∀i,i<l.length→2≤(eg l i).line.length∧(eg l i).line.length≤40∧_:=fun i hi=>q2k (q2P (q1a hall hi))
 refine gg rfl (q04 (gg rfl (q0l (S:=fun k:Nat=>([edges l,q00 k],[none,none],[0,0])) (C:=fun k=>k≤l.length∧q0G (q2E l) k=0) (m:=fun k=>l.length-k) 0 ⟨by omega,rfl⟩ (by omega) ?_ ?_)))
 ·exact q03 rfl trivial (by simp[edges,q00])
 intro k ⟨hk,hjo⟩ N hN
 refine gg rfl (q01 rfl (fun g1=>?_) (fun g1=>?_))
 ·rw[q06,List.length_map]at g1
  have hlt:k<l.length:=by omega
  have hlt2:(k+1)%l.length<l.length:=Nat.mod_lt _ (by omega)
  have w1:=wS (n:=k)
  have a1:=hln k hlt
  have a2:=hln _ hlt2
  have w2:IntKind.i64.wrap (((eg l k).line.length:Int)-1)=(((eg l k).line.length-1:Nat):Int):=by rw[wrap64 (by omega) (by omega)];omega
  refine gg rfl (q0i k rfl rfl rfl (q1K hlt) rfl (gg rfl (q37 rfl rfl (by rw[List.length_map];omega) ?_)))
  refine gg rfl (q0i ((k+1)%l.length) rfl rfl (by rw[w1,List.length_map,q1s]) (q1K hlt2) rfl ?_)
  refine gg rfl (q0i ((eg l k).line.length-1) rfl rfl (by rw[List.length_map];exact w2) (q0Q (by omega)) rfl ?_)
  refine gg rfl (q0i 0 rfl rfl rfl (q0Q (by omega)) rfl ?_)
  refine gg rfl (q01 rfl (fun g2=>?_) (fun g2=>?_))
  ·refine gg rfl (q04 (gg rfl (q08 rfl rfl rfl trivial ?_)))
   rw[q1I]at g2
   have:q2E l k=11:=by rw[q2E,if_neg (by simpa using g2)]
   have h11:=q3u hjo (by rw[this];decide) hlt
   rw[q0J,if_neg (by omega),if_neg (by omega),if_pos hall,if_neg (by rw[h11,this];decide),h11,this]
  refine gg rfl (q04 ?_)
  rw[q1I]at g2
  have:q2E l k=0:=by rw[q2E,if_pos (by simpa using g2)]
  refine hN (k+1) ⟨by omega,q2o hjo this⟩ (by omega) (q03 rfl trivial (by simp[edges,q00,w1]))
 rw[q07,List.length_map]at g1
 obtain rfl:k=l.length:=by omega
 refine gg rfl (q04 (gg rfl ?_))
 have hb:∀e∈l,1≤e.line.length∧e.line.length≤40:=by
  intro e he
  obtain⟨i,hi,rfl⟩:=qyU he
  have:=hln i hi
  exact⟨by omega,by omega⟩
 have hv:=qlG (m:=40) fun e he=>(hb e he).2
 refine q02 rfl rfl (qcn l (fun e he=>by have:=(hb e he).2;omega) (by omega) (by omega)) ?_
 refine gg rfl (q02 rfl rfl (qbv (q0m l)) (gg rfl (q08 rfl rfl rfl trivial ?_)))
 rw[q0J,if_neg (by omega),if_neg (by omega),if_pos hall,if_pos hjo]
theorem q8C (l:List Edge):PU qqH [edges l]=some (q8p l):=by
 refine q0g (fn:=qfk) rfl (q0a ?_)
 refine gg rfl (q02 rfl rfl (q7u l) (gg rfl (q01 rfl (fun h=>?_) (fun h=>?_))))
 ·rw[q0u]at h
  refine gg rfl (q08 rfl rfl rfl trivial ?_)
  rw[q8p,if_neg h]
 rw[q0z]at h
 have hb:=q2p h
 have:=q11 h
 have hv:=q16 this.2.2.2.2
 refine gg rfl (q02 rfl rfl (qcn l (fun e he=>by have:=hb e he;omega) (by omega) (by omega)) ?_)
 refine gg rfl (q08 rfl rfl rfl trivial ?_)
 rw[q8p,if_pos h,q0k]
end Go.F

namespace Go.F
attribute [local irreducible] IntKind.wrap wpM
theorem q4b (p:List Spot):PU qaB [q0k p]=some (.int .i64 (sgn (q0Z p))):=by
 refine q0g (fn:=q5A) rfl (q0a ?_)
 repeat' (first
  |refine goP 800 rfl rfl ?_
  |refine q0h rfl ?_|refine q0n rfl ?_|refine q09 rfl (fun _=>?_) (fun _=>?_)
  |refine q0d rfl ?_|refine q0j rfl ?_|refine q01 rfl (fun _=>?_) (fun _=>?_)
  |refine q0N rfl (fun _=>?_) (fun _=>?_)
  |refine q08 rfl rfl rfl trivial ?_
  |refine q02 rfl rfl (qw5 p) ?_
  |refine q02 rfl rfl (qgg _ _) ?_)
 rfl
def q1u (a b:Int):Int:=if a<0 then-((2*(-a)+b)/(2*b))else(2*a+b)/(2*b)
theorem qk6 (a b:Int)(h0:0≤a)(ha:a≤1099511627776)(hb:0<b)(hb':b≤1099511627776):PU q7k [.int .i64 a,.int .i64 b]=some (.int .i64 (q1u a b)):=by
 refine q0g (fn:=q4N) rfl (q0a ?_)
 refine gg rfl ?_
 have w1:=ww (x:=2*a)
 have w2:=ww (x:=2*a+b)
 have w3:=ww (x:=2*b)
 refine q01 rfl (fun h=>?_) (fun h=>?_)
 ·rw[q06]at h;omega
 refine gg rfl (qem rfl rfl (by rw[w3];omega) ?_)
 refine gg rfl (q08 rfl rfl rfl trivial ?_)
 have hd:(2*a+b).tdiv (2*b)=(2*a+b)/(2*b):=Int.tdiv_eq_ediv_of_nonneg (by omega)
 have hq:(2*a+b)/(2*b)≤2*a+b:=Int.ediv_le_self _ (by omega)
 have hq0:0≤(2*a+b)/(2*b):=Int.ediv_nonneg (by omega) (by omega)
 rw[w1,w2,w3,hd,wrap64 (by omega) (by omega),q1u,if_neg (by omega)]
theorem qn9 (a b:Int)(ha0: -1099511627776≤a)(ha:a≤1099511627776)(hb:0<b)(hb':b≤1099511627776):PU q7k [.int .i64 a,.int .i64 b]=some (.int .i64 (q1u a b)):=by
 by_cases h0:0≤a
 ·exact qk6 a b h0 ha hb hb'
 refine q0g (fn:=q4N) rfl (q0a ?_)
 refine gg rfl (q01 rfl (fun h=>?_) (fun h=>?_))
 ·refine gg rfl ?_
  have w1:IntKind.i64.wrap (0-a)= -a:=by rw[wrap64 (by omega) (by omega)];omega
  rw[w1]
  refine q02 rfl rfl (qk6 (-a) b (by omega) (by omega) hb hb') ?_
  refine gg rfl (q08 rfl rfl rfl trivial ?_)
  have hq:(2*(-a)+b)/(2*b)≤2*(-a)+b:=Int.ediv_le_self _ (by omega)
  have hq0:0≤(2*(-a)+b)/(2*b):=Int.ediv_nonneg (by omega) (by omega)
  rw[q1u,if_neg (by omega),q1u,if_pos (by omega),wrap64 (by omega) (by omega)]
  simp
 rw[q07]at h;omega
end Go.F

namespace Go.F
attribute [local irreducible] IntKind.wrap wpM
def wd (ws:List Int)(i:Nat):Int:=ws.getD i 0
theorem qna {ws:List Int}{i:Nat}(h:i<ws.length):(ws.map q00)[i]?=some (q00 (wd ws i)):=by simp[wd,h]
def q1X (l:List Edge)(ws:List Int):Nat→List Int
 |0=>[]
 |k+1=>q1X l ws k++List.replicate ((eg l k).line.length-1) (wd ws k)
theorem qcF (l:List Edge)(ws:List Int):∀k,k≤l.length→(q1X l ws k).length=(q0m (l.take k)).length:=by
 intro k
 induction k with
 |zero=>intro _;simp[q1X,q0m]
 |succ k ih=>
  intro hk
  rw[q1X,q3y (by omega),List.length_append,List.length_append,ih (by omega)]
  simp
set_option maxHeartbeats 1000000 in
theorem q9T (l:List Edge)(ws:List Int)(hw:l.length≤ws.length)(h1:∀e∈l,1≤e.line.length∧e.line.length≤100000)(hl:l.length≤100000)(hv:(q0m l).length≤100000):PU q8M [edges l,ints ws]=some (ints (q1X l ws l.length)):=by
 have hlen:∀k,k≤l.length→(q1X l ws k).length≤100000:=by
  intro k hk
  rw[qcF l ws k hk]
  have:=qdP (l:=l) k
  omega
 refine q0g (fn:=q4F) rfl (q0a ?_)
 refine gg rfl (q0l (S:=fun k:Nat=>([ints ws,.ref 1 0 (q1X l ws k).length,edges l,q00 l.length,q00 k],[none,some (.row ((q1X l ws k).map q00) 1),none,none,none],[0,0,0,0,0])) (C:=fun k=>k≤l.length) (m:=fun k=>l.length-k) 0 (by omega) (by omega) ?_ ?_)
 ·exact q03 rfl ⟨rfl,trivial⟩ (by simp[edges,ints,q00,q1X])
 intro k hk N hN
 refine gg rfl (q01 rfl (fun g1=>?_) (fun g1=>?_))
 ·rw[q06]at g1
  have hlt:k<l.length:=by omega
  have w1:=wS (n:=k)
  have hln:1≤(eg l k).line.length∧(eg l k).line.length≤100000:=by rw[q41 hlt];exact h1 _ (List.getElem_mem hlt)
  have w2:IntKind.i64.wrap (((eg l k).line.length:Int)-1)=(((eg l k).line.length-1:Nat):Int):=by rw[wrap64 (by omega) (by omega)];omega
  have hk1:=hlen (k+1) (by omega)
  rw[q1X,List.length_append,List.length_replicate]at hk1
  refine gg rfl (q0i k rfl rfl rfl (q1K hlt) rfl (gg rfl ?_))
  refine q0l (S:=fun j:Nat=>([ints ws,.ref 1 0 ((q1X l ws k).length+j),q00 k,edges l,q00 l.length,q00 k,q00 ((eg l k).line.length-1:Nat),q00 j],
   [none,some (.row ((q1X l ws k++List.replicate j (wd ws k)).map q00) 1),none,none,none,none,none,none],[0,0,0,0,0,0,0,0]))
   (C:=fun j=>j≤(eg l k).line.length-1) (m:=fun j=>(eg l k).line.length-j) 0 (by omega) (by omega) ?_ ?_
  ·exact q03 rfl ⟨q05 q5y _,trivial⟩ (by simp[edges,ints,q00,w2])
  intro j hj N2 hN2
  refine gg rfl (q01 rfl (fun e1=>?_) (fun e1=>?_))
  ·rw[q06]at e1
   have hjl:j<(eg l k).line.length-1:=by omega
   have wj:=wS (n:=j)
   refine gg rfl (q0i k rfl rfl rfl (qna (by omega)) rfl ?_)
   refine gg rfl (q1b rfl rfl rfl rfl rfl rfl (by simp) (Nat.zero_le _) (by simp[q0M]at*;omega) ?_)
   refine gg rfl (q04 (hN2 (j+1) (by omega) (by omega) (q03 rfl ⟨?_,trivial⟩ ?_)))
   ·rw[List.all_append,q05 q5y];rfl
   simp[edges,ints,q00,wj,List.replicate_succ']
   omega
  rw[q07]at e1
  clear hN2
  obtain rfl:j=(eg l k).line.length-1:=by omega
  refine gg rfl (q04 (gg rfl (q04 (hN (k+1) (by omega) (by omega) (q03 rfl ⟨q05 q5y _,trivial⟩ ?_)))))
  simp[edges,ints,q00,w1,q1X]
 rw[q07]at g1
 obtain rfl:k=l.length:=by omega
 refine gg rfl (q04 (gg rfl (q08 rfl rfl rfl ⟨q2s (by simp) (q0W qeE _),trivial⟩ ?_)))
 rw[q2t (by simp),ints]
end Go.F

namespace Go.F
open Ieee
theorem qtu (a b:Nat):a<<<b=a*2^b:=Nat.shiftLeft_eq a b
theorem dbl:FloatKind.f64.format=Ieee.double:=rfl
theorem qtv {n k:Nat}(h:n<2^(k+1)):n.log2≤k:=by
 by_cases h0:n=0
 ·subst h0;simp
 have:=(Nat.log2_lt h0).2 h
 omega
theorem cut_le {neg:Bool}{n drop k:Nat}(h:n<2^k*2^drop):Toward.even.cut neg n drop≤2^k:=by
 unfold Toward.cut
 simp only
 have hg:∀g:Nat,0<g→n<2^k*g→n/g+1≤2^k:=by
  intro g hg hn
  have:=(Nat.div_lt_iff_lt_mul hg).2 hn
  omega
 by_cases hd:drop≤n.log2+2
 ·rw[Nat.min_eq_left hd,Nat.one_shiftLeft]
  have:=hg _ (Nat.two_pow_pos drop) h
  have hb:=Bool.toNat_le (decide (2^drop<2*(n%2^drop)) ||(2^drop==2*(n%2^drop)&&n/2^drop%2==1))
  omega
 rw[Nat.min_eq_right (by omega),Nat.one_shiftLeft]
 have hn:n<2^(n.log2+2):=Nat.lt_of_lt_of_le Nat.lt_log2_self (Nat.pow_le_pow_right (by omega) (by omega))
 have h0:n/2^(n.log2+2)=0:=Nat.div_eq_of_lt hn
 have:=Nat.two_pow_pos k
 have hb:=Bool.toNat_le (decide (2^(n.log2+2)<2*(n%2^(n.log2+2))) ||(2^(n.log2+2)==2*(n%2^(n.log2+2))&&n/2^(n.log2+2)%2==1))
 rw[h0]at hb⊢
 omega
theorem qos {mag:Nat}{place e:Int}(h:place+mag.log2≤e)(he: -1000≤e):(double.nearest false mag place:Int)≤(e+1024) *4503599627370496:=by
 unfold Format.nearest
 by_cases h0:mag=0
 ·rw[if_pos h0]
  simp only[Format.word]
  simp
  omega
 rw[if_neg h0]
 simp only[Format.word]
 have hb:double.binade=4503599627370496:=rfl
 have hl:double.leastPlace= -1074:=rfl
 have hf:(double.fractionBits:Int)=52:=rfl
 rw[hb,hl,hf]
 generalize hlast:max (place+(mag.log2:Int)-52) (-1074)=last
 have hm:mag<2^(mag.log2+1):=Nat.lt_log2_self
 have hk:Toward.even.cut false (mag<<<(place-last).toNat) (last-place).toNat≤2^53:=by
  refine cut_le ?_
  rw[qtu]
  rcases Int.le_total last place with hc|hc
  ·have e1:(last-place).toNat=0:=by omega
   rw[e1,Nat.pow_zero,Nat.mul_one]
   have e2:(place-last).toNat+(mag.log2+1)≤53:=by omega
   calc mag*2^(place-last).toNat<2^(mag.log2+1) *2^(place-last).toNat:=Nat.mul_lt_mul_of_pos_right hm (Nat.two_pow_pos _)
    _=2^((place-last).toNat+(mag.log2+1)):=by rw[←Nat.pow_add,Nat.add_comm]
    _≤2^53:=Nat.pow_le_pow_right (by omega) e2
  have e1:(place-last).toNat=0:=by omega
  rw[e1,Nat.pow_zero,Nat.mul_one,←Nat.pow_add]
  exact Nat.lt_of_lt_of_le hm (Nat.pow_le_pow_right (by omega) (by omega))
 generalize Toward.even.cut false (mag<<<(place-last).toNat) (last-place).toNat=kept at hk⊢
 generalize double.infRung=inf
 have h2:(last- -1074).toNat≤(e+1022).toNat:=by omega
 generalize (last- -1074).toNat=q at h2⊢
 clear hlast hm h0 h
 simp only[Bool.false_eq_true,if_false]
 have hk':kept≤9007199254740992:=hk
 have h4:min (q*4503599627370496+kept) inf≤q*4503599627370496+kept:=Nat.min_le_left _ _
 generalize min (q*4503599627370496+kept) inf=z at h4⊢
 have h5:(q:Int)≤e+1022:=by omega
 clear hk
 omega
theorem qAM {w:Nat}{E:Nat}(hE1:1≤E)(hE:E≤2000)(h:w≤E*4503599627370496):∃m i,double.read w=.number false m i∧m<9007199254740992∧i≤ -1075+E:=by
 unfold Format.read
 have hb:double.binade=4503599627370496:=rfl
 have hl:double.leastPlace= -1074:=rfl
 have hs:double.signWeight=9223372036854775808:=rfl
 have hi:double.infRung=9218868437227405312:=rfl
 simp only[hb,hl,hs,hi]
 have h1:w/9223372036854775808=0:=by omega
 have h2:w%9223372036854775808=w:=by omega
 rw[h1,h2]
 by_cases hc:w<4503599627370496
 ·rw[if_pos hc]
  exact⟨w,-1074,rfl,by omega,by omega⟩
 rw[if_neg hc,if_pos (by omega)]
 refine⟨_,_,rfl,by omega,?_⟩
 have:w/4503599627370496≤E:=by omega
 omega
theorem qw1 (n:Nat):∀(todo root:Nat),Datum.rootFrom n todo root<root+2^todo:=by
 intro todo
 induction todo with
 |zero=>intro root;simp[Datum.rootFrom]
 |succ k ih=>
  intro root
  rw[Datum.rootFrom]
  rw[Nat.one_shiftLeft]
  have hp:2^(k+1)=2^k+2^k:=by rw[Nat.pow_succ];omega
  split
  ·have:=ih (root+2^k);omega
  have:=ih root;have:=Nat.two_pow_pos k;omega
theorem qEC {m:Nat}{i:Int}(hm:m<9007199254740992)(hi:i≤ -25):∃r:Int,Datum.toInt .zero (.number false m i)=some r∧0≤r∧r≤268435456:=by
 unfold Datum.toInt Datum.integral
 refine⟨_,rfl,?_⟩
 simp only[signed,Bool.false_eq_true,if_false]
 have e1:i.toNat=0:=by omega
 rw[e1,qtu,qtu]
 simp only[Nat.pow_zero,Nat.mul_one]
 have:Toward.zero.cut false m (-i).toNat≤268435456:=by
  unfold Toward.cut
  simp only[Bool.toNat_false,Nat.add_zero,Nat.one_shiftLeft]
  by_cases hd:(-i).toNat≤m.log2+2
  ·rw[Nat.min_eq_left hd]
   have h2:2^25≤2^(-i).toNat:=Nat.pow_le_pow_right (by omega) (by omega)
   have h3:m/2^(-i).toNat≤m/2^25:=Nat.div_le_div_left h2 (by decide)
   have h4:(2:Nat)^25=33554432:=by decide
   rw[h4]at h3
   omega
  rw[Nat.min_eq_right (by omega)]
  have hn:m<2^(m.log2+2):=Nat.lt_of_lt_of_le Nat.lt_log2_self (Nat.pow_le_pow_right (by omega) (by omega))
  rw[Nat.div_eq_of_lt hn]
  omega
 constructor
 ·omega
 omega
theorem qC2 (n:Nat)(hn:n<2^51):∃(y:Nat) (r:Int),FloatKind.f64.format.sqrt (FloatKind.f64.nearest n)=some y∧(FloatKind.f64.decode y).toInt .zero=some r∧0≤r∧r≤268435456:=by
 have hx:FloatKind.f64.nearest n=double.nearest false n 0:=by
  unfold FloatKind.nearest FloatKind.encode Format.write
  rw[show decide ((n:Int)<0)=false by simp]
  rfl
 have h1:=qos (mag:=n) (place:=0) (e:=50) (by have:=qtv (k:=50) hn;omega) (by omega)
 obtain⟨m,i,hr,hm,hi⟩:=qAM (w:=double.nearest false n 0) (E:=1074) (by omega) (by omega) (by omega)
 have key:∀(mag:Nat) (place:Int),place+mag.log2≤26→∃r:Int,(double.read (double.nearest false mag place)).toInt .zero=some r∧0≤r∧r≤268435456:=by
  intro mag place h
  have h2:=qos (mag:=mag) (place:=place) (e:=26) h (by omega)
  obtain⟨m',i',hr',hm',hi'⟩:=qAM (w:=double.nearest false mag place) (E:=1050) (by omega) (by omega) (by omega)
  rw[hr']
  exact qEC hm' (by omega)
 rw[hx,dbl]
 unfold Format.sqrt
 rw[hr]
 unfold Datum.root
 by_cases h0:m=0
 ·subst h0
  simp only[if_true,Option.map_some,Format.write]
  obtain⟨r,g1,g2,g3⟩:=key 0 i (by simp;omega)
  exact⟨_,r,rfl,g1,g2,g3⟩
 simp only[h0,if_false,Bool.false_eq_true,Option.map_some,Format.write]
 generalize 2*(double.fractionBits+2)-m.log2+((i-(2*(double.fractionBits+2)-m.log2:Nat))%2).toNat=more
 have hnn:m<<<more<2^(52+more+1):=by
  rw[qtu,show 52+more+1=53+more by omega,Nat.pow_add]
  exact Nat.mul_lt_mul_of_pos_right (by simpa using hm) (Nat.two_pow_pos _)
 have hlog:=qtv hnn
 have hw:=qw1 (m<<<more) ((m<<<more).log2/2+1) 0
 generalize hT:(m<<<more).log2/2+1=T at hw⊢
 generalize Datum.rootFrom (m<<<more) T 0=whole at hw⊢
 have hbit:=Bool.toNat_le (whole*whole !=m<<<more)
 generalize (whole*whole !=m<<<more).toNat=bit at hbit⊢
 have hmag:2*whole+bit<2^(T+1):=by rw[Nat.pow_succ];omega
 have hl:=qtv hmag
 obtain⟨r,g1,g2,g3⟩:=key (2*whole+bit) ((i-more)/2-1) (by omega)
 exact⟨_,r,rfl,g1,g2,g3⟩
end Go.F

namespace Go.F
section
variable {T:Tab}{sh:Shr}{nx0:Nat}{s:List Fr}{t:q0x}{h:q0e}{z:Frz}{nx:Nat}{q:Ex→q0x→q0e→Frz→Nat→Prop}
variable {base i:Nat}{res:List Nat}{dst:Nat}{g:Gd}{rest:List KOper}
theorem q1T {f:FuncId}{args:List X}{bs:List D}{rows:List (List D×Nat×Nat)}{r:D}(hs:T.shared f=false)
 (ha:qy7 (g.h base h) (args.map (·.ev t))=some (rows,bs)) (hr:q48 rows) (hp:T.pu f bs=some r)
 (hk:∀z,wpM T sh nx0 (.ops base res rest::s) .normal (upd t dst r) h z nx q):
 wpM T sh nx0 (.ops base res (⟨i,some dst,none,g,.callF f args⟩::rest)::s) .normal t h z nx q:=by
 refine q3t ?_
 simp only[kop,q5W,hs]
 refine qby ha hr ?_
 unfold qaF
 refine⟨r,hp,?_⟩
 simp only[q6d]
 split
 ·exact hk _
 split
 ·exact hk _
 exact hk _
theorem q6N {f:FuncId}{args:List X}{bs:List D}{rows:List (List D×Nat×Nat)}{r:D}(hs:T.shared f=false)
 (ha:qy7 (g.h base h) (args.map (·.ev t))=some (rows,bs)) (hr:q48 rows) (hp:T.pu f bs=some r) (hn:noRef 4 r=true)
 (hk:wpM T sh nx0 (.ops base res rest::s) .normal (upd t dst r) h z nx q):
 wpM T sh nx0 (.ops base res (⟨i,some dst,none,g,.callF f args⟩::rest)::s) .normal t h z nx q:=by
 refine q3t ?_
 simp only[kop,q5W,hs]
 refine qby ha hr ?_
 unfold qaF
 refine⟨r,hp,?_⟩
 simp only[q6d,hn]
 exact hk
theorem qHt {n:Nat}{sx x:X}{dst:Option Nat}{id off len:Nat}{es l:List D}{esz:Nat}(hs:sx.ev t=.ref id off len)(hr:g.h base h id=some (.row es esz))(he:Nat.beq n esz=true)(hx:x.ev t=.lst l)
 (hc:l.all (fun d=>d.cells.length==n)=true) (hb:off+len≤es.length) (hz:g.z base z id≤off)
 (hk:wpM T sh nx0 (.ops base res rest::s) .normal (put t dst (.int .i64 (min l.length len:Nat))) (upd h id (some (.row (es.take off++l.take (min l.length len)++es.drop (off+min l.length len)) esz))) z nx q):
 wpM T sh nx0 (.ops base res (⟨i,dst,none,g,.copy n sx x⟩::rest)::s) .normal t h z nx q:=by
 refine q3t ?_
 simp only[kop,qF3,hs,hr,he,hx,q5g]
 exact qiR hc (q1t ⟨hb,hz⟩ hk)
theorem q19 {e:EqK}{x y:X}{kk kk':IntKind}{a b:Int}(n k:Nat)(hx:x.ev t=.int kk a)(hy:y.ev t=.int kk' b)(ha:a=n)(hb:b=k)(hkb:k≤kk.bits)
 (hk:wpM T sh nx0 (.ops base res rest::s) .normal (upd t dst (.int kk ((n/2^k:Nat):Int))) h z nx q):
 wpM T sh nx0 (.ops base res (⟨i,some dst,none,g,.bin .shr e x y⟩::rest)::s) .normal t h z nx q:=by
 subst ha;subst hb
 refine atShr hx hy (by omega) ?_
 rw[Int.toNat_natCast,Nat.min_eq_left hkb]
 have e:((n:Int)).fdiv (2^k)=((n/2^k:Nat):Int):=by
  rw[show((2:Int)^k)=((2^k:Nat):Int)by simp]
  rw[Int.fdiv_eq_ediv_of_nonneg _ (Int.natCast_nonneg _)]
  rfl
 rw[e]
 exact hk
theorem q6w {e:EqK}{x y:X}{kk kk':IntKind}{a b:Int}(n k:Nat)(hx:x.ev t=.int kk a)(hy:y.ev t=.int kk' b)(ha:a=n)(hb:b=k)(hkb:k≤kk.bits)(hw:kk.wrap ((n*2^k:Nat):Int)=((n*2^k:Nat):Int))
 (hk:wpM T sh nx0 (.ops base res rest::s) .normal (upd t dst (.int kk ((n*2^k:Nat):Int))) h z nx q):
 wpM T sh nx0 (.ops base res (⟨i,some dst,none,g,.bin .shl e x y⟩::rest)::s) .normal t h z nx q:=by
 subst ha;subst hb
 refine atShl hx hy (by omega) ?_
 rw[Int.toNat_natCast,Nat.min_eq_left hkb]
 have e:((n:Int)) *2^k=((n*2^k:Nat):Int):=by simp
 rw[e,hw]
 exact hk
def setMN (nx0:Nat)(live:Live)(t:q0x)(h:q0e)(z:Frz)(nx:Nat):Option (List (List D)×q0e×Frz×Kept):=
 match qcs live t h z nx with
 |(t,h,z)=>
  match qm5 t h live with
  |some rows=>fL1 (q9M nx0 (q0B t live) t live) fun vs=>fLi (q9N nx0 (q0B t live) h (q0B t live) nx0) fun bs=>fNs (qie nx0 (q0B t live) z (q0B t live) nx0) fun zs=>some (rows,h,z,vs,bs,zs)
  |none=>none
theorem q1U {live:Live}{rows:List (List D)}{h':q0e}{z':Frz}{kp:Kept}{K:q0e→Frz→Kept→Prop}(hs:setMN nx0 live t h z nx=some (rows,h',z',kp))(hp:qeS rows)(hk:K h' z' kp)(hnst:q5p live=false:=by rfl):q12 nx0 live t h z nx K:=by
 unfold setMN at hs
 split at hs
 rename_i t1 h1 z1 hn
 split at hs
 ·rename_i rows1 hr
  simp only[q5u,qq7,qv9,Option.some.injEq,Prod.mk.injEq]at hs
  obtain⟨rfl,rfl,rfl,rfl⟩:=hs
  unfold q12
  simp only[hnst]
  unfold q6U
  refine qiP _ _ _ _ _ _ fun nx'=>?_
  rw[hn]
  refine qq8 hr hp ?_
  rw[q6t,q6u]
  exact hk
 cases hs
theorem q62 {α:Type}(S:α→Kept)(O:α→q0e→Frz→Prop)(C:α→Prop)(m:α→Nat){live:Live}{c:K}
 (a:α) (hC:C a) (hm:m a<2^62) (h0:q12 nx0 live t h z nx fun h z kp=>kp=S a∧O a (q1e nx0 h) z)
 (hr:∀a,C a→∀(ho:q0e) (zo:Frz),O a ho zo→∀N:q0x→q0e→Frz→Nat→Prop,(∀a' {t:q0x} {h:q0e} {z:Frz} {nx:Nat},C a'→m a'<m a→(q12 nx0 live t h z nx fun h z kp=>kp=S a'∧O a' (q1e nx0 h) z)→N t h z nx)→
   wpM T sh nx0 [.code c] .normal (mkT live (S a).1) (mkF nx0 ho none (S a).2.1 nx0) (mkF nx0 zo 0 (S a).2.2 nx0) (nx0+live.length) fun ex t h z nx=>
    match ex with
    |.normal=>N t h z nx
    |.exit i=>wpM T sh nx0 s (.exit i) t h z nx q
    |.ret=>wpM T sh nx0 s .ret t h z nx q):
 wpM T sh nx0 (.code (.loop live c)::s) .normal t h z nx q:=by
 simp only[wpM,wp]at hr⊢
 unfold qwM
 have key:∀(n:Nat) (a:α),C a→m a≤n→∀(fuel:Nat),n<fuel→∀(t:q0x) (h:q0e) (z:Frz) (nx:Nat),(q12 nx0 live t h z nx fun h z kp=>kp=S a∧O a (q1e nx0 h) z)→
  q47 nx0 live (fun t h z nx q=>wp T sh nx0 c t h z nx q) fuel t h z nx fun ex t h z nx=>wpM T sh nx0 s ex t h z nx q:=by
  intro n
  induction n with
  |zero=>
   intro a hC hm fuel hf t h z nx hst
   obtain⟨fuel,rfl⟩:∃k,fuel=k+1:=⟨fuel-1,by omega⟩
   simp only[q47]
   obtain⟨h1,z1,kp,g1,g2⟩:=q9v hst
   refine g2 _ ?_
   obtain⟨rfl,g3⟩:=g1
   exact hr a hC _ _ g3 (fun t h z nx=>q47 nx0 live (fun t h z nx q=>wp T sh nx0 c t h z nx q) fuel t h z nx fun ex t h z nx=>wpM T sh nx0 s ex t h z nx q) (fun a' _ _ _ _ _ hlt _=>absurd hlt (by omega))
  |succ n ih=>
   intro a hC hm fuel hf t h z nx hst
   obtain⟨fuel,rfl⟩:∃k,fuel=k+1:=⟨fuel-1,by omega⟩
   simp only[q47]
   obtain⟨h1,z1,kp,g1,g2⟩:=q9v hst
   refine g2 _ ?_
   obtain⟨rfl,g3⟩:=g1
   exact hr a hC _ _ g3 (fun t h z nx=>q47 nx0 live (fun t h z nx q=>wp T sh nx0 c t h z nx q) fuel t h z nx fun ex t h z nx=>wpM T sh nx0 s ex t h z nx q)
    (fun a' t h z nx h1 hlt hst=>ih a' h1 (by omega) fuel (by omega) t h z nx hst)
 exact key (m a) a hC (Nat.le_refl _) q8n hm t h z nx h0
end
end Go.F

namespace Go.F
def val:List Nat→Nat
 |[]=>0
 |x::l=>x+4294967296*val l
def qe4:Nat→Nat→List Nat
 |0,_=>[]
 |k+1,n=>if n=0 then []else n%4294967296::qe4 k (n/4294967296)
def q0f (n:Nat):List Nat:=qe4 n n
def dg (l:List Nat)(i:Nat):Nat:=l.getD i 0
class LOk (l:List Nat):Prop where
 lt:∀x∈l,x<4294967296
theorem qwZ:∀(k j n:Nat),n≤k→n≤j→qe4 k n=qe4 j n:=by
 intro k
 induction k with
 |zero=>
  intro j n h1 h2
  obtain rfl:n=0:=by omega
  cases j<;>simp[qe4]
 |succ k ih=>
  intro j n h1 h2
  cases j with
  |zero=>
   obtain rfl:n=0:=by omega
   simp[qe4]
  |succ j=>
   simp only[qe4]
   split
   ·rfl
   rw[ih j (n/4294967296) (by omega) (by omega)]
theorem q5r:q0f 0=[]:=rfl
theorem q3Z {n:Nat}(h:n≠0):q0f n=n%4294967296::q0f (n/4294967296):=by
 obtain⟨k,rfl⟩:∃k,n=k+1:=⟨n-1,by omega⟩
 unfold q0f
 rw[qe4,if_neg h,qwZ k ((k+1)/4294967296) _ (by omega) (Nat.le_refl _)]
theorem qjv {P:Nat→Prop}(h0:P 0)(h1:∀n,n≠0→P (n/4294967296)→P n)(n:Nat):P n:=by
 induction n using Nat.strongRecOn with
 |_ n ih=>
  by_cases h:n=0
  ·subst h;exact h0
  exact h1 n h (ih _ (by omega))
theorem q0o (n:Nat):val (q0f n)=n:=by
 induction n using qjv with
 |h0=>rfl
 |h1 n hn ih=>rw[q3Z hn,val,ih];omega
instance q0A (n:Nat):LOk (q0f n):=by
 refine⟨?_⟩
 induction n using qjv with
 |h0=>intro x hx;simp[q5r]at hx
 |h1 n hn ih=>
  rw[q3Z hn]
  intro x hx
  rcases List.mem_cons.1 hx with rfl|hx
  ·omega
  exact ih x hx
theorem q0q {n k:Nat}:(q0f n).length≤k↔n<4294967296^k:=by
 induction k generalizing n with
 |zero=>
  rw[Nat.pow_zero]
  by_cases h:n=0
  ·subst h;simp[q5r]
  rw[q3Z h];simp;omega
 |succ k ih=>
  by_cases h:n=0
  ·subst h;simp only[q5r,List.length_nil,Nat.zero_le,true_iff];exact Nat.pow_pos (by decide)
  rw[q3Z h,List.length_cons,Nat.add_le_add_iff_right,ih,Nat.pow_succ]
  exact Nat.div_lt_iff_lt_mul (by decide)
theorem q3b {n:Nat}:0<(q0f n).length↔n≠0:=by
 by_cases h:n=0
 ·subst h;simp[q5r]
 rw[q3Z h];simp[h]
theorem qjw {n:Nat}:q0f n=[]↔n=0:=by
 by_cases h:n=0
 ·subst h;simp[q5r]
 rw[q3Z h];simp[h]
theorem val_append (a b:List Nat):val (a++b)=val a+4294967296^a.length*val b:=by
 induction a with
 |nil=>simp[val]
 |cons x a ih=>rw[List.cons_append,val,ih,val,List.length_cons,Nat.pow_succ,Nat.mul_add,←Nat.mul_assoc,Nat.mul_comm 4294967296 (_^_)];omega
theorem q5Y (a:List Nat)(x:Nat):val (a++[x])=val a+4294967296^a.length*x:=by
 rw[val_append];simp[val]
theorem qaH (k:Nat):val (List.replicate k 0)=0:=by
 induction k with
 |zero=>rfl
 |succ k ih=>rw[List.replicate_succ,val,ih]
theorem LOk.cons {x:Nat}{l:List Nat}(h:LOk (x::l)):x<4294967296∧LOk l:=
 ⟨h.lt x (by simp),⟨fun y hy=>h.lt y (by simp[hy])⟩⟩
theorem LOk.append {a b:List Nat}(h:LOk a)(g:LOk b):LOk (a++b):=
 ⟨fun x hx=>by rcases List.mem_append.1 hx with h1|h1;exact h.lt x h1;exact g.lt x h1⟩
theorem LOk.snoc {a:List Nat}{x:Nat}(h:LOk a)(g:x<4294967296):LOk (a++[x]):=
 h.append ⟨fun y hy=>by simp at hy;omega⟩
theorem LOk.take {a:List Nat}(h:LOk a)(k:Nat):LOk (a.take k):=⟨fun x hx=>h.lt x (List.mem_of_mem_take hx)⟩
theorem LOk.drop {a:List Nat}(h:LOk a)(k:Nat):LOk (a.drop k):=⟨fun x hx=>h.lt x (List.mem_of_mem_drop hx)⟩
theorem LOk.set {a:List Nat}(h:LOk a)(k:Nat){v:Nat}(hv:v<4294967296):LOk (a.set k v):=
 ⟨fun x hx=>by rcases List.mem_or_eq_of_mem_set hx with h1|h1;exact h.lt x h1;omega⟩
theorem q54 (k:Nat):LOk (List.replicate k 0):=⟨fun x hx=>by rw[(List.mem_replicate.1 hx).2];decide⟩
instance qpc:LOk []:=⟨by simp⟩
theorem q2Y {l:List Nat}(h:LOk l):val l<4294967296^l.length:=by
 induction l with
 |nil=>simp[val]
 |cons x l ih=>
  obtain⟨h1,h2⟩:=h.cons
  have:=ih h2
  rw[val,List.length_cons,Nat.pow_succ]
  omega
theorem q1j {l:List Nat}(h:LOk l)(i:Nat):dg l i<4294967296:=by
 unfold dg
 rw[List.getD_eq_getElem?_getD]
 cases hx:l[i]? with
 |none=>simp
 |some x=>simp;exact h.lt x (List.mem_of_getElem? hx)
theorem q7l {l:List Nat}{i:Nat}(h:l.length≤i):dg l i=0:=by
 unfold dg;rw[List.getD_eq_getElem?_getD,List.getElem?_eq_none h];rfl
theorem qjx {l:List Nat}{i:Nat}(h:i<l.length):dg l i=l[i]:=by simp[dg,h]
theorem qAX {l:List Nat}{k:Nat}(h:k<l.length):l.take (k+1)=l.take k++[dg l k]:=by
 rw[List.take_succ_eq_append_getElem h,qjx h]
theorem q0R (l:List Nat)(k:Nat):val (l.take (k+1))=val (l.take k)+4294967296^k*dg l k:=by
 by_cases h:k<l.length
 ·rw[qAX h,q5Y,List.length_take,Nat.min_eq_left (Nat.le_of_lt h)]
 rw[List.take_of_length_le (by omega),List.take_of_length_le (by omega),q7l (by omega)];simp
theorem q2R (l:List Nat)(k:Nat):val (l.drop k)=dg l k+4294967296*val (l.drop (k+1)):=by
 by_cases h:k<l.length
 ·rw[List.drop_eq_getElem_cons h,val,qjx h]
 rw[List.drop_of_length_le (by omega),List.drop_of_length_le (by omega),q7l (by omega)];rfl
theorem q2L (l:List Nat)(k:Nat):val l=val (l.take k)+4294967296^k*val (l.drop k):=by
 by_cases h:k≤l.length
 ·have:=val_append (l.take k) (l.drop k)
  rw[List.take_append_drop,List.length_take,Nat.min_eq_left h]at this
  exact this
 rw[List.take_of_length_le (by omega),List.drop_of_length_le (by omega)];simp[val]
theorem qzw:∀{l:List Nat} (_:LOk l) (i:Nat),dg l i=val l/4294967296^i%4294967296:=by
 intro l
 induction l with
 |nil=>intro _ i;simp[dg,val]
 |cons x l ih=>
  intro h i
  obtain⟨h1,h2⟩:=h.cons
  cases i with
  |zero=>simp[dg,val];omega
  |succ i=>
   have:=ih h2 i
   have e:dg (x::l) (i+1)=dg l i:=by simp[dg]
   rw[e,this,val,Nat.pow_succ,Nat.mul_comm (4294967296^i),←Nat.div_div_eq_div_mul]
   congr 2
   omega
theorem qmz {l:List Nat}(hl:l≠[])(h:dg l (l.length-1)≠0):val l≠0:=by
 have hlen:0<l.length:=List.length_pos_iff.2 hl
 have:=q2L l (l.length-1)
 rw[q2R,Nat.sub_add_cancel hlen,List.drop_length]at this
 simp only[val,Nat.mul_zero,Nat.add_zero]at this
 intro h0
 rw[h0]at this
 have hp:0<4294967296^(l.length-1) *dg l (l.length-1):=Nat.mul_pos (Nat.pow_pos (by decide)) (by omega)
 omega
theorem qCE {l:List Nat}(h:LOk l)(hl:l=[]∨dg l (l.length-1)≠0):q0f (val l)=l:=by
 induction l with
 |nil=>rfl
 |cons x l ih=>
  obtain⟨h1,h2⟩:=h.cons
  rcases hl with hl|hl
  ·cases hl
  have hv:=qmz (l:=x::l) (by simp) hl
  rw[q3Z hv]
  have e1:val (x::l)%4294967296=x:=by rw[val];omega
  have e2:val (x::l)/4294967296=val l:=by rw[val];omega
  rw[e1,e2,ih h2]
  by_cases hn:l=[]
  ·exact .inl hn
  refine .inr ?_
  obtain⟨m,hm⟩:∃m,l.length=m+1:=⟨l.length-1,by have:=List.length_pos_iff.2 hn;omega⟩
  simp only[List.length_cons,Nat.add_sub_cancel,hm]at hl⊢
  simpa[dg]using hl
theorem qsy {n:Nat}(h:n≠0):dg (q0f n) ((q0f n).length-1)≠0:=by
 induction n using qjv with
 |h0=>exact absurd rfl h
 |h1 n hn ih=>
  rw[q3Z hn]
  by_cases hd:n/4294967296=0
  ·rw[hd,q5r];simp[dg];omega
  have:=ih hd
  have hp:=q3b.2 hd
  obtain⟨m,hm⟩:∃m,(q0f (n/4294967296)).length=m+1:=⟨_,(Nat.sub_add_cancel hp).symm⟩
  simp only[List.length_cons,Nat.add_sub_cancel,hm]at this⊢
  simpa[dg]using this
theorem qsz {l:List Nat}{n:Nat}(h:LOk l)(hn:n≤l.length)(h0:∀i,n≤i→dg l i=0)(h1:n=0∨dg l (n-1)≠0):l.take n=q0f (val l):=by
 have hz:∀k j,n≤j→j+k=l.length→val (l.drop j)=0:=by
  intro k
  induction k with
  |zero=>intro j _ hj;rw[List.drop_of_length_le (by omega)];rfl
  |succ k ih=>intro j hj hk;rw[q2R,h0 j hj,ih (j+1) (by omega) (by omega)]
 have hv:val l=val (l.take n):=by
  rw[q2L l n,hz (l.length-n) n (Nat.le_refl _) (by omega)];simp
 rw[hv,qCE (h.take n)]
 by_cases hn0:n=0
 ·left;simp[hn0]
 right
 rcases h1 with h1|h1
 ·exact absurd h1 hn0
 rw[List.length_take,Nat.min_eq_left hn]
 simpa[dg,List.getElem?_take,show n-1<n by omega]using h1
theorem qij {l:List Nat}{i v:Nat}(h:i<l.length):val (l.set i v)+4294967296^i*dg l i=val l+4294967296^i*v:=by
 induction l generalizing i with
 |nil=>simp at h
 |cons x l ih=>
  cases i with
  |zero=>simp[val,dg];omega
  |succ i=>
   have:=ih (i:=i) (by simpa using h)
   have e:dg (x::l) (i+1)=dg l i:=by simp[dg]
   rw[List.set_cons_succ,val,val,e,Nat.pow_succ]
   have e1:4294967296^i*4294967296*dg l i=4294967296*(4294967296^i*dg l i):=by rw[Nat.mul_comm (4294967296^i),Nat.mul_assoc]
   have e2:4294967296^i*4294967296*v=4294967296*(4294967296^i*v):=by rw[Nat.mul_comm (4294967296^i),Nat.mul_assoc]
   rw[e1,e2]
   omega
theorem q3c {l:List Nat}{i j v:Nat}:dg (l.set i v) j=if i=j∧j<l.length then v else dg l j:=by
 unfold dg
 rw[List.getD_eq_getElem?_getD,List.getD_eq_getElem?_getD,List.getElem?_set]
 split
 ·rename_i h;subst h
  split
  ·rename_i h2;simp[h2]
  rename_i h2;simp[h2]
 rename_i h;simp[h]
theorem qpd {a b:List Nat}{i:Nat}(h:i<a.length):dg (a++b) i=dg a i:=by
 simp[dg,List.getElem?_append_left h]
theorem qmA {a b:List Nat}{i:Nat}(h:a.length≤i):dg (a++b) i=dg b (i-a.length):=by
 simp[dg,List.getElem?_append_right h]
theorem q6X (k i:Nat):dg (List.replicate k 0) i=0:=by
 simp only[dg,List.getD_eq_getElem?_getD,List.getElem?_replicate];split<;>rfl
theorem q4j (p t:Nat):p*(t%4294967296)+p*4294967296*(t/4294967296)=p*t:=by
 rw[Nat.mul_assoc,←Nat.mul_add,Nat.mod_add_div]
def u32 (n:Nat):D:=.int .u32 n
def nat (l:List Nat):D:=.lst (l.map u32)
theorem q2B {l:List Nat}{i:Nat}(h:i<l.length):(l.map u32)[i]?=some (u32 (dg l i)):=by simp[dg,h]
theorem q0t (n:Nat):plain 4 (u32 n)=true:=rfl
theorem qAY (n:Nat):dat 4 (u32 n)=true:=rfl
theorem q13 (n:Nat):IntKind.u32.wrap (n:Int)=((n%4294967296:Nat):Int):=by
 simp[IntKind.wrap,IntKind.bits,IntKind.signed]
theorem qaI (n:Int):IntKind.u32.wrap n=n%4294967296:=by
 simp[IntKind.wrap,IntKind.bits,IntKind.signed]
theorem q0U (n:Int):IntKind.u64.wrap n=n%18446744073709551616:=by
 simp[IntKind.wrap,IntKind.bits,IntKind.signed]
theorem q0C {n:Nat}(h:n<18446744073709551616):IntKind.u64.wrap (n:Int)=(n:Int):=by
 rw[q0U];omega
end Go.F

namespace Go.F
theorem kn_gt {U V P ut vt q:Nat}(hU:U<(ut+1) *P)(hV:vt*P≤V)(hV0:0<V)(h:ut<q*vt):U/V<q:=by
 rw[Nat.div_lt_iff_lt_mul hV0]
 calc U<(ut+1) *P:=hU
  _≤q*vt*P:=Nat.mul_le_mul_right _ h
  _=q*(vt*P):=Nat.mul_assoc _ _ _
  _≤q*V:=Nat.mul_le_mul_left _ hV
theorem kn_le {U V P ut vt q B:Nat}(hU:ut*P≤U)(hV:V<(vt+1) *P)(hV0:B*P≤V)(hp:0<V)(hq:q<B)(h:q*vt≤ut):q≤U/V+1:=by
 by_cases h0:q=0
 ·rw[h0];exact Nat.zero_le _
 have h1:q*V≤U+V:=by
  calc q*V≤q*((vt+1) *P):=Nat.mul_le_mul_left _ (Nat.le_of_lt hV)
   _=q*vt*P+q*P:=by rw[←Nat.mul_assoc,Nat.mul_add,Nat.add_mul,Nat.mul_one]
   _≤ut*P+B*P:=Nat.add_le_add (Nat.mul_le_mul_right _ h) (Nat.mul_le_mul_right _ (Nat.le_of_lt hq))
   _≤U+V:=Nat.add_le_add hU hV0
 have h2:(q-1) *V≤U:=by
  obtain⟨k,rfl⟩:∃k,q=k+1:=⟨q-1,by omega⟩
  rw[Nat.add_mul,Nat.one_mul]at h1
  simpa using h1
 have:=(Nat.le_div_iff_mul_le hp).2 h2
 omega
end Go.F

namespace Go.F
attribute [local irreducible] IntKind.wrap wpM
theorem qCF {r:List Nat}{k:Nat}(v:Nat):(r.map u32).set k (.int .u32 v)=(r.set k v).map u32:=by
 rw[List.map_set];rfl
section
variable {T:Tab}{sh:Shr}{nx0:Nat}{s:List Fr}{t:q0x}{h:q0e}{z:Frz}{nx:Nat}{q:Ex→q0x→q0e→Frz→Nat→Prop}
variable {base i:Nat}{res:List Nat}{g:Gd}{rest:List KOper}
theorem q20 {hint:Bool}{a v:X}{dst:Option Nat}{id k':Nat}{w':Int}(r:List Nat)(k w:Nat)(ha:a.ev t=.ptr id k' 0)(hv:v.ev t=.int .u32 w')(hkk:k'=k)(hw:w'=w)(hr:g.h base h id=some (.row (r.map u32) 1))(hz:g.z base z id≤k)(hl:k<r.length)
 (hk:wpM T sh nx0 (.ops base res rest::s) .normal (put t dst (.tup [])) (upd h id (some (.row ((r.set k w).map u32) 1))) z nx q):
 wpM T sh nx0 (.ops base res (⟨i,dst,none,g,.store hint 1 a v⟩::rest)::s) .normal t h z nx q:=by
 subst hkk;subst hw
 refine qy5 (e':=.int .u32 w) ha (by rw[hv];rfl) hr hz (q2B hl) (by rw[hv];rfl) ?_
 rw[qCF]
 exact hk
theorem q4k {hint:Bool}{a:X}{dst:Nat}{id k':Nat}(r:List Nat)(k:Nat)(ha:a.ev t=.ptr id k' 0)(hkk:k'=k)(hr:g.h base h id=some (.row (r.map u32) 1))(hl:k<r.length)
 (hk:wpM T sh nx0 (.ops base res rest::s) .normal (upd t dst (.int .u32 (dg r k))) h z nx q):
 wpM T sh nx0 (.ops base res (⟨i,some dst,none,g,.load hint false 1 a⟩::rest)::s) .normal t h z nx q:=by
 subst hkk
 exact qn1 ha hr (q2B hl) rfl hk
end
theorem q2F (l:List Nat) [ho:LOk l](hl:l.length≤4000000000):PU qoU [nat l]=some (nat (q0f (val l))):=by
 refine q0g (fn:=qcX) rfl (q0a ?_)
 refine gg rfl (q0l (S:=fun n:Nat=>([nat l,q00 n],[none,none],[0,0])) (C:=fun n=>n≤l.length∧∀i,n≤i→dg l i=0) (m:=fun n=>n) l.length ⟨Nat.le_refl _,fun i hi=>q7l hi⟩ (by omega) ?_ ?_)
 ·exact q03 rfl trivial (by simp[nat,q00])
 intro n ⟨hn,h0⟩ N hN
 have fin:(n=0∨dg l (n-1)≠0)→D.lst ((l.map u32).take n)=nat (q0f (val l)):=fun h=>by
  rw[nat,←qsz ho hn h0 h,List.map_take]
 refine gg rfl (q09 rfl (fun h1=>?_) (fun h1=>?_))
 ·rw[q06]at h1
  have w1:IntKind.i64.wrap ((n:Int)-1)=((n-1:Nat):Int):=by rw[wrap64 (by omega) (by omega)];omega
  refine gg rfl (q0i (n-1) rfl rfl w1 (q2B (by omega)) rfl ?_)
  refine gg rfl (q01 rfl (fun h2=>?_) (fun h2=>?_))
  ·rw[q1n]at h2
   refine gg rfl (q04 (hN (n-1) ⟨by omega,fun i hi=>?_⟩ (by omega) (q03 rfl trivial (by simp[nat,q00,w1]))))
   by_cases hin:i=n-1
   ·subst hin;omega
   exact h0 i (by omega)
  rw[q1Q]at h2
  refine gg rfl (q04 (gg rfl (qcK n rfl (q1o (f:=u32) (n:=1) (fun _=>rfl) _) ⟨_,_,rfl,rfl⟩ (by simpa using hn) ?_)))
  refine gg rfl (q08 rfl rfl rfl trivial (fin (.inr ?_)))
  omega
 rw[q07]at h1
 refine gg rfl (q0j rfl (gg rfl (q04 (gg rfl (qcK n rfl (q1o (f:=u32) (n:=1) (fun _=>rfl) _) ⟨_,_,rfl,rfl⟩ (by simpa using hn) ?_)))))
 refine gg rfl (q08 rfl rfl rfl trivial (fin (.inl (by omega))))
theorem q3H {l:List Nat}{n:Nat}(hn:n=l.length):0+n≤(l.map u32).length∧(((l.map u32).drop 0).take n).all (dat 4)=true:=by
 subst hn
 refine⟨by simp,?_⟩
 rw[List.drop_zero,List.take_of_length_le (by simp)]
 exact q0W qAY _
theorem q42 {l:List Nat}{n:Nat}(hn:n=l.length):D.lst ((l.map u32).take n)=nat l:=by
 subst hn
 rw[nat,List.take_of_length_le (by simp)]
theorem q6E (n:Nat)(hn:n<18446744073709551616):PU qtX [.int .u64 n]=some (nat (q0f n)):=by
 have:LOk [n%4294967296,n/4294967296]:=⟨by simp;omega⟩
 have hp:=q2F [n%4294967296,n/4294967296] (by simp)
 have hv:val [n%4294967296,n/4294967296]=n:=by simp[val];omega
 rw[hv]at hp
 refine q0g (fn:=qh2) rfl (q0a ?_)
 refine gg rfl (q19 n 32 rfl rfl rfl rfl (by decide) ?_)
 refine gg rfl ?_
 rw[q13,q13,show n/2^32%4294967296=n/4294967296 by omega]
 exact q1T rfl rfl ⟨q3H (l:=[n%4294967296,n/4294967296]) rfl,trivial⟩ hp fun z=>(gg rfl (q08 rfl rfl rfl trivial rfl))
theorem q5h (l:List Nat) [ho:LOk l](hl:l.length≤4000000000):PU qoY [nat l]=some (nat (q0f (val l))):=by
 have hlen:(q0f (val l)).length≤l.length:=q0q.2 (q2Y ho)
 refine q0g (fn:=qdE) rfl (q0a ?_)
 refine gg rfl (q02 rfl rfl (q2F l hl) (gg rfl (q44 (q0f (val l)).length rfl rfl (by simp) (by simp[q0M];omega) ?_)))
 refine gg rfl (qHt rfl rfl rfl rfl (q1o (f:=u32) (n:=1) (fun _=>rfl) _) (by simp) (Nat.zero_le _) ?_)
 refine gg rfl ?_
 have e:List.take 0 (List.replicate (q0f (val l)).length (D.int IntKind.u32 0))++((q0f (val l)).map u32).take (min ((q0f (val l)).map u32).length (q0f (val l)).length)++(List.replicate (q0f (val l)).length (D.int IntKind.u32 0)).drop (0+min ((q0f (val l)).map u32).length (q0f (val l)).length)=(q0f (val l)).map u32:=by
  simp
  rw[List.take_of_length_le (by simp)]
 rw[e]
 exact q08 rfl rfl rfl ⟨q3H rfl,trivial⟩ (q42 rfl)
theorem qgv (n:Nat):PU q8t [.int .u32 n]=some (.bool false):=by
 refine q0g (fn:=q87) rfl (q0a ?_)
 repeat' (first
  |refine goP 800 rfl rfl ?_
  |refine q0h rfl ?_|refine q0n rfl ?_|refine q09 rfl (fun _=>?_) (fun _=>?_)
  |refine q0d rfl ?_|refine q0j rfl ?_|refine q01 rfl (fun _=>?_) (fun _=>?_)
  |refine q0N rfl (fun _=>?_) (fun _=>?_)
  |refine q08 rfl rfl rfl trivial ?_)
 simp[nqb]
theorem quc (a b:Nat):PU qdV [.int .u32 a,.int .u32 b]=some (.int .i64 (q3B a b)):=by
 refine q0g (fn:=q6Q) rfl (q0a ?_)
 repeat' (first
  |refine goP 800 rfl rfl ?_
  |refine q0h rfl ?_|refine q0n rfl ?_|refine q09 rfl (fun _=>?_) (fun _=>?_)
  |refine q0d rfl ?_|refine q0j rfl ?_|refine q01 rfl (fun _=>?_) (fun _=>?_)
  |refine q0N rfl (fun _=>?_) (fun _=>?_)
  |refine q08 rfl rfl rfl trivial ?_
  |refine q02 rfl rfl (qgv _) ?_)
 all_goals ((try simp only[q1J,q27,q2e,q40,decide_eq_true_eq,decide_eq_false_iff_not,Bool.not_eq_true,Bool.not_eq_false,Int.not_lt,Int.not_le]at*);first|(simp_all[q3B];done) |(simp_all[q3B];omega) |(rw[D.bool.injEq,Bool.eq_iff_iff];simp[q3B];omega) |(rw[D.bool.injEq,Bool.eq_iff_iff];simp_all[q3B];omega) |(simp[q3B];split<;>(try split)<;>omega))
theorem qsB {a b:List Nat}(ha:LOk a){i:Nat}(h:a.drop (i+1)=b.drop (i+1))(hi:dg a i<dg b i):val a<val b:=by
 have e1:=q2L a i
 have e2:=q2L b i
 rw[q2R]at e1 e2
 rw[h]at e1
 have h1:=q2Y (ha.take i)
 have h3:4294967296^(a.take i).length≤4294967296^i:=Nat.pow_le_pow_right (by decide) (by simp;omega)
 generalize 4294967296^i=P at*
 generalize 4294967296*val (List.drop (i+1) b)=R at*
 have h2:P*(dg a i+R)+P≤P*(dg b i+R):=by
  rw[←Nat.mul_succ];exact Nat.mul_le_mul_left _ (by omega)
 omega
theorem qpe (a b:List Nat) [ha:LOk a] [hb:LOk b](hla:a.length≤1000000000)(hlb:b.length≤1000000000):PU q9B [nat a,nat b]=some (.int .i64 (q3B (val a) (val b))):=by
 have ea:val (q0f (val a))=val a:=q0o _
 have eb:val (q0f (val b))=val b:=q0o _
 have hla':(q0f (val a)).length≤a.length:=q0q.2 (q2Y ha)
 have hlb':(q0f (val b)).length≤b.length:=q0q.2 (q2Y hb)
 refine q0g (fn:=qfH) rfl (q0a ?_)
 refine gg rfl (q02 rfl rfl (q2F a (by omega)) ?_)
 refine gg rfl (q02 rfl rfl (q2F b (by omega)) ?_)
 refine gg rfl (q02 rfl rfl (qgg _ _) (gg rfl ?_))
 rw[List.length_map,List.length_map]
 refine q01 rfl (fun h1=>?_) (fun h1=>?_)
 ·rw[q0u]at h1
  refine gg rfl (q08 rfl rfl rfl trivial ?_)
  congr 1
  unfold q3B at h1⊢
  rcases Nat.lt_trichotomy (q0f (val a)).length (q0f (val b)).length with h|h|h
  ·have h2:¬val b<4294967296^(q0f (val a)).length:=fun h3=>by have:=q0q.2 h3;omega
   have h3:val a<4294967296^(q0f (val a)).length:=q0q.1 (Nat.le_refl _)
   rw[if_pos (by omega),if_pos (by omega)]
  ·rw[if_neg (by omega),if_neg (by omega)]at h1;exact absurd rfl h1
  have h2:¬val a<4294967296^(q0f (val b)).length:=fun h3=>by have:=q0q.2 h3;omega
  have h3:val b<4294967296^(q0f (val b)).length:=q0q.1 (Nat.le_refl _)
  rw[if_neg (by omega),if_pos (by omega),if_neg (by omega),if_pos (by omega)]
 rw[q0z]at h1
 have hlen:(q0f (val a)).length=(q0f (val b)).length:=by
  unfold q3B at h1
  split at h1
  ·cases h1
  split at h1
  ·cases h1
  omega
 generalize hA:q0f (val a)=A at*
 generalize hB:q0f (val b)=B at*
 have hAo:LOk A:=hA▸q0A _
 have hBo:LOk B:=hB▸q0A _
 refine gg rfl (q0l (S:=fun n:Nat=>([nat A,nat B,q00 ((n:Int)-1)],[none,none,none],[0,0,0])) (C:=fun n=>n≤A.length∧A.drop n=B.drop n) (m:=fun n=>n) A.length ⟨Nat.le_refl _,by rw[List.drop_length,hlen,List.drop_length]⟩ (by omega) ?_ ?_)
 ·exact q03 rfl trivial (by simp[nat,q00];exact wrap64 (by omega) (by omega))
 intro n ⟨hn,hd⟩ N hN
 refine gg rfl (q01 rfl (fun h2=>?_) (fun h2=>?_))
 ·rw[q0E]at h2
  refine gg rfl (q0i (n-1) rfl rfl (by omega) (q2B (by omega)) rfl ?_)
  refine gg rfl (q0i (n-1) rfl rfl (by omega) (q2B (by omega)) rfl ?_)
  refine gg rfl (q02 rfl rfl (quc _ _) (gg rfl (q01 rfl (fun h3=>?_) (fun h3=>?_))))
  ·rw[q0u]at h3
   refine gg rfl (q04 (gg rfl (q08 rfl rfl rfl trivial ?_)))
   congr 1
   unfold q3B at h3⊢
   have hd':A.drop (n-1+1)=B.drop (n-1+1):=by rw[Nat.sub_add_cancel (by omega)];exact hd
   rcases Nat.lt_trichotomy (dg A (n-1)) (dg B (n-1))with h|h|h
   ·have:=qsB hAo hd' h
    rw[if_pos (by omega),if_pos (by omega)]
   ·rw[if_neg (by omega),if_neg (by omega)]at h3;exact absurd rfl h3
   have:=qsB hBo hd'.symm h
   rw[if_neg (by omega),if_pos (by omega),if_neg (by omega),if_pos (by omega)]
  rw[q0z]at h3
  have heq:dg A (n-1)=dg B (n-1):=by
   unfold q3B at h3
   split at h3
   ·cases h3
   split at h3
   ·cases h3
   omega
  refine gg rfl (q04 (hN (n-1) ⟨by omega,?_⟩ (by omega) (q03 rfl trivial ?_)))
  ·have e1:A.drop (n-1)=dg A (n-1)::A.drop n:=by rw[List.drop_eq_getElem_cons (by omega),qjx (by omega),Nat.sub_add_cancel (by omega)]
   have e2:B.drop (n-1)=dg B (n-1)::B.drop n:=by rw[List.drop_eq_getElem_cons (by omega),qjx (by omega),Nat.sub_add_cancel (by omega)]
   rw[e1,e2,heq,hd]
  have w:IntKind.i64.wrap ((n:Int)-1-1)=((n-1:Nat):Int)-1:=by rw[wrap64 (by omega) (by omega)];omega
  simp[nat,q00,w]
 rw[q0F]at h2
 obtain rfl:n=0:=by omega
 refine gg rfl (q04 (gg rfl (q08 rfl rfl rfl trivial ?_)))
 have:val a=val b:=by rw[←ea,←eb];simp at hd;rw[hd]
 simp[q3B,this]
end Go.F

namespace Go.F
attribute [local irreducible] IntKind.wrap wpM
theorem q2G {r:List Nat}{k v:Nat}(h:k<r.length):val ((r.set k v).take (k+1))=val (r.take k)+4294967296^k*v:=by
 rw[q0R,q3c,if_pos ⟨rfl,h⟩,List.take_set_of_le (Nat.le_refl _)]
theorem q1F {l:List Nat}(h:LOk l):(q0f (val l)).length≤l.length:=q0q.2 (q2Y h)
set_option maxHeartbeats 2000000 in
theorem qud (a b:List Nat) [ha:LOk a] [hb:LOk b](hla:a.length≤1000000000)(hlb:b.length≤1000000000):PU qqX [nat a,nat b]=some (nat (q0f (val a+val b))):=by
 have ea:val (q0f (val a))=val a:=q0o _
 have eb:val (q0f (val b))=val b:=q0o _
 have hla':=q1F ha
 have hlb':=q1F hb
 refine q0g (fn:=qfO) rfl (q0a ?_)
 refine gg rfl (q02 rfl rfl (q2F a (by omega)) ?_)
 refine gg rfl (q02 rfl rfl (q2F b (by omega)) ?_)
 refine gg rfl ?_
 rw[List.length_map,List.length_map]
 have hAo:LOk (q0f (val a)):=q0A _
 have hBo:LOk (q0f (val b)):=q0A _
 generalize q0f (val a)=P at*
 generalize q0f (val b)=Q at*
 refine q01 rfl (fun h1=>?_) (fun h1=>?_)
 ·rw[q06]at h1
  have hx:=hAo
  clear hAo
  have hAo:=hBo
  clear hBo
  have hBo:=hx
  refine gg rfl (q44 0 rfl rfl rfl (by rw[List.length_map,wrap64 (by omega) (by omega)];simp[q0M];omega) ?_)
  refine gg rfl ?_
  refine q0l (S:=fun x:Nat×List Nat×Nat=>([nat P,.ref 1 0 x.2.1.length,.int .u64 x.2.2,nat Q,q00 Q.length,q00 x.1],[none,some (.row (x.2.1.map u32) 1),none,none,none,none],[0,0,0,0,0,0]))
   (C:=fun x=>x.1≤Q.length∧x.2.1.length=x.1∧LOk x.2.1∧x.2.2≤1∧val x.2.1+4294967296^x.1*x.2.2=val (Q.take x.1)+val (P.take x.1)) (m:=fun x=>Q.length-x.1) (0,[],0) ⟨Nat.zero_le _,rfl,qpc,by decide,by simp[val]⟩ (by simp;omega) ?_ ?_
  ·exact q03 rfl ⟨rfl,trivial⟩ (by simp[nat,q00])
  rintro⟨k,r,c⟩ ⟨hk,hr,hro,hc,hinv⟩ N hN
  simp only at hk hr hro hc hinv
  refine gg rfl (q01 rfl (fun h2=>?_) (fun h2=>?_))
  ·rw[q06]at h2
   have hlt:k<Q.length:=by omega
   have hx:=q1j hAo k
   have hy:=q1j hBo k
   have w1:=wS (n:=k)
   have next:∀{t:q0x} {h:q0e} {z:Frz} {nx:Nat},(q12 0 [(1,0),(5,1),(6,0),(24,0),(25,0),(26,0)] t h z nx fun _ _ kp=>kp=([nat P,.ref 1 0 (r++[(c+dg Q k+dg P k)%4294967296]).length,.int .u64 ((c+dg Q k+dg P k)/2^32:Nat),nat Q,q00 Q.length,q00 ((k+1:Nat):Int)],[none,some (.row ((r++[(c+dg Q k+dg P k)%4294967296]).map u32) 1),none,none,none,none],[0,0,0,0,0,0]))→N t h z nx:=by
    intro t h z nx hst
    refine hN (k+1,r++[(c+dg Q k+dg P k)%4294967296],(c+dg Q k+dg P k)/2^32) ⟨hlt,by simp[hr],hro.snoc (by omega),by simp only;omega,?_⟩ (by simp only;omega) hst
    simp only
    rw[q5Y,hr,q0R,q0R,Nat.pow_succ,Nat.add_assoc,show(2:Nat)^32=4294967296 by decide,q4j,Nat.mul_add,Nat.mul_add]
    omega
   clear hN
   refine gg rfl (q0i k rfl rfl rfl (q2B hlt) rfl (gg rfl ?_))
   rw[List.length_map]
   refine q01 rfl (fun h3=>?_) (fun h3=>?_)
   ·rw[q06]at h3
    refine gg rfl (q0i k rfl rfl rfl (q2B (by omega)) rfl ?_)
    refine gg rfl ?_
    have e:IntKind.u64.wrap (IntKind.u64.wrap ((c:Int)+IntKind.u64.wrap (dg Q k:Int))+IntKind.u64.wrap (dg P k:Int))=((c+dg Q k+dg P k:Nat):Int):=by simp only[q0U];omega
    rw[e,q13]
    refine q1b rfl rfl rfl rfl rfl rfl (by simp) (Nat.zero_le _) (by simp[q0M];omega) ?_
    refine gg rfl (q19 (c+dg Q k+dg P k) 32 rfl rfl rfl rfl (by decide) ?_)
    refine gg rfl (q04 (next (q03 rfl ⟨?_,trivial⟩ ?_)))
    ·rw[List.all_append,q05 q0t];rfl
    simp[nat,q00,w1,u32]
   rw[q07]at h3
   have h0:dg P k=0:=q7l (by omega)
   refine gg rfl ?_
   have e:IntKind.u64.wrap ((c:Int)+IntKind.u64.wrap (dg Q k:Int))=((c+dg Q k+dg P k:Nat):Int):=by simp only[q0U];omega
   rw[e,q13]
   refine q1b rfl rfl rfl rfl rfl rfl (by simp) (Nat.zero_le _) (by simp[q0M];omega) ?_
   refine gg rfl (q19 (c+dg Q k+dg P k) 32 rfl rfl rfl rfl (by decide) ?_)
   refine gg rfl (q04 (next (q03 rfl ⟨?_,trivial⟩ ?_)))
   ·rw[List.all_append,q05 q0t];rfl
   simp[nat,q00,w1,u32]
  rw[q07]at h2
  obtain rfl:k=Q.length:=by omega
  rw[List.take_length,List.take_of_length_le (l:=P) (by omega)]at hinv
  refine gg rfl (q04 (gg rfl ?_))
  have ec:IntKind.u32.wrap (c:Int)=(c:Int):=by rw[q13];omega
  rw[ec]
  refine q1b rfl rfl rfl rfl rfl rfl (by simp) (Nat.zero_le _) (by simp[q0M];omega) ?_
  refine gg rfl ?_
  have:LOk (r++[c]):=hro.snoc (by omega)
  have hp:=q2F (r++[c]) (by simp;omega)
  have hv:val (r++[c])=val a+val b:=by rw[q5Y,hr,hinv];exact(by omega)
  rw[hv]at hp
  have er:r.map u32++[D.int IntKind.u32 (c:Int)]=(r++[c]).map u32:=by simp[u32]
  rw[er]
  refine q1T rfl rfl ⟨q3H (l:=r++[c]) (by simp),trivial⟩ (by rw[q42 (by simp)];exact hp) fun z=>?_
  exact gg rfl (q08 rfl rfl rfl trivial rfl)
 rw[q07]at h1
 refine gg rfl (q44 0 rfl rfl rfl (by rw[List.length_map,wrap64 (by omega) (by omega)];simp[q0M];omega) ?_)
 refine gg rfl ?_
 refine q0l (S:=fun x:Nat×List Nat×Nat=>([nat Q,.ref 1 0 x.2.1.length,.int .u64 x.2.2,nat P,q00 P.length,q00 x.1],[none,some (.row (x.2.1.map u32) 1),none,none,none,none],[0,0,0,0,0,0]))
  (C:=fun x=>x.1≤P.length∧x.2.1.length=x.1∧LOk x.2.1∧x.2.2≤1∧val x.2.1+4294967296^x.1*x.2.2=val (P.take x.1)+val (Q.take x.1)) (m:=fun x=>P.length-x.1) (0,[],0) ⟨Nat.zero_le _,rfl,qpc,by decide,by simp[val]⟩ (by simp;omega) ?_ ?_
 ·exact q03 rfl ⟨rfl,trivial⟩ (by simp[nat,q00])
 rintro⟨k,r,c⟩ ⟨hk,hr,hro,hc,hinv⟩ N hN
 simp only at hk hr hro hc hinv
 refine gg rfl (q01 rfl (fun h2=>?_) (fun h2=>?_))
 ·rw[q06]at h2
  have hlt:k<P.length:=by omega
  have hx:=q1j hAo k
  have hy:=q1j hBo k
  have w1:=wS (n:=k)
  have next:∀{t:q0x} {h:q0e} {z:Frz} {nx:Nat},(q12 0 [(1,0),(5,1),(6,0),(24,0),(25,0),(26,0)] t h z nx fun _ _ kp=>kp=([nat Q,.ref 1 0 (r++[(c+dg P k+dg Q k)%4294967296]).length,.int .u64 ((c+dg P k+dg Q k)/2^32:Nat),nat P,q00 P.length,q00 ((k+1:Nat):Int)],[none,some (.row ((r++[(c+dg P k+dg Q k)%4294967296]).map u32) 1),none,none,none,none],[0,0,0,0,0,0]))→N t h z nx:=by
   intro t h z nx hst
   refine hN (k+1,r++[(c+dg P k+dg Q k)%4294967296],(c+dg P k+dg Q k)/2^32) ⟨hlt,by simp[hr],hro.snoc (by omega),by simp only;omega,?_⟩ (by simp only;omega) hst
   simp only
   rw[q5Y,hr,q0R,q0R,Nat.pow_succ,Nat.add_assoc,show(2:Nat)^32=4294967296 by decide,q4j,Nat.mul_add,Nat.mul_add]
   omega
  clear hN
  refine gg rfl (q0i k rfl rfl rfl (q2B hlt) rfl (gg rfl ?_))
  rw[List.length_map]
  refine q01 rfl (fun h3=>?_) (fun h3=>?_)
  ·rw[q06]at h3
   refine gg rfl (q0i k rfl rfl rfl (q2B (by omega)) rfl ?_)
   refine gg rfl ?_
   have e:IntKind.u64.wrap (IntKind.u64.wrap ((c:Int)+IntKind.u64.wrap (dg P k:Int))+IntKind.u64.wrap (dg Q k:Int))=((c+dg P k+dg Q k:Nat):Int):=by simp only[q0U];omega
   rw[e,q13]
   refine q1b rfl rfl rfl rfl rfl rfl (by simp) (Nat.zero_le _) (by simp[q0M];omega) ?_
   refine gg rfl (q19 (c+dg P k+dg Q k) 32 rfl rfl rfl rfl (by decide) ?_)
   refine gg rfl (q04 (next (q03 rfl ⟨?_,trivial⟩ ?_)))
   ·rw[List.all_append,q05 q0t];rfl
   simp[nat,q00,w1,u32]
  rw[q07]at h3
  have h0:dg Q k=0:=q7l (by omega)
  refine gg rfl ?_
  have e:IntKind.u64.wrap ((c:Int)+IntKind.u64.wrap (dg P k:Int))=((c+dg P k+dg Q k:Nat):Int):=by simp only[q0U];omega
  rw[e,q13]
  refine q1b rfl rfl rfl rfl rfl rfl (by simp) (Nat.zero_le _) (by simp[q0M];omega) ?_
  refine gg rfl (q19 (c+dg P k+dg Q k) 32 rfl rfl rfl rfl (by decide) ?_)
  refine gg rfl (q04 (next (q03 rfl ⟨?_,trivial⟩ ?_)))
  ·rw[List.all_append,q05 q0t];rfl
  simp[nat,q00,w1,u32]
 rw[q07]at h2
 obtain rfl:k=P.length:=by omega
 rw[List.take_length,List.take_of_length_le (l:=Q) (by omega)]at hinv
 refine gg rfl (q04 (gg rfl ?_))
 have ec:IntKind.u32.wrap (c:Int)=(c:Int):=by rw[q13];omega
 rw[ec]
 refine q1b rfl rfl rfl rfl rfl rfl (by simp) (Nat.zero_le _) (by simp[q0M];omega) ?_
 refine gg rfl ?_
 have:LOk (r++[c]):=hro.snoc (by omega)
 have hp:=q2F (r++[c]) (by simp;omega)
 have hv:val (r++[c])=val a+val b:=by rw[q5Y,hr,hinv];exact(by omega)
 rw[hv]at hp
 have er:r.map u32++[D.int IntKind.u32 (c:Int)]=(r++[c]).map u32:=by simp[u32]
 rw[er]
 refine q1T rfl rfl ⟨q3H (l:=r++[c]) (by simp),trivial⟩ (by rw[q42 (by simp)];exact hp) fun z=>?_
 exact gg rfl (q08 rfl rfl rfl trivial rfl)
set_option maxHeartbeats 2000000 in
theorem qFi (a b:List Nat) [ha:LOk a] [hb:LOk b](hla:a.length≤1000000000)(hlb:b.length≤1000000000):
 PU qr2 [nat a,nat b]=some (if val a<val b then .tup [nat [],.bool false]else .tup [nat (q0f (val a-val b)),.bool true]):=by
 have ea:val (q0f (val a))=val a:=q0o _
 have eb:val (q0f (val b))=val b:=q0o _
 have hla':=q1F ha
 have hlb':=q1F hb
 refine q0g (fn:=qfS) rfl (q0a ?_)
 refine gg rfl (q02 rfl rfl (q2F a (by omega)) ?_)
 refine gg rfl (q02 rfl rfl (q2F b (by omega)) ?_)
 refine gg rfl ?_
 have hAo:LOk (q0f (val a)):=q0A _
 have hBo:LOk (q0f (val b)):=q0A _
 have hlen:val b≤val a→(q0f (val b)).length≤(q0f (val a)).length:=fun h=>q0q.2 (Nat.lt_of_le_of_lt h (q0q.1 (Nat.le_refl _)))
 generalize q0f (val a)=A at*
 generalize q0f (val b)=B at*
 refine q02 rfl rfl (qpe A B (by omega) (by omega)) ?_
 refine gg rfl ?_
 rw[ea,eb]
 refine q01 rfl (fun h1=>?_) (fun h1=>?_)
 ·rw[q06]at h1
  have:val a<val b:=by
   unfold q3B at h1
   split at h1
   ·omega
   split at h1<;>omega
  refine gg rfl (q08 rfl rfl rfl trivial ?_)
  rw[if_pos this];rfl
 rw[q07]at h1
 have hle:val b≤val a:=by
  unfold q3B at h1
  split at h1
  ·omega
  omega
 rw[if_neg (by omega)]
 refine gg rfl (q44 A.length rfl rfl (by simp) (by simp[q0M];omega) ?_)
 refine gg rfl ?_
 refine q0l (S:=fun x:Nat×List Nat×Nat=>([nat B,.ref 1 0 A.length,.int .u64 x.2.2,nat A,q00 A.length,q00 x.1],[none,some (.row (x.2.1.map u32) 1),none,none,none,none],[0,0,0,0,0,0]))
  (C:=fun x=>x.1≤A.length∧x.2.1.length=A.length∧LOk x.2.1∧x.2.2≤1∧val (x.2.1.take x.1)+val (B.take x.1)=val (A.take x.1)+4294967296^x.1*x.2.2) (m:=fun x=>A.length-x.1) (0,List.replicate A.length 0,0)
  ⟨Nat.zero_le _,by simp,q54 _,Nat.zero_le _,by simp[val]⟩ (by simp;omega) ?_ ?_
 ·refine q03 rfl ⟨?_,trivial⟩ (by simp[nat,q00,u32])
  rw[List.all_eq_true];intro x hx;rw[(List.mem_replicate.1 hx).2];rfl
 rintro⟨k,r,c⟩ ⟨hk,hr,hro,hc,hinv⟩ N hN
 simp only at hk hr hro hc hinv
 refine gg rfl (q01 rfl (fun h2=>?_) (fun h2=>?_))
 ·rw[q06]at h2
  have hlt:k<A.length:=by omega
  have hx:=q1j hAo k
  have hy:=q1j hBo k
  have w1:=wS (n:=k)
  have next:∀(v c':Nat),v<4294967296→c'≤1→v+(c+dg B k)=dg A k+4294967296*c'→∀{t:q0x} {h:q0e} {z:Frz} {nx:Nat},(q12 0 [(1,0),(6,0),(7,0),(22,0),(23,0),(24,0)] t h z nx fun _ _ kp=>kp=([nat B,.ref 1 0 A.length,.int .u64 c',nat A,q00 A.length,q00 ((k+1:Nat):Int)],[none,some (.row ((r.set k v).map u32) 1),none,none,none,none],[0,0,0,0,0,0]))→N t h z nx:=by
   intro v c' hv hc' he t h z nx hst
   refine hN (k+1,r.set k v,c') ⟨hlt,by simp[hr],hro.set k hv,hc',?_⟩ (by simp only;omega) hst
   simp only
   rw[q2G (by omega),q0R,q0R,Nat.pow_succ]
   have e2:4294967296^k*v+(4294967296^k*c+4294967296^k*dg B k)=4294967296^k*dg A k+4294967296^k*4294967296*c':=by
    rw[←Nat.mul_add,←Nat.mul_add,he,Nat.mul_add,Nat.mul_assoc]
   omega
  clear hN
  refine gg rfl (q0i k rfl rfl rfl (q2B hlt) rfl (gg rfl ?_))
  rw[List.length_map]
  have body:∀d:Int,d=((dg A k:Int)-c-dg B k)%18446744073709551616→
   (∃v c':Nat,IntKind.u32.wrap d=v∧d=((d.toNat:Nat):Int)∧d.toNat/2^63=c'∧v<4294967296∧c'≤1∧v+(c+dg B k)=dg A k+4294967296*c'):=by
   intro d hd
   rw[qaI]
   refine⟨(d%4294967296).toNat,d.toNat/2^63,by omega,by omega,rfl,by omega,by omega,by omega⟩
  refine q01 rfl (fun h3=>?_) (fun h3=>?_)
  ·rw[q06]at h3
   refine gg rfl (q0i k rfl rfl rfl (q2B (by omega)) rfl ?_)
   refine gg rfl ?_
   obtain⟨v,c',g1,g2,g3,g4,g5,g6⟩:=body (IntKind.u64.wrap (IntKind.u64.wrap (IntKind.u64.wrap (dg A k:Int)-(c:Int))-IntKind.u64.wrap (dg B k:Int))) (by simp only[q0U];omega)
   generalize IntKind.u64.wrap (IntKind.u64.wrap (IntKind.u64.wrap (dg A k:Int)-(c:Int))-IntKind.u64.wrap (dg B k:Int))=d at*
   rw[g1]
   refine q0H k rfl rfl rfl rfl rfl hlt (gg rfl (q20 r k v rfl rfl (Nat.zero_add _) rfl rfl (Nat.zero_le _) (by omega) ?_))
   refine gg rfl (q19 d.toNat 63 rfl rfl g2 rfl (by decide) ?_)
   rw[g3]
   exact gg rfl (q04 (next v c' g4 g5 g6 (q03 rfl ⟨q05 q0t _,trivial⟩ (by simp[nat,q00,w1]))))
  rw[q07]at h3
  have h0:dg B k=0:=q7l (by omega)
  refine gg rfl ?_
  obtain⟨v,c',g1,g2,g3,g4,g5,g6⟩:=body (IntKind.u64.wrap (IntKind.u64.wrap (dg A k:Int)-(c:Int))) (by simp only[q0U];omega)
  generalize IntKind.u64.wrap (IntKind.u64.wrap (dg A k:Int)-(c:Int))=d at*
  rw[g1]
  refine q0H k rfl rfl rfl rfl rfl hlt (gg rfl (q20 r k v rfl rfl (Nat.zero_add _) rfl rfl (Nat.zero_le _) (by omega) ?_))
  refine gg rfl (q19 d.toNat 63 rfl rfl g2 rfl (by decide) ?_)
  rw[g3]
  exact gg rfl (q04 (next v c' g4 g5 g6 (q03 rfl ⟨q05 q0t _,trivial⟩ (by simp[nat,q00,w1]))))
 rw[q07]at h2
 obtain rfl:k=A.length:=by omega
 rw[List.take_length,List.take_of_length_le (l:=r) (by omega)]at hinv
 refine gg rfl (q04 (gg rfl ?_))
 have hp:=q2F r (by omega)
 have hlen:=hlen hle
 rw[List.take_of_length_le (by omega)]at hinv
 have hv:val r=val a-val b:=by
  have h1:=q2Y hro
  rw[hr]at h1
  have hc0:c=0∨c=1:=by omega
  rcases hc0 with rfl|rfl
  ·omega
  omega
 rw[hv]at hp
 refine q1T rfl rfl ⟨q3H (l:=r) hr.symm,trivial⟩ (by rw[q42 (l:=r) hr.symm];exact hp) fun z=>?_
 exact gg rfl (q08 rfl rfl rfl trivial rfl)
end Go.F

namespace Go.F
attribute [local irreducible] IntKind.wrap wpM
theorem q7r (n:Nat):List.replicate n (D.int IntKind.u32 0)=(List.replicate n 0).map u32:=by
 simp[u32]
theorem qaJ {x y:Nat}(hx:x<4294967296)(hy:y<4294967296):x*y≤18446744065119617025:=by
 calc x*y≤4294967295*4294967295:=Nat.mul_le_mul (by omega) (by omega)
  _=18446744065119617025:=by decide
set_option maxHeartbeats 4000000 in
theorem qpf (a b:List Nat) [ha:LOk a] [hb:LOk b](hla:a.length≤1000000000)(hlb:b.length≤1000000000):PU qqS [nat a,nat b]=some (nat (q0f (val a*val b))):=by
 have ea:val (q0f (val a))=val a:=q0o _
 have eb:val (q0f (val b))=val b:=q0o _
 have hla':=q1F ha
 have hlb':=q1F hb
 refine q0g (fn:=qfv) rfl (q0a ?_)
 refine gg rfl (q02 rfl rfl (q2F a (by omega)) ?_)
 refine gg rfl (q02 rfl rfl (q2F b (by omega)) ?_)
 refine gg rfl ?_
 have hAo:LOk (q0f (val a)):=q0A _
 have hBo:LOk (q0f (val b)):=q0A _
 generalize q0f (val a)=A at*
 generalize q0f (val b)=B at*
 have w0:IntKind.i64.wrap (((A.map u32).length:Int)+((B.map u32).length:Int))=((A.length+B.length:Nat):Int):=by rw[List.length_map,List.length_map,wrap64 (by omega) (by omega)];omega
 rw[w0]
 refine q44 (A.length+B.length) rfl rfl rfl (by simp[q0M];omega) ?_
 rw[q7r]
 refine gg rfl ?_
 refine q0l (S:=fun x:Nat×List Nat=>([nat B,.ref 1 0 (A.length+B.length),nat A,q00 A.length,q00 x.1],[none,some (.row (x.2.map u32) 1),none,none,none],[0,0,0,0,0]))
  (C:=fun x=>x.1≤A.length∧x.2.length=A.length+B.length∧LOk x.2∧val x.2=val (A.take x.1) *val B∧∀j,x.1+B.length≤j→dg x.2 j=0) (m:=fun x=>A.length-x.1) (0,List.replicate (A.length+B.length) 0)
  ⟨Nat.zero_le _,by simp,q54 _,by simp[val,qaH],fun j _=>q6X _ _⟩ (by simp;omega) ?_ ?_
 ·exact q03 rfl ⟨q05 q0t _,trivial⟩ (by simp[nat,q00])
 rintro⟨k,r⟩ ⟨hk,hr,hro,hinv,hz⟩ N hN
 simp only at hk hr hro hinv hz
 refine gg rfl (q01 rfl (fun h2=>?_) (fun h2=>?_))
 ·rw[q06]at h2
  have hlt:k<A.length:=by omega
  have hx:=q1j hAo k
  have w1:=wS (n:=k)
  refine gg rfl (q0i k rfl rfl rfl (q2B hlt) rfl (gg rfl ?_))
  refine q0l (S:=fun x:Nat×List Nat×Nat=>([nat B,.ref 1 0 (A.length+B.length),q00 k,u32 (dg A k),.int .u64 x.2.2,nat A,q00 A.length,q00 k,nat B,q00 B.length,q00 x.1],[none,some (.row (x.2.1.map u32) 1),none,none,none,none,none,none,none,none,none],[0,0,0,0,0,0,0,0,0,0,0]))
   (C:=fun x=>x.1≤B.length∧x.2.1.length=A.length+B.length∧LOk x.2.1∧x.2.2<4294967296∧val x.2.1+4294967296^(k+x.1) *x.2.2=val r+4294967296^k*(dg A k*val (B.take x.1))∧∀j,k+x.1≤j→dg x.2.1 j=dg r j) (m:=fun x=>B.length-x.1) (0,r,0)
   ⟨Nat.zero_le _,hr,hro,by simp,by simp[val],fun j _=>rfl⟩ (by simp;omega) ?_ ?_
  ·exact q03 rfl ⟨q05 q0t _,trivial⟩ (by simp[nat,q00,u32])
  rintro⟨i,r',c⟩ ⟨hi,hr',hro',hc,hinv',hz'⟩ N2 hN2
  simp only at hi hr' hro' hc hinv' hz'
  refine gg rfl (q01 rfl (fun h3=>?_) (fun h3=>?_))
  ·rw[q06]at h3
   have hil:i<B.length:=by omega
   have hy:=q1j hBo i
   have hq:=q1j hro' (k+i)
   have hxy:=qaJ hx hy
   have wi:=wS (n:=i)
   have wki:IntKind.i64.wrap ((k:Int)+i)=((k+i:Nat):Int):=by rw[wrap64 (by omega) (by omega)];omega
   refine gg rfl (q0i i rfl rfl rfl (q2B hil) rfl (gg rfl (q0H (k+i) rfl rfl rfl rfl wki (by omega) ?_)))
   refine gg rfl (q4k r' (k+i) rfl (Nat.zero_add _) rfl (by omega) ?_)
   refine gg rfl ?_
   have e1:((dg A k*dg B i:Nat):Int)=(dg A k:Int) *(dg B i:Int):=by simp
   have e:IntKind.u64.wrap ((c:Int)+IntKind.u64.wrap (IntKind.u64.wrap (IntKind.u64.wrap (dg A k:Int) *IntKind.u64.wrap (dg B i:Int))+IntKind.u64.wrap (dg r' (k+i):Int)))=((c+(dg A k*dg B i+dg r' (k+i)):Nat):Int):=by
    rw[q0C (n:=dg A k) (by omega),q0C (n:=dg B i) (by omega),q0C (n:=dg r' (k+i)) (by omega),←e1,q0C (n:=dg A k*dg B i) (by omega)]
    simp only[q0U];omega
   rw[e,q13]
   refine q0H (k+i) rfl rfl rfl rfl wki (by omega) ?_
   refine gg rfl (q20 r' (k+i) ((c+(dg A k*dg B i+dg r' (k+i)))%4294967296) rfl rfl (Nat.zero_add _) rfl rfl (Nat.zero_le _) (by omega) ?_)
   refine gg rfl (q19 (c+(dg A k*dg B i+dg r' (k+i))) 32 rfl rfl rfl rfl (by decide) ?_)
   refine gg rfl (q04 (hN2 (i+1,r'.set (k+i) ((c+(dg A k*dg B i+dg r' (k+i)))%4294967296),(c+(dg A k*dg B i+dg r' (k+i)))/2^32) ⟨hil,by simp[hr'],hro'.set _ (by omega),by simp only;omega,?_,?_⟩ (by simp only;omega) (q03 rfl ⟨q05 q0t _,trivial⟩ (by simp[nat,q00,wi,u32]))))
   ·simp only
    have hs:=qij (l:=r') (i:=k+i) (v:=(c+(dg A k*dg B i+dg r' (k+i)))%4294967296) (by omega)
    have hcar:=q4j (4294967296^(k+i)) (c+(dg A k*dg B i+dg r' (k+i)))
    rw[show(2:Nat)^32=4294967296 by decide,q0R,show k+(i+1)=(k+i)+1 from rfl,Nat.pow_succ,Nat.mul_add (dg A k),Nat.mul_add (4294967296^k)]
    rw[Nat.mul_add (4294967296^(k+i)) c,Nat.mul_add (4294967296^(k+i)) (dg A k*dg B i)]at hcar
    have e5:4294967296^k*(dg A k*(4294967296^i*dg B i))=4294967296^(k+i) *(dg A k*dg B i):=by
     rw[Nat.pow_add,Nat.mul_left_comm (dg A k),←Nat.mul_assoc]
    rw[e5]
    omega
   intro j hj
   simp only at hj⊢
   rw[q3c,if_neg (by omega)]
   exact hz' j (by omega)
  rw[q07]at h3
  obtain rfl:i=B.length:=by omega
  rw[List.take_length]at hinv'
  have wkb:IntKind.i64.wrap ((k:Int)+(B.map u32).length)=((k+B.length:Nat):Int):=by rw[List.length_map,wrap64 (by omega) (by omega)];omega
  have ec:IntKind.u32.wrap (c:Int)=(c:Int):=by rw[q13];omega
  refine gg rfl (q04 (gg rfl ?_))
  rw[ec]
  refine q0H (k+B.length) rfl rfl rfl rfl wkb (by omega) ?_
  refine gg rfl (q20 r' (k+B.length) c rfl rfl (Nat.zero_add _) rfl rfl (Nat.zero_le _) (by omega) ?_)
  refine gg rfl (q04 ?_)
  have hd0:dg r' (k+B.length)=0:=by rw[hz' _ (Nat.le_refl _)];exact hz _ (Nat.le_refl _)
  have hs:=qij (l:=r') (i:=k+B.length) (v:=c) (by omega)
  rw[hd0,Nat.mul_zero,Nat.add_zero]at hs
  refine hN (k+1,r'.set (k+B.length) c) ⟨hlt,by simp[hr'],hro'.set _ hc,?_,?_⟩ (by simp only;omega) (q03 rfl ⟨q05 q0t _,trivial⟩ (by simp[nat,q00,w1]))
  ·simp only
   rw[hs,hinv',hinv,q0R,Nat.add_mul,Nat.mul_assoc]
  intro j hj
  simp only at hj⊢
  rw[q3c,if_neg (by omega),hz' j (by omega)]
  exact hz j (by omega)
 rw[q07]at h2
 obtain rfl:k=A.length:=by omega
 rw[List.take_length]at hinv
 refine gg rfl (q04 (gg rfl ?_))
 have hp:=q2F r (by omega)
 rw[hinv,ea,eb]at hp
 refine q1T rfl rfl ⟨q3H (l:=r) hr.symm,trivial⟩ (by rw[q42 (l:=r) hr.symm];exact hp) fun z=>?_
 exact gg rfl (q08 rfl rfl rfl trivial rfl)
end Go.F

namespace Go.F
attribute [local irreducible] IntKind.wrap wpM
section
variable {T:Tab}{sh:Shr}{nx0:Nat}{s:List Fr}{t:q0x}{h:q0e}{z:Frz}{nx:Nat}{q:Ex→q0x→q0e→Frz→Nat→Prop}
variable {base i:Nat}{res:List Nat}{dst:Nat}{g:Gd}{rest:List KOper}
theorem q2Z {e:EqK}{x y:X}{kk:IntKind}{a b:Int}(n m:Nat)(hx:x.ev t=.int kk a)(hy:y.ev t=.int kk b)(ha:a=n)(hb:b=m)(hm:m≠0)(hw:kk.wrap ((n/m:Nat):Int)=((n/m:Nat):Int))
 (hk:wpM T sh nx0 (.ops base res rest::s) .normal (upd t dst (.int kk ((n/m:Nat):Int))) h z nx q):
 wpM T sh nx0 (.ops base res (⟨i,some dst,none,g,.bin .quo e x y⟩::rest)::s) .normal t h z nx q:=by
 subst ha;subst hb
 refine qem hx hy (by omega) ?_
 have e:((n:Int)).tdiv m=((n/m:Nat):Int):=by rw[Int.tdiv_eq_ediv_of_nonneg (by omega)];rfl
 rw[e,hw]
 exact hk
theorem q7b {e:EqK}{x y:X}{kk:IntKind}{a b:Int}(n m:Nat)(hx:x.ev t=.int kk a)(hy:y.ev t=.int kk b)(ha:a=n)(hb:b=m)(hm:m≠0)
 (hk:wpM T sh nx0 (.ops base res rest::s) .normal (upd t dst (.int kk ((n%m:Nat):Int))) h z nx q):
 wpM T sh nx0 (.ops base res (⟨i,some dst,none,g,.bin .rem e x y⟩::rest)::s) .normal t h z nx q:=by
 subst ha;subst hb
 refine q37 hx hy (by omega) ?_
 have e:((n:Int)).tmod m=((n%m:Nat):Int):=by rw[Int.tmod_eq_emod_of_nonneg (by omega)];rfl
 rw[e]
 exact hk
end
theorem q7B (w n:Nat):BitVec.ofInt w (n:Int)=BitVec.ofNat w n:=by simp
theorem qB2 {a b:Nat}(ha:a<4294967296)(hb:b<4294967296):IntKind.u64.wrap ((BitVec.ofInt IntKind.u64.bits ((a*2^32:Nat):Int) |||BitVec.ofInt IntKind.u64.bits (b:Int)).toNat:Int)=((a*4294967296+b:Nat):Int):=by
 rw[q7B,q7B,BitVec.toNat_or,BitVec.toNat_ofNat,BitVec.toNat_ofNat]
 have e:IntKind.u64.bits=64:=rfl
 rw[e,Nat.mod_eq_of_lt (by omega),Nat.mod_eq_of_lt (by omega),Nat.mul_comm a,←Nat.two_pow_add_eq_or_of_lt (by omega),q0C (by omega)]
theorem orU64' {a b:Nat}(ha:a<4294967296)(hb:b<4294967296):IntKind.u64.wrap ((BitVec.ofInt IntKind.u64.bits (b:Int) |||BitVec.ofInt IntKind.u64.bits ((a*2^32:Nat):Int)).toNat:Int)=((a*4294967296+b:Nat):Int):=by
 rw[BitVec.or_comm];exact qB2 ha hb
set_option maxHeartbeats 2000000 in
theorem qFj (a:List Nat)(d:Nat) [ha:LOk a](hla:a.length≤1000000000)(hd0:d≠0)(hd:d<4294967296):PU qmw [nat a,.int .u32 d]=some (.tup [nat (q0f (val a/d)),.int .u32 (val a%d:Nat)]):=by
 refine q0g (fn:=qca) rfl (q0a ?_)
 refine gg rfl (q44 a.length rfl rfl (by simp) (by simp[q0M];omega) ?_)
 rw[q7r]
 refine gg rfl ?_
 refine q0l (S:=fun x:Nat×List Nat×Nat=>([nat a,.int .u32 d,.ref 2 0 a.length,.int .u64 x.2.2,q00 ((x.1:Int)-1)],[none,none,some (.row (x.2.1.map u32) 1),none,none],[0,0,0,0,0]))
  (C:=fun x=>x.1≤a.length∧x.2.1.length=a.length∧LOk x.2.1∧x.2.2<d∧val (a.drop x.1)=val (x.2.1.drop x.1) *d+x.2.2) (m:=fun x=>x.1) (a.length,List.replicate a.length 0,0)
  ⟨Nat.le_refl _,by simp,q54 _,Nat.pos_of_ne_zero hd0,by simp[val]⟩ (by simp;omega) ?_ ?_
 ·refine q03 rfl ⟨q05 q0t _,trivial⟩ ?_
  have w:=ww (x:=(a.length:Int)-1)
  simp[nat,q00,w]
 rintro⟨n,q,r⟩ ⟨hn,hq,hqo,hr,hinv⟩ N hN
 simp only at hn hq hqo hr hinv
 refine gg rfl (q01 rfl (fun h2=>?_) (fun h2=>?_))
 ·rw[q0E]at h2
  simp only at h2
  have hx:=q1j ha (n-1)
  have hw:IntKind.u64.wrap (dg a (n-1):Int)=(dg a (n-1):Int):=q0C (by omega)
  have hwd:IntKind.u64.wrap (d:Int)=(d:Int):=q0C (by omega)
  have w2:IntKind.i64.wrap ((n:Int)-1-1)=((n-1:Nat):Int)-1:=by rw[wrap64 (by omega) (by omega)];omega
  have htd:(r*4294967296+dg a (n-1))/d<4294967296:=by
   rw[Nat.div_lt_iff_lt_mul (by omega)]
   calc r*4294967296+dg a (n-1)<(r+1) *4294967296:=by omega
    _≤d*4294967296:=Nat.mul_le_mul_right _ hr
    _=4294967296*d:=Nat.mul_comm _ _
  have htm:(r*4294967296+dg a (n-1))%d<d:=Nat.mod_lt _ (by omega)
  refine gg rfl (q6w r 32 rfl rfl rfl rfl (by decide) (q0C (by omega)) ?_)
  refine gg rfl (q0i (n-1) rfl rfl (by omega) (q2B (by omega)) rfl ?_)
  refine gg rfl ?_
  rw[hw,qB2 (by omega) hx]
  refine gg rfl ?_
  rw[hwd]
  refine q2Z (r*4294967296+dg a (n-1)) d rfl rfl rfl rfl hd0 (q0C (by omega)) ?_
  refine gg rfl ?_
  rw[q13,Nat.mod_eq_of_lt htd]
  refine q0H (n-1) rfl rfl rfl rfl (by omega) (by omega) ?_
  refine gg rfl (q20 q (n-1) ((r*4294967296+dg a (n-1))/d) rfl rfl (Nat.zero_add _) rfl rfl (Nat.zero_le _) (by omega) ?_)
  refine gg rfl ?_
  rw[hwd]
  refine q7b (r*4294967296+dg a (n-1)) d rfl rfl rfl rfl hd0 (gg rfl (q04 (hN (n-1,q.set (n-1) ((r*4294967296+dg a (n-1))/d),(r*4294967296+dg a (n-1))%d) ⟨by simp only;omega,by simp[hq],hqo.set _ htd,htm,?_⟩ (by simp only;omega) (q03 rfl ⟨q05 q0t _,trivial⟩ (by simp[nat,q00,w2])))))
  simp only
  rw[q2R,q2R (q.set _ _),q3c,if_pos ⟨rfl,by omega⟩,Nat.sub_add_cancel (by omega),List.drop_set_of_lt (by omega),hinv]
  have hdm:=Nat.div_add_mod (r*4294967296+dg a (n-1)) d
  rw[Nat.add_mul,Nat.mul_assoc 4294967296,Nat.mul_comm ((r*4294967296+dg a (n-1))/d) d]
  omega
 rw[q0F]at h2
 simp only at h2
 obtain rfl:n=0:=by omega
 simp only[List.drop_zero]at hinv
 refine gg rfl (q04 (gg rfl ?_))
 have hp:=q2F q (by omega)
 have hv1:val q=val a/d:=by rw[hinv,Nat.add_comm,Nat.add_mul_div_right _ _ (by omega),Nat.div_eq_of_lt hr,Nat.zero_add]
 have hv2:val a%d=r:=by rw[hinv,Nat.add_comm,Nat.add_mul_mod_self_right,Nat.mod_eq_of_lt hr]
 rw[hv1]at hp
 refine q1T rfl rfl ⟨q3H (l:=q) hq.symm,trivial⟩ (by rw[q42 (l:=q) hq.symm];exact hp) fun z=>?_
 refine gg rfl (q08 rfl rfl rfl trivial ?_)
 have e:IntKind.u32.wrap (r:Int)=(r:Int):=by rw[q13];omega
 rw[e,hv2]
 rfl
theorem qCG {l:List Nat}{V:Nat}(h:∀j,j<l.length→dg l j=V/4294967296^j%4294967296):val l=V%4294967296^l.length:=by
 have key:∀k,k≤l.length→val (l.take k)=V%4294967296^k:=by
  intro k
  induction k with
  |zero=>intro _;simp[val,Nat.mod_one]
  |succ k ih=>intro hk;rw[q0R,ih (by omega),h k hk,Nat.mod_pow_succ]
 have:=key l.length (Nat.le_refl _)
 rwa[List.take_length]at this
theorem qFk {a:List Nat}(ha:LOk a){s:Nat}(hs:s≤31)(i:Nat):(dg a (i+1) *4294967296+dg a i)/2^s%4294967296=val a/2^s/4294967296^i%4294967296:=by
 have h1:val a/4294967296^i=dg a i+4294967296*(dg a (i+1)+4294967296*val (a.drop (i+2))):=by
  rw[←q2R a (i+1),←q2R a i]
  have:=q2L a i
  have h2:val (a.take i)<4294967296^i∨a.length≤i:=by
   by_cases hl:i≤a.length
   ·left
    have:=q2Y (ha.take i)
    rwa[List.length_take,Nat.min_eq_left hl]at this
   right;omega
  rcases h2 with h2|h2
  ·rw[this,Nat.add_mul_div_left _ _ (Nat.pow_pos (by decide)),Nat.div_eq_of_lt h2,Nat.zero_add]
  rw[List.drop_of_length_le h2,Nat.div_eq_of_lt]
  ·rfl
  exact Nat.lt_of_lt_of_le (q2Y ha) (Nat.pow_le_pow_right (by decide) h2)
 rw[Nat.div_div_eq_div_mul,Nat.mul_comm (2^s),←Nat.div_div_eq_div_mul,h1]
 generalize val (a.drop (i+2))=R
 have e:(18446744073709551616:Nat)=2^s*(4294967296*2^(32-s)):=by
  rw[Nat.mul_left_comm,←Nat.pow_add,show s+(32-s)=32 by omega]
 have e2:dg a i+4294967296*(dg a (i+1)+4294967296*R)=(dg a (i+1) *4294967296+dg a i)+2^s*(4294967296*2^(32-s) *R):=by
  rw[←Nat.mul_assoc (2^s),←e];omega
 rw[e2,Nat.add_mul_div_left _ _ (Nat.two_pow_pos s),Nat.mul_assoc,Nat.add_mul_mod_self_left]
set_option maxHeartbeats 2000000 in
theorem qjy (a:List Nat)(s:Nat) [ha:LOk a](hla:a.length≤1000000000)(hs:s≤31):PU qmx [nat a,.int .i64 s]=some (nat (q0f (val a/2^s))):=by
 refine q0g (fn:=qcc) rfl (q0a ?_)
 refine gg rfl (q44 a.length rfl rfl (by simp) (by simp[q0M];omega) ?_)
 rw[q7r]
 refine gg rfl ?_
 refine q0l (S:=fun x:Nat×List Nat=>([nat a,q00 s,.ref 2 0 a.length,nat a,q00 a.length,q00 x.1],[none,none,some (.row (x.2.map u32) 1),none,none,none],[0,0,0,0,0,0]))
  (C:=fun x=>x.1≤a.length∧x.2.length=a.length∧LOk x.2∧∀j,j<x.1→dg x.2 j=val a/2^s/4294967296^j%4294967296) (m:=fun x=>a.length-x.1) (0,List.replicate a.length 0)
  ⟨Nat.zero_le _,by simp,q54 _,fun j hj=>by simp at hj⟩ (by simp;omega) ?_ ?_
 ·exact q03 rfl ⟨q05 q0t _,trivial⟩ (by simp[nat,q00])
 rintro⟨k,r⟩ ⟨hk,hr,hro,hinv⟩ N hN
 simp only at hk hr hro hinv
 refine gg rfl (q01 rfl (fun h2=>?_) (fun h2=>?_))
 ·rw[q06]at h2
  have hlt:k<a.length:=by omega
  have hx:=q1j ha k
  have hy:=q1j ha (k+1)
  have hw:IntKind.u64.wrap (dg a k:Int)=(dg a k:Int):=q0C (by omega)
  have hwy:IntKind.u64.wrap (dg a (k+1):Int)=(dg a (k+1):Int):=q0C (by omega)
  have w1:=wS (n:=k)
  refine gg rfl (q0i k rfl rfl rfl (q2B hlt) rfl (gg rfl ?_))
  rw[List.length_map,hw]
  refine q01 rfl (fun h3=>?_) (fun h3=>?_)
  ·rw[q06,w1]at h3
   refine gg rfl (q0i (k+1) rfl rfl w1 (q2B (by omega)) rfl ?_)
   refine gg rfl ?_
   rw[hwy]
   refine q6w (dg a (k+1)) 32 rfl rfl rfl rfl (by decide) (q0C (by omega)) ?_
   refine gg rfl ?_
   rw[orU64' hy hx]
   refine gg rfl (q19 (dg a (k+1) *4294967296+dg a k) s rfl rfl rfl rfl (by show s≤64;omega) ?_)
   refine gg rfl ?_
   rw[q13]
   refine q0H k rfl rfl rfl rfl rfl hlt (gg rfl (q20 r k ((dg a (k+1) *4294967296+dg a k)/2^s%4294967296) rfl rfl (Nat.zero_add _) rfl rfl (Nat.zero_le _) (by omega) ?_))
   refine gg rfl (q04 (hN (k+1,r.set k ((dg a (k+1) *4294967296+dg a k)/2^s%4294967296)) ⟨hlt,by simp[hr],hro.set _ (Nat.mod_lt _ (by decide)),?_⟩ (by simp only;omega) (q03 rfl ⟨q05 q0t _,trivial⟩ (by simp[nat,q00,w1]))))
   intro j hj
   simp only at hj⊢
   rw[q3c]
   by_cases hjk:k=j
   ·subst hjk
    rw[if_pos ⟨rfl,by omega⟩]
    rw[←qFk ha hs]
    try rw[q7l (l:=a) (i:=k+1) (by omega),Nat.zero_mul,Nat.zero_add]
   rw[if_neg (by omega)]
   exact hinv j (by omega)
  rw[q07,w1]at h3
  refine gg rfl (q19 (dg a k) s rfl rfl rfl rfl (by show s≤64;omega) ?_)
  refine gg rfl ?_
  rw[q13]
  refine q0H k rfl rfl rfl rfl rfl hlt (gg rfl (q20 r k ((dg a k)/2^s%4294967296) rfl rfl (Nat.zero_add _) rfl rfl (Nat.zero_le _) (by omega) ?_))
  refine gg rfl (q04 (hN (k+1,r.set k ((dg a k)/2^s%4294967296)) ⟨hlt,by simp[hr],hro.set _ (Nat.mod_lt _ (by decide)),?_⟩ (by simp only;omega) (q03 rfl ⟨q05 q0t _,trivial⟩ (by simp[nat,q00,w1]))))
  intro j hj
  simp only at hj⊢
  rw[q3c]
  by_cases hjk:k=j
  ·subst hjk
   rw[if_pos ⟨rfl,by omega⟩]
   rw[←qFk ha hs]
   try rw[q7l (l:=a) (i:=k+1) (by omega),Nat.zero_mul,Nat.zero_add]
  rw[if_neg (by omega)]
  exact hinv j (by omega)
 rw[q07]at h2
 simp only at h2
 obtain rfl:k=a.length:=by omega
 refine gg rfl (q04 (gg rfl ?_))
 have hp:=q2F r (by omega)
 have hv:val r=val a/2^s:=by
  rw[qCG (fun j hj=>hinv j (by omega)),hr,Nat.mod_eq_of_lt]
  exact Nat.lt_of_le_of_lt (Nat.div_le_self _ _) (q2Y ha)
 rw[hv]at hp
 refine q1T rfl rfl ⟨q3H (l:=r) hr.symm,trivial⟩ (by rw[q42 (l:=r) hr.symm];exact hp) fun z=>?_
 exact gg rfl (q08 rfl rfl rfl trivial rfl)
end Go.F

namespace Go.F
attribute [local irreducible] IntKind.wrap wpM
section
variable {T:Tab}{sh:Shr}{nx0:Nat}{s:List Fr}{t:q0x}{h:q0e}{z:Frz}{nx:Nat}{q:Ex→q0x→q0e→Frz→Nat→Prop}
theorem qpg {fn:KFn}{ex:Ex}{d:D}{K:D→q0e→Frz→Nat→Prop}(hex:(match ex with|.exit _=>false|_=>true)=true)(hd:dres t h fn.res=some d)(hk:K d h z nx):
 wpM T sh nx0 [] ex t h z nx (qeY fn K):=by
 refine q04 ?_
 cases ex with
 |exit i=>cases hex
 |normal=>exact q6v hd hk
 |ret=>exact q6v hd hk
end
theorem q8w {nx0:Nat}{h:q0e}{id:Nat}{l:List Nat}(hh:h id=some (.row (l.map u32) 1)):q1e nx0 h id=some (.row (l.map u32) 1):=by
 unfold q1e
 rw[hh,q9i (b:=some (.row (l.map u32) 1)) (q05 q0t _)]
 rfl
theorem orU32 {c x s:Nat}(hs:s≤31)(hc:c<2^s):IntKind.u32.wrap ((BitVec.ofInt IntKind.u32.bits (c:Int) |||BitVec.ofInt IntKind.u32.bits ((x*2^s%4294967296:Nat):Int)).toNat:Int)=((c+x*2^s%4294967296:Nat):Int)
 ∧c+x*2^s%4294967296<4294967296:=by
 have e:(4294967296:Nat)=2^s*2^(32-s):=by rw[←Nat.pow_add,show s+(32-s)=32 by omega]
 have em:x*2^s%4294967296=2^s*(x%2^(32-s)):=by rw[e,Nat.mul_comm x,Nat.mul_mod_mul_left]
 have hx:x%2^(32-s)+1≤2^(32-s):=Nat.mod_lt _ (Nat.two_pow_pos _)
 have hlt:c+x*2^s%4294967296<4294967296:=by
  have:=Nat.mul_le_mul_left (2^s) hx
  rw[←e,Nat.mul_add]at this
  omega
 refine⟨?_,hlt⟩
 have hsp:2^s≤2^31:=Nat.pow_le_pow_right (by decide) hs
 rw[q7B,q7B,BitVec.or_comm,BitVec.toNat_or,BitVec.toNat_ofNat,BitVec.toNat_ofNat]
 have eb:IntKind.u32.bits=32:=rfl
 rw[eb,Nat.mod_eq_of_lt (show x*2^s%4294967296<2^32 by omega),Nat.mod_eq_of_lt (show c<2^32 by omega),em,←Nat.two_pow_add_eq_or_of_lt hc,←em,q13,Nat.mod_eq_of_lt (by omega),Nat.add_comm]
set_option maxHeartbeats 2000000 in
theorem left1 (a:List Nat)(s:Nat) [ha:LOk a](hla:a.length≤1000000000)(hs:s≤31){h:q0e}{z:Frz}{K:D→q0e→Frz→Nat→Prop}(hold:(fun(_:q0e) (_:Frz)=>True) h z)
 (hk:∀(r:List Nat) (h':q0e) (z':Frz),r.length=a.length+1→LOk r→val r=val a*2^s→h' 80=some (.row (r.map u32) 1)→z' 80=0→(fun(_:q0e) (_:Frz)=>True) h' z'→K (.ref 80 0 (a.length+1)) h' z' 130):
 wpM TT (shr TT 5) 79 [.code k_natural_left.code] .normal (enter [nat a,.int .i64 s]) h z 79 (qeY k_natural_left K):=by
 have h2s:2^s≤2147483648:=by simpa using Nat.pow_le_pow_right (n:=2) (by decide) hs
 refine gg rfl ?_
 have w0:IntKind.i64.wrap (((a.map u32).length:Int)+1)=((a.length+1:Nat):Int):=by rw[List.length_map,wrap64 (by omega) (by omega)];omega
 rw[w0]
 refine q44 (a.length+1) rfl rfl rfl (by simp[q0M];omega) ?_
 rw[q7r]
 refine gg rfl ?_
 refine q62 (S:=fun x:Nat×List Nat=>([q00 s,.ref 80 0 (a.length+1),nat a,q00 a.length,q00 x.1],[none,some (.row (x.2.map u32) 1),none,none,none],[0,0,0,0,0]))
  (O:=fun _ ho zo=>(fun(_:q0e) (_:Frz)=>True) ho zo)
  (C:=fun x=>x.1≤a.length∧x.2.length=a.length+1∧LOk x.2∧dg x.2 x.1<2^s∧val (x.2.take x.1)+4294967296^x.1*dg x.2 x.1=val (a.take x.1) *2^s∧∀j,x.1<j→dg x.2 j=0) (m:=fun x=>a.length-x.1) (0,List.replicate (a.length+1) 0)
  ⟨Nat.zero_le _,by simp,q54 _,by simp only[q6X];exact Nat.two_pow_pos s,by simp[val,q6X],fun j _=>q6X _ _⟩ (by simp;omega) ?_ ?_
 ·exact q1U rfl ⟨q05 q0t _,trivial⟩ ⟨by simp[nat,q00],trivial⟩
 rintro⟨k,r⟩ ⟨hk',hr,hro,hc,hinv,hz⟩ ho zo hold N hN
 simp only at hk' hr hro hc hinv hz
 refine gg rfl (q01 rfl (fun h2=>?_) (fun h2=>?_))
 ·rw[q06]at h2
  simp only at h2
  have hlt:k<a.length:=by omega
  have hx:=q1j ha k
  have hw:IntKind.u64.wrap (dg a k:Int)=(dg a k:Int):=q0C (by omega)
  have w1:=wS (n:=k)
  have hxs:dg a k*2^s≤4294967295*2147483648:=Nat.mul_le_mul (by omega) h2s
  obtain⟨ho1,ho2⟩:=orU32 (x:=dg a k) hs hc
  have htop:dg a k*2^s/2^32<2^s:=by
   rw[Nat.div_lt_iff_lt_mul (by decide),Nat.mul_comm];exact Nat.mul_lt_mul_of_pos_left (by omega) (Nat.two_pow_pos s)
  refine gg rfl (q0i k rfl rfl rfl (q2B hlt) rfl (gg rfl ?_))
  rw[hw]
  refine q6w (dg a k) s rfl rfl rfl rfl (by show s≤64;omega) (q0C (by omega)) ?_
  refine gg rfl (q0H k rfl rfl rfl rfl rfl (by omega) ?_)
  refine gg rfl (q4k r k rfl (Nat.zero_add _) rfl (by omega) ?_)
  refine gg rfl ?_
  rw[q13,ho1]
  refine q0H k rfl rfl rfl rfl rfl (by omega) ?_
  refine gg rfl (q20 r k (dg r k+dg a k*2^s%4294967296) rfl rfl (Nat.zero_add _) rfl rfl (Nat.zero_le _) (by omega) ?_)
  refine gg rfl (q19 (dg a k*2^s) 32 rfl rfl rfl rfl (by decide) ?_)
  have e3:IntKind.u32.wrap ((dg a k*2^s/2^32:Nat):Int)=((dg a k*2^s/2^32:Nat):Int):=by rw[q13];omega
  refine gg rfl ?_
  rw[e3]
  refine q0H (k+1) rfl rfl rfl rfl w1 (by omega) ?_
  refine gg rfl (q20 (r.set k (dg r k+dg a k*2^s%4294967296)) (k+1) (dg a k*2^s/2^32) rfl rfl (Nat.zero_add _) rfl rfl (Nat.zero_le _) (by simp;omega) ?_)
  refine gg rfl (q04 ?_)
  refine hN (k+1,(r.set k (dg r k+dg a k*2^s%4294967296)).set (k+1) (dg a k*2^s/2^32)) ⟨hlt,by simp[hr],(hro.set _ ho2).set _ (by omega),?_,?_,?_⟩ (by simp only;omega)
   (q1U rfl ⟨q05 q0t _,trivial⟩ ⟨by simp[nat,q00,w1],trivial⟩)
  ·simp only
   rw[q3c,if_pos ⟨rfl,by simp;omega⟩];exact htop
  ·simp only
   rw[q3c,if_pos ⟨rfl,by simp;omega⟩,List.take_set_of_le (Nat.le_refl _),q2G (by omega),q0R a,Nat.add_mul,←hinv,show(2:Nat)^32=4294967296 by decide,Nat.pow_succ,Nat.add_assoc,Nat.mul_add,Nat.add_assoc,q4j,Nat.mul_assoc,Nat.add_assoc]
  intro j hj
  simp only at hj⊢
  rw[q3c,if_neg (by omega),q3c,if_neg (by omega)]
  exact hz j (by omega)
 rw[q07]at h2
 simp only at h2
 obtain rfl:k=a.length:=by omega
 rw[List.take_length]at hinv
 refine gg rfl (q04 (gg rfl (qpg rfl rfl (hk r _ _ hr hro ?_ rfl rfl (trivial)))))
 rw[←hinv,←List.take_of_length_le (l:=r) (i:=a.length+1) (by omega),q0R]
 rw[List.take_of_length_le (l:=r) (i:=a.length+1) (by omega)]
set_option maxHeartbeats 2000000 in
theorem left2 (a:List Nat)(s:Nat) [ha:LOk a](hla:a.length≤1000000000)(hs:s≤31)(us:List Nat){h:q0e}{z:Frz}{K:D→q0e→Frz→Nat→Prop}(hold:(fun(hh:q0e) (zz:Frz)=>hh 80=some (.row (us.map u32) 1)∧zz 80=0) h z)
 (hk:∀(r:List Nat) (h':q0e) (z':Frz),r.length=a.length+1→LOk r→val r=val a*2^s→h' 131=some (.row (r.map u32) 1)→z' 131=0→(fun(hh:q0e) (zz:Frz)=>hh 80=some (.row (us.map u32) 1)∧zz 80=0) h' z'→K (.ref 131 0 (a.length+1)) h' z' 181):
 wpM TT (shr TT 5) 130 [.code k_natural_left.code] .normal (enter [nat a,.int .i64 s]) h z 130 (qeY k_natural_left K):=by
 have h2s:2^s≤2147483648:=by simpa using Nat.pow_le_pow_right (n:=2) (by decide) hs
 refine gg rfl ?_
 have w0:IntKind.i64.wrap (((a.map u32).length:Int)+1)=((a.length+1:Nat):Int):=by rw[List.length_map,wrap64 (by omega) (by omega)];omega
 rw[w0]
 refine q44 (a.length+1) rfl rfl rfl (by simp[q0M];omega) ?_
 rw[q7r]
 refine gg rfl ?_
 refine q62 (S:=fun x:Nat×List Nat=>([q00 s,.ref 131 0 (a.length+1),nat a,q00 a.length,q00 x.1],[none,some (.row (x.2.map u32) 1),none,none,none],[0,0,0,0,0]))
  (O:=fun _ ho zo=>(fun(hh:q0e) (zz:Frz)=>hh 80=some (.row (us.map u32) 1)∧zz 80=0) ho zo)
  (C:=fun x=>x.1≤a.length∧x.2.length=a.length+1∧LOk x.2∧dg x.2 x.1<2^s∧val (x.2.take x.1)+4294967296^x.1*dg x.2 x.1=val (a.take x.1) *2^s∧∀j,x.1<j→dg x.2 j=0) (m:=fun x=>a.length-x.1) (0,List.replicate (a.length+1) 0)
  ⟨Nat.zero_le _,by simp,q54 _,by simp only[q6X];exact Nat.two_pow_pos s,by simp[val,q6X],fun j _=>q6X _ _⟩ (by simp;omega) ?_ ?_
 ·exact q1U rfl ⟨q05 q0t _,trivial⟩ ⟨by simp[nat,q00],⟨q8w hold.1,hold.2⟩⟩
 rintro⟨k,r⟩ ⟨hk',hr,hro,hc,hinv,hz⟩ ho zo hold N hN
 simp only at hk' hr hro hc hinv hz
 refine gg rfl (q01 rfl (fun h2=>?_) (fun h2=>?_))
 ·rw[q06]at h2
  simp only at h2
  have hlt:k<a.length:=by omega
  have hx:=q1j ha k
  have hw:IntKind.u64.wrap (dg a k:Int)=(dg a k:Int):=q0C (by omega)
  have w1:=wS (n:=k)
  have hxs:dg a k*2^s≤4294967295*2147483648:=Nat.mul_le_mul (by omega) h2s
  obtain⟨ho1,ho2⟩:=orU32 (x:=dg a k) hs hc
  have htop:dg a k*2^s/2^32<2^s:=by
   rw[Nat.div_lt_iff_lt_mul (by decide),Nat.mul_comm];exact Nat.mul_lt_mul_of_pos_left (by omega) (Nat.two_pow_pos s)
  refine gg rfl (q0i k rfl rfl rfl (q2B hlt) rfl (gg rfl ?_))
  rw[hw]
  refine q6w (dg a k) s rfl rfl rfl rfl (by show s≤64;omega) (q0C (by omega)) ?_
  refine gg rfl (q0H k rfl rfl rfl rfl rfl (by omega) ?_)
  refine gg rfl (q4k r k rfl (Nat.zero_add _) rfl (by omega) ?_)
  refine gg rfl ?_
  rw[q13,ho1]
  refine q0H k rfl rfl rfl rfl rfl (by omega) ?_
  refine gg rfl (q20 r k (dg r k+dg a k*2^s%4294967296) rfl rfl (Nat.zero_add _) rfl rfl (Nat.zero_le _) (by omega) ?_)
  refine gg rfl (q19 (dg a k*2^s) 32 rfl rfl rfl rfl (by decide) ?_)
  have e3:IntKind.u32.wrap ((dg a k*2^s/2^32:Nat):Int)=((dg a k*2^s/2^32:Nat):Int):=by rw[q13];omega
  refine gg rfl ?_
  rw[e3]
  refine q0H (k+1) rfl rfl rfl rfl w1 (by omega) ?_
  refine gg rfl (q20 (r.set k (dg r k+dg a k*2^s%4294967296)) (k+1) (dg a k*2^s/2^32) rfl rfl (Nat.zero_add _) rfl rfl (Nat.zero_le _) (by simp;omega) ?_)
  refine gg rfl (q04 ?_)
  refine hN (k+1,(r.set k (dg r k+dg a k*2^s%4294967296)).set (k+1) (dg a k*2^s/2^32)) ⟨hlt,by simp[hr],(hro.set _ ho2).set _ (by omega),?_,?_,?_⟩ (by simp only;omega)
   (q1U rfl ⟨q05 q0t _,trivial⟩ ⟨by simp[nat,q00,w1],⟨q8w hold.1,hold.2⟩⟩)
  ·simp only
   rw[q3c,if_pos ⟨rfl,by simp;omega⟩];exact htop
  ·simp only
   rw[q3c,if_pos ⟨rfl,by simp;omega⟩,List.take_set_of_le (Nat.le_refl _),q2G (by omega),q0R a,Nat.add_mul,←hinv,show(2:Nat)^32=4294967296 by decide,Nat.pow_succ,Nat.add_assoc,Nat.mul_add,Nat.add_assoc,q4j,Nat.mul_assoc,Nat.add_assoc]
  intro j hj
  simp only at hj⊢
  rw[q3c,if_neg (by omega),q3c,if_neg (by omega)]
  exact hz j (by omega)
 rw[q07]at h2
 simp only at h2
 obtain rfl:k=a.length:=by omega
 rw[List.take_length]at hinv
 refine gg rfl (q04 (gg rfl (qpg rfl rfl (hk r _ _ hr hro ?_ rfl rfl (hold)))))
 rw[←hinv,←List.take_of_length_le (l:=r) (i:=a.length+1) (by omega),q0R]
 rw[List.take_of_length_le (l:=r) (i:=a.length+1) (by omega)]
end Go.F

namespace Go.F
attribute [local irreducible] IntKind.wrap wpM
def len8:ByteArray:=⟨#[0,1,2,2,3,3,3,3,4,4,4,4,4,4,4,4,5,5,5,5,5,5,5,5,5,5,5,5,5,5,5,5,6,6,6,6,6,6,6,6,6,6,6,6,6,6,6,6,6,6,6,6,6,6,6,6,6,6,6,6,6,6,6,6,7,7,7,7,7,7,7,7,7,7,7,7,7,7,7,7,7,7,7,7,7,7,7,7,7,7,7,7,7,7,7,7,7,7,7,7,7,7,7,7,7,7,7,7,7,7,7,7,7,7,7,7,7,7,7,7,7,7,7,7,7,7,7,7,8,8,8,8,8,8,8,8,8,8,8,8,8,8,8,8,8,8,8,8,8,8,8,8,8,8,8,8,8,8,8,8,8,8,8,8,8,8,8,8,8,8,8,8,8,8,8,8,8,8,8,8,8,8,8,8,8,8,8,8,8,8,8,8,8,8,8,8,8,8,8,8,8,8,8,8,8,8,8,8,8,8,8,8,8,8,8,8,8,8,8,8,8,8,8,8,8,8,8,8,8,8,8,8,8,8,8,8,8,8,8,8,8,8,8,8,8,8,8,8,8,8,8,8,8,8,8,8]⟩
def q2v (k:Nat):UInt8:=len8.data.toList.getD k 0
set_option maxRecDepth 100000 in
theorem q2i:∀k,k<256→len8.data.toList[k]?=some (q2v k)∧(q2v k).toNat≤8∧k<2^(q2v k).toNat∧(k≠0→2^(q2v k).toNat≤2*k):=by decide+kernel
theorem q5i {k:Nat}(h:k<256):len8.toList[k]?=some (q2v k):=by
 rw[Go.ByteArray.toList_eq];exact(q2i k h).1
theorem qFl (x:Nat)(hx:x<4294967296):∃L:Nat,PU qu2 [.int .u32 x]=some (.int .i64 L)∧L≤32∧x<2^L∧(x≠0→2^L≤2*x):=by
 by_cases h1:65536≤x
 ·by_cases h2:256≤x/2^16
  ·have hy:x/2^16/2^8<256:=by omega
   obtain⟨_,g2,g3,g4⟩:=q2i (x/2^16/2^8) hy
   refine⟨24+(q2v (x/2^16/2^8)).toNat,?_,by omega,?_,fun h0=>?_⟩
   ·refine q0g (fn:=q5S) rfl (q0a ?_)
    refine gg rfl (q01 rfl (fun g=>?_) (fun g=>?_))
    ·refine gg rfl (q19 x 16 rfl rfl rfl rfl (by decide) ?_)
     refine gg rfl (q01 rfl (fun g=>?_) (fun g=>?_))
     ·refine gg rfl (q19 (x/2^16) 8 rfl rfl rfl rfl (by decide) ?_)
      have hy:(x/2^16/2^8)<256:=by omega
      obtain⟨_,g2,g3,g4⟩:=q2i ((x/2^16/2^8)) hy
      have w8:IntKind.u8.wrap (((x/2^16/2^8):Nat):Int)=(((x/2^16/2^8):Nat):Int):=by simp[IntKind.wrap,IntKind.bits,IntKind.signed];omega
      have w9:=ww (x:=(((q2v ((x/2^16/2^8))).toNat:Nat):Int))
      refine gg rfl (q2f ((x/2^16/2^8)) rfl rfl w8 (q5i hy) (gg rfl (q08 rfl rfl rfl trivial ?_)))
      rw[w9]
      congr 1
      rw[wrap64 (x:=16+8) (by omega) (by omega),wrap64 (by omega) (by omega)]
      omega
     rw[q0F]at g;omega
    rw[q0F]at g;omega
   ·rw[Nat.pow_add];omega
   have:=g4 (by omega);rw[Nat.pow_add];omega
  have hy:x/2^16<256:=by omega
  obtain⟨_,g2,g3,g4⟩:=q2i (x/2^16) hy
  refine⟨16+(q2v (x/2^16)).toNat,?_,by omega,?_,fun h0=>?_⟩
  ·refine q0g (fn:=q5S) rfl (q0a ?_)
   refine gg rfl (q01 rfl (fun g=>?_) (fun g=>?_))
   ·refine gg rfl (q19 x 16 rfl rfl rfl rfl (by decide) ?_)
    refine gg rfl (q01 rfl (fun g=>?_) (fun g=>?_))
    ·rw[q0E]at g;omega
    have hy:(x/2^16)<256:=by omega
    obtain⟨_,g2,g3,g4⟩:=q2i ((x/2^16)) hy
    have w8:IntKind.u8.wrap (((x/2^16):Nat):Int)=(((x/2^16):Nat):Int):=by simp[IntKind.wrap,IntKind.bits,IntKind.signed];omega
    have w9:=ww (x:=(((q2v ((x/2^16))).toNat:Nat):Int))
    refine gg rfl (q2f ((x/2^16)) rfl rfl w8 (q5i hy) (gg rfl (q08 rfl rfl rfl trivial ?_)))
    rw[w9]
    congr 1
    rw[wrap64 (by omega) (by omega)]
    omega
   rw[q0F]at g;omega
  ·rw[Nat.pow_add];omega
  have:=g4 (by omega);rw[Nat.pow_add];omega
 by_cases h2:256≤x
 ·have hy:x/2^8<256:=by omega
  obtain⟨_,g2,g3,g4⟩:=q2i (x/2^8) hy
  refine⟨8+(q2v (x/2^8)).toNat,?_,by omega,?_,fun h0=>?_⟩
  ·refine q0g (fn:=q5S) rfl (q0a ?_)
   refine gg rfl (q01 rfl (fun g=>?_) (fun g=>?_))
   ·rw[q0E]at g;omega
   refine gg rfl (q01 rfl (fun g=>?_) (fun g=>?_))
   ·refine gg rfl (q19 x 8 rfl rfl rfl rfl (by decide) ?_)
    have hy:(x/2^8)<256:=by omega
    obtain⟨_,g2,g3,g4⟩:=q2i ((x/2^8)) hy
    have w8:IntKind.u8.wrap (((x/2^8):Nat):Int)=(((x/2^8):Nat):Int):=by simp[IntKind.wrap,IntKind.bits,IntKind.signed];omega
    have w9:=ww (x:=(((q2v ((x/2^8))).toNat:Nat):Int))
    refine gg rfl (q2f ((x/2^8)) rfl rfl w8 (q5i hy) (gg rfl (q08 rfl rfl rfl trivial ?_)))
    rw[w9]
    congr 1
    rw[wrap64 (x:=0+8) (by omega) (by omega),wrap64 (by omega) (by omega)]
    omega
   rw[q0F]at g;omega
  ·rw[Nat.pow_add];omega
  have:=g4 (by omega);rw[Nat.pow_add];omega
 have hy:x<256:=by omega
 obtain⟨_,g2,g3,g4⟩:=q2i x hy
 refine⟨(q2v x).toNat,?_,by omega,g3,g4⟩
 refine q0g (fn:=q5S) rfl (q0a ?_)
 refine gg rfl (q01 rfl (fun g=>?_) (fun g=>?_))
 ·rw[q0E]at g;omega
 refine gg rfl (q01 rfl (fun g=>?_) (fun g=>?_))
 ·rw[q0E]at g;omega
 have hy:x<256:=by omega
 obtain⟨_,g2,g3,g4⟩:=q2i (x) hy
 have w8:IntKind.u8.wrap ((x:Nat):Int)=((x:Nat):Int):=by simp[IntKind.wrap,IntKind.bits,IntKind.signed];omega
 have w9:=ww (x:=(((q2v (x)).toNat:Nat):Int))
 refine gg rfl (q2f (x) rfl rfl w8 (q5i hy) (gg rfl (q08 rfl rfl rfl trivial ?_)))
 rw[w9]
 congr 1
 rw[wrap64 (by omega) (by omega)]
 omega
theorem qik (x:Nat)(hx:x<4294967296)(h0:x≠0):∃s:Nat,PU qcz [.int .u32 x]=some (.int .i64 s)∧s≤31∧2147483648≤x*2^s∧(x+1) *2^s≤4294967296:=by
 obtain⟨L,h1,h2,h3,h4⟩:=qFl x hx
 have h4:=h4 h0
 have hL:L≠0:=by rintro rfl;simp at h3;exact h0 h3
 refine⟨32-L,?_,by omega,?_,?_⟩
 ·refine q0g (fn:=q6b) rfl (q0a ?_)
  refine gg rfl (q02 rfl rfl h1 (gg rfl (q08 rfl rfl rfl trivial ?_)))
  congr 1
  rw[wrap64 (by omega) (by omega)]
  omega
 ·have e:2^L*2^(32-L)=4294967296:=by rw[←Nat.pow_add,show L+(32-L)=32 by omega]
  have:=Nat.mul_le_mul_right (2^(32-L)) h4
  rw[e,Nat.mul_assoc]at this
  omega
 have e:2^L*2^(32-L)=4294967296:=by rw[←Nat.pow_add,show L+(32-L)=32 by omega]
 rw[←e]
 exact Nat.mul_le_mul_right _ h3
end Go.F

namespace Go.F
attribute [local irreducible] IntKind.wrap wpM
theorem dg_mid {pre w post:List Nat}{k:Nat}(h:k<w.length):dg (pre++w++post) (pre.length+k)=dg w k:=by
 rw[qpd (by simp;omega),qmA (by omega)]
 congr 1;omega
theorem set_mid {pre w post:List Nat}{k v:Nat}(h:k<w.length):(pre++w++post).set (pre.length+k) v=pre++w.set k v++post:=by
 rw[List.set_append_left _ _ (by simp;omega),List.set_append_right _ _ (by omega)]
 congr 3;omega
section
variable {T:Tab}{sh:Shr}{nx0:Nat}{s:List Fr}{t:q0x}{h:q0e}{z:Frz}{nx:Nat}{q:Ex→q0x→q0e→Frz→Nat→Prop}
variable {base i:Nat}{res:List Nat}{g:Gd}{rest:List KOper}
theorem q55 {hint:Bool}{a v:X}{dst:Option Nat}{id k':Nat}{w':Int}(pre w post:List Nat)(k x:Nat)(ha:a.ev t=.ptr id k' 0)(hv:v.ev t=.int .u32 w')(hkk:k'=pre.length+k)(hw:w'=x)(hr:g.h base h id=some (.row ((pre++w++post).map u32) 1))(hz:g.z base z id=0)(hl:k<w.length)
 (hk:wpM T sh nx0 (.ops base res rest::s) .normal (put t dst (.tup [])) (upd h id (some (.row ((pre++w.set k x++post).map u32) 1))) z nx q):
 wpM T sh nx0 (.ops base res (⟨i,dst,none,g,.store hint 1 a v⟩::rest)::s) .normal t h z nx q:=by
 refine q20 (pre++w++post) (pre.length+k) x ha hv hkk hw hr (by omega) (by simp;omega) ?_
 rw[set_mid hl]
 exact hk
theorem q5Z {hint:Bool}{a:X}{dst:Nat}{id k':Nat}(pre w post:List Nat)(k:Nat)(ha:a.ev t=.ptr id k' 0)(hkk:k'=pre.length+k)(hr:g.h base h id=some (.row ((pre++w++post).map u32) 1))(hl:k<w.length)
 (hk:wpM T sh nx0 (.ops base res rest::s) .normal (upd t dst (.int .u32 (dg w k))) h z nx q):
 wpM T sh nx0 (.ops base res (⟨i,some dst,none,g,.load hint false 1 a⟩::rest)::s) .normal t h z nx q:=by
 refine q4k (pre++w++post) (pre.length+k) ha hkk hr (by simp;omega) ?_
 rw[dg_mid hl]
 exact hk
end
theorem qmX {l:List Nat}{n:Nat}(h:LOk l)(hn:l.length=n+1):val l=val (l.take n)+4294967296^n*dg l n∧val (l.take n)<4294967296^n:=by
 constructor
 ·have:=q0R l n
  rwa[List.take_of_length_le (by omega)]at this
 have:=q2Y (h.take n)
 rwa[List.length_take,hn,Nat.min_eq_left (by omega)]at this
theorem q2d {l:List Nat}(h:LOk l)(n:Nat):val (l.take n)<4294967296^n:=by
 refine Nat.lt_of_lt_of_le (q2Y (h.take n)) (Nat.pow_le_pow_right (by decide) (by simp;omega))
structure Trial (w v:List Nat)(n:Nat):Prop where
 n2:2≤n
 wl:w.length=n+1
 wo:LOk w
 vo:LOk v
 vl:n≤v.length
 hi:2147483648≤dg v (n-1)
 lt:val w<4294967296*val (v.take n)
theorem aux0 (T:Nat){d:Nat}(h:0<d):T<(T/d+1) *d:=by
 have:=Nat.div_add_mod T d
 have hm:=Nat.mod_lt T h
 rw[Nat.add_mul,Nat.one_mul,Nat.mul_comm]
 omega
theorem aux1 {x P T d:Nat}(h1:x<P)(h2:d<4294967296):x+P*(T*4294967296+d)<(T+1) *(P*4294967296):=by
 have h3:P*(T*4294967296+d)+P≤(T+1) *(P*4294967296):=by
  have e:(T+1) *(P*4294967296)=P*((T+1) *4294967296):=by rw[Nat.mul_left_comm]
  rw[e,←Nat.mul_succ]
  exact Nat.mul_le_mul_left _ (by omega)
 omega
theorem aux2 {q a b r d:Nat}(h:r*4294967296+d<q*b):(q*a+r) *4294967296+d<q*(a*4294967296+b):=by
 grind
theorem aux3 {q a b r d:Nat}(h0:q*b≤18446744065119617025)(h:4294967296≤r∨q*b≤r*4294967296+d):q*(a*4294967296+b)≤(q*a+r) *4294967296+d:=by
 rw[Nat.mul_add q,←Nat.mul_assoc]
 omega
theorem qB3 {x P T:Nat}(h:x<P):x+P*T<(T+1) *P:=by
 rw[Nat.add_mul,Nat.one_mul,Nat.mul_comm P];omega
theorem qB4 {x P T:Nat}:T*P≤x+P*T:=by
 rw[Nat.mul_comm P];omega
theorem Trial.v3 {w v:List Nat}{n:Nat}(h:Trial w v n):val (v.take n)=val (v.take (n-2))+4294967296^(n-2) *(dg v (n-1) *4294967296+dg v (n-2)):=by
 obtain⟨m,rfl⟩:∃m,n=m+2:=⟨n-2,by have:=h.n2;omega⟩
 simp only[Nat.add_sub_cancel,show m+2-1=m+1 by omega]
 rw[q0R,q0R,Nat.pow_succ,Nat.mul_add,Nat.mul_assoc,Nat.mul_comm 4294967296]
 omega
theorem Trial.w3 {w v:List Nat}{n:Nat}(h:Trial w v n):val w=val (w.take (n-2))+4294967296^(n-2) *((dg w n*4294967296+dg w (n-1)) *4294967296+dg w (n-2)):=by
 obtain⟨m,rfl⟩:∃m,n=m+2:=⟨n-2,by have:=h.n2;omega⟩
 simp only[Nat.add_sub_cancel,show m+2-1=m+1 by omega]
 rw[(qmX h.wo h.wl).1,q0R,q0R,show 4294967296^(m+2)=4294967296^m*4294967296*4294967296 by rw[Nat.pow_succ,Nat.pow_succ],Nat.pow_succ]
 generalize 4294967296^m=P
 generalize dg w (m+2)=a
 generalize dg w (m+1)=b
 grind
theorem Trial.pos {w v:List Nat}{n:Nat}(h:Trial w v n):4294967296*4294967296^(n-2)≤val (v.take n)∧0<val (v.take n):=by
 have hp:0<4294967296^(n-2):=Nat.pow_pos (by decide)
 have:4294967296*4294967296^(n-2)≤val (v.take n):=by
  rw[h.v3]
  have h1:=h.hi
  have:4294967296^(n-2) *4294967296≤4294967296^(n-2) *(dg v (n-1) *4294967296+dg v (n-2)):=Nat.mul_le_mul_left _ (by omega)
  omega
 exact⟨this,by omega⟩
theorem Trial.first {w v:List Nat}{n:Nat}(h:Trial w v n):val w/val (v.take n)≤(dg w n*4294967296+dg w (n-1))/dg v (n-1):=by
 have hh:=h.hi
 have key:=kn_gt (U:=val w) (V:=val (v.take n)) (P:=4294967296^(n-2) *4294967296) (ut:=dg w n*4294967296+dg w (n-1)) (vt:=dg v (n-1)) (q:=(dg w n*4294967296+dg w (n-1))/dg v (n-1)+1) ?_ ?_ h.pos.2 ?_
 ·exact Nat.le_of_lt_succ key
 ·rw[h.w3];exact aux1 (q2d h.wo (n-2)) (q1j h.wo (n-2))
 ·rw[h.v3]
  have e:dg v (n-1) *(4294967296^(n-2) *4294967296)=4294967296^(n-2) *(dg v (n-1) *4294967296):=by rw[Nat.mul_left_comm]
  rw[e,Nat.mul_add]
  exact Nat.le_trans (Nat.le_add_right _ _) (Nat.le_add_left _ _)
 exact aux0 _ (by omega)
theorem Trial.less {w v:List Nat}{n:Nat}(h:Trial w v n){q r:Nat}(he:q*dg v (n-1)+r=dg w n*4294967296+dg w (n-1))(hq:r*4294967296+dg w (n-2)<q*dg v (n-2)):val w/val (v.take n)<q:=by
 refine kn_gt (P:=4294967296^(n-2)) (ut:=(dg w n*4294967296+dg w (n-1)) *4294967296+dg w (n-2)) (vt:=dg v (n-1) *4294967296+dg v (n-2)) ?_ ?_ h.pos.2 ?_
 ·rw[h.w3];exact qB3 (q2d h.wo (n-2))
 ·rw[h.v3];exact qB4
 rw[←he];exact aux2 hq
theorem Trial.qlt {w v:List Nat}{n:Nat}(h:Trial w v n):val w/val (v.take n)<4294967296:=(Nat.div_lt_iff_lt_mul h.pos.2).2 h.lt
theorem Trial.end {w v:List Nat}{n:Nat}(h:Trial w v n){q r:Nat}(he:q*dg v (n-1)+r=dg w n*4294967296+dg w (n-1))(hq:q<4294967296)(hr:4294967296≤r∨q*dg v (n-2)≤r*4294967296+dg w (n-2)):q≤val w/val (v.take n)+1:=by
 refine kn_le (P:=4294967296^(n-2)) (B:=4294967296) (ut:=(dg w n*4294967296+dg w (n-1)) *4294967296+dg w (n-2)) (vt:=dg v (n-1) *4294967296+dg v (n-2)) ?_ ?_ h.pos.1 h.pos.2 hq ?_
 ·rw[h.w3];exact qB4
 ·rw[h.v3];exact qB3 (q2d h.vo (n-2))
 rw[←he];exact aux3 (qaJ hq (q1j h.vo (n-2))) hr
theorem Trial.first_le {w v:List Nat}{n:Nat}(h:Trial w v n):(dg w n*4294967296+dg w (n-1))/dg v (n-1)≤4294967297∧dg w n≤dg v (n-1):=by
 have hh:=h.hi
 have h1:dg w n≤dg v (n-1):=by
  have h2:=h.lt
  have hv:val (v.take n)<(dg v (n-1)+1) *(4294967296^(n-1)):=by
   have:=q0R v (n-1)
   rw[Nat.sub_add_cancel (by have:=h.n2;omega)]at this
   rw[this,Nat.add_mul,Nat.one_mul,Nat.mul_comm]
   have:=q2d h.vo (n-1)
   omega
  have hw:=(qmX h.wo h.wl).1
  have e:4294967296^n=4294967296*4294967296^(n-1):=by
   obtain⟨m,rfl⟩:∃m,n=m+1:=⟨n-1,by have:=h.n2;omega⟩
   rw[Nat.pow_succ,Nat.mul_comm];rfl
  by_cases hc:dg w n≤dg v (n-1)
  ·exact hc
  exfalso
  have h3:4294967296^n*(dg v (n-1)+1)≤4294967296^n*dg w n:=Nat.mul_le_mul_left _ (by omega)
  rw[e,Nat.mul_assoc,Nat.mul_comm (4294967296^(n-1))]at h3
  rw[e]at hw
  omega
 refine⟨?_,h1⟩
 have hl:=q1j h.wo (n-1)
 have:dg w n*4294967296+dg w (n-1)<4294967298*dg v (n-1):=by omega
 have:=(Nat.div_lt_iff_lt_mul (show 0<dg v (n-1)by omega)).2 this
 omega
end Go.F

namespace Go.F
attribute [local irreducible] IntKind.wrap wpM
def Old (U v Q:List Nat)(h:q0e)(z:Frz):Prop:=
 (∃h0:q0e,h=upd (upd (upd h0 4 (some (.row (Q.map u32) 1))) 3 (some (.row (v.map u32) 1))) 2 (some (.row (U.map u32) 1)))∧∃z0:Frz,z=upd (upd (upd z0 4 0) 3 0) 2 0
theorem Old.of {U v Q:List Nat}{h:q0e}{z:Frz}(h2:h 2=some (.row (U.map u32) 1))(h3:h 3=some (.row (v.map u32) 1))(h4:h 4=some (.row (Q.map u32) 1))(z2:z 2=0)(z3:z 3=0)(z4:z 4=0):Old U v Q h z:=by
 refine⟨⟨h,?_⟩,z,?_⟩
 ·rw[q2w (f:=h) h4,q2w (f:=h) h3,q2w (f:=h) h2]
 rw[q2w (f:=z) z4,q2w (f:=z) z3,q2w (f:=z) z2]
theorem Old.old {nx0:Nat}{U v Q:List Nat}{h:q0e}{z:Frz}(h2:h 2=some (.row (U.map u32) 1))(h3:h 3=some (.row (v.map u32) 1))(h4:h 4=some (.row (Q.map u32) 1))(z2:z 2=0)(z3:z 3=0)(z4:z 4=0):Old U v Q (q1e nx0 h) z:=
 Old.of (q8w h2) (q8w h3) (q8w h4) z2 z3 z4
theorem qAZ {w w' v:List Nat}{n q c b:Nat}(T:Trial w v n)(hq1:val w/val (v.take n)≤q)(hq2:q≤val w/val (v.take n)+1)(hw':w'.length=n+1)(hwo':LOk w')(hc:c<4294967296)(hb:b≤1)
 (hinv:val (w'.take n)+q*val (v.take n)=val (w.take n)+4294967296^n*(b+c)):
 (c+b≤dg w n→q=val w/val (v.take n)∧val (w'.set n (dg w n-c-b))=val w%val (v.take n))∧
 (dg w n<c+b→q=val w/val (v.take n)+1∧dg w n+4294967296-c-b<4294967296∧val (w'.set n (dg w n+4294967296-c-b))+q*val (v.take n)=val w+4294967296^(n+1)):=by
 have e1:=(qmX T.wo T.wl).1
 have hset:∀x,val (w'.set n x)=val (w'.take n)+4294967296^n*x:=by
  intro x
  have:=q2G (r:=w') (k:=n) (v:=x) (by omega)
  rwa[List.take_of_length_le (by simp;omega)]at this
 have hV:=T.pos.2
 have hlt:=q2d hwo' n
 generalize val (v.take n)=V at*
 constructor
 ·intro hle
  have e2:val (w'.set n (dg w n-c-b))+q*V=val w:=by
   rw[hset,e1]
   have:4294967296^n*(dg w n-c-b)+4294967296^n*(b+c)=4294967296^n*dg w n:=by rw[←Nat.mul_add];congr 1;omega
   omega
  have hqle:q≤val w/V:=(Nat.le_div_iff_mul_le hV).2 (by omega)
  have hq:q=val w/V:=by omega
  refine⟨hq,?_⟩
  have:=Nat.div_add_mod (val w) V
  rw[←hq,Nat.mul_comm]at this
  omega
 intro hgt
 have hgt':val w<q*V:=by
  rw[e1]
  have h1:4294967296^n*(dg w n+1)≤4294967296^n*(b+c):=Nat.mul_le_mul_left _ (by omega)
  rw[Nat.mul_add,Nat.mul_one]at h1
  omega
 have hne:q≠val w/V:=by
  intro e
  have:=Nat.div_mul_le_self (val w) V
  rw[←e]at this
  omega
 have hwn:=q1j T.wo n
 have hcb:c+b≤dg w n+4294967296:=by
  by_cases h:c+b≤dg w n+4294967296
  ·exact h
  omega
 refine⟨by omega,by omega,?_⟩
 rw[hset,e1,Nat.pow_succ]
 have:4294967296^n*(dg w n+4294967296-c-b)+4294967296^n*(b+c)=4294967296^n*dg w n+4294967296^n*4294967296:=by rw[←Nat.mul_add,←Nat.mul_add];congr 1;omega
 omega
theorem qB0 {w w1 w2 v:List Nat}{n q c:Nat}(T:Trial w v n)(hq:q=val w/val (v.take n)+1)(h1:w1.length=n+1)(h1o:LOk w1)(h2:w2.length=n+1)(h2o:LOk w2)(hc:c≤1)(hd:dg w2 n=dg w1 n)
 (hv1:val w1+q*val (v.take n)=val w+4294967296^(n+1)) (hinv:val (w2.take n)+4294967296^n*c=val (w1.take n)+val (v.take n)):
 val (w2.set n ((dg w1 n+c)%4294967296))=val w%val (v.take n):=by
 have e1:=(qmX h1o h1).1
 have hset:val (w2.set n ((dg w1 n+c)%4294967296))=val (w2.take n)+4294967296^n*((dg w1 n+c)%4294967296):=by
  have:=q2G (r:=w2) (k:=n) (v:=(dg w1 n+c)%4294967296) (by omega)
  rwa[List.take_of_length_le (by simp;omega)]at this
 have hV:=T.pos.2
 have hl2:=q2d h2o n
 have hdm:=Nat.div_add_mod (val w) (val (v.take n))
 have hml:=Nat.mod_lt (val w) hV
 have hVl:=q2d T.vo n
 generalize val (v.take n)=V at*
 generalize val w/V=Qt at*
 generalize val w%V=R at*
 subst hq
 rw[Nat.add_mul,Nat.one_mul,Nat.mul_comm Qt]at hv1
 have hdl:=q1j h1o n
 have hcar:=q4j (4294967296^n) (dg w1 n+c)
 rw[Nat.mul_add (4294967296^n) (dg w1 n) c,←Nat.pow_succ]at hcar
 have hcase:(dg w1 n+c)/4294967296=0∨(dg w1 n+c)/4294967296=1:=by omega
 rw[hset]
 have hmul:4294967296^n*((dg w1 n+c)%4294967296)+4294967296^n≤4294967296^(n+1):=by
  rw[Nat.pow_succ,←Nat.mul_succ];exact Nat.mul_le_mul_left _ (Nat.mod_lt _ (by decide))
 rcases hcase with h|h
 ·rw[h,Nat.mul_zero]at hcar
  omega
 rw[h,Nat.mul_one]at hcar
 omega
end Go.F
