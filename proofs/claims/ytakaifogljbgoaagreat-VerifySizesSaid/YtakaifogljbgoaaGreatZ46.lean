/- Parts of the proof, part 46: Geo1~, Geo4~, Geo7~, Geo8~, Geo9~, St1~, Ref1~, Plain1~, Ref2~, Ref3~, All1~, All2~, Flt~, Stop3~, Nat1~, Nat3~, Nat4~, Nat5~, Nat6~, Nat7~, Nat8~, Nat9~, Nat10~, Nat11~, Nat12~, Int1~, Rat1~, Rat2~, Rat3~, Pt1~, All3~. -/
import Derived.Test.YtakaifogljbgoaaGreatZ44
import Derived.Test.YtakaifogljbgoaaGreatZ43
import Derived.KernelRfl
set_option linter.all false
namespace Go.F
attribute [local irreducible] IntKind.wrap wpM
theorem qhU (a b c:Spot) [OkS a] [OkS b] [OkS c]:PU qdN [a.enc,b.enc,c.enc]=some (.int .i64 (q12 a b c)):=by
 refine q0g (fn:=qkK) rfl (q0a ?_)
 repeat' (first
  |refine goP 800 rfl rfl ?_
  |refine q0h rfl ?_|refine q0o rfl ?_|refine q09 rfl (fun _=>?_) (fun _=>?_)
  |refine q0e rfl ?_|refine q0j rfl ?_|refine q01 rfl (fun _=>?_) (fun _=>?_)
  |refine q0L rfl (fun _=>?_) (fun _=>?_)
  |refine q08 rfl rfl rfl trivial ?_)
 simp[q0U,q12]
theorem q8o (a b p:Spot) [OkS a] [OkS b] [OkS p]:PU qfN [a.enc,b.enc,p.enc]=some (.bool (onS a b p)):=by
 refine q0g (fn:=qft) rfl (q0a ?_)
 repeat' (first
  |refine goP 800 rfl rfl ?_
  |refine q0h rfl ?_|refine q0o rfl ?_|refine q09 rfl (fun _=>?_) (fun _=>?_)
  |refine q0e rfl ?_|refine q0j rfl ?_|refine q01 rfl (fun _=>?_) (fun _=>?_)
  |refine q0L rfl (fun _=>?_) (fun _=>?_)
  |refine q08 rfl rfl rfl trivial ?_
  |refine q02 rfl rfl (qhU _ _ _) ?_)
 all_goals ((try simp only[q1M,q26,q2c,q42,decide_eq_true_eq,decide_eq_false_iff_not,Bool.not_eq_true,Bool.not_eq_false,Int.not_lt,Int.not_le]at*);first|(simp_all[onS];done) |(simp_all[onS];omega) |(rw[D.bool.injEq,Bool.eq_iff_iff];simp[onS];omega) |(rw[D.bool.injEq,Bool.eq_iff_iff];simp_all[onS];omega) |(simp[onS];split<;>(try split)<;>omega))
theorem qw2 (n:Int):PU qoL [.int .i64 n]=some (.int .i64 (sgn n)):=by
 refine q0g (fn:=qnv) rfl (q0a ?_)
 repeat' (first
  |refine goP 800 rfl rfl ?_
  |refine q0h rfl ?_|refine q0o rfl ?_|refine q09 rfl (fun _=>?_) (fun _=>?_)
  |refine q0e rfl ?_|refine q0j rfl ?_|refine q01 rfl (fun _=>?_) (fun _=>?_)
  |refine q0L rfl (fun _=>?_) (fun _=>?_)
  |refine q08 rfl rfl rfl trivial ?_)
 all_goals ((try simp only[q1M,q26,q2c,q42,decide_eq_true_eq,decide_eq_false_iff_not,Bool.not_eq_true,Bool.not_eq_false,Int.not_lt,Int.not_le]at*);first|(simp_all[sgn];done) |(simp_all[sgn];omega) |(rw[D.bool.injEq,Bool.eq_iff_iff];simp[sgn];omega) |(rw[D.bool.injEq,Bool.eq_iff_iff];simp_all[sgn];omega) |(simp[sgn];split<;>(try split)<;>omega))
theorem qw3 (a b c d:Spot) [OkS a] [OkS b] [OkS c] [OkS d]:PU qzb [a.enc,b.enc,c.enc,d.enc]=some (.bool (q2J a b c d)):=by
 refine q0g (fn:=qns) rfl (q0a ?_)
 repeat' (first
  |refine goP 800 rfl rfl ?_
  |refine q0h rfl ?_|refine q0o rfl ?_|refine q09 rfl (fun _=>?_) (fun _=>?_)
  |refine q0e rfl ?_|refine q0j rfl ?_|refine q01 rfl (fun _=>?_) (fun _=>?_)
  |refine q0L rfl (fun _=>?_) (fun _=>?_)
  |refine q08 rfl rfl rfl trivial ?_
  |refine q02 rfl rfl (q8o _ _ _) ?_
  |refine q02 rfl rfl (qhU _ _ _) ?_
  |refine q02 rfl rfl (qw2 _) ?_)
 all_goals ((try simp only[q1M,q26,q2c,q42,decide_eq_true_eq,decide_eq_false_iff_not,Bool.not_eq_true,Bool.not_eq_false,Int.not_lt,Int.not_le]at*);first|(simp_all[q2J,q2m,q0U];done) |(simp_all[q2J,q2m,q0U];omega) |(rw[D.bool.injEq,Bool.eq_iff_iff];simp[q2J,q2m,q0U];omega) |(rw[D.bool.injEq,Bool.eq_iff_iff];simp_all[q2J,q2m,q0U];omega) |(simp[q2J,q2m,q0U];split<;>(try split)<;>omega))
end Go.F

namespace Go.F
attribute [local irreducible] IntKind.wrap wpM
def q2x (p:List Spot):Nat→Int
 |0=>0
 |k+1=>q2x p k+((pt p k).x*(pt p ((k+1)%p.length)).y-(pt p k).y*(pt p ((k+1)%p.length)).x)
def qar (p:List Spot):Int:=q2x p p.length
theorem qas (p:List Spot) [OkP p](k:Nat):Bd (q2x p k) (k*35184372088832):=by
 induction k with
 |zero=>exact⟨by simp[q2x]⟩
 |succ k ih=>
  have h:Bd ((pt p k).x*(pt p ((k+1)%p.length)).y-(pt p k).y*(pt p ((k+1)%p.length)).x) _:=inferInstance
  have:=h.le
  have:=ih.le
  refine⟨?_⟩
  rw[q2x]
  omega
set_option maxHeartbeats 1000000 in
theorem qAV (p:List Spot) [OkP p](hp:p.length≤1000):PU qoq [q0k p]=some (.int .i64 (qar p)):=by
 refine q0g (fn:=qcJ) rfl (q0a ?_)
 refine gg rfl (q0l (S:=fun k:Nat=>([q0k p,q00 (q2x p k),q0k p,q00 p.length,q00 k],[none,none,none,none,none],[0,0,0,0,0])) (C:=fun k=>k≤p.length) (m:=fun k=>p.length-k) 0 (by omega) (by omega) ?_ ?_)
 ·exact q03 rfl trivial (by simp[q0k,q00,q2x])
 intro k hk N hN
 refine gg rfl (q01 rfl (fun h1=>?_) (fun h1=>?_))
 ·rw[q06]at h1
  have hlt:k<p.length:=by omega
  have w1:=wS (n:=k)
  have b0:=(qas p k).le
  have b1:=(qas p (k+1)).le
  refine gg rfl (q0i k rfl rfl rfl (q0P hlt) rfl (gg rfl (q37 rfl rfl (by rw[List.length_map];omega) ?_)))
  refine gg rfl (q0i ((k+1)%p.length) rfl rfl (by rw[w1,List.length_map,q1q]) (q0P (Nat.mod_lt _ (by omega))) rfl ?_)
  refine gg rfl (q04 (hN (k+1) (by omega) (by omega) ?_))
  refine q03 rfl trivial ?_
  have e1:IntKind.i64.wrap ((pt p k).x*(pt p ((k+1)%p.length)).y)=(pt p k).x*(pt p ((k+1)%p.length)).y:=q0U (by decide)
  have e2:IntKind.i64.wrap ((pt p k).y*(pt p ((k+1)%p.length)).x)=(pt p k).y*(pt p ((k+1)%p.length)).x:=q0U (by decide)
  have e3:IntKind.i64.wrap ((pt p k).x*(pt p ((k+1)%p.length)).y-(pt p k).y*(pt p ((k+1)%p.length)).x)=(pt p k).x*(pt p ((k+1)%p.length)).y-(pt p k).y*(pt p ((k+1)%p.length)).x:=q0U (by decide)
  have e4:=ww (x:=q2x p (k+1))
  rw[q2x]at e4
  simp[q0k,q00,q2x,w1,e1,e2,e3,e4]
 rw[q07]at h1
 refine gg rfl (q04 (gg rfl (q08 rfl rfl rfl trivial ?_)))
 obtain rfl:k=p.length:=by omega
 rfl
def q16 (p:List Spot):Int:=if q1F p=0 then qar p else 0
theorem q14 {p:List Spot}(h:q1F p=0):3≤p.length∧p.length≤40∧OkP p∧(∀s∈p,q0v s 1048576=true)∧q3F p:=by
 unfold q1F at h
 split at h
 ·cases h
 split at h
 ·cases h
 split at h
 ·cases h
 split at h
 ·rename_i h1 h2 h3 h4
  have h3':p.any (fun s=>!q0v s 1048576)=false:=by simpa using h3
  refine⟨by omega,by omega,qyU h3',?_,h4⟩
  simpa using h3
 cases h
theorem qw5 (p:List Spot):PU qca [q0k p]=some (.int .i64 (q16 p)):=by
 refine q0g (fn:=qbw) rfl (q0a ?_)
 refine gg rfl (q02 rfl rfl (q3q p) (gg rfl (q01 rfl (fun h=>?_) (fun h=>?_))))
 ·refine gg rfl (q08 rfl rfl rfl trivial ?_)
  rw[q0u]at h
  rw[q16,if_neg h]
 rw[q0z]at h
 obtain⟨_,h2,h3,_,_⟩:=q14 h
 refine gg rfl (q02 rfl rfl (qAV p (by omega)) ?_)
 refine gg rfl (q08 rfl rfl rfl trivial ?_)
 rw[q16,if_pos h]
end Go.F

namespace Go.F
attribute [local irreducible] IntKind.wrap wpM
theorem qtl (n:Nat):PU qlB [.int .u8 n]=some (.bool (q4O n)):=by
 refine q0g (fn:=qkC) rfl (q0a ?_)
 repeat' (first
  |refine goP 800 rfl rfl ?_
  |refine q0h rfl ?_|refine q0o rfl ?_|refine q09 rfl (fun _=>?_) (fun _=>?_)
  |refine q0e rfl ?_|refine q0j rfl ?_|refine q01 rfl (fun _=>?_) (fun _=>?_)
  |refine q0L rfl (fun _=>?_) (fun _=>?_)
  |refine q08 rfl rfl rfl trivial ?_)
 all_goals ((try simp only[q1M,q26,q2c,q42,decide_eq_true_eq,decide_eq_false_iff_not,Bool.not_eq_true,Bool.not_eq_false,Int.not_lt,Int.not_le]at*);first|(simp_all[q4O];done) |(simp_all[q4O];omega) |(rw[D.bool.injEq,Bool.eq_iff_iff];simp[q4O];omega) |(rw[D.bool.injEq,Bool.eq_iff_iff];simp_all[q4O];omega) |(simp[q4O];split<;>(try split)<;>omega))
end Go.F

namespace Go.F
attribute [local irreducible] IntKind.wrap wpM
theorem qb7:(⟨#[]⟩:ByteArray).toList=[]:=by rw[Go.ByteArray.toList_eq]
theorem qhV {s:ByteArray}:(s.toList==[])=decide (s.size=0):=by
 rw[←qoj]
 cases s.toList<;>simp
set_option maxHeartbeats 2000000 in
theorem qdJ (s:ByteArray):PU qz4 [.str s]=some (.bool (q1K s)):=by
 refine q0g (fn:=qnC) rfl (q0a ?_)
 refine gg rfl (q09 rfl (fun h0=>?_) (fun h0=>?_))
 ·repeat' (first
   |refine goP 800 rfl rfl ?_
   |refine q0h rfl ?_|refine q0o rfl ?_|refine q09 rfl (fun _=>?_) (fun _=>?_)
   |refine q0e rfl ?_|refine q0j rfl ?_|refine q01 rfl (fun _=>?_) (fun _=>?_)
   |refine q0L rfl (fun _=>?_) (fun _=>?_)
   |refine q08 rfl rfl rfl trivial ?_)
  rw[qb7,qhV,decide_eq_true_eq]at h0
  simp[q1K,h0]
 refine gg rfl ?_
 rw[qb7,qhV,decide_eq_false_iff_not]at h0
 refine q09 rfl (fun h1=>?_) (fun h1=>?_)
 ·repeat' (first
   |refine goP 800 rfl rfl ?_
   |refine q0h rfl ?_|refine q0o rfl ?_|refine q09 rfl (fun _=>?_) (fun _=>?_)
   |refine q0e rfl ?_|refine q0j rfl ?_|refine q01 rfl (fun _=>?_) (fun _=>?_)
   |refine q0L rfl (fun _=>?_) (fun _=>?_)
   |refine q08 rfl rfl rfl trivial ?_)
  rw[q06]at h1
  have:24<s.size:=by omega
  simp[q1K,this]
 refine gg rfl ?_
 rw[q07]at h1
 refine q09 rfl (fun h2=>?_) (fun h2=>?_)
 ·repeat' (first
   |refine goP 800 rfl rfl ?_
   |refine q0h rfl ?_|refine q0o rfl ?_|refine q09 rfl (fun _=>?_) (fun _=>?_)
   |refine q0e rfl ?_|refine q0j rfl ?_|refine q01 rfl (fun _=>?_) (fun _=>?_)
   |refine q0L rfl (fun _=>?_) (fun _=>?_)
   |refine q08 rfl rfl rfl trivial ?_)
  replace h2:=qtm h2
  simp[q1K,h2]
 refine gg rfl ?_
 replace h2:=qtm h2
 refine q09 rfl (fun h3=>?_) (fun h3=>?_)
 ·repeat' (first
   |refine goP 800 rfl rfl ?_
   |refine q0h rfl ?_|refine q0o rfl ?_|refine q09 rfl (fun _=>?_) (fun _=>?_)
   |refine q0e rfl ?_|refine q0j rfl ?_|refine q01 rfl (fun _=>?_) (fun _=>?_)
   |refine q0L rfl (fun _=>?_) (fun _=>?_)
   |refine q08 rfl rfl rfl trivial ?_)
  replace h3:=qtn h3
  simp[q1K,h3]
 refine gg rfl ?_
 replace h3:=qtn h3
 have key:∀b,(decide (∀i,i<s.size→q7h i (q2r s i).toNat=true))=b→q1K s=b:=by
  intro b hb
  rw[q1K,hb,h2,h3]
  rw[show decide (s.size=0)=false by rw[decide_eq_false_iff_not];omega,show decide (24<s.size)=false by rw[decide_eq_false_iff_not];omega]
  simp
 have no:∀k,k<s.size→q7h k (q2r s k).toNat=false→q1K s=false:=by
  intro k hk hc
  refine key false ?_
  simp
  exact⟨k,hk,hc⟩
 have h00:0<s.size:=by omega
 refine q2d 0 rfl rfl rfl (q6j h00) (gg rfl (q09 rfl (fun h4=>?_) (fun h4=>?_)))
 ·repeat' (first
   |refine goP 800 rfl rfl ?_
   |refine q0h rfl ?_|refine q0o rfl ?_|refine q09 rfl (fun _=>?_) (fun _=>?_)
   |refine q0e rfl ?_|refine q0j rfl ?_|refine q01 rfl (fun _=>?_) (fun _=>?_)
   |refine q0L rfl (fun _=>?_) (fun _=>?_)
   |refine q08 rfl rfl rfl trivial ?_)
  rw[q06]at h4
  rw[no 0 h00 (by simp[q7h];omega)]
 refine gg rfl ?_
 rw[q07]at h4
 refine q2d 0 rfl rfl rfl (q6j h00) (gg rfl (q01 rfl (fun h5=>?_) (fun h5=>?_)))
 ·repeat' (first
   |refine goP 800 rfl rfl ?_
   |refine q0h rfl ?_|refine q0o rfl ?_|refine q09 rfl (fun _=>?_) (fun _=>?_)
   |refine q0e rfl ?_|refine q0j rfl ?_|refine q01 rfl (fun _=>?_) (fun _=>?_)
   |refine q0L rfl (fun _=>?_) (fun _=>?_)
   |refine q08 rfl rfl rfl trivial ?_)
  rw[q06]at h5
  rw[no 0 h00 (by simp[q7h];omega)]
 refine gg rfl ?_
 rw[q07]at h5
 refine q0l (S:=fun k:Nat=>([.str s,q00 k],[none,none],[0,0])) (C:=fun k=>k≤s.size∧∀i,i<k→q7h i (q2r s i).toNat=true) (m:=fun k=>s.size-k) 0 ⟨by omega,fun i hi=>by omega⟩ (by omega) ?_ ?_
 ·exact q03 rfl trivial (by simp[q00])
 intro k ⟨hk,hall⟩ N hN
 refine gg rfl (q01 rfl (fun g1=>?_) (fun g1=>?_))
 ·rw[q06]at g1
  have hlt:k<s.size:=by omega
  have w1:=wS (n:=k)
  have yes:q7h k (q2r s k).toNat=true→∀{t:q0x} {h:q0d} {z:Frz} {nx:Nat},(q10 0 [(0,0),(3,0)] t h z nx fun _ _ kp=>kp=([.str s,q00 ((k+1:Nat):Int)],[none,none],[0,0]))→N t h z nx:=by
   intro hc t h z nx hst
   refine hN (k+1) ⟨by omega,fun i hi=>?_⟩ (by omega) hst
   by_cases hik:i<k
   ·exact hall i hik
   obtain rfl:i=k:=by omega
   exact hc
  have no':=no k hlt
  have k0:k=0→97≤(q2r s k).toNat∧(q2r s k).toNat≤122:=by intro e;subst e;omega
  clear hN no key hall h4 h5 h2 h3
  refine gg rfl ?_
  repeat' (first
   |refine goP 800 rfl rfl ?_
   |refine q0h rfl ?_|refine q0o rfl ?_|refine q09 rfl (fun _=>?_) (fun _=>?_)
   |refine q0e rfl ?_|refine q0j rfl ?_|refine q01 rfl (fun _=>?_) (fun _=>?_)
   |refine q0L rfl (fun _=>?_) (fun _=>?_)
   |refine q08 rfl rfl rfl trivial ?_
   |refine q2d k rfl rfl rfl (q6j hlt) ?_
   |refine q02 rfl rfl (qtl _) ?_)
  all_goals refine q04 ?_
  all_goals generalize (q2r s k).toNat=c at*
  all_goals simp only[q1M,q26,q2c,q42,q4O,decide_eq_true_eq,decide_eq_false_iff_not,Bool.not_eq_true,Bool.not_eq_false,Int.not_lt,Int.not_le]at*
  all_goals first
   |(refine yes ?_ (q03 rfl trivial (by simp[q00,w1]))
     simp_all[q7h,q4O]
     try omega)
   |(refine gg rfl ?_
     refine q08 rfl rfl rfl trivial ?_
     rw[no']
     simp_all[q7h,q4O]
     try omega)
 rw[q07]at g1
 refine gg rfl (q04 (gg rfl (q08 rfl rfl rfl trivial ?_)))
 rw[key true (by simp;exact fun i hi=>hall i (by omega))]
end Go.F

namespace Go.F
attribute [local irreducible] IntKind.wrap wpM
theorem q2o {l:List Edge}(h:q0J l=0):∀e∈l,2≤e.line.length∧e.line.length≤40:=by
 intro e he
 obtain⟨i,hi,rfl⟩:=qyW he
 have:=q2j (q2P (q18 (q0Z h).2.2.1 hi))
 exact⟨this.1,this.2.1⟩
def q9f (l:List Edge):D:=if q0J l=0 then .tup [q0k (q0n l),.int .i64 0]else .tup [.lst [],.int .i64 (q0J l)]
theorem q5q (l:List Edge):PU qhZ [edges l]=some (q9f l):=by
 refine q0g (fn:=q96) rfl (q0a ?_)
 refine gg rfl (q02 rfl rfl (q6k l) (gg rfl (q01 rfl (fun h=>?_) (fun h=>?_))))
 ·rw[q0u]at h
  refine gg rfl (q08 rfl rfl rfl trivial ?_)
  rw[q9f,if_neg h]
 rw[q0z]at h
 have hb:=q2o h
 have:=q0Z h
 have hv:=q14 this.2.2.2.2
 refine gg rfl (q02 rfl rfl (qlw l (fun e he=>⟨by have:=hb e he;omega,by have:=hb e he;omega⟩) (by omega) (by omega)) ?_)
 refine gg rfl (q08 rfl rfl rfl trivial ?_)
 rw[q9f,if_pos h,q0k]
end Go.F

namespace Go.F
def us (l:List Use)(i:Nat):Use:=l.getD i ⟨0,0,false⟩
theorem qef {l:List Use}{i:Nat}(h:i<l.length):us l i=l[i]:=by simp[us,h]
theorem qpR {l:List Use}{i:Nat}(h:i<l.length):(l.map Use.enc)[i]?=some (us l i).enc:=by simp[us,h]
theorem qAh {l:List ByteArray}{i:Nat}(h:i<l.length):sz l i=l[i]:=by simp[sz,h]
theorem qAi {l:List ByteArray}{i:Nat}(h:i<l.length):(l.map D.str)[i]?=some (.str (sz l i)):=by simp[sz,h]
end Go.F

namespace Go.F
attribute [local irreducible] IntKind.wrap wpM
def quJ (n:Int):Bool:=decide (1048576<n) ||decide (n< -1048576)
theorem qzZ (n:Int):PU qse [.int .i64 n]=some (.bool (quJ n)):=by
 refine q0g (fn:=qs6) rfl (q0a ?_)
 repeat' (first
  |refine goP 800 rfl rfl ?_
  |refine q0h rfl ?_|refine q0o rfl ?_|refine q09 rfl (fun _=>?_) (fun _=>?_)
  |refine q0e rfl ?_|refine q0j rfl ?_|refine q01 rfl (fun _=>?_) (fun _=>?_)
  |refine q0L rfl (fun _=>?_) (fun _=>?_)
  |refine q08 rfl rfl rfl trivial ?_)
 all_goals ((try simp only[q1M,q26,q2c,q42,decide_eq_true_eq,decide_eq_false_iff_not,Bool.not_eq_true,Bool.not_eq_false,Int.not_lt,Int.not_le]at*);first|(simp_all[quJ];done) |(simp_all[quJ];omega) |(rw[D.bool.injEq,Bool.eq_iff_iff];simp[quJ];omega) |(rw[D.bool.injEq,Bool.eq_iff_iff];simp_all[quJ];omega) |(simp[quJ];split<;>(try split)<;>omega))
theorem qA0 (s:Spot):(quJ s.x||quJ s.y)=!q0v s 1048576:=by
 rw[Bool.eq_iff_iff]
 simp[quJ,q0v]
 omega
theorem qA1 (p:List Spot)(hp:p.length<4611686018427387904):PU qCk [q0k p]=some (.bool (p.any fun s=>!q0v s 1048576)):=by
 refine q0g (fn:=qrz) rfl (q0a ?_)
 refine gg rfl (q0l (S:=fun k:Nat=>([q0k p,q00 k],[none,none],[0,0])) (C:=fun k=>k≤p.length∧∀i,i<k→(!q0v (pt p i) 1048576)=false) (m:=fun k=>p.length-k) 0 ⟨by omega,fun i hi=>by omega⟩ (by omega) ?_ ?_)
 ·exact q03 rfl trivial (by simp[q0k,q00])
 intro k ⟨hk,hall⟩ N hN
 refine gg rfl (q01 rfl (fun g1=>?_) (fun g1=>?_))
 ·rw[q06,List.length_map]at g1
  have hlt:k<p.length:=by omega
  have w1:=wS (n:=k)
  have hfar:=qA0 (pt p k)
  have yes:(!q0v (pt p k) 1048576)=true→(p.any fun s=>!q0v s 1048576)=true:=by
   intro h
   rw[List.any_eq_true]
   exact⟨pt p k,by rw[q0D hlt];exact List.getElem_mem hlt,h⟩
  refine gg rfl ?_
  repeat' (first
   |refine goP 800 rfl rfl ?_
   |refine q0h rfl ?_|refine q0o rfl ?_|refine q09 rfl (fun _=>?_) (fun _=>?_)
   |refine q0e rfl ?_|refine q0j rfl ?_|refine q01 rfl (fun _=>?_) (fun _=>?_)
   |refine q0L rfl (fun _=>?_) (fun _=>?_)
   |refine q08 rfl rfl rfl trivial ?_
   |refine q0i k rfl rfl rfl (q0P hlt) rfl ?_
   |refine q02 rfl rfl (qzZ _) ?_)
  ·refine q04 (gg rfl (q08 rfl rfl rfl trivial ?_))
   rw[yes]
   simp_all
  ·refine q04 (gg rfl (q08 rfl rfl rfl trivial ?_))
   rw[yes]
   simp_all
  refine q04 (hN (k+1) ⟨by omega,fun i hi=>?_⟩ (by omega) (q03 rfl trivial (by simp[q0k,q00,w1])))
  by_cases hik:i<k
  ·exact hall i hik
  obtain rfl:i=k:=by omega
  rw[←hfar]
  simp_all
 rw[q07,List.length_map]at g1
 refine gg rfl (q04 (gg rfl (q08 rfl rfl rfl trivial ?_)))
 congr 1
 symm
 rw[List.any_eq_false]
 intro s hs
 obtain⟨i,hi,rfl⟩:=List.getElem_of_mem hs
 rw[←q0D hi,hall i (by omega)]
 decide
theorem qit (p:List Spot):PU qww [q0k p]=some (.int .i64 (q1t p)):=by
 refine q0g (fn:=qkY) rfl (q0a ?_)
 refine gg rfl (q01 rfl (fun h1=>?_) (fun h1=>?_))
 ·refine gg rfl (q08 rfl rfl rfl trivial ?_)
  rw[q06,List.length_map]at h1
  rw[q1t,if_pos (by omega)]
 refine gg rfl ?_
 rw[q07,List.length_map]at h1
 refine q01 rfl (fun h2=>?_) (fun h2=>?_)
 ·refine gg rfl (q08 rfl rfl rfl trivial ?_)
  rw[q06,List.length_map]at h2
  rw[q1t,if_neg (by omega),if_pos (by omega)]
 refine gg rfl ?_
 rw[q07,List.length_map]at h2
 refine q02 rfl rfl (qA1 p (by omega)) ?_
 refine gg rfl (q01 rfl (fun h3=>?_) (fun h3=>?_))
 ·refine gg rfl (q08 rfl rfl rfl trivial ?_)
  rw[q1t,if_neg (by omega),if_neg (by omega),if_pos h3]
 refine gg rfl (q0l (S:=fun k:Nat=>([q0k p,q00 k],[none,none],[0,0])) (C:=fun k=>1≤k∧k≤p.length∧∀i,i+1<k→pt p i≠pt p (i+1)) (m:=fun k=>p.length-k) 1 ⟨by omega,by omega,fun i hi=>by omega⟩ (by omega) ?_ ?_)
 ·exact q03 rfl trivial (by simp[q0k,q00])
 intro k ⟨hk0,hk,hno⟩ N hN
 refine gg rfl (q01 rfl (fun g1=>?_) (fun g1=>?_))
 ·rw[q06,List.length_map]at g1
  have hlt:k<p.length:=by omega
  have w1:=wS (n:=k)
  have w2:IntKind.i64.wrap ((k:Int)-1)=((k-1:Nat):Int):=by rw[wrap64 (by omega) (by omega)];omega
  have hk1:k-1+1=k:=by omega
  refine gg rfl (q0i k rfl rfl rfl (q0P hlt) rfl (gg rfl (q0i (k-1) rfl rfl w2 (q0P (by omega)) rfl ?_)))
  refine gg rfl (q01 rfl (fun g2=>?_) (fun g2=>?_))
  ·refine gg rfl (q04 (gg rfl (q08 rfl rfl rfl trivial ?_)))
   rw[q1t,if_neg (by omega),if_neg (by omega),if_neg (by rw[h3];decide),if_neg]
   intro hall
   refine hall (k-1) (by omega) ?_
   rw[q1I]at g2
   rw[hk1]
   exact(of_decide_eq_true g2).symm
  refine gg rfl (q04 (hN (k+1) ⟨by omega,by omega,fun i hi=>?_⟩ (by omega) (q03 rfl trivial (by simp[q0k,q00,w1]))))
  by_cases hik:i+1<k
  ·exact hno i hik
  obtain rfl:i=k-1:=by omega
  rw[q1I]at g2
  rw[hk1]
  exact fun e=>of_decide_eq_false g2 e.symm
 rw[q07,List.length_map]at g1
 refine gg rfl (q04 (gg rfl (q08 rfl rfl rfl trivial ?_)))
 rw[q1t,if_neg (by omega),if_neg (by omega),if_neg (by rw[h3];decide),if_pos (fun i hi=>hno i (by omega))]
theorem qfV (s:Spot):PU qtz [s.enc,.int .i64 1048576]=some (.bool (q0v s 1048576)):=by
 have w:IntKind.i64.wrap (0-1048576)= -1048576:=wrap64 (by decide) (by decide)
 refine q0g (fn:=qhd) rfl (q0a ?_)
 repeat' (first
  |refine goP 800 rfl rfl ?_
  |refine q0h rfl ?_|refine q0o rfl ?_|refine q09 rfl (fun _=>?_) (fun _=>?_)
  |refine q0e rfl ?_|refine q0j rfl ?_|refine q01 rfl (fun _=>?_) (fun _=>?_)
  |refine q0L rfl (fun _=>?_) (fun _=>?_)
  |refine q08 rfl rfl rfl trivial ?_)
 all_goals rw[D.bool.injEq,Bool.eq_iff_iff]
 all_goals simp only[q1M,q26,w,decide_eq_true_eq,decide_eq_false_iff_not]at*
 all_goals simp[q0v]
 all_goals omega
end Go.F

namespace Go.F
theorem qDa {ux uy vx vy:Int}(hc:ux*vy=uy*vx)(hd:0<ux*vx+uy*vy):0≤ux*vx∧0≤uy*vy:=by
 have e:(ux*vx) *(uy*vy)=(ux*vy) *(ux*vy):=by
  calc (ux*vx) *(uy*vy)=(ux*vy) *(uy*vx):=by ac_rfl
   _=_:=by rw[←hc]
 have hn:=q6q (ux*vy)
 rw[←e]at hn
 constructor
 ·refine Int.not_lt.1 fun h=>?_
  have:=Int.mul_neg_of_neg_of_pos h (show 0<uy*vy by omega)
  omega
 refine Int.not_lt.1 fun h=>?_
 have:=Int.mul_neg_of_pos_of_neg (show 0<ux*vx by omega) h
 omega
theorem qaI {u v:Int}(hs:0≤u*v)(hl:v.natAbs≤u.natAbs):min u 0≤v∧v≤max u 0:=by
 rcases Int.lt_trichotomy v 0 with h|h|h
 ·have:u≤0:=by
   refine Int.not_lt.1 fun h2=>?_
   have:=Int.mul_neg_of_pos_of_neg h2 h
   omega
  omega
 ·omega
 have:0≤u:=by
  refine Int.not_lt.1 fun h2=>?_
  have:=Int.mul_neg_of_neg_of_pos h2 h
  omega
 omega
theorem qFI (a b c:Spot):q12 a b c=(a.y-b.y) *(c.x-b.x)-(a.x-b.x) *(c.y-b.y):=by
 unfold q12;grind
theorem qDb (a b c:Spot):q12 b c a=q12 a b c:=by unfold q12;grind
theorem q6I {a b p:Spot}:onS a b p=true↔q12 a b p=0∧min a.x b.x≤p.x∧p.x≤max a.x b.x∧min a.y b.y≤p.y∧p.y≤max a.y b.y:=by simp[onS]
theorem q9m {a b c:Spot}:q3E a b c=true↔q12 a b c=0∧0<(a.x-b.x) *(c.x-b.x)+(a.y-b.y) *(c.y-b.y):=by simp[q3E]
theorem qDc {a b c:Spot}(h:q3E a b c=true):onS a b c=true∨onS b c a=true:=by
 rw[q9m]at h
 obtain⟨h1,h2⟩:=h
 have hc:(a.x-b.x) *(c.y-b.y)=(a.y-b.y) *(c.x-b.x):=by rw[qFI]at h1;omega
 obtain⟨s1,s2⟩:=qDa hc h2
 have hn:(a.x-b.x).natAbs*(c.y-b.y).natAbs=(a.y-b.y).natAbs*(c.x-b.x).natAbs:=by rw[←Int.natAbs_mul,←Int.natAbs_mul,hc]
 rw[q6I,q6I,qDb a b c]
 by_cases hx:(c.x-b.x).natAbs≤(a.x-b.x).natAbs
 ·by_cases hy:(c.y-b.y).natAbs≤(a.y-b.y).natAbs
  ·left
   have:=qaI s1 hx
   have:=qaI s2 hy
   refine⟨h1,?_⟩
   omega
  by_cases hx':(a.x-b.x).natAbs≤(c.x-b.x).natAbs
  ·right
   rw[Int.mul_comm]at s1 s2
   have:=qaI s1 hx'
   have:=qaI s2 (show(a.y-b.y).natAbs≤(c.y-b.y).natAbs by omega)
   refine⟨h1,?_⟩
   omega
  have:=Nat.mul_lt_mul'' (Nat.lt_of_not_le hx') (Nat.lt_of_not_le hy)
  rw[Nat.mul_comm (c.x-b.x).natAbs]at this
  omega
 by_cases hy:(a.y-b.y).natAbs≤(c.y-b.y).natAbs
 ·right
  rw[Int.mul_comm]at s1 s2
  have:=qaI s1 (show(a.x-b.x).natAbs≤(c.x-b.x).natAbs by omega)
  have:=qaI s2 hy
  refine⟨h1,?_⟩
  omega
 have:=Nat.mul_lt_mul'' (Nat.lt_of_not_le hx) (Nat.lt_of_not_le hy)
 rw[Nat.mul_comm (c.x-b.x).natAbs]at this
 omega
theorem qxk {u v:Int}(h:min u 0≤v∧v≤max u 0):0≤u*v:=by
 rcases Int.le_total 0 u with h2|h2
 ·exact Int.mul_nonneg h2 (by omega)
 exact Int.mul_nonneg_of_nonpos_of_nonpos h2 (by omega)
theorem qsy {u v:Int}(h:min u 0≤v∧v≤max u 0)(hv:v≠0):0<u*v:=by
 rcases Int.lt_trichotomy v 0 with h2|h2|h2
 ·exact Int.mul_pos_of_neg_of_neg (by omega) h2
 ·exact absurd h2 hv
 exact Int.mul_pos (by omega) h2
theorem qHc {a b:Spot}(h:a≠b):a.x-b.x≠0∨a.y-b.y≠0:=by
 by_cases hx:a.x=b.x
 ·by_cases hy:a.y=b.y
  ·exact absurd (by cases a;cases b;simp_all) h
  right;omega
 left;omega
theorem qsz {a b c:Spot}(hcb:c≠b)(h:onS a b c=true):q3E a b c=true:=by
 rw[q6I]at h
 rw[q9m]
 refine⟨h.1,?_⟩
 have bx:min (a.x-b.x) 0≤c.x-b.x∧c.x-b.x≤max (a.x-b.x) 0:=by omega
 have bY:min (a.y-b.y) 0≤c.y-b.y∧c.y-b.y≤max (a.y-b.y) 0:=by omega
 have p1:=qxk bx
 have p2:=qxk bY
 rcases qHc hcb with h2|h2
 ·have:=qsy bx h2;omega
 have:=qsy bY h2;omega
theorem qzM (a b c:Spot):q3E a b c=q3E c b a:=by
 rw[Bool.eq_iff_iff,q9m,q9m]
 have:q12 c b a= -q12 a b c:=by unfold q12;grind
 rw[this,Int.mul_comm (c.x-b.x),Int.mul_comm (c.y-b.y)]
 omega
theorem qpt (a b c:Spot):onS a b c=onS b a c:=by
 rw[Bool.eq_iff_iff,q6I,q6I]
 have:q12 b a c= -q12 a b c:=by unfold q12;grind
 rw[this]
 omega
theorem on_end (a b:Spot):onS a b a=true:=by
 rw[q6I]
 refine⟨by unfold q12;grind,?_⟩
 omega
theorem qpu {p:List Spot}{i:Nat}(hi:i<p.length):pt p i∈p.take i↔∃j,j<i∧pt p j=pt p i:=by
 rw[List.mem_take_iff_getElem]
 constructor
 ·rintro⟨j,hj,e⟩
  exact⟨j,by omega,by rw[q0D (by omega)];exact e⟩
 rintro⟨j,hj,e⟩
 exact⟨j,by omega,by rw[←e,q0D (by omega)]⟩
theorem mod1 {n i:Nat}(hi:i<n):(i+1)%n=if i+1=n then 0 else i+1:=by
 split
 ·rename_i h;rw[h];simp
 exact Nat.mod_eq_of_lt (by omega)
theorem mod2 {n i:Nat}(h3:3≤n)(hi:i<n):(i+2)%n=if i+2<n then i+2 else i+2-n:=by
 split
 ·rename_i h;exact Nat.mod_eq_of_lt h
 rw[Nat.mod_eq_sub_mod (by omega),Nat.mod_eq_of_lt (by omega)]
theorem q8x {p:List Spot}(h3:3≤p.length):q3F p↔q2f p:=by
 constructor
 ·rintro⟨hd,hs⟩ i hi
  have inj:∀{j k},j<p.length→k<p.length→j≠k→pt p j≠pt p k:=by
   intro j k hj hk hne e
   rcases Nat.lt_or_gt_of_ne hne with h|h
   ·exact hd k hk ((qpu hk).2 ⟨j,h,e⟩)
   exact hd j hj ((qpu hj).2 ⟨k,h,e.symm⟩)
  have m1:=mod1 hi
  have m2:=mod2 h3 hi
  have l1:(i+1)%p.length<p.length:=Nat.mod_lt _ (by omega)
  have l2:(i+2)%p.length<p.length:=Nat.mod_lt _ (by omega)
  have n01:pt p i≠pt p ((i+1)%p.length):=inj hi l1 (by rw[m1];split<;>omega)
  have n12:pt p ((i+2)%p.length)≠pt p ((i+1)%p.length):=inj l2 l1 (by rw[m1,m2];split<;>split<;>omega)
  obtain⟨hf,hm⟩:=hs i hi
  refine⟨⟨n01,?_,?_⟩,hm⟩
  ·cases ho:onS (pt p i) (pt p ((i+1)%p.length)) (pt p ((i+2)%p.length))
   ·rfl
   rw[qsz n12 ho]at hf;cases hf
  cases ho:onS (pt p ((i+1)%p.length)) (pt p ((i+2)%p.length)) (pt p i)
  ·rfl
  rw[qpt]at ho
  rw[qzM,qsz n01 ho]at hf;cases hf
 intro hr
 refine⟨fun i hi hm=>?_,fun i hi=>⟨?_,(hr i hi).2⟩⟩
 ·obtain⟨j,hj,e⟩:=(qpu hi).1 hm
  have hjl:j<p.length:=by omega
  have m1:=mod1 hjl
  have m1':=mod1 hi
  by_cases h1:j+1=i
  ·have:=(hr j hjl).1.1
   rw[m1,if_neg (by omega),h1]at this
   exact this e
  by_cases h2:(i+1)%p.length=j
  ·have:=(hr i hi).1.1
   rw[h2]at this
   exact this e.symm
  have:=(hr j hjl).2 i hi (by omega) h2
  have ho:=on_end (pt p j) (pt p ((j+1)%p.length))
  rw[←e]at this
  simp[q2J,ho]at this
 cases hf:q3E (pt p i) (pt p ((i+1)%p.length)) (pt p ((i+2)%p.length))
 ·rfl
 have:=(hr i hi).1
 rcases qDc hf with h|h
 ·rw[h]at this;cases this.2.1
 rw[h]at this;cases this.2.2
end Go.F

namespace Go.F
attribute [local irreducible] IntKind.wrap wpM
set_option maxHeartbeats 2000000 in
theorem qr9 (p:List Spot) [OkP p](h3:3≤p.length)(hp:p.length≤1000):PU qtF [q0k p]=some (.bool (decide (q2f p))):=by
 refine q0g (fn:=qhv) rfl (q0a ?_)
 refine gg rfl ?_
 rw[List.length_map]
 refine q0l (S:=fun k:Nat=>([q0k p,q00 p.length,q00 k],[none,none,none],[0,0,0]))
  (C:=fun i=>i≤p.length∧∀j,j<i→(pt p j≠pt p ((j+1)%p.length)∧onS (pt p j) (pt p ((j+1)%p.length)) (pt p ((j+2)%p.length))=false∧onS (pt p ((j+1)%p.length)) (pt p ((j+2)%p.length)) (pt p j)=false)∧
    ∀k,k<p.length→j+2≤k→(k+1)%p.length≠j→q2J (pt p j) (pt p ((j+1)%p.length)) (pt p k) (pt p ((k+1)%p.length))=false)
  (m:=fun k=>p.length-k) 0 ⟨by omega,fun j h=>by omega⟩ (by omega) ?_ ?_
 ·exact q03 rfl trivial (by simp[q0k,q00])
 intro i ⟨hi,hall⟩ N hN
 refine gg rfl (q01 rfl (fun g1=>?_) (fun g1=>?_))
 ·rw[q06]at g1
  have hlt:i<p.length:=by omega
  have w1:=wS (n:=i)
  have w2:IntKind.i64.wrap ((i:Int)+2)=((i+2:Nat):Int):=ww
  refine gg rfl (q0i i rfl rfl rfl (q0P hlt) rfl (gg rfl (q37 rfl rfl (by omega) ?_)))
  refine gg rfl (q0i ((i+1)%p.length) rfl rfl (by rw[w1,q1q]) (q0P (Nat.mod_lt _ (by omega))) rfl ?_)
  refine gg rfl (q37 rfl rfl (by omega) ?_)
  refine gg rfl (q0i ((i+2)%p.length) rfl rfl (by rw[w2,q1q]) (q0P (Nat.mod_lt _ (by omega))) rfl ?_)
  refine gg rfl (q09 rfl (fun e0=>?_) (fun e0=>?_))
  ·repeat' (first
    |refine goP 800 rfl rfl ?_
    |refine q0h rfl ?_|refine q0o rfl ?_|refine q09 rfl (fun _=>?_) (fun _=>?_)
    |refine q0e rfl ?_|refine q0j rfl ?_|refine q01 rfl (fun _=>?_) (fun _=>?_)
    |refine q0L rfl (fun _=>?_) (fun _=>?_)
    |refine q08 rfl rfl rfl trivial ?_)
   refine q04 (gg rfl (q08 rfl rfl rfl trivial ?_))
   rw[q1I]at e0
   have:¬q2f p:=fun hs=>(hs i hlt).1.1 (of_decide_eq_true e0)
   simp[this]
  rw[q1I]at e0
  refine gg rfl (q02 rfl rfl (q8o (pt p i) (pt p ((i+1)%p.length)) (pt p ((i+2)%p.length))) (gg rfl (q09 rfl (fun e1=>?_) (fun e1=>?_))))
  ·repeat' (first
    |refine goP 800 rfl rfl ?_
    |refine q0h rfl ?_|refine q0o rfl ?_|refine q09 rfl (fun _=>?_) (fun _=>?_)
    |refine q0e rfl ?_|refine q0j rfl ?_|refine q01 rfl (fun _=>?_) (fun _=>?_)
    |refine q0L rfl (fun _=>?_) (fun _=>?_)
    |refine q08 rfl rfl rfl trivial ?_)
   refine q04 (gg rfl (q08 rfl rfl rfl trivial ?_))
   have:¬q2f p:=fun hs=>by have:=(hs i hlt).1.2.1;rw[e1]at this;cases this
   simp[this]
  refine gg rfl (q02 rfl rfl (q8o (pt p ((i+1)%p.length)) (pt p ((i+2)%p.length)) (pt p i)) (gg rfl (q01 rfl (fun e2=>?_) (fun e2=>?_))))
  ·repeat' (first
    |refine goP 800 rfl rfl ?_
    |refine q0h rfl ?_|refine q0o rfl ?_|refine q09 rfl (fun _=>?_) (fun _=>?_)
    |refine q0e rfl ?_|refine q0j rfl ?_|refine q01 rfl (fun _=>?_) (fun _=>?_)
    |refine q0L rfl (fun _=>?_) (fun _=>?_)
    |refine q08 rfl rfl rfl trivial ?_)
   refine q04 (gg rfl (q08 rfl rfl rfl trivial ?_))
   have:¬q2f p:=fun hs=>by have:=(hs i hlt).1.2.2;rw[e2]at this;cases this
   simp[this]
  refine gg rfl ?_
  have fin:∀{t:q0x} {h:q0d} {z:Frz} {nx:Nat},(∀k,k<p.length→i+2≤k→(k+1)%p.length≠i→q2J (pt p i) (pt p ((i+1)%p.length)) (pt p k) (pt p ((k+1)%p.length))=false)→
   (q10 0 [(0,0),(3,0),(4,0)] t h z nx fun _ _ kp=>kp=([q0k p,q00 p.length,q00 ((i+1:Nat):Int)],[none,none,none],[0,0,0]))→N t h z nx:=by
   intro t h z nx hm hst
   refine hN (i+1) ⟨by omega,fun j hj=>?_⟩ (by omega) hst
   by_cases hji:j<i
   ·exact hall j hji
   obtain rfl:j=i:=by omega
   exact⟨⟨of_decide_eq_false e0,e1,e2⟩,hm⟩
  clear hN
  refine q0l (S:=fun k:Nat=>([q0k p,q00 p.length,q00 i,.ptr 3 0 0,.ptr 4 0 0,q00 k],[none,none,none,some (.row [(pt p i).enc] 2),some (.row [(pt p ((i+1)%p.length)).enc] 2),none],[0,0,0,0,0,0]))
   (C:=fun k=>i+2≤k∧k≤p.length+2∧∀k',k'<p.length→k'<k→i+2≤k'→(k'+1)%p.length≠i→q2J (pt p i) (pt p ((i+1)%p.length)) (pt p k') (pt p ((k'+1)%p.length))=false)
   (m:=fun k=>p.length+2-k) (i+2) ⟨by omega,by omega,fun k' _ h1 h2=>by omega⟩ (by omega) ?_ ?_
  ·exact q03 rfl ⟨rfl,rfl,trivial⟩ (by simp[q0k,q00,Spot.enc,w2])
  intro k ⟨hk1,hk2,hkall⟩ N2 hN2
  refine gg rfl (q01 rfl (fun e3=>?_) (fun e3=>?_))
  ·rw[q06]at e3
   have hkl:k<p.length:=by omega
   have wk:=wS (n:=k)
   have nxt:∀{t:q0x} {h:q0d} {z:Frz} {nx:Nat},((k+1)%p.length≠i→q2J (pt p i) (pt p ((i+1)%p.length)) (pt p k) (pt p ((k+1)%p.length))=false)→
    (q10 0 [(0,0),(3,0),(4,0),(5,0),(6,0),(8,0)] t h z nx fun _ _ kp=>kp=([q0k p,q00 p.length,q00 i,.ptr 3 0 0,.ptr 4 0 0,q00 ((k+1:Nat):Int)],[none,none,none,some (.row [(pt p i).enc] 2),some (.row [(pt p ((i+1)%p.length)).enc] 2),none],[0,0,0,0,0,0]))→N2 t h z nx:=by
    intro t h z nx hm hst
    refine hN2 (k+1) ⟨by omega,by omega,fun k' q1 q2 q3 q4=>?_⟩ (by omega) hst
    by_cases hkk:k'<k
    ·exact hkall k' q1 hkk q3 q4
    obtain rfl:k'=k:=by omega
    exact hm q4
   clear hN2
   refine gg rfl (q37 rfl rfl (by omega) ?_)
   refine gg rfl (q09 rfl (fun e4=>?_) (fun e4=>?_))
   ·rw[q0u,wk,q1q]at e4
    have hne:(k+1)%p.length≠i:=fun e=>e4 (by rw[e])
    refine gg rfl (q0i k rfl rfl rfl (q0P hkl) rfl (gg rfl (q37 rfl rfl (by omega) ?_)))
    refine gg rfl (q0i ((k+1)%p.length) rfl rfl (by rw[wk,q1q]) (q0P (Nat.mod_lt _ (by omega))) rfl ?_)
    refine gg rfl (q02 rfl rfl (qw3 (pt p i) (pt p ((i+1)%p.length)) (pt p k) (pt p ((k+1)%p.length))) (gg rfl (q01 rfl (fun e5=>?_) (fun e5=>?_))))
    ·refine gg rfl (q04 (gg rfl (q04 (gg rfl (q08 rfl rfl rfl trivial ?_)))))
     have:¬q2f p:=fun hs=>by have:=(hs i hlt).2 k hkl hk1 hne;rw[e5]at this;cases this
     simp[this]
    exact gg rfl (q04 (nxt (fun _=>e5) (q03 rfl ⟨rfl,rfl,trivial⟩ (by simp[q0k,q00,Spot.enc,wk]))))
   rw[q0z,wk,q1q]at e4
   have hne:(k+1)%p.length=i:=by omega
   repeat' (first
    |refine goP 800 rfl rfl ?_
    |refine q0h rfl ?_|refine q0o rfl ?_|refine q09 rfl (fun _=>?_) (fun _=>?_)
    |refine q0e rfl ?_|refine q0j rfl ?_|refine q01 rfl (fun _=>?_) (fun _=>?_)
    |refine q0L rfl (fun _=>?_) (fun _=>?_)
    |refine q08 rfl rfl rfl trivial ?_)
   exact q04 (nxt (fun h=>absurd hne h) (q03 rfl ⟨rfl,rfl,trivial⟩ (by simp[q0k,q00,Spot.enc,wk])))
  rw[q07]at e3
  exact gg rfl (q04 (gg rfl (q04 (fin (fun k' q1 q2 q3=>hkall k' q1 (by omega) q2 q3) (q03 rfl trivial (by simp[q0k,q00,w1]))))))
 rw[q07]at g1
 refine gg rfl (q04 (gg rfl (q08 rfl rfl rfl trivial ?_)))
 have:q2f p:=fun i h=>hall i (by omega)
 simp[this]
theorem qbo (p:List Spot):PU qwl [q0k p]=some (.int .i64 (q1F p)):=by
 refine q0g (fn:=qks) rfl (q0a ?_)
 refine gg rfl (q01 rfl (fun h1=>?_) (fun h1=>?_))
 ·refine gg rfl (q08 rfl rfl rfl trivial ?_)
  rw[q06,List.length_map]at h1
  rw[q1F,if_pos (by omega)]
 refine gg rfl ?_
 rw[q07,List.length_map]at h1
 refine q01 rfl (fun h2=>?_) (fun h2=>?_)
 ·refine gg rfl (q08 rfl rfl rfl trivial ?_)
  rw[q06,List.length_map]at h2
  rw[q1F,if_neg (by omega),if_pos (by omega)]
 refine gg rfl ?_
 rw[q07,List.length_map]at h2
 refine q0l (S:=fun k:Nat=>([q0k p,q00 k],[none,none],[0,0])) (C:=fun k=>k≤p.length∧∀i,i<k→(!q0v (pt p i) 1048576)=false) (m:=fun k=>p.length-k) 0 ⟨by omega,fun i hi=>by omega⟩ (by omega) ?_ ?_
 ·exact q03 rfl trivial (by simp[q0k,q00])
 intro k ⟨hk,hall⟩ N hN
 refine gg rfl (q01 rfl (fun g1=>?_) (fun g1=>?_))
 ·rw[q06,List.length_map]at g1
  have hlt:k<p.length:=by omega
  have w1:=wS (n:=k)
  refine gg rfl (q0i k rfl rfl rfl (q0P hlt) rfl (gg rfl (q02 rfl rfl (qfV (pt p k)) (gg rfl (q01 rfl (fun g2=>?_) (fun g2=>?_))))))
  ·refine gg rfl (q04 (gg rfl (q08 rfl rfl rfl trivial ?_)))
   have:(p.any fun s=>!q0v s 1048576)=true:=List.any_eq_true.2 ⟨pt p k,by rw[q0D hlt];exact List.getElem_mem hlt,g2⟩
   rw[q1F,if_neg (by omega),if_neg (by omega),if_pos this]
  refine gg rfl (q04 (hN (k+1) ⟨by omega,fun i hi=>?_⟩ (by omega) (q03 rfl trivial (by simp[q0k,q00,w1]))))
  by_cases hik:i<k
  ·exact hall i hik
  obtain rfl:i=k:=by omega
  exact g2
 rw[q07,List.length_map]at g1
 have hany:(p.any fun s=>!q0v s 1048576)=false:=by
  rw[List.any_eq_false]
  intro s hs
  obtain⟨i,hi,rfl⟩:=List.getElem_of_mem hs
  rw[←q0D hi,hall i (by omega)]
  decide
 have:=qyU hany
 refine gg rfl (q04 (gg rfl (q02 rfl rfl (qr9 p (by omega) (by omega)) ?_)))
 refine gg rfl ?_
 have hsi:=q8x (p:=p) (by omega)
 refine q01 rfl (fun h4=>?_) (fun h4=>?_)
 ·refine gg rfl (q08 rfl rfl rfl trivial ?_)
  have h4':¬q2f p:=by simpa using h4
  rw[q1F,if_neg (by omega),if_neg (by omega),if_neg (by rw[hany];decide),if_neg (by rw[hsi];exact h4')]
 refine gg rfl (q08 rfl rfl rfl trivial ?_)
 have h4':q2f p:=by simpa using h4
 rw[q1F,if_neg (by omega),if_neg (by omega),if_neg (by rw[hany];decide),if_pos (hsi.2 h4')]
end Go.F

namespace Go.F
attribute [local irreducible] IntKind.wrap wpM
theorem quM (l:List Edge)(k:Nat)(hk:k<l.length)(hl:l.length<4611686018427387904):PU qwv [edges l,.int .i64 k,.str (eg l k).name]=some (.bool (qdK l k)):=by
 refine q0g (fn:=qlj) rfl (q0a ?_)
 refine gg rfl (q0l (S:=fun j:Nat=>([edges l,q00 k,.str (eg l k).name,q00 j],[none,none,none,none],[0,0,0,0])) (C:=fun j=>j≤k∧∀i,i<j→((eg l i).name.toList==(eg l k).name.toList)=false) (m:=fun j=>k-j) 0 ⟨by omega,fun i hi=>by omega⟩ (by omega) ?_ ?_)
 ·exact q03 rfl trivial (by simp[edges,q00])
 intro j ⟨hj,hno⟩ N hN
 refine gg rfl (q01 rfl (fun e1=>?_) (fun e1=>?_))
 ·rw[q06]at e1
  have hjk:j<k:=by omega
  have wj:=wS (n:=j)
  refine gg rfl (q0i j rfl rfl rfl (q1O (by omega)) rfl ?_)
  refine gg rfl (q01 rfl (fun e2=>?_) (fun e2=>?_))
  ·refine gg rfl (q04 (gg rfl (q08 rfl rfl rfl trivial ?_)))
   rw[qgd hjk e2]
  refine gg rfl (q04 (hN (j+1) ⟨by omega,fun i hi=>?_⟩ (by omega) (q03 rfl trivial (by simp[edges,q00,wj]))))
  by_cases hij:i<j
  ·exact hno i hij
  obtain rfl:i=j:=by omega
  exact e2
 rw[q07]at e1
 refine gg rfl (q04 (gg rfl (q08 rfl rfl rfl trivial ?_)))
 rw[qj9 fun i hi=>hno i (by omega)]
theorem q3A {l:List Edge}{k:Nat}(h:k<l.length):q0n (l.take (k+1))=q0n (l.take k)++(eg l k).line.dropLast:=by
 rw[qb6 h,q43 h]
set_option maxHeartbeats 1000000 in
theorem qci (l:List Edge)(h1:∀e∈l,e.line.length≤100000)(hl:l.length≤100000)(hv:(q0n l).length≤100000):PU qoE [edges l]=some (q0k (q0n l)):=by
 refine q0g (fn:=qde) rfl (q0a ?_)
 refine gg rfl (q0l (S:=fun k:Nat=>([edges l,.ref 1 0 (q0n (l.take k)).length,q00 k],[none,some (.row ((q0n (l.take k)).map Spot.enc) 2),none],[0,0,0])) (C:=fun k=>k≤l.length) (m:=fun k=>l.length-k) 0 (by omega) (by omega) ?_ ?_)
 ·exact q03 rfl ⟨rfl,trivial⟩ (by simp[edges,q00,q0n])
 intro k hk N hN
 refine gg rfl (q01 rfl (fun g1=>?_) (fun g1=>?_))
 ·rw[q06,List.length_map]at g1
  have hlt:k<l.length:=by omega
  have w1:=wS (n:=k)
  have hln:(eg l k).line.length≤100000:=by rw[q43 hlt];exact h1 _ (List.getElem_mem hlt)
  have hcells:((eg l k).line.map Spot.enc).all (fun d=>d.cells.length==2)=true:=q1x (f:=Spot.enc) (n:=2) (fun _=>rfl) _
  have hle:=qdI (l:=l) (k+1)
  rw[q3A hlt,List.length_append]at hle
  refine gg rfl (q0i k rfl rfl rfl (q1O hlt) rfl (gg rfl (q01 rfl (fun g2=>?_) (fun g2=>?_))))
  ·rw[q06,List.length_map]at g2
   have w2:IntKind.i64.wrap (((eg l k).line.length:Int)-1)=(((eg l k).line.length-1:Nat):Int):=by rw[wrap64 (by omega) (by omega)];omega
   refine gg rfl (q0i k rfl rfl rfl (q1O hlt) rfl (gg rfl (qcE ((eg l k).line.length-1) rfl hcells ⟨_,_,rfl,by rw[List.length_map];exact w2⟩ (by simp) ?_)))
   refine gg rfl ?_
   have e:((eg l k).line.map Spot.enc).take ((eg l k).line.length-1)=(eg l k).line.dropLast.map Spot.enc:=by
    rw[List.dropLast_eq_take,List.map_take]
   rw[e]
   refine qAr rfl rfl rfl (q1x (f:=Spot.enc) (n:=2) (fun _=>rfl) _) (by simp) (Nat.zero_le _) (by simp[q0M]at*;omega) ?_
   refine gg rfl (q04 (hN (k+1) (by omega) (by omega) (q03 rfl ⟨by rw[←List.map_append];exact q05 q0r _,trivial⟩ ?_)))
   simp[edges,q00,w1,q3A hlt]
  rw[q07,List.length_map]at g2
  have h0:(eg l k).line=[]:=List.eq_nil_of_length_eq_zero (by omega)
  refine gg rfl (q04 (hN (k+1) (by omega) (by omega) (q03 rfl ⟨q05 q0r _,trivial⟩ ?_)))
  simp[edges,q00,w1,q3A hlt,h0]
 rw[q07,List.length_map]at g1
 refine gg rfl (q04 (gg rfl ?_))
 obtain rfl:k=l.length:=by omega
 rw[List.take_length]
 refine q08 rfl rfl rfl ⟨q2D (by simp) (q0X q2q _),trivial⟩ ?_
 rw[q2E (by simp),q0k]
set_option maxHeartbeats 2000000 in
theorem q7u (l:List Edge):PU qwp [edges l]=some (.int .i64 (q0J l)):=by
 refine q0g (fn:=qkf) rfl (q0a ?_)
 refine gg rfl (q01 rfl (fun h1=>?_) (fun h1=>?_))
 ·refine gg rfl (q08 rfl rfl rfl trivial ?_)
  rw[q06,List.length_map]at h1
  rw[q0J,if_pos (by omega)]
 refine gg rfl ?_
 rw[q07,List.length_map]at h1
 refine q01 rfl (fun h2=>?_) (fun h2=>?_)
 ·refine gg rfl (q08 rfl rfl rfl trivial ?_)
  rw[q06,List.length_map]at h2
  rw[q0J,if_neg (by omega),if_pos (by omega)]
 refine gg rfl ?_
 rw[q07,List.length_map]at h2
 refine q0l (S:=fun k:Nat=>([edges l,q00 k],[none,none],[0,0])) (C:=fun k=>k≤l.length∧q0E (q1l l) k=0) (m:=fun k=>l.length-k) 0 ⟨by omega,rfl⟩ (by omega) ?_ ?_
 ·exact q03 rfl trivial (by simp[edges,q00])
 intro k ⟨hk,hall⟩ N hN
 refine gg rfl (q01 rfl (fun g1=>?_) (fun g1=>?_))
 ·rw[q06,List.length_map]at g1
  have hlt:k<l.length:=by omega
  have w1:=wS (n:=k)
  have no:q1l l k≠0→q0J l=q1l l k:=by
   intro hc
   have:=q3w hall hc hlt
   rw[q0J,if_neg (by omega),if_neg (by omega),if_neg (by rw[this];exact hc),this]
  refine gg rfl (q0i k rfl rfl rfl (q1O hlt) rfl (gg rfl (q02 rfl rfl (qdJ (eg l k).name) (gg rfl (q01 rfl (fun g2=>?_) (fun g2=>?_))))))
  ·refine gg rfl (q04 (gg rfl (q08 rfl rfl rfl trivial ?_)))
   have:q1l l k=1:=by rw[q1l,if_pos (by simpa using g2)]
   rw[no (by rw[this];decide),this]
  have g2':¬q1K (eg l k).name=false:=by simpa using g2
  refine gg rfl (q0i k rfl rfl rfl (q1O hlt) rfl (gg rfl (q02 rfl rfl (quM l k hlt (by omega)) ?_)))
  refine gg rfl (q01 rfl (fun e2=>?_) (fun e2=>?_))
  ·refine gg rfl (q04 (gg rfl (q08 rfl rfl rfl trivial ?_)))
   have:q1l l k=7:=by rw[q1l,if_neg g2',if_pos e2]
   rw[no (by rw[this];decide),this]
  refine gg rfl ?_
  have hee:q1l l k=q1t (eg l k).line:=by rw[q1l,if_neg g2',if_neg (by rw[e2];decide)]
  refine q0i k rfl rfl rfl (q1O hlt) rfl (gg rfl (q02 rfl rfl (qit (eg l k).line) (gg rfl (q01 rfl (fun g3=>?_) (fun g3=>?_)))))
  ·rw[q0u,←hee]at g3
   refine gg rfl (q04 (gg rfl (q08 rfl rfl rfl trivial ?_)))
   rw[no g3,hee]
  rw[q0z,←hee]at g3
  exact gg rfl (q04 (hN (k+1) ⟨by omega,q2n hall g3⟩ (by omega) (q03 rfl trivial (by simp[edges,q00,w1]))))
 rw[q07,List.length_map]at g1
 obtain rfl:k=l.length:=by omega
 clear hN hk g1
 have hln:∀i,i<l.length→2≤(eg l i).line.length∧(eg l i).line.length≤40∧_:=fun i hi=>q2j (q2P (q18 hall hi))
 refine gg rfl (q04 (gg rfl (q0l (S:=fun k:Nat=>([edges l,q00 k],[none,none],[0,0])) (C:=fun k=>k≤l.length∧q0E (q2F l) k=0) (m:=fun k=>l.length-k) 0 ⟨by omega,rfl⟩ (by omega) ?_ ?_)))
 ·exact q03 rfl trivial (by simp[edges,q00])
 intro k ⟨hk,hjo⟩ N hN
 refine gg rfl (q01 rfl (fun g1=>?_) (fun g1=>?_))
 ·rw[q06,List.length_map]at g1
  have hlt:k<l.length:=by omega
  have hlt2:(k+1)%l.length<l.length:=Nat.mod_lt _ (by omega)
  have w1:=wS (n:=k)
  have a1:=hln k hlt
  have a2:=hln _ hlt2
  have w2:IntKind.i64.wrap (((eg l k).line.length:Int)-1)=(((eg l k).line.length-1:Nat):Int):=by rw[wrap64 (by omega) (by omega)];omega
  refine gg rfl (q0i k rfl rfl rfl (q1O hlt) rfl (gg rfl (q37 rfl rfl (by rw[List.length_map];omega) ?_)))
  refine gg rfl (q0i ((k+1)%l.length) rfl rfl (by rw[w1,List.length_map,q1q]) (q1O hlt2) rfl ?_)
  refine gg rfl (q0i ((eg l k).line.length-1) rfl rfl (by rw[List.length_map];exact w2) (q0P (by omega)) rfl ?_)
  refine gg rfl (q0i 0 rfl rfl rfl (q0P (by omega)) rfl ?_)
  refine gg rfl (q01 rfl (fun g2=>?_) (fun g2=>?_))
  ·refine gg rfl (q04 (gg rfl (q08 rfl rfl rfl trivial ?_)))
   rw[q1I]at g2
   have:q2F l k=11:=by rw[q2F,if_neg (by simpa using g2)]
   have h11:=q3w hjo (by rw[this];decide) hlt
   rw[q0J,if_neg (by omega),if_neg (by omega),if_pos hall,if_neg (by rw[h11,this];decide),h11,this]
  refine gg rfl (q04 ?_)
  rw[q1I]at g2
  have:q2F l k=0:=by rw[q2F,if_pos (by simpa using g2)]
  refine hN (k+1) ⟨by omega,q2n hjo this⟩ (by omega) (q03 rfl trivial (by simp[edges,q00,w1]))
 rw[q07,List.length_map]at g1
 obtain rfl:k=l.length:=by omega
 refine gg rfl (q04 (gg rfl ?_))
 have hb:∀e∈l,1≤e.line.length∧e.line.length≤40:=by
  intro e he
  obtain⟨i,hi,rfl⟩:=qyW he
  have:=hln i hi
  exact⟨by omega,by omega⟩
 have hv:=qlx (m:=40) fun e he=>(hb e he).2
 refine q02 rfl rfl (qci l (fun e he=>by have:=(hb e he).2;omega) (by omega) (by omega)) ?_
 refine gg rfl (q02 rfl rfl (qbo (q0n l)) (gg rfl (q08 rfl rfl rfl trivial ?_)))
 rw[q0J,if_neg (by omega),if_neg (by omega),if_pos hall,if_pos hjo]
end Go.F

namespace Go.F
attribute [local irreducible] IntKind.wrap wpM
theorem q4c (p:List Spot):PU qaw [q0k p]=some (.int .i64 (sgn (q16 p))):=by
 refine q0g (fn:=q5z) rfl (q0a ?_)
 repeat' (first
  |refine goP 800 rfl rfl ?_
  |refine q0h rfl ?_|refine q0o rfl ?_|refine q09 rfl (fun _=>?_) (fun _=>?_)
  |refine q0e rfl ?_|refine q0j rfl ?_|refine q01 rfl (fun _=>?_) (fun _=>?_)
  |refine q0L rfl (fun _=>?_) (fun _=>?_)
  |refine q08 rfl rfl rfl trivial ?_
  |refine q02 rfl rfl (qw5 p) ?_
  |refine q02 rfl rfl (qga _ _) ?_)
 rfl
theorem qjY (a b:Int)(h0:0≤a)(ha:a≤1099511627776)(hb:0<b)(hb':b≤1099511627776):PU q7j [.int .i64 a,.int .i64 b]=some (.int .i64 (q1s a b)):=by
 refine q0g (fn:=q4N) rfl (q0a ?_)
 refine gg rfl ?_
 have w1:=ww (x:=2*a)
 have w2:=ww (x:=2*a+b)
 have w3:=ww (x:=2*b)
 refine q01 rfl (fun h=>?_) (fun h=>?_)
 ·rw[q06]at h;omega
 refine gg rfl (qeh rfl rfl (by rw[w3];omega) ?_)
 refine gg rfl (q08 rfl rfl rfl trivial ?_)
 have hd:(2*a+b).tdiv (2*b)=(2*a+b)/(2*b):=Int.tdiv_eq_ediv_of_nonneg (by omega)
 have hq:(2*a+b)/(2*b)≤2*a+b:=Int.ediv_le_self _ (by omega)
 have hq0:0≤(2*a+b)/(2*b):=Int.ediv_nonneg (by omega) (by omega)
 rw[w1,w2,w3,hd,wrap64 (by omega) (by omega),q1s,if_neg (by omega)]
theorem qmY (a b:Int)(ha0: -1099511627776≤a)(ha:a≤1099511627776)(hb:0<b)(hb':b≤1099511627776):PU q7j [.int .i64 a,.int .i64 b]=some (.int .i64 (q1s a b)):=by
 by_cases h0:0≤a
 ·exact qjY a b h0 ha hb hb'
 refine q0g (fn:=q4N) rfl (q0a ?_)
 refine gg rfl (q01 rfl (fun h=>?_) (fun h=>?_))
 ·refine gg rfl ?_
  have w1:IntKind.i64.wrap (0-a)= -a:=by rw[wrap64 (by omega) (by omega)];omega
  rw[w1]
  refine q02 rfl rfl (qjY (-a) b (by omega) (by omega) hb hb') ?_
  refine gg rfl (q08 rfl rfl rfl trivial ?_)
  have hq:(2*(-a)+b)/(2*b)≤2*(-a)+b:=Int.ediv_le_self _ (by omega)
  have hq0:0≤(2*(-a)+b)/(2*b):=Int.ediv_nonneg (by omega) (by omega)
  rw[q1s,if_neg (by omega),q1s,if_pos (by omega),wrap64 (by omega) (by omega)]
  simp
 rw[q07]at h;omega
end Go.F

namespace Go.F
attribute [local irreducible] IntKind.wrap wpM
def wd (ws:List Int)(i:Nat):Int:=ws.getD i 0
theorem qmZ {ws:List Int}{i:Nat}(h:i<ws.length):(ws.map q00)[i]?=some (q00 (wd ws i)):=by simp[wd,h]
def q1U (l:List Edge)(ws:List Int):Nat→List Int
 |0=>[]
 |k+1=>q1U l ws k++List.replicate ((eg l k).line.length-1) (wd ws k)
theorem qcz (l:List Edge)(ws:List Int):∀k,k≤l.length→(q1U l ws k).length=(q0n (l.take k)).length:=by
 intro k
 induction k with
 |zero=>intro _;simp[q1U,q0n]
 |succ k ih=>
  intro hk
  rw[q1U,q3A (by omega),List.length_append,List.length_append,ih (by omega)]
  simp
set_option maxHeartbeats 1000000 in
theorem q9O (l:List Edge)(ws:List Int)(hw:l.length≤ws.length)(h1:∀e∈l,1≤e.line.length∧e.line.length≤100000)(hl:l.length≤100000)(hv:(q0n l).length≤100000):PU q8J [edges l,ints ws]=some (ints (q1U l ws l.length)):=by
 have hlen:∀k,k≤l.length→(q1U l ws k).length≤100000:=by
  intro k hk
  rw[qcz l ws k hk]
  have:=qdI (l:=l) k
  omega
 refine q0g (fn:=q4F) rfl (q0a ?_)
 refine gg rfl (q0l (S:=fun k:Nat=>([ints ws,.ref 1 0 (q1U l ws k).length,edges l,q00 l.length,q00 k],[none,some (.row ((q1U l ws k).map q00) 1),none,none,none],[0,0,0,0,0])) (C:=fun k=>k≤l.length) (m:=fun k=>l.length-k) 0 (by omega) (by omega) ?_ ?_)
 ·exact q03 rfl ⟨rfl,trivial⟩ (by simp[edges,ints,q00,q1U])
 intro k hk N hN
 refine gg rfl (q01 rfl (fun g1=>?_) (fun g1=>?_))
 ·rw[q06]at g1
  have hlt:k<l.length:=by omega
  have w1:=wS (n:=k)
  have hln:1≤(eg l k).line.length∧(eg l k).line.length≤100000:=by rw[q43 hlt];exact h1 _ (List.getElem_mem hlt)
  have w2:IntKind.i64.wrap (((eg l k).line.length:Int)-1)=(((eg l k).line.length-1:Nat):Int):=by rw[wrap64 (by omega) (by omega)];omega
  have hk1:=hlen (k+1) (by omega)
  rw[q1U,List.length_append,List.length_replicate]at hk1
  refine gg rfl (q0i k rfl rfl rfl (q1O hlt) rfl (gg rfl ?_))
  refine q0l (S:=fun j:Nat=>([ints ws,.ref 1 0 ((q1U l ws k).length+j),q00 k,edges l,q00 l.length,q00 k,q00 ((eg l k).line.length-1:Nat),q00 j],
   [none,some (.row ((q1U l ws k++List.replicate j (wd ws k)).map q00) 1),none,none,none,none,none,none],[0,0,0,0,0,0,0,0]))
   (C:=fun j=>j≤(eg l k).line.length-1) (m:=fun j=>(eg l k).line.length-j) 0 (by omega) (by omega) ?_ ?_
  ·exact q03 rfl ⟨q05 q6f _,trivial⟩ (by simp[edges,ints,q00,w2])
  intro j hj N2 hN2
  refine gg rfl (q01 rfl (fun e1=>?_) (fun e1=>?_))
  ·rw[q06]at e1
   have hjl:j<(eg l k).line.length-1:=by omega
   have wj:=wS (n:=j)
   refine gg rfl (q0i k rfl rfl rfl (qmZ (by omega)) rfl ?_)
   refine gg rfl (q1f rfl rfl rfl rfl rfl rfl (by simp) (Nat.zero_le _) (by simp[q0M]at*;omega) ?_)
   refine gg rfl (q04 (hN2 (j+1) (by omega) (by omega) (q03 rfl ⟨?_,trivial⟩ ?_)))
   ·rw[List.all_append,q05 q6f];rfl
   simp[edges,ints,q00,wj,List.replicate_succ']
   omega
  rw[q07]at e1
  clear hN2
  obtain rfl:j=(eg l k).line.length-1:=by omega
  refine gg rfl (q04 (gg rfl (q04 (hN (k+1) (by omega) (by omega) (q03 rfl ⟨q05 q6f _,trivial⟩ ?_)))))
  simp[edges,ints,q00,w1,q1U]
 rw[q07]at g1
 obtain rfl:k=l.length:=by omega
 refine gg rfl (q04 (gg rfl (q08 rfl rfl rfl ⟨q2D (by simp) (q0X qgF _),trivial⟩ ?_)))
 rw[q2E (by simp),ints]
end Go.F

namespace Go.F
open Ieee
theorem qti (a b:Nat):a<<<b=a*2^b:=Nat.shiftLeft_eq a b
theorem dbl:FloatKind.f64.format=Ieee.double:=rfl
theorem qtj {n k:Nat}(h:n<2^(k+1)):n.log2≤k:=by
 by_cases h0:n=0
 ·subst h0;simp
 have:=(Nat.log2_lt h0).2 h
 omega
theorem cut_le {neg:Bool}{n drop k:Nat}(h:n<2^k*2^drop):Toward.even.cut neg n drop≤2^k:=by
 unfold Toward.cut
 simp only
 have hg:∀g:Nat,0<g→n<2^k*g→n/g+1≤2^k:=by
  intro g hg hn
  have:=(Nat.div_lt_iff_lt_mul hg).2 hn
  omega
 by_cases hd:drop≤n.log2+2
 ·rw[Nat.min_eq_left hd,Nat.one_shiftLeft]
  have:=hg _ (Nat.two_pow_pos drop) h
  have hb:=Bool.toNat_le (decide (2^drop<2*(n%2^drop)) ||(2^drop==2*(n%2^drop)&&n/2^drop%2==1))
  omega
 rw[Nat.min_eq_right (by omega),Nat.one_shiftLeft]
 have hn:n<2^(n.log2+2):=Nat.lt_of_lt_of_le Nat.lt_log2_self (Nat.pow_le_pow_right (by omega) (by omega))
 have h0:n/2^(n.log2+2)=0:=Nat.div_eq_of_lt hn
 have:=Nat.two_pow_pos k
 have hb:=Bool.toNat_le (decide (2^(n.log2+2)<2*(n%2^(n.log2+2))) ||(2^(n.log2+2)==2*(n%2^(n.log2+2))&&n/2^(n.log2+2)%2==1))
 rw[h0]at hb⊢
 omega
theorem qoi {mag:Nat}{place e:Int}(h:place+mag.log2≤e)(he: -1000≤e):(double.nearest false mag place:Int)≤(e+1024) *4503599627370496:=by
 unfold Format.nearest
 by_cases h0:mag=0
 ·rw[if_pos h0]
  simp only[Format.word]
  simp
  omega
 rw[if_neg h0]
 simp only[Format.word]
 have hb:double.binade=4503599627370496:=rfl
 have hl:double.leastPlace= -1074:=rfl
 have hf:(double.fractionBits:Int)=52:=rfl
 rw[hb,hl,hf]
 generalize hlast:max (place+(mag.log2:Int)-52) (-1074)=last
 have hm:mag<2^(mag.log2+1):=Nat.lt_log2_self
 have hk:Toward.even.cut false (mag<<<(place-last).toNat) (last-place).toNat≤2^53:=by
  refine cut_le ?_
  rw[qti]
  rcases Int.le_total last place with hc|hc
  ·have e1:(last-place).toNat=0:=by omega
   rw[e1,Nat.pow_zero,Nat.mul_one]
   have e2:(place-last).toNat+(mag.log2+1)≤53:=by omega
   calc mag*2^(place-last).toNat<2^(mag.log2+1) *2^(place-last).toNat:=Nat.mul_lt_mul_of_pos_right hm (Nat.two_pow_pos _)
    _=2^((place-last).toNat+(mag.log2+1)):=by rw[←Nat.pow_add,Nat.add_comm]
    _≤2^53:=Nat.pow_le_pow_right (by omega) e2
  have e1:(place-last).toNat=0:=by omega
  rw[e1,Nat.pow_zero,Nat.mul_one,←Nat.pow_add]
  exact Nat.lt_of_lt_of_le hm (Nat.pow_le_pow_right (by omega) (by omega))
 generalize Toward.even.cut false (mag<<<(place-last).toNat) (last-place).toNat=kept at hk⊢
 generalize double.infRung=inf
 have h2:(last- -1074).toNat≤(e+1022).toNat:=by omega
 generalize (last- -1074).toNat=q at h2⊢
 clear hlast hm h0 h
 simp only[Bool.false_eq_true,if_false]
 have hk':kept≤9007199254740992:=hk
 have h4:min (q*4503599627370496+kept) inf≤q*4503599627370496+kept:=Nat.min_le_left _ _
 generalize min (q*4503599627370496+kept) inf=z at h4⊢
 have h5:(q:Int)≤e+1022:=by omega
 clear hk
 omega
theorem qAU {w:Nat}{E:Nat}(hE1:1≤E)(hE:E≤2000)(h:w≤E*4503599627370496):∃m i,double.read w=.number false m i∧m<9007199254740992∧i≤ -1075+E:=by
 unfold Format.read
 have hb:double.binade=4503599627370496:=rfl
 have hl:double.leastPlace= -1074:=rfl
 have hs:double.signWeight=9223372036854775808:=rfl
 have hi:double.infRung=9218868437227405312:=rfl
 simp only[hb,hl,hs,hi]
 have h1:w/9223372036854775808=0:=by omega
 have h2:w%9223372036854775808=w:=by omega
 rw[h1,h2]
 by_cases hc:w<4503599627370496
 ·rw[if_pos hc]
  exact⟨w,-1074,rfl,by omega,by omega⟩
 rw[if_neg hc,if_pos (by omega)]
 refine⟨_,_,rfl,by omega,?_⟩
 have:w/4503599627370496≤E:=by omega
 omega
theorem qw1 (n:Nat):∀(todo root:Nat),Datum.rootFrom n todo root<root+2^todo:=by
 intro todo
 induction todo with
 |zero=>intro root;simp[Datum.rootFrom]
 |succ k ih=>
  intro root
  rw[Datum.rootFrom]
  rw[Nat.one_shiftLeft]
  have hp:2^(k+1)=2^k+2^k:=by rw[Nat.pow_succ];omega
  split
  ·have:=ih (root+2^k);omega
  have:=ih root;have:=Nat.two_pow_pos k;omega
theorem qEG {m:Nat}{i:Int}(hm:m<9007199254740992)(hi:i≤ -25):∃r:Int,Datum.toInt .zero (.number false m i)=some r∧0≤r∧r≤268435456:=by
 unfold Datum.toInt Datum.integral
 refine⟨_,rfl,?_⟩
 simp only[signed,Bool.false_eq_true,if_false]
 have e1:i.toNat=0:=by omega
 rw[e1,qti,qti]
 simp only[Nat.pow_zero,Nat.mul_one]
 have:Toward.zero.cut false m (-i).toNat≤268435456:=by
  unfold Toward.cut
  simp only[Bool.toNat_false,Nat.add_zero,Nat.one_shiftLeft]
  by_cases hd:(-i).toNat≤m.log2+2
  ·rw[Nat.min_eq_left hd]
   have h2:2^25≤2^(-i).toNat:=Nat.pow_le_pow_right (by omega) (by omega)
   have h3:m/2^(-i).toNat≤m/2^25:=Nat.div_le_div_left h2 (by decide)
   have h4:(2:Nat)^25=33554432:=by decide
   rw[h4]at h3
   omega
  rw[Nat.min_eq_right (by omega)]
  have hn:m<2^(m.log2+2):=Nat.lt_of_lt_of_le Nat.lt_log2_self (Nat.pow_le_pow_right (by omega) (by omega))
  rw[Nat.div_eq_of_lt hn]
  omega
 constructor
 ·omega
 omega
theorem qC5 (n:Nat)(hn:n<2^51):∃(y:Nat) (r:Int),FloatKind.f64.format.sqrt (FloatKind.f64.nearest n)=some y∧(FloatKind.f64.decode y).toInt .zero=some r∧0≤r∧r≤268435456:=by
 have hx:FloatKind.f64.nearest n=double.nearest false n 0:=by
  unfold FloatKind.nearest FloatKind.encode Format.write
  rw[show decide ((n:Int)<0)=false by simp]
  rfl
 have h1:=qoi (mag:=n) (place:=0) (e:=50) (by have:=qtj (k:=50) hn;omega) (by omega)
 obtain⟨m,i,hr,hm,hi⟩:=qAU (w:=double.nearest false n 0) (E:=1074) (by omega) (by omega) (by omega)
 have key:∀(mag:Nat) (place:Int),place+mag.log2≤26→∃r:Int,(double.read (double.nearest false mag place)).toInt .zero=some r∧0≤r∧r≤268435456:=by
  intro mag place h
  have h2:=qoi (mag:=mag) (place:=place) (e:=26) h (by omega)
  obtain⟨m',i',hr',hm',hi'⟩:=qAU (w:=double.nearest false mag place) (E:=1050) (by omega) (by omega) (by omega)
  rw[hr']
  exact qEG hm' (by omega)
 rw[hx,dbl]
 unfold Format.sqrt
 rw[hr]
 unfold Datum.root
 by_cases h0:m=0
 ·subst h0
  simp only[if_true,Option.map_some,Format.write]
  obtain⟨r,g1,g2,g3⟩:=key 0 i (by simp;omega)
  exact⟨_,r,rfl,g1,g2,g3⟩
 simp only[h0,if_false,Bool.false_eq_true,Option.map_some,Format.write]
 generalize 2*(double.fractionBits+2)-m.log2+((i-(2*(double.fractionBits+2)-m.log2:Nat))%2).toNat=more
 have hnn:m<<<more<2^(52+more+1):=by
  rw[qti,show 52+more+1=53+more by omega,Nat.pow_add]
  exact Nat.mul_lt_mul_of_pos_right (by simpa using hm) (Nat.two_pow_pos _)
 have hlog:=qtj hnn
 have hw:=qw1 (m<<<more) ((m<<<more).log2/2+1) 0
 generalize hT:(m<<<more).log2/2+1=T at hw⊢
 generalize Datum.rootFrom (m<<<more) T 0=whole at hw⊢
 have hbit:=Bool.toNat_le (whole*whole !=m<<<more)
 generalize (whole*whole !=m<<<more).toNat=bit at hbit⊢
 have hmag:2*whole+bit<2^(T+1):=by rw[Nat.pow_succ];omega
 have hl:=qtj hmag
 obtain⟨r,g1,g2,g3⟩:=key (2*whole+bit) ((i-more)/2-1) (by omega)
 exact⟨_,r,rfl,g1,g2,g3⟩
end Go.F

namespace Go.F
section
variable {T:Tab}{sh:Shr}{nx0:Nat}{s:List Fr}{t:q0x}{h:q0d}{z:Frz}{nx:Nat}{q:Ex→q0x→q0d→Frz→Nat→Prop}
variable {base i:Nat}{res:List Nat}{dst:Nat}{g:Gd}{rest:List KOper}
theorem q1R {f:FuncId}{args:List X}{bs:List D}{rows:List (List D×Nat×Nat)}{r:D}(hs:T.shared f=false)
 (ha:qy6 (g.h base h) (args.map (·.ev t))=some (rows,bs)) (hr:q49 rows) (hp:T.pu f bs=some r)
 (hk:∀z,wpM T sh nx0 (.ops base res rest::s) .normal (upd t dst r) h z nx q):
 wpM T sh nx0 (.ops base res (⟨i,some dst,none,g,.callF f args⟩::rest)::s) .normal t h z nx q:=by
 refine q3u ?_
 simp only[kop,q5U,hs]
 refine qbr ha hr ?_
 unfold qaA
 refine⟨r,hp,?_⟩
 simp only[q6c]
 split
 ·exact hk _
 split
 ·exact hk _
 exact hk _
theorem qHz {n:Nat}{sx x:X}{dst:Option Nat}{id off len:Nat}{es l:List D}{esz:Nat}(hs:sx.ev t=.ref id off len)(hr:g.h base h id=some (.row es esz))(he:Nat.beq n esz=true)(hx:x.ev t=.lst l)
 (hc:l.all (fun d=>d.cells.length==n)=true) (hb:off+len≤es.length) (hz:g.z base z id≤off)
 (hk:wpM T sh nx0 (.ops base res rest::s) .normal (put t dst (.int .i64 (min l.length len:Nat))) (upd h id (some (.row (es.take off++l.take (min l.length len)++es.drop (off+min l.length len)) esz))) z nx q):
 wpM T sh nx0 (.ops base res (⟨i,dst,none,g,.copy n sx x⟩::rest)::s) .normal t h z nx q:=by
 refine q3u ?_
 simp only[kop,qF8,hs,hr,he,hx,q5g]
 exact qiK hc (q1r ⟨hb,hz⟩ hk)
def setMN (nx0:Nat)(live:Live)(t:q0x)(h:q0d)(z:Frz)(nx:Nat):Option (List (List D)×q0d×Frz×Kept):=
 match qcn live t h z nx with
 |(t,h,z)=>
  match qlW t h live with
  |some rows=>fL1 (q9I nx0 (q0B t live) t live) fun vs=>fLi (q9J nx0 (q0B t live) h (q0B t live) nx0) fun bs=>fNs (qi7 nx0 (q0B t live) z (q0B t live) nx0) fun zs=>some (rows,h,z,vs,bs,zs)
  |none=>none
theorem q1S {live:Live}{rows:List (List D)}{h':q0d}{z':Frz}{kp:Kept}{K:q0d→Frz→Kept→Prop}(hs:setMN nx0 live t h z nx=some (rows,h',z',kp))(hp:qeM rows)(hk:K h' z' kp)(hnst:q5p live=false:=by rfl):q10 nx0 live t h z nx K:=by
 unfold setMN at hs
 split at hs
 rename_i t1 h1 z1 hn
 split at hs
 ·rename_i rows1 hr
  simp only[q5u,qpT,qv5,Option.some.injEq,Prod.mk.injEq]at hs
  obtain⟨rfl,rfl,rfl,rfl⟩:=hs
  unfold q10
  simp only[hnst]
  unfold q6S
  refine qiI _ _ _ _ _ _ fun nx'=>?_
  rw[hn]
  refine qpU hr hp ?_
  rw[q6t,q6u]
  exact hk
 cases hs
theorem q61 {α:Type}(S:α→Kept)(O:α→q0d→Frz→Prop)(C:α→Prop)(m:α→Nat){live:Live}{c:K}
 (a:α) (hC:C a) (hm:m a<2^62) (h0:q10 nx0 live t h z nx fun h z kp=>kp=S a∧O a (q1e h) z)
 (hr:∀a,C a→∀(ho:q0d) (zo:Frz),O a ho zo→∀N:q0x→q0d→Frz→Nat→Prop,(∀a' {t:q0x} {h:q0d} {z:Frz} {nx:Nat},C a'→m a'<m a→(q10 nx0 live t h z nx fun h z kp=>kp=S a'∧O a' (q1e h) z)→N t h z nx)→
   wpM T sh nx0 [.code c] .normal (mkT live (S a).1) (mkF nx0 ho none (S a).2.1 nx0) (mkF nx0 zo 0 (S a).2.2 nx0) (nx0+live.length) fun ex t h z nx=>
    match ex with
    |.normal=>N t h z nx
    |.exit i=>wpM T sh nx0 s (.exit i) t h z nx q
    |.ret=>wpM T sh nx0 s .ret t h z nx q):
 wpM T sh nx0 (.code (.loop live c)::s) .normal t h z nx q:=by
 simp only[wpM,wp]at hr⊢
 unfold qwL
 have key:∀(n:Nat) (a:α),C a→m a≤n→∀(fuel:Nat),n<fuel→∀(t:q0x) (h:q0d) (z:Frz) (nx:Nat),(q10 nx0 live t h z nx fun h z kp=>kp=S a∧O a (q1e h) z)→
  q48 nx0 live (fun t h z nx q=>wp T sh nx0 c t h z nx q) fuel t h z nx fun ex t h z nx=>wpM T sh nx0 s ex t h z nx q:=by
  intro n
  induction n with
  |zero=>
   intro a hC hm fuel hf t h z nx hst
   obtain⟨fuel,rfl⟩:∃k,fuel=k+1:=⟨fuel-1,by omega⟩
   simp only[q48]
   obtain⟨h1,z1,kp,g1,g2⟩:=q9r hst
   refine g2 _ ?_
   obtain⟨rfl,g3⟩:=g1
   exact hr a hC _ _ g3 (fun t h z nx=>q48 nx0 live (fun t h z nx q=>wp T sh nx0 c t h z nx q) fuel t h z nx fun ex t h z nx=>wpM T sh nx0 s ex t h z nx q) (fun a' _ _ _ _ _ hlt _=>absurd hlt (by omega))
  |succ n ih=>
   intro a hC hm fuel hf t h z nx hst
   obtain⟨fuel,rfl⟩:∃k,fuel=k+1:=⟨fuel-1,by omega⟩
   simp only[q48]
   obtain⟨h1,z1,kp,g1,g2⟩:=q9r hst
   refine g2 _ ?_
   obtain⟨rfl,g3⟩:=g1
   exact hr a hC _ _ g3 (fun t h z nx=>q48 nx0 live (fun t h z nx q=>wp T sh nx0 c t h z nx q) fuel t h z nx fun ex t h z nx=>wpM T sh nx0 s ex t h z nx q)
    (fun a' t h z nx h1 hlt hst=>ih a' h1 (by omega) fuel (by omega) t h z nx hst)
 exact key (m a) a hC (Nat.le_refl _) q8n hm t h z nx h0
end
end Go.F

namespace Go.F
theorem q0m (n:Nat):val (q0f n)=n:=by
 induction n using qjp with
 |h0=>rfl
 |h1 n hn ih=>rw[q41 hn,val,ih];omega
theorem q3c {n:Nat}:0<(q0f n).length↔n≠0:=by
 by_cases h:n=0
 ·subst h;simp[q5r]
 rw[q41 h];simp[h]
theorem qjq {n:Nat}:q0f n=[]↔n=0:=by
 by_cases h:n=0
 ·subst h;simp[q5r]
 rw[q41 h];simp[h]
theorem qaC (k:Nat):val (List.replicate k 0)=0:=by
 induction k with
 |zero=>rfl
 |succ k ih=>rw[List.replicate_succ,val,ih]
theorem LOk.append {a b:List Nat}(h:LOk a)(g:LOk b):LOk (a++b):=
 ⟨fun x hx=>by rcases List.mem_append.1 hx with h1|h1;exact h.lt x h1;exact g.lt x h1⟩
theorem LOk.snoc {a:List Nat}{x:Nat}(h:LOk a)(g:x<4294967296):LOk (a++[x]):=
 h.append ⟨fun y hy=>by simp at hy;omega⟩
theorem q54 (k:Nat):LOk (List.replicate k 0):=⟨fun x hx=>by rw[(List.mem_replicate.1 hx).2];decide⟩
theorem q2R (l:List Nat)(k:Nat):val (l.drop k)=dg l k+4294967296*val (l.drop (k+1)):=by
 by_cases h:k<l.length
 ·rw[List.drop_eq_getElem_cons h,val,qjr h]
 rw[List.drop_of_length_le (by omega),List.drop_of_length_le (by omega),q7l (by omega)];rfl
theorem q2M (l:List Nat)(k:Nat):val l=val (l.take k)+4294967296^k*val (l.drop k):=by
 by_cases h:k≤l.length
 ·have:=val_append (l.take k) (l.drop k)
  rw[List.take_append_drop,List.length_take,Nat.min_eq_left h]at this
  exact this
 rw[List.take_of_length_le (by omega),List.drop_of_length_le (by omega)];simp[val]
theorem qzx:∀{l:List Nat} (_:LOk l) (i:Nat),dg l i=val l/4294967296^i%4294967296:=by
 intro l
 induction l with
 |nil=>intro _ i;simp[dg,val]
 |cons x l ih=>
  intro h i
  obtain⟨h1,h2⟩:=h.cons
  cases i with
  |zero=>simp[dg,val];omega
  |succ i=>
   have:=ih h2 i
   have e:dg (x::l) (i+1)=dg l i:=by simp[dg]
   rw[e,this,val,Nat.pow_succ,Nat.mul_comm (4294967296^i),←Nat.div_div_eq_div_mul]
   congr 2
   omega
theorem qmo {l:List Nat}(hl:l≠[])(h:dg l (l.length-1)≠0):val l≠0:=by
 have hlen:0<l.length:=List.length_pos_iff.2 hl
 have:=q2M l (l.length-1)
 rw[q2R,Nat.sub_add_cancel hlen,List.drop_length]at this
 simp only[val,Nat.mul_zero,Nat.add_zero]at this
 intro h0
 rw[h0]at this
 have hp:0<4294967296^(l.length-1) *dg l (l.length-1):=Nat.mul_pos (Nat.pow_pos (by decide)) (by omega)
 omega
theorem qCH {l:List Nat}(h:LOk l)(hl:l=[]∨dg l (l.length-1)≠0):q0f (val l)=l:=by
 induction l with
 |nil=>rfl
 |cons x l ih=>
  obtain⟨h1,h2⟩:=h.cons
  rcases hl with hl|hl
  ·cases hl
  have hv:=qmo (l:=x::l) (by simp) hl
  rw[q41 hv]
  have e1:val (x::l)%4294967296=x:=by rw[val];omega
  have e2:val (x::l)/4294967296=val l:=by rw[val];omega
  rw[e1,e2,ih h2]
  by_cases hn:l=[]
  ·exact .inl hn
  refine .inr ?_
  obtain⟨m,hm⟩:∃m,l.length=m+1:=⟨l.length-1,by have:=List.length_pos_iff.2 hn;omega⟩
  simp only[List.length_cons,Nat.add_sub_cancel,hm]at hl⊢
  simpa[dg]using hl
theorem qsm {n:Nat}(h:n≠0):dg (q0f n) ((q0f n).length-1)≠0:=by
 induction n using qjp with
 |h0=>exact absurd rfl h
 |h1 n hn ih=>
  rw[q41 hn]
  by_cases hd:n/4294967296=0
  ·rw[hd,q5r];simp[dg];omega
  have:=ih hd
  have hp:=q3c.2 hd
  obtain⟨m,hm⟩:∃m,(q0f (n/4294967296)).length=m+1:=⟨_,(Nat.sub_add_cancel hp).symm⟩
  simp only[List.length_cons,Nat.add_sub_cancel,hm]at this⊢
  simpa[dg]using this
theorem qsn {l:List Nat}{n:Nat}(h:LOk l)(hn:n≤l.length)(h0:∀i,n≤i→dg l i=0)(h1:n=0∨dg l (n-1)≠0):l.take n=q0f (val l):=by
 have hz:∀k j,n≤j→j+k=l.length→val (l.drop j)=0:=by
  intro k
  induction k with
  |zero=>intro j _ hj;rw[List.drop_of_length_le (by omega)];rfl
  |succ k ih=>intro j hj hk;rw[q2R,h0 j hj,ih (j+1) (by omega) (by omega)]
 have hv:val l=val (l.take n):=by
  rw[q2M l n,hz (l.length-n) n (Nat.le_refl _) (by omega)];simp
 rw[hv,qCH (h.take n)]
 by_cases hn0:n=0
 ·left;simp[hn0]
 right
 rcases h1 with h1|h1
 ·exact absurd h1 hn0
 rw[List.length_take,Nat.min_eq_left hn]
 simpa[dg,List.getElem?_take,show n-1<n by omega]using h1
theorem qic {l:List Nat}{i v:Nat}(h:i<l.length):val (l.set i v)+4294967296^i*dg l i=val l+4294967296^i*v:=by
 induction l generalizing i with
 |nil=>simp at h
 |cons x l ih=>
  cases i with
  |zero=>simp[val,dg];omega
  |succ i=>
   have:=ih (i:=i) (by simpa using h)
   have e:dg (x::l) (i+1)=dg l i:=by simp[dg]
   rw[List.set_cons_succ,val,val,e,Nat.pow_succ]
   have e1:4294967296^i*4294967296*dg l i=4294967296*(4294967296^i*dg l i):=by rw[Nat.mul_comm (4294967296^i),Nat.mul_assoc]
   have e2:4294967296^i*4294967296*v=4294967296*(4294967296^i*v):=by rw[Nat.mul_comm (4294967296^i),Nat.mul_assoc]
   rw[e1,e2]
   omega
theorem q3d {l:List Nat}{i j v:Nat}:dg (l.set i v) j=if i=j∧j<l.length then v else dg l j:=by
 unfold dg
 rw[List.getD_eq_getElem?_getD,List.getD_eq_getElem?_getD,List.getElem?_set]
 split
 ·rename_i h;subst h
  split
  ·rename_i h2;simp[h2]
  rename_i h2;simp[h2]
 rename_i h;simp[h]
theorem qp2 {a b:List Nat}{i:Nat}(h:i<a.length):dg (a++b) i=dg a i:=by
 simp[dg,List.getElem?_append_left h]
theorem qmp {a b:List Nat}{i:Nat}(h:a.length≤i):dg (a++b) i=dg b (i-a.length):=by
 simp[dg,List.getElem?_append_right h]
theorem q6V (k i:Nat):dg (List.replicate k 0) i=0:=by
 simp only[dg,List.getD_eq_getElem?_getD,List.getElem?_replicate];split<;>rfl
theorem q4k (p t:Nat):p*(t%4294967296)+p*4294967296*(t/4294967296)=p*t:=by
 rw[Nat.mul_assoc,←Nat.mul_add,Nat.mod_add_div]
theorem q2z {l:List Nat}{i:Nat}(h:i<l.length):(l.map u32)[i]?=some (u32 (dg l i)):=by simp[dg,h]
theorem q0t (n:Nat):plain 4 (u32 n)=true:=rfl
theorem qB6 (n:Nat):dat 4 (u32 n)=true:=rfl
theorem q11 (n:Nat):IntKind.u32.wrap (n:Int)=((n%4294967296:Nat):Int):=by
 simp[IntKind.wrap,IntKind.bits,IntKind.signed]
theorem qaD (n:Int):IntKind.u32.wrap n=n%4294967296:=by
 simp[IntKind.wrap,IntKind.bits,IntKind.signed]
end Go.F

namespace Go.F
attribute [local irreducible] IntKind.wrap wpM
theorem qCI {r:List Nat}{k:Nat}(v:Nat):(r.map u32).set k (.int .u32 v)=(r.set k v).map u32:=by
 rw[List.map_set];rfl
section
variable {T:Tab}{sh:Shr}{nx0:Nat}{s:List Fr}{t:q0x}{h:q0d}{z:Frz}{nx:Nat}{q:Ex→q0x→q0d→Frz→Nat→Prop}
variable {base i:Nat}{res:List Nat}{g:Gd}{rest:List KOper}
theorem q1X {hint:Bool}{a v:X}{dst:Option Nat}{id k':Nat}{w':Int}(r:List Nat)(k w:Nat)(ha:a.ev t=.ptr id k' 0)(hv:v.ev t=.int .u32 w')(hkk:k'=k)(hw:w'=w)(hr:g.h base h id=some (.row (r.map u32) 1))(hz:g.z base z id≤k)(hl:k<r.length)
 (hk:wpM T sh nx0 (.ops base res rest::s) .normal (put t dst (.tup [])) (upd h id (some (.row ((r.set k w).map u32) 1))) z nx q):
 wpM T sh nx0 (.ops base res (⟨i,dst,none,g,.store hint 1 a v⟩::rest)::s) .normal t h z nx q:=by
 subst hkk;subst hw
 refine qiL (e':=.int .u32 w) ha (by rw[hv];rfl) hr hz (q2z hl) (by rw[hv];rfl) ?_
 rw[qCI]
 exact hk
theorem q4l {hint:Bool}{a:X}{dst:Nat}{id k':Nat}(r:List Nat)(k:Nat)(ha:a.ev t=.ptr id k' 0)(hkk:k'=k)(hr:g.h base h id=some (.row (r.map u32) 1))(hl:k<r.length)
 (hk:wpM T sh nx0 (.ops base res rest::s) .normal (upd t dst (.int .u32 (dg r k))) h z nx q):
 wpM T sh nx0 (.ops base res (⟨i,some dst,none,g,.load hint false 1 a⟩::rest)::s) .normal t h z nx q:=by
 subst hkk
 exact qeN ha hr (q2z hl) rfl hk
end
theorem q2G (l:List Nat) [ho:LOk l](hl:l.length≤4000000000):PU qoJ [nat l]=some (nat (q0f (val l))):=by
 refine q0g (fn:=qcR) rfl (q0a ?_)
 refine gg rfl (q0l (S:=fun n:Nat=>([nat l,q00 n],[none,none],[0,0])) (C:=fun n=>n≤l.length∧∀i,n≤i→dg l i=0) (m:=fun n=>n) l.length ⟨Nat.le_refl _,fun i hi=>q7l hi⟩ (by omega) ?_ ?_)
 ·exact q03 rfl trivial (by simp[nat,q00])
 intro n ⟨hn,h0⟩ N hN
 have fin:(n=0∨dg l (n-1)≠0)→D.lst ((l.map u32).take n)=nat (q0f (val l)):=fun h=>by
  rw[nat,←qsn ho hn h0 h,List.map_take]
 refine gg rfl (q09 rfl (fun h1=>?_) (fun h1=>?_))
 ·rw[q06]at h1
  have w1:IntKind.i64.wrap ((n:Int)-1)=((n-1:Nat):Int):=by rw[wrap64 (by omega) (by omega)];omega
  refine gg rfl (q0i (n-1) rfl rfl w1 (q2z (by omega)) rfl ?_)
  refine gg rfl (q01 rfl (fun h2=>?_) (fun h2=>?_))
  ·rw[q1n]at h2
   refine gg rfl (q04 (hN (n-1) ⟨by omega,fun i hi=>?_⟩ (by omega) (q03 rfl trivial (by simp[nat,q00,w1]))))
   by_cases hin:i=n-1
   ·subst hin;omega
   exact h0 i (by omega)
  rw[q20]at h2
  refine gg rfl (q04 (gg rfl (qcE n rfl (q1x (f:=u32) (n:=1) (fun _=>rfl) _) ⟨_,_,rfl,rfl⟩ (by simpa using hn) ?_)))
  refine gg rfl (q08 rfl rfl rfl trivial (fin (.inr ?_)))
  omega
 rw[q07]at h1
 refine gg rfl (q0j rfl (gg rfl (q04 (gg rfl (qcE n rfl (q1x (f:=u32) (n:=1) (fun _=>rfl) _) ⟨_,_,rfl,rfl⟩ (by simpa using hn) ?_)))))
 refine gg rfl (q08 rfl rfl rfl trivial (fin (.inl (by omega))))
theorem q3J {l:List Nat}{n:Nat}(hn:n=l.length):0+n≤(l.map u32).length∧(((l.map u32).drop 0).take n).all (dat 4)=true:=by
 subst hn
 refine⟨by simp,?_⟩
 rw[List.drop_zero,List.take_of_length_le (by simp)]
 exact q0X qB6 _
theorem q44 {l:List Nat}{n:Nat}(hn:n=l.length):D.lst ((l.map u32).take n)=nat l:=by
 subst hn
 rw[nat,List.take_of_length_le (by simp)]
theorem q6D (n:Nat)(hn:n<18446744073709551616):PU qtK [.int .u64 n]=some (nat (q0f n)):=by
 have:LOk [n%4294967296,n/4294967296]:=⟨by simp;omega⟩
 have hp:=q2G [n%4294967296,n/4294967296] (by simp)
 have hv:val [n%4294967296,n/4294967296]=n:=by simp[val];omega
 rw[hv]at hp
 refine q0g (fn:=qgY) rfl (q0a ?_)
 refine gg rfl (q17 n 32 rfl rfl rfl rfl (by decide) ?_)
 refine gg rfl ?_
 rw[q11,q11,show n/2^32%4294967296=n/4294967296 by omega]
 exact q1R rfl rfl ⟨q3J (l:=[n%4294967296,n/4294967296]) rfl,trivial⟩ hp fun z=>(gg rfl (q08 rfl rfl rfl trivial rfl))
theorem q5h (l:List Nat) [ho:LOk l](hl:l.length≤4000000000):PU qoN [nat l]=some (nat (q0f (val l))):=by
 have hlen:(q0f (val l)).length≤l.length:=q0p.2 (q2Y ho)
 refine q0g (fn:=qdx) rfl (q0a ?_)
 refine gg rfl (q02 rfl rfl (q2G l hl) (gg rfl (q3O (q0f (val l)).length rfl rfl (by simp) (by simp[q0M];omega) ?_)))
 refine gg rfl (qHz rfl rfl rfl rfl (q1x (f:=u32) (n:=1) (fun _=>rfl) _) (by simp) (Nat.zero_le _) ?_)
 refine gg rfl ?_
 have e:List.take 0 (List.replicate (q0f (val l)).length (D.int IntKind.u32 0))++((q0f (val l)).map u32).take (min ((q0f (val l)).map u32).length (q0f (val l)).length)++(List.replicate (q0f (val l)).length (D.int IntKind.u32 0)).drop (0+min ((q0f (val l)).map u32).length (q0f (val l)).length)=(q0f (val l)).map u32:=by
  simp
  rw[List.take_of_length_le (by simp)]
 rw[e]
 exact q08 rfl rfl rfl ⟨q3J rfl,trivial⟩ (q44 rfl)
theorem qgp (n:Nat):PU q8s [.int .u32 n]=some (.bool false):=by
 refine q0g (fn:=q88) rfl (q0a ?_)
 repeat' (first
  |refine goP 800 rfl rfl ?_
  |refine q0h rfl ?_|refine q0o rfl ?_|refine q09 rfl (fun _=>?_) (fun _=>?_)
  |refine q0e rfl ?_|refine q0j rfl ?_|refine q01 rfl (fun _=>?_) (fun _=>?_)
  |refine q0L rfl (fun _=>?_) (fun _=>?_)
  |refine q08 rfl rfl rfl trivial ?_)
 simp[nqb]
theorem qtZ (a b:Nat):PU qdO [.int .u32 a,.int .u32 b]=some (.int .i64 (q3D a b)):=by
 refine q0g (fn:=q6O) rfl (q0a ?_)
 repeat' (first
  |refine goP 800 rfl rfl ?_
  |refine q0h rfl ?_|refine q0o rfl ?_|refine q09 rfl (fun _=>?_) (fun _=>?_)
  |refine q0e rfl ?_|refine q0j rfl ?_|refine q01 rfl (fun _=>?_) (fun _=>?_)
  |refine q0L rfl (fun _=>?_) (fun _=>?_)
  |refine q08 rfl rfl rfl trivial ?_
  |refine q02 rfl rfl (qgp _) ?_)
 all_goals ((try simp only[q1M,q26,q2c,q42,decide_eq_true_eq,decide_eq_false_iff_not,Bool.not_eq_true,Bool.not_eq_false,Int.not_lt,Int.not_le]at*);first|(simp_all[q3D];done) |(simp_all[q3D];omega) |(rw[D.bool.injEq,Bool.eq_iff_iff];simp[q3D];omega) |(rw[D.bool.injEq,Bool.eq_iff_iff];simp_all[q3D];omega) |(simp[q3D];split<;>(try split)<;>omega))
theorem qsp {a b:List Nat}(ha:LOk a){i:Nat}(h:a.drop (i+1)=b.drop (i+1))(hi:dg a i<dg b i):val a<val b:=by
 have e1:=q2M a i
 have e2:=q2M b i
 rw[q2R]at e1 e2
 rw[h]at e1
 have h1:=q2Y (ha.take i)
 have h3:4294967296^(a.take i).length≤4294967296^i:=Nat.pow_le_pow_right (by decide) (by simp;omega)
 generalize 4294967296^i=P at*
 generalize 4294967296*val (List.drop (i+1) b)=R at*
 have h2:P*(dg a i+R)+P≤P*(dg b i+R):=by
  rw[←Nat.mul_succ];exact Nat.mul_le_mul_left _ (by omega)
 omega
theorem qp3 (a b:List Nat) [ha:LOk a] [hb:LOk b](hla:a.length≤1000000000)(hlb:b.length≤1000000000):PU q9x [nat a,nat b]=some (.int .i64 (q3D (val a) (val b))):=by
 have ea:val (q0f (val a))=val a:=q0m _
 have eb:val (q0f (val b))=val b:=q0m _
 have hla':(q0f (val a)).length≤a.length:=q0p.2 (q2Y ha)
 have hlb':(q0f (val b)).length≤b.length:=q0p.2 (q2Y hb)
 refine q0g (fn:=qfB) rfl (q0a ?_)
 refine gg rfl (q02 rfl rfl (q2G a (by omega)) ?_)
 refine gg rfl (q02 rfl rfl (q2G b (by omega)) ?_)
 refine gg rfl (q02 rfl rfl (qga _ _) (gg rfl ?_))
 rw[List.length_map,List.length_map]
 refine q01 rfl (fun h1=>?_) (fun h1=>?_)
 ·rw[q0u]at h1
  refine gg rfl (q08 rfl rfl rfl trivial ?_)
  congr 1
  unfold q3D at h1⊢
  rcases Nat.lt_trichotomy (q0f (val a)).length (q0f (val b)).length with h|h|h
  ·have h2:¬val b<4294967296^(q0f (val a)).length:=fun h3=>by have:=q0p.2 h3;omega
   have h3:val a<4294967296^(q0f (val a)).length:=q0p.1 (Nat.le_refl _)
   rw[if_pos (by omega),if_pos (by omega)]
  ·rw[if_neg (by omega),if_neg (by omega)]at h1;exact absurd rfl h1
  have h2:¬val a<4294967296^(q0f (val b)).length:=fun h3=>by have:=q0p.2 h3;omega
  have h3:val b<4294967296^(q0f (val b)).length:=q0p.1 (Nat.le_refl _)
  rw[if_neg (by omega),if_pos (by omega),if_neg (by omega),if_pos (by omega)]
 rw[q0z]at h1
 have hlen:(q0f (val a)).length=(q0f (val b)).length:=by
  unfold q3D at h1
  split at h1
  ·cases h1
  split at h1
  ·cases h1
  omega
 generalize hA:q0f (val a)=A at*
 generalize hB:q0f (val b)=B at*
 have hAo:LOk A:=hA▸q0A _
 have hBo:LOk B:=hB▸q0A _
 refine gg rfl (q0l (S:=fun n:Nat=>([nat A,nat B,q00 ((n:Int)-1)],[none,none,none],[0,0,0])) (C:=fun n=>n≤A.length∧A.drop n=B.drop n) (m:=fun n=>n) A.length ⟨Nat.le_refl _,by rw[List.drop_length,hlen,List.drop_length]⟩ (by omega) ?_ ?_)
 ·exact q03 rfl trivial (by simp[nat,q00];exact wrap64 (by omega) (by omega))
 intro n ⟨hn,hd⟩ N hN
 refine gg rfl (q01 rfl (fun h2=>?_) (fun h2=>?_))
 ·rw[q0G]at h2
  refine gg rfl (q0i (n-1) rfl rfl (by omega) (q2z (by omega)) rfl ?_)
  refine gg rfl (q0i (n-1) rfl rfl (by omega) (q2z (by omega)) rfl ?_)
  refine gg rfl (q02 rfl rfl (qtZ _ _) (gg rfl (q01 rfl (fun h3=>?_) (fun h3=>?_))))
  ·rw[q0u]at h3
   refine gg rfl (q04 (gg rfl (q08 rfl rfl rfl trivial ?_)))
   congr 1
   unfold q3D at h3⊢
   have hd':A.drop (n-1+1)=B.drop (n-1+1):=by rw[Nat.sub_add_cancel (by omega)];exact hd
   rcases Nat.lt_trichotomy (dg A (n-1)) (dg B (n-1))with h|h|h
   ·have:=qsp hAo hd' h
    rw[if_pos (by omega),if_pos (by omega)]
   ·rw[if_neg (by omega),if_neg (by omega)]at h3;exact absurd rfl h3
   have:=qsp hBo hd'.symm h
   rw[if_neg (by omega),if_pos (by omega),if_neg (by omega),if_pos (by omega)]
  rw[q0z]at h3
  have heq:dg A (n-1)=dg B (n-1):=by
   unfold q3D at h3
   split at h3
   ·cases h3
   split at h3
   ·cases h3
   omega
  refine gg rfl (q04 (hN (n-1) ⟨by omega,?_⟩ (by omega) (q03 rfl trivial ?_)))
  ·have e1:A.drop (n-1)=dg A (n-1)::A.drop n:=by rw[List.drop_eq_getElem_cons (by omega),qjr (by omega),Nat.sub_add_cancel (by omega)]
   have e2:B.drop (n-1)=dg B (n-1)::B.drop n:=by rw[List.drop_eq_getElem_cons (by omega),qjr (by omega),Nat.sub_add_cancel (by omega)]
   rw[e1,e2,heq,hd]
  have w:IntKind.i64.wrap ((n:Int)-1-1)=((n-1:Nat):Int)-1:=by rw[wrap64 (by omega) (by omega)];omega
  simp[nat,q00,w]
 rw[q0H]at h2
 obtain rfl:n=0:=by omega
 refine gg rfl (q04 (gg rfl (q08 rfl rfl rfl trivial ?_)))
 have:val a=val b:=by rw[←ea,←eb];simp at hd;rw[hd]
 simp[q3D,this]
end Go.F

namespace Go.F
attribute [local irreducible] IntKind.wrap wpM
theorem q2H {r:List Nat}{k v:Nat}(h:k<r.length):val ((r.set k v).take (k+1))=val (r.take k)+4294967296^k*v:=by
 rw[q0Q,q3d,if_pos ⟨rfl,h⟩,List.take_set_of_le (Nat.le_refl _)]
theorem q1G {l:List Nat}(h:LOk l):(q0f (val l)).length≤l.length:=q0p.2 (q2Y h)
set_option maxHeartbeats 2000000 in
theorem qu0 (a b:List Nat) [ha:LOk a] [hb:LOk b](hla:a.length≤1000000000)(hlb:b.length≤1000000000):PU qqK [nat a,nat b]=some (nat (q0f (val a+val b))):=by
 have ea:val (q0f (val a))=val a:=q0m _
 have eb:val (q0f (val b))=val b:=q0m _
 have hla':=q1G ha
 have hlb':=q1G hb
 refine q0g (fn:=qfI) rfl (q0a ?_)
 refine gg rfl (q02 rfl rfl (q2G a (by omega)) ?_)
 refine gg rfl (q02 rfl rfl (q2G b (by omega)) ?_)
 refine gg rfl ?_
 rw[List.length_map,List.length_map]
 have hAo:LOk (q0f (val a)):=q0A _
 have hBo:LOk (q0f (val b)):=q0A _
 generalize q0f (val a)=P at*
 generalize q0f (val b)=Q at*
 refine q01 rfl (fun h1=>?_) (fun h1=>?_)
 ·rw[q06]at h1
  have hx:=hAo
  clear hAo
  have hAo:=hBo
  clear hBo
  have hBo:=hx
  refine gg rfl (q3O 0 rfl rfl rfl (by rw[List.length_map,wrap64 (by omega) (by omega)];simp[q0M];omega) ?_)
  refine gg rfl ?_
  refine q0l (S:=fun x:Nat×List Nat×Nat=>([nat P,.ref 1 0 x.2.1.length,.int .u64 x.2.2,nat Q,q00 Q.length,q00 x.1],[none,some (.row (x.2.1.map u32) 1),none,none,none,none],[0,0,0,0,0,0]))
   (C:=fun x=>x.1≤Q.length∧x.2.1.length=x.1∧LOk x.2.1∧x.2.2≤1∧val x.2.1+4294967296^x.1*x.2.2=val (Q.take x.1)+val (P.take x.1)) (m:=fun x=>Q.length-x.1) (0,[],0) ⟨Nat.zero_le _,rfl,qp1,by decide,by simp[val]⟩ (by simp;omega) ?_ ?_
  ·exact q03 rfl ⟨rfl,trivial⟩ (by simp[nat,q00])
  rintro⟨k,r,c⟩ ⟨hk,hr,hro,hc,hinv⟩ N hN
  simp only at hk hr hro hc hinv
  refine gg rfl (q01 rfl (fun h2=>?_) (fun h2=>?_))
  ·rw[q06]at h2
   have hlt:k<Q.length:=by omega
   have hx:=q1k hAo k
   have hy:=q1k hBo k
   have w1:=wS (n:=k)
   have next:∀{t:q0x} {h:q0d} {z:Frz} {nx:Nat},(q10 0 [(1,0),(5,1),(6,0),(24,0),(25,0),(26,0)] t h z nx fun _ _ kp=>kp=([nat P,.ref 1 0 (r++[(c+dg Q k+dg P k)%4294967296]).length,.int .u64 ((c+dg Q k+dg P k)/2^32:Nat),nat Q,q00 Q.length,q00 ((k+1:Nat):Int)],[none,some (.row ((r++[(c+dg Q k+dg P k)%4294967296]).map u32) 1),none,none,none,none],[0,0,0,0,0,0]))→N t h z nx:=by
    intro t h z nx hst
    refine hN (k+1,r++[(c+dg Q k+dg P k)%4294967296],(c+dg Q k+dg P k)/2^32) ⟨hlt,by simp[hr],hro.snoc (by omega),by simp only;omega,?_⟩ (by simp only;omega) hst
    simp only
    rw[q5W,hr,q0Q,q0Q,Nat.pow_succ,Nat.add_assoc,show(2:Nat)^32=4294967296 by decide,q4k,Nat.mul_add,Nat.mul_add]
    omega
   clear hN
   refine gg rfl (q0i k rfl rfl rfl (q2z hlt) rfl (gg rfl ?_))
   rw[List.length_map]
   refine q01 rfl (fun h3=>?_) (fun h3=>?_)
   ·rw[q06]at h3
    refine gg rfl (q0i k rfl rfl rfl (q2z (by omega)) rfl ?_)
    refine gg rfl ?_
    have e:IntKind.u64.wrap (IntKind.u64.wrap ((c:Int)+IntKind.u64.wrap (dg Q k:Int))+IntKind.u64.wrap (dg P k:Int))=((c+dg Q k+dg P k:Nat):Int):=by simp only[q0T];omega
    rw[e,q11]
    refine q1f rfl rfl rfl rfl rfl rfl (by simp) (Nat.zero_le _) (by simp[q0M];omega) ?_
    refine gg rfl (q17 (c+dg Q k+dg P k) 32 rfl rfl rfl rfl (by decide) ?_)
    refine gg rfl (q04 (next (q03 rfl ⟨?_,trivial⟩ ?_)))
    ·rw[List.all_append,q05 q0t];rfl
    simp[nat,q00,w1,u32]
   rw[q07]at h3
   have h0:dg P k=0:=q7l (by omega)
   refine gg rfl ?_
   have e:IntKind.u64.wrap ((c:Int)+IntKind.u64.wrap (dg Q k:Int))=((c+dg Q k+dg P k:Nat):Int):=by simp only[q0T];omega
   rw[e,q11]
   refine q1f rfl rfl rfl rfl rfl rfl (by simp) (Nat.zero_le _) (by simp[q0M];omega) ?_
   refine gg rfl (q17 (c+dg Q k+dg P k) 32 rfl rfl rfl rfl (by decide) ?_)
   refine gg rfl (q04 (next (q03 rfl ⟨?_,trivial⟩ ?_)))
   ·rw[List.all_append,q05 q0t];rfl
   simp[nat,q00,w1,u32]
  rw[q07]at h2
  obtain rfl:k=Q.length:=by omega
  rw[List.take_length,List.take_of_length_le (l:=P) (by omega)]at hinv
  refine gg rfl (q04 (gg rfl ?_))
  have ec:IntKind.u32.wrap (c:Int)=(c:Int):=by rw[q11];omega
  rw[ec]
  refine q1f rfl rfl rfl rfl rfl rfl (by simp) (Nat.zero_le _) (by simp[q0M];omega) ?_
  refine gg rfl ?_
  have:LOk (r++[c]):=hro.snoc (by omega)
  have hp:=q2G (r++[c]) (by simp;omega)
  have hv:val (r++[c])=val a+val b:=by rw[q5W,hr,hinv];exact(by omega)
  rw[hv]at hp
  have er:r.map u32++[D.int IntKind.u32 (c:Int)]=(r++[c]).map u32:=by simp[u32]
  rw[er]
  refine q1R rfl rfl ⟨q3J (l:=r++[c]) (by simp),trivial⟩ (by rw[q44 (by simp)];exact hp) fun z=>?_
  exact gg rfl (q08 rfl rfl rfl trivial rfl)
 rw[q07]at h1
 refine gg rfl (q3O 0 rfl rfl rfl (by rw[List.length_map,wrap64 (by omega) (by omega)];simp[q0M];omega) ?_)
 refine gg rfl ?_
 refine q0l (S:=fun x:Nat×List Nat×Nat=>([nat Q,.ref 1 0 x.2.1.length,.int .u64 x.2.2,nat P,q00 P.length,q00 x.1],[none,some (.row (x.2.1.map u32) 1),none,none,none,none],[0,0,0,0,0,0]))
  (C:=fun x=>x.1≤P.length∧x.2.1.length=x.1∧LOk x.2.1∧x.2.2≤1∧val x.2.1+4294967296^x.1*x.2.2=val (P.take x.1)+val (Q.take x.1)) (m:=fun x=>P.length-x.1) (0,[],0) ⟨Nat.zero_le _,rfl,qp1,by decide,by simp[val]⟩ (by simp;omega) ?_ ?_
 ·exact q03 rfl ⟨rfl,trivial⟩ (by simp[nat,q00])
 rintro⟨k,r,c⟩ ⟨hk,hr,hro,hc,hinv⟩ N hN
 simp only at hk hr hro hc hinv
 refine gg rfl (q01 rfl (fun h2=>?_) (fun h2=>?_))
 ·rw[q06]at h2
  have hlt:k<P.length:=by omega
  have hx:=q1k hAo k
  have hy:=q1k hBo k
  have w1:=wS (n:=k)
  have next:∀{t:q0x} {h:q0d} {z:Frz} {nx:Nat},(q10 0 [(1,0),(5,1),(6,0),(24,0),(25,0),(26,0)] t h z nx fun _ _ kp=>kp=([nat Q,.ref 1 0 (r++[(c+dg P k+dg Q k)%4294967296]).length,.int .u64 ((c+dg P k+dg Q k)/2^32:Nat),nat P,q00 P.length,q00 ((k+1:Nat):Int)],[none,some (.row ((r++[(c+dg P k+dg Q k)%4294967296]).map u32) 1),none,none,none,none],[0,0,0,0,0,0]))→N t h z nx:=by
   intro t h z nx hst
   refine hN (k+1,r++[(c+dg P k+dg Q k)%4294967296],(c+dg P k+dg Q k)/2^32) ⟨hlt,by simp[hr],hro.snoc (by omega),by simp only;omega,?_⟩ (by simp only;omega) hst
   simp only
   rw[q5W,hr,q0Q,q0Q,Nat.pow_succ,Nat.add_assoc,show(2:Nat)^32=4294967296 by decide,q4k,Nat.mul_add,Nat.mul_add]
   omega
  clear hN
  refine gg rfl (q0i k rfl rfl rfl (q2z hlt) rfl (gg rfl ?_))
  rw[List.length_map]
  refine q01 rfl (fun h3=>?_) (fun h3=>?_)
  ·rw[q06]at h3
   refine gg rfl (q0i k rfl rfl rfl (q2z (by omega)) rfl ?_)
   refine gg rfl ?_
   have e:IntKind.u64.wrap (IntKind.u64.wrap ((c:Int)+IntKind.u64.wrap (dg P k:Int))+IntKind.u64.wrap (dg Q k:Int))=((c+dg P k+dg Q k:Nat):Int):=by simp only[q0T];omega
   rw[e,q11]
   refine q1f rfl rfl rfl rfl rfl rfl (by simp) (Nat.zero_le _) (by simp[q0M];omega) ?_
   refine gg rfl (q17 (c+dg P k+dg Q k) 32 rfl rfl rfl rfl (by decide) ?_)
   refine gg rfl (q04 (next (q03 rfl ⟨?_,trivial⟩ ?_)))
   ·rw[List.all_append,q05 q0t];rfl
   simp[nat,q00,w1,u32]
  rw[q07]at h3
  have h0:dg Q k=0:=q7l (by omega)
  refine gg rfl ?_
  have e:IntKind.u64.wrap ((c:Int)+IntKind.u64.wrap (dg P k:Int))=((c+dg P k+dg Q k:Nat):Int):=by simp only[q0T];omega
  rw[e,q11]
  refine q1f rfl rfl rfl rfl rfl rfl (by simp) (Nat.zero_le _) (by simp[q0M];omega) ?_
  refine gg rfl (q17 (c+dg P k+dg Q k) 32 rfl rfl rfl rfl (by decide) ?_)
  refine gg rfl (q04 (next (q03 rfl ⟨?_,trivial⟩ ?_)))
  ·rw[List.all_append,q05 q0t];rfl
  simp[nat,q00,w1,u32]
 rw[q07]at h2
 obtain rfl:k=P.length:=by omega
 rw[List.take_length,List.take_of_length_le (l:=Q) (by omega)]at hinv
 refine gg rfl (q04 (gg rfl ?_))
 have ec:IntKind.u32.wrap (c:Int)=(c:Int):=by rw[q11];omega
 rw[ec]
 refine q1f rfl rfl rfl rfl rfl rfl (by simp) (Nat.zero_le _) (by simp[q0M];omega) ?_
 refine gg rfl ?_
 have:LOk (r++[c]):=hro.snoc (by omega)
 have hp:=q2G (r++[c]) (by simp;omega)
 have hv:val (r++[c])=val a+val b:=by rw[q5W,hr,hinv];exact(by omega)
 rw[hv]at hp
 have er:r.map u32++[D.int IntKind.u32 (c:Int)]=(r++[c]).map u32:=by simp[u32]
 rw[er]
 refine q1R rfl rfl ⟨q3J (l:=r++[c]) (by simp),trivial⟩ (by rw[q44 (by simp)];exact hp) fun z=>?_
 exact gg rfl (q08 rfl rfl rfl trivial rfl)
set_option maxHeartbeats 2000000 in
theorem qFn (a b:List Nat) [ha:LOk a] [hb:LOk b](hla:a.length≤1000000000)(hlb:b.length≤1000000000):
 PU qqP [nat a,nat b]=some (if val a<val b then .tup [nat [],.bool false]else .tup [nat (q0f (val a-val b)),.bool true]):=by
 have ea:val (q0f (val a))=val a:=q0m _
 have eb:val (q0f (val b))=val b:=q0m _
 have hla':=q1G ha
 have hlb':=q1G hb
 refine q0g (fn:=qfM) rfl (q0a ?_)
 refine gg rfl (q02 rfl rfl (q2G a (by omega)) ?_)
 refine gg rfl (q02 rfl rfl (q2G b (by omega)) ?_)
 refine gg rfl ?_
 have hAo:LOk (q0f (val a)):=q0A _
 have hBo:LOk (q0f (val b)):=q0A _
 have hlen:val b≤val a→(q0f (val b)).length≤(q0f (val a)).length:=fun h=>q0p.2 (Nat.lt_of_le_of_lt h (q0p.1 (Nat.le_refl _)))
 generalize q0f (val a)=A at*
 generalize q0f (val b)=B at*
 refine q02 rfl rfl (qp3 A B (by omega) (by omega)) ?_
 refine gg rfl ?_
 rw[ea,eb]
 refine q01 rfl (fun h1=>?_) (fun h1=>?_)
 ·rw[q06]at h1
  have:val a<val b:=by
   unfold q3D at h1
   split at h1
   ·omega
   split at h1<;>omega
  refine gg rfl (q08 rfl rfl rfl trivial ?_)
  rw[if_pos this];rfl
 rw[q07]at h1
 have hle:val b≤val a:=by
  unfold q3D at h1
  split at h1
  ·omega
  omega
 rw[if_neg (by omega)]
 refine gg rfl (q3O A.length rfl rfl (by simp) (by simp[q0M];omega) ?_)
 refine gg rfl ?_
 refine q0l (S:=fun x:Nat×List Nat×Nat=>([nat B,.ref 1 0 A.length,.int .u64 x.2.2,nat A,q00 A.length,q00 x.1],[none,some (.row (x.2.1.map u32) 1),none,none,none,none],[0,0,0,0,0,0]))
  (C:=fun x=>x.1≤A.length∧x.2.1.length=A.length∧LOk x.2.1∧x.2.2≤1∧val (x.2.1.take x.1)+val (B.take x.1)=val (A.take x.1)+4294967296^x.1*x.2.2) (m:=fun x=>A.length-x.1) (0,List.replicate A.length 0,0)
  ⟨Nat.zero_le _,by simp,q54 _,Nat.zero_le _,by simp[val]⟩ (by simp;omega) ?_ ?_
 ·refine q03 rfl ⟨?_,trivial⟩ (by simp[nat,q00,u32])
  rw[List.all_eq_true];intro x hx;rw[(List.mem_replicate.1 hx).2];rfl
 rintro⟨k,r,c⟩ ⟨hk,hr,hro,hc,hinv⟩ N hN
 simp only at hk hr hro hc hinv
 refine gg rfl (q01 rfl (fun h2=>?_) (fun h2=>?_))
 ·rw[q06]at h2
  have hlt:k<A.length:=by omega
  have hx:=q1k hAo k
  have hy:=q1k hBo k
  have w1:=wS (n:=k)
  have next:∀(v c':Nat),v<4294967296→c'≤1→v+(c+dg B k)=dg A k+4294967296*c'→∀{t:q0x} {h:q0d} {z:Frz} {nx:Nat},(q10 0 [(1,0),(6,0),(7,0),(22,0),(23,0),(24,0)] t h z nx fun _ _ kp=>kp=([nat B,.ref 1 0 A.length,.int .u64 c',nat A,q00 A.length,q00 ((k+1:Nat):Int)],[none,some (.row ((r.set k v).map u32) 1),none,none,none,none],[0,0,0,0,0,0]))→N t h z nx:=by
   intro v c' hv hc' he t h z nx hst
   refine hN (k+1,r.set k v,c') ⟨hlt,by simp[hr],hro.set k hv,hc',?_⟩ (by simp only;omega) hst
   simp only
   rw[q2H (by omega),q0Q,q0Q,Nat.pow_succ]
   have e2:4294967296^k*v+(4294967296^k*c+4294967296^k*dg B k)=4294967296^k*dg A k+4294967296^k*4294967296*c':=by
    rw[←Nat.mul_add,←Nat.mul_add,he,Nat.mul_add,Nat.mul_assoc]
   omega
  clear hN
  refine gg rfl (q0i k rfl rfl rfl (q2z hlt) rfl (gg rfl ?_))
  rw[List.length_map]
  have body:∀d:Int,d=((dg A k:Int)-c-dg B k)%18446744073709551616→
   (∃v c':Nat,IntKind.u32.wrap d=v∧d=((d.toNat:Nat):Int)∧d.toNat/2^63=c'∧v<4294967296∧c'≤1∧v+(c+dg B k)=dg A k+4294967296*c'):=by
   intro d hd
   rw[qaD]
   refine⟨(d%4294967296).toNat,d.toNat/2^63,by omega,by omega,rfl,by omega,by omega,by omega⟩
  refine q01 rfl (fun h3=>?_) (fun h3=>?_)
  ·rw[q06]at h3
   refine gg rfl (q0i k rfl rfl rfl (q2z (by omega)) rfl ?_)
   refine gg rfl ?_
   obtain⟨v,c',g1,g2,g3,g4,g5,g6⟩:=body (IntKind.u64.wrap (IntKind.u64.wrap (IntKind.u64.wrap (dg A k:Int)-(c:Int))-IntKind.u64.wrap (dg B k:Int))) (by simp only[q0T];omega)
   generalize IntKind.u64.wrap (IntKind.u64.wrap (IntKind.u64.wrap (dg A k:Int)-(c:Int))-IntKind.u64.wrap (dg B k:Int))=d at*
   rw[g1]
   refine q0F k rfl rfl rfl rfl rfl hlt (gg rfl (q1X r k v rfl rfl (Nat.zero_add _) rfl rfl (Nat.zero_le _) (by omega) ?_))
   refine gg rfl (q17 d.toNat 63 rfl rfl g2 rfl (by decide) ?_)
   rw[g3]
   exact gg rfl (q04 (next v c' g4 g5 g6 (q03 rfl ⟨q05 q0t _,trivial⟩ (by simp[nat,q00,w1]))))
  rw[q07]at h3
  have h0:dg B k=0:=q7l (by omega)
  refine gg rfl ?_
  obtain⟨v,c',g1,g2,g3,g4,g5,g6⟩:=body (IntKind.u64.wrap (IntKind.u64.wrap (dg A k:Int)-(c:Int))) (by simp only[q0T];omega)
  generalize IntKind.u64.wrap (IntKind.u64.wrap (dg A k:Int)-(c:Int))=d at*
  rw[g1]
  refine q0F k rfl rfl rfl rfl rfl hlt (gg rfl (q1X r k v rfl rfl (Nat.zero_add _) rfl rfl (Nat.zero_le _) (by omega) ?_))
  refine gg rfl (q17 d.toNat 63 rfl rfl g2 rfl (by decide) ?_)
  rw[g3]
  exact gg rfl (q04 (next v c' g4 g5 g6 (q03 rfl ⟨q05 q0t _,trivial⟩ (by simp[nat,q00,w1]))))
 rw[q07]at h2
 obtain rfl:k=A.length:=by omega
 rw[List.take_length,List.take_of_length_le (l:=r) (by omega)]at hinv
 refine gg rfl (q04 (gg rfl ?_))
 have hp:=q2G r (by omega)
 have hlen:=hlen hle
 rw[List.take_of_length_le (by omega)]at hinv
 have hv:val r=val a-val b:=by
  have h1:=q2Y hro
  rw[hr]at h1
  have hc0:c=0∨c=1:=by omega
  rcases hc0 with rfl|rfl
  ·omega
  omega
 rw[hv]at hp
 refine q1R rfl rfl ⟨q3J (l:=r) hr.symm,trivial⟩ (by rw[q44 (l:=r) hr.symm];exact hp) fun z=>?_
 exact gg rfl (q08 rfl rfl rfl trivial rfl)
end Go.F

namespace Go.F
attribute [local irreducible] IntKind.wrap wpM
theorem q7r (n:Nat):List.replicate n (D.int IntKind.u32 0)=(List.replicate n 0).map u32:=by
 simp[u32]
set_option maxHeartbeats 4000000 in
theorem qp4 (a b:List Nat) [ha:LOk a] [hb:LOk b](hla:a.length≤1000000000)(hlb:b.length≤1000000000):PU qqF [nat a,nat b]=some (nat (q0f (val a*val b))):=by
 have ea:val (q0f (val a))=val a:=q0m _
 have eb:val (q0f (val b))=val b:=q0m _
 have hla':=q1G ha
 have hlb':=q1G hb
 refine q0g (fn:=qfp) rfl (q0a ?_)
 refine gg rfl (q02 rfl rfl (q2G a (by omega)) ?_)
 refine gg rfl (q02 rfl rfl (q2G b (by omega)) ?_)
 refine gg rfl ?_
 have hAo:LOk (q0f (val a)):=q0A _
 have hBo:LOk (q0f (val b)):=q0A _
 generalize q0f (val a)=A at*
 generalize q0f (val b)=B at*
 have w0:IntKind.i64.wrap (((A.map u32).length:Int)+((B.map u32).length:Int))=((A.length+B.length:Nat):Int):=by rw[List.length_map,List.length_map,wrap64 (by omega) (by omega)];omega
 rw[w0]
 refine q3O (A.length+B.length) rfl rfl rfl (by simp[q0M];omega) ?_
 rw[q7r]
 refine gg rfl ?_
 refine q0l (S:=fun x:Nat×List Nat=>([nat B,.ref 1 0 (A.length+B.length),nat A,q00 A.length,q00 x.1],[none,some (.row (x.2.map u32) 1),none,none,none],[0,0,0,0,0]))
  (C:=fun x=>x.1≤A.length∧x.2.length=A.length+B.length∧LOk x.2∧val x.2=val (A.take x.1) *val B∧∀j,x.1+B.length≤j→dg x.2 j=0) (m:=fun x=>A.length-x.1) (0,List.replicate (A.length+B.length) 0)
  ⟨Nat.zero_le _,by simp,q54 _,by simp[val,qaC],fun j _=>q6V _ _⟩ (by simp;omega) ?_ ?_
 ·exact q03 rfl ⟨q05 q0t _,trivial⟩ (by simp[nat,q00])
 rintro⟨k,r⟩ ⟨hk,hr,hro,hinv,hz⟩ N hN
 simp only at hk hr hro hinv hz
 refine gg rfl (q01 rfl (fun h2=>?_) (fun h2=>?_))
 ·rw[q06]at h2
  have hlt:k<A.length:=by omega
  have hx:=q1k hAo k
  have w1:=wS (n:=k)
  refine gg rfl (q0i k rfl rfl rfl (q2z hlt) rfl (gg rfl ?_))
  refine q0l (S:=fun x:Nat×List Nat×Nat=>([nat B,.ref 1 0 (A.length+B.length),q00 k,u32 (dg A k),.int .u64 x.2.2,nat A,q00 A.length,q00 k,nat B,q00 B.length,q00 x.1],[none,some (.row (x.2.1.map u32) 1),none,none,none,none,none,none,none,none,none],[0,0,0,0,0,0,0,0,0,0,0]))
   (C:=fun x=>x.1≤B.length∧x.2.1.length=A.length+B.length∧LOk x.2.1∧x.2.2<4294967296∧val x.2.1+4294967296^(k+x.1) *x.2.2=val r+4294967296^k*(dg A k*val (B.take x.1))∧∀j,k+x.1≤j→dg x.2.1 j=dg r j) (m:=fun x=>B.length-x.1) (0,r,0)
   ⟨Nat.zero_le _,hr,hro,by simp,by simp[val],fun j _=>rfl⟩ (by simp;omega) ?_ ?_
  ·exact q03 rfl ⟨q05 q0t _,trivial⟩ (by simp[nat,q00,u32])
  rintro⟨i,r',c⟩ ⟨hi,hr',hro',hc,hinv',hz'⟩ N2 hN2
  simp only at hi hr' hro' hc hinv' hz'
  refine gg rfl (q01 rfl (fun h3=>?_) (fun h3=>?_))
  ·rw[q06]at h3
   have hil:i<B.length:=by omega
   have hy:=q1k hBo i
   have hq:=q1k hro' (k+i)
   have hxy:=qaE hx hy
   have wi:=wS (n:=i)
   have wki:IntKind.i64.wrap ((k:Int)+i)=((k+i:Nat):Int):=by rw[wrap64 (by omega) (by omega)];omega
   refine gg rfl (q0i i rfl rfl rfl (q2z hil) rfl (gg rfl (q0F (k+i) rfl rfl rfl rfl wki (by omega) ?_)))
   refine gg rfl (q4l r' (k+i) rfl (Nat.zero_add _) rfl (by omega) ?_)
   refine gg rfl ?_
   have e1:((dg A k*dg B i:Nat):Int)=(dg A k:Int) *(dg B i:Int):=by simp
   have e:IntKind.u64.wrap ((c:Int)+IntKind.u64.wrap (IntKind.u64.wrap (IntKind.u64.wrap (dg A k:Int) *IntKind.u64.wrap (dg B i:Int))+IntKind.u64.wrap (dg r' (k+i):Int)))=((c+(dg A k*dg B i+dg r' (k+i)):Nat):Int):=by
    rw[q0C (n:=dg A k) (by omega),q0C (n:=dg B i) (by omega),q0C (n:=dg r' (k+i)) (by omega),←e1,q0C (n:=dg A k*dg B i) (by omega)]
    simp only[q0T];omega
   rw[e,q11]
   refine q0F (k+i) rfl rfl rfl rfl wki (by omega) ?_
   refine gg rfl (q1X r' (k+i) ((c+(dg A k*dg B i+dg r' (k+i)))%4294967296) rfl rfl (Nat.zero_add _) rfl rfl (Nat.zero_le _) (by omega) ?_)
   refine gg rfl (q17 (c+(dg A k*dg B i+dg r' (k+i))) 32 rfl rfl rfl rfl (by decide) ?_)
   refine gg rfl (q04 (hN2 (i+1,r'.set (k+i) ((c+(dg A k*dg B i+dg r' (k+i)))%4294967296),(c+(dg A k*dg B i+dg r' (k+i)))/2^32) ⟨hil,by simp[hr'],hro'.set _ (by omega),by simp only;omega,?_,?_⟩ (by simp only;omega) (q03 rfl ⟨q05 q0t _,trivial⟩ (by simp[nat,q00,wi,u32]))))
   ·simp only
    have hs:=qic (l:=r') (i:=k+i) (v:=(c+(dg A k*dg B i+dg r' (k+i)))%4294967296) (by omega)
    have hcar:=q4k (4294967296^(k+i)) (c+(dg A k*dg B i+dg r' (k+i)))
    rw[show(2:Nat)^32=4294967296 by decide,q0Q,show k+(i+1)=(k+i)+1 from rfl,Nat.pow_succ,Nat.mul_add (dg A k),Nat.mul_add (4294967296^k)]
    rw[Nat.mul_add (4294967296^(k+i)) c,Nat.mul_add (4294967296^(k+i)) (dg A k*dg B i)]at hcar
    have e5:4294967296^k*(dg A k*(4294967296^i*dg B i))=4294967296^(k+i) *(dg A k*dg B i):=by
     rw[Nat.pow_add,Nat.mul_left_comm (dg A k),←Nat.mul_assoc]
    rw[e5]
    omega
   intro j hj
   simp only at hj⊢
   rw[q3d,if_neg (by omega)]
   exact hz' j (by omega)
  rw[q07]at h3
  obtain rfl:i=B.length:=by omega
  rw[List.take_length]at hinv'
  have wkb:IntKind.i64.wrap ((k:Int)+(B.map u32).length)=((k+B.length:Nat):Int):=by rw[List.length_map,wrap64 (by omega) (by omega)];omega
  have ec:IntKind.u32.wrap (c:Int)=(c:Int):=by rw[q11];omega
  refine gg rfl (q04 (gg rfl ?_))
  rw[ec]
  refine q0F (k+B.length) rfl rfl rfl rfl wkb (by omega) ?_
  refine gg rfl (q1X r' (k+B.length) c rfl rfl (Nat.zero_add _) rfl rfl (Nat.zero_le _) (by omega) ?_)
  refine gg rfl (q04 ?_)
  have hd0:dg r' (k+B.length)=0:=by rw[hz' _ (Nat.le_refl _)];exact hz _ (Nat.le_refl _)
  have hs:=qic (l:=r') (i:=k+B.length) (v:=c) (by omega)
  rw[hd0,Nat.mul_zero,Nat.add_zero]at hs
  refine hN (k+1,r'.set (k+B.length) c) ⟨hlt,by simp[hr'],hro'.set _ hc,?_,?_⟩ (by simp only;omega) (q03 rfl ⟨q05 q0t _,trivial⟩ (by simp[nat,q00,w1]))
  ·simp only
   rw[hs,hinv',hinv,q0Q,Nat.add_mul,Nat.mul_assoc]
  intro j hj
  simp only at hj⊢
  rw[q3d,if_neg (by omega),hz' j (by omega)]
  exact hz j (by omega)
 rw[q07]at h2
 obtain rfl:k=A.length:=by omega
 rw[List.take_length]at hinv
 refine gg rfl (q04 (gg rfl ?_))
 have hp:=q2G r (by omega)
 rw[hinv,ea,eb]at hp
 refine q1R rfl rfl ⟨q3J (l:=r) hr.symm,trivial⟩ (by rw[q44 (l:=r) hr.symm];exact hp) fun z=>?_
 exact gg rfl (q08 rfl rfl rfl trivial rfl)
end Go.F

namespace Go.F
attribute [local irreducible] IntKind.wrap wpM
section
variable {T:Tab}{sh:Shr}{nx0:Nat}{s:List Fr}{t:q0x}{h:q0d}{z:Frz}{nx:Nat}{q:Ex→q0x→q0d→Frz→Nat→Prop}
variable {base i:Nat}{res:List Nat}{dst:Nat}{g:Gd}{rest:List KOper}
end
theorem q7C (w n:Nat):BitVec.ofInt w (n:Int)=BitVec.ofNat w n:=by simp
theorem qBa {a b:Nat}(ha:a<4294967296)(hb:b<4294967296):IntKind.u64.wrap ((BitVec.ofInt IntKind.u64.bits ((a*2^32:Nat):Int) |||BitVec.ofInt IntKind.u64.bits (b:Int)).toNat:Int)=((a*4294967296+b:Nat):Int):=by
 rw[q7C,q7C,BitVec.toNat_or,BitVec.toNat_ofNat,BitVec.toNat_ofNat]
 have e:IntKind.u64.bits=64:=rfl
 rw[e,Nat.mod_eq_of_lt (by omega),Nat.mod_eq_of_lt (by omega),Nat.mul_comm a,←Nat.two_pow_add_eq_or_of_lt (by omega),q0C (by omega)]
theorem orU64' {a b:Nat}(ha:a<4294967296)(hb:b<4294967296):IntKind.u64.wrap ((BitVec.ofInt IntKind.u64.bits (b:Int) |||BitVec.ofInt IntKind.u64.bits ((a*2^32:Nat):Int)).toNat:Int)=((a*4294967296+b:Nat):Int):=by
 rw[BitVec.or_comm];exact qBa ha hb
set_option maxHeartbeats 2000000 in
theorem qFo (a:List Nat)(d:Nat) [ha:LOk a](hla:a.length≤1000000000)(hd0:d≠0)(hd:d<4294967296):PU qml [nat a,.int .u32 d]=some (.tup [nat (q0f (val a/d)),.int .u32 (val a%d:Nat)]):=by
 refine q0g (fn:=qc5) rfl (q0a ?_)
 refine gg rfl (q3O a.length rfl rfl (by simp) (by simp[q0M];omega) ?_)
 rw[q7r]
 refine gg rfl ?_
 refine q0l (S:=fun x:Nat×List Nat×Nat=>([nat a,.int .u32 d,.ref 2 0 a.length,.int .u64 x.2.2,q00 ((x.1:Int)-1)],[none,none,some (.row (x.2.1.map u32) 1),none,none],[0,0,0,0,0]))
  (C:=fun x=>x.1≤a.length∧x.2.1.length=a.length∧LOk x.2.1∧x.2.2<d∧val (a.drop x.1)=val (x.2.1.drop x.1) *d+x.2.2) (m:=fun x=>x.1) (a.length,List.replicate a.length 0,0)
  ⟨Nat.le_refl _,by simp,q54 _,Nat.pos_of_ne_zero hd0,by simp[val]⟩ (by simp;omega) ?_ ?_
 ·refine q03 rfl ⟨q05 q0t _,trivial⟩ ?_
  have w:=ww (x:=(a.length:Int)-1)
  simp[nat,q00,w]
 rintro⟨n,q,r⟩ ⟨hn,hq,hqo,hr,hinv⟩ N hN
 simp only at hn hq hqo hr hinv
 refine gg rfl (q01 rfl (fun h2=>?_) (fun h2=>?_))
 ·rw[q0G]at h2
  simp only at h2
  have hx:=q1k ha (n-1)
  have hw:IntKind.u64.wrap (dg a (n-1):Int)=(dg a (n-1):Int):=q0C (by omega)
  have hwd:IntKind.u64.wrap (d:Int)=(d:Int):=q0C (by omega)
  have w2:IntKind.i64.wrap ((n:Int)-1-1)=((n-1:Nat):Int)-1:=by rw[wrap64 (by omega) (by omega)];omega
  have htd:(r*4294967296+dg a (n-1))/d<4294967296:=by
   rw[Nat.div_lt_iff_lt_mul (by omega)]
   calc r*4294967296+dg a (n-1)<(r+1) *4294967296:=by omega
    _≤d*4294967296:=Nat.mul_le_mul_right _ hr
    _=4294967296*d:=Nat.mul_comm _ _
  have htm:(r*4294967296+dg a (n-1))%d<d:=Nat.mod_lt _ (by omega)
  refine gg rfl (q6w r 32 rfl rfl rfl rfl (by decide) (q0C (by omega)) ?_)
  refine gg rfl (q0i (n-1) rfl rfl (by omega) (q2z (by omega)) rfl ?_)
  refine gg rfl ?_
  rw[hw,qBa (by omega) hx]
  refine gg rfl ?_
  rw[hwd]
  refine q2Z (r*4294967296+dg a (n-1)) d rfl rfl rfl rfl hd0 (q0C (by omega)) ?_
  refine gg rfl ?_
  rw[q11,Nat.mod_eq_of_lt htd]
  refine q0F (n-1) rfl rfl rfl rfl (by omega) (by omega) ?_
  refine gg rfl (q1X q (n-1) ((r*4294967296+dg a (n-1))/d) rfl rfl (Nat.zero_add _) rfl rfl (Nat.zero_le _) (by omega) ?_)
  refine gg rfl ?_
  rw[hwd]
  refine q7c (r*4294967296+dg a (n-1)) d rfl rfl rfl rfl hd0 (gg rfl (q04 (hN (n-1,q.set (n-1) ((r*4294967296+dg a (n-1))/d),(r*4294967296+dg a (n-1))%d) ⟨by simp only;omega,by simp[hq],hqo.set _ htd,htm,?_⟩ (by simp only;omega) (q03 rfl ⟨q05 q0t _,trivial⟩ (by simp[nat,q00,w2])))))
  simp only
  rw[q2R,q2R (q.set _ _),q3d,if_pos ⟨rfl,by omega⟩,Nat.sub_add_cancel (by omega),List.drop_set_of_lt (by omega),hinv]
  have hdm:=Nat.div_add_mod (r*4294967296+dg a (n-1)) d
  rw[Nat.add_mul,Nat.mul_assoc 4294967296,Nat.mul_comm ((r*4294967296+dg a (n-1))/d) d]
  omega
 rw[q0H]at h2
 simp only at h2
 obtain rfl:n=0:=by omega
 simp only[List.drop_zero]at hinv
 refine gg rfl (q04 (gg rfl ?_))
 have hp:=q2G q (by omega)
 have hv1:val q=val a/d:=by rw[hinv,Nat.add_comm,Nat.add_mul_div_right _ _ (by omega),Nat.div_eq_of_lt hr,Nat.zero_add]
 have hv2:val a%d=r:=by rw[hinv,Nat.add_comm,Nat.add_mul_mod_self_right,Nat.mod_eq_of_lt hr]
 rw[hv1]at hp
 refine q1R rfl rfl ⟨q3J (l:=q) hq.symm,trivial⟩ (by rw[q44 (l:=q) hq.symm];exact hp) fun z=>?_
 refine gg rfl (q08 rfl rfl rfl trivial ?_)
 have e:IntKind.u32.wrap (r:Int)=(r:Int):=by rw[q11];omega
 rw[e,hv2]
 rfl
theorem qCJ {l:List Nat}{V:Nat}(h:∀j,j<l.length→dg l j=V/4294967296^j%4294967296):val l=V%4294967296^l.length:=by
 have key:∀k,k≤l.length→val (l.take k)=V%4294967296^k:=by
  intro k
  induction k with
  |zero=>intro _;simp[val,Nat.mod_one]
  |succ k ih=>intro hk;rw[q0Q,ih (by omega),h k hk,Nat.mod_pow_succ]
 have:=key l.length (Nat.le_refl _)
 rwa[List.take_length]at this
theorem qFp {a:List Nat}(ha:LOk a){s:Nat}(hs:s≤31)(i:Nat):(dg a (i+1) *4294967296+dg a i)/2^s%4294967296=val a/2^s/4294967296^i%4294967296:=by
 have h1:val a/4294967296^i=dg a i+4294967296*(dg a (i+1)+4294967296*val (a.drop (i+2))):=by
  rw[←q2R a (i+1),←q2R a i]
  have:=q2M a i
  have h2:val (a.take i)<4294967296^i∨a.length≤i:=by
   by_cases hl:i≤a.length
   ·left
    have:=q2Y (ha.take i)
    rwa[List.length_take,Nat.min_eq_left hl]at this
   right;omega
  rcases h2 with h2|h2
  ·rw[this,Nat.add_mul_div_left _ _ (Nat.pow_pos (by decide)),Nat.div_eq_of_lt h2,Nat.zero_add]
  rw[List.drop_of_length_le h2,Nat.div_eq_of_lt]
  ·rfl
  exact Nat.lt_of_lt_of_le (q2Y ha) (Nat.pow_le_pow_right (by decide) h2)
 rw[Nat.div_div_eq_div_mul,Nat.mul_comm (2^s),←Nat.div_div_eq_div_mul,h1]
 generalize val (a.drop (i+2))=R
 have e:(18446744073709551616:Nat)=2^s*(4294967296*2^(32-s)):=by
  rw[Nat.mul_left_comm,←Nat.pow_add,show s+(32-s)=32 by omega]
 have e2:dg a i+4294967296*(dg a (i+1)+4294967296*R)=(dg a (i+1) *4294967296+dg a i)+2^s*(4294967296*2^(32-s) *R):=by
  rw[←Nat.mul_assoc (2^s),←e];omega
 rw[e2,Nat.add_mul_div_left _ _ (Nat.two_pow_pos s),Nat.mul_assoc,Nat.add_mul_mod_self_left]
set_option maxHeartbeats 2000000 in
theorem qjs (a:List Nat)(s:Nat) [ha:LOk a](hla:a.length≤1000000000)(hs:s≤31):PU qmm [nat a,.int .i64 s]=some (nat (q0f (val a/2^s))):=by
 refine q0g (fn:=qc7) rfl (q0a ?_)
 refine gg rfl (q3O a.length rfl rfl (by simp) (by simp[q0M];omega) ?_)
 rw[q7r]
 refine gg rfl ?_
 refine q0l (S:=fun x:Nat×List Nat=>([nat a,q00 s,.ref 2 0 a.length,nat a,q00 a.length,q00 x.1],[none,none,some (.row (x.2.map u32) 1),none,none,none],[0,0,0,0,0,0]))
  (C:=fun x=>x.1≤a.length∧x.2.length=a.length∧LOk x.2∧∀j,j<x.1→dg x.2 j=val a/2^s/4294967296^j%4294967296) (m:=fun x=>a.length-x.1) (0,List.replicate a.length 0)
  ⟨Nat.zero_le _,by simp,q54 _,fun j hj=>by simp at hj⟩ (by simp;omega) ?_ ?_
 ·exact q03 rfl ⟨q05 q0t _,trivial⟩ (by simp[nat,q00])
 rintro⟨k,r⟩ ⟨hk,hr,hro,hinv⟩ N hN
 simp only at hk hr hro hinv
 refine gg rfl (q01 rfl (fun h2=>?_) (fun h2=>?_))
 ·rw[q06]at h2
  have hlt:k<a.length:=by omega
  have hx:=q1k ha k
  have hy:=q1k ha (k+1)
  have hw:IntKind.u64.wrap (dg a k:Int)=(dg a k:Int):=q0C (by omega)
  have hwy:IntKind.u64.wrap (dg a (k+1):Int)=(dg a (k+1):Int):=q0C (by omega)
  have w1:=wS (n:=k)
  refine gg rfl (q0i k rfl rfl rfl (q2z hlt) rfl (gg rfl ?_))
  rw[List.length_map,hw]
  refine q01 rfl (fun h3=>?_) (fun h3=>?_)
  ·rw[q06,w1]at h3
   refine gg rfl (q0i (k+1) rfl rfl w1 (q2z (by omega)) rfl ?_)
   refine gg rfl ?_
   rw[hwy]
   refine q6w (dg a (k+1)) 32 rfl rfl rfl rfl (by decide) (q0C (by omega)) ?_
   refine gg rfl ?_
   rw[orU64' hy hx]
   refine gg rfl (q17 (dg a (k+1) *4294967296+dg a k) s rfl rfl rfl rfl (by show s≤64;omega) ?_)
   refine gg rfl ?_
   rw[q11]
   refine q0F k rfl rfl rfl rfl rfl hlt (gg rfl (q1X r k ((dg a (k+1) *4294967296+dg a k)/2^s%4294967296) rfl rfl (Nat.zero_add _) rfl rfl (Nat.zero_le _) (by omega) ?_))
   refine gg rfl (q04 (hN (k+1,r.set k ((dg a (k+1) *4294967296+dg a k)/2^s%4294967296)) ⟨hlt,by simp[hr],hro.set _ (Nat.mod_lt _ (by decide)),?_⟩ (by simp only;omega) (q03 rfl ⟨q05 q0t _,trivial⟩ (by simp[nat,q00,w1]))))
   intro j hj
   simp only at hj⊢
   rw[q3d]
   by_cases hjk:k=j
   ·subst hjk
    rw[if_pos ⟨rfl,by omega⟩]
    rw[←qFp ha hs]
    try rw[q7l (l:=a) (i:=k+1) (by omega),Nat.zero_mul,Nat.zero_add]
   rw[if_neg (by omega)]
   exact hinv j (by omega)
  rw[q07,w1]at h3
  refine gg rfl (q17 (dg a k) s rfl rfl rfl rfl (by show s≤64;omega) ?_)
  refine gg rfl ?_
  rw[q11]
  refine q0F k rfl rfl rfl rfl rfl hlt (gg rfl (q1X r k ((dg a k)/2^s%4294967296) rfl rfl (Nat.zero_add _) rfl rfl (Nat.zero_le _) (by omega) ?_))
  refine gg rfl (q04 (hN (k+1,r.set k ((dg a k)/2^s%4294967296)) ⟨hlt,by simp[hr],hro.set _ (Nat.mod_lt _ (by decide)),?_⟩ (by simp only;omega) (q03 rfl ⟨q05 q0t _,trivial⟩ (by simp[nat,q00,w1]))))
  intro j hj
  simp only at hj⊢
  rw[q3d]
  by_cases hjk:k=j
  ·subst hjk
   rw[if_pos ⟨rfl,by omega⟩]
   rw[←qFp ha hs]
   try rw[q7l (l:=a) (i:=k+1) (by omega),Nat.zero_mul,Nat.zero_add]
  rw[if_neg (by omega)]
  exact hinv j (by omega)
 rw[q07]at h2
 simp only at h2
 obtain rfl:k=a.length:=by omega
 refine gg rfl (q04 (gg rfl ?_))
 have hp:=q2G r (by omega)
 have hv:val r=val a/2^s:=by
  rw[qCJ (fun j hj=>hinv j (by omega)),hr,Nat.mod_eq_of_lt]
  exact Nat.lt_of_le_of_lt (Nat.div_le_self _ _) (q2Y ha)
 rw[hv]at hp
 refine q1R rfl rfl ⟨q3J (l:=r) hr.symm,trivial⟩ (by rw[q44 (l:=r) hr.symm];exact hp) fun z=>?_
 exact gg rfl (q08 rfl rfl rfl trivial rfl)
end Go.F

namespace Go.F
attribute [local irreducible] IntKind.wrap wpM
section
variable {T:Tab}{sh:Shr}{nx0:Nat}{s:List Fr}{t:q0x}{h:q0d}{z:Frz}{nx:Nat}{q:Ex→q0x→q0d→Frz→Nat→Prop}
theorem qp5 {fn:KFn}{ex:Ex}{d:D}{K:D→q0d→Frz→Nat→Prop}(hex:(match ex with|.exit _=>false|_=>true)=true)(hd:dres t h fn.res=some d)(hk:K d h z nx):
 wpM T sh nx0 [] ex t h z nx (qeT fn K):=by
 refine q04 ?_
 cases ex with
 |exit i=>cases hex
 |normal=>exact q6v hd hk
 |ret=>exact q6v hd hk
end
theorem q8u {h:q0d}{id:Nat}{l:List Nat}(hh:h id=some (.row (l.map u32) 1)):q1e h id=some (.row (l.map u32) 1):=by
 unfold q1e
 rw[hh]
 simp only[q1d,q05 q0t]
 rfl
theorem orU32 {c x s:Nat}(hs:s≤31)(hc:c<2^s):IntKind.u32.wrap ((BitVec.ofInt IntKind.u32.bits (c:Int) |||BitVec.ofInt IntKind.u32.bits ((x*2^s%4294967296:Nat):Int)).toNat:Int)=((c+x*2^s%4294967296:Nat):Int)
 ∧c+x*2^s%4294967296<4294967296:=by
 have e:(4294967296:Nat)=2^s*2^(32-s):=by rw[←Nat.pow_add,show s+(32-s)=32 by omega]
 have em:x*2^s%4294967296=2^s*(x%2^(32-s)):=by rw[e,Nat.mul_comm x,Nat.mul_mod_mul_left]
 have hx:x%2^(32-s)+1≤2^(32-s):=Nat.mod_lt _ (Nat.two_pow_pos _)
 have hlt:c+x*2^s%4294967296<4294967296:=by
  have:=Nat.mul_le_mul_left (2^s) hx
  rw[←e,Nat.mul_add]at this
  omega
 refine⟨?_,hlt⟩
 have hsp:2^s≤2^31:=Nat.pow_le_pow_right (by decide) hs
 rw[q7C,q7C,BitVec.or_comm,BitVec.toNat_or,BitVec.toNat_ofNat,BitVec.toNat_ofNat]
 have eb:IntKind.u32.bits=32:=rfl
 rw[eb,Nat.mod_eq_of_lt (show x*2^s%4294967296<2^32 by omega),Nat.mod_eq_of_lt (show c<2^32 by omega),em,←Nat.two_pow_add_eq_or_of_lt hc,←em,q11,Nat.mod_eq_of_lt (by omega),Nat.add_comm]
set_option maxHeartbeats 2000000 in
theorem left1 (a:List Nat)(s:Nat) [ha:LOk a](hla:a.length≤1000000000)(hs:s≤31){h:q0d}{z:Frz}{K:D→q0d→Frz→Nat→Prop}(hold:(fun(_:q0d) (_:Frz)=>True) h z)
 (hk:∀(r:List Nat) (h':q0d) (z':Frz),r.length=a.length+1→LOk r→val r=val a*2^s→h' 80=some (.row (r.map u32) 1)→z' 80=0→(fun(_:q0d) (_:Frz)=>True) h' z'→K (.ref 80 0 (a.length+1)) h' z' 130):
 wpM TT (shr TT 5) 79 [.code k_natural_left.code] .normal (enter [nat a,.int .i64 s]) h z 79 (qeT k_natural_left K):=by
 have h2s:2^s≤2147483648:=by simpa using Nat.pow_le_pow_right (n:=2) (by decide) hs
 refine gg rfl ?_
 have w0:IntKind.i64.wrap (((a.map u32).length:Int)+1)=((a.length+1:Nat):Int):=by rw[List.length_map,wrap64 (by omega) (by omega)];omega
 rw[w0]
 refine q3O (a.length+1) rfl rfl rfl (by simp[q0M];omega) ?_
 rw[q7r]
 refine gg rfl ?_
 refine q61 (S:=fun x:Nat×List Nat=>([q00 s,.ref 80 0 (a.length+1),nat a,q00 a.length,q00 x.1],[none,some (.row (x.2.map u32) 1),none,none,none],[0,0,0,0,0]))
  (O:=fun _ ho zo=>(fun(_:q0d) (_:Frz)=>True) ho zo)
  (C:=fun x=>x.1≤a.length∧x.2.length=a.length+1∧LOk x.2∧dg x.2 x.1<2^s∧val (x.2.take x.1)+4294967296^x.1*dg x.2 x.1=val (a.take x.1) *2^s∧∀j,x.1<j→dg x.2 j=0) (m:=fun x=>a.length-x.1) (0,List.replicate (a.length+1) 0)
  ⟨Nat.zero_le _,by simp,q54 _,by simp only[q6V];exact Nat.two_pow_pos s,by simp[val,q6V],fun j _=>q6V _ _⟩ (by simp;omega) ?_ ?_
 ·exact q1S rfl ⟨q05 q0t _,trivial⟩ ⟨by simp[nat,q00],trivial⟩
 rintro⟨k,r⟩ ⟨hk',hr,hro,hc,hinv,hz⟩ ho zo hold N hN
 simp only at hk' hr hro hc hinv hz
 refine gg rfl (q01 rfl (fun h2=>?_) (fun h2=>?_))
 ·rw[q06]at h2
  simp only at h2
  have hlt:k<a.length:=by omega
  have hx:=q1k ha k
  have hw:IntKind.u64.wrap (dg a k:Int)=(dg a k:Int):=q0C (by omega)
  have w1:=wS (n:=k)
  have hxs:dg a k*2^s≤4294967295*2147483648:=Nat.mul_le_mul (by omega) h2s
  obtain⟨ho1,ho2⟩:=orU32 (x:=dg a k) hs hc
  have htop:dg a k*2^s/2^32<2^s:=by
   rw[Nat.div_lt_iff_lt_mul (by decide),Nat.mul_comm];exact Nat.mul_lt_mul_of_pos_left (by omega) (Nat.two_pow_pos s)
  refine gg rfl (q0i k rfl rfl rfl (q2z hlt) rfl (gg rfl ?_))
  rw[hw]
  refine q6w (dg a k) s rfl rfl rfl rfl (by show s≤64;omega) (q0C (by omega)) ?_
  refine gg rfl (q0F k rfl rfl rfl rfl rfl (by omega) ?_)
  refine gg rfl (q4l r k rfl (Nat.zero_add _) rfl (by omega) ?_)
  refine gg rfl ?_
  rw[q11,ho1]
  refine q0F k rfl rfl rfl rfl rfl (by omega) ?_
  refine gg rfl (q1X r k (dg r k+dg a k*2^s%4294967296) rfl rfl (Nat.zero_add _) rfl rfl (Nat.zero_le _) (by omega) ?_)
  refine gg rfl (q17 (dg a k*2^s) 32 rfl rfl rfl rfl (by decide) ?_)
  have e3:IntKind.u32.wrap ((dg a k*2^s/2^32:Nat):Int)=((dg a k*2^s/2^32:Nat):Int):=by rw[q11];omega
  refine gg rfl ?_
  rw[e3]
  refine q0F (k+1) rfl rfl rfl rfl w1 (by omega) ?_
  refine gg rfl (q1X (r.set k (dg r k+dg a k*2^s%4294967296)) (k+1) (dg a k*2^s/2^32) rfl rfl (Nat.zero_add _) rfl rfl (Nat.zero_le _) (by simp;omega) ?_)
  refine gg rfl (q04 ?_)
  refine hN (k+1,(r.set k (dg r k+dg a k*2^s%4294967296)).set (k+1) (dg a k*2^s/2^32)) ⟨hlt,by simp[hr],(hro.set _ ho2).set _ (by omega),?_,?_,?_⟩ (by simp only;omega)
   (q1S rfl ⟨q05 q0t _,trivial⟩ ⟨by simp[nat,q00,w1],trivial⟩)
  ·simp only
   rw[q3d,if_pos ⟨rfl,by simp;omega⟩];exact htop
  ·simp only
   rw[q3d,if_pos ⟨rfl,by simp;omega⟩,List.take_set_of_le (Nat.le_refl _),q2H (by omega),q0Q a,Nat.add_mul,←hinv,show(2:Nat)^32=4294967296 by decide,Nat.pow_succ,Nat.add_assoc,Nat.mul_add,Nat.add_assoc,q4k,Nat.mul_assoc,Nat.add_assoc]
  intro j hj
  simp only at hj⊢
  rw[q3d,if_neg (by omega),q3d,if_neg (by omega)]
  exact hz j (by omega)
 rw[q07]at h2
 simp only at h2
 obtain rfl:k=a.length:=by omega
 rw[List.take_length]at hinv
 refine gg rfl (q04 (gg rfl (qp5 rfl rfl (hk r _ _ hr hro ?_ rfl rfl (trivial)))))
 rw[←hinv,←List.take_of_length_le (l:=r) (i:=a.length+1) (by omega),q0Q]
 rw[List.take_of_length_le (l:=r) (i:=a.length+1) (by omega)]
set_option maxHeartbeats 2000000 in
theorem left2 (a:List Nat)(s:Nat) [ha:LOk a](hla:a.length≤1000000000)(hs:s≤31)(us:List Nat){h:q0d}{z:Frz}{K:D→q0d→Frz→Nat→Prop}(hold:(fun(hh:q0d) (zz:Frz)=>hh 80=some (.row (us.map u32) 1)∧zz 80=0) h z)
 (hk:∀(r:List Nat) (h':q0d) (z':Frz),r.length=a.length+1→LOk r→val r=val a*2^s→h' 131=some (.row (r.map u32) 1)→z' 131=0→(fun(hh:q0d) (zz:Frz)=>hh 80=some (.row (us.map u32) 1)∧zz 80=0) h' z'→K (.ref 131 0 (a.length+1)) h' z' 181):
 wpM TT (shr TT 5) 130 [.code k_natural_left.code] .normal (enter [nat a,.int .i64 s]) h z 130 (qeT k_natural_left K):=by
 have h2s:2^s≤2147483648:=by simpa using Nat.pow_le_pow_right (n:=2) (by decide) hs
 refine gg rfl ?_
 have w0:IntKind.i64.wrap (((a.map u32).length:Int)+1)=((a.length+1:Nat):Int):=by rw[List.length_map,wrap64 (by omega) (by omega)];omega
 rw[w0]
 refine q3O (a.length+1) rfl rfl rfl (by simp[q0M];omega) ?_
 rw[q7r]
 refine gg rfl ?_
 refine q61 (S:=fun x:Nat×List Nat=>([q00 s,.ref 131 0 (a.length+1),nat a,q00 a.length,q00 x.1],[none,some (.row (x.2.map u32) 1),none,none,none],[0,0,0,0,0]))
  (O:=fun _ ho zo=>(fun(hh:q0d) (zz:Frz)=>hh 80=some (.row (us.map u32) 1)∧zz 80=0) ho zo)
  (C:=fun x=>x.1≤a.length∧x.2.length=a.length+1∧LOk x.2∧dg x.2 x.1<2^s∧val (x.2.take x.1)+4294967296^x.1*dg x.2 x.1=val (a.take x.1) *2^s∧∀j,x.1<j→dg x.2 j=0) (m:=fun x=>a.length-x.1) (0,List.replicate (a.length+1) 0)
  ⟨Nat.zero_le _,by simp,q54 _,by simp only[q6V];exact Nat.two_pow_pos s,by simp[val,q6V],fun j _=>q6V _ _⟩ (by simp;omega) ?_ ?_
 ·exact q1S rfl ⟨q05 q0t _,trivial⟩ ⟨by simp[nat,q00],⟨q8u hold.1,hold.2⟩⟩
 rintro⟨k,r⟩ ⟨hk',hr,hro,hc,hinv,hz⟩ ho zo hold N hN
 simp only at hk' hr hro hc hinv hz
 refine gg rfl (q01 rfl (fun h2=>?_) (fun h2=>?_))
 ·rw[q06]at h2
  simp only at h2
  have hlt:k<a.length:=by omega
  have hx:=q1k ha k
  have hw:IntKind.u64.wrap (dg a k:Int)=(dg a k:Int):=q0C (by omega)
  have w1:=wS (n:=k)
  have hxs:dg a k*2^s≤4294967295*2147483648:=Nat.mul_le_mul (by omega) h2s
  obtain⟨ho1,ho2⟩:=orU32 (x:=dg a k) hs hc
  have htop:dg a k*2^s/2^32<2^s:=by
   rw[Nat.div_lt_iff_lt_mul (by decide),Nat.mul_comm];exact Nat.mul_lt_mul_of_pos_left (by omega) (Nat.two_pow_pos s)
  refine gg rfl (q0i k rfl rfl rfl (q2z hlt) rfl (gg rfl ?_))
  rw[hw]
  refine q6w (dg a k) s rfl rfl rfl rfl (by show s≤64;omega) (q0C (by omega)) ?_
  refine gg rfl (q0F k rfl rfl rfl rfl rfl (by omega) ?_)
  refine gg rfl (q4l r k rfl (Nat.zero_add _) rfl (by omega) ?_)
  refine gg rfl ?_
  rw[q11,ho1]
  refine q0F k rfl rfl rfl rfl rfl (by omega) ?_
  refine gg rfl (q1X r k (dg r k+dg a k*2^s%4294967296) rfl rfl (Nat.zero_add _) rfl rfl (Nat.zero_le _) (by omega) ?_)
  refine gg rfl (q17 (dg a k*2^s) 32 rfl rfl rfl rfl (by decide) ?_)
  have e3:IntKind.u32.wrap ((dg a k*2^s/2^32:Nat):Int)=((dg a k*2^s/2^32:Nat):Int):=by rw[q11];omega
  refine gg rfl ?_
  rw[e3]
  refine q0F (k+1) rfl rfl rfl rfl w1 (by omega) ?_
  refine gg rfl (q1X (r.set k (dg r k+dg a k*2^s%4294967296)) (k+1) (dg a k*2^s/2^32) rfl rfl (Nat.zero_add _) rfl rfl (Nat.zero_le _) (by simp;omega) ?_)
  refine gg rfl (q04 ?_)
  refine hN (k+1,(r.set k (dg r k+dg a k*2^s%4294967296)).set (k+1) (dg a k*2^s/2^32)) ⟨hlt,by simp[hr],(hro.set _ ho2).set _ (by omega),?_,?_,?_⟩ (by simp only;omega)
   (q1S rfl ⟨q05 q0t _,trivial⟩ ⟨by simp[nat,q00,w1],⟨q8u hold.1,hold.2⟩⟩)
  ·simp only
   rw[q3d,if_pos ⟨rfl,by simp;omega⟩];exact htop
  ·simp only
   rw[q3d,if_pos ⟨rfl,by simp;omega⟩,List.take_set_of_le (Nat.le_refl _),q2H (by omega),q0Q a,Nat.add_mul,←hinv,show(2:Nat)^32=4294967296 by decide,Nat.pow_succ,Nat.add_assoc,Nat.mul_add,Nat.add_assoc,q4k,Nat.mul_assoc,Nat.add_assoc]
  intro j hj
  simp only at hj⊢
  rw[q3d,if_neg (by omega),q3d,if_neg (by omega)]
  exact hz j (by omega)
 rw[q07]at h2
 simp only at h2
 obtain rfl:k=a.length:=by omega
 rw[List.take_length]at hinv
 refine gg rfl (q04 (gg rfl (qp5 rfl rfl (hk r _ _ hr hro ?_ rfl rfl (hold)))))
 rw[←hinv,←List.take_of_length_le (l:=r) (i:=a.length+1) (by omega),q0Q]
 rw[List.take_of_length_le (l:=r) (i:=a.length+1) (by omega)]
end Go.F

namespace Go.F
attribute [local irreducible] IntKind.wrap wpM
theorem qFq (x:Nat)(hx:x<4294967296):∃L:Nat,PU qtP [.int .u32 x]=some (.int .i64 L)∧L≤32∧x<2^L∧(x≠0→2^L≤2*x):=by
 by_cases h1:65536≤x
 ·by_cases h2:256≤x/2^16
  ·have hy:x/2^16/2^8<256:=by omega
   obtain⟨_,g2,g3,g4⟩:=q2g (x/2^16/2^8) hy
   refine⟨24+(q2t (x/2^16/2^8)).toNat,?_,by omega,?_,fun h0=>?_⟩
   ·refine q0g (fn:=q5Q) rfl (q0a ?_)
    refine gg rfl (q01 rfl (fun g=>?_) (fun g=>?_))
    ·refine gg rfl (q17 x 16 rfl rfl rfl rfl (by decide) ?_)
     refine gg rfl (q01 rfl (fun g=>?_) (fun g=>?_))
     ·refine gg rfl (q17 (x/2^16) 8 rfl rfl rfl rfl (by decide) ?_)
      have hy:(x/2^16/2^8)<256:=by omega
      obtain⟨_,g2,g3,g4⟩:=q2g ((x/2^16/2^8)) hy
      have w8:IntKind.u8.wrap (((x/2^16/2^8):Nat):Int)=(((x/2^16/2^8):Nat):Int):=by simp[IntKind.wrap,IntKind.bits,IntKind.signed];omega
      have w9:=ww (x:=(((q2t ((x/2^16/2^8))).toNat:Nat):Int))
      refine gg rfl (q2d ((x/2^16/2^8)) rfl rfl w8 (q5i hy) (gg rfl (q08 rfl rfl rfl trivial ?_)))
      rw[w9]
      congr 1
      rw[wrap64 (x:=16+8) (by omega) (by omega),wrap64 (by omega) (by omega)]
      omega
     rw[q0H]at g;omega
    rw[q0H]at g;omega
   ·rw[Nat.pow_add];omega
   have:=g4 (by omega);rw[Nat.pow_add];omega
  have hy:x/2^16<256:=by omega
  obtain⟨_,g2,g3,g4⟩:=q2g (x/2^16) hy
  refine⟨16+(q2t (x/2^16)).toNat,?_,by omega,?_,fun h0=>?_⟩
  ·refine q0g (fn:=q5Q) rfl (q0a ?_)
   refine gg rfl (q01 rfl (fun g=>?_) (fun g=>?_))
   ·refine gg rfl (q17 x 16 rfl rfl rfl rfl (by decide) ?_)
    refine gg rfl (q01 rfl (fun g=>?_) (fun g=>?_))
    ·rw[q0G]at g;omega
    have hy:(x/2^16)<256:=by omega
    obtain⟨_,g2,g3,g4⟩:=q2g ((x/2^16)) hy
    have w8:IntKind.u8.wrap (((x/2^16):Nat):Int)=(((x/2^16):Nat):Int):=by simp[IntKind.wrap,IntKind.bits,IntKind.signed];omega
    have w9:=ww (x:=(((q2t ((x/2^16))).toNat:Nat):Int))
    refine gg rfl (q2d ((x/2^16)) rfl rfl w8 (q5i hy) (gg rfl (q08 rfl rfl rfl trivial ?_)))
    rw[w9]
    congr 1
    rw[wrap64 (by omega) (by omega)]
    omega
   rw[q0H]at g;omega
  ·rw[Nat.pow_add];omega
  have:=g4 (by omega);rw[Nat.pow_add];omega
 by_cases h2:256≤x
 ·have hy:x/2^8<256:=by omega
  obtain⟨_,g2,g3,g4⟩:=q2g (x/2^8) hy
  refine⟨8+(q2t (x/2^8)).toNat,?_,by omega,?_,fun h0=>?_⟩
  ·refine q0g (fn:=q5Q) rfl (q0a ?_)
   refine gg rfl (q01 rfl (fun g=>?_) (fun g=>?_))
   ·rw[q0G]at g;omega
   refine gg rfl (q01 rfl (fun g=>?_) (fun g=>?_))
   ·refine gg rfl (q17 x 8 rfl rfl rfl rfl (by decide) ?_)
    have hy:(x/2^8)<256:=by omega
    obtain⟨_,g2,g3,g4⟩:=q2g ((x/2^8)) hy
    have w8:IntKind.u8.wrap (((x/2^8):Nat):Int)=(((x/2^8):Nat):Int):=by simp[IntKind.wrap,IntKind.bits,IntKind.signed];omega
    have w9:=ww (x:=(((q2t ((x/2^8))).toNat:Nat):Int))
    refine gg rfl (q2d ((x/2^8)) rfl rfl w8 (q5i hy) (gg rfl (q08 rfl rfl rfl trivial ?_)))
    rw[w9]
    congr 1
    rw[wrap64 (x:=0+8) (by omega) (by omega),wrap64 (by omega) (by omega)]
    omega
   rw[q0H]at g;omega
  ·rw[Nat.pow_add];omega
  have:=g4 (by omega);rw[Nat.pow_add];omega
 have hy:x<256:=by omega
 obtain⟨_,g2,g3,g4⟩:=q2g x hy
 refine⟨(q2t x).toNat,?_,by omega,g3,g4⟩
 refine q0g (fn:=q5Q) rfl (q0a ?_)
 refine gg rfl (q01 rfl (fun g=>?_) (fun g=>?_))
 ·rw[q0G]at g;omega
 refine gg rfl (q01 rfl (fun g=>?_) (fun g=>?_))
 ·rw[q0G]at g;omega
 have hy:x<256:=by omega
 obtain⟨_,g2,g3,g4⟩:=q2g (x) hy
 have w8:IntKind.u8.wrap ((x:Nat):Int)=((x:Nat):Int):=by simp[IntKind.wrap,IntKind.bits,IntKind.signed];omega
 have w9:=ww (x:=(((q2t (x)).toNat:Nat):Int))
 refine gg rfl (q2d (x) rfl rfl w8 (q5i hy) (gg rfl (q08 rfl rfl rfl trivial ?_)))
 rw[w9]
 congr 1
 rw[wrap64 (by omega) (by omega)]
 omega
theorem qid (x:Nat)(hx:x<4294967296)(h0:x≠0):∃s:Nat,PU qcu [.int .u32 x]=some (.int .i64 s)∧s≤31∧2147483648≤x*2^s∧(x+1) *2^s≤4294967296:=by
 obtain⟨L,h1,h2,h3,h4⟩:=qFq x hx
 have h4:=h4 h0
 have hL:L≠0:=by rintro rfl;simp at h3;exact h0 h3
 refine⟨32-L,?_,by omega,?_,?_⟩
 ·refine q0g (fn:=q6a) rfl (q0a ?_)
  refine gg rfl (q02 rfl rfl h1 (gg rfl (q08 rfl rfl rfl trivial ?_)))
  congr 1
  rw[wrap64 (by omega) (by omega)]
  omega
 ·have e:2^L*2^(32-L)=4294967296:=by rw[←Nat.pow_add,show L+(32-L)=32 by omega]
  have:=Nat.mul_le_mul_right (2^(32-L)) h4
  rw[e,Nat.mul_assoc]at this
  omega
 have e:2^L*2^(32-L)=4294967296:=by rw[←Nat.pow_add,show L+(32-L)=32 by omega]
 rw[←e]
 exact Nat.mul_le_mul_right _ h3
end Go.F

namespace Go.F
attribute [local irreducible] IntKind.wrap wpM
theorem dg_mid {pre w post:List Nat}{k:Nat}(h:k<w.length):dg (pre++w++post) (pre.length+k)=dg w k:=by
 rw[qp2 (by simp;omega),qmp (by omega)]
 congr 1;omega
theorem set_mid {pre w post:List Nat}{k v:Nat}(h:k<w.length):(pre++w++post).set (pre.length+k) v=pre++w.set k v++post:=by
 rw[List.set_append_left _ _ (by simp;omega),List.set_append_right _ _ (by omega)]
 congr 3;omega
section
variable {T:Tab}{sh:Shr}{nx0:Nat}{s:List Fr}{t:q0x}{h:q0d}{z:Frz}{nx:Nat}{q:Ex→q0x→q0d→Frz→Nat→Prop}
variable {base i:Nat}{res:List Nat}{g:Gd}{rest:List KOper}
theorem q55 {hint:Bool}{a v:X}{dst:Option Nat}{id k':Nat}{w':Int}(pre w post:List Nat)(k x:Nat)(ha:a.ev t=.ptr id k' 0)(hv:v.ev t=.int .u32 w')(hkk:k'=pre.length+k)(hw:w'=x)(hr:g.h base h id=some (.row ((pre++w++post).map u32) 1))(hz:g.z base z id=0)(hl:k<w.length)
 (hk:wpM T sh nx0 (.ops base res rest::s) .normal (put t dst (.tup [])) (upd h id (some (.row ((pre++w.set k x++post).map u32) 1))) z nx q):
 wpM T sh nx0 (.ops base res (⟨i,dst,none,g,.store hint 1 a v⟩::rest)::s) .normal t h z nx q:=by
 refine q1X (pre++w++post) (pre.length+k) x ha hv hkk hw hr (by omega) (by simp;omega) ?_
 rw[set_mid hl]
 exact hk
theorem q5X {hint:Bool}{a:X}{dst:Nat}{id k':Nat}(pre w post:List Nat)(k:Nat)(ha:a.ev t=.ptr id k' 0)(hkk:k'=pre.length+k)(hr:g.h base h id=some (.row ((pre++w++post).map u32) 1))(hl:k<w.length)
 (hk:wpM T sh nx0 (.ops base res rest::s) .normal (upd t dst (.int .u32 (dg w k))) h z nx q):
 wpM T sh nx0 (.ops base res (⟨i,some dst,none,g,.load hint false 1 a⟩::rest)::s) .normal t h z nx q:=by
 refine q4l (pre++w++post) (pre.length+k) ha hkk hr (by simp;omega) ?_
 rw[dg_mid hl]
 exact hk
end
theorem aux2 {q a b r d:Nat}(h:r*4294967296+d<q*b):(q*a+r) *4294967296+d<q*(a*4294967296+b):=by
 grind
theorem Trial.less {w v:List Nat}{n:Nat}(h:Trial w v n){q r:Nat}(he:q*dg v (n-1)+r=dg w n*4294967296+dg w (n-1))(hq:r*4294967296+dg w (n-2)<q*dg v (n-2)):val w/val (v.take n)<q:=by
 refine kn_gt (P:=4294967296^(n-2)) (ut:=(dg w n*4294967296+dg w (n-1)) *4294967296+dg w (n-2)) (vt:=dg v (n-1) *4294967296+dg v (n-2)) ?_ ?_ h.pos.2 ?_
 ·rw[h.w3];exact qBb (q2a h.wo (n-2))
 ·rw[h.v3];exact qBc
 rw[←he];exact aux2 hq
theorem Trial.first_le {w v:List Nat}{n:Nat}(h:Trial w v n):(dg w n*4294967296+dg w (n-1))/dg v (n-1)≤4294967297∧dg w n≤dg v (n-1):=by
 have hh:=h.hi
 have h1:dg w n≤dg v (n-1):=by
  have h2:=h.lt
  have hv:val (v.take n)<(dg v (n-1)+1) *(4294967296^(n-1)):=by
   have:=q0Q v (n-1)
   rw[Nat.sub_add_cancel (by have:=h.n2;omega)]at this
   rw[this,Nat.add_mul,Nat.one_mul,Nat.mul_comm]
   have:=q2a h.vo (n-1)
   omega
  have hw:=(qmM h.wo h.wl).1
  have e:4294967296^n=4294967296*4294967296^(n-1):=by
   obtain⟨m,rfl⟩:∃m,n=m+1:=⟨n-1,by have:=h.n2;omega⟩
   rw[Nat.pow_succ,Nat.mul_comm];rfl
  by_cases hc:dg w n≤dg v (n-1)
  ·exact hc
  exfalso
  have h3:4294967296^n*(dg v (n-1)+1)≤4294967296^n*dg w n:=Nat.mul_le_mul_left _ (by omega)
  rw[e,Nat.mul_assoc,Nat.mul_comm (4294967296^(n-1))]at h3
  rw[e]at hw
  omega
 refine⟨?_,h1⟩
 have hl:=q1k h.wo (n-1)
 have:dg w n*4294967296+dg w (n-1)<4294967298*dg v (n-1):=by omega
 have:=(Nat.div_lt_iff_lt_mul (show 0<dg v (n-1)by omega)).2 this
 omega
end Go.F

namespace Go.F
attribute [local irreducible] IntKind.wrap wpM
theorem Old.old {U v Q:List Nat}{h:q0d}{z:Frz}(h2:h 2=some (.row (U.map u32) 1))(h3:h 3=some (.row (v.map u32) 1))(h4:h 4=some (.row (Q.map u32) 1))(z2:z 2=0)(z3:z 3=0)(z4:z 4=0):Old U v Q (q1e h) z:=
 Old.of (q8u h2) (q8u h3) (q8u h4) z2 z3 z4
theorem qB7 {w w' v:List Nat}{n q c b:Nat}(T:Trial w v n)(hq1:val w/val (v.take n)≤q)(hq2:q≤val w/val (v.take n)+1)(hw':w'.length=n+1)(hwo':LOk w')(hc:c<4294967296)(hb:b≤1)
 (hinv:val (w'.take n)+q*val (v.take n)=val (w.take n)+4294967296^n*(b+c)):
 (c+b≤dg w n→q=val w/val (v.take n)∧val (w'.set n (dg w n-c-b))=val w%val (v.take n))∧
 (dg w n<c+b→q=val w/val (v.take n)+1∧dg w n+4294967296-c-b<4294967296∧val (w'.set n (dg w n+4294967296-c-b))+q*val (v.take n)=val w+4294967296^(n+1)):=by
 have e1:=(qmM T.wo T.wl).1
 have hset:∀x,val (w'.set n x)=val (w'.take n)+4294967296^n*x:=by
  intro x
  have:=q2H (r:=w') (k:=n) (v:=x) (by omega)
  rwa[List.take_of_length_le (by simp;omega)]at this
 have hV:=T.pos.2
 have hlt:=q2a hwo' n
 generalize val (v.take n)=V at*
 constructor
 ·intro hle
  have e2:val (w'.set n (dg w n-c-b))+q*V=val w:=by
   rw[hset,e1]
   have:4294967296^n*(dg w n-c-b)+4294967296^n*(b+c)=4294967296^n*dg w n:=by rw[←Nat.mul_add];congr 1;omega
   omega
  have hqle:q≤val w/V:=(Nat.le_div_iff_mul_le hV).2 (by omega)
  have hq:q=val w/V:=by omega
  refine⟨hq,?_⟩
  have:=Nat.div_add_mod (val w) V
  rw[←hq,Nat.mul_comm]at this
  omega
 intro hgt
 have hgt':val w<q*V:=by
  rw[e1]
  have h1:4294967296^n*(dg w n+1)≤4294967296^n*(b+c):=Nat.mul_le_mul_left _ (by omega)
  rw[Nat.mul_add,Nat.mul_one]at h1
  omega
 have hne:q≠val w/V:=by
  intro e
  have:=Nat.div_mul_le_self (val w) V
  rw[←e]at this
  omega
 have hwn:=q1k T.wo n
 have hcb:c+b≤dg w n+4294967296:=by
  by_cases h:c+b≤dg w n+4294967296
  ·exact h
  omega
 refine⟨by omega,by omega,?_⟩
 rw[hset,e1,Nat.pow_succ]
 have:4294967296^n*(dg w n+4294967296-c-b)+4294967296^n*(b+c)=4294967296^n*dg w n+4294967296^n*4294967296:=by rw[←Nat.mul_add,←Nat.mul_add];congr 1;omega
 omega
theorem qB8 {w w1 w2 v:List Nat}{n q c:Nat}(T:Trial w v n)(hq:q=val w/val (v.take n)+1)(h1:w1.length=n+1)(h1o:LOk w1)(h2:w2.length=n+1)(h2o:LOk w2)(hc:c≤1)(hd:dg w2 n=dg w1 n)
 (hv1:val w1+q*val (v.take n)=val w+4294967296^(n+1)) (hinv:val (w2.take n)+4294967296^n*c=val (w1.take n)+val (v.take n)):
 val (w2.set n ((dg w1 n+c)%4294967296))=val w%val (v.take n):=by
 have e1:=(qmM h1o h1).1
 have hset:val (w2.set n ((dg w1 n+c)%4294967296))=val (w2.take n)+4294967296^n*((dg w1 n+c)%4294967296):=by
  have:=q2H (r:=w2) (k:=n) (v:=(dg w1 n+c)%4294967296) (by omega)
  rwa[List.take_of_length_le (by simp;omega)]at this
 have hV:=T.pos.2
 have hl2:=q2a h2o n
 have hdm:=Nat.div_add_mod (val w) (val (v.take n))
 have hml:=Nat.mod_lt (val w) hV
 have hVl:=q2a T.vo n
 generalize val (v.take n)=V at*
 generalize val w/V=Qt at*
 generalize val w%V=R at*
 subst hq
 rw[Nat.add_mul,Nat.one_mul,Nat.mul_comm Qt]at hv1
 have hdl:=q1k h1o n
 have hcar:=q4k (4294967296^n) (dg w1 n+c)
 rw[Nat.mul_add (4294967296^n) (dg w1 n) c,←Nat.pow_succ]at hcar
 have hcase:(dg w1 n+c)/4294967296=0∨(dg w1 n+c)/4294967296=1:=by omega
 rw[hset]
 have hmul:4294967296^n*((dg w1 n+c)%4294967296)+4294967296^n≤4294967296^(n+1):=by
  rw[Nat.pow_succ,←Nat.mul_succ];exact Nat.mul_le_mul_left _ (Nat.mod_lt _ (by decide))
 rcases hcase with h|h
 ·rw[h,Nat.mul_zero]at hcar
  omega
 rw[h,Nat.mul_one]at hcar
 omega
end Go.F

namespace Go.F
attribute [local irreducible] IntKind.wrap wpM
theorem qso {x y b:Nat}{d:Int}(hx:x<4294967296)(hy:y<4294967296)(hb:b≤1)(hd:d=((x:Int)-y-b)%18446744073709551616):
 ∃u c:Nat,IntKind.u32.wrap d=u∧d=((d.toNat:Nat):Int)∧d.toNat/2^63=c∧u<4294967296∧c≤1∧u+(b+y)=x+4294967296*c:=by
 rw[qaD]
 refine⟨(d%4294967296).toNat,d.toNat/2^63,by omega,by omega,rfl,by omega,by omega,by omega⟩
set_option maxHeartbeats 8000000 in
theorem qFl (pre w post v Q:List Nat)(n:Nat)(T:Trial w v n)(hn:n≤2000000000){h:q0d}{z:Frz}{K:D→q0d→Frz→Nat→Prop}(hold:Old (pre++w++post) v Q h z)
 (hk:∀(w':List Nat) (h':q0d) (z':Frz) (nx':Nat),(nx'=356∨nx'=401)→w'.length=n+1→LOk w'→val w'=val w%val (v.take n)→Old (pre++w'++post) v Q h' z'→K (.int .u32 (val w/val (v.take n):Nat)) h' z' nx'):
 wpM TT (shr TT 5) 206 [.code k_natural_digit.code] .normal (enter [.ref 2 pre.length (n+1),.ref 3 0 n]) h z 206 (qeT k_natural_digit K):=by
 obtain⟨⟨h0,rfl⟩,z0,rfl⟩:=hold
 have hn2:=T.n2
 have hwl:=T.wl
 have hvl:=T.vl
 have hhi:=T.hi
 have hqlt:=T.qlt
 have hv1:=q1k T.vo (n-1)
 have hv2:=q1k T.vo (n-2)
 have hw0:=q1k T.wo n
 have hw1:=q1k T.wo (n-1)
 have hw2:=q1k T.wo (n-2)
 have hfl:=T.first_le
 have wn1:IntKind.i64.wrap ((n:Int)-1)=((n-1:Nat):Int):=by rw[wrap64 (by omega) (by omega)];omega
 have wn2:IntKind.i64.wrap ((n:Int)-2)=((n-2:Nat):Int):=by rw[wrap64 (by omega) (by omega)];omega
 have c0:IntKind.u64.wrap (dg w n:Int)=(dg w n:Int):=q0C (by omega)
 have c1:IntKind.u64.wrap (dg w (n-1):Int)=(dg w (n-1):Int):=q0C (by omega)
 have c2:IntKind.u64.wrap (dg w (n-2):Int)=(dg w (n-2):Int):=q0C (by omega)
 have d1:IntKind.u64.wrap (dg v (n-1):Int)=(dg v (n-1):Int):=q0C (by omega)
 have d2:IntKind.u64.wrap (dg v (n-2):Int)=(dg v (n-2):Int):=q0C (by omega)
 refine gg rfl (q0F n rfl rfl rfl rfl rfl (by omega) ?_)
 refine gg rfl (q5X pre w post n rfl rfl rfl (by omega) ?_)
 refine gg rfl (q6w (dg w n) 32 rfl rfl c0 rfl (by decide) (q0C (by omega)) ?_)
 refine gg rfl (q0F (n-1) rfl rfl rfl rfl wn1 (by omega) ?_)
 refine gg rfl (q5X pre w post (n-1) rfl rfl rfl (by omega) ?_)
 refine gg rfl ?_
 rw[c1,qBa hw0 hw1]
 refine q0F (n-1) rfl rfl rfl rfl wn1 (by omega) ?_
 refine gg rfl (q4l v (n-1) rfl (Nat.zero_add _) rfl (by omega) ?_)
 refine gg rfl ?_
 rw[d1]
 generalize htop:dg w n*4294967296+dg w (n-1)=top
 rw[htop]at hfl
 have htl:top<18446744073709551616:=by omega
 have hql:=hfl.1
 refine q2Z top (dg v (n-1)) rfl rfl rfl rfl (by omega) (q0C (by omega)) ?_
 refine gg rfl (q7c top (dg v (n-1)) rfl rfl rfl rfl (by omega) ?_)
 refine gg rfl ?_
 refine q61 (S:=fun x:Nat×Nat=>([.ref 2 pre.length (n+1),.ref 3 0 n,q00 n,.int .u64 (dg v (n-1)),.int .u64 x.1,.int .u64 x.2],[none,none,none,none,none,none],[0,0,0,0,0,0]))
  (O:=fun _ ho zo=>Old (pre++w++post) v Q ho zo)
  (C:=fun x=>x.1*dg v (n-1)+x.2=top∧val w/val (v.take n)≤x.1∧x.1≤4294967297∧x.2<8589934592) (m:=fun x=>x.1) (top/dg v (n-1),top%dg v (n-1))
  ⟨by simp only;rw[Nat.mul_comm];exact Nat.div_add_mod _ _,by rw[←htop];exact T.first,hql,by have:=Nat.mod_lt top (show 0<dg v (n-1)by omega);simp only;omega⟩ (by simp only;omega) ?_ ?_
 ·exact q1S rfl ⟨q05 q0t _,q05 q0t _,trivial⟩ ⟨by simp[q00],Old.old rfl rfl rfl rfl rfl rfl⟩
 rintro⟨q,r⟩ ⟨hqr,hq1,hq2,hr⟩ ho zo hold N hN
 obtain⟨⟨h1,rfl⟩,z1,rfl⟩:=hold
 simp only at hqr hq1 hq2 hr
 have next:q≠0→r<4294967296→val w/val (v.take n)<q→∀{t:q0x} {h:q0d} {z:Frz} {nx:Nat},(q10 206 [(0,0),(1,0),(5,0),(7,0),(8,0),(9,0)] t h z nx fun h z kp=>kp=([.ref 2 pre.length (n+1),.ref 3 0 n,q00 n,.int .u64 (dg v (n-1)),.int .u64 (q-1:Nat),.int .u64 (r+dg v (n-1):Nat)],[none,none,none,none,none,none],[0,0,0,0,0,0])∧Old (pre++w++post) v Q (q1e h) z)→N t h z nx:=by
  intro hq0 hrl hlt t h z nx hst
  refine hN (q-1,r+dg v (n-1)) ⟨?_,by simp only;omega,by simp only;omega,by simp only;omega⟩ (by simp only;omega) hst
  simp only
  obtain⟨k,rfl⟩:∃k,q=k+1:=⟨q-1,by omega⟩
  rw[Nat.add_mul,Nat.one_mul]at hqr
  simp only[Nat.add_sub_cancel]
  omega
 clear hN
 have s1:q≠0→IntKind.u64.wrap ((q:Int)-1)=((q-1:Nat):Int):=fun _=>by rw[q0T];omega
 have s2:IntKind.u64.wrap ((r:Int)+(dg v (n-1):Int))=((r+dg v (n-1):Nat):Int):=by rw[q0T];omega
 have after:q<4294967296→q≤val w/val (v.take n)+1→True:=fun _ _=>trivial
 refine gg rfl (q09 rfl (fun g1=>?_) (fun g1=>?_))
 ·rw[q06]at g1
  simp only at g1
  refine gg rfl (q09 rfl (fun g2=>?_) (fun g2=>?_))
  ·rw[q0G]at g2
   simp only at g2
   refine gg rfl (q0e rfl (gg rfl (q04 (next (by omega) (by omega) (by omega) (q1S rfl ⟨q05 q0t _,q05 q0t _,trivial⟩ ⟨?_,Old.old rfl rfl rfl rfl rfl rfl⟩)))))
   simp[q00,s1 (by omega),s2]
  rw[q0H]at g2
  simp only at g2
  have hq3:q<4294967296:=by omega
  have hqv:=qaE hq3 hv2
  have em:IntKind.u64.wrap ((q:Int) *IntKind.u64.wrap (dg v (n-2):Int))=((q*dg v (n-2):Nat):Int):=by
   rw[d2,show(q:Int) *(dg v (n-2):Int)=((q*dg v (n-2):Nat):Int)by simp]
   exact q0C (by omega)
  refine gg rfl (q0F (n-2) rfl rfl rfl rfl wn2 (by omega) ?_)
  refine gg rfl (q4l v (n-2) rfl (Nat.zero_add _) rfl (by omega) ?_)
  refine gg rfl (q6w r 32 rfl rfl rfl rfl (by decide) (q0C (by omega)) ?_)
  refine gg rfl (q0F (n-2) rfl rfl rfl rfl wn2 (by omega) ?_)
  refine gg rfl (q5X pre w post (n-2) rfl rfl rfl (by omega) ?_)
  refine gg rfl ?_
  rw[c2,qBa (by omega) hw2,em]
  refine q01 rfl (fun g3=>?_) (fun g3=>?_)
  ·rw[q06]at g3
   have g3':r*4294967296+dg w (n-2)<q*dg v (n-2):=by omega
   have hq0:q≠0:=by rintro rfl;omega
   refine gg rfl (q04 (next hq0 (by omega) (T.less (by rw[hqr,htop]) g3') (q1S rfl ⟨q05 q0t _,q05 q0t _,trivial⟩ ⟨?_,Old.old rfl rfl rfl rfl rfl rfl⟩)))
   simp[q00,s1 hq0,s2]
  rw[q07]at g3
  have hq4:=T.end (q:=q) (r:=r) (by rw[hqr,htop]) hq3 (.inr (by omega))
  refine gg rfl (q04 (gg rfl ?_))
  refine q61 (S:=fun x:Nat×List Nat×Nat×Nat=>([.ref 2 pre.length (n+1),.ref 3 0 n,q00 n,.int .u64 q,.int .u64 x.2.2.1,.int .u64 x.2.2.2,.ref 3 0 n,q00 n,q00 x.1],[none,none,none,none,none,none,none,none,none],[0,0,0,0,0,0,0,0,0]))
   (O:=fun x ho zo=>Old (pre++x.2.1++post) v Q ho zo)
   (C:=fun x=>x.1≤n∧x.2.1.length=n+1∧LOk x.2.1∧x.2.2.1<4294967296∧x.2.2.2≤1∧val (x.2.1.take x.1)+q*val (v.take x.1)=val (w.take x.1)+4294967296^x.1*(x.2.2.2+x.2.2.1)∧∀j,x.1≤j→dg x.2.1 j=dg w j) (m:=fun x=>n-x.1) (0,w,0,0)
   ⟨Nat.zero_le _,hwl,T.wo,by simp,by simp,by simp[val],fun j _=>rfl⟩ (by simp only;omega) ?_ ?_
  ·exact q1S rfl ⟨q05 q0t _,q05 q0t _,q05 q0t _,trivial⟩ ⟨by simp[q00],Old.old rfl rfl rfl rfl rfl rfl⟩
  rintro⟨k,w',c,b⟩ ⟨hk1,hl',ho',hc,hb,hinv,hsame⟩ ho zo hold N hN
  obtain⟨⟨h2,rfl⟩,z2,rfl⟩:=hold
  simp only at hk1 hl' ho' hc hb hinv hsame
  refine gg rfl (q01 rfl (fun e1=>?_) (fun e1=>?_))
  ·rw[q06]at e1
   simp only at e1
   have hkn:k<n:=by omega
   have hvk:=q1k T.vo k
   have hwk:=q1k ho' k
   have hqv:=qaE hq3 hvk
   have wk1:=wS (n:=k)
   have ee:((q*dg v k:Nat):Int)=(q:Int) *(dg v k:Int):=by simp
   have ec:IntKind.u64.wrap ((c:Int)+IntKind.u64.wrap ((q:Int) *IntKind.u64.wrap (dg v k:Int)))=((c+q*dg v k:Nat):Int):=by
    rw[q0C (n:=dg v k) (by omega),←ee,q0C (n:=q*dg v k) (by omega)]
    simp only[q0T];omega
   refine gg rfl (q0F k rfl rfl rfl rfl rfl hkn (gg rfl (q4l v k rfl (Nat.zero_add _) rfl (by omega) ?_)))
   refine gg rfl ?_
   rw[ec]
   refine q0F k rfl rfl rfl rfl rfl (by omega) ?_
   refine gg rfl (q5X pre w' post k rfl rfl rfl (by omega) ?_)
   refine gg rfl ?_
   rw[q11]
   obtain⟨u,b',g1,g2,g3,g4,g5,g6⟩:=qso (d:=IntKind.u64.wrap (IntKind.u64.wrap (IntKind.u64.wrap (dg w' k:Int)-IntKind.u64.wrap (((c+q*dg v k)%4294967296:Nat):Int))-(b:Int))) hwk (Nat.mod_lt (c+q*dg v k) (by decide)) hb (by simp only[q0T];omega)
   generalize IntKind.u64.wrap (IntKind.u64.wrap (IntKind.u64.wrap (dg w' k:Int)-IntKind.u64.wrap (((c+q*dg v k)%4294967296:Nat):Int))-(b:Int))=d at*
   rw[g1]
   refine q0F k rfl rfl rfl rfl rfl (by omega) ?_
   refine gg rfl (q55 pre w' post k u rfl rfl rfl rfl rfl rfl (by omega) ?_)
   refine gg rfl (q17 d.toNat 63 rfl rfl g2 rfl (by decide) ?_)
   rw[g3]
   refine gg rfl (q17 (c+q*dg v k) 32 rfl rfl rfl rfl (by decide) ?_)
   refine gg rfl (q04 (hN (k+1,w'.set k u,(c+q*dg v k)/2^32,b') ⟨hkn,by simp[hl'],ho'.set _ g4,by simp only;omega,g5,?_,?_⟩ (by simp only;omega) (q1S rfl ⟨q05 q0t _,q05 q0t _,q05 q0t _,trivial⟩ ⟨by simp[q00,wk1],Old.old rfl rfl rfl rfl rfl rfl⟩)))
   ·simp only
    rw[q2H (by omega),q0Q v,q0Q w,show(2:Nat)^32=4294967296 by decide,Nat.pow_succ]
    have hs:=hsame k (Nat.le_refl _)
    rw[hs]at g6
    have hdm:=Nat.div_add_mod (c+q*dg v k) 4294967296
    generalize (c+q*dg v k)/4294967296=c' at*
    generalize (c+q*dg v k)%4294967296=lo at*
    generalize 4294967296^k=P at*
    have e5:P*u+P*(q*dg v k)+P*(b+c)=P*dg w k+P*(4294967296*(b'+c')):=by
     rw[←Nat.mul_add,←Nat.mul_add,←Nat.mul_add];congr 1;omega
    rw[Nat.mul_add q,Nat.mul_left_comm q P,Nat.mul_assoc P 4294967296]
    omega
   intro j hj
   simp only at hj⊢
   rw[q3d,if_neg (by omega)]
   exact hsame j (by omega)
  rw[q07]at e1
  simp only at e1
  obtain rfl:k=n:=by omega
  clear hN
  obtain⟨se1,se2⟩:=qB7 T hq1 hq4 hl' ho' hc hb hinv
  have hdn:=hsame k (Nat.le_refl _)
  have cn:IntKind.u64.wrap (dg w' k:Int)=(dg w' k:Int):=q0C (by rw[hdn];omega)
  refine gg rfl (q04 (gg rfl (q0F k rfl rfl rfl rfl rfl (by omega) ?_)))
  refine gg rfl (q5X pre w' post k rfl rfl rfl (by omega) ?_)
  refine gg rfl ?_
  by_cases hcase:c+b≤dg w k
  ·obtain⟨f1,f2⟩:=se1 hcase
   have ed:IntKind.u64.wrap (IntKind.u64.wrap (IntKind.u64.wrap (dg w' k:Int)-(c:Int))-(b:Int))=((dg w k-c-b:Nat):Int):=by rw[hdn];simp only[q0T];omega
   have ed2:IntKind.u32.wrap ((dg w k-c-b:Nat):Int)=((dg w k-c-b:Nat):Int):=by rw[q11];omega
   have eq2:IntKind.u32.wrap (q:Int)=(q:Int):=by rw[q11];omega
   rw[ed,ed2]
   refine q0F k rfl rfl rfl rfl rfl (by omega) ?_
   refine gg rfl (q55 pre w' post k (dg w k-c-b) rfl rfl rfl rfl rfl rfl (by omega) ?_)
   refine gg rfl (q17 (dg w k-c-b) 63 rfl rfl rfl rfl (by decide) ?_)
   refine gg rfl (q01 rfl (fun y1=>?_) (fun y1=>?_))
   ·refine gg rfl ?_
    rw[eq2]
    have hk':∀h' z',Old (pre++w'.set k (dg w k-c-b)++post) v Q h' z'→K (.int .u32 q) h' z' 356:=fun h' z' hol=>by
     rw[f1];exact hk (w'.set k (dg w k-c-b)) h' z' 356 (.inl rfl) (by simp[hl']) (ho'.set _ (by omega)) f2 hol
    exact qp5 rfl rfl (hk' _ _ (Old.of rfl rfl rfl rfl rfl rfl))
   rw[q20]at y1
   exact absurd (by omega) y1
  obtain⟨f1,f0,f2⟩:=se2 (by omega)
  have ed:IntKind.u64.wrap (IntKind.u64.wrap (IntKind.u64.wrap (dg w' k:Int)-(c:Int))-(b:Int))=((18446744073709551616+dg w k-c-b:Nat):Int):=by rw[hdn];simp only[q0T];omega
  have ed2:IntKind.u32.wrap ((18446744073709551616+dg w k-c-b:Nat):Int)=((dg w k+4294967296-c-b:Nat):Int):=by rw[q11];omega
  rw[ed,ed2]
  refine q0F k rfl rfl rfl rfl rfl (by omega) ?_
  refine gg rfl (q55 pre w' post k (dg w k+4294967296-c-b) rfl rfl rfl rfl rfl rfl (by omega) ?_)
  refine gg rfl (q17 (18446744073709551616+dg w k-c-b) 63 rfl rfl rfl rfl (by decide) ?_)
  refine gg rfl (q01 rfl (fun y1=>?_) (fun y1=>?_))
  ·rw[q1n]at y1
   omega
  refine gg rfl ?_
  have hl1:(w'.set k (dg w k+4294967296-c-b)).length=k+1:=by simp[hl']
  have ho1:LOk (w'.set k (dg w k+4294967296-c-b)):=ho'.set _ f0
  generalize w'.set k (dg w k+4294967296-c-b)=x1 at*
  refine q61 (S:=fun x:Nat×List Nat×Nat=>([.ref 2 pre.length (k+1),q00 k,.int .u64 q,.int .u64 x.2.2,.ref 3 0 k,q00 k,q00 x.1],[none,none,none,none,none,none,none],[0,0,0,0,0,0,0]))
   (O:=fun x ho zo=>Old (pre++x.2.1++post) v Q ho zo)
   (C:=fun x=>x.1≤k∧x.2.1.length=k+1∧LOk x.2.1∧x.2.2≤1∧val (x.2.1.take x.1)+4294967296^x.1*x.2.2=val (x1.take x.1)+val (v.take x.1)∧∀j,x.1≤j→dg x.2.1 j=dg x1 j) (m:=fun x=>k-x.1) (0,x1,0)
   ⟨Nat.zero_le _,hl1,ho1,by simp,by simp[val],fun j _=>rfl⟩ (by simp only;omega) ?_ ?_
  ·exact q1S rfl ⟨q05 q0t _,q05 q0t _,trivial⟩ ⟨by simp[q00],Old.old rfl rfl rfl rfl rfl rfl⟩
  rintro⟨i,x2,c2'⟩ ⟨hi1,hl2,ho2,hc2,hinv2,hsame2⟩ ho zo hold N hN
  obtain⟨⟨h3,rfl⟩,z3,rfl⟩:=hold
  simp only at hi1 hl2 ho2 hc2 hinv2 hsame2
  refine gg rfl (q01 rfl (fun e2=>?_) (fun e2=>?_))
  ·rw[q06]at e2
   simp only at e2
   have hik:i<k:=by omega
   have hvi:=q1k T.vo i
   have hxi:=q1k ho2 i
   have wi1:=wS (n:=i)
   have es:IntKind.u64.wrap ((c2':Int)+IntKind.u64.wrap (IntKind.u64.wrap (dg x2 i:Int)+IntKind.u64.wrap (dg v i:Int)))=((c2'+dg x2 i+dg v i:Nat):Int):=by simp only[q0T];omega
   refine gg rfl (q0F i rfl rfl rfl rfl rfl hik (gg rfl (q4l v i rfl (Nat.zero_add _) rfl (by omega) ?_)))
   refine gg rfl (q0F i rfl rfl rfl rfl rfl (by omega) ?_)
   refine gg rfl (q5X pre x2 post i rfl rfl rfl (by omega) ?_)
   refine gg rfl ?_
   rw[es,q11]
   refine q0F i rfl rfl rfl rfl rfl (by omega) ?_
   refine gg rfl (q55 pre x2 post i ((c2'+dg x2 i+dg v i)%4294967296) rfl rfl rfl rfl rfl rfl (by omega) ?_)
   refine gg rfl (q17 (c2'+dg x2 i+dg v i) 32 rfl rfl rfl rfl (by decide) ?_)
   refine gg rfl (q04 (hN (i+1,x2.set i ((c2'+dg x2 i+dg v i)%4294967296),(c2'+dg x2 i+dg v i)/2^32) ⟨hik,by simp[hl2],ho2.set _ (Nat.mod_lt _ (by decide)),by simp only;omega,?_,?_⟩ (by simp only;omega) (q1S rfl ⟨q05 q0t _,q05 q0t _,trivial⟩ ⟨by simp[q00,wi1],Old.old rfl rfl rfl rfl rfl rfl⟩)))
   ·simp only
    rw[q2H (by omega),q0Q x1,q0Q v,show(2:Nat)^32=4294967296 by decide,Nat.pow_succ,Nat.add_assoc,q4k,Nat.mul_add,Nat.mul_add,hsame2 i (Nat.le_refl _)]
    omega
   intro j hj
   simp only at hj⊢
   rw[q3d,if_neg (by omega)]
   exact hsame2 j (by omega)
  rw[q07]at e2
  simp only at e2
  obtain rfl:i=k:=by omega
  clear hN
  have hdx:=hsame2 i (Nat.le_refl _)
  have hx1:=q1k ho1 i
  have fin:=qB8 T f1 hl1 ho1 hl2 ho2 hc2 hdx f2 hinv2
  have ec2:IntKind.u32.wrap (c2':Int)=(c2':Int):=by rw[q11];omega
  have ea2:IntKind.u32.wrap ((dg x2 i:Int)+(c2':Int))=(((dg x1 i+c2')%4294967296:Nat):Int):=by rw[hdx,qaD];omega
  have eq3:IntKind.u32.wrap (IntKind.u64.wrap ((q:Int)-1))=((val w/val (v.take i):Nat):Int):=by
   have a1:=f1
   have a2:=hqlt
   generalize val w/val (v.take i)=Qt at a1 a2⊢
   rw[q0T,qaD]
   clear hinv hinv2 hqr hq1 hq2 hql f2 fin
   omega
  refine gg rfl (q04 (gg rfl (q0F i rfl rfl rfl rfl rfl (by omega) ?_)))
  refine gg rfl (q5X pre x2 post i rfl rfl rfl (by omega) ?_)
  refine gg rfl ?_
  rw[ec2,ea2]
  refine q0F i rfl rfl rfl rfl rfl (by omega) ?_
  refine gg rfl (q55 pre x2 post i ((dg x1 i+c2')%4294967296) rfl rfl rfl rfl rfl rfl (by omega) ?_)
  refine gg rfl ?_
  rw[eq3]
  exact qp5 rfl rfl (hk (x2.set i ((dg x1 i+c2')%4294967296)) _ _ 401 (.inr rfl) (by simp[hl2]) (ho2.set _ (Nat.mod_lt _ (by decide))) fin (Old.of rfl rfl rfl rfl rfl rfl))
 rw[q07]at g1
 simp only at g1
 have hq3:q<4294967296:=by
  have h5:=hfl.2
  have h6:q*dg v (n-1)<4294967296*dg v (n-1):=by omega
  exact Nat.lt_of_mul_lt_mul_right h6
 have hq4:=T.end (q:=q) (r:=r) (by rw[hqr,htop]) hq3 (.inl (by omega))
 refine gg rfl (q0j rfl (gg rfl (q04 (gg rfl ?_))))
 refine q61 (S:=fun x:Nat×List Nat×Nat×Nat=>([.ref 2 pre.length (n+1),.ref 3 0 n,q00 n,.int .u64 q,.int .u64 x.2.2.1,.int .u64 x.2.2.2,.ref 3 0 n,q00 n,q00 x.1],[none,none,none,none,none,none,none,none,none],[0,0,0,0,0,0,0,0,0]))
  (O:=fun x ho zo=>Old (pre++x.2.1++post) v Q ho zo)
  (C:=fun x=>x.1≤n∧x.2.1.length=n+1∧LOk x.2.1∧x.2.2.1<4294967296∧x.2.2.2≤1∧val (x.2.1.take x.1)+q*val (v.take x.1)=val (w.take x.1)+4294967296^x.1*(x.2.2.2+x.2.2.1)∧∀j,x.1≤j→dg x.2.1 j=dg w j) (m:=fun x=>n-x.1) (0,w,0,0)
  ⟨Nat.zero_le _,hwl,T.wo,by simp,by simp,by simp[val],fun j _=>rfl⟩ (by simp only;omega) ?_ ?_
 ·exact q1S rfl ⟨q05 q0t _,q05 q0t _,q05 q0t _,trivial⟩ ⟨by simp[q00],Old.old rfl rfl rfl rfl rfl rfl⟩
 rintro⟨k,w',c,b⟩ ⟨hk1,hl',ho',hc,hb,hinv,hsame⟩ ho zo hold N hN
 obtain⟨⟨h2,rfl⟩,z2,rfl⟩:=hold
 simp only at hk1 hl' ho' hc hb hinv hsame
 refine gg rfl (q01 rfl (fun e1=>?_) (fun e1=>?_))
 ·rw[q06]at e1
  simp only at e1
  have hkn:k<n:=by omega
  have hvk:=q1k T.vo k
  have hwk:=q1k ho' k
  have hqv:=qaE hq3 hvk
  have wk1:=wS (n:=k)
  have ee:((q*dg v k:Nat):Int)=(q:Int) *(dg v k:Int):=by simp
  have ec:IntKind.u64.wrap ((c:Int)+IntKind.u64.wrap ((q:Int) *IntKind.u64.wrap (dg v k:Int)))=((c+q*dg v k:Nat):Int):=by
   rw[q0C (n:=dg v k) (by omega),←ee,q0C (n:=q*dg v k) (by omega)]
   simp only[q0T];omega
  refine gg rfl (q0F k rfl rfl rfl rfl rfl hkn (gg rfl (q4l v k rfl (Nat.zero_add _) rfl (by omega) ?_)))
  refine gg rfl ?_
  rw[ec]
  refine q0F k rfl rfl rfl rfl rfl (by omega) ?_
  refine gg rfl (q5X pre w' post k rfl rfl rfl (by omega) ?_)
  refine gg rfl ?_
  rw[q11]
  obtain⟨u,b',g1,g2,g3,g4,g5,g6⟩:=qso (d:=IntKind.u64.wrap (IntKind.u64.wrap (IntKind.u64.wrap (dg w' k:Int)-IntKind.u64.wrap (((c+q*dg v k)%4294967296:Nat):Int))-(b:Int))) hwk (Nat.mod_lt (c+q*dg v k) (by decide)) hb (by simp only[q0T];omega)
  generalize IntKind.u64.wrap (IntKind.u64.wrap (IntKind.u64.wrap (dg w' k:Int)-IntKind.u64.wrap (((c+q*dg v k)%4294967296:Nat):Int))-(b:Int))=d at*
  rw[g1]
  refine q0F k rfl rfl rfl rfl rfl (by omega) ?_
  refine gg rfl (q55 pre w' post k u rfl rfl rfl rfl rfl rfl (by omega) ?_)
  refine gg rfl (q17 d.toNat 63 rfl rfl g2 rfl (by decide) ?_)
  rw[g3]
  refine gg rfl (q17 (c+q*dg v k) 32 rfl rfl rfl rfl (by decide) ?_)
  refine gg rfl (q04 (hN (k+1,w'.set k u,(c+q*dg v k)/2^32,b') ⟨hkn,by simp[hl'],ho'.set _ g4,by simp only;omega,g5,?_,?_⟩ (by simp only;omega) (q1S rfl ⟨q05 q0t _,q05 q0t _,q05 q0t _,trivial⟩ ⟨by simp[q00,wk1],Old.old rfl rfl rfl rfl rfl rfl⟩)))
  ·simp only
   rw[q2H (by omega),q0Q v,q0Q w,show(2:Nat)^32=4294967296 by decide,Nat.pow_succ]
   have hs:=hsame k (Nat.le_refl _)
   rw[hs]at g6
   have hdm:=Nat.div_add_mod (c+q*dg v k) 4294967296
   generalize (c+q*dg v k)/4294967296=c' at*
   generalize (c+q*dg v k)%4294967296=lo at*
   generalize 4294967296^k=P at*
   have e5:P*u+P*(q*dg v k)+P*(b+c)=P*dg w k+P*(4294967296*(b'+c')):=by
    rw[←Nat.mul_add,←Nat.mul_add,←Nat.mul_add];congr 1;omega
   rw[Nat.mul_add q,Nat.mul_left_comm q P,Nat.mul_assoc P 4294967296]
   omega
  intro j hj
  simp only at hj⊢
  rw[q3d,if_neg (by omega)]
  exact hsame j (by omega)
 rw[q07]at e1
 simp only at e1
 obtain rfl:k=n:=by omega
 clear hN
 obtain⟨se1,se2⟩:=qB7 T hq1 hq4 hl' ho' hc hb hinv
 have hdn:=hsame k (Nat.le_refl _)
 have cn:IntKind.u64.wrap (dg w' k:Int)=(dg w' k:Int):=q0C (by rw[hdn];omega)
 refine gg rfl (q04 (gg rfl (q0F k rfl rfl rfl rfl rfl (by omega) ?_)))
 refine gg rfl (q5X pre w' post k rfl rfl rfl (by omega) ?_)
 refine gg rfl ?_
 by_cases hcase:c+b≤dg w k
 ·obtain⟨f1,f2⟩:=se1 hcase
  have ed:IntKind.u64.wrap (IntKind.u64.wrap (IntKind.u64.wrap (dg w' k:Int)-(c:Int))-(b:Int))=((dg w k-c-b:Nat):Int):=by rw[hdn];simp only[q0T];omega
  have ed2:IntKind.u32.wrap ((dg w k-c-b:Nat):Int)=((dg w k-c-b:Nat):Int):=by rw[q11];omega
  have eq2:IntKind.u32.wrap (q:Int)=(q:Int):=by rw[q11];omega
  rw[ed,ed2]
  refine q0F k rfl rfl rfl rfl rfl (by omega) ?_
  refine gg rfl (q55 pre w' post k (dg w k-c-b) rfl rfl rfl rfl rfl rfl (by omega) ?_)
  refine gg rfl (q17 (dg w k-c-b) 63 rfl rfl rfl rfl (by decide) ?_)
  refine gg rfl (q01 rfl (fun y1=>?_) (fun y1=>?_))
  ·refine gg rfl ?_
   rw[eq2]
   have hk':∀h' z',Old (pre++w'.set k (dg w k-c-b)++post) v Q h' z'→K (.int .u32 q) h' z' 356:=fun h' z' hol=>by
    rw[f1];exact hk (w'.set k (dg w k-c-b)) h' z' 356 (.inl rfl) (by simp[hl']) (ho'.set _ (by omega)) f2 hol
   exact qp5 rfl rfl (hk' _ _ (Old.of rfl rfl rfl rfl rfl rfl))
  rw[q20]at y1
  exact absurd (by omega) y1
 obtain⟨f1,f0,f2⟩:=se2 (by omega)
 have ed:IntKind.u64.wrap (IntKind.u64.wrap (IntKind.u64.wrap (dg w' k:Int)-(c:Int))-(b:Int))=((18446744073709551616+dg w k-c-b:Nat):Int):=by rw[hdn];simp only[q0T];omega
 have ed2:IntKind.u32.wrap ((18446744073709551616+dg w k-c-b:Nat):Int)=((dg w k+4294967296-c-b:Nat):Int):=by rw[q11];omega
 rw[ed,ed2]
 refine q0F k rfl rfl rfl rfl rfl (by omega) ?_
 refine gg rfl (q55 pre w' post k (dg w k+4294967296-c-b) rfl rfl rfl rfl rfl rfl (by omega) ?_)
 refine gg rfl (q17 (18446744073709551616+dg w k-c-b) 63 rfl rfl rfl rfl (by decide) ?_)
 refine gg rfl (q01 rfl (fun y1=>?_) (fun y1=>?_))
 ·rw[q1n]at y1
  omega
 refine gg rfl ?_
 have hl1:(w'.set k (dg w k+4294967296-c-b)).length=k+1:=by simp[hl']
 have ho1:LOk (w'.set k (dg w k+4294967296-c-b)):=ho'.set _ f0
 generalize w'.set k (dg w k+4294967296-c-b)=x1 at*
 refine q61 (S:=fun x:Nat×List Nat×Nat=>([.ref 2 pre.length (k+1),q00 k,.int .u64 q,.int .u64 x.2.2,.ref 3 0 k,q00 k,q00 x.1],[none,none,none,none,none,none,none],[0,0,0,0,0,0,0]))
  (O:=fun x ho zo=>Old (pre++x.2.1++post) v Q ho zo)
  (C:=fun x=>x.1≤k∧x.2.1.length=k+1∧LOk x.2.1∧x.2.2≤1∧val (x.2.1.take x.1)+4294967296^x.1*x.2.2=val (x1.take x.1)+val (v.take x.1)∧∀j,x.1≤j→dg x.2.1 j=dg x1 j) (m:=fun x=>k-x.1) (0,x1,0)
  ⟨Nat.zero_le _,hl1,ho1,by simp,by simp[val],fun j _=>rfl⟩ (by simp only;omega) ?_ ?_
 ·exact q1S rfl ⟨q05 q0t _,q05 q0t _,trivial⟩ ⟨by simp[q00],Old.old rfl rfl rfl rfl rfl rfl⟩
 rintro⟨i,x2,c2'⟩ ⟨hi1,hl2,ho2,hc2,hinv2,hsame2⟩ ho zo hold N hN
 obtain⟨⟨h3,rfl⟩,z3,rfl⟩:=hold
 simp only at hi1 hl2 ho2 hc2 hinv2 hsame2
 refine gg rfl (q01 rfl (fun e2=>?_) (fun e2=>?_))
 ·rw[q06]at e2
  simp only at e2
  have hik:i<k:=by omega
  have hvi:=q1k T.vo i
  have hxi:=q1k ho2 i
  have wi1:=wS (n:=i)
  have es:IntKind.u64.wrap ((c2':Int)+IntKind.u64.wrap (IntKind.u64.wrap (dg x2 i:Int)+IntKind.u64.wrap (dg v i:Int)))=((c2'+dg x2 i+dg v i:Nat):Int):=by simp only[q0T];omega
  refine gg rfl (q0F i rfl rfl rfl rfl rfl hik (gg rfl (q4l v i rfl (Nat.zero_add _) rfl (by omega) ?_)))
  refine gg rfl (q0F i rfl rfl rfl rfl rfl (by omega) ?_)
  refine gg rfl (q5X pre x2 post i rfl rfl rfl (by omega) ?_)
  refine gg rfl ?_
  rw[es,q11]
  refine q0F i rfl rfl rfl rfl rfl (by omega) ?_
  refine gg rfl (q55 pre x2 post i ((c2'+dg x2 i+dg v i)%4294967296) rfl rfl rfl rfl rfl rfl (by omega) ?_)
  refine gg rfl (q17 (c2'+dg x2 i+dg v i) 32 rfl rfl rfl rfl (by decide) ?_)
  refine gg rfl (q04 (hN (i+1,x2.set i ((c2'+dg x2 i+dg v i)%4294967296),(c2'+dg x2 i+dg v i)/2^32) ⟨hik,by simp[hl2],ho2.set _ (Nat.mod_lt _ (by decide)),by simp only;omega,?_,?_⟩ (by simp only;omega) (q1S rfl ⟨q05 q0t _,q05 q0t _,trivial⟩ ⟨by simp[q00,wi1],Old.old rfl rfl rfl rfl rfl rfl⟩)))
  ·simp only
   rw[q2H (by omega),q0Q x1,q0Q v,show(2:Nat)^32=4294967296 by decide,Nat.pow_succ,Nat.add_assoc,q4k,Nat.mul_add,Nat.mul_add,hsame2 i (Nat.le_refl _)]
   omega
  intro j hj
  simp only at hj⊢
  rw[q3d,if_neg (by omega)]
  exact hsame2 j (by omega)
 rw[q07]at e2
 simp only at e2
 obtain rfl:i=k:=by omega
 clear hN
 have hdx:=hsame2 i (Nat.le_refl _)
 have hx1:=q1k ho1 i
 have fin:=qB8 T f1 hl1 ho1 hl2 ho2 hc2 hdx f2 hinv2
 have ec2:IntKind.u32.wrap (c2':Int)=(c2':Int):=by rw[q11];omega
 have ea2:IntKind.u32.wrap ((dg x2 i:Int)+(c2':Int))=(((dg x1 i+c2')%4294967296:Nat):Int):=by rw[hdx,qaD];omega
 have eq3:IntKind.u32.wrap (IntKind.u64.wrap ((q:Int)-1))=((val w/val (v.take i):Nat):Int):=by
  have a1:=f1
  have a2:=hqlt
  generalize val w/val (v.take i)=Qt at a1 a2⊢
  rw[q0T,qaD]
  clear hinv hinv2 hqr hq1 hq2 hql f2 fin
  omega
 refine gg rfl (q04 (gg rfl (q0F i rfl rfl rfl rfl rfl (by omega) ?_)))
 refine gg rfl (q5X pre x2 post i rfl rfl rfl (by omega) ?_)
 refine gg rfl ?_
 rw[ec2,ea2]
 refine q0F i rfl rfl rfl rfl rfl (by omega) ?_
 refine gg rfl (q55 pre x2 post i ((dg x1 i+c2')%4294967296) rfl rfl rfl rfl rfl rfl (by omega) ?_)
 refine gg rfl ?_
 rw[eq3]
 exact qp5 rfl rfl (hk (x2.set i ((dg x1 i+c2')%4294967296)) _ _ 401 (.inr rfl) (by simp[hl2]) (ho2.set _ (Nat.mod_lt _ (by decide))) fin (Old.of rfl rfl rfl rfl rfl rfl))
end Go.F

namespace Go.F
attribute [local irreducible] IntKind.wrap wpM
theorem qB9 {U:List Nat}{i n:Nat}(h:i+n+1≤U.length):U=U.take i++(U.drop i).take (n+1)++U.drop (i+n+1)∧(U.take i).length=i∧((U.drop i).take (n+1)).length=n+1:=by
 refine⟨?_,by simp;omega,by simp;omega⟩
 rw[List.append_assoc,show U.drop (i+n+1)=(U.drop i).drop (n+1)by rw[List.drop_drop];congr 1,List.take_append_drop,List.take_append_drop]
theorem q9z {l:List Nat}{n:Nat}(h:val l<4294967296^n):val (l.drop n)=0∧val (l.take n)=val l:=by
 have:=q2M l n
 have hz:val (l.drop n)=0:=by
  by_cases h0:val (l.drop n)=0
  ·exact h0
  have:4294967296^n*1≤4294967296^n*val (l.drop n):=Nat.mul_le_mul_left _ (by omega)
  omega
 rw[hz]at this
 exact⟨hz,by omega⟩
theorem Dv.trial {r v U Q:List Nat}{n m j:Nat}(h:Dv r v U Q n m (j+1))(n2:2≤n)(vo:LOk v)(vl:n≤v.length)(hi:2147483648≤dg v (n-1)):
 Trial ((U.drop j).take (n+1)) v n∧val ((U.drop j).take (n+1))=val (U.drop j):=by
 have hl:=h.ul
 have hj:=h.jm
 have hV:=q2a vo n
 have hlt:=h.lt
 have e1:val (U.drop j)<4294967296*val (v.take n):=by
  rw[q2R]
  have:=q1k h.uo j
  omega
 have e2:val (U.drop j)<4294967296^(n+1):=by
  rw[Nat.pow_succ]
  have:4294967296*val (v.take n)≤4294967296*4294967296^n:=Nat.mul_le_mul_left _ (by omega)
  omega
 have e3:=(q9z e2).2
 exact⟨⟨n2,by simp;omega,(h.uo.drop j).take _,vo,vl,hi,by rw[e3];exact e1⟩,e3⟩
theorem Dv.next {r v U Q w':List Nat}{n m j:Nat}(h:Dv r v U Q n m (j+1))(T:Trial ((U.drop j).take (n+1)) v n)(hw:val ((U.drop j).take (n+1))=val (U.drop j))(hl':w'.length=n+1)(ho':LOk w')(hv':val w'=val ((U.drop j).take (n+1))%val (v.take n)):
 Dv r v (U.take j++w'++U.drop (j+n+1)) (Q.set j (val ((U.drop j).take (n+1))/val (v.take n))) n m j:=by
 have hl:=h.ul
 have hj:=h.jm
 have hpos:=T.pos.2
 have hq:=T.qlt
 obtain⟨w1,w2,w3⟩:=qB9 (U:=U) (i:=j) (n:=n) (by omega)
 have hpz:val (U.drop (j+n+1))=0:=by
  have:=q2M (U.drop j) (n+1)
  rw[hw,List.drop_drop,show j+(n+1)=j+n+1 by omega]at this
  have hp:0<4294967296^(n+1):=Nat.pow_pos (by decide)
  have h0:4294967296^(n+1) *val (U.drop (j+n+1))=0:=by omega
  rcases Nat.mul_eq_zero.1 h0 with h1|h1
  ·omega
  exact h1
 refine⟨by omega,by simp[hl'];omega,((h.uo.take j).append ho').append (h.uo.drop _),by simp[h.ql],h.qo.set _ hq,?_,?_⟩
 ·rw[List.append_assoc,List.drop_left' w2,val_append,hpz,hv']
  have:=Nat.mod_lt (val ((U.drop j).take (n+1))) hpos
  omega
 have heq:=h.eq
 have e1:val (U.take j++w'++U.drop (j+n+1))=val (U.take j)+4294967296^j*val w':=by
  rw[List.append_assoc,val_append,val_append,w2,hpz];simp
 have e2:val U=val (U.take j)+4294967296^j*val (U.drop j):=q2M U j
 rw[e1,q2R,q3d,if_pos ⟨rfl,by rw[h.ql];omega⟩,List.drop_set_of_lt (by omega),hv',hw]
 rw[heq,e2,Nat.pow_succ]
 have hdm:=Nat.div_add_mod (val (U.drop j)) (val (v.take n))
 generalize val (v.take n)=V at*
 generalize val (U.drop j)/V=q at*
 generalize val (U.drop j)%V=R at*
 rw[←hdm]
 generalize val (Q.drop (j+1))=X
 generalize 4294967296^j=P
 grind
set_option maxHeartbeats 8000000 in
theorem qeF (a b:List Nat) [ha:LOk a] [hb:LOk b](hla:a.length≤900000000)(hlb:b.length≤900000000):
 PU qjk [nat a,nat b]=some (if val b=0 then .tup [nat [],nat [],.bool false]else .tup [nat (q0f (val a/val b)),nat (q0f (val a%val b)),.bool true]):=by
 have ea:val (q0f (val a))=val a:=q0m _
 have eb:val (q0f (val b))=val b:=q0m _
 have hla':=q1G ha
 have hlb':=q1G hb
 refine q0g (fn:=qai) rfl (q0a ?_)
 refine gg rfl (q02 rfl rfl (q2G a (by omega)) ?_)
 refine gg rfl (q02 rfl rfl (q2G b (by omega)) ?_)
 refine gg rfl ?_
 have hAo:LOk (q0f (val a)):=q0A _
 have hBo:LOk (q0f (val b)):=q0A _
 have hb0:(q0f (val b)).length=0↔val b=0:=by rw[List.length_eq_zero_iff];exact qjq
 have hbtop:val b≠0→dg (q0f (val b)) ((q0f (val b)).length-1)≠0:=qsm
 have hlen:val b≤val a→(q0f (val b)).length≤(q0f (val a)).length:=fun h=>q0p.2 (Nat.lt_of_le_of_lt h (q0p.1 (Nat.le_refl _)))
 generalize q0f (val a)=A at*
 generalize q0f (val b)=B at*
 rw[List.length_map]
 refine q01 rfl (fun h1=>?_) (fun h1=>?_)
 ·rw[q1n]at h1
  refine gg rfl (q08 rfl rfl rfl trivial ?_)
  rw[if_pos (hb0.1 (by omega))];rfl
 rw[q20]at h1
 have hvb:val b≠0:=fun h=>h1 (by have:=hb0.2 h;omega)
 rw[if_neg hvb]
 refine gg rfl (q02 rfl rfl (qp3 A B (by omega) (by omega)) ?_)
 refine gg rfl ?_
 rw[ea,eb]
 refine q01 rfl (fun h2=>?_) (fun h2=>?_)
 ·rw[q06]at h2
  have hlt:val a<val b:=by
   unfold q3D at h2
   split at h2
   ·omega
   split at h2<;>omega
  refine gg rfl (q02 rfl rfl (q5h A (by omega)) ?_)
  refine gg rfl (q08 rfl rfl rfl trivial ?_)
  rw[Nat.div_eq_of_lt hlt,Nat.mod_eq_of_lt hlt,ea];rfl
 rw[q07]at h2
 have hle:val b≤val a:=by
  unfold q3D at h2
  split at h2
  ·omega
  omega
 have hlen:=hlen hle
 refine gg rfl ?_
 rw[List.length_map]
 refine q01 rfl (fun h3=>?_) (fun h3=>?_)
 ·rw[q1n]at h3
  have hB1:B.length=1:=by omega
  have hd:=q1k hBo 0
  have ev:val B=dg B 0:=by
   have:=q0Q B 0
   rw[List.take_of_length_le (by omega)]at this
   simpa[val]using this
  have hd0:dg B 0≠0:=by rw[←ev,eb];exact hvb
  have w0:IntKind.u64.wrap ((val A%dg B 0:Nat):Int)=((val A%dg B 0:Nat):Int):=q0C (by have:=Nat.mod_lt (val A) (show 0<dg B 0 by omega);omega)
  refine gg rfl (q0i 0 rfl rfl rfl (q2z (by omega)) rfl ?_)
  refine gg rfl (q02 rfl rfl (qFo A (dg B 0) (by omega) hd0 hd) ?_)
  refine gg rfl ?_
  rw[w0]
  refine q02 rfl rfl (q6D (val A%dg B 0) (by have:=Nat.mod_lt (val A) (show 0<dg B 0 by omega);omega)) ?_
  refine gg rfl (q08 rfl rfl rfl trivial ?_)
  rw[←eb,←ea,ev]
  rfl
 rw[q20]at h3
 have hn2:2≤B.length:=by omega
 generalize hn:B.length=n at*
 have wn1:IntKind.i64.wrap ((n:Int)-1)=((n-1:Nat):Int):=by rw[wrap64 (by omega) (by omega)];omega
 obtain⟨s,hs1,hs2,hs3,hs4⟩:=qid (dg B (n-1)) (q1k hBo _) (hbtop hvb)
 refine gg rfl ?_
 rw[List.length_map,hn]
 refine q0i (n-1) rfl rfl wn1 (q2z (by omega)) rfl ?_
 refine gg rfl (q02 rfl rfl hs1 (gg rfl (qjM rfl rfl (left1 A s (by omega) hs2 trivial fun r h' z' hr hro hrv hh' hz' _=>?_))))
 refine gg rfl (qjM rfl rfl (left2 B s (by omega) hs2 r ⟨hh',hz'⟩ fun v h'' z'' hv hvo hvv hh'' hz'' hold=>?_))
 obtain⟨h0,rfl⟩:∃h0:q0d,h''=upd (upd h0 80 (some (.row (r.map u32) 1))) 131 (some (.row (v.map u32) 1)):=⟨h'',by rw[q2u (f:=h'') hold.1,q2u (f:=h'') hh'']⟩
 obtain⟨z0,rfl⟩:∃z0:Frz,z''=upd (upd z0 80 0) 131 0:=⟨z'',by rw[q2u (f:=z'') hold.2,q2u (f:=z'') hz'']⟩
 rw[hn]at hv
 refine gg rfl (q9K n rfl rfl rfl ⟨_,_,rfl,rfl⟩ (by omega) ?_)
 refine gg rfl ?_
 have wm:IntKind.i64.wrap (((A.length+1:Nat):Int)-(n:Int))=((A.length+1-n:Nat):Int):=by rw[wrap64 (by omega) (by omega)];omega
 rw[wm]
 refine q3O (A.length+1-n) rfl rfl rfl (by simp[q0M];omega) ?_
 rw[q7r]
 refine gg rfl ?_
 have wm1:=ww (x:=((A.length+1-n:Nat):Int)-1)
 generalize hm:A.length+1-n=m at*
 have hAl:A.length+1=m+n:=by omega
 rw[hAl]at hr
 have hvV:val (v.take n)=val b*2^s:=by
  have h5:val v<4294967296^n:=by
   rw[hvv]
   have e1:=q0Q B (n-1)
   rw[Nat.sub_add_cancel (by omega),List.take_of_length_le (by omega)]at e1
   have e2:=q2a hBo (n-1)
   have e3:val B<4294967296^(n-1) *(dg B (n-1)+1):=by rw[e1,Nat.mul_add];omega
   have e4:4294967296^n=4294967296^(n-1) *4294967296:=by rw[←Nat.pow_succ];congr 1;omega
   calc val B*2^s<4294967296^(n-1) *(dg B (n-1)+1) *2^s:=Nat.mul_lt_mul_of_pos_right e3 (Nat.two_pow_pos s)
    _=4294967296^(n-1) *((dg B (n-1)+1) *2^s):=Nat.mul_assoc _ _ _
    _≤4294967296^(n-1) *4294967296:=Nat.mul_le_mul_left _ hs4
    _=4294967296^n:=e4.symm
  rw[(q9z h5).2,hvv,eb]
 have hvtop:2147483648≤dg v (n-1):=by
  rw[qzx hvo,hvv]
  have e1:=q0Q B (n-1)
  rw[Nat.sub_add_cancel (by omega),List.take_of_length_le (by omega)]at e1
  have e2:dg B (n-1) *2^s≤val B*2^s/4294967296^(n-1):=by
   rw[Nat.le_div_iff_mul_le (Nat.pow_pos (by decide)),e1,Nat.mul_right_comm]
   refine Nat.mul_le_mul_right _ ?_
   rw[Nat.mul_comm];omega
  have e3:val B*2^s/4294967296^(n-1)<4294967296:=by
   rw[Nat.div_lt_iff_lt_mul (Nat.pow_pos (by decide)),Nat.mul_comm 4294967296,←Nat.pow_succ,show(n-1).succ=n by omega,eb,←hvV]
   exact q2a hvo n
  rw[Nat.mod_eq_of_lt e3]
  omega
 have hstart:Dv r v r (List.replicate m 0) n m m:=by
  refine⟨Nat.le_refl _,hr,hro,by simp,q54 _,?_,by simp[val]⟩
  have e1:=q2M r m
  have e2:val r<4294967296^m*(4294967296^(n-1) *2^s):=by
   rw[hrv,←Nat.mul_assoc,←Nat.pow_add,show m+(n-1)=A.length by omega]
   exact Nat.mul_lt_mul_of_pos_right (q2Y hAo) (Nat.two_pow_pos s)
  have e3:val (r.drop m)<4294967296^(n-1) *2^s:=by
   refine Nat.lt_of_mul_lt_mul_left (a:=4294967296^m) ?_
   omega
  have e4:4294967296^(n-1) *dg v (n-1)≤val (v.take n):=by
   have:=q0Q v (n-1)
   rw[Nat.sub_add_cancel (by omega)]at this
   omega
  have e5:2^s≤2147483648:=by simpa using Nat.pow_le_pow_right (n:=2) (by decide) hs2
  have e6:4294967296^(n-1) *2^s≤4294967296^(n-1) *dg v (n-1):=Nat.mul_le_mul_left _ (by omega)
  omega
 refine q0l (S:=fun x:Nat×List Nat×List Nat=>([q00 n,q00 s,.ref 2 0 (m+n),.ref 3 0 n,.ref 4 0 m,q00 ((x.1:Int)-1)],[none,none,some (.row (x.2.1.map u32) 1),some (.row (v.map u32) 1),some (.row (x.2.2.map u32) 1),none],[0,0,0,0,0,0]))
  (C:=fun x=>Dv r v x.2.1 x.2.2 n m x.1) (m:=fun x=>x.1) (m,r,List.replicate m 0) hstart (by simp only;omega) ?_ ?_
 ·exact q03 rfl ⟨q05 q0t _,q05 q0t _,q05 q0t _,trivial⟩ (by simp[q00,wm1,hAl])
 rintro⟨j,U,Q⟩ hD N hN
 simp only at hD
 have hul:=hD.ul
 have hql:=hD.ql
 have hjm:=hD.jm
 refine gg rfl (q01 rfl (fun g1=>?_) (fun g1=>?_))
 ·rw[q0G]at g1
  simp only at g1
  obtain⟨i,rfl⟩:∃i,j=i+1:=⟨j-1,by omega⟩
  obtain⟨T,hT⟩:=hD.trial hn2 hvo (by omega) hvtop
  obtain⟨w1,w2,w3⟩:=qB9 (U:=U) (i:=i) (n:=n) (by omega)
  have ei:((i+1:Nat):Int)-1=(i:Int):=by omega
  have wi:IntKind.i64.wrap (IntKind.i64.wrap ((i:Int)+(n:Int))+1)=((i+n+1:Nat):Int):=by rw[wrap64 (x:=(i:Int)+n) (by omega) (by omega),wrap64 (by omega) (by omega)];omega
  refine gg rfl ?_
  rw[ei]
  refine qy5 i (i+n+1) rfl rfl rfl ⟨_,_,rfl,rfl⟩ ⟨_,_,rfl,wi⟩ (by omega) ?_
  have esl:(if i=0 then D.ref 2 0 (i+n+1)else if i=i+n+1 then D.lst []else D.ref 2 (0+i) (i+n+1-i))=D.ref 2 (U.take i).length (n+1):=by
   rw[w2]
   by_cases hi0:i=0
   ·subst hi0;simp
   rw[if_neg hi0,if_neg (by omega)];congr 1<;>omega
  rw[esl]
  refine gg rfl (qjM rfl rfl (qFl (U.take i) ((U.drop i).take (n+1)) (U.drop (i+n+1)) v Q n T (by omega) (Old.of (by rw[←w1];rfl) rfl rfl rfl rfl rfl) fun w' h' z' nx' hnx hl' ho' hv' hold=>?_))
  obtain⟨⟨h1,rfl⟩,z1,rfl⟩:=hold
  have hD':=hD.next T hT hl' ho' hv'
  generalize U.take i++w'++U.drop (i+n+1)=U' at*
  have hq:=T.qlt
  generalize val ((U.drop i).take (n+1))/val (v.take n)=qd at*
  have wj:=ww (x:=(i:Int)-1)
  rcases hnx with rfl|rfl
  ·refine gg rfl (q0F i rfl rfl rfl rfl rfl (by omega) ?_)
   refine gg rfl (q1X Q i qd rfl rfl (Nat.zero_add _) rfl rfl (Nat.zero_le _) (by omega) ?_)
   exact gg rfl (q04 (hN (i,U',Q.set i qd) hD' (by simp only;omega) (q03 rfl ⟨q05 q0t _,q05 q0t _,q05 q0t _,trivial⟩ (by simp[q00,wj]))))
  refine gg rfl (q0F i rfl rfl rfl rfl rfl (by omega) ?_)
  refine gg rfl (q1X Q i qd rfl rfl (Nat.zero_add _) rfl rfl (Nat.zero_le _) (by omega) ?_)
  exact gg rfl (q04 (hN (i,U',Q.set i qd) hD' (by simp only;omega) (q03 rfl ⟨q05 q0t _,q05 q0t _,q05 q0t _,trivial⟩ (by simp[q00,wj]))))
 rw[q0H]at g1
 simp only at g1
 obtain rfl:j=0:=by omega
 have heq:=hD.eq
 have hlt:=hD.lt
 simp only[Nat.pow_zero,Nat.one_mul,List.drop_zero]at heq hlt
 have hU:val U<4294967296^n:=Nat.lt_trans hlt (q2a hvo n)
 have hUt:=(q9z hU).2
 have hpos:0<val (v.take n):=by omega
 have hQ:val Q=val a/val b:=by
  have:val Q=val r/val (v.take n):=by rw[heq,Nat.add_mul_div_left _ _ hpos,Nat.div_eq_of_lt hlt,Nat.zero_add]
  rw[this,hrv,hvV,ea,Nat.mul_div_mul_right _ _ (Nat.two_pow_pos s)]
 have hR:val (U.take n)/2^s=val a%val b:=by
  have:val U=val r%val (v.take n):=by rw[heq,Nat.add_mul_mod_self_left,Nat.mod_eq_of_lt hlt]
  rw[hUt,this,hrv,hvV,ea,Nat.mul_mod_mul_right,Nat.mul_div_cancel _ (Nat.two_pow_pos s)]
 have hQo:=hD.qo
 have hUo:LOk (U.take n):=hD.uo.take n
 have hp:=q2G Q (by omega)
 rw[hQ]at hp
 have hp2:=qjs (U.take n) s (by simp;omega) hs2
 rw[hR]at hp2
 have hrow:D.lst ((U.map u32).take n)=nat (U.take n):=by rw[nat,List.map_take]
 refine gg rfl (q04 (gg rfl (q1R rfl rfl ⟨q3J (l:=Q) hql.symm,trivial⟩ (by rw[q44 (l:=Q) hql.symm];exact hp) fun z=>?_)))
 refine gg rfl (q9K n rfl rfl rfl ⟨_,_,rfl,rfl⟩ (by omega) ?_)
 refine gg rfl (q1R rfl rfl ⟨⟨by simp;omega,?_⟩,trivial⟩ (by rw[hrow];exact hp2) fun z=>?_)
 ·rw[List.drop_zero,←List.map_take];exact q0X qB6 _
 exact gg rfl (q08 rfl rfl rfl trivial rfl)
theorem qwZ {n k:Nat}(h:n<4294967296^k):bl n≤32*k:=by
 unfold bl
 split
 ·omega
 rename_i h0
 rw[show(4294967296:Nat)=2^32 by decide,←Nat.pow_mul]at h
 exact(Nat.log2_lt h0).2 h
theorem qFm {x y:Nat}(hy:y≠0)(h:y≤x):bl (x%y)<bl x:=by
 have hx:x≠0:=by omega
 unfold bl
 rw[if_neg hx]
 split
 ·omega
 rename_i h0
 have h2:2*(x%y)≤x:=by
  have hm:=Nat.mod_lt x (show 0<y by omega)
  have hd:=Nat.div_add_mod x y
  have hq:1≤x/y:=(Nat.le_div_iff_mul_le (by omega)).2 (by omega)
  have:y*1≤y*(x/y):=Nat.mul_le_mul_left _ hq
  omega
 have h3:(x%y).log2+1≤x.log2:=by
  have:=(Nat.le_log2 hx (k:=(x%y).log2+1)).2 (by
   have:=Nat.log2_self_le h0
   rw[Nat.pow_succ];omega)
  exact this
 omega
theorem Gcd_PU (a b:List Nat) [ha:LOk a] [hb:LOk b](hla:a.length≤900000000)(hlb:b.length≤900000000):PU qqI [nat a,nat b]=some (nat (q0f (Nat.gcd (val a) (val b)))):=by
 refine q0g (fn:=qf8) rfl (q0a ?_)
 refine gg rfl (q02 rfl rfl (q5h a (by omega)) ?_)
 refine gg rfl (q02 rfl rfl (q5h b (by omega)) ?_)
 refine gg rfl ?_
 obtain⟨K,hK⟩:∃K:Nat,K=900000000:=⟨_,rfl⟩
 rw[←hK]at hla hlb
 have hA:=Nat.lt_of_lt_of_le (q2Y ha) (Nat.pow_le_pow_right (show 0<4294967296 by decide) hla)
 have hB:=Nat.lt_of_lt_of_le (q2Y hb) (Nat.pow_le_pow_right (show 0<4294967296 by decide) hlb)
 refine q0l (S:=fun x:Nat×Nat=>([nat (q0f x.1),nat (q0f x.2)],[none,none],[0,0])) (C:=fun x=>x.1<4294967296^K∧x.2<4294967296^K∧Nat.gcd x.1 x.2=Nat.gcd (val a) (val b)) (m:=fun x=>2*(bl x.1+bl x.2)+if x.1<x.2 then 1 else 0) (val a,val b) ⟨hA,hB,rfl⟩ ?_ ?_ ?_
 ·simp only
  have h1:=qwZ hA
  have h2:=qwZ hB
  split<;>omega
 ·exact q03 rfl trivial (by simp[nat])
 rintro⟨x,y⟩ ⟨hx,hy,hg⟩ N hN
 simp only at hx hy hg
 refine gg rfl ?_
 rw[List.length_map]
 refine q01 rfl (fun h1=>?_) (fun h1=>?_)
 ·rw[q06]at h1
  have hy0:y≠0:=q3c.1 (by simp only at h1;omega)
  have hp:=qeF (q0f x) (q0f y) (hK▸q0p.2 hx) (hK▸q0p.2 hy)
  rw[q0m,q0m,if_neg hy0]at hp
  refine gg rfl (q02 rfl rfl hp (gg rfl (q04 (hN (y,x%y) ⟨hy,Nat.lt_of_le_of_lt (Nat.mod_le _ _) hx,?_⟩ ?_ (q03 rfl trivial (by simp[nat]))))))
  ·simp only
   rw[←hg,Nat.gcd_comm x y,Nat.gcd_rec y x,Nat.gcd_comm]
  simp only
  have hm:=Nat.mod_lt x (show 0<y by omega)
  by_cases hxy:x<y
  ·rw[if_pos hxy,Nat.mod_eq_of_lt hxy,if_neg (by omega)];omega
  have:=qFm hy0 (Nat.le_of_not_lt hxy)
  rw[if_neg hxy,if_neg (by omega)];omega
 rw[q07]at h1
 have hy0:y=0:=by
  by_cases h:y=0
  ·exact h
  have:=q3c.2 h;simp only at h1;omega
 refine gg rfl (q04 (gg rfl (q08 rfl rfl rfl trivial ?_)))
 rw[←hg,hy0,Nat.gcd_zero_right];rfl
end Go.F

namespace Go.F
attribute [local irreducible] IntKind.wrap wpM
theorem qdQ {m n j k:Nat}(h1:m<4294967296^j)(h2:n<4294967296^k):m+n<4294967296^(j+k+1):=by
 have a:=qdP (show j≤j+k by omega)
 have b:=qdP (show k≤j+k by omega)
 rw[Nat.pow_succ]
 omega
def encI (z:Int):D:=(RI.of z).enc
theorem RI.of_v (z:Int):(RI.of z).v=z:=by
 unfold RI.of RI.v
 simp only[q0m]
 by_cases h:z<0
 ·rw[decide_eq_true h];simp;omega
 rw[decide_eq_false h];simp;omega
theorem qeE (z:Int){neg:Bool}{n:Nat}(h1:neg=decide (z<0))(h2:n=z.natAbs):D.agg [.bool neg,nat (q0f n)]=encI z:=by
 subst h1;subst h2;rfl
theorem q5F (neg:Bool)(l:List Nat){k:Nat} [h:Sz l k](hk:k≤500000000):PU qjm [.bool neg,nat l]=some (encI (RI.v ⟨neg,l⟩)):=by
 have hl:=h.len
 have e:∀n:Nat,n=(q0f (val l)).length→ltb 0 (n:Int)=decide (val l≠0):=by
  rintro n rfl
  rw[q1M,decide_eq_decide]
  have:= @q3c (val l)
  omega
 refine q0g (fn:=qab) rfl (q0a ?_)
 refine gg rfl (q02 rfl rfl (q5h l (by omega)) ?_)
 refine gg rfl (q09 rfl (fun h1=>?_) (fun h1=>?_))
 ·refine gg rfl (q08 rfl rfl rfl trivial ?_)
  subst h1
  refine qeE _ ?_ ?_
  ·rw[List.length_map,e _ rfl]
   simp only[RI.v]
   rw[decide_eq_decide];simp;omega
  simp[RI.v]
 refine gg rfl (q08 rfl rfl rfl trivial ?_)
 subst h1
 refine qeE _ ?_ ?_
 ·simp only[RI.v]
  rw[eq_comm,decide_eq_false_iff_not,if_neg (by decide)];omega
 simp[RI.v]
theorem qfO (n:Int)(h1: -9223372036854775808≤n)(h2:n≤9223372036854775807):PU qtL [.int .i64 n]=some (encI n):=by
 have nb:NB n.natAbs 2:=⟨by show n.natAbs<18446744073709551616;omega⟩
 refine q0g (fn:=qh0) rfl (q0a ?_)
 refine gg rfl (q01 rfl (fun g1=>?_) (fun g1=>?_))
 ·rw[q06]at g1
  have e:IntKind.u64.wrap (0-IntKind.u64.wrap n)=((n.natAbs:Nat):Int):=by simp only[q0T];omega
  refine gg rfl ?_
  rw[e]
  refine q02 rfl rfl (q6D n.natAbs (by omega)) ?_
  refine gg rfl (q02 rfl rfl (q5F true (q0f n.natAbs) (by decide)) ?_)
  refine gg rfl (q08 rfl rfl rfl trivial ?_)
  have:RI.v ⟨true,q0f n.natAbs⟩=n:=by rw[RI.v,if_pos rfl,q0m];omega
  rw[this];rfl
 rw[q07]at g1
 have e:IntKind.u64.wrap n=((n.natAbs:Nat):Int):=by simp only[q0T];omega
 refine gg rfl ?_
 rw[e]
 refine q02 rfl rfl (q6D n.natAbs (by omega)) ?_
 refine gg rfl (q02 rfl rfl (q5F false (q0f n.natAbs) (by decide)) ?_)
 refine gg rfl (q08 rfl rfl rfl trivial ?_)
 have:RI.v ⟨false,q0f n.natAbs⟩=n:=by rw[RI.v,if_neg (by simp),q0m];omega
 rw[this];rfl
theorem q3V (a:RI){k:Nat} [h:Sz a.mag k](hk:k≤500000000):PU qoK [a.enc]=some (encI a.v):=by
 refine q0g (fn:=qdj) rfl (q0a ?_)
 exact gg rfl (q02 rfl rfl (q5F a.neg a.mag hk) (gg rfl (q08 rfl rfl rfl trivial rfl)))
theorem qoO (a:RI){k:Nat} [h:Sz a.mag k](hk:k≤500000000):PU qqM [a.enc]=some (encI (-a.v)):=by
 refine q0g (fn:=qfD) rfl (q0a ?_)
 refine gg rfl (q02 rfl rfl (q5F (!a.neg) a.mag hk) (gg rfl (q08 rfl rfl rfl trivial ?_)))
 have:RI.v ⟨!a.neg,a.mag⟩= -a.v:=by unfold RI.v;cases a.neg<;>simp
 rw[this];rfl
theorem qoQ (a b:RI){j k:Nat} [ha:Sz a.mag j] [hb:Sz b.mag k](hj:j≤100000000)(hk:k≤100000000):PU qqL [a.enc,b.enc]=some (encI (a.v+b.v)):=by
 have la:=ha.len
 have lb:=hb.len
 have nba:NB (val a.mag) j:=inferInstance
 have nbb:NB (val b.mag) k:=inferInstance
 have sAdd:Sz (q0f (val a.mag+val b.mag)) (j+k+1):=⟨q0A _,q0p.2 (qdQ nba.lt nbb.lt)⟩
 have sSub:Sz (q0f (val a.mag-val b.mag)) j:=⟨q0A _,q0p.2 (q6b (Nat.sub_le _ _) nba.lt)⟩
 have sSub':Sz (q0f (val b.mag-val a.mag)) k:=⟨q0A _,q0p.2 (q6b (Nat.sub_le _ _) nbb.lt)⟩
 have s1:=qFn a.mag b.mag (by omega) (by omega)
 have s2:=qFn b.mag a.mag (by omega) (by omega)
 refine q0g (fn:=qfK) rfl (q0a ?_)
 refine gg rfl (q01 rfl (fun g1=>?_) (fun g1=>?_))
 ·refine gg rfl (q02 rfl rfl (qu0 a.mag b.mag (by omega) (by omega)) ?_)
  refine gg rfl (q02 rfl rfl (q5F a.neg _ (by omega)) ?_)
  refine gg rfl (q08 rfl rfl rfl trivial ?_)
  have g:a.neg=b.neg:=by simpa using g1
  have:RI.v ⟨a.neg,q0f (val a.mag+val b.mag)⟩=a.v+b.v:=by
   unfold RI.v;simp only[q0m,←g];split<;>omega
  rw[this];rfl
 have g:b.neg=!a.neg:=by revert g1;cases a.neg<;>cases b.neg<;>simp
 refine gg rfl ?_
 by_cases hlt:val a.mag<val b.mag
 ·rw[if_pos hlt]at s1
  rw[if_neg (by omega)]at s2
  refine q02 rfl rfl s1 (gg rfl (q0j rfl (gg rfl (q02 rfl rfl s2 (gg rfl (q02 rfl rfl (q5F b.neg _ (by omega)) ?_))))))
  refine gg rfl (q08 rfl rfl rfl trivial ?_)
  have:RI.v ⟨b.neg,q0f (val b.mag-val a.mag)⟩=a.v+b.v:=by
   unfold RI.v;simp only[q0m,g];cases a.neg<;>simp<;>omega
  rw[this];rfl
 rw[if_neg hlt]at s1
 refine q02 rfl rfl s1 (gg rfl (q0e rfl (gg rfl (q02 rfl rfl (q5F a.neg _ (by omega)) ?_))))
 refine gg rfl (q08 rfl rfl rfl trivial ?_)
 have:RI.v ⟨a.neg,q0f (val a.mag-val b.mag)⟩=a.v+b.v:=by
  unfold RI.v;simp only[q0m,g];cases a.neg<;>simp<;>omega
 rw[this];rfl
theorem q4j (a b:RI){j k:Nat} [ha:Sz a.mag j] [hb:Sz b.mag k](hj:j≤100000000)(hk:k≤100000000):PU qqJ [a.enc,b.enc]=some (encI (a.v*b.v)):=by
 have la:=ha.len
 have lb:=hb.len
 have nba:NB (val a.mag) j:=inferInstance
 have nbb:NB (val b.mag) k:=inferInstance
 have sM:Sz (q0f (val a.mag*val b.mag)) (j+k):=⟨q0A _,q0p.2 (q2k nba.lt nbb.lt)⟩
 refine q0g (fn:=qfa) rfl (q0a ?_)
 refine gg rfl (q02 rfl rfl (qp4 a.mag b.mag (by omega) (by omega)) ?_)
 refine gg rfl (q02 rfl rfl (q5F _ _ (by omega)) ?_)
 refine gg rfl (q08 rfl rfl rfl trivial ?_)
 have:RI.v ⟨!(a.neg==b.neg),q0f (val a.mag*val b.mag)⟩=a.v*b.v:=by
  unfold RI.v;simp only[q0m];cases a.neg<;>cases b.neg<;>simp[Int.mul_neg,Int.neg_mul]
 rw[this];rfl
theorem orU64g {a b m:Nat}(hm:m≤64)(ha:a<2^m)(hb:b*2^m<18446744073709551616):IntKind.u64.wrap ((BitVec.ofInt IntKind.u64.bits (a:Int) |||BitVec.ofInt IntKind.u64.bits ((b*2^m:Nat):Int)).toNat:Int)=((a+b*2^m:Nat):Int):=by
 have hp:2^m≤18446744073709551616:=by simpa using Nat.pow_le_pow_right (n:=2) (by decide) hm
 rw[BitVec.or_comm,q7C,q7C,BitVec.toNat_or,BitVec.toNat_ofNat,BitVec.toNat_ofNat]
 have e:IntKind.u64.bits=64:=rfl
 rw[e,Nat.mod_eq_of_lt (show b*2^m<2^64 by omega),Nat.mod_eq_of_lt (show a<2^64 by omega),Nat.mul_comm b,←Nat.two_pow_add_eq_or_of_lt ha]
 have:2^m*b+a<18446744073709551616:=by
  have h1:2^m*b<2^m*2^(64-m):=by rw[←Nat.pow_add,show m+(64-m)=64 by omega,Nat.mul_comm];omega
  have h2:b+1≤2^(64-m):=Nat.lt_of_mul_lt_mul_left h1
  have h3:=Nat.mul_le_mul_left (2^m) h2
  rw[←Nat.pow_add,show m+(64-m)=64 by omega,Nat.mul_add]at h3
  omega
 rw[q0C this,Nat.add_comm]
def q9y (z:Int):D:=if-9223372036854775808≤z∧z≤9223372036854775807 then .tup [.int .i64 z,.bool true]else .tup [.int .i64 0,.bool false]
set_option maxHeartbeats 1000000 in
theorem qF4 (a:RI){k:Nat} [ha:Sz a.mag k](hk:k≤500000000):PU qmg [a.enc]=some (q9y a.v):=by
 refine q0g (fn:=qbC) rfl (q0a ?_)
 refine gg rfl (q02 rfl rfl (q3V a hk) (gg rfl ?_))
 have hMo:LOk (q0f a.v.natAbs):=q0A _
 have hMv:val (q0f a.v.natAbs)=a.v.natAbs:=q0m _
 have hlen:(q0f a.v.natAbs).length≤2↔a.v.natAbs<18446744073709551616:=by rw[q0p]
 have hneg:(RI.of a.v).neg=decide (a.v<0):=rfl
 have hmag:(RI.of a.v).mag=q0f a.v.natAbs:=rfl
 rw[hmag]at*
 generalize q0f a.v.natAbs=M at*
 rw[List.length_map]
 refine q01 rfl (fun h1=>?_) (fun h1=>?_)
 ·rw[q06]at h1
  refine gg rfl (q08 rfl rfl rfl trivial ?_)
  rw[q9y,if_neg (by omega)]
 rw[q07]at h1
 have h2:=hlen.1 (by omega)
 refine gg rfl (q0l (S:=fun x:Nat=>([.ptr 0 0 0,.int .u64 (val (M.take x)),nat M,q00 M.length,q00 x],[some (.row [.agg [.bool (decide (a.v<0)),nat M]] 2),none,none,none,none],[0,0,0,0,0])) (C:=fun x=>x≤M.length) (m:=fun x=>M.length-x) 0 (Nat.zero_le _) (by omega) ?_ ?_)
 ·exact q03 rfl ⟨rfl,trivial⟩ (by simp[nat,q00,val,hneg])
 intro i hi N hN
 refine gg rfl (q01 rfl (fun g1=>?_) (fun g1=>?_))
 ·rw[q06]at g1
  have hlt:i<M.length:=by omega
  have hx:=q1k hMo i
  have wi:=wS (n:=i)
  have w3:IntKind.i64.wrap (32*(i:Int))=((32*i:Nat):Int):=by rw[wrap64 (by omega) (by omega)];omega
  have wx:IntKind.u64.wrap (dg M i:Int)=(dg M i:Int):=q0C (by omega)
  have hb:dg M i*2^(32*i)<18446744073709551616:=by
   have:i=0∨i=1:=by omega
   rcases this with rfl|rfl<;>simp<;>omega
  have hv:=q2a hMo i
  have ho:=orU64g (a:=val (M.take i)) (b:=dg M i) (m:=32*i) (by omega) (by rw[Nat.pow_mul];exact hv) hb
  refine gg rfl (q0i i rfl rfl rfl (q2z hlt) rfl (gg rfl (q6w (dg M i) (32*i) rfl rfl wx w3 (by show 32*i≤64;omega) (q0C hb) ?_)))
  refine gg rfl ?_
  rw[ho]
  refine q04 (hN (i+1) hlt (by omega) (q03 rfl ⟨rfl,trivial⟩ ?_))
  have e:val (M.take (i+1))=val (M.take i)+dg M i*2^(32*i):=by rw[q0Q,Nat.pow_mul,Nat.mul_comm]
  simp[nat,q00,wi,e]
 rw[q07]at g1
 obtain rfl:i=M.length:=by omega
 have e1:IntKind.i64.wrap (IntKind.u64.wrap (0-(a.v.natAbs:Int)))= -(a.v.natAbs:Int)∨9223372036854775808<a.v.natAbs:=by
  by_cases h:a.v.natAbs≤9223372036854775808
  ·left
   rw[q0T]
   simp[IntKind.wrap,IntKind.bits,IntKind.signed]
   omega
  right;omega
 have e2:IntKind.i64.wrap (a.v.natAbs:Int)=(a.v.natAbs:Int)∨9223372036854775808≤a.v.natAbs:=by
  by_cases h:a.v.natAbs<9223372036854775808
  ·left;exact wrap64 (by omega) (by omega)
  right;omega
 rw[List.take_length,hMv]at*
 clear hN
 refine gg rfl (q04 ?_)
 repeat' (first
  |refine goP 800 rfl rfl ?_
  |refine q0h rfl ?_|refine q0o rfl ?_|refine q09 rfl (fun _=>?_) (fun _=>?_)
  |refine q0e rfl ?_|refine q0j rfl ?_|refine q01 rfl (fun _=>?_) (fun _=>?_)
  |refine q0L rfl (fun _=>?_) (fun _=>?_)
  |refine q08 rfl rfl rfl trivial ?_)
 all_goals simp only[q1M,q26,decide_eq_true_eq,decide_eq_false_iff_not,Bool.not_eq_true',Bool.not_eq_false']at*
 all_goals unfold q9y
 all_goals (rcases e1 with e1|e1<;>rcases e2 with e2|e2<;>(try rw[e1])<;>(try rw[e2])<;>split<;>first|(exfalso;omega) |rfl|(simp;omega) |trace_state)
end Go.F

namespace Go.F
def q7s (q:Rat):D:=(RR.of q).enc
theorem RR.of_v (q:Rat):(RR.of q).v=q:=by
 show mkRat (RI.of q.num).v (val (q0f q.den))=q
 rw[RI.of_v,q0m,Rat.mkRat_self]
theorem qHg (n:Int)(d k:Nat)(hk:k≠0):rnd (n*k) (d*k)=rnd n d:=by
 unfold rnd
 have e:(2*(n*(k:Int)).natAbs+d*k)/(2*(d*k))=(2*n.natAbs+d)/(2*d):=by
  rw[Int.natAbs_mul]
  simp only[Int.natAbs_natCast]
  rw[←Nat.mul_assoc,←Nat.add_mul,←Nat.mul_assoc,Nat.mul_div_mul_right _ _ (Nat.pos_of_ne_zero hk)]
 have hs:n*(k:Int)<0↔n<0:=by
  have hk':(0:Int)<k:=by omega
  constructor
  ·intro h
   by_cases hn:n<0
   ·exact hn
   have:=Int.mul_nonneg (show 0≤n by omega) (Int.le_of_lt hk');omega
  intro h;exact Int.mul_neg_of_neg_of_pos h hk'
 rw[e]
 by_cases h:n<0
 ·rw[if_pos h,if_pos (hs.2 h)]
 rw[if_neg h,if_neg (fun h'=>h (hs.1 h'))]
theorem qjB (n:Int){d:Nat}(hd:d≠0):q1m (mkRat n d)=rnd n d:=by
 obtain⟨k,hk,h1,h2⟩:=Rat.normalize_num_den' n d hd
 rw[Rat.normalize_eq_mkRat]at h1 h2
 show rnd (mkRat n d).num (mkRat n d).den=rnd n d
 rw[←qHg _ _ k hk,←h1,←h2]
theorem qBq {n:Int}{d:Nat}(hd:d≠0):q7s (mkRat n d)=.agg [.bool (decide (n<0)),nat (q0f (n.natAbs/Nat.gcd n.natAbs d)),nat (q0f (d/Nat.gcd n.natAbs d))]:=by
 have e1:(mkRat n d).num.natAbs=n.natAbs/Nat.gcd n.natAbs d:=by
  rw[Rat.num_mkRat,if_neg hd,qlP (Nat.gcd_dvd_right _ _),Nat.gcd_comm]
 have e2:(mkRat n d).den=d/Nat.gcd n.natAbs d:=by
  rw[Rat.den_mkRat,if_neg hd,Nat.gcd_comm]
 have e3:(mkRat n d).num<0↔n<0:=by
  have h1:0≤(mkRat n d).num↔0≤n:=by
   rw[Rat.num_nonneg,←Rat.divInt_ofNat,Rat.divInt_nonneg_iff_of_pos_right (by omega)]
  omega
 unfold q7s RR.of RR.enc
 simp only[e1,e2]
 rw[show decide ((mkRat n d).num<0)=decide (n<0)from by simp only[e3]]
theorem RR.fix_v (a:RR):a.fix.v=a.v:=by
 unfold RR.fix
 split
 ·rename_i h
  simp only[RR.v,h,Rat.mkRat_zero]
  rfl
 rfl
theorem RR.fix_den (a:RR):val a.fix.den≠0:=by
 unfold RR.fix
 split
 ·simp[val]
 assumption
end Go.F

namespace Go.F
attribute [local irreducible] IntKind.wrap wpM
theorem qBr (l:List Nat){k:Nat} [h:Sz l k](hk:k≤100000000):PU qtH [nat l]=some (.bool (decide (val l=0))):=by
 have hl:=h.len
 refine q0g (fn:=qgP) rfl (q0a ?_)
 refine gg rfl (q02 rfl rfl (qp3 l [] (by omega) (by simp)) ?_)
 refine gg rfl (q08 rfl rfl rfl trivial ?_)
 congr 1
 rw[q2c,decide_eq_decide]
 have e:q3D (val l:Int) (val ([]:List Nat):Int)=if val l=0 then 0 else 1:=by
  show q3D (val l:Int) 0=_
  unfold q3D
  by_cases h0:val l=0
  ·simp[h0]
  rw[if_neg (by omega),if_pos (by omega),if_neg h0]
 rw[e]
 by_cases h0:val l=0<;>simp[h0]
theorem q9p (l:List Nat):PU qjl [nat l]=some (RI.enc ⟨false,l⟩):=by
 refine q0g (fn:=qa5) rfl (q0a ?_)
 exact gg rfl (q08 rfl rfl rfl trivial rfl)
theorem q58 (a:RR){k:Nat} [h:SzR a k](hk:k≤100000000):PU qqE [a.enc]=some a.fix.enc:=by
 refine q0g (fn:=qf4) rfl (q0a ?_)
 refine gg rfl (q02 rfl rfl (qBr a.den hk) (gg rfl (q01 rfl (fun g=>?_) (fun g=>?_))))
 ·refine gg rfl (q02 rfl rfl (q6D 1 (by decide)) ?_)
  refine gg rfl (q08 rfl rfl rfl trivial ?_)
  rw[RR.fix,if_pos (by simpa using g)];rfl
 refine gg rfl (q08 rfl rfl rfl trivial ?_)
 rw[RR.fix,if_neg (by simpa using g)];rfl
theorem qaJ (n:RI)(d:List Nat){j k:Nat} [hn:Sz n.mag j] [hd:Sz d k](hj:j≤100000000)(hk:k≤100000000)(hd0:val d≠0):PU qoH [n.enc,nat d]=some (q7s (mkRat n.v (val d))):=by
 have ln:=hn.len
 have ld:=hd.len
 have nbn:NB (val n.mag) j:=inferInstance
 have nbd:NB (val d) k:=inferInstance
 have hg0:Nat.gcd (val n.mag) (val d)≠0:=by
  have:=Nat.gcd_pos_of_pos_right (val n.mag) (show 0<val d by omega);omega
 have lg:(q0f (Nat.gcd (val n.mag) (val d))).length≤k:=q0p.2 (q6b (Nat.gcd_le_right _ (by omega)) nbd.lt)
 have d1:=qeF n.mag (q0f (Nat.gcd (val n.mag) (val d))) (by omega) (by omega)
 have d2:=qeF d (q0f (Nat.gcd (val n.mag) (val d))) (by omega) (by omega)
 rw[q0m,if_neg hg0]at d1 d2
 have s1:Sz (q0f (val n.mag/Nat.gcd (val n.mag) (val d))) j:=⟨q0A _,q0p.2 (q6b (Nat.div_le_self _ _) nbn.lt)⟩
 refine q0g (fn:=qcP) rfl (q0a ?_)
 refine gg rfl (q02 rfl rfl (Gcd_PU n.mag d (by omega) (by omega)) ?_)
 refine gg rfl (q02 rfl rfl d1 (gg rfl (q02 rfl rfl d2 (gg rfl (q02 rfl rfl (q3V ⟨n.neg,q0f (val n.mag/Nat.gcd (val n.mag) (val d))⟩ (by omega)) ?_)))))
 refine gg rfl (q08 rfl rfl rfl trivial ?_)
 rw[qBq hd0,RI.v_abs]
 have e1:RI.v ⟨n.neg,q0f (val n.mag/Nat.gcd (val n.mag) (val d))⟩=if n.neg then-((val n.mag/Nat.gcd (val n.mag) (val d):Nat):Int)else(val n.mag/Nat.gcd (val n.mag) (val d):Nat):=by
  rw[RI.v,q0m]
 have hdv:=Nat.div_mul_cancel (Nat.gcd_dvd_left (val n.mag) (val d))
 have e2:decide (RI.v ⟨n.neg,q0f (val n.mag/Nat.gcd (val n.mag) (val d))⟩<0)=decide (n.v<0):=by
  rw[e1,decide_eq_decide,RI.v]
  have hz:val n.mag/Nat.gcd (val n.mag) (val d)=0↔val n.mag=0:=by
   constructor
   ·intro h;rw[h]at hdv;omega
   intro h;rw[h];simp
  generalize val n.mag/Nat.gcd (val n.mag) (val d)=x at*
  split<;>omega
 have e3:(RI.v ⟨n.neg,q0f (val n.mag/Nat.gcd (val n.mag) (val d))⟩).natAbs=val n.mag/Nat.gcd (val n.mag) (val d):=by
  rw[RI.v_abs,q0m]
 show D.agg [.bool (decide (RI.v ⟨n.neg,q0f (val n.mag/Nat.gcd (val n.mag) (val d))⟩<0)),nat (q0f (RI.v ⟨n.neg,q0f (val n.mag/Nat.gcd (val n.mag) (val d))⟩).natAbs),nat (q0f (val d/Nat.gcd (val n.mag) (val d)))]=_
 rw[e2,e3]
theorem qlQ (n d:Int)(h1: -9223372036854775808≤n)(h2:n≤9223372036854775807)(h3:0<d)(h4:d≤9223372036854775807):PU qz9 [.int .i64 n,.int .i64 d]=some (.tup [q7s (mkRat n d.toNat),.bool true]):=by
 have nb:NB n.natAbs 2:=⟨by show n.natAbs<18446744073709551616;omega⟩
 have nb2:NB d.natAbs 2:=⟨by show d.natAbs<18446744073709551616;omega⟩
 have hneg:(RI.of d).neg=false:=by show decide (d<0)=false;simp;omega
 have hr:=qaJ (RI.of n) (q0f d.natAbs) (by decide) (by decide) (by rw[q0m];omega)
 rw[RI.of_v,q0m]at hr
 have hdn:d.natAbs=d.toNat:=by omega
 rw[←hdn]
 refine q0g (fn:=qnV) rfl (q0a ?_)
 refine gg rfl (q01 rfl (fun g=>?_) (fun g=>?_))
 ·rw[q1n]at g;omega
 refine gg rfl (q02 rfl rfl (qfO n (by omega) (by omega)) ?_)
 refine gg rfl (q02 rfl rfl (qfO d (by omega) (by omega)) ?_)
 refine gg rfl ?_
 have e:(!((RI.of n).neg==(RI.of d).neg))=(RI.of n).neg:=by rw[hneg];cases(RI.of n).neg<;>rfl
 rw[e]
 exact q02 rfl rfl hr (gg rfl (q08 rfl rfl rfl trivial rfl))
theorem quH (a:RR){k:Nat} [h:SzR a k](hk:k≤10000000):PU qwu [a.enc]=some (q7s (-a.v)):=by
 have h0:=a.fix_den
 have hv:=a.fix_v
 have sn:Sz (RI.of (-a.fix.num.v)).mag (k+1):=⟨q0A _,q0p.2 (by rw[Int.natAbs_neg,RI.v_abs];exact(q53 (l:=a.fix.num.mag)).lt)⟩
 have hr:=qaJ (RI.of (-a.fix.num.v)) a.fix.den (by omega) (by omega) h0
 rw[RI.of_v,←Rat.neg_mkRat]at hr
 refine q0g (fn:=qkG) rfl (q0a ?_)
 refine gg rfl (q02 rfl rfl (q58 a (by omega)) ?_)
 refine gg rfl (q02 rfl rfl (qoO a.fix.num (by omega)) ?_)
 refine gg rfl (q02 rfl rfl hr (gg rfl (q08 rfl rfl rfl trivial ?_)))
 rw[←hv];rfl
theorem qFT (l:List Nat):RI.v ⟨false,l⟩=val l:=by simp[RI.v]
theorem qbm (a b:RR){j k:Nat} [ha:SzR a j] [hb:SzR b k](hj:j≤10000000)(hk:k≤10000000):PU qwt [a.enc,b.enc]=some (q7s (a.v+b.v)):=by
 have ha0:=a.fix_den
 have hb0:=b.fix_den
 have hva:=a.fix_v
 have hvb:=b.fix_v
 have na:=(q53 (l:=a.fix.num.mag)).lt
 have nad:=(q53 (l:=a.fix.den)).lt
 have nb:=(q53 (l:=b.fix.num.mag)).lt
 have nbd:=(q53 (l:=b.fix.den)).lt
 have s1:Sz (RI.of (a.fix.num.v*val b.fix.den)).mag ((j+1)+(k+1)):=⟨q0A _,q0p.2 (by rw[Int.natAbs_mul,RI.v_abs];exact q2k na nbd)⟩
 have s2:Sz (RI.of (b.fix.num.v*val a.fix.den)).mag ((k+1)+(j+1)):=⟨q0A _,q0p.2 (by rw[Int.natAbs_mul,RI.v_abs];exact q2k nb nad)⟩
 have s3:Sz (RI.of (a.fix.num.v*val b.fix.den+b.fix.num.v*val a.fix.den)).mag (((j+1)+(k+1))+((k+1)+(j+1))+1):=
  ⟨q0A _,q0p.2 (q6b (Int.natAbs_add_le _ _) (qdQ (by rw[Int.natAbs_mul,RI.v_abs];exact q2k na nbd) (by rw[Int.natAbs_mul,RI.v_abs];exact q2k nb nad)))⟩
 have s4:Sz (q0f (val a.fix.den*val b.fix.den)) ((j+1)+(k+1)):=⟨q0A _,q0p.2 (q2k nad nbd)⟩
 have sp1:Sz (RI.mag ⟨false,b.fix.den⟩) (k+1):=(q9o (a:=b)).den
 have sp2:Sz (RI.mag ⟨false,a.fix.den⟩) (j+1):=(q9o (a:=a)).den
 have lad:=(q9o (a:=a)).den.len
 have lbd:=(q9o (a:=b)).den.len
 have m1:=q4j a.fix.num ⟨false,b.fix.den⟩ (by omega) (by omega)
 have m2:=q4j b.fix.num ⟨false,a.fix.den⟩ (by omega) (by omega)
 rw[qFT]at m1 m2
 have a1:=qoQ (RI.of (a.fix.num.v*val b.fix.den)) (RI.of (b.fix.num.v*val a.fix.den)) (by omega) (by omega)
 rw[RI.of_v,RI.of_v]at a1
 have r1:=qaJ (RI.of (a.fix.num.v*val b.fix.den+b.fix.num.v*val a.fix.den)) (q0f (val a.fix.den*val b.fix.den)) (by omega) (by omega) (by rw[q0m];exact Nat.mul_ne_zero ha0 hb0)
 rw[RI.of_v,q0m,←Rat.mkRat_add_mkRat _ _ ha0 hb0]at r1
 refine q0g (fn:=qkW) rfl (q0a ?_)
 refine gg rfl (q02 rfl rfl (q58 a (by omega)) ?_)
 refine gg rfl (q02 rfl rfl (q58 b (by omega)) ?_)
 refine gg rfl (q02 rfl rfl (q9p b.fix.den) (gg rfl (q02 rfl rfl m1 (gg rfl (q02 rfl rfl (q9p a.fix.den) (gg rfl (q02 rfl rfl m2 (gg rfl (q02 rfl rfl a1 (gg rfl (q02 rfl rfl (qp4 a.fix.den b.fix.den (by omega) (by omega)) ?_)))))))))))
 refine gg rfl (q02 rfl rfl r1 (gg rfl (q08 rfl rfl rfl trivial ?_)))
 rw[←hva,←hvb];rfl
end Go.F

namespace Go.F
attribute [local irreducible] IntKind.wrap wpM
theorem qbn (a b:RR){j k:Nat} [ha:SzR a j] [hb:SzR b k](hj:j≤1000000)(hk:k≤1000000):PU qwo [a.enc,b.enc]=some (q7s (a.v-b.v)):=by
 have h1:=qbm a (RR.of (-b.v)) (by omega) (by omega)
 rw[RR.of_v,←Rat.sub_eq_add_neg]at h1
 refine q0g (fn:=qlh) rfl (q0a ?_)
 refine gg rfl (q02 rfl rfl (quH b (by omega)) ?_)
 exact gg rfl (q02 rfl rfl h1 (gg rfl (q08 rfl rfl rfl trivial rfl)))
theorem q7t (a b:RR){j k:Nat} [ha:SzR a j] [hb:SzR b k](hj:j≤10000000)(hk:k≤10000000):PU qwr [a.enc,b.enc]=some (q7s (a.v*b.v)):=by
 have ha0:=a.fix_den
 have hb0:=b.fix_den
 have hva:=a.fix_v
 have hvb:=b.fix_v
 have na:=(q53 (l:=a.fix.num.mag)).lt
 have nad:=(q53 (l:=a.fix.den)).lt
 have nb:=(q53 (l:=b.fix.num.mag)).lt
 have nbd:=(q53 (l:=b.fix.den)).lt
 have lad:=(q9o (a:=a)).den.len
 have lbd:=(q9o (a:=b)).den.len
 have s1:Sz (RI.of (a.fix.num.v*b.fix.num.v)).mag ((j+1)+(k+1)):=⟨q0A _,q0p.2 (by rw[Int.natAbs_mul,RI.v_abs,RI.v_abs];exact q2k na nb)⟩
 have s4:Sz (q0f (val a.fix.den*val b.fix.den)) ((j+1)+(k+1)):=⟨q0A _,q0p.2 (q2k nad nbd)⟩
 have r1:=qaJ (RI.of (a.fix.num.v*b.fix.num.v)) (q0f (val a.fix.den*val b.fix.den)) (by omega) (by omega) (by rw[q0m];exact Nat.mul_ne_zero ha0 hb0)
 rw[RI.of_v,q0m,←Rat.mkRat_mul_mkRat]at r1
 refine q0g (fn:=qkh) rfl (q0a ?_)
 refine gg rfl (q02 rfl rfl (q58 a (by omega)) ?_)
 refine gg rfl (q02 rfl rfl (q58 b (by omega)) ?_)
 refine gg rfl (q02 rfl rfl (q4j a.fix.num b.fix.num (by omega) (by omega)) ?_)
 refine gg rfl (q02 rfl rfl (qp4 a.fix.den b.fix.den (by omega) (by omega)) ?_)
 refine gg rfl (q02 rfl rfl r1 (gg rfl (q08 rfl rfl rfl trivial ?_)))
 rw[←hva,←hvb];rfl
theorem qFU (a b:RR)(ha:val a.den≠0)(hb:val b.den≠0)(hbm:val b.mag≠0):mkRat (RI.v ⟨!(a.neg==b.neg),q0f (val a.mag*val b.den)⟩) (val a.den*val b.mag)=a.v/b.v:=by
 have hbv:b.v≠0:=by
  rw[RR.v,Rat.mkRat_ne_zero hb]
  intro h
  have:=RI.v_abs b.num
  rw[h]at this
  exact hbm (by simpa[RR.num]using this.symm)
 have e:mkRat (RI.v ⟨!(a.neg==b.neg),q0f (val a.mag*val b.den)⟩) (val a.den*val b.mag) *b.v=a.v:=by
  rw[RR.v,RR.v,Rat.mkRat_mul_mkRat,Rat.mkRat_eq_iff (Nat.mul_ne_zero (Nat.mul_ne_zero ha hbm) hb) ha]
  unfold RI.v RR.num
  simp only[q0m]
  cases a.neg<;>cases b.neg<;>simp<;>grind
 rw[←e,Rat.mul_div_cancel hbv]
theorem quI (a b:RR){j k:Nat} [ha:SzR a j] [hb:SzR b k](hj:j≤10000000)(hk:k≤10000000):PU qwn [a.enc,b.enc]=some (if b.v=0 then .tup [RR.enc ⟨false,[],[]⟩,.bool false]else .tup [q7s (a.v/b.v),.bool true]):=by
 have ha0:=a.fix_den
 have hb0:=b.fix_den
 have hva:=a.fix_v
 have hvb:=b.fix_v
 have na:=(q53 (l:=a.fix.mag)).lt
 have nad:=(q53 (l:=a.fix.den)).lt
 have nb:=(q53 (l:=b.fix.mag)).lt
 have nbd:=(q53 (l:=b.fix.den)).lt
 have lad:=(q9o (a:=a)).den.len
 have lbd:=(q9o (a:=b)).den.len
 have lam:=(q9o (a:=a)).mag.len
 have lbm:=(q9o (a:=b)).mag.len
 have hz:b.v=0↔val b.fix.mag=0:=by
  rw[←hvb,RR.v,Rat.mkRat_eq_zero hb0]
  have:=RI.v_abs b.fix.num
  constructor
  ·intro h;rw[h]at this;exact this.symm
  intro h;have h2:b.fix.num.v.natAbs=0:=by rw[this];exact h
  exact Int.natAbs_eq_zero.1 h2
 have s1:Sz (q0f (val a.fix.mag*val b.fix.den)) ((j+1)+(k+1)):=⟨q0A _,q0p.2 (q2k na nbd)⟩
 have s1':Sz (RI.mag ⟨!(a.fix.neg==b.fix.neg),q0f (val a.fix.mag*val b.fix.den)⟩) ((j+1)+(k+1)):=s1
 have s4:Sz (q0f (val a.fix.den*val b.fix.mag)) ((j+1)+(k+1)):=⟨q0A _,q0p.2 (q2k nad nb)⟩
 refine q0g (fn:=qkw) rfl (q0a ?_)
 refine gg rfl (q02 rfl rfl (q58 a (by omega)) ?_)
 refine gg rfl (q02 rfl rfl (q58 b (by omega)) ?_)
 refine gg rfl (q02 rfl rfl (qBr b.fix.mag (by omega)) ?_)
 refine gg rfl (q01 rfl (fun g=>?_) (fun g=>?_))
 ·have g:val b.fix.mag=0:=by simpa using g
  refine gg rfl (q08 rfl rfl rfl trivial ?_)
  rw[if_pos (hz.2 g)];rfl
 have g:val b.fix.mag≠0:=by simpa using g
 have r1:=qaJ ⟨!(a.fix.neg==b.fix.neg),q0f (val a.fix.mag*val b.fix.den)⟩ (q0f (val a.fix.den*val b.fix.mag)) (by omega) (by omega) (by rw[q0m];exact Nat.mul_ne_zero ha0 g)
 rw[q0m,qFU a.fix b.fix ha0 hb0 g,hva,hvb]at r1
 refine gg rfl (q02 rfl rfl (qp4 a.fix.mag b.fix.den (by omega) (by omega)) ?_)
 refine gg rfl (q02 rfl rfl (qp4 a.fix.den b.fix.mag (by omega) (by omega)) ?_)
 refine gg rfl (q02 rfl rfl r1 (gg rfl (q08 rfl rfl rfl trivial ?_)))
 rw[if_neg (fun h=>g (hz.1 h))];rfl
theorem qxD (a:RR)(ha:val a.den≠0):RI.v ⟨a.neg,q0f ((val a.mag+val a.mag+val a.den)/(val a.den+val a.den))⟩=q1m a.v:=by
 rw[RR.v,qjB _ ha]
 unfold rnd
 rw[RI.v_abs]
 simp only[RR.num,q0m,RI.v]
 rw[←Nat.two_mul,←Nat.two_mul]
 by_cases h0:val a.mag=0
 ·have:(2*val a.mag+val a.den)/(2*val a.den)=0:=by rw[h0];exact Nat.div_eq_of_lt (by omega)
  rw[this];simp[h0]
 by_cases hn:a.neg=true
 ·simp only[hn,if_true];rw[if_pos (by omega)]
 simp only[hn,if_false];rw[if_neg (by simp),if_neg (by rw[if_neg (by simp)];omega)]
theorem qpE (a:RR){k:Nat} [h:SzR a k](hk:k≤1000000):PU qqH [a.enc]=some (encI (q1m a.v)):=by
 have ha0:=a.fix_den
 have hva:=a.fix_v
 have na:=(q53 (l:=a.fix.mag)).lt
 have nad:=(q53 (l:=a.fix.den)).lt
 have lad:=(q9o (a:=a)).den.len
 have lam:=(q9o (a:=a)).mag.len
 have n2:=qdQ na na
 have n3:=qdQ n2 nad
 have n4:=qdQ nad nad
 have l2:=q0p.2 n2
 have l3:=q0p.2 n3
 have l4:=q0p.2 n4
 have a2:=qu0 (q0f (val a.fix.mag+val a.fix.mag)) a.fix.den (by omega) (by omega)
 rw[q0m]at a2
 have d1:=qeF (q0f (val a.fix.mag+val a.fix.mag+val a.fix.den)) (q0f (val a.fix.den+val a.fix.den)) (by omega) (by omega)
 rw[q0m,q0m,if_neg (by omega)]at d1
 have s5:Sz (RI.mag ⟨a.fix.neg,q0f ((val a.fix.mag+val a.fix.mag+val a.fix.den)/(val a.fix.den+val a.fix.den))⟩) _:=⟨q0A _,q0p.2 (q6b (Nat.div_le_self _ _) n3)⟩
 have nrm:=q3V ⟨a.fix.neg,q0f ((val a.fix.mag+val a.fix.mag+val a.fix.den)/(val a.fix.den+val a.fix.den))⟩ (by omega)
 rw[qxD a.fix ha0,hva]at nrm
 refine q0g (fn:=qf6) rfl (q0a ?_)
 refine gg rfl (q02 rfl rfl (q58 a (by omega)) ?_)
 refine gg rfl (q02 rfl rfl (qu0 a.fix.mag a.fix.mag (by omega) (by omega)) ?_)
 refine gg rfl (q02 rfl rfl a2 (gg rfl (q02 rfl rfl (qu0 a.fix.den a.fix.den (by omega) (by omega)) ?_)))
 exact gg rfl (q02 rfl rfl d1 (gg rfl (q02 rfl rfl nrm (gg rfl (q08 rfl rfl rfl trivial rfl)))))
end Go.F

namespace Go.F
attribute [local irreducible] IntKind.wrap wpM
def qjz (q:QP):D:=(RP.of q).enc
theorem RP.of_v (q:QP):(RP.of q).v=q:=by
 unfold RP.of RP.v;simp only[RR.of_v]
theorem qin (n:Int):mkRat n (1:Int).toNat=(n:Rat):=Rat.mkRat_one n
theorem qxq (x y:Int)(hx1: -9223372036854775808≤x)(hx2:x≤9223372036854775807)(hy1: -9223372036854775808≤y)(hy2:y≤9223372036854775807):PU qz7 [.int .i64 x,.int .i64 y]=some (qjz ⟨x,y⟩):=by
 have r1:=qlQ x 1 hx1 hx2 (by decide) (by decide)
 have r2:=qlQ y 1 hy1 hy2 (by decide) (by decide)
 rw[qin]at r1 r2
 refine q0g (fn:=qnR) rfl (q0a ?_)
 exact gg rfl (q02 rfl rfl r1 (gg rfl (q02 rfl rfl r2 (gg rfl (q08 rfl rfl rfl trivial rfl)))))
theorem quq (a b:RP){j k:Nat} [ha:SzP a j] [hb:SzP b k](hj:j≤1000000)(hk:k≤1000000):PU qws [a.enc,b.enc]=some (qjz (qcw a.v b.v)):=by
 refine q0g (fn:=qkE) rfl (q0a ?_)
 refine gg rfl (q02 rfl rfl (qbm a.x b.x (by omega) (by omega)) ?_)
 refine gg rfl (q02 rfl rfl (qbm a.y b.y (by omega) (by omega)) ?_)
 exact gg rfl (q08 rfl rfl rfl trivial rfl)
theorem q5Y (a b:RP){j k:Nat} [ha:SzP a j] [hb:SzP b k](hj:j≤1000000)(hk:k≤1000000):PU qwk [a.enc,b.enc]=some (qjz (q13 a.v b.v)):=by
 refine q0g (fn:=qkd) rfl (q0a ?_)
 refine gg rfl (q02 rfl rfl (qbn a.x b.x (by omega) (by omega)) ?_)
 refine gg rfl (q02 rfl rfl (qbn a.y b.y (by omega) (by omega)) ?_)
 exact gg rfl (q08 rfl rfl rfl trivial rfl)
theorem qpy (a:RP)(r:RR){j k:Nat} [ha:SzP a j] [hb:SzR r k](hj:j≤1000000)(hk:k≤1000000):PU qqG [a.enc,r.enc]=some (qjz (q3r a.v r.v)):=by
 refine q0g (fn:=qfr) rfl (q0a ?_)
 refine gg rfl (q02 rfl rfl (q7t a.x r (by omega) (by omega)) ?_)
 refine gg rfl (q02 rfl rfl (q7t a.y r (by omega) (by omega)) ?_)
 exact gg rfl (q08 rfl rfl rfl trivial rfl)
theorem qe5 (a b:RP){j k:Nat} [ha:SzP a j] [hb:SzP b k](hj:j≤100000)(hk:k≤100000):PU qqB [a.enc,b.enc]=some (q7s (q1D a.v b.v)):=by
 have s:=qbn (RR.of (a.x.v*b.y.v)) (RR.of (a.y.v*b.x.v)) (by omega) (by omega)
 rw[RR.of_v,RR.of_v]at s
 refine q0g (fn:=qf1) rfl (q0a ?_)
 refine gg rfl (q02 rfl rfl (q7t a.x b.y (by omega) (by omega)) ?_)
 refine gg rfl (q02 rfl rfl (q7t a.y b.x (by omega) (by omega)) ?_)
 exact gg rfl (q02 rfl rfl s (gg rfl (q08 rfl rfl rfl trivial rfl)))
theorem qxr (a b:RP)(t:RR){i j k:Nat} [ha:SzP a i] [hb:SzP b j] [ht:SzR t k](hi:i≤10000)(hj:j≤10000)(hk:k≤10000):PU qz6 [a.enc,b.enc,t.enc]=some (qjz (onP a.v b.v t.v)):=by
 have s:=qpy (RP.of (q13 b.v a.v)) t (by omega) (by omega)
 rw[RP.of_v]at s
 have d:=quq a (RP.of (q3r (q13 b.v a.v) t.v)) (by omega) (by omega)
 rw[RP.of_v]at d
 refine q0g (fn:=qnE) rfl (q0a ?_)
 refine gg rfl (q02 rfl rfl (q5Y b a (by omega) (by omega)) ?_)
 exact gg rfl (q02 rfl rfl s (gg rfl (q02 rfl rfl d (gg rfl (q08 rfl rfl rfl trivial rfl)))))
def q3y (a b c d:QP):Option QP:=
 if q1D (q13 b a) (q13 d c)=0 then none else some (onP a b (q1D (q13 c a) (q13 d c)/q1D (q13 b a) (q13 d c)))
def qBn:Option QP→D
 |none=> .tup [RP.enc ⟨⟨false,[],[]⟩,⟨false,[],[]⟩⟩,.int .i64 10]
 |some p=> .tup [qjz p,.int .i64 0]
theorem qr4 (a b c d:RP){k:Nat} [ha:SzP a k] [hb:SzP b k] [hc:SzP c k] [hd:SzP d k](hk:k≤100):PU qtv [a.enc,b.enc,c.enc,d.enc]=some (qBn (q3y a.v b.v c.v d.v)):=by
 have c1:=qe5 (RP.of (q13 c.v a.v)) (RP.of (q13 d.v c.v)) (by omega) (by omega)
 have c2:=qe5 (RP.of (q13 b.v a.v)) (RP.of (q13 d.v c.v)) (by omega) (by omega)
 rw[RP.of_v,RP.of_v]at c1 c2
 have dv:=quI (RR.of (q1D (q13 c.v a.v) (q13 d.v c.v))) (RR.of (q1D (q13 b.v a.v) (q13 d.v c.v))) (by omega) (by omega)
 rw[RR.of_v,RR.of_v]at dv
 refine q0g (fn:=qhb) rfl (q0a ?_)
 refine gg rfl (q02 rfl rfl (q5Y d c (by omega) (by omega)) ?_)
 refine gg rfl (q02 rfl rfl (q5Y c a (by omega) (by omega)) ?_)
 refine gg rfl (q02 rfl rfl c1 (gg rfl (q02 rfl rfl (q5Y b a (by omega) (by omega)) ?_)))
 refine gg rfl (q02 rfl rfl c2 (gg rfl ?_))
 by_cases h0:q1D (q13 b.v a.v) (q13 d.v c.v)=0
 ·rw[if_pos h0]at dv
  refine q02 rfl rfl dv (gg rfl (q0e rfl (gg rfl (q08 rfl rfl rfl trivial ?_))))
  rw[q3y,if_pos h0];rfl
 rw[if_neg h0]at dv
 have o:=qxr a b (RR.of (q1D (q13 c.v a.v) (q13 d.v c.v)/q1D (q13 b.v a.v) (q13 d.v c.v))) (by omega) (by omega) (by omega)
 rw[RR.of_v]at o
 refine q02 rfl rfl dv (gg rfl (q0j rfl (gg rfl (q02 rfl rfl o (gg rfl (q08 rfl rfl rfl trivial ?_))))))
 rw[q3y,if_neg h0];rfl
def q8y (z:Int):Bool:=decide (-1048576≤z)&&decide (z≤1048576)
theorem qfR (r:RR){k:Nat} [h:SzR r k](hk:k≤100000):PU qgl [r.enc]=some (.tup [.int .i64 (if-9223372036854775808≤q1m r.v∧q1m r.v≤9223372036854775807 then q1m r.v else 0),.bool (q8y (q1m r.v))]):=by
 have s:=qF4 (RI.of (q1m r.v)) (by omega)
 rw[RI.of_v]at s
 refine q0g (fn:=q81) rfl (q0a ?_)
 refine gg rfl (q02 rfl rfl (qpE r (by omega)) ?_)
 refine gg rfl ?_
 by_cases h1: -9223372036854775808≤q1m r.v∧q1m r.v≤9223372036854775807
 ·rw[q9y,if_pos h1]at s
  rw[if_pos h1]
  refine q02 rfl rfl s ?_
  repeat' (first
   |refine goP 800 rfl rfl ?_
   |refine q0h rfl ?_|refine q0o rfl ?_|refine q09 rfl (fun _=>?_) (fun _=>?_)
   |refine q0e rfl ?_|refine q0j rfl ?_|refine q01 rfl (fun _=>?_) (fun _=>?_)
   |refine q0L rfl (fun _=>?_) (fun _=>?_)
   |refine q08 rfl rfl rfl trivial ?_)
  all_goals simp only[q1M,q26,decide_eq_true_eq,decide_eq_false_iff_not]at*
  all_goals simp only[q8y]
  all_goals simp_all
  all_goals omega
 rw[q9y,if_neg h1]at s
 rw[if_neg h1]
 refine q02 rfl rfl s ?_
 repeat' (first
  |refine goP 800 rfl rfl ?_
  |refine q0h rfl ?_|refine q0o rfl ?_|refine q09 rfl (fun _=>?_) (fun _=>?_)
  |refine q0e rfl ?_|refine q0j rfl ?_|refine q01 rfl (fun _=>?_) (fun _=>?_)
  |refine q0L rfl (fun _=>?_) (fun _=>?_)
  |refine q08 rfl rfl rfl trivial ?_)
 all_goals simp only[q8y]
 all_goals (simp;omega)
def q2w (p:QP):Spot×Int:=if q8y (q1m p.x)&&q8y (q1m p.y)then(⟨q1m p.x,q1m p.y⟩,0)else(⟨0,0⟩,3)
theorem q3e {z:Int}:q8y z=true↔ -1048576≤z∧z≤1048576:=by simp[q8y]
theorem qHd (p:RP){k:Nat} [h:SzP p k](hk:k≤100000):PU qtw [p.enc]=some (.tup [(q2w p.v).1.enc,.int .i64 (q2w p.v).2]):=by
 have ex:p.v.x=p.x.v:=rfl
 have ey:p.v.y=p.y.v:=rfl
 refine q0g (fn:=qgU) rfl (q0a ?_)
 refine gg rfl (q02 rfl rfl (qfR p.x hk) (gg rfl (q02 rfl rfl (qfR p.y hk) (gg rfl (q09 rfl (fun g1=>?_) (fun g1=>?_))))))
 ·repeat' (first
   |refine goP 800 rfl rfl ?_
   |refine q0h rfl ?_|refine q0o rfl ?_|refine q09 rfl (fun _=>?_) (fun _=>?_)
   |refine q0e rfl ?_|refine q0j rfl ?_|refine q01 rfl (fun _=>?_) (fun _=>?_)
   |refine q0L rfl (fun _=>?_) (fun _=>?_)
   |refine q08 rfl rfl rfl trivial ?_)
  simp only[Bool.not_eq_true',Bool.not_eq_false']at g1
  rw[q2w,ex,ey,g1];rfl
 simp only[Bool.not_eq_true',Bool.not_eq_false']at g1
 repeat' (first
  |refine goP 800 rfl rfl ?_
  |refine q0h rfl ?_|refine q0o rfl ?_|refine q09 rfl (fun _=>?_) (fun _=>?_)
  |refine q0e rfl ?_|refine q0j rfl ?_|refine q01 rfl (fun _=>?_) (fun _=>?_)
  |refine q0L rfl (fun _=>?_) (fun _=>?_)
  |refine q08 rfl rfl rfl trivial ?_)
 ·rename_i g2
  simp only[Bool.not_eq_true',Bool.not_eq_false']at g2
  rw[q2w,ex,ey,g1,g2];rfl
 rename_i g2
 simp only[Bool.not_eq_true',Bool.not_eq_false']at g2
 have g1':=q3e.1 g1
 have g2':=q3e.1 g2
 rw[q2w,ex,ey,g1,g2,if_pos (by omega),if_pos (by omega)];rfl
end Go.F

namespace Go.F
attribute [local irreducible] IntKind.wrap wpM
set_option maxRecDepth 100000 in
theorem qBN:(prog.funcs[qdL]?).map (fun fn=>fn.body.isNone&&fn.name== "math.sqrt")=some true:=by kernel_rfl
theorem qEf {x y:Nat}(h:FloatKind.f64.format.sqrt x=some y):PU qdL [.float .f64 x]=some (.float .f64 y):=by
 refine qiY (n:=1) ?_
 have h0:=qBN
 cases hf:prog.funcs[qdL]? with
 |none=>rw[hf]at h0;simp at h0
 |some fn=>
  rw[hf]at h0
  simp only[Option.map_some,Option.some.injEq,Bool.and_eq_true]at h0
  obtain⟨h1,h2⟩:=h0
  have hb:fn.body=none:=by simpa using h1
  simp only[run,env,hf,hb,h2,if_true,qEF,h]
  rfl
theorem qGD {x y:Nat}(h:FloatKind.f64.format.sqrt x=some y):PU qwm [.float .f64 x]=some (.float .f64 y):=by
 refine q0g (fn:=qku) rfl (q0a ?_)
 exact gg rfl (q02 rfl rfl (qEf h) (gg rfl (q08 rfl rfl rfl trivial rfl)))
section
variable {T:Tab}{sh:Shr}{nx0:Nat}{s:List Fr}{t:q0x}{h:q0d}{z:Frz}{nx:Nat}{q:Ex→q0x→q0d→Frz→Nat→Prop}
variable {base i:Nat}{res:List Nat}{dst:Nat}{g:Gd}{rest:List KOper}
theorem atCvF {k:IntKind}{x:X}{b:Nat}{n:Int}(hx:x.ev t=.float .f64 b)(hd:(FloatKind.f64.decode b).toInt .zero=some n)(hb:k.min≤n∧n≤k.max)
 (hk:wpM T sh nx0 (.ops base res rest::s) .normal (upd t dst (.int k n)) h z nx q):
 wpM T sh nx0 (.ops base res (⟨i,some dst,none,g,.conv (.int k) x⟩::rest)::s) .normal t h z nx q:=by
 refine q3u ?_
 simp only[kop,qdR,hx]
 exact qpG hd (q1r hb hk)
end
def isq (n:Nat):Nat:=qm1 n 27 0
theorem qgC {n:Nat}(h:n<2^54):isq n*isq n≤n∧n<(isq n+1) *(isq n+1):=
 qrq n 27 0 (Nat.zero_le _) (by simp;omega)
theorem qn0 {n r:Nat}(h:n<2^54)(h1:r*r≤n)(h2:n<(r+1) *(r+1)):r=isq n:=by
 obtain⟨g1,g2⟩:=qgC h
 have:=qgD (Nat.lt_of_le_of_lt h1 g2)
 have:=qgD (Nat.lt_of_le_of_lt g1 h2)
 omega
set_option maxHeartbeats 1000000 in
theorem qGE (n:Nat)(hn:n<2^50):PU qjf [.int .i64 n]=some (.int .i64 (isq n)):=by
 obtain⟨y,r0,h1,h2,h3,h4⟩:=qC5 n (by omega)
 refine q0g (fn:=q9V) rfl (q0a ?_)
 refine gg rfl (q02 rfl rfl (qGD h1) (gg rfl (atCvF rfl h2 ⟨by have:IntKind.i64.min= -9223372036854775808:=rfl;omega,by have:IntKind.i64.max=9223372036854775807:=rfl;omega⟩ ?_)))
 refine gg rfl ?_
 obtain⟨a,rfl⟩:∃a:Nat,r0=a:=⟨r0.toNat,by omega⟩
 refine q0l (S:=fun r:Nat=>([q00 n,q00 r],[none,none],[0,0])) (C:=fun r=>r≤268435456) (m:=fun r=>r) a (by omega) (by omega) ?_ ?_
 ·exact q03 rfl trivial (by simp[q00])
 intro r hr N hN
 have wr:IntKind.i64.wrap ((r:Int) *r)=((r*r:Nat):Int):=by
  have hb:r*r≤268435456*268435456:=Nat.mul_le_mul hr hr
  rw[←Int.natCast_mul];exact qcD (by omega)
 refine gg rfl ?_
 rw[wr]
 refine q01 rfl (fun g1=>?_) (fun g1=>?_)
 ·rw[q06]at g1
  have hr0:r≠0:=by rintro rfl;simp at g1;omega
  have w1:IntKind.i64.wrap ((r:Int)-1)=((r-1:Nat):Int):=by rw[wrap64 (by omega) (by omega)];omega
  exact gg rfl (q04 (hN (r-1) (by omega) (by omega) (q03 rfl trivial (by simp[q00,w1]))))
 rw[q07]at g1
 have g1':r*r≤n:=by omega
 clear hN
 refine gg rfl (q04 (gg rfl (q0l (S:=fun r:Nat=>([q00 n,q00 r],[none,none],[0,0])) (C:=fun r=>r*r≤n) (m:=fun r=>n-r) r g1' (by omega) ?_ ?_)))
 ·exact q03 rfl trivial (by simp[q00])
 intro r hr N hN
 have hrl:r<33554432:=qgD (by omega)
 have w1:=wS (n:=r)
 have w2:IntKind.i64.wrap (((r+1:Nat):Int) *((r+1:Nat):Int))=(((r+1) *(r+1):Nat):Int):=by
  have hb:(r+1) *(r+1)≤33554432*33554432:=Nat.mul_le_mul hrl hrl
  rw[←Int.natCast_mul];exact qcD (by omega)
 refine gg rfl ?_
 rw[w1,w2]
 refine q01 rfl (fun g2=>?_) (fun g2=>?_)
 ·rw[q0G]at g2
  have g2':(r+1) *(r+1)≤n:=by omega
  have hlt:r<n:=by
   have:(r+1) *1≤(r+1) *(r+1):=Nat.mul_le_mul_left _ (by omega)
   omega
  exact gg rfl (q04 (hN (r+1) g2' (by omega) (q03 rfl trivial (by simp[q00,w1]))))
 rw[q0H]at g2
 refine gg rfl (q04 (gg rfl (q08 rfl rfl rfl trivial ?_)))
 rw[qn0 (n:=n) (r:=r) (by omega) hr (by omega)]
end Go.F
