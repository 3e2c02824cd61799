/- Parts of the proof, part 49: RG4, RG5, V15, VSiz. -/
import Derived.Test.YtakaifogljbgoaaGreatZ44
import Derived.Test.YtakaifogljbgoaaGreatZ48
set_option linter.all false
namespace Go.F
attribute [local irreducible] IntKind.wrap wpM
set_option maxHeartbeats 2000000 in
theorem qxt (s:ByteArray):PU qz5 [.str s]=some (.bool (sizeS s)):=by
 refine q0g (fn:=qnc) rfl (q0a ?_)
 refine gg rfl (q09 rfl (fun h0=>?_) (fun h0=>?_))
 ·repeat' (first
   |refine goP 800 rfl rfl ?_
   |refine q0h rfl ?_|refine q0o rfl ?_|refine q09 rfl (fun _=>?_) (fun _=>?_)
   |refine q0e rfl ?_|refine q0j rfl ?_|refine q01 rfl (fun _=>?_) (fun _=>?_)
   |refine q0L rfl (fun _=>?_) (fun _=>?_)
   |refine q08 rfl rfl rfl trivial ?_)
  rw[qb7,qhV,decide_eq_true_eq]at h0
  simp[sizeS,h0]
 refine gg rfl ?_
 rw[qb7,qhV,decide_eq_false_iff_not]at h0
 refine q01 rfl (fun h1=>?_) (fun h1=>?_)
 ·refine gg rfl (q08 rfl rfl rfl trivial ?_)
  rw[q06]at h1
  have:¬s.size≤8:=by omega
  simp[sizeS,this]
 rw[q07]at h1
 refine gg rfl (q0l (S:=fun k:Nat=>([.str s,q00 k],[none,none],[0,0])) (C:=fun k=>k≤s.size∧∀i,i<k→q2S (q2r s i).toNat=true) (m:=fun k=>s.size-k) 0 ⟨by omega,fun i hi=>by omega⟩ (by omega) ?_ ?_)
 ·exact q03 rfl trivial (by simp[q00])
 intro k ⟨hk,hall⟩ N hN
 refine gg rfl (q01 rfl (fun g1=>?_) (fun g1=>?_))
 ·rw[q06]at g1
  have hlt:k<s.size:=by omega
  have w1:=wS (n:=k)
  have hb:=q6j hlt
  have hno:=qy1 hlt
  have hyes:q2S (q2r s k).toNat=true→∀i,i<k+1→q2S (q2r s i).toNat=true:=by
   intro h i hi
   by_cases e:i=k
   ·subst e;exact h
   exact hall i (by omega)
  generalize q2r s k=c at*
  refine gg rfl (q2d k rfl rfl rfl hb (gg rfl (q09 rfl (fun a1=>?_) (fun a1=>?_))))
  ·refine gg rfl (q2d k rfl rfl rfl hb (gg rfl (q09 rfl (fun a2=>?_) (fun a2=>?_))))
   ·have hc:q2S c.toNat=true:=by rw[q1z];simp_all
    exact gg rfl (q0j rfl (gg rfl (q04 (hN (k+1) ⟨hlt,hyes hc⟩ (by omega) (q03 rfl trivial (by simp[q00,w1]))))))
   refine gg rfl (q2d k rfl rfl rfl hb (gg rfl (q09 rfl (fun d1=>?_) (fun d1=>?_))))
   ·refine gg rfl (q2d k rfl rfl rfl hb (gg rfl (q01 rfl (fun d2=>?_) (fun d2=>?_))))
    ·have hc:q2S c.toNat=false:=by rw[q1z];simp_all
     refine gg rfl (q04 (gg rfl (q08 rfl rfl rfl trivial ?_)))
     rw[hno hc]
    have hc:q2S c.toNat=true:=by rw[q1z];simp_all
    exact gg rfl (q04 (hN (k+1) ⟨hlt,hyes hc⟩ (by omega) (q03 rfl trivial (by simp[q00,w1]))))
   have hc:q2S c.toNat=false:=by rw[q1z];simp_all
   refine gg rfl (q0e rfl (gg rfl (q04 (gg rfl (q08 rfl rfl rfl trivial ?_)))))
   rw[hno hc]
  refine gg rfl (q0o rfl (gg rfl (q2d k rfl rfl rfl hb (gg rfl (q09 rfl (fun d1=>?_) (fun d1=>?_))))))
  ·refine gg rfl (q2d k rfl rfl rfl hb (gg rfl (q01 rfl (fun d2=>?_) (fun d2=>?_))))
   ·have hc:q2S c.toNat=false:=by rw[q1z];simp_all
    refine gg rfl (q04 (gg rfl (q08 rfl rfl rfl trivial ?_)))
    rw[hno hc]
   have hc:q2S c.toNat=true:=by rw[q1z];simp_all
   exact gg rfl (q04 (hN (k+1) ⟨hlt,hyes hc⟩ (by omega) (q03 rfl trivial (by simp[q00,w1]))))
  have hc:q2S c.toNat=false:=by rw[q1z];simp_all
  refine gg rfl (q0e rfl (gg rfl (q04 (gg rfl (q08 rfl rfl rfl trivial ?_)))))
  rw[hno hc]
 rw[q07]at g1
 obtain rfl:k=s.size:=by omega
 refine gg rfl (q04 (gg rfl (q08 rfl rfl rfl trivial ?_)))
 rw[sizeS,decide_eq_true hall,decide_eq_true (show 1≤s.size by omega),decide_eq_true (show s.size≤8 by omega)];rfl
def sizedB (s:Sty):Bool:=decide (q1K s.name=true∧s.sizes.length≠0∧s.sizes.any (fun x=>!sizeS x)=false∧0∈s.mults∧s.mults.length=s.sizes.length)
set_option maxHeartbeats 4000000 in
theorem qus (s:Sty)(hB:StyB s):PU qwh [s.enc]=some (.bool (sizedB s)):=by
 have b1:=hB.sizes
 have b2:=hB.mults
 refine q0g (fn:=qkR) rfl (q0a ?_)
 refine gg rfl (q02 rfl rfl (qdJ s.name) ?_)
 cases hn:q1K s.name with
 |false=>
  refine gg rfl (q0h rfl (gg rfl (q0e rfl (gg rfl (q08 rfl rfl rfl trivial ?_)))))
  simp[sizedB,hn]
 |true=>
  refine gg rfl (q0o rfl (gg rfl ?_))
  rw[List.length_map]
  refine q01 rfl (fun g=>?_) (fun g=>?_)
  ·rw[q1n]at g
   refine gg rfl (q08 rfl rfl rfl trivial ?_)
   have:s.sizes.length=0:=by omega
   rw[sizedB,decide_eq_false (fun h=>h.2.1 this)]
  rw[q20]at g
  refine gg rfl (q0l (S:=fun k:Nat=>([.ptr 0 0 0,q00 k],[some (.row [s.enc] 7),none],[0,0])) (C:=fun k=>k≤s.sizes.length∧∀j (hj:j<s.sizes.length),j<k→sizeS s.sizes[j]=true) (m:=fun k=>s.sizes.length-k) 0 ⟨Nat.zero_le _,fun j _ h=>by omega⟩ (by omega) ?_ ?_)
  ·exact q03 rfl ⟨rfl,trivial⟩ rfl
  rintro k ⟨hk,hall⟩ N hN
  refine gg rfl ?_
  rw[List.length_map]
  refine q01 rfl (fun e=>?_) (fun e=>?_)
  ·rw[q06]at e
   have hlt:k<s.sizes.length:=by omega
   have w1:=wS (n:=k)
   have hz:=qxt s.sizes[k]
   refine gg rfl (q0i k rfl rfl rfl (q1B hlt) rfl (gg rfl (q02 rfl rfl hz ?_)))
   cases hv:sizeS s.sizes[k]with
   |false=>
    refine gg rfl (q0e rfl (gg rfl (q04 (gg rfl (q08 rfl rfl rfl trivial ?_)))))
    have ha:s.sizes.any (fun x=>!sizeS x)=true:=q27 hlt (by rw[hv];rfl)
    rw[sizedB,decide_eq_false (fun h=>by rw[ha]at h;cases h.2.2.1)]
   |true=>
    refine gg rfl (q0j rfl (gg rfl (q04 (hN (k+1) ⟨hlt,fun j hj hjk=>?_⟩ (by omega) (q03 rfl ⟨rfl,trivial⟩ (by rw[w1];rfl))))))
    by_cases ej:j=k
    ·subst ej;exact hv
    exact hall j hj (by omega)
  rw[q07]at e
  obtain rfl:k=s.sizes.length:=by omega
  clear hN
  have hc2:s.sizes.any (fun x=>!sizeS x)=false:=q1W fun j hj=>by rw[hall j hj hj];rfl
  refine gg rfl (q04 (gg rfl (q0l (S:=fun k:Nat=>([.ptr 0 0 0,.bool (decide (0∈s.mults.take k)),q00 k],[some (.row [s.enc] 7),none,none],[0,0,0])) (C:=fun k=>k≤s.mults.length) (m:=fun k=>s.mults.length-k) 0 (Nat.zero_le _) (by omega) ?_ ?_)))
  ·exact q03 rfl ⟨rfl,trivial⟩ (by simp[q00])
  intro k hk N hN
  refine gg rfl ?_
  rw[List.length_map]
  refine q01 rfl (fun e=>?_) (fun e=>?_)
  ·rw[q06]at e
   have hlt:k<s.mults.length:=by omega
   have w1:=wS (n:=k)
   have hst:(0∈s.mults.take (k+1))↔(0∈s.mults.take k∨mu s.mults k=0):=by
    rw[List.take_succ_eq_append_getElem hlt,List.mem_append,List.mem_singleton,qv2 hlt]
    exact⟨fun h=>h.imp id Eq.symm,fun h=>h.imp id Eq.symm⟩
   cases hb:decide (0∈s.mults.take k)with
   |true=>
    have hb:=of_decide_eq_true hb
    refine gg rfl (q0h rfl (gg rfl (q04 (hN (k+1) hlt (by omega) (q03 rfl ⟨rfl,trivial⟩ ?_)))))
    rw[w1,decide_eq_true (hst.2 (.inl hb))];rfl
   |false=>
    have hb:=of_decide_eq_false hb
    refine gg rfl (q0o rfl (gg rfl (q0i k rfl rfl rfl (q9H hlt) rfl (gg rfl (q04 (hN (k+1) hlt (by omega) (q03 rfl ⟨rfl,trivial⟩ ?_)))))))
    have e2:decide (0∈s.mults.take (k+1))=eqb (mu s.mults k) 0:=by
     rw[q2c]
     exact decide_eq_decide.2 ⟨fun h=>(hst.1 h).resolve_left hb,fun h=>hst.2 (.inr h)⟩
    rw[w1,e2];rfl
  rw[q07]at e
  obtain rfl:k=s.mults.length:=by omega
  clear hN
  rw[List.take_length]
  refine gg rfl (q04 (gg rfl ?_))
  cases hz:decide (0∈s.mults)with
  |false=>
   have hz:=of_decide_eq_false hz
   refine q0o rfl (gg rfl (q08 rfl rfl rfl trivial ?_))
   rw[sizedB,decide_eq_false (fun h=>hz h.2.2.2.1)]
  |true=>
   have hz:=of_decide_eq_true hz
   refine q0h rfl (gg rfl (q08 rfl rfl rfl trivial ?_))
   rw[List.length_map,List.length_map,q2c,sizedB]
   congr 1
   refine decide_eq_decide.2 ⟨fun h=>⟨hn,by omega,hc2,hz,by omega⟩,fun h=>?_⟩
   have:=h.2.2.2.2
   omega
set_option maxHeartbeats 4000000 in
theorem qut (l:List ByteArray)(hl:l.length≤1000):PU qwi [strs l]=some (.bool (q4P l)):=by
 refine q0g (fn:=qkT) rfl (q0a ?_)
 refine gg rfl (q0l (S:=fun k:Nat=>([strs l,q00 k],[none,none],[0,0])) (C:=fun k=>k≤l.length∧∀i,i<k→((l.take i).any fun x=>x.toList==(sz l i).toList)=false) (m:=fun k=>l.length-k) 0 ⟨Nat.zero_le _,fun j h=>by omega⟩ (by omega) ?_ ?_)
 ·exact q03 rfl trivial rfl
 rintro k ⟨hk,htw⟩ N hN
 refine gg rfl ?_
 rw[List.length_map]
 refine q01 rfl (fun e=>?_) (fun e=>?_)
 ·rw[q06]at e
  have hlt:k<l.length:=by omega
  have w1:=wS (n:=k)
  refine gg rfl (q0l (S:=fun j:Nat=>([strs l,q00 k,q00 j],[none,none,none],[0,0,0])) (C:=fun j=>j≤k∧∀i (hi:i<l.length),i<j→(l[i].toList==(sz l k).toList)=false) (m:=fun j=>k-j) 0 ⟨Nat.zero_le _,fun j _ h=>by omega⟩ (by omega) ?_ ?_)
  ·exact q03 rfl trivial rfl
  rintro j ⟨hj,hno⟩ N2 hN2
  refine gg rfl (q01 rfl (fun f=>?_) (fun f=>?_))
  ·rw[q06]at f
   have hjk:j<k:=by omega
   have w2:=wS (n:=j)
   refine gg rfl (q0i k rfl rfl rfl (qAi hlt) rfl (gg rfl (q0i j rfl rfl rfl (qAi (by omega)) rfl ?_)))
   refine gg rfl (q01 rfl (fun g=>?_) (fun g=>?_))
   ·refine gg rfl (q04 (gg rfl (q04 (gg rfl (q08 rfl rfl rfl trivial ?_)))))
    have ht:q4P l=true:=by
     unfold q4P
     rw[List.any_eq_true]
     refine⟨k,List.mem_range.2 hlt,?_⟩
     rw[List.any_eq_true]
     refine⟨sz l j,?_,?_⟩
     ·rw[qAh (by omega)]
      have h1:(l.take k)[j]'(by rw[List.length_take];omega)=l[j]:=by simp
      rw[←h1]
      exact List.getElem_mem _
     have g:((sz l k).toList==(sz l j).toList)=true:=g
     rw[beq_iff_eq]at g⊢
     exact g.symm
    rw[ht]
   refine gg rfl (q04 (hN2 (j+1) ⟨hjk,fun i hi hij=>?_⟩ (by omega) (q03 rfl trivial (by rw[w2];rfl))))
   by_cases ei:i=j
   ·subst ei
    have g:((sz l k).toList==(sz l i).toList)=false:=g
    rw[beq_eq_false_iff_ne]at g⊢
    rw[←qAh hi]
    exact fun h=>g h.symm
   exact hno i hi (by omega)
  rw[q07]at f
  obtain rfl:j=k:=by omega
  clear hN2
  refine gg rfl (q04 (gg rfl (q04 (hN (j+1) ⟨hlt,fun i hi=>?_⟩ (by omega) (q03 rfl trivial (by rw[w1];rfl))))))
  by_cases ei:i=j
  ·subst ei
   refine q1W fun a ha=>?_
   rw[List.length_take]at ha
   have h1:(l.take i)[a]'(by rw[List.length_take];omega)=l[a]:=by simp
   rw[h1]
   exact hno a (by omega) (by omega)
  exact htw i (by omega)
 rw[q07]at e
 obtain rfl:k=l.length:=by omega
 clear hN
 refine gg rfl (q04 (gg rfl (q08 rfl rfl rfl trivial ?_)))
 have ht:q4P l=false:=by
  unfold q4P
  rw[List.any_eq_false]
  intro i hi h
  rw[htw i (List.mem_range.1 hi)]at h;cases h
 rw[ht]
def qip (s:Sty):Bool:=decide (12<s.sizes.length∨12<s.pieces.length∨24<s.seams.length∨16<s.ops.length∨12<s.uses.length)
theorem qxu (s:Sty):PU qz2 [s.enc]=some (.bool (qip s)):=by
 refine q0g (fn:=qn8) rfl (q0a ?_)
 refine gg rfl ?_
 rw[List.length_map]
 refine q09 rfl (fun e1=>?_) (fun e1=>?_)
 ·rw[q06]at e1
  repeat' (first
   |refine goP 800 rfl rfl ?_
   |refine q0h rfl ?_|refine q0o rfl ?_|refine q09 rfl (fun _=>?_) (fun _=>?_)
   |refine q0e rfl ?_|refine q0j rfl ?_|refine q01 rfl (fun _=>?_) (fun _=>?_)
   |refine q0L rfl (fun _=>?_) (fun _=>?_)
   |refine q08 rfl rfl rfl trivial ?_)
  rw[qip,decide_eq_true (.inl (by omega))]
 rw[q07]at e1
 refine gg rfl ?_
 rw[List.length_map]
 refine q09 rfl (fun e2=>?_) (fun e2=>?_)
 ·rw[q06]at e2
  repeat' (first
   |refine goP 800 rfl rfl ?_
   |refine q0h rfl ?_|refine q0o rfl ?_|refine q09 rfl (fun _=>?_) (fun _=>?_)
   |refine q0e rfl ?_|refine q0j rfl ?_|refine q01 rfl (fun _=>?_) (fun _=>?_)
   |refine q0L rfl (fun _=>?_) (fun _=>?_)
   |refine q08 rfl rfl rfl trivial ?_)
  rw[qip,decide_eq_true (.inr (.inl (by omega)))]
 rw[q07]at e2
 refine gg rfl ?_
 rw[List.length_map]
 refine q09 rfl (fun e3=>?_) (fun e3=>?_)
 ·rw[q06]at e3
  repeat' (first
   |refine goP 800 rfl rfl ?_
   |refine q0h rfl ?_|refine q0o rfl ?_|refine q09 rfl (fun _=>?_) (fun _=>?_)
   |refine q0e rfl ?_|refine q0j rfl ?_|refine q01 rfl (fun _=>?_) (fun _=>?_)
   |refine q0L rfl (fun _=>?_) (fun _=>?_)
   |refine q08 rfl rfl rfl trivial ?_)
  rw[qip,decide_eq_true (.inr (.inr (.inl (by omega))))]
 rw[q07]at e3
 refine gg rfl ?_
 rw[List.length_map]
 refine q09 rfl (fun e4=>?_) (fun e4=>?_)
 ·rw[q06]at e4
  repeat' (first
   |refine goP 800 rfl rfl ?_
   |refine q0h rfl ?_|refine q0o rfl ?_|refine q09 rfl (fun _=>?_) (fun _=>?_)
   |refine q0e rfl ?_|refine q0j rfl ?_|refine q01 rfl (fun _=>?_) (fun _=>?_)
   |refine q0L rfl (fun _=>?_) (fun _=>?_)
   |refine q08 rfl rfl rfl trivial ?_)
  rw[qip,decide_eq_true (.inr (.inr (.inr (.inl (by omega)))))]
 rw[q07]at e4
 refine gg rfl (q08 rfl rfl rfl trivial ?_)
 rw[List.length_map,q1M,qip]
 congr 1
 exact decide_eq_decide.2 ⟨fun h=>by omega,fun h=>by omega⟩
theorem qfT (s:Sty)(p e:Int):PU qtC [s.enc,.int .i64 p,.int .i64 e]=some (.bool (q2b s p e)):=by
 refine q0g (fn:=qgN) rfl (q0a ?_)
 refine gg rfl (q09 rfl (fun g1=>?_) (fun g1=>?_))
 ·rw[q0G]at g1
  refine gg rfl ?_
  rw[List.length_map]
  refine q09 rfl (fun g2=>?_) (fun g2=>?_)
  ·rw[q06]at g2
   refine gg rfl (q09 rfl (fun g3=>?_) (fun g3=>?_))
   ·rw[q0G]at g3
    refine gg rfl (q0i p.toNat rfl rfl (by omega) (q5w (by omega)) rfl ?_)
    refine gg rfl (q08 rfl rfl rfl trivial ?_)
    rw[q2b,decide_eq_true g1,decide_eq_true g2,decide_eq_true g3,q1M,List.length_map];rfl
   rw[q0H]at g3
   refine gg rfl (q08 rfl rfl rfl trivial ?_)
   rw[q2b,decide_eq_false (show¬0≤e by omega)];simp
  rw[q07]at g2
  refine gg rfl (q0o rfl (gg rfl (q08 rfl rfl rfl trivial ?_)))
  rw[q2b,decide_eq_false (show¬p<s.pieces.length by omega)];simp
 rw[q0H]at g1
 refine gg rfl (q0o rfl (gg rfl (q0o rfl (gg rfl (q08 rfl rfl rfl trivial ?_)))))
 rw[q2b,decide_eq_false (show¬0≤p by omega)];rfl
def qDe (p:Piece):Int:=if p.widths.length≠p.edges.length then 1 else if p.widths.any q2h then 3 else 0
end Go.F

namespace Go.F
attribute [local irreducible] IntKind.wrap wpM
theorem q9E (p:Piece)(h2:p.widths.length≤1000):PU qtB [p.enc]=some (.int .i64 (qDe p)):=by
 refine q0g (fn:=qhf) rfl (q0a ?_)
 refine gg rfl ?_
 rw[List.length_map,List.length_map]
 refine q01 rfl (fun f3=>?_) (fun f3=>?_)
 ·rw[q0u]at f3
  refine gg rfl (q08 rfl rfl rfl trivial ?_)
  rw[qDe,if_pos (by omega)]
 rw[q0z]at f3
 rw[qDe,if_neg (by omega)]
 refine gg rfl (q0l (S:=fun k:Nat=>([.ptr 0 0 0,q00 k],[some (.row [p.enc] 7),none],[0,0])) (C:=fun k=>k≤p.widths.length∧∀j (hj:j<p.widths.length),j<k→q2h p.widths[j]=false) (m:=fun k=>p.widths.length-k) 0 ⟨Nat.zero_le _,fun j _ h=>by omega⟩ (by omega) ?_ ?_)
 ·exact q03 rfl ⟨rfl,trivial⟩ rfl
 rintro k ⟨hk,hm⟩ N hN
 refine gg rfl ?_
 rw[List.length_map]
 refine q01 rfl (fun e=>?_) (fun e=>?_)
 ·rw[q06]at e
  have hlt:k<p.widths.length:=by omega
  have w1:=wS (n:=k)
  have bad:q2h p.widths[k]=true→p.widths.any q2h=true:=fun h=>q27 hlt h
  have hx:(p.widths.map q00)[k]?=some (.int .i64 p.widths[k]):=q1B hlt
  refine gg rfl (q0i k rfl rfl rfl hx rfl (gg rfl (q09 rfl (fun f1=>?_) (fun f1=>?_))))
  ·rw[q06]at f1
   refine gg rfl (q0e rfl (gg rfl (q04 (gg rfl (q08 rfl rfl rfl trivial ?_)))))
   rw[if_pos (bad (by simp[q2h];omega))]
  rw[q07]at f1
  refine gg rfl (q0i k rfl rfl rfl hx rfl (gg rfl (q01 rfl (fun f2=>?_) (fun f2=>?_))))
  ·rw[q06]at f2
   refine gg rfl (q04 (gg rfl (q08 rfl rfl rfl trivial ?_)))
   rw[if_pos (bad (by simp[q2h];omega))]
  rw[q07]at f2
  refine gg rfl (q04 (hN (k+1) ⟨hlt,fun j hj hjk=>?_⟩ (by omega) (q03 rfl ⟨rfl,trivial⟩ (by rw[w1];rfl))))
  by_cases ej:j=k
  ·subst ej;simp[q2h];omega
  exact hm j hj (by omega)
 rw[q07]at e
 obtain rfl:k=p.widths.length:=by omega
 clear hN
 refine gg rfl (q04 (gg rfl (q08 rfl rfl rfl trivial ?_)))
 rw[if_neg (by rw[q1W fun j hj=>hm j hj hj];decide)]
set_option maxHeartbeats 8000000 in
theorem quu (b:List Piece)(p:Piece)(hb:b.length≤1000)(h1:p.corners.length≤1000)(h2:p.widths.length≤1000):PU qwj [Go.F.pieces b,p.enc]=some (.int .i64 (q22 b p)):=by
 refine q0g (fn:=qkb) rfl (q0a ?_)
 refine gg rfl (q02 rfl rfl (qdJ p.name) ?_)
 cases hn:q1K p.name with
 |false=>
  refine gg rfl (q0h rfl (gg rfl (q0e rfl (gg rfl (q08 rfl rfl rfl trivial ?_)))))
  rw[q22,if_pos hn]
 |true=>
  have hc1:¬q1K p.name=false:=by rw[hn];decide
  refine gg rfl (q0o rfl (gg rfl (q09 rfl (fun g1=>?_) (fun g1=>?_))))
  ·rw[q0u]at g1
   refine gg rfl (q09 rfl (fun g2=>?_) (fun g2=>?_))
   ·rw[q0u]at g2
    refine gg rfl (q01 rfl (fun g3=>?_) (fun g3=>?_))
    ·rw[q0u]at g3
     refine gg rfl (q08 rfl rfl rfl trivial ?_)
     rw[q22,if_neg hc1,if_pos ⟨g1,g2,g3⟩]
    rw[q0z]at g3
    have hc2:¬(p.grain≠1∧p.grain≠2∧p.grain≠4):=fun h=>h.2.2 g3
    refine gg rfl (q0l (S:=fun k:Nat=>([Go.F.pieces b,.ptr 1 0 0,q00 k],[none,some (.row [p.enc] 7),none],[0,0,0])) (C:=fun k=>k≤b.length∧∀j (hj:j<b.length),j<k→(b[j].name.toList==p.name.toList)=false) (m:=fun k=>b.length-k) 0 ⟨Nat.zero_le _,fun j _ h=>by omega⟩ (by omega) ?_ ?_)
    ·exact q03 rfl ⟨rfl,trivial⟩ rfl
    rintro k ⟨hk,hno⟩ N hN
    refine gg rfl ?_
    rw[List.length_map]
    refine q01 rfl (fun e=>?_) (fun e=>?_)
    ·rw[q06]at e
     have hlt:k<b.length:=by omega
     have w1:=wS (n:=k)
     have hx:(b.map Piece.enc)[k]?=some b[k].enc:=q1B hlt
     refine gg rfl (q0i k rfl rfl rfl hx rfl (gg rfl (q01 rfl (fun f=>?_) (fun f=>?_))))
     ·refine gg rfl (q04 (gg rfl (q08 rfl rfl rfl trivial ?_)))
      rw[q22,if_neg hc1,if_neg hc2,if_pos (q27 hlt f)]
     refine gg rfl (q04 (hN (k+1) ⟨hlt,fun j hj hjk=>?_⟩ (by omega) (q03 rfl ⟨rfl,trivial⟩ (by rw[w1];rfl))))
     by_cases ej:j=k
     ·subst ej;exact f
     exact hno j hj (by omega)
    rw[q07]at e
    obtain rfl:k=b.length:=by omega
    clear hN
    have hc3:¬(b.any fun o=>o.name.toList==p.name.toList)=true:=by rw[q1W fun j hj=>hno j hj hj];decide
    have hw:q22 b p=if(q0q p 0).2≠0 then(q0q p 0).2
     else if(q0R p 0).2≠0 then(q0R p 0).2
     else qDe p:=by rw[q22,if_neg hc1,if_neg hc2,if_neg hc3];rfl
    rw[hw]
    refine gg rfl (q04 (gg rfl (q02 rfl rfl (q56 p 0 (by omega)) ?_)))
    refine gg rfl (q01 rfl (fun f=>?_) (fun f=>?_))
    ·rw[q0u]at f
     refine gg rfl (q08 rfl rfl rfl trivial ?_)
     rw[if_pos f]
    rw[q0z]at f
    rw[if_neg (by simp[f])]
    refine gg rfl (q02 rfl rfl (q9D p 0 (by omega)) ?_)
    refine gg rfl (q01 rfl (fun f2=>?_) (fun f2=>?_))
    ·rw[q0u]at f2
     refine gg rfl (q08 rfl rfl rfl trivial ?_)
     rw[if_pos f2]
    rw[q0z]at f2
    rw[if_neg (by simp[f2])]
    exact gg rfl (q02 rfl rfl (q9E p h2) (gg rfl (q08 rfl rfl rfl trivial rfl)))
   rw[q0z]at g2
   have hc2:¬(p.grain≠1∧p.grain≠2∧p.grain≠4):=fun h=>h.2.1 g2
   refine gg rfl (q0j rfl (gg rfl (q0l (S:=fun k:Nat=>([Go.F.pieces b,.ptr 1 0 0,q00 k],[none,some (.row [p.enc] 7),none],[0,0,0])) (C:=fun k=>k≤b.length∧∀j (hj:j<b.length),j<k→(b[j].name.toList==p.name.toList)=false) (m:=fun k=>b.length-k) 0 ⟨Nat.zero_le _,fun j _ h=>by omega⟩ (by omega) ?_ ?_)))
   ·exact q03 rfl ⟨rfl,trivial⟩ rfl
   rintro k ⟨hk,hno⟩ N hN
   refine gg rfl ?_
   rw[List.length_map]
   refine q01 rfl (fun e=>?_) (fun e=>?_)
   ·rw[q06]at e
    have hlt:k<b.length:=by omega
    have w1:=wS (n:=k)
    have hx:(b.map Piece.enc)[k]?=some b[k].enc:=q1B hlt
    refine gg rfl (q0i k rfl rfl rfl hx rfl (gg rfl (q01 rfl (fun f=>?_) (fun f=>?_))))
    ·refine gg rfl (q04 (gg rfl (q08 rfl rfl rfl trivial ?_)))
     rw[q22,if_neg hc1,if_neg hc2,if_pos (q27 hlt f)]
    refine gg rfl (q04 (hN (k+1) ⟨hlt,fun j hj hjk=>?_⟩ (by omega) (q03 rfl ⟨rfl,trivial⟩ (by rw[w1];rfl))))
    by_cases ej:j=k
    ·subst ej;exact f
    exact hno j hj (by omega)
   rw[q07]at e
   obtain rfl:k=b.length:=by omega
   clear hN
   have hc3:¬(b.any fun o=>o.name.toList==p.name.toList)=true:=by rw[q1W fun j hj=>hno j hj hj];decide
   have hw:q22 b p=if(q0q p 0).2≠0 then(q0q p 0).2
    else if(q0R p 0).2≠0 then(q0R p 0).2
    else qDe p:=by rw[q22,if_neg hc1,if_neg hc2,if_neg hc3];rfl
   rw[hw]
   refine gg rfl (q04 (gg rfl (q02 rfl rfl (q56 p 0 (by omega)) ?_)))
   refine gg rfl (q01 rfl (fun f=>?_) (fun f=>?_))
   ·rw[q0u]at f
    refine gg rfl (q08 rfl rfl rfl trivial ?_)
    rw[if_pos f]
   rw[q0z]at f
   rw[if_neg (by simp[f])]
   refine gg rfl (q02 rfl rfl (q9D p 0 (by omega)) ?_)
   refine gg rfl (q01 rfl (fun f2=>?_) (fun f2=>?_))
   ·rw[q0u]at f2
    refine gg rfl (q08 rfl rfl rfl trivial ?_)
    rw[if_pos f2]
   rw[q0z]at f2
   rw[if_neg (by simp[f2])]
   exact gg rfl (q02 rfl rfl (q9E p h2) (gg rfl (q08 rfl rfl rfl trivial rfl)))
  rw[q0z]at g1
  have hc2:¬(p.grain≠1∧p.grain≠2∧p.grain≠4):=fun h=>h.1 g1
  refine gg rfl (q0o rfl (gg rfl (q0j rfl (gg rfl (q0l (S:=fun k:Nat=>([Go.F.pieces b,.ptr 1 0 0,q00 k],[none,some (.row [p.enc] 7),none],[0,0,0])) (C:=fun k=>k≤b.length∧∀j (hj:j<b.length),j<k→(b[j].name.toList==p.name.toList)=false) (m:=fun k=>b.length-k) 0 ⟨Nat.zero_le _,fun j _ h=>by omega⟩ (by omega) ?_ ?_)))))
  ·exact q03 rfl ⟨rfl,trivial⟩ rfl
  rintro k ⟨hk,hno⟩ N hN
  refine gg rfl ?_
  rw[List.length_map]
  refine q01 rfl (fun e=>?_) (fun e=>?_)
  ·rw[q06]at e
   have hlt:k<b.length:=by omega
   have w1:=wS (n:=k)
   have hx:(b.map Piece.enc)[k]?=some b[k].enc:=q1B hlt
   refine gg rfl (q0i k rfl rfl rfl hx rfl (gg rfl (q01 rfl (fun f=>?_) (fun f=>?_))))
   ·refine gg rfl (q04 (gg rfl (q08 rfl rfl rfl trivial ?_)))
    rw[q22,if_neg hc1,if_neg hc2,if_pos (q27 hlt f)]
   refine gg rfl (q04 (hN (k+1) ⟨hlt,fun j hj hjk=>?_⟩ (by omega) (q03 rfl ⟨rfl,trivial⟩ (by rw[w1];rfl))))
   by_cases ej:j=k
   ·subst ej;exact f
   exact hno j hj (by omega)
  rw[q07]at e
  obtain rfl:k=b.length:=by omega
  clear hN
  have hc3:¬(b.any fun o=>o.name.toList==p.name.toList)=true:=by rw[q1W fun j hj=>hno j hj hj];decide
  have hw:q22 b p=if(q0q p 0).2≠0 then(q0q p 0).2
   else if(q0R p 0).2≠0 then(q0R p 0).2
   else qDe p:=by rw[q22,if_neg hc1,if_neg hc2,if_neg hc3];rfl
  rw[hw]
  refine gg rfl (q04 (gg rfl (q02 rfl rfl (q56 p 0 (by omega)) ?_)))
  refine gg rfl (q01 rfl (fun f=>?_) (fun f=>?_))
  ·rw[q0u]at f
   refine gg rfl (q08 rfl rfl rfl trivial ?_)
   rw[if_pos f]
  rw[q0z]at f
  rw[if_neg (by simp[f])]
  refine gg rfl (q02 rfl rfl (q9D p 0 (by omega)) ?_)
  refine gg rfl (q01 rfl (fun f2=>?_) (fun f2=>?_))
  ·rw[q0u]at f2
   refine gg rfl (q08 rfl rfl rfl trivial ?_)
   rw[if_pos f2]
  rw[q0z]at f2
  rw[if_neg (by simp[f2])]
  exact gg rfl (q02 rfl rfl (q9E p h2) (gg rfl (q08 rfl rfl rfl trivial rfl)))
def quv (s:Sty):Int:=if s.uses.any (q1V s.pieces.length)then 3 else q0E (q45 s) s.seams.length
set_option maxHeartbeats 8000000 in
theorem qr6 (s:Sty)(hB:StyB s):PU qtu [s.enc]=some (.int .i64 (quv s)):=by
 have b1:=hB.pieces
 have b2:=hB.uses
 have b3:=hB.seams
 unfold quv
 refine q0g (fn:=qh9) rfl (q0a ?_)
 refine gg rfl (q0l (S:=fun k:Nat=>([.ptr 0 0 0,q00 k],[some (.row [s.enc] 7),none],[0,0])) (C:=fun k=>k≤s.uses.length∧∀j (hj:j<s.uses.length),j<k→q1V s.pieces.length s.uses[j]=false) (m:=fun k=>s.uses.length-k) 0 ⟨Nat.zero_le _,fun j _ h=>by omega⟩ (by omega) ?_ ?_)
 ·exact q03 rfl ⟨rfl,trivial⟩ rfl
 rintro k ⟨hk,hu⟩ N hN
 refine gg rfl ?_
 rw[List.length_map]
 refine q01 rfl (fun e=>?_) (fun e=>?_)
 ·rw[q06]at e
  have hlt:k<s.uses.length:=by omega
  have w1:=wS (n:=k)
  have hx:(s.uses.map Use.enc)[k]?=some s.uses[k].enc:=q1B hlt
  have bad:q1V s.pieces.length s.uses[k]=true→s.uses.any (q1V s.pieces.length)=true:=fun h=>q27 hlt h
  have hnx:q1V s.pieces.length s.uses[k]=false→∀j (hj:j<s.uses.length),j<k+1→q1V s.pieces.length s.uses[j]=false:=by
   intro h j hj hjk
   by_cases ej:j=k
   ·subst ej;exact h
   exact hu j hj (by omega)
  generalize s.uses[k]=u at*
  refine gg rfl (q0i k rfl rfl rfl hx rfl (gg rfl (q09 rfl (fun f1=>?_) (fun f1=>?_))))
  ·rw[q06]at f1
   refine gg rfl (q0h rfl (gg rfl (q0h rfl (gg rfl (q0e rfl (gg rfl (q04 (gg rfl (q08 rfl rfl rfl trivial ?_)))))))))
   rw[if_pos (bad (by simp[q1V];omega))]
  rw[q07]at f1
  refine gg rfl ?_
  rw[List.length_map]
  refine q09 rfl (fun f2=>?_) (fun f2=>?_)
  ·rw[q0G]at f2
   refine gg rfl (q0h rfl (gg rfl (q0e rfl (gg rfl (q04 (gg rfl (q08 rfl rfl rfl trivial ?_)))))))
   rw[if_pos (bad (by simp[q1V];omega))]
  rw[q0H]at f2
  refine gg rfl (q09 rfl (fun f3=>?_) (fun f3=>?_))
  ·rw[q06]at f3
   refine gg rfl (q0e rfl (gg rfl (q04 (gg rfl (q08 rfl rfl rfl trivial ?_)))))
   rw[if_pos (bad (by simp[q1V];omega))]
  rw[q07]at f3
  refine gg rfl (q01 rfl (fun f4=>?_) (fun f4=>?_))
  ·rw[q06]at f4
   refine gg rfl (q04 (gg rfl (q08 rfl rfl rfl trivial ?_)))
   rw[if_pos (bad (by simp[q1V];omega))]
  rw[q07]at f4
  exact gg rfl (q04 (hN (k+1) ⟨hlt,hnx (by simp[q1V];omega)⟩ (by omega) (q03 rfl ⟨rfl,trivial⟩ (by rw[w1];rfl))))
 rw[q07]at e
 obtain rfl:k=s.uses.length:=by omega
 clear hN
 rw[if_neg (by rw[q1W fun j hj=>hu j hj hj];decide)]
 refine gg rfl (q04 (gg rfl (q0l (S:=fun k:Nat=>([.ptr 0 0 0,q00 k],[some (.row [s.enc] 7),none],[0,0])) (C:=fun k=>k≤s.seams.length∧q0E (q45 s) k=0) (m:=fun k=>s.seams.length-k) 0 ⟨Nat.zero_le _,rfl⟩ (by omega) ?_ ?_)))
 ·exact q03 rfl ⟨rfl,trivial⟩ rfl
 rintro k ⟨hk,h0⟩ N hN
 refine gg rfl ?_
 rw[List.length_map]
 refine q01 rfl (fun e=>?_) (fun e=>?_)
 ·rw[q06]at e
  have hlt:k<s.seams.length:=by omega
  have w1:=wS (n:=k)
  have hx:=qv1 hlt
  have bad:∀x,q6d s (sw s.seams k)=x→x≠0→q0E (q45 s) s.seams.length=x:=by
   intro x h hx0
   have:=q3w (f:=q45 s) h0 (by show q6d s (sw s.seams k)≠0;rw[h];exact hx0) hlt
   rw[this];exact h
  have good:q6d s (sw s.seams k)=0→q0E (q45 s) (k+1)=0:=fun h=>q2n h0 h
  generalize sw s.seams k=m at*
  have e1:=qfT s m.pa m.ea
  have e2:=qfT s m.pb m.eb
  refine gg rfl (q0i k rfl rfl rfl hx rfl (gg rfl (q02 rfl rfl e1 ?_)))
  cases ha:q2b s m.pa m.ea with
  |false=>
   refine gg rfl (q0h rfl (gg rfl (q0e rfl (gg rfl (q04 (gg rfl (q08 rfl rfl rfl trivial ?_)))))))
   rw[bad 3 (by rw[q6d,if_pos (.inl ha)]) (by decide)]
  |true=>
   refine gg rfl (q0o rfl (gg rfl (q02 rfl rfl e2 ?_)))
   cases hb:q2b s m.pb m.eb with
   |false=>
    refine gg rfl (q0e rfl (gg rfl (q04 (gg rfl (q08 rfl rfl rfl trivial ?_)))))
    rw[bad 3 (by rw[q6d,if_pos (.inr hb)]) (by decide)]
   |true=>
    have hn:¬(q2b s m.pa m.ea=false∨q2b s m.pb m.eb=false):=by rw[ha,hb];simp
    refine gg rfl (q0j rfl (gg rfl (q01 rfl (fun f=>?_) (fun f=>?_))))
    ·rw[q06]at f
     refine gg rfl (q04 (gg rfl (q08 rfl rfl rfl trivial ?_)))
     rw[bad 1 (by rw[q6d,if_neg hn,if_pos f]) (by decide)]
    rw[q07]at f
    exact gg rfl (q04 (hN (k+1) ⟨hlt,good (by rw[q6d,if_neg hn,if_neg (by omega)])⟩ (by omega) (q03 rfl ⟨rfl,trivial⟩ (by rw[w1];rfl))))
 rw[q07]at e
 obtain rfl:k=s.seams.length:=by omega
 clear hN
 refine gg rfl (q04 (gg rfl (q08 rfl rfl rfl trivial ?_)))
 rw[h0]
theorem qxv {s:Sty}(h:sizedB s=false):q2l s=1:=by
 unfold sizedB at h
 have h:=of_decide_eq_false h
 unfold q2l
 by_cases c1:q1K s.name=false∨s.sizes.length=0
 ·rw[if_pos c1]
 rw[if_neg c1]
 by_cases c2:s.sizes.any (fun x=>!sizeS x)=true
 ·rw[if_pos c2]
 rw[if_neg c2]
 by_cases c3:s.mults.length≠s.sizes.length∨0∉s.mults
 ·rw[if_pos c3]
 exfalso
 refine h ⟨?_,fun e=>c1 (.inr e),by simpa using c2,?_,?_⟩
 ·cases hn:q1K s.name with
  |true=>rfl
  |false=>exact absurd (.inl hn) c1
 ·by_cases e:0∈s.mults
  ·exact e
  exact absurd (.inr e) c3
 by_cases e:s.mults.length=s.sizes.length
 ·exact e
 exact absurd (.inl e) c3
theorem qzO {s:Sty}(h:sizedB s=true):q2l s=if q4P s.sizes then 7 else if qip s then 5 else if s.mults.any (fun m=>decide (m< -100) ||decide (100<m))then 3 else 0:=by
 unfold sizedB at h
 obtain⟨h1,h2,h3,h4,h5⟩:=of_decide_eq_true h
 unfold q2l
 rw[if_neg (by rintro(e|e);rw[h1]at e;cases e;exact h2 e),if_neg (by rw[h3];decide),if_neg (by rintro(e|e);exact e h5;exact e h4)]
 by_cases c:q4P s.sizes=true
 ·rw[if_pos c,if_pos c]
 rw[if_neg c,if_neg c]
 unfold qip
 by_cases d1:12<s.sizes.length∨12<s.pieces.length∨12<s.uses.length
 ·rw[if_pos d1,if_pos (decide_eq_true (by omega))]
 rw[if_neg d1]
 by_cases d2:24<s.seams.length∨16<s.ops.length
 ·rw[if_pos d2,if_pos (decide_eq_true (by omega))]
 have d3:¬decide (12<s.sizes.length∨12<s.pieces.length∨24<s.seams.length∨16<s.ops.length∨12<s.uses.length)=true:=by rw[decide_eq_true_eq];omega
 rw[if_neg d2,if_neg d3]
set_option maxHeartbeats 8000000 in
theorem quw (s:Sty)(hB:StyB s):PU qwe [s.enc]=some (.int .i64 (q2C s)):=by
 have b1:=hB.pieces
 have b2:=hB.mults
 refine q0g (fn:=qld) rfl (q0a ?_)
 refine gg rfl (q02 rfl rfl (qus s hB) ?_)
 cases hsz:sizedB s with
 |false=>
  refine gg rfl (q0e rfl (gg rfl (q08 rfl rfl rfl trivial ?_)))
  rw[q2C,qxv hsz];rfl
 |true=>
  have hw:=qzO hsz
  refine gg rfl (q0j rfl (gg rfl (q02 rfl rfl (qut s.sizes hB.sizes) ?_)))
  cases ht:q4P s.sizes with
  |true=>
   refine gg rfl (q0e rfl (gg rfl (q08 rfl rfl rfl trivial ?_)))
   rw[ht]at hw
   rw[q2C,hw];rfl
  |false=>
   rw[if_neg (by rw[ht];decide)]at hw
   refine gg rfl (q0j rfl (gg rfl (q02 rfl rfl (qxu s) ?_)))
   cases hlg:qip s with
   |true=>
    refine gg rfl (q0e rfl (gg rfl (q08 rfl rfl rfl trivial ?_)))
    rw[hlg]at hw
    rw[q2C,hw];rfl
   |false=>
    rw[if_neg (by rw[hlg];decide)]at hw
    refine gg rfl (q0j rfl (gg rfl (q0l (S:=fun k:Nat=>([.ptr 0 0 0,q00 k],[some (.row [s.enc] 7),none],[0,0])) (C:=fun k=>k≤s.mults.length∧∀j (hj:j<s.mults.length),j<k→(decide (s.mults[j]< -100) ||decide (100<s.mults[j]))=false) (m:=fun k=>s.mults.length-k) 0 ⟨Nat.zero_le _,fun j _ h=>by omega⟩ (by omega) ?_ ?_)))
    ·exact q03 rfl ⟨rfl,trivial⟩ rfl
    rintro k ⟨hk,hm⟩ N hN
    refine gg rfl ?_
    rw[List.length_map]
    refine q01 rfl (fun e=>?_) (fun e=>?_)
    ·rw[q06]at e
     have hlt:k<s.mults.length:=by omega
     have w1:=wS (n:=k)
     have bad:(decide (s.mults[k]< -100) ||decide (100<s.mults[k]))=true→q2C s=3:=by
      intro h
      have ha:s.mults.any (fun m=>decide (m< -100) ||decide (100<m))=true:=q27 hlt h
      rw[if_pos ha]at hw
      rw[q2C,hw];rfl
     have hx:(s.mults.map q00)[k]?=some (.int .i64 s.mults[k]):=q1B hlt
     refine gg rfl (q0i k rfl rfl rfl hx rfl (gg rfl (q09 rfl (fun f1=>?_) (fun f1=>?_))))
     ·rw[q06]at f1
      refine gg rfl (q0e rfl (gg rfl (q04 (gg rfl (q08 rfl rfl rfl trivial ?_)))))
      rw[bad (by simp;omega)]
     rw[q07]at f1
     refine gg rfl (q0i k rfl rfl rfl hx rfl (gg rfl (q01 rfl (fun f2=>?_) (fun f2=>?_))))
     ·rw[q06]at f2
      refine gg rfl (q04 (gg rfl (q08 rfl rfl rfl trivial ?_)))
      rw[bad (by simp;omega)]
     rw[q07]at f2
     refine gg rfl (q04 (hN (k+1) ⟨hlt,fun j hj hjk=>?_⟩ (by omega) (q03 rfl ⟨rfl,trivial⟩ (by rw[w1];rfl))))
     by_cases ej:j=k
     ·subst ej;simp;omega
     exact hm j hj (by omega)
    rw[q07]at e
    obtain rfl:k=s.mults.length:=by omega
    clear hN
    rw[if_neg (by rw[q1W fun j hj=>hm j hj hj];decide)]at hw
    have hw2:q2C s=if q0E (q2p s) s.pieces.length≠0 then q0E (q2p s) s.pieces.length else quv s:=by
     rw[q2C,if_neg (by simp[hw])];rfl
    rw[hw2]
    refine gg rfl (q04 (gg rfl (q0l (S:=fun k:Nat=>([.ptr 0 0 0,q00 k],[some (.row [s.enc] 7),none],[0,0])) (C:=fun k=>k≤s.pieces.length∧q0E (q2p s) k=0) (m:=fun k=>s.pieces.length-k) 0 ⟨Nat.zero_le _,rfl⟩ (by omega) ?_ ?_)))
    ·exact q03 rfl ⟨rfl,trivial⟩ rfl
    rintro k ⟨hk,h0⟩ N hN
    refine gg rfl ?_
    rw[List.length_map]
    refine q01 rfl (fun e=>?_) (fun e=>?_)
    ·rw[q06]at e
     have hlt:k<s.pieces.length:=by omega
     have w1:=wS (n:=k)
     have hp:=quu (s.pieces.take k) (pc s.pieces k) (by rw[List.length_take];omega) (hB.corners _ (q9G hlt)) (hB.widths _ (q9G hlt))
     refine gg rfl (qcE k rfl (q1x (n:=7) (fun _=>rfl) _) ⟨_,_,rfl,rfl⟩ (by rw[List.length_map];omega) ?_)
     rw[←List.map_take]
     refine gg rfl (q0i k rfl rfl rfl (q5w hlt) rfl (gg rfl (q02 rfl rfl hp (gg rfl (q01 rfl (fun f=>?_) (fun f=>?_))))))
     ·rw[q0u]at f
      refine gg rfl (q04 (gg rfl (q08 rfl rfl rfl trivial ?_)))
      have f':q2p s k≠0:=f
      have hf:=q3w (f:=q2p s) h0 f' hlt
      rw[hf,if_pos f'];rfl
     rw[q0z]at f
     exact gg rfl (q04 (hN (k+1) ⟨hlt,q2n h0 f⟩ (by omega) (q03 rfl ⟨rfl,trivial⟩ (by rw[w1];rfl))))
    rw[q07]at e
    obtain rfl:k=s.pieces.length:=by omega
    clear hN
    rw[if_neg (by simp[h0])]
    exact gg rfl (q04 (gg rfl (q02 rfl rfl (qr6 s hB) (gg rfl (q08 rfl rfl rfl trivial rfl)))))
end Go.F

namespace Go.F
def qJ9 (ps:List Piece)(w:Sew)(m:Int):Bool:=decide ((q0q (pc ps w.pa.toNat) m).2=0)&&decide ((q0q (pc ps w.pb.toNat) m).2=0)
def qJ1 (ps:List Piece)(w:Sew)(m:Int):Int:=qAx (pc ps w.pa.toNat) m w.ea.toNat
def qJ2 (ps:List Piece)(w:Sew)(m:Int):Int:=qAx (pc ps w.pb.toNat) m w.eb.toNat
def sidWA (ps:List Piece)(w:Sew)(m:Int):Sid:=⟨(pc ps w.pa.toNat).notches,(q0R (pc ps w.pa.toNat) m).1,w.ea,qJ1 ps w m⟩
def sidWB (ps:List Piece)(w:Sew)(m:Int):Sid:=⟨(pc ps w.pb.toNat).notches,(q0R (pc ps w.pb.toNat) m).1,w.eb,qJ2 ps w m⟩
def fit3 (ps:List Piece)(w:Sew)(m:Int):Bool:=qJ9 ps w m&&decide (w.ease<max (qJ1 ps w m-qJ2 ps w m) (qJ2 ps w m-qJ1 ps w m))
def unmW (ps:List Piece)(w:Sew)(m:Int):List Iss:=q7w 1 (qep (sidWA ps w m) (sidWB ps w m) w.rev)++q7w 2 (qep (sidWB ps w m) (sidWA ps w m) w.rev)
def fit4 (ps:List Piece)(w:Sew)(m:Int):Bool:=qJ9 ps w m&&decide (0<(unmW ps w m).length)
def shr5 (p:Piece)(z:Nat)(m m':Int):Bool:=decide (1≤z)&&(decide (m<m')&&((exm p m).outline&&((exm p m').outline&&decide ((exm p m').area<(exm p m).area))))
theorem qJg (s:Sty)(i z:Nat):o5 s i z=shr5 (pc s.pieces i) z (mu s.mults (z-1)) (mu s.mults z):=rfl
theorem qJ3 {kd:Int}{P Q:Nat→Nat→Bool}{i:Nat}:∀{w:Nat},(∀z,z<w→P i z=Q i z)→q8H kd P i w=q8H kd Q i w
 |0,_=>rfl
 |w+1,h=>by rw[row_step,row_step,qJ3 fun z hz=>h z (by omega),h w (by omega)]
theorem qIR {kd:Int}{P Q:Nat→Nat→Bool}{w:Nat}:∀{n:Nat},(∀i,i<n→∀z,z<w→P i z=Q i z)→q23 kd P n w=q23 kd Q n w
 |0,_=>rfl
 |n+1,h=>by rw[q6x,q6x,qIR fun i hi=>h i (by omega),qJ3 (h n (by omega))]
end Go.F

namespace Go.F
attribute [local irreducible] IntKind.wrap wpM
def qIU (s:Sty)(n:Nat):Sty:={s with sizes:=s.sizes.take n,mults:=s.mults.take n}
def qIV (n:Nat)(x:Iss):Bool:=decide (x.b≠(n:Nat))
theorem qJt (kd:Int)(P:Nat→Nat→Bool)(i n:Nat):(q8H kd P i (n+1)).filter (qIV n)=q8H kd P i n:=by
 rw[row_step,List.filter_append,List.filter_eq_self.2]
 ·have:((if P i n=true then [(⟨kd,(i:Nat),(n:Nat)⟩:Iss)]else []).filter (qIV n))=[]:=by split<;>simp[qIV]
  rw[this,List.append_nil]
 intro x hx
 obtain⟨z,hz,_,rfl⟩:=mem_row.1 hx
 exact decide_eq_true (by show((z:Nat):Int)≠n;omega)
theorem qJ6 (kd:Int)(P:Nat→Nat→Bool)(n:Nat):∀m,(q23 kd P m (n+1)).filter (qIV n)=q23 kd P m n
 |0=>rfl
 |m+1=>by rw[q6x,q6x,List.filter_append,qJt,qJ6]
theorem qJu {l:List Int}{n z:Nat}(h:z<n):mu (l.take n) z=mu l z:=by
 unfold mu
 simp only[List.getD_eq_getElem?_getD,List.getElem?_take,h,if_true]
theorem qJl {s:Sty}{n:Nat}(hm:s.mults.length=n+1):qIz (qIU s n)=(qIz s).filter (qIV n):=by
 have hl:(qIU s n).mults.length=n:=by show(s.mults.take n).length=n;rw[List.length_take];omega
 have e:∀{z},z<n→mu (s.mults.take n) z=mu s.mults z:=fun h=>qJu h
 unfold qIz
 simp only[List.filter_append,hm,hl,qJ6]
 have a1:q23 1 (o1 (qbu (qIU s n))) s.pieces.length n=q23 1 (o1 (qbu s)) s.pieces.length n:=qIR fun i _ z hz=>congrArg (fun m=>!(exm (pc s.pieces i) m).outline) (e hz)
 have a2:q23 2 (o2 (qbu (qIU s n))) s.pieces.length n=q23 2 (o2 (qbu s)) s.pieces.length n:=qIR fun i _ z hz=>congrArg (fun m=>(exm (pc s.pieces i) m).outline&&!(exm (pc s.pieces i) m).cut) (e hz)
 have a3:q23 3 (o3 (qIU s n)) s.seams.length n=q23 3 (o3 s) s.seams.length n:=qIR fun i _ z hz=>congrArg (fit3 s.pieces (sw s.seams i)) (e hz)
 have a4:q23 4 (o4 (qIU s n)) s.seams.length n=q23 4 (o4 s) s.seams.length n:=qIR fun i _ z hz=>congrArg (fit4 s.pieces (sw s.seams i)) (e hz)
 have a5:q23 5 (o5 (qIU s n)) s.pieces.length n=q23 5 (o5 s) s.pieces.length n:=qIR fun i _ z hz=>by
  rw[qJg,qJg]
  show shr5 (pc s.pieces i) z (mu (s.mults.take n) (z-1)) (mu (s.mults.take n) z)=_
  rw[e hz,e (show z-1<n by omega)]
 have a6:q23 6 (o6 (qIU s n)) s.pieces.length n=q23 6 (o6 s) s.pieces.length n:=qIR fun i _ z hz=>rfl
 show q23 1 (o1 (qbu (qIU s n))) s.pieces.length n++q23 2 (o2 (qbu (qIU s n))) s.pieces.length n++(q23 3 (o3 (qIU s n)) s.seams.length n++q23 4 (o4 (qIU s n)) s.seams.length n)++q23 5 (o5 (qIU s n)) s.pieces.length n++q23 6 (o6 (qIU s n)) s.pieces.length n=_
 rw[a1,a2,a3,a4,a5,a6]
theorem cutB {s:Sty}(h:StyB s)(n:Nat):StyB (qIU s n):=
 ⟨by show(s.sizes.take n).length≤1000;rw[List.length_take];have:=h.sizes;omega,fun x hx=>h.size x (List.mem_of_mem_take hx),by show(s.mults.take n).length≤1000;rw[List.length_take];have:=h.mults;omega,h.pieces,h.uses,h.seams,h.ops,h.corners,h.widths,h.notches⟩
set_option maxRecDepth 100000 in
set_option maxHeartbeats 16000000 in
theorem qJm (s:Sty):PU qAX [s.enc]=some (.bool true):=by
 obtain⟨b,hF,hfew⟩:=qIo s
 have ha:=qIL
 refine q0g (fn:=qh3) rfl (q0a ?_)
 refine gg rfl (q02 rfl rfl hF ?_)
 cases b with
 |false=>
  exact gg rfl (q0h rfl (gg rfl (q0h rfl (gg rfl (q0e rfl (gg rfl (q02 rfl rfl ha (gg rfl (q08 rfl rfl rfl trivial rfl)))))))))
 |true=>
  obtain⟨hL,hp4,hz4,hs6⟩:=hfew rfl
  have hB:=hL.B
  have hv:=qID s hB
  have hr:=quw s hB
  refine gg rfl (q0o rfl (gg rfl (q02 rfl rfl hr (gg rfl (q09 rfl (fun g=>?_) (fun g=>?_))))))
  ·exact gg rfl (q0e rfl (gg rfl (q02 rfl rfl ha (gg rfl (q08 rfl rfl rfl trivial rfl)))))
  have h:q2C s=0:=q0z.1 g
  have hok:=qiE h
  refine gg rfl ?_
  rw[List.length_map]
  refine q01 rfl (fun g2=>?_) (fun g2=>?_)
  ·exact gg rfl (q02 rfl rfl ha (gg rfl (q08 rfl rfl rfl trivial rfl)))
  rw[q07]at g2
  obtain⟨n,hn⟩:∃n,s.sizes.length=n+1:=⟨s.sizes.length-1,by omega⟩
  have hmn:s.mults.length=n+1:=by rw[hok.mults,hn]
  have w0:IntKind.i64.wrap (((n+1:Nat):Int)-1)=(n:Nat):=by rw[wrap64 (by omega) (by omega)];omega
  have hB2:=cutB hB n
  have hv2:=qID (qIU s n) hB2
  have hr2:=quw (qIU s n) hB2
  refine gg rfl ?_
  rw[List.length_map,hn,w0]
  refine qcE n rfl (q1x (n:=1) (fun _=>rfl) _) ⟨_,_,rfl,rfl⟩ (by rw[List.length_map];omega) ?_
  refine gg rfl (qcE n rfl (q1x (n:=1) (fun _=>rfl) _) ⟨_,_,rfl,rfl⟩ (by rw[List.length_map];omega) ?_)
  rw[←List.map_take,←List.map_take]
  refine gg rfl (q02 rfl rfl hr2 (gg rfl (q01 rfl (fun g3=>?_) (fun g3=>?_))))
  ·exact gg rfl (q02 rfl rfl ha (gg rfl (q08 rfl rfl rfl trivial rfl)))
  have h2:q2C (qIU s n)=0:=q0z.1 g3
  have hlen:(qIz s).length≤6000000:=qIM s (by omega) (by omega) (by omega)
  have hcut:=qJl (s:=s) hmn
  rw[qve,if_neg (by simp[h])]at hv
  rw[qve,if_neg (by simp[h2]),hcut]at hv2
  have hlf:((qIz s).filter (qIV n)).length≤6000000:=Nat.le_trans (List.length_filter_le _ _) hlen
  have hS:=qGA ((qIz s).filter (qIV n)) ((qIz s).filter (qIV n)) (by omega)
  rw[decide_eq_true rfl]at hS
  generalize qIz s=L at*
  refine gg rfl (q02 rfl rfl hv (gg rfl (q02 rfl rfl hv2 (gg rfl (q0l (S:=fun k:Nat=>([q00 n,qqc L,.int .i64 0,qqc (L.filter (qIV n)),.int .i64 0,.ref 5 0 ((L.take k).filter (qIV n)).length,q00 k],[none,none,none,none,none,some (.row (((L.take k).filter (qIV n)).map Iss.enc) 3),none],[0,0,0,0,0,0,0])) (C:=fun k=>k≤L.length) (m:=fun k=>L.length-k) 0 (Nat.zero_le _) (by omega) ?_ ?_)))))
  ·exact q03 rfl ⟨rfl,trivial⟩ rfl
  intro k hk N hN
  refine gg rfl ?_
  rw[List.length_map]
  refine q01 rfl (fun e=>?_) (fun e=>?_)
  ·rw[q06]at e
   have hlt:k<L.length:=by omega
   have w1:=wS (n:=k)
   have hx:=qBB hlt
   have hst:(L.take (k+1)).filter (qIV n)=(L.take k).filter (qIV n)++(if qIV n (isA L k)=true then [isA L k]else []):=by
    rw[List.take_succ_eq_append_getElem hlt,List.filter_append,qBA hlt]
    congr 1
    simp[List.filter]
    split<;>simp_all
   have hfl:((L.take k).filter (qIV n)).length≤6000000:=Nat.le_trans (List.length_filter_le _ _) (by rw[List.length_take];omega)
   generalize isA L k=x at*
   generalize (L.take k).filter (qIV n)=A at*
   refine gg rfl (q0i k rfl rfl rfl hx rfl (gg rfl (q01 rfl (fun f=>?_) (fun f=>?_))))
   ·rw[q0u]at f
    rw[if_pos (show qIV n x=true from decide_eq_true f)]at hst
    refine gg rfl (q0i k rfl rfl rfl hx rfl (gg rfl (q1f rfl rfl rfl rfl rfl rfl (by simp) (Nat.zero_le _) (by simp[q0M];omega) ?_)))
    refine gg rfl (q04 (hN (k+1) hlt (by omega) (q03 rfl ⟨?_,trivial⟩ ?_)))
    ·rw[List.all_append,q05 q1c];rfl
    rw[hst,w1,List.map_append,List.length_append];rfl
   rw[q0z]at f
   rw[if_neg (by unfold qIV;simp[f]),List.append_nil]at hst
   refine gg rfl (q04 (hN (k+1) hlt (by omega) (q03 rfl ⟨q05 q1c _,trivial⟩ ?_)))
   rw[hst,w1];rfl
  rw[q07]at e
  obtain rfl:k=L.length:=by omega
  clear hN
  rw[List.take_length]
  refine gg rfl (q04 (gg rfl (q09 rfl (fun _=>?_) (fun q=>absurd rfl (q20.1 q)))))
  refine gg rfl (q09 rfl (fun _=>?_) (fun q=>absurd rfl (q20.1 q)))
  refine gg rfl (q1R rfl rfl ⟨q2D (by simp) (q0X qmS _),trivial⟩ (by rw[q2E (by simp)];exact hS) fun z=>?_)
  exact gg rfl (q0h rfl (gg rfl (q02 rfl rfl ha (gg rfl (q08 rfl rfl rfl trivial rfl)))))
end Go.F
