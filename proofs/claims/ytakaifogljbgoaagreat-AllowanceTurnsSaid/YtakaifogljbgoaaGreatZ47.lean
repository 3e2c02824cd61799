/- Parts of the proof, part 47: Int1, Rat1, Rat2, Rat3, Pt1, All3, All4, All5, All6, Ex1, Ex2, Sml, Zero, Nz1, Nz2, Nz3, Nz4, Nz5, Nz6, Nz7, Nz8, Nz9, SegP, Turn1, Turn2, Turn3, Map1, RN1, RN2, RN3, RN4, RefA, RefB, RN5, Crv1, Crv2, Cmp1, Trc1, Trc2, Ply1, Ply2, Ply3, Awk0, Awk1, Crv3, Trc3, Nst, Nst2, Gr1, D64, D64b, D64c. -/
import Derived.Test.YtakaifogljbgoaaGreatZ45
import Derived.KernelRfl
set_option linter.all false
namespace Go.F
attribute [local irreducible] IntKind.wrap wpM
class Sz (l:List Nat) (k:outParam Nat):Prop where
 ok:LOk l
 len:l.length≤k
instance {l:List Nat}{k:Nat} [h:Sz l k]:LOk l:=h.ok
class NB (n:Nat) (k:outParam Nat):Prop where
 lt:n<4294967296^k
instance szLimbs {n k:Nat} [h:NB n k]:Sz (q0f n) k:=⟨q0D _,q0q.2 h.lt⟩
instance q5w {l:List Nat}{k:Nat} [h:Sz l k]:NB (val l) k:=⟨Nat.lt_of_lt_of_le (q3d h.ok) (Nat.pow_le_pow_right (by decide) h.len)⟩
theorem qeR {j k:Nat}(h:j≤k):4294967296^j≤4294967296^k:=Nat.pow_le_pow_right (by decide) h
theorem qGH (k:Nat):0<4294967296^k:=Nat.pow_pos (by decide)
theorem q6J {m n k:Nat}(h:m≤n)(hn:n<4294967296^k):m<4294967296^k:=Nat.lt_of_le_of_lt h hn
theorem qeS {m n j k:Nat}(h1:m<4294967296^j)(h2:n<4294967296^k):m+n<4294967296^(j+k+1):=by
 have a:=qeR (show j≤j+k by omega)
 have b:=qeR (show k≤j+k by omega)
 rw[Nat.pow_succ]
 omega
theorem q2y {m n j k:Nat}(h1:m<4294967296^j)(h2:n<4294967296^k):m*n<4294967296^(j+k):=by
 rw[Nat.pow_add]
 exact Nat.mul_lt_mul'' h1 h2
structure RI where
 neg:Bool
 mag:List Nat
def RI.enc (a:RI):D:=.agg [.bool a.neg,nat a.mag]
def RI.v (a:RI):Int:=if a.neg then-(val a.mag:Int)else val a.mag
def RI.of (z:Int):RI:=⟨decide (z<0),q0f z.natAbs⟩
def encI (z:Int):D:=(RI.of z).enc
theorem RI.of_v (z:Int):(RI.of z).v=z:=by
 unfold RI.of RI.v
 simp only[q0o]
 by_cases h:z<0
 ·rw[decide_eq_true h];simp;omega
 rw[decide_eq_false h];simp;omega
theorem RI.v_abs (a:RI):a.v.natAbs=val a.mag:=by
 unfold RI.v;split<;>omega
theorem qfE (z:Int){neg:Bool}{n:Nat}(h1:neg=decide (z<0))(h2:n=z.natAbs):D.agg [.bool neg,nat (q0f n)]=encI z:=by
 subst h1;subst h2;rfl
theorem q68 (neg:Bool)(l:List Nat){k:Nat} [h:Sz l k](hk:k≤500000000):PU qkx [.bool neg,nat l]=some (encI (RI.v ⟨neg,l⟩)):=by
 have hl:=h.len
 have e:∀n:Nat,n=(q0f (val l)).length→ltb 0 (n:Int)=decide (val l≠0):=by
  rintro n rfl
  rw[q1U,decide_eq_decide]
  have:= @q3t (val l)
  omega
 refine q0g (fn:=qb4) rfl (q0a ?_)
 refine gg rfl (q02 rfl rfl (q5L l (by omega)) ?_)
 refine gg rfl (q08 rfl (fun h1=>?_) (fun h1=>?_))
 ·refine gg rfl (q09 rfl rfl rfl trivial ?_)
  subst h1
  refine qfE _ ?_ ?_
  ·rw[List.length_map,e _ rfl]
   simp only[RI.v]
   rw[decide_eq_decide];simp;omega
  simp[RI.v]
 refine gg rfl (q09 rfl rfl rfl trivial ?_)
 subst h1
 refine qfE _ ?_ ?_
 ·simp only[RI.v]
  rw[eq_comm,decide_eq_false_iff_not,if_neg (by decide)];omega
 simp[RI.v]
theorem qgW (n:Int)(h1: -9223372036854775808≤n)(h2:n≤9223372036854775807):PU qvo [.int .i64 n]=some (encI n):=by
 have nb:NB n.natAbs 2:=⟨by show n.natAbs<18446744073709551616;omega⟩
 refine q0g (fn:=qi3) rfl (q0a ?_)
 refine gg rfl (q01 rfl (fun g1=>?_) (fun g1=>?_))
 ·rw[q06]at g1
  have e:IntKind.u64.wrap (0-IntKind.u64.wrap n)=((n.natAbs:Nat):Int):=by simp only[q0Y];omega
  refine gg rfl ?_
  rw[e]
  refine q02 rfl rfl (q7l n.natAbs (by omega)) ?_
  refine gg rfl (q02 rfl rfl (q68 true (q0f n.natAbs) (by decide)) ?_)
  refine gg rfl (q09 rfl rfl rfl trivial ?_)
  have:RI.v ⟨true,q0f n.natAbs⟩=n:=by rw[RI.v,if_pos rfl,q0o];omega
  rw[this];rfl
 rw[q07]at g1
 have e:IntKind.u64.wrap n=((n.natAbs:Nat):Int):=by simp only[q0Y];omega
 refine gg rfl ?_
 rw[e]
 refine q02 rfl rfl (q7l n.natAbs (by omega)) ?_
 refine gg rfl (q02 rfl rfl (q68 false (q0f n.natAbs) (by decide)) ?_)
 refine gg rfl (q09 rfl rfl rfl trivial ?_)
 have:RI.v ⟨false,q0f n.natAbs⟩=n:=by rw[RI.v,if_neg (by simp),q0o];omega
 rw[this];rfl
theorem q4f (a:RI){k:Nat} [h:Sz a.mag k](hk:k≤500000000):PU qq6 [a.enc]=some (encI a.v):=by
 refine q0g (fn:=qef) rfl (q0a ?_)
 exact gg rfl (q02 rfl rfl (q68 a.neg a.mag hk) (gg rfl (q09 rfl rfl rfl trivial rfl)))
theorem qqa (a:RI){k:Nat} [h:Sz a.mag k](hk:k≤500000000):PU qsa [a.enc]=some (encI (-a.v)):=by
 refine q0g (fn:=qgI) rfl (q0a ?_)
 refine gg rfl (q02 rfl rfl (q68 (!a.neg) a.mag hk) (gg rfl (q09 rfl rfl rfl trivial ?_)))
 have:RI.v ⟨!a.neg,a.mag⟩= -a.v:=by unfold RI.v;cases a.neg<;>simp
 rw[this];rfl
theorem qqc (a b:RI){j k:Nat} [ha:Sz a.mag j] [hb:Sz b.mag k](hj:j≤100000000)(hk:k≤100000000):PU qs9 [a.enc,b.enc]=some (encI (a.v+b.v)):=by
 have la:=ha.len
 have lb:=hb.len
 have nba:NB (val a.mag) j:=inferInstance
 have nbb:NB (val b.mag) k:=inferInstance
 have sAdd:Sz (q0f (val a.mag+val b.mag)) (j+k+1):=⟨q0D _,q0q.2 (qeS nba.lt nbb.lt)⟩
 have sSub:Sz (q0f (val a.mag-val b.mag)) j:=⟨q0D _,q0q.2 (q6J (Nat.sub_le _ _) nba.lt)⟩
 have sSub':Sz (q0f (val b.mag-val a.mag)) k:=⟨q0D _,q0q.2 (q6J (Nat.sub_le _ _) nbb.lt)⟩
 have s1:=qH3 a.mag b.mag (by omega) (by omega)
 have s2:=qH3 b.mag a.mag (by omega) (by omega)
 refine q0g (fn:=qgP) rfl (q0a ?_)
 refine gg rfl (q01 rfl (fun g1=>?_) (fun g1=>?_))
 ·refine gg rfl (q02 rfl rfl (qvF a.mag b.mag (by omega) (by omega)) ?_)
  refine gg rfl (q02 rfl rfl (q68 a.neg _ (by omega)) ?_)
  refine gg rfl (q09 rfl rfl rfl trivial ?_)
  have g:a.neg=b.neg:=by simpa using g1
  have:RI.v ⟨a.neg,q0f (val a.mag+val b.mag)⟩=a.v+b.v:=by
   unfold RI.v;simp only[q0o,←g];split<;>omega
  rw[this];rfl
 have g:b.neg=!a.neg:=by revert g1;cases a.neg<;>cases b.neg<;>simp
 refine gg rfl ?_
 by_cases hlt:val a.mag<val b.mag
 ·rw[if_pos hlt]at s1
  rw[if_neg (by omega)]at s2
  refine q02 rfl rfl s1 (gg rfl (q0i rfl (gg rfl (q02 rfl rfl s2 (gg rfl (q02 rfl rfl (q68 b.neg _ (by omega)) ?_))))))
  refine gg rfl (q09 rfl rfl rfl trivial ?_)
  have:RI.v ⟨b.neg,q0f (val b.mag-val a.mag)⟩=a.v+b.v:=by
   unfold RI.v;simp only[q0o,g];cases a.neg<;>simp<;>omega
  rw[this];rfl
 rw[if_neg hlt]at s1
 refine q02 rfl rfl s1 (gg rfl (q0d rfl (gg rfl (q02 rfl rfl (q68 a.neg _ (by omega)) ?_))))
 refine gg rfl (q09 rfl rfl rfl trivial ?_)
 have:RI.v ⟨a.neg,q0f (val a.mag-val b.mag)⟩=a.v+b.v:=by
  unfold RI.v;simp only[q0o,g];cases a.neg<;>simp<;>omega
 rw[this];rfl
instance szOf {z:Int}{k:Nat} [h:NB z.natAbs k]:Sz (RI.of z).mag k:=⟨q0D _,q0q.2 h.lt⟩
theorem q4G (a b:RI){j k:Nat} [ha:Sz a.mag j] [hb:Sz b.mag k](hj:j≤100000000)(hk:k≤100000000):PU qs7 [a.enc,b.enc]=some (encI (a.v*b.v)):=by
 have la:=ha.len
 have lb:=hb.len
 have nba:NB (val a.mag) j:=inferInstance
 have nbb:NB (val b.mag) k:=inferInstance
 have sM:Sz (q0f (val a.mag*val b.mag)) (j+k):=⟨q0D _,q0q.2 (q2y nba.lt nbb.lt)⟩
 refine q0g (fn:=qgf) rfl (q0a ?_)
 refine gg rfl (q02 rfl rfl (qqt a.mag b.mag (by omega) (by omega)) ?_)
 refine gg rfl (q02 rfl rfl (q68 _ _ (by omega)) ?_)
 refine gg rfl (q09 rfl rfl rfl trivial ?_)
 have:RI.v ⟨!(a.neg==b.neg),q0f (val a.mag*val b.mag)⟩=a.v*b.v:=by
  unfold RI.v;simp only[q0o];cases a.neg<;>cases b.neg<;>simp[Int.mul_neg,Int.neg_mul]
 rw[this];rfl
theorem orU64g {a b m:Nat}(hm:m≤64)(ha:a<2^m)(hb:b*2^m<18446744073709551616):IntKind.u64.wrap ((BitVec.ofInt IntKind.u64.bits (a:Int) |||BitVec.ofInt IntKind.u64.bits ((b*2^m:Nat):Int)).toNat:Int)=((a+b*2^m:Nat):Int):=by
 have hp:2^m≤18446744073709551616:=by simpa using Nat.pow_le_pow_right (n:=2) (by decide) hm
 rw[BitVec.or_comm,q8m,q8m,BitVec.toNat_or,BitVec.toNat_ofNat,BitVec.toNat_ofNat]
 have e:IntKind.u64.bits=64:=rfl
 rw[e,Nat.mod_eq_of_lt (show b*2^m<2^64 by omega),Nat.mod_eq_of_lt (show a<2^64 by omega),Nat.mul_comm b,←Nat.two_pow_add_eq_or_of_lt ha]
 have:2^m*b+a<18446744073709551616:=by
  have h1:2^m*b<2^m*2^(64-m):=by rw[←Nat.pow_add,show m+(64-m)=64 by omega,Nat.mul_comm];omega
  have h2:b+1≤2^(64-m):=Nat.lt_of_mul_lt_mul_left h1
  have h3:=Nat.mul_le_mul_left (2^m) h2
  rw[←Nat.pow_add,show m+(64-m)=64 by omega,Nat.mul_add]at h3
  omega
 rw[q0F this,Nat.add_comm]
def qar (z:Int):D:=if-9223372036854775808≤z∧z≤9223372036854775807 then .tup [.int .i64 z,.bool true]else .tup [.int .i64 0,.bool false]
set_option maxHeartbeats 1000000 in
theorem qGI (a:RI){k:Nat} [ha:Sz a.mag k](hk:k≤500000000):PU qnw [a.enc]=some (qar a.v):=by
 refine q0g (fn:=qcz) rfl (q0a ?_)
 refine gg rfl (q02 rfl rfl (q4f a hk) (gg rfl ?_))
 have hMo:LOk (q0f a.v.natAbs):=q0D _
 have hMv:val (q0f a.v.natAbs)=a.v.natAbs:=q0o _
 have hlen:(q0f a.v.natAbs).length≤2↔a.v.natAbs<18446744073709551616:=by rw[q0q]
 have hneg:(RI.of a.v).neg=decide (a.v<0):=rfl
 have hmag:(RI.of a.v).mag=q0f a.v.natAbs:=rfl
 rw[hmag]at*
 generalize q0f a.v.natAbs=M at*
 rw[List.length_map]
 refine q01 rfl (fun h1=>?_) (fun h1=>?_)
 ·rw[q06]at h1
  refine gg rfl (q09 rfl rfl rfl trivial ?_)
  rw[qar,if_neg (by omega)]
 rw[q07]at h1
 have h2:=hlen.1 (by omega)
 refine gg rfl (q0l (S:=fun x:Nat=>([.ptr 0 0 0,.int .u64 (val (M.take x)),nat M,q00 M.length,q00 x],[some (.row [.agg [.bool (decide (a.v<0)),nat M]] 2),none,none,none,none],[0,0,0,0,0])) (C:=fun x=>x≤M.length) (m:=fun x=>M.length-x) 0 (Nat.zero_le _) (by omega) ?_ ?_)
 ·exact q03 rfl ⟨rfl,trivial⟩ (by simp[nat,q00,val,hneg])
 intro i hi N hN
 refine gg rfl (q01 rfl (fun g1=>?_) (fun g1=>?_))
 ·rw[q06]at g1
  have hlt:i<M.length:=by omega
  have hx:=q1q hMo i
  have wi:=wS (n:=i)
  have w3:IntKind.i64.wrap (32*(i:Int))=((32*i:Nat):Int):=by rw[wrap64 (by omega) (by omega)];omega
  have wx:IntKind.u64.wrap (dg M i:Int)=(dg M i:Int):=q0F (by omega)
  have hb:dg M i*2^(32*i)<18446744073709551616:=by
   have:i=0∨i=1:=by omega
   rcases this with rfl|rfl<;>simp<;>omega
  have hv:=q2n hMo i
  have ho:=orU64g (a:=val (M.take i)) (b:=dg M i) (m:=32*i) (by omega) (by rw[Nat.pow_mul];exact hv) hb
  refine gg rfl (q0j i rfl rfl rfl (q2P hlt) rfl (gg rfl (q7a (dg M i) (32*i) rfl rfl wx w3 (by show 32*i≤64;omega) (q0F hb) ?_)))
  refine gg rfl ?_
  rw[ho]
  refine q04 (hN (i+1) hlt (by omega) (q03 rfl ⟨rfl,trivial⟩ ?_))
  have e:val (M.take (i+1))=val (M.take i)+dg M i*2^(32*i):=by rw[q0V,Nat.pow_mul,Nat.mul_comm]
  simp[nat,q00,wi,e]
 rw[q07]at g1
 obtain rfl:i=M.length:=by omega
 have e1:IntKind.i64.wrap (IntKind.u64.wrap (0-(a.v.natAbs:Int)))= -(a.v.natAbs:Int)∨9223372036854775808<a.v.natAbs:=by
  by_cases h:a.v.natAbs≤9223372036854775808
  ·left
   rw[q0Y]
   simp[IntKind.wrap,IntKind.bits,IntKind.signed]
   omega
  right;omega
 have e2:IntKind.i64.wrap (a.v.natAbs:Int)=(a.v.natAbs:Int)∨9223372036854775808≤a.v.natAbs:=by
  by_cases h:a.v.natAbs<9223372036854775808
  ·left;exact wrap64 (by omega) (by omega)
  right;omega
 rw[List.take_length,hMv]at*
 clear hN
 refine gg rfl (q04 ?_)
 repeat' (first
  |refine goP 800 rfl rfl ?_
  |refine q0h rfl ?_|refine q0m rfl ?_|refine q08 rfl (fun _=>?_) (fun _=>?_)
  |refine q0d rfl ?_|refine q0i rfl ?_|refine q01 rfl (fun _=>?_) (fun _=>?_)
  |refine q0Q rfl (fun _=>?_) (fun _=>?_)
  |refine q09 rfl rfl rfl trivial ?_)
 all_goals simp only[q1U,q2h,decide_eq_true_eq,decide_eq_false_iff_not,Bool.not_eq_true',Bool.not_eq_false']at*
 all_goals unfold qar
 all_goals (rcases e1 with e1|e1<;>rcases e2 with e2|e2<;>(try rw[e1])<;>(try rw[e2])<;>split<;>first|(exfalso;omega) |rfl|(simp;omega) |trace_state)
end Go.F

namespace Go.F
structure RR where
 neg:Bool
 mag:List Nat
 den:List Nat
def RR.num (a:RR):RI:=⟨a.neg,a.mag⟩
def RR.enc (a:RR):D:=.agg [.bool a.neg,nat a.mag,nat a.den]
def RR.v (a:RR):Rat:=mkRat a.num.v (val a.den)
def RR.of (q:Rat):RR:=⟨decide (q.num<0),q0f q.num.natAbs,q0f q.den⟩
def q8c (q:Rat):D:=(RR.of q).enc
theorem RR.of_v (q:Rat):(RR.of q).v=q:=by
 show mkRat (RI.of q.num).v (val (q0f q.den))=q
 rw[RI.of_v,q0o,Rat.mkRat_self]
class SzR (a:RR) (k:outParam Nat):Prop where
 mag:Sz a.mag k
 den:Sz a.den k
instance szRm {a:RR}{k:Nat} [h:SzR a k]:Sz a.mag k:=h.mag
instance szRd {a:RR}{k:Nat} [h:SzR a k]:Sz a.den k:=h.den
instance szRn {a:RR}{k:Nat} [h:SzR a k]:Sz a.num.mag k:=h.mag
class QB (q:Rat) (k:outParam Nat):Prop where
 num:q.num.natAbs<4294967296^k
 den:q.den<4294967296^k
instance qHu {q:Rat}{k:Nat} [h:QB q k]:SzR (RR.of q) k:=⟨⟨q0D _,q0q.2 h.num⟩,⟨q0D _,q0q.2 h.den⟩⟩
theorem qn3 {n:Int}{g:Nat}(hg:g∣n.natAbs):(n/(g:Int)).natAbs=n.natAbs/g:=by
 have:(g:Int)∣n:=Int.dvd_natAbs.1 (Int.natCast_dvd_natCast.2 hg)
 rw[Int.natAbs_ediv_of_dvd this];simp
theorem qCX {n:Int}{d:Nat}{j:Nat}(hn:n.natAbs<4294967296^j)(hd:d<4294967296^j)(hd0:d≠0):QB (mkRat n d) j:=by
 constructor
 ·rw[Rat.num_mkRat,if_neg hd0,qn3 (Nat.gcd_dvd_right _ _)]
  exact q6J (Nat.div_le_self _ _) hn
 rw[Rat.den_mkRat,if_neg hd0]
 exact q6J (Nat.div_le_self _ _) hd
instance qHv {a b:Rat}{j k:Nat} [ha:QB a j] [hb:QB b k]:QB (a+b) (j+k+1):=by
 rw[Rat.add_def']
 refine qCX ?_ ?_ (Nat.mul_ne_zero a.den_nz b.den_nz)
 ·have h1:=q2y ha.num hb.den
  have h2:=q2y hb.num ha.den
  rw[Nat.add_comm k j]at h2
  have:(a.num*b.den+b.num*a.den).natAbs≤a.num.natAbs*b.den+b.num.natAbs*a.den:=by
   refine Nat.le_trans (Int.natAbs_add_le _ _) ?_
   rw[Int.natAbs_mul,Int.natAbs_mul];simp
  rw[Nat.pow_succ]
  omega
 exact q6J (Nat.le_refl _) (Nat.lt_of_lt_of_le (q2y ha.den hb.den) (qeR (by omega)))
instance qHw {a b:Rat}{j k:Nat} [ha:QB a j] [hb:QB b k]:QB (a*b) (j+k):=by
 rw[Rat.mul_def']
 refine qCX ?_ (q2y ha.den hb.den) (Nat.mul_ne_zero a.den_nz b.den_nz)
 rw[Int.natAbs_mul];exact q2y ha.num hb.num
instance qbNeg {a:Rat}{k:Nat} [h:QB a k]:QB (-a) k:=⟨by rw[Rat.neg_num,Int.natAbs_neg];exact h.num,by rw[Rat.neg_den];exact h.den⟩
instance qHx {a b:Rat}{j k:Nat} [ha:QB a j] [hb:QB b k]:QB (a-b) (j+k+1):=by
 rw[Rat.sub_eq_add_neg];exact qHv
theorem qIQ (n:Int):n.sign.natAbs≤1:=by
 rcases Int.lt_trichotomy n 0 with h|h|h
 ·rw[Int.sign_eq_neg_one_of_neg h];decide
 ·subst h;decide
 rw[Int.sign_eq_one_of_pos h];decide
instance qbInv {a:Rat}{k:Nat} [h:QB a k]:QB a⁻¹ k:=by
 constructor
 ·rw[Rat.num_inv,Int.natAbs_mul]
  have h1:=qIQ a.num
  refine q6J ?_ h.den
  calc a.num.sign.natAbs*((a.den:Int)).natAbs≤1*a.den:=Nat.mul_le_mul h1 (by simp)
   _=a.den:=Nat.one_mul _
 rw[Rat.den_inv]
 split
 ·exact q6J a.den_pos h.den
 exact h.num
instance qbDiv {a b:Rat}{j k:Nat} [ha:QB a j] [hb:QB b k]:QB (a/b) (j+k):=by
 rw[Rat.div_def];exact qHw
theorem qBx {z:Int}(h1: -9223372036854775808≤z)(h2:z≤9223372036854775807):QB (z:Rat) 2:=by
 constructor
 ·rw[Rat.num_intCast];show z.natAbs<18446744073709551616;omega
 rw[Rat.den_intCast];decide
def rnd (n:Int)(d:Nat):Int:=if n<0 then-(((2*n.natAbs+d)/(2*d):Nat):Int)else((2*n.natAbs+d)/(2*d):Nat)
def q1s (q:Rat):Int:=rnd q.num q.den
theorem qIR (n:Int)(d k:Nat)(hk:k≠0):rnd (n*k) (d*k)=rnd n d:=by
 unfold rnd
 have e:(2*(n*(k:Int)).natAbs+d*k)/(2*(d*k))=(2*n.natAbs+d)/(2*d):=by
  rw[Int.natAbs_mul]
  simp only[Int.natAbs_natCast]
  rw[←Nat.mul_assoc,←Nat.add_mul,←Nat.mul_assoc,Nat.mul_div_mul_right _ _ (Nat.pos_of_ne_zero hk)]
 have hs:n*(k:Int)<0↔n<0:=by
  have hk':(0:Int)<k:=by omega
  constructor
  ·intro h
   by_cases hn:n<0
   ·exact hn
   have:=Int.mul_nonneg (show 0≤n by omega) (Int.le_of_lt hk');omega
  intro h;exact Int.mul_neg_of_neg_of_pos h hk'
 rw[e]
 by_cases h:n<0
 ·rw[if_pos h,if_pos (hs.2 h)]
 rw[if_neg h,if_neg (fun h'=>h (hs.1 h'))]
theorem qkM (n:Int){d:Nat}(hd:d≠0):q1s (mkRat n d)=rnd n d:=by
 obtain⟨k,hk,h1,h2⟩:=Rat.normalize_num_den' n d hd
 rw[Rat.normalize_eq_mkRat]at h1 h2
 show rnd (mkRat n d).num (mkRat n d).den=rnd n d
 rw[←qIR _ _ k hk,←h1,←h2]
theorem qCY {n:Int}{d:Nat}(hd:d≠0):q8c (mkRat n d)=.agg [.bool (decide (n<0)),nat (q0f (n.natAbs/Nat.gcd n.natAbs d)),nat (q0f (d/Nat.gcd n.natAbs d))]:=by
 have e1:(mkRat n d).num.natAbs=n.natAbs/Nat.gcd n.natAbs d:=by
  rw[Rat.num_mkRat,if_neg hd,qn3 (Nat.gcd_dvd_right _ _),Nat.gcd_comm]
 have e2:(mkRat n d).den=d/Nat.gcd n.natAbs d:=by
  rw[Rat.den_mkRat,if_neg hd,Nat.gcd_comm]
 have e3:(mkRat n d).num<0↔n<0:=by
  have h1:0≤(mkRat n d).num↔0≤n:=by
   rw[Rat.num_nonneg,←Rat.divInt_ofNat,Rat.divInt_nonneg_iff_of_pos_right (by omega)]
  omega
 unfold q8c RR.of RR.enc
 simp only[e1,e2]
 rw[show decide ((mkRat n d).num<0)=decide (n<0)from by simp only[e3]]
def RR.fix (a:RR):RR:=if val a.den=0 then⟨false,[],[1]⟩else a
theorem RR.fix_v (a:RR):a.fix.v=a.v:=by
 unfold RR.fix
 split
 ·rename_i h
  simp only[RR.v,h,Rat.mkRat_zero]
  rfl
 rfl
theorem RR.fix_den (a:RR):val a.fix.den≠0:=by
 unfold RR.fix
 split
 ·simp[val]
 assumption
instance qah {a:RR}{k:Nat} [h:SzR a k]:SzR a.fix (k+1):=by
 have h1:=h.mag.len
 have h2:=h.den.len
 unfold RR.fix
 split
 ·exact⟨⟨⟨by simp⟩,by simp⟩,⟨⟨by simp⟩,by simp⟩⟩
 exact⟨⟨h.mag.ok,by omega⟩,⟨h.den.ok,by omega⟩⟩
end Go.F

namespace Go.F
attribute [local irreducible] IntKind.wrap wpM
theorem qCZ (l:List Nat){k:Nat} [h:Sz l k](hk:k≤100000000):PU qvj [nat l]=some (.bool (decide (val l=0))):=by
 have hl:=h.len
 refine q0g (fn:=qhS) rfl (q0a ?_)
 refine gg rfl (q02 rfl rfl (qqs l [] (by omega) (by simp)) ?_)
 refine gg rfl (q09 rfl rfl rfl trivial ?_)
 congr 1
 rw[q2o,decide_eq_decide]
 have e:q3W (val l:Int) (val ([]:List Nat):Int)=if val l=0 then 0 else 1:=by
  show q3W (val l:Int) 0=_
  unfold q3W
  by_cases h0:val l=0
  ·simp[h0]
  rw[if_neg (by omega),if_pos (by omega),if_neg h0]
 rw[e]
 by_cases h0:val l=0<;>simp[h0]
theorem qai (l:List Nat):PU qkw [nat l]=some (RI.enc ⟨false,l⟩):=by
 refine q0g (fn:=qaY) rfl (q0a ?_)
 exact gg rfl (q09 rfl rfl rfl trivial rfl)
theorem q5B (a:RR){k:Nat} [h:SzR a k](hk:k≤100000000):PU qs2 [a.enc]=some a.fix.enc:=by
 refine q0g (fn:=qg9) rfl (q0a ?_)
 refine gg rfl (q02 rfl rfl (qCZ a.den hk) (gg rfl (q01 rfl (fun g=>?_) (fun g=>?_))))
 ·refine gg rfl (q02 rfl rfl (q7l 1 (by decide)) ?_)
  refine gg rfl (q09 rfl rfl rfl trivial ?_)
  rw[RR.fix,if_pos (by simpa using g)];rfl
 refine gg rfl (q09 rfl rfl rfl trivial ?_)
 rw[RR.fix,if_neg (by simpa using g)];rfl
theorem qbF (n:RI)(d:List Nat){j k:Nat} [hn:Sz n.mag j] [hd:Sz d k](hj:j≤100000000)(hk:k≤100000000)(hd0:val d≠0):PU qq3 [n.enc,nat d]=some (q8c (mkRat n.v (val d))):=by
 have ln:=hn.len
 have ld:=hd.len
 have nbn:NB (val n.mag) j:=inferInstance
 have nbd:NB (val d) k:=inferInstance
 have hg0:Nat.gcd (val n.mag) (val d)≠0:=by
  have:=Nat.gcd_pos_of_pos_right (val n.mag) (show 0<val d by omega);omega
 have lg:(q0f (Nat.gcd (val n.mag) (val d))).length≤k:=q0q.2 (q6J (Nat.gcd_le_right _ (by omega)) nbd.lt)
 have d1:=qfG n.mag (q0f (Nat.gcd (val n.mag) (val d))) (by omega) (by omega)
 have d2:=qfG d (q0f (Nat.gcd (val n.mag) (val d))) (by omega) (by omega)
 rw[q0o,if_neg hg0]at d1 d2
 have s1:Sz (q0f (val n.mag/Nat.gcd (val n.mag) (val d))) j:=⟨q0D _,q0q.2 (q6J (Nat.div_le_self _ _) nbn.lt)⟩
 refine q0g (fn:=qdL) rfl (q0a ?_)
 refine gg rfl (q02 rfl rfl (Gcd_PU n.mag d (by omega) (by omega)) ?_)
 refine gg rfl (q02 rfl rfl d1 (gg rfl (q02 rfl rfl d2 (gg rfl (q02 rfl rfl (q4f ⟨n.neg,q0f (val n.mag/Nat.gcd (val n.mag) (val d))⟩ (by omega)) ?_)))))
 refine gg rfl (q09 rfl rfl rfl trivial ?_)
 rw[qCY hd0,RI.v_abs]
 have e1:RI.v ⟨n.neg,q0f (val n.mag/Nat.gcd (val n.mag) (val d))⟩=if n.neg then-((val n.mag/Nat.gcd (val n.mag) (val d):Nat):Int)else(val n.mag/Nat.gcd (val n.mag) (val d):Nat):=by
  rw[RI.v,q0o]
 have hdv:=Nat.div_mul_cancel (Nat.gcd_dvd_left (val n.mag) (val d))
 have e2:decide (RI.v ⟨n.neg,q0f (val n.mag/Nat.gcd (val n.mag) (val d))⟩<0)=decide (n.v<0):=by
  rw[e1,decide_eq_decide,RI.v]
  have hz:val n.mag/Nat.gcd (val n.mag) (val d)=0↔val n.mag=0:=by
   constructor
   ·intro h;rw[h]at hdv;omega
   intro h;rw[h];simp
  generalize val n.mag/Nat.gcd (val n.mag) (val d)=x at*
  split<;>omega
 have e3:(RI.v ⟨n.neg,q0f (val n.mag/Nat.gcd (val n.mag) (val d))⟩).natAbs=val n.mag/Nat.gcd (val n.mag) (val d):=by
  rw[RI.v_abs,q0o]
 show D.agg [.bool (decide (RI.v ⟨n.neg,q0f (val n.mag/Nat.gcd (val n.mag) (val d))⟩<0)),nat (q0f (RI.v ⟨n.neg,q0f (val n.mag/Nat.gcd (val n.mag) (val d))⟩).natAbs),nat (q0f (val d/Nat.gcd (val n.mag) (val d)))]=_
 rw[e2,e3]
theorem qn4 (n d:Int)(h1: -9223372036854775808≤n)(h2:n≤9223372036854775807)(h3:0<d)(h4:d≤9223372036854775807):PU qAH [.int .i64 n,.int .i64 d]=some (.tup [q8c (mkRat n d.toNat),.bool true]):=by
 have nb:NB n.natAbs 2:=⟨by show n.natAbs<18446744073709551616;omega⟩
 have nb2:NB d.natAbs 2:=⟨by show d.natAbs<18446744073709551616;omega⟩
 have hneg:(RI.of d).neg=false:=by show decide (d<0)=false;simp;omega
 have hr:=qbF (RI.of n) (q0f d.natAbs) (by decide) (by decide) (by rw[q0o];omega)
 rw[RI.of_v,q0o]at hr
 have hdn:d.natAbs=d.toNat:=by omega
 rw[←hdn]
 refine q0g (fn:=qp8) rfl (q0a ?_)
 refine gg rfl (q01 rfl (fun g=>?_) (fun g=>?_))
 ·rw[q1I]at g;omega
 refine gg rfl (q02 rfl rfl (qgW n (by omega) (by omega)) ?_)
 refine gg rfl (q02 rfl rfl (qgW d (by omega) (by omega)) ?_)
 refine gg rfl ?_
 have e:(!((RI.of n).neg==(RI.of d).neg))=(RI.of n).neg:=by rw[hneg];cases(RI.of n).neg<;>rfl
 rw[e]
 exact q02 rfl rfl hr (gg rfl (q09 rfl rfl rfl trivial rfl))
theorem qwg (a:RR){k:Nat} [h:SzR a k](hk:k≤10000000):PU qxW [a.enc]=some (q8c (-a.v)):=by
 have h0:=a.fix_den
 have hv:=a.fix_v
 have sn:Sz (RI.of (-a.fix.num.v)).mag (k+1):=⟨q0D _,q0q.2 (by rw[Int.natAbs_neg,RI.v_abs];exact(q5w (l:=a.fix.num.mag)).lt)⟩
 have hr:=qbF (RI.of (-a.fix.num.v)) a.fix.den (by omega) (by omega) h0
 rw[RI.of_v,←Rat.neg_mkRat]at hr
 refine q0g (fn:=qlW) rfl (q0a ?_)
 refine gg rfl (q02 rfl rfl (q5B a (by omega)) ?_)
 refine gg rfl (q02 rfl rfl (qqa a.fix.num (by omega)) ?_)
 refine gg rfl (q02 rfl rfl hr (gg rfl (q09 rfl rfl rfl trivial ?_)))
 rw[←hv];rfl
theorem qHz (l:List Nat):RI.v ⟨false,l⟩=val l:=by simp[RI.v]
theorem qck (a b:RR){j k:Nat} [ha:SzR a j] [hb:SzR b k](hj:j≤10000000)(hk:k≤10000000):PU qxV [a.enc,b.enc]=some (q8c (a.v+b.v)):=by
 have ha0:=a.fix_den
 have hb0:=b.fix_den
 have hva:=a.fix_v
 have hvb:=b.fix_v
 have na:=(q5w (l:=a.fix.num.mag)).lt
 have nad:=(q5w (l:=a.fix.den)).lt
 have nb:=(q5w (l:=b.fix.num.mag)).lt
 have nbd:=(q5w (l:=b.fix.den)).lt
 have s1:Sz (RI.of (a.fix.num.v*val b.fix.den)).mag ((j+1)+(k+1)):=⟨q0D _,q0q.2 (by rw[Int.natAbs_mul,RI.v_abs];exact q2y na nbd)⟩
 have s2:Sz (RI.of (b.fix.num.v*val a.fix.den)).mag ((k+1)+(j+1)):=⟨q0D _,q0q.2 (by rw[Int.natAbs_mul,RI.v_abs];exact q2y nb nad)⟩
 have s3:Sz (RI.of (a.fix.num.v*val b.fix.den+b.fix.num.v*val a.fix.den)).mag (((j+1)+(k+1))+((k+1)+(j+1))+1):=
  ⟨q0D _,q0q.2 (q6J (Int.natAbs_add_le _ _) (qeS (by rw[Int.natAbs_mul,RI.v_abs];exact q2y na nbd) (by rw[Int.natAbs_mul,RI.v_abs];exact q2y nb nad)))⟩
 have s4:Sz (q0f (val a.fix.den*val b.fix.den)) ((j+1)+(k+1)):=⟨q0D _,q0q.2 (q2y nad nbd)⟩
 have sp1:Sz (RI.mag ⟨false,b.fix.den⟩) (k+1):=(qah (a:=b)).den
 have sp2:Sz (RI.mag ⟨false,a.fix.den⟩) (j+1):=(qah (a:=a)).den
 have lad:=(qah (a:=a)).den.len
 have lbd:=(qah (a:=b)).den.len
 have m1:=q4G a.fix.num ⟨false,b.fix.den⟩ (by omega) (by omega)
 have m2:=q4G b.fix.num ⟨false,a.fix.den⟩ (by omega) (by omega)
 rw[qHz]at m1 m2
 have a1:=qqc (RI.of (a.fix.num.v*val b.fix.den)) (RI.of (b.fix.num.v*val a.fix.den)) (by omega) (by omega)
 rw[RI.of_v,RI.of_v]at a1
 have r1:=qbF (RI.of (a.fix.num.v*val b.fix.den+b.fix.num.v*val a.fix.den)) (q0f (val a.fix.den*val b.fix.den)) (by omega) (by omega) (by rw[q0o];exact Nat.mul_ne_zero ha0 hb0)
 rw[RI.of_v,q0o,←Rat.mkRat_add_mkRat _ _ ha0 hb0]at r1
 refine q0g (fn:=qmc) rfl (q0a ?_)
 refine gg rfl (q02 rfl rfl (q5B a (by omega)) ?_)
 refine gg rfl (q02 rfl rfl (q5B b (by omega)) ?_)
 refine gg rfl (q02 rfl rfl (qai b.fix.den) (gg rfl (q02 rfl rfl m1 (gg rfl (q02 rfl rfl (qai a.fix.den) (gg rfl (q02 rfl rfl m2 (gg rfl (q02 rfl rfl a1 (gg rfl (q02 rfl rfl (qqt a.fix.den b.fix.den (by omega) (by omega)) ?_)))))))))))
 refine gg rfl (q02 rfl rfl r1 (gg rfl (q09 rfl rfl rfl trivial ?_)))
 rw[←hva,←hvb];rfl
end Go.F

namespace Go.F
attribute [local irreducible] IntKind.wrap wpM
instance qbV {a:RR}{k:Nat} [h:SzR a k]:QB a.v (k+1):=by
 by_cases h0:val a.den=0
 ·have e:a.v=0:=by rw[RR.v,h0,Rat.mkRat_zero]
  rw[e]
  refine⟨?_,?_⟩
  ·show 0<_;exact qGH _
  show 1<_
  have:=qeR (show 1≤k+1 by omega)
  omega
 have h1:=(q5w (l:=a.num.mag)).lt
 have h2:=(q5w (l:=a.den)).lt
 have:=qeR (show k≤k+1 by omega)
 exact qCX (by rw[RI.v_abs];omega) (by omega) h0
theorem qcl (a b:RR){j k:Nat} [ha:SzR a j] [hb:SzR b k](hj:j≤1000000)(hk:k≤1000000):PU qxP [a.enc,b.enc]=some (q8c (a.v-b.v)):=by
 have h1:=qck a (RR.of (-b.v)) (by omega) (by omega)
 rw[RR.of_v,←Rat.sub_eq_add_neg]at h1
 refine q0g (fn:=qmx) rfl (q0a ?_)
 refine gg rfl (q02 rfl rfl (qwg b (by omega)) ?_)
 exact gg rfl (q02 rfl rfl h1 (gg rfl (q09 rfl rfl rfl trivial rfl)))
theorem q8d (a b:RR){j k:Nat} [ha:SzR a j] [hb:SzR b k](hj:j≤10000000)(hk:k≤10000000):PU qxT [a.enc,b.enc]=some (q8c (a.v*b.v)):=by
 have ha0:=a.fix_den
 have hb0:=b.fix_den
 have hva:=a.fix_v
 have hvb:=b.fix_v
 have na:=(q5w (l:=a.fix.num.mag)).lt
 have nad:=(q5w (l:=a.fix.den)).lt
 have nb:=(q5w (l:=b.fix.num.mag)).lt
 have nbd:=(q5w (l:=b.fix.den)).lt
 have lad:=(qah (a:=a)).den.len
 have lbd:=(qah (a:=b)).den.len
 have s1:Sz (RI.of (a.fix.num.v*b.fix.num.v)).mag ((j+1)+(k+1)):=⟨q0D _,q0q.2 (by rw[Int.natAbs_mul,RI.v_abs,RI.v_abs];exact q2y na nb)⟩
 have s4:Sz (q0f (val a.fix.den*val b.fix.den)) ((j+1)+(k+1)):=⟨q0D _,q0q.2 (q2y nad nbd)⟩
 have r1:=qbF (RI.of (a.fix.num.v*b.fix.num.v)) (q0f (val a.fix.den*val b.fix.den)) (by omega) (by omega) (by rw[q0o];exact Nat.mul_ne_zero ha0 hb0)
 rw[RI.of_v,q0o,←Rat.mkRat_mul_mkRat]at r1
 refine q0g (fn:=qlx) rfl (q0a ?_)
 refine gg rfl (q02 rfl rfl (q5B a (by omega)) ?_)
 refine gg rfl (q02 rfl rfl (q5B b (by omega)) ?_)
 refine gg rfl (q02 rfl rfl (q4G a.fix.num b.fix.num (by omega) (by omega)) ?_)
 refine gg rfl (q02 rfl rfl (qqt a.fix.den b.fix.den (by omega) (by omega)) ?_)
 refine gg rfl (q02 rfl rfl r1 (gg rfl (q09 rfl rfl rfl trivial ?_)))
 rw[←hva,←hvb];rfl
theorem qHA (a b:RR)(ha:val a.den≠0)(hb:val b.den≠0)(hbm:val b.mag≠0):mkRat (RI.v ⟨!(a.neg==b.neg),q0f (val a.mag*val b.den)⟩) (val a.den*val b.mag)=a.v/b.v:=by
 have hbv:b.v≠0:=by
  rw[RR.v,Rat.mkRat_ne_zero hb]
  intro h
  have:=RI.v_abs b.num
  rw[h]at this
  exact hbm (by simpa[RR.num]using this.symm)
 have e:mkRat (RI.v ⟨!(a.neg==b.neg),q0f (val a.mag*val b.den)⟩) (val a.den*val b.mag) *b.v=a.v:=by
  rw[RR.v,RR.v,Rat.mkRat_mul_mkRat,Rat.mkRat_eq_iff (Nat.mul_ne_zero (Nat.mul_ne_zero ha hbm) hb) ha]
  unfold RI.v RR.num
  simp only[q0o]
  cases a.neg<;>cases b.neg<;>simp<;>grind
 rw[←e,Rat.mul_div_cancel hbv]
theorem qwh (a b:RR){j k:Nat} [ha:SzR a j] [hb:SzR b k](hj:j≤10000000)(hk:k≤10000000):PU qxO [a.enc,b.enc]=some (if b.v=0 then .tup [RR.enc ⟨false,[],[]⟩,.bool false]else .tup [q8c (a.v/b.v),.bool true]):=by
 have ha0:=a.fix_den
 have hb0:=b.fix_den
 have hva:=a.fix_v
 have hvb:=b.fix_v
 have na:=(q5w (l:=a.fix.mag)).lt
 have nad:=(q5w (l:=a.fix.den)).lt
 have nb:=(q5w (l:=b.fix.mag)).lt
 have nbd:=(q5w (l:=b.fix.den)).lt
 have lad:=(qah (a:=a)).den.len
 have lbd:=(qah (a:=b)).den.len
 have lam:=(qah (a:=a)).mag.len
 have lbm:=(qah (a:=b)).mag.len
 have hz:b.v=0↔val b.fix.mag=0:=by
  rw[←hvb,RR.v,Rat.mkRat_eq_zero hb0]
  have:=RI.v_abs b.fix.num
  constructor
  ·intro h;rw[h]at this;exact this.symm
  intro h;have h2:b.fix.num.v.natAbs=0:=by rw[this];exact h
  exact Int.natAbs_eq_zero.1 h2
 have s1:Sz (q0f (val a.fix.mag*val b.fix.den)) ((j+1)+(k+1)):=⟨q0D _,q0q.2 (q2y na nbd)⟩
 have s1':Sz (RI.mag ⟨!(a.fix.neg==b.fix.neg),q0f (val a.fix.mag*val b.fix.den)⟩) ((j+1)+(k+1)):=s1
 have s4:Sz (q0f (val a.fix.den*val b.fix.mag)) ((j+1)+(k+1)):=⟨q0D _,q0q.2 (q2y nad nb)⟩
 refine q0g (fn:=qlM) rfl (q0a ?_)
 refine gg rfl (q02 rfl rfl (q5B a (by omega)) ?_)
 refine gg rfl (q02 rfl rfl (q5B b (by omega)) ?_)
 refine gg rfl (q02 rfl rfl (qCZ b.fix.mag (by omega)) ?_)
 refine gg rfl (q01 rfl (fun g=>?_) (fun g=>?_))
 ·have g:val b.fix.mag=0:=by simpa using g
  refine gg rfl (q09 rfl rfl rfl trivial ?_)
  rw[if_pos (hz.2 g)];rfl
 have g:val b.fix.mag≠0:=by simpa using g
 have r1:=qbF ⟨!(a.fix.neg==b.fix.neg),q0f (val a.fix.mag*val b.fix.den)⟩ (q0f (val a.fix.den*val b.fix.mag)) (by omega) (by omega) (by rw[q0o];exact Nat.mul_ne_zero ha0 g)
 rw[q0o,qHA a.fix b.fix ha0 hb0 g,hva,hvb]at r1
 refine gg rfl (q02 rfl rfl (qqt a.fix.mag b.fix.den (by omega) (by omega)) ?_)
 refine gg rfl (q02 rfl rfl (qqt a.fix.den b.fix.mag (by omega) (by omega)) ?_)
 refine gg rfl (q02 rfl rfl r1 (gg rfl (q09 rfl rfl rfl trivial ?_)))
 rw[if_neg (fun h=>g (hz.1 h))];rfl
theorem qz4 (a:RR)(ha:val a.den≠0):RI.v ⟨a.neg,q0f ((val a.mag+val a.mag+val a.den)/(val a.den+val a.den))⟩=q1s a.v:=by
 rw[RR.v,qkM _ ha]
 unfold rnd
 rw[RI.v_abs]
 simp only[RR.num,q0o,RI.v]
 rw[←Nat.two_mul,←Nat.two_mul]
 by_cases h0:val a.mag=0
 ·have:(2*val a.mag+val a.den)/(2*val a.den)=0:=by rw[h0];exact Nat.div_eq_of_lt (by omega)
  rw[this];simp[h0]
 by_cases hn:a.neg=true
 ·simp only[hn,if_true];rw[if_pos (by omega)]
 simp only[hn,if_false];rw[if_neg (by simp),if_neg (by rw[if_neg (by simp)];omega)]
theorem qES (q:Rat):(q1s q).natAbs≤2*q.num.natAbs+q.den:=by
 unfold q1s rnd
 have:=Nat.div_le_self (2*q.num.natAbs+q.den) (2*q.den)
 generalize (2*q.num.natAbs+q.den)/(2*q.den)=x at*
 split<;>omega
instance nbRound {q:Rat}{k:Nat} [h:QB q k]:NB (q1s q).natAbs (k+1):=by
 refine⟨q6J (qES q) ?_⟩
 have h1:=h.num
 have h2:=h.den
 rw[Nat.pow_succ]
 omega
theorem qr1 (a:RR){k:Nat} [h:SzR a k](hk:k≤1000000):PU qs5 [a.enc]=some (encI (q1s a.v)):=by
 have ha0:=a.fix_den
 have hva:=a.fix_v
 have na:=(q5w (l:=a.fix.mag)).lt
 have nad:=(q5w (l:=a.fix.den)).lt
 have lad:=(qah (a:=a)).den.len
 have lam:=(qah (a:=a)).mag.len
 have n2:=qeS na na
 have n3:=qeS n2 nad
 have n4:=qeS nad nad
 have l2:=q0q.2 n2
 have l3:=q0q.2 n3
 have l4:=q0q.2 n4
 have a2:=qvF (q0f (val a.fix.mag+val a.fix.mag)) a.fix.den (by omega) (by omega)
 rw[q0o]at a2
 have d1:=qfG (q0f (val a.fix.mag+val a.fix.mag+val a.fix.den)) (q0f (val a.fix.den+val a.fix.den)) (by omega) (by omega)
 rw[q0o,q0o,if_neg (by omega)]at d1
 have s5:Sz (RI.mag ⟨a.fix.neg,q0f ((val a.fix.mag+val a.fix.mag+val a.fix.den)/(val a.fix.den+val a.fix.den))⟩) _:=⟨q0D _,q0q.2 (q6J (Nat.div_le_self _ _) n3)⟩
 have nrm:=q4f ⟨a.fix.neg,q0f ((val a.fix.mag+val a.fix.mag+val a.fix.den)/(val a.fix.den+val a.fix.den))⟩ (by omega)
 rw[qz4 a.fix ha0,hva]at nrm
 refine q0g (fn:=qgb) rfl (q0a ?_)
 refine gg rfl (q02 rfl rfl (q5B a (by omega)) ?_)
 refine gg rfl (q02 rfl rfl (qvF a.fix.mag a.fix.mag (by omega) (by omega)) ?_)
 refine gg rfl (q02 rfl rfl a2 (gg rfl (q02 rfl rfl (qvF a.fix.den a.fix.den (by omega) (by omega)) ?_)))
 exact gg rfl (q02 rfl rfl d1 (gg rfl (q02 rfl rfl nrm (gg rfl (q09 rfl rfl rfl trivial rfl)))))
end Go.F

namespace Go.F
attribute [local irreducible] IntKind.wrap wpM
structure RP where
 x:RR
 y:RR
structure QP where
 x:Rat
 y:Rat
 deriving DecidableEq
def RP.enc (p:RP):D:=.agg [.bool p.x.neg,nat p.x.mag,nat p.x.den,.bool p.y.neg,nat p.y.mag,nat p.y.den]
def RP.v (p:RP):QP:=⟨p.x.v,p.y.v⟩
def RP.of (q:QP):RP:=⟨RR.of q.x,RR.of q.y⟩
def qkK (q:QP):D:=(RP.of q).enc
theorem RP.of_v (q:QP):(RP.of q).v=q:=by
 unfold RP.of RP.v;simp only[RR.of_v]
class SzP (p:RP) (k:outParam Nat):Prop where
 x:SzR p.x k
 y:SzR p.y k
instance szPx {p:RP}{k:Nat} [h:SzP p k]:SzR p.x k:=h.x
instance szPy {p:RP}{k:Nat} [h:SzP p k]:SzR p.y k:=h.y
class QPB (q:QP) (k:outParam Nat):Prop where
 x:QB q.x k
 y:QB q.y k
instance qpX {q:QP}{k:Nat} [h:QPB q k]:QB q.x k:=h.x
instance qpY {q:QP}{k:Nat} [h:QPB q k]:QB q.y k:=h.y
instance szPOf {q:QP}{k:Nat} [h:QPB q k]:SzP (RP.of q) k:=⟨qHu (h:=h.x),qHu (h:=h.y)⟩
instance qpV {p:RP}{k:Nat} [h:SzP p k]:QPB p.v (k+1):=⟨qbV (h:=h.x),qbV (h:=h.y)⟩
def q7W (a b:QP):QP:=⟨a.x+b.x,a.y+b.y⟩
def q14 (a b:QP):QP:=⟨a.x-b.x,a.y-b.y⟩
def q2z (a:QP)(r:Rat):QP:=⟨a.x*r,a.y*r⟩
def q1O (a b:QP):Rat:=a.x*b.y-a.y*b.x
def onP (a b:QP)(t:Rat):QP:=q7W a (q2z (q14 b a) t)
instance qpAdd {a b:QP}{j k:Nat} [QPB a j] [QPB b k]:QPB (q7W a b) (j+k+1):=⟨qHv,qHv⟩
instance qpSub {a b:QP}{j k:Nat} [QPB a j] [QPB b k]:QPB (q14 a b) (j+k+1):=⟨qHx,qHx⟩
instance qpScale {a:QP}{r:Rat}{j k:Nat} [QPB a j] [QB r k]:QPB (q2z a r) (j+k):=⟨qHw,qHw⟩
instance qbCross {a b:QP}{j k:Nat} [QPB a j] [QPB b k]:QB (q1O a b) ((j+k)+(j+k)+1):=qHx
instance qpOn {a b:QP}{t:Rat}{i j k:Nat} [QPB a i] [QPB b j] [QB t k]:QPB (onP a b t) (i+((j+i+1)+k)+1):=qpAdd
theorem qju (n:Int):mkRat n (1:Int).toNat=(n:Rat):=Rat.mkRat_one n
theorem qyR (x y:Int)(hx1: -9223372036854775808≤x)(hx2:x≤9223372036854775807)(hy1: -9223372036854775808≤y)(hy2:y≤9223372036854775807):PU qAF [.int .i64 x,.int .i64 y]=some (qkK ⟨x,y⟩):=by
 have r1:=qn4 x 1 hx1 hx2 (by decide) (by decide)
 have r2:=qn4 y 1 hy1 hy2 (by decide) (by decide)
 rw[qju]at r1 r2
 refine q0g (fn:=qp4) rfl (q0a ?_)
 exact gg rfl (q02 rfl rfl r1 (gg rfl (q02 rfl rfl r2 (gg rfl (q09 rfl rfl rfl trivial rfl)))))
theorem qvZ (a b:RP){j k:Nat} [ha:SzP a j] [hb:SzP b k](hj:j≤1000000)(hk:k≤1000000):PU qxU [a.enc,b.enc]=some (qkK (q7W a.v b.v)):=by
 refine q0g (fn:=qlU) rfl (q0a ?_)
 refine gg rfl (q02 rfl rfl (qck a.x b.x (by omega) (by omega)) ?_)
 refine gg rfl (q02 rfl rfl (qck a.y b.y (by omega) (by omega)) ?_)
 exact gg rfl (q09 rfl rfl rfl trivial rfl)
theorem q6w (a b:RP){j k:Nat} [ha:SzP a j] [hb:SzP b k](hj:j≤1000000)(hk:k≤1000000):PU qxL [a.enc,b.enc]=some (qkK (q14 a.v b.v)):=by
 refine q0g (fn:=qls) rfl (q0a ?_)
 refine gg rfl (q02 rfl rfl (qcl a.x b.x (by omega) (by omega)) ?_)
 refine gg rfl (q02 rfl rfl (qcl a.y b.y (by omega) (by omega)) ?_)
 exact gg rfl (q09 rfl rfl rfl trivial rfl)
theorem qqV (a:RP)(r:RR){j k:Nat} [ha:SzP a j] [hb:SzR r k](hj:j≤1000000)(hk:k≤1000000):PU qs4 [a.enc,r.enc]=some (qkK (q2z a.v r.v)):=by
 refine q0g (fn:=qgw) rfl (q0a ?_)
 refine gg rfl (q02 rfl rfl (q8d a.x r (by omega) (by omega)) ?_)
 refine gg rfl (q02 rfl rfl (q8d a.y r (by omega) (by omega)) ?_)
 exact gg rfl (q09 rfl rfl rfl trivial rfl)
theorem qf7 (a b:RP){j k:Nat} [ha:SzP a j] [hb:SzP b k](hj:j≤100000)(hk:k≤100000):PU qrY [a.enc,b.enc]=some (q8c (q1O a.v b.v)):=by
 have s:=qcl (RR.of (a.x.v*b.y.v)) (RR.of (a.y.v*b.x.v)) (by omega) (by omega)
 rw[RR.of_v,RR.of_v]at s
 refine q0g (fn:=qg5) rfl (q0a ?_)
 refine gg rfl (q02 rfl rfl (q8d a.x b.y (by omega) (by omega)) ?_)
 refine gg rfl (q02 rfl rfl (q8d a.y b.x (by omega) (by omega)) ?_)
 exact gg rfl (q02 rfl rfl s (gg rfl (q09 rfl rfl rfl trivial rfl)))
theorem qyS (a b:RP)(t:RR){i j k:Nat} [ha:SzP a i] [hb:SzP b j] [ht:SzR t k](hi:i≤10000)(hj:j≤10000)(hk:k≤10000):PU qAE [a.enc,b.enc,t.enc]=some (qkK (onP a.v b.v t.v)):=by
 have s:=qqV (RP.of (q14 b.v a.v)) t (by omega) (by omega)
 rw[RP.of_v]at s
 have d:=qvZ a (RP.of (q2z (q14 b.v a.v) t.v)) (by omega) (by omega)
 rw[RP.of_v]at d
 refine q0g (fn:=qoT) rfl (q0a ?_)
 refine gg rfl (q02 rfl rfl (q6w b a (by omega) (by omega)) ?_)
 exact gg rfl (q02 rfl rfl s (gg rfl (q02 rfl rfl d (gg rfl (q09 rfl rfl rfl trivial rfl)))))
def q3S (a b c d:QP):Option QP:=
 if q1O (q14 b a) (q14 d c)=0 then none else some (onP a b (q1O (q14 c a) (q14 d c)/q1O (q14 b a) (q14 d c)))
def qCV:Option QP→D
 |none=> .tup [RP.enc ⟨⟨false,[],[]⟩,⟨false,[],[]⟩⟩,.int .i64 10]
 |some p=> .tup [qkK p,.int .i64 0]
theorem qst (a b c d:RP){k:Nat} [ha:SzP a k] [hb:SzP b k] [hc:SzP c k] [hd:SzP d k](hk:k≤100):PU qv7 [a.enc,b.enc,c.enc,d.enc]=some (qCV (q3S a.v b.v c.v d.v)):=by
 have c1:=qf7 (RP.of (q14 c.v a.v)) (RP.of (q14 d.v c.v)) (by omega) (by omega)
 have c2:=qf7 (RP.of (q14 b.v a.v)) (RP.of (q14 d.v c.v)) (by omega) (by omega)
 rw[RP.of_v,RP.of_v]at c1 c2
 have dv:=qwh (RR.of (q1O (q14 c.v a.v) (q14 d.v c.v))) (RR.of (q1O (q14 b.v a.v) (q14 d.v c.v))) (by omega) (by omega)
 rw[RR.of_v,RR.of_v]at dv
 refine q0g (fn:=qie) rfl (q0a ?_)
 refine gg rfl (q02 rfl rfl (q6w d c (by omega) (by omega)) ?_)
 refine gg rfl (q02 rfl rfl (q6w c a (by omega) (by omega)) ?_)
 refine gg rfl (q02 rfl rfl c1 (gg rfl (q02 rfl rfl (q6w b a (by omega) (by omega)) ?_)))
 refine gg rfl (q02 rfl rfl c2 (gg rfl ?_))
 by_cases h0:q1O (q14 b.v a.v) (q14 d.v c.v)=0
 ·rw[if_pos h0]at dv
  refine q02 rfl rfl dv (gg rfl (q0d rfl (gg rfl (q09 rfl rfl rfl trivial ?_))))
  rw[q3S,if_pos h0];rfl
 rw[if_neg h0]at dv
 have o:=qyS a b (RR.of (q1O (q14 c.v a.v) (q14 d.v c.v)/q1O (q14 b.v a.v) (q14 d.v c.v))) (by omega) (by omega) (by omega)
 rw[RR.of_v]at o
 refine q02 rfl rfl dv (gg rfl (q0i rfl (gg rfl (q02 rfl rfl o (gg rfl (q09 rfl rfl rfl trivial ?_))))))
 rw[q3S,if_neg h0];rfl
def q9n (z:Int):Bool:=decide (-1048576≤z)&&decide (z≤1048576)
theorem qgY (r:RR){k:Nat} [h:SzR r k](hk:k≤100000):PU qhs [r.enc]=some (.tup [.int .i64 (if-9223372036854775808≤q1s r.v∧q1s r.v≤9223372036854775807 then q1s r.v else 0),.bool (q9n (q1s r.v))]):=by
 have s:=qGI (RI.of (q1s r.v)) (by omega)
 rw[RI.of_v]at s
 refine q0g (fn:=q8P) rfl (q0a ?_)
 refine gg rfl (q02 rfl rfl (qr1 r (by omega)) ?_)
 refine gg rfl ?_
 by_cases h1: -9223372036854775808≤q1s r.v∧q1s r.v≤9223372036854775807
 ·rw[qar,if_pos h1]at s
  rw[if_pos h1]
  refine q02 rfl rfl s ?_
  repeat' (first
   |refine goP 800 rfl rfl ?_
   |refine q0h rfl ?_|refine q0m rfl ?_|refine q08 rfl (fun _=>?_) (fun _=>?_)
   |refine q0d rfl ?_|refine q0i rfl ?_|refine q01 rfl (fun _=>?_) (fun _=>?_)
   |refine q0Q rfl (fun _=>?_) (fun _=>?_)
   |refine q09 rfl rfl rfl trivial ?_)
  all_goals simp only[q1U,q2h,decide_eq_true_eq,decide_eq_false_iff_not]at*
  all_goals simp only[q9n]
  all_goals simp_all
  all_goals omega
 rw[qar,if_neg h1]at s
 rw[if_neg h1]
 refine q02 rfl rfl s ?_
 repeat' (first
  |refine goP 800 rfl rfl ?_
  |refine q0h rfl ?_|refine q0m rfl ?_|refine q08 rfl (fun _=>?_) (fun _=>?_)
  |refine q0d rfl ?_|refine q0i rfl ?_|refine q01 rfl (fun _=>?_) (fun _=>?_)
  |refine q0Q rfl (fun _=>?_) (fun _=>?_)
  |refine q09 rfl rfl rfl trivial ?_)
 all_goals simp only[q9n]
 all_goals (simp;omega)
def q2M (p:QP):Spot×Int:=if q9n (q1s p.x)&&q9n (q1s p.y)then(⟨q1s p.x,q1s p.y⟩,0)else(⟨0,0⟩,3)
theorem q3v {z:Int}:q9n z=true↔ -1048576≤z∧z≤1048576:=by simp[q9n]
theorem qIO (p:RP){k:Nat} [h:SzP p k](hk:k≤100000):PU qv8 [p.enc]=some (.tup [(q2M p.v).1.enc,.int .i64 (q2M p.v).2]):=by
 have ex:p.v.x=p.x.v:=rfl
 have ey:p.v.y=p.y.v:=rfl
 refine q0g (fn:=qhX) rfl (q0a ?_)
 refine gg rfl (q02 rfl rfl (qgY p.x hk) (gg rfl (q02 rfl rfl (qgY p.y hk) (gg rfl (q08 rfl (fun g1=>?_) (fun g1=>?_))))))
 ·repeat' (first
   |refine goP 800 rfl rfl ?_
   |refine q0h rfl ?_|refine q0m rfl ?_|refine q08 rfl (fun _=>?_) (fun _=>?_)
   |refine q0d rfl ?_|refine q0i rfl ?_|refine q01 rfl (fun _=>?_) (fun _=>?_)
   |refine q0Q rfl (fun _=>?_) (fun _=>?_)
   |refine q09 rfl rfl rfl trivial ?_)
  simp only[Bool.not_eq_true',Bool.not_eq_false']at g1
  rw[q2M,ex,ey,g1];rfl
 simp only[Bool.not_eq_true',Bool.not_eq_false']at g1
 repeat' (first
  |refine goP 800 rfl rfl ?_
  |refine q0h rfl ?_|refine q0m rfl ?_|refine q08 rfl (fun _=>?_) (fun _=>?_)
  |refine q0d rfl ?_|refine q0i rfl ?_|refine q01 rfl (fun _=>?_) (fun _=>?_)
  |refine q0Q rfl (fun _=>?_) (fun _=>?_)
  |refine q09 rfl rfl rfl trivial ?_)
 ·rename_i g2
  simp only[Bool.not_eq_true',Bool.not_eq_false']at g2
  rw[q2M,ex,ey,g1,g2];rfl
 rename_i g2
 simp only[Bool.not_eq_true',Bool.not_eq_false']at g2
 have g1':=q3v.1 g1
 have g2':=q3v.1 g2
 rw[q2M,ex,ey,g1,g2,if_pos (by omega),if_pos (by omega)];rfl
end Go.F

namespace Go.F
attribute [local irreducible] IntKind.wrap wpM
set_option maxRecDepth 100000 in
theorem qDo:(prog.funcs[qeN]?).map (fun fn=>fn.body.isNone&&fn.name== "math.sqrt")=some true:=by kernel_rfl
theorem qFN {x y:Nat}(h:FloatKind.f64.format.sqrt x=some y):PU qeN [.float .f64 x]=some (.float .f64 y):=by
 refine qzU (n:=1) ?_
 have h0:=qDo
 cases hf:prog.funcs[qeN]? with
 |none=>rw[hf]at h0;simp at h0
 |some fn=>
  rw[hf]at h0
  simp only[Option.map_some,Option.some.injEq,Bool.and_eq_true]at h0
  obtain⟨h1,h2⟩:=h0
  have hb:fn.body=none:=by simpa using h1
  simp only[run,env,hf,hb,h2,if_true,qGk,h]
  rfl
theorem qIf {x y:Nat}(h:FloatKind.f64.format.sqrt x=some y):PU qxN [.float .f64 x]=some (.float .f64 y):=by
 refine q0g (fn:=qlK) rfl (q0a ?_)
 exact gg rfl (q02 rfl rfl (qFN h) (gg rfl (q09 rfl rfl rfl trivial rfl)))
section
variable {T:Tab}{sh:Shr}{nx0:Nat}{s:List Fr}{t:q0z}{h:q0e}{z:Frz}{nx:Nat}{q:Ex→q0z→q0e→Frz→Nat→Prop}
variable {base i:Nat}{res:List Nat}{dst:Nat}{g:Gd}{rest:List KOper}
theorem atCvF {k:IntKind}{x:X}{b:Nat}{n:Int}(hx:x.ev t=.float .f64 b)(hd:(FloatKind.f64.decode b).toInt .zero=some n)(hb:k.min≤n∧n≤k.max)
 (hk:wpM T sh nx0 (.ops base res rest::s) .normal (upd t dst (.int k n)) h z nx q):
 wpM T sh nx0 (.ops base res (⟨i,some dst,none,g,.conv (.int k) x⟩::rest)::s) .normal t h z nx q:=by
 refine q3P ?_
 simp only[kop,qeT,hx]
 exact qr3 hd (q1A hb hk)
end
def qni (n:Nat):Nat→Nat→Nat
 |0,r=>r
 |k+1,r=>if(r+2^k) *(r+2^k)≤n then qni n k (r+2^k)else qni n k r
def isq (n:Nat):Nat:=qni n 27 0
theorem qsO (n:Nat):∀(k r:Nat),r*r≤n→n<(r+2^k) *(r+2^k)→qni n k r*qni n k r≤n∧n<(qni n k r+1) *(qni n k r+1):=by
 intro k
 induction k with
 |zero=>intro r h1 h2;simp only[qni];exact⟨h1,by simpa using h2⟩
 |succ k ih=>
  intro r h1 h2
  rw[qni]
  rw[Nat.pow_succ]at h2
  split
  ·rename_i h;exact ih _ h (by rw[show r+2^k+2^k=r+2^k*2 by omega];exact h2)
  rename_i h;exact ih _ h1 (by omega)
theorem qhG {n:Nat}(h:n<2^54):isq n*isq n≤n∧n<(isq n+1) *(isq n+1):=
 qsO n 27 0 (Nat.zero_le _) (by simp;omega)
theorem qhH {a b:Nat}(h:a*a<b*b):a<b:=by
 by_cases hc:b≤a
 ·exact absurd (Nat.mul_le_mul hc hc) (by omega)
 omega
theorem qoe {n r:Nat}(h:n<2^54)(h1:r*r≤n)(h2:n<(r+1) *(r+1)):r=isq n:=by
 obtain⟨g1,g2⟩:=qhG h
 have:=qhH (Nat.lt_of_le_of_lt h1 g2)
 have:=qhH (Nat.lt_of_le_of_lt g1 h2)
 omega
set_option maxHeartbeats 1000000 in
theorem qIg (n:Nat)(hn:n<2^50):PU qkp [.int .i64 n]=some (.int .i64 (isq n)):=by
 obtain⟨y,r0,h1,h2,h3,h4⟩:=qDH n (by omega)
 refine q0g (fn:=qaO) rfl (q0a ?_)
 refine gg rfl (q02 rfl rfl (qIf h1) (gg rfl (atCvF rfl h2 ⟨by have:IntKind.i64.min= -9223372036854775808:=rfl;omega,by have:IntKind.i64.max=9223372036854775807:=rfl;omega⟩ ?_)))
 refine gg rfl ?_
 obtain⟨a,rfl⟩:∃a:Nat,r0=a:=⟨r0.toNat,by omega⟩
 refine q0l (S:=fun r:Nat=>([q00 n,q00 r],[none,none],[0,0])) (C:=fun r=>r≤268435456) (m:=fun r=>r) a (by omega) (by omega) ?_ ?_
 ·exact q03 rfl trivial (by simp[q00])
 intro r hr N hN
 have wr:IntKind.i64.wrap ((r:Int) *r)=((r*r:Nat):Int):=by
  have hb:r*r≤268435456*268435456:=Nat.mul_le_mul hr hr
  rw[←Int.natCast_mul];exact qdA (by omega)
 refine gg rfl ?_
 rw[wr]
 refine q01 rfl (fun g1=>?_) (fun g1=>?_)
 ·rw[q06]at g1
  have hr0:r≠0:=by rintro rfl;simp at g1;omega
  have w1:IntKind.i64.wrap ((r:Int)-1)=((r-1:Nat):Int):=by rw[wrap64 (by omega) (by omega)];omega
  exact gg rfl (q04 (hN (r-1) (by omega) (by omega) (q03 rfl trivial (by simp[q00,w1]))))
 rw[q07]at g1
 have g1':r*r≤n:=by omega
 clear hN
 refine gg rfl (q04 (gg rfl (q0l (S:=fun r:Nat=>([q00 n,q00 r],[none,none],[0,0])) (C:=fun r=>r*r≤n) (m:=fun r=>n-r) r g1' (by omega) ?_ ?_)))
 ·exact q03 rfl trivial (by simp[q00])
 intro r hr N hN
 have hrl:r<33554432:=qhH (by omega)
 have w1:=wS (n:=r)
 have w2:IntKind.i64.wrap (((r+1:Nat):Int) *((r+1:Nat):Int))=(((r+1) *(r+1):Nat):Int):=by
  have hb:(r+1) *(r+1)≤33554432*33554432:=Nat.mul_le_mul hrl hrl
  rw[←Int.natCast_mul];exact qdA (by omega)
 refine gg rfl ?_
 rw[w1,w2]
 refine q01 rfl (fun g2=>?_) (fun g2=>?_)
 ·rw[q0G]at g2
  have g2':(r+1) *(r+1)≤n:=by omega
  have hlt:r<n:=by
   have:(r+1) *1≤(r+1) *(r+1):=Nat.mul_le_mul_left _ (by omega)
   omega
  exact gg rfl (q04 (hN (r+1) g2' (by omega) (q03 rfl trivial (by simp[q00,w1]))))
 rw[q0I]at g2
 refine gg rfl (q04 (gg rfl (q09 rfl rfl rfl trivial ?_)))
 rw[qoe (n:=n) (r:=r) (by omega) hr (by omega)]
end Go.F

namespace Go.F
attribute [local irreducible] IntKind.wrap wpM
def q6i {α:Type}(d:α)(n:Nat)(f:Nat→α)(k:Nat):List α:=(List.range n).map fun i=>if i<k then f i else d
theorem qk4 {α:Type}(d:α)(n:Nat)(f:Nat→α):q6i d n f 0=List.replicate n d:=by
 unfold q6i
 apply List.ext_getElem<;>simp
theorem qfv {α:Type}(d:α)(n:Nat)(f:Nat→α):q6i d n f n=(List.range n).map f:=by
 unfold q6i
 refine List.map_congr_left fun i hi=>?_
 rw[if_pos (List.mem_range.1 hi)]
theorem qdy {α:Type}(d:α)(n:Nat)(f:Nat→α)(k:Nat):(q6i d n f k).length=n:=by simp[q6i]
theorem qof {α:Type}(d:α){n:Nat}(f:Nat→α){k:Nat}(h:k<n):(q6i d n f k).set k (f k)=q6i d n f (k+1):=by
 unfold q6i
 apply List.ext_getElem
 ·simp
 intro i h1 h2
 simp only[List.length_set,List.length_map,List.length_range]at h1
 rw[List.getElem_set]
 by_cases hik:k=i
 ·subst hik;simp
 rw[if_neg hik]
 simp only[List.getElem_map,List.getElem_range]
 by_cases h3:i<k
 ·rw[if_pos h3,if_pos (by omega)]
 rw[if_neg h3,if_neg (by omega)]
section
variable {T:Tab}{sh:Shr}{nx0:Nat}{s:List Fr}{t:q0z}{h:q0e}{z:Frz}{nx:Nat}{q:Ex→q0z→q0e→Frz→Nat→Prop}
variable {base i:Nat}{res:List Nat}{g:Gd}{rest:List KOper}
theorem q2t {α:Type}{enc:α→D}{hint:Bool}{a v:X}{dst:Option Nat}{id k' n:Nat}(L:List α)(k:Nat)(w:α)(ha:a.ev t=.ptr id k' 0)(hv:v.ev t=enc w)(hkk:k'=k)
 (hn:(Nat.beq (enc w).cells.length n&&(enc w).sto)=true) (hs:∀x:α,qbH (enc x) 0 (enc w).cells=some (enc w))
 (hr:g.h base h id=some (.row (L.map enc) n)) (hz:g.z base z id≤k) (hl:k<L.length)
 (hk:wpM T sh nx0 (.ops base res rest::s) .normal (put t dst (.tup [])) (upd h id (some (.row ((L.set k w).map enc) n))) z nx q):
 wpM T sh nx0 (.ops base res (⟨i,dst,none,g,.store hint n a v⟩::rest)::s) .normal t h z nx q:=by
 subst hkk
 refine qzv (e:=enc L[k']) (e':=enc w) ha (by rw[hv];exact hn) hr hz (q1K hl) (by rw[hv];exact hs _) ?_
 rw[←List.map_set]
 exact hk
end
def sqd (a b:Spot):Nat:=((b.x-a.x) *(b.x-a.x)+(b.y-a.y) *(b.y-a.y)).toNat
def q32 (a b:Spot)(w:Int):Spot:=⟨q1B (w*(b.y-a.y)) (isq (sqd a b)),q1B (-w*(b.x-a.x)) (isq (sqd a b))⟩
def q3G (p:List Spot)(each:List Int)(sign:Int)(i:Nat):Spot:=q32 (pt p i) (pt p ((i+1)%p.length)) (sign*wd each i)
def q2c (p:List Spot)(each:List Int)(sign:Int):List Spot:=(List.range p.length).map (q3G p each sign)
def q2v (w:Int):Bool:=decide (w<0) ||decide (500<w)
def q1i (l:List Edge)(ws:List Int):List Spot×Int:=
 if q0O l=0 then
  if ws.length=l.length then
   if ws.any q2v then([],3)else(q2c (q0n l) (q27 l ws l.length) (sgn (q12 (q0n l))),0)
  else([],1)
 else([],q0O l)
def qog (r:List Spot×Int):D:=.tup [q0k r.1,.int .i64 r.2]
theorem q6O (a b:Spot):((sqd a b:Nat):Int)=(b.x-a.x) *(b.x-a.x)+(b.y-a.y) *(b.y-a.y):=by
 unfold sqd
 have h1:=q73 (b.x-a.x)
 have h2:=q73 (b.y-a.y)
 omega
theorem qzR (a b:Spot) [OkS a] [OkS b]:sqd a b<2^50:=by
 have e:=q6O a b
 have hb:Bd ((b.x-a.x) *(b.x-a.x)+(b.y-a.y) *(b.y-a.y)) _:=inferInstance
 have:=hb.le
 omega
theorem qFO {x:Int}(h:x≠0):0<x*x:=by
 rcases Int.lt_or_gt_of_ne h with h|h
 ·have:=Int.mul_pos (show 0< -x by omega) (show 0< -x by omega)
  rwa[Int.neg_mul_neg]at this
 exact Int.mul_pos h h
theorem qbQ {a b:Spot}(h:a≠b):0<sqd a b:=by
 have e:=q6O a b
 have h1:=q73 (b.x-a.x)
 have h2:=q73 (b.y-a.y)
 by_cases hx:b.x-a.x=0
 ·have hy:b.y-a.y≠0:=fun hy=>h (by cases a;cases b;simp at hx hy⊢;omega)
  have:=qFO hy
  omega
 have:=qFO hx
 omega
theorem qfw {n:Nat}(h:n<2^54)(h0:0<n):0<isq n:=by
 obtain⟨_,h2⟩:=qhG h
 by_cases hc:isq n=0
 ·rw[hc]at h2;omega
 omega
theorem qFP {n:Nat}(h:n<2^50):isq n<33554432:=by
 obtain⟨h1,_⟩:=qhG (n:=n) (by omega)
 exact qhH (by omega)
theorem qk5 {p:List Spot}(hs:q3Y p)(h2:2≤p.length){i:Nat}(hi:i<p.length):pt p i≠pt p ((i+1)%p.length):=by
 intro he
 by_cases hl:i+1<p.length
 ·rw[Nat.mod_eq_of_lt hl]at he
  refine hs.1 (i+1) hl ?_
  rw[←he,q0H hi]
  exact List.mem_iff_getElem.2 ⟨i,by simp;omega,by simp⟩
 have:i+1=p.length:=by omega
 rw[this,Nat.mod_self]at he
 refine hs.1 i hi ?_
 rw[he,q0H (by omega)]
 exact List.mem_iff_getElem.2 ⟨0,by simp;omega,by simp⟩
theorem qwM (l:List Edge)(ws:List Int):∀k,k≤ws.length→∀x∈q27 l ws k,x∈ws:=by
 intro k
 induction k with
 |zero=>intro _ x hx;simp[q27]at hx
 |succ k ih=>
  intro hk x hx
  rw[q27,List.mem_append]at hx
  rcases hx with hx|hx
  ·exact ih (by omega) x hx
  rw[(List.mem_replicate.1 hx).2]
  have:wd ws k=ws[k]:=by simp[wd,show k<ws.length by omega]
  rw[this];exact List.getElem_mem _
theorem qhI {w:Int}(h:q2v w=false):0≤w∧w≤500:=by simp[q2v]at h;omega
theorem q9C {a b:Int}{m:Nat}(hb:0<b)(h1: -(m:Int)≤a)(h2:a≤m): -(m:Int)≤q1B a b∧q1B a b≤m:=by
 have key:∀x:Int,0≤x→x≤m→0≤(2*x+b)/(2*b)∧(2*x+b)/(2*b)≤m:=by
  intro x h0 hx
  refine⟨Int.ediv_nonneg (by omega) (by omega),?_⟩
  by_cases hx0:x=0
  ·subst hx0;rw[Int.ediv_eq_zero_of_lt (by omega) (by omega)];omega
  have h4:2*x+b<(x+1) *(2*b):=by
   have:x*(2*b)≥x*2:=Int.mul_le_mul_of_nonneg_left (by omega) h0
   rw[Int.add_mul];omega
  have:=Int.ediv_lt_of_lt_mul (by omega) h4
  omega
 unfold q1B
 split
 ·have:=key (-a) (by omega) (by omega);omega
 have:=key a (by omega) (by omega);omega
set_option maxHeartbeats 4000000 in
theorem qk6 (l:List Edge)(ws:List Int):
 PU qhm [edges l,ints ws]=some (qog (q1i l ws)):=by
 have hpoly:=q5U l
 refine q0g (fn:=q8J) rfl (q0a ?_)
 refine gg rfl ?_
 by_cases hc:¬q0O l=0
 ·rw[q9e,if_neg hc]at hpoly
  refine q02 rfl rfl hpoly (gg rfl (q01 rfl (fun g=>?_) (fun g=>?_)))
  ·refine gg rfl (q09 rfl rfl rfl trivial ?_)
   rw[q1i,if_neg hc];rfl
  rw[q0B]at g;exact absurd g hc
 have hc:q0O l=0:=Classical.byContradiction hc
 rw[q9e,if_pos hc]at hpoly
 rw[q1i,if_pos hc]
 obtain⟨h2,h16,_,_,hchk⟩:=q18 hc
 obtain⟨v3,v40,vok,vin,vs⟩:=q17 hchk
 have hl1:∀e∈l,1≤e.line.length∧e.line.length≤100000:=fun e he=>by have:=q2E hc e he;omega
 refine q02 rfl rfl hpoly (gg rfl (q01 rfl (fun g=>?_) (fun g=>?_)))
 ·rw[q0w]at g;exact absurd rfl g
 refine gg rfl ?_
 rw[List.length_map,List.length_map]
 refine q01 rfl (fun g=>?_) (fun g=>?_)
 ·rw[q0w]at g
  refine gg rfl (q09 rfl rfl rfl trivial ?_)
  rw[if_neg (by omega)];rfl
 rw[q0B]at g
 have hwl:ws.length=l.length:=by omega
 rw[if_pos hwl]
 refine gg rfl (q0l (S:=fun k:Nat=>([edges l,ints ws,q0k (q0n l),ints ws,q00 ws.length,q00 k],[none,none,none,none,none,none],[0,0,0,0,0,0])) (C:=fun k=>k≤ws.length∧∀i (hi:i<ws.length),i<k→q2v ws[i]=false) (m:=fun k=>ws.length-k) 0 ⟨Nat.zero_le _,fun i hi h=>by omega⟩ (by omega) ?_ ?_)
 ·exact q03 rfl trivial (by simp[edges,ints,q0k,q00])
 intro k ⟨hk,hall⟩ N hN
 refine gg rfl (q01 rfl (fun g1=>?_) (fun g1=>?_))
 ·rw[q06]at g1
  have hlt:k<ws.length:=by omega
  have w1:=wS (n:=k)
  have yes:q2v ws[k]=false→∀{t:q0z} {h:q0e} {z:Frz} {nx:Nat},(q15 0 [(0,0),(1,0),(6,0),(33,0),(34,0),(35,0)] t h z nx fun _ _ kp=>kp=([edges l,ints ws,q0k (q0n l),ints ws,q00 ws.length,q00 ((k+1:Nat):Int)],[none,none,none,none,none,none],[0,0,0,0,0,0]))→N t h z nx:=by
   intro hb t h z nx hst
   refine hN (k+1) ⟨by omega,fun i hi hik=>?_⟩ (by omega) hst
   by_cases hik':i<k
   ·exact hall i hi hik'
   obtain rfl:i=k:=by omega
   exact hb
  have no:q2v ws[k]=true→ws.any q2v=true:=fun hb=>List.any_eq_true.2 ⟨_,List.getElem_mem hlt,hb⟩
  clear hN
  refine gg rfl (q0j k rfl rfl rfl (q1K hlt) rfl (gg rfl (q08 rfl (fun e1=>?_) (fun e1=>?_))))
  ·rw[q06]at e1
   refine gg rfl (q0d rfl (gg rfl (q04 (gg rfl (q09 rfl rfl rfl trivial ?_)))))
   rw[if_pos (no (by simp[q2v,e1]))];rfl
  rw[q07]at e1
  refine gg rfl (q01 rfl (fun e2=>?_) (fun e2=>?_))
  ·rw[q06]at e2
   refine gg rfl (q04 (gg rfl (q09 rfl rfl rfl trivial ?_)))
   rw[if_pos (no (by simp[q2v,e2]))];rfl
  rw[q07]at e2
  exact gg rfl (q04 (yes (by simp[q2v];omega) (q03 rfl trivial (by simp[edges,ints,q0k,q00,w1]))))
 rw[q07]at g1
 clear hN
 have hgood:ws.any q2v=false:=by
  rw[List.any_eq_false]
  intro x hx
  obtain⟨i,hi,rfl⟩:=List.getElem_of_mem hx
  rw[hall i hi (by omega)];decide
 rw[if_neg (by rw[hgood];decide)]
 have hgood':∀x∈ws,0≤x∧x≤500:=fun x hx=>qhI (by
  cases hb:q2v x with
  |false=>rfl
  |true=>rw[List.any_eq_true.2 ⟨x,hx,hb⟩]at hgood;cases hgood)
 have hseg:=qdx l ws l.length (Nat.le_refl _)
 rw[List.take_length]at hseg
 refine gg rfl (q04 (gg rfl (q02 rfl rfl (q4y (q0n l)) (gg rfl (q02 rfl rfl (qaG l ws (by omega) hl1 (by omega) (by omega)) ?_)))))
 refine gg rfl ?_
 have heb:∀i,0≤wd (q27 l ws l.length) i∧wd (q27 l ws l.length) i≤500:=by
  intro i
  by_cases hi:i<(q27 l ws l.length).length
  ·have:wd (q27 l ws l.length) i=(q27 l ws l.length)[i]:=by simp[wd,hi]
   rw[this];exact hgood' _ (qwM l ws l.length (by omega) _ (List.getElem_mem _))
  have:wd (q27 l ws l.length) i=0:=by simp[wd,List.getElem?_eq_none (Nat.le_of_not_lt hi)]
  rw[this];decide
 generalize hv:q0n l=v at*
 generalize q27 l ws l.length=each at*
 have hsb: -1≤sgn (q12 v)∧sgn (q12 v)≤1:=by have:=(qAq (q12 v)).le;omega
 generalize sgn (q12 v)=sg at*
 rw[List.length_map]
 refine q48 v.length rfl rfl rfl (by simp[q0N];omega) ?_
 have ez:List.replicate v.length (D.agg [D.int IntKind.i64 0,D.int IntKind.i64 0])=(q6i ⟨0,0⟩ v.length (q3G v each sg) 0).map Spot.enc:=by
  rw[qk4];simp[Spot.enc]
 rw[ez]
 refine gg rfl (q0l (S:=fun k:Nat=>([q0k v,.int .i64 sg,ints each,.ref 3 0 v.length,q0k v,q00 v.length,q00 k],[none,none,none,some (.row ((q6i ⟨0,0⟩ v.length (q3G v each sg) k).map Spot.enc) 2),none,none,none],[0,0,0,0,0,0,0])) (C:=fun k=>k≤v.length) (m:=fun k=>v.length-k) 0 (Nat.zero_le _) (by omega) ?_ ?_)
 ·exact q03 rfl ⟨q05 q0r _,trivial⟩ (by simp[q0k,ints,q00])
 intro k hk N hN
 refine gg rfl (q01 rfl (fun g2=>?_) (fun g2=>?_))
 ·rw[q06]at g2
  have hlt:k<v.length:=by omega
  have w1:=wS (n:=k)
  have hne:=qk5 vs (by omega) hlt
  have heb:=heb k
  have hsq:=qzR (pt v k) (pt v ((k+1)%v.length))
  have hsp:=qbQ hne
  have hir:=qfw (n:=sqd (pt v k) (pt v ((k+1)%v.length))) (by omega) hsp
  have hil:=qFP hsq
  have hse:=q6O (pt v k) (pt v ((k+1)%v.length))
  have hset:=qof ⟨0,0⟩ (q3G v each sg) hlt
  have hsh:q3G v each sg k=⟨q1B (sg*wd each k*((pt v ((k+1)%v.length)).y-(pt v k).y)) (isq (sqd (pt v k) (pt v ((k+1)%v.length)))),q1B (-(sg*wd each k) *((pt v ((k+1)%v.length)).x-(pt v k).x)) (isq (sqd (pt v k) (pt v ((k+1)%v.length))))⟩:=rfl
  have bx:Bd ((pt v ((k+1)%v.length)).x-(pt v k).x) 8388608:=inferInstance
  have by':Bd ((pt v ((k+1)%v.length)).y-(pt v k).y) 8388608:=inferInstance
  have c1:IntKind.i64.wrap ((pt v ((k+1)%v.length)).x-(pt v k).x)=(pt v ((k+1)%v.length)).x-(pt v k).x:=q0Z (by decide)
  have c2:IntKind.i64.wrap ((pt v ((k+1)%v.length)).y-(pt v k).y)=(pt v ((k+1)%v.length)).y-(pt v k).y:=q0Z (by decide)
  have bw:Bd (wd each k) 500:=⟨by omega⟩
  have bs:Bd sg 1:=⟨by omega⟩
  have c3:IntKind.i64.wrap (sg*wd each k)=sg*wd each k:=q0Z (by decide)
  generalize hdx:(pt v ((k+1)%v.length)).x-(pt v k).x=dx at*
  generalize hdy:(pt v ((k+1)%v.length)).y-(pt v k).y=dy at*
  generalize hw':sg*wd each k=w at*
  have bw':Bd w 500:=by rw[←hw'];exact⟨Nat.le_trans (qwN (a:=bs) (b:=bw)).le (by decide)⟩
  have c4:IntKind.i64.wrap (dx*dx)=dx*dx:=q0Z (by decide)
  have c5:IntKind.i64.wrap (dy*dy)=dy*dy:=q0Z (by decide)
  have c6:IntKind.i64.wrap (dx*dx+dy*dy)=((sqd (pt v k) (pt v ((k+1)%v.length)):Nat):Int):=by rw[hse];exact q0Z (by decide)
  have c7:IntKind.i64.wrap (w*dy)=w*dy:=q0Z (by decide)
  have c8:IntKind.i64.wrap (0-w)= -w:=by rw[wrap64 (by have:=bw'.le;omega) (by have:=bw'.le;omega)];omega
  have c9:IntKind.i64.wrap (-w*dx)= -w*dx:=q0Z (by decide)
  have b7:Bd (w*dy) _:=qwN
  have b9:Bd (-w*dx) _:=qwN
  have l7:=b7.le
  have l9:=b9.le
  refine gg rfl (q0j k rfl rfl rfl (q0U hlt) rfl (gg rfl (q2K rfl rfl (by rw[List.length_map];omega) ?_)))
  refine gg rfl (q0j ((k+1)%v.length) rfl rfl (by rw[w1,List.length_map,q1z]) (q0U (Nat.mod_lt _ (by omega))) rfl ?_)
  refine gg rfl (q0j k rfl rfl rfl (qdw (by omega)) rfl ?_)
  refine gg rfl ?_
  rw[hdx,hdy,c1,c2,hw',c3,c4,c5,c6]
  refine q02 rfl rfl (qIg _ hsq) (gg rfl ?_)
  rw[c7]
  refine q02 rfl rfl (qod (w*dy) _ (by omega) (by omega) (by omega) (by omega)) ?_
  refine gg rfl ?_
  rw[c8,c9]
  refine q02 rfl rfl (qod (-w*dx) _ (by omega) (by omega) (by omega) (by omega)) ?_
  refine gg rfl (q0J k rfl rfl rfl rfl rfl hlt (gg rfl (q2t (enc:=Spot.enc) (q6i ⟨0,0⟩ v.length (q3G v each sg) k) k (q3G v each sg k) rfl (by rw[hsh];rfl) (Nat.zero_add _) rfl (fun _=>rfl) rfl (Nat.zero_le _) (by rw[qdy];exact hlt) ?_)))
  rw[hset]
  exact gg rfl (q04 (hN (k+1) hlt (by omega) (q03 rfl ⟨q05 q0r _,trivial⟩ (by simp[q0k,ints,q00,w1]))))
 rw[q07]at g2
 obtain rfl:k=v.length:=by omega
 refine gg rfl (q04 (gg rfl (q09 rfl rfl rfl ⟨q1n (by simp[qdy]) (q0L q1u _),trivial⟩ ?_)))
 rw[q1o (by simp[qdy]),qfv];rfl
end Go.F

namespace Go.F
attribute [local irreducible] IntKind.wrap wpM
def q1Y (a b:Spot):Spot:=⟨a.x+b.x,a.y+b.y⟩
def qp (s:Spot):QP:=⟨s.x,s.y⟩
class MidS (s:Spot):Prop where
 bx:s.x.natAbs≤1099511627776
 byy:s.y.natAbs≤1099511627776
instance midOk {s:Spot} [h:OkS s]:MidS s:=⟨by have:=h.bx;omega,by have:=h.byy;omega⟩
instance (priority:=100) midX {s:Spot} [h:MidS s]:Bd s.x 1099511627776:=⟨h.bx⟩
instance (priority:=100) midY {s:Spot} [h:MidS s]:Bd s.y 1099511627776:=⟨h.byy⟩
instance qbQx {s:Spot} [h:MidS s]:QPB (qp s) 2:=⟨qBx (by have:=h.bx;omega) (by have:=h.bx;omega),qBx (by have:=h.byy;omega) (by have:=h.byy;omega)⟩
theorem qdz (s:Spot) [h:MidS s]:PU qj9 [s.enc]=some (qkK (qp s)):=by
 have h1:=h.bx
 have h2:=h.byy
 refine q0g (fn:=q9Z) rfl (q0a ?_)
 refine gg rfl (q02 rfl rfl (qyR s.x s.y (by omega) (by omega) (by omega) (by omega)) ?_)
 exact gg rfl (q09 rfl rfl rfl trivial rfl)
theorem qzS (a b:Spot) [MidS a] [MidS b]:PU qnr [a.enc,b.enc]=some (q1Y a b).enc:=by
 have w1:IntKind.i64.wrap (a.x+b.x)=a.x+b.x:=q0Z (by decide)
 have w2:IntKind.i64.wrap (a.y+b.y)=a.y+b.y:=q0Z (by decide)
 refine q0g (fn:=qcK) rfl (q0a ?_)
 refine gg rfl (q09 rfl rfl rfl trivial ?_)
 rw[w1,w2];rfl
theorem q5c (s:Spot)(m:Int)(h0:0≤m)(h1:m≤1099511627776):PU qho [s.enc,.int .i64 m]=some (.bool (q0x s m)):=by
 have w:IntKind.i64.wrap (0-m)= -m:=by rw[wrap64 (by omega) (by omega)];omega
 refine q0g (fn:=q8L) rfl (q0a ?_)
 refine gg rfl ?_
 rw[w]
 repeat' (first
  |refine goP 800 rfl rfl ?_
  |refine q0h rfl ?_|refine q0m rfl ?_|refine q08 rfl (fun _=>?_) (fun _=>?_)
  |refine q0d rfl ?_|refine q0i rfl ?_|refine q01 rfl (fun _=>?_) (fun _=>?_)
  |refine q0Q rfl (fun _=>?_) (fun _=>?_)
  |refine q09 rfl rfl rfl trivial ?_)
 all_goals simp only[w]at*
 all_goals ((try simp only[q1U,q2h,q2o,q4n,decide_eq_true_eq,decide_eq_false_iff_not,Bool.not_eq_true,Bool.not_eq_false,Int.not_lt,Int.not_le]at*);first|(simp_all[q0x];done) |(simp_all[q0x];omega) |(rw[D.bool.injEq,Bool.eq_iff_iff];simp[q0x];omega) |(rw[D.bool.injEq,Bool.eq_iff_iff];simp_all[q0x];omega) |(simp[q0x];split<;>(try split)<;>omega))
structure Seg where
 fr:Spot
 to:Spot
 w:Int
def Seg.enc (s:Seg):D:=.agg [.int .i64 s.fr.x,.int .i64 s.fr.y,.int .i64 s.to.x,.int .i64 s.to.y,.int .i64 s.w]
class SegOk (s:Seg):Prop where
 fr:MidS s.fr
 to:MidS s.to
 w0:0≤s.w
 w1:s.w≤500
instance {s:Seg} [h:SegOk s]:MidS s.fr:=h.fr
instance {s:Seg} [h:SegOk s]:MidS s.to:=h.to
def q1H (v:Spot)(a b:Seg):List Spot:=
 match q3S (qp a.fr) (qp a.to) (qp b.fr) (qp b.to)with
 |none=>[a.to,b.fr]
 |some m=>
  if(q2M (q14 m (qp v))).2=0∧q0x (q2M (q14 m (qp v))).1 (4*max a.w b.w+4)=true then [q1Y v (q2M (q14 m (qp v))).1]else [a.to,b.fr]
theorem qFQ (p:QP):MidS (q2M p).1:=by
 unfold q2M
 split
 ·rename_i h
  rw[Bool.and_eq_true,q3v,q3v]at h
  exact⟨by simp only;omega,by simp only;omega⟩
 exact⟨by simp,by simp⟩
theorem q5k {l:List Spot}{n:Nat}(hn:n=l.length):0+n≤(l.map Spot.enc).length∧(((l.map Spot.enc).drop 0).take n).all (dat 4)=true:=by
 subst hn
 refine⟨by simp,?_⟩
 rw[List.drop_zero,List.take_of_length_le (by simp)]
 exact q0L q1u _
set_option maxHeartbeats 1000000 in
theorem qDp (v:Spot)(a b:Seg) [hv:MidS v] [ha:SegOk a] [hb:SegOk b]:PU qhn [v.enc,a.enc,b.enc]=some (q0k (q1H v a b)):=by
 have hm:=qst (RP.of (qp a.fr)) (RP.of (qp a.to)) (RP.of (qp b.fr)) (RP.of (qp b.to)) (by decide)
 rw[RP.of_v,RP.of_v,RP.of_v,RP.of_v]at hm
 have a0:=ha.w0
 have a1:=ha.w1
 have b0:=hb.w0
 have b1:=hb.w1
 refine q0g (fn:=q90) rfl (q0a ?_)
 refine gg rfl (q02 rfl rfl (qdz a.fr) (gg rfl (q02 rfl rfl (qdz a.to) (gg rfl (q02 rfl rfl (qdz b.fr) (gg rfl (q02 rfl rfl (qdz b.to) (gg rfl ?_))))))))
 cases hq:q3S (qp a.fr) (qp a.to) (qp b.fr) (qp b.to)with
 |none=>
  rw[hq]at hm
  refine q02 rfl rfl hm (gg rfl (q01 rfl (fun g=>?_) (fun g=>?_)))
  ·rw[q1I]at g;cases g
  refine gg rfl (q09 rfl rfl rfl ⟨q5k (l:=[a.to,b.fr]) rfl,trivial⟩ ?_)
  rw[q1H,hq];rfl
 |some m=>
  rw[hq]at hm
  have hqm:QPB m 50:=by
   unfold q3S at hq
   split at hq
   ·cases hq
   cases hq;exact inferInstance
  have hsub:=q6w (RP.of m) (RP.of (qp v)) (by decide) (by decide)
  rw[RP.of_v,RP.of_v]at hsub
  have hgr:=qIO (RP.of (q14 m (qp v))) (by decide)
  rw[RP.of_v]at hgr
  have hgm:=qFQ (q14 m (qp v))
  have hc:q1H v a b=if(q2M (q14 m (qp v))).2=0∧q0x (q2M (q14 m (qp v))).1 (4*max a.w b.w+4)=true then [q1Y v (q2M (q14 m (qp v))).1]else [a.to,b.fr]:=by
   rw[q1H,hq]
  rw[hc]
  generalize q2M (q14 m (qp v))=gd at*
  have w1:=ww (x:=4*max a.w b.w)
  have w2:=ww (x:=4*max a.w b.w+4)
  refine q02 rfl rfl hm (gg rfl (q01 rfl (fun _=>?_) (fun g=>absurd rfl (q1J.1 g))))
  refine gg rfl (q02 rfl rfl (qdz v) (gg rfl (q02 rfl rfl hsub (gg rfl (q02 rfl rfl hgr (gg rfl (q08 rfl (fun g1=>?_) (fun g1=>?_))))))))
  ·rw[q1I]at g1
   refine gg rfl ?_
   rw[w1,w2]
   refine q02 rfl rfl (q5c gd.1 (4*max a.w b.w+4) (by omega) (by omega)) ?_
   refine gg rfl (q01 rfl (fun g2=>?_) (fun g2=>?_))
   ·refine gg rfl (q02 rfl rfl (qzS v gd.1) (gg rfl (q09 rfl rfl rfl ⟨q5k (l:=[q1Y v gd.1]) rfl,trivial⟩ ?_)))
    rw[if_pos ⟨g1,g2⟩];rfl
   refine gg rfl (q09 rfl rfl rfl ⟨q5k (l:=[a.to,b.fr]) rfl,trivial⟩ ?_)
   rw[if_neg (fun h=>by rw[h.2]at g2;cases g2)];rfl
  rw[q1J]at g1
  refine gg rfl (q0i rfl (gg rfl (q09 rfl rfl rfl ⟨q5k (l:=[a.to,b.fr]) rfl,trivial⟩ ?_)))
  rw[if_neg (fun h=>g1 h.1)];rfl
end Go.F

namespace Go.F
attribute [local irreducible] IntKind.wrap wpM
section
variable {T:Tab}{sh:Shr}{nx0:Nat}{s:List Fr}{t:q0z}{h:q0e}{z:Frz}{nx:Nat}{q:Ex→q0z→q0e→Frz→Nat→Prop}
variable {base i:Nat}{res:List Nat}{g:Gd}{rest:List KOper}
theorem q2S {α:Type}{enc:α→D}{hint ag:Bool}{n:Nat}{a:X}{dst:Nat}{id k' esz:Nat}(L:List α)(k:Nat)(d:α)(ha:a.ev t=.ptr id k' 0)(hkk:k'=k)(hp:∀w:α,qu7 ag n (enc w) 0=some (enc w))(hr:g.h base h id=some (.row (L.map enc) esz))(hd:L[k]?=some d)
 (hk:wpM T sh nx0 (.ops base res rest::s) .normal (upd t dst (enc d)) h z nx q):
 wpM T sh nx0 (.ops base res (⟨i,some dst,none,g,.load hint ag n a⟩::rest)::s) .normal t h z nx q:=by
 subst hkk
 exact q5P ha hr (e:=enc d) (by rw[List.getElem?_map,hd];rfl) (hp d) hk
end
def q3z (v sh:List Spot)(each:List Int)(i:Nat):Seg:=⟨q1Y (pt v i) (pt sh i),q1Y (pt v ((i+1)%v.length)) (pt sh i),wd each i⟩
def q3i (v sh:List Spot)(each:List Int)(i:Nat):List Spot:=q1H (pt v i) (q3z v sh each ((i+v.length-1)%v.length)) (q3z v sh each i)
def q10 (v sh:List Spot)(each:List Int):Nat→List Spot
 |0=>[]
 |k+1=>q10 v sh each k++q3i v sh each k
def q1F (l:List Spot):Spot:=pt l (l.length-1)
def q1v (out:List Spot)(p:Spot):List Spot:=if out.length=0∨q1F out≠p then out++[p]else out
def q2g (l:List Spot):List Spot:=l.foldl q1v []
def q3A (R:List Spot):Nat→Nat
 |0=>0
 |j+1=>if 1≤j∧pt R j=pt R 0 then q3A R j else j+1
def q33 (v sh:List Spot)(each:List Int):List Spot:=(q2g (q10 v sh each v.length)).take (q3A (q2g (q10 v sh each v.length)) (q2g (q10 v sh each v.length)).length)
def q8u (v q:List Spot):List Spot×Int:=
 if q.any (fun s=>!q0x s 1048576)then([],3)
 else if q1M q=0 then if sgn (q12 q)=sgn (q12 v)then(q,0)else([],11)
 else([],q1M q)
def q1Q (l:List Edge)(ws:List Int):List Spot×Int:=
 if(q1i l ws).2=0 then q8u (q0n l) (q33 (q0n l) (q1i l ws).1 (q27 l ws l.length))else([],(q1i l ws).2)
theorem q60 (s:Seg):plain 4 s.enc=true:=rfl
theorem q9D (v:Spot)(a b:Seg):(q1H v a b).length≤2:=by
 unfold q1H
 split
 ·simp
 split<;>simp
theorem qrJ (v sh:List Spot)(each:List Int)(k:Nat):(q10 v sh each k).length≤2*k:=by
 induction k with
 |zero=>simp[q10]
 |succ k ih=>
  have:=q9D (pt v k) (q3z v sh each ((k+v.length-1)%v.length)) (q3z v sh each k)
  rw[q10,List.length_append,q3i];omega
theorem qDq (out:List Spot)(p:Spot):(q1v out p).length≤out.length+1:=by
 unfold q1v;split<;>simp
theorem qfx (l:List Spot):∀out:List Spot,(l.foldl q1v out).length≤out.length+l.length:=by
 induction l with
 |nil=>intro out;simp
 |cons p l ih=>intro out;have:=ih (q1v out p);have:=qDq out p;simp only[List.foldl_cons,List.length_cons];omega
theorem q8v {l:List Edge}{ws:List Int}(h:(q1i l ws).2=0):q0O l=0∧ws.length=l.length∧(∀x∈ws,0≤x∧x≤500)∧(q1i l ws).1=q2c (q0n l) (q27 l ws l.length) (sgn (q12 (q0n l))):=by
 unfold q1i at h⊢
 split at h
 ·rename_i h1
  split at h
  ·rename_i h2
   split at h
   ·cases h
   rename_i h3
   refine⟨h1,h2,fun x hx=>qhI ?_,by rw[if_pos h1,if_pos h2,if_neg h3]⟩
   cases hb:q2v x with
   |false=>rfl
   |true=>exact absurd (List.any_eq_true.2 ⟨x,hx,hb⟩) h3
  cases h
 rename_i h1;exact absurd h h1
theorem qCh {l:List Edge}{ws:List Int}(hl:l.length≤ws.length)(hg:∀x∈ws,0≤x∧x≤500)(i:Nat):0≤wd (q27 l ws l.length) i∧wd (q27 l ws l.length) i≤500:=by
 by_cases hi:i<(q27 l ws l.length).length
 ·have:wd (q27 l ws l.length) i=(q27 l ws l.length)[i]:=by simp[wd,hi]
  rw[this];exact hg _ (qwM l ws l.length hl _ (List.getElem_mem _))
 have:wd (q27 l ws l.length) i=0:=by simp[wd,List.getElem?_eq_none (Nat.le_of_not_lt hi)]
 rw[this];decide
theorem qh8 {v:List Spot} [OkP v]{each:List Int}{sg:Int}(hs: -1≤sg∧sg≤1)(hw:∀i,0≤wd each i∧wd each i≤500)(hsim:q3Y v)(h2:2≤v.length){i:Nat}(hi:i<v.length):
 (q3G v each sg i).x.natAbs≤4294967296∧(q3G v each sg i).y.natAbs≤4294967296:=by
 have hne:=qk5 hsim h2 hi
 have hsq:=qzR (pt v i) (pt v ((i+1)%v.length))
 have hir:=qfw (n:=sqd (pt v i) (pt v ((i+1)%v.length))) (by omega) (qbQ hne)
 have hw:=hw i
 have bw:Bd (wd each i) 500:=⟨by omega⟩
 have bs:Bd sg 1:=⟨by omega⟩
 have b1:Bd (sg*wd each i*((pt v ((i+1)%v.length)).y-(pt v i).y)) _:=inferInstance
 have b2:Bd (-(sg*wd each i) *((pt v ((i+1)%v.length)).x-(pt v i).x)) _:=inferInstance
 have l1:=b1.le
 have l2:=b2.le
 have r1:=q9C (b:=(isq (sqd (pt v i) (pt v ((i+1)%v.length))):Int)) (m:=4294967296) (by omega) (show-((4294967296:Nat):Int)≤sg*wd each i*((pt v ((i+1)%v.length)).y-(pt v i).y)by omega) (by omega)
 have r2:=q9C (b:=(isq (sqd (pt v i) (pt v ((i+1)%v.length))):Int)) (m:=4294967296) (by omega) (show-((4294967296:Nat):Int)≤ -(sg*wd each i) *((pt v ((i+1)%v.length)).x-(pt v i).x)by omega) (by omega)
 exact⟨by show(q1B _ _).natAbs≤_;omega,by show(q1B _ _).natAbs≤_;omega⟩
theorem qoh {f:Nat→Spot}{n i:Nat}(h:i<n):pt ((List.range n).map f) i=f i:=by
 rw[q0H (by simpa using h)];simp
theorem qoi {c:List Spot}{j:Nat}(h:j<c.length)(out:List Spot):(c.take (j+1)).foldl q1v out=q1v ((c.take j).foldl q1v out) (pt c j):=by
 rw[List.take_succ_eq_append_getElem h,List.foldl_append,q0H h];rfl
set_option maxHeartbeats 8000000 in
theorem q8w (l:List Edge)(ws:List Int):
 PU qj5 [edges l,ints ws]=some (qog (q1Q l ws)):=by
 have hpoly:=q5U l
 refine q0g (fn:=q9G) rfl (q0a ?_)
 refine gg rfl (q02 rfl rfl (qk6 l ws) (gg rfl (q01 rfl (fun g=>?_) (fun g=>?_))))
 ·rw[q0w]at g
  refine gg rfl (q09 rfl rfl rfl trivial ?_)
  rw[q1Q,if_neg g];rfl
 rw[q0B]at g
 rw[q1Q,if_pos g]
 obtain⟨hc,hwl,hgood,hs1⟩:=q8v g
 obtain⟨h2,h16,_,_,hchk⟩:=q18 hc
 obtain⟨v3,v40,vok,vin,vs⟩:=q17 hchk
 have hl1:∀e∈l,1≤e.line.length∧e.line.length≤100000:=fun e he=>by have:=q2E hc e he;omega
 rw[q9e,if_pos hc]at hpoly
 have hseg:=qdx l ws l.length (Nat.le_refl _)
 rw[List.take_length]at hseg
 have heb:=qCh (l:=l) (by omega) hgood
 have hsw:=qaG l ws (by omega) hl1 (by omega) (by omega)
 have hsb: -1≤sgn (q12 (q0n l))∧sgn (q12 (q0n l))≤1:=by have:=(qAq (q12 (q0n l))).le;omega
 have hsl:(q1i l ws).1.length=(q0n l).length:=by rw[hs1];simp[q2c]
 have hsb':∀i,i<(q0n l).length→(pt (q1i l ws).1 i).x.natAbs≤4294967296∧(pt (q1i l ws).1 i).y.natAbs≤4294967296:=by
  intro i hi
  rw[hs1,q2c,qoh hi]
  exact qh8 hsb heb vs (by omega) hi
 have hsm:∀i,i<(q0n l).length→MidS (pt (q1i l ws).1 i):=by
  intro i hi
  rw[hs1,q2c,qoh hi]
  have:=qh8 hsb heb vs (by omega) hi
  exact⟨by omega,by omega⟩
 generalize (q1i l ws).1=sh at*
 generalize (q1i l ws).2=e0 at*
 subst g
 refine gg rfl (q02 rfl rfl hpoly (gg rfl (q01 rfl (fun g=>absurd rfl (q0w.1 g)) (fun _=>?_))))
 refine gg rfl (q02 rfl rfl hsw (gg rfl ?_))
 generalize q27 l ws l.length=each at*
 generalize q0n l=v at*
 have hok:∀i,i<v.length→SegOk (q3z v sh each i):=by
  intro i hi
  have hb:=hsb' i hi
  have x1:=(qDK (p:=v) (i:=i)).bx
  have x2:=(qDK (p:=v) (i:=i)).byy
  have x3:=(qDK (p:=v) (i:=(i+1)%v.length)).bx
  have x4:=(qDK (p:=v) (i:=(i+1)%v.length)).byy
  refine⟨⟨?_,?_⟩,⟨?_,?_⟩,(heb i).1,(heb i).2⟩<;>simp only[q3z,q1Y]<;>omega
 rw[List.length_map]
 refine q48 v.length rfl rfl rfl (by simp[q0N];omega) ?_
 have ez:List.replicate v.length (D.agg [D.int IntKind.i64 0,D.int IntKind.i64 0,D.int IntKind.i64 0,D.int IntKind.i64 0,D.int IntKind.i64 0])=(q6i ⟨⟨0,0⟩,⟨0,0⟩,0⟩ v.length (q3z v sh each) 0).map Seg.enc:=by
  rw[qk4];simp[Seg.enc]
 rw[ez]
 refine gg rfl (q0l (S:=fun k:Nat=>([q0k v,ints each,q00 v.length,.ref 3 0 v.length,q0k sh,q00 v.length,q00 k],[none,none,none,some (.row ((q6i ⟨⟨0,0⟩,⟨0,0⟩,0⟩ v.length (q3z v sh each) k).map Seg.enc) 5),none,none,none],[0,0,0,0,0,0,0])) (C:=fun k=>k≤v.length) (m:=fun k=>v.length-k) 0 (Nat.zero_le _) (by omega) ?_ ?_)
 ·exact q03 rfl ⟨q05 q60 _,trivial⟩ (by simp[q0k,ints,q00,hsl])
 intro k hk N hN
 refine gg rfl (q01 rfl (fun g2=>?_) (fun g2=>?_))
 ·rw[q06]at g2
  have hlt:k<v.length:=by omega
  have w1:=wS (n:=k)
  have hset:=qof ⟨⟨0,0⟩,⟨0,0⟩,0⟩ (q3z v sh each) hlt
  have hms:=hsm k hlt
  refine gg rfl (q0j k rfl rfl rfl (q0U (by omega)) rfl ?_)
  refine gg rfl (q0j k rfl rfl rfl (q0U hlt) rfl (gg rfl (q02 rfl rfl (qzS (pt v k) (pt sh k)) (gg rfl (q2K rfl rfl (by omega) ?_)))))
  refine gg rfl (q0j ((k+1)%v.length) rfl rfl (by rw[w1,q1z]) (q0U (Nat.mod_lt _ (by omega))) rfl ?_)
  refine gg rfl (q02 rfl rfl (qzS (pt v ((k+1)%v.length)) (pt sh k)) (gg rfl (q0j k rfl rfl rfl (qdw (by omega)) rfl ?_)))
  refine gg rfl (q0J k rfl rfl rfl rfl rfl hlt (gg rfl (q2t (enc:=Seg.enc) (q6i ⟨⟨0,0⟩,⟨0,0⟩,0⟩ v.length (q3z v sh each) k) k (q3z v sh each k) rfl rfl (Nat.zero_add _) rfl (fun _=>rfl) rfl (Nat.zero_le _) (by rw[qdy];exact hlt) ?_)))
  rw[hset]
  exact gg rfl (q04 (hN (k+1) hlt (by omega) (q03 rfl ⟨q05 q60 _,trivial⟩ (by simp[q0k,ints,q00,w1]))))
 rw[q07]at g2
 obtain rfl:k=v.length:=by omega
 clear hN
 refine gg rfl (q04 (gg rfl ?_))
 rw[qfv]
 have hsgs:∀i,i<v.length→((List.range v.length).map (q3z v sh each))[i]?=some (q3z v sh each i):=by
  intro i hi;simp[hi]
 have hseglen:((List.range v.length).map (q3z v sh each)).length=v.length:=by simp
 generalize hsg:(List.range v.length).map (q3z v sh each)=segs at*
 have hPlen:∀k,((q10 v sh each k).foldl q1v []).length≤2*k:=fun k=>by
  have:=qfx (q10 v sh each k) []
  have:=qrJ v sh each k
  simp at*;omega
 refine q0l (S:=fun k:Nat=>([q0k v,q00 v.length,.ref 2 0 v.length,.ref 3 0 ((q10 v sh each k).foldl q1v []).length,q0k v,q00 v.length,q00 k],[none,none,some (.row (segs.map Seg.enc) 5),some (.row (((q10 v sh each k).foldl q1v []).map Spot.enc) 2),none,none,none],[0,0,0,0,0,0,0])) (C:=fun k=>k≤v.length) (m:=fun k=>v.length-k) 0 (Nat.zero_le _) (by omega) ?_ ?_
 ·exact q03 rfl ⟨q05 q60 _,rfl,trivial⟩ (by simp[q0k,q00,q10])
 intro k hk N hN
 refine gg rfl (q01 rfl (fun g3=>?_) (fun g3=>?_))
 ·rw[q06]at g3
  have hlt:k<v.length:=by omega
  have w1:=wS (n:=k)
  have w2:IntKind.i64.wrap (IntKind.i64.wrap ((k:Int)+v.length)-1)=((k+v.length-1:Nat):Int):=by rw[wrap64 (x:=(k:Int)+v.length) (by omega) (by omega),wrap64 (by omega) (by omega)];omega
  have hm:(k+v.length-1)%v.length<v.length:=Nat.mod_lt _ (by omega)
  have ok1:=hok _ hm
  have ok2:=hok k hlt
  have hk1:=hPlen (k+1)
  refine gg rfl (q0j k rfl rfl rfl (q0U hlt) rfl (gg rfl (q2K rfl rfl (by omega) ?_)))
  refine gg rfl (q0J ((k+v.length-1)%v.length) rfl rfl rfl rfl (by rw[w2,q1z]) hm ?_)
  refine gg rfl (q2S (enc:=Seg.enc) segs ((k+v.length-1)%v.length) (q3z v sh each ((k+v.length-1)%v.length)) rfl (Nat.zero_add _) (fun _=>rfl) rfl (hsgs _ hm) (gg rfl (q0J k rfl rfl rfl rfl rfl hlt (gg rfl (q2S (enc:=Seg.enc) segs k (q3z v sh each k) rfl (Nat.zero_add _) (fun _=>rfl) rfl (hsgs _ hlt) (gg rfl (q02 rfl rfl (qDp (pt v k) (q3z v sh each ((k+v.length-1)%v.length)) (q3z v sh each k)) (gg rfl ?_))))))))
  have hcl:(q3i v sh each k).length≤2:=q9D _ _ _
  have hct:q10 v sh each (k+1)=q10 v sh each k++q3i v sh each k:=rfl
  have hPk:=hPlen k
  change wpM _ _ _ _ _ (upd _ 100 _) _ _ _ _
  have hcd:q1H (pt v k) (q3z v sh each ((k+v.length-1)%v.length)) (q3z v sh each k)=q3i v sh each k:=rfl
  rw[hcd]
  generalize q3i v sh each k=c at*
  generalize hP:(q10 v sh each k).foldl q1v []=P at*
  have hfl:∀j,((c.take j).foldl q1v P).length≤P.length+2:=fun j=>by
   have:=qfx (c.take j) P
   simp at*;omega
  refine q0l (S:=fun j:Nat=>([q0k v,q00 v.length,.ref 2 0 v.length,.ref 3 0 ((c.take j).foldl q1v P).length,q0k v,q00 v.length,q00 k,q0k c,q00 c.length,q00 j],[none,none,some (.row (segs.map Seg.enc) 5),some (.row (((c.take j).foldl q1v P).map Spot.enc) 2),none,none,none,none,none,none],[0,0,0,0,0,0,0,0,0,0])) (C:=fun j=>j≤c.length) (m:=fun j=>c.length-j) 0 (Nat.zero_le _) (by omega) ?_ ?_
  ·exact q03 rfl ⟨q05 q60 _,q05 q0r _,trivial⟩ (by simp[q0k,q00])
  intro j hj N2 hN2
  refine gg rfl (q01 rfl (fun g4=>?_) (fun g4=>?_))
  ·rw[q06]at g4
   have hjl:j<c.length:=by omega
   have wj:=wS (n:=j)
   have hstep:=qoi hjl P
   have hfj:=hfl j
   generalize hO:(c.take j).foldl q1v P=O at*
   have next:∀{t:q0z} {h:q0e} {z:Frz} {nx:Nat},(q15 0 [(8,0),(10,0),(11,0),(14,2),(77,0),(78,0),(79,0),(98,0),(99,0),(100,0)] t h z nx fun _ _ kp=>kp=([q0k v,q00 v.length,.ref 2 0 v.length,.ref 3 0 (q1v O (pt c j)).length,q0k v,q00 v.length,q00 k,q0k c,q00 c.length,q00 ((j+1:Nat):Int)],[none,none,some (.row (segs.map Seg.enc) 5),some (.row ((q1v O (pt c j)).map Spot.enc) 2),none,none,none,none,none,none],[0,0,0,0,0,0,0,0,0,0]))→N2 t h z nx:=by
    intro t h z nx hst
    refine hN2 (j+1) hjl (by omega) ?_
    rw[hstep];exact hst
   clear hN2
   have wl:O.length≠0→IntKind.i64.wrap ((O.length:Int)-1)=((O.length-1:Nat):Int):=fun h=>by rw[wrap64 (by omega) (by omega)];omega
   refine gg rfl (q0j j rfl rfl rfl (q0U hjl) rfl (gg rfl (q08 rfl (fun e1=>?_) (fun e1=>?_))))
   ·rw[q1I]at e1
    have hO0:O.length=0:=by omega
    have hpush:q1v O (pt c j)=O++[pt c j]:=by rw[q1v,if_pos (.inl hO0)]
    refine gg rfl (q0d rfl (gg rfl (q1g rfl rfl rfl rfl rfl rfl (by simp) (Nat.zero_le _) (by simp[q0N];omega) ?_)))
    refine gg rfl (q04 (next (q03 rfl ⟨q05 q60 _,?_,trivial⟩ ?_)))
    ·rw[List.all_append,q05 q0r];rfl
    rw[hpush];simp[q0k,q00,wj,Spot.enc]
   rw[q1J]at e1
   have hO0:O.length≠0:=by omega
   have hlast:O[O.length-1]?=some (q1F O):=by rw[q1F,q0H (by omega)];exact List.getElem?_eq_getElem (by omega)
   refine gg rfl (q0J (O.length-1) rfl rfl rfl rfl (wl hO0) (by omega) ?_)
   refine gg rfl (q2S (enc:=Spot.enc) O (O.length-1) (q1F O) rfl (Nat.zero_add _) (fun _=>rfl) rfl hlast (gg rfl (q01 rfl (fun e2=>?_) (fun e2=>?_))))
   ·rw[q1T]at e2
    have hne:q1F O≠pt c j:=by simpa using e2
    have hpush:q1v O (pt c j)=O++[pt c j]:=by rw[q1v,if_pos (.inr hne)]
    refine gg rfl (q1g rfl rfl rfl rfl rfl rfl (by simp) (Nat.zero_le _) (by simp[q0N];omega) ?_)
    refine gg rfl (q04 (next (q03 rfl ⟨q05 q60 _,?_,trivial⟩ ?_)))
    ·rw[List.all_append,q05 q0r];rfl
    rw[hpush];simp[q0k,q00,wj,Spot.enc]
   rw[q1T]at e2
   have heq:q1F O=pt c j:=by simpa using e2
   have hpush:q1v O (pt c j)=O:=by rw[q1v,if_neg (by intro h;rcases h with h|h;exact hO0 h;exact h heq)]
   exact gg rfl (q04 (next (q03 rfl ⟨q05 q60 _,q05 q0r _,trivial⟩ (by rw[hpush];simp[q0k,q00,wj]))))
  rw[q07]at g4
  obtain rfl:j=c.length:=by omega
  clear hN2
  refine gg rfl (q04 (gg rfl (q04 (hN (k+1) hlt (by omega) (q03 rfl ⟨q05 q60 _,q05 q0r _,trivial⟩ ?_)))))
  simp[q0k,q00,w1,hct,hP]
 rw[q07]at g3
 obtain rfl:k=v.length:=by omega
 clear hN
 have hR2:=hPlen v.length
 have hq:q33 v sh each=(q2g (q10 v sh each v.length)).take (q3A (q2g (q10 v sh each v.length)) (q2g (q10 v sh each v.length)).length):=rfl
 rw[hq]
 change ((q2g (q10 v sh each v.length))).length≤_ at hR2
 refine gg rfl (q04 (gg rfl ?_))
 have hon:(q10 v sh each v.length).foldl q1v []=q2g (q10 v sh each v.length):=rfl
 rw[hon]
 clear hq hPlen hon
 generalize q2g (q10 v sh each v.length)=R at*
 refine q0l (S:=fun j:Nat=>([q0k v,.ref 1 0 j],[none,some (.row (R.map Spot.enc) 2)],[0,0])) (C:=fun j=>j≤R.length∧q3A R j=q3A R R.length) (m:=fun j=>j) R.length ⟨Nat.le_refl _,rfl⟩ (by omega) ?_ ?_
 ·exact q03 rfl ⟨q05 q0r _,trivial⟩ (by simp[q0k])
 rintro j ⟨hj,htr⟩ N hN
 have wl:j≠0→IntKind.i64.wrap ((j:Int)-1)=((j-1:Nat):Int):=fun h=>by rw[wrap64 (by omega) (by omega)];omega
 have hstop:¬(2≤j∧pt R (j-1)=pt R 0)→q3A R R.length=j:=by
  intro h
  rw[←htr]
  cases j with
  |zero=>rfl
  |succ j=>rw[q3A,if_neg (fun h'=>h ⟨by omega,by simpa using h'.2⟩)]
 refine gg rfl (q08 rfl (fun e1=>?_) (fun e1=>?_))
 ·rw[q0G]at e1
  have hj2:2≤j:=by omega
  refine gg rfl (q0J (j-1) rfl rfl rfl rfl (wl (by omega)) (by omega) ?_)
  refine gg rfl (q2S (enc:=Spot.enc) R (j-1) (pt R (j-1)) rfl (Nat.zero_add _) (fun _=>rfl) rfl (by rw[q0H (by omega)];exact List.getElem?_eq_getElem (by omega)) ?_)
  refine gg rfl (q0J 0 rfl rfl rfl rfl rfl (by omega) ?_)
  refine gg rfl (q2S (enc:=Spot.enc) R 0 (pt R 0) rfl rfl (fun _=>rfl) rfl (by rw[q0H (by omega)];exact List.getElem?_eq_getElem (by omega)) ?_)
  refine gg rfl (q01 rfl (fun e2=>?_) (fun e2=>?_))
  ·rw[q1T]at e2
   have heq:pt R (j-1)=pt R 0:=by simpa using e2
   refine gg rfl (qaB (j-1) rfl rfl rfl ⟨_,_,rfl,wl (by omega)⟩ (by omega) ?_)
   refine gg rfl (q04 (hN (j-1) ⟨by omega,?_⟩ (by omega) (q03 rfl ⟨q05 q0r _,trivial⟩ (by simp[q0k]))))
   rw[←htr]
   obtain⟨i,rfl⟩:∃i,j=i+1:=⟨j-1,by omega⟩
   rw[q3A,if_pos ⟨by omega,by simpa using heq⟩];rfl
  rw[q1T]at e2
  have hne:¬(2≤j∧pt R (j-1)=pt R 0):=fun h=>by rw[h.2]at e2;simp at e2
  rw[hstop hne]
  clear hN
  refine gg rfl (q04 (gg rfl ?_))
  have hrow:D.lst ((R.map Spot.enc).take j)=q0k (R.take j):=by rw[q0k,List.map_take]
  have hdat:0+j≤(R.map Spot.enc).length∧(((R.map Spot.enc).drop 0).take j).all (dat 4)=true:=by
   refine⟨by simp;omega,?_⟩
   rw[List.drop_zero,←List.map_take];exact q0L q1u _
  have hql:(R.take j).length=j:=by simp;omega
  refine q0l (S:=fun k:Nat=>([q0k v,.ref 1 0 j,.ref 1 0 j,q00 j,q00 k],[none,some (.row (R.map Spot.enc) 2),none,none,none],[0,0,0,0,0])) (C:=fun k=>k≤j∧∀i,i<k→q0x (pt R i) 1048576=true) (m:=fun k=>j-k) 0 ⟨Nat.zero_le _,fun i hi=>by omega⟩ (by omega) ?_ ?_
  ·exact q03 rfl ⟨q05 q0r _,q05 q0r _,trivial⟩ (by simp[q0k,q00])
  rintro k ⟨hk,hin⟩ N hN
  refine gg rfl (q01 rfl (fun f1=>?_) (fun f1=>?_))
  ·rw[q06]at f1
   have hlt:k<j:=by omega
   have w1:=wS (n:=k)
   refine gg rfl (q0J k rfl rfl rfl rfl rfl hlt (gg rfl (q2S (enc:=Spot.enc) R k (pt R k) rfl (Nat.zero_add _) (fun _=>rfl) rfl (by rw[q0H (by omega)];exact List.getElem?_eq_getElem (by omega)) ?_)))
   refine gg rfl (q02 rfl rfl (q5c (pt R k) 1048576 (by decide) (by decide)) ?_)
   refine gg rfl (q01 rfl (fun f2=>?_) (fun f2=>?_))
   ·refine gg rfl (q04 (gg rfl (q09 rfl rfl rfl trivial ?_)))
    have:(R.take j).any (fun s=>!q0x s 1048576)=true:=by
     refine List.any_eq_true.2 ⟨pt R k,?_,f2⟩
     rw[q0H (by omega)]
     exact List.mem_iff_getElem.2 ⟨k,by omega,by simp⟩
    rw[q8u,if_pos this];rfl
   refine gg rfl (q04 (hN (k+1) ⟨hlt,fun i hi=>?_⟩ (by omega) (q03 rfl ⟨q05 q0r _,q05 q0r _,trivial⟩ (by simp[q0k,q00,w1]))))
   by_cases hik:i<k
   ·exact hin i hik
   obtain rfl:i=k:=by omega
   simpa using f2
  rw[q07]at f1
  clear hN
  have hany:(R.take j).any (fun s=>!q0x s 1048576)=false:=by
   rw[List.any_eq_false]
   intro s hs
   obtain⟨i,hi,rfl⟩:=List.getElem_of_mem hs
   have:=hin i (by omega)
   rw[q0H (by omega)]at this
   simp[this]
  rw[q8u,if_neg (by rw[hany];decide)]
  refine gg rfl (q04 (gg rfl (q7u rfl rfl ⟨hdat,trivial⟩ (by rw[hrow];exact q3L (R.take j)) rfl ?_)))
  refine gg rfl (q01 rfl (fun f3=>?_) (fun f3=>?_))
  ·rw[q0w]at f3
   refine gg rfl (q09 rfl rfl rfl trivial ?_)
   rw[if_neg f3];rfl
  rw[q0B]at f3
  rw[if_pos f3]
  refine gg rfl (q7u rfl rfl ⟨hdat,trivial⟩ (by rw[hrow];exact q4y (R.take j)) rfl ?_)
  refine gg rfl (q02 rfl rfl (q4y v) (gg rfl (q01 rfl (fun f4=>?_) (fun f4=>?_))))
  ·rw[q0w]at f4
   refine gg rfl (q09 rfl rfl rfl trivial ?_)
   rw[if_neg f4];rfl
  rw[q0B]at f4
  rw[if_pos f4]
  refine gg rfl (q09 rfl rfl rfl ⟨hdat,trivial⟩ ?_)
  rw[hrow];rfl
 rw[q0I]at e1
 have hne:¬(2≤j∧pt R (j-1)=pt R 0):=fun h=>by omega
 rw[hstop hne]
 clear hN
 refine gg rfl (q0i rfl (gg rfl (q04 (gg rfl ?_))))
 have hrow:D.lst ((R.map Spot.enc).take j)=q0k (R.take j):=by rw[q0k,List.map_take]
 have hdat:0+j≤(R.map Spot.enc).length∧(((R.map Spot.enc).drop 0).take j).all (dat 4)=true:=by
  refine⟨by simp;omega,?_⟩
  rw[List.drop_zero,←List.map_take];exact q0L q1u _
 have hql:(R.take j).length=j:=by simp;omega
 refine q0l (S:=fun k:Nat=>([q0k v,.ref 1 0 j,.ref 1 0 j,q00 j,q00 k],[none,some (.row (R.map Spot.enc) 2),none,none,none],[0,0,0,0,0])) (C:=fun k=>k≤j∧∀i,i<k→q0x (pt R i) 1048576=true) (m:=fun k=>j-k) 0 ⟨Nat.zero_le _,fun i hi=>by omega⟩ (by omega) ?_ ?_
 ·exact q03 rfl ⟨q05 q0r _,q05 q0r _,trivial⟩ (by simp[q0k,q00])
 rintro k ⟨hk,hin⟩ N hN
 refine gg rfl (q01 rfl (fun f1=>?_) (fun f1=>?_))
 ·rw[q06]at f1
  have hlt:k<j:=by omega
  have w1:=wS (n:=k)
  refine gg rfl (q0J k rfl rfl rfl rfl rfl hlt (gg rfl (q2S (enc:=Spot.enc) R k (pt R k) rfl (Nat.zero_add _) (fun _=>rfl) rfl (by rw[q0H (by omega)];exact List.getElem?_eq_getElem (by omega)) ?_)))
  refine gg rfl (q02 rfl rfl (q5c (pt R k) 1048576 (by decide) (by decide)) ?_)
  refine gg rfl (q01 rfl (fun f2=>?_) (fun f2=>?_))
  ·refine gg rfl (q04 (gg rfl (q09 rfl rfl rfl trivial ?_)))
   have:(R.take j).any (fun s=>!q0x s 1048576)=true:=by
    refine List.any_eq_true.2 ⟨pt R k,?_,f2⟩
    rw[q0H (by omega)]
    exact List.mem_iff_getElem.2 ⟨k,by omega,by simp⟩
   rw[q8u,if_pos this];rfl
  refine gg rfl (q04 (hN (k+1) ⟨hlt,fun i hi=>?_⟩ (by omega) (q03 rfl ⟨q05 q0r _,q05 q0r _,trivial⟩ (by simp[q0k,q00,w1]))))
  by_cases hik:i<k
  ·exact hin i hik
  obtain rfl:i=k:=by omega
  simpa using f2
 rw[q07]at f1
 clear hN
 have hany:(R.take j).any (fun s=>!q0x s 1048576)=false:=by
  rw[List.any_eq_false]
  intro s hs
  obtain⟨i,hi,rfl⟩:=List.getElem_of_mem hs
  have:=hin i (by omega)
  rw[q0H (by omega)]at this
  simp[this]
 rw[q8u,if_neg (by rw[hany];decide)]
 refine gg rfl (q04 (gg rfl (q7u rfl rfl ⟨hdat,trivial⟩ (by rw[hrow];exact q3L (R.take j)) rfl ?_)))
 refine gg rfl (q01 rfl (fun f3=>?_) (fun f3=>?_))
 ·rw[q0w]at f3
  refine gg rfl (q09 rfl rfl rfl trivial ?_)
  rw[if_neg f3];rfl
 rw[q0B]at f3
 rw[if_pos f3]
 refine gg rfl (q7u rfl rfl ⟨hdat,trivial⟩ (by rw[hrow];exact q4y (R.take j)) rfl ?_)
 refine gg rfl (q02 rfl rfl (q4y v) (gg rfl (q01 rfl (fun f4=>?_) (fun f4=>?_))))
 ·rw[q0w]at f4
  refine gg rfl (q09 rfl rfl rfl trivial ?_)
  rw[if_neg f4];rfl
 rw[q0B]at f4
 rw[if_pos f4]
 refine gg rfl (q09 rfl rfl rfl ⟨hdat,trivial⟩ ?_)
 rw[hrow];rfl
end Go.F

namespace Go.F
attribute [local irreducible] IntKind.wrap wpM
section
variable {T:Tab}{sh:Shr}{nx0:Nat}{s:List Fr}{t:q0z}{h:q0e}{z:Frz}{nx:Nat}{q:Ex→q0z→q0e→Frz→Nat→Prop}
variable {base i:Nat}{res:List Nat}{dst:Nat}{g:Gd}{rest:List KOper}
theorem atCvB {x:X}{id k:Nat}{es:List D}{esz:Nat}{bs:List UInt8}(hx:x.ev t=.ref id 0 k)(hr:g.h base h id=some (.row es esz))(hk1:k=es.length)(hc:es.all (fun d=>d.cells.length==1)=true)(hb:q5I es=some bs)
 (hk:wpM T sh nx0 (.ops base res rest::s) .normal (upd t dst (.str ⟨bs.toArray⟩)) h z nx q):
 wpM T sh nx0 (.ops base res (⟨i,some dst,none,g,.conv .bytes x⟩::rest)::s) .normal t h z nx q:=by
 refine q3P ?_
 subst hk1
 have e1:((es.drop 0).take es.length)=es:=by simp
 simp only[kop,qeT,hx,q5K,hr]
 refine qwA (by omega) (by rw[e1];exact hc) ?_
 rw[e1]
 exact qr3 hb hk
end
def qtD (p:List Spot)(i:Nat):Edge:=⟨⟨#[UInt8.ofNat (97+i%26)]⟩,[pt p i,pt p ((i+1)%p.length)]⟩
def qGf (p:List Spot):List Edge:=(List.range p.length).map (qtD p)
theorem qAl (p:List Spot)(k:Nat):((List.range (k+1)).map (qtD p)).map Edge.enc=((List.range k).map (qtD p)).map Edge.enc++[(qtD p k).enc]:=by
 rw[List.range_succ];simp
theorem bytes1 (n:Nat):q5I [D.int .u8 (n:Int)]=some [UInt8.ofNat n]:=by
 simp[q5I]
set_option maxHeartbeats 2000000 in
theorem qiW (p:List Spot)(hp:p.length≤100000):PU qxG [q0k p]=some (edges (qGf p)):=by
 refine q0g (fn:=qlm) rfl (q0a ?_)
 refine gg rfl (q0l (S:=fun k:Nat=>([q0k p,.ref 1 0 k,q00 p.length,q00 k],[none,some (.row (((List.range k).map (qtD p)).map Edge.enc) 2),none,none],[0,0,0,0])) (C:=fun k=>k≤p.length) (m:=fun k=>p.length-k) 0 (Nat.zero_le _) (by omega) ?_ ?_)
 ·exact q03 rfl ⟨rfl,trivial⟩ (by simp[q0k,q00])
 intro k hk N hN
 refine gg rfl (q01 rfl (fun g1=>?_) (fun g1=>?_))
 ·rw[q06]at g1
  have hlt:k<p.length:=by omega
  have w1:=wS (n:=k)
  have w2:IntKind.u8.wrap ((k:Int).tmod 26)=((k%26:Nat):Int):=by
   rw[show(26:Int)=((26:Nat):Int)from rfl,q1z]
   simp[IntKind.wrap,IntKind.bits,IntKind.signed];omega
  have w3:IntKind.u8.wrap (97+((k%26:Nat):Int))=((97+k%26:Nat):Int):=by
   simp[IntKind.wrap,IntKind.bits,IntKind.signed];omega
  refine gg rfl (q2K rfl rfl (by decide) ?_)
  refine gg rfl ?_
  rw[w2,w3]
  refine atCvB rfl rfl rfl rfl (bytes1 (97+k%26)) (gg rfl (q0j k rfl rfl rfl (q0U hlt) rfl (gg rfl (q2K rfl rfl (by rw[List.length_map];omega) ?_))))
  refine gg rfl (q0j ((k+1)%p.length) rfl rfl (by rw[w1,List.length_map,q1z]) (q0U (Nat.mod_lt _ (by omega))) rfl ?_)
  refine gg rfl (q1g rfl rfl rfl rfl rfl rfl (by simp) (Nat.zero_le _) (by simp[q0N];omega) ?_)
  refine gg rfl (q04 (hN (k+1) hlt (by omega) (qjT [some (((List.range (k+1)).map (qtD p)).map Edge.enc,[35])] rfl ⟨?_,trivial⟩ ?_)))
  ·rw[qAl]
   exact qrl (q0L q6j _) (q05 q3r _) rfl rfl rfl rfl
  simp[q0k,q00,w1]
 rw[q07]at g1
 obtain rfl:k=p.length:=by omega
 refine gg rfl (q04 (gg rfl (q09 rfl rfl rfl ⟨q1n (by simp) (q0L q6j _),trivial⟩ ?_)))
 rw[q1o (by simp)];rfl
def qpz (x y z w:Int):List Spot:=[⟨x,y⟩,⟨z,y⟩,⟨z,w⟩,⟨x,w⟩]
theorem qCo (x y z w:Int):PU qAz [.int .i64 x,.int .i64 y,.int .i64 z,.int .i64 w]=some (q0k (qpz x y z w)):=by
 refine q0g (fn:=qp1) rfl (q0a ?_)
 exact gg rfl (q09 rfl rfl rfl ⟨q5k (l:=qpz x y z w) rfl,trivial⟩ rfl)
def qGg (s:ByteArray):Bool:=
 !decide (s.size=0)&&(!decide (24<s.size)&&(!(s.data.toList==[109,105,110])&&(!(s.data.toList==[109,97,120])&&decide (∀i,i<s.size→q82 i (s.data.toList.getD i 0).toNat=true))))
theorem qGh:q1X=qGg:=by
 funext s
 unfold q1X qGg q2G
 simp only[Go.ByteArray.toList_eq]
def qiX (l:List Edge)(i:Nat):Int:=
 if qGg (eg l i).name=false then 1 else if((List.range i).any fun j=>(eg l j).name.data.toList==(eg l i).name.data.toList)then 7 else q1C (eg l i).line
theorem qxo:q1r=qiX:=by
 funext l i
 unfold q1r qiX qeJ
 simp only[qGh,Go.ByteArray.toList_eq]
def qGi (l:List Edge):Int:=
 if 16<l.length then 5 else if l.length<2 then 11
 else if q0K (qiX l) l.length=0 then
  if q0K (q2T l) l.length=0 then q1M (q0n l)else q0K (q2T l) l.length
 else q0K (qiX l) l.length
theorem qbj:q0O=qGi:=by
 funext l
 unfold q0O qGi
 simp only[qxo]
def ex1:List Edge:=qGf (qpz 0 0 10 10)
def ex2:List Edge:=qGf [⟨0,0⟩,⟨30,0⟩,⟨0,40⟩]
theorem qAm:q0O ex1=0:=by rw[qbj];decide+kernel
theorem ex2_ok:q0O ex2=0:=by rw[qbj];decide+kernel
theorem qpA:q1i ex1 [1,2,3,4]=([⟨0,-1⟩,⟨2,0⟩,⟨0,3⟩,⟨-4,0⟩],0):=by
 unfold q1i
 rw[qAm]
 decide+kernel
theorem qDE:q1Q ex1 [1,2,3,4]=(qpz (-4) (-1) 12 13,0):=by
 unfold q1Q
 rw[qpA]
 decide+kernel
theorem qAn:q1i ex2 [0,5,0]=([⟨0,0⟩,⟨4,3⟩,⟨0,0⟩],0):=by
 unfold q1i
 rw[ex2_ok]
 decide+kernel
theorem qDF:q1Q ex2 [0,5,0]=([⟨0,0⟩,⟨36,0⟩,⟨0,48⟩],0):=by
 unfold q1Q
 rw[qAn]
 decide+kernel
theorem qDG:q1Q ex1 [1,2,3]=([],1):=by
 unfold q1Q q1i
 rw[qAm]
 decide+kernel
theorem qGj:q1i ex1 [0,0,0,501]=([],3):=by
 unfold q1i
 rw[qAm]
 decide+kernel
end Go.F

namespace Go.F
attribute [local irreducible] IntKind.wrap wpM
set_option maxHeartbeats 2000000 in
theorem q2N:PU q35 []=some (.bool true):=by
 have s1:=qk6 ex1 [1,2,3,4]
 have s2:=q8w ex1 [1,2,3,4]
 have s3:=q8w ex2 [0,5,0]
 have s4:=q8w ex1 [1,2,3]
 have s5:=qk6 ex1 [0,0,0,501]
 rw[qpA]at s1
 rw[qDE]at s2
 rw[qDF]at s3
 rw[qDG]at s4
 rw[qGj]at s5
 have hn:∀{x:Int} {P:Prop},nqb x x=true→P:=fun h=>absurd rfl (q0w.1 h)
 refine q0g (fn:=q8H) rfl (q0a ?_)
 refine gg rfl (q02 rfl rfl (qCo 0 0 10 10) (gg rfl (q02 rfl rfl (qiW (qpz 0 0 10 10) (by decide)) ?_)))
 refine gg rfl (q2s rfl rfl ⟨⟨by decide,rfl⟩,trivial⟩ s1 fun z=>(gg rfl (q2s rfl rfl ⟨⟨by decide,rfl⟩,trivial⟩ s2 fun z=>(gg rfl (q2s rfl rfl ⟨⟨by decide,rfl⟩,trivial⟩ (qiW [⟨0,0⟩,⟨30,0⟩,⟨0,40⟩] (by decide)) fun z=>?_)))))
 refine gg rfl (q2s rfl rfl ⟨⟨by decide,rfl⟩,trivial⟩ s3 fun z=>(gg rfl (qaB 3 rfl rfl rfl ⟨_,_,rfl,rfl⟩ (by decide) ?_)))
 refine gg rfl (q2s rfl rfl ⟨⟨by decide,rfl⟩,trivial⟩ s4 fun z=>(gg rfl (q2s rfl rfl ⟨⟨by decide,rfl⟩,trivial⟩ s5 fun z=>(gg rfl (q08 rfl hn (fun _=>?_))))))
 refine gg rfl (q08 rfl hn (fun _=>?_))
 refine gg rfl (q08 rfl hn (fun _=>?_))
 refine gg rfl (q08 rfl hn (fun _=>?_))
 refine gg rfl (q01 rfl hn (fun _=>?_))
 refine gg rfl (q7u rfl rfl ⟨⟨by decide,rfl⟩,trivial⟩ (q7L [⟨0,-1⟩,⟨2,0⟩,⟨0,3⟩,⟨-4,0⟩] [⟨0,-1⟩,⟨2,0⟩,⟨0,3⟩,⟨-4,0⟩] (by decide)) rfl ?_)
 refine gg rfl (q08 rfl (fun _=>?_) (fun h=>absurd h (by decide)))
 refine gg rfl (q02 rfl rfl (qCo (-4) (-1) 12 13) (gg rfl (q02 rfl rfl (q7L (qpz (-4) (-1) 12 13) (qpz (-4) (-1) 12 13) (by decide)) ?_)))
 refine gg rfl (q08 rfl (fun _=>?_) (fun h=>absurd h (by decide)))
 refine gg rfl (q7u rfl rfl ⟨⟨by decide,rfl⟩,trivial⟩ (q7L [⟨0,0⟩,⟨36,0⟩,⟨0,48⟩] [⟨0,0⟩,⟨36,0⟩,⟨0,48⟩] (by decide)) rfl ?_)
 refine gg rfl (q09 rfl rfl rfl trivial ?_)
 simp
end Go.F

namespace Go.F
attribute [local irreducible] IntKind.wrap wpM
def vcnt (l:List Edge):Nat→Int
 |0=>0
 |k+1=>min (IntKind.i64.wrap (IntKind.i64.wrap (vcnt l k+(eg l k).line.length)+1)) (IntKind.i64.wrap (60+1))
end Go.F

namespace Go.F
theorem ql9 {b:Int}(hb:0<b):q1B 0 b=0:=by
 unfold q1B
 rw[if_neg (by omega)]
 exact Int.ediv_eq_zero_of_lt (by omega) (by omega)
end Go.F

namespace Go.F
end Go.F

namespace Go.F
end Go.F

namespace Go.F
def sm {α:Type} [Add α] [OfNat α 0](f:Nat→α):Nat→α
 |0=>0
 |k+1=>sm f k+f k
def crU (U:Nat→Int)(j:Nat)(z:Int):Prop:=(U j≤z∧z<U (j+1))∨(U (j+1)≤z∧z<U j)
instance (U:Nat→Int)(j:Nat)(z:Int):Decidable (crU U j z):=by unfold crU;exact inferInstance
def yU (U V:Nat→Int)(t:Nat→Rat)(j:Nat)(z:Int):Rat:=(V j:Rat)+t j*((z:Rat)-(U j:Rat))
structure ClU (n:Nat)(U V:Nat→Int)(t:Nat→Rat):Prop where
 cU:U n=U 0
 cV:V n=V 0
 ne:∀j,j<n→U j≠U (j+1)
 yt:∀j,j<n→yU U V t j (U (j+1))=V (j+1)
end Go.F

namespace Go.F
def inU (U:Nat→Int)(j:Nat)(z:Int):Prop:=(U j≤z∧z≤U (j+1))∨(U (j+1)≤z∧z≤U j)
structure SmU (n:Nat)(U V:Nat→Int)(t:Nat→Rat):Prop extends ClU n U V t where
 n3:3≤n
 same:∀i j z,i<n→j<n→i≠j→crU U i z→crU U j z→
  (yU U V t i z≤yU U V t j z∧yU U V t i (z+1)≤yU U V t j (z+1)∧yU U V t i z+yU U V t i (z+1)<yU U V t j z+yU U V t j (z+1))∨
  (yU U V t j z≤yU U V t i z∧yU U V t j (z+1)≤yU U V t i (z+1)∧yU U V t j z+yU U V t j (z+1)<yU U V t i z+yU U V t i (z+1))
 tch:∀i j z,i<n→j<n→i≠j→inU U i z→inU U j z→yU U V t i z=yU U V t j z→
  ∃m m',(m=i∨m=i+1)∧(m'=j∨m'=j+1)∧U m=z∧(m=m'∨(m=0∧m'=n)∨(m=n∧m'=0))
def hU (U V:Nat→Int)(t:Nat→Rat)(j:Nat)(z:Int):Rat:=yU U V t j z+yU U V t j (z+1)
end Go.F

namespace Go.F
end Go.F

namespace Go.F
end Go.F

namespace Go.F
end Go.F

namespace Go.F
end Go.F

namespace Go.F
end Go.F

namespace Go.F
theorem qfd (a:Int){b:Int}(hb:0<b):q1B (-a) b= -q1B a b:=by
 by_cases h0:a=0
 ·subst h0;rw[Int.neg_zero,ql9 hb];rfl
 unfold q1B
 by_cases h:a<0
 ·rw[if_neg (by omega),if_pos h];simp
 rw[if_pos (by omega),if_neg h];simp
theorem qBJ {a b:Spot}(ha:q0x a 1048576=true)(hb:q0x b 1048576=true):sqd a b<17592186044416:=by
 rw[q1L]at ha hb
 have e:=q6O a b
 have b1:Bd (b.x-a.x) 2097152:=⟨by omega⟩
 have b2:Bd (b.y-a.y) 2097152:=⟨by omega⟩
 have hb:Bd ((b.x-a.x) *(b.x-a.x)+(b.y-a.y) *(b.y-a.y)) _:=inferInstance
 have:=hb.le
 omega
theorem qfe {l:List Edge}{k:Nat}(hk:k<l.length):q0n l=q0n (l.take k)++((eg l k).line.dropLast++q0n (l.drop (k+1))):=by
 have:l=l.take k++(eg l k::l.drop (k+1)):=by
  rw[q3M hk,List.getElem_cons_drop,List.take_append_drop]
 conv=>lhs;rw[this]
 unfold q0n
 rw[List.flatMap_append,List.flatMap_cons]
theorem qbI {l:List Edge}{k j:Nat}(hk:k<l.length)(hj:j+1<(eg l k).line.length):pt (q0n l) ((q0n (l.take k)).length+j)=pt (eg l k).line j:=by
 have e:=qfe hk
 have hl:(q0n (l.take k)).length+j<(q0n l).length:=by rw[e];simp;omega
 rw[q0H hl,q0H (by omega)]
 simp only[e]
 rw[List.getElem_append_right (by omega),List.getElem_append_left (by simp;omega),List.getElem_dropLast]
 congr 1
 omega
theorem qr5 {l:List Edge}(hc:q0O l=0){k j:Nat}(hk:k<l.length)(hj:j+1<(eg l k).line.length):pt (q0n l) (((q0n (l.take k)).length+j+1)%(q0n l).length)=pt (eg l k).line (j+1):=by
 obtain⟨h2,h16,hfe,hje,hchk⟩:=q18 hc
 have h2l:∀i,i<l.length→2≤(eg l i).line.length:=fun i hi=>(q2x (q34 (q1e hfe hi))).1
 have ht:=congrArg List.length (q3U hk)
 rw[List.length_append,List.length_dropLast]at ht
 by_cases hl:j+2<(eg l k).line.length
 ·have e:=qfe hk
  have hlen:(q0n (l.take k)).length+j+1<(q0n l).length:=by rw[e];simp;omega
  rw[Nat.mod_eq_of_lt hlen,Nat.add_assoc]
  exact qbI hk (by omega)
 have hje':=q1e hje hk
 unfold q2T at hje'
 split at hje'
 ·rename_i hq
  rw[show j+1=(eg l k).line.length-1 by omega,hq]
  by_cases hk1:k+1<l.length
  ·have h0:=qbI hk1 (j:=0) (by have:=h2l (k+1) hk1;omega)
   have e:=qfe hk1
   have hlen:(q0n (l.take (k+1))).length<(q0n l).length:=by rw[e];simp;have:=h2l (k+1) hk1;omega
   rw[show(q0n (l.take k)).length+j+1=(q0n (l.take (k+1))).length by omega,Nat.mod_eq_of_lt hlen,Nat.mod_eq_of_lt hk1,←h0];rfl
  have hke:k+1=l.length:=by omega
  have h0:=qbI (l:=l) (k:=0) (j:=0) (by omega) (by have:=h2l 0 (by omega);omega)
  have:(q0n (l.take (k+1))).length=(q0n l).length:=by rw[hke,List.take_length]
  rw[show(q0n (l.take k)).length+j+1=(q0n l).length by omega,Nat.mod_self,hke,Nat.mod_self,←h0]
  simp[q0n]
 cases hje'
theorem qo2 (l:List Edge)(ws:List Int):∀n,n≤l.length→∀k,k<n→∀j,j+1<(eg l k).line.length→wd (q27 l ws n) ((q0n (l.take k)).length+j)=wd ws k:=by
 intro n
 induction n with
 |zero=>intro _ k hk;omega
 |succ n ih=>
  intro hn k hk j hj
  have hln:=qdx l ws n (by omega)
  rw[q27]
  by_cases hkn:k<n
  ·rw[←ih (by omega) k hkn j hj]
   have h1:=qdx l ws n (by omega)
   have h2:=q3U (l:=l) (k:=k) (by omega)
   have h3:(q0n (l.take (k+1))).length≤(q0n (l.take n)).length:=by
    have:q0n (l.take (k+1))=q0n ((l.take n).take (k+1)):=by rw[List.take_take,Nat.min_eq_left (by omega)]
    rw[this];exact qeH _
   rw[h2,List.length_append,List.length_dropLast]at h3
   unfold wd
   rw[List.getD_eq_getElem?_getD,List.getElem?_append_left (by omega),List.getD_eq_getElem?_getD]
  obtain rfl:k=n:=by omega
  unfold wd
  rw[List.getD_eq_getElem?_getD,List.getElem?_append_right (by omega),List.getElem?_replicate,if_pos (by omega)]
  rfl
theorem qD1 {p:List Spot}(h:q1C p=0){j:Nat}(hj:j+1<p.length):pt p j≠pt p (j+1):=by
 unfold q1C at h
 split at h
 ·cases h
 split at h
 ·cases h
 split at h
 ·cases h
 split at h
 ·rename_i h4;exact h4 j (by omega)
 cases h
theorem qcn {p:List Spot}(h:q1C p=0){j:Nat}(hj:j<p.length):q0x (pt p j) 1048576=true:=by
 rw[q0H hj];exact(q2x h).2.2 _ (List.getElem_mem _)
end Go.F

namespace Go.F
attribute [local irreducible] IntKind.wrap wpM
structure Turn where
 flip:Bool
 quarter:Int
def Turn.enc (t:Turn):D:=.agg [.bool t.flip,.int .i64 t.quarter]
def ng (x:Int):Int:=IntKind.i64.wrap (0-x)
def q6g:Nat→Spot→Spot
 |0,s=>s
 |k+1,s=>⟨ng (q6g k s).y,(q6g k s).x⟩
def q4v (f:Bool)(s:Spot):Spot:=if f then⟨ng s.x,s.y⟩else s
def q1a (t:Turn)(s:Spot):Spot:=q6g (t.quarter%4).toNat (q4v t.flip s)
theorem and3 (q:Int):IntKind.i64.wrap ((BitVec.ofInt IntKind.i64.bits q&&&BitVec.ofInt IntKind.i64.bits 3).toNat:Int)=q%4:=by
 have e:IntKind.i64.bits=64:=rfl
 have h3:(BitVec.ofInt 64 3).toNat=2^2-1:=by decide
 rw[e,BitVec.toNat_and,h3,Nat.and_two_pow_sub_one_eq_mod,BitVec.toNat_ofInt]
 have hq:((q%((2^64:Nat):Int)).toNat%2^2:Nat)=(q%4).toNat:=by omega
 rw[hq,wrap64 (by omega) (by omega)]
 omega
theorem q5E (t:Turn)(s:Spot):PU qv3 [t.enc,s.enc]=some (q1a t s).enc:=by
 have hm:(t.quarter%4)=((t.quarter%4).toNat:Int):=by omega
 have hm4:(t.quarter%4).toNat<4:=by omega
 refine q0g (fn:=qis) rfl (q0a ?_)
 refine gg rfl (q01 rfl (fun g=>?_) (fun g=>?_))
 ·have hr:q4v t.flip s=⟨ng s.x,s.y⟩:=by rw[q4v,if_pos g]
  refine gg rfl ?_
  rw[and3,hm]
  refine q0l (S:=fun k:Nat=>([.ptr 0 0 0,.ptr 1 0 0,q00 (t.quarter%4).toNat,q00 k],[some (.row [(q6g k (q4v t.flip s)).enc] 2),some (.row [Spot.enc ⟨0,0⟩] 2),none,none],[0,0,0,0])) (C:=fun k=>k≤(t.quarter%4).toNat) (m:=fun k=>4-k) 0 (Nat.zero_le _) (by omega) ?_ ?_
  ·exact q03 rfl ⟨rfl,rfl,trivial⟩ (by simp[q00,hr,q6g,Spot.enc,ng])
  intro k hk N hN
  have w1:=wS (n:=k)
  refine gg rfl (q01 rfl (fun g1=>?_) (fun g1=>?_))
  ·rw[q06]at g1
   exact gg rfl (q04 (hN (k+1) (by omega) (by omega) (q03 rfl ⟨rfl,rfl,trivial⟩ (by simp[q00,w1,q6g,Spot.enc,ng]))))
  rw[q07]at g1
  obtain rfl:k=(t.quarter%4).toNat:=by omega
  exact gg rfl (q04 (gg rfl (q09 rfl rfl rfl trivial rfl)))
 have hr:q4v t.flip s=s:=by rw[q4v,if_neg (by rw[g];decide)]
 refine gg rfl ?_
 rw[and3,hm]
 refine q0l (S:=fun k:Nat=>([.ptr 0 0 0,.ptr 1 0 0,q00 (t.quarter%4).toNat,q00 k],[some (.row [(q6g k (q4v t.flip s)).enc] 2),some (.row [Spot.enc ⟨0,0⟩] 2),none,none],[0,0,0,0])) (C:=fun k=>k≤(t.quarter%4).toNat) (m:=fun k=>4-k) 0 (Nat.zero_le _) (by omega) ?_ ?_
 ·exact q03 rfl ⟨rfl,rfl,trivial⟩ (by simp[q00,hr,q6g,Spot.enc,ng])
 intro k hk N hN
 have w1:=wS (n:=k)
 refine gg rfl (q01 rfl (fun g1=>?_) (fun g1=>?_))
 ·rw[q06]at g1
  exact gg rfl (q04 (hN (k+1) (by omega) (by omega) (q03 rfl ⟨rfl,rfl,trivial⟩ (by simp[q00,w1,q6g,Spot.enc,ng]))))
 rw[q07]at g1
 obtain rfl:k=(t.quarter%4).toNat:=by omega
 exact gg rfl (q04 (gg rfl (q09 rfl rfl rfl trivial rfl)))
def q4i (t:Turn):Turn:=if t.flip then⟨true,t.quarter%4⟩else⟨false,-t.quarter%4⟩
def q4j (a b:Turn):Turn:=⟨a.flip !=b.flip,(if b.flip then-(a.quarter%4)+b.quarter%4 else a.quarter%4+b.quarter%4)%4⟩
end Go.F

namespace Go.F
attribute [local irreducible] IntKind.wrap wpM
def q5b (t:Turn)(p:List Spot):List Spot:=if t.flip then(p.map (q1a t)).reverse else p.map (q1a t)
def q25 (t:Turn)(e:Edge):Edge:=⟨e.name,q5b t e.line⟩
def q2e (t:Turn)(n i:Nat):Nat:=if t.flip then(n-i)%n else i
def q0P (t:Turn)(l:List Edge):List Edge:=(List.range l.length).map fun i=>q25 t (eg l (q2e t l.length i))
theorem q5Q (t:Turn){n i:Nat}(h:i<n):q2e t n i<n:=by
 unfold q2e;split
 ·exact Nat.mod_lt _ (by omega)
 exact h
theorem q3p {nx0:Nat}{h:q0e}{id:Nat}{b:Blk}(hh:h id=some b)(hp:q1y (some b)=true):q1h nx0 h id=some b:=by
 unfold q1h
 rw[hh,q7z hp];rfl
def Old4 (b1 b2 b3 b4:Blk)(h:q0e)(z:Frz):Prop:=
 (∃h0:q0e,h=upd (upd (upd (upd h0 1 (some b1)) 2 (some b2)) 3 (some b3)) 4 (some b4))∧∃z0:Frz,z=upd (upd (upd (upd z0 1 0) 2 0) 3 0) 4 0
theorem Old4.of {b1 b2 b3 b4:Blk}{h:q0e}{z:Frz}(h1:h 1=some b1)(h2:h 2=some b2)(h3:h 3=some b3)(h4:h 4=some b4)(z1:z 1=0)(z2:z 2=0)(z3:z 3=0)(z4:z 4=0):Old4 b1 b2 b3 b4 h z:=by
 refine⟨⟨h,?_⟩,z,?_⟩
 ·rw[q2J (f:=h) h1,q2J (f:=h) h2,q2J (f:=h) h3,q2J (f:=h) h4]
 rw[q2J (f:=z) z1,q2J (f:=z) z2,q2J (f:=z) z3,q2J (f:=z) z4]
theorem Old4.old {nx0:Nat}{b1 b2 b3 b4:Blk}{h:q0e}{z:Frz}(p1:q1y (some b1)=true)(p2:q1y (some b2)=true)(p3:q1y (some b3)=true)(p4:q1y (some b4)=true)(h1:h 1=some b1)(h2:h 2=some b2)(h3:h 3=some b3)(h4:h 4=some b4)(z1:z 1=0)(z2:z 2=0)(z3:z 3=0)(z4:z 4=0):Old4 b1 b2 b3 b4 (q1h nx0 h) z:=
 Old4.of (q3p h1 p1) (q3p h2 p2) (q3p h3 p3) (q3p h4 p4) z1 z2 z3 z4
theorem q8s {α:Type}{enc:α→D}(h:∀x,plain 4 (enc x)=true)(l:List α)(n:Nat):q1y (some (.row (l.map enc) n))=true:=by
 simp only[q1y];exact q05 h l
def q4w (a:List Spot)(i:Nat):List Spot:=(List.range a.length).map fun m=>if m<i∨a.length≤m+i then pt a (a.length-1-m)else pt a m
theorem qbL (a:List Spot)(i:Nat):(q4w a i).length=a.length:=by simp[q4w]
theorem qun (a:List Spot)(i m:Nat)(h:m<(q4w a i).length):(q4w a i)[m]=if m<i∨a.length≤m+i then pt a (a.length-1-m)else pt a m:=by
 simp[q4w]
theorem qrq (a:List Spot):q4w a 0=a:=by
 unfold q4w
 apply List.ext_getElem
 ·simp
 intro m h1 h2
 simp only[List.getElem_map,List.getElem_range]
 rw[if_neg (by omega),q0H h2]
theorem qup (a:List Spot){i:Nat}(h:a.length≤2*i+1):q4w a i=a.reverse:=by
 unfold q4w
 apply List.ext_getElem
 ·simp
 intro m h1 h2
 simp only[List.length_map,List.length_range]at h1
 simp only[List.getElem_map,List.getElem_range,List.getElem_reverse]
 split
 ·rw[q0H (by omega)]
 rw[q0H h1]
 congr 1
 omega
theorem qrr (a:List Spot){i:Nat}(h:2*i+1<a.length):((q4w a i).set i (pt a (a.length-1-i))).set (a.length-1-i) (pt a i)=q4w a (i+1):=by
 apply List.ext_getElem
 ·simp[q4w]
 intro m h1 h2
 simp only[List.length_set,qbL]at h1
 rw[List.getElem_set,List.getElem_set,qun,qun]
 by_cases e1:a.length-1-i=m
 ·rw[if_pos e1,if_pos (by omega)]
  congr 1;omega
 rw[if_neg e1]
 by_cases e2:i=m
 ·rw[if_pos e2,if_pos (by omega),e2]
 rw[if_neg e2]
 by_cases e3:m<i∨a.length≤m+i
 ·rw[if_pos e3,if_pos (by omega)]
 rw[if_neg e3,if_neg (by omega)]
theorem qjW (a:List Spot){i m:Nat}(hm:m<a.length)(h1:¬m<i)(h2:m+i<a.length):(q4w a i)[m]?=some (pt a m):=by
 unfold q4w
 rw[List.getElem?_map,List.getElem?_range hm]
 simp only[Option.map_some]
 rw[if_neg (by omega)]
set_option maxHeartbeats 2000000 in
theorem rev71 (a:List Spot)(ha:a.length≤1000000)(b1 b2 b3:Blk)(p1:q1y (some b1)=true)(p2:q1y (some b2)=true)(p3:q1y (some b3)=true){h:q0e}{z:Frz}{K:D→q0e→Frz→Nat→Prop}
 (hold:Old4 b1 b2 b3 (.row (a.map Spot.enc) 2) h z)
 (hk:∀(h':q0e) (z':Frz),Old4 b1 b2 b3 (.row (a.reverse.map Spot.enc) 2) h' z'→K (.tup []) h' z' 85):
 wpM TT (shr TT 5) 71 [.code k_slices_Reverse_Spot_Spot.code] .normal (enter [.ref 4 0 a.length]) h z 71 (qdr k_slices_Reverse_Spot_Spot K):=by
 obtain⟨⟨h0,rfl⟩,z0,rfl⟩:=hold
 refine gg rfl ?_
 refine q2X (S:=fun x:Nat=>([.ref 4 0 a.length,q00 x,.int .i64 ((a.length:Int)-1-x)],[none,none,none],[0,0,0]))
  (O:=fun x ho zo=>Old4 b1 b2 b3 (.row ((q4w a x).map Spot.enc) 2) ho zo)
  (C:=fun x=>x≤a.length) (m:=fun x=>a.length-x) 0 (Nat.zero_le _) (by omega) ?_ ?_
 ·have w0:=ww (x:=(a.length:Int)-1)
  refine q24 rfl ⟨q05 q0r _,trivial⟩ ⟨by simp[q00,w0],?_⟩
  rw[qrq]
  exact Old4.old p1 p2 p3 (q8s q0r _ _) rfl rfl rfl rfl rfl rfl rfl rfl
 rintro k hk' ho zo hold N hN
 obtain⟨⟨h1,rfl⟩,z1,rfl⟩:=hold
 refine gg rfl (q01 rfl (fun e1=>?_) (fun e1=>?_))
 ·rw[q06]at e1
  have hlt:2*k+1<a.length:=by omega
  have ej:(a.length:Int)-1-k=((a.length-1-k:Nat):Int):=by omega
  have w1:=wS (n:=k)
  have w2:IntKind.i64.wrap (((a.length-1-k:Nat):Int)-1)=(a.length:Int)-1-((k+1:Nat):Int):=by rw[wrap64 (by omega) (by omega)];omega
  have hst:=qrr a hlt
  have l1:=qjW a (i:=k) (m:=a.length-1-k) (by omega) (by omega) (by omega)
  have l2:=qjW a (i:=k) (m:=k) (by omega) (by omega) (by omega)
  rw[ej]
  refine gg rfl (q0J (a.length-1-k) rfl rfl rfl rfl rfl (by omega) ?_)
  refine gg rfl (q2S (enc:=Spot.enc) (q4w a k) (a.length-1-k) (pt a (a.length-1-k)) rfl (Nat.zero_add _) (fun _=>rfl) rfl l1 (gg rfl (q0J k rfl rfl rfl rfl rfl (by omega) ?_)))
  refine gg rfl (q2S (enc:=Spot.enc) (q4w a k) k (pt a k) rfl (Nat.zero_add _) (fun _=>rfl) rfl l2 (gg rfl (q0J k rfl rfl rfl rfl rfl (by omega) ?_)))
  refine gg rfl (q2t (enc:=Spot.enc) (q4w a k) k (pt a (a.length-1-k)) rfl rfl (Nat.zero_add _) rfl (fun _=>rfl) rfl (Nat.zero_le _) (by rw[qbL];omega) ?_)
  refine gg rfl (q0J (a.length-1-k) rfl rfl rfl rfl rfl (by omega) ?_)
  refine gg rfl (q2t (enc:=Spot.enc) ((q4w a k).set k (pt a (a.length-1-k))) (a.length-1-k) (pt a k) rfl rfl (Nat.zero_add _) rfl (fun _=>rfl) rfl (Nat.zero_le _) (by rw[List.length_set,qbL];omega) ?_)
  rw[hst]
  refine gg rfl (q04 (hN (k+1) (by omega) (by omega) (q24 rfl ⟨q05 q0r _,trivial⟩ ⟨by simp[q00,w1,w2],?_⟩)))
  exact Old4.old p1 p2 p3 (q8s q0r _ _) rfl rfl rfl rfl rfl rfl rfl rfl
 rw[q07]at e1
 rw[qup a (by omega)]
 exact gg rfl (q04 (gg rfl (qds rfl rfl (hk _ _ (Old4.of rfl rfl rfl rfl rfl rfl rfl rfl)))))
theorem qwD {hp:q0e}{es:List D}{m:Nat}(hm:4≤m)(hd:es.all (dat 4)=true):es.mapM (q1b hp m)=some es:=by
 induction es with
 |nil=>rfl
 |cons x es ih=>
  simp only[List.all_cons,Bool.and_eq_true]at hd
  rw[List.mapM_cons,qrk 4 m x hd.1 hm,ih hd.2];rfl
theorem quq {h:q0e}{id n:Nat}{l:List Spot}{name:ByteArray}(hr:h id=some (.row (l.map Spot.enc) 2))(hn:n=l.length):q1b h 8 (.agg [.str name,.ref id 0 n])=some (Edge.enc ⟨name,l⟩):=by
 subst hn
 have e:q1b h 7 (.ref id 0 l.length)=some (q0k l):=by
  rw[q1b,hr]
  simp only
  rw[if_pos (by simp),List.drop_zero,List.take_of_length_le (by simp),qwD (by decide) (q0L q1u _)]
  rfl
 rw[q1b]
 simp only[List.mapM_cons,List.mapM_nil,e]
 rfl
theorem qrs {h:q0e}{id n:Nat}{l:List Spot}{name:ByteArray}(hr:h id=some (.row (l.map Spot.enc) 2)):q0T h depth (.agg [.str name,.ref id 0 n])=[id]:=by
 have e:q0T h 11 (.ref id 0 n)=[id]:=by
  rw[q0T,hr]
  simp only
  rw[q7N]
  rw[List.drop_zero,←List.map_take]
  exact q0L q1u _
 show q0T h 12 _=_
 rw[q0T]
 simp only[List.flatMap_cons,List.flatMap_nil,e]
 rfl
theorem qzz (t:Turn)(l:List Edge){k:Nat}(n:Nat):((List.range (k+1)).map fun i=>q25 t (eg l (q2e t n i))).map Edge.enc=((List.range k).map fun i=>q25 t (eg l (q2e t n i))).map Edge.enc++[(q25 t (eg l (q2e t n k))).enc]:=by
 rw[List.range_succ,List.map_append,List.map_append];rfl
set_option maxHeartbeats 8000000 in
theorem qjX (l:List Edge)(t:Turn)(hl:l.length≤1000)(hlen:∀e∈l,e.line.length≤1000):PU qkm [edges l,t.enc]=some (edges (q0P t l)):=by
 refine q0g (fn:=qb9) rfl (q0a ?_)
 refine gg rfl ?_
 rw[List.length_map]
 refine q0l (S:=fun k:Nat=>([edges l,.ptr 1 0 0,.ref 2 0 k,q00 l.length,q00 k],[none,some (.row [t.enc] 2),some (.row (((List.range k).map fun i=>q25 t (eg l (q2e t l.length i))).map Edge.enc) 2),none,none],[0,0,0,0,0])) (C:=fun k=>k≤l.length) (m:=fun k=>l.length-k) 0 (Nat.zero_le _) (by omega) ?_ ?_
 ·exact q03 rfl ⟨rfl,rfl,trivial⟩ (by simp[edges,q00,Turn.enc])
 intro k hk N hN
 refine gg rfl (q01 rfl (fun e1=>?_) (fun e1=>?_))
 ·rw[q06]at e1
  have hlt:k<l.length:=by omega
  have w1:=wS (n:=k)
  have hstep:=qzz t l (k:=k) l.length
  have hln:∀i,i<l.length→(eg l i).line.length≤1000:=fun i hi=>by rw[q3M hi];exact hlen _ (List.getElem_mem _)
  refine gg rfl (q0j k rfl rfl rfl (q1D hlt) rfl (gg rfl (q01 rfl (fun g=>?_) (fun g=>?_))))
  ·have g:t.flip=true:=g
   have hm:(l.length-k)%l.length<l.length:=Nat.mod_lt _ (by omega)
   have hx:q2e t l.length k=(l.length-k)%l.length:=by rw[q2e,if_pos g]
   have w2:IntKind.i64.wrap (((l.map Edge.enc).length:Int)-(k:Int))=((l.length-k:Nat):Int):=by rw[List.length_map,wrap64 (by omega) (by omega)];omega
   have hE:=hln _ hm
   rw[hx]at hstep
   refine gg rfl (q2K rfl rfl (by rw[List.length_map];omega) ?_)
   refine gg rfl (q0j ((l.length-k)%l.length) rfl rfl (by rw[w2,List.length_map,q1z]) (q1D hm) rfl ?_)
   have hle:(q25 t (eg l ((l.length-k)%l.length))).enc=.agg [.str (eg l ((l.length-k)%l.length)).name,q0k ((eg l ((l.length-k)%l.length)).line.map (q1a t)).reverse]:=by
    unfold q25 q5b;rw[if_pos g];rfl
   generalize eg l ((l.length-k)%l.length)=E at*
   refine gg rfl (q0l (S:=fun j:Nat=>([edges l,.ptr 1 0 0,.ref 2 0 k,.ptr 3 0 0,.ref 4 0 j,q00 l.length,q00 k,q0k (E).line,q00 (E).line.length,q00 j],[none,some (.row [t.enc] 2),some (.row (((List.range k).map fun i=>q25 t (eg l (q2e t l.length i))).map Edge.enc) 2),some (.row [(E).enc] 2),some (.row ((((E).line.take j).map (q1a t)).map Spot.enc) 2),none,none,none,none,none],[0,0,0,0,0,0,0,0,0,0])) (C:=fun j=>j≤(E).line.length) (m:=fun j=>(E).line.length-j) 0 (Nat.zero_le _) (by omega) ?_ ?_)
   ·exact q03 rfl ⟨rfl,q05 q3r _,rfl,rfl,trivial⟩ (by simp[edges,q0k,q00,Edge.enc,Turn.enc])
   intro j hj N2 hN2
   refine gg rfl (q01 rfl (fun f1=>?_) (fun f1=>?_))
   ·rw[q06]at f1
    have hjl:j<(E).line.length:=by omega
    have wj:=wS (n:=j)
    have hst:(((E).line.take (j+1)).map (q1a t)).map Spot.enc=(((E).line.take j).map (q1a t)).map Spot.enc++[(q1a t (pt (E).line j)).enc]:=by
     rw[List.take_succ_eq_append_getElem hjl,List.map_append,List.map_append,q0H hjl];rfl
    refine gg rfl (q0j j rfl rfl rfl (q0U hjl) rfl (gg rfl (q02 rfl rfl (q5E t (pt (E).line j)) (gg rfl (q1g rfl rfl rfl rfl rfl rfl (by simp;omega) (Nat.zero_le _) (by simp[q0N];omega) ?_)))))
    refine gg rfl (q04 (hN2 (j+1) hjl (by omega) (q03 rfl ⟨rfl,q05 q3r _,rfl,?_,trivial⟩ ?_)))
    ·rw[List.all_append,q05 q0r];rfl
    rw[hst];simp[edges,q0k,q00,Edge.enc,Turn.enc,wj,Spot.enc]
   rw[q07]at f1
   obtain rfl:j=(E).line.length:=by omega
   clear hN2
   rw[List.take_length]
   refine gg rfl (q04 (gg rfl (q01 rfl (fun _=>?_) (fun g2=>absurd g (by have g2:t.flip=false:=g2;rw[g2];decide)))))
   refine gg rfl ?_
   have er:E.line.length=(E.line.map (q1a t)).length:=by simp
   rw[er]
   refine q6y rfl rfl (rev71 (E.line.map (q1a t)) (by simp;omega) _ _ _ rfl (q8s q3r _ _) rfl (Old4.of rfl rfl rfl rfl rfl rfl rfl rfl) fun h' z' hold=>?_)
   obtain⟨⟨h0,rfl⟩,z0,rfl⟩:=hold
   refine gg rfl (q1g rfl rfl rfl rfl rfl rfl (by simp) (Nat.zero_le _) (by simp[q0N];omega) ?_)
   refine gg rfl (q04 (hN (k+1) hlt (by omega) (qjT [none,some (((List.range (k+1)).map fun i=>q25 t (eg l (q2e t l.length i))).map Edge.enc,[4])] rfl ⟨rfl,?_,trivial⟩ ?_)))
   ·rw[hstep]
    refine qrl (q0L q6j _) (q05 q3r _) rfl ?_ (qrs (l:=(E.line.map (q1a t)).reverse) rfl) rfl
    rw[quq (l:=(E.line.map (q1a t)).reverse) rfl (by simp),hle];rfl
   simp[edges,q00,w1,Turn.enc]
  have g:t.flip=false:=g
  have hx:q2e t l.length k=k:=by rw[q2e,if_neg (by rw[g];decide)]
  have hE:=hln k hlt
  rw[hx]at hstep
  have hle:(q25 t (eg l k)).enc=.agg [.str (eg l k).name,q0k ((eg l k).line.map (q1a t))]:=by
   unfold q25 q5b;rw[if_neg (by rw[g];decide)];rfl
  generalize eg l k=E at*
  refine gg rfl (q0l (S:=fun j:Nat=>([edges l,.ptr 1 0 0,.ref 2 0 k,.ptr 3 0 0,.ref 4 0 j,q00 l.length,q00 k,q0k (E).line,q00 (E).line.length,q00 j],[none,some (.row [t.enc] 2),some (.row (((List.range k).map fun i=>q25 t (eg l (q2e t l.length i))).map Edge.enc) 2),some (.row [(E).enc] 2),some (.row ((((E).line.take j).map (q1a t)).map Spot.enc) 2),none,none,none,none,none],[0,0,0,0,0,0,0,0,0,0])) (C:=fun j=>j≤(E).line.length) (m:=fun j=>(E).line.length-j) 0 (Nat.zero_le _) (by omega) ?_ ?_)
  ·exact q03 rfl ⟨rfl,q05 q3r _,rfl,rfl,trivial⟩ (by simp[edges,q0k,q00,Edge.enc,Turn.enc])
  intro j hj N2 hN2
  refine gg rfl (q01 rfl (fun f1=>?_) (fun f1=>?_))
  ·rw[q06]at f1
   have hjl:j<(E).line.length:=by omega
   have wj:=wS (n:=j)
   have hst:(((E).line.take (j+1)).map (q1a t)).map Spot.enc=(((E).line.take j).map (q1a t)).map Spot.enc++[(q1a t (pt (E).line j)).enc]:=by
    rw[List.take_succ_eq_append_getElem hjl,List.map_append,List.map_append,q0H hjl];rfl
   refine gg rfl (q0j j rfl rfl rfl (q0U hjl) rfl (gg rfl (q02 rfl rfl (q5E t (pt (E).line j)) (gg rfl (q1g rfl rfl rfl rfl rfl rfl (by simp;omega) (Nat.zero_le _) (by simp[q0N];omega) ?_)))))
   refine gg rfl (q04 (hN2 (j+1) hjl (by omega) (q03 rfl ⟨rfl,q05 q3r _,rfl,?_,trivial⟩ ?_)))
   ·rw[List.all_append,q05 q0r];rfl
   rw[hst];simp[edges,q0k,q00,Edge.enc,Turn.enc,wj,Spot.enc]
  rw[q07]at f1
  obtain rfl:j=(E).line.length:=by omega
  clear hN2
  rw[List.take_length]
  refine gg rfl (q04 (gg rfl (q01 rfl (fun g2=>absurd g (by have g2:t.flip=true:=g2;rw[g2];decide)) (fun _=>?_))))
  refine gg rfl (q1g rfl rfl rfl rfl rfl rfl (by simp) (Nat.zero_le _) (by simp[q0N];omega) ?_)
  refine gg rfl (q04 (hN (k+1) hlt (by omega) (qjT [none,some (((List.range (k+1)).map fun i=>q25 t (eg l (q2e t l.length i))).map Edge.enc,[4])] rfl ⟨rfl,?_,trivial⟩ ?_)))
  ·rw[hstep]
   refine qrl (q0L q6j _) (q05 q3r _) rfl ?_ (qrs (l:=E.line.map (q1a t)) rfl) rfl
   rw[quq (l:=E.line.map (q1a t)) rfl (by simp),hle];rfl
  simp[edges,q00,w1,Turn.enc]
 rw[q07]at e1
 obtain rfl:k=l.length:=by omega
 refine gg rfl (q04 (gg rfl (q09 rfl rfl rfl ⟨q1n (by simp) (q0L q6j _),trivial⟩ ?_)))
 rw[q1o (by simp)];rfl
end Go.F

namespace Go.F
attribute [local irreducible] IntKind.wrap wpM
end Go.F

namespace Go.F
section
variable {T:Tab}{sh:Shr}{nx0:Nat}{s:List Fr}{t:q0z}{h:q0e}{z:Frz}{nx:Nat}{q:Ex→q0z→q0e→Frz→Nat→Prop}
variable {base i:Nat}{res:List Nat}{g:Gd}{rest:List KOper}
end
end Go.F

namespace Go.F
attribute [local irreducible] IntKind.wrap wpM
end Go.F

namespace Go.F
attribute [local irreducible] IntKind.wrap wpM
end Go.F

namespace Go.F
attribute [local irreducible] IntKind.wrap wpM
end Go.F

namespace Go.F
attribute [local irreducible] IntKind.wrap wpM
end Go.F

namespace Go.F
attribute [local irreducible] IntKind.wrap wpM
structure RSeg where
 a:Spot
 b:Spot
 w:Int
 s:Spot
def RSeg.enc (g:RSeg):D:=.agg [.int .i64 g.a.x,.int .i64 g.a.y,.int .i64 g.b.x,.int .i64 g.b.y,.int .i64 g.w,.int .i64 g.s.x,.int .i64 g.s.y]
end Go.F

namespace Go.F
attribute [local irreducible] IntKind.wrap wpM
end Go.F

namespace Go.F
attribute [local irreducible] IntKind.wrap wpM
class RSegOk (g:RSeg):Prop where
 a:OkS g.a
 b:OkS g.b
 s:g.s.x.natAbs≤4294967296∧g.s.y.natAbs≤4294967296
 w0:0≤g.w
 w1:g.w≤500
end Go.F

namespace Go.F
attribute [local irreducible] IntKind.wrap wpM
def rp0:RP:=⟨⟨false,[],[]⟩,⟨false,[],[]⟩⟩
def rp (c:List RP)(i:Nat):RP:=c.getD i rp0
def pts (c:List RP):D:=.lst (c.map RP.enc)
def RB (k:Nat)(c:List RP):Prop:=∀p∈c,SzP p k
theorem qph {c:List RP}{i:Nat}(h:i<c.length):rp c i=c[i]:=by simp[rp,h]
theorem RB.at {k:Nat}{c:List RP}(h:RB k c){i:Nat}(hi:i<c.length):SzP (rp c i) k:=by
 rw[qph hi];exact h _ (List.getElem_mem _)
section
variable {t:q0z}{h:q0e}{z:Frz}{nx:Nat}
end
end Go.F

namespace Go.F
attribute [local irreducible] IntKind.wrap wpM
end Go.F

namespace Go.F
attribute [local irreducible] IntKind.wrap wpM
def q0y:List Spot→List Spot
 |[]=>[]
 |[a]=>[a]
 |a::b::l=>if a=b then q0y (b::l)else a::q0y (b::l)
theorem qhJ (l:List Spot)(x y:Spot):q0y (l++[x,y])=q0y (l++[x])++if x=y then []else [y]:=by
 induction l with
 |nil=>
  simp only[List.nil_append,q0y]
  by_cases h:x=y
  ·simp[h]
  simp[h]
 |cons a l ih=>
  cases l with
  |nil=>
   by_cases g1:a=x<;>by_cases g2:x=y<;>simp[q0y,g1,g2]
  |cons b l=>
   simp only[List.cons_append]at ih⊢
   rw[q0y,ih,q0y]
   split<;>simp
theorem quC (a:List Spot){j:Nat}(h1:1≤j)(h2:j<a.length):q0y (a.take (j+1))=q0y (a.take j)++if pt a (j-1)=pt a j then []else [pt a j]:=by
 obtain⟨m,rfl⟩:∃m,j=m+1:=⟨j-1,by omega⟩
 have e1:a.take (m+1+1)=a.take m++[pt a m,pt a (m+1)]:=by
  rw[List.take_succ_eq_append_getElem h2,List.take_succ_eq_append_getElem (by omega),q0H h2,q0H (by omega:m<a.length),List.append_assoc]
  rfl
 have e2:a.take (m+1)=a.take m++[pt a m]:=by
  rw[List.take_succ_eq_append_getElem (by omega),q0H (by omega:m<a.length)]
 rw[e1,e2,qhJ]
 rfl
def Old1 (b:Blk)(h:q0e)(z:Frz):Prop:=(∃h0:q0e,h=upd h0 0 (some b))∧∃z0:Frz,z=upd z0 0 0
theorem Old1.of {b:Blk}{h:q0e}{z:Frz}(h1:h 0=some b)(z1:z 0=0):Old1 b h z:=
 ⟨⟨h,by rw[q2J (f:=h) h1]⟩,z,by rw[q2J (f:=z) z1]⟩
theorem Old1.old {nx0:Nat}{b:Blk}{h:q0e}{z:Frz}(p1:q1y (some b)=true)(h1:h 0=some b)(z1:z 0=0):Old1 b (q1h nx0 h) z:=
 Old1.of (q3p h1 p1) z1
section
variable {T:Tab}{sh:Shr}{nx0:Nat}{s:List Fr}{t:q0z}{h:q0e}{z:Frz}{nx:Nat}{q:Ex→q0z→q0e→Frz→Nat→Prop}
variable {base i:Nat}{res:List Nat}{g:Gd}{rest:List KOper}
end
end Go.F

namespace Go.F
attribute [local irreducible] IntKind.wrap wpM
structure Crvd where
 name:ByteArray
 ctl:List ByteArray
 seg:Int
def Crvd.enc (c:Crvd):D:=.agg [.str c.name,.lst (c.ctl.map .str),.int .i64 c.seg]
def q6f (m:List (ByteArray×RP))(s:ByteArray):Option RP:=(m.find? fun p=>s==p.1).map (·.2)
end Go.F

namespace Go.F
attribute [local irreducible] IntKind.wrap wpM
section
variable {T:Tab}{sh:Shr}{nx0:Nat}{s:List Fr}{t:q0z}{h:q0e}{z:Frz}{nx:Nat}{q:Ex→q0z→q0e→Frz→Nat→Prop}
variable {base i:Nat}{res:List Nat}{g:Gd}{rest:List KOper}
end
structure Nmd where
 name:ByteArray
 at_:RP
def Nmd.enc (n:Nmd):D:=.agg [.str n.name,.bool n.at_.x.neg,nat n.at_.x.mag,nat n.at_.x.den,.bool n.at_.y.neg,nat n.at_.y.mag,nat n.at_.y.den]
def qum (m:List (ByteArray×RP))(n:Nmd):List (ByteArray×RP):=if(q6f m n.name).isSome then m else m++[(n.name,n.at_)]
def places (p:List Nmd):List (ByteArray×RP):=p.foldl qum []
def cv (l:List Crvd)(i:Nat):Crvd:=l.getD i ⟨⟨#[]⟩,[],0⟩
def lastC (c:Crvd):ByteArray:=c.ctl.getD (c.ctl.length-1) ⟨#[]⟩
def headC (c:Crvd):ByteArray:=c.ctl.getD 0 ⟨#[]⟩
def linked (l:List Crvd)(i:Nat):Prop:=(lastC (cv l i)).toList=(headC (cv l ((i+1)%l.length))).toList
instance (l:List Crvd)(i:Nat):Decidable (linked l i):=inferInstanceAs (Decidable (_=_))
end Go.F

namespace Go.F
attribute [local irreducible] IntKind.wrap wpM
theorem qag {x S:Nat}(hY:x/2^S<256)(h0:S≠0→x/2^S≠0):S+(q2H (x/2^S)).toNat=bl x:=by
 obtain⟨_,g2,g3,g4⟩:=q2u (x/2^S) hY
 have hx:x<(x/2^S+1) *2^S:=by
  have:=Nat.div_add_mod x (2^S)
  have h2:=Nat.mod_lt x (Nat.pow_pos (n:=S) (show 0<2 by decide))
  rw[Nat.add_mul,Nat.mul_comm (x/2^S)];omega
 by_cases hy0:x/2^S=0
 ·have hS:S=0:=by
   rcases Nat.eq_zero_or_pos S with h|h
   ·exact h
   exact absurd hy0 (h0 (by omega))
  subst hS
  rw[Nat.pow_zero,Nat.div_one]at hy0
  subst hy0
  decide+kernel
 have hd:x/2^S*2^S≤x:=Nat.div_mul_le_self _ _
 have g4:=g4 hy0
 generalize (q2H (x/2^S)).toNat=e at*
 generalize x/2^S=Y at*
 have h1:x<2^(S+e):=by
  rw[Nat.pow_add]
  calc x<(Y+1) *2^S:=hx
   _≤2^e*2^S:=Nat.mul_le_mul_right _ g3
   _=2^S*2^e:=Nat.mul_comm _ _
 have h2:2^(S+e)≤2*x:=by
  rw[Nat.pow_add]
  calc 2^S*2^e≤2^S*(2*Y):=Nat.mul_le_mul_left _ g4
   _=2*(Y*2^S):=by ac_rfl
   _≤2*x:=Nat.mul_le_mul_left _ hd
 have hx0:x≠0:=by rintro rfl;have:=Nat.pow_pos (n:=S+e) (show 0<2 by decide);omega
 unfold bl
 rw[if_neg hx0]
 have a1:=(Nat.log2_lt hx0).2 h1
 have a2:S+e-1≤x.log2:=by
  rcases Nat.eq_zero_or_pos (S+e)with h|h
  ·omega
  refine(Nat.le_log2 hx0).2 ?_
  have:2^(S+e)=2*2^(S+e-1):=by rw[←Nat.pow_succ'];congr 1;omega
  omega
 omega
set_option maxHeartbeats 4000000 in
theorem qyN (x:Nat)(hx:x<18446744073709551616):PU qvr [.int .u64 x]=some (.int .i64 (bl x)):=by
 refine q0g (fn:=qiq) rfl (q0a ?_)
 refine gg rfl (q01 rfl (fun g1=>?_) (fun g1=>?_))
 ·rw[q0G]at g1
  refine gg rfl (q1d x 32 rfl rfl rfl rfl (by decide) ?_)
  refine gg rfl (q01 rfl (fun g2=>?_) (fun g2=>?_))
  ·rw[q0G]at g2
   refine gg rfl (q1d ((x/2^32)) 16 rfl rfl rfl rfl (by decide) ?_)
   refine gg rfl (q01 rfl (fun g3=>?_) (fun g3=>?_))
   ·rw[q0G]at g3
    refine gg rfl (q1d (((x/2^32)/2^16)) 8 rfl rfl rfl rfl (by decide) ?_)
    have eY:(((x/2^32)/2^16)/2^8)=x/2^56:=by simp only[Nat.div_div_eq_div_mul];try rfl
    have hy:x/2^56<256:=by rw[←eY];omega
    have hfin:=qag (x:=x) (S:=56) hy (fun h=>by rw[←eY];omega)
    rw[eY]
    obtain⟨_,g2,g3,g4⟩:=q2u (x/2^56) hy
    have w8:IntKind.u8.wrap ((x/2^56:Nat):Int)=((x/2^56:Nat):Int):=by simp only[IntKind.wrap,IntKind.bits,IntKind.signed];simp;omega
    have w9:=ww (x:=(((q2H (x/2^56)).toNat:Nat):Int))
    refine gg rfl (q2q (x/2^56) rfl rfl w8 (q5M hy) (gg rfl (q09 rfl rfl rfl trivial ?_)))
    rw[w9,←hfin]
    congr 1
    try simp only[wrap64 (x:=32+16) (by decide) (by decide),wrap64 (x:=32+8) (by decide) (by decide),wrap64 (x:=48+8) (by decide) (by decide),wrap64 (x:=0+16) (by decide) (by decide),wrap64 (x:=0+8) (by decide) (by decide),wrap64 (x:=16+8) (by decide) (by decide),wrap64 (x:=32+16+8) (by decide) (by decide),wrap64 (x:=0+16+8) (by decide) (by decide)]
    rw[wrap64 (by omega) (by omega)]
    omega
   rw[q0I]at g3
   have eY:(((x/2^32)/2^16))=x/2^48:=by simp only[Nat.div_div_eq_div_mul];try rfl
   have hy:x/2^48<256:=by rw[←eY];omega
   have hfin:=qag (x:=x) (S:=48) hy (fun h=>by rw[←eY];omega)
   rw[eY]
   obtain⟨_,g2,g3,g4⟩:=q2u (x/2^48) hy
   have w8:IntKind.u8.wrap ((x/2^48:Nat):Int)=((x/2^48:Nat):Int):=by simp only[IntKind.wrap,IntKind.bits,IntKind.signed];simp;omega
   have w9:=ww (x:=(((q2H (x/2^48)).toNat:Nat):Int))
   refine gg rfl (q2q (x/2^48) rfl rfl w8 (q5M hy) (gg rfl (q09 rfl rfl rfl trivial ?_)))
   rw[w9,←hfin]
   congr 1
   try simp only[wrap64 (x:=32+16) (by decide) (by decide),wrap64 (x:=32+8) (by decide) (by decide),wrap64 (x:=48+8) (by decide) (by decide),wrap64 (x:=0+16) (by decide) (by decide),wrap64 (x:=0+8) (by decide) (by decide),wrap64 (x:=16+8) (by decide) (by decide),wrap64 (x:=32+16+8) (by decide) (by decide),wrap64 (x:=0+16+8) (by decide) (by decide)]
   rw[wrap64 (by omega) (by omega)]
   omega
  rw[q0I]at g2
  refine gg rfl (q01 rfl (fun g3=>?_) (fun g3=>?_))
  ·rw[q0G]at g3
   refine gg rfl (q1d (((x/2^32))) 8 rfl rfl rfl rfl (by decide) ?_)
   have eY:(((x/2^32))/2^8)=x/2^40:=by simp only[Nat.div_div_eq_div_mul];try rfl
   have hy:x/2^40<256:=by rw[←eY];omega
   have hfin:=qag (x:=x) (S:=40) hy (fun h=>by rw[←eY];omega)
   rw[eY]
   obtain⟨_,g2,g3,g4⟩:=q2u (x/2^40) hy
   have w8:IntKind.u8.wrap ((x/2^40:Nat):Int)=((x/2^40:Nat):Int):=by simp only[IntKind.wrap,IntKind.bits,IntKind.signed];simp;omega
   have w9:=ww (x:=(((q2H (x/2^40)).toNat:Nat):Int))
   refine gg rfl (q2q (x/2^40) rfl rfl w8 (q5M hy) (gg rfl (q09 rfl rfl rfl trivial ?_)))
   rw[w9,←hfin]
   congr 1
   try simp only[wrap64 (x:=32+16) (by decide) (by decide),wrap64 (x:=32+8) (by decide) (by decide),wrap64 (x:=48+8) (by decide) (by decide),wrap64 (x:=0+16) (by decide) (by decide),wrap64 (x:=0+8) (by decide) (by decide),wrap64 (x:=16+8) (by decide) (by decide),wrap64 (x:=32+16+8) (by decide) (by decide),wrap64 (x:=0+16+8) (by decide) (by decide)]
   rw[wrap64 (by omega) (by omega)]
   omega
  rw[q0I]at g3
  have eY:(((x/2^32)))=x/2^32:=by simp only[Nat.div_div_eq_div_mul];try rfl
  have hy:x/2^32<256:=by rw[←eY];omega
  have hfin:=qag (x:=x) (S:=32) hy (fun h=>by rw[←eY];omega)
  rw[eY]
  obtain⟨_,g2,g3,g4⟩:=q2u (x/2^32) hy
  have w8:IntKind.u8.wrap ((x/2^32:Nat):Int)=((x/2^32:Nat):Int):=by simp only[IntKind.wrap,IntKind.bits,IntKind.signed];simp;omega
  have w9:=ww (x:=(((q2H (x/2^32)).toNat:Nat):Int))
  refine gg rfl (q2q (x/2^32) rfl rfl w8 (q5M hy) (gg rfl (q09 rfl rfl rfl trivial ?_)))
  rw[w9,←hfin]
  congr 1
  try simp only[wrap64 (x:=32+16) (by decide) (by decide),wrap64 (x:=32+8) (by decide) (by decide),wrap64 (x:=48+8) (by decide) (by decide),wrap64 (x:=0+16) (by decide) (by decide),wrap64 (x:=0+8) (by decide) (by decide),wrap64 (x:=16+8) (by decide) (by decide),wrap64 (x:=32+16+8) (by decide) (by decide),wrap64 (x:=0+16+8) (by decide) (by decide)]
  rw[wrap64 (by omega) (by omega)]
  omega
 rw[q0I]at g1
 refine gg rfl (q01 rfl (fun g2=>?_) (fun g2=>?_))
 ·rw[q0G]at g2
  refine gg rfl (q1d (x) 16 rfl rfl rfl rfl (by decide) ?_)
  refine gg rfl (q01 rfl (fun g3=>?_) (fun g3=>?_))
  ·rw[q0G]at g3
   refine gg rfl (q1d ((x/2^16)) 8 rfl rfl rfl rfl (by decide) ?_)
   have eY:((x/2^16)/2^8)=x/2^24:=by simp only[Nat.div_div_eq_div_mul];try rfl
   have hy:x/2^24<256:=by rw[←eY];omega
   have hfin:=qag (x:=x) (S:=24) hy (fun h=>by rw[←eY];omega)
   rw[eY]
   obtain⟨_,g2,g3,g4⟩:=q2u (x/2^24) hy
   have w8:IntKind.u8.wrap ((x/2^24:Nat):Int)=((x/2^24:Nat):Int):=by simp only[IntKind.wrap,IntKind.bits,IntKind.signed];simp;omega
   have w9:=ww (x:=(((q2H (x/2^24)).toNat:Nat):Int))
   refine gg rfl (q2q (x/2^24) rfl rfl w8 (q5M hy) (gg rfl (q09 rfl rfl rfl trivial ?_)))
   rw[w9,←hfin]
   congr 1
   try simp only[wrap64 (x:=32+16) (by decide) (by decide),wrap64 (x:=32+8) (by decide) (by decide),wrap64 (x:=48+8) (by decide) (by decide),wrap64 (x:=0+16) (by decide) (by decide),wrap64 (x:=0+8) (by decide) (by decide),wrap64 (x:=16+8) (by decide) (by decide),wrap64 (x:=32+16+8) (by decide) (by decide),wrap64 (x:=0+16+8) (by decide) (by decide)]
   rw[wrap64 (by omega) (by omega)]
   omega
  rw[q0I]at g3
  have eY:((x/2^16))=x/2^16:=by simp only[Nat.div_div_eq_div_mul];try rfl
  have hy:x/2^16<256:=by rw[←eY];omega
  have hfin:=qag (x:=x) (S:=16) hy (fun h=>by rw[←eY];omega)
  rw[eY]
  obtain⟨_,g2,g3,g4⟩:=q2u (x/2^16) hy
  have w8:IntKind.u8.wrap ((x/2^16:Nat):Int)=((x/2^16:Nat):Int):=by simp only[IntKind.wrap,IntKind.bits,IntKind.signed];simp;omega
  have w9:=ww (x:=(((q2H (x/2^16)).toNat:Nat):Int))
  refine gg rfl (q2q (x/2^16) rfl rfl w8 (q5M hy) (gg rfl (q09 rfl rfl rfl trivial ?_)))
  rw[w9,←hfin]
  congr 1
  try simp only[wrap64 (x:=32+16) (by decide) (by decide),wrap64 (x:=32+8) (by decide) (by decide),wrap64 (x:=48+8) (by decide) (by decide),wrap64 (x:=0+16) (by decide) (by decide),wrap64 (x:=0+8) (by decide) (by decide),wrap64 (x:=16+8) (by decide) (by decide),wrap64 (x:=32+16+8) (by decide) (by decide),wrap64 (x:=0+16+8) (by decide) (by decide)]
  rw[wrap64 (by omega) (by omega)]
  omega
 rw[q0I]at g2
 refine gg rfl (q01 rfl (fun g3=>?_) (fun g3=>?_))
 ·rw[q0G]at g3
  refine gg rfl (q1d ((x)) 8 rfl rfl rfl rfl (by decide) ?_)
  have eY:((x)/2^8)=x/2^8:=by simp only[Nat.div_div_eq_div_mul];try rfl
  have hy:x/2^8<256:=by rw[←eY];omega
  have hfin:=qag (x:=x) (S:=8) hy (fun h=>by rw[←eY];omega)
  rw[eY]
  obtain⟨_,g2,g3,g4⟩:=q2u (x/2^8) hy
  have w8:IntKind.u8.wrap ((x/2^8:Nat):Int)=((x/2^8:Nat):Int):=by simp only[IntKind.wrap,IntKind.bits,IntKind.signed];simp;omega
  have w9:=ww (x:=(((q2H (x/2^8)).toNat:Nat):Int))
  refine gg rfl (q2q (x/2^8) rfl rfl w8 (q5M hy) (gg rfl (q09 rfl rfl rfl trivial ?_)))
  rw[w9,←hfin]
  congr 1
  try simp only[wrap64 (x:=32+16) (by decide) (by decide),wrap64 (x:=32+8) (by decide) (by decide),wrap64 (x:=48+8) (by decide) (by decide),wrap64 (x:=0+16) (by decide) (by decide),wrap64 (x:=0+8) (by decide) (by decide),wrap64 (x:=16+8) (by decide) (by decide),wrap64 (x:=32+16+8) (by decide) (by decide),wrap64 (x:=0+16+8) (by decide) (by decide)]
  rw[wrap64 (by omega) (by omega)]
  omega
 rw[q0I]at g3
 have hy:x<256:=by omega
 have hfin:=qag (x:=x) (S:=0) (by simpa using hy) (fun h=>absurd rfl h)
 rw[Nat.pow_zero,Nat.div_one,Nat.zero_add]at hfin
 obtain⟨_,g2,g3,g4⟩:=q2u x hy
 have w8:IntKind.u8.wrap (x:Int)=(x:Int):=by simp only[IntKind.wrap,IntKind.bits,IntKind.signed];simp;omega
 have w9:=ww (x:=(((q2H x).toNat:Nat):Int))
 refine gg rfl (q2q x rfl rfl w8 (q5M hy) (gg rfl (q09 rfl rfl rfl trivial ?_)))
 rw[w9,←hfin,wrap64 (by omega) (by omega)]
 congr 1
 omega
theorem qyO (x:Nat)(hx:x<18446744073709551616):PU qAO [.int .u64 x]=some (.int .i64 (bl x)):=by
 refine q0g (fn:=qoy) rfl (q0a ?_)
 exact gg rfl (q0i rfl (gg rfl (q02 rfl rfl (qyN x hx) (gg rfl (q09 rfl rfl rfl trivial rfl)))))
def qqS (n:Nat):Nat:=qni n 32 0
theorem qkI {n:Nat}(h:n<2^64):qqS n*qqS n≤n∧n<(qqS n+1) *(qqS n+1):=
 qsO n 32 0 (Nat.zero_le _) (by simp;omega)
theorem qyP {n r:Nat}(h:n<2^64)(h1:r*r≤n)(h2:n<(r+1) *(r+1)):r=qqS n:=by
 obtain⟨g1,g2⟩:=qkI h
 have:=qhH (Nat.lt_of_le_of_lt h1 g2)
 have:=qhH (Nat.lt_of_le_of_lt g1 h2)
 omega
theorem newton {n x:Nat}(hx:0<x):n<((x+n/x)/2+1) *((x+n/x)/2+1):=by
 have h1:n<x*(n/x+1):=by
  have:=Nat.div_add_mod n x
  have h2:=Nat.mod_lt n hx
  rw[Nat.mul_add];omega
 generalize n/x=q at*
 have h2:x+(q+1)≤2*((x+q)/2+1):=by omega
 generalize (x+q)/2+1=s at*
 have h3:4*(x*(q+1))≤(x+(q+1)) *(x+(q+1)):=by
  generalize q+1=r
  rcases Nat.le_total x r with h|h
  ·obtain⟨d,rfl⟩:∃d,r=x+d:=⟨r-x,by omega⟩
   have:(x+(x+d)) *(x+(x+d))=4*(x*(x+d))+d*d:=by grind
   omega
  obtain⟨d,rfl⟩:∃d,x=r+d:=⟨x-r,by omega⟩
  have:(r+d+r) *(r+d+r)=4*((r+d) *r)+d*d:=by grind
  omega
 have h4:(x+(q+1)) *(x+(q+1))≤(2*s) *(2*s):=Nat.mul_le_mul h2 h2
 have h5:(2*s) *(2*s)=4*(s*s):=by grind
 omega
theorem qkJ (n:Nat)(hn:n<9223372036854775808):PU qnz [.int .i64 n]=some (.int .i64 (qqS n)):=by
 refine q0g (fn:=qcQ) rfl (q0a ?_)
 refine gg rfl (q01 rfl (fun h1=>?_) (fun h1=>?_))
 ·rw[q06]at h1
  refine gg rfl (q09 rfl rfl rfl trivial ?_)
  have:n=0∨n=1:=by omega
  rcases this with rfl|rfl<;>rfl
 rw[q07]at h1
 have wu:IntKind.u64.wrap (n:Int)=(n:Int):=q0F (by omega)
 have hbl:bl n≤63:=by
  unfold bl
  rw[if_neg (by omega)]
  have:=(Nat.log2_lt (n:=n) (k:=63) (by omega)).2 (by omega)
  omega
 have hblt:n<2^bl n:=by
  unfold bl
  rw[if_neg (by omega)]
  exact(Nat.log2_lt (by omega)).1 (Nat.lt_succ_self _)
 have w1:IntKind.i64.wrap ((bl n:Int)+1)=((bl n+1:Nat):Int):=ww
 refine gg rfl ?_
 rw[wu]
 refine q02 rfl rfl (qyO n (by omega)) ?_
 refine gg rfl ?_
 rw[w1]
 refine q3e (bl n+1) 2 rfl rfl rfl rfl (by decide) (wrap64 (by omega) (by omega)) ?_
 refine gg rfl ?_
 have hk:(bl n+1)/2≤32:=by omega
 have hp:2^((bl n+1)/2)≤4294967296:=by
  have:=Nat.pow_le_pow_right (show 0<2 by decide) hk
  omega
 have hp0:0<2^((bl n+1)/2):=Nat.pow_pos (by decide)
 have hsq:n<(2^((bl n+1)/2)+1) *(2^((bl n+1)/2)+1):=by
  have e:2^bl n≤2^((bl n+1)/2) *2^((bl n+1)/2):=by rw[←Nat.pow_add];exact Nat.pow_le_pow_right (by decide) (by omega)
  have e2:2^((bl n+1)/2) *2^((bl n+1)/2)≤(2^((bl n+1)/2)+1) *(2^((bl n+1)/2)+1):=Nat.mul_le_mul (by omega) (by omega)
  omega
 generalize hX:2^((bl n+1)/2)=X at*
 refine q7a 1 ((bl n+1)/2) rfl rfl rfl rfl (by show(bl n+1)/2≤64;omega) (by rw[hX,Nat.one_mul];exact wrap64 (by omega) (by omega)) ?_
 rw[hX,Nat.one_mul]
 refine gg rfl (q0l (S:=fun x:Nat=>([q00 n,q00 x],[none,none],[0,0])) (C:=fun x=>0<x∧x≤4294967296∧n<(x+1) *(x+1)) (m:=fun x=>x) X ⟨hp0,hp,hsq⟩ (by omega) ?_ ?_)
 ·exact q03 rfl trivial (by simp[q00])
 rintro x ⟨hx0,hx1,hx2⟩ N hN
 have hq:n/x≤n:=Nat.div_le_self _ _
 have w2:IntKind.i64.wrap ((x:Int)+((n/x:Nat):Int))=((x+n/x:Nat):Int):=by rw[←Int.natCast_add];exact qdA (by
  have h2:n/x*x≤n:=Nat.div_mul_le_self _ _
  rcases Nat.lt_or_ge x 2 with h|h
  ·obtain rfl:x=1:=by omega
   simp at hx2;omega
  have:n/x*2≤n/x*x:=Nat.mul_le_mul_left _ h
  omega)
 have hne:=newton (n:=n) hx0
 refine gg rfl (q3e n x rfl rfl rfl rfl (by omega) (qdA (by omega)) ?_)
 refine gg rfl ?_
 rw[w2]
 refine q3e (x+n/x) 2 rfl rfl rfl rfl (by decide) (qdA (by omega)) ?_
 refine gg rfl (q01 rfl (fun g=>?_) (fun g=>?_))
 ·rw[q0G]at g
  have g':x≤(x+n/x)/2:=by omega
  have hxx:x*x≤n:=by
   have:x≤n/x:=by omega
   have h2:=Nat.div_mul_le_self n x
   have h3:=Nat.mul_le_mul_right x this
   omega
  refine gg rfl (q04 (gg rfl (q09 rfl rfl rfl trivial ?_)))
  rw[qyP (n:=n) (r:=x) (by omega) hxx hx2]
 rw[q0I]at g
 have g':(x+n/x)/2<x:=by omega
 have hy0:0<(x+n/x)/2:=by
  rcases Nat.lt_or_ge x 2 with h|h
  ·obtain rfl:x=1:=by omega
   rw[Nat.div_one]at g'⊢;omega
  clear hq w2 hne g g'
  generalize n/x=q
  omega
 exact gg rfl (q04 (hN ((x+n/x)/2) ⟨hy0,by omega,hne⟩ g' (q03 rfl trivial (by simp[q00]))))
theorem qvW {a b:Spot}(ha:q0x a 1048576=true)(hb:q0x b 1048576=true):sqd a b≤8796093022208:=by
 rw[q1L]at ha hb
 have e:=q6O a b
 have b1:Bd (b.x-a.x) 2097152:=⟨by omega⟩
 have b2:Bd (b.y-a.y) 2097152:=⟨by omega⟩
 have hb:Bd ((b.x-a.x) *(b.x-a.x)+(b.y-a.y) *(b.y-a.y)) _:=inferInstance
 have:=hb.le
 omega
def qfY (a b:Spot):Nat:=qqS (1000000*sqd a b)
theorem qvX {a b:Spot}(ha:q0x a 1048576=true)(hb:q0x b 1048576=true):qfY a b≤4294967296:=by
 have h:=qvW ha hb
 obtain⟨h1,_⟩:=qkI (n:=1000000*sqd a b) (by omega)
 unfold qfY
 have:qqS (1000000*sqd a b)<4294967296:=qhH (by omega)
 omega
theorem qfZ (a b:Spot)(ha:q0x a 1048576=true)(hb:q0x b 1048576=true):PU qhu [a.enc,b.enc]=some (.int .i64 (qfY a b)):=by
 refine q0g (fn:=q94) rfl (q0a ?_)
 have h:=qvW ha hb
 have hse:=q6O a b
 rw[q1L]at ha hb
 have bx:Bd (b.x-a.x) 2097152:=⟨by omega⟩
 have by':Bd (b.y-a.y) 2097152:=⟨by omega⟩
 have c1:IntKind.i64.wrap (b.x-a.x)=b.x-a.x:=q0Z (by decide)
 have c2:IntKind.i64.wrap (b.y-a.y)=b.y-a.y:=q0Z (by decide)
 refine gg rfl ?_
 rw[c1,c2]
 have c4:IntKind.i64.wrap ((b.x-a.x) *(b.x-a.x))=(b.x-a.x) *(b.x-a.x):=q0Z (by decide)
 have c5:IntKind.i64.wrap ((b.y-a.y) *(b.y-a.y))=(b.y-a.y) *(b.y-a.y):=q0Z (by decide)
 have c6:IntKind.i64.wrap ((b.x-a.x) *(b.x-a.x)+(b.y-a.y) *(b.y-a.y))=(sqd a b:Int):=by rw[hse];exact q0Z (by decide)
 have c7:IntKind.i64.wrap (1000000*(sqd a b:Int))=((1000000*sqd a b:Nat):Int):=by rw[wrap64 (by omega) (by omega)];omega
 rw[c4,c5,c6,c7]
 refine q02 rfl rfl (qkJ (1000000*sqd a b) (by omega)) ?_
 exact gg rfl (q09 rfl rfl rfl trivial rfl)
end Go.F

namespace Go.F
attribute [local irreducible] IntKind.wrap wpM
def q3o (p:List Spot):Nat→Nat
 |0=>0
 |k+1=>q3o p k+qfY (pt p k) (pt p (k+1))
theorem qqT {p:List Spot}(h:∀i,i<p.length→q0x (pt p i) 1048576=true):∀k,k<p.length→q3o p k≤k*4294967296:=by
 intro k
 induction k with
 |zero=>intro _;simp[q3o]
 |succ k ih=>
  intro hk
  have:=ih (by omega)
  have:=qvX (h k (by omega)) (h (k+1) hk)
  rw[q3o];omega
def q16 (p:List Spot):Int×Int:=if q1C p=0 then((q3o p (p.length-1):Int),0)else(0,q1C p)
theorem q44 (p:List Spot):PU qjb [q0k p]=some (.tup [.int .i64 (q16 p).1,.int .i64 (q16 p).2]):=by
 refine q0g (fn:=q9V) rfl (q0a ?_)
 refine gg rfl (q02 rfl rfl (qa8 p) (gg rfl (q01 rfl (fun h=>?_) (fun h=>?_))))
 ·rw[q0w]at h
  refine gg rfl (q09 rfl rfl rfl trivial ?_)
  rw[q16,if_neg h]
 rw[q0B]at h
 rw[q16,if_pos h]
 obtain⟨n2,n40,_⟩:=q2x h
 have hin:∀i,i<p.length→q0x (pt p i) 1048576=true:=fun i hi=>qcn h hi
 refine gg rfl (q0l (S:=fun k:Nat=>([q0k p,q00 (q3o p k),q00 (p.length-1:Nat),q00 k],[none,none,none,none],[0,0,0,0])) (C:=fun k=>k≤p.length-1) (m:=fun k=>p.length-k) 0 (Nat.zero_le _) (by omega) ?_ ?_)
 ·refine q03 rfl trivial ?_
  have:IntKind.i64.wrap ((p.length:Int)-1)=((p.length-1:Nat):Int):=by rw[wrap64 (by omega) (by omega)];omega
  simp[q0k,q00,q3o,this]
 intro k hk N hN
 refine gg rfl (q01 rfl (fun g1=>?_) (fun g1=>?_))
 ·rw[q06]at g1
  have hlt:k+1<p.length:=by omega
  have w1:=wS (n:=k)
  have hin1:=hin k (by omega)
  have hin2:=hin (k+1) hlt
  have hsl':=qvX hin1 hin2
  have hle:=qqT hin k (by omega)
  have w2:IntKind.i64.wrap ((q3o p k:Int)+(qfY (pt p k) (pt p (k+1)):Int))=(q3o p (k+1):Int):=by rw[wrap64 (by omega) (by omega)];rfl
  refine gg rfl (q0j k rfl rfl rfl (q0U (by omega)) rfl ?_)
  refine gg rfl (q0j (k+1) rfl rfl w1 (q0U hlt) rfl (gg rfl (q02 rfl rfl (qfZ (pt p k) (pt p (k+1)) hin1 hin2) (gg rfl ?_))))
  rw[w2]
  exact q04 (hN (k+1) (by omega) (by omega) (q03 rfl trivial (by simp[q0k,q00,w1])))
 rw[q07]at g1
 obtain rfl:k=p.length-1:=by omega
 exact gg rfl (q04 (gg rfl (q09 rfl rfl rfl trivial rfl)))
end Go.F

namespace Go.F
attribute [local irreducible] IntKind.wrap wpM
end Go.F

namespace Go.F
end Go.F

namespace Go.F
attribute [local irreducible] IntKind.wrap wpM
section
variable {T:Tab}{sh:Shr}{nx0:Nat}{s:List Fr}{t:q0z}{h:q0e}{z:Frz}{nx:Nat}{q:Ex→q0z→q0e→Frz→Nat→Prop}
variable {base i:Nat}{res:List Nat}{g:Gd}{rest:List KOper}
theorem qnT {f:FuncId}{dst:Nat}{args:List X}{r:D}(bs:List D)(hs:T.shared f=false)(ha:∀k:List D→Prop,k bs→qdq (g.h base h) (args.map (·.ev t)) k)(hp:T.pu f bs=some r)
 (hk:∀z,wpM T sh nx0 (.ops base res rest::s) .normal (upd t dst r) h z nx q):
 wpM T sh nx0 (.ops base res (⟨i,some dst,none,g,.callF f args⟩::rest)::s) .normal t h z nx q:=by
 refine q3P ?_
 simp only[kop,q6r,hs]
 refine ha _ ?_
 unfold qbv
 refine⟨r,hp,?_⟩
 simp only[q6L]
 split
 ·exact hk _
 split
 ·exact hk _
 exact hk _
end
theorem qoj {gh:q0e}{id n:Nat}{es l:List D}{e:Nat}{rest:List D}{bs:List D}(hr:gh id=some (.row es e))(hn:n≤es.length)(hs:(es.take n).mapM (q1b gh 8)=some l)(hrest:∀k:List D→Prop,k bs→qdq gh rest k):
 ∀k:List D→Prop,k (.lst l::bs)→qdq gh (.ref id 0 n::rest) k:=by
 intro k hk
 simp only[qdq,ws1,ws0,hr,qE8]
 refine⟨l,by omega,by rw[List.drop_zero];exact hs,hrest _ hk⟩
end Go.F

namespace Go.F
attribute [local irreducible] IntKind.wrap wpM
end Go.F

namespace Go.F
attribute [local irreducible] IntKind.wrap wpM
theorem q8f:∀a:List Spot,(q0y a).getLast?=a.getLast?
 |[]=>rfl
 |[_]=>rfl
 |a::b::l=>by
  have ih:=q8f (b::l)
  rw[q0y]
  split
  ·rw[ih,List.getLast?_cons_cons]
  rw[List.getLast?_cons_cons,←ih]
  have hne:q0y (b::l)≠[]:=by
   intro e;rw[e,List.getLast?_cons]at ih
   cases ih
  cases h:q0y (b::l)with
  |nil=>exact absurd h hne
  |cons x r=>rw[List.getLast?_cons_cons]
theorem qcq {a:List Spot}(h:a≠[]):(q0y a).length≠0∧(q0y a)[(q0y a).length-1]?=some (pt a (a.length-1)):=by
 have hl:=q8f a
 have e:a.getLast?=some (pt a (a.length-1)):=by
  rw[List.getLast?_eq_getElem?,q0H (by have:=List.length_pos_iff.2 h;omega)]
  exact List.getElem?_eq_getElem _
 rw[e]at hl
 refine⟨fun h0=>?_,?_⟩
 ·rw[List.eq_nil_of_length_eq_zero h0]at hl;simp at hl
 rw[←List.getLast?_eq_getElem?];exact hl
end Go.F

namespace Go.F
section
variable {t:q0z}{h:q0e}{z:Frz}{nx:Nat}
def qf2 (nx0:Nat)(ids:List (Option Nat))(t:q0z):Live→List D
 |[]=>[]
 |x::rest=>(match q6U x.1 with|true=> .bad|false=>q1l nx0 ids (t x.1))::qf2 nx0 ids t rest
theorem qfH (nx0:Nat)(ids:List (Option Nat))(t:q0z):∀live,qhh nx0 ids t live=mkT live (qf2 nx0 ids t live)
 |[]=>rfl
 |x::rest=>by rw[qhh,qf2,mkT,qfH nx0 ids t rest];rfl
theorem qtX {nx0:Nat}{ids:List (Option Nat)}{s:St}:∀{live:Live},q3H nx0 ids s.heap s.tmps live=true→q4l nx0 ids live s=some s:=by
 intro live
 induction live with
 |nil=>intro _;rfl
 |cons x rest ih=>
  intro hk
  rw[q3H,Bool.and_eq_true]at hk
  rw[q4l]
  have e:q4W nx0 ids x.1 s=some s:=by
   unfold q4W
   have h1:=hk.1
   split
   ·rename_i hid
    rw[hid]at h1
    split
    ·rfl
    rename_i hp
    rw[hp]at h1
    have hl:look s.tmps s.heap x.1=s.tmps x.1:=by unfold look;rw[hp]
    rw[hl]at hid
    unfold qkg
    rw[hid]
    simp only
    simp only at h1
    rw[h1]
   rename_i id hid
   rw[hid]at h1
   split
   ·rename_i es esz hh
    have h1:q2B nx0 ids (s.heap id)=true:=h1
    rw[hh]at h1
    have h1:es.all (okD nx0 ids)=true:=h1
    rw[h1]
   rfl
  rw[e]
  exact ih hk.2
theorem qCM {live:Live}{s1:St}{ids:List (Option Nat)}{vs:List D}{bs:List (Option Blk)}{zs:List Nat}{K:Kept→Prop}
 (hn:q4V live ⟨t,h,z,nx⟩=s1) (hi:q1W s1.tmps s1.heap live=ids) (ho:q3H 0 ids s1.heap s1.tmps live=true)
 (hv:qf2 0 ids s1.tmps live=vs) (hb:q7F 0 ids none (fun i=>q7A 0 ids (s1.heap i)) ids 0=bs) (hz:q7F 0 ids 0 s1.frz ids 0=zs)
 (hk:K (vs,bs,zs)) (hnst:q5e live=true:=by rfl):q15 0 live t h z nx fun _ _ kp=>K kp:=by
 unfold q15
 rw[hnst]
 simp only
 refine⟨s1.heap,s1.frz,(vs,bs,zs),hk,?_⟩
 unfold qa7
 rw[hn,hi,qtX ho]
 simp only
 unfold qtH
 rw[hi,ho]
 simp only
 rw[qfH,hv,q69 _ _ (Nat.le_refl _),q69 _ _ (Nat.le_refl _),hb,hz]
end
end Go.F

namespace Go.F
section
variable {t:q0z}{h:q0e}{z:Frz}{nx:Nat}
theorem qvK (t:q0z)(h:q0e)(live0:Live)(x k:Nat):q1W t h (live0++[(x,k)])=q1W t h live0++[q2i (look t h x)]:=by
 unfold q1W
 rw[List.map_append];rfl
theorem qjm (ids:List (Option Nat))(h:q0e)(t:q0z)(x k:Nat)(hx:q6U x=true):∀live0:Live,q3H 0 ids h t (live0++[(x,k)])=(q3H 0 ids h t live0&&(match q2i (look t h x)with|none=>true|some id=>q2B 0 ids (h id)))
 |[]=>by
  simp only[List.nil_append,q3H,hx,Bool.and_true,Bool.true_and]
  rfl
 |y::l=>by
  rw[List.cons_append,q3H,q3H,qjm ids h t x k hx l,Bool.and_assoc]
theorem qCO {live0:Live}{x:Nat}{t1:q0z}{h1:q0e}{z1:Frz}{nx1:Nat}(d:D){ids0:List (Option Nat)}{vs:List D}{bs:List (Option Blk)}{zs:List Nat}
 (hx:q6U x=true) (hn:q4V (live0++[(x,0)]) ⟨t,h,z,nx⟩=⟨t1,h1,z1,nx1⟩) (hlook:look t1 h1 x=d) (hi:q1W t1 h1 live0=ids0)
 (ho:q3H 0 (ids0++[q2i d]) h1 t1 live0=true) (ho2:(match q2i d with|none=>true|some id=>q2B 0 (ids0++[q2i d]) (h1 id))=true)
 (hv:qf2 0 (ids0++[q2i d]) t1 (live0++[(x,0)])=vs) (hb:q7F 0 (ids0++[q2i d]) none (fun i=>q7A 0 (ids0++[q2i d]) (h1 i)) (ids0++[q2i d]) 0=bs) (hz:q7F 0 (ids0++[q2i d]) 0 z1 (ids0++[q2i d]) 0=zs)
 (hnst:q5e (live0++[(x,0)])=true:=by rfl):q15 0 (live0++[(x,0)]) t h z nx fun _ _ kp=>kp=(vs,bs,zs):=by
 subst hlook
 subst hi
 refine qCM (s1:=⟨t1,h1,z1,nx1⟩) hn (qvK _ _ _ _ _) ?_ hv hb hz rfl hnst
 rw[qjm _ _ _ _ _ hx,ho]
 exact ho2
end
end Go.F

namespace Go.F
attribute [local irreducible] IntKind.wrap wpM
section
variable {T:Tab}{sh:Shr}{nx0:Nat}{s:List Fr}{t:q0z}{h:q0e}{z:Frz}{nx:Nat}{q:Ex→q0z→q0e→Frz→Nat→Prop}
variable {base i:Nat}{res:List Nat}{g:Gd}{rest:List KOper}
theorem qxA {f:X}{args:List X}{fid:FuncId}{dst:Option Nat}{a e:List D}(hf:f.ev t=.fn fid a e)(hs:T.shared fid=false)
 (hk:wpM T sh nx0 (.ops base res (⟨i,dst,none,g,.callF fid (a.map .c++args++e.map .c)⟩::rest)::s) .normal t h z nx q):
 wpM T sh nx0 (.ops base res (⟨i,dst,none,g,.callV f args⟩::rest)::s) .normal t h z nx q:=by
 have e1:∀l:List D,(l.map X.c).map (·.ev t)=l:=by
  intro l;induction l with
  |nil=>rfl
  |cons x l ih=>simp only[List.map_cons,ih];rfl
 simp only[wpM,wpo,kop,hf,hs,List.map_append,e1]at hk⊢
 exact hk
end
def inB (n m:Int):Bool:=decide (-m≤n)&&decide (n≤m)
theorem qfD {n m:Int}:inB n m=true↔ -m≤n∧n≤m:=by simp[inB]
theorem q7S (n m:Int)(h0:0≤m)(h1:m≤1000000):PU qpU [.int .i64 n,.int .i64 m]=some (.bool (inB n m)):=by
 have w:IntKind.i64.wrap (0-m)= -m:=by rw[wrap64 (by omega) (by omega)];omega
 refine q0g (fn:=qeo) rfl (q0a ?_)
 refine gg rfl ?_
 rw[w]
 repeat' (first
  |refine goP 800 rfl rfl ?_
  |refine q0h rfl ?_|refine q0m rfl ?_|refine q08 rfl (fun _=>?_) (fun _=>?_)
  |refine q0d rfl ?_|refine q0i rfl ?_|refine q01 rfl (fun _=>?_) (fun _=>?_)
  |refine q0Q rfl (fun _=>?_) (fun _=>?_)
  |refine q09 rfl rfl rfl trivial ?_)
 all_goals simp only[w]at*
 all_goals ((try simp only[q1U,q2h,q2o,q4n,decide_eq_true_eq,decide_eq_false_iff_not,Bool.not_eq_true,Bool.not_eq_false,Int.not_lt,Int.not_le]at*);first|(simp_all[inB];done) |(simp_all[inB];omega) |(rw[D.bool.injEq,Bool.eq_iff_iff];simp[inB];omega) |(rw[D.bool.injEq,Bool.eq_iff_iff];simp_all[inB];omega) |(simp[inB];split<;>(try split)<;>omega))
theorem qa9 (a b:Int)(h0:0≤a)(ha:a≤1099511627776)(hb:0<b)(hb':b≤1099511627776):PU qd6 [.int .i64 a,.int .i64 b]=some (.int .i64 (q1B a b)):=by
 refine q0g (fn:=q7P) rfl (q0a ?_)
 refine gg rfl ?_
 have w1:=ww (x:=2*a)
 have w2:=ww (x:=2*a+b)
 have w3:=ww (x:=2*b)
 refine q01 rfl (fun h=>?_) (fun h=>?_)
 ·rw[q06]at h;omega
 refine gg rfl (qfg rfl rfl (by rw[w3];omega) ?_)
 refine gg rfl (q09 rfl rfl rfl trivial ?_)
 have hd:(2*a+b).tdiv (2*b)=(2*a+b)/(2*b):=Int.tdiv_eq_ediv_of_nonneg (by omega)
 have hq:(2*a+b)/(2*b)≤2*a+b:=Int.ediv_le_self _ (by omega)
 have hq0:0≤(2*a+b)/(2*b):=Int.ediv_nonneg (by omega) (by omega)
 rw[w1,w2,w3,hd,wrap64 (by omega) (by omega),q1B,if_neg (by omega)]
theorem qbp (a b:Int)(ha0: -1099511627776≤a)(ha:a≤1099511627776)(hb:0<b)(hb':b≤1099511627776):PU qd6 [.int .i64 a,.int .i64 b]=some (.int .i64 (q1B a b)):=by
 by_cases h0:0≤a
 ·exact qa9 a b h0 ha hb hb'
 refine q0g (fn:=q7P) rfl (q0a ?_)
 refine gg rfl (q01 rfl (fun h=>?_) (fun h=>?_))
 ·refine gg rfl ?_
  have w1:IntKind.i64.wrap (0-a)= -a:=by rw[wrap64 (by omega) (by omega)];omega
  rw[w1]
  refine q02 rfl rfl (qa9 (-a) b (by omega) (by omega) hb hb') ?_
  refine gg rfl (q09 rfl rfl rfl trivial ?_)
  have hq:(2*(-a)+b)/(2*b)≤2*(-a)+b:=Int.ediv_le_self _ (by omega)
  have hq0:0≤(2*(-a)+b)/(2*b):=Int.ediv_nonneg (by omega) (by omega)
  rw[q1B,if_neg (by omega),q1B,if_pos (by omega),wrap64 (by omega) (by omega)]
  simp
 rw[q07]at h;omega
def q83 (c:List Spot)(m:Int)(i:Nat):Spot:=⟨m*(pt c (i%c.length)).x,m*(pt c (i%c.length)).y⟩
def qj4 (s:Spot)(n:Nat):Prop:=s.x.natAbs≤n∧s.y.natAbs≤n
theorem qxB {m x:Int}(hm:m.natAbs≤100)(hx:x.natAbs≤1000):(m*x).natAbs≤100000:=by
 rw[Int.natAbs_mul]
 exact Nat.le_trans (Nat.mul_le_mul hm hx) (by decide)
theorem q9f {c:List Spot}(hc:∀s∈c,qj4 s 1000){m:Int}(hm:m.natAbs≤100)(h0:0<c.length)(i:Nat):qj4 (q83 c m i) 100000:=by
 have h:=hc (pt c (i%c.length)) (by rw[q0H (Nat.mod_lt _ h0)];exact List.getElem_mem _)
 exact⟨qxB hm h.1,qxB hm h.2⟩
theorem qd3 (c:List Spot)(m:Int)(i:Nat)(hc:∀s∈c,qj4 s 1000)(hm:m.natAbs≤100)(h0:0<c.length)(hi:i≤1000000)(hl:c.length≤1000000):
 PU q5u [.agg [q0k c,.int .i64 m],.int .i64 i]=some (q83 c m i).enc:=by
 have hml:i%c.length<c.length:=Nat.mod_lt _ h0
 have hn:=q9f hc hm h0 i
 have e1:(q83 c m i).x=m*(pt c (i%c.length)).x:=rfl
 have e2:(q83 c m i).y=m*(pt c (i%c.length)).y:=rfl
 have w1:IntKind.i64.wrap (m*(pt c (i%c.length)).x)=m*(pt c (i%c.length)).x:=wrap64 (by have:=hn.1;rw[e1]at this;omega) (by have:=hn.1;rw[e1]at this;omega)
 have w2:IntKind.i64.wrap (m*(pt c (i%c.length)).y)=m*(pt c (i%c.length)).y:=wrap64 (by have:=hn.2;rw[e2]at this;omega) (by have:=hn.2;rw[e2]at this;omega)
 refine q0g (fn:=q5o) rfl (q0a ?_)
 refine gg rfl ?_
 rw[List.length_map]
 refine q2K rfl rfl (by omega) ?_
 refine gg rfl (q0j (i%c.length) rfl rfl q1z (q0U hml) rfl (gg rfl ?_))
 rw[w1,w2]
 exact q09 rfl rfl rfl trivial rfl
def qKK (n k:Nat)(v a b:Int):Int:=v+q1B (((n:Int)-1-k) *a+k*b) ((n:Int)-1)
def qfX (l:List Spot)(a b:Spot)(k:Nat):Spot:=⟨qKK l.length k (pt l k).x a.x b.x,qKK l.length k (pt l k).y a.y b.y⟩
def qv1 (l:List Spot)(a b:Spot):List Spot:=(List.range l.length).map (qfX l a b)
theorem qnX {n k:Nat}(hk:k<n)(hn:n≤40){a b:Int}(ha:a.natAbs≤100000)(hb:b.natAbs≤100000):(((n:Int)-1-k) *a).natAbs≤4000000∧((k:Int) *b).natAbs≤4000000:=by
 constructor
 ·rw[Int.natAbs_mul]
  exact Nat.le_trans (Nat.mul_le_mul (show _≤40 by omega) ha) (by decide)
 rw[Int.natAbs_mul]
 exact Nat.le_trans (Nat.mul_le_mul (show _≤40 by omega) hb) (by decide)
set_option maxHeartbeats 2000000 in
theorem qGs (l:List Spot)(a b:Spot)(h2:2≤l.length)(h40:l.length≤40)(hw:∀s∈l,q0x s 1048576=true)(ha:qj4 a 100000)(hb:qj4 b 100000):
 PU qrT [q0k l,a.enc,b.enc]=some (q0k (qv1 l a b)):=by
 have w0:=ww (x:=(l.length:Int)-1)
 refine q0g (fn:=qgm) rfl (q0a ?_)
 refine gg rfl ?_
 rw[List.length_map,w0]
 refine q48 l.length rfl rfl rfl (by simp[q0N];omega) ?_
 have ez:List.replicate l.length (D.agg [.int .i64 0,.int .i64 0])=(q6i ⟨0,0⟩ l.length (qfX l a b) 0).map Spot.enc:=by
  rw[qk4];simp[Spot.enc]
 rw[ez]
 refine gg rfl ?_
 rw[List.length_map]
 refine q0l (S:=fun k:Nat=>([.ptr 0 0 0,.ptr 1 0 0,.int .i64 ((l.length:Int)-1),.ref 3 0 l.length,q0k l,q00 l.length,q00 k],[some (.row [a.enc] 2),some (.row [b.enc] 2),none,some (.row ((q6i ⟨0,0⟩ l.length (qfX l a b) k).map Spot.enc) 2),none,none,none],[0,0,0,0,0,0,0])) (C:=fun k=>k≤l.length) (m:=fun k=>l.length-k) 0 (Nat.zero_le _) (by omega) ?_ ?_
 ·exact q03 rfl ⟨rfl,rfl,q05 q0r _,trivial⟩ (by simp[q0k,q00,Spot.enc])
 intro k hk N hN
 refine gg rfl (q01 rfl (fun e1=>?_) (fun e1=>?_))
 ·rw[q06]at e1
  have hlt:k<l.length:=by omega
  have w1:=wS (n:=k)
  have hin:=hw (pt l k) (by rw[q0H hlt];exact List.getElem_mem _)
  rw[q1L]at hin
  have c1:=qnX hlt h40 ha.1 hb.1
  have c2:=qnX hlt h40 ha.2 hb.2
  have d0:IntKind.i64.wrap ((l.length:Int)-1-(k:Int))=(l.length:Int)-1-k:=ww
  have d1:=ww (x:=((l.length:Int)-1-k) *a.x)
  have d2:=ww (x:=(k:Int) *b.x)
  have d3:=ww (x:=((l.length:Int)-1-k) *a.x+(k:Int) *b.x)
  have d4:=ww (x:=((l.length:Int)-1-k) *a.y)
  have d5:=ww (x:=(k:Int) *b.y)
  have d6:=ww (x:=((l.length:Int)-1-k) *a.y+(k:Int) *b.y)
  have q1:=qbp (((l.length:Int)-1-k) *a.x+(k:Int) *b.x) ((l.length:Int)-1) (by omega) (by omega) (by omega) (by omega)
  have q2:=qbp (((l.length:Int)-1-k) *a.y+(k:Int) *b.y) ((l.length:Int)-1) (by omega) (by omega) (by omega) (by omega)
  have r1:=q9C (a:=((l.length:Int)-1-k) *a.x+(k:Int) *b.x) (b:=(l.length:Int)-1) (m:=8000000) (by omega) (by omega) (by omega)
  have r2:=q9C (a:=((l.length:Int)-1-k) *a.y+(k:Int) *b.y) (b:=(l.length:Int)-1) (m:=8000000) (by omega) (by omega) (by omega)
  have d7:=ww (x:=(pt l k).x+q1B (((l.length:Int)-1-k) *a.x+(k:Int) *b.x) ((l.length:Int)-1))
  have d8:=ww (x:=(pt l k).y+q1B (((l.length:Int)-1-k) *a.y+(k:Int) *b.y) ((l.length:Int)-1))
  have hset:=qof ⟨0,0⟩ (qfX l a b) hlt
  refine gg rfl (q0j k rfl rfl rfl (q0U hlt) rfl (gg rfl ?_))
  rw[d0,d1,d2,d3]
  refine q02 rfl rfl q1 (gg rfl ?_)
  rw[d7,d0,d4,d5,d6]
  refine q02 rfl rfl q2 (gg rfl ?_)
  rw[d8]
  refine q0J k rfl rfl rfl rfl rfl (by omega) ?_
  refine gg rfl (q2t (enc:=Spot.enc) (q6i ⟨0,0⟩ l.length (qfX l a b) k) k (qfX l a b k) rfl rfl (Nat.zero_add _) rfl (fun _=>rfl) rfl (Nat.zero_le _) (by rw[qdy];omega) ?_)
  rw[hset]
  exact gg rfl (q04 (hN (k+1) hlt (by omega) (q03 rfl ⟨rfl,rfl,q05 q0r _,trivial⟩ (by simp[q0k,q00,w1,Spot.enc]))))
 rw[q07]at e1
 obtain rfl:k=l.length:=by omega
 rw[qfv]
 refine gg rfl (q04 (gg rfl (q09 rfl rfl rfl ⟨q1n (by simp) (q0L q1u _),trivial⟩ ?_)))
 rw[q1o (by simp)];rfl
def q7T (p:Piece)(m:Int)(i:Nat):Edge:=⟨(eg p.edges i).name,qv1 (eg p.edges i).line (q83 p.corners m i) (q83 p.corners m (i+1))⟩
def q3Z (p:Piece)(m:Int):List Edge:=(List.range p.edges.length).map (q7T p m)
def q0p (p:Piece)(m:Int):List Edge×Int:=
 if inB m 100=false then([],3)
 else if p.corners.length≠p.edges.length then([],1)
 else if(p.corners.any fun s=>!(inB s.x 1000&&inB s.y 1000))then([],3)
 else if q0O p.edges≠0 then([],q0O p.edges)
 else if q0O (q3Z p m)≠0 then([],q0O (q3Z p m))
 else(q3Z p m,0)
theorem q2j {α:Type}{f:α→Bool}{l:List α}{k:Nat}(hk:k<l.length)(h:f l[k]=true):l.any f=true:=by
 rw[List.any_eq_true];exact⟨_,List.getElem_mem _,h⟩
theorem q29 {α:Type}{f:α→Bool}{l:List α}(h:∀k (hk:k<l.length),f l[k]=false):l.any f=false:=by
 rw[List.any_eq_false]
 intro x hx
 obtain⟨k,hk,rfl⟩:=List.getElem_of_mem hx
 rw[h k hk];decide
def encGr (r:List Edge×Int):D:=.tup [edges r.1,.int .i64 r.2]
set_option maxHeartbeats 4000000 in
theorem q67 (p:Piece)(m:Int)(hc:p.corners.length≤1000000):PU qpO [p.enc,.int .i64 m]=some (encGr (q0p p m)):=by
 refine q0g (fn:=qdH) rfl (q0a ?_)
 refine gg rfl (q02 rfl rfl (q7S m 100 (by decide) (by decide)) ?_)
 cases hm:inB m 100 with
 |false=>
  refine gg rfl (q0d rfl (gg rfl (q09 rfl rfl rfl trivial ?_)))
  rw[q0p,if_pos hm];rfl
 |true=>
  have hm1:¬inB m 100=false:=by rw[hm];decide
  rw[qfD]at hm
  refine gg rfl (q0i rfl (gg rfl ?_))
  rw[List.length_map,List.length_map]
  refine q01 rfl (fun g1=>?_) (fun g1=>?_)
  ·rw[q0w]at g1
   refine gg rfl (q09 rfl rfl rfl trivial ?_)
   rw[q0p,if_neg hm1,if_pos (by omega)];rfl
  rw[q0B]at g1
  have g1':p.corners.length=p.edges.length:=by omega
  refine gg rfl ?_
  rw[List.length_map]
  refine q0l (S:=fun k:Nat=>([.int .i64 m,.ptr 1 0 0,q0k p.corners,q00 p.corners.length,q00 k],[none,some (.row [p.enc] 7),none,none,none],[0,0,0,0,0])) (C:=fun k=>k≤p.corners.length∧∀j (hj:j<p.corners.length),j<k→(inB p.corners[j].x 1000&&inB p.corners[j].y 1000)=true) (m:=fun k=>p.corners.length-k) 0 ⟨Nat.zero_le _,fun j _ hj=>by omega⟩ (by omega) ?_ ?_
  ·exact q03 rfl ⟨rfl,trivial⟩ (by simp[q0k,q00,Piece.enc,edges,q51,ints])
  rintro k ⟨hk,hin⟩ N hN
  refine gg rfl (q01 rfl (fun e1=>?_) (fun e1=>?_))
  ·rw[q06]at e1
   have hlt:k<p.corners.length:=by omega
   have w1:=wS (n:=k)
   have hx:=q7S (pt p.corners k).x 1000 (by decide) (by decide)
   have hy:=q7S (pt p.corners k).y 1000 (by decide) (by decide)
   have bad:(inB (pt p.corners k).x 1000&&inB (pt p.corners k).y 1000)=false→q0p p m=([],3):=by
    intro h
    rw[q0p,if_neg hm1,if_neg (by omega),if_pos]
    refine q2j hlt ?_
    rw[←q0H hlt,h];rfl
   refine gg rfl (q0j k rfl rfl rfl (q0U hlt) rfl (gg rfl (q02 rfl rfl hx ?_)))
   cases bx:inB (pt p.corners k).x 1000 with
   |false=>
    refine gg rfl (q0h rfl (gg rfl (q0d rfl (gg rfl (q04 (gg rfl (q09 rfl rfl rfl trivial ?_)))))))
    rw[bad (by rw[bx];rfl)];rfl
   |true=>
    refine gg rfl (q0m rfl (gg rfl (q02 rfl rfl hy ?_)))
    cases by':inB (pt p.corners k).y 1000 with
    |false=>
     refine gg rfl (q0d rfl (gg rfl (q04 (gg rfl (q09 rfl rfl rfl trivial ?_)))))
     rw[bad (by rw[bx,by'];rfl)];rfl
    |true=>
     refine gg rfl (q0i rfl (gg rfl (q04 (hN (k+1) ⟨hlt,fun j hj hjk=>?_⟩ (by omega) (q03 rfl ⟨rfl,trivial⟩ (by simp[q0k,q00,Piece.enc,edges,q51,ints,w1]))))))
     by_cases e:j=k
     ·subst e;rw[←q0H hj,bx,by'];rfl
     exact hin j hj (by omega)
  rw[q07]at e1
  obtain rfl:k=p.corners.length:=by omega
  clear hN
  have hany:¬(p.corners.any fun s=>!(inB s.x 1000&&inB s.y 1000))=true:=by
   rw[q29 fun k hk=>by rw[hin k hk hk];rfl];decide
  have hnear:∀s∈p.corners,qj4 s 1000:=by
   intro s hs
   obtain⟨j,hj,rfl⟩:=List.getElem_of_mem hs
   have:=hin j hj hj
   rw[Bool.and_eq_true,qfD,qfD]at this
   exact⟨by omega,by omega⟩
  refine gg rfl (q04 (gg rfl (q02 rfl rfl (q6W p.edges) (gg rfl (q01 rfl (fun g2=>?_) (fun g2=>?_))))))
  ·rw[q0w]at g2
   refine gg rfl (q09 rfl rfl rfl trivial ?_)
   rw[q0p,if_neg hm1,if_neg (by omega),if_neg hany,if_pos g2];rfl
  have g2:q0O p.edges=0:=q0B.1 g2
  obtain⟨c1,c2,c3,c4,c5⟩:=q18 g2
  have hr:q0p p m=if q0O (q3Z p m)≠0 then([],q0O (q3Z p m))else(q3Z p m,0):=by
   rw[q0p,if_neg hm1,if_neg (by omega),if_neg hany,if_neg (by omega)]
  rw[hr]
  have hm2:m.natAbs≤100:=by omega
  refine gg rfl ?_
  rw[List.length_map]
  refine q0l (S:=fun k:Nat=>([.fn q5u [.agg [q0k p.corners,.int .i64 m]] [],.ref 1 0 k,edges p.edges,q00 p.edges.length,q00 k],[none,some (.row (((List.range k).map (q7T p m)).map Edge.enc) 2),none,none,none],[0,0,0,0,0])) (C:=fun k=>k≤p.edges.length) (m:=fun k=>p.edges.length-k) 0 (Nat.zero_le _) (by omega) ?_ ?_
  ·exact q03 rfl ⟨rfl,trivial⟩ rfl
  intro k hk N hN
  refine gg rfl (q01 rfl (fun e2=>?_) (fun e2=>?_))
  ·rw[q06]at e2
   have hlt:k<p.edges.length:=by omega
   have w1:=wS (n:=k)
   have hL:=q34 (q1e c3 hlt)
   obtain⟨n2,n40,hw⟩:=q2x hL
   have ca:=qd3 p.corners m k hnear hm2 (by omega) (by omega) (by omega)
   have cb:=qd3 p.corners m (k+1) hnear hm2 (by omega) (by omega) (by omega)
   have mv:=qGs (eg p.edges k).line (q83 p.corners m k) (q83 p.corners m (k+1)) n2 n40 hw (q9f hnear hm2 (by omega) _) (q9f hnear hm2 (by omega) _)
   have hst:(((List.range (k+1)).map (q7T p m)).map Edge.enc)=((List.range k).map (q7T p m)).map Edge.enc++[(q7T p m k).enc]:=by
    rw[List.range_succ,List.map_append,List.map_append];rfl
   refine gg rfl (q0j k rfl rfl rfl (q1D hlt) rfl (gg rfl (qxA rfl rfl (q02 rfl rfl ca (gg rfl ?_)))))
   rw[w1]
   refine qxA rfl rfl (q02 rfl rfl cb (gg rfl (q02 rfl rfl mv (gg rfl (q1g rfl rfl rfl rfl rfl rfl (by simp) (Nat.zero_le _) (by simp[q0N];omega) ?_)))))
   refine gg rfl (q04 (hN (k+1) hlt (by omega) (q03 rfl ⟨?_,trivial⟩ ?_)))
   ·rw[List.all_append,q05 q3r];rfl
   rw[hst];simp[q0k,edges,q00,w1];rfl
  rw[q07]at e2
  obtain rfl:k=p.edges.length:=by omega
  have hgl:(q3Z p m).length=p.edges.length:=by simp[q3Z]
  refine gg rfl (q04 (gg rfl (q7u rfl rfl ⟨q1n (by simp) (q0L q6j _),trivial⟩ (by rw[q1o (by simp)];exact q6W (q3Z p m)) rfl ?_)))
  refine gg rfl (q01 rfl (fun g3=>?_) (fun g3=>?_))
  ·rw[q0w]at g3
   refine gg rfl (q09 rfl rfl rfl trivial ?_)
   rw[if_pos g3];rfl
  rw[q0B]at g3
  refine gg rfl (q09 rfl rfl rfl ⟨q1n (by simp) (q0L q6j _),trivial⟩ ?_)
  rw[q1o (by simp),if_neg (by simp[g3])];rfl
end Go.F

namespace Go.F
structure Dg (U u a b:Nat):Prop where
 hu:u<4294967296
 a1:2147483648≤a
 a2:a<4294967296
 hb:b<4294967296
 lt:U<a*4294967296+b
def dgN (U u:Nat):Nat:=U*4294967296+u
def dgY (a b:Nat):Nat:=a*4294967296+b
theorem Dg.pos {U u a b:Nat}(h:Dg U u a b):0<dgY a b:=by have:=h.a1;unfold dgY;omega
theorem Dg.qlt {U u a b:Nat}(h:Dg U u a b):dgN U u/dgY a b<4294967296:=by
 rw[Nat.div_lt_iff_lt_mul h.pos]
 have h1:=h.lt
 have h2:=h.hu
 have:(U+1) *4294967296≤dgY a b*4294967296:=Nat.mul_le_mul_right _ h1
 unfold dgN;omega
theorem Dg.first {U u a b:Nat}(h:Dg U u a b):dgN U u/dgY a b≤U/a∧U/a≤4294967297:=by
 have h1:=h.a1
 constructor
 ·rw[Nat.le_div_iff_mul_le (by omega)]
  have hd:=Nat.div_mul_le_self (dgN U u) (dgY a b)
  generalize dgN U u/dgY a b=q at*
  unfold dgN dgY at hd
  have e:q*(a*4294967296+b)=q*a*4294967296+q*b:=by rw[Nat.mul_add,Nat.mul_assoc]
  rw[e]at hd
  have:=h.hu
  omega
 have h2:=h.lt
 have h3:=h.hb
 have:U<4294967298*a:=by omega
 have:=(Nat.div_lt_iff_lt_mul (show 0<a by omega)).2 this
 omega
structure DgI (U u a b q r:Nat):Prop where
 eq:q*a+r=U
 le:dgN U u/dgY a b≤q
 hq:q≤4294967297
theorem Dg.start {U u a b:Nat}(h:Dg U u a b):DgI U u a b (U/a) (U%a):=by
 have:=Nat.div_add_mod U a
 exact⟨by rw[Nat.mul_comm];exact this,h.first.1,h.first.2⟩
theorem qFZ (q a b:Nat):q*dgY a b=q*a*4294967296+q*b:=by unfold dgY;rw[Nat.mul_add,Nat.mul_assoc]
theorem qG0 {q a r U:Nat}(h:q*a+r=U)(u:Nat):dgN U u=q*a*4294967296+r*4294967296+u:=by
 unfold dgN;rw[←h,Nat.add_mul]
theorem Dg.step {U u a b q r:Nat}(h:Dg U u a b)(hi:DgI U u a b q r)(hc:4294967296≤q∨r*4294967296+u<q*b):1≤q∧DgI U u a b (q-1) (r+a)∧q-1≤4294967296:=by
 have hlt:dgN U u/dgY a b<q:=by
  rcases hc with hc|hc
  ·exact Nat.lt_of_lt_of_le h.qlt hc
  rw[Nat.div_lt_iff_lt_mul h.pos,qFZ,qG0 hi.eq,Nat.add_assoc]
  exact Nat.add_lt_add_left hc _
 have h1:=hi.eq
 have h2:=hi.hq
 have h3:1≤q:=Nat.lt_of_le_of_lt (Nat.zero_le _) hlt
 refine⟨h3,⟨?_,Nat.le_pred_of_lt hlt,by omega⟩,by omega⟩
 obtain⟨p,rfl⟩:∃p,q=p+1:=⟨q-1,by omega⟩
 rw[Nat.succ_mul]at h1
 rw[Nat.add_sub_cancel]
 omega
theorem Dg.fin {U u a b q r:Nat}(h:Dg U u a b)(hi:DgI U u a b q r)(hc:q*b≤r*4294967296+u):q=dgN U u/dgY a b:=by
 refine Nat.le_antisymm ?_ hi.le
 rw[Nat.le_div_iff_mul_le h.pos,qFZ,qG0 hi.eq,Nat.add_assoc]
 exact Nat.add_le_add_left hc _
theorem Dg.stop {U u a b q r:Nat}(h:Dg U u a b)(hi:DgI U u a b q r)(hq:q≤4294967296)(hr:4294967296≤r):q=dgN U u/dgY a b:=by
 refine h.fin hi ?_
 have h1:=h.hb
 have h2:q*b≤4294967296*4294967295:=Nat.mul_le_mul hq (Nat.le_of_lt_succ h1)
 have h3:4294967296*4294967296≤r*4294967296:=Nat.mul_le_mul_right _ hr
 exact Nat.le_trans h2 (Nat.le_trans (Nat.mul_le_mul_left _ (Nat.le_succ _)) (Nat.le_trans h3 (Nat.le_add_right _ _)))
theorem qAa (N u0 y L:Nat)(hy:0<y):N/y*L+(N%y*L+u0)/y=(N*L+u0)/y∧(N%y*L+u0)%y=(N*L+u0)%y:=by
 have e:N*L+u0=(N%y*L+u0)+y*(N/y*L):=by
  have h1:=Nat.div_add_mod N y
  have h2:N*L=y*(N/y*L)+N%y*L:=by
   conv=>lhs;rw[←h1]
   rw[Nat.add_mul,Nat.mul_assoc]
  omega
 constructor
 ·rw[e,Nat.add_mul_div_left _ _ hy,Nat.add_comm]
 rw[e,Nat.add_mul_mod_self_left]
theorem qIk (m y s:Nat)(hy:0<y):(m*2^s)/(y*2^s)=m/y∧(m*2^s)%(y*2^s)/2^s=m%y:=by
 have hp:0<2^s:=Nat.pow_pos (by decide)
 constructor
 ·exact Nat.mul_div_mul_right m y hp
 rw[Nat.mul_mod_mul_right,Nat.mul_div_cancel _ hp]
end Go.F

namespace Go.F
attribute [local irreducible] IntKind.wrap wpM
theorem qxj (x:Nat)(hx:x<18446744073709551616):IntKind.u64.wrap ((BitVec.ofInt IntKind.u64.bits (x:Int)&&&BitVec.ofInt IntKind.u64.bits 4294967295).toNat:Int)=((x%4294967296:Nat):Int):=by
 have e:IntKind.u64.bits=64:=rfl
 have h3:(BitVec.ofInt 64 4294967295).toNat=2^32-1:=by decide
 rw[e,BitVec.toNat_and,h3,Nat.and_two_pow_sub_one_eq_mod,BitVec.toNat_ofInt]
 have hq:(((x:Int)%((2^64:Nat):Int)).toNat%2^32:Nat)=x%4294967296:=by omega
 rw[hq,q0F (by omega)]
theorem or64 (a b:Nat)(s:Nat)(hb:b<2^s)(hs:2^s*a+b<18446744073709551616):IntKind.u64.wrap ((BitVec.ofInt IntKind.u64.bits ((2^s*a:Nat):Int) |||BitVec.ofInt IntKind.u64.bits (b:Int)).toNat:Int)=((2^s*a+b:Nat):Int):=by
 have e:IntKind.u64.bits=64:=rfl
 have f:∀n:Nat,n<18446744073709551616→(BitVec.ofInt 64 (n:Int)).toNat=n:=by
  intro n hn
  rw[BitVec.toNat_ofInt]
  omega
 rw[e,BitVec.toNat_or,f _ (by omega),f _ (by omega),←Nat.two_pow_add_eq_or_of_lt hb,q0F hs]
def w32 (x:Nat):Nat:=x%4294967296
def h32 (x:Nat):Nat:=x/2^32
theorem qnV (x:Nat):x=h32 x*4294967296+w32 x:=by unfold h32 w32;omega
theorem qDB (x1 x0 y1 y0:Nat)(hx:x0<4294967296)(hy:y0<4294967296):
 x1*y1+h32 (x1*y0+h32 (x0*y0))+h32 (w32 (x1*y0+h32 (x0*y0))+x0*y1)=(x1*4294967296+x0) *(y1*4294967296+y0)/18446744073709551616:=by
 have e:(x1*4294967296+x0) *(y1*4294967296+y0)=x1*y1*18446744073709551616+(x1*y0+x0*y1) *4294967296+x0*y0:=by grind
 rw[e]
 generalize x1*y1=p
 generalize x1*y0=q
 generalize x0*y1=r
 generalize x0*y0=s
 unfold h32 w32
 omega
theorem q65 {a b:Nat}(ha:a<4294967296)(hb:b<4294967296):a*b≤18446744065119617025:=
 Nat.le_trans (Nat.mul_le_mul (Nat.le_of_lt_succ ha) (Nat.le_of_lt_succ hb)) (by decide)
theorem qhe {x:Nat}(h:x<18446744073709551616):h32 x<4294967296:=by unfold h32;omega
theorem qpn (x:Nat):w32 x<4294967296:=by unfold w32;omega
set_option maxHeartbeats 1000000 in
theorem qG1 (x y:Nat)(hx:x<18446744073709551616)(hy:y<18446744073709551616):PU qvl [.int .u64 x,.int .u64 y]=some (.tup [.int .u64 ((x*y/18446744073709551616:Nat):Int),.int .u64 ((x*y%18446744073709551616:Nat):Int)]):=by
 have x1:=qhe hx
 have y1:=qhe hy
 have x0:=qpn x
 have y0:=qpn y
 have b00:=q65 x0 y0
 have b10:=q65 x1 y0
 have b01:=q65 x0 y1
 have b11:=q65 x1 y1
 have hm:=qDB (h32 x) (w32 x) (h32 y) (w32 y) x0 y0
 rw[←qnV,←qnV]at hm
 have hxy:x*y/18446744073709551616<18446744073709551616:=by
  rw[Nat.div_lt_iff_lt_mul (by decide)]
  exact Nat.mul_lt_mul_of_lt_of_le hx (Nat.le_of_lt hy) (by omega)
 have a1:=qxj x hx
 have a2:=qxj y hy
 have c1:IntKind.u64.wrap (((w32 x:Nat):Int) *((w32 y:Nat):Int))=((w32 x*w32 y:Nat):Int):=by rw[←Int.natCast_mul];exact q0F (by omega)
 have c2:IntKind.u64.wrap (((h32 x:Nat):Int) *((w32 y:Nat):Int))=((h32 x*w32 y:Nat):Int):=by rw[←Int.natCast_mul];exact q0F (by omega)
 have c3:IntKind.u64.wrap (((w32 x:Nat):Int) *((h32 y:Nat):Int))=((w32 x*h32 y:Nat):Int):=by rw[←Int.natCast_mul];exact q0F (by omega)
 have c4:IntKind.u64.wrap (((h32 x:Nat):Int) *((h32 y:Nat):Int))=((h32 x*h32 y:Nat):Int):=by rw[←Int.natCast_mul];exact q0F (by omega)
 have g0:h32 (w32 x*w32 y)<4294967296:=qhe (by omega)
 have c5:IntKind.u64.wrap (((h32 x*w32 y:Nat):Int)+((h32 (w32 x*w32 y):Nat):Int))=((h32 x*w32 y+h32 (w32 x*w32 y):Nat):Int):=by rw[←Int.natCast_add];exact q0F (by omega)
 have a3:=qxj (h32 x*w32 y+h32 (w32 x*w32 y)) (by omega)
 have g1:=qpn (h32 x*w32 y+h32 (w32 x*w32 y))
 have g2:=qhe (x:=h32 x*w32 y+h32 (w32 x*w32 y)) (by omega)
 have c6:IntKind.u64.wrap (((w32 (h32 x*w32 y+h32 (w32 x*w32 y)):Nat):Int)+((w32 x*h32 y:Nat):Int))=((w32 (h32 x*w32 y+h32 (w32 x*w32 y))+w32 x*h32 y:Nat):Int):=by rw[←Int.natCast_add];exact q0F (by omega)
 have g3:=qhe (x:=w32 (h32 x*w32 y+h32 (w32 x*w32 y))+w32 x*h32 y) (by omega)
 have c7:IntKind.u64.wrap (((h32 x*h32 y:Nat):Int)+((h32 (h32 x*w32 y+h32 (w32 x*w32 y)):Nat):Int))=((h32 x*h32 y+h32 (h32 x*w32 y+h32 (w32 x*w32 y)):Nat):Int):=by rw[←Int.natCast_add];exact q0F (by omega)
 have c8:IntKind.u64.wrap (((h32 x*h32 y+h32 (h32 x*w32 y+h32 (w32 x*w32 y)):Nat):Int)+((h32 (w32 (h32 x*w32 y+h32 (w32 x*w32 y))+w32 x*h32 y):Nat):Int))=((x*y/18446744073709551616:Nat):Int):=by
  rw[←Int.natCast_add,hm];exact q0F hxy
 have c9:IntKind.u64.wrap ((x:Int) *(y:Int))=((x*y%18446744073709551616:Nat):Int):=by rw[q0Y,←Int.natCast_mul];rfl
 refine q0g (fn:=qhZ) rfl (q0a ?_)
 refine gg rfl ?_
 rw[a1]
 refine q1d x 32 rfl rfl rfl rfl (by decide) ?_
 refine gg rfl ?_
 rw[a2]
 refine q1d y 32 rfl rfl rfl rfl (by decide) ?_
 refine gg rfl ?_
 rw[show((x%4294967296:Nat):Int)=((w32 x:Nat):Int)from rfl,show((y%4294967296:Nat):Int)=((w32 y:Nat):Int)from rfl,show((x/2^32:Nat):Int)=((h32 x:Nat):Int)from rfl,show((y/2^32:Nat):Int)=((h32 y:Nat):Int)from rfl,c1,c2]
 refine q1d (w32 x*w32 y) 32 rfl rfl rfl rfl (by decide) ?_
 refine gg rfl ?_
 rw[show((w32 x*w32 y/2^32:Nat):Int)=((h32 (w32 x*w32 y):Nat):Int)from rfl,c5,a3]
 refine q1d (h32 x*w32 y+h32 (w32 x*w32 y)) 32 rfl rfl rfl rfl (by decide) ?_
 refine gg rfl ?_
 rw[show(((h32 x*w32 y+h32 (w32 x*w32 y))%4294967296:Nat):Int)=((w32 (h32 x*w32 y+h32 (w32 x*w32 y)):Nat):Int)from rfl,show(((h32 x*w32 y+h32 (w32 x*w32 y))/2^32:Nat):Int)=((h32 (h32 x*w32 y+h32 (w32 x*w32 y)):Nat):Int)from rfl,c3,c6,c4,c7]
 refine q1d (w32 (h32 x*w32 y+h32 (w32 x*w32 y))+w32 x*h32 y) 32 rfl rfl rfl rfl (by decide) ?_
 refine gg rfl ?_
 rw[show(((w32 (h32 x*w32 y+h32 (w32 x*w32 y))+w32 x*h32 y)/2^32:Nat):Int)=((h32 (w32 (h32 x*w32 y+h32 (w32 x*w32 y))+w32 x*h32 y):Nat):Int)from rfl,c8,c9]
 exact q09 rfl rfl rfl trivial rfl
theorem qiQ (x:Nat)(hx:x<18446744073709551616):PU qdo [.int .u64 x]=some (.int .i64 ((64-bl x:Nat):Int)):=by
 have hb:bl x≤64:=by
  unfold bl
  split
  ·omega
  rename_i h
  have:=(Nat.log2_lt (n:=x) (k:=64) h).2 (by omega)
  omega
 refine q0g (fn:=q6F) rfl (q0a ?_)
 refine gg rfl (q02 rfl rfl (qyN x hx) (gg rfl ?_))
 have w:IntKind.i64.wrap (64-(bl x:Int))=((64-bl x:Nat):Int):=by rw[wrap64 (by omega) (by omega)];omega
 rw[w]
 exact q09 rfl rfl rfl trivial rfl
end Go.F

namespace Go.F
attribute [local irreducible] IntKind.wrap wpM
theorem or64' (a b:Nat)(s:Nat)(hb:b<2^s)(hs:a*2^s+b<18446744073709551616):IntKind.u64.wrap ((BitVec.ofInt IntKind.u64.bits ((a*2^s:Nat):Int) |||BitVec.ofInt IntKind.u64.bits (b:Int)).toNat:Int)=((a*2^s+b:Nat):Int):=by
 rw[Nat.mul_comm]at hs⊢
 exact or64 a b s hb hs
structure Nrm (hi lo y s:Nat):Prop where
 s63:s≤63
 y2:y*2^s<18446744073709551616
 y1:9223372036854775808≤y*2^s
 l:lo/2^(64-s)<2^s
 u:hi*2^s+lo/2^(64-s)<y*2^s
 h:hi*2^s<18446744073709551616
 e:(hi*2^s+lo/2^(64-s)) *18446744073709551616+lo*2^s%18446744073709551616=(hi*18446744073709551616+lo) *2^s
theorem nrm_of {hi lo y:Nat}(hh:hi<y)(hy:y<18446744073709551616)(hl:lo<18446744073709551616):Nrm hi lo y (64-bl y):=by
 have hy0:y≠0:=by omega
 have hb:bl y=y.log2+1:=by unfold bl;rw[if_neg hy0]
 have hlg:y.log2<64:=(Nat.log2_lt hy0).2 (by omega)
 have h1:2^y.log2≤y:=(Nat.le_log2 hy0).1 (Nat.le_refl _)
 have h2:y<2^(y.log2+1):=(Nat.log2_lt hy0).1 (Nat.lt_succ_self _)
 generalize hs:64-bl y=s
 have es:y.log2+1+s=64:=by omega
 have hP:0<2^s:=Nat.pow_pos (by decide)
 have hPQ:2^(64-s) *2^s=18446744073709551616:=by
  rw[←Nat.pow_add,show 64-s+s=64 by omega]
 have e1:2^(y.log2+1) *2^s=18446744073709551616:=by rw[←Nat.pow_add,es]
 have e2:2^y.log2*2^s*2=18446744073709551616:=by
  rw[Nat.pow_succ]at e1
  rw[←e1];ac_rfl
 have f1:y*2^s<18446744073709551616:=by rw[←e1];exact Nat.mul_lt_mul_of_pos_right h2 hP
 have f2:9223372036854775808≤y*2^s:=by
  have:=Nat.mul_le_mul_right (2^s) h1
  omega
 have hQ:0<2^(64-s):=Nat.pow_pos (by decide)
 have f3:lo/2^(64-s)<2^s:=by
  rw[Nat.div_lt_iff_lt_mul hQ,Nat.mul_comm,hPQ];exact hl
 have fd:lo*2^s/18446744073709551616=lo/2^(64-s):=by
  rw[←hPQ,Nat.mul_div_mul_right _ _ hP]
 have fe:(hi*2^s+lo/2^(64-s)) *18446744073709551616+lo*2^s%18446744073709551616=(hi*18446744073709551616+lo) *2^s:=by
  have hdm:=Nat.div_add_mod (lo*2^s) 18446744073709551616
  rw[fd]at hdm
  have g:(hi*18446744073709551616+lo) *2^s=hi*2^s*18446744073709551616+lo*2^s:=by
   rw[Nat.add_mul];congr 1;ac_rfl
  rw[g,Nat.add_mul]
  omega
 have fh:hi*2^s<18446744073709551616:=Nat.lt_of_le_of_lt (Nat.mul_le_mul_right _ (Nat.le_of_lt hh)) f1
 refine⟨by omega,f1,f2,f3,?_,fh,fe⟩
 have hle:(hi+1) *2^s≤y*2^s:=Nat.mul_le_mul_right _ hh
 rw[Nat.add_mul,Nat.one_mul]at hle
 omega
theorem qrN {x y:Nat}(h:y≤x)(hx:x<18446744073709551616):IntKind.u64.wrap ((x:Int)-(y:Int))=((x-y:Nat):Int):=by
 rw[q0Y];omega
theorem qdm {x y:Nat}(h:x+y<18446744073709551616):IntKind.u64.wrap ((x:Int)+(y:Int))=((x+y:Nat):Int):=by
 rw[←Int.natCast_add];exact q0F h
theorem qc0 {x y:Nat}(h:x*y<18446744073709551616):IntKind.u64.wrap ((x:Int) *(y:Int))=((x*y:Nat):Int):=by
 rw[←Int.natCast_mul];exact q0F h
theorem qnp {U u q y:Nat}(hq:q=dgN U u/y)(hy0:0<y)(hy:y<18446744073709551616):
 IntKind.u64.wrap (IntKind.u64.wrap (IntKind.u64.wrap ((U:Int) *4294967296)+(u:Int))-IntKind.u64.wrap ((q:Int) *(y:Int)))=((dgN U u%y:Nat):Int):=by
 have h1:=Nat.div_add_mod (dgN U u) y
 have h2:=Nat.mod_lt (dgN U u) hy0
 rw[←hq,Nat.mul_comm]at h1
 have h3:((dgN U u:Nat):Int)=(U:Int) *4294967296+u:=by unfold dgN;simp
 have h4:((q*y:Nat):Int)+((dgN U u%y:Nat):Int)=(U:Int) *4294967296+u:=by rw[←h3,←Int.natCast_add,h1]
 rw[Int.natCast_mul]at h4
 simp only[q0Y]
 have hR:(0:Int)≤((dgN U u%y:Nat):Int)∧((dgN U u%y:Nat):Int)<18446744073709551616:=by omega
 generalize ((dgN U u%y:Nat):Int)=R at*
 generalize (U:Int) *4294967296=A at*
 generalize (q:Int) *(y:Int)=B at*
 omega
structure Dv64 (hi lo y s a b U u1 u0:Nat):Prop where
 n:Nrm hi lo y s
 hy:y*2^s=dgY a b
 a1:2147483648≤a
 a2:a<4294967296
 b2:b<4294967296
 hu1:u1<4294967296
 hu0:u0<4294967296
 lt:U<dgY a b
 y0:0<y
 e:dgN U u1*4294967296+u0=(hi*18446744073709551616+lo) *2^s
theorem Dv64.d1 {hi lo y s a b U u1 u0:Nat}(h:Dv64 hi lo y s a b U u1 u0):Dg U u1 a b:=⟨h.hu1,h.a1,h.a2,h.b2,h.lt⟩
theorem Dv64.d0 {hi lo y s a b U u1 u0:Nat}(h:Dv64 hi lo y s a b U u1 u0):Dg (dgN U u1%dgY a b) u0 a b:=⟨h.hu0,h.a1,h.a2,h.b2,Nat.mod_lt _ h.d1.pos⟩
theorem Dv64.y64 {hi lo y s a b U u1 u0:Nat}(h:Dv64 hi lo y s a b U u1 u0):dgY a b<18446744073709551616:=by rw[←h.hy];exact h.n.y2
theorem Dv64.quo {hi lo y s a b U u1 u0:Nat}(h:Dv64 hi lo y s a b U u1 u0):
 dgN U u1/dgY a b*4294967296+dgN (dgN U u1%dgY a b) u0/dgY a b=(hi*18446744073709551616+lo)/y∧dgN (dgN U u1%dgY a b) u0%dgY a b/2^s=(hi*18446744073709551616+lo)%y:=by
 obtain⟨t1,t2⟩:=qAa (dgN U u1) u0 (dgY a b) 4294967296 h.d1.pos
 obtain⟨s1,s2⟩:=qIk (hi*18446744073709551616+lo) y s h.y0
 constructor
 ·rw[←s1,←h.e,h.hy,←t1];rfl
 rw[←s2,←h.e,h.hy,←t2];rfl
theorem dvd_of {hi lo y:Nat}(hh:hi<y)(hy:y<18446744073709551616)(hl:lo<18446744073709551616):
 Dv64 hi lo y (64-bl y) (h32 (y*2^(64-bl y))) (w32 (y*2^(64-bl y))) (hi*2^(64-bl y)+lo/2^(64-(64-bl y))) (h32 (lo*2^(64-bl y)%18446744073709551616)) (w32 (lo*2^(64-bl y)%18446744073709551616)):=by
 have n:=nrm_of hh hy hl
 generalize 64-bl y=s at*
 have hY:y*2^s=dgY (h32 (y*2^s)) (w32 (y*2^s)):=qnV _
 have hL:=qnV (lo*2^s%18446744073709551616)
 have hlt:lo*2^s%18446744073709551616<18446744073709551616:=Nat.mod_lt _ (by decide)
 refine⟨n,hY,?_,qhe n.y2,qpn _,qhe hlt,qpn _,by rw[←hY];exact n.u,by omega,?_⟩
 ·have:=n.y1
  generalize y*2^s=Y at*
  unfold h32;omega
 have e:=n.e
 generalize hi*2^s+lo/2^(64-s)=U at*
 generalize lo*2^s%18446744073709551616=L at*
 have hB:4294967296*4294967296=18446744073709551616:=by decide
 rw[←e,dgN,Nat.add_mul,Nat.mul_assoc,hB,Nat.add_assoc,←hL]
theorem shlU (lo s:Nat)(hs:s≤63):IntKind.u64.wrap ((lo:Int) *2^min ((s:Nat):Int).toNat IntKind.u64.bits)=((lo*2^s%18446744073709551616:Nat):Int):=by
 have e:IntKind.u64.bits=64:=rfl
 rw[e,Int.toNat_natCast,Nat.min_eq_left (by omega),q0Y]
 have:(lo:Int) *2^s=((lo*2^s:Nat):Int):=by simp
 rw[this];omega
theorem qnW {U a:Nat}(hU:U<18446744073709551616):IntKind.u64.wrap ((U:Int)-IntKind.u64.wrap (((U/a:Nat):Int) *(a:Int)))=((U%a:Nat):Int):=by
 have h1:=Nat.div_mul_le_self U a
 have h2:=Nat.mod_add_div U a
 rw[qc0 (by omega),qrN h1 hU]
 congr 1
 rw[Nat.mul_comm]at h2
 omega
set_option maxHeartbeats 8000000 in
theorem qG2 (hi lo y:Nat)(hh:hi<y)(hy:y<18446744073709551616)(hl:lo<18446744073709551616):
 PU qvm [.int .u64 hi,.int .u64 lo,.int .u64 y]=some (.tup [.int .u64 (((hi*18446744073709551616+lo)/y:Nat):Int),.int .u64 (((hi*18446744073709551616+lo)%y:Nat):Int)]):=by
 have D:=dvd_of hh hy hl
 have lz:=qiQ y hy
 have hs63:=D.n.s63
 generalize 64-bl y=s at*
 refine q0g (fn:=qiH) rfl (q0a ?_)
 refine gg rfl (q01 rfl (fun e=>absurd (q1I.1 e) (by omega)) (fun _=>?_))
 refine gg rfl (q01 rfl (fun e=>absurd (q0G.1 e) (by omega)) (fun _=>?_))
 refine gg rfl (q01 rfl (fun e=>?_) (fun e=>?_))
 ·rw[q1I]at e
  obtain rfl:hi=0:=by omega
  refine gg rfl (q3e lo y rfl rfl rfl rfl (by omega) (q0F (Nat.lt_of_le_of_lt (Nat.div_le_self _ _) hl)) ?_)
  refine gg rfl (q5g lo y rfl rfl rfl rfl (by omega) ?_)
  refine gg rfl (q09 rfl rfl rfl trivial ?_)
  rw[Nat.zero_mul,Nat.zero_add]
 have e64:IntKind.u64.wrap (64-(s:Int))=((64-s:Nat):Int):=qrN (x:=64) (by omega) (by decide)
 have a1:=qxj (y*2^s) D.n.y2
 have hL64:lo*2^s%18446744073709551616<18446744073709551616:=Nat.mod_lt _ (by decide)
 have a2:=qxj (lo*2^s%18446744073709551616) hL64
 have o1:=or64' hi (lo/2^(64-s)) s D.n.l (Nat.lt_trans D.n.u D.n.y2)
 have sl:=shlU lo s hs63
 refine gg rfl (q02 rfl rfl lz (gg rfl ?_))
 rw[q0F (n:=s) (by omega)]
 refine q7a y s rfl rfl rfl rfl (by show s≤64;omega) (q0F D.n.y2) ?_
 refine gg rfl (q1d (y*2^s) 32 rfl rfl rfl rfl (by decide) ?_)
 refine gg rfl ?_
 rw[a1]
 refine q7a hi s rfl rfl rfl rfl (by show s≤64;omega) (q0F D.n.h) ?_
 refine gg rfl ?_
 rw[e64]
 refine q1d lo (64-s) rfl rfl rfl rfl (by show 64-s≤64;omega) ?_
 refine gg rfl ?_
 rw[o1]
 refine atShl rfl rfl (by omega) ?_
 rw[sl]
 refine gg rfl (q1d (lo*2^s%18446744073709551616) 32 rfl rfl rfl rfl (by decide) ?_)
 refine gg rfl ?_
 rw[a2]
 have hY:=D.hy
 rw[hY]
 rw[show((dgY (h32 (y*2^s)) (w32 (y*2^s))/2^32:Nat):Int)=((h32 (y*2^s):Nat):Int)by rw[←hY];rfl,show((dgY (h32 (y*2^s)) (w32 (y*2^s))%4294967296:Nat):Int)=((w32 (y*2^s):Nat):Int)by rw[←hY];rfl,show((lo*2^s%18446744073709551616/2^32:Nat):Int)=((h32 (lo*2^s%18446744073709551616):Nat):Int)from rfl,show((lo*2^s%18446744073709551616%4294967296:Nat):Int)=((w32 (lo*2^s%18446744073709551616):Nat):Int)from rfl]
 clear a1 a2 o1 sl e64 lz hY
 generalize h32 (y*2^s)=a at*
 generalize w32 (y*2^s)=b at*
 generalize h32 (lo*2^s%18446744073709551616)=u1 at*
 generalize w32 (lo*2^s%18446744073709551616)=u0 at*
 generalize hi*2^s+lo/2^(64-s)=U at*
 have DD:=D.d1
 have hU:U<18446744073709551616:=Nat.lt_trans DD.lt D.y64
 refine q3e U a rfl rfl rfl rfl (by have:=D.a1;omega) (q0F (Nat.lt_of_le_of_lt (Nat.div_le_self _ _) hU)) ?_
 refine gg rfl ?_
 rw[qnW hU]
 refine q0l (S:=fun x:Nat×Nat=>([.int .u64 (dgY a b:Nat),.int .u64 s,.int .u64 a,.int .u64 b,.int .u64 U,.int .u64 u1,.int .u64 u0,.int .u64 x.1,.int .u64 x.2],[none,none,none,none,none,none,none,none,none],[0,0,0,0,0,0,0,0,0])) (C:=fun x=>DgI U u1 a b x.1 x.2∧x.2<4294967296) (m:=fun x=>x.1) (U/a,U%a) ⟨DD.start,Nat.lt_trans (Nat.mod_lt _ (by have:=D.a1;omega)) D.a2⟩ (by have:=DD.start.hq;show U/a<_;omega) ?_ ?_
 ·exact q03 rfl trivial rfl
 rintro⟨q,r⟩ ⟨hi1,hr⟩ N hN
 simp only at hi1 hr
 have hq:=hi1.hq
 have hb':=D.b2
 have w1:q<4294967296→IntKind.u64.wrap ((q:Int) *(b:Int))=((q*b:Nat):Int):=fun h=>qc0 (by have:=q65 h hb';omega)
 have w2:IntKind.u64.wrap ((4294967296:Int) *(r:Int))=((4294967296*r:Nat):Int):=qc0 (x:=4294967296) (by omega)
 have w3:IntKind.u64.wrap (((4294967296*r:Nat):Int)+(u1:Int))=((4294967296*r+u1:Nat):Int):=qdm (by have:=DD.hu;omega)
 have body:(4294967296≤q∨r*4294967296+u1<q*b)→1≤q∧DgI U u1 a b (q-1) (r+a)∧q-1≤4294967296:=DD.step hi1
 have a2:=D.a2
 have w5:IntKind.u64.wrap ((r:Int)+(a:Int))=((r+a:Nat):Int):=qdm (by omega)
 refine gg rfl (q08 rfl (fun g1=>?_) (fun g1=>?_))
 ·rw[q0G]at g1
  obtain⟨k1,k2,k3⟩:=body (.inl (by omega))
  have w4:IntKind.u64.wrap ((q:Int)-1)=((q-1:Nat):Int):=qrN (y:=1) k1 (by omega)
  refine gg rfl (q0d rfl (gg rfl ?_))
  rw[w4,w5]
  refine q01 rfl (fun g2=>?_) (fun g2=>?_)
  ·rw[q0G]at g2
   have hq1:=DD.stop k2 k3 (by omega)
   generalize q-1=q' at*
   refine gg rfl (q04 ?_)
   have hp:=hq1
   have hplt:=D.d1.qlt
   rw[←hp]at hplt
   clear hq1
   generalize q'=p at hp hplt
   have hrm:=qnp (U:=U) (u:=u1) hp D.d1.pos D.y64
   refine gg rfl ?_
   rw[hrm]
   have DD:=D.d0
   have hV:dgN U u1%dgY a b<18446744073709551616:=Nat.lt_trans DD.lt D.y64
   clear hi1 hN
   refine q3e (dgN U u1%dgY a b) a rfl rfl rfl rfl (by have:=D.a1;omega) (q0F (Nat.lt_of_le_of_lt (Nat.div_le_self _ _) hV)) ?_
   refine gg rfl ?_
   rw[qnW hV]
   refine q0l (S:=fun x:Nat×Nat=>([.int .u64 (dgY a b:Nat),.int .u64 s,.int .u64 a,.int .u64 b,.int .u64 u0,.int .u64 p,.int .u64 x.2,.int .u64 ((dgN U u1%dgY a b:Nat):Int),.int .u64 x.1],[none,none,none,none,none,none,none,none,none],[0,0,0,0,0,0,0,0,0])) (C:=fun x=>DgI (dgN U u1%dgY a b) u0 a b x.1 x.2∧x.2<4294967296) (m:=fun x=>x.1) ((dgN U u1%dgY a b)/a,(dgN U u1%dgY a b)%a) ⟨DD.start,Nat.lt_trans (Nat.mod_lt _ (by have:=D.a1;omega)) D.a2⟩ (by have:=DD.start.hq;show _/a<_;omega) ?_ ?_
   ·exact q03 rfl trivial rfl
   rintro⟨q,r⟩ ⟨hi1,hr⟩ N hN
   simp only at hi1 hr
   have hq:=hi1.hq
   have hb':=D.b2
   have w1:q<4294967296→IntKind.u64.wrap ((q:Int) *(b:Int))=((q*b:Nat):Int):=fun h=>qc0 (by have:=q65 h hb';omega)
   have w2:IntKind.u64.wrap ((4294967296:Int) *(r:Int))=((4294967296*r:Nat):Int):=qc0 (x:=4294967296) (by omega)
   have w3:IntKind.u64.wrap (((4294967296*r:Nat):Int)+(u0:Int))=((4294967296*r+u0:Nat):Int):=qdm (by have:=DD.hu;omega)
   have body:(4294967296≤q∨r*4294967296+u0<q*b)→1≤q∧DgI (dgN U u1%dgY a b) u0 a b (q-1) (r+a)∧q-1≤4294967296:=DD.step hi1
   have a2:=D.a2
   have w5:IntKind.u64.wrap ((r:Int)+(a:Int))=((r+a:Nat):Int):=qdm (by omega)
   refine gg rfl (q08 rfl (fun g1=>?_) (fun g1=>?_))
   ·rw[q0G]at g1
    obtain⟨k1,k2,k3⟩:=body (.inl (by omega))
    have w4:IntKind.u64.wrap ((q:Int)-1)=((q-1:Nat):Int):=qrN (y:=1) k1 (by omega)
    refine gg rfl (q0d rfl (gg rfl ?_))
    rw[w4,w5]
    refine q01 rfl (fun g2=>?_) (fun g2=>?_)
    ·rw[q0G]at g2
     have hq1:=DD.stop k2 k3 (by omega)
     generalize q-1=q' at*
     refine gg rfl (q04 ?_)
     have hq0lt:=D.d0.qlt
     rw[←hq1]at hq0lt
     have m1:IntKind.u64.wrap ((p:Int) *4294967296)=((p*4294967296:Nat):Int):=qc0 (y:=4294967296) (by omega)
     have m2:IntKind.u64.wrap (((p*4294967296:Nat):Int)+(q':Int))=((p*4294967296+q':Nat):Int):=qdm (by omega)
     have m3:=qnp (U:=dgN U u1%dgY a b) (u:=u0) hq1 D.d1.pos D.y64
     obtain⟨z1,z2⟩:=D.quo
     refine gg rfl ?_
     rw[m1,m2,m3]
     refine q1d (dgN (dgN U u1%dgY a b) u0%dgY a b) s rfl rfl rfl rfl (by show s≤64;have:=D.n.s63;omega) ?_
     refine gg rfl (q09 rfl rfl rfl trivial ?_)
     rw[z2,←z1,hp,hq1]
    rw[q0I]at g2
    exact gg rfl (q04 (hN (q-1,r+a) ⟨k2,by show r+a<_;omega⟩ (by show q-1<q;omega) (q03 rfl trivial rfl)))
   rw[q0I]at g1
   refine gg rfl ?_
   rw[w1 (by omega),w2,w3]
   refine q01 rfl (fun g2=>?_) (fun g2=>?_)
   ·rw[q06]at g2
    obtain⟨k1,k2,k3⟩:=body (.inr (by omega))
    have w4:IntKind.u64.wrap ((q:Int)-1)=((q-1:Nat):Int):=qrN (y:=1) k1 (by omega)
    refine gg rfl ?_
    rw[w4,w5]
    refine q01 rfl (fun g3=>?_) (fun g3=>?_)
    ·rw[q0G]at g3
     have hq1:=DD.stop k2 k3 (by omega)
     generalize q-1=q' at*
     refine gg rfl (q04 ?_)
     have hq0lt:=D.d0.qlt
     rw[←hq1]at hq0lt
     have m1:IntKind.u64.wrap ((p:Int) *4294967296)=((p*4294967296:Nat):Int):=qc0 (y:=4294967296) (by omega)
     have m2:IntKind.u64.wrap (((p*4294967296:Nat):Int)+(q':Int))=((p*4294967296+q':Nat):Int):=qdm (by omega)
     have m3:=qnp (U:=dgN U u1%dgY a b) (u:=u0) hq1 D.d1.pos D.y64
     obtain⟨z1,z2⟩:=D.quo
     refine gg rfl ?_
     rw[m1,m2,m3]
     refine q1d (dgN (dgN U u1%dgY a b) u0%dgY a b) s rfl rfl rfl rfl (by show s≤64;have:=D.n.s63;omega) ?_
     refine gg rfl (q09 rfl rfl rfl trivial ?_)
     rw[z2,←z1,hp,hq1]
    rw[q0I]at g3
    exact gg rfl (q04 (hN (q-1,r+a) ⟨k2,by show r+a<_;omega⟩ (by show q-1<q;omega) (q03 rfl trivial rfl)))
   rw[q07]at g2
   have hq1:=DD.fin hi1 (by omega)
   refine gg rfl (q04 ?_)
   have hq0lt:=D.d0.qlt
   rw[←hq1]at hq0lt
   have m1:IntKind.u64.wrap ((p:Int) *4294967296)=((p*4294967296:Nat):Int):=qc0 (y:=4294967296) (by omega)
   have m2:IntKind.u64.wrap (((p*4294967296:Nat):Int)+(q:Int))=((p*4294967296+q:Nat):Int):=qdm (by omega)
   have m3:=qnp (U:=dgN U u1%dgY a b) (u:=u0) hq1 D.d1.pos D.y64
   obtain⟨z1,z2⟩:=D.quo
   refine gg rfl ?_
   rw[m1,m2,m3]
   refine q1d (dgN (dgN U u1%dgY a b) u0%dgY a b) s rfl rfl rfl rfl (by show s≤64;have:=D.n.s63;omega) ?_
   refine gg rfl (q09 rfl rfl rfl trivial ?_)
   rw[z2,←z1,hp,hq1]
  rw[q0I]at g2
  exact gg rfl (q04 (hN (q-1,r+a) ⟨k2,by show r+a<_;omega⟩ (by show q-1<q;omega) (q03 rfl trivial rfl)))
 rw[q0I]at g1
 refine gg rfl ?_
 rw[w1 (by omega),w2,w3]
 refine q01 rfl (fun g2=>?_) (fun g2=>?_)
 ·rw[q06]at g2
  obtain⟨k1,k2,k3⟩:=body (.inr (by omega))
  have w4:IntKind.u64.wrap ((q:Int)-1)=((q-1:Nat):Int):=qrN (y:=1) k1 (by omega)
  refine gg rfl ?_
  rw[w4,w5]
  refine q01 rfl (fun g3=>?_) (fun g3=>?_)
  ·rw[q0G]at g3
   have hq1:=DD.stop k2 k3 (by omega)
   generalize q-1=q' at*
   refine gg rfl (q04 ?_)
   have hp:=hq1
   have hplt:=D.d1.qlt
   rw[←hp]at hplt
   clear hq1
   generalize q'=p at hp hplt
   have hrm:=qnp (U:=U) (u:=u1) hp D.d1.pos D.y64
   refine gg rfl ?_
   rw[hrm]
   have DD:=D.d0
   have hV:dgN U u1%dgY a b<18446744073709551616:=Nat.lt_trans DD.lt D.y64
   clear hi1 hN
   refine q3e (dgN U u1%dgY a b) a rfl rfl rfl rfl (by have:=D.a1;omega) (q0F (Nat.lt_of_le_of_lt (Nat.div_le_self _ _) hV)) ?_
   refine gg rfl ?_
   rw[qnW hV]
   refine q0l (S:=fun x:Nat×Nat=>([.int .u64 (dgY a b:Nat),.int .u64 s,.int .u64 a,.int .u64 b,.int .u64 u0,.int .u64 p,.int .u64 x.2,.int .u64 ((dgN U u1%dgY a b:Nat):Int),.int .u64 x.1],[none,none,none,none,none,none,none,none,none],[0,0,0,0,0,0,0,0,0])) (C:=fun x=>DgI (dgN U u1%dgY a b) u0 a b x.1 x.2∧x.2<4294967296) (m:=fun x=>x.1) ((dgN U u1%dgY a b)/a,(dgN U u1%dgY a b)%a) ⟨DD.start,Nat.lt_trans (Nat.mod_lt _ (by have:=D.a1;omega)) D.a2⟩ (by have:=DD.start.hq;show _/a<_;omega) ?_ ?_
   ·exact q03 rfl trivial rfl
   rintro⟨q,r⟩ ⟨hi1,hr⟩ N hN
   simp only at hi1 hr
   have hq:=hi1.hq
   have hb':=D.b2
   have w1:q<4294967296→IntKind.u64.wrap ((q:Int) *(b:Int))=((q*b:Nat):Int):=fun h=>qc0 (by have:=q65 h hb';omega)
   have w2:IntKind.u64.wrap ((4294967296:Int) *(r:Int))=((4294967296*r:Nat):Int):=qc0 (x:=4294967296) (by omega)
   have w3:IntKind.u64.wrap (((4294967296*r:Nat):Int)+(u0:Int))=((4294967296*r+u0:Nat):Int):=qdm (by have:=DD.hu;omega)
   have body:(4294967296≤q∨r*4294967296+u0<q*b)→1≤q∧DgI (dgN U u1%dgY a b) u0 a b (q-1) (r+a)∧q-1≤4294967296:=DD.step hi1
   have a2:=D.a2
   have w5:IntKind.u64.wrap ((r:Int)+(a:Int))=((r+a:Nat):Int):=qdm (by omega)
   refine gg rfl (q08 rfl (fun g1=>?_) (fun g1=>?_))
   ·rw[q0G]at g1
    obtain⟨k1,k2,k3⟩:=body (.inl (by omega))
    have w4:IntKind.u64.wrap ((q:Int)-1)=((q-1:Nat):Int):=qrN (y:=1) k1 (by omega)
    refine gg rfl (q0d rfl (gg rfl ?_))
    rw[w4,w5]
    refine q01 rfl (fun g2=>?_) (fun g2=>?_)
    ·rw[q0G]at g2
     have hq1:=DD.stop k2 k3 (by omega)
     generalize q-1=q' at*
     refine gg rfl (q04 ?_)
     have hq0lt:=D.d0.qlt
     rw[←hq1]at hq0lt
     have m1:IntKind.u64.wrap ((p:Int) *4294967296)=((p*4294967296:Nat):Int):=qc0 (y:=4294967296) (by omega)
     have m2:IntKind.u64.wrap (((p*4294967296:Nat):Int)+(q':Int))=((p*4294967296+q':Nat):Int):=qdm (by omega)
     have m3:=qnp (U:=dgN U u1%dgY a b) (u:=u0) hq1 D.d1.pos D.y64
     obtain⟨z1,z2⟩:=D.quo
     refine gg rfl ?_
     rw[m1,m2,m3]
     refine q1d (dgN (dgN U u1%dgY a b) u0%dgY a b) s rfl rfl rfl rfl (by show s≤64;have:=D.n.s63;omega) ?_
     refine gg rfl (q09 rfl rfl rfl trivial ?_)
     rw[z2,←z1,hp,hq1]
    rw[q0I]at g2
    exact gg rfl (q04 (hN (q-1,r+a) ⟨k2,by show r+a<_;omega⟩ (by show q-1<q;omega) (q03 rfl trivial rfl)))
   rw[q0I]at g1
   refine gg rfl ?_
   rw[w1 (by omega),w2,w3]
   refine q01 rfl (fun g2=>?_) (fun g2=>?_)
   ·rw[q06]at g2
    obtain⟨k1,k2,k3⟩:=body (.inr (by omega))
    have w4:IntKind.u64.wrap ((q:Int)-1)=((q-1:Nat):Int):=qrN (y:=1) k1 (by omega)
    refine gg rfl ?_
    rw[w4,w5]
    refine q01 rfl (fun g3=>?_) (fun g3=>?_)
    ·rw[q0G]at g3
     have hq1:=DD.stop k2 k3 (by omega)
     generalize q-1=q' at*
     refine gg rfl (q04 ?_)
     have hq0lt:=D.d0.qlt
     rw[←hq1]at hq0lt
     have m1:IntKind.u64.wrap ((p:Int) *4294967296)=((p*4294967296:Nat):Int):=qc0 (y:=4294967296) (by omega)
     have m2:IntKind.u64.wrap (((p*4294967296:Nat):Int)+(q':Int))=((p*4294967296+q':Nat):Int):=qdm (by omega)
     have m3:=qnp (U:=dgN U u1%dgY a b) (u:=u0) hq1 D.d1.pos D.y64
     obtain⟨z1,z2⟩:=D.quo
     refine gg rfl ?_
     rw[m1,m2,m3]
     refine q1d (dgN (dgN U u1%dgY a b) u0%dgY a b) s rfl rfl rfl rfl (by show s≤64;have:=D.n.s63;omega) ?_
     refine gg rfl (q09 rfl rfl rfl trivial ?_)
     rw[z2,←z1,hp,hq1]
    rw[q0I]at g3
    exact gg rfl (q04 (hN (q-1,r+a) ⟨k2,by show r+a<_;omega⟩ (by show q-1<q;omega) (q03 rfl trivial rfl)))
   rw[q07]at g2
   have hq1:=DD.fin hi1 (by omega)
   refine gg rfl (q04 ?_)
   have hq0lt:=D.d0.qlt
   rw[←hq1]at hq0lt
   have m1:IntKind.u64.wrap ((p:Int) *4294967296)=((p*4294967296:Nat):Int):=qc0 (y:=4294967296) (by omega)
   have m2:IntKind.u64.wrap (((p*4294967296:Nat):Int)+(q:Int))=((p*4294967296+q:Nat):Int):=qdm (by omega)
   have m3:=qnp (U:=dgN U u1%dgY a b) (u:=u0) hq1 D.d1.pos D.y64
   obtain⟨z1,z2⟩:=D.quo
   refine gg rfl ?_
   rw[m1,m2,m3]
   refine q1d (dgN (dgN U u1%dgY a b) u0%dgY a b) s rfl rfl rfl rfl (by show s≤64;have:=D.n.s63;omega) ?_
   refine gg rfl (q09 rfl rfl rfl trivial ?_)
   rw[z2,←z1,hp,hq1]
  rw[q0I]at g3
  exact gg rfl (q04 (hN (q-1,r+a) ⟨k2,by show r+a<_;omega⟩ (by show q-1<q;omega) (q03 rfl trivial rfl)))
 rw[q07]at g2
 have hq1:=DD.fin hi1 (by omega)
 refine gg rfl (q04 ?_)
 have hp:=hq1
 have hplt:=D.d1.qlt
 rw[←hp]at hplt
 clear hq1
 generalize q=p at hp hplt
 have hrm:=qnp (U:=U) (u:=u1) hp D.d1.pos D.y64
 refine gg rfl ?_
 rw[hrm]
 have DD:=D.d0
 have hV:dgN U u1%dgY a b<18446744073709551616:=Nat.lt_trans DD.lt D.y64
 clear hi1 hN
 refine q3e (dgN U u1%dgY a b) a rfl rfl rfl rfl (by have:=D.a1;omega) (q0F (Nat.lt_of_le_of_lt (Nat.div_le_self _ _) hV)) ?_
 refine gg rfl ?_
 rw[qnW hV]
 refine q0l (S:=fun x:Nat×Nat=>([.int .u64 (dgY a b:Nat),.int .u64 s,.int .u64 a,.int .u64 b,.int .u64 u0,.int .u64 p,.int .u64 x.2,.int .u64 ((dgN U u1%dgY a b:Nat):Int),.int .u64 x.1],[none,none,none,none,none,none,none,none,none],[0,0,0,0,0,0,0,0,0])) (C:=fun x=>DgI (dgN U u1%dgY a b) u0 a b x.1 x.2∧x.2<4294967296) (m:=fun x=>x.1) ((dgN U u1%dgY a b)/a,(dgN U u1%dgY a b)%a) ⟨DD.start,Nat.lt_trans (Nat.mod_lt _ (by have:=D.a1;omega)) D.a2⟩ (by have:=DD.start.hq;show _/a<_;omega) ?_ ?_
 ·exact q03 rfl trivial rfl
 rintro⟨q,r⟩ ⟨hi1,hr⟩ N hN
 simp only at hi1 hr
 have hq:=hi1.hq
 have hb':=D.b2
 have w1:q<4294967296→IntKind.u64.wrap ((q:Int) *(b:Int))=((q*b:Nat):Int):=fun h=>qc0 (by have:=q65 h hb';omega)
 have w2:IntKind.u64.wrap ((4294967296:Int) *(r:Int))=((4294967296*r:Nat):Int):=qc0 (x:=4294967296) (by omega)
 have w3:IntKind.u64.wrap (((4294967296*r:Nat):Int)+(u0:Int))=((4294967296*r+u0:Nat):Int):=qdm (by have:=DD.hu;omega)
 have body:(4294967296≤q∨r*4294967296+u0<q*b)→1≤q∧DgI (dgN U u1%dgY a b) u0 a b (q-1) (r+a)∧q-1≤4294967296:=DD.step hi1
 have a2:=D.a2
 have w5:IntKind.u64.wrap ((r:Int)+(a:Int))=((r+a:Nat):Int):=qdm (by omega)
 refine gg rfl (q08 rfl (fun g1=>?_) (fun g1=>?_))
 ·rw[q0G]at g1
  obtain⟨k1,k2,k3⟩:=body (.inl (by omega))
  have w4:IntKind.u64.wrap ((q:Int)-1)=((q-1:Nat):Int):=qrN (y:=1) k1 (by omega)
  refine gg rfl (q0d rfl (gg rfl ?_))
  rw[w4,w5]
  refine q01 rfl (fun g2=>?_) (fun g2=>?_)
  ·rw[q0G]at g2
   have hq1:=DD.stop k2 k3 (by omega)
   generalize q-1=q' at*
   refine gg rfl (q04 ?_)
   have hq0lt:=D.d0.qlt
   rw[←hq1]at hq0lt
   have m1:IntKind.u64.wrap ((p:Int) *4294967296)=((p*4294967296:Nat):Int):=qc0 (y:=4294967296) (by omega)
   have m2:IntKind.u64.wrap (((p*4294967296:Nat):Int)+(q':Int))=((p*4294967296+q':Nat):Int):=qdm (by omega)
   have m3:=qnp (U:=dgN U u1%dgY a b) (u:=u0) hq1 D.d1.pos D.y64
   obtain⟨z1,z2⟩:=D.quo
   refine gg rfl ?_
   rw[m1,m2,m3]
   refine q1d (dgN (dgN U u1%dgY a b) u0%dgY a b) s rfl rfl rfl rfl (by show s≤64;have:=D.n.s63;omega) ?_
   refine gg rfl (q09 rfl rfl rfl trivial ?_)
   rw[z2,←z1,hp,hq1]
  rw[q0I]at g2
  exact gg rfl (q04 (hN (q-1,r+a) ⟨k2,by show r+a<_;omega⟩ (by show q-1<q;omega) (q03 rfl trivial rfl)))
 rw[q0I]at g1
 refine gg rfl ?_
 rw[w1 (by omega),w2,w3]
 refine q01 rfl (fun g2=>?_) (fun g2=>?_)
 ·rw[q06]at g2
  obtain⟨k1,k2,k3⟩:=body (.inr (by omega))
  have w4:IntKind.u64.wrap ((q:Int)-1)=((q-1:Nat):Int):=qrN (y:=1) k1 (by omega)
  refine gg rfl ?_
  rw[w4,w5]
  refine q01 rfl (fun g3=>?_) (fun g3=>?_)
  ·rw[q0G]at g3
   have hq1:=DD.stop k2 k3 (by omega)
   generalize q-1=q' at*
   refine gg rfl (q04 ?_)
   have hq0lt:=D.d0.qlt
   rw[←hq1]at hq0lt
   have m1:IntKind.u64.wrap ((p:Int) *4294967296)=((p*4294967296:Nat):Int):=qc0 (y:=4294967296) (by omega)
   have m2:IntKind.u64.wrap (((p*4294967296:Nat):Int)+(q':Int))=((p*4294967296+q':Nat):Int):=qdm (by omega)
   have m3:=qnp (U:=dgN U u1%dgY a b) (u:=u0) hq1 D.d1.pos D.y64
   obtain⟨z1,z2⟩:=D.quo
   refine gg rfl ?_
   rw[m1,m2,m3]
   refine q1d (dgN (dgN U u1%dgY a b) u0%dgY a b) s rfl rfl rfl rfl (by show s≤64;have:=D.n.s63;omega) ?_
   refine gg rfl (q09 rfl rfl rfl trivial ?_)
   rw[z2,←z1,hp,hq1]
  rw[q0I]at g3
  exact gg rfl (q04 (hN (q-1,r+a) ⟨k2,by show r+a<_;omega⟩ (by show q-1<q;omega) (q03 rfl trivial rfl)))
 rw[q07]at g2
 have hq1:=DD.fin hi1 (by omega)
 refine gg rfl (q04 ?_)
 have hq0lt:=D.d0.qlt
 rw[←hq1]at hq0lt
 have m1:IntKind.u64.wrap ((p:Int) *4294967296)=((p*4294967296:Nat):Int):=qc0 (y:=4294967296) (by omega)
 have m2:IntKind.u64.wrap (((p*4294967296:Nat):Int)+(q:Int))=((p*4294967296+q:Nat):Int):=qdm (by omega)
 have m3:=qnp (U:=dgN U u1%dgY a b) (u:=u0) hq1 D.d1.pos D.y64
 obtain⟨z1,z2⟩:=D.quo
 refine gg rfl ?_
 rw[m1,m2,m3]
 refine q1d (dgN (dgN U u1%dgY a b) u0%dgY a b) s rfl rfl rfl rfl (by show s≤64;have:=D.n.s63;omega) ?_
 refine gg rfl (q09 rfl rfl rfl trivial ?_)
 rw[z2,←z1,hp,hq1]
end Go.F
