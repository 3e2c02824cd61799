/- Parts of the proof, part 48: Ply1, D64, D64b, D64c, Ply2, Gr2, Map1, St2, St3, St4, St5, SPl, V1, V2, V3, V4, V5, V6, SBs, V7, Nst, SRow, V8, V13, Nst2. -/
import Derived.Test.YtakaifogljbgoaaGreatZ47
import Derived.Test.YtakaifogljbgoaaGreatZ45
set_option linter.all false
namespace Go.F
attribute [local irreducible] IntKind.wrap wpM
theorem q9r {x S:Nat}(hY:x/2^S<256)(h0:S≠0→x/2^S≠0):S+(q2v (x/2^S)).toNat=bl x:=by
 obtain⟨_,g2,g3,g4⟩:=q2i (x/2^S) hY
 have hx:x<(x/2^S+1) *2^S:=by
  have:=Nat.div_add_mod x (2^S)
  have h2:=Nat.mod_lt x (Nat.pow_pos (n:=S) (show 0<2 by decide))
  rw[Nat.add_mul,Nat.mul_comm (x/2^S)];omega
 by_cases hy0:x/2^S=0
 ·have hS:S=0:=by
   rcases Nat.eq_zero_or_pos S with h|h
   ·exact h
   exact absurd hy0 (h0 (by omega))
  subst hS
  rw[Nat.pow_zero,Nat.div_one]at hy0
  subst hy0
  decide+kernel
 have hd:x/2^S*2^S≤x:=Nat.div_mul_le_self _ _
 have g4:=g4 hy0
 generalize (q2v (x/2^S)).toNat=e at*
 generalize x/2^S=Y at*
 have h1:x<2^(S+e):=by
  rw[Nat.pow_add]
  calc x<(Y+1) *2^S:=hx
   _≤2^e*2^S:=Nat.mul_le_mul_right _ g3
   _=2^S*2^e:=Nat.mul_comm _ _
 have h2:2^(S+e)≤2*x:=by
  rw[Nat.pow_add]
  calc 2^S*2^e≤2^S*(2*Y):=Nat.mul_le_mul_left _ g4
   _=2*(Y*2^S):=by ac_rfl
   _≤2*x:=Nat.mul_le_mul_left _ hd
 have hx0:x≠0:=by rintro rfl;have:=Nat.pow_pos (n:=S+e) (show 0<2 by decide);omega
 unfold bl
 rw[if_neg hx0]
 have a1:=(Nat.log2_lt hx0).2 h1
 have a2:S+e-1≤x.log2:=by
  rcases Nat.eq_zero_or_pos (S+e)with h|h
  ·omega
  refine(Nat.le_log2 hx0).2 ?_
  have:2^(S+e)=2*2^(S+e-1):=by rw[←Nat.pow_succ'];congr 1;omega
  omega
 omega
set_option maxHeartbeats 4000000 in
theorem qxm (x:Nat)(hx:x<18446744073709551616):PU qu1 [.int .u64 x]=some (.int .i64 (bl x)):=by
 refine q0g (fn:=qhr) rfl (q0a ?_)
 refine gg rfl (q01 rfl (fun g1=>?_) (fun g1=>?_))
 ·rw[q0E]at g1
  refine gg rfl (q19 x 32 rfl rfl rfl rfl (by decide) ?_)
  refine gg rfl (q01 rfl (fun g2=>?_) (fun g2=>?_))
  ·rw[q0E]at g2
   refine gg rfl (q19 ((x/2^32)) 16 rfl rfl rfl rfl (by decide) ?_)
   refine gg rfl (q01 rfl (fun g3=>?_) (fun g3=>?_))
   ·rw[q0E]at g3
    refine gg rfl (q19 (((x/2^32)/2^16)) 8 rfl rfl rfl rfl (by decide) ?_)
    have eY:(((x/2^32)/2^16)/2^8)=x/2^56:=by simp only[Nat.div_div_eq_div_mul];try rfl
    have hy:x/2^56<256:=by rw[←eY];omega
    have hfin:=q9r (x:=x) (S:=56) hy (fun h=>by rw[←eY];omega)
    rw[eY]
    obtain⟨_,g2,g3,g4⟩:=q2i (x/2^56) hy
    have w8:IntKind.u8.wrap ((x/2^56:Nat):Int)=((x/2^56:Nat):Int):=by simp only[IntKind.wrap,IntKind.bits,IntKind.signed];simp;omega
    have w9:=ww (x:=(((q2v (x/2^56)).toNat:Nat):Int))
    refine gg rfl (q2f (x/2^56) rfl rfl w8 (q5i hy) (gg rfl (q08 rfl rfl rfl trivial ?_)))
    rw[w9,←hfin]
    congr 1
    try simp only[wrap64 (x:=32+16) (by decide) (by decide),wrap64 (x:=32+8) (by decide) (by decide),wrap64 (x:=48+8) (by decide) (by decide),wrap64 (x:=0+16) (by decide) (by decide),wrap64 (x:=0+8) (by decide) (by decide),wrap64 (x:=16+8) (by decide) (by decide),wrap64 (x:=32+16+8) (by decide) (by decide),wrap64 (x:=0+16+8) (by decide) (by decide)]
    rw[wrap64 (by omega) (by omega)]
    omega
   rw[q0F]at g3
   have eY:(((x/2^32)/2^16))=x/2^48:=by simp only[Nat.div_div_eq_div_mul];try rfl
   have hy:x/2^48<256:=by rw[←eY];omega
   have hfin:=q9r (x:=x) (S:=48) hy (fun h=>by rw[←eY];omega)
   rw[eY]
   obtain⟨_,g2,g3,g4⟩:=q2i (x/2^48) hy
   have w8:IntKind.u8.wrap ((x/2^48:Nat):Int)=((x/2^48:Nat):Int):=by simp only[IntKind.wrap,IntKind.bits,IntKind.signed];simp;omega
   have w9:=ww (x:=(((q2v (x/2^48)).toNat:Nat):Int))
   refine gg rfl (q2f (x/2^48) rfl rfl w8 (q5i hy) (gg rfl (q08 rfl rfl rfl trivial ?_)))
   rw[w9,←hfin]
   congr 1
   try simp only[wrap64 (x:=32+16) (by decide) (by decide),wrap64 (x:=32+8) (by decide) (by decide),wrap64 (x:=48+8) (by decide) (by decide),wrap64 (x:=0+16) (by decide) (by decide),wrap64 (x:=0+8) (by decide) (by decide),wrap64 (x:=16+8) (by decide) (by decide),wrap64 (x:=32+16+8) (by decide) (by decide),wrap64 (x:=0+16+8) (by decide) (by decide)]
   rw[wrap64 (by omega) (by omega)]
   omega
  rw[q0F]at g2
  refine gg rfl (q01 rfl (fun g3=>?_) (fun g3=>?_))
  ·rw[q0E]at g3
   refine gg rfl (q19 (((x/2^32))) 8 rfl rfl rfl rfl (by decide) ?_)
   have eY:(((x/2^32))/2^8)=x/2^40:=by simp only[Nat.div_div_eq_div_mul];try rfl
   have hy:x/2^40<256:=by rw[←eY];omega
   have hfin:=q9r (x:=x) (S:=40) hy (fun h=>by rw[←eY];omega)
   rw[eY]
   obtain⟨_,g2,g3,g4⟩:=q2i (x/2^40) hy
   have w8:IntKind.u8.wrap ((x/2^40:Nat):Int)=((x/2^40:Nat):Int):=by simp only[IntKind.wrap,IntKind.bits,IntKind.signed];simp;omega
   have w9:=ww (x:=(((q2v (x/2^40)).toNat:Nat):Int))
   refine gg rfl (q2f (x/2^40) rfl rfl w8 (q5i hy) (gg rfl (q08 rfl rfl rfl trivial ?_)))
   rw[w9,←hfin]
   congr 1
   try simp only[wrap64 (x:=32+16) (by decide) (by decide),wrap64 (x:=32+8) (by decide) (by decide),wrap64 (x:=48+8) (by decide) (by decide),wrap64 (x:=0+16) (by decide) (by decide),wrap64 (x:=0+8) (by decide) (by decide),wrap64 (x:=16+8) (by decide) (by decide),wrap64 (x:=32+16+8) (by decide) (by decide),wrap64 (x:=0+16+8) (by decide) (by decide)]
   rw[wrap64 (by omega) (by omega)]
   omega
  rw[q0F]at g3
  have eY:(((x/2^32)))=x/2^32:=by simp only[Nat.div_div_eq_div_mul];try rfl
  have hy:x/2^32<256:=by rw[←eY];omega
  have hfin:=q9r (x:=x) (S:=32) hy (fun h=>by rw[←eY];omega)
  rw[eY]
  obtain⟨_,g2,g3,g4⟩:=q2i (x/2^32) hy
  have w8:IntKind.u8.wrap ((x/2^32:Nat):Int)=((x/2^32:Nat):Int):=by simp only[IntKind.wrap,IntKind.bits,IntKind.signed];simp;omega
  have w9:=ww (x:=(((q2v (x/2^32)).toNat:Nat):Int))
  refine gg rfl (q2f (x/2^32) rfl rfl w8 (q5i hy) (gg rfl (q08 rfl rfl rfl trivial ?_)))
  rw[w9,←hfin]
  congr 1
  try simp only[wrap64 (x:=32+16) (by decide) (by decide),wrap64 (x:=32+8) (by decide) (by decide),wrap64 (x:=48+8) (by decide) (by decide),wrap64 (x:=0+16) (by decide) (by decide),wrap64 (x:=0+8) (by decide) (by decide),wrap64 (x:=16+8) (by decide) (by decide),wrap64 (x:=32+16+8) (by decide) (by decide),wrap64 (x:=0+16+8) (by decide) (by decide)]
  rw[wrap64 (by omega) (by omega)]
  omega
 rw[q0F]at g1
 refine gg rfl (q01 rfl (fun g2=>?_) (fun g2=>?_))
 ·rw[q0E]at g2
  refine gg rfl (q19 (x) 16 rfl rfl rfl rfl (by decide) ?_)
  refine gg rfl (q01 rfl (fun g3=>?_) (fun g3=>?_))
  ·rw[q0E]at g3
   refine gg rfl (q19 ((x/2^16)) 8 rfl rfl rfl rfl (by decide) ?_)
   have eY:((x/2^16)/2^8)=x/2^24:=by simp only[Nat.div_div_eq_div_mul];try rfl
   have hy:x/2^24<256:=by rw[←eY];omega
   have hfin:=q9r (x:=x) (S:=24) hy (fun h=>by rw[←eY];omega)
   rw[eY]
   obtain⟨_,g2,g3,g4⟩:=q2i (x/2^24) hy
   have w8:IntKind.u8.wrap ((x/2^24:Nat):Int)=((x/2^24:Nat):Int):=by simp only[IntKind.wrap,IntKind.bits,IntKind.signed];simp;omega
   have w9:=ww (x:=(((q2v (x/2^24)).toNat:Nat):Int))
   refine gg rfl (q2f (x/2^24) rfl rfl w8 (q5i hy) (gg rfl (q08 rfl rfl rfl trivial ?_)))
   rw[w9,←hfin]
   congr 1
   try simp only[wrap64 (x:=32+16) (by decide) (by decide),wrap64 (x:=32+8) (by decide) (by decide),wrap64 (x:=48+8) (by decide) (by decide),wrap64 (x:=0+16) (by decide) (by decide),wrap64 (x:=0+8) (by decide) (by decide),wrap64 (x:=16+8) (by decide) (by decide),wrap64 (x:=32+16+8) (by decide) (by decide),wrap64 (x:=0+16+8) (by decide) (by decide)]
   rw[wrap64 (by omega) (by omega)]
   omega
  rw[q0F]at g3
  have eY:((x/2^16))=x/2^16:=by simp only[Nat.div_div_eq_div_mul];try rfl
  have hy:x/2^16<256:=by rw[←eY];omega
  have hfin:=q9r (x:=x) (S:=16) hy (fun h=>by rw[←eY];omega)
  rw[eY]
  obtain⟨_,g2,g3,g4⟩:=q2i (x/2^16) hy
  have w8:IntKind.u8.wrap ((x/2^16:Nat):Int)=((x/2^16:Nat):Int):=by simp only[IntKind.wrap,IntKind.bits,IntKind.signed];simp;omega
  have w9:=ww (x:=(((q2v (x/2^16)).toNat:Nat):Int))
  refine gg rfl (q2f (x/2^16) rfl rfl w8 (q5i hy) (gg rfl (q08 rfl rfl rfl trivial ?_)))
  rw[w9,←hfin]
  congr 1
  try simp only[wrap64 (x:=32+16) (by decide) (by decide),wrap64 (x:=32+8) (by decide) (by decide),wrap64 (x:=48+8) (by decide) (by decide),wrap64 (x:=0+16) (by decide) (by decide),wrap64 (x:=0+8) (by decide) (by decide),wrap64 (x:=16+8) (by decide) (by decide),wrap64 (x:=32+16+8) (by decide) (by decide),wrap64 (x:=0+16+8) (by decide) (by decide)]
  rw[wrap64 (by omega) (by omega)]
  omega
 rw[q0F]at g2
 refine gg rfl (q01 rfl (fun g3=>?_) (fun g3=>?_))
 ·rw[q0E]at g3
  refine gg rfl (q19 ((x)) 8 rfl rfl rfl rfl (by decide) ?_)
  have eY:((x)/2^8)=x/2^8:=by simp only[Nat.div_div_eq_div_mul];try rfl
  have hy:x/2^8<256:=by rw[←eY];omega
  have hfin:=q9r (x:=x) (S:=8) hy (fun h=>by rw[←eY];omega)
  rw[eY]
  obtain⟨_,g2,g3,g4⟩:=q2i (x/2^8) hy
  have w8:IntKind.u8.wrap ((x/2^8:Nat):Int)=((x/2^8:Nat):Int):=by simp only[IntKind.wrap,IntKind.bits,IntKind.signed];simp;omega
  have w9:=ww (x:=(((q2v (x/2^8)).toNat:Nat):Int))
  refine gg rfl (q2f (x/2^8) rfl rfl w8 (q5i hy) (gg rfl (q08 rfl rfl rfl trivial ?_)))
  rw[w9,←hfin]
  congr 1
  try simp only[wrap64 (x:=32+16) (by decide) (by decide),wrap64 (x:=32+8) (by decide) (by decide),wrap64 (x:=48+8) (by decide) (by decide),wrap64 (x:=0+16) (by decide) (by decide),wrap64 (x:=0+8) (by decide) (by decide),wrap64 (x:=16+8) (by decide) (by decide),wrap64 (x:=32+16+8) (by decide) (by decide),wrap64 (x:=0+16+8) (by decide) (by decide)]
  rw[wrap64 (by omega) (by omega)]
  omega
 rw[q0F]at g3
 have hy:x<256:=by omega
 have hfin:=q9r (x:=x) (S:=0) (by simpa using hy) (fun h=>absurd rfl h)
 rw[Nat.pow_zero,Nat.div_one,Nat.zero_add]at hfin
 obtain⟨_,g2,g3,g4⟩:=q2i x hy
 have w8:IntKind.u8.wrap (x:Int)=(x:Int):=by simp only[IntKind.wrap,IntKind.bits,IntKind.signed];simp;omega
 have w9:=ww (x:=(((q2v x).toNat:Nat):Int))
 refine gg rfl (q2f x rfl rfl w8 (q5i hy) (gg rfl (q08 rfl rfl rfl trivial ?_)))
 rw[w9,←hfin,wrap64 (by omega) (by omega)]
 congr 1
 omega
theorem qxn (x:Nat)(hx:x<18446744073709551616):PU qze [.int .u64 x]=some (.int .i64 (bl x)):=by
 refine q0g (fn:=qnv) rfl (q0a ?_)
 exact gg rfl (q0j rfl (gg rfl (q02 rfl rfl (qxm x hx) (gg rfl (q08 rfl rfl rfl trivial rfl)))))
def qpG (n:Nat):Nat:=qmc n 32 0
theorem qjD {n:Nat}(h:n<2^64):qpG n*qpG n≤n∧n<(qpG n+1) *(qpG n+1):=
 qrD n 32 0 (Nat.zero_le _) (by simp;omega)
theorem qxo {n r:Nat}(h:n<2^64)(h1:r*r≤n)(h2:n<(r+1) *(r+1)):r=qpG n:=by
 obtain⟨g1,g2⟩:=qjD h
 have:=qgI (Nat.lt_of_le_of_lt h1 g2)
 have:=qgI (Nat.lt_of_le_of_lt g1 h2)
 omega
theorem newton {n x:Nat}(hx:0<x):n<((x+n/x)/2+1) *((x+n/x)/2+1):=by
 have h1:n<x*(n/x+1):=by
  have:=Nat.div_add_mod n x
  have h2:=Nat.mod_lt n hx
  rw[Nat.mul_add];omega
 generalize n/x=q at*
 have h2:x+(q+1)≤2*((x+q)/2+1):=by omega
 generalize (x+q)/2+1=s at*
 have h3:4*(x*(q+1))≤(x+(q+1)) *(x+(q+1)):=by
  generalize q+1=r
  rcases Nat.le_total x r with h|h
  ·obtain⟨d,rfl⟩:∃d,r=x+d:=⟨r-x,by omega⟩
   have:(x+(x+d)) *(x+(x+d))=4*(x*(x+d))+d*d:=by grind
   omega
  obtain⟨d,rfl⟩:∃d,x=r+d:=⟨x-r,by omega⟩
  have:(r+d+r) *(r+d+r)=4*((r+d) *r)+d*d:=by grind
  omega
 have h4:(x+(q+1)) *(x+(q+1))≤(2*s) *(2*s):=Nat.mul_le_mul h2 h2
 have h5:(2*s) *(2*s)=4*(s*s):=by grind
 omega
theorem qjE (n:Nat)(hn:n<9223372036854775808):PU qmu [.int .i64 n]=some (.int .i64 (qpG n)):=by
 refine q0g (fn:=qc1) rfl (q0a ?_)
 refine gg rfl (q01 rfl (fun h1=>?_) (fun h1=>?_))
 ·rw[q06]at h1
  refine gg rfl (q08 rfl rfl rfl trivial ?_)
  have:n=0∨n=1:=by omega
  rcases this with rfl|rfl<;>rfl
 rw[q07]at h1
 have wu:IntKind.u64.wrap (n:Int)=(n:Int):=q0C (by omega)
 have hbl:bl n≤63:=by
  unfold bl
  rw[if_neg (by omega)]
  have:=(Nat.log2_lt (n:=n) (k:=63) (by omega)).2 (by omega)
  omega
 have hblt:n<2^bl n:=by
  unfold bl
  rw[if_neg (by omega)]
  exact(Nat.log2_lt (by omega)).1 (Nat.lt_succ_self _)
 have w1:IntKind.i64.wrap ((bl n:Int)+1)=((bl n+1:Nat):Int):=ww
 refine gg rfl ?_
 rw[wu]
 refine q02 rfl rfl (qxn n (by omega)) ?_
 refine gg rfl ?_
 rw[w1]
 refine q2Z (bl n+1) 2 rfl rfl rfl rfl (by decide) (wrap64 (by omega) (by omega)) ?_
 refine gg rfl ?_
 have hk:(bl n+1)/2≤32:=by omega
 have hp:2^((bl n+1)/2)≤4294967296:=by
  have:=Nat.pow_le_pow_right (show 0<2 by decide) hk
  omega
 have hp0:0<2^((bl n+1)/2):=Nat.pow_pos (by decide)
 have hsq:n<(2^((bl n+1)/2)+1) *(2^((bl n+1)/2)+1):=by
  have e:2^bl n≤2^((bl n+1)/2) *2^((bl n+1)/2):=by rw[←Nat.pow_add];exact Nat.pow_le_pow_right (by decide) (by omega)
  have e2:2^((bl n+1)/2) *2^((bl n+1)/2)≤(2^((bl n+1)/2)+1) *(2^((bl n+1)/2)+1):=Nat.mul_le_mul (by omega) (by omega)
  omega
 generalize hX:2^((bl n+1)/2)=X at*
 refine q6w 1 ((bl n+1)/2) rfl rfl rfl rfl (by show(bl n+1)/2≤64;omega) (by rw[hX,Nat.one_mul];exact wrap64 (by omega) (by omega)) ?_
 rw[hX,Nat.one_mul]
 refine gg rfl (q0l (S:=fun x:Nat=>([q00 n,q00 x],[none,none],[0,0])) (C:=fun x=>0<x∧x≤4294967296∧n<(x+1) *(x+1)) (m:=fun x=>x) X ⟨hp0,hp,hsq⟩ (by omega) ?_ ?_)
 ·exact q03 rfl trivial (by simp[q00])
 rintro x ⟨hx0,hx1,hx2⟩ N hN
 have hq:n/x≤n:=Nat.div_le_self _ _
 have w2:IntKind.i64.wrap ((x:Int)+((n/x:Nat):Int))=((x+n/x:Nat):Int):=by rw[←Int.natCast_add];exact qcJ (by
  have h2:n/x*x≤n:=Nat.div_mul_le_self _ _
  rcases Nat.lt_or_ge x 2 with h|h
  ·obtain rfl:x=1:=by omega
   simp at hx2;omega
  have:n/x*2≤n/x*x:=Nat.mul_le_mul_left _ h
  omega)
 have hne:=newton (n:=n) hx0
 refine gg rfl (q2Z n x rfl rfl rfl rfl (by omega) (qcJ (by omega)) ?_)
 refine gg rfl ?_
 rw[w2]
 refine q2Z (x+n/x) 2 rfl rfl rfl rfl (by decide) (qcJ (by omega)) ?_
 refine gg rfl (q01 rfl (fun g=>?_) (fun g=>?_))
 ·rw[q0E]at g
  have g':x≤(x+n/x)/2:=by omega
  have hxx:x*x≤n:=by
   have:x≤n/x:=by omega
   have h2:=Nat.div_mul_le_self n x
   have h3:=Nat.mul_le_mul_right x this
   omega
  refine gg rfl (q04 (gg rfl (q08 rfl rfl rfl trivial ?_)))
  rw[qxo (n:=n) (r:=x) (by omega) hxx hx2]
 rw[q0F]at g
 have g':(x+n/x)/2<x:=by omega
 have hy0:0<(x+n/x)/2:=by
  rcases Nat.lt_or_ge x 2 with h|h
  ·obtain rfl:x=1:=by omega
   rw[Nat.div_one]at g'⊢;omega
  clear hq w2 hne g g'
  generalize n/x=q
  omega
 exact gg rfl (q04 (hN ((x+n/x)/2) ⟨hy0,by omega,hne⟩ g' (q03 rfl trivial (by simp[q00]))))
theorem quw {a b:Spot}(ha:q0v a 1048576=true)(hb:q0v b 1048576=true):sqd a b≤8796093022208:=by
 rw[q1B]at ha hb
 have e:=q6f a b
 have b1:Bd (b.x-a.x) 2097152:=⟨by omega⟩
 have b2:Bd (b.y-a.y) 2097152:=⟨by omega⟩
 have hb:Bd ((b.x-a.x) *(b.x-a.x)+(b.y-a.y) *(b.y-a.y)) _:=inferInstance
 have:=hb.le
 omega
def qeZ (a b:Spot):Nat:=qpG (1000000*sqd a b)
theorem qux {a b:Spot}(ha:q0v a 1048576=true)(hb:q0v b 1048576=true):qeZ a b≤4294967296:=by
 have h:=quw ha hb
 obtain⟨h1,_⟩:=qjD (n:=1000000*sqd a b) (by omega)
 unfold qeZ
 have:qpG (1000000*sqd a b)<4294967296:=qgI (by omega)
 omega
theorem qKu {a b:Spot}(ha:q0v a 1048576=true)(hb:q0v b 1048576=true)(hne:a≠b):0<qeZ a b:=by
 have h:=quw ha hb
 have hp:=qb0 hne
 obtain⟨_,h2⟩:=qjD (n:=1000000*sqd a b) (by omega)
 unfold qeZ
 rcases Nat.eq_zero_or_pos (qpG (1000000*sqd a b))with g|g
 ·rw[g]at h2;omega
 exact g
theorem qf0 (a b:Spot)(ha:q0v a 1048576=true)(hb:q0v b 1048576=true):PU qgt [a.enc,b.enc]=some (.int .i64 (qeZ a b)):=by
 refine q0g (fn:=q8f) rfl (q0a ?_)
 have h:=quw ha hb
 have hse:=q6f a b
 rw[q1B]at ha hb
 have bx:Bd (b.x-a.x) 2097152:=⟨by omega⟩
 have by':Bd (b.y-a.y) 2097152:=⟨by omega⟩
 have c1:IntKind.i64.wrap (b.x-a.x)=b.x-a.x:=q0V (by decide)
 have c2:IntKind.i64.wrap (b.y-a.y)=b.y-a.y:=q0V (by decide)
 refine gg rfl ?_
 rw[c1,c2]
 have c4:IntKind.i64.wrap ((b.x-a.x) *(b.x-a.x))=(b.x-a.x) *(b.x-a.x):=q0V (by decide)
 have c5:IntKind.i64.wrap ((b.y-a.y) *(b.y-a.y))=(b.y-a.y) *(b.y-a.y):=q0V (by decide)
 have c6:IntKind.i64.wrap ((b.x-a.x) *(b.x-a.x)+(b.y-a.y) *(b.y-a.y))=(sqd a b:Int):=by rw[hse];exact q0V (by decide)
 have c7:IntKind.i64.wrap (1000000*(sqd a b:Int))=((1000000*sqd a b:Nat):Int):=by rw[wrap64 (by omega) (by omega)];omega
 rw[c4,c5,c6,c7]
 refine q02 rfl rfl (qjE (1000000*sqd a b) (by omega)) ?_
 exact gg rfl (q08 rfl rfl rfl trivial rfl)
end Go.F

namespace Go.F
structure Dg (U u a b:Nat):Prop where
 hu:u<4294967296
 a1:2147483648≤a
 a2:a<4294967296
 hb:b<4294967296
 lt:U<a*4294967296+b
def dgN (U u:Nat):Nat:=U*4294967296+u
def dgY (a b:Nat):Nat:=a*4294967296+b
theorem Dg.pos {U u a b:Nat}(h:Dg U u a b):0<dgY a b:=by have:=h.a1;unfold dgY;omega
theorem Dg.qlt {U u a b:Nat}(h:Dg U u a b):dgN U u/dgY a b<4294967296:=by
 rw[Nat.div_lt_iff_lt_mul h.pos]
 have h1:=h.lt
 have h2:=h.hu
 have:(U+1) *4294967296≤dgY a b*4294967296:=Nat.mul_le_mul_right _ h1
 unfold dgN;omega
theorem Dg.first {U u a b:Nat}(h:Dg U u a b):dgN U u/dgY a b≤U/a∧U/a≤4294967297:=by
 have h1:=h.a1
 constructor
 ·rw[Nat.le_div_iff_mul_le (by omega)]
  have hd:=Nat.div_mul_le_self (dgN U u) (dgY a b)
  generalize dgN U u/dgY a b=q at*
  unfold dgN dgY at hd
  have e:q*(a*4294967296+b)=q*a*4294967296+q*b:=by rw[Nat.mul_add,Nat.mul_assoc]
  rw[e]at hd
  have:=h.hu
  omega
 have h2:=h.lt
 have h3:=h.hb
 have:U<4294967298*a:=by omega
 have:=(Nat.div_lt_iff_lt_mul (show 0<a by omega)).2 this
 omega
structure DgI (U u a b q r:Nat):Prop where
 eq:q*a+r=U
 le:dgN U u/dgY a b≤q
 hq:q≤4294967297
theorem Dg.start {U u a b:Nat}(h:Dg U u a b):DgI U u a b (U/a) (U%a):=by
 have:=Nat.div_add_mod U a
 exact⟨by rw[Nat.mul_comm];exact this,h.first.1,h.first.2⟩
theorem qEr (q a b:Nat):q*dgY a b=q*a*4294967296+q*b:=by unfold dgY;rw[Nat.mul_add,Nat.mul_assoc]
theorem qEs {q a r U:Nat}(h:q*a+r=U)(u:Nat):dgN U u=q*a*4294967296+r*4294967296+u:=by
 unfold dgN;rw[←h,Nat.add_mul]
theorem Dg.step {U u a b q r:Nat}(h:Dg U u a b)(hi:DgI U u a b q r)(hc:4294967296≤q∨r*4294967296+u<q*b):1≤q∧DgI U u a b (q-1) (r+a)∧q-1≤4294967296:=by
 have hlt:dgN U u/dgY a b<q:=by
  rcases hc with hc|hc
  ·exact Nat.lt_of_lt_of_le h.qlt hc
  rw[Nat.div_lt_iff_lt_mul h.pos,qEr,qEs hi.eq,Nat.add_assoc]
  exact Nat.add_lt_add_left hc _
 have h1:=hi.eq
 have h2:=hi.hq
 have h3:1≤q:=Nat.lt_of_le_of_lt (Nat.zero_le _) hlt
 refine⟨h3,⟨?_,Nat.le_pred_of_lt hlt,by omega⟩,by omega⟩
 obtain⟨p,rfl⟩:∃p,q=p+1:=⟨q-1,by omega⟩
 rw[Nat.succ_mul]at h1
 rw[Nat.add_sub_cancel]
 omega
theorem Dg.fin {U u a b q r:Nat}(h:Dg U u a b)(hi:DgI U u a b q r)(hc:q*b≤r*4294967296+u):q=dgN U u/dgY a b:=by
 refine Nat.le_antisymm ?_ hi.le
 rw[Nat.le_div_iff_mul_le h.pos,qEr,qEs hi.eq,Nat.add_assoc]
 exact Nat.add_le_add_left hc _
theorem Dg.stop {U u a b q r:Nat}(h:Dg U u a b)(hi:DgI U u a b q r)(hq:q≤4294967296)(hr:4294967296≤r):q=dgN U u/dgY a b:=by
 refine h.fin hi ?_
 have h1:=h.hb
 have h2:q*b≤4294967296*4294967295:=Nat.mul_le_mul hq (Nat.le_of_lt_succ h1)
 have h3:4294967296*4294967296≤r*4294967296:=Nat.mul_le_mul_right _ hr
 exact Nat.le_trans h2 (Nat.le_trans (Nat.mul_le_mul_left _ (Nat.le_succ _)) (Nat.le_trans h3 (Nat.le_add_right _ _)))
theorem qyK (N u0 y L:Nat)(hy:0<y):N/y*L+(N%y*L+u0)/y=(N*L+u0)/y∧(N%y*L+u0)%y=(N*L+u0)%y:=by
 have e:N*L+u0=(N%y*L+u0)+y*(N/y*L):=by
  have h1:=Nat.div_add_mod N y
  have h2:N*L=y*(N/y*L)+N%y*L:=by
   conv=>lhs;rw[←h1]
   rw[Nat.add_mul,Nat.mul_assoc]
  omega
 constructor
 ·rw[e,Nat.add_mul_div_left _ _ hy,Nat.add_comm]
 rw[e,Nat.add_mul_mod_self_left]
theorem qGD (m y s:Nat)(hy:0<y):(m*2^s)/(y*2^s)=m/y∧(m*2^s)%(y*2^s)/2^s=m%y:=by
 have hp:0<2^s:=Nat.pow_pos (by decide)
 constructor
 ·exact Nat.mul_div_mul_right m y hp
 rw[Nat.mul_mod_mul_right,Nat.mul_div_cancel _ hp]
end Go.F

namespace Go.F
attribute [local irreducible] IntKind.wrap wpM
theorem qvS (x:Nat)(hx:x<18446744073709551616):IntKind.u64.wrap ((BitVec.ofInt IntKind.u64.bits (x:Int)&&&BitVec.ofInt IntKind.u64.bits 4294967295).toNat:Int)=((x%4294967296:Nat):Int):=by
 have e:IntKind.u64.bits=64:=rfl
 have h3:(BitVec.ofInt 64 4294967295).toNat=2^32-1:=by decide
 rw[e,BitVec.toNat_and,h3,Nat.and_two_pow_sub_one_eq_mod,BitVec.toNat_ofInt]
 have hq:(((x:Int)%((2^64:Nat):Int)).toNat%2^32:Nat)=x%4294967296:=by omega
 rw[hq,q0C (by omega)]
theorem or64 (a b:Nat)(s:Nat)(hb:b<2^s)(hs:2^s*a+b<18446744073709551616):IntKind.u64.wrap ((BitVec.ofInt IntKind.u64.bits ((2^s*a:Nat):Int) |||BitVec.ofInt IntKind.u64.bits (b:Int)).toNat:Int)=((2^s*a+b:Nat):Int):=by
 have e:IntKind.u64.bits=64:=rfl
 have f:∀n:Nat,n<18446744073709551616→(BitVec.ofInt 64 (n:Int)).toNat=n:=by
  intro n hn
  rw[BitVec.toNat_ofInt]
  omega
 rw[e,BitVec.toNat_or,f _ (by omega),f _ (by omega),←Nat.two_pow_add_eq_or_of_lt hb,q0C hs]
def w32 (x:Nat):Nat:=x%4294967296
def h32 (x:Nat):Nat:=x/2^32
theorem qmS (x:Nat):x=h32 x*4294967296+w32 x:=by unfold h32 w32;omega
theorem qBX (x1 x0 y1 y0:Nat)(hx:x0<4294967296)(hy:y0<4294967296):
 x1*y1+h32 (x1*y0+h32 (x0*y0))+h32 (w32 (x1*y0+h32 (x0*y0))+x0*y1)=(x1*4294967296+x0) *(y1*4294967296+y0)/18446744073709551616:=by
 have e:(x1*4294967296+x0) *(y1*4294967296+y0)=x1*y1*18446744073709551616+(x1*y0+x0*y1) *4294967296+x0*y0:=by grind
 rw[e]
 generalize x1*y1=p
 generalize x1*y0=q
 generalize x0*y1=r
 generalize x0*y0=s
 unfold h32 w32
 omega
theorem q5D {a b:Nat}(ha:a<4294967296)(hb:b<4294967296):a*b≤18446744065119617025:=
 Nat.le_trans (Nat.mul_le_mul (Nat.le_of_lt_succ ha) (Nat.le_of_lt_succ hb)) (by decide)
theorem qgd {x:Nat}(h:x<18446744073709551616):h32 x<4294967296:=by unfold h32;omega
theorem qol (x:Nat):w32 x<4294967296:=by unfold w32;omega
set_option maxHeartbeats 1000000 in
theorem qEt (x y:Nat)(hx:x<18446744073709551616)(hy:y<18446744073709551616):PU qtV [.int .u64 x,.int .u64 y]=some (.tup [.int .u64 ((x*y/18446744073709551616:Nat):Int),.int .u64 ((x*y%18446744073709551616:Nat):Int)]):=by
 have x1:=qgd hx
 have y1:=qgd hy
 have x0:=qol x
 have y0:=qol y
 have b00:=q5D x0 y0
 have b10:=q5D x1 y0
 have b01:=q5D x0 y1
 have b11:=q5D x1 y1
 have hm:=qBX (h32 x) (w32 x) (h32 y) (w32 y) x0 y0
 rw[←qmS,←qmS]at hm
 have hxy:x*y/18446744073709551616<18446744073709551616:=by
  rw[Nat.div_lt_iff_lt_mul (by decide)]
  exact Nat.mul_lt_mul_of_lt_of_le hx (Nat.le_of_lt hy) (by omega)
 have a1:=qvS x hx
 have a2:=qvS y hy
 have c1:IntKind.u64.wrap (((w32 x:Nat):Int) *((w32 y:Nat):Int))=((w32 x*w32 y:Nat):Int):=by rw[←Int.natCast_mul];exact q0C (by omega)
 have c2:IntKind.u64.wrap (((h32 x:Nat):Int) *((w32 y:Nat):Int))=((h32 x*w32 y:Nat):Int):=by rw[←Int.natCast_mul];exact q0C (by omega)
 have c3:IntKind.u64.wrap (((w32 x:Nat):Int) *((h32 y:Nat):Int))=((w32 x*h32 y:Nat):Int):=by rw[←Int.natCast_mul];exact q0C (by omega)
 have c4:IntKind.u64.wrap (((h32 x:Nat):Int) *((h32 y:Nat):Int))=((h32 x*h32 y:Nat):Int):=by rw[←Int.natCast_mul];exact q0C (by omega)
 have g0:h32 (w32 x*w32 y)<4294967296:=qgd (by omega)
 have c5:IntKind.u64.wrap (((h32 x*w32 y:Nat):Int)+((h32 (w32 x*w32 y):Nat):Int))=((h32 x*w32 y+h32 (w32 x*w32 y):Nat):Int):=by rw[←Int.natCast_add];exact q0C (by omega)
 have a3:=qvS (h32 x*w32 y+h32 (w32 x*w32 y)) (by omega)
 have g1:=qol (h32 x*w32 y+h32 (w32 x*w32 y))
 have g2:=qgd (x:=h32 x*w32 y+h32 (w32 x*w32 y)) (by omega)
 have c6:IntKind.u64.wrap (((w32 (h32 x*w32 y+h32 (w32 x*w32 y)):Nat):Int)+((w32 x*h32 y:Nat):Int))=((w32 (h32 x*w32 y+h32 (w32 x*w32 y))+w32 x*h32 y:Nat):Int):=by rw[←Int.natCast_add];exact q0C (by omega)
 have g3:=qgd (x:=w32 (h32 x*w32 y+h32 (w32 x*w32 y))+w32 x*h32 y) (by omega)
 have c7:IntKind.u64.wrap (((h32 x*h32 y:Nat):Int)+((h32 (h32 x*w32 y+h32 (w32 x*w32 y)):Nat):Int))=((h32 x*h32 y+h32 (h32 x*w32 y+h32 (w32 x*w32 y)):Nat):Int):=by rw[←Int.natCast_add];exact q0C (by omega)
 have c8:IntKind.u64.wrap (((h32 x*h32 y+h32 (h32 x*w32 y+h32 (w32 x*w32 y)):Nat):Int)+((h32 (w32 (h32 x*w32 y+h32 (w32 x*w32 y))+w32 x*h32 y):Nat):Int))=((x*y/18446744073709551616:Nat):Int):=by
  rw[←Int.natCast_add,hm];exact q0C hxy
 have c9:IntKind.u64.wrap ((x:Int) *(y:Int))=((x*y%18446744073709551616:Nat):Int):=by rw[q0U,←Int.natCast_mul];rfl
 refine q0g (fn:=qh0) rfl (q0a ?_)
 refine gg rfl ?_
 rw[a1]
 refine q19 x 32 rfl rfl rfl rfl (by decide) ?_
 refine gg rfl ?_
 rw[a2]
 refine q19 y 32 rfl rfl rfl rfl (by decide) ?_
 refine gg rfl ?_
 rw[show((x%4294967296:Nat):Int)=((w32 x:Nat):Int)from rfl,show((y%4294967296:Nat):Int)=((w32 y:Nat):Int)from rfl,show((x/2^32:Nat):Int)=((h32 x:Nat):Int)from rfl,show((y/2^32:Nat):Int)=((h32 y:Nat):Int)from rfl,c1,c2]
 refine q19 (w32 x*w32 y) 32 rfl rfl rfl rfl (by decide) ?_
 refine gg rfl ?_
 rw[show((w32 x*w32 y/2^32:Nat):Int)=((h32 (w32 x*w32 y):Nat):Int)from rfl,c5,a3]
 refine q19 (h32 x*w32 y+h32 (w32 x*w32 y)) 32 rfl rfl rfl rfl (by decide) ?_
 refine gg rfl ?_
 rw[show(((h32 x*w32 y+h32 (w32 x*w32 y))%4294967296:Nat):Int)=((w32 (h32 x*w32 y+h32 (w32 x*w32 y)):Nat):Int)from rfl,show(((h32 x*w32 y+h32 (w32 x*w32 y))/2^32:Nat):Int)=((h32 (h32 x*w32 y+h32 (w32 x*w32 y)):Nat):Int)from rfl,c3,c6,c4,c7]
 refine q19 (w32 (h32 x*w32 y+h32 (w32 x*w32 y))+w32 x*h32 y) 32 rfl rfl rfl rfl (by decide) ?_
 refine gg rfl ?_
 rw[show(((w32 (h32 x*w32 y+h32 (w32 x*w32 y))+w32 x*h32 y)/2^32:Nat):Int)=((h32 (w32 (h32 x*w32 y+h32 (w32 x*w32 y))+w32 x*h32 y):Nat):Int)from rfl,c8,c9]
 exact q08 rfl rfl rfl trivial rfl
theorem qhR (x:Nat)(hx:x<18446744073709551616):PU qcy [.int .u64 x]=some (.int .i64 ((64-bl x:Nat):Int)):=by
 have hb:bl x≤64:=by
  unfold bl
  split
  ·omega
  rename_i h
  have:=(Nat.log2_lt (n:=x) (k:=64) h).2 (by omega)
  omega
 refine q0g (fn:=q69) rfl (q0a ?_)
 refine gg rfl (q02 rfl rfl (qxm x hx) (gg rfl ?_))
 have w:IntKind.i64.wrap (64-(bl x:Int))=((64-bl x:Nat):Int):=by rw[wrap64 (by omega) (by omega)];omega
 rw[w]
 exact q08 rfl rfl rfl trivial rfl
end Go.F

namespace Go.F
attribute [local irreducible] IntKind.wrap wpM
theorem or64' (a b:Nat)(s:Nat)(hb:b<2^s)(hs:a*2^s+b<18446744073709551616):IntKind.u64.wrap ((BitVec.ofInt IntKind.u64.bits ((a*2^s:Nat):Int) |||BitVec.ofInt IntKind.u64.bits (b:Int)).toNat:Int)=((a*2^s+b:Nat):Int):=by
 rw[Nat.mul_comm]at hs⊢
 exact or64 a b s hb hs
structure Nrm (hi lo y s:Nat):Prop where
 s63:s≤63
 y2:y*2^s<18446744073709551616
 y1:9223372036854775808≤y*2^s
 l:lo/2^(64-s)<2^s
 u:hi*2^s+lo/2^(64-s)<y*2^s
 h:hi*2^s<18446744073709551616
 e:(hi*2^s+lo/2^(64-s)) *18446744073709551616+lo*2^s%18446744073709551616=(hi*18446744073709551616+lo) *2^s
theorem nrm_of {hi lo y:Nat}(hh:hi<y)(hy:y<18446744073709551616)(hl:lo<18446744073709551616):Nrm hi lo y (64-bl y):=by
 have hy0:y≠0:=by omega
 have hb:bl y=y.log2+1:=by unfold bl;rw[if_neg hy0]
 have hlg:y.log2<64:=(Nat.log2_lt hy0).2 (by omega)
 have h1:2^y.log2≤y:=(Nat.le_log2 hy0).1 (Nat.le_refl _)
 have h2:y<2^(y.log2+1):=(Nat.log2_lt hy0).1 (Nat.lt_succ_self _)
 generalize hs:64-bl y=s
 have es:y.log2+1+s=64:=by omega
 have hP:0<2^s:=Nat.pow_pos (by decide)
 have hPQ:2^(64-s) *2^s=18446744073709551616:=by
  rw[←Nat.pow_add,show 64-s+s=64 by omega]
 have e1:2^(y.log2+1) *2^s=18446744073709551616:=by rw[←Nat.pow_add,es]
 have e2:2^y.log2*2^s*2=18446744073709551616:=by
  rw[Nat.pow_succ]at e1
  rw[←e1];ac_rfl
 have f1:y*2^s<18446744073709551616:=by rw[←e1];exact Nat.mul_lt_mul_of_pos_right h2 hP
 have f2:9223372036854775808≤y*2^s:=by
  have:=Nat.mul_le_mul_right (2^s) h1
  omega
 have hQ:0<2^(64-s):=Nat.pow_pos (by decide)
 have f3:lo/2^(64-s)<2^s:=by
  rw[Nat.div_lt_iff_lt_mul hQ,Nat.mul_comm,hPQ];exact hl
 have fd:lo*2^s/18446744073709551616=lo/2^(64-s):=by
  rw[←hPQ,Nat.mul_div_mul_right _ _ hP]
 have fe:(hi*2^s+lo/2^(64-s)) *18446744073709551616+lo*2^s%18446744073709551616=(hi*18446744073709551616+lo) *2^s:=by
  have hdm:=Nat.div_add_mod (lo*2^s) 18446744073709551616
  rw[fd]at hdm
  have g:(hi*18446744073709551616+lo) *2^s=hi*2^s*18446744073709551616+lo*2^s:=by
   rw[Nat.add_mul];congr 1;ac_rfl
  rw[g,Nat.add_mul]
  omega
 have fh:hi*2^s<18446744073709551616:=Nat.lt_of_le_of_lt (Nat.mul_le_mul_right _ (Nat.le_of_lt hh)) f1
 refine⟨by omega,f1,f2,f3,?_,fh,fe⟩
 have hle:(hi+1) *2^s≤y*2^s:=Nat.mul_le_mul_right _ hh
 rw[Nat.add_mul,Nat.one_mul]at hle
 omega
theorem qqC {x y:Nat}(h:y≤x)(hx:x<18446744073709551616):IntKind.u64.wrap ((x:Int)-(y:Int))=((x-y:Nat):Int):=by
 rw[q0U];omega
theorem qcw {x y:Nat}(h:x+y<18446744073709551616):IntKind.u64.wrap ((x:Int)+(y:Int))=((x+y:Nat):Int):=by
 rw[←Int.natCast_add];exact q0C h
theorem qb9 {x y:Nat}(h:x*y<18446744073709551616):IntKind.u64.wrap ((x:Int) *(y:Int))=((x*y:Nat):Int):=by
 rw[←Int.natCast_mul];exact q0C h
theorem qmj {U u q y:Nat}(hq:q=dgN U u/y)(hy0:0<y)(hy:y<18446744073709551616):
 IntKind.u64.wrap (IntKind.u64.wrap (IntKind.u64.wrap ((U:Int) *4294967296)+(u:Int))-IntKind.u64.wrap ((q:Int) *(y:Int)))=((dgN U u%y:Nat):Int):=by
 have h1:=Nat.div_add_mod (dgN U u) y
 have h2:=Nat.mod_lt (dgN U u) hy0
 rw[←hq,Nat.mul_comm]at h1
 have h3:((dgN U u:Nat):Int)=(U:Int) *4294967296+u:=by unfold dgN;simp
 have h4:((q*y:Nat):Int)+((dgN U u%y:Nat):Int)=(U:Int) *4294967296+u:=by rw[←h3,←Int.natCast_add,h1]
 rw[Int.natCast_mul]at h4
 simp only[q0U]
 have hR:(0:Int)≤((dgN U u%y:Nat):Int)∧((dgN U u%y:Nat):Int)<18446744073709551616:=by omega
 generalize ((dgN U u%y:Nat):Int)=R at*
 generalize (U:Int) *4294967296=A at*
 generalize (q:Int) *(y:Int)=B at*
 omega
structure Dv64 (hi lo y s a b U u1 u0:Nat):Prop where
 n:Nrm hi lo y s
 hy:y*2^s=dgY a b
 a1:2147483648≤a
 a2:a<4294967296
 b2:b<4294967296
 hu1:u1<4294967296
 hu0:u0<4294967296
 lt:U<dgY a b
 y0:0<y
 e:dgN U u1*4294967296+u0=(hi*18446744073709551616+lo) *2^s
theorem Dv64.d1 {hi lo y s a b U u1 u0:Nat}(h:Dv64 hi lo y s a b U u1 u0):Dg U u1 a b:=⟨h.hu1,h.a1,h.a2,h.b2,h.lt⟩
theorem Dv64.d0 {hi lo y s a b U u1 u0:Nat}(h:Dv64 hi lo y s a b U u1 u0):Dg (dgN U u1%dgY a b) u0 a b:=⟨h.hu0,h.a1,h.a2,h.b2,Nat.mod_lt _ h.d1.pos⟩
theorem Dv64.y64 {hi lo y s a b U u1 u0:Nat}(h:Dv64 hi lo y s a b U u1 u0):dgY a b<18446744073709551616:=by rw[←h.hy];exact h.n.y2
theorem Dv64.quo {hi lo y s a b U u1 u0:Nat}(h:Dv64 hi lo y s a b U u1 u0):
 dgN U u1/dgY a b*4294967296+dgN (dgN U u1%dgY a b) u0/dgY a b=(hi*18446744073709551616+lo)/y∧dgN (dgN U u1%dgY a b) u0%dgY a b/2^s=(hi*18446744073709551616+lo)%y:=by
 obtain⟨t1,t2⟩:=qyK (dgN U u1) u0 (dgY a b) 4294967296 h.d1.pos
 obtain⟨s1,s2⟩:=qGD (hi*18446744073709551616+lo) y s h.y0
 constructor
 ·rw[←s1,←h.e,h.hy,←t1];rfl
 rw[←s2,←h.e,h.hy,←t2];rfl
theorem dvd_of {hi lo y:Nat}(hh:hi<y)(hy:y<18446744073709551616)(hl:lo<18446744073709551616):
 Dv64 hi lo y (64-bl y) (h32 (y*2^(64-bl y))) (w32 (y*2^(64-bl y))) (hi*2^(64-bl y)+lo/2^(64-(64-bl y))) (h32 (lo*2^(64-bl y)%18446744073709551616)) (w32 (lo*2^(64-bl y)%18446744073709551616)):=by
 have n:=nrm_of hh hy hl
 generalize 64-bl y=s at*
 have hY:y*2^s=dgY (h32 (y*2^s)) (w32 (y*2^s)):=qmS _
 have hL:=qmS (lo*2^s%18446744073709551616)
 have hlt:lo*2^s%18446744073709551616<18446744073709551616:=Nat.mod_lt _ (by decide)
 refine⟨n,hY,?_,qgd n.y2,qol _,qgd hlt,qol _,by rw[←hY];exact n.u,by omega,?_⟩
 ·have:=n.y1
  generalize y*2^s=Y at*
  unfold h32;omega
 have e:=n.e
 generalize hi*2^s+lo/2^(64-s)=U at*
 generalize lo*2^s%18446744073709551616=L at*
 have hB:4294967296*4294967296=18446744073709551616:=by decide
 rw[←e,dgN,Nat.add_mul,Nat.mul_assoc,hB,Nat.add_assoc,←hL]
theorem shlU (lo s:Nat)(hs:s≤63):IntKind.u64.wrap ((lo:Int) *2^min ((s:Nat):Int).toNat IntKind.u64.bits)=((lo*2^s%18446744073709551616:Nat):Int):=by
 have e:IntKind.u64.bits=64:=rfl
 rw[e,Int.toNat_natCast,Nat.min_eq_left (by omega),q0U]
 have:(lo:Int) *2^s=((lo*2^s:Nat):Int):=by simp
 rw[this];omega
theorem qmT {U a:Nat}(hU:U<18446744073709551616):IntKind.u64.wrap ((U:Int)-IntKind.u64.wrap (((U/a:Nat):Int) *(a:Int)))=((U%a:Nat):Int):=by
 have h1:=Nat.div_mul_le_self U a
 have h2:=Nat.mod_add_div U a
 rw[qb9 (by omega),qqC h1 hU]
 congr 1
 rw[Nat.mul_comm]at h2
 omega
set_option maxHeartbeats 8000000 in
theorem qEu (hi lo y:Nat)(hh:hi<y)(hy:y<18446744073709551616)(hl:lo<18446744073709551616):
 PU qtW [.int .u64 hi,.int .u64 lo,.int .u64 y]=some (.tup [.int .u64 (((hi*18446744073709551616+lo)/y:Nat):Int),.int .u64 (((hi*18446744073709551616+lo)%y:Nat):Int)]):=by
 have D:=dvd_of hh hy hl
 have lz:=qhR y hy
 have hs63:=D.n.s63
 generalize 64-bl y=s at*
 refine q0g (fn:=qhI) rfl (q0a ?_)
 refine gg rfl (q01 rfl (fun e=>absurd (q1n.1 e) (by omega)) (fun _=>?_))
 refine gg rfl (q01 rfl (fun e=>absurd (q0E.1 e) (by omega)) (fun _=>?_))
 refine gg rfl (q01 rfl (fun e=>?_) (fun e=>?_))
 ·rw[q1n]at e
  obtain rfl:hi=0:=by omega
  refine gg rfl (q2Z lo y rfl rfl rfl rfl (by omega) (q0C (Nat.lt_of_le_of_lt (Nat.div_le_self _ _) hl)) ?_)
  refine gg rfl (q7b lo y rfl rfl rfl rfl (by omega) ?_)
  refine gg rfl (q08 rfl rfl rfl trivial ?_)
  rw[Nat.zero_mul,Nat.zero_add]
 have e64:IntKind.u64.wrap (64-(s:Int))=((64-s:Nat):Int):=qqC (x:=64) (by omega) (by decide)
 have a1:=qvS (y*2^s) D.n.y2
 have hL64:lo*2^s%18446744073709551616<18446744073709551616:=Nat.mod_lt _ (by decide)
 have a2:=qvS (lo*2^s%18446744073709551616) hL64
 have o1:=or64' hi (lo/2^(64-s)) s D.n.l (Nat.lt_trans D.n.u D.n.y2)
 have sl:=shlU lo s hs63
 refine gg rfl (q02 rfl rfl lz (gg rfl ?_))
 rw[q0C (n:=s) (by omega)]
 refine q6w y s rfl rfl rfl rfl (by show s≤64;omega) (q0C D.n.y2) ?_
 refine gg rfl (q19 (y*2^s) 32 rfl rfl rfl rfl (by decide) ?_)
 refine gg rfl ?_
 rw[a1]
 refine q6w hi s rfl rfl rfl rfl (by show s≤64;omega) (q0C D.n.h) ?_
 refine gg rfl ?_
 rw[e64]
 refine q19 lo (64-s) rfl rfl rfl rfl (by show 64-s≤64;omega) ?_
 refine gg rfl ?_
 rw[o1]
 refine atShl rfl rfl (by omega) ?_
 rw[sl]
 refine gg rfl (q19 (lo*2^s%18446744073709551616) 32 rfl rfl rfl rfl (by decide) ?_)
 refine gg rfl ?_
 rw[a2]
 have hY:=D.hy
 rw[hY]
 rw[show((dgY (h32 (y*2^s)) (w32 (y*2^s))/2^32:Nat):Int)=((h32 (y*2^s):Nat):Int)by rw[←hY];rfl,show((dgY (h32 (y*2^s)) (w32 (y*2^s))%4294967296:Nat):Int)=((w32 (y*2^s):Nat):Int)by rw[←hY];rfl,show((lo*2^s%18446744073709551616/2^32:Nat):Int)=((h32 (lo*2^s%18446744073709551616):Nat):Int)from rfl,show((lo*2^s%18446744073709551616%4294967296:Nat):Int)=((w32 (lo*2^s%18446744073709551616):Nat):Int)from rfl]
 clear a1 a2 o1 sl e64 lz hY
 generalize h32 (y*2^s)=a at*
 generalize w32 (y*2^s)=b at*
 generalize h32 (lo*2^s%18446744073709551616)=u1 at*
 generalize w32 (lo*2^s%18446744073709551616)=u0 at*
 generalize hi*2^s+lo/2^(64-s)=U at*
 have DD:=D.d1
 have hU:U<18446744073709551616:=Nat.lt_trans DD.lt D.y64
 refine q2Z U a rfl rfl rfl rfl (by have:=D.a1;omega) (q0C (Nat.lt_of_le_of_lt (Nat.div_le_self _ _) hU)) ?_
 refine gg rfl ?_
 rw[qmT hU]
 refine q0l (S:=fun x:Nat×Nat=>([.int .u64 (dgY a b:Nat),.int .u64 s,.int .u64 a,.int .u64 b,.int .u64 U,.int .u64 u1,.int .u64 u0,.int .u64 x.1,.int .u64 x.2],[none,none,none,none,none,none,none,none,none],[0,0,0,0,0,0,0,0,0])) (C:=fun x=>DgI U u1 a b x.1 x.2∧x.2<4294967296) (m:=fun x=>x.1) (U/a,U%a) ⟨DD.start,Nat.lt_trans (Nat.mod_lt _ (by have:=D.a1;omega)) D.a2⟩ (by have:=DD.start.hq;show U/a<_;omega) ?_ ?_
 ·exact q03 rfl trivial rfl
 rintro⟨q,r⟩ ⟨hi1,hr⟩ N hN
 simp only at hi1 hr
 have hq:=hi1.hq
 have hb':=D.b2
 have w1:q<4294967296→IntKind.u64.wrap ((q:Int) *(b:Int))=((q*b:Nat):Int):=fun h=>qb9 (by have:=q5D h hb';omega)
 have w2:IntKind.u64.wrap ((4294967296:Int) *(r:Int))=((4294967296*r:Nat):Int):=qb9 (x:=4294967296) (by omega)
 have w3:IntKind.u64.wrap (((4294967296*r:Nat):Int)+(u1:Int))=((4294967296*r+u1:Nat):Int):=qcw (by have:=DD.hu;omega)
 have body:(4294967296≤q∨r*4294967296+u1<q*b)→1≤q∧DgI U u1 a b (q-1) (r+a)∧q-1≤4294967296:=DD.step hi1
 have a2:=D.a2
 have w5:IntKind.u64.wrap ((r:Int)+(a:Int))=((r+a:Nat):Int):=qcw (by omega)
 refine gg rfl (q09 rfl (fun g1=>?_) (fun g1=>?_))
 ·rw[q0E]at g1
  obtain⟨k1,k2,k3⟩:=body (.inl (by omega))
  have w4:IntKind.u64.wrap ((q:Int)-1)=((q-1:Nat):Int):=qqC (y:=1) k1 (by omega)
  refine gg rfl (q0d rfl (gg rfl ?_))
  rw[w4,w5]
  refine q01 rfl (fun g2=>?_) (fun g2=>?_)
  ·rw[q0E]at g2
   have hq1:=DD.stop k2 k3 (by omega)
   generalize q-1=q' at*
   refine gg rfl (q04 ?_)
   have hp:=hq1
   have hplt:=D.d1.qlt
   rw[←hp]at hplt
   clear hq1
   generalize q'=p at hp hplt
   have hrm:=qmj (U:=U) (u:=u1) hp D.d1.pos D.y64
   refine gg rfl ?_
   rw[hrm]
   have DD:=D.d0
   have hV:dgN U u1%dgY a b<18446744073709551616:=Nat.lt_trans DD.lt D.y64
   clear hi1 hN
   refine q2Z (dgN U u1%dgY a b) a rfl rfl rfl rfl (by have:=D.a1;omega) (q0C (Nat.lt_of_le_of_lt (Nat.div_le_self _ _) hV)) ?_
   refine gg rfl ?_
   rw[qmT hV]
   refine q0l (S:=fun x:Nat×Nat=>([.int .u64 (dgY a b:Nat),.int .u64 s,.int .u64 a,.int .u64 b,.int .u64 u0,.int .u64 p,.int .u64 x.2,.int .u64 ((dgN U u1%dgY a b:Nat):Int),.int .u64 x.1],[none,none,none,none,none,none,none,none,none],[0,0,0,0,0,0,0,0,0])) (C:=fun x=>DgI (dgN U u1%dgY a b) u0 a b x.1 x.2∧x.2<4294967296) (m:=fun x=>x.1) ((dgN U u1%dgY a b)/a,(dgN U u1%dgY a b)%a) ⟨DD.start,Nat.lt_trans (Nat.mod_lt _ (by have:=D.a1;omega)) D.a2⟩ (by have:=DD.start.hq;show _/a<_;omega) ?_ ?_
   ·exact q03 rfl trivial rfl
   rintro⟨q,r⟩ ⟨hi1,hr⟩ N hN
   simp only at hi1 hr
   have hq:=hi1.hq
   have hb':=D.b2
   have w1:q<4294967296→IntKind.u64.wrap ((q:Int) *(b:Int))=((q*b:Nat):Int):=fun h=>qb9 (by have:=q5D h hb';omega)
   have w2:IntKind.u64.wrap ((4294967296:Int) *(r:Int))=((4294967296*r:Nat):Int):=qb9 (x:=4294967296) (by omega)
   have w3:IntKind.u64.wrap (((4294967296*r:Nat):Int)+(u0:Int))=((4294967296*r+u0:Nat):Int):=qcw (by have:=DD.hu;omega)
   have body:(4294967296≤q∨r*4294967296+u0<q*b)→1≤q∧DgI (dgN U u1%dgY a b) u0 a b (q-1) (r+a)∧q-1≤4294967296:=DD.step hi1
   have a2:=D.a2
   have w5:IntKind.u64.wrap ((r:Int)+(a:Int))=((r+a:Nat):Int):=qcw (by omega)
   refine gg rfl (q09 rfl (fun g1=>?_) (fun g1=>?_))
   ·rw[q0E]at g1
    obtain⟨k1,k2,k3⟩:=body (.inl (by omega))
    have w4:IntKind.u64.wrap ((q:Int)-1)=((q-1:Nat):Int):=qqC (y:=1) k1 (by omega)
    refine gg rfl (q0d rfl (gg rfl ?_))
    rw[w4,w5]
    refine q01 rfl (fun g2=>?_) (fun g2=>?_)
    ·rw[q0E]at g2
     have hq1:=DD.stop k2 k3 (by omega)
     generalize q-1=q' at*
     refine gg rfl (q04 ?_)
     have hq0lt:=D.d0.qlt
     rw[←hq1]at hq0lt
     have m1:IntKind.u64.wrap ((p:Int) *4294967296)=((p*4294967296:Nat):Int):=qb9 (y:=4294967296) (by omega)
     have m2:IntKind.u64.wrap (((p*4294967296:Nat):Int)+(q':Int))=((p*4294967296+q':Nat):Int):=qcw (by omega)
     have m3:=qmj (U:=dgN U u1%dgY a b) (u:=u0) hq1 D.d1.pos D.y64
     obtain⟨z1,z2⟩:=D.quo
     refine gg rfl ?_
     rw[m1,m2,m3]
     refine q19 (dgN (dgN U u1%dgY a b) u0%dgY a b) s rfl rfl rfl rfl (by show s≤64;have:=D.n.s63;omega) ?_
     refine gg rfl (q08 rfl rfl rfl trivial ?_)
     rw[z2,←z1,hp,hq1]
    rw[q0F]at g2
    exact gg rfl (q04 (hN (q-1,r+a) ⟨k2,by show r+a<_;omega⟩ (by show q-1<q;omega) (q03 rfl trivial rfl)))
   rw[q0F]at g1
   refine gg rfl ?_
   rw[w1 (by omega),w2,w3]
   refine q01 rfl (fun g2=>?_) (fun g2=>?_)
   ·rw[q06]at g2
    obtain⟨k1,k2,k3⟩:=body (.inr (by omega))
    have w4:IntKind.u64.wrap ((q:Int)-1)=((q-1:Nat):Int):=qqC (y:=1) k1 (by omega)
    refine gg rfl ?_
    rw[w4,w5]
    refine q01 rfl (fun g3=>?_) (fun g3=>?_)
    ·rw[q0E]at g3
     have hq1:=DD.stop k2 k3 (by omega)
     generalize q-1=q' at*
     refine gg rfl (q04 ?_)
     have hq0lt:=D.d0.qlt
     rw[←hq1]at hq0lt
     have m1:IntKind.u64.wrap ((p:Int) *4294967296)=((p*4294967296:Nat):Int):=qb9 (y:=4294967296) (by omega)
     have m2:IntKind.u64.wrap (((p*4294967296:Nat):Int)+(q':Int))=((p*4294967296+q':Nat):Int):=qcw (by omega)
     have m3:=qmj (U:=dgN U u1%dgY a b) (u:=u0) hq1 D.d1.pos D.y64
     obtain⟨z1,z2⟩:=D.quo
     refine gg rfl ?_
     rw[m1,m2,m3]
     refine q19 (dgN (dgN U u1%dgY a b) u0%dgY a b) s rfl rfl rfl rfl (by show s≤64;have:=D.n.s63;omega) ?_
     refine gg rfl (q08 rfl rfl rfl trivial ?_)
     rw[z2,←z1,hp,hq1]
    rw[q0F]at g3
    exact gg rfl (q04 (hN (q-1,r+a) ⟨k2,by show r+a<_;omega⟩ (by show q-1<q;omega) (q03 rfl trivial rfl)))
   rw[q07]at g2
   have hq1:=DD.fin hi1 (by omega)
   refine gg rfl (q04 ?_)
   have hq0lt:=D.d0.qlt
   rw[←hq1]at hq0lt
   have m1:IntKind.u64.wrap ((p:Int) *4294967296)=((p*4294967296:Nat):Int):=qb9 (y:=4294967296) (by omega)
   have m2:IntKind.u64.wrap (((p*4294967296:Nat):Int)+(q:Int))=((p*4294967296+q:Nat):Int):=qcw (by omega)
   have m3:=qmj (U:=dgN U u1%dgY a b) (u:=u0) hq1 D.d1.pos D.y64
   obtain⟨z1,z2⟩:=D.quo
   refine gg rfl ?_
   rw[m1,m2,m3]
   refine q19 (dgN (dgN U u1%dgY a b) u0%dgY a b) s rfl rfl rfl rfl (by show s≤64;have:=D.n.s63;omega) ?_
   refine gg rfl (q08 rfl rfl rfl trivial ?_)
   rw[z2,←z1,hp,hq1]
  rw[q0F]at g2
  exact gg rfl (q04 (hN (q-1,r+a) ⟨k2,by show r+a<_;omega⟩ (by show q-1<q;omega) (q03 rfl trivial rfl)))
 rw[q0F]at g1
 refine gg rfl ?_
 rw[w1 (by omega),w2,w3]
 refine q01 rfl (fun g2=>?_) (fun g2=>?_)
 ·rw[q06]at g2
  obtain⟨k1,k2,k3⟩:=body (.inr (by omega))
  have w4:IntKind.u64.wrap ((q:Int)-1)=((q-1:Nat):Int):=qqC (y:=1) k1 (by omega)
  refine gg rfl ?_
  rw[w4,w5]
  refine q01 rfl (fun g3=>?_) (fun g3=>?_)
  ·rw[q0E]at g3
   have hq1:=DD.stop k2 k3 (by omega)
   generalize q-1=q' at*
   refine gg rfl (q04 ?_)
   have hp:=hq1
   have hplt:=D.d1.qlt
   rw[←hp]at hplt
   clear hq1
   generalize q'=p at hp hplt
   have hrm:=qmj (U:=U) (u:=u1) hp D.d1.pos D.y64
   refine gg rfl ?_
   rw[hrm]
   have DD:=D.d0
   have hV:dgN U u1%dgY a b<18446744073709551616:=Nat.lt_trans DD.lt D.y64
   clear hi1 hN
   refine q2Z (dgN U u1%dgY a b) a rfl rfl rfl rfl (by have:=D.a1;omega) (q0C (Nat.lt_of_le_of_lt (Nat.div_le_self _ _) hV)) ?_
   refine gg rfl ?_
   rw[qmT hV]
   refine q0l (S:=fun x:Nat×Nat=>([.int .u64 (dgY a b:Nat),.int .u64 s,.int .u64 a,.int .u64 b,.int .u64 u0,.int .u64 p,.int .u64 x.2,.int .u64 ((dgN U u1%dgY a b:Nat):Int),.int .u64 x.1],[none,none,none,none,none,none,none,none,none],[0,0,0,0,0,0,0,0,0])) (C:=fun x=>DgI (dgN U u1%dgY a b) u0 a b x.1 x.2∧x.2<4294967296) (m:=fun x=>x.1) ((dgN U u1%dgY a b)/a,(dgN U u1%dgY a b)%a) ⟨DD.start,Nat.lt_trans (Nat.mod_lt _ (by have:=D.a1;omega)) D.a2⟩ (by have:=DD.start.hq;show _/a<_;omega) ?_ ?_
   ·exact q03 rfl trivial rfl
   rintro⟨q,r⟩ ⟨hi1,hr⟩ N hN
   simp only at hi1 hr
   have hq:=hi1.hq
   have hb':=D.b2
   have w1:q<4294967296→IntKind.u64.wrap ((q:Int) *(b:Int))=((q*b:Nat):Int):=fun h=>qb9 (by have:=q5D h hb';omega)
   have w2:IntKind.u64.wrap ((4294967296:Int) *(r:Int))=((4294967296*r:Nat):Int):=qb9 (x:=4294967296) (by omega)
   have w3:IntKind.u64.wrap (((4294967296*r:Nat):Int)+(u0:Int))=((4294967296*r+u0:Nat):Int):=qcw (by have:=DD.hu;omega)
   have body:(4294967296≤q∨r*4294967296+u0<q*b)→1≤q∧DgI (dgN U u1%dgY a b) u0 a b (q-1) (r+a)∧q-1≤4294967296:=DD.step hi1
   have a2:=D.a2
   have w5:IntKind.u64.wrap ((r:Int)+(a:Int))=((r+a:Nat):Int):=qcw (by omega)
   refine gg rfl (q09 rfl (fun g1=>?_) (fun g1=>?_))
   ·rw[q0E]at g1
    obtain⟨k1,k2,k3⟩:=body (.inl (by omega))
    have w4:IntKind.u64.wrap ((q:Int)-1)=((q-1:Nat):Int):=qqC (y:=1) k1 (by omega)
    refine gg rfl (q0d rfl (gg rfl ?_))
    rw[w4,w5]
    refine q01 rfl (fun g2=>?_) (fun g2=>?_)
    ·rw[q0E]at g2
     have hq1:=DD.stop k2 k3 (by omega)
     generalize q-1=q' at*
     refine gg rfl (q04 ?_)
     have hq0lt:=D.d0.qlt
     rw[←hq1]at hq0lt
     have m1:IntKind.u64.wrap ((p:Int) *4294967296)=((p*4294967296:Nat):Int):=qb9 (y:=4294967296) (by omega)
     have m2:IntKind.u64.wrap (((p*4294967296:Nat):Int)+(q':Int))=((p*4294967296+q':Nat):Int):=qcw (by omega)
     have m3:=qmj (U:=dgN U u1%dgY a b) (u:=u0) hq1 D.d1.pos D.y64
     obtain⟨z1,z2⟩:=D.quo
     refine gg rfl ?_
     rw[m1,m2,m3]
     refine q19 (dgN (dgN U u1%dgY a b) u0%dgY a b) s rfl rfl rfl rfl (by show s≤64;have:=D.n.s63;omega) ?_
     refine gg rfl (q08 rfl rfl rfl trivial ?_)
     rw[z2,←z1,hp,hq1]
    rw[q0F]at g2
    exact gg rfl (q04 (hN (q-1,r+a) ⟨k2,by show r+a<_;omega⟩ (by show q-1<q;omega) (q03 rfl trivial rfl)))
   rw[q0F]at g1
   refine gg rfl ?_
   rw[w1 (by omega),w2,w3]
   refine q01 rfl (fun g2=>?_) (fun g2=>?_)
   ·rw[q06]at g2
    obtain⟨k1,k2,k3⟩:=body (.inr (by omega))
    have w4:IntKind.u64.wrap ((q:Int)-1)=((q-1:Nat):Int):=qqC (y:=1) k1 (by omega)
    refine gg rfl ?_
    rw[w4,w5]
    refine q01 rfl (fun g3=>?_) (fun g3=>?_)
    ·rw[q0E]at g3
     have hq1:=DD.stop k2 k3 (by omega)
     generalize q-1=q' at*
     refine gg rfl (q04 ?_)
     have hq0lt:=D.d0.qlt
     rw[←hq1]at hq0lt
     have m1:IntKind.u64.wrap ((p:Int) *4294967296)=((p*4294967296:Nat):Int):=qb9 (y:=4294967296) (by omega)
     have m2:IntKind.u64.wrap (((p*4294967296:Nat):Int)+(q':Int))=((p*4294967296+q':Nat):Int):=qcw (by omega)
     have m3:=qmj (U:=dgN U u1%dgY a b) (u:=u0) hq1 D.d1.pos D.y64
     obtain⟨z1,z2⟩:=D.quo
     refine gg rfl ?_
     rw[m1,m2,m3]
     refine q19 (dgN (dgN U u1%dgY a b) u0%dgY a b) s rfl rfl rfl rfl (by show s≤64;have:=D.n.s63;omega) ?_
     refine gg rfl (q08 rfl rfl rfl trivial ?_)
     rw[z2,←z1,hp,hq1]
    rw[q0F]at g3
    exact gg rfl (q04 (hN (q-1,r+a) ⟨k2,by show r+a<_;omega⟩ (by show q-1<q;omega) (q03 rfl trivial rfl)))
   rw[q07]at g2
   have hq1:=DD.fin hi1 (by omega)
   refine gg rfl (q04 ?_)
   have hq0lt:=D.d0.qlt
   rw[←hq1]at hq0lt
   have m1:IntKind.u64.wrap ((p:Int) *4294967296)=((p*4294967296:Nat):Int):=qb9 (y:=4294967296) (by omega)
   have m2:IntKind.u64.wrap (((p*4294967296:Nat):Int)+(q:Int))=((p*4294967296+q:Nat):Int):=qcw (by omega)
   have m3:=qmj (U:=dgN U u1%dgY a b) (u:=u0) hq1 D.d1.pos D.y64
   obtain⟨z1,z2⟩:=D.quo
   refine gg rfl ?_
   rw[m1,m2,m3]
   refine q19 (dgN (dgN U u1%dgY a b) u0%dgY a b) s rfl rfl rfl rfl (by show s≤64;have:=D.n.s63;omega) ?_
   refine gg rfl (q08 rfl rfl rfl trivial ?_)
   rw[z2,←z1,hp,hq1]
  rw[q0F]at g3
  exact gg rfl (q04 (hN (q-1,r+a) ⟨k2,by show r+a<_;omega⟩ (by show q-1<q;omega) (q03 rfl trivial rfl)))
 rw[q07]at g2
 have hq1:=DD.fin hi1 (by omega)
 refine gg rfl (q04 ?_)
 have hp:=hq1
 have hplt:=D.d1.qlt
 rw[←hp]at hplt
 clear hq1
 generalize q=p at hp hplt
 have hrm:=qmj (U:=U) (u:=u1) hp D.d1.pos D.y64
 refine gg rfl ?_
 rw[hrm]
 have DD:=D.d0
 have hV:dgN U u1%dgY a b<18446744073709551616:=Nat.lt_trans DD.lt D.y64
 clear hi1 hN
 refine q2Z (dgN U u1%dgY a b) a rfl rfl rfl rfl (by have:=D.a1;omega) (q0C (Nat.lt_of_le_of_lt (Nat.div_le_self _ _) hV)) ?_
 refine gg rfl ?_
 rw[qmT hV]
 refine q0l (S:=fun x:Nat×Nat=>([.int .u64 (dgY a b:Nat),.int .u64 s,.int .u64 a,.int .u64 b,.int .u64 u0,.int .u64 p,.int .u64 x.2,.int .u64 ((dgN U u1%dgY a b:Nat):Int),.int .u64 x.1],[none,none,none,none,none,none,none,none,none],[0,0,0,0,0,0,0,0,0])) (C:=fun x=>DgI (dgN U u1%dgY a b) u0 a b x.1 x.2∧x.2<4294967296) (m:=fun x=>x.1) ((dgN U u1%dgY a b)/a,(dgN U u1%dgY a b)%a) ⟨DD.start,Nat.lt_trans (Nat.mod_lt _ (by have:=D.a1;omega)) D.a2⟩ (by have:=DD.start.hq;show _/a<_;omega) ?_ ?_
 ·exact q03 rfl trivial rfl
 rintro⟨q,r⟩ ⟨hi1,hr⟩ N hN
 simp only at hi1 hr
 have hq:=hi1.hq
 have hb':=D.b2
 have w1:q<4294967296→IntKind.u64.wrap ((q:Int) *(b:Int))=((q*b:Nat):Int):=fun h=>qb9 (by have:=q5D h hb';omega)
 have w2:IntKind.u64.wrap ((4294967296:Int) *(r:Int))=((4294967296*r:Nat):Int):=qb9 (x:=4294967296) (by omega)
 have w3:IntKind.u64.wrap (((4294967296*r:Nat):Int)+(u0:Int))=((4294967296*r+u0:Nat):Int):=qcw (by have:=DD.hu;omega)
 have body:(4294967296≤q∨r*4294967296+u0<q*b)→1≤q∧DgI (dgN U u1%dgY a b) u0 a b (q-1) (r+a)∧q-1≤4294967296:=DD.step hi1
 have a2:=D.a2
 have w5:IntKind.u64.wrap ((r:Int)+(a:Int))=((r+a:Nat):Int):=qcw (by omega)
 refine gg rfl (q09 rfl (fun g1=>?_) (fun g1=>?_))
 ·rw[q0E]at g1
  obtain⟨k1,k2,k3⟩:=body (.inl (by omega))
  have w4:IntKind.u64.wrap ((q:Int)-1)=((q-1:Nat):Int):=qqC (y:=1) k1 (by omega)
  refine gg rfl (q0d rfl (gg rfl ?_))
  rw[w4,w5]
  refine q01 rfl (fun g2=>?_) (fun g2=>?_)
  ·rw[q0E]at g2
   have hq1:=DD.stop k2 k3 (by omega)
   generalize q-1=q' at*
   refine gg rfl (q04 ?_)
   have hq0lt:=D.d0.qlt
   rw[←hq1]at hq0lt
   have m1:IntKind.u64.wrap ((p:Int) *4294967296)=((p*4294967296:Nat):Int):=qb9 (y:=4294967296) (by omega)
   have m2:IntKind.u64.wrap (((p*4294967296:Nat):Int)+(q':Int))=((p*4294967296+q':Nat):Int):=qcw (by omega)
   have m3:=qmj (U:=dgN U u1%dgY a b) (u:=u0) hq1 D.d1.pos D.y64
   obtain⟨z1,z2⟩:=D.quo
   refine gg rfl ?_
   rw[m1,m2,m3]
   refine q19 (dgN (dgN U u1%dgY a b) u0%dgY a b) s rfl rfl rfl rfl (by show s≤64;have:=D.n.s63;omega) ?_
   refine gg rfl (q08 rfl rfl rfl trivial ?_)
   rw[z2,←z1,hp,hq1]
  rw[q0F]at g2
  exact gg rfl (q04 (hN (q-1,r+a) ⟨k2,by show r+a<_;omega⟩ (by show q-1<q;omega) (q03 rfl trivial rfl)))
 rw[q0F]at g1
 refine gg rfl ?_
 rw[w1 (by omega),w2,w3]
 refine q01 rfl (fun g2=>?_) (fun g2=>?_)
 ·rw[q06]at g2
  obtain⟨k1,k2,k3⟩:=body (.inr (by omega))
  have w4:IntKind.u64.wrap ((q:Int)-1)=((q-1:Nat):Int):=qqC (y:=1) k1 (by omega)
  refine gg rfl ?_
  rw[w4,w5]
  refine q01 rfl (fun g3=>?_) (fun g3=>?_)
  ·rw[q0E]at g3
   have hq1:=DD.stop k2 k3 (by omega)
   generalize q-1=q' at*
   refine gg rfl (q04 ?_)
   have hq0lt:=D.d0.qlt
   rw[←hq1]at hq0lt
   have m1:IntKind.u64.wrap ((p:Int) *4294967296)=((p*4294967296:Nat):Int):=qb9 (y:=4294967296) (by omega)
   have m2:IntKind.u64.wrap (((p*4294967296:Nat):Int)+(q':Int))=((p*4294967296+q':Nat):Int):=qcw (by omega)
   have m3:=qmj (U:=dgN U u1%dgY a b) (u:=u0) hq1 D.d1.pos D.y64
   obtain⟨z1,z2⟩:=D.quo
   refine gg rfl ?_
   rw[m1,m2,m3]
   refine q19 (dgN (dgN U u1%dgY a b) u0%dgY a b) s rfl rfl rfl rfl (by show s≤64;have:=D.n.s63;omega) ?_
   refine gg rfl (q08 rfl rfl rfl trivial ?_)
   rw[z2,←z1,hp,hq1]
  rw[q0F]at g3
  exact gg rfl (q04 (hN (q-1,r+a) ⟨k2,by show r+a<_;omega⟩ (by show q-1<q;omega) (q03 rfl trivial rfl)))
 rw[q07]at g2
 have hq1:=DD.fin hi1 (by omega)
 refine gg rfl (q04 ?_)
 have hq0lt:=D.d0.qlt
 rw[←hq1]at hq0lt
 have m1:IntKind.u64.wrap ((p:Int) *4294967296)=((p*4294967296:Nat):Int):=qb9 (y:=4294967296) (by omega)
 have m2:IntKind.u64.wrap (((p*4294967296:Nat):Int)+(q:Int))=((p*4294967296+q:Nat):Int):=qcw (by omega)
 have m3:=qmj (U:=dgN U u1%dgY a b) (u:=u0) hq1 D.d1.pos D.y64
 obtain⟨z1,z2⟩:=D.quo
 refine gg rfl ?_
 rw[m1,m2,m3]
 refine q19 (dgN (dgN U u1%dgY a b) u0%dgY a b) s rfl rfl rfl rfl (by show s≤64;have:=D.n.s63;omega) ?_
 refine gg rfl (q08 rfl rfl rfl trivial ?_)
 rw[z2,←z1,hp,hq1]
end Go.F

namespace Go.F
attribute [local irreducible] IntKind.wrap wpM
def q36 (p:List Spot):Nat→Nat
 |0=>0
 |k+1=>q36 p k+qeZ (pt p k) (pt p (k+1))
theorem qpH {p:List Spot}(h:∀i,i<p.length→q0v (pt p i) 1048576=true):∀k,k<p.length→q36 p k≤k*4294967296:=by
 intro k
 induction k with
 |zero=>intro _;simp[q36]
 |succ k ih=>
  intro hk
  have:=ih (by omega)
  have:=qux (h k (by omega)) (h (k+1) hk)
  rw[q36];omega
def q17 (p:List Spot):Int×Int:=if q1v p=0 then((q36 p (p.length-1):Int),0)else(0,q1v p)
theorem q5s (p:List Spot):PU qib [q0k p]=some (.tup [.int .i64 (q17 p).1,.int .i64 (q17 p).2]):=by
 refine q0g (fn:=q97) rfl (q0a ?_)
 refine gg rfl (q02 rfl rfl (q9j p) (gg rfl (q01 rfl (fun h=>?_) (fun h=>?_))))
 ·rw[q0u]at h
  refine gg rfl (q08 rfl rfl rfl trivial ?_)
  rw[q17,if_neg h]
 rw[q0z]at h
 rw[q17,if_pos h]
 obtain⟨n2,n40,_⟩:=q2k h
 have hin:∀i,i<p.length→q0v (pt p i) 1048576=true:=fun i hi=>qbw h hi
 refine gg rfl (q0l (S:=fun k:Nat=>([q0k p,q00 (q36 p k),q00 (p.length-1:Nat),q00 k],[none,none,none,none],[0,0,0,0])) (C:=fun k=>k≤p.length-1) (m:=fun k=>p.length-k) 0 (Nat.zero_le _) (by omega) ?_ ?_)
 ·refine q03 rfl trivial ?_
  have:IntKind.i64.wrap ((p.length:Int)-1)=((p.length-1:Nat):Int):=by rw[wrap64 (by omega) (by omega)];omega
  simp[q0k,q00,q36,this]
 intro k hk N hN
 refine gg rfl (q01 rfl (fun g1=>?_) (fun g1=>?_))
 ·rw[q06]at g1
  have hlt:k+1<p.length:=by omega
  have w1:=wS (n:=k)
  have hin1:=hin k (by omega)
  have hin2:=hin (k+1) hlt
  have hsl':=qux hin1 hin2
  have hle:=qpH hin k (by omega)
  have w2:IntKind.i64.wrap ((q36 p k:Int)+(qeZ (pt p k) (pt p (k+1)):Int))=(q36 p (k+1):Int):=by rw[wrap64 (by omega) (by omega)];rfl
  refine gg rfl (q0i k rfl rfl rfl (q0Q (by omega)) rfl ?_)
  refine gg rfl (q0i (k+1) rfl rfl w1 (q0Q hlt) rfl (gg rfl (q02 rfl rfl (qf0 (pt p k) (pt p (k+1)) hin1 hin2) (gg rfl ?_))))
  rw[w2]
  exact q04 (hN (k+1) (by omega) (by omega) (q03 rfl trivial (by simp[q0k,q00,w1])))
 rw[q07]at g1
 obtain rfl:k=p.length-1:=by omega
 exact gg rfl (q04 (gg rfl (q08 rfl rfl rfl trivial rfl)))
theorem qxp (n:Nat)(hn:n<9223372036854775808):PU qzj [.int .i64 n]=some (.int .i64 (qpG n)):=by
 refine q0g (fn:=qoc) rfl (q0a ?_)
 refine gg rfl (q0l (S:=fun q:Nat×Nat=>([q00 n,q00 q.2,.int .i64 ((q.1:Int)-1)],[none,none,none],[0,0,0])) (C:=fun q=>q.1≤32∧q.2+2^q.1≤4294967296∧qmc n q.1 q.2=qpG n) (m:=fun q=>q.1) (32,0) ⟨by decide,by decide,rfl⟩ (by decide) ?_ ?_)
 ·exact q03 rfl trivial (by simp[q00])
 rintro⟨j,r⟩ ⟨hj,hr,hinv⟩ N hN
 simp only at hj hr hinv
 refine gg rfl (q01 rfl (fun g=>?_) (fun g=>?_))
 ·rw[q0E]at g
  simp only at g
  obtain⟨k,rfl⟩:∃k,j=k+1:=⟨j-1,by omega⟩
  have ek:((k+1:Nat):Int)-1=(k:Int):=by omega
  have hp:2^(k+1)=2*2^k:=by rw[Nat.pow_succ];omega
  have hp0:0<2^k:=Nat.pow_pos (by decide)
  rw[qmc]at hinv
  rw[hp]at hr
  generalize hP:2^k=P at*
  have wk:IntKind.u64.wrap (k:Int)=(k:Int):=q0C (by omega)
  have wk1:=ww (x:=(k:Int)-1)
  have wt:IntKind.i64.wrap ((r:Int)+(P:Int))=((r+P:Nat):Int):=by rw[wrap64 (by omega) (by omega)];omega
  have wt2:IntKind.u64.wrap ((r+P:Nat):Int)=((r+P:Nat):Int):=q0C (by omega)
  have hmul:(r+P) *(r+P)≤4294967295*4294967295:=Nat.mul_le_mul (by omega) (by omega)
  have wm:IntKind.u64.wrap (((r+P:Nat):Int) *((r+P:Nat):Int))=(((r+P) *(r+P):Nat):Int):=by rw[←Int.natCast_mul];exact q0C (by omega)
  have wn:IntKind.u64.wrap (n:Int)=(n:Int):=q0C (by omega)
  have wb:=ww (x:=((r+P:Nat):Int))
  simp only
  rw[ek]
  refine gg rfl ?_
  rw[wk]
  refine q6w 1 k rfl rfl rfl rfl (by show k≤64;omega) (by rw[hP,Nat.one_mul];exact wrap64 (by omega) (by omega)) ?_
  rw[hP,Nat.one_mul]
  refine gg rfl ?_
  rw[wt,wt2,wm,wn]
  refine q01 rfl (fun g2=>?_) (fun g2=>?_)
  ·rw[q0E]at g2
   rw[if_pos (by omega)]at hinv
   refine gg rfl ?_
   rw[wb]
   exact q04 (hN (k,r+P) ⟨by simp only;omega,by simp only;rw[hP];omega,hinv⟩ (by simp only;omega) (q03 rfl trivial (by simp[q00,wk1])))
  rw[q0F]at g2
  rw[if_neg (by omega)]at hinv
  exact gg rfl (q04 (hN (k,r) ⟨by simp only;omega,by simp only;rw[hP];omega,hinv⟩ (by simp only;omega) (q03 rfl trivial (by simp[q00,wk1]))))
 rw[q0F]at g
 simp only at g
 obtain rfl:j=0:=by omega
 refine gg rfl (q04 (gg rfl (q08 rfl rfl rfl trivial ?_)))
 rw[←hinv];rfl
theorem qpI (a b:Spot)(ha:q0v a 1048576=true)(hb:q0v b 1048576=true):PU qr0 [a.enc,b.enc]=some (.int .i64 (qeZ a b)):=by
 refine q0g (fn:=qfL) rfl (q0a ?_)
 have h:=quw ha hb
 have hse:=q6f a b
 rw[q1B]at ha hb
 have bx:Bd (b.x-a.x) 2097152:=⟨by omega⟩
 have by':Bd (b.y-a.y) 2097152:=⟨by omega⟩
 have c1:IntKind.i64.wrap (b.x-a.x)=b.x-a.x:=q0V (by decide)
 have c2:IntKind.i64.wrap (b.y-a.y)=b.y-a.y:=q0V (by decide)
 refine gg rfl ?_
 rw[c1,c2]
 have c4:IntKind.i64.wrap ((b.x-a.x) *(b.x-a.x))=(b.x-a.x) *(b.x-a.x):=q0V (by decide)
 have c5:IntKind.i64.wrap ((b.y-a.y) *(b.y-a.y))=(b.y-a.y) *(b.y-a.y):=q0V (by decide)
 have c6:IntKind.i64.wrap ((b.x-a.x) *(b.x-a.x)+(b.y-a.y) *(b.y-a.y))=(sqd a b:Int):=by rw[hse];exact q0V (by decide)
 have c7:IntKind.i64.wrap (1000000*(sqd a b:Int))=((1000000*sqd a b:Nat):Int):=by rw[wrap64 (by omega) (by omega)];omega
 rw[c4,c5,c6,c7]
 refine q02 rfl rfl (qxp (1000000*sqd a b) (by omega)) ?_
 exact gg rfl (q08 rfl rfl rfl trivial rfl)
end Go.F

namespace Go.F
attribute [local irreducible] IntKind.wrap wpM
def q4y (fr to at_:Int):Prop:=fr<1∨1099511627776<fr∨to<0∨1099511627776<to∨at_<0∨fr<at_
instance (a b c:Int):Decidable (q4y a b c):=by unfold q4y;exact inferInstance
def q3v (fr to:Int)(rev:Bool)(at_:Int):Int×Int:=
 if q4y fr to at_ then(0,3)else(if rev then to-q1u (at_*to) fr else q1u (at_*to) fr,0)
theorem qmV {a b:Nat}(hb:0<b):q1u (a:Int) b=((a/b+if b≤2*(a%b)then 1 else 0:Nat):Int):=by
 rw[q1u,if_neg (by omega)]
 have h1:=Nat.div_add_mod a b
 have h2:=Nat.mod_lt a hb
 generalize a/b=q at*
 generalize a%b=r at*
 have e:(2*(a:Int)+b)=(2*(r:Int)+b)+(2*(b:Int)) *q:=by
  rw[←h1];simp only[Int.natCast_add,Int.natCast_mul];grind
 rw[e,Int.add_mul_ediv_left _ _ (by omega)]
 split
 ·have:(2*(r:Int)+b)/(2*b)=1:=by
   rw[Int.ediv_eq_iff_of_pos (by omega)];omega
  rw[this];omega
 have:(2*(r:Int)+b)/(2*b)=0:=Int.ediv_eq_zero_of_lt (by omega) (by omega)
 rw[this];omega
set_option maxHeartbeats 2000000 in
theorem qov (fr to:Int)(rev:Bool)(at_:Int):PU qoR [.int .i64 fr,.int .i64 to,.bool rev,.int .i64 at_]=some (.tup [.int .i64 (q3v fr to rev at_).1,.int .i64 (q3v fr to rev at_).2]):=by
 by_cases hb:q4y fr to at_
 ·rw[q3v,if_pos hb]
  unfold q4y at hb
  refine q0g (fn:=q81) rfl (q0a ?_)
  repeat' (first
   |refine goP 800 rfl rfl ?_
   |refine q0h rfl ?_|refine q0n rfl ?_|refine q09 rfl (fun _=>?_) (fun _=>?_)
   |refine q0d rfl ?_|refine q0j rfl ?_|refine q01 rfl (fun _=>?_) (fun _=>?_)
   |refine q0N rfl (fun _=>?_) (fun _=>?_)
   |refine q08 rfl rfl rfl trivial ?_)
  all_goals first
   |rfl
   |(exfalso;simp only[q06,q07]at*;omega)
 rw[q3v,if_neg hb]
 unfold q4y at hb
 obtain⟨F,rfl⟩:∃n:Nat,fr=n:=⟨fr.toNat,by omega⟩
 obtain⟨T,rfl⟩:∃n:Nat,to=n:=⟨to.toNat,by omega⟩
 obtain⟨A,rfl⟩:∃n:Nat,at_=n:=⟨at_.toNat,by omega⟩
 have hF:0<F:=by omega
 have hprod:A*T≤F*T:=Nat.mul_le_mul_right _ (by omega)
 have hm:=qEt A T (by omega) (by omega)
 have hquo:A*T/F≤T:=by
  rw[Nat.div_le_iff_le_mul_add_pred hF]
  omega
 have hhi:A*T/18446744073709551616<F:=by
  rw[Nat.div_lt_iff_lt_mul (by decide)]
  exact Nat.lt_of_le_of_lt hprod (Nat.mul_lt_mul_of_pos_left (by omega) hF)
 have hd:=qEu (A*T/18446744073709551616) (A*T%18446744073709551616) F hhi (by omega) (Nat.mod_lt _ (by decide))
 have e0:A*T/18446744073709551616*18446744073709551616+A*T%18446744073709551616=A*T:=by
  have:=Nat.div_add_mod (A*T) 18446744073709551616
  rw[Nat.mul_comm]at this;exact this
 rw[e0]at hd
 have hr:=qmV (a:=A*T) hF
 rw[Int.natCast_mul]at hr
 rw[hr]
 have hmod:=Nat.mod_lt (A*T) hF
 have w1:IntKind.u64.wrap ((A:Nat):Int)=(A:Int):=q0C (by omega)
 have w2:IntKind.u64.wrap ((T:Nat):Int)=(T:Int):=q0C (by omega)
 have w3:IntKind.u64.wrap ((F:Nat):Int)=(F:Int):=q0C (by omega)
 have no:∀{x y:Int} {P:Prop},¬x<y→ltb x y=true→P:=fun h g=>absurd (q06.1 g) h
 generalize A*T/F=q at*
 generalize A*T%F=r at*
 have w4:IntKind.u64.wrap (2*(r:Int))=((2*r:Nat):Int):=qb9 (x:=2) (by omega)
 have w5:IntKind.u64.wrap ((q:Int)+1)=((q+1:Nat):Int):=qcw (y:=1) (by omega)
 refine q0g (fn:=q81) rfl (q0a ?_)
 refine gg rfl (q09 rfl (no (by omega)) (fun _=>?_))
 refine gg rfl (q09 rfl (no (by omega)) (fun _=>?_))
 refine gg rfl (q09 rfl (no (by omega)) (fun _=>?_))
 refine gg rfl (q09 rfl (no (by omega)) (fun _=>?_))
 refine gg rfl (q09 rfl (no (by omega)) (fun _=>?_))
 refine gg rfl (q01 rfl (no (by omega)) (fun _=>?_))
 refine gg rfl ?_
 rw[w1,w2]
 refine q02 rfl rfl hm (gg rfl ?_)
 rw[w3]
 refine q02 rfl rfl hd (gg rfl ?_)
 rw[w4,w3]
 refine q01 rfl (fun g=>?_) (fun g=>?_)
 ·rw[q0E]at g
  have ei:(if F≤2*r then 1 else 0:Nat)=1:=if_pos (by omega)
  simp only[ei]
  have w6:=ww (x:=((q+1:Nat):Int))
  have w7:=ww (x:=(T:Int)-((q+1:Nat):Int))
  refine gg rfl ?_
  rw[w5,w6]
  cases rev with
  |true=>
   refine q0d rfl (gg rfl ?_)
   rw[w7]
   exact q08 rfl rfl rfl trivial rfl
  |false=>
   exact q0j rfl (gg rfl (q08 rfl rfl rfl trivial rfl))
 rw[q0F]at g
 have ei:(if F≤2*r then 1 else 0:Nat)=0:=if_neg (by omega)
 simp only[ei]
 have w6:=ww (x:=((q:Nat):Int))
 have w7:=ww (x:=(T:Int)-((q:Nat):Int))
 refine gg rfl ?_
 rw[w6]
 cases rev with
 |true=>
  refine q0d rfl (gg rfl ?_)
  rw[w7]
  exact q08 rfl rfl rfl trivial rfl
 |false=>
  exact q0j rfl (gg rfl (q08 rfl rfl rfl trivial rfl))
def q1w (p:Piece)(g:List Edge)(n:Ntc):Int×Int:=
 if n.edge<0∨(p.edges.length:Int)≤n.edge then(0,3)
 else if(q17 (eg p.edges n.edge.toNat).line).2≠0 then(0,(q17 (eg p.edges n.edge.toNat).line).2)
 else if(q17 (eg g n.edge.toNat).line).2≠0 then(0,(q17 (eg g n.edge.toNat).line).2)
 else q3v (q17 (eg p.edges n.edge.toNat).line).1 (q17 (eg g n.edge.toNat).line).1 false n.at_
def q2A (p:Piece)(g:List Edge):List Ntc→Int
 |[]=>0
 |n::l=>if(q1w p g n).2=0 then q2A p g l else(q1w p g n).2
def q0S (p:Piece)(m:Int):List Int×Int:=
 if(q0p p m).2≠0 then([],(q0p p m).2)
 else if 16<p.notches.length then([],5)
 else if q2A p (q0p p m).1 p.notches≠0 then([],q2A p (q0p p m).1 p.notches)
 else(p.notches.map fun n=>(q1w p (q0p p m).1 n).1,0)
theorem q2b {p:Piece}{m:Int}(h:(q0p p m).2=0):(q0p p m).1.length=p.edges.length∧q0J p.edges=0∧q0J (q0p p m).1=0∧p.corners.length=p.edges.length:=by
 unfold q0p at h⊢
 split at h
 ·cases h
 rename_i h1
 rw[if_neg h1]
 split at h
 ·cases h
 rename_i h2
 rw[if_neg h2]
 split at h
 ·cases h
 rename_i h3
 rw[if_neg h3]
 split at h
 ·rename_i h4;exact absurd h h4
 rename_i h4
 rw[if_neg h4]
 split at h
 ·rename_i h5;exact absurd h h5
 rename_i h5
 rw[if_neg h5]
 exact⟨by simp[q3E],by simpa using h4,by simpa using h5,by simpa using h2⟩
set_option maxHeartbeats 4000000 in
theorem qC8 (p:Piece)(m:Int)(hc:p.corners.length≤1000000):
 PU qoQ [p.enc,.int .i64 m]=some (.tup [ints (q0S p m).1,edges (if(q0S p m).2=0 then(q0p p m).1 else []),.int .i64 (q0S p m).2]):=by
 refine q0g (fn:=qdB) rfl (q0a ?_)
 refine gg rfl (q02 rfl rfl (q5F p m hc) (gg rfl (q01 rfl (fun h=>?_) (fun h=>?_))))
 ·rw[q0u]at h
  refine gg rfl (q08 rfl rfl rfl trivial ?_)
  rw[q0S,if_pos h,if_neg h];rfl
 have h:(q0p p m).2=0:=q0z.1 h
 obtain⟨hg,_,_⟩:=q2b h
 have hr:q0S p m=if 16<p.notches.length then([],5)
  else if q2A p (q0p p m).1 p.notches≠0 then([],q2A p (q0p p m).1 p.notches)
  else(p.notches.map fun n=>(q1w p (q0p p m).1 n).1,0):=by rw[q0S,if_neg (by omega)]
 rw[hr]
 generalize (q0p p m).1=G at*
 refine gg rfl ?_
 rw[List.length_map]
 refine q01 rfl (fun h2=>?_) (fun h2=>?_)
 ·rw[q06]at h2
  refine gg rfl (q08 rfl rfl rfl trivial ?_)
  rw[if_pos (by omega)];rfl
 rw[q07]at h2
 rw[if_neg (by omega)]
 refine gg rfl ?_
 rw[List.length_map]
 refine q0l (S:=fun k:Nat=>([.ptr 0 0 0,edges G,.ref 2 0 k,qgD p.notches,q00 p.notches.length,q00 k],[some (.row [p.enc] 7),none,some (.row (((p.notches.take k).map fun n=>(q1w p G n).1).map q00) 1),none,none,none],[0,0,0,0,0,0])) (C:=fun k=>k≤p.notches.length∧q2A p G p.notches=q2A p G (p.notches.drop k)) (m:=fun k=>p.notches.length-k) 0 ⟨Nat.zero_le _,rfl⟩ (by omega) ?_ ?_
 ·exact q03 rfl ⟨rfl,rfl,trivial⟩ rfl
 rintro k ⟨hk,hke⟩ N hN
 refine gg rfl (q01 rfl (fun e1=>?_) (fun e1=>?_))
 ·rw[q06]at e1
  have hlt:k<p.notches.length:=by omega
  have w1:=wS (n:=k)
  have hdr:p.notches.drop k=nt p.notches k::p.notches.drop (k+1):=by rw[List.drop_eq_getElem_cons hlt,qv5 hlt]
  have hst:(((p.notches.take (k+1)).map fun n=>(q1w p G n).1).map q00)=((p.notches.take k).map fun n=>(q1w p G n).1).map q00++[q00 (q1w p G (nt p.notches k)).1]:=by
   rw[List.take_succ_eq_append_getElem hlt,List.map_append,List.map_append,qv5 hlt];rfl
  have hne:=qv6 hlt
  rw[hdr,q2A]at hke
  generalize nt p.notches k=n at*
  have bad:(q1w p G n).2≠0→q2A p G p.notches=(q1w p G n).2:=fun h=>by rw[hke,if_neg h]
  refine gg rfl (q0i k rfl rfl rfl hne rfl (gg rfl (q09 rfl (fun f1=>?_) (fun f1=>?_))))
  ·rw[q06]at f1
   have hn:q1w p G n=(0,3):=by rw[q1w,if_pos (.inl f1)]
   rw[hn]at bad
   refine gg rfl (q0d rfl (gg rfl (q04 (gg rfl (q08 rfl rfl rfl trivial ?_)))))
   rw[bad (by decide)];rfl
  rw[q07]at f1
  refine gg rfl ?_
  rw[List.length_map]
  refine q01 rfl (fun f2=>?_) (fun f2=>?_)
  ·rw[q0E]at f2
   have hn:q1w p G n=(0,3):=by rw[q1w,if_pos (.inr f2)]
   rw[hn]at bad
   refine gg rfl (q04 (gg rfl (q08 rfl rfl rfl trivial ?_)))
   rw[bad (by decide)];rfl
  rw[q0F]at f2
  have ei:n.edge=((n.edge.toNat:Nat):Int):=by omega
  have hl1:n.edge.toNat<p.edges.length:=by omega
  have hl2:n.edge.toNat<G.length:=by omega
  have l1:=q5s (eg p.edges n.edge.toNat).line
  have l2:=q5s (eg G n.edge.toNat).line
  have hn0:q1w p G n=if(q17 (eg p.edges n.edge.toNat).line).2≠0 then(0,(q17 (eg p.edges n.edge.toNat).line).2)
   else if(q17 (eg G n.edge.toNat).line).2≠0 then(0,(q17 (eg G n.edge.toNat).line).2)
   else q3v (q17 (eg p.edges n.edge.toNat).line).1 (q17 (eg G n.edge.toNat).line).1 false n.at_:=by rw[q1w,if_neg (by omega)]
  refine gg rfl (q0i n.edge.toNat rfl rfl ei (q1K hl1) rfl (gg rfl (q02 rfl rfl l1 (gg rfl (q01 rfl (fun f3=>?_) (fun f3=>?_))))))
  ·rw[q0u]at f3
   rw[if_pos f3]at hn0
   rw[hn0]at bad
   refine gg rfl (q04 (gg rfl (q08 rfl rfl rfl trivial ?_)))
   rw[bad f3,if_pos f3,if_neg f3];rfl
  rw[q0z]at f3
  rw[if_neg (by simp[f3])]at hn0
  refine gg rfl (q0i n.edge.toNat rfl rfl ei (q1K hl2) rfl (gg rfl (q02 rfl rfl l2 (gg rfl (q01 rfl (fun f4=>?_) (fun f4=>?_))))))
  ·rw[q0u]at f4
   rw[if_pos f4]at hn0
   rw[hn0]at bad
   refine gg rfl (q04 (gg rfl (q08 rfl rfl rfl trivial ?_)))
   rw[bad f4,if_pos f4,if_neg f4];rfl
  rw[q0z]at f4
  rw[if_neg (by simp[f4])]at hn0
  refine gg rfl (q02 rfl rfl (qov (q17 (eg p.edges n.edge.toNat).line).1 (q17 (eg G n.edge.toNat).line).1 false n.at_) ?_)
  rw[←hn0]
  refine gg rfl (q01 rfl (fun f5=>?_) (fun f5=>?_))
  ·rw[q0u]at f5
   refine gg rfl (q04 (gg rfl (q08 rfl rfl rfl trivial ?_)))
   rw[bad f5,if_pos f5,if_neg f5];rfl
  rw[q0z]at f5
  rw[if_pos f5]at hke
  refine gg rfl (q1b rfl rfl rfl rfl rfl rfl (by simp;omega) (Nat.zero_le _) (by simp[q0M];omega) ?_)
  refine gg rfl (q04 (hN (k+1) ⟨hlt,hke⟩ (by omega) (q03 rfl ⟨rfl,?_,trivial⟩ ?_)))
  ·rw[List.all_append,q05 q5y];rfl
  rw[hst,w1];rfl
 rw[q07]at e1
 obtain rfl:k=p.notches.length:=by omega
 have hz:q2A p G p.notches=0:=by rw[hke,List.drop_length];rfl
 rw[hz,List.take_length]
 refine gg rfl (q04 (gg rfl (q08 rfl rfl rfl ⟨q2s (by simp) (q0W qeE _),trivial⟩ ?_)))
 rw[q2t (by simp)];rfl
theorem qaA (p:Piece)(m:Int)(hc:p.corners.length≤1000000):PU qoL [p.enc,.int .i64 m]=some (.tup [ints (q0S p m).1,.int .i64 (q0S p m).2]):=by
 have h:=qC8 p m hc
 refine q0g (fn:=qcT) rfl (q0a ?_)
 exact gg rfl (q02 rfl rfl h (gg rfl (q08 rfl rfl rfl trivial rfl)))
end Go.F

namespace Go.F
section
variable {T:Tab}{sh:Shr}{nx0:Nat}{s:List Fr}{t:q0x}{h:q0e}{z:Frz}{nx:Nat}{q:Ex→q0x→q0e→Frz→Nat→Prop}
variable {base i:Nat}{res:List Nat}{g:Gd}{rest:List KOper}
def qcj (t:q0x):Live→List Rep→q0e→Frz→Option (List Obl×q0e×Frz)
 |[],_,h,z=>some ([],h,z)
 |x::rest,reps,h,z=>
  match q28 (t x.1)with
  |none=>
   match plain 4 (t x.1)with
   |true=>qcj t rest reps h z
   |false=>none
  |some id=>
   match h id with
   |some (.row es esz)=>
    match reps with
    |[]=>none
    |none::reps=>
     match qcj t rest reps h z with
     |some (o,h',z')=>some (.p es::o,h',z')
     |none=>none
    |some (l,rs)::reps=>
     match qcj t rest reps (upd h id (some (.row l esz))) (q8k h z rs)with
     |some (o,h',z')=>some (.s h es l rs::o,h',z')
     |none=>none
   |some (.mp _ vs)=>
    match qcj t rest reps h z with
    |some (o,h',z')=>some (.p vs::o,h',z')
    |none=>none
   |none=>qcj t rest reps h z
theorem qFd {t:q0x}:∀{live:Live} {reps:List Rep} {h:q0e} {z:Frz} {o:List Obl} {h':q0e} {z':Frz} {k:q0e→Frz→Prop},qcj t live reps h z=some (o,h',z')→qjU o→k h' z'→q34 live t h z k:=by
 intro live
 induction live with
 |nil=>intro reps h z o h' z' k hr _ hk;simp only[qcj,Option.some.injEq,Prod.mk.injEq]at hr;obtain⟨_,rfl,rfl⟩:=hr;exact hk
 |cons x live ih=>
  intro reps h z o h' z' k hr ho hk
  simp only[qcj]at hr
  simp only[q34]
  cases hid:q28 (t x.1)with
  |none=>
   rw[hid]at hr
   simp only at hr⊢
   cases hb:plain 4 (t x.1)with
   |true=>rw[hb]at hr;exact ih hr ho hk
   |false=>rw[hb]at hr;cases hr
  |some id=>
   rw[hid]at hr
   simp only at hr⊢
   cases hb:h id with
   |none=>rw[hb]at hr;exact ih hr ho hk
   |some b=>
    rw[hb]at hr
    cases b with
    |mp ks vs=>
     simp only at hr⊢
     cases hx:qcj t live reps h z with
     |none=>rw[hx]at hr;cases hr
     |some y=>
      obtain⟨o1,h1,z1⟩:=y
      rw[hx]at hr
      simp only[Option.some.injEq,Prod.mk.injEq]at hr
      obtain⟨rfl,rfl,rfl⟩:=hr
      exact q1t ho.1 (ih hx ho.2 hk)
    |row es esz=>
     simp only at hr⊢
     match reps,hr with
     |none::reps,hr=>
      simp only at hr
      cases hx:qcj t live reps h z with
      |none=>rw[hx]at hr;cases hr
      |some y=>
       obtain⟨o1,h1,z1⟩:=y
       rw[hx]at hr
       simp only[Option.some.injEq,Prod.mk.injEq]at hr
       obtain⟨rfl,rfl,rfl⟩:=hr
       unfold qbh
       exact .inl ⟨ho.1,ih hx ho.2 hk⟩
     |some (l,rs)::reps,hr=>
      simp only at hr
      cases hx:qcj t live reps (upd h id (some (.row l esz))) (q8k h z rs)with
      |none=>rw[hx]at hr;cases hr
      |some y=>
       obtain⟨o1,h1,z1⟩:=y
       rw[hx]at hr
       simp only[Option.some.injEq,Prod.mk.injEq]at hr
       obtain⟨rfl,rfl,rfl⟩:=hr
       obtain⟨g1,g2,g3,g4⟩:=ho.1
       unfold qbh
       exact .inr ⟨l,rs,g1,g2,g3,g4,ih hx ho.2 hk⟩
def setZ (live:Live)(reps:List Rep)(t:q0x)(h:q0e)(z:Frz)(nx:Nat):Option (List Obl×Kept):=
 match qcs live t h z nx with
 |(t,h,z)=>
  match qcj t live reps h z with
  |some (o,h',z')=>fL1 (q9M 0 (q0B t live) t live) fun vs=>fLi (q9N 0 (q0B t live) h' (q0B t live) 0) fun bs=>fLi (qie 0 (q0B t live) z' (q0B t live) 0) fun zs=>some (o,vs,bs,zs)
  |none=>none
theorem qAW {live:Live}(reps:List Rep){o:List Obl}{kp:Kept}{K:Kept→Prop}(hs:setZ live reps t h z nx=some (o,kp))(hp:qjU o)(hk:K kp)(hnst:q5p live=false:=by rfl):q12 0 live t h z nx fun _ _ kp=>K kp:=by
 unfold setZ at hs
 split at hs
 rename_i t1 h1 z1 hn
 split at hs
 ·rename_i o1 h2 z2 hr
  simp only[q5u,qq7,Option.some.injEq,Prod.mk.injEq]at hs
  obtain⟨rfl,rfl⟩:=hs
  unfold q12
  simp only[hnst]
  unfold q6U
  refine qiP _ _ _ _ _ _ fun nx'=>?_
  rw[hn]
  refine qFd hr hp ?_
  rw[q6t,q6u]
  exact hk
 cases hs
def qe3 (m:List (ByteArray×D))(s:ByteArray):Option D:=(m.find? fun p=>s==p.1).map (·.2)
theorem q9o (m:List (ByteArray×D))(s:ByteArray):∀n,match findKey s (m.map (·.1)) n with
 |some i=>n≤i∧∃v,(m.map (·.2))[i-n]?=some v∧qe3 m s=some v
 |none=>qe3 m s=none:=by
 induction m with
 |nil=>intro n;rfl
 |cons p m ih=>
  intro n
  simp only[List.map_cons,findKey]
  by_cases e:(s==p.1)=true
  ·rw[if_pos e]
   refine⟨Nat.le_refl _,p.2,by simp,by simp[qe3,List.find?_cons,e]⟩
  rw[if_neg e]
  have h:=ih (n+1)
  have em:qe3 (p::m) s=qe3 m s:=by
   unfold qe3;rw[List.find?_cons]
   simp only[Bool.not_eq_true]at e
   rw[e]
  cases hf:findKey s (m.map (·.1)) (n+1)with
  |none=>rw[hf]at h;simp only at h⊢;rw[em];exact h
  |some i=>
   rw[hf]at h
   simp only at h⊢
   obtain⟨h1,v,h2,h3⟩:=h
   refine⟨by omega,v,?_,by rw[em];exact h3⟩
   have:i-n=(i-(n+1))+1:=by omega
   rw[this,List.getElem?_cons_succ];exact h2
theorem atPut {mx kx vx:X}{dst:Option Nat}{m:List (ByteArray×D)}{st:ByteArray}{id:Nat}(hx:mx.ev t=.mref id)(hh:g.h base h id=some (.mp (m.map (·.1)) (m.map (·.2))))(hz:g.z base z id=0)(hkx:kx.ev t=.str st)(hn:qe3 m st=none)
 (hk:wpM T sh nx0 (.ops base res rest::s) .normal (put t dst (.tup [])) (upd h id (some (.mp ((m++[(st,vx.ev t)]).map (·.1)) ((m++[(st,vx.ev t)]).map (·.2))))) z nx q):
 wpM T sh nx0 (.ops base res (⟨i,dst,none,g,.mapset mx kx vx⟩::rest)::s) .normal t h z nx q:=by
 refine q3t ?_
 have hf:=q9o m st 0
 simp only[kop,qmW,hx,hh,hkx,hz,qu3]
 cases hk':findKey st (m.map (·.1)) 0 with
 |none=>rw[List.map_append,List.map_append]at hk;exact hk
 |some j=>
  rw[hk']at hf
  obtain⟨_,v,h2,h3⟩:=hf
  rw[hn]at h3;cases h3
end
end Go.F

namespace Go.F
attribute [local irreducible] IntKind.wrap wpM
section
variable {T:Tab}{sh:Shr}{nx0:Nat}{s:List Fr}{t:q0x}{h:q0e}{z:Frz}{nx:Nat}{q:Ex→q0x→q0e→Frz→Nat→Prop}
variable {base i:Nat}{res:List Nat}{g:Gd}{rest:List KOper}
end
def q2S (n:Nat):Bool:=(decide (65≤n)&&decide (n≤90)) ||(decide (48≤n)&&decide (n≤57))
def sizeS (s:ByteArray):Bool:=decide (1≤s.size)&&(decide (s.size≤8)&&decide (∀i,i<s.size→q2S (q2u s i).toNat=true))
theorem qy1 {s:ByteArray}{k:Nat}(hk:k<s.size)(h:q2S (q2u s k).toNat=false):sizeS s=false:=by
 unfold sizeS
 rw[Bool.and_eq_false_iff,Bool.and_eq_false_iff]
 right;right
 rw[decide_eq_false_iff_not]
 intro g
 rw[g k hk]at h;cases h
theorem q1y (n:Nat):q2S n=((leb 65 n&&leb n 90) ||(leb 48 n&&leb n 57)):=by
 simp only[q2S,q27]
 congr 1
 ·congr 1<;>(apply decide_eq_decide.2;omega)
 congr 1<;>(apply decide_eq_decide.2;omega)
set_option maxHeartbeats 2000000 in
theorem qmJ (s:ByteArray)(hs:s.size≤1000000):PU qoT [.str s]=some (.bool (sizeS s)):=by
 refine q0g (fn:=qdn) rfl (q0a ?_)
 refine gg rfl (q0l (S:=fun k:Nat=>([.str s,q00 s.size,q00 k],[none,none,none],[0,0,0])) (C:=fun k=>k≤s.size∧∀i,i<k→q2S (q2u s i).toNat=true) (m:=fun k=>s.size-k) 0 ⟨by omega,fun i hi=>by omega⟩ (by omega) ?_ ?_)
 ·exact q03 rfl trivial (by simp[q00])
 intro k ⟨hk,hall⟩ N hN
 refine gg rfl (q01 rfl (fun g1=>?_) (fun g1=>?_))
 ·rw[q06]at g1
  have hlt:k<s.size:=by omega
  have w1:=wS (n:=k)
  have hb:=q6j hlt
  have hno:=qy1 hlt
  have hyes:q2S (q2u s k).toNat=true→∀i,i<k+1→q2S (q2u s i).toNat=true:=by
   intro h i hi
   by_cases e:i=k
   ·subst e;exact h
   exact hall i (by omega)
  generalize q2u s k=c at*
  refine gg rfl (q2f k rfl rfl rfl hb (gg rfl (q09 rfl (fun a1=>?_) (fun a1=>?_))))
  ·refine gg rfl (q2f k rfl rfl rfl hb (gg rfl (q2f k rfl rfl rfl hb (gg rfl (q09 rfl (fun d1=>?_) (fun d1=>?_))))))
   ·refine gg rfl (q2f k rfl rfl rfl hb (gg rfl (q09 rfl (fun e1=>?_) (fun e1=>?_))))
    ·refine gg rfl (q01 rfl (fun e2=>?_) (fun e2=>?_))
     ·have hc:q2S c.toNat=false:=by rw[q1y];simp_all
      refine gg rfl (q04 (gg rfl (q08 rfl rfl rfl trivial ?_)))
      rw[hno hc]
     have hc:q2S c.toNat=true:=by rw[q1y];simp_all
     exact gg rfl (q04 (hN (k+1) ⟨hlt,hyes hc⟩ (by omega) (q03 rfl trivial (by simp[q00,w1]))))
    refine gg rfl (q0j rfl ?_)
    have hc:q2S c.toNat=true:=by rw[q1y];simp_all
    exact gg rfl (q04 (hN (k+1) ⟨hlt,hyes hc⟩ (by omega) (q03 rfl trivial (by simp[q00,w1]))))
   refine gg rfl (q09 rfl (fun e1=>?_) (fun e1=>?_))
   ·refine gg rfl (q01 rfl (fun e2=>?_) (fun e2=>?_))
    ·have hc:q2S c.toNat=false:=by rw[q1y];simp_all
     refine gg rfl (q04 (gg rfl (q08 rfl rfl rfl trivial ?_)))
     rw[hno hc]
    have hc:q2S c.toNat=true:=by rw[q1y];simp_all
    exact gg rfl (q04 (hN (k+1) ⟨hlt,hyes hc⟩ (by omega) (q03 rfl trivial (by simp[q00,w1]))))
   refine gg rfl (q0j rfl ?_)
   have hc:q2S c.toNat=true:=by rw[q1y];simp_all
   exact gg rfl (q04 (hN (k+1) ⟨hlt,hyes hc⟩ (by omega) (q03 rfl trivial (by simp[q00,w1]))))
  refine gg rfl (q2f k rfl rfl rfl hb (gg rfl (q09 rfl (fun d1=>?_) (fun d1=>?_))))
  ·refine gg rfl (q2f k rfl rfl rfl hb (gg rfl (q09 rfl (fun e1=>?_) (fun e1=>?_))))
   ·refine gg rfl (q01 rfl (fun e2=>?_) (fun e2=>?_))
    ·have hc:q2S c.toNat=false:=by rw[q1y];simp_all
     refine gg rfl (q04 (gg rfl (q08 rfl rfl rfl trivial ?_)))
     rw[hno hc]
    have hc:q2S c.toNat=true:=by rw[q1y];simp_all
    exact gg rfl (q04 (hN (k+1) ⟨hlt,hyes hc⟩ (by omega) (q03 rfl trivial (by simp[q00,w1]))))
   refine gg rfl (q0j rfl ?_)
   have hc:q2S c.toNat=true:=by rw[q1y];simp_all
   exact gg rfl (q04 (hN (k+1) ⟨hlt,hyes hc⟩ (by omega) (q03 rfl trivial (by simp[q00,w1]))))
  refine gg rfl (q09 rfl (fun e1=>?_) (fun e1=>?_))
  ·refine gg rfl (q01 rfl (fun e2=>?_) (fun e2=>?_))
   ·have hc:q2S c.toNat=false:=by rw[q1y];simp_all
    refine gg rfl (q04 (gg rfl (q08 rfl rfl rfl trivial ?_)))
    rw[hno hc]
   have hc:q2S c.toNat=true:=by rw[q1y];simp_all
   exact gg rfl (q04 (hN (k+1) ⟨hlt,hyes hc⟩ (by omega) (q03 rfl trivial (by simp[q00,w1]))))
  refine gg rfl (q0j rfl ?_)
  have hc:q2S c.toNat=true:=by rw[q1y];simp_all
  exact gg rfl (q04 (hN (k+1) ⟨hlt,hyes hc⟩ (by omega) (q03 rfl trivial (by simp[q00,w1]))))
 rw[q07]at g1
 obtain rfl:k=s.size:=by omega
 have hA:decide (∀i,i<s.size→q2S (q2u s i).toNat=true)=true:=decide_eq_true hall
 refine gg rfl (q04 (gg rfl (q09 rfl (fun h1=>?_) (fun h1=>?_))))
 ·rw[q0E]at h1
  refine gg rfl (q08 rfl rfl rfl trivial ?_)
  rw[sizeS,hA,q27,decide_eq_true (show 1≤s.size by omega)]
  simp
  omega
 rw[q0F]at h1
 refine gg rfl (q08 rfl rfl rfl trivial ?_)
 rw[sizeS,decide_eq_false (show¬1≤s.size by omega)];rfl
theorem qcr (s:ByteArray):PU qoJ [.str s]=some (.bool (q1M s)):=by
 refine q0g (fn:=qdx) rfl (q0a ?_)
 refine gg rfl (q02 rfl rfl (qay s) ?_)
 repeat' (first
  |refine goP 800 rfl rfl ?_
  |refine q0h rfl ?_|refine q0n rfl ?_|refine q09 rfl (fun _=>?_) (fun _=>?_)
  |refine q0d rfl ?_|refine q0j rfl ?_|refine q01 rfl (fun _=>?_) (fun _=>?_)
  |refine q0N rfl (fun _=>?_) (fun _=>?_)
  |refine q08 rfl rfl rfl trivial ?_)
 cases q1M s<;>simp[eqb]
theorem qrt (s:ByteArray):PU q7a [.lst [],.str s]=some (.int .i64 (-1)):=by
 refine q0g (fn:=q3P) rfl (q0a ?_)
 refine gg rfl (q0l (S:=fun k:Nat=>([.lst [],.str s,q00 0,q00 k],[none,none,none,none],[0,0,0,0])) (C:=fun k=>k=0) (m:=fun k=>0) 0 rfl (by omega) ?_ ?_)
 ·exact q03 rfl trivial rfl
 rintro k rfl N hN
 refine gg rfl (q01 rfl (fun g=>absurd (q06.1 g) (by simp)) (fun _=>?_))
 exact gg rfl (q04 (gg rfl (q08 rfl rfl rfl trivial rfl)))
theorem qjP (s:ByteArray):PU q67 [.lst [],.str s]=some (.bool false):=by
 refine q0g (fn:=q3m) rfl (q0a ?_)
 refine gg rfl (q02 rfl rfl (qrt s) (gg rfl (q08 rfl rfl rfl trivial ?_)))
 rw[q27];rfl
def qjQ (s:ByteArray):D:=.agg [.lst [.str s],.int .i64 0,.lst []]
theorem qAi (s:ByteArray):PU qmt [qjQ s,.int .i64 0]=some (.bool true):=by
 refine q0g (fn:=qbZ) rfl (q0a ?_)
 repeat' (first
  |refine goP 800 rfl rfl ?_
  |refine q0h rfl ?_|refine q0n rfl ?_|refine q09 rfl (fun _=>?_) (fun _=>?_)
  |refine q0d rfl ?_|refine q0j rfl ?_|refine q01 rfl (fun _=>?_) (fun _=>?_)
  |refine q0N rfl (fun _=>?_) (fun _=>?_)
  |refine q08 rfl rfl rfl trivial ?_)
 all_goals (first|rfl|(simp_all[q27,q1J];done) |(simp only[q0F,q07]at*;omega))
set_option maxHeartbeats 4000000 in
theorem qq6 (s:ByteArray)(hs:s.size≤1000000):PU qqQ [qjQ s]=some (.int .i64 (if sizeS s then 0 else 1)):=by
 have hz:=qmJ s hs
 refine q0g (fn:=qfF) rfl (q0a ?_)
 refine gg rfl (q09 rfl (fun g=>absurd (q06.1 g) (by simp)) (fun _=>?_))
 refine gg rfl (q01 rfl (fun g=>absurd (q06.1 g) (by simp)) (fun _=>?_))
 refine gg rfl (q01 rfl (fun g=>absurd (q1n.1 g) (by simp)) (fun _=>?_))
 refine gg rfl (q0l (S:=fun k:Nat=>([.ptr 0 0 0,.lst [.str s],q00 1,q00 k],[some (.row [qjQ s] 3),none,none,none],[0,0,0,0])) (C:=fun k=>k≤1∧(k=1→sizeS s=true)) (m:=fun k=>1-k) 0 ⟨by omega,fun h=>by omega⟩ (by omega) ?_ ?_)
 ·exact q03 rfl ⟨rfl,trivial⟩ rfl
 rintro k ⟨hk,hks⟩ N hN
 refine gg rfl (q01 rfl (fun g=>?_) (fun g=>?_))
 ·rw[q06]at g
  obtain rfl:k=0:=by omega
  refine gg rfl (q0i 0 rfl rfl rfl rfl rfl (gg rfl (q02 rfl rfl hz ?_)))
  cases hv:sizeS s with
  |false=>
   exact gg rfl (q0d rfl (gg rfl (q04 (gg rfl (q08 rfl rfl rfl trivial rfl)))))
  |true=>
   refine gg rfl (q0j rfl (gg rfl (q04 (hN 1 ⟨by omega,fun _=>hv⟩ (by omega) (q03 rfl ⟨rfl,trivial⟩ ?_)))))
   have w:IntKind.i64.wrap (((0:Nat):Int)+1)=((1:Nat):Int):=ww
   rw[w];rfl
 rw[q07]at g
 obtain rfl:k=1:=by omega
 clear hN
 rw[hks rfl]
 refine gg rfl (q04 (gg rfl (q0l (S:=fun k:Nat=>([.ptr 0 0 0,.lst [],q00 0,q00 0],[some (.row [qjQ s] 3),none,none,none],[0,0,0,0])) (C:=fun k=>k=0) (m:=fun k=>0) 0 rfl (by omega) ?_ ?_)))
 ·exact q03 rfl ⟨rfl,trivial⟩ rfl
 rintro k rfl N hN
 refine gg rfl (q01 rfl (fun g=>absurd (q06.1 g) (by simp)) (fun _=>?_))
 clear hN
 refine gg rfl (q04 (gg rfl (q0l (S:=fun k:Nat=>([.ptr 0 0 0,.lst [.str s],q00 1,q00 k],[some (.row [qjQ s] 3),none,none,none],[0,0,0,0])) (C:=fun k=>k≤1) (m:=fun k=>1-k) 0 (by omega) (by omega) ?_ ?_)))
 ·exact q03 rfl ⟨rfl,trivial⟩ rfl
 intro k hk N hN
 refine gg rfl (q01 rfl (fun g=>?_) (fun g=>?_))
 ·rw[q06]at g
  obtain rfl:k=0:=by omega
  refine gg rfl (q0i 0 rfl rfl rfl rfl rfl (gg rfl (qcK 0 rfl rfl ⟨_,_,rfl,rfl⟩ (Nat.zero_le _) (gg rfl (q02 rfl rfl (qjP s) (gg rfl (q0j rfl (gg rfl (q04 (hN 1 (by omega) (by omega) (q03 rfl ⟨rfl,trivial⟩ ?_)))))))))))
  have w:IntKind.i64.wrap (((0:Nat):Int)+1)=((1:Nat):Int):=ww
  rw[w];rfl
 rw[q07]at g
 clear hN
 refine gg rfl (q04 (gg rfl (q0l (S:=fun k:Nat=>([.ptr 0 0 0,.lst [],q00 0,q00 0],[some (.row [qjQ s] 3),none,none,none],[0,0,0,0])) (C:=fun k=>k=0) (m:=fun k=>0) 0 rfl (by omega) ?_ ?_)))
 ·exact q03 rfl ⟨rfl,trivial⟩ rfl
 rintro k rfl N hN
 refine gg rfl (q01 rfl (fun g=>absurd (q06.1 g) (by simp)) (fun _=>?_))
 clear hN
 exact gg rfl (q04 (gg rfl (q02 rfl rfl (qAi s) (gg rfl (q0j rfl (gg rfl (q08 rfl rfl rfl trivial rfl)))))))
theorem qmK (s:ByteArray)(hs:s.size≤1000000):PU qoK [.str s]=some (.bool (sizeS s)):=by
 have hz:=qq6 s hs
 refine q0g (fn:=qdi) rfl (q0a ?_)
 refine gg rfl (q6N rfl rfl ⟨⟨Nat.le_refl _,rfl⟩,trivial⟩ hz rfl (gg rfl (q08 rfl rfl rfl trivial ?_)))
 cases sizeS s<;>simp[q2e]
theorem qv7 (l:List Int)(v:Int)(hl:l.length≤1000000):PU qbf [ints l,.int .i64 v]=some (.int .i64 (qdO (fun x=>decide (v=x)) l)):=by
 refine q0g (fn:=q5R) rfl (q0a ?_)
 refine gg rfl ?_
 rw[List.length_map]
 refine q0l (S:=fun k:Nat=>([ints l,.int .i64 v,q00 l.length,q00 k],[none,none,none,none],[0,0,0,0])) (C:=fun k=>k≤l.length∧∀j (hj:j<l.length),j<k→decide (v=l[j])=false) (m:=fun k=>l.length-k) 0 ⟨Nat.zero_le _,fun j _ h=>by omega⟩ (by omega) ?_ ?_
 ·exact q03 rfl trivial (by simp[ints,q00])
 rintro k ⟨hk,hno⟩ N hN
 refine gg rfl (q01 rfl (fun g=>?_) (fun g=>?_))
 ·rw[q06]at g
  have hlt:k<l.length:=by omega
  have w1:=wS (n:=k)
  refine gg rfl (q0i k rfl rfl rfl (q1A hlt) rfl (gg rfl (q01 rfl (fun e=>?_) (fun e=>?_))))
  ·rw[q1n]at e
   refine gg rfl (q04 (gg rfl (q08 rfl rfl rfl trivial ?_)))
   rw[qgh hlt hno (decide_eq_true e)]
  rw[q1Q]at e
  refine gg rfl (q04 (hN (k+1) ⟨hlt,fun j hj hjk=>?_⟩ (by omega) (q03 rfl trivial (by simp[ints,q00,w1]))))
  by_cases ej:j=k
  ·subst ej;exact decide_eq_false e
  exact hno j hj (by omega)
 rw[q07]at g
 obtain rfl:k=l.length:=by omega
 refine gg rfl (q04 (gg rfl (q08 rfl rfl rfl trivial ?_)))
 rw[qgi fun j hj=>hno j hj hj]
theorem qmL (l:List Int)(v:Int)(hl:l.length≤1000000):PU q8N [ints l,.int .i64 v]=some (.bool (decide (v∈l))):=by
 have h:=qv7 l v hl
 have e:decide (v∈l)=decide (0≤qdO (fun x=>decide (v=x)) l):=by
  rw[qbc]
  rw[Bool.eq_iff_iff]
  simp
 refine q0g (fn:=q4J) rfl (q0a ?_)
 refine gg rfl (q02 rfl rfl h (gg rfl (q08 rfl rfl rfl trivial ?_)))
 rw[e,q27]
end Go.F

namespace Go.F
attribute [local irreducible] IntKind.wrap wpM
section
variable {T:Tab}{sh:Shr}{nx0:Nat}{s:List Fr}{t:q0x}{h:q0e}{z:Frz}{nx:Nat}{q:Ex→q0x→q0e→Frz→Nat→Prop}
variable {base i:Nat}{res:List Nat}{g:Gd}{rest:List KOper}
theorem qHo {zv:D}{x kx:X}{dst:Nat}{m:List (ByteArray×D)}{st:ByteArray}{id:Nat}(hx:x.ev t=.mref id)(hh:g.h base h id=some (.mp (m.map (·.1)) (m.map (·.2))))(hkx:kx.ev t=.str st)
 (hs:∀v,qe3 m st=some v→wpM T sh nx0 (.ops base res rest::s) .normal (upd t dst v) h z nx q)
 (hn:qe3 m st=none→wpM T sh nx0 (.ops base res rest::s) .normal (upd t dst zv) h z nx q):
 wpM T sh nx0 (.ops base res (⟨i,some dst,none,g,.lookup zv x kx false⟩::rest)::s) .normal t h z nx q:=by
 refine q3t ?_
 have hf:=q9o m st 0
 simp only[kop,qid,hx,hh,q6m,hkx,qu3]
 cases hk:findKey st (m.map (·.1)) 0 with
 |none=>rw[hk]at hf;exact hn hf
 |some j=>
  rw[hk]at hf
  obtain⟨_,v,h2,h3⟩:=hf
  exact q9u h2 (hs v h3)
end
theorem qHp {a b:ByteArray}(h:a.toList=b.toList):a=b:=by
 rw[Go.ByteArray.toList_eq,Go.ByteArray.toList_eq]at h
 exact ByteArray.ext (Array.ext' h)
theorem ba_eq2 (a b:ByteArray):(a==b)=(a.toList==b.toList):=by
 have e:(a==b)=(a.data==b.data):=rfl
 rw[e,Bool.eq_iff_iff,beq_iff_eq,beq_iff_eq]
 exact⟨fun h=>by rw[Go.ByteArray.toList_eq,Go.ByteArray.toList_eq,h],fun h=>by rw[qHp h]⟩
def q71 (l:List ByteArray):List (ByteArray×D):=l.map fun x=>(x,D.bool true)
theorem qAj (l:List ByteArray)(x:ByteArray):q71 (l++[x])=q71 l++[(x,.bool true)]:=by simp[q71]
theorem qDA (l:List ByteArray)(s:ByteArray):qe3 (q71 l) s=cond (l.any fun x=>x.toList==s.toList) (some (.bool true)) none:=by
 induction l with
 |nil=>rfl
 |cons x l ih=>
  unfold qe3 q71 at*
  simp only[List.map_cons,List.find?_cons,List.any_cons]
  rw[ba_eq2,Bool.beq_comm]
  cases x.toList==s.toList with
  |true=>rfl
  |false=>exact ih
theorem qy2 (l:List ByteArray):((q71 l).map (·.2)).all (plain 4)=true:=by
 unfold q71;rw[List.map_map];exact q05 (fun _=>rfl) _
def q4P (l:List ByteArray):Bool:=(List.range l.length).any fun i=>(l.take i).any fun x=>x.toList==(sz l i).toList
def q2m (s:Sty):Int:=
 if q1M s.name=false∨s.sizes.length=0 then 1
 else if s.sizes.any (fun x=>!sizeS x)then 1
 else if s.mults.length≠s.sizes.length∨0∉s.mults then 1
 else if q4P s.sizes then 7
 else if 12<s.sizes.length∨12<s.pieces.length∨12<s.uses.length then 5
 else if 24<s.seams.length∨16<s.ops.length then 5
 else if s.mults.any (fun m=>decide (m< -100) ||decide (100<m))then 3 else 0
structure StyB (s:Sty):Prop where
 sizes:s.sizes.length≤1000
 size:∀x∈s.sizes,x.size≤1000
 mults:s.mults.length≤1000
 pieces:s.pieces.length≤1000
 uses:s.uses.length≤1000
 seams:s.seams.length≤1000
 ops:s.ops.length≤1000
 corners:∀p∈s.pieces,p.corners.length≤1000
 widths:∀p∈s.pieces,p.widths.length≤1000
 notches:∀p∈s.pieces,p.notches.length≤1000
theorem qeQ (s:Sty):s.enc=.agg [.str s.name,.lst (s.sizes.map .str),.lst (s.mults.map q00),.lst (s.pieces.map Piece.enc),.lst (s.uses.map Use.enc),.lst (s.seams.map Sew.enc),.lst (s.ops.map Opn.enc)]:=rfl
set_option maxHeartbeats 8000000 in
theorem qru (s:Sty)(hB:StyB s):PU qgo [s.enc]=some (.int .i64 (q2m s)):=by
 have b1:=hB.sizes
 have b2:=hB.mults
 refine q0g (fn:=q8d) rfl (q0a ?_)
 refine gg rfl (q02 rfl rfl (qcr s.name) ?_)
 cases hn:q1M s.name with
 |false=>
  refine gg rfl (q0h rfl (gg rfl (q0d rfl (gg rfl (q08 rfl rfl rfl trivial ?_)))))
  rw[q2m,if_pos (.inl hn)]
 |true=>
  refine gg rfl (q0n rfl (gg rfl ?_))
  rw[List.length_map]
  refine q01 rfl (fun g=>?_) (fun g=>?_)
  ·rw[q1n]at g
   refine gg rfl (q08 rfl rfl rfl trivial ?_)
   rw[q2m,if_pos (.inr (by omega))]
  rw[q1Q]at g
  have hc1:¬(q1M s.name=false∨s.sizes.length=0):=by
   rintro(h|h)
   ·rw[hn]at h;cases h
   omega
  refine gg rfl ?_
  rw[List.length_map]
  refine q0l (S:=fun k:Nat=>([.ptr 0 0 0,strs s.sizes,q00 s.sizes.length,q00 k],[some (.row [s.enc] 7),none,none,none],[0,0,0,0])) (C:=fun k=>k≤s.sizes.length∧∀j (hj:j<s.sizes.length),j<k→sizeS s.sizes[j]=true) (m:=fun k=>s.sizes.length-k) 0 ⟨Nat.zero_le _,fun j _ h=>by omega⟩ (by omega) ?_ ?_
  ·exact q03 rfl ⟨rfl,trivial⟩ rfl
  rintro k ⟨hk,hall⟩ N hN
  refine gg rfl (q01 rfl (fun e=>?_) (fun e=>?_))
  ·rw[q06]at e
   have hlt:k<s.sizes.length:=by omega
   have w1:=wS (n:=k)
   have hz:=qmK s.sizes[k] (by have:=hB.size _ (List.getElem_mem hlt);omega)
   refine gg rfl (q0i k rfl rfl rfl (q1A hlt) rfl (gg rfl (q02 rfl rfl hz ?_)))
   cases hv:sizeS s.sizes[k]with
   |false=>
    refine gg rfl (q0d rfl (gg rfl (q04 (gg rfl (q08 rfl rfl rfl trivial ?_)))))
    rw[q2m,if_neg hc1,if_pos (q29 hlt (by rw[hv];rfl))]
   |true=>
    refine gg rfl (q0j rfl (gg rfl (q04 (hN (k+1) ⟨hlt,fun j hj hjk=>?_⟩ (by omega) (q03 rfl ⟨rfl,trivial⟩ (by rw[w1];rfl))))))
    by_cases ej:j=k
    ·subst ej;exact hv
    exact hall j hj (by omega)
  rw[q07]at e
  obtain rfl:k=s.sizes.length:=by omega
  clear hN
  have hc2:¬(s.sizes.any (fun x=>!sizeS x))=true:=by rw[q1Z fun j hj=>by rw[hall j hj hj];rfl];decide
  refine gg rfl (q04 (gg rfl ?_))
  rw[List.length_map,List.length_map]
  refine q09 rfl (fun g2=>?_) (fun g2=>?_)
  ·rw[q0u]at g2
   refine gg rfl (q0d rfl (gg rfl (q08 rfl rfl rfl trivial ?_)))
   rw[q2m,if_neg hc1,if_neg hc2,if_pos (.inl (by omega))]
  rw[q0z]at g2
  have g2':s.mults.length=s.sizes.length:=by omega
  refine gg rfl (q02 rfl rfl (qmL s.mults 0 (by omega)) ?_)
  cases hz:decide (0∈s.mults)with
  |false=>
   have hz:=of_decide_eq_false hz
   refine gg rfl (q0d rfl (gg rfl (q08 rfl rfl rfl trivial ?_)))
   rw[q2m,if_neg hc1,if_neg hc2,if_pos (.inr hz)]
  |true=>
   have hz:=of_decide_eq_true hz
   have hc3:¬(s.mults.length≠s.sizes.length∨0∉s.mults):=by
    rintro(h|h)
    ·exact h g2'
    exact h hz
   refine gg rfl (q0j rfl (gg rfl ?_))
   rw[List.length_map]
   refine q0l (S:=fun k:Nat=>([.ptr 0 0 0,.mref 1,strs s.sizes,q00 s.sizes.length,q00 k],[some (.row [s.enc] 7),some (.mp ((q71 (s.sizes.take k)).map (·.1)) ((q71 (s.sizes.take k)).map (·.2))),none,none,none],[0,0,0,0,0])) (C:=fun k=>k≤s.sizes.length∧∀i,i<k→((s.sizes.take i).any fun x=>x.toList==(sz s.sizes i).toList)=false) (m:=fun k=>s.sizes.length-k) 0 ⟨Nat.zero_le _,fun j h=>by omega⟩ (by omega) ?_ ?_
   ·exact qAW (o:=[.p _,.p _]) (kp:=([.ptr 0 0 0,.mref 1,strs s.sizes,q00 s.sizes.length,q00 0],[some (.row [s.enc] 7),some (.mp [] []),none,none,none],[0,0,0,0,0])) [none] rfl ⟨rfl,rfl,trivial⟩ rfl
   rintro k ⟨hk,htw⟩ N hN
   refine gg rfl (q01 rfl (fun e=>?_) (fun e=>?_))
   ·rw[q06]at e
    have hlt:k<s.sizes.length:=by omega
    have w1:=wS (n:=k)
    have hst:q71 (s.sizes.take (k+1))=q71 (s.sizes.take k)++[(sz s.sizes k,.bool true)]:=by
     rw[List.take_succ_eq_append_getElem hlt,qAj,qAg hlt]
    have hgt:=qDA (s.sizes.take k) (sz s.sizes k)
    refine gg rfl (q0i k rfl rfl rfl (qAh hlt) rfl (gg rfl (qHo (m:=q71 (s.sizes.take k)) rfl rfl rfl (fun v hv=>?_) (fun hv=>?_))))
    ·rw[hgt]at hv
     cases ha:((s.sizes.take k).any fun x=>x.toList==(sz s.sizes k).toList)with
     |true=>
      rw[ha]at hv
      cases hv
      refine gg rfl (q0d rfl (gg rfl (q04 (gg rfl (q08 rfl rfl rfl trivial ?_)))))
      have ht:q4P s.sizes=true:=by
       unfold q4P
       rw[List.any_eq_true]
       exact⟨k,List.mem_range.2 hlt,ha⟩
      rw[q2m,if_neg hc1,if_neg hc2,if_neg hc3,if_pos ht]
     |false=>rw[ha]at hv;cases hv
    have ha:((s.sizes.take k).any fun x=>x.toList==(sz s.sizes k).toList)=false:=by
     rw[hgt]at hv
     cases ha:((s.sizes.take k).any fun x=>x.toList==(sz s.sizes k).toList)with
     |true=>rw[ha]at hv;cases hv
     |false=>rfl
    refine gg rfl (q0j rfl (gg rfl (atPut (m:=q71 (s.sizes.take k)) rfl rfl rfl rfl hv (gg rfl (q04 (hN (k+1) ⟨hlt,fun i hi=>?_⟩ (by omega) (qAW (o:=[.p [s.enc],.p ((q71 (s.sizes.take k)++[(sz s.sizes k,D.bool true)]:List (ByteArray×D)).map (·.2))]) (kp:=([.ptr 0 0 0,.mref 1,strs s.sizes,q00 s.sizes.length,.int .i64 (IntKind.i64.wrap ((k:Int)+1))],[some (.row [s.enc] 7),some (.mp ((q71 (s.sizes.take k)++[(sz s.sizes k,D.bool true)]:List (ByteArray×D)).map (·.1)) ((q71 (s.sizes.take k)++[(sz s.sizes k,D.bool true)]:List (ByteArray×D)).map (·.2))),none,none,none],[0,0,0,0,0])) [none] rfl ⟨rfl,?_,trivial⟩ ?_)))))))
    ·by_cases ei:i=k
     ·subst ei;exact ha
     exact htw i (by omega)
    ·show List.all ((q71 (s.sizes.take k)++[(sz s.sizes k,D.bool true)]:List (ByteArray×D)).map (·.2)) _=true
     rw[←hst];exact qy2 _
    rw[w1,hst];rfl
   rw[q07]at e
   obtain rfl:k=s.sizes.length:=by omega
   clear hN
   have hc4:¬q4P s.sizes=true:=by
    unfold q4P
    rw[List.any_eq_true]
    rintro⟨i,hi,h⟩
    rw[htw i (List.mem_range.1 hi)]at h;cases h
   have hw:q2m s=if 12<s.sizes.length∨12<s.pieces.length∨12<s.uses.length then 5
    else if 24<s.seams.length∨16<s.ops.length then 5
    else if s.mults.any (fun m=>decide (m< -100) ||decide (100<m))then 3 else 0:=by
    rw[q2m,if_neg hc1,if_neg hc2,if_neg hc3,if_neg hc4]
   rw[hw]
   refine gg rfl (q04 (gg rfl ?_))
   rw[List.length_map]
   refine q09 rfl (fun g3=>?_) (fun g3=>?_)
   ·rw[q06]at g3
    refine gg rfl (q0h rfl (gg rfl (q0d rfl (gg rfl (q08 rfl rfl rfl trivial ?_)))))
    rw[if_pos (.inl (by omega))]
   rw[q07]at g3
   refine gg rfl ?_
   rw[List.length_map]
   refine q09 rfl (fun g4=>?_) (fun g4=>?_)
   ·rw[q06]at g4
    refine gg rfl (q0d rfl (gg rfl (q08 rfl rfl rfl trivial ?_)))
    rw[if_pos (.inr (.inl (by omega)))]
   rw[q07]at g4
   refine gg rfl ?_
   rw[List.length_map]
   refine q01 rfl (fun g5=>?_) (fun g5=>?_)
   ·rw[q06]at g5
    refine gg rfl (q08 rfl rfl rfl trivial ?_)
    rw[if_pos (.inr (.inr (by omega)))]
   rw[q07]at g5
   rw[if_neg (by omega)]
   refine gg rfl ?_
   rw[List.length_map]
   refine q09 rfl (fun g6=>?_) (fun g6=>?_)
   ·rw[q06]at g6
    refine gg rfl (q0d rfl (gg rfl (q08 rfl rfl rfl trivial ?_)))
    rw[if_pos (.inl (by omega))]
   rw[q07]at g6
   refine gg rfl ?_
   rw[List.length_map]
   refine q01 rfl (fun g7=>?_) (fun g7=>?_)
   ·rw[q06]at g7
    refine gg rfl (q08 rfl rfl rfl trivial ?_)
    rw[if_pos (.inr (by omega))]
   rw[q07]at g7
   rw[if_neg (by omega)]
   refine gg rfl ?_
   rw[List.length_map]
   refine q0l (S:=fun k:Nat=>([ints s.mults,q00 s.mults.length,q00 k],[none,none,none],[0,0,0])) (C:=fun k=>k≤s.mults.length∧∀j (hj:j<s.mults.length),j<k→(decide (s.mults[j]< -100) ||decide (100<s.mults[j]))=false) (m:=fun k=>s.mults.length-k) 0 ⟨Nat.zero_le _,fun j _ h=>by omega⟩ (by omega) ?_ ?_
   ·exact q03 rfl trivial rfl
   rintro k ⟨hk,hm⟩ N hN
   refine gg rfl (q01 rfl (fun e=>?_) (fun e=>?_))
   ·rw[q06]at e
    have hlt:k<s.mults.length:=by omega
    have w1:=wS (n:=k)
    have bad:(decide (s.mults[k]< -100) ||decide (100<s.mults[k]))=true→(s.mults.any fun m=>decide (m< -100) ||decide (100<m))=true:=fun h=>q29 hlt h
    have hx:(s.mults.map q00)[k]?=some (.int .i64 s.mults[k]):=q1A hlt
    refine gg rfl (q0i k rfl rfl rfl hx rfl (gg rfl (q09 rfl (fun f1=>?_) (fun f1=>?_))))
    ·rw[q06]at f1
     refine gg rfl (q0d rfl (gg rfl (q04 (gg rfl (q08 rfl rfl rfl trivial ?_)))))
     rw[if_pos (bad (by simp;omega))]
    rw[q07]at f1
    refine gg rfl (q01 rfl (fun f2=>?_) (fun f2=>?_))
    ·rw[q06]at f2
     refine gg rfl (q04 (gg rfl (q08 rfl rfl rfl trivial ?_)))
     rw[if_pos (bad (by simp;omega))]
    rw[q07]at f2
    refine gg rfl (q04 (hN (k+1) ⟨hlt,fun j hj hjk=>?_⟩ (by omega) (q03 rfl trivial (by rw[w1];rfl))))
    by_cases ej:j=k
    ·subst ej;simp;omega
    exact hm j hj (by omega)
   rw[q07]at e
   obtain rfl:k=s.mults.length:=by omega
   rw[if_neg (by rw[q1Z fun j hj=>hm j hj hj];decide)]
   exact gg rfl (q04 (gg rfl (q08 rfl rfl rfl trivial rfl)))
end Go.F

namespace Go.F
attribute [local irreducible] IntKind.wrap wpM
def q24 (b:List Piece)(p:Piece):Int:=
 if q1M p.name=false then 1
 else if p.grain≠1∧p.grain≠2∧p.grain≠4 then 1
 else if(b.any fun o=>o.name.toList==p.name.toList)then 7
 else if(q0p p 0).2≠0 then(q0p p 0).2
 else if(q0S p 0).2≠0 then(q0S p 0).2
 else if p.widths.length≠p.edges.length then 1
 else if p.widths.any q2j then 3 else 0
set_option maxHeartbeats 8000000 in
theorem qrv (b:List Piece)(p:Piece)(hb:b.length≤1000)(h1:p.corners.length≤1000)(h2:p.widths.length≤1000):PU qgp [Go.F.pieces b,p.enc]=some (.int .i64 (q24 b p)):=by
 refine q0g (fn:=q7Y) rfl (q0a ?_)
 refine gg rfl (q02 rfl rfl (qcr p.name) ?_)
 cases hn:q1M p.name with
 |false=>
  refine gg rfl (q0d rfl (gg rfl (q08 rfl rfl rfl trivial ?_)))
  rw[q24,if_pos hn]
 |true=>
  have hc1:¬q1M p.name=false:=by rw[hn];decide
  refine gg rfl (q0j rfl (gg rfl (q09 rfl (fun g1=>?_) (fun g1=>?_))))
  ·rw[q0u]at g1
   refine gg rfl (q09 rfl (fun g2=>?_) (fun g2=>?_))
   ·rw[q0u]at g2
    refine gg rfl (q01 rfl (fun g3=>?_) (fun g3=>?_))
    ·rw[q0u]at g3
     refine gg rfl (q08 rfl rfl rfl trivial ?_)
     rw[q24,if_neg hc1,if_pos ⟨g1,g2,g3⟩]
    rw[q0z]at g3
    have hc2:¬(p.grain≠1∧p.grain≠2∧p.grain≠4):=fun h=>h.2.2 g3
    refine gg rfl ?_
    rw[List.length_map]
    refine q0l (S:=fun k:Nat=>([.ptr 0 0 0,Go.F.pieces b,q00 b.length,q00 k],[some (.row [p.enc] 7),none,none,none],[0,0,0,0])) (C:=fun k=>k≤b.length∧∀j (hj:j<b.length),j<k→(b[j].name.toList==p.name.toList)=false) (m:=fun k=>b.length-k) 0 ⟨Nat.zero_le _,fun j _ h=>by omega⟩ (by omega) ?_ ?_
    ·exact q03 rfl ⟨rfl,trivial⟩ rfl
    rintro k ⟨hk,hno⟩ N hN
    refine gg rfl (q01 rfl (fun e=>?_) (fun e=>?_))
    ·rw[q06]at e
     have hlt:k<b.length:=by omega
     have w1:=wS (n:=k)
     refine gg rfl (q0i k rfl rfl rfl (q1A hlt) rfl (gg rfl (q01 rfl (fun f=>?_) (fun f=>?_))))
     ·refine gg rfl (q04 (gg rfl (q08 rfl rfl rfl trivial ?_)))
      rw[q24,if_neg hc1,if_neg hc2,if_pos (q29 hlt f)]
     refine gg rfl (q04 (hN (k+1) ⟨hlt,fun j hj hjk=>?_⟩ (by omega) (q03 rfl ⟨rfl,trivial⟩ (by rw[w1];rfl))))
     by_cases ej:j=k
     ·subst ej;exact f
     exact hno j hj (by omega)
    rw[q07]at e
    obtain rfl:k=b.length:=by omega
    clear hN
    have hc3:¬(b.any fun o=>o.name.toList==p.name.toList)=true:=by rw[q1Z fun j hj=>hno j hj hj];decide
    have hw:q24 b p=if(q0p p 0).2≠0 then(q0p p 0).2
     else if(q0S p 0).2≠0 then(q0S p 0).2
     else if p.widths.length≠p.edges.length then 1
     else if p.widths.any q2j then 3 else 0:=by rw[q24,if_neg hc1,if_neg hc2,if_neg hc3]
    rw[hw]
    refine gg rfl (q04 (gg rfl (q02 rfl rfl (q5F p 0 (by omega)) ?_)))
    refine gg rfl (q01 rfl (fun f=>?_) (fun f=>?_))
    ·rw[q0u]at f
     refine gg rfl (q08 rfl rfl rfl trivial ?_)
     rw[if_pos f]
    rw[q0z]at f
    rw[if_neg (by simp[f])]
    refine gg rfl (q02 rfl rfl (qaA p 0 (by omega)) ?_)
    refine gg rfl (q01 rfl (fun f2=>?_) (fun f2=>?_))
    ·rw[q0u]at f2
     refine gg rfl (q08 rfl rfl rfl trivial ?_)
     rw[if_pos f2]
    rw[q0z]at f2
    rw[if_neg (by simp[f2])]
    refine gg rfl ?_
    rw[List.length_map,List.length_map]
    refine q01 rfl (fun f3=>?_) (fun f3=>?_)
    ·rw[q0u]at f3
     refine gg rfl (q08 rfl rfl rfl trivial ?_)
     rw[if_pos (by omega)]
    rw[q0z]at f3
    rw[if_neg (by omega)]
    refine gg rfl ?_
    rw[List.length_map]
    refine q0l (S:=fun k:Nat=>([ints p.widths,q00 p.widths.length,q00 k],[none,none,none],[0,0,0])) (C:=fun k=>k≤p.widths.length∧∀j (hj:j<p.widths.length),j<k→q2j p.widths[j]=false) (m:=fun k=>p.widths.length-k) 0 ⟨Nat.zero_le _,fun j _ h=>by omega⟩ (by omega) ?_ ?_
    ·exact q03 rfl trivial rfl
    rintro k ⟨hk,hm⟩ N hN
    refine gg rfl (q01 rfl (fun e=>?_) (fun e=>?_))
    ·rw[q06]at e
     have hlt:k<p.widths.length:=by omega
     have w1:=wS (n:=k)
     have bad:q2j p.widths[k]=true→p.widths.any q2j=true:=fun h=>q29 hlt h
     have hx:(p.widths.map q00)[k]?=some (.int .i64 p.widths[k]):=q1A hlt
     refine gg rfl (q0i k rfl rfl rfl hx rfl (gg rfl (q09 rfl (fun f1=>?_) (fun f1=>?_))))
     ·rw[q06]at f1
      refine gg rfl (q0d rfl (gg rfl (q04 (gg rfl (q08 rfl rfl rfl trivial ?_)))))
      rw[if_pos (bad (by simp[q2j];omega))]
     rw[q07]at f1
     refine gg rfl (q01 rfl (fun f2=>?_) (fun f2=>?_))
     ·rw[q06]at f2
      refine gg rfl (q04 (gg rfl (q08 rfl rfl rfl trivial ?_)))
      rw[if_pos (bad (by simp[q2j];omega))]
     rw[q07]at f2
     refine gg rfl (q04 (hN (k+1) ⟨hlt,fun j hj hjk=>?_⟩ (by omega) (q03 rfl trivial (by rw[w1];rfl))))
     by_cases ej:j=k
     ·subst ej;simp[q2j];omega
     exact hm j hj (by omega)
    rw[q07]at e
    obtain rfl:k=p.widths.length:=by omega
    rw[if_neg (by rw[q1Z fun j hj=>hm j hj hj];decide)]
    exact gg rfl (q04 (gg rfl (q08 rfl rfl rfl trivial rfl)))
   rw[q0z]at g2
   have hc2:¬(p.grain≠1∧p.grain≠2∧p.grain≠4):=fun h=>h.2.1 g2
   refine gg rfl (q0j rfl (gg rfl ?_))
   rw[List.length_map]
   refine q0l (S:=fun k:Nat=>([.ptr 0 0 0,Go.F.pieces b,q00 b.length,q00 k],[some (.row [p.enc] 7),none,none,none],[0,0,0,0])) (C:=fun k=>k≤b.length∧∀j (hj:j<b.length),j<k→(b[j].name.toList==p.name.toList)=false) (m:=fun k=>b.length-k) 0 ⟨Nat.zero_le _,fun j _ h=>by omega⟩ (by omega) ?_ ?_
   ·exact q03 rfl ⟨rfl,trivial⟩ rfl
   rintro k ⟨hk,hno⟩ N hN
   refine gg rfl (q01 rfl (fun e=>?_) (fun e=>?_))
   ·rw[q06]at e
    have hlt:k<b.length:=by omega
    have w1:=wS (n:=k)
    refine gg rfl (q0i k rfl rfl rfl (q1A hlt) rfl (gg rfl (q01 rfl (fun f=>?_) (fun f=>?_))))
    ·refine gg rfl (q04 (gg rfl (q08 rfl rfl rfl trivial ?_)))
     rw[q24,if_neg hc1,if_neg hc2,if_pos (q29 hlt f)]
    refine gg rfl (q04 (hN (k+1) ⟨hlt,fun j hj hjk=>?_⟩ (by omega) (q03 rfl ⟨rfl,trivial⟩ (by rw[w1];rfl))))
    by_cases ej:j=k
    ·subst ej;exact f
    exact hno j hj (by omega)
   rw[q07]at e
   obtain rfl:k=b.length:=by omega
   clear hN
   have hc3:¬(b.any fun o=>o.name.toList==p.name.toList)=true:=by rw[q1Z fun j hj=>hno j hj hj];decide
   have hw:q24 b p=if(q0p p 0).2≠0 then(q0p p 0).2
    else if(q0S p 0).2≠0 then(q0S p 0).2
    else if p.widths.length≠p.edges.length then 1
    else if p.widths.any q2j then 3 else 0:=by rw[q24,if_neg hc1,if_neg hc2,if_neg hc3]
   rw[hw]
   refine gg rfl (q04 (gg rfl (q02 rfl rfl (q5F p 0 (by omega)) ?_)))
   refine gg rfl (q01 rfl (fun f=>?_) (fun f=>?_))
   ·rw[q0u]at f
    refine gg rfl (q08 rfl rfl rfl trivial ?_)
    rw[if_pos f]
   rw[q0z]at f
   rw[if_neg (by simp[f])]
   refine gg rfl (q02 rfl rfl (qaA p 0 (by omega)) ?_)
   refine gg rfl (q01 rfl (fun f2=>?_) (fun f2=>?_))
   ·rw[q0u]at f2
    refine gg rfl (q08 rfl rfl rfl trivial ?_)
    rw[if_pos f2]
   rw[q0z]at f2
   rw[if_neg (by simp[f2])]
   refine gg rfl ?_
   rw[List.length_map,List.length_map]
   refine q01 rfl (fun f3=>?_) (fun f3=>?_)
   ·rw[q0u]at f3
    refine gg rfl (q08 rfl rfl rfl trivial ?_)
    rw[if_pos (by omega)]
   rw[q0z]at f3
   rw[if_neg (by omega)]
   refine gg rfl ?_
   rw[List.length_map]
   refine q0l (S:=fun k:Nat=>([ints p.widths,q00 p.widths.length,q00 k],[none,none,none],[0,0,0])) (C:=fun k=>k≤p.widths.length∧∀j (hj:j<p.widths.length),j<k→q2j p.widths[j]=false) (m:=fun k=>p.widths.length-k) 0 ⟨Nat.zero_le _,fun j _ h=>by omega⟩ (by omega) ?_ ?_
   ·exact q03 rfl trivial rfl
   rintro k ⟨hk,hm⟩ N hN
   refine gg rfl (q01 rfl (fun e=>?_) (fun e=>?_))
   ·rw[q06]at e
    have hlt:k<p.widths.length:=by omega
    have w1:=wS (n:=k)
    have bad:q2j p.widths[k]=true→p.widths.any q2j=true:=fun h=>q29 hlt h
    have hx:(p.widths.map q00)[k]?=some (.int .i64 p.widths[k]):=q1A hlt
    refine gg rfl (q0i k rfl rfl rfl hx rfl (gg rfl (q09 rfl (fun f1=>?_) (fun f1=>?_))))
    ·rw[q06]at f1
     refine gg rfl (q0d rfl (gg rfl (q04 (gg rfl (q08 rfl rfl rfl trivial ?_)))))
     rw[if_pos (bad (by simp[q2j];omega))]
    rw[q07]at f1
    refine gg rfl (q01 rfl (fun f2=>?_) (fun f2=>?_))
    ·rw[q06]at f2
     refine gg rfl (q04 (gg rfl (q08 rfl rfl rfl trivial ?_)))
     rw[if_pos (bad (by simp[q2j];omega))]
    rw[q07]at f2
    refine gg rfl (q04 (hN (k+1) ⟨hlt,fun j hj hjk=>?_⟩ (by omega) (q03 rfl trivial (by rw[w1];rfl))))
    by_cases ej:j=k
    ·subst ej;simp[q2j];omega
    exact hm j hj (by omega)
   rw[q07]at e
   obtain rfl:k=p.widths.length:=by omega
   rw[if_neg (by rw[q1Z fun j hj=>hm j hj hj];decide)]
   exact gg rfl (q04 (gg rfl (q08 rfl rfl rfl trivial rfl)))
  rw[q0z]at g1
  have hc2:¬(p.grain≠1∧p.grain≠2∧p.grain≠4):=fun h=>h.1 g1
  refine gg rfl (q0n rfl (gg rfl (q0j rfl (gg rfl ?_))))
  rw[List.length_map]
  refine q0l (S:=fun k:Nat=>([.ptr 0 0 0,Go.F.pieces b,q00 b.length,q00 k],[some (.row [p.enc] 7),none,none,none],[0,0,0,0])) (C:=fun k=>k≤b.length∧∀j (hj:j<b.length),j<k→(b[j].name.toList==p.name.toList)=false) (m:=fun k=>b.length-k) 0 ⟨Nat.zero_le _,fun j _ h=>by omega⟩ (by omega) ?_ ?_
  ·exact q03 rfl ⟨rfl,trivial⟩ rfl
  rintro k ⟨hk,hno⟩ N hN
  refine gg rfl (q01 rfl (fun e=>?_) (fun e=>?_))
  ·rw[q06]at e
   have hlt:k<b.length:=by omega
   have w1:=wS (n:=k)
   refine gg rfl (q0i k rfl rfl rfl (q1A hlt) rfl (gg rfl (q01 rfl (fun f=>?_) (fun f=>?_))))
   ·refine gg rfl (q04 (gg rfl (q08 rfl rfl rfl trivial ?_)))
    rw[q24,if_neg hc1,if_neg hc2,if_pos (q29 hlt f)]
   refine gg rfl (q04 (hN (k+1) ⟨hlt,fun j hj hjk=>?_⟩ (by omega) (q03 rfl ⟨rfl,trivial⟩ (by rw[w1];rfl))))
   by_cases ej:j=k
   ·subst ej;exact f
   exact hno j hj (by omega)
  rw[q07]at e
  obtain rfl:k=b.length:=by omega
  clear hN
  have hc3:¬(b.any fun o=>o.name.toList==p.name.toList)=true:=by rw[q1Z fun j hj=>hno j hj hj];decide
  have hw:q24 b p=if(q0p p 0).2≠0 then(q0p p 0).2
   else if(q0S p 0).2≠0 then(q0S p 0).2
   else if p.widths.length≠p.edges.length then 1
   else if p.widths.any q2j then 3 else 0:=by rw[q24,if_neg hc1,if_neg hc2,if_neg hc3]
  rw[hw]
  refine gg rfl (q04 (gg rfl (q02 rfl rfl (q5F p 0 (by omega)) ?_)))
  refine gg rfl (q01 rfl (fun f=>?_) (fun f=>?_))
  ·rw[q0u]at f
   refine gg rfl (q08 rfl rfl rfl trivial ?_)
   rw[if_pos f]
  rw[q0z]at f
  rw[if_neg (by simp[f])]
  refine gg rfl (q02 rfl rfl (qaA p 0 (by omega)) ?_)
  refine gg rfl (q01 rfl (fun f2=>?_) (fun f2=>?_))
  ·rw[q0u]at f2
   refine gg rfl (q08 rfl rfl rfl trivial ?_)
   rw[if_pos f2]
  rw[q0z]at f2
  rw[if_neg (by simp[f2])]
  refine gg rfl ?_
  rw[List.length_map,List.length_map]
  refine q01 rfl (fun f3=>?_) (fun f3=>?_)
  ·rw[q0u]at f3
   refine gg rfl (q08 rfl rfl rfl trivial ?_)
   rw[if_pos (by omega)]
  rw[q0z]at f3
  rw[if_neg (by omega)]
  refine gg rfl ?_
  rw[List.length_map]
  refine q0l (S:=fun k:Nat=>([ints p.widths,q00 p.widths.length,q00 k],[none,none,none],[0,0,0])) (C:=fun k=>k≤p.widths.length∧∀j (hj:j<p.widths.length),j<k→q2j p.widths[j]=false) (m:=fun k=>p.widths.length-k) 0 ⟨Nat.zero_le _,fun j _ h=>by omega⟩ (by omega) ?_ ?_
  ·exact q03 rfl trivial rfl
  rintro k ⟨hk,hm⟩ N hN
  refine gg rfl (q01 rfl (fun e=>?_) (fun e=>?_))
  ·rw[q06]at e
   have hlt:k<p.widths.length:=by omega
   have w1:=wS (n:=k)
   have bad:q2j p.widths[k]=true→p.widths.any q2j=true:=fun h=>q29 hlt h
   have hx:(p.widths.map q00)[k]?=some (.int .i64 p.widths[k]):=q1A hlt
   refine gg rfl (q0i k rfl rfl rfl hx rfl (gg rfl (q09 rfl (fun f1=>?_) (fun f1=>?_))))
   ·rw[q06]at f1
    refine gg rfl (q0d rfl (gg rfl (q04 (gg rfl (q08 rfl rfl rfl trivial ?_)))))
    rw[if_pos (bad (by simp[q2j];omega))]
   rw[q07]at f1
   refine gg rfl (q01 rfl (fun f2=>?_) (fun f2=>?_))
   ·rw[q06]at f2
    refine gg rfl (q04 (gg rfl (q08 rfl rfl rfl trivial ?_)))
    rw[if_pos (bad (by simp[q2j];omega))]
   rw[q07]at f2
   refine gg rfl (q04 (hN (k+1) ⟨hlt,fun j hj hjk=>?_⟩ (by omega) (q03 rfl trivial (by rw[w1];rfl))))
   by_cases ej:j=k
   ·subst ej;simp[q2j];omega
   exact hm j hj (by omega)
  rw[q07]at e
  obtain rfl:k=p.widths.length:=by omega
  rw[if_neg (by rw[q1Z fun j hj=>hm j hj hj];decide)]
  exact gg rfl (q04 (gg rfl (q08 rfl rfl rfl trivial rfl)))
def q1P (s:Sty)(p e:Int):Bool:=decide (0≤p)&&(decide (p<s.pieces.length)&&(decide (0≤e)&&decide (e<(pc s.pieces p.toNat).edges.length)))
theorem qsV (s:Sty)(p e:Int):PU qoF [s.enc,.int .i64 p,.int .i64 e]=some (.bool (q1P s p e)):=by
 refine q0g (fn:=qdv) rfl (q0a ?_)
 refine gg rfl (q09 rfl (fun g1=>?_) (fun g1=>?_))
 ·rw[q0E]at g1
  refine gg rfl ?_
  rw[List.length_map]
  refine q09 rfl (fun g2=>?_) (fun g2=>?_)
  ·rw[q06]at g2
   refine gg rfl (q09 rfl (fun g3=>?_) (fun g3=>?_))
   ·rw[q0E]at g3
    refine gg rfl (q0i p.toNat rfl rfl (by omega) (q4q (by omega)) rfl ?_)
    refine gg rfl (q08 rfl rfl rfl trivial ?_)
    rw[q1P,decide_eq_true g1,decide_eq_true g2,decide_eq_true g3,q1J,List.length_map];rfl
   rw[q0F]at g3
   refine gg rfl (q08 rfl rfl rfl trivial ?_)
   rw[q1P,decide_eq_false (show¬0≤e by omega)];simp
  rw[q07]at g2
  refine gg rfl (q0n rfl (gg rfl (q08 rfl rfl rfl trivial ?_)))
  rw[q1P,decide_eq_false (show¬p<s.pieces.length by omega)];simp
 rw[q0F]at g1
 refine gg rfl (q0n rfl (gg rfl (q0n rfl (gg rfl (q08 rfl rfl rfl trivial ?_)))))
 rw[q1P,decide_eq_false (show¬0≤p by omega)];rfl
def q1Y (n:Nat)(u:Use):Bool:=decide (u.piece<0) ||(decide ((n:Int)≤u.piece) ||(decide (u.count<1) ||decide (4<u.count)))
def q6e (s:Sty)(m:Sew):Int:=if q1P s m.pa m.ea=false∨q1P s m.pb m.eb=false then 3 else if m.ease<0 then 1 else 0
def q2q (s:Sty)(i:Nat):Int:=q24 (s.pieces.take i) (pc s.pieces i)
def q43 (s:Sty)(i:Nat):Int:=q6e s (sw s.seams i)
def q2M (s:Sty):Int:=
 if q2m s≠0 then q2m s
 else if q0G (q2q s) s.pieces.length≠0 then q0G (q2q s) s.pieces.length
 else if s.uses.any (q1Y s.pieces.length)then 3
 else q0G (q43 s) s.seams.length
set_option maxHeartbeats 8000000 in
theorem q4r (s:Sty)(hB:StyB s):PU qqD [s.enc]=some (.int .i64 (q2M s)):=by
 have b1:=hB.pieces
 have b2:=hB.uses
 have b3:=hB.seams
 refine q0g (fn:=qf2) rfl (q0a ?_)
 refine gg rfl (q02 rfl rfl (qru s hB) (gg rfl (q01 rfl (fun g=>?_) (fun g=>?_))))
 ·rw[q0u]at g
  refine gg rfl (q08 rfl rfl rfl trivial ?_)
  rw[q2M,if_pos g]
 have g:q2m s=0:=q0z.1 g
 have hw:q2M s=if q0G (q2q s) s.pieces.length≠0 then q0G (q2q s) s.pieces.length
  else if s.uses.any (q1Y s.pieces.length)then 3
  else q0G (q43 s) s.seams.length:=by rw[q2M,if_neg (by simp[g])]
 rw[hw]
 refine gg rfl ?_
 rw[List.length_map]
 refine q0l (S:=fun k:Nat=>([.ptr 0 0 0,Go.F.pieces s.pieces,q00 s.pieces.length,q00 k],[some (.row [s.enc] 7),none,none,none],[0,0,0,0])) (C:=fun k=>k≤s.pieces.length∧q0G (q2q s) k=0) (m:=fun k=>s.pieces.length-k) 0 ⟨Nat.zero_le _,rfl⟩ (by omega) ?_ ?_
 ·exact q03 rfl ⟨rfl,trivial⟩ rfl
 rintro k ⟨hk,h0⟩ N hN
 refine gg rfl (q01 rfl (fun e=>?_) (fun e=>?_))
 ·rw[q06]at e
  have hlt:k<s.pieces.length:=by omega
  have w1:=wS (n:=k)
  have hp:=qrv (s.pieces.take k) (pc s.pieces k) (by rw[List.length_take];omega) (hB.corners _ (q7e hlt)) (hB.widths _ (q7e hlt))
  refine gg rfl (q0i k rfl rfl rfl (q4q hlt) rfl (gg rfl (qcK k rfl (q1o (n:=7) (fun _=>rfl) _) ⟨_,_,rfl,rfl⟩ (by rw[List.length_map];omega) ?_)))
  rw[←List.map_take]
  refine gg rfl (q02 rfl rfl hp (gg rfl (q01 rfl (fun f=>?_) (fun f=>?_))))
  ·rw[q0u]at f
   refine gg rfl (q04 (gg rfl (q08 rfl rfl rfl trivial ?_)))
   have f':q2q s k≠0:=f
   have hf:=q3u (f:=q2q s) h0 f' hlt
   rw[hf,if_pos f'];rfl
  rw[q0z]at f
  exact gg rfl (q04 (hN (k+1) ⟨hlt,q2o h0 f⟩ (by omega) (q03 rfl ⟨rfl,trivial⟩ (by rw[w1];rfl))))
 rw[q07]at e
 obtain rfl:k=s.pieces.length:=by omega
 clear hN
 rw[if_neg (by simp[h0])]
 refine gg rfl (q04 (gg rfl ?_))
 rw[List.length_map]
 refine q0l (S:=fun k:Nat=>([.ptr 0 0 0,Go.F.uses s.uses,q00 s.uses.length,q00 k],[some (.row [s.enc] 7),none,none,none],[0,0,0,0])) (C:=fun k=>k≤s.uses.length∧∀j (hj:j<s.uses.length),j<k→q1Y s.pieces.length s.uses[j]=false) (m:=fun k=>s.uses.length-k) 0 ⟨Nat.zero_le _,fun j _ h=>by omega⟩ (by omega) ?_ ?_
 ·exact q03 rfl ⟨rfl,trivial⟩ rfl
 rintro k ⟨hk,hu⟩ N hN
 refine gg rfl (q01 rfl (fun e=>?_) (fun e=>?_))
 ·rw[q06]at e
  have hlt:k<s.uses.length:=by omega
  have w1:=wS (n:=k)
  have hx:(s.uses.map Use.enc)[k]?=some s.uses[k].enc:=q1A hlt
  have bad:q1Y s.pieces.length s.uses[k]=true→s.uses.any (q1Y s.pieces.length)=true:=fun h=>q29 hlt h
  have hnx:q1Y s.pieces.length s.uses[k]=false→∀j (hj:j<s.uses.length),j<k+1→q1Y s.pieces.length s.uses[j]=false:=by
   intro h j hj hjk
   by_cases ej:j=k
   ·subst ej;exact h
   exact hu j hj (by omega)
  generalize s.uses[k]=u at*
  refine gg rfl (q0i k rfl rfl rfl hx rfl (gg rfl (q09 rfl (fun f1=>?_) (fun f1=>?_))))
  ·rw[q06]at f1
   refine gg rfl (q0h rfl (gg rfl (q0h rfl (gg rfl (q0d rfl (gg rfl (q04 (gg rfl (q08 rfl rfl rfl trivial ?_)))))))))
   rw[if_pos (bad (by simp[q1Y];omega))]
  rw[q07]at f1
  refine gg rfl ?_
  rw[List.length_map]
  refine q09 rfl (fun f2=>?_) (fun f2=>?_)
  ·rw[q0E]at f2
   refine gg rfl (q0h rfl (gg rfl (q0d rfl (gg rfl (q04 (gg rfl (q08 rfl rfl rfl trivial ?_)))))))
   rw[if_pos (bad (by simp[q1Y];omega))]
  rw[q0F]at f2
  refine gg rfl (q09 rfl (fun f3=>?_) (fun f3=>?_))
  ·rw[q06]at f3
   refine gg rfl (q0d rfl (gg rfl (q04 (gg rfl (q08 rfl rfl rfl trivial ?_)))))
   rw[if_pos (bad (by simp[q1Y];omega))]
  rw[q07]at f3
  refine gg rfl (q01 rfl (fun f4=>?_) (fun f4=>?_))
  ·rw[q06]at f4
   refine gg rfl (q04 (gg rfl (q08 rfl rfl rfl trivial ?_)))
   rw[if_pos (bad (by simp[q1Y];omega))]
  rw[q07]at f4
  exact gg rfl (q04 (hN (k+1) ⟨hlt,hnx (by simp[q1Y];omega)⟩ (by omega) (q03 rfl ⟨rfl,trivial⟩ (by rw[w1];rfl))))
 rw[q07]at e
 obtain rfl:k=s.uses.length:=by omega
 clear hN
 rw[if_neg (by rw[q1Z fun j hj=>hu j hj hj];decide)]
 refine gg rfl (q04 (gg rfl ?_))
 rw[List.length_map]
 refine q0l (S:=fun k:Nat=>([.ptr 0 0 0,qcC s.seams,q00 s.seams.length,q00 k],[some (.row [s.enc] 7),none,none,none],[0,0,0,0])) (C:=fun k=>k≤s.seams.length∧q0G (q43 s) k=0) (m:=fun k=>s.seams.length-k) 0 ⟨Nat.zero_le _,rfl⟩ (by omega) ?_ ?_
 ·exact q03 rfl ⟨rfl,trivial⟩ rfl
 rintro k ⟨hk,h0⟩ N hN
 refine gg rfl (q01 rfl (fun e=>?_) (fun e=>?_))
 ·rw[q06]at e
  have hlt:k<s.seams.length:=by omega
  have w1:=wS (n:=k)
  have hx:=qjN hlt
  have bad:∀x,q6e s (sw s.seams k)=x→x≠0→q0G (q43 s) s.seams.length=x:=by
   intro x h hx0
   have:=q3u (f:=q43 s) h0 (by show q6e s (sw s.seams k)≠0;rw[h];exact hx0) hlt
   rw[this];exact h
  have good:q6e s (sw s.seams k)=0→q0G (q43 s) (k+1)=0:=fun h=>q2o h0 h
  generalize sw s.seams k=m at*
  have e1:=qsV s m.pa m.ea
  have e2:=qsV s m.pb m.eb
  refine gg rfl (q0i k rfl rfl rfl hx rfl (gg rfl (q02 rfl rfl e1 ?_)))
  cases ha:q1P s m.pa m.ea with
  |false=>
   refine gg rfl (q0h rfl (gg rfl (q0d rfl (gg rfl (q04 (gg rfl (q08 rfl rfl rfl trivial ?_)))))))
   rw[bad 3 (by rw[q6e,if_pos (.inl ha)]) (by decide)]
  |true=>
   refine gg rfl (q0n rfl (gg rfl (q02 rfl rfl e2 ?_)))
   cases hb:q1P s m.pb m.eb with
   |false=>
    refine gg rfl (q0d rfl (gg rfl (q04 (gg rfl (q08 rfl rfl rfl trivial ?_)))))
    rw[bad 3 (by rw[q6e,if_pos (.inr hb)]) (by decide)]
   |true=>
    have hn:¬(q1P s m.pa m.ea=false∨q1P s m.pb m.eb=false):=by rw[ha,hb];simp
    refine gg rfl (q0j rfl (gg rfl (q01 rfl (fun f=>?_) (fun f=>?_))))
    ·rw[q06]at f
     refine gg rfl (q04 (gg rfl (q08 rfl rfl rfl trivial ?_)))
     rw[bad 1 (by rw[q6e,if_neg hn,if_pos f]) (by decide)]
    rw[q07]at f
    exact gg rfl (q04 (hN (k+1) ⟨hlt,good (by rw[q6e,if_neg hn,if_neg (by omega)])⟩ (by omega) (q03 rfl ⟨rfl,trivial⟩ (by rw[w1];rfl))))
 rw[q07]at e
 obtain rfl:k=s.seams.length:=by omega
 refine gg rfl (q04 (gg rfl (q08 rfl rfl rfl trivial ?_)))
 rw[h0]
end Go.F

namespace Go.F
attribute [local irreducible] IntKind.wrap wpM
structure StyOk (s:Sty):Prop where
 mults:s.mults.length=s.sizes.length
 size:0<s.sizes.length
 sizes:s.sizes.length≤12
 pieces:s.pieces.length≤12
 uses:s.uses.length≤12
 seams:s.seams.length≤24
 use:∀u∈s.uses,0≤u.piece∧u.piece<s.pieces.length∧1≤u.count∧u.count≤4
 piece:∀i,i<s.pieces.length→q2q s i=0
 mult:∀m∈s.mults,-100≤m∧m≤100
 base:0∈s.mults
theorem qiL {s:Sty}(h:q2M s=0):StyOk s:=by
 unfold q2M at h
 split at h
 ·rename_i h1;exact absurd h h1
 rename_i h1
 split at h
 ·rename_i h2;exact absurd h h2
 rename_i h2
 split at h
 ·cases h
 rename_i h3
 have h1:q2m s=0:=by simpa using h1
 have h2:q0G (q2q s) s.pieces.length=0:=by simpa using h2
 unfold q2m at h1
 split at h1
 ·cases h1
 split at h1
 ·cases h1
 split at h1
 ·cases h1
 split at h1
 ·cases h1
 split at h1
 ·cases h1
 split at h1
 ·cases h1
 split at h1
 ·cases h1
 rename_i g1 g2 g3 g4 g5 g6 g7
 refine⟨by omega,by omega,by omega,by omega,by omega,by omega,fun u hu=>?_,fun i hi=>q1a h2 hi,fun m hm=>?_,?_⟩
 ·have hb:q1Y s.pieces.length u=false:=by
   cases hb:q1Y s.pieces.length u with
   |false=>rfl
   |true=>exact absurd (List.any_eq_true.2 ⟨u,hu,hb⟩) h3
  simp[q1Y]at hb
  omega
 ·have hb:(decide (m< -100) ||decide (100<m))=false:=by
   cases hb:(decide (m< -100) ||decide (100<m))with
   |false=>rfl
   |true=>exact absurd (List.any_eq_true.2 ⟨m,hm,hb⟩) g7
  simp at hb
  omega
 rcases Classical.em (0∈s.mults)with h|h
 ·exact h
 exact absurd (.inr h) g3
def qmM (s:Sty)(size use:Int):Prop:=size<0∨(s.sizes.length:Int)≤size∨use<0∨(s.uses.length:Int)≤use
instance (s:Sty)(a b:Int):Decidable (qmM s a b):=by unfold qmM;exact inferInstance
structure Plc where
 garment:Int
 use:Int
 copy:Int
 flip:Bool
 quarter:Int
 x:Int
 y:Int
 deriving DecidableEq
def Plc.enc (p:Plc):D:=.agg [.int .i64 p.garment,.int .i64 p.use,.int .i64 p.copy,.bool p.flip,.int .i64 p.quarter,.int .i64 p.x,.int .i64 p.y]
end Go.F

namespace Go.F
theorem q5v {s:Sty}(h:q2M s=0):q2m s=0∧q0G (q2q s) s.pieces.length=0∧s.uses.any (q1Y s.pieces.length)=false∧q0G (q43 s) s.seams.length=0:=by
 unfold q2M at h
 split at h
 ·rename_i h1;exact absurd h h1
 rename_i h1
 split at h
 ·rename_i h2;exact absurd h h2
 rename_i h2
 split at h
 ·cases h
 rename_i h3
 exact⟨by simpa using h1,by simpa using h2,by simpa using h3,h⟩
structure WholeOk (s:Sty):Prop where
 name:q1M s.name=true
 size:s.sizes.length≠0
 sizeS:∀x∈s.sizes,sizeS x=true
 mults:s.mults.length=s.sizes.length
 base:0∈s.mults
 once:q4P s.sizes=false
 sizes:s.sizes.length≤12
 pieces:s.pieces.length≤12
 uses:s.uses.length≤12
 seams:s.seams.length≤24
 ops:s.ops.length≤16
 mult:∀m∈s.mults,-100≤m∧m≤100
end Go.F

namespace Go.F
attribute [local irreducible] IntKind.wrap wpM
def q6x (p:Piece)(m:Int):Int:=max (q0Z (q0m (q0p p m).1)) (-q0Z (q0m (q0p p m).1))
def q6y (p:Piece):List Int→Int
 |[]=>0
 |m::l=>if(q0p p m).2=0 then q6y p l else(q0p p m).2
def qer (p:Piece)(l:List Int):List Int×Int:=if q6y p l≠0 then([],q6y p l)else(l.map (q6x p),0)
theorem qyd (q:List Spot): -70368744177664000≤q0Z q∧q0Z q≤70368744177664000:=by
 unfold q0Z
 split
 ·rename_i h
  obtain⟨_,h40,ho,_⟩:=q16 h
  have hb:=qax q q.length
  have h1:=hb.lo
  have h2:=hb.hi
  have:(q.length*35184372088832:Nat)≤40*35184372088832:=Nat.mul_le_mul_right _ h40
  have e:qaw q=q2z q q.length:=rfl
  rw[e]
  omega
 omega
theorem qqj {p:Piece}{m:Int}(h:(q0p p m).2=0):q0J (q0p p m).1=0:=(q2b h).2.2.1
set_option maxHeartbeats 2000000 in
theorem qGi (p:Piece)(l:List Int)(hc:p.corners.length≤1000000)(hl:l.length≤1000000):PU qqF [p.enc,ints l]=some (.tup [ints (qer p l).1,.int .i64 (qer p l).2]):=by
 unfold qer
 have hn:∀{x:Int} {P:Prop},nqb x x=true→P:=fun h=>absurd rfl (q0u.1 h)
 refine q0g (fn:=qfD) rfl (q0a ?_)
 refine gg rfl ?_
 rw[List.length_map]
 refine q0l (S:=fun k:Nat=>([.ptr 0 0 0,.ref 1 0 k,ints l,q00 l.length,q00 k],[some (.row [p.enc] 7),some (.row (((l.take k).map (q6x p)).map q00) 1),none,none,none],[0,0,0,0,0])) (C:=fun k=>k≤l.length∧q6y p l=q6y p (l.drop k)) (m:=fun k=>l.length-k) 0 ⟨Nat.zero_le _,rfl⟩ (by omega) ?_ ?_
 ·exact q03 rfl ⟨rfl,rfl,trivial⟩ rfl
 rintro k ⟨hk,hke⟩ N hN
 refine gg rfl (q01 rfl (fun e=>?_) (fun e=>?_))
 ·rw[q06]at e
  have hlt:k<l.length:=by omega
  have w1:=wS (n:=k)
  have hdr:l.drop k=mu l k::l.drop (k+1):=by rw[List.drop_eq_getElem_cons hlt,qjO hlt]
  have hst:(((l.take (k+1)).map (q6x p)).map q00)=((l.take k).map (q6x p)).map q00++[q00 (q6x p (mu l k))]:=by
   rw[List.take_succ_eq_append_getElem hlt,List.map_append,List.map_append,qjO hlt];rfl
  have hx:=q7f hlt
  rw[hdr,q6y]at hke
  generalize mu l k=m at*
  have hg:=q5F p m hc
  have hbd:=qyd (q0m (q0p p m).1)
  have hmx:q6x p m=max (q0Z (q0m (q0p p m).1)) (-q0Z (q0m (q0p p m).1)):=rfl
  have hp:=q5q (q0p p m).1
  have ha:=qw5 (q0m (q0p p m).1)
  have w2:IntKind.i64.wrap (0-q0Z (q0m (q0p p m).1))= -q0Z (q0m (q0p p m).1):=by rw[wrap64 (by omega) (by omega)];omega
  have w3:=ww (x:= -q0Z (q0m (q0p p m).1))
  refine gg rfl (q0i k rfl rfl rfl hx rfl (gg rfl (q02 rfl rfl hg (gg rfl (q01 rfl (fun f=>?_) (fun f=>?_))))))
  ·rw[q0u]at f
   rw[if_neg f]at hke
   refine gg rfl (q04 (gg rfl (q08 rfl rfl rfl trivial ?_)))
   rw[hke,if_pos f];rfl
  rw[q0z]at f
  rw[if_pos f]at hke
  rw[q8p,if_pos (qqj f)]at hp
  refine gg rfl (q02 rfl rfl hp (gg rfl (q01 rfl hn (fun _=>?_))))
  refine gg rfl (q02 rfl rfl ha (gg rfl ?_))
  first|rw[w2] |rw[w3]
  rw[←hmx]
  refine q1b rfl rfl rfl rfl rfl rfl (by simp;omega) (Nat.zero_le _) (by simp[q0M];omega) ?_
  refine gg rfl (q04 (hN (k+1) ⟨hlt,hke⟩ (by omega) (q03 rfl ⟨rfl,?_,trivial⟩ ?_)))
  ·rw[List.all_append,q05 q5y];rfl
  rw[hst,w1];rfl
 rw[q07]at e
 obtain rfl:k=l.length:=by omega
 have hz:q6y p l=0:=by rw[hke,List.drop_length];rfl
 rw[hz,List.take_length]
 refine gg rfl (q04 (gg rfl (q08 rfl rfl rfl ⟨q2s (by simp) (q0W qeE _),trivial⟩ ?_)))
 rw[q2t (by simp)];rfl
def qye (p:Piece)(m:Int)(e:Nat):Int:=(q17 (eg (q0p p m).1 e).line).1
theorem qBt {p:Piece}{m:Int}{e:Nat}(hg:(q0p p m).2=0)(he:e<p.edges.length):q17 (eg (q0p p m).1 e).line=(qye p m e,0):=by
 have hl:=q2b hg
 have h0:q1v (eg (q0p p m).1 e).line=0:=q2P (q1a (q11 hl.2.2.1).2.2.1 (by rw[hl.1];exact he))
 unfold qye q17
 rw[if_pos h0]
theorem qes (p:Piece)(m:Int)(e:Nat)(hc:p.corners.length≤1000000)(hg:(q0p p m).2=0)(he:e<p.edges.length):PU qqL [p.enc,.int .i64 m,.int .i64 e]=some (.tup [.int .i64 (qye p m e),.int .i64 0]):=by
 have h1:=q5F p m hc
 have hl:=q2b hg
 have h2:=q5s (eg (q0p p m).1 e).line
 rw[qBt hg he]at h2
 have hn:∀{x:Int} {P:Prop},nqb x x=true→P:=fun h=>absurd rfl (q0u.1 h)
 refine q0g (fn:=qft) rfl (q0a ?_)
 refine gg rfl (q02 rfl rfl h1 (gg rfl ?_))
 rw[hg]
 refine q01 rfl hn (fun _=>?_)
 refine gg rfl (q0i e rfl rfl rfl (q1K (by omega)) rfl ?_)
 exact gg rfl (q02 rfl rfl h2 (gg rfl (q08 rfl rfl rfl trivial rfl)))
theorem qqk (s:Sty)(z:Nat)(hz:z<s.mults.length):PU qqJ [s.enc,.int .i64 z]=some (.bool true):=by
 refine q0g (fn:=qfp) rfl (q0a ?_)
 refine gg rfl (q09 rfl (fun g=>?_) (fun g=>?_))
 ·refine gg rfl (q08 rfl rfl rfl trivial ?_)
  rw[List.length_map,q1J,decide_eq_true (by omega)]
 rw[q0F]at g;omega
theorem qet (s:Sty)(p e:Int):PU qqK [s.enc,.int .i64 p,.int .i64 e]=some (.bool (q1P s p e)):=by
 refine q0g (fn:=qfr) rfl (q0a ?_)
 refine gg rfl (q09 rfl (fun g1=>?_) (fun g1=>?_))
 ·rw[q0E]at g1
  refine gg rfl ?_
  rw[List.length_map]
  refine q09 rfl (fun g2=>?_) (fun g2=>?_)
  ·rw[q06]at g2
   refine gg rfl (q09 rfl (fun g3=>?_) (fun g3=>?_))
   ·rw[q0E]at g3
    refine gg rfl (q0i p.toNat rfl rfl (by omega) (q4q (by omega)) rfl ?_)
    refine gg rfl (q08 rfl rfl rfl trivial ?_)
    rw[q1P,decide_eq_true g1,decide_eq_true g2,decide_eq_true g3,q1J,List.length_map];rfl
   rw[q0F]at g3
   refine gg rfl (q08 rfl rfl rfl trivial ?_)
   rw[q1P,decide_eq_false (show¬0≤e by omega)];simp
  rw[q07]at g2
  refine gg rfl (q0n rfl (gg rfl (q08 rfl rfl rfl trivial ?_)))
  rw[q1P,decide_eq_false (show¬p<s.pieces.length by omega)];simp
 rw[q0F]at g1
 refine gg rfl (q0n rfl (gg rfl (q0n rfl (gg rfl (q08 rfl rfl rfl trivial ?_)))))
 rw[q1P,decide_eq_false (show¬0≤p by omega)];rfl
theorem q5a {s:Sty}{p e:Int}(h:q1P s p e=true):0≤p∧p.toNat<s.pieces.length∧0≤e∧e.toNat<(pc s.pieces p.toNat).edges.length:=by
 unfold q1P at h
 simp only[Bool.and_eq_true,decide_eq_true_eq]at h
 omega
structure SewOk (s:Sty)(z k:Nat):Prop where
 size:z<s.mults.length
 seam:k<s.seams.length
 ea:q1P s (sw s.seams k).pa (sw s.seams k).ea=true
 eb:q1P s (sw s.seams k).pb (sw s.seams k).eb=true
 ga:(q0p (pc s.pieces (sw s.seams k).pa.toNat) (mu s.mults z)).2=0
 gb:(q0p (pc s.pieces (sw s.seams k).pb.toNat) (mu s.mults z)).2=0
 ca:∀p∈s.pieces,p.corners.length≤1000000
def qiX (s:Sty)(z:Nat)(m:Sew):Int:=qye (pc s.pieces m.pa.toNat) (mu s.mults z) m.ea.toNat
def qiY (s:Sty)(z:Nat)(m:Sew):Int:=qye (pc s.pieces m.pb.toNat) (mu s.mults z) m.eb.toNat
theorem qql (s:Sty)(z k:Nat)(h:SewOk s z k):PU qoH [s.enc,.int .i64 z,.int .i64 k]=some (.tup [.int .i64 (qiX s z (sw s.seams k)),.int .i64 (qiY s z (sw s.seams k)),.int .i64 0]):=by
 obtain⟨hz,hk,hea,heb,hga,hgb,hca⟩:=h
 have hx:=qjN hk
 unfold qiX qiY
 generalize sw s.seams k=m at*
 obtain⟨a1,a2,a3,a4⟩:=q5a hea
 obtain⟨b1,b2,b3,b4⟩:=q5a heb
 have e1:=qet s m.pa m.ea
 have e2:=qet s m.pb m.eb
 rw[hea]at e1
 rw[heb]at e2
 have la:=qes (pc s.pieces m.pa.toNat) (mu s.mults z) m.ea.toNat (hca _ (q7e a2)) hga a4
 have lb:=qes (pc s.pieces m.pb.toNat) (mu s.mults z) m.eb.toNat (hca _ (q7e b2)) hgb b4
 have ia:((m.ea.toNat:Nat):Int)=m.ea:=by omega
 have ib:((m.eb.toNat:Nat):Int)=m.eb:=by omega
 rw[ia]at la
 rw[ib]at lb
 have hn:∀{x:Int} {P:Prop},nqb x x=true→P:=fun h=>absurd rfl (q0u.1 h)
 refine q0g (fn:=qd9) rfl (q0a ?_)
 refine gg rfl (q02 rfl rfl (qqk s z hz) (gg rfl (q0n rfl (gg rfl (q09 rfl (fun g=>?_) (fun g=>?_))))))
 ·rw[q06]at g;omega
 refine gg rfl ?_
 rw[List.length_map]
 refine q01 rfl (fun g=>?_) (fun g=>?_)
 ·rw[q0E]at g;omega
 refine gg rfl (q0i k rfl rfl rfl hx rfl (gg rfl (q02 rfl rfl e1 (gg rfl (q0n rfl (gg rfl (q02 rfl rfl e2 (gg rfl (q0j rfl (gg rfl (q0i m.pa.toNat rfl rfl (by omega) (q4q a2) rfl ?_)))))))))))
 refine gg rfl (q0i z rfl rfl rfl (q7f hz) rfl (gg rfl (q02 rfl rfl la (gg rfl (q01 rfl hn (fun _=>?_))))))
 refine gg rfl (q0i m.pb.toNat rfl rfl (by omega) (q4q b2) rfl ?_)
 refine gg rfl (q0i z rfl rfl rfl (q7f hz) rfl (gg rfl (q02 rfl rfl lb (gg rfl (q01 rfl hn (fun _=>?_))))))
 exact gg rfl (q08 rfl rfl rfl trivial rfl)
end Go.F

namespace Go.F
attribute [local irreducible] IntKind.wrap wpM
theorem qBw (fr to:Int)(rev:Bool)(at_:Int): -1099511627777≤(q3v fr to rev at_).1∧(q3v fr to rev at_).1≤1099511627777:=by
 by_cases hb:q4y fr to at_
 ·rw[q3v,if_pos hb];decide
 rw[q3v,if_neg hb]
 unfold q4y at hb
 obtain⟨F,rfl⟩:∃n:Nat,fr=n:=⟨fr.toNat,by omega⟩
 obtain⟨T,rfl⟩:∃n:Nat,to=n:=⟨to.toNat,by omega⟩
 obtain⟨A,rfl⟩:∃n:Nat,at_=n:=⟨at_.toNat,by omega⟩
 have hr:=qmV (a:=A*T) (b:=F) (by omega)
 rw[Int.natCast_mul]at hr
 have hquo:A*T/F≤T:=Nat.div_le_of_le_mul (Nat.mul_le_mul_right _ (by omega))
 have hR:0≤q1u ((A:Int) *T) F∧q1u ((A:Int) *T) F≤T+1:=by
  rw[hr]
  generalize A*T/F=x at*
  split<;>omega
 simp only
 split<;>omega
structure Sid where
 ns:List Ntc
 ps:List Int
 edge:Int
 len:Int
def Sid.enc (s:Sid):D:=.agg [qgD s.ns,ints s.ps,.int .i64 s.edge,.int .i64 s.len]
structure SidOk (s:Sid):Prop where
 len:s.ps.length=s.ns.length
 few:s.ns.length≤1000
 bd:∀x∈s.ps,-1099511627777≤x∧x≤1099511627777
def qDN (s:Sid)(at_:Int)(i:Nat):Bool:=decide ((nt s.ns i).edge=s.edge)&&decide (max (mu s.ps i-at_) (at_-mu s.ps i)≤1000)
def qqn (s:Sid)(at_:Int):Bool:=(List.range s.ns.length).any (qDN s at_)
set_option maxHeartbeats 2000000 in
theorem has_PU (s:Sid)(at_:Int)(h:SidOk s)(h1: -1099511627777≤at_)(h2:at_≤1099511627777):PU qgs [s.enc,.int .i64 at_]=some (.bool (qqn s at_)):=by
 have hlen:=h.len
 have hfew:=h.few
 refine q0g (fn:=q7O) rfl (q0a ?_)
 refine gg rfl ?_
 rw[List.length_map]
 refine q0l (S:=fun k:Nat=>([.int .i64 at_,.ptr 1 0 0,qgD s.ns,q00 s.ns.length,q00 k],[none,some (.row [s.enc] 4),none,none,none],[0,0,0,0,0])) (C:=fun k=>k≤s.ns.length∧∀i,i<k→qDN s at_ i=false) (m:=fun k=>s.ns.length-k) 0 ⟨Nat.zero_le _,fun i hi=>by omega⟩ (by omega) ?_ ?_
 ·exact q03 rfl ⟨rfl,trivial⟩ rfl
 rintro k ⟨hk,hno⟩ N hN
 refine gg rfl (q01 rfl (fun e=>?_) (fun e=>?_))
 ·rw[q06]at e
  have hlt:k<s.ns.length:=by omega
  have w1:=wS (n:=k)
  have hx:=qv6 hlt
  have hp:=q7f (l:=s.ps) (i:=k) (by omega)
  have hpb:=h.bd (mu s.ps k) (by rw[qjO (by omega)];exact List.getElem_mem _)
  have hnb:qDN s at_ k=(decide ((nt s.ns k).edge=s.edge)&&decide (max (mu s.ps k-at_) (at_-mu s.ps k)≤1000)):=rfl
  have yes:qDN s at_ k=true→qqn s at_=true:=fun hh=>List.any_eq_true.2 ⟨k,List.mem_range.2 hlt,hh⟩
  have nxt:qDN s at_ k=false→∀i,i<k+1→qDN s at_ i=false:=by
   intro hh i hi
   by_cases ei:i=k
   ·subst ei;exact hh
   exact hno i (by omega)
  generalize nt s.ns k=n at*
  generalize mu s.ps k=q at*
  have wa:=ww (x:=q-at_)
  have wb:=ww (x:=at_-q)
  refine gg rfl (q0i k rfl rfl rfl hx rfl (gg rfl (q09 rfl (fun f=>?_) (fun f=>?_))))
  ·rw[q1n]at f
   refine gg rfl (q0i k rfl rfl rfl hp rfl (gg rfl (q0i k rfl rfl rfl hp rfl (gg rfl ?_))))
   rw[wa,wb]
   refine q01 rfl (fun f2=>?_) (fun f2=>?_)
   ·rw[q0E]at f2
    refine gg rfl (q04 (gg rfl (q08 rfl rfl rfl trivial ?_)))
    rw[yes (by rw[hnb,decide_eq_true f,decide_eq_true f2];rfl)]
   rw[q0F]at f2
   exact gg rfl (q04 (hN (k+1) ⟨hlt,nxt (by rw[hnb,decide_eq_false (show¬max (q-at_) (at_-q)≤1000 by omega)];simp)⟩ (by omega) (q03 rfl ⟨rfl,trivial⟩ (by rw[w1];rfl))))
  rw[q1Q]at f
  exact gg rfl (q0j rfl (gg rfl (q04 (hN (k+1) ⟨hlt,nxt (by rw[hnb,decide_eq_false f];rfl)⟩ (by omega) (q03 rfl ⟨rfl,trivial⟩ (by rw[w1];rfl))))))
 rw[q07]at e
 obtain rfl:k=s.ns.length:=by omega
 clear hN
 refine gg rfl (q04 (gg rfl (q08 rfl rfl rfl trivial ?_)))
 have:qqn s at_=false:=by
  unfold qqn
  rw[List.any_eq_false]
  intro i hi
  rw[hno i (List.mem_range.1 hi)];decide
 rw[this]
def qjY (a b:Sid)(rev:Bool)(i:Nat):Bool:=decide ((nt a.ns i).edge=a.edge)&&(decide ((q3v a.len b.len rev (mu a.ps i)).2≠0) ||!qqn b (q3v a.len b.len rev (mu a.ps i)).1)
def qeu (a b:Sid)(rev:Bool):List Nat:=(List.range a.ns.length).filter (qjY a b rev)
def qev (n:Nat):D:=.int .i64 n
theorem qew (f:Nat→Bool)(k:Nat):(List.range (k+1)).filter f=(List.range k).filter f++(if f k then [k]else []):=by
 rw[List.range_succ,List.filter_append]
 congr 1
 cases h:f k<;>simp[List.filter,h]
set_option maxHeartbeats 4000000 in
theorem qyf (a b:Sid)(rev:Bool)(ha:SidOk a)(hb:SidOk b):PU qqM [a.enc,b.enc,.bool rev]=some (.lst ((qeu a b rev).map qev)):=by
 have hlen:=ha.len
 have hfew:=ha.few
 refine q0g (fn:=qf4) rfl (q0a ?_)
 refine gg rfl ?_
 rw[List.length_map]
 refine q0l (S:=fun k:Nat=>([.bool rev,.ptr 1 0 0,.ptr 2 0 0,.ref 3 0 ((List.range k).filter (qjY a b rev)).length,qgD a.ns,q00 a.ns.length,q00 k],[none,some (.row [a.enc] 4),some (.row [b.enc] 4),some (.row (((List.range k).filter (qjY a b rev)).map qev) 1),none,none,none],[0,0,0,0,0,0,0])) (C:=fun k=>k≤a.ns.length) (m:=fun k=>a.ns.length-k) 0 (Nat.zero_le _) (by omega) ?_ ?_
 ·exact q03 rfl ⟨rfl,rfl,rfl,trivial⟩ rfl
 intro k hk N hN
 refine gg rfl (q01 rfl (fun e=>?_) (fun e=>?_))
 ·rw[q06]at e
  have hlt:k<a.ns.length:=by omega
  have w1:=wS (n:=k)
  have hx:=qv6 hlt
  have hp:=q7f (l:=a.ps) (i:=k) (by omega)
  have hst:=qew (qjY a b rev) k
  have hlb:qjY a b rev k=(decide ((nt a.ns k).edge=a.edge)&&(decide ((q3v a.len b.len rev (mu a.ps k)).2≠0) ||!qqn b (q3v a.len b.len rev (mu a.ps k)).1)):=rfl
  have hfl:((List.range k).filter (qjY a b rev)).length≤k:=by
   have:=List.length_filter_le (qjY a b rev) (List.range k)
   rw[List.length_range]at this;exact this
  generalize nt a.ns k=n at*
  generalize mu a.ps k=q at*
  have pb:=qBw a.len b.len rev q
  have hP:=qov a.len b.len rev q
  have hH:=has_PU b (q3v a.len b.len rev q).1 hb pb.1 pb.2
  generalize (List.range k).filter (qjY a b rev)=L at*
  have no:qjY a b rev k=false→(List.range (k+1)).filter (qjY a b rev)=L:=fun h=>by rw[hst,h];simp
  have ye:qjY a b rev k=true→(List.range (k+1)).filter (qjY a b rev)=L++[k]:=fun h=>by rw[hst,h];rfl
  refine gg rfl (q0i k rfl rfl rfl hx rfl (gg rfl (q01 rfl (fun f=>?_) (fun f=>?_))))
  ·rw[q0u]at f
   have hst0:=no (by rw[hlb,decide_eq_false f];rfl)
   refine gg rfl (q04 (hN (k+1) hlt (by omega) (q03 rfl ⟨rfl,rfl,q05 (fun _=>rfl) _,trivial⟩ ?_)))
   rw[hst0,w1];rfl
  rw[q0z]at f
  refine gg rfl (q0i k rfl rfl rfl hp rfl (gg rfl (q02 rfl rfl hP (gg rfl (q09 rfl (fun f2=>?_) (fun f2=>?_))))))
  ·rw[q0u]at f2
   have hst1:=ye (by rw[hlb,decide_eq_true f,decide_eq_true f2];rfl)
   refine gg rfl (q0d rfl (gg rfl (q1b rfl rfl rfl rfl rfl rfl (by simp) (Nat.zero_le _) (by simp[q0M];omega) ?_)))
   refine gg rfl (q04 (hN (k+1) hlt (by omega) (q03 rfl ⟨rfl,rfl,?_,trivial⟩ ?_)))
   ·rw[List.all_append,q05 (fun _=>rfl)];rfl
   rw[hst1,w1]
   simp[qgD,q00,Sid.enc,qev]
  rw[q0z]at f2
  refine gg rfl (q02 rfl rfl hH ?_)
  cases hh:qqn b (q3v a.len b.len rev q).1 with
  |true=>
   have hst0:=no (by rw[hlb,hh,f2];simp)
   refine gg rfl (q0j rfl (gg rfl (q04 (hN (k+1) hlt (by omega) (q03 rfl ⟨rfl,rfl,q05 (fun _=>rfl) _,trivial⟩ ?_)))))
   rw[hst0,w1];rfl
  |false=>
   have hst1:=ye (by rw[hlb,hh,decide_eq_true f];simp)
   refine gg rfl (q0d rfl (gg rfl (q1b rfl rfl rfl rfl rfl rfl (by simp) (Nat.zero_le _) (by simp[q0M];omega) ?_)))
   refine gg rfl (q04 (hN (k+1) hlt (by omega) (q03 rfl ⟨rfl,rfl,?_,trivial⟩ ?_)))
   ·rw[List.all_append,q05 (fun _=>rfl)];rfl
   rw[hst1,w1]
   simp[qgD,q00,Sid.enc,qev]
 rw[q07]at e
 obtain rfl:k=a.ns.length:=by omega
 clear hN
 refine gg rfl (q04 (gg rfl (q08 rfl rfl rfl ⟨q2s (by simp) (q0W (fun _=>rfl) _),trivial⟩ ?_)))
 rw[q2t (by simp)];rfl
end Go.F

namespace Go.F
attribute [local irreducible] IntKind.wrap wpM
structure Iss where
 kind:Int
 a:Int
 b:Int
 deriving DecidableEq
def Iss.enc (i:Iss):D:=.agg [.int .i64 i.kind,.int .i64 i.a,.int .i64 i.b]
def qqo (l:List Iss):D:=.lst (l.map Iss.enc)
theorem q0L (i:Iss):plain 4 i.enc=true:=rfl
theorem qeV (i:Iss):dat 4 i.enc=true:=rfl
def mz (s:Sty)(z:Nat):Int:=mu s.mults z
def pcA (s:Sty)(m:Sew):Piece:=pc s.pieces m.pa.toNat
def pcB (s:Sty)(m:Sew):Piece:=pc s.pieces m.pb.toNat
def qjZ (s:Sty)(z:Nat)(m:Sew):Sid:=⟨(pcA s m).notches,(q0S (pcA s m) (mz s z)).1,m.ea,qiX s z m⟩
def qk0 (s:Sty)(z:Nat)(m:Sew):Sid:=⟨(pcB s m).notches,(q0S (pcB s m) (mz s z)).1,m.eb,qiY s z m⟩
def q7w (kd:Int)(l:List Nat):List Iss:=l.map fun i:Nat=>(⟨kd,0,(i:Int)⟩:Iss)
def qDO (s:Sty)(z:Nat)(m:Sew):List Iss:=q7w 1 (qeu (qjZ s z m) (qk0 s z m) m.rev)++q7w 2 (qeu (qk0 s z m) (qjZ s z m) m.rev)
theorem qDP {p:Piece}{m:Int}(h:(q0S p m).2=0):(q0S p m).1.length=p.notches.length∧p.notches.length≤16∧∀x∈(q0S p m).1,-1099511627777≤x∧x≤1099511627777:=by
 unfold q0S at h⊢
 split at h
 ·rename_i g;exact absurd h g
 rename_i g
 rw[if_neg g]
 split at h
 ·cases h
 rename_i g2
 rw[if_neg g2]
 split at h
 ·rename_i g3;exact absurd h g3
 rename_i g3
 rw[if_neg g3]
 refine⟨by simp,by omega,fun x hx=>?_⟩
 obtain⟨n,_,rfl⟩:=List.mem_map.1 hx
 unfold q1w
 split
 ·exact⟨by simp,by simp⟩
 split
 ·exact⟨by simp,by simp⟩
 split
 ·exact⟨by simp,by simp⟩
 exact qBw _ _ _ _
theorem qGk {p:Piece}{m e l:Int}(h:(q0S p m).2=0):SidOk ⟨p.notches,(q0S p m).1,e,l⟩:=by
 obtain⟨h1,h2,h3⟩:=qDP h
 exact⟨h1,by show p.notches.length≤1000;omega,h3⟩
theorem qtb (a b:Sid)(rev:Bool):(qeu a b rev).length≤a.ns.length:=by
 have:=List.length_filter_le (qjY a b rev) (List.range a.ns.length)
 rw[List.length_range]at this;exact this
def at1 (l:List Nat)(i:Nat):Nat:=l.getD i 0
theorem qBx {l:List Nat}{i:Nat}(h:i<l.length):(l.map qev)[i]?=some (.int .i64 ((at1 l i:Nat):Int)):=by simp[at1,h,qev]
theorem qHy {l:List Nat}{i:Nat}(h:i<l.length):at1 l i=l[i]:=by simp[at1,h]
theorem qtc (kd:Int){l:List Nat}{k:Nat}(h:k<l.length):q7w kd (l.take (k+1))=q7w kd (l.take k)++[⟨kd,0,(at1 l k:Nat)⟩]:=by
 unfold q7w
 rw[List.take_succ_eq_append_getElem h,List.map_append,qHy h];rfl
set_option maxRecDepth 100000 in
set_option maxHeartbeats 8000000 in
theorem qvg (s:Sty)(z:Nat)(h:SewOk s z 0)(h1:s.seams.length=1)(pa:(q0S (pcA s (sw s.seams 0)) (mz s z)).2=0)(pb:(q0S (pcB s (sw s.seams 0)) (mz s z)).2=0):
 PU q9l [s.enc,.int .i64 z]=some (.tup [qqo (qDO s z (sw s.seams 0)),.int .i64 0]):=by
 have hL:=qql s z 0 h
 obtain⟨hz,hk,hea,heb,hga,hgb,hca⟩:=h
 have hx:=qjN hk
 obtain⟨a1,a2,a3,a4⟩:=q5a hea
 obtain⟨b1,b2,b3,b4⟩:=q5a heb
 have soA:SidOk (qjZ s z (sw s.seams 0)):=qGk pa
 have soB:SidOk (qk0 s z (sw s.seams 0)):=qGk pb
 have hA:=qyf (qjZ s z (sw s.seams 0)) (qk0 s z (sw s.seams 0)) (sw s.seams 0).rev soA soB
 have hB:=qyf (qk0 s z (sw s.seams 0)) (qjZ s z (sw s.seams 0)) (sw s.seams 0).rev soB soA
 have qA:=qaA (pcA s (sw s.seams 0)) (mz s z) (hca _ (q7e a2))
 have qB:=qaA (pcB s (sw s.seams 0)) (mz s z) (hca _ (q7e b2))
 rw[pa]at qA
 rw[pb]at qB
 have lA:=qtb (qjZ s z (sw s.seams 0)) (qk0 s z (sw s.seams 0)) (sw s.seams 0).rev
 have lB:=qtb (qk0 s z (sw s.seams 0)) (qjZ s z (sw s.seams 0)) (sw s.seams 0).rev
 have fA:=soA.few
 have fB:=soB.few
 have hu:qDO s z (sw s.seams 0)=q7w 1 (qeu (qjZ s z (sw s.seams 0)) (qk0 s z (sw s.seams 0)) (sw s.seams 0).rev)++q7w 2 (qeu (qk0 s z (sw s.seams 0)) (qjZ s z (sw s.seams 0)) (sw s.seams 0).rev):=rfl
 have eA:(qjZ s z (sw s.seams 0)).enc=.agg [.lst ((pcA s (sw s.seams 0)).notches.map Ntc.enc),.lst ((q0S (pcA s (sw s.seams 0)) (mz s z)).1.map q00),.int .i64 (sw s.seams 0).ea,.int .i64 (qiX s z (sw s.seams 0))]:=rfl
 have eB:(qk0 s z (sw s.seams 0)).enc=.agg [.lst ((pcB s (sw s.seams 0)).notches.map Ntc.enc),.lst ((q0S (pcB s (sw s.seams 0)) (mz s z)).1.map q00),.int .i64 (sw s.seams 0).eb,.int .i64 (qiY s z (sw s.seams 0))]:=rfl
 have hpA:(s.pieces.map Piece.enc)[(sw s.seams 0).pa.toNat]?=some (pcA s (sw s.seams 0)).enc:=q4q a2
 have hpB:(s.pieces.map Piece.enc)[(sw s.seams 0).pb.toNat]?=some (pcB s (sw s.seams 0)).enc:=q4q b2
 have hmz:(s.mults.map q00)[z]?=some (q00 (mz s z)):=q7f hz
 rw[hu]
 generalize qeu (qjZ s z (sw s.seams 0)) (qk0 s z (sw s.seams 0)) (sw s.seams 0).rev=LA at*
 generalize qeu (qk0 s z (sw s.seams 0)) (qjZ s z (sw s.seams 0)) (sw s.seams 0).rev=LB at*
 generalize qjZ s z (sw s.seams 0)=SA at*
 generalize qk0 s z (sw s.seams 0)=SB at*
 generalize qiX s z (sw s.seams 0)=nA at*
 generalize qiY s z (sw s.seams 0)=nB at*
 generalize (q0S (pcA s (sw s.seams 0)) (mz s z)).1=PA at*
 generalize (q0S (pcB s (sw s.seams 0)) (mz s z)).1=PB at*
 generalize pcA s (sw s.seams 0)=cA at*
 generalize pcB s (sw s.seams 0)=cB at*
 generalize sw s.seams 0=m at*
 have hn:∀{x:Int} {P:Prop},nqb x x=true→P:=fun h=>absurd rfl (q0u.1 h)
 refine q0g (fn:=q93) rfl (q0a ?_)
 refine gg rfl (q09 rfl (fun g=>?_) (fun g=>?_))
 ·rw[q06]at g;omega
 refine gg rfl ?_
 rw[List.length_map]
 refine q01 rfl (fun g=>?_) (fun g=>?_)
 ·rw[q0E]at g;omega
 refine gg rfl ?_
 rw[List.length_map,h1]
 refine q0l (S:=fun k:Nat=>([.int .i64 z,.ptr 1 0 0,.ref 2 0 (if k=0 then []else q7w 1 LA++q7w 2 LB).length,qcC s.seams,q00 1,q00 k],[none,some (.row [s.enc] 7),some (.row ((if k=0 then []else q7w 1 LA++q7w 2 LB).map Iss.enc) 3),none,none,none],[0,0,0,0,0,0])) (C:=fun k=>k≤1) (m:=fun k=>1-k) 0 (Nat.zero_le _) (by omega) ?_ ?_
 ·exact q03 rfl ⟨rfl,rfl,trivial⟩ rfl
 intro k hk1 N hN
 refine gg rfl (q01 rfl (fun e=>?_) (fun e=>?_))
 ·rw[q06]at e
  obtain rfl:k=0:=by omega
  refine gg rfl (q0i 0 rfl rfl rfl hx rfl (gg rfl (q02 rfl rfl hL (gg rfl (q01 rfl hn (fun _=>?_))))))
  refine gg rfl (q0i m.pa.toNat rfl rfl (by omega) hpA rfl ?_)
  refine gg rfl (q0i m.pa.toNat rfl rfl (by omega) hpA rfl ?_)
  refine gg rfl (q0i z rfl rfl rfl hmz rfl (gg rfl (q02 rfl rfl qA (gg rfl (q01 rfl hn (fun _=>?_))))))
  refine gg rfl (q0i m.pb.toNat rfl rfl (by omega) hpB rfl ?_)
  refine gg rfl (q0i m.pb.toNat rfl rfl (by omega) hpB rfl ?_)
  refine gg rfl (q0i z rfl rfl rfl hmz rfl (gg rfl (q02 rfl rfl qB (gg rfl (q01 rfl hn (fun _=>?_))))))
  refine gg rfl ?_
  rw[eA]at hA hB
  rw[eB]at hA hB
  refine q02 rfl rfl hA (gg rfl ?_)
  rw[List.length_map]
  refine q0l (S:=fun n:Nat=>([.int .i64 z,.ptr 1 0 0,.ref 2 0 (q7w 1 (LA.take n)).length,q00 0,.ptr 4 0 0,.ptr 5 0 0,.ptr 6 0 0,qcC s.seams,q00 1,q00 0,.lst (LA.map qev),q00 LA.length,q00 n],[none,some (.row [s.enc] 7),some (.row ((q7w 1 (LA.take n)).map Iss.enc) 3),none,some (.row [m.enc] 6),some (.row [.agg [qgD cA.notches,ints PA,.int .i64 m.ea,.int .i64 nA]] 4),some (.row [.agg [qgD cB.notches,ints PB,.int .i64 m.eb,.int .i64 nB]] 4),none,none,none,none,none,none],[0,0,0,0,0,0,0,0,0,0,0,0,0])) (C:=fun n=>n≤LA.length) (m:=fun n=>LA.length-n) 0 (Nat.zero_le _) (by omega) ?_ ?_
  ·exact q03 rfl ⟨rfl,rfl,rfl,rfl,rfl,trivial⟩ rfl
  intro n hn0 N2 hN2
  refine gg rfl (q01 rfl (fun f=>?_) (fun f=>?_))
  ·rw[q06]at f
   have hlt:n<LA.length:=by omega
   have w2:=wS (n:=n)
   have hst:=qtc 1 hlt
   have hl1:(q7w 1 (LA.take n)).length=n:=by simp[q7w];omega
   refine gg rfl (q0i n rfl rfl rfl (qBx hlt) rfl (gg rfl (q1b rfl rfl rfl rfl rfl rfl (by simp) (Nat.zero_le _) (by simp[q0M];omega) ?_)))
   refine gg rfl (q04 (hN2 (n+1) hlt (by omega) (q03 rfl ⟨rfl,?_,rfl,rfl,rfl,trivial⟩ ?_)))
   ·rw[List.all_append,q05 q0L];rfl
   rw[hst,w2]
   simp[q00,Iss.enc,qcC,qgD,ints,Sew.enc]
  rw[q07]at f
  obtain rfl:n=LA.length:=by omega
  clear hN2
  rw[List.take_length]
  have hl1:(q7w 1 LA).length=LA.length:=by simp[q7w]
  refine gg rfl (q04 (gg rfl (q02 rfl rfl hB (gg rfl ?_))))
  rw[List.length_map]
  refine q0l (S:=fun n:Nat=>([.int .i64 z,.ptr 1 0 0,.ref 2 0 (q7w 1 LA++q7w 2 (LB.take n)).length,q00 0,qcC s.seams,q00 1,q00 0,.lst (LB.map qev),q00 LB.length,q00 n],[none,some (.row [s.enc] 7),some (.row ((q7w 1 LA++q7w 2 (LB.take n)).map Iss.enc) 3),none,none,none,none,none,none,none],[0,0,0,0,0,0,0,0,0,0])) (C:=fun n=>n≤LB.length) (m:=fun n=>LB.length-n) 0 (Nat.zero_le _) (by omega) ?_ ?_
  ·exact q03 rfl ⟨rfl,q05 q0L _,trivial⟩ (by simp[q7w,q00,qcC])
  intro n hn0 N2 hN2
  refine gg rfl (q01 rfl (fun f=>?_) (fun f=>?_))
  ·rw[q06]at f
   have hlt:n<LB.length:=by omega
   have w2:=wS (n:=n)
   have hst:=qtc 2 hlt
   have hl2:(q7w 2 (LB.take n)).length=n:=by simp[q7w];omega
   refine gg rfl (q0i n rfl rfl rfl (qBx hlt) rfl (gg rfl (q1b rfl rfl rfl rfl rfl rfl (by simp) (Nat.zero_le _) (by simp[q0M];omega) ?_)))
   refine gg rfl (q04 (hN2 (n+1) hlt (by omega) (q03 rfl ⟨rfl,?_,trivial⟩ ?_)))
   ·rw[List.all_append,q05 q0L];rfl
   rw[hst,w2]
   simp[q00,Iss.enc,qcC]
   try omega
  rw[q07]at f
  obtain rfl:n=LB.length:=by omega
  clear hN2
  rw[List.take_length]
  refine gg rfl (q04 (gg rfl (q04 (hN 1 (by omega) (by omega) (q03 rfl ⟨rfl,q05 q0L _,trivial⟩ ?_)))))
  have w0:IntKind.i64.wrap 1=1:=wrap64 (by decide) (by decide)
  simp[q00,qcC,w0]
 rw[q07]at e
 obtain rfl:k=1:=by omega
 clear hN
 refine gg rfl (q04 (gg rfl (q08 rfl rfl rfl ⟨q2s (by simp) (q0W qeV _),trivial⟩ ?_)))
 rw[q2t (by simp)];rfl
end Go.F

namespace Go.F
attribute [local irreducible] IntKind.wrap wpM
section
variable {T:Tab}{sh:Shr}{nx0:Nat}{s:List Fr}{t:q0x}{h:q0e}{z:Frz}{nx:Nat}{q:Ex→q0x→q0e→Frz→Nat→Prop}
variable {base i:Nat}{res:List Nat}{g:Gd}{rest:List KOper}
theorem qHz {f:FuncId}{dst:Nat}{args:List X}{bs:List D}{rows:List (List D×Nat×Nat)}{r:D}(ids:List Nat)(hs:T.shared f=false)
 (ha:qy7 (g.h base h) (args.map (·.ev t))=some (rows,bs)) (hr:q48 rows) (hp:T.pu f bs=some r) (hno:noRef 4 r=false) (hre:(args.map (·.ev t)).flatMap (q0P (g.h base h) depth)=ids)
 (hk:wpM T sh nx0 (.ops base res rest::s) .normal (upd t dst r) h (q8k (g.h base h) z ids) nx q):
 wpM T sh nx0 (.ops base res (⟨i,some dst,none,g,.callF f args⟩::rest)::s) .normal t h z nx q:=by
 refine q3t ?_
 simp only[kop,q5W,hs]
 refine qby ha hr ?_
 unfold qaF
 refine⟨r,hp,?_⟩
 simp only[q6d,hno,hre]
 cases ids with
 |nil=>exact hk
 |cons a l=>exact hk
end
structure Grd where
 outline:Bool
 cut:Bool
 area:Int
def Grd.enc (g:Grd):D:=.agg [.bool g.outline,.bool g.cut,.int .i64 g.area]
theorem qKX (g:Grd):dat 4 g.enc=true:=rfl
def exm (p:Piece)(m:Int):Grd:=if(q0p p m).2≠0 then⟨false,false,0⟩else⟨true,decide ((q23 (q0p p m).1 p.widths).2=0),q6x p m⟩
theorem areas1 {p:Piece}{m:Int}(h:(q0p p m).2=0):qer p [m]=([q6x p m],0):=by
 have e:q6y p [m]=0:=by rw[q6y,if_pos h];rfl
 unfold qer
 rw[if_neg (by simp[e])];rfl
set_option maxHeartbeats 4000000 in
theorem qIb (p:Piece)(m:Int)(hc:p.corners.length≤1000000):PU qjj [p.enc,.int .i64 m]=some (exm p m).enc:=by
 have h1:=q5F p m hc
 have h2:=qcI (q0p p m).1 p.widths
 have h3:=qGi p [m] hc (by simp)
 unfold exm
 have he:∀{x:Int} {P:Prop},eqb x x=false→P:=fun h=>absurd rfl (q1Q.1 h)
 refine q0g (fn:=q9V) rfl (q0a ?_)
 refine gg rfl (q02 rfl rfl h1 (gg rfl (q01 rfl (fun g=>?_) (fun g=>?_))))
 ·rw[q0u]at g
  refine gg rfl (q08 rfl rfl rfl trivial ?_)
  rw[if_pos g];rfl
 rw[q0z]at g
 rw[if_neg (by simp[g])]
 rw[areas1 g]at h3
 refine gg rfl (q02 rfl rfl h2 (gg rfl (qHz [_] rfl rfl ⟨q2s rfl rfl,trivial⟩ h3 rfl rfl (gg rfl (q09 rfl (fun _=>?_) he)))))
 refine gg rfl (q01 rfl (fun _=>?_) (fun h=>?_))
 ·refine gg rfl (q0i 0 rfl rfl rfl rfl rfl (gg rfl (q08 rfl rfl rfl trivial ?_)))
  rw[q2e];rfl
 exact he h
def q5M (kd:Int)(P:Nat→Nat→Bool)(i w:Nat):List Iss:=((List.range w).filter (P i)).map fun z=>⟨kd,(i:Nat),(z:Nat)⟩
def q1W (kd:Int)(P:Nat→Nat→Bool)(n w:Nat):List Iss:=(List.range n).flatMap fun i=>q5M kd P i w
theorem q4D (kd:Int)(P:Nat→Nat→Bool)(i w:Nat):q1W kd P (i+1) w=q1W kd P i w++q5M kd P i w:=by
 unfold q1W
 rw[List.range_succ,List.flatMap_append];simp
theorem row_step (kd:Int)(P:Nat→Nat→Bool)(i z:Nat):q5M kd P i (z+1)=q5M kd P i z++(if P i z then [⟨kd,(i:Nat),(z:Nat)⟩]else []):=by
 unfold q5M
 rw[qew,List.map_append]
 congr 1
 split<;>rfl
theorem qbA (kd:Int)(P:Nat→Nat→Bool)(i w:Nat):(q5M kd P i w).length≤w:=by
 unfold q5M
 rw[List.length_map]
 have:=List.length_filter_le (P i) (List.range w)
 rw[List.length_range]at this;exact this
theorem q3X (kd:Int)(P:Nat→Nat→Bool)(n w:Nat):(q1W kd P n w).length≤n*w:=by
 induction n with
 |zero=>simp[q1W]
 |succ n ih=>
  rw[q4D,List.length_append,Nat.succ_mul]
  have:=qbA kd P n w
  omega
end Go.F

namespace Go.F
attribute [local irreducible] IntKind.wrap wpM
def q9Q (w:Nat)(g:Nat→Grd):D:=.lst (((List.range w).map g).map Grd.enc)
def qex (n w:Nat)(g:Nat→Nat→Grd):D:=.lst ((List.range n).map fun i=>q9Q w (g i))
theorem qiZ {w z:Nat}(g:Nat→Grd)(h:z<w):(((List.range w).map g).map Grd.enc)[z]?=some (g z).enc:=by simp[h]
theorem qj0 {n w i:Nat}(g:Nat→Nat→Grd)(h:i<n):((List.range n).map fun i=>q9Q w (g i))[i]?=some (q9Q w (g i)):=by simp[h]
def o1 (g:Nat→Nat→Grd)(i z:Nat):Bool:=!(g i z).outline
def o2 (g:Nat→Nat→Grd)(i z:Nat):Bool:=(g i z).outline&&!(g i z).cut
set_option maxRecDepth 100000 in
set_option maxHeartbeats 8000000 in
theorem qHT (n w:Nat)(g:Nat→Nat→Grd)(hn:n≤1000)(hw:w≤1000):PU qi8 [qex n w g]=some (qqo (q1W 1 (o1 g) n w++q1W 2 (o2 g) n w)):=by
 refine q0g (fn:=k_verify_outlines) rfl (q0a ?_)
 refine gg rfl ?_
 rw[List.length_map,List.length_range]
 refine q0l (S:=fun i:Nat=>([.ref 0 0 (q1W 1 (o1 g) i w).length,.ref 1 0 (q1W 2 (o2 g) i w).length,qex n w g,q00 n,q00 i],[some (.row ((q1W 1 (o1 g) i w).map Iss.enc) 3),some (.row ((q1W 2 (o2 g) i w).map Iss.enc) 3),none,none,none],[0,0,0,0,0])) (C:=fun i=>i≤n) (m:=fun i=>n-i) 0 (Nat.zero_le _) (by omega) ?_ ?_
 ·exact q03 rfl ⟨rfl,rfl,trivial⟩ rfl
 intro i hi N hN
 refine gg rfl (q01 rfl (fun e=>?_) (fun e=>?_))
 ·rw[q06]at e
  have hlt:i<n:=by omega
  have w1:=wS (n:=i)
  have l1:=q3X 1 (o1 g) i w
  have l2:=q3X 2 (o2 g) i w
  have hiw:i*w≤1000*1000:=Nat.mul_le_mul (by omega) hw
  have ps1:=q4D 1 (o1 g) i w
  have ps2:=q4D 2 (o2 g) i w
  generalize q1W 1 (o1 g) i w=A at*
  generalize q1W 2 (o2 g) i w=B at*
  refine gg rfl (q0i i rfl rfl rfl (qj0 g hlt) rfl (gg rfl ?_))
  rw[List.length_map,List.length_map,List.length_range]
  refine q0l (S:=fun z:Nat=>([.ref 0 0 (A++q5M 1 (o1 g) i z).length,.ref 1 0 (B++q5M 2 (o2 g) i z).length,q00 i,qex n w g,q00 n,q00 i,q9Q w (g i),q00 w,q00 z],[some (.row ((A++q5M 1 (o1 g) i z).map Iss.enc) 3),some (.row ((B++q5M 2 (o2 g) i z).map Iss.enc) 3),none,none,none,none,none,none,none],[0,0,0,0,0,0,0,0,0])) (C:=fun z=>z≤w) (m:=fun z=>w-z) 0 (Nat.zero_le _) (by omega) ?_ ?_
  ·exact q03 rfl ⟨q05 q0L _,q05 q0L _,trivial⟩ (by simp[q5M,q00,qex,q9Q])
  intro z hz N2 hN2
  refine gg rfl (q01 rfl (fun f=>?_) (fun f=>?_))
  ·rw[q06]at f
   have hlz:z<w:=by omega
   have w2:=wS (n:=z)
   have r1:=row_step 1 (o1 g) i z
   have r2:=row_step 2 (o2 g) i z
   have k1:=qbA 1 (o1 g) i z
   have k2:=qbA 2 (o2 g) i z
   have hx:=qiZ (g i) hlz
   have e1:o1 g i z=!(g i z).outline:=rfl
   have e2:o2 g i z=((g i z).outline&&!(g i z).cut):=rfl
   generalize g i z=G at*
   generalize q5M 1 (o1 g) i z=A2 at*
   generalize q5M 2 (o2 g) i z=B2 at*
   refine gg rfl (q0i z rfl rfl rfl hx rfl ?_)
   cases ho:G.outline with
   |false=>
    rw[ho]at e1 e2
    refine gg rfl ?_
    rw[ho]
    refine q0d rfl (gg rfl (q1b rfl rfl rfl rfl rfl rfl (by simp) (Nat.zero_le _) (by simp[q0M];omega) ?_))
    refine gg rfl (q04 (hN2 (z+1) (by omega) (by omega) (q03 rfl ⟨?_,q05 q0L _,trivial⟩ ?_)))
    ·rw[List.all_append,q05 q0L];rfl
    rw[r1,r2,e1,e2,w2]
    simp[q00,Iss.enc,qex,q9Q]
    omega
   |true=>
    rw[ho]at e1 e2
    refine gg rfl ?_
    rw[ho]
    refine q0j rfl ?_
    cases hcu:G.cut with
    |false=>
     rw[hcu]at e2
     refine gg rfl (q0d rfl (gg rfl (q1b rfl rfl rfl rfl rfl rfl (by simp) (Nat.zero_le _) (by simp[q0M];omega) ?_)))
     refine gg rfl (q04 (hN2 (z+1) (by omega) (by omega) (q03 rfl ⟨q05 q0L _,?_,trivial⟩ ?_)))
     ·rw[List.all_append,q05 q0L];rfl
     rw[r1,r2,e1,e2,w2]
     simp[q00,Iss.enc,qex,q9Q]
     omega
    |true=>
     rw[hcu]at e2
     refine gg rfl (q0j rfl (gg rfl (q04 (hN2 (z+1) (by omega) (by omega) (q03 rfl ⟨q05 q0L _,q05 q0L _,trivial⟩ ?_)))))
     rw[r1,r2,e1,e2,w2]
     simp[q00,qex,q9Q]
  rw[q07]at f
  obtain rfl:z=w:=by omega
  clear hN2
  refine gg rfl (q04 (gg rfl (q04 (hN (i+1) (by omega) (by omega) (q03 rfl ⟨q05 q0L _,q05 q0L _,trivial⟩ ?_)))))
  rw[ps1,ps2,w1];rfl
 rw[q07]at e
 obtain rfl:i=n:=by omega
 have l1:=q3X 1 (o1 g) i w
 have l2:=q3X 2 (o2 g) i w
 have hiw:i*w≤1000*1000:=Nat.mul_le_mul (by omega) hw
 clear hN
 refine gg rfl (q04 (gg rfl (q1b rfl rfl rfl rfl (by simp) (q1o (n:=3) (fun _=>rfl) _) (by simp) (Nat.zero_le _) (by simp[q0M];omega) ?_)))
 refine gg rfl (q08 rfl rfl rfl ⟨q2s (by simp) ?_,trivial⟩ ?_)
 ·rw[List.all_append,q0W qeV,q0W qeV];rfl
 rw[q2t (by simp),←List.map_append];rfl
theorem qIc (a b:Grd):PU qjk [a.enc,b.enc]=some (.bool (a.outline&&(b.outline&&decide (b.area<a.area)))):=by
 obtain⟨ao,ac,aa⟩:=a
 obtain⟨bo,bc,ba⟩:=b
 simp only
 refine q0g (fn:=qac) rfl (q0a ?_)
 cases ao with
 |false=>
  repeat' (first
   |refine goP 800 rfl rfl ?_
   |refine q0h rfl ?_|refine q0n rfl ?_|refine q09 rfl (fun _=>?_) (fun _=>?_)
   |refine q0d rfl ?_|refine q0j rfl ?_|refine q01 rfl (fun _=>?_) (fun _=>?_)
   |refine q0N rfl (fun _=>?_) (fun _=>?_)
   |refine q08 rfl rfl rfl trivial ?_)
  rfl
 |true=>
  cases bo with
  |false=>
   repeat' (first
    |refine goP 800 rfl rfl ?_
    |refine q0h rfl ?_|refine q0n rfl ?_|refine q09 rfl (fun _=>?_) (fun _=>?_)
    |refine q0d rfl ?_|refine q0j rfl ?_|refine q01 rfl (fun _=>?_) (fun _=>?_)
    |refine q0N rfl (fun _=>?_) (fun _=>?_)
    |refine q08 rfl rfl rfl trivial ?_)
   rfl
  |true=>
   repeat' (first
    |refine goP 800 rfl rfl ?_
    |refine q0h rfl ?_|refine q0n rfl ?_|refine q09 rfl (fun _=>?_) (fun _=>?_)
    |refine q0d rfl ?_|refine q0j rfl ?_|refine q01 rfl (fun _=>?_) (fun _=>?_)
    |refine q0N rfl (fun _=>?_) (fun _=>?_)
    |refine q08 rfl rfl rfl trivial ?_)
   rw[q1J];rfl
end Go.F

namespace Go.F
attribute [local irreducible] IntKind.wrap wpM
def qey (us:List Use)(i:Nat):Bool:=us.any fun u=>decide (u.piece=(i:Nat))
def o6 (s:Sty)(i z:Nat):Bool:=decide (z=0)&&!qey s.uses i
theorem row6 (s:Sty)(i w:Nat)(hw:0<w):q5M 6 (o6 s) i w=if qey s.uses i then []else [⟨6,(i:Nat),0⟩]:=by
 unfold q5M
 have e:(List.range w).filter (o6 s i)=if qey s.uses i then []else [0]:=by
  induction w with
  |zero=>omega
  |succ w ih=>
   rw[qew]
   by_cases h0:w=0
   ·subst h0
    cases h:qey s.uses i<;>simp[o6,h]
   rw[ih (by omega)]
   have:o6 s i w=false:=by simp[o6,h0]
   rw[this];simp
 rw[e]
 split<;>rfl
def qez (s:Sty)(k n:Nat):List Bool:=(List.range n).map fun i=>qey (s.uses.take k) i
def qqp (b:Bool):D:=.bool b
theorem qDQ {s:Sty}{k:Nat}(h:k<s.uses.length)(i:Nat):qey (s.uses.take (k+1)) i=(qey (s.uses.take k) i||decide ((us s.uses k).piece=(i:Nat))):=by
 unfold qey
 rw[List.take_succ_eq_append_getElem h,List.any_append,qek h];simp
theorem qAv {s:Sty}{k n p:Nat}(h:k<s.uses.length)(hp:(us s.uses k).piece=(p:Nat))(hpn:p<n):(qez s k n).set p true=qez s (k+1) n:=by
 unfold qez
 apply List.ext_getElem
 ·simp
 intro j h1 h2
 rw[List.getElem_set]
 simp only[List.getElem_map,List.getElem_range]
 rw[qDQ h,hp]
 split
 ·rename_i e;subst e;simp
 rename_i e
 have:¬((p:Int)=(j:Nat)):=by omega
 rw[decide_eq_false this,Bool.or_false]
set_option maxRecDepth 100000 in
set_option maxHeartbeats 8000000 in
theorem qKm (s:Sty)(w:Nat)(hw:0<w)(hn:s.pieces.length≤1000)(hu:∀u∈s.uses,0≤u.piece∧u.piece<s.pieces.length)(hul:s.uses.length≤1000):PU qmo [s.enc]=some (qqo (q1W 6 (o6 s) s.pieces.length w)):=by
 refine q0g (fn:=qbQ) rfl (q0a ?_)
 refine gg rfl ?_
 rw[List.length_map]
 refine q44 s.pieces.length rfl rfl rfl (by simp[q0M];omega) ?_
 have ez:List.replicate s.pieces.length (D.bool false)=(qez s 0 s.pieces.length).map qqp:=by
  unfold qez
  rw[List.map_map]
  apply List.ext_getElem
  ·simp
  intro i h1 h2;simp[qey,qqp]
 show wpM _ _ _ _ _ _ (upd _ _ (some (.row (List.replicate s.pieces.length (D.bool false)) 1))) _ _ _
 rw[ez]
 refine gg rfl ?_
 rw[List.length_map]
 refine q0l (S:=fun k:Nat=>([.ptr 0 0 0,.ref 1 0 s.pieces.length,Go.F.uses s.uses,q00 s.uses.length,q00 k],[some (.row [s.enc] 7),some (.row ((qez s k s.pieces.length).map qqp) 1),none,none,none],[0,0,0,0,0])) (C:=fun k=>k≤s.uses.length) (m:=fun k=>s.uses.length-k) 0 (Nat.zero_le _) (by omega) ?_ ?_
 ·exact q03 rfl ⟨rfl,q05 (fun _=>rfl) _,trivial⟩ rfl
 intro k hk N hN
 refine gg rfl (q01 rfl (fun e=>?_) (fun e=>?_))
 ·rw[q06]at e
  have hlt:k<s.uses.length:=by omega
  have w1:=wS (n:=k)
  have hup:=hu (us s.uses k) (by rw[qek hlt];exact List.getElem_mem _)
  have hx:=qq5 hlt
  have hst:=qAv (s:=s) (k:=k) (n:=s.pieces.length) (p:=(us s.uses k).piece.toNat) hlt (by omega) (by omega)
  have hpp:(us s.uses k).piece=(((us s.uses k).piece.toNat:Nat):Int):=by omega
  have hpn:(us s.uses k).piece.toNat<s.pieces.length:=by omega
  generalize us s.uses k=u at*
  refine gg rfl (q0i k rfl rfl rfl hx rfl (gg rfl (q0H u.piece.toNat rfl rfl rfl rfl hpp hpn (gg rfl (q4R (enc:=qqp) (qez s k s.pieces.length) u.piece.toNat true rfl rfl (Nat.zero_add _) rfl (fun _=>rfl) rfl (Nat.zero_le _) (by simp[qez];omega) ?_)))))
  rw[hst]
  exact gg rfl (q04 (hN (k+1) hlt (by omega) (q03 rfl ⟨rfl,q05 (fun _=>rfl) _,trivial⟩ (by rw[w1];rfl))))
 rw[q07]at e
 obtain rfl:k=s.uses.length:=by omega
 clear hN
 refine gg rfl (q04 (gg rfl ?_))
 rw[List.length_map]
 refine q0l (S:=fun i:Nat=>([.ref 0 0 s.pieces.length,.ref 1 0 (q1W 6 (o6 s) i w).length,q00 s.pieces.length,q00 i],[some (.row ((qez s s.uses.length s.pieces.length).map qqp) 1),some (.row ((q1W 6 (o6 s) i w).map Iss.enc) 3),none,none],[0,0,0,0])) (C:=fun i=>i≤s.pieces.length) (m:=fun i=>s.pieces.length-i) 0 (Nat.zero_le _) (by omega) ?_ ?_
 ·exact q03 rfl ⟨q05 (fun _=>rfl) _,rfl,trivial⟩ rfl
 intro i hi N hN
 refine gg rfl (q01 rfl (fun e=>?_) (fun e=>?_))
 ·rw[q06]at e
  have hlt:i<s.pieces.length:=by omega
  have w1:=wS (n:=i)
  have hg:((qez s s.uses.length s.pieces.length).map qqp)[i]?=some (.bool (qey s.uses i)):=by simp[qez,hlt,qqp]
  have ps:=q4D 6 (o6 s) i w
  rw[row6 s i w hw]at ps
  have pl:(q1W 6 (o6 s) i w).length≤i:=by
   have hz:∀j,(q1W 6 (o6 s) j w).length≤j:=by
    intro j
    induction j with
    |zero=>simp[q1W]
    |succ j ih=>
     rw[q4D,List.length_append,row6 s j w hw]
     split<;>simp<;>omega
   exact hz i
  generalize q1W 6 (o6 s) i w=A at*
  refine gg rfl (q0H i rfl rfl rfl rfl rfl hlt (gg rfl (qn1 rfl rfl (by rw[Nat.zero_add];exact hg) rfl ?_)))
  cases hub:qey s.uses i with
  |false=>
   rw[hub]at ps
   refine gg rfl (q0d rfl (gg rfl (q1b rfl rfl rfl rfl rfl rfl (by simp) (Nat.zero_le _) (by simp[q0M];omega) ?_)))
   refine gg rfl (q04 (hN (i+1) hlt (by omega) (q03 rfl ⟨q05 (fun _=>rfl) _,?_,trivial⟩ ?_)))
   ·rw[List.all_append,q05 q0L];rfl
   rw[ps,w1]
   simp[q00,Iss.enc]
  |true=>
   rw[hub]at ps
   refine gg rfl (q0j rfl (gg rfl (q04 (hN (i+1) hlt (by omega) (q03 rfl ⟨q05 (fun _=>rfl) _,q05 q0L _,trivial⟩ ?_)))))
   rw[ps,w1]
   simp[q00]
 rw[q07]at e
 obtain rfl:i=s.pieces.length:=by omega
 clear hN
 refine gg rfl (q04 (gg rfl (q08 rfl rfl rfl ⟨q2s (by simp) (q0W qeV _),trivial⟩ ?_)))
 rw[q2t (by simp)];rfl
end Go.F

namespace Go.F
structure PcOk (b:List Piece)(p:Piece):Prop where
 name:q1M p.name=true
 grain:¬(p.grain≠1∧p.grain≠2∧p.grain≠4)
 once:(b.any fun o=>o.name.toList==p.name.toList)=false
 grad:(q0p p 0).2=0
 plac:(q0S p 0).2=0
 wlen:p.widths.length=p.edges.length
 wid:¬(p.widths.any q2j)=true
theorem qjJ {b:List Piece}{p:Piece}(h:q24 b p=0):PcOk b p:=by
 unfold q24 at h
 split at h
 ·cases h
 rename_i g1
 split at h
 ·cases h
 rename_i g2
 split at h
 ·cases h
 rename_i g3
 split at h
 ·rename_i g;exact absurd h g
 rename_i g4
 split at h
 ·rename_i g;exact absurd h g
 rename_i g5
 split at h
 ·cases h
 rename_i g6
 split at h
 ·cases h
 rename_i g7
 exact⟨by simpa using g1,g2,by simpa using g3,by simpa using g4,by simpa using g5,by simpa using g6,g7⟩
end Go.F

namespace Go.F
attribute [local irreducible] IntKind.wrap wpM
theorem qGl {l:List Spot}(h:q1v l=0):(q17 l).2=0∧0≤(q17 l).1∧(q17 l).1≤1099511627776:=by
 obtain⟨h2,h40,hw⟩:=q2k h
 have hl:=qpH (p:=l) (fun i hi=>hw (pt l i) (by rw[q0D hi];exact List.getElem_mem _)) (l.length-1) (by omega)
 have h3:(l.length-1) *4294967296≤39*4294967296:=Nat.mul_le_mul_right _ (by omega)
 unfold q17
 rw[if_pos h]
 refine⟨rfl,?_,?_⟩
 ·show(0:Int)≤((q36 l (l.length-1):Nat):Int);omega
 show((q36 l (l.length-1):Nat):Int)≤_;omega
theorem qyg {p:Piece}{m:Int}(hg:(q0p p m).2=0){e:Nat}(he:e<p.edges.length):q1v (eg (q0p p m).1 e).line=0:=by
 have hl:=q2b hg
 exact q2P (q1a (q11 hl.2.2.1).2.2.1 (by rw[hl.1];exact he))
theorem qDR {fr to at_:Int}{rev:Bool}:(q3v fr to rev at_).2=0↔¬q4y fr to at_:=by
 unfold q3v
 split
 ·rename_i h;exact⟨fun e=>by simp at e,fun e=>absurd h e⟩
 rename_i h;exact⟨fun _=>h,fun _=>rfl⟩
theorem qAw {p:Piece}{m:Int}{n:Ntc}(h0:(q0p p 0).2=0)(hg:(q0p p m).2=0)(h:(q1w p (q0p p 0).1 n).2=0):(q1w p (q0p p m).1 n).2=0:=by
 unfold q1w at h⊢
 split at h
 ·cases h
 rename_i g1
 rw[if_neg g1]
 split at h
 ·rename_i g2;exact absurd h g2
 rename_i g2
 rw[if_neg g2]
 split at h
 ·rename_i g3;exact absurd h g3
 rename_i g3
 have hb:=qGl (qyg hg (e:=n.edge.toNat) (by omega))
 rw[if_neg (by simp[hb.1])]
 rw[qDR]at h⊢
 unfold q4y at h⊢
 omega
theorem qeA {p:Piece}{g:List Edge}:∀{l:List Ntc},q2A p g l=0↔∀n∈l,(q1w p g n).2=0
 |[]=>by simp[q2A]
 |n::l=>by
  rw[q2A]
  split
  ·rename_i h
   rw[qeA]
   constructor
   ·intro h2 x hx
    rcases List.mem_cons.1 hx with rfl|hx
    ·exact h
    exact h2 x hx
   intro h2 x hx;exact h2 x (List.mem_cons_of_mem _ hx)
  rename_i h
  exact⟨fun e=>absurd e h,fun h2=>absurd (h2 n (List.mem_cons_self ..)) h⟩
theorem qqq {p:Piece}{m:Int}(h0:(q0p p 0).2=0)(hp:(q0S p 0).2=0)(hg:(q0p p m).2=0):(q0S p m).2=0:=by
 unfold q0S at hp⊢
 rw[if_neg (by simp[h0])]at hp
 rw[if_neg (by simp[hg])]
 split at hp
 ·cases hp
 rename_i g
 rw[if_neg g]
 split at hp
 ·rename_i g2;exact absurd hp g2
 rename_i g2
 have g2:q2A p (q0p p 0).1 p.notches=0:=by simpa using g2
 rw[if_neg]
 ·simp only[ne_eq,Decidable.not_not]
  exact qeA.2 fun n hn=>qAw h0 hg (qeA.1 g2 n hn)
def qtd (s:Sty)(p:Nat)(z:Nat):Bool:=decide ((q0p (pc s.pieces p) (mz s z)).2=0)
def qaX (s:Sty)(k z:Nat):Bool:=qtd s (sw s.seams k).pa.toNat z&&qtd s (sw s.seams k).pb.toNat z
def o3 (s:Sty)(k z:Nat):Bool:=qaX s k z&&decide ((sw s.seams k).ease<max (qiX s z (sw s.seams k)-qiY s z (sw s.seams k)) (qiY s z (sw s.seams k)-qiX s z (sw s.seams k)))
def o4 (s:Sty)(k z:Nat):Bool:=qaX s k z&&decide (0<(qDO s z (sw s.seams k)).length)
def qqr (s:Sty)(m:Sew):Sty:={s with seams:=[m]}
def qk1 (s:Sty)(i z:Nat):Grd:=exm (pc s.pieces i) (mz s z)
theorem qma (s:Sty)(i z:Nat):(qk1 s i z).outline=qtd s i z:=by
 unfold qk1 exm qtd
 split
 ·rename_i h;rw[decide_eq_false h]
 rename_i h
 have h:(q0p (pc s.pieces i) (mz s z)).2=0:=Decidable.not_not.1 h
 rw[h];rfl
theorem qBy {s:Sty}(h:q2M s=0){k:Nat}(hk:k<s.seams.length):q1P s (sw s.seams k).pa (sw s.seams k).ea=true∧q1P s (sw s.seams k).pb (sw s.seams k).eb=true∧0≤(sw s.seams k).ease:=by
 have h2:=q1a (q5v h).2.2.2 hk
 unfold q43 q6e at h2
 split at h2
 ·cases h2
 rename_i g
 split at h2
 ·cases h2
 rename_i g2
 refine⟨?_,?_,by omega⟩
 ·cases hh:q1P s (sw s.seams k).pa (sw s.seams k).ea with
  |true=>rfl
  |false=>exact absurd (.inl hh) g
 cases hh:q1P s (sw s.seams k).pb (sw s.seams k).eb with
 |true=>rfl
 |false=>exact absurd (.inr hh) g
theorem qqs {s:Sty}(h:q2M s=0){i:Nat}(hi:i<s.pieces.length):(q0p (pc s.pieces i) 0).2=0∧(q0S (pc s.pieces i) 0).2=0∧(pc s.pieces i).corners.length≤16:=by
 have hp:=qjJ (q1a (q5v h).2.1 hi)
 have hl:=q2b hp.grad
 have:=(q11 hl.2.1).2.1
 exact⟨hp.grad,hp.plac,by omega⟩
theorem qqt {s:Sty}(h:q2M s=0):∀p∈s.pieces,p.corners.length≤1000000:=by
 intro p hp
 obtain⟨i,hi,rfl⟩:=List.getElem_of_mem hp
 have:=(qqs h hi).2.2
 rw[q6s hi]at this
 omega
theorem qAx {s:Sty}(h:q2M s=0){k z:Nat}(hk:k<s.seams.length)(hz:z<s.mults.length)(hb:qaX s k z=true):SewOk s z k:=by
 obtain⟨e1,e2,_⟩:=qBy h hk
 unfold qaX qtd at hb
 rw[Bool.and_eq_true,decide_eq_true_eq,decide_eq_true_eq]at hb
 exact⟨hz,hk,e1,e2,hb.1,hb.2,qqt h⟩
theorem qGm {s:Sty}(h:q2M s=0){k z:Nat}(hk:k<s.seams.length)(hz:z<s.mults.length)(hb:qaX s k z=true):SewOk (qqr s (sw s.seams k)) z 0:=by
 have:=qAx h hk hz hb
 exact⟨hz,by show 0<1;decide,this.ea,this.eb,this.ga,this.gb,fun p hp=>qqt h p hp⟩
theorem qDS {s:Sty}(h:q2M s=0){k z:Nat}(hk:k<s.seams.length)(hz:z<s.mults.length)(hb:qaX s k z=true):
 PU q9l [(qqr s (sw s.seams k)).enc,.int .i64 z]=some (.tup [qqo (qDO s z (sw s.seams k)),.int .i64 0]):=by
 have h1:=qAx h hk hz hb
 have h2:=qGm h hk hz hb
 obtain⟨_,a2,_,_⟩:=q5a h1.ea
 obtain⟨_,b2,_,_⟩:=q5a h1.eb
 have pa:=qqs h a2
 have pb:=qqs h b2
 exact qvg (qqr s (sw s.seams k)) z h2 rfl (qqq pa.1 pa.2.1 h1.ga) (qqq pb.1 pb.2.1 h1.gb)
theorem qBz {p:Piece}{m:Int}{e:Nat}(hg:(q0p p m).2=0)(he:e<p.edges.length):0≤qye p m e∧qye p m e≤1099511627776:=(qGl (qyg hg he)).2
end Go.F

namespace Go.F
section
variable {t:q0x}{h:q0e}{z:Frz}{nx:Nat}
def qgw (nx0:Nat)(ids:List (Option Nat))(t:q0x):Live→List D
 |[]=>[]
 |x::rest=>(match q6i x.1 with|true=> .bad|false=>q1f nx0 ids (t x.1))::qgw nx0 ids t rest
theorem qjB (nx0:Nat)(ids:List (Option Nat))(t:q0x):∀live,qgf nx0 ids t live=mkT live (qgw nx0 ids t live)
 |[]=>rfl
 |x::rest=>by rw[qgf,qgw,mkT,qjB nx0 ids t rest];rfl
theorem qCJ {nx0:Nat}{ids:List (Option Nat)}{s:St}:∀{live:Live},q3A nx0 ids s.heap s.tmps live=true→q3Y nx0 ids live s=some s:=by
 intro live
 induction live with
 |nil=>intro _;rfl
 |cons x rest ih=>
  intro hk
  rw[q3A,Bool.and_eq_true]at hk
  rw[q3Y]
  have e:q4x nx0 ids x.1 s=some s:=by
   unfold q4x
   have h1:=hk.1
   split
   ·rename_i hid
    rw[hid]at h1
    split
    ·rfl
    rename_i hp
    rw[hp]at h1
    have hl:look s.tmps s.heap x.1=s.tmps x.1:=by unfold look;rw[hp]
    rw[hl]at hid
    unfold qjc
    rw[hid]
    simp only
    simp only at h1
    rw[h1]
   rename_i id hid
   rw[hid]at h1
   split
   ·rename_i es esz hh
    have h1:q9h nx0 ids (s.heap id)=true:=h1
    rw[hh]at h1
    have h1:es.all (okD nx0 ids)=true:=h1
    rw[h1]
   rfl
  rw[e]
  exact ih hk.2
theorem qB6 {live:Live}{s1:St}{ids:List (Option Nat)}{vs:List D}{bs:List (Option Blk)}{zs:List Nat}{K:Kept→Prop}
 (hn:q5e live ⟨t,h,z,nx⟩=s1) (hi:q1S s1.tmps s1.heap live=ids) (ho:q3A 0 ids s1.heap s1.tmps live=true)
 (hv:qgw 0 ids s1.tmps live=vs) (hb:q8v 0 ids none (fun i=>q77 0 ids (s1.heap i)) ids 0=bs) (hz:q8v 0 ids 0 s1.frz ids 0=zs)
 (hk:K (vs,bs,zs)) (hnst:q5p live=true:=by rfl):q12 0 live t h z nx fun _ _ kp=>K kp:=by
 unfold q12
 rw[hnst]
 simp only
 refine⟨s1.heap,s1.frz,(vs,bs,zs),hk,?_⟩
 unfold qbb
 rw[hn,hi,qCJ ho]
 simp only
 unfold qw0
 rw[hi,ho]
 simp only
 rw[qjB,hv,q7A _ _ (Nat.le_refl _),q7A _ _ (Nat.le_refl _),hb,hz]
theorem qB7 {live:Live}{s1:St}{ids:List (Option Nat)}{vs:List D}{bs:List (Option Blk)}{zs:List Nat}
 (hn:q5e live ⟨t,h,z,nx⟩=s1) (hi:q1S s1.tmps s1.heap live=ids) (ho:q3A 0 ids s1.heap s1.tmps live=true)
 (hv:qgw 0 ids s1.tmps live=vs) (hb:q8v 0 ids none (fun i=>q77 0 ids (s1.heap i)) ids 0=bs) (hz:q8v 0 ids 0 s1.frz ids 0=zs)
 (hnst:q5p live=true:=by rfl):q12 0 live t h z nx fun _ _ kp=>kp=(vs,bs,zs):=
 qB6 hn hi ho hv hb hz rfl hnst
end
theorem qCK (ids:List (Option Nat))(l:List Spot):(l.map Spot.enc).all (okD 0 ids)=true:=by
 rw[List.all_map,List.all_eq_true]
 intro x _;rfl
theorem qCL (ids:List (Option Nat))(l:List Spot):(l.map Spot.enc).map (qII 0 ids)=l.map Spot.enc:=by
 rw[List.map_map]
 apply List.map_congr_left
 intro x _;rfl
end Go.F

namespace Go.F
theorem qA7 {hp:q0e}{es:List D}{n:Nat}(hd:es.all (dat 4)=true)(hn:4≤n):es.mapM (q18 hp n)=some es:=by
 induction es with
 |nil=>rfl
 |cons x es ih=>
  simp only[List.all_cons,Bool.and_eq_true]at hd
  simp[List.mapM_cons,qq9 4 n x hd.1 hn,ih hd.2]
theorem qDq {h:q0e}{id len sz n:Nat}{es:List D}(hh:h id=some (.row es sz))(hl:len=es.length)(hd:es.all (dat 4)=true)(hn:4≤n):q18 h (n+1) (.ref id 0 len)=some (.lst es):=by
 subst hl
 simp only[q18,hh]
 rw[if_pos (by omega),List.drop_zero,List.take_length,qA7 hd hn];rfl
theorem qA8 {h:q0e}{id len sz n:Nat}{es:List D}(hh:h id=some (.row es sz))(hd:es.all (dat 4)=true):q0P h (n+1) (.ref id 0 len)=[id]:=by
 simp only[q0P,hh]
 rw[q72]
 rw[List.all_eq_true]at hd⊢
 intro x hx
 exact hd x (List.mem_of_mem_drop (List.mem_of_mem_take hx))
end Go.F

namespace Go.F
attribute [local irreducible] IntKind.wrap wpM
theorem qGn {h:q0e}{A a x:Nat}{nm:ByteArray}{S M P U W O:List D}(hA:h A=some (.row W x))(ha:a=W.length)(hW:W.all (dat 4)=true):
 Obl.ok (.s h [.agg [.str nm,.lst S,.lst M,.lst P,.lst U,.ref A 0 a,.lst O]] [.agg [.str nm,.lst S,.lst M,.lst P,.lst U,.lst W,.lst O]] [A]):=by
 refine⟨rfl,?_,?_,rfl⟩
 ·have e:∀d:List D,q18 h 7 (.lst d)=some (.lst d):=fun _=>rfl
  have e2:q18 h 7 (.str nm)=some (.str nm):=rfl
  show([_]:List D).mapM (q18 h 8)=_
  rw[List.mapM_cons,List.mapM_nil]
  have e3:q18 h 8 (.agg [.str nm,.lst S,.lst M,.lst P,.lst U,.ref A 0 a,.lst O])=(([.str nm,.lst S,.lst M,.lst P,.lst U,.ref A 0 a,.lst O]:List D).mapM (q18 h 7)).map .agg:=rfl
  rw[e3]
  simp only[List.mapM_cons,List.mapM_nil,e,e2,qDq hA ha hW (show 4≤6 by decide)]
  rfl
 show List.flatMap (q0P h 12) [_]=_
 have e3:q0P h 12 (.agg [.str nm,.lst S,.lst M,.lst P,.lst U,.ref A 0 a,.lst O])=([.str nm,.lst S,.lst M,.lst P,.lst U,.ref A 0 a,.lst O]:List D).flatMap (q0P h 11):=rfl
 rw[List.flatMap_cons,List.flatMap_nil,e3]
 simp only[List.flatMap_cons,List.flatMap_nil,qA8 hA hW (n:=10)]
 rfl
set_option maxRecDepth 100000 in
set_option maxHeartbeats 16000000 in
theorem qKE (s:Sty)(h:q2M s=0):PU qoE [s.enc,qex s.pieces.length s.mults.length (qk1 s)]=some (qqo (q1W 3 (o3 s) s.seams.length s.mults.length++q1W 4 (o4 s) s.seams.length s.mults.length)):=by
 have hok:=qiL h
 have hs24:=hok.seams
 have hm12:s.mults.length≤12:=by have:=hok.mults;have:=hok.sizes;omega
 have he:∀{x:Int} {P:Prop},eqb x x=false→P:=fun h=>absurd rfl (q1Q.1 h)
 refine q0g (fn:=qdt) rfl (q0a ?_)
 refine gg rfl ?_
 rw[List.length_map]
 refine q0l (S:=fun k:Nat=>([qex s.pieces.length s.mults.length (qk1 s),.ptr 1 0 0,.ref 2 0 (q1W 3 (o3 s) k s.mults.length).length,.ref 3 0 (q1W 4 (o4 s) k s.mults.length).length,qcC s.seams,q00 s.seams.length,q00 k],[none,some (.row [s.enc] 7),some (.row ((q1W 3 (o3 s) k s.mults.length).map Iss.enc) 3),some (.row ((q1W 4 (o4 s) k s.mults.length).map Iss.enc) 3),none,none,none],[0,0,0,0,0,0,0])) (C:=fun k=>k≤s.seams.length) (m:=fun k=>s.seams.length-k) 0 (Nat.zero_le _) (by omega) ?_ ?_
 ·exact q03 rfl ⟨rfl,rfl,rfl,trivial⟩ rfl
 intro k hk N hN
 refine gg rfl (q01 rfl (fun e=>?_) (fun e=>?_))
 ·rw[q06]at e
  have hlt:k<s.seams.length:=by omega
  have w1:=wS (n:=k)
  have l1:=q3X 3 (o3 s) k s.mults.length
  have l2:=q3X 4 (o4 s) k s.mults.length
  have hiw:k*s.mults.length≤24*12:=Nat.mul_le_mul (by omega) hm12
  have ps1:=q4D 3 (o3 s) k s.mults.length
  have ps2:=q4D 4 (o4 s) k s.mults.length
  have hx:=qjN hlt
  obtain⟨ea,eb,hease⟩:=qBy h hlt
  obtain⟨a1,a2,a3,a4⟩:=q5a ea
  obtain⟨b1,b2,b3,b4⟩:=q5a eb
  have hSE:=fun z (hz:z<s.mults.length) hb=>qql s z k (qAx h hlt hz hb)
  have hUE:=fun z (hz:z<s.mults.length) hb=>qDS h hlt hz hb
  have hLA:∀z,qaX s k z=true→0≤qiX s z (sw s.seams k)∧qiX s z (sw s.seams k)≤1099511627776∧0≤qiY s z (sw s.seams k)∧qiY s z (sw s.seams k)≤1099511627776:=by
   intro z hb
   unfold qaX qtd at hb
   rw[Bool.and_eq_true,decide_eq_true_eq,decide_eq_true_eq]at hb
   have q1:=qBz hb.1 a4
   have q2:=qBz hb.2 b4
   exact⟨q1.1,q1.2,q2.1,q2.2⟩
  have hd3:∀z,o3 s k z=(qaX s k z&&decide ((sw s.seams k).ease<max (qiX s z (sw s.seams k)-qiY s z (sw s.seams k)) (qiY s z (sw s.seams k)-qiX s z (sw s.seams k)))):=fun _=>rfl
  have hbd:∀z,qaX s k z=((qk1 s (sw s.seams k).pa.toNat z).outline&&(qk1 s (sw s.seams k).pb.toNat z).outline):=fun z=>by rw[qma,qma];rfl
  generalize q1W 3 (o3 s) k s.mults.length=A at*
  generalize q1W 4 (o4 s) k s.mults.length=B at*
  generalize hmm0:sw s.seams k=m at*
  refine gg rfl (q0i k rfl rfl rfl hx rfl (gg rfl ?_))
  rw[List.length_map]
  refine q0l (S:=fun z:Nat=>([qex s.pieces.length s.mults.length (qk1 s),.ptr 1 0 0,.ref 2 0 (A++q5M 3 (o3 s) k z).length,.ref 3 0 (B++q5M 4 (o4 s) k z).length,q00 k,.ptr 5 0 0,.ptr 6 0 0,qcC s.seams,q00 s.seams.length,q00 k,q00 s.mults.length,q00 z],[none,some (.row [s.enc] 7),some (.row ((A++q5M 3 (o3 s) k z).map Iss.enc) 3),some (.row ((B++q5M 4 (o4 s) k z).map Iss.enc) 3),none,some (.row [m.enc] 6),some (.row [(qqr s m).enc] 7),none,none,none,none,none],[0,0,0,0,0,0,0,0,0,0,0,0])) (C:=fun z=>z≤s.mults.length) (m:=fun z=>s.mults.length-z) 0 (Nat.zero_le _) (by omega) ?_ ?_
  ·refine qiT [none,none,none,none,some ([(qqr s m).enc],[43])] rfl ⟨rfl,q05 q0L _,q05 q0L _,rfl,qGn rfl rfl rfl,trivial⟩ ?_
   simp[q5M,q00,qcC,qex,q9Q,qeQ,Sew.enc]
  intro z hz N2 hN2
  refine gg rfl (q01 rfl (fun f=>?_) (fun f=>?_))
  ·rw[q06]at f
   have hlz:z<s.mults.length:=by omega
   have w2:=wS (n:=z)
   have r1:=row_step 3 (o3 s) k z
   have r2:=row_step 4 (o4 s) k z
   have k1:=qbA 3 (o3 s) k z
   have k2:=qbA 4 (o4 s) k z
   have hd3:=hd3 z
   have hbd:=hbd z
   have gA:=qj0 (n:=s.pieces.length) (w:=s.mults.length) (qk1 s) a2
   have gB:=qj0 (n:=s.pieces.length) (w:=s.mults.length) (qk1 s) b2
   have ga:=qiZ (qk1 s m.pa.toNat) hlz
   have gb:=qiZ (qk1 s m.pb.toNat) hlz
   have hLA:=hLA z
   have hSE:=hSE z hlz
   have hUE:=hUE z hlz
   generalize q5M 3 (o3 s) k z=A2 at*
   generalize q5M 4 (o4 s) k z=B2 at*
   generalize qk1 s m.pa.toNat z=GA at*
   generalize qk1 s m.pb.toNat z=GB at*
   refine gg rfl (q0i m.pa.toNat rfl rfl (by omega) gA rfl ?_)
   refine gg rfl (q0i z rfl rfl rfl ga rfl ?_)
   cases hoA:GA.outline with
   |false=>
    have hbf:qaX s k z=false:=by rw[hbd,hoA];rfl
    refine gg rfl ?_
    rw[hoA]
    refine q0h rfl (gg rfl (q0d rfl ?_))
    have e3:o3 s k z=false:=by unfold o3;rw[hbf];rfl
    have e4:o4 s k z=false:=by unfold o4;rw[hbf];rfl
    refine gg rfl (q04 (hN2 (z+1) (by omega) (by omega) (q03 rfl ⟨rfl,q05 q0L _,q05 q0L _,rfl,rfl,trivial⟩ ?_)))
    rw[r1,r2,e3,e4,w2]
    simp[q00,qex,q9Q,qcC]
   |true=>
    refine gg rfl ?_
    rw[hoA]
    refine q0n rfl (gg rfl (q0i m.pb.toNat rfl rfl (by omega) gB rfl ?_))
    refine gg rfl (q0i z rfl rfl rfl gb rfl ?_)
    cases hoB:GB.outline with
    |false=>
     have hbf:qaX s k z=false:=by rw[hbd,hoA,hoB];rfl
     refine gg rfl ?_
     rw[hoB]
     refine q0d rfl ?_
     have e3:o3 s k z=false:=by unfold o3;rw[hbf];rfl
     have e4:o4 s k z=false:=by unfold o4;rw[hbf];rfl
     refine gg rfl (q04 (hN2 (z+1) (by omega) (by omega) (q03 rfl ⟨rfl,q05 q0L _,q05 q0L _,rfl,rfl,trivial⟩ ?_)))
     rw[r1,r2,e3,e4,w2]
     simp[q00,qex,q9Q,qcC]
    |true=>
     have hbt:qaX s k z=true:=by rw[hbd,hoA,hoB];rfl
     have hLn:=hSE hbt
     have hU:=hUE hbt
     obtain⟨n1,n2,n3,n4⟩:=hLA hbt
     rw[hbt,Bool.true_and]at hd3
     have hmm:qDO s z m=qDO s z (sw s.seams k):=by rw[hmm0]
     generalize qiX s z m=nA at*
     generalize qiY s z m=nB at*
     have wa:=ww (x:=nA-nB)
     have wb:=ww (x:=nB-nA)
     refine gg rfl ?_
     rw[hoB]
     refine q0j rfl (gg rfl (q02 rfl rfl hLn (gg rfl (q09 rfl (fun _=>?_) he))))
     refine gg rfl ?_
     rw[wa,wb]
     refine q01 rfl (fun f3=>?_) (fun f3=>?_)
     ·rw[q06]at f3
      have e3:o3 s k z=true:=by rw[hd3,decide_eq_true f3]
      refine gg rfl (q1b rfl rfl rfl rfl rfl rfl (by simp) (Nat.zero_le _) (by simp[q0M];omega) ?_)
      have PL:((A++A2).map Iss.enc++[Iss.enc ⟨3,(k:Nat),(z:Nat)⟩]).all (plain 4)=true:=by rw[List.all_append,q05 q0L];rfl
      refine gg rfl (q02 rfl rfl hU (gg rfl (q09 rfl (fun _=>?_) he)))
      refine gg rfl ?_
      rw[List.length_map]
      refine q01 rfl (fun f4=>?_) (fun f4=>?_)
      ·rw[q06]at f4
       have e4:o4 s k z=true:=by unfold o4;rw[hbt,decide_eq_true (by rw[←hmm];omega)];rfl
       refine gg rfl (q1b rfl rfl rfl rfl rfl rfl (by simp) (Nat.zero_le _) (by simp[q0M];omega) ?_)
       refine gg rfl (q04 (hN2 (z+1) (by omega) (by omega) (q03 rfl ⟨rfl,PL,?_,rfl,rfl,trivial⟩ ?_)))
       ·rw[List.all_append,q05 q0L];rfl
       rw[r1,r2,e3,e4,w2]
       simp[q00,Iss.enc,qex,q9Q,qcC,Nat.add_assoc]
      rw[q07]at f4
      have e4:o4 s k z=false:=by unfold o4;rw[hbt,decide_eq_false (by rw[←hmm];omega)];rfl
      refine gg rfl (q04 (hN2 (z+1) (by omega) (by omega) (q03 rfl ⟨rfl,PL,q05 q0L _,rfl,rfl,trivial⟩ ?_)))
      rw[r1,r2,e3,e4,w2]
      simp[q00,Iss.enc,qex,q9Q,qcC,Nat.add_assoc]
     rw[q07]at f3
     have e3:o3 s k z=false:=by rw[hd3,decide_eq_false (by omega)]
     have PL:((A++A2).map Iss.enc).all (plain 4)=true:=q05 q0L _
     refine gg rfl (q02 rfl rfl hU (gg rfl (q09 rfl (fun _=>?_) he)))
     refine gg rfl ?_
     rw[List.length_map]
     refine q01 rfl (fun f4=>?_) (fun f4=>?_)
     ·rw[q06]at f4
      have e4:o4 s k z=true:=by unfold o4;rw[hbt,decide_eq_true (by rw[←hmm];omega)];rfl
      refine gg rfl (q1b rfl rfl rfl rfl rfl rfl (by simp) (Nat.zero_le _) (by simp[q0M];omega) ?_)
      refine gg rfl (q04 (hN2 (z+1) (by omega) (by omega) (q03 rfl ⟨rfl,PL,?_,rfl,rfl,trivial⟩ ?_)))
      ·rw[List.all_append,q05 q0L];rfl
      rw[r1,r2,e3,e4,w2]
      simp[q00,Iss.enc,qex,q9Q,qcC,Nat.add_assoc]
     rw[q07]at f4
     have e4:o4 s k z=false:=by unfold o4;rw[hbt,decide_eq_false (by rw[←hmm];omega)];rfl
     refine gg rfl (q04 (hN2 (z+1) (by omega) (by omega) (q03 rfl ⟨rfl,PL,q05 q0L _,rfl,rfl,trivial⟩ ?_)))
     rw[r1,r2,e3,e4,w2]
     simp[q00,Iss.enc,qex,q9Q,qcC,Nat.add_assoc]
  rw[q07]at f
  obtain rfl:z=s.mults.length:=by omega
  clear hN2
  refine gg rfl (q04 (gg rfl (q04 (hN (k+1) (by omega) (by omega) (q03 rfl ⟨rfl,q05 q0L _,q05 q0L _,trivial⟩ ?_)))))
  rw[ps1,ps2,w1];rfl
 rw[q07]at e
 obtain rfl:k=s.seams.length:=by omega
 have l1:=q3X 3 (o3 s) s.seams.length s.mults.length
 have l2:=q3X 4 (o4 s) s.seams.length s.mults.length
 have hiw:s.seams.length*s.mults.length≤24*12:=Nat.mul_le_mul (by omega) hm12
 clear hN
 refine gg rfl (q04 (gg rfl (q1b rfl rfl rfl rfl (by simp) (q1o (n:=3) (fun _=>rfl) _) (by simp) (Nat.zero_le _) (by simp[q0M];omega) ?_)))
 refine gg rfl (q08 rfl rfl rfl ⟨q2s (by simp) ?_,trivial⟩ ?_)
 ·rw[List.all_append,q0W qeV,q0W qeV];rfl
 rw[q2t (by simp),←List.map_append];rfl
end Go.F

namespace Go.F
attribute [local irreducible] IntKind.wrap wpM
theorem q31 {nx0:Nat}{h:q0e}{id n:Nat}{es:List D}(hh:h id=some (.row es n))(hp:es.all (plain 4)=true):q1e nx0 h id=some (.row es n):=by
 unfold q1e
 rw[hh,q9i (b:=some (.row es n)) hp]
 rfl
def qDM (n w:Nat)(g:Nat→Nat→Grd):List D:=(List.range n).map fun i=>q9Q w (g i)
theorem q2D (n w:Nat)(g:Nat→Nat→Grd):(qDM n w g).all (plain 4)=true:=q05 (fun _=>rfl) _
def qqm (s:Sty)(T:List D)(ho:q0e)(zo:Frz):Prop:=ho 0=some (.row [s.enc] 7)∧zo 0=0∧ho 1=some (.row T 1)∧zo 1=0
theorem qn3 {α:Type}{f:Nat→α}{i:Nat}{v:α}(hf:f i=v):upd f i v=f:=by
 funext k
 unfold upd
 cases hb:Nat.beq k i with
 |true=>rw[Nat.eq_of_beq_eq_true hb,hf];rfl
 |false=>rfl
theorem qjX {s:Sty}{T:List D}{ho:q0e}{zo:Frz}(h:qqm s T ho zo):∃(h0:q0e) (z0:Frz),ho=upd (upd h0 0 (some (.row [s.enc] 7))) 1 (some (.row T 1))∧zo=upd (upd z0 0 0) 1 0:=
 ⟨ho,zo,by rw[qn3 h.1,qn3 h.2.2.1],by rw[qn3 h.2.1,qn3 h.2.2.2]⟩
set_option maxRecDepth 100000 in
set_option maxHeartbeats 8000000 in
theorem qHS (s:Sty)(n w:Nat)(g:Nat→Nat→Grd)(hn:n≤1000)(hw:w≤1000){h:q0e}{z:Frz}{K:D→q0e→Frz→Nat→Prop}(hold:qqm s (qDM n w g) h z)
 (hk:∀(h':q0e) (z':Frz),h' 141=some (.row ((q1W 1 (o1 g) n w++q1W 2 (o2 g) n w).map Iss.enc) 3)→z' 141=0→qqm s (qDM n w g) h' z'→K (.ref 141 0 (q1W 1 (o1 g) n w++q1W 2 (o2 g) n w).length) h' z' 143):
 wpM TT (shr TT 5) 75 [.code k_verify_outlines.code] .normal (enter [.ref 1 0 n]) h z 75 (qeY k_verify_outlines K):=by
 obtain⟨h0,z0,rfl,rfl⟩:=qjX hold
 refine gg rfl (q62 (S:=fun i:Nat=>([.ref 75 0 (q1W 1 (o1 g) i w).length,.ref 76 0 (q1W 2 (o2 g) i w).length,.ref 1 0 n,q00 n,q00 i],[some (.row ((q1W 1 (o1 g) i w).map Iss.enc) 3),some (.row ((q1W 2 (o2 g) i w).map Iss.enc) 3),none,none,none],[0,0,0,0,0])) (O:=fun _ ho zo=>qqm s (qDM n w g) ho zo) (C:=fun i=>i≤n) (m:=fun i=>n-i) 0 (Nat.zero_le _) (by omega) ?_ ?_)
 ·exact q1U rfl ⟨rfl,rfl,q2D _ _ _,trivial⟩ (⟨rfl,q31 hold.1 rfl,hold.2.1,q31 hold.2.2.1 (q2D _ _ _),hold.2.2.2⟩)
 intro i hi ho zo hold N hN
 obtain⟨h0,z0,rfl,rfl⟩:=qjX hold
 refine gg rfl (q01 rfl (fun e=>?_) (fun e=>?_))
 ·rw[q06]at e
  have hlt:i<n:=by omega
  have w1:=wS (n:=i)
  have l1:=q3X 1 (o1 g) i w
  have l2:=q3X 2 (o2 g) i w
  have hiw:i*w≤1000*1000:=Nat.mul_le_mul (by omega) hw
  have ps1:=q4D 1 (o1 g) i w
  have ps2:=q4D 2 (o2 g) i w
  generalize q1W 1 (o1 g) i w=A at*
  generalize q1W 2 (o2 g) i w=B at*
  refine gg rfl (q0H i rfl hold.2.2.1 rfl rfl rfl hlt (gg rfl (qn1 rfl hold.2.2.1 (by rw[Nat.zero_add];exact qj0 g hlt) rfl ?_)))
  refine gg rfl ?_
  rw[List.length_map,List.length_map,List.length_range]
  refine q62 (S:=fun z:Nat=>([.ref 75 0 (A++q5M 1 (o1 g) i z).length,.ref 76 0 (B++q5M 2 (o2 g) i z).length,q00 i,.ref 1 0 n,q00 n,q00 i,q9Q w (g i),q00 w,q00 z],[some (.row ((A++q5M 1 (o1 g) i z).map Iss.enc) 3),some (.row ((B++q5M 2 (o2 g) i z).map Iss.enc) 3),none,none,none,none,none,none,none],[0,0,0,0,0,0,0,0,0])) (O:=fun _ ho zo=>qqm s (qDM n w g) ho zo) (C:=fun z=>z≤w) (m:=fun z=>w-z) 0 (Nat.zero_le _) (by omega) ?_ ?_
  ·refine q1U rfl ⟨q05 q0L _,q05 q0L _,q2D _ _ _,trivial⟩ (⟨by simp[q5M,q00,q9Q],⟨q31 hold.1 rfl,hold.2.1,q31 hold.2.2.1 (q2D _ _ _),hold.2.2.2⟩⟩)
  intro z hz ho2 zo2 hold2 N2 hN2
  obtain⟨h02,z02,rfl,rfl⟩:=qjX hold2
  refine gg rfl (q01 rfl (fun f=>?_) (fun f=>?_))
  ·rw[q06]at f
   have hlz:z<w:=by omega
   have w2:=wS (n:=z)
   have r1:=row_step 1 (o1 g) i z
   have r2:=row_step 2 (o2 g) i z
   have k1:=qbA 1 (o1 g) i z
   have k2:=qbA 2 (o2 g) i z
   have hx:=qiZ (g i) hlz
   have e1:o1 g i z=!(g i z).outline:=rfl
   have e2:o2 g i z=((g i z).outline&&!(g i z).cut):=rfl
   generalize g i z=G at*
   generalize q5M 1 (o1 g) i z=A2 at*
   generalize q5M 2 (o2 g) i z=B2 at*
   refine gg rfl (q0i z rfl rfl rfl hx rfl ?_)
   cases ho:G.outline with
   |false=>
    rw[ho]at e1 e2
    refine gg rfl ?_
    rw[ho]
    refine q0d rfl (gg rfl (q1b rfl rfl rfl rfl rfl rfl (by simp) (Nat.zero_le _) (by simp[q0M];omega) ?_))
    refine gg rfl (q04 (hN2 (z+1) (by omega) (by omega) (q1U rfl ⟨?_,q05 q0L _,q2D _ _ _,trivial⟩ ?_)))
    ·rw[List.all_append,q05 q0L];rfl
    refine⟨?_,⟨q31 hold2.1 rfl,hold2.2.1,q31 hold2.2.2.1 (q2D _ _ _),hold2.2.2.2⟩⟩
    rw[r1,r2,e1,e2,w2]
    simp[q00,Iss.enc,q9Q]
    omega
   |true=>
    rw[ho]at e1 e2
    refine gg rfl ?_
    rw[ho]
    refine q0j rfl ?_
    cases hcu:G.cut with
    |false=>
     rw[hcu]at e2
     refine gg rfl (q0d rfl (gg rfl (q1b rfl rfl rfl rfl rfl rfl (by simp) (Nat.zero_le _) (by simp[q0M];omega) ?_)))
     refine gg rfl (q04 (hN2 (z+1) (by omega) (by omega) (q1U rfl ⟨q05 q0L _,?_,q2D _ _ _,trivial⟩ ?_)))
     ·rw[List.all_append,q05 q0L];rfl
     refine⟨?_,⟨q31 hold2.1 rfl,hold2.2.1,q31 hold2.2.2.1 (q2D _ _ _),hold2.2.2.2⟩⟩
     rw[r1,r2,e1,e2,w2]
     simp[q00,Iss.enc,q9Q]
     omega
    |true=>
     rw[hcu]at e2
     refine gg rfl (q0j rfl (gg rfl (q04 (hN2 (z+1) (by omega) (by omega) (q1U rfl ⟨q05 q0L _,q05 q0L _,q2D _ _ _,trivial⟩ ?_)))))
     refine⟨?_,⟨q31 hold2.1 rfl,hold2.2.1,q31 hold2.2.2.1 (q2D _ _ _),hold2.2.2.2⟩⟩
     rw[r1,r2,e1,e2,w2]
     simp[q00,q9Q]
  rw[q07]at f
  obtain rfl:z=w:=by omega
  clear hN2
  refine gg rfl (q04 (gg rfl (q04 (hN (i+1) (by omega) (by omega) (q1U rfl ⟨q05 q0L _,q05 q0L _,q2D _ _ _,trivial⟩ ?_)))))
  refine⟨?_,⟨q31 hold2.1 rfl,hold2.2.1,q31 hold2.2.2.1 (q2D _ _ _),hold2.2.2.2⟩⟩
  rw[ps1,ps2,w1];rfl
 rw[q07]at e
 obtain rfl:i=n:=by omega
 have l1:=q3X 1 (o1 g) i w
 have l2:=q3X 2 (o2 g) i w
 have hiw:i*w≤1000*1000:=Nat.mul_le_mul (by omega) hw
 clear hN
 refine gg rfl (q04 (gg rfl (q1b rfl rfl rfl rfl (by simp) (q1o (n:=3) (fun _=>rfl) _) (by simp) (Nat.zero_le _) (by simp[q0M];omega) ?_)))
 refine gg rfl (qpg rfl rfl ?_)
 have hK:=hk (upd (upd (mkF 75 (upd (upd h0 0 (some (.row [s.enc] 7))) 1 (some (.row (qDM i w g) 1))) none [some (.row ((q1W 1 (o1 g) i w).map Iss.enc) 3),some (.row ((q1W 2 (o2 g) i w).map Iss.enc) 3),none,none,none] 75) 75 none) 141 (some (.row ((q1W 1 (o1 g) i w).map Iss.enc++(q1W 2 (o2 g) i w).map Iss.enc) 3))) (upd (mkF 75 (upd (upd z0 0 0) 1 0) 0 [0,0,0,0,0] 75) 141 0) (by rw[List.map_append];rfl) rfl hold
 rw[List.length_append]at hK
 exact hK
end Go.F

namespace Go.F
section
variable {t:q0x}{h:q0e}{z:Frz}{nx:Nat}
theorem qui (t:q0x)(h:q0e)(live0:Live)(x k:Nat):q1S t h (live0++[(x,k)])=q1S t h live0++[q28 (look t h x)]:=by
 unfold q1S
 rw[List.map_append];rfl
theorem qin (ids:List (Option Nat))(h:q0e)(t:q0x)(x k:Nat)(hx:q6i x=true):∀live0:Live,q3A 0 ids h t (live0++[(x,k)])=(q3A 0 ids h t live0&&(match q28 (look t h x)with|none=>true|some id=>q9h 0 ids (h id)))
 |[]=>by
  simp only[List.nil_append,q3A,hx,Bool.and_true,Bool.true_and]
  rfl
 |y::l=>by
  rw[List.cons_append,q3A,q3A,qin ids h t x k hx l,Bool.and_assoc]
theorem qIY {live0:Live}{x:Nat}{t1:q0x}{h1:q0e}{z1:Frz}{nx1:Nat}(d:D){ids0:List (Option Nat)}{vs:List D}{bs:List (Option Blk)}{zs:List Nat}
 (hx:q6i x=true) (hn:q5e (live0++[(x,0)]) ⟨t,h,z,nx⟩=⟨t1,h1,z1,nx1⟩) (hlook:look t1 h1 x=d) (hi:q1S t1 h1 live0=ids0)
 (ho:q3A 0 (ids0++[q28 d]) h1 t1 live0=true) (ho2:(match q28 d with|none=>true|some id=>q9h 0 (ids0++[q28 d]) (h1 id))=true)
 (hv:qgw 0 (ids0++[q28 d]) t1 (live0++[(x,0)])=vs) (hb:q8v 0 (ids0++[q28 d]) none (fun i=>q77 0 (ids0++[q28 d]) (h1 i)) (ids0++[q28 d]) 0=bs) (hz:q8v 0 (ids0++[q28 d]) 0 z1 (ids0++[q28 d]) 0=zs)
 (hnst:q5p (live0++[(x,0)])=true:=by rfl):q12 0 (live0++[(x,0)]) t h z nx fun _ _ kp=>kp=(vs,bs,zs):=by
 subst hlook
 subst hi
 refine qB6 (s1:=⟨t1,h1,z1,nx1⟩) hn (qui _ _ _ _ _) ?_ hv hb hz rfl hnst
 rw[qin _ _ _ _ _ hx,ho]
 exact ho2
theorem qKR {live:Live}{s1 s2:St}{ids ids2:List (Option Nat)}{vs:List D}{bs:List (Option Blk)}{zs:List Nat}
 (hn:q5e live ⟨t,h,z,nx⟩=s1) (hi:q1S s1.tmps s1.heap live=ids) (hp:q3Y 0 ids live s1=some s2) (hi2:q1S s2.tmps s2.heap live=ids2) (ho:q3A 0 ids2 s2.heap s2.tmps live=true)
 (hv:qgw 0 ids2 s2.tmps live=vs) (hb:q8v 0 ids2 none (fun i=>q77 0 ids2 (s2.heap i)) ids2 0=bs) (hz:q8v 0 ids2 0 s2.frz ids2 0=zs)
 (hnst:q5p live=true:=by rfl):q12 0 live t h z nx fun _ _ kp=>kp=(vs,bs,zs):=by
 unfold q12
 rw[hnst]
 simp only
 refine⟨s2.heap,s2.frz,(vs,bs,zs),rfl,?_⟩
 unfold qbb
 rw[hn,hi,hp]
 simp only
 unfold qw0
 rw[hi2,ho]
 simp only
 rw[qjB,hv,q7A _ _ (Nat.le_refl _),q7A _ _ (Nat.le_refl _),hb,hz]
theorem qGR {ids:List (Option Nat)}{x id esz:Nat}{s:St}{es es':List D}(hid:q28 (look s.tmps s.heap x)=some id)(hh:s.heap id=some (.row es esz))(hb:es.all (okD 0 ids)=false)(hm:es.mapM (qAL s.heap depth)=some es'):
 q4x 0 ids x s=some ⟨s.tmps,upd s.heap id (some (.row es' esz)),q8k s.heap s.frz (es.flatMap (q0P s.heap depth)),s.next⟩:=by
 unfold q4x
 rw[hid]
 simp only
 rw[hh]
 simp only
 rw[hb,hm]
end
theorem plain6 {ids:List (Option Nat)}{a b c d e f:Nat}{s s2:St}(h1:q4x 0 ids a s=some s)(h2:q4x 0 ids b s=some s2)(h3:q4x 0 ids c s2=some s2)(h4:q4x 0 ids d s2=some s2)(h5:q4x 0 ids e s2=some s2)(h6:q4x 0 ids f s2=some s2):
 q3Y 0 ids [(a,0),(b,0),(c,0),(d,0),(e,0),(f,0)] s=some s2:=by
 simp only[q3Y,h1,h2,h3,h4,h5,h6]
theorem qFn:∀(l:List D) (i:Nat),nth l i=l.getD i .bad
 |[],_=>by simp[nth]
 |d::l,0=>rfl
 |d::l,i+1=>by rw[nth,qFn l i];rfl
theorem qFo {α:Type}{g:D→Option D}{f f':α→D}:∀{l:List α},(∀x∈l,g (f x)=some (f' x))→(l.map f).mapM g=some (l.map f')
 |[],_=>rfl
 |x::l,h=>by
  rw[List.map_cons,List.mapM_cons,h x (List.mem_cons_self ..),qFo fun y hy=>h y (List.mem_cons_of_mem _ hy)]
  rfl
end Go.F
