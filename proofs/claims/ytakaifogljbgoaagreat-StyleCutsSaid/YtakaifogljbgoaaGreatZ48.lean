/- Parts of the proof, part 48: Ply1, D64, D64b, D64c, Ply2, Gr2, Map1, St2, St3, St4, St5, Pl1, Alv, Lgt, Alv2, SLay, Nst, RG1, RG2, Ply3, RG3, RG4, SPl. -/
import Derived.Test.YtakaifogljbgoaaGreatZ47
import Derived.Test.YtakaifogljbgoaaGreatZ45
set_option linter.all false
namespace Go.F
attribute [local irreducible] IntKind.wrap wpM
theorem q9r {x S:Nat}(hY:x/2^S<256)(h0:S≠0→x/2^S≠0):S+(q2v (x/2^S)).toNat=bl x:=by
 obtain⟨_,g2,g3,g4⟩:=q2i (x/2^S) hY
 have hx:x<(x/2^S+1) *2^S:=by
  have:=Nat.div_add_mod x (2^S)
  have h2:=Nat.mod_lt x (Nat.pow_pos (n:=S) (show 0<2 by decide))
  rw[Nat.add_mul,Nat.mul_comm (x/2^S)];omega
 by_cases hy0:x/2^S=0
 ·have hS:S=0:=by
   rcases Nat.eq_zero_or_pos S with h|h
   ·exact h
   exact absurd hy0 (h0 (by omega))
  subst hS
  rw[Nat.pow_zero,Nat.div_one]at hy0
  subst hy0
  decide+kernel
 have hd:x/2^S*2^S≤x:=Nat.div_mul_le_self _ _
 have g4:=g4 hy0
 generalize (q2v (x/2^S)).toNat=e at*
 generalize x/2^S=Y at*
 have h1:x<2^(S+e):=by
  rw[Nat.pow_add]
  calc x<(Y+1) *2^S:=hx
   _≤2^e*2^S:=Nat.mul_le_mul_right _ g3
   _=2^S*2^e:=Nat.mul_comm _ _
 have h2:2^(S+e)≤2*x:=by
  rw[Nat.pow_add]
  calc 2^S*2^e≤2^S*(2*Y):=Nat.mul_le_mul_left _ g4
   _=2*(Y*2^S):=by ac_rfl
   _≤2*x:=Nat.mul_le_mul_left _ hd
 have hx0:x≠0:=by rintro rfl;have:=Nat.pow_pos (n:=S+e) (show 0<2 by decide);omega
 unfold bl
 rw[if_neg hx0]
 have a1:=(Nat.log2_lt hx0).2 h1
 have a2:S+e-1≤x.log2:=by
  rcases Nat.eq_zero_or_pos (S+e)with h|h
  ·omega
  refine(Nat.le_log2 hx0).2 ?_
  have:2^(S+e)=2*2^(S+e-1):=by rw[←Nat.pow_succ'];congr 1;omega
  omega
 omega
set_option maxHeartbeats 4000000 in
theorem qxm (x:Nat)(hx:x<18446744073709551616):PU qu1 [.int .u64 x]=some (.int .i64 (bl x)):=by
 refine q0g (fn:=qhr) rfl (q0a ?_)
 refine gg rfl (q01 rfl (fun g1=>?_) (fun g1=>?_))
 ·rw[q0E]at g1
  refine gg rfl (q19 x 32 rfl rfl rfl rfl (by decide) ?_)
  refine gg rfl (q01 rfl (fun g2=>?_) (fun g2=>?_))
  ·rw[q0E]at g2
   refine gg rfl (q19 ((x/2^32)) 16 rfl rfl rfl rfl (by decide) ?_)
   refine gg rfl (q01 rfl (fun g3=>?_) (fun g3=>?_))
   ·rw[q0E]at g3
    refine gg rfl (q19 (((x/2^32)/2^16)) 8 rfl rfl rfl rfl (by decide) ?_)
    have eY:(((x/2^32)/2^16)/2^8)=x/2^56:=by simp only[Nat.div_div_eq_div_mul];try rfl
    have hy:x/2^56<256:=by rw[←eY];omega
    have hfin:=q9r (x:=x) (S:=56) hy (fun h=>by rw[←eY];omega)
    rw[eY]
    obtain⟨_,g2,g3,g4⟩:=q2i (x/2^56) hy
    have w8:IntKind.u8.wrap ((x/2^56:Nat):Int)=((x/2^56:Nat):Int):=by simp only[IntKind.wrap,IntKind.bits,IntKind.signed];simp;omega
    have w9:=ww (x:=(((q2v (x/2^56)).toNat:Nat):Int))
    refine gg rfl (q2f (x/2^56) rfl rfl w8 (q5i hy) (gg rfl (q08 rfl rfl rfl trivial ?_)))
    rw[w9,←hfin]
    congr 1
    try simp only[wrap64 (x:=32+16) (by decide) (by decide),wrap64 (x:=32+8) (by decide) (by decide),wrap64 (x:=48+8) (by decide) (by decide),wrap64 (x:=0+16) (by decide) (by decide),wrap64 (x:=0+8) (by decide) (by decide),wrap64 (x:=16+8) (by decide) (by decide),wrap64 (x:=32+16+8) (by decide) (by decide),wrap64 (x:=0+16+8) (by decide) (by decide)]
    rw[wrap64 (by omega) (by omega)]
    omega
   rw[q0F]at g3
   have eY:(((x/2^32)/2^16))=x/2^48:=by simp only[Nat.div_div_eq_div_mul];try rfl
   have hy:x/2^48<256:=by rw[←eY];omega
   have hfin:=q9r (x:=x) (S:=48) hy (fun h=>by rw[←eY];omega)
   rw[eY]
   obtain⟨_,g2,g3,g4⟩:=q2i (x/2^48) hy
   have w8:IntKind.u8.wrap ((x/2^48:Nat):Int)=((x/2^48:Nat):Int):=by simp only[IntKind.wrap,IntKind.bits,IntKind.signed];simp;omega
   have w9:=ww (x:=(((q2v (x/2^48)).toNat:Nat):Int))
   refine gg rfl (q2f (x/2^48) rfl rfl w8 (q5i hy) (gg rfl (q08 rfl rfl rfl trivial ?_)))
   rw[w9,←hfin]
   congr 1
   try simp only[wrap64 (x:=32+16) (by decide) (by decide),wrap64 (x:=32+8) (by decide) (by decide),wrap64 (x:=48+8) (by decide) (by decide),wrap64 (x:=0+16) (by decide) (by decide),wrap64 (x:=0+8) (by decide) (by decide),wrap64 (x:=16+8) (by decide) (by decide),wrap64 (x:=32+16+8) (by decide) (by decide),wrap64 (x:=0+16+8) (by decide) (by decide)]
   rw[wrap64 (by omega) (by omega)]
   omega
  rw[q0F]at g2
  refine gg rfl (q01 rfl (fun g3=>?_) (fun g3=>?_))
  ·rw[q0E]at g3
   refine gg rfl (q19 (((x/2^32))) 8 rfl rfl rfl rfl (by decide) ?_)
   have eY:(((x/2^32))/2^8)=x/2^40:=by simp only[Nat.div_div_eq_div_mul];try rfl
   have hy:x/2^40<256:=by rw[←eY];omega
   have hfin:=q9r (x:=x) (S:=40) hy (fun h=>by rw[←eY];omega)
   rw[eY]
   obtain⟨_,g2,g3,g4⟩:=q2i (x/2^40) hy
   have w8:IntKind.u8.wrap ((x/2^40:Nat):Int)=((x/2^40:Nat):Int):=by simp only[IntKind.wrap,IntKind.bits,IntKind.signed];simp;omega
   have w9:=ww (x:=(((q2v (x/2^40)).toNat:Nat):Int))
   refine gg rfl (q2f (x/2^40) rfl rfl w8 (q5i hy) (gg rfl (q08 rfl rfl rfl trivial ?_)))
   rw[w9,←hfin]
   congr 1
   try simp only[wrap64 (x:=32+16) (by decide) (by decide),wrap64 (x:=32+8) (by decide) (by decide),wrap64 (x:=48+8) (by decide) (by decide),wrap64 (x:=0+16) (by decide) (by decide),wrap64 (x:=0+8) (by decide) (by decide),wrap64 (x:=16+8) (by decide) (by decide),wrap64 (x:=32+16+8) (by decide) (by decide),wrap64 (x:=0+16+8) (by decide) (by decide)]
   rw[wrap64 (by omega) (by omega)]
   omega
  rw[q0F]at g3
  have eY:(((x/2^32)))=x/2^32:=by simp only[Nat.div_div_eq_div_mul];try rfl
  have hy:x/2^32<256:=by rw[←eY];omega
  have hfin:=q9r (x:=x) (S:=32) hy (fun h=>by rw[←eY];omega)
  rw[eY]
  obtain⟨_,g2,g3,g4⟩:=q2i (x/2^32) hy
  have w8:IntKind.u8.wrap ((x/2^32:Nat):Int)=((x/2^32:Nat):Int):=by simp only[IntKind.wrap,IntKind.bits,IntKind.signed];simp;omega
  have w9:=ww (x:=(((q2v (x/2^32)).toNat:Nat):Int))
  refine gg rfl (q2f (x/2^32) rfl rfl w8 (q5i hy) (gg rfl (q08 rfl rfl rfl trivial ?_)))
  rw[w9,←hfin]
  congr 1
  try simp only[wrap64 (x:=32+16) (by decide) (by decide),wrap64 (x:=32+8) (by decide) (by decide),wrap64 (x:=48+8) (by decide) (by decide),wrap64 (x:=0+16) (by decide) (by decide),wrap64 (x:=0+8) (by decide) (by decide),wrap64 (x:=16+8) (by decide) (by decide),wrap64 (x:=32+16+8) (by decide) (by decide),wrap64 (x:=0+16+8) (by decide) (by decide)]
  rw[wrap64 (by omega) (by omega)]
  omega
 rw[q0F]at g1
 refine gg rfl (q01 rfl (fun g2=>?_) (fun g2=>?_))
 ·rw[q0E]at g2
  refine gg rfl (q19 (x) 16 rfl rfl rfl rfl (by decide) ?_)
  refine gg rfl (q01 rfl (fun g3=>?_) (fun g3=>?_))
  ·rw[q0E]at g3
   refine gg rfl (q19 ((x/2^16)) 8 rfl rfl rfl rfl (by decide) ?_)
   have eY:((x/2^16)/2^8)=x/2^24:=by simp only[Nat.div_div_eq_div_mul];try rfl
   have hy:x/2^24<256:=by rw[←eY];omega
   have hfin:=q9r (x:=x) (S:=24) hy (fun h=>by rw[←eY];omega)
   rw[eY]
   obtain⟨_,g2,g3,g4⟩:=q2i (x/2^24) hy
   have w8:IntKind.u8.wrap ((x/2^24:Nat):Int)=((x/2^24:Nat):Int):=by simp only[IntKind.wrap,IntKind.bits,IntKind.signed];simp;omega
   have w9:=ww (x:=(((q2v (x/2^24)).toNat:Nat):Int))
   refine gg rfl (q2f (x/2^24) rfl rfl w8 (q5i hy) (gg rfl (q08 rfl rfl rfl trivial ?_)))
   rw[w9,←hfin]
   congr 1
   try simp only[wrap64 (x:=32+16) (by decide) (by decide),wrap64 (x:=32+8) (by decide) (by decide),wrap64 (x:=48+8) (by decide) (by decide),wrap64 (x:=0+16) (by decide) (by decide),wrap64 (x:=0+8) (by decide) (by decide),wrap64 (x:=16+8) (by decide) (by decide),wrap64 (x:=32+16+8) (by decide) (by decide),wrap64 (x:=0+16+8) (by decide) (by decide)]
   rw[wrap64 (by omega) (by omega)]
   omega
  rw[q0F]at g3
  have eY:((x/2^16))=x/2^16:=by simp only[Nat.div_div_eq_div_mul];try rfl
  have hy:x/2^16<256:=by rw[←eY];omega
  have hfin:=q9r (x:=x) (S:=16) hy (fun h=>by rw[←eY];omega)
  rw[eY]
  obtain⟨_,g2,g3,g4⟩:=q2i (x/2^16) hy
  have w8:IntKind.u8.wrap ((x/2^16:Nat):Int)=((x/2^16:Nat):Int):=by simp only[IntKind.wrap,IntKind.bits,IntKind.signed];simp;omega
  have w9:=ww (x:=(((q2v (x/2^16)).toNat:Nat):Int))
  refine gg rfl (q2f (x/2^16) rfl rfl w8 (q5i hy) (gg rfl (q08 rfl rfl rfl trivial ?_)))
  rw[w9,←hfin]
  congr 1
  try simp only[wrap64 (x:=32+16) (by decide) (by decide),wrap64 (x:=32+8) (by decide) (by decide),wrap64 (x:=48+8) (by decide) (by decide),wrap64 (x:=0+16) (by decide) (by decide),wrap64 (x:=0+8) (by decide) (by decide),wrap64 (x:=16+8) (by decide) (by decide),wrap64 (x:=32+16+8) (by decide) (by decide),wrap64 (x:=0+16+8) (by decide) (by decide)]
  rw[wrap64 (by omega) (by omega)]
  omega
 rw[q0F]at g2
 refine gg rfl (q01 rfl (fun g3=>?_) (fun g3=>?_))
 ·rw[q0E]at g3
  refine gg rfl (q19 ((x)) 8 rfl rfl rfl rfl (by decide) ?_)
  have eY:((x)/2^8)=x/2^8:=by simp only[Nat.div_div_eq_div_mul];try rfl
  have hy:x/2^8<256:=by rw[←eY];omega
  have hfin:=q9r (x:=x) (S:=8) hy (fun h=>by rw[←eY];omega)
  rw[eY]
  obtain⟨_,g2,g3,g4⟩:=q2i (x/2^8) hy
  have w8:IntKind.u8.wrap ((x/2^8:Nat):Int)=((x/2^8:Nat):Int):=by simp only[IntKind.wrap,IntKind.bits,IntKind.signed];simp;omega
  have w9:=ww (x:=(((q2v (x/2^8)).toNat:Nat):Int))
  refine gg rfl (q2f (x/2^8) rfl rfl w8 (q5i hy) (gg rfl (q08 rfl rfl rfl trivial ?_)))
  rw[w9,←hfin]
  congr 1
  try simp only[wrap64 (x:=32+16) (by decide) (by decide),wrap64 (x:=32+8) (by decide) (by decide),wrap64 (x:=48+8) (by decide) (by decide),wrap64 (x:=0+16) (by decide) (by decide),wrap64 (x:=0+8) (by decide) (by decide),wrap64 (x:=16+8) (by decide) (by decide),wrap64 (x:=32+16+8) (by decide) (by decide),wrap64 (x:=0+16+8) (by decide) (by decide)]
  rw[wrap64 (by omega) (by omega)]
  omega
 rw[q0F]at g3
 have hy:x<256:=by omega
 have hfin:=q9r (x:=x) (S:=0) (by simpa using hy) (fun h=>absurd rfl h)
 rw[Nat.pow_zero,Nat.div_one,Nat.zero_add]at hfin
 obtain⟨_,g2,g3,g4⟩:=q2i x hy
 have w8:IntKind.u8.wrap (x:Int)=(x:Int):=by simp only[IntKind.wrap,IntKind.bits,IntKind.signed];simp;omega
 have w9:=ww (x:=(((q2v x).toNat:Nat):Int))
 refine gg rfl (q2f x rfl rfl w8 (q5i hy) (gg rfl (q08 rfl rfl rfl trivial ?_)))
 rw[w9,←hfin,wrap64 (by omega) (by omega)]
 congr 1
 omega
theorem qxn (x:Nat)(hx:x<18446744073709551616):PU qze [.int .u64 x]=some (.int .i64 (bl x)):=by
 refine q0g (fn:=qnv) rfl (q0a ?_)
 exact gg rfl (q0j rfl (gg rfl (q02 rfl rfl (qxm x hx) (gg rfl (q08 rfl rfl rfl trivial rfl)))))
def qpG (n:Nat):Nat:=qmc n 32 0
theorem qjD {n:Nat}(h:n<2^64):qpG n*qpG n≤n∧n<(qpG n+1) *(qpG n+1):=
 qrD n 32 0 (Nat.zero_le _) (by simp;omega)
theorem qxo {n r:Nat}(h:n<2^64)(h1:r*r≤n)(h2:n<(r+1) *(r+1)):r=qpG n:=by
 obtain⟨g1,g2⟩:=qjD h
 have:=qgI (Nat.lt_of_le_of_lt h1 g2)
 have:=qgI (Nat.lt_of_le_of_lt g1 h2)
 omega
theorem newton {n x:Nat}(hx:0<x):n<((x+n/x)/2+1) *((x+n/x)/2+1):=by
 have h1:n<x*(n/x+1):=by
  have:=Nat.div_add_mod n x
  have h2:=Nat.mod_lt n hx
  rw[Nat.mul_add];omega
 generalize n/x=q at*
 have h2:x+(q+1)≤2*((x+q)/2+1):=by omega
 generalize (x+q)/2+1=s at*
 have h3:4*(x*(q+1))≤(x+(q+1)) *(x+(q+1)):=by
  generalize q+1=r
  rcases Nat.le_total x r with h|h
  ·obtain⟨d,rfl⟩:∃d,r=x+d:=⟨r-x,by omega⟩
   have:(x+(x+d)) *(x+(x+d))=4*(x*(x+d))+d*d:=by grind
   omega
  obtain⟨d,rfl⟩:∃d,x=r+d:=⟨x-r,by omega⟩
  have:(r+d+r) *(r+d+r)=4*((r+d) *r)+d*d:=by grind
  omega
 have h4:(x+(q+1)) *(x+(q+1))≤(2*s) *(2*s):=Nat.mul_le_mul h2 h2
 have h5:(2*s) *(2*s)=4*(s*s):=by grind
 omega
theorem qjE (n:Nat)(hn:n<9223372036854775808):PU qmu [.int .i64 n]=some (.int .i64 (qpG n)):=by
 refine q0g (fn:=qc1) rfl (q0a ?_)
 refine gg rfl (q01 rfl (fun h1=>?_) (fun h1=>?_))
 ·rw[q06]at h1
  refine gg rfl (q08 rfl rfl rfl trivial ?_)
  have:n=0∨n=1:=by omega
  rcases this with rfl|rfl<;>rfl
 rw[q07]at h1
 have wu:IntKind.u64.wrap (n:Int)=(n:Int):=q0C (by omega)
 have hbl:bl n≤63:=by
  unfold bl
  rw[if_neg (by omega)]
  have:=(Nat.log2_lt (n:=n) (k:=63) (by omega)).2 (by omega)
  omega
 have hblt:n<2^bl n:=by
  unfold bl
  rw[if_neg (by omega)]
  exact(Nat.log2_lt (by omega)).1 (Nat.lt_succ_self _)
 have w1:IntKind.i64.wrap ((bl n:Int)+1)=((bl n+1:Nat):Int):=ww
 refine gg rfl ?_
 rw[wu]
 refine q02 rfl rfl (qxn n (by omega)) ?_
 refine gg rfl ?_
 rw[w1]
 refine q2Z (bl n+1) 2 rfl rfl rfl rfl (by decide) (wrap64 (by omega) (by omega)) ?_
 refine gg rfl ?_
 have hk:(bl n+1)/2≤32:=by omega
 have hp:2^((bl n+1)/2)≤4294967296:=by
  have:=Nat.pow_le_pow_right (show 0<2 by decide) hk
  omega
 have hp0:0<2^((bl n+1)/2):=Nat.pow_pos (by decide)
 have hsq:n<(2^((bl n+1)/2)+1) *(2^((bl n+1)/2)+1):=by
  have e:2^bl n≤2^((bl n+1)/2) *2^((bl n+1)/2):=by rw[←Nat.pow_add];exact Nat.pow_le_pow_right (by decide) (by omega)
  have e2:2^((bl n+1)/2) *2^((bl n+1)/2)≤(2^((bl n+1)/2)+1) *(2^((bl n+1)/2)+1):=Nat.mul_le_mul (by omega) (by omega)
  omega
 generalize hX:2^((bl n+1)/2)=X at*
 refine q6w 1 ((bl n+1)/2) rfl rfl rfl rfl (by show(bl n+1)/2≤64;omega) (by rw[hX,Nat.one_mul];exact wrap64 (by omega) (by omega)) ?_
 rw[hX,Nat.one_mul]
 refine gg rfl (q0l (S:=fun x:Nat=>([q00 n,q00 x],[none,none],[0,0])) (C:=fun x=>0<x∧x≤4294967296∧n<(x+1) *(x+1)) (m:=fun x=>x) X ⟨hp0,hp,hsq⟩ (by omega) ?_ ?_)
 ·exact q03 rfl trivial (by simp[q00])
 rintro x ⟨hx0,hx1,hx2⟩ N hN
 have hq:n/x≤n:=Nat.div_le_self _ _
 have w2:IntKind.i64.wrap ((x:Int)+((n/x:Nat):Int))=((x+n/x:Nat):Int):=by rw[←Int.natCast_add];exact qcJ (by
  have h2:n/x*x≤n:=Nat.div_mul_le_self _ _
  rcases Nat.lt_or_ge x 2 with h|h
  ·obtain rfl:x=1:=by omega
   simp at hx2;omega
  have:n/x*2≤n/x*x:=Nat.mul_le_mul_left _ h
  omega)
 have hne:=newton (n:=n) hx0
 refine gg rfl (q2Z n x rfl rfl rfl rfl (by omega) (qcJ (by omega)) ?_)
 refine gg rfl ?_
 rw[w2]
 refine q2Z (x+n/x) 2 rfl rfl rfl rfl (by decide) (qcJ (by omega)) ?_
 refine gg rfl (q01 rfl (fun g=>?_) (fun g=>?_))
 ·rw[q0E]at g
  have g':x≤(x+n/x)/2:=by omega
  have hxx:x*x≤n:=by
   have:x≤n/x:=by omega
   have h2:=Nat.div_mul_le_self n x
   have h3:=Nat.mul_le_mul_right x this
   omega
  refine gg rfl (q04 (gg rfl (q08 rfl rfl rfl trivial ?_)))
  rw[qxo (n:=n) (r:=x) (by omega) hxx hx2]
 rw[q0F]at g
 have g':(x+n/x)/2<x:=by omega
 have hy0:0<(x+n/x)/2:=by
  rcases Nat.lt_or_ge x 2 with h|h
  ·obtain rfl:x=1:=by omega
   rw[Nat.div_one]at g'⊢;omega
  clear hq w2 hne g g'
  generalize n/x=q
  omega
 exact gg rfl (q04 (hN ((x+n/x)/2) ⟨hy0,by omega,hne⟩ g' (q03 rfl trivial (by simp[q00]))))
theorem quw {a b:Spot}(ha:q0v a 1048576=true)(hb:q0v b 1048576=true):sqd a b≤8796093022208:=by
 rw[q1B]at ha hb
 have e:=q6f a b
 have b1:Bd (b.x-a.x) 2097152:=⟨by omega⟩
 have b2:Bd (b.y-a.y) 2097152:=⟨by omega⟩
 have hb:Bd ((b.x-a.x) *(b.x-a.x)+(b.y-a.y) *(b.y-a.y)) _:=inferInstance
 have:=hb.le
 omega
def qeZ (a b:Spot):Nat:=qpG (1000000*sqd a b)
theorem qux {a b:Spot}(ha:q0v a 1048576=true)(hb:q0v b 1048576=true):qeZ a b≤4294967296:=by
 have h:=quw ha hb
 obtain⟨h1,_⟩:=qjD (n:=1000000*sqd a b) (by omega)
 unfold qeZ
 have:qpG (1000000*sqd a b)<4294967296:=qgI (by omega)
 omega
theorem qf0 (a b:Spot)(ha:q0v a 1048576=true)(hb:q0v b 1048576=true):PU qgt [a.enc,b.enc]=some (.int .i64 (qeZ a b)):=by
 refine q0g (fn:=q8f) rfl (q0a ?_)
 have h:=quw ha hb
 have hse:=q6f a b
 rw[q1B]at ha hb
 have bx:Bd (b.x-a.x) 2097152:=⟨by omega⟩
 have by':Bd (b.y-a.y) 2097152:=⟨by omega⟩
 have c1:IntKind.i64.wrap (b.x-a.x)=b.x-a.x:=q0V (by decide)
 have c2:IntKind.i64.wrap (b.y-a.y)=b.y-a.y:=q0V (by decide)
 refine gg rfl ?_
 rw[c1,c2]
 have c4:IntKind.i64.wrap ((b.x-a.x) *(b.x-a.x))=(b.x-a.x) *(b.x-a.x):=q0V (by decide)
 have c5:IntKind.i64.wrap ((b.y-a.y) *(b.y-a.y))=(b.y-a.y) *(b.y-a.y):=q0V (by decide)
 have c6:IntKind.i64.wrap ((b.x-a.x) *(b.x-a.x)+(b.y-a.y) *(b.y-a.y))=(sqd a b:Int):=by rw[hse];exact q0V (by decide)
 have c7:IntKind.i64.wrap (1000000*(sqd a b:Int))=((1000000*sqd a b:Nat):Int):=by rw[wrap64 (by omega) (by omega)];omega
 rw[c4,c5,c6,c7]
 refine q02 rfl rfl (qjE (1000000*sqd a b) (by omega)) ?_
 exact gg rfl (q08 rfl rfl rfl trivial rfl)
end Go.F

namespace Go.F
structure Dg (U u a b:Nat):Prop where
 hu:u<4294967296
 a1:2147483648≤a
 a2:a<4294967296
 hb:b<4294967296
 lt:U<a*4294967296+b
def dgN (U u:Nat):Nat:=U*4294967296+u
def dgY (a b:Nat):Nat:=a*4294967296+b
theorem Dg.pos {U u a b:Nat}(h:Dg U u a b):0<dgY a b:=by have:=h.a1;unfold dgY;omega
theorem Dg.qlt {U u a b:Nat}(h:Dg U u a b):dgN U u/dgY a b<4294967296:=by
 rw[Nat.div_lt_iff_lt_mul h.pos]
 have h1:=h.lt
 have h2:=h.hu
 have:(U+1) *4294967296≤dgY a b*4294967296:=Nat.mul_le_mul_right _ h1
 unfold dgN;omega
theorem Dg.first {U u a b:Nat}(h:Dg U u a b):dgN U u/dgY a b≤U/a∧U/a≤4294967297:=by
 have h1:=h.a1
 constructor
 ·rw[Nat.le_div_iff_mul_le (by omega)]
  have hd:=Nat.div_mul_le_self (dgN U u) (dgY a b)
  generalize dgN U u/dgY a b=q at*
  unfold dgN dgY at hd
  have e:q*(a*4294967296+b)=q*a*4294967296+q*b:=by rw[Nat.mul_add,Nat.mul_assoc]
  rw[e]at hd
  have:=h.hu
  omega
 have h2:=h.lt
 have h3:=h.hb
 have:U<4294967298*a:=by omega
 have:=(Nat.div_lt_iff_lt_mul (show 0<a by omega)).2 this
 omega
structure DgI (U u a b q r:Nat):Prop where
 eq:q*a+r=U
 le:dgN U u/dgY a b≤q
 hq:q≤4294967297
theorem Dg.start {U u a b:Nat}(h:Dg U u a b):DgI U u a b (U/a) (U%a):=by
 have:=Nat.div_add_mod U a
 exact⟨by rw[Nat.mul_comm];exact this,h.first.1,h.first.2⟩
theorem qEr (q a b:Nat):q*dgY a b=q*a*4294967296+q*b:=by unfold dgY;rw[Nat.mul_add,Nat.mul_assoc]
theorem qEs {q a r U:Nat}(h:q*a+r=U)(u:Nat):dgN U u=q*a*4294967296+r*4294967296+u:=by
 unfold dgN;rw[←h,Nat.add_mul]
theorem Dg.step {U u a b q r:Nat}(h:Dg U u a b)(hi:DgI U u a b q r)(hc:4294967296≤q∨r*4294967296+u<q*b):1≤q∧DgI U u a b (q-1) (r+a)∧q-1≤4294967296:=by
 have hlt:dgN U u/dgY a b<q:=by
  rcases hc with hc|hc
  ·exact Nat.lt_of_lt_of_le h.qlt hc
  rw[Nat.div_lt_iff_lt_mul h.pos,qEr,qEs hi.eq,Nat.add_assoc]
  exact Nat.add_lt_add_left hc _
 have h1:=hi.eq
 have h2:=hi.hq
 have h3:1≤q:=Nat.lt_of_le_of_lt (Nat.zero_le _) hlt
 refine⟨h3,⟨?_,Nat.le_pred_of_lt hlt,by omega⟩,by omega⟩
 obtain⟨p,rfl⟩:∃p,q=p+1:=⟨q-1,by omega⟩
 rw[Nat.succ_mul]at h1
 rw[Nat.add_sub_cancel]
 omega
theorem Dg.fin {U u a b q r:Nat}(h:Dg U u a b)(hi:DgI U u a b q r)(hc:q*b≤r*4294967296+u):q=dgN U u/dgY a b:=by
 refine Nat.le_antisymm ?_ hi.le
 rw[Nat.le_div_iff_mul_le h.pos,qEr,qEs hi.eq,Nat.add_assoc]
 exact Nat.add_le_add_left hc _
theorem Dg.stop {U u a b q r:Nat}(h:Dg U u a b)(hi:DgI U u a b q r)(hq:q≤4294967296)(hr:4294967296≤r):q=dgN U u/dgY a b:=by
 refine h.fin hi ?_
 have h1:=h.hb
 have h2:q*b≤4294967296*4294967295:=Nat.mul_le_mul hq (Nat.le_of_lt_succ h1)
 have h3:4294967296*4294967296≤r*4294967296:=Nat.mul_le_mul_right _ hr
 exact Nat.le_trans h2 (Nat.le_trans (Nat.mul_le_mul_left _ (Nat.le_succ _)) (Nat.le_trans h3 (Nat.le_add_right _ _)))
theorem qyK (N u0 y L:Nat)(hy:0<y):N/y*L+(N%y*L+u0)/y=(N*L+u0)/y∧(N%y*L+u0)%y=(N*L+u0)%y:=by
 have e:N*L+u0=(N%y*L+u0)+y*(N/y*L):=by
  have h1:=Nat.div_add_mod N y
  have h2:N*L=y*(N/y*L)+N%y*L:=by
   conv=>lhs;rw[←h1]
   rw[Nat.add_mul,Nat.mul_assoc]
  omega
 constructor
 ·rw[e,Nat.add_mul_div_left _ _ hy,Nat.add_comm]
 rw[e,Nat.add_mul_mod_self_left]
theorem qGD (m y s:Nat)(hy:0<y):(m*2^s)/(y*2^s)=m/y∧(m*2^s)%(y*2^s)/2^s=m%y:=by
 have hp:0<2^s:=Nat.pow_pos (by decide)
 constructor
 ·exact Nat.mul_div_mul_right m y hp
 rw[Nat.mul_mod_mul_right,Nat.mul_div_cancel _ hp]
end Go.F

namespace Go.F
attribute [local irreducible] IntKind.wrap wpM
theorem qvS (x:Nat)(hx:x<18446744073709551616):IntKind.u64.wrap ((BitVec.ofInt IntKind.u64.bits (x:Int)&&&BitVec.ofInt IntKind.u64.bits 4294967295).toNat:Int)=((x%4294967296:Nat):Int):=by
 have e:IntKind.u64.bits=64:=rfl
 have h3:(BitVec.ofInt 64 4294967295).toNat=2^32-1:=by decide
 rw[e,BitVec.toNat_and,h3,Nat.and_two_pow_sub_one_eq_mod,BitVec.toNat_ofInt]
 have hq:(((x:Int)%((2^64:Nat):Int)).toNat%2^32:Nat)=x%4294967296:=by omega
 rw[hq,q0C (by omega)]
theorem or64 (a b:Nat)(s:Nat)(hb:b<2^s)(hs:2^s*a+b<18446744073709551616):IntKind.u64.wrap ((BitVec.ofInt IntKind.u64.bits ((2^s*a:Nat):Int) |||BitVec.ofInt IntKind.u64.bits (b:Int)).toNat:Int)=((2^s*a+b:Nat):Int):=by
 have e:IntKind.u64.bits=64:=rfl
 have f:∀n:Nat,n<18446744073709551616→(BitVec.ofInt 64 (n:Int)).toNat=n:=by
  intro n hn
  rw[BitVec.toNat_ofInt]
  omega
 rw[e,BitVec.toNat_or,f _ (by omega),f _ (by omega),←Nat.two_pow_add_eq_or_of_lt hb,q0C hs]
def w32 (x:Nat):Nat:=x%4294967296
def h32 (x:Nat):Nat:=x/2^32
theorem qmS (x:Nat):x=h32 x*4294967296+w32 x:=by unfold h32 w32;omega
theorem qBX (x1 x0 y1 y0:Nat)(hx:x0<4294967296)(hy:y0<4294967296):
 x1*y1+h32 (x1*y0+h32 (x0*y0))+h32 (w32 (x1*y0+h32 (x0*y0))+x0*y1)=(x1*4294967296+x0) *(y1*4294967296+y0)/18446744073709551616:=by
 have e:(x1*4294967296+x0) *(y1*4294967296+y0)=x1*y1*18446744073709551616+(x1*y0+x0*y1) *4294967296+x0*y0:=by grind
 rw[e]
 generalize x1*y1=p
 generalize x1*y0=q
 generalize x0*y1=r
 generalize x0*y0=s
 unfold h32 w32
 omega
theorem q5D {a b:Nat}(ha:a<4294967296)(hb:b<4294967296):a*b≤18446744065119617025:=
 Nat.le_trans (Nat.mul_le_mul (Nat.le_of_lt_succ ha) (Nat.le_of_lt_succ hb)) (by decide)
theorem qgd {x:Nat}(h:x<18446744073709551616):h32 x<4294967296:=by unfold h32;omega
theorem qol (x:Nat):w32 x<4294967296:=by unfold w32;omega
set_option maxHeartbeats 1000000 in
theorem qEt (x y:Nat)(hx:x<18446744073709551616)(hy:y<18446744073709551616):PU qtV [.int .u64 x,.int .u64 y]=some (.tup [.int .u64 ((x*y/18446744073709551616:Nat):Int),.int .u64 ((x*y%18446744073709551616:Nat):Int)]):=by
 have x1:=qgd hx
 have y1:=qgd hy
 have x0:=qol x
 have y0:=qol y
 have b00:=q5D x0 y0
 have b10:=q5D x1 y0
 have b01:=q5D x0 y1
 have b11:=q5D x1 y1
 have hm:=qBX (h32 x) (w32 x) (h32 y) (w32 y) x0 y0
 rw[←qmS,←qmS]at hm
 have hxy:x*y/18446744073709551616<18446744073709551616:=by
  rw[Nat.div_lt_iff_lt_mul (by decide)]
  exact Nat.mul_lt_mul_of_lt_of_le hx (Nat.le_of_lt hy) (by omega)
 have a1:=qvS x hx
 have a2:=qvS y hy
 have c1:IntKind.u64.wrap (((w32 x:Nat):Int) *((w32 y:Nat):Int))=((w32 x*w32 y:Nat):Int):=by rw[←Int.natCast_mul];exact q0C (by omega)
 have c2:IntKind.u64.wrap (((h32 x:Nat):Int) *((w32 y:Nat):Int))=((h32 x*w32 y:Nat):Int):=by rw[←Int.natCast_mul];exact q0C (by omega)
 have c3:IntKind.u64.wrap (((w32 x:Nat):Int) *((h32 y:Nat):Int))=((w32 x*h32 y:Nat):Int):=by rw[←Int.natCast_mul];exact q0C (by omega)
 have c4:IntKind.u64.wrap (((h32 x:Nat):Int) *((h32 y:Nat):Int))=((h32 x*h32 y:Nat):Int):=by rw[←Int.natCast_mul];exact q0C (by omega)
 have g0:h32 (w32 x*w32 y)<4294967296:=qgd (by omega)
 have c5:IntKind.u64.wrap (((h32 x*w32 y:Nat):Int)+((h32 (w32 x*w32 y):Nat):Int))=((h32 x*w32 y+h32 (w32 x*w32 y):Nat):Int):=by rw[←Int.natCast_add];exact q0C (by omega)
 have a3:=qvS (h32 x*w32 y+h32 (w32 x*w32 y)) (by omega)
 have g1:=qol (h32 x*w32 y+h32 (w32 x*w32 y))
 have g2:=qgd (x:=h32 x*w32 y+h32 (w32 x*w32 y)) (by omega)
 have c6:IntKind.u64.wrap (((w32 (h32 x*w32 y+h32 (w32 x*w32 y)):Nat):Int)+((w32 x*h32 y:Nat):Int))=((w32 (h32 x*w32 y+h32 (w32 x*w32 y))+w32 x*h32 y:Nat):Int):=by rw[←Int.natCast_add];exact q0C (by omega)
 have g3:=qgd (x:=w32 (h32 x*w32 y+h32 (w32 x*w32 y))+w32 x*h32 y) (by omega)
 have c7:IntKind.u64.wrap (((h32 x*h32 y:Nat):Int)+((h32 (h32 x*w32 y+h32 (w32 x*w32 y)):Nat):Int))=((h32 x*h32 y+h32 (h32 x*w32 y+h32 (w32 x*w32 y)):Nat):Int):=by rw[←Int.natCast_add];exact q0C (by omega)
 have c8:IntKind.u64.wrap (((h32 x*h32 y+h32 (h32 x*w32 y+h32 (w32 x*w32 y)):Nat):Int)+((h32 (w32 (h32 x*w32 y+h32 (w32 x*w32 y))+w32 x*h32 y):Nat):Int))=((x*y/18446744073709551616:Nat):Int):=by
  rw[←Int.natCast_add,hm];exact q0C hxy
 have c9:IntKind.u64.wrap ((x:Int) *(y:Int))=((x*y%18446744073709551616:Nat):Int):=by rw[q0U,←Int.natCast_mul];rfl
 refine q0g (fn:=qh0) rfl (q0a ?_)
 refine gg rfl ?_
 rw[a1]
 refine q19 x 32 rfl rfl rfl rfl (by decide) ?_
 refine gg rfl ?_
 rw[a2]
 refine q19 y 32 rfl rfl rfl rfl (by decide) ?_
 refine gg rfl ?_
 rw[show((x%4294967296:Nat):Int)=((w32 x:Nat):Int)from rfl,show((y%4294967296:Nat):Int)=((w32 y:Nat):Int)from rfl,show((x/2^32:Nat):Int)=((h32 x:Nat):Int)from rfl,show((y/2^32:Nat):Int)=((h32 y:Nat):Int)from rfl,c1,c2]
 refine q19 (w32 x*w32 y) 32 rfl rfl rfl rfl (by decide) ?_
 refine gg rfl ?_
 rw[show((w32 x*w32 y/2^32:Nat):Int)=((h32 (w32 x*w32 y):Nat):Int)from rfl,c5,a3]
 refine q19 (h32 x*w32 y+h32 (w32 x*w32 y)) 32 rfl rfl rfl rfl (by decide) ?_
 refine gg rfl ?_
 rw[show(((h32 x*w32 y+h32 (w32 x*w32 y))%4294967296:Nat):Int)=((w32 (h32 x*w32 y+h32 (w32 x*w32 y)):Nat):Int)from rfl,show(((h32 x*w32 y+h32 (w32 x*w32 y))/2^32:Nat):Int)=((h32 (h32 x*w32 y+h32 (w32 x*w32 y)):Nat):Int)from rfl,c3,c6,c4,c7]
 refine q19 (w32 (h32 x*w32 y+h32 (w32 x*w32 y))+w32 x*h32 y) 32 rfl rfl rfl rfl (by decide) ?_
 refine gg rfl ?_
 rw[show(((w32 (h32 x*w32 y+h32 (w32 x*w32 y))+w32 x*h32 y)/2^32:Nat):Int)=((h32 (w32 (h32 x*w32 y+h32 (w32 x*w32 y))+w32 x*h32 y):Nat):Int)from rfl,c8,c9]
 exact q08 rfl rfl rfl trivial rfl
theorem qhR (x:Nat)(hx:x<18446744073709551616):PU qcy [.int .u64 x]=some (.int .i64 ((64-bl x:Nat):Int)):=by
 have hb:bl x≤64:=by
  unfold bl
  split
  ·omega
  rename_i h
  have:=(Nat.log2_lt (n:=x) (k:=64) h).2 (by omega)
  omega
 refine q0g (fn:=q69) rfl (q0a ?_)
 refine gg rfl (q02 rfl rfl (qxm x hx) (gg rfl ?_))
 have w:IntKind.i64.wrap (64-(bl x:Int))=((64-bl x:Nat):Int):=by rw[wrap64 (by omega) (by omega)];omega
 rw[w]
 exact q08 rfl rfl rfl trivial rfl
end Go.F

namespace Go.F
attribute [local irreducible] IntKind.wrap wpM
theorem or64' (a b:Nat)(s:Nat)(hb:b<2^s)(hs:a*2^s+b<18446744073709551616):IntKind.u64.wrap ((BitVec.ofInt IntKind.u64.bits ((a*2^s:Nat):Int) |||BitVec.ofInt IntKind.u64.bits (b:Int)).toNat:Int)=((a*2^s+b:Nat):Int):=by
 rw[Nat.mul_comm]at hs⊢
 exact or64 a b s hb hs
structure Nrm (hi lo y s:Nat):Prop where
 s63:s≤63
 y2:y*2^s<18446744073709551616
 y1:9223372036854775808≤y*2^s
 l:lo/2^(64-s)<2^s
 u:hi*2^s+lo/2^(64-s)<y*2^s
 h:hi*2^s<18446744073709551616
 e:(hi*2^s+lo/2^(64-s)) *18446744073709551616+lo*2^s%18446744073709551616=(hi*18446744073709551616+lo) *2^s
theorem nrm_of {hi lo y:Nat}(hh:hi<y)(hy:y<18446744073709551616)(hl:lo<18446744073709551616):Nrm hi lo y (64-bl y):=by
 have hy0:y≠0:=by omega
 have hb:bl y=y.log2+1:=by unfold bl;rw[if_neg hy0]
 have hlg:y.log2<64:=(Nat.log2_lt hy0).2 (by omega)
 have h1:2^y.log2≤y:=(Nat.le_log2 hy0).1 (Nat.le_refl _)
 have h2:y<2^(y.log2+1):=(Nat.log2_lt hy0).1 (Nat.lt_succ_self _)
 generalize hs:64-bl y=s
 have es:y.log2+1+s=64:=by omega
 have hP:0<2^s:=Nat.pow_pos (by decide)
 have hPQ:2^(64-s) *2^s=18446744073709551616:=by
  rw[←Nat.pow_add,show 64-s+s=64 by omega]
 have e1:2^(y.log2+1) *2^s=18446744073709551616:=by rw[←Nat.pow_add,es]
 have e2:2^y.log2*2^s*2=18446744073709551616:=by
  rw[Nat.pow_succ]at e1
  rw[←e1];ac_rfl
 have f1:y*2^s<18446744073709551616:=by rw[←e1];exact Nat.mul_lt_mul_of_pos_right h2 hP
 have f2:9223372036854775808≤y*2^s:=by
  have:=Nat.mul_le_mul_right (2^s) h1
  omega
 have hQ:0<2^(64-s):=Nat.pow_pos (by decide)
 have f3:lo/2^(64-s)<2^s:=by
  rw[Nat.div_lt_iff_lt_mul hQ,Nat.mul_comm,hPQ];exact hl
 have fd:lo*2^s/18446744073709551616=lo/2^(64-s):=by
  rw[←hPQ,Nat.mul_div_mul_right _ _ hP]
 have fe:(hi*2^s+lo/2^(64-s)) *18446744073709551616+lo*2^s%18446744073709551616=(hi*18446744073709551616+lo) *2^s:=by
  have hdm:=Nat.div_add_mod (lo*2^s) 18446744073709551616
  rw[fd]at hdm
  have g:(hi*18446744073709551616+lo) *2^s=hi*2^s*18446744073709551616+lo*2^s:=by
   rw[Nat.add_mul];congr 1;ac_rfl
  rw[g,Nat.add_mul]
  omega
 have fh:hi*2^s<18446744073709551616:=Nat.lt_of_le_of_lt (Nat.mul_le_mul_right _ (Nat.le_of_lt hh)) f1
 refine⟨by omega,f1,f2,f3,?_,fh,fe⟩
 have hle:(hi+1) *2^s≤y*2^s:=Nat.mul_le_mul_right _ hh
 rw[Nat.add_mul,Nat.one_mul]at hle
 omega
theorem qqC {x y:Nat}(h:y≤x)(hx:x<18446744073709551616):IntKind.u64.wrap ((x:Int)-(y:Int))=((x-y:Nat):Int):=by
 rw[q0U];omega
theorem qcw {x y:Nat}(h:x+y<18446744073709551616):IntKind.u64.wrap ((x:Int)+(y:Int))=((x+y:Nat):Int):=by
 rw[←Int.natCast_add];exact q0C h
theorem qb9 {x y:Nat}(h:x*y<18446744073709551616):IntKind.u64.wrap ((x:Int) *(y:Int))=((x*y:Nat):Int):=by
 rw[←Int.natCast_mul];exact q0C h
theorem qmj {U u q y:Nat}(hq:q=dgN U u/y)(hy0:0<y)(hy:y<18446744073709551616):
 IntKind.u64.wrap (IntKind.u64.wrap (IntKind.u64.wrap ((U:Int) *4294967296)+(u:Int))-IntKind.u64.wrap ((q:Int) *(y:Int)))=((dgN U u%y:Nat):Int):=by
 have h1:=Nat.div_add_mod (dgN U u) y
 have h2:=Nat.mod_lt (dgN U u) hy0
 rw[←hq,Nat.mul_comm]at h1
 have h3:((dgN U u:Nat):Int)=(U:Int) *4294967296+u:=by unfold dgN;simp
 have h4:((q*y:Nat):Int)+((dgN U u%y:Nat):Int)=(U:Int) *4294967296+u:=by rw[←h3,←Int.natCast_add,h1]
 rw[Int.natCast_mul]at h4
 simp only[q0U]
 have hR:(0:Int)≤((dgN U u%y:Nat):Int)∧((dgN U u%y:Nat):Int)<18446744073709551616:=by omega
 generalize ((dgN U u%y:Nat):Int)=R at*
 generalize (U:Int) *4294967296=A at*
 generalize (q:Int) *(y:Int)=B at*
 omega
structure Dv64 (hi lo y s a b U u1 u0:Nat):Prop where
 n:Nrm hi lo y s
 hy:y*2^s=dgY a b
 a1:2147483648≤a
 a2:a<4294967296
 b2:b<4294967296
 hu1:u1<4294967296
 hu0:u0<4294967296
 lt:U<dgY a b
 y0:0<y
 e:dgN U u1*4294967296+u0=(hi*18446744073709551616+lo) *2^s
theorem Dv64.d1 {hi lo y s a b U u1 u0:Nat}(h:Dv64 hi lo y s a b U u1 u0):Dg U u1 a b:=⟨h.hu1,h.a1,h.a2,h.b2,h.lt⟩
theorem Dv64.d0 {hi lo y s a b U u1 u0:Nat}(h:Dv64 hi lo y s a b U u1 u0):Dg (dgN U u1%dgY a b) u0 a b:=⟨h.hu0,h.a1,h.a2,h.b2,Nat.mod_lt _ h.d1.pos⟩
theorem Dv64.y64 {hi lo y s a b U u1 u0:Nat}(h:Dv64 hi lo y s a b U u1 u0):dgY a b<18446744073709551616:=by rw[←h.hy];exact h.n.y2
theorem Dv64.quo {hi lo y s a b U u1 u0:Nat}(h:Dv64 hi lo y s a b U u1 u0):
 dgN U u1/dgY a b*4294967296+dgN (dgN U u1%dgY a b) u0/dgY a b=(hi*18446744073709551616+lo)/y∧dgN (dgN U u1%dgY a b) u0%dgY a b/2^s=(hi*18446744073709551616+lo)%y:=by
 obtain⟨t1,t2⟩:=qyK (dgN U u1) u0 (dgY a b) 4294967296 h.d1.pos
 obtain⟨s1,s2⟩:=qGD (hi*18446744073709551616+lo) y s h.y0
 constructor
 ·rw[←s1,←h.e,h.hy,←t1];rfl
 rw[←s2,←h.e,h.hy,←t2];rfl
theorem dvd_of {hi lo y:Nat}(hh:hi<y)(hy:y<18446744073709551616)(hl:lo<18446744073709551616):
 Dv64 hi lo y (64-bl y) (h32 (y*2^(64-bl y))) (w32 (y*2^(64-bl y))) (hi*2^(64-bl y)+lo/2^(64-(64-bl y))) (h32 (lo*2^(64-bl y)%18446744073709551616)) (w32 (lo*2^(64-bl y)%18446744073709551616)):=by
 have n:=nrm_of hh hy hl
 generalize 64-bl y=s at*
 have hY:y*2^s=dgY (h32 (y*2^s)) (w32 (y*2^s)):=qmS _
 have hL:=qmS (lo*2^s%18446744073709551616)
 have hlt:lo*2^s%18446744073709551616<18446744073709551616:=Nat.mod_lt _ (by decide)
 refine⟨n,hY,?_,qgd n.y2,qol _,qgd hlt,qol _,by rw[←hY];exact n.u,by omega,?_⟩
 ·have:=n.y1
  generalize y*2^s=Y at*
  unfold h32;omega
 have e:=n.e
 generalize hi*2^s+lo/2^(64-s)=U at*
 generalize lo*2^s%18446744073709551616=L at*
 have hB:4294967296*4294967296=18446744073709551616:=by decide
 rw[←e,dgN,Nat.add_mul,Nat.mul_assoc,hB,Nat.add_assoc,←hL]
theorem shlU (lo s:Nat)(hs:s≤63):IntKind.u64.wrap ((lo:Int) *2^min ((s:Nat):Int).toNat IntKind.u64.bits)=((lo*2^s%18446744073709551616:Nat):Int):=by
 have e:IntKind.u64.bits=64:=rfl
 rw[e,Int.toNat_natCast,Nat.min_eq_left (by omega),q0U]
 have:(lo:Int) *2^s=((lo*2^s:Nat):Int):=by simp
 rw[this];omega
theorem qmT {U a:Nat}(hU:U<18446744073709551616):IntKind.u64.wrap ((U:Int)-IntKind.u64.wrap (((U/a:Nat):Int) *(a:Int)))=((U%a:Nat):Int):=by
 have h1:=Nat.div_mul_le_self U a
 have h2:=Nat.mod_add_div U a
 rw[qb9 (by omega),qqC h1 hU]
 congr 1
 rw[Nat.mul_comm]at h2
 omega
set_option maxHeartbeats 8000000 in
theorem qEu (hi lo y:Nat)(hh:hi<y)(hy:y<18446744073709551616)(hl:lo<18446744073709551616):
 PU qtW [.int .u64 hi,.int .u64 lo,.int .u64 y]=some (.tup [.int .u64 (((hi*18446744073709551616+lo)/y:Nat):Int),.int .u64 (((hi*18446744073709551616+lo)%y:Nat):Int)]):=by
 have D:=dvd_of hh hy hl
 have lz:=qhR y hy
 have hs63:=D.n.s63
 generalize 64-bl y=s at*
 refine q0g (fn:=qhI) rfl (q0a ?_)
 refine gg rfl (q01 rfl (fun e=>absurd (q1n.1 e) (by omega)) (fun _=>?_))
 refine gg rfl (q01 rfl (fun e=>absurd (q0E.1 e) (by omega)) (fun _=>?_))
 refine gg rfl (q01 rfl (fun e=>?_) (fun e=>?_))
 ·rw[q1n]at e
  obtain rfl:hi=0:=by omega
  refine gg rfl (q2Z lo y rfl rfl rfl rfl (by omega) (q0C (Nat.lt_of_le_of_lt (Nat.div_le_self _ _) hl)) ?_)
  refine gg rfl (q7b lo y rfl rfl rfl rfl (by omega) ?_)
  refine gg rfl (q08 rfl rfl rfl trivial ?_)
  rw[Nat.zero_mul,Nat.zero_add]
 have e64:IntKind.u64.wrap (64-(s:Int))=((64-s:Nat):Int):=qqC (x:=64) (by omega) (by decide)
 have a1:=qvS (y*2^s) D.n.y2
 have hL64:lo*2^s%18446744073709551616<18446744073709551616:=Nat.mod_lt _ (by decide)
 have a2:=qvS (lo*2^s%18446744073709551616) hL64
 have o1:=or64' hi (lo/2^(64-s)) s D.n.l (Nat.lt_trans D.n.u D.n.y2)
 have sl:=shlU lo s hs63
 refine gg rfl (q02 rfl rfl lz (gg rfl ?_))
 rw[q0C (n:=s) (by omega)]
 refine q6w y s rfl rfl rfl rfl (by show s≤64;omega) (q0C D.n.y2) ?_
 refine gg rfl (q19 (y*2^s) 32 rfl rfl rfl rfl (by decide) ?_)
 refine gg rfl ?_
 rw[a1]
 refine q6w hi s rfl rfl rfl rfl (by show s≤64;omega) (q0C D.n.h) ?_
 refine gg rfl ?_
 rw[e64]
 refine q19 lo (64-s) rfl rfl rfl rfl (by show 64-s≤64;omega) ?_
 refine gg rfl ?_
 rw[o1]
 refine atShl rfl rfl (by omega) ?_
 rw[sl]
 refine gg rfl (q19 (lo*2^s%18446744073709551616) 32 rfl rfl rfl rfl (by decide) ?_)
 refine gg rfl ?_
 rw[a2]
 have hY:=D.hy
 rw[hY]
 rw[show((dgY (h32 (y*2^s)) (w32 (y*2^s))/2^32:Nat):Int)=((h32 (y*2^s):Nat):Int)by rw[←hY];rfl,show((dgY (h32 (y*2^s)) (w32 (y*2^s))%4294967296:Nat):Int)=((w32 (y*2^s):Nat):Int)by rw[←hY];rfl,show((lo*2^s%18446744073709551616/2^32:Nat):Int)=((h32 (lo*2^s%18446744073709551616):Nat):Int)from rfl,show((lo*2^s%18446744073709551616%4294967296:Nat):Int)=((w32 (lo*2^s%18446744073709551616):Nat):Int)from rfl]
 clear a1 a2 o1 sl e64 lz hY
 generalize h32 (y*2^s)=a at*
 generalize w32 (y*2^s)=b at*
 generalize h32 (lo*2^s%18446744073709551616)=u1 at*
 generalize w32 (lo*2^s%18446744073709551616)=u0 at*
 generalize hi*2^s+lo/2^(64-s)=U at*
 have DD:=D.d1
 have hU:U<18446744073709551616:=Nat.lt_trans DD.lt D.y64
 refine q2Z U a rfl rfl rfl rfl (by have:=D.a1;omega) (q0C (Nat.lt_of_le_of_lt (Nat.div_le_self _ _) hU)) ?_
 refine gg rfl ?_
 rw[qmT hU]
 refine q0l (S:=fun x:Nat×Nat=>([.int .u64 (dgY a b:Nat),.int .u64 s,.int .u64 a,.int .u64 b,.int .u64 U,.int .u64 u1,.int .u64 u0,.int .u64 x.1,.int .u64 x.2],[none,none,none,none,none,none,none,none,none],[0,0,0,0,0,0,0,0,0])) (C:=fun x=>DgI U u1 a b x.1 x.2∧x.2<4294967296) (m:=fun x=>x.1) (U/a,U%a) ⟨DD.start,Nat.lt_trans (Nat.mod_lt _ (by have:=D.a1;omega)) D.a2⟩ (by have:=DD.start.hq;show U/a<_;omega) ?_ ?_
 ·exact q03 rfl trivial rfl
 rintro⟨q,r⟩ ⟨hi1,hr⟩ N hN
 simp only at hi1 hr
 have hq:=hi1.hq
 have hb':=D.b2
 have w1:q<4294967296→IntKind.u64.wrap ((q:Int) *(b:Int))=((q*b:Nat):Int):=fun h=>qb9 (by have:=q5D h hb';omega)
 have w2:IntKind.u64.wrap ((4294967296:Int) *(r:Int))=((4294967296*r:Nat):Int):=qb9 (x:=4294967296) (by omega)
 have w3:IntKind.u64.wrap (((4294967296*r:Nat):Int)+(u1:Int))=((4294967296*r+u1:Nat):Int):=qcw (by have:=DD.hu;omega)
 have body:(4294967296≤q∨r*4294967296+u1<q*b)→1≤q∧DgI U u1 a b (q-1) (r+a)∧q-1≤4294967296:=DD.step hi1
 have a2:=D.a2
 have w5:IntKind.u64.wrap ((r:Int)+(a:Int))=((r+a:Nat):Int):=qcw (by omega)
 refine gg rfl (q09 rfl (fun g1=>?_) (fun g1=>?_))
 ·rw[q0E]at g1
  obtain⟨k1,k2,k3⟩:=body (.inl (by omega))
  have w4:IntKind.u64.wrap ((q:Int)-1)=((q-1:Nat):Int):=qqC (y:=1) k1 (by omega)
  refine gg rfl (q0d rfl (gg rfl ?_))
  rw[w4,w5]
  refine q01 rfl (fun g2=>?_) (fun g2=>?_)
  ·rw[q0E]at g2
   have hq1:=DD.stop k2 k3 (by omega)
   generalize q-1=q' at*
   refine gg rfl (q04 ?_)
   have hp:=hq1
   have hplt:=D.d1.qlt
   rw[←hp]at hplt
   clear hq1
   generalize q'=p at hp hplt
   have hrm:=qmj (U:=U) (u:=u1) hp D.d1.pos D.y64
   refine gg rfl ?_
   rw[hrm]
   have DD:=D.d0
   have hV:dgN U u1%dgY a b<18446744073709551616:=Nat.lt_trans DD.lt D.y64
   clear hi1 hN
   refine q2Z (dgN U u1%dgY a b) a rfl rfl rfl rfl (by have:=D.a1;omega) (q0C (Nat.lt_of_le_of_lt (Nat.div_le_self _ _) hV)) ?_
   refine gg rfl ?_
   rw[qmT hV]
   refine q0l (S:=fun x:Nat×Nat=>([.int .u64 (dgY a b:Nat),.int .u64 s,.int .u64 a,.int .u64 b,.int .u64 u0,.int .u64 p,.int .u64 x.2,.int .u64 ((dgN U u1%dgY a b:Nat):Int),.int .u64 x.1],[none,none,none,none,none,none,none,none,none],[0,0,0,0,0,0,0,0,0])) (C:=fun x=>DgI (dgN U u1%dgY a b) u0 a b x.1 x.2∧x.2<4294967296) (m:=fun x=>x.1) ((dgN U u1%dgY a b)/a,(dgN U u1%dgY a b)%a) ⟨DD.start,Nat.lt_trans (Nat.mod_lt _ (by have:=D.a1;omega)) D.a2⟩ (by have:=DD.start.hq;show _/a<_;omega) ?_ ?_
   ·exact q03 rfl trivial rfl
   rintro⟨q,r⟩ ⟨hi1,hr⟩ N hN
   simp only at hi1 hr
   have hq:=hi1.hq
   have hb':=D.b2
   have w1:q<4294967296→IntKind.u64.wrap ((q:Int) *(b:Int))=((q*b:Nat):Int):=fun h=>qb9 (by have:=q5D h hb';omega)
   have w2:IntKind.u64.wrap ((4294967296:Int) *(r:Int))=((4294967296*r:Nat):Int):=qb9 (x:=4294967296) (by omega)
   have w3:IntKind.u64.wrap (((4294967296*r:Nat):Int)+(u0:Int))=((4294967296*r+u0:Nat):Int):=qcw (by have:=DD.hu;omega)
   have body:(4294967296≤q∨r*4294967296+u0<q*b)→1≤q∧DgI (dgN U u1%dgY a b) u0 a b (q-1) (r+a)∧q-1≤4294967296:=DD.step hi1
   have a2:=D.a2
   have w5:IntKind.u64.wrap ((r:Int)+(a:Int))=((r+a:Nat):Int):=qcw (by omega)
   refine gg rfl (q09 rfl (fun g1=>?_) (fun g1=>?_))
   ·rw[q0E]at g1
    obtain⟨k1,k2,k3⟩:=body (.inl (by omega))
    have w4:IntKind.u64.wrap ((q:Int)-1)=((q-1:Nat):Int):=qqC (y:=1) k1 (by omega)
    refine gg rfl (q0d rfl (gg rfl ?_))
    rw[w4,w5]
    refine q01 rfl (fun g2=>?_) (fun g2=>?_)
    ·rw[q0E]at g2
     have hq1:=DD.stop k2 k3 (by omega)
     generalize q-1=q' at*
     refine gg rfl (q04 ?_)
     have hq0lt:=D.d0.qlt
     rw[←hq1]at hq0lt
     have m1:IntKind.u64.wrap ((p:Int) *4294967296)=((p*4294967296:Nat):Int):=qb9 (y:=4294967296) (by omega)
     have m2:IntKind.u64.wrap (((p*4294967296:Nat):Int)+(q':Int))=((p*4294967296+q':Nat):Int):=qcw (by omega)
     have m3:=qmj (U:=dgN U u1%dgY a b) (u:=u0) hq1 D.d1.pos D.y64
     obtain⟨z1,z2⟩:=D.quo
     refine gg rfl ?_
     rw[m1,m2,m3]
     refine q19 (dgN (dgN U u1%dgY a b) u0%dgY a b) s rfl rfl rfl rfl (by show s≤64;have:=D.n.s63;omega) ?_
     refine gg rfl (q08 rfl rfl rfl trivial ?_)
     rw[z2,←z1,hp,hq1]
    rw[q0F]at g2
    exact gg rfl (q04 (hN (q-1,r+a) ⟨k2,by show r+a<_;omega⟩ (by show q-1<q;omega) (q03 rfl trivial rfl)))
   rw[q0F]at g1
   refine gg rfl ?_
   rw[w1 (by omega),w2,w3]
   refine q01 rfl (fun g2=>?_) (fun g2=>?_)
   ·rw[q06]at g2
    obtain⟨k1,k2,k3⟩:=body (.inr (by omega))
    have w4:IntKind.u64.wrap ((q:Int)-1)=((q-1:Nat):Int):=qqC (y:=1) k1 (by omega)
    refine gg rfl ?_
    rw[w4,w5]
    refine q01 rfl (fun g3=>?_) (fun g3=>?_)
    ·rw[q0E]at g3
     have hq1:=DD.stop k2 k3 (by omega)
     generalize q-1=q' at*
     refine gg rfl (q04 ?_)
     have hq0lt:=D.d0.qlt
     rw[←hq1]at hq0lt
     have m1:IntKind.u64.wrap ((p:Int) *4294967296)=((p*4294967296:Nat):Int):=qb9 (y:=4294967296) (by omega)
     have m2:IntKind.u64.wrap (((p*4294967296:Nat):Int)+(q':Int))=((p*4294967296+q':Nat):Int):=qcw (by omega)
     have m3:=qmj (U:=dgN U u1%dgY a b) (u:=u0) hq1 D.d1.pos D.y64
     obtain⟨z1,z2⟩:=D.quo
     refine gg rfl ?_
     rw[m1,m2,m3]
     refine q19 (dgN (dgN U u1%dgY a b) u0%dgY a b) s rfl rfl rfl rfl (by show s≤64;have:=D.n.s63;omega) ?_
     refine gg rfl (q08 rfl rfl rfl trivial ?_)
     rw[z2,←z1,hp,hq1]
    rw[q0F]at g3
    exact gg rfl (q04 (hN (q-1,r+a) ⟨k2,by show r+a<_;omega⟩ (by show q-1<q;omega) (q03 rfl trivial rfl)))
   rw[q07]at g2
   have hq1:=DD.fin hi1 (by omega)
   refine gg rfl (q04 ?_)
   have hq0lt:=D.d0.qlt
   rw[←hq1]at hq0lt
   have m1:IntKind.u64.wrap ((p:Int) *4294967296)=((p*4294967296:Nat):Int):=qb9 (y:=4294967296) (by omega)
   have m2:IntKind.u64.wrap (((p*4294967296:Nat):Int)+(q:Int))=((p*4294967296+q:Nat):Int):=qcw (by omega)
   have m3:=qmj (U:=dgN U u1%dgY a b) (u:=u0) hq1 D.d1.pos D.y64
   obtain⟨z1,z2⟩:=D.quo
   refine gg rfl ?_
   rw[m1,m2,m3]
   refine q19 (dgN (dgN U u1%dgY a b) u0%dgY a b) s rfl rfl rfl rfl (by show s≤64;have:=D.n.s63;omega) ?_
   refine gg rfl (q08 rfl rfl rfl trivial ?_)
   rw[z2,←z1,hp,hq1]
  rw[q0F]at g2
  exact gg rfl (q04 (hN (q-1,r+a) ⟨k2,by show r+a<_;omega⟩ (by show q-1<q;omega) (q03 rfl trivial rfl)))
 rw[q0F]at g1
 refine gg rfl ?_
 rw[w1 (by omega),w2,w3]
 refine q01 rfl (fun g2=>?_) (fun g2=>?_)
 ·rw[q06]at g2
  obtain⟨k1,k2,k3⟩:=body (.inr (by omega))
  have w4:IntKind.u64.wrap ((q:Int)-1)=((q-1:Nat):Int):=qqC (y:=1) k1 (by omega)
  refine gg rfl ?_
  rw[w4,w5]
  refine q01 rfl (fun g3=>?_) (fun g3=>?_)
  ·rw[q0E]at g3
   have hq1:=DD.stop k2 k3 (by omega)
   generalize q-1=q' at*
   refine gg rfl (q04 ?_)
   have hp:=hq1
   have hplt:=D.d1.qlt
   rw[←hp]at hplt
   clear hq1
   generalize q'=p at hp hplt
   have hrm:=qmj (U:=U) (u:=u1) hp D.d1.pos D.y64
   refine gg rfl ?_
   rw[hrm]
   have DD:=D.d0
   have hV:dgN U u1%dgY a b<18446744073709551616:=Nat.lt_trans DD.lt D.y64
   clear hi1 hN
   refine q2Z (dgN U u1%dgY a b) a rfl rfl rfl rfl (by have:=D.a1;omega) (q0C (Nat.lt_of_le_of_lt (Nat.div_le_self _ _) hV)) ?_
   refine gg rfl ?_
   rw[qmT hV]
   refine q0l (S:=fun x:Nat×Nat=>([.int .u64 (dgY a b:Nat),.int .u64 s,.int .u64 a,.int .u64 b,.int .u64 u0,.int .u64 p,.int .u64 x.2,.int .u64 ((dgN U u1%dgY a b:Nat):Int),.int .u64 x.1],[none,none,none,none,none,none,none,none,none],[0,0,0,0,0,0,0,0,0])) (C:=fun x=>DgI (dgN U u1%dgY a b) u0 a b x.1 x.2∧x.2<4294967296) (m:=fun x=>x.1) ((dgN U u1%dgY a b)/a,(dgN U u1%dgY a b)%a) ⟨DD.start,Nat.lt_trans (Nat.mod_lt _ (by have:=D.a1;omega)) D.a2⟩ (by have:=DD.start.hq;show _/a<_;omega) ?_ ?_
   ·exact q03 rfl trivial rfl
   rintro⟨q,r⟩ ⟨hi1,hr⟩ N hN
   simp only at hi1 hr
   have hq:=hi1.hq
   have hb':=D.b2
   have w1:q<4294967296→IntKind.u64.wrap ((q:Int) *(b:Int))=((q*b:Nat):Int):=fun h=>qb9 (by have:=q5D h hb';omega)
   have w2:IntKind.u64.wrap ((4294967296:Int) *(r:Int))=((4294967296*r:Nat):Int):=qb9 (x:=4294967296) (by omega)
   have w3:IntKind.u64.wrap (((4294967296*r:Nat):Int)+(u0:Int))=((4294967296*r+u0:Nat):Int):=qcw (by have:=DD.hu;omega)
   have body:(4294967296≤q∨r*4294967296+u0<q*b)→1≤q∧DgI (dgN U u1%dgY a b) u0 a b (q-1) (r+a)∧q-1≤4294967296:=DD.step hi1
   have a2:=D.a2
   have w5:IntKind.u64.wrap ((r:Int)+(a:Int))=((r+a:Nat):Int):=qcw (by omega)
   refine gg rfl (q09 rfl (fun g1=>?_) (fun g1=>?_))
   ·rw[q0E]at g1
    obtain⟨k1,k2,k3⟩:=body (.inl (by omega))
    have w4:IntKind.u64.wrap ((q:Int)-1)=((q-1:Nat):Int):=qqC (y:=1) k1 (by omega)
    refine gg rfl (q0d rfl (gg rfl ?_))
    rw[w4,w5]
    refine q01 rfl (fun g2=>?_) (fun g2=>?_)
    ·rw[q0E]at g2
     have hq1:=DD.stop k2 k3 (by omega)
     generalize q-1=q' at*
     refine gg rfl (q04 ?_)
     have hq0lt:=D.d0.qlt
     rw[←hq1]at hq0lt
     have m1:IntKind.u64.wrap ((p:Int) *4294967296)=((p*4294967296:Nat):Int):=qb9 (y:=4294967296) (by omega)
     have m2:IntKind.u64.wrap (((p*4294967296:Nat):Int)+(q':Int))=((p*4294967296+q':Nat):Int):=qcw (by omega)
     have m3:=qmj (U:=dgN U u1%dgY a b) (u:=u0) hq1 D.d1.pos D.y64
     obtain⟨z1,z2⟩:=D.quo
     refine gg rfl ?_
     rw[m1,m2,m3]
     refine q19 (dgN (dgN U u1%dgY a b) u0%dgY a b) s rfl rfl rfl rfl (by show s≤64;have:=D.n.s63;omega) ?_
     refine gg rfl (q08 rfl rfl rfl trivial ?_)
     rw[z2,←z1,hp,hq1]
    rw[q0F]at g2
    exact gg rfl (q04 (hN (q-1,r+a) ⟨k2,by show r+a<_;omega⟩ (by show q-1<q;omega) (q03 rfl trivial rfl)))
   rw[q0F]at g1
   refine gg rfl ?_
   rw[w1 (by omega),w2,w3]
   refine q01 rfl (fun g2=>?_) (fun g2=>?_)
   ·rw[q06]at g2
    obtain⟨k1,k2,k3⟩:=body (.inr (by omega))
    have w4:IntKind.u64.wrap ((q:Int)-1)=((q-1:Nat):Int):=qqC (y:=1) k1 (by omega)
    refine gg rfl ?_
    rw[w4,w5]
    refine q01 rfl (fun g3=>?_) (fun g3=>?_)
    ·rw[q0E]at g3
     have hq1:=DD.stop k2 k3 (by omega)
     generalize q-1=q' at*
     refine gg rfl (q04 ?_)
     have hq0lt:=D.d0.qlt
     rw[←hq1]at hq0lt
     have m1:IntKind.u64.wrap ((p:Int) *4294967296)=((p*4294967296:Nat):Int):=qb9 (y:=4294967296) (by omega)
     have m2:IntKind.u64.wrap (((p*4294967296:Nat):Int)+(q':Int))=((p*4294967296+q':Nat):Int):=qcw (by omega)
     have m3:=qmj (U:=dgN U u1%dgY a b) (u:=u0) hq1 D.d1.pos D.y64
     obtain⟨z1,z2⟩:=D.quo
     refine gg rfl ?_
     rw[m1,m2,m3]
     refine q19 (dgN (dgN U u1%dgY a b) u0%dgY a b) s rfl rfl rfl rfl (by show s≤64;have:=D.n.s63;omega) ?_
     refine gg rfl (q08 rfl rfl rfl trivial ?_)
     rw[z2,←z1,hp,hq1]
    rw[q0F]at g3
    exact gg rfl (q04 (hN (q-1,r+a) ⟨k2,by show r+a<_;omega⟩ (by show q-1<q;omega) (q03 rfl trivial rfl)))
   rw[q07]at g2
   have hq1:=DD.fin hi1 (by omega)
   refine gg rfl (q04 ?_)
   have hq0lt:=D.d0.qlt
   rw[←hq1]at hq0lt
   have m1:IntKind.u64.wrap ((p:Int) *4294967296)=((p*4294967296:Nat):Int):=qb9 (y:=4294967296) (by omega)
   have m2:IntKind.u64.wrap (((p*4294967296:Nat):Int)+(q:Int))=((p*4294967296+q:Nat):Int):=qcw (by omega)
   have m3:=qmj (U:=dgN U u1%dgY a b) (u:=u0) hq1 D.d1.pos D.y64
   obtain⟨z1,z2⟩:=D.quo
   refine gg rfl ?_
   rw[m1,m2,m3]
   refine q19 (dgN (dgN U u1%dgY a b) u0%dgY a b) s rfl rfl rfl rfl (by show s≤64;have:=D.n.s63;omega) ?_
   refine gg rfl (q08 rfl rfl rfl trivial ?_)
   rw[z2,←z1,hp,hq1]
  rw[q0F]at g3
  exact gg rfl (q04 (hN (q-1,r+a) ⟨k2,by show r+a<_;omega⟩ (by show q-1<q;omega) (q03 rfl trivial rfl)))
 rw[q07]at g2
 have hq1:=DD.fin hi1 (by omega)
 refine gg rfl (q04 ?_)
 have hp:=hq1
 have hplt:=D.d1.qlt
 rw[←hp]at hplt
 clear hq1
 generalize q=p at hp hplt
 have hrm:=qmj (U:=U) (u:=u1) hp D.d1.pos D.y64
 refine gg rfl ?_
 rw[hrm]
 have DD:=D.d0
 have hV:dgN U u1%dgY a b<18446744073709551616:=Nat.lt_trans DD.lt D.y64
 clear hi1 hN
 refine q2Z (dgN U u1%dgY a b) a rfl rfl rfl rfl (by have:=D.a1;omega) (q0C (Nat.lt_of_le_of_lt (Nat.div_le_self _ _) hV)) ?_
 refine gg rfl ?_
 rw[qmT hV]
 refine q0l (S:=fun x:Nat×Nat=>([.int .u64 (dgY a b:Nat),.int .u64 s,.int .u64 a,.int .u64 b,.int .u64 u0,.int .u64 p,.int .u64 x.2,.int .u64 ((dgN U u1%dgY a b:Nat):Int),.int .u64 x.1],[none,none,none,none,none,none,none,none,none],[0,0,0,0,0,0,0,0,0])) (C:=fun x=>DgI (dgN U u1%dgY a b) u0 a b x.1 x.2∧x.2<4294967296) (m:=fun x=>x.1) ((dgN U u1%dgY a b)/a,(dgN U u1%dgY a b)%a) ⟨DD.start,Nat.lt_trans (Nat.mod_lt _ (by have:=D.a1;omega)) D.a2⟩ (by have:=DD.start.hq;show _/a<_;omega) ?_ ?_
 ·exact q03 rfl trivial rfl
 rintro⟨q,r⟩ ⟨hi1,hr⟩ N hN
 simp only at hi1 hr
 have hq:=hi1.hq
 have hb':=D.b2
 have w1:q<4294967296→IntKind.u64.wrap ((q:Int) *(b:Int))=((q*b:Nat):Int):=fun h=>qb9 (by have:=q5D h hb';omega)
 have w2:IntKind.u64.wrap ((4294967296:Int) *(r:Int))=((4294967296*r:Nat):Int):=qb9 (x:=4294967296) (by omega)
 have w3:IntKind.u64.wrap (((4294967296*r:Nat):Int)+(u0:Int))=((4294967296*r+u0:Nat):Int):=qcw (by have:=DD.hu;omega)
 have body:(4294967296≤q∨r*4294967296+u0<q*b)→1≤q∧DgI (dgN U u1%dgY a b) u0 a b (q-1) (r+a)∧q-1≤4294967296:=DD.step hi1
 have a2:=D.a2
 have w5:IntKind.u64.wrap ((r:Int)+(a:Int))=((r+a:Nat):Int):=qcw (by omega)
 refine gg rfl (q09 rfl (fun g1=>?_) (fun g1=>?_))
 ·rw[q0E]at g1
  obtain⟨k1,k2,k3⟩:=body (.inl (by omega))
  have w4:IntKind.u64.wrap ((q:Int)-1)=((q-1:Nat):Int):=qqC (y:=1) k1 (by omega)
  refine gg rfl (q0d rfl (gg rfl ?_))
  rw[w4,w5]
  refine q01 rfl (fun g2=>?_) (fun g2=>?_)
  ·rw[q0E]at g2
   have hq1:=DD.stop k2 k3 (by omega)
   generalize q-1=q' at*
   refine gg rfl (q04 ?_)
   have hq0lt:=D.d0.qlt
   rw[←hq1]at hq0lt
   have m1:IntKind.u64.wrap ((p:Int) *4294967296)=((p*4294967296:Nat):Int):=qb9 (y:=4294967296) (by omega)
   have m2:IntKind.u64.wrap (((p*4294967296:Nat):Int)+(q':Int))=((p*4294967296+q':Nat):Int):=qcw (by omega)
   have m3:=qmj (U:=dgN U u1%dgY a b) (u:=u0) hq1 D.d1.pos D.y64
   obtain⟨z1,z2⟩:=D.quo
   refine gg rfl ?_
   rw[m1,m2,m3]
   refine q19 (dgN (dgN U u1%dgY a b) u0%dgY a b) s rfl rfl rfl rfl (by show s≤64;have:=D.n.s63;omega) ?_
   refine gg rfl (q08 rfl rfl rfl trivial ?_)
   rw[z2,←z1,hp,hq1]
  rw[q0F]at g2
  exact gg rfl (q04 (hN (q-1,r+a) ⟨k2,by show r+a<_;omega⟩ (by show q-1<q;omega) (q03 rfl trivial rfl)))
 rw[q0F]at g1
 refine gg rfl ?_
 rw[w1 (by omega),w2,w3]
 refine q01 rfl (fun g2=>?_) (fun g2=>?_)
 ·rw[q06]at g2
  obtain⟨k1,k2,k3⟩:=body (.inr (by omega))
  have w4:IntKind.u64.wrap ((q:Int)-1)=((q-1:Nat):Int):=qqC (y:=1) k1 (by omega)
  refine gg rfl ?_
  rw[w4,w5]
  refine q01 rfl (fun g3=>?_) (fun g3=>?_)
  ·rw[q0E]at g3
   have hq1:=DD.stop k2 k3 (by omega)
   generalize q-1=q' at*
   refine gg rfl (q04 ?_)
   have hq0lt:=D.d0.qlt
   rw[←hq1]at hq0lt
   have m1:IntKind.u64.wrap ((p:Int) *4294967296)=((p*4294967296:Nat):Int):=qb9 (y:=4294967296) (by omega)
   have m2:IntKind.u64.wrap (((p*4294967296:Nat):Int)+(q':Int))=((p*4294967296+q':Nat):Int):=qcw (by omega)
   have m3:=qmj (U:=dgN U u1%dgY a b) (u:=u0) hq1 D.d1.pos D.y64
   obtain⟨z1,z2⟩:=D.quo
   refine gg rfl ?_
   rw[m1,m2,m3]
   refine q19 (dgN (dgN U u1%dgY a b) u0%dgY a b) s rfl rfl rfl rfl (by show s≤64;have:=D.n.s63;omega) ?_
   refine gg rfl (q08 rfl rfl rfl trivial ?_)
   rw[z2,←z1,hp,hq1]
  rw[q0F]at g3
  exact gg rfl (q04 (hN (q-1,r+a) ⟨k2,by show r+a<_;omega⟩ (by show q-1<q;omega) (q03 rfl trivial rfl)))
 rw[q07]at g2
 have hq1:=DD.fin hi1 (by omega)
 refine gg rfl (q04 ?_)
 have hq0lt:=D.d0.qlt
 rw[←hq1]at hq0lt
 have m1:IntKind.u64.wrap ((p:Int) *4294967296)=((p*4294967296:Nat):Int):=qb9 (y:=4294967296) (by omega)
 have m2:IntKind.u64.wrap (((p*4294967296:Nat):Int)+(q:Int))=((p*4294967296+q:Nat):Int):=qcw (by omega)
 have m3:=qmj (U:=dgN U u1%dgY a b) (u:=u0) hq1 D.d1.pos D.y64
 obtain⟨z1,z2⟩:=D.quo
 refine gg rfl ?_
 rw[m1,m2,m3]
 refine q19 (dgN (dgN U u1%dgY a b) u0%dgY a b) s rfl rfl rfl rfl (by show s≤64;have:=D.n.s63;omega) ?_
 refine gg rfl (q08 rfl rfl rfl trivial ?_)
 rw[z2,←z1,hp,hq1]
end Go.F

namespace Go.F
attribute [local irreducible] IntKind.wrap wpM
def q36 (p:List Spot):Nat→Nat
 |0=>0
 |k+1=>q36 p k+qeZ (pt p k) (pt p (k+1))
theorem qpH {p:List Spot}(h:∀i,i<p.length→q0v (pt p i) 1048576=true):∀k,k<p.length→q36 p k≤k*4294967296:=by
 intro k
 induction k with
 |zero=>intro _;simp[q36]
 |succ k ih=>
  intro hk
  have:=ih (by omega)
  have:=qux (h k (by omega)) (h (k+1) hk)
  rw[q36];omega
def q17 (p:List Spot):Int×Int:=if q1v p=0 then((q36 p (p.length-1):Int),0)else(0,q1v p)
theorem q5s (p:List Spot):PU qib [q0k p]=some (.tup [.int .i64 (q17 p).1,.int .i64 (q17 p).2]):=by
 refine q0g (fn:=q97) rfl (q0a ?_)
 refine gg rfl (q02 rfl rfl (q9j p) (gg rfl (q01 rfl (fun h=>?_) (fun h=>?_))))
 ·rw[q0u]at h
  refine gg rfl (q08 rfl rfl rfl trivial ?_)
  rw[q17,if_neg h]
 rw[q0z]at h
 rw[q17,if_pos h]
 obtain⟨n2,n40,_⟩:=q2k h
 have hin:∀i,i<p.length→q0v (pt p i) 1048576=true:=fun i hi=>qbw h hi
 refine gg rfl (q0l (S:=fun k:Nat=>([q0k p,q00 (q36 p k),q00 (p.length-1:Nat),q00 k],[none,none,none,none],[0,0,0,0])) (C:=fun k=>k≤p.length-1) (m:=fun k=>p.length-k) 0 (Nat.zero_le _) (by omega) ?_ ?_)
 ·refine q03 rfl trivial ?_
  have:IntKind.i64.wrap ((p.length:Int)-1)=((p.length-1:Nat):Int):=by rw[wrap64 (by omega) (by omega)];omega
  simp[q0k,q00,q36,this]
 intro k hk N hN
 refine gg rfl (q01 rfl (fun g1=>?_) (fun g1=>?_))
 ·rw[q06]at g1
  have hlt:k+1<p.length:=by omega
  have w1:=wS (n:=k)
  have hin1:=hin k (by omega)
  have hin2:=hin (k+1) hlt
  have hsl':=qux hin1 hin2
  have hle:=qpH hin k (by omega)
  have w2:IntKind.i64.wrap ((q36 p k:Int)+(qeZ (pt p k) (pt p (k+1)):Int))=(q36 p (k+1):Int):=by rw[wrap64 (by omega) (by omega)];rfl
  refine gg rfl (q0i k rfl rfl rfl (q0Q (by omega)) rfl ?_)
  refine gg rfl (q0i (k+1) rfl rfl w1 (q0Q hlt) rfl (gg rfl (q02 rfl rfl (qf0 (pt p k) (pt p (k+1)) hin1 hin2) (gg rfl ?_))))
  rw[w2]
  exact q04 (hN (k+1) (by omega) (by omega) (q03 rfl trivial (by simp[q0k,q00,w1])))
 rw[q07]at g1
 obtain rfl:k=p.length-1:=by omega
 exact gg rfl (q04 (gg rfl (q08 rfl rfl rfl trivial rfl)))
theorem qxp (n:Nat)(hn:n<9223372036854775808):PU qzj [.int .i64 n]=some (.int .i64 (qpG n)):=by
 refine q0g (fn:=qoc) rfl (q0a ?_)
 refine gg rfl (q0l (S:=fun q:Nat×Nat=>([q00 n,q00 q.2,.int .i64 ((q.1:Int)-1)],[none,none,none],[0,0,0])) (C:=fun q=>q.1≤32∧q.2+2^q.1≤4294967296∧qmc n q.1 q.2=qpG n) (m:=fun q=>q.1) (32,0) ⟨by decide,by decide,rfl⟩ (by decide) ?_ ?_)
 ·exact q03 rfl trivial (by simp[q00])
 rintro⟨j,r⟩ ⟨hj,hr,hinv⟩ N hN
 simp only at hj hr hinv
 refine gg rfl (q01 rfl (fun g=>?_) (fun g=>?_))
 ·rw[q0E]at g
  simp only at g
  obtain⟨k,rfl⟩:∃k,j=k+1:=⟨j-1,by omega⟩
  have ek:((k+1:Nat):Int)-1=(k:Int):=by omega
  have hp:2^(k+1)=2*2^k:=by rw[Nat.pow_succ];omega
  have hp0:0<2^k:=Nat.pow_pos (by decide)
  rw[qmc]at hinv
  rw[hp]at hr
  generalize hP:2^k=P at*
  have wk:IntKind.u64.wrap (k:Int)=(k:Int):=q0C (by omega)
  have wk1:=ww (x:=(k:Int)-1)
  have wt:IntKind.i64.wrap ((r:Int)+(P:Int))=((r+P:Nat):Int):=by rw[wrap64 (by omega) (by omega)];omega
  have wt2:IntKind.u64.wrap ((r+P:Nat):Int)=((r+P:Nat):Int):=q0C (by omega)
  have hmul:(r+P) *(r+P)≤4294967295*4294967295:=Nat.mul_le_mul (by omega) (by omega)
  have wm:IntKind.u64.wrap (((r+P:Nat):Int) *((r+P:Nat):Int))=(((r+P) *(r+P):Nat):Int):=by rw[←Int.natCast_mul];exact q0C (by omega)
  have wn:IntKind.u64.wrap (n:Int)=(n:Int):=q0C (by omega)
  have wb:=ww (x:=((r+P:Nat):Int))
  simp only
  rw[ek]
  refine gg rfl ?_
  rw[wk]
  refine q6w 1 k rfl rfl rfl rfl (by show k≤64;omega) (by rw[hP,Nat.one_mul];exact wrap64 (by omega) (by omega)) ?_
  rw[hP,Nat.one_mul]
  refine gg rfl ?_
  rw[wt,wt2,wm,wn]
  refine q01 rfl (fun g2=>?_) (fun g2=>?_)
  ·rw[q0E]at g2
   rw[if_pos (by omega)]at hinv
   refine gg rfl ?_
   rw[wb]
   exact q04 (hN (k,r+P) ⟨by simp only;omega,by simp only;rw[hP];omega,hinv⟩ (by simp only;omega) (q03 rfl trivial (by simp[q00,wk1])))
  rw[q0F]at g2
  rw[if_neg (by omega)]at hinv
  exact gg rfl (q04 (hN (k,r) ⟨by simp only;omega,by simp only;rw[hP];omega,hinv⟩ (by simp only;omega) (q03 rfl trivial (by simp[q00,wk1]))))
 rw[q0F]at g
 simp only at g
 obtain rfl:j=0:=by omega
 refine gg rfl (q04 (gg rfl (q08 rfl rfl rfl trivial ?_)))
 rw[←hinv];rfl
theorem qpI (a b:Spot)(ha:q0v a 1048576=true)(hb:q0v b 1048576=true):PU qr0 [a.enc,b.enc]=some (.int .i64 (qeZ a b)):=by
 refine q0g (fn:=qfL) rfl (q0a ?_)
 have h:=quw ha hb
 have hse:=q6f a b
 rw[q1B]at ha hb
 have bx:Bd (b.x-a.x) 2097152:=⟨by omega⟩
 have by':Bd (b.y-a.y) 2097152:=⟨by omega⟩
 have c1:IntKind.i64.wrap (b.x-a.x)=b.x-a.x:=q0V (by decide)
 have c2:IntKind.i64.wrap (b.y-a.y)=b.y-a.y:=q0V (by decide)
 refine gg rfl ?_
 rw[c1,c2]
 have c4:IntKind.i64.wrap ((b.x-a.x) *(b.x-a.x))=(b.x-a.x) *(b.x-a.x):=q0V (by decide)
 have c5:IntKind.i64.wrap ((b.y-a.y) *(b.y-a.y))=(b.y-a.y) *(b.y-a.y):=q0V (by decide)
 have c6:IntKind.i64.wrap ((b.x-a.x) *(b.x-a.x)+(b.y-a.y) *(b.y-a.y))=(sqd a b:Int):=by rw[hse];exact q0V (by decide)
 have c7:IntKind.i64.wrap (1000000*(sqd a b:Int))=((1000000*sqd a b:Nat):Int):=by rw[wrap64 (by omega) (by omega)];omega
 rw[c4,c5,c6,c7]
 refine q02 rfl rfl (qxp (1000000*sqd a b) (by omega)) ?_
 exact gg rfl (q08 rfl rfl rfl trivial rfl)
end Go.F

namespace Go.F
attribute [local irreducible] IntKind.wrap wpM
def q4y (fr to at_:Int):Prop:=fr<1∨1099511627776<fr∨to<0∨1099511627776<to∨at_<0∨fr<at_
instance (a b c:Int):Decidable (q4y a b c):=by unfold q4y;exact inferInstance
def q3v (fr to:Int)(rev:Bool)(at_:Int):Int×Int:=
 if q4y fr to at_ then(0,3)else(if rev then to-q1u (at_*to) fr else q1u (at_*to) fr,0)
theorem qmV {a b:Nat}(hb:0<b):q1u (a:Int) b=((a/b+if b≤2*(a%b)then 1 else 0:Nat):Int):=by
 rw[q1u,if_neg (by omega)]
 have h1:=Nat.div_add_mod a b
 have h2:=Nat.mod_lt a hb
 generalize a/b=q at*
 generalize a%b=r at*
 have e:(2*(a:Int)+b)=(2*(r:Int)+b)+(2*(b:Int)) *q:=by
  rw[←h1];simp only[Int.natCast_add,Int.natCast_mul];grind
 rw[e,Int.add_mul_ediv_left _ _ (by omega)]
 split
 ·have:(2*(r:Int)+b)/(2*b)=1:=by
   rw[Int.ediv_eq_iff_of_pos (by omega)];omega
  rw[this];omega
 have:(2*(r:Int)+b)/(2*b)=0:=Int.ediv_eq_zero_of_lt (by omega) (by omega)
 rw[this];omega
set_option maxHeartbeats 2000000 in
theorem qov (fr to:Int)(rev:Bool)(at_:Int):PU qoR [.int .i64 fr,.int .i64 to,.bool rev,.int .i64 at_]=some (.tup [.int .i64 (q3v fr to rev at_).1,.int .i64 (q3v fr to rev at_).2]):=by
 by_cases hb:q4y fr to at_
 ·rw[q3v,if_pos hb]
  unfold q4y at hb
  refine q0g (fn:=q81) rfl (q0a ?_)
  repeat' (first
   |refine goP 800 rfl rfl ?_
   |refine q0h rfl ?_|refine q0n rfl ?_|refine q09 rfl (fun _=>?_) (fun _=>?_)
   |refine q0d rfl ?_|refine q0j rfl ?_|refine q01 rfl (fun _=>?_) (fun _=>?_)
   |refine q0N rfl (fun _=>?_) (fun _=>?_)
   |refine q08 rfl rfl rfl trivial ?_)
  all_goals first
   |rfl
   |(exfalso;simp only[q06,q07]at*;omega)
 rw[q3v,if_neg hb]
 unfold q4y at hb
 obtain⟨F,rfl⟩:∃n:Nat,fr=n:=⟨fr.toNat,by omega⟩
 obtain⟨T,rfl⟩:∃n:Nat,to=n:=⟨to.toNat,by omega⟩
 obtain⟨A,rfl⟩:∃n:Nat,at_=n:=⟨at_.toNat,by omega⟩
 have hF:0<F:=by omega
 have hprod:A*T≤F*T:=Nat.mul_le_mul_right _ (by omega)
 have hm:=qEt A T (by omega) (by omega)
 have hquo:A*T/F≤T:=by
  rw[Nat.div_le_iff_le_mul_add_pred hF]
  omega
 have hhi:A*T/18446744073709551616<F:=by
  rw[Nat.div_lt_iff_lt_mul (by decide)]
  exact Nat.lt_of_le_of_lt hprod (Nat.mul_lt_mul_of_pos_left (by omega) hF)
 have hd:=qEu (A*T/18446744073709551616) (A*T%18446744073709551616) F hhi (by omega) (Nat.mod_lt _ (by decide))
 have e0:A*T/18446744073709551616*18446744073709551616+A*T%18446744073709551616=A*T:=by
  have:=Nat.div_add_mod (A*T) 18446744073709551616
  rw[Nat.mul_comm]at this;exact this
 rw[e0]at hd
 have hr:=qmV (a:=A*T) hF
 rw[Int.natCast_mul]at hr
 rw[hr]
 have hmod:=Nat.mod_lt (A*T) hF
 have w1:IntKind.u64.wrap ((A:Nat):Int)=(A:Int):=q0C (by omega)
 have w2:IntKind.u64.wrap ((T:Nat):Int)=(T:Int):=q0C (by omega)
 have w3:IntKind.u64.wrap ((F:Nat):Int)=(F:Int):=q0C (by omega)
 have no:∀{x y:Int} {P:Prop},¬x<y→ltb x y=true→P:=fun h g=>absurd (q06.1 g) h
 generalize A*T/F=q at*
 generalize A*T%F=r at*
 have w4:IntKind.u64.wrap (2*(r:Int))=((2*r:Nat):Int):=qb9 (x:=2) (by omega)
 have w5:IntKind.u64.wrap ((q:Int)+1)=((q+1:Nat):Int):=qcw (y:=1) (by omega)
 refine q0g (fn:=q81) rfl (q0a ?_)
 refine gg rfl (q09 rfl (no (by omega)) (fun _=>?_))
 refine gg rfl (q09 rfl (no (by omega)) (fun _=>?_))
 refine gg rfl (q09 rfl (no (by omega)) (fun _=>?_))
 refine gg rfl (q09 rfl (no (by omega)) (fun _=>?_))
 refine gg rfl (q09 rfl (no (by omega)) (fun _=>?_))
 refine gg rfl (q01 rfl (no (by omega)) (fun _=>?_))
 refine gg rfl ?_
 rw[w1,w2]
 refine q02 rfl rfl hm (gg rfl ?_)
 rw[w3]
 refine q02 rfl rfl hd (gg rfl ?_)
 rw[w4,w3]
 refine q01 rfl (fun g=>?_) (fun g=>?_)
 ·rw[q0E]at g
  have ei:(if F≤2*r then 1 else 0:Nat)=1:=if_pos (by omega)
  simp only[ei]
  have w6:=ww (x:=((q+1:Nat):Int))
  have w7:=ww (x:=(T:Int)-((q+1:Nat):Int))
  refine gg rfl ?_
  rw[w5,w6]
  cases rev with
  |true=>
   refine q0d rfl (gg rfl ?_)
   rw[w7]
   exact q08 rfl rfl rfl trivial rfl
  |false=>
   exact q0j rfl (gg rfl (q08 rfl rfl rfl trivial rfl))
 rw[q0F]at g
 have ei:(if F≤2*r then 1 else 0:Nat)=0:=if_neg (by omega)
 simp only[ei]
 have w6:=ww (x:=((q:Nat):Int))
 have w7:=ww (x:=(T:Int)-((q:Nat):Int))
 refine gg rfl ?_
 rw[w6]
 cases rev with
 |true=>
  refine q0d rfl (gg rfl ?_)
  rw[w7]
  exact q08 rfl rfl rfl trivial rfl
 |false=>
  exact q0j rfl (gg rfl (q08 rfl rfl rfl trivial rfl))
def q1w (p:Piece)(g:List Edge)(n:Ntc):Int×Int:=
 if n.edge<0∨(p.edges.length:Int)≤n.edge then(0,3)
 else if(q17 (eg p.edges n.edge.toNat).line).2≠0 then(0,(q17 (eg p.edges n.edge.toNat).line).2)
 else if(q17 (eg g n.edge.toNat).line).2≠0 then(0,(q17 (eg g n.edge.toNat).line).2)
 else q3v (q17 (eg p.edges n.edge.toNat).line).1 (q17 (eg g n.edge.toNat).line).1 false n.at_
def q2A (p:Piece)(g:List Edge):List Ntc→Int
 |[]=>0
 |n::l=>if(q1w p g n).2=0 then q2A p g l else(q1w p g n).2
def q0S (p:Piece)(m:Int):List Int×Int:=
 if(q0p p m).2≠0 then([],(q0p p m).2)
 else if 16<p.notches.length then([],5)
 else if q2A p (q0p p m).1 p.notches≠0 then([],q2A p (q0p p m).1 p.notches)
 else(p.notches.map fun n=>(q1w p (q0p p m).1 n).1,0)
theorem q2b {p:Piece}{m:Int}(h:(q0p p m).2=0):(q0p p m).1.length=p.edges.length∧q0J p.edges=0∧q0J (q0p p m).1=0∧p.corners.length=p.edges.length:=by
 unfold q0p at h⊢
 split at h
 ·cases h
 rename_i h1
 rw[if_neg h1]
 split at h
 ·cases h
 rename_i h2
 rw[if_neg h2]
 split at h
 ·cases h
 rename_i h3
 rw[if_neg h3]
 split at h
 ·rename_i h4;exact absurd h h4
 rename_i h4
 rw[if_neg h4]
 split at h
 ·rename_i h5;exact absurd h h5
 rename_i h5
 rw[if_neg h5]
 exact⟨by simp[q3E],by simpa using h4,by simpa using h5,by simpa using h2⟩
set_option maxHeartbeats 4000000 in
theorem qC8 (p:Piece)(m:Int)(hc:p.corners.length≤1000000):
 PU qoQ [p.enc,.int .i64 m]=some (.tup [ints (q0S p m).1,edges (if(q0S p m).2=0 then(q0p p m).1 else []),.int .i64 (q0S p m).2]):=by
 refine q0g (fn:=qdB) rfl (q0a ?_)
 refine gg rfl (q02 rfl rfl (q5F p m hc) (gg rfl (q01 rfl (fun h=>?_) (fun h=>?_))))
 ·rw[q0u]at h
  refine gg rfl (q08 rfl rfl rfl trivial ?_)
  rw[q0S,if_pos h,if_neg h];rfl
 have h:(q0p p m).2=0:=q0z.1 h
 obtain⟨hg,_,_⟩:=q2b h
 have hr:q0S p m=if 16<p.notches.length then([],5)
  else if q2A p (q0p p m).1 p.notches≠0 then([],q2A p (q0p p m).1 p.notches)
  else(p.notches.map fun n=>(q1w p (q0p p m).1 n).1,0):=by rw[q0S,if_neg (by omega)]
 rw[hr]
 generalize (q0p p m).1=G at*
 refine gg rfl ?_
 rw[List.length_map]
 refine q01 rfl (fun h2=>?_) (fun h2=>?_)
 ·rw[q06]at h2
  refine gg rfl (q08 rfl rfl rfl trivial ?_)
  rw[if_pos (by omega)];rfl
 rw[q07]at h2
 rw[if_neg (by omega)]
 refine gg rfl ?_
 rw[List.length_map]
 refine q0l (S:=fun k:Nat=>([.ptr 0 0 0,edges G,.ref 2 0 k,qgD p.notches,q00 p.notches.length,q00 k],[some (.row [p.enc] 7),none,some (.row (((p.notches.take k).map fun n=>(q1w p G n).1).map q00) 1),none,none,none],[0,0,0,0,0,0])) (C:=fun k=>k≤p.notches.length∧q2A p G p.notches=q2A p G (p.notches.drop k)) (m:=fun k=>p.notches.length-k) 0 ⟨Nat.zero_le _,rfl⟩ (by omega) ?_ ?_
 ·exact q03 rfl ⟨rfl,rfl,trivial⟩ rfl
 rintro k ⟨hk,hke⟩ N hN
 refine gg rfl (q01 rfl (fun e1=>?_) (fun e1=>?_))
 ·rw[q06]at e1
  have hlt:k<p.notches.length:=by omega
  have w1:=wS (n:=k)
  have hdr:p.notches.drop k=nt p.notches k::p.notches.drop (k+1):=by rw[List.drop_eq_getElem_cons hlt,qv5 hlt]
  have hst:(((p.notches.take (k+1)).map fun n=>(q1w p G n).1).map q00)=((p.notches.take k).map fun n=>(q1w p G n).1).map q00++[q00 (q1w p G (nt p.notches k)).1]:=by
   rw[List.take_succ_eq_append_getElem hlt,List.map_append,List.map_append,qv5 hlt];rfl
  have hne:=qv6 hlt
  rw[hdr,q2A]at hke
  generalize nt p.notches k=n at*
  have bad:(q1w p G n).2≠0→q2A p G p.notches=(q1w p G n).2:=fun h=>by rw[hke,if_neg h]
  refine gg rfl (q0i k rfl rfl rfl hne rfl (gg rfl (q09 rfl (fun f1=>?_) (fun f1=>?_))))
  ·rw[q06]at f1
   have hn:q1w p G n=(0,3):=by rw[q1w,if_pos (.inl f1)]
   rw[hn]at bad
   refine gg rfl (q0d rfl (gg rfl (q04 (gg rfl (q08 rfl rfl rfl trivial ?_)))))
   rw[bad (by decide)];rfl
  rw[q07]at f1
  refine gg rfl ?_
  rw[List.length_map]
  refine q01 rfl (fun f2=>?_) (fun f2=>?_)
  ·rw[q0E]at f2
   have hn:q1w p G n=(0,3):=by rw[q1w,if_pos (.inr f2)]
   rw[hn]at bad
   refine gg rfl (q04 (gg rfl (q08 rfl rfl rfl trivial ?_)))
   rw[bad (by decide)];rfl
  rw[q0F]at f2
  have ei:n.edge=((n.edge.toNat:Nat):Int):=by omega
  have hl1:n.edge.toNat<p.edges.length:=by omega
  have hl2:n.edge.toNat<G.length:=by omega
  have l1:=q5s (eg p.edges n.edge.toNat).line
  have l2:=q5s (eg G n.edge.toNat).line
  have hn0:q1w p G n=if(q17 (eg p.edges n.edge.toNat).line).2≠0 then(0,(q17 (eg p.edges n.edge.toNat).line).2)
   else if(q17 (eg G n.edge.toNat).line).2≠0 then(0,(q17 (eg G n.edge.toNat).line).2)
   else q3v (q17 (eg p.edges n.edge.toNat).line).1 (q17 (eg G n.edge.toNat).line).1 false n.at_:=by rw[q1w,if_neg (by omega)]
  refine gg rfl (q0i n.edge.toNat rfl rfl ei (q1K hl1) rfl (gg rfl (q02 rfl rfl l1 (gg rfl (q01 rfl (fun f3=>?_) (fun f3=>?_))))))
  ·rw[q0u]at f3
   rw[if_pos f3]at hn0
   rw[hn0]at bad
   refine gg rfl (q04 (gg rfl (q08 rfl rfl rfl trivial ?_)))
   rw[bad f3,if_pos f3,if_neg f3];rfl
  rw[q0z]at f3
  rw[if_neg (by simp[f3])]at hn0
  refine gg rfl (q0i n.edge.toNat rfl rfl ei (q1K hl2) rfl (gg rfl (q02 rfl rfl l2 (gg rfl (q01 rfl (fun f4=>?_) (fun f4=>?_))))))
  ·rw[q0u]at f4
   rw[if_pos f4]at hn0
   rw[hn0]at bad
   refine gg rfl (q04 (gg rfl (q08 rfl rfl rfl trivial ?_)))
   rw[bad f4,if_pos f4,if_neg f4];rfl
  rw[q0z]at f4
  rw[if_neg (by simp[f4])]at hn0
  refine gg rfl (q02 rfl rfl (qov (q17 (eg p.edges n.edge.toNat).line).1 (q17 (eg G n.edge.toNat).line).1 false n.at_) ?_)
  rw[←hn0]
  refine gg rfl (q01 rfl (fun f5=>?_) (fun f5=>?_))
  ·rw[q0u]at f5
   refine gg rfl (q04 (gg rfl (q08 rfl rfl rfl trivial ?_)))
   rw[bad f5,if_pos f5,if_neg f5];rfl
  rw[q0z]at f5
  rw[if_pos f5]at hke
  refine gg rfl (q1b rfl rfl rfl rfl rfl rfl (by simp;omega) (Nat.zero_le _) (by simp[q0M];omega) ?_)
  refine gg rfl (q04 (hN (k+1) ⟨hlt,hke⟩ (by omega) (q03 rfl ⟨rfl,?_,trivial⟩ ?_)))
  ·rw[List.all_append,q05 q5y];rfl
  rw[hst,w1];rfl
 rw[q07]at e1
 obtain rfl:k=p.notches.length:=by omega
 have hz:q2A p G p.notches=0:=by rw[hke,List.drop_length];rfl
 rw[hz,List.take_length]
 refine gg rfl (q04 (gg rfl (q08 rfl rfl rfl ⟨q2s (by simp) (q0W qeE _),trivial⟩ ?_)))
 rw[q2t (by simp)];rfl
theorem qaA (p:Piece)(m:Int)(hc:p.corners.length≤1000000):PU qoL [p.enc,.int .i64 m]=some (.tup [ints (q0S p m).1,.int .i64 (q0S p m).2]):=by
 have h:=qC8 p m hc
 refine q0g (fn:=qcT) rfl (q0a ?_)
 exact gg rfl (q02 rfl rfl h (gg rfl (q08 rfl rfl rfl trivial rfl)))
end Go.F

namespace Go.F
section
variable {T:Tab}{sh:Shr}{nx0:Nat}{s:List Fr}{t:q0x}{h:q0e}{z:Frz}{nx:Nat}{q:Ex→q0x→q0e→Frz→Nat→Prop}
variable {base i:Nat}{res:List Nat}{g:Gd}{rest:List KOper}
def qcj (t:q0x):Live→List Rep→q0e→Frz→Option (List Obl×q0e×Frz)
 |[],_,h,z=>some ([],h,z)
 |x::rest,reps,h,z=>
  match q28 (t x.1)with
  |none=>
   match plain 4 (t x.1)with
   |true=>qcj t rest reps h z
   |false=>none
  |some id=>
   match h id with
   |some (.row es esz)=>
    match reps with
    |[]=>none
    |none::reps=>
     match qcj t rest reps h z with
     |some (o,h',z')=>some (.p es::o,h',z')
     |none=>none
    |some (l,rs)::reps=>
     match qcj t rest reps (upd h id (some (.row l esz))) (q8k h z rs)with
     |some (o,h',z')=>some (.s h es l rs::o,h',z')
     |none=>none
   |some (.mp _ vs)=>
    match qcj t rest reps h z with
    |some (o,h',z')=>some (.p vs::o,h',z')
    |none=>none
   |none=>qcj t rest reps h z
theorem qFd {t:q0x}:∀{live:Live} {reps:List Rep} {h:q0e} {z:Frz} {o:List Obl} {h':q0e} {z':Frz} {k:q0e→Frz→Prop},qcj t live reps h z=some (o,h',z')→qjU o→k h' z'→q34 live t h z k:=by
 intro live
 induction live with
 |nil=>intro reps h z o h' z' k hr _ hk;simp only[qcj,Option.some.injEq,Prod.mk.injEq]at hr;obtain⟨_,rfl,rfl⟩:=hr;exact hk
 |cons x live ih=>
  intro reps h z o h' z' k hr ho hk
  simp only[qcj]at hr
  simp only[q34]
  cases hid:q28 (t x.1)with
  |none=>
   rw[hid]at hr
   simp only at hr⊢
   cases hb:plain 4 (t x.1)with
   |true=>rw[hb]at hr;exact ih hr ho hk
   |false=>rw[hb]at hr;cases hr
  |some id=>
   rw[hid]at hr
   simp only at hr⊢
   cases hb:h id with
   |none=>rw[hb]at hr;exact ih hr ho hk
   |some b=>
    rw[hb]at hr
    cases b with
    |mp ks vs=>
     simp only at hr⊢
     cases hx:qcj t live reps h z with
     |none=>rw[hx]at hr;cases hr
     |some y=>
      obtain⟨o1,h1,z1⟩:=y
      rw[hx]at hr
      simp only[Option.some.injEq,Prod.mk.injEq]at hr
      obtain⟨rfl,rfl,rfl⟩:=hr
      exact q1t ho.1 (ih hx ho.2 hk)
    |row es esz=>
     simp only at hr⊢
     match reps,hr with
     |none::reps,hr=>
      simp only at hr
      cases hx:qcj t live reps h z with
      |none=>rw[hx]at hr;cases hr
      |some y=>
       obtain⟨o1,h1,z1⟩:=y
       rw[hx]at hr
       simp only[Option.some.injEq,Prod.mk.injEq]at hr
       obtain⟨rfl,rfl,rfl⟩:=hr
       unfold qbh
       exact .inl ⟨ho.1,ih hx ho.2 hk⟩
     |some (l,rs)::reps,hr=>
      simp only at hr
      cases hx:qcj t live reps (upd h id (some (.row l esz))) (q8k h z rs)with
      |none=>rw[hx]at hr;cases hr
      |some y=>
       obtain⟨o1,h1,z1⟩:=y
       rw[hx]at hr
       simp only[Option.some.injEq,Prod.mk.injEq]at hr
       obtain⟨rfl,rfl,rfl⟩:=hr
       obtain⟨g1,g2,g3,g4⟩:=ho.1
       unfold qbh
       exact .inr ⟨l,rs,g1,g2,g3,g4,ih hx ho.2 hk⟩
def setZ (live:Live)(reps:List Rep)(t:q0x)(h:q0e)(z:Frz)(nx:Nat):Option (List Obl×Kept):=
 match qcs live t h z nx with
 |(t,h,z)=>
  match qcj t live reps h z with
  |some (o,h',z')=>fL1 (q9M 0 (q0B t live) t live) fun vs=>fLi (q9N 0 (q0B t live) h' (q0B t live) 0) fun bs=>fLi (qie 0 (q0B t live) z' (q0B t live) 0) fun zs=>some (o,vs,bs,zs)
  |none=>none
theorem qAW {live:Live}(reps:List Rep){o:List Obl}{kp:Kept}{K:Kept→Prop}(hs:setZ live reps t h z nx=some (o,kp))(hp:qjU o)(hk:K kp)(hnst:q5p live=false:=by rfl):q12 0 live t h z nx fun _ _ kp=>K kp:=by
 unfold setZ at hs
 split at hs
 rename_i t1 h1 z1 hn
 split at hs
 ·rename_i o1 h2 z2 hr
  simp only[q5u,qq7,Option.some.injEq,Prod.mk.injEq]at hs
  obtain⟨rfl,rfl⟩:=hs
  unfold q12
  simp only[hnst]
  unfold q6U
  refine qiP _ _ _ _ _ _ fun nx'=>?_
  rw[hn]
  refine qFd hr hp ?_
  rw[q6t,q6u]
  exact hk
 cases hs
def qe3 (m:List (ByteArray×D))(s:ByteArray):Option D:=(m.find? fun p=>s==p.1).map (·.2)
theorem q9o (m:List (ByteArray×D))(s:ByteArray):∀n,match findKey s (m.map (·.1)) n with
 |some i=>n≤i∧∃v,(m.map (·.2))[i-n]?=some v∧qe3 m s=some v
 |none=>qe3 m s=none:=by
 induction m with
 |nil=>intro n;rfl
 |cons p m ih=>
  intro n
  simp only[List.map_cons,findKey]
  by_cases e:(s==p.1)=true
  ·rw[if_pos e]
   refine⟨Nat.le_refl _,p.2,by simp,by simp[qe3,List.find?_cons,e]⟩
  rw[if_neg e]
  have h:=ih (n+1)
  have em:qe3 (p::m) s=qe3 m s:=by
   unfold qe3;rw[List.find?_cons]
   simp only[Bool.not_eq_true]at e
   rw[e]
  cases hf:findKey s (m.map (·.1)) (n+1)with
  |none=>rw[hf]at h;simp only at h⊢;rw[em];exact h
  |some i=>
   rw[hf]at h
   simp only at h⊢
   obtain⟨h1,v,h2,h3⟩:=h
   refine⟨by omega,v,?_,by rw[em];exact h3⟩
   have:i-n=(i-(n+1))+1:=by omega
   rw[this,List.getElem?_cons_succ];exact h2
theorem atPut {mx kx vx:X}{dst:Option Nat}{m:List (ByteArray×D)}{st:ByteArray}{id:Nat}(hx:mx.ev t=.mref id)(hh:g.h base h id=some (.mp (m.map (·.1)) (m.map (·.2))))(hz:g.z base z id=0)(hkx:kx.ev t=.str st)(hn:qe3 m st=none)
 (hk:wpM T sh nx0 (.ops base res rest::s) .normal (put t dst (.tup [])) (upd h id (some (.mp ((m++[(st,vx.ev t)]).map (·.1)) ((m++[(st,vx.ev t)]).map (·.2))))) z nx q):
 wpM T sh nx0 (.ops base res (⟨i,dst,none,g,.mapset mx kx vx⟩::rest)::s) .normal t h z nx q:=by
 refine q3t ?_
 have hf:=q9o m st 0
 simp only[kop,qmW,hx,hh,hkx,hz,qu3]
 cases hk':findKey st (m.map (·.1)) 0 with
 |none=>rw[List.map_append,List.map_append]at hk;exact hk
 |some j=>
  rw[hk']at hf
  obtain⟨_,v,h2,h3⟩:=hf
  rw[hn]at h3;cases h3
end
end Go.F

namespace Go.F
attribute [local irreducible] IntKind.wrap wpM
section
variable {T:Tab}{sh:Shr}{nx0:Nat}{s:List Fr}{t:q0x}{h:q0e}{z:Frz}{nx:Nat}{q:Ex→q0x→q0e→Frz→Nat→Prop}
variable {base i:Nat}{res:List Nat}{g:Gd}{rest:List KOper}
end
def q2S (n:Nat):Bool:=(decide (65≤n)&&decide (n≤90)) ||(decide (48≤n)&&decide (n≤57))
def sizeS (s:ByteArray):Bool:=decide (1≤s.size)&&(decide (s.size≤8)&&decide (∀i,i<s.size→q2S (q2u s i).toNat=true))
theorem qy1 {s:ByteArray}{k:Nat}(hk:k<s.size)(h:q2S (q2u s k).toNat=false):sizeS s=false:=by
 unfold sizeS
 rw[Bool.and_eq_false_iff,Bool.and_eq_false_iff]
 right;right
 rw[decide_eq_false_iff_not]
 intro g
 rw[g k hk]at h;cases h
theorem q1y (n:Nat):q2S n=((leb 65 n&&leb n 90) ||(leb 48 n&&leb n 57)):=by
 simp only[q2S,q27]
 congr 1
 ·congr 1<;>(apply decide_eq_decide.2;omega)
 congr 1<;>(apply decide_eq_decide.2;omega)
set_option maxHeartbeats 2000000 in
theorem qmJ (s:ByteArray)(hs:s.size≤1000000):PU qoT [.str s]=some (.bool (sizeS s)):=by
 refine q0g (fn:=qdn) rfl (q0a ?_)
 refine gg rfl (q0l (S:=fun k:Nat=>([.str s,q00 s.size,q00 k],[none,none,none],[0,0,0])) (C:=fun k=>k≤s.size∧∀i,i<k→q2S (q2u s i).toNat=true) (m:=fun k=>s.size-k) 0 ⟨by omega,fun i hi=>by omega⟩ (by omega) ?_ ?_)
 ·exact q03 rfl trivial (by simp[q00])
 intro k ⟨hk,hall⟩ N hN
 refine gg rfl (q01 rfl (fun g1=>?_) (fun g1=>?_))
 ·rw[q06]at g1
  have hlt:k<s.size:=by omega
  have w1:=wS (n:=k)
  have hb:=q6j hlt
  have hno:=qy1 hlt
  have hyes:q2S (q2u s k).toNat=true→∀i,i<k+1→q2S (q2u s i).toNat=true:=by
   intro h i hi
   by_cases e:i=k
   ·subst e;exact h
   exact hall i (by omega)
  generalize q2u s k=c at*
  refine gg rfl (q2f k rfl rfl rfl hb (gg rfl (q09 rfl (fun a1=>?_) (fun a1=>?_))))
  ·refine gg rfl (q2f k rfl rfl rfl hb (gg rfl (q2f k rfl rfl rfl hb (gg rfl (q09 rfl (fun d1=>?_) (fun d1=>?_))))))
   ·refine gg rfl (q2f k rfl rfl rfl hb (gg rfl (q09 rfl (fun e1=>?_) (fun e1=>?_))))
    ·refine gg rfl (q01 rfl (fun e2=>?_) (fun e2=>?_))
     ·have hc:q2S c.toNat=false:=by rw[q1y];simp_all
      refine gg rfl (q04 (gg rfl (q08 rfl rfl rfl trivial ?_)))
      rw[hno hc]
     have hc:q2S c.toNat=true:=by rw[q1y];simp_all
     exact gg rfl (q04 (hN (k+1) ⟨hlt,hyes hc⟩ (by omega) (q03 rfl trivial (by simp[q00,w1]))))
    refine gg rfl (q0j rfl ?_)
    have hc:q2S c.toNat=true:=by rw[q1y];simp_all
    exact gg rfl (q04 (hN (k+1) ⟨hlt,hyes hc⟩ (by omega) (q03 rfl trivial (by simp[q00,w1]))))
   refine gg rfl (q09 rfl (fun e1=>?_) (fun e1=>?_))
   ·refine gg rfl (q01 rfl (fun e2=>?_) (fun e2=>?_))
    ·have hc:q2S c.toNat=false:=by rw[q1y];simp_all
     refine gg rfl (q04 (gg rfl (q08 rfl rfl rfl trivial ?_)))
     rw[hno hc]
    have hc:q2S c.toNat=true:=by rw[q1y];simp_all
    exact gg rfl (q04 (hN (k+1) ⟨hlt,hyes hc⟩ (by omega) (q03 rfl trivial (by simp[q00,w1]))))
   refine gg rfl (q0j rfl ?_)
   have hc:q2S c.toNat=true:=by rw[q1y];simp_all
   exact gg rfl (q04 (hN (k+1) ⟨hlt,hyes hc⟩ (by omega) (q03 rfl trivial (by simp[q00,w1]))))
  refine gg rfl (q2f k rfl rfl rfl hb (gg rfl (q09 rfl (fun d1=>?_) (fun d1=>?_))))
  ·refine gg rfl (q2f k rfl rfl rfl hb (gg rfl (q09 rfl (fun e1=>?_) (fun e1=>?_))))
   ·refine gg rfl (q01 rfl (fun e2=>?_) (fun e2=>?_))
    ·have hc:q2S c.toNat=false:=by rw[q1y];simp_all
     refine gg rfl (q04 (gg rfl (q08 rfl rfl rfl trivial ?_)))
     rw[hno hc]
    have hc:q2S c.toNat=true:=by rw[q1y];simp_all
    exact gg rfl (q04 (hN (k+1) ⟨hlt,hyes hc⟩ (by omega) (q03 rfl trivial (by simp[q00,w1]))))
   refine gg rfl (q0j rfl ?_)
   have hc:q2S c.toNat=true:=by rw[q1y];simp_all
   exact gg rfl (q04 (hN (k+1) ⟨hlt,hyes hc⟩ (by omega) (q03 rfl trivial (by simp[q00,w1]))))
  refine gg rfl (q09 rfl (fun e1=>?_) (fun e1=>?_))
  ·refine gg rfl (q01 rfl (fun e2=>?_) (fun e2=>?_))
   ·have hc:q2S c.toNat=false:=by rw[q1y];simp_all
    refine gg rfl (q04 (gg rfl (q08 rfl rfl rfl trivial ?_)))
    rw[hno hc]
   have hc:q2S c.toNat=true:=by rw[q1y];simp_all
   exact gg rfl (q04 (hN (k+1) ⟨hlt,hyes hc⟩ (by omega) (q03 rfl trivial (by simp[q00,w1]))))
  refine gg rfl (q0j rfl ?_)
  have hc:q2S c.toNat=true:=by rw[q1y];simp_all
  exact gg rfl (q04 (hN (k+1) ⟨hlt,hyes hc⟩ (by omega) (q03 rfl trivial (by simp[q00,w1]))))
 rw[q07]at g1
 obtain rfl:k=s.size:=by omega
 have hA:decide (∀i,i<s.size→q2S (q2u s i).toNat=true)=true:=decide_eq_true hall
 refine gg rfl (q04 (gg rfl (q09 rfl (fun h1=>?_) (fun h1=>?_))))
 ·rw[q0E]at h1
  refine gg rfl (q08 rfl rfl rfl trivial ?_)
  rw[sizeS,hA,q27,decide_eq_true (show 1≤s.size by omega)]
  simp
  omega
 rw[q0F]at h1
 refine gg rfl (q08 rfl rfl rfl trivial ?_)
 rw[sizeS,decide_eq_false (show¬1≤s.size by omega)];rfl
theorem qcr (s:ByteArray):PU qoJ [.str s]=some (.bool (q1M s)):=by
 refine q0g (fn:=qdx) rfl (q0a ?_)
 refine gg rfl (q02 rfl rfl (qay s) ?_)
 repeat' (first
  |refine goP 800 rfl rfl ?_
  |refine q0h rfl ?_|refine q0n rfl ?_|refine q09 rfl (fun _=>?_) (fun _=>?_)
  |refine q0d rfl ?_|refine q0j rfl ?_|refine q01 rfl (fun _=>?_) (fun _=>?_)
  |refine q0N rfl (fun _=>?_) (fun _=>?_)
  |refine q08 rfl rfl rfl trivial ?_)
 cases q1M s<;>simp[eqb]
theorem qrt (s:ByteArray):PU q7a [.lst [],.str s]=some (.int .i64 (-1)):=by
 refine q0g (fn:=q3P) rfl (q0a ?_)
 refine gg rfl (q0l (S:=fun k:Nat=>([.lst [],.str s,q00 0,q00 k],[none,none,none,none],[0,0,0,0])) (C:=fun k=>k=0) (m:=fun k=>0) 0 rfl (by omega) ?_ ?_)
 ·exact q03 rfl trivial rfl
 rintro k rfl N hN
 refine gg rfl (q01 rfl (fun g=>absurd (q06.1 g) (by simp)) (fun _=>?_))
 exact gg rfl (q04 (gg rfl (q08 rfl rfl rfl trivial rfl)))
theorem qjP (s:ByteArray):PU q67 [.lst [],.str s]=some (.bool false):=by
 refine q0g (fn:=q3m) rfl (q0a ?_)
 refine gg rfl (q02 rfl rfl (qrt s) (gg rfl (q08 rfl rfl rfl trivial ?_)))
 rw[q27];rfl
def qjQ (s:ByteArray):D:=.agg [.lst [.str s],.int .i64 0,.lst []]
theorem qAi (s:ByteArray):PU qmt [qjQ s,.int .i64 0]=some (.bool true):=by
 refine q0g (fn:=qbZ) rfl (q0a ?_)
 repeat' (first
  |refine goP 800 rfl rfl ?_
  |refine q0h rfl ?_|refine q0n rfl ?_|refine q09 rfl (fun _=>?_) (fun _=>?_)
  |refine q0d rfl ?_|refine q0j rfl ?_|refine q01 rfl (fun _=>?_) (fun _=>?_)
  |refine q0N rfl (fun _=>?_) (fun _=>?_)
  |refine q08 rfl rfl rfl trivial ?_)
 all_goals (first|rfl|(simp_all[q27,q1J];done) |(simp only[q0F,q07]at*;omega))
set_option maxHeartbeats 4000000 in
theorem qq6 (s:ByteArray)(hs:s.size≤1000000):PU qqQ [qjQ s]=some (.int .i64 (if sizeS s then 0 else 1)):=by
 have hz:=qmJ s hs
 refine q0g (fn:=qfF) rfl (q0a ?_)
 refine gg rfl (q09 rfl (fun g=>absurd (q06.1 g) (by simp)) (fun _=>?_))
 refine gg rfl (q01 rfl (fun g=>absurd (q06.1 g) (by simp)) (fun _=>?_))
 refine gg rfl (q01 rfl (fun g=>absurd (q1n.1 g) (by simp)) (fun _=>?_))
 refine gg rfl (q0l (S:=fun k:Nat=>([.ptr 0 0 0,.lst [.str s],q00 1,q00 k],[some (.row [qjQ s] 3),none,none,none],[0,0,0,0])) (C:=fun k=>k≤1∧(k=1→sizeS s=true)) (m:=fun k=>1-k) 0 ⟨by omega,fun h=>by omega⟩ (by omega) ?_ ?_)
 ·exact q03 rfl ⟨rfl,trivial⟩ rfl
 rintro k ⟨hk,hks⟩ N hN
 refine gg rfl (q01 rfl (fun g=>?_) (fun g=>?_))
 ·rw[q06]at g
  obtain rfl:k=0:=by omega
  refine gg rfl (q0i 0 rfl rfl rfl rfl rfl (gg rfl (q02 rfl rfl hz ?_)))
  cases hv:sizeS s with
  |false=>
   exact gg rfl (q0d rfl (gg rfl (q04 (gg rfl (q08 rfl rfl rfl trivial rfl)))))
  |true=>
   refine gg rfl (q0j rfl (gg rfl (q04 (hN 1 ⟨by omega,fun _=>hv⟩ (by omega) (q03 rfl ⟨rfl,trivial⟩ ?_)))))
   have w:IntKind.i64.wrap (((0:Nat):Int)+1)=((1:Nat):Int):=ww
   rw[w];rfl
 rw[q07]at g
 obtain rfl:k=1:=by omega
 clear hN
 rw[hks rfl]
 refine gg rfl (q04 (gg rfl (q0l (S:=fun k:Nat=>([.ptr 0 0 0,.lst [],q00 0,q00 0],[some (.row [qjQ s] 3),none,none,none],[0,0,0,0])) (C:=fun k=>k=0) (m:=fun k=>0) 0 rfl (by omega) ?_ ?_)))
 ·exact q03 rfl ⟨rfl,trivial⟩ rfl
 rintro k rfl N hN
 refine gg rfl (q01 rfl (fun g=>absurd (q06.1 g) (by simp)) (fun _=>?_))
 clear hN
 refine gg rfl (q04 (gg rfl (q0l (S:=fun k:Nat=>([.ptr 0 0 0,.lst [.str s],q00 1,q00 k],[some (.row [qjQ s] 3),none,none,none],[0,0,0,0])) (C:=fun k=>k≤1) (m:=fun k=>1-k) 0 (by omega) (by omega) ?_ ?_)))
 ·exact q03 rfl ⟨rfl,trivial⟩ rfl
 intro k hk N hN
 refine gg rfl (q01 rfl (fun g=>?_) (fun g=>?_))
 ·rw[q06]at g
  obtain rfl:k=0:=by omega
  refine gg rfl (q0i 0 rfl rfl rfl rfl rfl (gg rfl (qcK 0 rfl rfl ⟨_,_,rfl,rfl⟩ (Nat.zero_le _) (gg rfl (q02 rfl rfl (qjP s) (gg rfl (q0j rfl (gg rfl (q04 (hN 1 (by omega) (by omega) (q03 rfl ⟨rfl,trivial⟩ ?_)))))))))))
  have w:IntKind.i64.wrap (((0:Nat):Int)+1)=((1:Nat):Int):=ww
  rw[w];rfl
 rw[q07]at g
 clear hN
 refine gg rfl (q04 (gg rfl (q0l (S:=fun k:Nat=>([.ptr 0 0 0,.lst [],q00 0,q00 0],[some (.row [qjQ s] 3),none,none,none],[0,0,0,0])) (C:=fun k=>k=0) (m:=fun k=>0) 0 rfl (by omega) ?_ ?_)))
 ·exact q03 rfl ⟨rfl,trivial⟩ rfl
 rintro k rfl N hN
 refine gg rfl (q01 rfl (fun g=>absurd (q06.1 g) (by simp)) (fun _=>?_))
 clear hN
 exact gg rfl (q04 (gg rfl (q02 rfl rfl (qAi s) (gg rfl (q0j rfl (gg rfl (q08 rfl rfl rfl trivial rfl)))))))
theorem qmK (s:ByteArray)(hs:s.size≤1000000):PU qoK [.str s]=some (.bool (sizeS s)):=by
 have hz:=qq6 s hs
 refine q0g (fn:=qdi) rfl (q0a ?_)
 refine gg rfl (q6N rfl rfl ⟨⟨Nat.le_refl _,rfl⟩,trivial⟩ hz rfl (gg rfl (q08 rfl rfl rfl trivial ?_)))
 cases sizeS s<;>simp[q2e]
theorem qv7 (l:List Int)(v:Int)(hl:l.length≤1000000):PU qbf [ints l,.int .i64 v]=some (.int .i64 (qdO (fun x=>decide (v=x)) l)):=by
 refine q0g (fn:=q5R) rfl (q0a ?_)
 refine gg rfl ?_
 rw[List.length_map]
 refine q0l (S:=fun k:Nat=>([ints l,.int .i64 v,q00 l.length,q00 k],[none,none,none,none],[0,0,0,0])) (C:=fun k=>k≤l.length∧∀j (hj:j<l.length),j<k→decide (v=l[j])=false) (m:=fun k=>l.length-k) 0 ⟨Nat.zero_le _,fun j _ h=>by omega⟩ (by omega) ?_ ?_
 ·exact q03 rfl trivial (by simp[ints,q00])
 rintro k ⟨hk,hno⟩ N hN
 refine gg rfl (q01 rfl (fun g=>?_) (fun g=>?_))
 ·rw[q06]at g
  have hlt:k<l.length:=by omega
  have w1:=wS (n:=k)
  refine gg rfl (q0i k rfl rfl rfl (q1A hlt) rfl (gg rfl (q01 rfl (fun e=>?_) (fun e=>?_))))
  ·rw[q1n]at e
   refine gg rfl (q04 (gg rfl (q08 rfl rfl rfl trivial ?_)))
   rw[qgh hlt hno (decide_eq_true e)]
  rw[q1Q]at e
  refine gg rfl (q04 (hN (k+1) ⟨hlt,fun j hj hjk=>?_⟩ (by omega) (q03 rfl trivial (by simp[ints,q00,w1]))))
  by_cases ej:j=k
  ·subst ej;exact decide_eq_false e
  exact hno j hj (by omega)
 rw[q07]at g
 obtain rfl:k=l.length:=by omega
 refine gg rfl (q04 (gg rfl (q08 rfl rfl rfl trivial ?_)))
 rw[qgi fun j hj=>hno j hj hj]
theorem qmL (l:List Int)(v:Int)(hl:l.length≤1000000):PU q8N [ints l,.int .i64 v]=some (.bool (decide (v∈l))):=by
 have h:=qv7 l v hl
 have e:decide (v∈l)=decide (0≤qdO (fun x=>decide (v=x)) l):=by
  rw[qbc]
  rw[Bool.eq_iff_iff]
  simp
 refine q0g (fn:=q4J) rfl (q0a ?_)
 refine gg rfl (q02 rfl rfl h (gg rfl (q08 rfl rfl rfl trivial ?_)))
 rw[e,q27]
end Go.F

namespace Go.F
attribute [local irreducible] IntKind.wrap wpM
section
variable {T:Tab}{sh:Shr}{nx0:Nat}{s:List Fr}{t:q0x}{h:q0e}{z:Frz}{nx:Nat}{q:Ex→q0x→q0e→Frz→Nat→Prop}
variable {base i:Nat}{res:List Nat}{g:Gd}{rest:List KOper}
theorem qHo {zv:D}{x kx:X}{dst:Nat}{m:List (ByteArray×D)}{st:ByteArray}{id:Nat}(hx:x.ev t=.mref id)(hh:g.h base h id=some (.mp (m.map (·.1)) (m.map (·.2))))(hkx:kx.ev t=.str st)
 (hs:∀v,qe3 m st=some v→wpM T sh nx0 (.ops base res rest::s) .normal (upd t dst v) h z nx q)
 (hn:qe3 m st=none→wpM T sh nx0 (.ops base res rest::s) .normal (upd t dst zv) h z nx q):
 wpM T sh nx0 (.ops base res (⟨i,some dst,none,g,.lookup zv x kx false⟩::rest)::s) .normal t h z nx q:=by
 refine q3t ?_
 have hf:=q9o m st 0
 simp only[kop,qid,hx,hh,q6m,hkx,qu3]
 cases hk:findKey st (m.map (·.1)) 0 with
 |none=>rw[hk]at hf;exact hn hf
 |some j=>
  rw[hk]at hf
  obtain⟨_,v,h2,h3⟩:=hf
  exact q9u h2 (hs v h3)
end
theorem qHp {a b:ByteArray}(h:a.toList=b.toList):a=b:=by
 rw[Go.ByteArray.toList_eq,Go.ByteArray.toList_eq]at h
 exact ByteArray.ext (Array.ext' h)
theorem ba_eq2 (a b:ByteArray):(a==b)=(a.toList==b.toList):=by
 have e:(a==b)=(a.data==b.data):=rfl
 rw[e,Bool.eq_iff_iff,beq_iff_eq,beq_iff_eq]
 exact⟨fun h=>by rw[Go.ByteArray.toList_eq,Go.ByteArray.toList_eq,h],fun h=>by rw[qHp h]⟩
def q71 (l:List ByteArray):List (ByteArray×D):=l.map fun x=>(x,D.bool true)
theorem qAj (l:List ByteArray)(x:ByteArray):q71 (l++[x])=q71 l++[(x,.bool true)]:=by simp[q71]
theorem qDA (l:List ByteArray)(s:ByteArray):qe3 (q71 l) s=cond (l.any fun x=>x.toList==s.toList) (some (.bool true)) none:=by
 induction l with
 |nil=>rfl
 |cons x l ih=>
  unfold qe3 q71 at*
  simp only[List.map_cons,List.find?_cons,List.any_cons]
  rw[ba_eq2,Bool.beq_comm]
  cases x.toList==s.toList with
  |true=>rfl
  |false=>exact ih
theorem qy2 (l:List ByteArray):((q71 l).map (·.2)).all (plain 4)=true:=by
 unfold q71;rw[List.map_map];exact q05 (fun _=>rfl) _
def q4P (l:List ByteArray):Bool:=(List.range l.length).any fun i=>(l.take i).any fun x=>x.toList==(sz l i).toList
def q2m (s:Sty):Int:=
 if q1M s.name=false∨s.sizes.length=0 then 1
 else if s.sizes.any (fun x=>!sizeS x)then 1
 else if s.mults.length≠s.sizes.length∨0∉s.mults then 1
 else if q4P s.sizes then 7
 else if 12<s.sizes.length∨12<s.pieces.length∨12<s.uses.length then 5
 else if 24<s.seams.length∨16<s.ops.length then 5
 else if s.mults.any (fun m=>decide (m< -100) ||decide (100<m))then 3 else 0
structure StyB (s:Sty):Prop where
 sizes:s.sizes.length≤1000
 size:∀x∈s.sizes,x.size≤1000
 mults:s.mults.length≤1000
 pieces:s.pieces.length≤1000
 uses:s.uses.length≤1000
 seams:s.seams.length≤1000
 ops:s.ops.length≤1000
 corners:∀p∈s.pieces,p.corners.length≤1000
 widths:∀p∈s.pieces,p.widths.length≤1000
 notches:∀p∈s.pieces,p.notches.length≤1000
theorem qeQ (s:Sty):s.enc=.agg [.str s.name,.lst (s.sizes.map .str),.lst (s.mults.map q00),.lst (s.pieces.map Piece.enc),.lst (s.uses.map Use.enc),.lst (s.seams.map Sew.enc),.lst (s.ops.map Opn.enc)]:=rfl
set_option maxHeartbeats 8000000 in
theorem qru (s:Sty)(hB:StyB s):PU qgo [s.enc]=some (.int .i64 (q2m s)):=by
 have b1:=hB.sizes
 have b2:=hB.mults
 refine q0g (fn:=q8d) rfl (q0a ?_)
 refine gg rfl (q02 rfl rfl (qcr s.name) ?_)
 cases hn:q1M s.name with
 |false=>
  refine gg rfl (q0h rfl (gg rfl (q0d rfl (gg rfl (q08 rfl rfl rfl trivial ?_)))))
  rw[q2m,if_pos (.inl hn)]
 |true=>
  refine gg rfl (q0n rfl (gg rfl ?_))
  rw[List.length_map]
  refine q01 rfl (fun g=>?_) (fun g=>?_)
  ·rw[q1n]at g
   refine gg rfl (q08 rfl rfl rfl trivial ?_)
   rw[q2m,if_pos (.inr (by omega))]
  rw[q1Q]at g
  have hc1:¬(q1M s.name=false∨s.sizes.length=0):=by
   rintro(h|h)
   ·rw[hn]at h;cases h
   omega
  refine gg rfl ?_
  rw[List.length_map]
  refine q0l (S:=fun k:Nat=>([.ptr 0 0 0,strs s.sizes,q00 s.sizes.length,q00 k],[some (.row [s.enc] 7),none,none,none],[0,0,0,0])) (C:=fun k=>k≤s.sizes.length∧∀j (hj:j<s.sizes.length),j<k→sizeS s.sizes[j]=true) (m:=fun k=>s.sizes.length-k) 0 ⟨Nat.zero_le _,fun j _ h=>by omega⟩ (by omega) ?_ ?_
  ·exact q03 rfl ⟨rfl,trivial⟩ rfl
  rintro k ⟨hk,hall⟩ N hN
  refine gg rfl (q01 rfl (fun e=>?_) (fun e=>?_))
  ·rw[q06]at e
   have hlt:k<s.sizes.length:=by omega
   have w1:=wS (n:=k)
   have hz:=qmK s.sizes[k] (by have:=hB.size _ (List.getElem_mem hlt);omega)
   refine gg rfl (q0i k rfl rfl rfl (q1A hlt) rfl (gg rfl (q02 rfl rfl hz ?_)))
   cases hv:sizeS s.sizes[k]with
   |false=>
    refine gg rfl (q0d rfl (gg rfl (q04 (gg rfl (q08 rfl rfl rfl trivial ?_)))))
    rw[q2m,if_neg hc1,if_pos (q29 hlt (by rw[hv];rfl))]
   |true=>
    refine gg rfl (q0j rfl (gg rfl (q04 (hN (k+1) ⟨hlt,fun j hj hjk=>?_⟩ (by omega) (q03 rfl ⟨rfl,trivial⟩ (by rw[w1];rfl))))))
    by_cases ej:j=k
    ·subst ej;exact hv
    exact hall j hj (by omega)
  rw[q07]at e
  obtain rfl:k=s.sizes.length:=by omega
  clear hN
  have hc2:¬(s.sizes.any (fun x=>!sizeS x))=true:=by rw[q1Z fun j hj=>by rw[hall j hj hj];rfl];decide
  refine gg rfl (q04 (gg rfl ?_))
  rw[List.length_map,List.length_map]
  refine q09 rfl (fun g2=>?_) (fun g2=>?_)
  ·rw[q0u]at g2
   refine gg rfl (q0d rfl (gg rfl (q08 rfl rfl rfl trivial ?_)))
   rw[q2m,if_neg hc1,if_neg hc2,if_pos (.inl (by omega))]
  rw[q0z]at g2
  have g2':s.mults.length=s.sizes.length:=by omega
  refine gg rfl (q02 rfl rfl (qmL s.mults 0 (by omega)) ?_)
  cases hz:decide (0∈s.mults)with
  |false=>
   have hz:=of_decide_eq_false hz
   refine gg rfl (q0d rfl (gg rfl (q08 rfl rfl rfl trivial ?_)))
   rw[q2m,if_neg hc1,if_neg hc2,if_pos (.inr hz)]
  |true=>
   have hz:=of_decide_eq_true hz
   have hc3:¬(s.mults.length≠s.sizes.length∨0∉s.mults):=by
    rintro(h|h)
    ·exact h g2'
    exact h hz
   refine gg rfl (q0j rfl (gg rfl ?_))
   rw[List.length_map]
   refine q0l (S:=fun k:Nat=>([.ptr 0 0 0,.mref 1,strs s.sizes,q00 s.sizes.length,q00 k],[some (.row [s.enc] 7),some (.mp ((q71 (s.sizes.take k)).map (·.1)) ((q71 (s.sizes.take k)).map (·.2))),none,none,none],[0,0,0,0,0])) (C:=fun k=>k≤s.sizes.length∧∀i,i<k→((s.sizes.take i).any fun x=>x.toList==(sz s.sizes i).toList)=false) (m:=fun k=>s.sizes.length-k) 0 ⟨Nat.zero_le _,fun j h=>by omega⟩ (by omega) ?_ ?_
   ·exact qAW (o:=[.p _,.p _]) (kp:=([.ptr 0 0 0,.mref 1,strs s.sizes,q00 s.sizes.length,q00 0],[some (.row [s.enc] 7),some (.mp [] []),none,none,none],[0,0,0,0,0])) [none] rfl ⟨rfl,rfl,trivial⟩ rfl
   rintro k ⟨hk,htw⟩ N hN
   refine gg rfl (q01 rfl (fun e=>?_) (fun e=>?_))
   ·rw[q06]at e
    have hlt:k<s.sizes.length:=by omega
    have w1:=wS (n:=k)
    have hst:q71 (s.sizes.take (k+1))=q71 (s.sizes.take k)++[(sz s.sizes k,.bool true)]:=by
     rw[List.take_succ_eq_append_getElem hlt,qAj,qAg hlt]
    have hgt:=qDA (s.sizes.take k) (sz s.sizes k)
    refine gg rfl (q0i k rfl rfl rfl (qAh hlt) rfl (gg rfl (qHo (m:=q71 (s.sizes.take k)) rfl rfl rfl (fun v hv=>?_) (fun hv=>?_))))
    ·rw[hgt]at hv
     cases ha:((s.sizes.take k).any fun x=>x.toList==(sz s.sizes k).toList)with
     |true=>
      rw[ha]at hv
      cases hv
      refine gg rfl (q0d rfl (gg rfl (q04 (gg rfl (q08 rfl rfl rfl trivial ?_)))))
      have ht:q4P s.sizes=true:=by
       unfold q4P
       rw[List.any_eq_true]
       exact⟨k,List.mem_range.2 hlt,ha⟩
      rw[q2m,if_neg hc1,if_neg hc2,if_neg hc3,if_pos ht]
     |false=>rw[ha]at hv;cases hv
    have ha:((s.sizes.take k).any fun x=>x.toList==(sz s.sizes k).toList)=false:=by
     rw[hgt]at hv
     cases ha:((s.sizes.take k).any fun x=>x.toList==(sz s.sizes k).toList)with
     |true=>rw[ha]at hv;cases hv
     |false=>rfl
    refine gg rfl (q0j rfl (gg rfl (atPut (m:=q71 (s.sizes.take k)) rfl rfl rfl rfl hv (gg rfl (q04 (hN (k+1) ⟨hlt,fun i hi=>?_⟩ (by omega) (qAW (o:=[.p [s.enc],.p ((q71 (s.sizes.take k)++[(sz s.sizes k,D.bool true)]:List (ByteArray×D)).map (·.2))]) (kp:=([.ptr 0 0 0,.mref 1,strs s.sizes,q00 s.sizes.length,.int .i64 (IntKind.i64.wrap ((k:Int)+1))],[some (.row [s.enc] 7),some (.mp ((q71 (s.sizes.take k)++[(sz s.sizes k,D.bool true)]:List (ByteArray×D)).map (·.1)) ((q71 (s.sizes.take k)++[(sz s.sizes k,D.bool true)]:List (ByteArray×D)).map (·.2))),none,none,none],[0,0,0,0,0])) [none] rfl ⟨rfl,?_,trivial⟩ ?_)))))))
    ·by_cases ei:i=k
     ·subst ei;exact ha
     exact htw i (by omega)
    ·show List.all ((q71 (s.sizes.take k)++[(sz s.sizes k,D.bool true)]:List (ByteArray×D)).map (·.2)) _=true
     rw[←hst];exact qy2 _
    rw[w1,hst];rfl
   rw[q07]at e
   obtain rfl:k=s.sizes.length:=by omega
   clear hN
   have hc4:¬q4P s.sizes=true:=by
    unfold q4P
    rw[List.any_eq_true]
    rintro⟨i,hi,h⟩
    rw[htw i (List.mem_range.1 hi)]at h;cases h
   have hw:q2m s=if 12<s.sizes.length∨12<s.pieces.length∨12<s.uses.length then 5
    else if 24<s.seams.length∨16<s.ops.length then 5
    else if s.mults.any (fun m=>decide (m< -100) ||decide (100<m))then 3 else 0:=by
    rw[q2m,if_neg hc1,if_neg hc2,if_neg hc3,if_neg hc4]
   rw[hw]
   refine gg rfl (q04 (gg rfl ?_))
   rw[List.length_map]
   refine q09 rfl (fun g3=>?_) (fun g3=>?_)
   ·rw[q06]at g3
    refine gg rfl (q0h rfl (gg rfl (q0d rfl (gg rfl (q08 rfl rfl rfl trivial ?_)))))
    rw[if_pos (.inl (by omega))]
   rw[q07]at g3
   refine gg rfl ?_
   rw[List.length_map]
   refine q09 rfl (fun g4=>?_) (fun g4=>?_)
   ·rw[q06]at g4
    refine gg rfl (q0d rfl (gg rfl (q08 rfl rfl rfl trivial ?_)))
    rw[if_pos (.inr (.inl (by omega)))]
   rw[q07]at g4
   refine gg rfl ?_
   rw[List.length_map]
   refine q01 rfl (fun g5=>?_) (fun g5=>?_)
   ·rw[q06]at g5
    refine gg rfl (q08 rfl rfl rfl trivial ?_)
    rw[if_pos (.inr (.inr (by omega)))]
   rw[q07]at g5
   rw[if_neg (by omega)]
   refine gg rfl ?_
   rw[List.length_map]
   refine q09 rfl (fun g6=>?_) (fun g6=>?_)
   ·rw[q06]at g6
    refine gg rfl (q0d rfl (gg rfl (q08 rfl rfl rfl trivial ?_)))
    rw[if_pos (.inl (by omega))]
   rw[q07]at g6
   refine gg rfl ?_
   rw[List.length_map]
   refine q01 rfl (fun g7=>?_) (fun g7=>?_)
   ·rw[q06]at g7
    refine gg rfl (q08 rfl rfl rfl trivial ?_)
    rw[if_pos (.inr (by omega))]
   rw[q07]at g7
   rw[if_neg (by omega)]
   refine gg rfl ?_
   rw[List.length_map]
   refine q0l (S:=fun k:Nat=>([ints s.mults,q00 s.mults.length,q00 k],[none,none,none],[0,0,0])) (C:=fun k=>k≤s.mults.length∧∀j (hj:j<s.mults.length),j<k→(decide (s.mults[j]< -100) ||decide (100<s.mults[j]))=false) (m:=fun k=>s.mults.length-k) 0 ⟨Nat.zero_le _,fun j _ h=>by omega⟩ (by omega) ?_ ?_
   ·exact q03 rfl trivial rfl
   rintro k ⟨hk,hm⟩ N hN
   refine gg rfl (q01 rfl (fun e=>?_) (fun e=>?_))
   ·rw[q06]at e
    have hlt:k<s.mults.length:=by omega
    have w1:=wS (n:=k)
    have bad:(decide (s.mults[k]< -100) ||decide (100<s.mults[k]))=true→(s.mults.any fun m=>decide (m< -100) ||decide (100<m))=true:=fun h=>q29 hlt h
    have hx:(s.mults.map q00)[k]?=some (.int .i64 s.mults[k]):=q1A hlt
    refine gg rfl (q0i k rfl rfl rfl hx rfl (gg rfl (q09 rfl (fun f1=>?_) (fun f1=>?_))))
    ·rw[q06]at f1
     refine gg rfl (q0d rfl (gg rfl (q04 (gg rfl (q08 rfl rfl rfl trivial ?_)))))
     rw[if_pos (bad (by simp;omega))]
    rw[q07]at f1
    refine gg rfl (q01 rfl (fun f2=>?_) (fun f2=>?_))
    ·rw[q06]at f2
     refine gg rfl (q04 (gg rfl (q08 rfl rfl rfl trivial ?_)))
     rw[if_pos (bad (by simp;omega))]
    rw[q07]at f2
    refine gg rfl (q04 (hN (k+1) ⟨hlt,fun j hj hjk=>?_⟩ (by omega) (q03 rfl trivial (by rw[w1];rfl))))
    by_cases ej:j=k
    ·subst ej;simp;omega
    exact hm j hj (by omega)
   rw[q07]at e
   obtain rfl:k=s.mults.length:=by omega
   rw[if_neg (by rw[q1Z fun j hj=>hm j hj hj];decide)]
   exact gg rfl (q04 (gg rfl (q08 rfl rfl rfl trivial rfl)))
end Go.F

namespace Go.F
attribute [local irreducible] IntKind.wrap wpM
def q24 (b:List Piece)(p:Piece):Int:=
 if q1M p.name=false then 1
 else if p.grain≠1∧p.grain≠2∧p.grain≠4 then 1
 else if(b.any fun o=>o.name.toList==p.name.toList)then 7
 else if(q0p p 0).2≠0 then(q0p p 0).2
 else if(q0S p 0).2≠0 then(q0S p 0).2
 else if p.widths.length≠p.edges.length then 1
 else if p.widths.any q2j then 3 else 0
set_option maxHeartbeats 8000000 in
theorem qrv (b:List Piece)(p:Piece)(hb:b.length≤1000)(h1:p.corners.length≤1000)(h2:p.widths.length≤1000):PU qgp [Go.F.pieces b,p.enc]=some (.int .i64 (q24 b p)):=by
 refine q0g (fn:=q7Y) rfl (q0a ?_)
 refine gg rfl (q02 rfl rfl (qcr p.name) ?_)
 cases hn:q1M p.name with
 |false=>
  refine gg rfl (q0d rfl (gg rfl (q08 rfl rfl rfl trivial ?_)))
  rw[q24,if_pos hn]
 |true=>
  have hc1:¬q1M p.name=false:=by rw[hn];decide
  refine gg rfl (q0j rfl (gg rfl (q09 rfl (fun g1=>?_) (fun g1=>?_))))
  ·rw[q0u]at g1
   refine gg rfl (q09 rfl (fun g2=>?_) (fun g2=>?_))
   ·rw[q0u]at g2
    refine gg rfl (q01 rfl (fun g3=>?_) (fun g3=>?_))
    ·rw[q0u]at g3
     refine gg rfl (q08 rfl rfl rfl trivial ?_)
     rw[q24,if_neg hc1,if_pos ⟨g1,g2,g3⟩]
    rw[q0z]at g3
    have hc2:¬(p.grain≠1∧p.grain≠2∧p.grain≠4):=fun h=>h.2.2 g3
    refine gg rfl ?_
    rw[List.length_map]
    refine q0l (S:=fun k:Nat=>([.ptr 0 0 0,Go.F.pieces b,q00 b.length,q00 k],[some (.row [p.enc] 7),none,none,none],[0,0,0,0])) (C:=fun k=>k≤b.length∧∀j (hj:j<b.length),j<k→(b[j].name.toList==p.name.toList)=false) (m:=fun k=>b.length-k) 0 ⟨Nat.zero_le _,fun j _ h=>by omega⟩ (by omega) ?_ ?_
    ·exact q03 rfl ⟨rfl,trivial⟩ rfl
    rintro k ⟨hk,hno⟩ N hN
    refine gg rfl (q01 rfl (fun e=>?_) (fun e=>?_))
    ·rw[q06]at e
     have hlt:k<b.length:=by omega
     have w1:=wS (n:=k)
     refine gg rfl (q0i k rfl rfl rfl (q1A hlt) rfl (gg rfl (q01 rfl (fun f=>?_) (fun f=>?_))))
     ·refine gg rfl (q04 (gg rfl (q08 rfl rfl rfl trivial ?_)))
      rw[q24,if_neg hc1,if_neg hc2,if_pos (q29 hlt f)]
     refine gg rfl (q04 (hN (k+1) ⟨hlt,fun j hj hjk=>?_⟩ (by omega) (q03 rfl ⟨rfl,trivial⟩ (by rw[w1];rfl))))
     by_cases ej:j=k
     ·subst ej;exact f
     exact hno j hj (by omega)
    rw[q07]at e
    obtain rfl:k=b.length:=by omega
    clear hN
    have hc3:¬(b.any fun o=>o.name.toList==p.name.toList)=true:=by rw[q1Z fun j hj=>hno j hj hj];decide
    have hw:q24 b p=if(q0p p 0).2≠0 then(q0p p 0).2
     else if(q0S p 0).2≠0 then(q0S p 0).2
     else if p.widths.length≠p.edges.length then 1
     else if p.widths.any q2j then 3 else 0:=by rw[q24,if_neg hc1,if_neg hc2,if_neg hc3]
    rw[hw]
    refine gg rfl (q04 (gg rfl (q02 rfl rfl (q5F p 0 (by omega)) ?_)))
    refine gg rfl (q01 rfl (fun f=>?_) (fun f=>?_))
    ·rw[q0u]at f
     refine gg rfl (q08 rfl rfl rfl trivial ?_)
     rw[if_pos f]
    rw[q0z]at f
    rw[if_neg (by simp[f])]
    refine gg rfl (q02 rfl rfl (qaA p 0 (by omega)) ?_)
    refine gg rfl (q01 rfl (fun f2=>?_) (fun f2=>?_))
    ·rw[q0u]at f2
     refine gg rfl (q08 rfl rfl rfl trivial ?_)
     rw[if_pos f2]
    rw[q0z]at f2
    rw[if_neg (by simp[f2])]
    refine gg rfl ?_
    rw[List.length_map,List.length_map]
    refine q01 rfl (fun f3=>?_) (fun f3=>?_)
    ·rw[q0u]at f3
     refine gg rfl (q08 rfl rfl rfl trivial ?_)
     rw[if_pos (by omega)]
    rw[q0z]at f3
    rw[if_neg (by omega)]
    refine gg rfl ?_
    rw[List.length_map]
    refine q0l (S:=fun k:Nat=>([ints p.widths,q00 p.widths.length,q00 k],[none,none,none],[0,0,0])) (C:=fun k=>k≤p.widths.length∧∀j (hj:j<p.widths.length),j<k→q2j p.widths[j]=false) (m:=fun k=>p.widths.length-k) 0 ⟨Nat.zero_le _,fun j _ h=>by omega⟩ (by omega) ?_ ?_
    ·exact q03 rfl trivial rfl
    rintro k ⟨hk,hm⟩ N hN
    refine gg rfl (q01 rfl (fun e=>?_) (fun e=>?_))
    ·rw[q06]at e
     have hlt:k<p.widths.length:=by omega
     have w1:=wS (n:=k)
     have bad:q2j p.widths[k]=true→p.widths.any q2j=true:=fun h=>q29 hlt h
     have hx:(p.widths.map q00)[k]?=some (.int .i64 p.widths[k]):=q1A hlt
     refine gg rfl (q0i k rfl rfl rfl hx rfl (gg rfl (q09 rfl (fun f1=>?_) (fun f1=>?_))))
     ·rw[q06]at f1
      refine gg rfl (q0d rfl (gg rfl (q04 (gg rfl (q08 rfl rfl rfl trivial ?_)))))
      rw[if_pos (bad (by simp[q2j];omega))]
     rw[q07]at f1
     refine gg rfl (q01 rfl (fun f2=>?_) (fun f2=>?_))
     ·rw[q06]at f2
      refine gg rfl (q04 (gg rfl (q08 rfl rfl rfl trivial ?_)))
      rw[if_pos (bad (by simp[q2j];omega))]
     rw[q07]at f2
     refine gg rfl (q04 (hN (k+1) ⟨hlt,fun j hj hjk=>?_⟩ (by omega) (q03 rfl trivial (by rw[w1];rfl))))
     by_cases ej:j=k
     ·subst ej;simp[q2j];omega
     exact hm j hj (by omega)
    rw[q07]at e
    obtain rfl:k=p.widths.length:=by omega
    rw[if_neg (by rw[q1Z fun j hj=>hm j hj hj];decide)]
    exact gg rfl (q04 (gg rfl (q08 rfl rfl rfl trivial rfl)))
   rw[q0z]at g2
   have hc2:¬(p.grain≠1∧p.grain≠2∧p.grain≠4):=fun h=>h.2.1 g2
   refine gg rfl (q0j rfl (gg rfl ?_))
   rw[List.length_map]
   refine q0l (S:=fun k:Nat=>([.ptr 0 0 0,Go.F.pieces b,q00 b.length,q00 k],[some (.row [p.enc] 7),none,none,none],[0,0,0,0])) (C:=fun k=>k≤b.length∧∀j (hj:j<b.length),j<k→(b[j].name.toList==p.name.toList)=false) (m:=fun k=>b.length-k) 0 ⟨Nat.zero_le _,fun j _ h=>by omega⟩ (by omega) ?_ ?_
   ·exact q03 rfl ⟨rfl,trivial⟩ rfl
   rintro k ⟨hk,hno⟩ N hN
   refine gg rfl (q01 rfl (fun e=>?_) (fun e=>?_))
   ·rw[q06]at e
    have hlt:k<b.length:=by omega
    have w1:=wS (n:=k)
    refine gg rfl (q0i k rfl rfl rfl (q1A hlt) rfl (gg rfl (q01 rfl (fun f=>?_) (fun f=>?_))))
    ·refine gg rfl (q04 (gg rfl (q08 rfl rfl rfl trivial ?_)))
     rw[q24,if_neg hc1,if_neg hc2,if_pos (q29 hlt f)]
    refine gg rfl (q04 (hN (k+1) ⟨hlt,fun j hj hjk=>?_⟩ (by omega) (q03 rfl ⟨rfl,trivial⟩ (by rw[w1];rfl))))
    by_cases ej:j=k
    ·subst ej;exact f
    exact hno j hj (by omega)
   rw[q07]at e
   obtain rfl:k=b.length:=by omega
   clear hN
   have hc3:¬(b.any fun o=>o.name.toList==p.name.toList)=true:=by rw[q1Z fun j hj=>hno j hj hj];decide
   have hw:q24 b p=if(q0p p 0).2≠0 then(q0p p 0).2
    else if(q0S p 0).2≠0 then(q0S p 0).2
    else if p.widths.length≠p.edges.length then 1
    else if p.widths.any q2j then 3 else 0:=by rw[q24,if_neg hc1,if_neg hc2,if_neg hc3]
   rw[hw]
   refine gg rfl (q04 (gg rfl (q02 rfl rfl (q5F p 0 (by omega)) ?_)))
   refine gg rfl (q01 rfl (fun f=>?_) (fun f=>?_))
   ·rw[q0u]at f
    refine gg rfl (q08 rfl rfl rfl trivial ?_)
    rw[if_pos f]
   rw[q0z]at f
   rw[if_neg (by simp[f])]
   refine gg rfl (q02 rfl rfl (qaA p 0 (by omega)) ?_)
   refine gg rfl (q01 rfl (fun f2=>?_) (fun f2=>?_))
   ·rw[q0u]at f2
    refine gg rfl (q08 rfl rfl rfl trivial ?_)
    rw[if_pos f2]
   rw[q0z]at f2
   rw[if_neg (by simp[f2])]
   refine gg rfl ?_
   rw[List.length_map,List.length_map]
   refine q01 rfl (fun f3=>?_) (fun f3=>?_)
   ·rw[q0u]at f3
    refine gg rfl (q08 rfl rfl rfl trivial ?_)
    rw[if_pos (by omega)]
   rw[q0z]at f3
   rw[if_neg (by omega)]
   refine gg rfl ?_
   rw[List.length_map]
   refine q0l (S:=fun k:Nat=>([ints p.widths,q00 p.widths.length,q00 k],[none,none,none],[0,0,0])) (C:=fun k=>k≤p.widths.length∧∀j (hj:j<p.widths.length),j<k→q2j p.widths[j]=false) (m:=fun k=>p.widths.length-k) 0 ⟨Nat.zero_le _,fun j _ h=>by omega⟩ (by omega) ?_ ?_
   ·exact q03 rfl trivial rfl
   rintro k ⟨hk,hm⟩ N hN
   refine gg rfl (q01 rfl (fun e=>?_) (fun e=>?_))
   ·rw[q06]at e
    have hlt:k<p.widths.length:=by omega
    have w1:=wS (n:=k)
    have bad:q2j p.widths[k]=true→p.widths.any q2j=true:=fun h=>q29 hlt h
    have hx:(p.widths.map q00)[k]?=some (.int .i64 p.widths[k]):=q1A hlt
    refine gg rfl (q0i k rfl rfl rfl hx rfl (gg rfl (q09 rfl (fun f1=>?_) (fun f1=>?_))))
    ·rw[q06]at f1
     refine gg rfl (q0d rfl (gg rfl (q04 (gg rfl (q08 rfl rfl rfl trivial ?_)))))
     rw[if_pos (bad (by simp[q2j];omega))]
    rw[q07]at f1
    refine gg rfl (q01 rfl (fun f2=>?_) (fun f2=>?_))
    ·rw[q06]at f2
     refine gg rfl (q04 (gg rfl (q08 rfl rfl rfl trivial ?_)))
     rw[if_pos (bad (by simp[q2j];omega))]
    rw[q07]at f2
    refine gg rfl (q04 (hN (k+1) ⟨hlt,fun j hj hjk=>?_⟩ (by omega) (q03 rfl trivial (by rw[w1];rfl))))
    by_cases ej:j=k
    ·subst ej;simp[q2j];omega
    exact hm j hj (by omega)
   rw[q07]at e
   obtain rfl:k=p.widths.length:=by omega
   rw[if_neg (by rw[q1Z fun j hj=>hm j hj hj];decide)]
   exact gg rfl (q04 (gg rfl (q08 rfl rfl rfl trivial rfl)))
  rw[q0z]at g1
  have hc2:¬(p.grain≠1∧p.grain≠2∧p.grain≠4):=fun h=>h.1 g1
  refine gg rfl (q0n rfl (gg rfl (q0j rfl (gg rfl ?_))))
  rw[List.length_map]
  refine q0l (S:=fun k:Nat=>([.ptr 0 0 0,Go.F.pieces b,q00 b.length,q00 k],[some (.row [p.enc] 7),none,none,none],[0,0,0,0])) (C:=fun k=>k≤b.length∧∀j (hj:j<b.length),j<k→(b[j].name.toList==p.name.toList)=false) (m:=fun k=>b.length-k) 0 ⟨Nat.zero_le _,fun j _ h=>by omega⟩ (by omega) ?_ ?_
  ·exact q03 rfl ⟨rfl,trivial⟩ rfl
  rintro k ⟨hk,hno⟩ N hN
  refine gg rfl (q01 rfl (fun e=>?_) (fun e=>?_))
  ·rw[q06]at e
   have hlt:k<b.length:=by omega
   have w1:=wS (n:=k)
   refine gg rfl (q0i k rfl rfl rfl (q1A hlt) rfl (gg rfl (q01 rfl (fun f=>?_) (fun f=>?_))))
   ·refine gg rfl (q04 (gg rfl (q08 rfl rfl rfl trivial ?_)))
    rw[q24,if_neg hc1,if_neg hc2,if_pos (q29 hlt f)]
   refine gg rfl (q04 (hN (k+1) ⟨hlt,fun j hj hjk=>?_⟩ (by omega) (q03 rfl ⟨rfl,trivial⟩ (by rw[w1];rfl))))
   by_cases ej:j=k
   ·subst ej;exact f
   exact hno j hj (by omega)
  rw[q07]at e
  obtain rfl:k=b.length:=by omega
  clear hN
  have hc3:¬(b.any fun o=>o.name.toList==p.name.toList)=true:=by rw[q1Z fun j hj=>hno j hj hj];decide
  have hw:q24 b p=if(q0p p 0).2≠0 then(q0p p 0).2
   else if(q0S p 0).2≠0 then(q0S p 0).2
   else if p.widths.length≠p.edges.length then 1
   else if p.widths.any q2j then 3 else 0:=by rw[q24,if_neg hc1,if_neg hc2,if_neg hc3]
  rw[hw]
  refine gg rfl (q04 (gg rfl (q02 rfl rfl (q5F p 0 (by omega)) ?_)))
  refine gg rfl (q01 rfl (fun f=>?_) (fun f=>?_))
  ·rw[q0u]at f
   refine gg rfl (q08 rfl rfl rfl trivial ?_)
   rw[if_pos f]
  rw[q0z]at f
  rw[if_neg (by simp[f])]
  refine gg rfl (q02 rfl rfl (qaA p 0 (by omega)) ?_)
  refine gg rfl (q01 rfl (fun f2=>?_) (fun f2=>?_))
  ·rw[q0u]at f2
   refine gg rfl (q08 rfl rfl rfl trivial ?_)
   rw[if_pos f2]
  rw[q0z]at f2
  rw[if_neg (by simp[f2])]
  refine gg rfl ?_
  rw[List.length_map,List.length_map]
  refine q01 rfl (fun f3=>?_) (fun f3=>?_)
  ·rw[q0u]at f3
   refine gg rfl (q08 rfl rfl rfl trivial ?_)
   rw[if_pos (by omega)]
  rw[q0z]at f3
  rw[if_neg (by omega)]
  refine gg rfl ?_
  rw[List.length_map]
  refine q0l (S:=fun k:Nat=>([ints p.widths,q00 p.widths.length,q00 k],[none,none,none],[0,0,0])) (C:=fun k=>k≤p.widths.length∧∀j (hj:j<p.widths.length),j<k→q2j p.widths[j]=false) (m:=fun k=>p.widths.length-k) 0 ⟨Nat.zero_le _,fun j _ h=>by omega⟩ (by omega) ?_ ?_
  ·exact q03 rfl trivial rfl
  rintro k ⟨hk,hm⟩ N hN
  refine gg rfl (q01 rfl (fun e=>?_) (fun e=>?_))
  ·rw[q06]at e
   have hlt:k<p.widths.length:=by omega
   have w1:=wS (n:=k)
   have bad:q2j p.widths[k]=true→p.widths.any q2j=true:=fun h=>q29 hlt h
   have hx:(p.widths.map q00)[k]?=some (.int .i64 p.widths[k]):=q1A hlt
   refine gg rfl (q0i k rfl rfl rfl hx rfl (gg rfl (q09 rfl (fun f1=>?_) (fun f1=>?_))))
   ·rw[q06]at f1
    refine gg rfl (q0d rfl (gg rfl (q04 (gg rfl (q08 rfl rfl rfl trivial ?_)))))
    rw[if_pos (bad (by simp[q2j];omega))]
   rw[q07]at f1
   refine gg rfl (q01 rfl (fun f2=>?_) (fun f2=>?_))
   ·rw[q06]at f2
    refine gg rfl (q04 (gg rfl (q08 rfl rfl rfl trivial ?_)))
    rw[if_pos (bad (by simp[q2j];omega))]
   rw[q07]at f2
   refine gg rfl (q04 (hN (k+1) ⟨hlt,fun j hj hjk=>?_⟩ (by omega) (q03 rfl trivial (by rw[w1];rfl))))
   by_cases ej:j=k
   ·subst ej;simp[q2j];omega
   exact hm j hj (by omega)
  rw[q07]at e
  obtain rfl:k=p.widths.length:=by omega
  rw[if_neg (by rw[q1Z fun j hj=>hm j hj hj];decide)]
  exact gg rfl (q04 (gg rfl (q08 rfl rfl rfl trivial rfl)))
def q1P (s:Sty)(p e:Int):Bool:=decide (0≤p)&&(decide (p<s.pieces.length)&&(decide (0≤e)&&decide (e<(pc s.pieces p.toNat).edges.length)))
theorem qsV (s:Sty)(p e:Int):PU qoF [s.enc,.int .i64 p,.int .i64 e]=some (.bool (q1P s p e)):=by
 refine q0g (fn:=qdv) rfl (q0a ?_)
 refine gg rfl (q09 rfl (fun g1=>?_) (fun g1=>?_))
 ·rw[q0E]at g1
  refine gg rfl ?_
  rw[List.length_map]
  refine q09 rfl (fun g2=>?_) (fun g2=>?_)
  ·rw[q06]at g2
   refine gg rfl (q09 rfl (fun g3=>?_) (fun g3=>?_))
   ·rw[q0E]at g3
    refine gg rfl (q0i p.toNat rfl rfl (by omega) (q4q (by omega)) rfl ?_)
    refine gg rfl (q08 rfl rfl rfl trivial ?_)
    rw[q1P,decide_eq_true g1,decide_eq_true g2,decide_eq_true g3,q1J,List.length_map];rfl
   rw[q0F]at g3
   refine gg rfl (q08 rfl rfl rfl trivial ?_)
   rw[q1P,decide_eq_false (show¬0≤e by omega)];simp
  rw[q07]at g2
  refine gg rfl (q0n rfl (gg rfl (q08 rfl rfl rfl trivial ?_)))
  rw[q1P,decide_eq_false (show¬p<s.pieces.length by omega)];simp
 rw[q0F]at g1
 refine gg rfl (q0n rfl (gg rfl (q0n rfl (gg rfl (q08 rfl rfl rfl trivial ?_)))))
 rw[q1P,decide_eq_false (show¬0≤p by omega)];rfl
def q1Y (n:Nat)(u:Use):Bool:=decide (u.piece<0) ||(decide ((n:Int)≤u.piece) ||(decide (u.count<1) ||decide (4<u.count)))
def q6e (s:Sty)(m:Sew):Int:=if q1P s m.pa m.ea=false∨q1P s m.pb m.eb=false then 3 else if m.ease<0 then 1 else 0
def q2q (s:Sty)(i:Nat):Int:=q24 (s.pieces.take i) (pc s.pieces i)
def q43 (s:Sty)(i:Nat):Int:=q6e s (sw s.seams i)
def q2M (s:Sty):Int:=
 if q2m s≠0 then q2m s
 else if q0G (q2q s) s.pieces.length≠0 then q0G (q2q s) s.pieces.length
 else if s.uses.any (q1Y s.pieces.length)then 3
 else q0G (q43 s) s.seams.length
set_option maxHeartbeats 8000000 in
theorem q4r (s:Sty)(hB:StyB s):PU qqD [s.enc]=some (.int .i64 (q2M s)):=by
 have b1:=hB.pieces
 have b2:=hB.uses
 have b3:=hB.seams
 refine q0g (fn:=qf2) rfl (q0a ?_)
 refine gg rfl (q02 rfl rfl (qru s hB) (gg rfl (q01 rfl (fun g=>?_) (fun g=>?_))))
 ·rw[q0u]at g
  refine gg rfl (q08 rfl rfl rfl trivial ?_)
  rw[q2M,if_pos g]
 have g:q2m s=0:=q0z.1 g
 have hw:q2M s=if q0G (q2q s) s.pieces.length≠0 then q0G (q2q s) s.pieces.length
  else if s.uses.any (q1Y s.pieces.length)then 3
  else q0G (q43 s) s.seams.length:=by rw[q2M,if_neg (by simp[g])]
 rw[hw]
 refine gg rfl ?_
 rw[List.length_map]
 refine q0l (S:=fun k:Nat=>([.ptr 0 0 0,Go.F.pieces s.pieces,q00 s.pieces.length,q00 k],[some (.row [s.enc] 7),none,none,none],[0,0,0,0])) (C:=fun k=>k≤s.pieces.length∧q0G (q2q s) k=0) (m:=fun k=>s.pieces.length-k) 0 ⟨Nat.zero_le _,rfl⟩ (by omega) ?_ ?_
 ·exact q03 rfl ⟨rfl,trivial⟩ rfl
 rintro k ⟨hk,h0⟩ N hN
 refine gg rfl (q01 rfl (fun e=>?_) (fun e=>?_))
 ·rw[q06]at e
  have hlt:k<s.pieces.length:=by omega
  have w1:=wS (n:=k)
  have hp:=qrv (s.pieces.take k) (pc s.pieces k) (by rw[List.length_take];omega) (hB.corners _ (q7e hlt)) (hB.widths _ (q7e hlt))
  refine gg rfl (q0i k rfl rfl rfl (q4q hlt) rfl (gg rfl (qcK k rfl (q1o (n:=7) (fun _=>rfl) _) ⟨_,_,rfl,rfl⟩ (by rw[List.length_map];omega) ?_)))
  rw[←List.map_take]
  refine gg rfl (q02 rfl rfl hp (gg rfl (q01 rfl (fun f=>?_) (fun f=>?_))))
  ·rw[q0u]at f
   refine gg rfl (q04 (gg rfl (q08 rfl rfl rfl trivial ?_)))
   have f':q2q s k≠0:=f
   have hf:=q3u (f:=q2q s) h0 f' hlt
   rw[hf,if_pos f'];rfl
  rw[q0z]at f
  exact gg rfl (q04 (hN (k+1) ⟨hlt,q2o h0 f⟩ (by omega) (q03 rfl ⟨rfl,trivial⟩ (by rw[w1];rfl))))
 rw[q07]at e
 obtain rfl:k=s.pieces.length:=by omega
 clear hN
 rw[if_neg (by simp[h0])]
 refine gg rfl (q04 (gg rfl ?_))
 rw[List.length_map]
 refine q0l (S:=fun k:Nat=>([.ptr 0 0 0,Go.F.uses s.uses,q00 s.uses.length,q00 k],[some (.row [s.enc] 7),none,none,none],[0,0,0,0])) (C:=fun k=>k≤s.uses.length∧∀j (hj:j<s.uses.length),j<k→q1Y s.pieces.length s.uses[j]=false) (m:=fun k=>s.uses.length-k) 0 ⟨Nat.zero_le _,fun j _ h=>by omega⟩ (by omega) ?_ ?_
 ·exact q03 rfl ⟨rfl,trivial⟩ rfl
 rintro k ⟨hk,hu⟩ N hN
 refine gg rfl (q01 rfl (fun e=>?_) (fun e=>?_))
 ·rw[q06]at e
  have hlt:k<s.uses.length:=by omega
  have w1:=wS (n:=k)
  have hx:(s.uses.map Use.enc)[k]?=some s.uses[k].enc:=q1A hlt
  have bad:q1Y s.pieces.length s.uses[k]=true→s.uses.any (q1Y s.pieces.length)=true:=fun h=>q29 hlt h
  have hnx:q1Y s.pieces.length s.uses[k]=false→∀j (hj:j<s.uses.length),j<k+1→q1Y s.pieces.length s.uses[j]=false:=by
   intro h j hj hjk
   by_cases ej:j=k
   ·subst ej;exact h
   exact hu j hj (by omega)
  generalize s.uses[k]=u at*
  refine gg rfl (q0i k rfl rfl rfl hx rfl (gg rfl (q09 rfl (fun f1=>?_) (fun f1=>?_))))
  ·rw[q06]at f1
   refine gg rfl (q0h rfl (gg rfl (q0h rfl (gg rfl (q0d rfl (gg rfl (q04 (gg rfl (q08 rfl rfl rfl trivial ?_)))))))))
   rw[if_pos (bad (by simp[q1Y];omega))]
  rw[q07]at f1
  refine gg rfl ?_
  rw[List.length_map]
  refine q09 rfl (fun f2=>?_) (fun f2=>?_)
  ·rw[q0E]at f2
   refine gg rfl (q0h rfl (gg rfl (q0d rfl (gg rfl (q04 (gg rfl (q08 rfl rfl rfl trivial ?_)))))))
   rw[if_pos (bad (by simp[q1Y];omega))]
  rw[q0F]at f2
  refine gg rfl (q09 rfl (fun f3=>?_) (fun f3=>?_))
  ·rw[q06]at f3
   refine gg rfl (q0d rfl (gg rfl (q04 (gg rfl (q08 rfl rfl rfl trivial ?_)))))
   rw[if_pos (bad (by simp[q1Y];omega))]
  rw[q07]at f3
  refine gg rfl (q01 rfl (fun f4=>?_) (fun f4=>?_))
  ·rw[q06]at f4
   refine gg rfl (q04 (gg rfl (q08 rfl rfl rfl trivial ?_)))
   rw[if_pos (bad (by simp[q1Y];omega))]
  rw[q07]at f4
  exact gg rfl (q04 (hN (k+1) ⟨hlt,hnx (by simp[q1Y];omega)⟩ (by omega) (q03 rfl ⟨rfl,trivial⟩ (by rw[w1];rfl))))
 rw[q07]at e
 obtain rfl:k=s.uses.length:=by omega
 clear hN
 rw[if_neg (by rw[q1Z fun j hj=>hu j hj hj];decide)]
 refine gg rfl (q04 (gg rfl ?_))
 rw[List.length_map]
 refine q0l (S:=fun k:Nat=>([.ptr 0 0 0,qcC s.seams,q00 s.seams.length,q00 k],[some (.row [s.enc] 7),none,none,none],[0,0,0,0])) (C:=fun k=>k≤s.seams.length∧q0G (q43 s) k=0) (m:=fun k=>s.seams.length-k) 0 ⟨Nat.zero_le _,rfl⟩ (by omega) ?_ ?_
 ·exact q03 rfl ⟨rfl,trivial⟩ rfl
 rintro k ⟨hk,h0⟩ N hN
 refine gg rfl (q01 rfl (fun e=>?_) (fun e=>?_))
 ·rw[q06]at e
  have hlt:k<s.seams.length:=by omega
  have w1:=wS (n:=k)
  have hx:=qjN hlt
  have bad:∀x,q6e s (sw s.seams k)=x→x≠0→q0G (q43 s) s.seams.length=x:=by
   intro x h hx0
   have:=q3u (f:=q43 s) h0 (by show q6e s (sw s.seams k)≠0;rw[h];exact hx0) hlt
   rw[this];exact h
  have good:q6e s (sw s.seams k)=0→q0G (q43 s) (k+1)=0:=fun h=>q2o h0 h
  generalize sw s.seams k=m at*
  have e1:=qsV s m.pa m.ea
  have e2:=qsV s m.pb m.eb
  refine gg rfl (q0i k rfl rfl rfl hx rfl (gg rfl (q02 rfl rfl e1 ?_)))
  cases ha:q1P s m.pa m.ea with
  |false=>
   refine gg rfl (q0h rfl (gg rfl (q0d rfl (gg rfl (q04 (gg rfl (q08 rfl rfl rfl trivial ?_)))))))
   rw[bad 3 (by rw[q6e,if_pos (.inl ha)]) (by decide)]
  |true=>
   refine gg rfl (q0n rfl (gg rfl (q02 rfl rfl e2 ?_)))
   cases hb:q1P s m.pb m.eb with
   |false=>
    refine gg rfl (q0d rfl (gg rfl (q04 (gg rfl (q08 rfl rfl rfl trivial ?_)))))
    rw[bad 3 (by rw[q6e,if_pos (.inr hb)]) (by decide)]
   |true=>
    have hn:¬(q1P s m.pa m.ea=false∨q1P s m.pb m.eb=false):=by rw[ha,hb];simp
    refine gg rfl (q0j rfl (gg rfl (q01 rfl (fun f=>?_) (fun f=>?_))))
    ·rw[q06]at f
     refine gg rfl (q04 (gg rfl (q08 rfl rfl rfl trivial ?_)))
     rw[bad 1 (by rw[q6e,if_neg hn,if_pos f]) (by decide)]
    rw[q07]at f
    exact gg rfl (q04 (hN (k+1) ⟨hlt,good (by rw[q6e,if_neg hn,if_neg (by omega)])⟩ (by omega) (q03 rfl ⟨rfl,trivial⟩ (by rw[w1];rfl))))
 rw[q07]at e
 obtain rfl:k=s.seams.length:=by omega
 refine gg rfl (q04 (gg rfl (q08 rfl rfl rfl trivial ?_)))
 rw[h0]
end Go.F

namespace Go.F
attribute [local irreducible] IntKind.wrap wpM
def qgE:Piece:=⟨⟨#[]⟩,[],0,[],[],[],false⟩
structure StyOk (s:Sty):Prop where
 mults:s.mults.length=s.sizes.length
 size:0<s.sizes.length
 sizes:s.sizes.length≤12
 pieces:s.pieces.length≤12
 uses:s.uses.length≤12
 seams:s.seams.length≤24
 use:∀u∈s.uses,0≤u.piece∧u.piece<s.pieces.length∧1≤u.count∧u.count≤4
 piece:∀i,i<s.pieces.length→q2q s i=0
 mult:∀m∈s.mults,-100≤m∧m≤100
 base:0∈s.mults
theorem qiL {s:Sty}(h:q2M s=0):StyOk s:=by
 unfold q2M at h
 split at h
 ·rename_i h1;exact absurd h h1
 rename_i h1
 split at h
 ·rename_i h2;exact absurd h h2
 rename_i h2
 split at h
 ·cases h
 rename_i h3
 have h1:q2m s=0:=by simpa using h1
 have h2:q0G (q2q s) s.pieces.length=0:=by simpa using h2
 unfold q2m at h1
 split at h1
 ·cases h1
 split at h1
 ·cases h1
 split at h1
 ·cases h1
 split at h1
 ·cases h1
 split at h1
 ·cases h1
 split at h1
 ·cases h1
 split at h1
 ·cases h1
 rename_i g1 g2 g3 g4 g5 g6 g7
 refine⟨by omega,by omega,by omega,by omega,by omega,by omega,fun u hu=>?_,fun i hi=>q1a h2 hi,fun m hm=>?_,?_⟩
 ·have hb:q1Y s.pieces.length u=false:=by
   cases hb:q1Y s.pieces.length u with
   |false=>rfl
   |true=>exact absurd (List.any_eq_true.2 ⟨u,hu,hb⟩) h3
  simp[q1Y]at hb
  omega
 ·have hb:(decide (m< -100) ||decide (100<m))=false:=by
   cases hb:(decide (m< -100) ||decide (100<m))with
   |false=>rfl
   |true=>exact absurd (List.any_eq_true.2 ⟨m,hm,hb⟩) g7
  simp at hb
  omega
 rcases Classical.em (0∈s.mults)with h|h
 ·exact h
 exact absurd (.inr h) g3
def qmM (s:Sty)(size use:Int):Prop:=size<0∨(s.sizes.length:Int)≤size∨use<0∨(s.uses.length:Int)≤use
instance (s:Sty)(a b:Int):Decidable (qmM s a b):=by unfold qmM;exact inferInstance
def q3L (s:Sty)(use:Int):Piece:=pc s.pieces (us s.uses use.toNat).piece.toNat
def q2W (s:Sty)(size use:Int):List Edge×Piece×Int:=
 if q2M s≠0 then([],qgE,q2M s)
 else if qmM s size use then([],qgE,3)
 else((q0p (q3L s use) (mu s.mults size.toNat)).1,q3L s use,(q0p (q3L s use) (mu s.mults size.toNat)).2)
set_option maxHeartbeats 4000000 in
theorem qiM (s:Sty)(size use:Int)(hB:StyB s):PU qi7 [s.enc,.int .i64 size,.int .i64 use]=some (.tup [edges (q2W s size use).1,(q2W s size use).2.1.enc,.int .i64 (q2W s size use).2.2]):=by
 refine q0g (fn:=q8U) rfl (q0a ?_)
 refine gg rfl (q02 rfl rfl (q4r s hB) (gg rfl (q01 rfl (fun g=>?_) (fun g=>?_))))
 ·rw[q0u]at g
  refine gg rfl (q08 rfl rfl rfl trivial ?_)
  rw[q2W,if_pos g];rfl
 have g:q2M s=0:=q0z.1 g
 have hok:=qiL g
 have hw:q2W s size use=if qmM s size use then([],qgE,3)else((q0p (q3L s use) (mu s.mults size.toNat)).1,q3L s use,(q0p (q3L s use) (mu s.mults size.toNat)).2):=by rw[q2W,if_neg (by simp[g])]
 rw[hw]
 refine gg rfl (q09 rfl (fun f1=>?_) (fun f1=>?_))
 ·rw[q06]at f1
  refine gg rfl (q0h rfl (gg rfl (q0h rfl (gg rfl (q0d rfl (gg rfl (q08 rfl rfl rfl trivial ?_)))))))
  rw[if_pos (.inl f1)];rfl
 rw[q07]at f1
 refine gg rfl ?_
 rw[List.length_map]
 refine q09 rfl (fun f2=>?_) (fun f2=>?_)
 ·rw[q0E]at f2
  refine gg rfl (q0h rfl (gg rfl (q0d rfl (gg rfl (q08 rfl rfl rfl trivial ?_)))))
  rw[if_pos (.inr (.inl f2))];rfl
 rw[q0F]at f2
 refine gg rfl (q09 rfl (fun f3=>?_) (fun f3=>?_))
 ·rw[q06]at f3
  refine gg rfl (q0d rfl (gg rfl (q08 rfl rfl rfl trivial ?_)))
  rw[if_pos (.inr (.inr (.inl f3)))];rfl
 rw[q07]at f3
 refine gg rfl ?_
 rw[List.length_map]
 refine q01 rfl (fun f4=>?_) (fun f4=>?_)
 ·rw[q0E]at f4
  refine gg rfl (q08 rfl rfl rfl trivial ?_)
  rw[if_pos (.inr (.inr (.inr f4)))];rfl
 rw[q0F]at f4
 have hno:¬qmM s size use:=by unfold qmM;omega
 rw[if_neg hno]
 have hu:use.toNat<s.uses.length:=by omega
 have hup:=hok.use (us s.uses use.toNat) (by rw[qek hu];exact List.getElem_mem _)
 have hpl:(us s.uses use.toNat).piece.toNat<s.pieces.length:=by omega
 have hml:size.toNat<s.mults.length:=by rw[hok.mults];omega
 have hg:=q5F (q3L s use) (mu s.mults size.toNat) (by have:=hB.corners _ (q7e hpl);unfold q3L;omega)
 refine gg rfl (q0i use.toNat rfl rfl (by omega) (qq5 hu) rfl ?_)
 refine gg rfl (q0i (us s.uses use.toNat).piece.toNat rfl rfl (by omega) (q4q hpl) rfl ?_)
 refine gg rfl (q0i size.toNat rfl rfl (by omega) (q7f hml) rfl ?_)
 refine gg rfl (q02 rfl rfl hg (gg rfl (q08 rfl rfl rfl trivial ?_)))
 rfl
def qjR (s:Sty)(size use:Int):List Spot×Int:=
 if(q2W s size use).2.2≠0 then([],(q2W s size use).2.2)else q23 (q2W s size use).1 (q2W s size use).2.1.widths
theorem qG6 (s:Sty)(size use:Int)(hB:StyB s):PU qwd [s.enc,.int .i64 size,.int .i64 use]=some (qnd (qjR s size use)):=by
 have h:=qiM s size use hB
 unfold qjR
 generalize q2W s size use=o at*
 refine q0g (fn:=qkc) rfl (q0a ?_)
 refine gg rfl (q02 rfl rfl h (gg rfl (q01 rfl (fun g=>?_) (fun g=>?_))))
 ·rw[q0u]at g
  refine gg rfl (q08 rfl rfl rfl trivial ?_)
  rw[if_pos g];rfl
 rw[q0z]at g
 rw[if_neg (by simp[g])]
 exact gg rfl (q02 rfl rfl (qcI o.1 o.2.1.widths) (gg rfl (q08 rfl rfl rfl trivial rfl)))
def qel (s:Sty)(size use:Int):Spot×Int:=
 if(q2W s size use).2.2≠0 then(⟨0,0⟩,(q2W s size use).2.2)else(pt (eg (q2W s size use).1 0).line 0,0)
theorem qy3 {s:Sty}{size use:Int}(h:(q2W s size use).2.2=0):q0J (q2W s size use).1=0∧q2M s=0∧¬qmM s size use:=by
 unfold q2W at h⊢
 split at h
 ·rename_i h1;exact absurd h h1
 rename_i h1
 rw[if_neg h1]
 split at h
 ·cases h
 rename_i h2
 rw[if_neg h2]
 exact⟨(q2b h).2.2.1,by simpa using h1,h2⟩
theorem qsW (s:Sty)(size use:Int)(hB:StyB s):PU qow [s.enc,.int .i64 size,.int .i64 use]=some (.tup [(qel s size use).1.enc,.int .i64 (qel s size use).2]):=by
 have h:=qiM s size use hB
 have hk:=qy3 (s:=s) (size:=size) (use:=use)
 unfold qel
 generalize q2W s size use=o at*
 refine q0g (fn:=qd0) rfl (q0a ?_)
 refine gg rfl (q02 rfl rfl h (gg rfl (q01 rfl (fun g=>?_) (fun g=>?_))))
 ·rw[q0u]at g
  refine gg rfl (q08 rfl rfl rfl trivial ?_)
  rw[if_pos g];rfl
 rw[q0z]at g
 have hc:=(hk g).1
 have h2:=(q11 hc).1
 have hl:=(q2p hc (eg o.1 0) (by rw[q41 (by omega)];exact List.getElem_mem _)).1
 rw[if_neg (by simp[g])]
 refine gg rfl (q0i 0 rfl rfl rfl (q1K (by omega)) rfl ?_)
 refine gg rfl (q0i 0 rfl rfl rfl (q0Q (by omega)) rfl ?_)
 exact gg rfl (q08 rfl rfl rfl trivial rfl)
structure Plc where
 garment:Int
 use:Int
 copy:Int
 flip:Bool
 quarter:Int
 x:Int
 y:Int
 deriving DecidableEq
def Plc.enc (p:Plc):D:=.agg [.int .i64 p.garment,.int .i64 p.use,.int .i64 p.copy,.bool p.flip,.int .i64 p.quarter,.int .i64 p.x,.int .i64 p.y]
def plcs (l:List Plc):D:=.lst (l.map Plc.enc)
theorem qeR (p:Plc):plain 4 p.enc=true:=rfl
theorem qHq (p:Plc):dat 4 p.enc=true:=rfl
def qjS (u:Use)(i k:Nat):Plc:=⟨0,i,k,u.pair&&decide (k%2=1),0,0,0⟩
def q2T (u:Use)(i n:Nat):List Plc:=(List.range n).map (qjS u i)
def q59 (l:List Use):Nat→List Plc
 |0=>[]
 |i+1=>q59 l i++q2T (us l i) i (us l i).count.toNat
def qiN (s:Sty):List Plc:=if q2M s≠0 then []else q59 s.uses s.uses.length
theorem qiO {l:List Use}(h:∀u∈l,u.count≤4):∀i,i≤l.length→(q59 l i).length≤4*i
 |0,_=>by simp[q59]
 |i+1,hi=>by
  have h1:=qiO h i (by omega)
  have h2:=h (us l i) (by rw[qek (by omega)];exact List.getElem_mem _)
  rw[q59,List.length_append]
  simp only[q2T,List.length_map,List.length_range]
  omega
theorem tmod2 (k:Nat):((k:Int)).tmod 2=((k%2:Nat):Int):=by
 rw[Int.tmod_eq_emod_of_nonneg (by omega)];omega
set_option maxHeartbeats 8000000 in
theorem qDB (s:Sty)(hB:StyB s):PU qoC [s.enc]=some (plcs (qiN s)):=by
 refine q0g (fn:=qd4) rfl (q0a ?_)
 refine gg rfl (q02 rfl rfl (q4r s hB) (gg rfl (q01 rfl (fun g=>?_) (fun g=>?_))))
 ·rw[q0u]at g
  refine gg rfl (q08 rfl rfl rfl trivial ?_)
  rw[qiN,if_pos g];rfl
 have g:q2M s=0:=q0z.1 g
 have hok:=qiL g
 have hlen:=qiO (l:=s.uses) (fun u hu=>(hok.use u hu).2.2.2)
 have hu12:=hok.uses
 rw[qiN,if_neg (by simp[g])]
 refine gg rfl ?_
 rw[List.length_map]
 refine q0l (S:=fun k:Nat=>([.ref 0 0 (q59 s.uses k).length,Go.F.uses s.uses,q00 s.uses.length,q00 k],[some (.row ((q59 s.uses k).map Plc.enc) 7),none,none,none],[0,0,0,0])) (C:=fun k=>k≤s.uses.length) (m:=fun k=>s.uses.length-k) 0 (Nat.zero_le _) (by omega) ?_ ?_
 ·exact q03 rfl ⟨rfl,trivial⟩ rfl
 intro k hk N hN
 refine gg rfl (q01 rfl (fun e=>?_) (fun e=>?_))
 ·rw[q06]at e
  have hlt:k<s.uses.length:=by omega
  have w1:=wS (n:=k)
  have hx:=qq5 hlt
  have huk:=hok.use (us s.uses k) (by rw[qek hlt];exact List.getElem_mem _)
  have hl0:=hlen k hk
  have hstep:q59 s.uses (k+1)=q59 s.uses k++q2T (us s.uses k) k (us s.uses k).count.toNat:=rfl
  generalize us s.uses k=u at*
  generalize q59 s.uses k=L at*
  have ec:u.count=((u.count.toNat:Nat):Int):=by omega
  refine gg rfl (q0i k rfl rfl rfl hx rfl (gg rfl (q0l (S:=fun n:Nat=>([.ref 0 0 (L++q2T u k n).length,q00 k,.ptr 2 0 0,Go.F.uses s.uses,q00 s.uses.length,q00 k,.int .i64 u.count,q00 n],[some (.row ((L++q2T u k n).map Plc.enc) 7),none,some (.row [u.enc] 3),none,none,none,none,none],[0,0,0,0,0,0,0,0])) (C:=fun n=>n≤u.count.toNat) (m:=fun n=>u.count.toNat-n) 0 (Nat.zero_le _) (by omega) ?_ ?_)))
  ·exact q03 rfl ⟨q05 qeR _,rfl,trivial⟩ (by simp[q2T,uses,q00,Use.enc])
  intro n hn N2 hN2
  refine gg rfl (q01 rfl (fun f=>?_) (fun f=>?_))
  ·rw[q06]at f
   have wn:=wS (n:=n)
   have hst:(L++q2T u k (n+1)).map Plc.enc=(L++q2T u k n).map Plc.enc++[(qjS u k n).enc]:=by
    simp[q2T,List.range_succ]
   refine gg rfl (q09 rfl (fun p1=>?_) (fun p1=>?_))
   ·have p1:u.pair=true:=p1
    have hcp:qjS u k n=⟨0,k,n,decide (n%2=1),0,0,0⟩:=by rw[qjS,p1];rfl
    have hbq:eqb ((n:Int).tmod 2) 1=decide (n%2=1):=by
     rw[tmod2,q2e];apply decide_eq_decide.2;omega
    rw[hcp]at hst
    refine gg rfl (q37 rfl rfl (by decide) ?_)
    refine gg rfl ?_
    rw[hbq]
    refine gg rfl (q1b rfl rfl rfl rfl rfl rfl (by simp[q2T]) (Nat.zero_le _) (by simp[q0M,q2T];omega) ?_)
    refine gg rfl (q04 (hN2 (n+1) (by omega) (by omega) (q03 rfl ⟨?_,rfl,trivial⟩ ?_)))
    ·rw[List.all_append,q05 qeR];rfl
    rw[hst,wn]
    simp[q2T,uses,q00,Use.enc]
    exact⟨by omega,rfl⟩
   have p1:u.pair=false:=p1
   have hcp:qjS u k n=⟨0,k,n,false,0,0,0⟩:=by rw[qjS,p1];rfl
   rw[hcp]at hst
   refine gg rfl (q1b rfl rfl rfl rfl rfl rfl (by simp[q2T]) (Nat.zero_le _) (by simp[q0M,q2T];omega) ?_)
   refine gg rfl (q04 (hN2 (n+1) (by omega) (by omega) (q03 rfl ⟨?_,rfl,trivial⟩ ?_)))
   ·rw[List.all_append,q05 qeR];rfl
   rw[hst,wn]
   simp[q2T,uses,q00,Use.enc]
   exact⟨by omega,rfl⟩
  rw[q07]at f
  obtain rfl:n=u.count.toNat:=by omega
  clear hN2
  refine gg rfl (q04 (gg rfl (q04 (hN (k+1) hlt (by omega) (q03 rfl ⟨q05 qeR _,trivial⟩ ?_)))))
  rw[hstep,w1];rfl
 rw[q07]at e
 obtain rfl:k=s.uses.length:=by omega
 refine gg rfl (q04 (gg rfl (q08 rfl rfl rfl ⟨q2s (by simp) (q0W qHq _),trivial⟩ ?_)))
 rw[q2t (by simp)];rfl
def qgF (s:Sty)(sizes:List Int):List Int×Int:=
 if q2M s≠0 then([],q2M s)
 else if(sizes.any fun z=>decide (z<0) ||decide ((s.sizes.length:Int)≤z))then([],3)
 else(s.uses.map fun u=>u.count*sizes.length,0)
set_option maxHeartbeats 8000000 in
theorem qG7 (s:Sty)(sizes:List Int)(hB:StyB s)(hz:sizes.length≤1000):PU qqE [s.enc,ints sizes]=some (.tup [ints (qgF s sizes).1,.int .i64 (qgF s sizes).2]):=by
 refine q0g (fn:=qfi) rfl (q0a ?_)
 refine gg rfl (q02 rfl rfl (q4r s hB) (gg rfl (q01 rfl (fun g=>?_) (fun g=>?_))))
 ·rw[q0u]at g
  refine gg rfl (q08 rfl rfl rfl trivial ?_)
  rw[qgF,if_pos g];rfl
 have g:q2M s=0:=q0z.1 g
 have hok:=qiL g
 have hu12:=hok.uses
 have hw:qgF s sizes=if(sizes.any fun z=>decide (z<0) ||decide ((s.sizes.length:Int)≤z))then(([],3):List Int×Int)else(s.uses.map fun u=>u.count*(sizes.length:Int),0):=by rw[qgF,if_neg (by simp[g])]
 rw[hw]
 refine gg rfl ?_
 rw[List.length_map]
 refine q0l (S:=fun k:Nat=>([ints sizes,.ptr 1 0 0,ints sizes,q00 sizes.length,q00 k],[none,some (.row [s.enc] 7),none,none,none],[0,0,0,0,0])) (C:=fun k=>k≤sizes.length∧∀j (hj:j<sizes.length),j<k→(decide (sizes[j]<0) ||decide ((s.sizes.length:Int)≤sizes[j]))=false) (m:=fun k=>sizes.length-k) 0 ⟨Nat.zero_le _,fun j _ h=>by omega⟩ (by omega) ?_ ?_
 ·exact q03 rfl ⟨rfl,trivial⟩ rfl
 rintro k ⟨hk,hm⟩ N hN
 refine gg rfl (q01 rfl (fun e=>?_) (fun e=>?_))
 ·rw[q06]at e
  have hlt:k<sizes.length:=by omega
  have w1:=wS (n:=k)
  have bad:(decide (sizes[k]<0) ||decide ((s.sizes.length:Int)≤sizes[k]))=true→(sizes.any fun z=>decide (z<0) ||decide ((s.sizes.length:Int)≤z))=true:=fun h=>q29 hlt h
  have hx:(sizes.map q00)[k]?=some (.int .i64 sizes[k]):=q1A hlt
  refine gg rfl (q0i k rfl rfl rfl hx rfl (gg rfl (q09 rfl (fun f1=>?_) (fun f1=>?_))))
  ·rw[q06]at f1
   refine gg rfl (q0d rfl (gg rfl (q04 (gg rfl (q08 rfl rfl rfl trivial ?_)))))
   rw[if_pos (bad (by simp;omega))];rfl
  rw[q07]at f1
  refine gg rfl ?_
  rw[List.length_map]
  refine q01 rfl (fun f2=>?_) (fun f2=>?_)
  ·rw[q0E]at f2
   refine gg rfl (q04 (gg rfl (q08 rfl rfl rfl trivial ?_)))
   rw[if_pos (bad (by simp;omega))];rfl
  rw[q0F]at f2
  refine gg rfl (q04 (hN (k+1) ⟨hlt,fun j hj hjk=>?_⟩ (by omega) (q03 rfl ⟨rfl,trivial⟩ (by rw[w1];rfl))))
  by_cases ej:j=k
  ·subst ej;simp;omega
  exact hm j hj (by omega)
 rw[q07]at e
 obtain rfl:k=sizes.length:=by omega
 clear hN
 rw[if_neg (by rw[q1Z fun j hj=>hm j hj hj];decide)]
 refine gg rfl (q04 (gg rfl ?_))
 rw[List.length_map]
 refine q0l (S:=fun k:Nat=>([ints sizes,.ref 1 0 k,Go.F.uses s.uses,q00 s.uses.length,q00 k],[none,some (.row (((s.uses.take k).map fun u=>u.count*(sizes.length:Int)).map q00) 1),none,none,none],[0,0,0,0,0])) (C:=fun k=>k≤s.uses.length) (m:=fun k=>s.uses.length-k) 0 (Nat.zero_le _) (by omega) ?_ ?_
 ·exact q03 rfl ⟨rfl,trivial⟩ rfl
 intro k hk N hN
 refine gg rfl (q01 rfl (fun e=>?_) (fun e=>?_))
 ·rw[q06]at e
  have hlt:k<s.uses.length:=by omega
  have w1:=wS (n:=k)
  have huk:=hok.use (us s.uses k) (by rw[qek hlt];exact List.getElem_mem _)
  have hst:(((s.uses.take (k+1)).map fun u=>u.count*(sizes.length:Int)).map q00)=((s.uses.take k).map fun u=>u.count*(sizes.length:Int)).map q00++[q00 ((us s.uses k).count*sizes.length)]:=by
   rw[List.take_succ_eq_append_getElem hlt,List.map_append,List.map_append,qek hlt];rfl
  have hp:(us s.uses k).count*(sizes.length:Int)≤4*1000:=Int.mul_le_mul (by omega) (by omega) (by omega) (by omega)
  have hp0:0≤(us s.uses k).count*(sizes.length:Int):=Int.mul_nonneg (by omega) (by omega)
  have w2:IntKind.i64.wrap ((us s.uses k).count*(((sizes.map q00).length:Nat):Int))=(us s.uses k).count*(sizes.length:Int):=by rw[List.length_map];exact wrap64 (by omega) (by omega)
  refine gg rfl (q0i k rfl rfl rfl (qq5 hlt) rfl (gg rfl ?_))
  rw[w2]
  refine q1b rfl rfl rfl rfl rfl rfl (by simp;omega) (Nat.zero_le _) (by simp[q0M];omega) ?_
  refine gg rfl (q04 (hN (k+1) hlt (by omega) (q03 rfl ⟨?_,trivial⟩ ?_)))
  ·rw[List.all_append,q05 q5y];rfl
  rw[hst,w1];rfl
 rw[q07]at e
 obtain rfl:k=s.uses.length:=by omega
 rw[List.take_length]
 refine gg rfl (q04 (gg rfl (q08 rfl rfl rfl ⟨q2s (by simp) (q0W qeE _),trivial⟩ ?_)))
 rw[q2t (by simp)];rfl
end Go.F

namespace Go.F
mutual
def eqD:D→D→Bool
 |.bool a,.bool b=>a==b
 |.int k n,.int k' n'=>decide (k=k')&&decide (n=n')
 |.str a,.str b=>decide (a=b)
 |.lst l,.lst m=>eqL l m
 |.agg l,.agg m=>eqL l m
 |.tup l,.tup m=>eqL l m
 |_,_=>false
def eqL:List D→List D→Bool
 |[],[]=>true
 |a::l,b::m=>eqD a b&&eqL l m
 |_,_=>false
end
mutual
theorem qFD:∀{a b:D},eqD a b=true→a=b
 |.bool a,.bool b,h=>by simp[eqD]at h;rw[h]
 |.int k n,.int k' n',h=>by simp[eqD]at h;rw[h.1,h.2]
 |.str a,.str b,h=>by simp[eqD]at h;rw[h]
 |.lst l,.lst m,h=>by rw[eqD]at h;rw[quv h]
 |.agg l,.agg m,h=>by rw[eqD]at h;rw[quv h]
 |.tup l,.tup m,h=>by rw[eqD]at h;rw[quv h]
 |.float ..,_,h=>by simp[eqD]at h
 |.nilsl,_,h=>by simp[eqD]at h
 |.ref ..,_,h=>by simp[eqD]at h
 |.pl ..,_,h=>by simp[eqD]at h
 |.ptr ..,_,h=>by simp[eqD]at h
 |.fn ..,_,h=>by simp[eqD]at h
 |.mref ..,_,h=>by simp[eqD]at h
 |.mlst ..,_,h=>by simp[eqD]at h
 |.opq ..,_,h=>by simp[eqD]at h
 |.bad,_,h=>by simp[eqD]at h
theorem quv:∀{a b:List D},eqL a b=true→a=b
 |[],[],_=>rfl
 |a::l,b::m,h=>by rw[eqL,Bool.and_eq_true]at h;rw[qFD h.1,quv h.2]
 |[],_::_,h=>by simp[eqL]at h
 |_::_,[],h=>by simp[eqL]at h
end
def eqO:Option D→D→Bool
 |some a,b=>eqD a b
 |none,_=>false
theorem eqO_eq {a:Option D}{b:D}(h:eqO a b=true):a=some b:=by
 cases a with
 |none=>simp[eqO]at h
 |some a=>rw[qFD h]
def qH5:Piece:=⟨⟨#[102,114,111,110,116]⟩,
 [⟨⟨#[101,97]⟩,[⟨0,0⟩,⟨10,0⟩]⟩,⟨⟨#[101,98]⟩,[⟨10,0⟩,⟨10,10⟩]⟩,⟨⟨#[101,99]⟩,[⟨10,10⟩,⟨0,10⟩]⟩,⟨⟨#[101,100]⟩,[⟨0,10⟩,⟨0,0⟩]⟩],
 2,[],[⟨0,0⟩,⟨2,0⟩,⟨2,0⟩,⟨0,0⟩],[1,1,1,1],false⟩
def plainS:Sty:=⟨⟨#[115,104,105,114,116]⟩,[⟨#[83]⟩,⟨#[77]⟩],[0,3],[qH5],[⟨0,3,true⟩],[],[]⟩
theorem qD6:eqO (run prog q6K qmD 12 qlI []) plainS.enc=true:=by
 decide+kernel
theorem qFE:PU qlI []=some plainS.enc:=qyu (eqO_eq qD6)
end Go.F

namespace Go.F
attribute [local irreducible] IntKind.wrap wpM
def nI (l:List Int)(i:Nat):Int:=l.getD i 0
theorem qEf {l:List Int}{i:Nat}(h:i<l.length):(l.map q00)[i]?=some (.int .i64 (nI l i)):=by simp[nI,h,q00]
theorem qEg {l:List Int}{i:Nat}(h:i<l.length):nI l i=l[i]:=by simp[nI,h]
theorem qmd (p q:List Int)(hp:p.length<4611686018427387904):PU qoD [ints p,ints q]=some (.bool (decide (p=q))):=by
 refine q0g (fn:=qd6) rfl (q0a ?_)
 refine gg rfl (q01 rfl (fun h1=>?_) (fun h1=>?_))
 ·refine gg rfl (q08 rfl rfl rfl trivial ?_)
  rw[q0u,List.length_map,List.length_map]at h1
  have:p≠q:=by rintro rfl;exact h1 rfl
  simp[this]
 rw[q0z,List.length_map,List.length_map]at h1
 refine gg rfl (q0l (S:=fun k:Nat=>([ints p,ints q,q00 k],[none,none,none],[0,0,0])) (C:=fun k=>k≤p.length∧∀i,i<k→nI p i=nI q i) (m:=fun k=>p.length-k) 0 ⟨by omega,fun i hi=>by omega⟩ (by omega) ?_ ?_)
 ·exact q03 rfl trivial (by simp[ints,q00])
 intro k ⟨hk,hall⟩ N hN
 refine gg rfl (q01 rfl (fun g1=>?_) (fun g1=>?_))
 ·rw[q06,List.length_map]at g1
  have hlt:k<p.length:=by omega
  have w1:=wS (n:=k)
  refine gg rfl (q0i k rfl rfl rfl (qEf hlt) rfl (gg rfl (q0i k rfl rfl rfl (qEf (by omega)) rfl ?_)))
  refine gg rfl (q01 rfl (fun g2=>?_) (fun g2=>?_))
  ·rw[q0u]at g2
   refine gg rfl (q04 (gg rfl (q08 rfl rfl rfl trivial ?_)))
   have:p≠q:=by rintro rfl;exact g2 rfl
   simp[this]
  rw[q0z]at g2
  refine gg rfl (q04 (hN (k+1) ⟨by omega,fun i hi=>?_⟩ (by omega) (q03 rfl trivial (by simp[ints,q00,w1]))))
  by_cases hik:i<k
  ·exact hall i hik
  obtain rfl:i=k:=by omega
  exact g2
 rw[q07,List.length_map]at g1
 refine gg rfl (q04 (gg rfl (q08 rfl rfl rfl trivial ?_)))
 have:p=q:=by
  refine List.ext_getElem (by omega) fun i h1 h2=>?_
  have:=hall i (by omega)
  rwa[qEg h1,qEg h2]at this
 simp[this]
theorem qyr:q2M plainS=0:=by decide+kernel
theorem pl_cut:qjR plainS 1 0=([⟨-1,-1⟩,⟨17,-1⟩,⟨17,11⟩,⟨-1,11⟩],0):=by decide+kernel
theorem qGz:qel plainS 1 0=(⟨0,0⟩,0):=by decide+kernel
theorem qBM:(qiN plainS).map Plc.enc=[(⟨0,0,0,false,0,0,0⟩:Plc).enc,(⟨0,0,1,true,0,0,0⟩:Plc).enc,(⟨0,0,2,false,0,0,0⟩:Plc).enc]:=by
 rw[qiN,if_neg (by rw[qyr];decide)];rfl
theorem qEh:qgF plainS [0,1,1]=([9],0):=by
 rw[qgF,if_neg (by rw[qyr];decide)];decide
def qys:Sty:=⟨⟨#[]⟩,[],[],[],[],[],[]⟩
theorem qEi:q2M qys=1:=by decide+kernel
end Go.F

namespace Go.F
theorem qGL {f:FuncId}{fn:KFn}{args:List D}{Q:D→Prop}(hf:tab f=some fn)(hw:wp TT (shr TT 6) 0 fn.code (enter args) empty qhZ 0 (qeY fn fun d h _ _=>ws2 h d Q)):∃r,Q r∧PU f args=some r:=by
 obtain⟨F,cd,h1,h2,h3⟩:=tt_ok.tab f fn hf
 obtain⟨d,h',z',nx',q1,e1⟩:=qe2 tt_ok (qsw tt_ok 6) h2 h3 hw
 obtain⟨d',h4,h5⟩:=qAU q1
 refine⟨d',h5,qua (e1.up.mono fun M hM=>?_)⟩
 obtain⟨M',rfl,hM'⟩:=hM
 simp only[EM,env,h1,h2]
 have hM2:body prog (env prog q6K qmD M') (qmD f) F cd args empty qhZ 0=some (d,h',z',nx'):=hM'
 rw[hM2]
 exact h4
theorem qFc {f:FuncId}{fn:KFn}{args:List D}{R:Prop}(hf:tab f=some fn)
 (hw:wpM TT (shr TT 6) 0 [.code fn.code] .normal (enter args) empty qhZ 0 (qeY fn fun d h _ _=>ws2 h d fun d=>∃b:Bool,d=.bool b∧(b=true→R))):∃b:Bool,PU f args=some (.bool b)∧(b=true→R):=by
 simp only[wpM]at hw
 obtain⟨r,⟨b,rfl,hb⟩,h2⟩:=qGL hf hw
 exact⟨b,h2,hb⟩
attribute [local irreducible] IntKind.wrap wpM
section
variable {T:Tab}{sh:Shr}{nx0:Nat}{t:q0x}{h:q0e}{z:Frz}{nx:Nat}
theorem q7q {fn:KFn}{ex:Ex}{Q:D→Prop}{d d':D}{rows:List (List D×Nat×Nat)}(hex:(match ex with|.exit _=>false|_=>true)=true)(hd:dres t h fn.res=some d)(hs:dr2 h d=some (rows,d'))(hr:q48 rows)(he:Q d'):
 wpM T sh nx0 [] ex t h z nx (qeY fn fun d h _ _=>ws2 h d Q):=by
 refine q04 ?_
 cases ex with
 |exit i=>cases hex
 |normal=>exact q6v hd (qeT hs hr he)
 |ret=>exact q6v hd (qeT hs hr he)
end
structure PcL (p:Piece):Prop where
 edges:p.edges.length≤20
 corners:p.corners.length≤20
 widths:p.widths.length≤20
 notches:p.notches.length≤20
 line:∀i,i<p.edges.length→(eg p.edges i).line.length≤80∧(eg p.edges i).name.size≤100
theorem qpa (p:Piece):p.enc=.agg [.str p.name,.lst (p.edges.map Edge.enc),.int .i64 p.grain,.lst (p.notches.map Ntc.enc),.lst (p.corners.map Spot.enc),.lst (p.widths.map q00),.bool p.match_]:=rfl
set_option maxHeartbeats 8000000 in
theorem qfV (p:Piece)(M:Nat)(hM:M≤80):∃b:Bool,PU qlH [p.enc,.int .i64 M]=some (.bool b)∧(b=true→PcL p):=by
 refine qFc (fn:=qkX) rfl ?_
 rw[qpa]
 refine gg rfl (q09 rfl (fun g0=>?_) (fun g0=>?_))
 ·exact gg rfl (q0h rfl (gg rfl (q0h rfl (gg rfl (q0d rfl (gg rfl (q7q rfl rfl rfl trivial ⟨false,rfl,fun h=>by cases h⟩)))))))
 refine gg rfl (q09 rfl (fun g1=>?_) (fun g1=>?_))
 ·exact gg rfl (q0h rfl (gg rfl (q0d rfl (gg rfl (q7q rfl rfl rfl trivial ⟨false,rfl,fun h=>by cases h⟩)))))
 refine gg rfl (q09 rfl (fun g2=>?_) (fun g2=>?_))
 ·exact gg rfl (q0d rfl (gg rfl (q7q rfl rfl rfl trivial ⟨false,rfl,fun h=>by cases h⟩)))
 refine gg rfl (q01 rfl (fun g3=>?_) (fun g3=>?_))
 ·exact gg rfl (q7q rfl rfl rfl trivial ⟨false,rfl,fun h=>by cases h⟩)
 rw[q07,List.length_map]at g0 g1 g2 g3
 refine gg rfl (q0l (S:=fun a:Nat×Nat=>([.int .i64 M,.ptr 1 0 0,q00 a.2,q00 a.1],[none,some (.row [p.enc] 7),none,none],[0,0,0,0])) (C:=fun a=>a.1≤p.edges.length∧a.2≤80*a.1∧∀j,j<a.1→(eg p.edges j).line.length≤80∧(eg p.edges j).name.size≤100) (m:=fun a=>p.edges.length-a.1) (0,0) ⟨Nat.zero_le _,Nat.zero_le _,fun j h=>by simp at h⟩ (by show p.edges.length-0<_;omega) ?_ ?_)
 ·exact q03 rfl ⟨rfl,trivial⟩ rfl
 rintro⟨k,n⟩ ⟨hk,hn,hj⟩ N hN
 simp only at hk hn hj
 simp only[qpa]
 refine gg rfl ?_
 rw[List.length_map]
 refine q01 rfl (fun e=>?_) (fun e=>?_)
 ·rw[q06]at e
  have hlt:k<p.edges.length:=by omega
  have w1:=wS (n:=k)
  refine gg rfl (q0i k rfl rfl rfl (q1K hlt) rfl (gg rfl ?_))
  rw[List.length_map]
  refine q09 rfl (fun f1=>?_) (fun f1=>?_)
  ·exact gg rfl (q0d rfl (gg rfl (q04 (gg rfl (q7q rfl rfl rfl trivial ⟨false,rfl,fun h=>by cases h⟩)))))
  rw[q07]at f1
  refine gg rfl (q0i k rfl rfl rfl (q1K hlt) rfl (gg rfl (q01 rfl (fun f2=>?_) (fun f2=>?_))))
  ·exact gg rfl (q04 (gg rfl (q7q rfl rfl rfl trivial ⟨false,rfl,fun h=>by cases h⟩)))
  rw[q07]at f2
  have w2:IntKind.i64.wrap ((n:Int)+((eg p.edges k).line.length:Nat))=((n+(eg p.edges k).line.length:Nat):Int):=ww
  refine gg rfl (q0i k rfl rfl rfl (q1K hlt) rfl (gg rfl ?_))
  rw[List.length_map]
  refine q04 (hN (k+1,n+(eg p.edges k).line.length) ⟨hlt,by show _≤80*(k+1);omega,fun j hjk=>?_⟩ (by show p.edges.length-(k+1)<p.edges.length-k;omega) (q03 rfl ⟨rfl,trivial⟩ (by rw[w1,w2];rfl)))
  have hjk:j<k+1:=hjk
  by_cases ej:j=k
  ·subst ej;omega
  exact hj j (by omega)
 rw[q07]at e
 obtain rfl:k=p.edges.length:=by omega
 exact gg rfl (q04 (gg rfl (q7q rfl rfl rfl trivial ⟨_,rfl,fun _=>⟨by omega,by omega,by omega,by omega,hj⟩⟩)))
theorem qub (p:Piece):∃b:Bool,PU qlH [p.enc,.int .i64 80]=some (.bool b)∧(b=true→PcL p):=qfV p 80 (Nat.le_refl _)
structure StyL (s:Sty):Prop where
 name:s.name.size≤100
 sizes:s.sizes.length≤30
 mults:s.mults.length≤30
 uses:s.uses.length≤30
 seams:s.seams.length≤30
 ops:s.ops.length≤30
 pieces:s.pieces.length≤14
 size:∀i (h:i<s.sizes.length),s.sizes[i].size≤100
 piece:∀i,i<s.pieces.length→PcL (pc s.pieces i)
theorem StyL.B {s:Sty}(h:StyL s):StyB s where
 sizes:=Nat.le_trans h.sizes (by decide)
 size:=fun x hx=>by
  obtain⟨i,hi,rfl⟩:=List.mem_iff_getElem.1 hx
  exact Nat.le_trans (h.size i hi) (by decide)
 mults:=Nat.le_trans h.mults (by decide)
 pieces:=Nat.le_trans h.pieces (by decide)
 uses:=Nat.le_trans h.uses (by decide)
 seams:=Nat.le_trans h.seams (by decide)
 ops:=Nat.le_trans h.ops (by decide)
 corners:=fun p hp=>by
  obtain⟨i,hi,rfl⟩:=List.mem_iff_getElem.1 hp
  exact q6s hi▸Nat.le_trans (h.piece i hi).corners (by decide)
 widths:=fun p hp=>by
  obtain⟨i,hi,rfl⟩:=List.mem_iff_getElem.1 hp
  exact q6s hi▸Nat.le_trans (h.piece i hi).widths (by decide)
 notches:=fun p hp=>by
  obtain⟨i,hi,rfl⟩:=List.mem_iff_getElem.1 hp
  exact q6s hi▸Nat.le_trans (h.piece i hi).notches (by decide)
set_option maxHeartbeats 8000000 in
theorem qii (s:Sty):∃b:Bool,PU qwb [s.enc]=some (.bool b)∧(b=true→StyL s):=by
 refine qFc (fn:=qka) rfl ?_
 rw[qeQ]
 refine gg rfl (q09 rfl (fun g0=>?_) (fun g0=>?_))
 ·exact gg rfl (q0h rfl (gg rfl (q0h rfl (gg rfl (q0h rfl (gg rfl (q0h rfl (gg rfl (q0h rfl (gg rfl (q0d rfl (gg rfl (q7q rfl rfl rfl trivial ⟨false,rfl,fun h=>by cases h⟩)))))))))))))
 refine gg rfl (q09 rfl (fun g1=>?_) (fun g1=>?_))
 ·exact gg rfl (q0h rfl (gg rfl (q0h rfl (gg rfl (q0h rfl (gg rfl (q0h rfl (gg rfl (q0d rfl (gg rfl (q7q rfl rfl rfl trivial ⟨false,rfl,fun h=>by cases h⟩)))))))))))
 refine gg rfl (q09 rfl (fun g2=>?_) (fun g2=>?_))
 ·exact gg rfl (q0h rfl (gg rfl (q0h rfl (gg rfl (q0h rfl (gg rfl (q0d rfl (gg rfl (q7q rfl rfl rfl trivial ⟨false,rfl,fun h=>by cases h⟩)))))))))
 refine gg rfl (q09 rfl (fun g3=>?_) (fun g3=>?_))
 ·exact gg rfl (q0h rfl (gg rfl (q0h rfl (gg rfl (q0d rfl (gg rfl (q7q rfl rfl rfl trivial ⟨false,rfl,fun h=>by cases h⟩)))))))
 refine gg rfl (q09 rfl (fun g4=>?_) (fun g4=>?_))
 ·exact gg rfl (q0h rfl (gg rfl (q0d rfl (gg rfl (q7q rfl rfl rfl trivial ⟨false,rfl,fun h=>by cases h⟩)))))
 refine gg rfl (q09 rfl (fun g5=>?_) (fun g5=>?_))
 ·exact gg rfl (q0d rfl (gg rfl (q7q rfl rfl rfl trivial ⟨false,rfl,fun h=>by cases h⟩)))
 refine gg rfl (q01 rfl (fun g6=>?_) (fun g6=>?_))
 ·exact gg rfl (q7q rfl rfl rfl trivial ⟨false,rfl,fun h=>by cases h⟩)
 rw[q07]at g0 g1 g2 g3 g4 g5 g6
 rw[List.length_map]at g1 g2 g3 g4 g5 g6
 refine gg rfl (q0l (S:=fun k:Nat=>([.ptr 0 0 0,q00 k],[some (.row [s.enc] 7),none],[0,0])) (C:=fun k=>k≤s.sizes.length∧∀j (h:j<s.sizes.length),j<k→s.sizes[j].size≤100) (m:=fun k=>s.sizes.length-k) 0 ⟨Nat.zero_le _,fun j _ h=>by omega⟩ (by omega) ?_ ?_)
 ·exact q03 rfl ⟨rfl,trivial⟩ rfl
 rintro k ⟨hk,hj⟩ N hN
 simp only[qeQ]
 refine gg rfl ?_
 rw[List.length_map]
 refine q01 rfl (fun e=>?_) (fun e=>?_)
 ·rw[q06]at e
  have hlt:k<s.sizes.length:=by omega
  have w1:=wS (n:=k)
  have hx:(s.sizes.map D.str)[k]?=some (.str s.sizes[k]):=q1A hlt
  refine gg rfl (q0i k rfl rfl rfl hx rfl (gg rfl (q01 rfl (fun f1=>?_) (fun f1=>?_))))
  ·exact gg rfl (q04 (gg rfl (q7q rfl rfl rfl trivial ⟨false,rfl,fun h=>by cases h⟩)))
  rw[q07]at f1
  refine gg rfl (q04 (hN (k+1) ⟨hlt,fun j hj2 hjk=>?_⟩ (by omega) (q03 rfl ⟨rfl,trivial⟩ (by rw[w1];rfl))))
  by_cases ej:j=k
  ·subst ej;omega
  exact hj j hj2 (by omega)
 rw[q07]at e
 obtain rfl:k=s.sizes.length:=by omega
 clear hN
 refine gg rfl (q04 (gg rfl (q0l (S:=fun k:Nat=>([.ptr 0 0 0,q00 k],[some (.row [s.enc] 7),none],[0,0])) (C:=fun k=>k≤s.pieces.length∧∀j,j<k→PcL (pc s.pieces j)) (m:=fun k=>s.pieces.length-k) 0 ⟨Nat.zero_le _,fun j h=>by omega⟩ (by omega) ?_ ?_)))
 ·exact q03 rfl ⟨rfl,trivial⟩ rfl
 rintro k ⟨hk,hp⟩ N hN
 simp only[qeQ]
 refine gg rfl ?_
 rw[List.length_map]
 refine q01 rfl (fun e=>?_) (fun e=>?_)
 ·rw[q06]at e
  have hlt:k<s.pieces.length:=by omega
  have w1:=wS (n:=k)
  obtain⟨b,hb,hbs⟩:=qub (pc s.pieces k)
  refine gg rfl (q0i k rfl rfl rfl (q4q hlt) rfl (gg rfl (q09 rfl (fun f1=>?_) (fun f1=>?_))))
  ·exact gg rfl (q0d rfl (gg rfl (q04 (gg rfl (q7q rfl rfl rfl trivial ⟨false,rfl,fun h=>by cases h⟩)))))
  refine gg rfl (q0i k rfl rfl rfl (q4q hlt) rfl (gg rfl (q02 rfl rfl hb (gg rfl ?_))))
  cases b with
  |false=>
   exact q0d rfl (gg rfl (q04 (gg rfl (q7q rfl rfl rfl trivial ⟨false,rfl,fun h=>by cases h⟩))))
  |true=>
   refine q0j rfl (gg rfl (q04 (hN (k+1) ⟨hlt,fun j hjk=>?_⟩ (by omega) (q03 rfl ⟨rfl,trivial⟩ (by rw[w1];rfl)))))
   by_cases ej:j=k
   ·subst ej;exact hbs rfl
   exact hp j (by omega)
 rw[q07]at e
 obtain rfl:k=s.pieces.length:=by omega
 exact gg rfl (q04 (gg rfl (q7q rfl rfl rfl trivial ⟨_,rfl,fun _=>⟨by omega,by omega,by omega,by omega,by omega,by omega,by omega,fun i hi=>hj i hi hi,hp⟩⟩)))
end Go.F

namespace Go.F
attribute [local irreducible] IntKind.wrap wpM
theorem plB:StyB plainS:=⟨by decide,by decide,by decide,by decide,by decide,by decide,by decide,by decide,by decide,by decide⟩
theorem emB:StyB qys:=⟨by decide,by decide,by decide,by decide,by decide,by decide,by decide,by decide,by decide,by decide⟩
set_option maxRecDepth 100000 in
set_option maxHeartbeats 8000000 in
theorem qvm:PU qwc []=some (.bool true):=by
 have s1:=qG6 plainS 1 0 plB
 have s2:=qsW plainS 1 0 plB
 have s3:=qDB plainS plB
 have s4:=qG7 plainS [0,1,1] plB (by decide)
 have s5:=q4r plainS plB
 have s6:=q4r qys emB
 rw[pl_cut]at s1
 rw[qGz]at s2
 rw[plcs,qBM]at s3
 rw[qEh]at s4
 rw[qyr]at s5
 rw[qEi]at s6
 have hn:∀{x:Int} {P:Prop},nqb x x=true→P:=fun h=>absurd rfl (q0u.1 h)
 have s7:=q70 [⟨-1,-1⟩,⟨17,-1⟩,⟨17,11⟩,⟨-1,11⟩] [⟨-1,-1⟩,⟨17,-1⟩,⟨17,11⟩,⟨-1,11⟩] (by decide)
 have s8:=qmd [9] [9] (by decide)
 rw[decide_eq_true rfl]at s7 s8
 have e0:eqb 0 0=true:=q1n.2 rfl
 have e1:eqb 1 1=true:=q1n.2 rfl
 refine q0g (fn:=qkU) rfl (q0a ?_)
 refine gg rfl (q02 rfl rfl qFE (gg rfl (q02 rfl rfl s1 (gg rfl (q02 rfl rfl s2 (gg rfl (q02 rfl rfl s3 (gg rfl (q1T rfl rfl ⟨⟨by decide,rfl⟩,trivial⟩ s4 fun z=>(gg rfl (q09 rfl hn (fun _=>?_))))))))))))
 refine gg rfl (q09 rfl hn (fun _=>?_))
 refine gg rfl (q09 rfl hn (fun _=>?_))
 refine gg rfl (q09 rfl hn (fun _=>?_))
 refine gg rfl (q02 rfl rfl s5 (gg rfl (q09 rfl hn (fun _=>?_))))
 refine gg rfl (q02 rfl rfl s6 (gg rfl (q01 rfl hn (fun _=>?_))))
 refine gg rfl (q1T rfl rfl ⟨⟨by decide,rfl⟩,trivial⟩ s7 fun z=>(gg rfl (q0h rfl (gg rfl (q09 rfl (fun _=>?_) (fun h=>by simp[e0]at h))))))
 refine gg rfl (q0i 1 rfl rfl rfl rfl rfl (gg rfl (q09 rfl (fun _=>?_) (fun h=>by simp[e0,e1]at h))))
 exact gg rfl (q1T rfl rfl ⟨⟨by decide,rfl⟩,trivial⟩ s8 fun z=>(gg rfl (q08 rfl rfl rfl trivial rfl)))
end Go.F

namespace Go.F
attribute [local irreducible] IntKind.wrap wpM
theorem qxR (l:List Edge)(ws:List Int):(q23 l ws).1.length≤40:=by
 unfold q23
 split
 ·unfold q7H
  split
  ·simp
  split
  ·rename_i hq
   split
   ·exact(q16 hq).2.1
   simp
  simp
 simp
theorem qFZ (s:Sty)(a b:Int):(qjR s a b).1.length≤40:=by
 unfold qjR
 split
 ·simp
 exact qxR _ _
end Go.F

namespace Go.F
section
variable {t:q0x}{h:q0e}{z:Frz}{nx:Nat}
def qgw (nx0:Nat)(ids:List (Option Nat))(t:q0x):Live→List D
 |[]=>[]
 |x::rest=>(match q6i x.1 with|true=> .bad|false=>q1f nx0 ids (t x.1))::qgw nx0 ids t rest
theorem qjB (nx0:Nat)(ids:List (Option Nat))(t:q0x):∀live,qgf nx0 ids t live=mkT live (qgw nx0 ids t live)
 |[]=>rfl
 |x::rest=>by rw[qgf,qgw,mkT,qjB nx0 ids t rest];rfl
theorem qCJ {nx0:Nat}{ids:List (Option Nat)}{s:St}:∀{live:Live},q3A nx0 ids s.heap s.tmps live=true→q3Y nx0 ids live s=some s:=by
 intro live
 induction live with
 |nil=>intro _;rfl
 |cons x rest ih=>
  intro hk
  rw[q3A,Bool.and_eq_true]at hk
  rw[q3Y]
  have e:q4x nx0 ids x.1 s=some s:=by
   unfold q4x
   have h1:=hk.1
   split
   ·rename_i hid
    rw[hid]at h1
    split
    ·rfl
    rename_i hp
    rw[hp]at h1
    have hl:look s.tmps s.heap x.1=s.tmps x.1:=by unfold look;rw[hp]
    rw[hl]at hid
    unfold qjc
    rw[hid]
    simp only
    simp only at h1
    rw[h1]
   rename_i id hid
   rw[hid]at h1
   split
   ·rename_i es esz hh
    have h1:q9h nx0 ids (s.heap id)=true:=h1
    rw[hh]at h1
    have h1:es.all (okD nx0 ids)=true:=h1
    rw[h1]
   rfl
  rw[e]
  exact ih hk.2
theorem qB6 {live:Live}{s1:St}{ids:List (Option Nat)}{vs:List D}{bs:List (Option Blk)}{zs:List Nat}{K:Kept→Prop}
 (hn:q5e live ⟨t,h,z,nx⟩=s1) (hi:q1S s1.tmps s1.heap live=ids) (ho:q3A 0 ids s1.heap s1.tmps live=true)
 (hv:qgw 0 ids s1.tmps live=vs) (hb:q8v 0 ids none (fun i=>q77 0 ids (s1.heap i)) ids 0=bs) (hz:q8v 0 ids 0 s1.frz ids 0=zs)
 (hk:K (vs,bs,zs)) (hnst:q5p live=true:=by rfl):q12 0 live t h z nx fun _ _ kp=>K kp:=by
 unfold q12
 rw[hnst]
 simp only
 refine⟨s1.heap,s1.frz,(vs,bs,zs),hk,?_⟩
 unfold qbb
 rw[hn,hi,qCJ ho]
 simp only
 unfold qw0
 rw[hi,ho]
 simp only
 rw[qjB,hv,q7A _ _ (Nat.le_refl _),q7A _ _ (Nat.le_refl _),hb,hz]
theorem qB7 {live:Live}{s1:St}{ids:List (Option Nat)}{vs:List D}{bs:List (Option Blk)}{zs:List Nat}
 (hn:q5e live ⟨t,h,z,nx⟩=s1) (hi:q1S s1.tmps s1.heap live=ids) (ho:q3A 0 ids s1.heap s1.tmps live=true)
 (hv:qgw 0 ids s1.tmps live=vs) (hb:q8v 0 ids none (fun i=>q77 0 ids (s1.heap i)) ids 0=bs) (hz:q8v 0 ids 0 s1.frz ids 0=zs)
 (hnst:q5p live=true:=by rfl):q12 0 live t h z nx fun _ _ kp=>kp=(vs,bs,zs):=
 qB6 hn hi ho hv hb hz rfl hnst
end
theorem qCK (ids:List (Option Nat))(l:List Spot):(l.map Spot.enc).all (okD 0 ids)=true:=by
 rw[List.all_map,List.all_eq_true]
 intro x _;rfl
theorem qCL (ids:List (Option Nat))(l:List Spot):(l.map Spot.enc).map (renE 0 ids)=l.map Spot.enc:=by
 rw[List.map_map]
 apply List.map_congr_left
 intro x _;rfl
end Go.F

namespace Go.F
attribute [local irreducible] IntKind.wrap wpM
theorem q9G (n m:Int)(h0:0≤m)(h1:m≤1000000):PU qtP [.int .i64 n,.int .i64 m]=some (.bool (inB n m)):=by
 have w:IntKind.i64.wrap (0-m)= -m:=by rw[wrap64 (by omega) (by omega)];omega
 have w':IntKind.i64.wrap (-m)= -m:=ww
 refine q0g (fn:=qhl) rfl (q0a ?_)
 refine gg rfl ?_
 repeat' (first
  |refine goP 800 rfl rfl ?_
  |refine q0h rfl ?_|refine q0n rfl ?_|refine q09 rfl (fun _=>?_) (fun _=>?_)
  |refine q0d rfl ?_|refine q0j rfl ?_|refine q01 rfl (fun _=>?_) (fun _=>?_)
  |refine q0N rfl (fun _=>?_) (fun _=>?_)
  |refine q08 rfl rfl rfl trivial ?_)
 all_goals (try simp only[w,w']at*)
 all_goals ((try simp only[q1J,q27,q2e,q40,decide_eq_true_eq,decide_eq_false_iff_not,Bool.not_eq_true,Bool.not_eq_false,Int.not_lt,Int.not_le]at*);first|(simp_all[inB];done) |(simp_all[inB];omega) |(rw[D.bool.injEq,Bool.eq_iff_iff];simp[inB];omega) |(rw[D.bool.injEq,Bool.eq_iff_iff];simp_all[inB];omega) |(simp[inB];split<;>(try split)<;>omega))
theorem qiu (a b:Int)(ha0: -1099511627776≤a)(ha:a≤1099511627776)(hb:0<b)(hb':b≤1099511627776):PU qwy [.int .i64 a,.int .i64 b]=some (.int .i64 (q1u a b)):=by
 have w3:=ww (x:=2*b)
 refine q0g (fn:=qkQ) rfl (q0a ?_)
 refine gg rfl (q01 rfl (fun h=>?_) (fun h=>?_))
 ·rw[q06]at h
  have w1:=ww (x:= -2*a)
  have w2:=ww (x:= -2*a+b)
  refine gg rfl (qem rfl rfl (by rw[w3];omega) ?_)
  refine gg rfl (q08 rfl rfl rfl trivial ?_)
  have hd:(-2*a+b).tdiv (2*b)=(-2*a+b)/(2*b):=Int.tdiv_eq_ediv_of_nonneg (by omega)
  have hq:(-2*a+b)/(2*b)≤ -2*a+b:=Int.ediv_le_self _ (by omega)
  have hq0:0≤(-2*a+b)/(2*b):=Int.ediv_nonneg (by omega) (by omega)
  rw[w1,w2,w3,hd,wrap64 (x:=(-2*a+b)/(2*b)) (by omega) (by omega),wrap64 (by omega) (by omega),q1u,if_pos (by omega),show 2* -a+b= -2*a+b by omega]
  simp
 rw[q07]at h
 have w1:=ww (x:=2*a)
 have w2:=ww (x:=2*a+b)
 refine gg rfl (qem rfl rfl (by rw[w3];omega) ?_)
 refine gg rfl (q08 rfl rfl rfl trivial ?_)
 have hd:(2*a+b).tdiv (2*b)=(2*a+b)/(2*b):=Int.tdiv_eq_ediv_of_nonneg (by omega)
 have hq:(2*a+b)/(2*b)≤2*a+b:=Int.ediv_le_self _ (by omega)
 have hq0:0≤(2*a+b)/(2*b):=Int.ediv_nonneg (by omega) (by omega)
 rw[w1,w2,w3,hd,wrap64 (by omega) (by omega),q1u,if_neg (by omega)]
set_option maxHeartbeats 4000000 in
theorem qri (e:Edge)(a b:Spot)(h2:2≤e.line.length)(h40:e.line.length≤40)(hw:∀s∈e.line,q0v s 1048576=true)(ha:qi4 a 100000)(hb:qi4 b 100000):
 PU qtQ [e.enc,a.enc,b.enc]=some (Edge.enc ⟨e.name,qtB e.line a b⟩):=by
 obtain⟨name,l⟩:=e
 simp only at h2 h40 hw⊢
 have w0:=ww (x:=(l.length:Int)-1)
 refine q0g (fn:=qhn) rfl (q0a ?_)
 refine gg rfl ?_
 rw[List.length_map,w0]
 refine q0l (S:=fun k:Nat=>([.ptr 0 0 0,.ptr 1 0 0,.ptr 2 0 0,.ptr 3 0 0,.ptr 4 0 0,.int .i64 ((l.length:Int)-1),q00 k,.bad],[some (.row [Edge.enc ⟨name,l⟩] 2),some (.row [a.enc] 2),some (.row [b.enc] 2),some (.row [.agg [.str ⟨#[]⟩,.nilsl]] 2),some (.row [.agg [.str name,.ref 7 0 k]] 2),none,none,some (.row (((List.range k).map (qeX l a b)).map Spot.enc) 2)],[0,0,0,0,0,0,0,0])) (C:=fun k=>k≤l.length) (m:=fun k=>l.length-k) 0 (Nat.zero_le _) (by omega) ?_ ?_
 ·exact qB7 rfl rfl rfl rfl rfl rfl
 intro k hk N hN
 refine gg rfl (q01 rfl (fun e1=>?_) (fun e1=>?_))
 ·rw[q0E]at e1
  have hlt:k<l.length:=by omega
  have w1:=wS (n:=k)
  have hin:=hw (pt l k) (by rw[q0D hlt];exact List.getElem_mem _)
  rw[q1B]at hin
  have c1:=qmU hlt h40 ha.1 hb.1
  have c2:=qmU hlt h40 ha.2 hb.2
  have d0:IntKind.i64.wrap ((l.length:Int)-1-(k:Int))=(l.length:Int)-1-k:=ww
  have d1:=ww (x:=((l.length:Int)-1-k) *a.x)
  have d2:=ww (x:=(k:Int) *b.x)
  have d3:=ww (x:=((l.length:Int)-1-k) *a.x+(k:Int) *b.x)
  have d4:=ww (x:=((l.length:Int)-1-k) *a.y)
  have d5:=ww (x:=(k:Int) *b.y)
  have d6:=ww (x:=((l.length:Int)-1-k) *a.y+(k:Int) *b.y)
  have q1:=qiu (((l.length:Int)-1-k) *a.x+(k:Int) *b.x) ((l.length:Int)-1) (by omega) (by omega) (by omega) (by omega)
  have q2:=qiu (((l.length:Int)-1-k) *a.y+(k:Int) *b.y) ((l.length:Int)-1) (by omega) (by omega) (by omega) (by omega)
  have hst:(((List.range (k+1)).map (qeX l a b)).map Spot.enc)=((List.range k).map (qeX l a b)).map Spot.enc++[(qeX l a b k).enc]:=by
   rw[List.range_succ,List.map_append,List.map_append];rfl
  have hro:=fun ids=>qCK ids ((List.range (k+1)).map (qeX l a b))
  have hrr:=fun ids=>qCL ids ((List.range (k+1)).map (qeX l a b))
  have r1:=q8O (a:=((l.length:Int)-1-k) *a.x+(k:Int) *b.x) (b:=(l.length:Int)-1) (m:=8000000) (by omega) (by omega) (by omega)
  have r2:=q8O (a:=((l.length:Int)-1-k) *a.y+(k:Int) *b.y) (b:=(l.length:Int)-1) (m:=8000000) (by omega) (by omega) (by omega)
  have d7:=ww (x:=(pt l k).x+q1u (((l.length:Int)-1-k) *a.x+(k:Int) *b.x) ((l.length:Int)-1))
  have d8:=ww (x:=(pt l k).y+q1u (((l.length:Int)-1-k) *a.y+(k:Int) *b.y) ((l.length:Int)-1))
  refine gg rfl ?_
  rw[d0,d1,d2,d3]
  refine q02 rfl rfl q1 (gg rfl ?_)
  rw[d0,d4,d5,d6]
  refine q02 rfl rfl q2 (gg rfl (q0i k rfl rfl rfl (q0Q hlt) rfl (gg rfl ?_)))
  rw[d7]
  refine q0i k rfl rfl rfl (q0Q hlt) rfl (gg rfl ?_)
  rw[d8]
  refine q1b rfl rfl rfl rfl rfl rfl (by simp) (Nat.zero_le _) (by simp[q0M];omega) ?_
  refine gg rfl (q04 ?_)
  have hst2:((List.range k).map (qeX l a b)).map Spot.enc++[.agg [.int .i64 ((pt l k).x+q1u (((l.length:Int)-1-k) *a.x+(k:Int) *b.x) ((l.length:Int)-1)),.int .i64 ((pt l k).y+q1u (((l.length:Int)-1-k) *a.y+(k:Int) *b.y) ((l.length:Int)-1))]]=((List.range (k+1)).map (qeX l a b)).map Spot.enc:=hst.symm
  rw[hst2,w1]
  refine hN (k+1) (by omega) (by omega) (qB7 rfl rfl ?_ rfl ?_ rfl)
  ·show((((List.range (k+1)).map (qeX l a b)).map Spot.enc).all (okD 0 _)&&true)=true
   rw[hro];rfl
  exact congrArg (fun r:List D=>([some (.row [Edge.enc ⟨name,l⟩] 2),some (.row [a.enc] 2),some (.row [b.enc] 2),some (.row [.agg [.str ⟨#[]⟩,.nilsl]] 2),some (.row [.agg [.str name,.ref 7 0 (k+1)]] 2),none,none,some (.row r 2)]:List (Option Blk))) (hrr _)
 rw[q0F]at e1
 obtain rfl:k=l.length:=by omega
 refine gg rfl (q04 (gg rfl (q08 rfl rfl rfl ⟨q2s (by simp) (q0W q2r _),trivial⟩ ?_)))
 rw[q2t (by simp)];rfl
end Go.F

namespace Go.F
attribute [local irreducible] IntKind.wrap wpM
set_option maxHeartbeats 4000000 in
theorem q3e (p:Piece)(m:Int)(hc:p.corners.length≤1000000):PU qtJ [p.enc,.int .i64 m]=some (encGr (q0p p m)):=by
 refine q0g (fn:=qgN) rfl (q0a ?_)
 refine gg rfl (q02 rfl rfl (q9G m 100 (by decide) (by decide)) ?_)
 cases hm:inB m 100 with
 |false=>
  refine gg rfl (q0d rfl (gg rfl (q08 rfl rfl rfl trivial ?_)))
  rw[q0p,if_pos hm];rfl
 |true=>
  have hm1:¬inB m 100=false:=by rw[hm];decide
  rw[qeI]at hm
  refine gg rfl (q0j rfl (gg rfl ?_))
  rw[List.length_map,List.length_map]
  refine q01 rfl (fun g1=>?_) (fun g1=>?_)
  ·rw[q0u]at g1
   refine gg rfl (q08 rfl rfl rfl trivial ?_)
   rw[q0p,if_neg hm1,if_pos (by omega)];rfl
  rw[q0z]at g1
  have g1':p.corners.length=p.edges.length:=by omega
  refine gg rfl (q0l (S:=fun k:Nat=>([.int .i64 m,.ptr 1 0 0,q00 p.edges.length,q00 k],[none,some (.row [p.enc] 7),none,none],[0,0,0,0])) (C:=fun k=>k≤p.corners.length∧∀j (hj:j<p.corners.length),j<k→(inB p.corners[j].x 1000&&inB p.corners[j].y 1000)=true) (m:=fun k=>p.corners.length-k) 0 ⟨Nat.zero_le _,fun j _ hj=>by omega⟩ (by omega) ?_ ?_)
  ·exact q03 rfl ⟨rfl,trivial⟩ (by simp[q0k,q00,Piece.enc,edges,qgD,ints])
  rintro k ⟨hk,hin⟩ N hN
  refine gg rfl (q01 rfl (fun e1=>?_) (fun e1=>?_))
  ·rw[q06]at e1
   have hlt:k<p.corners.length:=by omega
   have w1:=wS (n:=k)
   have hx:=q9G (pt p.corners k).x 1000 (by decide) (by decide)
   have hy:=q9G (pt p.corners k).y 1000 (by decide) (by decide)
   have bad:(inB (pt p.corners k).x 1000&&inB (pt p.corners k).y 1000)=false→q0p p m=([],3):=by
    intro h
    rw[q0p,if_neg hm1,if_neg (by omega),if_pos]
    refine q29 hlt ?_
    rw[←q0D hlt,h];rfl
   refine gg rfl (q0i k rfl rfl rfl (q0Q hlt) rfl (gg rfl (q02 rfl rfl hx ?_)))
   cases bx:inB (pt p.corners k).x 1000 with
   |false=>
    refine gg rfl (q0h rfl (gg rfl (q0d rfl (gg rfl (q04 (gg rfl (q08 rfl rfl rfl trivial ?_)))))))
    rw[bad (by rw[bx];rfl)];rfl
   |true=>
    refine gg rfl (q0n rfl (gg rfl (q0i k rfl rfl rfl (q0Q hlt) rfl (gg rfl (q02 rfl rfl hy ?_)))))
    cases by':inB (pt p.corners k).y 1000 with
    |false=>
     refine gg rfl (q0d rfl (gg rfl (q04 (gg rfl (q08 rfl rfl rfl trivial ?_)))))
     rw[bad (by rw[bx,by'];rfl)];rfl
    |true=>
     refine gg rfl (q0j rfl (gg rfl (q04 (hN (k+1) ⟨hlt,fun j hj hjk=>?_⟩ (by omega) (q03 rfl ⟨rfl,trivial⟩ (by simp[q0k,q00,Piece.enc,edges,qgD,ints,w1]))))))
     by_cases e:j=k
     ·subst e;rw[←q0D hj,bx,by'];rfl
     exact hin j hj (by omega)
  rw[q07]at e1
  obtain rfl:k=p.corners.length:=by omega
  clear hN
  have hany:¬(p.corners.any fun s=>!(inB s.x 1000&&inB s.y 1000))=true:=by
   rw[q1Z fun k hk=>by rw[hin k hk hk];rfl];decide
  have hnear:∀s∈p.corners,qi4 s 1000:=by
   intro s hs
   obtain⟨j,hj,rfl⟩:=List.getElem_of_mem hs
   have:=hin j hj hj
   rw[Bool.and_eq_true,qeI,qeI]at this
   exact⟨by omega,by omega⟩
  refine gg rfl (q04 (gg rfl (q02 rfl rfl (q7u p.edges) (gg rfl (q01 rfl (fun g2=>?_) (fun g2=>?_))))))
  ·rw[q0u]at g2
   refine gg rfl (q08 rfl rfl rfl trivial ?_)
   rw[q0p,if_neg hm1,if_neg (by omega),if_neg hany,if_pos g2];rfl
  have g2:q0J p.edges=0:=q0z.1 g2
  obtain⟨c1,c2,c3,c4,c5⟩:=q11 g2
  have hr:q0p p m=if q0J (q3E p m)≠0 then([],q0J (q3E p m))else(q3E p m,0):=by
   rw[q0p,if_neg hm1,if_neg (by omega),if_neg hany,if_neg (by omega)]
  rw[hr]
  have hm2:m.natAbs≤100:=by omega
  refine gg rfl (q0l (S:=fun k:Nat=>([.int .i64 m,.ptr 1 0 0,q00 p.edges.length,.ref 3 0 k,q00 k],[none,some (.row [p.enc] 7),none,some (.row (((List.range k).map (q79 p m)).map Edge.enc) 2),none],[0,0,0,0,0])) (C:=fun k=>k≤p.edges.length) (m:=fun k=>p.edges.length-k) 0 (Nat.zero_le _) (by omega) ?_ ?_)
  ·exact q03 rfl ⟨rfl,rfl,trivial⟩ rfl
  intro k hk N hN
  refine gg rfl (q01 rfl (fun e2=>?_) (fun e2=>?_))
  ·rw[q06]at e2
   have hlt:k<p.edges.length:=by omega
   have w1:=wS (n:=k)
   have hL:=q2P (q1a c3 hlt)
   obtain⟨n2,n40,hw⟩:=q2k hL
   have na:=q8q hnear hm2 (by omega) k
   have nb:=q8q hnear hm2 (by omega) (k+1)
   have mv:=qri (eg p.edges k) (q7j p.corners m k) (q7j p.corners m (k+1)) n2 n40 hw na nb
   have hst:(((List.range (k+1)).map (q79 p m)).map Edge.enc)=((List.range k).map (q79 p m)).map Edge.enc++[(q79 p m k).enc]:=by
    rw[List.range_succ,List.map_append,List.map_append];rfl
   have hka:q7j p.corners m k=⟨m*(pt p.corners k).x,m*(pt p.corners k).y⟩:=by unfold q7j;rw[Nat.mod_eq_of_lt (by omega)]
   have hkb:q7j p.corners m (k+1)=⟨m*(pt p.corners ((k+1)%p.edges.length)).x,m*(pt p.corners ((k+1)%p.edges.length)).y⟩:=by unfold q7j;rw[g1']
   have hge:q79 p m k=⟨(eg p.edges k).name,qtB (eg p.edges k).line ⟨m*(pt p.corners k).x,m*(pt p.corners k).y⟩ ⟨m*(pt p.corners ((k+1)%p.edges.length)).x,m*(pt p.corners ((k+1)%p.edges.length)).y⟩⟩:=by unfold q79;rw[hka,hkb]
   rw[hge]at hst
   have hml:(k+1)%p.edges.length<p.corners.length:=by rw[g1'];exact Nat.mod_lt _ (by omega)
   have hrem:(((k+1:Nat):Int)).tmod (p.edges.length:Nat)=(((k+1)%p.edges.length:Nat):Int):=by rw[Int.tmod_eq_emod_of_nonneg (by omega)];omega
   rw[hka,hkb]at mv
   rw[hka]at na
   rw[hkb]at nb
   obtain⟨na1,na2⟩:=na
   obtain⟨nb1,nb2⟩:=nb
   simp only at na1 na2 nb1 nb2
   generalize (k+1)%p.edges.length=k2 at*
   have wa:=ww (x:=m*(pt p.corners k).x)
   have wb:=ww (x:=m*(pt p.corners k).y)
   have wc:=ww (x:=m*(pt p.corners k2).x)
   have wd:=ww (x:=m*(pt p.corners k2).y)
   refine gg rfl (q0i k rfl rfl rfl (q0Q (by omega)) rfl ?_)
   refine gg rfl ?_
   rw[w1]
   refine q37 rfl rfl (by omega) ?_
   rw[hrem]
   refine gg rfl (q0i k2 rfl rfl rfl (q0Q hml) rfl (gg rfl (q0i k rfl rfl rfl (q1K hlt) rfl (gg rfl ?_))))
   rw[wa,wb,wc,wd]
   refine q02 rfl rfl mv (gg rfl (q1b rfl rfl rfl rfl rfl rfl (by simp) (Nat.zero_le _) (by simp[q0M];omega) ?_))
   refine gg rfl (q04 (hN (k+1) hlt (by omega) (q03 rfl ⟨rfl,?_,trivial⟩ ?_)))
   ·rw[List.all_append,q05 q39];rfl
   rw[hst];simp[q0k,edges,q00,w1];rfl
  rw[q07]at e2
  obtain rfl:k=p.edges.length:=by omega
  have hgl:(q3E p m).length=p.edges.length:=by simp[q3E]
  refine gg rfl (q04 (gg rfl (q6N rfl rfl ⟨q2s (by simp) (q0W q5O _),trivial⟩ (by rw[q2t (by simp)];exact q7u (q3E p m)) rfl ?_)))
  refine gg rfl (q01 rfl (fun g3=>?_) (fun g3=>?_))
  ·rw[q0u]at g3
   refine gg rfl (q08 rfl rfl rfl trivial ?_)
   rw[if_pos g3];rfl
  rw[q0z]at g3
  refine gg rfl (q08 rfl rfl rfl ⟨q2s (by simp) (q0W q5O _),trivial⟩ ?_)
  rw[q2t (by simp),if_neg (by simp[g3])];rfl
end Go.F

namespace Go.F
attribute [local irreducible] IntKind.wrap wpM
theorem quy (p:List Spot)(h:q1v p=0):PU qwF [q0k p]=some (.int .i64 (q36 p (p.length-1))):=by
 obtain⟨n2,n40,_⟩:=q2k h
 have hin:∀i,i<p.length→q0v (pt p i) 1048576=true:=fun i hi=>qbw h hi
 refine q0g (fn:=qlx) rfl (q0a ?_)
 refine gg rfl (q0l (S:=fun k:Nat=>([q0k p,q00 (q36 p k),q00 (k+1:Nat)],[none,none,none],[0,0,0])) (C:=fun k=>k≤p.length-1) (m:=fun k=>p.length-k) 0 (Nat.zero_le _) (by omega) ?_ ?_)
 ·exact q03 rfl trivial (by simp[q0k,q00,q36])
 intro k hk N hN
 refine gg rfl ?_
 rw[List.length_map]
 refine q01 rfl (fun g1=>?_) (fun g1=>?_)
 ·rw[q06]at g1
  have hlt:k+1<p.length:=by omega
  have w0:IntKind.i64.wrap (((k+1:Nat):Int)-1)=(k:Int):=by rw[wrap64 (by omega) (by omega)];omega
  have w1:=ww (x:=(k:Int)+1+1)
  have hin1:=hin k (by omega)
  have hin2:=hin (k+1) hlt
  have hsl':=qux hin1 hin2
  have hle:=qpH hin k (by omega)
  have w2:IntKind.i64.wrap ((q36 p k:Int)+(qeZ (pt p k) (pt p (k+1)):Int))=(q36 p (k+1):Int):=by rw[wrap64 (by omega) (by omega)];rfl
  refine gg rfl (q0i k rfl rfl w0 (q0Q (by omega)) rfl ?_)
  refine gg rfl (q0i (k+1) rfl rfl rfl (q0Q hlt) rfl (gg rfl (q02 rfl rfl (qpI (pt p k) (pt p (k+1)) hin1 hin2) (gg rfl ?_))))
  rw[w2]
  exact q04 (hN (k+1) (by omega) (by omega) (q03 rfl trivial (by simp[q0k,q00,w1])))
 rw[q07]at g1
 obtain rfl:k=p.length-1:=by omega
 exact gg rfl (q04 (gg rfl (q08 rfl rfl rfl trivial rfl)))
end Go.F

namespace Go.F
attribute [local irreducible] IntKind.wrap wpM
theorem q9H (p:List Spot):PU qtS [q0k p]=some (.tup [.int .i64 (q17 p).1,.int .i64 (q17 p).2]):=by
 refine q0g (fn:=qhB) rfl (q0a ?_)
 refine gg rfl (q02 rfl rfl (qiz p) (gg rfl (q01 rfl (fun h=>?_) (fun h=>?_))))
 ·rw[q0u]at h
  refine gg rfl (q08 rfl rfl rfl trivial ?_)
  rw[q17,if_neg h]
 rw[q0z]at h
 refine gg rfl (q02 rfl rfl (quy p h) (gg rfl (q08 rfl rfl rfl trivial ?_)))
 rw[q17,if_pos h]
theorem qzM {A rest c bit:Nat}(hc:0<c):2*(A*rest/c)+(2*(A*rest%c)+bit*rest)/c=(2*A+bit) *rest/c∧(2*(A*rest%c)+bit*rest)%c=(2*A+bit) *rest%c:=by
 have h1:=Nat.div_add_mod (A*rest) c
 have e:(2*A+bit) *rest=(2*(A*rest%c)+bit*rest)+c*(2*(A*rest/c)):=by
  have:(2*A+bit) *rest=2*(A*rest)+bit*rest:=by rw[Nat.add_mul,Nat.mul_assoc]
  rw[this]
  generalize A*rest=X at*
  generalize X/c=q at*
  generalize X%c=r at*
  rw[←h1,Nat.mul_add]
  rw[←Nat.mul_assoc c 2 q,Nat.mul_comm c 2,Nat.mul_assoc]
  omega
 rw[e,Nat.add_mul_div_left _ _ hc,Nat.add_mul_mod_self_left]
 exact⟨Nat.add_comm _ _,rfl⟩
theorem qDa (a k:Nat)(hk:k≤40):a/2^(40-k)=2*(a/2^(41-k))+a/2^(40-k)%2:=by
 have e:41-k=40-k+1:=by omega
 rw[e,Nat.pow_succ,←Nat.div_div_eq_div_mul]
 omega
set_option maxHeartbeats 4000000 in
theorem quA (a b c:Nat)(hc:0<c)(hc2:c≤1099511627776)(hb:b≤1099511627776)(ha:a≤c):
 PU qwG [.int .i64 a,.int .i64 b,.int .i64 c]=some (.int .i64 (q1u ((a:Int) *b) c)):=by
 have hr:=qmV (a:=a*b) hc
 rw[Int.natCast_mul]at hr
 rw[hr]
 have e1:((b:Int)).tdiv (c:Int)=((b/c:Nat):Int):=by rw[Int.tdiv_eq_ediv_of_nonneg (by omega)];rfl
 have e2:((b:Int)).tmod (c:Int)=((b%c:Nat):Int):=by rw[Int.tmod_eq_emod_of_nonneg (by omega)];rfl
 have hdm:=Nat.div_add_mod b c
 have hrest:=Nat.mod_lt b hc
 have hW:a*(b/c)≤b:=Nat.le_trans (Nat.mul_le_mul_right _ ha) (by rw[Nat.mul_comm];exact Nat.div_mul_le_self b c)
 have hW2:b/c≤b:=Nat.div_le_self _ _
 have hab:a*b=a*(b%c)+c*(a*(b/c)):=by
  conv=>lhs;rw[←hdm]
  rw[Nat.mul_add,←Nat.mul_assoc,Nat.mul_comm a c,Nat.mul_assoc,Nat.add_comm]
 have hq:a*b/c=a*(b/c)+a*(b%c)/c:=by rw[hab,Nat.add_mul_div_left _ _ hc,Nat.add_comm]
 have hm:a*b%c=a*(b%c)%c:=by rw[hab,Nat.add_mul_mod_self_left]
 rw[hq,hm]
 generalize b/c=wh at*
 generalize b%c=rest at*
 clear hr hab hq hm hdm
 have w0:=ww (x:=(wh:Int))
 have w1:IntKind.i64.wrap ((a:Int) *(wh:Int))=((a*wh:Nat):Int):=by
  rw[←Int.natCast_mul]
  generalize a*wh=x at*
  exact wrap64 (by omega) (by omega)
 have hpow:a/2^41=0:=Nat.div_eq_of_lt (by omega)
 refine q0g (fn:=qkt) rfl (q0a ?_)
 refine gg rfl (qem rfl rfl (by omega) ?_)
 rw[e1,w0]
 refine gg rfl (q37 rfl rfl (by omega) ?_)
 rw[e2]
 refine gg rfl ?_
 rw[w1]
 refine q0l (S:=fun k:Nat=>([.int .i64 a,.int .i64 c,.int .i64 rest,.int .i64 ((a*wh:Nat):Int),.int .i64 ((a/2^(41-k) *rest/c:Nat):Int),.int .i64 ((a/2^(41-k) *rest%c:Nat):Int),.int .i64 (40-(k:Int))],[none,none,none,none,none,none,none],[0,0,0,0,0,0,0])) (C:=fun k=>k≤41) (m:=fun k=>41-k) 0 (Nat.zero_le _) (by omega) ?_ ?_
 ·refine q03 rfl trivial ?_
  show _=([D.int .i64 a,.int .i64 c,.int .i64 rest,.int .i64 ((a*wh:Nat):Int),.int .i64 ((a/2^41*rest/c:Nat):Int),.int .i64 ((a/2^41*rest%c:Nat):Int),.int .i64 (40-((0:Nat):Int))],_,_)
  rw[hpow]
  simp
 intro k hk N hN
 refine gg rfl (q01 rfl (fun g=>?_) (fun g=>?_))
 ·rw[q0E]at g
  have hk40:k≤40:=by omega
  have hh:=qDa a k hk40
  have hB:a/2^(40-k)≤a:=Nat.div_le_self _ _
  have hbit:a/2^(40-k)%2<2:=Nat.mod_lt _ (by decide)
  have hs:=qzM (A:=a/2^(41-k)) (rest:=rest) (c:=c) (bit:=a/2^(40-k)%2) hc
  rw[←hh]at hs
  have hl:=Nat.mod_lt (a/2^(41-k) *rest) hc
  have hq:a/2^(40-k) *rest/c≤a:=Nat.le_trans (Nat.div_le_of_le_mul (by rw[Nat.mul_comm];exact Nat.mul_le_mul_right _ (by omega))) hB
  have sh:IntKind.u64.wrap (40-(k:Int))=((40-k:Nat):Int):=by
   rw[show(40-(k:Int))=((40-k:Nat):Int)by omega];exact q0C (by omega)
  have ek:(40-((k+1:Nat):Int))=40-(k:Int)-1:=by omega
  have wk:=ww (x:=40-(k:Int)-1)
  have e41:41-(k+1)=40-k:=by omega
  generalize hX:a/2^(40-k) *rest/c=q' at*
  generalize hY:a/2^(40-k) *rest%c=l' at*
  generalize a/2^(41-k) *rest/c=q at*
  generalize a/2^(41-k) *rest%c=l at*
  obtain⟨hs1,hs2⟩:=hs
  have h2q:2*q≤q':=by rw[←hs1];exact Nat.le_add_right _ _
  have w2:=ww (x:=2*(q:Int))
  have w3:=ww (x:=2*(l:Int))
  refine gg rfl ?_
  rw[w2,w3,sh]
  refine q19 a (40-k) rfl rfl rfl rfl (by show 40-k≤64;omega) ?_
  generalize hBB:a/2^(40-k)=B at*
  have e3:((B:Nat):Int).tmod 2=((B%2:Nat):Int):=by rw[Int.tmod_eq_emod_of_nonneg (by omega)];rfl
  have fin:∀L:Nat,L=2*l+B%2*rest→((L:Int)).tdiv (c:Int)=((L/c:Nat):Int)∧((L:Int)).tmod (c:Int)=((l':Nat):Int)∧L/c≤L∧2*q+L/c=q':=by
   rintro L rfl
   refine⟨by rw[Int.tdiv_eq_ediv_of_nonneg (by omega)];rfl,?_,Nat.div_le_self _ _,hs1⟩
   rw[Int.tmod_eq_emod_of_nonneg (by omega),←hs2];rfl
  refine gg rfl (q37 rfl rfl (by decide) ?_)
  rw[e3]
  refine gg rfl (q01 rfl (fun f=>?_) (fun f=>?_))
  ·rw[q1n]at f
   have f:B%2=1:=by omega
   have hf:=fin (2*l+rest) (by rw[f];omega)
   have w4:IntKind.i64.wrap (2*(l:Int)+(rest:Int))=((2*l+rest:Nat):Int):=by rw[wrap64 (by omega) (by omega)];omega
   obtain⟨f1,f2,f3,f4⟩:=hf
   refine gg rfl ?_
   rw[w4]
   refine qem rfl rfl (by omega) ?_
   rw[f1]
   generalize (2*l+rest)/c=v at*
   have w5:=ww (x:=(v:Int))
   rw[w5]
   have w6:IntKind.i64.wrap (2*(q:Int)+(v:Int))=(q':Int):=by rw[wrap64 (by omega) (by omega)];omega
   refine gg rfl ?_
   rw[w6]
   refine q37 rfl rfl (by omega) ?_
   rw[f2]
   refine gg rfl (q04 (hN (k+1) (by omega) (by omega) (q03 rfl trivial ?_)))
   rw[e41,hBB,hX,hY,ek,wk]
  rw[q1Q]at f
  have f:B%2=0:=by omega
  have hf:=fin (2*l) (by rw[f];omega)
  obtain⟨f1,f2,f3,f4⟩:=hf
  have el:(2*(l:Int))=((2*l:Nat):Int):=by omega
  refine gg rfl ?_
  rw[el]
  refine qem rfl rfl (by omega) ?_
  rw[f1]
  generalize (2*l)/c=v at*
  have w5:=ww (x:=(v:Int))
  rw[w5]
  have w6:IntKind.i64.wrap (2*(q:Int)+(v:Int))=(q':Int):=by rw[wrap64 (by omega) (by omega)];omega
  refine gg rfl ?_
  rw[w6]
  refine q37 rfl rfl (by omega) ?_
  rw[f2]
  refine gg rfl (q04 (hN (k+1) (by omega) (by omega) (q03 rfl trivial ?_)))
  rw[e41,hBB,hX,hY,ek,wk]
 rw[q0F]at g
 obtain rfl:k=41:=by omega
 clear hN
 have e0:a/2^(41-41)=a:=by simp
 rw[e0]
 have hl:=Nat.mod_lt (a*rest) hc
 have hq:a*rest/c≤a:=Nat.div_le_of_le_mul (by rw[Nat.mul_comm];exact Nat.mul_le_mul_right _ (by omega))
 generalize a*rest/c=q at*
 generalize a*rest%c=l at*
 have w2:=ww (x:=2*(l:Int))
 refine gg rfl (q04 (gg rfl ?_))
 rw[w2]
 refine q01 rfl (fun f=>?_) (fun f=>?_)
 ·rw[q0E]at f
  rw[if_pos (by omega)]
  have w3:=ww (x:=(q:Int)+1)
  have w4:IntKind.i64.wrap (((a*wh:Nat):Int)+((q:Int)+1))=((a*wh+q+1:Nat):Int):=by rw[wrap64 (by omega) (by omega)];omega
  refine gg rfl ?_
  rw[w3,w4]
  exact q08 rfl rfl rfl trivial rfl
 rw[q0F]at f
 rw[if_neg (by omega)]
 have w4:IntKind.i64.wrap (((a*wh:Nat):Int)+(q:Int))=((a*wh+q+0:Nat):Int):=by rw[wrap64 (by omega) (by omega)];omega
 refine gg rfl ?_
 rw[w4]
 exact q08 rfl rfl rfl trivial rfl
theorem qpK (fr to:Int)(rev:Bool)(at_:Int):PU qqP [.int .i64 fr,.int .i64 to,.bool rev,.int .i64 at_]=some (.tup [.int .i64 (q3v fr to rev at_).1,.int .i64 (q3v fr to rev at_).2]):=by
 by_cases hb:q4y fr to at_
 ·rw[q3v,if_pos hb]
  unfold q4y at hb
  refine q0g (fn:=q9z) rfl (q0a ?_)
  repeat' (first
   |refine goP 800 rfl rfl ?_
   |refine q0h rfl ?_|refine q0n rfl ?_|refine q09 rfl (fun _=>?_) (fun _=>?_)
   |refine q0d rfl ?_|refine q0j rfl ?_|refine q01 rfl (fun _=>?_) (fun _=>?_)
   |refine q0N rfl (fun _=>?_) (fun _=>?_)
   |refine q08 rfl rfl rfl trivial ?_)
  all_goals first
   |rfl
   |(exfalso;simp only[q06,q07]at*;omega)
 rw[q3v,if_neg hb]
 unfold q4y at hb
 obtain⟨F,rfl⟩:∃n:Nat,fr=n:=⟨fr.toNat,by omega⟩
 obtain⟨T,rfl⟩:∃n:Nat,to=n:=⟨to.toNat,by omega⟩
 obtain⟨A,rfl⟩:∃n:Nat,at_=n:=⟨at_.toNat,by omega⟩
 have hs:=quA A T F (by omega) (by omega) (by omega) (by omega)
 have hr:=qmV (a:=A*T) (b:=F) (by omega)
 rw[Int.natCast_mul]at hr
 have hquo:A*T/F≤T:=Nat.div_le_of_le_mul (Nat.mul_le_mul_right _ (by omega))
 have hR:0≤q1u ((A:Int) *T) F∧q1u ((A:Int) *T) F≤T+1:=by
  rw[hr]
  generalize A*T/F=x at*
  split<;>omega
 generalize q1u ((A:Int) *T) F=R at*
 have w7:=ww (x:=(T:Int)-R)
 have no:∀{x y:Int} {P:Prop},¬x<y→ltb x y=true→P:=fun h g=>absurd (q06.1 g) h
 refine q0g (fn:=q9z) rfl (q0a ?_)
 refine gg rfl (q09 rfl (no (by omega)) (fun _=>?_))
 refine gg rfl (q09 rfl (no (by omega)) (fun _=>?_))
 refine gg rfl (q09 rfl (no (by omega)) (fun _=>?_))
 refine gg rfl (q09 rfl (no (by omega)) (fun _=>?_))
 refine gg rfl (q09 rfl (no (by omega)) (fun _=>?_))
 refine gg rfl (q01 rfl (no (by omega)) (fun _=>?_))
 refine gg rfl (q02 rfl rfl hs (gg rfl ?_))
 cases rev with
 |true=>
  refine q0d rfl (gg rfl ?_)
  rw[w7]
  exact q08 rfl rfl rfl trivial rfl
 |false=>
  exact q0j rfl (gg rfl (q08 rfl rfl rfl trivial rfl))
theorem qxs {l:List Edge}(h:q0J l=0){k:Nat}(hk:k<l.length):q1v (eg l k).line=0:=q2P (q1a (q11 h).2.2.1 hk)
set_option maxHeartbeats 4000000 in
theorem q9I (p:Piece)(m:Int)(hc:p.corners.length≤1000000):
 PU qtM [p.enc,.int .i64 m]=some (.tup [ints (q0S p m).1,.int .i64 (q0S p m).2]):=by
 refine q0g (fn:=qgP) rfl (q0a ?_)
 refine gg rfl (q02 rfl rfl (q3e p m hc) (gg rfl (q01 rfl (fun h=>?_) (fun h=>?_))))
 ·rw[q0u]at h
  refine gg rfl (q08 rfl rfl rfl trivial ?_)
  rw[q0S,if_pos h];rfl
 have h:(q0p p m).2=0:=q0z.1 h
 obtain⟨hg,hck1,hck2,_⟩:=q2b h
 have hr:q0S p m=if 16<p.notches.length then([],5)
  else if q2A p (q0p p m).1 p.notches≠0 then([],q2A p (q0p p m).1 p.notches)
  else(p.notches.map fun n=>(q1w p (q0p p m).1 n).1,0):=by rw[q0S,if_neg (by omega)]
 rw[hr]
 generalize (q0p p m).1=G at*
 refine gg rfl ?_
 rw[List.length_map]
 refine q01 rfl (fun h2=>?_) (fun h2=>?_)
 ·rw[q06]at h2
  refine gg rfl (q08 rfl rfl rfl trivial ?_)
  rw[if_pos (by omega)];rfl
 rw[q07]at h2
 rw[if_neg (by omega)]
 refine gg rfl (q0l (S:=fun k:Nat=>([.ptr 0 0 0,edges G,.ref 2 0 k,q00 k],[some (.row [p.enc] 7),none,some (.row (((p.notches.take k).map fun n=>(q1w p G n).1).map q00) 1),none],[0,0,0,0])) (C:=fun k=>k≤p.notches.length∧q2A p G p.notches=q2A p G (p.notches.drop k)) (m:=fun k=>p.notches.length-k) 0 ⟨Nat.zero_le _,rfl⟩ (by omega) ?_ ?_)
 ·exact q03 rfl ⟨rfl,rfl,trivial⟩ rfl
 rintro k ⟨hk,hke⟩ N hN
 refine gg rfl ?_
 rw[List.length_map]
 refine q01 rfl (fun e1=>?_) (fun e1=>?_)
 ·rw[q06]at e1
  have hlt:k<p.notches.length:=by omega
  have w1:=wS (n:=k)
  have hdr:p.notches.drop k=nt p.notches k::p.notches.drop (k+1):=by rw[List.drop_eq_getElem_cons hlt,qv5 hlt]
  have hst:(((p.notches.take (k+1)).map fun n=>(q1w p G n).1).map q00)=((p.notches.take k).map fun n=>(q1w p G n).1).map q00++[q00 (q1w p G (nt p.notches k)).1]:=by
   rw[List.take_succ_eq_append_getElem hlt,List.map_append,List.map_append,qv5 hlt];rfl
  have hne:=qv6 hlt
  rw[hdr,q2A]at hke
  generalize nt p.notches k=n at*
  have bad:(q1w p G n).2≠0→q2A p G p.notches=(q1w p G n).2:=fun h=>by rw[hke,if_neg h]
  refine gg rfl (q0i k rfl rfl rfl hne rfl (gg rfl (q09 rfl (fun f1=>?_) (fun f1=>?_))))
  ·rw[q06]at f1
   have hn:q1w p G n=(0,3):=by rw[q1w,if_pos (.inl f1)]
   rw[hn]at bad
   refine gg rfl (q0d rfl (gg rfl (q04 (gg rfl (q08 rfl rfl rfl trivial ?_)))))
   rw[bad (by decide)];rfl
  rw[q07]at f1
  refine gg rfl ?_
  rw[List.length_map]
  refine q01 rfl (fun f2=>?_) (fun f2=>?_)
  ·rw[q0E]at f2
   have hn:q1w p G n=(0,3):=by rw[q1w,if_pos (.inr f2)]
   rw[hn]at bad
   refine gg rfl (q04 (gg rfl (q08 rfl rfl rfl trivial ?_)))
   rw[bad (by decide)];rfl
  rw[q0F]at f2
  have ei:n.edge=((n.edge.toNat:Nat):Int):=by omega
  have hl1:n.edge.toNat<p.edges.length:=by omega
  have hl2:n.edge.toNat<G.length:=by omega
  have l1:=q9H (eg p.edges n.edge.toNat).line
  have l2:=q9H (eg G n.edge.toNat).line
  have hn0:q1w p G n=if(q17 (eg p.edges n.edge.toNat).line).2≠0 then(0,(q17 (eg p.edges n.edge.toNat).line).2)
   else if(q17 (eg G n.edge.toNat).line).2≠0 then(0,(q17 (eg G n.edge.toNat).line).2)
   else q3v (q17 (eg p.edges n.edge.toNat).line).1 (q17 (eg G n.edge.toNat).line).1 false n.at_:=by rw[q1w,if_neg (by omega)]
  have f3:(q17 (eg p.edges n.edge.toNat).line).2=0:=by rw[q17,if_pos (qxs hck1 hl1)]
  have f4:(q17 (eg G n.edge.toNat).line).2=0:=by rw[q17,if_pos (qxs hck2 hl2)]
  rw[if_neg (by simp[f3]),if_neg (by simp[f4])]at hn0
  refine gg rfl (q0i n.edge.toNat rfl rfl ei (q1K hl1) rfl (gg rfl (q02 rfl rfl l1 (gg rfl (q0i n.edge.toNat rfl rfl ei (q1K hl2) rfl (gg rfl (q02 rfl rfl l2 (gg rfl (q02 rfl rfl (qpK (q17 (eg p.edges n.edge.toNat).line).1 (q17 (eg G n.edge.toNat).line).1 false n.at_) ?_)))))))))
  rw[←hn0]
  refine gg rfl (q01 rfl (fun f5=>?_) (fun f5=>?_))
  ·rw[q0u]at f5
   refine gg rfl (q04 (gg rfl (q08 rfl rfl rfl trivial ?_)))
   rw[bad f5,if_pos f5];rfl
  rw[q0z]at f5
  rw[if_pos f5]at hke
  refine gg rfl (q1b rfl rfl rfl rfl rfl rfl (by simp;omega) (Nat.zero_le _) (by simp[q0M];omega) ?_)
  refine gg rfl (q04 (hN (k+1) ⟨hlt,hke⟩ (by omega) (q03 rfl ⟨rfl,?_,trivial⟩ ?_)))
  ·rw[List.all_append,q05 q5y];rfl
  rw[hst,w1];rfl
 rw[q07]at e1
 obtain rfl:k=p.notches.length:=by omega
 have hz:q2A p G p.notches=0:=by rw[hke,List.drop_length];rfl
 rw[hz,List.take_length]
 refine gg rfl (q04 (gg rfl (q08 rfl rfl rfl ⟨q2s (by simp) (q0W qeE _),trivial⟩ ?_)))
 rw[q2t (by simp)];rfl
end Go.F

namespace Go.F
attribute [local irreducible] IntKind.wrap wpM
set_option maxHeartbeats 2000000 in
theorem qxt (s:ByteArray):PU qz3 [.str s]=some (.bool (sizeS s)):=by
 refine q0g (fn:=qnn) rfl (q0a ?_)
 refine gg rfl (q09 rfl (fun h0=>?_) (fun h0=>?_))
 ·repeat' (first
   |refine goP 800 rfl rfl ?_
   |refine q0h rfl ?_|refine q0n rfl ?_|refine q09 rfl (fun _=>?_) (fun _=>?_)
   |refine q0d rfl ?_|refine q0j rfl ?_|refine q01 rfl (fun _=>?_) (fun _=>?_)
   |refine q0N rfl (fun _=>?_) (fun _=>?_)
   |refine q08 rfl rfl rfl trivial ?_)
  rw[qbe,qi2,decide_eq_true_eq]at h0
  simp[sizeS,h0]
 refine gg rfl ?_
 rw[qbe,qi2,decide_eq_false_iff_not]at h0
 refine q01 rfl (fun h1=>?_) (fun h1=>?_)
 ·refine gg rfl (q08 rfl rfl rfl trivial ?_)
  rw[q06]at h1
  have:¬s.size≤8:=by omega
  simp[sizeS,this]
 rw[q07]at h1
 refine gg rfl (q0l (S:=fun k:Nat=>([.str s,q00 k],[none,none],[0,0])) (C:=fun k=>k≤s.size∧∀i,i<k→q2S (q2u s i).toNat=true) (m:=fun k=>s.size-k) 0 ⟨by omega,fun i hi=>by omega⟩ (by omega) ?_ ?_)
 ·exact q03 rfl trivial (by simp[q00])
 intro k ⟨hk,hall⟩ N hN
 refine gg rfl (q01 rfl (fun g1=>?_) (fun g1=>?_))
 ·rw[q06]at g1
  have hlt:k<s.size:=by omega
  have w1:=wS (n:=k)
  have hb:=q6j hlt
  have hno:=qy1 hlt
  have hyes:q2S (q2u s k).toNat=true→∀i,i<k+1→q2S (q2u s i).toNat=true:=by
   intro h i hi
   by_cases e:i=k
   ·subst e;exact h
   exact hall i (by omega)
  generalize q2u s k=c at*
  refine gg rfl (q2f k rfl rfl rfl hb (gg rfl (q09 rfl (fun a1=>?_) (fun a1=>?_))))
  ·refine gg rfl (q2f k rfl rfl rfl hb (gg rfl (q09 rfl (fun a2=>?_) (fun a2=>?_))))
   ·have hc:q2S c.toNat=true:=by rw[q1y];simp_all
    exact gg rfl (q0j rfl (gg rfl (q04 (hN (k+1) ⟨hlt,hyes hc⟩ (by omega) (q03 rfl trivial (by simp[q00,w1]))))))
   refine gg rfl (q2f k rfl rfl rfl hb (gg rfl (q09 rfl (fun d1=>?_) (fun d1=>?_))))
   ·refine gg rfl (q2f k rfl rfl rfl hb (gg rfl (q01 rfl (fun d2=>?_) (fun d2=>?_))))
    ·have hc:q2S c.toNat=false:=by rw[q1y];simp_all
     refine gg rfl (q04 (gg rfl (q08 rfl rfl rfl trivial ?_)))
     rw[hno hc]
    have hc:q2S c.toNat=true:=by rw[q1y];simp_all
    exact gg rfl (q04 (hN (k+1) ⟨hlt,hyes hc⟩ (by omega) (q03 rfl trivial (by simp[q00,w1]))))
   have hc:q2S c.toNat=false:=by rw[q1y];simp_all
   refine gg rfl (q0d rfl (gg rfl (q04 (gg rfl (q08 rfl rfl rfl trivial ?_)))))
   rw[hno hc]
  refine gg rfl (q0n rfl (gg rfl (q2f k rfl rfl rfl hb (gg rfl (q09 rfl (fun d1=>?_) (fun d1=>?_))))))
  ·refine gg rfl (q2f k rfl rfl rfl hb (gg rfl (q01 rfl (fun d2=>?_) (fun d2=>?_))))
   ·have hc:q2S c.toNat=false:=by rw[q1y];simp_all
    refine gg rfl (q04 (gg rfl (q08 rfl rfl rfl trivial ?_)))
    rw[hno hc]
   have hc:q2S c.toNat=true:=by rw[q1y];simp_all
   exact gg rfl (q04 (hN (k+1) ⟨hlt,hyes hc⟩ (by omega) (q03 rfl trivial (by simp[q00,w1]))))
  have hc:q2S c.toNat=false:=by rw[q1y];simp_all
  refine gg rfl (q0d rfl (gg rfl (q04 (gg rfl (q08 rfl rfl rfl trivial ?_)))))
  rw[hno hc]
 rw[q07]at g1
 obtain rfl:k=s.size:=by omega
 refine gg rfl (q04 (gg rfl (q08 rfl rfl rfl trivial ?_)))
 rw[sizeS,decide_eq_true hall,decide_eq_true (show 1≤s.size by omega),decide_eq_true (show s.size≤8 by omega)];rfl
def sizedB (s:Sty):Bool:=decide (q1M s.name=true∧s.sizes.length≠0∧s.sizes.any (fun x=>!sizeS x)=false∧0∈s.mults∧s.mults.length=s.sizes.length)
set_option maxHeartbeats 4000000 in
theorem quB (s:Sty)(hB:StyB s):PU qwh [s.enc]=some (.bool (sizedB s)):=by
 have b1:=hB.sizes
 have b2:=hB.mults
 refine q0g (fn:=qkZ) rfl (q0a ?_)
 refine gg rfl (q02 rfl rfl (qdQ s.name) ?_)
 cases hn:q1M s.name with
 |false=>
  refine gg rfl (q0h rfl (gg rfl (q0d rfl (gg rfl (q08 rfl rfl rfl trivial ?_)))))
  simp[sizedB,hn]
 |true=>
  refine gg rfl (q0n rfl (gg rfl ?_))
  rw[List.length_map]
  refine q01 rfl (fun g=>?_) (fun g=>?_)
  ·rw[q1n]at g
   refine gg rfl (q08 rfl rfl rfl trivial ?_)
   have:s.sizes.length=0:=by omega
   rw[sizedB,decide_eq_false (fun h=>h.2.1 this)]
  rw[q1Q]at g
  refine gg rfl (q0l (S:=fun k:Nat=>([.ptr 0 0 0,q00 k],[some (.row [s.enc] 7),none],[0,0])) (C:=fun k=>k≤s.sizes.length∧∀j (hj:j<s.sizes.length),j<k→sizeS s.sizes[j]=true) (m:=fun k=>s.sizes.length-k) 0 ⟨Nat.zero_le _,fun j _ h=>by omega⟩ (by omega) ?_ ?_)
  ·exact q03 rfl ⟨rfl,trivial⟩ rfl
  rintro k ⟨hk,hall⟩ N hN
  refine gg rfl ?_
  rw[List.length_map]
  refine q01 rfl (fun e=>?_) (fun e=>?_)
  ·rw[q06]at e
   have hlt:k<s.sizes.length:=by omega
   have w1:=wS (n:=k)
   have hz:=qxt s.sizes[k]
   refine gg rfl (q0i k rfl rfl rfl (q1A hlt) rfl (gg rfl (q02 rfl rfl hz ?_)))
   cases hv:sizeS s.sizes[k]with
   |false=>
    refine gg rfl (q0d rfl (gg rfl (q04 (gg rfl (q08 rfl rfl rfl trivial ?_)))))
    have ha:s.sizes.any (fun x=>!sizeS x)=true:=q29 hlt (by rw[hv];rfl)
    rw[sizedB,decide_eq_false (fun h=>by rw[ha]at h;cases h.2.2.1)]
   |true=>
    refine gg rfl (q0j rfl (gg rfl (q04 (hN (k+1) ⟨hlt,fun j hj hjk=>?_⟩ (by omega) (q03 rfl ⟨rfl,trivial⟩ (by rw[w1];rfl))))))
    by_cases ej:j=k
    ·subst ej;exact hv
    exact hall j hj (by omega)
  rw[q07]at e
  obtain rfl:k=s.sizes.length:=by omega
  clear hN
  have hc2:s.sizes.any (fun x=>!sizeS x)=false:=q1Z fun j hj=>by rw[hall j hj hj];rfl
  refine gg rfl (q04 (gg rfl (q0l (S:=fun k:Nat=>([.ptr 0 0 0,.bool (decide (0∈s.mults.take k)),q00 k],[some (.row [s.enc] 7),none,none],[0,0,0])) (C:=fun k=>k≤s.mults.length) (m:=fun k=>s.mults.length-k) 0 (Nat.zero_le _) (by omega) ?_ ?_)))
  ·exact q03 rfl ⟨rfl,trivial⟩ (by simp[q00])
  intro k hk N hN
  refine gg rfl ?_
  rw[List.length_map]
  refine q01 rfl (fun e=>?_) (fun e=>?_)
  ·rw[q06]at e
   have hlt:k<s.mults.length:=by omega
   have w1:=wS (n:=k)
   have hst:(0∈s.mults.take (k+1))↔(0∈s.mults.take k∨mu s.mults k=0):=by
    rw[List.take_succ_eq_append_getElem hlt,List.mem_append,List.mem_singleton,qjO hlt]
    exact⟨fun h=>h.imp id Eq.symm,fun h=>h.imp id Eq.symm⟩
   cases hb:decide (0∈s.mults.take k)with
   |true=>
    have hb:=of_decide_eq_true hb
    refine gg rfl (q0h rfl (gg rfl (q04 (hN (k+1) hlt (by omega) (q03 rfl ⟨rfl,trivial⟩ ?_)))))
    rw[w1,decide_eq_true (hst.2 (.inl hb))];rfl
   |false=>
    have hb:=of_decide_eq_false hb
    refine gg rfl (q0n rfl (gg rfl (q0i k rfl rfl rfl (q7f hlt) rfl (gg rfl (q04 (hN (k+1) hlt (by omega) (q03 rfl ⟨rfl,trivial⟩ ?_)))))))
    have e2:decide (0∈s.mults.take (k+1))=eqb (mu s.mults k) 0:=by
     rw[q2e]
     exact decide_eq_decide.2 ⟨fun h=>(hst.1 h).resolve_left hb,fun h=>hst.2 (.inr h)⟩
    rw[w1,e2];rfl
  rw[q07]at e
  obtain rfl:k=s.mults.length:=by omega
  clear hN
  rw[List.take_length]
  refine gg rfl (q04 (gg rfl ?_))
  cases hz:decide (0∈s.mults)with
  |false=>
   have hz:=of_decide_eq_false hz
   refine q0n rfl (gg rfl (q08 rfl rfl rfl trivial ?_))
   rw[sizedB,decide_eq_false (fun h=>hz h.2.2.2.1)]
  |true=>
   have hz:=of_decide_eq_true hz
   refine q0h rfl (gg rfl (q08 rfl rfl rfl trivial ?_))
   rw[List.length_map,List.length_map,q2e,sizedB]
   congr 1
   refine decide_eq_decide.2 ⟨fun h=>⟨hn,by omega,hc2,hz,by omega⟩,fun h=>?_⟩
   have:=h.2.2.2.2
   omega
set_option maxHeartbeats 4000000 in
theorem quC (l:List ByteArray)(hl:l.length≤1000):PU qwi [strs l]=some (.bool (q4P l)):=by
 refine q0g (fn:=ql1) rfl (q0a ?_)
 refine gg rfl (q0l (S:=fun k:Nat=>([strs l,q00 k],[none,none],[0,0])) (C:=fun k=>k≤l.length∧∀i,i<k→((l.take i).any fun x=>x.toList==(sz l i).toList)=false) (m:=fun k=>l.length-k) 0 ⟨Nat.zero_le _,fun j h=>by omega⟩ (by omega) ?_ ?_)
 ·exact q03 rfl trivial rfl
 rintro k ⟨hk,htw⟩ N hN
 refine gg rfl ?_
 rw[List.length_map]
 refine q01 rfl (fun e=>?_) (fun e=>?_)
 ·rw[q06]at e
  have hlt:k<l.length:=by omega
  have w1:=wS (n:=k)
  refine gg rfl (q0l (S:=fun j:Nat=>([strs l,q00 k,q00 j],[none,none,none],[0,0,0])) (C:=fun j=>j≤k∧∀i (hi:i<l.length),i<j→(l[i].toList==(sz l k).toList)=false) (m:=fun j=>k-j) 0 ⟨Nat.zero_le _,fun j _ h=>by omega⟩ (by omega) ?_ ?_)
  ·exact q03 rfl trivial rfl
  rintro j ⟨hj,hno⟩ N2 hN2
  refine gg rfl (q01 rfl (fun f=>?_) (fun f=>?_))
  ·rw[q06]at f
   have hjk:j<k:=by omega
   have w2:=wS (n:=j)
   refine gg rfl (q0i k rfl rfl rfl (qAh hlt) rfl (gg rfl (q0i j rfl rfl rfl (qAh (by omega)) rfl ?_)))
   refine gg rfl (q01 rfl (fun g=>?_) (fun g=>?_))
   ·refine gg rfl (q04 (gg rfl (q04 (gg rfl (q08 rfl rfl rfl trivial ?_)))))
    have ht:q4P l=true:=by
     unfold q4P
     rw[List.any_eq_true]
     refine⟨k,List.mem_range.2 hlt,?_⟩
     rw[List.any_eq_true]
     refine⟨sz l j,?_,?_⟩
     ·rw[qAg (by omega)]
      have h1:(l.take k)[j]'(by rw[List.length_take];omega)=l[j]:=by simp
      rw[←h1]
      exact List.getElem_mem _
     have g:((sz l k).toList==(sz l j).toList)=true:=g
     rw[beq_iff_eq]at g⊢
     exact g.symm
    rw[ht]
   refine gg rfl (q04 (hN2 (j+1) ⟨hjk,fun i hi hij=>?_⟩ (by omega) (q03 rfl trivial (by rw[w2];rfl))))
   by_cases ei:i=j
   ·subst ei
    have g:((sz l k).toList==(sz l i).toList)=false:=g
    rw[beq_eq_false_iff_ne]at g⊢
    rw[←qAg hi]
    exact fun h=>g h.symm
   exact hno i hi (by omega)
  rw[q07]at f
  obtain rfl:j=k:=by omega
  clear hN2
  refine gg rfl (q04 (gg rfl (q04 (hN (j+1) ⟨hlt,fun i hi=>?_⟩ (by omega) (q03 rfl trivial (by rw[w1];rfl))))))
  by_cases ei:i=j
  ·subst ei
   refine q1Z fun a ha=>?_
   rw[List.length_take]at ha
   have h1:(l.take i)[a]'(by rw[List.length_take];omega)=l[a]:=by simp
   rw[h1]
   exact hno a (by omega) (by omega)
  exact htw i (by omega)
 rw[q07]at e
 obtain rfl:k=l.length:=by omega
 clear hN
 refine gg rfl (q04 (gg rfl (q08 rfl rfl rfl trivial ?_)))
 have ht:q4P l=false:=by
  unfold q4P
  rw[List.any_eq_false]
  intro i hi h
  rw[htw i (List.mem_range.1 hi)]at h;cases h
 rw[ht]
def qiv (s:Sty):Bool:=decide (12<s.sizes.length∨12<s.pieces.length∨24<s.seams.length∨16<s.ops.length∨12<s.uses.length)
theorem qxu (s:Sty):PU qz0 [s.enc]=some (.bool (qiv s)):=by
 refine q0g (fn:=qnj) rfl (q0a ?_)
 refine gg rfl ?_
 rw[List.length_map]
 refine q09 rfl (fun e1=>?_) (fun e1=>?_)
 ·rw[q06]at e1
  repeat' (first
   |refine goP 800 rfl rfl ?_
   |refine q0h rfl ?_|refine q0n rfl ?_|refine q09 rfl (fun _=>?_) (fun _=>?_)
   |refine q0d rfl ?_|refine q0j rfl ?_|refine q01 rfl (fun _=>?_) (fun _=>?_)
   |refine q0N rfl (fun _=>?_) (fun _=>?_)
   |refine q08 rfl rfl rfl trivial ?_)
  rw[qiv,decide_eq_true (.inl (by omega))]
 rw[q07]at e1
 refine gg rfl ?_
 rw[List.length_map]
 refine q09 rfl (fun e2=>?_) (fun e2=>?_)
 ·rw[q06]at e2
  repeat' (first
   |refine goP 800 rfl rfl ?_
   |refine q0h rfl ?_|refine q0n rfl ?_|refine q09 rfl (fun _=>?_) (fun _=>?_)
   |refine q0d rfl ?_|refine q0j rfl ?_|refine q01 rfl (fun _=>?_) (fun _=>?_)
   |refine q0N rfl (fun _=>?_) (fun _=>?_)
   |refine q08 rfl rfl rfl trivial ?_)
  rw[qiv,decide_eq_true (.inr (.inl (by omega)))]
 rw[q07]at e2
 refine gg rfl ?_
 rw[List.length_map]
 refine q09 rfl (fun e3=>?_) (fun e3=>?_)
 ·rw[q06]at e3
  repeat' (first
   |refine goP 800 rfl rfl ?_
   |refine q0h rfl ?_|refine q0n rfl ?_|refine q09 rfl (fun _=>?_) (fun _=>?_)
   |refine q0d rfl ?_|refine q0j rfl ?_|refine q01 rfl (fun _=>?_) (fun _=>?_)
   |refine q0N rfl (fun _=>?_) (fun _=>?_)
   |refine q08 rfl rfl rfl trivial ?_)
  rw[qiv,decide_eq_true (.inr (.inr (.inl (by omega))))]
 rw[q07]at e3
 refine gg rfl ?_
 rw[List.length_map]
 refine q09 rfl (fun e4=>?_) (fun e4=>?_)
 ·rw[q06]at e4
  repeat' (first
   |refine goP 800 rfl rfl ?_
   |refine q0h rfl ?_|refine q0n rfl ?_|refine q09 rfl (fun _=>?_) (fun _=>?_)
   |refine q0d rfl ?_|refine q0j rfl ?_|refine q01 rfl (fun _=>?_) (fun _=>?_)
   |refine q0N rfl (fun _=>?_) (fun _=>?_)
   |refine q08 rfl rfl rfl trivial ?_)
  rw[qiv,decide_eq_true (.inr (.inr (.inr (.inl (by omega)))))]
 rw[q07]at e4
 refine gg rfl (q08 rfl rfl rfl trivial ?_)
 rw[List.length_map,q1J,qiv]
 congr 1
 exact decide_eq_decide.2 ⟨fun h=>by omega,fun h=>by omega⟩
theorem qfY (s:Sty)(p e:Int):PU qtO [s.enc,.int .i64 p,.int .i64 e]=some (.bool (q1P s p e)):=by
 refine q0g (fn:=qgR) rfl (q0a ?_)
 refine gg rfl (q09 rfl (fun g1=>?_) (fun g1=>?_))
 ·rw[q0E]at g1
  refine gg rfl ?_
  rw[List.length_map]
  refine q09 rfl (fun g2=>?_) (fun g2=>?_)
  ·rw[q06]at g2
   refine gg rfl (q09 rfl (fun g3=>?_) (fun g3=>?_))
   ·rw[q0E]at g3
    refine gg rfl (q0i p.toNat rfl rfl (by omega) (q4q (by omega)) rfl ?_)
    refine gg rfl (q08 rfl rfl rfl trivial ?_)
    rw[q1P,decide_eq_true g1,decide_eq_true g2,decide_eq_true g3,q1J,List.length_map];rfl
   rw[q0F]at g3
   refine gg rfl (q08 rfl rfl rfl trivial ?_)
   rw[q1P,decide_eq_false (show¬0≤e by omega)];simp
  rw[q07]at g2
  refine gg rfl (q0n rfl (gg rfl (q08 rfl rfl rfl trivial ?_)))
  rw[q1P,decide_eq_false (show¬p<s.pieces.length by omega)];simp
 rw[q0F]at g1
 refine gg rfl (q0n rfl (gg rfl (q0n rfl (gg rfl (q08 rfl rfl rfl trivial ?_)))))
 rw[q1P,decide_eq_false (show¬0≤p by omega)];rfl
def qDb (p:Piece):Int:=if p.widths.length≠p.edges.length then 1 else if p.widths.any q2j then 3 else 0
end Go.F

namespace Go.F
structure WholeOk (s:Sty):Prop where
 name:q1M s.name=true
 size:s.sizes.length≠0
 sizeS:∀x∈s.sizes,sizeS x=true
 mults:s.mults.length=s.sizes.length
 base:0∈s.mults
 once:q4P s.sizes=false
 sizes:s.sizes.length≤12
 pieces:s.pieces.length≤12
 uses:s.uses.length≤12
 seams:s.seams.length≤24
 ops:s.ops.length≤16
 mult:∀m∈s.mults,-100≤m∧m≤100
end Go.F
