/- Parts of the proof, part 27: KSound2. -/
import Derived.Test.YtakaifogljbgoaaGreatZ26
set_option linter.all false
namespace Go.F
section
variable {P:Program}{T:Tab}{sh:Shr}{t:q0z}{gh h:q0e}{gz z:Frz}{nx id:Nat}{c:D→q0e→Frz→Nat→Prop}{vt:List Nat}
theorem qsg {mt kt et:TypeId}{m k v:D}{c:q0e→Prop}(hu:P.underlying mt=some (.map kt et))(hs:P.underlying kt=some .string)(hk:qnZ gh gz h m k v c):∃r,mapUpdate P gh gz mt m k v=some r∧r.v=.tup []∧r.fz=[]∧c (q0A h r.hp):=by
 unfold qnZ at hk
 split at hk
 ·rename_i i s
  split at hk
  ·rename_i ks vs hb hz
   unfold qvt at hk
   simp only[mapUpdate,hu,hs,hb,hz,if_true]
   cases hf:findKey s ks 0 with
   |none=>rw[hf]at hk;exact⟨_,rfl,rfl,rfl,hk⟩
   |some j=>rw[hf]at hk;exact⟨_,rfl,rfl,rfl,hk⟩
  exact hk.elim
 exact hk.elim
theorem qd7 {mt kt et:TypeId}{zd:D}{ks:List ByteArray}{vs:List D}{k:D}{ok:Bool}{c:D→Prop}(hu:P.underlying mt=some (.map kt et))(hs:P.underlying kt=some .string)(hz:zeroOf P et=some zd)(hk:q6Y zd ks vs k ok c):∃d,qbl P mt ks vs k ok=some d∧c d:=by
 unfold q6Y at hk
 split at hk
 ·rename_i s
  unfold qvt at hk
  simp only[qbl,hu,hs]
  cases hf:findKey s ks 0 with
  |none=>
   rw[hf]at hk
   simp only at hk⊢
   refine⟨_,by rw[hz];rfl,?_⟩
   cases ok<;>exact hk
  |some j=>
   rw[hf]at hk
   simp only at hk⊢
   obtain⟨v,h1,h2⟩:=q7D hk
   refine⟨_,by rw[h1];rfl,?_⟩
   cases ok<;>exact h2
 exact hk.elim
theorem q7E {o:Option D}{c:D→q0e→Frz→Nat→Prop}(ho:∃d,o=some d∧c d h z nx):∃r,o.map out=some r∧c r.v (q0A h r.hp) (q0A z r.fz) nx:=by
 obtain⟨d,rfl,h2⟩:=ho
 exact⟨out d,rfl,h2⟩
theorem qGO {o:Oper}{k:KOp}(hc:cop P vt o.op=some k)(hnv:∀cl f,o.op=.call cl→cl.callee≠ .value f)(hk:kop T sh k t gh gz h z nx id c):
 ∃r,(∀pure,step P pure o t gh gz id=some r)∧c r.v (q0A h r.hp) (q0A z r.fz) nx:=by
 cases hop:o.op<;>simp only[hop,cop,copQ,reduceCtorEq]at hc<;>simp only[step,hop]
 case move x=>
  cases hx:cx x with
  |none=>simp[hx]at hc
  |some y=>simp[hx]at hc;subst hc;exact⟨_,fun _=>rfl,by simp only[kop]at hk;rw[q2m hx];exact hk⟩
 case assign x=>
  cases hx:cx x with
  |none=>simp[hx]at hc
  |some y=>simp[hx]at hc;subst hc;exact⟨_,fun _=>rfl,by simp only[kop]at hk;rw[q2m hx];exact hk⟩
 case pick cc a b=>
  split at hc
  ·rename_i c' a' b' hx ha hb
   cases hc
   simp only[kop]at hk
   rw[q2m hx,q2m ha,q2m hb]
   split at hk
   ·rename_i d hd
    rw[hd]
    cases d with
    |true=>exact⟨_,fun _=>rfl,hk⟩
    |false=>exact⟨_,fun _=>rfl,hk⟩
   exact hk.elim
  cases hc
 case alloc e=>
  split at hc
  ·rename_i d hd
   split at hc
   ·rename_i hcond
    cases hc
    simp only[kop]at hk
    exact⟨newRow id [d] d.cells.length (.ptr id 0 0),fun _=>by rw[hd];simp only;rw[if_pos hcond],hk⟩
   cases hc
  cases hc
 case box e x=>
  split at hc
  ·rename_i n y hn hx
   cases hc
   simp only[kop,qbG]at hk
   rw[q2m hx]
   split at hk
   ·rename_i hb
    simp only[Bool.and_eq_true]at hb
    have e1:=Nat.eq_of_beq_eq_true hb.1.1
    have e2:0<n:=Nat.le_of_ble_eq_true hb.1.2
    refine⟨newRow id [y.ev t] (y.ev t).cells.length (.ptr id 0 0),fun _=>by rw[if_pos ⟨by omega,hb.2⟩],?_⟩
    rw[e1];exact hk
   exact hk.elim
  cases hc
 case build ty parts=>
  simp only[qFS]at hc
  unfold build
  split at hc
  ·rename_i fs zd hu hz
   rw[hu,hz]
   split at hc
   ·rename_i pls hpl
    split at hc
    ·rename_i hsto
     cases hps:qeu (fun i=>pls[i]?) parts.toList with
     |none=>simp[hps]at hc
     |some ps=>
      simp[hps]at hc;subst hc
      simp only[kop]at hk
      obtain⟨l,h1,h2⟩:=qmT hps hk
      exact⟨out (.agg l),fun _=>by simp[hpl,hsto,h1],h2⟩
    cases hc
   cases hc
  ·rename_i n e zd hu hz
   rw[hu,hz]
   split at hc
   ·rename_i m hm
    split at hc
    ·rename_i hsto
     cases hps:qeu (fun i=>some (i*m,m)) parts.toList with
     |none=>simp[hps]at hc
     |some ps=>
      simp[hps]at hc;subst hc
      simp only[kop]at hk
      obtain⟨l,h1,h2⟩:=qmT hps hk
      exact⟨out (.agg l),fun _=>by simp[hm,hsto,h1],h2⟩
    cases hc
   cases hc
  cases hc
 case buildSlice ty len parts=>
  split at hc
  ·cases hc
  rename_i e he
  rw[he]
  split at hc
  ·rename_i n d l hn hd hl
   split at hc
   ·rename_i hcond
    cases hc
    simp only[kop]at hk
    obtain⟨l',h1,h2⟩:=qkz hl hk
    exact⟨newRow id l' n (.ref id 0 len),fun _=>by simp only[hn,hd];rw[if_pos hcond,h1];rfl,h2⟩
   cases hc
  cases hc
 case load ty a=>
  split at hc
  ·rename_i ag n x h1 h2 hx
   cases hc
   simp only[kop]at hk
   obtain⟨d,h3,h4⟩:=qmS h1 h2 hk
   exact⟨out d,fun _=>by rw[q2m hx,h3];rfl,h4⟩
  cases hc
 case store ty a v=>
  split at hc
  ·rename_i n x y h2 hx hy
   cases hc
   simp only[kop]at hk
   obtain⟨r,h3,h4,h5,h6⟩:=qvx h2 hk
   refine⟨r,fun _=>by rw[q2m hx,q2m hy,h3],?_⟩
   rw[h4,h5];exact h6
  cases hc
 case nilCheck x=>
  cases hx:cx x with
  |none=>simp[hx]at hc
  |some y=>
   simp[hx]at hc;subst hc
   simp only[kop]at hk
   rw[q2m hx]
   split at hk
   ·rename_i hd;rw[hd];exact⟨_,fun _=>rfl,hk⟩
   ·rename_i hd;rw[hd];exact⟨_,fun _=>rfl,hk⟩
   exact hk.elim
 case binOp op ty x y p=>
  split at hc
  ·rename_i x' y' hx hy
   cases hc
   simp only[kop]at hk
   rw[←q2m hx,←q2m hy]at hk
   obtain⟨d,h1,h2⟩:=qyh hk
   exact⟨out d,fun _=>by rw[h1];rfl,h2⟩
  cases hc
 case unOp op ty x=>
  cases hx:cx x with
  |none=>simp[hx]at hc
  |some y=>
   simp[hx]at hc;subst hc
   simp only[kop]at hk
   rw[q2m hx]
   obtain⟨d,h1,h2⟩:=qEa hk
   exact⟨out d,fun _=>by rw[h1];rfl,h2⟩
 case convert a b x=>
  cases hx:cx x with
  |none=>simp[hx]at hc
  |some y=>
   simp[hx]at hc;subst hc
   simp only[kop]at hk
   rw[q2m hx]
   obtain⟨d,h1,h2⟩:=qyi hk
   exact⟨out d,fun _=>by rw[h1];rfl,h2⟩
 case makeFunc fn a e=>
  split at hc
  ·rename_i f a' e' h1 h2
   cases hc
   simp only[kop]at hk
   refine⟨out (.fn f (a.toList.map (ev t)) (e.toList.map (ev t))),fun _=>rfl,?_⟩
   rw[qhv h1,qhv h2]
   exact hk
  cases hc
 case makeMap ty r=>
  split at hc
  ·cases hc;exact⟨_,fun _=>rfl,hk⟩
  cases hc
 case makeSlice ty l cp=>
  split at hc
  ·cases hc
  rename_i e he
  rw[he]
  split at hc
  ·rename_i el x y hel hx hy
   cases hc
   obtain⟨e1,e2,e3,e4,e5,e6⟩:=qjh hel
   simp only[kop]at hk
   rw[q2m hx,q2m hy]
   split at hk
   ·rename_i l' k' hl hkk
    obtain⟨n,hn,hk2⟩:=qyf hk
    obtain⟨h1,h2⟩:=q1p hk2
    subst hn
    refine⟨newRow id (List.replicate n el.d) el.n (.ref id 0 n),fun _=>?_,h2⟩
    rw[hl,hkk]
    simp only[e1,e2,e3]
    rw[if_pos ⟨e4,by omega,h1.1,by exact_mod_cast h1.2,e6,e5⟩]
    rfl
   exact hk.elim
  cases hc
 case slice ty x lo hi mx=>
  split at hc
  ·rename_i x' lo' hi' mx' hx hlo hhi hmx
   rw[q2m hx]
   split at hc
   ·rename_i hu
    cases hc
    simp only[kop]at hk
    unfold qGK at hk
    split at hk
    ·rename_i s hxs
     obtain⟨a,ha,hk1⟩:=q41 hlo hk
     obtain⟨b,hb,hk2⟩:=q41 hhi hk1
     obtain⟨hab,hk3⟩:=q1p hk2
     have hm:q9z t mx=none:=by
      cases mx with
      |none=>rfl
      |some m=>
       simp only[cxo]at hmx
       cases hm:cx m<;>simp[hm]at hmx
     refine⟨out (.str (s.extract a b)),fun _=>?_,hk3⟩
     unfold q7i
     rw[hu,hxs,hm]
     simp only[ha,hb]
     rw[if_pos hab]
    exact hk.elim
   ·rename_i e hu
    cases hn:sizeOf P e with
    |none=>simp[hn]at hc
    |some n=>
     simp[hn]at hc;subst hc
     simp only[kop]at hk
     obtain⟨d,h1,h2⟩:=qB1 hu hn hlo hhi hmx hk
     exact⟨out d,fun _=>h1,h2⟩
   ·rename_i n e hu
    split at hc
    ·rename_i ag k hag hsz
     cases hc
     have hlo':lo=none:=by
      cases lo with
      |none=>rfl
      |some m=>simp only[cxo]at hlo;cases hm:cx m<;>simp[hm]at hlo
     have hhi':hi=none:=by
      cases hi with
      |none=>rfl
      |some m=>simp only[cxo]at hhi;cases hm:cx m<;>simp[hm]at hhi
     have hmx':mx=none:=by
      cases mx with
      |none=>rfl
      |some m=>simp only[cxo]at hmx;cases hm:cx m<;>simp[hm]at hmx
     subst hlo' hhi' hmx'
     simp only[kop]at hk
     unfold qGL at hk
     split at hk
     ·rename_i i j o hxp
      split at hk
      ·rename_i es esz hrow
       obtain⟨el,hel,hk1⟩:=q7D hk
       rw[qbG]at hk1
       split at hk1
       ·rename_i hb
        simp only[Bool.and_eq_true]at hb
        rw[q5X]at hk1
        obtain⟨⟨⟨b1,b2⟩,b3⟩,b4⟩:=hb
        have hcells:q4T gh (.ptr i j o)=some (el.cells,o):=by simp[q4T,hrow,hel]
        refine⟨⟨.lst (chunks k ag n (el.cells.drop o)),[],[(i,q0t gh i)]⟩,fun _=>?_,?_⟩
        ·unfold q7i
         rw[hu,hxp]
         simp only[q9z,Option.map_none,hcells,hag,hsz]
         have hor:ag=true∨k=1:=by
          cases ag with
          |true=>exact .inl rfl
          |false=>exact .inr (Nat.eq_of_beq_eq_true (by simpa using b3))
         rw[if_pos ⟨Nat.le_of_ble_eq_true b1,Nat.le_of_ble_eq_true b2,hor,b4⟩]
        simp only[q0A,q0t,hrow];exact hk1
       exact hk1.elim
      exact hk.elim
     exact hk.elim
    cases hc
   cases hc
  cases hc
 case fieldAddr ty x f=>
  split at hc
  ·rename_i n x' hn hx
   cases hc
   simp only[kop]at hk
   rw[q2m hx]
   obtain⟨d,h1,h2⟩:=qeV hk
   exact⟨out d,fun _=>by rw[hn];simp[h1],h2⟩
  cases hc
 case indexAddr ty x ix=>
  split at hc
  ·rename_i x' ix' hx hix
   rw[q2m hx,q2m hix]
   split at hc
   ·rename_i e hu
    cases hn:sizeOf P e with
    |none=>simp[hn]at hc
    |some n=>
     simp[hn]at hc;subst hc
     simp only[kop]at hk
     unfold kixs at hk
     refine Exists.imp (fun r h=>⟨fun _=>h.1,h.2⟩) (q7E ?_)
     split at hk
     ·rename_i l hxl
      obtain⟨i,hi,hk1⟩:=q6s hk
      obtain⟨d,hd,hk2⟩:=q7D hk1
      rw[qbG]at hk2
      split at hk2
      ·rename_i hb
       simp only[Bool.and_eq_true]at hb
       refine⟨.pl d 0,?_,hk2⟩
       unfold indexAddr
       rw[hxl,hi,hu]
       simp only[hn,hd]
       rw[if_pos ⟨Nat.eq_of_beq_eq_true hb.1,Nat.le_of_ble_eq_true hb.2⟩]
      exact hk2.elim
     ·rename_i id0 off len hxr
      split at hk
      ·rename_i es esz hrow
       split at hk
       ·rename_i hb
        obtain⟨i,hi,hk1⟩:=q6s hk
        obtain⟨hlt,hk2⟩:=q1p hk1
        refine⟨.ptr id0 (off+i) 0,?_,hk2⟩
        unfold indexAddr
        rw[hxr,hi,hu]
        simp only[hn,hrow]
        rw[if_pos hlt,if_pos (Nat.eq_of_beq_eq_true hb)]
       exact hk.elim
      exact hk.elim
     exact hk.elim
   ·rename_i len e hu
    cases hn:sizeOf P e with
    |none=>simp[hn]at hc
    |some n=>
     simp[hn]at hc;subst hc
     simp only[kop]at hk
     unfold kixa at hk
     refine Exists.imp (fun r h=>⟨fun _=>h.1,h.2⟩) (q7E ?_)
     obtain⟨i,hi,hk1⟩:=q6s hk
     obtain⟨hlt,hk2⟩:=q1p hk1
     obtain⟨d,hd,hk3⟩:=qeV hk2
     refine⟨d,?_,hk3⟩
     unfold indexAddr
     rw[hi,hu]
     simp only[hn]
     rw[if_pos hlt,hd]
   cases hc
  cases hc
 case index ty x ix=>
  split at hc
  ·rename_i x' ix' hx hix
   rw[q2m hx,q2m hix]
   refine Exists.imp (fun r h=>⟨fun _=>h.1,h.2⟩) (q7E ?_)
   split at hc
   ·rename_i len e hu
    split at hc
    ·rename_i ag n hag hn
     cases hc
     simp only[kop]at hk
     unfold kia at hk
     split at hk
     ·rename_i cs hxc
      obtain⟨i,hi,hk1⟩:=q6s hk
      obtain⟨hlt,hk2⟩:=q1p hk1
      unfold index
      rw[hxc,hi,hu]
      simp only
      rw[if_pos hlt,hag,hn]
      cases ag with
      |true=>
       obtain⟨hb,hk3⟩:=q1p hk2
       exact⟨_,by simp only;rw[if_pos hb],hk3⟩
      |false=>
       obtain⟨d,hd,hk3⟩:=q7D hk2
       exact⟨d,hd,hk3⟩
     exact hk.elim
    cases hc
   ·rename_i hu
    cases hc
    simp only[kop]at hk
    unfold qGJ at hk
    split at hk
    ·rename_i s hxs
     obtain⟨i,hi,hk1⟩:=q6s hk
     obtain⟨b,hb,hk2⟩:=q7D hk1
     unfold index
     rw[hxs,hi,hu]
     exact⟨_,by simp only[hb],hk2⟩
    exact hk.elim
   cases hc
  cases hc
 case lookup mt x kk ok=>
  split at hc
  ·rename_i kt et x' k' hu hx hkx
   split at hc
   ·rename_i zd hs hz
    cases hc
    simp only[kop]at hk
    rw[q2m hx,q2m hkx]
    refine Exists.imp (fun r h=>⟨fun _=>h.1,h.2⟩) (q7E ?_)
    unfold qjd at hk
    unfold lookup
    split at hk
    ·rename_i ks vs hm;rw[hm];exact qd7 hu hs hz hk
    ·rename_i i hm
     rw[hm]
     simp only
     split at hk
     ·rename_i ks vs hb;simp only[hb];exact qd7 hu hs hz hk
     exact hk.elim
    exact hk.elim
   cases hc
  cases hc
 case mapUpdate mt m kk v=>
  split at hc
  ·rename_i kt et m' k' v' hu hm hkx hv
   split at hc
   ·rename_i hs
    cases hc
    simp only[kop]at hk
    rw[q2m hm,q2m hkx,q2m hv]
    obtain⟨r,h1,h2,h3,h4⟩:=qsg hu hs hk
    refine⟨r,fun _=>h1,?_⟩
    rw[h2,h3];exact h4
   cases hc
  cases hc
 case extract x i=>
  cases hx:cx x with
  |none=>simp[hx]at hc
  |some y=>
   simp[hx]at hc;subst hc
   simp only[kop]at hk
   rw[q2m hx]
   unfold qqj at hk
   split at hk
   ·rename_i l hl
    rw[hl]
    obtain⟨d,h1,h2⟩:=q7D hk
    exact⟨out d,fun _=>by simp[h1],h2⟩
   exact hk.elim
 case call cl=>
  cases hcal:cl.callee with
  |value f=>exact absurd hcal (hnv cl f hop)
  |invoke r m=>simp[qiK,hcal]at hc
  |builtin b=>
   simp only[qiK,hcal]at hc
   split at hc
   ·cases hc
   rename_i l hl
   have hargs:=qhv (t:=t) hl
   simp only[hargs]
   split at hc
   ·
    split at hc
    ·rename_i ty u sx x hty
     split at hc
     ·cases hc
     rename_i e he
     split at hc
     ·rename_i el k hel hu
      cases hc
      simp only[kop,q7k]at hk
      obtain⟨n,hn,hk1⟩:=q6s hk
      obtain⟨hlim,hk2⟩:=q1p hk1
      obtain⟨e1,e2,e3,e4,e5,e6⟩:=qjh hel
      obtain⟨r,h1,h2⟩:=q6Z (c:=fun d h z=>c d h z nx) hel (by rw[List.all_eq_true];intro x hx;rw[List.eq_of_mem_replicate hx];simp[e6]) hk2
      exact⟨r,fun _=>by simp only[append,hty,List.map_cons,List.map_nil,he,hu,hn,e3];rw[if_pos ⟨hlim,e5⟩];exact h1,h2⟩
     ·rename_i el hel hu
      cases hc
      simp only[kop,q7k]at hk
      split at hk
      ·rename_i bs hbs
       obtain⟨h0,hk1⟩:=qjf hk
       obtain⟨r,h1,h2⟩:=q6Z (c:=fun d h z=>c d h z nx) hel h0 hk1
       exact⟨r,fun _=>by simp only[append,hty,List.map_cons,List.map_nil,he,hu,hbs];exact h1,h2⟩
      exact hk.elim
     ·rename_i el u' hel hu
      cases hc
      simp only[kop,q7k]at hk
      obtain⟨l,hw,h0,hk1⟩:=qeW hk
      obtain⟨r,h1,h2⟩:=q6Z (c:=fun d h z=>c d h z nx) hel h0 hk1
      exact⟨r,fun _=>by simp only[append,hty,List.map_cons,List.map_nil,he,hu,hw];exact h1,h2⟩
     cases hc
    cases hc
   ·
    split at hc
    ·rename_i ty rest sx x hty
     split at hc
     ·cases hc
     rename_i e he
     cases hn:sizeOf P e with
     |none=>simp[hn]at hc
     |some n=>
      simp[hn]at hc;subst hc
      simp only[kop]at hk
      unfold qGM at hk
      split at hk
      ·rename_i i off len hs
       split at hk
       ·rename_i es esz hb
        split at hk
        ·rename_i hbq
         have hq:=Nat.eq_of_beq_eq_true hbq
         subst hq
         obtain⟨l,hw,h0,hk1⟩:=qeW hk
         obtain⟨hcond,hk2⟩:=q1p hk1
         refine⟨⟨.int .i64 (min l.length len:Nat),[(i,some (.row (es.take off++l.take (min l.length len)++es.drop (off+min l.length len)) n))],[]⟩,fun _=>?_,hk2⟩
         simp only[copy,hty,List.map_cons,List.map_nil,hs,he,hb,hw,hn]
         rw[if_pos ⟨trivial,hcond.1,hcond.2,h0⟩]
        exact hk.elim
       exact hk.elim
      exact hk.elim
    cases hc
   ·
    split at hc
    ·rename_i ty sx hty
     split at hc
     ·cases hc
     rename_i e he
     cases hel:elk P e with
     |none=>simp[hel]at hc
     |some el=>
      simp[hel]at hc;subst hc
      obtain⟨e1,e2,e3,e4,e5,e6⟩:=qjh hel
      simp only[kop]at hk
      unfold qAW at hk
      split at hk
      ·rename_i i off len hs
       split at hk
       ·rename_i es esz hb
        split at hk
        ·rename_i hbq
         simp only[Bool.and_eq_true]at hbq
         obtain⟨hcond,hk2⟩:=q1p hk
         refine⟨⟨.tup [],[(i,some (.row (es.take off++List.replicate len el.d++es.drop (off+len)) esz))],[]⟩,fun _=>?_,hk2⟩
         simp only[clear,hty,List.map_cons,List.map_nil,hs,he,hb,e3]
         rw[if_pos ⟨hcond.1,hcond.2,Nat.eq_of_beq_eq_true hbq.1,hbq.2⟩]
        exact hk.elim
       exact hk.elim
      ·rename_i hs
       exact⟨out (.tup []),fun _=>by simp only[clear,hty,List.map_cons,List.map_nil,hs,he];rfl,hk⟩
      ·rename_i l hs
       obtain⟨rfl,hk2⟩:=q1p hk
       exact⟨out (.tup []),fun _=>by simp only[clear,hty,List.map_cons,List.map_nil,hs,he];rfl,hk2⟩
      exact hk.elim
    cases hc
   ·
    refine Exists.imp (fun r h=>⟨fun _=>h.1,h.2⟩) (q7E ?_)
    split at hc
    ·rename_i ty x hty
     simp only[qxq,hty,List.map_cons,List.map_nil]
     split at hc
     ·rename_i hu
      cases hc
      simp only[kop,qAX]at hk
      split at hk
      ·rename_i hx;rw[hx,hu];exact⟨_,rfl,hk⟩
      exact hk.elim
     ·rename_i n e hu
      cases hc
      simp only[kop,qAX]at hk
      rw[hu];exact⟨_,rfl,hk⟩
     ·rename_i e hu
      cases hc
      simp only[kop,qAX]at hk
      split at hk
      ·rename_i hx;rw[hx,hu];exact⟨_,rfl,hk⟩
      ·rename_i hx;rw[hx,hu];exact⟨_,rfl,hk⟩
      ·rename_i hx;rw[hx,hu];exact⟨_,rfl,hk⟩
      exact hk.elim
     ·rename_i a b hu
      cases hc
      simp only[kop,qAX]at hk
      split at hk
      ·rename_i hx;rw[hx,hu];exact⟨_,rfl,hk⟩
      ·rename_i i hx
       rw[hx,hu]
       simp only
       split at hk
       ·rename_i hb;simp only[hb];exact⟨_,rfl,hk⟩
       exact hk.elim
      exact hk.elim
     cases hc
    cases hc
   ·
    split at hc
    ·rename_i ty x hty
     split at hc
     ·rename_i e hu
      cases hc
      simp only[kop]at hk
      split at hk
      ·rename_i hx
       exact⟨out (.int .i64 0),fun _=>by simp only[qxr,hty,List.map_cons,List.map_nil,hx,hu];rfl,hk⟩
      exact hk.elim
     cases hc
    cases hc
   ·
    cases hc
    simp only[kop]at hk
    split at hk
    ·exact hk.elim
    obtain⟨d,h1,h2⟩:=qtN hk
    exact⟨out d,fun _=>by simp only[qc3,List.map_cons,h1];rfl,h2⟩
   ·cases hc
    simp only[kop]at hk
    split at hk
    ·exact hk.elim
    obtain⟨d,h1,h2⟩:=qtN hk
    exact⟨out d,fun _=>by simp only[qc3,List.map_cons,h1];rfl,h2⟩
   cases hc
end
end Go.F
