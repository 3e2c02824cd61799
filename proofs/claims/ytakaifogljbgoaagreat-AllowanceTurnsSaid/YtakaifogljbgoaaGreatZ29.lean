/- Parts of the proof, part 29: KSound4. -/
import Derived.Test.YtakaifogljbgoaaGreatZ28
set_option linter.all false
namespace Go.F
theorem qEc:∀{live:Live} {t:q0z} {h:q0e} {z:Frz} {nx:Nat} {k:q0z→q0e→Frz→Nat→Prop},qeU live t h z nx k→k (q4F live ⟨t,h,z,nx⟩).tmps (q4F live ⟨t,h,z,nx⟩).heap (q4F live ⟨t,h,z,nx⟩).frz (q4F live ⟨t,h,z,nx⟩).next:=by
 intro live
 induction live with
 |nil=>intro t h z nx k hw;exact hw
 |cons x live ih=>
  intro t h z nx k hw
  simp only[qeU]at hw
  simp only[q4F,qxt]
  cases hx:x.2 with
  |zero=>rw[hx]at hw;exact ih hw
  |succ e=>
   rw[hx]at hw
   simp only at hw⊢
   cases ht:t x.1<;>rw[ht]at hw<;>exact ih hw
theorem qym {t:q0z}{nx:Nat}:∀{live:Live} {h:q0e} {z:Frz} {k:q0e→Frz→Prop},q3m live t h z k→
 ∃h1 z1,q9a live ⟨t,h,z,nx⟩=some ⟨t,h1,z1,nx⟩∧qkh h1 t live=true∧k h1 z1∧∀id,q1y (h id)=true→q1y (h1 id)=true:=by
 intro live
 induction live with
 |nil=>intro h z k hw;exact⟨h,z,rfl,rfl,hw,fun _ h=>h⟩
 |cons x live ih=>
  intro h z k hw
  simp only[q3m]at hw
  simp only[q9a,qkg,qkh]
  cases hid:q2i (t x.1)with
  |none=>
   rw[hid]at hw
   simp only at hw⊢
   cases hb:plain 4 (t x.1)with
   |false=>rw[hb]at hw;exact hw.elim
   |true=>
    rw[hb]at hw
    obtain⟨h1,z1,e1,e2,e3,e4⟩:=ih hw
    exact⟨h1,z1,e1,by simp[e2],e3,e4⟩
  |some id=>
   rw[hid]at hw
   simp only at hw⊢
   cases hb:h id with
   |none=>
    rw[hb]at hw
    obtain⟨h1,z1,e1,e2,e3,e4⟩:=ih hw
    exact⟨h1,z1,e1,by simp[e2,e4 id (by simp[hb,q1y])],e3,e4⟩
   |some b=>
    rw[hb]at hw
    cases b with
    |row es esz=>
     simp only at hw⊢
     unfold qc9 at hw
     rcases hw with⟨g1,g2⟩ |⟨l',rs,g1,g2,g3,g4,g5⟩
     ·obtain⟨h1,z1,e1,e2,e3,e4⟩:=ih g2
      exact⟨h1,z1,by rw[g1];exact e1,by simp[e2,e4 id (by simp[hb,q1y,g1])],e3,e4⟩
     obtain⟨h1,z1,e1,e2,e3,e4⟩:=ih g5
     have hm:es.mapM (q1b h depth)=some l':=mapM_mono (fun x _ y hy=>qbw (by simp[depth]) hy) g2
     refine⟨h1,z1,?_,by simp[e2,e4 id (by simp[upd_same,q1y,g4])],e3,fun i hi=>e4 i ?_⟩
     ·rw[g1];simp only[hm,g3];exact e1
     by_cases hii:i=id
     ·subst hii;simp[upd_same,q1y,g4]
     rw[upd_ne hii];exact hi
    |mp ks vs=>
     simp only at hw⊢
     obtain⟨g1,g2⟩:=q1p hw
     obtain⟨h1,z1,e1,e2,e3,e4⟩:=ih g2
     exact⟨h1,z1,e1,by simp[e2,e4 id (by simp[hb,q1y,g1])],e3,e4⟩
theorem qyn {nx0:Nat}{ids:List (Option Nat)}{t:q0z}:∀(live:Live),q9b nx0 ids t live=mkT live (qaz nx0 ids t live):=by
 intro live
 induction live with
 |nil=>rfl
 |cons x live ih=>simp only[q9b,qaz,q6L,q5X,mkT,ih]
def q7F {α:Type}(nx0:Nat)(ids:List (Option Nat))(bot:α)(h:Nat→α):List (Option Nat)→Nat→List α
 |[],_=>[]
 |o::rest,j=>qtL nx0 ids bot h o j::q7F nx0 ids bot h rest (j+1)
theorem qEd {nx0:Nat}{ids:List (Option Nat)}{h:q0e}:∀(l:List (Option Nat)) (j:Nat),qaA nx0 ids h l j=q7F nx0 ids none h l j:=by
 intro l
 induction l with
 |nil=>intro j;rfl
 |cons o l ih=>intro j;simp only[qaA,q7F,qHP,ih]
theorem qGT {nx0:Nat}{ids:List (Option Nat)}{z:Frz}:∀(l:List (Option Nat)) (j:Nat),qje nx0 ids z l j=q7F nx0 ids 0 z l j:=by
 intro l
 induction l with
 |nil=>intro j;rfl
 |cons o l ih=>intro j;simp only[qje,q7F,ih]
theorem q69 {α:Type}{nx0:Nat}{ids:List (Option Nat)}{old:Nat→α}{bot:α}{h:Nat→α}:∀(l:List (Option Nat)) (j:Nat),nx0≤j→q1P nx0 ids old bot h l j=mkF nx0 old bot (q7F nx0 ids bot h l j) j:=by
 intro l
 induction l with
 |nil=>intro j _;rfl
 |cons o l ih=>
  intro j hj
  have hbot:q1P nx0 ids old bot h l (j+1) j=bot:=by
   rw[q9s nx0 ids old bot h l (j+1) (by omega) j,if_neg (by omega),if_neg (by omega)]
  have same:upd (q1P nx0 ids old bot h l (j+1)) j bot=q1P nx0 ids old bot h l (j+1):=q2J hbot
  simp only[q7F,mkF,←ih (j+1) (by omega)]
  cases o with
  |none=>simp only[q1P,qtL,same]
  |some x=>
   simp only[q1P,qtL]
   cases Nat.ble nx0 x with
   |false=>simp only[same]
   |true=>
    cases placeOf ids x nx0 with
    |none=>simp only[same]
    |some i=>
     simp only
     cases Nat.beq i j with
     |true=>simp only[cond_true]
     |false=>simp only[cond_false,same]
theorem qyo {nx0:Nat}{live:Live}{t:q0z}{h:q0e}{z:Frz}{nx:Nat}{k:q0e→Frz→Kept→Prop}(hw:q15 nx0 live t h z nx k):
 ∃h1 z1 kp,k h1 z1 kp∧settle nx0 live ⟨t,h,z,nx⟩=some ⟨mkT live kp.1,mkF nx0 (q1h nx0 h1) none kp.2.1 nx0,mkF nx0 z1 0 kp.2.2 nx0,nx0+live.length⟩:=by
 unfold q15 at hw
 unfold settle
 generalize q5e live=b at*
 cases b with
 |true=>exact hw
 |false=>
 simp only at hw⊢
 unfold q7C at hw
 have h1:=qEc hw
 obtain⟨h2,z2,e1,e2,e3,_⟩:=qym (nx:=(q4F live ⟨t,h,z,nx⟩).next) h1
 rw[q77,q78]at e3
 refine⟨_,_,_,e3,?_⟩
 have he:q4F live ⟨t,h,z,nx⟩=⟨(q4F live ⟨t,h,z,nx⟩).tmps,(q4F live ⟨t,h,z,nx⟩).heap,(q4F live ⟨t,h,z,nx⟩).frz,(q4F live ⟨t,h,z,nx⟩).next⟩:=rfl
 rw[he,e1]
 simp only[keep,e2]
 rw[qyn,q69 _ _ (Nat.le_refl _),q69 _ _ (Nat.le_refl _),qEd,qGT]
section
variable {P:Program}{shared:FuncId→Bool}{pl:FuncId→Plan}{T:Tab}{sh:Shr}{nx0:Nat}
theorem qGU (hT:TOK P shared pl T)(hsh:qB2 P shared pl sh)(p:Plan):∀(cd:Code) (k:K),q81 P p cd=some k→∀(t:q0z) (h:q0e) (z:Frz) (nx:Nat) (q:Ex→q0z→q0e→Frz→Nat→Prop),wp T sh nx0 k t h z nx q→
 ∃ex s',q ex s'.tmps s'.heap s'.frz s'.next∧Evt fun M=>q2L P (EM P shared pl M) p nx0 cd ⟨t,h,z,nx⟩=some (ex,s'):=by
 intro cd
 induction cd with
 |skip=>intro k hk t h z nx q hw;simp only[q81,q3s,Option.some.injEq]at hk;subst hk;exact⟨.normal,⟨t,h,z,nx⟩,hw,Evt.all fun M=>rfl⟩
 |region r ops draw=>
  intro k hk t h z nx q hw
  simp only[q81,q3s]at hk
  cases hc:quI P p.vt draw (p.sp r) ops ops.toList 0 with
  |none=>simp[hc]at hk
  |some l=>
   simp[hc]at hk
   subst hk
   simp only[wp]at hw
   split at hw
   ·rename_i hb
    obtain⟨s',e1,e2⟩:=qvz hT hsh hc hw
    exact⟨.normal,s',e2,e1.mono fun M hM=>by simp only[q2L,hb,hM]⟩
   exact hw.elim
 |seq a b iha ihb=>
  intro k hk t h z nx q hw
  simp only[q81,q3s]at hk
  split at hk
  ·rename_i ka kb ha hb
   cases hk
   simp only[wp]at hw
   obtain⟨ex1,s1,q1,e1⟩:=iha ka ha t h z nx _ hw
   cases ex1 with
   |normal=>
    obtain⟨ex2,s2,q2,e2⟩:=ihb kb hb _ _ _ _ _ q1
    exact⟨ex2,s2,q2,(e1.and e2).mono fun M hM=>by simp only[q2L,hM.1];exact hM.2⟩
   |exit i=>exact⟨.exit i,s1,q1,e1.mono fun M hM=>by simp only[q2L,hM]⟩
   |ret=>exact⟨.ret,s1,q1,e1.mono fun M hM=>by simp only[q2L,hM]⟩
  cases hk
 |cond c a b iha ihb=>
  intro k hk t h z nx q hw
  simp only[q81,q3s]at hk
  split at hk
  ·rename_i x ka kb hx ha hb
   cases hk
   simp only[wp]at hw
   split at hw
   ·rename_i d hd
    cases d with
    |true=>
     obtain⟨ex,s1,q1,e1⟩:=iha ka ha t h z nx _ hw
     exact⟨ex,s1,q1,e1.mono fun M hM=>by simp only[q2L,q2m hx,hd];exact hM⟩
    |false=>
     obtain⟨ex,s1,q1,e1⟩:=ihb kb hb t h z nx _ hw
     exact⟨ex,s1,q1,e1.mono fun M hM=>by simp only[q2L,q2m hx,hd];exact hM⟩
   exact hw.elim
  cases hk
 |block id c ih=>
  intro k hk t h z nx q hw
  simp only[q81,q3s]at hk
  cases hc:q81 P p c with
  |none=>simp[hc]at hk
  |some kc=>
   simp[hc]at hk
   subst hk
   simp only[wp]at hw
   obtain⟨ex1,s1,q1,e1⟩:=ih kc hc t h z nx _ hw
   cases ex1 with
   |normal=>exact⟨.normal,s1,q1,e1.mono fun M hM=>by simp only[q2L,hM]⟩
   |ret=>exact⟨.ret,s1,q1,e1.mono fun M hM=>by simp only[q2L,hM]⟩
   |exit i=>
    simp only at q1
    split at q1
    ·rename_i hb
     have hq:=Nat.eq_of_beq_eq_true hb
     exact⟨.normal,s1,q1,e1.mono fun M hM=>by simp only[q2L,hM];rw[if_pos hq]⟩
    rename_i hb
    have hq:¬i=id:=fun e=>by subst e;simp at hb
    exact⟨.exit i,s1,q1,e1.mono fun M hM=>by simp only[q2L,hM];rw[if_neg hq]⟩
 |loop c ih=>
  intro k hk t h z nx q hw
  simp only[q81,q3s]at hk
  cases hc:q81 P p c with
  |none=>simp[hc]at hk
  |some kc=>
   simp[hc]at hk
   subst hk
   simp only[wp]at hw
   unfold qyd at hw
   have key:∀(fuel:Nat) (t:q0z) (h:q0e) (z:Frz) (nx:Nat),q4t nx0 (p.lv (q4d c)) (fun t h z nx q=>wp T sh nx0 kc t h z nx q) fuel t h z nx q→
    ∃ex s',q ex s'.tmps s'.heap s'.frz s'.next∧Evt fun M=>qbm nx0 (p.lv (q4d c)) (q2L P (EM P shared pl M) p nx0 c) fuel ⟨t,h,z,nx⟩=some (ex,s'):=by
    intro fuel
    induction fuel with
    |zero=>intro t h z nx hw;exact hw.elim
    |succ fuel ihf=>
     intro t h z nx hw
     simp only[q4t]at hw
     obtain⟨h1,z1,kp,g1,g2⟩:=qyo hw
     obtain⟨ex1,s1,q1,e1⟩:=ih kc hc _ _ _ _ _ g1
     cases ex1 with
     |normal=>
      obtain⟨ex2,s2,q2,e2⟩:=ihf _ _ _ _ q1
      exact⟨ex2,s2,q2,(e1.and e2).mono fun M hM=>by simp only[qbm,g2,hM.1];exact hM.2⟩
     |exit i=>exact⟨.exit i,s1,q1,e1.mono fun M hM=>by simp only[qbm,g2,hM]⟩
     |ret=>exact⟨.ret,s1,q1,e1.mono fun M hM=>by simp only[qbm,g2,hM]⟩
   obtain⟨ex,s',q',e'⟩:=key q9c t h z nx hw
   exact⟨ex,s',q',e'.mono fun M hM=>by simp only[q2L];exact hM⟩
 |exit id=>intro k hk t h z nx q hw;simp only[q81,q3s,Option.some.injEq]at hk;subst hk;exact⟨.exit id,⟨t,h,z,nx⟩,hw,Evt.all fun M=>rfl⟩
 |ret=>intro k hk t h z nx q hw;simp only[q81,q3s,Option.some.injEq]at hk;subst hk;exact⟨.ret,⟨t,h,z,nx⟩,hw,Evt.all fun M=>rfl⟩
 |rangeFunc f ps x y _ _=>intro k hk;simp[q81,q3s]at hk
 |scope x _=>intro k hk;simp[q81,q3s]at hk
 |label l=>intro k hk;simp[q81,q3s]at hk
 |goto l=>intro k hk;simp[q81,q3s]at hk
 |refuse y=>intro k hk;simp[q81,q3s]at hk
theorem qEe {t:q0z}{h:q0e}{z:Frz}{nx:Nat}{rv:ResultVar}{r:KRes}{k:D→Prop}(hc:qA2 P rv=some r)(hw:qye t h r k):∃d,q7j P ⟨t,h,z,nx⟩ rv=some d∧k d:=by
 cases rv with
 |tmp i=>simp only[qA2,Option.some.injEq]at hc;subst hc;simp only[qye,q6L]at hw;exact⟨t i,rfl,hw⟩
 |cell a ty=>
  simp only[qA2]at hc
  split at hc
  ·rename_i ag n h1 h2
   cases hc
   simp only[qye]at hw
   obtain⟨d,h3,h4⟩:=qmS h1 h2 hw
   rw[q6L]at h4
   exact⟨d,h3,h4⟩
  cases hc
theorem qEf {t:q0z}{h:q0e}{z:Frz}{nx:Nat}:∀{rs:List ResultVar} {ks:List KRes} {k:List D→Prop},rs.mapM (qA2 P)=some ks→qtM t h ks k→∃l,rs.mapM (q7j P ⟨t,h,z,nx⟩)=some l∧k l:=by
 intro rs
 induction rs with
 |nil=>intro ks k hc hw;simp at hc;subst hc;exact⟨[],rfl,hw⟩
 |cons r rs ih=>
  intro ks k hc hw
  simp only[List.mapM_cons]at hc
  cases hr:qA2 P r with
  |none=>simp[hr]at hc
  |some kr=>
   cases hl:rs.mapM (qA2 P)with
   |none=>simp[hr,hl]at hc
   |some krs=>
    simp[hr,hl]at hc
    subst hc
    simp only[qtM]at hw
    obtain⟨d,h1,h2⟩:=qEe (z:=z) (nx:=nx) hr hw
    obtain⟨l,h3,h4⟩:=ih hl h2
    exact⟨d::l,by simp[List.mapM_cons,h1,h3],h4⟩
theorem qeX (hT:TOK P shared pl T)(hsh:qB2 P shared pl sh){p:Plan}{F:Func}{cd:Code}{fn:KFn}{args:List D}{h:q0e}{z:Frz}{nx:Nat}{k:D→q0e→Frz→Nat→Prop}(hb:F.body=some cd)(hc:cfn P p F=some fn)
 (hw:wp T sh nx fn.code (enter args) h z nx (qdr fn k)):∃d h' z' nx',k d h' z' nx'∧Evt fun M=>body P (EM P shared pl M) p F cd args h z nx=some (d,h',z',nx'):=by
 simp only[cfn,cfnQ,hb]at hc
 split at hc
 ·rename_i kc ks h1 h2
  cases hc
  obtain⟨ex,s',q1,e1⟩:=qGU hT hsh p cd kc h1 _ _ _ _ _ hw
  have fin':qE9 s'.tmps s'.heap ks (fun d=>k d s'.heap s'.frz s'.next)→∃d,q7B P F s'=some d∧k d s'.heap s'.frz s'.next:=by
   intro hr
   unfold qE9 at hr
   obtain⟨l,h3,h4⟩:=qEf (z:=s'.frz) (nx:=s'.next) h2 hr
   unfold q7B
   have h3':F.results.toList.mapM (q7j P s')=some l:=h3
   rw[h3']
   split at h4
   ·rename_i d;exact⟨d,rfl,h4⟩
   rename_i hne
   refine⟨.tup l,?_,h4⟩
   split
   ·rename_i d hd;cases hd;exact absurd rfl (hne d)
   ·rename_i l' _ hl;cases hl;rfl
   rename_i hl;cases hl
  cases ex with
  |exit i=>exact q1.elim
  |normal=>
   obtain⟨d,h5,h6⟩:=fin' q1
   exact⟨d,_,_,_,h6,e1.mono fun M hM=>by simp only[body,hM,h5];rfl⟩
  |ret=>
   obtain⟨d,h5,h6⟩:=fin' q1
   exact⟨d,_,_,_,h6,e1.mono fun M hM=>by simp only[body,hM,h5];rfl⟩
 cases hc
theorem Evt.up {p:Nat→Prop}(h:Evt p):Evt fun M=>∃M',M=M'+1∧p M':=by
 obtain⟨N,hN⟩:=h
 exact⟨N+1,fun M hM=>⟨M-1,by omega,hN _ (by omega)⟩⟩
theorem qtP (hT:TOK P shared pl T):∀n,qB2 P shared pl (shr T n):=by
 intro n
 induction n with
 |zero=>intro f args h z nx k hw;exact hw.elim
 |succ n ih=>
  intro f args h z nx k hw
  simp only[shr]at hw
  split at hw
  ·rename_i fn hf
   obtain⟨F,cd,h1,h2,h3⟩:=hT.tab f fn hf
   have hem:fn.em=(pl f).em:=by
    simp only[cfn,cfnQ,h2]at h3
    split at h3
    ·cases h3;rfl
    cases h3
   rw[hem]at hw
   split at hw
   ·rename_i hc
    exact⟨_,_,_,_,hw,1,fun M hM=>by
     obtain⟨M',rfl⟩:∃k,M=k+1:=⟨M-1,by omega⟩
     simp only[EM,env,h1,h2,hc]⟩
   rename_i hc
   obtain⟨d,h',z',nx',q1,e1⟩:=qeX hT ih h2 h3 hw
   refine⟨d,h',z',nx',q1,e1.up.mono fun M hM=>?_⟩
   obtain⟨M',rfl,hM'⟩:=hM
   simp only[EM,env,h1,h2,hc]
   exact hM'
  exact hw.elim
theorem qB5 (hT:TOK P shared pl T){f:FuncId}{fn:KFn}{args:List D}{r:D}(hf:T.tab f=some fn)(hw:wfun T fn args r):Evt fun M=>(EM P shared pl M).pure f args=some r:=by
 obtain⟨F,cd,h1,h2,h3⟩:=hT.tab f fn hf
 unfold wfun at hw
 obtain⟨d,h',z',nx',q1,e1⟩:=qeX hT (qtP hT 6) h2 h3 hw
 obtain⟨d',h4,h5⟩:=qCy q1
 subst h5
 refine e1.up.mono fun M hM=>?_
 obtain⟨M',rfl,hM'⟩:=hM
 simp only[EM,env,h1,h2]
 have hM2:body P (env P shared pl M') (pl f) F cd args empty qgU 0=some (d,h',z',nx'):=hM'
 rw[hM2]
 exact h4
end
open Classical in
noncomputable def PUof (P:Program)(shared:FuncId→Bool)(pl:FuncId→Plan):Pure:=fun f args=>
 if hx:∃r,Evt fun M=>(EM P shared pl M).pure f args=some r then some (Classical.choose hx)else none
theorem qvA {P:Program}{shared:FuncId→Bool}{pl:FuncId→Plan}{f:FuncId}{args:List D}{r:D}(h:Evt fun M=>(EM P shared pl M).pure f args=some r):PUof P shared pl f args=some r:=by
 unfold PUof
 have hx:∃r,Evt fun M=>(EM P shared pl M).pure f args=some r:=⟨r,h⟩
 rw[dif_pos hx]
 obtain⟨a,ha⟩:=Classical.choose_spec hx
 obtain⟨b,hb⟩:=h
 have h1:=ha (max a b) (by omega)
 have h2:=hb (max a b) (by omega)
 exact h1.symm.trans h2
theorem qCz {P:Program}{shared:FuncId→Bool}{pl:FuncId→Plan}{f:FuncId}{args:List D}{r:D}(h:PUof P shared pl f args=some r):Evt fun M=>(EM P shared pl M).pure f args=some r:=by
 unfold PUof at h
 split at h
 ·rename_i hx
  have:=Classical.choose_spec hx
  cases h
  exact this
 cases h
end Go.F
