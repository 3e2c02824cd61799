/- Parts of the proof, part 28: KSound3. -/
import Derived.Test.YtakaifogljbgoaaGreatZ27
import Derived.Test.YtakaifogljbgoaaGreatZ20
set_option linter.all false
namespace Go.F
theorem mapM_mono {α β:Type}{f g:α→Option β}:∀{l:List α} {l':List β},(∀x∈l,∀y,f x=some y→g x=some y)→l.mapM f=some l'→l.mapM g=some l':=by
 intro l
 induction l with
 |nil=>intro l' _ h;simpa using h
 |cons x l ih=>
  intro l' hfg h
  simp only[List.mapM_cons]at h⊢
  cases hx:f x with
  |none=>simp[hx]at h
  |some y=>
   cases hl:l.mapM f with
   |none=>simp[hx,hl]at h
   |some ys=>
    simp[hx,hl]at h
    subst h
    simp[hfg x (List.mem_cons_self ..) y hx,ih (fun x hx=>hfg x (List.mem_cons_of_mem _ hx)) hl]
theorem qaB {h:q0d}:∀{n m:Nat} {d d':D},n≤m→q19 h n d=some d'→q19 h m d=some d':=by
 intro n
 induction n with
 |zero=>intro m d d' _ hs;simp[q19]at hs
 |succ n ih=>
  intro m d d' hm hs
  obtain⟨m,rfl⟩:∃k,m=k+1:=⟨m-1,by omega⟩
  have up:∀{l l':List D},l.mapM (q19 h n)=some l'→l.mapM (q19 h m)=some l':=fun hl=>mapM_mono (fun x _ y hy=>ih (by omega) hy) hl
  cases d with
  |ref id off len=>
   simp only[q19]at hs⊢
   split at hs
   ·rename_i es esz hb
    split at hs
    ·rename_i hle
     cases hl:((es.drop off).take len).mapM (q19 h n)with
     |none=>simp[hl]at hs
     |some l=>simp[hl]at hs;subst hs;simp[hle,up hl]
    cases hs
   cases hs
  |agg l=>
   simp only[q19]at hs⊢
   cases hl:l.mapM (q19 h n)with
   |none=>simp[hl]at hs
   |some l'=>simp[hl]at hs;subst hs;simp[up hl]
  |tup l=>
   simp only[q19]at hs⊢
   cases hl:l.mapM (q19 h n)with
   |none=>simp[hl]at hs
   |some l'=>simp[hl]at hs;subst hs;simp[up hl]
  |fn f a c=>
   simp only[q19]at hs⊢
   split at hs
   ·rename_i a' c' ha hc;cases hs;simp[up ha,up hc]
   cases hs
  |mref id=>
   simp only[q19]at hs⊢
   split at hs
   ·rename_i ks vs hb
    cases hl:vs.mapM (q19 h n)with
    |none=>simp[hl]at hs
    |some l=>simp[hl]at hs;subst hs;simp[up hl]
   cases hs
  |_=>first|(simp only[q19,reduceCtorEq]at hs;done) |(simp only[q19]at hs⊢;exact hs)
section
variable {h:q0d}
theorem qFb (n:Nat){id off len esz:Nat}{es l:List D}(hb:h id=some (.row es esz))(h1:off+len≤es.length)(h2:((es.drop off).take len).mapM (q19 h n)=some l):q19 h (n+1) (.ref id off len)=some (.lst l):=by
 simp only[q19,hb];rw[if_pos h1,h2];rfl
theorem qCA (n:Nat){id:Nat}{ks:List ByteArray}{vs l:List D}(hb:h id=some (.mp ks vs))(h2:vs.mapM (q19 h n)=some l):q19 h (n+1) (.mref id)=some (.mlst ks l):=by
 simp only[q19,hb];rw[h2];rfl
theorem qFc (n:Nat){l l':List D}(h2:l.mapM (q19 h n)=some l'):q19 h (n+1) (.agg l)=some (.agg l'):=by
 simp only[q19];rw[h2];rfl
theorem qFd (n:Nat){l l':List D}(h2:l.mapM (q19 h n)=some l'):q19 h (n+1) (.tup l)=some (.tup l'):=by
 simp only[q19];rw[h2];rfl
theorem qAZ (n:Nat){f:FuncId}{a a' c c':List D}(h1:a.mapM (q19 h n)=some a')(h2:c.mapM (q19 h n)=some c'):q19 h (n+1) (.fn f a c)=some (.fn f a' c'):=by
 simp only[q19,h1,h2]
theorem qB0 {d:D}{k:D→Prop}(hw:ws0 h d k):∃d',q19 h 9 d=some d'∧k d':=by
 cases d with
 |ref id off len=>
  simp only[ws0]at hw
  split at hw
  ·rename_i es esz hb
   unfold qCx at hw
   obtain⟨l,h1,h2,h3⟩:=hw
   exact⟨.lst l,qFb 8 hb h1 h2,h3⟩
  exact hw.elim
 |mref id=>
  simp only[ws0]at hw
  split at hw
  ·rename_i ks vs hb
   unfold qwK at hw
   obtain⟨l,h1,h2⟩:=hw
   exact⟨.mlst ks l,qCA 8 hb h1,h2⟩
  exact hw.elim
 |fn f a c=>
  simp only[ws0]at hw
  split at hw
  ·exact⟨.fn f [] [],qAZ 8 rfl rfl,hw⟩
  exact hw.elim
 |agg l=>exact hw.elim
 |tup l=>exact hw.elim
 |ptr a b c=>exact hw.elim
 |bad=>exact hw.elim
 |_=>exact⟨_,rfl,hw⟩
theorem qoY:∀{l:List D} {k:List D→Prop},qtR h l k→∃l',l.mapM (q19 h 9)=some l'∧k l':=by
 intro l
 induction l with
 |nil=>intro k hw;exact⟨[],rfl,hw⟩
 |cons x l ih=>
  intro k hw
  obtain⟨x',h1,h2⟩:=qB0 hw
  obtain⟨l',h3,h4⟩:=ih h2
  exact⟨x'::l',by simp[List.mapM_cons,h1,h3],h4⟩
theorem qB1 {d:D}{k:D→Prop}(hw:ws1 h d k):∃d',q19 h 10 d=some d'∧k d':=by
 unfold ws1 at hw
 split at hw
 ·obtain⟨l',h1,h2⟩:=qoY hw;exact⟨.agg l',qFc 9 h1,h2⟩
 ·obtain⟨a',h1,h2⟩:=qoY hw
  obtain⟨c',h3,h4⟩:=qoY h2
  exact⟨.fn _ a' c',qAZ 9 h1 h3,h4⟩
 obtain⟨d',h1,h2⟩:=qB0 hw;exact⟨d',qaB (by omega) h1,h2⟩
theorem qwS:∀{l:List D} {k:List D→Prop},qcv h l k→∃l',l.mapM (q19 h 10)=some l'∧k l':=by
 intro l
 induction l with
 |nil=>intro k hw;exact⟨[],rfl,hw⟩
 |cons x l ih=>
  intro k hw
  obtain⟨x',h1,h2⟩:=qB1 hw
  obtain⟨l',h3,h4⟩:=ih h2
  exact⟨x'::l',by simp[List.mapM_cons,h1,h3],h4⟩
theorem qB2 {d:D}{k:D→Prop}(hw:ws2 h d k):∃d',q19 h depth d=some d'∧k d':=by
 unfold ws2 at hw
 split at hw
 ·obtain⟨l',h1,h2⟩:=qwS hw
  exact⟨.tup l',qaB (by simp[depth]) (qFd 10 h1),h2⟩
 obtain⟨d',h1,h2⟩:=qB1 hw;exact⟨d',qaB (by simp[depth]) h1,h2⟩
end
section
variable {P:Program}{shared:FuncId→Bool}{pl:FuncId→Plan}{T:Tab}
abbrev EM (P:Program)(shared:FuncId→Bool)(pl:FuncId→Plan)(M:Nat):Env:=env P shared pl M
theorem qsj (M:Nat):(EM P shared pl M).shared=shared:=by cases M<;>rfl
def qzt (P:Program)(shared:FuncId→Bool)(pl:FuncId→Plan)(sh:Shr):Prop:=∀f args h z nx (k:D→q0d→Frz→Nat→Prop),sh f args h z nx k→∃v h' z' nx',k v h' z' nx'∧Evt fun M=>(EM P shared pl M).shar f args h z nx=some (v,h',z',nx')
structure TOK (P:Program)(shared:FuncId→Bool)(pl:FuncId→Plan)(T:Tab):Prop where
 sh:T.shared=shared
 pu:∀f args r,T.pu f args=some r→Evt fun M=>(EM P shared pl M).pure f args=some r
 tab:∀f fn,T.tab f=some fn→∃F c,P.funcs[f]?=some F∧F.body=some c∧cfn P (pl f) F=some fn
variable {sh:Shr}{t:q0x}{gh h:q0d}{gz z:Frz}{nx id:Nat}{c:D→q0d→Frz→Nat→Prop}{vt:List Nat}
theorem qzu (hT:TOK P shared pl T){f:FuncId}{args:List D}(hs:shared f=false)(hk:q5U T sh gh h z nx f args c):
 ∃r,(Evt fun M=>q50 (EM P shared pl M).pure gh f args=some r)∧c r.v (q0y h r.hp) (q0y z r.fz) nx:=by
 unfold q5U at hk
 rw[hT.sh,hs]at hk
 simp only at hk
 obtain⟨bs,h1,h2⟩:=qwS hk
 unfold qaA at h2
 obtain⟨r,h3,h4⟩:=h2
 rw[q6c]at h4
 have hsn:args.mapM (q19 gh depth)=some bs:=mapM_mono (fun x _ y hy=>qaB (by simp[depth]) hy) h1
 have hev:=hT.pu f bs r h3
 cases hn:noRef 4 r with
 |true=>
  rw[hn]at h4
  exact⟨out r,hev.mono fun M hM=>by simp only[q50,hsn,hM,hn],h4⟩
 |false=>
  rw[hn]at h4
  refine⟨⟨r,[],(args.flatMap (q0O gh depth)).map fun id=>(id,q0s gh id)⟩,hev.mono fun M hM=>by simp only[q50,hsn,hM,hn],?_⟩
  simp only at h4
  cases hf:args.flatMap (q0O gh depth)with
  |nil=>rw[hf]at h4;exact h4
  |cons i l=>rw[hf]at h4;exact h4
theorem qtV (hT:TOK P shared pl T)(hsh:qzt P shared pl sh){f:FuncId}{args:List D}(hs:shared f=true)(hk:q5U T sh gh h z nx f args c):
 ∃v h' z' nx',c v h' z' nx'∧Evt fun M=>(EM P shared pl M).shar f args h z nx=some (v,h',z',nx'):=by
 unfold q5U at hk
 rw[hT.sh,hs]at hk
 exact hsh f args h z nx c hk
def Does (P:Program)(E:Env)(o:Oper)(t:q0x)(gh:q0d)(gz:Frz)(h:q0d)(z:Frz)(nx id:Nat):Option (D×q0d×Frz×Nat):=
 match q0Y E o t with
 |some (f,args)=>E.shar f args h z nx
 |none=>
  match step P E.pure o t gh gz id with
  |some r=>some (r.v,q0y h r.hp,q0y z r.fz,nx)
  |none=>none
theorem qFe (hT:TOK P shared pl T)(hsh:qzt P shared pl sh){o:Oper}{k:KOp}(hc:cop P vt o.op=some k)(hk:kop T sh k t gh gz h z nx id c):
 ∃v h' z' nx',c v h' z' nx'∧Evt fun M=>Does P (EM P shared pl M) o t gh gz h z nx id=some (v,h',z',nx'):=by
 by_cases hcall:∃cl f,o.op=.call cl∧cl.callee=.value f
 ·obtain⟨cl,f,hop,hcal⟩:=hcall
  simp only[hop,cop,copQ]at hc
  obtain⟨fid,a,e,args',hfn,hargs,hk2,hdir⟩:∃fid a e args',ev t f=.fn fid a e∧a++cl.args.toList.map (ev t)++e=args'∧q5U T sh gh h z nx fid args' c∧(shared fid=true→f=.func fid∧args'=cl.args.toList.map (ev t)):=by
   cases f with
   |func g=>
    simp only[qhG,hcal]at hc
    cases hl:cxs cl.args.toList with
    |none=>simp[hl]at hc
    |some l=>
     simp[hl]at hc;subst hc
     simp only[kop]at hk
     exact⟨g,[],[],_,rfl,by rw[qgo hl];simp,hk,fun _=>⟨rfl,by rw[qgo hl]⟩⟩
   |tmp x=>
    simp only[qhG,hcal]at hc
    split at hc
    ·rename_i f' l hf hl
     cases hc
     simp only[kop]at hk
     rw[q29 hf]
     split at hk
     ·rename_i g a e hg
      split at hk
      ·rename_i hsg
       exact⟨g,a,e,_,hg,by rw[qgo hl],hk,fun h=>by rw[←hT.sh,hsg]at h;cases h⟩
      exact hk.elim
     exact hk.elim
    cases hc
   |const v=>
    simp only[qhG,hcal]at hc
    split at hc
    ·rename_i f' l hf hl
     cases hc
     simp only[kop]at hk
     rw[q29 hf]
     split at hk
     ·rename_i g a e hg
      split at hk
      ·rename_i hsg
       exact⟨g,a,e,_,hg,by rw[qgo hl],hk,fun h=>by rw[←hT.sh,hsg]at h;cases h⟩
      exact hk.elim
     exact hk.elim
    cases hc
   |global v=>simp[qhG,hcal,cx]at hc
  cases hs:shared fid with
  |true=>
   obtain⟨v,h',z',nx',h1,h2⟩:=qtV hT hsh hs hk2
   refine⟨v,h',z',nx',h1,h2.mono fun M hM=>?_⟩
   obtain⟨rfl,rfl⟩:=hdir hs
   have:q0Y (EM P shared pl M) o t=some (fid,cl.args.toList.map (ev t)):=by
    simp only[q0Y,hop,hcal,qsj,hs,if_true]
   simp only[Does,this];exact hM
  |false=>
   obtain⟨r,h1,h2⟩:=qzu hT hs hk2
   refine⟨r.v,q0y h r.hp,q0y z r.fz,nx,h2,h1.mono fun M hM=>?_⟩
   have:q0Y (EM P shared pl M) o t=none:=by
    cases f with
    |func g=>
     have e1:g=fid:=by simp[ev]at hfn;exact hfn.1
     subst e1
     simp only[q0Y,hop,hcal,qsj,hs,Bool.false_eq_true,if_false]
    |tmp x=>simp only[q0Y,hop,hcal]
    |const v=>simp only[q0Y,hop,hcal]
    |global v=>simp only[q0Y,hop,hcal]
   have hst:step P (EM P shared pl M).pure o t gh gz id=some r:=by
    simp only[step,hop,hcal,hfn,hargs];exact hM
   simp only[Does,this,hst]
 obtain⟨r,h1,h2⟩:=qFa hc (fun cl f h1 h2=>hcall ⟨cl,f,h1,h2⟩) hk
 refine⟨r.v,q0y h r.hp,q0y z r.fz,nx,h2,Evt.all fun M=>?_⟩
 have:q0Y (EM P shared pl M) o t=none:=by
  unfold q0Y
  split
  ·rename_i cl hop
   split
   ·rename_i f hcal;exact absurd ⟨cl,.func f,hop,hcal⟩ hcall
   rfl
  rfl
 simp only[Does,this,h1]
theorem gd_h {P:Program}{draw:Bool}{sp:Sp}{ops:Array Oper}{i:Nat}{o:Oper}{base:Nat}(hr:draw=false∨(q64 o.op||qcs o.op)=true):(cgd (cqS P).b draw sp ops i o).h base h=q1N draw sp ops base i o h∧(cgd (cqS P).b draw sp ops i o).z base z=q5S draw sp ops base i o z:=by
 cases draw with
 |false=>simp[cgd,Gd.h,Gd.z,q1N,q5S]
 |true=>
  have hr':(q64 o.op||qcs o.op)=true:=by simpa using hr
  simp only[cgd,hr',q1N,q5S,q4v]
  cases sp.lookup i with
  |some x=>cases x<;>exact⟨rfl,rfl⟩
  |none=>cases q76 ops i o<;>exact⟨rfl,rfl⟩
theorem qwT {E:Env}{o:Oper}{gh':q0d}{gz':Frz}(hr:q64 o.op=false):Does P E o t gh gz h z nx id=Does P E o t gh' gz' h z nx id:=by
 unfold Does
 rw[qdz hr]
theorem qzv (hT:TOK P shared pl T)(hsh:qzt P shared pl sh){draw:Bool}{sp:Sp}{ops:Array Oper}{i base:Nat}{o:Oper}{ko:KOper}{rest:List KOper}{q:q0x→q0d→Frz→Nat→Prop}(hc:coper P vt draw sp ops i o=some ko)
 (hw:wpo T sh base (ko::rest) t h z nx q):∃s':St,(Evt fun M=>one P (EM P shared pl M) draw sp ops o i base ⟨t,h,z,nx⟩=some s')∧wpo T sh base rest s'.tmps s'.heap s'.frz s'.next q:=by
 have run:∀{k:KOp},(cop P vt o.op).getD .stuck=k→wanted t ops o=some true→kop T sh k t ((cgd (cqS P).b draw sp ops i o).h base h) ((cgd (cqS P).b draw sp ops i o).z base z) h z nx (base+i) (fun v h z nx=>wpo T sh base rest (put t o.dst v) h z nx q)→
  ∃s':St,(Evt fun M=>one P (EM P shared pl M) draw sp ops o i base ⟨t,h,z,nx⟩=some s')∧wpo T sh base rest s'.tmps s'.heap s'.frz s'.next q:=by
  intro k hk0 hwt hk
  cases hcop:cop P vt o.op with
  |none=>rw[hcop]at hk0;simp at hk0;subst hk0;exact hk.elim
  |some k'=>
   rw[hcop]at hk0
   simp at hk0
   subst hk0
   obtain⟨v,h',z',nx',h1,h2⟩:=qFe hT hsh hcop hk
   refine⟨⟨put t o.dst v,h',z',nx'⟩,h2.mono fun M hM=>?_,h1⟩
   have hM':Does P (EM P shared pl M) o t (q1N draw sp ops base i o h) (q5S draw sp ops base i o z) h z nx (base+i)=some (v,h',z',nx'):=by
    by_cases hr:draw=false∨(q64 o.op||qcs o.op)=true
    ·obtain⟨e1,e2⟩:=gd_h (P:=P) (h:=h) (z:=z) (base:=base) (ops:=ops) (i:=i) hr
     rw[e1,e2]at hM;exact hM
    have hrd:q64 o.op=false:=by
     cases hb:q64 o.op with
     |false=>rfl
     |true=>exact absurd (.inr (by simp[hb])) hr
    rw[qwT hrd];exact hM
   unfold one
   simp only[hwt]
   unfold Does at hM'
   split at hM'
   ·rename_i f args hsc
    simp only[hsc,hM']
   rename_i hsc
   simp only[hsc]
   split at hM'
   ·rename_i r hst
    simp only[Option.some.injEq,Prod.mk.injEq]at hM'
    obtain⟨rfl,rfl,rfl,rfl⟩:=hM'
    simp only[hst]
   cases hM'
 unfold coper qyF at hc
 simp only at hc
 split at hc
 ·rename_i hg
  cases hc
  simp only[wpo]at hw
  exact run rfl (by simp[wanted,hg]) hw
 rename_i j want hg
 split at hc
 ·rename_i d hd
  cases hc
  simp only[wpo]at hw
  have skip:wanted t ops o=some false→wpo T sh base rest (put t o.dst (.tup [])) h z nx q→∃s':St,(Evt fun M=>one P (EM P shared pl M) draw sp ops o i base ⟨t,h,z,nx⟩=some s')∧wpo T sh base rest s'.tmps s'.heap s'.frz s'.next q:=by
   intro hwt hk
   exact⟨⟨put t o.dst (.tup []),h,z,nx⟩,Evt.all fun M=>by unfold one;simp only[hwt],hk⟩
  split at hw
  ·rename_i b hb
   cases want with
   |true=>
    cases b with
    |true=>exact run rfl (by simp[wanted,hg,hd,hb]) hw
    |false=>exact skip (by simp[wanted,hg,hd,hb]) hw
   |false=>
    cases b with
    |true=>exact skip (by simp[wanted,hg,hd,hb]) hw
    |false=>exact run rfl (by simp[wanted,hg,hd,hb]) hw
  ·rename_i l hl
   exact skip (by simp[wanted,hg,hd,hl]) hw
  exact hw.elim
 cases hc
theorem qtW (hT:TOK P shared pl T)(hsh:qzt P shared pl sh){draw:Bool}{sp:Sp}{ops:Array Oper}{base:Nat}{q:q0x→q0d→Frz→Nat→Prop}:∀{l:List Oper} {i:Nat} {kl:List KOper} {t:q0x} {h:q0d} {z:Frz} {nx:Nat},qtc P vt draw sp ops l i=some kl→
 wpo T sh base kl t h z nx q→∃s':St,(Evt fun M=>q8j P (EM P shared pl M) draw sp ops base l i ⟨t,h,z,nx⟩=some s')∧q s'.tmps s'.heap s'.frz s'.next:=by
 intro l
 induction l with
 |nil=>intro i kl t h z nx hc hw;simp only[qtc,qhH,Option.some.injEq]at hc;subst hc;exact⟨⟨t,h,z,nx⟩,Evt.all fun M=>rfl,hw⟩
 |cons o l ih=>
  intro i kl t h z nx hc hw
  simp only[qtc,qhH]at hc
  split at hc
  ·rename_i k kl' h1 h2
   cases hc
   obtain⟨s1,e1,w1⟩:=qzv hT hsh h1 hw
   obtain⟨s2,e2,w2⟩:=ih h2 w1
   exact⟨s2,(e1.and e2).mono fun M hM=>by simp only[q8j,hM.1];exact hM.2,w2⟩
  cases hc
end
end Go.F
