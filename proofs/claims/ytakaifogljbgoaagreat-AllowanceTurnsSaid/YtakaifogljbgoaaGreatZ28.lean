/- Parts of the proof, part 28: KSound3. -/
import Derived.Test.YtakaifogljbgoaaGreatZ27
import Derived.Test.YtakaifogljbgoaaGreatZ20
set_option linter.all false
namespace Go.F
theorem mapM_mono {α β:Type}{f g:α→Option β}:∀{l:List α} {l':List β},(∀x∈l,∀y,f x=some y→g x=some y)→l.mapM f=some l'→l.mapM g=some l':=by
 intro l
 induction l with
 |nil=>intro l' _ h;simpa using h
 |cons x l ih=>
  intro l' hfg h
  simp only[List.mapM_cons]at h⊢
  cases hx:f x with
  |none=>simp[hx]at h
  |some y=>
   cases hl:l.mapM f with
   |none=>simp[hx,hl]at h
   |some ys=>
    simp[hx,hl]at h
    subst h
    simp[hfg x (List.mem_cons_self ..) y hx,ih (fun x hx=>hfg x (List.mem_cons_of_mem _ hx)) hl]
theorem qbw {h:q0e}:∀{n m:Nat} {d d':D},n≤m→q1b h n d=some d'→q1b h m d=some d':=by
 intro n
 induction n with
 |zero=>intro m d d' _ hs;simp[q1b]at hs
 |succ n ih=>
  intro m d d' hm hs
  obtain⟨m,rfl⟩:∃k,m=k+1:=⟨m-1,by omega⟩
  have up:∀{l l':List D},l.mapM (q1b h n)=some l'→l.mapM (q1b h m)=some l':=fun hl=>mapM_mono (fun x _ y hy=>ih (by omega) hy) hl
  cases d with
  |ref id off len=>
   simp only[q1b]at hs⊢
   split at hs
   ·rename_i es esz hb
    split at hs
    ·rename_i hle
     cases hl:((es.drop off).take len).mapM (q1b h n)with
     |none=>simp[hl]at hs
     |some l=>simp[hl]at hs;subst hs;simp[hle,up hl]
    cases hs
   cases hs
  |agg l=>
   simp only[q1b]at hs⊢
   cases hl:l.mapM (q1b h n)with
   |none=>simp[hl]at hs
   |some l'=>simp[hl]at hs;subst hs;simp[up hl]
  |tup l=>
   simp only[q1b]at hs⊢
   cases hl:l.mapM (q1b h n)with
   |none=>simp[hl]at hs
   |some l'=>simp[hl]at hs;subst hs;simp[up hl]
  |fn f a c=>
   simp only[q1b]at hs⊢
   split at hs
   ·rename_i a' c' ha hc;cases hs;simp[up ha,up hc]
   cases hs
  |mref id=>
   simp only[q1b]at hs⊢
   split at hs
   ·rename_i ks vs hb
    cases hl:vs.mapM (q1b h n)with
    |none=>simp[hl]at hs
    |some l=>simp[hl]at hs;subst hs;simp[up hl]
   cases hs
  |_=>first|(simp only[q1b,reduceCtorEq]at hs;done) |(simp only[q1b]at hs⊢;exact hs)
section
variable {h:q0e}
theorem qGP (n:Nat){id off len esz:Nat}{es l:List D}(hb:h id=some (.row es esz))(h1:off+len≤es.length)(h2:((es.drop off).take len).mapM (q1b h n)=some l):q1b h (n+1) (.ref id off len)=some (.lst l):=by
 simp only[q1b,hb];rw[if_pos h1,h2];rfl
theorem qEb (n:Nat){id:Nat}{ks:List ByteArray}{vs l:List D}(hb:h id=some (.mp ks vs))(h2:vs.mapM (q1b h n)=some l):q1b h (n+1) (.mref id)=some (.mlst ks l):=by
 simp only[q1b,hb];rw[h2];rfl
theorem qGQ (n:Nat){l l':List D}(h2:l.mapM (q1b h n)=some l'):q1b h (n+1) (.agg l)=some (.agg l'):=by
 simp only[q1b];rw[h2];rfl
theorem qGR (n:Nat){l l':List D}(h2:l.mapM (q1b h n)=some l'):q1b h (n+1) (.tup l)=some (.tup l'):=by
 simp only[q1b];rw[h2];rfl
theorem qCv (n:Nat){f:FuncId}{a a' c c':List D}(h1:a.mapM (q1b h n)=some a')(h2:c.mapM (q1b h n)=some c'):q1b h (n+1) (.fn f a c)=some (.fn f a' c'):=by
 simp only[q1b,h1,h2]
theorem qCw {d:D}{k:D→Prop}(hw:ws0 h d k):∃d',q1b h 9 d=some d'∧k d':=by
 cases d with
 |ref id off len=>
  simp only[ws0]at hw
  split at hw
  ·rename_i es esz hb
   unfold qE8 at hw
   obtain⟨l,h1,h2,h3⟩:=hw
   exact⟨.lst l,qGP 8 hb h1 h2,h3⟩
  exact hw.elim
 |mref id=>
  simp only[ws0]at hw
  split at hw
  ·rename_i ks vs hb
   unfold qyc at hw
   obtain⟨l,h1,h2⟩:=hw
   exact⟨.mlst ks l,qEb 8 hb h1,h2⟩
  exact hw.elim
 |fn f a c=>
  simp only[ws0]at hw
  split at hw
  ·exact⟨.fn f [] [],qCv 8 rfl rfl,hw⟩
  exact hw.elim
 |agg l=>exact hw.elim
 |tup l=>exact hw.elim
 |ptr a b c=>exact hw.elim
 |bad=>exact hw.elim
 |_=>exact⟨_,rfl,hw⟩
theorem qqk:∀{l:List D} {k:List D→Prop},qvu h l k→∃l',l.mapM (q1b h 9)=some l'∧k l':=by
 intro l
 induction l with
 |nil=>intro k hw;exact⟨[],rfl,hw⟩
 |cons x l ih=>
  intro k hw
  obtain⟨x',h1,h2⟩:=qCw hw
  obtain⟨l',h3,h4⟩:=ih h2
  exact⟨x'::l',by simp[List.mapM_cons,h1,h3],h4⟩
theorem qCx {d:D}{k:D→Prop}(hw:ws1 h d k):∃d',q1b h 10 d=some d'∧k d':=by
 unfold ws1 at hw
 split at hw
 ·obtain⟨l',h1,h2⟩:=qqk hw;exact⟨.agg l',qGQ 9 h1,h2⟩
 ·obtain⟨a',h1,h2⟩:=qqk hw
  obtain⟨c',h3,h4⟩:=qqk h2
  exact⟨.fn _ a' c',qCv 9 h1 h3,h4⟩
 obtain⟨d',h1,h2⟩:=qCw hw;exact⟨d',qbw (by omega) h1,h2⟩
theorem qyk:∀{l:List D} {k:List D→Prop},qdq h l k→∃l',l.mapM (q1b h 10)=some l'∧k l':=by
 intro l
 induction l with
 |nil=>intro k hw;exact⟨[],rfl,hw⟩
 |cons x l ih=>
  intro k hw
  obtain⟨x',h1,h2⟩:=qCx hw
  obtain⟨l',h3,h4⟩:=ih h2
  exact⟨x'::l',by simp[List.mapM_cons,h1,h3],h4⟩
theorem qCy {d:D}{k:D→Prop}(hw:ws2 h d k):∃d',q1b h depth d=some d'∧k d':=by
 unfold ws2 at hw
 split at hw
 ·obtain⟨l',h1,h2⟩:=qyk hw
  exact⟨.tup l',qbw (by simp[depth]) (qGR 10 h1),h2⟩
 obtain⟨d',h1,h2⟩:=qCx hw;exact⟨d',qbw (by simp[depth]) h1,h2⟩
end
section
variable {P:Program}{shared:FuncId→Bool}{pl:FuncId→Plan}{T:Tab}
abbrev EM (P:Program)(shared:FuncId→Bool)(pl:FuncId→Plan)(M:Nat):Env:=env P shared pl M
theorem qtO (M:Nat):(EM P shared pl M).shared=shared:=by cases M<;>rfl
def qB2 (P:Program)(shared:FuncId→Bool)(pl:FuncId→Plan)(sh:Shr):Prop:=∀f args h z nx (k:D→q0e→Frz→Nat→Prop),sh f args h z nx k→∃v h' z' nx',k v h' z' nx'∧Evt fun M=>(EM P shared pl M).shar f args h z nx=some (v,h',z',nx')
structure TOK (P:Program)(shared:FuncId→Bool)(pl:FuncId→Plan)(T:Tab):Prop where
 sh:T.shared=shared
 pu:∀f args r,T.pu f args=some r→Evt fun M=>(EM P shared pl M).pure f args=some r
 tab:∀f fn,T.tab f=some fn→∃F c,P.funcs[f]?=some F∧F.body=some c∧cfn P (pl f) F=some fn
variable {sh:Shr}{t:q0z}{gh h:q0e}{gz z:Frz}{nx id:Nat}{c:D→q0e→Frz→Nat→Prop}{vt:List Nat}
theorem qB3 (hT:TOK P shared pl T){f:FuncId}{args:List D}(hs:shared f=false)(hk:q6r T sh gh h z nx f args c):
 ∃r,(Evt fun M=>q5t (EM P shared pl M).pure gh f args=some r)∧c r.v (q0A h r.hp) (q0A z r.fz) nx:=by
 unfold q6r at hk
 rw[hT.sh,hs]at hk
 simp only at hk
 obtain⟨bs,h1,h2⟩:=qyk hk
 unfold qbv at h2
 obtain⟨r,h3,h4⟩:=h2
 rw[q6L]at h4
 have hsn:args.mapM (q1b gh depth)=some bs:=mapM_mono (fun x _ y hy=>qbw (by simp[depth]) hy) h1
 have hev:=hT.pu f bs r h3
 cases hn:noRef 4 r with
 |true=>
  rw[hn]at h4
  exact⟨out r,hev.mono fun M hM=>by simp only[q5t,hsn,hM,hn],h4⟩
 |false=>
  rw[hn]at h4
  refine⟨⟨r,[],(args.flatMap (q0T gh depth)).map fun id=>(id,q0t gh id)⟩,hev.mono fun M hM=>by simp only[q5t,hsn,hM,hn],?_⟩
  simp only at h4
  cases hf:args.flatMap (q0T gh depth)with
  |nil=>rw[hf]at h4;exact h4
  |cons i l=>rw[hf]at h4;exact h4
theorem qvy (hT:TOK P shared pl T)(hsh:qB2 P shared pl sh){f:FuncId}{args:List D}(hs:shared f=true)(hk:q6r T sh gh h z nx f args c):
 ∃v h' z' nx',c v h' z' nx'∧Evt fun M=>(EM P shared pl M).shar f args h z nx=some (v,h',z',nx'):=by
 unfold q6r at hk
 rw[hT.sh,hs]at hk
 exact hsh f args h z nx c hk
def Does (P:Program)(E:Env)(o:Oper)(t:q0z)(gh:q0e)(gz:Frz)(h:q0e)(z:Frz)(nx id:Nat):Option (D×q0e×Frz×Nat):=
 match q13 E o t with
 |some (f,args)=>E.shar f args h z nx
 |none=>
  match step P E.pure o t gh gz id with
  |some r=>some (r.v,q0A h r.hp,q0A z r.fz,nx)
  |none=>none
theorem qGS (hT:TOK P shared pl T)(hsh:qB2 P shared pl sh){o:Oper}{k:KOp}(hc:cop P vt o.op=some k)(hk:kop T sh k t gh gz h z nx id c):
 ∃v h' z' nx',c v h' z' nx'∧Evt fun M=>Does P (EM P shared pl M) o t gh gz h z nx id=some (v,h',z',nx'):=by
 by_cases hcall:∃cl f,o.op=.call cl∧cl.callee=.value f
 ·obtain⟨cl,f,hop,hcal⟩:=hcall
  simp only[hop,cop,copQ]at hc
  obtain⟨fid,a,e,args',hfn,hargs,hk2,hdir⟩:∃fid a e args',ev t f=.fn fid a e∧a++cl.args.toList.map (ev t)++e=args'∧q6r T sh gh h z nx fid args' c∧(shared fid=true→f=.func fid∧args'=cl.args.toList.map (ev t)):=by
   cases f with
   |func g=>
    simp only[qiK,hcal]at hc
    cases hl:cxs cl.args.toList with
    |none=>simp[hl]at hc
    |some l=>
     simp[hl]at hc;subst hc
     simp only[kop]at hk
     exact⟨g,[],[],_,rfl,by rw[qhv hl];simp,hk,fun _=>⟨rfl,by rw[qhv hl]⟩⟩
   |tmp x=>
    simp only[qiK,hcal]at hc
    split at hc
    ·rename_i f' l hf hl
     cases hc
     simp only[kop]at hk
     rw[q2m hf]
     split at hk
     ·rename_i g a e hg
      split at hk
      ·rename_i hsg
       exact⟨g,a,e,_,hg,by rw[qhv hl],hk,fun h=>by rw[←hT.sh,hsg]at h;cases h⟩
      exact hk.elim
     exact hk.elim
    cases hc
   |const v=>
    simp only[qiK,hcal]at hc
    split at hc
    ·rename_i f' l hf hl
     cases hc
     simp only[kop]at hk
     rw[q2m hf]
     split at hk
     ·rename_i g a e hg
      split at hk
      ·rename_i hsg
       exact⟨g,a,e,_,hg,by rw[qhv hl],hk,fun h=>by rw[←hT.sh,hsg]at h;cases h⟩
      exact hk.elim
     exact hk.elim
    cases hc
   |global v=>simp[qiK,hcal,cx]at hc
  cases hs:shared fid with
  |true=>
   obtain⟨v,h',z',nx',h1,h2⟩:=qvy hT hsh hs hk2
   refine⟨v,h',z',nx',h1,h2.mono fun M hM=>?_⟩
   obtain⟨rfl,rfl⟩:=hdir hs
   have:q13 (EM P shared pl M) o t=some (fid,cl.args.toList.map (ev t)):=by
    simp only[q13,hop,hcal,qtO,hs,if_true]
   simp only[Does,this];exact hM
  |false=>
   obtain⟨r,h1,h2⟩:=qB3 hT hs hk2
   refine⟨r.v,q0A h r.hp,q0A z r.fz,nx,h2,h1.mono fun M hM=>?_⟩
   have:q13 (EM P shared pl M) o t=none:=by
    cases f with
    |func g=>
     have e1:g=fid:=by simp[ev]at hfn;exact hfn.1
     subst e1
     simp only[q13,hop,hcal,qtO,hs,Bool.false_eq_true,if_false]
    |tmp x=>simp only[q13,hop,hcal]
    |const v=>simp only[q13,hop,hcal]
    |global v=>simp only[q13,hop,hcal]
   have hst:step P (EM P shared pl M).pure o t gh gz id=some r:=by
    simp only[step,hop,hcal,hfn,hargs];exact hM
   simp only[Does,this,hst]
 obtain⟨r,h1,h2⟩:=qGO hc (fun cl f h1 h2=>hcall ⟨cl,f,h1,h2⟩) hk
 refine⟨r.v,q0A h r.hp,q0A z r.fz,nx,h2,Evt.all fun M=>?_⟩
 have:q13 (EM P shared pl M) o t=none:=by
  unfold q13
  split
  ·rename_i cl hop
   split
   ·rename_i f hcal;exact absurd ⟨cl,.func f,hop,hcal⟩ hcall
   rfl
  rfl
 simp only[Does,this,h1]
theorem gd_h {P:Program}{draw:Bool}{sp:Sp}{ops:Array Oper}{i:Nat}{o:Oper}{base:Nat}(hr:draw=false∨(q6B o.op||qdn o.op)=true):(cgd (cqS P).b draw sp ops i o).h base h=q20 draw sp ops base i o h∧(cgd (cqS P).b draw sp ops i o).z base z=q6p draw sp ops base i o z:=by
 cases draw with
 |false=>simp[cgd,Gd.h,Gd.z,q20,q6p]
 |true=>
  have hr':(q6B o.op||qdn o.op)=true:=by simpa using hr
  simp only[cgd,hr',q20,q6p,q4U]
  cases sp.lookup i with
  |some x=>cases x<;>exact⟨rfl,rfl⟩
  |none=>cases q7R ops i o<;>exact⟨rfl,rfl⟩
theorem qyl {E:Env}{o:Oper}{gh':q0e}{gz':Frz}(hr:q6B o.op=false):Does P E o t gh gz h z nx id=Does P E o t gh' gz' h z nx id:=by
 unfold Does
 rw[qev hr]
theorem qB4 (hT:TOK P shared pl T)(hsh:qB2 P shared pl sh){draw:Bool}{sp:Sp}{ops:Array Oper}{i base:Nat}{o:Oper}{ko:KOper}{rest:List KOper}{q:q0z→q0e→Frz→Nat→Prop}(hc:coper P vt draw sp ops i o=some ko)
 (hw:wpo T sh base (ko::rest) t h z nx q):∃s':St,(Evt fun M=>one P (EM P shared pl M) draw sp ops o i base ⟨t,h,z,nx⟩=some s')∧wpo T sh base rest s'.tmps s'.heap s'.frz s'.next q:=by
 have run:∀{k:KOp},(cop P vt o.op).getD .stuck=k→wanted t ops o=some true→kop T sh k t ((cgd (cqS P).b draw sp ops i o).h base h) ((cgd (cqS P).b draw sp ops i o).z base z) h z nx (base+i) (fun v h z nx=>wpo T sh base rest (put t o.dst v) h z nx q)→
  ∃s':St,(Evt fun M=>one P (EM P shared pl M) draw sp ops o i base ⟨t,h,z,nx⟩=some s')∧wpo T sh base rest s'.tmps s'.heap s'.frz s'.next q:=by
  intro k hk0 hwt hk
  cases hcop:cop P vt o.op with
  |none=>rw[hcop]at hk0;simp at hk0;subst hk0;exact hk.elim
  |some k'=>
   rw[hcop]at hk0
   simp at hk0
   subst hk0
   obtain⟨v,h',z',nx',h1,h2⟩:=qGS hT hsh hcop hk
   refine⟨⟨put t o.dst v,h',z',nx'⟩,h2.mono fun M hM=>?_,h1⟩
   have hM':Does P (EM P shared pl M) o t (q20 draw sp ops base i o h) (q6p draw sp ops base i o z) h z nx (base+i)=some (v,h',z',nx'):=by
    by_cases hr:draw=false∨(q6B o.op||qdn o.op)=true
    ·obtain⟨e1,e2⟩:=gd_h (P:=P) (h:=h) (z:=z) (base:=base) (ops:=ops) (i:=i) hr
     rw[e1,e2]at hM;exact hM
    have hrd:q6B o.op=false:=by
     cases hb:q6B o.op with
     |false=>rfl
     |true=>exact absurd (.inr (by simp[hb])) hr
    rw[qyl hrd];exact hM
   unfold one
   simp only[hwt]
   unfold Does at hM'
   split at hM'
   ·rename_i f args hsc
    simp only[hsc,hM']
   rename_i hsc
   simp only[hsc]
   split at hM'
   ·rename_i r hst
    simp only[Option.some.injEq,Prod.mk.injEq]at hM'
    obtain⟨rfl,rfl,rfl,rfl⟩:=hM'
    simp only[hst]
   cases hM'
 unfold coper qA1 at hc
 simp only at hc
 split at hc
 ·rename_i hg
  cases hc
  simp only[wpo]at hw
  exact run rfl (by simp[wanted,hg]) hw
 rename_i j want hg
 split at hc
 ·rename_i d hd
  cases hc
  simp only[wpo]at hw
  have skip:wanted t ops o=some false→wpo T sh base rest (put t o.dst (.tup [])) h z nx q→∃s':St,(Evt fun M=>one P (EM P shared pl M) draw sp ops o i base ⟨t,h,z,nx⟩=some s')∧wpo T sh base rest s'.tmps s'.heap s'.frz s'.next q:=by
   intro hwt hk
   exact⟨⟨put t o.dst (.tup []),h,z,nx⟩,Evt.all fun M=>by unfold one;simp only[hwt],hk⟩
  split at hw
  ·rename_i b hb
   cases want with
   |true=>
    cases b with
    |true=>exact run rfl (by simp[wanted,hg,hd,hb]) hw
    |false=>exact skip (by simp[wanted,hg,hd,hb]) hw
   |false=>
    cases b with
    |true=>exact skip (by simp[wanted,hg,hd,hb]) hw
    |false=>exact run rfl (by simp[wanted,hg,hd,hb]) hw
  ·rename_i l hl
   exact skip (by simp[wanted,hg,hd,hl]) hw
  exact hw.elim
 cases hc
theorem qvz (hT:TOK P shared pl T)(hsh:qB2 P shared pl sh){draw:Bool}{sp:Sp}{ops:Array Oper}{base:Nat}{q:q0z→q0e→Frz→Nat→Prop}:∀{l:List Oper} {i:Nat} {kl:List KOper} {t:q0z} {h:q0e} {z:Frz} {nx:Nat},quI P vt draw sp ops l i=some kl→
 wpo T sh base kl t h z nx q→∃s':St,(Evt fun M=>q97 P (EM P shared pl M) draw sp ops base l i ⟨t,h,z,nx⟩=some s')∧q s'.tmps s'.heap s'.frz s'.next:=by
 intro l
 induction l with
 |nil=>intro i kl t h z nx hc hw;simp only[quI,qiL,Option.some.injEq]at hc;subst hc;exact⟨⟨t,h,z,nx⟩,Evt.all fun M=>rfl,hw⟩
 |cons o l ih=>
  intro i kl t h z nx hc hw
  simp only[quI,qiL]at hc
  split at hc
  ·rename_i k kl' h1 h2
   cases hc
   obtain⟨s1,e1,w1⟩:=qB4 hT hsh h1 hw
   obtain⟨s2,e2,w2⟩:=ih h2 w1
   exact⟨s2,(e1.and e2).mono fun M hM=>by simp only[q97,hM.1];exact hM.2,w2⟩
  cases hc
end
end Go.F
