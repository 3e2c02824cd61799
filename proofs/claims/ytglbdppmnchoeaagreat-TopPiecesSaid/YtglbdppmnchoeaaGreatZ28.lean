/- Part 28. -/
import Derived.Test.YtglbdppmnchoeaaGreatZ27
set_option linter.all false
namespace Go.F
theorem mapM_mono {α β:Type}{f g:α->Option β}:∀{l:List α} {a:List β},(∀x∈l,∀y,f x=some y->g x=some y)->l.mapM f=some a->l.mapM g=some a:=by
 intro l
 induction l with
 |nil=>simp
 |cons x l b=>
  cases c:f x with
  |none=>grind
  |some y=>
   cases d:l.mapM f with
   |none=>grind
   |some ys=>
    grind
theorem nN {h:ab}:∀{n m:Nat} {d p:D},n<=m->aG h n d=some p->aG h m d=some p:=by
 intro n
 induction n with
 |zero=>simp[aG]
 |succ n q=>
  intro m d p t b;obtain⟨m,rfl⟩:∃k,m=k+1:=⟨m-1,by omega⟩;have u:∀{l j:List D},l.mapM (aG h n)=some j->l.mapM (aG h m)=some j:=fun g=>mapM_mono (fun x _ y r=>q (by omega) r) g
  cases d with
  |ref id off len=>
   simp only[aG]at b⊢;split at b
   .rename_i es esz s;split at b
    .cases g:((es.drop off).take len).mapM (aG h n)with
     |none=>grind
     |some l=>grind
    grind
   omega
  |agg l=>
   simp only[aG]at b⊢
   cases g:l.mapM (aG h n)with
   |none=>grind
   |some j=>grind
  |tup l=>
   simp only[aG]at b⊢
   cases g:l.mapM (aG h n)with
   |none=>grind
   |some j=>grind
  |fn f a c=>
   grind[aG]
  |mref id=>
   simp only[aG]at b⊢;split at b
   .rename_i v vs s
    cases g:vs.mapM (aG h n)with
    |none=>grind
    |some l=>grind
   omega
  |ptr id i o=>
   cases o with
   |succ o=>trivial
   |zero=>
    simp only[aG]at b⊢;split at b
    .split at b
     .rename_i e w;split at b
      .cases g:aG h n e with
       |none=>grind
       |some l=>grind
      grind
     omega
    omega
  |_=>first|(simp only[aG,reduceCtorEq]at b;done) |(simp only[aG]at b⊢;exact b)
section
variable {h:ab}
theorem WN (n:Nat){id off len esz:Nat}{es l:List D}(a:h id=some (.row es esz))(h1:off+len<=es.length)(b:((es.drop off).take len).mapM (aG h n)=some l):aG h (n+1) (.ref id off len)=some (.lst l):=by
 simp_all[aG]
theorem Xv (n:Nat){id:Nat}{a:List D}{vs l:List D}(b:h id=some (.mp a vs))(c:vs.mapM (aG h n)=some l):aG h (n+1) (.mref id)=some (.mlst a l):=by
 grind[aG]
theorem Gx (n:Nat){l a:List D}(b:l.mapM (aG h n)=some a):aG h (n+1) (.agg l)=some (.agg a):=by
 grind[aG]
theorem T3 (n:Nat){l a:List D}(b:l.mapM (aG h n)=some a):aG h (n+1) (.tup l)=some (.tup a):=by
 grind[aG]
theorem J2 (n:Nat){f:FuncId}{a b c d:List D}(h1:a.mapM (aG h n)=some b)(e:c.mapM (aG h n)=some d):aG h (n+1) (.fn f a c)=some (.fn f b d):=by
 grind[aG]
theorem Kv {d:D}{k:D->Prop}(e:ws0 h d k):∃g,aG h 9 d=some g/\k g:=by
 cases d with
 |ref id off len=>
  grind[ws0,kM,WN]
 |mref id=>
  grind[ws0,EK,Xv]
 |fn f a c=>
  simp only[ws0]at e;grind[J2]
 |agg l=>trivial
 |tup l=>trivial
 |ptr a b c=>
  simp only[ws0]at e;unfold wptr at e;obtain⟨g,h1,i⟩:=e;exact⟨g,nN (by omega) h1,i⟩
 |bad=>trivial
 |_=>exact⟨_,rfl,e⟩
theorem F5:∀{l:List D} {k:List D->Prop},lE h l k->∃a,l.mapM (aG h 9)=some a/\k a:=by
 intro l
 induction l with
 |nil=>intro k b;exact⟨[],rfl,b⟩
 |cons x l c=>
  intro k b;obtain⟨e,h1,d⟩:=Kv b;obtain⟨a,h3,f⟩:=c d;grind
theorem No {d:D}{k:D->Prop}(b:ws1 h d k):∃a,aG h 10 d=some a/\k a:=by
 unfold ws1 at b;split at b
 grind[F5,Gx];grind[F5,J2]
 .obtain⟨a,h1,c⟩:=Kv b;exact⟨a,nN (by omega) h1,c⟩
theorem F1:∀{l:List D} {k:List D->Prop},iA h l k->∃a,l.mapM (aG h 10)=some a/\k a:=by
 intro l
 induction l with
 |nil=>intro k b;exact⟨[],rfl,b⟩
 |cons x l c=>
  intro k b;obtain⟨e,h1,d⟩:=No b;obtain⟨a,h3,f⟩:=c d;grind
theorem Lm {d:D}{k:D->Prop}(a:ws2 h d k):∃b,aG h depth d=some b/\k b:=by
 unfold ws2 at a;split at a
 .obtain⟨e,h1,c⟩:=F1 a;exact⟨.tup e,nN (by trivial) (T3 10 h1),c⟩
 obtain⟨b,h1,c⟩:=No a;exact⟨b,nN (by trivial) h1,c⟩
end
section
variable {P:Program}{G shared:FuncId->Bool}{pl:FuncId->Plan}{T:Tab}
abbrev EM (P:Program)(G shared:FuncId->Bool)(pl:FuncId->Plan)(M:Nat):Env:=⟨(env P G pl M).pure,(env P G pl M).shar,shared⟩
theorem MG (M:Nat):(EM P G shared pl M).shared=shared:=rfl
def n9 (P:Program)(G:FuncId->Bool)(pl:FuncId->Plan)(sh:Shr):Prop:=∀f args h z nx (k:D->ab->Frz->Nat->Prop),sh f args h z nx k->∃v h' z' a,k v h' z' a/\Evt fun M=>(env P G pl M).shar f args h z nx=some (v,h',z',a)
structure TOK (P:Program)(G shared:FuncId->Bool)(pl:FuncId->Plan)(T:Tab):Prop where
 sh:T.shared=shared
 pu:∀f args r,T.pu f args=some r->Evt fun M=>(env P G pl M).pure f args=some r
 tab:∀f fn,T.tab f=some fn->∃F c,P.funcs[f]?=some F/\F.body=some c/\cfn P (pl f) F=some fn
variable {sh:Shr}{t:ai}{gh h:ab}{gz z:Frz}{nx id:Nat}{c:D->ab->Frz->Nat->Prop}{vt:List Nat}
theorem Pc (e:TOK P G shared pl T){f:FuncId}{args:List D}(n:shared f=false)(d:eQ T sh gh h z nx f args c):
 ∃r,(Evt fun M=>ig (EM P G shared pl M).pure gh f args=some r)/\c r.v (aJ h r.hp) (aJ z r.fz) nx:=by
 unfold eQ at d;rw[e.sh,n]at d;obtain⟨g,h1,j⟩:=F1 d;unfold mf at j;obtain⟨r,h3,a⟩:=j;rw[iu]at a;have o:args.mapM (aG gh depth)=some g:=mapM_mono (fun x _ y p=>nN (by trivial) p) h1;have b:=e.pu f g r h3
 cases k:noRef 4 r with
 |true=>
  rw[k]at a;exact⟨out r,b.mono fun M q=>by grind[ig],a⟩
 |false=>
  rw[k]at a;refine⟨⟨r,[],(args.flatMap (aN gh depth)).map fun id=>(id,aV gh id)⟩,b.mono fun M q=>by grind[ig],?_⟩
  cases m:args.flatMap (aN gh depth)with
  |nil=>rw[m]at a;exact a
  |cons i l=>rw[m]at a;exact a
theorem P0 (e:TOK P G shared pl T)(b:n9 P G pl sh){f:FuncId}{args:List D}(g:shared f=true)(d:eQ T sh gh h z nx f args c):
 ∃v h' z' a,c v h' z' a/\Evt fun M=>(EM P G shared pl M).shar f args h z nx=some (v,h',z',a):=by
 unfold eQ at d;rw[e.sh,g]at d;exact b f args h z nx c d
def Does (P:Program)(E:Env)(a:Bool)(o:Oper)(t:ai)(gh:ab)(gz:Frz)(h:ab)(z:Frz)(nx id:Nat):Option (D×ab×Frz×Nat):=
 match de E a o t with
 |some (f,args)=>E.shar f args h z nx
 |none=>
  match step P E.pure o t gh gz id with
  |some r=>some (r.v,aJ h r.hp,aJ z r.fz,nx)
  |none=>none
theorem YD {P:Program}{vt:List Nat}{o:Op}{f:X}{l:List X}(a:cop P vt o=some (.callV f l)):∃cl f,o=.call cl/\cl.callee=.value f:=by
 cases o
 case call cl=>
  cases c:cl.callee with
  |value f=>grind
  |invoke _ _=>
   simp_all[np,lO]
  |builtin b=>
   simp[np,lO,c]at a
   repeat' split at a
   all_goals first|(simp at a;done) |skip
 case build ty parts=>
  simp[np,DP]at a
  repeat' split at a
  all_goals first|(simp at a;done) |skip
 all_goals
  simp only[cop,np]at a
  repeat' split at a
  all_goals first|(simp at a;done) |skip
theorem BB {a:Bool}{k:KOp}(h:∀f l,k≠ .callV f l):wide a k=k:=by
 simp_all[wide]
theorem R8 (C:TOK P G shared pl T)(D:n9 P G pl sh){d:Bool}{o:Oper}{k:KOp}(q:cop P vt o.op=some k)(n:kop T sh (wide d k) t gh gz h z nx id c):
 ∃v h' z' p,c v h' z' p/\Evt fun M=>Does P (EM P G shared pl M) d o t gh gz h z nx id=some (v,h',z',p):=by
 by_cases j:∃cl f,o.op=.call cl/\cl.callee=.value f
 .obtain⟨cl,f,s,m⟩:=j;simp[s,np]at q
  have K:∀{f':X} {l:List X},cx f=some f'->cxs cl.args.toList=some l->kop T sh (wide d (.callV f' l)) t gh gz h z nx id c->(∀g,f≠ .func g)->
   ∃i a e b,ev t f=.fn i a e/\a++cl.args.toList.map (ev t)++e=b/\eQ T sh gh h z nx i b c/\(shared i=true->d=false)/\(∀g,f=.func g->b=cl.args.toList.map (ev t)):=by
   intro f' l L A n E
   cases d with
   |false=>
    grind[wide,kop,bU,nX]
   |true=>
    simp only[wide,kop]at n;rw[bU L];split at n
    .rename_i g a e F;split at n
     .rename_i H;exact⟨g,a,e,_,F,by rw[nX A],n,fun h=>(by rw[<-C.sh,H]at h;grind),fun g F=>absurd F (E g)⟩
     grind
    grind
  obtain⟨i,a,e,b,w,I,y,N,J⟩:∃i a e b,ev t f=.fn i a e/\a++cl.args.toList.map (ev t)++e=b/\eQ T sh gh h z nx i b c/\(shared i=true->d=false\/f=.func i)/\(∀g,f=.func g->b=cl.args.toList.map (ev t)):=by
   cases f with
   |func g=>
    simp only[lO,m]at q
    cases A:cxs cl.args.toList with
    |none=>grind
    |some l=>
     simp[A]at q;subst q;rw[BB (by simp)]at n;exact⟨g,[],[],_,rfl,by grind[nX],n,fun _=> .inr rfl,fun _ _=>by rw[nX A]⟩
   |tmp x=>
    simp[lO]at q;simp_all;grind
   |const v=>
    simp[lO]at q;simp_all;grind
   |global v=>grind[lO,cx]
  cases B:shared i with
  |true=>
   obtain⟨v,h',z',p,h1,u⟩:=P0 C D B y;refine⟨v,h',z',p,h1,u.mono fun M O=>?_⟩
   have:de (EM P G shared pl M) d o t=some (i,b):=by
    cases f with
    |func g=>
     simp_all[ev,de]
    |tmp x=>
     simp_all[de]
    |const x=>
     simp_all[de]
    |global x=>
     trivial
   grind[Does]
  |false=>
   obtain⟨r,h1,u⟩:=Pc C B y;refine⟨r.v,aJ h r.hp,aJ z r.fz,nx,u,h1.mono fun M O=>?_⟩
   have:de (EM P G shared pl M) d o t=none:=by
    cases f with
    |func g=>
     simp_all[ev,de]
    |tmp x=>cases d<;>simp only[de,s,m,MG,w,B,xq,vE]
    |const x=>cases d<;>simp only[de,s,m,MG,w,B,xq,vE]
    |global x=>trivial
   simp_all[step,Does]
 have Q:wide d k=k:=by
  grind[BB,YD]
 rw[Q]at n;obtain⟨r,h1,u⟩:=Ri q (fun cl f h1 u=>j ⟨cl,f,h1,u⟩) n;refine⟨r.v,aJ h r.hp,aJ z r.fz,nx,u,Evt.all fun M=>?_⟩
 have:de (EM P G shared pl M) d o t=none:=by
  grind[de]
 grind[Does]
theorem gd_h {P:Program}{a:Bool}{c:Sp}{ops:Array Oper}{i:Nat}{o:Oper}{base:Nat}(hr:a=false\/(eG o.op||gM o.op)=true):(cgd (cqS P).b a c ops i o).h base h=cD a c ops base i o h/\(cgd (cqS P).b a c ops i o).z base z=ju a c ops base i o z:=by
 cases a with
 |false=>trivial
 |true=>
  have d:(eG o.op||gM o.op)=true:=by grind
  simp only[cgd,d,cD,ju,cO]
  cases c.lookup i with
  |some x=>cases x<;>exact⟨rfl,rfl⟩
  |none=>cases mg ops i o<;>exact⟨rfl,rfl⟩
theorem V6 {E:Env}{a:Bool}{o:Oper}{b:ab}{c:Frz}(hr:eG o.op=false):Does P E a o t gh gz h z nx id=Does P E a o t b c h z nx id:=by
 grind[Does,Fa]
theorem WT (u:TOK P G shared pl T)(p:n9 P G pl sh){a:Bool}{e:Sp}{ops:Array Oper}{i base:Nat}{o:Oper}{s:KOper}{rest:List KOper}{q:ai->ab->Frz->Nat->Prop}(g:coper P vt a e ops i o=some s)
 (f:wpo T sh base (s::rest) t h z nx q):∃s':St,(Evt fun M=>one P (EM P G shared pl M) a e ops o i base ⟨t,h,z,nx⟩=some s')/\wpo T sh base rest s'.tmps s'.heap s'.frz s'.next q:=by
 have run:∀{k:KOp},(cop P vt o.op).getD .stuck=k->wanted t ops o=some true->kop T sh (wide a k) t ((cgd (cqS P).b a e ops i o).h base h) ((cgd (cqS P).b a e ops i o).z base z) h z nx (base+i) (fun v h z nx=>wpo T sh base rest (put t o.dst v) h z nx q)->
  ∃s':St,(Evt fun M=>one P (EM P G shared pl M) a e ops o i base ⟨t,h,z,nx⟩=some s')/\wpo T sh base rest s'.tmps s'.heap s'.frz s'.next q:=by
  intro k d r n
  cases c:cop P vt o.op with
  |none=>rw[c]at d;subst d;rw[BB (by simp)]at n;trivial
  |some C=>
   rw[c]at d;subst d;obtain⟨v,h',z',l,h1,w⟩:=R8 u p c n;refine⟨⟨put t o.dst v,h',z',l⟩,w.mono fun M x=>?_,h1⟩
   have y:Does P (EM P G shared pl M) a o t (cD a e ops base i o h) (ju a e ops base i o z) h z nx (base+i)=some (v,h',z',l):=by
    by_cases hr:a=false\/(eG o.op||gM o.op)=true
    .obtain⟨A,B⟩:=gd_h (P:=P) (h:=h) (z:=z) (base:=base) (ops:=ops) (i:=i) hr;rw[A,B]at x;omega
    grind[V6]
   grind[one,Does]
 unfold coper B5 at g;split at g
 .cases g;grind[wpo,wanted]
 rename_i j m D;split at g
 .cases g;simp only[wpo]at f
  have skip:wanted t ops o=some false->wpo T sh base rest (put t o.dst (.tup [])) h z nx q->∃s':St,(Evt fun M=>one P (EM P G shared pl M) a e ops o i base ⟨t,h,z,nx⟩=some s')/\wpo T sh base rest s'.tmps s'.heap s'.frz s'.next q:=by
   intro r n;exact⟨⟨put t o.dst (.tup []),h,z,nx⟩,Evt.all fun M=>by grind[one],n⟩
  split at f
  .rename_i b E
   cases m with
   |true=>
    cases b with
    |true=>exact run rfl (by grind[wanted]) f
    |false=>exact skip (by grind[wanted]) f
   |false=>
    cases b with
    |true=>exact skip (by grind[wanted]) f
    |false=>exact run rfl (by grind[wanted]) f
  grind[wanted];grind
 grind
theorem Md (g:TOK P G shared pl T)(d:n9 P G pl sh){a:Bool}{f:Sp}{ops:Array Oper}{base:Nat}{q:ai->ab->Frz->Nat->Prop}:∀{l:List Oper} {i:Nat} {c:List KOper} {t:ai} {h:ab} {z:Frz} {nx:Nat},Nu P vt a f ops l i=some c->
 wpo T sh base c t h z nx q->∃s':St,(Evt fun M=>gG P (EM P G shared pl M) a f ops base l i ⟨t,h,z,nx⟩=some s')/\q s'.tmps s'.heap s'.frz s'.next:=by
 intro l
 induction l with
 |nil=>intro i c t h z nx b e;simp[ua]at b;subst b;exact⟨⟨t,h,z,nx⟩,Evt.all fun M=>rfl,e⟩
 |cons o l j=>
  intro i c t h z nx b e;simp[ua]at b;split at b
  .rename_i k m h1 n;cases b;obtain⟨w,p,r⟩:=WT g d h1 e;obtain⟨s,u,v⟩:=j n r;exact⟨s,(p.and u).mono fun M x=>by simp_all[gG],v⟩
  grind
end
end Go.F
