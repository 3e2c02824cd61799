/- Part 29. -/
import Derived.Test.YtglbdppmnchoeaaGreatZ28
set_option linter.all false
namespace Go.F
theorem PO:∀{live:Live} {t:ai} {h:ab} {z:Frz} {nx:Nat} {k:ai->ab->Frz->Nat->Prop},iP live t h z nx k->k (jk live ⟨t,h,z,nx⟩).tmps (jk live ⟨t,h,z,nx⟩).heap (jk live ⟨t,h,z,nx⟩).frz (jk live ⟨t,h,z,nx⟩).next:=by
 intro live
 induction live with
 |nil=>intro t h z nx k a;exact a
 |cons x live b=>
  intro t h z nx k a;simp only[iP]at a;simp only[jk,gn];grind
theorem Ry {nx0:Nat}{t:ai}{nx:Nat}:∀{live:Live} {h:ab} {z:Frz} {k:ab->Frz->Prop},eZ live t h z k->
 ∃h1 d,oU nx0 live ⟨t,h,z,nx⟩=some ⟨t,h1,d,nx⟩/\qw nx0 h1 t live=true/\k h1 d/\∀id,aI (h id)=true->aI (h1 id)=true:=by
 intro live
 induction live with
 |nil=>intro h z k a;exact⟨h,z,rfl,rfl,a,fun _ h=>h⟩
 |cons x live l=>
  intro h z k a;simp only[eZ]at a;simp only[oU,pU,qw]
  cases c:bi (t x.1)with
  |none=>
   grind[plainO]
  |some id=>
   rw[c]at a;simp at a⊢
   cases f:h id with
   |none=>
    grind[aI]
   |some b=>
    rw[f]at a
    cases b with
    |row es esz=>
     unfold oC at a;rcases a with⟨g,e⟩ |⟨i,rs,g,e,m,n,o⟩
     grind[aI]
     .have p:es.mapM (aG h depth)=some i:=mapM_mono (fun x _ y j=>nN (by trivial) j) e;grind[upd_same,aI,upd_ne]
    |mp q vs=>
     grind[dM,aI]
theorem Y1 {nx0:Nat}{ids:List (Option Nat)}{t:ai}:∀(live:Live),nV nx0 ids t live=mkT live (mD nx0 ids t live):=by
 intro live
 induction live with
 |nil=>rfl
 |cons x live a=>grind[nV,mD,iu,il,mkT]
def gP {α:Type}(nx0:Nat)(ids:List (Option Nat))(bot:α)(h:Nat->α):List (Option Nat)->Nat->List α
 |[],_=>[]
 |o::rest,j=>pS nx0 ids bot h o j::gP nx0 ids bot h rest (j+1)
theorem Sx {nx0:Nat}{ids:List (Option Nat)}{h:ab}:∀(l:List (Option Nat)) (j:Nat),nJ nx0 ids h l j=gP nx0 ids none h l j:=by
 intro l
 induction l with
 |nil=>intro j;rfl
 |cons o l a=>grind[nJ,gP,NC]
theorem Rx {nx0:Nat}{ids:List (Option Nat)}{z:Frz}:∀(l:List (Option Nat)) (j:Nat),oh nx0 ids z l j=gP nx0 ids 0 z l j:=by
 intro l
 induction l with
 |nil=>intro j;rfl
 |cons o l a=>grind[oh,gP]
theorem qi {α:Type}{nx0:Nat}{ids:List (Option Nat)}{a:Nat->α}{bot:α}{h:Nat->α}:∀(l:List (Option Nat)) (j:Nat),nx0<=j->bC nx0 ids a bot h l j=mkF nx0 a bot (gP nx0 ids bot h l j) j:=by
 intro l
 induction l with
 |nil=>intro j _;rfl
 |cons o l d=>
  intro j e
  have b:bC nx0 ids a bot h l (j+1) j=bot:=by
   rw[qE nx0 ids a bot h l (j+1) (by omega) j,if_neg (by omega),if_neg (by omega)]
  have c:upd (bC nx0 ids a bot h l (j+1)) j bot=bC nx0 ids a bot h l (j+1):=dY b;simp[gP,mkF]
  cases o with
  |none=>grind[bC,pS]
  |some x=>
   simp only[bC,pS];grind
theorem M0 {nx0:Nat}{live:Live}{t:ai}{h:ab}{z:Frz}{nx:Nat}{k:ab->Frz->Kept->Prop}(a:bz nx0 live t h z nx k):
 ∃h1 c kp,k h1 c kp/\settle nx0 live ⟨t,h,z,nx⟩=some ⟨mkT live kp.1,mkF nx0 (iX live nx0 h1) none kp.2.1 nx0,mkF nx0 c 0 kp.2.2 nx0,nx0+live.length⟩:=by
 unfold bz at a;unfold settle iX;generalize eV live=b at*
 cases b with
 |true=>omega
 |false=>
 have h1:=PO a;obtain⟨e,f,g,i,d,_⟩:=Ry (nx0:=nx0) (nx:=(jk live ⟨t,h,z,nx⟩).next) h1;rw[sW,tu]at d;refine⟨_,_,_,d,?_⟩;simp_all[keep,Y1,qi,Sx,Rx]
section
variable {P:Program}{G shared:FuncId->Bool}{pl:FuncId->Plan}{T:Tab}{sh:Shr}{nx0:Nat}
theorem TQ (Y:TOK P G shared pl T)(Q:n9 P G pl sh)(p:Plan):∀(O:Code) (k:K),DT P p O=some k->∀(t:ai) (h:ab) (z:Frz) (nx:Nat) (q:Ex->ai->ab->Frz->Nat->Prop),wp T sh nx0 k t h z nx q->
 ∃v s',q v s'.tmps s'.heap s'.frz s'.next/\Evt fun M=>aR P (EM P G shared pl M) p nx0 O ⟨t,h,z,nx⟩=some (v,s'):=by
 intro O
 induction O with
 |skip=>intro k j t h z nx q m;simp[ep]at j;subst j;exact⟨.normal,⟨t,h,z,nx⟩,m,Evt.all fun M=>rfl⟩
 |region r ops J=>
  intro k j t h z nx q m;simp[ep]at j
  cases B:Nu P p.vt J (p.sp r) ops ops.toList 0 with
  |none=>grind
  |some l=>
   simp[B]at j
   cases w:p.df with
   |true=>
    rw[w]at j;subst j;obtain⟨s',n,C⟩:=Md Y Q B m;refine⟨.normal,s',C,n.mono fun M u=>?_⟩;simp_all[zw,aR,sF]
   |false=>
    rw[w]at j;subst j;simp only[wp]at m;grind[Md,aR,sF]
 |seq a b E F=>
  intro k j t h z nx q m;simp[ep]at j;split at j
  .rename_i R S U V;cases j;obtain⟨ex1,s,o,n⟩:=E R U t h z nx _ m
   cases ex1 with
   |normal=>
    obtain⟨ex2,H,I,C⟩:=F S V _ _ _ _ _ o;exact⟨ex2,H,I,(n.and C).mono fun M u=>by simp_all[aR]⟩
   |exit i=>exact⟨.exit i,s,o,n.mono fun M u=>by grind[aR]⟩
   |ret=>exact⟨.ret,s,o,n.mono fun M u=>by grind[aR]⟩
  grind
 |cond c a b E F=>
  intro k j t h z nx q m;simp[ep]at j;split at j
  .rename_i x R S hx U V;cases j;simp only[wp]at m;split at m
   .rename_i d hd
    cases d with
    |true=>
     obtain⟨v,s,o,n⟩:=E R U t h z nx _ m;grind[aR,bU]
    |false=>
     obtain⟨v,s,o,n⟩:=F S V t h z nx _ m;grind[aR,bU]
   grind
  grind
 |block id c L=>
  intro k j t h z nx q m;simp[ep]at j
  cases B:DT P p c with
  |none=>grind
  |some D=>
   simp[B]at j;subst j;obtain⟨ex1,s,o,n⟩:=L D B t h z nx _ m
   cases ex1 with
   |normal=>exact⟨.normal,s,o,n.mono fun M u=>by grind[aR]⟩
   |ret=>exact⟨.ret,s,o,n.mono fun M u=>by grind[aR]⟩
   |exit i=>
    simp at o;split at o
    .exact⟨.normal,s,o,n.mono fun M u=>by simp_all[aR]⟩
    have hq:¬i=id:=fun e=>by simp_all
    exact⟨.exit i,s,o,n.mono fun M u=>by simp_all[aR]⟩
 |loop c L=>
  intro k j t h z nx q m;simp[ep]at j
  cases B:DT P p c with
  |none=>grind
  |some D=>
   simp[B]at j
   cases w:p.df with
   |true=>
    rw[w]at j;subst j;simp only[wp]at m;unfold D1 at m
    have key:∀(g:Nat) (t:ai) (h:ab) (z:Frz) (nx:Nat),BU (fun t h z nx q=>wp T sh nx0 D t h z nx q) g t h z nx q->
     ∃v s',q v s'.tmps s'.heap s'.frz s'.next/\Evt fun M=>eK (aR P (EM P G shared pl M) p nx0 c) g ⟨t,h,z,nx⟩=some (v,s'):=by
     intro g
     induction g with
     |zero=>intro t h z nx m;trivial
     |succ g A=>
      intro t h z nx m;obtain⟨ex1,s,o,n⟩:=L D B _ _ _ _ _ m
      cases ex1 with
      |normal=>
       obtain⟨ex2,H,I,C⟩:=A _ _ _ _ o;exact⟨ex2,H,I,(n.and C).mono fun M u=>by simp_all[eK]⟩
      |exit i=>exact⟨.exit i,s,o,n.mono fun M u=>by grind[eK]⟩
      |ret=>exact⟨.ret,s,o,n.mono fun M u=>by grind[eK]⟩
    grind[aR]
   |false=>
   rw[w]at j;simp at j;split at j
   .subst j;simp only[wp]at m;unfold tA at m
    have key:∀(g:Nat) (t:ai) (h:ab) (z:Frz) (nx:Nat),jZ nx0 (p.lv (dd c)) (fun t h z nx q=>wp T sh nx0 D t h z nx q) g t h z nx q->
     ∃v s',q v s'.tmps s'.heap s'.frz s'.next/\Evt fun M=>dO nx0 0 (p.lv (dd c)) (aR P (EM P G shared pl M) p nx0 c) g ⟨t,h,z,nx⟩=some (v,s'):=by
     intro g
     induction g with
     |zero=>intro t h z nx m;trivial
     |succ g A=>
      intro t h z nx m;obtain⟨h1,Z,kp,W,g2⟩:=M0 m;obtain⟨ex1,s,o,n⟩:=L D B _ _ _ _ _ W
      cases ex1 with
      |normal=>
       obtain⟨ex2,H,I,C⟩:=A _ _ _ _ o;exact⟨ex2,H,I,(n.and C).mono fun M u=>by simp_all[dO,jF]⟩
      |exit i=>exact⟨.exit i,s,o,n.mono fun M u=>by grind[dO,jF]⟩
      |ret=>exact⟨.ret,s,o,n.mono fun M u=>by grind[dO,jF]⟩
    grind[aR]
   rename_i X a1;subst j;simp only[wp]at m;unfold vW at m
   have key:∀(g:Nat) (t:ai) (h:ab) (z:Frz) (nx:Nat),lp (nx0+(X+1)) (p.lv (dd c)) (fun t h z nx q=>wp T sh nx0 D t h z nx q) g t h z nx q->
    ∃v s',q v s'.tmps s'.heap s'.frz s'.next/\Evt fun M=>dO nx0 (X+1) (p.lv (dd c)) (aR P (EM P G shared pl M) p nx0 c) g ⟨t,h,z,nx⟩=some (v,s'):=by
    intro g
    induction g with
    |zero=>intro t h z nx m;trivial
    |succ g A=>
     intro t h z nx m;simp only[lp]at m;split at m
     .rename_i N;obtain⟨h1,Z,kp,W,g2⟩:=M0 m;obtain⟨ex1,s,o,n⟩:=L D B _ _ _ _ _ W
      cases ex1 with
      |normal=>
       obtain⟨ex2,H,I,C⟩:=A _ _ _ _ o;exact⟨ex2,H,I,(n.and C).mono fun M u=>by simp[dO,jF,N];simp_all⟩
      |exit i=>exact⟨.exit i,s,o,n.mono fun M u=>by grind[dO,jF]⟩
      |ret=>exact⟨.ret,s,o,n.mono fun M u=>by grind[dO,jF]⟩
     grind
   grind[aR]
 |exit id=>intro k j t h z nx q m;simp[ep]at j;subst j;exact⟨.exit id,⟨t,h,z,nx⟩,m,Evt.all fun M=>rfl⟩
 |ret=>intro k j t h z nx q m;simp[ep]at j;subst j;exact⟨.ret,⟨t,h,z,nx⟩,m,Evt.all fun M=>rfl⟩
 |rangeFunc f ps x y _ _=>simp[ep]
 |scope x _=>simp[ep]
 |label l=>simp[ep]
 |goto l=>simp[ep]
 |refuse y=>simp[ep]
theorem Qi {t:ai}{h:ab}{z:Frz}{nx:Nat}{c:ResultVar}{r:KRes}{k:D->Prop}(b:oc P c=some r)(e:uR t h r k):∃d,kn P ⟨t,h,z,nx⟩ c=some d/\k d:=by
 cases c with
 |tmp i=>simp[oc]at b;subst b;simp only[uR,iu]at e;exact⟨t i,rfl,e⟩
 |cell a ty=>
  simp only[oc]at b;split at b
  .rename_i ag n h1 g;cases b;obtain⟨d,h3,f⟩:=FP h1 g e;rw[iu]at f;exact⟨d,h3,f⟩
  grind
theorem Uk {t:ai}{h:ab}{z:Frz}{nx:Nat}:∀{rs:List ResultVar} {b:List KRes} {k:List D->Prop},rs.mapM (oc P)=some b->tn t h b k->∃l,rs.mapM (kn P ⟨t,h,z,nx⟩)=some l/\k l:=by
 intro rs
 induction rs with
 |nil=>intro b k a c;simp at a;subst a;exact⟨[],rfl,c⟩
 |cons r rs f=>
  intro b k a c
  cases hr:oc P r with
  |none=>grind
  |some j=>
   cases e:rs.mapM (oc P)with
   |none=>grind
   |some g=>
    simp[hr,e]at a;subst a;obtain⟨d,h1,i⟩:=Qi (z:=z) (nx:=nx) hr c;obtain⟨l,h3,m⟩:=f e i;grind
theorem C4 (n:TOK P G shared pl T)(c:n9 P G pl sh){p:Plan}{F:Func}{e:Code}{fn:KFn}{args:List D}{h:ab}{z:Frz}{nx:Nat}{k:D->ab->Frz->Nat->Prop}(o:F.body=some e)(f:cfn P p F=some fn)
 (q:wp T sh nx fn.code (enter args) h z nx (bB fn k)):∃d h' z' b,k d h' z' b/\Evt fun M=>body P (EM P G shared pl M) p F e args h z nx=some (d,h',z',b):=by
 simp[jV,o]at f;split at f
 .rename_i r s h1 t;cases f;obtain⟨u,s',j,m⟩:=TQ n c p e r h1 _ _ _ _ _ q
  have a:te s'.tmps s'.heap s (fun d=>k d s'.heap s'.frz s'.next)->∃d,nq P F s'=some d/\k d s'.heap s'.frz s'.next:=by
   intro hr;obtain⟨l,h3,y⟩:=Uk (z:=s'.frz) (nx:=s'.next) t hr;unfold nq;have v:F.results.toList.mapM (kn P s')=some l:=h3;grind
  cases u with
  |exit i=>trivial
  |normal=>
   obtain⟨d,w,g⟩:=a j;exact⟨d,_,_,_,g,m.mono fun M x=>by grind[body]⟩
  |ret=>
   obtain⟨d,w,g⟩:=a j;exact⟨d,_,_,_,g,m.mono fun M x=>by grind[body]⟩
 grind
theorem Evt.up {p:Nat->Prop}(h:Evt p):Evt fun M=>∃a,M=a+1/\p a:=by
 obtain⟨N,b⟩:=h;exact⟨N+1,fun M c=>⟨M-1,by omega,b _ (by omega)⟩⟩
theorem TOK.at' (b:TOK P G G pl T)(hr:List Nat):TOK P G (iI G hr) pl (T.at hr):=by
 cases hr with
 |nil=>exact b
 |cons a l=>exact⟨by show iI T.shared (a::l)=_;rw[b.sh],b.pu,b.tab⟩
theorem J3 (e:TOK P G G pl T):∀n,n9 P G pl (shr T n):=by
 intro n
 induction n with
 |zero=>intro f args h z nx k a;trivial
 |succ n i=>
  intro f args h z nx k a;simp only[shr]at a;split at a
  .rename_i fn j;obtain⟨F,s,h1,l,h3⟩:=e.tab f fn j
   have b:fn.em=(pl f).em/\fn.gv=(pl f).gv/\fn.hr=(pl f).hr:=by
    simp[jV]at h3;grind
   rw[b.1,b.2.1,b.2.2]at a;split at a
   case h_2=>
    unfold tP at a;obtain⟨r,h',z',c,m,o⟩:=a;refine⟨r,h',z',c,o,(Dq e.pu m).up.mono fun M g=>?_⟩;grind[env]
   split at a
   .exact⟨_,_,_,_,a,1,fun M g=>by
     obtain⟨t,rfl⟩:∃k,M=k+1:=⟨M-1,by omega⟩
     grind[env]⟩
   obtain⟨d,h',z',c,p,q⟩:=C4 (e.at' (pl f).hr) i l h3 a;refine⟨d,h',z',c,p,q.up.mono fun M g=>?_⟩;grind[env]
  grind
theorem W3 (a:TOK P G G pl T){f:FuncId}{fn:KFn}{args:List D}{r:D}(e:T.tab f=some fn)(b:qv T fn args r)(m:fn.gv=[])(n:(fn.em&&fW args)=false):Evt fun M=>(env P G pl M).pure f args=some r:=by
 obtain⟨F,o,h1,g,h3⟩:=a.tab f fn e;unfold qv at b
 have c:fn.hr=(pl f).hr:=by
  simp[jV]at h3;grind
 rw[c]at b;obtain⟨d,h',z',h,i,j⟩:=C4 (a.at' (pl f).hr) (J3 a 6) g h3 b;obtain⟨p,q,s⟩:=Lm i
 have k:(pl f).gv=[]:=by
  simp[jV]at h3;grind
 have l:((pl f).em&&fW args)=false:=by
  simp[jV]at h3;grind
 refine j.up.mono fun M t=>?_;grind[env]
end
theorem JU {P:Program}{G:FuncId->Bool}{a:FuncId->Plan}{T:Tab}(b:TOK P G G a T){f:FuncId}{fn:KFn}{args:List D}{r:D}(c:T.tab f=some fn)(g:fn.gv≠[])(d:ib T.pu fn.gv args=some r):Evt fun M=>(env P G a M).pure f args=some r:=by
 obtain⟨F,h,h1,i,h3⟩:=b.tab f fn c
 have e:(a f).gv=fn.gv:=by
  simp[jV]at h3;grind
 refine(C6 b.pu d).up.mono fun M j=>?_;grind[env]
open Classical in
noncomputable def PUof (P:Program)(G:FuncId->Bool)(a:FuncId->Plan):Pure:=fun f args=>
 if b:∃r,Evt fun M=>(env P G a M).pure f args=some r then some (Classical.choose b)else none
theorem rX {P:Program}{G:FuncId->Bool}{c:FuncId->Plan}{f:FuncId}{args:List D}{r:D}(h:Evt fun M=>(env P G c M).pure f args=some r):PUof P G c f args=some r:=by
 unfold PUof;have d:∃r,Evt fun M=>(env P G c M).pure f args=some r:=⟨r,h⟩;obtain⟨a,e⟩:=Classical.choose_spec d;obtain⟨b,g⟩:=h;have h1:=e (max a b) (by omega);grind
theorem Bt {P:Program}{G:FuncId->Bool}{a:FuncId->Plan}{f:FuncId}{args:List D}{r:D}(h:PUof P G a f args=some r):Evt fun M=>(env P G a M).pure f args=some r:=by
 unfold PUof at h;split at h
 grind;grind
end Go.F
