/- Part 20. -/
import Derived.Test.YtglbdppmnchoeaaGreatZ19
set_option linter.all false
namespace Go.F
variable {P:Program}{E:Env}
def sM (a:Act):ResultVar->Sem Value
 |.tmp t=>Pure.pure (a.tmps.getD t undef)
 |.cell x t=>do loadVar t (<-asAddr (a.tmps.getD x undef))
theorem GK (fn:Func)(a:Act):results fn a.tmps=(do let vs<-fn.results.mapM (sM a);Pure.pure (if h:vs.size=1 then vs[0]else .tuple vs)):=by
 rfl
theorem ofAll {e:List ResultVar}{l:List D}{s:St}{a:Act}{w:World}{c:Ctx}{m:Map}(H:HR c m s.heap s.frz w)(j:∀i,VR m (Pr c m s.heap s.frz) w (s.tmps i) (a.tmps.getD i undef))(r:e.mapM (kn P s)=some l):
 ∃vs:List Value,(e.mapM (sM a)).run P w=.ok vs w/\cR m (Pr c m s.heap s.frz) w l vs.toArray:=by
 induction e generalizing l with
 |nil=>simp_all[cR]
 |cons f e A=>
  cases b:kn P s f with
  |none=>grind
  |some d=>
   cases hr:e.mapM (kn P s)with
   |none=>grind
   |some E=>
    simp[b,hr]at r;subst r;obtain⟨vs,h1,y⟩:=A hr
    have g:∃v,((sM a) f).run P w=.ok v w/\VR m (Pr c m s.heap s.frz) w d v:=by
     cases f with
     |tmp t=>simp[kn]at b;subst b;exact⟨_,rfl,j t⟩
     |cell x t=>
      simp only[kn]at b;obtain⟨u,h3,z⟩:=run_load (P:=P) H (fun _ _ h=>h) (j x) b;refine⟨u,?_,z⟩
      have n:∃p,a.tmps.getD x undef=.pointer (some p):=by
       have B:=j x;refine B.isPtr ?_;unfold load at b;split at b
       .rename_i o _ _;cases q:s.tmps x<;>simp[q,jt]at o;simp;simp
       .rename_i o _ _;cases q:s.tmps x<;>simp[q,jt]at o;simp;simp
       grind
      obtain⟨p,n⟩:=n;simpa[sM,n,Instr.loadAt,Instr.sureAddr,asAddr]using h3
    obtain⟨v,h3,z⟩:=g;simp_all
    .refine⟨by simp[y.1],fun k F C=>?_⟩
     cases k with
     |zero=>grind
     |succ k=>exact y.2 k (by grind) (by grind)
theorem XC {fn:Func}{d:D}{s:St}{a:Act}{w:World}{c:Ctx}{m:Map}(H:HR c m s.heap s.frz w)(h:∀i,VR m (Pr c m s.heap s.frz) w (s.tmps i) (a.tmps.getD i undef))(hr:nq P fn s=some d):
 ∃v,(results fn a.tmps).run P w=.ok v w/\VR m (Pr c m s.heap s.frz) w d v:=by
 unfold nq at hr
 cases f:fn.results.toList.mapM (kn P s)with
 |none=>grind
 |some l=>
  obtain⟨vs,h1,b⟩:=ofAll (a:=a) H h f
  have g:(fn.results.mapM (sM a)).run P w=.ok vs.toArray w:=by
   simp_all[wa]
  rw[f]at hr;have j:vs.toArray.size=l.length:=b.1.symm;by_cases e:l.length=1
  .obtain⟨x,rfl⟩:=xy.1 e;simp at hr;subst hr;refine⟨vs.toArray[0]'(by omega),?_,b.2 0 (by simp) (by omega)⟩;simp_all[GK]
  have k:d=.tup l:=by
   grind
  subst k;refine⟨.tuple vs.toArray,?_,.tup l _ b.1 b.2⟩;simp_all[GK]
theorem Qf {m:Map}{pr:aM}{w:World}{args:List D}{vs:Array Value}{n:Nat}(a:cR m pr w args vs):∀i,VR m pr w (enter args i) ((vs++Array.replicate (n-vs.size) undef).getD i undef):=by
 intro i;unfold enter;by_cases hi:i<vs.size
 .have b:i<args.length:=by rw[a.1];omega
  have c:(vs++Array.replicate (n-vs.size) undef).getD i undef=vs[i]:=by
   simp_all[xY]
  have d:args.getD i (.tup [])=args[i]:=by grind
  rw[c,d];exact a.2 i b hi
 have c:(vs++Array.replicate (n-vs.size) undef).getD i undef=undef:=by
  rw[wV,Array.getElem?_append_right (by omega)];grind
 have d:args.getD i (.tup [])=.tup []:=by
  have:args.length<=i:=by rw[a.1];omega
  grind
 rw[c,d];exact .tup [] #[] rfl (by simp)
theorem JD (j:jK P E)(k:uJ P E)(y:P.follows .mixedOrders=true){f:FuncId}{fn:Func}{a:Code}(A:P.funcs[f]?=some fn)(C:fn.body=some a){n:Plan}(o:jp E.shared n.sp fn.ntmps a=true)
 {args:List D} {h h':ab} {z z':Frz} {nx g:Nat} {r:D} (hr:body P E n fn a args h z nx=some (r,h',z',g)) {c:Ctx} {m:Map} {w:World} {vs:Array Value} (H:HR c m h z w) (F:cR m (Pr c m h z) w args vs)
 (b:∀id,nx<=id->m id=none):
 Calls P f vs w fun e w'=>∃v,e=.returned v/\∃m',HR c m' h' z' w'/\VR m' (Pr c m' h' z') w' r v/\Ev m (Pr c m h z) w m' (Pr c m' h' z') w'/\Below c.B w w'/\(∀id,id<nx->m' id=m id)/\(∀id,g<=id->m' id=none)/\nx<=g:=by
 refine calls_of_wp A C ?_;unfold body at hr
 have start:Rel fn.ntmps nx c m (Pr c m h z) w (fun id=>(⟨enter args,h,z,nx⟩:St).next<=id) ⟨enter args,h,z,nx⟩ {tmps:=vs++Array.replicate (fn.ntmps-vs.size) undef,defers:=[]} w:=
  ⟨⟨m,H,Qf F,Ev.refl _ _ _,b,fun _ _=>rfl⟩,Below.refl _ _,rfl,by grind,zD _⟩
 have fin:∀(l:Ex) (s:St),(l=.ret\/l=.normal)->aR P E n nx a ⟨enter args,h,z,nx⟩=some (l,s)->(nq P fn s).map (fun d=>(d,s.heap,s.frz,s.next))=some (r,h',z',g)->
  a.wp P (bodyPost P fn fun e w'=>∃v,e=.returned v/\∃m',HR c m' h' z' w'/\VR m' (Pr c m' h' z') w' r v/\Ev m (Pr c m h z) w m' (Pr c m' h' z') w'/\Below c.B w w'/\(∀id,id<nx->m' id=m id)/\(∀id,g<=id->m' id=none)/\nx<=g)
   {tmps:=vs++Array.replicate (fn.ntmps-vs.size) undef,defers:=[]} w:=by
  intro l s p G i
  cases q:nq P fn s with
  |none=>grind
  |some d=>
   simp[q]at i;obtain⟨rfl,rfl,rfl,rfl⟩:=i;refine wp_mono (Vy j k y b n a o _ l s G _ w start) ?_;rintro e t w' ⟨rfl,R⟩;obtain⟨m',h1,I,h3,J,K⟩:=R.ex;obtain⟨v,L,M⟩:=XC (P:=P) h1 I q
   have u:t.defers=[]/\∃v,(results fn t.tmps).run P w'=.ok v w'/\∃x,Ending.returned v=.returned x/\∃m',HR c m' s.heap s.frz w'/\VR m' (Pr c m' s.heap s.frz) w' d x/\Ev m (Pr c m h z) w m' (Pr c m' s.heap s.frz) w'/\Below c.B w w'/\(∀id,id<nx->m' id=m id)/\(∀id,s.next<=id->m' id=none)/\nx<=s.next:=
    ⟨R.defers,v,L,v,rfl,m',h1,M,h3,R.below,K,J,R.next⟩
   rcases p with rfl|rfl
   trivial
   trivial
 grind
theorem mZ {f:FuncId}{fn:Func}{a:Code}{vs:Array Value}{w:World}(c:P.funcs[f]?=some fn)(d:fn.body=some a)(e:(fn.name != "runtime.NumGoroutine")=true):(callFunc f vs).run P w=.ok (.enter f vs) w:=by
 have b:(fn.name== "runtime.NumGoroutine")=false:=by grind
 simp only[callFunc,Sem.run_bind,run_program,Result.andThen_ok,c,b,xq,vE,d,Option.isNone_some,Sem.run_pure]
theorem Ev.frozenAll {c:Ctx}{m:Map}{h:ab}{z:Frz}{w:World}(H:HR c m h z w):Ev m (Pr c m h z) w m (Pr c m h (aV h)) w:=by
 have d:∀b o,Pr c m h z b o->Pr c m h (aV h) b o:=by
  intro b o a;rcases a with a|⟨a,l⟩
  .exact .inl a
  exact .inr ⟨a,fun⟨i,e,h1,j,h3⟩=>l ⟨i,e,h1,j,zR (zF _ (H.zle i j)) h3⟩⟩
 exact⟨fun _ _ h=>h,fun b o v a g=>⟨d b o a,g⟩,fun r es k a g=>⟨d r 0 a,g⟩,fun b C t f n=>⟨C,n,rfl⟩⟩
def Dp (P:Program):Prop:=∀f fn,P.funcs[f]?=some fn->fn.body=none->(fn.name== "math.sqrt")=true->∀(x r:Nat) (w:World),FloatKind.f64.format.sqrt x=some r->(callFunc f #[.float .f64 x]).run P w=.ok (.value (.float .f64 r)) w
def EmOK (P:Program)(d:FuncId->Plan):Prop:=∀f fn b,P.funcs[f]?=some fn->fn.body=some b->(d f).em=true->∀(a:Option Addr) (cap:Nat) (w:World),Calls P f #[.slice a 0 cap] w fun e w'=>∃g c,e=.returned (.slice g 0 c)/\Below w.heap.size w w'
def qY (P:Program)(E:Env):Prop:=∀g x y r,E.pure g [x,y]=some r->∃fn a,P.funcs[g]?=some fn/\fn.body=some a/\(fn.name != "runtime.NumGoroutine")=true
def GvOK (P:Program)(g:FuncId->Plan):Prop:=∀f fn d (E:Env),P.funcs[f]?=some fn->fn.body=some d->jK P E->qY P E->
 (∀args r,ib E.pure (g f).gv args=some r->∀(w:World) (ok:aM) (vs:Array Value),(∀b o,ok b o->b<w.heap.size)->cR aS ok w args vs->
   Calls P f vs w fun e w'=>∃v,e=.returned v/\VR aS (fun b o=>ok b o\/w.heap.size<=b) w' r v/\Below w.heap.size w w')/\
 (∀args h z nx r h' z' a,fM E.pure (g f).gv args h z nx=some (r,h',z',a)->∀(c:Ctx) (m:Map) (w:World) (vs:Array Value),HR c m h z w->cR m (Pr c m h z) w args vs->(∀id,nx<=id->m id=none)->
   Calls P f vs w fun e w'=>∃v,e=.returned v/\∃m',HR c m' h' z' w'/\VR m' (Pr c m' h' z') w' r v/\Ev m (Pr c m h z) w m' (Pr c m' h' z') w'/\Below c.B w w'/\(∀id,id<nx->m' id=m id)/\(∀id,a<=id->m' id=none)/\nx<=a)
theorem ML {m:Map}{pr:aM}{w:World}{args:List D}{vs:Array Value}(e:fW args=true)(f:cR m pr w args vs):∃a cap,vs= #[.slice a 0 cap]:=by
 have one:∀d,args=[d]->∃v,vs= #[v]/\VR m pr w d v:=by
  intro d g;subst g;have h1:vs.size=1:=by rw[<-f.1];rfl
  exact⟨vs[0],by grind,f.2 0 (by simp) (by omega)⟩
 unfold fW at e;split at e
 .obtain⟨v,rfl,c⟩:=one _ rfl;cases c;simp
 .obtain⟨v,rfl,c⟩:=one _ rfl
  cases c with
  |lst0 a cap=>simp
  |lst l b o cap esz cv h=>simp
 .obtain⟨v,rfl,c⟩:=one _ rfl;cases c<;>exact⟨_,_,rfl⟩
 grind
theorem Y2 (j:FuncId->Bool)(s:FuncId->Plan)(O:tj P j (fun f=>(s f).sp) (fun f=>(s f).hr)=true)(a0:Dp P)(Q:EmOK P s)(R:GvOK P s):∀N,jK P (env P j s N)/\uJ P (env P j s N):=by
 simp only[tj,zJ]at O;obtain⟨hm,S⟩:=O
 have T:∀{f:FuncId} {fn:Func},P.funcs[f]?=some fn->(fn.name != "runtime.NumGoroutine")=true/\∀l,fn.body=some l->jp (iI j (s f).hr) (s f).sp fn.ntmps l=true:=by
  intro f fn q;have:=zM.1 S (fn,f) (by grind);grind
 have U:∀N,qY P (env P j s N):=by
  intro N g x y r hr
  cases N with
  |zero=>trivial
  |succ N=>
   grind[env,uZ]
 intro N
 induction N with
 |zero=>exact⟨fun f args r hr=>by trivial,fun f args h z nx r h' z' G hr=>by trivial⟩
 |succ N ih=>
  obtain⟨Y,V⟩:=ih;constructor
  .intro f args r hr w ok vs B D;simp only[env]at hr
   cases q:P.funcs[f]? with
   |none=>grind
   |some fn=>
    simp only[q]at hr
    cases n:fn.body with
    |none=>
     simp only[n]at hr;split at hr
     .rename_i I;unfold uZ at hr;split at hr
      .rename_i x
       cases hs:FloatKind.f64.format.sqrt x with
       |none=>grind
       |some y=>
        simp[hs]at hr;subst hr;have hv:=D.2 0 (by simp) (by rw[<-D.1];simp)
        have a2:vs= #[.float .f64 x]:=by
         have h1:vs.size=1:=by rw[<-D.1];simp
         apply vH;omega
         .intro i h2 h3;have hi:i=0:=by omega
          subst hi;simpa using hv.floats rfl
        subst a2;exact .inr ⟨_,w,a0 f fn q n I x y w hs,.float _ _,Below.refl _ _⟩
      grind
     grind
    |some l=>
     simp only[n]at hr;obtain⟨J,F⟩:=T q;split at hr
     case h_2=>exact .inl ⟨mZ q n J,(R f fn l _ q n Y (U N)).1 args r hr w ok vs B D⟩
     split at hr
     .rename_i u;rw[zJ]at u;cases hr;obtain⟨a,cap,rfl⟩:∃a cap,vs= #[.slice a 0 cap]:=ML u.2 D;refine .inl ⟨mZ q n J,(Q f fn l q n u.1 a cap w).mono fun e w' ⟨a',W,X,p⟩=>?_⟩;exact⟨_,X,.lst0 _ _,p⟩
     split at hr
     grind
     .rename_i d h' z' G K;refine .inl ⟨mZ q n J,?_⟩
      have H:HR ⟨w.heap.size,ok⟩ aS empty kl w:=
       ⟨fun id es esz h=>by trivial,fun id ks vs h=>by trivial,fun id b1 x x' h=>by trivial,fun id x h=>by trivial,zD _,fun id h=>by trivial⟩
      have a3:cR aS (Pr ⟨w.heap.size,ok⟩ aS empty kl) w args vs:=by
       refine⟨D.1,fun k h1 h2=>(D.2 k h1 h2).mono ⟨(fun _ _ h=>h),fun b o v A F=>⟨.inl ⟨B b o A,A⟩,F⟩,fun r es k A F=>⟨.inl ⟨B r 0 A,A⟩,F⟩,fun b C t f n=>⟨C,n,rfl⟩⟩⟩
      have L:=JD (E:=⟨(env P j s N).pure,(env P j s N).shar,iI j (s f).hr⟩) Y V hm q n (F l n) K H a3 (fun _ _=>rfl);refine L.mono fun e w' ⟨v,X,m',Z,hv,ev,p,_,_,_⟩=>⟨v,X,?_,p⟩;have a4:=sP Z (hr:=h') (fun _ _ h=>h) (Ev.frozenAll Z) depth d r v hv hr (fun _ _=>rfl);refine a4.1.mono ⟨(fun _ _ h=>h),fun b o v A F=>⟨?_,F⟩,fun r es k A F=>⟨?_,F⟩,fun b C t f n=>⟨C,n,rfl⟩⟩
      .rcases A with A|A
       grind;grind
      rcases A with A|A
      grind;grind
  intro f args h z nx r h' z' G hr c m w vs H D M;simp only[env]at hr
  cases q:P.funcs[f]? with
  |none=>grind
  |some fn=>
   simp only[q]at hr
   cases n:fn.body with
   |none=>grind
   |some l=>
    simp only[n]at hr;obtain⟨J,F⟩:=T q;split at hr
    case h_2=>exact .inl ⟨mZ q n J,(R f fn l _ q n Y (U N)).2 args h z nx r h' z' G hr c m w vs H D M⟩
    split at hr
    .rename_i u;rw[zJ]at u;cases hr;obtain⟨a,cap,rfl⟩:∃a cap,vs= #[.slice a 0 cap]:=ML u.2 D;refine .inl ⟨mZ q n J,(Q f fn l q n u.1 a cap w).mono fun e w' ⟨a',W,X,p⟩=>?_⟩;obtain⟨Z,a5⟩:=Cl H p;exact⟨_,X,m,Z,.lst0 _ _,a5,p.mono H.base,fun _ _=>rfl,M,zD _⟩
    exact .inl ⟨mZ q n J,JD (E:=⟨(env P j s N).pure,(env P j s N).shar,iI j (s f).hr⟩) Y V hm q n (F l n) hr H D M⟩
theorem W8 (a:FuncId->Bool)(d:FuncId->Plan)(c:tj P a (fun f=>(d f).sp) (fun f=>(d f).hr)=true)(l:Dp P)(m:EmOK P d)(n:GvOK P d){N:Nat}{f:FuncId}{fn:Func}{g:Code}(y:P.funcs[f]?=some fn)(p:fn.body=some g){args:List D}{r:D}
 (hr:run P a d N f args=some r) {w:World} {vs:Array Value} (q:cR aS (fun b _=>b<w.heap.size) w args vs):
 Calls P f vs w fun e w'=>∃v,e=.returned v/\VR aS (fun b _=>b<w'.heap.size) w' r v/\Below w.heap.size w w':=by
 have:=(Y2 a d c l m n N).1 f args r hr w (fun b _=>b<w.heap.size) vs (fun _ _ h=>h) q;rcases this with⟨_,s⟩ |⟨v,w',h1,_⟩
 .refine s.mono fun e w' ⟨v,u,x,i⟩=>⟨v,u,?_,i⟩;refine x.mono ⟨(fun _ _ h=>h),fun b o v _ j=>⟨?_,j⟩,fun r es k _ j=>⟨(zS.1 j).1,j⟩,fun b C t f p=>⟨C,p,rfl⟩⟩;grind[cell?_block]
 simp only[tj,zJ]at c;have z:=zM.1 c.2 (fn,f) (by grind);simp_all[mZ]
end Go.F
