/- Parts of the proof, part 20: Sound3. -/
import Derived.Test.YtakaifogljbgoaaGreatZ19
set_option linter.all false
namespace Go.F
open Go.RowKit (Below)
variable {P:Program}{E:Env}
def qrb (a:Act):ResultVar→Sem Value
 |.tmp t=>Pure.pure (a.tmps.getD t undef)
 |.cell x t=>do loadVar t (←asAddr (a.tmps.getD x undef))
theorem qrc (fn:Func)(a:Act):results fn a.tmps=(do let vs←fn.results.mapM (qrb a);Pure.pure (if h:vs.size=1 then vs[0]else .tuple vs)):=by
 unfold results
 congr 1
theorem ofAll {fs:List ResultVar}{l:List D}{s:St}{a:Act}{w:World}{c:Ctx}{m:Map}(H:HR c m s.heap s.frz w)(ht:∀i,VR m (Pr c m s.heap s.frz) w (s.tmps i) (a.tmps.getD i undef))(hl:fs.mapM (q7j P s)=some l):
 ∃vs:List Value,(fs.mapM (qrb a)).run P w=.ok vs w∧q3y m (Pr c m s.heap s.frz) w l vs.toArray:=by
 induction fs generalizing l with
 |nil=>simp at hl;subst hl;exact⟨[],by simp,by simp[q3y]⟩
 |cons f fs ih=>
  simp only[List.mapM_cons]at hl
  cases hf:q7j P s f with
  |none=>simp[hf]at hl
  |some d=>
   cases hr:fs.mapM (q7j P s)with
   |none=>simp[hf,hr]at hl
   |some l'=>
    simp[hf,hr]at hl
    subst hl
    obtain⟨vs,h1,h2⟩:=ih hr
    have hone:∃v,((qrb a) f).run P w=.ok v w∧VR m (Pr c m s.heap s.frz) w d v:=by
     cases f with
     |tmp t=>simp only[q7j,Option.some.injEq]at hf;subst hf;exact⟨_,rfl,ht t⟩
     |cell x t=>
      simp only[q7j]at hf
      obtain⟨u,h3,h4⟩:=run_load (P:=P) H (fun _ _ h=>h) (ht x) hf
      refine⟨u,?_,h4⟩
      have hp:∃p,a.tmps.getD x undef=.pointer (some p):=by
       have hx:=ht x
       refine hx.isPtr ?_
       unfold load at hf
       split at hf
       ·rename_i hc _ _
        cases hd:s.tmps x<;>simp[hd,q4T]at hc
        ·exact .inr ⟨_,_,rfl⟩
        exact .inl ⟨_,_,_,rfl⟩
       ·rename_i hc _ _
        cases hd:s.tmps x<;>simp[hd,q4T]at hc
        ·exact .inr ⟨_,_,rfl⟩
        exact .inl ⟨_,_,_,rfl⟩
       cases hf
      obtain⟨p,hp⟩:=hp
      rw[hp]at h3
      simpa[qrb,hp,Instr.loadAt,Instr.sureAddr,asAddr]using h3
    obtain⟨v,h3,h4⟩:=hone
    refine⟨v::vs,?_,?_⟩
    ·simp only[List.mapM_cons,Sem.run_bind,h3,Result.andThen_ok,h1,Sem.run_pure]
    refine⟨by simp[h2.1],fun k hk hk'=>?_⟩
    cases k with
    |zero=>exact h4
    |succ k=>exact h2.2 k (by simpa using hk) (by simpa using hk')
theorem qsD {fn:Func}{d:D}{s:St}{a:Act}{w:World}{c:Ctx}{m:Map}(H:HR c m s.heap s.frz w)(ht:∀i,VR m (Pr c m s.heap s.frz) w (s.tmps i) (a.tmps.getD i undef))(hr:q7B P fn s=some d):
 ∃v,(results fn a.tmps).run P w=.ok v w∧VR m (Pr c m s.heap s.frz) w d v:=by
 unfold q7B at hr
 cases hm:fn.results.toList.mapM (q7j P s)with
 |none=>simp[hm]at hr
 |some l=>
  obtain⟨vs,h1,h2⟩:=ofAll (a:=a) H ht hm
  have hrun:(fn.results.mapM (qrb a)).run P w=.ok vs.toArray w:=by
   rw[Array.mapM_eq_mapM_toList]
   simp only[Sem.run_map,h1,Result.andThen_ok]
  rw[hm]at hr
  have hsz:vs.toArray.size=l.length:=h2.1.symm
  by_cases h1':l.length=1
  ·obtain⟨x,rfl⟩:=List.length_eq_one_iff.1 h1'
   simp only[Option.some.injEq]at hr
   subst hr
   refine⟨vs.toArray[0]'(by omega),?_,h2.2 0 (by simp) (by omega)⟩
   simp only[qrc,Sem.run_bind,hrun,Result.andThen_ok,Sem.run_pure]
   rw[dif_pos (by omega)]
  have hd:d=.tup l:=by
   match l,h1',hr with
   |[],_,hr=>simpa using hr.symm
   |_::_::_,_,hr=>simpa using hr.symm
  subst hd
  refine⟨.tuple vs.toArray,?_,.tup l _ h2.1 h2.2⟩
  simp only[qrc,Sem.run_bind,hrun,Result.andThen_ok,Sem.run_pure]
  rw[dif_neg (by omega)]
theorem qBO {m:Map}{pr:q1x}{w:World}{args:List D}{vs:Array Value}{n:Nat}(hl:q3y m pr w args vs):∀i,VR m pr w (enter args i) ((vs++Array.replicate (n-vs.size) undef).getD i undef):=by
 intro i
 unfold enter
 by_cases hi:i<vs.size
 ·have hi':i<args.length:=by rw[hl.1];exact hi
  have e1:(vs++Array.replicate (n-vs.size) undef).getD i undef=vs[i]:=by
   simp[Array.getD_eq_getD_getElem?,Array.getElem?_append_left hi,hi]
  have e2:args.getD i (.tup [])=args[i]:=by simp[List.getD_eq_getElem?_getD,hi']
  rw[e1,e2]
  exact hl.2 i hi' hi
 have e1:(vs++Array.replicate (n-vs.size) undef).getD i undef=undef:=by
  rw[Array.getD_eq_getD_getElem?,Array.getElem?_append_right (by omega)]
  by_cases h2:i-vs.size<n-vs.size
  ·simp[h2]
  simp[h2]
 have e2:args.getD i (.tup [])=.tup []:=by
  have:args.length≤i:=by rw[hl.1];omega
  simp[List.getD_eq_getElem?_getD,List.getElem?_eq_none this]
 rw[e1,e2]
 exact .tup [] #[] rfl (by simp)
theorem qrd (hpure:qr8 P E)(hshar:qr9 P E)(hm:P.follows .mixedOrders=true){f:FuncId}{fn:Func}{code:Code}(hf:P.funcs[f]?=some fn)(hb:fn.body=some code){pl:Plan}(hok:q5T E.shared pl.sp fn.ntmps code=true)
 {args:List D} {h h':q0e} {z z':Frz} {nx nx':Nat} {r:D} (hr:body P E pl fn code args h z nx=some (r,h',z',nx')) {c:Ctx} {m:Map} {w:World} {vs:Array Value} (H:HR c m h z w) (hl:q3y m (Pr c m h z) w args vs)
 (hfresh:∀id,nx≤id→m id=none):
 Calls P f vs w fun e w'=>∃v,e=.returned v∧∃m',HR c m' h' z' w'∧VR m' (Pr c m' h' z') w' r v∧Ev m (Pr c m h z) w m' (Pr c m' h' z') w'∧Below c.B w w'∧(∀id,id<nx→m' id=m id)∧(∀id,nx'≤id→m' id=none)∧nx≤nx':=by
 refine calls_of_wp hf hb ?_
 unfold body at hr
 have start:Rel fn.ntmps nx c m (Pr c m h z) w (fun id=>(⟨enter args,h,z,nx⟩:St).next≤id) ⟨enter args,h,z,nx⟩ {tmps:=vs++Array.replicate (fn.ntmps-vs.size) undef,defers:=[]} w:=
  ⟨⟨m,H,qBO hl,Ev.refl _ _ _,hfresh,fun _ _=>rfl⟩,Below.refl _ _,rfl,by simp;omega,Nat.le_refl _⟩
 have fin:∀(ex:Ex) (s:St),(ex=.ret∨ex=.normal)→q2L P E pl nx code ⟨enter args,h,z,nx⟩=some (ex,s)→(q7B P fn s).map (fun d=>(d,s.heap,s.frz,s.next))=some (r,h',z',nx')→
  code.wp P (bodyPost P fn fun e w'=>∃v,e=.returned v∧∃m',HR c m' h' z' w'∧VR m' (Pr c m' h' z') w' r v∧Ev m (Pr c m h z) w m' (Pr c m' h' z') w'∧Below c.B w w'∧(∀id,id<nx→m' id=m id)∧(∀id,nx'≤id→m' id=none)∧nx≤nx')
   {tmps:=vs++Array.replicate (fn.ntmps-vs.size) undef,defers:=[]} w:=by
  intro ex s hex he hres
  cases hd:q7B P fn s with
  |none=>simp[hd]at hres
  |some d=>
   simp only[hd,Option.map_some,Option.some.injEq,Prod.mk.injEq]at hres
   obtain⟨rfl,rfl,rfl,rfl⟩:=hres
   refine wp_mono (qBN hpure hshar hm hfresh pl code hok _ ex s he _ w start) ?_
   rintro e a' w' ⟨rfl,R⟩
   obtain⟨m',h1,h2,h3,h4,h5⟩:=R.ex
   obtain⟨v,h6,h7⟩:=qsD (P:=P) h1 h2 hd
   have post:a'.defers=[]∧∃v,(results fn a'.tmps).run P w'=.ok v w'∧∃v',Ending.returned v=.returned v'∧∃m',HR c m' s.heap s.frz w'∧VR m' (Pr c m' s.heap s.frz) w' d v'∧Ev m (Pr c m h z) w m' (Pr c m' s.heap s.frz) w'∧Below c.B w w'∧(∀id,id<nx→m' id=m id)∧(∀id,s.next≤id→m' id=none)∧nx≤s.next:=
    ⟨R.defers,v,h6,v,rfl,m',h1,h7,h3,R.below,h5,h4,R.next⟩
   rcases hex with rfl|rfl
   ·exact post
   exact post
 split at hr
 ·rename_i s he;exact fin .ret s (.inl rfl) he hr
 ·rename_i s he;exact fin .normal s (.inr rfl) he hr
 cases hr
theorem q7t {f:FuncId}{fn:Func}{code:Code}{vs:Array Value}{w:World}(hf:P.funcs[f]?=some fn)(hb:fn.body=some code)(hn:(fn.name != "runtime.NumGoroutine")=true):(callFunc f vs).run P w=.ok (.enter f vs) w:=by
 have hn':(fn.name== "runtime.NumGoroutine")=false:=by simpa using hn
 simp only[callFunc,Sem.run_bind,run_program,Result.andThen_ok,hf,hn',Bool.false_eq_true,if_false,hb,Option.isNone_some,Sem.run_pure]
theorem Ev.frozenAll {c:Ctx}{m:Map}{h:q0e}{z:Frz}{w:World}(H:HR c m h z w):Ev m (Pr c m h z) w m (Pr c m h (q0t h)) w:=by
 have hpr:∀b o,Pr c m h z b o→Pr c m h (q0t h) b o:=by
  intro b o hp
  rcases hp with hp|⟨hp,hn⟩
  ·exact .inl hp
  exact .inr ⟨hp,fun⟨i,e,h1,h2,h3⟩=>hn ⟨i,e,h1,h2,Nat.le_trans (Nat.mul_le_mul_right _ (H.zle i h2)) h3⟩⟩
 exact⟨fun _ _ h=>h,fun b o v hp hc=>⟨hpr b o hp,hc⟩,fun r es k hp hc=>⟨hpr r 0 hp,hc⟩,fun b C t f hb=>⟨C,hb,rfl⟩⟩
def qBP (P:Program):Prop:=∀f fn,P.funcs[f]?=some fn→fn.body=none→(fn.name== "math.sqrt")=true→∀(x r:Nat) (w:World),FloatKind.f64.format.sqrt x=some r→(callFunc f #[.float .f64 x]).run P w=.ok (.value (.float .f64 r)) w
def EmOK (P:Program)(pl:FuncId→Plan):Prop:=∀f fn code,P.funcs[f]?=some fn→fn.body=some code→(pl f).em=true→∀(a:Option Addr) (cap:Nat) (w:World),Calls P f #[.slice a 0 cap] w fun e w'=>∃a' cap',e=.returned (.slice a' 0 cap')∧Below w.heap.size w w'
theorem qF9 (shared:FuncId→Bool)(pl:FuncId→Plan)(hok:qpB P shared (fun f=>(pl f).sp)=true)(hsq:qBP P)(hem:EmOK P pl):∀N,qr8 P (env P shared pl N)∧qr9 P (env P shared pl N):=by
 simp only[qpB,Bool.and_eq_true]at hok
 obtain⟨hm,hall⟩:=hok
 have hfn:∀{f:FuncId} {fn:Func},P.funcs[f]?=some fn→(fn.name != "runtime.NumGoroutine")=true∧∀code,fn.body=some code→q5T shared (pl f).sp fn.ntmps code=true:=by
  intro f fn hf
  have:=List.all_eq_true.1 hall (fn,f) (by rw[List.mk_mem_zipIdx_iff_getElem?];simpa using hf)
  simp only[Bool.and_eq_true]at this
  refine⟨this.1,fun code hc=>?_⟩
  have h2:=this.2
  simpa only[hc]using h2
 have hsh:∀N,(env P shared pl N).shared=shared:=fun N=>by cases N<;>rfl
 intro N
 induction N with
 |zero=>exact⟨fun f args r hr=>by simp[env]at hr,fun f args h z nx r h' z' nx' hr=>by simp[env]at hr⟩
 |succ N ih=>
  obtain⟨ip,is'⟩:=ih
  constructor
  ·intro f args r hr w ok vs hokb hl
   simp only[env]at hr
   cases hf:P.funcs[f]? with
   |none=>simp[hf]at hr
   |some fn=>
    simp only[hf]at hr
    cases hb:fn.body with
    |none=>
     simp only[hb]at hr
     split at hr
     ·rename_i hname
      unfold qGk at hr
      split at hr
      ·rename_i x
       cases hs:FloatKind.f64.format.sqrt x with
       |none=>simp[hs]at hr
       |some y=>
        simp[hs]at hr
        subst hr
        have hv:=hl.2 0 (by simp) (by rw[←hl.1];simp)
        simp at hv
        have hvs:vs= #[.float .f64 x]:=by
         have h1:vs.size=1:=by rw[←hl.1];simp
         apply Array.ext
         ·simp[h1]
         intro i h2 h3
         have hi:i=0:=by omega
         subst hi
         simpa using hv.floats rfl
        subst hvs
        exact .inr ⟨_,w,hsq f fn hf hb hname x y w hs,.float _ _,Below.refl _ _⟩
      cases hr
     cases hr
    |some code=>
     simp only[hb]at hr
     split at hr
     ·cases hr
     rename_i d h' z' nx' hbody
     obtain⟨hn,hc⟩:=hfn hf
     refine .inl ⟨q7t hf hb hn,?_⟩
     have H:HR ⟨w.heap.size,ok⟩ q1t empty qgU w:=
      ⟨fun id es esz h=>by simp[empty]at h,fun id ks vs h=>by simp[empty]at h,fun id id' x x' h=>by simp[empty]at h,fun id x h=>by simp[q1t]at h,Nat.le_refl _,fun id h=>by simp[empty]at h⟩
     have hl':q3y q1t (Pr ⟨w.heap.size,ok⟩ q1t empty qgU) w args vs:=by
      refine⟨hl.1,fun k h1 h2=>(hl.2 k h1 h2).mono ⟨(fun _ _ h=>h),fun b o v hp hc=>⟨.inl ⟨hokb b o hp,hp⟩,hc⟩,fun r es k hp hc=>⟨.inl ⟨hokb r 0 hp,hp⟩,hc⟩,fun b C t f hb=>⟨C,hb,rfl⟩⟩⟩
     have hcall:=qrd ip is' hm hf hb (by rw[hsh N];exact hc code hb) hbody H hl' (fun _ _=>rfl)
     refine hcall.mono fun e w' ⟨v,he,m',H',hv,ev,hbel,_,_,_⟩=>⟨v,he,?_,hbel⟩
     have hsn:=q9u H' (hr:=h') (fun _ _ h=>h) (Ev.frozenAll H') depth d r v hv hr (fun _ _=>rfl)
     refine hsn.1.mono ⟨(fun _ _ h=>h),fun b o v hp hc=>⟨?_,hc⟩,fun r es k hp hc=>⟨?_,hc⟩,fun b C t f hb=>⟨C,hb,rfl⟩⟩
     ·rcases hp with hp|hp
      ·exact .inl hp.2
      exact .inr hp.1
     rcases hp with hp|hp
     ·exact .inl hp.2
     exact .inr hp.1
  intro f args h z nx r h' z' nx' hr c m w vs H hl hfr
  simp only[env]at hr
  cases hf:P.funcs[f]? with
  |none=>simp[hf]at hr
  |some fn=>
   simp only[hf]at hr
   cases hb:fn.body with
   |none=>simp[hb]at hr
   |some code=>
    simp only[hb]at hr
    obtain⟨hn,hc⟩:=hfn hf
    split at hr
    ·rename_i hc2
     rw[Bool.and_eq_true]at hc2
     cases hr
     obtain⟨a,cap,rfl⟩:∃a cap,vs= #[.slice a 0 cap]:=by
      have one:∀d,args=[d]→∃v,vs= #[v]∧VR m (Pr c m h z) w d v:=by
       intro d hd
       subst hd
       have h1:vs.size=1:=by rw[←hl.1];rfl
       exact⟨vs[0],by apply Array.ext;simp[h1];intro i h2 h3;have:i=0:=by omega
                      subst this;rfl,hl.2 0 (by simp) (by omega)⟩
      have he:=hc2.2
      unfold q8l at he
      split at he
      ·obtain⟨v,rfl,hv⟩:=one _ rfl;cases hv;exact⟨_,_,rfl⟩
      ·obtain⟨v,rfl,hv⟩:=one _ rfl
       cases hv with
       |lst0 a cap=>exact⟨_,_,rfl⟩
       |lst l b o cap esz cv hne=>exact absurd rfl hne
      ·obtain⟨v,rfl,hv⟩:=one _ rfl;cases hv<;>exact⟨_,_,rfl⟩
      cases he
     refine .inl ⟨q7t hf hb hn,(hem f fn code hf hb hc2.1 a cap w).mono fun e w' ⟨a',cap',he,hbel⟩=>?_⟩
     obtain⟨H',ev'⟩:=qra H hbel
     exact⟨_,he,m,H',.lst0 _ _,ev',hbel.mono H.base,fun _ _=>rfl,hfr,Nat.le_refl _⟩
    exact .inl ⟨q7t hf hb hn,qrd ip is' hm hf hb (by rw[hsh N];exact hc code hb) hr H hl hfr⟩
theorem qFa (shared:FuncId→Bool)(pl:FuncId→Plan)(hok:qpB P shared (fun f=>(pl f).sp)=true)(hsq:qBP P)(hem:EmOK P pl){N:Nat}{f:FuncId}{fn:Func}{code:Code}(hf:P.funcs[f]?=some fn)(hb:fn.body=some code){args:List D}{r:D}
 (hr:run P shared pl N f args=some r) {w:World} {vs:Array Value} (hl:q3y q1t (fun b _=>b<w.heap.size) w args vs):
 Calls P f vs w fun e w'=>∃v,e=.returned v∧VR q1t (fun b _=>b<w'.heap.size) w' r v∧Below w.heap.size w w':=by
 have:=(qF9 shared pl hok hsq hem N).1 f args r hr w (fun b _=>b<w.heap.size) vs (fun _ _ h=>h) hl
 rcases this with⟨_,h2⟩ |⟨v,w',h1,_⟩
 ·refine h2.mono fun e w' ⟨v,he,hv,hbel⟩=>⟨v,he,?_,hbel⟩
  refine hv.mono ⟨(fun _ _ h=>h),fun b o v _ hc=>⟨?_,hc⟩,fun r es k _ hc=>⟨(Array.getElem?_eq_some_iff.1 hc).1,hc⟩,fun b C t f hb=>⟨C,hb,rfl⟩⟩
  obtain⟨C,t,f,hb,_⟩:=cell?_block hc
  exact(Array.getElem?_eq_some_iff.1 hb).1
 exfalso
 simp only[qpB,Bool.and_eq_true]at hok
 have hn:=List.all_eq_true.1 hok.2 (fn,f) (by rw[List.mk_mem_zipIdx_iff_getElem?];simpa using hf)
 simp only[Bool.and_eq_true]at hn
 rw[q7t hf hb hn.1]at h1
 cases h1
end Go.F
