/- Part 9. -/
import Derived.Test.YtglbdppmnchoeaaGreatZ8
import Derived.LoopN
import Derived.Test.YtglbdppmnchoeaaGreatZ19
set_option linter.all false
namespace Go.F
variable {P:Program}{E:Env}
theorem Rel.weaken {n nx0:Nat}{c:Ctx}{g:Map}{e:aM}{i:World}{d b:Nat->Prop}{s:St}{a:Act}{w:World}(R:Rel n nx0 c g e i d s a w)(h:∀id,b id->d id):Rel n nx0 c g e i b s a w:=by
 obtain⟨m,h1,j,h3,k,l⟩:=R.ex;exact⟨⟨m,h1,j,h3,fun id f=>k id (h id f),l⟩,R.below,R.defers,R.size,R.next⟩
theorem Rel.drew {n nx0:Nat}{c:Ctx}{e:Map}{d:aM}{f:World}{b:Nat->Prop}{s:St}{a:Act}{w:World}(R:Rel n nx0 c e d f b s a w):Rel n nx0 c e d f b s a {w with drawn:=w.drawn+1}:=by
 obtain⟨m,h1,g,h3,h,j⟩:=R.ex;refine⟨⟨m,h1.same rfl,fun i=>(g i).mono (Ev.same rfl),h3.trans (Ev.same rfl),h,j⟩,?_,R.defers,R.size,R.next⟩;exact⟨⟨R.below.os,R.below.tape,R.below.output,R.below.size,R.below.block⟩,Nat.le_succ_of_le R.below.dr⟩
theorem So {d:Sp}{ops:Array Oper}{base:Nat}{Q:Exit->Act->World->Prop}(I:(Nat->Prop)->St->Act->World->Prop)
 (c:∀i o s e a w (b:Nat->Prop) (K:Act->World->Prop),ops[i]?=some o->b i->one P E false d ops o i base s=some e->I b s a w->
   (∀f w',I (fun k=>b k/\k≠i) e f w'->K f w')->wpOp P ops Q i K a w)
 {s':St} (h:∀b a w,I b s' a w->Q .normal a w):
 ∀(l:List Nat) (s:St) (a:Act) (w:World) (b:Nat->Prop),l.Nodup->(∀k∈l,b k)->fK P E false d ops base l s=some s'->I b s a w->wpOps P ops Q l a w:=by
 intro l
 induction l with
 |nil=>intro s a w b _ _ hr g;simp[fK]at hr;subst hr;exact h b a w g
 |cons i l n=>
  intro s a w b j m hr g;rw[wpOps_cons];simp only[fK]at hr
  cases p:ops[i]? with
  |none=>
   unfold wpOp;grind
  |some o=>
   grind
def Ox:Ex->Exit
 |.normal=> .normal
 |.exit i=> .exit i
 |.ret=> .ret
section
variable {n nx0:Nat}{c:Ctx}{ms:Map}{prs:aM}{ws:World}
def After (n nx0:Nat)(c:Ctx)(ms:Map)(prs:aM)(ws:World)(b:Ex)(s:St):Exit->Act->World->Prop:=
 fun e a w=>e=Ox b/\Rel n nx0 c ms prs ws (fun id=>s.next<=id) s a w
theorem W0 (f:jK P E)(g:uJ P E)(A:P.follows .mixedOrders=true){k:Nat}{v:Sp}{ops:Array Oper}{e:Bool}(p:((!e||nU E.shared v ops)&&ops.toList.all fun o=>match o.dst with|some d=>Nat.blt d n|none=>true)=true){s s':St}
 {base:Nat} (j:s.next<=base) (hr:gG P E e v ops base ops.toList 0 ⟨s.tmps,s.heap,s.frz,base+ops.size⟩=some s') {a:Act} {w:World} (R:Rel n nx0 c ms prs ws (fun id=>s.next<=id) s a w):
 (Code.region k ops e).wp P (After n nx0 c ms prs ws .normal s') a w:=by
 simp only[zJ]at p
 have l:∀(i:Nat) (o:Oper),ops[i]?=some o->∀d,o.dst=some d->d<n:=by
  intro i o y d F;have:=zM.1 p.2 o (by grind);simp_all
 rw[Yp]at hr
 have start:∀w',Rel n nx0 c ms prs ws (fun id=>s.next<=id) s a w'->
  (Rel n nx0 c ms prs ws (fun id=>(∃k,k<ops.size/\id=base+k)\/base+ops.size<=id) ⟨s.tmps,s.heap,s.frz,base+ops.size⟩ a w'/\∀k,k<ops.size->base+k<base+ops.size):=by
  intro w' q;obtain⟨m,h1,B,h3,C,D⟩:=q.ex;refine⟨⟨⟨m,h1,B,h3,fun id r=>C id ?_,D⟩,q.below,q.defers,q.size,by have:=q.next;grind⟩,fun k x=>by omega⟩;omega
 have z:∀(b:Nat->Prop) (a:Act) (w:World),(Rel n nx0 c ms prs ws (fun id=>(∃k,b k/\id=base+k)\/s'.next<=id) s' a w/\∀k,b k->base+k<s'.next)->After n nx0 c ms prs ws .normal s' .normal a w:=
  fun b a w h=>⟨rfl,h.1.weaken fun id r=> .inr r⟩
 cases e with
 |false=>
  refine wp_region ?_
  exact So (fun b s a w=>Rel n nx0 c ms prs ws (fun id=>(∃k,b k/\id=_+k)\/s.next<=id) s a w/\∀k,b k->_+k<s.next)
   (J4 f g (zR R.next j) l) z (List.range ops.size) _ a w (fun k=>k<ops.size) List.nodup_range (fun k x=>yN.1 x) hr (start w R)
 |true=>
  refine wp_region_any A ?_;have t:nU E.shared v ops=true:=by grind
  have u:rem ops (Array.replicate ops.size false)=List.range ops.size:=by
   unfold rem;simp_all
  refine UK (fun b s a w=>Rel n nx0 c ms prs ws (fun id=>(∃k,b k/\id=_+k)\/s.next<=id) s a w/\∀k,b k->_+k<s.next) t
   (J4 f g (zR R.next j) l) z ops.size _ _ a _ (fun k=>k<ops.size) (by grind) (by simp) ?_ (fun k x=>by grind) (by rw[u];omega) (start _ R.drew)
  intro i o y G;have:i<ops.size:=(zS.1 y).1;simp_all
def msP (m:Map)(N:Nat):Map:=fun id=>if id<N then m id else none
theorem AH {m:Map}{N id:Nat}(h:id<N):msP m N id=m id:=ve h
theorem KW {m:Map}{N id:Nat}(h:N<=id):msP m N id=none:=vd (by omega)
theorem V1 {G:Nat}{live:Live}{s:St}(I:∀id,nx0<=id->ms id=none){a:Act}{w:World}{s':St}(R:Rel n nx0 c ms prs ws (fun id=>s.next<=id) s a w)(p:q6I nx0 G live s=some s'):
 Rel n nx0 c ms prs ws (fun id=>s'.next<=id) s' a w:=by
 unfold q6I at p;split at p
 grind[He]
 .rename_i k;split at p
  .rename_i g;have g:=zk g;obtain⟨m,H,J,i,y,E⟩:=R.ex
   have K:Ev (msP m (nx0+(k+1))) (Pr c m s.heap s.frz) w m (Pr c m s.heap s.frz) w:=by
    refine⟨fun id x F=>?_,fun _ _ _ h h'=>⟨h,h'⟩,fun _ _ _ h h'=>⟨h,h'⟩,fun _ C _ _ h=>⟨C,h,rfl⟩⟩;by_cases z:id<nx0+(k+1)
    grind[AH]
    .rw[KW (by omega)]at F;grind
   have L:Rel n (nx0+(k+1)) c (msP m (nx0+(k+1))) (Pr c m s.heap s.frz) w (fun id=>s.next<=id) s a w:=
    ⟨⟨m,H,J,K,y,fun id e=>(AH e).symm⟩,Below.refl _ _,R.defers,R.size,g⟩
   have u:=He (fun id e=>KW e) L p;obtain⟨M,N,A,d,l,j⟩:=u.ex;refine⟨⟨M,N,A,⟨fun id x F=>?_,fun b o v B D=>?_,fun r es q B D=>?_,fun b C t f O=>?_⟩,l,fun id e=>?_⟩,R.below,u.defers,u.size,by have:=u.next;omega⟩
   .have z:id<nx0:=by
     grind
    refine d.ext id x ?_;rw[AH (by omega)];grind
   .obtain⟨P,Q⟩:=i.cell b o v B D;grind[d.cell]
   .obtain⟨P,Q⟩:=i.obj r es q B D;grind[d.obj]
   .obtain⟨S,h1,T⟩:=i.size b C t f O;grind
   rw[j id (by omega),AH (by omega)];grind
  grind
theorem Vy (u:jK P E)(v:uJ P E)(J:P.follows .mixedOrders=true)(F:∀id,nx0<=id->ms id=none)(q:Plan):∀(h:Code),jp E.shared q.sp n h=true->∀(s:St) (g:Ex) (s':St),aR P E q nx0 h s=some (g,s')->
 ∀(a:Act) (w:World),Rel n nx0 c ms prs ws (fun id=>s.next<=id) s a w->h.wp P (After n nx0 c ms prs ws g s') a w:=by
 intro h
 induction h with
 |skip=>intro _ s g s' b a w R;obtain⟨rfl,rfl⟩:=b;exact wp_skip ⟨rfl,R⟩
 |region k ops I=>
  intro d s g s' b a w R;simp only[aR]at b;split at b
  .rename_i K;split at b
   .rename_i r hr;obtain⟨rfl,rfl⟩:=b;exact W0 u v J d (zk K) hr R
   grind
  grind
 |seq x y j z=>
  intro d s g s' b a w R;simp[jp]at d;simp only[aR]at b;refine wp_seq ?_
  cases t:aR P E q nx0 x s with
  |none=>grind
  |some p=>
   obtain⟨ex1,r⟩:=p;rw[t]at b;refine wp_mono (j d.1 s ex1 r t a w R) ?_;rintro e A w' ⟨rfl,B⟩
   cases ex1 with
   |normal=>exact z d.2 r g s' b A w' B
   |exit i=>obtain⟨rfl,rfl⟩:=b;trivial
   |ret=>obtain⟨rfl,rfl⟩:=b;trivial
 |cond L x y j z=>
  intro d s g s' b a w R;simp[jp]at d;obtain⟨m,h1,M,h3,Q,S⟩:=R.ex;have D:=tV M L;simp only[aR]at b;split at b
  .rename_i G;rw[G]at D;exact wp_cond_true (D.bools rfl) (j d.1 s g s' b a w R)
  .rename_i G;rw[G]at D;exact wp_cond_false (D.bools rfl) (z d.2 s g s' b a w R)
  grind
 |block id x j=>
  intro d s g s' b a w R;simp only[aR]at b;refine wp_block ?_
  cases t:aR P E q nx0 x s with
  |none=>grind
  |some p=>
   obtain⟨ex1,r⟩:=p;rw[t]at b;refine wp_mono (j d s ex1 r t a w R) ?_;rintro e A w' ⟨rfl,B⟩
   cases ex1 with
   |normal=>obtain⟨rfl,rfl⟩:=b;trivial
   |ret=>obtain⟨rfl,rfl⟩:=b;trivial
   |exit i=>
    simp at b;simp only[Ox,Exit.inBlock];split at b
    .rename_i hi;obtain⟨rfl,rfl⟩:=b;rw[ve hi];trivial
    rename_i hi;obtain⟨rfl,rfl⟩:=b;rw[vd hi];trivial
 |loop x j=>
  intro d s g s' b a w R;simp only[aR]at b;split at b
  .have key:∀(k:Nat) (s:St) (a:Act) (w:World),eK (aR P E q nx0 x) k s=some (g,s')->Rel n nx0 c ms prs ws (fun id=>s.next<=id) s a w->Code.rounds P x (After n nx0 c ms prs ws g s') k a w:=by
    intro k
    induction k with
    |zero=>intro s a w o _;trivial
    |succ k H=>
     intro s a w o R;simp only[eK]at o
     cases t:aR P E q nx0 x s with
     |none=>grind
     |some p=>
      obtain⟨ex1,r⟩:=p;rw[t]at o;refine wp_mono (j d s ex1 r t a w R) ?_;rintro e A w' ⟨rfl,B⟩
      cases ex1 with
      |normal=>exact H r A w' o B
      |exit i=>obtain⟨rfl,rfl⟩:=o;trivial
      |ret=>obtain⟨rfl,rfl⟩:=o;trivial
   exact wp_loop_rounds vU (key vU s a w b R)
  have key:∀(k:Nat) (s:St) (a:Act) (w:World),dO nx0 (q.pn (dd x)) (q.lv (dd x)) (aR P E q nx0 x) k s=some (g,s')->Rel n nx0 c ms prs ws (fun id=>s.next<=id) s a w->Code.rounds P x (After n nx0 c ms prs ws g s') k a w:=by
   intro k
   induction k with
   |zero=>intro s a w o _;trivial
   |succ k H=>
    intro N a w o O;simp only[dO]at o
    cases C:q6I nx0 (q.pn (dd x)) (q.lv (dd x)) N with
    |none=>grind
    |some s=>
     simp only[C]at o;have R:=V1 F O C
     cases t:aR P E q nx0 x s with
     |none=>grind
     |some p=>
      obtain⟨ex1,r⟩:=p;rw[t]at o;refine wp_mono (j d s ex1 r t a w R) ?_;rintro e A w' ⟨rfl,B⟩
      cases ex1 with
      |normal=>exact H r A w' o B
      |exit i=>obtain⟨rfl,rfl⟩:=o;trivial
      |ret=>obtain⟨rfl,rfl⟩:=o;trivial
  exact wp_loop_rounds vU (key vU s a w b R)
 |exit id=>intro _ s g s' b a w R;obtain⟨rfl,rfl⟩:=b;exact wp_exit ⟨rfl,R⟩
 |ret=>intro _ s g s' b a w R;obtain⟨rfl,rfl⟩:=b;exact wp_ret ⟨rfl,R⟩
 |rangeFunc f ps x y _ _=>intro _ s g s' b;trivial
 |scope x _=>intro _ s g s' b;trivial
 |label l=>intro _ s g s' b;trivial
 |goto l=>intro _ s g s' b;trivial
 |refuse y=>intro _ s g s' b;trivial
end
end Go.F
namespace Go.F
variable {P:Program}{E:Env}
def sM (a:Act):ResultVar->Sem Value
 |.tmp t=>Pure.pure (a.tmps.getD t undef)
 |.cell x t=>do loadVar t (<-asAddr (a.tmps.getD x undef))
theorem GK (fn:Func)(a:Act):results fn a.tmps=(do let vs<-fn.results.mapM (sM a);Pure.pure (if h:vs.size=1 then vs[0]else .tuple vs)):=by
 rfl
theorem ofAll {e:List ResultVar}{l:Hm}{s:St}{a:Act}{w:World}{c:Ctx}{m:Map}(H:HR c m s.heap s.frz w)(j:∀i,VR m (Pr c m s.heap s.frz) w (s.tmps i) (a.tmps.getD i undef))(r:e.mapM (kn P s)=some l):
 ∃vs:List Value,(e.mapM (sM a)).run P w=.ok vs w/\cR m (Pr c m s.heap s.frz) w l vs.toArray:=by
 induction e generalizing l with
 |nil=>simp_all[cR]
 |cons f e A=>
  cases b:kn P s f with
  |none=>grind
  |some d=>
   cases hr:e.mapM (kn P s)with
   |none=>grind
   |some E=>
    simp[b,hr]at r;subst r;obtain⟨vs,h1,y⟩:=A hr
    have g:∃v,((sM a) f).run P w=.ok v w/\VR m (Pr c m s.heap s.frz) w d v:=by
     cases f with
     |tmp t=>simp[kn]at b;subst b;exact⟨_,rfl,j t⟩
     |cell x t=>
      simp only[kn]at b;obtain⟨u,h3,z⟩:=run_load (P:=P) H (fun _ _ h=>h) (j x) b;refine⟨u,?_,z⟩
      have n:∃p,a.tmps.getD x undef=.pointer (some p):=by
       have B:=j x;refine B.isPtr ?_;unfold load at b;split at b
       .rename_i o _ _;cases q:s.tmps x<;>simp[q,jt]at o;simp;simp
       .rename_i o _ _;cases q:s.tmps x<;>simp[q,jt]at o;simp;simp
       grind
      obtain⟨p,n⟩:=n;simpa[sM,n,Instr.loadAt,Instr.sureAddr,asAddr]using h3
    obtain⟨v,h3,z⟩:=g;simp_all
    .refine⟨by simp[y.1],fun k F C=>?_⟩
     cases k with
     |zero=>grind
     |succ k=>exact y.2 k (by grind) (by grind)
theorem XC {fn:Func}{d:D}{s:St}{a:Act}{w:World}{c:Ctx}{m:Map}(H:HR c m s.heap s.frz w)(h:∀i,VR m (Pr c m s.heap s.frz) w (s.tmps i) (a.tmps.getD i undef))(hr:nq P fn s=some d):
 ∃v,(results fn a.tmps).run P w=.ok v w/\VR m (Pr c m s.heap s.frz) w d v:=by
 unfold nq at hr
 cases f:fn.results.toList.mapM (kn P s)with
 |none=>grind
 |some l=>
  obtain⟨vs,h1,b⟩:=ofAll (a:=a) H h f
  have g:(fn.results.mapM (sM a)).run P w=.ok vs.toArray w:=by
   simp_all[wa]
  rw[f]at hr;have j:vs.toArray.size=l.length:=b.1.symm;by_cases e:l.length=1
  .obtain⟨x,rfl⟩:=xy.1 e;simp at hr;subst hr;refine⟨vs.toArray[0]'(by omega),?_,b.2 0 (by simp) (by omega)⟩;simp_all[GK]
  have k:d=.tup l:=by
   grind
  subst k;refine⟨.tuple vs.toArray,?_,.tup l _ b.1 b.2⟩;simp_all[GK]
theorem Qf {m:Map}{pr:aM}{w:World}{args:Hm}{vs:Array Value}{n:Nat}(a:cR m pr w args vs):∀i,VR m pr w (enter args i) ((vs++Array.replicate (n-vs.size) undef).getD i undef):=by
 intro i;unfold enter;by_cases hi:i<vs.size
 .have b:i<args.length:=by rw[a.1];omega
  have c:(vs++Array.replicate (n-vs.size) undef).getD i undef=vs[i]:=by
   simp_all[xY]
  have d:args.getD i (.tup [])=args[i]:=by grind
  rw[c,d];exact a.2 i b hi
 have c:(vs++Array.replicate (n-vs.size) undef).getD i undef=undef:=by
  rw[wV,Array.getElem?_append_right (by omega)];grind
 have d:args.getD i (.tup [])=.tup []:=by
  have:args.length<=i:=by rw[a.1];omega
  grind
 rw[c,d];exact .tup [] #[] rfl (by simp)
theorem JD (j:jK P E)(k:uJ P E)(y:P.follows .mixedOrders=true){f:FuncId}{fn:Func}{a:Code}(A:P.funcs[f]?=some fn)(C:fn.body=some a){n:Plan}(o:jp E.shared n.sp fn.ntmps a=true)
 {args:Hm} {h h':ab} {z z':Frz} {nx g:Nat} {r:D} (hr:body P E n fn a args h z nx=some (r,h',z',g)) {c:Ctx} {m:Map} {w:World} {vs:Array Value} (H:HR c m h z w) (F:cR m (Pr c m h z) w args vs)
 (b:∀id,nx<=id->m id=none):
 Calls P f vs w fun e w'=>∃v,e=.returned v/\∃m',HR c m' h' z' w'/\VR m' (Pr c m' h' z') w' r v/\Ev m (Pr c m h z) w m' (Pr c m' h' z') w'/\Below c.B w w'/\(∀id,id<nx->m' id=m id)/\(∀id,g<=id->m' id=none)/\nx<=g:=by
 refine calls_of_wp A C ?_;unfold body at hr
 have start:Rel fn.ntmps nx c m (Pr c m h z) w (fun id=>(⟨enter args,h,z,nx⟩:St).next<=id) ⟨enter args,h,z,nx⟩ {tmps:=vs++Array.replicate (fn.ntmps-vs.size) undef,defers:=[]} w:=
  ⟨⟨m,H,Qf F,Ev.refl _ _ _,b,fun _ _=>rfl⟩,Below.refl _ _,rfl,by grind,zD _⟩
 have fin:∀(l:Ex) (s:St),(l=.ret\/l=.normal)->aR P E n nx a ⟨enter args,h,z,nx⟩=some (l,s)->(nq P fn s).map (fun d=>(d,s.heap,s.frz,s.next))=some (r,h',z',g)->
  a.wp P (bodyPost P fn fun e w'=>∃v,e=.returned v/\∃m',HR c m' h' z' w'/\VR m' (Pr c m' h' z') w' r v/\Ev m (Pr c m h z) w m' (Pr c m' h' z') w'/\Below c.B w w'/\(∀id,id<nx->m' id=m id)/\(∀id,g<=id->m' id=none)/\nx<=g)
   {tmps:=vs++Array.replicate (fn.ntmps-vs.size) undef,defers:=[]} w:=by
  intro l s p G i
  cases q:nq P fn s with
  |none=>grind
  |some d=>
   simp[q]at i;obtain⟨rfl,rfl,rfl,rfl⟩:=i;refine wp_mono (Vy j k y b n a o _ l s G _ w start) ?_;rintro e t w' ⟨rfl,R⟩;obtain⟨m',h1,I,h3,J,K⟩:=R.ex;obtain⟨v,L,M⟩:=XC (P:=P) h1 I q
   have u:t.defers=[]/\∃v,(results fn t.tmps).run P w'=.ok v w'/\∃x,Ending.returned v=.returned x/\∃m',HR c m' s.heap s.frz w'/\VR m' (Pr c m' s.heap s.frz) w' d x/\Ev m (Pr c m h z) w m' (Pr c m' s.heap s.frz) w'/\Below c.B w w'/\(∀id,id<nx->m' id=m id)/\(∀id,s.next<=id->m' id=none)/\nx<=s.next:=
    ⟨R.defers,v,L,v,rfl,m',h1,M,h3,R.below,K,J,R.next⟩
   rcases p with rfl|rfl
   trivial
   trivial
 grind
theorem mZ {f:FuncId}{fn:Func}{a:Code}{vs:Array Value}{w:World}(c:P.funcs[f]?=some fn)(d:fn.body=some a)(e:(fn.name != "runtime.NumGoroutine")=true):(callFunc f vs).run P w=.ok (.enter f vs) w:=by
 have b:(fn.name== "runtime.NumGoroutine")=false:=by grind
 simp only[callFunc,Sem.run_bind,run_program,Result.andThen_ok,c,b,xq,vE,d,Option.isNone_some,Sem.run_pure]
theorem Ev.frozenAll {c:Ctx}{m:Map}{h:ab}{z:Frz}{w:World}(H:HR c m h z w):Ev m (Pr c m h z) w m (Pr c m h (aV h)) w:=by
 have d:∀b o,Pr c m h z b o->Pr c m h (aV h) b o:=by
  intro b o a;rcases a with a|⟨a,l⟩
  .exact .inl a
  exact .inr ⟨a,fun⟨i,e,h1,j,h3⟩=>l ⟨i,e,h1,j,zR (zF _ (H.zle i j)) h3⟩⟩
 exact⟨fun _ _ h=>h,fun b o v a g=>⟨d b o a,g⟩,fun r es k a g=>⟨d r 0 a,g⟩,fun b C t f n=>⟨C,n,rfl⟩⟩
def Dp (P:Program):Prop:=∀f fn,P.funcs[f]?=some fn->fn.body=none->(fn.name== "math.sqrt")=true->∀(x r:Nat) (w:World),FloatKind.f64.format.sqrt x=some r->(callFunc f #[.float .f64 x]).run P w=.ok (.value (.float .f64 r)) w
def EmOK (P:Program)(d:FuncId->Plan):Prop:=∀f fn b,P.funcs[f]?=some fn->fn.body=some b->(d f).em=true->∀(a:Option Addr) (cap:Nat) (w:World),Calls P f #[.slice a 0 cap] w fun e w'=>∃g c,e=.returned (.slice g 0 c)/\Below w.heap.size w w'
def qY (P:Program)(E:Env):Prop:=∀g x y r,E.pure g [x,y]=some r->∃fn a,P.funcs[g]?=some fn/\fn.body=some a/\(fn.name != "runtime.NumGoroutine")=true
def GvOK (P:Program)(g:FuncId->Plan):Prop:=∀f fn d (E:Env),P.funcs[f]?=some fn->fn.body=some d->jK P E->qY P E->
 (∀args r,ib E.pure (g f).gv args=some r->∀(w:World) (ok:aM) (vs:Array Value),(∀b o,ok b o->b<w.heap.size)->cR aS ok w args vs->
   Calls P f vs w fun e w'=>∃v,e=.returned v/\VR aS (fun b o=>ok b o\/w.heap.size<=b) w' r v/\Below w.heap.size w w')/\
 (∀args h z nx r h' z' a,fM E.pure (g f).gv args h z nx=some (r,h',z',a)->∀(c:Ctx) (m:Map) (w:World) (vs:Array Value),HR c m h z w->cR m (Pr c m h z) w args vs->(∀id,nx<=id->m id=none)->
   Calls P f vs w fun e w'=>∃v,e=.returned v/\∃m',HR c m' h' z' w'/\VR m' (Pr c m' h' z') w' r v/\Ev m (Pr c m h z) w m' (Pr c m' h' z') w'/\Below c.B w w'/\(∀id,id<nx->m' id=m id)/\(∀id,a<=id->m' id=none)/\nx<=a)
theorem ML {m:Map}{pr:aM}{w:World}{args:Hm}{vs:Array Value}(e:fW args=true)(f:cR m pr w args vs):∃a cap,vs= #[.slice a 0 cap]:=by
 have one:∀d,args=[d]->∃v,vs= #[v]/\VR m pr w d v:=by
  intro d g;subst g;have h1:vs.size=1:=by rw[<-f.1];rfl
  exact⟨vs[0],by grind,f.2 0 (by simp) (by omega)⟩
 unfold fW at e;split at e
 .obtain⟨v,rfl,c⟩:=one _ rfl;cases c;simp
 .obtain⟨v,rfl,c⟩:=one _ rfl
  cases c with
  |lst0 a cap=>simp
  |lst l b o cap esz cv h=>simp
 .obtain⟨v,rfl,c⟩:=one _ rfl;cases c<;>exact⟨_,_,rfl⟩
 grind
theorem Y2 (j:FuncId->Bool)(s:FuncId->Plan)(O:tj P j (fun f=>(s f).sp) (fun f=>(s f).hr)=true)(a0:Dp P)(Q:EmOK P s)(R:GvOK P s):∀N,jK P (env P j s N)/\uJ P (env P j s N):=by
 simp only[tj,zJ]at O;obtain⟨hm,S⟩:=O
 have T:∀{f:FuncId} {fn:Func},P.funcs[f]?=some fn->(fn.name != "runtime.NumGoroutine")=true/\∀l,fn.body=some l->jp (iI j (s f).hr) (s f).sp fn.ntmps l=true:=by
  intro f fn q;have:=zM.1 S (fn,f) (by grind);grind
 have U:∀N,qY P (env P j s N):=by
  intro N g x y r hr
  cases N with
  |zero=>trivial
  |succ N=>
   grind[env,uZ]
 intro N
 induction N with
 |zero=>exact⟨fun f args r hr=>by trivial,fun f args h z nx r h' z' G hr=>by trivial⟩
 |succ N ih=>
  obtain⟨Y,V⟩:=ih;constructor
  .intro f args r hr w ok vs B D;simp only[env]at hr
   cases q:P.funcs[f]? with
   |none=>grind
   |some fn=>
    simp only[q]at hr
    cases n:fn.body with
    |none=>
     simp only[n]at hr;split at hr
     .rename_i I;unfold uZ at hr;split at hr
      .rename_i x
       cases hs:FloatKind.f64.format.sqrt x with
       |none=>grind
       |some y=>
        simp[hs]at hr;subst hr;have hv:=D.2 0 (by simp) (by rw[<-D.1];simp)
        have a2:vs= #[.float .f64 x]:=by
         have h1:vs.size=1:=by rw[<-D.1];simp
         apply vH;omega
         .intro i h2 h3;have hi:i=0:=by omega
          subst hi;simpa using hv.floats rfl
        subst a2;exact .inr ⟨_,w,a0 f fn q n I x y w hs,.float _ _,Below.refl _ _⟩
      grind
     grind
    |some l=>
     simp only[n]at hr;obtain⟨J,F⟩:=T q;split at hr
     case h_2=>exact .inl ⟨mZ q n J,(R f fn l _ q n Y (U N)).1 args r hr w ok vs B D⟩
     split at hr
     .rename_i u;rw[zJ]at u;cases hr;obtain⟨a,cap,rfl⟩:∃a cap,vs= #[.slice a 0 cap]:=ML u.2 D;refine .inl ⟨mZ q n J,(Q f fn l q n u.1 a cap w).mono fun e w' ⟨a',W,X,p⟩=>?_⟩;exact⟨_,X,.lst0 _ _,p⟩
     split at hr
     grind
     .rename_i d h' z' G K;refine .inl ⟨mZ q n J,?_⟩
      have H:HR ⟨w.heap.size,ok⟩ aS empty kl w:=
       ⟨fun id es esz h=>by trivial,fun id ks vs h=>by trivial,fun id b1 x x' h=>by trivial,fun id x h=>by trivial,zD _,fun id h=>by trivial⟩
      have a3:cR aS (Pr ⟨w.heap.size,ok⟩ aS empty kl) w args vs:=by
       refine⟨D.1,fun k h1 h2=>(D.2 k h1 h2).mono ⟨(fun _ _ h=>h),fun b o v A F=>⟨.inl ⟨B b o A,A⟩,F⟩,fun r es k A F=>⟨.inl ⟨B r 0 A,A⟩,F⟩,fun b C t f n=>⟨C,n,rfl⟩⟩⟩
      have L:=JD (E:=⟨(env P j s N).pure,(env P j s N).shar,iI j (s f).hr⟩) Y V hm q n (F l n) K H a3 (fun _ _=>rfl);refine L.mono fun e w' ⟨v,X,m',Z,hv,ev,p,_,_,_⟩=>⟨v,X,?_,p⟩;have a4:=sP Z (hr:=h') (fun _ _ h=>h) (Ev.frozenAll Z) depth d r v hv hr (fun _ _=>rfl);refine a4.1.mono ⟨(fun _ _ h=>h),fun b o v A F=>⟨?_,F⟩,fun r es k A F=>⟨?_,F⟩,fun b C t f n=>⟨C,n,rfl⟩⟩
      .rcases A with A|A
       grind;grind
      rcases A with A|A
      grind;grind
  intro f args h z nx r h' z' G hr c m w vs H D M;simp only[env]at hr
  cases q:P.funcs[f]? with
  |none=>grind
  |some fn=>
   simp only[q]at hr
   cases n:fn.body with
   |none=>grind
   |some l=>
    simp only[n]at hr;obtain⟨J,F⟩:=T q;split at hr
    case h_2=>exact .inl ⟨mZ q n J,(R f fn l _ q n Y (U N)).2 args h z nx r h' z' G hr c m w vs H D M⟩
    split at hr
    .rename_i u;rw[zJ]at u;cases hr;obtain⟨a,cap,rfl⟩:∃a cap,vs= #[.slice a 0 cap]:=ML u.2 D;refine .inl ⟨mZ q n J,(Q f fn l q n u.1 a cap w).mono fun e w' ⟨a',W,X,p⟩=>?_⟩;obtain⟨Z,a5⟩:=Cl H p;exact⟨_,X,m,Z,.lst0 _ _,a5,p.mono H.base,fun _ _=>rfl,M,zD _⟩
    exact .inl ⟨mZ q n J,JD (E:=⟨(env P j s N).pure,(env P j s N).shar,iI j (s f).hr⟩) Y V hm q n (F l n) hr H D M⟩
theorem W8 (a:FuncId->Bool)(d:FuncId->Plan)(c:tj P a (fun f=>(d f).sp) (fun f=>(d f).hr)=true)(l:Dp P)(m:EmOK P d)(n:GvOK P d){N:Nat}{f:FuncId}{fn:Func}{g:Code}(y:P.funcs[f]?=some fn)(p:fn.body=some g){args:Hm}{r:D}
 (hr:run P a d N f args=some r) {w:World} {vs:Array Value} (q:cR aS (fun b _=>b<w.heap.size) w args vs):
 Calls P f vs w fun e w'=>∃v,e=.returned v/\VR aS (fun b _=>b<w'.heap.size) w' r v/\Below w.heap.size w w':=by
 have:=(Y2 a d c l m n N).1 f args r hr w (fun b _=>b<w.heap.size) vs (fun _ _ h=>h) q;rcases this with⟨_,s⟩ |⟨v,w',h1,_⟩
 .refine s.mono fun e w' ⟨v,u,x,i⟩=>⟨v,u,?_,i⟩;refine x.mono ⟨(fun _ _ h=>h),fun b o v _ j=>⟨?_,j⟩,fun r es k _ j=>⟨(zS.1 j).1,j⟩,fun b C t f p=>⟨C,p,rfl⟩⟩;grind[cell?_block]
 simp only[tj,zJ]at c;have z:=zM.1 c.2 (fn,f) (by grind);simp_all[mZ]
end Go.F
namespace Go.F
inductive X where
 |t (i:Nat)
 |c (d:D)
def X.ev (t:ai):X->D
 |.t i=>t i
 |.c d=>d
inductive Gd where
 |all
 |init (a:Nat)
 |bef (m n:Nat)
 |hide
 |at(d:Nat)
 |but (l:List Nat) (m n:Nat)
def Gd.ok (g:Gd)(base id:Nat):Bool:=
 match g with
 |.all=>true
 |.init a=>Nat.beq id (base+a)
 |.bef m n=>Nat.blt id base||(m.testBit (id-base) ||Nat.ble (base+n) id)
 |.hide=>false
 |.at d=>Nat.beq (id+d+1) base
 |.but l m n=>(Nat.blt id base||(m.testBit (id-base) ||Nat.ble (base+n) id))&&l.all fun d=>!Nat.beq (id+d+1) base
def Gd.h (g:Gd)(base:Nat)(h:ab):ab:=
 match g with
 |.all=>h
 |.init a=>fun id=>cond (Gd.ok (.init a) base id) (h id) none
 |.bef m n=>fun id=>cond (Gd.ok (.bef m n) base id) (h id) none
 |.hide=>fun _=>none
 |.at d=>fun id=>cond (Gd.ok (.at d) base id) (h id) none
 |.but l m n=>fun id=>cond (Gd.ok (.but l m n) base id) (h id) none
def Gd.z (g:Gd)(base:Nat)(z:Frz):Frz:=
 match g with
 |.all=>z
 |.init a=>fun id=>cond (Gd.ok (.init a) base id) (z id) 0
 |.bef m n=>fun id=>cond (Gd.ok (.bef m n) base id) (z id) 0
 |.hide=>fun _=>0
 |.at d=>fun id=>cond (Gd.ok (.at d) base id) (z id) 0
 |.but l m n=>fun id=>cond (Gd.ok (.but l m n) base id) (z id) 0
inductive FK where
 |bool
 |int
 |str
inductive EqK where
 |no
 |nil
 |bool
 |flat (ks:List FK)
 |mnil
 |str
inductive CvK where
 |no
 |int (k:IntKind)
 |float (k:FloatKind)
 |str
 |bytes
inductive ApK where
 |room
 |str
 |sl
inductive LnK where
 |str
 |arr (n:Nat)
 |sl
 |map
structure El where
 n:Nat
 b:Nat
 d:D
inductive KOp where
 |mov (x:X)
 |pick (c a b:X)
 |new (n:Nat) (d:D)
 |box (n:Nat) (x:X)
 |build (cells:Hm) (parts:List (Nat×Nat×X))
 |buildSlice (n:Nat) (len:Nat) (es:Hm) (parts:List (Nat×X))
 |load (hint ag:Bool) (n:Nat) (a:X)
 |store (hint:Bool) (n:Nat) (a v:X)
 |nilCheck (x:X)
 |bin (op:BinOp) (e:EqK) (x y:X)
 |un (op:UnOp) (x:X)
 |conv (k:CvK) (x:X)
 |mkfn (f:FuncId) (a c:List X)
 |mkmap
 |mkslice (e:El) (l c:X)
 |slstr (x:X) (lo hi mx:Option X)
 |slsl (n:Nat) (x:X) (lo hi mx:Option X)
 |slarr (n:Nat) (ag:Bool) (k:Nat) (x:X)
 |off (n:Nat) (x:X)
 |ixs (n:Nat) (x ix:X)
 |ixa (len n:Nat) (x ix:X)
 |ia (len:Nat) (ag:Bool) (n:Nat) (x ix:X)
 |istr (x ix:X)
 |lookup (e:EqK) (z:D) (x k:X) (ok:Bool)
 |mapset (e:EqK) (m k v:X)
 |extract (x:X) (i:Nat)
 |callF (f:FuncId) (args:List X)
 |callV (f:X) (args:List X)
 |callW (f:X) (args:List X)
 |append (e:El) (k:ApK) (s x:X)
 |copy (n:Nat) (s x:X)
 |clear (e:El) (s:X)
 |len (k:LnK) (x:X)
 |cap0 (x:X)
 |mm (mx:Bool) (args:List X)
 |stuck
structure KOper where
 i:Nat
 dst:Option Nat
 guard:Option (Nat×Bool)
 g:Gd
 op:KOp
inductive K where
 |skip
 |ops (off n:Nat) (l:List KOper)
 |seq (a b:K)
 |cond (c:X) (a b:K)
 |block (id:Nat) (c:K)
 |loop (live:Live) (c:K)
 |ploop (pn:Nat) (live:Live) (c:K)
 |dops (n:Nat) (l:List KOper)
 |dloop (c:K)
 |exit (id:Nat)
 |ret
inductive KRes where
 |t (i:Nat)
 |cell (a:Nat) (ag:Bool) (n:Nat)
structure KFn where
 code:K
 res:List KRes
 em:Bool
 gv:List Nat
 hr:List Nat
universe u
def f0 {α:Sort u}(d:D)(k:D->α):α:=
 match d with
 |.bool b=>k (.bool b)
 |.int i n=>k (.int i n)
 |.float i n=>k (.float i n)
 |.str s=>k (.str s)
 |.nilsl=>k .nilsl
 |.lst l=>k (.lst l)
 |.ref a b c=>k (.ref a b c)
 |.pl e o=>k (.pl e o)
 |.ptr a b c=>k (.ptr a b c)
 |.agg l=>k (.agg l)
 |.tup l=>k (.tup l)
 |.fn f a c=>k (.fn f a c)
 |.mref i=>k (.mref i)
 |.mlst a b=>k (.mlst a b)
 |.opq v=>k (.opq v)
 |.bad=>k .bad
def fL0 {α:Sort u}:Hm->(Hm->α)->α
 |[],k=>k []
 |x::a,k=>f0 x fun x=>fL0 a fun a=>k (x::a)
def fA {α:Sort u}(d:D)(k:D->α):α:=
 f0 d fun d=>match d with
  |.agg l=>fL0 l fun l=>k (.agg l)
  |d=>k d
def f1 {α:Sort u}(d:D)(k:D->α):α:=
 f0 d fun d=>match d with
  |.agg l=>fL0 l fun l=>k (.agg l)
  |.pl e o=>fA e fun e=>k (.pl e o)
  |d=>k d
def fL1 {α:Sort u}:Hm->(Hm->α)->α
 |[],k=>k []
 |x::a,k=>f1 x fun x=>fL1 a fun a=>k (x::a)
def f2 {α:Sort u}(d:D)(k:D->α):α:=
 f0 d fun d=>match d with
  |.agg l=>fL0 l fun l=>k (.agg l)
  |.pl e o=>fA e fun e=>k (.pl e o)
  |.tup l=>fL1 l fun l=>k (.tup l)
  |d=>k d
def wb (b:Bool)(x y:Prop):Prop:=
 match b with
 |true=>x
 |false=>y
def wo {α:Type}(o:Option α)(k:α->Prop):Prop:=
 match o with
 |some x=>k x
 |none=>False
def cJ (p x:Prop):Prop:=p/\x
def wnat (n:Int)(k:Nat->Prop):Prop:=
 match n with
 |.ofNat i=>k i
 |.negSucc _=>False
def jY (d:D)(k:Nat->Prop):Prop:=
 match d with
 |.int _ n=>wnat n k
 |_=>False
def ka {α:Type}:List α->Nat->(α->Prop)->Prop
 |[],_,_=>False
 |x::_,0,k=>k x
 |_::a,i+1,k=>ka a i k
def r9 (n:Nat)(es:Hm)(off len:Nat)(k:Hm->Prop):Prop:=
 (off+len<=es.length/\((es.drop off).take len).all (fun d=>d.cells.length==n)=true)/\k ((es.drop off).take len)
def wall (n:Nat)(es:Hm)(k:Hm->Prop):Prop:=
 es.all (fun d=>d.cells.length==n)=true/\k es
def mh (n:Nat)(h:ab)(x:D)(k:Hm->Prop):Prop:=
 match x with
 |.nilsl=>k []
 |.lst l=>wall n l k
 |.ref id off len=>
  match h id with
  |some (.row es _)=>r9 n es off len k
  |_=>False
 |_=>False
def ltb (x y:Int):Bool:=decide (x<y)
def leb (x y:Int):Bool:=decide (x<=y)
def eqb (x y:Int):Bool:=x==y
def nqb (x y:Int):Bool:=x !=y
def n8:FK->D->D->Option Bool
 |.bool,.bool a,.bool b=>some (a==b)
 |.int,.int i a,.int j b=>if i=j then some (eqb a b)else none
 |.str,.str a,.str b=>some (a==b)
 |_,_,_=>none
def nQ:List FK->Hm->Hm->Option Bool
 |[],[],[]=>some true
 |k::a,x::c,y::ys=>
  match n8 k x y,nQ a c ys with
  |some b,some r=>some (b&&r)
  |_,_=>none
 |_,_,_=>none
def lf (e:EqK)(x y:D):Option Bool:=
 match e,x,y with
 |.bool,.bool a,.bool b=>some (a==b)
 |.flat c,.agg d,.agg ys=>nQ c d ys
 |.nil,x,_=>match pk x with|true=>some false|false=>none
 |.mnil,x,_=>nZ x
 |_,_,_=>none
def re (op:BinOp)(k:IntKind)(x y:Int)(c:D->Prop):Prop:=
 match op with
 |.add=>c (.int k (k.wrap (x+y)))
 |.sub=>c (.int k (k.wrap (x-y)))
 |.mul=>c (.int k (k.wrap (x*y)))
 |.quo=>cJ (y≠0) (c (.int k (k.wrap (x.tdiv y))))
 |.rem=>cJ (y≠0) (c (.int k (x.tmod y)))
 |.and=>c (.int k (k.wrap (BitVec.ofInt k.bits x&&&BitVec.ofInt k.bits y).toNat))
 |.or=>c (.int k (k.wrap (BitVec.ofInt k.bits x|||BitVec.ofInt k.bits y).toNat))
 |.xor=>c (.int k (k.wrap (BitVec.ofInt k.bits x^^^BitVec.ofInt k.bits y).toNat))
 |.andNot=>c (.int k (k.wrap (BitVec.ofInt k.bits x&&& ~~~BitVec.ofInt k.bits y).toNat))
 |.eql=>c (.bool (eqb x y))
 |.neq=>c (.bool (nqb x y))
 |.lss=>c (.bool (ltb x y))
 |.leq=>c (.bool (leb x y))
 |.gtr=>c (.bool (ltb y x))
 |.geq=>c (.bool (leb y x))
 |.shl=>cJ (0<=y) (c (.int k (k.wrap (x*2^min y.toNat k.bits))))
 |.shr=>cJ (0<=y) (c (.int k (x.fdiv (2^min y.toNat k.bits))))
def kr (op:BinOp)(e:EqK)(x y:D)(c:D->Prop):Prop:=
 match x,y with
 |.int k a,.int d b=>
  match jS op||decide (k=d)with
  |true=>re op k a b c
  |false=>False
 |.str a,.str b=>wo (sX op a b) c
 |x,y=>
  match op with
  |.eql=>wo (lf e x y) fun b=>c (.bool b)
  |.neq=>wo (lf e x y) fun b=>c (.bool !b)
  |_=>False
def kun (op:UnOp)(x:D)(c:D->Prop):Prop:=
 match op,x with
 |.neg,.int k n=>c (.int k (k.wrap (0-n)))
 |.not,.bool b=>c (.bool !b)
 |op,x=>wo (un op x) c
def me (h:ab)(k:CvK)(x:D)(c:D->Prop):Prop:=
 match k with
 |.no=>False
 |.int k=>
  match x with
  |.int _ n=>c (.int k (k.wrap n))
  |.float s b=>wo ((s.decode b).toInt .zero) fun n=>cJ (k.min<=n/\n<=k.max) (c (.int k n))
  |_=>False
 |.float k=>
  match x with
  |.int _ n=>c (.float k (k.nearest n))
  |_=>False
 |.str=>
  match x with
  |.str s=>c (.str s)
  |_=>False
 |.bytes=>
  match x with
  |.str s=>c (.str s)
  |x=>mh 1 h x fun l=>wo (mi l) fun a=>c (.str ⟨a.toArray⟩)
def ot (ag:Bool)(n:Nat)(e:D)(o:Nat)(c:D->Prop):Prop:=
 fA e fun e=>
  match ag with
  |true=>
   match Nat.ble (o+n) e.cells.length with
   |true=>c (.agg ((e.cells.drop o).take n))
   |false=>False
  |false=>ka e.cells o c
def oH (h:ab)(ag:Bool)(n:Nat)(a:D)(c:D->Prop):Prop:=
 match a with
 |.ptr id i o=>
  match h id with
  |some (.row es _)=>ka es i fun e=>ot ag n e o c
  |_=>False
 |.pl e o=>ot ag n e o c
 |_=>False
def th (e:D)(o:Nat)(vs:Hm)(c:D->Prop):Prop:=
 match e with
 |.agg cs=>
  match Nat.ble (o+vs.length) cs.length with
  |true=>fL0 (cs.take o++vs++cs.drop (o+vs.length)) fun l=>c (.agg l)
  |false=>False
 |_=>match o,vs with
  |0,[v]=>c v
  |_,_=>False
def kset:Hm->Nat->(D->(D->Prop)->Prop)->(Hm->Prop)->Prop
 |[],_,_,_=>False
 |x::a,0,f,c=>f x fun y=>c (y::a)
 |x::a,i+1,f,c=>kset a i f fun ys=>c (x::ys)
def qu (b:ab)(d:Frz)(h:ab)(n:Nat)(a v:D)(c:ab->Prop):Prop:=
 match a with
 |.ptr id i o=>
  match Nat.beq v.cells.length n&&v.sto with
  |true=>
   match b id with
   |some (.row es esz)=>cJ (d id<=i) (kset es i (fun e k=>fA e fun e=>th e o v.cells k) fun es'=>c (upd h id (some (.row es' esz))))
   |_=>False
  |false=>False
 |_=>False
def kixs (h:ab)(n:Nat)(x a:D)(c:D->Prop):Prop:=
 match x with
 |.lst l=>jY a fun i=>ka l i fun d=>fA d fun d=>
   match Nat.beq d.cells.length n&&Nat.blt 0 n with
   |true=>c (.pl d 0)
   |false=>False
 |.ref id off len=>
  match h id with
  |some (.row _ esz)=>
   match Nat.beq esz n with
   |true=>jY a fun i=>cJ (i<len) (c (.ptr id (off+i) 0))
   |false=>False
  |_=>False
 |_=>False
def kixa (len n:Nat)(x a:D)(c:D->Prop):Prop:=
 jY a fun i=>cJ (i<len) (wo (lA x (i*n)) c)
def kia (len:Nat)(ag:Bool)(n:Nat)(x a:D)(c:D->Prop):Prop:=
 match x with
 |.agg cs=>jY a fun i=>cJ (i<len) (
   match ag with
   |true=>cJ (i*n+n<=cs.length) (c (.agg ((cs.drop (i*n)).take n)))
   |false=>ka cs (i*n) c)
 |_=>False
def Nf (x a:D)(c:D->Prop):Prop:=
 match x with
 |.str s=>jY a fun i=>ka s.toList i fun b=>c (.int .u8 b.toNat)
 |_=>False
def jT (t:ai)(x:Option X)(a:Nat)(k:Nat->Prop):Prop:=
 match x with
 |none=>k a
 |some x=>jY (x.ev t) k
def I4 (t:ai)(x:D)(lo hi a:Option X)(c:D->Prop):Prop:=
 match x,a with
 |.str s,none=>jT t lo 0 fun l=>jT t hi s.size fun r=>cJ (l<=r/\r<=s.size) (c (.str (s.extract l r)))
 |_,_=>False
def p3 (t:ai)(h:ab)(n:Nat)(x:D)(lo hi d:Option X)(c:D->Prop):Prop:=
 match d with
 |none=>
  match x with
  |.nilsl=>jT t lo 0 fun a=>jT t hi 0 fun b=>cJ (a=0/\b=0) (c .nilsl)
  |.lst l=>wall n l fun l=>jT t lo 0 fun a=>jT t hi l.length fun b=>cJ (a<=b/\b<=l.length) (c (.lst ((l.drop a).take (b-a))))
  |.ref id off len=>
   match h id with
   |some (.row _ esz)=>
    match Nat.beq esz n with
    |true=>jT t lo 0 fun a=>jT t hi len fun b=>cJ (a<=b/\b<=len) (wb (Nat.beq a 0) (c (.ref id off b)) (wb (Nat.beq a b) (c (.lst [])) (c (.ref id (off+a) (b-a)))))
    |false=>False
   |_=>False
  |_=>False
 |some m=>
  match hi with
  |none=>False
  |some hi=>
   jT t lo 0 fun a=>jY (hi.ev t) fun b=>jY (m.ev t) fun k=>cJ (a=0/\b=0/\k=0) (
    match x with
    |.nilsl=>c .nilsl
    |.lst l=>wall n l fun _=>c .nilsl
    |.ref id _ _=>
     match h id with
     |some (.row _ esz)=>match Nat.beq esz n with|true=>c .nilsl|false=>False
     |_=>False
    |_=>False)
def Ld (a:ab)(n:Nat)(ag:Bool)(k:Nat)(x:D)(z:Frz)(c:D->Frz->Prop):Prop:=
 match x with
 |.ptr id i o=>
  match a id with
  |some (.row es _)=>ka es i fun e=>fA e fun e=>
   match Nat.blt 0 k&&Nat.ble (o+n*k) e.cells.length&&(ag||Nat.beq k 1)&&e.cells.all D.scalar with
   |true=>fL1 (chunks k ag n (e.cells.drop o)) fun l=>c (.lst l) (upd z id es.length)
   |false=>False
  |_=>False
 |_=>False
def p6 (t:ai)(a:Hm):List (Nat×Nat×X)->(Hm->Prop)->Prop
 |[],c=>c a
 |(off,size,x)::rest,c=>
  match Nat.beq (x.ev t).cells.length size&&Nat.ble (off+size) a.length&&(x.ev t).sto with
  |true=>fL0 (a.take off++(x.ev t).cells++a.drop (off+size)) fun a=>p6 t a rest c
  |false=>False
def pL (t:ai)(size:Nat)(es:Hm):List (Nat×X)->(Hm->Prop)->Prop
 |[],c=>c es
 |(i,x)::rest,c=>
  match Nat.beq (x.ev t).cells.length size&&Nat.blt i es.length&&(x.ev t).sto with
  |true=>fL1 (es.set i (x.ev t)) fun es=>pL t size es rest c
  |false=>False
def kA (d:ab)(a:Frz)(h:ab)(z:Frz)(id:Nat)(e:El)(s:D)(new:Hm)(c:D->ab->Frz->Prop):Prop:=
 match s with
 |.nilsl=>cJ (new.length*(e.b+1)<=aK) (c (.ref id 0 new.length) (upd h id (some (.row new e.n))) (upd z id 0))
 |.ref id0 0 len=>
  match d id0 with
  |some (.row es esz)=>
   match Nat.beq esz e.n with
   |true=>cJ (len<=es.length/\a id0<=len/\(len+new.length) *(e.b+1)<=aK) (c (.ref id 0 (len+new.length)) (upd (upd h id0 none) id (some (.row (es.take len++new) e.n))) (upd z id (a id0)))
   |false=>False
  |_=>False
 |_=>False
def rZ (a:ab)(f:Frz)(h:ab)(z:Frz)(id:Nat)(e:El)(k:ApK)(s x:D)(c:D->ab->Frz->Prop):Prop:=
 match k with
 |.room=>jY x fun n=>cJ (n<=aK) (kA a f h z id e s (List.replicate n e.d) c)
 |.str=>
  match x with
  |.str b=>wall e.n (b.toList.map fun c=> .int .u8 c.toNat) fun l=>kA a f h z id e s l c
  |_=>False
 |.sl=>mh e.n a x fun l=>kA a f h z id e s l c
def Bg (a:ab)(b:Frz)(h:ab)(n:Nat)(s src:D)(c:D->ab->Prop):Prop:=
 match s with
 |.ref id off len=>
  match a id with
  |some (.row es esz)=>
   match Nat.beq n esz with
   |true=>mh n a src fun l=>cJ (off+len<=es.length/\b id<=off)
     (c (.int .i64 (min l.length len:Nat)) (upd h id (some (.row (es.take off++l.take (min l.length len)++es.drop (off+min l.length len)) esz))))
   |false=>False
  |_=>False
 |_=>False
def D5 (a:ab)(b:Frz)(h:ab)(e:El)(s:D)(c:D->ab->Prop):Prop:=
 match s with
 |.ref id off len=>
  match a id with
  |some (.row es esz)=>
   match Nat.beq e.d.cells.length esz&&e.d.sto with
   |true=>cJ (off+len<=es.length/\b id<=off) (c (.tup []) (upd h id (some (.row (es.take off++List.replicate len e.d++es.drop (off+len)) esz))))
   |false=>False
  |_=>False
 |.nilsl=>c (.tup []) h
 |.lst l=>cJ (l=[]) (c (.tup []) h)
 |_=>False
def pz (h:ab)(k:LnK)(x:D)(c:D->Prop):Prop:=
 match k with
 |.str=>match x with|.str s=>c (.int .i64 s.size) |_=>False
 |.arr n=>c (.int .i64 n)
 |.sl=>match x with|.nilsl=>c (.int .i64 0) |.lst l=>c (.int .i64 l.length) |.ref _ _ len=>c (.int .i64 len) |_=>False
 |.map=>match x with
  |.mlst a _=>c (.int .i64 a.length)
  |.mref id=>match h id with|some (.mp a _)=>c (.int .i64 a.length) |_=>False
  |_=>False
def mq (e:EqK)(k x:D):Option Bool:=
 match k,x with
 |.str a,.str b=>match e with|.str=>some (a==b) |_=>none
 |.agg a,.agg b=>match e with|.flat c=>nQ c a b|_=>none
 |_,_=>none
def AM (e:EqK)(k:D):Bool:=
 match e,k with
 |.str,.str _=>true
 |.flat a,.agg l=>l.all D.scalar&&Nat.beq a.length l.length
 |_,_=>false
def iD (e:EqK)(k:D):Hm->Nat->Option (Option Nat)
 |[],_=>some none
 |x::a,i=>
  match mq e k x with
  |some true=>some (some i)
  |some false=>iD e k a (i+1)
  |none=>none
def kf (e:EqK)(s:D)(a:Hm)(k:Option Nat->Prop):Prop:=AM e s=true/\∃o,iD e s a 0=some o/\k o
def qs (e:EqK)(z:D)(a:Hm)(vs:Hm)(k:D)(ok:Bool)(c:D->Prop):Prop:=
 kf e k a fun o=>
  match o with
  |some i=>ka vs i fun v=>c (match ok with|true=> .tup [v,.bool true] |false=>v)
  |none=>c (match ok with|true=> .tup [z,.bool false] |false=>z)
def r7 (e:EqK)(h:ab)(z:D)(m k:D)(ok:Bool)(c:D->Prop):Prop:=
 match m with
 |.mlst a vs=>qs e z a vs k ok c
 |.mref id=>match h id with
  |some (.mp a vs)=>qs e z a vs k ok c
  |_=>False
 |_=>False
def qJ (e:EqK)(b:ab)(d:Frz)(h:ab)(m k v:D)(c:ab->Prop):Prop:=
 match m with
 |.mref id=>
  match b id,d id with
  |some (.mp a vs),0=>kf e k a fun o=>
   match o with
   |some i=>c (upd h id (some (.mp a (vs.set i v))))
   |none=>c (upd h id (some (.mp (a++[k]) (vs++[v]))))
  |_,_=>False
 |_=>False
def DS (d:D)(i:Nat)(c:D->Prop):Prop:=
 match d with
 |.tup l=>ka l i c
 |_=>False
def kM (h:ab)(es:Hm)(off len:Nat)(k:Hm->Prop):Prop:=∃l,off+len<=es.length/\((es.drop off).take len).mapM (aG h 8)=some l/\k l
def EK (h:ab)(vs:Hm)(k:Hm->Prop):Prop:=∃l,vs.mapM (aG h 8)=some l/\k l
def wptr (h:ab)(id i o:Nat)(k:D->Prop):Prop:=∃a,aG h 8 (.ptr id i o)=some a/\k a
def ws0 (h:ab)(d:D)(k:D->Prop):Prop:=
 match d with
 |.bool b=>k (.bool b)
 |.int i n=>k (.int i n)
 |.float i n=>k (.float i n)
 |.str s=>k (.str s)
 |.nilsl=>k (.lst [])
 |.lst l=>k (.lst l)
 |.ref id off len=>
  match h id with
  |some (.row es _)=>kM h es off len fun l=>k (.lst l)
  |_=>False
 |.mlst a b=>k (.mlst a b)
 |.mref id=>
  match h id with
  |some (.mp g vs)=>EK h vs fun l=>k (.mlst g l)
  |_=>False
 |.pl e o=>k (.pl e o)
 |.ptr id i o=>wptr h id i o k
 |.opq v=>k (.opq v)
 |.fn f a c=>match a,c with|[],[]=>k (.fn f [] []) |_,_=>False
 |_=>False
def lE (h:ab):Hm->(Hm->Prop)->Prop
 |[],k=>k []
 |x::a,k=>ws0 h x fun x=>lE h a fun a=>k (x::a)
def ws1 (h:ab)(d:D)(k:D->Prop):Prop:=
 match d with
 |.agg l=>lE h l fun l=>k (.agg l)
 |.fn f a c=>lE h a fun a=>lE h c fun c=>k (.fn f a c)
 |d=>ws0 h d k
def iA (h:ab):Hm->(Hm->Prop)->Prop
 |[],k=>k []
 |x::a,k=>ws1 h x fun x=>iA h a fun a=>k (x::a)
def ws2 (h:ab)(d:D)(k:D->Prop):Prop:=
 match d with
 |.tup l=>iA h l fun l=>k (.tup l)
 |d=>ws1 h d k
abbrev Shr:=FuncId->Hm->ab->Frz->Nat->(D->ab->Frz->Nat->Prop)->Prop
structure Tab where
 pu:Pure
 shared:FuncId->Bool
 tab:FuncId->Option KFn
def mf (a:Pure)(f:FuncId)(args:Hm)(k:D->Prop):Prop:=∃r,a f args=some r/\k r
def eQ (T:Tab)(sh:Shr)(a:ab)(h:ab)(z:Frz)(nx:Nat)(f:FuncId)(args:Hm)(c:D->ab->Frz->Nat->Prop):Prop:=
 match T.shared f with
 |true=>sh f args h z nx c
 |false=>iA a args fun b=>mf T.pu f b fun r=>f2 r fun r=>
  match noRef 4 r with
  |true=>c r h z nx
  |false=>
   match args.flatMap (aN a depth)with
   |[]=>c r h z nx
   |i::l=>c r h (nl a z (i::l)) nx
def kmm2 (d:Bool)(x y:D)(c:D->Prop):Prop:=
 match x,y with
 |.int k a,.int e b=>
  match decide (k=e)with
  |true=>
   match d with
   |true=>c (.int k (max a b))
   |false=>c (.int k (min a b))
  |false=>False
 |_,_=>False
def kmm (a:Bool):D->Hm->(D->Prop)->Prop
 |x,[],c=>c x
 |x,y::rest,c=>kmm2 a x y fun x=>kmm a x rest c
def kop (T:Tab)(sh:Shr)(o:KOp)(t:ai)(g:ab)(p:Frz)(h:ab)(z:Frz)(nx id:Nat)(c:D->ab->Frz->Nat->Prop):Prop:=
 match o with
 |.mov x=>c (x.ev t) h z nx
 |.pick x a b=>
  match x.ev t with
  |.bool d=>wb d (c (a.ev t) h z nx) (c (b.ev t) h z nx)
  |_=>False
 |.new n d=>c (.ptr id 0 0) (upd h id (some (.row [d] n))) (upd z id 0) nx
 |.box n x=>fA (x.ev t) fun d=>
  match Nat.beq d.cells.length n&&Nat.blt 0 n&&d.sto with
  |true=>c (.ptr id 0 0) (upd h id (some (.row [d] n))) (upd z id 0) nx
  |false=>False
 |.build cells parts=>p6 t cells parts fun l=>c (.agg l) h z nx
 |.buildSlice n len es parts=>pL t n es parts fun l=>c (.ref id 0 len) (upd h id (some (.row l n))) (upd z id 0) nx
 |.load _ ag n a=>oH g ag n (a.ev t) fun d=>c d h z nx
 |.store _ n a v=>qu g p h n (a.ev t) (v.ev t) fun h=>c (.tup []) h z nx
 |.nilCheck x=>
  match x.ev t with
  |.ptr a b e=>c (.ptr a b e) h z nx
  |.pl e o=>c (.pl e o) h z nx
  |_=>False
 |.bin op e x y=>kr op e (x.ev t) (y.ev t) fun d=>c d h z nx
 |.un op x=>kun op (x.ev t) fun d=>c d h z nx
 |.conv k x=>me g k (x.ev t) fun d=>c d h z nx
 |.mkfn f a e=>c (.fn f (a.map (·.ev t)) (e.map (·.ev t))) h z nx
 |.mkmap=>c (.mref id) (upd h id (some (.mp [] []))) (upd z id 0) nx
 |.mkslice e l k=>
  match l.ev t,k.ev t with
  |.int .i64 l,.int .i64 k=>wnat l fun l=>cJ ((l:Int)<=k/\k*(e.b+1)<=aK) (c (.ref id 0 l) (upd h id (some (.row (List.replicate l e.d) e.n))) (upd z id 0) nx)
  |_,_=>False
 |.slstr x lo hi q=>I4 t (x.ev t) lo hi q fun d=>c d h z nx
 |.slsl n x lo hi q=>p3 t g n (x.ev t) lo hi q fun d=>c d h z nx
 |.slarr n ag k x=>Ld g n ag k (x.ev t) z fun d z=>c d h z nx
 |.off n x=>wo (lA (x.ev t) n) fun d=>c d h z nx
 |.ixs n x j=>kixs g n (x.ev t) (j.ev t) fun d=>c d h z nx
 |.ixa len n x j=>kixa len n (x.ev t) (j.ev t) fun d=>c d h z nx
 |.ia len ag n x j=>kia len ag n (x.ev t) (j.ev t) fun d=>c d h z nx
 |.istr x j=>Nf (x.ev t) (j.ev t) fun d=>c d h z nx
 |.lookup e d x k ok=>r7 e g d (x.ev t) (k.ev t) ok fun d=>c d h z nx
 |.mapset e m k v=>qJ e g p h (m.ev t) (k.ev t) (v.ev t) fun h=>c (.tup []) h z nx
 |.extract x i=>DS (x.ev t) i fun d=>c d h z nx
 |.callF f args=>eQ T sh g h z nx f (args.map (·.ev t)) c
 |.callV f args=>
  match f.ev t with
  |.fn f a e=>
   match T.shared f with
   |false=>eQ T sh g h z nx f (a++args.map (·.ev t)++e) c
   |true=>False
  |_=>False
 |.callW f args=>
  match f.ev t with
  |.fn f a e=>eQ T sh g h z nx f (a++args.map (·.ev t)++e) c
  |_=>False
 |.append e k s x=>rZ g p h z id e k (s.ev t) (x.ev t) fun d h z=>c d h z nx
 |.copy n s x=>Bg g p h n (s.ev t) (x.ev t) fun d h=>c d h z nx
 |.clear e s=>D5 g p h e (s.ev t) fun d h=>c d h z nx
 |.len k x=>pz g k (x.ev t) fun d=>c d h z nx
 |.cap0 x=>match x.ev t with|.nilsl=>c (.int .i64 0) h z nx|_=>False
 |.mm q args=>
  match args with
  |[]=>False
  |x::rest=>kmm q (x.ev t) (rest.map (·.ev t)) fun d=>c d h z nx
 |.stuck=>False
def wpo (T:Tab)(sh:Shr)(base:Nat):List KOper->ai->ab->Frz->Nat->(ai->ab->Frz->Nat->Prop)->Prop
 |[],t,h,z,nx,q=>q t h z nx
 |o::rest,t,h,z,nx,q=>
  match o.guard with
  |none=>kop T sh o.op t (o.g.h base h) (o.g.z base z) h z nx (base+o.i) fun v h z nx=>wpo T sh base rest (put t o.dst v) h z nx q
  |some (d,a)=>
   match t d with
   |.bool b=>
    match a with
    |true=>wb b
      (kop T sh o.op t (o.g.h base h) (o.g.z base z) h z nx (base+o.i) fun v h z nx=>wpo T sh base rest (put t o.dst v) h z nx q)
      (wpo T sh base rest (put t o.dst (.tup [])) h z nx q)
    |false=>wb b
      (wpo T sh base rest (put t o.dst (.tup [])) h z nx q)
      (kop T sh o.op t (o.g.h base h) (o.g.z base z) h z nx (base+o.i) fun v h z nx=>wpo T sh base rest (put t o.dst v) h z nx q)
   |.tup _=>wpo T sh base rest (put t o.dst (.tup [])) h z nx q
   |_=>False
abbrev Kept:=Hm×List (Option Blk)×List Nat
def mkT:Live->Hm->ai
 |x::live,v::vs=>upd (mkT live vs) x.1 v
 |_,_=>fun _=> .bad
def mkF {α:Type}(nx0:Nat)(a:Nat->α)(bot:α):List α->Nat->Nat->α
 |[],_=>fun id=>cond (Nat.blt id nx0) (a id) bot
 |x::b,j=>upd (mkF nx0 a bot b (j+1)) j x
def iP:Live->ai->ab->Frz->Nat->(ai->ab->Frz->Nat->Prop)->Prop
 |[],t,h,z,nx,k=>k t h z nx
 |x::rest,t,h,z,nx,k=>
  match x.2 with
  |0=>iP rest t h z nx k
  |e+1=>
   match t x.1 with
   |.nilsl=>iP rest (upd t x.1 (.ref nx 0 0)) (upd h nx (some (.row [] (e+1)))) (upd z nx 0) (nx+1) k
   |_=>iP rest t h z nx k
def oC (h:ab)(es:Hm)(k:Option (Hm×List Nat)->Prop):Prop:=
 (es.all (plain 4)=true/\k none)\/∃l rs,es.all (plain 4)=false/\es.mapM (aG h 8)=some l/\es.flatMap (aN h depth)=rs/\l.all (plain 4)=true/\k (some (l,rs))
def eZ:Live->ai->ab->Frz->(ab->Frz->Prop)->Prop
 |[],_,h,z,k=>k h z
 |x::rest,t,h,z,k=>
  match bi (t x.1)with
  |none=>
   match plain 4 (t x.1)with
   |true=>eZ rest t h z k
   |false=>False
  |some id=>
   match h id with
   |some (.row es esz)=>oC h es fun o=>
    match o with
    |none=>eZ rest t h z k
    |some (l,rs)=>eZ rest t (upd h id (some (.row l esz))) (nl h z rs) k
   |some (.mp _ vs)=>cJ (vs.all (plain 4)=true) (eZ rest t h z k)
   |none=>eZ rest t h z k
def pq (nx0:Nat)(ids:Ke)(t:ai):Live->(Hm->Prop)->Prop
 |[],k=>k []
 |x::rest,k=>f2 (bN nx0 ids (t x.1)) fun v=>pq nx0 ids t rest fun vs=>k (v::vs)
def pS {α:Type}(nx0:Nat)(ids:Ke)(bot:α)(h:Nat->α)(o:Option Nat)(j:Nat):α:=
 match o with
 |none=>bot
 |some x=>
  match Nat.ble nx0 x,placeOf ids x nx0 with
  |true,some i=>cond (Nat.beq i j) (h x) bot
  |_,_=>bot
def fB (b:Option Blk)(k:Option Blk->Prop):Prop:=
 match b with
 |none=>k none
 |some (.row es n)=>k (some (.row es n))
 |some (.mp a vs)=>k (some (.mp a vs))
def AQ (nx0:Nat)(ids:Ke)(h:ab):Ke->Nat->(List (Option Blk)->Prop)->Prop
 |[],_,k=>k []
 |o::rest,j,k=>fB (pS nx0 ids none h o j) fun b=>AQ nx0 ids h rest (j+1) fun a=>k (b::a)
def oh (nx0:Nat)(ids:Ke)(z:Frz):Ke->Nat->List Nat
 |[],_=>[]
 |o::rest,j=>pS nx0 ids 0 z o j::oh nx0 ids z rest (j+1)
def pG (nx0:Nat)(live:Live)(t:ai)(h:ab)(z:Frz)(nx:Nat)(k:ab->Frz->Kept->Prop):Prop:=
 iP live t h z nx fun t h z _=>eZ live t h z fun h z=>
  pq nx0 (bh t live) t live fun vs=>AQ nx0 (bh t live) h (bh t live) nx0 fun a=>k h z (vs,a,oh nx0 (bh t live) z (bh t live) nx0)
def iX (live:Live)(nx0:Nat)(h:ab):ab:=
 match eV live with
 |true=>h
 |false=>cz nx0 h
def bz (nx0:Nat)(live:Live)(t:ai)(h:ab)(z:Frz)(nx:Nat)(k:ab->Frz->Kept->Prop):Prop:=
 match eV live with
 |true=>∃h1 a kp,k h1 a kp/\mO nx0 live ⟨t,h,z,nx⟩=some ⟨mkT live kp.1,mkF nx0 h1 none kp.2.1 nx0,mkF nx0 a 0 kp.2.2 nx0,nx0+live.length⟩
 |false=>pG nx0 live t h z nx k
abbrev Wp:=ai->ab->Frz->Nat->(Ex->ai->ab->Frz->Nat->Prop)->Prop
def q5k (nx0:Nat)(live:Live)(W:Wp):Nat->Wp
 |0,_,_,_,_,_=>False
 |k+1,t,h,z,nx,q=>bz nx0 live t h z nx fun h z kp=>
  W (mkT live kp.1) (mkF nx0 (iX live nx0 h) none kp.2.1 nx0) (mkF nx0 z 0 kp.2.2 nx0) (nx0+live.length) fun a t h z nx=>
    match a with
    |.normal=>q5k nx0 live W k t h z nx q
    |.exit i=>q (.exit i) t h z nx
    |.ret=>q .ret t h z nx
def tA (nx0:Nat)(live:Live)(W:Wp):Wp:=q5k nx0 live W vU
def lp (N:Nat)(live:Live)(W:Wp):Nat->Wp
 |0,_,_,_,_,_=>False
 |k+1,t,h,z,nx,q=>
  match Nat.ble N nx with
  |true=>bz N live t h z nx fun h z kp=>
   W (mkT live kp.1) (mkF N (iX live N h) none kp.2.1 N) (mkF N z 0 kp.2.2 N) (N+live.length) fun a t h z nx=>
     match a with
     |.normal=>lp N live W k t h z nx q
     |.exit i=>q (.exit i) t h z nx
     |.ret=>q .ret t h z nx
  |false=>False
def BU (W:Wp):Nat->Wp
 |0,_,_,_,_,_=>False
 |k+1,t,h,z,nx,q=>W t h z nx fun a t h z nx=>
  match a with
  |.normal=>BU W k t h z nx q
  |.exit i=>q (.exit i) t h z nx
  |.ret=>q .ret t h z nx
def D1 (W:Wp):Wp:=BU W vU
def ZK (N:Nat)(live:Live)(W:Wp):Wp:=lp N live W vU
def wp (T:Tab)(sh:Shr)(nx0:Nat):K->Wp
 |.skip,t,h,z,nx,q=>q .normal t h z nx
 |.ops off n l,t,h,z,nx,q=>
  match Nat.ble nx (nx0+off)with
  |true=>wpo T sh (nx0+off) l t h z (nx0+off+n) (q .normal)
  |false=>False
 |.seq a b,t,h,z,nx,q=>wp T sh nx0 a t h z nx fun e t h z nx=>
  match e with
  |.normal=>wp T sh nx0 b t h z nx q
  |.exit i=>q (.exit i) t h z nx
  |.ret=>q .ret t h z nx
 |.cond c a b,t,h,z,nx,q=>
  match c.ev t with
  |.bool d=>wb d (wp T sh nx0 a t h z nx q) (wp T sh nx0 b t h z nx q)
  |_=>False
 |.block id c,t,h,z,nx,q=>wp T sh nx0 c t h z nx fun e t h z nx=>
  match e with
  |.normal=>q .normal t h z nx
  |.exit i=>match Nat.beq i id with|true=>q .normal t h z nx|false=>q (.exit i) t h z nx
  |.ret=>q .ret t h z nx
 |.loop live c,t,h,z,nx,q=>tA nx0 live (fun t h z nx q=>wp T sh nx0 c t h z nx q) t h z nx q
 |.ploop f live c,t,h,z,nx,q=>ZK (nx0+f) live (fun t h z nx q=>wp T sh nx0 c t h z nx q) t h z nx q
 |.dops n l,t,h,z,nx,q=>wpo T sh nx l t h z (nx+n) (q .normal)
 |.dloop c,t,h,z,nx,q=>D1 (fun t h z nx q=>wp T sh nx0 c t h z nx q) t h z nx q
 |.exit id,t,h,z,nx,q=>q (.exit id) t h z nx
 |.ret,t,h,z,nx,q=>q .ret t h z nx
def uR (t:ai)(h:ab)(r:KRes)(k:D->Prop):Prop:=
 match r with
 |.t i=>f2 (t i) k
 |.cell a ag n=>oH h ag n (t a) fun d=>f2 d k
def tn (t:ai)(h:ab):List KRes->(Hm->Prop)->Prop
 |[],k=>k []
 |r::rs,k=>uR t h r fun d=>tn t h rs fun a=>k (d::a)
def te (t:ai)(h:ab)(rs:List KRes)(k:D->Prop):Prop:=
 tn t h rs fun l=>match l with
  |[d]=>k d
  |l=>k (.tup l)
def bB (fn:KFn)(k:D->ab->Frz->Nat->Prop)(a:Ex)(t:ai)(h:ab)(z:Frz)(nx:Nat):Prop:=
 match a with
 |.exit _=>False
 |.normal=>te t h fn.res fun d=>k d h z nx
 |.ret=>te t h fn.res fun d=>k d h z nx
def tP (b:Pure)(c:List Nat)(args:Hm)(h:ab)(z:Frz)(nx:Nat)(k:D->ab->Frz->Nat->Prop):Prop:=
 ∃r h' z' a,fM b c args h z nx=some (r,h',z',a)/\k r h' z' a
def Tab.at (T:Tab)(hr:List Nat):Tab:=
 match hr with
 |[]=>T
 |l=>⟨T.pu,iI T.shared l,T.tab⟩
def shr (T:Tab):Nat->Shr
 |0,_,_,_,_,_,_=>False
 |n+1,f,args,h,z,nx,k=>
  match T.tab f with
  |some fn=>
   match fn.gv with
   |[]=>
    match fn.em&&fW args with
    |true=>k (.lst []) h z nx
    |false=>wp (T.at fn.hr) (shr T n) nx fn.code (enter args) h z nx (bB fn k)
   |a=>tP T.pu a args h z nx k
  |none=>False
def wfun (T:Tab)(fn:KFn)(args:Hm)(r:D):Prop:=
 wp (T.at fn.hr) (shr T 6) 0 fn.code (enter args) empty kl 0 (bB fn fun d h _ _=>ws2 h d fun d=>d=r)
attribute [irreducible] ltb leb eqb nqb cJ r9 wall kM EK wptr kf mf oC tA ZK D1 tP
end Go.F
namespace Go.F
universe u
theorem pT {α:Sort u}(d:D)(k:D->α):f0 d k=k d:=by cases d<;>rfl
theorem ke {α:Sort u}(l:Hm):∀(k:Hm->α),fL0 l k=k l:=by
 induction l with
 |nil=>intro k;rfl
 |cons x l a=>grind[fL0,pT]
theorem jy {α:Sort u}(d:D)(k:D->α):fA d k=k d:=by
 grind[fA,pT,ke]
theorem sB {α:Sort u}(d:D)(k:D->α):f1 d k=k d:=by
 grind[f1,pT,ke,jy]
theorem il {α:Sort u}(l:Hm):∀(k:Hm->α),fL1 l k=k l:=by
 induction l with
 |nil=>intro k;rfl
 |cons x l a=>grind[fL1,sB]
theorem iu {α:Sort u}(d:D)(k:D->α):f2 d k=k d:=by
 grind[f2,pT,ke,jy,il]
theorem fB_eq (b:Option Blk)(k:Option Blk->Prop):fB b k=k b:=by
 unfold fB;grind
def rC (ag:Bool)(n:Nat)(e:D)(o:Nat):Option D:=
 match ag with
 |true=>
  match Nat.ble (o+n) e.cells.length with
  |true=>some (.agg ((e.cells.drop o).take n))
  |false=>none
 |false=>e.cells[o]?
def vu (b:Bool)(h:ab)(ag:Bool)(n:Nat)(a:D):Option D:=
 match a with
 |.pl e o=>rC ag n e o
 |.ptr id i o=>
  match b with
  |true=>
   match h id with
   |some (.row (e::_) _)=>
    match i with
    |0=>rC ag n e o
    |_+1=>none
   |_=>none
  |false=>none
 |_=>none
def sC (e:D)(o:Nat)(vs:Hm):Option D:=
 match e with
 |.agg cs=>
  match Nat.ble (o+vs.length) cs.length with
  |true=>some (.agg (cs.take o++vs++cs.drop (o+vs.length)))
  |false=>none
 |_=>match o,vs with
  |0,[v]=>some v
  |_,_=>none
def DA (b:Bool)(c:ab)(d:Frz)(h:ab)(n:Nat)(a v:D):Option ab:=
 match b,a with
 |true,.ptr id i o=>
  match Nat.beq v.cells.length n&&v.sto with
  |true=>
   match c id with
   |some (.row (e::es) esz)=>
    match d id,i with
    |0,0=>
     match sC e o v.cells with
     |some e'=>fA e' fun e'=>some (upd h id (some (.row (e'::es) esz)))
     |none=>none
    |_,_=>none
   |_=>none
  |false=>none
 |_,_=>none
def dint (op:BinOp)(k:IntKind)(x y:Int):Option D:=
 match op with
 |.add=>some (.int k (k.wrap (x+y)))
 |.sub=>some (.int k (k.wrap (x-y)))
 |.mul=>some (.int k (k.wrap (x*y)))
 |.and=>some (.int k (k.wrap (BitVec.ofInt k.bits x&&&BitVec.ofInt k.bits y).toNat))
 |.or=>some (.int k (k.wrap (BitVec.ofInt k.bits x|||BitVec.ofInt k.bits y).toNat))
 |.xor=>some (.int k (k.wrap (BitVec.ofInt k.bits x^^^BitVec.ofInt k.bits y).toNat))
 |.andNot=>some (.int k (k.wrap (BitVec.ofInt k.bits x&&& ~~~BitVec.ofInt k.bits y).toNat))
 |.eql=>some (.bool (eqb x y))
 |.neq=>some (.bool (nqb x y))
 |.lss=>some (.bool (ltb x y))
 |.leq=>some (.bool (leb x y))
 |.gtr=>some (.bool (ltb y x))
 |.geq=>some (.bool (leb y x))
 |_=>none
def dbin (op:BinOp)(e:EqK)(x y:D):Option D:=
 match x,y with
 |.int k a,.int c b=>
  match decide (k=c)with
  |true=>dint op k a b
  |false=>none
 |.str a,.str b=>
  match op with
  |.eql=>some (.bool (a.toList==b.toList))
  |.neq=>some (.bool !(a.toList==b.toList))
  |_=>none
 |x,y=>
  match op with
  |.eql=>(lf e x y).map .bool
  |.neq=>(lf e x y).map fun b=> .bool !b
  |_=>none
def dun (op:UnOp)(x:D):Option D:=
 match op,x with
 |.neg,.int k n=>some (.int k (k.wrap (0-n)))
 |.not,.bool b=>some (.bool !b)
 |_,_=>none
def Ce (k:CvK)(x:D):Option D:=
 match k,x with
 |.int k,.int _ n=>some (.int k (k.wrap n))
 |.float k,.int _ n=>some (.float k (k.nearest n))
 |.str,.str s=>some (.str s)
 |.bytes,.str s=>some (.str s)
 |_,_=>none
def dlen (k:LnK)(x:D):Option D:=
 match k with
 |.str=>match x with|.str s=>some (.int .i64 s.size) |_=>none
 |.arr n=>some (.int .i64 n)
 |.sl=>match x with|.nilsl=>some (.int .i64 0) |.lst l=>some (.int .i64 l.length) |.ref _ _ len=>some (.int .i64 len) |_=>none
 |.map=>none
def tU (t:ai)(a:Hm):List (Nat×Nat×X)->Option Hm
 |[]=>some a
 |(off,size,x)::rest=>
  match Nat.beq (x.ev t).cells.length size&&Nat.ble (off+size) a.length&&(x.ev t).sto with
  |true=>fL0 (a.take off++(x.ev t).cells++a.drop (off+size)) fun a=>tU t a rest
  |false=>none
def uC (t:ai)(size:Nat)(es:Hm):List (Nat×X)->Option Hm
 |[]=>some es
 |(i,x)::rest=>
  match Nat.beq (x.ev t).cells.length size&&Nat.blt i es.length&&(x.ev t).sto with
  |true=>fL1 (es.set i (x.ev t)) fun es=>uC t size es rest
  |false=>none
def dmm2 (c:Bool)(x y:D):Option D:=
 match x,y with
 |.int k a,.int d b=>
  match decide (k=d)with
  |true=>
   match c with
   |true=>some (.int k (max a b))
   |false=>some (.int k (min a b))
  |false=>none
 |_,_=>none
def dmm (a:Bool):D->Hm->Option D
 |x,[]=>some x
 |x,y::rest=>
  match dmm2 a x y with
  |some x=>dmm a x rest
  |none=>none
def sS (l:Hm)(i:Nat):Option D:=
 match l,i with
 |[],_=>none
 |x::_,0=>some x
 |_::a,i+1=>sS a i
def JY (d:D)(i:Nat):Option D:=
 match d with
 |.tup l=>sS l i
 |_=>none
def d1 (o:Option D)(h:ab)(z:Frz):Option (D×ab×Frz):=
 match o with
 |some v=>some (v,h,z)
 |none=>none
def dop (o:KOp)(t:ai)(g:ab)(j:Frz)(h:ab)(z:Frz)(id:Nat):Option (D×ab×Frz):=
 match o with
 |.mov x=>some (x.ev t,h,z)
 |.new n d=>some (.ptr id 0 0,upd h id (some (.row [d] n)),upd z id 0)
 |.box n x=>fA (x.ev t) fun d=>
  match Nat.beq d.cells.length n&&Nat.blt 0 n&&d.sto with
  |true=>some (.ptr id 0 0,upd h id (some (.row [d] n)),upd z id 0)
  |false=>none
 |.build cells parts=>match tU t cells parts with|some l=>some (.agg l,h,z) |none=>none
 |.buildSlice n len es parts=>match uC t n es parts with|some l=>fL1 l fun l=>some (.ref id 0 len,upd h id (some (.row l n)),upd z id 0) |none=>none
 |.load c ag n a=>d1 (vu c g ag n (a.ev t)) h z
 |.store c n a v=>match DA c g j h n (a.ev t) (v.ev t)with|some h=>some (.tup [],h,z) |none=>none
 |.nilCheck x=>
  match x.ev t with
  |.ptr a b e=>some (.ptr a b e,h,z)
  |.pl e o=>some (.pl e o,h,z)
  |_=>none
 |.bin op e x y=>d1 (dbin op e (x.ev t) (y.ev t)) h z
 |.un op x=>d1 (dun op (x.ev t)) h z
 |.conv k x=>d1 (Ce k (x.ev t)) h z
 |.mkfn f a e=>some (.fn f (a.map (·.ev t)) (e.map (·.ev t)),h,z)
 |.mkmap=>some (.mref id,upd h id (some (.mp [] [])),upd z id 0)
 |.off n x=>d1 (lA (x.ev t) n) h z
 |.extract x i=>d1 (JY (x.ev t) i) h z
 |.len k x=>d1 (dlen k (x.ev t)) h z
 |.cap0 x=>match x.ev t with|.nilsl=>some (.int .i64 0,h,z) |_=>none
 |.mm m args=>
  match args with
  |[]=>none
  |x::rest=>d1 (dmm m (x.ev t) (rest.map (·.ev t))) h z
 |_=>none
inductive Fr where
 |ops (base:Nat) (res:List Nat) (l:List KOper)
 |code (k:K)
 |blk (id:Nat)
structure Cf where
 stk:List Fr
 ex:Ex
 t:ai
 h:ab
 z:Frz
 nx:Nat
def bW (nx0:Nat):Nat->List Fr->Ex->ai->ab->Frz->Nat->Cf
 |0,q,r,t,h,z,nx=>⟨q,r,t,h,z,nx⟩
 |n+1,q,r,t,h,z,nx=>
  match q with
  |[]=>⟨[],r,t,h,z,nx⟩
  |f::s=>
   match r with
   |.ret=>bW nx0 n s .ret t h z nx
   |.exit i=>
    match f with
    |.blk id=>
     match Nat.beq i id with
     |true=>bW nx0 n s .normal t h z nx
     |false=>bW nx0 n s (.exit i) t h z nx
    |_=>bW nx0 n s (.exit i) t h z nx
   |.normal=>
    match f with
    |.blk _=>bW nx0 n s .normal t h z nx
    |.code k=>
     match k with
     |.skip=>bW nx0 n s .normal t h z nx
     |.seq a b=>bW nx0 n (.code a::.code b::s) .normal t h z nx
     |.block id c=>bW nx0 n (.code c::.blk id::s) .normal t h z nx
     |.exit i=>bW nx0 n s (.exit i) t h z nx
     |.ret=>bW nx0 n s .ret t h z nx
     |.ops off m l=>
      match Nat.ble nx (nx0+off)with
      |true=>bW nx0 n (.ops (nx0+off) [] l::s) .normal t h z (nx0+off+m)
      |false=>⟨.code (.ops off m l)::s,.normal,t,h,z,nx⟩
     |.cond c a b=>⟨.code (.cond c a b)::s,.normal,t,h,z,nx⟩
     |.loop live c=>⟨.code (.loop live c)::s,.normal,t,h,z,nx⟩
     |.ploop u live c=>⟨.code (.ploop u live c)::s,.normal,t,h,z,nx⟩
     |.dops m l=>bW nx0 n (.ops nx [] l::s) .normal t h z (nx+m)
     |.dloop c=>⟨.code (.dloop c)::s,.normal,t,h,z,nx⟩
    |.ops base e l=>
     match l with
     |[]=>bW nx0 n s .normal t h z nx
     |o::rest=>
      match o with
      |⟨i,j,guard,g,op⟩=>
       match guard with
       |some (d,p)=>
        match e.any (Nat.beq d)with
        |false=>
         match t d with
         |.tup _=>
          match j with
          |some x=>bW nx0 n (.ops base e rest::s) .normal (upd t x (.tup [])) h z nx
          |none=>bW nx0 n (.ops base e rest::s) .normal t h z nx
         |_=>⟨.ops base e (⟨i,j,some (d,p),g,op⟩::rest)::s,.normal,t,h,z,nx⟩
        |true=>
         match t d with
         |.bool true=>
          match p with
          |true=>bW nx0 n (.ops base e (⟨i,j,none,g,op⟩::rest)::s) .normal t h z nx
          |false=>
           match j with
           |some x=>bW nx0 n (.ops base e rest::s) .normal (upd t x (.tup [])) h z nx
           |none=>bW nx0 n (.ops base e rest::s) .normal t h z nx
         |.bool false=>
          match p with
          |false=>bW nx0 n (.ops base e (⟨i,j,none,g,op⟩::rest)::s) .normal t h z nx
          |true=>
           match j with
           |some x=>bW nx0 n (.ops base e rest::s) .normal (upd t x (.tup [])) h z nx
           |none=>bW nx0 n (.ops base e rest::s) .normal t h z nx
         |_=>⟨.ops base e (⟨i,j,some (d,p),g,op⟩::rest)::s,.normal,t,h,z,nx⟩
       |none=>
        match op with
        |.pick c a b=>
         match c with
         |.t d=>
          match e.any (Nat.beq d)with
          |true=>
           match t d with
           |.bool true=>bW nx0 n (.ops base e (⟨i,j,none,g,.mov a⟩::rest)::s) .normal t h z nx
           |.bool false=>bW nx0 n (.ops base e (⟨i,j,none,g,.mov b⟩::rest)::s) .normal t h z nx
           |_=>⟨.ops base e (⟨i,j,none,g,.pick (.t d) a b⟩::rest)::s,.normal,t,h,z,nx⟩
          |false=>⟨.ops base e (⟨i,j,none,g,.pick (.t d) a b⟩::rest)::s,.normal,t,h,z,nx⟩
         |.c d=>⟨.ops base e (⟨i,j,none,g,.pick (.c d) a b⟩::rest)::s,.normal,t,h,z,nx⟩
        |op=>
         match dop op t (g.h base h) (g.z base z) h z (base+i)with
         |some (v,h,z)=>
          match j with
          |some x=>f2 v fun v=>bW nx0 n (.ops base e rest::s) .normal (upd t x v) h z nx
          |none=>bW nx0 n (.ops base e rest::s) .normal t h z nx
         |none=>⟨.ops base e (⟨i,j,none,g,op⟩::rest)::s,.normal,t,h,z,nx⟩
def wpM (T:Tab)(sh:Shr)(nx0:Nat):List Fr->Ex->Wp
 |[],a,t,h,z,nx,q=>q a t h z nx
 |f::s,a,t,h,z,nx,q=>
  match a with
  |.ret=>wpM T sh nx0 s .ret t h z nx q
  |.exit i=>
   match f with
   |.blk id=>
    match Nat.beq i id with
    |true=>wpM T sh nx0 s .normal t h z nx q
    |false=>wpM T sh nx0 s (.exit i) t h z nx q
   |_=>wpM T sh nx0 s (.exit i) t h z nx q
  |.normal=>
   match f with
   |.blk _=>wpM T sh nx0 s .normal t h z nx q
   |.code k=>wp T sh nx0 k t h z nx fun a t h z nx=>wpM T sh nx0 s a t h z nx q
   |.ops base _ l=>wpo T sh base l t h z nx fun t h z nx=>wpM T sh nx0 s .normal t h z nx q
section
variable {T:Tab}{sh:Shr}{nx0:Nat}
theorem nD {α:Type}:∀{l:List α} {i:Nat} {x:α} {k:α->Prop},l[i]?=some x->k x->ka l i k:=by
 intro l
 induction l with
 |nil=>simp
 |cons y l b=>
  intro i x k h a
  cases i with
  |zero=>simp at h;subst h;exact a
  |succ i=>exact b h a
theorem uF {α:Type}{o:Option α}{x:α}{k:α->Prop}(h:o=some x)(a:k x):wo o k:=by rw[h];exact a
theorem dC {p x:Prop}(h:p)(a:x):cJ p x:=by grind[cJ]
theorem BE {ag:Bool}{n:Nat}{e:D}{o:Nat}{d:D}{c:D->Prop}(h:rC ag n e o=some d)(a:c d):ot ag n e o c:=by
 grind[rC,ot,jy,nD]
theorem F7 {e:Bool}{h:ab}{ag:Bool}{n:Nat}{a d:D}{c:D->Prop}(b:vu e h ag n a=some d)(f:c d):oH h ag n a c:=by
 unfold vu at b;unfold oH;split at b
 grind[BE]
 .split at b
  .split at b
   .rename_i g;split at b
    .simp only[g];exact BE b f
    grind
   grind
  grind
 grind
theorem ND {e:D}{o:Nat}{vs:Hm}{e':D}{c:D->Prop}(a:sC e o vs=some e')(b:c e'):th e o vs c:=by
 unfold sC at a;grind[th,ke]
theorem XA {b:Bool}{d:ab}{e:Frz}{h:ab}{n:Nat}{a v:D}{h':ab}{c:ab->Prop}(f:DA b d e h n a v=some h')(g:c h'):qu d e h n a v c:=by
 unfold DA at f;split at f
 grind[jy,qu,dC,kset,ND];grind
theorem R7 {op:BinOp}{k:IntKind}{x y:Int}{d:D}{c:D->Prop}(a:dint op k x y=some d)(b:c d):re op k x y c:=by
 cases op<;>simp only[dint,zV,reduceCtorEq]at a<;>(subst a;exact b)
theorem S9 {op:BinOp}{e:EqK}{x y d:D}{c:D->Prop}(a:dbin op e x y=some d)(g:c d):kr op e x y c:=by
 unfold dbin at a;unfold kr;split at a
 .split at a
  simp_all[R7];grind
 grind[uF,sX]
 .split at a
  .cases f:lf e x y with
   |none=>grind
   |some b=>
    grind[uF]
  .cases f:lf e x y with
   |none=>grind
   |some b=>
    grind[uF]
  grind
theorem R9 {op:UnOp}{x d:D}{c:D->Prop}(a:dun op x=some d)(b:c d):kun op x c:=by
 unfold dun at a;grind[kun]
theorem Vi {h:ab}{k:CvK}{x d:D}{c:D->Prop}(a:Ce k x=some d)(b:c d):me h k x c:=by
 unfold Ce at a;grind[me]
theorem Xm {h:ab}{k:LnK}{x d:D}{c:D->Prop}(a:dlen k x=some d)(b:c d):pz h k x c:=by
 unfold dlen at a;grind[pz]
theorem Yy {t:ai}:∀{parts:List (Nat×Nat×X)} {a l:Hm} {c:Hm->Prop},tU t a parts=some l->c l->p6 t a parts c:=by
 intro parts
 induction parts with
 |nil=>intro a l c b d;simp[tU]at b;subst b;exact d
 |cons p parts e=>
  grind[tU,p6,ke]
theorem Sf {t:ai}{size:Nat}:∀{parts:List (Nat×X)} {es l:Hm} {c:Hm->Prop},uC t size es parts=some l->c l->pL t size es parts c:=by
 intro parts
 induction parts with
 |nil=>intro a l c b d;simp[uC]at b;subst b;exact d
 |cons p parts e=>
  grind[uC,pL,il]
theorem U7 {b:Bool}:∀{l:Hm} {x d:D} {c:D->Prop},dmm b x l=some d->c d->kmm b x l c:=by
 intro l
 induction l with
 |nil=>intro x d c a e;simp[dmm]at a;subst a;exact e
 |cons y l g=>
  intro x d c a e;simp only[dmm]at a;simp only[kmm];split at a
  .rename_i h f;unfold dmm2 at f;grind[kmm2]
  grind
theorem PQ:∀(l:Hm) (i:Nat),sS l i=l[i]?:=by
 intro l
 induction l with
 |nil=>simp[sS]
 |cons x l a=>
  intro i
  cases i with
  |zero=>rfl
  |succ i=>grind[sS]
theorem U3 {o:KOp}{t:ai}{b:ab}{d:Frz}{h:ab}{z:Frz}{nx id:Nat}{v:D}{h':ab}{z':Frz}{c:D->ab->Frz->Nat->Prop}(e:dop o t b d h z id=some (v,h',z'))(g:c v h' z' nx):
 kop T sh o t b d h z nx id c:=by
 have one:∀{o:Option D},d1 o h z=some (v,h',z')->o=some v/\h'=h/\z'=z:=by
  intro o f;unfold d1 at f;grind
 cases o<;>simp only[dop,reduceCtorEq]at e<;>simp only[kop];grind;grind;grind[jy];grind[Yy];grind[il,Sf];grind[F7]
 case store hint n a v'=>
  grind[XA]
 grind;grind[S9];grind[R9]
 case conv k x=>grind[Vi]
 grind;grind;grind[uF]
 case extract x i=>
  obtain⟨h1,rfl,rfl⟩:=one e;unfold JY at h1;grind[DS,PQ,nD]
 grind[Xm];grind;grind[U7]
theorem wp_mono:∀(k:K) {t:ai} {h:ab} {z:Frz} {nx:Nat} {q a:Ex->ai->ab->Frz->Nat->Prop},(∀b t h z nx,q b t h z nx=a b t h z nx)->wp T sh nx0 k t h z nx q=wp T sh nx0 k t h z nx a:=by
 intro k t h z nx q a c;have:q=a:=by grind
 grind
theorem Kh:∀(n:Nat) (r:List Fr) (u:Ex) (t:ai) (h:ab) (z:Frz) (nx:Nat) (q:Ex->ai->ab->Frz->Nat->Prop) (m:Cf),bW nx0 n r u t h z nx=m->
 wpM T sh nx0 m.stk m.ex m.t m.h m.z m.nx q->wpM T sh nx0 r u t h z nx q:=by
 intro n
 induction n with
 |zero=>simp[bW]
 |succ n a=>
  intro r u t h z nx q m hr c;simp only[bW]at hr
  have A:∀{p:List Fr},(⟨p,u,t,h,z,nx⟩:Cf)=m->wpM T sh nx0 p u t h z nx q:=by
   grind
  split at hr
  grind
  .rename_i f s;split at hr
   grind[wpM];grind[wpM]
   .split at hr
    grind[wpM]
    .rename_i k;split at hr
     grind[wpM,wp];grind[wpM,wp,wp_mono]
     .have:=a _ _ _ _ _ _ _ _ hr c;simp only[wpM,wp]at this⊢;grind
     grind[wpM,wp];grind[wpM,wp];grind[wpM,wp];grind;grind;grind;grind[wpM,wp];grind
    rename_i base w l;split at hr
    grind[wpM,wpo]
    .rename_i o rest;obtain⟨i,x,guard,g,op⟩:=o;simp at hr;split at hr
     .rename_i d e
      have skip:(∃b,t d=.bool b/\b≠e)\/(∃l,t d=.tup l)->wpM T sh nx0 (.ops base w rest::s) .normal (put t x (.tup [])) h z nx q->wpM T sh nx0 (.ops base w (⟨i,x,some (d,e),g,op⟩::rest)::s) .normal t h z nx q:=by
       intro D B;simp only[wpM,wpo]at B⊢;rcases D with⟨b,j,y⟩ |⟨l,C⟩
       .rw[j];cases e<;>cases b<;>first|(exact absurd rfl y) |exact B
       grind
      split at hr
      .split at hr
       .rename_i l C;refine skip (.inr ⟨_,C⟩) ?_;split at hr
        .exact a _ _ _ _ _ _ _ _ hr c
        exact a _ _ _ _ _ _ _ _ hr c
       grind
      split at hr
      .rename_i j;split at hr
       .have:=a _ _ _ _ _ _ _ _ hr c;simp only[wpM,wpo,j]at this⊢
        trivial
       refine skip (.inl ⟨true,j,by simp⟩) ?_;split at hr
       .exact a _ _ _ _ _ _ _ _ hr c
       exact a _ _ _ _ _ _ _ _ hr c
      .rename_i j;split at hr
       .have:=a _ _ _ _ _ _ _ _ hr c;simp only[wpM,wpo,j]at this⊢
        trivial
       refine skip (.inl ⟨false,j,by simp⟩) ?_;split at hr
       .exact a _ _ _ _ _ _ _ _ hr c
       exact a _ _ _ _ _ _ _ _ hr c
      grind
     split at hr
     .split at hr
      .split at hr
       .split at hr
        .rename_i j;have:=a _ _ _ _ _ _ _ _ hr c;simp only[wpM,wpo,kop,X.ev,j]at this⊢
         trivial
        .rename_i j;have:=a _ _ _ _ _ _ _ _ hr c;simp only[wpM,wpo,kop,X.ev,j]at this⊢
         trivial
        grind
       grind
      grind
     split at hr
     .rename_i v h' z' E;simp only[wpM,wpo];refine U3 E ?_;split at hr
      .rw[iu]at hr;have:=a _ _ _ _ _ _ _ _ hr c
       trivial
      have:=a _ _ _ _ _ _ _ _ hr c
      trivial
     grind
end
end Go.F
namespace Go.F
universe u
section
variable {T:Tab}{sh:Shr}{nx0:Nat}{stk s:List Fr}{ex:Ex}{t:ai}{h:ab}{z:Frz}{nx:Nat}{q:Ex->ai->ab->Frz->Nat->Prop}
theorem go (n:Nat){a:List Fr}{b:Ex}{t':ai}{h':ab}{z':Frz}{c:Nat}(hr:bW nx0 n stk ex t h z nx=⟨a,b,t',h',z',c⟩)(d:wpM T sh nx0 a b t' h' z' c q):wpM T sh nx0 stk ex t h z nx q:=
 Kh n stk ex t h z nx q _ hr d
def canGo (stk:List Fr)(ex:Ex)(t:ai)(h:ab)(z:Frz):Bool:=
 match stk with
 |[]=>false
 |f::_=>
  match ex with
  |.ret=>true
  |.exit _=>true
  |.normal=>
   match f with
   |.blk _=>true
   |.code k=>
    match k with
    |.cond _ _ _=>false
    |.loop _ _=>false
    |_=>true
   |.ops base a l=>
    match l with
    |[]=>true
    |⟨i,_,guard,g,op⟩::_=>
     match guard with
     |some (d,_)=>
      match a.any (Nat.beq d)with
      |true=>true
      |false=>match t d with|.tup _=>true|_=>false
     |none=>
      match op with
      |.pick c _ _=>match c with|.t d=>a.any (Nat.beq d) |.c _=>false
      |op=>match dop op t (g.h base h) (g.z base z) h z (base+i)with|some _=>true|none=>false
theorem goP (n:Nat){a:List Fr}{b:Ex}{t':ai}{h':ab}{z':Frz}{c:Nat}(e:canGo stk ex t h z=true)(hr:bW nx0 n stk ex t h z nx=⟨a,b,t',h',z',c⟩)(d:wpM T sh nx0 a b t' h' z' c q):wpM T sh nx0 stk ex t h z nx q:=by
 exact Kh n stk ex t h z nx q _ hr d
theorem bo {ex:Ex}(a:q ex t h z nx):wpM T sh nx0 [] ex t h z nx q:=a
theorem bP {base i:Nat}{a:List Nat}{b:Option Nat}{g:Gd}{op:KOp}{rest:List KOper}
 (c:kop T sh op t (g.h base h) (g.z base z) h z nx (base+i) fun v h z nx=>wpM T sh nx0 (.ops base a rest::s) .normal (put t b v) h z nx q):
 wpM T sh nx0 (.ops base a (⟨i,b,none,g,op⟩::rest)::s) .normal t h z nx q:=by
 simp only[wpM,wpo]at c⊢;omega
theorem dY {α:Type}{f:Nat->α}{i:Nat}{v:α}(a:f i=v):upd f i v=f:=by
 grind[upd,Nat.eq_of_beq_eq_true]
theorem au {base i d:Nat}{c:List Nat}{e:Option Nat}{a:Bool}{g:Gd}{op:KOp}{rest:List KOper}{b:Bool}(f:t d=.bool b)
 (j:b=true->wpM T sh nx0 (.ops base (d::c) (⟨i,e,some (d,a),g,op⟩::rest)::s) .normal (upd t d (.bool true)) h z nx q)
 (k:b=false->wpM T sh nx0 (.ops base (d::c) (⟨i,e,some (d,a),g,op⟩::rest)::s) .normal (upd t d (.bool false)) h z nx q):
 wpM T sh nx0 (.ops base c (⟨i,e,some (d,a),g,op⟩::rest)::s) .normal t h z nx q:=by
 cases b with
 |true=>grind[dY,wpM]
 |false=>grind[dY,wpM]
theorem gr {base i d:Nat}{b:List Nat}{c:Option Nat}{a:Bool}{g:Gd}{op:KOp}{rest:List KOper}(e:t d=.bool true)
 (f:wpM T sh nx0 (.ops base (d::b) (⟨i,c,some (d,a),g,op⟩::rest)::s) .normal t h z nx q):
 wpM T sh nx0 (.ops base b (⟨i,c,some (d,a),g,op⟩::rest)::s) .normal t h z nx q:=by
 trivial
theorem aq {base i d:Nat}{b:List Nat}{c:Option Nat}{a:Bool}{g:Gd}{op:KOp}{rest:List KOper}(e:t d=.bool false)
 (f:wpM T sh nx0 (.ops base (d::b) (⟨i,c,some (d,a),g,op⟩::rest)::s) .normal t h z nx q):
 wpM T sh nx0 (.ops base b (⟨i,c,some (d,a),g,op⟩::rest)::s) .normal t h z nx q:=by
 trivial
theorem aL {base i:Nat}{d:List Nat}{e:Option Nat}{g:Gd}{c a b:X}{rest:List KOper}{x:Bool}(f:c.ev t=.bool x)
 (j:x=true->wpM T sh nx0 (.ops base d (⟨i,e,none,g,.mov a⟩::rest)::s) .normal t h z nx q)
 (k:x=false->wpM T sh nx0 (.ops base d (⟨i,e,none,g,.mov b⟩::rest)::s) .normal t h z nx q):
 wpM T sh nx0 (.ops base d (⟨i,e,none,g,.pick c a b⟩::rest)::s) .normal t h z nx q:=by
 cases x with
 |true=>have:=j rfl;simp only[wpM,wpo,kop,f]at this⊢;trivial
 |false=>have:=k rfl;simp only[wpM,wpo,kop,f]at this⊢;trivial
theorem an {c:X}{a b:K}{x:Bool}(f:c.ev t=.bool x)(d:x=true->wpM T sh nx0 (.code a::s) .normal t h z nx q)(e:x=false->wpM T sh nx0 (.code b::s) .normal t h z nx q):
 wpM T sh nx0 (.code (.cond c a b)::s) .normal t h z nx q:=by
 simp only[wpM,wp,f]at d e⊢
 cases x with
 |true=>exact d rfl
 |false=>exact e rfl
theorem ak {c:X}{a b:K}(e:c.ev t=.bool true)(d:wpM T sh nx0 (.code a::s) .normal t h z nx q):wpM T sh nx0 (.code (.cond c a b)::s) .normal t h z nx q:=by
 simp only[wpM,wp,e]at d⊢;exact d
theorem aj {c:X}{a b:K}(e:c.ev t=.bool false)(d:wpM T sh nx0 (.code b::s) .normal t h z nx q):wpM T sh nx0 (.code (.cond c a b)::s) .normal t h z nx q:=by
 simp only[wpM,wp,e]at d⊢;exact d
def ds0 (d:D):Option D:=
 match d with
 |.bool b=>some (.bool b)
 |.int i n=>some (.int i n)
 |.float i n=>some (.float i n)
 |.str s=>some (.str s)
 |.nilsl=>some (.lst [])
 |.lst l=>some (.lst l)
 |.mlst a b=>some (.mlst a b)
 |.fn f [] []=>some (.fn f [] [])
 |_=>none
def o8:Hm->Option Hm
 |[]=>some []
 |x::a=>
  match ds0 x with
  |some x=>f0 x fun x=>
   match o8 a with
   |some a=>fL0 a fun a=>some (x::a)
   |none=>none
  |none=>none
def ds1 (d:D):Option D:=
 match d with
 |.agg l=>
  match o8 l with
  |some l=>fL0 l fun l=>some (.agg l)
  |none=>none
 |d=>ds0 d
def Zl:Hm->Option Hm
 |[]=>some []
 |x::a=>
  match ds1 x with
  |some x=>f1 x fun x=>
   match Zl a with
   |some a=>fL1 a fun a=>some (x::a)
   |none=>none
  |none=>none
theorem KH {h:ab}{d b:D}{k:D->Prop}(a:ds0 d=some b)(c:k b):ws0 h d k:=by
 unfold ds0 at a;split at a<;>first|(cases a;exact c) |grind
theorem WF {h:ab}:∀{l a:Hm} {k:Hm->Prop},o8 l=some a->k a->lE h l k:=by
 intro l
 induction l with
 |nil=>intro a k b c;simp[o8]at b;subst b;exact c
 |cons x l d=>
  grind[o8,pT,ke,lE,KH]
theorem Qh {h:ab}{d e:D}{k:D->Prop}(b:ds1 d=some e)(g:k e):ws1 h d k:=by
 unfold ds1 at b;unfold ws1;split at b
 grind[ke,WF]
 .rename_i i;split
  grind
  .rename_i f a c
   match a,c,b with
   |[],[],b=>simp[ds0]at b;subst b;exact g
   |x::_,_,b=>trivial
   |[],x::_,b=>trivial
  grind[KH]
theorem Pz {h:ab}:∀{l a:Hm} {k:Hm->Prop},Zl l=some a->k a->iA h l k:=by
 intro l
 induction l with
 |nil=>intro a k b c;simp[Zl]at b;subst b;exact c
 |cons x l d=>
  grind[Zl,sB,il,iA,Qh]
theorem Hx {h:ab}(n:Nat){d b:D}(a:ds0 d=some b):aN h n d=[]:=by
 unfold ds0 at a;split at a<;>first|(cases n<;>simp[aN];done) |grind
theorem XH {h:ab}(n:Nat):∀{l a:Hm},o8 l=some a->l.flatMap (aN h n)=[]:=by
 intro l
 induction l with
 |nil=>simp
 |cons x l b=>
  grind[o8,pT,Hx]
theorem RA {h:ab}(n:Nat){d b:D}(a:ds1 d=some b):aN h n d=[]:=by
 unfold ds1 at a;split at a
 .split at a
  .cases n with
   |zero=>rfl
   |succ n=>grind[aN,XH]
  grind
 grind[Hx]
theorem Q6 {h:ab}(n:Nat):∀{l a:Hm},Zl l=some a->l.flatMap (aN h n)=[]:=by
 intro l
 induction l with
 |nil=>simp
 |cons x l b=>
  grind[Zl,sB,RA]
theorem aB {base i:Nat}{a:List Nat}{b:Nat}{g:Gd}{f:FuncId}{args:List X}{rest:List KOper}{c:Hm}{r:D}(e:T.shared f=false)
 (d:Zl (args.map (·.ev t))=some c) (j:T.pu f c=some r)
 (k:wpM T sh nx0 (.ops base a rest::s) .normal (upd t b r) h z nx q):
 wpM T sh nx0 (.ops base a (⟨i,some b,none,g,.callF f args⟩::rest)::s) .normal t h z nx q:=by
 refine bP ?_;simp only[kop,eQ,e];refine Pz d ?_;unfold mf;refine⟨r,j,?_⟩;simp only[iu,Q6 depth d];cases noRef 4 r<;>exact k
def ky:Live->ai->ab->Frz->Nat->ai×ab×Frz
 |[],t,h,z,_=>(t,h,z)
 |x::rest,t,h,z,nx=>
  match x.2 with
  |0=>ky rest t h z nx
  |e+1=>
   match t x.1 with
   |.nilsl=>ky rest (upd t x.1 (.ref nx 0 0)) (upd h nx (some (.row [] (e+1)))) (upd z nx 0) (nx+1)
   |_=>ky rest t h z nx
def m9 (t:ai)(h:ab):Live->Option (List Hm)
 |[]=>some []
 |x::rest=>
  match bi (t x.1)with
  |none=>
   match plain 4 (t x.1)with
   |true=>m9 t h rest
   |false=>none
  |some id=>
   match h id with
   |some (.row es _)=>match m9 t h rest with|some l=>some (es::l) |none=>none
   |some (.mp _ vs)=>match m9 t h rest with|some l=>some (vs::l) |none=>none
   |none=>m9 t h rest
def mD (nx0:Nat)(ids:Ke)(t:ai):Live->Hm
 |[]=>[]
 |x::rest=>f2 (bN nx0 ids (t x.1)) fun v=>fL1 (mD nx0 ids t rest) fun vs=>v::vs
def fBl {α:Sort u}(b:Option Blk)(k:Option Blk->α):α:=
 match b with
 |none=>k none
 |some (.row es n)=>k (some (.row es n))
 |some (.mp a vs)=>k (some (.mp a vs))
theorem NC {α:Sort u}(b:Option Blk)(k:Option Blk->α):fBl b k=k b:=by
 unfold fBl;grind
def nJ (nx0:Nat)(ids:Ke)(h:ab):Ke->Nat->List (Option Blk)
 |[],_=>[]
 |o::rest,j=>fBl (pS nx0 ids none h o j) fun b=>b::nJ nx0 ids h rest (j+1)
def fN {α:Type}(n:Nat)(k:Nat->α):α:=
 match n with
 |0=>k 0
 |n+1=>k (n+1)
theorem fN_eq {α:Type}(n:Nat)(k:Nat->α):fN n k=k n:=by cases n<;>rfl
def fNs {β:Type}:List Nat->(List Nat->β)->β
 |[],k=>k []
 |x::a,k=>fN x fun x=>fNs a fun a=>k (x::a)
theorem KC {β:Type}(l:List Nat):∀(k:List Nat->β),fNs l k=k l:=by
 induction l with
 |nil=>intro k;rfl
 |cons x l a=>grind[fNs,fN_eq]
def fLi {α β:Type}:List α->(List α->β)->β
 |[],k=>k []
 |x::a,k=>fLi a fun a=>k (x::a)
theorem BK {α β:Type}(l:List α):∀(k:List α->β),fLi l k=k l:=by
 induction l with
 |nil=>intro k;rfl
 |cons x l a=>grind[fLi]
def setM (live:Live)(t:ai)(h:ab)(z:Frz)(nx:Nat):Option (List Hm×Kept):=
 match ky live t h z nx with
 |(t,h,z)=>
  match m9 t h live with
  |some a=>fL1 (mD 0 (bh t live) t live) fun vs=>fLi (nJ 0 (bh t live) h (bh t live) 0) fun b=>fNs (oh 0 (bh t live) z (bh t live) 0) fun c=>some (a,vs,b,c)
  |none=>none
def ZA:List Hm->Prop
 |[]=>True
 |es::rest=>es.all (plain 4)=true/\ZA rest
theorem BI:∀(live:Live) (t:ai) (h:ab) (z:Frz) (nx:Nat) (k:ai->ab->Frz->Nat->Prop),(∀a,k (ky live t h z nx).1 (ky live t h z nx).2.1 (ky live t h z nx).2.2 a)->iP live t h z nx k:=by
 intro live
 induction live with
 |nil=>intro t h z nx k b;exact b nx
 |cons x live c=>
  grind[ky,iP]
theorem IN {t:ai}{h:ab}{z:Frz}:∀{live:Live} {a:List Hm} {k:ab->Frz->Prop},m9 t h live=some a->ZA a->k h z->eZ live t h z k:=by
 intro live
 induction live with
 |nil=>intro a k _ _ b;exact b
 |cons x live g=>
  intro a k hr c b;simp only[m9]at hr;simp only[eZ];split
  grind
  .rename_i id d;simp only[d]at hr;split
   .rename_i es esz e;simp only[e]at hr;split at hr
    .rename_i l f;cases hr;unfold oC;exact .inl ⟨c.1,g f c.2 b⟩
    grind
   .rename_i i vs e;simp only[e]at hr;split at hr
    .rename_i l f;cases hr;exact dC c.1 (g f c.2 b)
    grind
   grind
theorem sW {nx0:Nat}{ids:Ke}{t:ai}:∀(live:Live) (k:Hm->Prop),pq nx0 ids t live k=k (mD nx0 ids t live):=by
 intro live
 induction live with
 |nil=>intro k;rfl
 |cons x live a=>grind[pq,mD,iu,il]
theorem tu {nx0:Nat}{ids:Ke}{h:ab}:∀(l:Ke) (j:Nat) (k:List (Option Blk)->Prop),AQ nx0 ids h l j k=k (nJ nx0 ids h l j):=by
 intro l
 induction l with
 |nil=>intro j k;rfl
 |cons o l a=>grind[AQ,nJ,fB_eq,NC]
theorem ah {live:Live}{a:List Hm}{kp:Kept}{K:Kept->Prop}(c:setM live t h z nx=some (a,kp))(d:ZA a)(e:K kp)(b:eV live=false:=by rfl):bz 0 live t h z nx fun _ _ kp=>K kp:=by
 grind[setM,il,BK,KC,bz,pG,BI,IN,sW,tu]
def mk0 {α:Type}(bot:α)(l:List α):Nat->α:=mkF 0 (fun _=>bot) bot l 0
theorem Zy {α:Type}{a old':Nat->α}{bot:α}:∀(l:List α) (j:Nat),mkF 0 a bot l j=mkF 0 old' bot l j:=by
 intro l
 induction l with
 |nil=>
  intro j;rfl
 |cons x l b=>grind[mkF]
theorem QY:∀{live:Live} {t:ai} {h:ab} {z:Frz} {nx:Nat} {k:ai->ab->Frz->Nat->Prop},iP live t h z nx k->
 ∃t1 h1 d a,k t1 h1 d a/\∀b:ai->ab->Frz->Nat->Prop,b t1 h1 d a->iP live t h z nx b:=by
 intro live
 induction live with
 |nil=>intro t h z nx k c;exact⟨t,h,z,nx,c,fun b e=>e⟩
 |cons x live f=>
  intro t h z nx k c;simp only[iP]at c⊢;grind
theorem Uu:∀{live:Live} {t:ai} {h:ab} {z:Frz} {k:ab->Frz->Prop},eZ live t h z k->∃h1 d,k h1 d/\∀b:ab->Frz->Prop,b h1 d->eZ live t h z b:=by
 intro live
 induction live with
 |nil=>intro t h z k a;exact⟨h,z,a,fun b e=>e⟩
 |cons x live f=>
  intro t h z k a;simp only[eZ]at a⊢
  cases c:bi (t x.1)with
  |none=>
   grind
  |some id=>
   rw[c]at a;grind[oC,cJ]
theorem my {live:Live}{k:ab->Frz->Kept->Prop}(c:bz nx0 live t h z nx k):∃h1 a kp,k h1 a kp/\∀d:ab->Frz->Kept->Prop,d h1 a kp->bz nx0 live t h z nx d:=by
 have e:∀k,bz nx0 live t h z nx k=(match eV live with
  |true=>∃h1 a kp,k h1 a kp/\mO nx0 live ⟨t,h,z,nx⟩=some ⟨mkT live kp.1,mkF nx0 h1 none kp.2.1 nx0,mkF nx0 a 0 kp.2.2 nx0,nx0+live.length⟩
  |false=>pG nx0 live t h z nx k):=fun _=>rfl
 rw[e]at c;simp only[e];generalize eV live=b at*
 cases b with
 |true=>
  grind
 |false=>
 unfold pG at c⊢;obtain⟨t1,h1,a,f,g,i⟩:=QY c;grind[Uu,sW,tu]
theorem aw {α:Type}(S:α->Kept)(C:α->Prop)(m:α->Nat){live:Live}{c:K}
 (a:α) (f:C a) (l:m a<2^62) (h0:bz 0 live t h z nx fun _ _ kp=>kp=S a)
 (hr:∀a,C a->∀N:ai->ab->Frz->Nat->Prop,(∀e {t:ai} {h:ab} {z:Frz} {nx:Nat},C e->m e<m a->(bz 0 live t h z nx fun _ _ kp=>kp=S e)->N t h z nx)->
   wpM T sh 0 [.code c] .normal (mkT live (S a).1) (mk0 none (S a).2.1) (mk0 0 (S a).2.2) live.length fun ex t h z nx=>
    match ex with
    |.normal=>N t h z nx
    |.exit i=>wpM T sh 0 s (.exit i) t h z nx q
    |.ret=>wpM T sh 0 s .ret t h z nx q):
 wpM T sh 0 (.code (.loop live c)::s) .normal t h z nx q:=by
 simp only[wpM,wp]at hr⊢;unfold tA
 have key:∀(n:Nat) (a:α),C a->m a<=n->∀(b:Nat),n<b->∀(t:ai) (h:ab) (z:Frz) (nx:Nat),(bz 0 live t h z nx fun _ _ kp=>kp=S a)->
  q5k 0 live (fun t h z nx q=>wp T sh 0 c t h z nx q) b t h z nx fun ex t h z nx=>wpM T sh 0 s ex t h z nx q:=by
  intro n
  induction n with
  |zero=>
   intro a f l b p t h z nx d;obtain⟨b,rfl⟩:∃k,b=k+1:=⟨b-1,by omega⟩;simp only[q5k];obtain⟨h1,o,kp,r,u⟩:=my d;have g:=hr a f (fun t h z nx=>q5k 0 live (fun t h z nx q=>wp T sh 0 c t h z nx q) b t h z nx fun ex t h z nx=>wpM T sh 0 s ex t h z nx q) (fun e _ _ _ _ _ j _=>absurd j (by omega));unfold mk0 at g;rw[Zy (old':=iX live 0 h1),Zy (old':=o) (bot:=(0:Nat))]at g;grind
  |succ n v=>
   intro a f l b p t h z nx d;obtain⟨b,rfl⟩:∃k,b=k+1:=⟨b-1,by omega⟩;simp only[q5k];obtain⟨h1,o,kp,r,u⟩:=my d
   have g:=hr a f (fun t h z nx=>q5k 0 live (fun t h z nx q=>wp T sh 0 c t h z nx q) b t h z nx fun ex t h z nx=>wpM T sh 0 s ex t h z nx q)
    (fun e t h z nx h1 j d=>v e h1 (by omega) b (by omega) t h z nx d)
   unfold mk0 at g;rw[Zy (old':=iX live 0 h1),Zy (old':=o) (bot:=(0:Nat))]at g;grind
 exact key (m a) a f (zD _) vU l t h z nx h0
end
section
variable {T:Tab}{sh:Shr}{nx0:Nat}{s:List Fr}{t:ai}{h:ab}{z:Frz}{nx:Nat}{q:Ex->ai->ab->Frz->Nat->Prop}
theorem gg {b:List Fr}{e:Ex}{a:List Fr}{c:Ex}{t':ai}{h':ab}{z':Frz}{d:Nat}(hr:bW nx0 800 b e t h z nx=⟨a,c,t',h',z',d⟩)(f:wpM T sh nx0 a c t' h' z' d q):wpM T sh nx0 b e t h z nx q:=go 800 hr f
end
end Go.F
namespace Go.F
section
variable {T:Tab}{sh:Shr}{nx0:Nat}{s:List Fr}{t:ai}{h:ab}{z:Frz}{nx:Nat}{q:Ex->ai->ab->Frz->Nat->Prop}
variable {base i:Nat}{res:List Nat}{dst:Nat}{g:Gd}{rest:List KOper}
theorem KE {n:Int}{i:Nat}{k:Nat->Prop}(a:n=i)(b:k i):wnat n k:=by subst a;exact b
theorem uB {d:D}{a:IntKind}{n:Int}{i:Nat}{k:Nat->Prop}(b:d=.int a n)(c:n=i)(e:k i):jY d k:=by subst b;exact KE c e
theorem lj {n:Nat}{es:Hm}{k:Hm->Prop}(h:es.all (fun d=>d.cells.length==n)=true)(a:k es):wall n es k:=by grind[wall]
theorem nc {n:Nat}{es:Hm}{off len:Nat}{k:Hm->Prop}(h:off+len<=es.length)(a:((es.drop off).take len).all (fun d=>d.cells.length==n)=true)(b:k ((es.drop off).take len)):r9 n es off len k:=by grind[r9]
theorem cg {x a:X}{l:Hm}{b:IntKind}{n:Int}{sz:Nat}(k:Nat){d:D}(c:x.ev t=.lst l)(hi:a.ev t=.int b n)(e:n=k)(f:l[k]?=some d)(j:(Nat.beq d.cells.length sz&&Nat.blt 0 sz)=true)
 (m:wpM T sh nx0 (.ops base res rest::s) .normal (upd t dst (.pl d 0)) h z nx q):
 wpM T sh nx0 (.ops base res (⟨i,some dst,none,g,.ixs sz x a⟩::rest)::s) .normal t h z nx q:=by
 refine bP ?_;simp[kop,c];refine uB hi e (nD f ?_);rw[jy,j];exact m
theorem aA {x a:X}{id off len:Nat}{es:Hm}{esz sz:Nat}{b:IntKind}{n:Int}(k:Nat)(c:x.ev t=.ref id off len)(hr:g.h base h id=some (.row es esz))(d:Nat.beq esz sz=true)(hi:a.ev t=.int b n)(e:n=k)(f:k<len)
 (j:wpM T sh nx0 (.ops base res rest::s) .normal (upd t dst (.ptr id (off+k) 0)) h z nx q):
 wpM T sh nx0 (.ops base res (⟨i,some dst,none,g,.ixs sz x a⟩::rest)::s) .normal t h z nx q:=by
 refine bP ?_;simp only[kop,kixs,c,hr,d];exact uB hi e (dC f j)
theorem aQ {b ag:Bool}{n:Nat}{a:X}{id k o:Nat}{es:Hm}{esz:Nat}{e d:D}(c:a.ev t=.ptr id k o)(hr:g.h base h id=some (.row es esz))(f:es[k]?=some e)(j:rC ag n e o=some d)
 (l:wpM T sh nx0 (.ops base res rest::s) .normal (upd t dst d) h z nx q):
 wpM T sh nx0 (.ops base res (⟨i,some dst,none,g,.load b ag n a⟩::rest)::s) .normal t h z nx q:=by
 refine bP ?_;simp only[kop,oH,c,hr];exact nD f (BE j l)
theorem VH:∀{es:Hm} {i:Nat} {e:D} {f:D->(D->Prop)->Prop} {c:Hm->Prop},es[i]?=some e->f e (fun y=>c (es.set i y))->kset es i f c:=by
 intro es
 induction es with
 |nil=>simp
 |cons x es b=>
  intro i e f c h a
  cases i with
  |zero=>simp at h;subst h;exact a
  |succ i=>exact b h a
theorem dq {b:Bool}{n:Nat}{a v:X}{dst:Option Nat}{id k o:Nat}{es:Hm}{esz:Nat}{e e':D}(c:a.ev t=.ptr id k o)(d:(Nat.beq (v.ev t).cells.length n&&(v.ev t).sto)=true)(hr:g.h base h id=some (.row es esz))(f:g.z base z id<=k)
 (j:es[k]?=some e) (l:sC e o (v.ev t).cells=some e')
 (m:wpM T sh nx0 (.ops base res rest::s) .normal (put t dst (.tup [])) (upd h id (some (.row (es.set k e') esz))) z nx q):
 wpM T sh nx0 (.ops base res (⟨i,dst,none,g,.store b n a v⟩::rest)::s) .normal t h z nx q:=by
 refine bP ?_;grind[kop,qu,dC,VH,jy,ND]
theorem EF {e:EqK}{x y:X}{c:IntKind}{a b:Int}(d:x.ev t=.int c a)(f:y.ev t=.int c b)(j:b≠0)
 (k:wpM T sh nx0 (.ops base res rest::s) .normal (upd t dst (.int c (c.wrap (a.tdiv b)))) h z nx q):
 wpM T sh nx0 (.ops base res (⟨i,some dst,none,g,.bin .quo e x y⟩::rest)::s) .normal t h z nx q:=by
 refine bP ?_;simp[kop,kr,d,f];exact dC j k
theorem dx {e:EqK}{x y:X}{c:IntKind}{a b:Int}(d:x.ev t=.int c a)(f:y.ev t=.int c b)(j:b≠0)
 (k:wpM T sh nx0 (.ops base res rest::s) .normal (upd t dst (.int c (a.tmod b))) h z nx q):
 wpM T sh nx0 (.ops base res (⟨i,some dst,none,g,.bin .rem e x y⟩::rest)::s) .normal t h z nx q:=by
 refine bP ?_;simp[kop,kr,d,f];exact dC j k
theorem atShl {e:EqK}{x y:X}{c d:IntKind}{a b:Int}(f:x.ev t=.int c a)(j:y.ev t=.int d b)(k:0<=b)
 (l:wpM T sh nx0 (.ops base res rest::s) .normal (upd t dst (.int c (c.wrap (a*2^min b.toNat c.bits)))) h z nx q):
 wpM T sh nx0 (.ops base res (⟨i,some dst,none,g,.bin .shl e x y⟩::rest)::s) .normal t h z nx q:=by
 refine bP ?_;simp[kop,f,j];exact dC k l
theorem atShr {e:EqK}{x y:X}{c d:IntKind}{a b:Int}(f:x.ev t=.int c a)(j:y.ev t=.int d b)(k:0<=b)
 (l:wpM T sh nx0 (.ops base res rest::s) .normal (upd t dst (.int c (a.fdiv (2^min b.toNat c.bits)))) h z nx q):
 wpM T sh nx0 (.ops base res (⟨i,some dst,none,g,.bin .shr e x y⟩::rest)::s) .normal t h z nx q:=by
 refine bP ?_;simp[kop,f,j];exact dC k l
theorem Zu {f:X}{args:List X}{a:FuncId}{dst:Option Nat}(b:f.ev t=.fn a [] [])(c:T.shared a=false)
 (d:wpM T sh nx0 (.ops base res (⟨i,dst,none,g,.callF a args⟩::rest)::s) .normal t h z nx q):
 wpM T sh nx0 (.ops base res (⟨i,dst,none,g,.callV f args⟩::rest)::s) .normal t h z nx q:=by
 simp[wpM,wpo,kop,b,c]at d⊢;omega
theorem ES {f:X}{args:List X}{a:FuncId}{dst:Option Nat}(b:f.ev t=.fn a [] [])(d:T.shared a=false)
 (c:wpM T sh nx0 (.ops base res (⟨i,dst,none,g,.callF a args⟩::rest)::s) .normal t h z nx q):
 wpM T sh nx0 (.ops base res (⟨i,dst,none,g,.callW f args⟩::rest)::s) .normal t h z nx q:=by
 simp[wpM,wpo,kop,b]at c⊢;omega
theorem bI {e:El}{j x:X}{id0 len a k:Nat}{es new:Hm}{l:Nat}(m:j.ev t=.ref id0 0 len)(hr:g.h base h id0=some (.row es e.n))(o:x.ev t=.ref a 0 k)(c:g.h base h a=some (.row new l))
 (f:k=new.length) (w:new.all (fun d=>d.cells.length==e.n)=true) (p:len=es.length) (r:g.z base z id0<=len) (u:(es.length+new.length) *(e.b+1)<=aK)
 (v:wpM T sh nx0 (.ops base res rest::s) .normal (upd t dst (.ref (base+i) 0 (len+k))) (upd (upd h id0 none) (base+i) (some (.row (es++new) e.n))) (upd z (base+i) (g.z base z id0)) nx q):
 wpM T sh nx0 (.ops base res (⟨i,some dst,none,g,.append e .sl j x⟩::rest)::s) .normal t h z nx q:=by
 refine bP ?_;subst f;simp only[kop,rZ,o,mh,c];refine nc (by omega) (by grind) ?_;simp[kA,m,hr];subst p;rw[zH];exact dC ⟨zD _,r,u⟩ v
theorem Av {e:El}{a x:X}{id0 len:Nat}{es new:Hm}(c:a.ev t=.ref id0 0 len)(hr:g.h base h id0=some (.row es e.n))(f:x.ev t=.lst new)
 (j:new.all (fun d=>d.cells.length==e.n)=true) (k:len=es.length) (l:g.z base z id0<=len) (m:(es.length+new.length) *(e.b+1)<=aK)
 (o:wpM T sh nx0 (.ops base res rest::s) .normal (upd t dst (.ref (base+i) 0 (len+new.length))) (upd (upd h id0 none) (base+i) (some (.row (es++new) e.n))) (upd z (base+i) (g.z base z id0)) nx q):
 wpM T sh nx0 (.ops base res (⟨i,some dst,none,g,.append e .sl a x⟩::rest)::s) .normal t h z nx q:=by
 refine bP ?_;simp[kop,f];refine lj j ?_;simp[kA,c,hr];subst k;rw[zH];exact dC ⟨zD _,l,m⟩ o
theorem IJ {e:El}{a x:X}{id0 len:Nat}{es new:Hm}(c:a.ev t=.ref id0 0 len)(hr:g.h base h id0=some (.row es e.n))(f:x.ev t=.lst new)
 (j:new.all (fun d=>d.cells.length==e.n)=true) (k:len<=es.length) (l:g.z base z id0<=len) (m:(len+new.length) *(e.b+1)<=aK)
 (o:wpM T sh nx0 (.ops base res rest::s) .normal (upd t dst (.ref (base+i) 0 (len+new.length))) (upd (upd h id0 none) (base+i) (some (.row (es.take len++new) e.n))) (upd z (base+i) (g.z base z id0)) nx q):
 wpM T sh nx0 (.ops base res (⟨i,some dst,none,g,.append e .sl a x⟩::rest)::s) .normal t h z nx q:=by
 refine bP ?_;simp[kop,f];refine lj j ?_;simp[kA,c,hr];exact dC ⟨k,l,m⟩ o
theorem RQ {e:El}{a x:X}{n:Nat}(f:a.ev t=.nilsl)(j:x.ev t=.int .i64 n)(c:n*(e.b+1)<=aK)
 (k:wpM T sh nx0 (.ops base res rest::s) .normal (upd t dst (.ref (base+i) 0 n)) (upd h (base+i) (some (.row (List.replicate n e.d) e.n))) (upd z (base+i) 0) nx q):
 wpM T sh nx0 (.ops base res (⟨i,some dst,none,g,.append e .room a x⟩::rest)::s) .normal t h z nx q:=by
 have l:n<=aK:=zR (w7 n (Nat.succ_pos _)) c;refine uB j rfl (dC l ?_);simp[kA,f];exact dC c k
theorem eu {e:El}{l c:X}{n:Int}{cap:Int}(k:Nat)(a:l.ev t=.int .i64 n)(f:c.ev t=.int .i64 cap)(j:n=k)(m:(k:Int)<=cap/\cap*(e.b+1)<=aK)
 (o:wpM T sh nx0 (.ops base res rest::s) .normal (upd t dst (.ref (base+i) 0 k)) (upd h (base+i) (some (.row (List.replicate k e.d) e.n))) (upd z (base+i) 0) nx q):
 wpM T sh nx0 (.ops base res (⟨i,some dst,none,g,.mkslice e l c⟩::rest)::s) .normal t h z nx q:=by
 refine bP ?_;simp only[kop,a,f];exact KE j (dC m o)
def mQ (t:ai)(x:Option X)(b a:Nat):Prop:=
 match x with
 |none=>a=b
 |some x=>∃c n,x.ev t=.int c n/\n=(a:Int)
theorem mH {x:Option X}{b a:Nat}{k:Nat->Prop}(c:mQ t x b a)(d:k a):jT t x b k:=by
 cases x with
 |none=>subst c;exact d
 |some x=>obtain⟨f,n,h1,e⟩:=c;exact uB h1 e d
theorem atSl {n:Nat}{x:X}{lo hi:Option X}{l:Hm}(a b:Nat)(j:x.ev t=.lst l)(k:l.all (fun d=>d.cells.length==n)=true)(c:mQ t lo 0 a)(e:mQ t hi l.length b)(f:a<=b/\b<=l.length)
 (m:wpM T sh nx0 (.ops base res rest::s) .normal (upd t dst (.lst ((l.drop a).take (b-a)))) h z nx q):
 wpM T sh nx0 (.ops base res (⟨i,some dst,none,g,.slsl n x lo hi none⟩::rest)::s) .normal t h z nx q:=by
 refine bP ?_;simp[kop,j];exact lj k (mH c (mH e (dC f m)))
theorem fi {n:Nat}{x:X}{hi:Option X}{id off len esz:Nat}{es:Hm}(b:Nat)(e:x.ev t=.ref id off len)(hr:g.h base h id=some (.row es esz))(f:Nat.beq esz n=true)(c:mQ t hi len b)(d:b<=len)
 (j:wpM T sh nx0 (.ops base res rest::s) .normal (upd t dst (.ref id off b)) h z nx q):
 wpM T sh nx0 (.ops base res (⟨i,some dst,none,g,.slsl n x none hi none⟩::rest)::s) .normal t h z nx q:=by
 refine bP ?_;simp only[kop,p3,e,hr,f];exact mH (a:=0) rfl (mH c (dC ⟨zB _,d⟩ j))
theorem dR {n:Nat}{x lo:X}{hi:Option X}{id off len esz:Nat}{es:Hm}(a b:Nat)(l:x.ev t=.ref id off len)(hr:g.h base h id=some (.row es esz))(m:Nat.beq esz n=true)(d:mQ t (some lo) 0 a)(e:mQ t hi len b)(f:a<=b/\b<=len)
 (c:wpM T sh nx0 (.ops base res rest::s) .normal (upd t dst (if a=0 then .ref id off b else if a=b then .lst []else .ref id (off+a) (b-a))) h z nx q):
 wpM T sh nx0 (.ops base res (⟨i,some dst,none,g,.slsl n x (some lo) hi none⟩::rest)::s) .normal t h z nx q:=by
 refine bP ?_;simp only[kop,p3,l,hr,m];refine mH d (mH e (dC f ?_));by_cases h0:a=0
 .subst h0;trivial
 have j:Nat.beq a 0=false:=by cases a with|zero=>omega|succ a=>rfl
 rw[j];rw[vd h0]at c;by_cases h1:a=b
 .subst h1;simp at c⊢;exact c
 have k:Nat.beq a b=false:=by
  grind[Nat.eq_of_beq_eq_true]
 rw[k];rw[vd h1]at c;exact c
theorem eH {x a:X}{c:ByteArray}{d:IntKind}{n:Int}(k:Nat){b:UInt8}(e:x.ev t=.str c)(hi:a.ev t=.int d n)(f:n=k)(j:c.toList[k]?=some b)
 (l:wpM T sh nx0 (.ops base res rest::s) .normal (upd t dst (.int .u8 b.toNat)) h z nx q):
 wpM T sh nx0 (.ops base res (⟨i,some dst,none,g,.istr x a⟩::rest)::s) .normal t h z nx q:=by
 refine bP ?_;simp[kop,e];exact uB hi f (nD j l)
theorem cf {n:Nat}{f:FuncId}{args:List X}{fn:KFn}{dst:Option Nat}(a:T.shared f=true)(b:T.tab f=some fn)
 (e:wpM T (shr T n) nx [.code fn.code] .normal (enter (args.map (·.ev t))) h z nx (bB fn fun v h z nx=>wpM T (shr T (n+1)) nx0 (.ops base res rest::s) .normal (put t dst v) h z nx q))
 (c:(fn.em&&fW (args.map (·.ev t)))=false:=by rfl) (d:fn.gv=[]:=by rfl) (hr:fn.hr=[]:=by rfl):
 wpM T (shr T (n+1)) nx0 (.ops base res (⟨i,dst,none,g,.callF f args⟩::rest)::s) .normal t h z nx q:=by
 refine bP ?_;simp[kop,eQ,a,shr,b,d,c,hr]
 trivial
theorem m7 {n:Nat}{f:FuncId}{x:X}{a e l:Hm}{args:List X}{fn:KFn}{dst:Option Nat}(b:x.ev t=.fn f a e)(c:a++args.map (·.ev t)++e=l)(d:T.shared f=true)(j:T.tab f=some fn)
 (k:wpM T (shr T n) nx [.code fn.code] .normal (enter l) h z nx (bB fn fun v h z nx=>wpM T (shr T (n+1)) nx0 (.ops base res rest::s) .normal (put t dst v) h z nx q))
 (m:fn.em=false:=by rfl) (o:fn.gv=[]:=by rfl) (hr:fn.hr=[]:=by rfl):
 wpM T (shr T (n+1)) nx0 (.ops base res (⟨i,dst,none,g,.callW x args⟩::rest)::s) .normal t h z nx q:=by
 refine bP ?_;simp_all[kop,eQ,shr,Tab.at,wpM]
theorem SJ {b:Pure}{c:List Nat}{args:Hm}{h h':ab}{z z':Frz}{nx a:Nat}{r:D}{k:D->ab->Frz->Nat->Prop}(hr:fM b c args h z nx=some (r,h',z',a))(d:k r h' z' a):tP b c args h z nx k:=by
 grind[tP]
theorem r8 {n:Nat}{f:FuncId}{args:List X}{fn:KFn}{dst:Option Nat}{r:D}{h':ab}{z':Frz}{a:Nat}(b:T.shared f=true)(c:T.tab f=some fn)(d:fn.gv≠[])
 (hr:fM T.pu fn.gv (args.map (·.ev t)) h z nx=some (r,h',z',a))
 (e:wpM T (shr T (n+1)) nx0 (.ops base res rest::s) .normal (put t dst r) h' z' a q):
 wpM T (shr T (n+1)) nx0 (.ops base res (⟨i,dst,none,g,.callF f args⟩::rest)::s) .normal t h z nx q:=by
 refine bP ?_;grind[kop,eQ,shr,SJ]
def dat:Nat->D->Bool
 |0,_=>false
 |n+1,d=>
  match d with
  |.bool _|.int _ _|.float _ _|.str _|.lst _|.mlst _ _|.opq _|.pl _ _=>true
  |.agg l=>l.all (dat n)
  |.tup l=>l.all (dat n)
  |_=>false
theorem Fs {a:ab}:∀(n m:Nat) (d:D),dat n d=true->n<=m->aG a m d=some d:=by
 intro n
 induction n with
 |zero=>simp[dat]
 |succ n f=>
  intro m d c g;obtain⟨m,rfl⟩:∃k,m=k+1:=⟨m-1,by omega⟩
  have b:∀l:Hm,l.all (dat n)=true->l.mapM (aG a m)=some l:=by
   intro l
   induction l with
   |nil=>simp
   |cons x l e=>
    simp_all
  cases d with
  |agg l=>grind[dat,aG]
  |tup l=>grind[dat,aG]
  |_=>first|(simp[dat]at c;done) |simp[aG]
theorem JM {b:ab}{es:Hm}(a:es.all (dat 4)=true):es.mapM (aG b 8)=some es:=by
 induction es with
 |nil=>rfl
 |cons x es c=>
  simp only[xl,zJ]at a;simp[xB,Fs 4 8 x a.1 (by omega),c a.2]
def dr0 (h:ab)(d:D):Option (List (Hm×Nat×Nat)×D):=
 match d with
 |.bool b=>some ([],.bool b)
 |.int i n=>some ([],.int i n)
 |.float i n=>some ([],.float i n)
 |.str s=>some ([],.str s)
 |.nilsl=>some ([],.lst [])
 |.lst l=>some ([],.lst l)
 |.mlst a b=>some ([],.mlst a b)
 |.ref id off len=>
  match h id with
  |some (.row es _)=>
   match off with
   |0=>some ([(es,0,len)],.lst (es.take len))
   |off+1=>some ([(es,off+1,len)],.lst ((es.drop (off+1)).take len))
  |_=>none
 |.fn f [] []=>some ([],.fn f [] [])
 |_=>none
def drL0 (h:ab):Hm->Option (List (Hm×Nat×Nat)×Hm)
 |[]=>some ([],[])
 |x::a=>
  match dr0 h x with
  |some (r,x)=>
   match drL0 h a with
   |some (rs,a)=>fL0 a fun a=>some (r++rs,x::a)
   |none=>none
  |none=>none
def dr1 (h:ab)(d:D):Option (List (Hm×Nat×Nat)×D):=
 match d with
 |.agg l=>
  match drL0 h l with
  |some (r,l)=>fL0 l fun l=>some (r,.agg l)
  |none=>none
 |d=>dr0 h d
def nY (h:ab):Hm->Option (List (Hm×Nat×Nat)×Hm)
 |[]=>some ([],[])
 |x::a=>
  match dr1 h x with
  |some (r,x)=>f1 x fun x=>
   match nY h a with
   |some (rs,a)=>fL1 a fun a=>some (r++rs,x::a)
   |none=>none
  |none=>none
def dr2 (h:ab)(d:D):Option (List (Hm×Nat×Nat)×D):=
 match d with
 |.tup l=>
  match nY h l with
  |some (r,l)=>fL1 l fun l=>some (r,.tup l)
  |none=>none
 |d=>dr1 h d
def gV:List (Hm×Nat×Nat)->Prop
 |[]=>True
 |x::rest=>(x.2.1+x.2.2<=x.1.length/\((x.1.drop x.2.1).take x.2.2).all (dat 4)=true)/\gV rest
theorem GA:∀{a b:List (Hm×Nat×Nat)},gV (a++b)->gV a/\gV b:=by
 intro a
 induction a with
 |nil=>intro b h;trivial
 |cons x a c=>intro b h;obtain⟨h1,d⟩:=c h.2;exact⟨⟨h.1,h1⟩,d⟩
theorem Ga {b:ab}{d c:D}{r:List (Hm×Nat×Nat)}{k:D->Prop}(a:dr0 b d=some (r,c))(hr:gV r)(e:k c):ws0 b d k:=by
 unfold dr0 at a;split at a
 case h_8=>
  split at a
  .rename_i es esz f;split at a
   .obtain⟨rfl,rfl⟩:=a;simp only[ws0,f];unfold kM;refine⟨_,hr.1.1,JM hr.1.2,?_⟩;grind
   obtain⟨rfl,rfl⟩:=a;simp only[ws0,f];unfold kM;exact⟨_,hr.1.1,JM hr.1.2,e⟩
  grind
 all_goals first|(simp only[zV,Prod.mk.injEq]at a;obtain⟨rfl,rfl⟩:=a;exact e) |grind
theorem Y6 {c:ab}:∀{l b:Hm} {r:List (Hm×Nat×Nat)} {k:Hm->Prop},drL0 c l=some (r,b)->gV r->k b->lE c l k:=by
 intro l
 induction l with
 |nil=>intro b r k a _ d;obtain⟨rfl,rfl⟩:=a;exact d
 |cons x l e=>
  intro b r k a hr d;simp only[drL0]at a;split at a
  .split at a
   grind[ke,GA,lE,Ga];grind
  grind
theorem Og {e:ab}{d g:D}{r:List (Hm×Nat×Nat)}{k:D->Prop}(b:dr1 e d=some (r,g))(hr:gV r)(h:k g):ws1 e d k:=by
 unfold dr1 at b;unfold ws1;split at b
 grind[ke,Y6]
 .rename_i i;split
  grind
  .rename_i f a c
   match a,c,b with
   |[],[],b=>obtain⟨rfl,rfl⟩:=b;exact h
   |x::_,_,b=>trivial
   |[],x::_,b=>trivial
  grind[Ga]
theorem u7 {c:ab}:∀{l b:Hm} {r:List (Hm×Nat×Nat)} {k:Hm->Prop},nY c l=some (r,b)->gV r->k b->iA c l k:=by
 intro l
 induction l with
 |nil=>intro b r k a _ d;obtain⟨rfl,rfl⟩:=a;exact d
 |cons x l e=>
  intro b r k a hr d;simp only[nY]at a;split at a
  .rw[sB]at a;split at a
   grind[il,GA,iA,Og];grind
  grind
theorem AN {a:ab}{d b:D}{r:List (Hm×Nat×Nat)}{k:D->Prop}(c:dr2 a d=some (r,b))(hr:gV r)(e:k b):ws2 a d k:=by
 unfold dr2 at c;grind[ws2,il,u7,Og]
def dres1 (t:ai)(h:ab)(r:KRes):Option D:=
 match r with
 |.t i=>some (t i)
 |.cell a ag n=>vu true h ag n (t a)
def tF (t:ai)(h:ab):List KRes->Option Hm
 |[]=>some []
 |r::rs=>
  match dres1 t h r with
  |some d=>f1 d fun d=>
   match tF t h rs with
   |some a=>fL1 a fun a=>some (d::a)
   |none=>none
  |none=>none
def ln (t:ai)(h:ab)(rs:List KRes):Option D:=
 match tF t h rs with
 |some [d]=>some d
 |some l=>some (.tup l)
 |none=>none
theorem RY:∀{rs:List KRes} {l:Hm} {k:Hm->Prop},tF t h rs=some l->k l->tn t h rs k:=by
 intro rs
 induction rs with
 |nil=>intro l k a b;simp[tF]at a;subst a;exact b
 |cons r rs c=>
  intro l k a b;simp only[tF]at a;split at a
  .rename_i d hr;rw[sB]at a;split at a
   .rw[il]at a;simp only[tn];unfold dres1 at hr;grind[uR,iu,F7]
   grind
  grind
theorem kq {rs:List KRes}{d:D}{k:D->Prop}(a:ln t h rs=some d)(b:k d):te t h rs k:=by
 grind[ln,te,RY]
theorem cS {fn:KFn}{b:Ex}{r d c:D}{a:List (Hm×Nat×Nat)}(j:(match b with|.exit _=>false|_=>true)=true)(e:ln t h fn.res=some d)(f:dr2 h d=some (a,c))(hr:gV a)(g:c=r):
 wpM T sh nx0 [] b t h z nx (bB fn fun d h _ _=>ws2 h d fun d=>d=r):=by
 cases b with
 |exit i=>grind
 |normal=>exact kq e (AN f hr g)
 |ret=>exact kq e (AN f hr g)
theorem Tl {fn:KFn}{args:Hm}{r:D}(a:wpM T (shr T 6) 0 [.code fn.code] .normal (enter args) empty kl 0 (bB fn fun d h _ _=>ws2 h d fun d=>d=r))(hr:fn.hr=[]:=by rfl):wfun T fn args r:=by
 unfold wfun;rw[hr];exact a
end
section
variable {T:Tab}{sh:Shr}{nx0:Nat}{t t':ai}{h h':ab}{z z':Frz}{nx nx':Nat}{q:Ex->ai->ab->Frz->Nat->Prop}{stk s':List Fr}{ex ex':Ex}
theorem gE (hr:bW nx0 800 stk ex t h z nx=⟨[],ex',t',h',z',nx'⟩)(a:q ex' t' h' z' nx'):wpM T sh nx0 stk ex t h z nx q:=go 800 hr a
theorem gC {c:X}{a b:K}{x:Bool}(hr:bW nx0 800 stk ex t h z nx=⟨.code (.cond c a b)::s',.normal,t',h',z',nx'⟩)(d:c.ev t'=.bool x)(e:x=true->wpM T sh nx0 (.code a::s') .normal t' h' z' nx' q)(f:x=false->wpM T sh nx0 (.code b::s') .normal t' h' z' nx' q):wpM T sh nx0 stk ex t h z nx q:=go 800 hr (an d e f)
theorem gA {base i:Nat}{a:List Nat}{b:Nat}{g:Gd}{f:FuncId}{args:List X}{rest:List KOper}{c:Hm}{r:D}(hr:bW nx0 800 stk ex t h z nx=⟨.ops base a (⟨i,some b,none,g,.callF f args⟩::rest)::s',.normal,t',h',z',nx'⟩)(d:T.shared f=false)(e:Zl (args.map (·.ev t'))=some c)(j:T.pu f c=some r)(k:wpM T sh nx0 (.ops base a rest::s') .normal (upd t' b r) h' z' nx' q):wpM T sh nx0 stk ex t h z nx q:=go 800 hr (aB d e j k)
theorem gX {base i:Nat}{a:List Nat}{b:Nat}{g:Gd}{rest:List KOper}{x c:X}{l:Hm}{e:IntKind}{n:Int}{sz:Nat}(k:Nat){d:D}(hr:bW nx0 800 stk ex t h z nx=⟨.ops base a (⟨i,some b,none,g,.ixs sz x c⟩::rest)::s',.normal,t',h',z',nx'⟩)(f:x.ev t'=.lst l)(hi:c.ev t'=.int e n)(j:n=k)(m:l[k]?=some d)(o:(Nat.beq d.cells.length sz&&Nat.blt 0 sz)=true)(p:wpM T sh nx0 (.ops base a rest::s') .normal (upd t' b (.pl d 0)) h' z' nx' q):wpM T sh nx0 stk ex t h z nx q:=go 800 hr (cg k f hi j m o p)
def finM (fn:KFn)(ex:Ex)(t:ai)(h:ab):Option (List (Hm×Nat×Nat)×D):=
 match ex with
 |.exit _=>none
 |.normal=>match ln t h fn.res with|some d=>dr2 h d|none=>none
 |.ret=>match ln t h fn.res with|some d=>dr2 h d|none=>none
theorem fI {fn:KFn}{r d:D}(a:finM fn ex t h=some ([],d))(b:d=r):wpM T sh nx0 [] ex t h z nx (bB fn fun d h _ _=>ws2 h d fun d=>d=r):=by
 unfold finM at a;split at a
 .cases a
 all_goals
  split at a
  .rename_i c;exact cS rfl c a tr b
  .cases a
theorem gF {fn:KFn}{r d:D}(hr:bW nx0 800 stk ex t h z nx=⟨[],ex',t',h',z',nx'⟩)(a:finM fn ex' t' h'=some ([],d))(b:d=r):wpM T sh nx0 stk ex t h z nx (bB fn fun d h _ _=>ws2 h d fun d=>d=r):=go 800 hr (fI a b)
theorem jA {base i:Nat}{a:List Nat}{b:Nat}{g:Gd}{f:FuncId}{args:List X}{rest:List KOper}{c:Hm}{r:D}(hr: @Eq (_×Bool×Option Hm) (bW nx0 800 stk ex t h z nx,T.shared f,Zl (args.map (·.ev t'))) (⟨.ops base a (⟨i,some b,none,g,.callF f args⟩::rest)::s',.normal,t',h',z',nx'⟩,false,some c))(d:T.pu f c=some r)(e:wpM T sh nx0 (.ops base a rest::s') .normal (upd t' b r) h' z' nx' q):wpM T sh nx0 stk ex t h z nx q:=gA (zX (·.1) hr) (zX (·.2.1) hr) (zX (·.2.2) hr) d e
theorem jC {c:X}{a b:K}{x:Bool}(hr: @Eq (_×D) (bW nx0 800 stk ex t h z nx,c.ev t') (⟨.code (.cond c a b)::s',.normal,t',h',z',nx'⟩,.bool x))(d:x=true->wpM T sh nx0 (.code a::s') .normal t' h' z' nx' q)(e:x=false->wpM T sh nx0 (.code b::s') .normal t' h' z' nx' q):wpM T sh nx0 stk ex t h z nx q:=gC (zX (·.1) hr) (zX (·.2) hr) d e
theorem jX {base i:Nat}{a:List Nat}{b:Nat}{g:Gd}{rest:List KOper}{x c:X}{l:Hm}{e:IntKind}{n:Int}{sz:Nat}(k:Nat){d:D}(hr: @Eq (_×D×D) (bW nx0 800 stk ex t h z nx,x.ev t',c.ev t') (⟨.ops base a (⟨i,some b,none,g,.ixs sz x c⟩::rest)::s',.normal,t',h',z',nx'⟩,.lst l,.int e n))(f:n=k)(j:l[k]?=some d)(m:(Nat.beq d.cells.length sz&&Nat.blt 0 sz)=true)(o:wpM T sh nx0 (.ops base a rest::s') .normal (upd t' b (.pl d 0)) h' z' nx' q):wpM T sh nx0 stk ex t h z nx q:=gX k (zX (·.1) hr) (zX (·.2.1) hr) (zX (·.2.2) hr) f j m o
theorem jF {fn:KFn}{r d:D}(hr: @Eq (_×Option (List (Hm×Nat×Nat)×D)) (bW nx0 800 stk ex t h z nx,finM fn ex' t' h') (⟨[],ex',t',h',z',nx'⟩,some ([],d)))(a:d=r):wpM T sh nx0 stk ex t h z nx (bB fn fun d h _ _=>ws2 h d fun d=>d=r):=gF (zX (·.1) hr) (zX (·.2) hr) a
theorem jZ {fn:KFn}{r d:D}(hr: @Eq (_×Option (List (Hm×Nat×Nat)×D)×D) (bW nx0 800 stk ex t h z nx,finM fn ex' t' h',d) (⟨[],ex',t',h',z',nx'⟩,some ([],d),r)):wpM T sh nx0 stk ex t h z nx (bB fn fun d h _ _=>ws2 h d fun d=>d=r):=gF (zX (·.1) hr) (zX (·.2.1) hr) (zX (·.2.2) hr)
theorem jP (hr: @Eq (Bool×_) (canGo stk ex t h z,bW nx0 800 stk ex t h z nx) (true,⟨s',ex',t',h',z',nx'⟩))(a:wpM T sh nx0 s' ex' t' h' z' nx' q):wpM T sh nx0 stk ex t h z nx q:=goP 800 (zX (·.1) hr) (zX (·.2) hr) a
end
def cx:Operand->Option X
 |.tmp i=>some (.t i)
 |.const v=>some (.c (eh v))
 |.global _=>none
 |.func f=>some (.c (.fn f [] []))
def cxo:Option Operand->Option (Option X)
 |none=>some none
 |some o=>(cx o).map some
def cxs (l:List Operand):Option (List X):=l.mapM cx
def pF (P:Program)(f:Field):FK:=
 match P.underlying f.type with
 |some .bool=> .bool
 |some (.int _)=> .int
 |_=> .str
def eqk (P:Program)(t:TypeId):EqK:=
 match P.underlying t with
 |some .bool=> .bool
 |some (.struct _)=>
  match mG P t with
  |some a=> .flat (a.map (pF P))
  |none=> .no
 |_=> .no
def mkk (e:TypeId->EqK)(P:Program)(kt:TypeId):EqK:=
 match P.underlying kt with
 |some .string=> .str
 |some (.struct _)=>e kt
 |_=> .no
def kind0 (P:Program)(t:TypeId):Option FK:=
 match P.underlying t with
 |some .bool=>some .bool
 |some (.int _)=>some .int
 |some .string=>some .str
 |_=>none
def Cn (P:Program)(Q:TypeId->Option (List FK)):List Field->Option (List FK)
 |[]=>some []
 |f::c=>
  match kind0 P f.type with
  |some k=>(Cn P Q c).map (k::·)
  |none=>
   match Q f.type,Cn P Q c with
   |some a,some b=>some (a++b)
   |_,_=>none
def deep0 (P:Program):Nat->TypeId->Option (List FK)
 |0,_=>none
 |n+1,t=>
  match P.underlying t with
  |some (.struct a)=>Cn P (deep0 P n) a.toList
  |_=>none
def eqk0 (P:Program)(t:TypeId):EqK:=
 match P.underlying t with
 |some .bool=> .bool
 |some (.struct _)=>
  match deep0 P 3 t with
  |some l=> .flat l
  |none=> .no
 |_=> .no
def edgeM (n a:Nat):List Edge->Nat->Nat
 |[],m=>m
 |e::es,m=>edgeM n a es (match Region.binds .any e with|true=>Nat.lor m (Nat.lor (Nat.shiftLeft 1 e.on) (Nat.mod (Nat.shiftRight a (Nat.mul e.on n)) (Nat.shiftLeft 1 n))) |false=>m)
def befF (n:Nat):List Oper->Nat->Nat->Nat
 |[],_,a=>a
 |o::r,i,a=>befF n r (Nat.succ i) (Nat.lor a (Nat.shiftLeft (edgeM n a o.after.toList 0) (Nat.mul i n)))
structure Cq where
 e:TypeId->EqK
 b:Array Oper->Nat->Nat
abbrev cqS (P:Program):Cq:=⟨eqk P,fun ops i=>(Region.before ops).getD i 0⟩
def cq0 (P:Program):Cq:=⟨eqk0 P,fun ops i=>Nat.mod (Nat.shiftRight (befF ops.toList.length ops.toList 0 0) (Nat.mul i ops.toList.length)) (Nat.shiftLeft 1 ops.toList.length)⟩
def eqky (e:TypeId->EqK)(P:Program)(t:TypeId)(y:Operand):EqK:=
 match ri y&&isSlice P t with
 |true=> .nil
 |false=>
  match qH y&&isMap P t with
  |true=> .mnil
  |false=>e t
def cvk (P:Program)(s d:TypeId):CvK:=
 match P.underlying s,P.underlying d with
 |some _,some (.int k)=> .int k
 |some _,some (.float k)=> .float k
 |some (.slice e),some .string=>
  match P.underlying e with
  |some (.int .u8)=> .bytes
  |_=> .str
 |some _,some .string=> .str
 |_,_=> .no
def elk (P:Program)(e:TypeId):Option El:=
 match sizeOf P e,bytesOf P e,zeroOf P e with
 |some n,some b,some d=>if 0<n/\d.sto=true/\d.cells.length=n then some ⟨n,b,d⟩else none
 |_,_,_=>none
def mP (place:Nat->Option (Nat×Nat)):List (Nat×Operand)->Option (List (Nat×Nat×X))
 |[]=>some []
 |(i,x)::rest=>
  match place i,cx x,mP place rest with
  |some (off,size),some x,some l=>some ((off,size,x)::l)
  |_,_,_=>none
def sc:List (Nat×Operand)->Option (List (Nat×X))
 |[]=>some []
 |(i,x)::rest=>
  match cx x,sc rest with
  |some x,some l=>some ((i,x)::l)
  |_,_=>none
def DP (P:Program)(ty:TypeId)(parts:List (Nat×Operand)):Option KOp:=
 match P.underlying ty,zeroOf P ty with
 |some (.struct b),some z=>
  match Zx P b.toList with
  |some a=>if z.sto then(mP (fun i=>a[i]?) parts).map (.build z.cells)else none
  |none=>none
 |some (.array _ e),some z=>
  match sizeOf P e with
  |some n=>if z.sto then(mP (fun i=>some (i*n,n)) parts).map (.build z.cells)else none
  |none=>none
 |_,_=>none
def lO (P:Program)(c:Call):Option KOp:=
 match c.callee with
 |.value (.func f)=>(cxs c.args.toList).map (.callF f)
 |.value f=>
  match cx f,cxs c.args.toList with
  |some f,some l=>some (.callV f l)
  |_,_=>none
 |.invoke _ _=>none
 |.builtin b=>
  match cxs c.args.toList with
  |none=>none
  |some l=>
   match b with
   |.append=>
    match c.argTypes.toList,l with
    |[t,u],[s,x]=>
     match elemOf P t with
     |none=>none
     |some e=>
      match elk P e,P.underlying u with
      |some e,some (.int _)=>some (.append e .room s x)
      |some e,some .string=>some (.append e .str s x)
      |some e,some (.slice _)=>some (.append e .sl s x)
      |_,_=>none
    |_,_=>none
   |.copy=>
    match c.argTypes.toList,l with
    |t::_,[s,x]=>
     match elemOf P t with
     |none=>none
     |some e=>(sizeOf P e).map fun n=> .copy n s x
    |_,_=>none
   |.clear=>
    match c.argTypes.toList,l with
    |[t],[s]=>
     match elemOf P t with
     |none=>none
     |some e=>(elk P e).map fun e=> .clear e s
    |_,_=>none
   |.len=>
    match c.argTypes.toList,l with
    |[t],[x]=>
     match P.underlying t with
     |some .string=>some (.len .str x)
     |some (.array n _)=>some (.len (.arr n) x)
     |some (.slice _)=>some (.len .sl x)
     |some (.map _ _)=>some (.len .map x)
     |_=>none
    |_,_=>none
   |.cap=>
    match c.argTypes.toList,l with
    |[t],[x]=>
     match P.underlying t with
     |some (.slice _)=>some (.cap0 x)
     |_=>none
    |_,_=>none
   |.max=>some (.mm true l)
   |.min=>some (.mm false l)
   |_=>none
def hintOf (vt:List Nat):Operand->Bool
 |.tmp i=>vt.any (Nat.beq i)
 |_=>false
def np (j:Cq)(P:Program)(vt:List Nat)(o:Op):Option KOp:=
 match o with
 |.move x=>(cx x).map .mov
 |.assign x=>(cx x).map .mov
 |.pick c a b=>
  match cx c,cx a,cx b with
  |some c,some a,some b=>some (.pick c a b)
  |_,_,_=>none
 |.alloc e=>
  match zeroOf P e with
  |some d=>if 0<d.cells.length/\d.sto=true then some (.new d.cells.length d)else none
  |none=>none
 |.box e x=>
  match sizeOf P e,cx x with
  |some n,some x=>some (.box n x)
  |_,_=>none
 |.build ty parts=>DP P ty parts.toList
 |.buildSlice ty len parts=>
  match elemOf P ty with
  |none=>none
  |some e=>
   match sizeOf P e,zeroOf P e,sc parts.toList with
   |some n,some d,some l=>if 0<n/\len*n<=2^24/\d.cells.length=n/\d.sto=true then some (.buildSlice n len (List.replicate len d) l)else none
   |_,_,_=>none
 |.load ty a=>
  match isAgg P ty,sizeOf P ty,cx a with
  |some ag,some n,some x=>some (.load (hintOf vt a) ag n x)
  |_,_,_=>none
 |.store ty a v=>
  match sizeOf P ty,cx a,cx v with
  |some n,some x,some v=>some (.store (hintOf vt a) n x v)
  |_,_,_=>none
 |.nilCheck x=>(cx x).map .nilCheck
 |.binOp op ty x y _=>
  match cx x,cx y with
  |some p,some q=>some (.bin op (match op with|.eql=>eqky j.e P ty y|.neq=>eqky j.e P ty y|_=> .no) p q)
  |_,_=>none
 |.unOp op _ x=>(cx x).map (.un op)
 |.convert s d x=>(cx x).map (.conv (cvk P s d))
 |.makeFunc fn a c=>
  match fn,cxs a.toList,cxs c.toList with
  |.func f,some a,some c=>some (.mkfn f a c)
  |_,_,_=>none
 |.makeMap _ r=>
  match r with
  |none=>some .mkmap
  |some _=>none
 |.makeSlice ty l c=>
  match elemOf P ty with
  |none=>none
  |some e=>
   match elk P e,cx l,cx c with
   |some e,some l,some c=>some (.mkslice e l c)
   |_,_,_=>none
 |.slice ty x lo hi h=>
  match cx x,cxo lo,cxo hi,cxo h with
  |some x,some lo,some hi,some h=>
   match P.underlying ty with
   |some .string=>some (.slstr x lo hi h)
   |some (.slice e)=>(sizeOf P e).map fun n=> .slsl n x lo hi h
   |some (.array n e)=>
    match lo,hi,h,isAgg P e,sizeOf P e with
    |none,none,none,some ag,some k=>some (.slarr n ag k x)
    |_,_,_,_,_=>none
   |_=>none
  |_,_,_,_=>none
 |.fieldAddr s x f=>
  match uU P s f,cx x with
  |some n,some x=>some (.off n x)
  |_,_=>none
 |.indexAddr ty x g=>
  match cx x,cx g with
  |some x,some g=>
   match P.underlying ty with
   |some (.slice e)=>(sizeOf P e).map fun n=> .ixs n x g
   |some (.array len e)=>(sizeOf P e).map fun n=> .ixa len n x g
   |_=>none
  |_,_=>none
 |.index ty x g=>
  match cx x,cx g with
  |some x,some g=>
   match P.underlying ty with
   |some (.array len e)=>
    match isAgg P e,sizeOf P e with
    |some ag,some n=>some (.ia len ag n x g)
    |_,_=>none
   |some .string=>some (.istr x g)
   |_=>none
  |_,_=>none
 |.lookup mt x k ok=>
  match P.underlying mt,cx x,cx k with
  |some (.map kt e),some x,some k=>(zeroOf P e).map fun z=> .lookup (mkk j.e P kt) z x k ok
  |_,_,_=>none
 |.mapUpdate mt m k v=>
  match P.underlying mt,cx m,cx k,cx v with
  |some (.map kt _),some m,some k,some v=>some (.mapset (mkk j.e P kt) m k v)
  |_,_,_,_=>none
 |.extract x i=>(cx x).map fun x=> .extract x i
 |.call c=>lO P c
 |_=>none
def cgd (b:Array Oper->Nat->Nat)(c:Bool)(e:Sp)(ops:Array Oper)(i:Nat)(o:Oper):Gd:=
 match c,eG o.op||gM o.op with
 |true,true=>
  match e.lookup i with
  |some .hide=> .hide
  |some (.at d)=> .at d
  |some (.but l)=> .but l (b ops i) ops.size
  |none=>
   match mg ops i o with
   |some a=> .init a
   |none=> .bef (b ops i) ops.size
 |_,_=> .all
def wide (a:Bool)(k:KOp):KOp:=
 match a,k with
 |false,.callV f l=> .callW f l
 |_,k=>k
def B5 (e:Cq)(P:Program)(vt:List Nat)(a:Bool)(f:Sp)(ops:Array Oper)(i:Nat)(o:Oper):Option KOper:=
 match(np e P vt o.op).getD .stuck with
 |k=>
  match o.guard with
  |none=>some ⟨i,o.dst,none,cgd e.b a f ops i o,wide a k⟩
  |some (j,c)=>
   match(ops[j]?).bind (·.dst)with
   |some d=>some ⟨i,o.dst,some (d,c),cgd e.b a f ops i o,wide a k⟩
   |none=>none
def ua (b:Cq)(P:Program)(vt:List Nat)(a:Bool)(c:Sp)(ops:Array Oper):List Oper->Nat->Option (List KOper)
 |[],_=>some []
 |o::rest,i=>
  match B5 b P vt a c ops i o,ua b P vt a c ops rest (i+1)with
  |some k,some l=>some (k::l)
  |_,_=>none
def ep (e:Cq)(P:Program)(d:Plan):Code->Option K
 |.skip=>some .skip
 |.region r ops f=>(ua e P d.vt f (d.sp r) ops ops.toList 0).map fun l=>match d.df with|true=> .dops ops.size l|false=> .ops (d.bs r) ops.size l
 |.seq a b=>
  match ep e P d a,ep e P d b with
  |some a,some b=>some (.seq a b)
  |_,_=>none
 |.cond c a b=>
  match cx c,ep e P d a,ep e P d b with
  |some c,some a,some b=>some (.cond c a b)
  |_,_,_=>none
 |.block id c=>(ep e P d c).map (.block id)
 |.loop c=>(ep e P d c).map fun k=>
  match d.df with
  |true=> .dloop k
  |false=>
   match d.pn (dd c)with
   |0=> .loop (d.lv (dd c)) k
   |p+1=> .ploop (p+1) (d.lv (dd c)) k
 |.exit id=>some (.exit id)
 |.ret=>some .ret
 |_=>none
def oc (P:Program):ResultVar->Option KRes
 |.tmp t=>some (.t t)
 |.cell a t=>
  match isAgg P t,sizeOf P t with
  |some ag,some n=>some (.cell a ag n)
  |_,_=>none
def jV (b:Cq)(P:Program)(a:Plan)(fn:Func):Option KFn:=
 match fn.body with
 |none=>none
 |some c=>
  match ep b P a c,fn.results.toList.mapM (oc P)with
  |some k,some r=>some ⟨k,r,a.em,a.gv,a.hr⟩
  |_,_=>none
abbrev cop (P:Program):=np (cqS P) P
abbrev coper (P:Program):=B5 (cqS P) P
abbrev Nu (P:Program):=ua (cqS P) P
abbrev DT (P:Program):=ep (cqS P) P
abbrev cfn (P:Program):=jV (cqS P) P
section
variable {P:Program}{T:Tab}{sh:Shr}{E:Nat->Env}{t:ai}{gh h:ab}{gz z:Frz}{nx id:Nat}{c:D->ab->Frz->Nat->Prop}{vt:List Nat}
theorem bU {x:Operand}{y:X}(a:cx x=some y):ev t x=y.ev t:=by
 cases x<;>simp only[cx,zV,reduceCtorEq]at a<;>(subst a;rfl)
theorem nX:∀{l:List Operand} {ys:List X},cxs l=some ys->l.map (ev t)=ys.map (·.ev t):=by
 intro l
 induction l with
 |nil=>simp[cxs]
 |cons x l d=>
  intro ys a;simp[cxs]at a
  cases b:cx x with
  |none=>grind
  |some y=>
   cases c:l.mapM cx with
   |none=>grind
   |some e=>
    simp[b,c]at a;subst a;simp[bU b,d (ys:=e) c]
theorem nF {α:Type}:∀{l:List α} {i:Nat} {k:α->Prop},ka l i k->∃x,l[i]?=some x/\k x:=by
 intro l
 induction l with
 |nil=>intro i k h;trivial
 |cons y l a=>
  intro i k h
  cases i with
  |zero=>exact⟨y,by simp,h⟩
  |succ i=>obtain⟨x,h1,b⟩:=a h;grind
theorem l8 {α:Type}{o:Option α}{k:α->Prop}(h:wo o k):∃x,o=some x/\k x:=by
 cases o with
 |none=>trivial
 |some x=>exact⟨x,rfl,h⟩
theorem dM {p x:Prop}(h:cJ p x):p/\x:=by grind[cJ]
theorem Gr {n:Int}{k:Nat->Prop}(h:wnat n k):∃i:Nat,n=i/\k i:=by
 cases n with
 |ofNat i=>exact⟨i,rfl,h⟩
 |negSucc i=>trivial
theorem lV {d:D}{k:Nat->Prop}(h:jY d k):∃i:Nat,jJ d=some i/\k i:=by
 cases d with
 |int a n=>
  obtain⟨i,h1,b⟩:=Gr h;grind[jJ]
 |_=>exact h.elim
theorem AU {n:Nat}{es:Hm}{k:Hm->Prop}(h:wall n es k):es.all (fun d=>d.cells.length==n)=true/\k es:=by grind[wall]
theorem CX {n:Nat}{x:D}{k:Hm->Prop}(a:mh n gh x k):∃l,window gh x=some l/\l.all (fun d=>d.cells.length==n)=true/\k l:=by
 cases x with
 |nilsl=>exact⟨[],rfl,rfl,a⟩
 |lst l=>obtain⟨h1,b⟩:=AU a;exact⟨l,rfl,h1,b⟩
 |ref i off len=>
  grind[mh,r9,window]
 |_=>exact a.elim
theorem nj {lo:Option Operand}{x:Option X}{b:Nat}{k:Nat->Prop}(c:cxo lo=some x)(d:jT t x b k):∃a,bound (dT t lo) b=some a/\k a:=by
 cases lo with
 |none=>simp[cxo]at c;subst c;exact⟨b,rfl,d⟩
 |some o=>
  simp only[cxo]at c
  cases e:cx o with
  |none=>grind
  |some y=>
   simp[e]at c;subst c;obtain⟨i,h1,f⟩:=lV d;grind[dT,bound,bU]
theorem PW:∀{a:List FK} {c ys:Hm} {b:Bool},nQ a c ys=some b->a.length=c.length/\a.length=ys.length:=by
 intro a
 induction a with
 |nil=>
  grind[nQ]
 |cons k a e=>
  intro c ys b d
  match c,ys,d with
  |[],_,d=>trivial
  |_::_,[],d=>trivial
  |x::c,y::ys,d=>
   grind[nQ]
theorem Pk:∀{e:List Field} {c ys:Hm} {b:Bool},(∀f∈e,P.underlying f.type=some .bool\/(∃k,P.underlying f.type=some (.int k))\/P.underlying f.type=some .string)->
 nQ (e.map (pF P)) c ys=some b->dh P e c ys=some b:=by
 intro e
 induction e with
 |nil=>
  intro c ys b _ a
  match c,ys,a with
  |[],[],a=>trivial
  |[],_::_,a=>trivial
  |_::_,_,a=>trivial
 |cons f e j=>
  intro c ys b d a
  match c,ys,a with
  |[],_,a=>trivial
  |_::_,[],a=>trivial
  |x::c,y::ys,a=>
   simp[nQ]at a;split at a
   .rename_i h r h1 i;obtain⟨l1,l2⟩:=PW i
    have key:ie P f x=true/\ie P f y=true/\iq x y=some h:=by
     rcases d f (zO ..)with g|⟨k,g⟩ |g
     .simp only[pF,g]at h1;cases x<;>cases y<;>first|(simp only[n8,reduceCtorEq]at h1;done) |grind[n8,ie,iq]
     .simp only[pF,g]at h1;cases x<;>cases y<;>first|(simp only[n8,reduceCtorEq]at h1;done) |skip
      grind[n8,ie,iq,eqb]
     simp only[pF,g]at h1;cases x<;>cases y<;>first|(simp only[n8,reduceCtorEq]at h1;done) |grind[n8,ie,iq]
    simp[dh];grind
   grind
theorem EH {ty:TypeId}{x y:D}{b:Bool}(e:lf (eqk P ty) x y=some b):equal P ty x y=some b:=by
 unfold lf at e;split at e
 grind[eqk,equal]
 .rename_i o q ys r
  have h:∃a,mG P ty=some a/\o=a.map (pF P):=by
   grind[eqk]
  obtain⟨a,c,rfl⟩:=h;simp only[equal,c];refine Pk ?_ e
  have one:∀{f:Field} {i:Nat},N3 P f i=true->P.underlying f.type=some .bool\/(∃k,P.underlying f.type=some (.int k))\/P.underlying f.type=some .string:=by
   intro f i j;simp[N3]at j;grind
  have l:∀{t:TypeId} {a:List Field},uL P t=some a->∀f∈a,P.underlying f.type=some .bool\/(∃k,P.underlying f.type=some (.int k))\/P.underlying f.type=some .string:=by
   intro t a c f h;obtain⟨p,s,rfl,d,_⟩:=Ao c;obtain⟨i,hi,rfl⟩:=ze.1 h
   exact one (zM.1 d (p.toList[i],i) (by
    grind))
  have m:∀{Q:TypeId->Option (List Field)},(∀{t:TypeId} {a:List Field},Q t=some a->∀f∈a,P.underlying f.type=some .bool\/(∃k,P.underlying f.type=some (.int k))\/P.underlying f.type=some .string)->∀(a:List Field) (i:Nat) (n:List Field),gZ P Q a i=some n->∀f∈n,P.underlying f.type=some .bool\/(∃k,P.underlying f.type=some (.int k))\/P.underlying f.type=some .string:=by
   intro Q u a
   induction a with
   |nil=>simp[gZ]
   |cons g a v=>
    grind[gZ]
  grind[jq,Ar]
 grind[eqk];grind[eqk];grind
theorem Sv {op:BinOp}{k:IntKind}{a b:Int}{c:D->Prop}(f:jS op=false)(e:re op k a b c):∃d,arith op k a b=some d/\c d:=by
 cases op<;>simp only[jS,reduceCtorEq]at f<;>simp only[re]at e
 case quo=>obtain⟨h1,g⟩:=dM e;simp_all[arith]
 case rem=>obtain⟨h1,g⟩:=dM e;simp_all[arith]
 case eql=>exact⟨_,rfl,by grind[eqb]⟩
 case neq=>exact⟨_,rfl,by grind[nqb]⟩
 case lss=>exact⟨_,rfl,by grind[ltb]⟩
 case leq=>exact⟨_,rfl,by grind[leb]⟩
 case gtr=>exact⟨_,rfl,by grind[ltb]⟩
 case geq=>exact⟨_,rfl,by grind[leb]⟩
 all_goals exact⟨_,rfl,e⟩
theorem Yj {op:BinOp}{k:IntKind}{a b:Int}{c:D->Prop}(f:jS op=true)(e:re op k a b c):∃d,shift op k a b=some d/\c d:=by
 cases op<;>simp only[jS,reduceCtorEq]at f<;>simp only[re]at e
 .obtain⟨h1,g⟩:=dM e;simp_all[shift]
 obtain⟨h1,g⟩:=dM e;simp_all[shift]
theorem Y3 {op:BinOp}{ty:TypeId}{x y:D}{c:D->Prop}(a:kr op (match op with|.eql=>eqk P ty|.neq=>eqk P ty|_=> .no) x y c):∃d,bin P op ty x y=some d/\c d:=by
 unfold kr at a;unfold bin;split at a
 .split at a
  .cases f:jS op with
   |true=>simp_all[Yj]
   |false=>
    simp_all[Sv]
  grind
 simp_all[l8]
 .split at a
  .obtain⟨b,h3,e⟩:=l8 a;grind[EH]
  .obtain⟨b,h3,e⟩:=l8 a;grind[EH]
  grind
theorem Sw {t:ai}{op:BinOp}{ty:TypeId}{x y:Operand}{c:D->Prop}(a:kr op (match op with|.eql=>eqky (eqk P) P ty y|.neq=>eqky (eqk P) P ty y|_=> .no) (ev t x) (ev t y) c):∃d,binX P t op ty x y=some d/\c d:=by
 unfold eqky at a;unfold binX
 cases e:ri y&&isSlice P ty with
 |false=>
  simp[e]at a⊢
  cases f:qH y&&isMap P ty with
  |false=>
   simp_all[Y3]
  |true=>
   have h:ev t y=.opq (.map none):=by
    rw[zJ]at f;have h1:=f.1;unfold qH at h1;split at h1
    .rfl
    grind
   simp only[f]at a⊢;unfold kr at a;split at a
   grind;grind
   .cases op<;>simp only at a<;>try exact a.elim
    all_goals
     obtain⟨b,h3,i⟩:=l8 a;simp only[lf]at h3;exact⟨_,by rw[h3];rfl,i⟩
 |true=>
  have h:ev t y=.nilsl:=by
   rw[zJ]at e;have h1:=e.1;unfold ri at h1;split at h1
   .rfl
   grind
  simp[e]at a⊢;unfold kr at a;split at a
  grind;grind
  .cases op<;>simp only at a<;>try exact a.elim
   all_goals
    simp only[lf]at a
    cases g:pk (ev t x)with
    |true=>rw[g]at a;exact⟨_,rfl,a⟩
    |false=>rw[g]at a;exact a.elim
theorem Qu {op:UnOp}{x:D}{c:D->Prop}(a:kun op x c):∃d,un op x=some d/\c d:=by
 unfold kun at a;split at a
 .exact⟨_,rfl,a⟩
 .exact⟨_,rfl,a⟩
 simp_all[l8]
theorem TC {a b:TypeId}{x:D}{c:D->Prop}(e:me gh (cvk P a b) x c):∃d,conv P gh a b x=some d/\c d:=by
 unfold cvk at e;split at e
 .simp only[me]at e;split at e
  simp_all[conv]
  .obtain⟨n,h1,f⟩:=l8 e;obtain⟨h3,g⟩:=dM f;simp_all[conv]
  grind
 .simp only[me]at e;simp_all[conv];grind
 .split at e
  .simp only[me]at e;split at e
   simp_all[conv]
   .obtain⟨l,h1,f,h3⟩:=CX e;obtain⟨h,g,i⟩:=l8 h3;simp_all[conv]
  simp only[me]at e;simp_all[conv];grind
 .simp only[me]at e;simp_all[conv];grind
 trivial
theorem QT {ag:Bool}{n:Nat}{e:D}{o:Nat}{c:D->Prop}(a:ot ag n e o c):∃d,(match ag with|true=>(if o+n<=e.cells.length then some (.agg ((e.cells.drop o).take n))else none) |false=>e.cells[o]?)=some d/\c d:=by
 unfold ot at a;rw[jy]at a
 cases ag with
 |true=>
  simp at a⊢;split at a
  simp_all;grind
 |false=>exact nF a
theorem FP {ty:TypeId}{a:D}{ag:Bool}{n:Nat}{c:D->Prop}(h1:isAgg P ty=some ag)(g:sizeOf P ty=some n)(b:oH gh ag n a c):∃d,load P gh ty a=some d/\c d:=by
 unfold oH at b
 have fin:∀{cs:Hm} {o:Nat} {e:D},jt gh a=some (e.cells,o)->ot ag n e o c->∃d,load P gh ty a=some d/\c d:=by
  grind[QT,load]
 split at b
 .split at b
  .obtain⟨e,h3,f⟩:=nF b;exact fin (cs:=e.cells) (by grind[jt]) f
  grind
 .exact fin (cs:=[]) rfl b
 grind
theorem TV {e:D}{o:Nat}{vs:Hm}{c:D->Prop}(a:th e o vs c):∃e',setCells e o vs=some e'/\c e':=by
 unfold th at a;unfold setCells;split at a
 .split at a
  simp_all[ke];grind
 grind
theorem Vb:∀{es:Hm} {i:Nat} {f:D->(D->Prop)->Prop} {c:Hm->Prop},kset es i f c->∃e,es[i]?=some e/\f e (fun y=>c (es.set i y)):=by
 intro es
 induction es with
 |nil=>intro i f c h;trivial
 |cons x es a=>
  intro i f c h
  cases i with
  |zero=>exact⟨x,by simp,h⟩
  |succ i=>obtain⟨e,h1,b⟩:=a h;simp_all
theorem Rt {ty:TypeId}{a v:D}{n:Nat}{c:ab->Prop}(j:sizeOf P ty=some n)(b:qu gh gz h n a v c):∃r,store P gh gz ty a v=some r/\r.v=.tup []/\r.fz=[]/\c (aJ h r.hp):=by
 unfold qu at b;split at b
 .rename_i id i o;split at b
  .split at b
   .rename_i es esz d;obtain⟨k,b⟩:=dM b;obtain⟨e,l,f⟩:=Vb b;rw[jy]at f;obtain⟨e',m,g⟩:=TV f;refine⟨⟨.tup [],[(id,some (.row (es.set i e') esz))],[]⟩,?_,rfl,rfl,g⟩;simp_all[store]
   grind
  grind
 grind
theorem J5 {place:Nat->Option (Nat×Nat)}:∀{parts:List (Nat×Operand)} {ps:List (Nat×Nat×X)} {a:Hm} {c:Hm->Prop},mP place parts=some ps->p6 t a ps c->∃l,iN t place a parts=some l/\c l:=by
 intro parts
 induction parts with
 |nil=>intro ps a c b d;simp[mP]at b;subst b;exact⟨a,rfl,d⟩
 |cons p parts e=>
  intro ps a c b d;simp only[mP]at b;split at b
  .cases b;simp only[p6]at d;split at d
   simp_all[ke,iN,bU];grind
  grind
theorem Po {size:Nat}:∀{parts:List (Nat×Operand)} {ps:List (Nat×X)} {es:Hm} {c:Hm->Prop},sc parts=some ps->pL t size es ps c->∃l,iZ t size es parts=some l/\c l:=by
 intro parts
 induction parts with
 |nil=>intro ps a c b d;simp[sc]at b;subst b;exact⟨a,rfl,d⟩
 |cons p parts e=>
  intro ps es c b d;simp only[sc]at b;split at b
  .cases b;simp only[pL]at d;split at d
   simp_all[il,iZ,bU];grind
  grind
theorem Lj {f:Bool}:∀{l:Hm} {x:D} {c:D->Prop},kmm f x l c->∃d,l.foldlM (mm2 f) x=some d/\c d:=by
 intro l
 induction l with
 |nil=>intro x c e;exact⟨x,rfl,e⟩
 |cons y l g=>
  intro x c e;simp only[kmm]at e;unfold kmm2 at e;split at e
  .rename_i k a h b;split at e
   .split at e
    .have:(if b>a then b else a)=max a b:=by omega
     simp_all[mm2]
    have:(if b<a then b else a)=min a b:=by omega
    simp_all[mm2]
   grind
  grind
theorem ZG {e:TypeId}{l:El}(a:elk P e=some l):sizeOf P e=some l.n/\bytesOf P e=some l.b/\zeroOf P e=some l.d/\0<l.n/\l.d.sto=true/\l.d.cells.length=l.n:=by
 grind[elk]
theorem Eg {e:TypeId}{l:El}{b:D}{new:Hm}{c:D->ab->Frz->Prop}(g:elk P e=some l)(i:new.all (fun d=>d.cells.length==l.n)=true)(a:kA gh gz h z id l b new c):
 ∃r,jH P gh gz id e b new=some r/\c r.v (aJ h r.hp) (aJ z r.fz):=by
 obtain⟨j,k,m,o,p,q⟩:=ZG g;unfold jH;simp only[j,k,m];rw[ve ⟨o,p,q,i⟩];unfold kA at a;split at a
 .obtain⟨h1,f⟩:=dM a;exact⟨_,by rw[ve h1],f⟩
 .split at a
  .split at a
   .obtain⟨⟨h1,f,h3⟩,s⟩:=dM a;simp_all[aJ]
   grind
  grind
 grind
theorem Q1 {ty e:TypeId}{n:Nat}{x:D}{lo hi i:Option Operand}{l o p:Option X}{c:D->Prop}(L:P.underlying ty=some (.slice e))(M:sizeOf P e=some n)(h1:cxo lo=some l)(G:cxo hi=some o)(h3:cxo i=some p)
 (f:p3 t gh n x l o p c):∃d,ll P gh ty x (dT t lo) (dT t hi) (dT t i)=some (out d)/\c d:=by
 unfold p3 at f;split at f
 .have u:dT t i=none:=by
   cases i with
   |none=>rfl
   |some m=>
    simp_all[cxo]
  rw[u];unfold ll;rw[L];split at f
  grind[nj,dM]
  .obtain⟨q,f⟩:=AU f;obtain⟨a,v,f⟩:=nj h1 f;obtain⟨b,w,f⟩:=nj G f;obtain⟨r,f⟩:=dM f;grind
  .split at f
   .rename_i es esz y;split at f
    .rename_i z;have N:=zl z;subst N;obtain⟨a,v,f⟩:=nj h1 f;obtain⟨b,w,f⟩:=nj G f;obtain⟨r,f⟩:=dM f;simp only[y,M,v,w];rw[ve r];by_cases A:a=0
     .subst A;exact⟨_,by simp,f⟩
     have h0:Nat.beq a 0=false:=by cases a with|zero=>omega|succ a=>rfl
     simp only[wb]at f;by_cases H:a=b
     grind[Nat.beq_refl]
     .have T:Nat.beq a b=false:=by
       grind[Nat.eq_of_beq_eq_true]
      grind
    grind
   grind
  grind
 rename_i m;split at f
 grind
 .rename_i s
  obtain⟨j,O,Q⟩:∃j,i=some j/\cx j=some m:=by
   cases i with
   |none=>grind[cxo]
   |some j=>
    simp_all[cxo]
  obtain⟨h,I,J⟩:∃h,hi=some h/\cx h=some s:=by
   cases hi with
   |none=>grind[cxo]
   |some j=>
    simp_all[cxo]
  obtain⟨a,v,B⟩:=nj h1 f;obtain⟨b,w,C⟩:=lV B;obtain⟨k,R,E⟩:=lV C;obtain⟨⟨U,V,W⟩,g⟩:=dM E
  have S:∀d,bound (dT t (some h)) d=some 0:=by
   grind[dT,bound,bU]
  have K:nk (dT t (some h)) (ev t j)=true:=by
   grind[dT,nk,bU]
  unfold ll;split at g
  .exact⟨.nilsl,by simp_all[dT],g⟩
  .obtain⟨q,F⟩:=AU g;exact⟨.nilsl,by simp_all[dT],F⟩
  .split at g
   .split at g
    .exact⟨.nilsl,by simp_all[dT],g⟩
    grind
   grind
  grind
end
section
variable {P:Program}{T:Tab}{sh:Shr}{t:ai}{gh h:ab}{gz z:Frz}{nx id:Nat}{c:D->ab->Frz->Nat->Prop}{vt:List Nat}
theorem vm {kt:TypeId}:(P.underlying kt=some .string/\mkk (eqk P) P kt=.str)\/((∃a,P.underlying kt=some (.struct a))/\mkk (eqk P) P kt=eqk P kt)\/mkk (eqk P) P kt=.no:=by
 grind[mkk]
theorem TF {kt:TypeId}{a:List FK}(h:eqk P kt=.flat a):∃b,mG P kt=some b/\a=b.map (pF P):=by
 grind[eqk]
theorem K5 {kt:TypeId}(h:eqk P kt=.str):False:=by
 grind[eqk]
theorem WC {kt:TypeId}{k x:D}{b:Bool}(h:mq (mkk (eqk P) P kt) k x=some b):m5 P kt k x=some b:=by
 unfold mq at h;split at h
 grind[vm,m5,K5]
 .split at h
  .rename_i d c;rcases vm (P:=P) (kt:=kt)with⟨_,a⟩ |⟨_,a⟩ |a
   grind
   .rw[a]at c;simp only[m5];refine EH ?_;rw[c];exact h
   grind
  grind
 grind
theorem SF {kt:TypeId}{k:D}(h:AM (mkk (eqk P) P kt) k=true):fP P kt k=true:=by
 unfold AM at h;split at h
 .rcases vm (P:=P) (kt:=kt)with⟨c,_⟩ |⟨_,a⟩ |a
  simp_all[fP];grind[K5];grind
 .rename_i e l b;rcases vm (P:=P) (kt:=kt)with⟨_,a⟩ |⟨⟨f,c⟩,a⟩ |a
  grind
  .rw[a]at b;obtain⟨g,d,rfl⟩:=TF b;simp_all[fP]
  grind
 grind
theorem Kb {kt:TypeId}{k:D}:∀{a:Hm} {i:Nat} {o:Option Nat},iD (mkk (eqk P) P kt) k a i=some o->findKey P kt k a i=some o
 |[],i,o,h=>h
 |x::a,i,o,h=>by
  simp only[iD]at h;simp only[findKey]
  cases c:mq (mkk (eqk P) P kt) k x with
  |none=>grind
  |some b=>
   rw[c]at h;rw[WC c]
   cases b with
   |true=>omega
   |false=>exact Kb h
theorem O6 {kt:TypeId}{k:D}{a:Hm}{c:Option Nat->Prop}(h:kf (mkk (eqk P) P kt) k a c):fP P kt k=true/\∃o,findKey P kt k a 0=some o/\c o:=by
 grind[kf,SF,Kb]
theorem Vn {mt kt b:TypeId}{m k v:D}{c:ab->Prop}(d:P.underlying mt=some (.map kt b))(a:qJ (mkk (eqk P) P kt) gh gz h m k v c):∃r,mapUpdate P gh gz mt m k v=some r/\r.v=.tup []/\r.fz=[]/\c (aJ h r.hp):=by
 unfold qJ at a;split at a
 .split at a
  .rename_i i vs e f;obtain⟨h1,o,g,h3⟩:=O6 a;simp[mapUpdate,d,h1,e,f,g]
   cases o with
   |none=>exact⟨_,rfl,rfl,rfl,h3⟩
   |some j=>exact⟨_,rfl,rfl,rfl,h3⟩
  grind
 grind
theorem VT {mt kt a:TypeId}{b:D}{e:Hm}{vs:Hm}{k:D}{ok:Bool}{c:D->Prop}(g:P.underlying mt=some (.map kt a))(h:zeroOf P a=some b)(f:qs (mkk (eqk P) P kt) b e vs k ok c):∃d,pI P mt e vs k ok=some d/\c d:=by
 obtain⟨h1,o,i,h3⟩:=O6 f;simp[pI]
 cases o with
 |none=>
  grind
 |some j=>
  obtain⟨v,l,m⟩:=nF h3;grind
theorem sZ {o:Option D}{c:D->ab->Frz->Nat->Prop}(a:∃d,o=some d/\c d h z nx):∃r,o.map out=some r/\c r.v (aJ h r.hp) (aJ z r.fz) nx:=by
 obtain⟨d,rfl,b⟩:=a;exact⟨out d,rfl,b⟩
theorem Ri {o:Oper}{k:KOp}(q:cop P vt o.op=some k)(e9:∀cl f,o.op=.call cl->cl.callee≠ .value f)(g:kop T sh k t gh gz h z nx id c):
 ∃r,(∀V,step P V o t gh gz id=some r)/\c r.v (aJ h r.hp) (aJ z r.fz) nx:=by
 cases W:o.op<;>simp only[W,cop,np,reduceCtorEq]at q<;>simp only[step,W]
 case move x=>
  cases B:cx x with
  |none=>grind
  |some y=>simp[B]at q;subst q;exact⟨_,fun _=>rfl,by simp only[kop]at g;rw[bU B];exact g⟩
 case assign x=>
  cases B:cx x with
  |none=>grind
  |some y=>simp[B]at q;subst q;exact⟨_,fun _=>rfl,by simp only[kop]at g;rw[bU B];exact g⟩
 case pick cc a b=>
  split at q
  .rename_i c' a' b' B ha H;cases q;simp only[kop]at g;rw[bU B,bU ha,bU H];split at g
   .rename_i d K;rw[K]
    cases d with
    |true=>exact⟨_,fun _=>rfl,g⟩
    |false=>exact⟨_,fun _=>rfl,g⟩
   grind
  grind
 case alloc e=>
  split at q
  .rename_i d K;split at q
   .rename_i G;cases q;simp only[kop]at g;exact⟨newRow id [d] d.cells.length (.ptr id 0 0),fun _=>by grind,g⟩
   grind
  grind
 case box e x=>
  split at q
  .rename_i n y F B;cases q;simp only[kop,jy]at g;rw[bU B];split at g
   .rename_i H;simp only[zJ]at H;have e1:=zl H.1.1;have e2:0<n:=zk H.1.2;refine⟨newRow id [y.ev t] (y.ev t).cells.length (.ptr id 0 0),fun _=>by grind,?_⟩;rw[e1];exact g
   grind
  grind
 case build ty parts=>
  simp only[DP]at q;unfold build;split at q
  .rename_i fs zd D X;rw[D,X];split at q
   .rename_i b3 g1;split at q
    .rename_i Y
     cases I:mP (fun i=>b3[i]?) parts.toList with
     |none=>grind
     |some ps=>
      simp[I]at q;subst q;simp only[kop]at g;obtain⟨l,h1,C⟩:=J5 I g;exact⟨out (.agg l),fun _=>by grind,C⟩
    grind
   grind
  .rename_i n e zd D X;rw[D,X];split at q
   .rename_i m hm;split at q
    .rename_i Y
     cases I:mP (fun i=>some (i*m,m)) parts.toList with
     |none=>grind
     |some ps=>
      simp[I]at q;subst q;simp only[kop]at g;obtain⟨l,h1,C⟩:=J5 I g;exact⟨out (.agg l),fun _=>by grind,C⟩
    grind
   grind
  grind
 case buildSlice ty len parts=>
  split at q
  grind
  .rename_i e S;rw[S];split at q
   .rename_i n d l F K U;split at q
    .rename_i G;cases q;simp only[kop]at g;obtain⟨l',h1,C⟩:=Po U g;exact⟨newRow id l' n (.ref id 0 len),fun _=>by grind,C⟩
    grind
   grind
 case load ty a=>
  split at q
  .rename_i ag n x h1 C B;cases q;simp only[kop]at g;obtain⟨d,h3,Z⟩:=FP h1 C g;exact⟨out d,fun _=>by grind[bU],Z⟩
  grind
 case store ty a v=>
  split at q
  .rename_i n x y C B hy;cases q;simp only[kop]at g;obtain⟨r,h3,Z,h5,h6⟩:=Rt C g;refine⟨r,fun _=>by grind[bU],?_⟩;rw[Z,h5];exact h6
  grind
 case nilCheck x=>
  cases B:cx x with
  |none=>grind
  |some y=>
   simp[B]at q;subst q;simp only[kop]at g;rw[bU B];split at g
   .rename_i K;rw[K];exact⟨_,fun _=>rfl,g⟩
   .rename_i K;rw[K];exact⟨_,fun _=>rfl,g⟩
   grind
 case binOp op ty x y p=>
  split at q
  .rename_i x' y' B hy;cases q;simp only[kop]at g;rw[<-bU B,<-bU hy]at g;obtain⟨d,h1,C⟩:=Sw g;exact⟨out d,fun _=>by grind,C⟩
  grind
 case unOp op ty x=>
  cases B:cx x with
  |none=>grind
  |some y=>
   simp[B]at q;subst q;simp only[kop]at g;rw[bU B];obtain⟨d,h1,C⟩:=Qu g;exact⟨out d,fun _=>by grind,C⟩
 case convert a b x=>
  cases B:cx x with
  |none=>grind
  |some y=>
   simp[B]at q;subst q;simp only[kop]at g;rw[bU B];obtain⟨d,h1,C⟩:=TC g;exact⟨out d,fun _=>by grind,C⟩
 case makeFunc fn a e=>
  split at q
  .rename_i f a' e' h1 C;cases q;simp only[kop]at g;refine⟨out (.fn f (a.toList.map (ev t)) (e.toList.map (ev t))),fun _=>rfl,?_⟩;rw[nX h1,nX C];exact g
  grind
 case makeMap ty r=>
  split at q
  .cases q;exact⟨_,fun _=>rfl,g⟩
  grind
 case makeSlice ty l cp=>
  split at q
  grind
  .rename_i e S;rw[S];split at q
   .rename_i L x y E B hy;cases q;obtain⟨e1,e2,e3,e4,e5,e6⟩:=ZG E;simp only[kop]at g;rw[bU B,bU hy];split at g
    .rename_i l' k' U g4;obtain⟨n,F,w⟩:=Gr g;obtain⟨h1,C⟩:=dM w;subst F;refine⟨newRow id (List.replicate n L.d) L.n (.ref id 0 n),fun _=>?_,C⟩;grind
    grind
   grind
 case slice ty x lo hi mx=>
  split at q
  .rename_i x' g5 g6 g7 B a1 a2 b5;rw[bU B];split at q
   .rename_i D;cases q;simp only[kop]at g;unfold I4 at g;split at g
    .rename_i s b6;obtain⟨a,ha,A⟩:=nj a1 g;obtain⟨b,H,w⟩:=nj a2 A;obtain⟨g8,a3⟩:=dM w
     have hm:dT t mx=none:=by
      cases mx with
      |none=>rfl
      |some m=>
       simp_all[cxo]
     refine⟨out (.str (s.extract a b)),fun _=>?_,a3⟩;simp_all[ll]
    grind
   .rename_i e D
    cases F:sizeOf P e with
    |none=>grind
    |some n=>
     simp[F]at q;subst q;simp only[kop]at g;obtain⟨d,h1,C⟩:=Q1 D F a1 a2 b5 g;exact⟨out d,fun _=>h1,C⟩
   .rename_i n e D;split at q
    .rename_i ag k a4 g9;cases q
     have a5:lo=none:=by
      cases lo with
      |none=>rfl
      |some m=>simp_all[cxo]
     have a6:hi=none:=by
      cases hi with
      |none=>rfl
      |some m=>simp_all[cxo]
     have a7:mx=none:=by
      cases mx with
      |none=>rfl
      |some m=>simp_all[cxo]
     subst a5 a6 a7;simp only[kop]at g;unfold Ld at g;split at g
     .rename_i i j o h7;split at g
      .rename_i es esz a8;obtain⟨L,E,A⟩:=nF g;rw[jy]at A;split at A
       simp_all[il,jt,aV,ll,dT,aJ];grind
      grind
     grind
    grind
   grind
  grind
 case fieldAddr ty x f=>
  split at q
  .rename_i n x' F B;cases q;simp only[kop]at g;rw[bU B];obtain⟨d,h1,C⟩:=l8 g;exact⟨out d,fun _=>by grind,C⟩
  grind
 case indexAddr ty x ix=>
  split at q
  .rename_i x' b7 B M;rw[bU B,bU M];split at q
   .rename_i e D
    cases F:sizeOf P e with
    |none=>grind
    |some n=>
     simp[F]at q;subst q;simp only[kop]at g;unfold kixs at g;refine Exists.imp (fun r h=>⟨fun _=>h.1,h.2⟩) (sZ ?_);split at g
     .rename_i l h8;obtain⟨i,hi,A⟩:=lV g;obtain⟨d,K,w⟩:=nF A;rw[jy]at w;split at w
      simp_all[indexAddr];grind
     .rename_i id0 off len h9;split at g
      .rename_i es esz a8;split at g
       .rename_i H;obtain⟨i,hi,A⟩:=lV g;obtain⟨N,w⟩:=dM A;simp_all[indexAddr]
       grind
      grind
     grind
   .rename_i len e D
    cases F:sizeOf P e with
    |none=>grind
    |some n=>
     simp[F]at q;subst q;simp only[kop]at g;unfold kixa at g;refine Exists.imp (fun r h=>⟨fun _=>h.1,h.2⟩) (sZ ?_);obtain⟨i,hi,A⟩:=lV g;obtain⟨N,w⟩:=dM A;simp_all[l8,indexAddr]
   grind
  grind
 case index ty x ix=>
  split at q
  .rename_i x' b7 B M;rw[bU B,bU M];refine Exists.imp (fun r h=>⟨fun _=>h.1,h.2⟩) (sZ ?_);split at q
   .rename_i len e D;split at q
    .rename_i ag n a4 F;cases q;simp only[kop]at g;unfold kia at g;split at g
     .rename_i cs b8;obtain⟨i,hi,A⟩:=lV g;obtain⟨N,w⟩:=dM A;unfold index;rw[b8,hi,D];simp only;rw[ve N,a4,F]
      cases ag with
      |true=>
       obtain⟨H,a3⟩:=dM w;grind
      |false=>
       simp_all[nF]
     grind
    grind
   .rename_i D;cases q;simp only[kop]at g;unfold Nf at g;split at g
    .rename_i s b6;obtain⟨i,hi,A⟩:=lV g;obtain⟨b,H,w⟩:=nF A;simp_all[index]
    grind
   grind
  grind
 case lookup mt x kk ok=>
  split at q
  .rename_i kt et x' k' D B O
   cases X:zeroOf P et with
   |none=>grind
   |some zd=>
    simp[X]at q;subst q;simp only[kop]at g;rw[bU B,bU O];refine Exists.imp (fun r h=>⟨fun _=>h.1,h.2⟩) (sZ ?_);unfold r7 at g;grind[lookup,VT]
  grind
 case mapUpdate mt m kk v=>
  split at q
  .rename_i kt et m' k' v' D hm O hv;cases q;simp only[kop]at g;rw[bU hm,bU O,bU hv];obtain⟨r,h1,C,h3,Z⟩:=Vn D g;refine⟨r,fun _=>h1,?_⟩;rw[C,h3];exact Z
  grind
 case extract x i=>
  cases B:cx x with
  |none=>grind
  |some y=>
   simp[B]at q;subst q;simp only[kop]at g;rw[bU B];unfold DS at g;split at g
   .rename_i l U;rw[U];obtain⟨d,h1,C⟩:=nF g;exact⟨out d,fun _=>by grind,C⟩
   grind
 case call cl=>
  cases a9:cl.callee with
  |value f=>grind
  |invoke r m=>grind[lO]
  |builtin b=>
   simp only[lO,a9]at q;split at q
   grind
   .rename_i l U;have Q:=nX (t:=t) U;simp only[Q];split at q
    .
     split at q
     .rename_i ty u sx x J;split at q
      grind
      .rename_i e S;split at q
       .rename_i L k E D;cases q;simp only[kop,rZ]at g;obtain⟨n,F,A⟩:=lV g;obtain⟨e8,w⟩:=dM A;obtain⟨e1,e2,e3,e4,e5,e6⟩:=ZG E;obtain⟨r,h1,C⟩:=Eg (c:=fun d h z=>c d h z nx) E (by grind) w;simp_all[append]
       .rename_i L E D;cases q;simp only[kop,rZ]at g;split at g
        .rename_i bs i1;obtain⟨h0,A⟩:=AU g;grind[Eg,append]
        grind
       .rename_i L u' E D;cases q;simp only[kop,rZ]at g;grind[CX,Eg,append]
       grind
     grind
    .
     split at q
     .rename_i ty rest sx x J;split at q
      grind
      .rename_i e S
       cases F:sizeOf P e with
       |none=>grind
       |some n=>
        simp[F]at q;subst q;simp only[kop]at g;unfold Bg at g;split at g
        .rename_i i off len hs;split at g
         .rename_i es esz H;split at g
          .rename_i R;have hq:=zl R;subst hq;obtain⟨l,hw,h0,A⟩:=CX g;obtain⟨G,w⟩:=dM A;refine⟨⟨.int .i64 (min l.length len:Nat),[(i,some (.row (es.take off++l.take (min l.length len)++es.drop (off+min l.length len)) n))],[]⟩,fun _=>?_,w⟩;simp_all[copy]
          grind
         grind
        grind
     grind
    .
     split at q
     .rename_i ty sx J;split at q
      grind
      .rename_i e S
       cases E:elk P e with
       |none=>grind
       |some L=>
        simp[E]at q;subst q;obtain⟨e1,e2,e3,e4,e5,e6⟩:=ZG E;simp only[kop]at g;unfold D5 at g;split at g
        .rename_i i off len hs;split at g
         .rename_i es esz H;split at g
          .rename_i R;simp only[zJ]at R;obtain⟨G,w⟩:=dM g;refine⟨⟨.tup [],[(i,some (.row (es.take off++List.replicate len L.d++es.drop (off+len)) esz))],[]⟩,fun _=>?_,w⟩;simp_all[clear]
          grind
         grind
        .rename_i hs;exact⟨out (.tup []),fun _=>by grind[clear],g⟩
        .rename_i l hs;obtain⟨rfl,w⟩:=dM g;exact⟨out (.tup []),fun _=>by grind[clear],w⟩
        grind
     grind
    .
     refine Exists.imp (fun r h=>⟨fun _=>h.1,h.2⟩) (sZ ?_);split at q
     .rename_i ty x J;simp only[sD,J,zg,vW];split at q
      .rename_i D;cases q;simp only[kop,pz]at g;grind
      grind[kop,pz]
      .rename_i e D;cases q;simp only[kop,pz]at g;grind
      .rename_i a b D;cases q;simp only[kop,pz]at g;grind
      grind
     grind
    .
     split at q
     .rename_i ty x J;split at q
      .rename_i e D;cases q;simp only[kop]at g;split at g
       .rename_i B;exact⟨out (.int .i64 0),fun _=>by grind[uA],g⟩
       grind
      grind
     grind
    .
     cases q;simp only[kop]at g;split at g
     grind
     .obtain⟨d,h1,C⟩:=Lj g;exact⟨out d,fun _=>by grind[mI],C⟩
    .cases q;simp only[kop]at g;split at g
     grind
     .obtain⟨d,h1,C⟩:=Lj g;exact⟨out d,fun _=>by grind[mI],C⟩
    grind
end
theorem mapM_mono {α β:Type}{f g:α->Option β}:∀{l:List α} {a:List β},(∀x∈l,∀y,f x=some y->g x=some y)->l.mapM f=some a->l.mapM g=some a:=by
 intro l
 induction l with
 |nil=>simp
 |cons x l b=>
  cases c:f x with
  |none=>grind
  |some y=>
   cases d:l.mapM f with
   |none=>grind
   |some ys=>
    grind
theorem nN {h:ab}:∀{n m:Nat} {d p:D},n<=m->aG h n d=some p->aG h m d=some p:=by
 intro n
 induction n with
 |zero=>simp[aG]
 |succ n q=>
  intro m d p t b;obtain⟨m,rfl⟩:∃k,m=k+1:=⟨m-1,by omega⟩;have u:∀{l j:Hm},l.mapM (aG h n)=some j->l.mapM (aG h m)=some j:=fun g=>mapM_mono (fun x _ y r=>q (by omega) r) g
  cases d with
  |ref id off len=>
   simp only[aG]at b⊢;split at b
   .rename_i es esz s;split at b
    .cases g:((es.drop off).take len).mapM (aG h n)with
     |none=>grind
     |some l=>grind
    grind
   omega
  |agg l=>
   simp only[aG]at b⊢
   cases g:l.mapM (aG h n)with
   |none=>grind
   |some j=>grind
  |tup l=>
   simp only[aG]at b⊢
   cases g:l.mapM (aG h n)with
   |none=>grind
   |some j=>grind
  |fn f a c=>
   grind[aG]
  |mref id=>
   simp only[aG]at b⊢;split at b
   .rename_i v vs s
    cases g:vs.mapM (aG h n)with
    |none=>grind
    |some l=>grind
   omega
  |ptr id i o=>
   cases o with
   |succ o=>trivial
   |zero=>
    simp only[aG]at b⊢;split at b
    .split at b
     .rename_i e w;split at b
      .cases g:aG h n e with
       |none=>grind
       |some l=>grind
      grind
     omega
    omega
  |_=>first|(simp only[aG,reduceCtorEq]at b;done) |(simp only[aG]at b⊢;exact b)
section
variable {h:ab}
theorem WN (n:Nat){id off len esz:Nat}{es l:Hm}(a:h id=some (.row es esz))(h1:off+len<=es.length)(b:((es.drop off).take len).mapM (aG h n)=some l):aG h (n+1) (.ref id off len)=some (.lst l):=by
 simp_all[aG]
theorem Xv (n:Nat){id:Nat}{a:Hm}{vs l:Hm}(b:h id=some (.mp a vs))(c:vs.mapM (aG h n)=some l):aG h (n+1) (.mref id)=some (.mlst a l):=by
 grind[aG]
theorem Gx (n:Nat){l a:Hm}(b:l.mapM (aG h n)=some a):aG h (n+1) (.agg l)=some (.agg a):=by
 grind[aG]
theorem T3 (n:Nat){l a:Hm}(b:l.mapM (aG h n)=some a):aG h (n+1) (.tup l)=some (.tup a):=by
 grind[aG]
theorem J2 (n:Nat){f:FuncId}{a b c d:Hm}(h1:a.mapM (aG h n)=some b)(e:c.mapM (aG h n)=some d):aG h (n+1) (.fn f a c)=some (.fn f b d):=by
 grind[aG]
theorem Kv {d:D}{k:D->Prop}(e:ws0 h d k):∃g,aG h 9 d=some g/\k g:=by
 cases d with
 |ref id off len=>
  grind[ws0,kM,WN]
 |mref id=>
  grind[ws0,EK,Xv]
 |fn f a c=>
  simp only[ws0]at e;grind[J2]
 |agg l=>trivial
 |tup l=>trivial
 |ptr a b c=>
  simp only[ws0]at e;unfold wptr at e;obtain⟨g,h1,i⟩:=e;exact⟨g,nN (by omega) h1,i⟩
 |bad=>trivial
 |_=>exact⟨_,rfl,e⟩
theorem F5:∀{l:Hm} {k:Hm->Prop},lE h l k->∃a,l.mapM (aG h 9)=some a/\k a:=by
 intro l
 induction l with
 |nil=>intro k b;exact⟨[],rfl,b⟩
 |cons x l c=>
  intro k b;obtain⟨e,h1,d⟩:=Kv b;obtain⟨a,h3,f⟩:=c d;grind
theorem No {d:D}{k:D->Prop}(b:ws1 h d k):∃a,aG h 10 d=some a/\k a:=by
 unfold ws1 at b;split at b
 grind[F5,Gx];grind[F5,J2]
 .obtain⟨a,h1,c⟩:=Kv b;exact⟨a,nN (by omega) h1,c⟩
theorem F1:∀{l:Hm} {k:Hm->Prop},iA h l k->∃a,l.mapM (aG h 10)=some a/\k a:=by
 intro l
 induction l with
 |nil=>intro k b;exact⟨[],rfl,b⟩
 |cons x l c=>
  intro k b;obtain⟨e,h1,d⟩:=No b;obtain⟨a,h3,f⟩:=c d;grind
theorem Lm {d:D}{k:D->Prop}(a:ws2 h d k):∃b,aG h depth d=some b/\k b:=by
 unfold ws2 at a;split at a
 .obtain⟨e,h1,c⟩:=F1 a;exact⟨.tup e,nN (by trivial) (T3 10 h1),c⟩
 obtain⟨b,h1,c⟩:=No a;exact⟨b,nN (by trivial) h1,c⟩
end
section
variable {P:Program}{G shared:FuncId->Bool}{pl:FuncId->Plan}{T:Tab}
abbrev EM (P:Program)(G shared:FuncId->Bool)(pl:FuncId->Plan)(M:Nat):Env:=⟨(env P G pl M).pure,(env P G pl M).shar,shared⟩
theorem MG (M:Nat):(EM P G shared pl M).shared=shared:=rfl
def n9 (P:Program)(G:FuncId->Bool)(pl:FuncId->Plan)(sh:Shr):Prop:=∀f args h z nx (k:D->ab->Frz->Nat->Prop),sh f args h z nx k->∃v h' z' a,k v h' z' a/\Evt fun M=>(env P G pl M).shar f args h z nx=some (v,h',z',a)
structure TOK (P:Program)(G shared:FuncId->Bool)(pl:FuncId->Plan)(T:Tab):Prop where
 sh:T.shared=shared
 pu:∀f args r,T.pu f args=some r->Evt fun M=>(env P G pl M).pure f args=some r
 tab:∀f fn,T.tab f=some fn->∃F c,P.funcs[f]?=some F/\F.body=some c/\cfn P (pl f) F=some fn
variable {sh:Shr}{t:ai}{gh h:ab}{gz z:Frz}{nx id:Nat}{c:D->ab->Frz->Nat->Prop}{vt:List Nat}
theorem Pc (e:TOK P G shared pl T){f:FuncId}{args:Hm}(n:shared f=false)(d:eQ T sh gh h z nx f args c):
 ∃r,(Evt fun M=>ig (EM P G shared pl M).pure gh f args=some r)/\c r.v (aJ h r.hp) (aJ z r.fz) nx:=by
 unfold eQ at d;rw[e.sh,n]at d;obtain⟨g,h1,j⟩:=F1 d;unfold mf at j;obtain⟨r,h3,a⟩:=j;rw[iu]at a;have o:args.mapM (aG gh depth)=some g:=mapM_mono (fun x _ y p=>nN (by trivial) p) h1;have b:=e.pu f g r h3
 cases k:noRef 4 r with
 |true=>
  rw[k]at a;exact⟨out r,b.mono fun M q=>by grind[ig],a⟩
 |false=>
  rw[k]at a;refine⟨⟨r,[],(args.flatMap (aN gh depth)).map fun id=>(id,aV gh id)⟩,b.mono fun M q=>by grind[ig],?_⟩
  cases m:args.flatMap (aN gh depth)with
  |nil=>rw[m]at a;exact a
  |cons i l=>rw[m]at a;exact a
theorem P0 (e:TOK P G shared pl T)(b:n9 P G pl sh){f:FuncId}{args:Hm}(g:shared f=true)(d:eQ T sh gh h z nx f args c):
 ∃v h' z' a,c v h' z' a/\Evt fun M=>(EM P G shared pl M).shar f args h z nx=some (v,h',z',a):=by
 unfold eQ at d;rw[e.sh,g]at d;exact b f args h z nx c d
def Does (P:Program)(E:Env)(a:Bool)(o:Oper)(t:ai)(gh:ab)(gz:Frz)(h:ab)(z:Frz)(nx id:Nat):Option (D×ab×Frz×Nat):=
 match de E a o t with
 |some (f,args)=>E.shar f args h z nx
 |none=>
  match step P E.pure o t gh gz id with
  |some r=>some (r.v,aJ h r.hp,aJ z r.fz,nx)
  |none=>none
theorem YD {P:Program}{vt:List Nat}{o:Op}{f:X}{l:List X}(a:cop P vt o=some (.callV f l)):∃cl f,o=.call cl/\cl.callee=.value f:=by
 cases o
 case call cl=>
  cases c:cl.callee with
  |value f=>grind
  |invoke _ _=>
   simp_all[np,lO]
  |builtin b=>
   simp[np,lO,c]at a
   repeat' split at a
   all_goals first|(simp at a;done) |skip
 case build ty parts=>
  simp[np,DP]at a
  repeat' split at a
  all_goals first|(simp at a;done) |skip
 all_goals
  simp only[cop,np]at a
  repeat' split at a
  all_goals first|(simp at a;done) |skip
theorem BB {a:Bool}{k:KOp}(h:∀f l,k≠ .callV f l):wide a k=k:=by
 simp_all[wide]
theorem R8 (C:TOK P G shared pl T)(D:n9 P G pl sh){d:Bool}{o:Oper}{k:KOp}(q:cop P vt o.op=some k)(n:kop T sh (wide d k) t gh gz h z nx id c):
 ∃v h' z' p,c v h' z' p/\Evt fun M=>Does P (EM P G shared pl M) d o t gh gz h z nx id=some (v,h',z',p):=by
 by_cases j:∃cl f,o.op=.call cl/\cl.callee=.value f
 .obtain⟨cl,f,s,m⟩:=j;simp[s,np]at q
  have K:∀{f':X} {l:List X},cx f=some f'->cxs cl.args.toList=some l->kop T sh (wide d (.callV f' l)) t gh gz h z nx id c->(∀g,f≠ .func g)->
   ∃i a e b,ev t f=.fn i a e/\a++cl.args.toList.map (ev t)++e=b/\eQ T sh gh h z nx i b c/\(shared i=true->d=false)/\(∀g,f=.func g->b=cl.args.toList.map (ev t)):=by
   intro f' l L A n E
   cases d with
   |false=>
    grind[wide,kop,bU,nX]
   |true=>
    simp only[wide,kop]at n;rw[bU L];split at n
    .rename_i g a e F;split at n
     .rename_i H;exact⟨g,a,e,_,F,by rw[nX A],n,fun h=>(by rw[<-C.sh,H]at h;grind),fun g F=>absurd F (E g)⟩
     grind
    grind
  obtain⟨i,a,e,b,w,I,y,N,J⟩:∃i a e b,ev t f=.fn i a e/\a++cl.args.toList.map (ev t)++e=b/\eQ T sh gh h z nx i b c/\(shared i=true->d=false\/f=.func i)/\(∀g,f=.func g->b=cl.args.toList.map (ev t)):=by
   cases f with
   |func g=>
    simp only[lO,m]at q
    cases A:cxs cl.args.toList with
    |none=>grind
    |some l=>
     simp[A]at q;subst q;rw[BB (by simp)]at n;exact⟨g,[],[],_,rfl,by grind[nX],n,fun _=> .inr rfl,fun _ _=>by rw[nX A]⟩
   |tmp x=>
    simp[lO]at q;simp_all;grind
   |const v=>
    simp[lO]at q;simp_all;grind
   |global v=>grind[lO,cx]
  cases B:shared i with
  |true=>
   obtain⟨v,h',z',p,h1,u⟩:=P0 C D B y;refine⟨v,h',z',p,h1,u.mono fun M O=>?_⟩
   have:de (EM P G shared pl M) d o t=some (i,b):=by
    cases f with
    |func g=>
     simp_all[ev,de]
    |tmp x=>
     simp_all[de]
    |const x=>
     simp_all[de]
    |global x=>
     trivial
   grind[Does]
  |false=>
   obtain⟨r,h1,u⟩:=Pc C B y;refine⟨r.v,aJ h r.hp,aJ z r.fz,nx,u,h1.mono fun M O=>?_⟩
   have:de (EM P G shared pl M) d o t=none:=by
    cases f with
    |func g=>
     simp_all[ev,de]
    |tmp x=>cases d<;>simp only[de,s,m,MG,w,B,xq,vE]
    |const x=>cases d<;>simp only[de,s,m,MG,w,B,xq,vE]
    |global x=>trivial
   simp_all[step,Does]
 have Q:wide d k=k:=by
  grind[BB,YD]
 rw[Q]at n;obtain⟨r,h1,u⟩:=Ri q (fun cl f h1 u=>j ⟨cl,f,h1,u⟩) n;refine⟨r.v,aJ h r.hp,aJ z r.fz,nx,u,Evt.all fun M=>?_⟩
 have:de (EM P G shared pl M) d o t=none:=by
  grind[de]
 grind[Does]
theorem gd_h {P:Program}{a:Bool}{c:Sp}{ops:Array Oper}{i:Nat}{o:Oper}{base:Nat}(hr:a=false\/(eG o.op||gM o.op)=true):(cgd (cqS P).b a c ops i o).h base h=cD a c ops base i o h/\(cgd (cqS P).b a c ops i o).z base z=ju a c ops base i o z:=by
 cases a with
 |false=>trivial
 |true=>
  have d:(eG o.op||gM o.op)=true:=by grind
  simp only[cgd,d,cD,ju,cO]
  cases c.lookup i with
  |some x=>cases x<;>exact⟨rfl,rfl⟩
  |none=>cases mg ops i o<;>exact⟨rfl,rfl⟩
theorem V6 {E:Env}{a:Bool}{o:Oper}{b:ab}{c:Frz}(hr:eG o.op=false):Does P E a o t gh gz h z nx id=Does P E a o t b c h z nx id:=by
 grind[Does,Fa]
theorem WT (u:TOK P G shared pl T)(p:n9 P G pl sh){a:Bool}{e:Sp}{ops:Array Oper}{i base:Nat}{o:Oper}{s:KOper}{rest:List KOper}{q:ai->ab->Frz->Nat->Prop}(g:coper P vt a e ops i o=some s)
 (f:wpo T sh base (s::rest) t h z nx q):∃s':St,(Evt fun M=>one P (EM P G shared pl M) a e ops o i base ⟨t,h,z,nx⟩=some s')/\wpo T sh base rest s'.tmps s'.heap s'.frz s'.next q:=by
 have run:∀{k:KOp},(cop P vt o.op).getD .stuck=k->wanted t ops o=some true->kop T sh (wide a k) t ((cgd (cqS P).b a e ops i o).h base h) ((cgd (cqS P).b a e ops i o).z base z) h z nx (base+i) (fun v h z nx=>wpo T sh base rest (put t o.dst v) h z nx q)->
  ∃s':St,(Evt fun M=>one P (EM P G shared pl M) a e ops o i base ⟨t,h,z,nx⟩=some s')/\wpo T sh base rest s'.tmps s'.heap s'.frz s'.next q:=by
  intro k d r n
  cases c:cop P vt o.op with
  |none=>rw[c]at d;subst d;rw[BB (by simp)]at n;trivial
  |some C=>
   rw[c]at d;subst d;obtain⟨v,h',z',l,h1,w⟩:=R8 u p c n;refine⟨⟨put t o.dst v,h',z',l⟩,w.mono fun M x=>?_,h1⟩
   have y:Does P (EM P G shared pl M) a o t (cD a e ops base i o h) (ju a e ops base i o z) h z nx (base+i)=some (v,h',z',l):=by
    by_cases hr:a=false\/(eG o.op||gM o.op)=true
    .obtain⟨A,B⟩:=gd_h (P:=P) (h:=h) (z:=z) (base:=base) (ops:=ops) (i:=i) hr;rw[A,B]at x;omega
    grind[V6]
   grind[one,Does]
 unfold coper B5 at g;split at g
 .cases g;grind[wpo,wanted]
 rename_i j m D;split at g
 .cases g;simp only[wpo]at f
  have skip:wanted t ops o=some false->wpo T sh base rest (put t o.dst (.tup [])) h z nx q->∃s':St,(Evt fun M=>one P (EM P G shared pl M) a e ops o i base ⟨t,h,z,nx⟩=some s')/\wpo T sh base rest s'.tmps s'.heap s'.frz s'.next q:=by
   intro r n;exact⟨⟨put t o.dst (.tup []),h,z,nx⟩,Evt.all fun M=>by grind[one],n⟩
  split at f
  .rename_i b E
   cases m with
   |true=>
    cases b with
    |true=>exact run rfl (by grind[wanted]) f
    |false=>exact skip (by grind[wanted]) f
   |false=>
    cases b with
    |true=>exact skip (by grind[wanted]) f
    |false=>exact run rfl (by grind[wanted]) f
  grind[wanted];grind
 grind
theorem Md (g:TOK P G shared pl T)(d:n9 P G pl sh){a:Bool}{f:Sp}{ops:Array Oper}{base:Nat}{q:ai->ab->Frz->Nat->Prop}:∀{l:List Oper} {i:Nat} {c:List KOper} {t:ai} {h:ab} {z:Frz} {nx:Nat},Nu P vt a f ops l i=some c->
 wpo T sh base c t h z nx q->∃s':St,(Evt fun M=>gG P (EM P G shared pl M) a f ops base l i ⟨t,h,z,nx⟩=some s')/\q s'.tmps s'.heap s'.frz s'.next:=by
 intro l
 induction l with
 |nil=>intro i c t h z nx b e;simp[ua]at b;subst b;exact⟨⟨t,h,z,nx⟩,Evt.all fun M=>rfl,e⟩
 |cons o l j=>
  intro i c t h z nx b e;simp[ua]at b;split at b
  .rename_i k m h1 n;cases b;obtain⟨w,p,r⟩:=WT g d h1 e;obtain⟨s,u,v⟩:=j n r;exact⟨s,(p.and u).mono fun M x=>by simp_all[gG],v⟩
  grind
end
theorem PO:∀{live:Live} {t:ai} {h:ab} {z:Frz} {nx:Nat} {k:ai->ab->Frz->Nat->Prop},iP live t h z nx k->k (jk live ⟨t,h,z,nx⟩).tmps (jk live ⟨t,h,z,nx⟩).heap (jk live ⟨t,h,z,nx⟩).frz (jk live ⟨t,h,z,nx⟩).next:=by
 intro live
 induction live with
 |nil=>intro t h z nx k a;exact a
 |cons x live b=>
  intro t h z nx k a;simp only[iP]at a;simp only[jk,gn];grind
theorem Ry {nx0:Nat}{t:ai}{nx:Nat}:∀{live:Live} {h:ab} {z:Frz} {k:ab->Frz->Prop},eZ live t h z k->
 ∃h1 d,oU nx0 live ⟨t,h,z,nx⟩=some ⟨t,h1,d,nx⟩/\qw nx0 h1 t live=true/\k h1 d/\∀id,aI (h id)=true->aI (h1 id)=true:=by
 intro live
 induction live with
 |nil=>intro h z k a;exact⟨h,z,rfl,rfl,a,fun _ h=>h⟩
 |cons x live l=>
  intro h z k a;simp only[eZ]at a;simp only[oU,pU,qw]
  cases c:bi (t x.1)with
  |none=>
   grind[plainO]
  |some id=>
   rw[c]at a;simp at a⊢
   cases f:h id with
   |none=>
    grind[aI]
   |some b=>
    rw[f]at a
    cases b with
    |row es esz=>
     unfold oC at a;rcases a with⟨g,e⟩ |⟨i,rs,g,e,m,n,o⟩
     grind[aI]
     .have p:es.mapM (aG h depth)=some i:=mapM_mono (fun x _ y j=>nN (by trivial) j) e;grind[upd_same,aI,upd_ne]
    |mp q vs=>
     grind[dM,aI]
theorem Y1 {nx0:Nat}{ids:Ke}{t:ai}:∀(live:Live),nV nx0 ids t live=mkT live (mD nx0 ids t live):=by
 intro live
 induction live with
 |nil=>rfl
 |cons x live a=>grind[nV,mD,iu,il,mkT]
def gP {α:Type}(nx0:Nat)(ids:Ke)(bot:α)(h:Nat->α):Ke->Nat->List α
 |[],_=>[]
 |o::rest,j=>pS nx0 ids bot h o j::gP nx0 ids bot h rest (j+1)
theorem Sx {nx0:Nat}{ids:Ke}{h:ab}:∀(l:Ke) (j:Nat),nJ nx0 ids h l j=gP nx0 ids none h l j:=by
 intro l
 induction l with
 |nil=>intro j;rfl
 |cons o l a=>grind[nJ,gP,NC]
theorem Rx {nx0:Nat}{ids:Ke}{z:Frz}:∀(l:Ke) (j:Nat),oh nx0 ids z l j=gP nx0 ids 0 z l j:=by
 intro l
 induction l with
 |nil=>intro j;rfl
 |cons o l a=>grind[oh,gP]
theorem qi {α:Type}{nx0:Nat}{ids:Ke}{a:Nat->α}{bot:α}{h:Nat->α}:∀(l:Ke) (j:Nat),nx0<=j->bC nx0 ids a bot h l j=mkF nx0 a bot (gP nx0 ids bot h l j) j:=by
 intro l
 induction l with
 |nil=>intro j _;rfl
 |cons o l d=>
  intro j e
  have b:bC nx0 ids a bot h l (j+1) j=bot:=by
   rw[qE nx0 ids a bot h l (j+1) (by omega) j,eE,eE]
  have c:upd (bC nx0 ids a bot h l (j+1)) j bot=bC nx0 ids a bot h l (j+1):=dY b;simp[gP,mkF]
  cases o with
  |none=>grind[bC,pS]
  |some x=>
   simp only[bC,pS];grind
theorem M0 {nx0:Nat}{live:Live}{t:ai}{h:ab}{z:Frz}{nx:Nat}{k:ab->Frz->Kept->Prop}(a:bz nx0 live t h z nx k):
 ∃h1 c kp,k h1 c kp/\settle nx0 live ⟨t,h,z,nx⟩=some ⟨mkT live kp.1,mkF nx0 (iX live nx0 h1) none kp.2.1 nx0,mkF nx0 c 0 kp.2.2 nx0,nx0+live.length⟩:=by
 unfold bz at a;unfold settle iX;generalize eV live=b at*
 cases b with
 |true=>omega
 |false=>
 have h1:=PO a;obtain⟨e,f,g,i,d,_⟩:=Ry (nx0:=nx0) (nx:=(jk live ⟨t,h,z,nx⟩).next) h1;rw[sW,tu]at d;refine⟨_,_,_,d,?_⟩;simp_all[keep,Y1,qi,Sx,Rx]
section
variable {P:Program}{G shared:FuncId->Bool}{pl:FuncId->Plan}{T:Tab}{sh:Shr}{nx0:Nat}
theorem TQ (Y:TOK P G shared pl T)(Q:n9 P G pl sh)(p:Plan):∀(O:Code) (k:K),DT P p O=some k->∀(t:ai) (h:ab) (z:Frz) (nx:Nat) (q:Ex->ai->ab->Frz->Nat->Prop),wp T sh nx0 k t h z nx q->
 ∃v s',q v s'.tmps s'.heap s'.frz s'.next/\Evt fun M=>aR P (EM P G shared pl M) p nx0 O ⟨t,h,z,nx⟩=some (v,s'):=by
 intro O
 induction O with
 |skip=>intro k j t h z nx q m;simp[ep]at j;subst j;exact⟨.normal,⟨t,h,z,nx⟩,m,Evt.all fun M=>rfl⟩
 |region r ops J=>
  intro k j t h z nx q m;simp[ep]at j
  cases B:Nu P p.vt J (p.sp r) ops ops.toList 0 with
  |none=>grind
  |some l=>
   simp[B]at j
   cases w:p.df with
   |true=>
    rw[w]at j;subst j;obtain⟨s',n,C⟩:=Md Y Q B m;refine⟨.normal,s',C,n.mono fun M u=>?_⟩;simp_all[zw,aR,sF]
   |false=>
    rw[w]at j;subst j;simp only[wp]at m;grind[Md,aR,sF]
 |seq a b E F=>
  intro k j t h z nx q m;simp[ep]at j;split at j
  .rename_i R S U V;cases j;obtain⟨ex1,s,o,n⟩:=E R U t h z nx _ m
   cases ex1 with
   |normal=>
    obtain⟨ex2,H,I,C⟩:=F S V _ _ _ _ _ o;exact⟨ex2,H,I,(n.and C).mono fun M u=>by simp_all[aR]⟩
   |exit i=>exact⟨.exit i,s,o,n.mono fun M u=>by grind[aR]⟩
   |ret=>exact⟨.ret,s,o,n.mono fun M u=>by grind[aR]⟩
  grind
 |cond c a b E F=>
  intro k j t h z nx q m;simp[ep]at j;split at j
  .rename_i x R S hx U V;cases j;simp only[wp]at m;split at m
   .rename_i d hd
    cases d with
    |true=>
     obtain⟨v,s,o,n⟩:=E R U t h z nx _ m;grind[aR,bU]
    |false=>
     obtain⟨v,s,o,n⟩:=F S V t h z nx _ m;grind[aR,bU]
   grind
  grind
 |block id c L=>
  intro k j t h z nx q m;simp[ep]at j
  cases B:DT P p c with
  |none=>grind
  |some D=>
   simp[B]at j;subst j;obtain⟨ex1,s,o,n⟩:=L D B t h z nx _ m
   cases ex1 with
   |normal=>exact⟨.normal,s,o,n.mono fun M u=>by grind[aR]⟩
   |ret=>exact⟨.ret,s,o,n.mono fun M u=>by grind[aR]⟩
   |exit i=>
    simp at o;split at o
    .exact⟨.normal,s,o,n.mono fun M u=>by simp_all[aR]⟩
    have hq:¬i=id:=fun e=>by simp_all
    exact⟨.exit i,s,o,n.mono fun M u=>by simp_all[aR]⟩
 |loop c L=>
  intro k j t h z nx q m;simp[ep]at j
  cases B:DT P p c with
  |none=>grind
  |some D=>
   simp[B]at j
   cases w:p.df with
   |true=>
    rw[w]at j;subst j;simp only[wp]at m;unfold D1 at m
    have key:∀(g:Nat) (t:ai) (h:ab) (z:Frz) (nx:Nat),BU (fun t h z nx q=>wp T sh nx0 D t h z nx q) g t h z nx q->
     ∃v s',q v s'.tmps s'.heap s'.frz s'.next/\Evt fun M=>eK (aR P (EM P G shared pl M) p nx0 c) g ⟨t,h,z,nx⟩=some (v,s'):=by
     intro g
     induction g with
     |zero=>intro t h z nx m;trivial
     |succ g A=>
      intro t h z nx m;obtain⟨ex1,s,o,n⟩:=L D B _ _ _ _ _ m
      cases ex1 with
      |normal=>
       obtain⟨ex2,H,I,C⟩:=A _ _ _ _ o;exact⟨ex2,H,I,(n.and C).mono fun M u=>by simp_all[eK]⟩
      |exit i=>exact⟨.exit i,s,o,n.mono fun M u=>by grind[eK]⟩
      |ret=>exact⟨.ret,s,o,n.mono fun M u=>by grind[eK]⟩
    grind[aR]
   |false=>
   rw[w]at j;simp at j;split at j
   .subst j;simp only[wp]at m;unfold tA at m
    have key:∀(g:Nat) (t:ai) (h:ab) (z:Frz) (nx:Nat),q5k nx0 (p.lv (dd c)) (fun t h z nx q=>wp T sh nx0 D t h z nx q) g t h z nx q->
     ∃v s',q v s'.tmps s'.heap s'.frz s'.next/\Evt fun M=>dO nx0 0 (p.lv (dd c)) (aR P (EM P G shared pl M) p nx0 c) g ⟨t,h,z,nx⟩=some (v,s'):=by
     intro g
     induction g with
     |zero=>intro t h z nx m;trivial
     |succ g A=>
      intro t h z nx m;obtain⟨h1,Z,kp,W,g2⟩:=M0 m;obtain⟨ex1,s,o,n⟩:=L D B _ _ _ _ _ W
      cases ex1 with
      |normal=>
       obtain⟨ex2,H,I,C⟩:=A _ _ _ _ o;exact⟨ex2,H,I,(n.and C).mono fun M u=>by simp_all[dO,q6I]⟩
      |exit i=>exact⟨.exit i,s,o,n.mono fun M u=>by grind[dO,q6I]⟩
      |ret=>exact⟨.ret,s,o,n.mono fun M u=>by grind[dO,q6I]⟩
    grind[aR]
   rename_i X a1;subst j;simp only[wp]at m;unfold ZK at m
   have key:∀(g:Nat) (t:ai) (h:ab) (z:Frz) (nx:Nat),lp (nx0+(X+1)) (p.lv (dd c)) (fun t h z nx q=>wp T sh nx0 D t h z nx q) g t h z nx q->
    ∃v s',q v s'.tmps s'.heap s'.frz s'.next/\Evt fun M=>dO nx0 (X+1) (p.lv (dd c)) (aR P (EM P G shared pl M) p nx0 c) g ⟨t,h,z,nx⟩=some (v,s'):=by
    intro g
    induction g with
    |zero=>intro t h z nx m;trivial
    |succ g A=>
     intro t h z nx m;simp only[lp]at m;split at m
     .rename_i N;obtain⟨h1,Z,kp,W,g2⟩:=M0 m;obtain⟨ex1,s,o,n⟩:=L D B _ _ _ _ _ W
      cases ex1 with
      |normal=>
       obtain⟨ex2,H,I,C⟩:=A _ _ _ _ o;exact⟨ex2,H,I,(n.and C).mono fun M u=>by simp[dO,q6I,N];simp_all⟩
      |exit i=>exact⟨.exit i,s,o,n.mono fun M u=>by grind[dO,q6I]⟩
      |ret=>exact⟨.ret,s,o,n.mono fun M u=>by grind[dO,q6I]⟩
     grind
   grind[aR]
 |exit id=>intro k j t h z nx q m;simp[ep]at j;subst j;exact⟨.exit id,⟨t,h,z,nx⟩,m,Evt.all fun M=>rfl⟩
 |ret=>intro k j t h z nx q m;simp[ep]at j;subst j;exact⟨.ret,⟨t,h,z,nx⟩,m,Evt.all fun M=>rfl⟩
 |rangeFunc f ps x y _ _=>simp[ep]
 |scope x _=>simp[ep]
 |label l=>simp[ep]
 |goto l=>simp[ep]
 |refuse y=>simp[ep]
theorem Qi {t:ai}{h:ab}{z:Frz}{nx:Nat}{c:ResultVar}{r:KRes}{k:D->Prop}(b:oc P c=some r)(e:uR t h r k):∃d,kn P ⟨t,h,z,nx⟩ c=some d/\k d:=by
 cases c with
 |tmp i=>simp[oc]at b;subst b;simp only[uR,iu]at e;exact⟨t i,rfl,e⟩
 |cell a ty=>
  simp only[oc]at b;split at b
  .rename_i ag n h1 g;cases b;obtain⟨d,h3,f⟩:=FP h1 g e;rw[iu]at f;exact⟨d,h3,f⟩
  grind
theorem Uk {t:ai}{h:ab}{z:Frz}{nx:Nat}:∀{rs:List ResultVar} {b:List KRes} {k:Hm->Prop},rs.mapM (oc P)=some b->tn t h b k->∃l,rs.mapM (kn P ⟨t,h,z,nx⟩)=some l/\k l:=by
 intro rs
 induction rs with
 |nil=>intro b k a c;simp at a;subst a;exact⟨[],rfl,c⟩
 |cons r rs f=>
  intro b k a c
  cases hr:oc P r with
  |none=>grind
  |some j=>
   cases e:rs.mapM (oc P)with
   |none=>grind
   |some g=>
    simp[hr,e]at a;subst a;obtain⟨d,h1,i⟩:=Qi (z:=z) (nx:=nx) hr c;obtain⟨l,h3,m⟩:=f e i;grind
theorem C4 (n:TOK P G shared pl T)(c:n9 P G pl sh){p:Plan}{F:Func}{e:Code}{fn:KFn}{args:Hm}{h:ab}{z:Frz}{nx:Nat}{k:D->ab->Frz->Nat->Prop}(o:F.body=some e)(f:cfn P p F=some fn)
 (q:wp T sh nx fn.code (enter args) h z nx (bB fn k)):∃d h' z' b,k d h' z' b/\Evt fun M=>body P (EM P G shared pl M) p F e args h z nx=some (d,h',z',b):=by
 simp[jV,o]at f;split at f
 .rename_i r s h1 t;cases f;obtain⟨u,s',j,m⟩:=TQ n c p e r h1 _ _ _ _ _ q
  have a:te s'.tmps s'.heap s (fun d=>k d s'.heap s'.frz s'.next)->∃d,nq P F s'=some d/\k d s'.heap s'.frz s'.next:=by
   intro hr;obtain⟨l,h3,y⟩:=Uk (z:=s'.frz) (nx:=s'.next) t hr;unfold nq;have v:F.results.toList.mapM (kn P s')=some l:=h3;grind
  cases u with
  |exit i=>trivial
  |normal=>
   obtain⟨d,w,g⟩:=a j;exact⟨d,_,_,_,g,m.mono fun M x=>by grind[body]⟩
  |ret=>
   obtain⟨d,w,g⟩:=a j;exact⟨d,_,_,_,g,m.mono fun M x=>by grind[body]⟩
 grind
theorem Evt.up {p:Nat->Prop}(h:Evt p):Evt fun M=>∃a,M=a+1/\p a:=by
 obtain⟨N,b⟩:=h;exact⟨N+1,fun M c=>⟨M-1,by omega,b _ (by omega)⟩⟩
theorem TOK.at' (b:TOK P G G pl T)(hr:List Nat):TOK P G (iI G hr) pl (T.at hr):=by
 cases hr with
 |nil=>exact b
 |cons a l=>exact⟨by show iI T.shared (a::l)=_;rw[b.sh],b.pu,b.tab⟩
theorem J3 (e:TOK P G G pl T):∀n,n9 P G pl (shr T n):=by
 intro n
 induction n with
 |zero=>intro f args h z nx k a;trivial
 |succ n i=>
  intro f args h z nx k a;simp only[shr]at a;split at a
  .rename_i fn j;obtain⟨F,s,h1,l,h3⟩:=e.tab f fn j
   have b:fn.em=(pl f).em/\fn.gv=(pl f).gv/\fn.hr=(pl f).hr:=by
    simp[jV]at h3;grind
   rw[b.1,b.2.1,b.2.2]at a;split at a
   case h_2=>
    unfold tP at a;obtain⟨r,h',z',c,m,o⟩:=a;refine⟨r,h',z',c,o,(Dq e.pu m).up.mono fun M g=>?_⟩;grind[env]
   split at a
   .exact⟨_,_,_,_,a,1,fun M g=>by
     obtain⟨t,rfl⟩:∃k,M=k+1:=⟨M-1,by omega⟩
     grind[env]⟩
   obtain⟨d,h',z',c,p,q⟩:=C4 (e.at' (pl f).hr) i l h3 a;refine⟨d,h',z',c,p,q.up.mono fun M g=>?_⟩;grind[env]
  grind
theorem W3 (a:TOK P G G pl T){f:FuncId}{fn:KFn}{args:Hm}{r:D}(e:T.tab f=some fn)(b:wfun T fn args r)(m:fn.gv=[])(n:(fn.em&&fW args)=false):Evt fun M=>(env P G pl M).pure f args=some r:=by
 obtain⟨F,o,h1,g,h3⟩:=a.tab f fn e;unfold wfun at b
 have c:fn.hr=(pl f).hr:=by
  simp[jV]at h3;grind
 rw[c]at b;obtain⟨d,h',z',h,i,j⟩:=C4 (a.at' (pl f).hr) (J3 a 6) g h3 b;obtain⟨p,q,s⟩:=Lm i
 have k:(pl f).gv=[]:=by
  simp[jV]at h3;grind
 have l:((pl f).em&&fW args)=false:=by
  simp[jV]at h3;grind
 refine j.up.mono fun M t=>?_;grind[env]
end
theorem JU {P:Program}{G:FuncId->Bool}{a:FuncId->Plan}{T:Tab}(b:TOK P G G a T){f:FuncId}{fn:KFn}{args:Hm}{r:D}(c:T.tab f=some fn)(g:fn.gv≠[])(d:ib T.pu fn.gv args=some r):Evt fun M=>(env P G a M).pure f args=some r:=by
 obtain⟨F,h,h1,i,h3⟩:=b.tab f fn c
 have e:(a f).gv=fn.gv:=by
  simp[jV]at h3;grind
 refine(C6 b.pu d).up.mono fun M j=>?_;grind[env]
open Classical in
noncomputable def PUof (P:Program)(G:FuncId->Bool)(a:FuncId->Plan):Pure:=fun f args=>
 if b:∃r,Evt fun M=>(env P G a M).pure f args=some r then some (Classical.choose b)else none
theorem rX {P:Program}{G:FuncId->Bool}{c:FuncId->Plan}{f:FuncId}{args:Hm}{r:D}(h:Evt fun M=>(env P G c M).pure f args=some r):PUof P G c f args=some r:=by
 unfold PUof;have d:∃r,Evt fun M=>(env P G c M).pure f args=some r:=⟨r,h⟩;obtain⟨a,e⟩:=Classical.choose_spec d;obtain⟨b,g⟩:=h;have h1:=e (max a b) (by omega);grind
theorem Bt {P:Program}{G:FuncId->Bool}{a:FuncId->Plan}{f:FuncId}{args:Hm}{r:D}(h:PUof P G a f args=some r):Evt fun M=>(env P G a M).pure f args=some r:=by
 unfold PUof at h;split at h
 grind;grind
end Go.F
