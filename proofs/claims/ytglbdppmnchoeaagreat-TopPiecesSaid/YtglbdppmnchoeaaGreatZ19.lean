/- Part 19. -/
import Derived.Test.YtglbdppmnchoeaaGreatZ18
import Derived.LoopN
set_option linter.all false
namespace Go.F
variable {P:Program}{E:Env}
theorem Rel.weaken {n nx0:Nat}{c:Ctx}{g:Map}{e:aM}{i:World}{d b:Nat->Prop}{s:St}{a:Act}{w:World}(R:Rel n nx0 c g e i d s a w)(h:∀id,b id->d id):Rel n nx0 c g e i b s a w:=by
 obtain⟨m,h1,j,h3,k,l⟩:=R.ex;exact⟨⟨m,h1,j,h3,fun id f=>k id (h id f),l⟩,R.below,R.defers,R.size,R.next⟩
theorem Rel.drew {n nx0:Nat}{c:Ctx}{e:Map}{d:aM}{f:World}{b:Nat->Prop}{s:St}{a:Act}{w:World}(R:Rel n nx0 c e d f b s a w):Rel n nx0 c e d f b s a {w with drawn:=w.drawn+1}:=by
 obtain⟨m,h1,g,h3,h,j⟩:=R.ex;refine⟨⟨m,h1.same rfl,fun i=>(g i).mono (Ev.same rfl),h3.trans (Ev.same rfl),h,j⟩,?_,R.defers,R.size,R.next⟩;exact⟨⟨R.below.os,R.below.tape,R.below.output,R.below.size,R.below.block⟩,Nat.le_succ_of_le R.below.dr⟩
theorem So {d:Sp}{ops:Array Oper}{base:Nat}{Q:Exit->Act->World->Prop}(I:(Nat->Prop)->St->Act->World->Prop)
 (c:∀i o s e a w (b:Nat->Prop) (K:Act->World->Prop),ops[i]?=some o->b i->one P E false d ops o i base s=some e->I b s a w->
   (∀f w',I (fun k=>b k/\k≠i) e f w'->K f w')->wpOp P ops Q i K a w)
 {s':St} (h:∀b a w,I b s' a w->Q .normal a w):
 ∀(l:List Nat) (s:St) (a:Act) (w:World) (b:Nat->Prop),l.Nodup->(∀k∈l,b k)->fK P E false d ops base l s=some s'->I b s a w->wpOps P ops Q l a w:=by
 intro l
 induction l with
 |nil=>intro s a w b _ _ hr g;simp[fK]at hr;subst hr;exact h b a w g
 |cons i l n=>
  intro s a w b j m hr g;rw[wpOps_cons];simp only[fK]at hr
  cases p:ops[i]? with
  |none=>
   unfold wpOp;grind
  |some o=>
   grind
def Ox:Ex->Exit
 |.normal=> .normal
 |.exit i=> .exit i
 |.ret=> .ret
section
variable {n nx0:Nat}{c:Ctx}{ms:Map}{prs:aM}{ws:World}
def After (n nx0:Nat)(c:Ctx)(ms:Map)(prs:aM)(ws:World)(b:Ex)(s:St):Exit->Act->World->Prop:=
 fun e a w=>e=Ox b/\Rel n nx0 c ms prs ws (fun id=>s.next<=id) s a w
theorem W0 (f:jK P E)(g:uJ P E)(A:P.follows .mixedOrders=true){k:Nat}{v:Sp}{ops:Array Oper}{e:Bool}(p:((!e||nU E.shared v ops)&&ops.toList.all fun o=>match o.dst with|some d=>Nat.blt d n|none=>true)=true){s s':St}
 {base:Nat} (j:s.next<=base) (hr:gG P E e v ops base ops.toList 0 ⟨s.tmps,s.heap,s.frz,base+ops.size⟩=some s') {a:Act} {w:World} (R:Rel n nx0 c ms prs ws (fun id=>s.next<=id) s a w):
 (Code.region k ops e).wp P (After n nx0 c ms prs ws .normal s') a w:=by
 simp only[zJ]at p
 have l:∀(i:Nat) (o:Oper),ops[i]?=some o->∀d,o.dst=some d->d<n:=by
  intro i o y d F;have:=zM.1 p.2 o (by grind);simp_all
 rw[Yp]at hr
 have start:∀w',Rel n nx0 c ms prs ws (fun id=>s.next<=id) s a w'->
  (Rel n nx0 c ms prs ws (fun id=>(∃k,k<ops.size/\id=base+k)\/base+ops.size<=id) ⟨s.tmps,s.heap,s.frz,base+ops.size⟩ a w'/\∀k,k<ops.size->base+k<base+ops.size):=by
  intro w' q;obtain⟨m,h1,B,h3,C,D⟩:=q.ex;refine⟨⟨⟨m,h1,B,h3,fun id r=>C id ?_,D⟩,q.below,q.defers,q.size,by have:=q.next;grind⟩,fun k x=>by omega⟩;omega
 have z:∀(b:Nat->Prop) (a:Act) (w:World),(Rel n nx0 c ms prs ws (fun id=>(∃k,b k/\id=base+k)\/s'.next<=id) s' a w/\∀k,b k->base+k<s'.next)->After n nx0 c ms prs ws .normal s' .normal a w:=
  fun b a w h=>⟨rfl,h.1.weaken fun id r=> .inr r⟩
 cases e with
 |false=>
  refine wp_region ?_
  exact So (fun b s a w=>Rel n nx0 c ms prs ws (fun id=>(∃k,b k/\id=_+k)\/s.next<=id) s a w/\∀k,b k->_+k<s.next)
   (J4 f g (zR R.next j) l) z (List.range ops.size) _ a w (fun k=>k<ops.size) List.nodup_range (fun k x=>yN.1 x) hr (start w R)
 |true=>
  refine wp_region_any A ?_;have t:nU E.shared v ops=true:=by grind
  have u:rem ops (Array.replicate ops.size false)=List.range ops.size:=by
   unfold rem;simp_all
  refine UK (fun b s a w=>Rel n nx0 c ms prs ws (fun id=>(∃k,b k/\id=_+k)\/s.next<=id) s a w/\∀k,b k->_+k<s.next) t
   (J4 f g (zR R.next j) l) z ops.size _ _ a _ (fun k=>k<ops.size) (by grind) (by simp) ?_ (fun k x=>by grind) (by rw[u];omega) (start _ R.drew)
  intro i o y G;have:i<ops.size:=(zS.1 y).1;simp_all
def msP (m:Map)(N:Nat):Map:=fun id=>if id<N then m id else none
theorem AH {m:Map}{N id:Nat}(h:id<N):msP m N id=m id:=if_pos h
theorem KW {m:Map}{N id:Nat}(h:N<=id):msP m N id=none:=if_neg (by omega)
theorem V1 {G:Nat}{live:Live}{s:St}(I:∀id,nx0<=id->ms id=none){a:Act}{w:World}{s':St}(R:Rel n nx0 c ms prs ws (fun id=>s.next<=id) s a w)(p:jF nx0 G live s=some s'):
 Rel n nx0 c ms prs ws (fun id=>s'.next<=id) s' a w:=by
 unfold jF at p;split at p
 grind[He]
 .rename_i k;split at p
  .rename_i g;have g:=zk g;obtain⟨m,H,J,i,y,E⟩:=R.ex
   have K:Ev (msP m (nx0+(k+1))) (Pr c m s.heap s.frz) w m (Pr c m s.heap s.frz) w:=by
    refine⟨fun id x F=>?_,fun _ _ _ h h'=>⟨h,h'⟩,fun _ _ _ h h'=>⟨h,h'⟩,fun _ C _ _ h=>⟨C,h,rfl⟩⟩;by_cases z:id<nx0+(k+1)
    grind[AH]
    .rw[KW (by omega)]at F;grind
   have L:Rel n (nx0+(k+1)) c (msP m (nx0+(k+1))) (Pr c m s.heap s.frz) w (fun id=>s.next<=id) s a w:=
    ⟨⟨m,H,J,K,y,fun id e=>(AH e).symm⟩,Below.refl _ _,R.defers,R.size,g⟩
   have u:=He (fun id e=>KW e) L p;obtain⟨M,N,A,d,l,j⟩:=u.ex;refine⟨⟨M,N,A,⟨fun id x F=>?_,fun b o v B D=>?_,fun r es q B D=>?_,fun b C t f O=>?_⟩,l,fun id e=>?_⟩,R.below,u.defers,u.size,by have:=u.next;omega⟩
   .have z:id<nx0:=by
     grind
    refine d.ext id x ?_;rw[AH (by omega)];grind
   .obtain⟨P,Q⟩:=i.cell b o v B D;grind[d.cell]
   .obtain⟨P,Q⟩:=i.obj r es q B D;grind[d.obj]
   .obtain⟨S,h1,T⟩:=i.size b C t f O;grind
   rw[j id (by omega),AH (by omega)];grind
  grind
theorem Vy (u:jK P E)(v:uJ P E)(J:P.follows .mixedOrders=true)(F:∀id,nx0<=id->ms id=none)(q:Plan):∀(h:Code),jp E.shared q.sp n h=true->∀(s:St) (g:Ex) (s':St),aR P E q nx0 h s=some (g,s')->
 ∀(a:Act) (w:World),Rel n nx0 c ms prs ws (fun id=>s.next<=id) s a w->h.wp P (After n nx0 c ms prs ws g s') a w:=by
 intro h
 induction h with
 |skip=>intro _ s g s' b a w R;obtain⟨rfl,rfl⟩:=b;exact wp_skip ⟨rfl,R⟩
 |region k ops I=>
  intro d s g s' b a w R;simp only[aR]at b;split at b
  .rename_i K;split at b
   .rename_i r hr;obtain⟨rfl,rfl⟩:=b;exact W0 u v J d (zk K) hr R
   grind
  grind
 |seq x y j z=>
  intro d s g s' b a w R;simp[jp]at d;simp only[aR]at b;refine wp_seq ?_
  cases t:aR P E q nx0 x s with
  |none=>grind
  |some p=>
   obtain⟨ex1,r⟩:=p;rw[t]at b;refine wp_mono (j d.1 s ex1 r t a w R) ?_;rintro e A w' ⟨rfl,B⟩
   cases ex1 with
   |normal=>exact z d.2 r g s' b A w' B
   |exit i=>obtain⟨rfl,rfl⟩:=b;trivial
   |ret=>obtain⟨rfl,rfl⟩:=b;trivial
 |cond L x y j z=>
  intro d s g s' b a w R;simp[jp]at d;obtain⟨m,h1,M,h3,Q,S⟩:=R.ex;have D:=tV M L;simp only[aR]at b;split at b
  .rename_i G;rw[G]at D;exact wp_cond_true (D.bools rfl) (j d.1 s g s' b a w R)
  .rename_i G;rw[G]at D;exact wp_cond_false (D.bools rfl) (z d.2 s g s' b a w R)
  grind
 |block id x j=>
  intro d s g s' b a w R;simp only[aR]at b;refine wp_block ?_
  cases t:aR P E q nx0 x s with
  |none=>grind
  |some p=>
   obtain⟨ex1,r⟩:=p;rw[t]at b;refine wp_mono (j d s ex1 r t a w R) ?_;rintro e A w' ⟨rfl,B⟩
   cases ex1 with
   |normal=>obtain⟨rfl,rfl⟩:=b;trivial
   |ret=>obtain⟨rfl,rfl⟩:=b;trivial
   |exit i=>
    simp at b;simp only[Ox,Exit.inBlock];split at b
    .rename_i hi;obtain⟨rfl,rfl⟩:=b;rw[if_pos hi];trivial
    rename_i hi;obtain⟨rfl,rfl⟩:=b;rw[if_neg hi];trivial
 |loop x j=>
  intro d s g s' b a w R;simp only[aR]at b;split at b
  .have key:∀(k:Nat) (s:St) (a:Act) (w:World),eK (aR P E q nx0 x) k s=some (g,s')->Rel n nx0 c ms prs ws (fun id=>s.next<=id) s a w->Code.rounds P x (After n nx0 c ms prs ws g s') k a w:=by
    intro k
    induction k with
    |zero=>intro s a w o _;trivial
    |succ k H=>
     intro s a w o R;simp only[eK]at o
     cases t:aR P E q nx0 x s with
     |none=>grind
     |some p=>
      obtain⟨ex1,r⟩:=p;rw[t]at o;refine wp_mono (j d s ex1 r t a w R) ?_;rintro e A w' ⟨rfl,B⟩
      cases ex1 with
      |normal=>exact H r A w' o B
      |exit i=>obtain⟨rfl,rfl⟩:=o;trivial
      |ret=>obtain⟨rfl,rfl⟩:=o;trivial
   exact wp_loop_rounds jA (key jA s a w b R)
  have key:∀(k:Nat) (s:St) (a:Act) (w:World),dO nx0 (q.pn (dd x)) (q.lv (dd x)) (aR P E q nx0 x) k s=some (g,s')->Rel n nx0 c ms prs ws (fun id=>s.next<=id) s a w->Code.rounds P x (After n nx0 c ms prs ws g s') k a w:=by
   intro k
   induction k with
   |zero=>intro s a w o _;trivial
   |succ k H=>
    intro N a w o O;simp only[dO]at o
    cases C:jF nx0 (q.pn (dd x)) (q.lv (dd x)) N with
    |none=>grind
    |some s=>
     simp only[C]at o;have R:=V1 F O C
     cases t:aR P E q nx0 x s with
     |none=>grind
     |some p=>
      obtain⟨ex1,r⟩:=p;rw[t]at o;refine wp_mono (j d s ex1 r t a w R) ?_;rintro e A w' ⟨rfl,B⟩
      cases ex1 with
      |normal=>exact H r A w' o B
      |exit i=>obtain⟨rfl,rfl⟩:=o;trivial
      |ret=>obtain⟨rfl,rfl⟩:=o;trivial
  exact wp_loop_rounds jA (key jA s a w b R)
 |exit id=>intro _ s g s' b a w R;obtain⟨rfl,rfl⟩:=b;exact wp_exit ⟨rfl,R⟩
 |ret=>intro _ s g s' b a w R;obtain⟨rfl,rfl⟩:=b;exact wp_ret ⟨rfl,R⟩
 |rangeFunc f ps x y _ _=>intro _ s g s' b;trivial
 |scope x _=>intro _ s g s' b;trivial
 |label l=>intro _ s g s' b;trivial
 |goto l=>intro _ s g s' b;trivial
 |refuse y=>intro _ s g s' b;trivial
end
end Go.F
