/- Part 8. -/
import Derived.Test.YtglbdppmnchoeaaGreatZ7
namespace Go.F
variable {P:Program}{E:Env}
def Cj (P:Program)(f:FuncId)(vs:Array Value)(w:World)(Q:Value->World->Prop):Prop:=
 ((callFunc f vs).run P w=.ok (.enter f vs) w/\Calls P f vs w fun e w'=>∃v,e=.returned v/\Q v w')\/(∃v w',(callFunc f vs).run P w=.ok (.value v) w'/\Q v w')
def cR (m:Map)(pr:aM)(w:World)(l:Hm)(vs:Array Value):Prop:=l.length=vs.size/\∀k (_:k<l.length) (_:k<vs.size),VR m pr w l[k] vs[k]
def jK (P:Program)(E:Env):Prop:=∀f args r,E.pure f args=some r->∀(w:World) (ok:aM) (vs:Array Value),(∀b o,ok b o->b<w.heap.size)->cR aS ok w args vs->
 Cj P f vs w fun v w'=>VR aS (fun b o=>ok b o\/w.heap.size<=b) w' r v/\Below w.heap.size w w'
def uJ (P:Program)(E:Env):Prop:=∀f args h z nx r h' z' a,E.shar f args h z nx=some (r,h',z',a)->∀(c:Ctx) (m:Map) (w:World) (vs:Array Value),HR c m h z w->cR m (Pr c m h z) w args vs->(∀id,nx<=id->m id=none)->
 Cj P f vs w fun v w'=>∃m',HR c m' h' z' w'/\VR m' (Pr c m' h' z') w' r v/\Ev m (Pr c m h z) w m' (Pr c m' h' z') w'/\Below c.B w w'/\(∀id,id<nx->m' id=m id)/\(∀id,a<=id->m' id=none)/\nx<=a
theorem Cl {c:Ctx}{m:Map}{h:ab}{z:Frz}{w w':World}(d:HR c m h z w)(e:Below w.heap.size w w'):HR c m h z w'/\Ev m (Pr c m h z) w m (Pr c m h z) w':=by
 have a:∀b,b<w.heap.size->w'.heap[b]?=w.heap[b]?:=fun b i=>e.block b i
 have g:Ev m (Pr c m h z) w m (Pr c m h z) w':=by
  refine⟨fun _ _ h=>h,fun b y v l q=>⟨l,?_⟩,fun r es k l q=>⟨l,?_⟩,fun b C t f i=>⟨C,?_,rfl⟩⟩
  .obtain⟨C,t,f,i,A⟩:=cell?_block q;rw[cell?_row ((a b (zS.1 i).1).trans i)];omega
  grind;grind
 refine⟨⟨fun id es esz hr=>?_,fun id u vs hr=>?_,d.inj,fun id x s=>⟨(d.below id x s).1,zc (d.below id x s).2 e.size⟩,zR d.base e.size,d.zle⟩,g⟩
 .rcases d.row id es esz hr with⟨b,C,t,j,n,o,p⟩ |B
  .exact .inl ⟨b,C,t,j,n,(a b (d.below id _ j).2).trans o,p.mono g⟩
  grind
 obtain⟨r,es,k,j,n,o,p⟩:=d.mp id u vs hr;exact⟨r,es,k,j,n,(a r (d.below id _ j).2).trans o,p.mono g⟩
structure Rel (n nx0:Nat)(c:Ctx)(ms:Map)(prs:aM)(ws:World)(fresh:Nat->Prop)(s:St)(a:Act)(w:World):Prop where
 ex:∃m,HR c m s.heap s.frz w/\(∀i,VR m (Pr c m s.heap s.frz) w (s.tmps i) (a.tmps.getD i undef))/\Ev ms prs ws m (Pr c m s.heap s.frz) w/\(∀id,fresh id->m id=none)/\∀id,id<nx0->m id=ms id
 below:Below c.B ws w
 defers:a.defers=[]
 size:n<=a.tmps.size
 next:nx0<=s.next
theorem AX {m:Map}{pr:aM}{w:World}{t:ai}{a:Act}{b:Option Tmp}{d:D}{v:Value}(c:∀i,VR m pr w (t i) (a.tmps.getD i undef))(e:VR m pr w d v)(f:∀x,b=some x->x<a.tmps.size):
 ∀i,VR m pr w (put t b d i) ((a.put b v).tmps.getD i undef):=by
 intro i;rw[DR]
 cases b with
 |none=>grind[Act.put]
 |some x=>
  simp[Act.put];by_cases h:x=i
  simp_all;simp_all
theorem Bh (a:Act)(b:Option Tmp)(v:Value):(a.put b v).tmps.size=a.tmps.size:=by cases b<;>simp[Act.put]
theorem put_defers (a:Act)(b:Option Tmp)(v:Value):(a.put b v).defers=a.defers:=by cases b<;>simp[Act.put]
theorem JQ {m:Map}{pr:aM}{w:World}{t:ai}{a:Act}(k:∀i,VR m pr w (t i) (a.tmps.getD i undef))(ops:Array Oper)(o:Oper){b:Bool}(f:wanted t ops o=some b):Region.wanted o (yielded ops a.tmps)=b:=by
 unfold wanted at f;unfold Region.wanted
 cases l:o.guard with
 |none=>grind
 |some g=>
  obtain⟨j,h⟩:=g;simp only[l]at f;simp only[yielded]
  cases n:(ops[j]?).bind (·.dst)with
  |none=>grind
  |some d=>
   simp only[n]at f;simp;have c:=k d
   cases p:a.tmps[d]? with
   |none=>
    have:a.tmps.getD d undef=undef:=by grind
    rw[this]at c;cases e:t d<;>first|(rw[e]at f;cases f<;>rfl) |(rw[e]at c;cases c)
   |some v=>
    have:a.tmps.getD d undef=v:=by simp_all
    rw[this]at c
    cases v with
    |bool x=>
     cases e:t d with
     |bool y=>rw[e]at c f;cases c;simp_all
     |bad=>grind
     |opq y=>rw[e]at c;trivial
     |_=>rw[e]at c;cases c
    |_=>cases e:t d<;>first|(rw[e]at f;cases f<;>rfl) |(rw[e]at c;cases c)
theorem Up (a:Bool)(d:Sp)(ops:Array Oper)(base i:Nat)(o:Oper)(h:ab):Sub (cD a d ops base i o h) h:=by
 intro id b c
 cases a with
 |false=>exact c
 |true=>
  simp only[cD]at c;grind
theorem V7 (a:Bool)(b:Sp)(ops:Array Oper)(base i:Nat)(o:Oper)(h:ab)(z:Frz):∀id,cD a b ops base i o h id≠none->ju a b ops base i o z id=z id:=by
 intro id c
 cases a with
 |false=>rfl
 |true=>
  simp only[cD]at c
  cases d:cO b ops base i o id with
  |true=>grind[ju]
  |false=>grind
theorem Ng {ρ:Operand->Value}{o:Oper}{cl:Call}{f:Operand}{g:FuncId}{va a:Array Value}{w:World}(b:o.op=.call cl)(c:cl.callee=.value f)(d:ρ f=.func (.func g) va a):
 (execOp ρ o).run P w=(callFunc g (va++cl.args.map ρ++a)).run P w:=by
 grind[execOp,resolve,Deferred.ofValue,invoke]
theorem Lz {o:Oper}{a:Act}{w:World}{g:FuncId}{vs:Array Value}{Q:Exit->Act->World->Prop}{K:Act->World->Prop}{R:Value->World->Prop}(b:(execOp a.eval o).run P w=(callFunc g vs).run P w)(d:Cj P g vs w R)
 (f:∀v w',R v w'->K (a.put o.dst v) w'):o.wp P a w K Q:=by
 unfold Oper.wp;rw[b];rcases d with⟨h1,c⟩ |⟨v,w',h1,c⟩
 .rw[h1];refine c.mono fun e w' h=>?_;grind
 rw[h1];exact f v w' c
theorem OS {m:Map}{pr:aM}{w:World}{t:ai}{a:Act}(h:∀i,VR m pr w (t i) (a.tmps.getD i undef)){la f:Hm}{va g:Array Value}{args:Array Operand}(o:cR m pr w la va)(p:cR m pr w f g):
 cR m pr w (la++args.toList.map (ev t)++f) (va++args.map a.eval++g):=by
 have q:cR m pr w (args.toList.map (ev t)) (args.map a.eval):=⟨by simp,fun k h1 b=>by simp;exact tV h _⟩
 have j:∀{l c:Hm} {u d:Array Value},cR m pr w l u->cR m pr w c d->cR m pr w (l++c) (u++d):=by
  intro l c u d h1 b;refine⟨by simp[h1.1,b.1],fun k r n=>?_⟩;by_cases e:k<l.length
  .rw[yu e,Array.getElem_append_left (by have:=h1.1;omega)];exact h1.2 _ _ _
  have:=h1.1;rw[xg (by omega),Array.getElem_append_right (by omega)];simp only[this];exact b.2 _ _ _
 grind
theorem VR.noRef:∀(n:Nat) {m m':Map} {pr pr':aM} {w w':World} {d:D} {v:Value},VR m pr w d v->noRef n d=true->VR m' pr' w' d v:=by
 intro n
 induction n with
 |zero=>intro m m' pr pr' w w' d v _ h;trivial
 |succ n g=>
  intro m m' pr pr' w w' d v c h
  cases c with
  |bool b=>simp[bool]
  |int k n=>simp[int]
  |float k n=>simp[float]
  |str s=>simp[str]
  |agg l vs a c e=>
   simp[F.noRef]at h;exact .agg l vs a (fun k h1 f=>g (c k h1 f) (h _ (zE _))) e
  |tup l vs a c=>
   simp[F.noRef]at h;exact .tup l vs a (fun k h1 f=>g (c k h1 f) (h _ (zE _)))
  |_=>simp[F.noRef]at h
theorem P1 {E:Env}{a:Bool}{o:Oper}{t:ai}{g:FuncId}{args:Hm}(h:de E a o t=some (g,args)):
 ∃cl f la d,o.op=.call cl/\cl.callee=.value f/\ev t f=.fn g la d/\args=la++cl.args.toList.map (ev t)++d:=by
 unfold de at h;split at h
 .rename_i cl c;split at h
  .rename_i f b;split at h
   .simp at h;obtain⟨rfl,rfl⟩:=h;exact⟨cl,.func f,[],[],c,b,rfl,by simp⟩
   grind
  grind;grind
 grind
theorem J4 {n nx0:Nat}{c:Ctx}{ms:Map}{b7:aM}{ws:World}(a9:jK P E)(b0:uJ P E){y:Bool}{J:Sp}{ops:Array Oper}{base:Nat}{Q:Exit->Act->World->Prop}
 (e9:nx0<=base) (b8:∀(i:Nat) (o:Oper),ops[i]?=some o->∀d,o.dst=some d->d<n):
 ∀i o s s1 a w (F:Nat->Prop) (K:Act->World->Prop),ops[i]?=some o->F i->one P E y J ops o i base s=some s1->
  (Rel n nx0 c ms b7 ws (fun id=>(∃k,F k/\id=base+k)\/s.next<=id) s a w/\∀k,F k->base+k<s.next)->
  (∀a' w',(Rel n nx0 c ms b7 ws (fun id=>(∃k,(F k/\k≠i)/\id=base+k)\/s1.next<=id) s1 a' w'/\∀k,(F k/\k≠i)->base+k<s1.next)->K a' w')->wpOp P ops Q i K a w:=by
 intro i o s s1 a w F K ho g0 A hI hK;obtain⟨R,a1⟩:=hI;obtain⟨m,H,U,a2,a3,c0⟩:=R.ex;have hd:∀x,o.dst=some x->x<a.tmps.size:=fun x hx=>zc (b8 i o ho x hx) R.size;unfold wpOp;rw[ho];simp only;unfold one at A
 match hw:wanted s.tmps ops o with
 |none=>grind
 |some false=>
  rw[JQ U ops o hw];rw[hw]at A;simp at A⊢;subst A;refine hK _ _ ⟨⟨⟨m,H,AX U (.tup [] #[] rfl (by simp)) hd,a2,fun id hf=>a3 id ?_,c0⟩,R.below,by simp[put_defers,R.defers],by simp[Bh,R.size],R.next⟩,fun k hk=>a1 k hk.1⟩;grind
 |some true=>
  rw[JQ U ops o hw];rw[hw]at A;simp at A⊢;refine .inl ?_;split at A
  .rename_i g args g3;split at A
   .rename_i v h' z' g4 g5;simp at A;subst A;obtain⟨cl,f',la,Z,a5,M,b1,rfl⟩:=P1 g3;have L:=tV U f';rw[b1]at L
    obtain⟨va,S,b2,b3,b4⟩:∃va S,a.eval f'=.func (.func g) va S/\cR m (Pr c m s.heap s.frz) w la va/\cR m (Pr c m s.heap s.frz) w Z S:=by
     generalize a.eval f'=vf at L
     cases L with
     |fn _ _ _ va S h1 h2 h3 h4=>exact⟨va,S,rfl,⟨h1,h3⟩,⟨h2,h4⟩⟩
    have G:=OS U b3 b4 (args:=cl.args);refine Lz (Ng a5 M b2) (b0 g _ s.heap s.frz s.next v h' z' g4 g5 c m w _ H G (fun id I=>a3 id (.inr I))) ?_;rintro u w' ⟨m',H',hu,V,O,i7,g7,c5⟩;refine hK _ _ ⟨⟨⟨m',H',AX (fun j=>(U j).mono V) hu hd,a2.trans V,fun id hf=>?_,fun id I=>?_⟩,R.below.trans O,by simp[put_defers,R.defers],by simp[Bh,R.size],zR R.next c5⟩,fun k hk=>zc (a1 k hk.1) c5⟩;grind;grind
   grind
  split at A
  .rename_i r D;simp at A;subst A;have W:=Up y J ops base i o s.heap;have g8:=V7 y J ops base i o s.heap s.frz;have X:m (base+i)=none:=a3 _ (.inl ⟨i,g0,rfl⟩);by_cases Y:∃cl f,o.op=.call cl/\cl.callee=.value f
   .obtain⟨cl,f,a5,M⟩:=Y;simp only[step,a5,M]at D;split at D
    .rename_i f' la Z b1;have L:=tV U f;rw[b1]at L
     obtain⟨va,S,b2,b3,b4⟩:∃va S,a.eval f=.func (.func f') va S/\cR m (Pr c m s.heap s.frz) w la va/\cR m (Pr c m s.heap s.frz) w Z S:=by
      generalize a.eval f=vf at L
      cases L with
      |fn _ _ _ va S h1 h2 h3 h4=>exact⟨va,S,rfl,⟨h1,h3⟩,⟨h2,h4⟩⟩
     have G:=OS U b3 b4 (args:=cl.args);unfold ig at D;split at D
     grind
     .rename_i bs g9;split at D
      grind
      .rename_i d T
       have a6:∀p∈((la++cl.args.toList.map (ev s.tmps)++Z).flatMap (aN (cD y J ops base i o s.heap) depth)).map (fun id=>(id,aV (cD y J ops base i o s.heap) id)),p.2=aV s.heap p.1:=by
        intro p T;obtain⟨id,I,rfl⟩:=zy.1 T;obtain⟨x,_,hx⟩:=yc.1 I;have j3:=GR _ _ _ _ hx
        cases N:cD y J ops base i o s.heap id with
        |none=>grind
        |some b=>simp[aV,N,W _ _ N]
       have Hz:=H.freeze a6;have h5:=Ev.freeze H a6
       have h6:∀id,id∈(la++cl.args.toList.map (ev s.tmps)++Z).flatMap (aN (cD y J ops base i o s.heap) depth)->
        aJ s.frz (((la++cl.args.toList.map (ev s.tmps)++Z).flatMap (aN (cD y J ops base i o s.heap) depth)).map (fun id=>(id,aV (cD y J ops base i o s.heap) id))) id=aV s.heap id:=by
        intro id I
        have key:∀(l:List (Nat×Nat)) (z:Frz),(∀p∈l,p.2=aV s.heap p.1)->(∃p∈l,p.1=id)->aJ z l id=aV s.heap id:=by
         intro l
         induction l with
         |nil=>simp
         |cons q l ih=>
          intro z i9 h7;obtain⟨j,k⟩:=q;simp only[aJ];by_cases b5:∃p∈l,p.1=id
          grind
          .obtain⟨p,T,c6⟩:=h7;rcases zP.1 T with rfl|T
           .rw[uW _ _ _ (fun q hq e=>b5 ⟨q,hq,e⟩)];subst c6;rw[upd_same];grind
           grind
        exact key _ _ a6 ⟨(id,_),zy.2 ⟨id,I,rfl⟩,rfl⟩
       obtain⟨q1,q2⟩:=qh g9
       have h8:cR aS (fun b o'=>b<w.heap.size/\Pr c m s.heap (aJ s.frz (((la++cl.args.toList.map (ev s.tmps)++Z).flatMap (aN (cD y J ops base i o s.heap) depth)).map (fun id=>(id,aV (cD y J ops base i o s.heap) id)))) b o') w bs (va++cl.args.map a.eval++S):=by
        refine⟨q1.trans G.1,fun k hk h9=>?_⟩;have c7:k<(la++cl.args.toList.map (ev s.tmps)++Z).length:=by omega
        have i0:=sP H W h5 depth _ _ _ (G.2 k c7 h9) (q2 k c7 hk) (fun id I=>h6 id (yc.2 ⟨_,zE _,I⟩));refine i0.1.mono ⟨(fun _ _ h=>nomatch h),fun b o' v T hc=>?_,fun r es k T hc=>?_,fun b C t f N=>⟨C,N,rfl⟩⟩
        .obtain⟨C,t,f,N,_⟩:=cell?_block hc;grind
        grind
       refine Lz (Ng a5 M b2) (a9 f' bs d T w _ _ (fun b o' N=>N.1) h8) ?_;rintro u w' ⟨hu,O⟩;have c8:Below c.B ws w':=R.below.trans (O.mono Hz.base)
       have a8:∀l:List (Nat×Nat),(∀p∈l,p.2=aV s.heap p.1)->VR m (Pr c m s.heap (aJ s.frz l)) w' d u->r=⟨d,[],l⟩->K (a.put o.dst u) w':=by
        intro l hl i1 i2;have Hl:=H.freeze hl;have c9:=Ev.freeze H hl;obtain⟨H',e0⟩:=Cl Hl O;subst i2;refine hK _ _ ⟨⟨⟨m,H',AX (fun j=>(U j).mono (c9.trans e0)) i1 hd,a2.trans (c9.trans e0),fun id hf=>a3 id ?_,c0⟩,c8,by simp[put_defers,R.defers],by simp[Bh,R.size],R.next⟩,fun k hk=>a1 k hk.1⟩;grind
       have e1:∀b o',((b<w.heap.size/\Pr c m s.heap (aJ s.frz (((la++cl.args.toList.map (ev s.tmps)++Z).flatMap (aN (cD y J ops base i o s.heap) depth)).map (fun id=>(id,aV (cD y J ops base i o s.heap) id)))) b o')\/w.heap.size<=b)->
        Pr c m s.heap (aJ s.frz (((la++cl.args.toList.map (ev s.tmps)++Z).flatMap (aN (cD y J ops base i o s.heap) depth)).map (fun id=>(id,aV (cD y J ops base i o s.heap) id)))) b o':=by
        intro b o' N;rcases N with N|N
        grind
        .refine .inr ⟨zR Hz.base N,fun⟨id,esz,w1,_,_⟩=>?_⟩;have:=(Hz.below id _ w1).2;omega
       split at D
       .rename_i i3;simp at D;exact a8 [] (by simp) (hu.noRef 4 i3) D.symm
       simp only[zV]at D;exact a8 _ a6 (hu.mono ⟨(fun _ _ h=>nomatch h),fun b o' v T hc=>⟨e1 b o' T,hc⟩,fun r es k T hc=>⟨e1 r 0 T,hc⟩,fun b C t f N=>⟨C,N,rfl⟩⟩) D.symm
    grind
   have e2:=Tu H W g8 (fun _=>X) U (fun cl f h1 h2=>Y ⟨cl,f,h1,h2⟩) D;obtain⟨nxt,w',m',e3,e4,H',V,j9,O⟩:=e2;unfold Oper.wp;rw[e3]
   have fin:∀u,VR m' (Pr c m' (aJ s.heap r.hp) (aJ s.frz r.fz)) w' r.v u->K (a.put o.dst u) w':=by
    intro u hu;refine hK _ _ ⟨⟨⟨m',H',AX (fun j=>(U j).mono V) hu hd,a2.trans V,fun id hf=>?_,fun id I=>?_⟩,R.below.trans O,by simp[put_defers,R.defers],by simp[Bh,R.size],R.next⟩,fun k hk=>a1 k hk.1⟩;grind;grind
   rcases e4 with⟨u,rfl,hu⟩ |⟨rfl,hu⟩
   .exact fin u hu
   refine fin undef ?_;rw[hu];exact .tup [] #[] rfl (by simp)
  grind
end Go.F
namespace Go.F
variable {P:Program}{c:Ctx}{m:Map}{pr:aM}{h hr:ab}{z z':Frz}{w:World}
theorem VR.bare:∀(n:Nat) {d:D} {v:Value},plain n d=true->VR m pr w d v->VR aS pr w d v:=by
 intro n
 induction n with
 |zero=>intro d v g;trivial
 |succ n q=>
  intro d v g j
  cases j with
  |bool b=>simp[bool]
  |int k n=>simp[int]
  |float k n=>simp[float]
  |str s=>simp[str]
  |nilsl a=>simp[nilsl]
  |lst0 a cap=>simp[lst0]
  |lst l b o cap esz cv A B y z t j c=>simp_all[lst]
  |ref=>trivial
  |vnil=>trivial
  |pl d i b o cv t j c=>simp_all[pl]
  |ptr=>trivial
  |agg l vs e j c=>
   simp[plain]at g;exact .agg l vs e (fun k h1 p=>q (g _ (zE _)) (j k h1 p)) c
  |tup l vs e j=>
   simp[plain]at g;exact .tup l vs e (fun k h1 p=>q (g _ (zE _)) (j k h1 p))
  |fn f la C va E F t u x=>
   simp[plain]at g;exact .fn f la C va E F t (fun k h1 p=>q (g.1 _ (zE _)) (u k h1 p)) (fun k h1 p=>q (g.2 _ (zE _)) (x k h1 p))
  |mref=>trivial
  |mlst H vs r clock es I G h1 p J j=>grind[mlst]
  |opq v h K=>grind[opq]
  |bad=>trivial
theorem Pd {n:Nat}{e:D}(f:plain (n+1) e=true):∀x∈e.cells,plain (n+1) x=true:=by
 have b:∀(n:Nat) (d:D),plain n d=true->plain (n+1) d=true:=by
  intro n
  induction n with
  |zero=>intro d h;trivial
  |succ n c=>
   intro d h;cases d<;>first|rfl|(simp[plain]at h;done) |skip
   .simp[plain]at h⊢;exact fun x a=>by simpa[plain]using c x (h x a)
   .simp[plain]at h⊢;exact fun x a=>by simpa[plain]using c x (h x a)
   simp[plain]at h⊢;exact⟨fun x a=>by simpa[plain]using c x (h.1 x a),fun x a=>by simpa[plain]using c x (h.2 x a)⟩
 cases e with
 |agg l=>simp[plain]at f;exact fun x a=>b _ _ (f x a)
 |_=>intro x a;simp only[D.cells,z8]at a;subst a;exact f
theorem Q8 {es:Hm}(b:es.all (plain 4)=true):∀x∈fl es,plain 4 x=true:=by
 intro x a;obtain⟨e,c,a⟩:=yc.1 a;exact Pd (zM.1 b e c) x a
theorem RowIn.bare {es:Hm}{esz:Nat}{C:Array Value}(h:RowIn m pr w es esz C)(b:es.all (plain 4)=true):RowIn aS pr w es esz C:=
 ⟨h.1,h.2.1,h.2.2.1,fun k c a=>(h.2.2.2.1 k c a).bare 4 (Q8 b _ (zE _)),h.2.2.2.2⟩
theorem MapIn.bare {b:Hm}{vs:Hm}{es:Array MapEntry}(h:MapIn m pr w b vs es)(c:vs.all (plain 4)=true):MapIn aS pr w b vs es:=
 ⟨h.1,h.2.1,h.2.2.1,fun k d a=>(h.2.2.2 k d a).bare 4 (zM.1 c _ (zE _))⟩
theorem RowIn.snapped {f:D->Option D}{es es':Hm}{esz:Nat}{C:Array Value}(hr:RowIn m (Pr c m h z) w es esz C)(I:es.mapM f=some es')
 (J:∀e∈es,∀e' v,VR m (Pr c m h z) w e v->f e=some e'->tO c m h z' w e e' v):es'.length=es.length/\RowIn aS (Pr c m h z') w es' esz C:=by
 obtain⟨A,s,V,W,X⟩:=hr;obtain⟨K,Y⟩:=qh I;have L:=cY s
 have d:∀i (hi:i<es.length),∃e e':D,es[i]?=some e/\es'[i]?=some e'/\e.cells.length=esz/\tO c m h z' w e e' (iw e ((C.toList.drop (i*esz)).take esz))/\(iw e ((C.toList.drop (i*esz)).take esz)).cells.toList=(C.toList.drop (i*esz)).take esz/\e.sto=true:=by
  intro i hi;have g:es[i]?=some es[i]:=zK hi;have t:es[i].cells.length=esz:=s _ (zE _);have u:(i+1) *esz<=es.length*esz:=zF _ hi;rw[y3]at u
  have a:Cells m (Pr c m h z) w es[i].cells ((C.toList.drop (i*esz)).take esz):=by
   refine⟨by grind,fun k h1 l=>?_,fun x o=>?_⟩
   .have M:(fl es)[i*esz+k]=es[i].cells[k]:=by
     have:=fO s g (j:=k) (by omega);grind
    grind
   obtain⟨j,Z,rfl⟩:=ze.1 o;have:=fO s g (j:=j) (by omega);grind
  obtain⟨N,e2⟩:=Pa a
  have B:es[i].sto=true:=by
   have b:=a.one
   cases E:es[i]with
   |tup x=>rw[E]at b;have:=b (.tup x) (by simp[D.cells]);trivial
   |bad=>rw[E]at b;trivial
   |_=>rfl
  grind
 have n:∀x∈es',x.cells.length=esz:=by
  intro x o;obtain⟨i,hi,rfl⟩:=ze.1 o;obtain⟨e,e',h1,l,h3,y,_,_⟩:=d i (by omega);rw[zK hi]at l;cases l;rw[y.2.2.2];omega
 have F:=cY n
 have p:∀k (G:k<(fl es').length) (O:k<C.size),VR aS (Pr c m h z') w (fl es')[k] C[k]/\(fl es')[k].one=true:=by
  intro k G P;have q:k/esz<es.length:=ym (by grind);have r:k%esz<esz:=zI _ A;have Q:k/esz*esz+k%esz=k:=by simp[zx,yH]
  obtain⟨e,e',h1,l,h3,y,R,S⟩:=d (k/esz) q;obtain⟨T,s2,U,s4⟩:=y;obtain⟨t1,t2,t3⟩:=T.cells (U S);have M:=fO n l (j:=k%esz) r
  have H:(iw e ((C.toList.drop (k/esz*esz)).take esz)).cells[k%esz]=C[k]:=by
   have N:(iw e ((C.toList.drop (k/esz*esz)).take esz)).cells.toList[k%esz]?=((C.toList.drop (k/esz*esz)).take esz)[k%esz]?:=by rw[R]
   grind
  grind
 refine⟨K,A,n,by grind,fun k h1 l=>(p k h1 l).1,fun x o=>?_⟩;obtain⟨k,G,rfl⟩:=ze.1 o;grind
theorem Bw {h:ab}{l:List (Nat×Nat)}{id:Nat}(z:Frz)(d:∀p∈l,p.2=aV h p.1)(c:∃p∈l,p.1=id):aJ z l id=aV h id:=by
 induction l generalizing z with
 |nil=>grind
 |cons q l i=>
  obtain⟨j,k⟩:=q;simp only[aJ];by_cases a:∃p∈l,p.1=id
  grind
  .obtain⟨p,f,b⟩:=c;rcases zP.1 f with rfl|f
   .rw[uW _ _ _ (fun q g e=>a ⟨q,g,e⟩)];subst b;rw[upd_same];grind
   grind
def Knows (c:Ctx)(m:Map)(s:St)(a:Act)(w:World):Prop:=HR c m s.heap s.frz w/\∀i,VR m (Pr c m s.heap s.frz) w (s.tmps i) (a.tmps.getD i undef)
theorem Do {s:St}{a:Act}(b:Knows c m s a w){l:List (Nat×Nat)}(d:∀p∈l,p.2=aV s.heap p.1):
 Knows c m ⟨s.tmps,s.heap,aJ s.frz l,s.next⟩ a w/\Ev m (Pr c m s.heap s.frz) w m (Pr c m s.heap (aJ s.frz l)) w:=
 ⟨⟨b.1.freeze d,fun i=>(b.2 i).mono (Ev.freeze b.1 d)⟩,Ev.freeze b.1 d⟩
theorem Gm {s:St}{a:Act}{x k:Nat}(f:Knows c m s a w)(j:∀id,s.next<=id->m id=none):
 Knows c m (gn x k s) a w/\Ev m (Pr c m s.heap s.frz) w m (Pr c m (gn x k s).heap (gn x k s).frz) w/\∀id,(gn x k s).next<=id->m id=none:=by
 unfold gn;split
 .rename_i k l;have d:=j s.next (zD _);have e:=Ev.virt (c:=c) (h:=s.heap) (z:=s.frz) (w:=w) (k:=k+1) (kz:=0) d;refine⟨⟨f.1.virt d rfl,fun i=>?_⟩,e,fun id n=>j id (by grind)⟩
  .by_cases hi:i=x
   .subst hi;have g:=f.2 i;rw[l]at g;simp only[upd_same];generalize a.tmps.getD i undef=v at g
    cases g with
    |nilsl b=>exact .vnil _ _
   simp only[upd_ne hi];exact(f.2 i).mono e
 grind[Ev.refl]
theorem V4 {a:Act}:∀(live:Live) {s:St},Knows c m s a w->(∀id,s.next<=id->m id=none)->
 Knows c m (jk live s) a w/\Ev m (Pr c m s.heap s.frz) w m (Pr c m (jk live s).heap (jk live s).frz) w/\∀id,(jk live s).next<=id->m id=none:=by
 intro live
 induction live with
 |nil=>intro s b d;exact⟨b,Ev.refl _ _ _,d⟩
 |cons x live e=>
  intro s b d;obtain⟨f,g,f1⟩:=Gm (x:=x.1) (k:=x.2) b d;obtain⟨h,i,f2⟩:=e f f1;exact⟨h,g.trans i,f2⟩
theorem Eh (h:ab)(l:List Nat):∀p∈l.map (fun id=>(id,aV h id)),p.2=aV h p.1:=by
 simp
theorem Gz {s s':St}{a:Act}{nx0 x:Nat}(j:Knows c m s a w)(f:pU nx0 x s=some s'):
 Knows c m s' a w/\Ev m (Pr c m s.heap s.frz) w m (Pr c m s'.heap s'.frz) w/\s'.next=s.next:=by
 unfold pU at f;split at f
 .split at f
  grind[Ev.refl]
  .split at f
   .rename_i d y;cases f;have l:=Eh s.heap (aN s.heap depth (s.tmps x));obtain⟨k,n⟩:=Do j l;have g:=sP j.1 (fun _ _ h=>h) n depth _ _ _ (j.2 x) y (fun id o=>Bw s.frz l ⟨_,zy.2 ⟨id,o,rfl⟩,rfl⟩);refine⟨⟨k.1,fun i=>?_⟩,n,rfl⟩;by_cases hi:i=x
    .subst hi;simp only[upd_same];exact g.1.up
    simp only[upd_ne hi];exact k.2 i
   grind
 rename_i id o;split at f
 .rename_i es esz q;split at f
  grind[Ev.refl]
  .split at f
   .rename_i es' z;cases f;have l:=Eh s.heap (es.flatMap (aN s.heap depth));obtain⟨k,n⟩:=Do j l;rcases j.1.row id es esz q with⟨b,C,t,r,H,p,A⟩ |⟨I,_⟩
    case inr=>grind
    obtain⟨B,D⟩:=A.snapped (z':=aJ s.frz ((es.flatMap (aN s.heap depth)).map fun id=>(id,aV s.heap id))) z (fun e E e' v F g=>
     sP j.1 (fun _ _ h=>h) n depth _ _ _ F g (fun i hi=>Bw s.frz l ⟨_,zy.2 ⟨i,yc.2 ⟨e,E,hi⟩,rfl⟩,rfl⟩))
    have G:RowIn m (Pr c m s.heap (aJ s.frz ((es.flatMap (aN s.heap depth)).map fun id=>(id,aV s.heap id)))) w es' esz C:=D.mono (Ev.up _ _ _);have u:=Ev.store k.1 (es':=es') r q p p rfl (fun _ _=>rfl) (fun _ _=>rfl);exact⟨⟨k.1.store r q B p p rfl (fun _ _=>rfl) rfl (fun _ _=>rfl) G,fun i=>(k.2 i).mono u⟩,n.trans u,rfl⟩
   grind
 grind[Ev.refl]
theorem YE {nx0:Nat}{a:Act}:∀(live:Live) {s s':St},Knows c m s a w->oU nx0 live s=some s'->
 Knows c m s' a w/\Ev m (Pr c m s.heap s.frz) w m (Pr c m s'.heap s'.frz) w/\s'.next=s.next:=by
 intro live
 induction live with
 |nil=>grind[oU,Ev.refl]
 |cons x live d=>
  intro s s' e b;simp only[oU]at b;split at b
  .rename_i h h1;obtain⟨f,g,i⟩:=Gz e h1;obtain⟨j,k,l⟩:=d f b;simp_all[g.trans]
  grind
theorem oX:∀(ids:Ke) (x a j:Nat),placeOf ids x a=some j->a<=j/\ids[j-a]?=some (some x):=by
 intro ids
 induction ids with
 |nil=>intro x a j h;trivial
 |cons o ids b=>
  intro x a j h
  cases o with
  |none=>
   simp only[placeOf]at h;grind
  |some y=>
   simp only[placeOf]at h
   cases c:Nat.beq y x with
   |true=>
    simp_all
   |false=>
    grind
theorem Ja:∀(ids:Ke) (x a:Nat),some x∈ids->∃j,placeOf ids x a=some j:=by
 intro ids
 induction ids with
 |nil=>simp
 |cons o ids b=>
  intro x a h
  cases o with
  |none=>
   simp only[placeOf];simp_all
  |some y=>
   simp only[placeOf]
   cases c:Nat.beq y x with
   |true=>simp
   |false=>
    rcases zP.1 h with h|h
    simp_all;simp_all
theorem qE {α:Type}(nx0:Nat)(ids:Ke)(b:Nat->α)(bot:α)(h:Nat->α):∀(rest:Ke) (a:Nat),nx0<=a->∀j,
 bC nx0 ids b bot h rest a j=if j<nx0 then b j else if a<=j then(match rest[j-a]? with|some (some x)=>if nx0<=x/\placeOf ids x nx0=some j then h x else bot|_=>bot)else bot:=by
 intro rest
 induction rest with
 |nil=>
  simp only[bC];simp
 |cons o rest m=>
  intro a n j
  have step:(if j<nx0 then b j else if a+1<=j then(match rest[j-(a+1)]? with|some (some x)=>if nx0<=x/\placeOf ids x nx0=some j then h x else bot|_=>bot)else bot)=
   if j<nx0 then b j else if j=a then bot else if a<=j then(match(o::rest)[j-a]? with|some (some x)=>if nx0<=x/\placeOf ids x nx0=some j then h x else bot|_=>bot)else bot:=by
   grind
  have fin:∀v:α,(v=if nx0<=a then(match o with|some x=>if nx0<=x/\placeOf ids x nx0=some a then h x else bot|none=>bot)else bot)->
   (if j=a then v else(if j<nx0 then b j else if j=a then bot else if a<=j then(match(o::rest)[j-a]? with|some (some x)=>if nx0<=x/\placeOf ids x nx0=some j then h x else bot|_=>bot)else bot))=
   if j<nx0 then b j else if a<=j then(match(o::rest)[j-a]? with|some (some x)=>if nx0<=x/\placeOf ids x nx0=some j then h x else bot|_=>bot)else bot:=by
   by_cases f:j=a
   .subst f;grind
   grind
  have c:bC nx0 ids b bot h rest (a+1) j=if j=a then bot else(if j<nx0 then b j else if j=a then bot else if a<=j then(match(o::rest)[j-a]? with|some (some x)=>if nx0<=x/\placeOf ids x nx0=some j then h x else bot|_=>bot)else bot):=by
   grind
  cases o with
  |none=>rw[bC,c];grind
  |some x=>
   simp only[bC];by_cases g:nx0<=x
   .have d:Nat.ble nx0 x=true:=by simp_all
    cases p:placeOf ids x nx0 with
    |none=>simp_all
    |some k=>
     simp only[d]
     cases i:Nat.beq k a with
     |true=>
      have:=zl i;simp;rw[qr,c];grind
     |false=>
      have l:k≠a:=fun e=>by simp_all
      grind
   have d:Nat.ble nx0 x=false:=by
    cases d:Nat.ble nx0 x with
    |false=>rfl
    |true=>exact absurd (zk d) g
   simp only[d];grind
theorem Tf {t:ai}{live:Live}{x:Nat}{id:Nat}{b:Nat}(c:(x,b)∈live)(a:bi (t x)=some id):some id∈bh t live:=zy.2 ⟨(x,b),c,a⟩
section
theorem pZ {m':Map}{pr':aM}{d:D}{v:Value}{id j:Nat}(c:bi d=some id)(h:m' j=m id)(i:VR m pr w d v):VR m' pr' w (ug j d) v:=by
 cases d with
 |ref e off len=>
  simp[bi]at c;subst c
  cases i with
  |vnil _ a=>exact .vnil j a
  |ref _ _ _ b esz cap C t f g l n p=>exact .ref j off len b esz cap C t f (h.trans g) l n p
 |ptr e k o=>
  simp[bi]at c;subst c
  cases i with
  |ptr _ _ _ b esz g=>exact .ptr j k o b esz (h.trans g)
 |mref e=>
  simp[bi]at c;subst c
  cases i with
  |mref _ r g=>exact .mref j r (h.trans g)
 |_=>simp[bi]at c
theorem Ny {nx0:Nat}{ids:Ke}{es:Hm}(h:es.all (okD nx0 ids)=true):∀x∈fl es,jM nx0 ids x=true:=by
 intro x a;obtain⟨e,b,a⟩:=yc.1 a;have:=zM.1 h e b
 cases e with
 |agg l=>exact zM.1 this x a
 |_=>simp only[D.cells,z8]at a;subst a;exact this
theorem Dj {d:D}{id:Nat}(h:bi d=some id):ug id d=d:=by
 cases d<;>simp[bi]at h<;>subst h<;>rfl
theorem AL {nx0:Nat}{m':Map}{pr':aM}(j:∀id,id<nx0->m' id=m id){d:D}{v:Value}(a:plainO nx0 d=true)(c:Ev aS pr w aS pr' w)(e:VR m pr w d v):VR m' pr' w d v:=by
 unfold plainO at a;rw[xF]at a;rcases a with a|a
 .exact((e.bare 4 a).mono c).up
 unfold fnOld at a;split at a
 .rename_i f la l;rw[zY,zJ,zM,zM]at a
  have one:∀{d:D} {v:Value},(match bi d with|none=>plain 3 d|some id=>Nat.blt id nx0)=true->VR m pr w d v->VR m' pr' w d v:=by
   intro d v h1 e
   cases b:bi d with
   |none=>
    simp only[b]at h1;exact((e.bare 3 h1).mono c).up
   |some id=>
    simp only[b]at h1;have:=pZ (m':=m') (pr':=pr') b (j id (zk h1)) e;grind[Dj]
  cases e with
  |fn _ _ _ va n o p g h=>
   exact .fn f la l va n o p (fun k h1 i=>one (a.1 _ (zE _)) (g k h1 i)) (fun k h1 i=>one (a.2 _ (zE _)) (h k h1 i))
 grind
theorem Uo {nx0:Nat}{m':Map}{pr':aM}(e:∀id,id<nx0->m' id=m id){d:D}{v:Value}(a:jM nx0 [] d=true)(f:Ev aS pr w aS pr' w)(g:VR m pr w d v):VR m' pr' w d v:=by
 unfold jM at a
 cases b:bi d with
 |none=>
  grind[AL]
 |some id=>
  simp only[b]at a
  cases c:Nat.blt id nx0 with
  |false=>rw[c]at a;trivial
  |true=>
   have:=pZ (m':=m') (pr':=pr') b (e id (zk c)) g;grind[Dj]
theorem RowIn.old {nx0:Nat}{m':Map}{pr':aM}{es:Hm}{esz:Nat}{C:Array Value}(h:RowIn m pr w es esz C)(d:∀id,id<nx0->m' id=m id)(a:es.all (okD nx0 [])=true)(b:Ev aS pr w aS pr' w):RowIn m' pr' w es esz C:=
 ⟨h.1,h.2.1,h.2.2.1,fun k e c=>Uo d (Ny a _ (zE _)) b (h.2.2.2.1 k e c),h.2.2.2.2⟩
variable {nx0:Nat}{live:Live}{s:St}
def k9 (nx0:Nat)(live:Live)(s:St)(m:Map):Map:=bC nx0 (bh s.tmps live) m none m (bh s.tmps live) nx0
theorem vz (j:Nat):(∃x,((j<nx0/\x=j)\/(nx0<=x/\placeOf (bh s.tmps live) x nx0=some j))/\
 (∀m:Map,k9 nx0 live s m j=m x)/\bC nx0 (bh s.tmps live) (cz nx0 s.heap) none s.heap (bh s.tmps live) nx0 j=(if j<nx0 then cz nx0 s.heap x else s.heap x)/\bC nx0 (bh s.tmps live) s.frz 0 s.frz (bh s.tmps live) nx0 j=s.frz x)\/
 ((∀m:Map,k9 nx0 live s m j=none)/\bC nx0 (bh s.tmps live) (cz nx0 s.heap) none s.heap (bh s.tmps live) nx0 j=none):=by
 unfold k9;simp only[qE nx0 _ _ _ _ _ nx0 (zD _) j];grind
theorem tc {x j:Nat}(h:(j<nx0/\x=j)\/(nx0<=x/\placeOf (bh s.tmps live) x nx0=some j)):k9 nx0 live s m j=m x:=by
 unfold k9;rw[qE nx0 _ _ _ _ _ nx0 (zD _) j];rcases h with⟨h1,rfl⟩ |⟨h1,a⟩
 grind
 .obtain⟨h3,b⟩:=oX _ _ _ _ a;grind
theorem Hs {h:ab}{t:ai}:∀{live:Live},qw nx0 h t live=true->∀x b,(x,b)∈live->(bi (t x)=none->plainO nx0 (t x)=true)/\(∀id,bi (t x)=some id->aI (h id)=true):=by
 intro live
 induction live with
 |nil=>simp
 |cons y live c=>
  intro a x b d;simp[qw]at a;grind
theorem WG (ids:Ke)(t:ai)(i:Nat):∀(live:Live),nV nx0 ids t live i=.bad\/∃b,(i,b)∈live/\nV nx0 ids t live i=bN nx0 ids (t i):=by
 intro live
 induction live with
 |nil=>exact .inl rfl
 |cons x live a=>
  simp only[nV];by_cases hi:i=x.1
  .subst hi;rw[upd_same];grind
  rw[upd_ne hi];grind
theorem RE {a:Act}{s':St}(S:Knows c m s a w)(T:keep nx0 live s=some s'):
 Knows c (k9 nx0 live s m) s' a w/\(∀b o,Pr c m s.heap s.frz b o->Pr c (k9 nx0 live s m) s'.heap s'.frz b o)/\(∀id,s'.next<=id->k9 nx0 live s m id=none)/\s'.next=nx0+live.length:=by
 obtain⟨H,ht⟩:=S;unfold keep at T;split at T
 .rename_i L;cases T
  have A:∀b o,Pr c m s.heap s.frz b o->Pr c (k9 nx0 live s m) (bC nx0 (bh s.tmps live) (cz nx0 s.heap) none s.heap (bh s.tmps live) nx0) (bC nx0 (bh s.tmps live) s.frz 0 s.frz (bh s.tmps live) nx0) b o:=by
   intro b o l;rcases l with l|⟨l,hn⟩
   .exact .inl l
   refine .inr ⟨l,fun⟨j,e,h1,D,h3⟩=>hn ?_⟩;rcases vz (nx0:=nx0) (live:=live) (s:=s) j with⟨x,_,g,I,u⟩ |⟨z,g⟩
   .rw[g]at h1;rw[u]at h3;refine⟨x,e,h1,fun U=>D ?_,h3⟩;grind[cz]
   grind
  have E:Ev aS (Pr c m s.heap s.frz) w aS (Pr c (k9 nx0 live s m) (bC nx0 (bh s.tmps live) (cz nx0 s.heap) none s.heap (bh s.tmps live) nx0) (bC nx0 (bh s.tmps live) s.frz 0 s.frz (bh s.tmps live) nx0)) w:=
   ⟨(fun _ _ h=>nomatch h),fun b o v l V=>⟨A b o l,V⟩,fun r es k l V=>⟨A r 0 l,V⟩,fun b C t f W=>⟨C,W,rfl⟩⟩
  have n:∀j B,bC nx0 (bh s.tmps live) (cz nx0 s.heap) none s.heap (bh s.tmps live) nx0 j=some B->∃x,((j<nx0/\x=j)\/(nx0<=x/\placeOf (bh s.tmps live) x nx0=some j))/\s.heap x=some B/\eR nx0 [] (some B)=true/\k9 nx0 live s m j=m x/\bC nx0 (bh s.tmps live) s.frz 0 s.frz (bh s.tmps live) nx0 j=s.frz x:=by
   intro j B J;rcases vz (nx0:=nx0) (live:=live) (s:=s) j with⟨x,z,g,I,u⟩ |⟨z,g⟩
   .rw[I]at J;rcases z with⟨h1,rfl⟩ |⟨h1,D⟩
    .unfold cz at J;grind
    obtain⟨h3,h4⟩:=oX _ _ _ _ D;have M:=zh h4;obtain⟨⟨y,b⟩,X,d⟩:=zy.1 M;have:=(Hs L y b X).2 x d;grind[lB]
   grind
  refine⟨⟨⟨fun j es esz hr=>?_,fun j ks vs hr=>?_,fun j j' y y' R a8 X Y Z=>?_,fun j x U=>?_,H.base,fun j R=>?_⟩,fun i=>?_⟩,A,fun id d=>?_,rfl⟩
  .obtain⟨x,_,g,I,u,_⟩:=n j _ hr;rcases H.row x es esz g with⟨b,C,t,p,N,O,P⟩ |⟨g0,p⟩
   .exact .inl ⟨b,C,t,u.trans p,N,O,P.old (fun id h=>tc (.inl ⟨h,rfl⟩)) I E⟩
   grind
  .obtain⟨x,_,g,I,u,_⟩:=n j _ hr;obtain⟨b,C,t,p,N,O,P⟩:=H.mp x ks vs g;exact⟨b,C,t,u.trans p,N,O,((P.bare I).mono E).mono (Ev.up _ _ _)⟩
  .cases J:bC nx0 (bh s.tmps live) (cz nx0 s.heap) none s.heap (bh s.tmps live) nx0 j with
   |none=>grind
   |some B=>
    cases a0:bC nx0 (bh s.tmps live) (cz nx0 s.heap) none s.heap (bh s.tmps live) nx0 j' with
    |none=>grind
    |some B'=>
     obtain⟨x,z,g,_,u,_⟩:=n j _ J;obtain⟨x',l1,l2,_,l4,_⟩:=n j' _ a0;have:=H.inj x x' y y' (by grind) (by grind) (u.symm.trans X) (l4.symm.trans Y) Z;grind
  .rcases vz (nx0:=nx0) (live:=live) (s:=s) j with⟨y,_,g,_,_⟩ |⟨z,_⟩
   .rw[g]at U;exact H.below y x U
   grind
  .cases J:bC nx0 (bh s.tmps live) (cz nx0 s.heap) none s.heap (bh s.tmps live) nx0 j with
   |none=>grind
   |some B=>
    obtain⟨x,_,g,_,_,k5⟩:=n j _ J;have:=H.zle x (by grind);grind[aV]
  .simp only;rcases WG (nx0:=nx0) (bh s.tmps live) s.tmps i live with h|⟨b,h1,D⟩
   .rw[h];exact .bad _
   rw[D];have q:=ht i
   cases d:bi (s.tmps i)with
   |none=>
    have l:=(Hs L i b h1).1 d;simp only[bN,d];exact AL (fun id h=>tc (.inl ⟨h,rfl⟩)) l E q
   |some id=>
    have F:∃j,((j<nx0/\id=j)\/(nx0<=id/\placeOf (bh s.tmps live) id nx0=some j))/\bN nx0 (bh s.tmps live) (s.tmps i)=ug j (s.tmps i):=by
     by_cases G:id<nx0
     .refine⟨id,.inl ⟨G,rfl⟩,?_⟩;have:Nat.blt id nx0=true:=zw G;simp only[bN,d,this];cases K:s.tmps i<;>simp only[K,bi,zV]at d<;>first|(subst d;rfl) |cases d
     obtain⟨j,R⟩:=Ja (bh s.tmps live) id nx0 (Tf h1 d)
     have:Nat.blt id nx0=false:=by
      cases W:Nat.blt id nx0 with
      |false=>rfl
      |true=>exact absurd (zk W) G
     grind[bN]
    obtain⟨j,R,S⟩:=F;rw[S];have hm:=tc (m:=m) R
    cases K:s.tmps i with
    |ref Q off len=>
     rw[K]at q d;simp[bi]at d;subst d;generalize a.tmps.getD i undef=v at q
     cases q with
     |vnil _ a=>exact .vnil j a
     |ref _ _ _ b esz cap C t f p N O P=>exact .ref j off len b esz cap C t f (hm.trans p) N O P
    |ptr Q k o=>
     rw[K]at q d;simp[bi]at d;subst d;generalize a.tmps.getD i undef=v at q
     cases q with
     |ptr _ _ _ b esz p=>exact .ptr j k o b esz (hm.trans p)
    |mref Q=>
     rw[K]at q d;simp[bi]at d;subst d;generalize a.tmps.getD i undef=v at q
     cases q with
     |mref _ r p=>exact .mref j r (hm.trans p)
    |_=>rw[K]at d;simp[bi]at d
  simp at d;rcases vz (nx0:=nx0) (live:=live) (s:=s) id with⟨x,z,_⟩ |⟨z,_⟩
  .rcases z with⟨h1,_⟩ |⟨_,D⟩
   omega
   .obtain⟨h3,h4⟩:=oX _ _ _ _ D;grind[bh]
  grind
 grind
def gm (nx0:Nat)(ids:Ke)(m:Map):Map:=bC nx0 ids m none m ids nx0
theorem Aq {ids:Ke}{h:ab}{z:Frz}(j:Nat):(∃x,((j<nx0/\x=j)\/(nx0<=x/\placeOf ids x nx0=some j))/\
 (∀m:Map,gm nx0 ids m j=m x)/\bC nx0 ids (dn nx0 ids h) none (fun i=>dQ nx0 ids (h i)) ids nx0 j=(if j<nx0 then dn nx0 ids h x else dQ nx0 ids (h x))/\bC nx0 ids z 0 z ids nx0 j=z x)\/
 ((∀m:Map,gm nx0 ids m j=none)/\bC nx0 ids (dn nx0 ids h) none (fun i=>dQ nx0 ids (h i)) ids nx0 j=none):=by
 unfold gm;simp only[qE nx0 _ _ _ _ _ nx0 (zD _) j];grind
theorem l5 {ids:Ke}{x j:Nat}(h:(j<nx0/\x=j)\/(nx0<=x/\placeOf ids x nx0=some j)):gm nx0 ids m j=m x:=by
 unfold gm;rw[qE nx0 _ _ _ _ _ nx0 (zD _) j];rcases h with⟨h1,rfl⟩ |⟨h1,a⟩
 grind
 .obtain⟨h3,b⟩:=oX _ _ _ _ a;grind
theorem Sm {ids:Ke}{pr':aM}{d:D}{v:Value}(b:jM nx0 ids d=true)(c:Ev aS pr w aS pr' w)(e:VR m pr w d v):VR (gm nx0 ids m) pr' w (bN nx0 ids d) v:=by
 unfold jM at b
 cases a:bi d with
 |none=>
  simp only[a]at b;simp only[bN,a];exact AL (fun id h=>l5 (.inl ⟨h,rfl⟩)) b c e
 |some id=>
  simp only[a]at b
  cases i:Nat.blt id nx0 with
  |true=>
   have f:id<nx0:=zk i;simp[bN];have:=pZ (m':=gm nx0 ids m) (pr':=pr') a (l5 (.inl ⟨f,rfl⟩)) e;grind[Dj]
  |false=>
   have g:nx0<=id:=by
    apply Decidable.byContradiction;intro l;have:Nat.blt id nx0=true:=zw (by omega);grind
   cases k:placeOf ids id nx0 with
   |none=>grind
   |some j=>
    simp only[bN,a,i,k];exact pZ a (l5 (.inr ⟨g,k⟩)) e
theorem Gu (ids:Ke)(d:D):(du nx0 ids d).cells=d.cells.map (bN nx0 ids):=by
 cases d with
 |agg l=>rfl
 |ptr id i o=>show(bN nx0 ids (D.ptr id i o)).cells=[bN nx0 ids (D.ptr id i o)];simp only[bN,bi];cases Nat.blt id nx0<;>cases placeOf ids id nx0<;>rfl
 |ref id i o=>show(bN nx0 ids (D.ref id i o)).cells=[bN nx0 ids (D.ref id i o)];simp only[bN,bi];cases Nat.blt id nx0<;>cases placeOf ids id nx0<;>rfl
 |mref id=>show(bN nx0 ids (D.mref id)).cells=[bN nx0 ids (D.mref id)];simp only[bN,bi];cases Nat.blt id nx0<;>cases placeOf ids id nx0<;>rfl
 |_=>rfl
theorem TY (ids:Ke)(d:D):(bN nx0 ids d).one=d.one:=by
 cases d with
 |ptr id i o=>simp only[bN,bi];cases Nat.blt id nx0<;>cases placeOf ids id nx0<;>rfl
 |ref id i o=>simp only[bN,bi];cases Nat.blt id nx0<;>cases placeOf ids id nx0<;>rfl
 |mref id=>simp only[bN,bi];cases Nat.blt id nx0<;>cases placeOf ids id nx0<;>rfl
 |_=>rfl
theorem A1 (ids:Ke)(es:Hm):fl (es.map (du nx0 ids))=(fl es).map (bN nx0 ids):=by
 induction es with
 |nil=>rfl
 |cons e es a=>
  grind[fl,Gu]
theorem RowIn.ren {ids:Ke}{pr':aM}{es:Hm}{esz:Nat}{C:Array Value}(h:RowIn m pr w es esz C)(a:es.all (okD nx0 ids)=true)(b:Ev aS pr w aS pr' w):RowIn (gm nx0 ids m) pr' w (es.map (du nx0 ids)) esz C:=by
 obtain⟨d,i,j,f,l⟩:=h;refine⟨d,fun e c=>?_,by grind[A1],fun k h1 g=>?_,fun e c=>?_⟩
 .grind[Gu]
 .simp[A1]at h1;simp[A1];exact Sm (Ny a _ (zE _)) b (f k h1 g)
 rw[A1]at c;grind[TY]
theorem MW {ids:Ke}{h:ab}{t:ai}:∀{live:Live},gj nx0 ids h t live=true->∀x b,(x,b)∈live->(dH x=false->bi (t x)=none->plainO nx0 (t x)=true)/\(∀id,bi (look t h x)=some id->eR nx0 ids (h id)=true):=by
 intro live
 induction live with
 |nil=>simp
 |cons y live d=>
  intro c x b a;simp[gj]at c;rcases zP.1 a with rfl|a
  .refine⟨fun h0 h1=>?_,fun id h1=>by grind⟩;have e:look t h x=t x:=by grind[look]
   grind
  grind
theorem Ph (ids:Ke)(t:ai)(i:Nat):∀(live:Live),pA nx0 ids t live i=.bad\/∃b,(i,b)∈live/\dH i=false/\pA nx0 ids t live i=bN nx0 ids (t i):=by
 intro live
 induction live with
 |nil=>exact .inl rfl
 |cons x live a=>
  simp only[pA];by_cases hi:i=x.1
  .subst hi;rw[upd_same];grind
  rw[upd_ne hi];grind
theorem Tz {ids:Ke}{h h':ab}{x j:Nat}(e:h' j=dQ nx0 ids (h x)):aV h' j=aV h x:=by
 simp only[aV,e]
 cases h x with
 |none=>rfl
 |some b=>grind[dQ]
theorem Vv {a:Act}{s':St}(hk:Knows c m s a w)(V:p7 nx0 live s=some s'):
 Knows c (gm nx0 (bS s.tmps s.heap live) m) s' a w/\(∀b o,Pr c m s.heap s.frz b o->Pr c (gm nx0 (bS s.tmps s.heap live) m) s'.heap s'.frz b o)/\(∀id,s'.next<=id->gm nx0 (bS s.tmps s.heap live) m id=none)/\s'.next=nx0+live.length:=by
 obtain⟨H,ht⟩:=hk;unfold p7 at V;split at V
 .rename_i N;cases V;have a4:(bS s.tmps s.heap live).length=live.length:=by simp[bS]
  have G:∀id,some id∈bS s.tmps s.heap live->∃x b,(x,b)∈live/\bi (look s.tmps s.heap x)=some id:=by
   intro id d;obtain⟨⟨x,b⟩,u,e⟩:=zy.1 d;grind
  have I:∀x b id,(x,b)∈live->dH x=false->bi (s.tmps x)=some id->some id∈bS s.tmps s.heap live:=by
   intro x b id u l d;refine zy.2 ⟨(x,b),u,?_⟩;have hl:look s.tmps s.heap x=s.tmps x:=by grind[look]
   grind
  generalize bS s.tmps s.heap live=ids at*
  have J:∀b o,Pr c m s.heap s.frz b o->Pr c (gm nx0 ids m) (bC nx0 ids (dn nx0 ids s.heap) none (fun i=>dQ nx0 ids (s.heap i)) ids nx0) (bC nx0 ids s.frz 0 s.frz ids nx0) b o:=by
   intro b o l;rcases l with l|⟨l,hn⟩
   .exact .inl l
   refine .inr ⟨l,fun⟨j,e,h1,K,h3⟩=>hn ?_⟩;rcases Aq (nx0:=nx0) (ids:=ids) (h:=s.heap) (z:=s.frz) j with⟨x,_,n,g,D⟩ |⟨F,n⟩
   .rw[n]at h1;rw[D]at h3;refine⟨x,e,h1,fun u=>K ?_,h3⟩;rw[g];split
    grind[dn,eR]
    .rw[u];rfl
   grind
  have E:Ev aS (Pr c m s.heap s.frz) w aS (Pr c (gm nx0 ids m) (bC nx0 ids (dn nx0 ids s.heap) none (fun i=>dQ nx0 ids (s.heap i)) ids nx0) (bC nx0 ids s.frz 0 s.frz ids nx0)) w:=
   ⟨(fun _ _ h=>nomatch h),fun b o v l W=>⟨J b o l,W⟩,fun r es k l W=>⟨J r 0 l,W⟩,fun b C t f X=>⟨C,X,rfl⟩⟩
  have A:∀j B,bC nx0 ids (dn nx0 ids s.heap) none (fun i=>dQ nx0 ids (s.heap i)) ids nx0 j=some B->∃x p,((j<nx0/\x=j)\/(nx0<=x/\placeOf ids x nx0=some j))/\s.heap x=some p/\((B=p/\eR nx0 [] (some p)=true)\/(some B=dQ nx0 ids (some p)/\eR nx0 ids (some p)=true))/\gm nx0 ids m j=m x/\bC nx0 ids s.frz 0 s.frz ids nx0 j=s.frz x:=by
   intro j B q;rcases Aq (nx0:=nx0) (ids:=ids) (h:=s.heap) (z:=s.frz) j with⟨x,F,n,g,D⟩ |⟨F,n⟩
   .rw[g]at q;rcases F with⟨h1,rfl⟩ |⟨h1,K⟩
    .rw[ve h1]at q;unfold dn at q
     cases l:eR nx0 [] (s.heap x)with
     |false=>
      cases hq:eR nx0 ids (s.heap x)with
      |false=>grind
      |true=>
       cases u:s.heap x with
       |none=>rw[u]at q;cases q
       |some p=>grind
     |true=>
      grind
    obtain⟨h3,h4⟩:=oX _ _ _ _ K;rw[eE]at q
    cases u:s.heap x with
    |none=>rw[u]at q;cases q
    |some p=>
     obtain⟨y,b,Y,d⟩:=G x (zh h4);have:=(MW N y b Y).2 x d;grind
   grind
  refine⟨⟨⟨fun j es esz hr=>?_,fun j Z vs hr=>?_,fun j j' y y' U b2 Y a0 a1=>?_,fun j x u=>?_,H.base,fun j U=>?_⟩,fun i=>?_⟩,J,fun id d=>?_,rfl⟩
  .obtain⟨x,p,_,n,g,D,_⟩:=A j _ hr;rcases g with⟨rfl,g⟩ |⟨g,O⟩
   .rcases H.row x es esz n with⟨b,C,t,L,P,Q,R⟩ |⟨g0,L⟩
    .exact .inl ⟨b,C,t,D.trans L,P,Q,R.old (fun id h=>l5 (.inl ⟨h,rfl⟩)) g E⟩
    grind
   cases p with
   |mp Z vs=>grind[dQ]
   |row S T=>
    obtain⟨rfl,rfl⟩:=g;rcases H.row x S esz n with⟨b,C,t,L,P,Q,R⟩ |⟨g0,L⟩
    .exact .inl ⟨b,C,t,D.trans L,P,Q,R.ren O E⟩
    grind
  .obtain⟨x,p,_,n,g,D,_⟩:=A j _ hr
   have k5:p=.mp Z vs/\vs.all (plain 4)=true:=by
    rcases g with⟨rfl,g⟩ |⟨g,O⟩
    trivial
    .cases p with
     |row S T=>grind[dQ]
     |mp b4 b5=>
      obtain⟨rfl,rfl⟩:=g
      trivial
   obtain⟨rfl,k6⟩:=k5;obtain⟨b,C,t,L,P,Q,R⟩:=H.mp x Z vs n;exact⟨b,C,t,D.trans L,P,Q,((R.bare k6).mono E).mono (Ev.up _ _ _)⟩
  .cases q:bC nx0 ids (dn nx0 ids s.heap) none (fun i=>dQ nx0 ids (s.heap i)) ids nx0 j with
   |none=>grind
   |some B=>
    cases a2:bC nx0 ids (dn nx0 ids s.heap) none (fun i=>dQ nx0 ids (s.heap i)) ids nx0 j' with
    |none=>grind
    |some B'=>
     obtain⟨x,_,F,n,_,D,_⟩:=A j _ q;obtain⟨x',_,l1,l2,_,l4,_⟩:=A j' _ a2;have:=H.inj x x' y y' (by grind) (by grind) (D.symm.trans Y) (l4.symm.trans a0) a1;grind
  .rcases Aq (nx0:=nx0) (ids:=ids) (h:=s.heap) (z:=s.frz) j with⟨y,_,n,_,_⟩ |⟨F,_⟩
   .rw[n]at u;exact H.below y x u
   grind
  .cases q:bC nx0 ids (dn nx0 ids s.heap) none (fun i=>dQ nx0 ids (s.heap i)) ids nx0 j with
   |none=>grind
   |some B=>
    obtain⟨x,p,_,n,g,_,k5⟩:=A j _ q;have:=H.zle x (by grind);simp;rcases g with⟨rfl,_⟩ |⟨g,_⟩
    grind[aV]
    .have e:=Tz (nx0:=nx0) (ids:=ids) (h:=s.heap) (h':=bC nx0 ids (dn nx0 ids s.heap) none (fun i=>dQ nx0 ids (s.heap i)) ids nx0) (x:=x) (j:=j) (by grind);omega
  .simp only;rcases Ph (nx0:=nx0) ids s.tmps i live with h|⟨b,h1,h0,K⟩
   .rw[h];exact .bad _
   rw[K];have hv:=ht i
   cases d:bi (s.tmps i)with
   |none=>
    have l:=(MW N i b h1).1 h0 d;simp only[bN,d];exact AL (fun id h=>l5 (.inl ⟨h,rfl⟩)) l E hv
   |some id=>
    by_cases M:id<nx0
    .have:Nat.blt id nx0=true:=zw M;simp only[bN,d,this]
     have hr:ug id (s.tmps i)=s.tmps i:=by
      cases hd:s.tmps i<;>simp only[hd,bi,zV]at d<;>first|(subst d;rfl) |cases d
     rw[<-hr];exact pZ d (l5 (.inl ⟨M,rfl⟩)) hv
    obtain⟨j,U⟩:=Ja ids id nx0 (I i b id h1 h0 d)
    have:Nat.blt id nx0=false:=by
     cases X:Nat.blt id nx0 with
     |false=>rfl
     |true=>exact absurd (zk X) M
    simp only[bN,d,this,U];exact pZ d (l5 (.inr ⟨by omega,U⟩)) hv
  simp at d;rcases Aq (nx0:=nx0) (ids:=ids) (h:=s.heap) (z:=s.frz) id with⟨x,F,_⟩ |⟨F,_⟩
  .rcases F with⟨h1,_⟩ |⟨_,K⟩
   omega
   .obtain⟨h3,h4⟩:=oX _ _ _ _ K;grind
  grind
 grind
theorem DN:∀{l:Hm} {n:Nat} {d:D},nth l n=d->d≠ .bad->∃h:n<l.length,l[n]=d
 |[],_,_,h,a=>absurd h.symm a
 |x::l,0,d,h,_=>⟨by simp,h⟩
 |x::l,n+1,d,h,a=>by
  obtain⟨h1,b⟩:=DN (l:=l) (n:=n) h a;grind
theorem Ts {i:Nat}{d:D}:∀(es:Hm),(∀e∈es,e.cells.length=1)->d.cells=[d]->fl (es.set i d)=(fl es).set i d:=by
 intro es
 induction es generalizing i with
 |nil=>intro _ _;rfl
 |cons e es b=>
  intro h f;have a:=h e (zO ..);obtain⟨c,g⟩:=xy.1 a
  cases i with
  |zero=>grind[fl]
  |succ i=>
   grind[fl]
theorem XF {i:Nat}{d:D}:∀{es:Hm},(∀e∈es,e.cells.length=1)->∀(h:i<es.length),es[i]=d->d.cells=[d]->∀h1,(fl es)[i]'h1=d:=by
 intro es
 induction es generalizing i with
 |nil=>simp
 |cons e es b=>
  intro h hi f g h1;have a:=h e (zO ..);obtain⟨c,j⟩:=xy.1 a;have k:fl (e::es)=c::fl es:=by grind[fl]
  grind
theorem U9 {s:St}{a:Act}{x k:Nat}(r:Knows c m s a w)(E:∀id,s.next<=id->m id=none):
 Knows c m (dD x k s) a w/\Ev m (Pr c m s.heap s.frz) w m (Pr c m (dD x k s).heap (dD x k s).frz) w/\∀id,(dD x k s).next<=id->m id=none:=by
 unfold dD;split
 grind[Gm]
 .split
  .rename_i k id i o T;split
   .rename_i l esz G;split
    .rename_i H;obtain⟨u,f⟩:=DN H (by simp);have g:=E s.next (zD _);have e:=Ev.virt (c:=c) (h:=s.heap) (z:=s.frz) (w:=w) (k:=k+1) (kz:=0) g;have y:=r.1.virt (k:=k+1) (kz:=0) g rfl;rcases r.1.row id _ esz G with⟨b,C,t,A,U,p,I⟩ |⟨V,_⟩
     case inr=>grind
     have j:upd s.heap s.next (some (.row [] (k+1))) id=some (.row [.agg l] esz):=by grind[upd_ne]
     have J:=I.mono e
     have K:RowIn m (Pr c m (upd s.heap s.next (some (.row [] (k+1)))) (upd s.frz s.next 0)) w [.agg (l.set (x/1048576-1) (.ref s.next 0 0))] esz C:=by
      obtain⟨L,F,W,M,X⟩:=J;have N:fl [D.agg l]=l:=by simp[fl,D.cells]
      have d:fl [D.agg (l.set (x/1048576-1) (.ref s.next 0 0))]=l.set (x/1048576-1) (.ref s.next 0 0):=by simp[fl,D.cells]
      refine⟨L,fun O n=>?_,?_,fun P h1 Q=>?_,fun O n=>?_⟩
      .have:=F (.agg l) (by simp);grind[D.cells]
      grind
      .simp only[d]at h1⊢;have q:=M P (by grind) Q;simp only[N]at q;rw[yr];split
       .rename_i R;subst R;rw[f]at q;generalize C[x/1048576-1]=v at q
        cases q with
        |nilsl b=>exact .vnil _ _
       omega
      rw[d]at n;rcases yp n with n|rfl
      grind
      .rfl
     have B:=Ev.store y (es':=[.agg (l.set (x/1048576-1) (.ref s.next 0 0))]) A j p p rfl (fun _ _=>rfl) (fun _ _=>rfl);exact⟨⟨y.store A j rfl p p rfl (fun _ _=>rfl) rfl (fun _ _=>rfl) K,fun i=>(r.2 i).mono (e.trans B)⟩,e.trans B,fun id Y=>E id (by grind)⟩
    grind[Ev.refl]
   grind[Ev.refl]
  .rename_i k id off Z T;split
   .rename_i es _ G;generalize off+(x/1048576-1001)=i at*;split
    .rename_i H;obtain⟨u,f⟩:=DN H (by simp);have g:=E s.next (zD _);have e:=Ev.virt (c:=c) (h:=s.heap) (z:=s.frz) (w:=w) (k:=k+1) (kz:=0) g;have y:=r.1.virt (k:=k+1) (kz:=0) g rfl;rcases r.1.row id _ 1 G with⟨b,C,t,A,U,p,I⟩ |⟨V,_⟩
     case inr=>grind
     have j:upd s.heap s.next (some (.row [] (k+1))) id=some (.row es 1):=by grind[upd_ne]
     have J:=I.mono e
     have K:RowIn m (Pr c m (upd s.heap s.next (some (.row [] (k+1)))) (upd s.frz s.next 0)) w (es.set i (.ref s.next 0 0)) 1 C:=by
      obtain⟨L,F,W,M,X⟩:=J;have d:fl (es.set i (.ref s.next 0 0))=(fl es).set i (.ref s.next 0 0):=Ts _ F rfl;have S:∀h1,(fl es)[i]'h1=.nilsl:=fun h1=>XF F u f rfl h1;refine⟨L,fun O n=>?_,?_,fun P h1 Q=>?_,fun O n=>?_⟩
      .rcases yp n with n|rfl
       grind
       .rfl
      grind
      .simp only[d]at h1⊢;rw[wK]at h1;have q:=M P h1 Q;rw[yr];split
       .rename_i R;subst R;rw[S]at q;generalize C[i]=v at q
        cases q with
        |nilsl b=>exact .vnil _ _
       omega
      rw[d]at n;rcases yp n with n|rfl
      grind
      .rfl
     have B:=Ev.store y (es':=es.set i (.ref s.next 0 0)) A j p p (by simp) (fun _ _=>rfl) (fun _ _=>rfl);exact⟨⟨y.store A j (by simp) p p rfl (fun _ _=>rfl) rfl (fun _ _=>rfl) K,fun i=>(r.2 i).mono (e.trans B)⟩,e.trans B,fun id Y=>E id (by grind)⟩
    grind[Ev.refl]
   grind[Ev.refl]
  grind[Ev.refl]
theorem WQ {a:Act}:∀(live:Live) {s:St},Knows c m s a w->(∀id,s.next<=id->m id=none)->
 Knows c m (cL live s) a w/\Ev m (Pr c m s.heap s.frz) w m (Pr c m (cL live s).heap (cL live s).frz) w/\∀id,(cL live s).next<=id->m id=none:=by
 intro live
 induction live with
 |nil=>intro s b d;exact⟨b,Ev.refl _ _ _,d⟩
 |cons x live e=>
  intro s b d;obtain⟨f,g,f1⟩:=U9 (x:=x.1) (k:=x.2) b d;obtain⟨h,i,f2⟩:=e f f1;exact⟨h,g.trans i,f2⟩
theorem QE {z':Frz}{b:ab}{n:Nat}{d f:D}{v:Value}(H:HR c m h z w)(i:Sub b h)(ev:Ev m (Pr c m h z) w m (Pr c m h z') w)(g:VR m (Pr c m h z) w d v)(a:jf b n d=some f)(e:∀id∈aN b n d,z' id=aV h id):tO c m h z' w d f v:=by
 cases d with
 |nilsl=>
  simp[jf]at a;subst a;exact⟨(g.bare 4 rfl).mono ev.bare,fun h=>h,fun h=>h,rfl⟩
 |_=>exact sP H i ev n _ _ _ g a e
theorem Qd {ids:Ke}{s s':St}{a:Act}{x:Nat}(g:Knows c m s a w)(d:gu nx0 ids x s=some s'):
 Knows c m s' a w/\Ev m (Pr c m s.heap s.frz) w m (Pr c m s'.heap s'.frz) w/\s'.next=s.next:=by
 unfold gu at d;split at d
 grind[Ev.refl,Gz]
 .rename_i id r;split at d
  .rename_i es esz j;split at d
   grind[Ev.refl]
   .split at d
    .rename_i es' u;cases d;have n:=Eh s.heap (es.flatMap (aN s.heap depth));obtain⟨k,o⟩:=Do g n;rcases g.1.row id es esz j with⟨b,C,t,p,F,f,y⟩ |⟨G,_⟩
     case inr=>grind
     obtain⟨z,A⟩:=y.snapped (z':=aJ s.frz ((es.flatMap (aN s.heap depth)).map fun id=>(id,aV s.heap id))) u (fun e B e' v D l=>
      QE g.1 (fun _ _ h=>h) o D l (fun i hi=>Bw s.frz n ⟨_,zy.2 ⟨i,yc.2 ⟨e,B,hi⟩,rfl⟩,rfl⟩))
     have E:RowIn m (Pr c m s.heap (aJ s.frz ((es.flatMap (aN s.heap depth)).map fun id=>(id,aV s.heap id)))) w es' esz C:=A.mono (Ev.up _ _ _);have q:=Ev.store k.1 (es':=es') p j f f rfl (fun _ _=>rfl) (fun _ _=>rfl);exact⟨⟨k.1.store p j z f f rfl (fun _ _=>rfl) rfl (fun _ _=>rfl) E,fun i=>(k.2 i).mono q⟩,o.trans q,rfl⟩
    grind
  grind[Ev.refl]
theorem Wg {ids:Ke}{a:Act}:∀(live:Live) {s s':St},Knows c m s a w->gD nx0 ids live s=some s'->
 Knows c m s' a w/\Ev m (Pr c m s.heap s.frz) w m (Pr c m s'.heap s'.frz) w/\s'.next=s.next:=by
 intro live
 induction live with
 |nil=>grind[gD,Ev.refl]
 |cons x live d=>
  intro s s' e b;simp only[gD]at b;split at b
  .rename_i h h1;obtain⟨f,g,i⟩:=Qd e h1;obtain⟨j,k,l⟩:=d f b;simp_all[g.trans]
  grind
theorem UO {n:Nat}{f:Map}{d:aM}{t:World}{a:Act}{s':St}(A:∀id,nx0<=id->f id=none)(R:Rel n nx0 c f d t (fun id=>s.next<=id) s a w)(g:mO nx0 live s=some s'):
 Rel n nx0 c f d t (fun id=>s'.next<=id) s' a w:=by
 obtain⟨m,H,B,h,i,u⟩:=R.ex;unfold mO at g;split at g
 .rename_i y h1;obtain⟨C,D,f0⟩:=WQ (s:=s) (a:=a) live ⟨H,B⟩ i;obtain⟨E,F,J⟩:=Wg live C h1;obtain⟨z,K,f2,L⟩:=Vv E g;refine⟨⟨gm nx0 (bS y.tmps y.heap live) m,z.1,z.2,?_,f2,fun id j=>?_⟩,R.below,R.defers,R.size,by omega⟩
  .have e:=(h.trans D).trans F;refine⟨fun id x M=>?_,fun b o v l p=>?_,fun r es k l p=>?_,e.size⟩
   .have q:id<nx0:=by
     grind
    rw[l5 (.inl ⟨q,rfl⟩)];grind
   .obtain⟨G,I⟩:=e.cell b o v l p;grind
   obtain⟨G,I⟩:=e.obj r es k l p;grind
  rw[l5 (.inl ⟨j,rfl⟩)];grind
 grind
theorem He {n:Nat}{g:Map}{d:aM}{t:World}{a:Act}{s':St}(z:∀id,nx0<=id->g id=none)(R:Rel n nx0 c g d t (fun id=>s.next<=id) s a w)(f:settle nx0 live s=some s'):
 Rel n nx0 c g d t (fun id=>s'.next<=id) s' a w:=by
 obtain⟨m,H,A,h,i,u⟩:=R.ex;unfold settle at f;split at f
 grind[UO];split at f
 .rename_i B h1;obtain⟨C,D,f0⟩:=V4 (s:=s) (a:=a) live ⟨H,A⟩ i;obtain⟨E,F,J⟩:=YE live C h1;obtain⟨y,K,f2,L⟩:=RE E f;refine⟨⟨k9 nx0 live B m,y.1,y.2,?_,f2,fun id j=>?_⟩,R.below,R.defers,R.size,by omega⟩
  .have e:=(h.trans D).trans F;refine⟨fun id x M=>?_,fun b o v l p=>?_,fun r es k l p=>?_,e.size⟩
   .have q:id<nx0:=by
     grind
    rw[tc (.inl ⟨q,rfl⟩)];grind
   .obtain⟨G,I⟩:=e.cell b o v l p;grind
   obtain⟨G,I⟩:=e.obj r es k l p;grind
  rw[tc (.inl ⟨j,rfl⟩)];grind
 grind
end
end Go.F
