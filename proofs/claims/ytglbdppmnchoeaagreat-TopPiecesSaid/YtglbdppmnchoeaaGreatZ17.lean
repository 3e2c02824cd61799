/- Part 17. -/
import Derived.Test.YtglbdppmnchoeaaGreatZ16
set_option linter.all false
namespace Go.F
variable {P:Program}{E:Env}
def Cj (P:Program)(f:FuncId)(vs:Array Value)(w:World)(Q:Value->World->Prop):Prop:=
 ((callFunc f vs).run P w=.ok (.enter f vs) w/\Calls P f vs w fun e w'=>∃v,e=.returned v/\Q v w')\/(∃v w',(callFunc f vs).run P w=.ok (.value v) w'/\Q v w')
def cR (m:Map)(pr:aM)(w:World)(l:List D)(vs:Array Value):Prop:=l.length=vs.size/\∀k (_:k<l.length) (_:k<vs.size),VR m pr w l[k] vs[k]
def jK (P:Program)(E:Env):Prop:=∀f args r,E.pure f args=some r->∀(w:World) (ok:aM) (vs:Array Value),(∀b o,ok b o->b<w.heap.size)->cR aS ok w args vs->
 Cj P f vs w fun v w'=>VR aS (fun b o=>ok b o\/w.heap.size<=b) w' r v/\Below w.heap.size w w'
def uJ (P:Program)(E:Env):Prop:=∀f args h z nx r h' z' a,E.shar f args h z nx=some (r,h',z',a)->∀(c:Ctx) (m:Map) (w:World) (vs:Array Value),HR c m h z w->cR m (Pr c m h z) w args vs->(∀id,nx<=id->m id=none)->
 Cj P f vs w fun v w'=>∃m',HR c m' h' z' w'/\VR m' (Pr c m' h' z') w' r v/\Ev m (Pr c m h z) w m' (Pr c m' h' z') w'/\Below c.B w w'/\(∀id,id<nx->m' id=m id)/\(∀id,a<=id->m' id=none)/\nx<=a
theorem Cl {c:Ctx}{m:Map}{h:ab}{z:Frz}{w w':World}(d:HR c m h z w)(e:Below w.heap.size w w'):HR c m h z w'/\Ev m (Pr c m h z) w m (Pr c m h z) w':=by
 have a:∀b,b<w.heap.size->w'.heap[b]?=w.heap[b]?:=fun b i=>e.block b i
 have g:Ev m (Pr c m h z) w m (Pr c m h z) w':=by
  refine⟨fun _ _ h=>h,fun b y v l q=>⟨l,?_⟩,fun r es k l q=>⟨l,?_⟩,fun b C t f i=>⟨C,?_,rfl⟩⟩
  .obtain⟨C,t,f,i,A⟩:=cell?_block q;rw[cell?_row ((a b (zS.1 i).1).trans i)];omega
  grind;grind
 refine⟨⟨fun id es esz hr=>?_,fun id u vs hr=>?_,d.inj,fun id x s=>⟨(d.below id x s).1,zc (d.below id x s).2 e.size⟩,zR d.base e.size,d.zle⟩,g⟩
 .rcases d.row id es esz hr with⟨b,C,t,j,n,o,p⟩ |B
  .exact .inl ⟨b,C,t,j,n,(a b (d.below id _ j).2).trans o,p.mono g⟩
  grind
 obtain⟨r,es,k,j,n,o,p⟩:=d.mp id u vs hr;exact⟨r,es,k,j,n,(a r (d.below id _ j).2).trans o,p.mono g⟩
structure Rel (n nx0:Nat)(c:Ctx)(ms:Map)(prs:aM)(ws:World)(fresh:Nat->Prop)(s:St)(a:Act)(w:World):Prop where
 ex:∃m,HR c m s.heap s.frz w/\(∀i,VR m (Pr c m s.heap s.frz) w (s.tmps i) (a.tmps.getD i undef))/\Ev ms prs ws m (Pr c m s.heap s.frz) w/\(∀id,fresh id->m id=none)/\∀id,id<nx0->m id=ms id
 below:Below c.B ws w
 defers:a.defers=[]
 size:n<=a.tmps.size
 next:nx0<=s.next
theorem AX {m:Map}{pr:aM}{w:World}{t:ai}{a:Act}{b:Option Tmp}{d:D}{v:Value}(c:∀i,VR m pr w (t i) (a.tmps.getD i undef))(e:VR m pr w d v)(f:∀x,b=some x->x<a.tmps.size):
 ∀i,VR m pr w (put t b d i) ((a.put b v).tmps.getD i undef):=by
 intro i;rw[DR]
 cases b with
 |none=>grind[Act.put]
 |some x=>
  simp[Act.put];by_cases h:x=i
  simp_all;simp_all
theorem Bh (a:Act)(b:Option Tmp)(v:Value):(a.put b v).tmps.size=a.tmps.size:=by cases b<;>simp[Act.put]
theorem put_defers (a:Act)(b:Option Tmp)(v:Value):(a.put b v).defers=a.defers:=by cases b<;>simp[Act.put]
theorem JQ {m:Map}{pr:aM}{w:World}{t:ai}{a:Act}(k:∀i,VR m pr w (t i) (a.tmps.getD i undef))(ops:Array Oper)(o:Oper){b:Bool}(f:wanted t ops o=some b):Region.wanted o (yielded ops a.tmps)=b:=by
 unfold wanted at f;unfold Region.wanted
 cases l:o.guard with
 |none=>grind
 |some g=>
  obtain⟨j,h⟩:=g;simp only[l]at f;simp only[yielded]
  cases n:(ops[j]?).bind (·.dst)with
  |none=>grind
  |some d=>
   simp only[n]at f;simp;have c:=k d
   cases p:a.tmps[d]? with
   |none=>
    have:a.tmps.getD d undef=undef:=by grind
    rw[this]at c;cases e:t d<;>first|(rw[e]at f;cases f<;>rfl) |(rw[e]at c;cases c)
   |some v=>
    have:a.tmps.getD d undef=v:=by simp_all
    rw[this]at c
    cases v with
    |bool x=>
     cases e:t d with
     |bool y=>rw[e]at c f;cases c;simp_all
     |bad=>grind
     |opq y=>rw[e]at c;trivial
     |_=>rw[e]at c;cases c
    |_=>cases e:t d<;>first|(rw[e]at f;cases f<;>rfl) |(rw[e]at c;cases c)
theorem Up (a:Bool)(d:Sp)(ops:Array Oper)(base i:Nat)(o:Oper)(h:ab):Sub (cD a d ops base i o h) h:=by
 intro id b c
 cases a with
 |false=>exact c
 |true=>
  simp only[cD]at c;grind
theorem V7 (a:Bool)(b:Sp)(ops:Array Oper)(base i:Nat)(o:Oper)(h:ab)(z:Frz):∀id,cD a b ops base i o h id≠none->ju a b ops base i o z id=z id:=by
 intro id c
 cases a with
 |false=>rfl
 |true=>
  simp only[cD]at c
  cases d:cO b ops base i o id with
  |true=>grind[ju]
  |false=>grind
theorem Ng {ρ:Operand->Value}{o:Oper}{cl:Call}{f:Operand}{g:FuncId}{va a:Array Value}{w:World}(b:o.op=.call cl)(c:cl.callee=.value f)(d:ρ f=.func (.func g) va a):
 (execOp ρ o).run P w=(callFunc g (va++cl.args.map ρ++a)).run P w:=by
 grind[execOp,resolve,Deferred.ofValue,invoke]
theorem Lz {o:Oper}{a:Act}{w:World}{g:FuncId}{vs:Array Value}{Q:Exit->Act->World->Prop}{K:Act->World->Prop}{R:Value->World->Prop}(b:(execOp a.eval o).run P w=(callFunc g vs).run P w)(d:Cj P g vs w R)
 (f:∀v w',R v w'->K (a.put o.dst v) w'):o.wp P a w K Q:=by
 unfold Oper.wp;rw[b];rcases d with⟨h1,c⟩ |⟨v,w',h1,c⟩
 .rw[h1];refine c.mono fun e w' h=>?_;grind
 rw[h1];exact f v w' c
theorem OS {m:Map}{pr:aM}{w:World}{t:ai}{a:Act}(j:∀i,VR m pr w (t i) (a.tmps.getD i undef)){f g:List D}{va h:Array Value}{args:Array Operand}(p:cR m pr w f va)(q:cR m pr w g h):
 cR m pr w (f++args.toList.map (ev t)++g) (va++args.map a.eval++h):=by
 have r:cR m pr w (args.toList.map (ev t)) (args.map a.eval):=⟨by simp,fun k h1 b=>by simp;exact tV j _⟩
 have n:∀{l c:List D} {u d:Array Value},cR m pr w l u->cR m pr w c d->cR m pr w (l++c) (u++d):=by
  intro l c u d h1 b;refine⟨by simp[h1.1,b.1],fun k s o=>?_⟩;by_cases e:k<l.length
  .rw[yu e,Array.getElem_append_left (by have:=h1.1;omega)];exact h1.2 _ _ _
  have:=h1.1;rw[xg (by omega),Array.getElem_append_right (by omega)];simp only[this];exact b.2 _ _ _
 grind
theorem VR.noRef:∀(n:Nat) {m m':Map} {pr pr':aM} {w w':World} {d:D} {v:Value},VR m pr w d v->noRef n d=true->VR m' pr' w' d v:=by
 intro n
 induction n with
 |zero=>intro m m' pr pr' w w' d v _ h;trivial
 |succ n g=>
  intro m m' pr pr' w w' d v c h
  cases c with
  |bool b=>simp[bool]
  |int k n=>simp[int]
  |float k n=>simp[float]
  |str s=>simp[str]
  |agg l vs a c e=>
   simp[F.noRef]at h;exact .agg l vs a (fun k h1 f=>g (c k h1 f) (h _ (zE _))) e
  |tup l vs a c=>
   simp[F.noRef]at h;exact .tup l vs a (fun k h1 f=>g (c k h1 f) (h _ (zE _)))
  |_=>simp[F.noRef]at h
theorem P1 {E:Env}{a:Bool}{o:Oper}{t:ai}{g:FuncId}{args:List D}(h:de E a o t=some (g,args)):
 ∃cl f d e,o.op=.call cl/\cl.callee=.value f/\ev t f=.fn g d e/\args=d++cl.args.toList.map (ev t)++e:=by
 unfold de at h;split at h
 .rename_i cl c;split at h
  .rename_i f b;split at h
   .simp at h;obtain⟨rfl,rfl⟩:=h;exact⟨cl,.func f,[],[],c,b,rfl,by simp⟩
   grind
  grind;grind
 grind
theorem J4 {n nx0:Nat}{c:Ctx}{ms:Map}{b8:aM}{ws:World}(b0:jK P E)(b1:uJ P E){y:Bool}{J:Sp}{ops:Array Oper}{base:Nat}{Q:Exit->Act->World->Prop}
 (g0:nx0<=base) (b9:∀(i:Nat) (o:Oper),ops[i]?=some o->∀d,o.dst=some d->d<n):
 ∀i o s s1 a w (F:Nat->Prop) (K:Act->World->Prop),ops[i]?=some o->F i->one P E y J ops o i base s=some s1->
  (Rel n nx0 c ms b8 ws (fun id=>(∃k,F k/\id=base+k)\/s.next<=id) s a w/\∀k,F k->base+k<s.next)->
  (∀a' w',(Rel n nx0 c ms b8 ws (fun id=>(∃k,(F k/\k≠i)/\id=base+k)\/s1.next<=id) s1 a' w'/\∀k,(F k/\k≠i)->base+k<s1.next)->K a' w')->wpOp P ops Q i K a w:=by
 intro i o s s1 a w F K ho g1 A hI hK;obtain⟨R,a2⟩:=hI;obtain⟨m,H,U,a3,a4,c3⟩:=R.ex;have hd:∀x,o.dst=some x->x<a.tmps.size:=fun x hx=>zc (b9 i o ho x hx) R.size;unfold wpOp;rw[ho];simp only;unfold one at A
 match hw:wanted s.tmps ops o with
 |none=>grind
 |some false=>
  rw[JQ U ops o hw];rw[hw]at A;simp at A⊢;subst A;refine hK _ _ ⟨⟨⟨m,H,AX U (.tup [] #[] rfl (by simp)) hd,a3,fun id hf=>a4 id ?_,c3⟩,R.below,by simp[put_defers,R.defers],by simp[Bh,R.size],R.next⟩,fun k hk=>a2 k hk.1⟩;grind
 |some true=>
  rw[JQ U ops o hw];rw[hw]at A;simp at A⊢;refine .inl ?_;split at A
  .rename_i g args g4;split at A
   .rename_i v h' z' g5 g6;simp at A;subst A;obtain⟨cl,f',Z,lc,a6,M,b2,rfl⟩:=P1 g4;have L:=tV U f';rw[b2]at L
    obtain⟨va,S,b3,b4,b5⟩:∃va S,a.eval f'=.func (.func g) va S/\cR m (Pr c m s.heap s.frz) w Z va/\cR m (Pr c m s.heap s.frz) w lc S:=by
     generalize a.eval f'=vf at L
     cases L with
     |fn _ _ _ va S h1 h2 h3 h4=>exact⟨va,S,rfl,⟨h1,h3⟩,⟨h2,h4⟩⟩
    have G:=OS U b4 b5 (args:=cl.args);refine Lz (Ng a6 M b3) (b1 g _ s.heap s.frz s.next v h' z' g5 g6 c m w _ H G (fun id I=>a4 id (.inr I))) ?_;rintro u w' ⟨m',H',hu,V,O,i8,g8,c6⟩;refine hK _ _ ⟨⟨⟨m',H',AX (fun j=>(U j).mono V) hu hd,a3.trans V,fun id hf=>?_,fun id I=>?_⟩,R.below.trans O,by simp[put_defers,R.defers],by simp[Bh,R.size],zR R.next c6⟩,fun k hk=>zc (a2 k hk.1) c6⟩;grind;grind
   grind
  split at A
  .rename_i r D;simp at A;subst A;have W:=Up y J ops base i o s.heap;have g9:=V7 y J ops base i o s.heap s.frz;have X:m (base+i)=none:=a4 _ (.inl ⟨i,g1,rfl⟩);by_cases Y:∃cl f,o.op=.call cl/\cl.callee=.value f
   .obtain⟨cl,f,a6,M⟩:=Y;simp only[step,a6,M]at D;split at D
    .rename_i f' Z lc b2;have L:=tV U f;rw[b2]at L
     obtain⟨va,S,b3,b4,b5⟩:∃va S,a.eval f=.func (.func f') va S/\cR m (Pr c m s.heap s.frz) w Z va/\cR m (Pr c m s.heap s.frz) w lc S:=by
      generalize a.eval f=vf at L
      cases L with
      |fn _ _ _ va S h1 h2 h3 h4=>exact⟨va,S,rfl,⟨h1,h3⟩,⟨h2,h4⟩⟩
     have G:=OS U b4 b5 (args:=cl.args);unfold ig at D;split at D
     grind
     .rename_i bs h0;split at D
      grind
      .rename_i d T
       have a7:∀p∈((Z++cl.args.toList.map (ev s.tmps)++lc).flatMap (aN (cD y J ops base i o s.heap) depth)).map (fun id=>(id,aV (cD y J ops base i o s.heap) id)),p.2=aV s.heap p.1:=by
        intro p T;obtain⟨id,I,rfl⟩:=zy.1 T;obtain⟨x,_,hx⟩:=yc.1 I;have j4:=GR _ _ _ _ hx
        cases N:cD y J ops base i o s.heap id with
        |none=>grind
        |some b=>simp[aV,N,W _ _ N]
       have Hz:=H.freeze a7;have h6:=Ev.freeze H a7
       have h7:∀id,id∈(Z++cl.args.toList.map (ev s.tmps)++lc).flatMap (aN (cD y J ops base i o s.heap) depth)->
        aJ s.frz (((Z++cl.args.toList.map (ev s.tmps)++lc).flatMap (aN (cD y J ops base i o s.heap) depth)).map (fun id=>(id,aV (cD y J ops base i o s.heap) id))) id=aV s.heap id:=by
        intro id I
        have key:∀(l:List (Nat×Nat)) (z:Frz),(∀p∈l,p.2=aV s.heap p.1)->(∃p∈l,p.1=id)->aJ z l id=aV s.heap id:=by
         intro l
         induction l with
         |nil=>simp
         |cons q l ih=>
          intro z j0 h8;obtain⟨j,k⟩:=q;simp only[aJ];by_cases b6:∃p∈l,p.1=id
          grind
          .obtain⟨p,T,c7⟩:=h8;rcases zP.1 T with rfl|T
           .rw[uW _ _ _ (fun q hq e=>b6 ⟨q,hq,e⟩)];subst c7;rw[upd_same];grind
           grind
        exact key _ _ a7 ⟨(id,_),zy.2 ⟨id,I,rfl⟩,rfl⟩
       obtain⟨q1,q2⟩:=qh h0
       have h9:cR aS (fun b o'=>b<w.heap.size/\Pr c m s.heap (aJ s.frz (((Z++cl.args.toList.map (ev s.tmps)++lc).flatMap (aN (cD y J ops base i o s.heap) depth)).map (fun id=>(id,aV (cD y J ops base i o s.heap) id)))) b o') w bs (va++cl.args.map a.eval++S):=by
        refine⟨q1.trans G.1,fun k hk i0=>?_⟩;have c8:k<(Z++cl.args.toList.map (ev s.tmps)++lc).length:=by omega
        have i1:=sP H W h6 depth _ _ _ (G.2 k c8 i0) (q2 k c8 hk) (fun id I=>h7 id (yc.2 ⟨_,zE _,I⟩));refine i1.1.mono ⟨(fun _ _ h=>nomatch h),fun b o' v T hc=>?_,fun r es k T hc=>?_,fun b C t f N=>⟨C,N,rfl⟩⟩
        .obtain⟨C,t,f,N,_⟩:=cell?_block hc;grind
        grind
       refine Lz (Ng a6 M b3) (b0 f' bs d T w _ _ (fun b o' N=>N.1) h9) ?_;rintro u w' ⟨hu,O⟩;have c9:Below c.B ws w':=R.below.trans (O.mono Hz.base)
       have a9:∀l:List (Nat×Nat),(∀p∈l,p.2=aV s.heap p.1)->VR m (Pr c m s.heap (aJ s.frz l)) w' d u->r=⟨d,[],l⟩->K (a.put o.dst u) w':=by
        intro l hl i2 i3;have Hl:=H.freeze hl;have e0:=Ev.freeze H hl;obtain⟨H',e1⟩:=Cl Hl O;subst i3;refine hK _ _ ⟨⟨⟨m,H',AX (fun j=>(U j).mono (e0.trans e1)) i2 hd,a3.trans (e0.trans e1),fun id hf=>a4 id ?_,c3⟩,c9,by simp[put_defers,R.defers],by simp[Bh,R.size],R.next⟩,fun k hk=>a2 k hk.1⟩;grind
       have e2:∀b o',((b<w.heap.size/\Pr c m s.heap (aJ s.frz (((Z++cl.args.toList.map (ev s.tmps)++lc).flatMap (aN (cD y J ops base i o s.heap) depth)).map (fun id=>(id,aV (cD y J ops base i o s.heap) id)))) b o')\/w.heap.size<=b)->
        Pr c m s.heap (aJ s.frz (((Z++cl.args.toList.map (ev s.tmps)++lc).flatMap (aN (cD y J ops base i o s.heap) depth)).map (fun id=>(id,aV (cD y J ops base i o s.heap) id)))) b o':=by
        intro b o' N;rcases N with N|N
        grind
        .refine .inr ⟨zR Hz.base N,fun⟨id,esz,w1,_,_⟩=>?_⟩;have:=(Hz.below id _ w1).2;omega
       split at D
       .rename_i i4;simp at D;exact a9 [] (by simp) (hu.noRef 4 i4) D.symm
       simp only[zV]at D;exact a9 _ a7 (hu.mono ⟨(fun _ _ h=>nomatch h),fun b o' v T hc=>⟨e2 b o' T,hc⟩,fun r es k T hc=>⟨e2 r 0 T,hc⟩,fun b C t f N=>⟨C,N,rfl⟩⟩) D.symm
    grind
   have e3:=Tu H W g9 (fun _=>X) U (fun cl f h1 h2=>Y ⟨cl,f,h1,h2⟩) D;obtain⟨nxt,w',m',e4,e5,H',V,k0,O⟩:=e3;unfold Oper.wp;rw[e4]
   have fin:∀u,VR m' (Pr c m' (aJ s.heap r.hp) (aJ s.frz r.fz)) w' r.v u->K (a.put o.dst u) w':=by
    intro u hu;refine hK _ _ ⟨⟨⟨m',H',AX (fun j=>(U j).mono V) hu hd,a3.trans V,fun id hf=>?_,fun id I=>?_⟩,R.below.trans O,by simp[put_defers,R.defers],by simp[Bh,R.size],R.next⟩,fun k hk=>a2 k hk.1⟩;grind;grind
   rcases e5 with⟨u,rfl,hu⟩ |⟨rfl,hu⟩
   .exact fin u hu
   refine fin undef ?_;rw[hu];exact .tup [] #[] rfl (by simp)
  grind
end Go.F
