/- Part 23. -/
import Derived.Test.YtglbdppmnchoeaaGreatZ22
set_option linter.all false
namespace Go.F
universe u
section
variable {T:Tab}{sh:Shr}{nx0:Nat}{stk s:List Fr}{ex:Ex}{t:ai}{h:ab}{z:Frz}{nx:Nat}{q:Ex->ai->ab->Frz->Nat->Prop}
theorem go (n:Nat){a:List Fr}{b:Ex}{t':ai}{h':ab}{z':Frz}{c:Nat}(hr:bW nx0 n stk ex t h z nx=⟨a,b,t',h',z',c⟩)(d:wpM T sh nx0 a b t' h' z' c q):wpM T sh nx0 stk ex t h z nx q:=
 Kh n stk ex t h z nx q _ hr d
def canGo (stk:List Fr)(ex:Ex)(t:ai)(h:ab)(z:Frz):Bool:=
 match stk with
 |[]=>false
 |f::_=>
  match ex with
  |.ret=>true
  |.exit _=>true
  |.normal=>
   match f with
   |.blk _=>true
   |.code k=>
    match k with
    |.cond _ _ _=>false
    |.loop _ _=>false
    |_=>true
   |.ops base a l=>
    match l with
    |[]=>true
    |⟨i,_,guard,g,op⟩::_=>
     match guard with
     |some (d,_)=>
      match a.any (Nat.beq d)with
      |true=>true
      |false=>match t d with|.tup _=>true|_=>false
     |none=>
      match op with
      |.pick c _ _=>match c with|.t d=>a.any (Nat.beq d) |.c _=>false
      |op=>match dop op t (g.h base h) (g.z base z) h z (base+i)with|some _=>true|none=>false
theorem goP (n:Nat){a:List Fr}{b:Ex}{t':ai}{h':ab}{z':Frz}{c:Nat}(e:canGo stk ex t h z=true)(hr:bW nx0 n stk ex t h z nx=⟨a,b,t',h',z',c⟩)(d:wpM T sh nx0 a b t' h' z' c q):wpM T sh nx0 stk ex t h z nx q:=by
 exact Kh n stk ex t h z nx q _ hr d
theorem bo {ex:Ex}(a:q ex t h z nx):wpM T sh nx0 [] ex t h z nx q:=a
theorem bP {base i:Nat}{a:List Nat}{b:Option Nat}{g:Gd}{op:KOp}{rest:List KOper}
 (c:kop T sh op t (g.h base h) (g.z base z) h z nx (base+i) fun v h z nx=>wpM T sh nx0 (.ops base a rest::s) .normal (put t b v) h z nx q):
 wpM T sh nx0 (.ops base a (⟨i,b,none,g,op⟩::rest)::s) .normal t h z nx q:=by
 simp only[wpM,wpo]at c⊢;omega
theorem dY {α:Type}{f:Nat->α}{i:Nat}{v:α}(a:f i=v):upd f i v=f:=by
 grind[upd,Nat.eq_of_beq_eq_true]
theorem au {base i d:Nat}{c:List Nat}{e:Option Nat}{a:Bool}{g:Gd}{op:KOp}{rest:List KOper}{b:Bool}(f:t d=.bool b)
 (j:b=true->wpM T sh nx0 (.ops base (d::c) (⟨i,e,some (d,a),g,op⟩::rest)::s) .normal (upd t d (.bool true)) h z nx q)
 (k:b=false->wpM T sh nx0 (.ops base (d::c) (⟨i,e,some (d,a),g,op⟩::rest)::s) .normal (upd t d (.bool false)) h z nx q):
 wpM T sh nx0 (.ops base c (⟨i,e,some (d,a),g,op⟩::rest)::s) .normal t h z nx q:=by
 cases b with
 |true=>grind[dY,wpM]
 |false=>grind[dY,wpM]
theorem ap {base i d:Nat}{b:List Nat}{c:Option Nat}{a:Bool}{g:Gd}{op:KOp}{rest:List KOper}(e:t d=.bool true)
 (f:wpM T sh nx0 (.ops base (d::b) (⟨i,c,some (d,a),g,op⟩::rest)::s) .normal t h z nx q):
 wpM T sh nx0 (.ops base b (⟨i,c,some (d,a),g,op⟩::rest)::s) .normal t h z nx q:=by
 trivial
theorem aq {base i d:Nat}{b:List Nat}{c:Option Nat}{a:Bool}{g:Gd}{op:KOp}{rest:List KOper}(e:t d=.bool false)
 (f:wpM T sh nx0 (.ops base (d::b) (⟨i,c,some (d,a),g,op⟩::rest)::s) .normal t h z nx q):
 wpM T sh nx0 (.ops base b (⟨i,c,some (d,a),g,op⟩::rest)::s) .normal t h z nx q:=by
 trivial
theorem aL {base i:Nat}{d:List Nat}{e:Option Nat}{g:Gd}{c a b:X}{rest:List KOper}{x:Bool}(f:c.ev t=.bool x)
 (j:x=true->wpM T sh nx0 (.ops base d (⟨i,e,none,g,.mov a⟩::rest)::s) .normal t h z nx q)
 (k:x=false->wpM T sh nx0 (.ops base d (⟨i,e,none,g,.mov b⟩::rest)::s) .normal t h z nx q):
 wpM T sh nx0 (.ops base d (⟨i,e,none,g,.pick c a b⟩::rest)::s) .normal t h z nx q:=by
 cases x with
 |true=>have:=j rfl;simp only[wpM,wpo,kop,f]at this⊢;trivial
 |false=>have:=k rfl;simp only[wpM,wpo,kop,f]at this⊢;trivial
theorem an {c:X}{a b:K}{x:Bool}(f:c.ev t=.bool x)(d:x=true->wpM T sh nx0 (.code a::s) .normal t h z nx q)(e:x=false->wpM T sh nx0 (.code b::s) .normal t h z nx q):
 wpM T sh nx0 (.code (.cond c a b)::s) .normal t h z nx q:=by
 simp only[wpM,wp,f]at d e⊢
 cases x with
 |true=>exact d rfl
 |false=>exact e rfl
theorem ak {c:X}{a b:K}(e:c.ev t=.bool true)(d:wpM T sh nx0 (.code a::s) .normal t h z nx q):wpM T sh nx0 (.code (.cond c a b)::s) .normal t h z nx q:=by
 simp only[wpM,wp,e]at d⊢;exact d
theorem aj {c:X}{a b:K}(e:c.ev t=.bool false)(d:wpM T sh nx0 (.code b::s) .normal t h z nx q):wpM T sh nx0 (.code (.cond c a b)::s) .normal t h z nx q:=by
 simp only[wpM,wp,e]at d⊢;exact d
def ds0 (d:D):Option D:=
 match d with
 |.bool b=>some (.bool b)
 |.int i n=>some (.int i n)
 |.float i n=>some (.float i n)
 |.str s=>some (.str s)
 |.nilsl=>some (.lst [])
 |.lst l=>some (.lst l)
 |.mlst a b=>some (.mlst a b)
 |.fn f [] []=>some (.fn f [] [])
 |_=>none
def o8:List D->Option (List D)
 |[]=>some []
 |x::a=>
  match ds0 x with
  |some x=>f0 x fun x=>
   match o8 a with
   |some a=>fL0 a fun a=>some (x::a)
   |none=>none
  |none=>none
def ds1 (d:D):Option D:=
 match d with
 |.agg l=>
  match o8 l with
  |some l=>fL0 l fun l=>some (.agg l)
  |none=>none
 |d=>ds0 d
def mr:List D->Option (List D)
 |[]=>some []
 |x::a=>
  match ds1 x with
  |some x=>f1 x fun x=>
   match mr a with
   |some a=>fL1 a fun a=>some (x::a)
   |none=>none
  |none=>none
theorem KH {h:ab}{d b:D}{k:D->Prop}(a:ds0 d=some b)(c:k b):ws0 h d k:=by
 unfold ds0 at a;split at a<;>first|(cases a;exact c) |grind
theorem WF {h:ab}:∀{l a:List D} {k:List D->Prop},o8 l=some a->k a->lE h l k:=by
 intro l
 induction l with
 |nil=>intro a k b c;simp[o8]at b;subst b;exact c
 |cons x l d=>
  grind[o8,pT,ke,lE,KH]
theorem Qh {h:ab}{d e:D}{k:D->Prop}(b:ds1 d=some e)(g:k e):ws1 h d k:=by
 unfold ds1 at b;unfold ws1;split at b
 grind[ke,WF]
 .rename_i i;split
  grind
  .rename_i f a c
   match a,c,b with
   |[],[],b=>simp[ds0]at b;subst b;exact g
   |x::_,_,b=>trivial
   |[],x::_,b=>trivial
  grind[KH]
theorem Pz {h:ab}:∀{l a:List D} {k:List D->Prop},mr l=some a->k a->iA h l k:=by
 intro l
 induction l with
 |nil=>intro a k b c;simp[mr]at b;subst b;exact c
 |cons x l d=>
  grind[mr,sB,il,iA,Qh]
theorem Hx {h:ab}(n:Nat){d b:D}(a:ds0 d=some b):aN h n d=[]:=by
 unfold ds0 at a;split at a<;>first|(cases n<;>simp[aN];done) |grind
theorem XH {h:ab}(n:Nat):∀{l a:List D},o8 l=some a->l.flatMap (aN h n)=[]:=by
 intro l
 induction l with
 |nil=>simp
 |cons x l b=>
  grind[o8,pT,Hx]
theorem RA {h:ab}(n:Nat){d b:D}(a:ds1 d=some b):aN h n d=[]:=by
 unfold ds1 at a;split at a
 .split at a
  .cases n with
   |zero=>rfl
   |succ n=>grind[aN,XH]
  grind
 grind[Hx]
theorem Q6 {h:ab}(n:Nat):∀{l a:List D},mr l=some a->l.flatMap (aN h n)=[]:=by
 intro l
 induction l with
 |nil=>simp
 |cons x l b=>
  grind[mr,sB,RA]
theorem aB {base i:Nat}{a:List Nat}{b:Nat}{g:Gd}{f:FuncId}{args:List X}{rest:List KOper}{c:List D}{r:D}(e:T.shared f=false)
 (d:mr (args.map (·.ev t))=some c) (j:T.pu f c=some r)
 (k:wpM T sh nx0 (.ops base a rest::s) .normal (upd t b r) h z nx q):
 wpM T sh nx0 (.ops base a (⟨i,some b,none,g,.callF f args⟩::rest)::s) .normal t h z nx q:=by
 refine bP ?_;simp only[kop,eQ,e];refine Pz d ?_;unfold mf;refine⟨r,j,?_⟩;simp only[iu,Q6 depth d];cases noRef 4 r<;>exact k
def ky:Live->ai->ab->Frz->Nat->ai×ab×Frz
 |[],t,h,z,_=>(t,h,z)
 |x::rest,t,h,z,nx=>
  match x.2 with
  |0=>ky rest t h z nx
  |e+1=>
   match t x.1 with
   |.nilsl=>ky rest (upd t x.1 (.ref nx 0 0)) (upd h nx (some (.row [] (e+1)))) (upd z nx 0) (nx+1)
   |_=>ky rest t h z nx
def m9 (t:ai)(h:ab):Live->Option (List (List D))
 |[]=>some []
 |x::rest=>
  match bi (t x.1)with
  |none=>
   match plain 4 (t x.1)with
   |true=>m9 t h rest
   |false=>none
  |some id=>
   match h id with
   |some (.row es _)=>match m9 t h rest with|some l=>some (es::l) |none=>none
   |some (.mp _ vs)=>match m9 t h rest with|some l=>some (vs::l) |none=>none
   |none=>m9 t h rest
def mD (nx0:Nat)(ids:List (Option Nat))(t:ai):Live->List D
 |[]=>[]
 |x::rest=>f2 (bN nx0 ids (t x.1)) fun v=>fL1 (mD nx0 ids t rest) fun vs=>v::vs
def fBl {α:Sort u}(b:Option Blk)(k:Option Blk->α):α:=
 match b with
 |none=>k none
 |some (.row es n)=>k (some (.row es n))
 |some (.mp a vs)=>k (some (.mp a vs))
theorem NC {α:Sort u}(b:Option Blk)(k:Option Blk->α):fBl b k=k b:=by
 unfold fBl;grind
def nJ (nx0:Nat)(ids:List (Option Nat))(h:ab):List (Option Nat)->Nat->List (Option Blk)
 |[],_=>[]
 |o::rest,j=>fBl (pS nx0 ids none h o j) fun b=>b::nJ nx0 ids h rest (j+1)
def fN {α:Type}(n:Nat)(k:Nat->α):α:=
 match n with
 |0=>k 0
 |n+1=>k (n+1)
theorem fN_eq {α:Type}(n:Nat)(k:Nat->α):fN n k=k n:=by cases n<;>rfl
def fNs {β:Type}:List Nat->(List Nat->β)->β
 |[],k=>k []
 |x::a,k=>fN x fun x=>fNs a fun a=>k (x::a)
theorem KC {β:Type}(l:List Nat):∀(k:List Nat->β),fNs l k=k l:=by
 induction l with
 |nil=>intro k;rfl
 |cons x l a=>grind[fNs,fN_eq]
def fLi {α β:Type}:List α->(List α->β)->β
 |[],k=>k []
 |x::a,k=>fLi a fun a=>k (x::a)
theorem BK {α β:Type}(l:List α):∀(k:List α->β),fLi l k=k l:=by
 induction l with
 |nil=>intro k;rfl
 |cons x l a=>grind[fLi]
def setM (live:Live)(t:ai)(h:ab)(z:Frz)(nx:Nat):Option (List (List D)×Kept):=
 match ky live t h z nx with
 |(t,h,z)=>
  match m9 t h live with
  |some a=>fL1 (mD 0 (bh t live) t live) fun vs=>fLi (nJ 0 (bh t live) h (bh t live) 0) fun b=>fNs (oh 0 (bh t live) z (bh t live) 0) fun c=>some (a,vs,b,c)
  |none=>none
def vS:List (List D)->Prop
 |[]=>True
 |es::rest=>es.all (plain 4)=true/\vS rest
theorem BI:∀(live:Live) (t:ai) (h:ab) (z:Frz) (nx:Nat) (k:ai->ab->Frz->Nat->Prop),(∀a,k (ky live t h z nx).1 (ky live t h z nx).2.1 (ky live t h z nx).2.2 a)->iP live t h z nx k:=by
 intro live
 induction live with
 |nil=>intro t h z nx k b;exact b nx
 |cons x live c=>
  grind[ky,iP]
theorem IN {t:ai}{h:ab}{z:Frz}:∀{live:Live} {a:List (List D)} {k:ab->Frz->Prop},m9 t h live=some a->vS a->k h z->eZ live t h z k:=by
 intro live
 induction live with
 |nil=>intro a k _ _ b;exact b
 |cons x live g=>
  intro a k hr c b;simp only[m9]at hr;simp only[eZ];split
  grind
  .rename_i id d;simp only[d]at hr;split
   .rename_i es esz e;simp only[e]at hr;split at hr
    .rename_i l f;cases hr;unfold oC;exact .inl ⟨c.1,g f c.2 b⟩
    grind
   .rename_i i vs e;simp only[e]at hr;split at hr
    .rename_i l f;cases hr;exact dC c.1 (g f c.2 b)
    grind
   grind
theorem sW {nx0:Nat}{ids:List (Option Nat)}{t:ai}:∀(live:Live) (k:List D->Prop),pq nx0 ids t live k=k (mD nx0 ids t live):=by
 intro live
 induction live with
 |nil=>intro k;rfl
 |cons x live a=>grind[pq,mD,iu,il]
theorem tu {nx0:Nat}{ids:List (Option Nat)}{h:ab}:∀(l:List (Option Nat)) (j:Nat) (k:List (Option Blk)->Prop),AQ nx0 ids h l j k=k (nJ nx0 ids h l j):=by
 intro l
 induction l with
 |nil=>intro j k;rfl
 |cons o l a=>grind[AQ,nJ,fB_eq,NC]
theorem ah {live:Live}{a:List (List D)}{kp:Kept}{K:Kept->Prop}(c:setM live t h z nx=some (a,kp))(d:vS a)(e:K kp)(b:eV live=false:=by rfl):bz 0 live t h z nx fun _ _ kp=>K kp:=by
 grind[setM,il,BK,KC,bz,pG,BI,IN,sW,tu]
def mk0 {α:Type}(bot:α)(l:List α):Nat->α:=mkF 0 (fun _=>bot) bot l 0
theorem vN {α:Type}{a old':Nat->α}{bot:α}:∀(l:List α) (j:Nat),mkF 0 a bot l j=mkF 0 old' bot l j:=by
 intro l
 induction l with
 |nil=>
  intro j;rfl
 |cons x l b=>grind[mkF]
theorem QY:∀{live:Live} {t:ai} {h:ab} {z:Frz} {nx:Nat} {k:ai->ab->Frz->Nat->Prop},iP live t h z nx k->
 ∃t1 h1 d a,k t1 h1 d a/\∀b:ai->ab->Frz->Nat->Prop,b t1 h1 d a->iP live t h z nx b:=by
 intro live
 induction live with
 |nil=>intro t h z nx k c;exact⟨t,h,z,nx,c,fun b e=>e⟩
 |cons x live f=>
  intro t h z nx k c;simp only[iP]at c⊢;grind
theorem Uu:∀{live:Live} {t:ai} {h:ab} {z:Frz} {k:ab->Frz->Prop},eZ live t h z k->∃h1 d,k h1 d/\∀b:ab->Frz->Prop,b h1 d->eZ live t h z b:=by
 intro live
 induction live with
 |nil=>intro t h z k a;exact⟨h,z,a,fun b e=>e⟩
 |cons x live f=>
  intro t h z k a;simp only[eZ]at a⊢
  cases c:bi (t x.1)with
  |none=>
   grind
  |some id=>
   rw[c]at a;grind[oC,cJ]
theorem my {live:Live}{k:ab->Frz->Kept->Prop}(c:bz nx0 live t h z nx k):∃h1 a kp,k h1 a kp/\∀d:ab->Frz->Kept->Prop,d h1 a kp->bz nx0 live t h z nx d:=by
 have e:∀k,bz nx0 live t h z nx k=(match eV live with
  |true=>∃h1 a kp,k h1 a kp/\mO nx0 live ⟨t,h,z,nx⟩=some ⟨mkT live kp.1,mkF nx0 h1 none kp.2.1 nx0,mkF nx0 a 0 kp.2.2 nx0,nx0+live.length⟩
  |false=>pG nx0 live t h z nx k):=fun _=>rfl
 rw[e]at c;simp only[e];generalize eV live=b at*
 cases b with
 |true=>
  grind
 |false=>
 unfold pG at c⊢;obtain⟨t1,h1,a,f,g,i⟩:=QY c;grind[Uu,sW,tu]
theorem aw {α:Type}(S:α->Kept)(C:α->Prop)(m:α->Nat){live:Live}{c:K}
 (a:α) (f:C a) (l:m a<2^62) (h0:bz 0 live t h z nx fun _ _ kp=>kp=S a)
 (hr:∀a,C a->∀N:ai->ab->Frz->Nat->Prop,(∀e {t:ai} {h:ab} {z:Frz} {nx:Nat},C e->m e<m a->(bz 0 live t h z nx fun _ _ kp=>kp=S e)->N t h z nx)->
   wpM T sh 0 [.code c] .normal (mkT live (S a).1) (mk0 none (S a).2.1) (mk0 0 (S a).2.2) live.length fun ex t h z nx=>
    match ex with
    |.normal=>N t h z nx
    |.exit i=>wpM T sh 0 s (.exit i) t h z nx q
    |.ret=>wpM T sh 0 s .ret t h z nx q):
 wpM T sh 0 (.code (.loop live c)::s) .normal t h z nx q:=by
 simp only[wpM,wp]at hr⊢;unfold tA
 have key:∀(n:Nat) (a:α),C a->m a<=n->∀(b:Nat),n<b->∀(t:ai) (h:ab) (z:Frz) (nx:Nat),(bz 0 live t h z nx fun _ _ kp=>kp=S a)->
  jZ 0 live (fun t h z nx q=>wp T sh 0 c t h z nx q) b t h z nx fun ex t h z nx=>wpM T sh 0 s ex t h z nx q:=by
  intro n
  induction n with
  |zero=>
   intro a f l b p t h z nx d;obtain⟨b,rfl⟩:∃k,b=k+1:=⟨b-1,by omega⟩;simp only[jZ];obtain⟨h1,o,kp,r,u⟩:=my d;have g:=hr a f (fun t h z nx=>jZ 0 live (fun t h z nx q=>wp T sh 0 c t h z nx q) b t h z nx fun ex t h z nx=>wpM T sh 0 s ex t h z nx q) (fun e _ _ _ _ _ j _=>absurd j (by omega));unfold mk0 at g;rw[vN (old':=iX live 0 h1),vN (old':=o) (bot:=(0:Nat))]at g;grind
  |succ n v=>
   intro a f l b p t h z nx d;obtain⟨b,rfl⟩:∃k,b=k+1:=⟨b-1,by omega⟩;simp only[jZ];obtain⟨h1,o,kp,r,u⟩:=my d
   have g:=hr a f (fun t h z nx=>jZ 0 live (fun t h z nx q=>wp T sh 0 c t h z nx q) b t h z nx fun ex t h z nx=>wpM T sh 0 s ex t h z nx q)
    (fun e t h z nx h1 j d=>v e h1 (by omega) b (by omega) t h z nx d)
   unfold mk0 at g;rw[vN (old':=iX live 0 h1),vN (old':=o) (bot:=(0:Nat))]at g;grind
 exact key (m a) a f (zD _) jA l t h z nx h0
end
section
variable {T:Tab}{sh:Shr}{nx0:Nat}{s:List Fr}{t:ai}{h:ab}{z:Frz}{nx:Nat}{q:Ex->ai->ab->Frz->Nat->Prop}
theorem gg {b:List Fr}{e:Ex}{a:List Fr}{c:Ex}{t':ai}{h':ab}{z':Frz}{d:Nat}(hr:bW nx0 800 b e t h z nx=⟨a,c,t',h',z',d⟩)(f:wpM T sh nx0 a c t' h' z' d q):wpM T sh nx0 b e t h z nx q:=go 800 hr f
end
end Go.F
