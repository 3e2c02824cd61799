/- Part 26. -/
import Derived.Test.YtglbdppmnchoeaaGreatZ40
import Derived.Test.YtglbdppmnchoeaaGreatZ25
set_option linter.all false
namespace Go.F
section
variable {P:Program}{T:Tab}{sh:Shr}{E:Nat->Env}{t:ai}{gh h:ab}{gz z:Frz}{nx id:Nat}{c:D->ab->Frz->Nat->Prop}{vt:List Nat}
theorem bU {x:Operand}{y:X}(a:cx x=some y):ev t x=y.ev t:=by
 cases x<;>simp only[cx,zV,reduceCtorEq]at a<;>(subst a;rfl)
theorem nX:∀{l:List Operand} {ys:List X},cxs l=some ys->l.map (ev t)=ys.map (·.ev t):=by
 intro l
 induction l with
 |nil=>simp[cxs]
 |cons x l d=>
  intro ys a;simp[cxs]at a
  cases b:cx x with
  |none=>grind
  |some y=>
   cases c:l.mapM cx with
   |none=>grind
   |some e=>
    simp[b,c]at a;subst a;simp[bU b,d (ys:=e) c]
theorem nF {α:Type}:∀{l:List α} {i:Nat} {k:α->Prop},ka l i k->∃x,l[i]?=some x/\k x:=by
 intro l
 induction l with
 |nil=>intro i k h;trivial
 |cons y l a=>
  intro i k h
  cases i with
  |zero=>exact⟨y,by simp,h⟩
  |succ i=>obtain⟨x,h1,b⟩:=a h;grind
theorem l8 {α:Type}{o:Option α}{k:α->Prop}(h:wo o k):∃x,o=some x/\k x:=by
 cases o with
 |none=>trivial
 |some x=>exact⟨x,rfl,h⟩
theorem dM {p x:Prop}(h:cJ p x):p/\x:=by grind[cJ]
theorem Gr {n:Int}{k:Nat->Prop}(h:wnat n k):∃i:Nat,n=i/\k i:=by
 cases n with
 |ofNat i=>exact⟨i,rfl,h⟩
 |negSucc i=>trivial
theorem lV {d:D}{k:Nat->Prop}(h:jY d k):∃i:Nat,jJ d=some i/\k i:=by
 cases d with
 |int a n=>
  obtain⟨i,h1,b⟩:=Gr h;grind[jJ]
 |_=>exact h.elim
theorem AU {n:Nat}{es:List D}{k:List D->Prop}(h:wall n es k):es.all (fun d=>d.cells.length==n)=true/\k es:=by grind[wall]
theorem CX {n:Nat}{x:D}{k:List D->Prop}(a:mh n gh x k):∃l,window gh x=some l/\l.all (fun d=>d.cells.length==n)=true/\k l:=by
 cases x with
 |nilsl=>exact⟨[],rfl,rfl,a⟩
 |lst l=>obtain⟨h1,b⟩:=AU a;exact⟨l,rfl,h1,b⟩
 |ref i off len=>
  grind[mh,r9,window]
 |_=>exact a.elim
theorem nj {lo:Option Operand}{x:Option X}{b:Nat}{k:Nat->Prop}(c:cxo lo=some x)(d:jT t x b k):∃a,bound (dT t lo) b=some a/\k a:=by
 cases lo with
 |none=>simp[cxo]at c;subst c;exact⟨b,rfl,d⟩
 |some o=>
  simp only[cxo]at c
  cases e:cx o with
  |none=>grind
  |some y=>
   simp[e]at c;subst c;obtain⟨i,h1,f⟩:=lV d;grind[dT,bound,bU]
theorem PW:∀{a:List FK} {c ys:List D} {b:Bool},nQ a c ys=some b->a.length=c.length/\a.length=ys.length:=by
 intro a
 induction a with
 |nil=>
  grind[nQ]
 |cons k a e=>
  intro c ys b d
  match c,ys,d with
  |[],_,d=>trivial
  |_::_,[],d=>trivial
  |x::c,y::ys,d=>
   grind[nQ]
theorem Pk:∀{e:List Field} {c ys:List D} {b:Bool},(∀f∈e,P.underlying f.type=some .bool\/(∃k,P.underlying f.type=some (.int k))\/P.underlying f.type=some .string)->
 nQ (e.map (pF P)) c ys=some b->dh P e c ys=some b:=by
 intro e
 induction e with
 |nil=>
  intro c ys b _ a
  match c,ys,a with
  |[],[],a=>trivial
  |[],_::_,a=>trivial
  |_::_,_,a=>trivial
 |cons f e j=>
  intro c ys b d a
  match c,ys,a with
  |[],_,a=>trivial
  |_::_,[],a=>trivial
  |x::c,y::ys,a=>
   simp[nQ]at a;split at a
   .rename_i h r h1 i;obtain⟨l1,l2⟩:=PW i
    have key:ie P f x=true/\ie P f y=true/\iq x y=some h:=by
     rcases d f (zO ..)with g|⟨k,g⟩ |g
     .simp only[pF,g]at h1;cases x<;>cases y<;>first|(simp only[n8,reduceCtorEq]at h1;done) |grind[n8,ie,iq]
     .simp only[pF,g]at h1;cases x<;>cases y<;>first|(simp only[n8,reduceCtorEq]at h1;done) |skip
      grind[n8,ie,iq,eqb]
     simp only[pF,g]at h1;cases x<;>cases y<;>first|(simp only[n8,reduceCtorEq]at h1;done) |grind[n8,ie,iq]
    simp[dh];grind
   grind
theorem EH {ty:TypeId}{x y:D}{b:Bool}(e:lf (eqk P ty) x y=some b):equal P ty x y=some b:=by
 unfold lf at e;split at e
 grind[eqk,equal]
 .rename_i o q ys r
  have h:∃a,mG P ty=some a/\o=a.map (pF P):=by
   grind[eqk]
  obtain⟨a,c,rfl⟩:=h;simp only[equal,c];refine Pk ?_ e
  have one:∀{f:Field} {i:Nat},lb P f i=true->P.underlying f.type=some .bool\/(∃k,P.underlying f.type=some (.int k))\/P.underlying f.type=some .string:=by
   intro f i j;simp[lb]at j;grind
  have l:∀{t:TypeId} {a:List Field},uL P t=some a->∀f∈a,P.underlying f.type=some .bool\/(∃k,P.underlying f.type=some (.int k))\/P.underlying f.type=some .string:=by
   intro t a c f h;obtain⟨p,s,rfl,d,_⟩:=Ao c;obtain⟨i,hi,rfl⟩:=ze.1 h
   exact one (zM.1 d (p.toList[i],i) (by
    grind))
  have m:∀{Q:TypeId->Option (List Field)},(∀{t:TypeId} {a:List Field},Q t=some a->∀f∈a,P.underlying f.type=some .bool\/(∃k,P.underlying f.type=some (.int k))\/P.underlying f.type=some .string)->∀(a:List Field) (i:Nat) (n:List Field),gZ P Q a i=some n->∀f∈n,P.underlying f.type=some .bool\/(∃k,P.underlying f.type=some (.int k))\/P.underlying f.type=some .string:=by
   intro Q u a
   induction a with
   |nil=>simp[gZ]
   |cons g a v=>
    grind[gZ]
  grind[jq,Ar]
 grind[eqk];grind[eqk];grind
theorem Sv {op:BinOp}{k:IntKind}{a b:Int}{c:D->Prop}(f:jS op=false)(e:re op k a b c):∃d,arith op k a b=some d/\c d:=by
 cases op<;>simp only[jS,reduceCtorEq]at f<;>simp only[re]at e
 case quo=>obtain⟨h1,g⟩:=dM e;simp_all[arith]
 case rem=>obtain⟨h1,g⟩:=dM e;simp_all[arith]
 case eql=>exact⟨_,rfl,by grind[eqb]⟩
 case neq=>exact⟨_,rfl,by grind[nqb]⟩
 case lss=>exact⟨_,rfl,by grind[ltb]⟩
 case leq=>exact⟨_,rfl,by grind[leb]⟩
 case gtr=>exact⟨_,rfl,by grind[ltb]⟩
 case geq=>exact⟨_,rfl,by grind[leb]⟩
 all_goals exact⟨_,rfl,e⟩
theorem Yj {op:BinOp}{k:IntKind}{a b:Int}{c:D->Prop}(f:jS op=true)(e:re op k a b c):∃d,shift op k a b=some d/\c d:=by
 cases op<;>simp only[jS,reduceCtorEq]at f<;>simp only[re]at e
 .obtain⟨h1,g⟩:=dM e;simp_all[shift]
 obtain⟨h1,g⟩:=dM e;simp_all[shift]
theorem Y3 {op:BinOp}{ty:TypeId}{x y:D}{c:D->Prop}(a:kr op (match op with|.eql=>eqk P ty|.neq=>eqk P ty|_=> .no) x y c):∃d,bin P op ty x y=some d/\c d:=by
 unfold kr at a;unfold bin;split at a
 .split at a
  .cases f:jS op with
   |true=>simp_all[Yj]
   |false=>
    simp_all[Sv]
  grind
 simp_all[l8]
 .split at a
  .obtain⟨b,h3,e⟩:=l8 a;grind[EH]
  .obtain⟨b,h3,e⟩:=l8 a;grind[EH]
  grind
theorem Sw {t:ai}{op:BinOp}{ty:TypeId}{x y:Operand}{c:D->Prop}(a:kr op (match op with|.eql=>eqky (eqk P) P ty y|.neq=>eqky (eqk P) P ty y|_=> .no) (ev t x) (ev t y) c):∃d,binX P t op ty x y=some d/\c d:=by
 unfold eqky at a;unfold binX
 cases e:ri y&&isSlice P ty with
 |false=>
  simp[e]at a⊢
  cases f:qH y&&isMap P ty with
  |false=>
   simp_all[Y3]
  |true=>
   have h:ev t y=.opq (.map none):=by
    rw[zJ]at f;have h1:=f.1;unfold qH at h1;split at h1
    .rfl
    grind
   simp only[f]at a⊢;unfold kr at a;split at a
   grind;grind
   .cases op<;>simp only at a<;>try exact a.elim
    all_goals
     obtain⟨b,h3,i⟩:=l8 a;simp only[lf]at h3;exact⟨_,by rw[h3];rfl,i⟩
 |true=>
  have h:ev t y=.nilsl:=by
   rw[zJ]at e;have h1:=e.1;unfold ri at h1;split at h1
   .rfl
   grind
  simp[e]at a⊢;unfold kr at a;split at a
  grind;grind
  .cases op<;>simp only at a<;>try exact a.elim
   all_goals
    simp only[lf]at a
    cases g:pk (ev t x)with
    |true=>rw[g]at a;exact⟨_,rfl,a⟩
    |false=>rw[g]at a;exact a.elim
theorem Qu {op:UnOp}{x:D}{c:D->Prop}(a:kun op x c):∃d,un op x=some d/\c d:=by
 unfold kun at a;split at a
 .exact⟨_,rfl,a⟩
 .exact⟨_,rfl,a⟩
 simp_all[l8]
theorem TC {a b:TypeId}{x:D}{c:D->Prop}(e:me gh (cvk P a b) x c):∃d,conv P gh a b x=some d/\c d:=by
 unfold cvk at e;split at e
 .simp only[me]at e;split at e
  simp_all[conv]
  .obtain⟨n,h1,f⟩:=l8 e;obtain⟨h3,g⟩:=dM f;simp_all[conv]
  grind
 .simp only[me]at e;simp_all[conv];grind
 .split at e
  .simp only[me]at e;split at e
   simp_all[conv]
   .obtain⟨l,h1,f,h3⟩:=CX e;obtain⟨h,g,i⟩:=l8 h3;simp_all[conv]
  simp only[me]at e;simp_all[conv];grind
 .simp only[me]at e;simp_all[conv];grind
 trivial
theorem QT {ag:Bool}{n:Nat}{e:D}{o:Nat}{c:D->Prop}(a:ot ag n e o c):∃d,(match ag with|true=>(if o+n<=e.cells.length then some (.agg ((e.cells.drop o).take n))else none) |false=>e.cells[o]?)=some d/\c d:=by
 unfold ot at a;rw[jy]at a
 cases ag with
 |true=>
  simp at a⊢;split at a
  simp_all;grind
 |false=>exact nF a
theorem FP {ty:TypeId}{a:D}{ag:Bool}{n:Nat}{c:D->Prop}(h1:isAgg P ty=some ag)(g:sizeOf P ty=some n)(b:oH gh ag n a c):∃d,load P gh ty a=some d/\c d:=by
 unfold oH at b
 have fin:∀{cs:List D} {o:Nat} {e:D},jt gh a=some (e.cells,o)->ot ag n e o c->∃d,load P gh ty a=some d/\c d:=by
  grind[QT,load]
 split at b
 .split at b
  .obtain⟨e,h3,f⟩:=nF b;exact fin (cs:=e.cells) (by grind[jt]) f
  grind
 .exact fin (cs:=[]) rfl b
 grind
theorem TV {e:D}{o:Nat}{vs:List D}{c:D->Prop}(a:th e o vs c):∃e',setCells e o vs=some e'/\c e':=by
 unfold th at a;unfold setCells;split at a
 .split at a
  simp_all[ke];grind
 grind
theorem Vb:∀{es:List D} {i:Nat} {f:D->(D->Prop)->Prop} {c:List D->Prop},kset es i f c->∃e,es[i]?=some e/\f e (fun y=>c (es.set i y)):=by
 intro es
 induction es with
 |nil=>intro i f c h;trivial
 |cons x es a=>
  intro i f c h
  cases i with
  |zero=>exact⟨x,by simp,h⟩
  |succ i=>obtain⟨e,h1,b⟩:=a h;simp_all
theorem Rt {ty:TypeId}{a v:D}{n:Nat}{c:ab->Prop}(j:sizeOf P ty=some n)(b:qu gh gz h n a v c):∃r,store P gh gz ty a v=some r/\r.v=.tup []/\r.fz=[]/\c (aJ h r.hp):=by
 unfold qu at b;split at b
 .rename_i id i o;split at b
  .split at b
   .rename_i es esz d;obtain⟨k,b⟩:=dM b;obtain⟨e,l,f⟩:=Vb b;rw[jy]at f;obtain⟨e',m,g⟩:=TV f;refine⟨⟨.tup [],[(id,some (.row (es.set i e') esz))],[]⟩,?_,rfl,rfl,g⟩;simp_all[store]
   grind
  grind
 grind
theorem J5 {place:Nat->Option (Nat×Nat)}:∀{parts:List (Nat×Operand)} {ps:List (Nat×Nat×X)} {a:List D} {c:List D->Prop},mP place parts=some ps->p6 t a ps c->∃l,iN t place a parts=some l/\c l:=by
 intro parts
 induction parts with
 |nil=>intro ps a c b d;simp[mP]at b;subst b;exact⟨a,rfl,d⟩
 |cons p parts e=>
  intro ps a c b d;simp only[mP]at b;split at b
  .cases b;simp only[p6]at d;split at d
   simp_all[ke,iN,bU];grind
  grind
theorem Po {size:Nat}:∀{parts:List (Nat×Operand)} {ps:List (Nat×X)} {es:List D} {c:List D->Prop},sc parts=some ps->pL t size es ps c->∃l,iZ t size es parts=some l/\c l:=by
 intro parts
 induction parts with
 |nil=>intro ps a c b d;simp[sc]at b;subst b;exact⟨a,rfl,d⟩
 |cons p parts e=>
  intro ps es c b d;simp only[sc]at b;split at b
  .cases b;simp only[pL]at d;split at d
   simp_all[il,iZ,bU];grind
  grind
theorem Lj {f:Bool}:∀{l:List D} {x:D} {c:D->Prop},kmm f x l c->∃d,l.foldlM (mm2 f) x=some d/\c d:=by
 intro l
 induction l with
 |nil=>intro x c e;exact⟨x,rfl,e⟩
 |cons y l g=>
  intro x c e;simp only[kmm]at e;unfold kmm2 at e;split at e
  .rename_i k a h b;split at e
   .split at e
    .have:(if b>a then b else a)=max a b:=by omega
     simp_all[mm2]
    have:(if b<a then b else a)=min a b:=by omega
    simp_all[mm2]
   grind
  grind
theorem vY {e:TypeId}{l:El}(a:elk P e=some l):sizeOf P e=some l.n/\bytesOf P e=some l.b/\zeroOf P e=some l.d/\0<l.n/\l.d.sto=true/\l.d.cells.length=l.n:=by
 grind[elk]
theorem Eg {e:TypeId}{l:El}{b:D}{new:List D}{c:D->ab->Frz->Prop}(g:elk P e=some l)(i:new.all (fun d=>d.cells.length==l.n)=true)(a:kA gh gz h z id l b new c):
 ∃r,jH P gh gz id e b new=some r/\c r.v (aJ h r.hp) (aJ z r.fz):=by
 obtain⟨j,k,m,o,p,q⟩:=vY g;unfold jH;simp only[j,k,m];rw[if_pos ⟨o,p,q,i⟩];unfold kA at a;split at a
 .obtain⟨h1,f⟩:=dM a;exact⟨_,by rw[if_pos h1],f⟩
 .split at a
  .split at a
   .obtain⟨⟨h1,f,h3⟩,s⟩:=dM a;simp_all[aJ]
   grind
  grind
 grind
theorem Q1 {ty e:TypeId}{n:Nat}{x:D}{lo hi i:Option Operand}{l o p:Option X}{c:D->Prop}(L:P.underlying ty=some (.slice e))(M:sizeOf P e=some n)(h1:cxo lo=some l)(G:cxo hi=some o)(h3:cxo i=some p)
 (f:p3 t gh n x l o p c):∃d,ll P gh ty x (dT t lo) (dT t hi) (dT t i)=some (out d)/\c d:=by
 unfold p3 at f;split at f
 .have u:dT t i=none:=by
   cases i with
   |none=>rfl
   |some m=>
    simp_all[cxo]
  rw[u];unfold ll;rw[L];split at f
  grind[nj,dM]
  .obtain⟨q,f⟩:=AU f;obtain⟨a,v,f⟩:=nj h1 f;obtain⟨b,w,f⟩:=nj G f;obtain⟨r,f⟩:=dM f;grind
  .split at f
   .rename_i es esz y;split at f
    .rename_i z;have N:=zl z;subst N;obtain⟨a,v,f⟩:=nj h1 f;obtain⟨b,w,f⟩:=nj G f;obtain⟨r,f⟩:=dM f;simp only[y,M,v,w];rw[if_pos r];by_cases A:a=0
     .subst A;exact⟨_,by simp,f⟩
     have h0:Nat.beq a 0=false:=by cases a with|zero=>omega|succ a=>rfl
     simp only[wb]at f;by_cases H:a=b
     grind[Nat.beq_refl]
     .have T:Nat.beq a b=false:=by
       grind[Nat.eq_of_beq_eq_true]
      grind
    grind
   grind
  grind
 rename_i m;split at f
 grind
 .rename_i s
  obtain⟨j,O,Q⟩:∃j,i=some j/\cx j=some m:=by
   cases i with
   |none=>grind[cxo]
   |some j=>
    simp_all[cxo]
  obtain⟨h,I,J⟩:∃h,hi=some h/\cx h=some s:=by
   cases hi with
   |none=>grind[cxo]
   |some j=>
    simp_all[cxo]
  obtain⟨a,v,B⟩:=nj h1 f;obtain⟨b,w,C⟩:=lV B;obtain⟨k,R,E⟩:=lV C;obtain⟨⟨U,V,W⟩,g⟩:=dM E
  have S:∀d,bound (dT t (some h)) d=some 0:=by
   grind[dT,bound,bU]
  have K:nk (dT t (some h)) (ev t j)=true:=by
   grind[dT,nk,bU]
  unfold ll;split at g
  .exact⟨.nilsl,by simp_all[dT],g⟩
  .obtain⟨q,F⟩:=AU g;exact⟨.nilsl,by simp_all[dT],F⟩
  .split at g
   .split at g
    .exact⟨.nilsl,by simp_all[dT],g⟩
    grind
   grind
  grind
end
end Go.F
