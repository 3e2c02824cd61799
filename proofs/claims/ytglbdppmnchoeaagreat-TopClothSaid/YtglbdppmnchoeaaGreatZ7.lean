/- Part 7. -/
import Derived.Test.YtglbdppmnchoeaaGreatZ6
import Derived.Orders
namespace Go.F
variable {P:Program}{E:Env}{draw:Bool}{sp:Sp}{ops:Array Oper}{base:Nat}
def fK (P:Program)(E:Env)(draw:Bool)(sp:Sp)(ops:Array Oper)(base:Nat):List Nat->St->Option St
 |[],s=>some s
 |i::r,s=>
  match ops[i]? with
  |none=>fK P E draw sp ops base r s
  |some o=>
   match one P E draw sp ops o i base s with
   |some s'=>fK P E draw sp ops base r s'
   |none=>none
theorem RN (l:List Oper)(k:Nat)(s:St)(h:∀j,j<l.length->ops[k+j]?=l[j]?):
 gG P E draw sp ops base l k s=fK P E draw sp ops base (List.range' k l.length) s:=by
 induction l generalizing k s with
 |nil=>rfl
 |cons o l a=>
  have h0:=h 0 (by simp);simp at h0;simp[gG,xb,fK,h0]
  cases one P E draw sp ops o k base s with
  |none=>rfl
  |some s'=>
   refine a (k+1) s' fun j b=>?_;have:=h (j+1) (by grind);grind
theorem Yp (s:St):gG P E draw sp ops base ops.toList 0 s=fK P E draw sp ops base (List.range ops.size) s:=by
 simp[RN,xI]
theorem Wv {i:Nat}{o:Oper}(p:ops[i]?=some o)(b:List Nat):∀(a:List Nat) (s s':St),
 (∀j∈a,j≠i/\∀c,ops[j]?=some c->tD E.shared sp ops j c i o=true)->
 fK P E true sp ops base (a++i::b) s=some s'->fK P E true sp ops base (i::(a++b)) s=some s':=by
 intro a
 induction a with
 |nil=>simp
 |cons j a e=>
  intro s s' d h;obtain⟨f,g⟩:=d j (zO ..);simp[fK]at h
  cases l:ops[j]? with
  |none=>
   grind[fK]
  |some c=>
   simp only[l]at h
   cases h1:one P E true sp ops c j base s with
   |none=>grind
   |some m=>
    simp only[h1]at h;have:=e m s' (fun k n=>d k (zG _ n)) h;simp[fK]at this;grind[swap,fK]
def mw (a:Array Nat)(o:Oper):Nat:=o.after.foldl (fun s e=>if Region.binds .any e then s|||2^e.on|||a.getD e.on 0 else s) 0
theorem fold_size (l:List Oper)(a:Array Nat):(l.foldl (fun a o=>a.push (mw a o)) a).size=a.size+l.length:=by
 induction l generalizing a with
 |nil=>simp
 |cons o l b=>grind
theorem O4 (l:List Oper)(a:Array Nat)(k:Nat)(h:k<a.size):(l.foldl (fun a o=>a.push (mw a o)) a).getD k 0=a.getD k 0:=by
 induction l generalizing a with
 |nil=>rfl
 |cons o l b=>
  simp only[vT];rw[b _ (by grind)];simp;grind
theorem U8 (l:List Oper)(a:Array Nat)(i:Nat)(o:Oper)(h:l[i]?=some o):
 (l.foldl (fun a o=>a.push (mw a o)) a).getD (a.size+i) 0=mw ((l.take i).foldl (fun a o=>a.push (mw a o)) a) o:=by
 induction l generalizing a i with
 |nil=>grind
 |cons x l b=>
  cases i with
  |zero=>
   simp at h;subst h;simp only[vT];rw[O4 _ _ _ (by simp)];simp
  |succ i=>
   grind
theorem Nr:Region.before ops=ops.toList.foldl (fun a o=>a.push (mw a o)) #[]:=by
 unfold Region.before;rw[<-xp];rfl
theorem Ul (es:List Edge)(a:Array Nat)(s j:Nat)(h:(es.foldl (fun s e=>if Region.binds .any e then s|||2^e.on|||a.getD e.on 0 else s) s).testBit j=true):
 s.testBit j=true\/∃e∈es,Region.binds .any e=true/\(e.on=j\/(a.getD e.on 0).testBit j=true):=by
 induction es generalizing s with
 |nil=>grind
 |cons e es b=>
  grind
theorem Pi {i j:Nat}{o:Oper}(d:ops[i]?=some o)(a:∀e∈o.after,Region.binds .any e=true->e.on<i)(h:((Region.before ops).getD i 0).testBit j=true):
 ∃e∈o.after,Region.binds .any e=true/\(e.on=j\/((Region.before ops).getD e.on 0).testBit j=true):=by
 have c:ops.toList[i]?=some o:=by grind
 have b:=U8 ops.toList #[] i o c;rw[<-Nr]at b;simp only[xV,yf,zC]at b;rw[b]at h;unfold mw at h;rw[<-xp]at h;rcases Ul _ _ _ _ h with h1|⟨e,f,g,h1⟩
 grind;grind[mw,fold_size,O4,List.take_append_drop,Nr]
theorem A8 (h:nU E.shared sp ops=true){i:Nat}{o:Oper}(c:ops[i]?=some o):
 (∀e∈o.after,Region.binds .any e=true->e.on<i)/\
 ∀j b,ops[j]?=some b->j<i->((Region.before ops).getD i 0).testBit j=true\/tD E.shared sp ops j b i o=true:=by
 unfold nU at h;rw[zM]at h
 have a:∀{k:Nat} {x:Oper},ops[k]?=some x->(x,k)∈ops.toList.zipIdx:=by
  grind
 have hi:=h (o,i) (a c);simp only[zJ]at hi;obtain⟨h1,f⟩:=hi;constructor
 .intro e d g;have:=xJ.1 h1 e d;simp_all
 grind[Nat.blt,Nat.ble_eq_true_of_le]
def rem (ops:Array Oper)(a:Array Bool):List Nat:=(List.range ops.size).filter fun i=>!a.getD i true
def Down (ops:Array Oper)(a:Array Bool):Prop:=
 ∀i o,ops[i]?=some o->a.getD i true=true->∀e∈o.after,Region.binds .any e=true->a.getD e.on false=true
theorem Pn (b:nU E.shared sp ops=true){a:Array Bool}(m:Down ops a)(n:a.size=ops.size):∀(i:Nat) (o:Oper) (j:Nat),ops[i]?=some o->
 (∀e∈o.after,Region.binds .any e=true->a.getD e.on false=true)->((Region.before ops).getD i 0).testBit j=true->a.getD j false=true:=by
 intro i
 induction i using Nat.strongRecOn with
 |_ i p=>
  intro o j f q r;obtain⟨e,l,c,h1⟩:=Pi f (A8 b f).1 r;have s:=q e l c;rcases h1 with rfl|h1
  omega
  .have g:=(A8 b f).1 e l c;have hi:i<ops.size:=(zS.1 f).1;have d:ops[e.on]?=some (ops[e.on]'(by omega)):=yC (by omega);refine p e.on g _ j d (fun e' h k=>m e.on _ d ?_ e' h k) h1;grind
theorem V3 (p:Nat->Bool)(i:Nat):∀(l:List Nat),l.Nodup->i∈l->p i=true->
 ∃b a,l.filter p=b++i::a/\l.filter (fun k=>p k&&!(k==i))=b++a/\∀j∈b,j∈l/\p j=true/\j≠i:=by
 intro l
 induction l with
 |nil=>simp
 |cons x l g=>
  intro c h m;rw[wJ]at c;obtain⟨d,c⟩:=c;by_cases e:x=i
  .subst e;refine⟨[],l.filter p,by grind,?_,by simp⟩;rw[List.filter_cons_of_neg (by simp)];refine List.filter_congr fun k f=>?_;have:k≠x:=fun e=>d (e▸f);grind
  grind
theorem QV (p:Nat->Bool)(i n:Nat){a b:List Nat}(h:(List.range n).filter p=a++i::b):∀j∈a,j<i:=by
 have c:((List.range n).filter p).Pairwise (· <·):=List.Pairwise.filter _ xx;grind
theorem UK {Q:Exit->Act->World->Prop}(I:(Nat->Prop)->St->Act->World->Prop)(G:nU E.shared sp ops=true)
 (p:∀i o s x a w (c:Nat->Prop) (K:Act->World->Prop),ops[i]?=some o->c i->one P E true sp ops o i base s=some x->I c s a w->
   (∀F w',I (fun k=>c k/\k≠i) x F w'->K F w')->wpOp P ops Q i K a w)
 {s':St} (Z:∀c a w,I c s' a w->Q .normal a w):
 ∀(d:Nat) (b:Array Bool) (s:St) (a:Act) (w:World) (c:Nat->Prop),(rem ops b).length=d->b.size=ops.size->Down ops b->
  (∀k,k∈rem ops b->c k)->
  fK P E true sp ops base (rem ops b) s=some s'->I c s a w->wpAny P .any ops Q d b a w:=by
 intro d
 induction d with
 |zero=>
  intro b s a w c U H V y hr J;have m:rem ops b=[]:=vY.1 U;rw[m]at hr;simp[fK]at hr;subst hr;refine⟨?_,Z c a w J⟩;unfold Region.ready;simp_all[rem]
 |succ d ih=>
  intro b s a w c U H V y hr J;refine⟨fun m=>?_,fun i hi=>?_⟩
  .
   cases n:rem ops b with
   |nil=>grind
   |cons i rest=>
    have z:i∈rem ops b:=by grind
    have A:=xE.1 z;have q:i<ops.size:=yN.1 A.1;have r:ops[i]?=some ops[i]:=yC q
    have:i∈Region.ready .any ops b:=by
     unfold Region.ready;rw[xE];refine⟨A.1,?_⟩;rw[zJ];refine⟨A.2,?_⟩;rw[r];simp only[xR,wC];rw[xJ];intro e L;by_cases M:Region.binds .any e=true
     .have N:=(A8 G r).1 e L M
      have B:e.on∉rem ops b:=by
       have hs:(rem ops b).Pairwise (· <·):=List.Pairwise.filter _ xx;grind[List.pairwise_cons]
      have W:b.getD e.on true=true:=by
       cases hx:b.getD e.on true with
       |true=>rfl
       |false=>exact absurd (xE.2 ⟨yN.2 (by omega),by grind⟩) B
      grind
     grind
    grind
  have A:=xE.1 hi;obtain⟨f,X⟩:=A;have q:i<ops.size:=yN.1 f;have r:ops[i]?=some ops[i]:=yC q;rw[zJ]at X;obtain⟨O,g⟩:=X;rw[r]at g;simp only[xR,wC]at g;rw[xJ]at g
  have R:∀e∈ops[i].after,Region.binds .any e=true->b.getD e.on false=true:=by
   grind
  obtain⟨t,h,h1,h2,h3⟩:=V3 (fun i=>!b.getD i true) i (List.range ops.size) List.nodup_range f O;have N:=QV _ i ops.size h1;have n:rem ops b=t++i::h:=h1;rw[n]at hr;have l:=Wv (P:=P) r h t s s' (fun j hj=>⟨(h3 j hj).2.2,fun oj a2=>?_⟩) hr
  .have C:∀k,(b.setIfInBounds i true).getD k true=(b.getD k true||(k==i)):=by
    intro k;by_cases Y:k=i
    simp_all
    .simp;grind
   have u:∀k,b.getD k false=true->(b.setIfInBounds i true).getD k false=true:=by
    grind
   have S:rem ops (b.setIfInBounds i true)=t++h:=by
    grind[rem]
   simp only[fK,r]at l
   cases D:one P E true sp ops ops[i] i base s with
   |none=>grind
   |some x=>
    refine p i ops[i] s x a w c _ r (y i (by grind)) D J fun F w' T=>?_;refine ih _ x F w' _ ?_ (by grind) ?_ ?_ (by grind) T;grind
    .intro k o Y v e L M;rw[C k]at v;by_cases a3:k=i
     grind
     .have:(k==i)=false:=by grind
      rw[this,Bool.or_false]at v;exact u _ (V k o Y v e L M)
    grind
  grind[A8,Pn]
end Go.F
