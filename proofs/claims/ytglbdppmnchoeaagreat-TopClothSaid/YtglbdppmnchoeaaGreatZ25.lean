/- Part 25. -/
import Derived.Test.YtglbdppmnchoeaaGreatZ24
import Derived.Tactics
import Derived.Tactics2
import Derived.LoopTactic
import Derived.OwnWalk
import Derived.Lib.Walk
import Derived.Maps.RangeWalk
import Derived.Maps.Own
import Derived.Test.YtglbdppmnchoeaaGreatZ14
set_option linter.all false
namespace Go.F.Gv
open Go.Proofs Go.Sort Go.RowKit
set_option maxRecDepth 1000000
theorem O8 {E:Env}(hE:jK Tryz.prog E){f:FuncId}{args:Hm}{r:D}(h:E.pure f args=some r)(d:∀vs w,(callFunc f vs).run Tryz.prog w=.ok (.enter f vs) w){w:World}{ok:aM}{vs:Array Value}
 (a:∀b o,ok b o->b<w.heap.size) (c:cR aS ok w args vs):Calls Tryz.prog f vs w fun e w'=>∃v,e=.returned v/\VR aS (fun b o=>ok b o\/w.heap.size<=b) w' r v/\F.Below w.heap.size w w':=by
 rcases hE f args r h w ok vs a c with⟨_,g⟩ |⟨v,w',i,_⟩
 omega;grind
theorem MapS.keep {w w':World}{a:Nat}{b:List Sp2}(h:MapS w a b)(d:w'.heap[a]?=w.heap[a]?):MapS w' a b:=⟨h.nd,h.ex.imp fun es k=>k.imp fun c k=>⟨d.trans k.1,k.2⟩⟩
theorem MapS.lt {w:World}{a:Nat}{b:List Sp2}(h:MapS w a b):a<w.heap.size:=by
 obtain⟨_,_,h,_⟩:=h.ex;grind
theorem alloc_old {w:World}{o:Obj}{k:Nat}(h:k<w.heap.size):(w.alloc o).heap[k]?=w.heap[k]?:=heap_alloc_old w o h
section
variable {P:Program}{w:World}{ops:Array Oper}{rest:List Oper}{o:Oper}{a:Act}{Q:Exit->Act->World->Prop}
theorem TL {f:List Sp2}{c:Nat}(g:o.guard=none)(m x v:Operand)(d:o.op=Op.mapUpdate 318 m x v)(p:Sp2)(h:a.eval m=.map (some c))(i:a.eval x=kv p)(j:a.eval v=.bool true)(M:MapS w c f)
 (l:∀w',MapS w' c (ef f p)->F.Below c w w'->w'.heap.size=w.heap.size->wpList Tryz.prog ops Q rest (a.put o.dst undef) w'):wpList Tryz.prog ops Q (o::rest) a w:=by
 refine wpList_plain g fun q e=>?_;obtain⟨r,b,n⟩:=Rg M p;unfold Oper.wp;simp[execOp,d,h,i,j,b,Result.andThen];refine e _ _ (l _ n ⟨⟨rfl,rfl,rfl,by simp,fun k s=>?_⟩,zD _⟩ (by simp));grind
theorem WM {l d b:Nat}{es:Array MapEntry}{seen:Array Nat}(q:o.guard=none)(x:Operand)(h:o.op=Op.next x false)(m:a.eval x=.pointer (some ⟨d,0,none⟩))
 (r:w.heap[l]?=some (.map es b)) (hi:w.heap[d]?=some (.mapIter (some l) b seen b)) (i:∀x∈es.toList,x.born<b)
 (f:(∀e∈es.toList,seen.contains e.born=true)->wpList P ops Q rest (a.put o.dst (.tuple #[.bool false])) w)
 (g:∀e∈es.toList,seen.contains e.born=false->∀w':World,F.Below d w w'->w'.heap.size=w.heap.size->(∀k,k≠d->w'.heap[k]?=w.heap[k]?)->w'.heap[d]?=some (.mapIter (some l) b (seen.push e.born) b)->
   wpList P ops Q rest (a.put o.dst (.tuple #[.bool true,e.key,e.val])) w'):wpList P ops Q (o::rest) a w:=by
 refine wpList_plain q fun v j=>?_;unfold Oper.wp;rcases Ux (P:=P) r hi i with⟨h0,c⟩ |⟨e,s,t,n,c⟩
 .simp[execOp,h,m,c,Result.andThen];exact j _ _ (f h0)
 simp[execOp,h,m,c,Result.andThen]
 have p:∀k,k≠d->(w.heap.setIfInBounds d (.mapIter (some l) b (seen.push e.born) b))[k]?=w.heap[k]?:=fun k u=>by
  grind
 exact j _ _ (g e s t _ ⟨⟨rfl,rfl,rfl,by simp,fun k u=>p k (by omega)⟩,by simp⟩ (by simp) p (by grind))
end
theorem row_of {pr:aM}{w:World}{R:List (List Sp2)}{v:Value}(h:VR aS pr w (.lst (R.map fun l=> .lst (l.map kd))) v):
 ∃a cap,v=.slice a R.length cap/\∀k (g:k<R.length),∃b o u,a=some ⟨b,o,none⟩/\w.cell? ⟨b,o+k,none⟩=some u/\VR aS pr w (.lst (R[k].map kd)) u:=by
 generalize i:(R.map fun l=>D.lst (l.map kd))=L at h
 cases h with
 |lst0 a cap=>
  simp_all
 |lst l b o cap esz cv j m c d p q e=>
  have n:∀R:List (List Sp2),fl (R.map fun l=>D.lst (l.map kd))=R.map fun l=>D.lst (l.map kd):=fun R=>by
   induction R with
   |nil=>rfl
   |cons x R f=>simp[fl]at f⊢;rw[f];rfl
  subst i;refine⟨some ⟨b,o,none⟩,cap,by simp,fun k g=>?_⟩;grind
theorem reg_of {pr:aM}{w:World}{l:List Sp2}{v:Value}(h:VR aS pr w (.lst (l.map kd)) v):
 ∃a cap,v=.slice a l.length cap/\∀k (u:k<l.length),∃b o,a=some ⟨b,o,none⟩/\w.cell? ⟨b,o+k*2,none⟩=some (.int .i64 l[k].1)/\w.cell? ⟨b,o+k*2+1,none⟩=some (.int .i64 l[k].2):=by
 generalize x:l.map kd=L at h
 cases h with
 |lst0 a cap=>
  simp_all
 |lst B b o cap esz cv y z n q r s t=>
  subst x
  have f:∀e∈l.map kd,e.cells.length=2:=fun e A=>by
   obtain⟨p,_,rfl⟩:=zy.1 A;rfl
  refine⟨some ⟨b,o,none⟩,cap,by simp,fun k u=>?_⟩;have g:=cY f;rw[zA]at g;have hi:(l.map kd)[k]?=some (kd l[k]):=by grind
  have c:=fO f hi (j:=0) (by omega);have d:=fO f hi (j:=1) (by omega);have i:k*2<(fl (l.map kd)).length:=by omega
  have m:k*2+1<(fl (l.map kd)).length:=by omega
  rw[Nat.add_zero,zK i]at c;rw[zK m]at d;have c:(fl (l.map kd))[k*2]=.int .i64 l[k].1:=xG c;have d:(fl (l.map kd))[k*2+1]=.int .i64 l[k].2:=xG d;refine⟨b,o,rfl,?_,?_⟩
  .rw[(r _ i).1,(s _ i).ints c]
  rw[yG,(r _ m).1,(s _ m).ints d]
end Go.F.Gv

namespace Go.F.Gv
open Go.Proofs Go.Sort
set_option maxRecDepth 100000
theorem Iq {m:Map}{pr:aM}{w:World}:∀l:List Sp2,Cells m pr w (fl (l.map kd)) (cv l)
 |[]=>⟨rfl,fun k h=>absurd h (wL _),fun e a=>(by cases a)⟩
 |p::l=>by
  have h1:Cells m pr w [.int .i64 p.1,.int .i64 p.2] [.int .i64 p.1,.int .i64 p.2]:=by
   refine⟨rfl,fun k h1 b=>?_,fun e a=>?_⟩
   .rcases k with _|_|k
    .exact .int _ _
    .exact .int _ _
    grind
   simp at a;rcases a with rfl|rfl<;>rfl
  exact h1.append (Iq l)
def mpL (bl:Nat):Map:=fun id=>if id=0 then some (bl,2)else none
def hpL (l:Hm):ab:=upd empty 0 (some (.row l 2))
theorem mkHR {W:World}{bl:Nat}{C:Array Value}{t:TypeId}{rest:List Value}{l:List Sp2}(b:W.heap[bl]?=some (.cells C t (0,0)))(c:C.toList=cv l++rest):HR ⟨bl,fun _ _=>True⟩ (mpL bl) (hpL (l.map kd)) kl W:=by
 have a:bl<W.heap.size:=(zS.1 b).1
 have g:∀{id:Nat} {x:Nat×Nat},mpL bl id=some x->id=0/\x=(bl,2):=fun{id x} h=>by
  grind[mpL]
 refine⟨fun id es esz h=>?_,fun id i vs h=>?_,fun id d x j _ _ h1 k _=>by grind,fun id x h=>?_,xd a,fun id _=>zB _⟩
 .by_cases e:id=0
  .subst e;cases h
   exact .inl ⟨bl,C,t,rfl,zD _,b,Cells.toRow (Iq l) c (by decide) fun e f=>by
    obtain⟨p,_,rfl⟩:=zy.1 f
    rfl⟩
  unfold hpL at h;rw[upd_ne e]at h;cases h
 .by_cases e:id=0
  .subst e;unfold hpL at h;rw[upd_same]at h;grind
  unfold hpL at h;rw[upd_ne e]at h;cases h
 grind
theorem Uf {E:Env}(hE:jK Tryz.prog E)(N:qY Tryz.prog E){g n:Nat}{W:World}{v:Value}{l2:List Sp2}(L:LstS n W v l2){l:Hm}(I:l.Perm (l2.map kd))(q:okS E.pure g l=true)(J:l2.length<=1000000):
 Calls Tryz.prog 191 #[v,.func (.func g) #[] #[]] W fun e w'=>e=.returned (.tuple #[])/\F.Below n W w'/\∀pr:aM,(∀b o,n<=b->pr b o)->VR aS pr w' (.lst l) v:=by
 rcases L.ex with⟨rfl,rfl⟩ |⟨bl,cap,C,t,rest,d,rfl,O,r,K,s⟩
 .refine(D3 none 0 _ W).mono fun e w' ⟨c,u⟩=>⟨c,by rw[u];exact F.Below.refl _ _,fun pr _=>?_⟩;have:l=[]:=by simp_all
  subst this;exact .lst0 _ _
 have w:l.length=l2.length:=by have:=I.length_eq;grind
 by_cases h0:l2=[]
 .subst h0;have:l=[]:=by grind
  subst this;exact(D3 _ cap _ W).mono fun e w' ⟨c,u⟩=>⟨c,by rw[u];exact F.Below.refl _ _,fun pr _=> .lst0 _ _⟩
 have P:0<(l2.map kd).length:=by grind
 have y:∀e∈l,∃p,e=kd p:=fun e c=>by
  grind
 have M:=MP hE N (f:=191) (.inr ⟨by decide,rfl,rfl⟩:sY 2 2 (fun l=> .agg l.toArray)) K2 (mkHR O r) (cap:=cap) (id:=0) rfl rfl rfl P (by grind)
  (by rw[xz,zM];exact fun _ _=>rfl) (by rw[xz,zM];exact fun _ _=>rfl) I q
 rw[zA]at M;refine M.mono fun e w' ⟨c,H,_,B⟩=>⟨c,B.mono d,fun pr z=>?_⟩;obtain⟨R,A,t',h1,_,h3,h⟩:=H.rowR (id:=0) (es:=l) (esz:=2) (upd_same ..) (x:=(bl,2)) rfl;cases h1;rw[<-w];have G:∀e∈l,e.cells.length=2:=h.2.1
 have i:∀e∈fl l,e.scalar=true:=fun e c=>by
  obtain⟨x,Q,j⟩:=yc.1 c;obtain⟨p,rfl⟩:=y x Q;simp[kd,D.cells]at j;rcases j with rfl|rfl<;>rfl
 refine .lst l bl 0 cap 2 (fun k=>A[k]!) (fun e=>?_) G (by decide) (by omega) (fun k m=>⟨?_,z _ _ d⟩) (fun k m=>?_) h.2.2.2.2;grind
 .have a:=zc m h.2.2.1;rw[cell?_row h3,zC,yC a,getElem!_pos A k a]
 have a:=zc m h.2.2.1;rw[getElem!_pos A k a];exact(h.2.2.2.1 k m a).scalar (i _ (zE _))
theorem EO {α β:Type}{f:α->β}:∀{l:List α},(l.map f).Nodup->∀{x y:α},x∈l->y∈l->f x=f y->x=y
 |z::l,a,x,y,b,c,h=>by
  rw[zg,wJ]at a;rcases zP.1 b with e|h1
  grind
  .rcases zP.1 c with g|d
   grind
   .exact EO a.2 h1 d h
theorem My {es:Array MapEntry}{seen:Array Nat}{e:MapEntry}{p a:Sp2}(d:e∈es.toList)(b:(es.toList.map (·.born)).Nodup)(c:e.key=kv p):
 (∃e'∈es.toList,e'.key=kv a/\(seen.push e.born).contains e'.born=true)↔(∃e'∈es.toList,e'.key=kv a/\seen.contains e'.born=true)\/a=p:=by
 grind[EO,tN]
theorem vw {w:World}{r:Nat}{a:Option Nat}{b c:Nat}{s:Array Nat}(h:w.heap[r]?=some (.mapIter a b s c)):w.iterSeen r=s:=by
 unfold World.iterSeen;rw[h]
end Go.F.Gv

namespace Go.F.Gv
open Go.Proofs Go.Sort Go.RowKit
set_option maxRecDepth 1000000
theorem A3 {w W:World}{b o:Nat}{u:Value}(a:F.Below w.heap.size w W)(c:w.cell? ⟨b,o,none⟩=some u):W.cell? ⟨b,o,none⟩=some u:=by
 obtain⟨C,t,f,h1,d⟩:=cell?_block c;rw[cell?_row ((a.block b (zS.1 h1).1).trans h1)];omega
theorem qW:∀(R:List (List Sp2)) (k:Nat) (h:k<R.length),R[k].length<=(R.flatMap _root_.id).length
 |x::R,0,_=>by simp
 |x::R,k+1,h=>by
  rw[List.flatMap_cons,zL];exact zR (qW R k (by grind)) (Nat.le_add_left _ _)
section
variable {w:World}{ops:Array Oper}{rest:List Oper}{o:Oper}{a:Act}{Q:Exit->Act->World->Prop}
theorem RM {c g:Nat}{v:Value}{l:List Sp2}{t0:TypeId}{f0:Nat×Nat}(h:o.guard=none)(s x:Operand)(i:o.op=.call {callee:=.builtin .append,args:= #[s,x],argTypes:= #[71,71]})(p:Sp2)
 (j:a.eval s=v) (k:a.eval x=.slice (some ⟨g,0,none⟩) 1 1) (L:LstS c w v l) (m:c<=w.heap.size) (b:l.length<=1000000) (e:w.heap[g]?=some (.cells #[.int .i64 p.1,.int .i64 p.2] t0 f0))
 (n:∀d w',LstS c w' d (l++[p])->F.Below c w w'->wpList Tryz.prog ops Q rest (a.put o.dst d) w'):wpList Tryz.prog ops Q (o::rest) a w:=by
 refine wpList_plain h fun K f=>?_;obtain⟨d,w',hr,h1,q⟩:=Xe L m p b e o.type;unfold Oper.wp execOp;simp[i,resolve,invoke,builtin,j,k,hr];exact f _ _ (n d w' h1 q)
end
theorem ru {w:World}{o:Obj}:(w.alloc o).heap.size=w.heap.size+1:=by simp
theorem LstS.alloc {a:Nat}{W:World}{v:Value}{l:List Sp2}(h:LstS a W v l)(o:Obj):LstS a (W.alloc o) v l:=h.keep fun k x _ b=>(alloc_old (zS.1 b).1).trans b
theorem YZ {l:List Sp2}(h:l.Nodup):(l.map kv).Nodup:=by
 grind[tN]
theorem Rr {a b:World}{o:Obj}(h:F.Below (a.alloc o).heap.size (a.alloc o) b):b.heap[a.heap.size]?=some o:=(h.block _ (by simp)).trans (heap_alloc_new a o)
theorem tG {α:Type}{l:List α}{j:Nat}(h:j<l.length)(p:α):p∈l.take (j+1)↔p∈l.take j\/p=l[j]:=by
 grind[List.take_add_one]
theorem P3 {R:List (List Sp2)}{k:Nat}(h:k<R.length)(p:Sp2):p∈(R.take (k+1)).flatMap _root_.id↔p∈(R.take k).flatMap _root_.id\/p∈R[k]:=by
 grind[List.take_add_one]
theorem Qv {E:Env}(hE:jK Tryz.prog E)(hI:qY Tryz.prog E){x y r:D}(B:kx E.pure 244 245 246 [x,y]=some r){w:World}{ok:aM}{v0 v1:Value}
 (i5:∀b o,ok b o->b<w.heap.size) (hl:cR aS ok w [x,y] #[v0,v1]):Calls Tryz.prog 218 #[v0,v1] w fun e w'=>∃v,e=.returned v/\VR aS (fun b o=>ok b o\/w.heap.size<=b) w' r v/\F.Below w.heap.size w w':=by
 have e1:∀vs w,(callFunc 244 vs).run Tryz.prog w=.ok (.enter 244 vs) w:=fun vs w=>enters_of Tryz.func244 (by kernel_rfl) rfl vs w;unfold kx at B;split at B
 case h_2=>cases B
 rename_i e2 e K;have M:=O8 hE K e1 i5 hl
 have m:Calls Tryz.prog 244 #[v0,v1] w fun e' w'=>∃vr,e'=.returned (.tuple #[vr,.int .i64 e])/\VR aS (fun b o=>ok b o\/w.heap.size<=b) w' (.lst e2) vr/\F.Below w.heap.size w w':=by
  refine M.mono fun e' w' ⟨v,i6,hv,G⟩=>?_;obtain⟨vs,rfl,h1,g⟩:=hv.tups;have a0:=g 0 (by simp) (by rw[<-h1];simp);have a1:=g 1 (by simp) (by rw[<-h1];simp);refine⟨_,?_,a0,G⟩;rw[i6];have a2:=a1.ints rfl;congr 2;apply vH (by simpa using h1.symm);intro i b1 b2;rcases i with _|_|i
  .rfl
  .exact a2
  simp at b2;omega
 clear M K;split at B
 .rename_i c;subst c;split at B
  case h_2=>cases B
  rename_i vs hv;split at B
  case isFalse=>cases B
  rename_i Z;split at B
  case h_2=>cases B
  rename_i fs hf;split at B
  case h_2=>cases B
  rename_i l hs;split at B
  case isFalse=>cases B
  rename_i e3;cases B;obtain⟨R,rfl,rfl⟩:=Ot hv;clear hv;rw[zA,zA]at Z;obtain⟨us,e4,e5,e6,i8⟩:=Mq (R.flatMap _root_.id);rw[e4]at hf;obtain⟨q,rfl,hq⟩:=KG hf;clear hf e4;have e7:∀vs w,(callFunc 245 vs).run Tryz.prog w=.ok (.enter 245 vs) w:=fun vs w=>enters_of Tryz.func245 (by kernel_rfl) rfl vs w;have l9:= @run_makeMap Tryz.prog
  go_enter Tryz.func218,Tryz.ntmps218
  go_wp2_with (first|(go_at_call 244;refine m.mono ?_;rintro e' n ⟨vr,rfl,b4,G⟩;obtain⟨av,cap,rfl,e8⟩:=row_of b4))
  clear m
  have e9:∀W',F.Below n.heap.size n W'->∀p∈us,Calls Tryz.prog 245 #[.slice av R.length cap,.agg #[.int .i64 p.1,.int .i64 p.2]] W' fun e w'=>e=.returned (.bool (q p))/\F.Below W'.heap.size W' w':=fun W' hB p K=>by
   refine(O8 hE (hq p K) e7 (w:=W') (ok:=fun b o=>(ok b o\/w.heap.size<=b)/\b<n.heap.size) (fun b o h=>zc h.2 hB.size) ⟨rfl,fun i h1 g=>?_⟩).mono fun e w' ⟨v,c,hv,G⟩=>⟨by rw[c,hv.bools rfl],G⟩;have lt:∀{b:Nat} {x:Obj},n.heap[b]?=some x->b<n.heap.size:=fun h=>(zS.1 h).1;rcases i with _|_|i
   .refine b4.mono ⟨(fun _ _ h=>nomatch h),fun b o v K hc=>⟨⟨K,?_⟩,A3 hB hc⟩,fun r es k K hc=>⟨⟨K,lt hc⟩,(hB.block r (lt hc)).trans hc⟩,fun b C t f G=>⟨C,(hB.block b (lt G)).trans G,rfl⟩⟩;obtain⟨_,_,_,h1,_⟩:=cell?_block hc;exact lt h1
   .refine .agg _ _ rfl (fun j h3 h4=>?_) (fun e c=>?_)
    .rcases j with _|_|j
     .exact .int _ _
     .exact .int _ _
     exact absurd h3 (by simp only[yM,yf];omega)
    simp at c;rcases c with rfl|rfl<;>rfl
   exact absurd h1 (by simp only[yM,yf];omega)
  go_wp2
  go_loopw [27] (fun i W=>∃k:Nat,k<=R.length/\i=.int .i64 k/\∃ks,MapS W n.heap.size ks/\(∀p,p∈ks↔p∈(R.take k).flatMap _root_.id)/\F.Below n.heap.size n W) (fun i _=>R.length-(RowKit.intOf i).toNat)
  case atStart=>
   refine⟨0,zB _,rfl,[],⟨wX,_,_,heap_alloc_new _ _,rfl,(fun e c=>(by cases c)),wX⟩,fun p=>Iff.rfl,(F.Below.refl _ _).alloc (zD _) _⟩
  case round=>
   obtain⟨k,hk,rfl,ks,hM,N,O⟩:=hrel;by_cases b5:k<R.length
   .obtain⟨b,o,u,rfl,g0,j1⟩:=e8 k b5;obtain⟨a2,k8,rfl,g1⟩:=reg_of j1;have g0:=A3 O g0;have m1:R[k].length<=1000000:=zR (qW R k b5) Z.2;generalize j2:R[k]=L at*
    go_wp2
    go_loopw [33] (fun i W=>∃j:Nat,j<=L.length/\i=.int .i64 j/\∃ks,MapS W n.heap.size ks/\(∀p,p∈ks↔p∈(R.take k).flatMap _root_.id\/p∈L.take j)/\F.Below n.heap.size n W) (fun i _=>L.length-(RowKit.intOf i).toNat)
    case atStart=>exact⟨0,zB _,rfl,ks,hM,fun p=>by simp[N],O⟩
    case round=>
     obtain⟨j,hj,rfl,j3,a4,Q,s⟩:=hrel;by_cases g2:j<L.length
     .obtain⟨b2,o2,rfl,c0,c1⟩:=g1 j g2;have c0:=A3 s c0;have c1:=A3 s c1
      go_wp2_with (first|(at_mapUpdate;refine TL rfl _ _ _ rfl L[j] rfl rfl rfl (a4.keep (alloc_old a4.lt)) ?_;intro w2 j4 b6 m2) |go_in)
      go_roundw
      case rel=>
       refine⟨j+1,by omega,by simp,_,j4,fun p=>?_,(s.alloc (xd a4.lt) _).trans (b6.mono (zD _))⟩;rw[U4,Q,tG g2,or_assoc]
      case measure=>
       simp[RowKit.intOf];omega
     go_wp2
     refine⟨⟨k+1,by omega,by simp,j3,a4,fun p=>?_,s⟩,by simp[RowKit.intOf];omega⟩;rw[Q,zZ (l:=L) (i:=j) (by omega),P3 b5,j2]
   have b7:=hM;obtain⟨j5,es,z,g3,S,b8,b9⟩:=hM;have j6:=Rj (P:=Tryz.prog) (t:=318) Tryz.underlying318 g3;obtain rfl:k=R.length:=by omega
   rw[zZ (zD _)]at N;obtain⟨Y,T⟩:∃Y,Y=wr.heap.size:=⟨_,rfl⟩;rw[<-T]at j6
   go_wp2
   rw[<-T]
   go_loopw [13] (fun v W=>∃(seen:Array Nat) (l:List Sp2),W.heap[n.heap.size]?=some (.map es z)/\W.heap[Y]?=some (.mapIter (some n.heap.size) z seen z)/\F.Below n.heap.size n W/\LstS (Y+1) W v l/\
    l.Nodup/\∀p,p∈l↔q p=false/\∃e∈es.toList,e.key=kv p/\seen.contains e.born=true) (fun _ W=>(leftOf es (W.iterSeen Y)).size)
   case atStart=>
    refine⟨#[],[],(alloc_old b7.lt).trans g3,by rw[T];exact heap_alloc_new _ _,O.alloc (xd b7.lt) _,⟨.inl ⟨rfl,rfl⟩⟩,wX,fun p=>⟨fun h=>(by cases h),fun⟨_,e,_,_,h⟩=>(by simp at h)⟩⟩
   case round=>
    obtain⟨seen,l2,g4,a5,g5,g6,a6,U⟩:=hrel;have l0:n.heap.size<Y:=by rw[T];exact b7.lt
    clear T;have l1:Y+1<=wr.heap.size:=(zS.1 a5).1
    have H:∀e∈es.toList,∃p∈ks,e.key=kv p:=fun e c=>by
     have:e.key∈es.toList.map (·.key):=zy.2 ⟨e,c,rfl⟩;rw[S]at this;obtain⟨p,K,e'⟩:=zy.1 this;exact⟨p,K,e'.symm⟩
    have V:∀p,p∈ks↔p∈us:=fun p=>by rw[N,i8]
    go_wp2_with (first|(at_next;refine WM rfl _ rfl rfl g4 a5 b8 ?_ ?_) |fail)
    .intro g7
     have a7:l2.Perm (us.filter fun p=>!q p):=Fi a6 (e5.filter _) fun p=>by
      rw[U,xE,<-V];refine⟨fun⟨h1,e,c,g,h3⟩=>?_,fun⟨h1,g⟩=>?_⟩
      .obtain⟨p',a8,h4⟩:=H e c;rw[h4]at g;rw[<-tN g];rw[tN g]at a8⊢;exact⟨a8,by rw[h1];rfl⟩
      have:kv p∈es.toList.map (·.key):=by rw[S];exact zy.2 ⟨p,h1,rfl⟩
      obtain⟨e,c,h3⟩:=zy.1 this;exact⟨by simpa using g,e,c,h3,by have:=g7 e (by simpa using c);simpa using this⟩
     have I:l2.length<=1000000:=by
      rw[a7.length_eq];exact zR (vK _ _) (zR e6 Z.2)
     have c3:=Uf hE hI g6 ((Cp hs).trans (a7.map kd).symm) e3 I
     go_wp2_with (first|(go_at_call 191;refine c3.mono ?_;rintro e' w3 ⟨rfl,b6,j8⟩) |fail)
     go_ret2
     refine⟨_,rfl,.tup _ _ rfl (fun k h1 g=>?_),(G.trans (g5.mono G.size)).trans (b6.mono (by have:=G.size;omega))⟩;rcases k with _|_|k
     .exact j8 _ fun b o h=> .inr (by have:=G.size;omega)
     .exact .int _ _
     exact absurd h1 (by simp)
    intro e c g8 w2 j9 k0 a9 b0;have c:e∈es.toList:=by simpa using c
    obtain⟨p,K,X⟩:=H e c;unfold kv at X;have c4:w2.heap[n.heap.size]?=some (.map es z):=(a9 _ (by omega)).trans g4;have k1:=Ru (P:=Tryz.prog) c4 b0 c b9;rw[X]at k1⊢;have c5:F.Below n.heap.size n (w2.alloc (.cells #[.int .i64 p.1,.int .i64 p.2] 85)):=(g5.trans (j9.mono (by omega))).alloc (by omega) _
    have g9:LstS (Y+1) (w2.alloc (.cells #[.int .i64 p.1,.int .i64 p.2] 85)) u13 l2:=g6.keep fun k o hk ho=>by
     rw[alloc_old (by have:=(zS.1 ho).1;omega),a9 k (by omega)];exact ho
    have h0:=e9 _ c5 p ((V p).1 K);have J:=b0
    have c6:e∈(leftOf es seen).toList:=by
     unfold leftOf;rw[Array.toList_filter,xE];exact⟨c,by simpa using g8⟩
    have h5:=left_shrinks es seen e c6;have k2:(es.toList.map (·.key)).Nodup:=by rw[S];exact YZ j5
    have k3:p∉l2:=fun h=>by
     obtain⟨_,e',h1,g,h3⟩:=(U p).1 h;rw[EO k2 h1 c (g.trans X.symm)]at h3;exact g8 (by simpa using h3)
    have I:l2.length<=1000000:=by
     have a7:l2.Perm (us.filter fun p=>decide (p∈l2)):=Fi a6 (e5.filter _) fun p=>by
      rw[xE,zT,<-V];refine⟨fun h=>⟨?_,h⟩,fun h=>h.2⟩;obtain⟨_,e',h1,g,_⟩:=(U p).1 h;obtain⟨p',a8,h4⟩:=H e' h1;rw[h4]at g;rw[<-tN g];exact a8
     rw[a7.length_eq];exact zR (vK _ _) (zR e6 Z.2)
    cases h6:q p
    .go_wp2_with (first|(go_at_call 245;refine h0.mono ?_;rintro e' w4 ⟨rfl,A⟩;have h8:w4.heap[wr.heap.size]?=some (.cells #[.int .i64 p.1,.int .i64 p.2] 85):=(by rw[<-k0];exact Rr A);have cA:w4.cell? ⟨wr.heap.size,0,none⟩=some (.int .i64 p.1):=(by rw[cell?_row h8];rfl);have cB:w4.cell? ⟨wr.heap.size,1,none⟩=some (.int .i64 p.2):=(by rw[cell?_row h8];rfl);have k4:=(g9.keep fun k o _ ho=>(A.block k (zS.1 ho).1).trans ho).alloc (.cells #[.int .i64 p.1,.int .i64 p.2] 85);have k5:=A.size;rw[ru]at k5) |(at_builtin;refine RM rfl _ _ rfl p rfl rfl k4 (by rw[ru];omega) I (heap_alloc_new _ _) ?_;intro v6 w6 k6 h9) |fail)
     have d:∀k,k<=Y->w6.heap[k]?=w2.heap[k]?:=fun k hk=>(h9.block k (by omega)).trans ((alloc_old (by omega)).trans ((A.block k (by rw[ru];omega)).trans (alloc_old (by omega))))
     go_roundw
     case rel=>
      refine⟨seen.push e.born,l2++[p],(d _ (by omega)).trans c4,(d _ (zD _)).trans J,((c5.trans (A.mono (by rw[ru];omega))).alloc (by omega) _).trans (h9.mono (by omega)),k6,?_,fun p'=>?_⟩
      .rw[List.nodup_append];exact⟨a6,by simp,fun a ha b G=>by rw[z8]at G;subst G;exact fun e=>k3 (e▸ha)⟩
      rw[My c b9 X,za,z8,U];constructor
      .rintro(h|rfl)
       .exact⟨h.1,.inl h.2⟩
       exact⟨h6,.inr rfl⟩
      rintro⟨h1,g|g⟩
      .exact .inl ⟨h1,g⟩
      exact .inr g
     case measure=>
      rw[vw ((d _ (zD _)).trans J),vw a5];exact h5
    go_wp2_with (first|(go_at_call 245;refine h0.mono ?_;rintro e' w4 ⟨rfl,A⟩) |fail)
    have d:∀k,k<=Y->w4.heap[k]?=w2.heap[k]?:=fun k hk=>(A.block k (by rw[ru];omega)).trans (alloc_old (by omega))
    go_roundw
    case rel=>
     refine⟨seen.push e.born,l2,(d _ (by omega)).trans c4,(d _ (zD _)).trans J,c5.trans (A.mono (by rw[ru];omega)),g9.keep fun k o _ ho=>(A.block k (zS.1 ho).1).trans ho,a6,fun p'=>?_⟩;rw[My c b9 X,U];refine⟨fun h=>⟨h.1,.inl h.2⟩,fun h=>⟨h.1,h.2.resolve_right fun e=>?_⟩⟩;rw[e,h6]at h;cases h.1
    case measure=>
     rw[vw ((d _ (zD _)).trans J),vw a5];exact h5
 cases B
 go_enter Tryz.func218,Tryz.ntmps218
 go_wp2_with (first|(go_at_call 244;refine m.mono ?_;rintro e' w' ⟨vr,rfl,b4,G⟩))
 go_ret2
 exact⟨_,rfl,.tup _ _ rfl (fun k h1 g=>by rcases k with _|_|k;exact .lst0 _ _;exact .int _ _;exact absurd h1 (by simp)),G⟩
end Go.F.Gv

namespace Go.F
open Go.Proofs Gv
theorem DJ {a:Pure}{k:Nat}{args:Hm}:ib a [1,k] args=none:=rfl
theorem Q4 {a:Pure}{args:Hm}:ib a [] args=none:=rfl
theorem VW {a:Pure}{args:Hm}{h:ab}{z:Frz}{nx:Nat}:fM a [] args h z nx=none:=rfl
theorem TR {d:Pure}{a b c:Nat}{args:Hm}{h:ab}{z:Frz}{nx:Nat}:fM d [2,a,b,c] args h z nx=none:=rfl
theorem gv_ok:GvOK prog fL:=by
 intro f fn p E _ _ hE k;have key:(fL f).gv=(gvL.lookup f).getD []:=rfl;by_cases h1:f=70
 .subst h1;rw[key,show(gvL.lookup 70).getD []=[1,2]from rfl];exact⟨fun args r d=>(by rw[DJ]at d;cases d),fun args h z nx r h' z' g d c m w vs H j e=>Ck hE k (.inr ⟨by decide,rfl,rfl⟩) sort70 none70 d H j e⟩
 by_cases l:f=191
 .subst l;rw[key,show(gvL.lookup 191).getD []=[1,2]from rfl];exact⟨fun args r d=>(by rw[DJ]at d;cases d),fun args h z nx r h' z' g d c m w vs H j e=>Ck hE k (.inr ⟨by decide,rfl,rfl⟩) K2 D3 d H j e⟩
 by_cases h3:f=270
 .subst h3;rw[key,show(gvL.lookup 270).getD []=[1,0]from rfl];exact⟨fun args r d=>(by rw[DJ]at d;cases d),fun args h z nx r h' z' g d c m w vs H j e=>Ck hE k (.inl ⟨rfl,rfl,rfl⟩) SD Pj d H j e⟩
 by_cases q:f=218
 .subst q;rw[key,show(gvL.lookup 218).getD []=[2,244,245,246]from rfl];refine⟨fun args r d w ok vs n j=>?_,fun args h z nx r h' z' g d=>by rw[TR]at d;cases d⟩;unfold ib at d;simp only at d;split at d
  .rename_i x y;have l:vs.size=2:=by rw[<-j.1];rfl
   have o:vs= #[vs[0],vs[1]]:=by
    apply vH
    .simp[l]
    intro i a b;rcases i with _|_|i
    .rfl
    .rfl
    omega
   rw[o]at j⊢;exact Qv hE k d n j
  cases d
 have s:(gvL.lookup f).getD []=[]:=by
  have t:(f==70)=false:=by simpa using h1
  have u:(f==191)=false:=by simpa using l
  have v:(f==270)=false:=by simpa using h3
  have A:(f==218)=false:=by simpa using q
  simp[gvL,List.lookup,t,u,v,A]
 rw[key,s];exact⟨fun args r d=>(by rw[Q4]at d;cases d),fun args h z nx r h' z' g d=>(by rw[VW]at d;cases d)⟩
end Go.F
