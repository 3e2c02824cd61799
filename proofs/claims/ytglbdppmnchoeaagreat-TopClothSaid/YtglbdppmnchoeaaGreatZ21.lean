/- Part 21. -/
import Derived.Test.YtglbdppmnchoeaaGreatZ20
import Derived.Test.YtglbdppmnchoeaaGreatZ9
import Derived.Shelf.SlSortCmp.InsertionK
namespace Go.F.Gv
open Go.Sort Go.Proofs
def Zo (P:Program)(f k:Nat)(b:List Value->Value):Prop:=
 ∀(enc:Nat->List Value),(∀x,(enc x).length=k)->(∀x,∀v∈enc x,v.oneCell'=true)->∀(h:Nat->Nat->Int),SWO (ltOf h)->∀(g a cap:Nat) (d:Array Nat) (w:World),
  (∀args w,(callFunc g args).run P w=.ok (.enter g args) w)->
  (∀(m:Nat) (c:Array Obj) (dk:Array Nat),dk.size=d.size->∀x y,Calls P g #[b (enc x),b (enc y)] (sortWorldK enc k w a 0 m dk c) fun e w'=>e=.returned (.int .i64 (h x y))/\∃q i,w'=grow ((sortWorldK enc k w a 0 m dk c).drewN q) i)->
  HoldsK enc k w a 0 d->a<w.heap.size->d.size<4611686018427387904->
  Calls P f #[.slice (some ⟨a,0,none⟩) d.size cap,.func (.func g) #[] #[]] w fun e w'=>e=.returned (.tuple #[])/\∃j n c,PermIn 0 d.size d j/\SortedIn (ltOf h) 0 d.size j/\w'=sortWorldK enc k w a 0 n j c
def ts (P:Program)(f:Nat):Prop:=∀(p:Option Addr) (cap:Nat) (fv:Value) (w:World),Calls P f #[.slice p 0 cap,fv] w fun e w'=>e=.returned (.tuple #[])/\w'=w
section
variable {enc:Nat->List Value}{k:Nat}{w:World}{blk:Nat}{dk:Array Nat}
theorem Qy {C:Array Value}{t:TypeId}{a:Nat×Nat}(b:w.heap[blk]?=some (.cells C t a)):(putRowK enc k w blk 0 dk).heap[blk]?=some (.cells (putCells id 0 (flatK enc k dk) C) t a):=by
 simp_all[putRowK,putRow,mapBlock,Array.getElem?_modify,onCells]
theorem Ej {b:Nat}(h:b≠blk):(putRowK enc k w blk 0 dk).heap[b]?=w.heap[b]?:=by
 unfold putRowK putRow mapBlock;grind
theorem uE:(putRowK enc k w blk 0 dk).heap.size=w.heap.size:=by
 simp[putRowK]
end
theorem U2 {F C:Array Value}{q:Nat}(h:q<F.size)(h':q<(putCells id 0 F C).size):(putCells id 0 F C)[q]=F[q]!:=by
 simp_all[putCells]
def aP (C:Array Value)(n esz x:Nat):List Value:=(List.range esz).map fun j=>C[(x%n) *esz+j]!
theorem Dx {C:Array Value}{n esz x j:Nat}(a:j<esz):(aP C n esz x)[j]! =C[(x%n) *esz+j]!:=by
 grind[aP]
section
variable {c:Ctx}{m:Map}{h:ab}{z:Frz}{w:World}
theorem v7 {pr:aM}{es:Hm}{esz:Nat}{C:Array Value}(a:RowIn m pr w es esz C)(b:0<es.length)(x j:Nat)(c:j<esz):
 ∃(d:(x%es.length) *esz+j<(fl es).length) (h:j<(eAt es x).cells.length),(fl es)[(x%es.length) *esz+j]=(eAt es x).cells[j]/\C[(x%es.length) *esz+j]! =C[(x%es.length) *esz+j]'(zc d a.2.2.1):=by
 have e:=zI x b
 have f:es[x%es.length]?=some (eAt es x):=by
  grind[eAt]
 have i:=cY a.2.1
 have g:(x%es.length) *esz+j<(fl es).length:=by
  have:(x%es.length+1) *esz<=es.length*esz:=zF _ e;grind
 have:=fO a.2.1 f c;grind
theorem G1 (H:HR c m h z w){id b esz:Nat}{es:Hm}{C:Array Value}{t:TypeId}(g:m id=some (b,esz))(K:h id=some (.row es esz))(O:w.heap[b]?=some (.cells C t (0,0)))(hz:z id=0)
 (a:RowIn m (Pr c m h z) w es esz C) (F:0<es.length) (dk:Array Nat) (P:dk.size=es.length) (n:Nat) (d:Array Obj):
 HR c m (upd h id (some (.row (dk.toList.map (eAt es)) esz))) z (sortWorldK (aP C es.length esz) esz w b 0 n dk d)/\
 Ev m (Pr c m h z) w m (Pr c m (upd h id (some (.row (dk.toList.map (eAt es)) esz))) z) (sortWorldK (aP C es.length esz) esz w b 0 n dk d)/\
 Below c.B w (sortWorldK (aP C es.length esz) esz w b 0 n dk d):=by
 have hB:=(H.below id _ g).1;have L:HR c m h z (Go.Sort.ahead w n):=H.same rfl;have M:Ev m (Pr c m h z) w m (Pr c m h z) (Go.Sort.ahead w n):=⟨fun _ _ h=>h,fun _ _ _ h h'=>⟨h,h'⟩,fun _ _ _ h h'=>⟨h,h'⟩,fun _ C _ _ h=>⟨C,h,rfl⟩⟩;have r:=a.mono M;have i:(Go.Sort.ahead w n).heap[b]?=some (.cells C t (0,0)):=O;have s:=Qy (enc:=aP C es.length esz) (k:=esz) (dk:=dk) i;have j:(putCells _root_.id 0 (flatK (aP C es.length esz) esz dk) C).size=C.size:=by simp[putCells]
 have f:(dk.toList.map (eAt es)).length=es.length:=by grind
 have l:∀e∈dk.toList.map (eAt es),e.cells.length=esz:=fun e G=>by
  obtain⟨x,_,rfl⟩:=zy.1 G;exact a.2.1 _ (md F x)
 have Q:=cY a.2.1;have u:=cY l;rw[f]at u
 have v:RowIn m (Pr c m h z) (Go.Sort.ahead w n) (dk.toList.map (eAt es)) esz (putCells _root_.id 0 (flatK (aP C es.length esz) esz dk) C):=by
  refine⟨a.1,l,by rw[j,u,<-Q];exact a.2.2.1,fun q R S=>?_,fun e G=>?_⟩
  .have A:q%esz<esz:=zI _ a.1;have I:q/esz*esz+q%esz=q:=by simp[zx,yH]
   have T:q/esz<dk.size:=by
    simp_all[ym,zx]
   obtain⟨h1,U,h3,h4⟩:=v7 r F dk[q/esz]! _ A
   have hi:(dk.toList.map (eAt es))[q/esz]?=some (eAt es dk[q/esz]!):=by
    grind
   have E:=fO l hi A;rw[I,zK R,zK U]at E;have E:=xG E;rw[E,<-h3]
   have V:(putCells _root_.id 0 (flatK (aP C es.length esz) esz dk) C)[q]=C[(dk[q/esz]!%es.length) *esz+q%esz]'(zc h1 a.2.2.1):=by
    grind[size_flatK,U2,get_flatK,Dx]
   rw[V];exact r.2.2.2.1 _ h1 (zc h1 a.2.2.1)
  obtain⟨x,W,J⟩:=yc.1 G;obtain⟨y,_,rfl⟩:=zy.1 W;exact a.2.2.2.2 e (yc.2 ⟨_,md F y,J⟩)
 have X:=HR.store L g K f i s j (fun k p=>Ej p) uE (fun o Y=>by grind) v;have Z:=Ev.store L (es':=dk.toList.map (eAt es)) g K i s j (fun k p=>Ej p) (fun o Y=>by grind)
 have N:∀k,k<w.heap.size->(sortWorldK (aP C es.length esz) esz w b 0 n dk d).heap[k]?=(putRowK (aP C es.length esz) esz (Go.Sort.ahead w n) b 0 dk).heap[k]?:=fun k p=>by
  show((putRowK (aP C es.length esz) esz (Go.Sort.ahead w n) b 0 dk).heap++d)[k]?=_;simp_all[xY,uE]
 have gs:w.heap.size<=(sortWorldK (aP C es.length esz) esz w b 0 n dk d).heap.size:=by
  show _<=((putRowK (aP C es.length esz) esz (Go.Sort.ahead w n) b 0 dk).heap++d).size;simp[uE]
 have B1:Below (putRowK (aP C es.length esz) esz (Go.Sort.ahead w n) b 0 dk).heap.size (putRowK (aP C es.length esz) esz (Go.Sort.ahead w n) b 0 dk) (sortWorldK (aP C es.length esz) esz w b 0 n dk d):=
  ⟨⟨rfl,rfl,rfl,by simp_all[uE],fun k p=>N k (by simp_all[uE])⟩,zD _⟩
 obtain⟨H2,E2⟩:=Cl X B1;refine⟨H2,(M.trans Z).trans E2,⟨⟨rfl,rfl,rfl,gs,fun k p=>?_⟩,by show w.drawn<=w.drawn+n;omega⟩⟩;rw[N k (zc p H.base),Ej (by omega)];rfl
end
def sY (k b:Nat)(a:List Value->Value):Prop:=(k=0/\b=1/\a=fun l=>l[0]!)\/(0<k/\b=k/\a=fun l=> .agg l.toArray)
theorem YI {k b:Nat}{a:List Value->Value}(f:sY k b a){pr:aM}{w:World}{e:D}{l:List Value}(c:lY k e=true)(i:l.length=b)
 (d:∀j (m:j<e.cells.length),VR aS pr w e.cells[j] l[j]!) (g:∀x∈e.cells,x.one=true):VR aS pr w e (a l):=by
 rcases f with⟨rfl,rfl,rfl⟩ |⟨h0,rfl,rfl⟩
 .cases e<;>first|exact d 0 (by simp[D.cells]) |trivial
 cases e with
 |agg L=>
  simp only[lY,zJ]at c;have h:L.length=b:=zl c.2;refine .agg L _ (by grind) (fun j h1 n=>?_) g;have this:VR aS pr w L[j] l[j]!:=d j h1;grind
 |_=>simp[lY]at c;omega
theorem Yg {k c:Nat}{a:List Value->Value}(d:sY k c a){e:D}(b:lY k e=true):e.cells.length=c:=by
 rcases d with⟨rfl,rfl,rfl⟩ |⟨h0,rfl,rfl⟩
 .cases e<;>first|rfl|trivial
 cases e<;>first|(simp[lY]at b;omega) |(simp[lY]at b;exact b.2)
theorem Pu {v:Value}(h:oneV v=true):v.oneCell'=true:=by
 trivial
theorem MP {P:Program}{E:Env}(hE:jK P E)(hI:qY P E){f k a:Nat}{d:List Value->Value}(hw:sY k a d)(hS:Zo P f a d)
 {h:ab} {z:Frz} {c:Ctx} {m:Map} {w:World} (H:HR c m h z w) {id b esz cap:Nat} {es l:Hm} {g:FuncId} (hh:h id=some (.row es esz)) (Z:m id=some (b,esz)) (hz:z id=0)
 (p:0<es.length) (b5:es.length<4611686018427387904) (a2:es.all (plain 4)=true) (M:es.all (lY k)=true) (hs:l.Perm es) (G:okS E.pure g l=true):
 Calls P f #[.slice (some ⟨b,0,none⟩) es.length cap,.func (.func g) #[] #[]] w fun e w'=>e=.returned (.tuple #[])/\HR c m (upd h id (some (.row l esz))) z w'/\Ev m (Pr c m h z) w m (Pr c m (upd h id (some (.row l esz))) z) w'/\Below c.B w w':=by
 obtain⟨_,C,t,N,hB,hC,u⟩:=H.rowR hh Z;rw[Z]at N;cases N;have A:=RowIn.bare u a2
 obtain rfl:a=esz:=by
  have:=Yg hw (zM.1 M _ (md p 0));rw[<-this,u.2.1 _ (md p 0)]
 have q:∀x,(aP C es.length a x).length=a:=fun x=>by simp[aP]
 have O:∀x,∀v∈aP C es.length a x,v.oneCell'=true:=fun x v hv=>by
  obtain⟨j,K,rfl⟩:=zy.1 hv;rw[yN]at K;obtain⟨h1,Q,h3,R⟩:=v7 A p x j K;rw[R];exact Pu ((A.2.2.2.1 _ h1 (zc h1 u.2.2.1)).oneCell (u.2.2.2.2 _ (zE _)))
 have I:=fun i j=>OE hs G p i j
 have S:∀i j,E.pure g [eAt es i,eAt es j]=some (.int .i64 (cfN E.pure g es i j)):=fun i j=>by
  have:=I i j;unfold fH at this;grind
 have eg:∀args w,(callFunc g args).run P w=.ok (.enter g args) w:=fun args w=>by
  obtain⟨fn,b7,h1,Q,h3⟩:=hI g _ _ _ (S 0 0);exact mZ h1 Q h3
 have J:(Array.range es.length).size=es.length:=Array.size_range;have s:=hS (aP C es.length a) q O (cfN E.pure g es) (UV hs G p) g b cap (Array.range es.length) w eg (fun n os dk T x y=>?_) (fun j K=>?_) (H.below id _ Z).2 (by omega)
 .rw[J]at s;refine s.mono fun e w' ⟨he,d',n,os,F,a5,c5⟩=>?_;have c6:d'.size=es.length:=by have:=F.1;omega
  have c7:=Wc hs G p F a5;grind[G1]
 .rw[J]at T;obtain⟨H',E',B'⟩:=G1 H Z hh hC hz u p dk T n os;generalize sortWorldK (aP C es.length a) a w b 0 n dk os=W at*
  have a7:Ev aS (Pr c m h z) w aS (fun b o=>Pr c m h z b o/\b<w.heap.size) W:=by
   refine⟨(fun _ _ h=>nomatch h),fun b o v F U=>⟨⟨F,?_⟩,(E'.cell b o v F U).2⟩,fun r es k F U=>⟨⟨F,(zS.1 U).1⟩,(E'.obj r es k F U).2⟩,E'.size⟩;obtain⟨_,_,_,L,_⟩:=cell?_block U;grind
  have vr:∀x,VR aS (fun b o=>Pr c m h z b o/\b<w.heap.size) W (eAt es x) (d (aP C es.length a x)):=fun x=>by
   refine(YI hw (zM.1 M _ (md p x)) (q x) (fun j K=>?_) (fun y hy=>u.2.2.2.2 y (yc.2 ⟨_,md p x,hy⟩))).mono a7;have V:j<a:=by rw[u.2.1 _ (md p x)]at K;omega
   obtain⟨h1,Q,h3,R⟩:=v7 A p x j V;rw[Dx V,R,<-h3];exact A.2.2.2.1 _ h1 (zc h1 u.2.2.1)
  have a8:cR aS (fun b o=>Pr c m h z b o/\b<w.heap.size) W [eAt es x,eAt es y] #[d (aP C es.length a x),d (aP C es.length a y)]:=by
   refine⟨rfl,fun i h1 Q=>?_⟩;grind
  rcases hE g _ _ (S x y) W (fun b o=>Pr c m h z b o/\b<w.heap.size) _ (fun b o h=>zc h.2 B'.size) a8 with⟨_,a9⟩ |⟨v,w',hv,_⟩
  .refine a9.mono fun e w' ⟨v,he,hv,L⟩=>?_;obtain⟨rfl⟩:v=.int .i64 (cfN E.pure g es x y):=by cases hv;rfl
   refine⟨he,w'.drawn-W.drawn,w'.heap.extract W.heap.size w'.heap.size,?_⟩;have e0:=L.dr
   have b0:w'.heap=W.heap++w'.heap.extract W.heap.size w'.heap.size:=by
    apply Array.ext_getElem?;intro i;by_cases hi:i<W.heap.size
    .rw[xY hi];exact L.block i hi
    grind
   have h5:=L.os;have h6:=L.tape;have h7:=L.output;obtain⟨b1,b2,a1,e2,X⟩:=w';unfold grow World.drewN;simp;grind
  grind
 rw[size_flatK,J]at K;have Y:j%a<a:=zI _ u.1;have e3:j/a<es.length:=ym (by grind);obtain⟨h1,Q,h3,R⟩:=v7 u p (j/a) _ Y;have e4:j/a*a+j%a=j:=by simp[zx,yH]
 rw[get_flatK _ _ _ _ (by grind)]
 have e1:(Array.range es.length)[j/a]! =j/a:=by
  grind
 rw[e1,Dx Y,R,_root_.id];refine⟨?_,?_⟩
 .rw[cell?_row hC,zC];grind[Nat.mod_eq_of_lt]
 unfold World.frozen?;grind
theorem Ck {P:Program}{E:Env}(hE:jK P E)(Y:qY P E){f k U:Nat}{j:List Value->Value}(Z:sY k U j)(hS:Zo P f U j)(A:ts P f)
 {args:Hm} {h h':ab} {z z':Frz} {nx n:Nat} {r:D} (d:fM E.pure [1,k] args h z nx=some (r,h',z',n)) {c:Ctx} {m:Map} {w:World} {vs:Array Value} (H:HR c m h z w) (F:cR m (Pr c m h z) w args vs) (p:∀id,nx<=id->m id=none):
 Calls P f vs w fun e w'=>∃v,e=.returned v/\∃m',HR c m' h' z' w'/\VR m' (Pr c m' h' z') w' r v/\Ev m (Pr c m h z) w m' (Pr c m' h' z') w'/\Below c.B w w'/\(∀id,id<nx->m' id=m id)/\(∀id,n<=id->m' id=none)/\nx<=n:=by
 unfold fM at d;simp at d;unfold sL at d;split at d
 case h_3=>grind
 case h_2=>
  cases d;have h2:vs.size=2:=by rw[<-F.1];rfl
  have M:=F.2 0 (by simp) (by omega)
  have q:vs= #[vs[0],vs[1]]:=by
   grind
  generalize vs[0]=N at*;generalize vs[1]=V at*;subst q
  obtain⟨a,cap,rfl⟩:∃a cap,N=.slice a 0 cap:=by
   cases M with
   |lst0 a cap=>simp
   |lst l b o cap esz cv a2=>simp
  refine(A a cap _ w).mono fun e w' ⟨s,u⟩=>?_;subst u;exact⟨_,s,m,H,.tup [] _ rfl (fun k G=>absurd G (wL _)),Ev.refl ..,Below.refl ..,fun _ _=>rfl,p,zD _⟩
 rename_i id len g;split at d
 case h_2=>grind
 rename_i es esz Q;split at d
 case isFalse=>grind
 rename_i W;obtain⟨I,J,hz,R,S⟩:=W;split at d
 case h_2=>grind
 rename_i l X;split at d
 case isFalse=>grind
 rename_i T;cases d;have h2:vs.size=2:=by rw[<-F.1];rfl
 have M:=F.2 0 (by simp) (by omega);have v1:=F.2 1 (by simp) (by omega)
 have q:vs= #[vs[0],vs[1]]:=by
  grind
 generalize vs[0]=N at*;generalize vs[1]=V at*;subst q
 obtain⟨rfl⟩:V=.func (.func g) #[] #[]:=by
  cases v1 with
  |fn f la lc va vc ha W a5 a6=>
   grind
 by_cases O:es.length=0
 .have s:es=[]:=List.eq_nil_of_length_eq_zero O;subst s;cases X
  obtain⟨a,cap,rfl⟩:∃a cap,N=.slice a 0 cap:=by
   subst I
   cases M with
   |ref=>simp
   |vnil=>simp
  refine(A a cap _ w).mono fun e w' ⟨s,u⟩=>?_;subst u
  have hu:upd h id (some (.row [] esz))=h:=by
   funext i;by_cases hi:i=id
   .subst hi;rw[upd_same,Q]
   rw[upd_ne hi]
  rw[hu];exact⟨_,s,m,H,.tup [] _ rfl (fun k G=>absurd G (wL _)),Ev.refl ..,Below.refl ..,fun _ _=>rfl,p,zD _⟩
 have O:0<es.length:=wW O
 obtain⟨b,cap,y,rfl⟩:∃b cap,(∃x,m id=some (b,x))/\N=.slice (some ⟨b,0,none⟩) es.length cap:=by
  generalize hL:es.length=L at*
  cases M with
  |ref _ _ _ b esz cap C t f y=>grind
  |vnil=>omega
 obtain⟨x,y⟩:=y;obtain⟨b',C,t,K,_⟩:=H.rowR Q y;rw[y]at K;cases K;exact(MP hE Y Z hS H Q y hz O J R S (Cp X) T).mono fun e w' ⟨s,H',E',B'⟩=>(⟨_,s,m,H',.tup [] _ rfl (fun k G=>absurd G (wL _)),E',B',fun _ _=>rfl,p,zD _⟩)
end Go.F.Gv
