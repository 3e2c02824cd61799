/- Part 5. -/
import Derived.Test.YtglbdppmnchoeaaGreatZ4
import Derived.Laws.CopyRow
set_option linter.all false
namespace Go.F
variable {P:Program}{c:Ctx}{m:Map}{pr:aM}{h hr:ab}{z zr:Frz}{w:World}
def spl {α:Type}(l:List α)(off:Nat)(x:List α):List α:=l.take off++x++l.drop (off+x.length)
theorem Dc {α:Type}{l:List α}{off:Nat}{x:List α}(h:off+x.length<=l.length):(spl l off x).length=l.length:=by grind[spl]
theorem QW {v:Value}(h:oneV v=true):v.oneCell'=true:=by trivial
theorem Cells.oneV {l:Hm}{C:List Value}(b:Cells m pr w l C):∀v∈C,v.oneCell'=true:=by
 intro v c;obtain⟨k,d,rfl⟩:=ze.1 c;have a:k<l.length:=by grind[b.len]
 exact QW ((b.vr k a d).oneCell (b.one _ (zE a)))
theorem EB {id b esz off:Nat}{es es':Hm}{C:Array Value}{t:TypeId}{j:Hm}{vs:List Value}(H:HR c m h z w)(g:m id=some (b,esz))(A:h id=some (.row es esz))(v:w.heap[b]?=some (.cells C t (0,0)))
 (l:RowIn m (Pr c m h z) w es esz C) (n:Cells m (Pr c m h z) w j vs) (E:z id*esz<=off) (F:off+j.length<=(fl es).length)
 (p:fl es'=spl (fl es) off j) (q:es'.length=es.length) (I:∀e∈es',e.cells.length=esz):
 HR c m (upd h id (some (.row es' esz))) z (w.setRow b (spl C.toList off vs).toArray)/\
 Ev m (Pr c m h z) w m (Pr c m (upd h id (some (.row es' esz))) z) (w.setRow b (spl C.toList off vs).toArray)/\
 Below c.B w (w.setRow b (spl C.toList off vs).toArray):=by
 obtain⟨J,N,O,K,L⟩:=l;have r:vs.length=j.length:=n.len.symm;have x:off+vs.length<=C.toList.length:=by simp;omega
 have s:(spl C.toList off vs).toArray.size=C.size:=by
  have:=Dc x;simpa using this
 have f:∀o,o<z id*esz->(spl C.toList off vs).toArray[o]?=C[o]?:=by
  intro o P;simp only[List.getElem?_toArray,spl];rw[z7,yh (by simp;omega),xj (by omega)];simp
 have a:∀k,k≠b->(w.setRow b (spl C.toList off vs).toArray).heap[k]?=w.heap[k]?:=fun k G=>setRow_other w b k _ G;have u:=setRow_heap w b C (spl C.toList off vs).toArray t (0,0) v
 have d:Cells m (Pr c m h z) w (fl es') (spl (C.toList.take (fl es).length) off vs):=by
  rw[p]
  have h0:Cells m (Pr c m h z) w (fl es) (C.toList.take (fl es).length):=by
   refine⟨by simp;omega,fun k h1 Q=>?_,L⟩;simp only[vR,wH];exact K _ _ _
  unfold spl;rw[r];exact((h0.take _).append n).append (h0.drop _)
 have i:RowIn m (Pr c m h z) w es' esz (spl C.toList off vs).toArray:=by
  refine Cells.toRow d (rest:=C.toList.drop (fl es).length) ?_ J I;simp only[spl];rw[List.take_take,wI (by omega),List.drop_take];rw[z7,z7,z7];congr 2;have y:C.toList.drop (fl es).length=(C.toList.drop (off+j.length)).drop ((fl es).length-(off+j.length)):=by rw[xw];congr 1;omega
  rw[r,y,wA]
 refine⟨H.store g A q v u s a (by simp) f i,Ev.store H g A v u s a f,?_⟩;have M:=(H.below id _ g).1;exact⟨⟨rfl,rfl,rfl,by simp,fun k G=>a k (by simp only at M;omega)⟩,zD _⟩
theorem Sim.written {id0 id b esz:Nat}{es':Hm}{w':World}{nxt:Next}{d:D}{a:Result Next}
 (f:HR c m (upd h id (some (.row es' esz))) z w'/\Ev m (Pr c m h z) w m (Pr c m (upd h id (some (.row es' esz))) z) w'/\Below c.B w w') (e:a=.ok nxt w')
 (g:(∃v,nxt=.value v/\VR m (Pr c m (upd h id (some (.row es' esz))) z) w' d v)\/(nxt=.skip/\d=.tup [])) (_hb:b=b):
 Sim c m h z w id0 ⟨d,[(id,some (.row es' esz))],[]⟩ a:=
 ⟨nxt,w',m,e,g,f.1,f.2.1,fun _ _=>rfl,f.2.2⟩
theorem S1 {e e':D}{o:Nat}{vs:Hm}(a:setCells e o vs=some e')(c:∀x∈e.cells,x.one=true)(b:∀x∈vs,x.one=true):o+vs.length<=e.cells.length/\e'.cells=spl e.cells o vs/\e'.cells.length=e.cells.length:=by
 cases e with
 |agg cs=>
  simp only[setCells]at a;split at a
  .grind[D.cells,spl]
  grind
 |_=>
  simp only[setCells]at a;split at a
  .rename_i v;simp at a;subst a;have f:=b v (by simp);have d:v.cells=[v]:=by cases v<;>first|rfl|(simp[D.one]at f)
   exact⟨by simp[D.cells],by rw[d];simp[spl,D.cells],by rw[d];simp[D.cells]⟩
  cases a
theorem UB {es:Hm}{n i o:Nat}{e e':D}{vs:Hm}(a:∀x∈es,x.cells.length=n)(hi:es[i]?=some e)(c:o+vs.length<=e.cells.length)(d:e'.cells=spl e.cells o vs):
 fl (es.set i e')=spl (fl es) (i*n+o) vs:=by
 obtain⟨b,rfl⟩:=yB.1 hi;have g:es[i].cells.length=n:=a _ (zE b);have h1:=D4 (v:=es[i]) a b;rw[List.set_getElem_self]at h1;rw[D4 a b,d]
 have f:((fl es).take (i*n)).length=i*n:=by
  grind
 generalize h:(fl es).take (i*n)=X at h1 f⊢;generalize (fl es).drop (i*n+n)=Y at h1⊢;rw[h1];generalize es[i].cells=E at g c⊢
 have j:(X++E++Y).take (i*n+o)=X++E.take o:=by
  rw[z7,wy,f,zZ (by omega),wz,wy,show o-E.length=0 by omega];simp
 have k:(X++E++Y).drop (i*n+o+vs.length)=E.drop (o+vs.length)++Y:=by
  rw[z7,wB,f,yY (by omega),show i*n+o+vs.length-i*n=o+vs.length by omega,wB,show o+vs.length-E.length=0 by omega];simp
 grind[spl]
theorem X7 {id0:Nat}{ty:TypeId}{x v:D}{vx l:Value}{r:Out}(H:HR c m h z w)(M:Sub hr h)(U:∀id,hr id≠none->zr id=z id)(N:VR m (Pr c m h z) w x vx)(V:VR m (Pr c m h z) w v l)(a:store P hr zr ty x v=some r):
 Sim c m h z w id0 r ((do Instr.storeAt ty vx l;pure Next.skip:Sem Next).run P w):=by
 unfold store at a;split at a
 .rename_i id i o n W;split at a
  .rename_i k;split at a
   .rename_i es esz O;split at a
    .rename_i f;split at a
     .rename_i e B;split at a
      .rename_i e' p;simp at a;subst a
       obtain⟨Q,E⟩:∃Q,m id=some Q:=by
        cases N with
        |ptr _ _ _ X q F=>grind
       obtain⟨b,C,t,R,g2,S,g⟩:=H.rowR (M _ _ O) E;have G:=U id (by grind);rw[G]at f;have d:=V.toCells k.2;have Y:=g.2.1 e (zh B)
       have s:∀y∈e.cells,y.one=true:=by
        intro y u;obtain⟨j,Z,rfl⟩:=ze.1 u;have:=fO g.2.1 B (j:=j) (by omega);rw[zK Z]at this;exact g.2.2.2.2 _ (zh this)
       obtain⟨s1,s2,s3⟩:=S1 p s d.one;have hi:i<es.length:=(yB.1 B).1;have I:=UB g.2.1 B s1 s2;have T:=cY g.2.1;have J:(i+1) *esz<=es.length*esz:=zF _ hi;rw[y3]at J
       have K:=EB (es':=es.set i e') (off:=i*esz+o) H R (M _ _ O) S g d (by
        have:z id*esz<=i*esz:=zF _ f
        omega) (by omega) I (by simp) (by
        intro y u;rcases yp u with u|rfl
        .exact g.2.1 y u
        omega)
       cases N with
       |ptr _ _ _ X q F=>
        rw[R]at F;cases F;refine Sim.written (b:=b) K ?_ (.inr ⟨rfl,rfl⟩) rfl;have a2:l.cells.size=n:=by grind[d.len]
        have A:=run_storeCells_at P b (i*esz+o) t l.cells.toList 0 C w S (by
         have hC:(fl es).length<=C.size:=g.2.2.1
         grind) d.oneV
        have L:¬(l.cells.size≠n):=by omega
        simp only[Sem.run_bind,Instr.storeAt,Instr.sureAddr,Sem.run_pure,Result.andThen_ok,storeVar,bV W,L,vE];rw[A];rfl
      grind
     grind
    grind
   grind
  grind
 grind
end Go.F
namespace Go.F
variable {P:Program}{c:Ctx}{m:Map}{pr:aM}{h hr:ab}{z zr:Frz}{w:World}
theorem Win.len {l:Hm}{v:Value}(W:Win m pr w l v):(Builtin.lenOf v).run P w=.ok l.length w:=by
 obtain⟨⟨a,cap,rfl,_⟩,_,_⟩:=W;rfl
theorem N1 {l:Hm}{v:Value}{n size:Nat}(W:Win m pr w l v)(y:n<=l.length)(d:∀e∈l,e.cells.length=size):
 ∃vs:List Value,(∀w':World,w'.heap=w.heap->(Builtin.firstCells size n v).run P w'=.ok vs.toArray w')/\Cells m pr w (fl (l.take n)) vs:=by
 obtain⟨⟨q,cap,rfl,i,c⟩,g,_⟩:=W;by_cases r:l=[]
 .have h:n=0:=by grind
  subst h;refine⟨[],fun w' _=>?_,⟨by rfl,by simp,by grind⟩⟩
  cases q with
  |none=>rfl
  |some a=>simp[Builtin.firstCells,loadCells,loadCellsFrom]
 obtain⟨b,o,f,rfl,z⟩:=c r;have s:=cY d;have t:n*size<=(fl l).length:=by simp_all[zF]
 refine⟨(List.range (n*size)).map f,fun w' u=>?_,?_⟩
 .have p:=run_loadCells (P:=P) w' ⟨b,o,none⟩ (n*size) f (fun j A=>by
   rw[dW]
   grind[World.cell?])
  trivial
 rw[n4 d];refine⟨by grind,fun k h1 B=>?_,fun e x=>g e (zt x)⟩;grind
theorem FO {l:Hm}{v:Value}{n size:Nat}(W:Win m pr w l v)(b:n<=l.length)(a:∀e∈l,e.cells.length=size):
 ∃vs:List Value,(Builtin.firstCells size n v).run P w=.ok vs.toArray w/\Cells m pr w (fl (l.take n)) vs:=by
 obtain⟨vs,h1,c⟩:=N1 (P:=P) W b a;grind
theorem ED {α:Type}(f:Nat->α)(i:Nat)(v:α)(a:f i=v):upd f i v=f:=by
 funext k;rw[qr];grind
theorem Tg {id0:Nat}{T:List TypeId}{F:Hm}{vs:List Value}{r:Out}{ty:TypeId}(H:HR c m h z w)(u:Sub hr h)(hz:∀id,hr id≠none->zr id=z id)(hl:F.length=vs.length)
 (U:∀k (_:k<F.length) (_:k<vs.length),VR m (Pr c m h z) w F[k] vs[k]) (o:copy P hr zr T F=some r):
 Sim c m h z w id0 r ((do pure (Next.value (<-Builtin.copy_ T.toArray ty vs.toArray)):Sem Next).run P w):=by
 unfold copy at o;split at o
 .rename_i t G id off len src
  match vs,hl with
  |[v0,v1],_=>
   have h0:=U 0 (by simp) (by simp);have h1:=U 1 (by simp) (by simp);simp at h0 h1;split at o
   grind
   .rename_i e I;split at o
    .rename_i es esz l J V;split at o
     .rename_i p;obtain⟨c1,c2,X,c4⟩:=p;simp only[zV]at o;subst o;have q:∀x∈l,x.cells.length=esz:=fun x Y=>by grind
      by_cases K:∃a,off=0/\len=0/\v0=.slice a 0 0
      case pos=>
       obtain⟨a,rfl,rfl,rfl⟩:=K;have W:=sq H u h1 V
       have hu:upd h id (some (.row (es.take 0++l.take (min l.length 0)++es.drop (0+min l.length 0)) esz))=h:=by
        refine ED _ _ _ ?_;rw[u _ _ J];simp
       refine⟨.value (.int .i64 (min l.length 0:Nat)),w,m,?_,.inl ⟨_,rfl,.int _ _⟩,?_,?_,fun _ _=>rfl,Below.refl _ _⟩
       .obtain⟨us,d,g⟩:=FO (P:=P) W (n:=0) (zB _) q
        have L:us=[]:=by
         have:=g.len;grind[fl]
        subst L;simp[Builtin.copy_]
        cases a with
        |none=>simp[aT (lu I),W.len,bV c1,d,goInt]
        |some a1=>simp[aT (lu I),W.len,bV c1,d,goInt,storeCells]
       grind[aJ];grind[aJ,Ev.refl]
      case neg=>
      obtain⟨Z,M⟩:∃Z,m id=some Z:=by
       cases h0 with
       |ref _ _ _ b' v cap C' N f hm O A B=>grind
       |vnil _ a=>grind
      obtain⟨b,C,t',g1,g2,g3,s⟩:=H.rowR (u _ _ J) M;rw[hz id (by grind)]at X;have W:=sq H u h1 V;obtain⟨us,d,g⟩:=FO (P:=P) W (n:=min l.length len) (Nat.min_le_left ..) q;have a2:=cY s.2.1;have Q:(l.take (min l.length len)).length=min l.length len:=by simp
      have R:(fl (l.take (min l.length len))).length=min l.length len*esz:=by
       rw[cY (fun x Y=>q x (zt Y)),Q]
      have i:(off+len) *esz<=es.length*esz:=zF _ c2;have a3:min l.length len*esz<=len*esz:=zF _ (Nat.min_le_right ..);rw[yX]at i
      have S:=EB (es':=es.take off++l.take (min l.length len)++es.drop (off+min l.length len)) (off:=off*esz) H g1 (u _ _ J) g3 s g
       (zF _ X) (by omega)
       (by
         rw[oe,oe,n4 s.2.1,sH s.2.1,spl,R,yX])
       (by grind)
       (by
         intro y j;rcases za.1 j with j|j
         .rcases za.1 j with j|j
          .exact s.2.1 y (zt j)
          grind
         exact s.2.1 y (yJ j))
      cases h0 with
      |vnil _ a=>grind
      |ref _ _ _ b' v cap C' N f hm O A B=>
       refine Sim.written (b:=b) S (nxt:=.value (.int .i64 (min l.length len:Nat))) ?_ (.inl ⟨_,rfl,.int _ _⟩) rfl
       have E:=run_storeCells_at P b (off*esz) t' us 0 C w g3 (by
        have hC:(fl es).length<=C.size:=s.2.2.1;have:us.length=min l.length len*esz:=by grind[g.len]
        omega) g.oneV
       simp[Builtin.copy_];simp[aT (lu I),W.len,bV c1]at d E⊢;grind[Result.andThen_ok,Sem.run_pure,goInt,spl]
     grind
    grind
 grind
theorem Ls {d:D}{v:Value}{n:Nat}(b:VR m pr w d v)(c:d.sto=true)(h0:0<d.cells.length):Cells m pr w (fl (List.replicate n d)) (Builtin.zeroCells v.cells n).toList:=by
 obtain⟨h1,e,h3⟩:=b.cells c;have a:=RowIn.replicate (n:=n) (N:=n*v.cells.size) b c h0 (by grind);exact Cells.ofRow a (by simp_all[cY,size_zeroCells])
theorem B4 {t e ty:TypeId}(b:elemOf P t=some e)(a:Option Addr)(cap:Nat):(Builtin.clear_ #[t] ty #[.slice a 0 cap]).run P w=.ok (.tuple #[]) w:=by
 cases a<;>simp[Builtin.clear_,aT (lu b)]
theorem Tb {id0:Nat}{Y:List TypeId}{I:Hm}{vs:List Value}{r:Out}{ty:TypeId}(H:HR c m h z w)(J:Sub hr h)(hz:∀id,hr id≠none->zr id=z id)(L:I.length=vs.length)
 (M:∀k (_:k<I.length) (_:k<vs.length),VR m (Pr c m h z) w I[k] vs[k]) (g:clear P hr zr Y I=some r):
 Sim c m h z w id0 r ((do pure (Next.value (<-Builtin.clear_ Y.toArray ty vs.toArray)):Sem Next).run P w):=by
 unfold clear at g;split at g
 .rename_i t id off len
  match vs,L with
  |[N],_=>
   have h0:=M 0 (by simp) (by simp);split at g
   grind
   .rename_i e p;split at g
    .rename_i es esz d K q;split at g
     .rename_i s;obtain⟨c2,Z,c4,c5⟩:=s;simp only[zV]at g;subst g;by_cases O:∃a,off=0/\len=0/\N=.slice a 0 0
      case pos=>
       obtain⟨a,rfl,rfl,rfl⟩:=O
       have hu:upd h id (some (.row (es.take 0++List.replicate 0 d++es.drop (0+0)) esz))=h:=by
        refine ED _ _ _ ?_;rw[J _ _ K];simp
       refine⟨.value (.tuple #[]),w,m,?_,.inl ⟨_,rfl,.tup [] _ rfl (by simp)⟩,?_,?_,fun _ _=>rfl,Below.refl _ _⟩
       .have:=B4 (P:=P) (w:=w) (ty:=ty) p a 0;simp_all
       grind[aJ];grind[aJ,Ev.refl]
      case neg=>
      obtain⟨x0,Q⟩:∃x0,m id=some x0:=by
       cases h0 with
       |ref _ _ _ b' A cap C' R f S T B E=>grind
       |vnil _ a=>grind
      obtain⟨b,C,t',g1,g2,g3,l⟩:=H.rowR (J _ _ K) Q;rw[hz id (by grind)]at Z;obtain⟨i,v,hi,U,rfl⟩:=lg q;have F:0<(eh v).cells.length:=by rw[c4];exact l.1
      have u:=Ls (n:=len) (jN (m:=m) (pr:=Pr c m h z) (w:=w) v) c5 F;have a3:=cY l.2.1
      have V:(fl (List.replicate len (eh v))).length=len*esz:=by
       rw[cY (n:=esz) (fun x hx=>by grind)];simp
      have j:(off+len) *esz<=es.length*esz:=zF _ c2;rw[yX]at j
      have W:=EB (es':=es.take off++List.replicate len (eh v)++es.drop (off+len)) (off:=off*esz) H g1 (J _ _ K) g3 l u
       (zF _ Z) (by omega)
       (by rw[oe,oe,n4 l.2.1,sH l.2.1,spl,V,yX])
       (by grind)
       (by
         intro y o;rcases za.1 o with o|o
         .rcases za.1 o with o|o
          .exact l.2.1 y (zt o)
          grind
         exact l.2.1 y (yJ o))
      cases h0 with
      |vnil _ a=>grind
      |ref _ _ _ b' A cap C' R f S T B E=>
       rw[g1]at S;cases S;by_cases X:len=0
       .subst X
        have hu:upd h id (some (.row (es.take off++List.replicate 0 (eh v)++es.drop (off+0)) esz))=h:=by
         refine ED _ _ _ ?_;rw[J _ _ K];simp
        refine⟨.value (.tuple #[]),w,m,?_,.inl ⟨_,rfl,.tup [] _ rfl (by simp)⟩,?_,?_,fun _ _=>rfl,Below.refl _ _⟩
        .simp[Builtin.clear_,aT (lu p)]
        grind[aJ];grind[aJ,Ev.refl]
       refine Sim.written (b:=b) W (nxt:=.value (.tuple #[])) ?_ (.inl ⟨_,rfl,.tup [] _ rfl (by simp)⟩) rfl
       have G:=run_storeCells_at P b (off*esz) t' (Builtin.zeroCells v.cells len).toList 0 C w g3 (by
        have hC:(fl es).length<=C.size:=l.2.2.1;have:(Builtin.zeroCells v.cells len).toList.length=len*esz:=by grind[u.len]
        omega) u.oneV
       simp[Builtin.clear_,aT (lu p),kX hi U,G,spl]
     grind
    grind
 .match vs,L with
  |[N],_=>
   have h0:=M 0 (by simp) (by simp);simp at g;obtain⟨⟨e,p⟩,rfl⟩:=g;cases h0;exact Sim.val H (by simp[B4 p]) (.tup [] #[] rfl (by simp))
 .match vs,L with
  |[N],_=>
   have h0:=M 0 (by simp) (by simp);simp at g;obtain⟨⟨e,p⟩,rfl⟩:=g
   cases h0 with
   |lst0 a cap=>exact Sim.val H (by simp[B4 p]) (.tup [] #[] rfl (by simp))
   |lst _ _ _ _ _ _ b0=>grind
 grind
theorem R5 {id:Nat}{ty:TypeId}(H:HR c m h z w)(a:m id=none):Sim c m h z w id ⟨.mref id,[(id,some (.mp [] []))],[(id,0)]⟩ ((do pure (Next.value (<-Instr.makeMap ty none)):Sem Next).run P w):=by
 have b:(w.alloc (.map #[] 0)).heap=w.heap.push (.map #[] 0):=rfl;refine⟨.value (.map (some w.heap.size)),w.alloc (.map #[] 0),upd m id (some (w.heap.size,1)),by rfl,.inl ⟨_,rfl,.mref _ _ (upd_same ..)⟩,?_,Ev.new a b,fun k d=>upd_ne d,ud H.base b rfl rfl rfl⟩;exact H.new a b (by simp) (.inr ⟨[],[],#[],0,rfl,rfl,rfl,by simp[MapIn]⟩)
theorem WI {n:Nat}{d:D}(h:d.scalar=true):Instr.sameBits n (kD d) (kD d)=true:=by
 cases d<;>first|(simp[D.scalar]at h;done) |(cases n<;>simp[kD,Instr.sameBits,bytes_beq])
theorem Il {d:D}(h:gf d=true):Instr.sameBits 10000 (bM d) (bM d)=true:=by
 cases d with
 |str s=>simp[bM,kD,Instr.sameBits,bytes_beq]
 |agg l=>
  simp[gf]at h;simp[bM,Instr.sameBits]
  have e:∀(l:Hm),(∀x∈l,x.scalar=true)->∀p∈(l.map kD).zip (l.map kD),Instr.sameBits 9999 p.1 p.2=true:=by
   intro l
   induction l with
   |nil=>simp
   |cons a l f=>
    intro c p b;simp at b;rcases b with rfl|b
    .exact WI (c a (zO ..))
    grind
  grind
 |_=>simp[gf]at h
theorem XQ {id0:Nat}{mt:TypeId}{x k v:D}{vx V A:Value}{r:Out}(H:HR c m h z w)(Q:Sub hr h)(hz:∀id,hr id≠none->zr id=z id)(hx:VR m (Pr c m h z) w x vx)(J:VR m (Pr c m h z) w k V)
 (W:VR m (Pr c m h z) w v A) (f:mapUpdate P hr zr mt x k v=some r):
 Sim c m h z w id0 r ((do Instr.mapUpdate mt vx V A;pure Next.skip:Sem Next).run P w):=by
 unfold mapUpdate at f;split at f
 .rename_i kt et id X;split at f
  .rename_i ks vs d K;have R:=J.key (oV d);subst R;split at f
   .rename_i q;rw[hz id (by rw[K];simp)]at q;obtain⟨g,es,a,L,g2,M,g4⟩:=H.mp id ks vs (Q _ _ K);obtain⟨N,Y,O,Z⟩:=g4;have B:g<w.heap.size:=(H.below id _ L).2
    have S:vx=.map (some g):=by
     cases hx with
     |mref _ r1 hm=>rw[L]at hm;cases hm;rfl
    subst S;have l:(getObj g).run P w=.ok (.map es a) w:=by simp[getObj,Sem.run,M]
    have n:∀o:Obj,(setObj g o).run P w=.ok () {w with heap:=w.heap.setIfInBounds g o}:=fun o=>by simp[setObj,Sem.run,M]
    have fin:∀{es':Array MapEntry} {clock':Nat} {ks':Hm} {vs':Hm},MapIn m (Pr c m h z) w ks' vs' es'->
     (Instr.mapUpdate mt (.map (some g)) (bM k) A).run P w=.ok () {w with heap:=w.heap.setIfInBounds g (.map es' clock')}->
     Sim c m h z w id0 ⟨.tup [],[(id,some (.mp ks' vs'))],[]⟩ ((do Instr.mapUpdate mt (.map (some g)) (bM k) A;pure Next.skip:Sem Next).run P w):=by
     intro es' clock' ks' vs' C E
     have F:({w with heap:=w.heap.setIfInBounds g (.map es' clock')}:World).heap[g]?=some (.map es' clock'):=by
      simp[B]
     have b:∀k,k≠g->({w with heap:=w.heap.setIfInBounds g (.map es' clock')}:World).heap[k]?=w.heap[k]?:=by
      intro k J;simp only[Array.getElem?_setIfInBounds];rw[vd (fun e=>J e.symm)]
     refine⟨.skip,{w with heap:=w.heap.setIfInBounds g (.map es' clock')},m,by simp[E],.inr ⟨rfl,rfl⟩,H.storeMap L (Q _ _ K) q M F b (by simp) C,
      Ev.storeMap H L (Q _ _ K) q M F b,fun _ _=>rfl,⟨⟨rfl,rfl,rfl,by simp,fun k J=>b k (by omega)⟩,zD _⟩⟩
    split at f
    .rename_i i T;simp only[zV]at f;subst f;obtain⟨o,U,h1,rfl,p⟩:=run_findKey (w:=w) d N O T;refine fin (es':=es.modify i fun e=>{e with key:=bM k,val:=A}) (clock':=a) ?_ ?_
     .refine⟨by simpa using N,by simpa using Y,fun j G s=>?_,fun j G s=>?_⟩
      .rw[Array.getElem_modify];have t:=O j G (by simpa using s);split
       .rename_i e;subst e;exact⟨t.1,p.trans t.2⟩
       exact t
      rw[yr,Array.getElem_modify];split
      .exact W
      exact Z j (by simpa using G) (by simpa using s)
     have u:(Instr.keyThatStays (((es[i]?).map (·.key)).getD (bM k)) (bM k)).run P w=.ok (bM k) w:=by
      rw[yC h1,xR,wC,<-p,Instr.keyThatStays,ve (Il (oV d))];rfl
     simp only[Instr.mapUpdate,Sem.run_bind,aT X,Result.andThen_ok,l,qx d,U,Sem.run_pure,u,n]
    .rename_i T;simp only[zV]at f;subst f;obtain⟨o,U,rfl⟩:=run_findKey (w:=w) d N O T;refine fin (es':=es.push {key:=bM k,val:=A,born:=a}) (clock':=a+1) ?_ ?_
     .refine⟨by simp[N],by simp[Y],fun j G s=>?_,fun j G s=>?_⟩
      .by_cases I:j<es.size
       .rw[Array.getElem_push_lt I,yu (by omega)];exact O j (by omega) I
       have y:j=es.size:=by simp at s;omega
       subst y;rw[Array.getElem_push_eq,xg (by omega)];simpa using oV d
      by_cases I:j<es.size
      .rw[Array.getElem_push_lt I,yu (by omega)];exact Z j (by omega) I
      have y:j=es.size:=by simp at s;omega
      subst y;rw[Array.getElem_push_eq,xg (by omega)];simpa using W
     simp only[Instr.mapUpdate,Sem.run_bind,aT X,Result.andThen_ok,l,qx d,U,Sem.run_pure,n]
    cases f
   cases f
  cases f
 cases f
end Go.F
