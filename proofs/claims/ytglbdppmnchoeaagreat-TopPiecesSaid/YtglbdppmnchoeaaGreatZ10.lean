/- Part 10. -/
import Derived.Test.YtglbdppmnchoeaaGreatZ9
import Derived.Laws.CopyRow
set_option linter.all false
namespace Go.F
variable {P:Program}{c:Ctx}{m:Map}{pr:aM}{h hr:ab}{z zr:Frz}{w:World}
def spl {α:Type}(l:List α)(off:Nat)(x:List α):List α:=l.take off++x++l.drop (off+x.length)
theorem Dc {α:Type}{l:List α}{off:Nat}{x:List α}(h:off+x.length<=l.length):(spl l off x).length=l.length:=by grind[spl]
theorem QW {v:Value}(h:oneV v=true):v.oneCell'=true:=by trivial
theorem Cells.oneV {l:List D}{C:List Value}(b:Cells m pr w l C):∀v∈C,v.oneCell'=true:=by
 intro v c;obtain⟨k,d,rfl⟩:=ze.1 c;have a:k<l.length:=by grind[b.len]
 exact QW ((b.vr k a d).oneCell (b.one _ (zE a)))
theorem EB {id b esz off:Nat}{es es':List D}{C:Array Value}{t:TypeId}{j:List D}{vs:List Value}(H:HR c m h z w)(g:m id=some (b,esz))(A:h id=some (.row es esz))(v:w.heap[b]?=some (.cells C t (0,0)))
 (l:RowIn m (Pr c m h z) w es esz C) (n:Cells m (Pr c m h z) w j vs) (E:z id*esz<=off) (F:off+j.length<=(fl es).length)
 (p:fl es'=spl (fl es) off j) (q:es'.length=es.length) (I:∀e∈es',e.cells.length=esz):
 HR c m (upd h id (some (.row es' esz))) z (w.setRow b (spl C.toList off vs).toArray)/\
 Ev m (Pr c m h z) w m (Pr c m (upd h id (some (.row es' esz))) z) (w.setRow b (spl C.toList off vs).toArray)/\
 Below c.B w (w.setRow b (spl C.toList off vs).toArray):=by
 obtain⟨J,N,O,K,L⟩:=l;have r:vs.length=j.length:=n.len.symm;have x:off+vs.length<=C.toList.length:=by simp;omega
 have s:(spl C.toList off vs).toArray.size=C.size:=by
  have:=Dc x;simpa using this
 have f:∀o,o<z id*esz->(spl C.toList off vs).toArray[o]?=C[o]?:=by
  intro o P;simp only[List.getElem?_toArray,spl];rw[z7,yh (by simp;omega),xj (by omega)];simp
 have a:∀k,k≠b->(w.setRow b (spl C.toList off vs).toArray).heap[k]?=w.heap[k]?:=fun k G=>setRow_other w b k _ G;have u:=setRow_heap w b C (spl C.toList off vs).toArray t (0,0) v
 have d:Cells m (Pr c m h z) w (fl es') (spl (C.toList.take (fl es).length) off vs):=by
  rw[p]
  have h0:Cells m (Pr c m h z) w (fl es) (C.toList.take (fl es).length):=by
   refine⟨by simp;omega,fun k h1 Q=>?_,L⟩;simp only[List.getElem_take,wH];exact K _ _ _
  unfold spl;rw[r];exact((h0.take _).append n).append (h0.drop _)
 have i:RowIn m (Pr c m h z) w es' esz (spl C.toList off vs).toArray:=by
  refine Cells.toRow d (rest:=C.toList.drop (fl es).length) ?_ J I;simp only[spl];rw[List.take_take,wI (by omega),List.drop_take];rw[z7,z7,z7];congr 2;have y:C.toList.drop (fl es).length=(C.toList.drop (off+j.length)).drop ((fl es).length-(off+j.length)):=by rw[xw];congr 1;omega
  rw[r,y,wA]
 refine⟨H.store g A q v u s a (by simp) f i,Ev.store H g A v u s a f,?_⟩;have M:=(H.below id _ g).1;exact⟨⟨rfl,rfl,rfl,by simp,fun k G=>a k (by simp only at M;omega)⟩,zD _⟩
theorem Sim.written {id0 id b esz:Nat}{es':List D}{w':World}{nxt:Next}{d:D}{a:Result Next}
 (f:HR c m (upd h id (some (.row es' esz))) z w'/\Ev m (Pr c m h z) w m (Pr c m (upd h id (some (.row es' esz))) z) w'/\Below c.B w w') (e:a=.ok nxt w')
 (g:(∃v,nxt=.value v/\VR m (Pr c m (upd h id (some (.row es' esz))) z) w' d v)\/(nxt=.skip/\d=.tup [])) (_hb:b=b):
 Sim c m h z w id0 ⟨d,[(id,some (.row es' esz))],[]⟩ a:=
 ⟨nxt,w',m,e,g,f.1,f.2.1,fun _ _=>rfl,f.2.2⟩
theorem S1 {e e':D}{o:Nat}{vs:List D}(a:setCells e o vs=some e')(c:∀x∈e.cells,x.one=true)(b:∀x∈vs,x.one=true):o+vs.length<=e.cells.length/\e'.cells=spl e.cells o vs/\e'.cells.length=e.cells.length:=by
 cases e with
 |agg cs=>
  simp only[setCells]at a;split at a
  .grind[D.cells,spl]
  grind
 |_=>
  simp only[setCells]at a;split at a
  .rename_i v;simp at a;subst a;have f:=b v (by simp);have d:v.cells=[v]:=by cases v<;>first|rfl|(simp[D.one]at f)
   exact⟨by simp[D.cells],by rw[d];simp[spl,D.cells],by rw[d];simp[D.cells]⟩
  cases a
theorem UB {es:List D}{n i o:Nat}{e e':D}{vs:List D}(a:∀x∈es,x.cells.length=n)(hi:es[i]?=some e)(c:o+vs.length<=e.cells.length)(d:e'.cells=spl e.cells o vs):
 fl (es.set i e')=spl (fl es) (i*n+o) vs:=by
 obtain⟨b,rfl⟩:=yB.1 hi;have g:es[i].cells.length=n:=a _ (zE b);have h1:=D4 (v:=es[i]) a b;rw[List.set_getElem_self]at h1;rw[D4 a b,d]
 have f:((fl es).take (i*n)).length=i*n:=by
  grind
 generalize h:(fl es).take (i*n)=X at h1 f⊢;generalize (fl es).drop (i*n+n)=Y at h1⊢;rw[h1];generalize es[i].cells=E at g c⊢
 have j:(X++E++Y).take (i*n+o)=X++E.take o:=by
  rw[z7,wy,f,zZ (by omega),wz,wy,show o-E.length=0 by omega];simp
 have k:(X++E++Y).drop (i*n+o+vs.length)=E.drop (o+vs.length)++Y:=by
  rw[z7,wB,f,yY (by omega),show i*n+o+vs.length-i*n=o+vs.length by omega,wB,show o+vs.length-E.length=0 by omega];simp
 grind[spl]
theorem X7 {id0:Nat}{ty:TypeId}{x v:D}{vx l:Value}{r:Out}(H:HR c m h z w)(M:Sub hr h)(U:∀id,hr id≠none->zr id=z id)(N:VR m (Pr c m h z) w x vx)(V:VR m (Pr c m h z) w v l)(a:store P hr zr ty x v=some r):
 Sim c m h z w id0 r ((do Instr.storeAt ty vx l;pure Next.skip:Sem Next).run P w):=by
 unfold store at a;split at a
 .rename_i id i o n W;split at a
  .rename_i k;split at a
   .rename_i es esz O;split at a
    .rename_i f;split at a
     .rename_i e B;split at a
      .rename_i e' p;simp at a;subst a
       obtain⟨Q,E⟩:∃Q,m id=some Q:=by
        cases N with
        |ptr _ _ _ X q F=>grind
       obtain⟨b,C,t,R,g2,S,g⟩:=H.rowR (M _ _ O) E;have G:=U id (by grind);rw[G]at f;have d:=V.toCells k.2;have Y:=g.2.1 e (zh B)
       have s:∀y∈e.cells,y.one=true:=by
        intro y u;obtain⟨j,Z,rfl⟩:=ze.1 u;have:=fO g.2.1 B (j:=j) (by omega);rw[zK Z]at this;exact g.2.2.2.2 _ (zh this)
       obtain⟨s1,s2,s3⟩:=S1 p s d.one;have hi:i<es.length:=(yB.1 B).1;have I:=UB g.2.1 B s1 s2;have T:=cY g.2.1;have J:(i+1) *esz<=es.length*esz:=zF _ hi;rw[y3]at J
       have K:=EB (es':=es.set i e') (off:=i*esz+o) H R (M _ _ O) S g d (by
        have:z id*esz<=i*esz:=zF _ f
        omega) (by omega) I (by simp) (by
        intro y u;rcases yp u with u|rfl
        .exact g.2.1 y u
        omega)
       cases N with
       |ptr _ _ _ X q F=>
        rw[R]at F;cases F;refine Sim.written (b:=b) K ?_ (.inr ⟨rfl,rfl⟩) rfl;have a2:l.cells.size=n:=by grind[d.len]
        have A:=run_storeCells_at P b (i*esz+o) t l.cells.toList 0 C w S (by
         have hC:(fl es).length<=C.size:=g.2.2.1
         grind) d.oneV
        have L:¬(l.cells.size≠n):=by omega
        simp only[Sem.run_bind,Instr.storeAt,Instr.sureAddr,Sem.run_pure,Result.andThen_ok,storeVar,bV W,L,vE];rw[A];rfl
      grind
     grind
    grind
   grind
  grind
 grind
end Go.F
