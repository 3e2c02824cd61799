/- Part 6. -/
import Derived.Test.YtglbdppmnchoeaaGreatZ5
set_option linter.all false
namespace Go.F
variable {P:Program}{c:Ctx}{m:Map}{pr:aM}{h hr:ab}{z:Frz}{w:World}
theorem dW (b o n:Nat):(⟨b,o,none⟩:Addr).add n=⟨b,o+n,none⟩:=by
 unfold Addr.add;simp
theorem oe (l a:List D):fl (l++a)=fl l++fl a:=by simp[fl]
theorem n4 {l:List D}{n:Nat}(a:∀e∈l,e.cells.length=n)(k:Nat):fl (l.take k)=(fl l).take (k*n):=by
 induction l generalizing k with
 |nil=>simp[fl]
 |cons e l c=>
  cases k with
  |zero=>simp[fl]
  |succ k=>
   have h1:=a e (zO ..);have b:=c (fun x d=>a x (zG _ d)) k;simp[fl]at b⊢;rw[b,wy,h1,y3,zZ (l:=e.cells) (by omega),show k*n+n-n=k*n by omega]
theorem sH {l:List D}{n:Nat}(a:∀e∈l,e.cells.length=n)(k:Nat):fl (l.drop k)=(fl l).drop (k*n):=by
 induction l generalizing k with
 |nil=>simp[fl]
 |cons e l c=>
  cases k with
  |zero=>simp
  |succ k=>
   have h1:=a e (zO ..);have b:=c (fun x d=>a x (zG _ d)) k;simp[fl]at b⊢;rw[b,wB,h1,y3,yY (l:=e.cells) (by omega),yj,show k*n+n-n=k*n by omega]
structure Win (m:Map)(pr:aM)(w:World)(l:List D)(v:Value):Prop where
 ex:∃ao cap,v=.slice ao l.length cap/\l.length<=cap/\(l≠[]->∃(b o:Nat) (f:Nat->Value),ao=some ⟨b,o,none⟩/\∀k (hk:k<(fl l).length),w.cell? ⟨b,o+k,none⟩=some (f k)/\VR m pr w ((fl l)[k]) (f k))
 one:∀e∈fl l,e.one=true
 esz:∃n,0<n/\∀e∈l,e.cells.length=n
def Sub (hr h:ab):Prop:=∀id b,hr id=some b->h id=some b
theorem sq (H:HR c m h z w)(I:Sub hr h){x:D}{v:Value}{l:List D}(q:VR m (Pr c m h z) w x v)(i:window hr x=some l):Win m (Pr c m h z) w l v:=by
 cases x<;>simp only[window,reduceCtorEq,zV]at i
 case nilsl=>subst i;cases q;exact⟨⟨_,0,rfl,by simp,by simp⟩,by simp[fl],⟨1,by omega,by simp⟩⟩
 case lst l'=>
  subst i
  cases q with
  |lst0 a cap=>exact⟨⟨_,cap,rfl,by simp,by simp⟩,by simp[fl],⟨1,by omega,by simp⟩⟩
  |lst _ b o cap esz cv J r j g K L n=>
   exact⟨⟨_,cap,rfl,g,fun _=>⟨b,o,cv,rfl,fun k s=>⟨(K k s).1,(L k s).up⟩⟩⟩,n,⟨esz,j,r⟩⟩
 case ref id off len=>
  split at i
  .rename_i es d M;split at i
   .simp at i;subst i
    cases q with
    |vnil _ a=>exact⟨⟨a,0,by simp,by simp,fun h0=>by grind⟩,by simp[fl],⟨1,by omega,by simp⟩⟩
    |ref _ _ _ b esz cap C t f u p g G=>
     obtain⟨U,V,t',h1,W,h3,N⟩:=H.rowR (I _ _ M) u;rw[h1]at u;cases u;rw[h3]at p;cases p;obtain⟨O,y,X,P,Y⟩:=N;have Q:((es.drop off).take len).length=len:=by grind
     have R:∀e∈(es.drop off).take len,e.cells.length=d:=fun e A=>y e (yJ (zt A))
     have S:fl ((es.drop off).take len)=((fl es).drop (off*d)).take (len*d):=by
      rw[n4 (fun e A=>y e (yJ A)),sH y]
     refine⟨⟨_,cap,by grind,by omega,fun _=>⟨b,off*d,fun k=>C.getD (off*d+k) undef,rfl,fun k s=>?_⟩⟩,?_,⟨d,O,R⟩⟩
     .have B:off*d+k<(fl es).length:=by
       grind
      have E:off*d+k<C.size:=by omega
      have T:(fl ((es.drop off).take len))[k]=(fl es)[off*d+k]:=by
       grind
      rw[T];have F:C.getD (off*d+k) undef=C[off*d+k]:=by simp_all
      simp only[F];refine⟨?_,P _ B E⟩;rw[cell?_row h3];simp
     grind
   grind
  grind
theorem EW (H:HR c m h z w)(F:Sub hr h){x:D}{v:Value}{cs:List D}{o:Nat}(g:VR m (Pr c m h z) w x v)(a:jt hr x=some (cs,o)):
 ∃(b l:Nat) (f:Nat->Value),v=.pointer (some ⟨b,l+o,none⟩)/\(∀k (n:k<cs.length),w.cell? ⟨b,l+k,none⟩=some (f k)/\VR m (Pr c m h z) w cs[k] (f k))/\∀e∈cs,e.one=true:=by
 cases x<;>simp only[jt,reduceCtorEq,zV,Prod.mk.injEq]at a
 case pl e i=>
  obtain⟨rfl,rfl⟩:=a
  cases g with
  |pl _ _ b l cv h1 A h3=>exact⟨b,l,cv,rfl,fun k n=>⟨(h1 k n).1,(A k n).up⟩,h3⟩
 case ptr id i o2=>
  split at a
  .rename_i es esz G
   cases d:es[i]? with
   |none=>grind
   |some e=>
    simp[d]at a;obtain⟨rfl,rfl⟩:=a
    cases g with
    |ptr _ _ _ b B q=>
     obtain⟨L,C,t,h1,A,h3,M,p,N,I,O⟩:=H.rowR (F _ _ G) q;rw[h1]at q;cases q;have J:e.cells.length=esz:=p e (zh d);have hi:i<es.length:=(yB.1 d).1;have E:=cY p;refine⟨b,i*esz,fun k=>C.getD (i*esz+k) undef,rfl,fun k n=>?_,fun x g=>?_⟩
     .have r:i*esz+k<(fl es).length:=by
       have:(i+1) *esz<=es.length*esz:=zF _ hi;grind
      have s:i*esz+k<C.size:=by omega
      have u:C.getD (i*esz+k) undef=C[i*esz+k]:=by simp_all
      have K:(fl es)[i*esz+k]=e.cells[k]:=by
       have:=fO p d (j:=k) (by omega);grind
      simp only[u,<-K];exact⟨by rw[cell?_row h3];simp,I _ r s⟩
     have y:=ze.1 g;obtain⟨j,P,rfl⟩:=y;have:=fO p d (j:=j) (by omega);grind
  grind
theorem run_load {t:TypeId}{x d:D}{v:Value}(H:HR c m h z w)(i:Sub hr h)(l:VR m (Pr c m h z) w x v)(a:load P hr t x=some d):
 ∃u,(Instr.loadAt t v).run P w=.ok u w/\VR m (Pr c m h z) w d u:=by
 unfold load at a;split at a
 .rename_i cs o n g p A;obtain⟨b,q,f,rfl,h1,r⟩:=EW H i l g;split at a
  .simp at a;subst a
   have s:=run_loadCells (P:=P) w ⟨b,q+o,none⟩ n (fun j=>f (o+j)) (fun j E=>by
    grind[dW])
   refine⟨.agg ((List.range n).map fun j=>f (o+j)).toArray,by simp_all[Instr.loadAt,Instr.sureAddr,loadVar,pY,bV],?_⟩;refine .agg _ _ (by grind) (fun k F B=>?_) (fun e C=>r e (yJ (zt C)));grind
  grind
 .rename_i cs o n g p A;obtain⟨b,q,f,rfl,h1,r⟩:=EW H i l g;obtain⟨y,rfl⟩:=yB.1 a;refine⟨f o,?_,(h1 o y).2⟩;simp[Instr.loadAt,Instr.sureAddr,loadVar,pY p,(h1 o y).1]
 grind
theorem TA {s:TypeId}{f n:Nat}{x d:D}{v:Value}(g:VR m pr w x v)(a:uU P s f=some n)(c:lA x n=some d):
 ∃u,(Instr.fieldAt s v f).run P w=.ok u w/\VR m pr w d u:=by
 unfold uU at a;split at a
 .split at a
  .rename_i h k;split at a
   grind
   .simp at a;subst a;cases x<;>simp only[lA,reduceCtorEq,zV]at c
    case ptr id i o=>
     subst c
     cases g with
     |ptr _ _ _ b esz l=>
      refine⟨.pointer (some ⟨b,i*esz+(o+h.offset),none⟩),?_,.ptr _ _ _ _ _ l⟩;simp_all[Instr.fieldAt,aT,Instr.sureAddr,fieldPlace,bV,dW,yG]
    case pl e o=>
     subst c
     cases g with
     |pl _ _ b j cv h1 p h3=>
      refine⟨.pointer (some ⟨b,j+(o+h.offset),none⟩),?_,.pl e _ b j cv h1 p h3⟩;simp_all[Instr.fieldAt,aT,Instr.sureAddr,fieldPlace,bV,dW,yG]
   grind
  grind
 grind
theorem qR {x:D}{v:Value}{n:Nat}(b:VR m pr w x v)(a:jJ x=some n):∃k,v=.int k n:=by
 cases x<;>simp only[jJ,reduceCtorEq]at a
 case int k i=>
  split at a
  .cases b;exact⟨k,by grind⟩
  grind
theorem UY {t:TypeId}{x J d:D}{v K:Value}(H:HR c m h z w)(T:Sub hr h)(E:VR m (Pr c m h z) w x v)(hi:VR m (Pr c m h z) w J K)(g:indexAddr P hr t x J=some d):
 ∃u,(Instr.indexAt t v K).run P w=.ok u w/\VR m (Pr c m h z) w d u:=by
 unfold indexAddr at g;split at g
 .rename_i i e F q;obtain⟨k,rfl⟩:=qR hi F;split at g
  .rename_i n l p;split at g
   .rename_i y L;split at g
    .simp at g;subst g;obtain⟨G,rfl⟩:=yB.1 L
     cases E with
     |lst0 a cap=>grind
     |lst _ b o cap esz cv U r M s V hv N=>
      have O:esz=n:=by grind
      refine⟨.pointer (some ⟨b,o+i*esz,none⟩),?_,?_⟩
      .simp[Instr.indexAt,asIntOf,aT q];simp_all[bV,dW]
      have W:=cY r
      have X:∀j,j<esz->i*esz+j<(fl l).length:=fun j A=>by
       have:(i+1) *esz<=l.length*esz:=zF _ G;grind
      have hg:∀j (A:j<l[i].cells.length) (h':i*esz+j<(fl l).length),(fl l)[i*esz+j]=l[i].cells[j]:=fun j A h'=>by
       have:=fO r L (j:=j) (by omega);grind
      refine .pl l[i] 0 b (o+i*esz) (fun j=>cv (i*esz+j)) (fun j A=>?_) (fun j A=>?_) (fun y I=>?_);grind;grind
      .obtain⟨j,A,rfl⟩:=ze.1 I;grind
    grind
   grind
  .rename_i n id off len p;split at g
   .split at g
    .rename_i es esz Y;split at g
     .simp at g;subst g
      cases E with
      |vnil _ a=>omega
      |ref _ _ _ b Q cap C' Z f B a0 s R=>
       obtain⟨b',C,t',h1,_⟩:=H.rowR (T _ _ Y) B;rw[h1]at B;cases B;refine⟨.pointer (some ⟨b,(off+i) *esz+0,none⟩),?_,.ptr _ _ _ _ _ h1⟩;simp[Instr.indexAt,asIntOf,aT q];simp_all[bV,dW,yX]
     grind
    grind
   grind
  grind
 .rename_i i len e F q;obtain⟨k,rfl⟩:=qR hi F;split at g
  .rename_i n p;split at g
   .cases x<;>simp only[lA,reduceCtorEq,zV]at g
    case ptr id j o=>
     subst g
     cases E with
     |ptr _ _ _ b esz B=>
      refine⟨.pointer (some ⟨b,j*esz+(o+i*n),none⟩),?_,.ptr _ _ _ _ _ B⟩;simp[Instr.indexAt,asIntOf,aT q,Instr.sureAddr,bV p,dW,yG];omega
    case pl y o=>
     subst g
     cases E with
     |pl _ _ b S cv h1 h2 h3=>
      refine⟨.pointer (some ⟨b,S+(o+i*n),none⟩),?_,.pl y _ b S cv h1 h2 h3⟩;simp[Instr.indexAt,asIntOf,aT q,Instr.sureAddr,bV p,dW,yG];omega
   grind
  grind
 grind
theorem U5 {t:TypeId}{x q d:D}{v r:Value}(z:VR m pr w x v)(hi:VR m pr w q r)(a:index P t x q=some d):
 ∃u,(Instr.index t v r).run P w=.ok u w/\VR m pr w d u:=by
 unfold index at a;split at a
 .rename_i i len e cs g h;obtain⟨k,rfl⟩:=qR hi g;obtain⟨vs,rfl,A,C,f⟩:=z.aggs;split at a
  .split at a
   .rename_i n o c;split at a
    .simp at a;subst a;refine⟨.agg (vs.extract (i*n) (i*n+n)),by simp[Instr.index,asIntOf,aT h,bV c,part,pY o];omega,?_⟩;refine .agg _ _ (by grind) (fun j I E=>?_) (fun y F=>f y (yJ (zt F)));grind
    grind
   .rename_i n o c;obtain⟨G,rfl⟩:=yB.1 a;refine⟨vs[i*n]'(by omega),?_,C _ G (by omega)⟩;simp[Instr.index,asIntOf,aT h,bV c,part,pY o,yC (show i*n<vs.size by omega)];omega
   grind
  grind
 .rename_i i s g h;obtain⟨k,rfl⟩:=qR hi g;cases z;split at a
  .rename_i b B;simp at a;subst a;refine⟨.int .u8 b.toNat,?_,.int _ _⟩
   have H:s[i]?=some b:=by
    rw[ByteArray.toList_eq]at B;obtain⟨⟨l⟩⟩:=s;obtain⟨p,rfl⟩:=yB.1 B;have:i<(ByteArray.mk ⟨l⟩).size:=p;simp[this];rfl
   simp_all[Instr.index,asIntOf,aT]
  grind
 grind
end Go.F
