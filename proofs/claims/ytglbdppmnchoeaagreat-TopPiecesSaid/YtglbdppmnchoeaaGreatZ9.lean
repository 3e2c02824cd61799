/- Part 9. -/
import Derived.Test.YtglbdppmnchoeaaGreatZ8
set_option linter.all false
namespace Go.F
variable {P:Program}{c:Ctx}{m:Map}{pr:aM}{h hr:ab}{z zr:Frz}{w:World}
theorem D4 {es:List D}{n i:Nat}{v:D}(a:∀e∈es,e.cells.length=n)(hi:i<es.length):
 fl (es.set i v)=(fl es).take (i*n)++v.cells++(fl es).drop (i*n+n):=by
 rw[List.set_eq_take_append_cons_drop,if_pos hi,oe];have:fl (v::es.drop (i+1))=v.cells++fl (es.drop (i+1)):=by rfl
 simp_all[n4,sH,y3]
theorem Cells.ofRow {es:List D}{n:Nat}{C:Array Value}(hr:RowIn m pr w es n C)(a:(fl es).length=C.size):Cells m pr w (fl es) C.toList:=
 ⟨by omega,fun k h1 b=>by exact hr.2.2.2.1 _ _ _,hr.2.2.2.2⟩
theorem Cells.toRow {es:List D}{n:Nat}{C:Array Value}{rest:List Value}{l:List Value}(a:Cells m pr w (fl es) l)(g:C.toList=l++rest)(h0:0<n)(b:∀e∈es,e.cells.length=n):RowIn m pr w es n C:=by
 have c:C.size=l.length+rest.length:=by grind[Array.length_toList]
 refine⟨h0,b,by grind[a.len],fun k h d=>?_,a.one⟩;have f:k<l.length:=by grind[a.len]
 have:C[k]=l[k]:=by
  have i:C.toList[k]'(by omega)=l[k]:=by grind
  grind
 grind[a.vr]
theorem UT {t:ai}{ρ:Operand->Value}(o:pg m pr w t ρ){n:Nat}:∀(parts:List (Nat×Operand)) (es:List D) (C:Array Value) (es':List D),(∀e∈es,e.cells.length=n)->Cells m pr w (fl es) C.toList->
 iZ t n es parts=some es'->(∀e∈es',e.cells.length=n)/\es'.length=es.length/\∃j:Array Value,Instr.fill (fun i=>some (i*n,n)) C (parts.map fun p=>(p.1,ρ p.2))=some j/\Cells m pr w (fl es') j.toList:=by
 intro parts
 induction parts with
 |nil=>intro es C es' a d c;simp[iZ]at c;subst c;exact⟨a,rfl,C,rfl,d⟩
 |cons p parts q=>
  obtain⟨i,x⟩:=p;intro es C es' a d c;simp only[iZ]at c;split at c
  .rename_i b;obtain⟨h1,k,h3⟩:=b;have l:=(o x).toCells h3;have f:(ρ x).cells.size=n:=by grind[l.len]
   have u:(fl es).length=C.size:=by simp[d.len]
   have r:=cY a
   have s:i*n+n<=es.length*n:=by
    have:(i+1) *n<=es.length*n:=zF _ k;grind
   have g:∀e∈es.set i (ev t x),e.cells.length=n:=by
    grind
   simp[Instr.fill];have h:=F3 (ρ x).cells.toList C (i*n) 0 (by grind);simp only[yy,f]at h
   obtain⟨v,y,j,z,A⟩:=q (es.set i (ev t x)) (((ρ x).cells.zipIdx).foldl (fun cs x=>cs.setIfInBounds (i*n+x.2) x.1) C) es' g (by
    rw[<-xp,Array.toList_zipIdx,h,D4 a k]
    exact(d.take _|>.append l).append (d.drop _)) c
   grind
  grind
theorem Q5 {id:Nat}{t:ai}{ρ:Operand->Value}{ty e:TypeId}{len n:Nat}{parts:Array (Nat×Operand)}{d:D}{es:List D}(H:HR c m h z w)(g:m id=none)(q:pg m (Pr c m h z) w t ρ)
 (r:elemOf P ty=some e) (s:sizeOf P e=some n) (y:zeroOf P e=some d) (h0:0<n) (l:len*n<=2^24) (A:d.cells.length=n) (B:d.sto=true) (E:iZ t n (List.replicate len d) parts.toList=some es):
 Sim c m h z w id (newRow id es n (.ref id 0 len)) ((do pure (Next.value (<-Instr.buildSlice ty len (parts.map fun(i,x)=>(i,ρ x)))):Sem Next).run P w):=by
 obtain⟨i,v,hi,K,rfl⟩:=lg y;subst A;have b:=RowIn.replicate (n:=len) (N:=len*(eh v).cells.length) (jN (m:=m) (pr:=Pr c m h z) (w:=w) v) B h0 (zD _);have F:∀x∈List.replicate len (eh v),x.cells.length=(eh v).cells.length:=fun x L=>by grind
 have G:=Cells.ofRow b (by simp[cY]);obtain⟨I,M,j,o,p⟩:=UT q parts.toList _ _ es F G E
 have k:j.size=len*(eh v).cells.length:=by
  have:=p.len;grind[cY]
 refine Sim.row (t:=e) (C:=j) (w':=w.alloc (.cells j e)) H g (Cells.toRow p (rest:=[]) (by simp) h0 I) rfl rfl rfl rfl (u:=.slice (some ⟨w.heap.size,0,none⟩) len len) ?_
  (VR.newRef _ (heap_alloc_new w _) (by omega) (zD _))
 have a:¬(len*(eh v).cells.length>2^24):=by omega
 simp only[Sem.run_bind,Instr.buildSlice,aT (lu r),Result.andThen_ok,bV s,a,vE];by_cases f:len*(eh v).cells.length=0
 .simp only[f,if_true];simp only[f]at o;have J:(Array.range 0).map (fun x=>(#[]:Array Value)[x%(#[]:Array Value).size]!)=(Array.range 0).map (v.cells[· %v.cells.size]!):=by simp
  rw[Sem.run_bind,Sem.run_pure,Result.andThen_ok,J,Array.toList_map,o];rfl
 simp_all[kX,Go.newRow]
def OptVR (m:Map)(pr:aM)(w:World):Option D->Option Value->Prop
 |none,none=>True
 |some d,some v=>VR m pr w d v
 |_,_=>False
theorem CM {t:ai}{ρ:Operand->Value}(a:pg m pr w t ρ)(x:Option Operand):OptVR m pr w (dT t x) (x.map ρ):=by
 cases x with
 |none=>trivial
 |some x=>exact a x
theorem run_sliceBound {d:D}{v:Value}{n y:Nat}{a:BoundsCode}(b:VR m pr w d v)(c:jJ d=some n)(e:n<=y):(Instr.sliceBound v y a).run P w=.ok n w:=by
 obtain⟨k,rfl⟩:=qR b c;simp_all[Instr.sliceBound,asIntOf]
theorem OptVR.parts {x:Option D}{v:Option Value}(h:OptVR m pr w x v):(x=none/\v=none)\/∃d u,x=some d/\v=some u/\VR m pr w d u:=by
 cases x with
 |none=>
  cases v with
  |none=>simp
  |some u=>trivial
 |some d=>
  cases v with
  |none=>trivial
  |some u=>exact .inr ⟨d,u,rfl,rfl,h⟩
theorem oL {isSlice:Bool}{len cap a b:Nat}{lo hi:Option D}{vlo vhi:Option Value}(h1:OptVR m pr w lo vlo)(i:OptVR m pr w hi vhi)(c:bound lo 0=some a)(d:bound hi len=some b)(e:a<=b)(f:b<=cap):
 (Instr.sliceBounds isSlice len cap vlo vhi none).run P w=.ok (a,b,cap) w:=by
 rcases h1.parts with⟨rfl,rfl⟩ |⟨j,k,rfl,rfl,g⟩<;>rcases i.parts with⟨rfl,rfl⟩ |⟨l,n,rfl,rfl,h⟩
 simp_all[bound,Instr.sliceBounds]
 .simp[bound]at c d;subst c;simp[Instr.sliceBounds,run_sliceBound h d f]
 .simp[bound]at c d;subst d;simp[Instr.sliceBounds,run_sliceBound g c e]
 simp[Instr.sliceBounds,run_sliceBound g c e,run_sliceBound h d f]
theorem u6 {len cap:Nat}{lo hi c:Option D}{vlo vhi a:Option Value}(h1:OptVR m pr w lo vlo)(f:OptVR m pr w hi vhi)(h3:OptVR m pr w c a)(j:bound lo 0=some 0)(g:bound hi len=some 0)
 (k:∃d,c=some d/\nk hi d=true):
 (Instr.sliceBounds true len cap vlo vhi a).run P w=.ok (0,0,0) w:=by
 obtain⟨d,rfl,b⟩:=k;have h:hi=none->False:=fun e=>by grind[nk]
 have i:jJ d=some 0:=by
  unfold nk at b;grind
 cases a with
 |none=>trivial
 |some l=>
  cases hi with
  |none=>grind
  |some n=>
   cases vhi with
   |none=>trivial
   |some o=>
    cases lo with
    |none=>
     cases vlo with
     |none=>simp[Instr.sliceBounds,run_sliceBound h3 i (zB cap),run_sliceBound f g (zD 0)]
     |some _=>trivial
    |some p=>
     cases vlo with
     |none=>trivial
     |some q=>
      simp[Instr.sliceBounds,run_sliceBound h3 i (zB cap),run_sliceBound f g (zD 0),run_sliceBound h1 j (zD 0)]
theorem jb {t:TypeId}{d:TypeDesc}(b:P.underlying t=some d)(c:∀n e,d≠ .array n e)(x:Value)(lo hi a:Option Value):
 (Instr.sliceAt t x lo hi a).run P w=(Instr.slice t x lo hi a).run P w:=by
 simp_all[Instr.sliceAt,aT]
theorem W4 (n:Nat)(ag:Bool):∀(k:Nat) (cs:List D),(chunks n ag k cs).length=k:=by
 intro k
 induction k with
 |zero=>intro cs;rfl
 |succ k a=>grind[chunks]
theorem QX {n:Nat}{ag:Bool}(h0:0<n)(c:ag=true\/n=1):∀(k:Nat) (cs:List D),k*n<=cs.length->(∀e∈cs,e.one=true)->
 fl (chunks n ag k cs)=cs.take (k*n)/\∀e∈chunks n ag k cs,e.cells.length=n:=by
 intro k
 induction k with
 |zero=>simp[chunks,fl]
 |succ k g=>
  intro cs d a
  have b:(if ag then D.agg (cs.take n)else cs.headD .bad).cells=cs.take n/\(cs.take n).length=n:=by
   refine⟨?_,by grind⟩
   cases ag with
   |true=>rfl
   |false=>
    have f:n=1:=by grind
    subst f
    cases cs with
    |nil=>grind
    |cons x cs=>
     have h:=a x (zO ..);cases x<;>first|rfl|trivial
  constructor
  .have:fl (chunks n ag (k+1) cs)=(if ag then D.agg (cs.take n)else cs.headD .bad).cells++fl (chunks n ag k (cs.drop n)):=by rfl
   grind[Nat.succ_mul]
  grind[chunks]
theorem Sim.frozen {id:Nat}{d:D}{l:List (Nat×Nat)}{v:Value}{a:Result Next}(H:HR c m h z w)(e:∀p∈l,p.2=aV h p.1)(b:a=.ok (.value v) w)(f:VR m (Pr c m h (aJ z l)) w d v):
 Sim c m h z w id ⟨d,[],l⟩ a:=
 ⟨.value v,w,m,b,.inl ⟨v,rfl,f⟩,H.freeze e,Ev.freeze H e,fun _ _=>rfl,Below.refl _ _⟩
theorem YA {id:Nat}{ty:TypeId}{x:D}{v:Value}{lo hi mx:Option D}{vlo vhi M:Option Value}{r:Out}(H:HR c m h z w)(hs:Sub hr h)(N:VR m (Pr c m h z) w x v)
 (h1:OptVR m (Pr c m h z) w lo vlo) (O:OptVR m (Pr c m h z) w hi vhi) (h3:OptVR m (Pr c m h z) w mx M) (g:ll P hr ty x lo hi mx=some r):
 Sim c m h z w id r ((do pure (Next.value (<-Instr.sliceAt ty v vlo vhi M)):Sem Next).run P w):=by
 have fin:∀{d:D} {u:Value},(Instr.sliceAt ty v vlo vhi M).run P w=.ok u w->VR m (Pr c m h z) w d u->Sim c m h z w id (out d) ((do pure (Next.value (<-Instr.sliceAt ty v vlo vhi M)):Sem Next).run P w):=
  fun hr hv=>Sim.val H (by simp[hr]) hv
 unfold ll at g;split at g
 .rename_i s y;cases N;split at g
  .rename_i l r' B E;split at g
   .rename_i hc;simp at g;subst g;rcases h3.parts with⟨_,rfl⟩ |⟨d,u,e,_⟩
    .refine fin (u:=.string (s.extract l r')) ?_ (.str _);rw[jb y (by simp)];simp[Instr.slice,aT y,oL h1 O B E hc.1 hc.2]
    grind
   grind
  grind
 .rename_i e y;split at g
  grind
  .cases N with
   |nilsl a=>
    have go:(Instr.sliceBounds true 0 0 vlo vhi M).run P w=.ok (0,0,0) w->r=out .nilsl->Sim c m h z w id r ((do pure (Next.value (<-Instr.sliceAt ty (.slice a 0 0) vlo vhi M)):Sem Next).run P w):=by
     rintro U rfl;refine fin (u:=.slice a 0 0) ?_ (.nilsl a);rw[jb y (by simp)];simp_all[Instr.slice,aT,bV]
    split at g
    .rename_i B E;simp at g;rcases h3.parts with⟨_,rfl⟩ |⟨d,u,e',_⟩
     .exact go (oL h1 O B E (zD 0) (zD 0)) g.symm
     grind
    .rename_i W B E;split at g
     .rename_i A;simp at g;exact go (u6 h1 O h3 B E ⟨W,rfl,A⟩) g.symm
     grind
    grind
 .rename_i e l y;split at g
  grind
  .rename_i n X;split at g
   .split at g
    .rename_i a b B E;split at g
     .rename_i G;simp at g;subst g;rcases h3.parts with⟨_,rfl⟩ |⟨d,u,e',_⟩
      .have I:((l.drop a).take (b-a)).length=b-a:=by grind
       cases N with
       |lst0 Y cap=>
        have J:b=0:=by grind
        have c8:a=0:=by omega
        subst J;subst c8;refine fin (u:=.slice Y 0 cap) ?_ (.lst0 _ _);rw[jb y (by simp)];have q:=oL (P:=P) (isSlice:=true) (len:=0) (cap:=cap) h1 O B E G.1 (zB _);simp[Instr.slice,aT y,q,bV X]
        cases Y with
        |none=>simp
        |some x=>simp[Addr.add]
       |lst _ Q o cap esz cv h8 Z a6 R h9 hv V=>
        have S:esz=n:=by
         cases l with
         |nil=>grind
         |cons x xs=>
          simp_all
        subst S;have q:=oL (P:=P) (isSlice:=true) (cap:=cap) h1 O B E G.1 (zR G.2 R);by_cases a7:b-a=0
        .have a8:(l.drop a).take (b-a)=[]:=by grind
         rw[a8];refine fin (u:=.slice (some (if cap=a then⟨Q,o,none⟩else⟨Q,o+a*esz,none⟩)) 0 (cap-a)) ?_ (.lst0 _ _);rw[jb y (by simp)];simp[Instr.slice,aT y,q,bV X,a7];by_cases T:cap=a<;>simp[T,dW]
        refine fin (u:=.slice (some ⟨Q,o+a*esz,none⟩) ((l.drop a).take (b-a)).length (cap-a)) ?_ ?_
        .rw[jb y (by simp),I];have T:¬cap=a:=by omega
         simp_all[Instr.slice,aT,bV,dW]
        have c9:fl ((l.drop a).take (b-a))=((fl l).drop (a*esz)).take ((b-a) *esz):=by
         rw[n4 (fun x N=>Z x (yJ N)),sH Z]
        refine .lst _ Q (o+a*esz) (cap-a) esz (fun k=>cv (a*esz+k)) (fun L=>by grind)
         (fun x N=>Z x (yJ (zt N))) a6 (by omega) (fun k hk=>?_) (fun k hk=>?_) (fun x N=>?_)
        grind;grind;grind
      grind
     grind
    .rename_i W B E;split at g
     .rename_i A;simp at g;subst g
      have e3:∃ao cap,v=.slice ao l.length cap:=by
       cases N with
       |lst0 Y cap=>simp
       |lst _ Q o cap esz cv=>simp
      obtain⟨ao,cap,rfl⟩:=e3;refine fin (u:=.slice ao 0 0) ?_ (.nilsl _);rw[jb y (by simp)];simp[Instr.slice,aT y,u6 (cap:=cap) h1 O h3 B E ⟨W,rfl,A⟩,bV X]
     grind
    grind
   grind
 .rename_i e id0 off len y;split at g
  .rename_i es esz n J X;split at g
   .rename_i S;subst S
    cases N with
    |vnil _ Y=>
     split at g
     .rename_i a b B E;split at g
      .rename_i G;rcases h3.parts with⟨_,rfl⟩ |⟨d,u,e',_⟩
       .have q:=oL (P:=P) (isSlice:=true) (cap:=0) h1 O B E G.1 (by omega);have a9:b=0:=by omega
        have b1:a=0:=by omega
        subst a9 b1;simp at g;subst g;refine fin (u:=.slice Y 0 0) ?_ (.vnil _ _);rw[jb y (by simp)]
        cases Y with
        |none=>simp_all[Instr.slice,aT,bV]
        |some a1=>simp_all[Instr.slice,aT,bV]
       grind
      grind
     .rename_i W B E;split at g
      .rename_i A;simp at g;subst g;refine fin (u:=.slice Y 0 0) ?_ (.nilsl _);rw[jb y (by simp)];simp[Instr.slice,aT y,u6 (cap:=0) h1 O h3 B E ⟨W,rfl,A⟩,bV X]
      grind
     grind
    |ref _ _ _ Q b3 cap C t f hm b4 R I=>
     obtain⟨b',C',t',g1,g2,g3,g4⟩:=H.rowR (hs _ _ J) hm;rw[g1]at hm;cases hm;rw[g3]at b4;cases b4;split at g
     .rename_i a b B E;split at g
      .rename_i G;rcases h3.parts with⟨_,rfl⟩ |⟨d,u,e',_⟩
       .have q:=oL (P:=P) (isSlice:=true) (cap:=cap) h1 O B E G.1 (zR G.2 I);split at g
        .simp at g;subst g;refine fin (u:=.slice (some ⟨Q,off*esz,none⟩) b cap) ?_ (.ref _ _ _ _ _ _ C t _ g1 g3 R (by omega));rw[jb y (by simp)];simp_all[Instr.slice,aT,bV,dW]
        split at g
        .rename_i b6;subst b6;simp at g;subst g;refine fin (u:=.slice (some (if cap=a then⟨Q,off*esz,none⟩else⟨Q,off*esz+a*esz,none⟩)) 0 (cap-a)) ?_ (.lst0 _ _);rw[jb y (by simp)];simp[Instr.slice,aT y,q,bV X];by_cases T:cap=a<;>simp[T,dW]
        simp at g;subst g;refine fin (u:=.slice (some ⟨Q,(off+a) *esz,none⟩) (b-a) (cap-a)) ?_ (.ref _ _ _ _ _ _ C t _ g1 g3 ?_ (by omega))
        .rw[jb y (by simp)];have T:¬cap=a:=by omega
         simp_all[Instr.slice,aT,bV,dW,yX]
        grind
       grind
      grind
     .rename_i W B E;split at g
      .rename_i A;simp at g;subst g;refine fin (u:=.slice (some ⟨Q,off*esz,none⟩) 0 0) ?_ (.nilsl _);rw[jb y (by simp)];simp[Instr.slice,aT y,u6 (cap:=cap) h1 O h3 B E ⟨W,rfl,A⟩,bV X]
      grind
     grind
   grind
  grind
 .rename_i n e id0 i o y;split at g
  .rename_i cs F ag k hc i0 hk;split at g
   .rename_i a2;obtain⟨c1,c2,c3,c4⟩:=a2;simp at g;subst g
    have i3:F=o:=by
     simp only[jt]at hc;grind
    obtain⟨b,o1,f,hv,f1,f2⟩:=EW H hs N hc
    obtain⟨b2,K,e6,b7⟩:∃b2 K,m id0=some (b2,K)/\v=.pointer (some ⟨b2,i*K+F,none⟩):=by
     cases N with
     |ptr _ _ _ b2 K hm=>grind
    subst hv;simp at b7
    have b8:∃es esz,hr id0=some (.row es esz)/\∃L,es[i]?=some L/\cs=L.cells:=by
     simp only[jt]at hc;grind
    obtain⟨es,esz,J,L,b9,rfl⟩:=b8;obtain⟨b',C,t,g1,g2,g3,g4⟩:=H.rowR (hs _ _ J) e6
    have e7:∀p∈[(id0,aV hr id0)],p.2=aV h p.1:=by
     intro p hp;simp at hp;subst hp;simp[aV,J,hs _ _ J]
    have e1:b2=b'/\K=esz:=by grind
    obtain⟨e8,i4⟩:=e1;have e9:b=b'/\o1=i*esz:=⟨b7.1.trans e8,by grind⟩;obtain⟨rfl,rfl⟩:=e9
    have g0:∀j,j<L.cells.length->Pr c m h (aJ z [(id0,aV hr id0)]) b (i*esz+j):=by
     intro j hj;refine .inr ⟨g2,fun⟨a3,b3,w1,w2,w3⟩=>?_⟩;have c0:a3=id0:=H.inj a3 id0 _ _ w2 (by rw[hs _ _ J];simp) w1 g1 rfl;subst c0;simp only[aJ,upd_same]at w3;have I:aV hr a3=es.length:=by grind[aV]
     have hi:i<es.length:=(yB.1 b9).1;have he:L.cells.length=esz:=g4.2.1 L (zh b9);have:(i+1) *esz<=es.length*esz:=zF _ hi;grind
    have V:∀x∈L.cells.drop F,x.one=true:=fun x N=>f2 x (yJ N);obtain⟨q1,q2⟩:=QX (n:=k) (ag:=ag) c1 c3 n (L.cells.drop F) (by grind) V;have I:=W4 k ag n (L.cells.drop F)
    have U:(Instr.sliceAt ty (.pointer (some ⟨b,i*esz+F,none⟩)) none none none).run P w=.ok (.slice (some ⟨b,i*esz+F,none⟩) n n) w:=by
     have q:=oL (P:=P) (w:=w) (m:=m) (pr:=Pr c m h z) (isSlice:=false) (len:=n) (cap:=n) (lo:=none) (hi:=none) (vlo:=none) (vhi:=none) tr tr rfl rfl (zB _) (zD n);simp[Instr.sliceAt,aT y,Instr.sureAddr,q,bV hk];simp[dW]
    have g5:vlo=none/\vhi=none/\M=none:=by
     refine⟨?_,?_,?_⟩
     .rcases h1.parts with⟨_,e'⟩ |⟨_,_,e',_⟩
      omega;grind
     .rcases O.parts with⟨_,e'⟩ |⟨_,_,e',_⟩
      omega;grind
     rcases h3.parts with⟨_,e'⟩ |⟨_,_,e',_⟩
     omega;grind
    obtain⟨rfl,rfl,rfl⟩:=g5;refine Sim.frozen H e7 (v:=.slice (some ⟨b,i*esz+F,none⟩) n n) (by simp[U]) ?_;by_cases g6:n=0
    .subst g6;exact .lst0 _ _
    have c9:(fl (chunks k ag n (L.cells.drop F))).length=n*k:=by grind
    have g7:VR m (Pr c m h (aJ z [(id0,aV hr id0)])) w (.lst (chunks k ag n (L.cells.drop F))) (.slice (some ⟨b,i*esz+F,none⟩) (chunks k ag n (L.cells.drop F)).length n):=by
     refine .lst _ b (i*esz+F) n k (fun j=>f (F+j)) (fun e1=>by grind) q2 c1 (by omega) (fun j hj=>?_) (fun j hj=>?_) (fun x N=>?_);grind
     .have g8:F+j<L.cells.length:=by omega
      have:(fl (chunks k ag n (L.cells.drop F)))[j]=L.cells[F+j]:=by grind
      rw[this];exact((f1 (F+j) g8).2).scalar (zM.1 c4 _ (zE _))
     grind
    grind
   grind
  grind
 grind
end Go.F
