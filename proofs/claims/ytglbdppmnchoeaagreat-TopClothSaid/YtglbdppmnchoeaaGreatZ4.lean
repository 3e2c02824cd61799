/- Part 4. -/
import Derived.Test.YtglbdppmnchoeaaGreatZ3
import Derived.Laws.BytesString
import Derived.Laws.Append
import Derived.Laws.MakeOwn
namespace Go.F
variable {P:Program}{c:Ctx}{m:Map}{pr:aM}{h hr:ab}{z:Frz}{w:World}
theorem X1 {l:Hm}{a:List UInt8}(b:mi l=some a):∃ns:List Int,l=ns.map (D.int .u8)/\a=ns.map fun n=>UInt8.ofNat n.toNat:=by
 induction l generalizing a with
 |nil=>simp_all[mi]
 |cons d l c=>
  unfold mi at b;split at b
  grind
  .rename_i n h e;cases e
   cases f:mi l with
   |none=>grind
   |some g=>
    obtain⟨ns,rfl,rfl⟩:=c f;exact⟨n::ns,rfl,by grind⟩
  grind
theorem OO (ns:List Int):fl (ns.map (D.int .u8))=ns.map (D.int .u8):=by
 induction ns with
 |nil=>rfl
 |cons n ns a=>
  have:fl ((n::ns).map (D.int .u8))=.int .u8 n::fl (ns.map (D.int .u8)):=rfl;grind
theorem UA (ns:List Int)(s:ByteArray):ns.foldl (fun r n=>r.push (UInt8.ofNat n.toNat)) s=⟨s.data++(ns.map fun n=>UInt8.ofNat n.toNat).toArray⟩:=by
 induction ns generalizing s with
 |nil=>rfl
 |cons n ns a=>
  simp_all
theorem TH {x:D}{v:Value}{l:Hm}{i:List UInt8}(H:HR c m h z w)(r:Sub hr h)(s:VR m (Pr c m h z) w x v)(t:window hr x=some l)(u:mi l=some i):
 (Conv.bytesToString v).run P w=.ok (.string ⟨i.toArray⟩) w/\∃a n k,v=.slice a n k:=by
 obtain⟨⟨y,cap,rfl,p,d⟩,q,_⟩:=sq H r s t;obtain⟨ns,rfl,rfl⟩:=X1 u;refine⟨?_,_,_,_,rfl⟩;have A:=OO ns
 cases B:ns with
 |nil=>
  cases y with
  |none=>rfl
  |some a=>rfl
 |cons I C=>
  obtain⟨b,o,f,rfl,E⟩:=d (by grind);rw[<-B]
  have g:∀k (F:k<ns.length),f k=.int .u8 ns[k]/\w.cell? ⟨b,o+k,none⟩=some (.int .u8 ns[k]):=by
   intro k F;have h1:=E k (by grind);have G:(fl (ns.map (D.int .u8)))[k]'(by grind)=.int .u8 ns[k]:=by grind
   rw[G]at h1;have h3:f k=.int .u8 ns[k]:=h1.2.ints rfl;grind
  have e:(loadCells ⟨b,o,none⟩ (ns.map (D.int .u8)).length).run P w=.ok (ns.map (Value.int .u8)).toArray w:=by
   have:=run_loadCells_list (P:=P) w ⟨b,o,none⟩ (ns.map (Value.int .u8)) (fun j v J=>by
    rw[dW]
    grind)
   grind
  rw[run_bytesToString w _ _ _ ns e,UA];simp
theorem Xo {src e:TypeId}{x d:D}{v:Value}(H:HR c m h z w)(i:Sub hr h)(f:VR m (Pr c m h z) w x v)(b:conv P hr src e x=some d):
 ∃u,(convert src e v).run P w=.ok u w/\VR m (Pr c m h z) w d u:=by
 unfold conv at b
 split at b
 .simp at b;subst b;cases f;exact⟨_,by simp_all[convert,aT,Conv.intToInt],.int _ _⟩
 .simp at b;subst b;cases f;exact⟨_,by simp_all[convert,aT,Conv.intToFloat],.float _ _⟩
 .cases f;split at b
  .split at b
   .simp at b;subst b;exact⟨_,by simp_all[convert,aT,Conv.floatToInt],.int _ _⟩
   grind
  grind
 .simp at b;subst b;cases f;exact⟨_,by simp_all[convert,aT],.str _⟩
 .split at b
  .split at b
   .rename_i l j;split at b
    .cases g:mi l with
     |none=>grind
     |some o=>
      simp[g]at b;subst b;obtain⟨h1,a,n,k,rfl⟩:=TH (P:=P) H i f j g;refine⟨.string ⟨o.toArray⟩,?_,.str _⟩;rw[run_convert_bytes_string w src e _ a n k (by omega) (by omega) (by omega)];omega
    grind
   grind
  grind
 grind
theorem Tk {p:List TypeId}{o:Hm}{vs:List Value}{d:D}(H:HR c m h z w)(q:Sub hr h)(E:o.length=vs.length)(t:∀k (_:k<o.length) (_:k<vs.length),VR m (Pr c m h z) w o[k] vs[k])
 (f:sD P hr p o=some d) (ty:TypeId):∃u,(Builtin.len_ p.toArray ty vs.toArray).run P w=.ok u w/\VR m (Pr c m h z) w d u:=by
 unfold sD at f;split at f
 .cases vs with
  |nil=>grind
  |cons v vs=>
   cases vs with
   |cons _ _=>grind
   |nil=>
    have j:=t 0 (by simp) (by simp);split at f
    .rename_i s g;simp at f;subst f;cases j;exact⟨_,by simp[Builtin.len_,aT g];rfl,.int _ _⟩
    .rename_i n e _ g;simp at f;subst f;exact⟨_,by simp[Builtin.len_,aT g];rfl,.int _ _⟩
    .rename_i e g;simp at f;subst f;cases j;exact⟨_,by simp[Builtin.len_,aT g];rfl,.int _ _⟩
    .rename_i e l g;simp at f;subst f
     cases j with
     |lst0=>exact⟨_,by simp[Builtin.len_,aT g];rfl,.int _ _⟩
     |lst=>exact⟨_,by simp[Builtin.len_,aT g];rfl,.int _ _⟩
    .rename_i e a b n g;simp at f;subst f
     cases j with
     |ref=>exact⟨_,by simp[Builtin.len_,aT g];rfl,.int _ _⟩
     |vnil=>exact⟨_,by simp[Builtin.len_,aT g];rfl,.int _ _⟩
    .simp at f;subst f
     cases j with
     |mlst _ _ r i es F G h1 x I y=>
      refine⟨.int .i64 es.size,?_,by rw[h1];exact .int _ _⟩;simp_all[Builtin.len_,aT,getObj,Sem.run,goInt]
    .rename_i k e id g;split at f
     .rename_i A _ B;simp at f;subst f;obtain⟨r,es,i,h1,x,h3,C⟩:=H.mp id A _ (q _ _ B)
      cases j with
      |mref _ r' J=>
       refine⟨.int .i64 es.size,?_,by rw[C.1];exact .int _ _⟩;simp_all[Builtin.len_,aT,getObj,Sem.run,goInt]
     grind
    grind
 grind
theorem Tw {c:List TypeId}{b:Hm}{vs:List Value}{d:D}(i:b.length=vs.length)(f:∀k (_:k<b.length) (_:k<vs.length),VR m pr w b[k] vs[k])
 (a:uA P c b=some d) (ty:TypeId):∃u,(Builtin.cap_ c.toArray ty vs.toArray).run P w=.ok u w/\VR m pr w d u:=by
 unfold uA at a;split at a
 .cases vs with
  |nil=>grind
  |cons v vs=>
   cases vs with
   |cons _ _=>grind
   |nil=>
    have g:=f 0 (by simp) (by simp);split at a
    .rename_i e h;simp at a;subst a;cases g;exact⟨_,by simp[Builtin.cap_,aT h];rfl,.int _ _⟩
    grind
 grind
theorem K3 {a b:ByteArray}(c:(a==b)=true):a=b:=by
 rw[beq_toListBytes]at c;have d:a.toList=b.toList:=by grind
 rw[ByteArray.toList_eq,ByteArray.toList_eq]at d;obtain⟨⟨x⟩⟩:=a;simp_all
theorem bytes_beq (a:ByteArray):(a==a)=true:=by simp[beq_toListBytes]
theorem QG {x y:D}(h:iq x y=some true):x=y:=by
 cases x<;>cases y<;>simp only[iq,reduceCtorEq,zV]at h;grind;grind
 case str.str a b=>rw[K3 h]
theorem VV:∀{d:List Field} {a c:Hm},dh P d a c=some true->a=c:=by
 intro d
 induction d with
 |nil=>grind[dh]
 |cons f d e=>
  intro a c h
  cases a with
  |nil=>trivial
  |cons x a=>
   cases c with
   |nil=>trivial
   |cons y c=>
    simp only[dh]at h;split at h
    .cases g:iq x y with
     |none=>grind
     |some b=>
      cases b with
      |true=>grind[QG]
      |false=>grind
    grind
theorem Nt {d:Nat}{b:Bool}{t:TypeId}{u:Array Field}{Q:TypeId->Option (List Field)}{q:List Field}{j:Array Value}(C:P.underlying t=some (.struct u))(h:gZ P Q u.toList 0=some q)(n:q.length<=j.size)
 (D:∀{t:TypeId} {A:List Field} {ys:Array Value},Q t=some A->A.length<=ys.size->(Instr.checkKey b (d+1) t (.agg ys)).run P w=.ok () w):(Instr.checkKey b (d+2) t (.agg j)).run P w=.ok () w:=by
 rw[Instr.checkKey];simp only[Sem.run_bind,aT C,Result.andThen_ok];rw[<-Array.forIn_toList];have c:q.length+0<=j.size:=n;generalize u.toList=L at h;generalize 0=i at h c;clear n
 induction L generalizing i q with
 |nil=>simp
 |cons f L B=>
  simp only[gZ]at h;split at h
  .rename_i k;split at h
   .rename_i l v;cases h;simp at c;obtain⟨e,a,g⟩:=BH k;have s:(part f.type j f.offset).run P w=.ok (j[i]'(by omega)) w:=tZ g (by grind)
    have x:(Instr.checkKey b (d+1) f.type (j[i]'(by omega))).run P w=.ok () w:=by
     simp[N3]at k;have h3:=k.2;split at h3<;>first|(rename_i y;simp[Instr.checkKey,aT y];done) |grind
    simp only[List.forIn_cons,Sem.run_bind,a,ne_eq,not_false_eq_true,if_true,Result.andThen_ok,s,x];exact B (i+1) v (by omega)
   grind
  split at h
  .rename_i l z;split at h
   .rename_i m;obtain⟨e,a,p,g⟩:=m;split at h
    .rename_i r hr;cases h;rw[zL]at c;have s:=Bz (w:=w) (cs:=j) (o:=f.offset) g p;rw[e]at s;have x:=D (ys:=j.extract i (i+l.length)) z (by grind);simp only[List.forIn_cons,Sem.run_bind,a,ne_eq,not_false_eq_true,if_true,Result.andThen_ok,e,s,x];exact B (i+l.length) hr (by omega)
    grind
   grind
  grind
theorem Qk {a:List Field}:∀{i:Nat},(a.zipIdx i).all (fun x=>N3 P x.1 x.2)=true->gZ P (fun _=>none) a i=some a:=by
 induction a with
 |nil=>intro i _;rfl
 |cons f a b=>
  simp_all[gZ]
theorem Dy {b:Bool}:∀(n:Nat) {d:Nat} {t:TypeId} {a:List Field} {e:Array Value},jq P n t=some a->a.length<=e.size->(Instr.checkKey b (d+2+n) t (.agg e)).run P w=.ok () w
 |0,d,t,a,e,h,f=>by
  obtain⟨j,g,rfl,c,_⟩:=Ao h;exact Nt g (Qk c) f (fun h=>nomatch h)
 |n+1,d,t,a,e,h,f=>by
  rcases Ar h with h|⟨j,g,i,_⟩
  .have:=Dy n (b:=b) (d:=d+1) h f;grind
  rw[show d+2+(n+1)=(d+1+n)+2 by omega];refine Nt g i f ?_;intro t a ys h1 k;have:=Dy n (b:=b) (d:=d) h1 k;grind
theorem oV {kt:TypeId}{k:D}(h:fP P kt k=true):gf k=true:=by
 unfold fP at h;split at h
 .rfl
 .simp only[zJ]at h;exact h.1
 grind
theorem VB {kt:TypeId}{s:ByteArray}{b:Bool}{n:Nat}(a:P.underlying kt=some .string):(Instr.checkKey b (n+1) kt (.string s)).run P w=.ok () w:=by
 simp[Instr.checkKey,aT a]
theorem qx {kt:TypeId}{k:D}{b:Bool}(h:fP P kt k=true):(Instr.checkKey b 10000 kt (bM k)).run P w=.ok () w:=by
 unfold fP at h;split at h
 .rename_i e;exact VB (n:=9999) e
 .simp at h;obtain⟨f,a,c⟩:=h.2;exact Dy 2 (d:=9996) a (by grind)
 grind
theorem YB {kt:TypeId}{k:D}(t:fP P kt k=true):∀(a:Hm) (es:List MapEntry) (i:Nat) (r:Option Nat),a.length=es.length->(∀j (_:j<a.length) (_:j<es.length),gf a[j]=true/\es[j].key=bM a[j])->
 findKey P kt k a i=some r->∃o,(match P.underlying kt with|some .string=>Instr.findNow .string (bM k) es i=some o|_=>(Instr.findAsking kt (bM k) es i).run P w=.ok o w)/\
  match r with
  |some j=>∃h:j-i<es.length,i<=j/\o=some (j,es[j-i].val)/\bM k=es[j-i].key
  |none=>o=none:=by
 intro a
 induction a with
 |nil=>
  intro es i r u _ c
  cases es with
  |nil=>
   simp[findKey]at c;subst c;refine⟨none,?_,rfl⟩;split<;>rfl
  |cons e es=>grind
 |cons x a v=>
  intro es i r u n c
  cases es with
  |nil=>grind
  |cons e es=>
   have h0:=n 0 (by simp) (by simp);simp at h0;have f:∀j (_:j<a.length) (_:j<es.length),gf a[j]=true/\es[j].key=bM a[j]:=fun j h1 p=>by have:=n (j+1) (by grind) (by grind);grind
   simp only[findKey]at c
   cases g:m5 P kt k x with
   |none=>grind
   |some b=>
    rw[g]at c
    have d:(match P.underlying kt with|some .string=>Instr.sameNow .string (bM k) e.key=some b|_=>(Op.equal kt (bM k) e.key).run P w=.ok b w)/\(b=true->bM k=e.key):=by
     rw[h0.2];unfold m5 at g;split at g
     .split at g
      .rename_i q;cases g;rw[q];refine⟨rfl,fun s=>?_⟩;have:=K3 s;grind
      grind
     .rename_i l y
      have z:P.underlying kt≠some .string:=by
       intro q;simp_all[fP]
      have hr:=IV (P:=P) (w:=w) (m:=aS) (pr:=fun _ _=>True) (VR.ofKey (oV t)) (VR.ofKey h0.1) g;refine⟨?_,fun s=>?_⟩;grind
      .have:l=y:=by
        grind[equal,VV]
       grind
     grind
    cases b with
    |true=>
     simp at c;subst c;have h1:=d.1;split
     .grind[Instr.findNow]
     split at h1
     grind;simp_all[Instr.findAsking]
    |false=>
     obtain⟨o,p,h3⟩:=v es (i+1) r (by grind) f c;refine⟨o,?_,?_⟩
     .have h1:=d.1;split
      .grind[Instr.findNow]
      split at h1
      grind
      .split at p
       grind;simp_all[Instr.findAsking]
     cases r with
     |none=>omega
     |some j=>
      grind
theorem run_findKey {kt:TypeId}{k:D}{c:Hm}{es:Array MapEntry}{r:Option Nat}(f:fP P kt k=true)(t:c.length=es.size)(q:∀j (_:j<c.length) (_:j<es.size),gf c[j]=true/\es[j].key=bM c[j])
 (s:findKey P kt k c 0=some r):∃o,(Instr.findKey kt (bM k) es.toList).run P w=.ok o w/\match r with
   |some j=>∃h:j<es.size,o=some (j,es[j].val)/\bM k=es[j].key
   |none=>o=none:=by
 obtain⟨o,h1,u⟩:=YB (w:=w) f c es.toList 0 r (by omega) (fun j a b=>by grind) s;refine⟨o,?_,?_⟩
 .have g:∃d,P.underlying kt=some d:=by
   unfold fP at f;grind
  obtain⟨d,g⟩:=g;simp[Instr.findKey,aT g];by_cases v:d=.string
  simp_all
  .have i:(Instr.findAsking kt (bM k) es.toList).run P w=.ok o w:=by
    grind
   have m:∃p,d=.struct p:=by
    unfold fP at f;grind
   obtain⟨p,rfl⟩:=m
   cases n:es.toList with
   |nil=>
    simp_all[Instr.findAsking,Instr.findNow]
   |cons e l=>
    rw[n]at i
    trivial
 grind
theorem lg {t:TypeId}{d:D}(a:zeroOf P t=some d):∃i v,P.info? t=some i/\i.zero=some v/\d=eh v:=by
 unfold zeroOf at a
 cases hi:P.info? t with
 |none=>grind
 |some i=>
  cases b:i.zero with
  |none=>grind
  |some v=>grind
theorem kX {t:TypeId}{i:TypeInfo}{v:Value}(hi:P.info? t=some i)(a:i.zero=some v):(zeroValue t).run P w=.ok v w:=by
 simp_all[zeroValue,qG]
theorem Ll {mt:TypeId}{p:Hm}{vs:Hm}{k d:D}{q:Value}{ok:Bool}{r b:Nat}{es:Array MapEntry}(E:w.heap[r]?=some (.map es b))(z:MapIn m pr w p vs es)
 (s:VR m pr w k q) (c:pI P mt p vs k ok=some d):∃u,(Instr.lookup mt (.map (some r)) q ok).run P w=.ok u w/\VR m pr w d u:=by
 obtain⟨t,F,x,G⟩:=z;have f:(getObj r).run P w=.ok (.map es b) w:=by grind[getObj,Sem.run]
 unfold pI at c;split at c
 .rename_i kt e A;split at c
  .rename_i i a h;have g:=s.key (oV a);obtain⟨o,h1,B,rfl,_⟩:=run_findKey (w:=w) a t x h
   cases y:vs[i]? with
   |none=>grind
   |some H=>
    simp[y]at c;refine⟨if ok then .tuple #[es[i].val,.bool true]else es[i].val,?_,?_⟩
    .simp[Instr.lookup,aT A,f,g,qx a,h1]
    cases ok;grind
    .rw[<-c];refine .tup _ _ rfl (fun j l n=>?_)
     match j,l with
     |0,_=>grind
     |1,_=>exact .bool _
  .rename_i a h;have g:=s.key (oV a);obtain⟨o,h1,rfl⟩:=run_findKey (w:=w) a t x h
   cases C:zeroOf P e with
   |none=>grind
   |some I=>
    obtain⟨i,v,hi,y,rfl⟩:=lg C;simp_all[Instr.lookup,aT,qx,kX]
    .cases ok;grind[jN]
     .rw[<-c];refine .tup _ _ rfl (fun j l n=>?_)
      match j,l with
      |0,_=>simp[jN]
      |1,_=>exact .bool _
  grind
 grind
theorem TW {mt:TypeId}{x k d:D}{vx e:Value}{ok:Bool}(H:HR c m h z w)(n:Sub hr h)(f:VR m (Pr c m h z) w x vx)(o:VR m (Pr c m h z) w k e)(b:lookup P hr mt x k ok=some d):
 ∃u,(Instr.lookup mt vx e ok).run P w=.ok u w/\VR m (Pr c m h z) w d u:=by
 cases x<;>simp only[lookup,reduceCtorEq]at b
 case mlst g vs=>
  cases f with
  |mlst _ _ r a es p v h1 j h3 l=>exact Ll p ⟨h1,j,h3,fun i q s=>(l i q s).up⟩ o b
 case mref id=>
  split at b
  .rename_i g vs t;obtain⟨r,es,a,h1,j,h3,l⟩:=H.mp id g vs (n _ _ t)
   cases f with
   |mref _ r' y=>
    grind[Ll]
  grind
end Go.F
namespace Go.F
variable {P:Program}{c:Ctx}{m:Map}{pr:aM}{h hr:ab}{z:Frz}{w:World}
theorem ud {B:Nat}{w w':World}{o:Obj}(d:B<=w.heap.size)(a:w'.heap=w.heap.push o)(h1:w'.os=w.os)(b:w'.tape=w.tape)(h3:w'.output=w.output)(c:w.drawn<=w'.drawn:=by first|exact zD _|exact Nat.le_succ _):Below B w w':=
 ⟨⟨h1,b,h3,by rw[a];simp,fun k e=>by rw[a,Array.getElem?_push_lt (by omega),yC (by omega)]⟩,c⟩
theorem Sim.row {id:Nat}{es:Hm}{n:Nat}{v:D}{u:Value}{C:Array Value}{t:TypeId}{w':World}{a:Result Next}(H:HR c m h z w)(b:m id=none)(d:RowIn m (Pr c m h z) w es n C)
 (f:w'.heap=w.heap.push (.cells C t)) (h1:w'.os=w.os) (g:w'.tape=w.tape) (h3:w'.output=w.output) (e:a=.ok (.value u) w')
 (i:VR (upd m id (some (w.heap.size,n))) (Pr c (upd m id (some (w.heap.size,n))) (upd h id (some (.row es n))) (upd z id 0)) w' v u) (j:w.drawn<=w'.drawn:=by first|exact zD _|exact Nat.le_succ _):Sim c m h z w id (newRow id es n v) a:=
 ⟨.value u,w',upd m id (some (w.heap.size,n)),e,.inl ⟨u,rfl,i⟩,
  H.new b f (by simp) (.inl ⟨es,C,t,rfl,rfl,d⟩),Ev.new b f,fun k l=>upd_ne l,ud H.base f h1 g h3 j⟩
theorem VR.newPtr {id n:Nat}{pr':aM}{w':World}(size:Nat):VR (upd m id (some (size,n))) pr' w' (.ptr id 0 0) (.pointer (some ⟨size,0,none⟩)):=by
 have:=VR.ptr (m:=upd m id (some (size,n))) (pr:=pr') (w:=w') id 0 0 size n (upd_same ..);grind
theorem VR.newRef {id n len cap:Nat}{pr':aM}{w':World}{C:Array Value}{t:TypeId}(size:Nat)(a:w'.heap[size]?=some (.cells C t))(c:cap*n<=C.size)(b:len<=cap):
 VR (upd m id (some (size,n))) pr' w' (.ref id 0 len) (.slice (some ⟨size,0,none⟩) len cap):=by
 have:=VR.ref (m:=upd m id (some (size,n))) (pr:=pr') (w:=w') id 0 len size n cap C t (0,0) (upd_same ..) a (by grind) b;grind
theorem RowIn.single {d:D}{v:Value}(a:VR m pr w d v)(b:d.sto=true)(h0:0<d.cells.length):RowIn m pr w [d] d.cells.length v.cells:=by
 obtain⟨h1,f,h3⟩:=a.cells b;have c:fl [d]=d.cells:=by simp[fl]
 refine⟨h0,by simp,by grind,fun k g e=>?_,by grind⟩;grind
theorem Rs {id:Nat}{e:TypeId}{d:D}(H:HR c m h z w)(a:m id=none)(b:zeroOf P e=some d)(h0:0<d.cells.length)(f:d.sto=true):
 Sim c m h z w id (newRow id [d] d.cells.length (.ptr id 0 0)) ((do pure (Next.value (<-Instr.alloc e true (.tuple #[]))):Sem Next).run P w):=by
 obtain⟨i,v,hi,g,rfl⟩:=lg b;refine Sim.row (t:=e) (C:=v.cells) (w':=w.alloc (.cells v.cells e)) H a (RowIn.single (jN v) f h0) rfl rfl rfl rfl ?_ (VR.newPtr _);simp_all[Instr.alloc,kX,newVar,Go.newRow]
theorem Pt {id:Nat}{e:TypeId}{d:D}{v:Value}(H:HR c m h z w)(a:m id=none)(b:VR m (Pr c m h z) w d v)(h0:0<d.cells.length)(f:d.sto=true):
 Sim c m h z w id (newRow id [d] d.cells.length (.ptr id 0 0)) ((do pure (Next.value (<-Instr.box e v)):Sem Next).run P w):=by
 refine Sim.row (t:=e) (C:=v.cells) (w':=w.alloc (.cells v.cells e)) H a (RowIn.single b f h0) rfl rfl rfl rfl ?_ (VR.newPtr _);rfl
theorem Wx {n k:Nat}{d:D}(c:k<(fl (List.replicate n d)).length)(h0:0<d.cells.length):(fl (List.replicate n d))[k]=d.cells[k%d.cells.length]'(zI _ h0):=by
 have a:∀e∈List.replicate n d,e.cells.length=d.cells.length:=fun e f=>by grind
 have g:=cY a
 have b:k/d.cells.length<n:=by
  exact ym (by grind)
 have:=fO a (i:=k/d.cells.length) (e:=d) (by grind) (j:=k%d.cells.length) (zI _ h0);rw[zx,yH]at this;grind
theorem RowIn.replicate {d:D}{v:Value}{n N:Nat}(c:VR m pr w d v)(f:d.sto=true)(h0:0<d.cells.length)(o:n*d.cells.length<=N):
 RowIn m pr w (List.replicate n d) d.cells.length ((Array.range N).map (v.cells[· %v.cells.size]!)):=by
 obtain⟨h1,p,h3⟩:=c.cells f;have a:∀e∈List.replicate n d,e.cells.length=d.cells.length:=fun e b=>by grind
 have q:=cY a;refine⟨h0,a,by grind,fun k g h=>?_,fun e b=>?_⟩
 .rw[Wx g h0];grind
 obtain⟨l,i,j⟩:=List.mem_flatten.1 b;grind
theorem lu {t e:TypeId}(a:elemOf P t=some e):P.underlying t=some (.slice e):=by
 unfold elemOf at a;grind
theorem XL {id:Nat}{ty e:TypeId}{l a:Int}{n b:Nat}{d:D}(H:HR c m h z w)(f:m id=none)(s:elemOf P ty=some e)(I:sizeOf P e=some n)(J:bytesOf P e=some b)(x:zeroOf P e=some d)
 (h0:0<n) (y:0<=l) (g:l<=a) (q:a*(b+1)<=aK) (A:d.cells.length=n) (B:d.sto=true):
 Sim c m h z w id (newRow id (List.replicate l.toNat d) n (.ref id 0 l.toNat)) ((do pure (Next.value (<-Instr.makeSlice ty (.int .i64 l) (.int .i64 a))):Sem Next).run P w):=by
 obtain⟨i,v,hi,E,rfl⟩:=lg x;have F:i.size=n:=by grind[sizeOf]
 have G:i.bytes=b:=by grind[bytesOf]
 subst A;have j:0<=a:=by omega
 have k:((aK:Nat):Int)=1099511627776:=by rfl
 have o:a<=1099511627776:=by
  have h1:a*1<=a*((b:Int)+1):=xO (by omega) j;omega
 have p:(i.bytes:Int) *a<=281474976710656:=by
  grind
 have r:=run_make (P:=P) w ty e i v (lu s) hi E .i64 .i64 l a y g p (by omega)
 refine Sim.row (t:=e) (C:=madeCells v.cells (a.toNat*(eh v).cells.length)) (w':=w.alloc (.cells (madeCells v.cells (a.toNat*(eh v).cells.length)) e)) H f
  (RowIn.replicate (jN v) B h0 (zF _ (by omega))) rfl rfl rfl rfl (u:=.slice (some ⟨w.heap.size,0,none⟩) l.toNat a.toNat) ?_
  (VR.newRef _ (heap_alloc_new w _) (by simp[size_madeCells]) (by omega))
 simp_all
theorem F3 (vs:List Value):∀(a:Array Value) (off k:Nat),off+k+vs.length<=a.size->
 ((vs.zipIdx k).foldl (fun cs x=>cs.setIfInBounds (off+x.2) x.1) a).toList=a.toList.take (off+k)++vs++a.toList.drop (off+k+vs.length):=by
 induction vs with
 |nil=>simp
 |cons v vs c=>
  intro a off k b;simp at b⊢;rw[c _ off (k+1) (by grind)];simp;have d:off+k<(a.toList.set (off+k) v).length:=by grind
  rw[show off+(k+1)=(off+k)+1 by omega,yd d,x9,yx (zD _),wO (by omega)];grind
structure Cells (m:Map)(pr:aM)(w:World)(l:Hm)(C:List Value):Prop where
 len:l.length=C.length
 vr:∀k (h1:k<l.length) (h2:k<C.length),VR m pr w l[k] C[k]
 one:∀e∈l,e.one=true
theorem Cells.append {l c:Hm}{C d:List Value}(h1:Cells m pr w l C)(a:Cells m pr w c d):Cells m pr w (l++c) (C++d):=by
 refine⟨by simp[h1.len,a.len],fun k i f=>?_,fun e g=>?_⟩
 .by_cases b:k<l.length
  .rw[yu b,yu (by have:=h1.len;omega)];simp[h1.vr]
  have j:=h1.len;grind[a.vr]
 rcases za.1 g with h|h
 grind[h1.one];grind[a.one]
theorem Cells.take {l:Hm}{C:List Value}(h1:Cells m pr w l C)(n:Nat):Cells m pr w (l.take n) (C.take n):=
 ⟨by simp[h1.len],fun k c a=>by simp[h1.vr],fun e b=>h1.one e (zt b)⟩
theorem Cells.drop {l:Hm}{C:List Value}(h1:Cells m pr w l C)(n:Nat):Cells m pr w (l.drop n) (C.drop n):=
 ⟨by simp[h1.len],fun k c a=>by simp[h1.vr],fun e b=>h1.one e (yJ b)⟩
theorem VR.toCells {d:D}{v:Value}(a:VR m pr w d v)(b:d.sto=true):Cells m pr w d.cells v.cells.toList:=by
 obtain⟨h1,e,h3⟩:=a.cells b;exact⟨by omega,fun k f c=>by grind,h3⟩
theorem Cells.agg {l:Hm}{C:List Value}(h:Cells m pr w l C):VR m pr w (.agg l) (.agg C.toArray):=
 .agg l _ (by simp[h.len]) (fun k b a=>by simp[h.vr]) h.one
theorem Fy {t:ai}{ρ:Operand->Value}(o:pg m pr w t ρ)(place:Nat->Option (Nat×Nat)):∀(parts:List (Nat×Operand)) (l:Hm) (C:Array Value) (d:Hm),Cells m pr w l C.toList->
 iN t place l parts=some d->∃k:Array Value,Instr.fill place C (parts.map fun p=>(p.1,ρ p.2))=some k/\Cells m pr w d k.toList:=by
 intro parts
 induction parts with
 |nil=>intro l C d e b;simp[iN]at b;subst b;exact⟨C,rfl,e⟩
 |cons p parts q=>
  obtain⟨i,x⟩:=p;intro l C d e b;simp only[iN]at b;split at b
  grind
  .rename_i off size f;split at b
   .rename_i c;obtain⟨h1,r,h3⟩:=c;have g:=(o x).toCells h3;have n:(ρ x).cells.size=size:=by grind[g.len]
    have s:l.length=C.size:=by simp[e.len]
    simp only[zg,Instr.fill,f]
    have a:((ρ x).cells.size≠size||off+(ρ x).cells.size>C.size)=false:=by
     grind
    simp only[a];refine q _ _ d ?_ b;have h:=F3 (ρ x).cells.toList C off 0 (by grind);rw[<-xp,Array.toList_zipIdx];rw[h];have j:(ρ x).cells.toList.length=(ev t x).cells.length:=g.len.symm;rw[j];exact(e.take _|>.append g).append (e.drop _)
   grind
theorem S0 {c:Array Field}{a:List (Nat×Nat)}(b:Zx P c.toList=some a):
 (c.mapM fun f=>(do pure (f.offset,<-Go.sizeOf f.type):Sem (Nat×Nat))).run P w=.ok a.toArray w:=by
 rw[wa];unfold Zx at b
 have key:∀(l:List Field) (a:List (Nat×Nat)),l.mapM (fun f=>(sizeOf P f.type).map fun n=>(f.offset,n))=some a->
  (l.mapM fun f=>(do pure (f.offset,<-Go.sizeOf f.type):Sem (Nat×Nat))).run P w=.ok a w:=by
  intro l
  induction l with
  |nil=>simp
  |cons f l e=>
   intro a b;simp at b⊢
   cases g:sizeOf P f.type with
   |none=>grind
   |some n=>
    cases h:l.mapM (fun f=>(sizeOf P f.type).map fun n=>(f.offset,n))with
    |none=>grind
    |some d=>
     simp_all[bV]
 simp_all
theorem run_build {t:ai}{ρ:Operand->Value}{ty:TypeId}{parts:Array (Nat×Operand)}{d:D}(p:pg m pr w t ρ)(b:build P t ty parts.toList=some d):
 ∃v,(Instr.build ty (parts.map fun(i,x)=>(i,ρ x))).run P w=.ok v w/\VR m pr w d v:=by
 unfold build at b;split at b
 .rename_i s z' q h;obtain⟨i,v,hi,r,rfl⟩:=lg h;split at b
  .rename_i c f;split at b
   .rename_i a
    cases g:iN t (fun i=>c[i]?) (eh v).cells parts.toList with
    |none=>grind
    |some j=>
     simp[g]at b;subst b;obtain⟨l,h1,o⟩:=Fy (m:=m) (pr:=pr) (w:=w) p (fun i=>c[i]?) parts.toList _ v.cells j ((jN v).toCells a) g;refine⟨.agg l,?_,by have:=o.agg;omega⟩;simp only[Instr.build,Sem.run_bind,kX hi r,Result.andThen_ok,aT q,S0 f];simp_all
   grind
  grind
 .rename_i n e z' q h;obtain⟨i,v,hi,r,rfl⟩:=lg h;split at b
  .rename_i k u;split at b
   .rename_i a
    cases g:iN t (fun i=>some (i*k,k)) (eh v).cells parts.toList with
    |none=>grind
    |some j=>
     simp[g]at b;subst b;obtain⟨l,h1,o⟩:=Fy (m:=m) (pr:=pr) (w:=w) p (fun i=>some (i*k,k)) parts.toList _ v.cells j ((jN v).toCells a) g;refine⟨.agg l,?_,by have:=o.agg;omega⟩;simp_all[Instr.build,kX,aT,bV]
   grind
  grind
 grind
end Go.F
namespace Go.F
variable {P:Program}{c:Ctx}{m:Map}{pr:aM}{h hr:ab}{z zr:Frz}{w:World}
theorem D4 {es:Hm}{n i:Nat}{v:D}(a:∀e∈es,e.cells.length=n)(hi:i<es.length):
 fl (es.set i v)=(fl es).take (i*n)++v.cells++(fl es).drop (i*n+n):=by
 rw[List.set_eq_take_append_cons_drop,ve hi,oe];have:fl (v::es.drop (i+1))=v.cells++fl (es.drop (i+1)):=by rfl
 simp_all[n4,sH,y3]
theorem Cells.ofRow {es:Hm}{n:Nat}{C:Array Value}(hr:RowIn m pr w es n C)(a:(fl es).length=C.size):Cells m pr w (fl es) C.toList:=
 ⟨by omega,fun k h1 b=>by exact hr.2.2.2.1 _ _ _,hr.2.2.2.2⟩
theorem Cells.toRow {es:Hm}{n:Nat}{C:Array Value}{rest:List Value}{l:List Value}(a:Cells m pr w (fl es) l)(g:C.toList=l++rest)(h0:0<n)(b:∀e∈es,e.cells.length=n):RowIn m pr w es n C:=by
 have c:C.size=l.length+rest.length:=by grind[Array.length_toList]
 refine⟨h0,b,by grind[a.len],fun k h d=>?_,a.one⟩;have f:k<l.length:=by grind[a.len]
 have:C[k]=l[k]:=by
  have i:C.toList[k]'(by omega)=l[k]:=by grind
  grind
 grind[a.vr]
theorem UT {t:ai}{ρ:Operand->Value}(o:pg m pr w t ρ){n:Nat}:∀(parts:List (Nat×Operand)) (es:Hm) (C:Array Value) (es':Hm),(∀e∈es,e.cells.length=n)->Cells m pr w (fl es) C.toList->
 iZ t n es parts=some es'->(∀e∈es',e.cells.length=n)/\es'.length=es.length/\∃j:Array Value,Instr.fill (fun i=>some (i*n,n)) C (parts.map fun p=>(p.1,ρ p.2))=some j/\Cells m pr w (fl es') j.toList:=by
 intro parts
 induction parts with
 |nil=>intro es C es' a d c;simp[iZ]at c;subst c;exact⟨a,rfl,C,rfl,d⟩
 |cons p parts q=>
  obtain⟨i,x⟩:=p;intro es C es' a d c;simp only[iZ]at c;split at c
  .rename_i b;obtain⟨h1,k,h3⟩:=b;have l:=(o x).toCells h3;have f:(ρ x).cells.size=n:=by grind[l.len]
   have u:(fl es).length=C.size:=by simp[d.len]
   have r:=cY a
   have s:i*n+n<=es.length*n:=by
    have:(i+1) *n<=es.length*n:=zF _ k;grind
   have g:∀e∈es.set i (ev t x),e.cells.length=n:=by
    grind
   simp[Instr.fill];have h:=F3 (ρ x).cells.toList C (i*n) 0 (by grind);simp only[yy,f]at h
   obtain⟨v,y,j,z,A⟩:=q (es.set i (ev t x)) (((ρ x).cells.zipIdx).foldl (fun cs x=>cs.setIfInBounds (i*n+x.2) x.1) C) es' g (by
    rw[<-xp,Array.toList_zipIdx,h,D4 a k]
    exact(d.take _|>.append l).append (d.drop _)) c
   grind
  grind
theorem Q5 {id:Nat}{t:ai}{ρ:Operand->Value}{ty e:TypeId}{len n:Nat}{parts:Array (Nat×Operand)}{d:D}{es:Hm}(H:HR c m h z w)(g:m id=none)(q:pg m (Pr c m h z) w t ρ)
 (r:elemOf P ty=some e) (s:sizeOf P e=some n) (y:zeroOf P e=some d) (h0:0<n) (l:len*n<=2^24) (A:d.cells.length=n) (B:d.sto=true) (E:iZ t n (List.replicate len d) parts.toList=some es):
 Sim c m h z w id (newRow id es n (.ref id 0 len)) ((do pure (Next.value (<-Instr.buildSlice ty len (parts.map fun(i,x)=>(i,ρ x)))):Sem Next).run P w):=by
 obtain⟨i,v,hi,K,rfl⟩:=lg y;subst A;have b:=RowIn.replicate (n:=len) (N:=len*(eh v).cells.length) (jN (m:=m) (pr:=Pr c m h z) (w:=w) v) B h0 (zD _);have F:∀x∈List.replicate len (eh v),x.cells.length=(eh v).cells.length:=fun x L=>by grind
 have G:=Cells.ofRow b (by simp[cY]);obtain⟨I,M,j,o,p⟩:=UT q parts.toList _ _ es F G E
 have k:j.size=len*(eh v).cells.length:=by
  have:=p.len;grind[cY]
 refine Sim.row (t:=e) (C:=j) (w':=w.alloc (.cells j e)) H g (Cells.toRow p (rest:=[]) (by simp) h0 I) rfl rfl rfl rfl (u:=.slice (some ⟨w.heap.size,0,none⟩) len len) ?_
  (VR.newRef _ (heap_alloc_new w _) (by omega) (zD _))
 have a:¬(len*(eh v).cells.length>2^24):=by omega
 simp only[Sem.run_bind,Instr.buildSlice,aT (lu r),Result.andThen_ok,bV s,a,vE];by_cases f:len*(eh v).cells.length=0
 .simp only[f,if_true];simp only[f]at o;have J:(Array.range 0).map (fun x=>(#[]:Array Value)[x%(#[]:Array Value).size]!)=(Array.range 0).map (v.cells[· %v.cells.size]!):=by simp
  rw[Sem.run_bind,Sem.run_pure,Result.andThen_ok,J,Array.toList_map,o];rfl
 simp_all[kX,Go.newRow]
def OptVR (m:Map)(pr:aM)(w:World):Option D->Option Value->Prop
 |none,none=>True
 |some d,some v=>VR m pr w d v
 |_,_=>False
theorem CM {t:ai}{ρ:Operand->Value}(a:pg m pr w t ρ)(x:Option Operand):OptVR m pr w (dT t x) (x.map ρ):=by
 cases x with
 |none=>trivial
 |some x=>exact a x
theorem run_sliceBound {d:D}{v:Value}{n y:Nat}{a:BoundsCode}(b:VR m pr w d v)(c:jJ d=some n)(e:n<=y):(Instr.sliceBound v y a).run P w=.ok n w:=by
 obtain⟨k,rfl⟩:=qR b c;simp_all[Instr.sliceBound,asIntOf]
theorem OptVR.parts {x:Option D}{v:Option Value}(h:OptVR m pr w x v):(x=none/\v=none)\/∃d u,x=some d/\v=some u/\VR m pr w d u:=by
 cases x with
 |none=>
  cases v with
  |none=>simp
  |some u=>trivial
 |some d=>
  cases v with
  |none=>trivial
  |some u=>exact .inr ⟨d,u,rfl,rfl,h⟩
theorem oL {isSlice:Bool}{len cap a b:Nat}{lo hi:Option D}{vlo vhi:Option Value}(h1:OptVR m pr w lo vlo)(i:OptVR m pr w hi vhi)(c:bound lo 0=some a)(d:bound hi len=some b)(e:a<=b)(f:b<=cap):
 (Instr.sliceBounds isSlice len cap vlo vhi none).run P w=.ok (a,b,cap) w:=by
 rcases h1.parts with⟨rfl,rfl⟩ |⟨j,k,rfl,rfl,g⟩<;>rcases i.parts with⟨rfl,rfl⟩ |⟨l,n,rfl,rfl,h⟩
 simp_all[bound,Instr.sliceBounds]
 .simp[bound]at c d;subst c;simp[Instr.sliceBounds,run_sliceBound h d f]
 .simp[bound]at c d;subst d;simp[Instr.sliceBounds,run_sliceBound g c e]
 simp[Instr.sliceBounds,run_sliceBound g c e,run_sliceBound h d f]
theorem u6 {len cap:Nat}{lo hi c:Option D}{vlo vhi a:Option Value}(h1:OptVR m pr w lo vlo)(f:OptVR m pr w hi vhi)(h3:OptVR m pr w c a)(j:bound lo 0=some 0)(g:bound hi len=some 0)
 (k:∃d,c=some d/\nk hi d=true):
 (Instr.sliceBounds true len cap vlo vhi a).run P w=.ok (0,0,0) w:=by
 obtain⟨d,rfl,b⟩:=k;have h:hi=none->False:=fun e=>by grind[nk]
 have i:jJ d=some 0:=by
  unfold nk at b;grind
 cases a with
 |none=>trivial
 |some l=>
  cases hi with
  |none=>grind
  |some n=>
   cases vhi with
   |none=>trivial
   |some o=>
    cases lo with
    |none=>
     cases vlo with
     |none=>simp[Instr.sliceBounds,run_sliceBound h3 i (zB cap),run_sliceBound f g (zD 0)]
     |some _=>trivial
    |some p=>
     cases vlo with
     |none=>trivial
     |some q=>
      simp[Instr.sliceBounds,run_sliceBound h3 i (zB cap),run_sliceBound f g (zD 0),run_sliceBound h1 j (zD 0)]
theorem jb {t:TypeId}{d:TypeDesc}(b:P.underlying t=some d)(c:∀n e,d≠ .array n e)(x:Value)(lo hi a:Option Value):
 (Instr.sliceAt t x lo hi a).run P w=(Instr.slice t x lo hi a).run P w:=by
 simp_all[Instr.sliceAt,aT]
theorem W4 (n:Nat)(ag:Bool):∀(k:Nat) (cs:Hm),(chunks n ag k cs).length=k:=by
 intro k
 induction k with
 |zero=>intro cs;rfl
 |succ k a=>grind[chunks]
theorem QX {n:Nat}{ag:Bool}(h0:0<n)(c:ag=true\/n=1):∀(k:Nat) (cs:Hm),k*n<=cs.length->(∀e∈cs,e.one=true)->
 fl (chunks n ag k cs)=cs.take (k*n)/\∀e∈chunks n ag k cs,e.cells.length=n:=by
 intro k
 induction k with
 |zero=>simp[chunks,fl]
 |succ k g=>
  intro cs d a
  have b:(if ag then D.agg (cs.take n)else cs.headD .bad).cells=cs.take n/\(cs.take n).length=n:=by
   refine⟨?_,by grind⟩
   cases ag with
   |true=>rfl
   |false=>
    have f:n=1:=by grind
    subst f
    cases cs with
    |nil=>grind
    |cons x cs=>
     have h:=a x (zO ..);cases x<;>first|rfl|trivial
  constructor
  .have:fl (chunks n ag (k+1) cs)=(if ag then D.agg (cs.take n)else cs.headD .bad).cells++fl (chunks n ag k (cs.drop n)):=by rfl
   grind[Nat.succ_mul]
  grind[chunks]
theorem Sim.frozen {id:Nat}{d:D}{l:List (Nat×Nat)}{v:Value}{a:Result Next}(H:HR c m h z w)(e:∀p∈l,p.2=aV h p.1)(b:a=.ok (.value v) w)(f:VR m (Pr c m h (aJ z l)) w d v):
 Sim c m h z w id ⟨d,[],l⟩ a:=
 ⟨.value v,w,m,b,.inl ⟨v,rfl,f⟩,H.freeze e,Ev.freeze H e,fun _ _=>rfl,Below.refl _ _⟩
theorem YA {id:Nat}{ty:TypeId}{x:D}{v:Value}{lo hi mx:Option D}{vlo vhi M:Option Value}{r:Out}(H:HR c m h z w)(hs:Sub hr h)(N:VR m (Pr c m h z) w x v)
 (h1:OptVR m (Pr c m h z) w lo vlo) (O:OptVR m (Pr c m h z) w hi vhi) (h3:OptVR m (Pr c m h z) w mx M) (g:ll P hr ty x lo hi mx=some r):
 Sim c m h z w id r ((do pure (Next.value (<-Instr.sliceAt ty v vlo vhi M)):Sem Next).run P w):=by
 have fin:∀{d:D} {u:Value},(Instr.sliceAt ty v vlo vhi M).run P w=.ok u w->VR m (Pr c m h z) w d u->Sim c m h z w id (out d) ((do pure (Next.value (<-Instr.sliceAt ty v vlo vhi M)):Sem Next).run P w):=
  fun hr hv=>Sim.val H (by simp[hr]) hv
 unfold ll at g;split at g
 .rename_i s y;cases N;split at g
  .rename_i l r' B E;split at g
   .rename_i hc;simp at g;subst g;rcases h3.parts with⟨_,rfl⟩ |⟨d,u,e,_⟩
    .refine fin (u:=.string (s.extract l r')) ?_ (.str _);rw[jb y (by simp)];simp[Instr.slice,aT y,oL h1 O B E hc.1 hc.2]
    grind
   grind
  grind
 .rename_i e y;split at g
  grind
  .cases N with
   |nilsl a=>
    have go:(Instr.sliceBounds true 0 0 vlo vhi M).run P w=.ok (0,0,0) w->r=out .nilsl->Sim c m h z w id r ((do pure (Next.value (<-Instr.sliceAt ty (.slice a 0 0) vlo vhi M)):Sem Next).run P w):=by
     rintro U rfl;refine fin (u:=.slice a 0 0) ?_ (.nilsl a);rw[jb y (by simp)];simp_all[Instr.slice,aT,bV]
    split at g
    .rename_i B E;simp at g;rcases h3.parts with⟨_,rfl⟩ |⟨d,u,e',_⟩
     .exact go (oL h1 O B E (zD 0) (zD 0)) g.symm
     grind
    .rename_i W B E;split at g
     .rename_i A;simp at g;exact go (u6 h1 O h3 B E ⟨W,rfl,A⟩) g.symm
     grind
    grind
 .rename_i e l y;split at g
  grind
  .rename_i n X;split at g
   .split at g
    .rename_i a b B E;split at g
     .rename_i G;simp at g;subst g;rcases h3.parts with⟨_,rfl⟩ |⟨d,u,e',_⟩
      .have I:((l.drop a).take (b-a)).length=b-a:=by grind
       cases N with
       |lst0 Y cap=>
        have J:b=0:=by grind
        have c8:a=0:=by omega
        subst J;subst c8;refine fin (u:=.slice Y 0 cap) ?_ (.lst0 _ _);rw[jb y (by simp)];have q:=oL (P:=P) (isSlice:=true) (len:=0) (cap:=cap) h1 O B E G.1 (zB _);simp[Instr.slice,aT y,q,bV X]
        cases Y with
        |none=>simp
        |some x=>simp[Addr.add]
       |lst _ Q o cap esz cv h8 Z a6 R h9 hv V=>
        have S:esz=n:=by
         cases l with
         |nil=>grind
         |cons x xs=>
          simp_all
        subst S;have q:=oL (P:=P) (isSlice:=true) (cap:=cap) h1 O B E G.1 (zR G.2 R);by_cases a7:b-a=0
        .have a8:(l.drop a).take (b-a)=[]:=by grind
         rw[a8];refine fin (u:=.slice (some (if cap=a then⟨Q,o,none⟩else⟨Q,o+a*esz,none⟩)) 0 (cap-a)) ?_ (.lst0 _ _);rw[jb y (by simp)];simp[Instr.slice,aT y,q,bV X,a7];by_cases T:cap=a<;>simp[T,dW]
        refine fin (u:=.slice (some ⟨Q,o+a*esz,none⟩) ((l.drop a).take (b-a)).length (cap-a)) ?_ ?_
        .rw[jb y (by simp),I];have T:¬cap=a:=by omega
         simp_all[Instr.slice,aT,bV,dW]
        have c9:fl ((l.drop a).take (b-a))=((fl l).drop (a*esz)).take ((b-a) *esz):=by
         rw[n4 (fun x N=>Z x (yJ N)),sH Z]
        refine .lst _ Q (o+a*esz) (cap-a) esz (fun k=>cv (a*esz+k)) (fun L=>by grind)
         (fun x N=>Z x (yJ (zt N))) a6 (by omega) (fun k hk=>?_) (fun k hk=>?_) (fun x N=>?_)
        grind;grind;grind
      grind
     grind
    .rename_i W B E;split at g
     .rename_i A;simp at g;subst g
      have e3:∃ao cap,v=.slice ao l.length cap:=by
       cases N with
       |lst0 Y cap=>simp
       |lst _ Q o cap esz cv=>simp
      obtain⟨ao,cap,rfl⟩:=e3;refine fin (u:=.slice ao 0 0) ?_ (.nilsl _);rw[jb y (by simp)];simp[Instr.slice,aT y,u6 (cap:=cap) h1 O h3 B E ⟨W,rfl,A⟩,bV X]
     grind
    grind
   grind
 .rename_i e id0 off len y;split at g
  .rename_i es esz n J X;split at g
   .rename_i S;subst S
    cases N with
    |vnil _ Y=>
     split at g
     .rename_i a b B E;split at g
      .rename_i G;rcases h3.parts with⟨_,rfl⟩ |⟨d,u,e',_⟩
       .have q:=oL (P:=P) (isSlice:=true) (cap:=0) h1 O B E G.1 (by omega);have a9:b=0:=by omega
        have b1:a=0:=by omega
        subst a9 b1;simp at g;subst g;refine fin (u:=.slice Y 0 0) ?_ (.vnil _ _);rw[jb y (by simp)]
        cases Y with
        |none=>simp_all[Instr.slice,aT,bV]
        |some a1=>simp_all[Instr.slice,aT,bV]
       grind
      grind
     .rename_i W B E;split at g
      .rename_i A;simp at g;subst g;refine fin (u:=.slice Y 0 0) ?_ (.nilsl _);rw[jb y (by simp)];simp[Instr.slice,aT y,u6 (cap:=0) h1 O h3 B E ⟨W,rfl,A⟩,bV X]
      grind
     grind
    |ref _ _ _ Q b3 cap C t f hm b4 R I=>
     obtain⟨b',C',t',g1,g2,g3,g4⟩:=H.rowR (hs _ _ J) hm;rw[g1]at hm;cases hm;rw[g3]at b4;cases b4;split at g
     .rename_i a b B E;split at g
      .rename_i G;rcases h3.parts with⟨_,rfl⟩ |⟨d,u,e',_⟩
       .have q:=oL (P:=P) (isSlice:=true) (cap:=cap) h1 O B E G.1 (zR G.2 I);split at g
        .simp at g;subst g;refine fin (u:=.slice (some ⟨Q,off*esz,none⟩) b cap) ?_ (.ref _ _ _ _ _ _ C t _ g1 g3 R (by omega));rw[jb y (by simp)];simp_all[Instr.slice,aT,bV,dW]
        split at g
        .rename_i b6;subst b6;simp at g;subst g;refine fin (u:=.slice (some (if cap=a then⟨Q,off*esz,none⟩else⟨Q,off*esz+a*esz,none⟩)) 0 (cap-a)) ?_ (.lst0 _ _);rw[jb y (by simp)];simp[Instr.slice,aT y,q,bV X];by_cases T:cap=a<;>simp[T,dW]
        simp at g;subst g;refine fin (u:=.slice (some ⟨Q,(off+a) *esz,none⟩) (b-a) (cap-a)) ?_ (.ref _ _ _ _ _ _ C t _ g1 g3 ?_ (by omega))
        .rw[jb y (by simp)];have T:¬cap=a:=by omega
         simp_all[Instr.slice,aT,bV,dW,yX]
        grind
       grind
      grind
     .rename_i W B E;split at g
      .rename_i A;simp at g;subst g;refine fin (u:=.slice (some ⟨Q,off*esz,none⟩) 0 0) ?_ (.nilsl _);rw[jb y (by simp)];simp[Instr.slice,aT y,u6 (cap:=cap) h1 O h3 B E ⟨W,rfl,A⟩,bV X]
      grind
     grind
   grind
  grind
 .rename_i n e id0 i o y;split at g
  .rename_i cs F ag k hc i0 hk;split at g
   .rename_i a2;obtain⟨c1,c2,c3,c4⟩:=a2;simp at g;subst g
    have i3:F=o:=by
     simp only[jt]at hc;grind
    obtain⟨b,o1,f,hv,f1,f2⟩:=EW H hs N hc
    obtain⟨b2,K,e6,b7⟩:∃b2 K,m id0=some (b2,K)/\v=.pointer (some ⟨b2,i*K+F,none⟩):=by
     cases N with
     |ptr _ _ _ b2 K hm=>grind
    subst hv;simp at b7
    have b8:∃es esz,hr id0=some (.row es esz)/\∃L,es[i]?=some L/\cs=L.cells:=by
     simp only[jt]at hc;grind
    obtain⟨es,esz,J,L,b9,rfl⟩:=b8;obtain⟨b',C,t,g1,g2,g3,g4⟩:=H.rowR (hs _ _ J) e6
    have e7:∀p∈[(id0,aV hr id0)],p.2=aV h p.1:=by
     intro p hp;simp at hp;subst hp;simp[aV,J,hs _ _ J]
    have e1:b2=b'/\K=esz:=by grind
    obtain⟨e8,i4⟩:=e1;have e9:b=b'/\o1=i*esz:=⟨b7.1.trans e8,by grind⟩;obtain⟨rfl,rfl⟩:=e9
    have g0:∀j,j<L.cells.length->Pr c m h (aJ z [(id0,aV hr id0)]) b (i*esz+j):=by
     intro j hj;refine .inr ⟨g2,fun⟨a3,b3,w1,w2,w3⟩=>?_⟩;have c0:a3=id0:=H.inj a3 id0 _ _ w2 (by rw[hs _ _ J];simp) w1 g1 rfl;subst c0;simp only[aJ,upd_same]at w3;have I:aV hr a3=es.length:=by grind[aV]
     have hi:i<es.length:=(yB.1 b9).1;have he:L.cells.length=esz:=g4.2.1 L (zh b9);have:(i+1) *esz<=es.length*esz:=zF _ hi;grind
    have V:∀x∈L.cells.drop F,x.one=true:=fun x N=>f2 x (yJ N);obtain⟨q1,q2⟩:=QX (n:=k) (ag:=ag) c1 c3 n (L.cells.drop F) (by grind) V;have I:=W4 k ag n (L.cells.drop F)
    have U:(Instr.sliceAt ty (.pointer (some ⟨b,i*esz+F,none⟩)) none none none).run P w=.ok (.slice (some ⟨b,i*esz+F,none⟩) n n) w:=by
     have q:=oL (P:=P) (w:=w) (m:=m) (pr:=Pr c m h z) (isSlice:=false) (len:=n) (cap:=n) (lo:=none) (hi:=none) (vlo:=none) (vhi:=none) tr tr rfl rfl (zB _) (zD n);simp[Instr.sliceAt,aT y,Instr.sureAddr,q,bV hk];simp[dW]
    have g5:vlo=none/\vhi=none/\M=none:=by
     refine⟨?_,?_,?_⟩
     .rcases h1.parts with⟨_,e'⟩ |⟨_,_,e',_⟩
      omega;grind
     .rcases O.parts with⟨_,e'⟩ |⟨_,_,e',_⟩
      omega;grind
     rcases h3.parts with⟨_,e'⟩ |⟨_,_,e',_⟩
     omega;grind
    obtain⟨rfl,rfl,rfl⟩:=g5;refine Sim.frozen H e7 (v:=.slice (some ⟨b,i*esz+F,none⟩) n n) (by simp[U]) ?_;by_cases g6:n=0
    .subst g6;exact .lst0 _ _
    have c9:(fl (chunks k ag n (L.cells.drop F))).length=n*k:=by grind
    have g7:VR m (Pr c m h (aJ z [(id0,aV hr id0)])) w (.lst (chunks k ag n (L.cells.drop F))) (.slice (some ⟨b,i*esz+F,none⟩) (chunks k ag n (L.cells.drop F)).length n):=by
     refine .lst _ b (i*esz+F) n k (fun j=>f (F+j)) (fun e1=>by grind) q2 c1 (by omega) (fun j hj=>?_) (fun j hj=>?_) (fun x N=>?_);grind
     .have g8:F+j<L.cells.length:=by omega
      have:(fl (chunks k ag n (L.cells.drop F)))[j]=L.cells[F+j]:=by grind
      rw[this];exact((f1 (F+j) g8).2).scalar (zM.1 c4 _ (zE _))
     grind
    grind
   grind
  grind
 grind
end Go.F
