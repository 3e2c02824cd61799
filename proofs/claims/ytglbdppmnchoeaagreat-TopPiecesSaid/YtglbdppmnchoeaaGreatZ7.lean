/- Part 7. -/
import Derived.Test.YtglbdppmnchoeaaGreatZ6
import Derived.Laws.BytesString
import Derived.Laws.Append
import Derived.Laws.MakeOwn
set_option linter.all false
namespace Go.F
variable {P:Program}{c:Ctx}{m:Map}{pr:aM}{h hr:ab}{z:Frz}{w:World}
theorem X1 {l:List D}{a:List UInt8}(b:mi l=some a):∃ns:List Int,l=ns.map (D.int .u8)/\a=ns.map fun n=>UInt8.ofNat n.toNat:=by
 induction l generalizing a with
 |nil=>simp_all[mi]
 |cons d l c=>
  unfold mi at b;split at b
  grind
  .rename_i n h e;cases e
   cases f:mi l with
   |none=>grind
   |some g=>
    obtain⟨ns,rfl,rfl⟩:=c f;exact⟨n::ns,rfl,by grind⟩
  grind
theorem OO (ns:List Int):fl (ns.map (D.int .u8))=ns.map (D.int .u8):=by
 induction ns with
 |nil=>rfl
 |cons n ns a=>
  have:fl ((n::ns).map (D.int .u8))=.int .u8 n::fl (ns.map (D.int .u8)):=rfl;grind
theorem UA (ns:List Int)(s:ByteArray):ns.foldl (fun r n=>r.push (UInt8.ofNat n.toNat)) s=⟨s.data++(ns.map fun n=>UInt8.ofNat n.toNat).toArray⟩:=by
 induction ns generalizing s with
 |nil=>rfl
 |cons n ns a=>
  simp_all
theorem TH {x:D}{v:Value}{l:List D}{i:List UInt8}(H:HR c m h z w)(r:Sub hr h)(s:VR m (Pr c m h z) w x v)(t:window hr x=some l)(u:mi l=some i):
 (Conv.bytesToString v).run P w=.ok (.string ⟨i.toArray⟩) w/\∃a n k,v=.slice a n k:=by
 obtain⟨⟨y,cap,rfl,p,d⟩,q,_⟩:=sq H r s t;obtain⟨ns,rfl,rfl⟩:=X1 u;refine⟨?_,_,_,_,rfl⟩;have A:=OO ns
 cases B:ns with
 |nil=>
  cases y with
  |none=>rfl
  |some a=>rfl
 |cons I C=>
  obtain⟨b,o,f,rfl,E⟩:=d (by grind);rw[<-B]
  have g:∀k (F:k<ns.length),f k=.int .u8 ns[k]/\w.cell? ⟨b,o+k,none⟩=some (.int .u8 ns[k]):=by
   intro k F;have h1:=E k (by grind);have G:(fl (ns.map (D.int .u8)))[k]'(by grind)=.int .u8 ns[k]:=by grind
   rw[G]at h1;have h3:f k=.int .u8 ns[k]:=h1.2.ints rfl;grind
  have e:(loadCells ⟨b,o,none⟩ (ns.map (D.int .u8)).length).run P w=.ok (ns.map (Value.int .u8)).toArray w:=by
   have:=run_loadCells_list (P:=P) w ⟨b,o,none⟩ (ns.map (Value.int .u8)) (fun j v J=>by
    rw[dW]
    grind)
   grind
  rw[run_bytesToString w _ _ _ ns e,UA];simp
theorem Xo {src e:TypeId}{x d:D}{v:Value}(H:HR c m h z w)(i:Sub hr h)(f:VR m (Pr c m h z) w x v)(b:conv P hr src e x=some d):
 ∃u,(convert src e v).run P w=.ok u w/\VR m (Pr c m h z) w d u:=by
 unfold conv at b
 split at b
 .simp at b;subst b;cases f;exact⟨_,by simp_all[convert,aT,Conv.intToInt],.int _ _⟩
 .simp at b;subst b;cases f;exact⟨_,by simp_all[convert,aT,Conv.intToFloat],.float _ _⟩
 .cases f;split at b
  .split at b
   .simp at b;subst b;exact⟨_,by simp_all[convert,aT,Conv.floatToInt],.int _ _⟩
   grind
  grind
 .simp at b;subst b;cases f;exact⟨_,by simp_all[convert,aT],.str _⟩
 .split at b
  .split at b
   .rename_i l j;split at b
    .cases g:mi l with
     |none=>grind
     |some o=>
      simp[g]at b;subst b;obtain⟨h1,a,n,k,rfl⟩:=TH (P:=P) H i f j g;refine⟨.string ⟨o.toArray⟩,?_,.str _⟩;rw[run_convert_bytes_string w src e _ a n k (by omega) (by omega) (by omega)];omega
    grind
   grind
  grind
 grind
theorem Tk {p:List TypeId}{o:List D}{vs:List Value}{d:D}(H:HR c m h z w)(q:Sub hr h)(E:o.length=vs.length)(t:∀k (_:k<o.length) (_:k<vs.length),VR m (Pr c m h z) w o[k] vs[k])
 (f:sD P hr p o=some d) (ty:TypeId):∃u,(Builtin.len_ p.toArray ty vs.toArray).run P w=.ok u w/\VR m (Pr c m h z) w d u:=by
 unfold sD at f;split at f
 .cases vs with
  |nil=>grind
  |cons v vs=>
   cases vs with
   |cons _ _=>grind
   |nil=>
    have j:=t 0 (by simp) (by simp);split at f
    .rename_i s g;simp at f;subst f;cases j;exact⟨_,by simp[Builtin.len_,aT g];rfl,.int _ _⟩
    .rename_i n e _ g;simp at f;subst f;exact⟨_,by simp[Builtin.len_,aT g];rfl,.int _ _⟩
    .rename_i e g;simp at f;subst f;cases j;exact⟨_,by simp[Builtin.len_,aT g];rfl,.int _ _⟩
    .rename_i e l g;simp at f;subst f
     cases j with
     |lst0=>exact⟨_,by simp[Builtin.len_,aT g];rfl,.int _ _⟩
     |lst=>exact⟨_,by simp[Builtin.len_,aT g];rfl,.int _ _⟩
    .rename_i e a b n g;simp at f;subst f
     cases j with
     |ref=>exact⟨_,by simp[Builtin.len_,aT g];rfl,.int _ _⟩
     |vnil=>exact⟨_,by simp[Builtin.len_,aT g];rfl,.int _ _⟩
    .simp at f;subst f
     cases j with
     |mlst _ _ r i es F G h1 x I y=>
      refine⟨.int .i64 es.size,?_,by rw[h1];exact .int _ _⟩;simp_all[Builtin.len_,aT,getObj,Sem.run,goInt]
    .rename_i k e id g;split at f
     .rename_i A _ B;simp at f;subst f;obtain⟨r,es,i,h1,x,h3,C⟩:=H.mp id A _ (q _ _ B)
      cases j with
      |mref _ r' J=>
       refine⟨.int .i64 es.size,?_,by rw[C.1];exact .int _ _⟩;simp_all[Builtin.len_,aT,getObj,Sem.run,goInt]
     grind
    grind
 grind
theorem Tw {c:List TypeId}{b:List D}{vs:List Value}{d:D}(i:b.length=vs.length)(f:∀k (_:k<b.length) (_:k<vs.length),VR m pr w b[k] vs[k])
 (a:uA P c b=some d) (ty:TypeId):∃u,(Builtin.cap_ c.toArray ty vs.toArray).run P w=.ok u w/\VR m pr w d u:=by
 unfold uA at a;split at a
 .cases vs with
  |nil=>grind
  |cons v vs=>
   cases vs with
   |cons _ _=>grind
   |nil=>
    have g:=f 0 (by simp) (by simp);split at a
    .rename_i e h;simp at a;subst a;cases g;exact⟨_,by simp[Builtin.cap_,aT h];rfl,.int _ _⟩
    grind
 grind
theorem K3 {a b:ByteArray}(c:(a==b)=true):a=b:=by
 rw[beq_toListBytes]at c;have d:a.toList=b.toList:=by grind
 rw[ByteArray.toList_eq,ByteArray.toList_eq]at d;obtain⟨⟨x⟩⟩:=a;simp_all
theorem bytes_beq (a:ByteArray):(a==a)=true:=by simp[beq_toListBytes]
theorem QG {x y:D}(h:iq x y=some true):x=y:=by
 cases x<;>cases y<;>simp only[iq,reduceCtorEq,zV]at h;grind;grind
 case str.str a b=>rw[K3 h]
theorem VV:∀{d:List Field} {a c:List D},dh P d a c=some true->a=c:=by
 intro d
 induction d with
 |nil=>grind[dh]
 |cons f d e=>
  intro a c h
  cases a with
  |nil=>trivial
  |cons x a=>
   cases c with
   |nil=>trivial
   |cons y c=>
    simp only[dh]at h;split at h
    .cases g:iq x y with
     |none=>grind
     |some b=>
      cases b with
      |true=>grind[QG]
      |false=>grind
    grind
theorem Nt {d:Nat}{b:Bool}{t:TypeId}{u:Array Field}{Q:TypeId->Option (List Field)}{q:List Field}{j:Array Value}(C:P.underlying t=some (.struct u))(h:gZ P Q u.toList 0=some q)(n:q.length<=j.size)
 (D:∀{t:TypeId} {A:List Field} {ys:Array Value},Q t=some A->A.length<=ys.size->(Instr.checkKey b (d+1) t (.agg ys)).run P w=.ok () w):(Instr.checkKey b (d+2) t (.agg j)).run P w=.ok () w:=by
 rw[Instr.checkKey];simp only[Sem.run_bind,aT C,Result.andThen_ok];rw[<-Array.forIn_toList];have c:q.length+0<=j.size:=n;generalize u.toList=L at h;generalize 0=i at h c;clear n
 induction L generalizing i q with
 |nil=>simp
 |cons f L B=>
  simp only[gZ]at h;split at h
  .rename_i k;split at h
   .rename_i l v;cases h;simp at c;obtain⟨e,a,g⟩:=BH k;have s:(part f.type j f.offset).run P w=.ok (j[i]'(by omega)) w:=tZ g (by grind)
    have x:(Instr.checkKey b (d+1) f.type (j[i]'(by omega))).run P w=.ok () w:=by
     simp[lb]at k;have h3:=k.2;split at h3<;>first|(rename_i y;simp[Instr.checkKey,aT y];done) |grind
    simp only[List.forIn_cons,Sem.run_bind,a,ne_eq,not_false_eq_true,if_true,Result.andThen_ok,s,x];exact B (i+1) v (by omega)
   grind
  split at h
  .rename_i l z;split at h
   .rename_i m;obtain⟨e,a,p,g⟩:=m;split at h
    .rename_i r hr;cases h;rw[zL]at c;have s:=Bz (w:=w) (cs:=j) (o:=f.offset) g p;rw[e]at s;have x:=D (ys:=j.extract i (i+l.length)) z (by grind);simp only[List.forIn_cons,Sem.run_bind,a,ne_eq,not_false_eq_true,if_true,Result.andThen_ok,e,s,x];exact B (i+l.length) hr (by omega)
    grind
   grind
  grind
theorem Qk {a:List Field}:∀{i:Nat},(a.zipIdx i).all (fun x=>lb P x.1 x.2)=true->gZ P (fun _=>none) a i=some a:=by
 induction a with
 |nil=>intro i _;rfl
 |cons f a b=>
  simp_all[gZ]
theorem Dy {b:Bool}:∀(n:Nat) {d:Nat} {t:TypeId} {a:List Field} {e:Array Value},jq P n t=some a->a.length<=e.size->(Instr.checkKey b (d+2+n) t (.agg e)).run P w=.ok () w
 |0,d,t,a,e,h,f=>by
  obtain⟨j,g,rfl,c,_⟩:=Ao h;exact Nt g (Qk c) f (fun h=>nomatch h)
 |n+1,d,t,a,e,h,f=>by
  rcases Ar h with h|⟨j,g,i,_⟩
  .have:=Dy n (b:=b) (d:=d+1) h f;grind
  rw[show d+2+(n+1)=(d+1+n)+2 by omega];refine Nt g i f ?_;intro t a ys h1 k;have:=Dy n (b:=b) (d:=d) h1 k;grind
theorem oV {kt:TypeId}{k:D}(h:fP P kt k=true):gf k=true:=by
 unfold fP at h;split at h
 .rfl
 .simp only[zJ]at h;exact h.1
 grind
theorem VB {kt:TypeId}{s:ByteArray}{b:Bool}{n:Nat}(a:P.underlying kt=some .string):(Instr.checkKey b (n+1) kt (.string s)).run P w=.ok () w:=by
 simp[Instr.checkKey,aT a]
theorem qx {kt:TypeId}{k:D}{b:Bool}(h:fP P kt k=true):(Instr.checkKey b 10000 kt (bM k)).run P w=.ok () w:=by
 unfold fP at h;split at h
 .rename_i e;exact VB (n:=9999) e
 .simp at h;obtain⟨f,a,c⟩:=h.2;exact Dy 2 (d:=9996) a (by grind)
 grind
theorem YB {kt:TypeId}{k:D}(t:fP P kt k=true):∀(a:List D) (es:List MapEntry) (i:Nat) (r:Option Nat),a.length=es.length->(∀j (_:j<a.length) (_:j<es.length),gf a[j]=true/\es[j].key=bM a[j])->
 findKey P kt k a i=some r->∃o,(match P.underlying kt with|some .string=>Instr.findNow .string (bM k) es i=some o|_=>(Instr.findAsking kt (bM k) es i).run P w=.ok o w)/\
  match r with
  |some j=>∃h:j-i<es.length,i<=j/\o=some (j,es[j-i].val)/\bM k=es[j-i].key
  |none=>o=none:=by
 intro a
 induction a with
 |nil=>
  intro es i r u _ c
  cases es with
  |nil=>
   simp[findKey]at c;subst c;refine⟨none,?_,rfl⟩;split<;>rfl
  |cons e es=>grind
 |cons x a v=>
  intro es i r u n c
  cases es with
  |nil=>grind
  |cons e es=>
   have h0:=n 0 (by simp) (by simp);simp at h0;have f:∀j (_:j<a.length) (_:j<es.length),gf a[j]=true/\es[j].key=bM a[j]:=fun j h1 p=>by have:=n (j+1) (by grind) (by grind);grind
   simp only[findKey]at c
   cases g:m5 P kt k x with
   |none=>grind
   |some b=>
    rw[g]at c
    have d:(match P.underlying kt with|some .string=>Instr.sameNow .string (bM k) e.key=some b|_=>(Op.equal kt (bM k) e.key).run P w=.ok b w)/\(b=true->bM k=e.key):=by
     rw[h0.2];unfold m5 at g;split at g
     .split at g
      .rename_i q;cases g;rw[q];refine⟨rfl,fun s=>?_⟩;have:=K3 s;grind
      grind
     .rename_i l y
      have z:P.underlying kt≠some .string:=by
       intro q;simp_all[fP]
      have hr:=IV (P:=P) (w:=w) (m:=aS) (pr:=fun _ _=>True) (VR.ofKey (oV t)) (VR.ofKey h0.1) g;refine⟨?_,fun s=>?_⟩;grind
      .have:l=y:=by
        grind[equal,VV]
       grind
     grind
    cases b with
    |true=>
     simp at c;subst c;have h1:=d.1;split
     .grind[Instr.findNow]
     split at h1
     grind;simp_all[Instr.findAsking]
    |false=>
     obtain⟨o,p,h3⟩:=v es (i+1) r (by grind) f c;refine⟨o,?_,?_⟩
     .have h1:=d.1;split
      .grind[Instr.findNow]
      split at h1
      grind
      .split at p
       grind;simp_all[Instr.findAsking]
     cases r with
     |none=>omega
     |some j=>
      grind
theorem run_findKey {kt:TypeId}{k:D}{c:List D}{es:Array MapEntry}{r:Option Nat}(f:fP P kt k=true)(t:c.length=es.size)(q:∀j (_:j<c.length) (_:j<es.size),gf c[j]=true/\es[j].key=bM c[j])
 (s:findKey P kt k c 0=some r):∃o,(Instr.findKey kt (bM k) es.toList).run P w=.ok o w/\match r with
   |some j=>∃h:j<es.size,o=some (j,es[j].val)/\bM k=es[j].key
   |none=>o=none:=by
 obtain⟨o,h1,u⟩:=YB (w:=w) f c es.toList 0 r (by omega) (fun j a b=>by grind) s;refine⟨o,?_,?_⟩
 .have g:∃d,P.underlying kt=some d:=by
   unfold fP at f;grind
  obtain⟨d,g⟩:=g;simp[Instr.findKey,aT g];by_cases v:d=.string
  simp_all
  .have i:(Instr.findAsking kt (bM k) es.toList).run P w=.ok o w:=by
    grind
   have m:∃p,d=.struct p:=by
    unfold fP at f;grind
   obtain⟨p,rfl⟩:=m
   cases n:es.toList with
   |nil=>
    simp_all[Instr.findAsking,Instr.findNow]
   |cons e l=>
    rw[n]at i
    trivial
 grind
theorem lg {t:TypeId}{d:D}(a:zeroOf P t=some d):∃i v,P.info? t=some i/\i.zero=some v/\d=eh v:=by
 unfold zeroOf at a
 cases hi:P.info? t with
 |none=>grind
 |some i=>
  cases b:i.zero with
  |none=>grind
  |some v=>grind
theorem kX {t:TypeId}{i:TypeInfo}{v:Value}(hi:P.info? t=some i)(a:i.zero=some v):(zeroValue t).run P w=.ok v w:=by
 simp_all[zeroValue,qG]
theorem Ll {mt:TypeId}{p:List D}{vs:List D}{k d:D}{q:Value}{ok:Bool}{r b:Nat}{es:Array MapEntry}(E:w.heap[r]?=some (.map es b))(z:MapIn m pr w p vs es)
 (s:VR m pr w k q) (c:pI P mt p vs k ok=some d):∃u,(Instr.lookup mt (.map (some r)) q ok).run P w=.ok u w/\VR m pr w d u:=by
 obtain⟨t,F,x,G⟩:=z;have f:(getObj r).run P w=.ok (.map es b) w:=by grind[getObj,Sem.run]
 unfold pI at c;split at c
 .rename_i kt e A;split at c
  .rename_i i a h;have g:=s.key (oV a);obtain⟨o,h1,B,rfl,_⟩:=run_findKey (w:=w) a t x h
   cases y:vs[i]? with
   |none=>grind
   |some H=>
    simp[y]at c;refine⟨if ok then .tuple #[es[i].val,.bool true]else es[i].val,?_,?_⟩
    .simp[Instr.lookup,aT A,f,g,qx a,h1]
    cases ok;grind
    .rw[<-c];refine .tup _ _ rfl (fun j l n=>?_)
     match j,l with
     |0,_=>grind
     |1,_=>exact .bool _
  .rename_i a h;have g:=s.key (oV a);obtain⟨o,h1,rfl⟩:=run_findKey (w:=w) a t x h
   cases C:zeroOf P e with
   |none=>grind
   |some I=>
    obtain⟨i,v,hi,y,rfl⟩:=lg C;simp_all[Instr.lookup,aT,qx,kX]
    .cases ok;grind[jN]
     .rw[<-c];refine .tup _ _ rfl (fun j l n=>?_)
      match j,l with
      |0,_=>simp[jN]
      |1,_=>exact .bool _
  grind
 grind
theorem TW {mt:TypeId}{x k d:D}{vx e:Value}{ok:Bool}(H:HR c m h z w)(n:Sub hr h)(f:VR m (Pr c m h z) w x vx)(o:VR m (Pr c m h z) w k e)(b:lookup P hr mt x k ok=some d):
 ∃u,(Instr.lookup mt vx e ok).run P w=.ok u w/\VR m (Pr c m h z) w d u:=by
 cases x<;>simp only[lookup,reduceCtorEq]at b
 case mlst g vs=>
  cases f with
  |mlst _ _ r a es p v h1 j h3 l=>exact Ll p ⟨h1,j,h3,fun i q s=>(l i q s).up⟩ o b
 case mref id=>
  split at b
  .rename_i g vs t;obtain⟨r,es,a,h1,j,h3,l⟩:=H.mp id g vs (n _ _ t)
   cases f with
   |mref _ r' y=>
    grind[Ll]
  grind
end Go.F
