/- Part 4. -/
import Derived.Test.YtglbdppmnchoeaaGreatZ3
set_option linter.all false
namespace Go.F
variable {c:Ctx}{m:Map}{h:ab}{z:Frz}{w w':World}
theorem HR.inHeap {id:Nat}{x:Nat×Nat}(H:HR c m h z w)(a:m id=some x):x.1<w.heap.size:=(H.below id x a).2
theorem Ev.same (e:w'.heap=w.heap):Ev m (Pr c m h z) w m (Pr c m h z) w':=
 ⟨fun _ _ h=>h,fun b o v a d=>⟨a,by simpa[World.cell?,e]using d⟩,fun r es k a d=>⟨a,by grind⟩,fun b C t f g=>⟨C,by grind,rfl⟩⟩
theorem HR.same (H:HR c m h z w)(a:w'.heap=w.heap):HR c m h z w':=
 ⟨fun id es esz hr=>by
   rcases H.row id es esz hr with⟨b,C,t,h1,d,h3,e⟩ |h0
   .exact .inl ⟨b,C,t,h1,d,by grind,e.mono (Ev.same a)⟩
   grind,
  fun id f vs hr=>by
   obtain⟨r,es,k,h1,d,h3,e⟩:=H.mp id f vs hr;exact⟨r,es,k,h1,d,by grind,e.mono (Ev.same a)⟩,
  H.inj,fun id x g=>by rw[a];exact H.below id x g,by rw[a];exact H.base,H.zle⟩
theorem Wi_new {id:Nat}(c:m id=none){esz k:Nat}{B:Blk}{b o n:Nat}(d:b≠n):
 Wi (upd m id (some (n,esz))) (upd h id (some B)) (upd z id k) b o↔Wi m h z b o:=by
 constructor
 .rintro⟨i,e,h1,a,h3⟩;by_cases hi:i=id
  grind[upd_same]
  .rw[upd_ne hi]at h1 a h3;exact⟨i,e,h1,a,h3⟩
 rintro⟨i,e,h1,a,h3⟩;exact⟨i,e,by grind[upd_ne],by grind[upd_ne],by grind[upd_ne]⟩
theorem Ev.new {id:Nat}(j:m id=none){esz k:Nat}{B:Blk}{o:Obj}(p:w'.heap=w.heap.push o):
 Ev m (Pr c m h z) w (upd m id (some (w.heap.size,esz))) (Pr c (upd m id (some (w.heap.size,esz))) (upd h id (some B)) (upd z id k)) w':=by
 have e:∀b,b<w.heap.size->w'.heap[b]?=w.heap[b]?:=fun b g=>by grind
 have l:∀b o,b<w.heap.size->Pr c m h z b o->Pr c (upd m id (some (w.heap.size,esz))) (upd h id (some B)) (upd z id k) b o:=by
  intro b o g a;rcases a with a|⟨a,n⟩
  .exact .inl a
  exact .inr ⟨a,fun d=>n ((Wi_new j (by omega)).1 d)⟩
 have lt:∀{b:Nat} {x:Obj},w.heap[b]?=some x->b<w.heap.size:=fun h=>(zS.1 h).1;refine⟨fun i x q=>?_,fun b o v a d=>?_,fun r es k a d=>⟨l r 0 (lt d) a,(e r (lt d)).trans d⟩,fun b C t f g=>⟨C,(e b (lt g)).trans g,rfl⟩⟩;grind[upd_ne];grind[cell?_block,cell?_row]
theorem HR.new {id:Nat}(H:HR c m h z w)(u:m id=none){esz k:Nat}{B:Blk}{o:Obj}(E:w'.heap=w.heap.push o)
 (I:k<=(match B with|.row es _=>es.length|.mp _ _=>1))
 (A:(∃es C t,B=.row es esz/\o=.cells C t (0,0)/\RowIn m (Pr c m h z) w es esz C)\/(∃l vs es a,B=.mp l vs/\o=.map es a/\esz=1/\MapIn m (Pr c m h z) w l vs es)):
 HR c (upd m id (some (w.heap.size,esz))) (upd h id (some B)) (upd z id k) w':=by
 have e:=Ev.new (c:=c) (h:=h) (z:=z) (k:=k) (B:=B) (esz:=esz) u E;have n:∀b,b<w.heap.size->w'.heap[b]?=w.heap[b]?:=fun b J=>by grind
 have new:w'.heap[w.heap.size]?=some o:=by grind
 have F:w'.heap.size=w.heap.size+1:=by grind
 refine⟨fun i es es' hr=>?_,fun i l vs hr=>?_,fun i D x G hi p f d v=>?_,fun i x f=>?_,by have:=H.base;omega,fun i hi=>?_⟩
 .by_cases hi:i=id
  .subst hi;rw[upd_same]at hr;rcases A with⟨g,C,t,rfl,rfl,q⟩ |⟨l,vs,g,a,rfl,_⟩
   .cases hr;exact .inl ⟨w.heap.size,C,t,upd_same ..,H.base,new,q.mono e⟩
   grind
  rw[upd_ne hi]at hr;rcases H.row i es es' hr with⟨b,C,t,h1,j,h3,y⟩ |h0
  .exact .inl ⟨b,C,t,e.ext _ _ h1,j,(n b (H.inHeap h1)).trans h3,y.mono e⟩
  grind[upd_ne]
 .by_cases hi:i=id
  .subst hi;rw[upd_same]at hr;rcases A with⟨g,C,t,rfl,_⟩ |⟨ks',vs',g,a,rfl,rfl,rfl,s⟩
   grind
   .cases hr;exact⟨w.heap.size,g,a,upd_same ..,H.base,new,s.mono e⟩
  rw[upd_ne hi]at hr;obtain⟨r,es,k,h1,j,h3,y⟩:=H.mp i l vs hr;exact⟨r,es,k,e.ext _ _ h1,j,(n r (H.inHeap h1)).trans h3,y.mono e⟩
 .by_cases h1:i=id<;>by_cases j:D=id
  omega
  .subst h1;rw[upd_same]at f;cases f;rw[upd_ne j]at d;have:=H.inHeap d;omega
  .subst j;rw[upd_same]at d;cases d;rw[upd_ne h1]at f;have:=H.inHeap f;omega
  rw[upd_ne h1]at f hi;rw[upd_ne j]at d p;exact H.inj i D x G hi p f d v
 .by_cases hi:i=id
  .subst hi;rw[upd_same]at f;cases f;exact⟨H.base,by omega⟩
  rw[upd_ne hi]at f;have:=H.below i x f;omega
 by_cases h1:i=id
 grind[aV,upd_same]
 .rw[upd_ne h1]at hi;simp only[aV,upd_ne h1];exact H.zle i hi
theorem Ev.store {id:Nat}(H:HR c m h z w){b esz:Nat}{es es':List D}(d:m id=some (b,esz))(E:h id=some (.row es esz)){C l:Array Value}{t:TypeId}
 (F:w.heap[b]?=some (.cells C t (0,0))) (n:w'.heap[b]?=some (.cells l t (0,0))) (A:l.size=C.size) (j:∀k,k≠b->w'.heap[k]?=w.heap[k]?)
 (x:∀o,o<z id*esz->l[o]?=C[o]?):
 Ev m (Pr c m h z) w m (Pr c m (upd h id (some (.row es' esz))) z) w':=by
 have G:=(H.below id _ d).1
 have g:∀b o,Pr c m h z b o->Pr c m (upd h id (some (.row es' esz))) z b o:=by
  intro b o a;rcases a with a|⟨a,p⟩
  .exact .inl a
  refine .inr ⟨a,fun⟨i,e,h1,I,h3⟩=>p ⟨i,e,h1,?_,h3⟩⟩;grind[upd_ne]
 refine⟨fun _ _ h=>h,fun k o v a y=>⟨g k o a,?_⟩,fun r es k a y=>⟨g r 0 a,?_⟩,fun k D u f B=>?_⟩
 .obtain⟨D,u,f,B,J⟩:=cell?_block y;by_cases q:k=b
  .subst q;rw[cell?_row n];rcases a with⟨a,_⟩ |⟨_,p⟩
   omega
   .have:o<z id*esz:=by
     refine xM fun s=>p ⟨id,esz,d,by grind,s⟩
    grind
  grind[cell?_row]
 grind;grind
theorem HR.store {id:Nat}(H:HR c m h z w){b esz:Nat}{es es':List D}(d:m id=some (b,esz))(I:h id=some (.row es esz))(G:es'.length=es.length){C j:Array Value}{t:TypeId}
 (J:w.heap[b]?=some (.cells C t (0,0))) (l:w'.heap[b]?=some (.cells j t (0,0))) (s:j.size=C.size) (a:∀k,k≠b->w'.heap[k]?=w.heap[k]?) (n:w'.heap.size=w.heap.size)
 (p:∀o,o<z id*esz->j[o]?=C[o]?) (q:RowIn m (Pr c m h z) w es' esz j):
 HR c m (upd h id (some (.row es' esz))) z w':=by
 have e:=Ev.store H (es':=es') d I J l s a p;refine⟨fun i f u hr=>?_,fun i K vs hr=>?_,fun i L x M hi N v y A=>?_,fun i x v=>by rw[n];exact H.below i x v,by rw[n];exact H.base,fun i hi=>?_⟩
 .by_cases hi:i=id
  .subst hi;rw[upd_same]at hr;cases hr;exact .inl ⟨b,j,t,d,(H.below _ _ d).1,l,q.mono e⟩
  rw[upd_ne hi]at hr;rcases H.row i f u hr with⟨b2,O,t2,h1,B,h3,E⟩ |h0
  .have g:b2≠b:=fun F=>hi (H.inj i id _ _ (by grind) (by grind) h1 d F);exact .inl ⟨b2,O,t2,h1,B,(a b2 g).trans h3,E.mono e⟩
  grind
 .by_cases hi:i=id
  grind[upd_same]
  .rw[upd_ne hi]at hr;obtain⟨r,f,k,h1,B,h3,E⟩:=H.mp i K vs hr;have g:r≠b:=fun F=>hi (H.inj i id _ _ (by grind) (by grind) h1 d F);exact⟨r,f,k,h1,B,(a r g).trans h3,E.mono e⟩
 .refine H.inj i L x M ?_ ?_ v y A;grind[upd_ne];grind[upd_ne]
 by_cases h1:i=id
 .have:=H.zle i (by grind);grind[aV,upd_same]
 rw[upd_ne h1]at hi;have:=H.zle i hi;grind[aV,upd_ne]
theorem Ev.storeMap {id:Nat}(H:HR c m h z w){b:Nat}{q ks':List D}{vs vs':List D}(d:m id=some (b,1))(A:h id=some (.mp q vs))(B:z id=0){es es':Array MapEntry}{k s:Nat}
 (C:w.heap[b]?=some (.map es k)) (t:w'.heap[b]?=some (.map es' s)) (j:∀k,k≠b->w'.heap[k]?=w.heap[k]?):
 Ev m (Pr c m h z) w m (Pr c m (upd h id (some (.mp ks' vs'))) z) w':=by
 have E:=(H.below id _ d).1
 have g:∀b o,Pr c m h z b o->Pr c m (upd h id (some (.mp ks' vs'))) z b o:=by
  intro b o a;rcases a with a|⟨a,l⟩
  .exact .inl a
  refine .inr ⟨a,fun⟨i,e,h1,F,h3⟩=>l ⟨i,e,h1,?_,h3⟩⟩;grind[upd_ne]
 refine⟨fun _ _ h=>h,fun n o v a x=>⟨g n o a,?_⟩,fun r y n a x=>⟨g r 0 a,?_⟩,fun n D u f G=>?_⟩;grind[cell?_block,cell?_row]
 .by_cases p:r=b
  .subst p;exfalso;rcases a with⟨a,_⟩ |⟨_,l⟩
   omega
   .exact l ⟨id,1,d,by grind,by omega⟩
  grind
 grind
theorem HR.storeMap {id:Nat}(H:HR c m h z w){b:Nat}{o ks':List D}{vs vs':List D}(d:m id=some (b,1))(B:h id=some (.mp o vs))(C:z id=0){es es':Array MapEntry}{k A:Nat}
 (E:w.heap[b]?=some (.map es k)) (j:w'.heap[b]?=some (.map es' A)) (a:∀k,k≠b->w'.heap[k]?=w.heap[k]?) (l:w'.heap.size=w.heap.size)
 (n:MapIn m (Pr c m h z) w ks' vs' es'):
 HR c m (upd h id (some (.mp ks' vs'))) z w':=by
 have e:=Ev.storeMap H (ks':=ks') (vs':=vs') d B C E j a;refine⟨fun i f p hr=>?_,fun i o vs hr=>?_,fun i F x G hi I q s t=>?_,fun i x q=>by rw[l];exact H.below i x q,by rw[l];exact H.base,fun i hi=>?_⟩
 .by_cases hi:i=id
  grind[upd_same]
  .rw[upd_ne hi]at hr;rcases H.row i f p hr with⟨b2,J,t2,h1,u,h3,v⟩ |h0
   .have g:b2≠b:=fun y=>hi (H.inj i id _ _ (by grind) (by grind) h1 d y);exact .inl ⟨b2,J,t2,h1,u,(a b2 g).trans h3,v.mono e⟩
   grind
 .by_cases hi:i=id
  .subst hi;rw[upd_same]at hr;cases hr;exact⟨b,es',A,d,(H.below _ _ d).1,j,n.mono e⟩
  rw[upd_ne hi]at hr;obtain⟨r,f,k,h1,u,h3,v⟩:=H.mp i o vs hr;have g:r≠b:=fun y=>hi (H.inj i id _ _ (by grind) (by grind) h1 d y);exact⟨r,f,k,h1,u,(a r g).trans h3,v.mono e⟩
 .refine H.inj i F x G ?_ ?_ q s t;grind[upd_ne];grind[upd_ne]
 by_cases h1:i=id
 grind
 .rw[upd_ne h1]at hi;have:=H.zle i hi;grind[aV,upd_ne]
theorem H5 (H:HR c m h z w)(l:List (Nat×Nat))(a:∀p∈l,p.2=aV h p.1)(id:Nat):aJ z l id=z id\/aJ z l id=aV h id:=by
 induction l generalizing z with
 |nil=>exact .inl rfl
 |cons p l b=>
  obtain⟨i,n⟩:=p;simp only[aJ];have d:=a (i,n) (zO ..)
  have e:∀z':Frz,(∀q∈l,q.2=aV h q.1)->aJ z' l id=z' id\/aJ z' l id=aV h id:=by
   clear b a d H;intro z' g
   induction l generalizing z' with
   |nil=>exact .inl rfl
   |cons q l f=>
    simp only[aJ];grind[List.mem_cons_self,upd_same,upd_ne]
  grind[upd_same,upd_ne]
theorem Ev.freeze (H:HR c m h z w){l:List (Nat×Nat)}(q:∀p∈l,p.2=aV h p.1):Ev m (Pr c m h z) w m (Pr c m h (aJ z l)) w:=by
 have d:∀b o,Pr c m h z b o->Pr c m h (aJ z l) b o:=by
  intro b o a;rcases a with a|⟨a,s⟩
  .exact .inl a
  refine .inr ⟨a,fun⟨i,e,h1,j,h3⟩=>s ⟨i,e,h1,j,?_⟩⟩;rcases H5 H l q i with n|n
  grind
  .rw[n]at h3;exact zR (zF _ (H.zle i j)) h3
 exact⟨fun _ _ h=>h,fun b o v a g=>⟨d b o a,g⟩,fun r es k a g=>⟨d r 0 a,g⟩,fun b C t f u=>⟨C,u,rfl⟩⟩
theorem HR.freeze (H:HR c m h z w){l:List (Nat×Nat)}(f:∀p∈l,p.2=aV h p.1):HR c m h (aJ z l) w:=by
 have e:=Ev.freeze H f;refine⟨fun i es esz hr=>?_,fun i g vs hr=>?_,H.inj,H.below,H.base,fun i hi=>?_⟩
 .rcases H.row i es esz hr with⟨b,C,t,h1,d,h3,a⟩ |h0
  .exact .inl ⟨b,C,t,h1,d,h3,a.mono e⟩
  grind
 .obtain⟨r,es,k,h1,d,h3,a⟩:=H.mp i g vs hr;exact⟨r,es,k,h1,d,h3,a.mono e⟩
 rcases H5 H l f i with a|a
 .rw[a];exact H.zle i hi
 omega
theorem Ev.move {id0 id:Nat}(H:HR c m h z w)(F:id≠id0)(G:m id=none){b esz:Nat}{es es':List D}(a:m id0=some (b,esz))(K:h id0=some (.row es esz)){C l:Array Value}{t:TypeId}
 (L:w.heap[b]?=some (.cells C t (0,0))) (n:w'.heap[b]?=some (.cells l t (0,0))) (I:l.size=C.size) (j:∀k,k≠b->w'.heap[k]?=w.heap[k]?)
 (B:∀o,o<z id0*esz->l[o]?=C[o]?):
 Ev m (Pr c m h z) w (upd m id (some (b,esz))) (Pr c (upd m id (some (b,esz))) (upd (upd h id0 none) id (some (.row es' esz))) (upd z id (z id0))) w':=by
 have M:=(H.below id0 _ a).1
 have g:∀k o,Pr c m h z k o->Pr c (upd m id (some (b,esz))) (upd (upd h id0 none) id (some (.row es' esz))) (upd z id (z id0)) k o:=by
  intro k o d;rcases d with d|⟨d,p⟩
  .exact .inl d
  refine .inr ⟨d,fun⟨i,e,h1,q,h3⟩=>p ?_⟩;by_cases hi:i=id
  .subst hi;rw[upd_same]at h1 h3;cases h1;exact⟨id0,esz,a,by grind,h3⟩
  rw[upd_ne hi]at h1 q h3;by_cases s:i=id0
  grind[upd_same]
  .rw[upd_ne s]at q;exact⟨i,e,h1,q,h3⟩
 refine⟨fun i x N=>?_,fun k o v d E=>⟨g k o d,?_⟩,fun r es k d E=>⟨g r 0 d,?_⟩,fun k D u f J=>?_⟩;grind[upd_ne]
 .obtain⟨D,u,f,J,O⟩:=cell?_block E;by_cases y:k=b
  .subst y;rw[cell?_row n];rcases d with⟨d,_⟩ |⟨_,p⟩
   omega
   .have:o<z id0*esz:=by
     refine xM fun A=>p ⟨id0,esz,a,by grind,A⟩
    grind
  grind[cell?_row]
 grind;grind
theorem HR.move {id0 id:Nat}(H:HR c m h z w)(F:id≠id0)(G:m id=none){b esz:Nat}{es es':List D}(a:m id0=some (b,esz))(L:h id0=some (.row es esz)){C s:Array Value}{t:TypeId}
 (M:w.heap[b]?=some (.cells C t (0,0))) (u:w'.heap[b]?=some (.cells s t (0,0))) (I:s.size=C.size) (d:∀k,k≠b->w'.heap[k]?=w.heap[k]?) (v:w'.heap.size=w.heap.size)
 (y:∀o,o<z id0*esz->s[o]?=C[o]?) (N:z id0<=es'.length) (A:RowIn m (Pr c m h z) w es' esz s):
 HR c (upd m id (some (b,esz))) (upd (upd h id0 none) id (some (.row es' esz))) (upd z id (z id0)) w':=by
 have e:=Ev.move H F (es':=es') G a L M u I d y
 have live:∀i,i≠id->upd (upd h id0 none) id (some (.row es' esz)) i≠none->i≠id0/\h i≠none:=by
  grind[upd_ne,upd_same]
 refine⟨fun i n J hr=>?_,fun i O vs hr=>?_,fun i B x P hi E g f p=>?_,fun i x g=>?_,by rw[v];exact H.base,fun i hi=>?_⟩
 .by_cases hi:i=id
  .subst hi;rw[upd_same]at hr;cases hr;exact .inl ⟨b,s,t,upd_same ..,(H.below _ _ a).1,u,A.mono e⟩
  obtain⟨h0,_⟩:=live i hi (by grind);rw[upd_ne hi,upd_ne h0]at hr;rcases H.row i n J hr with⟨b2,Q,t2,h1,l,h3,j⟩ |S
  .have q:b2≠b:=fun K=>h0 (H.inj i id0 _ _ (by omega) (by grind) h1 a K);exact .inl ⟨b2,Q,t2,e.ext _ _ h1,l,(d b2 q).trans h3,j.mono e⟩
  grind[upd_ne]
 .by_cases hi:i=id
  grind[upd_same]
  .obtain⟨h0,_⟩:=live i hi (by grind);rw[upd_ne hi,upd_ne h0]at hr;obtain⟨r,n,k,h1,l,h3,j⟩:=H.mp i O vs hr;have q:r≠b:=fun K=>h0 (H.inj i id0 _ _ (by omega) (by grind) h1 a K);exact⟨r,n,k,e.ext _ _ h1,l,(d r q).trans h3,j.mono e⟩
 .by_cases h1:i=id<;>by_cases l:B=id
  omega
  .subst h1;rw[upd_same]at g;cases g;obtain⟨h3,j⟩:=live B l E;rw[upd_ne l]at f;exact absurd (H.inj B id0 _ _ j (by grind) f a p.symm) h3
  .subst l;rw[upd_same]at f;cases f;obtain⟨h3,j⟩:=live i h1 hi;rw[upd_ne h1]at g;exact absurd (H.inj i id0 _ _ j (by grind) g a p) h3
  obtain⟨_,j⟩:=live i h1 hi;obtain⟨_,R⟩:=live B l E;rw[upd_ne h1]at g;rw[upd_ne l]at f;exact H.inj i B x P j R g f p
 .rw[v];by_cases hi:i=id
  .subst hi;rw[upd_same]at g;cases g;exact H.below id0 _ a
  rw[upd_ne hi]at g;exact H.below i x g
 by_cases h1:i=id
 grind[aV,upd_same]
 .obtain⟨h0,j⟩:=live i h1 hi;have:=H.zle i j;grind[aV,upd_ne]
theorem Ev.kill (id:Nat):Ev m (Pr c m h z) w m (Pr c m (upd h id none) z) w:=by
 have d:∀b o,Pr c m h z b o->Pr c m (upd h id none) z b o:=by
  intro b o a;rcases a with a|⟨a,j⟩
  .exact .inl a
  refine .inr ⟨a,fun⟨i,e,h1,n,h3⟩=>j ⟨i,e,h1,?_,h3⟩⟩;grind[upd_same,upd_ne]
 exact⟨fun _ _ h=>h,fun b o v a g=>⟨d b o a,g⟩,fun r es k a g=>⟨d r 0 a,g⟩,fun b C t f l=>⟨C,l,rfl⟩⟩
theorem HR.kill (H:HR c m h z w)(id:Nat):HR c m (upd h id none) z w:=by
 have e:Ev m (Pr c m h z) w m (Pr c m (upd h id none) z) w:=Ev.kill id
 have live:∀i,upd h id none i≠none->i≠id/\h i≠none:=by
  grind[upd_same,upd_ne]
 refine⟨fun i es esz hr=>?_,fun i n vs hr=>?_,fun i l x o hi d p f g=>H.inj i l x o (live i hi).2 (live l d).2 p f g,H.below,H.base,fun i hi=>?_⟩
 .obtain⟨h0,_⟩:=live i (by grind);rw[upd_ne h0]at hr;rcases H.row i es esz hr with⟨b,C,t,h1,j,h3,a⟩ |q
  .exact .inl ⟨b,C,t,h1,j,h3,a.mono e⟩
  grind
 .obtain⟨h0,_⟩:=live i (by grind);rw[upd_ne h0]at hr;obtain⟨r,es,k,h1,j,h3,a⟩:=H.mp i n vs hr;exact⟨r,es,k,h1,j,h3,a.mono e⟩
 obtain⟨h0,a⟩:=live i hi;have:=H.zle i a;grind[aV,upd_ne]
theorem Ev.virt {id k kz:Nat}(j:m id=none):Ev m (Pr c m h z) w m (Pr c m (upd h id (some (.row [] k))) (upd z id kz)) w:=by
 have d:∀b o,Pr c m h z b o->Pr c m (upd h id (some (.row [] k))) (upd z id kz) b o:=by
  intro b o a;rcases a with a|⟨a,l⟩
  .exact .inl a
  refine .inr ⟨a,fun⟨i,e,h1,p,h3⟩=>l ⟨i,e,h1,?_⟩⟩;grind[upd_ne]
 exact⟨fun _ _ h=>h,fun b o v a g=>⟨d b o a,g⟩,fun r es k a g=>⟨d r 0 a,g⟩,fun b C t f n=>⟨C,n,rfl⟩⟩
theorem HR.virt {id k kz:Nat}(H:HR c m h z w)(d:m id=none)(A:kz=0):HR c m (upd h id (some (.row [] k))) (upd z id kz) w:=by
 have e:=Ev.virt (c:=c) (h:=h) (z:=z) (w:=w) (k:=k) (kz:=kz) d;refine⟨fun i es esz hr=>?_,fun i q vs hr=>?_,fun i p y s hi a u f g=>?_,H.below,H.base,fun i hi=>?_⟩
 .by_cases hi:i=id
  grind[upd_same]
  .rw[upd_ne hi]at hr;rcases H.row i es esz hr with⟨b,C,t,j,l,n,o⟩ |B
   .exact .inl ⟨b,C,t,j,l,n,o.mono e⟩
   grind
 .by_cases hi:i=id
  grind[upd_same]
  .rw[upd_ne hi]at hr;obtain⟨r,es,k,j,l,n,o⟩:=H.mp i q vs hr;exact⟨r,es,k,j,l,n,o.mono e⟩
 .have h1:i≠id:=fun v=>by grind
  have x:p≠id:=fun v=>by grind
  rw[upd_ne h1]at hi;rw[upd_ne x]at a;exact H.inj i p y s hi a u f g
 by_cases h1:i=id
 simp_all[upd_same]
 .rw[upd_ne h1]at hi;simp only[aV,upd_ne h1];exact H.zle i hi
end Go.F
