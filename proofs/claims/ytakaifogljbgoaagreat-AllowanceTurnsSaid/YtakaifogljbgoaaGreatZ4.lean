/- Parts of the proof, part 4: Mem. -/
import Derived.Test.YtakaifogljbgoaaGreatZ2
import Derived.Test.YtakaifogljbgoaaGreatZ3
set_option linter.all false
namespace Go.F
variable {c:Ctx}{m:Map}{h:q0e}{z:Frz}{w w':World}
theorem HR.inHeap {id:Nat}{x:Nat×Nat}(H:HR c m h z w)(hx:m id=some x):x.1<w.heap.size:=(H.below id x hx).2
theorem Ev.same (hw:w'.heap=w.heap):Ev m (Pr c m h z) w m (Pr c m h z) w':=
 ⟨fun _ _ h=>h,fun b o v hp hc=>⟨hp,by simpa[World.cell?,hw]using hc⟩,fun r es k hp hc=>⟨hp,by rw[hw];exact hc⟩,fun b C t f hb=>⟨C,by rw[hw];exact hb,rfl⟩⟩
theorem HR.same (H:HR c m h z w)(hw:w'.heap=w.heap):HR c m h z w':=
 ⟨fun id es esz hr=>by
   rcases H.row id es esz hr with⟨b,C,t,h1,h2,h3,h4⟩ |h0
   ·exact .inl ⟨b,C,t,h1,h2,by rw[hw];exact h3,h4.mono (Ev.same hw)⟩
   exact .inr h0,
  fun id ks vs hr=>by
   obtain⟨r,es,k,h1,h2,h3,h4⟩:=H.mp id ks vs hr
   exact⟨r,es,k,h1,h2,by rw[hw];exact h3,h4.mono (Ev.same hw)⟩,
  H.inj,fun id x hx=>by rw[hw];exact H.below id x hx,by rw[hw];exact H.base,H.zle⟩
theorem Wi_new {id:Nat}(hid:m id=none){esz k:Nat}{B:Blk}{b o n:Nat}(hb:b≠n):
 Wi (upd m id (some (n,esz))) (upd h id (some B)) (upd z id k) b o↔Wi m h z b o:=by
 constructor
 ·rintro⟨i,e,h1,h2,h3⟩
  by_cases hi:i=id
  ·subst hi;rw[upd_same]at h1;simp at h1;exact absurd h1.1.symm hb
  rw[upd_ne hi]at h1 h2 h3;exact⟨i,e,h1,h2,h3⟩
 rintro⟨i,e,h1,h2,h3⟩
 have hi:i≠id:=fun e=>by subst e;rw[hid]at h1;cases h1
 exact⟨i,e,by rw[upd_ne hi];exact h1,by rw[upd_ne hi];exact h2,by rw[upd_ne hi];exact h3⟩
theorem Ev.new {id:Nat}(hid:m id=none){esz k:Nat}{B:Blk}{o:Obj}(hw:w'.heap=w.heap.push o):
 Ev m (Pr c m h z) w (upd m id (some (w.heap.size,esz))) (Pr c (upd m id (some (w.heap.size,esz))) (upd h id (some B)) (upd z id k)) w':=by
 have old:∀b,b<w.heap.size→w'.heap[b]?=w.heap[b]?:=fun b hb=>by rw[hw,Array.getElem?_push_lt hb,Array.getElem?_eq_getElem hb]
 have hpr:∀b o,b<w.heap.size→Pr c m h z b o→Pr c (upd m id (some (w.heap.size,esz))) (upd h id (some B)) (upd z id k) b o:=by
  intro b o hb hp
  rcases hp with hp|⟨hp,hn⟩
  ·exact .inl hp
  exact .inr ⟨hp,fun hc=>hn ((Wi_new hid (by omega)).1 hc)⟩
 have lt:∀{b:Nat} {x:Obj},w.heap[b]?=some x→b<w.heap.size:=fun h=>(Array.getElem?_eq_some_iff.1 h).1
 refine⟨fun i x hx=>?_,fun b o v hp hc=>?_,fun r es k hp hc=>⟨hpr r 0 (lt hc) hp,(old r (lt hc)).trans hc⟩,fun b C t f hb=>⟨C,(old b (lt hb)).trans hb,rfl⟩⟩
 ·rw[upd_ne (fun e=>by subst e;rw[hid]at hx;cases hx)];exact hx
 obtain⟨C,t,f,hb,hv⟩:=cell?_block hc
 refine⟨hpr b o (lt hb) hp,?_⟩
 rw[cell?_row ((old b (lt hb)).trans hb)];exact hv
theorem HR.new {id:Nat}(H:HR c m h z w)(hid:m id=none){esz k:Nat}{B:Blk}{o:Obj}(hw:w'.heap=w.heap.push o)
 (hk:k≤(match B with|.row es _=>es.length|.mp _ _=>1))
 (hB:(∃es C t,B=.row es esz∧o=.cells C t (0,0)∧RowIn m (Pr c m h z) w es esz C)∨(∃ks vs es clock,B=.mp ks vs∧o=.map es clock∧esz=1∧MapIn m (Pr c m h z) w ks vs es)):
 HR c (upd m id (some (w.heap.size,esz))) (upd h id (some B)) (upd z id k) w':=by
 have e:=Ev.new (c:=c) (h:=h) (z:=z) (k:=k) (B:=B) (esz:=esz) hid hw
 have old:∀b,b<w.heap.size→w'.heap[b]?=w.heap[b]?:=fun b hb=>by rw[hw,Array.getElem?_push_lt hb,Array.getElem?_eq_getElem hb]
 have new:w'.heap[w.heap.size]?=some o:=by rw[hw];simp
 have hsz:w'.heap.size=w.heap.size+1:=by rw[hw];simp
 refine⟨fun i es es' hr=>?_,fun i ks vs hr=>?_,fun i i' x x' hi hi' hx hx' hxx=>?_,fun i x hx=>?_,by rw[hsz];have:=H.base;omega,fun i hi=>?_⟩
 ·by_cases hi:i=id
  ·subst hi
   rw[upd_same]at hr
   rcases hB with⟨es2,C,t,rfl,rfl,hrow⟩ |⟨ks,vs,es2,clock,rfl,_⟩
   ·cases hr
    exact .inl ⟨w.heap.size,C,t,upd_same ..,H.base,new,hrow.mono e⟩
   cases hr
  rw[upd_ne hi]at hr
  rcases H.row i es es' hr with⟨b,C,t,h1,h2,h3,h4⟩ |h0
  ·exact .inl ⟨b,C,t,e.ext _ _ h1,h2,(old b (H.inHeap h1)).trans h3,h4.mono e⟩
  exact .inr ⟨h0.1,by rw[upd_ne hi];exact h0.2⟩
 ·by_cases hi:i=id
  ·subst hi
   rw[upd_same]at hr
   rcases hB with⟨es2,C,t,rfl,_⟩ |⟨ks',vs',es2,clock,rfl,rfl,rfl,hmap⟩
   ·cases hr
   cases hr
   exact⟨w.heap.size,es2,clock,upd_same ..,H.base,new,hmap.mono e⟩
  rw[upd_ne hi]at hr
  obtain⟨r,es,k,h1,h2,h3,h4⟩:=H.mp i ks vs hr
  exact⟨r,es,k,e.ext _ _ h1,h2,(old r (H.inHeap h1)).trans h3,h4.mono e⟩
 ·by_cases h1:i=id<;>by_cases h2:i'=id
  ·rw[h1,h2]
  ·subst h1
   rw[upd_same]at hx;cases hx
   rw[upd_ne h2]at hx'
   have:=H.inHeap hx'
   simp only at hxx;omega
  ·subst h2
   rw[upd_same]at hx';cases hx'
   rw[upd_ne h1]at hx
   have:=H.inHeap hx
   simp only at hxx;omega
  rw[upd_ne h1]at hx hi;rw[upd_ne h2]at hx' hi'
  exact H.inj i i' x x' hi hi' hx hx' hxx
 ·by_cases hi:i=id
  ·subst hi;rw[upd_same]at hx;cases hx;exact⟨H.base,by simp only;omega⟩
  rw[upd_ne hi]at hx;have:=H.below i x hx;exact⟨this.1,by omega⟩
 by_cases h1:i=id
 ·subst h1
  simp only[q0t,upd_same]
  cases B<;>exact hk
 rw[upd_ne h1]at hi
 simp only[q0t,upd_ne h1]
 exact H.zle i hi
theorem Ev.store {id:Nat}(H:HR c m h z w){b esz:Nat}{es es':List D}(hid:m id=some (b,esz))(hl:h id=some (.row es esz)){C C':Array Value}{t:TypeId}
 (hC:w.heap[b]?=some (.cells C t (0,0))) (hC':w'.heap[b]?=some (.cells C' t (0,0))) (hsz:C'.size=C.size) (hother:∀k,k≠b→w'.heap[k]?=w.heap[k]?)
 (hfro:∀o,o<z id*esz→C'[o]?=C[o]?):
 Ev m (Pr c m h z) w m (Pr c m (upd h id (some (.row es' esz))) z) w':=by
 have hB:=(H.below id _ hid).1
 have hpr:∀b o,Pr c m h z b o→Pr c m (upd h id (some (.row es' esz))) z b o:=by
  intro b o hp
  rcases hp with hp|⟨hp,hn⟩
  ·exact .inl hp
  refine .inr ⟨hp,fun⟨i,e,h1,h2,h3⟩=>hn ⟨i,e,h1,?_,h3⟩⟩
  by_cases hi:i=id
  ·subst hi;rw[hl];simp
  rw[upd_ne hi]at h2;exact h2
 refine⟨fun _ _ h=>h,fun k o v hp hc=>⟨hpr k o hp,?_⟩,fun r es k hp hc=>⟨hpr r 0 hp,?_⟩,fun k D u f hk=>?_⟩
 ·obtain⟨D,u,f,hk,hv⟩:=cell?_block hc
  by_cases hkb:k=b
  ·subst hkb
   rw[hC]at hk;cases hk
   rw[cell?_row hC']
   rcases hp with⟨hp,_⟩ |⟨_,hn⟩
   ·simp only at hB;omega
   have:o<z id*esz:=by
    refine Nat.lt_of_not_le fun hle=>hn ⟨id,esz,hid,by rw[hl];simp,hle⟩
   rw[hfro o this];exact hv
  rw[cell?_row ((hother k hkb).trans hk)];exact hv
 ·by_cases hkb:r=b
  ·subst hkb;rw[hC]at hc;cases hc
  exact(hother r hkb).trans hc
 by_cases hkb:k=b
 ·subst hkb;rw[hC]at hk;cases hk;exact⟨C',hC',hsz⟩
 exact⟨D,(hother k hkb).trans hk,rfl⟩
theorem HR.store {id:Nat}(H:HR c m h z w){b esz:Nat}{es es':List D}(hid:m id=some (b,esz))(hl:h id=some (.row es esz))(hlen:es'.length=es.length){C C':Array Value}{t:TypeId}
 (hC:w.heap[b]?=some (.cells C t (0,0))) (hC':w'.heap[b]?=some (.cells C' t (0,0))) (hsz:C'.size=C.size) (hother:∀k,k≠b→w'.heap[k]?=w.heap[k]?) (hws:w'.heap.size=w.heap.size)
 (hfro:∀o,o<z id*esz→C'[o]?=C[o]?) (hrow:RowIn m (Pr c m h z) w es' esz C'):
 HR c m (upd h id (some (.row es' esz))) z w':=by
 have e:=Ev.store H (es':=es') hid hl hC hC' hsz hother hfro
 refine⟨fun i es2 es3 hr=>?_,fun i ks vs hr=>?_,fun i i' x x' hi hi' hx hx' hxx=>?_,fun i x hx=>by rw[hws];exact H.below i x hx,by rw[hws];exact H.base,fun i hi=>?_⟩
 ·by_cases hi:i=id
  ·subst hi;rw[upd_same]at hr;cases hr
   exact .inl ⟨b,C',t,hid,(H.below _ _ hid).1,hC',hrow.mono e⟩
  rw[upd_ne hi]at hr
  rcases H.row i es2 es3 hr with⟨b2,C2,t2,h1,h2,h3,h4⟩ |h0
  ·have hne:b2≠b:=fun eb=>hi (H.inj i id _ _ (by rw[hr];simp) (by rw[hl];simp) h1 hid eb)
   exact .inl ⟨b2,C2,t2,h1,h2,(hother b2 hne).trans h3,h4.mono e⟩
  exact .inr h0
 ·by_cases hi:i=id
  ·subst hi;rw[upd_same]at hr;cases hr
  rw[upd_ne hi]at hr
  obtain⟨r,es2,k,h1,h2,h3,h4⟩:=H.mp i ks vs hr
  have hne:r≠b:=fun eb=>hi (H.inj i id _ _ (by rw[hr];simp) (by rw[hl];simp) h1 hid eb)
  exact⟨r,es2,k,h1,h2,(hother r hne).trans h3,h4.mono e⟩
 ·refine H.inj i i' x x' ?_ ?_ hx hx' hxx
  ·by_cases h1:i=id
   ·subst h1;rw[hl];simp
   rw[upd_ne h1]at hi;exact hi
  by_cases h1:i'=id
  ·subst h1;rw[hl];simp
  rw[upd_ne h1]at hi';exact hi'
 by_cases h1:i=id
 ·subst h1
  have:=H.zle i (by rw[hl];simp)
  simp only[q0t,upd_same,hl]at this⊢
  omega
 rw[upd_ne h1]at hi
 have:=H.zle i hi
 simpa only[q0t,upd_ne h1]using this
theorem Ev.storeMap {id:Nat}(H:HR c m h z w){b:Nat}{ks ks':List ByteArray}{vs vs':List D}(hid:m id=some (b,1))(hl:h id=some (.mp ks vs))(hz:z id=0){es es':Array MapEntry}{k k':Nat}
 (hC:w.heap[b]?=some (.map es k)) (hC':w'.heap[b]?=some (.map es' k')) (hother:∀k,k≠b→w'.heap[k]?=w.heap[k]?):
 Ev m (Pr c m h z) w m (Pr c m (upd h id (some (.mp ks' vs'))) z) w':=by
 have hB:=(H.below id _ hid).1
 have hpr:∀b o,Pr c m h z b o→Pr c m (upd h id (some (.mp ks' vs'))) z b o:=by
  intro b o hp
  rcases hp with hp|⟨hp,hn⟩
  ·exact .inl hp
  refine .inr ⟨hp,fun⟨i,e,h1,h2,h3⟩=>hn ⟨i,e,h1,?_,h3⟩⟩
  by_cases hi:i=id
  ·subst hi;rw[hl];simp
  rw[upd_ne hi]at h2;exact h2
 refine⟨fun _ _ h=>h,fun n o v hp hc=>⟨hpr n o hp,?_⟩,fun r es2 n hp hc=>⟨hpr r 0 hp,?_⟩,fun n D u f hk=>?_⟩
 ·obtain⟨D,u,f,hk,hv⟩:=cell?_block hc
  by_cases hkb:n=b
  ·subst hkb;rw[hC]at hk;cases hk
  rw[cell?_row ((hother n hkb).trans hk)];exact hv
 ·by_cases hkb:r=b
  ·subst hkb
   exfalso
   rcases hp with⟨hp,_⟩ |⟨_,hn⟩
   ·simp only at hB;omega
   exact hn ⟨id,1,hid,by rw[hl];simp,by rw[hz];simp⟩
  exact(hother r hkb).trans hc
 by_cases hkb:n=b
 ·subst hkb;rw[hC]at hk;cases hk
 exact⟨D,(hother n hkb).trans hk,rfl⟩
theorem HR.storeMap {id:Nat}(H:HR c m h z w){b:Nat}{ks ks':List ByteArray}{vs vs':List D}(hid:m id=some (b,1))(hl:h id=some (.mp ks vs))(hz:z id=0){es es':Array MapEntry}{k k':Nat}
 (hC:w.heap[b]?=some (.map es k)) (hC':w'.heap[b]?=some (.map es' k')) (hother:∀k,k≠b→w'.heap[k]?=w.heap[k]?) (hws:w'.heap.size=w.heap.size)
 (hmap:MapIn m (Pr c m h z) w ks' vs' es'):
 HR c m (upd h id (some (.mp ks' vs'))) z w':=by
 have e:=Ev.storeMap H (ks':=ks') (vs':=vs') hid hl hz hC hC' hother
 refine⟨fun i es2 es3 hr=>?_,fun i ks vs hr=>?_,fun i i' x x' hi hi' hx hx' hxx=>?_,fun i x hx=>by rw[hws];exact H.below i x hx,by rw[hws];exact H.base,fun i hi=>?_⟩
 ·by_cases hi:i=id
  ·subst hi;rw[upd_same]at hr;cases hr
  rw[upd_ne hi]at hr
  rcases H.row i es2 es3 hr with⟨b2,C2,t2,h1,h2,h3,h4⟩ |h0
  ·have hne:b2≠b:=fun eb=>hi (H.inj i id _ _ (by rw[hr];simp) (by rw[hl];simp) h1 hid eb)
   exact .inl ⟨b2,C2,t2,h1,h2,(hother b2 hne).trans h3,h4.mono e⟩
  exact .inr h0
 ·by_cases hi:i=id
  ·subst hi;rw[upd_same]at hr;cases hr
   exact⟨b,es',k',hid,(H.below _ _ hid).1,hC',hmap.mono e⟩
  rw[upd_ne hi]at hr
  obtain⟨r,es2,k,h1,h2,h3,h4⟩:=H.mp i ks vs hr
  have hne:r≠b:=fun eb=>hi (H.inj i id _ _ (by rw[hr];simp) (by rw[hl];simp) h1 hid eb)
  exact⟨r,es2,k,h1,h2,(hother r hne).trans h3,h4.mono e⟩
 ·refine H.inj i i' x x' ?_ ?_ hx hx' hxx
  ·by_cases h1:i=id
   ·subst h1;rw[hl];simp
   rw[upd_ne h1]at hi;exact hi
  by_cases h1:i'=id
  ·subst h1;rw[hl];simp
  rw[upd_ne h1]at hi';exact hi'
 by_cases h1:i=id
 ·subst h1
  simp only[q0t,upd_same]
  omega
 rw[upd_ne h1]at hi
 have:=H.zle i hi
 simpa only[q0t,upd_ne h1]using this
theorem qqm (H:HR c m h z w)(l:List (Nat×Nat))(hl:∀p∈l,p.2=q0t h p.1)(id:Nat):q0A z l id=z id∨q0A z l id=q0t h id:=by
 induction l generalizing z with
 |nil=>exact .inl rfl
 |cons p l ih=>
  obtain⟨i,n⟩:=p
  simp only[q0A]
  have hn:=hl (i,n) (List.mem_cons_self ..)
  simp only at hn
  have hz':∀z':Frz,(∀q∈l,q.2=q0t h q.1)→q0A z' l id=z' id∨q0A z' l id=q0t h id:=by
   clear ih hl hn H
   intro z' hq
   induction l generalizing z' with
   |nil=>exact .inl rfl
   |cons q l ih2=>
    obtain⟨j,k⟩:=q
    simp only[q0A]
    have hk:=hq (j,k) (List.mem_cons_self ..)
    simp only at hk
    rcases ih2 (upd z' j k) (fun q' hq'=>hq q' (List.mem_cons_of_mem _ hq'))with h1|h1
    ·rw[h1]
     by_cases e:id=j
     ·subst e;rw[upd_same];exact .inr hk
     rw[upd_ne e];exact .inl rfl
    exact .inr h1
  rcases hz' (upd z i n) (fun q hq=>hl q (List.mem_cons_of_mem _ hq))with h1|h1
  ·rw[h1]
   by_cases e:id=i
   ·subst e;rw[upd_same];exact .inr hn
   rw[upd_ne e];exact .inl rfl
  exact .inr h1
theorem Ev.freeze (H:HR c m h z w){l:List (Nat×Nat)}(hl:∀p∈l,p.2=q0t h p.1):Ev m (Pr c m h z) w m (Pr c m h (q0A z l)) w:=by
 have hpr:∀b o,Pr c m h z b o→Pr c m h (q0A z l) b o:=by
  intro b o hp
  rcases hp with hp|⟨hp,hn⟩
  ·exact .inl hp
  refine .inr ⟨hp,fun⟨i,e,h1,h2,h3⟩=>hn ⟨i,e,h1,h2,?_⟩⟩
  rcases qqm H l hl i with h4|h4
  ·rw[h4]at h3;exact h3
  rw[h4]at h3
  exact Nat.le_trans (Nat.mul_le_mul_right _ (H.zle i h2)) h3
 exact⟨fun _ _ h=>h,fun b o v hp hc=>⟨hpr b o hp,hc⟩,fun r es k hp hc=>⟨hpr r 0 hp,hc⟩,fun b C t f hb=>⟨C,hb,rfl⟩⟩
theorem HR.freeze (H:HR c m h z w){l:List (Nat×Nat)}(hl:∀p∈l,p.2=q0t h p.1):HR c m h (q0A z l) w:=by
 have e:=Ev.freeze H hl
 refine⟨fun i es esz hr=>?_,fun i ks vs hr=>?_,H.inj,H.below,H.base,fun i hi=>?_⟩
 ·rcases H.row i es esz hr with⟨b,C,t,h1,h2,h3,h4⟩ |h0
  ·exact .inl ⟨b,C,t,h1,h2,h3,h4.mono e⟩
  exact .inr h0
 ·obtain⟨r,es,k,h1,h2,h3,h4⟩:=H.mp i ks vs hr
  exact⟨r,es,k,h1,h2,h3,h4.mono e⟩
 rcases qqm H l hl i with h4|h4
 ·rw[h4];exact H.zle i hi
 rw[h4];exact Nat.le_refl _
theorem Ev.move {id0 id:Nat}(H:HR c m h z w)(hne:id≠id0)(hid:m id=none){b esz:Nat}{es es':List D}(hid0:m id0=some (b,esz))(hl:h id0=some (.row es esz)){C C':Array Value}{t:TypeId}
 (hC:w.heap[b]?=some (.cells C t (0,0))) (hC':w'.heap[b]?=some (.cells C' t (0,0))) (hsz:C'.size=C.size) (hother:∀k,k≠b→w'.heap[k]?=w.heap[k]?)
 (hfro:∀o,o<z id0*esz→C'[o]?=C[o]?):
 Ev m (Pr c m h z) w (upd m id (some (b,esz))) (Pr c (upd m id (some (b,esz))) (upd (upd h id0 none) id (some (.row es' esz))) (upd z id (z id0))) w':=by
 have hB:=(H.below id0 _ hid0).1
 have hpr:∀k o,Pr c m h z k o→Pr c (upd m id (some (b,esz))) (upd (upd h id0 none) id (some (.row es' esz))) (upd z id (z id0)) k o:=by
  intro k o hp
  rcases hp with hp|⟨hp,hn⟩
  ·exact .inl hp
  refine .inr ⟨hp,fun⟨i,e,h1,h2,h3⟩=>hn ?_⟩
  by_cases hi:i=id
  ·subst hi
   rw[upd_same]at h1 h3;cases h1
   exact⟨id0,esz,hid0,by rw[hl];simp,h3⟩
  rw[upd_ne hi]at h1 h2 h3
  by_cases hi0:i=id0
  ·subst hi0;rw[upd_same]at h2;exact absurd rfl h2
  rw[upd_ne hi0]at h2;exact⟨i,e,h1,h2,h3⟩
 refine⟨fun i x hx=>?_,fun k o v hp hc=>⟨hpr k o hp,?_⟩,fun r es k hp hc=>⟨hpr r 0 hp,?_⟩,fun k D u f hk=>?_⟩
 ·rw[upd_ne (fun e=>by subst e;rw[hid]at hx;cases hx)];exact hx
 ·obtain⟨D,u,f,hk,hv⟩:=cell?_block hc
  by_cases hkb:k=b
  ·subst hkb
   rw[hC]at hk;cases hk
   rw[cell?_row hC']
   rcases hp with⟨hp,_⟩ |⟨_,hn⟩
   ·simp only at hB;omega
   have:o<z id0*esz:=by
    refine Nat.lt_of_not_le fun hle=>hn ⟨id0,esz,hid0,by rw[hl];simp,hle⟩
   rw[hfro o this];exact hv
  rw[cell?_row ((hother k hkb).trans hk)];exact hv
 ·by_cases hkb:r=b
  ·subst hkb;rw[hC]at hc;cases hc
  exact(hother r hkb).trans hc
 by_cases hkb:k=b
 ·subst hkb;rw[hC]at hk;cases hk;exact⟨C',hC',hsz⟩
 exact⟨D,(hother k hkb).trans hk,rfl⟩
theorem HR.move {id0 id:Nat}(H:HR c m h z w)(hne:id≠id0)(hid:m id=none){b esz:Nat}{es es':List D}(hid0:m id0=some (b,esz))(hl:h id0=some (.row es esz)){C C':Array Value}{t:TypeId}
 (hC:w.heap[b]?=some (.cells C t (0,0))) (hC':w'.heap[b]?=some (.cells C' t (0,0))) (hsz:C'.size=C.size) (hother:∀k,k≠b→w'.heap[k]?=w.heap[k]?) (hws:w'.heap.size=w.heap.size)
 (hfro:∀o,o<z id0*esz→C'[o]?=C[o]?) (hzl:z id0≤es'.length) (hrow:RowIn m (Pr c m h z) w es' esz C'):
 HR c (upd m id (some (b,esz))) (upd (upd h id0 none) id (some (.row es' esz))) (upd z id (z id0)) w':=by
 have e:=Ev.move H hne (es':=es') hid hid0 hl hC hC' hsz hother hfro
 have live:∀i,i≠id→upd (upd h id0 none) id (some (.row es' esz)) i≠none→i≠id0∧h i≠none:=by
  intro i hi hx
  rw[upd_ne hi]at hx
  by_cases h0:i=id0
  ·subst h0;rw[upd_same]at hx;exact absurd rfl hx
  rw[upd_ne h0]at hx;exact⟨h0,hx⟩
 refine⟨fun i es2 es3 hr=>?_,fun i ks vs hr=>?_,fun i i' x x' hi hi' hx hx' hxx=>?_,fun i x hx=>?_,by rw[hws];exact H.base,fun i hi=>?_⟩
 ·by_cases hi:i=id
  ·subst hi;rw[upd_same]at hr;cases hr
   exact .inl ⟨b,C',t,upd_same ..,(H.below _ _ hid0).1,hC',hrow.mono e⟩
  obtain⟨h0,_⟩:=live i hi (by rw[hr];simp)
  rw[upd_ne hi,upd_ne h0]at hr
  rcases H.row i es2 es3 hr with⟨b2,C2,t2,h1,h2,h3,h4⟩ |h5
  ·have hnb:b2≠b:=fun eb=>h0 (H.inj i id0 _ _ (by rw[hr];simp) (by rw[hl];simp) h1 hid0 eb)
   exact .inl ⟨b2,C2,t2,e.ext _ _ h1,h2,(hother b2 hnb).trans h3,h4.mono e⟩
  exact .inr ⟨h5.1,by rw[upd_ne hi];exact h5.2⟩
 ·by_cases hi:i=id
  ·subst hi;rw[upd_same]at hr;cases hr
  obtain⟨h0,_⟩:=live i hi (by rw[hr];simp)
  rw[upd_ne hi,upd_ne h0]at hr
  obtain⟨r,es2,k,h1,h2,h3,h4⟩:=H.mp i ks vs hr
  have hnb:r≠b:=fun eb=>h0 (H.inj i id0 _ _ (by rw[hr];simp) (by rw[hl];simp) h1 hid0 eb)
  exact⟨r,es2,k,e.ext _ _ h1,h2,(hother r hnb).trans h3,h4.mono e⟩
 ·by_cases h1:i=id<;>by_cases h2:i'=id
  ·rw[h1,h2]
  ·subst h1
   rw[upd_same]at hx;cases hx
   obtain⟨h3,h4⟩:=live i' h2 hi'
   rw[upd_ne h2]at hx'
   exact absurd (H.inj i' id0 _ _ h4 (by rw[hl];simp) hx' hid0 hxx.symm) h3
  ·subst h2
   rw[upd_same]at hx';cases hx'
   obtain⟨h3,h4⟩:=live i h1 hi
   rw[upd_ne h1]at hx
   exact absurd (H.inj i id0 _ _ h4 (by rw[hl];simp) hx hid0 hxx) h3
  obtain⟨_,h4⟩:=live i h1 hi
  obtain⟨_,h6⟩:=live i' h2 hi'
  rw[upd_ne h1]at hx;rw[upd_ne h2]at hx'
  exact H.inj i i' x x' h4 h6 hx hx' hxx
 ·rw[hws]
  by_cases hi:i=id
  ·subst hi;rw[upd_same]at hx;cases hx;exact H.below id0 _ hid0
  rw[upd_ne hi]at hx;exact H.below i x hx
 by_cases h1:i=id
 ·subst h1
  simp only[q0t,upd_same]
  exact hzl
 obtain⟨h0,h4⟩:=live i h1 hi
 have:=H.zle i h4
 simpa only[q0t,upd_ne h1,upd_ne h0]using this
theorem Ev.kill (id:Nat):Ev m (Pr c m h z) w m (Pr c m (upd h id none) z) w:=by
 have hpr:∀b o,Pr c m h z b o→Pr c m (upd h id none) z b o:=by
  intro b o hp
  rcases hp with hp|⟨hp,hn⟩
  ·exact .inl hp
  refine .inr ⟨hp,fun⟨i,e,h1,h2,h3⟩=>hn ⟨i,e,h1,?_,h3⟩⟩
  by_cases hi:i=id
  ·subst hi;rw[upd_same]at h2;exact absurd rfl h2
  rw[upd_ne hi]at h2;exact h2
 exact⟨fun _ _ h=>h,fun b o v hp hc=>⟨hpr b o hp,hc⟩,fun r es k hp hc=>⟨hpr r 0 hp,hc⟩,fun b C t f hb=>⟨C,hb,rfl⟩⟩
theorem HR.kill (H:HR c m h z w)(id:Nat):HR c m (upd h id none) z w:=by
 have e:Ev m (Pr c m h z) w m (Pr c m (upd h id none) z) w:=Ev.kill id
 have live:∀i,upd h id none i≠none→i≠id∧h i≠none:=by
  intro i hi
  by_cases h0:i=id
  ·subst h0;rw[upd_same]at hi;exact absurd rfl hi
  rw[upd_ne h0]at hi;exact⟨h0,hi⟩
 refine⟨fun i es esz hr=>?_,fun i ks vs hr=>?_,fun i i' x x' hi hi' hx hx' hxx=>H.inj i i' x x' (live i hi).2 (live i' hi').2 hx hx' hxx,H.below,H.base,fun i hi=>?_⟩
 ·obtain⟨h0,_⟩:=live i (by rw[hr];simp)
  rw[upd_ne h0]at hr
  rcases H.row i es esz hr with⟨b,C,t,h1,h2,h3,h4⟩ |h5
  ·exact .inl ⟨b,C,t,h1,h2,h3,h4.mono e⟩
  exact .inr h5
 ·obtain⟨h0,_⟩:=live i (by rw[hr];simp)
  rw[upd_ne h0]at hr
  obtain⟨r,es,k,h1,h2,h3,h4⟩:=H.mp i ks vs hr
  exact⟨r,es,k,h1,h2,h3,h4.mono e⟩
 obtain⟨h0,h4⟩:=live i hi
 have:=H.zle i h4
 simpa only[q0t,upd_ne h0]using this
theorem Ev.virt {id k kz:Nat}(hid:m id=none):Ev m (Pr c m h z) w m (Pr c m (upd h id (some (.row [] k))) (upd z id kz)) w:=by
 have hpr:∀b o,Pr c m h z b o→Pr c m (upd h id (some (.row [] k))) (upd z id kz) b o:=by
  intro b o hp
  rcases hp with hp|⟨hp,hn⟩
  ·exact .inl hp
  refine .inr ⟨hp,fun⟨i,e,h1,h2,h3⟩=>hn ⟨i,e,h1,?_⟩⟩
  have hi:i≠id:=fun e0=>by subst e0;rw[hid]at h1;cases h1
  rw[upd_ne hi]at h2 h3
  exact⟨h2,h3⟩
 exact⟨fun _ _ h=>h,fun b o v hp hc=>⟨hpr b o hp,hc⟩,fun r es k hp hc=>⟨hpr r 0 hp,hc⟩,fun b C t f hb=>⟨C,hb,rfl⟩⟩
theorem HR.virt {id k kz:Nat}(H:HR c m h z w)(hid:m id=none)(hk:kz=0):HR c m (upd h id (some (.row [] k))) (upd z id kz) w:=by
 have e:=Ev.virt (c:=c) (h:=h) (z:=z) (w:=w) (k:=k) (kz:=kz) hid
 refine⟨fun i es esz hr=>?_,fun i ks vs hr=>?_,fun i i' y y' hi hi' hy hy' hyy=>?_,H.below,H.base,fun i hi=>?_⟩
 ·by_cases hi:i=id
  ·subst hi;rw[upd_same]at hr;cases hr;exact .inr ⟨rfl,hid⟩
  rw[upd_ne hi]at hr
  rcases H.row i es esz hr with⟨b,C,t,g1,g2,g3,g4⟩ |g0
  ·exact .inl ⟨b,C,t,g1,g2,g3,g4.mono e⟩
  exact .inr g0
 ·by_cases hi:i=id
  ·subst hi;rw[upd_same]at hr;cases hr
  rw[upd_ne hi]at hr
  obtain⟨r,es,k,g1,g2,g3,g4⟩:=H.mp i ks vs hr
  exact⟨r,es,k,g1,g2,g3,g4.mono e⟩
 ·have h1:i≠id:=fun e0=>by subst e0;rw[hid]at hy;cases hy
  have h2:i'≠id:=fun e0=>by subst e0;rw[hid]at hy';cases hy'
  rw[upd_ne h1]at hi
  rw[upd_ne h2]at hi'
  exact H.inj i i' y y' hi hi' hy hy' hyy
 by_cases h1:i=id
 ·subst h1;rw[upd_same,hk];exact Nat.zero_le _
 rw[upd_ne h1]at hi
 simp only[q0t,upd_ne h1]
 exact H.zle i hi
end Go.F
