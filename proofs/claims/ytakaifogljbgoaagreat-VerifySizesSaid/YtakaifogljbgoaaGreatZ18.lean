/- Parts of the proof, part 18: Settle. -/
import Derived.Test.YtakaifogljbgoaaGreatZ17
set_option linter.all false
namespace Go.F
open Go.RowKit (Below)
variable {P:Program}{c:Ctx}{m:Map}{pr:q1v}{h hr:q0d}{z z':Frz}{w:World}
theorem VR.bare:∀(n:Nat) {d:D} {v:Value},plain n d=true→VR m pr w d v→VR q1y pr w d v:=by
 intro n
 induction n with
 |zero=>intro d v hp;simp[plain]at hp
 |succ n ih=>
  intro d v hp hv
  cases hv with
  |bool b=>exact .bool b
  |int k n=>exact .int k n
  |float k n=>exact .float k n
  |str s=>exact .str s
  |nilsl a=>exact .nilsl a
  |lst0 a cap=>exact .lst0 a cap
  |lst l b o cap esz cv hne hes hpos hcap hc hv hone=>exact .lst l b o cap esz cv hne hes hpos hcap hc hv hone
  |ref=>simp[plain]at hp
  |vnil=>simp[plain]at hp
  |pl d i b o cv hc hv hone=>exact .pl d i b o cv hc hv hone
  |ptr=>simp[plain]at hp
  |agg l vs hlen hv hone=>
   simp only[plain,List.all_eq_true]at hp
   exact .agg l vs hlen (fun k h1 h2=>ih (hp _ (List.getElem_mem _)) (hv k h1 h2)) hone
  |tup l vs hlen hv=>
   simp only[plain,List.all_eq_true]at hp
   exact .tup l vs hlen (fun k h1 h2=>ih (hp _ (List.getElem_mem _)) (hv k h1 h2))
  |fn f la lc va vc ha hc hva hvc=>
   simp only[plain,Bool.and_eq_true,List.all_eq_true]at hp
   exact .fn f la lc va vc ha hc (fun k h1 h2=>ih (hp.1 _ (List.getElem_mem _)) (hva k h1 h2)) (fun k h1 h2=>ih (hp.2 _ (List.getElem_mem _)) (hvc k h1 h2))
  |mref=>simp[plain]at hp
  |mlst ks vs r clock es hw hp' h1 h2 hk hv=>exact .mlst ks vs r clock es hw hp' h1 h2 hk hv
  |opq v h hb=>exact .opq v h hb
  |bad=>simp[plain]at hp
theorem qxT {n:Nat}{e:D}(hp:plain (n+1) e=true):∀x∈e.cells,plain (n+1) x=true:=by
 have mono:∀(n:Nat) (d:D),plain n d=true→plain (n+1) d=true:=by
  intro n
  induction n with
  |zero=>intro d h;simp[plain]at h
  |succ n ih=>
   intro d h
   cases d<;>first|rfl|(simp[plain]at h;done) |skip
   ·simp only[plain,List.all_eq_true]at h⊢;exact fun x hx=>by simpa[plain]using ih x (h x hx)
   ·simp only[plain,List.all_eq_true]at h⊢;exact fun x hx=>by simpa[plain]using ih x (h x hx)
   simp only[plain,Bool.and_eq_true,List.all_eq_true]at h⊢
   exact⟨fun x hx=>by simpa[plain]using ih x (h.1 x hx),fun x hx=>by simpa[plain]using ih x (h.2 x hx)⟩
 cases e with
 |agg l=>simp only[plain,List.all_eq_true]at hp;exact fun x hx=>mono _ _ (hp x hx)
 |_=>intro x hx;simp only[D.cells,List.mem_singleton]at hx;subst hx;exact hp
theorem qG4 {es:List D}(hp:es.all (plain 4)=true):∀x∈fl es,plain 4 x=true:=by
 intro x hx
 obtain⟨e,he,hx⟩:=List.mem_flatMap.1 hx
 exact qxT (List.all_eq_true.1 hp e he) x hx
theorem RowIn.bare {es:List D}{esz:Nat}{C:Array Value}(h:RowIn m pr w es esz C)(hp:es.all (plain 4)=true):RowIn q1y pr w es esz C:=
 ⟨h.1,h.2.1,h.2.2.1,fun k hk hk'=>(h.2.2.2.1 k hk hk').bare 4 (qG4 hp _ (List.getElem_mem _)),h.2.2.2.2⟩
theorem MapIn.bare {ks:List ByteArray}{vs:List D}{es:Array MapEntry}(h:MapIn m pr w ks vs es)(hp:vs.all (plain 4)=true):MapIn q1y pr w ks vs es:=
 ⟨h.1,h.2.1,h.2.2.1,fun k hk hk'=>(h.2.2.2 k hk hk').bare 4 (List.all_eq_true.1 hp _ (List.getElem_mem _))⟩
theorem RowIn.snapped {f:D→Option D}{es es':List D}{esz:Nat}{C:Array Value}(hr:RowIn m (Pr c m h z) w es esz C)(hm:es.mapM f=some es')
 (hsn:∀e∈es,∀e' v,VR m (Pr c m h z) w e v→f e=some e'→qiA c m h z' w e e' v):es'.length=es.length∧RowIn q1y (Pr c m h z') w es' esz C:=by
 obtain⟨r1,r2,r3,r4,r5⟩:=hr
 obtain⟨q1,q2⟩:=q7F hm
 have hfl:=q1h r2
 have elem:∀i (hi:i<es.length),∃e e':D,es[i]?=some e∧es'[i]?=some e'∧e.cells.length=esz∧qiA c m h z' w e e' (q3M e ((C.toList.drop (i*esz)).take esz))∧(q3M e ((C.toList.drop (i*esz)).take esz)).cells.toList=(C.toList.drop (i*esz)).take esz∧e.sto=true:=by
  intro i hi
  have hget:es[i]?=some es[i]:=List.getElem?_eq_getElem hi
  have hlen2:es[i].cells.length=esz:=r2 _ (List.getElem_mem _)
  have hin:(i+1) *esz≤es.length*esz:=Nat.mul_le_mul_right _ hi
  rw[Nat.succ_mul]at hin
  have hcells:Cells m (Pr c m h z) w es[i].cells ((C.toList.drop (i*esz)).take esz):=by
   refine⟨by simp;omega,fun k h1 h2=>?_,fun x hx=>?_⟩
   ·have hk:i*esz+k<(fl es).length:=by omega
    have hg:(fl es)[i*esz+k]=es[i].cells[k]:=by
     have:=q7e r2 hget (j:=k) (by omega)
     rw[List.getElem?_eq_getElem hk,List.getElem?_eq_getElem h1]at this
     exact Option.some.inj this
    rw[←hg]
    simp only[List.getElem_take,List.getElem_drop,Array.getElem_toList]
    exact r4 _ _ _
   obtain⟨j,hj,rfl⟩:=List.mem_iff_getElem.1 hx
   have:=q7e r2 hget (j:=j) (by omega)
   rw[List.getElem?_eq_getElem hj]at this
   exact r5 _ (List.mem_of_getElem? this)
  obtain⟨e1,e2⟩:=qiz hcells
  have hsto:es[i].sto=true:=by
   have hone:=hcells.one
   cases he:es[i]with
   |tup x=>rw[he]at hone;have:=hone (.tup x) (by simp[D.cells]);simp[D.one]at this
   |bad=>rw[he]at hone;have:=hone .bad (by simp[D.cells]);simp[D.one]at this
   |_=>rfl
  exact⟨es[i],es'[i]'(by omega),hget,List.getElem?_eq_getElem (by omega),hlen2,hsn _ (List.getElem_mem _) _ _ e1 (q2 i hi (by omega)),e2,hsto⟩
 have hu':∀x∈es',x.cells.length=esz:=by
  intro x hx
  obtain⟨i,hi,rfl⟩:=List.mem_iff_getElem.1 hx
  obtain⟨e,e',h1,h2,h3,h4,_,_⟩:=elem i (by omega)
  rw[List.getElem?_eq_getElem hi]at h2;cases h2
  rw[h4.2.2.2];exact h3
 have hfl':=q1h hu'
 have cell:∀k (hk:k<(fl es').length) (hk':k<C.size),VR q1y (Pr c m h z') w (fl es')[k] C[k]∧(fl es')[k].one=true:=by
  intro k hk hkC
  rw[hfl',q1]at hk
  have hdiv:k/esz<es.length:=Nat.div_lt_of_lt_mul (by rw[Nat.mul_comm];exact hk)
  have hmod:k%esz<esz:=Nat.mod_lt _ r1
  have hkk:k/esz*esz+k%esz=k:=by rw[Nat.mul_comm];exact Nat.div_add_mod k esz
  obtain⟨e,e',h1,h2,h3,h4,h5,h6⟩:=elem (k/esz) hdiv
  obtain⟨s1,s2,s3,s4⟩:=h4
  obtain⟨t1,t2,t3⟩:=s1.cells (s3 h6)
  have hg:=q7e hu' h2 (j:=k%esz) hmod
  rw[hkk]at hg
  have hlt:k%esz<e'.cells.length:=by rw[s4,h3];exact hmod
  rw[List.getElem?_eq_getElem (by rw[hfl',q1];exact hk),List.getElem?_eq_getElem hlt]at hg
  have hg':=Option.some.inj hg
  rw[hg']
  have hlt2:k%esz<(q3M e ((C.toList.drop (k/esz*esz)).take esz)).cells.size:=by rw[←t1];exact hlt
  have hval:(q3M e ((C.toList.drop (k/esz*esz)).take esz)).cells[k%esz]=C[k]:=by
   have e1:(q3M e ((C.toList.drop (k/esz*esz)).take esz)).cells.toList[k%esz]?=((C.toList.drop (k/esz*esz)).take esz)[k%esz]?:=by rw[h5]
   rw[List.getElem?_take_of_lt hmod,List.getElem?_drop,hkk]at e1
   simp only[Array.getElem?_toList]at e1
   rw[Array.getElem?_eq_getElem hlt2,Array.getElem?_eq_getElem hkC]at e1
   exact Option.some.inj e1
  exact⟨hval▸t2 _ hlt hlt2,t3 _ (List.getElem_mem _)⟩
 refine⟨q1,r1,hu',by rw[hfl',q1,←hfl];exact r3,fun k h1 h2=>(cell k h1 h2).1,fun x hx=>?_⟩
 obtain⟨k,hk,rfl⟩:=List.mem_iff_getElem.1 hx
 exact(cell k hk (by rw[hfl',q1,←hfl]at hk;omega)).2
theorem qjE {h:q0d}{l:List (Nat×Nat)}{id:Nat}(z:Frz)(hall:∀p∈l,p.2=q0s h p.1)(hex:∃p∈l,p.1=id):q0y z l id=q0s h id:=by
 induction l generalizing z with
 |nil=>obtain⟨p,hp,_⟩:=hex;simp at hp
 |cons q l ih=>
  obtain⟨j,k⟩:=q
  simp only[q0y]
  by_cases hmore:∃p∈l,p.1=id
  ·exact ih _ (fun p hp=>hall p (List.mem_cons_of_mem _ hp)) hmore
  obtain⟨p,hp,hpid⟩:=hex
  rcases List.mem_cons.1 hp with rfl|hp
  ·rw[q5b _ _ _ (fun q hq e=>hmore ⟨q,hq,e⟩)]
   simp only at hpid
   subst hpid
   rw[upd_same]
   exact hall (j,k) (List.mem_cons_self ..)
  exact absurd ⟨p,hp,hpid⟩ hmore
def Knows (c:Ctx)(m:Map)(s:St)(a:Act)(w:World):Prop:=HR c m s.heap s.frz w∧∀i,VR m (Pr c m s.heap s.frz) w (s.tmps i) (a.tmps.getD i undef)
theorem qjF {s:St}{a:Act}(hk:Knows c m s a w){l:List (Nat×Nat)}(hl:∀p∈l,p.2=q0s s.heap p.1):
 Knows c m ⟨s.tmps,s.heap,q0y s.frz l,s.next⟩ a w∧Ev m (Pr c m s.heap s.frz) w m (Pr c m s.heap (q0y s.frz l)) w:=
 ⟨⟨hk.1.freeze hl,fun i=>(hk.2 i).mono (Ev.freeze hk.1 hl)⟩,Ev.freeze hk.1 hl⟩
theorem qpJ {s:St}{a:Act}{x k:Nat}(hk:Knows c m s a w)(hf:∀id,s.next≤id→m id=none):
 Knows c m (qvY x k s) a w∧Ev m (Pr c m s.heap s.frz) w m (Pr c m (qvY x k s).heap (qvY x k s).frz) w∧∀id,(qvY x k s).next≤id→m id=none:=by
 unfold qvY
 split
 ·rename_i k hx
  have hid:=hf s.next (Nat.le_refl _)
  have e:=Ev.virt (c:=c) (h:=s.heap) (z:=s.frz) (w:=w) (k:=k+1) (kz:=0) hid
  refine⟨⟨hk.1.virt hid rfl,fun i=>?_⟩,e,fun id hl=>hf id (by simp only at hl;omega)⟩
  ·by_cases hi:i=x
   ·subst hi
    have hv:=hk.2 i
    rw[hx]at hv
    simp only[upd_same]
    generalize a.tmps.getD i undef=v at hv
    cases hv with
    |nilsl b=>exact .vnil _ _
   simp only[upd_ne hi];exact(hk.2 i).mono e
 exact⟨hk,Ev.refl _ _ _,hf⟩
theorem quT {a:Act}:∀(live:Live) {s:St},Knows c m s a w→(∀id,s.next≤id→m id=none)→
 Knows c m (q4i live s) a w∧Ev m (Pr c m s.heap s.frz) w m (Pr c m (q4i live s).heap (q4i live s).frz) w∧∀id,(q4i live s).next≤id→m id=none:=by
 intro live
 induction live with
 |nil=>intro s hk hf;exact⟨hk,Ev.refl _ _ _,hf⟩
 |cons x live ih=>
  intro s hk hf
  obtain⟨k1,e1,f1⟩:=qpJ (x:=x.1) (k:=x.2) hk hf
  obtain⟨k2,e2,f2⟩:=ih k1 f1
  exact⟨k2,e1.trans e2,f2⟩
theorem qjG (h:q0d)(l:List Nat):∀p∈l.map (fun id=>(id,q0s h id)),p.2=q0s h p.1:=by
 intro p hp
 obtain⟨id,_,rfl⟩:=List.mem_map.1 hp
 rfl
theorem qix {s s':St}{a:Act}{x:Nat}(hk:Knows c m s a w)(hs:qj5 x s=some s'):
 Knows c m s' a w∧Ev m (Pr c m s.heap s.frz) w m (Pr c m s'.heap s'.frz) w∧s'.next=s.next:=by
 unfold qj5 at hs
 split at hs
 ·split at hs
  ·cases hs;exact⟨hk,Ev.refl _ _ _,rfl⟩
  split at hs
  ·rename_i d hd
   cases hs
   have hl:=qjG s.heap (q0O s.heap depth (s.tmps x))
   obtain⟨k1,e1⟩:=qjF hk hl
   have hsn:=q8D hk.1 (fun _ _ h=>h) e1 depth _ _ _ (hk.2 x) hd (fun id hid=>qjE s.frz hl ⟨_,List.mem_map.2 ⟨id,hid,rfl⟩,rfl⟩)
   refine⟨⟨k1.1,fun i=>?_⟩,e1,rfl⟩
   by_cases hi:i=x
   ·subst hi;simp only[upd_same];exact hsn.1.up
   simp only[upd_ne hi];exact k1.2 i
  cases hs
 rename_i id hid
 split at hs
 ·rename_i es esz hb
  split at hs
  ·cases hs;exact⟨hk,Ev.refl _ _ _,rfl⟩
  split at hs
  ·rename_i es' hm
   cases hs
   have hl:=qjG s.heap (es.flatMap (q0O s.heap depth))
   obtain⟨k1,e1⟩:=qjF hk hl
   rcases hk.1.row id es esz hb with⟨b,C,t,g1,g2,g3,g4⟩ |⟨g0,_⟩
   case inr=>subst g0;simp at*
   obtain⟨n1,n2⟩:=g4.snapped (z':=q0y s.frz ((es.flatMap (q0O s.heap depth)).map fun id=>(id,q0s s.heap id))) hm (fun e he e' v hv hsn=>
    q8D hk.1 (fun _ _ h=>h) e1 depth _ _ _ hv hsn (fun i hi=>qjE s.frz hl ⟨_,List.mem_map.2 ⟨i,List.mem_flatMap.2 ⟨e,he,hi⟩,rfl⟩,rfl⟩))
   have n3:RowIn m (Pr c m s.heap (q0y s.frz ((es.flatMap (q0O s.heap depth)).map fun id=>(id,q0s s.heap id)))) w es' esz C:=n2.mono (Ev.up _ _ _)
   have e2:=Ev.store k1.1 (es':=es') g1 hb g3 g3 rfl (fun _ _=>rfl) (fun _ _=>rfl)
   exact⟨⟨k1.1.store g1 hb n1 g3 g3 rfl (fun _ _=>rfl) rfl (fun _ _=>rfl) n3,fun i=>(k1.2 i).mono e2⟩,e1.trans e2,rfl⟩
  cases hs
 cases hs;exact⟨hk,Ev.refl _ _ _,rfl⟩
theorem qpK {a:Act}:∀(live:Live) {s s':St},Knows c m s a w→q8l live s=some s'→
 Knows c m s' a w∧Ev m (Pr c m s.heap s.frz) w m (Pr c m s'.heap s'.frz) w∧s'.next=s.next:=by
 intro live
 induction live with
 |nil=>intro s s' hk hs;simp only[q8l,Option.some.injEq]at hs;subst hs;exact⟨hk,Ev.refl _ _ _,rfl⟩
 |cons x live ih=>
  intro s s' hk hs
  simp only[q8l]at hs
  split at hs
  ·rename_i s1 h1
   obtain⟨k1,e1,n1⟩:=qix hk h1
   obtain⟨k2,e2,n2⟩:=ih k1 hs
   exact⟨k2,e1.trans e2,n2.trans n1⟩
  cases hs
theorem q2I:∀(ids:List (Option Nat)) (x j0 j:Nat),placeOf ids x j0=some j→j0≤j∧ids[j-j0]?=some (some x):=by
 intro ids
 induction ids with
 |nil=>intro x j0 j h;simp[placeOf]at h
 |cons o ids ih=>
  intro x j0 j h
  cases o with
  |none=>
   simp only[placeOf]at h
   obtain⟨h1,h2⟩:=ih x (j0+1) j h
   refine⟨by omega,?_⟩
   rw[show j-j0=(j-(j0+1))+1 by omega,List.getElem?_cons_succ];exact h2
  |some y=>
   simp only[placeOf]at h
   cases hb:Nat.beq y x with
   |true=>
    rw[hb]at h
    simp only[cond_true,Option.some.injEq]at h
    subst h
    have:=Nat.eq_of_beq_eq_true hb
    subst this
    simp
   |false=>
    rw[hb]at h
    simp only[cond_false]at h
    obtain⟨h1,h2⟩:=ih x (j0+1) j h
    refine⟨by omega,?_⟩
    rw[show j-j0=(j-(j0+1))+1 by omega,List.getElem?_cons_succ];exact h2
theorem qlU:∀(ids:List (Option Nat)) (x j0:Nat),some x∈ids→∃j,placeOf ids x j0=some j:=by
 intro ids
 induction ids with
 |nil=>intro x j0 h;simp at h
 |cons o ids ih=>
  intro x j0 h
  cases o with
  |none=>
   simp only[placeOf]
   rcases List.mem_cons.1 h with h|h
   ·cases h
   exact ih x (j0+1) h
  |some y=>
   simp only[placeOf]
   cases hb:Nat.beq y x with
   |true=>exact⟨j0,rfl⟩
   |false=>
    rcases List.mem_cons.1 h with h|h
    ·cases h;simp at hb
    exact ih x (j0+1) h
theorem q8C {α:Type}(nx0:Nat)(ids:List (Option Nat))(old:Nat→α)(bot:α)(h:Nat→α):∀(rest:List (Option Nat)) (j0:Nat),nx0≤j0→∀j,
 q1E nx0 ids old bot h rest j0 j=if j<nx0 then old j else if j0≤j then(match rest[j-j0]? with|some (some x)=>if nx0≤x∧placeOf ids x nx0=some j then h x else bot|_=>bot)else bot:=by
 intro rest
 induction rest with
 |nil=>
  intro j0 hj j
  simp only[q1E,List.getElem?_nil]
  by_cases h1:j<nx0
  ·have:Nat.blt j nx0=true:=Nat.ble_eq_true_of_le h1
   simp[this,h1]
  have:Nat.blt j nx0=false:=by
   cases hb:Nat.blt j nx0 with
   |false=>rfl
   |true=>exact absurd (Nat.le_of_ble_eq_true hb) h1
  simp[this,h1]
 |cons o rest ih=>
  intro j0 hj j
  have step:(if j<nx0 then old j else if j0+1≤j then(match rest[j-(j0+1)]? with|some (some x)=>if nx0≤x∧placeOf ids x nx0=some j then h x else bot|_=>bot)else bot)=
   if j<nx0 then old j else if j=j0 then bot else if j0≤j then(match(o::rest)[j-j0]? with|some (some x)=>if nx0≤x∧placeOf ids x nx0=some j then h x else bot|_=>bot)else bot:=by
   by_cases h1:j<nx0
   ·simp[h1]
   simp only[h1,if_false]
   by_cases h2:j=j0
   ·subst h2;rw[if_neg (by omega),if_pos rfl]
   simp only[h2,if_false]
   by_cases h3:j0+1≤j
   ·rw[if_pos h3,if_pos (by omega),show j-j0=(j-(j0+1))+1 by omega,List.getElem?_cons_succ]
   rw[if_neg h3,if_neg (by omega)]
  have fin:∀v:α,(v=if nx0≤j0 then(match o with|some x=>if nx0≤x∧placeOf ids x nx0=some j0 then h x else bot|none=>bot)else bot)→
   (if j=j0 then v else(if j<nx0 then old j else if j=j0 then bot else if j0≤j then(match(o::rest)[j-j0]? with|some (some x)=>if nx0≤x∧placeOf ids x nx0=some j then h x else bot|_=>bot)else bot))=
   if j<nx0 then old j else if j0≤j then(match(o::rest)[j-j0]? with|some (some x)=>if nx0≤x∧placeOf ids x nx0=some j then h x else bot|_=>bot)else bot:=by
   intro v hv
   by_cases h2:j=j0
   ·subst h2
    rw[if_pos rfl,if_neg (by omega),if_pos (Nat.le_refl _),hv,if_pos hj]
    cases o<;>simp
   rw[if_neg h2]
   by_cases h1:j<nx0
   ·simp[h1]
   simp[h1,h2]
  have same:q1E nx0 ids old bot h rest (j0+1) j=if j=j0 then bot else(if j<nx0 then old j else if j=j0 then bot else if j0≤j then(match(o::rest)[j-j0]? with|some (some x)=>if nx0≤x∧placeOf ids x nx0=some j then h x else bot|_=>bot)else bot):=by
   rw[ih (j0+1) (by omega) j,step]
   by_cases h2:j=j0
   ·subst h2
    rw[if_neg (by omega),if_pos rfl,if_pos rfl]
   simp only[h2,if_false]
  cases o with
  |none=>rw[q1E,same];exact fin bot (by simp)
  |some x=>
   simp only[q1E]
   by_cases hx:nx0≤x
   ·have hb:Nat.ble nx0 x=true:=by simpa using hx
    cases hp:placeOf ids x nx0 with
    |none=>simp only[hb];rw[same];exact fin bot (by simp[hp])
    |some k=>
     simp only[hb]
     cases hk:Nat.beq k j0 with
     |true=>
      have:=Nat.eq_of_beq_eq_true hk
      subst this
      simp only[cond_true]
      rw[q7y,same]
      rw[←fin (h x) (by simp[hx,hp,hj])]
      by_cases h2:j=k
      ·rw[if_pos h2,if_pos h2]
      simp only[h2,if_false]
     |false=>
      simp only[cond_false]
      rw[same]
      refine fin bot ?_
      have hne:k≠j0:=fun e=>by subst e;simp at hk
      simp[hp,hne]
   have hb:Nat.ble nx0 x=false:=by
    cases hb:Nat.ble nx0 x with
    |false=>rfl
    |true=>exact absurd (Nat.le_of_ble_eq_true hb) hx
   simp only[hb]
   rw[same]
   exact fin bot (by simp[hx])
theorem qxU {t:q0x}{live:Live}{x:Nat}{id:Nat}{b:Nat}(hx:(x,b)∈live)(hid:q2i (t x)=some id):some id∈q0B t live:=List.mem_map.2 ⟨(x,b),hx,hid⟩
section
variable {nx0:Nat}{live:Live}{s:St}
def qcl (nx0:Nat)(live:Live)(s:St)(m:Map):Map:=q1E nx0 (q0B s.tmps live) m none m (q0B s.tmps live) nx0
theorem qeK (j:Nat):(∃x,((j<nx0∧x=j)∨(nx0≤x∧placeOf (q0B s.tmps live) x nx0=some j))∧
 (∀m:Map,qcl nx0 live s m j=m x)∧q1E nx0 (q0B s.tmps live) (q1e s.heap) none s.heap (q0B s.tmps live) nx0 j=(if j<nx0 then q1e s.heap x else s.heap x)∧q1E nx0 (q0B s.tmps live) s.frz 0 s.frz (q0B s.tmps live) nx0 j=s.frz x)∨
 ((∀m:Map,qcl nx0 live s m j=none)∧q1E nx0 (q0B s.tmps live) (q1e s.heap) none s.heap (q0B s.tmps live) nx0 j=none):=by
 unfold qcl
 simp only[q8C nx0 _ _ _ _ _ nx0 (Nat.le_refl _) j]
 by_cases h1:j<nx0
 ·exact .inl ⟨j,.inl ⟨h1,rfl⟩,by simp[h1],by simp[h1],by simp[h1]⟩
 simp only[h1,if_false]
 have hle:nx0≤j:=by omega
 simp only[hle,if_true]
 match hx:(q0B s.tmps live)[j-nx0]? with
 |some (some x)=>
  by_cases h2:nx0≤x∧placeOf (q0B s.tmps live) x nx0=some j
  ·exact .inl ⟨x,.inr h2,by simp[h2],by simp[h2],by simp[h2]⟩
  exact .inr ⟨by simp[h2],by simp[h2]⟩
 |some none=>exact .inr ⟨by simp,by simp⟩
 |none=>exact .inr ⟨by simp,by simp⟩
theorem quU {x j:Nat}(h:(j<nx0∧x=j)∨(nx0≤x∧placeOf (q0B s.tmps live) x nx0=some j)):qcl nx0 live s m j=m x:=by
 unfold qcl
 rw[q8C nx0 _ _ _ _ _ nx0 (Nat.le_refl _) j]
 rcases h with⟨h1,rfl⟩ |⟨h1,h2⟩
 ·rw[if_pos h1]
 obtain⟨h3,h4⟩:=q2I _ _ _ _ h2
 rw[if_neg (by omega),if_pos h3,h4]
 simp[h1,h2]
theorem name_fun {x y j:Nat}(h:(j<nx0∧x=j)∨(nx0≤x∧placeOf (q0B s.tmps live) x nx0=some j))(h':(j<nx0∧y=j)∨(nx0≤y∧placeOf (q0B s.tmps live) y nx0=some j)):x=y:=by
 rcases h with⟨h1,rfl⟩ |⟨h1,h2⟩
 ·rcases h' with⟨h3,rfl⟩ |⟨h3,h4⟩
  ·rfl
  have:=(q2I _ _ _ _ h4).1;omega
 obtain⟨h5,h6⟩:=q2I _ _ _ _ h2
 rcases h' with⟨h3,rfl⟩ |⟨h3,h4⟩
 ·omega
 obtain⟨_,h8⟩:=q2I _ _ _ _ h4
 rw[h6]at h8;cases h8;rfl
theorem qG5 {x j j':Nat}(h:(j<nx0∧x=j)∨(nx0≤x∧placeOf (q0B s.tmps live) x nx0=some j))(h':(j'<nx0∧x=j')∨(nx0≤x∧placeOf (q0B s.tmps live) x nx0=some j')):j=j':=by
 rcases h with⟨h1,rfl⟩ |⟨h1,h2⟩
 ·rcases h' with⟨h3,rfl⟩ |⟨h3,h4⟩
  ·rfl
  omega
 rcases h' with⟨h3,rfl⟩ |⟨h3,h4⟩
 ·omega
 rw[h2]at h4;cases h4;rfl
theorem qlV {h:q0d}{t:q0x}:∀{live:Live},qj6 h t live=true→∀x b,(x,b)∈live→(q2i (t x)=none→plain 4 (t x)=true)∧(∀id,q2i (t x)=some id→q1d (h id)=true):=by
 intro live
 induction live with
 |nil=>intro _ x b hx;simp at hx
 |cons y live ih=>
  intro hk x b hx
  simp only[qj6,Bool.and_eq_true]at hk
  rcases List.mem_cons.1 hx with rfl|hx
  ·refine⟨fun h1=>by simpa[h1]using hk.1,fun id h1=>by simpa[h1]using hk.1⟩
  exact ih hk.2 x b hx
theorem qrb (ids:List (Option Nat))(t:q0x)(i:Nat):∀(live:Live),q8m nx0 ids t live i=.bad∨∃b,(i,b)∈live∧q8m nx0 ids t live i=q1g nx0 ids (t i):=by
 intro live
 induction live with
 |nil=>exact .inl rfl
 |cons x live ih=>
  simp only[q8m]
  by_cases hi:i=x.1
  ·subst hi;rw[upd_same];exact .inr ⟨x.2,List.mem_cons_self ..,rfl⟩
  rw[upd_ne hi]
  rcases ih with h|⟨b,h1,h2⟩
  ·exact .inl h
  exact .inr ⟨b,List.mem_cons_of_mem _ h1,h2⟩
theorem qAb {a:Act}{s':St}(hk:Knows c m s a w)(hs:keep nx0 live s=some s'):
 Knows c (qcl nx0 live s m) s' a w∧(∀b o,Pr c m s.heap s.frz b o→Pr c (qcl nx0 live s m) s'.heap s'.frz b o)∧(∀id,s'.next≤id→qcl nx0 live s m id=none)∧s'.next=nx0+live.length:=by
 obtain⟨H,ht⟩:=hk
 unfold keep at hs
 split at hs
 ·rename_i hok
  cases hs
  have hpr:∀b o,Pr c m s.heap s.frz b o→Pr c (qcl nx0 live s m) (q1E nx0 (q0B s.tmps live) (q1e s.heap) none s.heap (q0B s.tmps live) nx0) (q1E nx0 (q0B s.tmps live) s.frz 0 s.frz (q0B s.tmps live) nx0) b o:=by
   intro b o hp
   rcases hp with hp|⟨hp,hn⟩
   ·exact .inl hp
   refine .inr ⟨hp,fun⟨j,e,h1,h2,h3⟩=>hn ?_⟩
   rcases qeK (nx0:=nx0) (live:=live) (s:=s) j with⟨x,_,k2,k3,k4⟩ |⟨k1,k2⟩
   ·rw[k2]at h1
    rw[k4]at h3
    refine⟨x,e,h1,fun hx=>h2 ?_,h3⟩
    rw[k3]
    split
    ·simp[q1e,hx,q1d]
    exact hx
   exact absurd k2 h2
  have hev:Ev q1y (Pr c m s.heap s.frz) w q1y (Pr c (qcl nx0 live s m) (q1E nx0 (q0B s.tmps live) (q1e s.heap) none s.heap (q0B s.tmps live) nx0) (q1E nx0 (q0B s.tmps live) s.frz 0 s.frz (q0B s.tmps live) nx0)) w:=
   ⟨(fun _ _ h=>nomatch h),fun b o v hp hc=>⟨hpr b o hp,hc⟩,fun r es k hp hc=>⟨hpr r 0 hp,hc⟩,fun b C t f hb=>⟨C,hb,rfl⟩⟩
  have blk:∀j B,q1E nx0 (q0B s.tmps live) (q1e s.heap) none s.heap (q0B s.tmps live) nx0 j=some B→∃x,((j<nx0∧x=j)∨(nx0≤x∧placeOf (q0B s.tmps live) x nx0=some j))∧s.heap x=some B∧q1d (some B)=true∧qcl nx0 live s m j=m x∧q1E nx0 (q0B s.tmps live) s.frz 0 s.frz (q0B s.tmps live) nx0 j=s.frz x:=by
   intro j B hB
   rcases qeK (nx0:=nx0) (live:=live) (s:=s) j with⟨x,k1,k2,k3,k4⟩ |⟨k1,k2⟩
   ·rw[k3]at hB
    rcases k1 with⟨h1,rfl⟩ |⟨h1,h2⟩
    ·rw[if_pos h1]at hB
     unfold q1e at hB
     cases hp:q1d (s.heap x)with
     |false=>rw[hp]at hB;cases hB
     |true=>
      rw[hp]at hB
      simp only[cond_true]at hB
      exact⟨x,.inl ⟨h1,rfl⟩,hB,by rw[←hB];exact hp,k2 m,k4⟩
    obtain⟨h3,h4⟩:=q2I _ _ _ _ h2
    rw[if_neg (by omega)]at hB
    refine⟨x,.inr ⟨h1,h2⟩,hB,?_,k2 m,k4⟩
    have hmem:=List.mem_of_getElem? h4
    obtain⟨⟨y,b⟩,hy,hid⟩:=List.mem_map.1 hmem
    have:=(qlV hok y b hy).2 x hid
    rw[hB]at this;exact this
   rw[k2]at hB;cases hB
  refine⟨⟨⟨fun j es esz hr=>?_,fun j ks vs hr=>?_,fun j j' y y' hj hj' hy hy' hyy=>?_,fun j x hx=>?_,H.base,fun j hj=>?_⟩,fun i=>?_⟩,hpr,fun id hid=>?_,rfl⟩
  ·obtain⟨x,_,k2,k3,k4,_⟩:=blk j _ hr
   rcases H.row x es esz k2 with⟨b,C,t,g1,g2,g3,g4⟩ |⟨g0,g1⟩
   ·exact .inl ⟨b,C,t,k4.trans g1,g2,g3,((g4.bare k3).mono hev).mono (Ev.up _ _ _)⟩
   exact .inr ⟨g0,k4.trans g1⟩
  ·obtain⟨x,_,k2,k3,k4,_⟩:=blk j _ hr
   obtain⟨b,C,t,g1,g2,g3,g4⟩:=H.mp x ks vs k2
   exact⟨b,C,t,k4.trans g1,g2,g3,((g4.bare k3).mono hev).mono (Ev.up _ _ _)⟩
  ·cases hB:q1E nx0 (q0B s.tmps live) (q1e s.heap) none s.heap (q0B s.tmps live) nx0 j with
   |none=>exact absurd hB hj
   |some B=>
    cases hB':q1E nx0 (q0B s.tmps live) (q1e s.heap) none s.heap (q0B s.tmps live) nx0 j' with
    |none=>exact absurd hB' hj'
    |some B'=>
     obtain⟨x,k1,k2,_,k4,_⟩:=blk j _ hB
     obtain⟨x',l1,l2,_,l4,_⟩:=blk j' _ hB'
     have:=H.inj x x' y y' (by rw[k2];simp) (by rw[l2];simp) (k4.symm.trans hy) (l4.symm.trans hy') hyy
     subst this
     exact qG5 k1 l1
  ·rcases qeK (nx0:=nx0) (live:=live) (s:=s) j with⟨y,_,k2,_,_⟩ |⟨k1,_⟩
   ·rw[k2]at hx;exact H.below y x hx
   rw[k1]at hx;cases hx
  ·cases hB:q1E nx0 (q0B s.tmps live) (q1e s.heap) none s.heap (q0B s.tmps live) nx0 j with
   |none=>exact absurd hB hj
   |some B=>
    obtain⟨x,_,k2,_,_,k5⟩:=blk j _ hB
    have:=H.zle x (by rw[k2];simp)
    simp only[k5,q0s,hB]
    simpa only[q0s,k2]using this
  ·simp only
   rcases qrb (nx0:=nx0) (q0B s.tmps live) s.tmps i live with h|⟨b,h1,h2⟩
   ·rw[h];exact .bad _
   rw[h2]
   have hv:=ht i
   cases hid:q2i (s.tmps i)with
   |none=>
    have hp:=(qlV hok i b h1).1 hid
    simp only[q1g,hid]
    exact((hv.bare 4 hp).mono hev).up
   |some id=>
    have hname:∃j,((j<nx0∧id=j)∨(nx0≤id∧placeOf (q0B s.tmps live) id nx0=some j))∧q1g nx0 (q0B s.tmps live) (s.tmps i)=qmI j (s.tmps i):=by
     by_cases hlt:id<nx0
     ·refine⟨id,.inl ⟨hlt,rfl⟩,?_⟩
      have:Nat.blt id nx0=true:=Nat.ble_eq_true_of_le hlt
      simp only[q1g,hid,this]
      cases hd:s.tmps i<;>simp only[hd,q2i,Option.some.injEq]at hid<;>first|(subst hid;rfl) |cases hid
     obtain⟨j,hj⟩:=qlU (q0B s.tmps live) id nx0 (qxU h1 hid)
     refine⟨j,.inr ⟨by omega,hj⟩,?_⟩
     have:Nat.blt id nx0=false:=by
      cases hb:Nat.blt id nx0 with
      |false=>rfl
      |true=>exact absurd (Nat.le_of_ble_eq_true hb) hlt
     simp only[q1g,hid,this,hj]
    obtain⟨j,hj,hk⟩:=hname
    rw[hk]
    have hm:=quU (m:=m) hj
    cases hd:s.tmps i with
    |ref id' off len=>
     rw[hd]at hv hid
     simp only[q2i,Option.some.injEq]at hid
     subst hid
     generalize a.tmps.getD i undef=v at hv
     cases hv with
     |vnil _ a=>exact .vnil j a
     |ref _ _ _ b esz cap C t f g1 g2 g3 g4=>exact .ref j off len b esz cap C t f (hm.trans g1) g2 g3 g4
    |ptr id' k o=>
     rw[hd]at hv hid
     simp only[q2i,Option.some.injEq]at hid
     subst hid
     generalize a.tmps.getD i undef=v at hv
     cases hv with
     |ptr _ _ _ b esz g1=>exact .ptr j k o b esz (hm.trans g1)
    |mref id'=>
     rw[hd]at hv hid
     simp only[q2i,Option.some.injEq]at hid
     subst hid
     generalize a.tmps.getD i undef=v at hv
     cases hv with
     |mref _ r g1=>exact .mref j r (hm.trans g1)
    |_=>rw[hd]at hid;simp[q2i]at hid
  simp only at hid
  rcases qeK (nx0:=nx0) (live:=live) (s:=s) id with⟨x,k1,_⟩ |⟨k1,_⟩
  ·rcases k1 with⟨h1,_⟩ |⟨_,h2⟩
   ·omega
   obtain⟨h3,h4⟩:=q2I _ _ _ _ h2
   have:=(List.getElem?_eq_some_iff.1 h4).1
   simp[q0B]at this
   omega
  exact k1 m
 cases hs
def q60 (nx0:Nat)(ids:List (Option Nat))(m:Map):Map:=q1E nx0 ids m none m ids nx0
theorem qbq {ids:List (Option Nat)}{h:q0d}{z:Frz}(j:Nat):(∃x,((j<nx0∧x=j)∨(nx0≤x∧placeOf ids x nx0=some j))∧
 (∀m:Map,q60 nx0 ids m j=m x)∧q1E nx0 ids (q1e h) none (fun i=>q78 nx0 ids (h i)) ids nx0 j=(if j<nx0 then q1e h x else q78 nx0 ids (h x))∧q1E nx0 ids z 0 z ids nx0 j=z x)∨
 ((∀m:Map,q60 nx0 ids m j=none)∧q1E nx0 ids (q1e h) none (fun i=>q78 nx0 ids (h i)) ids nx0 j=none):=by
 unfold q60
 simp only[q8C nx0 _ _ _ _ _ nx0 (Nat.le_refl _) j]
 by_cases h1:j<nx0
 ·exact .inl ⟨j,.inl ⟨h1,rfl⟩,by simp[h1],by simp[h1],by simp[h1]⟩
 simp only[h1,if_false]
 have hle:nx0≤j:=by omega
 simp only[hle,if_true]
 match hx:ids[j-nx0]? with
 |some (some x)=>
  by_cases h2:nx0≤x∧placeOf ids x nx0=some j
  ·exact .inl ⟨x,.inr h2,by simp[h2],by simp[h2],by simp[h2]⟩
  exact .inr ⟨by simp[h2],by simp[h2]⟩
 |some none=>exact .inr ⟨by simp,by simp⟩
 |none=>exact .inr ⟨by simp,by simp⟩
theorem qee {ids:List (Option Nat)}{x j:Nat}(h:(j<nx0∧x=j)∨(nx0≤x∧placeOf ids x nx0=some j)):q60 nx0 ids m j=m x:=by
 unfold q60
 rw[q8C nx0 _ _ _ _ _ nx0 (Nat.le_refl _) j]
 rcases h with⟨h1,rfl⟩ |⟨h1,h2⟩
 ·rw[if_pos h1]
 obtain⟨h3,h4⟩:=q2I _ _ _ _ h2
 rw[if_neg (by omega),if_pos h3,h4]
 simp[h1,h2]
theorem qDy {ids:List (Option Nat)}{x j j':Nat}(h:(j<nx0∧x=j)∨(nx0≤x∧placeOf ids x nx0=some j))(h':(j'<nx0∧x=j')∨(nx0≤x∧placeOf ids x nx0=some j')):j=j':=by
 rcases h with⟨h1,rfl⟩ |⟨h1,h2⟩
 ·rcases h' with⟨h3,rfl⟩ |⟨h3,h4⟩
  ·rfl
  omega
 rcases h' with⟨h3,rfl⟩ |⟨h3,h4⟩
 ·omega
 rw[h2]at h4;cases h4;rfl
theorem qjH {m':Map}{pr':q1v}{d:D}{v:Value}{id j:Nat}(hid:q2i d=some id)(hm:m' j=m id)(hv:VR m pr w d v):VR m' pr' w (qmI j d) v:=by
 cases d with
 |ref id' off len=>
  simp only[q2i,Option.some.injEq]at hid
  subst hid
  cases hv with
  |vnil _ a=>exact .vnil j a
  |ref _ _ _ b esz cap C t f g1 g2 g3 g4=>exact .ref j off len b esz cap C t f (hm.trans g1) g2 g3 g4
 |ptr id' k o=>
  simp only[q2i,Option.some.injEq]at hid
  subst hid
  cases hv with
  |ptr _ _ _ b esz g1=>exact .ptr j k o b esz (hm.trans g1)
 |mref id'=>
  simp only[q2i,Option.some.injEq]at hid
  subst hid
  cases hv with
  |mref _ r g1=>exact .mref j r (hm.trans g1)
 |_=>simp[q2i]at hid
theorem qG6 {ids:List (Option Nat)}{pr':q1v}{d:D}{v:Value}(hok:qvZ nx0 ids d=true)(hev:Ev q1y pr w q1y pr' w)(hv:VR m pr w d v):VR (q60 nx0 ids m) pr' w (q1g nx0 ids d) v:=by
 unfold qvZ at hok
 cases hid:q2i d with
 |none=>
  simp only[hid]at hok
  simp only[q1g,hid]
  exact((hv.bare 4 hok).mono hev).up
 |some id=>
  simp only[hid]at hok
  split at hok
  ·rename_i j h1 h2
   have hle:nx0≤id:=Nat.le_of_ble_eq_true h1
   have hb:Nat.blt id nx0=false:=by
    cases hb:Nat.blt id nx0 with
    |false=>rfl
    |true=>exact absurd (Nat.le_of_ble_eq_true hb) (by omega)
   simp only[q1g,hid,hb,h2]
   exact qjH hid (qee (.inr ⟨hle,h2⟩)) hv
  cases hok
theorem qsD (ids:List (Option Nat))(d:D):(qj7 nx0 ids d).cells=d.cells.map (q1g nx0 ids):=by
 cases d with
 |agg l=>rfl
 |ptr id i o=>show(q1g nx0 ids (D.ptr id i o)).cells=[q1g nx0 ids (D.ptr id i o)];simp only[q1g,q2i];cases Nat.blt id nx0<;>cases placeOf ids id nx0<;>rfl
 |ref id i o=>show(q1g nx0 ids (D.ref id i o)).cells=[q1g nx0 ids (D.ref id i o)];simp only[q1g,q2i];cases Nat.blt id nx0<;>cases placeOf ids id nx0<;>rfl
 |mref id=>show(q1g nx0 ids (D.mref id)).cells=[q1g nx0 ids (D.mref id)];simp only[q1g,q2i];cases Nat.blt id nx0<;>cases placeOf ids id nx0<;>rfl
 |_=>rfl
theorem qHs (ids:List (Option Nat))(d:D):(q1g nx0 ids d).one=d.one:=by
 cases d with
 |ptr id i o=>simp only[q1g,q2i];cases Nat.blt id nx0<;>cases placeOf ids id nx0<;>rfl
 |ref id i o=>simp only[q1g,q2i];cases Nat.blt id nx0<;>cases placeOf ids id nx0<;>rfl
 |mref id=>simp only[q1g,q2i];cases Nat.blt id nx0<;>cases placeOf ids id nx0<;>rfl
 |_=>rfl
theorem quV (ids:List (Option Nat))(es:List D):fl (es.map (qj7 nx0 ids))=(fl es).map (q1g nx0 ids):=by
 induction es with
 |nil=>rfl
 |cons e es ih=>
  simp only[fl,List.map_cons,List.flatMap_cons,List.map_append,qsD]at ih⊢
  rw[ih]
theorem qDz {ids:List (Option Nat)}{es:List D}(h:es.all (okD nx0 ids)=true):∀x∈fl es,qvZ nx0 ids x=true:=by
 intro x hx
 obtain⟨e,he,hx⟩:=List.mem_flatMap.1 hx
 have:=List.all_eq_true.1 h e he
 cases e with
 |agg l=>exact List.all_eq_true.1 this x hx
 |_=>simp only[D.cells,List.mem_singleton]at hx;subst hx;exact this
theorem RowIn.ren {ids:List (Option Nat)}{pr':q1v}{es:List D}{esz:Nat}{C:Array Value}(h:RowIn m pr w es esz C)(hok:es.all (okD nx0 ids)=true)(hev:Ev q1y pr w q1y pr' w):RowIn (q60 nx0 ids m) pr' w (es.map (qj7 nx0 ids)) esz C:=by
 obtain⟨r1,r2,r3,r4,r5⟩:=h
 refine⟨r1,fun e he=>?_,by rw[quV,List.length_map];exact r3,fun k h1 h2=>?_,fun e he=>?_⟩
 ·obtain⟨e0,h0,rfl⟩:=List.mem_map.1 he
  rw[qsD,List.length_map];exact r2 e0 h0
 ·simp only[quV,List.length_map]at h1
  simp only[quV,List.getElem_map]
  exact qG6 (qDz hok _ (List.getElem_mem _)) hev (r4 k h1 h2)
 rw[quV]at he
 obtain⟨e0,h0,rfl⟩:=List.mem_map.1 he
 rw[qHs];exact r5 e0 h0
theorem qiy {ids:List (Option Nat)}{h:q0d}{t:q0x}:∀{live:Live},q3C nx0 ids h t live=true→∀x b,(x,b)∈live→(q6i x=false→q2i (t x)=none→plain 4 (t x)=true)∧(∀id,q2i (look t h x)=some id→qsc nx0 ids (h id)=true):=by
 intro live
 induction live with
 |nil=>intro _ x b hx;simp at hx
 |cons y live ih=>
  intro hk x b hx
  simp only[q3C,Bool.and_eq_true]at hk
  rcases List.mem_cons.1 hx with rfl|hx
  ·refine⟨fun h0 h1=>?_,fun id h1=>by simpa[h1]using hk.1⟩
   have hl:look t h x=t x:=by unfold look;simp only[h0]
   have:=hk.1
   simp only[hl,h1,h0]at this
   exact this
  exact ih hk.2 x b hx
theorem qxV (ids:List (Option Nat))(t:q0x)(i:Nat):∀(live:Live),qg9 nx0 ids t live i=.bad∨∃b,(i,b)∈live∧q6i i=false∧qg9 nx0 ids t live i=q1g nx0 ids (t i):=by
 intro live
 induction live with
 |nil=>exact .inl rfl
 |cons x live ih=>
  simp only[qg9]
  by_cases hi:i=x.1
  ·subst hi;rw[upd_same]
   cases hp:q6i x.1 with
   |true=>exact .inl rfl
   |false=>exact .inr ⟨x.2,List.mem_cons_self ..,rfl,rfl⟩
  rw[upd_ne hi]
  rcases ih with h|⟨b,h1,h2,h3⟩
  ·exact .inl h
  exact .inr ⟨b,List.mem_cons_of_mem _ h1,h2,h3⟩
theorem renB_none {ids:List (Option Nat)}{b:Option Blk}:q78 nx0 ids b=none↔b=none:=by
 cases b with
 |none=>simp[q78]
 |some b=>cases b<;>simp[q78]
theorem qAc {ids:List (Option Nat)}{h h':q0d}{x j:Nat}(e:h' j=q78 nx0 ids (h x)):q0s h' j=q0s h x:=by
 simp only[q0s,e]
 cases h x with
 |none=>rfl
 |some b=>cases b<;>simp[q78]
theorem qxW {a:Act}{s':St}(hk:Knows c m s a w)(hs:qw0 nx0 live s=some s'):
 Knows c (q60 nx0 (q1Q s.tmps s.heap live) m) s' a w∧(∀b o,Pr c m s.heap s.frz b o→Pr c (q60 nx0 (q1Q s.tmps s.heap live) m) s'.heap s'.frz b o)∧(∀id,s'.next≤id→q60 nx0 (q1Q s.tmps s.heap live) m id=none)∧s'.next=nx0+live.length:=by
 obtain⟨H,ht⟩:=hk
 unfold qw0 at hs
 split at hs
 ·rename_i hok
  cases hs
  have hidl:(q1Q s.tmps s.heap live).length=live.length:=by simp[q1Q]
  have hmemI:∀id,some id∈q1Q s.tmps s.heap live→∃x b,(x,b)∈live∧q2i (look s.tmps s.heap x)=some id:=by
   intro id hid
   obtain⟨⟨x,b⟩,hx,e⟩:=List.mem_map.1 hid
   exact⟨x,b,hx,e⟩
  have hmemT:∀x b id,(x,b)∈live→q6i x=false→q2i (s.tmps x)=some id→some id∈q1Q s.tmps s.heap live:=by
   intro x b id hx hp hid
   refine List.mem_map.2 ⟨(x,b),hx,?_⟩
   have hl:look s.tmps s.heap x=s.tmps x:=by unfold look;simp only[hp]
   rw[hl];exact hid
  generalize q1Q s.tmps s.heap live=ids at*
  have hpr:∀b o,Pr c m s.heap s.frz b o→Pr c (q60 nx0 ids m) (q1E nx0 ids (q1e s.heap) none (fun i=>q78 nx0 ids (s.heap i)) ids nx0) (q1E nx0 ids s.frz 0 s.frz ids nx0) b o:=by
   intro b o hp
   rcases hp with hp|⟨hp,hn⟩
   ·exact .inl hp
   refine .inr ⟨hp,fun⟨j,e,h1,h2,h3⟩=>hn ?_⟩
   rcases qbq (nx0:=nx0) (ids:=ids) (h:=s.heap) (z:=s.frz) j with⟨x,_,k2,k3,k4⟩ |⟨k1,k2⟩
   ·rw[k2]at h1
    rw[k4]at h3
    refine⟨x,e,h1,fun hx=>h2 ?_,h3⟩
    rw[k3]
    split
    ·simp[q1e,hx,q1d]
    rw[hx];rfl
   exact absurd k2 h2
  have hev:Ev q1y (Pr c m s.heap s.frz) w q1y (Pr c (q60 nx0 ids m) (q1E nx0 ids (q1e s.heap) none (fun i=>q78 nx0 ids (s.heap i)) ids nx0) (q1E nx0 ids s.frz 0 s.frz ids nx0)) w:=
   ⟨(fun _ _ h=>nomatch h),fun b o v hp hc=>⟨hpr b o hp,hc⟩,fun r es k hp hc=>⟨hpr r 0 hp,hc⟩,fun b C t f hb=>⟨C,hb,rfl⟩⟩
  have blk:∀j B,q1E nx0 ids (q1e s.heap) none (fun i=>q78 nx0 ids (s.heap i)) ids nx0 j=some B→∃x B0,((j<nx0∧x=j)∨(nx0≤x∧placeOf ids x nx0=some j))∧s.heap x=some B0∧((B=B0∧q1d (some B0)=true)∨(some B=q78 nx0 ids (some B0)∧qsc nx0 ids (some B0)=true))∧q60 nx0 ids m j=m x∧q1E nx0 ids s.frz 0 s.frz ids nx0 j=s.frz x:=by
   intro j B hB
   rcases qbq (nx0:=nx0) (ids:=ids) (h:=s.heap) (z:=s.frz) j with⟨x,k1,k2,k3,k4⟩ |⟨k1,k2⟩
   ·rw[k3]at hB
    rcases k1 with⟨h1,rfl⟩ |⟨h1,h2⟩
    ·rw[if_pos h1]at hB
     unfold q1e at hB
     cases hp:q1d (s.heap x)with
     |false=>rw[hp]at hB;cases hB
     |true=>
      rw[hp]at hB
      simp only[cond_true]at hB
      exact⟨x,B,.inl ⟨h1,rfl⟩,hB,.inl ⟨rfl,by rw[←hB];exact hp⟩,k2 m,k4⟩
    obtain⟨h3,h4⟩:=q2I _ _ _ _ h2
    rw[if_neg (by omega)]at hB
    cases hx:s.heap x with
    |none=>rw[hx]at hB;cases hB
    |some B0=>
     rw[hx]at hB
     refine⟨x,B0,.inr ⟨h1,h2⟩,hx,.inr ⟨hB.symm,?_⟩,k2 m,k4⟩
     obtain⟨y,b,hy,hid⟩:=hmemI x (List.mem_of_getElem? h4)
     have:=(qiy hok y b hy).2 x hid
     rw[hx]at this;exact this
   rw[k2]at hB;cases hB
  refine⟨⟨⟨fun j es esz hr=>?_,fun j ks vs hr=>?_,fun j j' y y' hj hj' hy hy' hyy=>?_,fun j x hx=>?_,H.base,fun j hj=>?_⟩,fun i=>?_⟩,hpr,fun id hid=>?_,rfl⟩
  ·obtain⟨x,B0,_,k2,k3,k4,_⟩:=blk j _ hr
   rcases k3 with⟨rfl,k3⟩ |⟨k3,k3'⟩
   ·rcases H.row x es esz k2 with⟨b,C,t,g1,g2,g3,g4⟩ |⟨g0,g1⟩
    ·exact .inl ⟨b,C,t,k4.trans g1,g2,g3,((g4.bare k3).mono hev).mono (Ev.up _ _ _)⟩
    exact .inr ⟨g0,k4.trans g1⟩
   cases B0 with
   |mp ks vs=>simp[q78]at k3
   |row es0 esz0=>
    simp only[q78,Option.some.injEq,Blk.row.injEq]at k3
    obtain⟨rfl,rfl⟩:=k3
    rcases H.row x es0 esz k2 with⟨b,C,t,g1,g2,g3,g4⟩ |⟨g0,g1⟩
    ·exact .inl ⟨b,C,t,k4.trans g1,g2,g3,g4.ren k3' hev⟩
    exact .inr ⟨by rw[g0];rfl,k4.trans g1⟩
  ·obtain⟨x,B0,_,k2,k3,k4,_⟩:=blk j _ hr
   have k5:B0=.mp ks vs∧vs.all (plain 4)=true:=by
    rcases k3 with⟨rfl,k3⟩ |⟨k3,k3'⟩
    ·exact⟨rfl,k3⟩
    cases B0 with
    |row es0 esz0=>simp[q78]at k3
    |mp ks0 vs0=>
     simp only[q78,Option.some.injEq,Blk.mp.injEq]at k3
     obtain⟨rfl,rfl⟩:=k3
     exact⟨rfl,k3'⟩
   obtain⟨rfl,k6⟩:=k5
   obtain⟨b,C,t,g1,g2,g3,g4⟩:=H.mp x ks vs k2
   exact⟨b,C,t,k4.trans g1,g2,g3,((g4.bare k6).mono hev).mono (Ev.up _ _ _)⟩
  ·cases hB:q1E nx0 ids (q1e s.heap) none (fun i=>q78 nx0 ids (s.heap i)) ids nx0 j with
   |none=>exact absurd hB hj
   |some B=>
    cases hB':q1E nx0 ids (q1e s.heap) none (fun i=>q78 nx0 ids (s.heap i)) ids nx0 j' with
    |none=>exact absurd hB' hj'
    |some B'=>
     obtain⟨x,_,k1,k2,_,k4,_⟩:=blk j _ hB
     obtain⟨x',_,l1,l2,_,l4,_⟩:=blk j' _ hB'
     have:=H.inj x x' y y' (by rw[k2];simp) (by rw[l2];simp) (k4.symm.trans hy) (l4.symm.trans hy') hyy
     subst this
     exact qDy k1 l1
  ·rcases qbq (nx0:=nx0) (ids:=ids) (h:=s.heap) (z:=s.frz) j with⟨y,_,k2,_,_⟩ |⟨k1,_⟩
   ·rw[k2]at hx;exact H.below y x hx
   rw[k1]at hx;cases hx
  ·cases hB:q1E nx0 ids (q1e s.heap) none (fun i=>q78 nx0 ids (s.heap i)) ids nx0 j with
   |none=>exact absurd hB hj
   |some B=>
    obtain⟨x,B0,_,k2,k3,_,k5⟩:=blk j _ hB
    have:=H.zle x (by rw[k2];simp)
    simp only[k5]
    rcases k3 with⟨rfl,_⟩ |⟨k3,_⟩
    ·simp only[q0s,hB]
     simpa only[q0s,k2]using this
    have e:=qAc (nx0:=nx0) (ids:=ids) (h:=s.heap) (h':=q1E nx0 ids (q1e s.heap) none (fun i=>q78 nx0 ids (s.heap i)) ids nx0) (x:=x) (j:=j) (by rw[hB,k2];exact k3)
    rw[e];exact this
  ·simp only
   rcases qxV (nx0:=nx0) ids s.tmps i live with h|⟨b,h1,h0,h2⟩
   ·rw[h];exact .bad _
   rw[h2]
   have hv:=ht i
   cases hid:q2i (s.tmps i)with
   |none=>
    have hp:=(qiy hok i b h1).1 h0 hid
    simp only[q1g,hid]
    exact((hv.bare 4 hp).mono hev).up
   |some id=>
    by_cases hlt:id<nx0
    ·have:Nat.blt id nx0=true:=Nat.ble_eq_true_of_le hlt
     simp only[q1g,hid,this]
     have hr:qmI id (s.tmps i)=s.tmps i:=by
      cases hd:s.tmps i<;>simp only[hd,q2i,Option.some.injEq]at hid<;>first|(subst hid;rfl) |cases hid
     rw[←hr]
     exact qjH hid (qee (.inl ⟨hlt,rfl⟩)) hv
    obtain⟨j,hj⟩:=qlU ids id nx0 (hmemT i b id h1 h0 hid)
    have:Nat.blt id nx0=false:=by
     cases hb:Nat.blt id nx0 with
     |false=>rfl
     |true=>exact absurd (Nat.le_of_ble_eq_true hb) hlt
    simp only[q1g,hid,this,hj]
    exact qjH hid (qee (.inr ⟨by omega,hj⟩)) hv
  simp only at hid
  rcases qbq (nx0:=nx0) (ids:=ids) (h:=s.heap) (z:=s.frz) id with⟨x,k1,_⟩ |⟨k1,_⟩
  ·rcases k1 with⟨h1,_⟩ |⟨_,h2⟩
   ·omega
   obtain⟨h3,h4⟩:=q2I _ _ _ _ h2
   have:=(List.getElem?_eq_some_iff.1 h4).1
   omega
  exact k1 m
 cases hs
theorem qBv:∀{l:List D} {n:Nat} {d:D},nth l n=d→d≠ .bad→∃h:n<l.length,l[n]=d
 |[],_,_,h,hd=>absurd h.symm hd
 |x::l,0,d,h,_=>⟨by simp,h⟩
 |x::l,n+1,d,h,hd=>by
  obtain⟨h1,h2⟩:=qBv (l:=l) (n:=n) h hd
  exact⟨by simp;omega,by simpa using h2⟩
theorem qxX {s:St}{a:Act}{x k:Nat}(hk:Knows c m s a w)(hf:∀id,s.next≤id→m id=none):
 Knows c m (qsb x k s) a w∧Ev m (Pr c m s.heap s.frz) w m (Pr c m (qsb x k s).heap (qsb x k s).frz) w∧∀id,(qsb x k s).next≤id→m id=none:=by
 unfold qsb
 split
 ·exact qpJ hk hf
 split
 ·rename_i k id i o hx
  split
  ·rename_i l esz hb
   split
   ·rename_i hn
    obtain⟨hlt,hget⟩:=qBv hn (by simp)
    have hid:=hf s.next (Nat.le_refl _)
    have e:=Ev.virt (c:=c) (h:=s.heap) (z:=s.frz) (w:=w) (k:=k+1) (kz:=0) hid
    have H1:=hk.1.virt (k:=k+1) (kz:=0) hid rfl
    rcases hk.1.row id _ esz hb with⟨b,C,t,g1,g2,g3,g4⟩ |⟨g0,_⟩
    case inr=>cases g0
    have hne:id≠s.next:=fun e0=>by rw[e0,hid]at g1;cases g1
    have hb1:upd s.heap s.next (some (.row [] (k+1))) id=some (.row [.agg l] esz):=by rw[upd_ne hne];exact hb
    have g5:=g4.mono e
    have n3:RowIn m (Pr c m (upd s.heap s.next (some (.row [] (k+1)))) (upd s.frz s.next 0)) w [.agg (l.set (x/1048576-1) (.ref s.next 0 0))] esz C:=by
     obtain⟨r1,r2,r3,r4,r5⟩:=g5
     have hfl:fl [D.agg l]=l:=by simp[fl,D.cells]
     have hfl':fl [D.agg (l.set (x/1048576-1) (.ref s.next 0 0))]=l.set (x/1048576-1) (.ref s.next 0 0):=by simp[fl,D.cells]
     refine⟨r1,fun e0 he=>?_,?_,fun k0 h1 h2=>?_,fun e0 he=>?_⟩
     ·rw[List.mem_singleton]at he;subst he
      have:=r2 (.agg l) (by simp)
      simpa[D.cells]using this
     ·rw[hfl',List.length_set];rw[hfl]at r3;exact r3
     ·simp only[hfl']at h1⊢
      rw[List.length_set]at h1
      have hv:=r4 k0 (by rw[hfl];exact h1) h2
      simp only[hfl]at hv
      rw[List.getElem_set]
      split
      ·rename_i e1
       subst e1
       rw[hget]at hv
       generalize C[x/1048576-1]=v at hv
       cases hv with
       |nilsl b=>exact .vnil _ _
      exact hv
     rw[hfl']at he
     rcases List.mem_or_eq_of_mem_set he with he|rfl
     ·exact r5 _ (by rw[hfl];exact he)
     rfl
    have e2:=Ev.store H1 (es':=[.agg (l.set (x/1048576-1) (.ref s.next 0 0))]) g1 hb1 g3 g3 rfl (fun _ _=>rfl) (fun _ _=>rfl)
    exact⟨⟨H1.store g1 hb1 rfl g3 g3 rfl (fun _ _=>rfl) rfl (fun _ _=>rfl) n3,fun i=>(hk.2 i).mono (e.trans e2)⟩,e.trans e2,fun id hl=>hf id (by simp only at hl;omega)⟩
   exact⟨hk,Ev.refl _ _ _,hf⟩
  exact⟨hk,Ev.refl _ _ _,hf⟩
 exact⟨hk,Ev.refl _ _ _,hf⟩
theorem qrc {a:Act}:∀(live:Live) {s:St},Knows c m s a w→(∀id,s.next≤id→m id=none)→
 Knows c m (q5e live s) a w∧Ev m (Pr c m s.heap s.frz) w m (Pr c m (q5e live s).heap (q5e live s).frz) w∧∀id,(q5e live s).next≤id→m id=none:=by
 intro live
 induction live with
 |nil=>intro s hk hf;exact⟨hk,Ev.refl _ _ _,hf⟩
 |cons x live ih=>
  intro s hk hf
  obtain⟨k1,e1,f1⟩:=qxX (x:=x.1) (k:=x.2) hk hf
  obtain⟨k2,e2,f2⟩:=ih k1 f1
  exact⟨k2,e1.trans e2,f2⟩
theorem qxY {z':Frz}{hp:q0d}{n:Nat}{d d':D}{v:Value}(H:HR c m h z w)(hs:Sub hp h)(ev:Ev m (Pr c m h z) w m (Pr c m h z') w)(hv:VR m (Pr c m h z) w d v)(hsn:qoh hp n d=some d')(hre:∀id∈q0O hp n d,z' id=q0s h id):qiA c m h z' w d d' v:=by
 cases d with
 |nilsl=>
  simp only[qoh,Option.some.injEq]at hsn
  subst hsn
  exact⟨(hv.bare 4 rfl).mono ev.bare,fun h=>h,fun h=>h,rfl⟩
 |_=>exact q8D H hs ev n _ _ _ hv hsn hre
theorem qrd {ids:List (Option Nat)}{s s':St}{a:Act}{x:Nat}(hk:Knows c m s a w)(hs:q4w nx0 ids x s=some s'):
 Knows c m s' a w∧Ev m (Pr c m s.heap s.frz) w m (Pr c m s'.heap s'.frz) w∧s'.next=s.next:=by
 unfold q4w at hs
 split at hs
 ·split at hs
  ·cases hs;exact⟨hk,Ev.refl _ _ _,rfl⟩
  exact qix hk hs
 rename_i id hid
 split at hs
 ·rename_i es esz hb
  split at hs
  ·cases hs;exact⟨hk,Ev.refl _ _ _,rfl⟩
  split at hs
  ·rename_i es' hm
   cases hs
   have hl:=qjG s.heap (es.flatMap (q0O s.heap depth))
   obtain⟨k1,e1⟩:=qjF hk hl
   rcases hk.1.row id es esz hb with⟨b,C,t,g1,g2,g3,g4⟩ |⟨g0,_⟩
   case inr=>subst g0;simp at*
   obtain⟨n1,n2⟩:=g4.snapped (z':=q0y s.frz ((es.flatMap (q0O s.heap depth)).map fun id=>(id,q0s s.heap id))) hm (fun e he e' v hv hsn=>
    qxY hk.1 (fun _ _ h=>h) e1 hv hsn (fun i hi=>qjE s.frz hl ⟨_,List.mem_map.2 ⟨i,List.mem_flatMap.2 ⟨e,he,hi⟩,rfl⟩,rfl⟩))
   have n3:RowIn m (Pr c m s.heap (q0y s.frz ((es.flatMap (q0O s.heap depth)).map fun id=>(id,q0s s.heap id)))) w es' esz C:=n2.mono (Ev.up _ _ _)
   have e2:=Ev.store k1.1 (es':=es') g1 hb g3 g3 rfl (fun _ _=>rfl) (fun _ _=>rfl)
   exact⟨⟨k1.1.store g1 hb n1 g3 g3 rfl (fun _ _=>rfl) rfl (fun _ _=>rfl) n3,fun i=>(k1.2 i).mono e2⟩,e1.trans e2,rfl⟩
  cases hs
 cases hs;exact⟨hk,Ev.refl _ _ _,rfl⟩
theorem qmv {ids:List (Option Nat)}{a:Act}:∀(live:Live) {s s':St},Knows c m s a w→q40 nx0 ids live s=some s'→
 Knows c m s' a w∧Ev m (Pr c m s.heap s.frz) w m (Pr c m s'.heap s'.frz) w∧s'.next=s.next:=by
 intro live
 induction live with
 |nil=>intro s s' hk hs;simp only[q40,Option.some.injEq]at hs;subst hs;exact⟨hk,Ev.refl _ _ _,rfl⟩
 |cons x live ih=>
  intro s s' hk hs
  simp only[q40]at hs
  split at hs
  ·rename_i s1 h1
   obtain⟨k1,e1,n1⟩:=qrd hk h1
   obtain⟨k2,e2,n2⟩:=ih k1 hs
   exact⟨k2,e1.trans e2,n2.trans n1⟩
  cases hs
theorem qre {n:Nat}{ms:Map}{prs:q1v}{ws:World}{a:Act}{s':St}(hms:∀id,nx0≤id→ms id=none)(R:Rel n nx0 c ms prs ws (fun id=>s.next≤id) s a w)(hs:qb4 nx0 live s=some s'):
 Rel n nx0 c ms prs ws (fun id=>s'.next≤id) s' a w:=by
 obtain⟨m,H,ht,hev,hfr,hlow⟩:=R.ex
 unfold qb4 at hs
 split at hs
 ·rename_i s1 h1
  obtain⟨k0,e0,f0⟩:=qrc (s:=s) (a:=a) live ⟨H,ht⟩ hfr
  obtain⟨k1,e1,n1⟩:=qmv live k0 h1
  obtain⟨k2,p2,f2,n2⟩:=qxW k1 hs
  refine⟨⟨q60 nx0 (q1Q s1.tmps s1.heap live) m,k2.1,k2.2,?_,f2,fun id hid=>?_⟩,R.below,R.defers,R.size,by rw[n2];omega⟩
  ·have e:=(hev.trans e0).trans e1
   refine⟨fun id x hx=>?_,fun b o v hp hc=>?_,fun r es k hp hc=>?_,e.size⟩
   ·have hlt:id<nx0:=by
     refine Nat.lt_of_not_le fun hle=>?_
     rw[hms id hle]at hx;cases hx
    rw[qee (.inl ⟨hlt,rfl⟩)]
    exact e.ext id x hx
   ·obtain⟨q1,q2⟩:=e.cell b o v hp hc
    exact⟨p2 _ _ q1,q2⟩
   obtain⟨q1,q2⟩:=e.obj r es k hp hc
   exact⟨p2 _ _ q1,q2⟩
  rw[qee (.inl ⟨hid,rfl⟩)];exact hlow id hid
 cases hs
theorem quW {n:Nat}{ms:Map}{prs:q1v}{ws:World}{a:Act}{s':St}(hms:∀id,nx0≤id→ms id=none)(R:Rel n nx0 c ms prs ws (fun id=>s.next≤id) s a w)(hs:settle nx0 live s=some s'):
 Rel n nx0 c ms prs ws (fun id=>s'.next≤id) s' a w:=by
 obtain⟨m,H,ht,hev,hfr,hlow⟩:=R.ex
 unfold settle at hs
 split at hs
 ·exact qre hms R hs
 split at hs
 ·rename_i s1 h1
  obtain⟨k0,e0,f0⟩:=quT (s:=s) (a:=a) live ⟨H,ht⟩ hfr
  obtain⟨k1,e1,n1⟩:=qpK live k0 h1
  obtain⟨k2,p2,f2,n2⟩:=qAb k1 hs
  refine⟨⟨qcl nx0 live s1 m,k2.1,k2.2,?_,f2,fun id hid=>?_⟩,R.below,R.defers,R.size,by rw[n2];omega⟩
  ·have e:=(hev.trans e0).trans e1
   refine⟨fun id x hx=>?_,fun b o v hp hc=>?_,fun r es k hp hc=>?_,e.size⟩
   ·have hlt:id<nx0:=by
     refine Nat.lt_of_not_le fun hle=>?_
     rw[hms id hle]at hx;cases hx
    rw[quU (.inl ⟨hlt,rfl⟩)]
    exact e.ext id x hx
   ·obtain⟨q1,q2⟩:=e.cell b o v hp hc
    exact⟨p2 _ _ q1,q2⟩
   obtain⟨q1,q2⟩:=e.obj r es k hp hc
   exact⟨p2 _ _ q1,q2⟩
  rw[quU (.inl ⟨hid,rfl⟩)];exact hlow id hid
 cases hs
end
end Go.F
