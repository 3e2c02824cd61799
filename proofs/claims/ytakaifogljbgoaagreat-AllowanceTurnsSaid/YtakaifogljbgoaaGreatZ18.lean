/- Parts of the proof, part 18: Settle. -/
import Derived.Test.YtakaifogljbgoaaGreatZ17
set_option linter.all false
namespace Go.F
open Go.RowKit (Below)
variable {P:Program}{c:Ctx}{m:Map}{pr:q1x}{h hr:q0e}{z z':Frz}{w:World}
theorem VR.bare:∀(n:Nat) {d:D} {v:Value},plain n d=true→VR m pr w d v→VR q1t pr w d v:=by
 intro n
 induction n with
 |zero=>intro d v hp;simp[plain]at hp
 |succ n ih=>
  intro d v hp hv
  cases hv with
  |bool b=>exact .bool b
  |int k n=>exact .int k n
  |float k n=>exact .float k n
  |str s=>exact .str s
  |nilsl a=>exact .nilsl a
  |lst0 a cap=>exact .lst0 a cap
  |lst l b o cap esz cv hne hes hpos hcap hc hv hone=>exact .lst l b o cap esz cv hne hes hpos hcap hc hv hone
  |ref=>simp[plain]at hp
  |vnil=>simp[plain]at hp
  |pl d i b o cv hc hv hone=>exact .pl d i b o cv hc hv hone
  |ptr=>simp[plain]at hp
  |agg l vs hlen hv hone=>
   simp only[plain,List.all_eq_true]at hp
   exact .agg l vs hlen (fun k h1 h2=>ih (hp _ (List.getElem_mem _)) (hv k h1 h2)) hone
  |tup l vs hlen hv=>
   simp only[plain,List.all_eq_true]at hp
   exact .tup l vs hlen (fun k h1 h2=>ih (hp _ (List.getElem_mem _)) (hv k h1 h2))
  |fn f la lc va vc ha hc hva hvc=>
   simp only[plain,Bool.and_eq_true,List.all_eq_true]at hp
   exact .fn f la lc va vc ha hc (fun k h1 h2=>ih (hp.1 _ (List.getElem_mem _)) (hva k h1 h2)) (fun k h1 h2=>ih (hp.2 _ (List.getElem_mem _)) (hvc k h1 h2))
  |mref=>simp[plain]at hp
  |mlst ks vs r clock es hw hp' h1 h2 hk hv=>exact .mlst ks vs r clock es hw hp' h1 h2 hk hv
  |opq v h hb=>exact .opq v h hb
  |bad=>simp[plain]at hp
theorem qzj {n:Nat}{e:D}(hp:plain (n+1) e=true):∀x∈e.cells,plain (n+1) x=true:=by
 have mono:∀(n:Nat) (d:D),plain n d=true→plain (n+1) d=true:=by
  intro n
  induction n with
  |zero=>intro d h;simp[plain]at h
  |succ n ih=>
   intro d h
   cases d<;>first|rfl|(simp[plain]at h;done) |skip
   ·simp only[plain,List.all_eq_true]at h⊢;exact fun x hx=>by simpa[plain]using ih x (h x hx)
   ·simp only[plain,List.all_eq_true]at h⊢;exact fun x hx=>by simpa[plain]using ih x (h x hx)
   simp only[plain,Bool.and_eq_true,List.all_eq_true]at h⊢
   exact⟨fun x hx=>by simpa[plain]using ih x (h.1 x hx),fun x hx=>by simpa[plain]using ih x (h.2 x hx)⟩
 cases e with
 |agg l=>simp only[plain,List.all_eq_true]at hp;exact fun x hx=>mono _ _ (hp x hx)
 |_=>intro x hx;simp only[D.cells,List.mem_singleton]at hx;subst hx;exact hp
theorem qHJ {es:List D}(hp:es.all (plain 4)=true):∀x∈fl es,plain 4 x=true:=by
 intro x hx
 obtain⟨e,he,hx⟩:=List.mem_flatMap.1 hx
 exact qzj (List.all_eq_true.1 hp e he) x hx
theorem RowIn.bare {es:List D}{esz:Nat}{C:Array Value}(h:RowIn m pr w es esz C)(hp:es.all (plain 4)=true):RowIn q1t pr w es esz C:=
 ⟨h.1,h.2.1,h.2.2.1,fun k hk hk'=>(h.2.2.2.1 k hk hk').bare 4 (qHJ hp _ (List.getElem_mem _)),h.2.2.2.2⟩
theorem MapIn.bare {ks:List ByteArray}{vs:List D}{es:Array MapEntry}(h:MapIn m pr w ks vs es)(hp:vs.all (plain 4)=true):MapIn q1t pr w ks vs es:=
 ⟨h.1,h.2.1,h.2.2.1,fun k hk hk'=>(h.2.2.2 k hk hk').bare 4 (List.all_eq_true.1 hp _ (List.getElem_mem _))⟩
theorem RowIn.snapped {f:D→Option D}{es es':List D}{esz:Nat}{C:Array Value}(hr:RowIn m (Pr c m h z) w es esz C)(hm:es.mapM f=some es')
 (hsn:∀e∈es,∀e' v,VR m (Pr c m h z) w e v→f e=some e'→qjJ c m h z' w e e' v):es'.length=es.length∧RowIn q1t (Pr c m h z') w es' esz C:=by
 obtain⟨r1,r2,r3,r4,r5⟩:=hr
 obtain⟨q1,q2⟩:=q8q hm
 have hfl:=q1m r2
 have elem:∀i (hi:i<es.length),∃e e':D,es[i]?=some e∧es'[i]?=some e'∧e.cells.length=esz∧qjJ c m h z' w e e' (q46 e ((C.toList.drop (i*esz)).take esz))∧(q46 e ((C.toList.drop (i*esz)).take esz)).cells.toList=(C.toList.drop (i*esz)).take esz∧e.sto=true:=by
  intro i hi
  have hget:es[i]?=some es[i]:=List.getElem?_eq_getElem hi
  have hlen2:es[i].cells.length=esz:=r2 _ (List.getElem_mem _)
  have hin:(i+1) *esz≤es.length*esz:=Nat.mul_le_mul_right _ hi
  rw[Nat.succ_mul]at hin
  have hcells:Cells m (Pr c m h z) w es[i].cells ((C.toList.drop (i*esz)).take esz):=by
   refine⟨by simp;omega,fun k h1 h2=>?_,fun x hx=>?_⟩
   ·have hk:i*esz+k<(fl es).length:=by omega
    have hg:(fl es)[i*esz+k]=es[i].cells[k]:=by
     have:=q7X r2 hget (j:=k) (by omega)
     rw[List.getElem?_eq_getElem hk,List.getElem?_eq_getElem h1]at this
     exact Option.some.inj this
    rw[←hg]
    simp only[List.getElem_take,List.getElem_drop,Array.getElem_toList]
    exact r4 _ _ _
   obtain⟨j,hj,rfl⟩:=List.mem_iff_getElem.1 hx
   have:=q7X r2 hget (j:=j) (by omega)
   rw[List.getElem?_eq_getElem hj]at this
   exact r5 _ (List.mem_of_getElem? this)
  obtain⟨e1,e2⟩:=qjI hcells
  have hsto:es[i].sto=true:=by
   have hone:=hcells.one
   cases he:es[i]with
   |tup x=>rw[he]at hone;have:=hone (.tup x) (by simp[D.cells]);simp[D.one]at this
   |bad=>rw[he]at hone;have:=hone .bad (by simp[D.cells]);simp[D.one]at this
   |_=>rfl
  exact⟨es[i],es'[i]'(by omega),hget,List.getElem?_eq_getElem (by omega),hlen2,hsn _ (List.getElem_mem _) _ _ e1 (q2 i hi (by omega)),e2,hsto⟩
 have hu':∀x∈es',x.cells.length=esz:=by
  intro x hx
  obtain⟨i,hi,rfl⟩:=List.mem_iff_getElem.1 hx
  obtain⟨e,e',h1,h2,h3,h4,_,_⟩:=elem i (by omega)
  rw[List.getElem?_eq_getElem hi]at h2;cases h2
  rw[h4.2.2.2];exact h3
 have hfl':=q1m hu'
 have cell:∀k (hk:k<(fl es').length) (hk':k<C.size),VR q1t (Pr c m h z') w (fl es')[k] C[k]∧(fl es')[k].one=true:=by
  intro k hk hkC
  rw[hfl',q1]at hk
  have hdiv:k/esz<es.length:=Nat.div_lt_of_lt_mul (by rw[Nat.mul_comm];exact hk)
  have hmod:k%esz<esz:=Nat.mod_lt _ r1
  have hkk:k/esz*esz+k%esz=k:=by rw[Nat.mul_comm];exact Nat.div_add_mod k esz
  obtain⟨e,e',h1,h2,h3,h4,h5,h6⟩:=elem (k/esz) hdiv
  obtain⟨s1,s2,s3,s4⟩:=h4
  obtain⟨t1,t2,t3⟩:=s1.cells (s3 h6)
  have hg:=q7X hu' h2 (j:=k%esz) hmod
  rw[hkk]at hg
  have hlt:k%esz<e'.cells.length:=by rw[s4,h3];exact hmod
  rw[List.getElem?_eq_getElem (by rw[hfl',q1];exact hk),List.getElem?_eq_getElem hlt]at hg
  have hg':=Option.some.inj hg
  rw[hg']
  have hlt2:k%esz<(q46 e ((C.toList.drop (k/esz*esz)).take esz)).cells.size:=by rw[←t1];exact hlt
  have hval:(q46 e ((C.toList.drop (k/esz*esz)).take esz)).cells[k%esz]=C[k]:=by
   have e1:(q46 e ((C.toList.drop (k/esz*esz)).take esz)).cells.toList[k%esz]?=((C.toList.drop (k/esz*esz)).take esz)[k%esz]?:=by rw[h5]
   rw[List.getElem?_take_of_lt hmod,List.getElem?_drop,hkk]at e1
   simp only[Array.getElem?_toList]at e1
   rw[Array.getElem?_eq_getElem hlt2,Array.getElem?_eq_getElem hkC]at e1
   exact Option.some.inj e1
  exact⟨hval▸t2 _ hlt hlt2,t3 _ (List.getElem_mem _)⟩
 refine⟨q1,r1,hu',by rw[hfl',q1,←hfl];exact r3,fun k h1 h2=>(cell k h1 h2).1,fun x hx=>?_⟩
 obtain⟨k,hk,rfl⟩:=List.mem_iff_getElem.1 hx
 exact(cell k hk (by rw[hfl',q1,←hfl]at hk;omega)).2
theorem qkP {h:q0e}{l:List (Nat×Nat)}{id:Nat}(z:Frz)(hall:∀p∈l,p.2=q0t h p.1)(hex:∃p∈l,p.1=id):q0A z l id=q0t h id:=by
 induction l generalizing z with
 |nil=>obtain⟨p,hp,_⟩:=hex;simp at hp
 |cons q l ih=>
  obtain⟨j,k⟩:=q
  simp only[q0A]
  by_cases hmore:∃p∈l,p.1=id
  ·exact ih _ (fun p hp=>hall p (List.mem_cons_of_mem _ hp)) hmore
  obtain⟨p,hp,hpid⟩:=hex
  rcases List.mem_cons.1 hp with rfl|hp
  ·rw[q5G _ _ _ (fun q hq e=>hmore ⟨q,hq,e⟩)]
   simp only at hpid
   subst hpid
   rw[upd_same]
   exact hall (j,k) (List.mem_cons_self ..)
  exact absurd ⟨p,hp,hpid⟩ hmore
def Knows (c:Ctx)(m:Map)(s:St)(a:Act)(w:World):Prop:=HR c m s.heap s.frz w∧∀i,VR m (Pr c m s.heap s.frz) w (s.tmps i) (a.tmps.getD i undef)
theorem qkQ {s:St}{a:Act}(hk:Knows c m s a w){l:List (Nat×Nat)}(hl:∀p∈l,p.2=q0t s.heap p.1):
 Knows c m ⟨s.tmps,s.heap,q0A s.frz l,s.next⟩ a w∧Ev m (Pr c m s.heap s.frz) w m (Pr c m s.heap (q0A s.frz l)) w:=
 ⟨⟨hk.1.freeze hl,fun i=>(hk.2 i).mono (Ev.freeze hk.1 hl)⟩,Ev.freeze hk.1 hl⟩
theorem qr6 {s:St}{a:Act}{x k:Nat}(hk:Knows c m s a w)(hf:∀id,s.next≤id→m id=none):
 Knows c m (qxt x k s) a w∧Ev m (Pr c m s.heap s.frz) w m (Pr c m (qxt x k s).heap (qxt x k s).frz) w∧∀id,(qxt x k s).next≤id→m id=none:=by
 unfold qxt
 split
 ·rename_i k hx
  have hid:=hf s.next (Nat.le_refl _)
  have e:=Ev.virt (c:=c) (h:=s.heap) (z:=s.frz) (w:=w) (k:=k+1) (kz:=0) hid
  refine⟨⟨hk.1.virt hid rfl,fun i=>?_⟩,e,fun id hl=>hf id (by simp only at hl;omega)⟩
  ·by_cases hi:i=x
   ·subst hi
    have hv:=hk.2 i
    rw[hx]at hv
    simp only[upd_same]
    generalize a.tmps.getD i undef=v at hv
    cases hv with
    |nilsl b=>exact .vnil _ _
   simp only[upd_ne hi];exact(hk.2 i).mono e
 exact⟨hk,Ev.refl _ _ _,hf⟩
theorem qwr {a:Act}:∀(live:Live) {s:St},Knows c m s a w→(∀id,s.next≤id→m id=none)→
 Knows c m (q4F live s) a w∧Ev m (Pr c m s.heap s.frz) w m (Pr c m (q4F live s).heap (q4F live s).frz) w∧∀id,(q4F live s).next≤id→m id=none:=by
 intro live
 induction live with
 |nil=>intro s hk hf;exact⟨hk,Ev.refl _ _ _,hf⟩
 |cons x live ih=>
  intro s hk hf
  obtain⟨k1,e1,f1⟩:=qr6 (x:=x.1) (k:=x.2) hk hf
  obtain⟨k2,e2,f2⟩:=ih k1 f1
  exact⟨k2,e1.trans e2,f2⟩
theorem qkR (h:q0e)(l:List Nat):∀p∈l.map (fun id=>(id,q0t h id)),p.2=q0t h p.1:=by
 intro p hp
 obtain⟨id,_,rfl⟩:=List.mem_map.1 hp
 rfl
theorem qjF {s s':St}{a:Act}{x:Nat}(hk:Knows c m s a w)(hs:qkg x s=some s'):
 Knows c m s' a w∧Ev m (Pr c m s.heap s.frz) w m (Pr c m s'.heap s'.frz) w∧s'.next=s.next:=by
 unfold qkg at hs
 split at hs
 ·split at hs
  ·cases hs;exact⟨hk,Ev.refl _ _ _,rfl⟩
  split at hs
  ·rename_i d hd
   cases hs
   have hl:=qkR s.heap (q0T s.heap depth (s.tmps x))
   obtain⟨k1,e1⟩:=qkQ hk hl
   have hsn:=q9u hk.1 (fun _ _ h=>h) e1 depth _ _ _ (hk.2 x) hd (fun id hid=>qkP s.frz hl ⟨_,List.mem_map.2 ⟨id,hid,rfl⟩,rfl⟩)
   refine⟨⟨k1.1,fun i=>?_⟩,e1,rfl⟩
   by_cases hi:i=x
   ·subst hi;simp only[upd_same];exact hsn.1.up
   simp only[upd_ne hi];exact k1.2 i
  cases hs
 rename_i id hid
 split at hs
 ·rename_i es esz hb
  split at hs
  ·cases hs;exact⟨hk,Ev.refl _ _ _,rfl⟩
  split at hs
  ·rename_i es' hm
   cases hs
   have hl:=qkR s.heap (es.flatMap (q0T s.heap depth))
   obtain⟨k1,e1⟩:=qkQ hk hl
   rcases hk.1.row id es esz hb with⟨b,C,t,g1,g2,g3,g4⟩ |⟨g0,_⟩
   case inr=>subst g0;simp at*
   obtain⟨n1,n2⟩:=g4.snapped (z':=q0A s.frz ((es.flatMap (q0T s.heap depth)).map fun id=>(id,q0t s.heap id))) hm (fun e he e' v hv hsn=>
    q9u hk.1 (fun _ _ h=>h) e1 depth _ _ _ hv hsn (fun i hi=>qkP s.frz hl ⟨_,List.mem_map.2 ⟨i,List.mem_flatMap.2 ⟨e,he,hi⟩,rfl⟩,rfl⟩))
   have n3:RowIn m (Pr c m s.heap (q0A s.frz ((es.flatMap (q0T s.heap depth)).map fun id=>(id,q0t s.heap id)))) w es' esz C:=n2.mono (Ev.up _ _ _)
   have e2:=Ev.store k1.1 (es':=es') g1 hb g3 g3 rfl (fun _ _=>rfl) (fun _ _=>rfl)
   exact⟨⟨k1.1.store g1 hb n1 g3 g3 rfl (fun _ _=>rfl) rfl (fun _ _=>rfl) n3,fun i=>(k1.2 i).mono e2⟩,e1.trans e2,rfl⟩
  cases hs
 cases hs;exact⟨hk,Ev.refl _ _ _,rfl⟩
theorem qr7 {a:Act}:∀(live:Live) {s s':St},Knows c m s a w→q9a live s=some s'→
 Knows c m s' a w∧Ev m (Pr c m s.heap s.frz) w m (Pr c m s'.heap s'.frz) w∧s'.next=s.next:=by
 intro live
 induction live with
 |nil=>intro s s' hk hs;simp only[q9a,Option.some.injEq]at hs;subst hs;exact⟨hk,Ev.refl _ _ _,rfl⟩
 |cons x live ih=>
  intro s s' hk hs
  simp only[q9a]at hs
  split at hs
  ·rename_i s1 h1
   obtain⟨k1,e1,n1⟩:=qjF hk h1
   obtain⟨k2,e2,n2⟩:=ih k1 hs
   exact⟨k2,e1.trans e2,n2.trans n1⟩
  cases hs
theorem q2W:∀(ids:List (Option Nat)) (x j0 j:Nat),placeOf ids x j0=some j→j0≤j∧ids[j-j0]?=some (some x):=by
 intro ids
 induction ids with
 |nil=>intro x j0 j h;simp[placeOf]at h
 |cons o ids ih=>
  intro x j0 j h
  cases o with
  |none=>
   simp only[placeOf]at h
   obtain⟨h1,h2⟩:=ih x (j0+1) j h
   refine⟨by omega,?_⟩
   rw[show j-j0=(j-(j0+1))+1 by omega,List.getElem?_cons_succ];exact h2
  |some y=>
   simp only[placeOf]at h
   cases hb:Nat.beq y x with
   |true=>
    rw[hb]at h
    simp only[cond_true,Option.some.injEq]at h
    subst h
    have:=Nat.eq_of_beq_eq_true hb
    subst this
    simp
   |false=>
    rw[hb]at h
    simp only[cond_false]at h
    obtain⟨h1,h2⟩:=ih x (j0+1) j h
    refine⟨by omega,?_⟩
    rw[show j-j0=(j-(j0+1))+1 by omega,List.getElem?_cons_succ];exact h2
theorem qn8:∀(ids:List (Option Nat)) (x j0:Nat),some x∈ids→∃j,placeOf ids x j0=some j:=by
 intro ids
 induction ids with
 |nil=>intro x j0 h;simp at h
 |cons o ids ih=>
  intro x j0 h
  cases o with
  |none=>
   simp only[placeOf]
   rcases List.mem_cons.1 h with h|h
   ·cases h
   exact ih x (j0+1) h
  |some y=>
   simp only[placeOf]
   cases hb:Nat.beq y x with
   |true=>exact⟨j0,rfl⟩
   |false=>
    rcases List.mem_cons.1 h with h|h
    ·cases h;simp at hb
    exact ih x (j0+1) h
theorem q9s {α:Type}(nx0:Nat)(ids:List (Option Nat))(old:Nat→α)(bot:α)(h:Nat→α):∀(rest:List (Option Nat)) (j0:Nat),nx0≤j0→∀j,
 q1P nx0 ids old bot h rest j0 j=if j<nx0 then old j else if j0≤j then(match rest[j-j0]? with|some (some x)=>if nx0≤x∧placeOf ids x nx0=some j then h x else bot|_=>bot)else bot:=by
 intro rest
 induction rest with
 |nil=>
  intro j0 hj j
  simp only[q1P,List.getElem?_nil]
  by_cases h1:j<nx0
  ·have:Nat.blt j nx0=true:=Nat.ble_eq_true_of_le h1
   simp[this,h1]
  have:Nat.blt j nx0=false:=by
   cases hb:Nat.blt j nx0 with
   |false=>rfl
   |true=>exact absurd (Nat.le_of_ble_eq_true hb) h1
  simp[this,h1]
 |cons o rest ih=>
  intro j0 hj j
  have step:(if j<nx0 then old j else if j0+1≤j then(match rest[j-(j0+1)]? with|some (some x)=>if nx0≤x∧placeOf ids x nx0=some j then h x else bot|_=>bot)else bot)=
   if j<nx0 then old j else if j=j0 then bot else if j0≤j then(match(o::rest)[j-j0]? with|some (some x)=>if nx0≤x∧placeOf ids x nx0=some j then h x else bot|_=>bot)else bot:=by
   by_cases h1:j<nx0
   ·simp[h1]
   simp only[h1,if_false]
   by_cases h2:j=j0
   ·subst h2;rw[if_neg (by omega),if_pos rfl]
   simp only[h2,if_false]
   by_cases h3:j0+1≤j
   ·rw[if_pos h3,if_pos (by omega),show j-j0=(j-(j0+1))+1 by omega,List.getElem?_cons_succ]
   rw[if_neg h3,if_neg (by omega)]
  have fin:∀v:α,(v=if nx0≤j0 then(match o with|some x=>if nx0≤x∧placeOf ids x nx0=some j0 then h x else bot|none=>bot)else bot)→
   (if j=j0 then v else(if j<nx0 then old j else if j=j0 then bot else if j0≤j then(match(o::rest)[j-j0]? with|some (some x)=>if nx0≤x∧placeOf ids x nx0=some j then h x else bot|_=>bot)else bot))=
   if j<nx0 then old j else if j0≤j then(match(o::rest)[j-j0]? with|some (some x)=>if nx0≤x∧placeOf ids x nx0=some j then h x else bot|_=>bot)else bot:=by
   intro v hv
   by_cases h2:j=j0
   ·subst h2
    rw[if_pos rfl,if_neg (by omega),if_pos (Nat.le_refl _),hv,if_pos hj]
    cases o<;>simp
   rw[if_neg h2]
   by_cases h1:j<nx0
   ·simp[h1]
   simp[h1,h2]
  have same:q1P nx0 ids old bot h rest (j0+1) j=if j=j0 then bot else(if j<nx0 then old j else if j=j0 then bot else if j0≤j then(match(o::rest)[j-j0]? with|some (some x)=>if nx0≤x∧placeOf ids x nx0=some j then h x else bot|_=>bot)else bot):=by
   rw[ih (j0+1) (by omega) j,step]
   by_cases h2:j=j0
   ·subst h2
    rw[if_neg (by omega),if_pos rfl,if_pos rfl]
   simp only[h2,if_false]
  cases o with
  |none=>rw[q1P,same];exact fin bot (by simp)
  |some x=>
   simp only[q1P]
   by_cases hx:nx0≤x
   ·have hb:Nat.ble nx0 x=true:=by simpa using hx
    cases hp:placeOf ids x nx0 with
    |none=>simp only[hb];rw[same];exact fin bot (by simp[hp])
    |some k=>
     simp only[hb]
     cases hk:Nat.beq k j0 with
     |true=>
      have:=Nat.eq_of_beq_eq_true hk
      subst this
      simp only[cond_true]
      rw[q8h,same]
      rw[←fin (h x) (by simp[hx,hp,hj])]
      by_cases h2:j=k
      ·rw[if_pos h2,if_pos h2]
      simp only[h2,if_false]
     |false=>
      simp only[cond_false]
      rw[same]
      refine fin bot ?_
      have hne:k≠j0:=fun e=>by subst e;simp at hk
      simp[hp,hne]
   have hb:Nat.ble nx0 x=false:=by
    cases hb:Nat.ble nx0 x with
    |false=>rfl
    |true=>exact absurd (Nat.le_of_ble_eq_true hb) hx
   simp only[hb]
   rw[same]
   exact fin bot (by simp[hx])
theorem qzk {t:q0z}{live:Live}{x:Nat}{id:Nat}{b:Nat}(hx:(x,b)∈live)(hid:q2i (t x)=some id):some id∈q0E t live:=List.mem_map.2 ⟨(x,b),hx,hid⟩
section
theorem qbJ {m':Map}{pr':q1x}{d:D}{v:Value}{id j:Nat}(hid:q2i d=some id)(hm:m' j=m id)(hv:VR m pr w d v):VR m' pr' w (qiZ j d) v:=by
 cases d with
 |ref id' off len=>
  simp only[q2i,Option.some.injEq]at hid
  subst hid
  cases hv with
  |vnil _ a=>exact .vnil j a
  |ref _ _ _ b esz cap C t f g1 g2 g3 g4=>exact .ref j off len b esz cap C t f (hm.trans g1) g2 g3 g4
 |ptr id' k o=>
  simp only[q2i,Option.some.injEq]at hid
  subst hid
  cases hv with
  |ptr _ _ _ b esz g1=>exact .ptr j k o b esz (hm.trans g1)
 |mref id'=>
  simp only[q2i,Option.some.injEq]at hid
  subst hid
  cases hv with
  |mref _ r g1=>exact .mref j r (hm.trans g1)
 |_=>simp[q2i]at hid
theorem qu8 {nx0:Nat}{ids:List (Option Nat)}{es:List D}(h:es.all (okD nx0 ids)=true):∀x∈fl es,q6I nx0 ids x=true:=by
 intro x hx
 obtain⟨e,he,hx⟩:=List.mem_flatMap.1 hx
 have:=List.all_eq_true.1 h e he
 cases e with
 |agg l=>exact List.all_eq_true.1 this x hx
 |_=>simp only[D.cells,List.mem_singleton]at hx;subst hx;exact this
theorem qjG {d:D}{id:Nat}(h:q2i d=some id):qiZ id d=d:=by
 cases d<;>simp[q2i]at h<;>subst h<;>rfl
theorem qF5 {nx0:Nat}{m':Map}{pr':q1x}(hm:∀id,id<nx0→m' id=m id){d:D}{v:Value}(hok:q6I nx0 [] d=true)(hev:Ev q1t pr w q1t pr' w)(hv:VR m pr w d v):VR m' pr' w d v:=by
 unfold q6I at hok
 cases hid:q2i d with
 |none=>
  simp only[hid]at hok
  exact((hv.bare 4 hok).mono hev).up
 |some id=>
  simp only[hid]at hok
  cases hb:Nat.blt id nx0 with
  |false=>rw[hb]at hok;cases hok
  |true=>
   have:=qbJ (m':=m') (pr':=pr') hid (hm id (Nat.le_of_ble_eq_true hb)) hv
   rwa[qjG hid]at this
theorem RowIn.old {nx0:Nat}{m':Map}{pr':q1x}{es:List D}{esz:Nat}{C:Array Value}(h:RowIn m pr w es esz C)(hm:∀id,id<nx0→m' id=m id)(hok:es.all (okD nx0 [])=true)(hev:Ev q1t pr w q1t pr' w):RowIn m' pr' w es esz C:=
 ⟨h.1,h.2.1,h.2.2.1,fun k hk hk'=>qF5 hm (qu8 hok _ (List.getElem_mem _)) hev (h.2.2.2.1 k hk hk'),h.2.2.2.2⟩
variable {nx0:Nat}{live:Live}{s:St}
def qdg (nx0:Nat)(live:Live)(s:St)(m:Map):Map:=q1P nx0 (q0E s.tmps live) m none m (q0E s.tmps live) nx0
theorem qfO (j:Nat):(∃x,((j<nx0∧x=j)∨(nx0≤x∧placeOf (q0E s.tmps live) x nx0=some j))∧
 (∀m:Map,qdg nx0 live s m j=m x)∧q1P nx0 (q0E s.tmps live) (q1h nx0 s.heap) none s.heap (q0E s.tmps live) nx0 j=(if j<nx0 then q1h nx0 s.heap x else s.heap x)∧q1P nx0 (q0E s.tmps live) s.frz 0 s.frz (q0E s.tmps live) nx0 j=s.frz x)∨
 ((∀m:Map,qdg nx0 live s m j=none)∧q1P nx0 (q0E s.tmps live) (q1h nx0 s.heap) none s.heap (q0E s.tmps live) nx0 j=none):=by
 unfold qdg
 simp only[q9s nx0 _ _ _ _ _ nx0 (Nat.le_refl _) j]
 by_cases h1:j<nx0
 ·exact .inl ⟨j,.inl ⟨h1,rfl⟩,by simp[h1],by simp[h1],by simp[h1]⟩
 simp only[h1,if_false]
 have hle:nx0≤j:=by omega
 simp only[hle,if_true]
 match hx:(q0E s.tmps live)[j-nx0]? with
 |some (some x)=>
  by_cases h2:nx0≤x∧placeOf (q0E s.tmps live) x nx0=some j
  ·exact .inl ⟨x,.inr h2,by simp[h2],by simp[h2],by simp[h2]⟩
  exact .inr ⟨by simp[h2],by simp[h2]⟩
 |some none=>exact .inr ⟨by simp,by simp⟩
 |none=>exact .inr ⟨by simp,by simp⟩
theorem qo3 {x j:Nat}(h:(j<nx0∧x=j)∨(nx0≤x∧placeOf (q0E s.tmps live) x nx0=some j)):qdg nx0 live s m j=m x:=by
 unfold qdg
 rw[q9s nx0 _ _ _ _ _ nx0 (Nat.le_refl _) j]
 rcases h with⟨h1,rfl⟩ |⟨h1,h2⟩
 ·rw[if_pos h1]
 obtain⟨h3,h4⟩:=q2W _ _ _ _ h2
 rw[if_neg (by omega),if_pos h3,h4]
 simp[h1,h2]
theorem name_fun {x y j:Nat}(h:(j<nx0∧x=j)∨(nx0≤x∧placeOf (q0E s.tmps live) x nx0=some j))(h':(j<nx0∧y=j)∨(nx0≤y∧placeOf (q0E s.tmps live) y nx0=some j)):x=y:=by
 rcases h with⟨h1,rfl⟩ |⟨h1,h2⟩
 ·rcases h' with⟨h3,rfl⟩ |⟨h3,h4⟩
  ·rfl
  have:=(q2W _ _ _ _ h4).1;omega
 obtain⟨h5,h6⟩:=q2W _ _ _ _ h2
 rcases h' with⟨h3,rfl⟩ |⟨h3,h4⟩
 ·omega
 obtain⟨_,h8⟩:=q2W _ _ _ _ h4
 rw[h6]at h8;cases h8;rfl
theorem qHK {x j j':Nat}(h:(j<nx0∧x=j)∨(nx0≤x∧placeOf (q0E s.tmps live) x nx0=some j))(h':(j'<nx0∧x=j')∨(nx0≤x∧placeOf (q0E s.tmps live) x nx0=some j')):j=j':=by
 rcases h with⟨h1,rfl⟩ |⟨h1,h2⟩
 ·rcases h' with⟨h3,rfl⟩ |⟨h3,h4⟩
  ·rfl
  omega
 rcases h' with⟨h3,rfl⟩ |⟨h3,h4⟩
 ·omega
 rw[h2]at h4;cases h4;rfl
theorem qn9 {h:q0e}{t:q0z}:∀{live:Live},qkh h t live=true→∀x b,(x,b)∈live→(q2i (t x)=none→plain 4 (t x)=true)∧(∀id,q2i (t x)=some id→q1y (h id)=true):=by
 intro live
 induction live with
 |nil=>intro _ x b hx;simp at hx
 |cons y live ih=>
  intro hk x b hx
  simp only[qkh,Bool.and_eq_true]at hk
  rcases List.mem_cons.1 hx with rfl|hx
  ·refine⟨fun h1=>by simpa[h1]using hk.1,fun id h1=>by simpa[h1]using hk.1⟩
  exact ih hk.2 x b hx
theorem qsz (ids:List (Option Nat))(t:q0z)(i:Nat):∀(live:Live),q9b nx0 ids t live i=.bad∨∃b,(i,b)∈live∧q9b nx0 ids t live i=q1l nx0 ids (t i):=by
 intro live
 induction live with
 |nil=>exact .inl rfl
 |cons x live ih=>
  simp only[q9b]
  by_cases hi:i=x.1
  ·subst hi;rw[upd_same];exact .inr ⟨x.2,List.mem_cons_self ..,rfl⟩
  rw[upd_ne hi]
  rcases ih with h|⟨b,h1,h2⟩
  ·exact .inl h
  exact .inr ⟨b,List.mem_cons_of_mem _ h1,h2⟩
theorem qBK {a:Act}{s':St}(hk:Knows c m s a w)(hs:keep nx0 live s=some s'):
 Knows c (qdg nx0 live s m) s' a w∧(∀b o,Pr c m s.heap s.frz b o→Pr c (qdg nx0 live s m) s'.heap s'.frz b o)∧(∀id,s'.next≤id→qdg nx0 live s m id=none)∧s'.next=nx0+live.length:=by
 obtain⟨H,ht⟩:=hk
 unfold keep at hs
 split at hs
 ·rename_i hok
  cases hs
  have hpr:∀b o,Pr c m s.heap s.frz b o→Pr c (qdg nx0 live s m) (q1P nx0 (q0E s.tmps live) (q1h nx0 s.heap) none s.heap (q0E s.tmps live) nx0) (q1P nx0 (q0E s.tmps live) s.frz 0 s.frz (q0E s.tmps live) nx0) b o:=by
   intro b o hp
   rcases hp with hp|⟨hp,hn⟩
   ·exact .inl hp
   refine .inr ⟨hp,fun⟨j,e,h1,h2,h3⟩=>hn ?_⟩
   rcases qfO (nx0:=nx0) (live:=live) (s:=s) j with⟨x,_,k2,k3,k4⟩ |⟨k1,k2⟩
   ·rw[k2]at h1
    rw[k4]at h3
    refine⟨x,e,h1,fun hx=>h2 ?_,h3⟩
    rw[k3]
    split
    ·simp[q1h,hx,q2B]
    exact hx
   exact absurd k2 h2
  have hev:Ev q1t (Pr c m s.heap s.frz) w q1t (Pr c (qdg nx0 live s m) (q1P nx0 (q0E s.tmps live) (q1h nx0 s.heap) none s.heap (q0E s.tmps live) nx0) (q1P nx0 (q0E s.tmps live) s.frz 0 s.frz (q0E s.tmps live) nx0)) w:=
   ⟨(fun _ _ h=>nomatch h),fun b o v hp hc=>⟨hpr b o hp,hc⟩,fun r es k hp hc=>⟨hpr r 0 hp,hc⟩,fun b C t f hb=>⟨C,hb,rfl⟩⟩
  have blk:∀j B,q1P nx0 (q0E s.tmps live) (q1h nx0 s.heap) none s.heap (q0E s.tmps live) nx0 j=some B→∃x,((j<nx0∧x=j)∨(nx0≤x∧placeOf (q0E s.tmps live) x nx0=some j))∧s.heap x=some B∧q2B nx0 [] (some B)=true∧qdg nx0 live s m j=m x∧q1P nx0 (q0E s.tmps live) s.frz 0 s.frz (q0E s.tmps live) nx0 j=s.frz x:=by
   intro j B hB
   rcases qfO (nx0:=nx0) (live:=live) (s:=s) j with⟨x,k1,k2,k3,k4⟩ |⟨k1,k2⟩
   ·rw[k3]at hB
    rcases k1 with⟨h1,rfl⟩ |⟨h1,h2⟩
    ·rw[if_pos h1]at hB
     unfold q1h at hB
     cases hp:q2B nx0 [] (s.heap x)with
     |false=>rw[hp]at hB;cases hB
     |true=>
      rw[hp]at hB
      simp only[cond_true]at hB
      exact⟨x,.inl ⟨h1,rfl⟩,hB,by rw[←hB];exact hp,k2 m,k4⟩
    obtain⟨h3,h4⟩:=q2W _ _ _ _ h2
    rw[if_neg (by omega)]at hB
    refine⟨x,.inr ⟨h1,h2⟩,hB,?_,k2 m,k4⟩
    have hmem:=List.mem_of_getElem? h4
    obtain⟨⟨y,b⟩,hy,hid⟩:=List.mem_map.1 hmem
    have:=(qn9 hok y b hy).2 x hid
    rw[hB]at this;exact q7z this
   rw[k2]at hB;cases hB
  refine⟨⟨⟨fun j es esz hr=>?_,fun j ks vs hr=>?_,fun j j' y y' hj hj' hy hy' hyy=>?_,fun j x hx=>?_,H.base,fun j hj=>?_⟩,fun i=>?_⟩,hpr,fun id hid=>?_,rfl⟩
  ·obtain⟨x,_,k2,k3,k4,_⟩:=blk j _ hr
   rcases H.row x es esz k2 with⟨b,C,t,g1,g2,g3,g4⟩ |⟨g0,g1⟩
   ·exact .inl ⟨b,C,t,k4.trans g1,g2,g3,g4.old (fun id h=>qo3 (.inl ⟨h,rfl⟩)) k3 hev⟩
   exact .inr ⟨g0,k4.trans g1⟩
  ·obtain⟨x,_,k2,k3,k4,_⟩:=blk j _ hr
   obtain⟨b,C,t,g1,g2,g3,g4⟩:=H.mp x ks vs k2
   exact⟨b,C,t,k4.trans g1,g2,g3,((g4.bare k3).mono hev).mono (Ev.up _ _ _)⟩
  ·cases hB:q1P nx0 (q0E s.tmps live) (q1h nx0 s.heap) none s.heap (q0E s.tmps live) nx0 j with
   |none=>exact absurd hB hj
   |some B=>
    cases hB':q1P nx0 (q0E s.tmps live) (q1h nx0 s.heap) none s.heap (q0E s.tmps live) nx0 j' with
    |none=>exact absurd hB' hj'
    |some B'=>
     obtain⟨x,k1,k2,_,k4,_⟩:=blk j _ hB
     obtain⟨x',l1,l2,_,l4,_⟩:=blk j' _ hB'
     have:=H.inj x x' y y' (by rw[k2];simp) (by rw[l2];simp) (k4.symm.trans hy) (l4.symm.trans hy') hyy
     subst this
     exact qHK k1 l1
  ·rcases qfO (nx0:=nx0) (live:=live) (s:=s) j with⟨y,_,k2,_,_⟩ |⟨k1,_⟩
   ·rw[k2]at hx;exact H.below y x hx
   rw[k1]at hx;cases hx
  ·cases hB:q1P nx0 (q0E s.tmps live) (q1h nx0 s.heap) none s.heap (q0E s.tmps live) nx0 j with
   |none=>exact absurd hB hj
   |some B=>
    obtain⟨x,_,k2,_,_,k5⟩:=blk j _ hB
    have:=H.zle x (by rw[k2];simp)
    simp only[k5,q0t,hB]
    simpa only[q0t,k2]using this
  ·simp only
   rcases qsz (nx0:=nx0) (q0E s.tmps live) s.tmps i live with h|⟨b,h1,h2⟩
   ·rw[h];exact .bad _
   rw[h2]
   have hv:=ht i
   cases hid:q2i (s.tmps i)with
   |none=>
    have hp:=(qn9 hok i b h1).1 hid
    simp only[q1l,hid]
    exact((hv.bare 4 hp).mono hev).up
   |some id=>
    have hname:∃j,((j<nx0∧id=j)∨(nx0≤id∧placeOf (q0E s.tmps live) id nx0=some j))∧q1l nx0 (q0E s.tmps live) (s.tmps i)=qiZ j (s.tmps i):=by
     by_cases hlt:id<nx0
     ·refine⟨id,.inl ⟨hlt,rfl⟩,?_⟩
      have:Nat.blt id nx0=true:=Nat.ble_eq_true_of_le hlt
      simp only[q1l,hid,this]
      cases hd:s.tmps i<;>simp only[hd,q2i,Option.some.injEq]at hid<;>first|(subst hid;rfl) |cases hid
     obtain⟨j,hj⟩:=qn8 (q0E s.tmps live) id nx0 (qzk h1 hid)
     refine⟨j,.inr ⟨by omega,hj⟩,?_⟩
     have:Nat.blt id nx0=false:=by
      cases hb:Nat.blt id nx0 with
      |false=>rfl
      |true=>exact absurd (Nat.le_of_ble_eq_true hb) hlt
     simp only[q1l,hid,this,hj]
    obtain⟨j,hj,hk⟩:=hname
    rw[hk]
    have hm:=qo3 (m:=m) hj
    cases hd:s.tmps i with
    |ref id' off len=>
     rw[hd]at hv hid
     simp only[q2i,Option.some.injEq]at hid
     subst hid
     generalize a.tmps.getD i undef=v at hv
     cases hv with
     |vnil _ a=>exact .vnil j a
     |ref _ _ _ b esz cap C t f g1 g2 g3 g4=>exact .ref j off len b esz cap C t f (hm.trans g1) g2 g3 g4
    |ptr id' k o=>
     rw[hd]at hv hid
     simp only[q2i,Option.some.injEq]at hid
     subst hid
     generalize a.tmps.getD i undef=v at hv
     cases hv with
     |ptr _ _ _ b esz g1=>exact .ptr j k o b esz (hm.trans g1)
    |mref id'=>
     rw[hd]at hv hid
     simp only[q2i,Option.some.injEq]at hid
     subst hid
     generalize a.tmps.getD i undef=v at hv
     cases hv with
     |mref _ r g1=>exact .mref j r (hm.trans g1)
    |_=>rw[hd]at hid;simp[q2i]at hid
  simp only at hid
  rcases qfO (nx0:=nx0) (live:=live) (s:=s) id with⟨x,k1,_⟩ |⟨k1,_⟩
  ·rcases k1 with⟨h1,_⟩ |⟨_,h2⟩
   ·omega
   obtain⟨h3,h4⟩:=q2W _ _ _ _ h2
   have:=(List.getElem?_eq_some_iff.1 h4).1
   simp[q0E]at this
   omega
  exact k1 m
 cases hs
def q5Z (nx0:Nat)(ids:List (Option Nat))(m:Map):Map:=q1P nx0 ids m none m ids nx0
theorem qco {ids:List (Option Nat)}{h:q0e}{z:Frz}(j:Nat):(∃x,((j<nx0∧x=j)∨(nx0≤x∧placeOf ids x nx0=some j))∧
 (∀m:Map,q5Z nx0 ids m j=m x)∧q1P nx0 ids (q1h nx0 h) none (fun i=>q7A nx0 ids (h i)) ids nx0 j=(if j<nx0 then q1h nx0 h x else q7A nx0 ids (h x))∧q1P nx0 ids z 0 z ids nx0 j=z x)∨
 ((∀m:Map,q5Z nx0 ids m j=none)∧q1P nx0 ids (q1h nx0 h) none (fun i=>q7A nx0 ids (h i)) ids nx0 j=none):=by
 unfold q5Z
 simp only[q9s nx0 _ _ _ _ _ nx0 (Nat.le_refl _) j]
 by_cases h1:j<nx0
 ·exact .inl ⟨j,.inl ⟨h1,rfl⟩,by simp[h1],by simp[h1],by simp[h1]⟩
 simp only[h1,if_false]
 have hle:nx0≤j:=by omega
 simp only[hle,if_true]
 match hx:ids[j-nx0]? with
 |some (some x)=>
  by_cases h2:nx0≤x∧placeOf ids x nx0=some j
  ·exact .inl ⟨x,.inr h2,by simp[h2],by simp[h2],by simp[h2]⟩
  exact .inr ⟨by simp[h2],by simp[h2]⟩
 |some none=>exact .inr ⟨by simp,by simp⟩
 |none=>exact .inr ⟨by simp,by simp⟩
theorem q9t {ids:List (Option Nat)}{x j:Nat}(h:(j<nx0∧x=j)∨(nx0≤x∧placeOf ids x nx0=some j)):q5Z nx0 ids m j=m x:=by
 unfold q5Z
 rw[q9s nx0 _ _ _ _ _ nx0 (Nat.le_refl _) j]
 rcases h with⟨h1,rfl⟩ |⟨h1,h2⟩
 ·rw[if_pos h1]
 obtain⟨h3,h4⟩:=q2W _ _ _ _ h2
 rw[if_neg (by omega),if_pos h3,h4]
 simp[h1,h2]
theorem qF6 {ids:List (Option Nat)}{x j j':Nat}(h:(j<nx0∧x=j)∨(nx0≤x∧placeOf ids x nx0=some j))(h':(j'<nx0∧x=j')∨(nx0≤x∧placeOf ids x nx0=some j')):j=j':=by
 rcases h with⟨h1,rfl⟩ |⟨h1,h2⟩
 ·rcases h' with⟨h3,rfl⟩ |⟨h3,h4⟩
  ·rfl
  omega
 rcases h' with⟨h3,rfl⟩ |⟨h3,h4⟩
 ·omega
 rw[h2]at h4;cases h4;rfl
theorem qHL {ids:List (Option Nat)}{pr':q1x}{d:D}{v:Value}(hok:q6I nx0 ids d=true)(hev:Ev q1t pr w q1t pr' w)(hv:VR m pr w d v):VR (q5Z nx0 ids m) pr' w (q1l nx0 ids d) v:=by
 unfold q6I at hok
 cases hid:q2i d with
 |none=>
  simp only[hid]at hok
  simp only[q1l,hid]
  exact((hv.bare 4 hok).mono hev).up
 |some id=>
  simp only[hid]at hok
  cases hb:Nat.blt id nx0 with
  |true=>
   have hlt:id<nx0:=Nat.le_of_ble_eq_true hb
   simp only[q1l,hid,hb]
   have:=qbJ (m':=q5Z nx0 ids m) (pr':=pr') hid (q9t (.inl ⟨hlt,rfl⟩)) hv
   rwa[qjG hid]at this
  |false=>
   rw[hb]at hok
   have hle:nx0≤id:=by
    apply Decidable.byContradiction
    intro hc
    have:Nat.blt id nx0=true:=Nat.ble_eq_true_of_le (by omega)
    rw[hb]at this;cases this
   cases h2:placeOf ids id nx0 with
   |none=>rw[h2]at hok;cases hok
   |some j=>
    simp only[q1l,hid,hb,h2]
    exact qbJ hid (q9t (.inr ⟨hle,h2⟩)) hv
theorem qu9 (ids:List (Option Nat))(d:D):(qxu nx0 ids d).cells=d.cells.map (q1l nx0 ids):=by
 cases d with
 |agg l=>rfl
 |ptr id i o=>show(q1l nx0 ids (D.ptr id i o)).cells=[q1l nx0 ids (D.ptr id i o)];simp only[q1l,q2i];cases Nat.blt id nx0<;>cases placeOf ids id nx0<;>rfl
 |ref id i o=>show(q1l nx0 ids (D.ref id i o)).cells=[q1l nx0 ids (D.ref id i o)];simp only[q1l,q2i];cases Nat.blt id nx0<;>cases placeOf ids id nx0<;>rfl
 |mref id=>show(q1l nx0 ids (D.mref id)).cells=[q1l nx0 ids (D.mref id)];simp only[q1l,q2i];cases Nat.blt id nx0<;>cases placeOf ids id nx0<;>rfl
 |_=>rfl
theorem qJ3 (ids:List (Option Nat))(d:D):(q1l nx0 ids d).one=d.one:=by
 cases d with
 |ptr id i o=>simp only[q1l,q2i];cases Nat.blt id nx0<;>cases placeOf ids id nx0<;>rfl
 |ref id i o=>simp only[q1l,q2i];cases Nat.blt id nx0<;>cases placeOf ids id nx0<;>rfl
 |mref id=>simp only[q1l,q2i];cases Nat.blt id nx0<;>cases placeOf ids id nx0<;>rfl
 |_=>rfl
theorem qws (ids:List (Option Nat))(es:List D):fl (es.map (qxu nx0 ids))=(fl es).map (q1l nx0 ids):=by
 induction es with
 |nil=>rfl
 |cons e es ih=>
  simp only[fl,List.map_cons,List.flatMap_cons,List.map_append,qu9]at ih⊢
  rw[ih]
theorem RowIn.ren {ids:List (Option Nat)}{pr':q1x}{es:List D}{esz:Nat}{C:Array Value}(h:RowIn m pr w es esz C)(hok:es.all (okD nx0 ids)=true)(hev:Ev q1t pr w q1t pr' w):RowIn (q5Z nx0 ids m) pr' w (es.map (qxu nx0 ids)) esz C:=by
 obtain⟨r1,r2,r3,r4,r5⟩:=h
 refine⟨r1,fun e he=>?_,by rw[qws,List.length_map];exact r3,fun k h1 h2=>?_,fun e he=>?_⟩
 ·obtain⟨e0,h0,rfl⟩:=List.mem_map.1 he
  rw[qu9,List.length_map];exact r2 e0 h0
 ·simp only[qws,List.length_map]at h1
  simp only[qws,List.getElem_map]
  exact qHL (qu8 hok _ (List.getElem_mem _)) hev (r4 k h1 h2)
 rw[qws]at he
 obtain⟨e0,h0,rfl⟩:=List.mem_map.1 he
 rw[qJ3];exact r5 e0 h0
theorem qjH {ids:List (Option Nat)}{h:q0e}{t:q0z}:∀{live:Live},q3H nx0 ids h t live=true→∀x b,(x,b)∈live→(q6U x=false→q2i (t x)=none→plain 4 (t x)=true)∧(∀id,q2i (look t h x)=some id→q2B nx0 ids (h id)=true):=by
 intro live
 induction live with
 |nil=>intro _ x b hx;simp at hx
 |cons y live ih=>
  intro hk x b hx
  simp only[q3H,Bool.and_eq_true]at hk
  rcases List.mem_cons.1 hx with rfl|hx
  ·refine⟨fun h0 h1=>?_,fun id h1=>by simpa[h1]using hk.1⟩
   have hl:look t h x=t x:=by unfold look;simp only[h0]
   have:=hk.1
   simp only[hl,h1,h0]at this
   exact this
  exact ih hk.2 x b hx
theorem qzl (ids:List (Option Nat))(t:q0z)(i:Nat):∀(live:Live),qhh nx0 ids t live i=.bad∨∃b,(i,b)∈live∧q6U i=false∧qhh nx0 ids t live i=q1l nx0 ids (t i):=by
 intro live
 induction live with
 |nil=>exact .inl rfl
 |cons x live ih=>
  simp only[qhh]
  by_cases hi:i=x.1
  ·subst hi;rw[upd_same]
   cases hp:q6U x.1 with
   |true=>exact .inl rfl
   |false=>exact .inr ⟨x.2,List.mem_cons_self ..,rfl,rfl⟩
  rw[upd_ne hi]
  rcases ih with h|⟨b,h1,h2,h3⟩
  ·exact .inl h
  exact .inr ⟨b,List.mem_cons_of_mem _ h1,h2,h3⟩
theorem renB_none {ids:List (Option Nat)}{b:Option Blk}:q7A nx0 ids b=none↔b=none:=by
 cases b with
 |none=>simp[q7A]
 |some b=>cases b<;>simp[q7A]
theorem qBL {ids:List (Option Nat)}{h h':q0e}{x j:Nat}(e:h' j=q7A nx0 ids (h x)):q0t h' j=q0t h x:=by
 simp only[q0t,e]
 cases h x with
 |none=>rfl
 |some b=>cases b<;>simp[q7A]
theorem qzm {a:Act}{s':St}(hk:Knows c m s a w)(hs:qtH nx0 live s=some s'):
 Knows c (q5Z nx0 (q1W s.tmps s.heap live) m) s' a w∧(∀b o,Pr c m s.heap s.frz b o→Pr c (q5Z nx0 (q1W s.tmps s.heap live) m) s'.heap s'.frz b o)∧(∀id,s'.next≤id→q5Z nx0 (q1W s.tmps s.heap live) m id=none)∧s'.next=nx0+live.length:=by
 obtain⟨H,ht⟩:=hk
 unfold qtH at hs
 split at hs
 ·rename_i hok
  cases hs
  have hidl:(q1W s.tmps s.heap live).length=live.length:=by simp[q1W]
  have hmemI:∀id,some id∈q1W s.tmps s.heap live→∃x b,(x,b)∈live∧q2i (look s.tmps s.heap x)=some id:=by
   intro id hid
   obtain⟨⟨x,b⟩,hx,e⟩:=List.mem_map.1 hid
   exact⟨x,b,hx,e⟩
  have hmemT:∀x b id,(x,b)∈live→q6U x=false→q2i (s.tmps x)=some id→some id∈q1W s.tmps s.heap live:=by
   intro x b id hx hp hid
   refine List.mem_map.2 ⟨(x,b),hx,?_⟩
   have hl:look s.tmps s.heap x=s.tmps x:=by unfold look;simp only[hp]
   rw[hl];exact hid
  generalize q1W s.tmps s.heap live=ids at*
  have hpr:∀b o,Pr c m s.heap s.frz b o→Pr c (q5Z nx0 ids m) (q1P nx0 ids (q1h nx0 s.heap) none (fun i=>q7A nx0 ids (s.heap i)) ids nx0) (q1P nx0 ids s.frz 0 s.frz ids nx0) b o:=by
   intro b o hp
   rcases hp with hp|⟨hp,hn⟩
   ·exact .inl hp
   refine .inr ⟨hp,fun⟨j,e,h1,h2,h3⟩=>hn ?_⟩
   rcases qco (nx0:=nx0) (ids:=ids) (h:=s.heap) (z:=s.frz) j with⟨x,_,k2,k3,k4⟩ |⟨k1,k2⟩
   ·rw[k2]at h1
    rw[k4]at h3
    refine⟨x,e,h1,fun hx=>h2 ?_,h3⟩
    rw[k3]
    split
    ·simp[q1h,hx,q2B]
    rw[hx];rfl
   exact absurd k2 h2
  have hev:Ev q1t (Pr c m s.heap s.frz) w q1t (Pr c (q5Z nx0 ids m) (q1P nx0 ids (q1h nx0 s.heap) none (fun i=>q7A nx0 ids (s.heap i)) ids nx0) (q1P nx0 ids s.frz 0 s.frz ids nx0)) w:=
   ⟨(fun _ _ h=>nomatch h),fun b o v hp hc=>⟨hpr b o hp,hc⟩,fun r es k hp hc=>⟨hpr r 0 hp,hc⟩,fun b C t f hb=>⟨C,hb,rfl⟩⟩
  have blk:∀j B,q1P nx0 ids (q1h nx0 s.heap) none (fun i=>q7A nx0 ids (s.heap i)) ids nx0 j=some B→∃x B0,((j<nx0∧x=j)∨(nx0≤x∧placeOf ids x nx0=some j))∧s.heap x=some B0∧((B=B0∧q2B nx0 [] (some B0)=true)∨(some B=q7A nx0 ids (some B0)∧q2B nx0 ids (some B0)=true))∧q5Z nx0 ids m j=m x∧q1P nx0 ids s.frz 0 s.frz ids nx0 j=s.frz x:=by
   intro j B hB
   rcases qco (nx0:=nx0) (ids:=ids) (h:=s.heap) (z:=s.frz) j with⟨x,k1,k2,k3,k4⟩ |⟨k1,k2⟩
   ·rw[k3]at hB
    rcases k1 with⟨h1,rfl⟩ |⟨h1,h2⟩
    ·rw[if_pos h1]at hB
     unfold q1h at hB
     cases hp:q2B nx0 [] (s.heap x)with
     |false=>rw[hp]at hB;cases hB
     |true=>
      rw[hp]at hB
      simp only[cond_true]at hB
      exact⟨x,B,.inl ⟨h1,rfl⟩,hB,.inl ⟨rfl,by rw[←hB];exact hp⟩,k2 m,k4⟩
    obtain⟨h3,h4⟩:=q2W _ _ _ _ h2
    rw[if_neg (by omega)]at hB
    cases hx:s.heap x with
    |none=>rw[hx]at hB;cases hB
    |some B0=>
     rw[hx]at hB
     refine⟨x,B0,.inr ⟨h1,h2⟩,hx,.inr ⟨hB.symm,?_⟩,k2 m,k4⟩
     obtain⟨y,b,hy,hid⟩:=hmemI x (List.mem_of_getElem? h4)
     have:=(qjH hok y b hy).2 x hid
     rw[hx]at this;exact this
   rw[k2]at hB;cases hB
  refine⟨⟨⟨fun j es esz hr=>?_,fun j ks vs hr=>?_,fun j j' y y' hj hj' hy hy' hyy=>?_,fun j x hx=>?_,H.base,fun j hj=>?_⟩,fun i=>?_⟩,hpr,fun id hid=>?_,rfl⟩
  ·obtain⟨x,B0,_,k2,k3,k4,_⟩:=blk j _ hr
   rcases k3 with⟨rfl,k3⟩ |⟨k3,k3'⟩
   ·rcases H.row x es esz k2 with⟨b,C,t,g1,g2,g3,g4⟩ |⟨g0,g1⟩
    ·exact .inl ⟨b,C,t,k4.trans g1,g2,g3,g4.old (fun id h=>q9t (.inl ⟨h,rfl⟩)) k3 hev⟩
    exact .inr ⟨g0,k4.trans g1⟩
   cases B0 with
   |mp ks vs=>simp[q7A]at k3
   |row es0 esz0=>
    simp only[q7A,Option.some.injEq,Blk.row.injEq]at k3
    obtain⟨rfl,rfl⟩:=k3
    rcases H.row x es0 esz k2 with⟨b,C,t,g1,g2,g3,g4⟩ |⟨g0,g1⟩
    ·exact .inl ⟨b,C,t,k4.trans g1,g2,g3,g4.ren k3' hev⟩
    exact .inr ⟨by rw[g0];rfl,k4.trans g1⟩
  ·obtain⟨x,B0,_,k2,k3,k4,_⟩:=blk j _ hr
   have k5:B0=.mp ks vs∧vs.all (plain 4)=true:=by
    rcases k3 with⟨rfl,k3⟩ |⟨k3,k3'⟩
    ·exact⟨rfl,k3⟩
    cases B0 with
    |row es0 esz0=>simp[q7A]at k3
    |mp ks0 vs0=>
     simp only[q7A,Option.some.injEq,Blk.mp.injEq]at k3
     obtain⟨rfl,rfl⟩:=k3
     exact⟨rfl,k3'⟩
   obtain⟨rfl,k6⟩:=k5
   obtain⟨b,C,t,g1,g2,g3,g4⟩:=H.mp x ks vs k2
   exact⟨b,C,t,k4.trans g1,g2,g3,((g4.bare k6).mono hev).mono (Ev.up _ _ _)⟩
  ·cases hB:q1P nx0 ids (q1h nx0 s.heap) none (fun i=>q7A nx0 ids (s.heap i)) ids nx0 j with
   |none=>exact absurd hB hj
   |some B=>
    cases hB':q1P nx0 ids (q1h nx0 s.heap) none (fun i=>q7A nx0 ids (s.heap i)) ids nx0 j' with
    |none=>exact absurd hB' hj'
    |some B'=>
     obtain⟨x,_,k1,k2,_,k4,_⟩:=blk j _ hB
     obtain⟨x',_,l1,l2,_,l4,_⟩:=blk j' _ hB'
     have:=H.inj x x' y y' (by rw[k2];simp) (by rw[l2];simp) (k4.symm.trans hy) (l4.symm.trans hy') hyy
     subst this
     exact qF6 k1 l1
  ·rcases qco (nx0:=nx0) (ids:=ids) (h:=s.heap) (z:=s.frz) j with⟨y,_,k2,_,_⟩ |⟨k1,_⟩
   ·rw[k2]at hx;exact H.below y x hx
   rw[k1]at hx;cases hx
  ·cases hB:q1P nx0 ids (q1h nx0 s.heap) none (fun i=>q7A nx0 ids (s.heap i)) ids nx0 j with
   |none=>exact absurd hB hj
   |some B=>
    obtain⟨x,B0,_,k2,k3,_,k5⟩:=blk j _ hB
    have:=H.zle x (by rw[k2];simp)
    simp only[k5]
    rcases k3 with⟨rfl,_⟩ |⟨k3,_⟩
    ·simp only[q0t,hB]
     simpa only[q0t,k2]using this
    have e:=qBL (nx0:=nx0) (ids:=ids) (h:=s.heap) (h':=q1P nx0 ids (q1h nx0 s.heap) none (fun i=>q7A nx0 ids (s.heap i)) ids nx0) (x:=x) (j:=j) (by rw[hB,k2];exact k3)
    rw[e];exact this
  ·simp only
   rcases qzl (nx0:=nx0) ids s.tmps i live with h|⟨b,h1,h0,h2⟩
   ·rw[h];exact .bad _
   rw[h2]
   have hv:=ht i
   cases hid:q2i (s.tmps i)with
   |none=>
    have hp:=(qjH hok i b h1).1 h0 hid
    simp only[q1l,hid]
    exact((hv.bare 4 hp).mono hev).up
   |some id=>
    by_cases hlt:id<nx0
    ·have:Nat.blt id nx0=true:=Nat.ble_eq_true_of_le hlt
     simp only[q1l,hid,this]
     have hr:qiZ id (s.tmps i)=s.tmps i:=by
      cases hd:s.tmps i<;>simp only[hd,q2i,Option.some.injEq]at hid<;>first|(subst hid;rfl) |cases hid
     rw[←hr]
     exact qbJ hid (q9t (.inl ⟨hlt,rfl⟩)) hv
    obtain⟨j,hj⟩:=qn8 ids id nx0 (hmemT i b id h1 h0 hid)
    have:Nat.blt id nx0=false:=by
     cases hb:Nat.blt id nx0 with
     |false=>rfl
     |true=>exact absurd (Nat.le_of_ble_eq_true hb) hlt
    simp only[q1l,hid,this,hj]
    exact qbJ hid (q9t (.inr ⟨by omega,hj⟩)) hv
  simp only at hid
  rcases qco (nx0:=nx0) (ids:=ids) (h:=s.heap) (z:=s.frz) id with⟨x,k1,_⟩ |⟨k1,_⟩
  ·rcases k1 with⟨h1,_⟩ |⟨_,h2⟩
   ·omega
   obtain⟨h3,h4⟩:=q2W _ _ _ _ h2
   have:=(List.getElem?_eq_some_iff.1 h4).1
   omega
  exact k1 m
 cases hs
theorem qD3:∀{l:List D} {n:Nat} {d:D},nth l n=d→d≠ .bad→∃h:n<l.length,l[n]=d
 |[],_,_,h,hd=>absurd h.symm hd
 |x::l,0,d,h,_=>⟨by simp,h⟩
 |x::l,n+1,d,h,hd=>by
  obtain⟨h1,h2⟩:=qD3 (l:=l) (n:=n) h hd
  exact⟨by simp;omega,by simpa using h2⟩
theorem qzn {s:St}{a:Act}{x k:Nat}(hk:Knows c m s a w)(hf:∀id,s.next≤id→m id=none):
 Knows c m (qtG x k s) a w∧Ev m (Pr c m s.heap s.frz) w m (Pr c m (qtG x k s).heap (qtG x k s).frz) w∧∀id,(qtG x k s).next≤id→m id=none:=by
 unfold qtG
 split
 ·exact qr6 hk hf
 split
 ·rename_i k id i o hx
  split
  ·rename_i l esz hb
   split
   ·rename_i hn
    obtain⟨hlt,hget⟩:=qD3 hn (by simp)
    have hid:=hf s.next (Nat.le_refl _)
    have e:=Ev.virt (c:=c) (h:=s.heap) (z:=s.frz) (w:=w) (k:=k+1) (kz:=0) hid
    have H1:=hk.1.virt (k:=k+1) (kz:=0) hid rfl
    rcases hk.1.row id _ esz hb with⟨b,C,t,g1,g2,g3,g4⟩ |⟨g0,_⟩
    case inr=>cases g0
    have hne:id≠s.next:=fun e0=>by rw[e0,hid]at g1;cases g1
    have hb1:upd s.heap s.next (some (.row [] (k+1))) id=some (.row [.agg l] esz):=by rw[upd_ne hne];exact hb
    have g5:=g4.mono e
    have n3:RowIn m (Pr c m (upd s.heap s.next (some (.row [] (k+1)))) (upd s.frz s.next 0)) w [.agg (l.set (x/1048576-1) (.ref s.next 0 0))] esz C:=by
     obtain⟨r1,r2,r3,r4,r5⟩:=g5
     have hfl:fl [D.agg l]=l:=by simp[fl,D.cells]
     have hfl':fl [D.agg (l.set (x/1048576-1) (.ref s.next 0 0))]=l.set (x/1048576-1) (.ref s.next 0 0):=by simp[fl,D.cells]
     refine⟨r1,fun e0 he=>?_,?_,fun k0 h1 h2=>?_,fun e0 he=>?_⟩
     ·rw[List.mem_singleton]at he;subst he
      have:=r2 (.agg l) (by simp)
      simpa[D.cells]using this
     ·rw[hfl',List.length_set];rw[hfl]at r3;exact r3
     ·simp only[hfl']at h1⊢
      rw[List.length_set]at h1
      have hv:=r4 k0 (by rw[hfl];exact h1) h2
      simp only[hfl]at hv
      rw[List.getElem_set]
      split
      ·rename_i e1
       subst e1
       rw[hget]at hv
       generalize C[x/1048576-1]=v at hv
       cases hv with
       |nilsl b=>exact .vnil _ _
      exact hv
     rw[hfl']at he
     rcases List.mem_or_eq_of_mem_set he with he|rfl
     ·exact r5 _ (by rw[hfl];exact he)
     rfl
    have e2:=Ev.store H1 (es':=[.agg (l.set (x/1048576-1) (.ref s.next 0 0))]) g1 hb1 g3 g3 rfl (fun _ _=>rfl) (fun _ _=>rfl)
    exact⟨⟨H1.store g1 hb1 rfl g3 g3 rfl (fun _ _=>rfl) rfl (fun _ _=>rfl) n3,fun i=>(hk.2 i).mono (e.trans e2)⟩,e.trans e2,fun id hl=>hf id (by simp only at hl;omega)⟩
   exact⟨hk,Ev.refl _ _ _,hf⟩
  exact⟨hk,Ev.refl _ _ _,hf⟩
 exact⟨hk,Ev.refl _ _ _,hf⟩
theorem qsA {a:Act}:∀(live:Live) {s:St},Knows c m s a w→(∀id,s.next≤id→m id=none)→
 Knows c m (q4V live s) a w∧Ev m (Pr c m s.heap s.frz) w m (Pr c m (q4V live s).heap (q4V live s).frz) w∧∀id,(q4V live s).next≤id→m id=none:=by
 intro live
 induction live with
 |nil=>intro s hk hf;exact⟨hk,Ev.refl _ _ _,hf⟩
 |cons x live ih=>
  intro s hk hf
  obtain⟨k1,e1,f1⟩:=qzn (x:=x.1) (k:=x.2) hk hf
  obtain⟨k2,e2,f2⟩:=ih k1 f1
  exact⟨k2,e1.trans e2,f2⟩
theorem qzo {z':Frz}{hp:q0e}{n:Nat}{d d':D}{v:Value}(H:HR c m h z w)(hs:Sub hp h)(ev:Ev m (Pr c m h z) w m (Pr c m h z') w)(hv:VR m (Pr c m h z) w d v)(hsn:qCp hp n d=some d')(hre:∀id∈q0T hp n d,z' id=q0t h id):qjJ c m h z' w d d' v:=by
 cases d with
 |nilsl=>
  simp only[qCp,Option.some.injEq]at hsn
  subst hsn
  exact⟨(hv.bare 4 rfl).mono ev.bare,fun h=>h,fun h=>h,rfl⟩
 |_=>exact q9u H hs ev n _ _ _ hv hsn hre
theorem qsB {ids:List (Option Nat)}{s s':St}{a:Act}{x:Nat}(hk:Knows c m s a w)(hs:q4W nx0 ids x s=some s'):
 Knows c m s' a w∧Ev m (Pr c m s.heap s.frz) w m (Pr c m s'.heap s'.frz) w∧s'.next=s.next:=by
 unfold q4W at hs
 split at hs
 ·split at hs
  ·cases hs;exact⟨hk,Ev.refl _ _ _,rfl⟩
  exact qjF hk hs
 rename_i id hid
 split at hs
 ·rename_i es esz hb
  split at hs
  ·cases hs;exact⟨hk,Ev.refl _ _ _,rfl⟩
  split at hs
  ·rename_i es' hm
   cases hs
   have hl:=qkR s.heap (es.flatMap (q0T s.heap depth))
   obtain⟨k1,e1⟩:=qkQ hk hl
   rcases hk.1.row id es esz hb with⟨b,C,t,g1,g2,g3,g4⟩ |⟨g0,_⟩
   case inr=>subst g0;simp at*
   obtain⟨n1,n2⟩:=g4.snapped (z':=q0A s.frz ((es.flatMap (q0T s.heap depth)).map fun id=>(id,q0t s.heap id))) hm (fun e he e' v hv hsn=>
    qzo hk.1 (fun _ _ h=>h) e1 hv hsn (fun i hi=>qkP s.frz hl ⟨_,List.mem_map.2 ⟨i,List.mem_flatMap.2 ⟨e,he,hi⟩,rfl⟩,rfl⟩))
   have n3:RowIn m (Pr c m s.heap (q0A s.frz ((es.flatMap (q0T s.heap depth)).map fun id=>(id,q0t s.heap id)))) w es' esz C:=n2.mono (Ev.up _ _ _)
   have e2:=Ev.store k1.1 (es':=es') g1 hb g3 g3 rfl (fun _ _=>rfl) (fun _ _=>rfl)
   exact⟨⟨k1.1.store g1 hb n1 g3 g3 rfl (fun _ _=>rfl) rfl (fun _ _=>rfl) n3,fun i=>(k1.2 i).mono e2⟩,e1.trans e2,rfl⟩
  cases hs
 cases hs;exact⟨hk,Ev.refl _ _ _,rfl⟩
theorem qnM {ids:List (Option Nat)}{a:Act}:∀(live:Live) {s s':St},Knows c m s a w→q4l nx0 ids live s=some s'→
 Knows c m s' a w∧Ev m (Pr c m s.heap s.frz) w m (Pr c m s'.heap s'.frz) w∧s'.next=s.next:=by
 intro live
 induction live with
 |nil=>intro s s' hk hs;simp only[q4l,Option.some.injEq]at hs;subst hs;exact⟨hk,Ev.refl _ _ _,rfl⟩
 |cons x live ih=>
  intro s s' hk hs
  simp only[q4l]at hs
  split at hs
  ·rename_i s1 h1
   obtain⟨k1,e1,n1⟩:=qsB hk h1
   obtain⟨k2,e2,n2⟩:=ih k1 hs
   exact⟨k2,e1.trans e2,n2.trans n1⟩
  cases hs
theorem qsC {n:Nat}{ms:Map}{prs:q1x}{ws:World}{a:Act}{s':St}(hms:∀id,nx0≤id→ms id=none)(R:Rel n nx0 c ms prs ws (fun id=>s.next≤id) s a w)(hs:qa7 nx0 live s=some s'):
 Rel n nx0 c ms prs ws (fun id=>s'.next≤id) s' a w:=by
 obtain⟨m,H,ht,hev,hfr,hlow⟩:=R.ex
 unfold qa7 at hs
 split at hs
 ·rename_i s1 h1
  obtain⟨k0,e0,f0⟩:=qsA (s:=s) (a:=a) live ⟨H,ht⟩ hfr
  obtain⟨k1,e1,n1⟩:=qnM live k0 h1
  obtain⟨k2,p2,f2,n2⟩:=qzm k1 hs
  refine⟨⟨q5Z nx0 (q1W s1.tmps s1.heap live) m,k2.1,k2.2,?_,f2,fun id hid=>?_⟩,R.below,R.defers,R.size,by rw[n2];omega⟩
  ·have e:=(hev.trans e0).trans e1
   refine⟨fun id x hx=>?_,fun b o v hp hc=>?_,fun r es k hp hc=>?_,e.size⟩
   ·have hlt:id<nx0:=by
     refine Nat.lt_of_not_le fun hle=>?_
     rw[hms id hle]at hx;cases hx
    rw[q9t (.inl ⟨hlt,rfl⟩)]
    exact e.ext id x hx
   ·obtain⟨q1,q2⟩:=e.cell b o v hp hc
    exact⟨p2 _ _ q1,q2⟩
   obtain⟨q1,q2⟩:=e.obj r es k hp hc
   exact⟨p2 _ _ q1,q2⟩
  rw[q9t (.inl ⟨hid,rfl⟩)];exact hlow id hid
 cases hs
theorem qwt {n:Nat}{ms:Map}{prs:q1x}{ws:World}{a:Act}{s':St}(hms:∀id,nx0≤id→ms id=none)(R:Rel n nx0 c ms prs ws (fun id=>s.next≤id) s a w)(hs:settle nx0 live s=some s'):
 Rel n nx0 c ms prs ws (fun id=>s'.next≤id) s' a w:=by
 obtain⟨m,H,ht,hev,hfr,hlow⟩:=R.ex
 unfold settle at hs
 split at hs
 ·exact qsC hms R hs
 split at hs
 ·rename_i s1 h1
  obtain⟨k0,e0,f0⟩:=qwr (s:=s) (a:=a) live ⟨H,ht⟩ hfr
  obtain⟨k1,e1,n1⟩:=qr7 live k0 h1
  obtain⟨k2,p2,f2,n2⟩:=qBK k1 hs
  refine⟨⟨qdg nx0 live s1 m,k2.1,k2.2,?_,f2,fun id hid=>?_⟩,R.below,R.defers,R.size,by rw[n2];omega⟩
  ·have e:=(hev.trans e0).trans e1
   refine⟨fun id x hx=>?_,fun b o v hp hc=>?_,fun r es k hp hc=>?_,e.size⟩
   ·have hlt:id<nx0:=by
     refine Nat.lt_of_not_le fun hle=>?_
     rw[hms id hle]at hx;cases hx
    rw[qo3 (.inl ⟨hlt,rfl⟩)]
    exact e.ext id x hx
   ·obtain⟨q1,q2⟩:=e.cell b o v hp hc
    exact⟨p2 _ _ q1,q2⟩
   obtain⟨q1,q2⟩:=e.obj r es k hp hc
   exact⟨p2 _ _ q1,q2⟩
  rw[qo3 (.inl ⟨hid,rfl⟩)];exact hlow id hid
 cases hs
end
end Go.F
