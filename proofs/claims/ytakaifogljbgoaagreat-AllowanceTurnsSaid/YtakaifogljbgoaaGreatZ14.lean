/- Parts of the proof, part 14: Snap. -/
import Derived.Test.YtakaifogljbgoaaGreatZ13
set_option linter.all false
namespace Go.F
open Go.RowKit (Below)
variable {P:Program}{c:Ctx}{m:Map}{pr:q1x}{h hr:q0e}{z z':Frz}{w:World}
theorem q8q {α β:Type}{f:α→Option β}:∀{l:List α} {l':List β},l.mapM f=some l'→l'.length=l.length∧∀i (h1:i<l.length) (h2:i<l'.length),f l[i]=some l'[i]:=by
 intro l
 induction l with
 |nil=>intro l' hl;simp at hl;subst hl;simp
 |cons x l ih=>
  intro l' hl
  simp only[List.mapM_cons]at hl
  cases hx:f x with
  |none=>simp[hx]at hl
  |some y=>
   cases hm:l.mapM f with
   |none=>simp[hx,hm]at hl
   |some ys=>
    simp[hx,hm]at hl
    subst hl
    obtain⟨h1,h2⟩:=ih hm
    refine⟨by simp[h1],fun i h3 h4=>?_⟩
    cases i with
    |zero=>simpa using hx
    |succ i=>simpa using h2 i (by simpa using h3) (by simpa using h4)
def q46 (e:D)(vals:List Value):Value:=
 match e with
 |.agg _=> .agg vals.toArray
 |_=>vals.headD undef
theorem qjI {e:D}{vals:List Value}(hc:Cells m pr w e.cells vals):VR m pr w e (q46 e vals)∧(q46 e vals).cells.toList=vals:=by
 cases e with
 |agg l=>exact⟨hc.agg,by simp[q46,Value.cells]⟩
 |_=>
  have hl:=hc.len
  simp only[D.cells,List.length_singleton]at hl
  match vals,hl with
  |[v],_=>
   have hv:=hc.vr 0 (by simp[D.cells]) (by simp)
   have ho:=hc.one _ (List.mem_singleton.2 rfl)
   simp only[D.cells,List.getElem_cons_zero]at hv
   refine⟨by simpa[q46]using hv,?_⟩
   have hov:=hv.oneCell ho
   simp only[q46,List.headD_cons]
   cases v<;>first|rfl|(simp[oneV]at hov)
def qjJ (c:Ctx)(m:Map)(h:q0e)(z':Frz)(w:World)(d d':D)(v:Value):Prop:=
 VR q1t (Pr c m h z') w d' v∧(d.one=true→d'.one=true)∧(d.sto=true→d'.sto=true)∧d'.cells.length=d.cells.length
theorem qzp (H:HR c m h z w){id b esz:Nat}{es:List D}(hid:m id=some (b,esz))(hl:h id=some (.row es esz))(hB:c.B≤b)(hz:z' id=q0t h id){o:Nat}(ho:o<es.length*esz):Pr c m h z' b o:=by
 refine .inr ⟨hB,fun⟨id',esz',w1,w2,w3⟩=>?_⟩
 have hidd:id'=id:=H.inj id' id _ _ w2 (by rw[hl];simp) w1 hid rfl
 subst hidd
 rw[hid]at w1;cases w1
 rw[hz]at w3
 simp only[q0t,hl]at w3
 omega
theorem q9u (H:HR c m h z w)(hs:Sub hr h)(ev:Ev m (Pr c m h z) w m (Pr c m h z') w):∀(n:Nat) (d d':D) (v:Value),VR m (Pr c m h z) w d v→q1b hr n d=some d'→(∀id∈q0T hr n d,z' id=q0t h id)→
 qjJ c m h z' w d d' v:=by
 intro n
 induction n with
 |zero=>intro d d' v _ hsn;simp[q1b]at hsn
 |succ n ih=>
  intro d d' v hv hsn hre
  have list:∀(l l':List D) (vs:Array Value),l.mapM (q1b hr n)=some l'→l.length=vs.size→(∀k (_:k<l.length) (_:k<vs.size),VR m (Pr c m h z) w l[k] vs[k])→(∀x∈l,∀id∈q0T hr n x,z' id=q0t h id)→
   l'.length=vs.size∧(∀k (_:k<l'.length) (_:k<vs.size),VR q1t (Pr c m h z') w l'[k] vs[k])∧((∀x∈l,x.one=true)→∀x∈l',x.one=true):=by
   intro l l' vs hm hl hvs hr'
   obtain⟨h1,h2⟩:=q8q hm
   refine⟨by omega,fun k hk hk'=>?_,fun hone x hx=>?_⟩
   ·exact(ih _ _ _ (hvs k (by omega) hk') (h2 k (by omega) hk) (hr' _ (List.getElem_mem _))).1
   obtain⟨k,hk,rfl⟩:=List.mem_iff_getElem.1 hx
   exact(ih _ _ _ (hvs k (by omega) (by omega)) (h2 k (by omega) hk) (hr' _ (List.getElem_mem _))).2.1 (hone _ (List.getElem_mem _))
  cases d with
  |bool b=>simp only[q1b,Option.some.injEq]at hsn;subst hsn;exact⟨hv.scalar rfl,fun _=>rfl,fun _=>rfl,rfl⟩
  |int k b=>simp only[q1b,Option.some.injEq]at hsn;subst hsn;exact⟨hv.scalar rfl,fun _=>rfl,fun _=>rfl,rfl⟩
  |float k b=>simp only[q1b,Option.some.injEq]at hsn;subst hsn;exact⟨hv.scalar rfl,fun _=>rfl,fun _=>rfl,rfl⟩
  |str b=>simp only[q1b,Option.some.injEq]at hsn;subst hsn;exact⟨hv.scalar rfl,fun _=>rfl,fun _=>rfl,rfl⟩
  |nilsl=>
   simp only[q1b,Option.some.injEq]at hsn;subst hsn
   cases hv
   exact⟨.lst0 _ _,fun _=>rfl,fun _=>rfl,rfl⟩
  |lst l=>
   simp only[q1b,Option.some.injEq]at hsn;subst hsn
   refine⟨?_,fun _=>rfl,fun _=>rfl,rfl⟩
   cases hv with
   |lst0 a cap=>exact .lst0 a cap
   |lst _ b o cap esz cv hne hes hpos hcap hc hv hone=>
    exact .lst l b o cap esz cv hne hes hpos hcap (fun k hk=>let ⟨p,q⟩:=ev.cell b (o+k) (cv k) (hc k hk).2 (hc k hk).1;⟨q,p⟩) (fun k hk=>(hv k hk).mono ev.bare) hone
  |opq x=>simp only[q1b,Option.some.injEq]at hsn;subst hsn;cases hv with|opq _ ho hb=>exact⟨.opq _ ho hb,fun _=>rfl,fun _=>rfl,rfl⟩
  |pl e o=>
   simp only[q1b,Option.some.injEq]at hsn;subst hsn
   refine⟨?_,fun _=>rfl,fun _=>rfl,rfl⟩
   cases hv with
   |pl _ _ b o' cv hc hv hone=>
    exact .pl e o b o' cv (fun k hk=>let ⟨p,q⟩:=ev.cell b (o'+k) (cv k) (hc k hk).2 (hc k hk).1;⟨q,p⟩) (fun k hk=>(hv k hk).mono ev.bare) hone
  |mlst ks vs=>
   simp only[q1b,Option.some.injEq]at hsn;subst hsn
   refine⟨?_,fun _=>rfl,fun _=>rfl,rfl⟩
   cases hv with
   |mlst _ _ r clock es hw hp h1 h2 hk hv=>
    obtain⟨p,q⟩:=ev.obj r es clock hp hw
    exact .mlst ks vs r clock es q p h1 h2 hk (fun i h3 h4=>(hv i h3 h4).mono ev.bare)
  |ptr i j o=>simp[q1b]at hsn
  |bad=>simp[q1b]at hsn
  |agg l=>
   simp only[q1b]at hsn
   cases hm:l.mapM (q1b hr n)with
   |none=>simp[hm]at hsn
   |some l'=>
    simp[hm]at hsn;subst hsn
    obtain⟨vs,rfl,hl,hvs,hone⟩:=hv.aggs
    obtain⟨h1,h2,h3⟩:=list l l' vs hm hl hvs (fun x hx id hi=>hre id (by simp only[q0T];exact List.mem_flatMap.2 ⟨x,hx,hi⟩))
    exact⟨.agg l' vs h1 h2 (h3 hone),fun ho=>by simp[D.one]at ho,fun _=>rfl,by simp only[D.cells];omega⟩
  |tup l=>
   simp only[q1b]at hsn
   cases hm:l.mapM (q1b hr n)with
   |none=>simp[hm]at hsn
   |some l'=>
    simp[hm]at hsn;subst hsn
    obtain⟨vs,rfl,hl,hvs⟩:=hv.tups
    obtain⟨h1,h2,_⟩:=list l l' vs hm hl hvs (fun x hx id hi=>hre id (by simp only[q0T];exact List.mem_flatMap.2 ⟨x,hx,hi⟩))
    exact⟨.tup l' vs h1 h2,fun ho=>by simp[D.one]at ho,fun ho=>by simp[D.sto]at ho,rfl⟩
  |fn f la lc=>
   simp only[q1b]at hsn
   split at hsn
   ·rename_i la' lc' ha hc'
    simp at hsn;subst hsn
    cases hv with
    |fn _ _ _ va vc h1 h2 h3 h4=>
     obtain⟨a1,a2,_⟩:=list la la' va ha h1 h3 (fun x hx id hi=>hre id (by simp only[q0T];exact List.mem_append.2 (.inl (List.mem_flatMap.2 ⟨x,hx,hi⟩))))
     obtain⟨b1,b2,_⟩:=list lc lc' vc hc' h2 h4 (fun x hx id hi=>hre id (by simp only[q0T];exact List.mem_append.2 (.inr (List.mem_flatMap.2 ⟨x,hx,hi⟩))))
     exact⟨.fn f la' lc' va vc a1 b1 a2 b2,fun _=>rfl,fun _=>rfl,rfl⟩
   cases hsn
  |mref id=>
   simp only[q1b]at hsn
   split at hsn
   ·rename_i ks vs hb
    cases hm:vs.mapM (q1b hr n)with
    |none=>simp[hm]at hsn
    |some vs'=>
     simp[hm]at hsn;subst hsn
     obtain⟨r,es,clock,g1,g2,g3,g4⟩:=H.mp id ks vs (hs _ _ hb)
     obtain⟨m1,m2,m3,m4⟩:=g4
     have hz:z' id=q0t h id:=hre id (by simp[q0T,hb])
     cases hv with
     |mref _ r' hmm=>
      rw[g1]at hmm;cases hmm
      obtain⟨a1,a2,_⟩:=list vs vs' (es.map (·.val)) hm (by simpa using m2) (fun k h1 h2=>by simpa using m4 k h1 (by simpa using h2))
       (fun x hx i hi=>hre i (by simp only[q0T,hb];exact List.mem_cons_of_mem _ (List.mem_flatMap.2 ⟨x,hx,hi⟩)))
      refine⟨.mlst ks vs' r clock es g3 ?_ m1 (by simpa using a1) m3 (fun i h1 h2=>by have:=a2 i h1 (by simpa using h2);rwa[Array.getElem_map]at this),fun _=>rfl,fun _=>rfl,rfl⟩
      refine .inr ⟨g2,fun⟨id',esz',w1,w2,w3⟩=>?_⟩
      have hidd:id'=id:=H.inj id' id _ _ w2 (by rw[hs _ _ hb];simp) w1 g1 rfl
      subst hidd
      rw[g1]at w1;cases w1
      rw[hz]at w3
      simp[q0t,hs _ _ hb]at w3
   cases hsn
  |ref id off len=>
   simp only[q1b]at hsn
   split at hsn
   ·rename_i es esz hb
    split at hsn
    ·rename_i hle
     cases hm:((es.drop off).take len).mapM (q1b hr n)with
     |none=>simp[hm]at hsn
     |some l'=>
      simp[hm]at hsn;subst hsn
      have hz:z' id=q0t h id:=hre id (by simp[q0T,hb])
      refine⟨?_,fun _=>rfl,fun _=>rfl,rfl⟩
      cases hv with
      |vnil _ a=>simp at hm;subst hm;exact .lst0 _ _
      |ref _ _ _ b esz' cap C t f hmm hw' hcap hlen=>
       obtain⟨b',C',t',g1,g2,g3,g4⟩:=H.rowR (hs _ _ hb) hmm
       obtain⟨r1,r2,r3,r4,r5⟩:=g4
       rw[g1]at hmm;cases hmm
       rw[g3]at hw';cases hw'
       obtain⟨q1,q2⟩:=q8q hm
       have hwl:((es.drop off).take len).length=len:=by simp;omega
       rw[hwl]at q1
       by_cases hl0:len=0
       ·subst hl0
        have:l'=[]:=by simpa using q1
        subst this
        exact .lst0 _ _
       have hmem:∀i (hi:i<((es.drop off).take len).length),((es.drop off).take len)[i]=es[off+i]'(by simp at hi;omega):=fun i hi=>by simp
       have elem:∀i (hi:i<len),∃e e':D,es[off+i]?=some e∧l'[i]?=some e'∧e.cells.length=esz∧qjJ c m h z' w e e' (q46 e ((C.toList.drop ((off+i) *esz)).take esz))∧(q46 e ((C.toList.drop ((off+i) *esz)).take esz)).cells.toList=(C.toList.drop ((off+i) *esz)).take esz∧e.sto=true:=by
        intro i hi
        have hi2:off+i<es.length:=by omega
        have hget:es[off+i]?=some es[off+i]:=List.getElem?_eq_getElem hi2
        have hlen2:es[off+i].cells.length=esz:=r2 _ (List.getElem_mem _)
        have hin:(off+i+1) *esz≤es.length*esz:=Nat.mul_le_mul_right _ hi2
        rw[Nat.succ_mul]at hin
        have hfl:=q1m r2
        have hcells:Cells m (Pr c m h z) w es[off+i].cells ((C.toList.drop ((off+i) *esz)).take esz):=by
         refine⟨by simp;omega,fun k h1 h2=>?_,fun x hx=>?_⟩
         ·have hk:(off+i) *esz+k<(fl es).length:=by omega
          have hg:(fl es)[(off+i) *esz+k]=es[off+i].cells[k]:=by
           have:=q7X r2 hget (j:=k) (by omega)
           rw[List.getElem?_eq_getElem hk,List.getElem?_eq_getElem h1]at this
           exact Option.some.inj this
          rw[←hg]
          simp only[List.getElem_take,List.getElem_drop,Array.getElem_toList]
          exact r4 _ _ _
         obtain⟨j,hj,rfl⟩:=List.mem_iff_getElem.1 hx
         have:=q7X r2 hget (j:=j) (by omega)
         rw[List.getElem?_eq_getElem hj]at this
         exact r5 _ (List.mem_of_getElem? this)
        obtain⟨e1,e2⟩:=qjI hcells
        have hsto:es[off+i].sto=true:=by
         have hone:=hcells.one
         cases he:es[off+i]with
         |tup x=>rw[he]at hone;have:=hone (.tup x) (by simp[D.cells]);simp[D.one]at this
         |bad=>rw[he]at hone;have:=hone .bad (by simp[D.cells]);simp[D.one]at this
         |_=>rfl
        have hq:=q2 i (by omega) (by omega)
        rw[hmem i (by omega)]at hq
        refine⟨es[off+i],l'[i]'(by omega),hget,List.getElem?_eq_getElem (by omega),hlen2,ih _ _ _ e1 hq (fun x hx=>hre x ?_),e2,hsto⟩
        simp only[q0T,hb]
        refine List.mem_cons_of_mem _ (List.mem_flatMap.2 ⟨es[off+i],?_,hx⟩)
        rw[←hmem i (by omega)];exact List.getElem_mem _
       have hu':∀x∈l',x.cells.length=esz:=by
        intro x hx
        obtain⟨i,hi,rfl⟩:=List.mem_iff_getElem.1 hx
        obtain⟨e,e',h1,h2,h3,h4,_,_⟩:=elem i (by omega)
        rw[List.getElem?_eq_getElem hi]at h2;cases h2
        rw[h4.2.2.2];exact h3
       have hfl':=q1m hu'
       have cell:∀k (hk:k<(fl l').length),VR q1t (Pr c m h z') w (fl l')[k] (C.getD (off*esz+k) undef)∧(fl l')[k].one=true:=by
        intro k hk
        rw[hfl',q1]at hk
        have hdiv:k/esz<len:=Nat.div_lt_of_lt_mul (by rw[Nat.mul_comm];exact hk)
        have hmod:k%esz<esz:=Nat.mod_lt _ r1
        have hkk:k/esz*esz+k%esz=k:=by rw[Nat.mul_comm];exact Nat.div_add_mod k esz
        obtain⟨e,e',h1,h2,h3,h4,h5,h6⟩:=elem (k/esz) hdiv
        obtain⟨s1,s2,s3,s4⟩:=h4
        obtain⟨t1,t2,t3⟩:=s1.cells (s3 h6)
        have hg:=q7X hu' h2 (j:=k%esz) hmod
        rw[hkk]at hg
        have hlt:k%esz<e'.cells.length:=by rw[s4,h3];exact hmod
        rw[List.getElem?_eq_getElem (by rw[hfl',q1];exact hk),List.getElem?_eq_getElem hlt]at hg
        have hg':=Option.some.inj hg
        rw[hg']
        have hlt2:k%esz<(q46 e ((C.toList.drop ((off+k/esz) *esz)).take esz)).cells.size:=by rw[←t1];exact hlt
        have hval:(q46 e ((C.toList.drop ((off+k/esz) *esz)).take esz)).cells[k%esz]=C.getD (off*esz+k) undef:=by
         have e1:(q46 e ((C.toList.drop ((off+k/esz) *esz)).take esz)).cells.toList[k%esz]?=((C.toList.drop ((off+k/esz) *esz)).take esz)[k%esz]?:=by rw[h5]
         rw[List.getElem?_take_of_lt hmod,List.getElem?_drop]at e1
         rw[show(off+k/esz) *esz+k%esz=off*esz+k by rw[Nat.add_mul];omega]at e1
         simp only[Array.getElem?_toList]at e1
         rw[Array.getElem?_eq_getElem hlt2]at e1
         simp[Array.getD_eq_getD_getElem?,←e1]
        exact⟨hval▸t2 _ hlt hlt2,t3 _ (List.getElem_mem _)⟩
       have hgoal:VR q1t (Pr c m h z') w (.lst l') (.slice (some ⟨b,off*esz,none⟩) l'.length cap):=by
        refine .lst l' b (off*esz) cap esz (fun k=>C.getD (off*esz+k) undef) (fun e0=>by rw[e0]at q1;simp at q1;omega) hu' r1 (by omega) (fun k hk=>?_) (fun k hk=>(cell k hk).1) (fun x hx=>?_)
        ·have hk2:=hk
         rw[hfl',q1]at hk2
         have hbound:(off+len) *esz≤es.length*esz:=Nat.mul_le_mul_right _ hle
         rw[Nat.add_mul]at hbound
         have hfl:=q1m r2
         have hkC:off*esz+k<C.size:=by omega
         refine⟨?_,qzp H g1 (hs _ _ hb) g2 hz (by omega)⟩
         rw[cell?_row g3]
         simp[Array.getD,hkC]
        obtain⟨k,hk,rfl⟩:=List.mem_iff_getElem.1 hx
        exact(cell k hk).2
       rw[q1]at hgoal
       exact hgoal
    cases hsn
   cases hsn
end Go.F
