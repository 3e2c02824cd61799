/- Parts of the proof, part 11: Ops7. -/
import Derived.Test.YtakaifogljbgoaaGreatZ10
set_option linter.all false
namespace Go.F
open Go.RowKit (Below)
variable {P:Program}{c:Ctx}{m:Map}{pr:q1x}{h hr:q0e}{z zr:Frz}{w:World}
theorem Win.len {l:List D}{v:Value}(W:Win m pr w l v):(Builtin.lenOf v).run P w=.ok l.length w:=by
 obtain⟨⟨ao,cap,rfl,_⟩,_,_⟩:=W
 simp[Builtin.lenOf]
theorem qda {l:List D}{v:Value}{n size:Nat}(W:Win m pr w l v)(hn:n≤l.length)(hsz:∀e∈l,e.cells.length=size):
 ∃vs:List Value,(∀w':World,w'.heap=w.heap→(Builtin.firstCells size n v).run P w'=.ok vs.toArray w')∧Cells m pr w (fl (l.take n)) vs:=by
 obtain⟨⟨ao,cap,rfl,hcap,hcells⟩,hone,_⟩:=W
 by_cases hl:l=[]
 ·subst hl
  have hn0:n=0:=by simpa using hn
  subst hn0
  refine⟨[],fun w' _=>?_,⟨by simp[fl],by simp,by simp[fl]⟩⟩
  cases ao with
  |none=>simp[Builtin.firstCells]
  |some a=>simp[Builtin.firstCells,loadCells,loadCellsFrom]
 obtain⟨b,o,f,rfl,hf⟩:=hcells hl
 have hfl:=q1m hsz
 have hle:n*size≤(fl l).length:=by rw[hfl];exact Nat.mul_le_mul_right _ hn
 refine⟨(List.range (n*size)).map f,fun w' hw'=>?_,?_⟩
 ·have hrun:=run_loadCells (P:=P) w' ⟨b,o,none⟩ (n*size) f (fun j hj=>by
   rw[q43]
   have:=(hf j (by omega)).1
   simpa[World.cell?,hw']using this)
  simp[Builtin.firstCells,hrun]
 rw[qcd hsz]
 refine⟨by simp;omega,fun k h1 h2=>?_,fun e he=>hone e (List.mem_of_mem_take he)⟩
 simp only[List.getElem_take,List.getElem_map,List.getElem_range]
 exact(hf k _).2
theorem qf6 {l:List D}{v:Value}{n size:Nat}(W:Win m pr w l v)(hn:n≤l.length)(hsz:∀e∈l,e.cells.length=size):
 ∃vs:List Value,(Builtin.firstCells size n v).run P w=.ok vs.toArray w∧Cells m pr w (fl (l.take n)) vs:=by
 obtain⟨vs,h1,h2⟩:=qda (P:=P) W hn hsz
 exact⟨vs,h1 w rfl,h2⟩
theorem qqP {α:Type}(f:Nat→α)(i:Nat)(v:α)(hv:f i=v):upd f i v=f:=by
 funext k
 rw[q8h]
 split
 ·rename_i e;rw[e,hv]
 rfl
theorem qHj {id0:Nat}{ts:List TypeId}{xs:List D}{vs:List Value}{r:Out}{ty:TypeId}(H:HR c m h z w)(hs:Sub hr h)(hz:∀id,hr id≠none→zr id=z id)(hl:xs.length=vs.length)
 (hv:∀k (_:k<xs.length) (_:k<vs.length),VR m (Pr c m h z) w xs[k] vs[k]) (hd:copy P hr zr ts xs=some r):
 Sim c m h z w id0 r ((do pure (Next.value (←Builtin.copy_ ts.toArray ty vs.toArray)):Sem Next).run P w):=by
 unfold copy at hd
 split at hd
 ·rename_i t trest id off len src
  match vs,hl with
  |[v0,v1],_=>
   have h0:=hv 0 (by simp) (by simp)
   have h1:=hv 1 (by simp) (by simp)
   simp at h0 h1
   split at hd
   ·cases hd
   rename_i e he
   split at hd
   ·rename_i es esz l hb hw
    split at hd
    ·rename_i hcond
     obtain⟨c1,c2,c3,c4⟩:=hcond
     rw[List.all_eq_true]at c4
     simp only[Option.some.injEq]at hd;subst hd
     have hsz:∀x∈l,x.cells.length=esz:=fun x hx=>by simpa using c4 x hx
     by_cases hvn:∃a,off=0∧len=0∧v0=.slice a 0 0
     case pos=>
      obtain⟨a,rfl,rfl,rfl⟩:=hvn
      have W:=q7K H hs h1 hw
      have hu:upd h id (some (.row (es.take 0++l.take (min l.length 0)++es.drop (0+min l.length 0)) esz))=h:=by
       refine qqP _ _ _ ?_
       rw[hs _ _ hb];simp
      refine⟨.value (.int .i64 (min l.length 0:Nat)),w,m,?_,.inl ⟨_,rfl,.int _ _⟩,?_,?_,fun _ _=>rfl,Below.refl _ _⟩
      ·obtain⟨us,hrun,hus⟩:=qf6 (P:=P) W (n:=0) (Nat.zero_le _) hsz
       have hu0:us=[]:=by
        have:=hus.len
        simpa[fl]using this.symm
       subst hu0
       simp only[Builtin.copy_,Sem.run_bind]
       simp only[List.getElem?_toArray,List.getElem?_cons_zero,List.getElem?_cons_succ]
       cases a with
       |none=>simp[q0b (q3n he),W.len,q0M c1,hrun,goInt]
       |some a1=>simp[q0b (q3n he),W.len,q0M c1,hrun,goInt,storeCells]
      ·simp only[q0A];rw[hu];exact H
      simp only[q0A];rw[hu];exact Ev.refl _ _ _
     case neg=>
     obtain⟨x0,hm0⟩:∃x0,m id=some x0:=by
      cases h0 with
      |ref _ _ _ b' esz' cap C' t'' f hm hw' hcap hlen=>exact⟨_,hm⟩
      |vnil _ a=>exact absurd ⟨a,rfl,rfl,rfl⟩ hvn
     obtain⟨b,C,t',g1,g2,g3,g4⟩:=H.rowR (hs _ _ hb) hm0
     rw[hz id (by rw[hb];simp)]at c3
     have W:=q7K H hs h1 hw
     obtain⟨us,hrun,hus⟩:=qf6 (P:=P) W (n:=min l.length len) (Nat.min_le_left ..) hsz
     have hfll:=q1m g4.2.1
     have huk:(l.take (min l.length len)).length=min l.length len:=by simp
     have hfk:(fl (l.take (min l.length len))).length=min l.length len*esz:=by
      rw[q1m (fun x hx=>hsz x (List.mem_of_mem_take hx)),huk]
     have hbound:(off+len) *esz≤es.length*esz:=Nat.mul_le_mul_right _ c2
     have hmul:min l.length len*esz≤len*esz:=Nat.mul_le_mul_right _ (Nat.min_le_right ..)
     rw[Nat.add_mul]at hbound
     have hst:=qcg (es':=es.take off++l.take (min l.length len)++es.drop (off+min l.length len)) (off:=off*esz) H g1 (hs _ _ hb) g3 g4 hus
      (Nat.mul_le_mul_right _ c3) (by rw[hfk,hfll];omega)
      (by
        rw[q71,q71,qcd g4.2.1,qjr g4.2.1,spl,hfk,Nat.add_mul])
      (by simp;omega)
      (by
        intro y hy
        rcases List.mem_append.1 hy with hy|hy
        ·rcases List.mem_append.1 hy with hy|hy
         ·exact g4.2.1 y (List.mem_of_mem_take hy)
         exact hsz y (List.mem_of_mem_take hy)
        exact g4.2.1 y (List.mem_of_mem_drop hy))
     cases h0 with
     |vnil _ a=>exact absurd ⟨a,rfl,rfl,rfl⟩ hvn
     |ref _ _ _ b' esz' cap C' t'' f hm hw' hcap hlen=>
      rw[g1]at hm;cases hm
      refine Sim.written (b:=b) hst (nxt:=.value (.int .i64 (min l.length len:Nat))) ?_ (.inl ⟨_,rfl,.int _ _⟩) rfl
      have hst2:=run_storeCells_at P b (off*esz) t' us 0 C w g3 (by
       have hC:(fl es).length≤C.size:=g4.2.2.1
       have:us.length=min l.length len*esz:=by rw[←hus.len,hfk]
       omega) hus.oneV
      simp only[Nat.add_zero]at hst2
      simp only[Builtin.copy_,Sem.run_bind]
      simp only[List.getElem?_toArray,List.getElem?_cons_zero,List.getElem?_cons_succ]
      simp only[Sem.run_bind,q0b (q3n he),Result.andThen_ok,W.len,q0M c1,hrun,Nat.min_def]at hrun hst2⊢
      rw[show(if l.length≤len then l.length else len)=min l.length len from rfl]at*
      simp only[Result.andThen_ok,hst2,Sem.run_pure,goInt,spl]
    cases hd
   cases hd
 cases hd
theorem qdb {d:D}{v:Value}{n:Nat}(hv:VR m pr w d v)(hs:d.sto=true)(h0:0<d.cells.length):Cells m pr w (fl (List.replicate n d)) (Builtin.zeroCells v.cells n).toList:=by
 obtain⟨h1,h2,h3⟩:=hv.cells hs
 have hrow:=RowIn.replicate (n:=n) (N:=n*v.cells.size) hv hs h0 (by rw[h1];exact Nat.le_refl _)
 have hu:∀e∈List.replicate n d,e.cells.length=d.cells.length:=fun e he=>by rw[List.eq_of_mem_replicate he]
 exact Cells.ofRow hrow (by rw[q1m hu];simp[h1,size_zeroCells])
theorem qhz {t e ty:TypeId}(he:elemOf P t=some e)(a:Option Addr)(cap:Nat):(Builtin.clear_ #[t] ty #[.slice a 0 cap]).run P w=.ok (.tuple #[]) w:=by
 cases a<;>simp[Builtin.clear_,q0b (q3n he)]
theorem qEF {id0:Nat}{ts:List TypeId}{xs:List D}{vs:List Value}{r:Out}{ty:TypeId}(H:HR c m h z w)(hs:Sub hr h)(hz:∀id,hr id≠none→zr id=z id)(hl:xs.length=vs.length)
 (hv:∀k (_:k<xs.length) (_:k<vs.length),VR m (Pr c m h z) w xs[k] vs[k]) (hd:clear P hr zr ts xs=some r):
 Sim c m h z w id0 r ((do pure (Next.value (←Builtin.clear_ ts.toArray ty vs.toArray)):Sem Next).run P w):=by
 unfold clear at hd
 split at hd
 ·rename_i t id off len
  match vs,hl with
  |[v0],_=>
   have h0:=hv 0 (by simp) (by simp)
   simp at h0
   split at hd
   ·cases hd
   rename_i e he
   split at hd
   ·rename_i es esz d hb hzero
    split at hd
    ·rename_i hcond
     obtain⟨c2,c3,c4,c5⟩:=hcond
     simp only[Option.some.injEq]at hd;subst hd
     by_cases hvn:∃a,off=0∧len=0∧v0=.slice a 0 0
     case pos=>
      obtain⟨a,rfl,rfl,rfl⟩:=hvn
      have hu:upd h id (some (.row (es.take 0++List.replicate 0 d++es.drop (0+0)) esz))=h:=by
       refine qqP _ _ _ ?_
       rw[hs _ _ hb];simp
      refine⟨.value (.tuple #[]),w,m,?_,.inl ⟨_,rfl,.tup [] _ rfl (by simp)⟩,?_,?_,fun _ _=>rfl,Below.refl _ _⟩
      ·have:=qhz (P:=P) (w:=w) (ty:=ty) he a 0
       simp[this]
      ·simp only[q0A];rw[hu];exact H
      simp only[q0A];rw[hu];exact Ev.refl _ _ _
     case neg=>
     obtain⟨x0,hm0⟩:∃x0,m id=some x0:=by
      cases h0 with
      |ref _ _ _ b' esz' cap C' t'' f hm hw' hcap hlen=>exact⟨_,hm⟩
      |vnil _ a=>exact absurd ⟨a,rfl,rfl,rfl⟩ hvn
     obtain⟨b,C,t',g1,g2,g3,g4⟩:=H.rowR (hs _ _ hb) hm0
     rw[hz id (by rw[hb];simp)]at c3
     obtain⟨i,v,hi,hvz,rfl⟩:=q2Z hzero
     have hpos:0<(q59 v).cells.length:=by rw[c4];exact g4.1
     have hus:=qdb (n:=len) (q4J (m:=m) (pr:=Pr c m h z) (w:=w) v) c5 hpos
     have hfll:=q1m g4.2.1
     have hfk:(fl (List.replicate len (q59 v))).length=len*esz:=by
      rw[q1m (n:=esz) (fun x hx=>by rw[List.eq_of_mem_replicate hx];exact c4)];simp
     have hbound:(off+len) *esz≤es.length*esz:=Nat.mul_le_mul_right _ c2
     rw[Nat.add_mul]at hbound
     have hst:=qcg (es':=es.take off++List.replicate len (q59 v)++es.drop (off+len)) (off:=off*esz) H g1 (hs _ _ hb) g3 g4 hus
      (Nat.mul_le_mul_right _ c3) (by rw[hfk,hfll];omega)
      (by rw[q71,q71,qcd g4.2.1,qjr g4.2.1,spl,hfk,Nat.add_mul])
      (by simp;omega)
      (by
        intro y hy
        rcases List.mem_append.1 hy with hy|hy
        ·rcases List.mem_append.1 hy with hy|hy
         ·exact g4.2.1 y (List.mem_of_mem_take hy)
         rw[List.eq_of_mem_replicate hy];exact c4
        exact g4.2.1 y (List.mem_of_mem_drop hy))
     cases h0 with
     |vnil _ a=>exact absurd ⟨a,rfl,rfl,rfl⟩ hvn
     |ref _ _ _ b' esz' cap C' t'' f hm hw' hcap hlen=>
      rw[g1]at hm;cases hm
      by_cases hl0:len=0
      ·subst hl0
       have hu:upd h id (some (.row (es.take off++List.replicate 0 (q59 v)++es.drop (off+0)) esz))=h:=by
        refine qqP _ _ _ ?_
        rw[hs _ _ hb];simp
       refine⟨.value (.tuple #[]),w,m,?_,.inl ⟨_,rfl,.tup [] _ rfl (by simp)⟩,?_,?_,fun _ _=>rfl,Below.refl _ _⟩
       ·simp[Builtin.clear_,q0b (q3n he)]
       ·simp only[q0A];rw[hu];exact H
       simp only[q0A];rw[hu];exact Ev.refl _ _ _
      refine Sim.written (b:=b) hst (nxt:=.value (.tuple #[])) ?_ (.inl ⟨_,rfl,.tup [] _ rfl (by simp)⟩) rfl
      have hst2:=run_storeCells_at P b (off*esz) t' (Builtin.zeroCells v.cells len).toList 0 C w g3 (by
       have hC:(fl es).length≤C.size:=g4.2.2.1
       have:(Builtin.zeroCells v.cells len).toList.length=len*esz:=by rw[←hus.len,hfk]
       omega) hus.oneV
      simp only[Nat.add_zero]at hst2
      obtain⟨k,rfl⟩:=Nat.exists_eq_succ_of_ne_zero hl0
      simp[Builtin.clear_,q0b (q3n he),q2f hi hvz,hst2,spl]
    cases hd
   cases hd
 ·match vs,hl with
  |[v0],_=>
   have h0:=hv 0 (by simp) (by simp)
   simp at h0
   simp at hd
   obtain⟨⟨e,he⟩,rfl⟩:=hd
   cases h0
   exact Sim.val H (by simp[qhz he]) (.tup [] #[] rfl (by simp))
 ·match vs,hl with
  |[v0],_=>
   have h0:=hv 0 (by simp) (by simp)
   simp at h0
   simp at hd
   obtain⟨⟨e,he⟩,rfl⟩:=hd
   cases h0 with
   |lst0 a cap=>exact Sim.val H (by simp[qhz he]) (.tup [] #[] rfl (by simp))
   |lst _ _ _ _ _ _ hne=>exact absurd rfl hne
 cases hd
theorem qyJ {id:Nat}{ty:TypeId}(H:HR c m h z w)(hid:m id=none):Sim c m h z w id ⟨.mref id,[(id,some (.mp [] []))],[(id,0)]⟩ ((do pure (Next.value (←Instr.makeMap ty none)):Sem Next).run P w):=by
 have hw:(w.alloc (.map #[] 0)).heap=w.heap.push (.map #[] 0):=rfl
 refine⟨.value (.map (some w.heap.size)),w.alloc (.map #[] 0),upd m id (some (w.heap.size,1)),by simp[Instr.makeMap],.inl ⟨_,rfl,.mref _ _ (upd_same ..)⟩,?_,Ev.new hid hw,fun k hk=>upd_ne hk,qcf H.base hw rfl rfl rfl⟩
 exact H.new hid hw (by simp) (.inr ⟨[],[],#[],0,rfl,rfl,rfl,by simp[MapIn]⟩)
theorem qEG {a b:ByteArray}(hab:(a==b)=true):a=b:=by
 rw[beq_toListBytes]at hab
 have hl:a.toList=b.toList:=by simpa using hab
 rw[ByteArray.toList_eq,ByteArray.toList_eq]at hl
 obtain⟨⟨x⟩⟩:=a
 obtain⟨⟨y⟩⟩:=b
 simp at hl;rw[hl]
theorem bytes_beq (a:ByteArray):(a==a)=true:=by rw[beq_toListBytes];simp
theorem qvS (s:ByteArray):∀(ks:List ByteArray) (i k:Nat),findKey s ks i=some k→i≤k∧ks[k-i]?=some s:=by
 intro ks
 induction ks with
 |nil=>intro i k hk;simp[findKey]at hk
 |cons x ks ih=>
  intro i k hk
  simp only[findKey]at hk
  split at hk
  ·rename_i hb;simp at hk;subst hk;rw[qEG hb];simp
  obtain⟨h1,h2⟩:=ih (i+1) k hk
  refine⟨by omega,?_⟩
  rw[show k-i=(k-(i+1))+1 by omega];simpa using h2
theorem qsq {id0:Nat}{mt:TypeId}{x k v:D}{vx vk vv:Value}{r:Out}(H:HR c m h z w)(hs:Sub hr h)(hz:∀id,hr id≠none→zr id=z id)(hx:VR m (Pr c m h z) w x vx)(hk:VR m (Pr c m h z) w k vk)
 (hv:VR m (Pr c m h z) w v vv) (hd:mapUpdate P hr zr mt x k v=some r):
 Sim c m h z w id0 r ((do Instr.mapUpdate mt vx vk vv;pure Next.skip:Sem Next).run P w):=by
 unfold mapUpdate at hd
 split at hd
 ·rename_i kt et id s hu
  cases hk
  split at hd
  ·rename_i ks vs hkt hb
   split at hd
   ·rename_i hfz
    rw[hz id (by rw[hb];simp)]at hfz
    obtain⟨r0,es,clock,g1,g2,g3,g4⟩:=H.mp id ks vs (hs _ _ hb)
    obtain⟨m1,m2,m3,m4⟩:=g4
    have hrlt:r0<w.heap.size:=(H.below id _ g1).2
    have hxr:vx=.map (some r0):=by
     cases hx with
     |mref _ r1 hm=>rw[g1]at hm;cases hm;rfl
    subst hxr
    have hget:(getObj r0).run P w=.ok (.map es clock) w:=by simp[getObj,Sem.run,g3]
    have hset:∀o:Obj,(setObj r0 o).run P w=.ok () {w with heap:=w.heap.setIfInBounds r0 o}:=fun o=>by simp[setObj,Sem.run,g3]
    obtain⟨f1,f2⟩:=findNow_spec s ks es.toList 0 (by simpa using m1) (fun j h1 h2=>by simpa using m3 j h1 (by simpa using h2))
    have fin:∀{es':Array MapEntry} {clock':Nat} {ks':List ByteArray} {vs':List D},MapIn m (Pr c m h z) w ks' vs' es'→
     (Instr.mapUpdate mt (.map (some r0)) (.string s) vv).run P w=.ok () {w with heap:=w.heap.setIfInBounds r0 (.map es' clock')}→
     Sim c m h z w id0 ⟨.tup [],[(id,some (.mp ks' vs'))],[]⟩ ((do Instr.mapUpdate mt (.map (some r0)) (.string s) vv;pure Next.skip:Sem Next).run P w):=by
     intro es' clock' ks' vs' hmap hrun
     have hC':({w with heap:=w.heap.setIfInBounds r0 (.map es' clock')}:World).heap[r0]?=some (.map es' clock'):=by
      simp[hrlt]
     have hother:∀k,k≠r0→({w with heap:=w.heap.setIfInBounds r0 (.map es' clock')}:World).heap[k]?=w.heap[k]?:=by
      intro k hk
      simp only[Array.getElem?_setIfInBounds]
      rw[if_neg (fun e=>hk e.symm)]
     refine⟨.skip,{w with heap:=w.heap.setIfInBounds r0 (.map es' clock')},m,by simp[hrun],.inr ⟨rfl,rfl⟩,H.storeMap g1 (hs _ _ hb) hfz g3 hC' hother (by simp) hmap,
      Ev.storeMap H g1 (hs _ _ hb) hfz g3 hC' hother,fun _ _=>rfl,⟨rfl,rfl,rfl,by simp,fun k hk=>hother k (by omega)⟩⟩
    split at hd
    ·rename_i i hf
     simp only[Option.some.injEq]at hd;subst hd
     obtain⟨h1,_,h2⟩:=f1 i hf
     obtain⟨_,h3⟩:=qvS s ks 0 i hf
     simp only[Nat.sub_zero,Array.length_toList]at h1 h3
     obtain⟨hik,hks⟩:=List.getElem?_eq_some_iff.1 h3
     have hkey:es[i].key=.string s:=by rw[m3 i hik h1,hks]
     refine fin (es':=es.modify i fun e=>{e with key:=.string s,val:=vv}) (clock':=clock) ?_ ?_
     ·refine⟨by simpa using m1,by simpa using m2,fun j h4 h5=>?_,fun j h4 h5=>?_⟩
      ·rw[Array.getElem_modify]
       split
       ·rename_i e;subst e;rw[hks]
       exact m3 j h4 (by simpa using h5)
      rw[List.getElem_set,Array.getElem_modify]
      split
      ·exact hv
      exact m4 j (by simpa using h4) (by simpa using h5)
     have hstay:(Instr.keyThatStays (((es[i]?).map (·.key)).getD (.string s)) (.string s)).run P w=.ok (.string s) w:=by
      simp[Array.getElem?_eq_getElem h1,hkey,Instr.keyThatStays,Instr.sameBits,bytes_beq]
     simp only[Instr.mapUpdate,Sem.run_bind,q0b hu,Result.andThen_ok,hget,q5N hkt (n:=9999),Instr.findKey,q0b hkt,h2,Sem.run_pure,hstay,hset]
    rename_i hf
    simp only[Option.some.injEq]at hd;subst hd
    refine fin (es':=es.push {key:=.string s,val:=vv,born:=clock}) (clock':=clock+1) ?_ ?_
    ·refine⟨by simp[m1],by simp[m2],fun j h4 h5=>?_,fun j h4 h5=>?_⟩
     ·by_cases hj:j<es.size
      ·rw[Array.getElem_push_lt hj,List.getElem_append_left (by omega)];exact m3 j (by omega) hj
      have hje:j=es.size:=by simp at h5;omega
      subst hje
      rw[Array.getElem_push_eq,List.getElem_append_right (by omega)];simp
     by_cases hj:j<es.size
     ·rw[Array.getElem_push_lt hj,List.getElem_append_left (by omega)];exact m4 j (by omega) hj
     have hje:j=es.size:=by simp at h5;omega
     subst hje
     rw[Array.getElem_push_eq,List.getElem_append_right (by omega)];simpa using hv
    simp only[Instr.mapUpdate,Sem.run_bind,q0b hu,Result.andThen_ok,hget,q5N hkt (n:=9999),Instr.findKey,q0b hkt,f2 hf,Sem.run_pure,hset]
   cases hd
  cases hd
 cases hd
end Go.F
