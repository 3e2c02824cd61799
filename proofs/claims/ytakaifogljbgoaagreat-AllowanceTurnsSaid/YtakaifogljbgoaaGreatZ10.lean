/- Parts of the proof, part 10: Ops6. -/
import Derived.Test.YtakaifogljbgoaaGreatZ9
import Derived.Laws.CopyRow
set_option linter.all false
namespace Go.F
open Go.RowKit (Below)
variable {P:Program}{c:Ctx}{m:Map}{pr:q1x}{h hr:q0e}{z zr:Frz}{w:World}
def spl {α:Type}(l:List α)(off:Nat)(x:List α):List α:=l.take off++x++l.drop (off+x.length)
theorem qqO {α:Type}{l:List α}{off:Nat}{x:List α}(h:off+x.length≤l.length):(spl l off x).length=l.length:=by simp[spl];omega
theorem qBh {v:Value}(h:oneV v=true):v.oneCell'=true:=by cases v<;>first|rfl|(simp[oneV]at h)
theorem Cells.oneV {l:List D}{C:List Value}(hc:Cells m pr w l C):∀v∈C,v.oneCell'=true:=by
 intro v hv
 obtain⟨k,hk,rfl⟩:=List.mem_iff_getElem.1 hv
 have hk':k<l.length:=by rw[hc.len];exact hk
 exact qBh ((hc.vr k hk' hk).oneCell (hc.one _ (List.getElem_mem hk')))
theorem qcg {id b esz off:Nat}{es es':List D}{C:Array Value}{t:TypeId}{ds:List D}{vs:List Value}(H:HR c m h z w)(hid:m id=some (b,esz))(hl:h id=some (.row es esz))(hC:w.heap[b]?=some (.cells C t (0,0)))
 (hrow:RowIn m (Pr c m h z) w es esz C) (hvs:Cells m (Pr c m h z) w ds vs) (hoff:z id*esz≤off) (hfit:off+ds.length≤(fl es).length)
 (hes':fl es'=spl (fl es) off ds) (hlen:es'.length=es.length) (hu:∀e∈es',e.cells.length=esz):
 HR c m (upd h id (some (.row es' esz))) z (w.setRow b (spl C.toList off vs).toArray)∧
 Ev m (Pr c m h z) w m (Pr c m (upd h id (some (.row es' esz))) z) (w.setRow b (spl C.toList off vs).toArray)∧
 Below c.B w (w.setRow b (spl C.toList off vs).toArray):=by
 obtain⟨r1,r2,r3,r4,r5⟩:=hrow
 have hvl:vs.length=ds.length:=hvs.len.symm
 have hle:off+vs.length≤C.toList.length:=by simp;omega
 have hsz:(spl C.toList off vs).toArray.size=C.size:=by
  have:=qqO hle;simpa using this
 have hfro:∀o,o<z id*esz→(spl C.toList off vs).toArray[o]?=C[o]?:=by
  intro o ho
  simp only[List.getElem?_toArray,spl]
  rw[List.append_assoc,List.getElem?_append_left (by simp;omega),List.getElem?_take_of_lt (by omega)]
  simp
 have hother:∀k,k≠b→(w.setRow b (spl C.toList off vs).toArray).heap[k]?=w.heap[k]?:=fun k hk=>setRow_other w b k _ hk
 have hC':=setRow_heap w b C (spl C.toList off vs).toArray t (0,0) hC
 have hcells:Cells m (Pr c m h z) w (fl es') (spl (C.toList.take (fl es).length) off vs):=by
  rw[hes']
  have h0:Cells m (Pr c m h z) w (fl es) (C.toList.take (fl es).length):=by
   refine⟨by simp;omega,fun k h1 h2=>?_,r5⟩
   simp only[List.getElem_take,Array.getElem_toList]
   exact r4 _ _ _
  unfold spl
  rw[hvl]
  exact((h0.take _).append hvs).append (h0.drop _)
 have hrow':RowIn m (Pr c m h z) w es' esz (spl C.toList off vs).toArray:=by
  refine Cells.toRow hcells (rest:=C.toList.drop (fl es).length) ?_ r1 hu
  simp only[spl]
  rw[List.take_take,Nat.min_eq_left (by omega),List.drop_take]
  rw[List.append_assoc,List.append_assoc,List.append_assoc]
  congr 2
  have hdd:C.toList.drop (fl es).length=(C.toList.drop (off+ds.length)).drop ((fl es).length-(off+ds.length)):=by rw[List.drop_drop];congr 1;omega
  rw[hvl,hdd,List.take_append_drop]
 refine⟨H.store hid hl hlen hC hC' hsz hother (by simp) hfro hrow',Ev.store H hid hl hC hC' hsz hother hfro,?_⟩
 have hB:=(H.below id _ hid).1
 exact⟨rfl,rfl,rfl,by simp,fun k hk=>hother k (by simp only at hB;omega)⟩
theorem Sim.written {id0 id b esz:Nat}{es':List D}{w':World}{nxt:Next}{d:D}{res:Result Next}
 (hs:HR c m (upd h id (some (.row es' esz))) z w'∧Ev m (Pr c m h z) w m (Pr c m (upd h id (some (.row es' esz))) z) w'∧Below c.B w w') (hres:res=.ok nxt w')
 (hn:(∃v,nxt=.value v∧VR m (Pr c m (upd h id (some (.row es' esz))) z) w' d v)∨(nxt=.skip∧d=.tup [])) (_hb:b=b):
 Sim c m h z w id0 ⟨d,[(id,some (.row es' esz))],[]⟩ res:=
 ⟨nxt,w',m,hres,hn,hs.1,hs.2.1,fun _ _=>rfl,hs.2.2⟩
theorem qso {e e':D}{o:Nat}{vs:List D}(hs:setCells e o vs=some e')(hone:∀x∈e.cells,x.one=true)(hvs:∀x∈vs,x.one=true):o+vs.length≤e.cells.length∧e'.cells=spl e.cells o vs∧e'.cells.length=e.cells.length:=by
 cases e with
 |agg cs=>
  simp only[setCells]at hs
  split at hs
  ·rename_i hle
   simp at hs;subst hs
   exact⟨hle,by simp[D.cells,spl],by simp only[D.cells,List.length_append,List.length_take,List.length_drop];omega⟩
  cases hs
 |_=>
  simp only[setCells]at hs
  split at hs
  ·rename_i v
   simp at hs;subst hs
   have hv:=hvs v (by simp)
   have hc:v.cells=[v]:=by cases v<;>first|rfl|(simp[D.one]at hv)
   exact⟨by simp[D.cells],by rw[hc];simp[spl,D.cells],by rw[hc];simp[D.cells]⟩
  cases hs
theorem qsp {es:List D}{n i o:Nat}{e e':D}{vs:List D}(hes:∀x∈es,x.cells.length=n)(hi:es[i]?=some e)(hle:o+vs.length≤e.cells.length)(he':e'.cells=spl e.cells o vs):
 fl (es.set i e')=spl (fl es) (i*n+o) vs:=by
 obtain⟨hlt,rfl⟩:=List.getElem?_eq_some_iff.1 hi
 have hn:es[i].cells.length=n:=hes _ (List.getElem_mem hlt)
 have h1:=qBg (v:=es[i]) hes hlt
 rw[List.set_getElem_self]at h1
 rw[qBg hes hlt,he']
 have hX:((fl es).take (i*n)).length=i*n:=by
  rw[List.length_take,q1m hes]
  have:i*n≤es.length*n:=Nat.mul_le_mul_right _ (by omega)
  omega
 generalize hXd:(fl es).take (i*n)=X at h1 hX⊢
 generalize (fl es).drop (i*n+n)=Y at h1⊢
 rw[h1]
 generalize es[i].cells=E at hn hle⊢
 have e1:(X++E++Y).take (i*n+o)=X++E.take o:=by
  rw[List.append_assoc,List.take_append,hX,List.take_of_length_le (by omega),Nat.add_sub_cancel_left,List.take_append,show o-E.length=0 by omega]
  simp
 have e2:(X++E++Y).drop (i*n+o+vs.length)=E.drop (o+vs.length)++Y:=by
  rw[List.append_assoc,List.drop_append,hX,List.drop_of_length_le (by omega),show i*n+o+vs.length-i*n=o+vs.length by omega,List.drop_append,show o+vs.length-E.length=0 by omega]
  simp
 unfold spl
 rw[e1,e2]
 simp[List.append_assoc]
theorem qEE {id0:Nat}{ty:TypeId}{x v:D}{vx vv:Value}{r:Out}(H:HR c m h z w)(hs:Sub hr h)(hz:∀id,hr id≠none→zr id=z id)(hx:VR m (Pr c m h z) w x vx)(hv:VR m (Pr c m h z) w v vv)(hd:store P hr zr ty x v=some r):
 Sim c m h z w id0 r ((do Instr.storeAt ty vx vv;pure Next.skip:Sem Next).run P w):=by
 unfold store at hd
 split at hd
 ·rename_i id i o n hn
  split at hd
  ·rename_i hcond
   split at hd
   ·rename_i es esz hb
    split at hd
    ·rename_i hfro
     split at hd
     ·rename_i e he
      split at hd
      ·rename_i e' hset
       simp at hd;subst hd
       obtain⟨x0,hm0⟩:∃x0,m id=some x0:=by
        cases hx with
        |ptr _ _ _ b' esz' hm=>exact⟨_,hm⟩
       obtain⟨b,C,t,g1,g2,g3,g4⟩:=H.rowR (hs _ _ hb) hm0
       have hzz:=hz id (by rw[hb];simp)
       rw[hzz]at hfro
       have hvc:=hv.toCells hcond.2
       have hec:=g4.2.1 e (List.mem_of_getElem? he)
       have hone:∀y∈e.cells,y.one=true:=by
        intro y hy
        obtain⟨j,hj,rfl⟩:=List.mem_iff_getElem.1 hy
        have:=q7X g4.2.1 he (j:=j) (by omega)
        rw[List.getElem?_eq_getElem hj]at this
        exact g4.2.2.2.2 _ (List.mem_of_getElem? this)
       obtain⟨s1,s2,s3⟩:=qso hset hone hvc.one
       have hi:i<es.length:=(List.getElem?_eq_some_iff.1 he).1
       have hfl:=qsp g4.2.1 he s1 s2
       have hfll:=q1m g4.2.1
       have hin:(i+1) *esz≤es.length*esz:=Nat.mul_le_mul_right _ hi
       rw[Nat.succ_mul]at hin
       have hst:=qcg (es':=es.set i e') (off:=i*esz+o) H g1 (hs _ _ hb) g3 g4 hvc (by
        have:z id*esz≤i*esz:=Nat.mul_le_mul_right _ hfro
        omega) (by omega) hfl (by simp) (by
        intro y hy
        rcases List.mem_or_eq_of_mem_set hy with hy|rfl
        ·exact g4.2.1 y hy
        rw[s3];exact hec)
       cases hx with
       |ptr _ _ _ b' esz' hm=>
        rw[g1]at hm;cases hm
        refine Sim.written (b:=b) hst ?_ (.inr ⟨rfl,rfl⟩) rfl
        have hsz:vv.cells.size=n:=by rw[←Array.length_toList,←hvc.len];exact hcond.1
        have hrun:=run_storeCells_at P b (i*esz+o) t vv.cells.toList 0 C w g3 (by
         have hC:(fl es).length≤C.size:=g4.2.2.1
         have:vv.cells.toList.length=v.cells.length:=hvc.len.symm
         omega) hvc.oneV
        simp only[Nat.add_zero]at hrun
        have hne:¬(vv.cells.size≠n):=by simp[hsz]
        simp only[Sem.run_bind,Instr.storeAt,Instr.sureAddr,Sem.run_pure,Result.andThen_ok,storeVar,q0M hn,hne,if_false]
        rw[hrun]
        rfl
      cases hd
     cases hd
    cases hd
   cases hd
  cases hd
 cases hd
end Go.F
