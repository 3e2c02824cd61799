/- Parts of the proof, part 8: Ops4. -/
import Derived.Test.YtakaifogljbgoaaGreatZ7
set_option linter.all false
namespace Go.F
open Go.RowKit (Below)
variable {P:Program}{c:Ctx}{m:Map}{pr:q1x}{h hr:q0e}{z:Frz}{w:World}
theorem qcf {B:Nat}{w w':World}{o:Obj}(hB:B≤w.heap.size)(hw:w'.heap=w.heap.push o)(h1:w'.os=w.os)(h2:w'.tape=w.tape)(h3:w'.output=w.output):Below B w w':=
 ⟨h1,h2,h3,by rw[hw];simp,fun k hk=>by rw[hw,Array.getElem?_push_lt (by omega),Array.getElem?_eq_getElem (by omega)]⟩
theorem Sim.row {id:Nat}{es:List D}{n:Nat}{v:D}{u:Value}{C:Array Value}{t:TypeId}{w':World}{res:Result Next}(H:HR c m h z w)(hid:m id=none)(hrow:RowIn m (Pr c m h z) w es n C)
 (hw:w'.heap=w.heap.push (.cells C t)) (h1:w'.os=w.os) (h2:w'.tape=w.tape) (h3:w'.output=w.output) (hres:res=.ok (.value u) w')
 (hv:VR (upd m id (some (w.heap.size,n))) (Pr c (upd m id (some (w.heap.size,n))) (upd h id (some (.row es n))) (upd z id 0)) w' v u):Sim c m h z w id (newRow id es n v) res:=
 ⟨.value u,w',upd m id (some (w.heap.size,n)),hres,.inl ⟨u,rfl,hv⟩,
  H.new hid hw (by simp) (.inl ⟨es,C,t,rfl,rfl,hrow⟩),Ev.new hid hw,fun k hk=>upd_ne hk,qcf H.base hw h1 h2 h3⟩
theorem VR.newPtr {id n:Nat}{pr':q1x}{w':World}(size:Nat):VR (upd m id (some (size,n))) pr' w' (.ptr id 0 0) (.pointer (some ⟨size,0,none⟩)):=by
 have:=VR.ptr (m:=upd m id (some (size,n))) (pr:=pr') (w:=w') id 0 0 size n (upd_same ..)
 simpa using this
theorem VR.newRef {id n len cap:Nat}{pr':q1x}{w':World}{C:Array Value}{t:TypeId}(size:Nat)(hw:w'.heap[size]?=some (.cells C t))(hC:cap*n≤C.size)(hl:len≤cap):
 VR (upd m id (some (size,n))) pr' w' (.ref id 0 len) (.slice (some ⟨size,0,none⟩) len cap):=by
 have:=VR.ref (m:=upd m id (some (size,n))) (pr:=pr') (w:=w') id 0 len size n cap C t (0,0) (upd_same ..) hw (by simpa using hC) hl
 simpa using this
theorem RowIn.single {d:D}{v:Value}(hv:VR m pr w d v)(hs:d.sto=true)(h0:0<d.cells.length):RowIn m pr w [d] d.cells.length v.cells:=by
 obtain⟨h1,h2,h3⟩:=hv.cells hs
 have hfl:fl [d]=d.cells:=by simp[fl]
 refine⟨h0,by simp,by rw[hfl,h1];exact Nat.le_refl _,fun k hk hk'=>?_,by rw[hfl];exact h3⟩
 simp only[hfl]
 exact h2 k (by rw[hfl]at hk;exact hk) hk'
theorem qEB {id:Nat}{e:TypeId}{d:D}(H:HR c m h z w)(hid:m id=none)(hz:zeroOf P e=some d)(h0:0<d.cells.length)(hs:d.sto=true):
 Sim c m h z w id (newRow id [d] d.cells.length (.ptr id 0 0)) ((do pure (Next.value (←Instr.alloc e true (.tuple #[]))):Sem Next).run P w):=by
 obtain⟨i,v,hi,hv,rfl⟩:=q2Z hz
 refine Sim.row (t:=e) (C:=v.cells) (w':=w.alloc (.cells v.cells e)) H hid (RowIn.single (q4J v) hs h0) rfl rfl rfl rfl ?_ (VR.newPtr _)
 simp[Instr.alloc,q2f hi hv,newVar,Go.newRow]
theorem qIL {id:Nat}{e:TypeId}{d:D}{v:Value}(H:HR c m h z w)(hid:m id=none)(hv:VR m (Pr c m h z) w d v)(h0:0<d.cells.length)(hs:d.sto=true):
 Sim c m h z w id (newRow id [d] d.cells.length (.ptr id 0 0)) ((do pure (Next.value (←Instr.box e v)):Sem Next).run P w):=by
 refine Sim.row (t:=e) (C:=v.cells) (w':=w.alloc (.cells v.cells e)) H hid (RowIn.single hv hs h0) rfl rfl rfl rfl ?_ (VR.newPtr _)
 simp[Instr.box,newVar,Go.newRow]
theorem qvR (n:Nat)(d:D):fl (List.replicate n d)=(List.replicate n d.cells).flatten:=by simp[fl,List.flatMap_def]
theorem qkH {n k:Nat}{d:D}(hk:k<(fl (List.replicate n d)).length)(h0:0<d.cells.length):(fl (List.replicate n d))[k]=d.cells[k%d.cells.length]'(Nat.mod_lt _ h0):=by
 have hu:∀e∈List.replicate n d,e.cells.length=d.cells.length:=fun e he=>by rw[List.eq_of_mem_replicate he]
 have hl:=q1m hu
 simp only[List.length_replicate]at hl
 have hdiv:k/d.cells.length<n:=by
  rw[hl]at hk
  exact Nat.div_lt_of_lt_mul (by rw[Nat.mul_comm];exact hk)
 have:=q7X hu (i:=k/d.cells.length) (e:=d) (by simp[hdiv]) (j:=k%d.cells.length) (Nat.mod_lt _ h0)
 rw[Nat.mul_comm,Nat.div_add_mod]at this
 rw[List.getElem?_eq_getElem hk,List.getElem?_eq_getElem (Nat.mod_lt _ h0)]at this
 exact Option.some.inj this
theorem RowIn.replicate {d:D}{v:Value}{n N:Nat}(hv:VR m pr w d v)(hs:d.sto=true)(h0:0<d.cells.length)(hN:n*d.cells.length≤N):
 RowIn m pr w (List.replicate n d) d.cells.length ((Array.range N).map (v.cells[· %v.cells.size]!)):=by
 obtain⟨h1,h2,h3⟩:=hv.cells hs
 have hu:∀e∈List.replicate n d,e.cells.length=d.cells.length:=fun e he=>by rw[List.eq_of_mem_replicate he]
 have hl:=q1m hu
 simp only[List.length_replicate]at hl
 refine⟨h0,hu,by rw[hl];simpa using hN,fun k hk hk'=>?_,fun e he=>?_⟩
 ·rw[qkH hk h0]
  have hm:k%v.cells.size<v.cells.size:=by rw[←h1];exact Nat.mod_lt _ h0
  have e1:((Array.range N).map (v.cells[· %v.cells.size]!))[k]=v.cells[k%v.cells.size]:=by
   simp[getElem!_def,Array.getElem?_eq_getElem hm]
  rw[e1]
  have:=h2 (k%d.cells.length) (Nat.mod_lt _ h0) (by rw[←h1];exact Nat.mod_lt _ h0)
  simpa only[h1]using this
 rw[qvR]at he
 obtain⟨l,hl',hel⟩:=List.mem_flatten.1 he
 rw[List.eq_of_mem_replicate hl']at hel
 exact h3 e hel
theorem q3n {t e:TypeId}(he:elemOf P t=some e):P.underlying t=some (.slice e):=by
 unfold elemOf at he
 split at he
 ·rename_i hu;cases he;exact hu
 cases he
theorem qsm {id:Nat}{ty e:TypeId}{l c':Int}{n b:Nat}{d:D}(H:HR c m h z w)(hid:m id=none)(he:elemOf P ty=some e)(hn:sizeOf P e=some n)(hb:bytesOf P e=some b)(hz:zeroOf P e=some d)
 (h0:0<n) (hl:0≤l) (hlc:l≤c') (hlim:c'*(b+1)≤q0N) (hd:d.cells.length=n) (hs:d.sto=true):
 Sim c m h z w id (newRow id (List.replicate l.toNat d) n (.ref id 0 l.toNat)) ((do pure (Next.value (←Instr.makeSlice ty (.int .i64 l) (.int .i64 c'))):Sem Next).run P w):=by
 obtain⟨i,v,hi,hv,rfl⟩:=q2Z hz
 have hsz:i.size=n:=by simpa[sizeOf,hi]using hn
 have hby:i.bytes=b:=by simpa[bytesOf,hi]using hb
 subst hd
 have hcn:0≤c':=by omega
 have hlim2:((q0N:Nat):Int)=1099511627776:=by rfl
 have hlim':c'≤1099511627776:=by
  have h1:c'*1≤c'*((b:Int)+1):=Int.mul_le_mul_of_nonneg_left (by omega) hcn
  rw[hlim2]at hlim;omega
 have hbc:(i.bytes:Int) *c'≤281474976710656:=by
  rw[hlim2,Int.mul_add,Int.mul_one,Int.mul_comm]at hlim
  rw[hby];omega
 have hrun:=run_make (P:=P) w ty e i v (q3n he) hi hv .i64 .i64 l c' hl hlc hbc (by omega)
 rw[hsz]at hrun
 refine Sim.row (t:=e) (C:=madeCells v.cells (c'.toNat*(q59 v).cells.length)) (w':=w.alloc (.cells (madeCells v.cells (c'.toNat*(q59 v).cells.length)) e)) H hid
  (RowIn.replicate (q4J v) hs h0 (Nat.mul_le_mul_right _ (by omega))) rfl rfl rfl rfl (u:=.slice (some ⟨w.heap.size,0,none⟩) l.toNat c'.toNat) ?_
  (VR.newRef _ (heap_alloc_new w _) (by rw[size_madeCells];exact Nat.le_refl _) (by omega))
 simp[hrun]
theorem qbD (vs:List Value):∀(cells:Array Value) (off k:Nat),off+k+vs.length≤cells.size→
 ((vs.zipIdx k).foldl (fun cs x=>cs.setIfInBounds (off+x.2) x.1) cells).toList=cells.toList.take (off+k)++vs++cells.toList.drop (off+k+vs.length):=by
 induction vs with
 |nil=>intro cells off k _;simp
 |cons v vs ih=>
  intro cells off k hle
  simp only[List.zipIdx_cons,List.foldl_cons,List.length_cons]at hle⊢
  rw[ih _ off (k+1) (by simp;omega)]
  simp only[Array.toList_setIfInBounds]
  have hk:off+k<(cells.toList.set (off+k) v).length:=by simp;omega
  rw[show off+(k+1)=(off+k)+1 by omega,List.take_succ_eq_append_getElem hk,List.getElem_set_self,List.take_set_of_le (Nat.le_refl _),List.drop_set_of_lt (by omega)]
  rw[show off+k+1+vs.length=off+k+(vs.length+1)by omega]
  simp
structure Cells (m:Map)(pr:q1x)(w:World)(l:List D)(C:List Value):Prop where
 len:l.length=C.length
 vr:∀k (h1:k<l.length) (h2:k<C.length),VR m pr w l[k] C[k]
 one:∀e∈l,e.one=true
theorem Cells.append {l l':List D}{C C':List Value}(h1:Cells m pr w l C)(h2:Cells m pr w l' C'):Cells m pr w (l++l') (C++C'):=by
 refine⟨by simp[h1.len,h2.len],fun k hk hk'=>?_,fun e he=>?_⟩
 ·by_cases hlt:k<l.length
  ·rw[List.getElem_append_left hlt,List.getElem_append_left (by have:=h1.len;omega)]
   exact h1.vr _ _ _
  have hl:=h1.len
  rw[List.getElem_append_right (by omega),List.getElem_append_right (by omega)]
  simp only[hl]
  exact h2.vr _ _ _
 rcases List.mem_append.1 he with h|h
 ·exact h1.one e h
 exact h2.one e h
theorem Cells.take {l:List D}{C:List Value}(h1:Cells m pr w l C)(n:Nat):Cells m pr w (l.take n) (C.take n):=
 ⟨by simp[h1.len],fun k hk hk'=>by simp only[List.getElem_take];exact h1.vr _ _ _,fun e he=>h1.one e (List.mem_of_mem_take he)⟩
theorem Cells.drop {l:List D}{C:List Value}(h1:Cells m pr w l C)(n:Nat):Cells m pr w (l.drop n) (C.drop n):=
 ⟨by simp[h1.len],fun k hk hk'=>by simp only[List.getElem_drop];exact h1.vr _ _ _,fun e he=>h1.one e (List.mem_of_mem_drop he)⟩
theorem VR.toCells {d:D}{v:Value}(hv:VR m pr w d v)(hs:d.sto=true):Cells m pr w d.cells v.cells.toList:=by
 obtain⟨h1,h2,h3⟩:=hv.cells hs
 exact⟨by simpa using h1,fun k hk hk'=>by simp only[Array.getElem_toList];exact h2 _ _ _,h3⟩
theorem Cells.agg {l:List D}{C:List Value}(h:Cells m pr w l C):VR m pr w (.agg l) (.agg C.toArray):=
 .agg l _ (by simpa using h.len) (fun k hk hk'=>by simp only[List.getElem_toArray];exact h.vr _ _ _) h.one
theorem qu1 {t:q0z}{ρ:Operand→Value}(hρ:qqH m pr w t ρ)(place:Nat→Option (Nat×Nat)):∀(parts:List (Nat×Operand)) (l:List D) (C:Array Value) (l':List D),Cells m pr w l C.toList→
 q30 t place l parts=some l'→∃C':Array Value,Instr.fill place C (parts.map fun p=>(p.1,ρ p.2))=some C'∧Cells m pr w l' C'.toList:=by
 intro parts
 induction parts with
 |nil=>intro l C l' hc hf;simp[q30]at hf;subst hf;exact⟨C,rfl,hc⟩
 |cons p parts ih=>
  obtain⟨i,x⟩:=p
  intro l C l' hc hf
  simp only[q30]at hf
  split at hf
  ·cases hf
  rename_i off size hpl
  split at hf
  ·rename_i hcond
   obtain⟨h1,h2,h3⟩:=hcond
   have hv:=(hρ x).toCells h3
   have hlen:(ρ x).cells.size=size:=by rw[←Array.length_toList,←hv.len,h1]
   have hC:l.length=C.size:=by simpa using hc.len
   simp only[List.map_cons,Instr.fill,hpl]
   have hcond':((ρ x).cells.size≠size||off+(ρ x).cells.size>C.size)=false:=by
    simp[hlen];omega
   simp only[hcond',Bool.false_eq_true,if_false]
   refine ih _ _ l' ?_ hf
   have hsp:=qbD (ρ x).cells.toList C off 0 (by simp;omega)
   rw[←Array.foldl_toList,Array.toList_zipIdx]
   simp only[Nat.add_zero]at hsp
   rw[hsp]
   have hl':(ρ x).cells.toList.length=(ev t x).cells.length:=hv.len.symm
   rw[hl']
   exact(hc.take _|>.append hv).append (hc.drop _)
  cases hf
theorem qnG {fs:Array Field}{pls:List (Nat×Nat)}(hp:qa6 P fs.toList=some pls):
 (fs.mapM fun f=>(do pure (f.offset,←Go.sizeOf f.type):Sem (Nat×Nat))).run P w=.ok pls.toArray w:=by
 rw[Array.mapM_eq_mapM_toList]
 unfold qa6 at hp
 generalize fs.toList=l at hp⊢
 have key:∀(l:List Field) (pls:List (Nat×Nat)),l.mapM (fun f=>(sizeOf P f.type).map fun n=>(f.offset,n))=some pls→
  (l.mapM fun f=>(do pure (f.offset,←Go.sizeOf f.type):Sem (Nat×Nat))).run P w=.ok pls w:=by
  intro l
  induction l with
  |nil=>intro pls hp;simp at hp;subst hp;simp
  |cons f l ih=>
   intro pls hp
   simp only[List.mapM_cons]at hp⊢
   cases hs:sizeOf P f.type with
   |none=>simp[hs]at hp
   |some n=>
    simp only[hs,Option.map_some,Option.bind_eq_bind,Option.bind_some]at hp
    cases hl:l.mapM (fun f=>(sizeOf P f.type).map fun n=>(f.offset,n))with
    |none=>simp[hl]at hp
    |some pls'=>
     simp[hl]at hp
     simp only[Sem.run_bind,q0M hs,Result.andThen_ok,Sem.run_pure,ih pls' hl,hp]
 simp only[Sem.run_map,key l pls hp,Result.andThen_ok]
theorem run_build {t:q0z}{ρ:Operand→Value}{ty:TypeId}{parts:Array (Nat×Operand)}{d:D}(hρ:qqH m pr w t ρ)(hd:build P t ty parts.toList=some d):
 ∃v,(Instr.build ty (parts.map fun(i,x)=>(i,ρ x))).run P w=.ok v w∧VR m pr w d v:=by
 unfold build at hd
 split at hd
 ·rename_i fs z' hu hz
  obtain⟨i,v,hi,hv,rfl⟩:=q2Z hz
  split at hd
  ·rename_i pls hpls
   split at hd
   ·rename_i hsto
    cases hf:q30 t (fun i=>pls[i]?) (q59 v).cells parts.toList with
    |none=>simp[hf]at hd
    |some l'=>
     simp[hf]at hd;subst hd
     obtain⟨C',h1,h2⟩:=qu1 (m:=m) (pr:=pr) (w:=w) hρ (fun i=>pls[i]?) parts.toList _ v.cells l' ((q4J v).toCells hsto) hf
     refine⟨.agg C',?_,by have:=h2.agg;simpa using this⟩
     simp only[Instr.build,Sem.run_bind,q2f hi hv,Result.andThen_ok,q0b hu,qnG hpls]
     simp only[Array.toList_map,List.getElem?_toArray]
     rw[h1];rfl
   cases hd
  cases hd
 ·rename_i n e z' hu hz
  obtain⟨i,v,hi,hv,rfl⟩:=q2Z hz
  split at hd
  ·rename_i k hk
   split at hd
   ·rename_i hsto
    cases hf:q30 t (fun i=>some (i*k,k)) (q59 v).cells parts.toList with
    |none=>simp[hf]at hd
    |some l'=>
     simp[hf]at hd;subst hd
     obtain⟨C',h1,h2⟩:=qu1 (m:=m) (pr:=pr) (w:=w) hρ (fun i=>some (i*k,k)) parts.toList _ v.cells l' ((q4J v).toCells hsto) hf
     refine⟨.agg C',?_,by have:=h2.agg;simpa using this⟩
     simp only[Instr.build,Sem.run_bind,q2f hi hv,Result.andThen_ok,q0b hu,q0M hk]
     simp only[Array.toList_map]
     rw[h1];rfl
   cases hd
  cases hd
 cases hd
end Go.F
