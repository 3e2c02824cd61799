/- Parts of the proof, part 12: Ops8. -/
import Derived.Test.YtakaifogljbgoaaGreatZ11
import Derived.IntWalk
set_option linter.all false
namespace Go.F
open Go.RowKit (Below)
variable {P:Program}{c:Ctx}{m:Map}{pr:q1x}{h hr:q0e}{z zr:Frz}{w:World}
structure Src (P:Program)(w:World)(u e:TypeId)(x:Value)(n:Nat)(news:List Value):Prop where
 ex:∃(i:TypeInfo) (d:TypeDesc),P.info? e=some i∧P.underlying u=some d∧
  ((((∃e',d=.slice e')∨d=.string)∧(∀w':World,w'.heap=w.heap→(Builtin.lenOf x).run P w'=.ok n w'∧(Builtin.firstCells i.size n x).run P w'=.ok news.toArray w'))∨
   ((∃k,d=.int k)∧(∃k,x=.int k n)∧(n:Int)≤1099511627776∧(n:Int) *i.bytes≤281474976710656∧∃zv,i.zero=some zv∧news=(Builtin.zeroCells zv.cells n).toList))
theorem qBi {t u ty e:TypeId}{x:Value}{n sLen sCap:Nat}{news:List Value}{base:Option Addr}{w':World}{i:TypeInfo}(ht:P.underlying t=some (.slice e))(hi:P.info? e=some i)(hsz:0<i.size)(S:Src P w u e x n news)
 (hle:sLen+n≤sCap) (hst:∀a,base=some a→(storeCells (a.add (sLen*i.size)) news).run P w=.ok () w') (hno:base=none→w'=w):
 (Builtin.append_ #[t,u] ty #[.slice base sLen sCap,x]).run P w=.ok (.slice base (sLen+n) sCap) w':=by
 obtain⟨i',d,hi',hu,hsrc⟩:=S.ex
 rw[hi]at hi';cases hi'
 have hsize:sizeOf P e=some i.size:=by simp[sizeOf,hi]
 rcases hsrc with⟨hd,hrun⟩ |⟨⟨k,rfl⟩,⟨k',rfl⟩,hn,hby,zv,hzv,rfl⟩
 ·obtain⟨r1,r2⟩:=hrun w rfl
  cases base with
  |none=>
   rw[hno rfl]
   rcases hd with⟨e',rfl⟩ |rfl<;>simp[Builtin.append_,q0b ht,q0b hu,q0M hsize,r1,r2,hle]
  |some a=>
   have:=hst a rfl
   rcases hd with⟨e',rfl⟩ |rfl<;>simp[Builtin.append_,q0b ht,q0b hu,q0M hsize,r1,r2,hle,this]
 have hwr:IntKind.i64.wrap (n:Int)=n:=IntWalk.i64_in _ (by omega)
 have hneg:¬((n:Int)<0):=by omega
 have hbb:¬(281474976710656<(n:Int) *i.bytes):=by omega
 have hmax:max (n:Int) 0=n:=by omega
 have hap:n*i.size=0→(Builtin.zeroCells zv.cells n)= #[]:=by
  intro h0
  have hn0:n=0:=by
   rcases Nat.mul_eq_zero.1 h0 with h|h
   ·exact h
   omega
  subst hn0
  simp[Builtin.zeroCells]
 cases base with
 |none=>
  rw[hno rfl]
  simp[Builtin.append_,q0b ht,q0b hu,q0M hsize,asInt,asIntOf,hwr,hneg,q4Y hi,hbb,hle,q2f hi hzv]
 |some a=>
  have:=hst a rfl
  by_cases h0:n*i.size=0
  ·rw[hap h0]at this
   simp only at this
   simp[Builtin.append_,q0b ht,q0b hu,q0M hsize,asInt,asIntOf,hwr,hneg,q4Y hi,hbb,hle,h0,this]
  simp[Builtin.append_,q0b ht,q0b hu,q0M hsize,asInt,asIntOf,hwr,hneg,q4Y hi,hbb,hle,h0,q2f hi hzv,this]
theorem qqQ {t u ty e:TypeId}{x:Value}{n sLen sCap:Nat}{news olds:List Value}{base:Option Addr}{i:TypeInfo}{zv:Value}(ht:P.underlying t=some (.slice e))(hi:P.info? e=some i)(hzv:i.zero=some zv)(hsz:0<i.size)(S:Src P w u e x n news)
 (hsl:sLen≤sCap) (hgt:sCap<sLen+n) (hlim:(sLen+n) *(i.bytes+1)≤q0N) (hold:(Builtin.firstCells i.size sLen (.slice base sLen sCap)).run P w.drew=.ok olds.toArray w.drew):
 (Builtin.append_ #[t,u] ty #[.slice base sLen sCap,x]).run P w=
   .ok (.slice (some ⟨w.heap.size,0,none⟩) (sLen+n) (grownCap w (sLen+n) sCap e)) (w.drew.alloc (.cells ((olds++news++(Builtin.zeroCells zv.cells (grownCap w (sLen+n) sCap e-(sLen+n))).toList).toArray) e)):=by
 obtain⟨i',d,hi',hu,hsrc⟩:=S.ex
 rw[hi]at hi';cases hi'
 have hsize:sizeOf P e=some i.size:=by simp[sizeOf,hi]
 have hlim2:q0N=1099511627776:=rfl
 rw[hlim2,Nat.mul_add,Nat.mul_one]at hlim
 have hn:¬(sLen+n≤sCap):=by omega
 have hfit:Builtin.nextslicecap (sLen+n) sCap*i.bytes≤281474976710656:=growslice_fits hgt (by omega)
 have hfit':¬(Builtin.nextslicecap (sLen+n) sCap*i.bytes>2^48):=by omega
 have hmax:IntKind.i64.max=9223372036854775807:=by decide
 have hbig:¬(((sLen+n:Nat):Int)>IntKind.i64.max):=by rw[hmax];omega
 have h63':¬(9223372036854775807<((sLen:Int)+(n:Int))):=by omega
 have h48':¬(281474976710656<Builtin.nextslicecap (sLen+n) sCap*i.bytes):=by omega
 rcases hsrc with⟨hd,hrun⟩ |⟨⟨k,rfl⟩,⟨k',rfl⟩,hn',hby,zv',hzv',rfl⟩
 ·obtain⟨r1,r2⟩:=hrun w rfl
  obtain⟨_,r2'⟩:=hrun w.drew rfl
  rcases hd with⟨e',rfl⟩ |rfl<;>simp[Builtin.append_,q0b ht,q0b hu,q0M hsize,r1,r2',hn,q4Y hi,h63',h48',Question.forced,hold,q2f hi hzv,Go.newRow,grownCap]
  all_goals (congr 2;apply Array.ext';simp)
 rw[hzv]at hzv';cases hzv'
 have hwr:IntKind.i64.wrap (n:Int)=n:=IntWalk.i64_in _ (by omega)
 have hneg:¬((n:Int)<0):=by omega
 have hbb:¬(281474976710656<(n:Int) *i.bytes):=by omega
 have hn0:¬(n*i.size=0):=by
  intro h0
  rcases Nat.mul_eq_zero.1 h0 with h|h<;>omega
 simp[Builtin.append_,q0b ht,q0b hu,q0M hsize,asInt,asIntOf,hwr,hneg,q4Y hi,hbb,hn,h63',h48',Question.forced,hold,hn0,q2f hi hzv,Go.newRow,grownCap]
 congr 2;apply Array.ext';simp
theorem q7o {id:Nat}{t u ty e:TypeId}{s:D}{vs vx:Value}{new:List D}{news:List Value}{r:Out}(H:HR c m h z w)(hs:Sub hr h)(hz:∀id,hr id≠none→zr id=z id)(hid:m id=none)(ht:elemOf P t=some e)
 (hx:VR m (Pr c m h z) w s vs) (S:Src P w u e vx new.length news) (hnews:Cells m (Pr c m h z) w (fl new) news) (hd:q3K P hr zr id e s new=some r):
 Sim c m h z w id r ((do pure (Next.value (←Builtin.append_ #[t,u] ty #[vs,vx])):Sem Next).run P w):=by
 unfold q3K at hd
 split at hd
 ·rename_i n b d hn hb hzero
  split at hd
  ·rename_i hcond
   obtain⟨c1,c2,c3,c4⟩:=hcond
   rw[List.all_eq_true]at c4
   have hun:∀y∈new,y.cells.length=n:=fun y hy=>by simpa using c4 y hy
   obtain⟨i,zv,hi,hzv,rfl⟩:=q2Z hzero
   have hisz:i.size=n:=by simpa[sizeOf,hi]using hn
   have hiby:i.bytes=b:=by simpa[bytesOf,hi]using hb
   have hzsz:zv.cells.size=n:=by
    have:=((q4J (m:=m) (pr:=Pr c m h z) (w:=w) zv).cells c2).1
    omega
   have hfn:=q1m hun
   have hnl:news.length=new.length*n:=by rw[←hnews.len,hfn]
   have ht':=q3n ht
   split at hd
   ·cases hx with
    |nilsl a=>
     split at hd
     ·rename_i hlim
      simp only[Option.some.injEq]at hd;subst hd
      by_cases hemp:new=[]
      ·subst hemp
       have hnn:news=[]:=by simpa using hnl
       subst hnn
       have:=qBi (P:=P) (ty:=ty) (base:=a) (w':=w) ht' hi (by omega) S (sLen:=0) (sCap:=0) (Nat.le_refl 0) (fun a _=>by simp[storeCells]) (fun _=>rfl)
       simp at this
       exact⟨.value (.slice a 0 0),w,m,by simp[this],.inl ⟨_,rfl,.vnil id a⟩,H.virt hid rfl,Ev.virt hid,fun _ _=>rfl,Below.refl _ _⟩
      have hpos:0<new.length:=List.length_pos_iff.2 hemp
      have hold:(Builtin.firstCells i.size 0 (.slice a 0 0)).run P w.drew=.ok ([]:List Value).toArray w.drew:=by
       cases a with
       |none=>simp[Builtin.firstCells]
       |some a=>simp[Builtin.firstCells,loadCells,loadCellsFrom]
      have hrun:=qqQ (P:=P) (ty:=ty) (base:=a) ht' hi hzv (by omega) S (Nat.le_refl 0) (sLen:=0) (sCap:=0) (by omega) (by rw[hiby];simpa using hlim) hold
      simp only[List.nil_append,Nat.zero_add]at hrun
      have hcap:=grownCap_ge w new.length 0 e
      refine Sim.row (t:=e) (C:=(news++(Builtin.zeroCells zv.cells (grownCap w new.length 0 e-new.length)).toList).toArray)
       (w':=w.drew.alloc (.cells ((news++(Builtin.zeroCells zv.cells (grownCap w new.length 0 e-new.length)).toList).toArray) e)) H hid (Cells.toRow hnews rfl c1 hun) rfl rfl rfl rfl
       (u:=.slice (some ⟨w.heap.size,0,none⟩) new.length (grownCap w new.length 0 e)) (by simp[hrun]) (VR.newRef _ (heap_alloc_new w.drew _) ?_ hcap)
      simp only[List.size_toArray,List.length_append,Array.length_toList,size_zeroCells,hnl,hzsz]
      rw[←Nat.add_mul]
      exact Nat.mul_le_mul_right _ (by omega)
     cases hd
   ·rename_i id0 len
    split at hd
    ·rename_i es esz hbk
     split at hd
     ·rename_i hc2
      obtain⟨rfl,q1,q2,q3⟩:=hc2
      rw[hz id0 (by rw[hbk];simp)]at q2
      have hlive:=hs _ _ hbk
      by_cases hvn:∃a,len=0∧vs=.slice a 0 0
      case pos=>
       obtain⟨a,rfl,rfl⟩:=hvn
       have hzz:=hz id0 (by rw[hbk];simp)
       simp only[Option.some.injEq]at hd;subst hd
       by_cases hemp:new=[]
       ·subst hemp
        have hnn:news=[]:=by simpa using hnl
        subst hnn
        have:=qBi (P:=P) (ty:=ty) (base:=a) (w':=w) ht' hi (by omega) S (sLen:=0) (sCap:=0) (Nat.le_refl 0) (fun a _=>by simp[storeCells]) (fun _=>rfl)
        simp at this
        refine⟨.value (.slice a 0 0),w,m,by simp[this],.inl ⟨_,rfl,.vnil id a⟩,?_,?_,fun _ _=>rfl,Below.refl _ _⟩
        ·simp only[q0A,List.take_zero,List.nil_append,hzz];exact(H.kill id0).virt hid (by omega)
        simp only[q0A,List.take_zero,List.nil_append,hzz];exact(Ev.kill id0).trans (Ev.virt hid)
       have hpos:0<new.length:=List.length_pos_iff.2 hemp
       have hold:(Builtin.firstCells i.size 0 (.slice a 0 0)).run P w.drew=.ok ([]:List Value).toArray w.drew:=by
        cases a with
        |none=>simp[Builtin.firstCells]
        |some a=>simp[Builtin.firstCells,loadCells,loadCellsFrom]
       have hrun:=qqQ (P:=P) (ty:=ty) (base:=a) ht' hi hzv (by omega) S (Nat.le_refl 0) (sLen:=0) (sCap:=0) (by omega) (by rw[hiby];simpa using q3) hold
       simp only[List.nil_append,Nat.zero_add]at hrun
       have hcap:=grownCap_ge w new.length 0 e
       have Hk:=H.kill id0
       have Ek:Ev m (Pr c m h z) w m (Pr c m (upd h id0 none) z) w:=Ev.kill id0
       have hrow:RowIn m (Pr c m h z) w new esz ((news++(Builtin.zeroCells zv.cells (grownCap w new.length 0 e-new.length)).toList).toArray):=Cells.toRow hnews rfl c1 hun
       have hwp:(w.drew.alloc (.cells ((news++(Builtin.zeroCells zv.cells (grownCap w new.length 0 e-new.length)).toList).toArray) e)).heap=
        w.heap.push (.cells ((news++(Builtin.zeroCells zv.cells (grownCap w new.length 0 e-new.length)).toList).toArray) e):=rfl
       simp only[List.take_zero,List.nil_append,Nat.zero_add]
       refine⟨.value (.slice (some ⟨w.heap.size,0,none⟩) new.length (grownCap w new.length 0 e)),w.drew.alloc (.cells ((news++(Builtin.zeroCells zv.cells (grownCap w new.length 0 e-new.length)).toList).toArray) e),upd m id (some (w.heap.size,esz)),by rw[Sem.run_bind,hrun];rfl,.inl ⟨_,rfl,?_⟩,?_,?_,fun k hk=>upd_ne hk,?_⟩
       ·refine VR.newRef _ (heap_alloc_new w.drew _) ?_ hcap
        simp only[List.size_toArray,List.length_append,Array.length_toList,size_zeroCells,hnl,hzsz]
        rw[←Nat.add_mul]
        exact Nat.mul_le_mul_right _ (by omega)
       ·simp only[q0A,hzz]
        exact Hk.new hid hwp (by simp;omega) (.inl ⟨_,_,e,rfl,rfl,hrow.mono Ek⟩)
       ·simp only[q0A,hzz]
        exact Ek.trans (Ev.new hid hwp)
       exact qcf H.base hwp rfl rfl rfl
      case neg=>
      obtain⟨x0,hm0⟩:∃x0,m id0=some x0:=by
       cases hx with
       |ref _ _ _ b' esz' cap C' t'' f hm hw' hcap hlen=>exact⟨_,hm⟩
       |vnil _ a=>exact absurd ⟨a,rfl,rfl⟩ hvn
      obtain⟨b0,C,t0,g1,g2,g3,g4⟩:=H.rowR hlive hm0
      have hne:id≠id0:=fun e0=>by subst e0;rw[hid]at g1;cases g1
      have hfe:=q1m g4.2.1
      cases hx with
      |vnil _ a=>exact absurd ⟨a,rfl,rfl⟩ hvn
      |ref _ _ _ b' esz' cap C' t'' f hm hw' hcap hlen=>
       rw[g1]at hm;cases hm
       rw[g3]at hw';cases hw'
       simp only[Nat.zero_add,Nat.zero_mul]at hcap⊢
       simp only[Option.some.injEq]at hd;subst hd
       have hzz:=hz id0 (by rw[hbk];simp)
       have huall:∀y∈es.take len++new,y.cells.length=esz:=by
        intro y hy
        rcases List.mem_append.1 hy with hy|hy
        ·exact g4.2.1 y (List.mem_of_mem_take hy)
        exact hun y hy
       have hlenC:len*esz≤(fl es).length:=by rw[hfe];exact Nat.mul_le_mul_right _ q1
       have hCsz:(fl es).length≤C.size:=g4.2.2.1
       have hold0:Cells m (Pr c m h z) w (fl (es.take len)) (C.toList.take (len*esz)):=by
        rw[qcd g4.2.1]
        refine⟨by simp;omega,fun k h1 h2=>?_,fun y hy=>g4.2.2.2.2 y (List.mem_of_mem_take hy)⟩
        simp only[List.getElem_take,Array.getElem_toList]
        exact g4.2.2.2.1 _ _ _
       by_cases hroom:len+new.length≤cap
       ·
        have hfit:len*esz+news.length≤C.size:=by
         rw[hnl,←Nat.add_mul]
         exact Nat.le_trans (Nat.mul_le_mul_right _ hroom) hcap
        have hst:=run_storeCells_at P b0 (len*esz) t0 news 0 C w g3 (by simpa using hfit) hnews.oneV
        simp only[Nat.add_zero]at hst
        have hrun:=qBi (P:=P) (ty:=ty) (base:=some ⟨b0,0,none⟩) (w':=w.setRow b0 (spl C.toList (len*esz) news).toArray) ht' hi (by omega) S (sLen:=len) (sCap:=cap) hroom
         (fun a ha=>by cases ha;rw[q43,hisz,Nat.zero_add];exact hst) (fun e0=>by cases e0)
        have hsz:(spl C.toList (len*esz) news).toArray.size=C.size:=by
         have:=qqO (l:=C.toList) (off:=len*esz) (x:=news) (by simpa using hfit);simpa using this
        have hfro:∀o,o<z id0*esz→(spl C.toList (len*esz) news).toArray[o]?=C[o]?:=by
         intro o ho
         have:z id0*esz≤len*esz:=Nat.mul_le_mul_right _ q2
         simp only[List.getElem?_toArray,spl]
         rw[List.append_assoc,List.getElem?_append_left (by simp;omega),List.getElem?_take_of_lt (by omega)]
         simp
        have hother:∀k,k≠b0→(w.setRow b0 (spl C.toList (len*esz) news).toArray).heap[k]?=w.heap[k]?:=fun k hk=>setRow_other w b0 k _ hk
        have hC':=setRow_heap w b0 C (spl C.toList (len*esz) news).toArray t0 (0,0) g3
        have hrow:RowIn m (Pr c m h z) w (es.take len++new) esz (spl C.toList (len*esz) news).toArray:=by
         refine Cells.toRow (l:=C.toList.take (len*esz)++news) (rest:=C.toList.drop (len*esz+news.length)) ?_ rfl c1 huall
         rw[q71];exact hold0.append hnews
        have hzl:z id0≤(es.take len++new).length:=by simp;omega
        refine⟨.value (.slice (some ⟨b0,0,none⟩) (len+new.length) cap),w.setRow b0 (spl C.toList (len*esz) news).toArray,upd m id (some (b0,esz)),by simp[hrun],.inl ⟨_,rfl,?_⟩,?_,?_,fun k hk=>upd_ne hk,?_⟩
        ·exact VR.newRef _ hC' (by rw[hsz];exact hcap) hroom
        ·simp only[q0A,hzz];exact H.move hne hid g1 hlive g3 hC' hsz hother (by simp) hfro hzl hrow
        ·simp only[q0A,hzz];exact Ev.move H hne hid g1 hlive g3 hC' hsz hother hfro
        exact⟨rfl,rfl,rfl,by simp,fun k hk=>hother k (by omega)⟩
       have Hd:HR c m h z w.drew:=H.same rfl
       have hold1:(Builtin.firstCells i.size len (.slice (some ⟨b0,0,none⟩) len cap)).run P w.drew=.ok (C.toList.take (len*esz)).toArray w.drew:=by
        have hl:(C.toList.take (len*esz)).length=len*i.size:=by rw[hisz];simp;omega
        refine run_firstCells_some w.drew i.size len ⟨b0,0,none⟩ len cap _ hl (fun j v hj=>?_)
        rw[q43,Nat.zero_add,World.cell?_drew,cell?_row g3]
        rw[List.getElem?_take]at hj
        split at hj
        ·simpa using hj
        cases hj
       have hrun:=qqQ (P:=P) (ty:=ty) (base:=some ⟨b0,0,none⟩) ht' hi hzv (by omega) S hlen (by omega) (by rw[hiby];exact q3) hold1
       have Hk:=H.kill id0
       have Ek:Ev m (Pr c m h z) w m (Pr c m (upd h id0 none) z) w:=Ev.kill id0
       have hcap':=grownCap_ge w (len+new.length) cap e
       have hrow:RowIn m (Pr c m h z) w (es.take len++new) esz ((C.toList.take (len*esz)++news++(Builtin.zeroCells zv.cells (grownCap w (len+new.length) cap e-(len+new.length))).toList).toArray):=by
        refine Cells.toRow (l:=C.toList.take (len*esz)++news) ?_ rfl c1 huall
        rw[q71];exact hold0.append hnews
       have hwp:(w.drew.alloc (.cells ((C.toList.take (len*esz)++news++(Builtin.zeroCells zv.cells (grownCap w (len+new.length) cap e-(len+new.length))).toList).toArray) e)).heap=
        w.heap.push (.cells ((C.toList.take (len*esz)++news++(Builtin.zeroCells zv.cells (grownCap w (len+new.length) cap e-(len+new.length))).toList).toArray) e):=rfl
       refine⟨.value (.slice (some ⟨w.heap.size,0,none⟩) (len+new.length) (grownCap w (len+new.length) cap e)),w.drew.alloc (.cells ((C.toList.take (len*esz)++news++(Builtin.zeroCells zv.cells (grownCap w (len+new.length) cap e-(len+new.length))).toList).toArray) e),upd m id (some (w.heap.size,esz)),by rw[Sem.run_bind,hrun];rfl,.inl ⟨_,rfl,?_⟩,?_,?_,fun k hk=>upd_ne hk,?_⟩
       ·refine VR.newRef _ (heap_alloc_new w.drew _) ?_ hcap'
        simp only[List.size_toArray,List.length_append,Array.length_toList,size_zeroCells,hnl,hzsz,List.length_take]
        rw[Nat.min_eq_left (by omega),←Nat.add_mul,←Nat.add_mul]
        exact Nat.mul_le_mul_right _ (by omega)
       ·simp only[q0A,hzz]
        exact Hk.new hid hwp (by simp;omega) (.inl ⟨_,_,e,rfl,rfl,hrow.mono Ek⟩)
       ·simp only[q0A,hzz]
        exact Ek.trans (Ev.new hid hwp)
       exact qcf H.base hwp rfl rfl rfl
     cases hd
    cases hd
   cases hd
  cases hd
 cases hd
theorem qBj {id:Nat}{ts:List TypeId}{xs:List D}{vs:List Value}{r:Out}{ty:TypeId}(H:HR c m h z w)(hs:Sub hr h)(hz:∀id,hr id≠none→zr id=z id)(hid:m id=none)(hl:xs.length=vs.length)
 (hv:∀k (_:k<xs.length) (_:k<vs.length),VR m (Pr c m h z) w xs[k] vs[k]) (hd:append P hr zr id ts xs=some r):
 Sim c m h z w id r ((do pure (Next.value (←Builtin.append_ ts.toArray ty vs.toArray)):Sem Next).run P w):=by
 unfold append at hd
 split at hd
 ·rename_i t u s x
  match vs,hl with
  |[v0,v1],hl2=>
   have h0:=hv 0 (by simp) (by simp)
   have h1:=hv 1 (by simp) (by simp)
   simp at h0 h1
   split at hd
   ·cases hd
   rename_i e he
   have hinfo:∀{new:List D},q3K P hr zr id e s new=some r→∃i n,P.info? e=some i∧i.size=n∧0<n∧(∀y∈new,y.cells.length=n)∧new.length*i.bytes≤1099511627776:=by
    intro new hap
    unfold q3K at hap
    split at hap
    ·rename_i n b d hn hb hzero
     split at hap
     ·rename_i hcond
      obtain⟨i,zv,hi,hzv,rfl⟩:=q2Z hzero
      refine⟨i,n,hi,by simpa[sizeOf,hi]using hn,hcond.1,fun y hy=>by have:=List.all_eq_true.1 hcond.2.2.2 y hy;simpa using this,?_⟩
      have hby:i.bytes=b:=by simpa[bytesOf,hi]using hb
      have hlim2:q0N=1099511627776:=rfl
      rw[hby]
      by_cases hemp:new.isEmpty=true
      ·have:new=[]:=by simpa using hemp
       subst this;simp
      split at hap
      ·split at hap
       ·rename_i hl;rw[hlim2,Nat.mul_add]at hl;omega
       cases hap
      ·split at hap
       ·split at hap
        ·rename_i hc2
         have h3:=hc2.2.2.2
         rw[hlim2,Nat.mul_add,Nat.add_mul]at h3
         omega
        cases hap
       cases hap
      cases hap
     cases hap
    cases hap
   split at hd
   ·rename_i k hu
    split at hd
    ·rename_i n d hn hzero
     split at hd
     ·rename_i hcond
      obtain⟨i,sz,hi,hsz,hpos,hun,hby⟩:=hinfo hd
      obtain⟨i',zv,hi',hzv,rfl⟩:=q2Z hzero
      rw[hi]at hi';cases hi'
      obtain⟨k',rfl⟩:=q72 h1 hn
      by_cases hn0:n=0
      ·subst hn0
       refine q7o (news:=[]) H hs hz hid he h0 ⟨⟨i,_,hi,hu,.inr ⟨⟨k,rfl⟩,⟨k',by simp⟩,by simp,by simp,zv,hzv,by simp[Builtin.zeroCells]⟩⟩⟩ ⟨by simp[fl],by simp,by simp[fl]⟩ hd
      have hcells:0<(q59 zv).cells.length:=by
       have:=hun (q59 zv) (by simp;exact hn0)
       omega
      refine q7o (news:=(Builtin.zeroCells zv.cells n).toList) H hs hz hid he h0 ⟨⟨i,_,hi,hu,.inr ⟨⟨k,rfl⟩,⟨k',by simp⟩,?_,?_,zv,hzv,by simp⟩⟩⟩ (qdb (q4J zv) hcond.2 hcells) hd
      ·simp only[List.length_replicate]
       have:q0N=1099511627776:=rfl
       omega
      simp only[List.length_replicate]
      have h5:=hby
      simp only[List.length_replicate]at h5
      have:((n*i.bytes:Nat):Int)≤281474976710656:=by omega
      simpa using this
     cases hd
    cases hd
   ·rename_i hu
    split at hd
    ·rename_i bs
     cases h1
     obtain⟨i,sz,hi,hsz,hpos,hun,hby⟩:=hinfo hd
     have hlen:(bs.toList.map fun c=>D.int .u8 (c.toNat:Int)).length=bs.size:=by
      rw[ByteArray.toList_eq];obtain⟨⟨l⟩⟩:=bs;simp;rfl
     have hflb:fl (bs.toList.map fun c=>D.int .u8 (c.toNat:Int))=bs.toList.map fun c=>D.int .u8 (c.toNat:Int):=by
      have:=qCU (bs.toList.map fun c=>(c.toNat:Int))
      rw[List.map_map]at this;exact this
     refine q7o (news:=bs.toList.map fun c=>Value.int .u8 (c.toNat:Int)) H hs hz hid he h0 ⟨⟨i,_,hi,hu,.inl ⟨.inr rfl,fun w' hw'=>?_⟩⟩⟩ ?_ hd
     ·rw[hlen]
      refine⟨by simp[Builtin.lenOf],?_⟩
      simp only[Builtin.firstCells,Sem.run_pure]
      congr 1
      rw[ByteArray.toList_eq]
      obtain⟨⟨l⟩⟩:=bs
      apply Array.ext'
      simp[ByteArray.extract,ByteArray.copySlice,ByteArray.size]
     rw[hflb]
     refine⟨by simp,fun k h4 h5=>?_,fun y hy=>?_⟩
     ·simp only[List.getElem_map];exact .int _ _
     obtain⟨c',_,rfl⟩:=List.mem_map.1 hy;rfl
    cases hd
   ·rename_i e' hu
    split at hd
    ·rename_i l hw
     obtain⟨i,sz,hi,hsz,hpos,hun,hby⟩:=hinfo hd
     have W:=q7K H hs h1 hw
     obtain⟨us,hus1,hus2⟩:=qda (P:=P) W (n:=l.length) (Nat.le_refl _) (by rw[←hsz]at hun;exact hun)
     rw[List.take_of_length_le (Nat.le_refl _)]at hus2
     refine q7o (news:=us) H hs hz hid he h0 ⟨⟨i,_,hi,hu,.inl ⟨.inl ⟨e',rfl⟩,fun w' hw'=>?_⟩⟩⟩ hus2 hd
     have W':=q7K (H.same hw') hs (h1.mono (Ev.same hw')) hw
     exact⟨W'.len,hus1 w' hw'⟩
    cases hd
   cases hd
 cases hd
end Go.F
