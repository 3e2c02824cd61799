/- Parts of the proof, part 40: Bridge. -/
import Derived.Test.YtakaifogljbgoaaGreatZ20
import GoSem.ClaimJoined
set_option linter.all false
namespace Go.F
inductive Sh where
 |bool
 |int (k:IntKind)
 |str
 |sl (e:Sh)
 |st (fs:List Sh)
def mkD (s:Sh)(cs:List D):D:=
 match s with
 |.st _=> .agg cs
 |_=>cs.headD .bad
inductive HasC:Sh→List D→Prop
 |bool (b:Bool):HasC .bool [.bool b]
 |int (k:IntKind) (n:Int) (h:k.min≤n∧n≤k.max):HasC (.int k) [.int k n]
 |str (s:ByteArray) (h:s.size≤maxLen):HasC .str [.str s]
 |sl (e:Sh) (es:List (List D)) (hl:es.length≤maxLen) (h:∀x∈es,HasC e x) (hr:es.length≤reachBytes):HasC (.sl e) [.lst (es.map (mkD e))]
 |st0:HasC (.st []) []
 |stc (s:Sh) (ss:List Sh) (x xs:List D) (h:HasC s x) (hs:HasC (.st ss) xs):HasC (.st (s::ss)) (x++xs)
def quB (P:Program):List Field→Nat→Nat→Bool
 |[],o,tot=>Nat.beq o tot
 |f::fs,o,tot=>Nat.beq f.offset o&&quB P fs (o+P.cellsOf f.type) tot
def qbR (P:Program):Nat→TypeId→Option Sh
 |0,_=>none
 |n+1,t=>
  match P.underlying t with
  |some .bool=>some .bool
  |some (.int k)=>some (.int k)
  |some .string=>some .str
  |some (.slice e)=>if 0<P.cellsOf e∧0<P.bytesOf e then(qbR P n e).map .sl else none
  |some (.struct fs)=>if quB P fs.toList 0 (P.cellsOf t)then(fs.toList.mapM fun f=>qbR P n f.type).map .st else none
  |some (.array k e)=>if k*P.cellsOf e=P.cellsOf t then(qbR P n e).map fun s=> .st (List.replicate k s)else none
  |_=>none
theorem HasC.one {s:Sh}{l:List D}(h:HasC s l):∀x∈l,x.one=true:=by
 induction h with
 |bool b=>simp[D.one]
 |int k n _=>simp[D.one]
 |str s _=>simp[D.one]
 |sl e es _ _ _ _=>simp[D.one]
 |st0=>simp
 |stc s ss x xs _ _ ih1 ih2=>intro y hy;exact(List.mem_append.1 hy).elim (ih1 y) (ih2 y)
theorem qsP {s:Sh}{l:List D}(h:HasC s l):(mkD s l).cells=l:=by
 cases h<;>rfl
section
variable {H:Type}{enc:TypeId×Value→H}{P:Program}{w:World}{base:Nat}{spare:Nat→Bool}{held:Bool}
abbrev prW (w:World):q1x:=fun b _=>b<w.heap.size
theorem cells?_spec {a:Addr}{n:Nat}{cs:List Value}(h:w.cells? base a n=some cs):cs.length=n∧∀j (_:j<n) (hj':j<cs.length),w.cell? (a.add j)=some cs[j]:=by
 unfold World.cells? at h
 split at h
 ·obtain⟨h1,h2⟩:=q8q h
  rw[List.length_range]at h1
  exact⟨h1,fun j hj hj'=>by have:=h2 j (by simpa using hj) hj';simpa using this⟩
 cases h
theorem cell?_spot {a:Addr}{v:Value}(h:w.cell? a=some v):a.spot=none∧a.block<w.heap.size:=by
 unfold World.cell? at h
 split at h
 ·rename_i c _ _ hb
  split at h
  ·cases h
  rename_i hs
  exact⟨by cases hsp:a.spot<;>simp_all,(Array.getElem?_eq_some_iff.1 hb).1⟩
 cases h
theorem Cells.nil {m:Map}{pr:q1x}:Cells m pr w [] []:=⟨rfl,fun k h=>by simp at h,by simp⟩
theorem qwO {n fuel:Nat}(ih:∀t s cs x,qbR P n t=some s→DataW.trod enc P w base spare held fuel t cs=some x→(∀m∈x.1.weights P t,m≤reachBytes)→∃dl,HasC s dl∧Cells q1t (prW w) w dl cs)(cs:List Value):
 ∀(fs:List Field) (o:Nat) (ss:List Sh) (xs:List (DataW H×List MemPlace)),quB P fs o cs.length=true→fs.mapM (fun f=>qbR P n f.type)=some ss→
  fs.mapM (fun f=>DataW.trod enc P w base spare held fuel f.type ((cs.drop f.offset).take (P.cellsOf f.type)))=some xs→(∀m∈DataW.weightsEach P (fs.map (·.type)) (xs.map (·.1)),m≤reachBytes)→∃dl,HasC (.st ss) dl∧Cells q1t (prW w) w dl (cs.drop o):=by
 intro fs
 induction fs with
 |nil=>
  intro o ss xs ho hs _ _
  simp at hs;subst hs
  have:=Nat.eq_of_beq_eq_true ho
  refine⟨[],.st0,?_⟩
  rw[List.drop_of_length_le (by omega)]
  exact Cells.nil
 |cons f fs ihf=>
  intro o ss xs ho hs hx hm
  simp only[quB,Bool.and_eq_true]at ho
  have hoff:=Nat.eq_of_beq_eq_true ho.1
  simp only[List.mapM_cons]at hs hx
  cases h1:qbR P n f.type with
  |none=>simp[h1]at hs
  |some s=>
   cases h2:fs.mapM (fun f=>qbR P n f.type)with
   |none=>simp[h1,h2]at hs
   |some ss'=>
    simp[h1,h2]at hs
    subst hs
    cases h3:DataW.trod enc P w base spare held fuel f.type ((cs.drop f.offset).take (P.cellsOf f.type))with
    |none=>simp[h3]at hx
    |some x=>
     cases h4:fs.mapM (fun f=>DataW.trod enc P w base spare held fuel f.type ((cs.drop f.offset).take (P.cellsOf f.type)))with
     |none=>simp[h3,h4]at hx
     |some xs'=>
      simp[h3,h4]at hx
      subst hx
      simp only[List.map_cons,DataW.weightsEach,List.mem_append]at hm
      obtain⟨d1,c1,e1⟩:=ih _ _ _ _ h1 h3 fun m hmm=>hm m (.inl hmm)
      obtain⟨d2,c2,e2⟩:=ihf _ _ _ ho.2 h2 h4 fun m hmm=>hm m (.inr hmm)
      refine⟨d1++d2,.stc _ _ _ _ c1 c2,?_⟩
      have:cs.drop o=(cs.drop o).take (P.cellsOf f.type)++cs.drop (o+P.cellsOf f.type):=by
       rw[←List.drop_drop,List.take_append_drop]
      rw[this]
      rw[hoff]at e1
      exact e1.append e2
theorem qzV {n fuel:Nat}{e:TypeId}{s:Sh}(ih:∀t s cs x,qbR P n t=some s→DataW.trod enc P w base spare held fuel t cs=some x→(∀m∈x.1.weights P t,m≤reachBytes)→∃dl,HasC s dl∧Cells q1t (prW w) w dl cs)(hs:qbR P n e=some s)(cs:List Value):
 ∀(k o:Nat) (xs:List (DataW H×List MemPlace)),(o+k) *P.cellsOf e=cs.length→
  ((List.range' o k).mapM fun i=>DataW.trod enc P w base spare held fuel e ((cs.drop (i*P.cellsOf e)).take (P.cellsOf e)))=some xs→(∀m∈DataW.weightsAll P e (xs.map (·.1)),m≤reachBytes)→∃dl,HasC (.st (List.replicate k s)) dl∧Cells q1t (prW w) w dl (cs.drop (o*P.cellsOf e)):=by
 intro k
 induction k with
 |zero=>
  intro o xs ho _ _
  refine⟨[],.st0,?_⟩
  rw[List.drop_of_length_le (by rw[←ho];simp)]
  exact Cells.nil
 |succ k ihk=>
  intro o xs ho hx hm
  simp only[List.range'_succ,List.mapM_cons]at hx
  cases h3:DataW.trod enc P w base spare held fuel e ((cs.drop (o*P.cellsOf e)).take (P.cellsOf e))with
  |none=>simp[h3]at hx
  |some x=>
   cases h4:(List.range' (o+1) k).mapM (fun i=>DataW.trod enc P w base spare held fuel e ((cs.drop (i*P.cellsOf e)).take (P.cellsOf e)))with
   |none=>simp[h3,h4]at hx
   |some xs'=>
    simp[h3,h4]at hx
    subst hx
    simp only[List.map_cons,DataW.weightsAll,List.mem_append]at hm
    obtain⟨d1,c1,e1⟩:=ih _ _ _ _ hs h3 fun m hmm=>hm m (.inl hmm)
    obtain⟨d2,c2,e2⟩:=ihk (o+1) _ (by rw[←ho];congr 1;omega) h4 fun m hmm=>hm m (.inr hmm)
    refine⟨d1++d2,by rw[List.replicate_succ];exact .stc _ _ _ _ c1 c2,?_⟩
    have:cs.drop (o*P.cellsOf e)=(cs.drop (o*P.cellsOf e)).take (P.cellsOf e)++cs.drop ((o+1) *P.cellsOf e):=by
     rw[Nat.succ_mul,←List.drop_drop,List.take_append_drop]
    rw[this]
    exact e1.append e2
theorem qzW {s:Sh}{a:Addr}{len cap c:Nat}(hc:0<c)(hcap:len≤cap)
 (hel:∀i,i<len→∃dl ecs,w.cells? base (a.add (i*c)) c=some ecs∧HasC s dl∧Cells q1t (prW w) w dl ecs):
 ∃es:List (List D),es.length=len∧(∀x∈es,HasC s x)∧VR q1t (prW w) w (.lst (es.map (mkD s))) (.slice (some a) len cap):=by
 have pick:∀m,m≤len→∃es:List (List D),es.length=m∧∀i (hi:i<es.length),∃ecs,w.cells? base (a.add (i*c)) c=some ecs∧HasC s es[i]∧Cells q1t (prW w) w es[i] ecs:=by
  intro m
  induction m with
  |zero=>intro _;exact⟨[],rfl,fun i hi=>by simp at hi⟩
  |succ m ihm=>
   intro hm
   obtain⟨es,h1,h2⟩:=ihm (by omega)
   obtain⟨dl,ecs,g1,g2,g3⟩:=hel m (by omega)
   refine⟨es++[dl],by simp[h1],fun i hi=>?_⟩
   by_cases hlt:i<es.length
   ·rw[List.getElem_append_left hlt];exact h2 i hlt
   have:i=es.length:=by simp at hi;omega
   subst this
   simp only[List.getElem_append_right (Nat.le_refl _),Nat.sub_self,List.getElem_cons_zero]
   rw[h1]
   exact⟨ecs,g1,g2,g3⟩
 obtain⟨es,h1,h2⟩:=pick len (Nat.le_refl _)
 have hall:∀x∈es,HasC s x:=fun x hx=>by
  obtain⟨i,hi,rfl⟩:=List.mem_iff_getElem.1 hx
  obtain⟨_,_,g,_⟩:=h2 i hi
  exact g
 refine⟨es,h1,hall,?_⟩
 by_cases hl0:len=0
 ·subst hl0
  have:es=[]:=by simpa using h1
  subst this
  exact .lst0 _ _
 have hspot:a.spot=none:=by
  obtain⟨ecs,g1,_,_⟩:=h2 0 (by omega)
  obtain⟨e1,e2⟩:=cells?_spec g1
  have:=e2 0 hc (by omega)
  have hz:(a.add (0*c)).add 0=a:=by simp[Addr.add]
  rw[hz]at this
  exact(cell?_spot this).1
 obtain⟨b,o,sp⟩:=a
 simp only at hspot
 subst hspot
 have hlen:∀i (hi:i<es.length),(es[i]).length=c:=fun i hi=>by
  obtain⟨ecs,g1,_,g3⟩:=h2 i hi
  rw[g3.len,(cells?_spec g1).1]
 have hes:∀e∈es.map (mkD s),e.cells.length=c:=by
  intro e he
  obtain⟨x,hx,rfl⟩:=List.mem_map.1 he
  rw[qsP (hall x hx)]
  obtain⟨i,hi,rfl⟩:=List.mem_iff_getElem.1 hx
  exact hlen i hi
 have hfl:=q1m hes
 rw[List.length_map,h1]at hfl
 have cell:∀k (hk:k<(fl (es.map (mkD s))).length),∃v,w.cell? ⟨b,o+k,none⟩=some v∧VR q1t (prW w) w (fl (es.map (mkD s)))[k] v∧(fl (es.map (mkD s)))[k].one=true:=by
  intro k hk
  have hk':k<len*c:=by rw[←hfl];exact hk
  have hdiv:k/c<es.length:=by rw[h1];exact Nat.div_lt_of_lt_mul (by rw[Nat.mul_comm];exact hk')
  have hmod:k%c<c:=Nat.mod_lt _ hc
  have hkk:k/c*c+k%c=k:=by rw[Nat.mul_comm];exact Nat.div_add_mod k c
  obtain⟨ecs,g1,g2,g3⟩:=h2 (k/c) hdiv
  obtain⟨e1,e2⟩:=cells?_spec g1
  have hv:=e2 (k%c) hmod (by omega)
  rw[q43,q43,Nat.add_assoc,hkk]at hv
  have hget:(es.map (mkD s))[k/c]?=some (mkD s es[k/c]):=by simp[hdiv]
  have hg:=q7X hes hget (j:=k%c) hmod
  rw[hkk,qsP g2]at hg
  have hlt:k%c<es[k/c].length:=by rw[hlen _ hdiv];exact hmod
  rw[List.getElem?_eq_getElem hk,List.getElem?_eq_getElem hlt]at hg
  have hg':=Option.some.inj hg
  rw[hg']
  exact⟨_,hv,g3.vr _ hlt (by omega),g2.one _ (List.getElem_mem _)⟩
 have hfin:VR q1t (prW w) w (.lst (es.map (mkD s))) (.slice (some ⟨b,o,none⟩) (es.map (mkD s)).length cap):=by
  refine .lst _ b o cap c (fun k=>(w.cell? ⟨b,o+k,none⟩).getD undef) (fun e0=>by have:=congrArg List.length e0;rw[List.length_map,h1]at this;exact hl0 this) hes hc (by simp;omega) (fun k hk=>?_) (fun k hk=>?_) (fun x hx=>?_)
  ·obtain⟨v,g1,_,_⟩:=cell k hk
   simp only[g1,Option.getD_some,true_and]
   exact(cell?_spot g1).2
  ·obtain⟨v,g1,g2,_⟩:=cell k hk
   simp only[g1,Option.getD_some];exact g2
  obtain⟨k,hk,rfl⟩:=List.mem_iff_getElem.1 hx
  obtain⟨v,_,_,g3⟩:=cell k hk
  exact g3
 simpa[h1]using hfin
theorem one_cell {d:D}{v:Value}(hv:VR q1t (prW w) w d v)(h1:d.one=true):Cells q1t (prW w) w [d] [v]:=
 ⟨rfl,fun k h2 h3=>by
   have:k=0:=by simpa using h2
   subst this
   exact hv,by simpa using h1⟩
theorem qMq {e:TypeId}{d:DataW H}{m:Nat}(hm:m∈d.weights P e):∀{ds:List (DataW H)},d∈ds→m∈DataW.weightsAll P e ds
 |[],h=>by simp at h
 |d0::ds,h=>by
  rw[DataW.weightsAll,List.mem_append]
  rcases List.mem_cons.1 h with rfl|h
  ·exact .inl hm
  exact .inr (qMq hm h)
theorem read:∀(n:Nat) (t:TypeId) (s:Sh) (fuel:Nat) (cs:List Value) (x:DataW H×List MemPlace),qbR P n t=some s→DataW.trod enc P w base spare held fuel t cs=some x→(∀m∈x.1.weights P t,m≤reachBytes)→∃dl,HasC s dl∧Cells q1t (prW w) w dl cs:=by
 intro n
 induction n with
 |zero=>intro t s fuel cs x hs;simp[qbR]at hs
 |succ n ih=>
  intro t s fuel cs x hs ht hwt
  cases fuel with
  |zero=>simp[DataW.trod]at ht
  |succ fuel=>
   simp only[qbR]at hs
   split at hs
   ·rename_i hu
    cases hs
    rcases cs with _|⟨v,_|⟨v2,rest⟩⟩
    ·simp[DataW.trod,hu]at ht
    ·cases v<;>first|(simp[DataW.trod,hu]at ht;done) |exact⟨_,.bool _,one_cell (.bool _) rfl⟩
    simp[DataW.trod,hu]at ht
   ·rename_i k hu
    cases hs
    rcases cs with _|⟨v,_|⟨v2,rest⟩⟩
    ·simp[DataW.trod,hu]at ht
    ·cases v<;>first|(simp[DataW.trod,hu]at ht;done) |skip
     rename_i k' m
     simp only[DataW.trod,hu]at ht
     split at ht
     ·rename_i hc
      obtain⟨rfl,hwf⟩:=hc
      simp only[Lit.wf,Bool.and_eq_true,decide_eq_true_eq]at hwf
      exact⟨_,.int _ _ hwf,one_cell (.int _ _) rfl⟩
     cases ht
    simp[DataW.trod,hu]at ht
   ·rename_i hu
    cases hs
    rcases cs with _|⟨v,_|⟨v2,rest⟩⟩
    ·simp[DataW.trod,hu]at ht
    ·cases v<;>first|(simp[DataW.trod,hu]at ht;done) |skip
     simp only[DataW.trod,hu]at ht
     split at ht
     ·rename_i hc;exact⟨_,.str _ hc,one_cell (.str _) rfl⟩
     cases ht
    simp[DataW.trod,hu]at ht
   ·rename_i e hu
    split at hs
    ·rename_i hpos
     cases he:qbR P n e with
     |none=>simp[he]at hs
     |some se=>
      simp[he]at hs
      subst hs
      have hsl:(cs=[.slice none 0 0])∨∃a len cap,cs=[.slice (some a) len cap]:=by
       rcases cs with _|⟨v,_|⟨v2,rest⟩⟩
       ·simp[DataW.trod,hu]at ht
       ·cases v<;>first|(simp[DataW.trod,hu]at ht;done) |skip
        rename_i oa len cap
        cases oa with
        |some a=>exact .inr ⟨a,len,cap,rfl⟩
        |none=>
         match len,cap,ht with
         |0,0,_=>exact .inl rfl
         |0,_+1,ht=>simp[DataW.trod,hu]at ht
         |_+1,_,ht=>simp[DataW.trod,hu]at ht
       simp[DataW.trod,hu]at ht
      rcases hsl with rfl|⟨a,len,cap,rfl⟩
      ·exact⟨_,.sl se [] (by simp) (by simp) (by simp),one_cell (.lst0 _ _) rfl⟩
      simp only[DataW.trod,hu]at ht
      split at ht
      ·rename_i hc
       cases hm:(List.range len).mapM (fun i=>(w.cells? base (a.add (i*P.cellsOf e)) (P.cellsOf e)).bind (DataW.trod enc P w base spare held fuel e))with
       |none=>simp[hm]at ht
       |some elems=>
        obtain⟨q1,q2⟩:=q8q hm
        rw[List.length_range]at q1
        obtain⟨rest,hx1⟩:∃rest,x.1=.slice (elems.map (·.1)) rest:=by
         rw[hm]at ht
         simp only[Option.bind_some,Option.map_eq_some_iff]at ht
         obtain⟨r,_,rfl⟩:=ht
         exact⟨_,rfl⟩
        rw[hx1]at hwt
        simp only[DataW.weights,hu,List.mem_cons,List.mem_append]at hwt
        have hlen:len≤reachBytes:=by
         have h1:=hwt _ (.inl rfl)
         rw[List.length_map,q1]at h1
         exact Nat.le_trans (Nat.le_trans (Nat.le_add_right _ _) (Nat.le_mul_of_pos_right _ hpos.2)) h1
        obtain⟨es,r1,r2,r3⟩:=qzW (s:=se) hpos.1 hc.2.1 (fun i hi=>by
         have hie:i<elems.length:=by omega
         have:=q2 i (by simpa using hi) hie
         simp only[List.getElem_range]at this
         cases hcl:w.cells? base (a.add (i*P.cellsOf e)) (P.cellsOf e)with
         |none=>simp[hcl]at this
         |some ecs=>
          simp only[hcl,Option.bind_some]at this
          obtain⟨dl,g1,g2⟩:=ih _ _ _ _ _ he this fun m hm1=>hwt m (.inr (.inl (qMq hm1 (List.mem_map_of_mem (List.getElem_mem hie)))))
          exact⟨dl,ecs,rfl,g1,g2⟩)
        exact⟨_,.sl se es (by rw[r1];exact Nat.le_trans hc.2.1 hc.2.2) r2 (by rw[r1];exact hlen),one_cell r3 rfl⟩
      cases ht
    cases hs
   ·rename_i fs hu
    split at hs
    ·rename_i hoff
     cases hss:fs.toList.mapM (fun f=>qbR P n f.type)with
     |none=>simp[hss]at hs
     |some ss=>
      simp[hss]at hs
      subst hs
      simp only[DataW.trod,hu]at ht
      split at ht
      ·rename_i hlen
       cases hm:fs.toList.mapM (fun f=>DataW.trod enc P w base spare held fuel f.type ((cs.drop f.offset).take (P.cellsOf f.type)))with
       |none=>simp[hm]at ht
       |some xs=>
        rw[hm]at ht
        simp only[Option.map_some,Option.some.injEq]at ht
        subst ht
        simp only[DataW.weights,hu]at hwt
        obtain⟨dl,g1,g2⟩:=qwO (fun t s cs x h1 h2 h3=>ih t s fuel cs x h1 h2 h3) cs fs.toList 0 ss xs (by rw[hlen];exact hoff) hss hm hwt
        exact⟨dl,g1,by simpa using g2⟩
      cases ht
    cases hs
   ·rename_i k e hu
    split at hs
    ·rename_i hmul
     cases he:qbR P n e with
     |none=>simp[he]at hs
     |some se=>
      simp[he]at hs
      subst hs
      simp only[DataW.trod,hu]at ht
      split at ht
      ·rename_i hlen
       cases hm:(List.range k).mapM (fun i=>DataW.trod enc P w base spare held fuel e ((cs.drop (i*P.cellsOf e)).take (P.cellsOf e)))with
       |none=>simp[hm]at ht
       |some xs=>
        rw[hm]at ht
        simp only[Option.map_some,Option.some.injEq]at ht
        subst ht
        simp only[DataW.weights,hu]at hwt
        rw[List.range_eq_range']at hm
        obtain⟨dl,g1,g2⟩:=qzV (fun t s cs x h1 h2 h3=>ih t s fuel cs x h1 h2 h3) he cs k 0 xs (by rw[Nat.zero_add,hmul,hlen]) hm hwt
        exact⟨dl,g1,by simpa using g2⟩
      cases ht
    cases hs
   cases hs
theorem read_arg {n:Nat}{t:TypeId}{s:Sh}{v:Value}{d:DataW H}{ps:List MemPlace}(hs:qbR P n t=some s)(hv:(∃cs,v=.agg cs)↔∃fs,s=.st fs)(ht:DataW.Trod enc P w base spare held t v d ps)(hwt:∀m∈d.weights P t,m≤reachBytes):∃dl,HasC s dl∧VR q1t (prW w) w (mkD s dl) v:=by
 obtain⟨fuel,hf⟩:=ht
 obtain⟨dl,h1,h2⟩:=read n t s fuel _ _ hs hf hwt
 refine⟨dl,h1,?_⟩
 cases s with
 |st fs=>
  obtain⟨cs,rfl⟩:=hv.2 ⟨fs,rfl⟩
  simp only[mkD]
  refine .agg dl cs ?_ ?_ h1.one
  ·simpa[Value.cells]using h2.len
  intro k g1 g2;have:=h2.vr k g1 (by simpa[Value.cells]using g2);simpa[Value.cells]using this
 |_=>
  have hna:v.cells.toList=[v]:=by
   cases v<;>first|rfl|(exfalso;obtain⟨fs,hfs⟩:=hv.1 ⟨_,rfl⟩;cases hfs)
  rw[hna]at h2
  cases h1<;>exact h2.vr 0 (by simp) (by simp)
end
end Go.F
