/- Parts of the proof, part 9: Ops5. -/
import Derived.Test.YtakaifogljbgoaaGreatZ8
set_option linter.all false
namespace Go.F
open Go.RowKit (Below)
variable {P:Program}{c:Ctx}{m:Map}{pr:q1x}{h hr:q0e}{z zr:Frz}{w:World}
theorem qBg {es:List D}{n i:Nat}{v:D}(hes:∀e∈es,e.cells.length=n)(hi:i<es.length):
 fl (es.set i v)=(fl es).take (i*n)++v.cells++(fl es).drop (i*n+n):=by
 rw[List.set_eq_take_append_cons_drop,if_pos hi,q71]
 have:fl (v::es.drop (i+1))=v.cells++fl (es.drop (i+1)):=by simp[fl]
 rw[this,qcd hes,qjr hes,List.append_assoc,Nat.succ_mul]
theorem Cells.ofRow {es:List D}{n:Nat}{C:Array Value}(hr:RowIn m pr w es n C)(hsz:(fl es).length=C.size):Cells m pr w (fl es) C.toList:=
 ⟨by simpa using hsz,fun k h1 h2=>by simp only[Array.getElem_toList];exact hr.2.2.2.1 _ _ _,hr.2.2.2.2⟩
theorem Cells.toRow {es:List D}{n:Nat}{C:Array Value}{rest:List Value}{l:List Value}(hc:Cells m pr w (fl es) l)(hC:C.toList=l++rest)(h0:0<n)(hes:∀e∈es,e.cells.length=n):RowIn m pr w es n C:=by
 have hsz:C.size=l.length+rest.length:=by rw[←Array.length_toList,hC];simp
 refine⟨h0,hes,by rw[hc.len,hsz];omega,fun k hk hk'=>?_,hc.one⟩
 have hkl:k<l.length:=by rw[←hc.len];exact hk
 have:C[k]=l[k]:=by
  have e1:C.toList[k]'(by simpa using hk')=l[k]:=by simp only[hC];rw[List.getElem_append_left hkl]
  simpa using e1
 rw[this]
 exact hc.vr k hk hkl
theorem qqL {t:q0z}{ρ:Operand→Value}(hρ:qqH m pr w t ρ){n:Nat}:∀(parts:List (Nat×Operand)) (es:List D) (C:Array Value) (es':List D),(∀e∈es,e.cells.length=n)→Cells m pr w (fl es) C.toList→
 q3g t n es parts=some es'→(∀e∈es',e.cells.length=n)∧es'.length=es.length∧∃C':Array Value,Instr.fill (fun i=>some (i*n,n)) C (parts.map fun p=>(p.1,ρ p.2))=some C'∧Cells m pr w (fl es') C'.toList:=by
 intro parts
 induction parts with
 |nil=>intro es C es' hes hc hf;simp[q3g]at hf;subst hf;exact⟨hes,rfl,C,rfl,hc⟩
 |cons p parts ih=>
  obtain⟨i,x⟩:=p
  intro es C es' hes hc hf
  simp only[q3g]at hf
  split at hf
  ·rename_i hcond
   obtain⟨h1,h2,h3⟩:=hcond
   have hv:=(hρ x).toCells h3
   have hlen:(ρ x).cells.size=n:=by rw[←Array.length_toList,←hv.len,h1]
   have hC:(fl es).length=C.size:=by simpa using hc.len
   have hfl:=q1m hes
   have hle:i*n+n≤es.length*n:=by
    have:(i+1) *n≤es.length*n:=Nat.mul_le_mul_right _ h2
    rwa[Nat.succ_mul]at this
   have hes2:∀e∈es.set i (ev t x),e.cells.length=n:=by
    intro e he
    rcases List.mem_or_eq_of_mem_set he with he|rfl
    ·exact hes e he
    exact h1
   simp only[List.map_cons,Instr.fill]
   have hcond':((ρ x).cells.size≠n||i*n+(ρ x).cells.size>C.size)=false:=by
    simp[hlen];omega
   simp only[hcond',Bool.false_eq_true,if_false]
   have hsp:=qbD (ρ x).cells.toList C (i*n) 0 (by simp;omega)
   simp only[Nat.add_zero,Array.length_toList,hlen]at hsp
   obtain⟨g1,g2,C',g3,g4⟩:=ih (es.set i (ev t x)) (((ρ x).cells.zipIdx).foldl (fun cs x=>cs.setIfInBounds (i*n+x.2) x.1) C) es' hes2 (by
    rw[←Array.foldl_toList,Array.toList_zipIdx,hsp,qBg hes h2]
    exact(hc.take _|>.append hv).append (hc.drop _)) hf
   exact⟨g1,by simpa using g2,C',g3,g4⟩
  cases hf
theorem qqM {id:Nat}{t:q0z}{ρ:Operand→Value}{ty e:TypeId}{len n:Nat}{parts:Array (Nat×Operand)}{d:D}{es:List D}(H:HR c m h z w)(hid:m id=none)(hρ:qqH m (Pr c m h z) w t ρ)
 (he:elemOf P ty=some e) (hn:sizeOf P e=some n) (hz:zeroOf P e=some d) (h0:0<n) (hlim:len*n≤2^24) (hd:d.cells.length=n) (hs:d.sto=true) (hf:q3g t n (List.replicate len d) parts.toList=some es):
 Sim c m h z w id (newRow id es n (.ref id 0 len)) ((do pure (Next.value (←Instr.buildSlice ty len (parts.map fun(i,x)=>(i,ρ x)))):Sem Next).run P w):=by
 obtain⟨i,v,hi,hv,rfl⟩:=q2Z hz
 subst hd
 have hrow:=RowIn.replicate (n:=len) (N:=len*(q59 v).cells.length) (q4J (m:=m) (pr:=Pr c m h z) (w:=w) v) hs h0 (Nat.le_refl _)
 have hu:∀x∈List.replicate len (q59 v),x.cells.length=(q59 v).cells.length:=fun x hx=>by rw[List.eq_of_mem_replicate hx]
 have hc:=Cells.ofRow hrow (by rw[q1m hu];simp)
 obtain⟨g1,g2,C',g3,g4⟩:=qqL hρ parts.toList _ _ es hu hc hf
 have hsize:C'.size=len*(q59 v).cells.length:=by
  have:=g4.len
  rw[q1m g1,g2]at this
  simpa using this.symm
 refine Sim.row (t:=e) (C:=C') (w':=w.alloc (.cells C' e)) H hid (Cells.toRow g4 (rest:=[]) (by simp) h0 g1) rfl rfl rfl rfl (u:=.slice (some ⟨w.heap.size,0,none⟩) len len) ?_
  (VR.newRef _ (heap_alloc_new w _) (by rw[hsize];exact Nat.le_refl _) (Nat.le_refl _))
 have hlim':¬(len*(q59 v).cells.length>2^24):=by omega
 simp only[Sem.run_bind,Instr.buildSlice,q0b (q3n he),Result.andThen_ok,q0M hn,hlim',if_false,Sem.run_pure]
 by_cases hz0:len*(q59 v).cells.length=0
 ·skip
  simp only[hz0,if_true]
  simp only[hz0]at g3
  have e0:(Array.range 0).map (fun x=>(#[]:Array Value)[x%(#[]:Array Value).size]!)=(Array.range 0).map (v.cells[· %v.cells.size]!):=by simp
  rw[Sem.run_bind,Sem.run_pure,Result.andThen_ok,e0,Array.toList_map,g3]
  simp[Go.newRow]
 simp only[hz0,if_false,Sem.run_bind,q2f hi hv,Result.andThen_ok,Sem.run_pure]
 rw[Array.toList_map,g3]
 simp[Go.newRow]
def OptVR (m:Map)(pr:q1x)(w:World):Option D→Option Value→Prop
 |none,none=>True
 |some d,some v=>VR m pr w d v
 |_,_=>False
theorem qqN {t:q0z}{ρ:Operand→Value}(hρ:qqH m pr w t ρ)(x:Option Operand):OptVR m pr w (q9z t x) (x.map ρ):=by
 cases x with
 |none=>trivial
 |some x=>exact hρ x
theorem run_sliceBound {d:D}{v:Value}{n y:Nat}{code:BoundsCode}(hv:VR m pr w d v)(hn:qeE d=some n)(hy:n≤y):(Instr.sliceBound v y code).run P w=.ok n w:=by
 obtain⟨k,rfl⟩:=q72 hv hn
 have:(0:Int)≤(n:Int)∧(n:Int)≤(y:Int):=by omega
 simp[Instr.sliceBound,asIntOf,this]
theorem OptVR.parts {x:Option D}{v:Option Value}(h:OptVR m pr w x v):(x=none∧v=none)∨∃d u,x=some d∧v=some u∧VR m pr w d u:=by
 cases x with
 |none=>
  cases v with
  |none=>exact .inl ⟨rfl,rfl⟩
  |some u=>exact h.elim
 |some d=>
  cases v with
  |none=>exact h.elim
  |some u=>exact .inr ⟨d,u,rfl,rfl,h⟩
theorem q2Q {isSlice:Bool}{len cap a b:Nat}{lo hi:Option D}{vlo vhi:Option Value}(h1:OptVR m pr w lo vlo)(h2:OptVR m pr w hi vhi)(ha:bound lo 0=some a)(hb:bound hi len=some b)(hab:a≤b)(hbc:b≤cap):
 (Instr.sliceBounds isSlice len cap vlo vhi none).run P w=.ok (a,b,cap) w:=by
 rcases h1.parts with⟨rfl,rfl⟩ |⟨dl,ul,rfl,rfl,v1⟩<;>rcases h2.parts with⟨rfl,rfl⟩ |⟨dh,uh,rfl,rfl,v2⟩
 ·simp[bound]at ha hb;subst ha;subst hb;simp[Instr.sliceBounds]
 ·simp only[bound,Option.some.injEq]at ha hb;subst ha
  simp[Instr.sliceBounds,run_sliceBound v2 hb hbc]
 ·simp only[bound,Option.some.injEq]at ha hb;subst hb
  simp[Instr.sliceBounds,run_sliceBound v1 ha hab]
 simp only[bound]at ha hb
 simp[Instr.sliceBounds,run_sliceBound v1 ha hab,run_sliceBound v2 hb hbc]
theorem q4Z {len cap:Nat}{lo hi mx:Option D}{vlo vhi vmx:Option Value}(h1:OptVR m pr w lo vlo)(h2:OptVR m pr w hi vhi)(h3:OptVR m pr w mx vmx)(ha:bound lo 0=some 0)(hb:bound hi len=some 0)
 (hm:∃d,mx=some d∧qxp hi d=true):
 (Instr.sliceBounds true len cap vlo vhi vmx).run P w=.ok (0,0,0) w:=by
 obtain⟨d,rfl,hcut⟩:=hm
 have hlen:hi=none→False:=fun e=>by subst e;simp[qxp]at hcut
 have hd:qeE d=some 0:=by
  unfold qxp at hcut
  split at hcut
  ·assumption
  cases hcut
 cases vmx with
 |none=>simp[OptVR]at h3
 |some vm=>
  simp only[OptVR]at h3
  cases hi with
  |none=>exact absurd rfl hlen
  |some dh=>
   cases vhi with
   |none=>simp[OptVR]at h2
   |some vh=>
    simp only[OptVR]at h2
    simp only[bound]at hb
    cases lo with
    |none=>
     cases vlo with
     |none=>simp[Instr.sliceBounds,run_sliceBound h3 hd (Nat.zero_le cap),run_sliceBound h2 hb (Nat.le_refl 0)]
     |some _=>simp[OptVR]at h1
    |some dl=>
     cases vlo with
     |none=>simp[OptVR]at h1
     |some vl=>
      simp only[OptVR]at h1
      simp only[bound]at ha
      simp[Instr.sliceBounds,run_sliceBound h3 hd (Nat.zero_le cap),run_sliceBound h2 hb (Nat.le_refl 0),run_sliceBound h1 ha (Nat.le_refl 0)]
theorem q11 {t:TypeId}{d:TypeDesc}(hu:P.underlying t=some d)(hd:∀n e,d≠ .array n e)(x:Value)(lo hi mx:Option Value):
 (Instr.sliceAt t x lo hi mx).run P w=(Instr.slice t x lo hi mx).run P w:=by
 simp only[Instr.sliceAt,Sem.run_bind,q0b hu,Result.andThen_ok]
theorem qsn (n:Nat)(ag:Bool):∀(k:Nat) (cs:List D),(chunks n ag k cs).length=k:=by
 intro k
 induction k with
 |zero=>intro cs;rfl
 |succ k ih=>intro cs;simp[chunks,ih]
theorem qEC {n:Nat}{ag:Bool}(h0:0<n)(hag:ag=true∨n=1):∀(k:Nat) (cs:List D),k*n≤cs.length→(∀e∈cs,e.one=true)→
 fl (chunks n ag k cs)=cs.take (k*n)∧∀e∈chunks n ag k cs,e.cells.length=n:=by
 intro k
 induction k with
 |zero=>intro cs _ _;simp[chunks,fl]
 |succ k ih=>
  intro cs hle hone
  rw[Nat.succ_mul]at hle
  obtain⟨i1,i2⟩:=ih (cs.drop n) (by simp;omega) (fun e he=>hone e (List.mem_of_mem_drop he))
  have hhead:(if ag then D.agg (cs.take n)else cs.headD .bad).cells=cs.take n∧(cs.take n).length=n:=by
   refine⟨?_,by simp;omega⟩
   cases ag with
   |true=>rfl
   |false=>
    have hn:n=1:=by rcases hag with h|h;cases h;exact h
    subst hn
    cases cs with
    |nil=>simp at hle
    |cons x cs=>
     have hx:=hone x (List.mem_cons_self ..)
     simp only[Bool.false_eq_true,if_false,List.headD_cons,List.take_succ_cons,List.take_zero]
     cases x<;>first|rfl|(simp[D.one]at hx)
  constructor
  ·have:fl (chunks n ag (k+1) cs)=(if ag then D.agg (cs.take n)else cs.headD .bad).cells++fl (chunks n ag k (cs.drop n)):=by simp[chunks,fl]
   rw[this,hhead.1,i1,Nat.succ_mul,Nat.add_comm,List.take_add]
  intro e he
  simp only[chunks]at he
  rcases List.mem_cons.1 he with rfl|he
  ·rw[hhead.1];exact hhead.2
  exact i2 e he
theorem Sim.frozen {id:Nat}{d:D}{l:List (Nat×Nat)}{v:Value}{res:Result Next}(H:HR c m h z w)(hl:∀p∈l,p.2=q0t h p.1)(hres:res=.ok (.value v) w)(hv:VR m (Pr c m h (q0A z l)) w d v):
 Sim c m h z w id ⟨d,[],l⟩ res:=
 ⟨.value v,w,m,hres,.inl ⟨v,rfl,hv⟩,H.freeze hl,Ev.freeze H hl,fun _ _=>rfl,Below.refl _ _⟩
theorem qED {id:Nat}{ty:TypeId}{x:D}{v:Value}{lo hi mx:Option D}{vlo vhi vmx:Option Value}{r:Out}(H:HR c m h z w)(hs:Sub hr h)(hx:VR m (Pr c m h z) w x v)
 (h1:OptVR m (Pr c m h z) w lo vlo) (h2:OptVR m (Pr c m h z) w hi vhi) (h3:OptVR m (Pr c m h z) w mx vmx) (hd:q7i P hr ty x lo hi mx=some r):
 Sim c m h z w id r ((do pure (Next.value (←Instr.sliceAt ty v vlo vhi vmx)):Sem Next).run P w):=by
 have fin:∀{d:D} {u:Value},(Instr.sliceAt ty v vlo vhi vmx).run P w=.ok u w→VR m (Pr c m h z) w d u→Sim c m h z w id (out d) ((do pure (Next.value (←Instr.sliceAt ty v vlo vhi vmx)):Sem Next).run P w):=
  fun hr hv=>Sim.val H (by simp[hr]) hv
 unfold q7i at hd
 split at hd
 ·rename_i s hu
  cases hx
  split at hd
  ·rename_i l r' ha hb
   split at hd
   ·rename_i hc
    simp at hd;subst hd
    rcases h3.parts with⟨_,rfl⟩ |⟨d,u,e,_⟩
    ·refine fin (u:=.string (s.extract l r')) ?_ (.str _)
     rw[q11 hu (by simp)]
     simp[Instr.slice,q0b hu,q2Q h1 h2 ha hb hc.1 hc.2]
    cases e
   cases hd
  cases hd
 ·rename_i e hu
  split at hd
  ·cases hd
  rename_i n hn
  cases hx with
  |nilsl a=>
   have go:(Instr.sliceBounds true 0 0 vlo vhi vmx).run P w=.ok (0,0,0) w→r=out .nilsl→Sim c m h z w id r ((do pure (Next.value (←Instr.sliceAt ty (.slice a 0 0) vlo vhi vmx)):Sem Next).run P w):=by
    rintro hrun rfl
    refine fin (u:=.slice a 0 0) ?_ (.nilsl a)
    rw[q11 hu (by simp)]
    simp[Instr.slice,q0b hu,hrun,q0M hn]
   split at hd
   ·rename_i ha hb
    simp at hd
    rcases h3.parts with⟨_,rfl⟩ |⟨d,u,e',_⟩
    ·exact go (q2Q h1 h2 ha hb (Nat.le_refl 0) (Nat.le_refl 0)) hd.symm
    cases e'
   ·rename_i mm ha hb
    split at hd
    ·rename_i hcut
     simp at hd
     exact go (q4Z h1 h2 h3 ha hb ⟨mm,rfl,hcut⟩) hd.symm
    cases hd
   cases hd
 ·rename_i e l hu
  split at hd
  ·cases hd
  rename_i n hn
  split at hd
  ·rename_i hall
   rw[List.all_eq_true]at hall
   split at hd
   ·rename_i a b ha hb
    split at hd
    ·rename_i hab
     simp at hd;subst hd
     rcases h3.parts with⟨_,rfl⟩ |⟨d,u,e',_⟩
     ·have hlen:((l.drop a).take (b-a)).length=b-a:=by simp;omega
      cases hx with
      |lst0 a0 cap=>
       have hb0:b=0:=by simpa using hab.2
       have ha0:a=0:=by omega
       subst hb0;subst ha0
       refine fin (u:=.slice a0 0 cap) ?_ (.lst0 _ _)
       rw[q11 hu (by simp)]
       have hbnd:=q2Q (P:=P) (isSlice:=true) (len:=0) (cap:=cap) h1 h2 ha hb hab.1 (Nat.zero_le _)
       simp only[Instr.slice,Sem.run_bind,q0b hu,Result.andThen_ok,hbnd,q0M hn,Sem.run_pure]
       cases a0 with
       |none=>simp
       |some x=>simp[Addr.add]
      |lst _ b0 o cap esz cv hne hes hpos hcap hcl hv hone=>
       have hesz:esz=n:=by
        cases l with
        |nil=>exact absurd rfl hne
        |cons x xs=>
         have e1:=hes x (List.mem_cons_self ..)
         have e2:=hall x (List.mem_cons_self ..)
         simp at e2;omega
       subst hesz
       have hbnd:=q2Q (P:=P) (isSlice:=true) (cap:=cap) h1 h2 ha hb hab.1 (Nat.le_trans hab.2 hcap)
       by_cases hemp:b-a=0
       ·have hnil:(l.drop a).take (b-a)=[]:=by rw[hemp];simp
        rw[hnil]
        refine fin (u:=.slice (some (if cap=a then⟨b0,o,none⟩else⟨b0,o+a*esz,none⟩)) 0 (cap-a)) ?_ (.lst0 _ _)
        rw[q11 hu (by simp)]
        simp only[Instr.slice,Sem.run_bind,q0b hu,Result.andThen_ok,hbnd,q0M hn,Sem.run_pure,hemp]
        by_cases hca:cap=a<;>simp[hca,q43]
       refine fin (u:=.slice (some ⟨b0,o+a*esz,none⟩) ((l.drop a).take (b-a)).length (cap-a)) ?_ ?_
       ·rw[q11 hu (by simp),hlen]
        have hca:¬cap=a:=by omega
        simp only[Instr.slice,Sem.run_bind,q0b hu,Result.andThen_ok,hbnd,q0M hn,Sem.run_pure,hca,if_false]
        simp[q43]
       have hfl:fl ((l.drop a).take (b-a))=((fl l).drop (a*esz)).take ((b-a) *esz):=by
        rw[qcd (fun x hx=>hes x (List.mem_of_mem_drop hx)),qjr hes]
       have hlt:∀k,k<(fl ((l.drop a).take (b-a))).length→a*esz+k<(fl l).length:=by
        intro k hk;rw[hfl]at hk;simp at hk;omega
       refine .lst _ b0 (o+a*esz) (cap-a) esz (fun k=>cv (a*esz+k)) (fun e0=>by rw[e0]at hlen;simp at hlen;omega)
        (fun x hx=>hes x (List.mem_of_mem_drop (List.mem_of_mem_take hx))) hpos (by omega) (fun k hk=>?_) (fun k hk=>?_) (fun x hx=>?_)
       ·rw[Nat.add_assoc];exact hcl _ (hlt k hk)
       ·have:(fl ((l.drop a).take (b-a)))[k]=(fl l)[a*esz+k]'(hlt k hk):=by simp only[hfl,List.getElem_take,List.getElem_drop]
        rw[this];exact hv _ _
       rw[hfl]at hx;exact hone x (List.mem_of_mem_drop (List.mem_of_mem_take hx))
     cases e'
    cases hd
   ·rename_i mm ha hb
    split at hd
    ·rename_i hcut
     simp at hd;subst hd
     have hsl:∃ao cap,v=.slice ao l.length cap:=by
      cases hx with
      |lst0 a0 cap=>exact⟨_,_,rfl⟩
      |lst _ b0 o cap esz cv=>exact⟨_,_,rfl⟩
     obtain⟨ao,cap,rfl⟩:=hsl
     refine fin (u:=.slice ao 0 0) ?_ (.nilsl _)
     rw[q11 hu (by simp)]
     simp[Instr.slice,q0b hu,q4Z (cap:=cap) h1 h2 h3 ha hb ⟨mm,rfl,hcut⟩,q0M hn]
    cases hd
   cases hd
  cases hd
 ·rename_i e id0 off len hu
  split at hd
  ·rename_i es esz n hb0 hn
   split at hd
   ·rename_i hesz;subst hesz
    cases hx with
    |vnil _ a0=>
     split at hd
     ·rename_i a b ha hb
      split at hd
      ·rename_i hab
       rcases h3.parts with⟨_,rfl⟩ |⟨d,u,e',_⟩
       ·have hbnd:=q2Q (P:=P) (isSlice:=true) (cap:=0) h1 h2 ha hb hab.1 (by omega)
        have hb0':b=0:=by omega
        have ha0':a=0:=by omega
        subst hb0' ha0'
        simp at hd;subst hd
        refine fin (u:=.slice a0 0 0) ?_ (.vnil _ _)
        rw[q11 hu (by simp)]
        cases a0 with
        |none=>simp[Instr.slice,q0b hu,hbnd,q0M hn]
        |some a1=>simp[Instr.slice,q0b hu,hbnd,q0M hn]
       cases e'
      cases hd
     ·rename_i mm ha hb
      split at hd
      ·rename_i hcut
       simp at hd;subst hd
       refine fin (u:=.slice a0 0 0) ?_ (.nilsl _)
       rw[q11 hu (by simp)]
       simp[Instr.slice,q0b hu,q4Z (cap:=0) h1 h2 h3 ha hb ⟨mm,rfl,hcut⟩,q0M hn]
      cases hd
     cases hd
    |ref _ _ _ b0 esz' cap C t f hm hw' hcap hlen=>
     obtain⟨b',C',t',g1,g2,g3,g4⟩:=H.rowR (hs _ _ hb0) hm
     rw[g1]at hm;cases hm
     rw[g3]at hw';cases hw'
     split at hd
     ·rename_i a b ha hb
      split at hd
      ·rename_i hab
       rcases h3.parts with⟨_,rfl⟩ |⟨d,u,e',_⟩
       ·have hbnd:=q2Q (P:=P) (isSlice:=true) (cap:=cap) h1 h2 ha hb hab.1 (Nat.le_trans hab.2 hlen)
        split at hd
        ·rename_i ha0;subst ha0
         simp at hd;subst hd
         refine fin (u:=.slice (some ⟨b0,off*esz,none⟩) b cap) ?_ (.ref _ _ _ _ _ _ C t _ g1 g3 hcap (by omega))
         rw[q11 hu (by simp)]
         simp only[Instr.slice,Sem.run_bind,q0b hu,Result.andThen_ok,hbnd,q0M hn,Sem.run_pure]
         simp[q43]
        rename_i ha0
        split at hd
        ·rename_i hab0;subst hab0
         simp at hd;subst hd
         refine fin (u:=.slice (some (if cap=a then⟨b0,off*esz,none⟩else⟨b0,off*esz+a*esz,none⟩)) 0 (cap-a)) ?_ (.lst0 _ _)
         rw[q11 hu (by simp)]
         simp only[Instr.slice,Sem.run_bind,q0b hu,Result.andThen_ok,hbnd,q0M hn,Sem.run_pure,Nat.sub_self]
         by_cases hca:cap=a<;>simp[hca,q43]
        rename_i hne
        simp at hd;subst hd
        refine fin (u:=.slice (some ⟨b0,(off+a) *esz,none⟩) (b-a) (cap-a)) ?_ (.ref _ _ _ _ _ _ C t _ g1 g3 ?_ (by omega))
        ·rw[q11 hu (by simp)]
         have hca:¬cap=a:=by omega
         simp only[Instr.slice,Sem.run_bind,q0b hu,Result.andThen_ok,hbnd,q0M hn,Sem.run_pure,hca,if_false]
         simp[q43,Nat.add_mul]
        rw[show off+a+(cap-a)=off+cap by omega];exact hcap
       cases e'
      cases hd
     ·rename_i mm ha hb
      split at hd
      ·rename_i hcut
       simp at hd;subst hd
       refine fin (u:=.slice (some ⟨b0,off*esz,none⟩) 0 0) ?_ (.nilsl _)
       rw[q11 hu (by simp)]
       simp[Instr.slice,q0b hu,q4Z (cap:=cap) h1 h2 h3 ha hb ⟨mm,rfl,hcut⟩,q0M hn]
      cases hd
     cases hd
   cases hd
  cases hd
 ·rename_i n e id0 i o hu
  split at hd
  ·rename_i cs o' ag k hc hag hk
   split at hd
   ·rename_i hcond
    obtain⟨c1,c2,c3,c4⟩:=hcond
    simp at hd;subst hd
    have ho':o'=o:=by
     simp only[q4T]at hc
     split at hc
     ·cases he:(‹List D›)[i]? with
      |none=>simp[he]at hc
      |some x=>simp[he]at hc;exact hc.2.symm
     cases hc
    subst ho'
    obtain⟨b,o1,f,hv,f1,f2⟩:=qce H hs hx hc
    obtain⟨b2,esz2,hm2,hv2⟩:∃b2 esz2,m id0=some (b2,esz2)∧v=.pointer (some ⟨b2,i*esz2+o',none⟩):=by
     cases hx with
     |ptr _ _ _ b2 esz2 hm=>exact⟨b2,esz2,hm,rfl⟩
    subst hv
    simp at hv2
    have hrow:∃es esz,hr id0=some (.row es esz)∧∃e0,es[i]?=some e0∧cs=e0.cells:=by
     simp only[q4T]at hc
     split at hc
     ·rename_i es esz hb0
      cases he:es[i]? with
      |none=>simp[he]at hc
      |some x=>simp[he]at hc;exact⟨es,esz,hb0,x,he,hc.symm⟩
     cases hc
    obtain⟨es,esz,hb0,e0,he0,rfl⟩:=hrow
    obtain⟨b',C,t,g1,g2,g3,g4⟩:=H.rowR (hs _ _ hb0) hm2
    have hfz:∀p∈[(id0,q0t hr id0)],p.2=q0t h p.1:=by
     intro p hp;simp at hp;subst hp;simp[q0t,hb0,hs _ _ hb0]
    have e1:b2=b'∧esz2=esz:=by rw[g1]at hm2;simp at hm2;exact⟨hm2.1.symm,hm2.2.symm⟩
    obtain⟨e1a,e1b⟩:=e1
    have hb':b=b'∧o1=i*esz:=⟨hv2.1.trans e1a,by rw[←e1b];omega⟩
    obtain⟨rfl,rfl⟩:=hb'
    have hlive:∀j,j<e0.cells.length→Pr c m h (q0A z [(id0,q0t hr id0)]) b (i*esz+j):=by
     intro j hj
     refine .inr ⟨g2,fun⟨id',esz',w1,w2,w3⟩=>?_⟩
     have hidd:id'=id0:=H.inj id' id0 _ _ w2 (by rw[hs _ _ hb0];simp) w1 g1 rfl
     subst hidd
     rw[g1]at w1;cases w1
     simp only[q0A,upd_same]at w3
     have hlen:q0t hr id'=es.length:=by simp[q0t,hb0]
     rw[hlen]at w3
     have hi:i<es.length:=(List.getElem?_eq_some_iff.1 he0).1
     have he:e0.cells.length=esz:=g4.2.1 e0 (List.mem_of_getElem? he0)
     have:(i+1) *esz≤es.length*esz:=Nat.mul_le_mul_right _ hi
     rw[Nat.succ_mul]at this
     omega
    have hone:∀x∈e0.cells.drop o',x.one=true:=fun x hx=>f2 x (List.mem_of_mem_drop hx)
    obtain⟨q1,q2⟩:=qEC (n:=k) (ag:=ag) c1 c3 n (e0.cells.drop o') (by simp;omega) hone
    have hlen:=qsn k ag n (e0.cells.drop o')
    have hrun:(Instr.sliceAt ty (.pointer (some ⟨b,i*esz+o',none⟩)) none none none).run P w=.ok (.slice (some ⟨b,i*esz+o',none⟩) n n) w:=by
     have hbnd:=q2Q (P:=P) (w:=w) (m:=m) (pr:=Pr c m h z) (isSlice:=false) (len:=n) (cap:=n) (lo:=none) (hi:=none) (vlo:=none) (vhi:=none) trivial trivial rfl rfl (Nat.zero_le _) (Nat.le_refl n)
     simp only[Instr.sliceAt,Sem.run_bind,q0b hu,Result.andThen_ok,Instr.sureAddr,Sem.run_pure,hbnd,q0M hk]
     simp[q43]
    have hvl:vlo=none∧vhi=none∧vmx=none:=by
     refine⟨?_,?_,?_⟩
     ·rcases h1.parts with⟨_,e'⟩ |⟨_,_,e',_⟩
      ·exact e'
      cases e'
     ·rcases h2.parts with⟨_,e'⟩ |⟨_,_,e',_⟩
      ·exact e'
      cases e'
     rcases h3.parts with⟨_,e'⟩ |⟨_,_,e',_⟩
     ·exact e'
     cases e'
    obtain⟨rfl,rfl,rfl⟩:=hvl
    refine Sim.frozen H hfz (v:=.slice (some ⟨b,i*esz+o',none⟩) n n) (by simp[hrun]) ?_
    by_cases hn0:n=0
    ·subst hn0;exact .lst0 _ _
    have hfl:(fl (chunks k ag n (e0.cells.drop o'))).length=n*k:=by rw[q1];simp;omega
    have hgoal:VR m (Pr c m h (q0A z [(id0,q0t hr id0)])) w (.lst (chunks k ag n (e0.cells.drop o'))) (.slice (some ⟨b,i*esz+o',none⟩) (chunks k ag n (e0.cells.drop o')).length n):=by
     refine .lst _ b (i*esz+o') n k (fun j=>f (o'+j)) (fun e1=>by rw[e1]at hlen;simp at hlen;omega) q2 c1 (by omega) (fun j hj=>?_) (fun j hj=>?_) (fun x hx=>?_)
     ·rw[hfl]at hj
      have hj':o'+j<e0.cells.length:=by omega
      rw[Nat.add_assoc]
      exact⟨(f1 (o'+j) hj').1,hlive _ hj'⟩
     ·rw[hfl]at hj
      have hj':o'+j<e0.cells.length:=by omega
      have:(fl (chunks k ag n (e0.cells.drop o')))[j]=e0.cells[o'+j]:=by simp only[q1,List.getElem_take,List.getElem_drop]
      rw[this]
      exact((f1 (o'+j) hj').2).scalar (List.all_eq_true.1 c4 _ (List.getElem_mem _))
     rw[q1]at hx;exact hone x (List.mem_of_mem_take hx)
    rw[hlen]at hgoal
    exact hgoal
   cases hd
  cases hd
 cases hd
end Go.F
