/- Parts of the proof, part 15: Swap. -/
import Derived.Test.YtakaifogljbgoaaGreatZ3
set_option linter.all false
namespace Go.F
theorem ql1 (t:q0z)(dst:Option Tmp)(v:D)(d:Nat):put t dst v d=if dst=some d then v else t d:=by
 cases dst with
 |none=>simp[put]
 |some x=>
  simp only[put,q8h,Option.some.injEq]
  by_cases h:d=x
  ·simp[h]
  have h':¬x=d:=fun e=>h e.symm
  simp[h,h']
theorem put_comm (t:q0z){x y:Option Tmp}{v u:D}(h:∀d,x=some d→y≠some d):put (put t x v) y u=put (put t y u) x v:=by
 funext d
 simp only[ql1]
 by_cases h1:x=some d<;>by_cases h2:y=some d<;>simp[h1,h2]
 exact absurd h2 (h d h1)
theorem apart_spec {ops:Array Oper}{x y:Oper}(h:apart ops x y=true):
 (∀d,x.dst=some d→d∉looks ops y)∧(∀d,x.dst=some d→y.dst≠some d)∧(∀d,y.dst=some d→d∉looks ops x):=by
 simp only[apart,Bool.and_eq_true]at h
 obtain⟨h1,h2⟩:=h
 refine⟨fun d hd=>?_,fun d hd=>?_,fun d hd=>?_⟩
 ·simp[hd]at h1;exact h1.1
 ·simp[hd]at h1;exact h1.2
 simp[hd]at h2;exact h2
theorem q8r {ops:Array Oper}{o:Oper}{t:q0z}{dst:Option Tmp}{v:D}(h:∀d,dst=some d→d∉looks ops o):
 ∀d∈looks ops o,put t dst v d=t d:=by
 intro d hd
 rw[ql1]
 split
 ·rename_i e;exact absurd hd (h d e)
 rfl
theorem qfj {ops:Array Oper}{o:Oper}{t t':q0z}(h:∀d∈looks ops o,t d=t' d):∀x∈o.op.operands,ev t x=ev t' x:=by
 intro x hx
 refine qFU fun d hd=>h d ?_
 simp only[looks,List.mem_append,List.mem_filterMap]
 exact .inl ⟨x,by simpa using hx,by simp[hd]⟩
theorem qjU {ops:Array Oper}{o:Oper}{t t':q0z}(h:∀d∈looks ops o,t d=t' d):wanted t ops o=wanted t' ops o:=by
 unfold wanted
 cases hg:o.guard with
 |none=>rfl
 |some g=>
  obtain⟨j,want⟩:=g
  simp only
  cases hd:(ops[j]?).bind (·.dst)with
  |none=>rfl
  |some d=>
   simp only
   rw[h d (by simp[looks,hg,hd])]
theorem qhF {E:Env}{o:Oper}{t t':q0z}(h:∀x∈o.op.operands,ev t x=ev t' x):q13 E o t=q13 E o t':=by
 unfold q13
 cases hop:o.op<;>simp only
 case call c=>
  rw[hop]at h
  simp only[Op.operands]at h
  have h1:c.args.toList.map (ev t)=c.args.toList.map (ev t'):=q87 fun x hx=>h x (by simp[Call.operands,Array.mem_toList_iff.1 hx])
  rw[h1]
def core (P:Program)(E:Env)(draw:Bool)(sp:Sp)(ops:Array Oper)(o:Oper)(i:Nat)(base:Nat)(s:St):Option (D×q0e×Frz×Nat):=
 match wanted s.tmps ops o with
 |some true=>
  match q13 E o s.tmps with
  |some (f,args)=>E.shar f args s.heap s.frz s.next
  |none=>
   match step P E.pure o s.tmps (q20 draw sp ops base i o s.heap) (q6p draw sp ops base i o s.frz) (base+i)with
   |some r=>some (r.v,q0A s.heap r.hp,q0A s.frz r.fz,s.next)
   |none=>none
 |some false=>some (.tup [],s.heap,s.frz,s.next)
 |none=>none
def fin (t:q0z)(dst:Option Tmp)(x:D×q0e×Frz×Nat):St:=⟨put t dst x.1,x.2.1,x.2.2.1,x.2.2.2⟩
variable {P:Program}{E:Env}{draw:Bool}{sp:Sp}{ops:Array Oper}{base:Nat}
theorem q4h (o:Oper)(i:Nat)(s:St):one P E draw sp ops o i base s=(core P E draw sp ops o i base s).map (fin s.tmps o.dst):=by
 unfold one core
 match wanted s.tmps ops o with
 |none=>rfl
 |some false=>rfl
 |some true=>
  simp only
  cases q13 E o s.tmps with
  |some x=>
   obtain⟨f,args⟩:=x
   simp only
   cases E.shar f args s.heap s.frz s.next<;>rfl
  |none=>
   simp only
   cases step P E.pure o s.tmps (q20 draw sp ops base i o s.heap) (q6p draw sp ops base i o s.frz) (base+i)<;>rfl
theorem qrm {o:Oper}{i:Nat}{s s':St}(ht:∀d∈looks ops o,s.tmps d=s'.tmps d)(hh:s.heap=s'.heap)(hz:s.frz=s'.frz)(hn:s.next=s'.next):
 core P E draw sp ops o i base s=core P E draw sp ops o i base s':=by
 unfold core
 rw[qjU ht,qhF (qfj ht),qpf (qfj ht),hh,hz,hn]
theorem qjV {o:Oper}{t:q0z}(h:q4E E.shared o.op=false):q13 E o t=none:=by
 unfold q13
 cases hop:o.op<;>simp only
 case call c=>
  rw[hop]at h
  cases hc:c.callee with
  |value f=>
   cases f with
   |func f=>simp[q4E,hc]at h;simp[h]
   |tmp t=>rfl
   |const v=>rfl
   |global g=>rfl
  |invoke r m=>rfl
  |builtin b=>rfl
def act (P:Program)(E:Env)(draw:Bool)(sp:Sp)(ops:Array Oper)(o:Oper)(i:Nat)(base:Nat)(t:q0z)(h:q0e)(z:Frz):Option Out:=
 match wanted t ops o with
 |some true=>step P E.pure o t (q20 draw sp ops base i o h) (q6p draw sp ops base i o z) (base+i)
 |some false=>some (out (.tup []))
 |none=>none
theorem q7O {o:Oper}{i:Nat}{s:St}(hs:q4E E.shared o.op=false):
 core P E draw sp ops o i base s=(act P E draw sp ops o i base s.tmps s.heap s.frz).map fun r=>(r.v,q0A s.heap r.hp,q0A s.frz r.fz,s.next):=by
 unfold core act
 rw[qjV hs]
 split
 ·cases step P E.pure o s.tmps (q20 draw sp ops base i o s.heap) (q6p draw sp ops base i o s.frz) (base+i)<;>rfl
 ·rfl
 rfl
theorem qfT {o:Oper}{i:Nat}{t t':q0z}{h:q0e}{z:Frz}(ht:∀d∈looks ops o,t d=t' d):
 act P E draw sp ops o i base t h z=act P E draw sp ops o i base t' h z:=by
 unfold act
 rw[qjU ht,qpf (qfj ht)]
theorem wr_rd {o:Op}(h:q6B o=false):qeF o=false:=by
 cases o<;>simp[q6B,qeF]at h⊢
 rename_i c
 cases hc:c.callee with
 |value f=>simp[hc]at h
 |invoke r m=>simp
 |builtin b=>cases b<;>simp[hc]at h⊢
theorem q9w {o:Oper}{i:Nat}{h:q0e}{id:Nat}(hne:q20 true sp ops base i o h id≠none):q4U sp ops base i o id=true:=by
 simp only[q20]at hne
 cases hk:q4U sp ops base i o id with
 |true=>rfl
 |false=>simp[hk]at hne
theorem qnR {o:Oper}{i:Nat}{h:q0e}{id:Nat}(hk:q4U sp ops base i o id=true):q0t (q20 true sp ops base i o h) id=q0t h id:=by
 simp[q0t,q20,hk]
theorem qo5 {o:Oper}{i:Nat}{t:q0z}{h:q0e}{z:Frz}{r:Out}(hr:act P E true sp ops o i base t h z=some r):
 (∀p∈r.hp,(qeF o.op=true∧q4U sp ops base i o p.1=true)∨(qdn o.op=true∧p.1=base+i))∧
 (∀p∈r.fz,(q6B o.op=true∧p.2=q0t h p.1∧q4U sp ops base i o p.1=true)∨(qdn o.op=true∧p.1=base+i)):=by
 unfold act at hr
 split at hr
 ·obtain⟨h1,h2⟩:=qFW hr
  exact⟨fun p hp=>(h1 p hp).imp (fun x=>⟨x.1,q9w x.2⟩) id,fun p hp=>(h2 p hp).imp (fun x=>⟨x.1,x.2.1.trans (qnR (q9w x.2.2)),q9w x.2.2⟩) id⟩
 ·simp at hr;subst hr;simp[out]
 cases hr
theorem q6z (i:Nat)(o:Oper){j:Nat}(hj:j<ops.size):q4U sp ops base i o (base+j)=qmK sp ops i o j:=by
 unfold q4U qmK
 have nb:∀{a b:Nat},a≠b→Nat.beq a b=false:=by
  intro a b h
  cases hb:Nat.beq a b with
  |false=>rfl
  |true=>exact absurd (Nat.eq_of_beq_eq_true hb) h
 cases sp.lookup i with
 |some x=>
  cases x with
  |none=>rfl
  |some d=>exact nb (by omega)
 |none=>
  simp only
  cases q7R ops i o with
  |some a=>
   simp only
   by_cases h:j=a
   ·subst h;simp
   rw[nb (show base+j≠base+a by omega),nb h]
  |none=>
   have h1:Nat.blt (base+j) base=false:=by
    cases hb:Nat.blt (base+j) base with
    |false=>rfl
    |true=>have:=Nat.le_of_ble_eq_true hb;omega
   have h2:base+j-base=j:=by omega
   have h3:Nat.ble (base+ops.size) (base+j)=false:=by
    cases hb:Nat.ble (base+ops.size) (base+j)with
    |false=>rfl
    |true=>have:=Nat.le_of_ble_eq_true hb;omega
   simp only[h1,h2,h3,Bool.false_or,Bool.or_false]
theorem qrn {a b:Nat}(h:Nat.beq a b=true):a=b:=Nat.eq_of_beq_eq_true h
theorem ql2 {i a:Nat}{o:Oper}(h:q7R ops i o=some a):a<ops.size:=by
 unfold q7R at h
 split at h
 ·have:=List.find?_some h
  split at this
  ·rename_i x hx;exact(Array.getElem?_eq_some_iff.1 hx).1
  cases this
 ·split at h
  ·have:=List.find?_some h
   split at this
   ·rename_i x hx;exact(Array.getElem?_eq_some_iff.1 hx).1
   cases this
  cases h
 cases h
theorem qaC {j i:Nat}{oj oi:Oper}(h:qfC sp ops j oj i oi=false){id:Nat}(h1:q4U sp ops base j oj id=true):q4U sp ops base i oi id=false:=by
 unfold qfC at h
 cases sj:sp.lookup j with
 |some x=>
  cases x with
  |none=>simp[q4U,sj]at h1
  |some a=>
   cases si:sp.lookup i with
   |none=>simp[sj,si]at h
   |some y=>
    cases y with
    |none=>simp[q4U,si]
    |some b=>
     simp only[sj,si]at h
     simp only[q4U,sj]at h1
     simp only[q4U,si]
     have:=qrn h1
     cases hb:Nat.beq (id+b+1) base with
     |false=>rfl
     |true=>
      have:=qrn hb
      have e:a=b:=by omega
      subst e
      rw[Nat.beq_refl]at h;cases h
 |none=>
  cases si:sp.lookup i with
  |some y=>
   cases y with
   |none=>simp[q4U,si]
   |some b=>simp[sj,si]at h
  |none=>
   simp only[sj,si]at h
   cases hj:q7R ops j oj with
   |some a=>
    cases hi:q7R ops i oi with
    |some b=>
     simp only[hj,hi]at h
     simp only[q4U,sj,hj]at h1
     have:=qrn h1;subst this
     rw[q6z _ _ (ql2 hj)];simpa[qmK,si,hi]using h
    |none=>
     simp only[hj,hi]at h
     simp only[q4U,sj,hj]at h1
     have:=qrn h1;subst this
     rw[q6z _ _ (ql2 hj)];exact h
   |none=>
    cases hi:q7R ops i oi with
    |some b=>
     simp only[hj,hi]at h
     cases hk:q4U sp ops base i oi id with
     |false=>rfl
     |true=>
      simp only[q4U,si,hi]at hk
      have:=qrn hk;subst this
      rw[q6z _ _ (ql2 hi)]at h1;rw[h1]at h;cases h
    |none=>simp[hj,hi]at h
theorem q9x {j i:Nat}{oj oi:Oper}(h:qfC sp ops j oj i oi=false){id:Nat}(h1:q4U sp ops base i oi id=true):q4U sp ops base j oj id=false:=by
 cases hk:q4U sp ops base j oj id with
 |false=>rfl
 |true=>rw[qaC h hk]at h1;cases h1
theorem qsH {o:Oper}{i:Nat}{h:q0e}{l:List (Nat×Option Blk)}(hl:∀p∈l,q4U sp ops base i o p.1=false):
 q20 true sp ops base i o (q0A h l)=q20 true sp ops base i o h:=by
 funext id
 simp only[q20]
 cases hk:q4U sp ops base i o id with
 |false=>rfl
 |true=>
  rw[q5G]
  intro p hp e
  rw[←e,hl p hp]at hk
  cases hk
theorem qsI {o:Oper}{i:Nat}{z:Frz}{l:List (Nat×Nat)}(hl:∀p∈l,q4U sp ops base i o p.1=false):
 q6p true sp ops base i o (q0A z l)=q6p true sp ops base i o z:=by
 funext id
 simp only[q6p]
 cases hk:q4U sp ops base i o id with
 |false=>rfl
 |true=>
  rw[q5G]
  intro p hp e
  rw[←e,hl p hp]at hk
  cases hk
theorem qdj {x y:Oper}{j i:Nat}{t tx:q0z}{h:q0e}{z:Frz}{r:Out}(hr:act P E true sp ops x j base tx h z=some r)
 (hw:qeF x.op=true→q6B y.op=true→∀id,q4U sp ops base j x id=true→q4U sp ops base i y id=false)
 (hz:q6B x.op=true→qeF y.op=true→∀id,q4U sp ops base j x id=true→q4U sp ops base i y id=false)
 (ha:qdn x.op=true→qmK sp ops i y j=false) (hjs:j<ops.size):
 act P E true sp ops y i base t (q0A h r.hp) (q0A z r.fz)=act P E true sp ops y i base t h z:=by
 obtain⟨h1,h2⟩:=qo5 hr
 unfold act
 split
 ·cases hrd:q6B y.op with
  |false=>exact qev hrd
  |true=>
   rw[qsH]
   ·cases hwr:qeF y.op with
    |false=>exact quJ hwr
    |true=>
     rw[qsI]
     intro p hp
     rcases h2 p hp with⟨a,_,c⟩ |⟨a,b⟩
     ·exact hz a hwr _ c
     rw[b,q6z _ _ hjs];exact ha a
   intro p hp
   rcases h1 p hp with⟨a,c⟩ |⟨a,b⟩
   ·exact hw a hrd _ c
   rw[b,q6z _ _ hjs];exact ha a
 ·rfl
 rfl
theorem qHR {o:Oper}{i:Nat}{t:q0z}{h h':q0e}{z z':Frz}(hp:qnq o.op=true):act P E draw sp ops o i base t h z=act P E draw sp ops o i base t h' z':=by
 unfold act
 simp only[qnq,Bool.and_eq_true,Bool.not_eq_true']at hp
 split
 ·exact qev hp.1
 ·rfl
 rfl
theorem qro {o:Oper}{i:Nat}{t:q0z}{h:q0e}{z:Frz}{r:Out}(hp:qnq o.op=true)(hr:act P E true sp ops o i base t h z=some r):r.hp=[]∧r.fz=[]:=by
 simp only[qnq,Bool.and_eq_true,Bool.not_eq_true']at hp
 obtain⟨h1,h2⟩:=qo5 hr
 have hw:=wr_rd hp.1
 constructor
 ·cases hl:r.hp with
  |nil=>rfl
  |cons p l=>rcases h1 p (by simp[hl])with⟨a,_⟩ |⟨a,_⟩<;>simp_all
 cases hl:r.fz with
 |nil=>rfl
 |cons p l=>rcases h2 p (by simp[hl])with⟨a,_⟩ |⟨a,_⟩<;>simp_all
theorem qul {o:Op}{sh:FuncId→Bool}(h:qnq o=true):q4E sh o=false:=by
 simp only[qnq,Bool.and_eq_true,Bool.not_eq_true']at h
 cases o<;>simp[q4E]
 rename_i c
 cases hc:c.callee with
 |value f=>simp[q6B,hc]at h
 |invoke r m=>simp
 |builtin b=>simp
theorem qJb {x y:Oper}{j i:Nat}{s s1 s2:St}(hp:qnq x.op=true)(hap:apart ops x y=true)
 (h1:one P E true sp ops x j base s=some s1) (h2:one P E true sp ops y i base s1=some s2):
 ∃s1',one P E true sp ops y i base s=some s1'∧one P E true sp ops x j base s1'=some s2:=by
 obtain⟨a1,a2,a3⟩:=apart_spec hap
 have hst:=qul (sh:=E.shared) hp
 rw[q4h,q7O hst]at h1
 cases hr:act P E true sp ops x j base s.tmps s.heap s.frz with
 |none=>rw[hr]at h1;simp at h1
 |some r=>
  obtain⟨e1,e2⟩:=qro hp hr
  rw[hr]at h1
  simp only[Option.map_some,Option.some.injEq,e1,e2,q0A,fin]at h1
  subst h1
  rw[q4h]at h2
  rw[qrm (s:=⟨put s.tmps x.dst r.v,s.heap,s.frz,s.next⟩) (s':=s) (q8r a1) rfl rfl rfl]at h2
  cases hc:core P E true sp ops y i base s with
  |none=>rw[hc]at h2;simp at h2
  |some c=>
   rw[hc]at h2
   simp only[Option.map_some,Option.some.injEq,fin]at h2
   refine⟨fin s.tmps y.dst c,by rw[q4h,hc];rfl,?_⟩
   rw[q4h,q7O hst]
   have:act P E true sp ops x j base (fin s.tmps y.dst c).tmps (fin s.tmps y.dst c).heap (fin s.tmps y.dst c).frz=some r:=by
    simp only[fin]
    rw[qfT (t':=s.tmps) (q8r a3),qHR hp (h':=s.heap) (z':=s.frz)];exact hr
   rw[this]
   simp only[Option.map_some,e1,e2,q0A,fin,Option.some.injEq]
   rw[←h2,put_comm s.tmps (x:=y.dst) (y:=x.dst) (fun d hd e=>a2 d e hd)]
theorem qHS {x y:Oper}{j i:Nat}{s s1 s2:St}(hp:qnq y.op=true)(hap:apart ops x y=true)
 (h1:one P E true sp ops x j base s=some s1) (h2:one P E true sp ops y i base s1=some s2):
 ∃s1',one P E true sp ops y i base s=some s1'∧one P E true sp ops x j base s1'=some s2:=by
 obtain⟨a1,a2,a3⟩:=apart_spec hap
 have hst:=qul (sh:=E.shared) hp
 rw[q4h]at h1
 cases hc:core P E true sp ops x j base s with
 |none=>rw[hc]at h1;simp at h1
 |some c=>
  rw[hc]at h1
  simp only[Option.map_some,Option.some.injEq]at h1
  subst h1
  rw[q4h,q7O hst]at h2
  have e:act P E true sp ops y i base (fin s.tmps x.dst c).tmps (fin s.tmps x.dst c).heap (fin s.tmps x.dst c).frz=act P E true sp ops y i base s.tmps s.heap s.frz:=by
   simp only[fin]
   rw[qfT (t':=s.tmps) (q8r a1),qHR hp (h':=s.heap) (z':=s.frz)]
  rw[e]at h2
  cases hr:act P E true sp ops y i base s.tmps s.heap s.frz with
  |none=>rw[hr]at h2;simp at h2
  |some r=>
   obtain⟨e1,e2⟩:=qro hp hr
   rw[hr]at h2
   simp only[Option.map_some,Option.some.injEq,e1,e2,q0A,fin]at h2
   refine⟨fin s.tmps y.dst (r.v,s.heap,s.frz,s.next),by rw[q4h,q7O hst,hr];simp[e1,e2,q0A],?_⟩
   rw[q4h,qrm (s:=fin s.tmps y.dst (r.v,s.heap,s.frz,s.next)) (s':=s) (q8r a3) rfl rfl rfl,hc]
   simp only[Option.map_some,fin,Option.some.injEq]
   rw[←h2,put_comm s.tmps (x:=y.dst) (y:=x.dst) (fun d hd e=>a2 d e hd)]
theorem swap {x y:Oper}{j i:Nat}{s s1 s2:St}(hji:j≠i)(hjs:j<ops.size)(his:i<ops.size)(hin:qxs E.shared sp ops j x i y=true)
 (h1:one P E true sp ops x j base s=some s1) (h2:one P E true sp ops y i base s1=some s2):
 ∃s1',one P E true sp ops y i base s=some s1'∧one P E true sp ops x j base s1'=some s2:=by
 simp only[qxs,Bool.and_eq_true,Bool.not_eq_true',Bool.and_eq_false_imp,Bool.or_eq_false_iff]at hin
 obtain⟨⟨⟨⟨⟨hap,hs1⟩,hs2⟩,hov⟩,hal1⟩,hal2⟩:=hin
 by_cases hpx:qnq x.op=true
 ·exact qJb hpx hap h1 h2
 by_cases hpy:qnq y.op=true
 ·exact qHS hpy hap h1 h2
 have hsx:q4E E.shared x.op=false:=by
  cases h:q4E E.shared x.op with
  |false=>rfl
  |true=>have:=hs1 h;simp at this;exact absurd this hpy
 have hsy:q4E E.shared y.op=false:=by
  cases h:q4E E.shared y.op with
  |false=>rfl
  |true=>have:=hs2 h;simp at this;exact absurd this hpx
 obtain⟨a1,a2,a3⟩:=apart_spec hap
 have hxy:∀{w1 w2:Bool},w1=true→w2=true→((w1=qeF x.op∧w2=q6B y.op)∨(w1=qeF y.op∧w2=q6B x.op))→qfC sp ops j x i y=false:=by
  intro w1 w2 e1 e2 h
  cases hv:qfC sp ops j x i y with
  |false=>rfl
  |true=>
   obtain⟨p,q⟩:=hov hv
   rcases h with⟨rfl,rfl⟩ |⟨rfl,rfl⟩
   ·rw[p e1]at e2;cases e2
   rw[q e1]at e2;cases e2
 rw[q4h,q7O hsx]at h1
 cases hr:act P E true sp ops x j base s.tmps s.heap s.frz with
 |none=>rw[hr]at h1;simp at h1
 |some r=>
  rw[hr]at h1
  simp only[Option.map_some,Option.some.injEq,fin]at h1
  subst h1
  rw[q4h,q7O hsy]at h2
  simp only at h2
  rw[qfT (t':=s.tmps) (q8r a1),
   qdj hr (fun e1 e2 id=>qaC (hxy e1 e2 (.inl ⟨rfl,rfl⟩))) (fun e1 e2 id=>qaC (hxy e2 e1 (.inr ⟨rfl,rfl⟩))) hal1 hjs]at h2
  cases hq:act P E true sp ops y i base s.tmps s.heap s.frz with
  |none=>rw[hq]at h2;simp at h2
  |some q=>
   rw[hq]at h2
   simp only[Option.map_some,Option.some.injEq,fin]at h2
   refine⟨⟨put s.tmps y.dst q.v,q0A s.heap q.hp,q0A s.frz q.fz,s.next⟩,by rw[q4h,q7O hsy,hq];rfl,?_⟩
   rw[q4h,q7O hsx]
   simp only
   rw[qfT (t':=s.tmps) (q8r a3),
    qdj hq (fun e1 e2 id=>q9x (hxy e1 e2 (.inr ⟨rfl,rfl⟩))) (fun e1 e2 id=>q9x (hxy e2 e1 (.inl ⟨rfl,rfl⟩))) hal2 his,hr]
   simp only[Option.map_some,fin,Option.some.injEq]
   rw[←h2,put_comm s.tmps (x:=y.dst) (y:=x.dst) (fun d hd e=>a2 d e hd)]
   obtain⟨f1,f2⟩:=qo5 hr
   obtain⟨g1,g2⟩:=qo5 hq
   have eh:q0A (q0A s.heap q.hp) r.hp=q0A (q0A s.heap r.hp) q.hp:=by
    refine qmI _ _ _ fun p hp' p' hp''=> .inl fun e=>?_
    rcases g1 p hp' with⟨b1,b2⟩ |⟨b1,b2⟩<;>rcases f1 p' hp'' with⟨c1,c2⟩ |⟨c1,c2⟩
    ·have hrd:q6B x.op=true:=by
      cases hx:q6B x.op with
      |true=>rfl
      |false=>rw[wr_rd hx]at c1;cases c1
     rw[←e,q9x (hxy b1 hrd (.inr ⟨rfl,rfl⟩)) b2]at c2;cases c2
    ·rw[e,c2,q6z _ _ hjs,hal1 c1]at b2;cases b2
    ·rw[←e,b2,q6z _ _ his,hal2 b1]at c2;cases c2
    omega
   have ez:q0A (q0A s.frz q.fz) r.fz=q0A (q0A s.frz r.fz) q.fz:=by
    refine qmI _ _ _ fun p hp' p' hp''=>?_
    rcases g2 p hp' with⟨b1,b3,b2⟩ |⟨b1,b2⟩<;>rcases f2 p' hp'' with⟨c1,c3,c2⟩ |⟨c1,c2⟩
    ·by_cases e:p.1=p'.1
     ·exact .inr (by rw[b3,c3,e])
     exact .inl e
    ·refine .inl fun e=>?_
     rw[e,c2,q6z _ _ hjs,hal1 c1]at b2;cases b2
    ·refine .inl fun e=>?_
     rw[←e,b2,q6z _ _ his,hal2 b1]at c2;cases c2
    refine .inl fun e=>?_
    omega
   rw[eh,ez]
end Go.F
