/- Part 15. -/
import Derived.Test.YtglbdppmnchoeaaGreatZ14
set_option linter.all false
namespace Go.F
theorem DR (t:ai)(a:Option Tmp)(v:D)(d:Nat):put t a v d=if a=some d then v else t d:=by
 cases a with
 |none=>rfl
 |some x=>
  simp[put,qr];grind
theorem put_comm (t:ai){x y:Option Tmp}{v u:D}(h:∀d,x=some d->y≠some d):put (put t x v) y u=put (put t y u) x v:=by
 grind[DR]
theorem apart_spec {ops:Array Oper}{x y:Oper}(h:apart ops x y=true):
 (∀d,x.dst=some d->d∉looks ops y)/\(∀d,x.dst=some d->y.dst≠some d)/\(∀d,y.dst=some d->d∉looks ops x):=by
 simp[apart]at h;grind
theorem p4 {ops:Array Oper}{o:Oper}{t:ai}{a:Option Tmp}{v:D}(h:∀d,a=some d->d∉looks ops o):
 ∀d∈looks ops o,put t a v d=t d:=by
 grind[DR]
theorem CW {ops:Array Oper}{o:Oper}{t t':ai}(h:∀d∈looks ops o,t d=t' d):∀x∈o.op.operands,ev t x=ev t' x:=by
 intro x a;refine XP fun d b=>h d ?_;simp[looks];exact .inl ⟨x,by grind,by grind⟩
theorem J1 {ops:Array Oper}{o:Oper}{t t':ai}(h:∀d∈looks ops o,t d=t' d):wanted t ops o=wanted t' ops o:=by
 grind[wanted,looks]
theorem Yx {E:Env}{a:Bool}{o:Oper}{t t':ai}(h:∀x∈o.op.operands,ev t x=ev t' x):de E a o t=de E a o t':=by
 unfold de;cases d:o.op<;>simp only
 case call c=>
  rw[d]at h;simp only[Op.operands]at h;have h1:c.args.toList.map (ev t)=c.args.toList.map (ev t'):=E1 fun x e=>h x (by simp[Call.operands,Array.mem_toList_iff.1 e])
  cases g:c.callee with
  |value f=>
   have i:=h f (by simp[Call.operands,g]);grind
  |invoke r m=>rfl
  |builtin b=>rfl
def core (P:Program)(E:Env)(a:Bool)(b:Sp)(ops:Array Oper)(o:Oper)(i:Nat)(base:Nat)(s:St):Option (D×ab×Frz×Nat):=
 match wanted s.tmps ops o with
 |some true=>
  match de E a o s.tmps with
  |some (f,args)=>E.shar f args s.heap s.frz s.next
  |none=>
   match step P E.pure o s.tmps (cD a b ops base i o s.heap) (ju a b ops base i o s.frz) (base+i)with
   |some r=>some (r.v,aJ s.heap r.hp,aJ s.frz r.fz,s.next)
   |none=>none
 |some false=>some (.tup [],s.heap,s.frz,s.next)
 |none=>none
def fin (t:ai)(a:Option Tmp)(x:D×ab×Frz×Nat):St:=⟨put t a x.1,x.2.1,x.2.2.1,x.2.2.2⟩
variable {P:Program}{E:Env}{draw:Bool}{sp:Sp}{ops:Array Oper}{base:Nat}
theorem jn (o:Oper)(i:Nat)(s:St):one P E draw sp ops o i base s=(core P E draw sp ops o i base s).map (fin s.tmps o.dst):=by
 unfold one core
 match wanted s.tmps ops o with
 |none=>rfl
 |some false=>rfl
 |some true=>
  cases de E draw o s.tmps with
  |some x=>
   obtain⟨f,args⟩:=x;simp;cases E.shar f args s.heap s.frz s.next<;>rfl
  |none=>
   cases step P E.pure o s.tmps (cD draw sp ops base i o s.heap) (ju draw sp ops base i o s.frz) (base+i)<;>rfl
theorem M3 {o:Oper}{i:Nat}{s s':St}(a:∀d∈looks ops o,s.tmps d=s'.tmps d)(b:s.heap=s'.heap)(c:s.frz=s'.frz)(e:s.next=s'.next):
 core P E draw sp ops o i base s=core P E draw sp ops o i base s':=by
 unfold core;rw[J1 a,Yx (CW a),Lb (CW a),b,c,e]
theorem Vs {o:Oper}{t:ai}(h:mn E.shared o.op=false):de E true o t=none:=by
 grind[de,mn]
def act (P:Program)(E:Env)(draw:Bool)(sp:Sp)(ops:Array Oper)(o:Oper)(i:Nat)(base:Nat)(t:ai)(h:ab)(z:Frz):Option Out:=
 match wanted t ops o with
 |some true=>step P E.pure o t (cD draw sp ops base i o h) (ju draw sp ops base i o z) (base+i)
 |some false=>some (out (.tup []))
 |none=>none
theorem nS {o:Oper}{i:Nat}{s:St}(a:mn E.shared o.op=false):
 core P E true sp ops o i base s=(act P E true sp ops o i base s.tmps s.heap s.frz).map fun r=>(r.v,aJ s.heap r.hp,aJ s.frz r.fz,s.next):=by
 unfold core act;rw[Vs a];split
 grind
 .rfl
 rfl
theorem AO {o:Oper}{i:Nat}{t t':ai}{h:ab}{z:Frz}(a:∀d∈looks ops o,t d=t' d):
 act P E draw sp ops o i base t h z=act P E draw sp ops o i base t' h z:=by
 unfold act;rw[J1 a,Lb (CW a)]
theorem wr_rd {o:Op}(h:eG o=false):iV o=false:=by
 cases o<;>simp[eG,iV]at h⊢;grind
theorem Yi {o:Oper}{i:Nat}{h:ab}{id:Nat}(a:cD true sp ops base i o h id≠none):cO sp ops base i o id=true:=by
 grind[cD]
theorem S2 {o:Oper}{i:Nat}{h:ab}{id:Nat}(a:cO sp ops base i o id=true):aV (cD true sp ops base i o h) id=aV h id:=by
 grind[aV,cD]
theorem Bu {o:Oper}{i:Nat}{t:ai}{h:ab}{z:Frz}{r:Out}(hr:act P E true sp ops o i base t h z=some r):
 (∀p∈r.hp,(iV o.op=true/\cO sp ops base i o p.1=true)\/(gM o.op=true/\p.1=base+i))/\
 (∀p∈r.fz,(eG o.op=true/\p.2=aV h p.1/\cO sp ops base i o p.1=true)\/(gM o.op=true/\p.1=base+i)):=by
 unfold act at hr;split at hr
 .obtain⟨h1,a⟩:=PH hr;grind[Yi,S2]
 grind[out];grind
theorem Dt (i:Nat)(o:Oper){j:Nat}(e:j<ops.size):cO sp ops base i o (base+j)=nG sp ops i o j:=by
 unfold cO nG
 have nb:∀{a b:Nat},a≠b->Nat.beq a b=false:=by
  grind[Nat.eq_of_beq_eq_true]
 cases sp.lookup i with
 |some x=>
  cases x with
  |hide=>rfl
  |«at» d=>grind
  |but l=>
   have h1:Nat.blt (base+j) base=false:=by
    cases c:Nat.blt (base+j) base with
    |false=>rfl
    |true=>have:=zk c;omega
   have h3:Nat.ble (base+ops.size) (base+j)=false:=by
    cases c:Nat.ble (base+ops.size) (base+j)with
    |false=>rfl
    |true=>have:=zk c;omega
   grind
 |none=>
  cases mg ops i o with
  |some a=>
   by_cases h:j=a
   simp_all;grind
  |none=>
   have h1:Nat.blt (base+j) base=false:=by
    cases c:Nat.blt (base+j) base with
    |false=>rfl
    |true=>have:=zk c;omega
   have h3:Nat.ble (base+ops.size) (base+j)=false:=by
    cases c:Nat.ble (base+ops.size) (base+j)with
    |false=>rfl
    |true=>have:=zk c;omega
   grind
theorem BV {a b:Nat}(h:Nat.beq a b=true):a=b:=zl h
theorem Um {i a:Nat}{o:Oper}(h:mg ops i o=some a):a<ops.size:=by
 grind[mg]
theorem Cg {j i:Nat}{f g:Oper}(h:uq sp ops j f i g=false){id:Nat}(h1:cO sp ops base j f id=true):cO sp ops base i g id=false:=by
 unfold uq at h
 have c:∀{a:Nat} {l:List Nat} {id:Nat},l.any (Nat.beq a)=true->Nat.beq (id+a+1) base=true->(l.all fun d=>!Nat.beq (id+d+1) base)=false:=by
  grind[BV]
 cases k:sp.lookup j with
 |some x=>
  cases x with
  |hide=>grind[cO]
  |«at» a=>
   cases e:sp.lookup i with
   |none=>grind
   |some y=>
    cases y with
    |hide=>grind[cO]
    |«at» b=>
     grind[cO,BV,Nat.beq,Nat.beq_refl]
    |but l=>
     simp only[k,e,Bool.not_eq_false']at h;simp only[cO,k]at h1;simp[cO,e,c h h1]
  |but l=>
   cases e:sp.lookup i with
   |none=>grind
   |some y=>
    cases y with
    |hide=>grind[cO]
    |«at» a=>
     simp_all[cO]
    |but m=>grind
 |none=>
  grind[cO,BV,Dt,Um,nG]
theorem Bx {j i:Nat}{a b:Oper}(h:uq sp ops j a i b=false){id:Nat}(h1:cO sp ops base i b id=true):cO sp ops base j a id=false:=by
 grind[Cg]
theorem QZ {o:Oper}{i:Nat}{h:ab}{l:List (Nat×Option Blk)}(a:∀p∈l,cO sp ops base i o p.1=false):
 cD true sp ops base i o (aJ h l)=cD true sp ops base i o h:=by
 grind[cD,uW]
theorem UE {o:Oper}{i:Nat}{z:Frz}{l:List (Nat×Nat)}(a:∀p∈l,cO sp ops base i o p.1=false):
 ju true sp ops base i o (aJ z l)=ju true sp ops base i o z:=by
 grind[ju,uW]
theorem HE {x y:Oper}{j i:Nat}{t a:ai}{h:ab}{z:Frz}{r:Out}(hr:act P E true sp ops x j base a h z=some r)
 (c:iV x.op=true->eG y.op=true->∀id,cO sp ops base j x id=true->cO sp ops base i y id=false)
 (d:eG x.op=true->iV y.op=true->∀id,cO sp ops base j x id=true->cO sp ops base i y id=false)
 (e:gM x.op=true->nG sp ops i y j=false) (b:j<ops.size):
 act P E true sp ops y i base t (aJ h r.hp) (aJ z r.fz)=act P E true sp ops y i base t h z:=by
 grind[Bu,act,Fa,QZ,XO,UE,Dt]
theorem Nm {o:Oper}{i:Nat}{t:ai}{h h':ab}{z z':Frz}(a:jx o.op=true):act P E draw sp ops o i base t h z=act P E draw sp ops o i base t h' z':=by
 unfold act;simp[jx]at a;grind[Fa]
theorem FM {o:Oper}{i:Nat}{t:ai}{h:ab}{z:Frz}{r:Out}(a:jx o.op=true)(hr:act P E true sp ops o i base t h z=some r):r.hp=[]/\r.fz=[]:=by
 simp[jx]at a;obtain⟨h1,c⟩:=Bu hr;have d:=wr_rd a.1;constructor
 .cases b:r.hp with
  |nil=>rfl
  |cons p l=>grind
 cases b:r.fz with
 |nil=>rfl
 |cons p l=>grind
theorem KM {o:Op}{sh:FuncId->Bool}(h:jx o=true):mn sh o=false:=by
 simp[jx]at h;cases o<;>simp[mn];grind[eG]
theorem To {x y:Oper}{j i:Nat}{s f g:St}(d:jx x.op=true)(e:apart ops x y=true)
 (h1:one P E true sp ops x j base s=some f) (h:one P E true sp ops y i base f=some g):
 ∃a,one P E true sp ops y i base s=some a/\one P E true sp ops x j base a=some g:=by
 obtain⟨k,o,l⟩:=apart_spec e;have b:=KM (sh:=E.shared) d;rw[jn,nS b]at h1
 cases hr:act P E true sp ops x j base s.tmps s.heap s.frz with
 |none=>grind
 |some r=>
  obtain⟨m,n⟩:=FM d hr;rw[hr]at h1;simp[m,n,aJ,fin]at h1;subst h1;rw[jn]at h;rw[M3 (s:=⟨put s.tmps x.dst r.v,s.heap,s.frz,s.next⟩) (s':=s) (p4 k) rfl rfl rfl]at h
  cases p:core P E true sp ops y i base s with
  |none=>grind
  |some c=>
   refine⟨fin s.tmps y.dst c,by grind[jn],?_⟩;rw[jn,nS b]
   have:act P E true sp ops x j base (fin s.tmps y.dst c).tmps (fin s.tmps y.dst c).heap (fin s.tmps y.dst c).frz=some r:=by
    simp only[fin];rw[AO (t':=s.tmps) (p4 l),Nm d (h':=s.heap) (z':=s.frz)];omega
   grind[aJ,fin,put_comm]
theorem Xx {x y:Oper}{j i:Nat}{s h k:St}(d:jx y.op=true)(f:apart ops x y=true)
 (h1:one P E true sp ops x j base s=some h) (b:one P E true sp ops y i base h=some k):
 ∃a,one P E true sp ops y i base s=some a/\one P E true sp ops x j base a=some k:=by
 obtain⟨m,q,n⟩:=apart_spec f;have g:=KM (sh:=E.shared) d;rw[jn]at h1
 cases l:core P E true sp ops x j base s with
 |none=>grind
 |some c=>
  rw[l]at h1;simp at h1;subst h1;rw[jn,nS g]at b
  have e:act P E true sp ops y i base (fin s.tmps x.dst c).tmps (fin s.tmps x.dst c).heap (fin s.tmps x.dst c).frz=act P E true sp ops y i base s.tmps s.heap s.frz:=by
   simp only[fin];rw[AO (t':=s.tmps) (p4 m),Nm d (h':=s.heap) (z':=s.frz)]
  rw[e]at b
  cases hr:act P E true sp ops y i base s.tmps s.heap s.frz with
  |none=>grind
  |some r=>
   obtain⟨o,p⟩:=FM d hr;rw[hr]at b;simp[o,p,aJ]at b;refine⟨fin s.tmps y.dst (r.v,s.heap,s.frz,s.next),by grind[jn,nS,aJ],?_⟩;rw[jn,M3 (s:=fin s.tmps y.dst (r.v,s.heap,s.frz,s.next)) (s':=s) (p4 n) rfl rfl rfl,l];grind[fin,put_comm]
theorem swap {x y:Oper}{j i:Nat}{s t u:St}(A:j≠i)(l:j<ops.size)(m:i<ops.size)(d:tD E.shared sp ops j x i y=true)
 (h1:one P E true sp ops x j base s=some t) (w:one P E true sp ops y i base t=some u):
 ∃e,one P E true sp ops y i base s=some e/\one P E true sp ops x j base e=some u:=by
 simp only[tD,zJ,xH,Bool.and_eq_false_imp]at d;obtain⟨⟨⟨⟨⟨n,B⟩,C⟩,D⟩,f⟩,g⟩:=d;by_cases F:jx x.op=true
 grind[To];by_cases G:jx y.op=true
 grind[Xx]
 have h:mn E.shared x.op=false:=by
  grind
 have k:mn E.shared y.op=false:=by
  grind
 obtain⟨H,J,I⟩:=apart_spec n
 have a:∀{o p:Bool},o=true->p=true->((o=iV x.op/\p=eG y.op)\/(o=iV y.op/\p=eG x.op))->uq sp ops j x i y=false:=by
  grind
 rw[jn,nS h]at h1
 cases hr:act P E true sp ops x j base s.tmps s.heap s.frz with
 |none=>grind
 |some r=>
  rw[hr]at h1;simp[fin]at h1;subst h1;rw[jn,nS k]at w
  rw[AO (t':=s.tmps) (p4 H),
   HE hr (fun b c id=>Cg (a b c (.inl ⟨rfl,rfl⟩))) (fun b c id=>Cg (a c b (.inr ⟨rfl,rfl⟩))) f l]at w
  cases z:act P E true sp ops y i base s.tmps s.heap s.frz with
  |none=>grind
  |some q=>
   refine⟨⟨put s.tmps y.dst q.v,aJ s.heap q.hp,aJ s.frz q.fz,s.next⟩,by rw[jn,nS k,z];rfl,?_⟩;rw[jn,nS h]
   rw[AO (t':=s.tmps) (p4 I),
    HE z (fun b c id=>Bx (a b c (.inr ⟨rfl,rfl⟩))) (fun b c id=>Bx (a c b (.inl ⟨rfl,rfl⟩))) g m,hr]
   grind[fin,put_comm,Bu,Pe,wr_rd,Bx,Dt]
end Go.F
