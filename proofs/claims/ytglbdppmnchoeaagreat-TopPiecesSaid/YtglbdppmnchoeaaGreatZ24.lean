/- Part 24. -/
import Derived.Test.YtglbdppmnchoeaaGreatZ23
set_option linter.all false
namespace Go.F
section
variable {T:Tab}{sh:Shr}{nx0:Nat}{s:List Fr}{t:ai}{h:ab}{z:Frz}{nx:Nat}{q:Ex->ai->ab->Frz->Nat->Prop}
variable {base i:Nat}{res:List Nat}{dst:Nat}{g:Gd}{rest:List KOper}
theorem KE {n:Int}{i:Nat}{k:Nat->Prop}(a:n=i)(b:k i):wnat n k:=by subst a;exact b
theorem uB {d:D}{a:IntKind}{n:Int}{i:Nat}{k:Nat->Prop}(b:d=.int a n)(c:n=i)(e:k i):jY d k:=by subst b;exact KE c e
theorem lj {n:Nat}{es:List D}{k:List D->Prop}(h:es.all (fun d=>d.cells.length==n)=true)(a:k es):wall n es k:=by grind[wall]
theorem nc {n:Nat}{es:List D}{off len:Nat}{k:List D->Prop}(h:off+len<=es.length)(a:((es.drop off).take len).all (fun d=>d.cells.length==n)=true)(b:k ((es.drop off).take len)):r9 n es off len k:=by grind[r9]
theorem cg {x a:X}{l:List D}{b:IntKind}{n:Int}{sz:Nat}(k:Nat){d:D}(c:x.ev t=.lst l)(hi:a.ev t=.int b n)(e:n=k)(f:l[k]?=some d)(j:(Nat.beq d.cells.length sz&&Nat.blt 0 sz)=true)
 (m:wpM T sh nx0 (.ops base res rest::s) .normal (upd t dst (.pl d 0)) h z nx q):
 wpM T sh nx0 (.ops base res (⟨i,some dst,none,g,.ixs sz x a⟩::rest)::s) .normal t h z nx q:=by
 refine bP ?_;simp[kop,c];refine uB hi e (nD f ?_);rw[jy,j];exact m
theorem aA {x a:X}{id off len:Nat}{es:List D}{esz sz:Nat}{b:IntKind}{n:Int}(k:Nat)(c:x.ev t=.ref id off len)(hr:g.h base h id=some (.row es esz))(d:Nat.beq esz sz=true)(hi:a.ev t=.int b n)(e:n=k)(f:k<len)
 (j:wpM T sh nx0 (.ops base res rest::s) .normal (upd t dst (.ptr id (off+k) 0)) h z nx q):
 wpM T sh nx0 (.ops base res (⟨i,some dst,none,g,.ixs sz x a⟩::rest)::s) .normal t h z nx q:=by
 refine bP ?_;simp only[kop,kixs,c,hr,d];exact uB hi e (dC f j)
theorem aQ {b ag:Bool}{n:Nat}{a:X}{id k o:Nat}{es:List D}{esz:Nat}{e d:D}(c:a.ev t=.ptr id k o)(hr:g.h base h id=some (.row es esz))(f:es[k]?=some e)(j:rC ag n e o=some d)
 (l:wpM T sh nx0 (.ops base res rest::s) .normal (upd t dst d) h z nx q):
 wpM T sh nx0 (.ops base res (⟨i,some dst,none,g,.load b ag n a⟩::rest)::s) .normal t h z nx q:=by
 refine bP ?_;simp only[kop,oH,c,hr];exact nD f (BE j l)
theorem VH:∀{es:List D} {i:Nat} {e:D} {f:D->(D->Prop)->Prop} {c:List D->Prop},es[i]?=some e->f e (fun y=>c (es.set i y))->kset es i f c:=by
 intro es
 induction es with
 |nil=>simp
 |cons x es b=>
  intro i e f c h a
  cases i with
  |zero=>simp at h;subst h;exact a
  |succ i=>exact b h a
theorem dq {b:Bool}{n:Nat}{a v:X}{dst:Option Nat}{id k o:Nat}{es:List D}{esz:Nat}{e e':D}(c:a.ev t=.ptr id k o)(d:(Nat.beq (v.ev t).cells.length n&&(v.ev t).sto)=true)(hr:g.h base h id=some (.row es esz))(f:g.z base z id<=k)
 (j:es[k]?=some e) (l:sC e o (v.ev t).cells=some e')
 (m:wpM T sh nx0 (.ops base res rest::s) .normal (put t dst (.tup [])) (upd h id (some (.row (es.set k e') esz))) z nx q):
 wpM T sh nx0 (.ops base res (⟨i,dst,none,g,.store b n a v⟩::rest)::s) .normal t h z nx q:=by
 refine bP ?_;grind[kop,qu,dC,VH,jy,ND]
theorem EF {e:EqK}{x y:X}{c:IntKind}{a b:Int}(d:x.ev t=.int c a)(f:y.ev t=.int c b)(j:b≠0)
 (k:wpM T sh nx0 (.ops base res rest::s) .normal (upd t dst (.int c (c.wrap (a.tdiv b)))) h z nx q):
 wpM T sh nx0 (.ops base res (⟨i,some dst,none,g,.bin .quo e x y⟩::rest)::s) .normal t h z nx q:=by
 refine bP ?_;simp[kop,kr,d,f];exact dC j k
theorem dx {e:EqK}{x y:X}{c:IntKind}{a b:Int}(d:x.ev t=.int c a)(f:y.ev t=.int c b)(j:b≠0)
 (k:wpM T sh nx0 (.ops base res rest::s) .normal (upd t dst (.int c (a.tmod b))) h z nx q):
 wpM T sh nx0 (.ops base res (⟨i,some dst,none,g,.bin .rem e x y⟩::rest)::s) .normal t h z nx q:=by
 refine bP ?_;simp[kop,kr,d,f];exact dC j k
theorem atShl {e:EqK}{x y:X}{c d:IntKind}{a b:Int}(f:x.ev t=.int c a)(j:y.ev t=.int d b)(k:0<=b)
 (l:wpM T sh nx0 (.ops base res rest::s) .normal (upd t dst (.int c (c.wrap (a*2^min b.toNat c.bits)))) h z nx q):
 wpM T sh nx0 (.ops base res (⟨i,some dst,none,g,.bin .shl e x y⟩::rest)::s) .normal t h z nx q:=by
 refine bP ?_;simp[kop,f,j];exact dC k l
theorem atShr {e:EqK}{x y:X}{c d:IntKind}{a b:Int}(f:x.ev t=.int c a)(j:y.ev t=.int d b)(k:0<=b)
 (l:wpM T sh nx0 (.ops base res rest::s) .normal (upd t dst (.int c (a.fdiv (2^min b.toNat c.bits)))) h z nx q):
 wpM T sh nx0 (.ops base res (⟨i,some dst,none,g,.bin .shr e x y⟩::rest)::s) .normal t h z nx q:=by
 refine bP ?_;simp[kop,f,j];exact dC k l
theorem vR {f:X}{args:List X}{a:FuncId}{dst:Option Nat}(b:f.ev t=.fn a [] [])(c:T.shared a=false)
 (d:wpM T sh nx0 (.ops base res (⟨i,dst,none,g,.callF a args⟩::rest)::s) .normal t h z nx q):
 wpM T sh nx0 (.ops base res (⟨i,dst,none,g,.callV f args⟩::rest)::s) .normal t h z nx q:=by
 simp[wpM,wpo,kop,b,c]at d⊢;omega
theorem ES {f:X}{args:List X}{a:FuncId}{dst:Option Nat}(b:f.ev t=.fn a [] [])(d:T.shared a=false)
 (c:wpM T sh nx0 (.ops base res (⟨i,dst,none,g,.callF a args⟩::rest)::s) .normal t h z nx q):
 wpM T sh nx0 (.ops base res (⟨i,dst,none,g,.callW f args⟩::rest)::s) .normal t h z nx q:=by
 simp[wpM,wpo,kop,b]at c⊢;omega
theorem bI {e:El}{j x:X}{id0 len a k:Nat}{es new:List D}{l:Nat}(m:j.ev t=.ref id0 0 len)(hr:g.h base h id0=some (.row es e.n))(o:x.ev t=.ref a 0 k)(c:g.h base h a=some (.row new l))
 (f:k=new.length) (w:new.all (fun d=>d.cells.length==e.n)=true) (p:len=es.length) (r:g.z base z id0<=len) (u:(es.length+new.length) *(e.b+1)<=aK)
 (v:wpM T sh nx0 (.ops base res rest::s) .normal (upd t dst (.ref (base+i) 0 (len+k))) (upd (upd h id0 none) (base+i) (some (.row (es++new) e.n))) (upd z (base+i) (g.z base z id0)) nx q):
 wpM T sh nx0 (.ops base res (⟨i,some dst,none,g,.append e .sl j x⟩::rest)::s) .normal t h z nx q:=by
 refine bP ?_;subst f;simp only[kop,rZ,o,mh,c];refine nc (by omega) (by grind) ?_;simp[kA,m,hr];subst p;rw[zH];exact dC ⟨zD _,r,u⟩ v
theorem Av {e:El}{a x:X}{id0 len:Nat}{es new:List D}(c:a.ev t=.ref id0 0 len)(hr:g.h base h id0=some (.row es e.n))(f:x.ev t=.lst new)
 (j:new.all (fun d=>d.cells.length==e.n)=true) (k:len=es.length) (l:g.z base z id0<=len) (m:(es.length+new.length) *(e.b+1)<=aK)
 (o:wpM T sh nx0 (.ops base res rest::s) .normal (upd t dst (.ref (base+i) 0 (len+new.length))) (upd (upd h id0 none) (base+i) (some (.row (es++new) e.n))) (upd z (base+i) (g.z base z id0)) nx q):
 wpM T sh nx0 (.ops base res (⟨i,some dst,none,g,.append e .sl a x⟩::rest)::s) .normal t h z nx q:=by
 refine bP ?_;simp[kop,f];refine lj j ?_;simp[kA,c,hr];subst k;rw[zH];exact dC ⟨zD _,l,m⟩ o
theorem IJ {e:El}{a x:X}{id0 len:Nat}{es new:List D}(c:a.ev t=.ref id0 0 len)(hr:g.h base h id0=some (.row es e.n))(f:x.ev t=.lst new)
 (j:new.all (fun d=>d.cells.length==e.n)=true) (k:len<=es.length) (l:g.z base z id0<=len) (m:(len+new.length) *(e.b+1)<=aK)
 (o:wpM T sh nx0 (.ops base res rest::s) .normal (upd t dst (.ref (base+i) 0 (len+new.length))) (upd (upd h id0 none) (base+i) (some (.row (es.take len++new) e.n))) (upd z (base+i) (g.z base z id0)) nx q):
 wpM T sh nx0 (.ops base res (⟨i,some dst,none,g,.append e .sl a x⟩::rest)::s) .normal t h z nx q:=by
 refine bP ?_;simp[kop,f];refine lj j ?_;simp[kA,c,hr];exact dC ⟨k,l,m⟩ o
theorem RQ {e:El}{a x:X}{n:Nat}(f:a.ev t=.nilsl)(j:x.ev t=.int .i64 n)(c:n*(e.b+1)<=aK)
 (k:wpM T sh nx0 (.ops base res rest::s) .normal (upd t dst (.ref (base+i) 0 n)) (upd h (base+i) (some (.row (List.replicate n e.d) e.n))) (upd z (base+i) 0) nx q):
 wpM T sh nx0 (.ops base res (⟨i,some dst,none,g,.append e .room a x⟩::rest)::s) .normal t h z nx q:=by
 have l:n<=aK:=zR (w7 n (Nat.succ_pos _)) c;refine uB j rfl (dC l ?_);simp[kA,f];exact dC c k
theorem eu {e:El}{l c:X}{n:Int}{cap:Int}(k:Nat)(a:l.ev t=.int .i64 n)(f:c.ev t=.int .i64 cap)(j:n=k)(m:(k:Int)<=cap/\cap*(e.b+1)<=aK)
 (o:wpM T sh nx0 (.ops base res rest::s) .normal (upd t dst (.ref (base+i) 0 k)) (upd h (base+i) (some (.row (List.replicate k e.d) e.n))) (upd z (base+i) 0) nx q):
 wpM T sh nx0 (.ops base res (⟨i,some dst,none,g,.mkslice e l c⟩::rest)::s) .normal t h z nx q:=by
 refine bP ?_;simp only[kop,a,f];exact KE j (dC m o)
def mQ (t:ai)(x:Option X)(b a:Nat):Prop:=
 match x with
 |none=>a=b
 |some x=>∃c n,x.ev t=.int c n/\n=(a:Int)
theorem mH {x:Option X}{b a:Nat}{k:Nat->Prop}(c:mQ t x b a)(d:k a):jT t x b k:=by
 cases x with
 |none=>subst c;exact d
 |some x=>obtain⟨f,n,h1,e⟩:=c;exact uB h1 e d
theorem atSl {n:Nat}{x:X}{lo hi:Option X}{l:List D}(a b:Nat)(j:x.ev t=.lst l)(k:l.all (fun d=>d.cells.length==n)=true)(c:mQ t lo 0 a)(e:mQ t hi l.length b)(f:a<=b/\b<=l.length)
 (m:wpM T sh nx0 (.ops base res rest::s) .normal (upd t dst (.lst ((l.drop a).take (b-a)))) h z nx q):
 wpM T sh nx0 (.ops base res (⟨i,some dst,none,g,.slsl n x lo hi none⟩::rest)::s) .normal t h z nx q:=by
 refine bP ?_;simp[kop,j];exact lj k (mH c (mH e (dC f m)))
theorem fi {n:Nat}{x:X}{hi:Option X}{id off len esz:Nat}{es:List D}(b:Nat)(e:x.ev t=.ref id off len)(hr:g.h base h id=some (.row es esz))(f:Nat.beq esz n=true)(c:mQ t hi len b)(d:b<=len)
 (j:wpM T sh nx0 (.ops base res rest::s) .normal (upd t dst (.ref id off b)) h z nx q):
 wpM T sh nx0 (.ops base res (⟨i,some dst,none,g,.slsl n x none hi none⟩::rest)::s) .normal t h z nx q:=by
 refine bP ?_;simp only[kop,p3,e,hr,f];exact mH (a:=0) rfl (mH c (dC ⟨zB _,d⟩ j))
theorem dR {n:Nat}{x lo:X}{hi:Option X}{id off len esz:Nat}{es:List D}(a b:Nat)(l:x.ev t=.ref id off len)(hr:g.h base h id=some (.row es esz))(m:Nat.beq esz n=true)(d:mQ t (some lo) 0 a)(e:mQ t hi len b)(f:a<=b/\b<=len)
 (c:wpM T sh nx0 (.ops base res rest::s) .normal (upd t dst (if a=0 then .ref id off b else if a=b then .lst []else .ref id (off+a) (b-a))) h z nx q):
 wpM T sh nx0 (.ops base res (⟨i,some dst,none,g,.slsl n x (some lo) hi none⟩::rest)::s) .normal t h z nx q:=by
 refine bP ?_;simp only[kop,p3,l,hr,m];refine mH d (mH e (dC f ?_));by_cases h0:a=0
 .subst h0;trivial
 have j:Nat.beq a 0=false:=by cases a with|zero=>omega|succ a=>rfl
 rw[j];rw[if_neg h0]at c;by_cases h1:a=b
 .subst h1;simp at c⊢;exact c
 have k:Nat.beq a b=false:=by
  grind[Nat.eq_of_beq_eq_true]
 rw[k];rw[if_neg h1]at c;exact c
theorem eH {x a:X}{c:ByteArray}{d:IntKind}{n:Int}(k:Nat){b:UInt8}(e:x.ev t=.str c)(hi:a.ev t=.int d n)(f:n=k)(j:c.toList[k]?=some b)
 (l:wpM T sh nx0 (.ops base res rest::s) .normal (upd t dst (.int .u8 b.toNat)) h z nx q):
 wpM T sh nx0 (.ops base res (⟨i,some dst,none,g,.istr x a⟩::rest)::s) .normal t h z nx q:=by
 refine bP ?_;simp[kop,e];exact uB hi f (nD j l)
theorem cf {n:Nat}{f:FuncId}{args:List X}{fn:KFn}{dst:Option Nat}(a:T.shared f=true)(b:T.tab f=some fn)
 (e:wpM T (shr T n) nx [.code fn.code] .normal (enter (args.map (·.ev t))) h z nx (bB fn fun v h z nx=>wpM T (shr T (n+1)) nx0 (.ops base res rest::s) .normal (put t dst v) h z nx q))
 (c:(fn.em&&fW (args.map (·.ev t)))=false:=by rfl) (d:fn.gv=[]:=by rfl) (hr:fn.hr=[]:=by rfl):
 wpM T (shr T (n+1)) nx0 (.ops base res (⟨i,dst,none,g,.callF f args⟩::rest)::s) .normal t h z nx q:=by
 refine bP ?_;simp[kop,eQ,a,shr,b,d,c,hr]
 trivial
theorem m7 {n:Nat}{f:FuncId}{x:X}{a e l:List D}{args:List X}{fn:KFn}{dst:Option Nat}(b:x.ev t=.fn f a e)(c:a++args.map (·.ev t)++e=l)(d:T.shared f=true)(j:T.tab f=some fn)
 (k:wpM T (shr T n) nx [.code fn.code] .normal (enter l) h z nx (bB fn fun v h z nx=>wpM T (shr T (n+1)) nx0 (.ops base res rest::s) .normal (put t dst v) h z nx q))
 (m:fn.em=false:=by rfl) (o:fn.gv=[]:=by rfl) (hr:fn.hr=[]:=by rfl):
 wpM T (shr T (n+1)) nx0 (.ops base res (⟨i,dst,none,g,.callW x args⟩::rest)::s) .normal t h z nx q:=by
 refine bP ?_;simp_all[kop,eQ,shr,Tab.at,wpM]
theorem SJ {b:Pure}{c:List Nat}{args:List D}{h h':ab}{z z':Frz}{nx a:Nat}{r:D}{k:D->ab->Frz->Nat->Prop}(hr:fM b c args h z nx=some (r,h',z',a))(d:k r h' z' a):tP b c args h z nx k:=by
 grind[tP]
theorem r8 {n:Nat}{f:FuncId}{args:List X}{fn:KFn}{dst:Option Nat}{r:D}{h':ab}{z':Frz}{a:Nat}(b:T.shared f=true)(c:T.tab f=some fn)(d:fn.gv≠[])
 (hr:fM T.pu fn.gv (args.map (·.ev t)) h z nx=some (r,h',z',a))
 (e:wpM T (shr T (n+1)) nx0 (.ops base res rest::s) .normal (put t dst r) h' z' a q):
 wpM T (shr T (n+1)) nx0 (.ops base res (⟨i,dst,none,g,.callF f args⟩::rest)::s) .normal t h z nx q:=by
 refine bP ?_;grind[kop,eQ,shr,SJ]
def dat:Nat->D->Bool
 |0,_=>false
 |n+1,d=>
  match d with
  |.bool _|.int _ _|.float _ _|.str _|.lst _|.mlst _ _|.opq _|.pl _ _=>true
  |.agg l=>l.all (dat n)
  |.tup l=>l.all (dat n)
  |_=>false
theorem Fs {a:ab}:∀(n m:Nat) (d:D),dat n d=true->n<=m->aG a m d=some d:=by
 intro n
 induction n with
 |zero=>simp[dat]
 |succ n f=>
  intro m d c g;obtain⟨m,rfl⟩:∃k,m=k+1:=⟨m-1,by omega⟩
  have b:∀l:List D,l.all (dat n)=true->l.mapM (aG a m)=some l:=by
   intro l
   induction l with
   |nil=>simp
   |cons x l e=>
    simp_all
  cases d with
  |agg l=>grind[dat,aG]
  |tup l=>grind[dat,aG]
  |_=>first|(simp[dat]at c;done) |simp[aG]
theorem JM {b:ab}{es:List D}(a:es.all (dat 4)=true):es.mapM (aG b 8)=some es:=by
 induction es with
 |nil=>rfl
 |cons x es c=>
  simp only[xl,zJ]at a;simp[xB,Fs 4 8 x a.1 (by omega),c a.2]
def dr0 (h:ab)(d:D):Option (List (List D×Nat×Nat)×D):=
 match d with
 |.bool b=>some ([],.bool b)
 |.int i n=>some ([],.int i n)
 |.float i n=>some ([],.float i n)
 |.str s=>some ([],.str s)
 |.nilsl=>some ([],.lst [])
 |.lst l=>some ([],.lst l)
 |.mlst a b=>some ([],.mlst a b)
 |.ref id off len=>
  match h id with
  |some (.row es _)=>
   match off with
   |0=>some ([(es,0,len)],.lst (es.take len))
   |off+1=>some ([(es,off+1,len)],.lst ((es.drop (off+1)).take len))
  |_=>none
 |.fn f [] []=>some ([],.fn f [] [])
 |_=>none
def drL0 (h:ab):List D->Option (List (List D×Nat×Nat)×List D)
 |[]=>some ([],[])
 |x::a=>
  match dr0 h x with
  |some (r,x)=>
   match drL0 h a with
   |some (rs,a)=>fL0 a fun a=>some (r++rs,x::a)
   |none=>none
  |none=>none
def dr1 (h:ab)(d:D):Option (List (List D×Nat×Nat)×D):=
 match d with
 |.agg l=>
  match drL0 h l with
  |some (r,l)=>fL0 l fun l=>some (r,.agg l)
  |none=>none
 |d=>dr0 h d
def nY (h:ab):List D->Option (List (List D×Nat×Nat)×List D)
 |[]=>some ([],[])
 |x::a=>
  match dr1 h x with
  |some (r,x)=>f1 x fun x=>
   match nY h a with
   |some (rs,a)=>fL1 a fun a=>some (r++rs,x::a)
   |none=>none
  |none=>none
def dr2 (h:ab)(d:D):Option (List (List D×Nat×Nat)×D):=
 match d with
 |.tup l=>
  match nY h l with
  |some (r,l)=>fL1 l fun l=>some (r,.tup l)
  |none=>none
 |d=>dr1 h d
def gV:List (List D×Nat×Nat)->Prop
 |[]=>True
 |x::rest=>(x.2.1+x.2.2<=x.1.length/\((x.1.drop x.2.1).take x.2.2).all (dat 4)=true)/\gV rest
theorem GA:∀{a b:List (List D×Nat×Nat)},gV (a++b)->gV a/\gV b:=by
 intro a
 induction a with
 |nil=>intro b h;trivial
 |cons x a c=>intro b h;obtain⟨h1,d⟩:=c h.2;exact⟨⟨h.1,h1⟩,d⟩
theorem Ga {b:ab}{d c:D}{r:List (List D×Nat×Nat)}{k:D->Prop}(a:dr0 b d=some (r,c))(hr:gV r)(e:k c):ws0 b d k:=by
 unfold dr0 at a;split at a
 case h_8=>
  split at a
  .rename_i es esz f;split at a
   .obtain⟨rfl,rfl⟩:=a;simp only[ws0,f];unfold kM;refine⟨_,hr.1.1,JM hr.1.2,?_⟩;grind
   obtain⟨rfl,rfl⟩:=a;simp only[ws0,f];unfold kM;exact⟨_,hr.1.1,JM hr.1.2,e⟩
  grind
 all_goals first|(simp only[zV,Prod.mk.injEq]at a;obtain⟨rfl,rfl⟩:=a;exact e) |grind
theorem Y6 {c:ab}:∀{l b:List D} {r:List (List D×Nat×Nat)} {k:List D->Prop},drL0 c l=some (r,b)->gV r->k b->lE c l k:=by
 intro l
 induction l with
 |nil=>intro b r k a _ d;obtain⟨rfl,rfl⟩:=a;exact d
 |cons x l e=>
  intro b r k a hr d;simp only[drL0]at a;split at a
  .split at a
   grind[ke,GA,lE,Ga];grind
  grind
theorem Og {e:ab}{d g:D}{r:List (List D×Nat×Nat)}{k:D->Prop}(b:dr1 e d=some (r,g))(hr:gV r)(h:k g):ws1 e d k:=by
 unfold dr1 at b;unfold ws1;split at b
 grind[ke,Y6]
 .rename_i i;split
  grind
  .rename_i f a c
   match a,c,b with
   |[],[],b=>obtain⟨rfl,rfl⟩:=b;exact h
   |x::_,_,b=>trivial
   |[],x::_,b=>trivial
  grind[Ga]
theorem u7 {c:ab}:∀{l b:List D} {r:List (List D×Nat×Nat)} {k:List D->Prop},nY c l=some (r,b)->gV r->k b->iA c l k:=by
 intro l
 induction l with
 |nil=>intro b r k a _ d;obtain⟨rfl,rfl⟩:=a;exact d
 |cons x l e=>
  intro b r k a hr d;simp only[nY]at a;split at a
  .rw[sB]at a;split at a
   grind[il,GA,iA,Og];grind
  grind
theorem AN {a:ab}{d b:D}{r:List (List D×Nat×Nat)}{k:D->Prop}(c:dr2 a d=some (r,b))(hr:gV r)(e:k b):ws2 a d k:=by
 unfold dr2 at c;grind[ws2,il,u7,Og]
def dres1 (t:ai)(h:ab)(r:KRes):Option D:=
 match r with
 |.t i=>some (t i)
 |.cell a ag n=>vu true h ag n (t a)
def tF (t:ai)(h:ab):List KRes->Option (List D)
 |[]=>some []
 |r::rs=>
  match dres1 t h r with
  |some d=>f1 d fun d=>
   match tF t h rs with
   |some a=>fL1 a fun a=>some (d::a)
   |none=>none
  |none=>none
def ln (t:ai)(h:ab)(rs:List KRes):Option D:=
 match tF t h rs with
 |some [d]=>some d
 |some l=>some (.tup l)
 |none=>none
theorem RY:∀{rs:List KRes} {l:List D} {k:List D->Prop},tF t h rs=some l->k l->tn t h rs k:=by
 intro rs
 induction rs with
 |nil=>intro l k a b;simp[tF]at a;subst a;exact b
 |cons r rs c=>
  intro l k a b;simp only[tF]at a;split at a
  .rename_i d hr;rw[sB]at a;split at a
   .rw[il]at a;simp only[tn];unfold dres1 at hr;grind[uR,iu,F7]
   grind
  grind
theorem kq {rs:List KRes}{d:D}{k:D->Prop}(a:ln t h rs=some d)(b:k d):te t h rs k:=by
 grind[ln,te,RY]
theorem cS {fn:KFn}{b:Ex}{r d c:D}{a:List (List D×Nat×Nat)}(j:(match b with|.exit _=>false|_=>true)=true)(e:ln t h fn.res=some d)(f:dr2 h d=some (a,c))(hr:gV a)(g:c=r):
 wpM T sh nx0 [] b t h z nx (bB fn fun d h _ _=>ws2 h d fun d=>d=r):=by
 cases b with
 |exit i=>grind
 |normal=>exact kq e (AN f hr g)
 |ret=>exact kq e (AN f hr g)
theorem Tl {fn:KFn}{args:List D}{r:D}(a:wpM T (shr T 6) 0 [.code fn.code] .normal (enter args) empty kl 0 (bB fn fun d h _ _=>ws2 h d fun d=>d=r))(hr:fn.hr=[]:=by rfl):qv T fn args r:=by
 unfold qv;rw[hr];exact a
end
section
variable {T:Tab}{sh:Shr}{nx0:Nat}{t t':ai}{h h':ab}{z z':Frz}{nx nx':Nat}{q:Ex->ai->ab->Frz->Nat->Prop}{stk s':List Fr}{ex ex':Ex}
theorem gE (hr:bW nx0 800 stk ex t h z nx=⟨[],ex',t',h',z',nx'⟩)(a:q ex' t' h' z' nx'):wpM T sh nx0 stk ex t h z nx q:=go 800 hr a
theorem gC {c:X}{a b:K}{x:Bool}(hr:bW nx0 800 stk ex t h z nx=⟨.code (.cond c a b)::s',.normal,t',h',z',nx'⟩)(d:c.ev t'=.bool x)(e:x=true->wpM T sh nx0 (.code a::s') .normal t' h' z' nx' q)(f:x=false->wpM T sh nx0 (.code b::s') .normal t' h' z' nx' q):wpM T sh nx0 stk ex t h z nx q:=go 800 hr (an d e f)
theorem gA {base i:Nat}{a:List Nat}{b:Nat}{g:Gd}{f:FuncId}{args:List X}{rest:List KOper}{c:List D}{r:D}(hr:bW nx0 800 stk ex t h z nx=⟨.ops base a (⟨i,some b,none,g,.callF f args⟩::rest)::s',.normal,t',h',z',nx'⟩)(d:T.shared f=false)(e:mr (args.map (·.ev t'))=some c)(j:T.pu f c=some r)(k:wpM T sh nx0 (.ops base a rest::s') .normal (upd t' b r) h' z' nx' q):wpM T sh nx0 stk ex t h z nx q:=go 800 hr (aB d e j k)
theorem gX {base i:Nat}{a:List Nat}{b:Nat}{g:Gd}{rest:List KOper}{x c:X}{l:List D}{e:IntKind}{n:Int}{sz:Nat}(k:Nat){d:D}(hr:bW nx0 800 stk ex t h z nx=⟨.ops base a (⟨i,some b,none,g,.ixs sz x c⟩::rest)::s',.normal,t',h',z',nx'⟩)(f:x.ev t'=.lst l)(hi:c.ev t'=.int e n)(j:n=k)(m:l[k]?=some d)(o:(Nat.beq d.cells.length sz&&Nat.blt 0 sz)=true)(p:wpM T sh nx0 (.ops base a rest::s') .normal (upd t' b (.pl d 0)) h' z' nx' q):wpM T sh nx0 stk ex t h z nx q:=go 800 hr (cg k f hi j m o p)
def finM (fn:KFn)(ex:Ex)(t:ai)(h:ab):Option (List (List D×Nat×Nat)×D):=
 match ex with
 |.exit _=>none
 |.normal=>match ln t h fn.res with|some d=>dr2 h d|none=>none
 |.ret=>match ln t h fn.res with|some d=>dr2 h d|none=>none
theorem fI {fn:KFn}{r d:D}(a:finM fn ex t h=some ([],d))(b:d=r):wpM T sh nx0 [] ex t h z nx (bB fn fun d h _ _=>ws2 h d fun d=>d=r):=by
 unfold finM at a;split at a
 .cases a
 all_goals
  split at a
  .rename_i c;exact cS rfl c a tr b
  .cases a
theorem gF {fn:KFn}{r d:D}(hr:bW nx0 800 stk ex t h z nx=⟨[],ex',t',h',z',nx'⟩)(a:finM fn ex' t' h'=some ([],d))(b:d=r):wpM T sh nx0 stk ex t h z nx (bB fn fun d h _ _=>ws2 h d fun d=>d=r):=go 800 hr (fI a b)
end
end Go.F
