/- Parts of the proof, part 24: Stop2. -/
import Derived.Test.YtakaifogljbgoaaGreatZ23
set_option linter.all false
namespace Go.F
section
variable {T:Tab}{sh:Shr}{nx0:Nat}{s:List Fr}{t:q0x}{h:q0e}{z:Frz}{nx:Nat}{q:Ex→q0x→q0e→Frz→Nat→Prop}
variable {base i:Nat}{res:List Nat}{dst:Nat}{g:Gd}{rest:List KOper}
theorem qBp {n:Int}{i:Nat}{k:Nat→Prop}(hn:n=i)(hk:k i):wnat n k:=by subst hn;exact hk
theorem qiQ {d:D}{kk:IntKind}{n:Int}{i:Nat}{k:Nat→Prop}(hd:d=.int kk n)(hn:n=i)(hk:k i):qp2 d k:=by subst hd;exact qBp hn hk
theorem qiR {n:Nat}{es:List D}{k:List D→Prop}(h:es.all (fun d=>d.cells.length==n)=true)(hk:k es):wall n es k:=by unfold wall;exact⟨h,hk⟩
theorem qva {n:Nat}{es:List D}{off len:Nat}{k:List D→Prop}(h:off+len≤es.length)(ha:((es.drop off).take len).all (fun d=>d.cells.length==n)=true)(hk:k ((es.drop off).take len)):wwin n es off len k:=by unfold wwin;exact⟨⟨h,ha⟩,hk⟩
theorem q0i {x ix:X}{l:List D}{kk:IntKind}{n:Int}{sz:Nat}(k:Nat){d:D}(hx:x.ev t=.lst l)(hi:ix.ev t=.int kk n)(hn:n=k)(hd:l[k]?=some d)(hc:(Nat.beq d.cells.length sz&&Nat.blt 0 sz)=true)
 (hk:wpM T sh nx0 (.ops base res rest::s) .normal (upd t dst (.pl d 0)) h z nx q):
 wpM T sh nx0 (.ops base res (⟨i,some dst,none,g,.ixs sz x ix⟩::rest)::s) .normal t h z nx q:=by
 refine q3t ?_
 simp only[kop,kixs,hx]
 refine qiQ hi hn (q9u hd ?_)
 rw[qaP,hc]
 exact hk
theorem q0H {x ix:X}{id off len:Nat}{es:List D}{esz sz:Nat}{kk:IntKind}{n:Int}(k:Nat)(hx:x.ev t=.ref id off len)(hr:g.h base h id=some (.row es esz))(he:Nat.beq esz sz=true)(hi:ix.ev t=.int kk n)(hn:n=k)(hl:k<len)
 (hk:wpM T sh nx0 (.ops base res rest::s) .normal (upd t dst (.ptr id (off+k) 0)) h z nx q):
 wpM T sh nx0 (.ops base res (⟨i,some dst,none,g,.ixs sz x ix⟩::rest)::s) .normal t h z nx q:=by
 refine q3t ?_
 simp only[kop,kixs,hx,hr,he]
 exact qiQ hi hn (q1t hl hk)
theorem qn1 {hint ag:Bool}{n:Nat}{a:X}{id k o:Nat}{es:List D}{esz:Nat}{e d:D}(ha:a.ev t=.ptr id k o)(hr:g.h base h id=some (.row es esz))(he:es[k]?=some e)(hp:qsO ag n e o=some d)
 (hk:wpM T sh nx0 (.ops base res rest::s) .normal (upd t dst d) h z nx q):
 wpM T sh nx0 (.ops base res (⟨i,some dst,none,g,.load hint ag n a⟩::rest)::s) .normal t h z nx q:=by
 refine q3t ?_
 simp only[kop,qp6,ha,hr]
 exact q9u he (qef hp hk)
theorem qHr:∀{es:List D} {i:Nat} {e:D} {f:D→(D→Prop)→Prop} {c:List D→Prop},es[i]?=some e→f e (fun y=>c (es.set i y))→kset es i f c:=by
 intro es
 induction es with
 |nil=>intro i e f c h;simp at h
 |cons x es ih=>
  intro i e f c h hf
  cases i with
  |zero=>simp at h;subst h;exact hf
  |succ i=>simp at h;exact ih h hf
theorem qy5 {hint:Bool}{n:Nat}{a v:X}{dst:Option Nat}{id k o:Nat}{es:List D}{esz:Nat}{e e':D}(ha:a.ev t=.ptr id k o)(hv:(Nat.beq (v.ev t).cells.length n&&(v.ev t).sto)=true)(hr:g.h base h id=some (.row es esz))(hz:g.z base z id≤k)
 (he:es[k]?=some e) (hs:qaQ e o (v.ev t).cells=some e')
 (hk:wpM T sh nx0 (.ops base res rest::s) .normal (put t dst (.tup [])) (upd h id (some (.row (es.set k e') esz))) z nx q):
 wpM T sh nx0 (.ops base res (⟨i,dst,none,g,.store hint n a v⟩::rest)::s) .normal t h z nx q:=by
 refine q3t ?_
 simp only[kop,qjt,ha,hv,hr]
 refine q1t hz (qHr he ?_)
 rw[qaP]
 exact qco hs hk
theorem qem {e:EqK}{x y:X}{kk:IntKind}{a b:Int}(hx:x.ev t=.int kk a)(hy:y.ev t=.int kk b)(hb:b≠0)
 (hk:wpM T sh nx0 (.ops base res rest::s) .normal (upd t dst (.int kk (kk.wrap (a.tdiv b)))) h z nx q):
 wpM T sh nx0 (.ops base res (⟨i,some dst,none,g,.bin .quo e x y⟩::rest)::s) .normal t h z nx q:=by
 refine q3t ?_
 simp only[kop,qp4,hx,hy,q3z,decide_true,Bool.or_true,qr3]
 exact q1t hb hk
theorem q37 {e:EqK}{x y:X}{kk:IntKind}{a b:Int}(hx:x.ev t=.int kk a)(hy:y.ev t=.int kk b)(hb:b≠0)
 (hk:wpM T sh nx0 (.ops base res rest::s) .normal (upd t dst (.int kk (a.tmod b))) h z nx q):
 wpM T sh nx0 (.ops base res (⟨i,some dst,none,g,.bin .rem e x y⟩::rest)::s) .normal t h z nx q:=by
 refine q3t ?_
 simp only[kop,qp4,hx,hy,q3z,decide_true,Bool.or_true,qr3]
 exact q1t hb hk
theorem atShl {e:EqK}{x y:X}{kk kk':IntKind}{a b:Int}(hx:x.ev t=.int kk a)(hy:y.ev t=.int kk' b)(hb:0≤b)
 (hk:wpM T sh nx0 (.ops base res rest::s) .normal (upd t dst (.int kk (kk.wrap (a*2^min b.toNat kk.bits)))) h z nx q):
 wpM T sh nx0 (.ops base res (⟨i,some dst,none,g,.bin .shl e x y⟩::rest)::s) .normal t h z nx q:=by
 refine q3t ?_
 simp only[kop,qp4,hx,hy,q3z,Bool.true_or,qr3]
 exact q1t hb hk
theorem atShr {e:EqK}{x y:X}{kk kk':IntKind}{a b:Int}(hx:x.ev t=.int kk a)(hy:y.ev t=.int kk' b)(hb:0≤b)
 (hk:wpM T sh nx0 (.ops base res rest::s) .normal (upd t dst (.int kk (a.fdiv (2^min b.toNat kk.bits)))) h z nx q):
 wpM T sh nx0 (.ops base res (⟨i,some dst,none,g,.bin .shr e x y⟩::rest)::s) .normal t h z nx q:=by
 refine q3t ?_
 simp only[kop,qp4,hx,hy,q3z,Bool.true_or,qr3]
 exact q1t hb hk
theorem qHs {f:X}{args:List X}{fid:FuncId}{dst:Option Nat}(hf:f.ev t=.fn fid [] [])(hs:T.shared fid=false)
 (hk:wpM T sh nx0 (.ops base res (⟨i,dst,none,g,.callF fid args⟩::rest)::s) .normal t h z nx q):
 wpM T sh nx0 (.ops base res (⟨i,dst,none,g,.callV f args⟩::rest)::s) .normal t h z nx q:=by
 simp only[wpM,wpo,kop,hf,hs,List.nil_append,List.append_nil]at hk⊢
 exact hk
theorem atCallVD {f:X}{args:List X}{fid:FuncId}{dst:Nat}{a e:List D}{ds:List D}{r:D}(hf:f.ev t=.fn fid a e)(hs:T.shared fid=false)
 (hds:∀k:List D→Prop,k ds→qcA (g.h base h) (a++args.map (·.ev t)++e) k) (hp:T.pu fid ds=some r)
 (hk:∀z,wpM T sh nx0 (.ops base res rest::s) .normal (upd t dst r) h z nx q):
 wpM T sh nx0 (.ops base res (⟨i,some dst,none,g,.callV f args⟩::rest)::s) .normal t h z nx q:=by
 refine q3t ?_
 simp only[kop,hf,hs,q5W]
 refine hds _ ?_
 unfold qaF
 refine⟨r,hp,?_⟩
 simp only[q6d]
 split
 ·exact hk _
 split
 ·exact hk _
 exact hk _
theorem q1b {e:El}{sx x:X}{id0 len id1 k:Nat}{es new:List D}{n1:Nat}(hs:sx.ev t=.ref id0 0 len)(hr:g.h base h id0=some (.row es e.n))(hx:x.ev t=.ref id1 0 k)(hr1:g.h base h id1=some (.row new n1))
 (hk1:k=new.length) (hc:new.all (fun d=>d.cells.length==e.n)=true) (hl:len=es.length) (hz:g.z base z id0≤len) (hb:(es.length+new.length) *(e.b+1)≤q0M)
 (hk:wpM T sh nx0 (.ops base res rest::s) .normal (upd t dst (.ref (base+i) 0 (len+k))) (upd (upd h id0 none) (base+i) (some (.row (es++new) e.n))) (upd z (base+i) (g.z base z id0)) nx q):
 wpM T sh nx0 (.ops base res (⟨i,some dst,none,g,.append e .sl sx x⟩::rest)::s) .normal t h z nx q:=by
 refine q3t ?_
 subst hk1
 have e1:((new.drop 0).take new.length)=new:=by simp
 simp only[kop,q6D,hx,q5g,hr1]
 refine qva (by omega) (by rw[e1];exact hc) ?_
 rw[e1]
 simp only[q2Q,hs,hr,Nat.beq_refl]
 subst hl
 rw[List.take_length]
 exact q1t ⟨Nat.le_refl _,hz,hb⟩ hk
theorem qKg {e:El}{sx x:X}{id1 k:Nat}{new:List D}{n1:Nat}(hs:sx.ev t=.nilsl)(hx:x.ev t=.ref id1 0 k)(hr1:g.h base h id1=some (.row new n1))
 (hk1:k=new.length) (hc:new.all (fun d=>d.cells.length==e.n)=true) (hb:new.length*(e.b+1)≤q0M)
 (hk:wpM T sh nx0 (.ops base res rest::s) .normal (upd t dst (.ref (base+i) 0 k)) (upd h (base+i) (some (.row new e.n))) (upd z (base+i) 0) nx q):
 wpM T sh nx0 (.ops base res (⟨i,some dst,none,g,.append e .sl sx x⟩::rest)::s) .normal t h z nx q:=by
 refine q3t ?_
 subst hk1
 have e1:((new.drop 0).take new.length)=new:=by simp
 simp only[kop,q6D,hx,q5g,hr1]
 refine qva (by omega) (by rw[e1];exact hc) ?_
 rw[e1]
 simp only[q2Q,hs]
 exact q1t hb hk
theorem qAq {e:El}{sx x:X}{id0 len:Nat}{es new:List D}(hs:sx.ev t=.ref id0 0 len)(hr:g.h base h id0=some (.row es e.n))(hx:x.ev t=.lst new)
 (hc:new.all (fun d=>d.cells.length==e.n)=true) (hl:len=es.length) (hz:g.z base z id0≤len) (hb:(es.length+new.length) *(e.b+1)≤q0M)
 (hk:wpM T sh nx0 (.ops base res rest::s) .normal (upd t dst (.ref (base+i) 0 (len+new.length))) (upd (upd h id0 none) (base+i) (some (.row (es++new) e.n))) (upd z (base+i) (g.z base z id0)) nx q):
 wpM T sh nx0 (.ops base res (⟨i,some dst,none,g,.append e .sl sx x⟩::rest)::s) .normal t h z nx q:=by
 refine q3t ?_
 simp only[kop,q6D,hx,q5g]
 refine qiR hc ?_
 simp only[q2Q,hs,hr,Nat.beq_refl]
 subst hl
 rw[List.take_length]
 exact q1t ⟨Nat.le_refl _,hz,hb⟩ hk
theorem qBq {e:El}{sx x:X}{id0 len:Nat}{es new:List D}(hs:sx.ev t=.ref id0 0 len)(hr:g.h base h id0=some (.row es e.n))(hx:x.ev t=.lst new)
 (hc:new.all (fun d=>d.cells.length==e.n)=true) (hl:len≤es.length) (hz:g.z base z id0≤len) (hb:(len+new.length) *(e.b+1)≤q0M)
 (hk:wpM T sh nx0 (.ops base res rest::s) .normal (upd t dst (.ref (base+i) 0 (len+new.length))) (upd (upd h id0 none) (base+i) (some (.row (es.take len++new) e.n))) (upd z (base+i) (g.z base z id0)) nx q):
 wpM T sh nx0 (.ops base res (⟨i,some dst,none,g,.append e .sl sx x⟩::rest)::s) .normal t h z nx q:=by
 refine q3t ?_
 simp only[kop,q6D,hx,q5g]
 refine qiR hc ?_
 simp only[q2Q,hs,hr,Nat.beq_refl]
 exact q1t ⟨hl,hz,hb⟩ hk
theorem qDG {e:El}{sx x:X}{n:Nat}(hs:sx.ev t=.nilsl)(hx:x.ev t=.int .i64 n)(hb:n*(e.b+1)≤q0M)
 (hk:wpM T sh nx0 (.ops base res rest::s) .normal (upd t dst (.ref (base+i) 0 n)) (upd h (base+i) (some (.row (List.replicate n e.d) e.n))) (upd z (base+i) 0) nx q):
 wpM T sh nx0 (.ops base res (⟨i,some dst,none,g,.append e .room sx x⟩::rest)::s) .normal t h z nx q:=by
 refine q3t ?_
 have hn:n≤q0M:=Nat.le_trans (Nat.le_mul_of_pos_right n (Nat.succ_pos _)) hb
 simp only[kop,q6D]
 refine qiQ hx rfl (q1t hn ?_)
 simp only[q2Q,hs,List.length_replicate]
 exact q1t hb hk
theorem qsZ {e:El}{sx x:X}{new:List D}(hs:sx.ev t=.nilsl)(hx:x.ev t=.lst new)
 (hc:new.all (fun d=>d.cells.length==e.n)=true) (hb:new.length*(e.b+1)≤q0M)
 (hk:wpM T sh nx0 (.ops base res rest::s) .normal (upd t dst (.ref (base+i) 0 new.length)) (upd h (base+i) (some (.row new e.n))) (upd z (base+i) 0) nx q):
 wpM T sh nx0 (.ops base res (⟨i,some dst,none,g,.append e .sl sx x⟩::rest)::s) .normal t h z nx q:=by
 refine q3t ?_
 simp only[kop,q6D,hx,q5g]
 refine qiR hc ?_
 simp only[q2Q,hs]
 exact q1t hb hk
theorem q44 {e:El}{l c:X}{n:Int}{cap:Int}(k:Nat)(hl:l.ev t=.int .i64 n)(hc:c.ev t=.int .i64 cap)(hn:n=k)(hb:(k:Int)≤cap∧cap*(e.b+1)≤q0M)
 (hk:wpM T sh nx0 (.ops base res rest::s) .normal (upd t dst (.ref (base+i) 0 k)) (upd h (base+i) (some (.row (List.replicate k e.d) e.n))) (upd z (base+i) 0) nx q):
 wpM T sh nx0 (.ops base res (⟨i,some dst,none,g,.mkslice e l c⟩::rest)::s) .normal t h z nx q:=by
 refine q3t ?_
 simp only[kop,hl,hc]
 exact qBp hn (q1t hb hk)
def qiS (t:q0x)(x:Option X)(dflt a:Nat):Prop:=
 match x with
 |none=>a=dflt
 |some x=>∃kk n,x.ev t=.int kk n∧n=(a:Int)
theorem q5J {x:Option X}{dflt a:Nat}{k:Nat→Prop}(hb:qiS t x dflt a)(hk:k a):q8u t x dflt k:=by
 cases x with
 |none=>simp only[qiS]at hb;subst hb;exact hk
 |some x=>obtain⟨kk,n,h1,h2⟩:=hb;exact qiQ h1 h2 hk
theorem atSl {n:Nat}{x:X}{lo hi:Option X}{l:List D}(a b:Nat)(hx:x.ev t=.lst l)(hc:l.all (fun d=>d.cells.length==n)=true)(hlo:qiS t lo 0 a)(hhi:qiS t hi l.length b)(hab:a≤b∧b≤l.length)
 (hk:wpM T sh nx0 (.ops base res rest::s) .normal (upd t dst (.lst ((l.drop a).take (b-a)))) h z nx q):
 wpM T sh nx0 (.ops base res (⟨i,some dst,none,g,.slsl n x lo hi none⟩::rest)::s) .normal t h z nx q:=by
 refine q3t ?_
 simp only[kop,qp7,hx]
 exact qiR hc (q5J hlo (q5J hhi (q1t hab hk)))
theorem q9O {n:Nat}{x:X}{hi:Option X}{id off len esz:Nat}{es:List D}(b:Nat)(hx:x.ev t=.ref id off len)(hr:g.h base h id=some (.row es esz))(he:Nat.beq esz n=true)(hhi:qiS t hi len b)(hab:b≤len)
 (hk:wpM T sh nx0 (.ops base res rest::s) .normal (upd t dst (.ref id off b)) h z nx q):
 wpM T sh nx0 (.ops base res (⟨i,some dst,none,g,.slsl n x none hi none⟩::rest)::s) .normal t h z nx q:=by
 refine q3t ?_
 simp only[kop,qp7,hx,hr,he]
 exact q5J (a:=0) rfl (q5J hhi (q1t ⟨Nat.zero_le _,hab⟩ hk))
theorem qy6 {n:Nat}{x lo:X}{hi:Option X}{id off len esz:Nat}{es:List D}(a b:Nat)(hx:x.ev t=.ref id off len)(hr:g.h base h id=some (.row es esz))(he:Nat.beq esz n=true)(hlo:qiS t (some lo) 0 a)(hhi:qiS t hi len b)(hab:a≤b∧b≤len)
 (hk:wpM T sh nx0 (.ops base res rest::s) .normal (upd t dst (if a=0 then .ref id off b else if a=b then .lst []else .ref id (off+a) (b-a))) h z nx q):
 wpM T sh nx0 (.ops base res (⟨i,some dst,none,g,.slsl n x (some lo) hi none⟩::rest)::s) .normal t h z nx q:=by
 refine q3t ?_
 simp only[kop,qp7,hx,hr,he]
 refine q5J hlo (q5J hhi (q1t hab ?_))
 by_cases h0:a=0
 ·subst h0;simp only[if_true]at hk;exact hk
 have hb0:Nat.beq a 0=false:=by cases a with|zero=>exact absurd rfl h0|succ a=>rfl
 rw[hb0]
 simp only[wb]
 rw[if_neg h0]at hk
 by_cases h1:a=b
 ·subst h1;simp only[Nat.beq_refl,if_true]at hk⊢;exact hk
 have hb1:Nat.beq a b=false:=by
  cases hb:Nat.beq a b with
  |false=>rfl
  |true=>exact absurd (Nat.eq_of_beq_eq_true hb) h1
 rw[hb1]
 rw[if_neg h1]at hk
 exact hk
theorem q2f {x ix:X}{st:ByteArray}{kk:IntKind}{n:Int}(k:Nat){b:UInt8}(hx:x.ev t=.str st)(hi:ix.ev t=.int kk n)(hn:n=k)(hd:st.toList[k]?=some b)
 (hk:wpM T sh nx0 (.ops base res rest::s) .normal (upd t dst (.int .u8 b.toNat)) h z nx q):
 wpM T sh nx0 (.ops base res (⟨i,some dst,none,g,.istr x ix⟩::rest)::s) .normal t h z nx q:=by
 refine q3t ?_
 simp only[kop,qF0,hx]
 exact qiQ hi hn (q9u hd hk)
theorem qjT {n:Nat}{f:FuncId}{args:List X}{fn:KFn}{dst:Option Nat}(hs:T.shared f=true)(ht:T.tab f=some fn)
 (hk:wpM T (shr T n) nx [.code fn.code] .normal (enter (args.map (·.ev t))) h z nx (qeY fn fun v h z nx=>wpM T (shr T (n+1)) nx0 (.ops base res rest::s) .normal (put t dst v) h z nx q))
 (he:(fn.em&&qav (args.map (·.ev t)))=false:=by rfl):
 wpM T (shr T (n+1)) nx0 (.ops base res (⟨i,dst,none,g,.callF f args⟩::rest)::s) .normal t h z nx q:=by
 refine q3t ?_
 simp only[kop,q5W,hs,shr,ht,he]
 simp only[wpM]at hk
 exact hk
theorem atShr0 {n:Nat}{f:FuncId}{args:List X}{fn:KFn}{dst:Option Nat}(hs:T.shared f=true)(ht:T.tab f=some fn)(he:(fn.em&&qav (args.map (·.ev t)))=true)
 (hk:wpM T (shr T (n+1)) nx0 (.ops base res rest::s) .normal (put t dst (.lst [])) h z nx q):
 wpM T (shr T (n+1)) nx0 (.ops base res (⟨i,dst,none,g,.callF f args⟩::rest)::s) .normal t h z nx q:=by
 refine q3t ?_
 simp only[kop,q5W,hs,shr,ht,he]
 exact hk
def dat:Nat→D→Bool
 |0,_=>false
 |n+1,d=>
  match d with
  |.bool _|.int _ _|.float _ _|.str _|.lst _|.mlst _ _|.opq _|.pl _ _=>true
  |.agg l=>l.all (dat n)
  |.tup l=>l.all (dat n)
  |_=>false
theorem qq9 {hp:q0e}:∀(n m:Nat) (d:D),dat n d=true→n≤m→q18 hp m d=some d:=by
 intro n
 induction n with
 |zero=>intro m d hd;simp[dat]at hd
 |succ n ih=>
  intro m d hd hm
  obtain⟨m,rfl⟩:∃k,m=k+1:=⟨m-1,by omega⟩
  have list:∀l:List D,l.all (dat n)=true→l.mapM (q18 hp m)=some l:=by
   intro l
   induction l with
   |nil=>intro _;rfl
   |cons x l ihl=>
    intro hl
    simp only[List.all_cons,Bool.and_eq_true]at hl
    simp[List.mapM_cons,ih m x hl.1 (by omega),ihl hl.2]
  cases d with
  |agg l=>simp only[dat]at hd;simp[q18,list l hd]
  |tup l=>simp only[dat]at hd;simp[q18,list l hd]
  |_=>first|(simp[dat]at hd;done) |simp[q18]
theorem qaT {hp:q0e}{es:List D}(hd:es.all (dat 4)=true):es.mapM (q18 hp 8)=some es:=by
 induction es with
 |nil=>rfl
 |cons x es ih=>
  simp only[List.all_cons,Bool.and_eq_true]at hd
  simp[List.mapM_cons,qq9 4 8 x hd.1 (by omega),ih hd.2]
def dr0 (h:q0e)(d:D):Option (List (List D×Nat×Nat)×D):=
 match d with
 |.bool b=>some ([],.bool b)
 |.int i n=>some ([],.int i n)
 |.float i n=>some ([],.float i n)
 |.str s=>some ([],.str s)
 |.nilsl=>some ([],.lst [])
 |.lst l=>some ([],.lst l)
 |.mlst a b=>some ([],.mlst a b)
 |.ref id off len=>
  match h id with
  |some (.row es _)=>
   match off with
   |0=>some ([(es,0,len)],.lst (es.take len))
   |off+1=>some ([(es,off+1,len)],.lst ((es.drop (off+1)).take len))
  |_=>none
 |.fn f [] []=>some ([],.fn f [] [])
 |_=>none
def drL0 (h:q0e):List D→Option (List (List D×Nat×Nat)×List D)
 |[]=>some ([],[])
 |x::xs=>
  match dr0 h x with
  |some (r,x)=>
   match drL0 h xs with
   |some (rs,xs)=>fL0 xs fun xs=>some (r++rs,x::xs)
   |none=>none
  |none=>none
def dr1 (h:q0e)(d:D):Option (List (List D×Nat×Nat)×D):=
 match d with
 |.agg l=>
  match drL0 h l with
  |some (r,l)=>fL0 l fun l=>some (r,.agg l)
  |none=>none
 |d=>dr0 h d
def qy7 (h:q0e):List D→Option (List (List D×Nat×Nat)×List D)
 |[]=>some ([],[])
 |x::xs=>
  match dr1 h x with
  |some (r,x)=>f1 x fun x=>
   match qy7 h xs with
   |some (rs,xs)=>fL1 xs fun xs=>some (r++rs,x::xs)
   |none=>none
  |none=>none
def dr2 (h:q0e)(d:D):Option (List (List D×Nat×Nat)×D):=
 match d with
 |.tup l=>
  match qy7 h l with
  |some (r,l)=>fL1 l fun l=>some (r,.tup l)
  |none=>none
 |d=>dr1 h d
def q48:List (List D×Nat×Nat)→Prop
 |[]=>True
 |x::rest=>(x.2.1+x.2.2≤x.1.length∧((x.1.drop x.2.1).take x.2.2).all (dat 4)=true)∧q48 rest
theorem qen:∀{a b:List (List D×Nat×Nat)},q48 (a++b)→q48 a∧q48 b:=by
 intro a
 induction a with
 |nil=>intro b h;exact⟨trivial,h⟩
 |cons x a ih=>intro b h;obtain⟨h1,h2⟩:=ih h.2;exact⟨⟨h.1,h1⟩,h2⟩
theorem qt0 {hp:q0e}{d d':D}{r:List (List D×Nat×Nat)}{k:D→Prop}(hd:dr0 hp d=some (r,d'))(hr:q48 r)(hk:k d'):ws0 hp d k:=by
 unfold dr0 at hd
 split at hd
 case h_8=>
  rename_i id off len
  split at hd
  ·rename_i es esz hb
   split at hd
   ·simp only[Option.some.injEq,Prod.mk.injEq]at hd
    obtain⟨rfl,rfl⟩:=hd
    simp only[ws0,hb]
    unfold qCu
    refine⟨_,hr.1.1,qaT hr.1.2,?_⟩
    simpa using hk
   simp only[Option.some.injEq,Prod.mk.injEq]at hd
   obtain⟨rfl,rfl⟩:=hd
   simp only[ws0,hb]
   unfold qCu
   exact⟨_,hr.1.1,qaT hr.1.2,hk⟩
  cases hd
 all_goals first|(simp only[Option.some.injEq,Prod.mk.injEq]at hd;obtain⟨rfl,rfl⟩:=hd;exact hk) |cases hd
theorem qAr {hp:q0e}:∀{l l':List D} {r:List (List D×Nat×Nat)} {k:List D→Prop},drL0 hp l=some (r,l')→q48 r→k l'→qu4 hp l k:=by
 intro l
 induction l with
 |nil=>intro l' r k hd _ hk;simp only[drL0,Option.some.injEq,Prod.mk.injEq]at hd;obtain⟨rfl,rfl⟩:=hd;exact hk
 |cons x l ih=>
  intro l' r k hd hr hk
  simp only[drL0]at hd
  split at hd
  ·rename_i r1 x' hx
   split at hd
   ·rename_i rs xs hxs
    rw[q8D]at hd
    simp only[Option.some.injEq,Prod.mk.injEq]at hd
    obtain⟨rfl,rfl⟩:=hd
    obtain⟨h1,h2⟩:=qen hr
    simp only[qu4]
    exact qt0 hx h1 (ih hxs h2 hk)
   cases hd
  cases hd
theorem qt1 {hp:q0e}{d d':D}{r:List (List D×Nat×Nat)}{k:D→Prop}(hd:dr1 hp d=some (r,d'))(hr:q48 r)(hk:k d'):ws1 hp d k:=by
 unfold dr1 at hd
 unfold ws1
 split at hd
 ·split at hd
  ·rename_i r1 l hl
   rw[q8D]at hd
   simp only[Option.some.injEq,Prod.mk.injEq]at hd
   obtain⟨rfl,rfl⟩:=hd
   exact qAr hl hr hk
  cases hd
 rename_i hne
 split
 ·rename_i l;exact absurd rfl (hne l)
 ·rename_i f a c
  match a,c,hd with
  |[],[],hd=>simp only[dr0,Option.some.injEq,Prod.mk.injEq]at hd;obtain⟨rfl,rfl⟩:=hd;exact hk
  |x::_,_,hd=>simp[dr0]at hd
  |[],x::_,hd=>simp[dr0]at hd
 exact qt0 hd hr hk
theorem qby {hp:q0e}:∀{l l':List D} {r:List (List D×Nat×Nat)} {k:List D→Prop},qy7 hp l=some (r,l')→q48 r→k l'→qcA hp l k:=by
 intro l
 induction l with
 |nil=>intro l' r k hd _ hk;simp only[qy7,Option.some.injEq,Prod.mk.injEq]at hd;obtain⟨rfl,rfl⟩:=hd;exact hk
 |cons x l ih=>
  intro l' r k hd hr hk
  simp only[qy7]at hd
  split at hd
  ·rename_i r1 x' hx
   rw[qxG]at hd
   split at hd
   ·rename_i rs xs hxs
    rw[q5u]at hd
    simp only[Option.some.injEq,Prod.mk.injEq]at hd
    obtain⟨rfl,rfl⟩:=hd
    obtain⟨h1,h2⟩:=qen hr
    simp only[qcA]
    exact qt1 hx h1 (ih hxs h2 hk)
   cases hd
  cases hd
theorem qeT {hp:q0e}{d d':D}{r:List (List D×Nat×Nat)}{k:D→Prop}(hd:dr2 hp d=some (r,d'))(hr:q48 r)(hk:k d'):ws2 hp d k:=by
 unfold dr2 at hd
 unfold ws2
 split at hd
 ·split at hd
  ·rename_i r1 l hl
   rw[q5u]at hd
   simp only[Option.some.injEq,Prod.mk.injEq]at hd
   obtain⟨rfl,rfl⟩:=hd
   exact qby hl hr hk
  cases hd
 rename_i hne
 split
 ·rename_i l;exact absurd rfl (hne l)
 exact qt1 hd hr hk
def dres1 (t:q0x)(h:q0e)(r:KRes):Option D:=
 match r with
 |.t i=>some (t i)
 |.cell a ag n=>qBl true h ag n (t a)
def qy8 (t:q0x)(h:q0e):List KRes→Option (List D)
 |[]=>some []
 |r::rs=>
  match dres1 t h r with
  |some d=>f1 d fun d=>
   match qy8 t h rs with
   |some ds=>fL1 ds fun ds=>some (d::ds)
   |none=>none
  |none=>none
def dres (t:q0x)(h:q0e)(rs:List KRes):Option D:=
 match qy8 t h rs with
 |some [d]=>some d
 |some l=>some (.tup l)
 |none=>none
theorem qm6:∀{rs:List KRes} {l:List D} {k:List D→Prop},qy8 t h rs=some l→k l→qst t h rs k:=by
 intro rs
 induction rs with
 |nil=>intro l k hd hk;simp only[qy8,Option.some.injEq]at hd;subst hd;exact hk
 |cons r rs ih=>
  intro l k hd hk
  simp only[qy8]at hd
  split at hd
  ·rename_i d hr
   rw[qxG]at hd
   split at hd
   ·rename_i ds hds
    rw[q5u]at hd
    cases hd
    simp only[qst]
    unfold dres1 at hr
    unfold qwN
    split at hr
    ·cases hr;simp only[q6d];exact ih hds hk
    refine qm0 hr ?_
    rw[q6d];exact ih hds hk
   cases hd
  cases hd
theorem q6v {rs:List KRes}{d:D}{k:D→Prop}(hd:dres t h rs=some d)(hk:k d):qCv t h rs k:=by
 unfold dres at hd
 unfold qCv
 split at hd
 ·rename_i d' hl
  cases hd
  exact qm6 hl hk
 ·rename_i l hne hl
  cases hd
  refine qm6 hl ?_
  split
  ·rename_i d;exact absurd rfl (hne d)
  exact hk
 cases hd
theorem q08 {fn:KFn}{ex:Ex}{r d d':D}{rows:List (List D×Nat×Nat)}(hex:(match ex with|.exit _=>false|_=>true)=true)(hd:dres t h fn.res=some d)(hs:dr2 h d=some (rows,d'))(hr:q48 rows)(he:d'=r):
 wpM T sh nx0 [] ex t h z nx (qeY fn fun d h _ _=>ws2 h d fun d=>d=r):=by
 refine q04 ?_
 cases ex with
 |exit i=>cases hex
 |normal=>exact q6v hd (qeT hs hr he)
 |ret=>exact q6v hd (qeT hs hr he)
theorem q0a {fn:KFn}{args:List D}{r:D}(hw:wpM T (shr T 6) 0 [.code fn.code] .normal (enter args) empty qhZ 0 (qeY fn fun d h _ _=>ws2 h d fun d=>d=r)):wfun T fn args r:=by
 simp only[wpM]at hw
 exact hw
end
end Go.F
