/- Parts of the proof, part 24: Stop2. -/
import Derived.Test.YtakaifogljbgoaaGreatZ23
set_option linter.all false
namespace Go.F
section
variable {T:Tab}{sh:Shr}{nx0:Nat}{s:List Fr}{t:q0z}{h:q0e}{z:Frz}{nx:Nat}{q:Ex→q0z→q0e→Frz→Nat→Prop}
variable {base i:Nat}{res:List Nat}{dst:Nat}{g:Gd}{rest:List KOper}
theorem qD4 {n:Int}{i:Nat}{k:Nat→Prop}(hn:n=i)(hk:k i):wnat n k:=by subst hn;exact hk
theorem qjQ {d:D}{kk:IntKind}{n:Int}{i:Nat}{k:Nat→Prop}(hd:d=.int kk n)(hn:n=i)(hk:k i):qqd d k:=by subst hd;exact qD4 hn hk
theorem qjR {n:Nat}{es:List D}{k:List D→Prop}(h:es.all (fun d=>d.cells.length==n)=true)(hk:k es):wall n es k:=by unfold wall;exact⟨h,hk⟩
theorem qwA {n:Nat}{es:List D}{off len:Nat}{k:List D→Prop}(h:off+len≤es.length)(ha:((es.drop off).take len).all (fun d=>d.cells.length==n)=true)(hk:k ((es.drop off).take len)):wwin n es off len k:=by unfold wwin;exact⟨⟨h,ha⟩,hk⟩
theorem q0j {x ix:X}{l:List D}{kk:IntKind}{n:Int}{sz:Nat}(k:Nat){d:D}(hx:x.ev t=.lst l)(hi:ix.ev t=.int kk n)(hn:n=k)(hd:l[k]?=some d)(hc:(Nat.beq d.cells.length sz&&Nat.blt 0 sz)=true)
 (hk:wpM T sh nx0 (.ops base res rest::s) .normal (upd t dst (.pl d 0)) h z nx q):
 wpM T sh nx0 (.ops base res (⟨i,some dst,none,g,.ixs sz x ix⟩::rest)::s) .normal t h z nx q:=by
 refine q3P ?_
 simp only[kop,kixs,hx]
 refine qjQ hi hn (qaj hd ?_)
 rw[qbG,hc]
 exact hk
theorem q0J {x ix:X}{id off len:Nat}{es:List D}{esz sz:Nat}{kk:IntKind}{n:Int}(k:Nat)(hx:x.ev t=.ref id off len)(hr:g.h base h id=some (.row es esz))(he:Nat.beq esz sz=true)(hi:ix.ev t=.int kk n)(hn:n=k)(hl:k<len)
 (hk:wpM T sh nx0 (.ops base res rest::s) .normal (upd t dst (.ptr id (off+k) 0)) h z nx q):
 wpM T sh nx0 (.ops base res (⟨i,some dst,none,g,.ixs sz x ix⟩::rest)::s) .normal t h z nx q:=by
 refine q3P ?_
 simp only[kop,kixs,hx,hr,he]
 exact qjQ hi hn (q1A hl hk)
theorem q5P {hint ag:Bool}{n:Nat}{a:X}{id k o:Nat}{es:List D}{esz:Nat}{e d:D}(ha:a.ev t=.ptr id k o)(hr:g.h base h id=some (.row es esz))(he:es[k]?=some e)(hp:qu7 ag n e o=some d)
 (hk:wpM T sh nx0 (.ops base res rest::s) .normal (upd t dst d) h z nx q):
 wpM T sh nx0 (.ops base res (⟨i,some dst,none,g,.load hint ag n a⟩::rest)::s) .normal t h z nx q:=by
 refine q3P ?_
 simp only[kop,qqh,ha,hr]
 exact qaj he (qfa hp hk)
theorem qJ8:∀{es:List D} {i:Nat} {e:D} {f:D→(D→Prop)→Prop} {c:List D→Prop},es[i]?=some e→f e (fun y=>c (es.set i y))→kset es i f c:=by
 intro es
 induction es with
 |nil=>intro i e f c h;simp at h
 |cons x es ih=>
  intro i e f c h hf
  cases i with
  |zero=>simp at h;subst h;exact hf
  |succ i=>simp at h;exact ih h hf
theorem qzv {hint:Bool}{n:Nat}{a v:X}{dst:Option Nat}{id k o:Nat}{es:List D}{esz:Nat}{e e':D}(ha:a.ev t=.ptr id k o)(hv:(Nat.beq (v.ev t).cells.length n&&(v.ev t).sto)=true)(hr:g.h base h id=some (.row es esz))(hz:g.z base z id≤k)
 (he:es[k]?=some e) (hs:qbH e o (v.ev t).cells=some e')
 (hk:wpM T sh nx0 (.ops base res rest::s) .normal (put t dst (.tup [])) (upd h id (some (.row (es.set k e') esz))) z nx q):
 wpM T sh nx0 (.ops base res (⟨i,dst,none,g,.store hint n a v⟩::rest)::s) .normal t h z nx q:=by
 refine q3P ?_
 simp only[kop,qky,ha,hv,hr]
 refine q1A hz (qJ8 he ?_)
 rw[qbG]
 exact qde hs hk
theorem qfg {e:EqK}{x y:X}{kk:IntKind}{a b:Int}(hx:x.ev t=.int kk a)(hy:y.ev t=.int kk b)(hb:b≠0)
 (hk:wpM T sh nx0 (.ops base res rest::s) .normal (upd t dst (.int kk (kk.wrap (a.tdiv b)))) h z nx q):
 wpM T sh nx0 (.ops base res (⟨i,some dst,none,g,.bin .quo e x y⟩::rest)::s) .normal t h z nx q:=by
 refine q3P ?_
 simp only[kop,qqf,hx,hy,q3V,decide_true,Bool.or_true,qse]
 exact q1A hb hk
theorem q2K {e:EqK}{x y:X}{kk:IntKind}{a b:Int}(hx:x.ev t=.int kk a)(hy:y.ev t=.int kk b)(hb:b≠0)
 (hk:wpM T sh nx0 (.ops base res rest::s) .normal (upd t dst (.int kk (a.tmod b))) h z nx q):
 wpM T sh nx0 (.ops base res (⟨i,some dst,none,g,.bin .rem e x y⟩::rest)::s) .normal t h z nx q:=by
 refine q3P ?_
 simp only[kop,qqf,hx,hy,q3V,decide_true,Bool.or_true,qse]
 exact q1A hb hk
theorem atShl {e:EqK}{x y:X}{kk kk':IntKind}{a b:Int}(hx:x.ev t=.int kk a)(hy:y.ev t=.int kk' b)(hb:0≤b)
 (hk:wpM T sh nx0 (.ops base res rest::s) .normal (upd t dst (.int kk (kk.wrap (a*2^min b.toNat kk.bits)))) h z nx q):
 wpM T sh nx0 (.ops base res (⟨i,some dst,none,g,.bin .shl e x y⟩::rest)::s) .normal t h z nx q:=by
 refine q3P ?_
 simp only[kop,qqf,hx,hy,q3V,Bool.true_or,qse]
 exact q1A hb hk
theorem atShr {e:EqK}{x y:X}{kk kk':IntKind}{a b:Int}(hx:x.ev t=.int kk a)(hy:y.ev t=.int kk' b)(hb:0≤b)
 (hk:wpM T sh nx0 (.ops base res rest::s) .normal (upd t dst (.int kk (a.fdiv (2^min b.toNat kk.bits)))) h z nx q):
 wpM T sh nx0 (.ops base res (⟨i,some dst,none,g,.bin .shr e x y⟩::rest)::s) .normal t h z nx q:=by
 refine q3P ?_
 simp only[kop,qqf,hx,hy,q3V,Bool.true_or,qse]
 exact q1A hb hk
theorem qJ9 {f:X}{args:List X}{fid:FuncId}{dst:Option Nat}(hf:f.ev t=.fn fid [] [])(hs:T.shared fid=false)
 (hk:wpM T sh nx0 (.ops base res (⟨i,dst,none,g,.callF fid args⟩::rest)::s) .normal t h z nx q):
 wpM T sh nx0 (.ops base res (⟨i,dst,none,g,.callV f args⟩::rest)::s) .normal t h z nx q:=by
 simp only[wpM,wpo,kop,hf,hs,List.nil_append,List.append_nil]at hk⊢
 exact hk
theorem atCallVD {f:X}{args:List X}{fid:FuncId}{dst:Nat}{a e:List D}{ds:List D}{r:D}(hf:f.ev t=.fn fid a e)(hs:T.shared fid=false)
 (hds:∀k:List D→Prop,k ds→qdq (g.h base h) (a++args.map (·.ev t)++e) k) (hp:T.pu fid ds=some r)
 (hk:∀z,wpM T sh nx0 (.ops base res rest::s) .normal (upd t dst r) h z nx q):
 wpM T sh nx0 (.ops base res (⟨i,some dst,none,g,.callV f args⟩::rest)::s) .normal t h z nx q:=by
 refine q3P ?_
 simp only[kop,hf,hs,q6r]
 refine hds _ ?_
 unfold qbv
 refine⟨r,hp,?_⟩
 simp only[q6L]
 split
 ·exact hk _
 split
 ·exact hk _
 exact hk _
theorem q1g {e:El}{sx x:X}{id0 len id1 k:Nat}{es new:List D}{n1:Nat}(hs:sx.ev t=.ref id0 0 len)(hr:g.h base h id0=some (.row es e.n))(hx:x.ev t=.ref id1 0 k)(hr1:g.h base h id1=some (.row new n1))
 (hk1:k=new.length) (hc:new.all (fun d=>d.cells.length==e.n)=true) (hl:len=es.length) (hz:g.z base z id0≤len) (hb:(es.length+new.length) *(e.b+1)≤q0N)
 (hk:wpM T sh nx0 (.ops base res rest::s) .normal (upd t dst (.ref (base+i) 0 (len+k))) (upd (upd h id0 none) (base+i) (some (.row (es++new) e.n))) (upd z (base+i) (g.z base z id0)) nx q):
 wpM T sh nx0 (.ops base res (⟨i,some dst,none,g,.append e .sl sx x⟩::rest)::s) .normal t h z nx q:=by
 refine q3P ?_
 subst hk1
 have e1:((new.drop 0).take new.length)=new:=by simp
 simp only[kop,q7k,hx,q5K,hr1]
 refine qwA (by omega) (by rw[e1];exact hc) ?_
 rw[e1]
 simp only[q36,hs,hr,Nat.beq_refl]
 subst hl
 rw[List.take_length]
 exact q1A ⟨Nat.le_refl _,hz,hb⟩ hk
theorem qLL {e:El}{sx x:X}{id1 k:Nat}{new:List D}{n1:Nat}(hs:sx.ev t=.nilsl)(hx:x.ev t=.ref id1 0 k)(hr1:g.h base h id1=some (.row new n1))
 (hk1:k=new.length) (hc:new.all (fun d=>d.cells.length==e.n)=true) (hb:new.length*(e.b+1)≤q0N)
 (hk:wpM T sh nx0 (.ops base res rest::s) .normal (upd t dst (.ref (base+i) 0 k)) (upd h (base+i) (some (.row new e.n))) (upd z (base+i) 0) nx q):
 wpM T sh nx0 (.ops base res (⟨i,some dst,none,g,.append e .sl sx x⟩::rest)::s) .normal t h z nx q:=by
 refine q3P ?_
 subst hk1
 have e1:((new.drop 0).take new.length)=new:=by simp
 simp only[kop,q7k,hx,q5K,hr1]
 refine qwA (by omega) (by rw[e1];exact hc) ?_
 rw[e1]
 simp only[q36,hs]
 exact q1A hb hk
theorem qkZ {e:El}{sx x:X}{id0 len:Nat}{es new:List D}(hs:sx.ev t=.ref id0 0 len)(hr:g.h base h id0=some (.row es e.n))(hx:x.ev t=.lst new)
 (hc:new.all (fun d=>d.cells.length==e.n)=true) (hl:len=es.length) (hz:g.z base z id0≤len) (hb:(es.length+new.length) *(e.b+1)≤q0N)
 (hk:wpM T sh nx0 (.ops base res rest::s) .normal (upd t dst (.ref (base+i) 0 (len+new.length))) (upd (upd h id0 none) (base+i) (some (.row (es++new) e.n))) (upd z (base+i) (g.z base z id0)) nx q):
 wpM T sh nx0 (.ops base res (⟨i,some dst,none,g,.append e .sl sx x⟩::rest)::s) .normal t h z nx q:=by
 refine q3P ?_
 simp only[kop,q7k,hx,q5K]
 refine qjR hc ?_
 simp only[q36,hs,hr,Nat.beq_refl]
 subst hl
 rw[List.take_length]
 exact q1A ⟨Nat.le_refl _,hz,hb⟩ hk
theorem qD5 {e:El}{sx x:X}{id0 len:Nat}{es new:List D}(hs:sx.ev t=.ref id0 0 len)(hr:g.h base h id0=some (.row es e.n))(hx:x.ev t=.lst new)
 (hc:new.all (fun d=>d.cells.length==e.n)=true) (hl:len≤es.length) (hz:g.z base z id0≤len) (hb:(len+new.length) *(e.b+1)≤q0N)
 (hk:wpM T sh nx0 (.ops base res rest::s) .normal (upd t dst (.ref (base+i) 0 (len+new.length))) (upd (upd h id0 none) (base+i) (some (.row (es.take len++new) e.n))) (upd z (base+i) (g.z base z id0)) nx q):
 wpM T sh nx0 (.ops base res (⟨i,some dst,none,g,.append e .sl sx x⟩::rest)::s) .normal t h z nx q:=by
 refine q3P ?_
 simp only[kop,q7k,hx,q5K]
 refine qjR hc ?_
 simp only[q36,hs,hr,Nat.beq_refl]
 exact q1A ⟨hl,hz,hb⟩ hk
theorem qFh {e:El}{sx x:X}{n:Nat}(hs:sx.ev t=.nilsl)(hx:x.ev t=.int .i64 n)(hb:n*(e.b+1)≤q0N)
 (hk:wpM T sh nx0 (.ops base res rest::s) .normal (upd t dst (.ref (base+i) 0 n)) (upd h (base+i) (some (.row (List.replicate n e.d) e.n))) (upd z (base+i) 0) nx q):
 wpM T sh nx0 (.ops base res (⟨i,some dst,none,g,.append e .room sx x⟩::rest)::s) .normal t h z nx q:=by
 refine q3P ?_
 have hn:n≤q0N:=Nat.le_trans (Nat.le_mul_of_pos_right n (Nat.succ_pos _)) hb
 simp only[kop,q7k]
 refine qjQ hx rfl (q1A hn ?_)
 simp only[q36,hs,List.length_replicate]
 exact q1A hb hk
theorem quh {e:El}{sx x:X}{new:List D}(hs:sx.ev t=.nilsl)(hx:x.ev t=.lst new)
 (hc:new.all (fun d=>d.cells.length==e.n)=true) (hb:new.length*(e.b+1)≤q0N)
 (hk:wpM T sh nx0 (.ops base res rest::s) .normal (upd t dst (.ref (base+i) 0 new.length)) (upd h (base+i) (some (.row new e.n))) (upd z (base+i) 0) nx q):
 wpM T sh nx0 (.ops base res (⟨i,some dst,none,g,.append e .sl sx x⟩::rest)::s) .normal t h z nx q:=by
 refine q3P ?_
 simp only[kop,q7k,hx,q5K]
 refine qjR hc ?_
 simp only[q36,hs]
 exact q1A hb hk
theorem q48 {e:El}{l c:X}{n:Int}{cap:Int}(k:Nat)(hl:l.ev t=.int .i64 n)(hc:c.ev t=.int .i64 cap)(hn:n=k)(hb:(k:Int)≤cap∧cap*(e.b+1)≤q0N)
 (hk:wpM T sh nx0 (.ops base res rest::s) .normal (upd t dst (.ref (base+i) 0 k)) (upd h (base+i) (some (.row (List.replicate k e.d) e.n))) (upd z (base+i) 0) nx q):
 wpM T sh nx0 (.ops base res (⟨i,some dst,none,g,.mkslice e l c⟩::rest)::s) .normal t h z nx q:=by
 refine q3P ?_
 simp only[kop,hl,hc]
 exact qD4 hn (q1A hb hk)
def qjS (t:q0z)(x:Option X)(dflt a:Nat):Prop:=
 match x with
 |none=>a=dflt
 |some x=>∃kk n,x.ev t=.int kk n∧n=(a:Int)
theorem q6e {x:Option X}{dflt a:Nat}{k:Nat→Prop}(hb:qjS t x dflt a)(hk:k a):q9j t x dflt k:=by
 cases x with
 |none=>simp only[qjS]at hb;subst hb;exact hk
 |some x=>obtain⟨kk,n,h1,h2⟩:=hb;exact qjQ h1 h2 hk
theorem atSl {n:Nat}{x:X}{lo hi:Option X}{l:List D}(a b:Nat)(hx:x.ev t=.lst l)(hc:l.all (fun d=>d.cells.length==n)=true)(hlo:qjS t lo 0 a)(hhi:qjS t hi l.length b)(hab:a≤b∧b≤l.length)
 (hk:wpM T sh nx0 (.ops base res rest::s) .normal (upd t dst (.lst ((l.drop a).take (b-a)))) h z nx q):
 wpM T sh nx0 (.ops base res (⟨i,some dst,none,g,.slsl n x lo hi none⟩::rest)::s) .normal t h z nx q:=by
 refine q3P ?_
 simp only[kop,qqi,hx]
 exact qjR hc (q6e hlo (q6e hhi (q1A hab hk)))
theorem qaB {n:Nat}{x:X}{hi:Option X}{id off len esz:Nat}{es:List D}(b:Nat)(hx:x.ev t=.ref id off len)(hr:g.h base h id=some (.row es esz))(he:Nat.beq esz n=true)(hhi:qjS t hi len b)(hab:b≤len)
 (hk:wpM T sh nx0 (.ops base res rest::s) .normal (upd t dst (.ref id off b)) h z nx q):
 wpM T sh nx0 (.ops base res (⟨i,some dst,none,g,.slsl n x none hi none⟩::rest)::s) .normal t h z nx q:=by
 refine q3P ?_
 simp only[kop,qqi,hx,hr,he]
 exact q6e (a:=0) rfl (q6e hhi (q1A ⟨Nat.zero_le _,hab⟩ hk))
theorem qzw {n:Nat}{x lo:X}{hi:Option X}{id off len esz:Nat}{es:List D}(a b:Nat)(hx:x.ev t=.ref id off len)(hr:g.h base h id=some (.row es esz))(he:Nat.beq esz n=true)(hlo:qjS t (some lo) 0 a)(hhi:qjS t hi len b)(hab:a≤b∧b≤len)
 (hk:wpM T sh nx0 (.ops base res rest::s) .normal (upd t dst (if a=0 then .ref id off b else if a=b then .lst []else .ref id (off+a) (b-a))) h z nx q):
 wpM T sh nx0 (.ops base res (⟨i,some dst,none,g,.slsl n x (some lo) hi none⟩::rest)::s) .normal t h z nx q:=by
 refine q3P ?_
 simp only[kop,qqi,hx,hr,he]
 refine q6e hlo (q6e hhi (q1A hab ?_))
 by_cases h0:a=0
 ·subst h0;simp only[if_true]at hk;exact hk
 have hb0:Nat.beq a 0=false:=by cases a with|zero=>exact absurd rfl h0|succ a=>rfl
 rw[hb0]
 simp only[wb]
 rw[if_neg h0]at hk
 by_cases h1:a=b
 ·subst h1;simp only[Nat.beq_refl,if_true]at hk⊢;exact hk
 have hb1:Nat.beq a b=false:=by
  cases hb:Nat.beq a b with
  |false=>rfl
  |true=>exact absurd (Nat.eq_of_beq_eq_true hb) h1
 rw[hb1]
 rw[if_neg h1]at hk
 exact hk
theorem q2q {x ix:X}{st:ByteArray}{kk:IntKind}{n:Int}(k:Nat){b:UInt8}(hx:x.ev t=.str st)(hi:ix.ev t=.int kk n)(hn:n=k)(hd:st.toList[k]?=some b)
 (hk:wpM T sh nx0 (.ops base res rest::s) .normal (upd t dst (.int .u8 b.toNat)) h z nx q):
 wpM T sh nx0 (.ops base res (⟨i,some dst,none,g,.istr x ix⟩::rest)::s) .normal t h z nx q:=by
 refine q3P ?_
 simp only[kop,qGJ,hx]
 exact qjQ hi hn (qaj hd hk)
theorem q6y {n:Nat}{f:FuncId}{args:List X}{fn:KFn}{dst:Option Nat}(hs:T.shared f=true)(ht:T.tab f=some fn)
 (hk:wpM T (shr T n) nx [.code fn.code] .normal (enter (args.map (·.ev t))) h z nx (qdr fn fun v h z nx=>wpM T (shr T (n+1)) nx0 (.ops base res rest::s) .normal (put t dst v) h z nx q))
 (he:(fn.em&&q8l (args.map (·.ev t)))=false:=by rfl):
 wpM T (shr T (n+1)) nx0 (.ops base res (⟨i,dst,none,g,.callF f args⟩::rest)::s) .normal t h z nx q:=by
 refine q3P ?_
 simp only[kop,q6r,hs,shr,ht,he]
 simp only[wpM]at hk
 exact hk
theorem qwB {n:Nat}{f:FuncId}{args:List X}{fn:KFn}{dst:Option Nat}(hs:T.shared f=true)(ht:T.tab f=some fn)(he:(fn.em&&q8l (args.map (·.ev t)))=true)
 (hk:wpM T (shr T (n+1)) nx0 (.ops base res rest::s) .normal (put t dst (.lst [])) h z nx q):
 wpM T (shr T (n+1)) nx0 (.ops base res (⟨i,dst,none,g,.callF f args⟩::rest)::s) .normal t h z nx q:=by
 refine q3P ?_
 simp only[kop,q6r,hs,shr,ht,he]
 exact hk
def dat:Nat→D→Bool
 |0,_=>false
 |n+1,d=>
  match d with
  |.bool _|.int _ _|.float _ _|.str _|.lst _|.mlst _ _|.opq _|.pl _ _=>true
  |.agg l=>l.all (dat n)
  |.tup l=>l.all (dat n)
  |_=>false
theorem qrk {hp:q0e}:∀(n m:Nat) (d:D),dat n d=true→n≤m→q1b hp m d=some d:=by
 intro n
 induction n with
 |zero=>intro m d hd;simp[dat]at hd
 |succ n ih=>
  intro m d hd hm
  obtain⟨m,rfl⟩:∃k,m=k+1:=⟨m-1,by omega⟩
  have list:∀l:List D,l.all (dat n)=true→l.mapM (q1b hp m)=some l:=by
   intro l
   induction l with
   |nil=>intro _;rfl
   |cons x l ihl=>
    intro hl
    simp only[List.all_cons,Bool.and_eq_true]at hl
    simp[List.mapM_cons,ih m x hl.1 (by omega),ihl hl.2]
  cases d with
  |agg l=>simp only[dat]at hd;simp[q1b,list l hd]
  |tup l=>simp only[dat]at hd;simp[q1b,list l hd]
  |_=>first|(simp[dat]at hd;done) |simp[q1b]
theorem qbK {hp:q0e}{es:List D}(hd:es.all (dat 4)=true):es.mapM (q1b hp 8)=some es:=by
 induction es with
 |nil=>rfl
 |cons x es ih=>
  simp only[List.all_cons,Bool.and_eq_true]at hd
  simp[List.mapM_cons,qrk 4 8 x hd.1 (by omega),ih hd.2]
def dr0 (h:q0e)(d:D):Option (List (List D×Nat×Nat)×D):=
 match d with
 |.bool b=>some ([],.bool b)
 |.int i n=>some ([],.int i n)
 |.float i n=>some ([],.float i n)
 |.str s=>some ([],.str s)
 |.nilsl=>some ([],.lst [])
 |.lst l=>some ([],.lst l)
 |.mlst a b=>some ([],.mlst a b)
 |.ref id off len=>
  match h id with
  |some (.row es _)=>
   match off with
   |0=>some ([(es,0,len)],.lst (es.take len))
   |off+1=>some ([(es,off+1,len)],.lst ((es.drop (off+1)).take len))
  |_=>none
 |.fn f [] []=>some ([],.fn f [] [])
 |_=>none
def drL0 (h:q0e):List D→Option (List (List D×Nat×Nat)×List D)
 |[]=>some ([],[])
 |x::xs=>
  match dr0 h x with
  |some (r,x)=>
   match drL0 h xs with
   |some (rs,xs)=>fL0 xs fun xs=>some (r++rs,x::xs)
   |none=>none
  |none=>none
def dr1 (h:q0e)(d:D):Option (List (List D×Nat×Nat)×D):=
 match d with
 |.agg l=>
  match drL0 h l with
  |some (r,l)=>fL0 l fun l=>some (r,.agg l)
  |none=>none
 |d=>dr0 h d
def qzx (h:q0e):List D→Option (List (List D×Nat×Nat)×List D)
 |[]=>some ([],[])
 |x::xs=>
  match dr1 h x with
  |some (r,x)=>f1 x fun x=>
   match qzx h xs with
   |some (rs,xs)=>fL1 xs fun xs=>some (r++rs,x::xs)
   |none=>none
  |none=>none
def dr2 (h:q0e)(d:D):Option (List (List D×Nat×Nat)×D):=
 match d with
 |.tup l=>
  match qzx h l with
  |some (r,l)=>fL1 l fun l=>some (r,.tup l)
  |none=>none
 |d=>dr1 h d
def q4u:List (List D×Nat×Nat)→Prop
 |[]=>True
 |x::rest=>(x.2.1+x.2.2≤x.1.length∧((x.1.drop x.2.1).take x.2.2).all (dat 4)=true)∧q4u rest
theorem qfh:∀{a b:List (List D×Nat×Nat)},q4u (a++b)→q4u a∧q4u b:=by
 intro a
 induction a with
 |nil=>intro b h;exact⟨trivial,h⟩
 |cons x a ih=>intro b h;obtain⟨h1,h2⟩:=ih h.2;exact⟨⟨h.1,h1⟩,h2⟩
theorem qui {hp:q0e}{d d':D}{r:List (List D×Nat×Nat)}{k:D→Prop}(hd:dr0 hp d=some (r,d'))(hr:q4u r)(hk:k d'):ws0 hp d k:=by
 unfold dr0 at hd
 split at hd
 case h_8=>
  rename_i id off len
  split at hd
  ·rename_i es esz hb
   split at hd
   ·simp only[Option.some.injEq,Prod.mk.injEq]at hd
    obtain⟨rfl,rfl⟩:=hd
    simp only[ws0,hb]
    unfold qE8
    refine⟨_,hr.1.1,qbK hr.1.2,?_⟩
    simpa using hk
   simp only[Option.some.injEq,Prod.mk.injEq]at hd
   obtain⟨rfl,rfl⟩:=hd
   simp only[ws0,hb]
   unfold qE8
   exact⟨_,hr.1.1,qbK hr.1.2,hk⟩
  cases hd
 all_goals first|(simp only[Option.some.injEq,Prod.mk.injEq]at hd;obtain⟨rfl,rfl⟩:=hd;exact hk) |cases hd
theorem qC0 {hp:q0e}:∀{l l':List D} {r:List (List D×Nat×Nat)} {k:List D→Prop},drL0 hp l=some (r,l')→q4u r→k l'→qvu hp l k:=by
 intro l
 induction l with
 |nil=>intro l' r k hd _ hk;simp only[drL0,Option.some.injEq,Prod.mk.injEq]at hd;obtain⟨rfl,rfl⟩:=hd;exact hk
 |cons x l ih=>
  intro l' r k hd hr hk
  simp only[drL0]at hd
  split at hd
  ·rename_i r1 x' hx
   split at hd
   ·rename_i rs xs hxs
    rw[q9q]at hd
    simp only[Option.some.injEq,Prod.mk.injEq]at hd
    obtain⟨rfl,rfl⟩:=hd
    obtain⟨h1,h2⟩:=qfh hr
    simp only[qvu]
    exact qui hx h1 (ih hxs h2 hk)
   cases hd
  cases hd
theorem quj {hp:q0e}{d d':D}{r:List (List D×Nat×Nat)}{k:D→Prop}(hd:dr1 hp d=some (r,d'))(hr:q4u r)(hk:k d'):ws1 hp d k:=by
 unfold dr1 at hd
 unfold ws1
 split at hd
 ·split at hd
  ·rename_i r1 l hl
   rw[q9q]at hd
   simp only[Option.some.injEq,Prod.mk.injEq]at hd
   obtain⟨rfl,rfl⟩:=hd
   exact qC0 hl hr hk
  cases hd
 rename_i hne
 split
 ·rename_i l;exact absurd rfl (hne l)
 ·rename_i f a c
  match a,c,hd with
  |[],[],hd=>simp only[dr0,Option.some.injEq,Prod.mk.injEq]at hd;obtain⟨rfl,rfl⟩:=hd;exact hk
  |x::_,_,hd=>simp[dr0]at hd
  |[],x::_,hd=>simp[dr0]at hd
 exact qui hd hr hk
theorem qcp {hp:q0e}:∀{l l':List D} {r:List (List D×Nat×Nat)} {k:List D→Prop},qzx hp l=some (r,l')→q4u r→k l'→qdq hp l k:=by
 intro l
 induction l with
 |nil=>intro l' r k hd _ hk;simp only[qzx,Option.some.injEq,Prod.mk.injEq]at hd;obtain⟨rfl,rfl⟩:=hd;exact hk
 |cons x l ih=>
  intro l' r k hd hr hk
  simp only[qzx]at hd
  split at hd
  ·rename_i r1 x' hx
   rw[qz7]at hd
   split at hd
   ·rename_i rs xs hxs
    rw[q5X]at hd
    simp only[Option.some.injEq,Prod.mk.injEq]at hd
    obtain⟨rfl,rfl⟩:=hd
    obtain⟨h1,h2⟩:=qfh hr
    simp only[qdq]
    exact quj hx h1 (ih hxs h2 hk)
   cases hd
  cases hd
theorem qfS {hp:q0e}{d d':D}{r:List (List D×Nat×Nat)}{k:D→Prop}(hd:dr2 hp d=some (r,d'))(hr:q4u r)(hk:k d'):ws2 hp d k:=by
 unfold dr2 at hd
 unfold ws2
 split at hd
 ·split at hd
  ·rename_i r1 l hl
   rw[q5X]at hd
   simp only[Option.some.injEq,Prod.mk.injEq]at hd
   obtain⟨rfl,rfl⟩:=hd
   exact qcp hl hr hk
  cases hd
 rename_i hne
 split
 ·rename_i l;exact absurd rfl (hne l)
 exact quj hd hr hk
def dres1 (t:q0z)(h:q0e)(r:KRes):Option D:=
 match r with
 |.t i=>some (t i)
 |.cell a ag n=>qD0 true h ag n (t a)
def qzy (t:q0z)(h:q0e):List KRes→Option (List D)
 |[]=>some []
 |r::rs=>
  match dres1 t h r with
  |some d=>f1 d fun d=>
   match qzy t h rs with
   |some ds=>fL1 ds fun ds=>some (d::ds)
   |none=>none
  |none=>none
def dres (t:q0z)(h:q0e)(rs:List KRes):Option D:=
 match qzy t h rs with
 |some [d]=>some d
 |some l=>some (.tup l)
 |none=>none
theorem qnc:∀{rs:List KRes} {l:List D} {k:List D→Prop},qzy t h rs=some l→k l→qtM t h rs k:=by
 intro rs
 induction rs with
 |nil=>intro l k hd hk;simp only[qzy,Option.some.injEq]at hd;subst hd;exact hk
 |cons r rs ih=>
  intro l k hd hk
  simp only[qzy]at hd
  split at hd
  ·rename_i d hr
   rw[qz7]at hd
   split at hd
   ·rename_i ds hds
    rw[q5X]at hd
    cases hd
    simp only[qtM]
    unfold dres1 at hr
    unfold qye
    split at hr
    ·cases hr;simp only[q6L];exact ih hds hk
    refine qn5 hr ?_
    rw[q6L];exact ih hds hk
   cases hd
  cases hd
theorem q79 {rs:List KRes}{d:D}{k:D→Prop}(hd:dres t h rs=some d)(hk:k d):qE9 t h rs k:=by
 unfold dres at hd
 unfold qE9
 split at hd
 ·rename_i d' hl
  cases hd
  exact qnc hl hk
 ·rename_i l hne hl
  cases hd
  refine qnc hl ?_
  split
  ·rename_i d;exact absurd rfl (hne d)
  exact hk
 cases hd
theorem q09 {fn:KFn}{ex:Ex}{r d d':D}{rows:List (List D×Nat×Nat)}(hex:(match ex with|.exit _=>false|_=>true)=true)(hd:dres t h fn.res=some d)(hs:dr2 h d=some (rows,d'))(hr:q4u rows)(he:d'=r):
 wpM T sh nx0 [] ex t h z nx (qdr fn fun d h _ _=>ws2 h d fun d=>d=r):=by
 refine q04 ?_
 cases ex with
 |exit i=>cases hex
 |normal=>exact q79 hd (qfS hs hr he)
 |ret=>exact q79 hd (qfS hs hr he)
theorem q0a {fn:KFn}{args:List D}{r:D}(hw:wpM T (shr T 6) 0 [.code fn.code] .normal (enter args) empty qgU 0 (qdr fn fun d h _ _=>ws2 h d fun d=>d=r)):wfun T fn args r:=by
 simp only[wpM]at hw
 exact hw
end
end Go.F
