/- Parts of the proof, part 26: KSound. -/
import Derived.Test.YtakaifogljbgoaaGreatZ24
import Derived.Test.YtakaifogljbgoaaGreatZ25
import Derived.Test.YtakaifogljbgoaaGreatZ3
set_option linter.all false
namespace Go.F
def Evt (p:Nat→Prop):Prop:=∃N,∀M,N≤M→p M
theorem Evt.all {p:Nat→Prop}(h:∀M,p M):Evt p:=⟨0,fun M _=>h M⟩
theorem Evt.and {p r:Nat→Prop}(hp:Evt p)(hr:Evt r):Evt fun M=>p M∧r M:=by
 obtain⟨a,ha⟩:=hp
 obtain⟨b,hb⟩:=hr
 exact⟨max a b,fun M hM=>⟨ha M (by omega),hb M (by omega)⟩⟩
theorem Evt.mono {p r:Nat→Prop}(hp:Evt p)(h:∀M,p M→r M):Evt r:=by
 obtain⟨a,ha⟩:=hp
 exact⟨a,fun M hM=>h M (ha M hM)⟩
section
variable {P:Program}{T:Tab}{sh:Shr}{E:Nat→Env}{t:q0z}{gh h:q0e}{gz z:Frz}{nx id:Nat}{c:D→q0e→Frz→Nat→Prop}{vt:List Nat}
theorem q2m {x:Operand}{y:X}(hx:cx x=some y):ev t x=y.ev t:=by
 cases x<;>simp only[cx,Option.some.injEq,reduceCtorEq]at hx<;>(subst hx;rfl)
theorem qhv:∀{l:List Operand} {ys:List X},cxs l=some ys→l.map (ev t)=ys.map (·.ev t):=by
 intro l
 induction l with
 |nil=>intro ys hy;simp[cxs]at hy;subst hy;rfl
 |cons x l ih=>
  intro ys hy
  simp only[cxs,List.mapM_cons]at hy
  cases hx:cx x with
  |none=>simp[hx]at hy
  |some y=>
   cases hl:l.mapM cx with
   |none=>simp[hx,hl]at hy
   |some l'=>
    simp[hx,hl]at hy
    subst hy
    simp[q2m hx,ih (ys:=l') hl]
theorem q7D {α:Type}:∀{l:List α} {i:Nat} {k:α→Prop},qqe l i k→∃x,l[i]?=some x∧k x:=by
 intro l
 induction l with
 |nil=>intro i k h;exact h.elim
 |cons y l ih=>
  intro i k h
  cases i with
  |zero=>exact⟨y,by simp,h⟩
  |succ i=>obtain⟨x,h1,h2⟩:=ih h;exact⟨x,by simpa using h1,h2⟩
theorem qeV {α:Type}{o:Option α}{k:α→Prop}(h:wo o k):∃x,o=some x∧k x:=by
 cases o with
 |none=>exact h.elim
 |some x=>exact⟨x,rfl,h⟩
theorem q1p {p x:Prop}(h:q3l p x):p∧x:=by unfold q3l at h;exact h
theorem qyf {n:Int}{k:Nat→Prop}(h:wnat n k):∃i:Nat,n=i∧k i:=by
 cases n with
 |ofNat i=>exact⟨i,rfl,h⟩
 |negSucc i=>exact h.elim
theorem q6s {d:D}{k:Nat→Prop}(h:qqd d k):∃i:Nat,qeE d=some i∧k i:=by
 cases d with
 |int kk n=>
  obtain⟨i,h1,h2⟩:=qyf h
  subst h1
  exact⟨i,by simp[qeE],h2⟩
 |_=>exact h.elim
theorem qjf {n:Nat}{es:List D}{k:List D→Prop}(h:wall n es k):es.all (fun d=>d.cells.length==n)=true∧k es:=by unfold wall at h;exact h
theorem qeW {n:Nat}{x:D}{k:List D→Prop}(hw:q5K n gh x k):∃l,window gh x=some l∧l.all (fun d=>d.cells.length==n)=true∧k l:=by
 cases x with
 |nilsl=>exact⟨[],rfl,rfl,hw⟩
 |lst l=>obtain⟨h1,h2⟩:=qjf hw;exact⟨l,rfl,h1,h2⟩
 |ref i off len=>
  simp only[q5K]at hw
  split at hw
  ·rename_i es esz hb
   unfold wwin at hw
   exact⟨_,by simp[window,hb,hw.1.1],hw.1.2,hw.2⟩
  exact hw.elim
 |_=>exact hw.elim
theorem q41 {lo:Option Operand}{x:Option X}{dflt:Nat}{k:Nat→Prop}(hx:cxo lo=some x)(hw:q9j t x dflt k):∃a,bound (q9z t lo) dflt=some a∧k a:=by
 cases lo with
 |none=>simp only[cxo,Option.some.injEq]at hx;subst hx;exact⟨dflt,rfl,hw⟩
 |some o=>
  simp only[cxo]at hx
  cases ho:cx o with
  |none=>simp[ho]at hx
  |some y=>
   simp[ho]at hx
   subst hx
   obtain⟨i,h1,h2⟩:=q6s hw
   refine⟨i,?_,h2⟩
   simp only[q9z,Option.map_some,bound,q2m ho]
   exact h1
theorem qyg:∀{ks:List FK} {xs ys:List D} {b:Bool},q40 ks xs ys=some b→ks.length=xs.length∧ks.length=ys.length:=by
 intro ks
 induction ks with
 |nil=>
  intro xs ys b hk
  match xs,ys,hk with
  |[],[],hk=>simp
  |[],_::_,hk=>simp[q40]at hk
  |_::_,_,hk=>simp[q40]at hk
 |cons k ks ih=>
  intro xs ys b hk
  match xs,ys,hk with
  |[],_,hk=>simp[q40]at hk
  |_::_,[],hk=>simp[q40]at hk
  |x::xs,y::ys,hk=>
   simp only[q40]at hk
   split at hk
   ·rename_i b1 r h1 h2
    obtain⟨e1,e2⟩:=ih h2
    simp[e1,←e2]
   cases hk
theorem qsf:∀{fs:List Field} {xs ys:List D} {b:Bool},(∀f∈fs,P.underlying f.type=some .bool∨(∃k,P.underlying f.type=some (.int k))∨P.underlying f.type=some .string)→
 q40 (fs.map (qDt P)) xs ys=some b→q23 P fs xs ys=some b:=by
 intro fs
 induction fs with
 |nil=>
  intro xs ys b _ hk
  match xs,ys,hk with
  |[],[],hk=>simp only[List.map_nil,q40,Option.some.injEq]at hk;subst hk;rfl
  |[],_::_,hk=>simp[q40]at hk
  |_::_,_,hk=>simp[q40]at hk
 |cons f fs ih=>
  intro xs ys b hflat hk
  match xs,ys,hk with
  |[],_,hk=>simp[q40]at hk
  |_::_,[],hk=>simp[q40]at hk
  |x::xs,y::ys,hk=>
   simp only[List.map_cons,q40]at hk
   split at hk
   ·rename_i b1 r h1 h2
    cases hk
    have hr:=ih (fun f hf=>hflat f (List.mem_cons_of_mem _ hf)) h2
    obtain⟨l1,l2⟩:=qyg h2
    simp only[List.length_map]at l1 l2
    have key:q3J P f x=true∧q3J P f y=true∧qap x y=some b1:=by
     rcases hflat f (List.mem_cons_self ..)with hu|⟨k,hu⟩ |hu
     ·simp only[qDt,hu]at h1
      cases x<;>cases y<;>first|(simp only[qAV,reduceCtorEq]at h1;done) |(simp only[qAV,Option.some.injEq]at h1;subst h1;simp[q3J,hu,qap])
     ·simp only[qDt,hu]at h1
      cases x<;>cases y<;>first|(simp only[qAV,reduceCtorEq]at h1;done) |skip
      simp only[qAV]at h1
      split at h1
      ·rename_i hij;cases h1;simp[q3J,hu,qap,hij,eqb]
      cases h1
     simp only[qDt,hu]at h1
     cases x<;>cases y<;>first|(simp only[qAV,reduceCtorEq]at h1;done) |(simp only[qAV,Option.some.injEq]at h1;subst h1;simp[q3J,hu,qap])
    simp only[q23,key.1,key.2.1,key.2.2,Bool.and_self,if_true]
    cases b1 with
    |true=>simpa using hr
    |false=>simp[←l1,←l2]
   cases hk
theorem qjg {ty:TypeId}{x y:D}{b:Bool}(hk:qc8 (eqk P ty) x y=some b):equal P ty x y=some b:=by
 unfold qc8 at hk
 split at hk
 ·rename_i a b' he
  simp only[eqk]at he
  simp only[equal]
  split at he
  ·rename_i hu;rw[hu];exact hk
  ·rename_i fs hu
   split at he<;>cases he
  cases he
 ·rename_i ks xs ys he
  have hf:∃fs,q96 P ty=some fs∧ks=fs.map (qDt P):=by
   simp only[eqk]at he
   split at he
   ·cases he
   ·split at he
    ·rename_i fs hfs;cases he;exact⟨fs,hfs,rfl⟩
    cases he
   cases he
  obtain⟨fs,hfs,rfl⟩:=hf
  simp only[equal,hfs]
  refine qsf ?_ hk
  have one:∀{f:Field} {i:Nat},q66 P f i=true→P.underlying f.type=some .bool∨(∃k,P.underlying f.type=some (.int k))∨P.underlying f.type=some .string:=by
   intro f i hff
   simp only[q66,Bool.and_eq_true]at hff
   have h3:=hff.2
   split at h3
   ·rename_i hu;exact .inl hu
   ·rename_i k hu;exact .inr (.inl ⟨k,hu⟩)
   ·rename_i hu;exact .inr (.inr hu)
   cases h3
  have flat:∀{t:TypeId} {fs:List Field},q5S P t=some fs→∀f∈fs,P.underlying f.type=some .bool∨(∃k,P.underlying f.type=some (.int k))∨P.underlying f.type=some .string:=by
   intro t fs hfs f hf
   obtain⟨fa,hu,rfl,hall,_⟩:=q5H hfs
   obtain⟨i,hi,rfl⟩:=List.mem_iff_getElem.1 hf
   exact one (List.all_eq_true.1 hall (fa.toList[i],i) (by
    rw[List.mem_zipIdx_iff_getElem?]
    simp[List.getElem?_eq_getElem hi]))
  have deep:∀(fs:List Field) (i:Nat) (ls:List Field),q7h P fs i=some ls→∀f∈ls,P.underlying f.type=some .bool∨(∃k,P.underlying f.type=some (.int k))∨P.underlying f.type=some .string:=by
   intro fs
   induction fs with
   |nil=>intro i ls hl f hf;simp only[q7h,Option.some.injEq]at hl;subst hl;simp at hf
   |cons g fs ih=>
    intro i ls hl f hf
    simp only[q7h]at hl
    split at hl
    ·rename_i hff
     split at hl
     ·rename_i l hll
      cases hl
      rcases List.mem_cons.1 hf with rfl|hf
      ·exact one hff
      exact ih _ _ hll f hf
     cases hl
    split at hl
    ·rename_i l hfs
     split at hl
     ·split at hl
      ·rename_i r hr
       cases hl
       rcases List.mem_append.1 hf with hf|hf
       ·exact flat hfs f hf
       exact ih _ _ hr f hf
      cases hl
     cases hl
    cases hl
  rcases q7Q hfs with hfs|⟨fa,_,hl,_⟩
  ·exact flat hfs
  exact deep _ _ _ hl
 ·rename_i he
  simp only[eqk]at he
  split at he
  ·cases he
  ·split at he<;>cases he
  cases he
 cases hk
theorem qAY {op:BinOp}{k:IntKind}{a b:Int}{c:D→Prop}(hs:q3V op=false)(hk:qse op k a b c):∃d,arith op k a b=some d∧c d:=by
 cases op<;>simp only[q3V,reduceCtorEq]at hs<;>simp only[qse]at hk
 case quo=>obtain⟨h1,h2⟩:=q1p hk;exact⟨_,by simp only[arith];rw[if_neg h1],h2⟩
 case rem=>obtain⟨h1,h2⟩:=q1p hk;exact⟨_,by simp only[arith];rw[if_neg h1],h2⟩
 case eql=>exact⟨_,rfl,by simpa only[eqb]using hk⟩
 case neq=>exact⟨_,rfl,by simpa only[nqb]using hk⟩
 case lss=>exact⟨_,rfl,by simpa only[ltb]using hk⟩
 case leq=>exact⟨_,rfl,by simpa only[leb]using hk⟩
 case gtr=>exact⟨_,rfl,by simpa only[ltb]using hk⟩
 case geq=>exact⟨_,rfl,by simpa only[leb]using hk⟩
 all_goals exact⟨_,rfl,hk⟩
theorem qAZ {op:BinOp}{k:IntKind}{a b:Int}{c:D→Prop}(hs:q3V op=true)(hk:qse op k a b c):∃d,shift op k a b=some d∧c d:=by
 cases op<;>simp only[q3V,reduceCtorEq]at hs<;>simp only[qse]at hk
 ·obtain⟨h1,h2⟩:=q1p hk
  exact⟨_,by simp only[shift];rw[if_neg (by omega)],h2⟩
 obtain⟨h1,h2⟩:=q1p hk
 exact⟨_,by simp only[shift];rw[if_neg (by omega)],h2⟩
theorem qB0 {op:BinOp}{ty:TypeId}{x y:D}{c:D→Prop}(hk:qqf op (match op with|.eql=>eqk P ty|.neq=>eqk P ty|_=> .no) x y c):∃d,bin P op ty x y=some d∧c d:=by
 unfold qqf at hk
 unfold bin
 split at hk
 ·rename_i k a k' b
  split at hk
  ·rename_i hor
   cases hs:q3V op with
   |true=>simp only[if_true];exact qAZ hs hk
   |false=>
    have hkk:k=k':=by simpa[hs]using hor
    simp only[Bool.false_eq_true,if_false,hkk,if_true]
    subst hkk
    exact qAY hs hk
  exact hk.elim
 ·exact qeV hk
 rename_i h1 h2
 split at hk
 ·obtain⟨b,h3,h4⟩:=qeV hk
  have:=qjg h3
  refine⟨.bool b,?_,h4⟩
  split
  ·exact(h1 _ _ _ _ rfl rfl).elim
  ·exact(h2 _ _ rfl rfl).elim
  simp[this]
 ·obtain⟨b,h3,h4⟩:=qeV hk
  have:=qjg h3
  refine⟨.bool !b,?_,h4⟩
  split
  ·exact(h1 _ _ _ _ rfl rfl).elim
  ·exact(h2 _ _ rfl rfl).elim
  simp[this]
 exact hk.elim
theorem qyh {t:q0z}{op:BinOp}{ty:TypeId}{x y:Operand}{c:D→Prop}(hk:qqf op (match op with|.eql=>eqky (eqk P) P ty y|.neq=>eqky (eqk P) P ty y|_=> .no) (ev t x) (ev t y) c):∃d,binX P t op ty x y=some d∧c d:=by
 unfold eqky at hk
 unfold binX
 cases hn:qbk y&&isSlice P ty with
 |false=>
  simp only[hn,Bool.false_and]at hk⊢
  exact qB0 hk
 |true=>
  have hy:ev t y=.nilsl:=by
   rw[Bool.and_eq_true]at hn
   have h1:=hn.1
   unfold qbk at h1
   split at h1
   ·rfl
   cases h1
  simp only[hn,Bool.true_and]at hk⊢
  rw[hy]at hk⊢
  unfold qqf at hk
  split at hk
  ·rename_i h;cases h
  ·rename_i h;cases h
  cases op<;>simp only at hk<;>try exact hk.elim
  all_goals
   simp only[qc8]at hk
   cases hx:qhg (ev t x)with
   |true=>rw[hx]at hk;exact⟨_,rfl,hk⟩
   |false=>rw[hx]at hk;exact hk.elim
theorem qEa {op:UnOp}{x:D}{c:D→Prop}(hk:kun op x c):∃d,un op x=some d∧c d:=by
 unfold kun at hk
 split at hk
 ·exact⟨_,rfl,hk⟩
 ·exact⟨_,rfl,hk⟩
 exact qeV hk
theorem qyi {a b:TypeId}{x:D}{c:D→Prop}(hk:qeT gh (cvk P a b) x c):∃d,conv P gh a b x=some d∧c d:=by
 unfold cvk at hk
 split at hk
 ·rename_i u1 k hs hd
  simp only[qeT]at hk
  split at hk
  ·exact⟨_,by simp only[conv,hs,hd],hk⟩
  ·rename_i s bits
   obtain⟨n,h1,h2⟩:=qeV hk
   obtain⟨h3,h4⟩:=q1p h2
   exact⟨_,by simp only[conv,hs,hd,h1];rw[if_pos h3],h4⟩
  exact hk.elim
 ·rename_i u1 k hs hd
  simp only[qeT]at hk
  split at hk
  ·exact⟨_,by simp only[conv,hs,hd],hk⟩
  exact hk.elim
 ·rename_i e hs hd
  split at hk
  ·rename_i he
   simp only[qeT]at hk
   split at hk
   ·exact⟨_,by simp only[conv,hs,hd],hk⟩
   rename_i hns
   obtain⟨l,h1,h2,h3⟩:=qeW hk
   obtain⟨bs,h4,h5⟩:=qeV h3
   refine⟨.str ⟨bs.toArray⟩,?_,h5⟩
   cases x<;>first|(simp[window]at h1;done) |(exact absurd rfl (hns _)) |(simp only[conv,hs,hd,he,h1];rw[if_pos h2,h4];rfl)
  simp only[qeT]at hk
  split at hk
  ·exact⟨_,by simp only[conv,hs,hd],hk⟩
  exact hk.elim
 ·rename_i u1 hns hs hd
  simp only[qeT]at hk
  split at hk
  ·exact⟨_,by simp only[conv,hs,hd],hk⟩
  exact hk.elim
 exact hk.elim
theorem qyj {ag:Bool}{n:Nat}{e:D}{o:Nat}{c:D→Prop}(hk:qqg ag n e o c):∃d,(match ag with|true=>(if o+n≤e.cells.length then some (.agg ((e.cells.drop o).take n))else none) |false=>e.cells[o]?)=some d∧c d:=by
 unfold qqg at hk
 rw[qbG]at hk
 cases ag with
 |true=>
  simp only at hk⊢
  split at hk
  ·rename_i hb;exact⟨_,by rw[if_pos (Nat.le_of_ble_eq_true hb)],hk⟩
  exact hk.elim
 |false=>exact q7D hk
theorem qmS {ty:TypeId}{a:D}{ag:Bool}{n:Nat}{c:D→Prop}(h1:isAgg P ty=some ag)(h2:sizeOf P ty=some n)(hk:qqh gh ag n a c):∃d,load P gh ty a=some d∧c d:=by
 unfold qqh at hk
 have fin:∀{cs:List D} {o:Nat} {e:D},q4T gh a=some (e.cells,o)→qqg ag n e o c→∃d,load P gh ty a=some d∧c d:=by
  intro cs o e hc hp
  obtain⟨d,h3,h4⟩:=qyj hp
  refine⟨d,?_,h4⟩
  unfold load
  rw[hc,h1,h2]
  cases ag with
  |true=>simpa using h3
  |false=>simpa using h3
 split at hk
 ·rename_i id i o
  split at hk
  ·rename_i es esz hb
   obtain⟨e,h3,h4⟩:=q7D hk
   exact fin (cs:=e.cells) (by simp[q4T,hb,h3]) h4
  exact hk.elim
 ·exact fin (cs:=[]) rfl hk
 exact hk.elim
theorem qnD {e:D}{o:Nat}{vs:List D}{c:D→Prop}(hk:qbu e o vs c):∃e',setCells e o vs=some e'∧c e':=by
 unfold qbu at hk
 unfold setCells
 split at hk
 ·split at hk
  ·rename_i hb;rw[q9q]at hk;exact⟨_,by simp only;rw[if_pos (Nat.le_of_ble_eq_true hb)],hk⟩
  exact hk.elim
 rename_i hne
 split at hk
 ·refine⟨_,?_,hk⟩
  cases e<;>first|exact absurd rfl (hne _) |rfl
 exact hk.elim
theorem qGN:∀{es:List D} {i:Nat} {f:D→(D→Prop)→Prop} {c:List D→Prop},kset es i f c→∃e,es[i]?=some e∧f e (fun y=>c (es.set i y)):=by
 intro es
 induction es with
 |nil=>intro i f c h;exact h.elim
 |cons x es ih=>
  intro i f c h
  cases i with
  |zero=>exact⟨x,by simp,h⟩
  |succ i=>obtain⟨e,h1,h2⟩:=ih h;exact⟨e,by simpa using h1,h2⟩
theorem qvx {ty:TypeId}{a v:D}{n:Nat}{c:q0e→Prop}(h2:sizeOf P ty=some n)(hk:qky gh gz h n a v c):∃r,store P gh gz ty a v=some r∧r.v=.tup []∧r.fz=[]∧c (q0A h r.hp):=by
 unfold qky at hk
 split at hk
 ·rename_i id i o
  split at hk
  ·rename_i hb
   simp only[Bool.and_eq_true]at hb
   split at hk
   ·rename_i es esz hrow
    obtain⟨hz,hk⟩:=q1p hk
    obtain⟨e,he,hf⟩:=qGN hk
    rw[qbG]at hf
    obtain⟨e',hs,hc⟩:=qnD hf
    refine⟨⟨.tup [],[(id,some (.row (es.set i e') esz))],[]⟩,?_,rfl,rfl,hc⟩
    simp only[store,h2,hrow]
    rw[if_pos ⟨Nat.eq_of_beq_eq_true hb.1,hb.2⟩,if_pos hz,he]
    simp only[hs]
   exact hk.elim
  exact hk.elim
 exact hk.elim
theorem qmT {place:Nat→Option (Nat×Nat)}:∀{parts:List (Nat×Operand)} {ps:List (Nat×Nat×X)} {cells:List D} {c:List D→Prop},qeu place parts=some ps→qtK t cells ps c→∃l,q30 t place cells parts=some l∧c l:=by
 intro parts
 induction parts with
 |nil=>intro ps cells c hp hk;simp only[qeu,Option.some.injEq]at hp;subst hp;exact⟨cells,rfl,hk⟩
 |cons p parts ih=>
  intro ps cells c hp hk
  obtain⟨i,x⟩:=p
  simp only[qeu]at hp
  split at hp
  ·rename_i off size y l hpl hx hl
   cases hp
   simp only[qtK]at hk
   split at hk
   ·rename_i hb
    simp only[Bool.and_eq_true]at hb
    rw[q9q]at hk
    obtain⟨⟨h1,h2⟩,h3⟩:=hb
    have e1:=Nat.eq_of_beq_eq_true h1
    have e2:=Nat.le_of_ble_eq_true h2
    obtain⟨l',h4,h5⟩:=ih hl hk
    refine⟨l',?_,h5⟩
    simp only[q30,hpl,q2m hx]
    rw[if_pos ⟨e1,by rw[e1];exact e2,h3⟩,e1]
    exact h4
   exact hk.elim
  cases hp
theorem qkz {size:Nat}:∀{parts:List (Nat×Operand)} {ps:List (Nat×X)} {es:List D} {c:List D→Prop},qiJ parts=some ps→q6X t size es ps c→∃l,q3g t size es parts=some l∧c l:=by
 intro parts
 induction parts with
 |nil=>intro ps cells c hp hk;simp only[qiJ,Option.some.injEq]at hp;subst hp;exact⟨cells,rfl,hk⟩
 |cons p parts ih=>
  intro ps es c hp hk
  obtain⟨i,x⟩:=p
  simp only[qiJ]at hp
  split at hp
  ·rename_i y l hx hl
   cases hp
   simp only[q6X]at hk
   split at hk
   ·rename_i hb
    simp only[Bool.and_eq_true]at hb
    rw[q5X]at hk
    obtain⟨⟨h1,h2⟩,h3⟩:=hb
    obtain⟨l',h4,h5⟩:=ih hl hk
    refine⟨l',?_,h5⟩
    simp only[q3g,q2m hx]
    rw[if_pos ⟨Nat.eq_of_beq_eq_true h1,Nat.le_of_ble_eq_true h2,h3⟩]
    exact h4
   exact hk.elim
  cases hp
theorem qtN {mx:Bool}:∀{l:List D} {x:D} {c:D→Prop},kmm mx x l c→∃d,l.foldlM (mm2 mx) x=some d∧c d:=by
 intro l
 induction l with
 |nil=>intro x c hk;exact⟨x,rfl,hk⟩
 |cons y l ih=>
  intro x c hk
  simp only[kmm]at hk
  unfold kmm2 at hk
  split at hk
  ·rename_i k a k' b
   split at hk
   ·rename_i hkk
    have hkk':k=k':=by simpa using hkk
    subst hkk'
    split at hk
    ·obtain⟨d,h1,h2⟩:=ih hk
     refine⟨d,?_,h2⟩
     have:(if b>a then b else a)=max a b:=by simp only[Int.max_def];split<;>split<;>omega
     simp only[List.foldlM_cons,mm2,if_true,this]
     exact h1
    obtain⟨d,h1,h2⟩:=ih hk
    refine⟨d,?_,h2⟩
    have:(if b<a then b else a)=min a b:=by simp only[Int.min_def];split<;>split<;>omega
    simp only[List.foldlM_cons,mm2,if_true,Bool.false_eq_true,if_false,this]
    exact h1
   exact hk.elim
  exact hk.elim
theorem qjh {e:TypeId}{l:El}(he:elk P e=some l):sizeOf P e=some l.n∧bytesOf P e=some l.b∧zeroOf P e=some l.d∧0<l.n∧l.d.sto=true∧l.d.cells.length=l.n:=by
 unfold elk at he
 split at he
 ·rename_i n b d h1 h2 h3
  split at he
  ·rename_i hc;cases he;exact⟨h1,h2,h3,hc.1,hc.2.1,hc.2.2⟩
  cases he
 cases he
theorem q6Z {e:TypeId}{l:El}{sd:D}{new:List D}{c:D→q0e→Frz→Prop}(he:elk P e=some l)(hn:new.all (fun d=>d.cells.length==l.n)=true)(hk:q36 gh gz h z id l sd new c):
 ∃r,q3K P gh gz id e sd new=some r∧c r.v (q0A h r.hp) (q0A z r.fz):=by
 obtain⟨e1,e2,e3,e4,e5,e6⟩:=qjh he
 unfold q3K
 simp only[e1,e2,e3]
 rw[if_pos ⟨e4,e5,e6,hn⟩]
 unfold q36 at hk
 split at hk
 ·obtain⟨h1,h2⟩:=q1p hk
  exact⟨_,by simp only;rw[if_pos h1],h2⟩
 ·rename_i id0 len
  split at hk
  ·rename_i es esz hb
   split at hk
   ·rename_i hbq
    obtain⟨⟨h1,h2,h3⟩,h4⟩:=q1p hk
    have hq:=Nat.eq_of_beq_eq_true hbq
    subst hq
    refine⟨_,by simp only[hb];rw[if_pos ⟨trivial,h1,h2,h3⟩],?_⟩
    simp only[q0A]
    exact h4
   exact hk.elim
  exact hk.elim
 exact hk.elim
theorem qI7 {cl:Call}{k:KOp}{b:Builtin}(hb:cl.callee=.builtin b)(hc:qiK P cl=some k):∃l,cxs cl.args.toList=some l:=by
 simp only[qiK,hb]at hc
 split at hc
 ·cases hc
 rename_i l hl;exact⟨l,hl⟩
theorem qB1 {ty e:TypeId}{n:Nat}{x:D}{lo hi mx:Option Operand}{lo' hi' mx':Option X}{c:D→Prop}(hu:P.underlying ty=some (.slice e))(hn:sizeOf P e=some n)(h1:cxo lo=some lo')(h2:cxo hi=some hi')(h3:cxo mx=some mx')
 (hk:qqi t gh n x lo' hi' mx' c):∃d,q7i P gh ty x (q9z t lo) (q9z t hi) (q9z t mx)=some (out d)∧c d:=by
 unfold qqi at hk
 split at hk
 ·have hmx:q9z t mx=none:=by
   cases mx with
   |none=>rfl
   |some m=>
    simp only[cxo]at h3
    cases hm:cx m<;>simp[hm]at h3
  rw[hmx]
  unfold q7i
  rw[hu]
  split at hk
  ·obtain⟨a,ha,hk⟩:=q41 h1 hk
   obtain⟨b,hb,hk⟩:=q41 h2 hk
   obtain⟨⟨e1,e2⟩,hk2⟩:=q1p hk
   subst e1 e2
   exact⟨_,by simp only[hn,ha,hb],hk2⟩
  ·rename_i l
   obtain⟨hall,hk⟩:=qjf hk
   obtain⟨a,ha,hk⟩:=q41 h1 hk
   obtain⟨b,hb,hk⟩:=q41 h2 hk
   obtain⟨hab,hk⟩:=q1p hk
   exact⟨_,by simp only[hn,hall,if_true,ha,hb];rw[if_pos hab],hk⟩
  ·rename_i id off len
   split at hk
   ·rename_i es esz hb0
    split at hk
    ·rename_i heq
     have hq:=Nat.eq_of_beq_eq_true heq
     subst hq
     obtain⟨a,ha,hk⟩:=q41 h1 hk
     obtain⟨b,hb,hk⟩:=q41 h2 hk
     obtain⟨hab,hk⟩:=q1p hk
     simp only[hb0,hn,if_true,ha,hb]
     rw[if_pos hab]
     by_cases ha0:a=0
     ·subst ha0;exact⟨_,by simp,hk⟩
     have h0:Nat.beq a 0=false:=by cases a with|zero=>exact absurd rfl ha0|succ a=>rfl
     rw[h0]at hk
     simp only[wb]at hk
     rw[if_neg ha0]
     by_cases hab2:a=b
     ·subst hab2;simp only[Nat.beq_refl]at hk;exact⟨_,by simp,hk⟩
     have h4:Nat.beq a b=false:=by
      cases hbb:Nat.beq a b with
      |false=>rfl
      |true=>exact absurd (Nat.eq_of_beq_eq_true hbb) hab2
     rw[h4]at hk
     exact⟨_,by rw[if_neg hab2],hk⟩
    exact hk.elim
   exact hk.elim
  exact hk.elim
 rename_i m
 split at hk
 ·exact hk.elim
 rename_i hi''
 obtain⟨m0,hm0,hcm⟩:∃m0,mx=some m0∧cx m0=some m:=by
  cases mx with
  |none=>simp[cxo]at h3
  |some m0=>
   simp only[cxo]at h3
   cases hm:cx m0 with
   |none=>simp[hm]at h3
   |some y=>simp[hm]at h3;subst h3;exact⟨m0,rfl,hm⟩
 obtain⟨hi0,hhi0,hchi⟩:∃hi0,hi=some hi0∧cx hi0=some hi'':=by
  cases hi with
  |none=>simp[cxo]at h2
  |some m0=>
   simp only[cxo]at h2
   cases hm:cx m0 with
   |none=>simp[hm]at h2
   |some y=>simp[hm]at h2;subst h2;exact⟨m0,rfl,hm⟩
 obtain⟨a,ha,hk1⟩:=q41 h1 hk
 obtain⟨b,hb,hk2⟩:=q6s hk1
 obtain⟨k,hkk,hk3⟩:=q6s hk2
 obtain⟨⟨e1,e2,e3⟩,hk4⟩:=q1p hk3
 clear hk hk1 hk2 hk3
 subst e1 e2 e3
 subst hm0 hhi0
 have hbb:∀d,bound (q9z t (some hi0)) d=some 0:=by
  intro d;simp only[q9z,Option.map_some,bound,q2m hchi];exact hb
 have hcut:qxp (q9z t (some hi0)) (ev t m0)=true:=by
  simp only[q9z,Option.map_some,qxp,q2m hcm,hkk]
 unfold q7i
 rw[hu]
 split at hk4
 ·exact⟨.nilsl,by simp only[hn,q9z,Option.map_some]at ha hbb hcut⊢;simp only[ha,hbb,hcut,if_true],hk4⟩
 ·obtain⟨hall,hk5⟩:=qjf hk4
  exact⟨.nilsl,by simp only[hn,q9z,Option.map_some]at ha hbb hcut⊢;simp only[hall,ha,hbb,hcut,if_true],hk5⟩
 ·split at hk4
  ·rename_i hb0
   split at hk4
   ·rename_i heq
    have hq:=Nat.eq_of_beq_eq_true heq
    subst hq
    exact⟨.nilsl,by simp only[hn,hb0,q9z,Option.map_some]at ha hbb hcut⊢;simp only[ha,hbb,hcut,if_true],hk4⟩
   exact hk4.elim
  exact hk4.elim
 exact hk4.elim
end
end Go.F
