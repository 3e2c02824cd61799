/- Parts of the proof, part 23: Stop. -/
import Derived.Test.YtakaifogljbgoaaGreatZ22
set_option linter.all false
namespace Go.F
universe u
section
variable {T:Tab}{sh:Shr}{nx0:Nat}{stk s:List Fr}{ex:Ex}{t:q0z}{h:q0e}{z:Frz}{nx:Nat}{q:Ex→q0z→q0e→Frz→Nat→Prop}
theorem go (n:Nat){stk':List Fr}{ex':Ex}{t':q0z}{h':q0e}{z':Frz}{nx':Nat}(hr:q6x nx0 n stk ex t h z nx=⟨stk',ex',t',h',z',nx'⟩)(hw:wpM T sh nx0 stk' ex' t' h' z' nx' q):wpM T sh nx0 stk ex t h z nx q:=
 qr4 n stk ex t h z nx q _ hr hw
def canGo (stk:List Fr)(ex:Ex)(t:q0z)(h:q0e)(z:Frz):Bool:=
 match stk with
 |[]=>false
 |f::_=>
  match ex with
  |.ret=>true
  |.exit _=>true
  |.normal=>
   match f with
   |.blk _=>true
   |.code k=>
    match k with
    |.cond _ _ _=>false
    |.loop _ _=>false
    |_=>true
   |.ops base res l=>
    match l with
    |[]=>true
    |⟨i,_,guard,g,op⟩::_=>
     match guard with
     |some (d,_)=>
      match res.any (Nat.beq d)with
      |true=>true
      |false=>match t d with|.tup _=>true|_=>false
     |none=>
      match op with
      |.pick c _ _=>match c with|.t d=>res.any (Nat.beq d) |.c _=>false
      |op=>match dop op t (g.h base h) (g.z base z) h z (base+i)with|some _=>true|none=>false
theorem goP (n:Nat){stk':List Fr}{ex':Ex}{t':q0z}{h':q0e}{z':Frz}{nx':Nat}(hc:canGo stk ex t h z=true)(hr:q6x nx0 n stk ex t h z nx=⟨stk',ex',t',h',z',nx'⟩)(hw:wpM T sh nx0 stk' ex' t' h' z' nx' q):wpM T sh nx0 stk ex t h z nx q:=by
 have _:=hc
 exact qr4 n stk ex t h z nx q _ hr hw
theorem q04 {ex:Ex}(hq:q ex t h z nx):wpM T sh nx0 [] ex t h z nx q:=hq
theorem q3P {base i:Nat}{res:List Nat}{dst:Option Nat}{g:Gd}{op:KOp}{rest:List KOper}
 (hk:kop T sh op t (g.h base h) (g.z base z) h z nx (base+i) fun v h z nx=>wpM T sh nx0 (.ops base res rest::s) .normal (put t dst v) h z nx q):
 wpM T sh nx0 (.ops base res (⟨i,dst,none,g,op⟩::rest)::s) .normal t h z nx q:=by
 simp only[wpM,wpo]at hk⊢
 exact hk
theorem q2J {α:Type}{f:Nat→α}{i:Nat}{v:α}(hv:f i=v):upd f i v=f:=by
 funext k
 unfold upd
 cases hk:Nat.beq k i with
 |false=>rfl
 |true=>have:=Nat.eq_of_beq_eq_true hk;subst this;exact hv.symm
theorem q08 {base i d:Nat}{res:List Nat}{dst:Option Nat}{want:Bool}{g:Gd}{op:KOp}{rest:List KOper}{b:Bool}(hd:t d=.bool b)
 (ht:b=true→wpM T sh nx0 (.ops base (d::res) (⟨i,dst,some (d,want),g,op⟩::rest)::s) .normal (upd t d (.bool true)) h z nx q)
 (hf:b=false→wpM T sh nx0 (.ops base (d::res) (⟨i,dst,some (d,want),g,op⟩::rest)::s) .normal (upd t d (.bool false)) h z nx q):
 wpM T sh nx0 (.ops base res (⟨i,dst,some (d,want),g,op⟩::rest)::s) .normal t h z nx q:=by
 cases b with
 |true=>have:=ht rfl;rw[q2J hd]at this;simpa only[wpM]using this
 |false=>have:=hf rfl;rw[q2J hd]at this;simpa only[wpM]using this
theorem q0h {base i d:Nat}{res:List Nat}{dst:Option Nat}{want:Bool}{g:Gd}{op:KOp}{rest:List KOper}(hd:t d=.bool true)
 (hk:wpM T sh nx0 (.ops base (d::res) (⟨i,dst,some (d,want),g,op⟩::rest)::s) .normal t h z nx q):
 wpM T sh nx0 (.ops base res (⟨i,dst,some (d,want),g,op⟩::rest)::s) .normal t h z nx q:=by
 have _:=hd
 simpa only[wpM]using hk
theorem q0m {base i d:Nat}{res:List Nat}{dst:Option Nat}{want:Bool}{g:Gd}{op:KOp}{rest:List KOper}(hd:t d=.bool false)
 (hk:wpM T sh nx0 (.ops base (d::res) (⟨i,dst,some (d,want),g,op⟩::rest)::s) .normal t h z nx q):
 wpM T sh nx0 (.ops base res (⟨i,dst,some (d,want),g,op⟩::rest)::s) .normal t h z nx q:=by
 have _:=hd
 simpa only[wpM]using hk
theorem q0Q {base i:Nat}{res:List Nat}{dst:Option Nat}{g:Gd}{c a b:X}{rest:List KOper}{x:Bool}(hd:c.ev t=.bool x)
 (ht:x=true→wpM T sh nx0 (.ops base res (⟨i,dst,none,g,.mov a⟩::rest)::s) .normal t h z nx q)
 (hf:x=false→wpM T sh nx0 (.ops base res (⟨i,dst,none,g,.mov b⟩::rest)::s) .normal t h z nx q):
 wpM T sh nx0 (.ops base res (⟨i,dst,none,g,.pick c a b⟩::rest)::s) .normal t h z nx q:=by
 cases x with
 |true=>have:=ht rfl;simp only[wpM,wpo,kop,hd]at this⊢;exact this
 |false=>have:=hf rfl;simp only[wpM,wpo,kop,hd]at this⊢;exact this
theorem q01 {c:X}{a b:K}{x:Bool}(hd:c.ev t=.bool x)(ht:x=true→wpM T sh nx0 (.code a::s) .normal t h z nx q)(hf:x=false→wpM T sh nx0 (.code b::s) .normal t h z nx q):
 wpM T sh nx0 (.code (.cond c a b)::s) .normal t h z nx q:=by
 simp only[wpM,wp,hd]at ht hf⊢
 cases x with
 |true=>exact ht rfl
 |false=>exact hf rfl
theorem q0d {c:X}{a b:K}(hd:c.ev t=.bool true)(ht:wpM T sh nx0 (.code a::s) .normal t h z nx q):wpM T sh nx0 (.code (.cond c a b)::s) .normal t h z nx q:=by
 simp only[wpM,wp,hd]at ht⊢
 exact ht
theorem q0i {c:X}{a b:K}(hd:c.ev t=.bool false)(hf:wpM T sh nx0 (.code b::s) .normal t h z nx q):wpM T sh nx0 (.code (.cond c a b)::s) .normal t h z nx q:=by
 simp only[wpM,wp,hd]at hf⊢
 exact hf
theorem atCallW {base i:Nat}{res:List Nat}{dst:Nat}{g:Gd}{f:FuncId}{args:List X}{rest:List KOper}{bs:List D}{r:D}(hs:T.shared f=false)
 (ha:∀k:List D→Prop,k bs→qdq (g.h base h) (args.map (·.ev t)) k) (hp:T.pu f bs=some r) (hn:noRef 4 r=true)
 (hk:wpM T sh nx0 (.ops base res rest::s) .normal (upd t dst r) h z nx q):
 wpM T sh nx0 (.ops base res (⟨i,some dst,none,g,.callF f args⟩::rest)::s) .normal t h z nx q:=by
 refine q3P ?_
 simp only[kop,q6r,hs]
 refine ha _ ?_
 unfold qbv
 refine⟨r,hp,?_⟩
 simp only[q6L,hn]
 exact hk
def ds0 (d:D):Option D:=
 match d with
 |.bool b=>some (.bool b)
 |.int i n=>some (.int i n)
 |.float i n=>some (.float i n)
 |.str s=>some (.str s)
 |.nilsl=>some (.lst [])
 |.lst l=>some (.lst l)
 |.mlst a b=>some (.mlst a b)
 |.fn f [] []=>some (.fn f [] [])
 |_=>none
def qBU:List D→Option (List D)
 |[]=>some []
 |x::xs=>
  match ds0 x with
  |some x=>f0 x fun x=>
   match qBU xs with
   |some xs=>fL0 xs fun xs=>some (x::xs)
   |none=>none
  |none=>none
def ds1 (d:D):Option D:=
 match d with
 |.agg l=>
  match qBU l with
  |some l=>fL0 l fun l=>some (.agg l)
  |none=>none
 |d=>ds0 d
def qBV:List D→Option (List D)
 |[]=>some []
 |x::xs=>
  match ds1 x with
  |some x=>f1 x fun x=>
   match qBV xs with
   |some xs=>fL1 xs fun xs=>some (x::xs)
   |none=>none
  |none=>none
theorem quf {h:q0e}{d d':D}{k:D→Prop}(hd:ds0 d=some d')(hk:k d'):ws0 h d k:=by
 unfold ds0 at hd
 split at hd<;>first|(cases hd;exact hk) |cases hd
theorem qBW {h:q0e}:∀{l l':List D} {k:List D→Prop},qBU l=some l'→k l'→qvu h l k:=by
 intro l
 induction l with
 |nil=>intro l' k hd hk;simp only[qBU,Option.some.injEq]at hd;subst hd;exact hk
 |cons x l ih=>
  intro l' k hd hk
  simp only[qBU]at hd
  split at hd
  ·rename_i x' hx
   rw[qu6]at hd
   split at hd
   ·rename_i xs hxs
    rw[q9q]at hd
    cases hd
    simp only[qvu]
    exact quf hx (ih hxs hk)
   cases hd
  cases hd
theorem qFe {h:q0e}{d d':D}{k:D→Prop}(hd:ds1 d=some d')(hk:k d'):ws1 h d k:=by
 unfold ds1 at hd
 unfold ws1
 split at hd
 ·split at hd
  ·rename_i l hl
   rw[q9q]at hd
   cases hd
   exact qBW hl hk
  cases hd
 rename_i hne
 split
 ·rename_i l;exact absurd rfl (hne l)
 ·rename_i f a c
  match a,c,hd with
  |[],[],hd=>simp only[ds0,Option.some.injEq]at hd;subst hd;exact hk
  |x::_,_,hd=>simp[ds0]at hd
  |[],x::_,hd=>simp[ds0]at hd
 exact quf hd hk
theorem qBX {h:q0e}:∀{l l':List D} {k:List D→Prop},qBV l=some l'→k l'→qdq h l k:=by
 intro l
 induction l with
 |nil=>intro l' k hd hk;simp only[qBV,Option.some.injEq]at hd;subst hd;exact hk
 |cons x l ih=>
  intro l' k hd hk
  simp only[qBV]at hd
  split at hd
  ·rename_i x' hx
   rw[qz7]at hd
   split at hd
   ·rename_i xs hxs
    rw[q5X]at hd
    cases hd
    simp only[qdq]
    exact qFe hx (ih hxs hk)
   cases hd
  cases hd
theorem qug {h:q0e}(n:Nat){d d':D}(hd:ds0 d=some d'):q0T h n d=[]:=by
 unfold ds0 at hd
 split at hd<;>first|(cases n<;>simp[q0T];done) |cases hd
theorem qBY {h:q0e}(n:Nat):∀{l l':List D},qBU l=some l'→l.flatMap (q0T h n)=[]:=by
 intro l
 induction l with
 |nil=>intro _ _;rfl
 |cons x l ih=>
  intro l' hd
  simp only[qBU]at hd
  split at hd
  ·rename_i x' hx
   rw[qu6]at hd
   split at hd
   ·rename_i xs hxs
    rw[List.flatMap_cons,qug n hx,ih hxs];rfl
   cases hd
  cases hd
theorem qFf {h:q0e}(n:Nat){d d':D}(hd:ds1 d=some d'):q0T h n d=[]:=by
 unfold ds1 at hd
 split at hd
 ·rename_i l
  split at hd
  ·rename_i l' hl
   cases n with
   |zero=>rfl
   |succ n=>simp only[q0T];exact qBY n hl
  cases hd
 exact qug n hd
theorem qBZ {h:q0e}(n:Nat):∀{l l':List D},qBV l=some l'→l.flatMap (q0T h n)=[]:=by
 intro l
 induction l with
 |nil=>intro _ _;rfl
 |cons x l ih=>
  intro l' hd
  simp only[qBV]at hd
  split at hd
  ·rename_i x' hx
   rw[qz7]at hd
   split at hd
   ·rename_i xs hxs
    rw[List.flatMap_cons,qFf n hx,ih hxs];rfl
   cases hd
  cases hd
theorem q02 {base i:Nat}{res:List Nat}{dst:Nat}{g:Gd}{f:FuncId}{args:List X}{rest:List KOper}{bs:List D}{r:D}(hs:T.shared f=false)
 (ha:qBV (args.map (·.ev t))=some bs) (hp:T.pu f bs=some r)
 (hk:wpM T sh nx0 (.ops base res rest::s) .normal (upd t dst r) h z nx q):
 wpM T sh nx0 (.ops base res (⟨i,some dst,none,g,.callF f args⟩::rest)::s) .normal t h z nx q:=by
 refine q3P ?_
 simp only[kop,q6r,hs]
 refine qBX ha ?_
 unfold qbv
 refine⟨r,hp,?_⟩
 simp only[q6L,qBZ depth ha]
 cases noRef 4 r<;>exact hk
def qdi:Live→q0z→q0e→Frz→Nat→q0z×q0e×Frz
 |[],t,h,z,_=>(t,h,z)
 |x::rest,t,h,z,nx=>
  match x.2 with
  |0=>qdi rest t h z nx
  |e+1=>
   match t x.1 with
   |.nilsl=>qdi rest (upd t x.1 (.ref nx 0 0)) (upd h nx (some (.row [] (e+1)))) (upd z nx 0) (nx+1)
   |_=>qdi rest t h z nx
def qnb (t:q0z)(h:q0e):Live→Option (List (List D))
 |[]=>some []
 |x::rest=>
  match q2i (t x.1)with
  |none=>
   match plain 4 (t x.1)with
   |true=>qnb t h rest
   |false=>none
  |some id=>
   match h id with
   |some (.row es _)=>match qnb t h rest with|some l=>some (es::l) |none=>none
   |some (.mp _ vs)=>match qnb t h rest with|some l=>some (vs::l) |none=>none
   |none=>qnb t h rest
def qaz (nx0:Nat)(ids:List (Option Nat))(t:q0z):Live→List D
 |[]=>[]
 |x::rest=>f2 (q1l nx0 ids (t x.1)) fun v=>fL1 (qaz nx0 ids t rest) fun vs=>v::vs
def fBl {α:Sort u}(b:Option Blk)(k:Option Blk→α):α:=
 match b with
 |none=>k none
 |some (.row es n)=>k (some (.row es n))
 |some (.mp ks vs)=>k (some (.mp ks vs))
theorem qHP {α:Sort u}(b:Option Blk)(k:Option Blk→α):fBl b k=k b:=by
 unfold fBl;cases b with
 |none=>rfl
 |some b=>cases b<;>rfl
def qaA (nx0:Nat)(ids:List (Option Nat))(h:q0e):List (Option Nat)→Nat→List (Option Blk)
 |[],_=>[]
 |o::rest,j=>fBl (qtL nx0 ids none h o j) fun b=>b::qaA nx0 ids h rest (j+1)
def fN {α:Type}(n:Nat)(k:Nat→α):α:=
 match n with
 |0=>k 0
 |n+1=>k (n+1)
theorem fN_eq {α:Type}(n:Nat)(k:Nat→α):fN n k=k n:=by cases n<;>rfl
def fNs {β:Type}:List Nat→(List Nat→β)→β
 |[],k=>k []
 |x::xs,k=>fN x fun x=>fNs xs fun xs=>k (x::xs)
theorem qwz {β:Type}(l:List Nat):∀(k:List Nat→β),fNs l k=k l:=by
 induction l with
 |nil=>intro k;rfl
 |cons x l ih=>intro k;simp only[fNs,fN_eq,ih]
def fLi {α β:Type}:List α→(List α→β)→β
 |[],k=>k []
 |x::xs,k=>fLi xs fun xs=>k (x::xs)
theorem qri {α β:Type}(l:List α):∀(k:List α→β),fLi l k=k l:=by
 induction l with
 |nil=>intro k;rfl
 |cons x l ih=>intro k;simp only[fLi,ih]
def setM (live:Live)(t:q0z)(h:q0e)(z:Frz)(nx:Nat):Option (List (List D)×Kept):=
 match qdi live t h z nx with
 |(t,h,z)=>
  match qnb t h live with
  |some rows=>fL1 (qaz 0 (q0E t live) t live) fun vs=>fLi (qaA 0 (q0E t live) h (q0E t live) 0) fun bs=>fNs (qje 0 (q0E t live) z (q0E t live) 0) fun zs=>some (rows,vs,bs,zs)
  |none=>none
def qfR:List (List D)→Prop
 |[]=>True
 |es::rest=>es.all (plain 4)=true∧qfR rest
theorem qjP:∀(live:Live) (t:q0z) (h:q0e) (z:Frz) (nx:Nat) (k:q0z→q0e→Frz→Nat→Prop),(∀nx',k (qdi live t h z nx).1 (qdi live t h z nx).2.1 (qdi live t h z nx).2.2 nx')→qeU live t h z nx k:=by
 intro live
 induction live with
 |nil=>intro t h z nx k hk;exact hk nx
 |cons x live ih=>
  intro t h z nx k hk
  simp only[qdi]at hk
  simp only[qeU]
  split
  ·rename_i hx;simp only[hx]at hk;exact ih _ _ _ _ _ hk
  rename_i e hx
  simp only[hx]at hk
  split
  ·rename_i ht;simp only[ht]at hk;exact ih _ _ _ _ _ hk
  rename_i ht
  refine ih _ _ _ _ _ ?_
  split at hk
  ·rename_i ht2;exact absurd ht2 ht
  exact hk
theorem qrj {t:q0z}{h:q0e}{z:Frz}:∀{live:Live} {rows:List (List D)} {k:q0e→Frz→Prop},qnb t h live=some rows→qfR rows→k h z→q3m live t h z k:=by
 intro live
 induction live with
 |nil=>intro rows k _ _ hk;exact hk
 |cons x live ih=>
  intro rows k hr hp hk
  simp only[qnb]at hr
  simp only[q3m]
  split
  ·rename_i hid
   simp only[hid]at hr
   split at hr
   ·rename_i hb;simp only[hb];exact ih hr hp hk
   cases hr
  rename_i id hid
  simp only[hid]at hr
  split
  ·rename_i es esz hb
   simp only[hb]at hr
   split at hr
   ·rename_i l hl
    cases hr
    unfold qc9
    exact .inl ⟨hp.1,ih hl hp.2 hk⟩
   cases hr
  ·rename_i ks vs hb
   simp only[hb]at hr
   split at hr
   ·rename_i l hl
    cases hr
    exact q1A hp.1 (ih hl hp.2 hk)
   cases hr
  rename_i hb
  simp only[hb]at hr
  exact ih hr hp hk
theorem q77 {nx0:Nat}{ids:List (Option Nat)}{t:q0z}:∀(live:Live) (k:List D→Prop),qvv nx0 ids t live k=k (qaz nx0 ids t live):=by
 intro live
 induction live with
 |nil=>intro k;rfl
 |cons x live ih=>intro k;simp only[qvv,qaz,q6L,q5X,ih]
theorem q78 {nx0:Nat}{ids:List (Option Nat)}{h:q0e}:∀(l:List (Option Nat)) (j:Nat) (k:List (Option Blk)→Prop),qvw nx0 ids h l j k=k (qaA nx0 ids h l j):=by
 intro l
 induction l with
 |nil=>intro j k;rfl
 |cons o l ih=>intro j k;simp only[qvw,qaA,fB_eq,qHP,ih]
theorem q03 {live:Live}{rows:List (List D)}{kp:Kept}{K:Kept→Prop}(hs:setM live t h z nx=some (rows,kp))(hp:qfR rows)(hk:K kp)(hnst:q5e live=false:=by rfl):q15 0 live t h z nx fun _ _ kp=>K kp:=by
 unfold setM at hs
 split at hs
 rename_i t1 h1 z1 hn
 split at hs
 ·rename_i rows1 hr
  simp only[q5X,qri,qwz,Option.some.injEq,Prod.mk.injEq]at hs
  obtain⟨rfl,rfl⟩:=hs
  unfold q15
  simp only[hnst]
  unfold q7C
  refine qjP _ _ _ _ _ _ fun nx'=>?_
  rw[hn]
  refine qrj hr hp ?_
  rw[q77,q78]
  exact hk
 cases hs
def mk0 {α:Type}(bot:α)(l:List α):Nat→α:=mkF 0 (fun _=>bot) bot l 0
theorem qo4 {α:Type}{old old':Nat→α}{bot:α}:∀(l:List α) (j:Nat),mkF 0 old bot l j=mkF 0 old' bot l j:=by
 intro l
 induction l with
 |nil=>
  intro j;funext id
  simp only[mkF]
  have:Nat.blt id 0=false:=rfl
  rw[this];rfl
 |cons x l ih=>intro j;simp only[mkF,ih]
theorem qFg:∀{live:Live} {t:q0z} {h:q0e} {z:Frz} {nx:Nat} {k:q0z→q0e→Frz→Nat→Prop},qeU live t h z nx k→
 ∃t1 h1 z1 nx1,k t1 h1 z1 nx1∧∀k':q0z→q0e→Frz→Nat→Prop,k' t1 h1 z1 nx1→qeU live t h z nx k':=by
 intro live
 induction live with
 |nil=>intro t h z nx k hw;exact⟨t,h,z,nx,hw,fun k' hk=>hk⟩
 |cons x live ih=>
  intro t h z nx k hw
  simp only[qeU]at hw⊢
  cases hx:x.2 with
  |zero=>rw[hx]at hw;exact ih hw
  |succ e=>
   rw[hx]at hw
   simp only at hw⊢
   cases ht:t x.1<;>rw[ht]at hw<;>exact ih hw
theorem qzu:∀{live:Live} {t:q0z} {h:q0e} {z:Frz} {k:q0e→Frz→Prop},q3m live t h z k→∃h1 z1,k h1 z1∧∀k':q0e→Frz→Prop,k' h1 z1→q3m live t h z k':=by
 intro live
 induction live with
 |nil=>intro t h z k hw;exact⟨h,z,hw,fun k' hk=>hk⟩
 |cons x live ih=>
  intro t h z k hw
  simp only[q3m]at hw⊢
  cases hid:q2i (t x.1)with
  |none=>
   rw[hid]at hw
   simp only at hw⊢
   cases hb:plain 4 (t x.1)with
   |true=>rw[hb]at hw;exact ih hw
   |false=>rw[hb]at hw;exact hw.elim
  |some id=>
   rw[hid]at hw
   simp only at hw⊢
   cases hb:h id with
   |none=>rw[hb]at hw;exact ih hw
   |some b=>
    rw[hb]at hw
    cases b with
    |row es esz=>
     simp only at hw⊢
     unfold qc9 at hw⊢
     rcases hw with⟨g1,g2⟩ |⟨l',rs,g1,g2,g3,g4,g5⟩
     ·obtain⟨h1,z1,e1,e2⟩:=ih g2
      exact⟨h1,z1,e1,fun k' hk=> .inl ⟨g1,e2 k' hk⟩⟩
     obtain⟨h1,z1,e1,e2⟩:=ih g5
     exact⟨h1,z1,e1,fun k' hk=> .inr ⟨l',rs,g1,g2,g3,g4,e2 k' hk⟩⟩
    |mp ks vs=>
     simp only at hw⊢
     unfold q3l at hw⊢
     obtain⟨h1,z1,e1,e2⟩:=ih hw.2
     exact⟨h1,z1,e1,fun k' hk=>⟨hw.1,e2 k' hk⟩⟩
theorem qak {live:Live}{k:q0e→Frz→Kept→Prop}(hw:q15 nx0 live t h z nx k):∃h1 z1 kp,k h1 z1 kp∧∀k':q0e→Frz→Kept→Prop,k' h1 z1 kp→q15 nx0 live t h z nx k':=by
 have hd:∀k,q15 nx0 live t h z nx k=(match q5e live with
  |true=>∃h1 z1 kp,k h1 z1 kp∧qa7 nx0 live ⟨t,h,z,nx⟩=some ⟨mkT live kp.1,mkF nx0 (q1h nx0 h1) none kp.2.1 nx0,mkF nx0 z1 0 kp.2.2 nx0,nx0+live.length⟩
  |false=>q7C nx0 live t h z nx k):=fun _=>rfl
 rw[hd]at hw
 simp only[hd]
 generalize q5e live=b at*
 cases b with
 |true=>
  obtain⟨h1,z1,kp,g1,g2⟩:=hw
  exact⟨h1,z1,kp,g1,fun k' hk=>⟨h1,z1,kp,hk,g2⟩⟩
 |false=>
 simp only at hw⊢
 unfold q7C at hw⊢
 obtain⟨t1,h1,z1,nx1,g1,g2⟩:=qFg hw
 obtain⟨h2,z2,g3,g4⟩:=qzu g1
 rw[q77,q78]at g3
 refine⟨_,_,_,g3,fun k' hk=>g2 _ (g4 _ ?_)⟩
 rw[q77,q78]
 exact hk
theorem q0l {α:Type}(S:α→Kept)(C:α→Prop)(m:α→Nat){live:Live}{c:K}
 (a:α) (hC:C a) (hm:m a<2^62) (h0:q15 0 live t h z nx fun _ _ kp=>kp=S a)
 (hr:∀a,C a→∀N:q0z→q0e→Frz→Nat→Prop,(∀a' {t:q0z} {h:q0e} {z:Frz} {nx:Nat},C a'→m a'<m a→(q15 0 live t h z nx fun _ _ kp=>kp=S a')→N t h z nx)→
   wpM T sh 0 [.code c] .normal (mkT live (S a).1) (mk0 none (S a).2.1) (mk0 0 (S a).2.2) live.length fun ex t h z nx=>
    match ex with
    |.normal=>N t h z nx
    |.exit i=>wpM T sh 0 s (.exit i) t h z nx q
    |.ret=>wpM T sh 0 s .ret t h z nx q):
 wpM T sh 0 (.code (.loop live c)::s) .normal t h z nx q:=by
 simp only[wpM,wp]at hr⊢
 unfold qyd
 have key:∀(n:Nat) (a:α),C a→m a≤n→∀(fuel:Nat),n<fuel→∀(t:q0z) (h:q0e) (z:Frz) (nx:Nat),(q15 0 live t h z nx fun _ _ kp=>kp=S a)→
  q4t 0 live (fun t h z nx q=>wp T sh 0 c t h z nx q) fuel t h z nx fun ex t h z nx=>wpM T sh 0 s ex t h z nx q:=by
  intro n
  induction n with
  |zero=>
   intro a hC hm fuel hf t h z nx hst
   obtain⟨fuel,rfl⟩:∃k,fuel=k+1:=⟨fuel-1,by omega⟩
   simp only[q4t]
   obtain⟨h1,z1,kp,g1,g2⟩:=qak hst
   refine g2 _ ?_
   subst g1
   have hb:=hr a hC (fun t h z nx=>q4t 0 live (fun t h z nx q=>wp T sh 0 c t h z nx q) fuel t h z nx fun ex t h z nx=>wpM T sh 0 s ex t h z nx q) (fun a' _ _ _ _ _ hlt _=>absurd hlt (by omega))
   unfold mk0 at hb
   rw[qo4 (old':=q1h 0 h1),qo4 (old':=z1) (bot:=(0:Nat))]at hb
   rw[Nat.zero_add]
   exact hb
  |succ n ih=>
   intro a hC hm fuel hf t h z nx hst
   obtain⟨fuel,rfl⟩:∃k,fuel=k+1:=⟨fuel-1,by omega⟩
   simp only[q4t]
   obtain⟨h1,z1,kp,g1,g2⟩:=qak hst
   refine g2 _ ?_
   subst g1
   have hb:=hr a hC (fun t h z nx=>q4t 0 live (fun t h z nx q=>wp T sh 0 c t h z nx q) fuel t h z nx fun ex t h z nx=>wpM T sh 0 s ex t h z nx q)
    (fun a' t h z nx h1 hlt hst=>ih a' h1 (by omega) fuel (by omega) t h z nx hst)
   unfold mk0 at hb
   rw[qo4 (old':=q1h 0 h1),qo4 (old':=z1) (bot:=(0:Nat))]at hb
   rw[Nat.zero_add]
   exact hb
 exact key (m a) a hC (Nat.le_refl _) q9c hm t h z nx h0
end
section
variable {T:Tab}{sh:Shr}{nx0:Nat}{s:List Fr}{t:q0z}{h:q0e}{z:Frz}{nx:Nat}{q:Ex→q0z→q0e→Frz→Nat→Prop}
theorem gg {stk:List Fr}{ex:Ex}{stk':List Fr}{ex':Ex}{t':q0z}{h':q0e}{z':Frz}{nx':Nat}(hr:q6x nx0 800 stk ex t h z nx=⟨stk',ex',t',h',z',nx'⟩)(hw:wpM T sh nx0 stk' ex' t' h' z' nx' q):wpM T sh nx0 stk ex t h z nx q:=go 800 hr hw
end
end Go.F
