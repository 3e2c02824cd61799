/- Part 2. -/
import Derived.Test.YtglbdppmnchoeaaGreatZ1
import Derived.Below
namespace Go.F
structure Below (B:Nat)(w w':World):Prop extends Go.RowKit.Below B w w' where
 dr:w.drawn<=w'.drawn
theorem Below.refl (B:Nat)(w:World):Below B w w:=⟨.refl B w,zD _⟩
theorem Below.trans {B:Nat}{a b c:World}(h:Below B a b)(k:Below B b c):Below B a c:=⟨h.toBelow.trans k.toBelow,zR h.dr k.dr⟩
theorem Below.mono {B a:Nat}{w w':World}(h:Below B w w')(b:a<=B):Below a w w':=⟨h.toBelow.mono b,h.dr⟩
theorem Below.alloc {B:Nat}{a w:World}(h:Below B a w)(b:B<=w.heap.size)(o:Obj):Below B a (w.alloc o):=⟨h.toBelow.alloc b o,h.dr⟩
abbrev Map:=Nat->Option (Nat×Nat)
abbrev aM:=Nat->Nat->Prop
def fl (l:Hm):Hm:=l.flatMap D.cells
def kD:D->Value
 |.bool b=> .bool b
 |.int k n=> .int k n
 |.float k b=> .float k b
 |.str s=> .string s
 |_=> .bool false
def gf:D->Bool
 |.str _=>true
 |.agg l=>l.all D.scalar
 |_=>false
def bM:D->Value
 |.agg l=> .agg ⟨l.map kD⟩
 |d=>kD d
def oneV:Value->Bool
 |.agg _=>false
 |.tuple _=>false
 |_=>true
def nb:Value->Bool
 |.bool _=>false
 |_=>true
def aS:Map:=fun _=>none
inductive VR:Map->aM->World->D->Value->Prop
 |bool {m:Map} {pr:aM} {w:World} (b:Bool):VR m pr w (.bool b) (.bool b)
 |int {m:Map} {pr:aM} {w:World} (k:IntKind) (n:Int):VR m pr w (.int k n) (.int k n)
 |float {m:Map} {pr:aM} {w:World} (k:FloatKind) (n:Nat):VR m pr w (.float k n) (.float k n)
 |str {m:Map} {pr:aM} {w:World} (s:ByteArray):VR m pr w (.str s) (.string s)
 |nilsl {m:Map} {pr:aM} {w:World} (a:Option Addr):VR m pr w .nilsl (.slice a 0 0)
 |lst0 {m:Map} {pr:aM} {w:World} (a:Option Addr) (cap:Nat):VR m pr w (.lst []) (.slice a 0 cap)
 |lst {m:Map} {pr:aM} {w:World} (l:Hm) (b o cap esz:Nat) (cv:Nat->Value) (hne:l≠[]) (hes:∀e∈l,e.cells.length=esz) (hpos:0<esz) (hcap:l.length<=cap)
   (hc:∀k,k<(fl l).length->w.cell? ⟨b,o+k,none⟩=some (cv k)/\pr b (o+k))
   (hv:∀k (hk:k<(fl l).length),VR aS pr w ((fl l)[k]) (cv k))
   (hone:∀e∈fl l,e.one=true):VR m pr w (.lst l) (.slice (some ⟨b,o,none⟩) l.length cap)
 |ref {m:Map} {pr:aM} {w:World} (id off len b esz cap:Nat) (C:Array Value) (t:TypeId) (f:Nat×Nat) (hm:m id=some (b,esz)) (hw:w.heap[b]?=some (.cells C t f))
   (hcap:(off+cap) *esz<=C.size) (hlen:len<=cap):VR m pr w (.ref id off len) (.slice (some ⟨b,off*esz,none⟩) len cap)
 |vnil {m:Map} {pr:aM} {w:World} (id:Nat) (a:Option Addr):VR m pr w (.ref id 0 0) (.slice a 0 0)
 |pl {m:Map} {pr:aM} {w:World} (e:D) (i b o:Nat) (cv:Nat->Value)
   (hc:∀k,k<e.cells.length->w.cell? ⟨b,o+k,none⟩=some (cv k)/\pr b (o+k))
   (hv:∀k (hk:k<e.cells.length),VR aS pr w (e.cells[k]) (cv k))
   (hone:∀x∈e.cells,x.one=true):VR m pr w (.pl e i) (.pointer (some ⟨b,o+i,none⟩))
 |ptr {m:Map} {pr:aM} {w:World} (id i o b esz:Nat) (hm:m id=some (b,esz)):VR m pr w (.ptr id i o) (.pointer (some ⟨b,i*esz+o,none⟩))
 |agg {m:Map} {pr:aM} {w:World} (l:Hm) (vs:Array Value) (hlen:l.length=vs.size) (hv:∀k (hk:k<l.length) (hk':k<vs.size),VR m pr w l[k] vs[k]) (hone:∀e∈l,e.one=true):
   VR m pr w (.agg l) (.agg vs)
 |tup {m:Map} {pr:aM} {w:World} (l:Hm) (vs:Array Value) (hlen:l.length=vs.size) (hv:∀k (hk:k<l.length) (hk':k<vs.size),VR m pr w l[k] vs[k]):VR m pr w (.tup l) (.tuple vs)
 |fn {m:Map} {pr:aM} {w:World} (f:FuncId) (la lc:Hm) (va vc:Array Value) (ha:la.length=va.size) (hc:lc.length=vc.size)
   (hva:∀k (hk:k<la.length) (hk':k<va.size),VR m pr w la[k] va[k]) (hvc:∀k (hk:k<lc.length) (hk':k<vc.size),VR m pr w lc[k] vc[k]):
   VR m pr w (.fn f la lc) (.func (.func f) va vc)
 |mref {m:Map} {pr:aM} {w:World} (id r:Nat) (hm:m id=some (r,1)):VR m pr w (.mref id) (.map (some r))
 |mlst {m:Map} {pr:aM} {w:World} (ks:Hm) (vs:Hm) (r clock:Nat) (es:Array MapEntry) (hw:w.heap[r]?=some (.map es clock)) (hp:pr r 0) (h1:ks.length=es.size) (h2:vs.length=es.size)
   (hk:∀i (h:i<ks.length) (h':i<es.size),gf ks[i]=true/\es[i].key=bM ks[i])
   (hv:∀i (h:i<vs.length) (h':i<es.size),VR aS pr w vs[i] es[i].val):VR m pr w (.mlst ks vs) (.map (some r))
 |opq {m:Map} {pr:aM} {w:World} (v:Value) (h:oneV v=true) (hb:nb v=true):VR m pr w (.opq v) v
 |bad {m:Map} {pr:aM} {w:World} (v:Value):VR m pr w .bad v
structure Ev (m:Map)(pr:aM)(w:World)(m':Map)(pr':aM)(w':World):Prop where
 ext:∀id x,m id=some x->m' id=some x
 cell:∀b o c,pr b o->w.cell? ⟨b,o,none⟩=some c->pr' b o/\w'.cell? ⟨b,o,none⟩=some c
 obj:∀(r:Nat) (es:Array MapEntry) (c:Nat),pr r 0->w.heap[r]?=some (.map es c)->pr' r 0/\w'.heap[r]?=some (.map es c)
 size:∀(b:Nat) (C:Array Value) (t:TypeId) (f:Nat×Nat),w.heap[b]?=some (.cells C t f)->∃C':Array Value,w'.heap[b]?=some (.cells C' t f)/\C'.size=C.size
theorem Ev.refl (m:Map)(pr:aM)(w:World):Ev m pr w m pr w:=
 ⟨fun _ _ h=>h,fun _ _ _ h h'=>⟨h,h'⟩,fun _ _ _ h h'=>⟨h,h'⟩,fun _ C _ _ h=>⟨C,h,rfl⟩⟩
theorem Ev.trans {m j k:Map}{pr a d:aM}{w l n:World}(h:Ev m pr w j a l)(h':Ev j a l k d n):Ev m pr w k d n:=
 ⟨fun id x p=>h'.ext id x (h.ext id x p),
  fun b o c e g=>let ⟨i,c1⟩:=h.cell b o c e g;h'.cell b o c i c1,
  fun r es c e g=>let ⟨i,c1⟩:=h.obj r es c e g;h'.obj r es c i c1,
  fun b C t f q=>let ⟨s,h1,u⟩:=h.size b C t f q;let ⟨v,y,z⟩:=h'.size b s t f h1;⟨v,y,z.trans u⟩⟩
theorem Ev.bare {m m':Map}{pr pr':aM}{w w':World}(e:Ev m pr w m' pr' w'):Ev aS pr w aS pr' w':=
 ⟨(fun _ _ h=>nomatch h),e.cell,e.obj,e.size⟩
theorem VR.mono {m m':Map}{pr pr':aM}{w w':World}{d:D}{v:Value}(h:VR m pr w d v)(e:Ev m pr w m' pr' w'):VR m' pr' w' d v:=by
 induction h generalizing m' with
 |bool b=>simp[bool]
 |int k n=>exact .int k n
 |float k n=>exact .float k n
 |str s=>exact .str s
 |nilsl a=>exact .nilsl a
 |lst0 a cap=>exact .lst0 a cap
 |lst l b o cap esz cv F G A y z E g x=>
  exact .lst l b o cap esz cv F G A y (fun k q=>let ⟨p,c⟩:=e.cell b (o+k) (cv k) (z k q).2 (z k q).1;⟨c,p⟩) (fun k q=>x k q e.bare) g
 |ref id off len b esz cap C t f B H y j=>
  obtain⟨K,h1,u⟩:=e.size b C t f H;exact .ref id off len b esz cap K t f (e.ext _ _ B) h1 (by omega) j
 |vnil id a=>exact .vnil id a
 |pl d i b o cv z E g x=>
  exact .pl d i b o cv (fun k q=>let ⟨p,c⟩:=e.cell b (o+k) (cv k) (z k q).2 (z k q).1;⟨c,p⟩) (fun k q=>x k q e.bare) g
 |ptr id i o b esz B=>exact .ptr id i o b esz (e.ext _ _ B)
 |agg l vs j E g x=>exact .agg l vs j (fun k h1 u=>x k h1 u e) g
 |tup l vs j E x=>exact .tup l vs j (fun k h1 u=>x k h1 u e)
 |fn f la L va M N z O P I J=>exact .fn f la L va M N z (fun k h1 u=>I k h1 u e) (fun k h1 u=>J k h1 u e)
 |mref id r B=>exact .mref id r (e.ext _ _ B)
 |mlst Q vs r clock es H R h1 u q E x=>
  obtain⟨p,c⟩:=e.obj r es clock R H;exact .mlst Q vs r clock es c p h1 u q (fun i h3 S=>x i h3 S e.bare)
 |opq v h T=>exact .opq v h T
 |bad v=>exact .bad v
theorem Ev.up (m:Map)(pr:aM)(w:World):Ev aS pr w m pr w:=
 ⟨(fun _ _ h=>nomatch h),fun _ _ _ h h'=>⟨h,h'⟩,fun _ _ _ h h'=>⟨h,h'⟩,fun _ C _ _ h=>⟨C,h,rfl⟩⟩
theorem VR.up {m:Map}{pr:aM}{w:World}{d:D}{v:Value}(h:VR aS pr w d v):VR m pr w d v:=h.mono (Ev.up m pr w)
theorem VR.scalar {m m':Map}{pr pr':aM}{w w':World}{d:D}{v:Value}(h:VR m pr w d v)(a:d.scalar=true):VR m' pr' w' d v:=by
 cases h<;>first|exact .bool _|exact .int _ _|exact .float _ _|exact .str _|(simp[D.scalar]at a)
theorem VR.scal {m:Map}{pr:aM}{w:World}{d:D}{v:Value}(h:VR m pr w d v)(a:d.scalar=true):v=kD d:=by
 cases h<;>first|rfl|(simp[D.scalar]at a)
theorem VR.ofScal {m:Map}{pr:aM}{w:World}{d:D}(a:d.scalar=true):VR m pr w d (kD d):=by
 cases d<;>first|exact .bool _|exact .int _ _|exact .float _ _|exact .str _|(simp[D.scalar]at a)
theorem VR.key {m:Map}{pr:aM}{w:World}{d:D}{v:Value}(h:VR m pr w d v)(a:gf d=true):v=bM d:=by
 cases h with
 |agg l vs c f e=>
  simp[gf]at a;simp[bM];apply vH;grind
  .intro i h1 g;have b:i<l.length:=by omega
   simp;exact(f i b h1).scal (a _ (zE _))
 |str s=>rfl
 |_=>simp[gf]at a
theorem VR.ofKey {m:Map}{pr:aM}{w:World}{d:D}(a:gf d=true):VR m pr w d (bM d):=by
 cases d with
 |str s=>exact .str s
 |agg l=>
  simp[gf]at a;refine .agg l _ (by simp) (fun k f b=>?_) (fun e c=>?_)
  .simp;exact .ofScal (a _ (zE _))
  have:=a e c;cases e<;>first|rfl|(simp[D.scalar]at this)
 |_=>simp[gf]at a
theorem VR.oneCell {m:Map}{pr:aM}{w:World}{d:D}{v:Value}(h:VR m pr w d v)(a:d.one=true):oneV v=true:=by
 cases h<;>first|rfl|(simp[D.one]at a;done) |omega
theorem VR.cells {m:Map}{pr:aM}{w:World}{d:D}{v:Value}(h:VR m pr w d v)(j:d.sto=true):
 d.cells.length=v.cells.size/\(∀k (a:k<d.cells.length) (b:k<v.cells.size),VR m pr w d.cells[k] v.cells[k])/\∀e∈d.cells,e.one=true:=by
 have h0:=h
 cases h with
 |agg l vs c g f=>trivial
 |tup l vs c g=>trivial
 |bad=>trivial
 |opq v h i=>
  refine⟨?_,?_,by simp[D.cells,D.one]⟩
  .cases v<;>first|rfl|trivial
  intro k a b;simp[D.cells]at a;subst a;cases v<;>first|exact .opq _ h i|trivial
 |_=>
  refine⟨rfl,?_,by simp[D.cells,D.one]⟩;intro k a b;simp[D.cells]at a;subst a;exact h0
def RowIn (m:Map)(pr:aM)(w:World)(es:Hm)(esz:Nat)(C:Array Value):Prop:=
 0<esz/\(∀e∈es,e.cells.length=esz)/\(fl es).length<=C.size/\(∀k (b:k<(fl es).length) (a:k<C.size),VR m pr w ((fl es)[k]) C[k])/\∀e∈fl es,e.one=true
def MapIn (m:Map)(pr:aM)(w:World)(a:Hm)(vs:Hm)(es:Array MapEntry):Prop:=
 a.length=es.size/\vs.length=es.size/\(∀i (_:i<a.length) (_:i<es.size),gf a[i]=true/\es[i].key=bM a[i])/\∀i (_:i<vs.length) (_:i<es.size),VR m pr w vs[i] es[i].val
theorem RowIn.mono {m m':Map}{pr pr':aM}{w w':World}{es:Hm}{esz:Nat}{C:Array Value}(h:RowIn m pr w es esz C)(e:Ev m pr w m' pr' w'):RowIn m' pr' w' es esz C:=
 ⟨h.1,h.2.1,h.2.2.1,fun k b a=>(h.2.2.2.1 k b a).mono e,h.2.2.2.2⟩
theorem MapIn.mono {m m':Map}{pr pr':aM}{w w':World}{b:Hm}{vs:Hm}{es:Array MapEntry}(h:MapIn m pr w b vs es)(e:Ev m pr w m' pr' w'):MapIn m' pr' w' b vs es:=
 ⟨h.1,h.2.1,h.2.2.1,fun k c a=>(h.2.2.2 k c a).mono e⟩
structure Ctx where
 B:Nat
 ok0:aM
def Wi (m:Map)(h:ab)(z:Frz)(b o:Nat):Prop:=∃id esz,m id=some (b,esz)/\h id≠none/\z id*esz<=o
def Pr (c:Ctx)(m:Map)(h:ab)(z:Frz):aM:=fun b o=>(b<c.B/\c.ok0 b o)\/(c.B<=b/\¬Wi m h z b o)
structure HR (c:Ctx)(m:Map)(h:ab)(z:Frz)(w:World):Prop where
 row:∀id es esz,h id=some (.row es esz)->(∃(b:Nat) (C:Array Value) (t:TypeId),m id=some (b,esz)/\c.B<=b/\w.heap[b]?=some (.cells C t (0,0))/\RowIn m (Pr c m h z) w es esz C)\/(es=[]/\m id=none)
 mp:∀id ks vs,h id=some (.mp ks vs)->∃(r:Nat) (es:Array MapEntry) (clock:Nat),m id=some (r,1)/\c.B<=r/\w.heap[r]?=some (.map es clock)/\MapIn m (Pr c m h z) w ks vs es
 inj:∀id id' x x',h id≠none->h id'≠none->m id=some x->m id'=some x'->x.1=x'.1->id=id'
 below:∀id x,m id=some x->c.B<=x.1/\x.1<w.heap.size
 base:c.B<=w.heap.size
 zle:∀id,h id≠none->z id<=aV h id
theorem HR.rowR {c:Ctx}{m:Map}{h:ab}{z:Frz}{w:World}(H:HR c m h z w){id esz:Nat}{es:Hm}(hr:h id=some (.row es esz)){x:Nat×Nat}(a:m id=some x):
 ∃(b:Nat) (C:Array Value) (t:TypeId),m id=some (b,esz)/\c.B<=b/\w.heap[b]?=some (.cells C t (0,0))/\RowIn m (Pr c m h z) w es esz C:=by
 rcases H.row id es esz hr with h1|⟨_,h1⟩
 omega;grind
theorem cY {l:Hm}{n:Nat}(h:∀e∈l,e.cells.length=n):(fl l).length=l.length*n:=by
 induction l with
 |nil=>simp[fl]
 |cons e l a=>
  grind[fl]
theorem fO {l:Hm}{n:Nat}(h:∀e∈l,e.cells.length=n){i:Nat}{e:D}(hi:l[i]?=some e){j:Nat}(d:j<n):(fl l)[i*n+j]?=e.cells[j]?:=by
 induction l generalizing i with
 |nil=>grind
 |cons x l a=>
  have h1:=h x (zO ..);have b:=fun y c=>h y (zG x c);simp[fl]
  cases i with
  |zero=>
   grind
  |succ i=>
   rw[xX (by grind),h1];rw[show(i+1) *n+j-n=i*n+j by grind];exact a b hi
theorem cell?_row {w:World}{b o:Nat}{C:Array Value}{t:TypeId}{f:Nat×Nat}(h:w.heap[b]?=some (.cells C t f)):w.cell? ⟨b,o,none⟩=C[o]?:=by
 simp[World.cell?,h]
theorem cell?_block {w:World}{b o:Nat}{c:Value}(h:w.cell? ⟨b,o,none⟩=some c):∃(C:Array Value) (t:TypeId) (f:Nat×Nat),w.heap[b]?=some (.cells C t f)/\C[o]?=some c:=by
 simp only[World.cell?]at h;grind
theorem qr {α:Type}(f:Nat->α)(i:Nat)(v:α)(k:Nat):upd f i v k=if k=i then v else f k:=by
 simp[upd]
theorem upd_same {α:Type}(f:Nat->α)(i:Nat)(v:α):upd f i v i=v:=by simp[qr]
theorem upd_ne {α:Type}{f:Nat->α}{i:Nat}{v:α}{k:Nat}(h:k≠i):upd f i v k=f k:=by grind[qr]
theorem Pl {α:Type}(f:Nat->α){i j:Nat}{v u:α}(h:i≠j\/v=u):upd (upd f i v) j u=upd (upd f j u) i v:=by
 grind[qr]
theorem uW {α:Type}(l:List (Nat×α))(f:Nat->α)(k:Nat)(h:∀p∈l,p.1≠k):aJ f l k=f k:=by
 induction l generalizing f with
 |nil=>rfl
 |cons p l a=>
  simp only[aJ];grind[upd_ne,List.mem_cons_self]
theorem SZ {α:Type}(l:List (Nat×α))(f:Nat->α)(i:Nat)(v:α)(h:∀p∈l,p.1≠i\/p.2=v):
 aJ (upd f i v) l=upd (aJ f l) i v:=by
 induction l generalizing f with
 |nil=>rfl
 |cons p l a=>
  grind[aJ,Pl]
theorem Pe {α:Type}(l a:List (Nat×α))(f:Nat->α)(h:∀p∈l,∀q∈a,p.1≠q.1\/p.2=q.2):
 aJ (aJ f l) a=aJ (aJ f a) l:=by
 induction l generalizing f with
 |nil=>rfl
 |cons p l b=>
  simp only[aJ];rw[b _ fun q c=>h q (zG _ c)];grind[SZ,List.mem_cons_self]
theorem XP {t t':ai}{x:Operand}(h:∀d,x=.tmp d->t d=t' d):ev t x=ev t' x:=by
 cases x<;>simp[ev];grind
theorem E1 {t t':ai}{l:List Operand}(h:∀x∈l,ev t x=ev t' x):l.map (ev t)=l.map (ev t'):=
 yA h
theorem WR {t t':ai}(place:Nat->Option (Nat×Nat))(l:List (Nat×Operand))(a:Hm)(h:∀p∈l,ev t p.2=ev t' p.2):
 iN t place a l=iN t' place a l:=by
 induction l generalizing a with
 |nil=>rfl
 |cons p l b=>
  grind[iN]
theorem YW {t t':ai}(n:Nat)(l:List (Nat×Operand))(es:Hm)(h:∀p∈l,ev t p.2=ev t' p.2):
 iZ t n es l=iZ t' n es l:=by
 induction l generalizing es with
 |nil=>rfl
 |cons p l a=>
  grind[iZ]
theorem Sg {t t':ai}{x:Option Operand}(h:∀y∈x,ev t y=ev t' y):dT t x=dT t' x:=by
 cases x<;>simp[dT];grind
theorem Lb {P:Program}{a:Pure}{o:Oper}{t t':ai}{h:ab}{z:Frz}{id:Nat}(d:∀x∈o.op.operands,ev t x=ev t' x):
 step P a o t h z id=step P a o t' h z id:=by
 unfold step;cases e:o.op<;>simp only[e,Op.operands]at d⊢;grind;grind;grind;grind
 case build ty parts=>
  unfold build;simp only[fun g c=>WR (t:=t) (t':=t') g parts.toList c fun p k=>d p.2 (by grind)]
 grind[YW];grind;grind;grind;simp_all[binX];grind;grind;grind[E1];grind;grind[Sg,Option.mem_def];grind;grind;grind;grind;grind;grind
 case call c=>
  have h1:c.args.toList.map (ev t)=c.args.toList.map (ev t'):=E1 fun x i=>d x (by simp[Call.operands,Array.mem_toList_iff.1 i])
  cases j:c.callee with
  |value f=>dsimp only;rw[d f (by simp[Call.operands,j]),h1]
  |invoke r m=>rfl
  |builtin b=>rw[h1]
theorem Fa {P:Program}{a:Pure}{o:Oper}{t:ai}{h h':ab}{z z':Frz}{id:Nat}(hr:eG o.op=false):
 step P a o t h z id=step P a o t h' z' id:=by
 unfold step;cases b:o.op<;>simp only[b,eG,Bool.true_eq_false]at hr⊢;grind
theorem XO {P:Program}{a:Pure}{o:Oper}{t:ai}{h:ab}{z z':Frz}{id:Nat}(hr:iV o.op=false):
 step P a o t h z id=step P a o t h z' id:=by
 unfold step;cases d:o.op<;>simp only[d,iV,Bool.true_eq_false]at hr⊢
 case call c=>
  cases e:c.callee with
  |value f=>rfl
  |invoke r m=>rfl
  |builtin b=>grind
theorem GR (h:ab):∀(n:Nat) (d:D) (id:Nat),id∈aN h n d->h id≠none:=by
 intro n
 induction n with
 |zero=>simp[aN]
 |succ n g=>
  intro d id m
  cases d with
  |ref i off len=>
   grind[aN]
  |mref i=>
   grind[aN]
  |agg l=>grind[aN]
  |tup l=>grind[aN]
  |fn f a c=>
   grind[aN]
  |bool b=>trivial
  |int k n=>trivial
  |float k b=>trivial
  |str s=>trivial
  |nilsl=>trivial
  |lst l=>trivial
  |pl e o=>trivial
  |ptr i j o=>
   grind[aN]
  |mlst p vs=>trivial
  |opq v=>trivial
  |bad=>trivial
def Eff (h:ab)(rd b a:Bool)(id:Nat)(r:Out):Prop:=
 (∀p∈r.hp,(b=true/\h p.1≠none)\/(a=true/\p.1=id))/\
 (∀p∈r.fz,(rd=true/\p.2=aV h p.1/\h p.1≠none)\/(a=true/\p.1=id))
theorem m8 {h:ab}{rd a b:Bool}{id:Nat}{v:D}:Eff h rd a b id (out v):=by simp[Eff,out]
theorem Ah {h:ab}{rd a:Bool}{id:Nat}{es:Hm}{n:Nat}{v:D}:Eff h rd a true id (newRow id es n v):=by simp[Eff,newRow]
theorem ki {h:ab}{rd a b:Bool}{id:Nat}{x:Option D}{r:Out}(c:x.map out=some r):Eff h rd a b id r:=by
 cases x with
 |none=>grind
 |some v=>grind[m8]
theorem Va {P:Program}{h:ab}{z:Frz}{t:TypeId}{a v:D}{c:Bool}{id:Nat}{r:Out}(b:store P h z t a v=some r):Eff h true true c id r:=by
 unfold store at b
 repeat' (split at b)
 all_goals first|(simp at b;done) |skip
 grind[Eff]
theorem UR {P:Program}{h:ab}{z:Frz}{t:TypeId}{a b v:D}{c:Bool}{id:Nat}{r:Out}(d:mapUpdate P h z t a b v=some r):Eff h true true c id r:=by
 unfold mapUpdate at d;grind[Eff]
theorem RS {P:Program}{h:ab}{z:Frz}{a:List TypeId}{l:Hm}{b:Bool}{id:Nat}{r:Out}(c:copy P h z a l=some r):Eff h true true b id r:=by
 unfold copy at c;grind[Eff]
theorem PX {P:Program}{h:ab}{z:Frz}{b:List TypeId}{l:Hm}{c:Bool}{id:Nat}{r:Out}(a:clear P h z b l=some r):Eff h true true c id r:=by
 unfold clear at a
 repeat' (split at a)
 all_goals first|(simp at a;done) |skip
 grind[Eff]
 .simp at a;grind[Eff,out]
 simp at a;grind[Eff,out]
theorem T9 {P:Program}{h:ab}{z:Frz}{id:Nat}{e:TypeId}{s:D}{new:Hm}{r:Out}(a:jH P h z id e s new=some r):Eff h true true true id r:=by
 unfold jH at a
 repeat' (split at a)
 all_goals first|(simp at a;done) |skip
 all_goals (simp at a;subst a;simp[Eff,newRow, *])
theorem RG {P:Program}{h:ab}{z:Frz}{id:Nat}{b:List TypeId}{l:Hm}{r:Out}(a:append P h z id b l=some r):Eff h true true true id r:=by
 unfold append at a
 repeat' (split at a)
 all_goals first|(simp at a;done) |exact T9 a
theorem WH {P:Program}{h:ab}{t:TypeId}{x:D}{lo hi b:Option D}{c d:Bool}{id:Nat}{r:Out}(a:ll P h t x lo hi b=some r):Eff h true c d id r:=by
 unfold ll at a
 repeat' (split at a)
 all_goals first|(simp at a;done) |skip
 all_goals (simp at a;subst a;first|exact m8|skip)
 refine⟨by simp,fun p e=>?_⟩;grind[jt]
theorem Wu {b:Pure}{h:ab}{f:FuncId}{l:Hm}{c d:Bool}{id:Nat}{r:Out}(a:ig b h f l=some r):Eff h true c d id r:=by
 unfold ig at a;split at a
 grind;split at a
 grind;split at a
 grind[m8];simp at a;subst a;refine⟨by simp,fun p e=>?_⟩;grind[GR]
theorem PH {P:Program}{g:Pure}{o:Oper}{t:ai}{h:ab}{z:Frz}{id:Nat}{r:Out}(b:step P g o t h z id=some r):
 Eff h (eG o.op) (iV o.op) (gM o.op) id r:=by
 unfold step at b;cases j:o.op<;>simp only[j]at b⊢;grind[m8];grind[m8];grind[m8]
 case alloc e=>
  repeat' (split at b)
  all_goals first|(simp at b;done) |skip
  simp at b;subst b;exact Ah
 case box e x=>
  split at b
  .simp at b;subst b;exact Ah
  grind
 grind[ki]
 case buildSlice ty len parts=>
  repeat' (split at b)
  all_goals first|(simp at b;done) |skip
  simp at b;obtain⟨es,_,rfl⟩:=b;exact Ah
 case load ty a=>grind[ki]
 case store ty a v=>exact Va b
 case nilCheck x=>grind[m8]
 case binOp op ty x y yt=>grind[ki]
 case unOp op ty x=>grind[ki]
 case convert s d x=>grind[ki]
 case makeFunc fn a c=>grind[m8]
 case makeMap ty r=>grind[Eff,gM]
 case makeSlice ty l c=>
  repeat' (split at b)
  all_goals first|(simp at b;done) |skip
  simp at b;subst b;exact Ah
 case slice ty x lo hi mx=>exact WH b
 case fieldAddr s x f=>grind[ki]
 case indexAddr ty x ix=>grind[ki]
 case index ty x ix=>grind[ki]
 case lookup ty x ix ok=>grind[ki]
 case mapUpdate ty m k v=>exact UR b
 case extract x i=>grind[ki]
 case call c=>
  grind[Wu,iV,gM,eG,RG,RS,PX,ki]
 all_goals (simp at b)
variable {c:Ctx}{m:Map}{h:ab}{z:Frz}{w w':World}
theorem HR.inHeap {id:Nat}{x:Nat×Nat}(H:HR c m h z w)(a:m id=some x):x.1<w.heap.size:=(H.below id x a).2
theorem Ev.same (e:w'.heap=w.heap):Ev m (Pr c m h z) w m (Pr c m h z) w':=
 ⟨fun _ _ h=>h,fun b o v a d=>⟨a,by simpa[World.cell?,e]using d⟩,fun r es k a d=>⟨a,by grind⟩,fun b C t f g=>⟨C,by grind,rfl⟩⟩
theorem HR.same (H:HR c m h z w)(a:w'.heap=w.heap):HR c m h z w':=
 ⟨fun id es esz hr=>by
   rcases H.row id es esz hr with⟨b,C,t,h1,d,h3,e⟩ |h0
   .exact .inl ⟨b,C,t,h1,d,by grind,e.mono (Ev.same a)⟩
   grind,
  fun id f vs hr=>by
   obtain⟨r,es,k,h1,d,h3,e⟩:=H.mp id f vs hr;exact⟨r,es,k,h1,d,by grind,e.mono (Ev.same a)⟩,
  H.inj,fun id x g=>by rw[a];exact H.below id x g,by rw[a];exact H.base,H.zle⟩
theorem Wi_new {id:Nat}(c:m id=none){esz k:Nat}{B:Blk}{b o n:Nat}(d:b≠n):
 Wi (upd m id (some (n,esz))) (upd h id (some B)) (upd z id k) b o↔Wi m h z b o:=by
 constructor
 .rintro⟨i,e,h1,a,h3⟩;by_cases hi:i=id
  grind[upd_same]
  .rw[upd_ne hi]at h1 a h3;exact⟨i,e,h1,a,h3⟩
 rintro⟨i,e,h1,a,h3⟩;exact⟨i,e,by grind[upd_ne],by grind[upd_ne],by grind[upd_ne]⟩
theorem Ev.new {id:Nat}(j:m id=none){esz k:Nat}{B:Blk}{o:Obj}(p:w'.heap=w.heap.push o):
 Ev m (Pr c m h z) w (upd m id (some (w.heap.size,esz))) (Pr c (upd m id (some (w.heap.size,esz))) (upd h id (some B)) (upd z id k)) w':=by
 have e:∀b,b<w.heap.size->w'.heap[b]?=w.heap[b]?:=fun b g=>by grind
 have l:∀b o,b<w.heap.size->Pr c m h z b o->Pr c (upd m id (some (w.heap.size,esz))) (upd h id (some B)) (upd z id k) b o:=by
  intro b o g a;rcases a with a|⟨a,n⟩
  .exact .inl a
  exact .inr ⟨a,fun d=>n ((Wi_new j (by omega)).1 d)⟩
 have lt:∀{b:Nat} {x:Obj},w.heap[b]?=some x->b<w.heap.size:=fun h=>(zS.1 h).1;refine⟨fun i x q=>?_,fun b o v a d=>?_,fun r es k a d=>⟨l r 0 (lt d) a,(e r (lt d)).trans d⟩,fun b C t f g=>⟨C,(e b (lt g)).trans g,rfl⟩⟩;grind[upd_ne];grind[cell?_block,cell?_row]
theorem HR.new {id:Nat}(H:HR c m h z w)(u:m id=none){esz k:Nat}{B:Blk}{o:Obj}(E:w'.heap=w.heap.push o)
 (I:k<=(match B with|.row es _=>es.length|.mp _ _=>1))
 (A:(∃es C t,B=.row es esz/\o=.cells C t (0,0)/\RowIn m (Pr c m h z) w es esz C)\/(∃l vs es a,B=.mp l vs/\o=.map es a/\esz=1/\MapIn m (Pr c m h z) w l vs es)):
 HR c (upd m id (some (w.heap.size,esz))) (upd h id (some B)) (upd z id k) w':=by
 have e:=Ev.new (c:=c) (h:=h) (z:=z) (k:=k) (B:=B) (esz:=esz) u E;have n:∀b,b<w.heap.size->w'.heap[b]?=w.heap[b]?:=fun b J=>by grind
 have new:w'.heap[w.heap.size]?=some o:=by grind
 have F:w'.heap.size=w.heap.size+1:=by grind
 refine⟨fun i es es' hr=>?_,fun i l vs hr=>?_,fun i D x G hi p f d v=>?_,fun i x f=>?_,by have:=H.base;omega,fun i hi=>?_⟩
 .by_cases hi:i=id
  .subst hi;rw[upd_same]at hr;rcases A with⟨g,C,t,rfl,rfl,q⟩ |⟨l,vs,g,a,rfl,_⟩
   .cases hr;exact .inl ⟨w.heap.size,C,t,upd_same ..,H.base,new,q.mono e⟩
   grind
  rw[upd_ne hi]at hr;rcases H.row i es es' hr with⟨b,C,t,h1,j,h3,y⟩ |h0
  .exact .inl ⟨b,C,t,e.ext _ _ h1,j,(n b (H.inHeap h1)).trans h3,y.mono e⟩
  grind[upd_ne]
 .by_cases hi:i=id
  .subst hi;rw[upd_same]at hr;rcases A with⟨g,C,t,rfl,_⟩ |⟨ks',vs',g,a,rfl,rfl,rfl,s⟩
   grind
   .cases hr;exact⟨w.heap.size,g,a,upd_same ..,H.base,new,s.mono e⟩
  rw[upd_ne hi]at hr;obtain⟨r,es,k,h1,j,h3,y⟩:=H.mp i l vs hr;exact⟨r,es,k,e.ext _ _ h1,j,(n r (H.inHeap h1)).trans h3,y.mono e⟩
 .by_cases h1:i=id<;>by_cases j:D=id
  omega
  .subst h1;rw[upd_same]at f;cases f;rw[upd_ne j]at d;have:=H.inHeap d;omega
  .subst j;rw[upd_same]at d;cases d;rw[upd_ne h1]at f;have:=H.inHeap f;omega
  rw[upd_ne h1]at f hi;rw[upd_ne j]at d p;exact H.inj i D x G hi p f d v
 .by_cases hi:i=id
  .subst hi;rw[upd_same]at f;cases f;exact⟨H.base,by omega⟩
  rw[upd_ne hi]at f;have:=H.below i x f;omega
 by_cases h1:i=id
 grind[aV,upd_same]
 .rw[upd_ne h1]at hi;simp only[aV,upd_ne h1];exact H.zle i hi
theorem Ev.store {id:Nat}(H:HR c m h z w){b esz:Nat}{es es':Hm}(d:m id=some (b,esz))(E:h id=some (.row es esz)){C l:Array Value}{t:TypeId}
 (F:w.heap[b]?=some (.cells C t (0,0))) (n:w'.heap[b]?=some (.cells l t (0,0))) (A:l.size=C.size) (j:∀k,k≠b->w'.heap[k]?=w.heap[k]?)
 (x:∀o,o<z id*esz->l[o]?=C[o]?):
 Ev m (Pr c m h z) w m (Pr c m (upd h id (some (.row es' esz))) z) w':=by
 have G:=(H.below id _ d).1
 have g:∀b o,Pr c m h z b o->Pr c m (upd h id (some (.row es' esz))) z b o:=by
  intro b o a;rcases a with a|⟨a,p⟩
  .exact .inl a
  refine .inr ⟨a,fun⟨i,e,h1,I,h3⟩=>p ⟨i,e,h1,?_,h3⟩⟩;grind[upd_ne]
 refine⟨fun _ _ h=>h,fun k o v a y=>⟨g k o a,?_⟩,fun r es k a y=>⟨g r 0 a,?_⟩,fun k D u f B=>?_⟩
 .obtain⟨D,u,f,B,J⟩:=cell?_block y;by_cases q:k=b
  .subst q;rw[cell?_row n];rcases a with⟨a,_⟩ |⟨_,p⟩
   omega
   .have:o<z id*esz:=by
     refine xM fun s=>p ⟨id,esz,d,by grind,s⟩
    grind
  grind[cell?_row]
 grind;grind
theorem HR.store {id:Nat}(H:HR c m h z w){b esz:Nat}{es es':Hm}(d:m id=some (b,esz))(I:h id=some (.row es esz))(G:es'.length=es.length){C j:Array Value}{t:TypeId}
 (J:w.heap[b]?=some (.cells C t (0,0))) (l:w'.heap[b]?=some (.cells j t (0,0))) (s:j.size=C.size) (a:∀k,k≠b->w'.heap[k]?=w.heap[k]?) (n:w'.heap.size=w.heap.size)
 (p:∀o,o<z id*esz->j[o]?=C[o]?) (q:RowIn m (Pr c m h z) w es' esz j):
 HR c m (upd h id (some (.row es' esz))) z w':=by
 have e:=Ev.store H (es':=es') d I J l s a p;refine⟨fun i f u hr=>?_,fun i K vs hr=>?_,fun i L x M hi N v y A=>?_,fun i x v=>by rw[n];exact H.below i x v,by rw[n];exact H.base,fun i hi=>?_⟩
 .by_cases hi:i=id
  .subst hi;rw[upd_same]at hr;cases hr;exact .inl ⟨b,j,t,d,(H.below _ _ d).1,l,q.mono e⟩
  rw[upd_ne hi]at hr;rcases H.row i f u hr with⟨b2,O,t2,h1,B,h3,E⟩ |h0
  .have g:b2≠b:=fun F=>hi (H.inj i id _ _ (by grind) (by grind) h1 d F);exact .inl ⟨b2,O,t2,h1,B,(a b2 g).trans h3,E.mono e⟩
  grind
 .by_cases hi:i=id
  grind[upd_same]
  .rw[upd_ne hi]at hr;obtain⟨r,f,k,h1,B,h3,E⟩:=H.mp i K vs hr;have g:r≠b:=fun F=>hi (H.inj i id _ _ (by grind) (by grind) h1 d F);exact⟨r,f,k,h1,B,(a r g).trans h3,E.mono e⟩
 .refine H.inj i L x M ?_ ?_ v y A;grind[upd_ne];grind[upd_ne]
 by_cases h1:i=id
 .have:=H.zle i (by grind);grind[aV,upd_same]
 rw[upd_ne h1]at hi;have:=H.zle i hi;grind[aV,upd_ne]
theorem Ev.storeMap {id:Nat}(H:HR c m h z w){b:Nat}{q ks':Hm}{vs vs':Hm}(d:m id=some (b,1))(A:h id=some (.mp q vs))(B:z id=0){es es':Array MapEntry}{k s:Nat}
 (C:w.heap[b]?=some (.map es k)) (t:w'.heap[b]?=some (.map es' s)) (j:∀k,k≠b->w'.heap[k]?=w.heap[k]?):
 Ev m (Pr c m h z) w m (Pr c m (upd h id (some (.mp ks' vs'))) z) w':=by
 have E:=(H.below id _ d).1
 have g:∀b o,Pr c m h z b o->Pr c m (upd h id (some (.mp ks' vs'))) z b o:=by
  intro b o a;rcases a with a|⟨a,l⟩
  .exact .inl a
  refine .inr ⟨a,fun⟨i,e,h1,F,h3⟩=>l ⟨i,e,h1,?_,h3⟩⟩;grind[upd_ne]
 refine⟨fun _ _ h=>h,fun n o v a x=>⟨g n o a,?_⟩,fun r y n a x=>⟨g r 0 a,?_⟩,fun n D u f G=>?_⟩;grind[cell?_block,cell?_row]
 .by_cases p:r=b
  .subst p;exfalso;rcases a with⟨a,_⟩ |⟨_,l⟩
   omega
   .exact l ⟨id,1,d,by grind,by omega⟩
  grind
 grind
theorem HR.storeMap {id:Nat}(H:HR c m h z w){b:Nat}{o ks':Hm}{vs vs':Hm}(d:m id=some (b,1))(B:h id=some (.mp o vs))(C:z id=0){es es':Array MapEntry}{k A:Nat}
 (E:w.heap[b]?=some (.map es k)) (j:w'.heap[b]?=some (.map es' A)) (a:∀k,k≠b->w'.heap[k]?=w.heap[k]?) (l:w'.heap.size=w.heap.size)
 (n:MapIn m (Pr c m h z) w ks' vs' es'):
 HR c m (upd h id (some (.mp ks' vs'))) z w':=by
 have e:=Ev.storeMap H (ks':=ks') (vs':=vs') d B C E j a;refine⟨fun i f p hr=>?_,fun i o vs hr=>?_,fun i F x G hi I q s t=>?_,fun i x q=>by rw[l];exact H.below i x q,by rw[l];exact H.base,fun i hi=>?_⟩
 .by_cases hi:i=id
  grind[upd_same]
  .rw[upd_ne hi]at hr;rcases H.row i f p hr with⟨b2,J,t2,h1,u,h3,v⟩ |h0
   .have g:b2≠b:=fun y=>hi (H.inj i id _ _ (by grind) (by grind) h1 d y);exact .inl ⟨b2,J,t2,h1,u,(a b2 g).trans h3,v.mono e⟩
   grind
 .by_cases hi:i=id
  .subst hi;rw[upd_same]at hr;cases hr;exact⟨b,es',A,d,(H.below _ _ d).1,j,n.mono e⟩
  rw[upd_ne hi]at hr;obtain⟨r,f,k,h1,u,h3,v⟩:=H.mp i o vs hr;have g:r≠b:=fun y=>hi (H.inj i id _ _ (by grind) (by grind) h1 d y);exact⟨r,f,k,h1,u,(a r g).trans h3,v.mono e⟩
 .refine H.inj i F x G ?_ ?_ q s t;grind[upd_ne];grind[upd_ne]
 by_cases h1:i=id
 grind
 .rw[upd_ne h1]at hi;have:=H.zle i hi;grind[aV,upd_ne]
theorem H5 (H:HR c m h z w)(l:List (Nat×Nat))(a:∀p∈l,p.2=aV h p.1)(id:Nat):aJ z l id=z id\/aJ z l id=aV h id:=by
 induction l generalizing z with
 |nil=>exact .inl rfl
 |cons p l b=>
  obtain⟨i,n⟩:=p;simp only[aJ];have d:=a (i,n) (zO ..)
  have e:∀z':Frz,(∀q∈l,q.2=aV h q.1)->aJ z' l id=z' id\/aJ z' l id=aV h id:=by
   clear b a d H;intro z' g
   induction l generalizing z' with
   |nil=>exact .inl rfl
   |cons q l f=>
    simp only[aJ];grind[List.mem_cons_self,upd_same,upd_ne]
  grind[upd_same,upd_ne]
theorem Ev.freeze (H:HR c m h z w){l:List (Nat×Nat)}(q:∀p∈l,p.2=aV h p.1):Ev m (Pr c m h z) w m (Pr c m h (aJ z l)) w:=by
 have d:∀b o,Pr c m h z b o->Pr c m h (aJ z l) b o:=by
  intro b o a;rcases a with a|⟨a,s⟩
  .exact .inl a
  refine .inr ⟨a,fun⟨i,e,h1,j,h3⟩=>s ⟨i,e,h1,j,?_⟩⟩;rcases H5 H l q i with n|n
  grind
  .rw[n]at h3;exact zR (zF _ (H.zle i j)) h3
 exact⟨fun _ _ h=>h,fun b o v a g=>⟨d b o a,g⟩,fun r es k a g=>⟨d r 0 a,g⟩,fun b C t f u=>⟨C,u,rfl⟩⟩
theorem HR.freeze (H:HR c m h z w){l:List (Nat×Nat)}(f:∀p∈l,p.2=aV h p.1):HR c m h (aJ z l) w:=by
 have e:=Ev.freeze H f;refine⟨fun i es esz hr=>?_,fun i g vs hr=>?_,H.inj,H.below,H.base,fun i hi=>?_⟩
 .rcases H.row i es esz hr with⟨b,C,t,h1,d,h3,a⟩ |h0
  .exact .inl ⟨b,C,t,h1,d,h3,a.mono e⟩
  grind
 .obtain⟨r,es,k,h1,d,h3,a⟩:=H.mp i g vs hr;exact⟨r,es,k,h1,d,h3,a.mono e⟩
 rcases H5 H l f i with a|a
 .rw[a];exact H.zle i hi
 omega
theorem Ev.move {id0 id:Nat}(H:HR c m h z w)(F:id≠id0)(G:m id=none){b esz:Nat}{es es':Hm}(a:m id0=some (b,esz))(K:h id0=some (.row es esz)){C l:Array Value}{t:TypeId}
 (L:w.heap[b]?=some (.cells C t (0,0))) (n:w'.heap[b]?=some (.cells l t (0,0))) (I:l.size=C.size) (j:∀k,k≠b->w'.heap[k]?=w.heap[k]?)
 (B:∀o,o<z id0*esz->l[o]?=C[o]?):
 Ev m (Pr c m h z) w (upd m id (some (b,esz))) (Pr c (upd m id (some (b,esz))) (upd (upd h id0 none) id (some (.row es' esz))) (upd z id (z id0))) w':=by
 have M:=(H.below id0 _ a).1
 have g:∀k o,Pr c m h z k o->Pr c (upd m id (some (b,esz))) (upd (upd h id0 none) id (some (.row es' esz))) (upd z id (z id0)) k o:=by
  intro k o d;rcases d with d|⟨d,p⟩
  .exact .inl d
  refine .inr ⟨d,fun⟨i,e,h1,q,h3⟩=>p ?_⟩;by_cases hi:i=id
  .subst hi;rw[upd_same]at h1 h3;cases h1;exact⟨id0,esz,a,by grind,h3⟩
  rw[upd_ne hi]at h1 q h3;by_cases s:i=id0
  grind[upd_same]
  .rw[upd_ne s]at q;exact⟨i,e,h1,q,h3⟩
 refine⟨fun i x N=>?_,fun k o v d E=>⟨g k o d,?_⟩,fun r es k d E=>⟨g r 0 d,?_⟩,fun k D u f J=>?_⟩;grind[upd_ne]
 .obtain⟨D,u,f,J,O⟩:=cell?_block E;by_cases y:k=b
  .subst y;rw[cell?_row n];rcases d with⟨d,_⟩ |⟨_,p⟩
   omega
   .have:o<z id0*esz:=by
     refine xM fun A=>p ⟨id0,esz,a,by grind,A⟩
    grind
  grind[cell?_row]
 grind;grind
theorem HR.move {id0 id:Nat}(H:HR c m h z w)(F:id≠id0)(G:m id=none){b esz:Nat}{es es':Hm}(a:m id0=some (b,esz))(L:h id0=some (.row es esz)){C s:Array Value}{t:TypeId}
 (M:w.heap[b]?=some (.cells C t (0,0))) (u:w'.heap[b]?=some (.cells s t (0,0))) (I:s.size=C.size) (d:∀k,k≠b->w'.heap[k]?=w.heap[k]?) (v:w'.heap.size=w.heap.size)
 (y:∀o,o<z id0*esz->s[o]?=C[o]?) (N:z id0<=es'.length) (A:RowIn m (Pr c m h z) w es' esz s):
 HR c (upd m id (some (b,esz))) (upd (upd h id0 none) id (some (.row es' esz))) (upd z id (z id0)) w':=by
 have e:=Ev.move H F (es':=es') G a L M u I d y
 have live:∀i,i≠id->upd (upd h id0 none) id (some (.row es' esz)) i≠none->i≠id0/\h i≠none:=by
  grind[upd_ne,upd_same]
 refine⟨fun i n J hr=>?_,fun i O vs hr=>?_,fun i B x P hi E g f p=>?_,fun i x g=>?_,by rw[v];exact H.base,fun i hi=>?_⟩
 .by_cases hi:i=id
  .subst hi;rw[upd_same]at hr;cases hr;exact .inl ⟨b,s,t,upd_same ..,(H.below _ _ a).1,u,A.mono e⟩
  obtain⟨h0,_⟩:=live i hi (by grind);rw[upd_ne hi,upd_ne h0]at hr;rcases H.row i n J hr with⟨b2,Q,t2,h1,l,h3,j⟩ |S
  .have q:b2≠b:=fun K=>h0 (H.inj i id0 _ _ (by omega) (by grind) h1 a K);exact .inl ⟨b2,Q,t2,e.ext _ _ h1,l,(d b2 q).trans h3,j.mono e⟩
  grind[upd_ne]
 .by_cases hi:i=id
  grind[upd_same]
  .obtain⟨h0,_⟩:=live i hi (by grind);rw[upd_ne hi,upd_ne h0]at hr;obtain⟨r,n,k,h1,l,h3,j⟩:=H.mp i O vs hr;have q:r≠b:=fun K=>h0 (H.inj i id0 _ _ (by omega) (by grind) h1 a K);exact⟨r,n,k,e.ext _ _ h1,l,(d r q).trans h3,j.mono e⟩
 .by_cases h1:i=id<;>by_cases l:B=id
  omega
  .subst h1;rw[upd_same]at g;cases g;obtain⟨h3,j⟩:=live B l E;rw[upd_ne l]at f;exact absurd (H.inj B id0 _ _ j (by grind) f a p.symm) h3
  .subst l;rw[upd_same]at f;cases f;obtain⟨h3,j⟩:=live i h1 hi;rw[upd_ne h1]at g;exact absurd (H.inj i id0 _ _ j (by grind) g a p) h3
  obtain⟨_,j⟩:=live i h1 hi;obtain⟨_,R⟩:=live B l E;rw[upd_ne h1]at g;rw[upd_ne l]at f;exact H.inj i B x P j R g f p
 .rw[v];by_cases hi:i=id
  .subst hi;rw[upd_same]at g;cases g;exact H.below id0 _ a
  rw[upd_ne hi]at g;exact H.below i x g
 by_cases h1:i=id
 grind[aV,upd_same]
 .obtain⟨h0,j⟩:=live i h1 hi;have:=H.zle i j;grind[aV,upd_ne]
theorem Ev.kill (id:Nat):Ev m (Pr c m h z) w m (Pr c m (upd h id none) z) w:=by
 have d:∀b o,Pr c m h z b o->Pr c m (upd h id none) z b o:=by
  intro b o a;rcases a with a|⟨a,j⟩
  .exact .inl a
  refine .inr ⟨a,fun⟨i,e,h1,n,h3⟩=>j ⟨i,e,h1,?_,h3⟩⟩;grind[upd_same,upd_ne]
 exact⟨fun _ _ h=>h,fun b o v a g=>⟨d b o a,g⟩,fun r es k a g=>⟨d r 0 a,g⟩,fun b C t f l=>⟨C,l,rfl⟩⟩
theorem HR.kill (H:HR c m h z w)(id:Nat):HR c m (upd h id none) z w:=by
 have e:Ev m (Pr c m h z) w m (Pr c m (upd h id none) z) w:=Ev.kill id
 have live:∀i,upd h id none i≠none->i≠id/\h i≠none:=by
  grind[upd_same,upd_ne]
 refine⟨fun i es esz hr=>?_,fun i n vs hr=>?_,fun i l x o hi d p f g=>H.inj i l x o (live i hi).2 (live l d).2 p f g,H.below,H.base,fun i hi=>?_⟩
 .obtain⟨h0,_⟩:=live i (by grind);rw[upd_ne h0]at hr;rcases H.row i es esz hr with⟨b,C,t,h1,j,h3,a⟩ |q
  .exact .inl ⟨b,C,t,h1,j,h3,a.mono e⟩
  grind
 .obtain⟨h0,_⟩:=live i (by grind);rw[upd_ne h0]at hr;obtain⟨r,es,k,h1,j,h3,a⟩:=H.mp i n vs hr;exact⟨r,es,k,h1,j,h3,a.mono e⟩
 obtain⟨h0,a⟩:=live i hi;have:=H.zle i a;grind[aV,upd_ne]
theorem Ev.virt {id k kz:Nat}(j:m id=none):Ev m (Pr c m h z) w m (Pr c m (upd h id (some (.row [] k))) (upd z id kz)) w:=by
 have d:∀b o,Pr c m h z b o->Pr c m (upd h id (some (.row [] k))) (upd z id kz) b o:=by
  intro b o a;rcases a with a|⟨a,l⟩
  .exact .inl a
  refine .inr ⟨a,fun⟨i,e,h1,p,h3⟩=>l ⟨i,e,h1,?_⟩⟩;grind[upd_ne]
 exact⟨fun _ _ h=>h,fun b o v a g=>⟨d b o a,g⟩,fun r es k a g=>⟨d r 0 a,g⟩,fun b C t f n=>⟨C,n,rfl⟩⟩
theorem HR.virt {id k kz:Nat}(H:HR c m h z w)(d:m id=none)(A:kz=0):HR c m (upd h id (some (.row [] k))) (upd z id kz) w:=by
 have e:=Ev.virt (c:=c) (h:=h) (z:=z) (w:=w) (k:=k) (kz:=kz) d;refine⟨fun i es esz hr=>?_,fun i q vs hr=>?_,fun i p y s hi a u f g=>?_,H.below,H.base,fun i hi=>?_⟩
 .by_cases hi:i=id
  grind[upd_same]
  .rw[upd_ne hi]at hr;rcases H.row i es esz hr with⟨b,C,t,j,l,n,o⟩ |B
   .exact .inl ⟨b,C,t,j,l,n,o.mono e⟩
   grind
 .by_cases hi:i=id
  grind[upd_same]
  .rw[upd_ne hi]at hr;obtain⟨r,es,k,j,l,n,o⟩:=H.mp i q vs hr;exact⟨r,es,k,j,l,n,o.mono e⟩
 .have h1:i≠id:=fun v=>by grind
  have x:p≠id:=fun v=>by grind
  rw[upd_ne h1]at hi;rw[upd_ne x]at a;exact H.inj i p y s hi a u f g
 by_cases h1:i=id
 simp_all[upd_same]
 .rw[upd_ne h1]at hi;simp only[aV,upd_ne h1];exact H.zle i hi
end Go.F
