/- Part 2. -/
import Derived.Test.YtglbdppmnchoeaaGreatZ1
import Derived.Below
set_option linter.all false
namespace Go.F
structure Below (B:Nat)(w w':World):Prop extends Go.RowKit.Below B w w' where
 dr:w.drawn<=w'.drawn
theorem Below.refl (B:Nat)(w:World):Below B w w:=⟨.refl B w,zD _⟩
theorem Below.trans {B:Nat}{a b c:World}(h:Below B a b)(k:Below B b c):Below B a c:=⟨h.toBelow.trans k.toBelow,zR h.dr k.dr⟩
theorem Below.mono {B a:Nat}{w w':World}(h:Below B w w')(b:a<=B):Below a w w':=⟨h.toBelow.mono b,h.dr⟩
theorem Below.alloc {B:Nat}{a w:World}(h:Below B a w)(b:B<=w.heap.size)(o:Obj):Below B a (w.alloc o):=⟨h.toBelow.alloc b o,h.dr⟩
abbrev Map:=Nat->Option (Nat×Nat)
abbrev aM:=Nat->Nat->Prop
def fl (l:List D):List D:=l.flatMap D.cells
def kD:D->Value
 |.bool b=> .bool b
 |.int k n=> .int k n
 |.float k b=> .float k b
 |.str s=> .string s
 |_=> .bool false
def gf:D->Bool
 |.str _=>true
 |.agg l=>l.all D.scalar
 |_=>false
def bM:D->Value
 |.agg l=> .agg ⟨l.map kD⟩
 |d=>kD d
def oneV:Value->Bool
 |.agg _=>false
 |.tuple _=>false
 |_=>true
def nb:Value->Bool
 |.bool _=>false
 |_=>true
def aS:Map:=fun _=>none
inductive VR:Map->aM->World->D->Value->Prop
 |bool {m:Map} {pr:aM} {w:World} (b:Bool):VR m pr w (.bool b) (.bool b)
 |int {m:Map} {pr:aM} {w:World} (k:IntKind) (n:Int):VR m pr w (.int k n) (.int k n)
 |float {m:Map} {pr:aM} {w:World} (k:FloatKind) (n:Nat):VR m pr w (.float k n) (.float k n)
 |str {m:Map} {pr:aM} {w:World} (s:ByteArray):VR m pr w (.str s) (.string s)
 |nilsl {m:Map} {pr:aM} {w:World} (a:Option Addr):VR m pr w .nilsl (.slice a 0 0)
 |lst0 {m:Map} {pr:aM} {w:World} (a:Option Addr) (cap:Nat):VR m pr w (.lst []) (.slice a 0 cap)
 |lst {m:Map} {pr:aM} {w:World} (l:List D) (b o cap esz:Nat) (cv:Nat->Value) (hne:l≠[]) (hes:∀e∈l,e.cells.length=esz) (hpos:0<esz) (hcap:l.length<=cap)
   (hc:∀k,k<(fl l).length->w.cell? ⟨b,o+k,none⟩=some (cv k)/\pr b (o+k))
   (hv:∀k (hk:k<(fl l).length),VR aS pr w ((fl l)[k]) (cv k))
   (hone:∀e∈fl l,e.one=true):VR m pr w (.lst l) (.slice (some ⟨b,o,none⟩) l.length cap)
 |ref {m:Map} {pr:aM} {w:World} (id off len b esz cap:Nat) (C:Array Value) (t:TypeId) (f:Nat×Nat) (hm:m id=some (b,esz)) (hw:w.heap[b]?=some (.cells C t f))
   (hcap:(off+cap) *esz<=C.size) (hlen:len<=cap):VR m pr w (.ref id off len) (.slice (some ⟨b,off*esz,none⟩) len cap)
 |vnil {m:Map} {pr:aM} {w:World} (id:Nat) (a:Option Addr):VR m pr w (.ref id 0 0) (.slice a 0 0)
 |pl {m:Map} {pr:aM} {w:World} (e:D) (i b o:Nat) (cv:Nat->Value)
   (hc:∀k,k<e.cells.length->w.cell? ⟨b,o+k,none⟩=some (cv k)/\pr b (o+k))
   (hv:∀k (hk:k<e.cells.length),VR aS pr w (e.cells[k]) (cv k))
   (hone:∀x∈e.cells,x.one=true):VR m pr w (.pl e i) (.pointer (some ⟨b,o+i,none⟩))
 |ptr {m:Map} {pr:aM} {w:World} (id i o b esz:Nat) (hm:m id=some (b,esz)):VR m pr w (.ptr id i o) (.pointer (some ⟨b,i*esz+o,none⟩))
 |agg {m:Map} {pr:aM} {w:World} (l:List D) (vs:Array Value) (hlen:l.length=vs.size) (hv:∀k (hk:k<l.length) (hk':k<vs.size),VR m pr w l[k] vs[k]) (hone:∀e∈l,e.one=true):
   VR m pr w (.agg l) (.agg vs)
 |tup {m:Map} {pr:aM} {w:World} (l:List D) (vs:Array Value) (hlen:l.length=vs.size) (hv:∀k (hk:k<l.length) (hk':k<vs.size),VR m pr w l[k] vs[k]):VR m pr w (.tup l) (.tuple vs)
 |fn {m:Map} {pr:aM} {w:World} (f:FuncId) (la lc:List D) (va vc:Array Value) (ha:la.length=va.size) (hc:lc.length=vc.size)
   (hva:∀k (hk:k<la.length) (hk':k<va.size),VR m pr w la[k] va[k]) (hvc:∀k (hk:k<lc.length) (hk':k<vc.size),VR m pr w lc[k] vc[k]):
   VR m pr w (.fn f la lc) (.func (.func f) va vc)
 |mref {m:Map} {pr:aM} {w:World} (id r:Nat) (hm:m id=some (r,1)):VR m pr w (.mref id) (.map (some r))
 |mlst {m:Map} {pr:aM} {w:World} (ks:List D) (vs:List D) (r clock:Nat) (es:Array MapEntry) (hw:w.heap[r]?=some (.map es clock)) (hp:pr r 0) (h1:ks.length=es.size) (h2:vs.length=es.size)
   (hk:∀i (h:i<ks.length) (h':i<es.size),gf ks[i]=true/\es[i].key=bM ks[i])
   (hv:∀i (h:i<vs.length) (h':i<es.size),VR aS pr w vs[i] es[i].val):VR m pr w (.mlst ks vs) (.map (some r))
 |opq {m:Map} {pr:aM} {w:World} (v:Value) (h:oneV v=true) (hb:nb v=true):VR m pr w (.opq v) v
 |bad {m:Map} {pr:aM} {w:World} (v:Value):VR m pr w .bad v
structure Ev (m:Map)(pr:aM)(w:World)(m':Map)(pr':aM)(w':World):Prop where
 ext:∀id x,m id=some x->m' id=some x
 cell:∀b o c,pr b o->w.cell? ⟨b,o,none⟩=some c->pr' b o/\w'.cell? ⟨b,o,none⟩=some c
 obj:∀(r:Nat) (es:Array MapEntry) (c:Nat),pr r 0->w.heap[r]?=some (.map es c)->pr' r 0/\w'.heap[r]?=some (.map es c)
 size:∀(b:Nat) (C:Array Value) (t:TypeId) (f:Nat×Nat),w.heap[b]?=some (.cells C t f)->∃C':Array Value,w'.heap[b]?=some (.cells C' t f)/\C'.size=C.size
theorem Ev.refl (m:Map)(pr:aM)(w:World):Ev m pr w m pr w:=
 ⟨fun _ _ h=>h,fun _ _ _ h h'=>⟨h,h'⟩,fun _ _ _ h h'=>⟨h,h'⟩,fun _ C _ _ h=>⟨C,h,rfl⟩⟩
theorem Ev.trans {m j k:Map}{pr a d:aM}{w l n:World}(h:Ev m pr w j a l)(h':Ev j a l k d n):Ev m pr w k d n:=
 ⟨fun id x p=>h'.ext id x (h.ext id x p),
  fun b o c e g=>let ⟨i,c1⟩:=h.cell b o c e g;h'.cell b o c i c1,
  fun r es c e g=>let ⟨i,c1⟩:=h.obj r es c e g;h'.obj r es c i c1,
  fun b C t f q=>let ⟨s,h1,u⟩:=h.size b C t f q;let ⟨v,y,z⟩:=h'.size b s t f h1;⟨v,y,z.trans u⟩⟩
theorem Ev.bare {m m':Map}{pr pr':aM}{w w':World}(e:Ev m pr w m' pr' w'):Ev aS pr w aS pr' w':=
 ⟨(fun _ _ h=>nomatch h),e.cell,e.obj,e.size⟩
theorem VR.mono {m m':Map}{pr pr':aM}{w w':World}{d:D}{v:Value}(h:VR m pr w d v)(e:Ev m pr w m' pr' w'):VR m' pr' w' d v:=by
 induction h generalizing m' with
 |bool b=>simp[bool]
 |int k n=>exact .int k n
 |float k n=>exact .float k n
 |str s=>exact .str s
 |nilsl a=>exact .nilsl a
 |lst0 a cap=>exact .lst0 a cap
 |lst l b o cap esz cv F G A y z E g x=>
  exact .lst l b o cap esz cv F G A y (fun k q=>let ⟨p,c⟩:=e.cell b (o+k) (cv k) (z k q).2 (z k q).1;⟨c,p⟩) (fun k q=>x k q e.bare) g
 |ref id off len b esz cap C t f B H y j=>
  obtain⟨K,h1,u⟩:=e.size b C t f H;exact .ref id off len b esz cap K t f (e.ext _ _ B) h1 (by omega) j
 |vnil id a=>exact .vnil id a
 |pl d i b o cv z E g x=>
  exact .pl d i b o cv (fun k q=>let ⟨p,c⟩:=e.cell b (o+k) (cv k) (z k q).2 (z k q).1;⟨c,p⟩) (fun k q=>x k q e.bare) g
 |ptr id i o b esz B=>exact .ptr id i o b esz (e.ext _ _ B)
 |agg l vs j E g x=>exact .agg l vs j (fun k h1 u=>x k h1 u e) g
 |tup l vs j E x=>exact .tup l vs j (fun k h1 u=>x k h1 u e)
 |fn f L M va N O z P Q I J=>exact .fn f L M va N O z (fun k h1 u=>I k h1 u e) (fun k h1 u=>J k h1 u e)
 |mref id r B=>exact .mref id r (e.ext _ _ B)
 |mlst R vs r clock es H S h1 u q E x=>
  obtain⟨p,c⟩:=e.obj r es clock S H;exact .mlst R vs r clock es c p h1 u q (fun i h3 T=>x i h3 T e.bare)
 |opq v h U=>exact .opq v h U
 |bad v=>exact .bad v
theorem Ev.up (m:Map)(pr:aM)(w:World):Ev aS pr w m pr w:=
 ⟨(fun _ _ h=>nomatch h),fun _ _ _ h h'=>⟨h,h'⟩,fun _ _ _ h h'=>⟨h,h'⟩,fun _ C _ _ h=>⟨C,h,rfl⟩⟩
theorem VR.up {m:Map}{pr:aM}{w:World}{d:D}{v:Value}(h:VR aS pr w d v):VR m pr w d v:=h.mono (Ev.up m pr w)
theorem VR.scalar {m m':Map}{pr pr':aM}{w w':World}{d:D}{v:Value}(h:VR m pr w d v)(a:d.scalar=true):VR m' pr' w' d v:=by
 cases h<;>first|exact .bool _|exact .int _ _|exact .float _ _|exact .str _|(simp[D.scalar]at a)
theorem VR.scal {m:Map}{pr:aM}{w:World}{d:D}{v:Value}(h:VR m pr w d v)(a:d.scalar=true):v=kD d:=by
 cases h<;>first|rfl|(simp[D.scalar]at a)
theorem VR.ofScal {m:Map}{pr:aM}{w:World}{d:D}(a:d.scalar=true):VR m pr w d (kD d):=by
 cases d<;>first|exact .bool _|exact .int _ _|exact .float _ _|exact .str _|(simp[D.scalar]at a)
theorem VR.key {m:Map}{pr:aM}{w:World}{d:D}{v:Value}(h:VR m pr w d v)(a:gf d=true):v=bM d:=by
 cases h with
 |agg l vs c f e=>
  simp[gf]at a;simp[bM];apply vH;grind
  .intro i h1 g;have b:i<l.length:=by omega
   simp;exact(f i b h1).scal (a _ (zE _))
 |str s=>rfl
 |_=>simp[gf]at a
theorem VR.ofKey {m:Map}{pr:aM}{w:World}{d:D}(a:gf d=true):VR m pr w d (bM d):=by
 cases d with
 |str s=>exact .str s
 |agg l=>
  simp[gf]at a;refine .agg l _ (by simp) (fun k f b=>?_) (fun e c=>?_)
  .simp;exact .ofScal (a _ (zE _))
  have:=a e c;cases e<;>first|rfl|(simp[D.scalar]at this)
 |_=>simp[gf]at a
theorem VR.oneCell {m:Map}{pr:aM}{w:World}{d:D}{v:Value}(h:VR m pr w d v)(a:d.one=true):oneV v=true:=by
 cases h<;>first|rfl|(simp[D.one]at a;done) |omega
theorem VR.cells {m:Map}{pr:aM}{w:World}{d:D}{v:Value}(h:VR m pr w d v)(j:d.sto=true):
 d.cells.length=v.cells.size/\(∀k (a:k<d.cells.length) (b:k<v.cells.size),VR m pr w d.cells[k] v.cells[k])/\∀e∈d.cells,e.one=true:=by
 have h0:=h
 cases h with
 |agg l vs c g f=>trivial
 |tup l vs c g=>trivial
 |bad=>trivial
 |opq v h i=>
  refine⟨?_,?_,by simp[D.cells,D.one]⟩
  .cases v<;>first|rfl|trivial
  intro k a b;simp[D.cells]at a;subst a;cases v<;>first|exact .opq _ h i|trivial
 |_=>
  refine⟨rfl,?_,by simp[D.cells,D.one]⟩;intro k a b;simp[D.cells]at a;subst a;exact h0
def RowIn (m:Map)(pr:aM)(w:World)(es:List D)(esz:Nat)(C:Array Value):Prop:=
 0<esz/\(∀e∈es,e.cells.length=esz)/\(fl es).length<=C.size/\(∀k (b:k<(fl es).length) (a:k<C.size),VR m pr w ((fl es)[k]) C[k])/\∀e∈fl es,e.one=true
def MapIn (m:Map)(pr:aM)(w:World)(a:List D)(vs:List D)(es:Array MapEntry):Prop:=
 a.length=es.size/\vs.length=es.size/\(∀i (_:i<a.length) (_:i<es.size),gf a[i]=true/\es[i].key=bM a[i])/\∀i (_:i<vs.length) (_:i<es.size),VR m pr w vs[i] es[i].val
theorem RowIn.mono {m m':Map}{pr pr':aM}{w w':World}{es:List D}{esz:Nat}{C:Array Value}(h:RowIn m pr w es esz C)(e:Ev m pr w m' pr' w'):RowIn m' pr' w' es esz C:=
 ⟨h.1,h.2.1,h.2.2.1,fun k b a=>(h.2.2.2.1 k b a).mono e,h.2.2.2.2⟩
theorem MapIn.mono {m m':Map}{pr pr':aM}{w w':World}{b:List D}{vs:List D}{es:Array MapEntry}(h:MapIn m pr w b vs es)(e:Ev m pr w m' pr' w'):MapIn m' pr' w' b vs es:=
 ⟨h.1,h.2.1,h.2.2.1,fun k c a=>(h.2.2.2 k c a).mono e⟩
structure Ctx where
 B:Nat
 ok0:aM
def Wi (m:Map)(h:ab)(z:Frz)(b o:Nat):Prop:=∃id esz,m id=some (b,esz)/\h id≠none/\z id*esz<=o
def Pr (c:Ctx)(m:Map)(h:ab)(z:Frz):aM:=fun b o=>(b<c.B/\c.ok0 b o)\/(c.B<=b/\¬Wi m h z b o)
structure HR (c:Ctx)(m:Map)(h:ab)(z:Frz)(w:World):Prop where
 row:∀id es esz,h id=some (.row es esz)->(∃(b:Nat) (C:Array Value) (t:TypeId),m id=some (b,esz)/\c.B<=b/\w.heap[b]?=some (.cells C t (0,0))/\RowIn m (Pr c m h z) w es esz C)\/(es=[]/\m id=none)
 mp:∀id ks vs,h id=some (.mp ks vs)->∃(r:Nat) (es:Array MapEntry) (clock:Nat),m id=some (r,1)/\c.B<=r/\w.heap[r]?=some (.map es clock)/\MapIn m (Pr c m h z) w ks vs es
 inj:∀id id' x x',h id≠none->h id'≠none->m id=some x->m id'=some x'->x.1=x'.1->id=id'
 below:∀id x,m id=some x->c.B<=x.1/\x.1<w.heap.size
 base:c.B<=w.heap.size
 zle:∀id,h id≠none->z id<=aV h id
theorem HR.rowR {c:Ctx}{m:Map}{h:ab}{z:Frz}{w:World}(H:HR c m h z w){id esz:Nat}{es:List D}(hr:h id=some (.row es esz)){x:Nat×Nat}(a:m id=some x):
 ∃(b:Nat) (C:Array Value) (t:TypeId),m id=some (b,esz)/\c.B<=b/\w.heap[b]?=some (.cells C t (0,0))/\RowIn m (Pr c m h z) w es esz C:=by
 rcases H.row id es esz hr with h1|⟨_,h1⟩
 omega;grind
theorem cY {l:List D}{n:Nat}(h:∀e∈l,e.cells.length=n):(fl l).length=l.length*n:=by
 induction l with
 |nil=>simp[fl]
 |cons e l a=>
  grind[fl]
theorem fO {l:List D}{n:Nat}(h:∀e∈l,e.cells.length=n){i:Nat}{e:D}(hi:l[i]?=some e){j:Nat}(d:j<n):(fl l)[i*n+j]?=e.cells[j]?:=by
 induction l generalizing i with
 |nil=>grind
 |cons x l a=>
  have h1:=h x (zO ..);have b:=fun y c=>h y (zG x c);simp[fl]
  cases i with
  |zero=>
   grind
  |succ i=>
   rw[xX (by grind),h1];rw[show(i+1) *n+j-n=i*n+j by grind];exact a b hi
theorem cell?_row {w:World}{b o:Nat}{C:Array Value}{t:TypeId}{f:Nat×Nat}(h:w.heap[b]?=some (.cells C t f)):w.cell? ⟨b,o,none⟩=C[o]?:=by
 simp[World.cell?,h]
theorem cell?_block {w:World}{b o:Nat}{c:Value}(h:w.cell? ⟨b,o,none⟩=some c):∃(C:Array Value) (t:TypeId) (f:Nat×Nat),w.heap[b]?=some (.cells C t f)/\C[o]?=some c:=by
 simp only[World.cell?]at h;grind
end Go.F
