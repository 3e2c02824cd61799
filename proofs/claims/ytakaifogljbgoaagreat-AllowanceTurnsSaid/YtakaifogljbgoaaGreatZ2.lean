/- Parts of the proof, part 2: Rel. -/
import Derived.Test.YtakaifogljbgoaaGreatZ1
import Derived.Below
set_option linter.all false
namespace Go.F
abbrev Map:=Nat→Option (Nat×Nat)
abbrev q1x:=Nat→Nat→Prop
def fl (l:List D):List D:=l.flatMap D.cells
def oneV:Value→Bool
 |.agg _=>false
 |.tuple _=>false
 |_=>true
def nb:Value→Bool
 |.bool _=>false
 |_=>true
def q1t:Map:=fun _=>none
inductive VR:Map→q1x→World→D→Value→Prop
 |bool {m:Map} {pr:q1x} {w:World} (b:Bool):VR m pr w (.bool b) (.bool b)
 |int {m:Map} {pr:q1x} {w:World} (k:IntKind) (n:Int):VR m pr w (.int k n) (.int k n)
 |float {m:Map} {pr:q1x} {w:World} (k:FloatKind) (n:Nat):VR m pr w (.float k n) (.float k n)
 |str {m:Map} {pr:q1x} {w:World} (s:ByteArray):VR m pr w (.str s) (.string s)
 |nilsl {m:Map} {pr:q1x} {w:World} (a:Option Addr):VR m pr w .nilsl (.slice a 0 0)
 |lst0 {m:Map} {pr:q1x} {w:World} (a:Option Addr) (cap:Nat):VR m pr w (.lst []) (.slice a 0 cap)
 |lst {m:Map} {pr:q1x} {w:World} (l:List D) (b o cap esz:Nat) (cv:Nat→Value) (hne:l≠[]) (hes:∀e∈l,e.cells.length=esz) (hpos:0<esz) (hcap:l.length≤cap)
   (hc:∀k,k<(fl l).length→w.cell? ⟨b,o+k,none⟩=some (cv k)∧pr b (o+k))
   (hv:∀k (hk:k<(fl l).length),VR q1t pr w ((fl l)[k]) (cv k))
   (hone:∀e∈fl l,e.one=true):VR m pr w (.lst l) (.slice (some ⟨b,o,none⟩) l.length cap)
 |ref {m:Map} {pr:q1x} {w:World} (id off len b esz cap:Nat) (C:Array Value) (t:TypeId) (f:Nat×Nat) (hm:m id=some (b,esz)) (hw:w.heap[b]?=some (.cells C t f))
   (hcap:(off+cap) *esz≤C.size) (hlen:len≤cap):VR m pr w (.ref id off len) (.slice (some ⟨b,off*esz,none⟩) len cap)
 |vnil {m:Map} {pr:q1x} {w:World} (id:Nat) (a:Option Addr):VR m pr w (.ref id 0 0) (.slice a 0 0)
 |pl {m:Map} {pr:q1x} {w:World} (e:D) (i b o:Nat) (cv:Nat→Value)
   (hc:∀k,k<e.cells.length→w.cell? ⟨b,o+k,none⟩=some (cv k)∧pr b (o+k))
   (hv:∀k (hk:k<e.cells.length),VR q1t pr w (e.cells[k]) (cv k))
   (hone:∀x∈e.cells,x.one=true):VR m pr w (.pl e i) (.pointer (some ⟨b,o+i,none⟩))
 |ptr {m:Map} {pr:q1x} {w:World} (id i o b esz:Nat) (hm:m id=some (b,esz)):VR m pr w (.ptr id i o) (.pointer (some ⟨b,i*esz+o,none⟩))
 |agg {m:Map} {pr:q1x} {w:World} (l:List D) (vs:Array Value) (hlen:l.length=vs.size) (hv:∀k (hk:k<l.length) (hk':k<vs.size),VR m pr w l[k] vs[k]) (hone:∀e∈l,e.one=true):
   VR m pr w (.agg l) (.agg vs)
 |tup {m:Map} {pr:q1x} {w:World} (l:List D) (vs:Array Value) (hlen:l.length=vs.size) (hv:∀k (hk:k<l.length) (hk':k<vs.size),VR m pr w l[k] vs[k]):VR m pr w (.tup l) (.tuple vs)
 |fn {m:Map} {pr:q1x} {w:World} (f:FuncId) (la lc:List D) (va vc:Array Value) (ha:la.length=va.size) (hc:lc.length=vc.size)
   (hva:∀k (hk:k<la.length) (hk':k<va.size),VR m pr w la[k] va[k]) (hvc:∀k (hk:k<lc.length) (hk':k<vc.size),VR m pr w lc[k] vc[k]):
   VR m pr w (.fn f la lc) (.func (.func f) va vc)
 |mref {m:Map} {pr:q1x} {w:World} (id r:Nat) (hm:m id=some (r,1)):VR m pr w (.mref id) (.map (some r))
 |mlst {m:Map} {pr:q1x} {w:World} (ks:List ByteArray) (vs:List D) (r clock:Nat) (es:Array MapEntry) (hw:w.heap[r]?=some (.map es clock)) (hp:pr r 0) (h1:ks.length=es.size) (h2:vs.length=es.size)
   (hk:∀i (h:i<ks.length) (h':i<es.size),es[i].key=.string ks[i])
   (hv:∀i (h:i<vs.length) (h':i<es.size),VR q1t pr w vs[i] es[i].val):VR m pr w (.mlst ks vs) (.map (some r))
 |opq {m:Map} {pr:q1x} {w:World} (v:Value) (h:oneV v=true) (hb:nb v=true):VR m pr w (.opq v) v
 |bad {m:Map} {pr:q1x} {w:World} (v:Value):VR m pr w .bad v
structure Ev (m:Map)(pr:q1x)(w:World)(m':Map)(pr':q1x)(w':World):Prop where
 ext:∀id x,m id=some x→m' id=some x
 cell:∀b o c,pr b o→w.cell? ⟨b,o,none⟩=some c→pr' b o∧w'.cell? ⟨b,o,none⟩=some c
 obj:∀(r:Nat) (es:Array MapEntry) (c:Nat),pr r 0→w.heap[r]?=some (.map es c)→pr' r 0∧w'.heap[r]?=some (.map es c)
 size:∀(b:Nat) (C:Array Value) (t:TypeId) (f:Nat×Nat),w.heap[b]?=some (.cells C t f)→∃C':Array Value,w'.heap[b]?=some (.cells C' t f)∧C'.size=C.size
theorem Ev.refl (m:Map)(pr:q1x)(w:World):Ev m pr w m pr w:=
 ⟨fun _ _ h=>h,fun _ _ _ h h'=>⟨h,h'⟩,fun _ _ _ h h'=>⟨h,h'⟩,fun _ C _ _ h=>⟨C,h,rfl⟩⟩
theorem Ev.trans {m m1 m2:Map}{pr pr1 pr2:q1x}{w w1 w2:World}(h:Ev m pr w m1 pr1 w1)(h':Ev m1 pr1 w1 m2 pr2 w2):Ev m pr w m2 pr2 w2:=
 ⟨fun id x hx=>h'.ext id x (h.ext id x hx),
  fun b o c hp hc=>let ⟨p1,c1⟩:=h.cell b o c hp hc;h'.cell b o c p1 c1,
  fun r es c hp hc=>let ⟨p1,c1⟩:=h.obj r es c hp hc;h'.obj r es c p1 c1,
  fun b C t f hb=>let ⟨C1,h1,s1⟩:=h.size b C t f hb;let ⟨C2,h2,s2⟩:=h'.size b C1 t f h1;⟨C2,h2,s2.trans s1⟩⟩
theorem Ev.bare {m m':Map}{pr pr':q1x}{w w':World}(e:Ev m pr w m' pr' w'):Ev q1t pr w q1t pr' w':=
 ⟨(fun _ _ h=>nomatch h),e.cell,e.obj,e.size⟩
theorem VR.mono {m m':Map}{pr pr':q1x}{w w':World}{d:D}{v:Value}(h:VR m pr w d v)(e:Ev m pr w m' pr' w'):VR m' pr' w' d v:=by
 induction h generalizing m' with
 |bool b=>exact .bool b
 |int k n=>exact .int k n
 |float k n=>exact .float k n
 |str s=>exact .str s
 |nilsl a=>exact .nilsl a
 |lst0 a cap=>exact .lst0 a cap
 |lst l b o cap esz cv hne hes hpos hcap hc hv hone ih=>
  exact .lst l b o cap esz cv hne hes hpos hcap (fun k hk=>let ⟨p,c⟩:=e.cell b (o+k) (cv k) (hc k hk).2 (hc k hk).1;⟨c,p⟩) (fun k hk=>ih k hk e.bare) hone
 |ref id off len b esz cap C t f hm hw hcap hlen=>
  obtain⟨C',h1,h2⟩:=e.size b C t f hw
  exact .ref id off len b esz cap C' t f (e.ext _ _ hm) h1 (by rw[h2];exact hcap) hlen
 |vnil id a=>exact .vnil id a
 |pl d i b o cv hc hv hone ih=>
  exact .pl d i b o cv (fun k hk=>let ⟨p,c⟩:=e.cell b (o+k) (cv k) (hc k hk).2 (hc k hk).1;⟨c,p⟩) (fun k hk=>ih k hk e.bare) hone
 |ptr id i o b esz hm=>exact .ptr id i o b esz (e.ext _ _ hm)
 |agg l vs hlen hv hone ih=>exact .agg l vs hlen (fun k h1 h2=>ih k h1 h2 e) hone
 |tup l vs hlen hv ih=>exact .tup l vs hlen (fun k h1 h2=>ih k h1 h2 e)
 |fn f la lc va vc ha hc hva hvc iha ihc=>exact .fn f la lc va vc ha hc (fun k h1 h2=>iha k h1 h2 e) (fun k h1 h2=>ihc k h1 h2 e)
 |mref id r hm=>exact .mref id r (e.ext _ _ hm)
 |mlst ks vs r clock es hw hp h1 h2 hk hv ih=>
  obtain⟨p,c⟩:=e.obj r es clock hp hw
  exact .mlst ks vs r clock es c p h1 h2 hk (fun i h3 h4=>ih i h3 h4 e.bare)
 |opq v h hb=>exact .opq v h hb
 |bad v=>exact .bad v
theorem Ev.up (m:Map)(pr:q1x)(w:World):Ev q1t pr w m pr w:=
 ⟨(fun _ _ h=>nomatch h),fun _ _ _ h h'=>⟨h,h'⟩,fun _ _ _ h h'=>⟨h,h'⟩,fun _ C _ _ h=>⟨C,h,rfl⟩⟩
theorem VR.up {m:Map}{pr:q1x}{w:World}{d:D}{v:Value}(h:VR q1t pr w d v):VR m pr w d v:=h.mono (Ev.up m pr w)
theorem VR.scalar {m m':Map}{pr pr':q1x}{w w':World}{d:D}{v:Value}(h:VR m pr w d v)(hd:d.scalar=true):VR m' pr' w' d v:=by
 cases h<;>first|exact .bool _|exact .int _ _|exact .float _ _|exact .str _|(simp[D.scalar]at hd)
theorem VR.oneCell {m:Map}{pr:q1x}{w:World}{d:D}{v:Value}(h:VR m pr w d v)(hd:d.one=true):oneV v=true:=by
 cases h<;>first|rfl|(simp[D.one]at hd;done) |assumption
theorem VR.cells {m:Map}{pr:q1x}{w:World}{d:D}{v:Value}(h:VR m pr w d v)(hd:d.sto=true):
 d.cells.length=v.cells.size∧(∀k (hk:k<d.cells.length) (hk':k<v.cells.size),VR m pr w d.cells[k] v.cells[k])∧∀e∈d.cells,e.one=true:=by
 have h0:=h
 cases h with
 |agg l vs hlen hv hone=>exact⟨hlen,hv,hone⟩
 |tup l vs hlen hv=>simp[D.sto]at hd
 |bad=>simp[D.sto]at hd
 |opq v h hb=>
  refine⟨?_,?_,by simp[D.cells,D.one]⟩
  ·cases v<;>first|rfl|(simp[oneV]at h)
  intro k hk hk'
  simp[D.cells]at hk
  subst hk
  cases v<;>first|exact .opq _ h hb|(simp[oneV]at h)
 |_=>
  refine⟨rfl,?_,by simp[D.cells,D.one]⟩
  intro k hk hk'
  simp[D.cells]at hk
  subst hk
  exact h0
def RowIn (m:Map)(pr:q1x)(w:World)(es:List D)(esz:Nat)(C:Array Value):Prop:=
 0<esz∧(∀e∈es,e.cells.length=esz)∧(fl es).length≤C.size∧(∀k (hk:k<(fl es).length) (hk':k<C.size),VR m pr w ((fl es)[k]) C[k])∧∀e∈fl es,e.one=true
def MapIn (m:Map)(pr:q1x)(w:World)(ks:List ByteArray)(vs:List D)(es:Array MapEntry):Prop:=
 ks.length=es.size∧vs.length=es.size∧(∀i (_:i<ks.length) (_:i<es.size),es[i].key=.string ks[i])∧∀i (_:i<vs.length) (_:i<es.size),VR m pr w vs[i] es[i].val
theorem RowIn.mono {m m':Map}{pr pr':q1x}{w w':World}{es:List D}{esz:Nat}{C:Array Value}(h:RowIn m pr w es esz C)(e:Ev m pr w m' pr' w'):RowIn m' pr' w' es esz C:=
 ⟨h.1,h.2.1,h.2.2.1,fun k hk hk'=>(h.2.2.2.1 k hk hk').mono e,h.2.2.2.2⟩
theorem MapIn.mono {m m':Map}{pr pr':q1x}{w w':World}{ks:List ByteArray}{vs:List D}{es:Array MapEntry}(h:MapIn m pr w ks vs es)(e:Ev m pr w m' pr' w'):MapIn m' pr' w' ks vs es:=
 ⟨h.1,h.2.1,h.2.2.1,fun k hk hk'=>(h.2.2.2 k hk hk').mono e⟩
structure Ctx where
 B:Nat
 ok0:q1x
def Wi (m:Map)(h:q0e)(z:Frz)(b o:Nat):Prop:=∃id esz,m id=some (b,esz)∧h id≠none∧z id*esz≤o
def Pr (c:Ctx)(m:Map)(h:q0e)(z:Frz):q1x:=fun b o=>(b<c.B∧c.ok0 b o)∨(c.B≤b∧¬Wi m h z b o)
structure HR (c:Ctx)(m:Map)(h:q0e)(z:Frz)(w:World):Prop where
 row:∀id es esz,h id=some (.row es esz)→(∃(b:Nat) (C:Array Value) (t:TypeId),m id=some (b,esz)∧c.B≤b∧w.heap[b]?=some (.cells C t (0,0))∧RowIn m (Pr c m h z) w es esz C)∨(es=[]∧m id=none)
 mp:∀id ks vs,h id=some (.mp ks vs)→∃(r:Nat) (es:Array MapEntry) (clock:Nat),m id=some (r,1)∧c.B≤r∧w.heap[r]?=some (.map es clock)∧MapIn m (Pr c m h z) w ks vs es
 inj:∀id id' x x',h id≠none→h id'≠none→m id=some x→m id'=some x'→x.1=x'.1→id=id'
 below:∀id x,m id=some x→c.B≤x.1∧x.1<w.heap.size
 base:c.B≤w.heap.size
 zle:∀id,h id≠none→z id≤q0t h id
theorem HR.rowR {c:Ctx}{m:Map}{h:q0e}{z:Frz}{w:World}(H:HR c m h z w){id esz:Nat}{es:List D}(hr:h id=some (.row es esz)){x:Nat×Nat}(hm:m id=some x):
 ∃(b:Nat) (C:Array Value) (t:TypeId),m id=some (b,esz)∧c.B≤b∧w.heap[b]?=some (.cells C t (0,0))∧RowIn m (Pr c m h z) w es esz C:=by
 rcases H.row id es esz hr with h1|⟨_,h1⟩
 ·exact h1
 rw[hm]at h1;cases h1
theorem q1m {l:List D}{n:Nat}(h:∀e∈l,e.cells.length=n):(fl l).length=l.length*n:=by
 induction l with
 |nil=>simp[fl]
 |cons e l ih=>
  have h1:=h e (List.mem_cons_self ..)
  have h2:=ih fun x hx=>h x (List.mem_cons_of_mem _ hx)
  simp only[fl,List.flatMap_cons,List.length_append,List.length_cons]at h2⊢
  rw[h1,h2,Nat.succ_mul];omega
theorem q7X {l:List D}{n:Nat}(h:∀e∈l,e.cells.length=n){i:Nat}{e:D}(hi:l[i]?=some e){j:Nat}(hj:j<n):(fl l)[i*n+j]?=e.cells[j]?:=by
 induction l generalizing i with
 |nil=>simp at hi
 |cons x l ih=>
  have h1:=h x (List.mem_cons_self ..)
  have h2:=fun y hy=>h y (List.mem_cons_of_mem x hy)
  simp only[fl,List.flatMap_cons]
  cases i with
  |zero=>
   simp at hi;subst hi
   rw[Nat.zero_mul,Nat.zero_add,List.getElem?_append_left (by omega)]
  |succ i=>
   simp at hi
   rw[List.getElem?_append_right (by rw[h1,Nat.succ_mul];omega),h1]
   rw[show(i+1) *n+j-n=i*n+j by rw[Nat.succ_mul];omega]
   exact ih h2 hi
theorem cell?_row {w:World}{b o:Nat}{C:Array Value}{t:TypeId}{f:Nat×Nat}(h:w.heap[b]?=some (.cells C t f)):w.cell? ⟨b,o,none⟩=C[o]?:=by
 simp[World.cell?,h]
theorem cell?_block {w:World}{b o:Nat}{c:Value}(h:w.cell? ⟨b,o,none⟩=some c):∃(C:Array Value) (t:TypeId) (f:Nat×Nat),w.heap[b]?=some (.cells C t f)∧C[o]?=some c:=by
 simp only[World.cell?]at h
 split at h
 ·rename_i C t f hb;exact⟨C,t,f,hb,by simpa using h⟩
 cases h
end Go.F
