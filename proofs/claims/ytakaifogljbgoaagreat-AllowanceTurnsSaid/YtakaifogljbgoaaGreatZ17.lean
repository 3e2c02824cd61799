/- Parts of the proof, part 17: Sound. -/
import Derived.Test.YtakaifogljbgoaaGreatZ14
import Derived.Test.YtakaifogljbgoaaGreatZ16
set_option linter.all false
namespace Go.F
open Go.RowKit (Below)
variable {P:Program}{E:Env}
def qBM (P:Program)(f:FuncId)(vs:Array Value)(w:World)(Q:Value→World→Prop):Prop:=
 ((callFunc f vs).run P w=.ok (.enter f vs) w∧Calls P f vs w fun e w'=>∃v,e=.returned v∧Q v w')∨(∃v w',(callFunc f vs).run P w=.ok (.value v) w'∧Q v w')
def q3y (m:Map)(pr:q1x)(w:World)(l:List D)(vs:Array Value):Prop:=l.length=vs.size∧∀k (_:k<l.length) (_:k<vs.size),VR m pr w l[k] vs[k]
def qr8 (P:Program)(E:Env):Prop:=∀f args r,E.pure f args=some r→∀(w:World) (ok:q1x) (vs:Array Value),(∀b o,ok b o→b<w.heap.size)→q3y q1t ok w args vs→
 qBM P f vs w fun v w'=>VR q1t (fun b o=>ok b o∨w.heap.size≤b) w' r v∧Below w.heap.size w w'
def qr9 (P:Program)(E:Env):Prop:=∀f args h z nx r h' z' nx',E.shar f args h z nx=some (r,h',z',nx')→∀(c:Ctx) (m:Map) (w:World) (vs:Array Value),HR c m h z w→q3y m (Pr c m h z) w args vs→(∀id,nx≤id→m id=none)→
 qBM P f vs w fun v w'=>∃m',HR c m' h' z' w'∧VR m' (Pr c m' h' z') w' r v∧Ev m (Pr c m h z) w m' (Pr c m' h' z') w'∧Below c.B w w'∧(∀id,id<nx→m' id=m id)∧(∀id,nx'≤id→m' id=none)∧nx≤nx'
theorem qra {c:Ctx}{m:Map}{h:q0e}{z:Frz}{w w':World}(Hl:HR c m h z w)(hb':Below w.heap.size w w'):HR c m h z w'∧Ev m (Pr c m h z) w m (Pr c m h z) w':=by
 have hold:∀b,b<w.heap.size→w'.heap[b]?=w.heap[b]?:=fun b hb=>hb'.block b hb
 have evw:Ev m (Pr c m h z) w m (Pr c m h z) w':=by
  refine⟨fun _ _ h=>h,fun b o' v hp hc=>⟨hp,?_⟩,fun r es k hp hc=>⟨hp,?_⟩,fun b C t f hb=>⟨C,?_,rfl⟩⟩
  ·obtain⟨C,t,f,hb,hv⟩:=cell?_block hc
   rw[cell?_row ((hold b (Array.getElem?_eq_some_iff.1 hb).1).trans hb)];exact hv
  ·exact(hold r (Array.getElem?_eq_some_iff.1 hc).1).trans hc
  exact(hold b (Array.getElem?_eq_some_iff.1 hb).1).trans hb
 refine⟨⟨fun id es esz hr=>?_,fun id ks vs hr=>?_,Hl.inj,fun id x hx=>⟨(Hl.below id x hx).1,Nat.lt_of_lt_of_le (Hl.below id x hx).2 hb'.size⟩,Nat.le_trans Hl.base hb'.size,Hl.zle⟩,evw⟩
 ·rcases Hl.row id es esz hr with⟨b,C,t,g1,g2,g3,g4⟩ |g0
  ·exact .inl ⟨b,C,t,g1,g2,(hold b (Hl.below id _ g1).2).trans g3,g4.mono evw⟩
  exact .inr g0
 obtain⟨r,es,k,g1,g2,g3,g4⟩:=Hl.mp id ks vs hr
 exact⟨r,es,k,g1,g2,(hold r (Hl.below id _ g1).2).trans g3,g4.mono evw⟩
structure Rel (n nx0:Nat)(c:Ctx)(ms:Map)(prs:q1x)(ws:World)(fresh:Nat→Prop)(s:St)(a:Act)(w:World):Prop where
 ex:∃m,HR c m s.heap s.frz w∧(∀i,VR m (Pr c m s.heap s.frz) w (s.tmps i) (a.tmps.getD i undef))∧Ev ms prs ws m (Pr c m s.heap s.frz) w∧(∀id,fresh id→m id=none)∧∀id,id<nx0→m id=ms id
 below:Below c.B ws w
 defers:a.defers=[]
 size:n≤a.tmps.size
 next:nx0≤s.next
theorem qjK {m:Map}{pr:q1x}{w:World}{t:q0z}{a:Act}{dst:Option Tmp}{d:D}{v:Value}(ht:∀i,VR m pr w (t i) (a.tmps.getD i undef))(hv:VR m pr w d v)(hd:∀x,dst=some x→x<a.tmps.size):
 ∀i,VR m pr w (put t dst d i) ((a.put dst v).tmps.getD i undef):=by
 intro i
 rw[ql1]
 cases dst with
 |none=>simpa[Act.put]using ht i
 |some x=>
  have hx:=hd x rfl
  simp only[Act.put,Option.some.injEq]
  by_cases h:x=i
  ·subst h
   simp[Array.getD_eq_getD_getElem?,hx,hv]
  rw[if_neg h]
  have:(a.tmps.setIfInBounds x v).getD i undef=a.tmps.getD i undef:=by
   simp only[Array.getD_eq_getD_getElem?,Array.getElem?_setIfInBounds]
   rw[if_neg h]
  rw[this];exact ht i
theorem qjL (a:Act)(dst:Option Tmp)(v:Value):(a.put dst v).tmps.size=a.tmps.size:=by cases dst<;>simp[Act.put]
theorem put_defers (a:Act)(dst:Option Tmp)(v:Value):(a.put dst v).defers=a.defers:=by cases dst<;>simp[Act.put]
theorem qua {m:Map}{pr:q1x}{w:World}{t:q0z}{a:Act}(ht:∀i,VR m pr w (t i) (a.tmps.getD i undef))(ops:Array Oper)(o:Oper){b:Bool}(hw:wanted t ops o=some b):Region.wanted o (yielded ops a.tmps)=b:=by
 unfold wanted at hw
 unfold Region.wanted
 cases hg:o.guard with
 |none=>rw[hg]at hw;cases hw;rfl
 |some g=>
  obtain⟨j,want⟩:=g
  simp only[hg]at hw
  simp only[yielded]
  cases hd:(ops[j]?).bind (·.dst)with
  |none=>rw[hd]at hw;cases hw;rfl
  |some d=>
   simp only[hd]at hw
   simp only[Option.bind_some]
   have hv:=ht d
   cases hc:a.tmps[d]? with
   |none=>
    have:a.tmps.getD d undef=undef:=by simp[Array.getD_eq_getD_getElem?,hc]
    rw[this]at hv
    cases hb:t d<;>first|(rw[hb]at hw;cases hw<;>rfl) |(rw[hb]at hv;cases hv)
   |some v=>
    have:a.tmps.getD d undef=v:=by simp[Array.getD_eq_getD_getElem?,hc]
    rw[this]at hv
    cases v with
    |bool x=>
     cases hb:t d with
     |bool y=>rw[hb]at hv hw;cases hv;simpa using hw
     |bad=>simp[hb]at hw
     |opq y=>rw[hb]at hv;cases hv;rename_i h1 h2;simp[nb]at h2
     |_=>rw[hb]at hv;cases hv
    |_=>cases hb:t d<;>first|(rw[hb]at hw;cases hw<;>rfl) |(rw[hb]at hv;cases hv)
theorem qF8 (draw:Bool)(sp:Sp)(ops:Array Oper)(base i:Nat)(o:Oper)(h:q0e):Sub (q20 draw sp ops base i o h) h:=by
 intro id b hb
 cases draw with
 |false=>exact hb
 |true=>
  simp only[q20]at hb
  cases hk:q4U sp ops base i o id with
  |true=>rw[hk]at hb;exact hb
  |false=>rw[hk]at hb;cases hb
theorem qJ4 (draw:Bool)(sp:Sp)(ops:Array Oper)(base i:Nat)(o:Oper)(h:q0e)(z:Frz):∀id,q20 draw sp ops base i o h id≠none→q6p draw sp ops base i o z id=z id:=by
 intro id hb
 cases draw with
 |false=>rfl
 |true=>
  simp only[q20]at hb
  cases hk:q4U sp ops base i o id with
  |true=>simp[q6p,hk]
  |false=>simp[hk]at hb
theorem qub {ρ:Operand→Value}{o:Oper}{cl:Call}{f:Operand}{g:FuncId}{va vc:Array Value}{w:World}(ho:o.op=.call cl)(hc:cl.callee=.value f)(hf:ρ f=.func (.func g) va vc):
 (execOp ρ o).run P w=(callFunc g (va++cl.args.map ρ++vc)).run P w:=by
 simp only[execOp,ho,resolve,hc,hf,Deferred.ofValue,invoke,Sem.run_bind,Sem.run_pure,Result.andThen_ok]
theorem quc {o:Oper}{a:Act}{w:World}{g:FuncId}{vs:Array Value}{Q:Exit→Act→World→Prop}{K:Act→World→Prop}{R:Value→World→Prop}(hrun:(execOp a.eval o).run P w=(callFunc g vs).run P w)(hc:qBM P g vs w R)
 (hK:∀v w',R v w'→K (a.put o.dst v) w'):o.wp P a w K Q:=by
 unfold Oper.wp
 rw[hrun]
 rcases hc with⟨h1,h2⟩ |⟨v,w',h1,h2⟩
 ·rw[h1]
  simp only[Oper.upon]
  refine h2.mono fun e w' he=>?_
  obtain⟨v,rfl,hR⟩:=he
  exact hK v w' hR
 rw[h1]
 exact hK v w' h2
theorem qzq {m:Map}{pr:q1x}{w:World}{t:q0z}{a:Act}(ht:∀i,VR m pr w (t i) (a.tmps.getD i undef)){la lc:List D}{va vc:Array Value}{args:Array Operand}(ha:q3y m pr w la va)(hc:q3y m pr w lc vc):
 q3y m pr w (la++args.toList.map (ev t)++lc) (va++args.map a.eval++vc):=by
 have hm:q3y m pr w (args.toList.map (ev t)) (args.map a.eval):=⟨by simp,fun k h1 h2=>by simp only[List.getElem_map,Array.getElem_toList,Array.getElem_map];exact qf4 ht _⟩
 have app:∀{l l':List D} {u u':Array Value},q3y m pr w l u→q3y m pr w l' u'→q3y m pr w (l++l') (u++u'):=by
  intro l l' u u' h1 h2
  refine⟨by simp[h1.1,h2.1],fun k hk hk'=>?_⟩
  by_cases hlt:k<l.length
  ·rw[List.getElem_append_left hlt,Array.getElem_append_left (by have:=h1.1;omega)]
   exact h1.2 _ _ _
  have:=h1.1
  rw[List.getElem_append_right (by omega),Array.getElem_append_right (by omega)]
  simp only[this]
  exact h2.2 _ _ _
 exact app (app ha hm) hc
theorem VR.noRef:∀(n:Nat) {m m':Map} {pr pr':q1x} {w w':World} {d:D} {v:Value},VR m pr w d v→noRef n d=true→VR m' pr' w' d v:=by
 intro n
 induction n with
 |zero=>intro m m' pr pr' w w' d v _ h;simp[F.noRef]at h
 |succ n ih=>
  intro m m' pr pr' w w' d v hv h
  cases hv with
  |bool b=>exact .bool b
  |int k n=>exact .int k n
  |float k n=>exact .float k n
  |str s=>exact .str s
  |agg l vs hlen hv hone=>
   simp only[F.noRef,List.all_eq_true]at h
   exact .agg l vs hlen (fun k h1 h2=>ih (hv k h1 h2) (h _ (List.getElem_mem _))) hone
  |tup l vs hlen hv=>
   simp only[F.noRef,List.all_eq_true]at h
   exact .tup l vs hlen (fun k h1 h2=>ih (hv k h1 h2) (h _ (List.getElem_mem _)))
  |_=>simp[F.noRef]at h
theorem qud {n nx0:Nat}{c:Ctx}{ms:Map}{prs:q1x}{ws:World}(hpure:qr8 P E)(hshar:qr9 P E){draw:Bool}{sp:Sp}{ops:Array Oper}{base:Nat}{Q:Exit→Act→World→Prop}
 (hbase:nx0≤base) (hdst:∀(i:Nat) (o:Oper),ops[i]?=some o→∀d,o.dst=some d→d<n):
 ∀i o s s1 a w (todo:Nat→Prop) (K:Act→World→Prop),ops[i]?=some o→todo i→one P E draw sp ops o i base s=some s1→
  (Rel n nx0 c ms prs ws (fun id=>(∃k,todo k∧id=base+k)∨s.next≤id) s a w∧∀k,todo k→base+k<s.next)→
  (∀a' w',(Rel n nx0 c ms prs ws (fun id=>(∃k,(todo k∧k≠i)∧id=base+k)∨s1.next≤id) s1 a' w'∧∀k,(todo k∧k≠i)→base+k<s1.next)→K a' w')→wpOp P ops Q i K a w:=by
 intro i o s s1 a w todo K ho htd hone hI hK
 obtain⟨R,hnx⟩:=hI
 obtain⟨m,H,ht,hev,hfr,hms⟩:=R.ex
 have hd:∀x,o.dst=some x→x<a.tmps.size:=fun x hx=>Nat.lt_of_lt_of_le (hdst i o ho x hx) R.size
 unfold wpOp
 rw[ho]
 simp only
 unfold one at hone
 match hw:wanted s.tmps ops o with
 |none=>simp[hw]at hone
 |some false=>
  rw[qua ht ops o hw]
  rw[hw]at hone
  simp only[Bool.false_eq_true,if_false,Option.some.injEq]at hone⊢
  subst hone
  refine hK _ _ ⟨⟨⟨m,H,qjK ht (.tup [] #[] rfl (by simp)) hd,hev,fun id hf=>hfr id ?_,hms⟩,R.below,by rw[put_defers];exact R.defers,by rw[qjL];exact R.size,R.next⟩,fun k hk=>hnx k hk.1⟩
  rcases hf with⟨k,hk,rfl⟩ |hf
  ·exact .inl ⟨k,hk.1,rfl⟩
  exact .inr hf
 |some true=>
  rw[qua ht ops o hw]
  rw[hw]at hone
  simp only[if_true]at hone⊢
  refine .inl ?_
  split at hone
  ·rename_i g args hsc
   split at hone
   ·rename_i v h' z' nx' hsh
    simp only[Option.some.injEq]at hone
    subst hone
    unfold q13 at hsc
    split at hsc
    ·rename_i cl hop
     split at hsc
     ·rename_i f' hcal
      split at hsc
      ·simp only[Option.some.injEq,Prod.mk.injEq]at hsc
       obtain⟨rfl,rfl⟩:=hsc
       have hvf:=qf4 ht (.func f')
       have hfn:ev s.tmps (.func f')=.fn f' [] []:=rfl
       rw[hfn]at hvf
       obtain⟨va,vc,hva,hla,hlc⟩:∃va vc,a.eval (.func f')=.func (.func f') va vc∧q3y m (Pr c m s.heap s.frz) w [] va∧q3y m (Pr c m s.heap s.frz) w [] vc:=by
        generalize a.eval (.func f')=vf at hvf
        cases hvf with
        |fn _ _ _ va vc h1 h2 h3 h4=>exact⟨va,vc,rfl,⟨h1,h3⟩,⟨h2,h4⟩⟩
       have hargs:=qzq ht hla hlc (args:=cl.args)
       simp only[List.nil_append,List.append_nil]at hargs
       refine quc (qub hop hcal hva) (hshar f' _ s.heap s.frz s.next v h' z' nx' hsh c m w _ H hargs (fun id hid=>hfr id (.inr hid))) ?_
       rintro u w' ⟨m',H',hu,ev',hb',hlow,hhigh,hle⟩
       refine hK _ _ ⟨⟨⟨m',H',qjK (fun j=>(ht j).mono ev') hu hd,hev.trans ev',fun id hf=>?_,fun id hid=>?_⟩,R.below.trans hb',by rw[put_defers];exact R.defers,by rw[qjL];exact R.size,Nat.le_trans R.next hle⟩,fun k hk=>Nat.lt_of_lt_of_le (hnx k hk.1) hle⟩
       ·rcases hf with⟨k,hk,rfl⟩ |hf
        ·rw[hlow _ (hnx k hk.1)];exact hfr _ (.inl ⟨k,hk.1,rfl⟩)
        exact hhigh id hf
       rw[hlow id (Nat.lt_of_lt_of_le hid R.next)];exact hms id hid
      cases hsc
     cases hsc
    cases hsc
   cases hone
  rename_i hsc
  split at hone
  ·rename_i r hst
   simp only[Option.some.injEq]at hone
   subst hone
   have hsub:=qF8 draw sp ops base i o s.heap
   have hgz:=qJ4 draw sp ops base i o s.heap s.frz
   have hlt:=hnx i htd
   have hfreshi:m (base+i)=none:=hfr _ (.inl ⟨i,htd,rfl⟩)
   by_cases hcall:∃cl f,o.op=.call cl∧cl.callee=.value f
   ·obtain⟨cl,f,hop,hcal⟩:=hcall
    simp only[step,hop,hcal]at hst
    split at hst
    ·rename_i f' la lc hfn
     have hvf:=qf4 ht f
     rw[hfn]at hvf
     obtain⟨va,vc,hva,hla,hlc⟩:∃va vc,a.eval f=.func (.func f') va vc∧q3y m (Pr c m s.heap s.frz) w la va∧q3y m (Pr c m s.heap s.frz) w lc vc:=by
      generalize a.eval f=vf at hvf
      cases hvf with
      |fn _ _ _ va vc h1 h2 h3 h4=>exact⟨va,vc,rfl,⟨h1,h3⟩,⟨h2,h4⟩⟩
     have hargs:=qzq ht hla hlc (args:=cl.args)
     unfold q5t at hst
     split at hst
     ·cases hst
     rename_i bs hbs
     split at hst
     ·cases hst
     rename_i d hp
     have hfz:∀p∈((la++cl.args.toList.map (ev s.tmps)++lc).flatMap (q0T (q20 draw sp ops base i o s.heap) depth)).map (fun id=>(id,q0t (q20 draw sp ops base i o s.heap) id)),p.2=q0t s.heap p.1:=by
      intro p hp
      obtain⟨id,hid,rfl⟩:=List.mem_map.1 hp
      obtain⟨x,_,hx⟩:=List.mem_flatMap.1 hid
      have hne:=qpg _ _ _ _ hx
      cases hb:q20 draw sp ops base i o s.heap id with
      |none=>exact absurd hb hne
      |some b=>simp[q0t,hb,hsub _ _ hb]
     have Hz:=H.freeze hfz
     have evz:=Ev.freeze H hfz
     have hin:∀id,id∈(la++cl.args.toList.map (ev s.tmps)++lc).flatMap (q0T (q20 draw sp ops base i o s.heap) depth)→
      q0A s.frz (((la++cl.args.toList.map (ev s.tmps)++lc).flatMap (q0T (q20 draw sp ops base i o s.heap) depth)).map (fun id=>(id,q0t (q20 draw sp ops base i o s.heap) id))) id=q0t s.heap id:=by
      intro id hid
      have key:∀(l:List (Nat×Nat)) (z:Frz),(∀p∈l,p.2=q0t s.heap p.1)→(∃p∈l,p.1=id)→q0A z l id=q0t s.heap id:=by
       intro l
       induction l with
       |nil=>intro z _ ⟨p,hp,_⟩;simp at hp
       |cons q l ih=>
        intro z hall hex
        obtain⟨j,k⟩:=q
        simp only[q0A]
        by_cases hmore:∃p∈l,p.1=id
        ·exact ih _ (fun p hp=>hall p (List.mem_cons_of_mem _ hp)) hmore
        obtain⟨p,hp,hpid⟩:=hex
        rcases List.mem_cons.1 hp with rfl|hp
        ·rw[q5G _ _ _ (fun q hq e=>hmore ⟨q,hq,e⟩)]
         simp only at hpid
         subst hpid
         rw[upd_same]
         exact hall (j,k) (List.mem_cons_self ..)
        exact absurd ⟨p,hp,hpid⟩ hmore
      exact key _ _ hfz ⟨(id,_),List.mem_map.2 ⟨id,hid,rfl⟩,rfl⟩
     obtain⟨q1,q2⟩:=q8q hbs
     have hbv:q3y q1t (fun b o'=>b<w.heap.size∧Pr c m s.heap (q0A s.frz (((la++cl.args.toList.map (ev s.tmps)++lc).flatMap (q0T (q20 draw sp ops base i o s.heap) depth)).map (fun id=>(id,q0t (q20 draw sp ops base i o s.heap) id)))) b o') w bs (va++cl.args.map a.eval++vc):=by
      refine⟨q1.trans hargs.1,fun k hk hk'=>?_⟩
      have hk1:k<(la++cl.args.toList.map (ev s.tmps)++lc).length:=by omega
      have hsn:=q9u H hsub evz depth _ _ _ (hargs.2 k hk1 hk') (q2 k hk1 hk) (fun id hid=>hin id (List.mem_flatMap.2 ⟨_,List.getElem_mem _,hid⟩))
      refine hsn.1.mono ⟨(fun _ _ h=>nomatch h),fun b o' v hp hc=>?_,fun r es k hp hc=>?_,fun b C t f hb=>⟨C,hb,rfl⟩⟩
      ·obtain⟨C,t,f,hb,_⟩:=cell?_block hc
       exact⟨⟨(Array.getElem?_eq_some_iff.1 hb).1,hp⟩,hc⟩
      exact⟨⟨(Array.getElem?_eq_some_iff.1 hc).1,hp⟩,hc⟩
     refine quc (qub hop hcal hva) (hpure f' bs d hp w _ _ (fun b o' hb=>hb.1) hbv) ?_
     rintro u w' ⟨hu,hb'⟩
     have hold:∀b,b<w.heap.size→w'.heap[b]?=w.heap[b]?:=fun b hb=>hb'.block b hb
     have hbel:Below c.B ws w':=R.below.trans (hb'.mono Hz.base)
     have main:∀l:List (Nat×Nat),(∀p∈l,p.2=q0t s.heap p.1)→VR m (Pr c m s.heap (q0A s.frz l)) w' d u→r=⟨d,[],l⟩→K (a.put o.dst u) w':=by
      intro l hl huv hrl
      have Hl:=H.freeze hl
      have evl:=Ev.freeze H hl
      obtain⟨H',evw⟩:=qra Hl hb'
      subst hrl
      refine hK _ _ ⟨⟨⟨m,H',qjK (fun j=>(ht j).mono (evl.trans evw)) huv hd,hev.trans (evl.trans evw),fun id hf=>hfr id ?_,hms⟩,hbel,by rw[put_defers];exact R.defers,by rw[qjL];exact R.size,R.next⟩,fun k hk=>hnx k hk.1⟩
      rcases hf with⟨k,hk,rfl⟩ |hf
      ·exact .inl ⟨k,hk.1,rfl⟩
      exact .inr hf
     have hpr:∀b o',((b<w.heap.size∧Pr c m s.heap (q0A s.frz (((la++cl.args.toList.map (ev s.tmps)++lc).flatMap (q0T (q20 draw sp ops base i o s.heap) depth)).map (fun id=>(id,q0t (q20 draw sp ops base i o s.heap) id)))) b o')∨w.heap.size≤b)→
      Pr c m s.heap (q0A s.frz (((la++cl.args.toList.map (ev s.tmps)++lc).flatMap (q0T (q20 draw sp ops base i o s.heap) depth)).map (fun id=>(id,q0t (q20 draw sp ops base i o s.heap) id)))) b o':=by
      intro b o' hb
      rcases hb with hb|hb
      ·exact hb.2
      refine .inr ⟨Nat.le_trans Hz.base hb,fun⟨id,esz,w1,_,_⟩=>?_⟩
      have:=(Hz.below id _ w1).2
      simp only at this;omega
     split at hst
     ·rename_i hno
      simp only[Option.some.injEq]at hst
      exact main [] (by simp) (hu.noRef 4 hno) hst.symm
     simp only[Option.some.injEq]at hst
     exact main _ hfz (hu.mono ⟨(fun _ _ h=>nomatch h),fun b o' v hp hc=>⟨hpr b o' hp,hc⟩,fun r es k hp hc=>⟨hpr r 0 hp,hc⟩,fun b C t f hb=>⟨C,hb,rfl⟩⟩) hst.symm
    cases hst
   have hsim:=qHO H hsub hgz (fun _=>hfreshi) ht (fun cl f h1 h2=>hcall ⟨cl,f,h1,h2⟩) hst
   obtain⟨nxt,w',m',hrun,hval,H',ev',hmk,hb'⟩:=hsim
   unfold Oper.wp
   rw[hrun]
   have fin:∀u,VR m' (Pr c m' (q0A s.heap r.hp) (q0A s.frz r.fz)) w' r.v u→K (a.put o.dst u) w':=by
    intro u hu
    refine hK _ _ ⟨⟨⟨m',H',qjK (fun j=>(ht j).mono ev') hu hd,hev.trans ev',fun id hf=>?_,fun id hid=>?_⟩,R.below.trans hb',by rw[put_defers];exact R.defers,by rw[qjL];exact R.size,R.next⟩,fun k hk=>hnx k hk.1⟩
    ·rcases hf with⟨k,hk,rfl⟩ |hf
     ·rw[hmk _ (by have:=hk.2;omega)];exact hfr _ (.inl ⟨k,hk.1,rfl⟩)
     rw[hmk id (by simp only at hf;omega)];exact hfr id (.inr hf)
    rw[hmk id (by omega)];exact hms id hid
   rcases hval with⟨u,rfl,hu⟩ |⟨rfl,hu⟩
   ·exact fin u hu
   refine fin undef ?_
   rw[hu];exact .tup [] #[] rfl (by simp)
  cases hone
end Go.F
