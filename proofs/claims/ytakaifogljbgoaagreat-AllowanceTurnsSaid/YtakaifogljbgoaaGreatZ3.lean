/- Parts of the proof, part 3: Conf. -/
import Derived.Test.YtakaifogljbgoaaGreatZ1
set_option linter.all false
namespace Go.F
theorem q8h {α:Type}(f:Nat→α)(i:Nat)(v:α)(k:Nat):upd f i v k=if k=i then v else f k:=by
 unfold upd
 by_cases h:k=i
 ·subst h;simp
 have:Nat.beq k i=false:=by
  cases hb:Nat.beq k i with
  |false=>rfl
  |true=>exact absurd (Nat.eq_of_beq_eq_true hb) h
 simp[this,h]
theorem upd_same {α:Type}(f:Nat→α)(i:Nat)(v:α):upd f i v i=v:=by simp[q8h]
theorem upd_ne {α:Type}{f:Nat→α}{i:Nat}{v:α}{k:Nat}(h:k≠i):upd f i v k=f k:=by simp[q8h,h]
theorem qFT {α:Type}(f:Nat→α){i j:Nat}{v u:α}(h:i≠j∨v=u):upd (upd f i v) j u=upd (upd f j u) i v:=by
 funext k
 simp only[q8h]
 by_cases h1:k=i<;>by_cases h2:k=j<;>simp[h1,h2]
 ·subst h1;rcases h with h|h
  ·exact absurd h2 h
  intro _;exact h.symm
 ·intro h3;exact absurd (h3▸h1) h2
 intro h3;exact absurd (h3▸h2:k=i) h1
theorem q5G {α:Type}(l:List (Nat×α))(f:Nat→α)(k:Nat)(h:∀p∈l,p.1≠k):q0A f l k=f k:=by
 induction l generalizing f with
 |nil=>rfl
 |cons p l ih=>
  obtain⟨i,v⟩:=p
  simp only[q0A]
  rw[ih _ fun q hq=>h q (List.mem_cons_of_mem _ hq)]
  exact upd_ne fun e=>h (i,v) (List.mem_cons_self ..) e.symm
theorem qA3 {α:Type}(l:List (Nat×α))(f:Nat→α)(i:Nat)(v:α)(h:∀p∈l,p.1≠i∨p.2=v):
 q0A (upd f i v) l=upd (q0A f l) i v:=by
 induction l generalizing f with
 |nil=>rfl
 |cons p l ih=>
  obtain⟨j,u⟩:=p
  simp only[q0A]
  have hj:=h (j,u) (List.mem_cons_self ..)
  rw[qFT f (i:=i) (j:=j) (v:=v) (u:=u) (by rcases hj with hj|hj;exact .inl (fun e=>hj e.symm);exact .inr hj.symm)]
  exact ih _ fun q hq=>h q (List.mem_cons_of_mem _ hq)
theorem qmI {α:Type}(l l':List (Nat×α))(f:Nat→α)(h:∀p∈l,∀q∈l',p.1≠q.1∨p.2=q.2):
 q0A (q0A f l) l'=q0A (q0A f l') l:=by
 induction l generalizing f with
 |nil=>rfl
 |cons p l ih=>
  obtain⟨i,v⟩:=p
  simp only[q0A]
  rw[ih _ fun q hq=>h q (List.mem_cons_of_mem _ hq)]
  congr 1
  refine qA3 l' f i v fun q hq=>?_
  rcases h (i,v) (List.mem_cons_self ..) q hq with h|h
  ·exact .inl (fun e=>h e.symm)
  exact .inr h.symm
theorem qFU {t t':q0z}{x:Operand}(h:∀d,x=.tmp d→t d=t' d):ev t x=ev t' x:=by
 cases x<;>simp[ev]
 exact h _ rfl
theorem q87 {t t':q0z}{l:List Operand}(h:∀x∈l,ev t x=ev t' x):l.map (ev t)=l.map (ev t'):=
 List.map_congr_left h
theorem qnn {t t':q0z}(place:Nat→Option (Nat×Nat))(l:List (Nat×Operand))(cells:List D)(h:∀p∈l,ev t p.2=ev t' p.2):
 q30 t place cells l=q30 t' place cells l:=by
 induction l generalizing cells with
 |nil=>rfl
 |cons p l ih=>
  obtain⟨i,x⟩:=p
  have hx:=h (i,x) (List.mem_cons_self ..)
  simp only[q30]
  simp only at hx
  rw[hx]
  have:=fun c=>ih c fun q hq=>h q (List.mem_cons_of_mem _ hq)
  simp only[this]
theorem qno {t t':q0z}(n:Nat)(l:List (Nat×Operand))(es:List D)(h:∀p∈l,ev t p.2=ev t' p.2):
 q3g t n es l=q3g t' n es l:=by
 induction l generalizing es with
 |nil=>rfl
 |cons p l ih=>
  obtain⟨i,x⟩:=p
  have hx:=h (i,x) (List.mem_cons_self ..)
  simp only[q3g]
  simp only at hx
  rw[hx]
  have:=fun c=>ih c fun q hq=>h q (List.mem_cons_of_mem _ hq)
  simp only[this]
theorem qhd {t t':q0z}{x:Option Operand}(h:∀y∈x,ev t y=ev t' y):q9z t x=q9z t' x:=by
 cases x<;>simp[q9z]
 exact h _ rfl
theorem qpf {P:Program}{pure:Pure}{o:Oper}{t t':q0z}{h:q0e}{z:Frz}{id:Nat}(he:∀x∈o.op.operands,ev t x=ev t' x):
 step P pure o t h z id=step P pure o t' h z id:=by
 unfold step
 cases hop:o.op<;>simp only[hop,Op.operands]at he⊢
 case move x=>rw[he x (by simp)]
 case assign x=>rw[he x (by simp)]
 case pick c a b=>rw[he c (by simp),he a (by simp),he b (by simp)]
 case box e x=>rw[he x (by simp)]
 case build ty parts=>
  unfold build
  simp only[fun pl c=>qnn (t:=t) (t':=t') pl parts.toList c fun p hp=>he p.2 (by simp;exact⟨p.1,by simpa using hp⟩)]
 case buildSlice ty len parts=>
  simp only[fun n c=>qno (t:=t) (t':=t') n parts.toList c fun p hp=>he p.2 (by simp;exact⟨p.1,by simpa using hp⟩)]
 case load ty a=>rw[he a (by simp)]
 case store ty a v=>rw[he a (by simp),he v (by simp)]
 case nilCheck x=>rw[he x (by simp)]
 case binOp op ty x y yt=>simp only[binX,he x (by simp),he y (by simp)]
 case unOp op ty x=>rw[he x (by simp)]
 case convert s d x=>rw[he x (by simp)]
 case makeFunc fn a c=>
  have h1:a.toList.map (ev t)=a.toList.map (ev t'):=q87 fun x hx=>he x (by simp[Array.mem_toList_iff.1 hx])
  have h2:c.toList.map (ev t)=c.toList.map (ev t'):=q87 fun x hx=>he x (by simp[Array.mem_toList_iff.1 hx])
  cases fn<;>simp[h1,h2]
 case makeSlice ty l c=>rw[he l (by simp),he c (by simp)]
 case slice ty x lo hi mx=>
  rw[he x (by simp),qhd (x:=lo) (fun y hy=>he y (by simp[Option.mem_def.1 hy])),qhd (x:=hi) (fun y hy=>he y (by simp[Option.mem_def.1 hy])),qhd (x:=mx) (fun y hy=>he y (by simp[Option.mem_def.1 hy]))]
 case fieldAddr s x f=>rw[he x (by simp)]
 case indexAddr ty x ix=>rw[he x (by simp),he ix (by simp)]
 case index ty x ix=>rw[he x (by simp),he ix (by simp)]
 case lookup ty x ix ok=>rw[he x (by simp),he ix (by simp)]
 case mapUpdate ty m k v=>rw[he m (by simp),he k (by simp),he v (by simp)]
 case extract x i=>rw[he x (by simp)]
 case call c=>
  have h1:c.args.toList.map (ev t)=c.args.toList.map (ev t'):=q87 fun x hx=>he x (by simp[Call.operands,Array.mem_toList_iff.1 hx])
  cases hc:c.callee with
  |value f=>dsimp only;rw[he f (by simp[Call.operands,hc]),h1]
  |invoke r m=>rfl
  |builtin b=>rw[h1]
theorem qev {P:Program}{pure:Pure}{o:Oper}{t:q0z}{h h':q0e}{z z':Frz}{id:Nat}(hr:q6B o.op=false):
 step P pure o t h z id=step P pure o t h' z' id:=by
 unfold step
 cases hop:o.op<;>simp only[hop,q6B,Bool.true_eq_false]at hr⊢
 case call c=>
  cases hc:c.callee with
  |value f=>simp[hc]at hr
  |invoke r m=>rfl
  |builtin b=>cases b<;>simp[hc]at hr⊢
theorem quJ {P:Program}{pure:Pure}{o:Oper}{t:q0z}{h:q0e}{z z':Frz}{id:Nat}(hr:qeF o.op=false):
 step P pure o t h z id=step P pure o t h z' id:=by
 unfold step
 cases hop:o.op<;>simp only[hop,qeF,Bool.true_eq_false]at hr⊢
 case call c=>
  cases hc:c.callee with
  |value f=>rfl
  |invoke r m=>rfl
  |builtin b=>cases b<;>simp[hc]at hr⊢
theorem qpg (h:q0e):∀(n:Nat) (d:D) (id:Nat),id∈q0T h n d→h id≠none:=by
 intro n
 induction n with
 |zero=>intro d id hm;simp[q0T]at hm
 |succ n ih=>
  intro d id hm
  cases d with
  |ref i off len=>
   simp only[q0T]at hm
   split at hm
   ·rename_i es esz hi
    rcases List.mem_cons.1 hm with rfl|hm
    ·simp[hi]
    obtain⟨x,_,hx⟩:=List.mem_flatMap.1 hm;exact ih _ _ hx
   simp at hm
  |mref i=>
   simp only[q0T]at hm
   split at hm
   ·rename_i ks vs hi
    rcases List.mem_cons.1 hm with rfl|hm
    ·simp[hi]
    obtain⟨x,_,hx⟩:=List.mem_flatMap.1 hm;exact ih _ _ hx
   simp at hm
  |agg l=>simp only[q0T]at hm;obtain⟨x,_,hx⟩:=List.mem_flatMap.1 hm;exact ih _ _ hx
  |tup l=>simp only[q0T]at hm;obtain⟨x,_,hx⟩:=List.mem_flatMap.1 hm;exact ih _ _ hx
  |fn f a c=>
   simp only[q0T]at hm
   rcases List.mem_append.1 hm with hm|hm<;>(obtain⟨x,_,hx⟩:=List.mem_flatMap.1 hm;exact ih _ _ hx)
  |bool b=>simp[q0T]at hm
  |int k n=>simp[q0T]at hm
  |float k b=>simp[q0T]at hm
  |str s=>simp[q0T]at hm
  |nilsl=>simp[q0T]at hm
  |lst l=>simp[q0T]at hm
  |pl e o=>simp[q0T]at hm
  |ptr i j o=>simp[q0T]at hm
  |mlst ks vs=>simp[q0T]at hm
  |opq v=>simp[q0T]at hm
  |bad=>simp[q0T]at hm
def Eff (h:q0e)(rd wr al:Bool)(id:Nat)(r:Out):Prop:=
 (∀p∈r.hp,(wr=true∧h p.1≠none)∨(al=true∧p.1=id))∧
 (∀p∈r.fz,(rd=true∧p.2=q0t h p.1∧h p.1≠none)∨(al=true∧p.1=id))
theorem qa2 {h:q0e}{rd wr al:Bool}{id:Nat}{v:D}:Eff h rd wr al id (out v):=by simp[Eff,out]
theorem qnU {h:q0e}{rd wr:Bool}{id:Nat}{es:List D}{n:Nat}{v:D}:Eff h rd wr true id (newRow id es n v):=by simp[Eff,newRow]
theorem q1V {h:q0e}{rd wr al:Bool}{id:Nat}{x:Option D}{r:Out}(hx:x.map out=some r):Eff h rd wr al id r:=by
 cases x with
 |none=>simp at hx
 |some v=>simp at hx;subst hx;exact qa2
theorem qDu {P:Program}{h:q0e}{z:Frz}{t:TypeId}{a v:D}{al:Bool}{id:Nat}{r:Out}(hs:store P h z t a v=some r):Eff h true true al id r:=by
 unfold store at hs
 repeat' (split at hs)
 all_goals first|(simp at hs;done) |skip
 simp at hs;subst hs
 simp[Eff, *]
theorem qrL {P:Program}{h:q0e}{z:Frz}{t:TypeId}{a b v:D}{al:Bool}{id:Nat}{r:Out}(hs:mapUpdate P h z t a b v=some r):Eff h true true al id r:=by
 unfold mapUpdate at hs
 repeat' (split at hs)
 all_goals first|(simp at hs;done) |skip
 all_goals (simp at hs;subst hs;simp[Eff, *])
theorem qFV {P:Program}{h:q0e}{z:Frz}{ts:List TypeId}{l:List D}{al:Bool}{id:Nat}{r:Out}(hs:copy P h z ts l=some r):Eff h true true al id r:=by
 unfold copy at hs
 repeat' (split at hs)
 all_goals first|(simp at hs;done) |skip
 all_goals (simp at hs;subst hs;simp[Eff, *])
theorem qDv {P:Program}{h:q0e}{z:Frz}{ts:List TypeId}{l:List D}{al:Bool}{id:Nat}{r:Out}(hs:clear P h z ts l=some r):Eff h true true al id r:=by
 unfold clear at hs
 repeat' (split at hs)
 all_goals first|(simp at hs;done) |skip
 ·simp at hs;subst hs;simp[Eff, *]
 ·simp at hs;obtain⟨_,_,rfl⟩:=hs;simp[Eff,out]
 simp at hs;obtain⟨_,_,rfl⟩:=hs;simp[Eff,out]
theorem qrM {P:Program}{h:q0e}{z:Frz}{id:Nat}{e:TypeId}{s:D}{new:List D}{r:Out}(hs:q3K P h z id e s new=some r):Eff h true true true id r:=by
 unfold q3K at hs
 repeat' (split at hs)
 all_goals first|(simp at hs;done) |skip
 all_goals (simp at hs;subst hs;simp[Eff,newRow, *])
theorem qA4 {P:Program}{h:q0e}{z:Frz}{id:Nat}{ts:List TypeId}{l:List D}{r:Out}(hs:append P h z id ts l=some r):Eff h true true true id r:=by
 unfold append at hs
 repeat' (split at hs)
 all_goals first|(simp at hs;done) |exact qrM hs
theorem qDw {P:Program}{h:q0e}{t:TypeId}{x:D}{lo hi mx:Option D}{wr al:Bool}{id:Nat}{r:Out}(hs:q7i P h t x lo hi mx=some r):Eff h true wr al id r:=by
 unfold q7i at hs
 repeat' (split at hs)
 all_goals first|(simp at hs;done) |skip
 all_goals (simp at hs;subst hs;first|exact qa2|skip)
 rename_i hc _ _ _
 refine⟨by simp,fun p hp=>?_⟩
 simp at hp;subst hp
 refine .inl ⟨rfl,rfl,?_⟩
 simp only[q4T]at hc
 split at hc
 ·rename_i h2;simp[h2]
 simp at hc
theorem quK {pure:Pure}{h:q0e}{f:FuncId}{l:List D}{wr al:Bool}{id:Nat}{r:Out}(hs:q5t pure h f l=some r):Eff h true wr al id r:=by
 unfold q5t at hs
 split at hs
 ·cases hs
 split at hs
 ·cases hs
 split at hs
 ·simp at hs;subst hs;exact qa2
 simp at hs;subst hs
 refine⟨by simp,fun p hp=>?_⟩
 obtain⟨i,hi,rfl⟩:=List.mem_map.1 hp
 obtain⟨x,_,hx⟩:=List.mem_flatMap.1 hi
 exact .inl ⟨rfl,rfl,qpg _ _ _ _ hx⟩
theorem qFW {P:Program}{pure:Pure}{o:Oper}{t:q0z}{h:q0e}{z:Frz}{id:Nat}{r:Out}(hs:step P pure o t h z id=some r):
 Eff h (q6B o.op) (qeF o.op) (qdn o.op) id r:=by
 unfold step at hs
 cases hop:o.op<;>simp only[hop]at hs⊢
 case move x=>simp at hs;subst hs;exact qa2
 case assign x=>simp at hs;subst hs;exact qa2
 case pick c a b=>split at hs<;>first|(simp at hs;done) |(simp at hs;subst hs;exact qa2)
 case alloc e=>
  repeat' (split at hs)
  all_goals first|(simp at hs;done) |skip
  simp at hs;subst hs;exact qnU
 case box e x=>
  split at hs
  ·simp at hs;subst hs;exact qnU
  simp at hs
 case build ty parts=>exact q1V hs
 case buildSlice ty len parts=>
  repeat' (split at hs)
  all_goals first|(simp at hs;done) |skip
  simp at hs;obtain⟨es,_,rfl⟩:=hs;exact qnU
 case load ty a=>exact q1V hs
 case store ty a v=>exact qDu hs
 case nilCheck x=>split at hs<;>first|(simp at hs;done) |(simp at hs;subst hs;exact qa2)
 case binOp op ty x y yt=>exact q1V hs
 case unOp op ty x=>exact q1V hs
 case convert s d x=>exact q1V hs
 case makeFunc fn a c=>split at hs<;>first|(simp at hs;done) |(simp at hs;subst hs;exact qa2)
 case makeMap ty r=>split at hs<;>first|(simp at hs;done) |(simp at hs;subst hs;simp[Eff,qdn])
 case makeSlice ty l c=>
  repeat' (split at hs)
  all_goals first|(simp at hs;done) |skip
  simp at hs;subst hs;exact qnU
 case slice ty x lo hi mx=>exact qDw hs
 case fieldAddr s x f=>split at hs<;>first|(simp at hs;done) |exact q1V hs
 case indexAddr ty x ix=>exact q1V hs
 case index ty x ix=>exact q1V hs
 case lookup ty x ix ok=>exact q1V hs
 case mapUpdate ty m k v=>exact qrL hs
 case extract x i=>split at hs<;>first|(simp at hs;done) |exact q1V hs
 case call c=>
  cases hc:c.callee with
  |value f=>
   simp only[hc]at hs
   split at hs<;>first|(simp at hs;done) |skip
   have:=quK (wr:=qeF (.call c)) (al:=qdn (.call c)) (id:=id) hs
   simpa[q6B,hc]using this
  |invoke r m=>simp[hc]at hs
  |builtin b=>
   simp only[hc]at hs
   cases b<;>simp only[reduceCtorEq]at hs
   case append=>have:=qA4 hs;simpa[q6B,qeF,qdn,hc]using this
   case copy=>have:=qFV (al:=qdn (.call c)) (id:=id) hs;simpa[q6B,qeF,hc]using this
   case clear=>have:=qDv (al:=qdn (.call c)) (id:=id) hs;simpa[q6B,qeF,hc]using this
   case len=>exact q1V hs
   case cap=>exact q1V hs
   case max=>exact q1V hs
   case min=>exact q1V hs
 all_goals (simp at hs)
end Go.F
