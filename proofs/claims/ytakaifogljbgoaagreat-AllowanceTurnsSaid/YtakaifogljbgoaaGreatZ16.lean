/- Parts of the proof, part 16: Order. -/
import Derived.Test.YtakaifogljbgoaaGreatZ15
import Derived.Orders
set_option linter.all false
namespace Go.F
variable {P:Program}{E:Env}{draw:Bool}{sp:Sp}{ops:Array Oper}{base:Nat}
def q4K (P:Program)(E:Env)(draw:Bool)(sp:Sp)(ops:Array Oper)(base:Nat):List Nat→St→Option St
 |[],s=>some s
 |i::r,s=>
  match ops[i]? with
  |none=>q4K P E draw sp ops base r s
  |some o=>
   match one P E draw sp ops o i base s with
   |some s'=>q4K P E draw sp ops base r s'
   |none=>none
theorem qsr (l:List Oper)(k:Nat)(s:St)(h:∀j,j<l.length→ops[k+j]?=l[j]?):
 q97 P E draw sp ops base l k s=q4K P E draw sp ops base (List.range' k l.length) s:=by
 induction l generalizing k s with
 |nil=>rfl
 |cons o l ih=>
  have h0:=h 0 (by simp)
  simp at h0
  simp only[q97,List.length_cons,List.range'_succ,q4K,h0]
  cases one P E draw sp ops o k base s with
  |none=>rfl
  |some s'=>
   simp only
   refine ih (k+1) s' fun j hj=>?_
   have:=h (j+1) (by simp;omega)
   rw[show k+1+j=k+(j+1)by omega,this];simp
theorem qBk (s:St):q97 P E draw sp ops base ops.toList 0 s=q4K P E draw sp ops base (List.range ops.size) s:=by
 rw[qsr ops.toList 0 s (fun j hj=>by simp),List.range_eq_range']
 simp
theorem qvT {i:Nat}{o:Oper}(ho:ops[i]?=some o)(post:List Nat):∀(pre:List Nat) (s s':St),
 (∀j∈pre,j≠i∧∀oj,ops[j]?=some oj→qxs E.shared sp ops j oj i o=true)→
 q4K P E true sp ops base (pre++i::post) s=some s'→q4K P E true sp ops base (i::(pre++post)) s=some s':=by
 intro pre
 induction pre with
 |nil=>intro s s' _ h;exact h
 |cons j pre ih=>
  intro s s' hp h
  obtain⟨hne,hin⟩:=hp j (List.mem_cons_self ..)
  simp only[List.cons_append,q4K]at h
  cases hj:ops[j]? with
  |none=>
   simp only[hj]at h
   have:=ih s s' (fun k hk=>hp k (List.mem_cons_of_mem _ hk)) h
   simp only[q4K,ho,List.cons_append,hj]at this⊢
   exact this
  |some oj=>
   simp only[hj]at h
   cases h1:one P E true sp ops oj j base s with
   |none=>simp[h1]at h
   |some s1=>
    simp only[h1]at h
    have:=ih s1 s' (fun k hk=>hp k (List.mem_cons_of_mem _ hk)) h
    simp only[q4K,ho]at this
    cases h2:one P E true sp ops o i base s1 with
    |none=>simp[h2]at this
    |some s2=>
     simp only[h2]at this
     obtain⟨s1',h3,h4⟩:=swap hne (Array.getElem?_eq_some_iff.1 hj).1 (Array.getElem?_eq_some_iff.1 ho).1 (hin oj hj) h1 h2
     simp only[q4K,ho,h3,List.cons_append,hj,h4]
     exact this
def qch (acc:Array Nat)(o:Oper):Nat:=o.after.foldl (fun s e=>if Region.binds .any e then s|||2^e.on|||acc.getD e.on 0 else s) 0
theorem fold_size (l:List Oper)(acc:Array Nat):(l.foldl (fun acc o=>acc.push (qch acc o)) acc).size=acc.size+l.length:=by
 induction l generalizing acc with
 |nil=>simp
 |cons o l ih=>simp[ih];omega
theorem qyK (l:List Oper)(acc:Array Nat)(k:Nat)(h:k<acc.size):(l.foldl (fun acc o=>acc.push (qch acc o)) acc).getD k 0=acc.getD k 0:=by
 induction l generalizing acc with
 |nil=>rfl
 |cons o l ih=>
  simp only[List.foldl_cons]
  rw[ih _ (by simp;omega)]
  simp only[Array.getD_eq_getD_getElem?,Array.getElem?_push]
  rw[if_neg (by omega)]
theorem qHk (l:List Oper)(acc:Array Nat)(i:Nat)(o:Oper)(h:l[i]?=some o):
 (l.foldl (fun acc o=>acc.push (qch acc o)) acc).getD (acc.size+i) 0=qch ((l.take i).foldl (fun acc o=>acc.push (qch acc o)) acc) o:=by
 induction l generalizing acc i with
 |nil=>simp at h
 |cons x l ih=>
  cases i with
  |zero=>
   simp at h;subst h
   simp only[List.foldl_cons,Nat.add_zero,List.take_zero,List.foldl_nil]
   rw[qyK _ _ _ (by simp)]
   simp[Array.getD_eq_getD_getElem?]
  |succ i=>
   simp at h
   simp only[List.foldl_cons,List.take_succ_cons]
   rw[←ih _ i h]
   congr 1
   simp;omega
theorem qu2:Region.before ops=ops.toList.foldl (fun acc o=>acc.push (qch acc o)) #[]:=by
 unfold Region.before
 rw[←Array.foldl_toList]
 rfl
theorem qHl (es:List Edge)(acc:Array Nat)(s j:Nat)(h:(es.foldl (fun s e=>if Region.binds .any e then s|||2^e.on|||acc.getD e.on 0 else s) s).testBit j=true):
 s.testBit j=true∨∃e∈es,Region.binds .any e=true∧(e.on=j∨(acc.getD e.on 0).testBit j=true):=by
 induction es generalizing s with
 |nil=>exact .inl h
 |cons e es ih=>
  simp only[List.foldl_cons]at h
  rcases ih _ h with h1|⟨e',he',h1⟩
  ·by_cases hb:Region.binds .any e=true
   ·simp only[hb,if_true,Nat.testBit_or,Bool.or_eq_true]at h1
    rcases h1 with(h1|h1) |h1
    ·exact .inl h1
    ·refine .inr ⟨e,List.mem_cons_self ..,hb,.inl ?_⟩
     rw[Nat.testBit_two_pow]at h1;simpa using h1
    exact .inr ⟨e,List.mem_cons_self ..,hb,.inr h1⟩
   simp only[hb,Bool.false_eq_true,if_false]at h1;exact .inl h1
  exact .inr ⟨e',List.mem_cons_of_mem _ he',h1⟩
theorem qBl {i j:Nat}{o:Oper}(ho:ops[i]?=some o)(hback:∀e∈o.after,Region.binds .any e=true→e.on<i)(h:((Region.before ops).getD i 0).testBit j=true):
 ∃e∈o.after,Region.binds .any e=true∧(e.on=j∨((Region.before ops).getD e.on 0).testBit j=true):=by
 have hl:ops.toList[i]?=some o:=by simpa using ho
 have hn:=qHk ops.toList #[] i o hl
 rw[←qu2]at hn
 simp only[List.size_toArray,List.length_nil,Nat.zero_add]at hn
 rw[hn]at h
 unfold qch at h
 rw[←Array.foldl_toList]at h
 rcases qHl _ _ _ _ h with h1|⟨e,he,hb,h1⟩
 ·simp at h1
 refine⟨e,by simpa using he,hb,?_⟩
 rcases h1 with h1|h1
 ·exact .inl h1
 refine .inr ?_
 have hlt:=hback e (by simpa using he) hb
 have hi:i<ops.size:=(Array.getElem?_eq_some_iff.1 ho).1
 have hsz:e.on<((ops.toList.take i).foldl (fun acc o=>acc.push (qch acc o)) #[]).size:=by
  rw[fold_size];simp;omega
 have:=qyK (ops.toList.drop i) ((ops.toList.take i).foldl (fun acc o=>acc.push (qch acc o)) #[]) e.on hsz
 rw[←List.foldl_append,List.take_append_drop,←qu2]at this
 rw[this];exact h1
theorem q7p (h:q98 E.shared sp ops=true){i:Nat}{o:Oper}(ho:ops[i]?=some o):
 (∀e∈o.after,Region.binds .any e=true→e.on<i)∧
 ∀j oj,ops[j]?=some oj→j<i→((Region.before ops).getD i 0).testBit j=true∨qxs E.shared sp ops j oj i o=true:=by
 unfold q98 at h
 rw[List.all_eq_true]at h
 have mem:∀{k:Nat} {x:Oper},ops[k]?=some x→(x,k)∈ops.toList.zipIdx:=by
  intro k x hx
  rw[List.mk_mem_zipIdx_iff_getElem?]
  simpa using hx
 have hi:=h (o,i) (mem ho)
 simp only[Bool.and_eq_true]at hi
 obtain⟨h1,h2⟩:=hi
 constructor
 ·intro e he hb
  have:=Array.all_eq_true_iff_forall_mem.1 h1 e he
  simp only[hb,Bool.not_true,Bool.or_false]at this
  have:=Nat.le_of_ble_eq_true this
  omega
 intro j oj hoj hlt
 have:=List.all_eq_true.1 h2 (oj,j) (mem hoj)
 simp only[Bool.or_eq_true,Bool.not_eq_true']at this
 rcases this with(h3|h3) |h3
 ·have:Nat.blt j i=true:=Nat.ble_eq_true_of_le hlt
  rw[this]at h3;cases h3
 ·exact .inl h3
 exact .inr h3
def rem (ops:Array Oper)(listed:Array Bool):List Nat:=(List.range ops.size).filter fun i=>!listed.getD i true
def Down (ops:Array Oper)(listed:Array Bool):Prop:=
 ∀i o,ops[i]?=some o→listed.getD i true=true→∀e∈o.after,Region.binds .any e=true→listed.getD e.on false=true
theorem qss (hok:q98 E.shared sp ops=true){listed:Array Bool}(hd:Down ops listed)(hsz:listed.size=ops.size):∀(i:Nat) (o:Oper) (j:Nat),ops[i]?=some o→
 (∀e∈o.after,Region.binds .any e=true→listed.getD e.on false=true)→((Region.before ops).getD i 0).testBit j=true→listed.getD j false=true:=by
 intro i
 induction i using Nat.strongRecOn with
 |_ i ih=>
  intro o j ho hl hb
  obtain⟨e,he,hbe,h1⟩:=qBl ho (q7p hok ho).1 hb
  have hle:=hl e he hbe
  rcases h1 with rfl|h1
  ·exact hle
  have hlt:=(q7p hok ho).1 e he hbe
  have hi:i<ops.size:=(Array.getElem?_eq_some_iff.1 ho).1
  have ho':ops[e.on]?=some (ops[e.on]'(by omega)):=Array.getElem?_eq_getElem (by omega)
  refine ih e.on hlt _ j ho' (fun e' he' hb'=>hd e.on _ ho' ?_ e' he' hb') h1
  have hs:e.on<listed.size:=by omega
  simp only[Array.getD_eq_getD_getElem?,Array.getElem?_eq_getElem hs,Option.getD_some]at hle⊢
  exact hle
theorem qvU (p:Nat→Bool)(i:Nat):∀(l:List Nat),l.Nodup→i∈l→p i=true→
 ∃pre post,l.filter p=pre++i::post∧l.filter (fun k=>p k&&!(k==i))=pre++post∧∀j∈pre,j∈l∧p j=true∧j≠i:=by
 intro l
 induction l with
 |nil=>intro _ h;simp at h
 |cons x l ih=>
  intro hnd hm hp
  rw[List.nodup_cons]at hnd
  obtain⟨hx,hnd⟩:=hnd
  by_cases e:x=i
  ·subst e
   refine⟨[],l.filter p,by simp[hp],?_,by simp⟩
   rw[List.filter_cons_of_neg (by simp)]
   rw[List.nil_append]
   refine List.filter_congr fun k hk=>?_
   have:k≠x:=fun e=>hx (e▸hk)
   simp[this]
  have hm':i∈l:=by
   rcases List.mem_cons.1 hm with h|h
   ·exact absurd h.symm e
   exact h
  obtain⟨pre,post,h1,h2,h3⟩:=ih hnd hm' hp
  by_cases hpx:p x=true
  ·refine⟨x::pre,post,?_,?_,?_⟩
   ·rw[List.filter_cons_of_pos hpx,h1];rfl
   ·rw[List.filter_cons_of_pos (by simp[hpx,e]),h2];rfl
   intro j hj
   rcases List.mem_cons.1 hj with rfl|hj
   ·exact⟨List.mem_cons_self ..,hpx,e⟩
   obtain⟨a,b,c⟩:=h3 j hj;exact⟨List.mem_cons_of_mem _ a,b,c⟩
  refine⟨pre,post,?_,?_,?_⟩
  ·rw[List.filter_cons_of_neg (by simpa using hpx),h1]
  ·rw[List.filter_cons_of_neg (by simp[hpx]),h2]
  intro j hj;obtain⟨a,b,c⟩:=h3 j hj;exact⟨List.mem_cons_of_mem _ a,b,c⟩
theorem qnH (p:Nat→Bool)(i n:Nat){pre post:List Nat}(h:(List.range n).filter p=pre++i::post):∀j∈pre,j<i:=by
 have hs:((List.range n).filter p).Pairwise (· <·):=List.Pairwise.filter _ List.pairwise_lt_range
 rw[h,List.pairwise_append]at hs
 intro j hj
 exact hs.2.2 j hj i (List.mem_cons_self ..)
theorem qHm {Q:Exit→Act→World→Prop}(I:(Nat→Prop)→St→Act→World→Prop)(hok:q98 E.shared sp ops=true)
 (hstep:∀i o s s1 a w (todo:Nat→Prop) (K:Act→World→Prop),ops[i]?=some o→todo i→one P E true sp ops o i base s=some s1→I todo s a w→
   (∀a' w',I (fun k=>todo k∧k≠i) s1 a' w'→K a' w')→wpOp P ops Q i K a w)
 {s':St} (hQ:∀todo a w,I todo s' a w→Q .normal a w):
 ∀(fuel:Nat) (listed:Array Bool) (s:St) (a:Act) (w:World) (todo:Nat→Prop),(rem ops listed).length=fuel→listed.size=ops.size→Down ops listed→
  (∀k,k∈rem ops listed→todo k)→
  q4K P E true sp ops base (rem ops listed) s=some s'→I todo s a w→wpAny P .any ops Q fuel listed a w:=by
 intro fuel
 induction fuel with
 |zero=>
  intro listed s a w todo hl hsz hd htd hr hI
  have hnil:rem ops listed=[]:=List.length_eq_zero_iff.1 hl
  rw[hnil]at hr
  simp only[q4K,Option.some.injEq]at hr
  subst hr
  refine⟨?_,hQ todo a w hI⟩
  unfold Region.ready
  rw[List.filter_eq_nil_iff]
  intro i hi hc
  have:i∈rem ops listed:=by
   unfold rem
   rw[List.mem_filter]
   refine⟨hi,?_⟩
   simp only[Bool.and_eq_true]at hc
   exact hc.1
  rw[hnil]at this;simp at this
 |succ fuel ih=>
  intro listed s a w todo hl hsz hd htd hr hI
  refine⟨fun hnil=>?_,fun i hi=>?_⟩
  ·
   exfalso
   cases hrem:rem ops listed with
   |nil=>rw[hrem]at hl;simp at hl
   |cons i rest=>
    have hmem:i∈rem ops listed:=by rw[hrem];exact List.mem_cons_self ..
    have hm:=List.mem_filter.1 hmem
    have hin:i<ops.size:=List.mem_range.1 hm.1
    have ho:ops[i]?=some ops[i]:=Array.getElem?_eq_getElem hin
    have:i∈Region.ready .any ops listed:=by
     unfold Region.ready
     rw[List.mem_filter]
     refine⟨hm.1,?_⟩
     rw[Bool.and_eq_true]
     refine⟨hm.2,?_⟩
     rw[ho]
     simp only[Option.map_some,Option.getD_some]
     rw[Array.all_eq_true_iff_forall_mem]
     intro e he
     by_cases hb:Region.binds .any e=true
     ·have hlt:=(q7p hok ho).1 e he hb
      have hnot:e.on∉rem ops listed:=by
       intro hc
       have hs:(rem ops listed).Pairwise (· <·):=List.Pairwise.filter _ List.pairwise_lt_range
       rw[hrem,List.pairwise_cons]at hs
       rw[hrem]at hc
       rcases List.mem_cons.1 hc with h|h
       ·omega
       have:=hs.1 _ h;omega
      have hlst:listed.getD e.on true=true:=by
       cases hx:listed.getD e.on true with
       |true=>rfl
       |false=>exact absurd (List.mem_filter.2 ⟨List.mem_range.2 (by omega),by simp[hx]⟩) hnot
      have hs:e.on<listed.size:=by omega
      simp only[Array.getD_eq_getD_getElem?,Array.getElem?_eq_getElem hs,Option.getD_some]at hlst⊢
      simp[hlst]
     simp[hb]
    rw[hnil]at this;simp at this
  have hm:=List.mem_filter.1 hi
  obtain⟨hrange,hc⟩:=hm
  have hin:i<ops.size:=List.mem_range.1 hrange
  have ho:ops[i]?=some ops[i]:=Array.getElem?_eq_getElem hin
  rw[Bool.and_eq_true]at hc
  obtain⟨hnl,hpre⟩:=hc
  rw[ho]at hpre
  simp only[Option.map_some,Option.getD_some]at hpre
  rw[Array.all_eq_true_iff_forall_mem]at hpre
  have hpre':∀e∈ops[i].after,Region.binds .any e=true→listed.getD e.on false=true:=by
   intro e he hb
   have:=hpre e he
   simpa[hb]using this
  obtain⟨pre,post,h1,h2,h3⟩:=qvU (fun i=>!listed.getD i true) i (List.range ops.size) List.nodup_range hrange hnl
  have hlt:=qnH _ i ops.size h1
  have hrem:rem ops listed=pre++i::post:=h1
  rw[hrem]at hr
  have hfront:=qvT (P:=P) ho post pre s s' (fun j hj=>⟨(h3 j hj).2.2,fun oj hoj=>?_⟩) hr
  ·have hset:∀k,(listed.setIfInBounds i true).getD k true=(listed.getD k true||(k==i)):=by
    intro k
    by_cases hk:k=i
    ·subst hk
     simp[Array.getD_eq_getD_getElem?,hsz,hin]
    have:(k==i)=false:=by simpa using hk
    rw[this,Bool.or_false]
    simp only[Array.getD_eq_getD_getElem?,Array.getElem?_setIfInBounds]
    rw[if_neg (fun e=>hk e.symm)]
   have hset':∀k,listed.getD k false=true→(listed.setIfInBounds i true).getD k false=true:=by
    intro k hk
    simp only[Array.getD_eq_getD_getElem?,Array.getElem?_setIfInBounds]at hk⊢
    split
    ·split
     ·rfl
     rename_i h5 h6;subst h5;exact absurd (by omega) h6
    exact hk
   have hrem':rem ops (listed.setIfInBounds i true)=pre++post:=by
    rw[←h2]
    unfold rem
    refine List.filter_congr fun k hk=>?_
    rw[hset k]
    cases listed.getD k true<;>simp
   simp only[q4K,ho]at hfront
   cases hone:one P E true sp ops ops[i] i base s with
   |none=>simp[hone]at hfront
   |some s1=>
    simp only[hone]at hfront
    refine hstep i ops[i] s s1 a w todo _ ho (htd i (by rw[hrem];simp)) hone hI fun a' w' hI'=>?_
    refine ih _ s1 a' w' _ ?_ (by simp[hsz]) ?_ ?_ (by rw[hrem'];exact hfront) hI'
    ·rw[hrem'];rw[hrem]at hl;simp at hl⊢;omega
    ·intro k o hk hlk e he hb
     rw[hset k]at hlk
     by_cases hki:k=i
     ·subst hki
      rw[ho]at hk;cases hk
      exact hset' _ (hpre' e he hb)
     have:(k==i)=false:=by simpa using hki
     rw[this,Bool.or_false]at hlk
     exact hset' _ (hd k o hk hlk e he hb)
    intro k hk
    refine⟨htd k ?_,?_⟩
    ·rw[hrem']at hk;rw[hrem]
     rcases List.mem_append.1 hk with h|h
     ·exact List.mem_append.2 (.inl h)
     exact List.mem_append.2 (.inr (List.mem_cons_of_mem _ h))
    have hk2:=(List.mem_filter.1 hk).2
    rw[hset k]at hk2
    intro e
    subst e
    simp at hk2
  rcases(q7p hok ho).2 j oj hoj (hlt j hj)with h4|h4
  ·exfalso
   have hlj:=qss hok hd hsz i _ j ho hpre' h4
   have hpj:=(h3 j hj).2.1
   have hjs:j<listed.size:=by have:=hlt j hj;omega
   simp only[Array.getD_eq_getD_getElem?,Array.getElem?_eq_getElem hjs,Option.getD_some]at hlj hpj
   simp[hlj]at hpj
  exact h4
end Go.F
