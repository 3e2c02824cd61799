/- Parts of the proof, part 19: Sound2. -/
import Derived.Test.YtakaifogljbgoaaGreatZ18
import Derived.LoopN
set_option linter.all false
namespace Go.F
open Go.RowKit (Below)
variable {P:Program}{E:Env}
theorem Rel.weaken {n nx0:Nat}{c:Ctx}{ms:Map}{prs:q1x}{ws:World}{fresh fresh':Nat→Prop}{s:St}{a:Act}{w:World}(R:Rel n nx0 c ms prs ws fresh s a w)(h:∀id,fresh' id→fresh id):Rel n nx0 c ms prs ws fresh' s a w:=by
 obtain⟨m,h1,h2,h3,h4,h5⟩:=R.ex
 exact⟨⟨m,h1,h2,h3,fun id hid=>h4 id (h id hid),h5⟩,R.below,R.defers,R.size,R.next⟩
theorem Rel.drew {n nx0:Nat}{c:Ctx}{ms:Map}{prs:q1x}{ws:World}{fresh:Nat→Prop}{s:St}{a:Act}{w:World}(R:Rel n nx0 c ms prs ws fresh s a w):Rel n nx0 c ms prs ws fresh s a {w with drawn:=w.drawn+1}:=by
 obtain⟨m,h1,h2,h3,h4,h5⟩:=R.ex
 refine⟨⟨m,h1.same rfl,fun i=>(h2 i).mono (Ev.same rfl),h3.trans (Ev.same rfl),h4,h5⟩,?_,R.defers,R.size,R.next⟩
 exact⟨R.below.os,R.below.tape,R.below.output,R.below.size,R.below.block⟩
theorem qHM {sp:Sp}{ops:Array Oper}{base:Nat}{Q:Exit→Act→World→Prop}(I:(Nat→Prop)→St→Act→World→Prop)
 (hstep:∀i o s s1 a w (todo:Nat→Prop) (K:Act→World→Prop),ops[i]?=some o→todo i→one P E false sp ops o i base s=some s1→I todo s a w→
   (∀a' w',I (fun k=>todo k∧k≠i) s1 a' w'→K a' w')→wpOp P ops Q i K a w)
 {s':St} (hQ:∀todo a w,I todo s' a w→Q .normal a w):
 ∀(l:List Nat) (s:St) (a:Act) (w:World) (todo:Nat→Prop),l.Nodup→(∀k∈l,todo k)→q4K P E false sp ops base l s=some s'→I todo s a w→wpOps P ops Q l a w:=by
 intro l
 induction l with
 |nil=>intro s a w todo _ _ hr hI;simp only[q4K,Option.some.injEq]at hr;subst hr;exact hQ todo a w hI
 |cons i l ih=>
  intro s a w todo hnd htd hr hI
  rw[List.nodup_cons]at hnd
  rw[wpOps_cons]
  simp only[q4K]at hr
  cases ho:ops[i]? with
  |none=>
   simp only[ho]at hr
   unfold wpOp
   rw[ho]
   exact ih s a w todo hnd.2 (fun k hk=>htd k (List.mem_cons_of_mem _ hk)) hr hI
  |some o=>
   simp only[ho]at hr
   cases h1:one P E false sp ops o i base s with
   |none=>simp[h1]at hr
   |some s1=>
    simp only[h1]at hr
    exact hstep i o s s1 a w todo _ ho (htd i (List.mem_cons_self ..)) h1 hI fun a' w' hI'=>(ih s1 a' w' _ hnd.2 (fun k hk=>⟨htd k (List.mem_cons_of_mem _ hk),fun e=>hnd.1 (e▸hk)⟩) hr hI')
def qHN:Ex→Exit
 |.normal=> .normal
 |.exit i=> .exit i
 |.ret=> .ret
section
variable {n nx0:Nat}{c:Ctx}{ms:Map}{prs:q1x}{ws:World}
def After (n nx0:Nat)(c:Ctx)(ms:Map)(prs:q1x)(ws:World)(ex:Ex)(s:St):Exit→Act→World→Prop:=
 fun e a w=>e=qHN ex∧Rel n nx0 c ms prs ws (fun id=>s.next≤id) s a w
theorem qwu (hpure:qr8 P E)(hshar:qr9 P E)(hm:P.follows .mixedOrders=true){k:Nat}{sp:Sp}{ops:Array Oper}{draw:Bool}(hok:((!draw||q98 E.shared sp ops)&&ops.toList.all fun o=>match o.dst with|some d=>Nat.blt d n|none=>true)=true){s s':St}
 {base:Nat} (hbase:s.next≤base) (hr:q97 P E draw sp ops base ops.toList 0 ⟨s.tmps,s.heap,s.frz,base+ops.size⟩=some s') {a:Act} {w:World} (R:Rel n nx0 c ms prs ws (fun id=>s.next≤id) s a w):
 (Code.region k ops draw).wp P (After n nx0 c ms prs ws .normal s') a w:=by
 simp only[Bool.and_eq_true]at hok
 have hdst:∀(i:Nat) (o:Oper),ops[i]?=some o→∀d,o.dst=some d→d<n:=by
  intro i o ho d hd
  have:=List.all_eq_true.1 hok.2 o (by rw[Array.mem_toList_iff];exact Array.mem_of_getElem? ho)
  simp only[hd]at this
  exact Nat.le_of_ble_eq_true this
 rw[qBk]at hr
 have start:∀w',Rel n nx0 c ms prs ws (fun id=>s.next≤id) s a w'→
  (Rel n nx0 c ms prs ws (fun id=>(∃k,k<ops.size∧id=base+k)∨base+ops.size≤id) ⟨s.tmps,s.heap,s.frz,base+ops.size⟩ a w'∧∀k,k<ops.size→base+k<base+ops.size):=by
  intro w' R'
  obtain⟨m,h1,h2,h3,h4,h5⟩:=R'.ex
  refine⟨⟨⟨m,h1,h2,h3,fun id hid=>h4 id ?_,h5⟩,R'.below,R'.defers,R'.size,by have:=R'.next;simp only;omega⟩,fun k hk=>by omega⟩
  rcases hid with⟨j,_,rfl⟩ |hid
  ·omega
  omega
 have hQ:∀(todo:Nat→Prop) (a:Act) (w:World),(Rel n nx0 c ms prs ws (fun id=>(∃k,todo k∧id=base+k)∨s'.next≤id) s' a w∧∀k,todo k→base+k<s'.next)→After n nx0 c ms prs ws .normal s' .normal a w:=
  fun todo a w h=>⟨rfl,h.1.weaken fun id hid=> .inr hid⟩
 cases draw with
 |false=>
  refine wp_region ?_
  exact qHM (fun todo s a w=>Rel n nx0 c ms prs ws (fun id=>(∃k,todo k∧id=_+k)∨s.next≤id) s a w∧∀k,todo k→_+k<s.next)
   (qud hpure hshar (Nat.le_trans R.next hbase) hdst) hQ (List.range ops.size) _ a w (fun k=>k<ops.size) List.nodup_range (fun k hk=>List.mem_range.1 hk) hr (start w R)
 |true=>
  refine wp_region_any hm ?_
  have hokr:q98 E.shared sp ops=true:=by simpa using hok.1
  have hrem:rem ops (Array.replicate ops.size false)=List.range ops.size:=by
   unfold rem
   rw[List.filter_eq_self]
   intro i hi
   have:i<ops.size:=List.mem_range.1 hi
   simp[Array.getD_eq_getD_getElem?,this]
  refine qHm (fun todo s a w=>Rel n nx0 c ms prs ws (fun id=>(∃k,todo k∧id=_+k)∨s.next≤id) s a w∧∀k,todo k→_+k<s.next) hokr
   (qud hpure hshar (Nat.le_trans R.next hbase) hdst) hQ ops.size _ _ a _ (fun k=>k<ops.size) (by rw[hrem];simp) (by simp) ?_ (fun k hk=>by rw[hrem]at hk;exact List.mem_range.1 hk) (by rw[hrem];exact hr) (start _ R.drew)
  intro i o ho hl
  have:i<ops.size:=(Array.getElem?_eq_some_iff.1 ho).1
  simp[Array.getD_eq_getD_getElem?,this]at hl
theorem qBN (hpure:qr8 P E)(hshar:qr9 P E)(hm:P.follows .mixedOrders=true)(hms:∀id,nx0≤id→ms id=none)(pl:Plan):∀(code:Code),q5T E.shared pl.sp n code=true→∀(s:St) (ex:Ex) (s':St),q2L P E pl nx0 code s=some (ex,s')→
 ∀(a:Act) (w:World),Rel n nx0 c ms prs ws (fun id=>s.next≤id) s a w→code.wp P (After n nx0 c ms prs ws ex s') a w:=by
 intro code
 induction code with
 |skip=>intro _ s ex s' he a w R;simp only[q2L,Option.some.injEq,Prod.mk.injEq]at he;obtain⟨rfl,rfl⟩:=he;exact wp_skip ⟨rfl,R⟩
 |region k ops draw=>
  intro hok s ex s' he a w R
  simp only[q2L]at he
  split at he
  ·rename_i hb
   split at he
   ·rename_i s1 hr
    simp only[Option.some.injEq,Prod.mk.injEq]at he
    obtain⟨rfl,rfl⟩:=he
    simp only[q5T]at hok
    exact qwu hpure hshar hm hok (Nat.le_of_ble_eq_true hb) hr R
   cases he
  cases he
 |seq x y ihx ihy=>
  intro hok s ex s' he a w R
  simp only[q5T,Bool.and_eq_true]at hok
  simp only[q2L]at he
  refine wp_seq ?_
  cases hx:q2L P E pl nx0 x s with
  |none=>simp[hx]at he
  |some p=>
   obtain⟨ex1,s1⟩:=p
   rw[hx]at he
   refine wp_mono (ihx hok.1 s ex1 s1 hx a w R) ?_
   rintro e a' w' ⟨rfl,R1⟩
   cases ex1 with
   |normal=>exact ihy hok.2 s1 ex s' he a' w' R1
   |exit i=>simp only[Option.some.injEq,Prod.mk.injEq]at he;obtain⟨rfl,rfl⟩:=he;exact⟨rfl,R1⟩
   |ret=>simp only[Option.some.injEq,Prod.mk.injEq]at he;obtain⟨rfl,rfl⟩:=he;exact⟨rfl,R1⟩
 |cond cc x y ihx ihy=>
  intro hok s ex s' he a w R
  simp only[q5T,Bool.and_eq_true]at hok
  obtain⟨m,h1,h2,h3,h4,h5⟩:=R.ex
  have hv:=qf4 h2 cc
  simp only[q2L]at he
  split at he
  ·rename_i hc
   rw[hc]at hv
   exact wp_cond_true (hv.bools rfl) (ihx hok.1 s ex s' he a w R)
  ·rename_i hc
   rw[hc]at hv
   exact wp_cond_false (hv.bools rfl) (ihy hok.2 s ex s' he a w R)
  cases he
 |block id x ihx=>
  intro hok s ex s' he a w R
  simp only[q5T]at hok
  simp only[q2L]at he
  refine wp_block ?_
  cases hx:q2L P E pl nx0 x s with
  |none=>simp[hx]at he
  |some p=>
   obtain⟨ex1,s1⟩:=p
   rw[hx]at he
   refine wp_mono (ihx hok s ex1 s1 hx a w R) ?_
   rintro e a' w' ⟨rfl,R1⟩
   cases ex1 with
   |normal=>simp only[Option.some.injEq,Prod.mk.injEq]at he;obtain⟨rfl,rfl⟩:=he;exact⟨rfl,R1⟩
   |ret=>simp only[Option.some.injEq,Prod.mk.injEq]at he;obtain⟨rfl,rfl⟩:=he;exact⟨rfl,R1⟩
   |exit i=>
    simp only at he
    simp only[qHN,Exit.inBlock]
    split at he
    ·rename_i hi;simp only[Option.some.injEq,Prod.mk.injEq]at he;obtain⟨rfl,rfl⟩:=he;rw[if_pos hi];exact⟨rfl,R1⟩
    rename_i hi;simp only[Option.some.injEq,Prod.mk.injEq]at he;obtain⟨rfl,rfl⟩:=he;rw[if_neg hi];exact⟨rfl,R1⟩
 |loop x ihx=>
  intro hok s ex s' he a w R
  simp only[q5T]at hok
  simp only[q2L]at he
  have key:∀(k:Nat) (s:St) (a:Act) (w:World),qbm nx0 (pl.lv (q4d x)) (q2L P E pl nx0 x) k s=some (ex,s')→Rel n nx0 c ms prs ws (fun id=>s.next≤id) s a w→Code.rounds P x (After n nx0 c ms prs ws ex s') k a w:=by
   intro k
   induction k with
   |zero=>intro s a w hl _;simp[qbm]at hl
   |succ k ih=>
    intro s0 a w hl R0
    rw[rounds_succ]
    simp only[qbm]at hl
    cases hst:settle nx0 (pl.lv (q4d x)) s0 with
    |none=>simp[hst]at hl
    |some s=>
     simp only[hst]at hl
     have R:=qwt hms R0 hst
     cases hx:q2L P E pl nx0 x s with
     |none=>simp[hx]at hl
     |some p=>
      obtain⟨ex1,s1⟩:=p
      rw[hx]at hl
      refine wp_mono (ihx hok s ex1 s1 hx a w R) ?_
      rintro e a' w' ⟨rfl,R1⟩
      cases ex1 with
      |normal=>exact ih s1 a' w' hl R1
      |exit i=>simp only[Option.some.injEq,Prod.mk.injEq]at hl;obtain⟨rfl,rfl⟩:=hl;exact⟨rfl,R1⟩
      |ret=>simp only[Option.some.injEq,Prod.mk.injEq]at hl;obtain⟨rfl,rfl⟩:=hl;exact⟨rfl,R1⟩
  exact wp_loop_rounds q9c (key q9c s a w he R)
 |exit id=>intro _ s ex s' he a w R;simp only[q2L,Option.some.injEq,Prod.mk.injEq]at he;obtain⟨rfl,rfl⟩:=he;exact wp_exit ⟨rfl,R⟩
 |ret=>intro _ s ex s' he a w R;simp only[q2L,Option.some.injEq,Prod.mk.injEq]at he;obtain⟨rfl,rfl⟩:=he;exact wp_ret ⟨rfl,R⟩
 |rangeFunc f ps x y _ _=>intro _ s ex s' he;simp[q2L]at he
 |scope x _=>intro _ s ex s' he;simp[q2L]at he
 |label l=>intro _ s ex s' he;simp[q2L]at he
 |goto l=>intro _ s ex s' he;simp[q2L]at he
 |refuse y=>intro _ s ex s' he;simp[q2L]at he
end
end Go.F
