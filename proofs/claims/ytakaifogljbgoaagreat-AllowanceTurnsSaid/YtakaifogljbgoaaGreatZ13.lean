/- Parts of the proof, part 13: Step. -/
import Derived.Test.YtakaifogljbgoaaGreatZ12
set_option linter.all false
namespace Go.F
open Go.RowKit (Below)
variable {P:Program}{c:Ctx}{m:Map}{pr:q1x}{h hr:q0e}{z zr:Frz}{w:World}
theorem qFd {t:q0z}{ρ:Operand→Value}(hρ:qqH m pr w t ρ)(l:List Operand):
 (l.map (ev t)).length=(l.map ρ).length∧∀k (_:k<(l.map (ev t)).length) (_:k<(l.map ρ).length),VR m pr w (l.map (ev t))[k] (l.map ρ)[k]:=
 ⟨by simp,fun k h1 h2=>by simp only[List.getElem_map];exact hρ _⟩
theorem qwy {ρ:Operand→Value}{o:Oper}{cl:Call}{b:Builtin}(ho:o.op=.call cl)(hc:cl.callee=.builtin b):
 ∃cs,(execOp ρ o).run P w=(builtin b cl.argTypes o.type cs (cl.args.map ρ)).run P w:=
 by
 simp only[execOp,ho,resolve,hc,invoke,Sem.run_bind,Sem.run_pure,Result.andThen_ok]
 exact⟨_,rfl⟩
theorem VR.isPtr {d:D}{v:Value}(hv:VR m pr w d v)(hd:(∃i j k,d=.ptr i j k)∨∃e i,d=.pl e i):∃p,v=.pointer (some p):=by
 rcases hd with⟨i,j,k,rfl⟩ |⟨e,i,rfl⟩<;>cases hv<;>exact⟨_,rfl⟩
theorem qHO {pure:Pure}{o:Oper}{t:q0z}{a:Act}{id:Nat}{r:Out}(H:HR c m h z w)(hs:Sub hr h)(hz:∀id,hr id≠none→zr id=z id)(hid:qdn o.op=true→m id=none)
 (ht:∀i,VR m (Pr c m h z) w (t i) (a.tmps.getD i undef)) (hnc:∀cl f,o.op=.call cl→cl.callee≠ .value f) (hd:step P pure o t hr zr id=some r):
 Sim c m h z w id r ((execOp a.eval o).run P w):=by
 have hρ:=qf4 ht
 unfold step at hd
 cases hop:o.op<;>simp only[hop]at hd hid
 case move x=>simp at hd;subst hd;exact Sim.val H (by simp[execOp,hop]) (hρ x)
 case assign x=>simp at hd;subst hd;exact Sim.val H (by simp[execOp,hop]) (hρ x)
 case pick cc x y=>
  have hc:=hρ cc
  split at hd
  ·rename_i he;simp at hd;subst hd
   rw[he]at hc
   have hb:=hc.bools rfl
   exact Sim.val H (by simp[execOp,hop,hb,asBool]) (hρ x)
  ·rename_i he;simp at hd;subst hd
   rw[he]at hc
   have hb:=hc.bools rfl
   exact Sim.val H (by simp[execOp,hop,hb,asBool]) (hρ y)
  cases hd
 case alloc e=>
  split at hd
  ·rename_i d hzero
   split at hd
   ·rename_i hc
    simp at hd;subst hd
    have:=qEB (P:=P) H (hid rfl) hzero hc.1 hc.2
    simpa only[execOp,hop]using this
   cases hd
  cases hd
 case box e x=>
  split at hd
  ·rename_i hc
   simp at hd;subst hd
   have:=qIL (P:=P) (e:=e) H (hid rfl) (hρ x) hc.1 hc.2
   simpa only[execOp,hop]using this
  cases hd
 case build ty parts=>
  cases hb:build P t ty parts.toList with
  |none=>simp[hb]at hd
  |some d=>
   simp[hb]at hd;subst hd
   obtain⟨v,h1,h2⟩:=run_build (P:=P) hρ hb
   exact Sim.val H (by simp only[execOp,hop,Sem.run_bind,h1,Result.andThen_ok,Sem.run_pure]) h2
 case buildSlice ty len parts=>
  split at hd
  ·cases hd
  rename_i e he
  split at hd
  ·rename_i n d hn hzero
   split at hd
   ·rename_i hc
    cases hf:q3g t n (List.replicate len d) parts.toList with
    |none=>simp[hf]at hd
    |some es=>
     simp[hf]at hd;subst hd
     have:=qqM (P:=P) H (hid rfl) hρ he hn hzero hc.1 hc.2.1 hc.2.2.1 hc.2.2.2 hf
     simpa only[execOp,hop]using this
   cases hd
  cases hd
 case load ty x=>
  cases hb:load P hr ty (ev t x)with
  |none=>simp[hb]at hd
  |some d=>
   simp[hb]at hd;subst hd
   obtain⟨v,h1,h2⟩:=run_load (P:=P) H hs (hρ x) hb
   exact Sim.val H (by simp only[execOp,hop,Sem.run_bind,h1,Result.andThen_ok,Sem.run_pure]) h2
 case store ty x v=>
  have:=qEE (P:=P) (id0:=id) H hs hz (hρ x) (hρ v) hd
  simpa only[execOp,hop]using this
 case nilCheck x=>
  have hx:=hρ x
  have fin:∀d,ev t x=d→((∃i j k,d=.ptr i j k)∨∃e i,d=.pl e i)→Sim c m h z w id (out d) ((execOp a.eval o).run P w):=by
   intro d he hd
   rw[he]at hx
   obtain⟨p,hp⟩:=hx.isPtr hd
   refine Sim.val H (v:=.pointer (some p)) (by simp[execOp,hop,hp]) ?_
   rw[←hp];exact hx
  split at hd
  ·rename_i he;simp at hd;subst hd;exact fin _ he (.inl ⟨_,_,_,rfl⟩)
  ·rename_i he;simp at hd;subst hd;exact fin _ he (.inr ⟨_,_,rfl⟩)
  cases hd
 case binOp op ty x y yt=>
  unfold binX at hd
  have hy:(qbk y&&isSlice P ty&&qhg (ev t x))=true→a.eval y=.slice none 0 0∧qhg (ev t x)=true∧∃e,P.underlying ty=some (.slice e):=by
   intro hc
   simp only[Bool.and_eq_true]at hc
   obtain⟨⟨h1,h2⟩,h3⟩:=hc
   refine⟨?_,h3,?_⟩
   ·unfold qbk at h1
    split at h1
    ·rfl
    cases h1
   unfold isSlice at h2
   split at h2
   ·exact⟨_,by assumption⟩
   cases h2
  split at hd
  ·rename_i hc
   obtain⟨h1,h2,e,h3⟩:=hy hc
   obtain⟨g1,g2,_⟩:=qCT (P:=P) (op:=.eql) (ox:=x) (oy:=y) (hρ x) h2 h3
   simp at hd;subst hd
   exact Sim.val H (by simp only[execOp,hop,Sem.run_bind,h1,g1,g2,Result.andThen_ok,Sem.run_pure]) (.bool _)
  ·rename_i hc
   obtain⟨h1,h2,e,h3⟩:=hy hc
   obtain⟨g1,_,g2⟩:=qCT (P:=P) (op:=.neq) (ox:=x) (oy:=y) (hρ x) h2 h3
   simp at hd;subst hd
   exact Sim.val H (by simp only[execOp,hop,Sem.run_bind,h1,g1,g2,Result.andThen_ok,Sem.run_pure]) (.bool _)
  generalize hb:bin P _ ty (ev t x) (ev t y)=q at hd
  cases q with
  |none=>simp at hd
  |some d=>
   simp at hd;subst hd
   obtain⟨v,h1,h2⟩:=qII (P:=P) (hρ x) (hρ y) hb
   have hg:=qyI (P:=P) (ox:=x) (oy:=y) (hρ x) (hρ y) hb
   exact Sim.val H (by simp only[execOp,hop,Sem.run_bind,hg,h1,Result.andThen_ok,Sem.run_pure]) h2
 case unOp op ty x=>
  cases hb:un op (ev t x)with
  |none=>simp[hb]at hd
  |some d=>
   simp[hb]at hd;subst hd
   obtain⟨v,h1,h2⟩:=run_un (P:=P) (hρ x) hb
   exact Sim.val H (by simp only[execOp,hop,Sem.run_bind,h1,Result.andThen_ok,Sem.run_pure]) h2
 case convert s d x=>
  cases hb:conv P hr s d (ev t x)with
  |none=>simp[hb]at hd
  |some d'=>
   simp[hb]at hd;subst hd
   obtain⟨v,h1,h2⟩:=qHi (P:=P) H hs (hρ x) hb
   exact Sim.val H (by simp only[execOp,hop,Sem.run_bind,h1,Result.andThen_ok,Sem.run_pure]) h2
 case makeFunc fn x y=>
  split at hd
  ·rename_i f
   simp at hd;subst hd
   refine Sim.val H (v:=.func (.func f) (x.map a.eval) (y.map a.eval)) (by simp[execOp,hop,Instr.makeFunc]) ?_
   refine .fn f _ _ _ _ (by simp) (by simp) (fun k h1 h2=>?_) (fun k h1 h2=>?_)
   ·simp only[List.getElem_map,Array.getElem_toList,Array.getElem_map];exact hρ _
   simp only[List.getElem_map,Array.getElem_toList,Array.getElem_map];exact hρ _
  cases hd
 case makeMap ty rr=>
  split at hd
  ·simp at hd;subst hd
   have:=qyJ (P:=P) (ty:=ty) H (hid rfl)
   simpa only[execOp,hop,Option.map_none]using this
  cases hd
 case makeSlice ty l cc=>
  split at hd
  ·rename_i e l' c' he hl hc
   split at hd
   ·rename_i n b d hn hb hzero
    split at hd
    ·rename_i hcond
     simp at hd;subst hd
     have e1:=(hρ l).ints hl
     have e2:=(hρ cc).ints hc
     have:=qsm (P:=P) H (hid rfl) he hn hb hzero hcond.1 hcond.2.1 hcond.2.2.1 hcond.2.2.2.1 hcond.2.2.2.2.1 hcond.2.2.2.2.2
     simpa only[execOp,hop,e1,e2]using this
    cases hd
   cases hd
  cases hd
 case slice ty x lo hi mx=>
  have:=qED (P:=P) (id:=id) H hs (hρ x) (qqN hρ lo) (qqN hρ hi) (qqN hρ mx) hd
  simpa only[execOp,hop]using this
 case fieldAddr s x f=>
  split at hd
  ·rename_i n hf
   cases hb:q88 (ev t x) n with
   |none=>simp[hb]at hd
   |some d=>
    simp[hb]at hd;subst hd
    obtain⟨v,h1,h2⟩:=qsk (P:=P) (hρ x) hf hb
    exact Sim.val H (by simp only[execOp,hop,Sem.run_bind,h1,Result.andThen_ok,Sem.run_pure]) h2
  cases hd
 case indexAddr ty x ix=>
  cases hb:indexAddr P hr ty (ev t x) (ev t ix)with
  |none=>simp[hb]at hd
  |some d=>
   simp[hb]at hd;subst hd
   obtain⟨v,h1,h2⟩:=qsl (P:=P) H hs (hρ x) (hρ ix) hb
   exact Sim.val H (by simp only[execOp,hop,Sem.run_bind,h1,Result.andThen_ok,Sem.run_pure]) h2
 case index ty x ix=>
  cases hb:index P ty (ev t x) (ev t ix)with
  |none=>simp[hb]at hd
  |some d=>
   simp[hb]at hd;subst hd
   obtain⟨v,h1,h2⟩:=qEz (P:=P) (hρ x) (hρ ix) hb
   exact Sim.val H (by simp only[execOp,hop,Sem.run_bind,h1,Result.andThen_ok,Sem.run_pure]) h2
 case lookup ty x ix ok=>
  cases hb:lookup P hr ty (ev t x) (ev t ix) ok with
  |none=>simp[hb]at hd
  |some d=>
   simp[hb]at hd;subst hd
   obtain⟨v,h1,h2⟩:=qBf (P:=P) H hs (hρ x) (hρ ix) hb
   exact Sim.val H (by simp only[execOp,hop,Sem.run_bind,h1,Result.andThen_ok,Sem.run_pure]) h2
 case mapUpdate ty x k v=>
  have:=qsq (P:=P) (id0:=id) H hs hz (hρ x) (hρ k) (hρ v) hd
  simpa only[execOp,hop]using this
 case extract x i=>
  have hx:=hρ x
  split at hd
  ·rename_i l he
   rw[he]at hx
   obtain⟨vs,hvs,hl,hv⟩:=hx.tups
   cases hb:l[i]? with
   |none=>simp[hb]at hd
   |some d=>
    simp[hb]at hd;subst hd
    obtain⟨hi,rfl⟩:=List.getElem?_eq_some_iff.1 hb
    exact Sim.val H (v:=vs[i]'(by omega)) (by simp[execOp,hop,hvs,Instr.extract,Array.getElem?_eq_getElem (show i<vs.size by omega)]) (hv i hi (by omega))
  cases hd
 case call cl=>
  cases hc:cl.callee with
  |value f=>exact absurd hc (hnc cl f hop)
  |invoke rr mm=>simp[hc]at hd
  |builtin b=>
   obtain⟨hl,hv⟩:=qFd hρ cl.args.toList
   have hargs:cl.args.map a.eval=(cl.args.toList.map a.eval).toArray:=by rw[←Array.toList_map]
   have htys:cl.argTypes=cl.argTypes.toList.toArray:=rfl
   obtain⟨cs,hex⟩:=qwy (P:=P) (w:=w) (ρ:=a.eval) hop hc
   rw[hex,hargs,htys]
   simp only[hc]at hd
   cases b<;>simp only[reduceCtorEq]at hd
   case append=>
    have:=qBj (P:=P) (ty:=o.type) H hs hz (hid (by simp[qdn,hc])) hl hv hd
    simpa only[builtin]using this
   case copy=>
    have:=qHj (P:=P) (ty:=o.type) (id0:=id) H hs hz hl hv hd
    simpa only[builtin]using this
   case clear=>
    have:=qEF (P:=P) (ty:=o.type) (id0:=id) H hs hz hl hv hd
    simpa only[builtin]using this
   case len=>
    cases hb:qxq P hr cl.argTypes.toList (cl.args.toList.map (ev t))with
    |none=>simp[hb]at hd
    |some d=>
     simp[hb]at hd;subst hd
     obtain⟨v,h1,h2⟩:=qIJ (P:=P) H hs hl hv hb o.type
     exact Sim.val H (by simp only[builtin,Sem.run_bind,h1,Result.andThen_ok,Sem.run_pure]) h2
   case cap=>
    cases hb:qxr P cl.argTypes.toList (cl.args.toList.map (ev t))with
    |none=>simp[hb]at hd
    |some d=>
     simp[hb]at hd;subst hd
     obtain⟨v,h1,h2⟩:=qIK (P:=P) hl hv hb o.type
     exact Sim.val H (by simp only[builtin,Sem.run_bind,h1,Result.andThen_ok,Sem.run_pure]) h2
   case max=>
    cases hb:qc3 true (cl.args.toList.map (ev t))with
    |none=>simp[hb]at hd
    |some d=>
     simp[hb]at hd;subst hd
     obtain⟨v,h1,h2⟩:=qqK (P:=P) hl hv hb
     simp only[if_true,Builtin.max_]at h1
     exact Sim.val H (by simp only[builtin,Builtin.max_,Sem.run_bind,h1,Result.andThen_ok,Sem.run_pure]) h2
   case min=>
    cases hb:qc3 false (cl.args.toList.map (ev t))with
    |none=>simp[hb]at hd
    |some d=>
     simp[hb]at hd;subst hd
     obtain⟨v,h1,h2⟩:=qqK (P:=P) hl hv hb
     simp only[Bool.false_eq_true,if_false,Builtin.min_]at h1
     exact Sim.val H (by simp only[builtin,Builtin.min_,Sem.run_bind,h1,Result.andThen_ok,Sem.run_pure]) h2
 all_goals (cases hd)
end Go.F
