/- Part 13. -/
import Derived.Test.YtglbdppmnchoeaaGreatZ12
set_option linter.all false
namespace Go.F
variable {P:Program}{c:Ctx}{m:Map}{pr:aM}{h hr:ab}{z zr:Frz}{w:World}
theorem Pg {t:ai}{ρ:Operand->Value}(a:pg m pr w t ρ)(l:List Operand):
 (l.map (ev t)).length=(l.map ρ).length/\∀k (_:k<(l.map (ev t)).length) (_:k<(l.map ρ).length),VR m pr w (l.map (ev t))[k] (l.map ρ)[k]:=
 ⟨by simp,fun k h1 b=>by simp;exact a _⟩
theorem Sb {ρ:Operand->Value}{o:Oper}{cl:Call}{b:Builtin}(a:o.op=.call cl)(c:cl.callee=.builtin b):
 ∃cs,(execOp ρ o).run P w=(builtin b cl.argTypes o.type cs (cl.args.map ρ)).run P w:=
 by
 simp[execOp,a,resolve,c,invoke];grind
theorem VR.isPtr {d:D}{v:Value}(a:VR m pr w d v)(b:(∃i j k,d=.ptr i j k)\/∃e i,d=.pl e i):∃p,v=.pointer (some p):=by
 rcases b with⟨i,j,k,rfl⟩ |⟨e,i,rfl⟩<;>cases a<;>exact⟨_,rfl⟩
theorem Tu {O:Pure}{o:Oper}{t:ai}{a:Act}{id:Nat}{r:Out}(H:HR c m h z w)(I:Sub hr h)(Q:∀id,hr id≠none->zr id=z id)(F:gM o.op=true->m id=none)
 (ht:∀i,VR m (Pr c m h z) w (t i) (a.tmps.getD i undef)) (a2:∀cl f,o.op=.call cl->cl.callee≠ .value f) (g:step P O o t hr zr id=some r):
 Sim c m h z w id r ((execOp a.eval o).run P w):=by
 have A:=tV ht;unfold step at g;cases G:o.op<;>simp only[G]at g F
 case move x=>simp at g;subst g;exact Sim.val H (by simp[execOp,G]) (A x)
 case assign x=>simp at g;subst g;exact Sim.val H (by simp[execOp,G]) (A x)
 case pick cc x y=>
  have C:=A cc;split at g
  .rename_i J;simp at g;subst g;rw[J]at C;have u:=C.bools rfl;exact Sim.val H (by simp_all[execOp,asBool]) (A x)
  .rename_i J;simp at g;subst g;rw[J]at C;have u:=C.bools rfl;exact Sim.val H (by simp_all[execOp,asBool]) (A y)
  grind
 case alloc e=>
  split at g
  .rename_i d E;split at g
   .rename_i C;have:=Rs (P:=P) H (F rfl) E C.1 C.2;grind[execOp]
   grind
  grind
 case box e x=>
  split at g
  .rename_i C;have:=Pt (P:=P) (e:=e) H (F rfl) (A x) C.1 C.2;grind[execOp]
  grind
 case build ty parts=>
  cases u:build P t ty parts.toList with
  |none=>grind
  |some d=>
   simp[u]at g;subst g;obtain⟨v,h1,B⟩:=run_build (P:=P) A u;exact Sim.val H (by grind[execOp,Sem.run_bind,Result.andThen_ok,Sem.run_pure]) B
 case buildSlice ty len parts=>
  split at g
  grind
  .rename_i e J;split at g
   .rename_i n d U E;split at g
    .rename_i C
     cases V:iZ t n (List.replicate len d) parts.toList with
     |none=>grind
     |some es=>
      have:=Q5 (P:=P) H (F rfl) A J U E C.1 C.2.1 C.2.2.1 C.2.2.2 V;grind[execOp]
    grind
   grind
 case load ty x=>
  cases u:load P hr ty (ev t x)with
  |none=>grind
  |some d=>
   simp[u]at g;subst g;obtain⟨v,h1,B⟩:=run_load (P:=P) H I (A x) u;exact Sim.val H (by grind[execOp,Sem.run_bind,Result.andThen_ok,Sem.run_pure]) B
 case store ty x v=>
  have:=X7 (P:=P) (id0:=id) H I Q (A x) (A v) g;grind[execOp]
 case nilCheck x=>
  have R:=A x
  have fin:∀d,ev t x=d->((∃i j k,d=.ptr i j k)\/∃e i,d=.pl e i)->Sim c m h z w id (out d) ((execOp a.eval o).run P w):=by
   intro d J g;rw[J]at R;obtain⟨p,hp⟩:=R.isPtr g;refine Sim.val H (v:=.pointer (some p)) (by simp_all[execOp]) ?_;grind
  grind
 case binOp op ty x y yt=>
  unfold binX at g
  have hy:(ri y&&isSlice P ty&&pk (ev t x))=true->a.eval y=.slice none 0 0/\pk (ev t x)=true/\∃e,P.underlying ty=some (.slice e):=by
   intro C;simp at C;obtain⟨⟨h1,B⟩,h3⟩:=C;refine⟨?_,h3,?_⟩
   .unfold ri at h1;split at h1
    .rfl
    grind
   grind[isSlice]
  split at g
  .rename_i C;obtain⟨h1,B,e,h3⟩:=hy C;obtain⟨W,X,_⟩:=LO (P:=P) (op:=.eql) (ox:=x) (oy:=y) (A x) B h3;simp at g;subst g;exact Sim.val H (by grind[execOp,Sem.run_bind,Result.andThen_ok,Sem.run_pure]) (.bool _)
  .rename_i C;obtain⟨h1,B,e,h3⟩:=hy C;obtain⟨W,_,X⟩:=LO (P:=P) (op:=.neq) (ox:=x) (oy:=y) (A x) B h3;simp at g;subst g;exact Sim.val H (by grind[execOp,Sem.run_bind,Result.andThen_ok,Sem.run_pure]) (.bool _)
  have S:(qH y&&isMap P ty)=true->a.eval y=.map none/\∃k e,P.underlying ty=some (.map k e):=by
   intro C;simp at C;obtain⟨h1,B⟩:=C;refine⟨?_,?_⟩
   .unfold qH at h1;split at h1
    .rfl
    grind
   grind[isMap]
  split at g
  .obtain⟨h1,k,e,h3⟩:=S (by omega)
   cases K:nZ (ev t x)with
   |none=>grind
   |some b=>
    obtain⟨W,X,_⟩:=HY (P:=P) (op:=.eql) (ox:=x) (oy:=y) (A x) K h3;simp[K]at g;subst g;exact Sim.val H (by grind[execOp,Sem.run_bind,Result.andThen_ok,Sem.run_pure]) (.bool _)
  .obtain⟨h1,k,e,h3⟩:=S (by omega)
   cases K:nZ (ev t x)with
   |none=>grind
   |some b=>
    obtain⟨W,_,X⟩:=HY (P:=P) (op:=.neq) (ox:=x) (oy:=y) (A x) K h3;simp[K]at g;subst g;exact Sim.val H (by grind[execOp,Sem.run_bind,Result.andThen_ok,Sem.run_pure]) (.bool _)
  generalize u:bin P _ ty (ev t x) (ev t y)=q at g
  cases q with
  |none=>grind
  |some d=>
   simp at g;subst g;obtain⟨v,h1,B⟩:=YH (P:=P) (A x) (A y) u;have hg:=Ws (P:=P) (ox:=x) (oy:=y) (A x) (A y) u;exact Sim.val H (by grind[execOp,Sem.run_bind,Result.andThen_ok,Sem.run_pure]) B
 case unOp op ty x=>
  cases u:un op (ev t x)with
  |none=>grind
  |some d=>
   simp[u]at g;subst g;obtain⟨v,h1,B⟩:=run_un (P:=P) (A x) u;exact Sim.val H (by grind[execOp,Sem.run_bind,Result.andThen_ok,Sem.run_pure]) B
 case convert s d x=>
  cases u:conv P hr s d (ev t x)with
  |none=>grind
  |some d'=>
   simp[u]at g;subst g;obtain⟨v,h1,B⟩:=Xo (P:=P) H I (A x) u;exact Sim.val H (by grind[execOp,Sem.run_bind,Result.andThen_ok,Sem.run_pure]) B
 case makeFunc fn x y=>
  split at g
  .rename_i f;simp at g;subst g;refine Sim.val H (v:=.func (.func f) (x.map a.eval) (y.map a.eval)) (by simp[execOp,G,Instr.makeFunc]) ?_;refine .fn f _ _ _ _ (by simp) (by simp) (fun k h1 B=>?_) (fun k h1 B=>?_)
   .simp;exact A _
   simp;exact A _
  grind
 case makeMap ty rr=>
  split at g
  .have:=R5 (P:=P) (ty:=ty) H (F rfl);grind[execOp]
  grind
 case makeSlice ty l cc=>
  split at g
  .rename_i e l' c' J L C;split at g
   .rename_i n b d U u E;split at g
    .rename_i D;have e1:=(A l).ints L;have e2:=(A cc).ints C;have:=XL (P:=P) H (F rfl) J U u E D.1 D.2.1 D.2.2.1 D.2.2.2.1 D.2.2.2.2.1 D.2.2.2.2.2;grind[execOp]
    grind
   grind
  grind
 case slice ty x lo hi mx=>
  have:=YA (P:=P) (id:=id) H I (A x) (CM A lo) (CM A hi) (CM A mx) g;grind[execOp]
 case fieldAddr s x f=>
  split at g
  .rename_i n V
   cases u:lA (ev t x) n with
   |none=>grind
   |some d=>
    simp[u]at g;subst g;obtain⟨v,h1,B⟩:=TA (P:=P) (A x) V u;exact Sim.val H (by grind[execOp,Sem.run_bind,Result.andThen_ok,Sem.run_pure]) B
  grind
 case indexAddr ty x ix=>
  cases u:indexAddr P hr ty (ev t x) (ev t ix)with
  |none=>grind
  |some d=>
   simp[u]at g;subst g;obtain⟨v,h1,B⟩:=UY (P:=P) H I (A x) (A ix) u;exact Sim.val H (by grind[execOp,Sem.run_bind,Result.andThen_ok,Sem.run_pure]) B
 case index ty x ix=>
  cases u:index P ty (ev t x) (ev t ix)with
  |none=>grind
  |some d=>
   simp[u]at g;subst g;obtain⟨v,h1,B⟩:=U5 (P:=P) (A x) (A ix) u;exact Sim.val H (by grind[execOp,Sem.run_bind,Result.andThen_ok,Sem.run_pure]) B
 case lookup ty x ix ok=>
  cases u:lookup P hr ty (ev t x) (ev t ix) ok with
  |none=>grind
  |some d=>
   simp[u]at g;subst g;obtain⟨v,h1,B⟩:=TW (P:=P) H I (A x) (A ix) u;exact Sim.val H (by grind[execOp,Sem.run_bind,Result.andThen_ok,Sem.run_pure]) B
 case mapUpdate ty x k v=>
  have:=XQ (P:=P) (id0:=id) H I Q (A x) (A k) (A v) g;grind[execOp]
 case extract x i=>
  have R:=A x;split at g
  .rename_i l J;rw[J]at R;obtain⟨vs,Y,L,M⟩:=R.tups
   cases u:l[i]? with
   |none=>grind
   |some d=>
    simp[u]at g;subst g;obtain⟨hi,rfl⟩:=yB.1 u;exact Sim.val H (v:=vs[i]'(by omega)) (by simp[execOp,G,Y,Instr.extract,yC (show i<vs.size by omega)]) (M i hi (by omega))
  grind
 case call cl=>
  cases C:cl.callee with
  |value f=>grind
  |invoke rr mm=>grind
  |builtin b=>
   obtain⟨L,M⟩:=Pg A cl.args.toList;have N:cl.args.map a.eval=(cl.args.toList.map a.eval).toArray:=by grind
   have T:cl.argTypes=cl.argTypes.toList.toArray:=rfl;obtain⟨cs,Z⟩:=Sb (P:=P) (w:=w) (ρ:=a.eval) G C;rw[Z,N,T];simp only[C]at g;cases b<;>simp only[reduceCtorEq]at g
   case append=>
    have:=VG (P:=P) (ty:=o.type) H I Q (F (by grind[gM])) L M g
    trivial
   case copy=>
    have:=Tg (P:=P) (ty:=o.type) (id0:=id) H I Q L M g
    trivial
   case clear=>
    have:=Tb (P:=P) (ty:=o.type) (id0:=id) H I Q L M g
    trivial
   case len=>
    cases u:sD P hr cl.argTypes.toList (cl.args.toList.map (ev t))with
    |none=>grind
    |some d=>
     simp[u]at g;subst g;obtain⟨v,h1,B⟩:=Tk (P:=P) H I L M u o.type;exact Sim.val H (by grind[builtin,Sem.run_bind,Result.andThen_ok,Sem.run_pure]) B
   case cap=>
    cases u:uA P cl.argTypes.toList (cl.args.toList.map (ev t))with
    |none=>grind
    |some d=>
     simp[u]at g;subst g;obtain⟨v,h1,B⟩:=Tw (P:=P) L M u o.type;exact Sim.val H (by grind[builtin,Sem.run_bind,Result.andThen_ok,Sem.run_pure]) B
   case max=>
    cases u:mI true (cl.args.toList.map (ev t))with
    |none=>grind
    |some d=>
     simp[u]at g;subst g;obtain⟨v,h1,B⟩:=OW (P:=P) L M u;exact Sim.val H (by grind[builtin,Builtin.max_,Sem.run_bind,Result.andThen_ok,Sem.run_pure]) B
   case min=>
    cases u:mI false (cl.args.toList.map (ev t))with
    |none=>grind
    |some d=>
     simp[u]at g;subst g;obtain⟨v,h1,B⟩:=OW (P:=P) L M u;exact Sim.val H (by grind[builtin,Builtin.min_,Sem.run_bind,Result.andThen_ok,Sem.run_pure]) B
 all_goals (cases g)
end Go.F
