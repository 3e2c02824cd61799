/- Parts of the proof, part 42: Mono. -/
import Derived.Test.YtakaifogljbgoaaGreatZ1
set_option linter.all false
namespace Go.F
structure Env.le (E E':Env):Prop where
 pure:∀f args r,E.pure f args=some r→E'.pure f args=some r
 shar:∀f args h z nx r,E.shar f args h z nx=some r→E'.shar f args h z nx=some r
 shared:E'.shared=E.shared
theorem qsh {E E':Env}(hE:E.le E'){h:q0e}{f:FuncId}{args:List D}{r:Out}(hs:q5t E.pure h f args=some r):q5t E'.pure h f args=some r:=by
 unfold q5t at hs⊢
 split at hs
 ·cases hs
 rename_i bs hb
 split at hs
 ·cases hs
 rename_i d hd
 rw[hE.pure _ _ _ hd]
 exact hs
theorem qEh {P:Program}{E E':Env}(hE:E.le E'){o:Oper}{t:q0z}{h:q0e}{z:Frz}{id:Nat}{r:Out}(hs:step P E.pure o t h z id=some r):step P E'.pure o t h z id=some r:=by
 unfold step at hs⊢
 cases hop:o.op<;>simp only[hop]at hs⊢ <;>first|exact hs|skip
 rename_i cl
 cases hc:cl.callee<;>simp only[hc]at hs⊢ <;>first|exact hs|skip
 split at hs
 ·exact qsh hE hs
 cases hs
theorem qGZ {P:Program}{E E':Env}(hE:E.le E'){draw:Bool}{sp:Sp}{ops:Array Oper}{o:Oper}{i base:Nat}{s s':St}(hs:one P E draw sp ops o i base s=some s'):one P E' draw sp ops o i base s=some s':=by
 unfold one at hs⊢
 have hsc:q13 E' o s.tmps=q13 E o s.tmps:=by unfold q13;rw[hE.shared]
 split at hs
 ·rename_i hw
  simp only[hsc]
  split at hs
  ·rename_i f args hf
   split at hs
   ·rename_i v h z nx hsh
    simp only[hE.shar _ _ _ _ _ _ hsh];exact hs
   cases hs
  rename_i hf
  split at hs
  ·rename_i r hst
   simp only[qEh hE hst];exact hs
  cases hs
 ·exact hs
 cases hs
theorem qyq {P:Program}{E E':Env}(hE:E.le E'){draw:Bool}{sp:Sp}{ops:Array Oper}{base:Nat}:∀{l:List Oper} {i:Nat} {s s':St},q97 P E draw sp ops base l i s=some s'→q97 P E' draw sp ops base l i s=some s':=by
 intro l
 induction l with
 |nil=>intro i s s' h;exact h
 |cons o l ih=>
  intro i s s' h
  simp only[q97]at h⊢
  split at h
  ·rename_i s1 h1
   simp only[qGZ hE h1]
   exact ih h
  cases h
theorem qEi {P:Program}{E E':Env}(hE:E.le E'){pl:Plan}{nx0:Nat}:∀(c:Code) (s:St) (r:Ex×St),q2L P E pl nx0 c s=some r→q2L P E' pl nx0 c s=some r:=by
 intro c
 induction c with
 |region k ops draw=>
  intro s r h
  simp only[q2L]at h⊢
  split at h
  ·split at h
   ·rename_i s' hr
    simp only[qyq hE hr];exact h
   cases h
  cases h
 |seq a b iha ihb=>
  intro s r h
  simp only[q2L]at h⊢
  cases ha:q2L P E pl nx0 a s with
  |none=>rw[ha]at h;cases h
  |some p=>
   rw[ha]at h
   rw[iha s p ha]
   obtain⟨ex,s1⟩:=p
   cases ex with
   |normal=>exact ihb s1 r h
   |exit i=>exact h
   |ret=>exact h
 |cond c a b iha ihb=>
  intro s r h
  simp only[q2L]at h⊢
  split at h
  ·rename_i hc;exact iha s r h
  ·rename_i hc;exact ihb s r h
  cases h
 |block id c ih=>
  intro s r h
  simp only[q2L]at h⊢
  cases hc:q2L P E pl nx0 c s with
  |none=>rw[hc]at h;cases h
  |some p=>
   rw[hc]at h
   rw[ih s p hc]
   exact h
 |loop c ih=>
  intro s r h
  simp only[q2L]at h⊢
  have key:∀(n:Nat) (s:St),qbm nx0 (pl.lv (q4d c)) (q2L P E pl nx0 c) n s=some r→qbm nx0 (pl.lv (q4d c)) (q2L P E' pl nx0 c) n s=some r:=by
   intro n
   induction n with
   |zero=>intro s h;simp[qbm]at h
   |succ n ihn=>
    intro s h
    simp only[qbm]at h⊢
    cases hst:settle nx0 (pl.lv (q4d c)) s with
    |none=>rw[hst]at h;cases h
    |some s1=>
     rw[hst]at h
     simp only at h⊢
     cases hx:q2L P E pl nx0 c s1 with
     |none=>rw[hx]at h;cases h
     |some p=>
      rw[hx]at h
      rw[ih s1 p hx]
      obtain⟨ex,s2⟩:=p
      cases ex with
      |normal=>exact ihn s2 h
      |exit i=>exact h
      |ret=>exact h
  exact key _ s h
 |_=>intro s r h;exact h
theorem qtQ {P:Program}{E E':Env}(hE:E.le E'){pl:Plan}{fn:Func}{c:Code}{args:List D}{h:q0e}{z:Frz}{nx:Nat}{r:D×q0e×Frz×Nat}(hb:body P E pl fn c args h z nx=some r):body P E' pl fn c args h z nx=some r:=by
 unfold body at hb⊢
 cases hx:q2L P E pl nx c ⟨enter args,h,z,nx⟩with
 |none=>rw[hx]at hb;cases hb
 |some p=>rw[hx]at hb;rw[qEi hE c _ p hx];exact hb
theorem env_le (P:Program)(shared:FuncId→Bool)(pl:FuncId→Plan):∀n,(env P shared pl n).le (env P shared pl (n+1)):=by
 intro n
 induction n with
 |zero=>exact⟨fun f args r h=>by simp[env]at h,fun f args h z nx r hr=>by simp[env]at hr,rfl⟩
 |succ n ih=>
  refine⟨fun f args r h=>?_,fun f args hp z nx r h=>?_,rfl⟩
  ·rw[env]at h
   rw[env]
   simp only at h⊢
   split at h
   ·cases h
   rename_i fn hf
   split at h
   ·exact h
   rename_i c hc
   split at h
   ·cases h
   rename_i d hp z nx hb
   simp only[qtQ ih hb];exact h
  rw[env]at h
  rw[env]
  simp only at h⊢
  split at h
  ·cases h
  rename_i fn hf
  split at h
  ·cases h
  split at h
  ·exact h
  exact qtQ ih h
theorem qH0 {P:Program}{shared:FuncId→Bool}{pl:FuncId→Plan}{n m:Nat}{f:FuncId}{args:List D}{r:D}(hnm:n≤m)(h:run P shared pl n f args=some r):run P shared pl m f args=some r:=by
 induction hnm with
 |refl=>exact h
 |step _ ih=>exact(env_le P shared pl _).pure _ _ _ ih
end Go.F
