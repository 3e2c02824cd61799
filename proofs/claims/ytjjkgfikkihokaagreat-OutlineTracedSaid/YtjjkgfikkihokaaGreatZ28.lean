/- Parts of the proof, part 28: KSound3. -/
import Derived.Test.YtjjkgfikkihokaaGreatZ27
import Derived.Test.YtjjkgfikkihokaaGreatZ20
set_option linter.all false
namespace Go.F
theorem mapM_mono {α β : Type} {f g : α → Option β} : ∀ {l : List α} {l' : List β}, (∀ x ∈ l, ∀ y, f x = some y → g x = some y) → l.mapM f = some l' → l.mapM g = some l' := by
 intro l
 induction l with
 | nil => intro l' _ h; simpa using h
 | cons x l ih =>
   intro l' hfg h
   simp only [List.mapM_cons] at h ⊢
   cases hx : f x with
   | none => simp [hx] at h
   | some y =>
     cases hl : l.mapM f with
     | none => simp [hx, hl] at h
     | some ys =>
       simp [hx, hl] at h
       subst h
       simp [hfg x (List.mem_cons_self ..) y hx, ih (fun x hx => hfg x (List.mem_cons_of_mem _ hx)) hl]
theorem qaT {h : q0e} : ∀ {n m : Nat} {d d' : D}, n ≤ m → q13 h n d = some d' → q13 h m d = some d' := by
 intro n
 induction n with
 | zero => intro m d d' _ hs; simp [q13] at hs
 | succ n ih =>
   intro m d d' hm hs
   obtain ⟨m, rfl⟩ : ∃ k, m = k + 1 := ⟨m - 1, by omega⟩
   have up : ∀ {l l' : List D}, l.mapM (q13 h n) = some l' → l.mapM (q13 h m) = some l' := fun hl => mapM_mono (fun x _ y hy => ih (by omega) hy) hl
   cases d with
   | ref id off len =>
     simp only [q13] at hs ⊢
     split at hs
     ·rename_i es esz hb
      split at hs
      ·rename_i hle
       cases hl : ((es.drop off).take len).mapM (q13 h n) with
       | none => simp [hl] at hs
       | some l => simp [hl] at hs; subst hs; simp [hle, up hl]
      ·cases hs
     ·cases hs
   | agg l =>
     simp only [q13] at hs ⊢
     cases hl : l.mapM (q13 h n) with
     | none => simp [hl] at hs
     | some l' => simp [hl] at hs; subst hs; simp [up hl]
   | tup l =>
     simp only [q13] at hs ⊢
     cases hl : l.mapM (q13 h n) with
     | none => simp [hl] at hs
     | some l' => simp [hl] at hs; subst hs; simp [up hl]
   | fn f a c =>
     simp only [q13] at hs ⊢
     split at hs
     ·rename_i a' c' ha hc; cases hs; simp [up ha, up hc]
     ·cases hs
   | mref id =>
     simp only [q13] at hs ⊢
     split at hs
     ·rename_i ks vs hb
      cases hl : vs.mapM (q13 h n) with
      | none => simp [hl] at hs
      | some l => simp [hl] at hs; subst hs; simp [up hl]
     ·cases hs
   | _ => first | (simp only [q13, reduceCtorEq] at hs; done) | (simp only [q13] at hs ⊢; exact hs)
section
variable {h : q0e}
theorem qv5 (n : Nat) {id off len esz : Nat} {es l : List D} (hb : h id = some (.row es esz)) (h1 : off + len ≤ es.length) (h2 : ((es.drop off).take len).mapM (q13 h n) = some l) : q13 h (n + 1) (.ref id off len) = some (.lst l) := by
 simp only [q13, hb]; rw [if_pos h1, h2]; rfl
theorem qte (n : Nat) {id : Nat} {ks : List ByteArray} {vs l : List D} (hb : h id = some (.mp ks vs)) (h2 : vs.mapM (q13 h n) = some l) : q13 h (n + 1) (.mref id) = some (.mlst ks l) := by
 simp only [q13, hb]; rw [h2]; rfl
theorem qv6 (n : Nat) {l l' : List D} (h2 : l.mapM (q13 h n) = some l') : q13 h (n + 1) (.agg l) = some (.agg l') := by
 simp only [q13]; rw [h2]; rfl
theorem qv7 (n : Nat) {l l' : List D} (h2 : l.mapM (q13 h n) = some l') : q13 h (n + 1) (.tup l) = some (.tup l') := by
 simp only [q13]; rw [h2]; rfl
theorem qse (n : Nat) {f : FuncId} {a a' c c' : List D} (h1 : a.mapM (q13 h n) = some a') (h2 : c.mapM (q13 h n) = some c') : q13 h (n + 1) (.fn f a c) = some (.fn f a' c') := by
 simp only [q13, h1, h2]
theorem qsf {d : D} {k : D → Prop} (hw : ws0 h d k) : ∃ d', q13 h 9 d = some d' ∧ k d' := by
 cases d with
 | ref id off len =>
   simp only [ws0] at hw
   split at hw
   ·rename_i es esz hb
    unfold qtb at hw
    obtain ⟨l, h1, h2, h3⟩ := hw
    exact ⟨.lst l, qv5 8 hb h1 h2, h3⟩
   ·exact hw.elim
 | mref id =>
   simp only [ws0] at hw
   split at hw
   ·rename_i ks vs hb
    unfold qp8 at hw
    obtain ⟨l, h1, h2⟩ := hw
    exact ⟨.mlst ks l, qte 8 hb h1, h2⟩
   ·exact hw.elim
 | fn f a c =>
   simp only [ws0] at hw
   split at hw
   ·exact ⟨.fn f [] [], qse 8 rfl rfl, hw⟩
   ·exact hw.elim
 | agg l => exact hw.elim
 | tup l => exact hw.elim
 | ptr a b c => exact hw.elim
 | bad => exact hw.elim
 | _ => exact ⟨_, rfl, hw⟩
theorem qko : ∀ {l : List D} {k : List D → Prop}, qny h l k → ∃ l', l.mapM (q13 h 9) = some l' ∧ k l' := by
 intro l
 induction l with
 | nil => intro k hw; exact ⟨[], rfl, hw⟩
 | cons x l ih =>
   intro k hw
   obtain ⟨x', h1, h2⟩ := qsf hw
   obtain ⟨l', h3, h4⟩ := ih h2
   exact ⟨x' :: l', by simp [List.mapM_cons, h1, h3], h4⟩
theorem qsg {d : D} {k : D → Prop} (hw : ws1 h d k) : ∃ d', q13 h 10 d = some d' ∧ k d' := by
 unfold ws1 at hw
 split at hw
 ·obtain ⟨l', h1, h2⟩ := qko hw; exact ⟨.agg l', qv6 9 h1, h2⟩
 ·obtain ⟨a', h1, h2⟩ := qko hw
  obtain ⟨c', h3, h4⟩ := qko h2
  exact ⟨.fn _ a' c', qse 9 h1 h3, h4⟩
 ·obtain ⟨d', h1, h2⟩ := qsf hw; exact ⟨d', qaT (by omega) h1, h2⟩
theorem qpf : ∀ {l : List D} {k : List D → Prop}, qeS h l k → ∃ l', l.mapM (q13 h 10) = some l' ∧ k l' := by
 intro l
 induction l with
 | nil => intro k hw; exact ⟨[], rfl, hw⟩
 | cons x l ih =>
   intro k hw
   obtain ⟨x', h1, h2⟩ := qsg hw
   obtain ⟨l', h3, h4⟩ := ih h2
   exact ⟨x' :: l', by simp [List.mapM_cons, h1, h3], h4⟩
theorem qwv {d : D} {k : D → Prop} (hw : ws2 h d k) : ∃ d', q13 h depth d = some d' ∧ k d' := by
 unfold ws2 at hw
 split at hw
 ·obtain ⟨l', h1, h2⟩ := qpf hw
  exact ⟨.tup l', qaT (by simp [depth]) (qv7 10 h1), h2⟩
 ·obtain ⟨d', h1, h2⟩ := qsg hw; exact ⟨d', qaT (by simp [depth]) h1, h2⟩
end
section
variable {P : Program} {shared : FuncId → Bool} {pl : FuncId → Plan} {T : Tab}
abbrev EM (P : Program) (shared : FuncId → Bool) (pl : FuncId → Plan) (M : Nat) : Env := env P shared pl M
theorem qms (M : Nat) : (EM P shared pl M).shared = shared := by cases M <;> rfl
def qr4 (P : Program) (shared : FuncId → Bool) (pl : FuncId → Plan) (sh : Shr) : Prop := ∀ f args h z nx (k : D → q0e → Frz → Nat → Prop), sh f args h z nx k → ∃ v h' z' nx', k v h' z' nx' ∧ Evt fun M => (EM P shared pl M).shar f args h z nx = some (v, h', z', nx')
structure TOK (P : Program) (shared : FuncId → Bool) (pl : FuncId → Plan) (T : Tab) : Prop where
 sh : T.shared = shared
 pu : ∀ f args r, T.pu f args = some r → Evt fun M => (EM P shared pl M).pure f args = some r
 tab : ∀ f fn, T.tab f = some fn → ∃ F c, P.funcs[f]? = some F ∧ F.body = some c ∧ cfn P (pl f) F = some fn
variable {sh : Shr} {t : q0z} {gh h : q0e} {gz z : Frz} {nx id : Nat} {c : D → q0e → Frz → Nat → Prop} {vt : List Nat}
theorem qr5 (hT : TOK P shared pl T) {f : FuncId} {args : List D} (hs : shared f = false) (hk : q9i T sh gh h z nx f args c) :
 ∃ r, (Evt fun M => q5y (EM P shared pl M).pure gh f args = some r) ∧ c r.v (q0w h r.hp) (q0w z r.fz) nx := by
 unfold q9i at hk
 rw [hT.sh, hs] at hk
 simp only at hk
 obtain ⟨bs, h1, h2⟩ := qpf hk
 unfold qf3 at h2
 obtain ⟨r, h3, h4⟩ := h2
 rw [q9q] at h4
 have hsn : args.mapM (q13 gh depth) = some bs := mapM_mono (fun x _ y hy => qaT (by simp [depth]) hy) h1
 have hev := hT.pu f bs r h3
 cases hn : noRef 4 r with
 | true =>
   rw [hn] at h4
   exact ⟨out r, hev.mono fun M hM => by simp only [q5y, hsn, hM, hn], h4⟩
 | false =>
   rw [hn] at h4
   refine ⟨⟨r, [], (args.flatMap (q0R gh depth)).map fun id => (id, q0t gh id)⟩, hev.mono fun M hM => by simp only [q5y, hsn, hM, hn], ?_⟩
   simp only at h4
   cases hf : args.flatMap (q0R gh depth) with
   | nil => rw [hf] at h4; exact h4
   | cons i l => rw [hf] at h4; exact h4
theorem qnC (hT : TOK P shared pl T) (hsh : qr4 P shared pl sh) {f : FuncId} {args : List D} (hs : shared f = true) (hk : q9i T sh gh h z nx f args c) :
 ∃ v h' z' nx', c v h' z' nx' ∧ Evt fun M => (EM P shared pl M).shar f args h z nx = some (v, h', z', nx') := by
 unfold q9i at hk
 rw [hT.sh, hs] at hk
 exact hsh f args h z nx c hk
def Does (P : Program) (E : Env) (o : Oper) (t : q0z) (gh : q0e) (gz : Frz) (h : q0e) (z : Frz) (nx id : Nat) : Option (D × q0e × Frz × Nat) :=
 match q10 E o t with
 | some (f, args) => E.shar f args h z nx
 | none =>
   match step P E.pure o t gh gz id with
   | some r => some (r.v, q0w h r.hp, q0w z r.fz, nx)
   | none => none
theorem qv8 (hT : TOK P shared pl T) (hsh : qr4 P shared pl sh) {o : Oper} {k : KOp} (hc : cop P vt o.op = some k) (hk : kop T sh k t gh gz h z nx id c) :
 ∃ v h' z' nx', c v h' z' nx' ∧ Evt fun M => Does P (EM P shared pl M) o t gh gz h z nx id = some (v, h', z', nx') := by
 by_cases hcall : ∃ cl f, o.op = .call cl ∧ cl.callee = .value f
 ·obtain ⟨cl, f, hop, hcal⟩ := hcall
  simp only [hop, cop] at hc
  obtain ⟨fid, a, e, args', hfn, hargs, hk2⟩ : ∃ fid a e args', ev t f = .fn fid a e ∧ a ++ cl.args.toList.map (ev t) ++ e = args' ∧ q9i T sh gh h z nx fid args' c := by
   cases f with
   | func g =>
     simp only [qg9, hcal] at hc
     cases hl : cxs cl.args.toList with
     | none => simp [hl] at hc
     | some l =>
       simp [hl] at hc; subst hc
       simp only [kop] at hk
       exact ⟨g, [], [], _, rfl, by rw [qhT hl]; simp, hk⟩
   | tmp x =>
     simp only [qg9, hcal] at hc
     split at hc
     ·rename_i f' l hf hl
      cases hc
      simp only [kop] at hk
      rw [q2g hf]
      split at hk
      ·rename_i g a e hg; exact ⟨g, a, e, _, hg, by rw [qhT hl], hk⟩
      ·exact hk.elim
     ·cases hc
   | const v =>
     simp only [qg9, hcal] at hc
     split at hc
     ·rename_i f' l hf hl
      cases hc
      simp only [kop] at hk
      rw [q2g hf]
      split at hk
      ·rename_i g a e hg; exact ⟨g, a, e, _, hg, by rw [qhT hl], hk⟩
      ·exact hk.elim
     ·cases hc
   | global v => simp [qg9, hcal, cx] at hc
  cases hs : shared fid with
  | true =>
    obtain ⟨v, h', z', nx', h1, h2⟩ := qnC hT hsh hs hk2
    refine ⟨v, h', z', nx', h1, h2.mono fun M hM => ?_⟩
    have : q10 (EM P shared pl M) o t = some (fid, args') := by
     simp only [q10, hop, hcal, hfn, qms, hs, if_true, hargs]
    simp only [Does, this]; exact hM
  | false =>
    obtain ⟨r, h1, h2⟩ := qr5 hT hs hk2
    refine ⟨r.v, q0w h r.hp, q0w z r.fz, nx, h2, h1.mono fun M hM => ?_⟩
    have : q10 (EM P shared pl M) o t = none := by
     simp only [q10, hop, hcal, hfn, qms, hs, Bool.false_eq_true, if_false]
    have hst : step P (EM P shared pl M).pure o t gh gz id = some r := by
     simp only [step, hop, hcal, hfn, hargs]; exact hM
    simp only [Does, this, hst]
 ·obtain ⟨r, h1, h2⟩ := qv4 hc (fun cl f h1 h2 => hcall ⟨cl, f, h1, h2⟩) hk
  refine ⟨r.v, q0w h r.hp, q0w z r.fz, nx, h2, Evt.all fun M => ?_⟩
  have : q10 (EM P shared pl M) o t = none := by
   unfold q10
   split
   ·rename_i cl hop
    split
    ·rename_i f hcal; exact absurd ⟨cl, f, hop, hcal⟩ hcall
    ·rfl
   ·rfl
  simp only [Does, this, h1]
theorem gd_h {draw : Bool} {ops : Array Oper} {i : Nat} {o : Oper} {base : Nat} (hr : draw = false ∨ (q71 o.op || qcz o.op) = true) : (cgd draw ops i o).h base h = q1M draw ops base i o h ∧ (cgd draw ops i o).z base z = q68 draw ops base i o z := by
 cases draw with
 | false => simp [cgd, Gd.h, Gd.z, q1M, q68]
 | true =>
   have hr' : (q71 o.op || qcz o.op) = true := by simpa using hr
   simp only [cgd, hr']
   have hok : ∀ id, Gd.ok (match q6L ops i o with | some a => Gd.init a | none => Gd.bef ((Region.before ops).getD i 0) ops.size) base id = q6y ops base i o id := by
    intro id
    unfold q6y
    cases q6L ops i o <;> rfl
   cases hi : q6L ops i o with
   | some a =>
     simp only [hi] at hok
     exact ⟨by funext id; simp only [Gd.h, q1M, ← hok], by funext id; simp only [Gd.z, q68, ← hok]⟩
   | none =>
     simp only [hi] at hok
     exact ⟨by funext id; simp only [Gd.h, q1M, ← hok], by funext id; simp only [Gd.z, q68, ← hok]⟩
theorem qpg {E : Env} {o : Oper} {gh' : q0e} {gz' : Frz} (hr : q71 o.op = false) : Does P E o t gh gz h z nx id = Does P E o t gh' gz' h z nx id := by
 unfold Does
 rw [qdn hr]
theorem qr6 (hT : TOK P shared pl T) (hsh : qr4 P shared pl sh) {draw : Bool} {ops : Array Oper} {i base : Nat} {o : Oper} {ko : KOper} {rest : List KOper} {q : q0z → q0e → Frz → Nat → Prop} (hc : quz P vt draw ops i o = some ko)
 (hw : wpo T sh base (ko :: rest) t h z nx q) : ∃ s' : St, (Evt fun M => one P (EM P shared pl M) draw ops o i base ⟨t, h, z, nx⟩ = some s') ∧ wpo T sh base rest s'.tmps s'.heap s'.frz s'.next q := by
 have run : ∀ {k : KOp}, (cop P vt o.op).getD .stuck = k → wanted t ops o = some true → kop T sh k t ((cgd draw ops i o).h base h) ((cgd draw ops i o).z base z) h z nx (base + i) (fun v h z nx => wpo T sh base rest (put t o.dst v) h z nx q) →
  ∃ s' : St, (Evt fun M => one P (EM P shared pl M) draw ops o i base ⟨t, h, z, nx⟩ = some s') ∧ wpo T sh base rest s'.tmps s'.heap s'.frz s'.next q := by
  intro k hk0 hwt hk
  cases hcop : cop P vt o.op with
  | none => rw [hcop] at hk0; simp at hk0; subst hk0; exact hk.elim
  | some k' =>
    rw [hcop] at hk0
    simp at hk0
    subst hk0
    obtain ⟨v, h', z', nx', h1, h2⟩ := qv8 hT hsh hcop hk
    refine ⟨⟨put t o.dst v, h', z', nx'⟩, h2.mono fun M hM => ?_, h1⟩
    have hM' : Does P (EM P shared pl M) o t (q1M draw ops base i o h) (q68 draw ops base i o z) h z nx (base + i) = some (v, h', z', nx') := by
     by_cases hr : draw = false ∨ (q71 o.op || qcz o.op) = true
     ·obtain ⟨e1, e2⟩ := gd_h (h := h) (z := z) (base := base) (ops := ops) (i := i) hr
      rw [e1, e2] at hM; exact hM
     ·have hrd : q71 o.op = false := by
       cases hb : q71 o.op with
       | false => rfl
       | true => exact absurd (.inr (by simp [hb])) hr
      rw [qpg hrd]; exact hM
    unfold one
    simp only [hwt]
    unfold Does at hM'
    split at hM'
    ·rename_i f args hsc
     simp only [hsc, hM']
    ·rename_i hsc
     simp only [hsc]
     split at hM'
     ·rename_i r hst
      simp only [Option.some.injEq, Prod.mk.injEq] at hM'
      obtain ⟨rfl, rfl, rfl, rfl⟩ := hM'
      simp only [hst]
     ·cases hM'
 unfold quz at hc
 simp only at hc
 split at hc
 ·rename_i hg
  cases hc
  simp only [wpo] at hw
  exact run rfl (by simp [wanted, hg]) hw
 ·rename_i j want hg
  split at hc
  ·rename_i d hd
   cases hc
   simp only [wpo] at hw
   have skip : wanted t ops o = some false → wpo T sh base rest (put t o.dst (.tup [])) h z nx q → ∃ s' : St, (Evt fun M => one P (EM P shared pl M) draw ops o i base ⟨t, h, z, nx⟩ = some s') ∧ wpo T sh base rest s'.tmps s'.heap s'.frz s'.next q := by
    intro hwt hk
    exact ⟨⟨put t o.dst (.tup []), h, z, nx⟩, Evt.all fun M => by unfold one; simp only [hwt], hk⟩
   split at hw
   ·rename_i b hb
    cases want with
    | true =>
      cases b with
      | true => exact run rfl (by simp [wanted, hg, hd, hb]) hw
      | false => exact skip (by simp [wanted, hg, hd, hb]) hw
    | false =>
      cases b with
      | true => exact skip (by simp [wanted, hg, hd, hb]) hw
      | false => exact run rfl (by simp [wanted, hg, hd, hb]) hw
   ·rename_i l hl
    exact skip (by simp [wanted, hg, hd, hl]) hw
   ·exact hw.elim
  ·cases hc
theorem qnD (hT : TOK P shared pl T) (hsh : qr4 P shared pl sh) {draw : Bool} {ops : Array Oper} {base : Nat} {q : q0z → q0e → Frz → Nat → Prop} : ∀ {l : List Oper} {i : Nat} {kl : List KOper} {t : q0z} {h : q0e} {z : Frz} {nx : Nat}, qhB P vt draw ops l i = some kl →
 wpo T sh base kl t h z nx q → ∃ s' : St, (Evt fun M => q94 P (EM P shared pl M) draw ops base l i ⟨t, h, z, nx⟩ = some s') ∧ q s'.tmps s'.heap s'.frz s'.next := by
 intro l
 induction l with
 | nil => intro i kl t h z nx hc hw; simp only [qhB, Option.some.injEq] at hc; subst hc; exact ⟨⟨t, h, z, nx⟩, Evt.all fun M => rfl, hw⟩
 | cons o l ih =>
   intro i kl t h z nx hc hw
   simp only [qhB] at hc
   split at hc
   ·rename_i k kl' h1 h2
    cases hc
    obtain ⟨s1, e1, w1⟩ := qr6 hT hsh h1 hw
    obtain ⟨s2, e2, w2⟩ := ih h2 w1
    exact ⟨s2, (e1.and e2).mono fun M hM => by simp only [q94, hM.1]; exact hM.2, w2⟩
   ·cases hc
end
end Go.F
