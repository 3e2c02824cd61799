/- Parts of the proof, part 29: KSound4. -/
import Derived.Test.YtdhpbljlnlpibaaGreatZ28
set_option linter.all false
namespace Go.F
theorem qqR : ∀ {live : Live} {t : q0u} {h : q0f} {z : Frz} {nx : Nat} {k : q0u → q0f → Frz → Nat → Prop}, qcV live t h z nx k → k (q47 live ⟨t, h, z, nx⟩).tmps (q47 live ⟨t, h, z, nx⟩).heap (q47 live ⟨t, h, z, nx⟩).frz (q47 live ⟨t, h, z, nx⟩).next := by
 intro live
 induction live with
 | nil => intro t h z nx k hw; exact hw
 | cons x live ih =>
   intro t h z nx k hw
   simp only [qcV] at hw
   simp only [q47, qmP]
   cases hx : x.2 with
   | zero => rw [hx] at hw; exact ih hw
   | succ e =>
     rw [hx] at hw
     simp only at hw ⊢
     cases ht : t x.1 <;> rw [ht] at hw <;> exact ih hw
theorem qnc {t : q0u} {nx : Nat} : ∀ {live : Live} {h : q0f} {z : Frz} {k : q0f → Frz → Prop}, q2Q live t h z k →
 ∃ h1 z1, q8m live ⟨t, h, z, nx⟩ = some ⟨t, h1, z1, nx⟩ ∧ qgn h1 t live = true ∧ k h1 z1 ∧ ∀ id, q1g (h id) = true → q1g (h1 id) = true := by
 intro live
 induction live with
 | nil => intro h z k hw; exact ⟨h, z, rfl, rfl, hw, fun _ h => h⟩
 | cons x live ih =>
   intro h z k hw
   simp only [q2Q] at hw
   simp only [q8m, qgm, qgn]
   cases hid : q2V (t x.1) with
   | none =>
     rw [hid] at hw
     simp only at hw ⊢
     cases hb : plain 4 (t x.1) with
     | false => rw [hb] at hw; exact hw.elim
     | true =>
       rw [hb] at hw
       obtain ⟨h1, z1, e1, e2, e3, e4⟩ := ih hw
       exact ⟨h1, z1, e1, by simp [e2], e3, e4⟩
   | some id =>
     rw [hid] at hw
     simp only at hw ⊢
     cases hb : h id with
     | none =>
       rw [hb] at hw
       obtain ⟨h1, z1, e1, e2, e3, e4⟩ := ih hw
       exact ⟨h1, z1, e1, by simp [e2, e4 id (by simp [hb, q1g])], e3, e4⟩
     | some b =>
       rw [hb] at hw
       cases b with
       | row es esz =>
         simp only at hw ⊢
         unfold qaX at hw
         rcases hw with ⟨g1, g2⟩ | ⟨l', rs, g1, g2, g3, g4, g5⟩
         ·obtain ⟨h1, z1, e1, e2, e3, e4⟩ := ih g2
          exact ⟨h1, z1, by rw [g1]; exact e1, by simp [e2, e4 id (by simp [hb, q1g, g1])], e3, e4⟩
         obtain ⟨h1, z1, e1, e2, e3, e4⟩ := ih g5
         have hm : es.mapM (q10 h depth) = some l' := mapM_mono (fun x _ y hy => qaa (by simp [depth]) hy) g2
         refine ⟨h1, z1, ?_, by simp [e2, e4 id (by simp [upd_same, q1g, g4])], e3, fun i hi => e4 i ?_⟩
         ·rw [g1]; simp only [hm, g3]; exact e1
         by_cases hii : i = id
         ·subst hii; simp [upd_same, q1g, g4]
         rw [upd_ne hii]; exact hi
       | mp ks vs =>
         simp only at hw ⊢
         obtain ⟨g1, g2⟩ := q18 hw
         obtain ⟨h1, z1, e1, e2, e3, e4⟩ := ih g2
         exact ⟨h1, z1, e1, by simp [e2, e4 id (by simp [hb, q1g, g1])], e3, e4⟩
theorem qnd {nx0 : Nat} {ids : List (Option Nat)} {t : q0u} : ∀ (live : Live), q8n nx0 ids t live = mkT live (q9R nx0 ids t live) := by
 intro live
 induction live with
 | nil => rfl
 | cons x live ih => simp only [q8n, q9R, q8O, q5w, mkT, ih]
def qcY {α : Type} (nx0 : Nat) (ids : List (Option Nat)) (bot : α) (h : Nat → α) : List (Option Nat) → Nat → List α
 | [], _ => []
 | o :: rest, j => qkH nx0 ids bot h o j :: qcY nx0 ids bot h rest (j + 1)
theorem qqS {nx0 : Nat} {ids : List (Option Nat)} {h : q0f} : ∀ (l : List (Option Nat)) (j : Nat), q9S nx0 ids h l j = qcY nx0 ids none h l j := by
 intro l
 induction l with
 | nil => intro j; rfl
 | cons o l ih => intro j; simp only [q9S, qcY, qtM, ih]
theorem qsM {nx0 : Nat} {ids : List (Option Nat)} {z : Frz} : ∀ (l : List (Option Nat)) (j : Nat), qfu nx0 ids z l j = qcY nx0 ids 0 z l j := by
 intro l
 induction l with
 | nil => intro j; rfl
 | cons o l ih => intro j; simp only [qfu, qcY, ih]
theorem qdv {α : Type} {nx0 : Nat} {ids : List (Option Nat)} {old : Nat → α} {bot : α} {h : Nat → α} : ∀ (l : List (Option Nat)) (j : Nat), nx0 ≤ j → q1l nx0 ids old bot h l j = mkF nx0 old bot (qcY nx0 ids bot h l j) j := by
 intro l
 induction l with
 | nil => intro j _; rfl
 | cons o l ih =>
   intro j hj
   have hbot : q1l nx0 ids old bot h l (j + 1) j = bot := by
    rw [q8Q nx0 ids old bot h l (j + 1) (by omega) j, if_neg (by omega), if_neg (by omega)]
   have same : upd (q1l nx0 ids old bot h l (j + 1)) j bot = q1l nx0 ids old bot h l (j + 1) := q33 hbot
   simp only [qcY, mkF, ← ih (j + 1) (by omega)]
   cases o with
   | none => simp only [q1l, qkH, same]
   | some x =>
     simp only [q1l, qkH]
     cases Nat.ble nx0 x with
     | false => simp only [same]
     | true =>
       cases placeOf ids x nx0 with
       | none => simp only [same]
       | some i =>
         simp only
         cases Nat.beq i j with
         | true => simp only [cond_true]
         | false => simp only [cond_false, same]
theorem qne {nx0 : Nat} {live : Live} {t : q0u} {h : q0f} {z : Frz} {nx : Nat} {k : q0f → Frz → Kept → Prop} (hw : q0Z nx0 live t h z nx k) :
 ∃ h1 z1 kp, k h1 z1 kp ∧ settle nx0 live ⟨t, h, z, nx⟩ = some ⟨mkT live kp.1, mkF nx0 (q17 h1) none kp.2.1 nx0, mkF nx0 z1 0 kp.2.2 nx0, nx0 + live.length⟩ := by
 unfold q0Z at hw
 unfold settle
 generalize q6u live = b at *
 cases b with
 | true => exact hw
 | false =>
 simp only at hw ⊢
 unfold q75 at hw
 have h1 := qqR hw
 obtain ⟨h2, z2, e1, e2, e3, _⟩ := qnc (nx := (q47 live ⟨t, h, z, nx⟩).next) h1
 rw [q6K, q6L] at e3
 refine ⟨_, _, _, e3, ?_⟩
 have he : q47 live ⟨t, h, z, nx⟩ = ⟨(q47 live ⟨t, h, z, nx⟩).tmps, (q47 live ⟨t, h, z, nx⟩).heap, (q47 live ⟨t, h, z, nx⟩).frz, (q47 live ⟨t, h, z, nx⟩).next⟩ := rfl
 rw [he, e1]
 simp only [keep, e2]
 rw [qnd, qdv _ _ (Nat.le_refl _), qdv _ _ (Nat.le_refl _), qqS, qsM]
section
variable {P : Program} {shared : FuncId → Bool} {pl : FuncId → Plan} {T : Tab} {sh : Shr} {nx0 : Nat}
theorem qsN (hT : TOK P shared pl T) (hsh : qoN P shared pl sh) (p : Plan) : ∀ (cd : Code) (k : K), q45 P p cd = some k → ∀ (t : q0u) (h : q0f) (z : Frz) (nx : Nat) (q : Ex → q0u → q0f → Frz → Nat → Prop), wp T sh nx0 k t h z nx q →
 ∃ ex s', q ex s'.tmps s'.heap s'.frz s'.next ∧ Evt fun M => q28 P (EM P shared pl M) p nx0 cd ⟨t, h, z, nx⟩ = some (ex, s') := by
 intro cd
 induction cd with
 | skip => intro k hk t h z nx q hw; simp only [q45, Option.some.injEq] at hk; subst hk; exact ⟨.normal, ⟨t, h, z, nx⟩, hw, Evt.all fun M => rfl⟩
 | region r ops draw =>
   intro k hk t h z nx q hw
   simp only [q45] at hk
   cases hc : qgk P p.vt draw ops ops.toList 0 with
   | none => simp [hc] at hk
   | some l =>
     simp [hc] at hk
     subst hk
     simp only [wp] at hw
     split at hw
     ·rename_i hb
      obtain ⟨s', e1, e2⟩ := qlN hT hsh hc hw
      exact ⟨.normal, s', e2, e1.mono fun M hM => by simp only [q28, hb, hM]⟩
     exact hw.elim
 | seq a b iha ihb =>
   intro k hk t h z nx q hw
   simp only [q45] at hk
   split at hk
   ·rename_i ka kb ha hb
    cases hk
    simp only [wp] at hw
    obtain ⟨ex1, s1, q1, e1⟩ := iha ka ha t h z nx _ hw
    cases ex1 with
    | normal =>
      obtain ⟨ex2, s2, q2, e2⟩ := ihb kb hb _ _ _ _ _ q1
      exact ⟨ex2, s2, q2, (e1.and e2).mono fun M hM => by simp only [q28, hM.1]; exact hM.2⟩
    | exit i => exact ⟨.exit i, s1, q1, e1.mono fun M hM => by simp only [q28, hM]⟩
    | ret => exact ⟨.ret, s1, q1, e1.mono fun M hM => by simp only [q28, hM]⟩
   cases hk
 | cond c a b iha ihb =>
   intro k hk t h z nx q hw
   simp only [q45] at hk
   split at hk
   ·rename_i x ka kb hx ha hb
    cases hk
    simp only [wp] at hw
    split at hw
    ·rename_i d hd
     cases d with
     | true =>
       obtain ⟨ex, s1, q1, e1⟩ := iha ka ha t h z nx _ hw
       exact ⟨ex, s1, q1, e1.mono fun M hM => by simp only [q28, q1P hx, hd]; exact hM⟩
     | false =>
       obtain ⟨ex, s1, q1, e1⟩ := ihb kb hb t h z nx _ hw
       exact ⟨ex, s1, q1, e1.mono fun M hM => by simp only [q28, q1P hx, hd]; exact hM⟩
    exact hw.elim
   cases hk
 | block id c ih =>
   intro k hk t h z nx q hw
   simp only [q45] at hk
   cases hc : q45 P p c with
   | none => simp [hc] at hk
   | some kc =>
     simp [hc] at hk
     subst hk
     simp only [wp] at hw
     obtain ⟨ex1, s1, q1, e1⟩ := ih kc hc t h z nx _ hw
     cases ex1 with
     | normal => exact ⟨.normal, s1, q1, e1.mono fun M hM => by simp only [q28, hM]⟩
     | ret => exact ⟨.ret, s1, q1, e1.mono fun M hM => by simp only [q28, hM]⟩
     | exit i =>
       simp only at q1
       split at q1
       ·rename_i hb
        have hq := Nat.eq_of_beq_eq_true hb
        exact ⟨.normal, s1, q1, e1.mono fun M hM => by simp only [q28, hM]; rw [if_pos hq]⟩
       rename_i hb
       have hq : ¬ i = id := fun e => by subst e; simp at hb
       exact ⟨.exit i, s1, q1, e1.mono fun M hM => by simp only [q28, hM]; rw [if_neg hq]⟩
 | loop c ih =>
   intro k hk t h z nx q hw
   simp only [q45] at hk
   cases hc : q45 P p c with
   | none => simp [hc] at hk
   | some kc =>
     simp [hc] at hk
     subst hk
     simp only [wp] at hw
     unfold qn4 at hw
     have key : ∀ (fuel : Nat) (t : q0u) (h : q0f) (z : Frz) (nx : Nat), q40 nx0 (p.lv (q3F c)) (fun t h z nx q => wp T sh nx0 kc t h z nx q) fuel t h z nx q →
      ∃ ex s', q ex s'.tmps s'.heap s'.frz s'.next ∧ Evt fun M => qa0 nx0 (p.lv (q3F c)) (q28 P (EM P shared pl M) p nx0 c) fuel ⟨t, h, z, nx⟩ = some (ex, s') := by
      intro fuel
      induction fuel with
      | zero => intro t h z nx hw; exact hw.elim
      | succ fuel ihf =>
        intro t h z nx hw
        simp only [q40] at hw
        obtain ⟨h1, z1, kp, g1, g2⟩ := qne hw
        obtain ⟨ex1, s1, q1, e1⟩ := ih kc hc _ _ _ _ _ g1
        cases ex1 with
        | normal =>
          obtain ⟨ex2, s2, q2, e2⟩ := ihf _ _ _ _ q1
          exact ⟨ex2, s2, q2, (e1.and e2).mono fun M hM => by simp only [qa0, g2, hM.1]; exact hM.2⟩
        | exit i => exact ⟨.exit i, s1, q1, e1.mono fun M hM => by simp only [qa0, g2, hM]⟩
        | ret => exact ⟨.ret, s1, q1, e1.mono fun M hM => by simp only [qa0, g2, hM]⟩
     obtain ⟨ex, s', q', e'⟩ := key q8q t h z nx hw
     exact ⟨ex, s', q', e'.mono fun M hM => by simp only [q28]; exact hM⟩
 | exit id => intro k hk t h z nx q hw; simp only [q45, Option.some.injEq] at hk; subst hk; exact ⟨.exit id, ⟨t, h, z, nx⟩, hw, Evt.all fun M => rfl⟩
 | ret => intro k hk t h z nx q hw; simp only [q45, Option.some.injEq] at hk; subst hk; exact ⟨.ret, ⟨t, h, z, nx⟩, hw, Evt.all fun M => rfl⟩
 | rangeFunc f ps x y _ _ => intro k hk; simp [q45] at hk
 | scope x _ => intro k hk; simp [q45] at hk
 | label l => intro k hk; simp [q45] at hk
 | goto l => intro k hk; simp [q45] at hk
 | refuse y => intro k hk; simp [q45] at hk
theorem qqT {t : q0u} {h : q0f} {z : Frz} {nx : Nat} {rv : ResultVar} {r : KRes} {k : D → Prop} (hc : qor P rv = some r) (hw : qn5 t h r k) : ∃ d, q6S P ⟨t, h, z, nx⟩ rv = some d ∧ k d := by
 cases rv with
 | tmp i => simp only [qor, Option.some.injEq] at hc; subst hc; simp only [qn5, q8O] at hw; exact ⟨t i, rfl, hw⟩
 | cell a ty =>
   simp only [qor] at hc
   split at hc
   ·rename_i ag n h1 h2
    cases hc
    simp only [qn5] at hw
    obtain ⟨d, h3, h4⟩ := qhi h1 h2 hw
    rw [q8O] at h4
    exact ⟨d, h3, h4⟩
   cases hc
theorem qqU {t : q0u} {h : q0f} {z : Frz} {nx : Nat} : ∀ {rs : List ResultVar} {ks : List KRes} {k : List D → Prop}, rs.mapM (qor P) = some ks → qkI t h ks k → ∃ l, rs.mapM (q6S P ⟨t, h, z, nx⟩) = some l ∧ k l := by
 intro rs
 induction rs with
 | nil => intro ks k hc hw; simp at hc; subst hc; exact ⟨[], rfl, hw⟩
 | cons r rs ih =>
   intro ks k hc hw
   simp only [List.mapM_cons] at hc
   cases hr : qor P r with
   | none => simp [hr] at hc
   | some kr =>
     cases hl : rs.mapM (qor P) with
     | none => simp [hr, hl] at hc
     | some krs =>
       simp [hr, hl] at hc
       subst hc
       simp only [qkI] at hw
       obtain ⟨d, h1, h2⟩ := qqT (z := z) (nx := nx) hr hw
       obtain ⟨l, h3, h4⟩ := ih hl h2
       exact ⟨d :: l, by simp [List.mapM_cons, h1, h3], h4⟩
theorem qcZ (hT : TOK P shared pl T) (hsh : qoN P shared pl sh) {p : Plan} {F : Func} {cd : Code} {fn : KFn} {args : List D} {h : q0f} {z : Frz} {nx : Nat} {k : D → q0f → Frz → Nat → Prop} (hb : F.body = some cd) (hc : cfn P p F = some fn)
 (hw : wp T sh nx fn.code (enter args) h z nx (qgt fn k)) : ∃ d h' z' nx', k d h' z' nx' ∧ Evt fun M => body P (EM P shared pl M) p F cd args h z nx = some (d, h', z', nx') := by
 simp only [cfn, hb] at hc
 split at hc
 ·rename_i kc ks h1 h2
  cases hc
  obtain ⟨ex, s', q1, e1⟩ := qsN hT hsh p cd kc h1 _ _ _ _ _ hw
  have fin' : qqO s'.tmps s'.heap ks (fun d => k d s'.heap s'.frz s'.next) → ∃ d, q71 P F s' = some d ∧ k d s'.heap s'.frz s'.next := by
   intro hr
   unfold qqO at hr
   obtain ⟨l, h3, h4⟩ := qqU (z := s'.frz) (nx := s'.next) h2 hr
   unfold q71
   have h3' : F.results.toList.mapM (q6S P s') = some l := h3
   rw [h3']
   split at h4
   ·rename_i d; exact ⟨d, rfl, h4⟩
   rename_i hne
   refine ⟨.tup l, ?_, h4⟩
   split
   ·rename_i d hd; cases hd; exact absurd rfl (hne d)
   ·rename_i l' _ hl; cases hl; rfl
   rename_i hl; cases hl
  cases ex with
  | exit i => exact q1.elim
  | normal =>
    obtain ⟨d, h5, h6⟩ := fin' q1
    exact ⟨d, _, _, _, h6, e1.mono fun M hM => by simp only [body, hM, h5]; rfl⟩
  | ret =>
    obtain ⟨d, h5, h6⟩ := fin' q1
    exact ⟨d, _, _, _, h6, e1.mono fun M hM => by simp only [body, hM, h5]; rfl⟩
 cases hc
theorem Evt.up {p : Nat → Prop} (h : Evt p) : Evt fun M => ∃ M', M = M' + 1 ∧ p M' := by
 obtain ⟨N, hN⟩ := h
 exact ⟨N + 1, fun M hM => ⟨M - 1, by omega, hN _ (by omega)⟩⟩
theorem qkL (hT : TOK P shared pl T) : ∀ n, qoN P shared pl (shr T n) := by
 intro n
 induction n with
 | zero => intro f args h z nx k hw; exact hw.elim
 | succ n ih =>
   intro f args h z nx k hw
   simp only [shr] at hw
   split at hw
   ·rename_i fn hf
    obtain ⟨F, cd, h1, h2, h3⟩ := hT.tab f fn hf
    obtain ⟨d, h', z', nx', q1, e1⟩ := qcZ hT ih h2 h3 hw
    refine ⟨d, h', z', nx', q1, e1.up.mono fun M hM => ?_⟩
    obtain ⟨M', rfl, hM'⟩ := hM
    simp only [EM, env, h1, h2]
    exact hM'
   exact hw.elim
theorem qoQ (hT : TOK P shared pl T) {f : FuncId} {fn : KFn} {args : List D} {r : D} (hf : T.tab f = some fn) (hw : wfun T fn args r) : Evt fun M => (EM P shared pl M).pure f args = some r := by
 obtain ⟨F, cd, h1, h2, h3⟩ := hT.tab f fn hf
 unfold wfun at hw
 obtain ⟨d, h', z', nx', q1, e1⟩ := qcZ hT (qkL hT 6) h2 h3 hw
 obtain ⟨d', h4, h5⟩ := qq0 q1
 subst h5
 refine e1.up.mono fun M hM => ?_
 obtain ⟨M', rfl, hM'⟩ := hM
 simp only [EM, env, h1, h2]
 have hM2 : body P (env P shared pl M') (pl f) F cd args empty qf9 0 = some (d, h', z', nx') := hM'
 rw [hM2]
 exact h4
end
open Classical in
noncomputable def PUof (P : Program) (shared : FuncId → Bool) (pl : FuncId → Plan) : Pure := fun f args =>
 if hx : ∃ r, Evt fun M => (EM P shared pl M).pure f args = some r then some (Classical.choose hx) else none
theorem qlO {P : Program} {shared : FuncId → Bool} {pl : FuncId → Plan} {f : FuncId} {args : List D} {r : D} (h : Evt fun M => (EM P shared pl M).pure f args = some r) : PUof P shared pl f args = some r := by
 unfold PUof
 have hx : ∃ r, Evt fun M => (EM P shared pl M).pure f args = some r := ⟨r, h⟩
 rw [dif_pos hx]
 obtain ⟨a, ha⟩ := Classical.choose_spec hx
 obtain ⟨b, hb⟩ := h
 have h1 := ha (max a b) (by omega)
 have h2 := hb (max a b) (by omega)
 exact h1.symm.trans h2
theorem qq1 {P : Program} {shared : FuncId → Bool} {pl : FuncId → Plan} {f : FuncId} {args : List D} {r : D} (h : PUof P shared pl f args = some r) : Evt fun M => (EM P shared pl M).pure f args = some r := by
 unfold PUof at h
 split at h
 ·rename_i hx
  have := Classical.choose_spec hx
  cases h
  exact this
 cases h
end Go.F
