/- Parts of the proof, part 15: Swap. -/
import Derived.Test.YtjjkgfikkihokaaGreatZ3
set_option linter.all false
namespace Go.F
theorem qia (t : q0z) (dst : Option Tmp) (v : D) (d : Nat) : put t dst v d = if dst = some d then v else t d := by
 cases dst with
 | none => simp [put]
 | some x =>
   simp only [put, q8D, Option.some.injEq]
   by_cases h : d = x
   ·simp [h]
   ·have h' : ¬ x = d := fun e => h e.symm
    simp [h, h']
theorem put_comm (t : q0z) {x y : Option Tmp} {v u : D} (h : ∀ d, x = some d → y ≠ some d) : put (put t x v) y u = put (put t y u) x v := by
 funext d
 simp only [qia]
 by_cases h1 : x = some d <;> by_cases h2 : y = some d <;> simp [h1, h2]
 exact absurd h2 (h d h1)
theorem apart_spec {ops : Array Oper} {x y : Oper} (h : apart ops x y = true) :
 (∀ d, x.dst = some d → d ∉ looks ops y) ∧ (∀ d, x.dst = some d → y.dst ≠ some d) ∧ (∀ d, y.dst = some d → d ∉ looks ops x) := by
 simp only [apart, Bool.and_eq_true] at h
 obtain ⟨h1, h2⟩ := h
 refine ⟨fun d hd => ?_, fun d hd => ?_, fun d hd => ?_⟩
 ·simp [hd] at h1; exact h1.1
 ·simp [hd] at h1; exact h1.2
 ·simp [hd] at h2; exact h2
theorem q8L {ops : Array Oper} {o : Oper} {t : q0z} {dst : Option Tmp} {v : D} (h : ∀ d, dst = some d → d ∉ looks ops o) :
 ∀ d ∈ looks ops o, put t dst v d = t d := by
 intro d hd
 rw [qia]
 split
 ·rename_i e; exact absurd hd (h d e)
 ·rfl
theorem qej {ops : Array Oper} {o : Oper} {t t' : q0z} (h : ∀ d ∈ looks ops o, t d = t' d) : ∀ x ∈ o.op.operands, ev t x = ev t' x := by
 intro x hx
 refine quB fun d hd => h d ?_
 simp only [looks, List.mem_append, List.mem_filterMap]
 exact .inl ⟨x, by simpa using hx, by simp [hd]⟩
theorem qh7 {ops : Array Oper} {o : Oper} {t t' : q0z} (h : ∀ d ∈ looks ops o, t d = t' d) : wanted t ops o = wanted t' ops o := by
 unfold wanted
 cases hg : o.guard with
 | none => rfl
 | some g =>
   obtain ⟨j, want⟩ := g
   simp only
   cases hd : (ops[j]?).bind (·.dst) with
   | none => rfl
   | some d =>
     simp only
     rw [h d (by simp [looks, hg, hd])]
theorem qg0 {E : Env} {o : Oper} {t t' : q0z} (h : ∀ x ∈ o.op.operands, ev t x = ev t' x) : q10 E o t = q10 E o t' := by
 unfold q10
 cases hop : o.op <;> simp only
 case call c =>
  rw [hop] at h
  simp only [Op.operands] at h
  cases hc : c.callee with
  | value f =>
    have h1 : c.args.toList.map (ev t) = c.args.toList.map (ev t') := q8u fun x hx => h x (by simp [Call.operands, Array.mem_toList_iff.1 hx])
    simp only
    rw [h f (by simp [Call.operands, hc]), h1]
  | invoke r m => rfl
  | builtin b => rfl
def core (P : Program) (E : Env) (draw : Bool) (ops : Array Oper) (o : Oper) (i : Nat) (base : Nat) (s : St) : Option (D × q0e × Frz × Nat) :=
 match wanted s.tmps ops o with
 | some true =>
   match q10 E o s.tmps with
   | some (f, args) => E.shar f args s.heap s.frz s.next
   | none =>
     match step P E.pure o s.tmps (q1M draw ops base i o s.heap) (q68 draw ops base i o s.frz) (base + i) with
     | some r => some (r.v, q0w s.heap r.hp, q0w s.frz r.fz, s.next)
     | none => none
 | some false => some (.tup [], s.heap, s.frz, s.next)
 | none => none
def fin (t : q0z) (dst : Option Tmp) (x : D × q0e × Frz × Nat) : St := ⟨put t dst x.1, x.2.1, x.2.2.1, x.2.2.2⟩
variable {P : Program} {E : Env} {draw : Bool} {ops : Array Oper} {base : Nat}
theorem q4p (o : Oper) (i : Nat) (s : St) : one P E draw ops o i base s = (core P E draw ops o i base s).map (fin s.tmps o.dst) := by
 unfold one core
 match wanted s.tmps ops o with
 | none => rfl
 | some false => rfl
 | some true =>
   simp only
   cases q10 E o s.tmps with
   | some x =>
     obtain ⟨f, args⟩ := x
     simp only
     cases E.shar f args s.heap s.frz s.next <;> rfl
   | none =>
     simp only
     cases step P E.pure o s.tmps (q1M draw ops base i o s.heap) (q68 draw ops base i o s.frz) (base + i) <;> rfl
theorem qll {o : Oper} {i : Nat} {s s' : St} (ht : ∀ d ∈ looks ops o, s.tmps d = s'.tmps d) (hh : s.heap = s'.heap) (hz : s.frz = s'.frz) (hn : s.next = s'.next) :
 core P E draw ops o i base s = core P E draw ops o i base s' := by
 unfold core
 rw [qh7 ht, qg0 (qej ht), qjA (qej ht), hh, hz, hn]
theorem qh8 {o : Oper} {t : q0z} (h : q3j E.shared o.op = false) : q10 E o t = none := by
 unfold q10
 cases hop : o.op <;> simp only
 case call c =>
  rw [hop] at h
  cases hc : c.callee with
  | value f =>
    cases f with
    | func f => simp [q3j, hc] at h; simp [ev, h]
    | tmp t => simp [q3j, hc] at h
    | const v => simp [q3j, hc] at h
    | global g => simp [q3j, hc] at h
  | invoke r m => rfl
  | builtin b => rfl
def act (P : Program) (E : Env) (draw : Bool) (ops : Array Oper) (o : Oper) (i : Nat) (base : Nat) (t : q0z) (h : q0e) (z : Frz) : Option Out :=
 match wanted t ops o with
 | some true => step P E.pure o t (q1M draw ops base i o h) (q68 draw ops base i o z) (base + i)
 | some false => some (out (.tup []))
 | none => none
theorem q81 {o : Oper} {i : Nat} {s : St} (hs : q3j E.shared o.op = false) :
 core P E draw ops o i base s = (act P E draw ops o i base s.tmps s.heap s.frz).map fun r => (r.v, q0w s.heap r.hp, q0w s.frz r.fz, s.next) := by
 unfold core act
 rw [qh8 hs]
 split
 ·cases step P E.pure o s.tmps (q1M draw ops base i o s.heap) (q68 draw ops base i o s.frz) (base + i) <;> rfl
 ·rfl
 ·rfl
theorem qeK {o : Oper} {i : Nat} {t t' : q0z} {h : q0e} {z : Frz} (ht : ∀ d ∈ looks ops o, t d = t' d) :
 act P E draw ops o i base t h z = act P E draw ops o i base t' h z := by
 unfold act
 rw [qh7 ht, qjA (qej ht)]
theorem wr_rd {o : Op} (h : q71 o = false) : qdw o = false := by
 cases o <;> simp [q71, qdw] at h ⊢
 rename_i c
 cases hc : c.callee with
 | value f => simp [hc] at h
 | invoke r m => simp
 | builtin b => cases b <;> simp [hc] at h ⊢
theorem q9t {o : Oper} {i : Nat} {h : q0e} {id : Nat} (hne : q1M true ops base i o h id ≠ none) : q6y ops base i o id = true := by
 simp only [q1M] at hne
 cases hk : q6y ops base i o id with
 | true => rfl
 | false => simp [hk] at hne
theorem qja {o : Oper} {i : Nat} {h : q0e} {id : Nat} (hk : q6y ops base i o id = true) : q0t (q1M true ops base i o h) id = q0t h id := by
 simp [q0t, q1M, hk]
theorem qjn {o : Oper} {i : Nat} {t : q0z} {h : q0e} {z : Frz} {r : Out} (hr : act P E true ops o i base t h z = some r) :
 (∀ p ∈ r.hp, (qdw o.op = true ∧ q6y ops base i o p.1 = true) ∨ (qcz o.op = true ∧ p.1 = base + i)) ∧
 (∀ p ∈ r.fz, (q71 o.op = true ∧ p.2 = q0t h p.1 ∧ q6y ops base i o p.1 = true) ∨ (qcz o.op = true ∧ p.1 = base + i)) := by
 unfold act at hr
 split at hr
 ·obtain ⟨h1, h2⟩ := quD hr
  exact ⟨fun p hp => (h1 p hp).imp (fun x => ⟨x.1, q9t x.2⟩) id, fun p hp => (h2 p hp).imp (fun x => ⟨x.1, x.2.1.trans (qja (q9t x.2.2)), q9t x.2.2⟩) id⟩
 ·simp at hr; subst hr; simp [out]
 ·cases hr
theorem q6Z (i : Nat) (o : Oper) {j : Nat} (hj : j < ops.size) : q6y ops base i o (base + j) = qih ops i o j := by
 unfold q6y qih
 cases q6L ops i o with
 | some a =>
   simp only
   by_cases h : j = a
   ·subst h; simp
   ·have h1 : Nat.beq (base + j) (base + a) = false := by
     cases hb : Nat.beq (base + j) (base + a) with
     | false => rfl
     | true => have := Nat.eq_of_beq_eq_true hb; omega
    have h2 : Nat.beq j a = false := by
     cases hb : Nat.beq j a with
     | false => rfl
     | true => exact absurd (Nat.eq_of_beq_eq_true hb) h
    rw [h1, h2]
 | none =>
   have h1 : Nat.blt (base + j) base = false := by
    cases hb : Nat.blt (base + j) base with
    | false => rfl
    | true => have := Nat.le_of_ble_eq_true hb; omega
   have h2 : base + j - base = j := by omega
   have h3 : Nat.ble (base + ops.size) (base + j) = false := by
    cases hb : Nat.ble (base + ops.size) (base + j) with
    | false => rfl
    | true => have := Nat.le_of_ble_eq_true hb; omega
   simp only [h1, h2, h3, Bool.false_or, Bool.or_false]
theorem qrY {a b : Nat} (h : Nat.beq a b = true) : a = b := Nat.eq_of_beq_eq_true h
theorem qib {i a : Nat} {o : Oper} (h : q6L ops i o = some a) : a < ops.size := by
 unfold q6L at h
 split at h
 ·have := List.find?_some h
  split at this
  ·rename_i x hx; exact (Array.getElem?_eq_some_iff.1 hx).1
  ·cases this
 ·cases h
theorem qax {j i : Nat} {oj oi : Oper} (h : qew ops j oj i oi = false) {id : Nat} (h1 : q6y ops base j oj id = true) : q6y ops base i oi id = false := by
 unfold qew at h
 cases hj : q6L ops j oj with
 | some a =>
   cases hi : q6L ops i oi with
   | some b =>
     simp only [hj, hi] at h
     simp only [q6y, hj] at h1
     have := qrY h1; subst this
     rw [q6Z _ _ (qib hj)]; simpa [qih, hi] using h
   | none =>
     simp only [hj, hi] at h
     simp only [q6y, hj] at h1
     have := qrY h1; subst this
     rw [q6Z _ _ (qib hj)]; exact h
 | none =>
   cases hi : q6L ops i oi with
   | some b =>
     simp only [hj, hi] at h
     cases hk : q6y ops base i oi id with
     | false => rfl
     | true =>
       simp only [q6y, hi] at hk
       have := qrY hk; subst this
       rw [q6Z _ _ (qib hi)] at h1; rw [h1] at h; cases h
   | none => simp [hj, hi] at h
theorem q9u {j i : Nat} {oj oi : Oper} (h : qew ops j oj i oi = false) {id : Nat} (h1 : q6y ops base i oi id = true) : q6y ops base j oj id = false := by
 cases hk : q6y ops base j oj id with
 | false => rfl
 | true => rw [qax h hk] at h1; cases h1
theorem qm4 {o : Oper} {i : Nat} {h : q0e} {l : List (Nat × Option Blk)} (hl : ∀ p ∈ l, q6y ops base i o p.1 = false) :
 q1M true ops base i o (q0w h l) = q1M true ops base i o h := by
 funext id
 simp only [q1M]
 cases hk : q6y ops base i o id with
 | false => rfl
 | true =>
   rw [q5L]
   intro p hp e
   rw [← e, hl p hp] at hk
   cases hk
theorem qm5 {o : Oper} {i : Nat} {z : Frz} {l : List (Nat × Nat)} (hl : ∀ p ∈ l, q6y ops base i o p.1 = false) :
 q68 true ops base i o (q0w z l) = q68 true ops base i o z := by
 funext id
 simp only [q68]
 cases hk : q6y ops base i o id with
 | false => rfl
 | true =>
   rw [q5L]
   intro p hp e
   rw [← e, hl p hp] at hk
   cases hk
theorem qcw {x y : Oper} {j i : Nat} {t tx : q0z} {h : q0e} {z : Frz} {r : Out} (hr : act P E true ops x j base tx h z = some r)
 (hw : qdw x.op = true → q71 y.op = true → ∀ id, q6y ops base j x id = true → q6y ops base i y id = false)
 (hz : q71 x.op = true → qdw y.op = true → ∀ id, q6y ops base j x id = true → q6y ops base i y id = false)
 (ha : qcz x.op = true → qih ops i y j = false) (hjs : j < ops.size) :
 act P E true ops y i base t (q0w h r.hp) (q0w z r.fz) = act P E true ops y i base t h z := by
 obtain ⟨h1, h2⟩ := qjn hr
 unfold act
 split
 ·cases hrd : q71 y.op with
  | false => exact qdn hrd
  | true =>
    rw [qm4]
    ·cases hwr : qdw y.op with
     | false => exact qnm hwr
     | true =>
       rw [qm5]
       intro p hp
       rcases h2 p hp with ⟨a, _, c⟩ | ⟨a, b⟩
       ·exact hz a hwr _ c
       ·rw [b, q6Z _ _ hjs]; exact ha a
    ·intro p hp
     rcases h1 p hp with ⟨a, c⟩ | ⟨a, b⟩
     ·exact hw a hrd _ c
     ·rw [b, q6Z _ _ hjs]; exact ha a
 ·rfl
 ·rfl
theorem qw6 {o : Oper} {i : Nat} {t : q0z} {h h' : q0e} {z z' : Frz} (hp : qj0 o.op = true) : act P E draw ops o i base t h z = act P E draw ops o i base t h' z' := by
 unfold act
 simp only [qj0, Bool.and_eq_true, Bool.not_eq_true'] at hp
 split
 ·exact qdn hp.1
 ·rfl
 ·rfl
theorem qlm {o : Oper} {i : Nat} {t : q0z} {h : q0e} {z : Frz} {r : Out} (hp : qj0 o.op = true) (hr : act P E true ops o i base t h z = some r) : r.hp = [] ∧ r.fz = [] := by
 simp only [qj0, Bool.and_eq_true, Bool.not_eq_true'] at hp
 obtain ⟨h1, h2⟩ := qjn hr
 have hw := wr_rd hp.1
 constructor
 ·cases hl : r.hp with
  | nil => rfl
  | cons p l => rcases h1 p (by simp [hl]) with ⟨a, _⟩ | ⟨a, _⟩ <;> simp_all
 ·cases hl : r.fz with
  | nil => rfl
  | cons p l => rcases h2 p (by simp [hl]) with ⟨a, _⟩ | ⟨a, _⟩ <;> simp_all
theorem qn7 {o : Op} {sh : FuncId → Bool} (h : qj0 o = true) : q3j sh o = false := by
 simp only [qj0, Bool.and_eq_true, Bool.not_eq_true'] at h
 cases o <;> simp [q3j]
 rename_i c
 cases hc : c.callee with
 | value f => simp [q71, hc] at h
 | invoke r m => simp
 | builtin b => simp
theorem qx6 {x y : Oper} {j i : Nat} {s s1 s2 : St} (hp : qj0 x.op = true) (hap : apart ops x y = true)
 (h1 : one P E true ops x j base s = some s1) (h2 : one P E true ops y i base s1 = some s2) :
 ∃ s1', one P E true ops y i base s = some s1' ∧ one P E true ops x j base s1' = some s2 := by
 obtain ⟨a1, a2, a3⟩ := apart_spec hap
 have hst := qn7 (sh := E.shared) hp
 rw [q4p, q81 hst] at h1
 cases hr : act P E true ops x j base s.tmps s.heap s.frz with
 | none => rw [hr] at h1; simp at h1
 | some r =>
   obtain ⟨e1, e2⟩ := qlm hp hr
   rw [hr] at h1
   simp only [Option.map_some, Option.some.injEq, e1, e2, q0w, fin] at h1
   subst h1
   rw [q4p] at h2
   rw [qll (s := ⟨put s.tmps x.dst r.v, s.heap, s.frz, s.next⟩) (s' := s) (q8L a1) rfl rfl rfl] at h2
   cases hc : core P E true ops y i base s with
   | none => rw [hc] at h2; simp at h2
   | some c =>
     rw [hc] at h2
     simp only [Option.map_some, Option.some.injEq, fin] at h2
     refine ⟨fin s.tmps y.dst c, by rw [q4p, hc]; rfl, ?_⟩
     rw [q4p, q81 hst]
     have : act P E true ops x j base (fin s.tmps y.dst c).tmps (fin s.tmps y.dst c).heap (fin s.tmps y.dst c).frz = some r := by
      simp only [fin]
      rw [qeK (t' := s.tmps) (q8L a3), qw6 hp (h' := s.heap) (z' := s.frz)]; exact hr
     rw [this]
     simp only [Option.map_some, e1, e2, q0w, fin, Option.some.injEq]
     rw [← h2, put_comm s.tmps (x := y.dst) (y := x.dst) (fun d hd e => a2 d e hd)]
theorem qw7 {x y : Oper} {j i : Nat} {s s1 s2 : St} (hp : qj0 y.op = true) (hap : apart ops x y = true)
 (h1 : one P E true ops x j base s = some s1) (h2 : one P E true ops y i base s1 = some s2) :
 ∃ s1', one P E true ops y i base s = some s1' ∧ one P E true ops x j base s1' = some s2 := by
 obtain ⟨a1, a2, a3⟩ := apart_spec hap
 have hst := qn7 (sh := E.shared) hp
 rw [q4p] at h1
 cases hc : core P E true ops x j base s with
 | none => rw [hc] at h1; simp at h1
 | some c =>
   rw [hc] at h1
   simp only [Option.map_some, Option.some.injEq] at h1
   subst h1
   rw [q4p, q81 hst] at h2
   have e : act P E true ops y i base (fin s.tmps x.dst c).tmps (fin s.tmps x.dst c).heap (fin s.tmps x.dst c).frz = act P E true ops y i base s.tmps s.heap s.frz := by
    simp only [fin]
    rw [qeK (t' := s.tmps) (q8L a1), qw6 hp (h' := s.heap) (z' := s.frz)]
   rw [e] at h2
   cases hr : act P E true ops y i base s.tmps s.heap s.frz with
   | none => rw [hr] at h2; simp at h2
   | some r =>
     obtain ⟨e1, e2⟩ := qlm hp hr
     rw [hr] at h2
     simp only [Option.map_some, Option.some.injEq, e1, e2, q0w, fin] at h2
     refine ⟨fin s.tmps y.dst (r.v, s.heap, s.frz, s.next), by rw [q4p, q81 hst, hr]; simp [e1, e2, q0w], ?_⟩
     rw [q4p, qll (s := fin s.tmps y.dst (r.v, s.heap, s.frz, s.next)) (s' := s) (q8L a3) rfl rfl rfl, hc]
     simp only [Option.map_some, fin, Option.some.injEq]
     rw [← h2, put_comm s.tmps (x := y.dst) (y := x.dst) (fun d hd e => a2 d e hd)]
theorem swap {x y : Oper} {j i : Nat} {s s1 s2 : St} (hji : j ≠ i) (hjs : j < ops.size) (his : i < ops.size) (hin : qoY E.shared ops j x i y = true)
 (h1 : one P E true ops x j base s = some s1) (h2 : one P E true ops y i base s1 = some s2) :
 ∃ s1', one P E true ops y i base s = some s1' ∧ one P E true ops x j base s1' = some s2 := by
 simp only [qoY, Bool.and_eq_true, Bool.not_eq_true', Bool.and_eq_false_imp, Bool.or_eq_false_iff] at hin
 obtain ⟨⟨⟨⟨⟨hap, hs1⟩, hs2⟩, hov⟩, hal1⟩, hal2⟩ := hin
 by_cases hpx : qj0 x.op = true
 ·exact qx6 hpx hap h1 h2
 by_cases hpy : qj0 y.op = true
 ·exact qw7 hpy hap h1 h2
 have hsx : q3j E.shared x.op = false := by
  cases h : q3j E.shared x.op with
  | false => rfl
  | true => have := hs1 h; simp at this; exact absurd this hpy
 have hsy : q3j E.shared y.op = false := by
  cases h : q3j E.shared y.op with
  | false => rfl
  | true => have := hs2 h; simp at this; exact absurd this hpx
 obtain ⟨a1, a2, a3⟩ := apart_spec hap
 have hxy : ∀ {w1 w2 : Bool}, w1 = true → w2 = true → ((w1 = qdw x.op ∧ w2 = q71 y.op) ∨ (w1 = qdw y.op ∧ w2 = q71 x.op)) → qew ops j x i y = false := by
  intro w1 w2 e1 e2 h
  cases hv : qew ops j x i y with
  | false => rfl
  | true =>
    obtain ⟨p, q⟩ := hov hv
    rcases h with ⟨rfl, rfl⟩ | ⟨rfl, rfl⟩
    ·rw [p e1] at e2; cases e2
    ·rw [q e1] at e2; cases e2
 rw [q4p, q81 hsx] at h1
 cases hr : act P E true ops x j base s.tmps s.heap s.frz with
 | none => rw [hr] at h1; simp at h1
 | some r =>
   rw [hr] at h1
   simp only [Option.map_some, Option.some.injEq, fin] at h1
   subst h1
   rw [q4p, q81 hsy] at h2
   simp only at h2
   rw [qeK (t' := s.tmps) (q8L a1),
    qcw hr (fun e1 e2 id => qax (hxy e1 e2 (.inl ⟨rfl, rfl⟩))) (fun e1 e2 id => qax (hxy e2 e1 (.inr ⟨rfl, rfl⟩))) hal1 hjs] at h2
   cases hq : act P E true ops y i base s.tmps s.heap s.frz with
   | none => rw [hq] at h2; simp at h2
   | some q =>
     rw [hq] at h2
     simp only [Option.map_some, Option.some.injEq, fin] at h2
     refine ⟨⟨put s.tmps y.dst q.v, q0w s.heap q.hp, q0w s.frz q.fz, s.next⟩, by rw [q4p, q81 hsy, hq]; rfl, ?_⟩
     rw [q4p, q81 hsx]
     simp only
     rw [qeK (t' := s.tmps) (q8L a3),
      qcw hq (fun e1 e2 id => q9u (hxy e1 e2 (.inr ⟨rfl, rfl⟩))) (fun e1 e2 id => q9u (hxy e2 e1 (.inl ⟨rfl, rfl⟩))) hal2 his, hr]
     simp only [Option.map_some, fin, Option.some.injEq]
     rw [← h2, put_comm s.tmps (x := y.dst) (y := x.dst) (fun d hd e => a2 d e hd)]
     obtain ⟨f1, f2⟩ := qjn hr
     obtain ⟨g1, g2⟩ := qjn hq
     have eh : q0w (q0w s.heap q.hp) r.hp = q0w (q0w s.heap r.hp) q.hp := by
      refine qif _ _ _ fun p hp' p' hp'' => .inl fun e => ?_
      rcases g1 p hp' with ⟨b1, b2⟩ | ⟨b1, b2⟩ <;> rcases f1 p' hp'' with ⟨c1, c2⟩ | ⟨c1, c2⟩
      ·have hrd : q71 x.op = true := by
        cases hx : q71 x.op with
        | true => rfl
        | false => rw [wr_rd hx] at c1; cases c1
       rw [← e, q9u (hxy b1 hrd (.inr ⟨rfl, rfl⟩)) b2] at c2; cases c2
      ·rw [e, c2, q6Z _ _ hjs, hal1 c1] at b2; cases b2
      ·rw [← e, b2, q6Z _ _ his, hal2 b1] at c2; cases c2
      ·omega
     have ez : q0w (q0w s.frz q.fz) r.fz = q0w (q0w s.frz r.fz) q.fz := by
      refine qif _ _ _ fun p hp' p' hp'' => ?_
      rcases g2 p hp' with ⟨b1, b3, b2⟩ | ⟨b1, b2⟩ <;> rcases f2 p' hp'' with ⟨c1, c3, c2⟩ | ⟨c1, c2⟩
      ·by_cases e : p.1 = p'.1
       ·exact .inr (by rw [b3, c3, e])
       ·exact .inl e
      ·refine .inl fun e => ?_
       rw [e, c2, q6Z _ _ hjs, hal1 c1] at b2; cases b2
      ·refine .inl fun e => ?_
       rw [← e, b2, q6Z _ _ his, hal2 b1] at c2; cases c2
      ·refine .inl fun e => ?_
       omega
     rw [eh, ez]
end Go.F
