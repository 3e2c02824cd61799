/- Parts of the proof, part 15: Swap. -/
import Derived.Test.YtdhpbljlnlpibaaGreatZ3
set_option linter.all false
namespace Go.F
theorem qgN (t : q0u) (dst : Option Tmp) (v : D) (d : Nat) : put t dst v d = if dst = some d then v else t d := by
 cases dst with
 | none => simp [put]
 | some x =>
   simp only [put, q7Q, Option.some.injEq]
   by_cases h : d = x
   ·simp [h]
   have h' : ¬ x = d := fun e => h e.symm
   simp [h, h']
theorem put_comm (t : q0u) {x y : Option Tmp} {v u : D} (h : ∀ d, x = some d → y ≠ some d) : put (put t x v) y u = put (put t y u) x v := by
 funext d
 simp only [qgN]
 by_cases h1 : x = some d <;> by_cases h2 : y = some d <;> simp [h1, h2]
 exact absurd h2 (h d h1)
theorem apart_spec {ops : Array Oper} {x y : Oper} (h : apart ops x y = true) :
 (∀ d, x.dst = some d → d ∉ looks ops y) ∧ (∀ d, x.dst = some d → y.dst ≠ some d) ∧ (∀ d, y.dst = some d → d ∉ looks ops x) := by
 simp only [apart, Bool.and_eq_true] at h
 obtain ⟨h1, h2⟩ := h
 refine ⟨fun d hd => ?_, fun d hd => ?_, fun d hd => ?_⟩
 ·simp [hd] at h1; exact h1.1
 ·simp [hd] at h1; exact h1.2
 simp [hd] at h2; exact h2
theorem q7Y {ops : Array Oper} {o : Oper} {t : q0u} {dst : Option Tmp} {v : D} (h : ∀ d, dst = some d → d ∉ looks ops o) :
 ∀ d ∈ looks ops o, put t dst v d = t d := by
 intro d hd
 rw [qgN]
 split
 ·rename_i e; exact absurd hd (h d e)
 rfl
theorem qdi {ops : Array Oper} {o : Oper} {t t' : q0u} (h : ∀ d ∈ looks ops o, t d = t' d) : ∀ x ∈ o.op.operands, ev t x = ev t' x := by
 intro x hx
 refine qsg fun d hd => h d ?_
 simp only [looks, List.mem_append, List.mem_filterMap]
 exact .inl ⟨x, by simpa using hx, by simp [hd]⟩
theorem qfY {ops : Array Oper} {o : Oper} {t t' : q0u} (h : ∀ d ∈ looks ops o, t d = t' d) : wanted t ops o = wanted t' ops o := by
 unfold wanted
 cases hg : o.guard with
 | none => rfl
 | some g =>
   obtain ⟨j, want⟩ := g
   simp only
   cases hd : (ops[j]?).bind (·.dst) with
   | none => rfl
   | some d =>
     simp only
     rw [h d (by simp [looks, hg, hd])]
theorem qeN {E : Env} {o : Oper} {t t' : q0u} (h : ∀ x ∈ o.op.operands, ev t x = ev t' x) : q0P E o t = q0P E o t' := by
 unfold q0P
 cases hop : o.op <;> simp only
 case call c =>
  rw [hop] at h
  simp only [Op.operands] at h
  have h1 : c.args.toList.map (ev t) = c.args.toList.map (ev t') := q7F fun x hx => h x (by simp [Call.operands, Array.mem_toList_iff.1 hx])
  rw [h1]
def core (P : Program) (E : Env) (draw : Bool) (ops : Array Oper) (o : Oper) (i : Nat) (base : Nat) (s : St) : Option (D × q0f × Frz × Nat) :=
 match wanted s.tmps ops o with
 | some true =>
   match q0P E o s.tmps with
   | some (f, args) => E.shar f args s.heap s.frz s.next
   | none =>
     match step P E.pure o s.tmps (q1r draw ops base i o s.heap) (q5m draw ops base i o s.frz) (base + i) with
     | some r => some (r.v, q0t s.heap r.hp, q0t s.frz r.fz, s.next)
     | none => none
 | some false => some (.tup [], s.heap, s.frz, s.next)
 | none => none
def fin (t : q0u) (dst : Option Tmp) (x : D × q0f × Frz × Nat) : St := ⟨put t dst x.1, x.2.1, x.2.2.1, x.2.2.2⟩
variable {P : Program} {E : Env} {draw : Bool} {ops : Array Oper} {base : Nat}
theorem q3K (o : Oper) (i : Nat) (s : St) : one P E draw ops o i base s = (core P E draw ops o i base s).map (fin s.tmps o.dst) := by
 unfold one core
 match wanted s.tmps ops o with
 | none => rfl
 | some false => rfl
 | some true =>
   simp only
   cases q0P E o s.tmps with
   | some x =>
     obtain ⟨f, args⟩ := x
     simp only
     cases E.shar f args s.heap s.frz s.next <;> rfl
   | none =>
     simp only
     cases step P E.pure o s.tmps (q1r draw ops base i o s.heap) (q5m draw ops base i o s.frz) (base + i) <;> rfl
theorem qjP {o : Oper} {i : Nat} {s s' : St} (ht : ∀ d ∈ looks ops o, s.tmps d = s'.tmps d) (hh : s.heap = s'.heap) (hz : s.frz = s'.frz) (hn : s.next = s'.next) :
 core P E draw ops o i base s = core P E draw ops o i base s' := by
 unfold core
 rw [qfY ht, qeN (qdi ht), qis (qdi ht), hh, hz, hn]
theorem qfZ {o : Oper} {t : q0u} (h : q46 E.shared o.op = false) : q0P E o t = none := by
 unfold q0P
 cases hop : o.op <;> simp only
 case call c =>
  rw [hop] at h
  cases hc : c.callee with
  | value f =>
    cases f with
    | func f => simp [q46, hc] at h; simp [h]
    | tmp t => rfl
    | const v => rfl
    | global g => rfl
  | invoke r m => rfl
  | builtin b => rfl
def act (P : Program) (E : Env) (draw : Bool) (ops : Array Oper) (o : Oper) (i : Nat) (base : Nat) (t : q0u) (h : q0f) (z : Frz) : Option Out :=
 match wanted t ops o with
 | some true => step P E.pure o t (q1r draw ops base i o h) (q5m draw ops base i o z) (base + i)
 | some false => some (out (.tup []))
 | none => none
theorem q7c {o : Oper} {i : Nat} {s : St} (hs : q46 E.shared o.op = false) :
 core P E draw ops o i base s = (act P E draw ops o i base s.tmps s.heap s.frz).map fun r => (r.v, q0t s.heap r.hp, q0t s.frz r.fz, s.next) := by
 unfold core act
 rw [qfZ hs]
 split
 ·cases step P E.pure o s.tmps (q1r draw ops base i o s.heap) (q5m draw ops base i o s.frz) (base + i) <;> rfl
 ·rfl
 rfl
theorem qdH {o : Oper} {i : Nat} {t t' : q0u} {h : q0f} {z : Frz} (ht : ∀ d ∈ looks ops o, t d = t' d) :
 act P E draw ops o i base t h z = act P E draw ops o i base t' h z := by
 unfold act
 rw [qfY ht, qis (qdi ht)]
theorem wr_rd {o : Op} (h : q6g o = false) : qct o = false := by
 cases o <;> simp [q6g, qct] at h ⊢
 rename_i c
 cases hc : c.callee with
 | value f => simp [hc] at h
 | invoke r m => simp
 | builtin b => cases b <;> simp [hc] at h ⊢
theorem q8S {o : Oper} {i : Nat} {h : q0f} {id : Nat} (hne : q1r true ops base i o h id ≠ none) : q5H ops base i o id = true := by
 simp only [q1r] at hne
 cases hk : q5H ops base i o id with
 | true => rfl
 | false => simp [hk] at hne
theorem qhZ {o : Oper} {i : Nat} {h : q0f} {id : Nat} (hk : q5H ops base i o id = true) : q0n (q1r true ops base i o h) id = q0n h id := by
 simp [q0n, q1r, hk]
theorem qib {o : Oper} {i : Nat} {t : q0u} {h : q0f} {z : Frz} {r : Out} (hr : act P E true ops o i base t h z = some r) :
 (∀ p ∈ r.hp, (qct o.op = true ∧ q5H ops base i o p.1 = true) ∨ (qbH o.op = true ∧ p.1 = base + i)) ∧
 (∀ p ∈ r.fz, (q6g o.op = true ∧ p.2 = q0n h p.1 ∧ q5H ops base i o p.1 = true) ∨ (qbH o.op = true ∧ p.1 = base + i)) := by
 unfold act at hr
 split at hr
 ·obtain ⟨h1, h2⟩ := qsi hr
  exact ⟨fun p hp => (h1 p hp).imp (fun x => ⟨x.1, q8S x.2⟩) id, fun p hp => (h2 p hp).imp (fun x => ⟨x.1, x.2.1.trans (qhZ (q8S x.2.2)), q8S x.2.2⟩) id⟩
 ·simp at hr; subst hr; simp [out]
 cases hr
theorem q6f (i : Nat) (o : Oper) {j : Nat} (hj : j < ops.size) : q5H ops base i o (base + j) = qgY ops i o j := by
 unfold q5H qgY
 cases q5W ops i o with
 | some a =>
   simp only
   by_cases h : j = a
   ·subst h; simp
   have h1 : Nat.beq (base + j) (base + a) = false := by
    cases hb : Nat.beq (base + j) (base + a) with
    | false => rfl
    | true => have := Nat.eq_of_beq_eq_true hb; omega
   have h2 : Nat.beq j a = false := by
    cases hb : Nat.beq j a with
    | false => rfl
    | true => exact absurd (Nat.eq_of_beq_eq_true hb) h
   rw [h1, h2]
 | none =>
   have h1 : Nat.blt (base + j) base = false := by
    cases hb : Nat.blt (base + j) base with
    | false => rfl
    | true => have := Nat.le_of_ble_eq_true hb; omega
   have h2 : base + j - base = j := by omega
   have h3 : Nat.ble (base + ops.size) (base + j) = false := by
    cases hb : Nat.ble (base + ops.size) (base + j) with
    | false => rfl
    | true => have := Nat.le_of_ble_eq_true hb; omega
   simp only [h1, h2, h3, Bool.false_or, Bool.or_false]
theorem qpI {a b : Nat} (h : Nat.beq a b = true) : a = b := Nat.eq_of_beq_eq_true h
theorem qgO {i a : Nat} {o : Oper} (h : q5W ops i o = some a) : a < ops.size := by
 unfold q5W at h
 split at h
 ·have := List.find?_some h
  split at this
  ·rename_i x hx; exact (Array.getElem?_eq_some_iff.1 hx).1
  cases this
 ·split at h
  ·have := List.find?_some h
   split at this
   ·rename_i x hx; exact (Array.getElem?_eq_some_iff.1 hx).1
   cases this
  cases h
 cases h
theorem q9T {j i : Nat} {oj oi : Oper} (h : qdm ops j oj i oi = false) {id : Nat} (h1 : q5H ops base j oj id = true) : q5H ops base i oi id = false := by
 unfold qdm at h
 cases hj : q5W ops j oj with
 | some a =>
   cases hi : q5W ops i oi with
   | some b =>
     simp only [hj, hi] at h
     simp only [q5H, hj] at h1
     have := qpI h1; subst this
     rw [q6f _ _ (qgO hj)]; simpa [qgY, hi] using h
   | none =>
     simp only [hj, hi] at h
     simp only [q5H, hj] at h1
     have := qpI h1; subst this
     rw [q6f _ _ (qgO hj)]; exact h
 | none =>
   cases hi : q5W ops i oi with
   | some b =>
     simp only [hj, hi] at h
     cases hk : q5H ops base i oi id with
     | false => rfl
     | true =>
       simp only [q5H, hi] at hk
       have := qpI hk; subst this
       rw [q6f _ _ (qgO hi)] at h1; rw [h1] at h; cases h
   | none => simp [hj, hi] at h
theorem q8T {j i : Nat} {oj oi : Oper} (h : qdm ops j oj i oi = false) {id : Nat} (h1 : q5H ops base i oi id = true) : q5H ops base j oj id = false := by
 cases hk : q5H ops base j oj id with
 | false => rfl
 | true => rw [q9T h hk] at h1; cases h1
theorem qkn {o : Oper} {i : Nat} {h : q0f} {l : List (Nat × Option Blk)} (hl : ∀ p ∈ l, q5H ops base i o p.1 = false) :
 q1r true ops base i o (q0t h l) = q1r true ops base i o h := by
 funext id
 simp only [q1r]
 cases hk : q5H ops base i o id with
 | false => rfl
 | true =>
   rw [q4U]
   intro p hp e
   rw [← e, hl p hp] at hk
   cases hk
theorem qko {o : Oper} {i : Nat} {z : Frz} {l : List (Nat × Nat)} (hl : ∀ p ∈ l, q5H ops base i o p.1 = false) :
 q5m true ops base i o (q0t z l) = q5m true ops base i o z := by
 funext id
 simp only [q5m]
 cases hk : q5H ops base i o id with
 | false => rfl
 | true =>
   rw [q4U]
   intro p hp e
   rw [← e, hl p hp] at hk
   cases hk
theorem qbE {x y : Oper} {j i : Nat} {t tx : q0u} {h : q0f} {z : Frz} {r : Out} (hr : act P E true ops x j base tx h z = some r)
 (hw : qct x.op = true → q6g y.op = true → ∀ id, q5H ops base j x id = true → q5H ops base i y id = false)
 (hz : q6g x.op = true → qct y.op = true → ∀ id, q5H ops base j x id = true → q5H ops base i y id = false)
 (ha : qbH x.op = true → qgY ops i y j = false) (hjs : j < ops.size) :
 act P E true ops y i base t (q0t h r.hp) (q0t z r.fz) = act P E true ops y i base t h z := by
 obtain ⟨h1, h2⟩ := qib hr
 unfold act
 split
 ·cases hrd : q6g y.op with
  | false => exact qcr hrd
  | true =>
    rw [qkn]
    ·cases hwr : qct y.op with
     | false => exact qlp hwr
     | true =>
       rw [qko]
       intro p hp
       rcases h2 p hp with ⟨a, _, c⟩ | ⟨a, b⟩
       ·exact hz a hwr _ c
       rw [b, q6f _ _ hjs]; exact ha a
    intro p hp
    rcases h1 p hp with ⟨a, c⟩ | ⟨a, b⟩
    ·exact hw a hrd _ c
    rw [b, q6f _ _ hjs]; exact ha a
 ·rfl
 rfl
theorem qtO {o : Oper} {i : Nat} {t : q0u} {h h' : q0f} {z z' : Frz} (hp : qhK o.op = true) : act P E draw ops o i base t h z = act P E draw ops o i base t h' z' := by
 unfold act
 simp only [qhK, Bool.and_eq_true, Bool.not_eq_true'] at hp
 split
 ·exact qcr hp.1
 ·rfl
 rfl
theorem qjQ {o : Oper} {i : Nat} {t : q0u} {h : q0f} {z : Frz} {r : Out} (hp : qhK o.op = true) (hr : act P E true ops o i base t h z = some r) : r.hp = [] ∧ r.fz = [] := by
 simp only [qhK, Bool.and_eq_true, Bool.not_eq_true'] at hp
 obtain ⟨h1, h2⟩ := qib hr
 have hw := wr_rd hp.1
 constructor
 ·cases hl : r.hp with
  | nil => rfl
  | cons p l => rcases h1 p (by simp [hl]) with ⟨a, _⟩ | ⟨a, _⟩ <;> simp_all
 cases hl : r.fz with
 | nil => rfl
 | cons p l => rcases h2 p (by simp [hl]) with ⟨a, _⟩ | ⟨a, _⟩ <;> simp_all
theorem qlj {o : Op} {sh : FuncId → Bool} (h : qhK o = true) : q46 sh o = false := by
 simp only [qhK, Bool.and_eq_true, Bool.not_eq_true'] at h
 cases o <;> simp [q46]
 rename_i c
 cases hc : c.callee with
 | value f => simp [q6g, hc] at h
 | invoke r m => simp
 | builtin b => simp
theorem quT {x y : Oper} {j i : Nat} {s s1 s2 : St} (hp : qhK x.op = true) (hap : apart ops x y = true)
 (h1 : one P E true ops x j base s = some s1) (h2 : one P E true ops y i base s1 = some s2) :
 ∃ s1', one P E true ops y i base s = some s1' ∧ one P E true ops x j base s1' = some s2 := by
 obtain ⟨a1, a2, a3⟩ := apart_spec hap
 have hst := qlj (sh := E.shared) hp
 rw [q3K, q7c hst] at h1
 cases hr : act P E true ops x j base s.tmps s.heap s.frz with
 | none => rw [hr] at h1; simp at h1
 | some r =>
   obtain ⟨e1, e2⟩ := qjQ hp hr
   rw [hr] at h1
   simp only [Option.map_some, Option.some.injEq, e1, e2, q0t, fin] at h1
   subst h1
   rw [q3K] at h2
   rw [qjP (s := ⟨put s.tmps x.dst r.v, s.heap, s.frz, s.next⟩) (s' := s) (q7Y a1) rfl rfl rfl] at h2
   cases hc : core P E true ops y i base s with
   | none => rw [hc] at h2; simp at h2
   | some c =>
     rw [hc] at h2
     simp only [Option.map_some, Option.some.injEq, fin] at h2
     refine ⟨fin s.tmps y.dst c, by rw [q3K, hc]; rfl, ?_⟩
     rw [q3K, q7c hst]
     have : act P E true ops x j base (fin s.tmps y.dst c).tmps (fin s.tmps y.dst c).heap (fin s.tmps y.dst c).frz = some r := by
      simp only [fin]
      rw [qdH (t' := s.tmps) (q7Y a3), qtO hp (h' := s.heap) (z' := s.frz)]; exact hr
     rw [this]
     simp only [Option.map_some, e1, e2, q0t, fin, Option.some.injEq]
     rw [← h2, put_comm s.tmps (x := y.dst) (y := x.dst) (fun d hd e => a2 d e hd)]
theorem qtP {x y : Oper} {j i : Nat} {s s1 s2 : St} (hp : qhK y.op = true) (hap : apart ops x y = true)
 (h1 : one P E true ops x j base s = some s1) (h2 : one P E true ops y i base s1 = some s2) :
 ∃ s1', one P E true ops y i base s = some s1' ∧ one P E true ops x j base s1' = some s2 := by
 obtain ⟨a1, a2, a3⟩ := apart_spec hap
 have hst := qlj (sh := E.shared) hp
 rw [q3K] at h1
 cases hc : core P E true ops x j base s with
 | none => rw [hc] at h1; simp at h1
 | some c =>
   rw [hc] at h1
   simp only [Option.map_some, Option.some.injEq] at h1
   subst h1
   rw [q3K, q7c hst] at h2
   have e : act P E true ops y i base (fin s.tmps x.dst c).tmps (fin s.tmps x.dst c).heap (fin s.tmps x.dst c).frz = act P E true ops y i base s.tmps s.heap s.frz := by
    simp only [fin]
    rw [qdH (t' := s.tmps) (q7Y a1), qtO hp (h' := s.heap) (z' := s.frz)]
   rw [e] at h2
   cases hr : act P E true ops y i base s.tmps s.heap s.frz with
   | none => rw [hr] at h2; simp at h2
   | some r =>
     obtain ⟨e1, e2⟩ := qjQ hp hr
     rw [hr] at h2
     simp only [Option.map_some, Option.some.injEq, e1, e2, q0t, fin] at h2
     refine ⟨fin s.tmps y.dst (r.v, s.heap, s.frz, s.next), by rw [q3K, q7c hst, hr]; simp [e1, e2, q0t], ?_⟩
     rw [q3K, qjP (s := fin s.tmps y.dst (r.v, s.heap, s.frz, s.next)) (s' := s) (q7Y a3) rfl rfl rfl, hc]
     simp only [Option.map_some, fin, Option.some.injEq]
     rw [← h2, put_comm s.tmps (x := y.dst) (y := x.dst) (fun d hd e => a2 d e hd)]
theorem swap {x y : Oper} {j i : Nat} {s s1 s2 : St} (hji : j ≠ i) (hjs : j < ops.size) (his : i < ops.size) (hin : qmO E.shared ops j x i y = true)
 (h1 : one P E true ops x j base s = some s1) (h2 : one P E true ops y i base s1 = some s2) :
 ∃ s1', one P E true ops y i base s = some s1' ∧ one P E true ops x j base s1' = some s2 := by
 simp only [qmO, Bool.and_eq_true, Bool.not_eq_true', Bool.and_eq_false_imp, Bool.or_eq_false_iff] at hin
 obtain ⟨⟨⟨⟨⟨hap, hs1⟩, hs2⟩, hov⟩, hal1⟩, hal2⟩ := hin
 by_cases hpx : qhK x.op = true
 ·exact quT hpx hap h1 h2
 by_cases hpy : qhK y.op = true
 ·exact qtP hpy hap h1 h2
 have hsx : q46 E.shared x.op = false := by
  cases h : q46 E.shared x.op with
  | false => rfl
  | true => have := hs1 h; simp at this; exact absurd this hpy
 have hsy : q46 E.shared y.op = false := by
  cases h : q46 E.shared y.op with
  | false => rfl
  | true => have := hs2 h; simp at this; exact absurd this hpx
 obtain ⟨a1, a2, a3⟩ := apart_spec hap
 have hxy : ∀ {w1 w2 : Bool}, w1 = true → w2 = true → ((w1 = qct x.op ∧ w2 = q6g y.op) ∨ (w1 = qct y.op ∧ w2 = q6g x.op)) → qdm ops j x i y = false := by
  intro w1 w2 e1 e2 h
  cases hv : qdm ops j x i y with
  | false => rfl
  | true =>
    obtain ⟨p, q⟩ := hov hv
    rcases h with ⟨rfl, rfl⟩ | ⟨rfl, rfl⟩
    ·rw [p e1] at e2; cases e2
    rw [q e1] at e2; cases e2
 rw [q3K, q7c hsx] at h1
 cases hr : act P E true ops x j base s.tmps s.heap s.frz with
 | none => rw [hr] at h1; simp at h1
 | some r =>
   rw [hr] at h1
   simp only [Option.map_some, Option.some.injEq, fin] at h1
   subst h1
   rw [q3K, q7c hsy] at h2
   simp only at h2
   rw [qdH (t' := s.tmps) (q7Y a1),
    qbE hr (fun e1 e2 id => q9T (hxy e1 e2 (.inl ⟨rfl, rfl⟩))) (fun e1 e2 id => q9T (hxy e2 e1 (.inr ⟨rfl, rfl⟩))) hal1 hjs] at h2
   cases hq : act P E true ops y i base s.tmps s.heap s.frz with
   | none => rw [hq] at h2; simp at h2
   | some q =>
     rw [hq] at h2
     simp only [Option.map_some, Option.some.injEq, fin] at h2
     refine ⟨⟨put s.tmps y.dst q.v, q0t s.heap q.hp, q0t s.frz q.fz, s.next⟩, by rw [q3K, q7c hsy, hq]; rfl, ?_⟩
     rw [q3K, q7c hsx]
     simp only
     rw [qdH (t' := s.tmps) (q7Y a3),
      qbE hq (fun e1 e2 id => q8T (hxy e1 e2 (.inr ⟨rfl, rfl⟩))) (fun e1 e2 id => q8T (hxy e2 e1 (.inl ⟨rfl, rfl⟩))) hal2 his, hr]
     simp only [Option.map_some, fin, Option.some.injEq]
     rw [← h2, put_comm s.tmps (x := y.dst) (y := x.dst) (fun d hd e => a2 d e hd)]
     obtain ⟨f1, f2⟩ := qib hr
     obtain ⟨g1, g2⟩ := qib hq
     have eh : q0t (q0t s.heap q.hp) r.hp = q0t (q0t s.heap r.hp) q.hp := by
      refine qgW _ _ _ fun p hp' p' hp'' => .inl fun e => ?_
      rcases g1 p hp' with ⟨b1, b2⟩ | ⟨b1, b2⟩ <;> rcases f1 p' hp'' with ⟨c1, c2⟩ | ⟨c1, c2⟩
      ·have hrd : q6g x.op = true := by
        cases hx : q6g x.op with
        | true => rfl
        | false => rw [wr_rd hx] at c1; cases c1
       rw [← e, q8T (hxy b1 hrd (.inr ⟨rfl, rfl⟩)) b2] at c2; cases c2
      ·rw [e, c2, q6f _ _ hjs, hal1 c1] at b2; cases b2
      ·rw [← e, b2, q6f _ _ his, hal2 b1] at c2; cases c2
      omega
     have ez : q0t (q0t s.frz q.fz) r.fz = q0t (q0t s.frz r.fz) q.fz := by
      refine qgW _ _ _ fun p hp' p' hp'' => ?_
      rcases g2 p hp' with ⟨b1, b3, b2⟩ | ⟨b1, b2⟩ <;> rcases f2 p' hp'' with ⟨c1, c3, c2⟩ | ⟨c1, c2⟩
      ·by_cases e : p.1 = p'.1
       ·exact .inr (by rw [b3, c3, e])
       exact .inl e
      ·refine .inl fun e => ?_
       rw [e, c2, q6f _ _ hjs, hal1 c1] at b2; cases b2
      ·refine .inl fun e => ?_
       rw [← e, b2, q6f _ _ his, hal2 b1] at c2; cases c2
      refine .inl fun e => ?_
      omega
     rw [eh, ez]
end Go.F
