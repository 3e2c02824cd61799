/- Parts of the proof, part 15: Swap. -/
import Derived.Test.YtjjkgfikkihokaaZ3
set_option linter.all false
/- The F machine: two operations that the static look calls independent may be swapped. -/
namespace Go.F

theorem put_apply (t : Tmps) (dst : Option Tmp) (v : D) (d : Nat) : put t dst v d = if dst = some d then v else t d := by
  cases dst with
  | none => simp [put]
  | some x =>
    simp only [put, upd_apply, Option.some.injEq]
    by_cases h : d = x
    · simp [h]
    · have h' : ¬ x = d := fun e => h e.symm
      simp [h, h']

theorem put_comm (t : Tmps) {x y : Option Tmp} {v u : D} (h : ∀ d, x = some d → y ≠ some d) : put (put t x v) y u = put (put t y u) x v := by
  funext d
  simp only [put_apply]
  by_cases h1 : x = some d <;> by_cases h2 : y = some d <;> simp [h1, h2]
  exact absurd h2 (h d h1)

theorem apart_spec {ops : Array Oper} {x y : Oper} (h : apart ops x y = true) :
    (∀ d, x.dst = some d → d ∉ looks ops y) ∧ (∀ d, x.dst = some d → y.dst ≠ some d) ∧ (∀ d, y.dst = some d → d ∉ looks ops x) := by
  simp only [apart, Bool.and_eq_true] at h
  obtain ⟨h1, h2⟩ := h
  refine ⟨fun d hd => ?_, fun d hd => ?_, fun d hd => ?_⟩
  · simp [hd] at h1; exact h1.1
  · simp [hd] at h1; exact h1.2
  · simp [hd] at h2; exact h2

theorem agree_put {ops : Array Oper} {o : Oper} {t : Tmps} {dst : Option Tmp} {v : D} (h : ∀ d, dst = some d → d ∉ looks ops o) :
    ∀ d ∈ looks ops o, put t dst v d = t d := by
  intro d hd
  rw [put_apply]
  split
  · rename_i e; exact absurd hd (h d e)
  · rfl

theorem ev_of_looks {ops : Array Oper} {o : Oper} {t t' : Tmps} (h : ∀ d ∈ looks ops o, t d = t' d) : ∀ x ∈ o.op.operands, ev t x = ev t' x := by
  intro x hx
  refine ev_congr fun d hd => h d ?_
  simp only [looks, List.mem_append, List.mem_filterMap]
  exact .inl ⟨x, by simpa using hx, by simp [hd]⟩

theorem wanted_congr {ops : Array Oper} {o : Oper} {t t' : Tmps} (h : ∀ d ∈ looks ops o, t d = t' d) : wanted t ops o = wanted t' ops o := by
  unfold wanted
  cases hg : o.guard with
  | none => rfl
  | some g =>
    obtain ⟨j, want⟩ := g
    simp only
    cases hd : (ops[j]?).bind (·.dst) with
    | none => rfl
    | some d =>
      simp only
      rw [h d (by simp [looks, hg, hd])]

theorem sharedCallee_congr {E : Env} {o : Oper} {t t' : Tmps} (h : ∀ x ∈ o.op.operands, ev t x = ev t' x) : sharedCallee E o t = sharedCallee E o t' := by
  unfold sharedCallee
  cases hop : o.op <;> simp only
  case call c =>
    rw [hop] at h
    simp only [Op.operands] at h
    cases hc : c.callee with
    | value f =>
      have h1 : c.args.toList.map (ev t) = c.args.toList.map (ev t') := map_ev_congr fun x hx => h x (by simp [Call.operands, Array.mem_toList_iff.1 hx])
      simp only
      rw [h f (by simp [Call.operands, hc]), h1]
    | invoke r m => rfl
    | builtin b => rfl

/- the value that an operation gives, and the memory behind it -/
def core (P : Program) (E : Env) (draw : Bool) (ops : Array Oper) (o : Oper) (i : Nat) (base : Nat) (s : St) : Option (D × Heap × Frz × Nat) :=
  match wanted s.tmps ops o with
  | some true =>
    match sharedCallee E o s.tmps with
    | some (f, args) => E.shar f args s.heap s.frz s.next
    | none =>
      match step P E.pure o s.tmps (guardH draw ops base i o s.heap) (guardZ draw ops base i o s.frz) (base + i) with
      | some r => some (r.v, applyU s.heap r.hp, applyU s.frz r.fz, s.next)
      | none => none
  | some false => some (.tup [], s.heap, s.frz, s.next)
  | none => none

def fin (t : Tmps) (dst : Option Tmp) (x : D × Heap × Frz × Nat) : St := ⟨put t dst x.1, x.2.1, x.2.2.1, x.2.2.2⟩

variable {P : Program} {E : Env} {draw : Bool} {ops : Array Oper} {base : Nat}

theorem one_core (o : Oper) (i : Nat) (s : St) : one P E draw ops o i base s = (core P E draw ops o i base s).map (fin s.tmps o.dst) := by
  unfold one core
  match wanted s.tmps ops o with
  | none => rfl
  | some false => rfl
  | some true =>
    simp only
    cases sharedCallee E o s.tmps with
    | some x =>
      obtain ⟨f, args⟩ := x
      simp only
      cases E.shar f args s.heap s.frz s.next <;> rfl
    | none =>
      simp only
      cases step P E.pure o s.tmps (guardH draw ops base i o s.heap) (guardZ draw ops base i o s.frz) (base + i) <;> rfl

theorem core_congr {o : Oper} {i : Nat} {s s' : St} (ht : ∀ d ∈ looks ops o, s.tmps d = s'.tmps d) (hh : s.heap = s'.heap) (hz : s.frz = s'.frz) (hn : s.next = s'.next) :
    core P E draw ops o i base s = core P E draw ops o i base s' := by
  unfold core
  rw [wanted_congr ht, sharedCallee_congr (ev_of_looks ht), step_congr (ev_of_looks ht), hh, hz, hn]

/- operations that run in no caller's heap -/
theorem sharedCallee_none {o : Oper} {t : Tmps} (h : strongOp E.shared o.op = false) : sharedCallee E o t = none := by
  unfold sharedCallee
  cases hop : o.op <;> simp only
  case call c =>
    rw [hop] at h
    cases hc : c.callee with
    | value f =>
      cases f with
      | func f => simp [strongOp, hc] at h; simp [ev, h]
      | tmp t => simp [strongOp, hc] at h
      | const v => simp [strongOp, hc] at h
      | global g => simp [strongOp, hc] at h
    | invoke r m => rfl
    | builtin b => rfl

def act (P : Program) (E : Env) (draw : Bool) (ops : Array Oper) (o : Oper) (i : Nat) (base : Nat) (t : Tmps) (h : Heap) (z : Frz) : Option Out :=
  match wanted t ops o with
  | some true => step P E.pure o t (guardH draw ops base i o h) (guardZ draw ops base i o z) (base + i)
  | some false => some (out (.tup []))
  | none => none

theorem core_act {o : Oper} {i : Nat} {s : St} (hs : strongOp E.shared o.op = false) :
    core P E draw ops o i base s = (act P E draw ops o i base s.tmps s.heap s.frz).map fun r => (r.v, applyU s.heap r.hp, applyU s.frz r.fz, s.next) := by
  unfold core act
  rw [sharedCallee_none hs]
  split
  · cases step P E.pure o s.tmps (guardH draw ops base i o s.heap) (guardZ draw ops base i o s.frz) (base + i) <;> rfl
  · rfl
  · rfl

theorem act_congr {o : Oper} {i : Nat} {t t' : Tmps} {h : Heap} {z : Frz} (ht : ∀ d ∈ looks ops o, t d = t' d) :
    act P E draw ops o i base t h z = act P E draw ops o i base t' h z := by
  unfold act
  rw [wanted_congr ht, step_congr (ev_of_looks ht)]

theorem wr_rd {o : Op} (h : rdOp o = false) : wrOp o = false := by
  cases o <;> simp [rdOp, wrOp] at h ⊢
  rename_i c
  cases hc : c.callee with
  | value f => simp [hc] at h
  | invoke r m => simp
  | builtin b => cases b <;> simp [hc] at h ⊢

theorem okId_of_guardH {o : Oper} {i : Nat} {h : Heap} {id : Nat} (hne : guardH true ops base i o h id ≠ none) : okId ops base i o id = true := by
  simp only [guardH] at hne
  cases hk : okId ops base i o id with
  | true => rfl
  | false => simp [hk] at hne

theorem frozenLen_guard {o : Oper} {i : Nat} {h : Heap} {id : Nat} (hk : okId ops base i o id = true) : frozenLen (guardH true ops base i o h) id = frozenLen h id := by
  simp [frozenLen, guardH, hk]

theorem act_eff {o : Oper} {i : Nat} {t : Tmps} {h : Heap} {z : Frz} {r : Out} (hr : act P E true ops o i base t h z = some r) :
    (∀ p ∈ r.hp, (wrOp o.op = true ∧ okId ops base i o p.1 = true) ∨ (alOp o.op = true ∧ p.1 = base + i)) ∧
    (∀ p ∈ r.fz, (rdOp o.op = true ∧ p.2 = frozenLen h p.1 ∧ okId ops base i o p.1 = true) ∨ (alOp o.op = true ∧ p.1 = base + i)) := by
  unfold act at hr
  split at hr
  · obtain ⟨h1, h2⟩ := step_eff hr
    exact ⟨fun p hp => (h1 p hp).imp (fun x => ⟨x.1, okId_of_guardH x.2⟩) id, fun p hp => (h2 p hp).imp (fun x => ⟨x.1, x.2.1.trans (frozenLen_guard (okId_of_guardH x.2.2)), okId_of_guardH x.2.2⟩) id⟩
  · simp at hr; subst hr; simp [out]
  · cases hr

theorem okId_own (i : Nat) (o : Oper) {j : Nat} (hj : j < ops.size) : okId ops base i o (base + j) = okBit ops i o j := by
  unfold okId okBit
  cases initOf ops i o with
  | some a =>
    simp only
    by_cases h : j = a
    · subst h; simp
    · have h1 : Nat.beq (base + j) (base + a) = false := by
        cases hb : Nat.beq (base + j) (base + a) with
        | false => rfl
        | true => have := Nat.eq_of_beq_eq_true hb; omega
      have h2 : Nat.beq j a = false := by
        cases hb : Nat.beq j a with
        | false => rfl
        | true => exact absurd (Nat.eq_of_beq_eq_true hb) h
      rw [h1, h2]
  | none =>
    have h1 : Nat.blt (base + j) base = false := by
      cases hb : Nat.blt (base + j) base with
      | false => rfl
      | true => have := Nat.le_of_ble_eq_true hb; omega
    have h2 : base + j - base = j := by omega
    have h3 : Nat.ble (base + ops.size) (base + j) = false := by
      cases hb : Nat.ble (base + ops.size) (base + j) with
      | false => rfl
      | true => have := Nat.le_of_ble_eq_true hb; omega
    simp only [h1, h2, h3, Bool.false_or, Bool.or_false]

theorem beq_of {a b : Nat} (h : Nat.beq a b = true) : a = b := Nat.eq_of_beq_eq_true h

theorem initOf_lt {i a : Nat} {o : Oper} (h : initOf ops i o = some a) : a < ops.size := by
  unfold initOf at h
  split at h
  · have := List.find?_some h
    split at this
    · rename_i x hx; exact (Array.getElem?_eq_some_iff.1 hx).1
    · cases this
  · cases h

theorem overlap_false {j i : Nat} {oj oi : Oper} (h : overlap ops j oj i oi = false) {id : Nat} (h1 : okId ops base j oj id = true) : okId ops base i oi id = false := by
  unfold overlap at h
  cases hj : initOf ops j oj with
  | some a =>
    cases hi : initOf ops i oi with
    | some b =>
      simp only [hj, hi] at h
      simp only [okId, hj] at h1
      have := beq_of h1; subst this
      rw [okId_own _ _ (initOf_lt hj)]; simpa [okBit, hi] using h
    | none =>
      simp only [hj, hi] at h
      simp only [okId, hj] at h1
      have := beq_of h1; subst this
      rw [okId_own _ _ (initOf_lt hj)]; exact h
  | none =>
    cases hi : initOf ops i oi with
    | some b =>
      simp only [hj, hi] at h
      cases hk : okId ops base i oi id with
      | false => rfl
      | true =>
        simp only [okId, hi] at hk
        have := beq_of hk; subst this
        rw [okId_own _ _ (initOf_lt hi)] at h1; rw [h1] at h; cases h
    | none => simp [hj, hi] at h

theorem overlap_false' {j i : Nat} {oj oi : Oper} (h : overlap ops j oj i oi = false) {id : Nat} (h1 : okId ops base i oi id = true) : okId ops base j oj id = false := by
  cases hk : okId ops base j oj id with
  | false => rfl
  | true => rw [overlap_false h hk] at h1; cases h1

/- an operation does not see the updates of another one -/
theorem guardH_applyU {o : Oper} {i : Nat} {h : Heap} {l : List (Nat × Option Blk)} (hl : ∀ p ∈ l, okId ops base i o p.1 = false) :
    guardH true ops base i o (applyU h l) = guardH true ops base i o h := by
  funext id
  simp only [guardH]
  cases hk : okId ops base i o id with
  | false => rfl
  | true =>
    rw [applyU_apply_ne]
    intro p hp e
    rw [← e, hl p hp] at hk
    cases hk

theorem guardZ_applyU {o : Oper} {i : Nat} {z : Frz} {l : List (Nat × Nat)} (hl : ∀ p ∈ l, okId ops base i o p.1 = false) :
    guardZ true ops base i o (applyU z l) = guardZ true ops base i o z := by
  funext id
  simp only [guardZ]
  cases hk : okId ops base i o id with
  | false => rfl
  | true =>
    rw [applyU_apply_ne]
    intro p hp e
    rw [← e, hl p hp] at hk
    cases hk

/- 'x' does not disturb 'y' -/
theorem act_undisturbed {x y : Oper} {j i : Nat} {t tx : Tmps} {h : Heap} {z : Frz} {r : Out} (hr : act P E true ops x j base tx h z = some r)
    (hw : wrOp x.op = true → rdOp y.op = true → ∀ id, okId ops base j x id = true → okId ops base i y id = false)
    (hz : rdOp x.op = true → wrOp y.op = true → ∀ id, okId ops base j x id = true → okId ops base i y id = false)
    (ha : alOp x.op = true → okBit ops i y j = false) (hjs : j < ops.size) :
    act P E true ops y i base t (applyU h r.hp) (applyU z r.fz) = act P E true ops y i base t h z := by
  obtain ⟨h1, h2⟩ := act_eff hr
  unfold act
  split
  · cases hrd : rdOp y.op with
    | false => exact step_noread hrd
    | true =>
      rw [guardH_applyU]
      · cases hwr : wrOp y.op with
        | false => exact step_nowrite hwr
        | true =>
          rw [guardZ_applyU]
          intro p hp
          rcases h2 p hp with ⟨a, _, c⟩ | ⟨a, b⟩
          · exact hz a hwr _ c
          · rw [b, okId_own _ _ hjs]; exact ha a
      · intro p hp
        rcases h1 p hp with ⟨a, c⟩ | ⟨a, b⟩
        · exact hw a hrd _ c
        · rw [b, okId_own _ _ hjs]; exact ha a
  · rfl
  · rfl

theorem act_p0 {o : Oper} {i : Nat} {t : Tmps} {h h' : Heap} {z z' : Frz} (hp : p0Op o.op = true) : act P E draw ops o i base t h z = act P E draw ops o i base t h' z' := by
  unfold act
  simp only [p0Op, Bool.and_eq_true, Bool.not_eq_true'] at hp
  split
  · exact step_noread hp.1
  · rfl
  · rfl

theorem act_p0_out {o : Oper} {i : Nat} {t : Tmps} {h : Heap} {z : Frz} {r : Out} (hp : p0Op o.op = true) (hr : act P E true ops o i base t h z = some r) : r.hp = [] ∧ r.fz = [] := by
  simp only [p0Op, Bool.and_eq_true, Bool.not_eq_true'] at hp
  obtain ⟨h1, h2⟩ := act_eff hr
  have hw := wr_rd hp.1
  constructor
  · cases hl : r.hp with
    | nil => rfl
    | cons p l => rcases h1 p (by simp [hl]) with ⟨a, _⟩ | ⟨a, _⟩ <;> simp_all
  · cases hl : r.fz with
    | nil => rfl
    | cons p l => rcases h2 p (by simp [hl]) with ⟨a, _⟩ | ⟨a, _⟩ <;> simp_all

theorem p0_strong {o : Op} {sh : FuncId → Bool} (h : p0Op o = true) : strongOp sh o = false := by
  simp only [p0Op, Bool.and_eq_true, Bool.not_eq_true'] at h
  cases o <;> simp [strongOp]
  rename_i c
  cases hc : c.callee with
  | value f => simp [rdOp, hc] at h
  | invoke r m => simp
  | builtin b => simp

/- a plain operation and any other one -/
theorem swap_p0 {x y : Oper} {j i : Nat} {s s1 s2 : St} (hp : p0Op x.op = true) (hap : apart ops x y = true)
    (h1 : one P E true ops x j base s = some s1) (h2 : one P E true ops y i base s1 = some s2) :
    ∃ s1', one P E true ops y i base s = some s1' ∧ one P E true ops x j base s1' = some s2 := by
  obtain ⟨a1, a2, a3⟩ := apart_spec hap
  have hst := p0_strong (sh := E.shared) hp
  rw [one_core, core_act hst] at h1
  cases hr : act P E true ops x j base s.tmps s.heap s.frz with
  | none => rw [hr] at h1; simp at h1
  | some r =>
    obtain ⟨e1, e2⟩ := act_p0_out hp hr
    rw [hr] at h1
    simp only [Option.map_some, Option.some.injEq, e1, e2, applyU, fin] at h1
    subst h1
    rw [one_core] at h2
    rw [core_congr (s := ⟨put s.tmps x.dst r.v, s.heap, s.frz, s.next⟩) (s' := s) (agree_put a1) rfl rfl rfl] at h2
    cases hc : core P E true ops y i base s with
    | none => rw [hc] at h2; simp at h2
    | some c =>
      rw [hc] at h2
      simp only [Option.map_some, Option.some.injEq, fin] at h2
      refine ⟨fin s.tmps y.dst c, by rw [one_core, hc]; rfl, ?_⟩
      rw [one_core, core_act hst]
      have : act P E true ops x j base (fin s.tmps y.dst c).tmps (fin s.tmps y.dst c).heap (fin s.tmps y.dst c).frz = some r := by
        simp only [fin]
        rw [act_congr (t' := s.tmps) (agree_put a3), act_p0 hp (h' := s.heap) (z' := s.frz)]; exact hr
      rw [this]
      simp only [Option.map_some, e1, e2, applyU, fin, Option.some.injEq]
      rw [← h2, put_comm s.tmps (x := y.dst) (y := x.dst) (fun d hd e => a2 d e hd)]

/- any operation, and a plain one behind it -/
theorem swap_p0' {x y : Oper} {j i : Nat} {s s1 s2 : St} (hp : p0Op y.op = true) (hap : apart ops x y = true)
    (h1 : one P E true ops x j base s = some s1) (h2 : one P E true ops y i base s1 = some s2) :
    ∃ s1', one P E true ops y i base s = some s1' ∧ one P E true ops x j base s1' = some s2 := by
  obtain ⟨a1, a2, a3⟩ := apart_spec hap
  have hst := p0_strong (sh := E.shared) hp
  rw [one_core] at h1
  cases hc : core P E true ops x j base s with
  | none => rw [hc] at h1; simp at h1
  | some c =>
    rw [hc] at h1
    simp only [Option.map_some, Option.some.injEq] at h1
    subst h1
    rw [one_core, core_act hst] at h2
    have e : act P E true ops y i base (fin s.tmps x.dst c).tmps (fin s.tmps x.dst c).heap (fin s.tmps x.dst c).frz = act P E true ops y i base s.tmps s.heap s.frz := by
      simp only [fin]
      rw [act_congr (t' := s.tmps) (agree_put a1), act_p0 hp (h' := s.heap) (z' := s.frz)]
    rw [e] at h2
    cases hr : act P E true ops y i base s.tmps s.heap s.frz with
    | none => rw [hr] at h2; simp at h2
    | some r =>
      obtain ⟨e1, e2⟩ := act_p0_out hp hr
      rw [hr] at h2
      simp only [Option.map_some, Option.some.injEq, e1, e2, applyU, fin] at h2
      refine ⟨fin s.tmps y.dst (r.v, s.heap, s.frz, s.next), by rw [one_core, core_act hst, hr]; simp [e1, e2, applyU], ?_⟩
      rw [one_core, core_congr (s := fin s.tmps y.dst (r.v, s.heap, s.frz, s.next)) (s' := s) (agree_put a3) rfl rfl rfl, hc]
      simp only [Option.map_some, fin, Option.some.injEq]
      rw [← h2, put_comm s.tmps (x := y.dst) (y := x.dst) (fun d hd e => a2 d e hd)]

theorem swap {x y : Oper} {j i : Nat} {s s1 s2 : St} (hji : j ≠ i) (hjs : j < ops.size) (his : i < ops.size) (hin : indep E.shared ops j x i y = true)
    (h1 : one P E true ops x j base s = some s1) (h2 : one P E true ops y i base s1 = some s2) :
    ∃ s1', one P E true ops y i base s = some s1' ∧ one P E true ops x j base s1' = some s2 := by
  simp only [indep, Bool.and_eq_true, Bool.not_eq_true', Bool.and_eq_false_imp, Bool.or_eq_false_iff] at hin
  obtain ⟨⟨⟨⟨⟨hap, hs1⟩, hs2⟩, hov⟩, hal1⟩, hal2⟩ := hin
  by_cases hpx : p0Op x.op = true
  · exact swap_p0 hpx hap h1 h2
  by_cases hpy : p0Op y.op = true
  · exact swap_p0' hpy hap h1 h2
  have hsx : strongOp E.shared x.op = false := by
    cases h : strongOp E.shared x.op with
    | false => rfl
    | true => have := hs1 h; simp at this; exact absurd this hpy
  have hsy : strongOp E.shared y.op = false := by
    cases h : strongOp E.shared y.op with
    | false => rfl
    | true => have := hs2 h; simp at this; exact absurd this hpx
  obtain ⟨a1, a2, a3⟩ := apart_spec hap
  have hxy : ∀ {w1 w2 : Bool}, w1 = true → w2 = true → ((w1 = wrOp x.op ∧ w2 = rdOp y.op) ∨ (w1 = wrOp y.op ∧ w2 = rdOp x.op)) → overlap ops j x i y = false := by
    intro w1 w2 e1 e2 h
    cases hv : overlap ops j x i y with
    | false => rfl
    | true =>
      obtain ⟨p, q⟩ := hov hv
      rcases h with ⟨rfl, rfl⟩ | ⟨rfl, rfl⟩
      · rw [p e1] at e2; cases e2
      · rw [q e1] at e2; cases e2
  rw [one_core, core_act hsx] at h1
  cases hr : act P E true ops x j base s.tmps s.heap s.frz with
  | none => rw [hr] at h1; simp at h1
  | some r =>
    rw [hr] at h1
    simp only [Option.map_some, Option.some.injEq, fin] at h1
    subst h1
    rw [one_core, core_act hsy] at h2
    simp only at h2
    rw [act_congr (t' := s.tmps) (agree_put a1),
      act_undisturbed hr (fun e1 e2 id => overlap_false (hxy e1 e2 (.inl ⟨rfl, rfl⟩))) (fun e1 e2 id => overlap_false (hxy e2 e1 (.inr ⟨rfl, rfl⟩))) hal1 hjs] at h2
    cases hq : act P E true ops y i base s.tmps s.heap s.frz with
    | none => rw [hq] at h2; simp at h2
    | some q =>
      rw [hq] at h2
      simp only [Option.map_some, Option.some.injEq, fin] at h2
      refine ⟨⟨put s.tmps y.dst q.v, applyU s.heap q.hp, applyU s.frz q.fz, s.next⟩, by rw [one_core, core_act hsy, hq]; rfl, ?_⟩
      rw [one_core, core_act hsx]
      simp only
      rw [act_congr (t' := s.tmps) (agree_put a3),
        act_undisturbed hq (fun e1 e2 id => overlap_false' (hxy e1 e2 (.inr ⟨rfl, rfl⟩))) (fun e1 e2 id => overlap_false' (hxy e2 e1 (.inl ⟨rfl, rfl⟩))) hal2 his, hr]
      simp only [Option.map_some, fin, Option.some.injEq]
      rw [← h2, put_comm s.tmps (x := y.dst) (y := x.dst) (fun d hd e => a2 d e hd)]
      obtain ⟨f1, f2⟩ := act_eff hr
      obtain ⟨g1, g2⟩ := act_eff hq
      have eh : applyU (applyU s.heap q.hp) r.hp = applyU (applyU s.heap r.hp) q.hp := by
        refine applyU_comm _ _ _ fun p hp' p' hp'' => .inl fun e => ?_
        rcases g1 p hp' with ⟨b1, b2⟩ | ⟨b1, b2⟩ <;> rcases f1 p' hp'' with ⟨c1, c2⟩ | ⟨c1, c2⟩
        · have hrd : rdOp x.op = true := by
            cases hx : rdOp x.op with
            | true => rfl
            | false => rw [wr_rd hx] at c1; cases c1
          rw [← e, overlap_false' (hxy b1 hrd (.inr ⟨rfl, rfl⟩)) b2] at c2; cases c2
        · rw [e, c2, okId_own _ _ hjs, hal1 c1] at b2; cases b2
        · rw [← e, b2, okId_own _ _ his, hal2 b1] at c2; cases c2
        · omega
      have ez : applyU (applyU s.frz q.fz) r.fz = applyU (applyU s.frz r.fz) q.fz := by
        refine applyU_comm _ _ _ fun p hp' p' hp'' => ?_
        rcases g2 p hp' with ⟨b1, b3, b2⟩ | ⟨b1, b2⟩ <;> rcases f2 p' hp'' with ⟨c1, c3, c2⟩ | ⟨c1, c2⟩
        · by_cases e : p.1 = p'.1
          · exact .inr (by rw [b3, c3, e])
          · exact .inl e
        · refine .inl fun e => ?_
          rw [e, c2, okId_own _ _ hjs, hal1 c1] at b2; cases b2
        · refine .inl fun e => ?_
          rw [← e, b2, okId_own _ _ his, hal2 b1] at c2; cases c2
        · refine .inl fun e => ?_
          omega
      rw [eh, ez]

end Go.F
