/- Parts of the proof, part 47: Base~, Geo1~, Geo7~, Geo8~, Ref1~, Plain1~, Ref2~, Ref3~, Rat1~, Nz1~, Nz2~, Nz8~, Nz9~, RN1~, RN2~, RN4~, RN5~, Cmp1~, Crv3, Trc3, LChk. -/
import Derived.Test.YtjjkgfikkihokaaGreatZ43
import Derived.Test.YtjjkgfikkihokaaGreatZ39
import Derived.Test.YtjjkgfikkihokaaGreatZ42
import Derived.IntWalk
import Derived.Test.YtjjkgfikkihokaaGreatZ44
import Derived.KernelRfl
import Derived.Test.YtjjkgfikkihokaaGreatZ45
import Derived.Test.YtjjkgfikkihokaaGreatZ46
set_option linter.all false
namespace Go.F
def ints (l : List Int) : D := .lst (l.map q01)
section
variable {T : Tab} {sh : Shr} {nx0 : Nat} {s : List Fr} {t : q0z} {h : q0e} {z : Frz} {nx : Nat} {q : Ex → q0z → q0e → Frz → Nat → Prop}
variable {base i : Nat} {res : List Nat} {dst : Nat} {g : Gd} {rest : List KOper}
end
end Go.F

namespace Go.F
attribute [local irreducible] IntKind.wrap wpM
theorem qgk (a b c : Spot) [OkS a] [OkS b] [OkS c] : PU q3W [a.enc, b.enc, c.enc] = some (.int .i64 (q0X a b c)) := by
 refine q0f (fn := qdi) rfl (q0a ?_)
 repeat' (first
  | (refine goP 800 rfl rfl ?_)
  | (show wpM _ _ _ (Fr.ops _ _ (KOper.mk _ _ (some _) _ _ :: _) :: _) Ex.normal _ _ _ _ _; first | refine q0o rfl ?_ | refine q0u rfl ?_ | refine q09 rfl (fun _ => ?_) (fun _ => ?_))
  | (show wpM _ _ _ (Fr.code (K.cond _ _ _) :: _) Ex.normal _ _ _ _ _; first | refine q0m rfl ?_ | refine q0n rfl ?_ | refine q02 rfl (fun _ => ?_) (fun _ => ?_))
  | (show wpM _ _ _ (Fr.ops _ _ (KOper.mk _ _ none _ (KOp.pick _ _ _) :: _) :: _) Ex.normal _ _ _ _ _; refine q0I rfl (fun _ => ?_) (fun _ => ?_))
  | (show wpM _ _ _ [] _ _ _ _ _ _; refine q0c rfl rfl rfl trivial ?_))
 simp [q0C, q0X]
theorem q98 (a b p : Spot) [OkS a] [OkS b] [OkS p] : PU q2T [a.enc, b.enc, p.enc] = some (.bool (onS a b p)) := by
 refine q0f (fn := qa3) rfl (q0a ?_)
 repeat' (first
  | (refine goP 800 rfl rfl ?_)
  | (show wpM _ _ _ (Fr.ops _ _ (KOper.mk _ _ (some _) _ _ :: _) :: _) Ex.normal _ _ _ _ _; first | refine q0o rfl ?_ | refine q0u rfl ?_ | refine q09 rfl (fun _ => ?_) (fun _ => ?_))
  | (show wpM _ _ _ (Fr.code (K.cond _ _ _) :: _) Ex.normal _ _ _ _ _; first | refine q0m rfl ?_ | refine q0n rfl ?_ | refine q02 rfl (fun _ => ?_) (fun _ => ?_))
  | (show wpM _ _ _ (Fr.ops _ _ (KOper.mk _ _ none _ (KOp.pick _ _ _) :: _) :: _) Ex.normal _ _ _ _ _; refine q0I rfl (fun _ => ?_) (fun _ => ?_))
  | (show wpM _ _ _ [] _ _ _ _ _ _; refine q0c rfl rfl rfl trivial ?_)
  | (show wpM _ _ _ (Fr.ops _ _ (KOper.mk _ _ none _ (KOp.callF q3W _) :: _) :: _) Ex.normal _ _ _ _ _; refine q00 rfl rfl (qgk _ _ _) ?_))
 all_goals ((try simp only [q22, q1U, q2C, q31, decide_eq_true_eq, decide_eq_false_iff_not, Bool.not_eq_true, Bool.not_eq_false, Int.not_lt, Int.not_le] at *); first | (simp_all [onS]; done) | (simp_all [onS]; omega) | (rw [D.bool.injEq, Bool.eq_iff_iff]; simp [onS]; omega) | (rw [D.bool.injEq, Bool.eq_iff_iff]; simp_all [onS]; omega) | (simp [onS]; split <;> (try split) <;> omega))
theorem qp0 (n : Int) : PU q7q [.int .i64 n] = some (.int .i64 (sgn n)) := by
 refine q0f (fn := qfw) rfl (q0a ?_)
 repeat' (first
  | (refine goP 800 rfl rfl ?_)
  | (show wpM _ _ _ (Fr.ops _ _ (KOper.mk _ _ (some _) _ _ :: _) :: _) Ex.normal _ _ _ _ _; first | refine q0o rfl ?_ | refine q0u rfl ?_ | refine q09 rfl (fun _ => ?_) (fun _ => ?_))
  | (show wpM _ _ _ (Fr.code (K.cond _ _ _) :: _) Ex.normal _ _ _ _ _; first | refine q0m rfl ?_ | refine q0n rfl ?_ | refine q02 rfl (fun _ => ?_) (fun _ => ?_))
  | (show wpM _ _ _ (Fr.ops _ _ (KOper.mk _ _ none _ (KOp.pick _ _ _) :: _) :: _) Ex.normal _ _ _ _ _; refine q0I rfl (fun _ => ?_) (fun _ => ?_))
  | (show wpM _ _ _ [] _ _ _ _ _ _; refine q0c rfl rfl rfl trivial ?_))
 all_goals ((try simp only [q22, q1U, q2C, q31, decide_eq_true_eq, decide_eq_false_iff_not, Bool.not_eq_true, Bool.not_eq_false, Int.not_lt, Int.not_le] at *); first | (simp_all [sgn]; done) | (simp_all [sgn]; omega) | (rw [D.bool.injEq, Bool.eq_iff_iff]; simp [sgn]; omega) | (rw [D.bool.injEq, Bool.eq_iff_iff]; simp_all [sgn]; omega) | (simp [sgn]; split <;> (try split) <;> omega))
theorem qp1 (a b c d : Spot) [OkS a] [OkS b] [OkS c] [OkS d] : PU qk7 [a.enc, b.enc, c.enc, d.enc] = some (.bool (q2S a b c d)) := by
 refine q0f (fn := qfp) rfl (q0a ?_)
 repeat' (first
  | (refine goP 800 rfl rfl ?_)
  | (show wpM _ _ _ (Fr.ops _ _ (KOper.mk _ _ (some _) _ _ :: _) :: _) Ex.normal _ _ _ _ _; first | refine q0o rfl ?_ | refine q0u rfl ?_ | refine q09 rfl (fun _ => ?_) (fun _ => ?_))
  | (show wpM _ _ _ (Fr.code (K.cond _ _ _) :: _) Ex.normal _ _ _ _ _; first | refine q0m rfl ?_ | refine q0n rfl ?_ | refine q02 rfl (fun _ => ?_) (fun _ => ?_))
  | (show wpM _ _ _ (Fr.ops _ _ (KOper.mk _ _ none _ (KOp.pick _ _ _) :: _) :: _) Ex.normal _ _ _ _ _; refine q0I rfl (fun _ => ?_) (fun _ => ?_))
  | (show wpM _ _ _ [] _ _ _ _ _ _; refine q0c rfl rfl rfl trivial ?_)
  | (show wpM _ _ _ (Fr.ops _ _ (KOper.mk _ _ none _ (KOp.callF q2T _) :: _) :: _) Ex.normal _ _ _ _ _; refine q00 rfl rfl (q98 _ _ _) ?_)
  | (show wpM _ _ _ (Fr.ops _ _ (KOper.mk _ _ none _ (KOp.callF q3W _) :: _) :: _) Ex.normal _ _ _ _ _; refine q00 rfl rfl (qgk _ _ _) ?_)
  | (show wpM _ _ _ (Fr.ops _ _ (KOper.mk _ _ none _ (KOp.callF q7q _) :: _) :: _) Ex.normal _ _ _ _ _; refine q00 rfl rfl (qp0 _) ?_))
 all_goals ((try simp only [q22, q1U, q2C, q31, decide_eq_true_eq, decide_eq_false_iff_not, Bool.not_eq_true, Bool.not_eq_false, Int.not_lt, Int.not_le] at *); first | (simp_all [q2S, q2s, q0C]; done) | (simp_all [q2S, q2s, q0C]; omega) | (rw [D.bool.injEq, Bool.eq_iff_iff]; simp [q2S, q2s, q0C]; omega) | (rw [D.bool.injEq, Bool.eq_iff_iff]; simp_all [q2S, q2s, q0C]; omega) | (simp [q2S, q2s, q0C]; split <;> (try split) <;> omega))
end Go.F

namespace Go.F
attribute [local irreducible] IntKind.wrap wpM
theorem qnu (n : Nat) : PU qdJ [.int .u8 n] = some (.bool (q5p n)) := by
 refine q0f (fn := qd1) rfl (q0a ?_)
 repeat' (first
  | (refine goP 800 rfl rfl ?_)
  | (show wpM _ _ _ (Fr.ops _ _ (KOper.mk _ _ (some _) _ _ :: _) :: _) Ex.normal _ _ _ _ _; first | refine q0o rfl ?_ | refine q0u rfl ?_ | refine q09 rfl (fun _ => ?_) (fun _ => ?_))
  | (show wpM _ _ _ (Fr.code (K.cond _ _ _) :: _) Ex.normal _ _ _ _ _; first | refine q0m rfl ?_ | refine q0n rfl ?_ | refine q02 rfl (fun _ => ?_) (fun _ => ?_))
  | (show wpM _ _ _ (Fr.ops _ _ (KOper.mk _ _ none _ (KOp.pick _ _ _) :: _) :: _) Ex.normal _ _ _ _ _; refine q0I rfl (fun _ => ?_) (fun _ => ?_))
  | (show wpM _ _ _ [] _ _ _ _ _ _; refine q0c rfl rfl rfl trivial ?_))
 all_goals ((try simp only [q22, q1U, q2C, q31, decide_eq_true_eq, decide_eq_false_iff_not, Bool.not_eq_true, Bool.not_eq_false, Int.not_lt, Int.not_le] at *); first | (simp_all [q5p]; done) | (simp_all [q5p]; omega) | (rw [D.bool.injEq, Bool.eq_iff_iff]; simp [q5p]; omega) | (rw [D.bool.injEq, Bool.eq_iff_iff]; simp_all [q5p]; omega) | (simp [q5p]; split <;> (try split) <;> omega))
end Go.F

namespace Go.F
attribute [local irreducible] IntKind.wrap wpM
theorem qjS : (⟨#[]⟩ : ByteArray).toList = [] := by rw [Go.ByteArray.toList_eq]
theorem qp3 {s : ByteArray} : (s.toList == []) = decide (s.size = 0) := by
 rw [← qjR]
 cases s.toList <;> simp
set_option maxHeartbeats 2000000 in
theorem qp4 (s : ByteArray) : PU qjX [.str s] = some (.bool (q3O s)) := by
 refine q0f (fn := qff) rfl (q0a ?_)
 refine go 800 rfl ?_
 refine q09 rfl (fun h0 => ?_) (fun h0 => ?_)
 ·repeat' (first
   | (refine goP 800 rfl rfl ?_)
   | (show wpM _ _ _ (Fr.ops _ _ (KOper.mk _ _ (some _) _ _ :: _) :: _) Ex.normal _ _ _ _ _; first | refine q0o rfl ?_ | refine q0u rfl ?_ | refine q09 rfl (fun _ => ?_) (fun _ => ?_))
   | (show wpM _ _ _ (Fr.code (K.cond _ _ _) :: _) Ex.normal _ _ _ _ _; first | refine q0m rfl ?_ | refine q0n rfl ?_ | refine q02 rfl (fun _ => ?_) (fun _ => ?_))
   | (show wpM _ _ _ (Fr.ops _ _ (KOper.mk _ _ none _ (KOp.pick _ _ _) :: _) :: _) Ex.normal _ _ _ _ _; refine q0I rfl (fun _ => ?_) (fun _ => ?_))
   | (show wpM _ _ _ [] _ _ _ _ _ _; refine q0c rfl rfl rfl trivial ?_))
  rw [qjS, qp3, decide_eq_true_eq] at h0
  simp [q3O, h0]
 refine go 800 rfl ?_
 rw [qjS, qp3, decide_eq_false_iff_not] at h0
 refine q09 rfl (fun h1 => ?_) (fun h1 => ?_)
 ·repeat' (first
   | (refine goP 800 rfl rfl ?_)
   | (show wpM _ _ _ (Fr.ops _ _ (KOper.mk _ _ (some _) _ _ :: _) :: _) Ex.normal _ _ _ _ _; first | refine q0o rfl ?_ | refine q0u rfl ?_ | refine q09 rfl (fun _ => ?_) (fun _ => ?_))
   | (show wpM _ _ _ (Fr.code (K.cond _ _ _) :: _) Ex.normal _ _ _ _ _; first | refine q0m rfl ?_ | refine q0n rfl ?_ | refine q02 rfl (fun _ => ?_) (fun _ => ?_))
   | (show wpM _ _ _ (Fr.ops _ _ (KOper.mk _ _ none _ (KOp.pick _ _ _) :: _) :: _) Ex.normal _ _ _ _ _; refine q0I rfl (fun _ => ?_) (fun _ => ?_))
   | (show wpM _ _ _ [] _ _ _ _ _ _; refine q0c rfl rfl rfl trivial ?_))
  rw [q06] at h1
  have : 24 < s.size := by omega
  simp [q3O, this]
 refine go 800 rfl ?_
 rw [q07] at h1
 refine q09 rfl (fun h2 => ?_) (fun h2 => ?_)
 ·repeat' (first
   | (refine goP 800 rfl rfl ?_)
   | (show wpM _ _ _ (Fr.ops _ _ (KOper.mk _ _ (some _) _ _ :: _) :: _) Ex.normal _ _ _ _ _; first | refine q0o rfl ?_ | refine q0u rfl ?_ | refine q09 rfl (fun _ => ?_) (fun _ => ?_))
   | (show wpM _ _ _ (Fr.code (K.cond _ _ _) :: _) Ex.normal _ _ _ _ _; first | refine q0m rfl ?_ | refine q0n rfl ?_ | refine q02 rfl (fun _ => ?_) (fun _ => ?_))
   | (show wpM _ _ _ (Fr.ops _ _ (KOper.mk _ _ none _ (KOp.pick _ _ _) :: _) :: _) Ex.normal _ _ _ _ _; refine q0I rfl (fun _ => ?_) (fun _ => ?_))
   | (show wpM _ _ _ [] _ _ _ _ _ _; refine q0c rfl rfl rfl trivial ?_))
  rw [qgn] at h2
  simp [q3O, h2]
 refine go 800 rfl ?_
 rw [qgn] at h2
 refine q09 rfl (fun h3 => ?_) (fun h3 => ?_)
 ·repeat' (first
   | (refine goP 800 rfl rfl ?_)
   | (show wpM _ _ _ (Fr.ops _ _ (KOper.mk _ _ (some _) _ _ :: _) :: _) Ex.normal _ _ _ _ _; first | refine q0o rfl ?_ | refine q0u rfl ?_ | refine q09 rfl (fun _ => ?_) (fun _ => ?_))
   | (show wpM _ _ _ (Fr.code (K.cond _ _ _) :: _) Ex.normal _ _ _ _ _; first | refine q0m rfl ?_ | refine q0n rfl ?_ | refine q02 rfl (fun _ => ?_) (fun _ => ?_))
   | (show wpM _ _ _ (Fr.ops _ _ (KOper.mk _ _ none _ (KOp.pick _ _ _) :: _) :: _) Ex.normal _ _ _ _ _; refine q0I rfl (fun _ => ?_) (fun _ => ?_))
   | (show wpM _ _ _ [] _ _ _ _ _ _; refine q0c rfl rfl rfl trivial ?_))
  rw [qgo] at h3
  simp [q3O, h3]
 refine go 800 rfl ?_
 rw [qgo] at h3
 have key : ∀ b, (decide (∀ i, i < s.size → q8p i (q69 s i).toNat = true)) = b → q3O s = b := by
  intro b hb
  rw [q3O, hb, h2, h3]
  rw [show decide (s.size = 0) = false by rw [decide_eq_false_iff_not]; omega, show decide (24 < s.size) = false by rw [decide_eq_false_iff_not]; omega]
  simp
 have no : ∀ k, k < s.size → q8p k (q69 s k).toNat = false → q3O s = false := by
  intro k hk hc
  refine key false ?_
  simp
  exact ⟨k, hk, hc⟩
 have h00 : 0 < s.size := by omega
 refine q5s 0 rfl rfl rfl (qbC h00) ?_
 refine go 800 rfl ?_
 refine q09 rfl (fun h4 => ?_) (fun h4 => ?_)
 ·repeat' (first
   | (refine goP 800 rfl rfl ?_)
   | (show wpM _ _ _ (Fr.ops _ _ (KOper.mk _ _ (some _) _ _ :: _) :: _) Ex.normal _ _ _ _ _; first | refine q0o rfl ?_ | refine q0u rfl ?_ | refine q09 rfl (fun _ => ?_) (fun _ => ?_))
   | (show wpM _ _ _ (Fr.code (K.cond _ _ _) :: _) Ex.normal _ _ _ _ _; first | refine q0m rfl ?_ | refine q0n rfl ?_ | refine q02 rfl (fun _ => ?_) (fun _ => ?_))
   | (show wpM _ _ _ (Fr.ops _ _ (KOper.mk _ _ none _ (KOp.pick _ _ _) :: _) :: _) Ex.normal _ _ _ _ _; refine q0I rfl (fun _ => ?_) (fun _ => ?_))
   | (show wpM _ _ _ [] _ _ _ _ _ _; refine q0c rfl rfl rfl trivial ?_))
  rw [q06] at h4
  rw [no 0 h00 (by simp [q8p]; omega)]
 refine go 800 rfl ?_
 rw [q07] at h4
 refine q5s 0 rfl rfl rfl (qbC h00) ?_
 refine go 800 rfl ?_
 refine q02 rfl (fun h5 => ?_) (fun h5 => ?_)
 ·repeat' (first
   | (refine goP 800 rfl rfl ?_)
   | (show wpM _ _ _ (Fr.ops _ _ (KOper.mk _ _ (some _) _ _ :: _) :: _) Ex.normal _ _ _ _ _; first | refine q0o rfl ?_ | refine q0u rfl ?_ | refine q09 rfl (fun _ => ?_) (fun _ => ?_))
   | (show wpM _ _ _ (Fr.code (K.cond _ _ _) :: _) Ex.normal _ _ _ _ _; first | refine q0m rfl ?_ | refine q0n rfl ?_ | refine q02 rfl (fun _ => ?_) (fun _ => ?_))
   | (show wpM _ _ _ (Fr.ops _ _ (KOper.mk _ _ none _ (KOp.pick _ _ _) :: _) :: _) Ex.normal _ _ _ _ _; refine q0I rfl (fun _ => ?_) (fun _ => ?_))
   | (show wpM _ _ _ [] _ _ _ _ _ _; refine q0c rfl rfl rfl trivial ?_))
  rw [q06] at h5
  rw [no 0 h00 (by simp [q8p]; omega)]
 refine go 800 rfl ?_
 rw [q07] at h5
 refine q0p (S := fun k : Nat => ([.str s, q01 k], [none, none], [0, 0])) (C := fun k => k ≤ s.size ∧ ∀ i, i < k → q8p i (q69 s i).toNat = true) (m := fun k => s.size - k) 0 ⟨by omega, fun i hi => by omega⟩ (by omega) ?_ ?_
 ·exact q03 rfl trivial (by simp [q01])
 intro k ⟨hk, hall⟩ N hN
 refine go 800 rfl ?_
 refine q02 rfl (fun g1 => ?_) (fun g1 => ?_)
 ·rw [q06] at g1
  have hlt : k < s.size := by omega
  have w1 : IntKind.i64.wrap ((k : Int) + 1) = ((k + 1 : Nat) : Int) := wrap64 (by omega) (by omega)
  have yes : q8p k (q69 s k).toNat = true → ∀ {t : q0z} {h : q0e} {z : Frz} {nx : Nat}, (q18 0 [(0, 0), (3, 0)] t h z nx fun _ _ kp => kp = ([.str s, q01 ((k + 1 : Nat) : Int)], [none, none], [0, 0])) → N t h z nx := by
   intro hc t h z nx hst
   refine hN (k + 1) ⟨by omega, fun i hi => ?_⟩ (by omega) hst
   by_cases hik : i < k
   ·exact hall i hik
   ·obtain rfl : i = k := by omega
    exact hc
  have no' := no k hlt
  have k0 : k = 0 → 97 ≤ (q69 s k).toNat ∧ (q69 s k).toNat ≤ 122 := by intro e; subst e; omega
  clear hN no key hall h4 h5 h2 h3
  refine go 800 rfl ?_
  repeat' (first
   | (refine goP 800 rfl rfl ?_)
   | (show wpM _ _ _ (Fr.ops _ _ (KOper.mk _ _ (some _) _ _ :: _) :: _) Ex.normal _ _ _ _ _; first | refine q0o rfl ?_ | refine q0u rfl ?_ | refine q09 rfl (fun _ => ?_) (fun _ => ?_))
   | (show wpM _ _ _ (Fr.code (K.cond _ _ _) :: _) Ex.normal _ _ _ _ _; first | refine q0m rfl ?_ | refine q0n rfl ?_ | refine q02 rfl (fun _ => ?_) (fun _ => ?_))
   | (show wpM _ _ _ (Fr.ops _ _ (KOper.mk _ _ none _ (KOp.pick _ _ _) :: _) :: _) Ex.normal _ _ _ _ _; refine q0I rfl (fun _ => ?_) (fun _ => ?_))
   | (show wpM _ _ _ [] _ _ _ _ _ _; refine q0c rfl rfl rfl trivial ?_)
   | (show wpM _ _ _ (Fr.ops _ _ (KOper.mk _ _ none _ (KOp.istr _ _) :: _) :: _) Ex.normal _ _ _ _ _; refine q5s k rfl rfl rfl (qbC hlt) ?_)
   | (show wpM _ _ _ (Fr.ops _ _ (KOper.mk _ _ none _ (KOp.callF qdJ _) :: _) :: _) Ex.normal _ _ _ _ _; refine q00 rfl rfl (qnu _) ?_))
  all_goals refine q05 ?_
  all_goals generalize (q69 s k).toNat = c at *
  all_goals simp only [q22, q1U, q2C, q31, q5p, decide_eq_true_eq, decide_eq_false_iff_not, Bool.not_eq_true, Bool.not_eq_false, Int.not_lt, Int.not_le] at *
  all_goals first
   | (refine yes ?_ (q03 rfl trivial (by simp [q01, w1]))
      simp_all [q8p, q5p]
      try omega)
   | (refine go 800 rfl ?_
      refine q0c rfl rfl rfl trivial ?_
      rw [no']
      simp_all [q8p, q5p]
      try omega)
 rw [q07] at g1
 refine go 800 rfl ?_
 refine q05 ?_
 refine go 800 rfl ?_
 refine q0c rfl rfl rfl trivial ?_
 rw [key true (by simp; exact fun i hi => hall i (by omega))]
end Go.F

namespace Go.F
attribute [local irreducible] IntKind.wrap wpM
def qod (n : Int) : Bool := decide (1048576 < n) || decide (n < -1048576)
theorem qrC (n : Int) : PU qez [.int .i64 n] = some (.bool (qod n)) := by
 refine q0f (fn := qho) rfl (q0a ?_)
 repeat' (first
  | (refine goP 800 rfl rfl ?_)
  | (show wpM _ _ _ (Fr.ops _ _ (KOper.mk _ _ (some _) _ _ :: _) :: _) Ex.normal _ _ _ _ _; first | refine q0o rfl ?_ | refine q0u rfl ?_ | refine q09 rfl (fun _ => ?_) (fun _ => ?_))
  | (show wpM _ _ _ (Fr.code (K.cond _ _ _) :: _) Ex.normal _ _ _ _ _; first | refine q0m rfl ?_ | refine q0n rfl ?_ | refine q02 rfl (fun _ => ?_) (fun _ => ?_))
  | (show wpM _ _ _ (Fr.ops _ _ (KOper.mk _ _ none _ (KOp.pick _ _ _) :: _) :: _) Ex.normal _ _ _ _ _; refine q0I rfl (fun _ => ?_) (fun _ => ?_))
  | (show wpM _ _ _ [] _ _ _ _ _ _; refine q0c rfl rfl rfl trivial ?_))
 all_goals ((try simp only [q22, q1U, q2C, q31, decide_eq_true_eq, decide_eq_false_iff_not, Bool.not_eq_true, Bool.not_eq_false, Int.not_lt, Int.not_le] at *); first | (simp_all [qod]; done) | (simp_all [qod]; omega) | (rw [D.bool.injEq, Bool.eq_iff_iff]; simp [qod]; omega) | (rw [D.bool.injEq, Bool.eq_iff_iff]; simp_all [qod]; omega) | (simp [qod]; split <;> (try split) <;> omega))
theorem qrD (s : Spot) : (qod s.x || qod s.y) = !q0v s 1048576 := by
 rw [Bool.eq_iff_iff]
 simp [qod, q0v]
 omega
theorem qrE (p : List Spot) (hp : p.length < 4611686018427387904) : PU qmg [q0g p] = some (.bool (p.any fun s => !q0v s 1048576)) := by
 refine q0f (fn := qhj) rfl (q0a ?_)
 refine go 800 rfl ?_
 refine q0p (S := fun k : Nat => ([q0g p, q01 k], [none, none], [0, 0])) (C := fun k => k ≤ p.length ∧ ∀ i, i < k → (!q0v (pt p i) 1048576) = false) (m := fun k => p.length - k) 0 ⟨by omega, fun i hi => by omega⟩ (by omega) ?_ ?_
 ·exact q03 rfl trivial (by simp [q0g, q01])
 intro k ⟨hk, hall⟩ N hN
 refine go 800 rfl ?_
 refine q02 rfl (fun g1 => ?_) (fun g1 => ?_)
 ·rw [q06, List.length_map] at g1
  have hlt : k < p.length := by omega
  have w1 : IntKind.i64.wrap ((k : Int) + 1) = ((k + 1 : Nat) : Int) := wrap64 (by omega) (by omega)
  have hfar := qrD (pt p k)
  have yes : (!q0v (pt p k) 1048576) = true → (p.any fun s => !q0v s 1048576) = true := by
   intro h
   rw [List.any_eq_true]
   exact ⟨pt p k, by rw [q0F hlt]; exact List.getElem_mem hlt, h⟩
  refine go 800 rfl ?_
  repeat' (first
   | (refine goP 800 rfl rfl ?_)
   | (show wpM _ _ _ (Fr.ops _ _ (KOper.mk _ _ (some _) _ _ :: _) :: _) Ex.normal _ _ _ _ _; first | refine q0o rfl ?_ | refine q0u rfl ?_ | refine q09 rfl (fun _ => ?_) (fun _ => ?_))
   | (show wpM _ _ _ (Fr.code (K.cond _ _ _) :: _) Ex.normal _ _ _ _ _; first | refine q0m rfl ?_ | refine q0n rfl ?_ | refine q02 rfl (fun _ => ?_) (fun _ => ?_))
   | (show wpM _ _ _ (Fr.ops _ _ (KOper.mk _ _ none _ (KOp.pick _ _ _) :: _) :: _) Ex.normal _ _ _ _ _; refine q0I rfl (fun _ => ?_) (fun _ => ?_))
   | (show wpM _ _ _ [] _ _ _ _ _ _; refine q0c rfl rfl rfl trivial ?_)
   | (show wpM _ _ _ (Fr.ops _ _ (KOper.mk _ _ none _ (KOp.ixs _ _ _) :: _) :: _) Ex.normal _ _ _ _ _; refine q0i k rfl rfl rfl (q0D hlt) rfl ?_)
   | (show wpM _ _ _ (Fr.ops _ _ (KOper.mk _ _ none _ (KOp.callF qez _) :: _) :: _) Ex.normal _ _ _ _ _; refine q00 rfl rfl (qrC _) ?_))
  ·refine q05 ?_
   refine go 800 rfl ?_
   refine q0c rfl rfl rfl trivial ?_
   rw [yes]
   simp_all
  ·refine q05 ?_
   refine go 800 rfl ?_
   refine q0c rfl rfl rfl trivial ?_
   rw [yes]
   simp_all
  ·refine q05 ?_
   refine hN (k + 1) ⟨by omega, fun i hi => ?_⟩ (by omega) (q03 rfl trivial (by simp [q0g, q01, w1]))
   by_cases hik : i < k
   ·exact hall i hik
   ·obtain rfl : i = k := by omega
    rw [← hfar]
    simp_all
 rw [q07, List.length_map] at g1
 refine go 800 rfl ?_
 refine q05 ?_
 refine go 800 rfl ?_
 refine q0c rfl rfl rfl trivial ?_
 congr 1
 symm
 rw [List.any_eq_false]
 intro s hs
 obtain ⟨i, hi, rfl⟩ := List.getElem_of_mem hs
 rw [← q0F hi, hall i (by omega)]
 decide
theorem qgW (p : List Spot) : PU qdE [q0g p] = some (.int .i64 (q1v p)) := by
 refine q0f (fn := qcR) rfl (q0a ?_)
 refine go 800 rfl ?_
 refine q02 rfl (fun h1 => ?_) (fun h1 => ?_)
 ·refine go 800 rfl ?_
  refine q0c rfl rfl rfl trivial ?_
  rw [q06, List.length_map] at h1
  rw [q1v, if_pos (by omega)]
 refine go 800 rfl ?_
 rw [q07, List.length_map] at h1
 refine q02 rfl (fun h2 => ?_) (fun h2 => ?_)
 ·refine go 800 rfl ?_
  refine q0c rfl rfl rfl trivial ?_
  rw [q06, List.length_map] at h2
  rw [q1v, if_neg (by omega), if_pos (by omega)]
 refine go 800 rfl ?_
 rw [q07, List.length_map] at h2
 refine q00 rfl rfl (qrE p (by omega)) ?_
 refine go 800 rfl ?_
 refine q02 rfl (fun h3 => ?_) (fun h3 => ?_)
 ·refine go 800 rfl ?_
  refine q0c rfl rfl rfl trivial ?_
  rw [q1v, if_neg (by omega), if_neg (by omega), if_pos h3]
 refine go 800 rfl ?_
 refine q0p (S := fun k : Nat => ([q0g p, q01 k], [none, none], [0, 0])) (C := fun k => 1 ≤ k ∧ k ≤ p.length ∧ ∀ i, i + 1 < k → pt p i ≠ pt p (i + 1)) (m := fun k => p.length - k) 1 ⟨by omega, by omega, fun i hi => by omega⟩ (by omega) ?_ ?_
 ·exact q03 rfl trivial (by simp [q0g, q01])
 intro k ⟨hk0, hk, hno⟩ N hN
 refine go 800 rfl ?_
 refine q02 rfl (fun g1 => ?_) (fun g1 => ?_)
 ·rw [q06, List.length_map] at g1
  have hlt : k < p.length := by omega
  have w1 : IntKind.i64.wrap ((k : Int) + 1) = ((k + 1 : Nat) : Int) := wrap64 (by omega) (by omega)
  have w2 : IntKind.i64.wrap ((k : Int) - 1) = ((k - 1 : Nat) : Int) := by rw [wrap64 (by omega) (by omega)]; omega
  have hk1 : k - 1 + 1 = k := by omega
  refine go 800 rfl ?_
  refine q0i k rfl rfl rfl (q0D hlt) rfl ?_
  refine go 800 rfl ?_
  refine q0i (k - 1) rfl rfl w2 (q0D (by omega)) rfl ?_
  refine go 800 rfl ?_
  refine q02 rfl (fun g2 => ?_) (fun g2 => ?_)
  ·refine go 800 rfl ?_
   refine q05 ?_
   refine go 800 rfl ?_
   refine q0c rfl rfl rfl trivial ?_
   rw [q1v, if_neg (by omega), if_neg (by omega), if_neg (by rw [h3]; decide), if_neg]
   intro hall
   refine hall (k - 1) (by omega) ?_
   rw [q0Y] at g2
   rw [hk1]
   exact (of_decide_eq_true g2).symm
  ·refine go 800 rfl ?_
   refine q05 ?_
   refine hN (k + 1) ⟨by omega, by omega, fun i hi => ?_⟩ (by omega) (q03 rfl trivial (by simp [q0g, q01, w1]))
   by_cases hik : i + 1 < k
   ·exact hno i hik
   ·obtain rfl : i = k - 1 := by omega
    rw [q0Y] at g2
    rw [hk1]
    exact fun e => of_decide_eq_false g2 e.symm
 rw [q07, List.length_map] at g1
 refine go 800 rfl ?_
 refine q05 ?_
 refine go 800 rfl ?_
 refine q0c rfl rfl rfl trivial ?_
 rw [q1v, if_neg (by omega), if_neg (by omega), if_neg (by rw [h3]; decide), if_pos (fun i hi => hno i (by omega))]
theorem qf8 (s : Spot) : PU qbF [s.enc, .int .i64 1048576] = some (.bool (q0v s 1048576)) := by
 have w : IntKind.i64.wrap (0 - 1048576) = -1048576 := wrap64 (by decide) (by decide)
 refine q0f (fn := qbk) rfl (q0a ?_)
 repeat' (first
  | (refine goP 800 rfl rfl ?_)
  | (show wpM _ _ _ (Fr.ops _ _ (KOper.mk _ _ (some _) _ _ :: _) :: _) Ex.normal _ _ _ _ _; first | refine q0o rfl ?_ | refine q0u rfl ?_ | refine q09 rfl (fun _ => ?_) (fun _ => ?_))
  | (show wpM _ _ _ (Fr.code (K.cond _ _ _) :: _) Ex.normal _ _ _ _ _; first | refine q0m rfl ?_ | refine q0n rfl ?_ | refine q02 rfl (fun _ => ?_) (fun _ => ?_))
  | (show wpM _ _ _ (Fr.ops _ _ (KOper.mk _ _ none _ (KOp.pick _ _ _) :: _) :: _) Ex.normal _ _ _ _ _; refine q0I rfl (fun _ => ?_) (fun _ => ?_))
  | (show wpM _ _ _ [] _ _ _ _ _ _; refine q0c rfl rfl rfl trivial ?_))
 all_goals rw [D.bool.injEq, Bool.eq_iff_iff]
 all_goals simp only [q22, q1U, w, decide_eq_true_eq, decide_eq_false_iff_not] at *
 all_goals simp [q0v]
 all_goals omega
end Go.F

namespace Go.F
theorem qtT {ux uy vx vy : Int} (hc : ux * vy = uy * vx) (hd : 0 < ux * vx + uy * vy) : 0 ≤ ux * vx ∧ 0 ≤ uy * vy := by
 have e : (ux * vx) * (uy * vy) = (ux * vy) * (ux * vy) := by
  calc (ux * vx) * (uy * vy) = (ux * vy) * (uy * vx) := by ac_rfl
   _ = _ := by rw [← hc]
 have hn := q7w (ux * vy)
 rw [← e] at hn
 constructor
 ·refine Int.not_lt.1 fun h => ?_
  have := Int.mul_neg_of_neg_of_pos h (show 0 < uy * vy by omega)
  omega
 ·refine Int.not_lt.1 fun h => ?_
  have := Int.mul_neg_of_pos_of_neg (show 0 < ux * vx by omega) h
  omega
theorem qb1 {u v : Int} (hs : 0 ≤ u * v) (hl : v.natAbs ≤ u.natAbs) : min u 0 ≤ v ∧ v ≤ max u 0 := by
 rcases Int.lt_trichotomy v 0 with h | h | h
 ·have : u ≤ 0 := by
   refine Int.not_lt.1 fun h2 => ?_
   have := Int.mul_neg_of_pos_of_neg h2 h
   omega
  omega
 ·omega
 ·have : 0 ≤ u := by
   refine Int.not_lt.1 fun h2 => ?_
   have := Int.mul_neg_of_neg_of_pos h2 h
   omega
  omega
theorem qvH (a b c : Spot) : q0X a b c = (a.y - b.y) * (c.x - b.x) - (a.x - b.x) * (c.y - b.y) := by
 unfold q0X; grind
theorem qtU (a b c : Spot) : q0X b c a = q0X a b c := by unfold q0X; grind
theorem q7L {a b p : Spot} : onS a b p = true ↔ q0X a b p = 0 ∧ min a.x b.x ≤ p.x ∧ p.x ≤ max a.x b.x ∧ min a.y b.y ≤ p.y ∧ p.y ≤ max a.y b.y := by simp [onS]
theorem q9Q {a b c : Spot} : q46 a b c = true ↔ q0X a b c = 0 ∧ 0 < (a.x - b.x) * (c.x - b.x) + (a.y - b.y) * (c.y - b.y) := by simp [q46]
theorem qtV {a b c : Spot} (h : q46 a b c = true) : onS a b c = true ∨ onS b c a = true := by
 rw [q9Q] at h
 obtain ⟨h1, h2⟩ := h
 have hc : (a.x - b.x) * (c.y - b.y) = (a.y - b.y) * (c.x - b.x) := by rw [qvH] at h1; omega
 obtain ⟨s1, s2⟩ := qtT hc h2
 have hn : (a.x - b.x).natAbs * (c.y - b.y).natAbs = (a.y - b.y).natAbs * (c.x - b.x).natAbs := by rw [← Int.natAbs_mul, ← Int.natAbs_mul, hc]
 rw [q7L, q7L, qtU a b c]
 by_cases hx : (c.x - b.x).natAbs ≤ (a.x - b.x).natAbs
 ·by_cases hy : (c.y - b.y).natAbs ≤ (a.y - b.y).natAbs
  ·left
   have := qb1 s1 hx
   have := qb1 s2 hy
   refine ⟨h1, ?_⟩
   omega
  ·by_cases hx' : (a.x - b.x).natAbs ≤ (c.x - b.x).natAbs
   ·right
    rw [Int.mul_comm] at s1 s2
    have := qb1 s1 hx'
    have := qb1 s2 (show (a.y - b.y).natAbs ≤ (c.y - b.y).natAbs by omega)
    refine ⟨h1, ?_⟩
    omega
   ·have := Nat.mul_lt_mul'' (Nat.lt_of_not_le hx') (Nat.lt_of_not_le hy)
    rw [Nat.mul_comm (c.x - b.x).natAbs] at this
    omega
 ·by_cases hy : (a.y - b.y).natAbs ≤ (c.y - b.y).natAbs
  ·right
   rw [Int.mul_comm] at s1 s2
   have := qb1 s1 (show (a.x - b.x).natAbs ≤ (c.x - b.x).natAbs by omega)
   have := qb1 s2 hy
   refine ⟨h1, ?_⟩
   omega
  ·have := Nat.mul_lt_mul'' (Nat.lt_of_not_le hx) (Nat.lt_of_not_le hy)
   rw [Nat.mul_comm (c.x - b.x).natAbs] at this
   omega
theorem qpN {u v : Int} (h : min u 0 ≤ v ∧ v ≤ max u 0) : 0 ≤ u * v := by
 rcases Int.le_total 0 u with h2 | h2
 ·exact Int.mul_nonneg h2 (by omega)
 ·exact Int.mul_nonneg_of_nonpos_of_nonpos h2 (by omega)
theorem qmM {u v : Int} (h : min u 0 ≤ v ∧ v ≤ max u 0) (hv : v ≠ 0) : 0 < u * v := by
 rcases Int.lt_trichotomy v 0 with h2 | h2 | h2
 ·exact Int.mul_pos_of_neg_of_neg (by omega) h2
 ·exact absurd h2 hv
 ·exact Int.mul_pos (by omega) h2
theorem qwR {a b : Spot} (h : a ≠ b) : a.x - b.x ≠ 0 ∨ a.y - b.y ≠ 0 := by
 by_cases hx : a.x = b.x
 ·by_cases hy : a.y = b.y
  ·exact absurd (by cases a; cases b; simp_all) h
  ·right; omega
 ·left; omega
theorem qmN {a b c : Spot} (hcb : c ≠ b) (h : onS a b c = true) : q46 a b c = true := by
 rw [q7L] at h
 rw [q9Q]
 refine ⟨h.1, ?_⟩
 have bx : min (a.x - b.x) 0 ≤ c.x - b.x ∧ c.x - b.x ≤ max (a.x - b.x) 0 := by omega
 have bY : min (a.y - b.y) 0 ≤ c.y - b.y ∧ c.y - b.y ≤ max (a.y - b.y) 0 := by omega
 have p1 := qpN bx
 have p2 := qpN bY
 rcases qwR hcb with h2 | h2
 ·have := qmM bx h2; omega
 ·have := qmM bY h2; omega
theorem qrs (a b c : Spot) : q46 a b c = q46 c b a := by
 rw [Bool.eq_iff_iff, q9Q, q9Q]
 have : q0X c b a = - q0X a b c := by unfold q0X; grind
 rw [this, Int.mul_comm (c.x - b.x), Int.mul_comm (c.y - b.y)]
 omega
theorem qkW (a b c : Spot) : onS a b c = onS b a c := by
 rw [Bool.eq_iff_iff, q7L, q7L]
 have : q0X b a c = - q0X a b c := by unfold q0X; grind
 rw [this]
 omega
theorem on_end (a b : Spot) : onS a b a = true := by
 rw [q7L]
 refine ⟨by unfold q0X; grind, ?_⟩
 omega
theorem qkX {p : List Spot} {i : Nat} (hi : i < p.length) : pt p i ∈ p.take i ↔ ∃ j, j < i ∧ pt p j = pt p i := by
 rw [List.mem_take_iff_getElem]
 constructor
 ·rintro ⟨j, hj, e⟩
  exact ⟨j, by omega, by rw [q0F (by omega)]; exact e⟩
 ·rintro ⟨j, hj, e⟩
  exact ⟨j, by omega, by rw [← e, q0F (by omega)]⟩
theorem mod1 {n i : Nat} (hi : i < n) : (i + 1) % n = if i + 1 = n then 0 else i + 1 := by
 split
 ·rename_i h; rw [h]; simp
 ·exact Nat.mod_eq_of_lt (by omega)
theorem mod2 {n i : Nat} (h3 : 3 ≤ n) (hi : i < n) : (i + 2) % n = if i + 2 < n then i + 2 else i + 2 - n := by
 split
 ·rename_i h; exact Nat.mod_eq_of_lt h
 ·rw [Nat.mod_eq_sub_mod (by omega), Nat.mod_eq_of_lt (by omega)]
theorem qbZ {p : List Spot} (h3 : 3 ≤ p.length) : q47 p ↔ q2n p := by
 constructor
 ·rintro ⟨hd, hs⟩ i hi
  have inj : ∀ {j k}, j < p.length → k < p.length → j ≠ k → pt p j ≠ pt p k := by
   intro j k hj hk hne e
   rcases Nat.lt_or_gt_of_ne hne with h | h
   ·exact hd k hk ((qkX hk).2 ⟨j, h, e⟩)
   ·exact hd j hj ((qkX hj).2 ⟨k, h, e.symm⟩)
  have m1 := mod1 hi
  have m2 := mod2 h3 hi
  have l1 : (i + 1) % p.length < p.length := Nat.mod_lt _ (by omega)
  have l2 : (i + 2) % p.length < p.length := Nat.mod_lt _ (by omega)
  have n01 : pt p i ≠ pt p ((i + 1) % p.length) := inj hi l1 (by rw [m1]; split <;> omega)
  have n12 : pt p ((i + 2) % p.length) ≠ pt p ((i + 1) % p.length) := inj l2 l1 (by rw [m1, m2]; split <;> split <;> omega)
  obtain ⟨hf, hm⟩ := hs i hi
  refine ⟨⟨n01, ?_, ?_⟩, hm⟩
  ·cases ho : onS (pt p i) (pt p ((i + 1) % p.length)) (pt p ((i + 2) % p.length))
   ·rfl
   ·rw [qmN n12 ho] at hf; cases hf
  ·cases ho : onS (pt p ((i + 1) % p.length)) (pt p ((i + 2) % p.length)) (pt p i)
   ·rfl
   ·rw [qkW] at ho
    rw [qrs, qmN n01 ho] at hf; cases hf
 ·intro hr
  refine ⟨fun i hi hm => ?_, fun i hi => ⟨?_, (hr i hi).2⟩⟩
  ·obtain ⟨j, hj, e⟩ := (qkX hi).1 hm
   have hjl : j < p.length := by omega
   have m1 := mod1 hjl
   have m1' := mod1 hi
   by_cases h1 : j + 1 = i
   ·have := (hr j hjl).1.1
    rw [m1, if_neg (by omega), h1] at this
    exact this e
   ·by_cases h2 : (i + 1) % p.length = j
    ·have := (hr i hi).1.1
     rw [h2] at this
     exact this e.symm
    ·have := (hr j hjl).2 i hi (by omega) h2
     have ho := on_end (pt p j) (pt p ((j + 1) % p.length))
     rw [← e] at this
     simp [q2S, ho] at this
  ·cases hf : q46 (pt p i) (pt p ((i + 1) % p.length)) (pt p ((i + 2) % p.length))
   ·rfl
   ·have := (hr i hi).1
    rcases qtV hf with h | h
    ·rw [h] at this; cases this.2.1
    ·rw [h] at this; cases this.2.2
end Go.F

namespace Go.F
attribute [local irreducible] IntKind.wrap wpM
set_option maxHeartbeats 2000000 in
theorem qlY (p : List Spot) [OkP p] (h3 : 3 ≤ p.length) (hp : p.length ≤ 1000) : PU qgw [q0g p] = some (.bool (decide (q2n p))) := by
 refine q0f (fn := qbn) rfl (q0a ?_)
 refine go 800 rfl ?_
 rw [List.length_map]
 refine q0p (S := fun k : Nat => ([q0g p, q01 p.length, q01 k], [none, none, none], [0, 0, 0]))
  (C := fun i => i ≤ p.length ∧ ∀ j, j < i → (pt p j ≠ pt p ((j + 1) % p.length) ∧ onS (pt p j) (pt p ((j + 1) % p.length)) (pt p ((j + 2) % p.length)) = false ∧ onS (pt p ((j + 1) % p.length)) (pt p ((j + 2) % p.length)) (pt p j) = false) ∧
    ∀ k, k < p.length → j + 2 ≤ k → (k + 1) % p.length ≠ j → q2S (pt p j) (pt p ((j + 1) % p.length)) (pt p k) (pt p ((k + 1) % p.length)) = false)
  (m := fun k => p.length - k) 0 ⟨by omega, fun j h => by omega⟩ (by omega) ?_ ?_
 ·exact q03 rfl trivial (by simp [q0g, q01])
 intro i ⟨hi, hall⟩ N hN
 refine go 800 rfl ?_
 refine q02 rfl (fun g1 => ?_) (fun g1 => ?_)
 ·rw [q06] at g1
  have hlt : i < p.length := by omega
  have w1 : IntKind.i64.wrap ((i : Int) + 1) = ((i + 1 : Nat) : Int) := wrap64 (by omega) (by omega)
  have w2 : IntKind.i64.wrap ((i : Int) + 2) = ((i + 2 : Nat) : Int) := wrap64 (by omega) (by omega)
  refine go 800 rfl ?_
  refine q0i i rfl rfl rfl (q0D hlt) rfl ?_
  refine go 800 rfl ?_
  refine q3Y rfl rfl (by omega) ?_
  refine go 800 rfl ?_
  refine q0i ((i + 1) % p.length) rfl rfl (by rw [w1, q1m]) (q0D (Nat.mod_lt _ (by omega))) rfl ?_
  refine go 800 rfl ?_
  refine q3Y rfl rfl (by omega) ?_
  refine go 800 rfl ?_
  refine q0i ((i + 2) % p.length) rfl rfl (by rw [w2, q1m]) (q0D (Nat.mod_lt _ (by omega))) rfl ?_
  refine go 800 rfl ?_
  refine q09 rfl (fun e0 => ?_) (fun e0 => ?_)
  ·repeat' (first
    | (refine goP 800 rfl rfl ?_)
    | (show wpM _ _ _ (Fr.ops _ _ (KOper.mk _ _ (some _) _ _ :: _) :: _) Ex.normal _ _ _ _ _; first | refine q0o rfl ?_ | refine q0u rfl ?_ | refine q09 rfl (fun _ => ?_) (fun _ => ?_))
    | (show wpM _ _ _ (Fr.code (K.cond _ _ _) :: _) Ex.normal _ _ _ _ _; first | refine q0m rfl ?_ | refine q0n rfl ?_ | refine q02 rfl (fun _ => ?_) (fun _ => ?_))
    | (show wpM _ _ _ (Fr.ops _ _ (KOper.mk _ _ none _ (KOp.pick _ _ _) :: _) :: _) Ex.normal _ _ _ _ _; refine q0I rfl (fun _ => ?_) (fun _ => ?_))
    | (show wpM _ _ _ [] _ _ _ _ _ _; refine q0c rfl rfl rfl trivial ?_))
   refine q05 ?_
   refine go 800 rfl ?_
   refine q0c rfl rfl rfl trivial ?_
   rw [q0Y] at e0
   have : ¬ q2n p := fun hs => (hs i hlt).1.1 (of_decide_eq_true e0)
   simp [this]
  rw [q0Y] at e0
  refine go 800 rfl ?_
  refine q00 rfl rfl (q98 (pt p i) (pt p ((i + 1) % p.length)) (pt p ((i + 2) % p.length))) ?_
  refine go 800 rfl ?_
  refine q09 rfl (fun e1 => ?_) (fun e1 => ?_)
  ·repeat' (first
    | (refine goP 800 rfl rfl ?_)
    | (show wpM _ _ _ (Fr.ops _ _ (KOper.mk _ _ (some _) _ _ :: _) :: _) Ex.normal _ _ _ _ _; first | refine q0o rfl ?_ | refine q0u rfl ?_ | refine q09 rfl (fun _ => ?_) (fun _ => ?_))
    | (show wpM _ _ _ (Fr.code (K.cond _ _ _) :: _) Ex.normal _ _ _ _ _; first | refine q0m rfl ?_ | refine q0n rfl ?_ | refine q02 rfl (fun _ => ?_) (fun _ => ?_))
    | (show wpM _ _ _ (Fr.ops _ _ (KOper.mk _ _ none _ (KOp.pick _ _ _) :: _) :: _) Ex.normal _ _ _ _ _; refine q0I rfl (fun _ => ?_) (fun _ => ?_))
    | (show wpM _ _ _ [] _ _ _ _ _ _; refine q0c rfl rfl rfl trivial ?_))
   refine q05 ?_
   refine go 800 rfl ?_
   refine q0c rfl rfl rfl trivial ?_
   have : ¬ q2n p := fun hs => by have := (hs i hlt).1.2.1; rw [e1] at this; cases this
   simp [this]
  refine go 800 rfl ?_
  refine q00 rfl rfl (q98 (pt p ((i + 1) % p.length)) (pt p ((i + 2) % p.length)) (pt p i)) ?_
  refine go 800 rfl ?_
  refine q02 rfl (fun e2 => ?_) (fun e2 => ?_)
  ·repeat' (first
    | (refine goP 800 rfl rfl ?_)
    | (show wpM _ _ _ (Fr.ops _ _ (KOper.mk _ _ (some _) _ _ :: _) :: _) Ex.normal _ _ _ _ _; first | refine q0o rfl ?_ | refine q0u rfl ?_ | refine q09 rfl (fun _ => ?_) (fun _ => ?_))
    | (show wpM _ _ _ (Fr.code (K.cond _ _ _) :: _) Ex.normal _ _ _ _ _; first | refine q0m rfl ?_ | refine q0n rfl ?_ | refine q02 rfl (fun _ => ?_) (fun _ => ?_))
    | (show wpM _ _ _ (Fr.ops _ _ (KOper.mk _ _ none _ (KOp.pick _ _ _) :: _) :: _) Ex.normal _ _ _ _ _; refine q0I rfl (fun _ => ?_) (fun _ => ?_))
    | (show wpM _ _ _ [] _ _ _ _ _ _; refine q0c rfl rfl rfl trivial ?_))
   refine q05 ?_
   refine go 800 rfl ?_
   refine q0c rfl rfl rfl trivial ?_
   have : ¬ q2n p := fun hs => by have := (hs i hlt).1.2.2; rw [e2] at this; cases this
   simp [this]
  refine go 800 rfl ?_
  have fin : ∀ {t : q0z} {h : q0e} {z : Frz} {nx : Nat}, (∀ k, k < p.length → i + 2 ≤ k → (k + 1) % p.length ≠ i → q2S (pt p i) (pt p ((i + 1) % p.length)) (pt p k) (pt p ((k + 1) % p.length)) = false) →
   (q18 0 [(0, 0), (3, 0), (4, 0)] t h z nx fun _ _ kp => kp = ([q0g p, q01 p.length, q01 ((i + 1 : Nat) : Int)], [none, none, none], [0, 0, 0])) → N t h z nx := by
   intro t h z nx hm hst
   refine hN (i + 1) ⟨by omega, fun j hj => ?_⟩ (by omega) hst
   by_cases hji : j < i
   ·exact hall j hji
   ·obtain rfl : j = i := by omega
    exact ⟨⟨of_decide_eq_false e0, e1, e2⟩, hm⟩
  clear hN
  refine q0p (S := fun k : Nat => ([q0g p, q01 p.length, q01 i, .ptr 3 0 0, .ptr 4 0 0, q01 k], [none, none, none, some (.row [(pt p i).enc] 2), some (.row [(pt p ((i + 1) % p.length)).enc] 2), none], [0, 0, 0, 0, 0, 0]))
   (C := fun k => i + 2 ≤ k ∧ k ≤ p.length + 2 ∧ ∀ k', k' < p.length → k' < k → i + 2 ≤ k' → (k' + 1) % p.length ≠ i → q2S (pt p i) (pt p ((i + 1) % p.length)) (pt p k') (pt p ((k' + 1) % p.length)) = false)
   (m := fun k => p.length + 2 - k) (i + 2) ⟨by omega, by omega, fun k' _ h1 h2 => by omega⟩ (by omega) ?_ ?_
  ·exact q03 rfl ⟨rfl, rfl, trivial⟩ (by simp [q0g, q01, Spot.enc, w2])
  intro k ⟨hk1, hk2, hkall⟩ N2 hN2
  refine go 800 rfl ?_
  refine q02 rfl (fun e3 => ?_) (fun e3 => ?_)
  ·rw [q06] at e3
   have hkl : k < p.length := by omega
   have wk : IntKind.i64.wrap ((k : Int) + 1) = ((k + 1 : Nat) : Int) := wrap64 (by omega) (by omega)
   have nxt : ∀ {t : q0z} {h : q0e} {z : Frz} {nx : Nat}, ((k + 1) % p.length ≠ i → q2S (pt p i) (pt p ((i + 1) % p.length)) (pt p k) (pt p ((k + 1) % p.length)) = false) →
    (q18 0 [(0, 0), (3, 0), (4, 0), (5, 0), (6, 0), (8, 0)] t h z nx fun _ _ kp => kp = ([q0g p, q01 p.length, q01 i, .ptr 3 0 0, .ptr 4 0 0, q01 ((k + 1 : Nat) : Int)], [none, none, none, some (.row [(pt p i).enc] 2), some (.row [(pt p ((i + 1) % p.length)).enc] 2), none], [0, 0, 0, 0, 0, 0])) → N2 t h z nx := by
    intro t h z nx hm hst
    refine hN2 (k + 1) ⟨by omega, by omega, fun k' q1 q2 q3 q4 => ?_⟩ (by omega) hst
    by_cases hkk : k' < k
    ·exact hkall k' q1 hkk q3 q4
    ·obtain rfl : k' = k := by omega
     exact hm q4
   clear hN2
   refine go 800 rfl ?_
   refine q3Y rfl rfl (by omega) ?_
   refine go 800 rfl ?_
   refine q09 rfl (fun e4 => ?_) (fun e4 => ?_)
   ·rw [q0O, wk, q1m] at e4
    have hne : (k + 1) % p.length ≠ i := fun e => e4 (by rw [e])
    refine go 800 rfl ?_
    refine q0i k rfl rfl rfl (q0D hkl) rfl ?_
    refine go 800 rfl ?_
    refine q3Y rfl rfl (by omega) ?_
    refine go 800 rfl ?_
    refine q0i ((k + 1) % p.length) rfl rfl (by rw [wk, q1m]) (q0D (Nat.mod_lt _ (by omega))) rfl ?_
    refine go 800 rfl ?_
    refine q00 rfl rfl (qp1 (pt p i) (pt p ((i + 1) % p.length)) (pt p k) (pt p ((k + 1) % p.length))) ?_
    refine go 800 rfl ?_
    refine q02 rfl (fun e5 => ?_) (fun e5 => ?_)
    ·refine go 800 rfl ?_
     refine q05 ?_
     refine go 800 rfl ?_
     refine q05 ?_
     refine go 800 rfl ?_
     refine q0c rfl rfl rfl trivial ?_
     have : ¬ q2n p := fun hs => by have := (hs i hlt).2 k hkl hk1 hne; rw [e5] at this; cases this
     simp [this]
    ·refine go 800 rfl ?_
     refine q05 ?_
     exact nxt (fun _ => e5) (q03 rfl ⟨rfl, rfl, trivial⟩ (by simp [q0g, q01, Spot.enc, wk]))
   ·rw [q0S, wk, q1m] at e4
    have hne : (k + 1) % p.length = i := by omega
    repeat' (first
     | (refine goP 800 rfl rfl ?_)
     | (show wpM _ _ _ (Fr.ops _ _ (KOper.mk _ _ (some _) _ _ :: _) :: _) Ex.normal _ _ _ _ _; first | refine q0o rfl ?_ | refine q0u rfl ?_ | refine q09 rfl (fun _ => ?_) (fun _ => ?_))
     | (show wpM _ _ _ (Fr.code (K.cond _ _ _) :: _) Ex.normal _ _ _ _ _; first | refine q0m rfl ?_ | refine q0n rfl ?_ | refine q02 rfl (fun _ => ?_) (fun _ => ?_))
     | (show wpM _ _ _ (Fr.ops _ _ (KOper.mk _ _ none _ (KOp.pick _ _ _) :: _) :: _) Ex.normal _ _ _ _ _; refine q0I rfl (fun _ => ?_) (fun _ => ?_))
     | (show wpM _ _ _ [] _ _ _ _ _ _; refine q0c rfl rfl rfl trivial ?_))
    refine q05 ?_
    exact nxt (fun h => absurd hne h) (q03 rfl ⟨rfl, rfl, trivial⟩ (by simp [q0g, q01, Spot.enc, wk]))
  rw [q07] at e3
  refine go 800 rfl ?_
  refine q05 ?_
  refine go 800 rfl ?_
  refine q05 ?_
  exact fin (fun k' q1 q2 q3 => hkall k' q1 (by omega) q2 q3) (q03 rfl trivial (by simp [q0g, q01, w1]))
 rw [q07] at g1
 refine go 800 rfl ?_
 refine q05 ?_
 refine go 800 rfl ?_
 refine q0c rfl rfl rfl trivial ?_
 have : q2n p := fun i h => hall i (by omega)
 simp [this]
theorem qc7 (p : List Spot) : PU q9G [q0g p] = some (.int .i64 (q1V p)) := by
 refine q0f (fn := qcP) rfl (q0a ?_)
 refine go 800 rfl ?_
 refine q02 rfl (fun h1 => ?_) (fun h1 => ?_)
 ·refine go 800 rfl ?_
  refine q0c rfl rfl rfl trivial ?_
  rw [q06, List.length_map] at h1
  rw [q1V, if_pos (by omega)]
 refine go 800 rfl ?_
 rw [q07, List.length_map] at h1
 refine q02 rfl (fun h2 => ?_) (fun h2 => ?_)
 ·refine go 800 rfl ?_
  refine q0c rfl rfl rfl trivial ?_
  rw [q06, List.length_map] at h2
  rw [q1V, if_neg (by omega), if_pos (by omega)]
 refine go 800 rfl ?_
 rw [q07, List.length_map] at h2
 refine q0p (S := fun k : Nat => ([q0g p, q01 k], [none, none], [0, 0])) (C := fun k => k ≤ p.length ∧ ∀ i, i < k → (!q0v (pt p i) 1048576) = false) (m := fun k => p.length - k) 0 ⟨by omega, fun i hi => by omega⟩ (by omega) ?_ ?_
 ·exact q03 rfl trivial (by simp [q0g, q01])
 intro k ⟨hk, hall⟩ N hN
 refine go 800 rfl ?_
 refine q02 rfl (fun g1 => ?_) (fun g1 => ?_)
 ·rw [q06, List.length_map] at g1
  have hlt : k < p.length := by omega
  have w1 : IntKind.i64.wrap ((k : Int) + 1) = ((k + 1 : Nat) : Int) := wrap64 (by omega) (by omega)
  refine go 800 rfl ?_
  refine q0i k rfl rfl rfl (q0D hlt) rfl ?_
  refine go 800 rfl ?_
  refine q00 rfl rfl (qf8 (pt p k)) ?_
  refine go 800 rfl ?_
  refine q02 rfl (fun g2 => ?_) (fun g2 => ?_)
  ·refine go 800 rfl ?_
   refine q05 ?_
   refine go 800 rfl ?_
   refine q0c rfl rfl rfl trivial ?_
   have : (p.any fun s => !q0v s 1048576) = true := List.any_eq_true.2 ⟨pt p k, by rw [q0F hlt]; exact List.getElem_mem hlt, g2⟩
   rw [q1V, if_neg (by omega), if_neg (by omega), if_pos this]
  ·refine go 800 rfl ?_
   refine q05 ?_
   refine hN (k + 1) ⟨by omega, fun i hi => ?_⟩ (by omega) (q03 rfl trivial (by simp [q0g, q01, w1]))
   by_cases hik : i < k
   ·exact hall i hik
   ·obtain rfl : i = k := by omega
    exact g2
 rw [q07, List.length_map] at g1
 have hany : (p.any fun s => !q0v s 1048576) = false := by
  rw [List.any_eq_false]
  intro s hs
  obtain ⟨i, hi, rfl⟩ := List.getElem_of_mem hs
  rw [← q0F hi, hall i (by omega)]
  decide
 have := qqV hany
 refine go 800 rfl ?_
 refine q05 ?_
 refine go 800 rfl ?_
 refine q00 rfl rfl (qlY p (by omega) (by omega)) ?_
 refine go 800 rfl ?_
 have hsi := qbZ (p := p) (by omega)
 refine q02 rfl (fun h4 => ?_) (fun h4 => ?_)
 ·refine go 800 rfl ?_
  refine q0c rfl rfl rfl trivial ?_
  have h4' : ¬ q2n p := by simpa using h4
  rw [q1V, if_neg (by omega), if_neg (by omega), if_neg (by rw [hany]; decide), if_neg (by rw [hsi]; exact h4')]
 ·refine go 800 rfl ?_
  refine q0c rfl rfl rfl trivial ?_
  have h4' : q2n p := by simpa using h4
  rw [q1V, if_neg (by omega), if_neg (by omega), if_neg (by rw [hany]; decide), if_pos (hsi.2 h4')]
end Go.F

namespace Go.F
attribute [local irreducible] IntKind.wrap wpM
theorem qog (l : List Edge) (k : Nat) (hk : k < l.length) (hl : l.length < 4611686018427387904) : PU qil [q0s l, .int .i64 k, .str (eg l k).name] = some (.bool (qdy l k)) := by
 refine q0f (fn := qcQ) rfl (q0a ?_)
 refine go 800 rfl ?_
 refine q0p (S := fun j : Nat => ([q0s l, q01 k, .str (eg l k).name, q01 j], [none, none, none, none], [0, 0, 0, 0])) (C := fun j => j ≤ k ∧ ∀ i, i < j → ((eg l i).name.toList == (eg l k).name.toList) = false) (m := fun j => k - j) 0 ⟨by omega, fun i hi => by omega⟩ (by omega) ?_ ?_
 ·exact q03 rfl trivial (by simp [q0s, q01])
 intro j ⟨hj, hno⟩ N hN
 refine go 800 rfl ?_
 refine q02 rfl (fun e1 => ?_) (fun e1 => ?_)
 ·rw [q06] at e1
  have hjk : j < k := by omega
  have wj : IntKind.i64.wrap ((j : Int) + 1) = ((j + 1 : Nat) : Int) := wrap64 (by omega) (by omega)
  refine go 800 rfl ?_
  refine q0i j rfl rfl rfl (q15 (by omega)) rfl ?_
  refine go 800 rfl ?_
  refine q02 rfl (fun e2 => ?_) (fun e2 => ?_)
  ·refine go 800 rfl ?_
   refine q05 ?_
   refine go 800 rfl ?_
   refine q0c rfl rfl rfl trivial ?_
   rw [qfH hjk e2]
  ·refine go 800 rfl ?_
   refine q05 ?_
   refine hN (j + 1) ⟨by omega, fun i hi => ?_⟩ (by omega) (q03 rfl trivial (by simp [q0s, q01, wj]))
   by_cases hij : i < j
   ·exact hno i hij
   ·obtain rfl : i = j := by omega
    exact e2
 rw [q07] at e1
 refine go 800 rfl ?_
 refine q05 ?_
 refine go 800 rfl ?_
 refine q0c rfl rfl rfl trivial ?_
 rw [qhM fun i hi => hno i (by omega)]
theorem q3X {l : List Edge} {k : Nat} (h : k < l.length) : q0k (l.take (k + 1)) = q0k (l.take k) ++ (eg l k).line.dropLast := by
 rw [q99 h, q4z h]
set_option maxHeartbeats 1000000 in
theorem qcr (l : List Edge) (h1 : ∀ e ∈ l, e.line.length ≤ 100000) (hl : l.length ≤ 100000) (hv : (q0k l).length ≤ 100000) : PU q9c [q0s l] = some (q0g (q0k l)) := by
 refine q0f (fn := q8S) rfl (q0a ?_)
 refine go 800 rfl ?_
 refine q0p (S := fun k : Nat => ([q0s l, .ref 1 0 (q0k (l.take k)).length, q01 k], [none, some (.row ((q0k (l.take k)).map Spot.enc) 2), none], [0, 0, 0])) (C := fun k => k ≤ l.length) (m := fun k => l.length - k) 0 (by omega) (by omega) ?_ ?_
 ·exact q03 rfl ⟨rfl, trivial⟩ (by simp [q0s, q01, q0k])
 intro k hk N hN
 refine go 800 rfl ?_
 refine q02 rfl (fun g1 => ?_) (fun g1 => ?_)
 ·rw [q06, List.length_map] at g1
  have hlt : k < l.length := by omega
  have w1 : IntKind.i64.wrap ((k : Int) + 1) = ((k + 1 : Nat) : Int) := wrap64 (by omega) (by omega)
  have hln : (eg l k).line.length ≤ 100000 := by rw [q4z hlt]; exact h1 _ (List.getElem_mem hlt)
  have hcells : ((eg l k).line.map Spot.enc).all (fun d => d.cells.length == 2) = true := q1S (f := Spot.enc) (n := 2) (fun _ => rfl) _
  have hle := qaI (l := l) (k + 1)
  rw [q3X hlt, List.length_append] at hle
  refine go 800 rfl ?_
  refine q0i k rfl rfl rfl (q15 hlt) rfl ?_
  refine go 800 rfl ?_
  refine q02 rfl (fun g2 => ?_) (fun g2 => ?_)
  ·rw [q06, List.length_map] at g2
   have w2 : IntKind.i64.wrap (((eg l k).line.length : Int) - 1) = (((eg l k).line.length - 1 : Nat) : Int) := by rw [wrap64 (by omega) (by omega)]; omega
   refine go 800 rfl ?_
   refine q0i k rfl rfl rfl (q15 hlt) rfl ?_
   refine go 800 rfl ?_
   refine qg6 ((eg l k).line.length - 1) rfl hcells ⟨_, _, rfl, by rw [List.length_map]; exact w2⟩ (by simp) ?_
   refine go 800 rfl ?_
   have e : ((eg l k).line.map Spot.enc).take ((eg l k).line.length - 1) = (eg l k).line.dropLast.map Spot.enc := by
    rw [List.dropLast_eq_take, List.map_take]
   rw [e]
   refine qrV rfl rfl rfl (q1S (f := Spot.enc) (n := 2) (fun _ => rfl) _) (by simp) (Nat.zero_le _) (by simp [q0K] at *; omega) ?_
   refine go 800 rfl ?_
   refine q05 ?_
   refine hN (k + 1) (by omega) (by omega) (q03 rfl ⟨by rw [← List.map_append]; exact q04 q0h _, trivial⟩ ?_)
   simp [q0s, q01, w1, q3X hlt]
  ·rw [q07, List.length_map] at g2
   have h0 : (eg l k).line = [] := List.eq_nil_of_length_eq_zero (by omega)
   refine go 800 rfl ?_
   refine q05 ?_
   refine hN (k + 1) (by omega) (by omega) (q03 rfl ⟨q04 q0h _, trivial⟩ ?_)
   simp [q0s, q01, w1, q3X hlt, h0]
 rw [q07, List.length_map] at g1
 refine go 800 rfl ?_
 refine q05 ?_
 refine go 800 rfl ?_
 obtain rfl : k = l.length := by omega
 rw [List.take_length]
 refine q0c rfl rfl rfl ⟨q2u (by simp) (q0T q24 _), trivial⟩ ?_
 rw [q2q (by simp), q0g]
set_option maxHeartbeats 2000000 in
theorem q6W (l : List Edge) : PU q6n [q0s l] = some (.int .i64 (q0J l)) := by
 refine q0f (fn := qcK) rfl (q0a ?_)
 refine go 800 rfl ?_
 refine q02 rfl (fun h1 => ?_) (fun h1 => ?_)
 ·refine go 800 rfl ?_
  refine q0c rfl rfl rfl trivial ?_
  rw [q06, List.length_map] at h1
  rw [q0J, if_pos (by omega)]
 refine go 800 rfl ?_
 rw [q07, List.length_map] at h1
 refine q02 rfl (fun h2 => ?_) (fun h2 => ?_)
 ·refine go 800 rfl ?_
  refine q0c rfl rfl rfl trivial ?_
  rw [q06, List.length_map] at h2
  rw [q0J, if_neg (by omega), if_pos (by omega)]
 refine go 800 rfl ?_
 rw [q07, List.length_map] at h2
 refine q0p (S := fun k : Nat => ([q0s l, q01 k], [none, none], [0, 0])) (C := fun k => k ≤ l.length ∧ q1n (q1q l) k = 0) (m := fun k => l.length - k) 0 ⟨by omega, rfl⟩ (by omega) ?_ ?_
 ·exact q03 rfl trivial (by simp [q0s, q01])
 intro k ⟨hk, hall⟩ N hN
 refine go 800 rfl ?_
 refine q02 rfl (fun g1 => ?_) (fun g1 => ?_)
 ·rw [q06, List.length_map] at g1
  have hlt : k < l.length := by omega
  have w1 : IntKind.i64.wrap ((k : Int) + 1) = ((k + 1 : Nat) : Int) := wrap64 (by omega) (by omega)
  have no : q1q l k ≠ 0 → q0J l = q1q l k := by
   intro hc
   have := q9D hall hc hlt
   rw [q0J, if_neg (by omega), if_neg (by omega), if_neg (by rw [this]; exact hc), this]
  refine go 800 rfl ?_
  refine q0i k rfl rfl rfl (q15 hlt) rfl ?_
  refine go 800 rfl ?_
  refine q00 rfl rfl (qp4 (eg l k).name) ?_
  refine go 800 rfl ?_
  refine q02 rfl (fun g2 => ?_) (fun g2 => ?_)
  ·refine go 800 rfl ?_
   refine q05 ?_
   refine go 800 rfl ?_
   refine q0c rfl rfl rfl trivial ?_
   have : q1q l k = 1 := by rw [q1q, if_pos (by simpa using g2)]
   rw [no (by rw [this]; decide), this]
  have g2' : ¬ q3O (eg l k).name = false := by simpa using g2
  refine go 800 rfl ?_
  refine q0i k rfl rfl rfl (q15 hlt) rfl ?_
  refine go 800 rfl ?_
  refine q00 rfl rfl (qog l k hlt (by omega)) ?_
  refine go 800 rfl ?_
  refine q02 rfl (fun e2 => ?_) (fun e2 => ?_)
  ·refine go 800 rfl ?_
   refine q05 ?_
   refine go 800 rfl ?_
   refine q0c rfl rfl rfl trivial ?_
   have : q1q l k = 7 := by rw [q1q, if_neg g2', if_pos e2]
   rw [no (by rw [this]; decide), this]
  refine go 800 rfl ?_
  have hee : q1q l k = q1v (eg l k).line := by rw [q1q, if_neg g2', if_neg (by rw [e2]; decide)]
  refine q0i k rfl rfl rfl (q15 hlt) rfl ?_
  refine go 800 rfl ?_
  refine q00 rfl rfl (qgW (eg l k).line) ?_
  refine go 800 rfl ?_
  refine q02 rfl (fun g3 => ?_) (fun g3 => ?_)
  ·rw [q0O, ← hee] at g3
   refine go 800 rfl ?_
   refine q05 ?_
   refine go 800 rfl ?_
   refine q0c rfl rfl rfl trivial ?_
   rw [no g3, hee]
  ·rw [q0S, ← hee] at g3
   refine go 800 rfl ?_
   refine q05 ?_
   exact hN (k + 1) ⟨by omega, q5z hall g3⟩ (by omega) (q03 rfl trivial (by simp [q0s, q01, w1]))
 rw [q07, List.length_map] at g1
 obtain rfl : k = l.length := by omega
 clear hN hk g1
 have hln : ∀ i, i < l.length → 2 ≤ (eg l i).line.length ∧ (eg l i).line.length ≤ 40 ∧ _ := fun i hi => q1T (q4Q (q2f hall hi))
 refine go 800 rfl ?_
 refine q05 ?_
 refine go 800 rfl ?_
 refine q0p (S := fun k : Nat => ([q0s l, q01 k], [none, none], [0, 0])) (C := fun k => k ≤ l.length ∧ q1n (q2O l) k = 0) (m := fun k => l.length - k) 0 ⟨by omega, rfl⟩ (by omega) ?_ ?_
 ·exact q03 rfl trivial (by simp [q0s, q01])
 intro k ⟨hk, hjo⟩ N hN
 refine go 800 rfl ?_
 refine q02 rfl (fun g1 => ?_) (fun g1 => ?_)
 ·rw [q06, List.length_map] at g1
  have hlt : k < l.length := by omega
  have hlt2 : (k + 1) % l.length < l.length := Nat.mod_lt _ (by omega)
  have w1 : IntKind.i64.wrap ((k : Int) + 1) = ((k + 1 : Nat) : Int) := wrap64 (by omega) (by omega)
  have a1 := hln k hlt
  have a2 := hln _ hlt2
  have w2 : IntKind.i64.wrap (((eg l k).line.length : Int) - 1) = (((eg l k).line.length - 1 : Nat) : Int) := by rw [wrap64 (by omega) (by omega)]; omega
  refine go 800 rfl ?_
  refine q0i k rfl rfl rfl (q15 hlt) rfl ?_
  refine go 800 rfl ?_
  refine q3Y rfl rfl (by rw [List.length_map]; omega) ?_
  refine go 800 rfl ?_
  refine q0i ((k + 1) % l.length) rfl rfl (by rw [w1, List.length_map, q1m]) (q15 hlt2) rfl ?_
  refine go 800 rfl ?_
  refine q0i ((eg l k).line.length - 1) rfl rfl (by rw [List.length_map]; exact w2) (q0D (by omega)) rfl ?_
  refine go 800 rfl ?_
  refine q0i 0 rfl rfl rfl (q0D (by omega)) rfl ?_
  refine go 800 rfl ?_
  refine q02 rfl (fun g2 => ?_) (fun g2 => ?_)
  ·refine go 800 rfl ?_
   refine q05 ?_
   refine go 800 rfl ?_
   refine q0c rfl rfl rfl trivial ?_
   rw [q0Y] at g2
   have : q2O l k = 11 := by rw [q2O, if_neg (by simpa using g2)]
   have h11 := q9D hjo (by rw [this]; decide) hlt
   rw [q0J, if_neg (by omega), if_neg (by omega), if_pos hall, if_neg (by rw [h11, this]; decide), h11, this]
  ·refine go 800 rfl ?_
   refine q05 ?_
   rw [q0Y] at g2
   have : q2O l k = 0 := by rw [q2O, if_pos (by simpa using g2)]
   refine hN (k + 1) ⟨by omega, q5z hjo this⟩ (by omega) (q03 rfl trivial (by simp [q0s, q01, w1]))
 rw [q07, List.length_map] at g1
 obtain rfl : k = l.length := by omega
 refine go 800 rfl ?_
 refine q05 ?_
 refine go 800 rfl ?_
 have hb : ∀ e ∈ l, 1 ≤ e.line.length ∧ e.line.length ≤ 40 := by
  intro e he
  obtain ⟨i, hi, rfl⟩ := qnw he
  have := hln i hi
  exact ⟨by omega, by omega⟩
 have hv := q9E (m := 40) fun e he => (hb e he).2
 refine q00 rfl rfl (qcr l (fun e he => by have := (hb e he).2; omega) (by omega) (by omega)) ?_
 refine go 800 rfl ?_
 refine q00 rfl rfl (qc7 (q0k l)) ?_
 refine go 800 rfl ?_
 refine q0c rfl rfl rfl trivial ?_
 rw [q0J, if_neg (by omega), if_neg (by omega), if_pos hall, if_pos hjo]
end Go.F

namespace Go.F
theorem RR.of_den (q : Rat) : val (RR.of q).den = q.den := q0j _
end Go.F

namespace Go.F
def qaq (a b c : QP) : Rat := (b.x - a.x) * (c.y - a.y) - (b.y - a.y) * (c.x - a.x)
theorem qbR (a b c : Spot) : qaq (qp a) (qp b) (qp c) = ((q0X a b c : Int) : Rat) := by
 unfold qaq q0X qp
 simp only [Rat.intCast_sub, Rat.intCast_mul]
theorem qtz (a b c d : QP) (t : Rat) : qaq a b (onP c d t) = (1 - t) * qaq a b c + t * qaq a b d := by
 unfold qaq onP qe9 q4d q1t
 simp only
 grind
theorem qiE (a b : QP) (s : Rat) : qaq a b (onP a b s) = 0 := by
 unfold qaq onP qe9 q4d q1t
 simp only
 grind
theorem qwE {a b s : Rat} (h0 : 0 ≤ s) (h1 : s ≤ 1) : min a b ≤ a + (b - a) * s ∧ a + (b - a) * s ≤ max a b := by
 rw [Rat.min_def, Rat.max_def]
 by_cases h : a ≤ b
 ·rw [if_pos h, if_pos h]
  have p1 := Rat.mul_nonneg (show 0 ≤ b - a by grind) h0
  have p2 := Rat.mul_nonneg (show 0 ≤ b - a by grind) (show 0 ≤ 1 - s by grind)
  constructor <;> grind
 ·rw [if_neg h, if_neg h]
  have p1 := Rat.mul_nonneg (show 0 ≤ a - b by grind) h0
  have p2 := Rat.mul_nonneg (show 0 ≤ a - b by grind) (show 0 ≤ 1 - s by grind)
  constructor <;> grind
theorem qiF {a b q : Int} {s : Rat} (h0 : 0 ≤ s) (h1 : s ≤ 1) (he : (q : Rat) = a + ((b : Rat) - a) * s) : min a b ≤ q ∧ q ≤ max a b := by
 have h := qwE (a := (a : Rat)) (b := (b : Rat)) h0 h1
 rw [← he, Rat.min_def, Rat.max_def] at h
 by_cases hab : a ≤ b
 ·have : (a : Rat) ≤ (b : Rat) := Rat.intCast_le_intCast.2 hab
  rw [if_pos this, if_pos this, Rat.intCast_le_intCast, Rat.intCast_le_intCast] at h
  omega
 ·have : ¬ (a : Rat) ≤ (b : Rat) := fun hh => hab (Rat.intCast_le_intCast.1 hh)
  rw [if_neg this, if_neg this, Rat.intCast_le_intCast, Rat.intCast_le_intCast] at h
  omega
theorem qgM {a b q : Spot} {s : Rat} (h0 : 0 ≤ s) (h1 : s ≤ 1) (he : qp q = onP (qp a) (qp b) s) : onS a b q = true := by
 have hc : q0X a b q = 0 := by
  have : ((q0X a b q : Int) : Rat) = 0 := by rw [← qbR, he, qiE]
  exact Rat.intCast_eq_zero_iff.1 this
 have hx : (q.x : Rat) = a.x + ((b.x : Rat) - a.x) * s := congrArg QP.x he
 have hy : (q.y : Rat) = a.y + ((b.y : Rat) - a.y) * s := congrArg QP.y he
 have bx := qiF h0 h1 hx
 have by' := qiF h0 h1 hy
 unfold onS
 simp [hc, bx, by']
theorem qkF {a b c : Spot} (hab : a ≠ b) (hc : q0X a b c = 0) : ∃ s : Rat, qp c = onP (qp a) (qp b) s := by
 have hq : qaq (qp a) (qp b) (qp c) = 0 := by rw [qbR, hc]; rfl
 unfold qaq at hq
 by_cases hx : b.x = a.x
 ·have hy : b.y ≠ a.y := fun h => hab (by cases a; cases b; simp at hx h ⊢; omega)
  have hy' : (qp b).y - (qp a).y ≠ 0 := by
   show (b.y : Rat) - (a.y : Rat) ≠ 0
   rw [← Rat.intCast_sub]; intro h; rw [Rat.intCast_eq_zero_iff] at h; omega
  have hx' : (qp b).x = (qp a).x := by show (b.x : Rat) = (a.x : Rat); rw [hx]
  refine ⟨((qp c).y - (qp a).y) / ((qp b).y - (qp a).y), ?_⟩
  have ht := Rat.div_mul_cancel (a := (qp c).y - (qp a).y) hy'
  generalize ((qp c).y - (qp a).y) / ((qp b).y - (qp a).y) = t at ht
  have h1 : ((qp b).y - (qp a).y) * ((qp c).x - (qp a).x) = 0 := by grind
  have h2 : (qp c).x = (qp a).x := by
   rcases Rat.mul_eq_zero.1 h1 with h | h
   ·exact absurd h hy'
   ·grind
  unfold onP qe9 q4d q1t
  cases hcc : qp c with
  | mk cx cy =>
    rw [hcc] at h2 ht
    simp only [QP.mk.injEq] at h2 ht ⊢
    constructor <;> grind
 ·have hx' : (qp b).x - (qp a).x ≠ 0 := by
   show (b.x : Rat) - (a.x : Rat) ≠ 0
   rw [← Rat.intCast_sub]; intro h; rw [Rat.intCast_eq_zero_iff] at h; omega
  refine ⟨((qp c).x - (qp a).x) / ((qp b).x - (qp a).x), ?_⟩
  have ht := Rat.div_mul_cancel (a := (qp c).x - (qp a).x) hx'
  generalize ((qp c).x - (qp a).x) / ((qp b).x - (qp a).x) = t at ht
  have h1 : ((qp b).x - (qp a).x) * ((qp c).y - (qp a).y - ((qp b).y - (qp a).y) * t) = 0 := by grind
  have h2 : (qp c).y - (qp a).y - ((qp b).y - (qp a).y) * t = 0 := by
   rcases Rat.mul_eq_zero.1 h1 with h | h
   ·exact absurd h hx'
   ·exact h
  unfold onP qe9 q4d q1t
  cases hcc : qp c with
  | mk cx cy =>
    rw [hcc] at h2 ht
    simp only [QP.mk.injEq] at h2 ht ⊢
    constructor <;> grind
end Go.F

namespace Go.F
theorem qnO {a b : Spot} (hab : a ≠ b) {s t : Rat} (h : onP (qp a) (qp b) s = onP (qp a) (qp b) t) : s = t := by
 have hx : (qp a).x + ((qp b).x - (qp a).x) * s = (qp a).x + ((qp b).x - (qp a).x) * t := congrArg QP.x h
 have hy : (qp a).y + ((qp b).y - (qp a).y) * s = (qp a).y + ((qp b).y - (qp a).y) * t := congrArg QP.y h
 by_cases h1 : b.x = a.x
 ·have h2 : b.y ≠ a.y := fun h => hab (by cases a; cases b; simp at h1 h ⊢; omega)
  have hy' : (qp b).y - (qp a).y ≠ 0 := by
   show (b.y : Rat) - (a.y : Rat) ≠ 0
   rw [← Rat.intCast_sub]; intro h; rw [Rat.intCast_eq_zero_iff] at h; omega
  have : ((qp b).y - (qp a).y) * (s - t) = 0 := by grind
  rcases Rat.mul_eq_zero.1 this with h | h
  ·exact absurd h hy'
  ·grind
 ·have hx' : (qp b).x - (qp a).x ≠ 0 := by
   show (b.x : Rat) - (a.x : Rat) ≠ 0
   rw [← Rat.intCast_sub]; intro h; rw [Rat.intCast_eq_zero_iff] at h; omega
  have : ((qp b).x - (qp a).x) * (s - t) = 0 := by grind
  rcases Rat.mul_eq_zero.1 this with h | h
  ·exact absurd h hx'
  ·grind
theorem on_on (a b : QP) (s1 s2 t : Rat) : onP (onP a b s1) (onP a b s2) t = onP a b (s1 + (s2 - s1) * t) := by
 unfold onP qe9 q4d q1t; simp only [QP.mk.injEq]; constructor <;> grind
theorem qnP (a b : QP) : onP a b 0 = a := by
 cases a; unfold onP qe9 q4d q1t; simp only [QP.mk.injEq]; constructor <;> grind
theorem qvt (a b : QP) : onP a b 1 = b := by
 cases b; unfold onP qe9 q4d q1t; simp only [QP.mk.injEq]; constructor <;> grind
theorem qe4 {a b c d : Spot} (hab : a ≠ b) (h1 : q0X a b c = 0) (h2 : q0X a b d = 0) {s t : Rat} (hs0 : 0 ≤ s) (hs1 : s ≤ 1) (ht0 : 0 ≤ t) (ht1 : t ≤ 1) (he : onP (qp a) (qp b) s = onP (qp c) (qp d) t) :
 onS a b c = true ∨ onS a b d = true ∨ onS c d a = true := by
 obtain ⟨s1, e1⟩ := qkF hab h1
 obtain ⟨s2, e2⟩ := qkF hab h2
 rw [e1, e2, on_on] at he
 have hs := qnO hab he
 by_cases c1 : 0 ≤ s1 ∧ s1 ≤ 1
 ·exact .inl (qgM c1.1 c1.2 e1)
 by_cases c2 : 0 ≤ s2 ∧ s2 ≤ 1
 ·exact .inr (.inl (qgM c2.1 c2.2 e2))
 have hne : s2 - s1 ≠ 0 := by
  intro h
  have : s = s1 := by rw [hs, h]; grind
  exact c1 ⟨by grind, by grind⟩
 have p1 : s - s1 = (s2 - s1) * t := by grind
 have p2 : s2 - s = (s2 - s1) * (1 - t) := by grind
 have hcase : (s1 < 0 ∧ 1 < s2) ∨ (s2 < 0 ∧ 1 < s1) := by
  rcases Rat.le_total (a := s1) (b := s2) with h | h
  ·have q1 := Rat.mul_nonneg (show 0 ≤ s2 - s1 by grind) ht0
   have q2 := Rat.mul_nonneg (show 0 ≤ s2 - s1 by grind) (show 0 ≤ 1 - t by grind)
   left; grind
  ·have q1 := Rat.mul_nonneg (show 0 ≤ s1 - s2 by grind) ht0
   have q2 := Rat.mul_nonneg (show 0 ≤ s1 - s2 by grind) (show 0 ≤ 1 - t by grind)
   right; grind
 right; right
 have hr := Rat.div_mul_cancel (a := 0 - s1) hne
 have hd : onP (qp c) (qp d) ((0 - s1) / (s2 - s1)) = qp a := by
  rw [e1, e2, on_on]
  have : s1 + (s2 - s1) * ((0 - s1) / (s2 - s1)) = 0 := by grind
  rw [this, qnP]
 generalize (0 - s1) / (s2 - s1) = r at hr hd
 refine qgM (s := r) ?_ ?_ hd.symm
 ·rcases hcase with ⟨g1, g2⟩ | ⟨g1, g2⟩
  ·by_cases hh : 0 ≤ r
   ·exact hh
   ·have := Rat.mul_pos (show 0 < -r by grind) (show 0 < s2 - s1 by grind)
    grind
  ·by_cases hh : 0 ≤ r
   ·exact hh
   ·have := Rat.mul_pos (show 0 < -r by grind) (show 0 < s1 - s2 by grind)
    grind
 ·rcases hcase with ⟨g1, g2⟩ | ⟨g1, g2⟩
  ·by_cases hh : r ≤ 1
   ·exact hh
   ·have := Rat.mul_pos (show 0 < r - 1 by grind) (show 0 < s2 - s1 by grind)
    grind
  ·by_cases hh : r ≤ 1
   ·exact hh
   ·have := Rat.mul_pos (show 0 < r - 1 by grind) (show 0 < s1 - s2 by grind)
    grind
theorem qpz {x y : Int} (h : (0 < x ∧ y < 0) ∨ (x < 0 ∧ 0 < y)) : sgn x * sgn y < 0 := by
 unfold sgn
 rcases h with ⟨h1, h2⟩ | ⟨h1, h2⟩
 ·rw [if_neg (by omega), if_pos h1, if_pos h2]; decide
 ·rw [if_pos h1, if_neg (by omega), if_pos h2]; decide
theorem qkG {a b c d : Spot} {s t : Rat} (ht0 : 0 ≤ t) (ht1 : t ≤ 1) (he : onP (qp a) (qp b) s = onP (qp c) (qp d) t) :
 (sgn (q0X a b c) * sgn (q0X a b d) < 0) ∨ (q0X a b c = 0 ∧ q0X a b d = 0) ∨ (q0X a b c = 0 ∧ t = 0) ∨ (q0X a b d = 0 ∧ t = 1) := by
 have h0 : (1 - t) * ((q0X a b c : Int) : Rat) + t * ((q0X a b d : Int) : Rat) = 0 := by
  rw [← qbR, ← qbR, ← qtz, ← he, qiE]
 generalize q0X a b c = x at *
 generalize q0X a b d = y at *
 by_cases hx : x = 0
 ·subst hx
  have : t * ((y : Int) : Rat) = 0 := by grind
  rcases Rat.mul_eq_zero.1 this with h | h
  ·exact .inr (.inr (.inl ⟨rfl, h⟩))
  ·exact .inr (.inl ⟨rfl, Rat.intCast_eq_zero_iff.1 h⟩)
 by_cases hy : y = 0
 ·subst hy
  have : (1 - t) * ((x : Int) : Rat) = 0 := by grind
  rcases Rat.mul_eq_zero.1 this with h | h
  ·exact .inr (.inr (.inr ⟨rfl, by grind⟩))
  ·exact absurd (Rat.intCast_eq_zero_iff.1 h) hx
 left
 apply qpz
 rcases Int.lt_or_gt_of_ne hx with h1 | h1 <;> rcases Int.lt_or_gt_of_ne hy with h2 | h2
 ·exfalso
  have g1 : (x : Rat) < 0 := Rat.intCast_neg_iff.2 h1
  have g2 : (y : Rat) < 0 := Rat.intCast_neg_iff.2 h2
  rcases Rat.le_iff_lt_or_eq.1 ht0 with h | h
  ·have q1 := Rat.mul_pos h (show 0 < -(y : Rat) by grind)
   have q2 := Rat.mul_nonneg (show 0 ≤ 1 - t by grind) (show 0 ≤ -(x : Rat) by grind)
   grind
  ·rw [← h] at h0; grind
 ·right; exact ⟨h1, h2⟩
 ·left; exact ⟨h1, h2⟩
 ·exfalso
  have g1 : 0 < (x : Rat) := Rat.intCast_pos.2 h1
  have g2 : 0 < (y : Rat) := Rat.intCast_pos.2 h2
  rcases Rat.le_iff_lt_or_eq.1 ht0 with h | h
  ·have q1 := Rat.mul_pos h g2
   have q2 := Rat.mul_nonneg (show 0 ≤ 1 - t by grind) (show 0 ≤ (x : Rat) by grind)
   grind
  ·rw [← h] at h0; grind
theorem qpA {a b c d : Spot} (hab : a ≠ b) (hcd : c ≠ d) {s t : Rat} (hs0 : 0 ≤ s) (hs1 : s ≤ 1) (ht0 : 0 ≤ t) (ht1 : t ≤ 1) (he : onP (qp a) (qp b) s = onP (qp c) (qp d) t) : q2S a b c d = true := by
 have key : onS a b c = true ∨ onS a b d = true ∨ onS c d a = true ∨ onS c d b = true ∨ (q2s a b c d = true ∧ q2s c d a b = true) := by
  rcases qkG ht0 ht1 he with h | ⟨h, h'⟩ | ⟨h, h'⟩ | ⟨h, h'⟩
  ·rcases qkG hs0 hs1 he.symm with g | ⟨g, g'⟩ | ⟨g, g'⟩ | ⟨g, g'⟩
   ·right; right; right; right
    unfold q2s; simp [h, g]
   ·rcases qe4 hcd g g' ht0 ht1 hs0 hs1 he.symm with k | k | k
    ·exact .inr (.inr (.inl k))
    ·exact .inr (.inr (.inr (.inl k)))
    ·exact .inl k
   ·subst g'; rw [qnP] at he; exact .inr (.inr (.inl (qgM ht0 ht1 he)))
   ·subst g'; rw [qvt] at he; exact .inr (.inr (.inr (.inl (qgM ht0 ht1 he))))
  ·rcases qe4 hab h h' hs0 hs1 ht0 ht1 he with k | k | k
   ·exact .inl k
   ·exact .inr (.inl k)
   ·exact .inr (.inr (.inl k))
  ·subst h'; rw [qnP] at he; exact .inl (qgM hs0 hs1 he.symm)
  ·subst h'; rw [qvt] at he; exact .inr (.inl (qgM hs0 hs1 he.symm))
 unfold q2S
 rcases key with h | h | h | h | ⟨h, h'⟩
 ·simp [h]
 ·simp [h]
 ·simp [h]
 ·simp [h]
 ·simp [h, h']
end Go.F

namespace Go.F
theorem bounds (U : Nat → Int) (n : Nat) : ∃ (lo : Int) (N : Nat), ∀ j, j ≤ n → lo ≤ U j ∧ U j ≤ lo + N := by
 induction n with
 | zero =>
   refine ⟨U 0, 0, fun j hj => ?_⟩
   have : j = 0 := by omega
   subst this; omega
 | succ k ih =>
   obtain ⟨lo, N, h⟩ := ih
   refine ⟨min lo (U (k + 1)), (max (lo + N) (U (k + 1)) - min lo (U (k + 1))).toNat, ?_⟩
   intro j hj
   by_cases e : j = k + 1
   ·subst e; omega
   ·have := h j (by omega); omega
end Go.F

namespace Go.F
def shU (p : List Spot) (i : Nat) : Int := 16777216 * (vx p i).x + (vx p i).y
def shV (p : List Spot) (i : Nat) : Int := (vx p i).y
def shT (p : List Spot) (i : Nat) : Rat := ((shV p (i + 1) : Rat) - shV p i) / ((shU p (i + 1) : Rat) - shU p i)
def yR (p : List Spot) (j : Nat) (u : Rat) : Rat := (shV p j : Rat) + shT p j * (u - (shU p j : Rat))
def inR (p : List Spot) (j : Nat) (u : Rat) : Prop := ((shU p j : Rat) ≤ u ∧ u ≤ (shU p (j + 1) : Rat)) ∨ ((shU p (j + 1) : Rat) ≤ u ∧ u ≤ (shU p j : Rat))
theorem qar (a b : Rat) : a ≤ b ∨ b ≤ a := Rat.le_total
theorem qiI {a b r : Rat} (hb : 0 ≤ b) (hb0 : b ≠ 0) (h : r * b = a) (ha : 0 ≤ a) : 0 ≤ r := by
 rcases qar 0 r with g | g
 ·exact g
 ·have k := Rat.mul_nonneg (show 0 ≤ -r by grind) hb
  have : r * b = 0 := by grind
  rcases Rat.mul_eq_zero.1 this with e | e
  ·grind
  ·exact absurd e hb0
theorem qeF {a b c : Rat} (h : c ≠ 0) (he : a * c = b * c) : a = b := by
 have h1 : (a - b) * c = 0 := by grind
 rcases Rat.mul_eq_zero.1 h1 with h2 | h2
 ·grind
 ·exact absurd h2 h
theorem qiJ {p : List Spot} {i : Nat} (h : i < p.length) : vx p i = pt p i := by unfold vx; rw [Nat.mod_eq_of_lt h]
theorem qnR {p : List Spot} [OkP p] (hs : q2n p) {i : Nat} (hi : i < p.length) : shU p i ≠ shU p (i + 1) := by
 have h := (hs i hi).1.1
 rw [← qiJ hi] at h
 have e : pt p ((i + 1) % p.length) = vx p (i + 1) := rfl
 rw [e] at h
 have b1 : OkS (vx p i) := by unfold vx; exact inferInstance
 have b2 : OkS (vx p (i + 1)) := by unfold vx; exact inferInstance
 have := b1.bx; have := b1.byy; have := b2.bx; have := b2.byy
 unfold shU
 intro he
 apply h
 generalize vx p i = a at *
 generalize vx p (i + 1) = b at *
 cases a; cases b
 simp only [Spot.mk.injEq] at *
 omega
theorem qsC {a b : Int} (h : a ≠ b) : (b : Rat) - (a : Rat) ≠ 0 := by
 rw [← Rat.intCast_sub]; intro hh; rw [Rat.intCast_eq_zero_iff] at hh; omega
theorem qpH {p : List Spot} {j : Nat} {u : Rat} (hne : shU p j ≠ shU p (j + 1)) (h : inR p j u) :
 ∃ s : Rat, 0 ≤ s ∧ s ≤ 1 ∧ u = shU p j + ((shU p (j + 1) : Rat) - shU p j) * s ∧ onP (qp (vx p j)) (qp (vx p (j + 1))) s = ⟨(u - yR p j u) / 16777216, yR p j u⟩ := by
 have hd := qsC hne
 have hs := Rat.div_mul_cancel (a := u - (shU p j : Rat)) hd
 have ht := Rat.div_mul_cancel (a := (shV p (j + 1) : Rat) - shV p j) hd
 refine ⟨(u - (shU p j : Rat)) / ((shU p (j + 1) : Rat) - shU p j), ?_, ?_, ?_, ?_⟩
 ·generalize hS : (u - (shU p j : Rat)) / ((shU p (j + 1) : Rat) - shU p j) = s at *
  rcases qar 0 s with g | g
  ·exact g
  ·unfold inR at h
   have h1 := Rat.mul_nonneg (show 0 ≤ -s by grind) (show (0 : Rat) ≤ 1 by decide)
   rcases h with ⟨h1, h2⟩ | ⟨h1, h2⟩
   ·have k := Rat.mul_nonneg (show 0 ≤ -s by grind) (show 0 ≤ ((shU p (j + 1) : Rat) - shU p j) by grind)
    have : s * ((shU p (j + 1) : Rat) - shU p j) = 0 := by grind
    rcases Rat.mul_eq_zero.1 this with e | e
    ·grind
    ·exact absurd e hd
   ·have k := Rat.mul_nonneg (show 0 ≤ -s by grind) (show 0 ≤ ((shU p j : Rat) - shU p (j + 1)) by grind)
    have : s * ((shU p (j + 1) : Rat) - shU p j) = 0 := by grind
    rcases Rat.mul_eq_zero.1 this with e | e
    ·grind
    ·exact absurd e hd
 ·generalize hS : (u - (shU p j : Rat)) / ((shU p (j + 1) : Rat) - shU p j) = s at *
  rcases qar s 1 with g | g
  ·exact g
  ·unfold inR at h
   rcases h with ⟨h1, h2⟩ | ⟨h1, h2⟩
   ·have k := Rat.mul_nonneg (show 0 ≤ s - 1 by grind) (show 0 ≤ ((shU p (j + 1) : Rat) - shU p j) by grind)
    have : (s - 1) * ((shU p (j + 1) : Rat) - shU p j) = 0 := by grind
    rcases Rat.mul_eq_zero.1 this with e | e
    ·grind
    ·exact absurd e hd
   ·have k := Rat.mul_nonneg (show 0 ≤ s - 1 by grind) (show 0 ≤ ((shU p j : Rat) - shU p (j + 1)) by grind)
    have : (s - 1) * ((shU p (j + 1) : Rat) - shU p j) = 0 := by grind
    rcases Rat.mul_eq_zero.1 this with e | e
    ·grind
    ·exact absurd e hd
 ·grind
 ·have hy : yR p j u = (shV p j : Rat) + ((shV p (j + 1) : Rat) - shV p j) * ((u - (shU p j : Rat)) / ((shU p (j + 1) : Rat) - shU p j)) := by
   unfold yR shT
   congr 1
   apply qeF hd
   grind
  rw [hy]
  generalize hS : (u - (shU p j : Rat)) / ((shU p (j + 1) : Rat) - shU p j) = s at *
  have hu : u = shU p j + ((shU p (j + 1) : Rat) - shU p j) * s := by grind
  rw [hu]
  have e1 : (shU p j : Rat) = 16777216 * ((vx p j).x : Rat) + ((vx p j).y : Rat) := by unfold shU; rw [Rat.intCast_add, Rat.intCast_mul]; rfl
  have e2 : (shU p (j + 1) : Rat) = 16777216 * ((vx p (j + 1)).x : Rat) + ((vx p (j + 1)).y : Rat) := by unfold shU; rw [Rat.intCast_add, Rat.intCast_mul]; rfl
  have e3 : (shV p j : Rat) = ((vx p j).y : Rat) := rfl
  have e4 : (shV p (j + 1) : Rat) = ((vx p (j + 1)).y : Rat) := rfl
  rw [e1, e2, e3, e4]
  unfold onP qe9 q4d q1t qp
  simp only [QP.mk.injEq]
  refine ⟨?_, trivial⟩
  generalize ((vx p j).x : Rat) = a
  generalize ((vx p j).y : Rat) = b
  generalize ((vx p (j + 1)).x : Rat) = c
  generalize ((vx p (j + 1)).y : Rat) = d
  have k : (16777216 : Rat) ≠ 0 := by decide
  apply qeF k
  rw [Rat.div_mul_cancel k]
  grind
theorem qmH {a b c : Spot} (hon1 : onS a b c = false) (hon2 : onS b c a = false) {s t : Rat} (hs0 : 0 ≤ s) (hs1 : s ≤ 1) (ht0 : 0 ≤ t) (ht1 : t ≤ 1) (he : onP (qp a) (qp b) s = onP (qp b) (qp c) t) : s = 1 ∧ t = 0 := by
 have hx : (a.x : Rat) + ((b.x : Rat) - a.x) * s = b.x + ((c.x : Rat) - b.x) * t := congrArg QP.x he
 have hy : (a.y : Rat) + ((b.y : Rat) - a.y) * s = b.y + ((c.y : Rat) - b.y) * t := congrArg QP.y he
 rcases qar t (1 - s) with h | h
 ·by_cases h0 : 1 - s = 0
  ·constructor <;> grind
  ·exfalso
   have hr := Rat.div_mul_cancel (a := t) h0
   have hp : 0 < 1 - s := by grind
   have r0 : 0 ≤ t / (1 - s) := qiI (by grind) h0 hr ht0
   have r1 : t / (1 - s) ≤ 1 := by
    generalize t / (1 - s) = r at *
    rcases qar r 1 with g | g
    ·exact g
    ·have k := Rat.mul_nonneg (show 0 ≤ r - 1 by grind) (show 0 ≤ 1 - s by grind)
     have : (r - 1) * (1 - s) = 0 := by grind
     rcases Rat.mul_eq_zero.1 this with e | e
     ·grind
     ·exact absurd e h0
   have : onS b c a = true := by
    refine qgM r0 r1 ?_
    generalize t / (1 - s) = r at *
    unfold onP qe9 q4d q1t qp
    simp only [QP.mk.injEq]
    constructor
    ·apply qeF h0; grind
    ·apply qeF h0; grind
   rw [hon2] at this; cases this
 ·by_cases h0 : t = 0
  ·constructor <;> grind
  ·exfalso
   have hr := Rat.div_mul_cancel (a := 1 - s) h0
   have r0 : 0 ≤ (1 - s) / t := qiI ht0 h0 hr (by grind)
   have r1 : (1 - s) / t ≤ 1 := by
    generalize (1 - s) / t = r at *
    rcases qar r 1 with g | g
    ·exact g
    ·have k := Rat.mul_nonneg (show 0 ≤ r - 1 by grind) ht0
     have : (r - 1) * t = 0 := by grind
     rcases Rat.mul_eq_zero.1 this with e | e
     ·grind
     ·exact absurd e h0
   have : onS a b c = true := by
    refine qgM (s := 1 - (1 - s) / t) (by grind) (by grind) ?_
    generalize (1 - s) / t = r at *
    unfold onP qe9 q4d q1t qp
    simp only [QP.mk.injEq]
    constructor
    ·apply qeF h0; grind
    ·apply qeF h0; grind
   rw [hon1] at this; cases this
theorem qvA {p : List Spot} [OkP p] (hs : q2n p) (h3 : 3 ≤ p.length) {i j : Nat} (hj : j < p.length) (hij : i < j) {u : Rat} (ci : inR p i u) (cj : inR p j u) (he : yR p i u = yR p j u) :
 ∃ m m', (m = i ∨ m = i + 1) ∧ (m' = j ∨ m' = j + 1) ∧ (shU p m : Rat) = u ∧ (m = m' ∨ (m = 0 ∧ m' = p.length) ∨ (m = p.length ∧ m' = 0)) := by
 have hi : i < p.length := by omega
 obtain ⟨s, s0, s1, su, sp⟩ := qpH (qnR hs hi) ci
 obtain ⟨t, t0, t1, tu, tp⟩ := qpH (qnR hs hj) cj
 have hc : onP (qp (vx p i)) (qp (vx p (i + 1))) s = onP (qp (vx p j)) (qp (vx p (j + 1))) t := by rw [sp, tp, he]
 by_cases ha : j = i + 1
 ·subst ha
  have h2 := (hs i hi).1.2
  have e : pt p ((i + 2) % p.length) = vx p (i + 1 + 1) := rfl
  have e' : pt p ((i + 1) % p.length) = vx p (i + 1) := rfl
  rw [← qiJ hi, e, e'] at h2
  obtain ⟨r1, r2⟩ := qmH h2.1 h2.2 s0 s1 t0 t1 hc
  exact ⟨i + 1, i + 1, .inr rfl, .inl rfl, by rw [su, r1]; grind, .inl rfl⟩
 ·by_cases hb : (j + 1) % p.length = i
  ·have hj1 : j + 1 = p.length := by
    rcases Nat.lt_or_ge (j + 1) p.length with g | g
    ·rw [Nat.mod_eq_of_lt g] at hb; omega
    ·omega
   rw [hj1, Nat.mod_self] at hb
   subst hb
   have h2 := (hs j hj).1.2
   have e0 : vx p (j + 1) = vx p 0 := by unfold vx; rw [hj1, Nat.mod_self, Nat.zero_mod]
   have e : pt p ((j + 2) % p.length) = vx p (0 + 1) := by
    unfold vx
    rw [show j + 2 = p.length + 1 by omega, Nat.add_mod_left]
   have e' : pt p ((j + 1) % p.length) = vx p (j + 1) := rfl
   rw [← qiJ hj, e, e', e0] at h2
   rw [e0] at hc
   obtain ⟨r1, r2⟩ := qmH h2.1 h2.2 t0 t1 s0 s1 hc.symm
   refine ⟨0, j + 1, .inl rfl, .inr rfl, ?_, .inr (.inl ⟨rfl, hj1⟩)⟩
   rw [su, r2]; grind
  ·exfalso
   have h2 := (hs i hi).2 j hj (by omega) hb
   have n1 := (hs i hi).1.1
   have n2 := (hs j hj).1.1
   have e1 : pt p ((i + 1) % p.length) = vx p (i + 1) := rfl
   have e2 : pt p ((j + 1) % p.length) = vx p (j + 1) := rfl
   rw [← qiJ hi, e1] at n1
   rw [← qiJ hj, e2] at n2
   rw [← qiJ hi, ← qiJ hj, e1, e2, qpA n1 n2 s0 s1 t0 t1 hc] at h2
   cases h2
theorem touch {p : List Spot} [OkP p] (hs : q2n p) (h3 : 3 ≤ p.length) {i j : Nat} (hi : i < p.length) (hj : j < p.length) (hij : i ≠ j) {u : Rat} (ci : inR p i u) (cj : inR p j u) (he : yR p i u = yR p j u) :
 ∃ m m', (m = i ∨ m = i + 1) ∧ (m' = j ∨ m' = j + 1) ∧ (shU p m : Rat) = u ∧ (m = m' ∨ (m = 0 ∧ m' = p.length) ∨ (m = p.length ∧ m' = 0)) := by
 rcases Nat.lt_or_gt_of_ne hij with h | h
 ·exact qvA hs h3 hj h ci cj he
 ·obtain ⟨m, m', h1, h2, h4, h5⟩ := qvA hs h3 hi h cj ci he.symm
  refine ⟨m', m, h2, h1, ?_, ?_⟩
  ·rcases h5 with rfl | ⟨rfl, rfl⟩ | ⟨rfl, rfl⟩
   ·exact h4
   ·rw [← h4]; unfold shU vx; rw [Nat.mod_self, Nat.zero_mod]
   ·rw [← h4]; unfold shU vx; rw [Nat.mod_self, Nat.zero_mod]
  ·rcases h5 with rfl | ⟨rfl, rfl⟩ | ⟨rfl, rfl⟩
   ·exact .inl rfl
   ·exact .inr (.inr ⟨rfl, rfl⟩)
   ·exact .inr (.inl ⟨rfl, rfl⟩)
end Go.F

namespace Go.F
attribute [local irreducible] IntKind.wrap wpM
set_option maxHeartbeats 1000000 in
theorem ql2 (a b : List Nat) [ha : LOk a] [hb : LOk b] (hla : a.length ≤ 100000000) (hlb : b.length ≤ 100000000) : PU qhP [nat a, nat b] = some (nat (q0d (val a + val b))) := by
 refine q0f (fn := qhs) rfl (q0a ?_)
 refine go 800 rfl ?_
 refine q0p (S := fun x : Nat × List Nat × Nat => ([nat a, nat b, .ref 2 0 x.2.1.length, .int .u64 x.2.2, q01 x.1], [none, none, some (.row (x.2.1.map u32) 1), none, none], [0, 0, 0, 0, 0]))
  (C := fun x => x.1 ≤ max a.length b.length + 1 ∧ x.2.1.length = x.1 ∧ LOk x.2.1 ∧ x.2.2 ≤ 1 ∧ (x.1 = max a.length b.length + 1 → x.2.2 = 0) ∧ val x.2.1 + 4294967296 ^ x.1 * x.2.2 = val (a.take x.1) + val (b.take x.1)) (m := fun x => max a.length b.length + 1 - x.1) (0, [], 0) ⟨Nat.zero_le _, rfl, qkx, by decide, fun h => by simp at h, by simp [val]⟩ (by simp; omega) ?_ ?_
 ·exact q03 rfl ⟨rfl, trivial⟩ (by simp [nat, q01])
 rintro ⟨k, r, c⟩ ⟨hk, hr, hro, hc, hlast, hinv⟩ N hN
 simp only at hk hr hro hc hlast hinv
 have hx := q1o ha k
 have hy := q1o hb k
 have w1 : IntKind.i64.wrap ((k : Int) + 1) = ((k + 1 : Nat) : Int) := wrap64 (by omega) (by omega)
 have next : k ≤ max a.length b.length → ∀ {t : q0z} {h : q0e} {z : Frz} {nx : Nat}, (q18 0 [(0, 0), (1, 0), (5, 1), (6, 0), (7, 0)] t h z nx fun _ _ kp => kp = ([nat a, nat b, .ref 2 0 (r ++ [(dg a k + dg b k + c) % 4294967296]).length, .int .u64 ((dg a k + dg b k + c) / 4294967296 : Nat), q01 ((k + 1 : Nat) : Int)], [none, none, some (.row ((r ++ [(dg a k + dg b k + c) % 4294967296]).map u32) 1), none, none], [0, 0, 0, 0, 0])) → N t h z nx := by
  intro hkm t h z nx hst
  refine hN (k + 1, r ++ [(dg a k + dg b k + c) % 4294967296], (dg a k + dg b k + c) / 4294967296) ⟨by simp only; omega, by simp [hr], hro.snoc (by omega), by simp only; omega, ?_, ?_⟩ (by simp only; omega) hst
  ·simp only
   intro hkk
   have h1 : dg a k = 0 := q8q (by omega)
   have h2 : dg b k = 0 := q8q (by omega)
   rw [h1, h2]; omega
  simp only
  rw [q6S, hr, q0M, q0M, Nat.pow_succ, Nat.add_assoc, q4V, Nat.mul_add, Nat.mul_add]
  omega
 clear hN
 have e : IntKind.u64.wrap (IntKind.u64.wrap ((dg a k : Int) + (dg b k : Int)) + (c : Int)) = ((dg a k + dg b k + c : Nat) : Int) := by simp only [q0V]; omega
 refine go 800 rfl ?_
 rw [List.length_map, List.length_map]
 refine q09 rfl (fun h1 => ?_) (fun h1 => ?_)
 ·rw [q06] at h1
  refine go 800 rfl ?_
  refine q0m rfl ?_
  refine go 800 rfl ?_
  refine q00 rfl rfl (q1y a k (by omega)) ?_
  refine go 800 rfl ?_
  refine q00 rfl rfl (q1y b k (by omega)) ?_
  refine go 800 rfl ?_
  rw [e]
  refine q9j (dg a k + dg b k + c) 4294967296 rfl rfl rfl rfl (by decide) ?_
  refine go 800 rfl ?_
  rw [q0W, Nat.mod_mod]
  refine q1e rfl rfl rfl rfl rfl rfl (by simp) (Nat.zero_le _) (by simp [q0K]; omega) ?_
  refine go 800 rfl ?_
  refine q4X (dg a k + dg b k + c) 4294967296 rfl rfl rfl rfl (by decide) (q0L (by omega)) ?_
  refine go 800 rfl ?_
  refine q05 ?_
  refine next (by omega) (q03 rfl ⟨?_, trivial⟩ ?_)
  ·rw [List.all_append, q04 q0q]; rfl
  ·simp [nat, q01, w1, u32]
 rw [q07] at h1
 refine go 800 rfl ?_
 refine q02 rfl (fun h2 => ?_) (fun h2 => ?_)
 ·rw [q06] at h2
  simp only at h2
  have hkm : k ≤ max a.length b.length := by
   rcases Nat.lt_or_ge k (max a.length b.length + 1) with g | g
   ·omega
   ·have := hlast (by omega); omega
  refine go 800 rfl ?_
  refine q00 rfl rfl (q1y a k (by omega)) ?_
  refine go 800 rfl ?_
  refine q00 rfl rfl (q1y b k (by omega)) ?_
  refine go 800 rfl ?_
  rw [e]
  refine q9j (dg a k + dg b k + c) 4294967296 rfl rfl rfl rfl (by decide) ?_
  refine go 800 rfl ?_
  rw [q0W, Nat.mod_mod]
  refine q1e rfl rfl rfl rfl rfl rfl (by simp) (Nat.zero_le _) (by simp [q0K]; omega) ?_
  refine go 800 rfl ?_
  refine q4X (dg a k + dg b k + c) 4294967296 rfl rfl rfl rfl (by decide) (q0L (by omega)) ?_
  refine go 800 rfl ?_
  refine q05 ?_
  refine next hkm (q03 rfl ⟨?_, trivial⟩ ?_)
  ·rw [List.all_append, q04 q0q]; rfl
  ·simp [nat, q01, w1, u32]
 rw [q07] at h2
 simp only at h2
 obtain rfl : c = 0 := by omega
 have hp := q26 r (by omega)
 have hv : val r = val a + val b := by
  rw [List.take_of_length_le (by omega), List.take_of_length_le (by omega)] at hinv
  omega
 rw [hv] at hp
 refine go 800 rfl ?_
 refine q05 ?_
 refine go 800 rfl ?_
 refine q1Z rfl rfl ⟨q4b (l := r) rfl, trivial⟩ (by rw [q4A rfl]; exact hp) fun z => ?_
 refine go 800 rfl ?_
 exact q0c rfl rfl rfl trivial rfl
end Go.F

namespace Go.F
attribute [local irreducible] IntKind.wrap wpM
set_option maxHeartbeats 4000000 in
theorem q52 (A B : List Nat) [hAo : LOk A] [hBo : LOk B] (hla : A.length ≤ 100000000) (hlb : B.length ≤ 100000000) : PU q5c [nat A, nat B] = some (nat (q0d (val A * val B))) := by
 refine q0f (fn := qhp) rfl (q0a ?_)
 refine go 800 rfl ?_
 have w0 : IntKind.i64.wrap (((A.map u32).length : Int) + ((B.map u32).length : Int)) = ((A.length + B.length : Nat) : Int) := by rw [List.length_map, List.length_map, wrap64 (by omega) (by omega)]; omega
 rw [w0]
 refine q4g (A.length + B.length) rfl rfl rfl (by simp [q0K]; omega) ?_
 rw [q8x]
 refine go 800 rfl ?_
 refine q0p (S := fun x : Nat × List Nat => ([nat A, nat B, .ref 2 0 (A.length + B.length), q01 x.1], [none, none, some (.row (x.2.map u32) 1), none], [0, 0, 0, 0]))
  (C := fun x => x.1 ≤ A.length ∧ x.2.length = A.length + B.length ∧ LOk x.2 ∧ val x.2 = val (A.take x.1) * val B ∧ ∀ j, x.1 + B.length ≤ j → dg x.2 j = 0) (m := fun x => A.length - x.1) (0, List.replicate (A.length + B.length) 0)
  ⟨Nat.zero_le _, by simp, q5F _, by simp [val, qaU], fun j _ => q7X _ _⟩ (by simp; omega) ?_ ?_
 ·exact q03 rfl ⟨q04 q0q _, trivial⟩ (by simp [nat, q01])
 rintro ⟨k, r⟩ ⟨hk, hr, hro, hinv, hz⟩ N hN
 simp only at hk hr hro hinv hz
 refine go 800 rfl ?_
 rw [List.length_map]
 refine q02 rfl (fun h2 => ?_) (fun h2 => ?_)
 ·rw [q06] at h2
  have hlt : k < A.length := by omega
  have hx := q1o hAo k
  have w1 : IntKind.i64.wrap ((k : Int) + 1) = ((k + 1 : Nat) : Int) := wrap64 (by omega) (by omega)
  refine go 800 rfl ?_
  refine q0p (S := fun x : Nat × List Nat × Nat => ([nat A, nat B, .ref 2 0 (A.length + B.length), q01 k, .int .u64 x.2.2, q01 x.1], [none, none, some (.row (x.2.1.map u32) 1), none, none, none], [0, 0, 0, 0, 0, 0]))
   (C := fun x => x.1 ≤ B.length ∧ x.2.1.length = A.length + B.length ∧ LOk x.2.1 ∧ x.2.2 < 4294967296 ∧ val x.2.1 + 4294967296 ^ (k + x.1) * x.2.2 = val r + 4294967296 ^ k * (dg A k * val (B.take x.1)) ∧ ∀ j, k + x.1 ≤ j → dg x.2.1 j = dg r j) (m := fun x => B.length - x.1) (0, r, 0)
   ⟨Nat.zero_le _, hr, hro, by simp, by simp [val], fun j _ => rfl⟩ (by simp; omega) ?_ ?_
  ·exact q03 rfl ⟨q04 q0q _, trivial⟩ (by simp [nat, q01])
  rintro ⟨i, r', c⟩ ⟨hi, hr', hro', hc, hinv', hz'⟩ N2 hN2
  simp only at hi hr' hro' hc hinv' hz'
  refine go 800 rfl ?_
  rw [List.length_map]
  refine q02 rfl (fun h3 => ?_) (fun h3 => ?_)
  ·rw [q06] at h3
   have hil : i < B.length := by omega
   have hy := q1o hBo i
   have hq := q1o hro' (k + i)
   have hxy := qaW hx hy
   have wi : IntKind.i64.wrap ((i : Int) + 1) = ((i + 1 : Nat) : Int) := wrap64 (by omega) (by omega)
   have wki : IntKind.i64.wrap ((k : Int) + i) = ((k + i : Nat) : Int) := by rw [wrap64 (by omega) (by omega)]; omega
   have e1 : ((dg A k * dg B i : Nat) : Int) = (dg A k : Int) * (dg B i : Int) := by simp
   have e : IntKind.u64.wrap (IntKind.u64.wrap (IntKind.u64.wrap ((dg A k : Int) * (dg B i : Int)) + (dg r' (k + i) : Int)) + (c : Int)) = ((c + (dg A k * dg B i + dg r' (k + i)) : Nat) : Int) := by
    rw [← e1, q0L (n := dg A k * dg B i) (by omega)]
    simp only [q0V]; omega
   refine go 800 rfl ?_
   refine q00 rfl rfl (q1y A k (by omega)) ?_
   refine go 800 rfl ?_
   refine q00 rfl rfl (q1y B i (by omega)) ?_
   refine go 800 rfl ?_
   rw [wki]
   refine q8C rfl rfl ⟨q4b (l := r') hr'.symm, trivial⟩ (by rw [q4A (l := r') hr'.symm]; exact q1y r' (k + i) (by omega)) rfl ?_
   refine go 800 rfl ?_
   rw [e]
   refine q9j (c + (dg A k * dg B i + dg r' (k + i))) 4294967296 rfl rfl rfl rfl (by decide) ?_
   refine go 800 rfl ?_
   rw [q0W, Nat.mod_mod]
   refine q0B (k + i) rfl rfl rfl rfl wki (by omega) ?_
   refine go 800 rfl ?_
   refine q25 r' (k + i) ((c + (dg A k * dg B i + dg r' (k + i))) % 4294967296) rfl rfl (Nat.zero_add _) rfl rfl (Nat.zero_le _) (by omega) ?_
   refine go 800 rfl ?_
   refine q4X (c + (dg A k * dg B i + dg r' (k + i))) 4294967296 rfl rfl rfl rfl (by decide) (q0L (by omega)) ?_
   refine go 800 rfl ?_
   refine q05 ?_
   refine hN2 (i + 1, r'.set (k + i) ((c + (dg A k * dg B i + dg r' (k + i))) % 4294967296), (c + (dg A k * dg B i + dg r' (k + i))) / 4294967296) ⟨hil, by simp [hr'], hro'.set _ (by omega), by simp only; omega, ?_, ?_⟩ (by simp only; omega) (q03 rfl ⟨q04 q0q _, trivial⟩ (by simp [nat, q01, wi]))
   ·simp only
    have hs := qgI (l := r') (i := k + i) (v := (c + (dg A k * dg B i + dg r' (k + i))) % 4294967296) (by omega)
    have hcar := q4V (4294967296 ^ (k + i)) (c + (dg A k * dg B i + dg r' (k + i)))
    rw [q0M, show k + (i + 1) = (k + i) + 1 from rfl, Nat.pow_succ, Nat.mul_add (dg A k), Nat.mul_add (4294967296 ^ k)]
    rw [Nat.mul_add (4294967296 ^ (k + i)) c, Nat.mul_add (4294967296 ^ (k + i)) (dg A k * dg B i)] at hcar
    have e5 : 4294967296 ^ k * (dg A k * (4294967296 ^ i * dg B i)) = 4294967296 ^ (k + i) * (dg A k * dg B i) := by
     rw [Nat.pow_add, Nat.mul_left_comm (dg A k), ← Nat.mul_assoc]
    rw [e5]
    omega
   ·intro j hj
    simp only at hj ⊢
    rw [q3w, if_neg (by omega)]
    exact hz' j (by omega)
  ·rw [q07] at h3
   obtain rfl : i = B.length := by omega
   rw [List.take_length] at hinv'
   have wkb : IntKind.i64.wrap ((k : Int) + (B.map u32).length) = ((k + B.length : Nat) : Int) := by rw [List.length_map, wrap64 (by omega) (by omega)]; omega
   have ec : IntKind.u32.wrap (c : Int) = (c : Int) := by rw [q0W]; omega
   refine go 800 rfl ?_
   refine q05 ?_
   refine go 800 rfl ?_
   rw [ec]
   refine q0B (k + B.length) rfl rfl rfl rfl wkb (by omega) ?_
   refine go 800 rfl ?_
   refine q25 r' (k + B.length) c rfl rfl (Nat.zero_add _) rfl rfl (Nat.zero_le _) (by omega) ?_
   refine go 800 rfl ?_
   refine q05 ?_
   have hd0 : dg r' (k + B.length) = 0 := by rw [hz' _ (Nat.le_refl _)]; exact hz _ (Nat.le_refl _)
   have hs := qgI (l := r') (i := k + B.length) (v := c) (by omega)
   rw [hd0, Nat.mul_zero, Nat.add_zero] at hs
   refine hN (k + 1, r'.set (k + B.length) c) ⟨hlt, by simp [hr'], hro'.set _ hc, ?_, ?_⟩ (by simp only; omega) (q03 rfl ⟨q04 q0q _, trivial⟩ (by simp [nat, q01, w1]))
   ·simp only
    rw [hs, hinv', hinv, q0M, Nat.add_mul, Nat.mul_assoc]
   ·intro j hj
    simp only at hj ⊢
    rw [q3w, if_neg (by omega), hz' j (by omega)]
    exact hz j (by omega)
 ·rw [q07] at h2
  obtain rfl : k = A.length := by omega
  rw [List.take_length] at hinv
  refine go 800 rfl ?_
  refine q05 ?_
  refine go 800 rfl ?_
  have hp := q26 r (by omega)
  rw [hinv] at hp
  refine q1Z rfl rfl ⟨q4b (l := r) hr.symm, trivial⟩ (by rw [q4A (l := r) hr.symm]; exact hp) fun z => ?_
  refine go 800 rfl ?_
  exact q0c rfl rfl rfl trivial rfl
end Go.F

namespace Go.F
attribute [local irreducible] IntKind.wrap wpM
theorem qrv (a : RI) {k : Nat} [h : Sz a.mag k] (hk : k ≤ 500000000) : PU qmm [a.enc] = some (encI (-a.v)) := by
 refine q0f (fn := qhz) rfl (q0a ?_)
 refine go 800 rfl ?_
 refine q00 rfl rfl (q5g (!a.neg) a.mag hk) ?_
 refine go 800 rfl ?_
 refine q0c rfl rfl rfl trivial ?_
 have : RI.v ⟨!a.neg, a.mag⟩ = -a.v := by unfold RI.v; cases a.neg <;> simp
 rw [this]; rfl
theorem qrw (a b : RI) {j k : Nat} [ha : Sz a.mag j] [hb : Sz b.mag k] (hj : j ≤ 100000000) (hk : k ≤ 100000000) : PU qml [a.enc, b.enc] = some (encI (a.v + b.v)) := by
 have la := ha.len
 have lb := hb.len
 have nba : NB (val a.mag) j := inferInstance
 have nbb : NB (val b.mag) k := inferInstance
 have sAdd : Sz (q0d (val a.mag + val b.mag)) (j + k + 1) := ⟨q0x _, q0l.2 (qdU nba.lt nbb.lt)⟩
 have sSub : Sz (q0d (val a.mag - val b.mag)) j := ⟨q0x _, q0l.2 (q74 (Nat.sub_le _ _) nba.lt)⟩
 have sSub' : Sz (q0d (val b.mag - val a.mag)) k := ⟨q0x _, q0l.2 (q74 (Nat.sub_le _ _) nbb.lt)⟩
 have s1 := qfU a.mag b.mag (by omega) (by omega)
 have s2 := qfU b.mag a.mag (by omega) (by omega)
 refine q0f (fn := qhx) rfl (q0a ?_)
 refine go 800 rfl ?_
 refine q02 rfl (fun g1 => ?_) (fun g1 => ?_)
 ·refine go 800 rfl ?_
  refine q00 rfl rfl (ql2 a.mag b.mag (by omega) (by omega)) ?_
  refine go 800 rfl ?_
  refine q00 rfl rfl (q5g a.neg _ (by omega)) ?_
  refine go 800 rfl ?_
  refine q0c rfl rfl rfl trivial ?_
  have g : a.neg = b.neg := by simpa using g1
  have : RI.v ⟨a.neg, q0d (val a.mag + val b.mag)⟩ = a.v + b.v := by
   unfold RI.v; simp only [q0j, ← g]; split <;> omega
  rw [this]; rfl
 have g : b.neg = !a.neg := by revert g1; cases a.neg <;> cases b.neg <;> simp
 refine go 800 rfl ?_
 by_cases hlt : val a.mag < val b.mag
 ·rw [if_pos hlt] at s1
  rw [if_neg (by omega)] at s2
  refine q00 rfl rfl s1 ?_
  refine go 800 rfl ?_
  refine q0n rfl ?_
  refine go 800 rfl ?_
  refine q00 rfl rfl s2 ?_
  refine go 800 rfl ?_
  refine q00 rfl rfl (q5g b.neg _ (by omega)) ?_
  refine go 800 rfl ?_
  refine q0c rfl rfl rfl trivial ?_
  have : RI.v ⟨b.neg, q0d (val b.mag - val a.mag)⟩ = a.v + b.v := by
   unfold RI.v; simp only [q0j, g]; cases a.neg <;> simp <;> omega
  rw [this]; rfl
 ·rw [if_neg hlt] at s1
  refine q00 rfl rfl s1 ?_
  refine go 800 rfl ?_
  refine q0m rfl ?_
  refine go 800 rfl ?_
  refine q00 rfl rfl (q5g a.neg _ (by omega)) ?_
  refine go 800 rfl ?_
  refine q0c rfl rfl rfl trivial ?_
  have : RI.v ⟨a.neg, q0d (val a.mag - val b.mag)⟩ = a.v + b.v := by
   unfold RI.v; simp only [q0j, g]; cases a.neg <;> simp <;> omega
  rw [this]; rfl
theorem ql3 (a b : RI) {j k : Nat} [ha : Sz a.mag j] [hb : Sz b.mag k] (hj : j ≤ 100000000) (hk : k ≤ 100000000) : PU qhQ [a.enc, b.enc] = some (encI (a.v * b.v)) := by
 have la := ha.len
 have lb := hb.len
 have nba : NB (val a.mag) j := inferInstance
 have nbb : NB (val b.mag) k := inferInstance
 have sM : Sz (q0d (val a.mag * val b.mag)) (j + k) := ⟨q0x _, q0l.2 (q2r nba.lt nbb.lt)⟩
 refine q0f (fn := qhy) rfl (q0a ?_)
 refine go 800 rfl ?_
 refine q00 rfl rfl (q52 a.mag b.mag (by omega) (by omega)) ?_
 refine go 800 rfl ?_
 refine q00 rfl rfl (q5g _ _ (by omega)) ?_
 refine go 800 rfl ?_
 refine q0c rfl rfl rfl trivial ?_
 have : RI.v ⟨!(a.neg == b.neg), q0d (val a.mag * val b.mag)⟩ = a.v * b.v := by
  unfold RI.v; simp only [q0j]; cases a.neg <;> cases b.neg <;> simp [Int.mul_neg, Int.neg_mul]
 rw [this]; rfl
set_option maxHeartbeats 1000000 in
theorem qc2 (a : RI) {k : Nat} [ha : Sz a.mag k] (hk : k ≤ 500000000) : PU q9K [a.enc] = some (q5q a.v) := by
 refine q0f (fn := qd8) rfl (q0a ?_)
 refine go 800 rfl ?_
 refine q00 rfl rfl (qed a hk) ?_
 refine go 800 rfl ?_
 have hMo : LOk (q0d a.v.natAbs) := q0x _
 have hMv : val (q0d a.v.natAbs) = a.v.natAbs := q0j _
 have hlen : (q0d a.v.natAbs).length ≤ 2 ↔ a.v.natAbs < 18446744073709551616 := by rw [q0l]
 have hneg : (RI.of a.v).neg = decide (a.v < 0) := rfl
 have hmag : (RI.of a.v).mag = q0d a.v.natAbs := rfl
 rw [hmag] at *
 generalize q0d a.v.natAbs = M at *
 rw [List.length_map]
 refine q02 rfl (fun h1 => ?_) (fun h1 => ?_)
 ·rw [q06] at h1
  refine go 800 rfl ?_
  refine q0c rfl rfl rfl trivial ?_
  rw [q5q, if_neg (by omega)]
 rw [q07] at h1
 have h2 := hlen.1 (by omega)
 refine go 800 rfl ?_
 rw [List.length_map]
 refine q0p (S := fun x : Nat => ([.ptr 0 0 0, .int .u64 (val (M.drop x)), .int .i64 ((x : Int) - 1)], [some (.row [.agg [.bool (decide (a.v < 0)), nat M]] 2), none, none], [0, 0, 0])) (C := fun x => x ≤ M.length) (m := fun x => x) M.length (Nat.le_refl _) (by omega) ?_ ?_
 ·refine q03 rfl ⟨rfl, trivial⟩ ?_
  have : IntKind.i64.wrap ((M.length : Int) - 1) = (M.length : Int) - 1 := wrap64 (by omega) (by omega)
  simp [nat, val, hneg, this]
 intro i hi N hN
 refine go 800 rfl ?_
 refine q02 rfl (fun g1 => ?_) (fun g1 => ?_)
 ·rw [q1k] at g1
  obtain ⟨j, rfl⟩ : ∃ j, i = j + 1 := ⟨i - 1, by omega⟩
  have ej : ((j + 1 : Nat) : Int) - 1 = (j : Int) := by omega
  have hlt : j < M.length := by omega
  have hx := q1o hMo j
  have wj : IntKind.i64.wrap ((j : Int) - 1) = (j : Int) - 1 := wrap64 (by omega) (by omega)
  have hd := q35 M j
  have hb : val (M.drop j) < 18446744073709551616 := by
   have := q2Z M j
   have h3 : val (M.drop j) ≤ 4294967296 ^ j * val (M.drop j) := Nat.le_mul_of_pos_left _ (Nat.pow_pos (by decide))
   omega
  have e : IntKind.u64.wrap (IntKind.u64.wrap ((val (M.drop (j + 1)) : Int) * 4294967296) + IntKind.u64.wrap (dg M j : Int)) = (val (M.drop j) : Int) := by simp only [q0V]; omega
  rw [ej]
  refine go 800 rfl ?_
  refine q0i j rfl rfl rfl (q2G hlt) rfl ?_
  refine go 800 rfl ?_
  rw [e]
  refine q05 ?_
  exact hN j (by omega) (by omega) (q03 rfl ⟨rfl, trivial⟩ (by simp [nat, wj]))
 rw [q1f] at g1
 obtain rfl : i = 0 := by omega
 rw [List.drop_zero, hMv] at *
 clear hN
 refine go 800 rfl ?_
 refine q05 ?_
 have e1 : a.v < 0 → a.v.natAbs ≤ 9223372036854775808 → IntKind.i64.wrap (IntKind.i64.wrap (0 - IntKind.i64.wrap (IntKind.u64.wrap ((a.v.natAbs : Int) - 1))) - 1) = a.v := by
  intro h3 h4
  have e2 : IntKind.u64.wrap ((a.v.natAbs : Int) - 1) = (a.v.natAbs : Int) - 1 := by rw [q0V]; omega
  rw [e2, wrap64 (x := (a.v.natAbs : Int) - 1) (by omega) (by omega), wrap64 (x := 0 - ((a.v.natAbs : Int) - 1)) (by omega) (by omega), wrap64 (by omega) (by omega)]
  omega
 have e2 : ¬ a.v < 0 → a.v.natAbs ≤ 9223372036854775807 → IntKind.i64.wrap (a.v.natAbs : Int) = a.v := by
  intro h3 h4
  rw [wrap64 (by omega) (by omega)]; omega
 repeat' (first
  | (refine goP 800 rfl rfl ?_)
  | (show wpM _ _ _ (Fr.ops _ _ (KOper.mk _ _ (some _) _ _ :: _) :: _) Ex.normal _ _ _ _ _; first | refine q0o rfl ?_ | refine q0u rfl ?_ | refine q09 rfl (fun _ => ?_) (fun _ => ?_))
  | (show wpM _ _ _ (Fr.code (K.cond _ _ _) :: _) Ex.normal _ _ _ _ _; first | refine q0m rfl ?_ | refine q0n rfl ?_ | refine q02 rfl (fun _ => ?_) (fun _ => ?_))
  | (show wpM _ _ _ (Fr.ops _ _ (KOper.mk _ _ none _ (KOp.pick _ _ _) :: _) :: _) Ex.normal _ _ _ _ _; refine q0I rfl (fun _ => ?_) (fun _ => ?_))
  | (show wpM _ _ _ [] _ _ _ _ _ _; refine q0c rfl rfl rfl trivial ?_))
 all_goals simp only [q22, q1U, decide_eq_true_eq, decide_eq_false_iff_not, Bool.not_eq_true', Bool.not_eq_false', Bool.not_eq_true, Bool.not_eq_false] at *
 all_goals unfold q5q
 all_goals first | (rw [e1 (by omega) (by omega), if_pos (by omega)]) | (rw [e2 (by omega) (by omega), if_pos (by omega)]) | (rw [if_neg (by omega)])
theorem qvK (z : Int) : q8A (z : Rat) = .agg [.bool (decide (z < 0)), nat (q0d z.natAbs), nat [1]] := by
 unfold q8A RR.of RR.enc
 simp only [Rat.num_intCast, Rat.den_intCast]
 rfl
theorem qgT (n : Int) (h1 : -9223372036854775808 ≤ n) (h2 : n ≤ 9223372036854775807) : PU qdO [.int .i64 n] = some (q8A (n : Rat)) := by
 refine q0f (fn := qda) rfl (q0a ?_)
 refine go 800 rfl ?_
 refine q00 rfl rfl (qi7 n h1 h2) ?_
 refine go 800 rfl ?_
 refine q00 rfl rfl (qeG 1 (by decide)) ?_
 refine go 800 rfl ?_
 refine q0c rfl rfl rfl trivial ?_
 rw [qvK]; rfl
theorem qo5 (a : RR) : a.v = 0 ↔ val a.mag = 0 ∨ val a.den = 0 := by
 unfold RR.v
 by_cases h : val a.den = 0
 ·rw [h, Rat.mkRat_zero]; simp
 ·rw [Rat.mkRat_eq_zero h]
  have := RI.v_abs a.num
  constructor
  ·intro h2; rw [h2] at this; left; exact this.symm
  ·rintro (h2 | h2)
   ·have : a.num.v.natAbs = 0 := by rw [this]; exact h2
    exact Int.natAbs_eq_zero.1 this
   ·exact absurd h2 h
theorem qiL (a : RR) {k : Nat} [h : SzR a k] (hk : k ≤ 100000000) : PU qfL [a.enc] = some (.bool (decide (a.v = 0))) := by
 have hm := h.mag.len
 have hd := h.den.len
 have e : ∀ n : Nat, ((q0d n).map u32).length = 0 ↔ n = 0 := fun n => by rw [List.length_map, List.length_eq_zero_iff, qhY]
 refine q0f (fn := qft) rfl (q0a ?_)
 refine go 800 rfl ?_
 refine q00 rfl rfl (q26 a.mag (by omega)) ?_
 refine go 800 rfl ?_
 refine q09 rfl (fun h1 => ?_) (fun h1 => ?_)
 ·rw [q2z] at h1
  refine go 800 rfl ?_
  refine q0c rfl rfl rfl trivial ?_
  have := (e (val a.mag)).1 (by omega)
  rw [decide_eq_true ((qo5 a).2 (.inl this))]
 ·rw [q1w] at h1
  refine go 800 rfl ?_
  refine q00 rfl rfl (q26 a.den (by omega)) ?_
  refine go 800 rfl ?_
  refine q0c rfl rfl rfl trivial ?_
  rw [q2C, D.bool.injEq, decide_eq_decide, qo5]
  have e1 := e (val a.mag)
  have e2 := e (val a.den)
  omega
theorem q2V (a : RR) {k : Nat} [h : SzR a k] (hk : k ≤ 10000000) : PU q33 [a.enc] = some (q8A a.v) := by
 refine q0f (fn := qfu) rfl (q0a ?_)
 refine go 800 rfl ?_
 refine q00 rfl rfl (qiL a (by omega)) ?_
 refine go 800 rfl ?_
 refine q02 rfl (fun h1 => ?_) (fun h1 => ?_)
 ·have h1 : a.v = 0 := by simpa using h1
  refine go 800 rfl ?_
  refine q00 rfl rfl (qgT 0 (by decide) (by decide)) ?_
  refine go 800 rfl ?_
  refine q0c rfl rfl rfl trivial ?_
  rw [h1]; rfl
 ·have h1 : a.v ≠ 0 := by simpa using h1
  have hd : val a.den ≠ 0 := fun h => h1 ((qo5 a).2 (.inr h))
  refine go 800 rfl ?_
  refine q00 rfl rfl (q5H a.neg a.mag a.den hk hk hd) ?_
  refine go 800 rfl ?_
  exact q0c rfl rfl rfl trivial rfl
theorem qrx (a : RR) {k : Nat} [h : SzR a k] (hk : k ≤ 1000000) : PU qmj [a.enc] = some (q8A (-a.v)) := by
 have hq : QB a.v (k + 1) := inferInstance
 have sn : Sz (RI.of a.v.num).mag (k + 1) := ⟨q0x _, q0l.2 hq.num⟩
 have hn := qrv (RI.of a.v.num) (by omega)
 rw [RI.of_v] at hn
 refine q0f (fn := qhu) rfl (q0a ?_)
 refine go 800 rfl ?_
 refine q00 rfl rfl (q2V a (by omega)) ?_
 refine go 800 rfl ?_
 refine q00 rfl rfl hn ?_
 refine go 800 rfl ?_
 refine q0c rfl rfl rfl trivial ?_
 unfold q8A RR.of
 rw [Rat.neg_num, Rat.neg_den]; rfl
theorem qfV (a b : RR) {j k : Nat} [ha : SzR a j] [hb : SzR b k] (hj : j ≤ 1000000) (hk : k ≤ 1000000) : PU qeA [a.enc, b.enc] = some (q8A (a.v + b.v)) := by
 have qa : QB a.v (j + 1) := inferInstance
 have qb : QB b.v (k + 1) := inferInstance
 generalize hx : a.v = x at *
 generalize hy : b.v = y at *
 have sx : Sz (RI.of x.num).mag (j + 1) := ⟨q0x _, q0l.2 qa.num⟩
 have sy : Sz (RI.of y.num).mag (k + 1) := ⟨q0x _, q0l.2 qb.num⟩
 have sdx : Sz (q0d x.den) (j + 1) := ⟨q0x _, q0l.2 qa.den⟩
 have sdy : Sz (q0d y.den) (k + 1) := ⟨q0x _, q0l.2 qb.den⟩
 have sdx' : Sz (RI.mag ⟨false, q0d x.den⟩) (j + 1) := sdx
 have sdy' : Sz (RI.mag ⟨false, q0d y.den⟩) (k + 1) := sdy
 have n1 : (x.num * (y.den : Int)).natAbs < 4294967296 ^ ((j + 1) + (k + 1)) := by rw [Int.natAbs_mul]; exact q2r qa.num qb.den
 have n2 : (y.num * (x.den : Int)).natAbs < 4294967296 ^ ((k + 1) + (j + 1)) := by rw [Int.natAbs_mul]; exact q2r qb.num qa.den
 have n3 := q74 (Int.natAbs_add_le (x.num * (y.den : Int)) (y.num * (x.den : Int))) (qdU n1 n2)
 have s1 : Sz (RI.of (x.num * (y.den : Int))).mag _ := ⟨q0x _, q0l.2 n1⟩
 have s2 : Sz (RI.of (y.num * (x.den : Int))).mag _ := ⟨q0x _, q0l.2 n2⟩
 have s3 : Sz (q0d (x.num * (y.den : Int) + y.num * (x.den : Int)).natAbs) _ := ⟨q0x _, q0l.2 n3⟩
 have s4 : Sz (q0d (x.den * y.den)) _ := ⟨q0x _, q0l.2 (q2r qa.den qb.den)⟩
 have m1 := ql3 (RI.of x.num) ⟨false, q0d y.den⟩ (by omega) (by omega)
 have m2 := ql3 (RI.of y.num) ⟨false, q0d x.den⟩ (by omega) (by omega)
 rw [qvT, RI.of_v, q0j] at m1 m2
 have a1 := qrw (RI.of (x.num * (y.den : Int))) (RI.of (y.num * (x.den : Int))) (by omega) (by omega)
 rw [RI.of_v, RI.of_v] at a1
 have ld1 := sdx.len
 have ld2 := sdy.len
 have m3 := q52 (q0d x.den) (q0d y.den) (by omega) (by omega)
 rw [q0j, q0j] at m3
 have r1 := q5H (RI.of (x.num * (y.den : Int) + y.num * (x.den : Int))).neg (q0d (x.num * (y.den : Int) + y.num * (x.den : Int)).natAbs) (q0d (x.den * y.den)) (by omega) (by omega) (by rw [q0j]; exact Nat.mul_ne_zero x.den_nz y.den_nz)
 have hv : RI.v ⟨(RI.of (x.num * (y.den : Int) + y.num * (x.den : Int))).neg, q0d (x.num * (y.den : Int) + y.num * (x.den : Int)).natAbs⟩ = x.num * (y.den : Int) + y.num * (x.den : Int) := RI.of_v _
 rw [hv, q0j, ← Rat.mkRat_add_mkRat _ _ x.den_nz y.den_nz, Rat.mkRat_self, Rat.mkRat_self] at r1
 have na := q2V a (by omega)
 have nb := q2V b (by omega)
 rw [hx] at na
 rw [hy] at nb
 refine q0f (fn := qht) rfl (q0a ?_)
 refine go 800 rfl ?_
 refine q00 rfl rfl na ?_
 refine go 800 rfl ?_
 refine q00 rfl rfl nb ?_
 refine go 800 rfl ?_
 refine q00 rfl rfl m1 ?_
 refine go 800 rfl ?_
 refine q00 rfl rfl m2 ?_
 refine go 800 rfl ?_
 refine q00 rfl rfl a1 ?_
 refine go 800 rfl ?_
 refine q00 rfl rfl m3 ?_
 refine go 800 rfl ?_
 refine q00 rfl rfl r1 ?_
 refine go 800 rfl ?_
 exact q0c rfl rfl rfl trivial rfl
theorem qc3 (a b : RR) {j k : Nat} [ha : SzR a j] [hb : SzR b k] (hj : j ≤ 100000) (hk : k ≤ 100000) : PU qaQ [a.enc, b.enc] = some (q8A (a.v - b.v)) := by
 have h1 := qfV a (RR.of (-b.v)) (by omega) (by omega)
 rw [RR.of_v, ← Rat.sub_eq_add_neg] at h1
 refine q0f (fn := qhn) rfl (q0a ?_)
 refine go 800 rfl ?_
 refine q00 rfl rfl (qrx b (by omega)) ?_
 refine go 800 rfl ?_
 refine q00 rfl rfl h1 ?_
 refine go 800 rfl ?_
 exact q0c rfl rfl rfl trivial rfl
theorem qvL (x y : Int) : RI.v ⟨!((RI.of x).neg == (RI.of y).neg), q0d (x.natAbs * y.natAbs)⟩ = x * y := by
 have h1 := RI.of_v x
 have h2 := RI.of_v y
 conv => rhs; rw [← h1, ← h2]
 have e1 : x.natAbs = val (RI.of x).mag := (q0j _).symm
 have e2 : y.natAbs = val (RI.of y).mag := (q0j _).symm
 rw [e1, e2]
 unfold RI.v
 simp only [q0j]
 cases (RI.of x).neg <;> cases (RI.of y).neg <;> simp [Int.mul_neg, Int.neg_mul]
theorem qc4 (a b : RR) {j k : Nat} [ha : SzR a j] [hb : SzR b k] (hj : j ≤ 1000000) (hk : k ≤ 1000000) : PU qaR [a.enc, b.enc] = some (q8A (a.v * b.v)) := by
 have qa : QB a.v (j + 1) := inferInstance
 have qb : QB b.v (k + 1) := inferInstance
 generalize hx : a.v = x at *
 generalize hy : b.v = y at *
 have sx : Sz (q0d x.num.natAbs) (j + 1) := ⟨q0x _, q0l.2 qa.num⟩
 have sy : Sz (q0d y.num.natAbs) (k + 1) := ⟨q0x _, q0l.2 qb.num⟩
 have sdx : Sz (q0d x.den) (j + 1) := ⟨q0x _, q0l.2 qa.den⟩
 have sdy : Sz (q0d y.den) (k + 1) := ⟨q0x _, q0l.2 qb.den⟩
 have l1 := sx.len
 have l2 := sy.len
 have l3 := sdx.len
 have l4 := sdy.len
 have s3 : Sz (q0d (x.num.natAbs * y.num.natAbs)) _ := ⟨q0x _, q0l.2 (q2r qa.num qb.num)⟩
 have s4 : Sz (q0d (x.den * y.den)) _ := ⟨q0x _, q0l.2 (q2r qa.den qb.den)⟩
 have m1 := q52 (q0d x.num.natAbs) (q0d y.num.natAbs) (by omega) (by omega)
 have m2 := q52 (q0d x.den) (q0d y.den) (by omega) (by omega)
 rw [q0j, q0j] at m1 m2
 have r1 := q5H (!((RI.of x.num).neg == (RI.of y.num).neg)) (q0d (x.num.natAbs * y.num.natAbs)) (q0d (x.den * y.den)) (by omega) (by omega) (by rw [q0j]; exact Nat.mul_ne_zero x.den_nz y.den_nz)
 rw [qvL, q0j, ← Rat.mkRat_mul_mkRat, Rat.mkRat_self, Rat.mkRat_self] at r1
 have na := q2V a (by omega)
 have nb := q2V b (by omega)
 rw [hx] at na
 rw [hy] at nb
 refine q0f (fn := qhq) rfl (q0a ?_)
 refine go 800 rfl ?_
 refine q00 rfl rfl na ?_
 refine go 800 rfl ?_
 refine q00 rfl rfl nb ?_
 refine go 800 rfl ?_
 refine q00 rfl rfl m1 ?_
 refine go 800 rfl ?_
 refine q00 rfl rfl m2 ?_
 refine go 800 rfl ?_
 refine q00 rfl rfl r1 ?_
 refine go 800 rfl ?_
 exact q0c rfl rfl rfl trivial rfl
theorem q8z (a : RR) {k : Nat} [h : SzR a k] (hk : k ≤ 1000000) : PU q9L [a.enc] = some (encI (q0Z a.v)) := by
 have qa : QB a.v (k + 1) := inferInstance
 have na := q2V a (by omega)
 generalize hx : a.v = x at *
 have sx : Sz (q0d x.num.natAbs) (k + 1) := ⟨q0x _, q0l.2 qa.num⟩
 have sdx : Sz (q0d x.den) (k + 1) := ⟨q0x _, q0l.2 qa.den⟩
 have l1 := sx.len
 have l3 := sdx.len
 have l2' : (q0d 2).length ≤ 1 := q0l.2 (by decide)
 have n2 : 2 * x.num.natAbs < 4294967296 ^ (1 + (k + 1)) := q2r (by decide) qa.num
 have n4 : 2 * x.den < 4294967296 ^ (1 + (k + 1)) := q2r (by decide) qa.den
 have n3 := qdU n2 qa.den
 have l4 := q0l.2 n2
 have l5 := q0l.2 n3
 have l6 := q0l.2 n4
 have m1 := q52 (q0d 2) (q0d x.num.natAbs) (by omega) (by omega)
 have m2 := q52 (q0d 2) (q0d x.den) (by omega) (by omega)
 rw [q0j, q0j] at m1 m2
 have a1 := ql2 (q0d (2 * x.num.natAbs)) (q0d x.den) (by omega) (by omega)
 rw [q0j, q0j] at a1
 have hdn := x.den_nz
 have d1 := q7M (q0d (2 * x.num.natAbs + x.den)) (q0d (2 * x.den)) (by omega) (by omega)
 rw [q0j, q0j, if_neg (by omega)] at d1
 have s5 : Sz (RI.mag ⟨(RR.of x).neg, q0d ((2 * x.num.natAbs + x.den) / (2 * x.den))⟩) _ := ⟨q0x _, q0l.2 (q74 (Nat.div_le_self _ _) n3)⟩
 have nrm := qed ⟨(RR.of x).neg, q0d ((2 * x.num.natAbs + x.den) / (2 * x.den))⟩ (by omega)
 have hrm := qq4 (RR.of x) (by rw [RR.of_den]; exact hdn)
 have em : val (RR.of x).mag = x.num.natAbs := q0j _
 rw [em, RR.of_den, RR.of_v, ← Nat.two_mul, ← Nat.two_mul] at hrm
 rw [hrm] at nrm
 refine q0f (fn := qd9) rfl (q0a ?_)
 refine go 800 rfl ?_
 refine q00 rfl rfl na ?_
 refine go 800 rfl ?_
 refine q00 rfl rfl (qeG 2 (by decide)) ?_
 refine go 800 rfl ?_
 refine q00 rfl rfl m1 ?_
 refine go 800 rfl ?_
 refine q00 rfl rfl a1 ?_
 refine go 800 rfl ?_
 refine q00 rfl rfl m2 ?_
 refine go 800 rfl ?_
 refine q00 rfl rfl d1 ?_
 refine go 800 rfl ?_
 refine q00 rfl rfl nrm ?_
 refine go 800 rfl ?_
 exact q0c rfl rfl rfl trivial rfl
end Go.F

namespace Go.F
attribute [local irreducible] IntKind.wrap wpM
theorem qrz (a b : RP) {j k : Nat} [ha : SzP a j] [hb : SzP b k] (hj : j ≤ 100000) (hk : k ≤ 100000) : PU qmi [a.enc, b.enc] = some (qi6 (qe9 a.v b.v)) := by
 refine q0f (fn := qhr) rfl (q0a ?_)
 refine go 800 rfl ?_
 refine q00 rfl rfl (qfV a.x b.x (by omega) (by omega)) ?_
 refine go 800 rfl ?_
 refine q00 rfl rfl (qfV a.y b.y (by omega) (by omega)) ?_
 refine go 800 rfl ?_
 exact q0c rfl rfl rfl trivial rfl
theorem q9n (a b : RP) {j k : Nat} [ha : SzP a j] [hb : SzP b k] (hj : j ≤ 100000) (hk : k ≤ 100000) : PU q8G [a.enc, b.enc] = some (qi6 (q1t a.v b.v)) := by
 refine q0f (fn := qhm) rfl (q0a ?_)
 refine go 800 rfl ?_
 refine q00 rfl rfl (qc3 a.x b.x (by omega) (by omega)) ?_
 refine go 800 rfl ?_
 refine q00 rfl rfl (qc3 a.y b.y (by omega) (by omega)) ?_
 refine go 800 rfl ?_
 exact q0c rfl rfl rfl trivial rfl
theorem qo6 (a : RP) (r : RR) {j k : Nat} [ha : SzP a j] [hb : SzR r k] (hj : j ≤ 100000) (hk : k ≤ 100000) : PU qiw [a.enc, r.enc] = some (qi6 (q4d a.v r.v)) := by
 refine q0f (fn := qdh) rfl (q0a ?_)
 refine go 800 rfl ?_
 refine q00 rfl rfl (qc4 a.x r (by omega) (by omega)) ?_
 refine go 800 rfl ?_
 refine q00 rfl rfl (qc4 a.y r (by omega) (by omega)) ?_
 refine go 800 rfl ?_
 exact q0c rfl rfl rfl trivial rfl
theorem qmQ (a b : RP) (t : RR) {i j k : Nat} [ha : SzP a i] [hb : SzP b j] [ht : SzR t k] (hi : i ≤ 10000) (hj : j ≤ 10000) (hk : k ≤ 10000) : PU qk6 [a.enc, b.enc, t.enc] = some (qi6 (onP a.v b.v t.v)) := by
 have s := qo6 (RP.of (q1t b.v a.v)) t (by omega) (by omega)
 rw [RP.of_v] at s
 have d := qrz a (RP.of (q4d (q1t b.v a.v) t.v)) (by omega) (by omega)
 rw [RP.of_v] at d
 refine q0f (fn := qjw) rfl (q0a ?_)
 refine go 800 rfl ?_
 refine q00 rfl rfl (q9n b a (by omega) (by omega)) ?_
 refine go 800 rfl ?_
 refine q00 rfl rfl s ?_
 refine go 800 rfl ?_
 refine q00 rfl rfl d ?_
 refine go 800 rfl ?_
 exact q0c rfl rfl rfl trivial rfl
set_option maxHeartbeats 1000000 in
theorem qq0 (p : RP) {k : Nat} [h : SzP p k] (hk : k ≤ 100000) : PU qk3 [p.enc] = some (.tup [(q20 p.v).1.enc, .int .i64 (q20 p.v).2]) := by
 have ex : p.v.x = p.x.v := rfl
 have ey : p.v.y = p.y.v := rfl
 have s1 := qc2 (RI.of (q0Z p.x.v)) (by omega)
 have s2 := qc2 (RI.of (q0Z p.y.v)) (by omega)
 rw [RI.of_v] at s1 s2
 have hg : ∀ b : Bool, (q5r (q0Z p.x.v) && q5r (q0Z p.y.v)) = b → q20 p.v = if b then (⟨q0Z p.x.v, q0Z p.y.v⟩, 0) else (⟨0, 0⟩, 3) := by
  intro b hb; rw [q20, ex, ey, hb]
 refine q0f (fn := qfl) rfl (q0a ?_)
 refine go 800 rfl ?_
 refine q00 rfl rfl (q8z p.x (by omega)) ?_
 refine go 800 rfl ?_
 by_cases hx : -9223372036854775808 ≤ q0Z p.x.v ∧ q0Z p.x.v ≤ 9223372036854775807
 ·rw [q5q, if_pos hx] at s1
  refine q00 rfl rfl s1 ?_
  refine go 800 rfl ?_
  refine q00 rfl rfl (q8z p.y (by omega)) ?_
  refine go 800 rfl ?_
  by_cases hy : -9223372036854775808 ≤ q0Z p.y.v ∧ q0Z p.y.v ≤ 9223372036854775807
  ·rw [q5q, if_pos hy] at s2
   refine q00 rfl rfl s2 ?_
   generalize q0Z p.x.v = X at *
   generalize q0Z p.y.v = Y at *
   repeat' (first
    | (refine goP 800 rfl rfl ?_)
    | (show wpM _ _ _ (Fr.ops _ _ (KOper.mk _ _ (some _) _ _ :: _) :: _) Ex.normal _ _ _ _ _; first | refine q0o rfl ?_ | refine q0u rfl ?_ | refine q09 rfl (fun _ => ?_) (fun _ => ?_))
    | (show wpM _ _ _ (Fr.code (K.cond _ _ _) :: _) Ex.normal _ _ _ _ _; first | refine q0m rfl ?_ | refine q0n rfl ?_ | refine q02 rfl (fun _ => ?_) (fun _ => ?_))
    | (show wpM _ _ _ (Fr.ops _ _ (KOper.mk _ _ none _ (KOp.pick _ _ _) :: _) :: _) Ex.normal _ _ _ _ _; refine q0I rfl (fun _ => ?_) (fun _ => ?_))
    | (show wpM _ _ _ [] _ _ _ _ _ _; refine q0c rfl rfl rfl trivial ?_))
   all_goals simp only [q22, q1U, decide_eq_true_eq, decide_eq_false_iff_not] at *
   all_goals first | (rw [hg true (by simp [q5r]; omega)]; rfl) | (rw [hg false (by simp [q5r]; omega)]; rfl)
  ·rw [q5q, if_neg hy] at s2
   refine q00 rfl rfl s2 ?_
   repeat' (first
    | (refine goP 800 rfl rfl ?_)
    | (show wpM _ _ _ (Fr.ops _ _ (KOper.mk _ _ (some _) _ _ :: _) :: _) Ex.normal _ _ _ _ _; first | refine q0o rfl ?_ | refine q0u rfl ?_ | refine q09 rfl (fun _ => ?_) (fun _ => ?_))
    | (show wpM _ _ _ (Fr.code (K.cond _ _ _) :: _) Ex.normal _ _ _ _ _; first | refine q0m rfl ?_ | refine q0n rfl ?_ | refine q02 rfl (fun _ => ?_) (fun _ => ?_))
    | (show wpM _ _ _ (Fr.ops _ _ (KOper.mk _ _ none _ (KOp.pick _ _ _) :: _) :: _) Ex.normal _ _ _ _ _; refine q0I rfl (fun _ => ?_) (fun _ => ?_))
    | (show wpM _ _ _ [] _ _ _ _ _ _; refine q0c rfl rfl rfl trivial ?_))
   all_goals (rw [hg false (by simp [q5r]; omega)]; rfl)
 ·rw [q5q, if_neg hx] at s1
  refine q00 rfl rfl s1 ?_
  refine go 800 rfl ?_
  refine q00 rfl rfl (q8z p.y (by omega)) ?_
  refine go 800 rfl ?_
  by_cases hy : -9223372036854775808 ≤ q0Z p.y.v ∧ q0Z p.y.v ≤ 9223372036854775807
  ·rw [q5q, if_pos hy] at s2
   refine q00 rfl rfl s2 ?_
   repeat' (first
    | (refine goP 800 rfl rfl ?_)
    | (show wpM _ _ _ (Fr.ops _ _ (KOper.mk _ _ (some _) _ _ :: _) :: _) Ex.normal _ _ _ _ _; first | refine q0o rfl ?_ | refine q0u rfl ?_ | refine q09 rfl (fun _ => ?_) (fun _ => ?_))
    | (show wpM _ _ _ (Fr.code (K.cond _ _ _) :: _) Ex.normal _ _ _ _ _; first | refine q0m rfl ?_ | refine q0n rfl ?_ | refine q02 rfl (fun _ => ?_) (fun _ => ?_))
    | (show wpM _ _ _ (Fr.ops _ _ (KOper.mk _ _ none _ (KOp.pick _ _ _) :: _) :: _) Ex.normal _ _ _ _ _; refine q0I rfl (fun _ => ?_) (fun _ => ?_))
    | (show wpM _ _ _ [] _ _ _ _ _ _; refine q0c rfl rfl rfl trivial ?_))
   all_goals (rw [hg false (by simp [q5r]; omega)]; rfl)
  ·rw [q5q, if_neg hy] at s2
   refine q00 rfl rfl s2 ?_
   repeat' (first
    | (refine goP 800 rfl rfl ?_)
    | (show wpM _ _ _ (Fr.ops _ _ (KOper.mk _ _ (some _) _ _ :: _) :: _) Ex.normal _ _ _ _ _; first | refine q0o rfl ?_ | refine q0u rfl ?_ | refine q09 rfl (fun _ => ?_) (fun _ => ?_))
    | (show wpM _ _ _ (Fr.code (K.cond _ _ _) :: _) Ex.normal _ _ _ _ _; first | refine q0m rfl ?_ | refine q0n rfl ?_ | refine q02 rfl (fun _ => ?_) (fun _ => ?_))
    | (show wpM _ _ _ (Fr.ops _ _ (KOper.mk _ _ none _ (KOp.pick _ _ _) :: _) :: _) Ex.normal _ _ _ _ _; refine q0I rfl (fun _ => ?_) (fun _ => ?_))
    | (show wpM _ _ _ [] _ _ _ _ _ _; refine q0c rfl rfl rfl trivial ?_))
   all_goals (rw [hg false (by simp [q5r]; omega)]; rfl)
end Go.F

namespace Go.F
attribute [local irreducible] IntKind.wrap wpM
theorem qcG (l : List Spot) : (q0H l).length ≤ l.length := by
 induction l with
 | nil => simp [q0H]
 | cons a l ih =>
   cases l with
   | nil => simp [q0H]
   | cons b l =>
     rw [q0H]
     split
     ·simp only [List.length_cons] at ih ⊢; omega
     ·simp only [List.length_cons] at ih ⊢; omega
section
variable {T : Tab} {sh : Shr} {nx0 : Nat} {s : List Fr} {t : q0z} {h : q0e} {z : Frz} {nx : Nat} {q : Ex → q0z → q0e → Frz → Nat → Prop}
variable {base i : Nat} {res : List Nat} {g : Gd} {rest : List KOper}
end
end Go.F

namespace Go.F
attribute [local irreducible] IntKind.wrap wpM
def q4D (c : List RP) : List RP := c.map fun p => RP.of p.v
theorem qhD (c : List RP) : (q4D c).length = c.length := by simp [q4D]
theorem qoH {c : List RP} {i : Nat} (h : i < c.length) : rp (q4D c) i = RP.of (rp c i).v := by
 rw [q5n (by simpa [q4D] using h), q5n h]; simp [q4D]
theorem quF {k : Nat} {c : List RP} (h : RB k c) : RB (k + 1) (q4D c) := by
 intro p hp
 simp only [q4D, List.mem_map] at hp
 obtain ⟨q, hq, rfl⟩ := hp
 have := h q hq
 infer_instance
theorem qqK (t : RR) (c : List RP) : q72 t (q4D c) = q72 t c := by
 unfold q72
 rw [qhD]
 apply List.map_congr_left
 intro i hi
 have hi := List.mem_range.1 hi
 unfold onR
 rw [qoH (by omega), qoH (by omega), RP.of_v, RP.of_v]
theorem qoI (t : RR) (c : List RP) : ∀ j, itR t (q4D c) (j + 1) = itR t c (j + 1)
 | 0 => qqK t c
 | j + 1 => by rw [itR, qoI t c j]; rfl
theorem qga (c : List RP) : PU qdP [pts c] = some (.bool (decide (2 ≤ c.length ∧ c.length ≤ 4))) := by
 refine q0f (fn := qdc) rfl (q0a ?_)
 repeat' (first
  | (refine goP 800 rfl rfl ?_)
  | (show wpM _ _ _ (Fr.ops _ _ (KOper.mk _ _ (some _) _ _ :: _) :: _) Ex.normal _ _ _ _ _; first | refine q0o rfl ?_ | refine q0u rfl ?_ | refine q09 rfl (fun _ => ?_) (fun _ => ?_))
  | (show wpM _ _ _ (Fr.code (K.cond _ _ _) :: _) Ex.normal _ _ _ _ _; first | refine q0m rfl ?_ | refine q0n rfl ?_ | refine q02 rfl (fun _ => ?_) (fun _ => ?_))
  | (show wpM _ _ _ (Fr.ops _ _ (KOper.mk _ _ none _ (KOp.pick _ _ _) :: _) :: _) Ex.normal _ _ _ _ _; refine q0I rfl (fun _ => ?_) (fun _ => ?_))
  | (show wpM _ _ _ [] _ _ _ _ _ _; refine q0c rfl rfl rfl trivial ?_))
 all_goals ((try simp only [q22, q1U, q2C, q31, decide_eq_true_eq, decide_eq_false_iff_not, Bool.not_eq_true, Bool.not_eq_false, Int.not_lt, Int.not_le] at *); first | (simp_all [pts]; done) | (simp_all [pts]; omega) | (rw [D.bool.injEq, Bool.eq_iff_iff]; simp [pts]; omega) | (rw [D.bool.injEq, Bool.eq_iff_iff]; simp_all [pts]; omega) | (simp [pts]; split <;> (try split) <;> omega))
theorem qoJ (c : List RP) {k : Nat} (h : RB k c) (hk : k ≤ 10000) (hc : c.length ≤ 1000) : PU qkc [pts c] = some (pts (q4D c)) := by
 refine q0f (fn := qfx) rfl (q0a ?_)
 refine go 800 rfl ?_
 refine q0p (S := fun i : Nat => ([pts c, .ref 1 0 i, q01 i], [none, some (.row ((q4D (c.take i)).map RP.enc) 6), none], [0, 0, 0])) (C := fun i => i ≤ c.length) (m := fun i => c.length - i) 0 (Nat.zero_le _) (by omega) ?_ ?_
 ·exact q03 rfl ⟨rfl, trivial⟩ (by simp [pts, q01, q4D])
 intro i hi N hN
 refine go 800 rfl ?_
 rw [List.length_map]
 refine q02 rfl (fun g => ?_) (fun g => ?_)
 ·rw [q06] at g
  have hlt : i < c.length := by omega
  have w1 : IntKind.i64.wrap ((i : Int) + 1) = ((i + 1 : Nat) : Int) := wrap64 (by omega) (by omega)
  have hst : (q4D (c.take (i + 1))).map RP.enc = (q4D (c.take i)).map RP.enc ++ [(RP.of (rp c i).v).enc] := by
   rw [List.take_succ_eq_append_getElem hlt, q4D, List.map_append, List.map_append, q5n hlt]; rfl
  have hs := h.at hlt
  refine go 800 rfl ?_
  refine q0i i rfl rfl rfl (qah hlt) rfl ?_
  refine go 800 rfl ?_
  refine q00 rfl rfl (q2V (rp c i).x (by omega)) ?_
  refine go 800 rfl ?_
  refine q0i i rfl rfl rfl (qah hlt) rfl ?_
  refine go 800 rfl ?_
  refine q00 rfl rfl (q2V (rp c i).y (by omega)) ?_
  refine go 800 rfl ?_
  refine q1e rfl rfl rfl rfl rfl rfl (by simp [q4D]; omega) (Nat.zero_le _) (by simp [q0K, q4D]; omega) ?_
  refine go 800 rfl ?_
  refine q05 ?_
  refine hN (i + 1) hlt (by omega) (q03 rfl ⟨?_, trivial⟩ ?_)
  ·rw [List.all_append, q04 q6J]; rfl
  ·rw [hst]; simp [pts, q01, w1]; rfl
 rw [q07] at g
 obtain rfl : i = c.length := by omega
 rw [List.take_length]
 refine go 800 rfl ?_
 refine q05 ?_
 refine go 800 rfl ?_
 refine q0c rfl rfl rfl ⟨q2u (by simp [q4D]) (q0T qai _), trivial⟩ ?_
 rw [q2q (by simp [q4D])]; rfl
theorem qly (c : List RP) (t : RR) {k kt : Nat} (h : RB k c) (ht : SzR t kt) (hk : k ≤ 10000) (hkt : kt ≤ 10000) (hc1 : 1 ≤ c.length) (hc : c.length ≤ 1000) : PU qgz [pts c, t.enc] = some (pts (q72 t c)) := by
 refine q0f (fn := qbv) rfl (q0a ?_)
 refine go 800 rfl ?_
 refine q0p (S := fun i : Nat => ([pts c, .ptr 1 0 0, .ref 2 0 i, q01 i], [none, some (.row [t.enc] 3), some (.row (((List.range i).map (onR t c)).map RP.enc) 6), none], [0, 0, 0, 0])) (C := fun i => i ≤ c.length - 1) (m := fun i => c.length - i) 0 (Nat.zero_le _) (by omega) ?_ ?_
 ·exact q03 rfl ⟨rfl, rfl, trivial⟩ (by simp [pts, q01, RR.enc, nat])
 intro i hi N hN
 have w1 : IntKind.i64.wrap ((i : Int) + 1) = ((i + 1 : Nat) : Int) := wrap64 (by omega) (by omega)
 refine go 800 rfl ?_
 rw [List.length_map, w1]
 refine q02 rfl (fun g => ?_) (fun g => ?_)
 ·rw [q06] at g
  have hlt : i + 1 < c.length := by omega
  have hst : (((List.range (i + 1)).map (onR t c)).map RP.enc) = ((List.range i).map (onR t c)).map RP.enc ++ [(onR t c i).enc] := by
   rw [List.range_succ, List.map_append, List.map_append]; rfl
  have hs := h.at (i := i) (by omega)
  have hs' := h.at hlt
  refine go 800 rfl ?_
  refine q0i i rfl rfl rfl (qah (by omega)) rfl ?_
  refine go 800 rfl ?_
  refine q0i (i + 1) rfl rfl w1 (qah hlt) rfl ?_
  refine go 800 rfl ?_
  refine q00 rfl rfl (qmQ (rp c i) (rp c (i + 1)) t hk hk hkt) ?_
  refine go 800 rfl ?_
  refine q1e rfl rfl rfl rfl rfl rfl (by simp) (Nat.zero_le _) (by simp [q0K]; omega) ?_
  refine go 800 rfl ?_
  refine q05 ?_
  refine hN (i + 1) (by omega) (by omega) (q03 rfl ⟨rfl, ?_, trivial⟩ ?_)
  ·rw [List.all_append, q04 q6J]; rfl
  ·rw [hst]; simp [pts, q01, w1, RR.enc, nat]; rfl
 rw [q07] at g
 obtain rfl : i = c.length - 1 := by omega
 refine go 800 rfl ?_
 refine q05 ?_
 refine go 800 rfl ?_
 refine q0c rfl rfl rfl ⟨q2u (by simp) (q0T qai _), trivial⟩ ?_
 rw [q2q (by simp)]; rfl
set_option maxHeartbeats 2000000 in
theorem qsZ (c : List RP) (t : RR) {k kt : Nat} (h : RB k c) (ht : SzR t kt) (hk : k ≤ 99) (hkt : kt ≤ 100) : PU qp6 [pts c, t.enc] = some (atC c t) := by
 unfold atC
 have hv := qga c
 by_cases e : 2 ≤ c.length ∧ c.length ≤ 4
 ·rw [if_pos e]
  rw [decide_eq_true e] at hv
  have hS := qqJ (quF h) ht (by rw [qhD]; exact e.2) (by omega) hkt
  have hl : ∀ j, (itR t (q4D c) j).length = c.length - j := fun j => by rw [q2M, qhD]
  refine q0f (fn := qg7) rfl (q0a ?_)
  refine go 800 rfl ?_
  refine q00 rfl rfl hv ?_
  refine go 800 rfl ?_
  refine q0n rfl ?_
  refine go 800 rfl ?_
  refine q00 rfl rfl (qoJ c h (by omega) (by omega)) ?_
  refine go 800 rfl ?_
  refine q0p (S := fun j : Nat => ([.ptr 0 0 0, .ptr 1 0 0, pts (itR t (q4D c) j)], [some (.row [t.enc] 3), some (.row [q7k none] 6), none], [0, 0, 0])) (C := fun j => j ≤ c.length - 1) (m := fun j => c.length - j) 0 (Nat.zero_le _) (by omega) ?_ ?_
  ·exact q03 rfl ⟨rfl, rfl, trivial⟩ (by simp [pts, RR.enc, nat, q7k, itR])
  intro j hj N hN
  refine go 800 rfl ?_
  rw [List.length_map, hl]
  refine q02 rfl (fun g => ?_) (fun g => ?_)
  ·rw [q06] at g
   obtain ⟨k', hk', hb⟩ := hS j
   refine go 800 rfl ?_
   refine q00 rfl rfl (qly (itR t (q4D c) j) t hb ht hk' (by omega) (by rw [hl]; omega) (by rw [hl]; omega)) ?_
   refine go 800 rfl ?_
   refine q05 ?_
   exact hN (j + 1) (by omega) (by omega) (q03 rfl ⟨rfl, rfl, trivial⟩ (by simp [pts, RR.enc, nat, q7k, itR]))
  rw [q07] at g
  obtain rfl : j = c.length - 1 := by omega
  have hat : rp (itR t (q4D c) (c.length - 1)) 0 = atR c t := by
   unfold atR
   obtain ⟨m, hm⟩ : ∃ m, c.length - 1 = m + 1 := ⟨c.length - 2, by omega⟩
   rw [hm, qoI]
  have hx := qah (c := itR t (q4D c) (c.length - 1)) (i := 0) (by rw [hl]; omega)
  rw [hat] at hx
  refine go 800 rfl ?_
  refine q05 ?_
  refine go 800 rfl ?_
  refine q0i 0 rfl rfl rfl hx rfl ?_
  refine go 800 rfl ?_
  refine q0c rfl rfl rfl trivial ?_
  rfl
 ·rw [if_neg e]
  rw [decide_eq_false e] at hv
  refine q0f (fn := qg7) rfl (q0a ?_)
  refine go 800 rfl ?_
  refine q00 rfl rfl hv ?_
  refine go 800 rfl ?_
  refine q0m rfl ?_
  refine go 800 rfl ?_
  refine q0c rfl rfl rfl trivial ?_
  rfl
set_option maxHeartbeats 4000000 in
theorem qjD (c : List RP) (n : Int) {k : Nat} (h : RB k c) (hk : k ≤ 99) : PU qeV [pts c, .int .i64 n] = some (.tup [pts (q38 c n).1, .int .i64 (q38 c n).2]) := by
 unfold q38
 have hv := qga c
 by_cases e : 2 ≤ c.length ∧ c.length ≤ 4
 ·rw [if_pos e]
  rw [decide_eq_true e] at hv
  by_cases f : n < 1 ∨ 39 < n
  ·rw [if_pos f]
   refine q0f (fn := q5v) rfl (q0a ?_)
   refine go 800 rfl ?_
   refine q00 rfl rfl hv ?_
   refine go 800 rfl ?_
   refine q0n rfl ?_
   repeat' (first
    | (refine goP 800 rfl rfl ?_)
    | (show wpM _ _ _ (Fr.ops _ _ (KOper.mk _ _ (some _) _ _ :: _) :: _) Ex.normal _ _ _ _ _; first | refine q0o rfl ?_ | refine q0u rfl ?_ | refine q09 rfl (fun _ => ?_) (fun _ => ?_))
    | (show wpM _ _ _ (Fr.code (K.cond _ _ _) :: _) Ex.normal _ _ _ _ _; first | refine q0m rfl ?_ | refine q0n rfl ?_ | refine q02 rfl (fun _ => ?_) (fun _ => ?_))
    | (show wpM _ _ _ (Fr.ops _ _ (KOper.mk _ _ none _ (KOp.pick _ _ _) :: _) :: _) Ex.normal _ _ _ _ _; refine q0I rfl (fun _ => ?_) (fun _ => ?_))
    | (show wpM _ _ _ [] _ _ _ _ _ _; refine q0c rfl rfl rfl trivial ?_))
   all_goals ((try simp only [q22, q1U, q2C, q31, decide_eq_true_eq, decide_eq_false_iff_not, Bool.not_eq_true, Bool.not_eq_false, Int.not_lt, Int.not_le] at *); first | (simp_all [pts]; done) | (simp_all [pts]; omega) | (rw [D.bool.injEq, Bool.eq_iff_iff]; simp [pts]; omega) | (rw [D.bool.injEq, Bool.eq_iff_iff]; simp_all [pts]; omega) | (simp [pts]; split <;> (try split) <;> omega))
  ·rw [if_neg f]
   obtain ⟨m, rfl⟩ : ∃ m : Nat, n = m := ⟨n.toNat, by omega⟩
   have hm1 : 1 ≤ m := by omega
   have hm2 : m ≤ 39 := by omega
   refine q0f (fn := q5v) rfl (q0a ?_)
   refine go 800 rfl ?_
   refine q00 rfl rfl hv ?_
   refine go 800 rfl ?_
   refine q0n rfl ?_
   refine go 800 rfl ?_
   refine q09 rfl (fun g => absurd (q06.1 g) (by omega)) (fun _ => ?_)
   refine go 800 rfl ?_
   refine q02 rfl (fun g => absurd (q06.1 g) (by omega)) (fun _ => ?_)
   refine go 800 rfl ?_
   refine q0p (S := fun i : Nat => ([pts c, q01 m, .ref 2 0 i, q01 i], [none, none, some (.row (((List.range i).map fun i => atR c (tR i m)).map RP.enc) 6), none], [0, 0, 0, 0])) (C := fun i => i ≤ m + 1) (m := fun i => m + 1 - i) 0 (Nat.zero_le _) (by omega) ?_ ?_
   ·exact q03 rfl ⟨rfl, trivial⟩ (by simp [pts, q01])
   intro i hi N hN
   refine go 800 rfl ?_
   refine q02 rfl (fun f1 => ?_) (fun f1 => ?_)
   ·rw [q1k] at f1
    have hil : i < m + 1 := by omega
    have wi : IntKind.i64.wrap ((i : Int) + 1) = ((i + 1 : Nat) : Int) := wrap64 (by omega) (by omega)
    have hr := qmP i m (by omega) (by omega) (by omega) (by omega)
    rw [Int.toNat_natCast] at hr
    have ha := qsZ c (tR i m) h (quE (by omega) (by omega) (by omega)) hk (by decide)
    rw [atC, if_pos e] at ha
    have hst : (((List.range (i + 1)).map fun i => atR c (tR i m)).map RP.enc) = ((List.range i).map fun i => atR c (tR i m)).map RP.enc ++ [(atR c (tR i m)).enc] := by
     rw [List.range_succ, List.map_append, List.map_append]; rfl
    refine go 800 rfl ?_
    refine q00 rfl rfl hr ?_
    refine go 800 rfl ?_
    refine q00 rfl rfl ha ?_
    refine go 800 rfl ?_
    refine q1e rfl rfl rfl rfl rfl rfl (by simp) (Nat.zero_le _) (by simp [q0K]; omega) ?_
    refine go 800 rfl ?_
    refine q05 ?_
    refine hN (i + 1) (by omega) (by omega) (q03 rfl ⟨?_, trivial⟩ ?_)
    ·rw [List.all_append, q04 q6J]; rfl
    ·rw [hst]; simp [pts, q01, wi]; rfl
   rw [q1f] at f1
   obtain rfl : i = m + 1 := by omega
   refine go 800 rfl ?_
   refine q05 ?_
   refine go 800 rfl ?_
   refine q0c rfl rfl rfl ⟨q2u (by simp) (q0T qai _), trivial⟩ ?_
   rw [q2q (by simp)]; rfl
 ·rw [if_neg e]
  rw [decide_eq_false e] at hv
  refine q0f (fn := q5v) rfl (q0a ?_)
  refine go 800 rfl ?_
  refine q00 rfl rfl hv ?_
  repeat' (first
   | (refine goP 800 rfl rfl ?_)
   | (show wpM _ _ _ (Fr.ops _ _ (KOper.mk _ _ (some _) _ _ :: _) :: _) Ex.normal _ _ _ _ _; first | refine q0o rfl ?_ | refine q0u rfl ?_ | refine q09 rfl (fun _ => ?_) (fun _ => ?_))
   | (show wpM _ _ _ (Fr.code (K.cond _ _ _) :: _) Ex.normal _ _ _ _ _; first | refine q0m rfl ?_ | refine q0n rfl ?_ | refine q02 rfl (fun _ => ?_) (fun _ => ?_))
   | (show wpM _ _ _ (Fr.ops _ _ (KOper.mk _ _ none _ (KOp.pick _ _ _) :: _) :: _) Ex.normal _ _ _ _ _; refine q0I rfl (fun _ => ?_) (fun _ => ?_))
   | (show wpM _ _ _ [] _ _ _ _ _ _; refine q0c rfl rfl rfl trivial ?_))
  all_goals ((try simp only [q22, q1U, q2C, q31, decide_eq_true_eq, decide_eq_false_iff_not, Bool.not_eq_true, Bool.not_eq_false, Int.not_lt, Int.not_le] at *); first | (simp_all [pts]; done) | (simp_all [pts]; omega) | (rw [D.bool.injEq, Bool.eq_iff_iff]; simp [pts]; omega) | (rw [D.bool.injEq, Bool.eq_iff_iff]; simp_all [pts]; omega) | (simp [pts]; split <;> (try split) <;> omega))
end Go.F

namespace Go.F
attribute [local irreducible] IntKind.wrap wpM
theorem qw9 {a b : ByteArray} (h : a.toList = b.toList) : a = b := by
 rw [Go.ByteArray.toList_eq, Go.ByteArray.toList_eq] at h
 exact ByteArray.ext (Array.ext' h)
theorem ba_eq (a b : ByteArray) : (a == b) = (a.toList == b.toList) := by
 have e : (a == b) = (a.data == b.data) := rfl
 rw [e, Bool.eq_iff_iff, beq_iff_eq, beq_iff_eq]
 exact ⟨fun h => by rw [Go.ByteArray.toList_eq, Go.ByteArray.toList_eq, h], fun h => by rw [qw9 h]⟩
def q4q (p : List Nmd) (s : ByteArray) : Option RP := (p.find? fun n => n.name.toList == s.toList).map (·.at_)
theorem qlo (m : List (ByteArray × RP)) (k s : ByteArray) (v : RP) : q3z (m ++ [(k, v)]) s = (q3z m s).or (if k.toList == s.toList then some v else none) := by
 unfold q3z
 rw [List.find?_append]
 cases m.find? fun p => s == p.1 with
 | some x => rfl
 | none =>
   simp only [Option.none_or, Option.map_none, List.find?_cons, List.find?_nil]
   rw [ba_eq, Bool.beq_comm]
   cases k.toList == s.toList <;> rfl
theorem qiU (s : ByteArray) : ∀ (p : List Nmd) (m : List (ByteArray × RP)), q3z (p.foldl qiT m) s = (q3z m s).or (q4q p s)
 | [], m => by simp [q4q]
 | n :: p, m => by
   rw [List.foldl_cons, qiU s p]
   unfold qiT
   by_cases hs : n.name.toList == s.toList
   ·have e : n.name = s := qw9 (by simpa using hs)
    have hf : q4q (n :: p) s = some n.at_ := by simp [q4q, hs]
    rw [hf]
    split
    ·rename_i h
     rw [e] at h
     obtain ⟨v, hv⟩ := Option.isSome_iff_exists.1 h
     rw [hv]; rfl
    ·rename_i h
     rw [e] at h
     have hv : q3z m s = none := by simpa using h
     rw [qlo, hv, hs]; rfl
   ·have hf : q4q (n :: p) s = q4q p s := by simp [q4q, hs]
    rw [hf]
    split
    ·rfl
    ·rw [qlo, if_neg hs, Option.or_none]
theorem qhb (p : List Nmd) (s : ByteArray) : q3z (places p) s = q4q p s := by
 rw [places, qiU]; simp [q3z]
def encF : Option RP → D
 | some r => .tup [r.enc, .bool true]
 | none => .tup [rp0.enc, .bool false]
theorem qqn (p : List Nmd) (s : ByteArray) (hp : p.length ≤ 1000000) : PU qk2 [q4I p, .str s] = some (encF (q4q p s)) := by
 refine q0f (fn := qfk) rfl (q0a ?_)
 refine go 800 rfl ?_
 refine q0p (S := fun i : Nat => ([q4I p, .str s, .ptr 2 0 0, q01 i], [none, none, some (.row [q7k none] 6), none], [0, 0, 0, 0])) (C := fun i => i ≤ p.length ∧ q4q p s = q4q (p.drop i) s) (m := fun i => p.length - i) 0 ⟨Nat.zero_le _, rfl⟩ (by omega) ?_ ?_
 ·exact q03 rfl ⟨rfl, trivial⟩ (by simp [q4I, q01, q7k])
 rintro i ⟨hi, hf⟩ N hN
 refine go 800 rfl ?_
 rw [List.length_map]
 refine q02 rfl (fun g => ?_) (fun g => ?_)
 ·rw [q06] at g
  have hlt : i < p.length := by omega
  have w1 : IntKind.i64.wrap ((i : Int) + 1) = ((i + 1 : Nat) : Int) := wrap64 (by omega) (by omega)
  have hd : q4q (p.drop i) s = if p[i].name.toList == s.toList then some p[i].at_ else q4q (p.drop (i + 1)) s := by
   rw [List.drop_eq_getElem_cons hlt]
   unfold q4q
   rw [List.find?_cons]
   cases p[i].name.toList == s.toList <;> rfl
  rw [hd] at hf
  have hnd := qou hlt
  generalize p[i] = n at *
  refine go 800 rfl ?_
  refine q0i i rfl rfl rfl hnd rfl ?_
  refine go 800 rfl ?_
  refine q02 rfl (fun e => ?_) (fun e => ?_)
  ·rw [if_pos e] at hf
   refine go 800 rfl ?_
   refine q0i i rfl rfl rfl hnd rfl ?_
   refine go 800 rfl ?_
   refine q05 ?_
   refine go 800 rfl ?_
   refine q0c rfl rfl rfl trivial ?_
   rw [hf]; rfl
  ·rw [if_neg (by rw [e]; decide)] at hf
   refine go 800 rfl ?_
   refine q05 ?_
   exact hN (i + 1) ⟨hlt, hf⟩ (by omega) (q03 rfl ⟨rfl, trivial⟩ (by simp [q4I, q01, q7k, w1]))
 rw [q07] at g
 obtain rfl : i = p.length := by omega
 have hf : q4q p s = none := by rw [hf, List.drop_length]; rfl
 refine go 800 rfl ?_
 refine q05 ?_
 refine go 800 rfl ?_
 refine q0c rfl rfl rfl trivial ?_
 rw [hf]; rfl
theorem qcd : ∀ a : List Spot, (q0H a).getLast? = a.getLast?
 | [] => rfl
 | [_] => rfl
 | a :: b :: l => by
   have ih := qcd (b :: l)
   rw [q0H]
   split
   ·rw [ih, List.getLast?_cons_cons]
   ·rw [List.getLast?_cons_cons, ← ih]
    have hne : q0H (b :: l) ≠ [] := by
     intro e; rw [e, List.getLast?_cons] at ih
     cases ih
    cases h : q0H (b :: l) with
    | nil => exact absurd h hne
    | cons x r => rw [List.getLast?_cons_cons]
theorem qs0 {a : List Spot} (h : a ≠ []) : (q0H a).length ≠ 0 ∧ (q0H a)[(q0H a).length - 1]? = some (pt a (a.length - 1)) := by
 have hl := qcd a
 have e : a.getLast? = some (pt a (a.length - 1)) := by
  rw [List.getLast?_eq_getElem?, q0F (by have := List.length_pos_iff.2 h; omega)]
  exact List.getElem?_eq_getElem _
 rw [e] at hl
 refine ⟨fun h0 => ?_, ?_⟩
 ·rw [List.eq_nil_of_length_eq_zero h0] at hl; simp at hl
 ·rw [← List.getLast?_eq_getElem?]; exact hl
set_option maxHeartbeats 4000000 in
theorem qqo (p : List Nmd) (c : Crvd) {k : Nat} (hm : ∀ n ∈ p, SzP n.at_ k) (hk : k ≤ 99) (hp : p.length ≤ 1000) (hc : c.ctl.length ≤ 1000) :
 PU qjY [q4I p, c.enc] = some (.tup [q0g (q1A (places p) c).1, .int .i64 (q1A (places p) c).2]) := by
 have hMB := qid hm
 have hpf := qhb p
 generalize places p = m at *
 refine q0f (fn := qfg) rfl (q0a ?_)
 refine go 800 rfl ?_
 refine q0p (S := fun x : Nat × List RP => ([q4I p, .ptr 1 0 0, .ref 2 0 x.1, q01 x.1], [none, some (.row [c.enc] 3), some (.row (x.2.map RP.enc) 6), none], [0, 0, 0, 0])) (C := fun x => x.1 ≤ c.ctl.length ∧ (c.ctl.take x.1).mapM (q3z m) = some x.2) (m := fun x => c.ctl.length - x.1) (0, []) ⟨Nat.zero_le _, rfl⟩ (by show c.ctl.length - 0 < _; omega) ?_ ?_
 ·exact q03 rfl ⟨rfl, rfl, trivial⟩ (by simp [q01, Crvd.enc, q4I])
 rintro ⟨i, ps⟩ ⟨hi, hps⟩ N hN
 simp only at hi hps
 refine go 800 rfl ?_
 rw [List.length_map]
 refine q02 rfl (fun e1 => ?_) (fun e1 => ?_)
 ·rw [q06] at e1
  have hlt : i < c.ctl.length := by omega
  have w1 : IntKind.i64.wrap ((i : Int) + 1) = ((i + 1 : Nat) : Int) := wrap64 (by omega) (by omega)
  have hst : (c.ctl.take (i + 1)).mapM (q3z m) = (q3z m c.ctl[i]).map fun y => ps ++ [y] := by
   rw [List.take_succ_eq_append_getElem hlt, qn8, hps]; rfl
  have hpl : ps.length = i := by
   have := (qh9 hMB _ _ hps).2
   rw [List.length_take] at this; omega
  have hfd := qqn p c.ctl[i] (by omega)
  rw [← hpf] at hfd
  refine go 800 rfl ?_
  refine q0i i rfl rfl rfl (d := .str c.ctl[i]) (by rw [List.getElem?_map, List.getElem?_eq_getElem hlt]; rfl) rfl ?_
  refine go 800 rfl ?_
  refine q00 rfl rfl hfd ?_
  cases hv : q3z m c.ctl[i] with
  | some r =>
    rw [hv] at hst
    refine go 800 rfl ?_
    refine q0n rfl ?_
    refine go 800 rfl ?_
    refine q1e rfl rfl rfl rfl rfl rfl (by simp [hpl]) (Nat.zero_le _) (by simp [q0K]; omega) ?_
    refine go 800 rfl ?_
    refine q05 ?_
    refine hN (i + 1, ps ++ [r]) ⟨hlt, hst⟩ (by show _ - (i + 1) < _ - i; omega) (q03 rfl ⟨rfl, ?_, trivial⟩ ?_)
    ·rw [List.all_append, q04 q6J]; rfl
    ·simp [q01, Crvd.enc, q4I, w1]; rfl
  | none =>
    have hr : q1A m c = ([], 6) := by unfold q1A; rw [qn9 _ hlt hv]
    refine go 800 rfl ?_
    refine q0m rfl ?_
    refine go 800 rfl ?_
    refine q05 ?_
    refine go 800 rfl ?_
    refine q0c rfl rfl rfl trivial ?_
    rw [hr]; rfl
 rw [q07] at e1
 obtain rfl : i = c.ctl.length := by omega
 rw [List.take_length] at hps
 obtain ⟨hb, hpl⟩ := qh9 hMB _ _ hps
 have hfl := qjD ps c.seg hb hk
 obtain ⟨hz1, hz2⟩ := qot hb (by omega) c.seg
 have hr : q1A m c = if (q38 ps c.seg).2 = 0 then qcx (q38 ps c.seg).1 else ([], (q38 ps c.seg).2) := by unfold q1A; rw [hps]
 refine go 800 rfl ?_
 refine q05 ?_
 refine go 800 rfl ?_
 refine q1Z rfl rfl ⟨q2u (by simp [hpl]) (q0T qai _), trivial⟩ (by rw [q2q (by simp [hpl])]; exact hfl) fun z => ?_
 rw [hr]
 generalize (q38 ps c.seg).1 = fl at *
 generalize (q38 ps c.seg).2 = er at *
 refine go 800 rfl ?_
 refine q02 rfl (fun e2 => ?_) (fun e2 => ?_)
 ·rw [q0O] at e2
  rw [if_neg e2]
  refine go 800 rfl ?_
  refine q0c rfl rfl rfl trivial ?_
  rfl
 rw [q0S] at e2
 rw [if_pos e2]
 have hgl : ∀ x, q1H (fl.take x) = (q1H fl).take x := fun x => by simp [q1H, List.map_take]
 have hgn : (q1H fl).length = fl.length := by simp [q1H]
 refine go 800 rfl ?_
 refine q0p (S := fun x : Nat => ([pts fl, .ref 1 0 (q0H ((q1H fl).take x)).length, q01 x], [none, some (.row ((q0H ((q1H fl).take x)).map Spot.enc) 2), none], [0, 0, 0])) (C := fun x => x ≤ fl.length ∧ q9Z fl = q9Z (fl.drop x)) (m := fun x => fl.length - x) 0 ⟨Nat.zero_le _, rfl⟩ (by omega) ?_ ?_
 ·exact q03 rfl ⟨rfl, trivial⟩ (by simp [q01, pts, q0H])
 rintro j ⟨hj, hje⟩ N2 hN2
 refine go 800 rfl ?_
 rw [List.length_map]
 refine q02 rfl (fun f1 => ?_) (fun f1 => ?_)
 ·rw [q06] at f1
  have hlt : j < fl.length := by omega
  have wj : IntKind.i64.wrap ((j : Int) + 1) = ((j + 1 : Nat) : Int) := wrap64 (by omega) (by omega)
  have hdr : fl.drop j = rp fl j :: fl.drop (j + 1) := by rw [List.drop_eq_getElem_cons hlt, q5n hlt]
  obtain ⟨k', hk1, hk2⟩ := hz2 (rp fl j) (by rw [q5n hlt]; exact List.getElem_mem _)
  have hg := qq0 (rp fl j) (h := hk2) (by omega)
  have hpj : (q20 (rp fl j).v).1 = pt (q1H fl) j := by
   rw [q0F (by omega), q5n hlt]; simp [q1H]
  rw [hdr, q9Z] at hje
  refine go 800 rfl ?_
  refine q0i j rfl rfl rfl (qah hlt) rfl ?_
  refine go 800 rfl ?_
  refine q00 rfl rfl hg ?_
  rw [hpj]
  refine go 800 rfl ?_
  refine q02 rfl (fun f2 => ?_) (fun f2 => ?_)
  ·rw [q0O] at f2
   rw [if_neg f2] at hje
   refine go 800 rfl ?_
   refine q05 ?_
   refine go 800 rfl ?_
   refine q0c rfl rfl rfl trivial ?_
   rw [qcx, if_neg (by rw [hje]; exact f2), hje]; rfl
  ·rw [q0S] at f2
   rw [if_pos f2] at hje
   have hcl : (q0H ((q1H fl).take j)).length ≤ 40 := by
    have h1 := qcG ((q1H fl).take j)
    have h2 := List.length_take_le j (q1H fl)
    have h3 := List.length_take (l := q1H fl) (i := j)
    omega
   rcases Nat.eq_zero_or_pos j with rfl | hj0
   ·have hst : q0H ((q1H fl).take (0 + 1)) = [pt (q1H fl) 0] := by
     rw [List.take_succ_eq_append_getElem (by omega), q0F (by omega)]; rfl
    refine go 800 rfl ?_
    refine q09 rfl (fun _ => ?_) (fun e => absurd (q1w.1 e) (by simp [q0H]))
    refine go 800 rfl ?_
    refine q0m rfl ?_
    refine go 800 rfl ?_
    refine q1e rfl rfl rfl rfl rfl rfl (by simp) (Nat.zero_le _) (by simp [q0K, q0H]) ?_
    refine go 800 rfl ?_
    refine q05 ?_
    refine hN2 (0 + 1) ⟨hlt, hje⟩ (by omega) (q03 rfl ⟨?_, trivial⟩ ?_)
    ·rw [List.all_append, q04 q0h]; rfl
    ·rw [hst, wj]; simp [q01, pts, q0H]; rfl
   ·have hne : (q1H fl).take j ≠ [] := by
     intro e
     have := congrArg List.length e
     rw [List.length_take, List.length_nil] at this
     omega
    obtain ⟨q1, q2⟩ := qs0 hne
    have hlj : ((q1H fl).take j).length = j := by rw [List.length_take]; omega
    have hptj : pt ((q1H fl).take j) (j - 1) = pt (q1H fl) (j - 1) := by
     rw [q0F (by omega), q0F (by omega), List.getElem_take]
    rw [hlj, hptj] at q2
    have hst := qbe (q1H fl) hj0 (by omega)
    generalize q0H ((q1H fl).take j) = C at *
    have wl : IntKind.i64.wrap ((C.length : Int) - 1) = ((C.length - 1 : Nat) : Int) := by rw [wrap64 (by omega) (by omega)]; omega
    refine go 800 rfl ?_
    refine q09 rfl (fun e => absurd (q2z.1 e) (by omega)) (fun _ => ?_)
    refine go 800 rfl ?_
    refine q0B (C.length - 1) rfl rfl rfl rfl wl (by omega) ?_
    refine go 800 rfl ?_
    refine q1O (enc := Spot.enc) C (C.length - 1) (pt (q1H fl) (j - 1)) rfl (Nat.zero_add _) (fun _ => rfl) rfl q2 ?_
    refine go 800 rfl ?_
    refine q02 rfl (fun e => ?_) (fun e => ?_)
    ·have hne2 : pt (q1H fl) (j - 1) ≠ pt (q1H fl) j := by
      intro g; rw [q0Y, decide_eq_true g] at e; exact absurd e (by decide)
     rw [if_neg hne2] at hst
     refine go 800 rfl ?_
     refine q1e rfl rfl rfl rfl rfl rfl (by simp) (Nat.zero_le _) (by simp [q0K]; omega) ?_
     refine go 800 rfl ?_
     refine q05 ?_
     refine hN2 (j + 1) ⟨hlt, hje⟩ (by omega) (q03 rfl ⟨?_, trivial⟩ ?_)
     ·rw [List.all_append, q04 q0h]; rfl
     ·rw [hst]; simp [q01, pts, wj]; rfl
    ·have he2 : pt (q1H fl) (j - 1) = pt (q1H fl) j := by
      rw [q0Y] at e; simpa using e
     rw [if_pos he2, List.append_nil] at hst
     refine go 800 rfl ?_
     refine q05 ?_
     refine hN2 (j + 1) ⟨hlt, hje⟩ (by omega) (q03 rfl ⟨q04 q0h _, trivial⟩ ?_)
     rw [hst]; simp [q01, pts, wj]
 rw [q07] at f1
 obtain rfl : j = fl.length := by omega
 have hje : q9Z fl = 0 := by rw [hje, List.drop_length]; rfl
 rw [← hgn, List.take_length]
 rw [qcx, if_pos hje]
 refine go 800 rfl ?_
 refine q05 ?_
 refine go 800 rfl ?_
 refine q0c rfl rfl rfl ⟨q2u (by simp) (q0T q24 _), trivial⟩ ?_
 rw [q2q (by simp)]; rfl
set_option maxHeartbeats 4000000 in
theorem qov (p : List Nmd) (l : List Crvd) {k : Nat} (hm : ∀ n ∈ p, SzP n.at_ k) (hk : k ≤ 99) (hp : p.length ≤ 1000) (hl : l.length ≤ 1000) (hc : ∀ c ∈ l, c.ctl.length ≤ 1000) :
 PU qik [q4I p, q1X l] = some (.tup [q0s (q2l p l).1, .int .i64 (q2l p l).2]) := by
 have hed := fun c hcl => qqo p c hm hk hp (hc c hcl)
 refine q0f (fn := qcL) rfl (q0a ?_)
 refine go 800 rfl ?_
 refine q02 rfl (fun e0 => ?_) (fun e0 => ?_)
 ·rw [q06, List.length_map] at e0
  have hr : q2l p l = ([], 5) := by rw [q2l, if_pos (by omega)]
  refine go 800 rfl ?_
  refine q0c rfl rfl rfl trivial ?_
  rw [hr]; rfl
 rw [q07, List.length_map] at e0
 have hrp : q2l p l = if trE (places p) l ≠ 0 then ([], trE (places p) l)
  else if ∀ i, i < l.length → linked l i then (if q0J (l.map (eg1 (places p))) = 0 then (l.map (eg1 (places p)), 0) else ([], q0J (l.map (eg1 (places p)))))
  else ([], 11) := by rw [q2l, if_neg (by omega)]
 rw [hrp]
 generalize places p = m at *
 refine go 800 rfl ?_
 refine q0p (S := fun x : Nat => ([q4I p, q1X l, .ref 2 0 x, q01 x], [none, none, some (.row (((l.take x).map (eg1 m)).map Edge.enc) 2), none], [0, 0, 0, 0])) (C := fun x => x ≤ l.length ∧ trE m l = trE m (l.drop x)) (m := fun x => l.length - x) 0 ⟨Nat.zero_le _, rfl⟩ (by omega) ?_ ?_
 ·exact q03 rfl ⟨rfl, trivial⟩ (by simp [q4I, q1X, q01])
 rintro i ⟨hi, hie⟩ N hN
 refine go 800 rfl ?_
 rw [List.length_map]
 refine q02 rfl (fun e2 => ?_) (fun e2 => ?_)
 ·rw [q06] at e2
  have hlt : i < l.length := by omega
  have w1 : IntKind.i64.wrap ((i : Int) + 1) = ((i + 1 : Nat) : Int) := wrap64 (by omega) (by omega)
  have hdr : l.drop i = cv l i :: l.drop (i + 1) := by rw [List.drop_eq_getElem_cons hlt, q55 hlt]
  have ht := hed (cv l i) (by rw [q55 hlt]; exact List.getElem_mem _)
  have hst : ((l.take (i + 1)).map (eg1 m)).map Edge.enc = ((l.take i).map (eg1 m)).map Edge.enc ++ [(eg1 m (cv l i)).enc] := by
   rw [List.take_succ_eq_append_getElem hlt, List.map_append, List.map_append, q55 hlt]; rfl
  rw [hdr, trE] at hie
  refine go 800 rfl ?_
  refine q0i i rfl rfl rfl (qcc hlt) rfl ?_
  refine go 800 rfl ?_
  refine q00 rfl rfl ht ?_
  refine go 800 rfl ?_
  refine q02 rfl (fun e3 => ?_) (fun e3 => ?_)
  ·rw [q0O] at e3
   rw [if_neg e3] at hie
   refine go 800 rfl ?_
   refine q05 ?_
   refine go 800 rfl ?_
   refine q0c rfl rfl rfl trivial ?_
   rw [if_pos (by rw [hie]; exact e3), hie]; rfl
  ·rw [q0S] at e3
   rw [if_pos e3] at hie
   refine go 800 rfl ?_
   refine q0i i rfl rfl rfl (qcc hlt) rfl ?_
   refine go 800 rfl ?_
   refine q1e rfl rfl rfl rfl rfl rfl (by simp; omega) (Nat.zero_le _) (by simp [q0K]; omega) ?_
   refine go 800 rfl ?_
   refine q05 ?_
   refine hN (i + 1) ⟨hlt, hie⟩ (by omega) (q03 rfl ⟨?_, trivial⟩ ?_)
   ·rw [List.all_append, q04 q1G]; rfl
   ·rw [hst]; simp [q4I, q1X, q01, w1]; rfl
 rw [q07] at e2
 obtain rfl : i = l.length := by omega
 rw [List.take_length]
 clear hN
 have hie : trE m l = 0 := by rw [hie, List.drop_length]; rfl
 rw [if_neg (by rw [hie]; decide)]
 have hctl := qsO hie
 refine go 800 rfl ?_
 refine q05 ?_
 refine go 800 rfl ?_
 refine q0p (S := fun i : Nat => ([q1X l, .ref 1 0 l.length, q01 i], [none, some (.row ((l.map (eg1 m)).map Edge.enc) 2), none], [0, 0, 0])) (C := fun i => i ≤ l.length ∧ ∀ j, j < i → linked l j) (m := fun i => l.length - i) 0 ⟨Nat.zero_le _, fun _ h => absurd h (by omega)⟩ (by omega) ?_ ?_
 ·exact q03 rfl ⟨q04 q1G _, trivial⟩ (by simp [q1X, q01])
 rintro i ⟨hi, hil⟩ N hN
 refine go 800 rfl ?_
 rw [List.length_map]
 refine q02 rfl (fun e3 => ?_) (fun e3 => ?_)
 ·rw [q06] at e3
  have hlt : i < l.length := by omega
  have hm' : (i + 1) % l.length < l.length := Nat.mod_lt _ (by omega)
  have w1 : IntKind.i64.wrap ((i : Int) + 1) = ((i + 1 : Nat) : Int) := wrap64 (by omega) (by omega)
  have c1 := hctl (cv l i) (by rw [q55 hlt]; exact List.getElem_mem _)
  have c2 := hctl (cv l ((i + 1) % l.length)) (by rw [q55 hm']; exact List.getElem_mem _)
  have c3 := hc (cv l i) (by rw [q55 hlt]; exact List.getElem_mem _)
  have w2 : IntKind.i64.wrap ((((cv l i).ctl.map D.str).length : Int) - 1) = (((cv l i).ctl.length - 1 : Nat) : Int) := by rw [List.length_map, wrap64 (by omega) (by omega)]; omega
  refine go 800 rfl ?_
  refine q0i i rfl rfl rfl (qcc hlt) rfl ?_
  refine go 800 rfl ?_
  refine q3Y rfl rfl (by rw [List.length_map]; omega) ?_
  refine go 800 rfl ?_
  refine q0i ((i + 1) % l.length) rfl rfl (by rw [w1, List.length_map, q1m]) (qcc hm') rfl ?_
  refine go 800 rfl ?_
  refine q0i ((cv l i).ctl.length - 1) rfl rfl w2 (d := .str (qek (cv l i))) (by rw [List.getElem?_map, List.getElem?_eq_getElem (by omega)]; simp [qek, List.getD, (by omega : (cv l i).ctl.length - 1 < (cv l i).ctl.length)]) rfl ?_
  refine go 800 rfl ?_
  refine q0i 0 rfl rfl rfl (d := .str (qel (cv l ((i + 1) % l.length)))) (by rw [List.getElem?_map, List.getElem?_eq_getElem (by omega)]; simp [qel, List.getD, (by omega : 0 < (cv l ((i + 1) % l.length)).ctl.length)]) rfl ?_
  refine go 800 rfl ?_
  refine q02 rfl (fun e4 => ?_) (fun e4 => ?_)
  ·have e4 : ¬ linked l i := by
    intro g; unfold linked at g; rw [g] at e4; simp at e4
   rw [if_neg (fun g => e4 (g i hlt))]
   refine go 800 rfl ?_
   refine q05 ?_
   refine go 800 rfl ?_
   refine q0c rfl rfl rfl trivial ?_
   rfl
  ·have e4 : linked l i := by
    unfold linked; simpa using e4
   refine go 800 rfl ?_
   refine q05 ?_
   refine hN (i + 1) ⟨hlt, fun j hj => ?_⟩ (by omega) (q03 rfl ⟨q04 q1G _, trivial⟩ (by simp [q1X, q01, w1]))
   rcases Nat.lt_succ_iff_lt_or_eq.1 hj with h | rfl
   ·exact hil j h
   ·exact e4
 rw [q07] at e3
 obtain rfl : i = l.length := by omega
 rw [if_pos hil]
 clear hN
 refine go 800 rfl ?_
 refine q05 ?_
 refine go 800 rfl ?_
 refine q8C rfl rfl ⟨q2u (by simp) (q0T q5u _), trivial⟩ (by rw [q2q (by simp)]; exact q6W _) rfl ?_
 refine go 800 rfl ?_
 refine q02 rfl (fun e5 => ?_) (fun e5 => ?_)
 ·rw [q0O] at e5
  rw [if_neg e5]
  refine go 800 rfl ?_
  refine q0c rfl rfl rfl trivial ?_
  rfl
 ·rw [q0S] at e5
  rw [if_pos e5]
  refine go 800 rfl ?_
  refine q0c rfl rfl rfl ⟨q2u (by simp) (q0T q5u _), trivial⟩ ?_
  rw [q2q (by simp)]; rfl
end Go.F

namespace Go.F
attribute [local irreducible] IntKind.wrap wpM
end Go.F
