/- Parts of the proof, part 47: Base~, Geo1~, Geo7~, Geo8~, Ref1~, Plain1~, Ref2~, Ref3~, Nz1~, Nz2~, Nz8~, Nz9~, Turn1~, Turn2~, Turn3~, Ply2~, Ply3~, LChk. -/
import Derived.Test.YtjjkgfikkihokaaGreatZ43
import Derived.Test.YtjjkgfikkihokaaGreatZ39
import Derived.Test.YtjjkgfikkihokaaGreatZ42
import Derived.IntWalk
import Derived.Test.YtjjkgfikkihokaaGreatZ44
import Derived.KernelRfl
import Derived.Test.YtjjkgfikkihokaaGreatZ45
import Derived.Test.YtjjkgfikkihokaaGreatZ46
set_option linter.all false
namespace Go.F
def ints (l : List Int) : D := .lst (l.map q01)
section
variable {T : Tab} {sh : Shr} {nx0 : Nat} {s : List Fr} {t : q0z} {h : q0e} {z : Frz} {nx : Nat} {q : Ex → q0z → q0e → Frz → Nat → Prop}
variable {base i : Nat} {res : List Nat} {dst : Nat} {g : Gd} {rest : List KOper}
end
end Go.F

namespace Go.F
attribute [local irreducible] IntKind.wrap wpM
theorem qgk (a b c : Spot) [OkS a] [OkS b] [OkS c] : PU q3W [a.enc, b.enc, c.enc] = some (.int .i64 (q0X a b c)) := by
 refine q0f (fn := qdi) rfl (q0a ?_)
 repeat' (first
  | (refine goP 800 rfl rfl ?_)
  | (show wpM _ _ _ (Fr.ops _ _ (KOper.mk _ _ (some _) _ _ :: _) :: _) Ex.normal _ _ _ _ _; first | refine q0o rfl ?_ | refine q0u rfl ?_ | refine q09 rfl (fun _ => ?_) (fun _ => ?_))
  | (show wpM _ _ _ (Fr.code (K.cond _ _ _) :: _) Ex.normal _ _ _ _ _; first | refine q0m rfl ?_ | refine q0n rfl ?_ | refine q02 rfl (fun _ => ?_) (fun _ => ?_))
  | (show wpM _ _ _ (Fr.ops _ _ (KOper.mk _ _ none _ (KOp.pick _ _ _) :: _) :: _) Ex.normal _ _ _ _ _; refine q0I rfl (fun _ => ?_) (fun _ => ?_))
  | (show wpM _ _ _ [] _ _ _ _ _ _; refine q0c rfl rfl rfl trivial ?_))
 simp [q0C, q0X]
theorem q98 (a b p : Spot) [OkS a] [OkS b] [OkS p] : PU q2T [a.enc, b.enc, p.enc] = some (.bool (onS a b p)) := by
 refine q0f (fn := qa3) rfl (q0a ?_)
 repeat' (first
  | (refine goP 800 rfl rfl ?_)
  | (show wpM _ _ _ (Fr.ops _ _ (KOper.mk _ _ (some _) _ _ :: _) :: _) Ex.normal _ _ _ _ _; first | refine q0o rfl ?_ | refine q0u rfl ?_ | refine q09 rfl (fun _ => ?_) (fun _ => ?_))
  | (show wpM _ _ _ (Fr.code (K.cond _ _ _) :: _) Ex.normal _ _ _ _ _; first | refine q0m rfl ?_ | refine q0n rfl ?_ | refine q02 rfl (fun _ => ?_) (fun _ => ?_))
  | (show wpM _ _ _ (Fr.ops _ _ (KOper.mk _ _ none _ (KOp.pick _ _ _) :: _) :: _) Ex.normal _ _ _ _ _; refine q0I rfl (fun _ => ?_) (fun _ => ?_))
  | (show wpM _ _ _ [] _ _ _ _ _ _; refine q0c rfl rfl rfl trivial ?_)
  | (show wpM _ _ _ (Fr.ops _ _ (KOper.mk _ _ none _ (KOp.callF q3W _) :: _) :: _) Ex.normal _ _ _ _ _; refine q00 rfl rfl (qgk _ _ _) ?_))
 all_goals ((try simp only [q22, q1U, q2C, q31, decide_eq_true_eq, decide_eq_false_iff_not, Bool.not_eq_true, Bool.not_eq_false, Int.not_lt, Int.not_le] at *); first | (simp_all [onS]; done) | (simp_all [onS]; omega) | (rw [D.bool.injEq, Bool.eq_iff_iff]; simp [onS]; omega) | (rw [D.bool.injEq, Bool.eq_iff_iff]; simp_all [onS]; omega) | (simp [onS]; split <;> (try split) <;> omega))
theorem qp0 (n : Int) : PU q7q [.int .i64 n] = some (.int .i64 (sgn n)) := by
 refine q0f (fn := qfw) rfl (q0a ?_)
 repeat' (first
  | (refine goP 800 rfl rfl ?_)
  | (show wpM _ _ _ (Fr.ops _ _ (KOper.mk _ _ (some _) _ _ :: _) :: _) Ex.normal _ _ _ _ _; first | refine q0o rfl ?_ | refine q0u rfl ?_ | refine q09 rfl (fun _ => ?_) (fun _ => ?_))
  | (show wpM _ _ _ (Fr.code (K.cond _ _ _) :: _) Ex.normal _ _ _ _ _; first | refine q0m rfl ?_ | refine q0n rfl ?_ | refine q02 rfl (fun _ => ?_) (fun _ => ?_))
  | (show wpM _ _ _ (Fr.ops _ _ (KOper.mk _ _ none _ (KOp.pick _ _ _) :: _) :: _) Ex.normal _ _ _ _ _; refine q0I rfl (fun _ => ?_) (fun _ => ?_))
  | (show wpM _ _ _ [] _ _ _ _ _ _; refine q0c rfl rfl rfl trivial ?_))
 all_goals ((try simp only [q22, q1U, q2C, q31, decide_eq_true_eq, decide_eq_false_iff_not, Bool.not_eq_true, Bool.not_eq_false, Int.not_lt, Int.not_le] at *); first | (simp_all [sgn]; done) | (simp_all [sgn]; omega) | (rw [D.bool.injEq, Bool.eq_iff_iff]; simp [sgn]; omega) | (rw [D.bool.injEq, Bool.eq_iff_iff]; simp_all [sgn]; omega) | (simp [sgn]; split <;> (try split) <;> omega))
theorem qp1 (a b c d : Spot) [OkS a] [OkS b] [OkS c] [OkS d] : PU qk7 [a.enc, b.enc, c.enc, d.enc] = some (.bool (q2S a b c d)) := by
 refine q0f (fn := qfp) rfl (q0a ?_)
 repeat' (first
  | (refine goP 800 rfl rfl ?_)
  | (show wpM _ _ _ (Fr.ops _ _ (KOper.mk _ _ (some _) _ _ :: _) :: _) Ex.normal _ _ _ _ _; first | refine q0o rfl ?_ | refine q0u rfl ?_ | refine q09 rfl (fun _ => ?_) (fun _ => ?_))
  | (show wpM _ _ _ (Fr.code (K.cond _ _ _) :: _) Ex.normal _ _ _ _ _; first | refine q0m rfl ?_ | refine q0n rfl ?_ | refine q02 rfl (fun _ => ?_) (fun _ => ?_))
  | (show wpM _ _ _ (Fr.ops _ _ (KOper.mk _ _ none _ (KOp.pick _ _ _) :: _) :: _) Ex.normal _ _ _ _ _; refine q0I rfl (fun _ => ?_) (fun _ => ?_))
  | (show wpM _ _ _ [] _ _ _ _ _ _; refine q0c rfl rfl rfl trivial ?_)
  | (show wpM _ _ _ (Fr.ops _ _ (KOper.mk _ _ none _ (KOp.callF q2T _) :: _) :: _) Ex.normal _ _ _ _ _; refine q00 rfl rfl (q98 _ _ _) ?_)
  | (show wpM _ _ _ (Fr.ops _ _ (KOper.mk _ _ none _ (KOp.callF q3W _) :: _) :: _) Ex.normal _ _ _ _ _; refine q00 rfl rfl (qgk _ _ _) ?_)
  | (show wpM _ _ _ (Fr.ops _ _ (KOper.mk _ _ none _ (KOp.callF q7q _) :: _) :: _) Ex.normal _ _ _ _ _; refine q00 rfl rfl (qp0 _) ?_))
 all_goals ((try simp only [q22, q1U, q2C, q31, decide_eq_true_eq, decide_eq_false_iff_not, Bool.not_eq_true, Bool.not_eq_false, Int.not_lt, Int.not_le] at *); first | (simp_all [q2S, q2s, q0C]; done) | (simp_all [q2S, q2s, q0C]; omega) | (rw [D.bool.injEq, Bool.eq_iff_iff]; simp [q2S, q2s, q0C]; omega) | (rw [D.bool.injEq, Bool.eq_iff_iff]; simp_all [q2S, q2s, q0C]; omega) | (simp [q2S, q2s, q0C]; split <;> (try split) <;> omega))
end Go.F

namespace Go.F
attribute [local irreducible] IntKind.wrap wpM
theorem qnu (n : Nat) : PU qdJ [.int .u8 n] = some (.bool (q5p n)) := by
 refine q0f (fn := qd1) rfl (q0a ?_)
 repeat' (first
  | (refine goP 800 rfl rfl ?_)
  | (show wpM _ _ _ (Fr.ops _ _ (KOper.mk _ _ (some _) _ _ :: _) :: _) Ex.normal _ _ _ _ _; first | refine q0o rfl ?_ | refine q0u rfl ?_ | refine q09 rfl (fun _ => ?_) (fun _ => ?_))
  | (show wpM _ _ _ (Fr.code (K.cond _ _ _) :: _) Ex.normal _ _ _ _ _; first | refine q0m rfl ?_ | refine q0n rfl ?_ | refine q02 rfl (fun _ => ?_) (fun _ => ?_))
  | (show wpM _ _ _ (Fr.ops _ _ (KOper.mk _ _ none _ (KOp.pick _ _ _) :: _) :: _) Ex.normal _ _ _ _ _; refine q0I rfl (fun _ => ?_) (fun _ => ?_))
  | (show wpM _ _ _ [] _ _ _ _ _ _; refine q0c rfl rfl rfl trivial ?_))
 all_goals ((try simp only [q22, q1U, q2C, q31, decide_eq_true_eq, decide_eq_false_iff_not, Bool.not_eq_true, Bool.not_eq_false, Int.not_lt, Int.not_le] at *); first | (simp_all [q5p]; done) | (simp_all [q5p]; omega) | (rw [D.bool.injEq, Bool.eq_iff_iff]; simp [q5p]; omega) | (rw [D.bool.injEq, Bool.eq_iff_iff]; simp_all [q5p]; omega) | (simp [q5p]; split <;> (try split) <;> omega))
end Go.F

namespace Go.F
attribute [local irreducible] IntKind.wrap wpM
theorem qjS : (⟨#[]⟩ : ByteArray).toList = [] := by rw [Go.ByteArray.toList_eq]
theorem qp3 {s : ByteArray} : (s.toList == []) = decide (s.size = 0) := by
 rw [← qjR]
 cases s.toList <;> simp
set_option maxHeartbeats 2000000 in
theorem qp4 (s : ByteArray) : PU qjX [.str s] = some (.bool (q3O s)) := by
 refine q0f (fn := qff) rfl (q0a ?_)
 refine go 800 rfl ?_
 refine q09 rfl (fun h0 => ?_) (fun h0 => ?_)
 ·repeat' (first
   | (refine goP 800 rfl rfl ?_)
   | (show wpM _ _ _ (Fr.ops _ _ (KOper.mk _ _ (some _) _ _ :: _) :: _) Ex.normal _ _ _ _ _; first | refine q0o rfl ?_ | refine q0u rfl ?_ | refine q09 rfl (fun _ => ?_) (fun _ => ?_))
   | (show wpM _ _ _ (Fr.code (K.cond _ _ _) :: _) Ex.normal _ _ _ _ _; first | refine q0m rfl ?_ | refine q0n rfl ?_ | refine q02 rfl (fun _ => ?_) (fun _ => ?_))
   | (show wpM _ _ _ (Fr.ops _ _ (KOper.mk _ _ none _ (KOp.pick _ _ _) :: _) :: _) Ex.normal _ _ _ _ _; refine q0I rfl (fun _ => ?_) (fun _ => ?_))
   | (show wpM _ _ _ [] _ _ _ _ _ _; refine q0c rfl rfl rfl trivial ?_))
  rw [qjS, qp3, decide_eq_true_eq] at h0
  simp [q3O, h0]
 refine go 800 rfl ?_
 rw [qjS, qp3, decide_eq_false_iff_not] at h0
 refine q09 rfl (fun h1 => ?_) (fun h1 => ?_)
 ·repeat' (first
   | (refine goP 800 rfl rfl ?_)
   | (show wpM _ _ _ (Fr.ops _ _ (KOper.mk _ _ (some _) _ _ :: _) :: _) Ex.normal _ _ _ _ _; first | refine q0o rfl ?_ | refine q0u rfl ?_ | refine q09 rfl (fun _ => ?_) (fun _ => ?_))
   | (show wpM _ _ _ (Fr.code (K.cond _ _ _) :: _) Ex.normal _ _ _ _ _; first | refine q0m rfl ?_ | refine q0n rfl ?_ | refine q02 rfl (fun _ => ?_) (fun _ => ?_))
   | (show wpM _ _ _ (Fr.ops _ _ (KOper.mk _ _ none _ (KOp.pick _ _ _) :: _) :: _) Ex.normal _ _ _ _ _; refine q0I rfl (fun _ => ?_) (fun _ => ?_))
   | (show wpM _ _ _ [] _ _ _ _ _ _; refine q0c rfl rfl rfl trivial ?_))
  rw [q06] at h1
  have : 24 < s.size := by omega
  simp [q3O, this]
 refine go 800 rfl ?_
 rw [q07] at h1
 refine q09 rfl (fun h2 => ?_) (fun h2 => ?_)
 ·repeat' (first
   | (refine goP 800 rfl rfl ?_)
   | (show wpM _ _ _ (Fr.ops _ _ (KOper.mk _ _ (some _) _ _ :: _) :: _) Ex.normal _ _ _ _ _; first | refine q0o rfl ?_ | refine q0u rfl ?_ | refine q09 rfl (fun _ => ?_) (fun _ => ?_))
   | (show wpM _ _ _ (Fr.code (K.cond _ _ _) :: _) Ex.normal _ _ _ _ _; first | refine q0m rfl ?_ | refine q0n rfl ?_ | refine q02 rfl (fun _ => ?_) (fun _ => ?_))
   | (show wpM _ _ _ (Fr.ops _ _ (KOper.mk _ _ none _ (KOp.pick _ _ _) :: _) :: _) Ex.normal _ _ _ _ _; refine q0I rfl (fun _ => ?_) (fun _ => ?_))
   | (show wpM _ _ _ [] _ _ _ _ _ _; refine q0c rfl rfl rfl trivial ?_))
  rw [qgn] at h2
  simp [q3O, h2]
 refine go 800 rfl ?_
 rw [qgn] at h2
 refine q09 rfl (fun h3 => ?_) (fun h3 => ?_)
 ·repeat' (first
   | (refine goP 800 rfl rfl ?_)
   | (show wpM _ _ _ (Fr.ops _ _ (KOper.mk _ _ (some _) _ _ :: _) :: _) Ex.normal _ _ _ _ _; first | refine q0o rfl ?_ | refine q0u rfl ?_ | refine q09 rfl (fun _ => ?_) (fun _ => ?_))
   | (show wpM _ _ _ (Fr.code (K.cond _ _ _) :: _) Ex.normal _ _ _ _ _; first | refine q0m rfl ?_ | refine q0n rfl ?_ | refine q02 rfl (fun _ => ?_) (fun _ => ?_))
   | (show wpM _ _ _ (Fr.ops _ _ (KOper.mk _ _ none _ (KOp.pick _ _ _) :: _) :: _) Ex.normal _ _ _ _ _; refine q0I rfl (fun _ => ?_) (fun _ => ?_))
   | (show wpM _ _ _ [] _ _ _ _ _ _; refine q0c rfl rfl rfl trivial ?_))
  rw [qgo] at h3
  simp [q3O, h3]
 refine go 800 rfl ?_
 rw [qgo] at h3
 have key : ∀ b, (decide (∀ i, i < s.size → q8p i (q69 s i).toNat = true)) = b → q3O s = b := by
  intro b hb
  rw [q3O, hb, h2, h3]
  rw [show decide (s.size = 0) = false by rw [decide_eq_false_iff_not]; omega, show decide (24 < s.size) = false by rw [decide_eq_false_iff_not]; omega]
  simp
 have no : ∀ k, k < s.size → q8p k (q69 s k).toNat = false → q3O s = false := by
  intro k hk hc
  refine key false ?_
  simp
  exact ⟨k, hk, hc⟩
 have h00 : 0 < s.size := by omega
 refine q5s 0 rfl rfl rfl (qbC h00) ?_
 refine go 800 rfl ?_
 refine q09 rfl (fun h4 => ?_) (fun h4 => ?_)
 ·repeat' (first
   | (refine goP 800 rfl rfl ?_)
   | (show wpM _ _ _ (Fr.ops _ _ (KOper.mk _ _ (some _) _ _ :: _) :: _) Ex.normal _ _ _ _ _; first | refine q0o rfl ?_ | refine q0u rfl ?_ | refine q09 rfl (fun _ => ?_) (fun _ => ?_))
   | (show wpM _ _ _ (Fr.code (K.cond _ _ _) :: _) Ex.normal _ _ _ _ _; first | refine q0m rfl ?_ | refine q0n rfl ?_ | refine q02 rfl (fun _ => ?_) (fun _ => ?_))
   | (show wpM _ _ _ (Fr.ops _ _ (KOper.mk _ _ none _ (KOp.pick _ _ _) :: _) :: _) Ex.normal _ _ _ _ _; refine q0I rfl (fun _ => ?_) (fun _ => ?_))
   | (show wpM _ _ _ [] _ _ _ _ _ _; refine q0c rfl rfl rfl trivial ?_))
  rw [q06] at h4
  rw [no 0 h00 (by simp [q8p]; omega)]
 refine go 800 rfl ?_
 rw [q07] at h4
 refine q5s 0 rfl rfl rfl (qbC h00) ?_
 refine go 800 rfl ?_
 refine q02 rfl (fun h5 => ?_) (fun h5 => ?_)
 ·repeat' (first
   | (refine goP 800 rfl rfl ?_)
   | (show wpM _ _ _ (Fr.ops _ _ (KOper.mk _ _ (some _) _ _ :: _) :: _) Ex.normal _ _ _ _ _; first | refine q0o rfl ?_ | refine q0u rfl ?_ | refine q09 rfl (fun _ => ?_) (fun _ => ?_))
   | (show wpM _ _ _ (Fr.code (K.cond _ _ _) :: _) Ex.normal _ _ _ _ _; first | refine q0m rfl ?_ | refine q0n rfl ?_ | refine q02 rfl (fun _ => ?_) (fun _ => ?_))
   | (show wpM _ _ _ (Fr.ops _ _ (KOper.mk _ _ none _ (KOp.pick _ _ _) :: _) :: _) Ex.normal _ _ _ _ _; refine q0I rfl (fun _ => ?_) (fun _ => ?_))
   | (show wpM _ _ _ [] _ _ _ _ _ _; refine q0c rfl rfl rfl trivial ?_))
  rw [q06] at h5
  rw [no 0 h00 (by simp [q8p]; omega)]
 refine go 800 rfl ?_
 rw [q07] at h5
 refine q0p (S := fun k : Nat => ([.str s, q01 k], [none, none], [0, 0])) (C := fun k => k ≤ s.size ∧ ∀ i, i < k → q8p i (q69 s i).toNat = true) (m := fun k => s.size - k) 0 ⟨by omega, fun i hi => by omega⟩ (by omega) ?_ ?_
 ·exact q03 rfl trivial (by simp [q01])
 intro k ⟨hk, hall⟩ N hN
 refine go 800 rfl ?_
 refine q02 rfl (fun g1 => ?_) (fun g1 => ?_)
 ·rw [q06] at g1
  have hlt : k < s.size := by omega
  have w1 : IntKind.i64.wrap ((k : Int) + 1) = ((k + 1 : Nat) : Int) := wrap64 (by omega) (by omega)
  have yes : q8p k (q69 s k).toNat = true → ∀ {t : q0z} {h : q0e} {z : Frz} {nx : Nat}, (q18 0 [(0, 0), (3, 0)] t h z nx fun _ _ kp => kp = ([.str s, q01 ((k + 1 : Nat) : Int)], [none, none], [0, 0])) → N t h z nx := by
   intro hc t h z nx hst
   refine hN (k + 1) ⟨by omega, fun i hi => ?_⟩ (by omega) hst
   by_cases hik : i < k
   ·exact hall i hik
   ·obtain rfl : i = k := by omega
    exact hc
  have no' := no k hlt
  have k0 : k = 0 → 97 ≤ (q69 s k).toNat ∧ (q69 s k).toNat ≤ 122 := by intro e; subst e; omega
  clear hN no key hall h4 h5 h2 h3
  refine go 800 rfl ?_
  repeat' (first
   | (refine goP 800 rfl rfl ?_)
   | (show wpM _ _ _ (Fr.ops _ _ (KOper.mk _ _ (some _) _ _ :: _) :: _) Ex.normal _ _ _ _ _; first | refine q0o rfl ?_ | refine q0u rfl ?_ | refine q09 rfl (fun _ => ?_) (fun _ => ?_))
   | (show wpM _ _ _ (Fr.code (K.cond _ _ _) :: _) Ex.normal _ _ _ _ _; first | refine q0m rfl ?_ | refine q0n rfl ?_ | refine q02 rfl (fun _ => ?_) (fun _ => ?_))
   | (show wpM _ _ _ (Fr.ops _ _ (KOper.mk _ _ none _ (KOp.pick _ _ _) :: _) :: _) Ex.normal _ _ _ _ _; refine q0I rfl (fun _ => ?_) (fun _ => ?_))
   | (show wpM _ _ _ [] _ _ _ _ _ _; refine q0c rfl rfl rfl trivial ?_)
   | (show wpM _ _ _ (Fr.ops _ _ (KOper.mk _ _ none _ (KOp.istr _ _) :: _) :: _) Ex.normal _ _ _ _ _; refine q5s k rfl rfl rfl (qbC hlt) ?_)
   | (show wpM _ _ _ (Fr.ops _ _ (KOper.mk _ _ none _ (KOp.callF qdJ _) :: _) :: _) Ex.normal _ _ _ _ _; refine q00 rfl rfl (qnu _) ?_))
  all_goals refine q05 ?_
  all_goals generalize (q69 s k).toNat = c at *
  all_goals simp only [q22, q1U, q2C, q31, q5p, decide_eq_true_eq, decide_eq_false_iff_not, Bool.not_eq_true, Bool.not_eq_false, Int.not_lt, Int.not_le] at *
  all_goals first
   | (refine yes ?_ (q03 rfl trivial (by simp [q01, w1]))
      simp_all [q8p, q5p]
      try omega)
   | (refine go 800 rfl ?_
      refine q0c rfl rfl rfl trivial ?_
      rw [no']
      simp_all [q8p, q5p]
      try omega)
 rw [q07] at g1
 refine go 800 rfl ?_
 refine q05 ?_
 refine go 800 rfl ?_
 refine q0c rfl rfl rfl trivial ?_
 rw [key true (by simp; exact fun i hi => hall i (by omega))]
end Go.F

namespace Go.F
attribute [local irreducible] IntKind.wrap wpM
def qod (n : Int) : Bool := decide (1048576 < n) || decide (n < -1048576)
theorem qrC (n : Int) : PU qez [.int .i64 n] = some (.bool (qod n)) := by
 refine q0f (fn := qho) rfl (q0a ?_)
 repeat' (first
  | (refine goP 800 rfl rfl ?_)
  | (show wpM _ _ _ (Fr.ops _ _ (KOper.mk _ _ (some _) _ _ :: _) :: _) Ex.normal _ _ _ _ _; first | refine q0o rfl ?_ | refine q0u rfl ?_ | refine q09 rfl (fun _ => ?_) (fun _ => ?_))
  | (show wpM _ _ _ (Fr.code (K.cond _ _ _) :: _) Ex.normal _ _ _ _ _; first | refine q0m rfl ?_ | refine q0n rfl ?_ | refine q02 rfl (fun _ => ?_) (fun _ => ?_))
  | (show wpM _ _ _ (Fr.ops _ _ (KOper.mk _ _ none _ (KOp.pick _ _ _) :: _) :: _) Ex.normal _ _ _ _ _; refine q0I rfl (fun _ => ?_) (fun _ => ?_))
  | (show wpM _ _ _ [] _ _ _ _ _ _; refine q0c rfl rfl rfl trivial ?_))
 all_goals ((try simp only [q22, q1U, q2C, q31, decide_eq_true_eq, decide_eq_false_iff_not, Bool.not_eq_true, Bool.not_eq_false, Int.not_lt, Int.not_le] at *); first | (simp_all [qod]; done) | (simp_all [qod]; omega) | (rw [D.bool.injEq, Bool.eq_iff_iff]; simp [qod]; omega) | (rw [D.bool.injEq, Bool.eq_iff_iff]; simp_all [qod]; omega) | (simp [qod]; split <;> (try split) <;> omega))
theorem qrD (s : Spot) : (qod s.x || qod s.y) = !q0v s 1048576 := by
 rw [Bool.eq_iff_iff]
 simp [qod, q0v]
 omega
theorem qrE (p : List Spot) (hp : p.length < 4611686018427387904) : PU qmg [q0g p] = some (.bool (p.any fun s => !q0v s 1048576)) := by
 refine q0f (fn := qhj) rfl (q0a ?_)
 refine go 800 rfl ?_
 refine q0p (S := fun k : Nat => ([q0g p, q01 k], [none, none], [0, 0])) (C := fun k => k ≤ p.length ∧ ∀ i, i < k → (!q0v (pt p i) 1048576) = false) (m := fun k => p.length - k) 0 ⟨by omega, fun i hi => by omega⟩ (by omega) ?_ ?_
 ·exact q03 rfl trivial (by simp [q0g, q01])
 intro k ⟨hk, hall⟩ N hN
 refine go 800 rfl ?_
 refine q02 rfl (fun g1 => ?_) (fun g1 => ?_)
 ·rw [q06, List.length_map] at g1
  have hlt : k < p.length := by omega
  have w1 : IntKind.i64.wrap ((k : Int) + 1) = ((k + 1 : Nat) : Int) := wrap64 (by omega) (by omega)
  have hfar := qrD (pt p k)
  have yes : (!q0v (pt p k) 1048576) = true → (p.any fun s => !q0v s 1048576) = true := by
   intro h
   rw [List.any_eq_true]
   exact ⟨pt p k, by rw [q0F hlt]; exact List.getElem_mem hlt, h⟩
  refine go 800 rfl ?_
  repeat' (first
   | (refine goP 800 rfl rfl ?_)
   | (show wpM _ _ _ (Fr.ops _ _ (KOper.mk _ _ (some _) _ _ :: _) :: _) Ex.normal _ _ _ _ _; first | refine q0o rfl ?_ | refine q0u rfl ?_ | refine q09 rfl (fun _ => ?_) (fun _ => ?_))
   | (show wpM _ _ _ (Fr.code (K.cond _ _ _) :: _) Ex.normal _ _ _ _ _; first | refine q0m rfl ?_ | refine q0n rfl ?_ | refine q02 rfl (fun _ => ?_) (fun _ => ?_))
   | (show wpM _ _ _ (Fr.ops _ _ (KOper.mk _ _ none _ (KOp.pick _ _ _) :: _) :: _) Ex.normal _ _ _ _ _; refine q0I rfl (fun _ => ?_) (fun _ => ?_))
   | (show wpM _ _ _ [] _ _ _ _ _ _; refine q0c rfl rfl rfl trivial ?_)
   | (show wpM _ _ _ (Fr.ops _ _ (KOper.mk _ _ none _ (KOp.ixs _ _ _) :: _) :: _) Ex.normal _ _ _ _ _; refine q0i k rfl rfl rfl (q0D hlt) rfl ?_)
   | (show wpM _ _ _ (Fr.ops _ _ (KOper.mk _ _ none _ (KOp.callF qez _) :: _) :: _) Ex.normal _ _ _ _ _; refine q00 rfl rfl (qrC _) ?_))
  ·refine q05 ?_
   refine go 800 rfl ?_
   refine q0c rfl rfl rfl trivial ?_
   rw [yes]
   simp_all
  ·refine q05 ?_
   refine go 800 rfl ?_
   refine q0c rfl rfl rfl trivial ?_
   rw [yes]
   simp_all
  ·refine q05 ?_
   refine hN (k + 1) ⟨by omega, fun i hi => ?_⟩ (by omega) (q03 rfl trivial (by simp [q0g, q01, w1]))
   by_cases hik : i < k
   ·exact hall i hik
   ·obtain rfl : i = k := by omega
    rw [← hfar]
    simp_all
 rw [q07, List.length_map] at g1
 refine go 800 rfl ?_
 refine q05 ?_
 refine go 800 rfl ?_
 refine q0c rfl rfl rfl trivial ?_
 congr 1
 symm
 rw [List.any_eq_false]
 intro s hs
 obtain ⟨i, hi, rfl⟩ := List.getElem_of_mem hs
 rw [← q0F hi, hall i (by omega)]
 decide
theorem qgW (p : List Spot) : PU qdE [q0g p] = some (.int .i64 (q1v p)) := by
 refine q0f (fn := qcR) rfl (q0a ?_)
 refine go 800 rfl ?_
 refine q02 rfl (fun h1 => ?_) (fun h1 => ?_)
 ·refine go 800 rfl ?_
  refine q0c rfl rfl rfl trivial ?_
  rw [q06, List.length_map] at h1
  rw [q1v, if_pos (by omega)]
 refine go 800 rfl ?_
 rw [q07, List.length_map] at h1
 refine q02 rfl (fun h2 => ?_) (fun h2 => ?_)
 ·refine go 800 rfl ?_
  refine q0c rfl rfl rfl trivial ?_
  rw [q06, List.length_map] at h2
  rw [q1v, if_neg (by omega), if_pos (by omega)]
 refine go 800 rfl ?_
 rw [q07, List.length_map] at h2
 refine q00 rfl rfl (qrE p (by omega)) ?_
 refine go 800 rfl ?_
 refine q02 rfl (fun h3 => ?_) (fun h3 => ?_)
 ·refine go 800 rfl ?_
  refine q0c rfl rfl rfl trivial ?_
  rw [q1v, if_neg (by omega), if_neg (by omega), if_pos h3]
 refine go 800 rfl ?_
 refine q0p (S := fun k : Nat => ([q0g p, q01 k], [none, none], [0, 0])) (C := fun k => 1 ≤ k ∧ k ≤ p.length ∧ ∀ i, i + 1 < k → pt p i ≠ pt p (i + 1)) (m := fun k => p.length - k) 1 ⟨by omega, by omega, fun i hi => by omega⟩ (by omega) ?_ ?_
 ·exact q03 rfl trivial (by simp [q0g, q01])
 intro k ⟨hk0, hk, hno⟩ N hN
 refine go 800 rfl ?_
 refine q02 rfl (fun g1 => ?_) (fun g1 => ?_)
 ·rw [q06, List.length_map] at g1
  have hlt : k < p.length := by omega
  have w1 : IntKind.i64.wrap ((k : Int) + 1) = ((k + 1 : Nat) : Int) := wrap64 (by omega) (by omega)
  have w2 : IntKind.i64.wrap ((k : Int) - 1) = ((k - 1 : Nat) : Int) := by rw [wrap64 (by omega) (by omega)]; omega
  have hk1 : k - 1 + 1 = k := by omega
  refine go 800 rfl ?_
  refine q0i k rfl rfl rfl (q0D hlt) rfl ?_
  refine go 800 rfl ?_
  refine q0i (k - 1) rfl rfl w2 (q0D (by omega)) rfl ?_
  refine go 800 rfl ?_
  refine q02 rfl (fun g2 => ?_) (fun g2 => ?_)
  ·refine go 800 rfl ?_
   refine q05 ?_
   refine go 800 rfl ?_
   refine q0c rfl rfl rfl trivial ?_
   rw [q1v, if_neg (by omega), if_neg (by omega), if_neg (by rw [h3]; decide), if_neg]
   intro hall
   refine hall (k - 1) (by omega) ?_
   rw [q0Y] at g2
   rw [hk1]
   exact (of_decide_eq_true g2).symm
  ·refine go 800 rfl ?_
   refine q05 ?_
   refine hN (k + 1) ⟨by omega, by omega, fun i hi => ?_⟩ (by omega) (q03 rfl trivial (by simp [q0g, q01, w1]))
   by_cases hik : i + 1 < k
   ·exact hno i hik
   ·obtain rfl : i = k - 1 := by omega
    rw [q0Y] at g2
    rw [hk1]
    exact fun e => of_decide_eq_false g2 e.symm
 rw [q07, List.length_map] at g1
 refine go 800 rfl ?_
 refine q05 ?_
 refine go 800 rfl ?_
 refine q0c rfl rfl rfl trivial ?_
 rw [q1v, if_neg (by omega), if_neg (by omega), if_neg (by rw [h3]; decide), if_pos (fun i hi => hno i (by omega))]
theorem qf8 (s : Spot) : PU qbF [s.enc, .int .i64 1048576] = some (.bool (q0v s 1048576)) := by
 have w : IntKind.i64.wrap (0 - 1048576) = -1048576 := wrap64 (by decide) (by decide)
 refine q0f (fn := qbk) rfl (q0a ?_)
 repeat' (first
  | (refine goP 800 rfl rfl ?_)
  | (show wpM _ _ _ (Fr.ops _ _ (KOper.mk _ _ (some _) _ _ :: _) :: _) Ex.normal _ _ _ _ _; first | refine q0o rfl ?_ | refine q0u rfl ?_ | refine q09 rfl (fun _ => ?_) (fun _ => ?_))
  | (show wpM _ _ _ (Fr.code (K.cond _ _ _) :: _) Ex.normal _ _ _ _ _; first | refine q0m rfl ?_ | refine q0n rfl ?_ | refine q02 rfl (fun _ => ?_) (fun _ => ?_))
  | (show wpM _ _ _ (Fr.ops _ _ (KOper.mk _ _ none _ (KOp.pick _ _ _) :: _) :: _) Ex.normal _ _ _ _ _; refine q0I rfl (fun _ => ?_) (fun _ => ?_))
  | (show wpM _ _ _ [] _ _ _ _ _ _; refine q0c rfl rfl rfl trivial ?_))
 all_goals rw [D.bool.injEq, Bool.eq_iff_iff]
 all_goals simp only [q22, q1U, w, decide_eq_true_eq, decide_eq_false_iff_not] at *
 all_goals simp [q0v]
 all_goals omega
end Go.F

namespace Go.F
theorem qtT {ux uy vx vy : Int} (hc : ux * vy = uy * vx) (hd : 0 < ux * vx + uy * vy) : 0 ≤ ux * vx ∧ 0 ≤ uy * vy := by
 have e : (ux * vx) * (uy * vy) = (ux * vy) * (ux * vy) := by
  calc (ux * vx) * (uy * vy) = (ux * vy) * (uy * vx) := by ac_rfl
   _ = _ := by rw [← hc]
 have hn := q7w (ux * vy)
 rw [← e] at hn
 constructor
 ·refine Int.not_lt.1 fun h => ?_
  have := Int.mul_neg_of_neg_of_pos h (show 0 < uy * vy by omega)
  omega
 ·refine Int.not_lt.1 fun h => ?_
  have := Int.mul_neg_of_pos_of_neg (show 0 < ux * vx by omega) h
  omega
theorem qb1 {u v : Int} (hs : 0 ≤ u * v) (hl : v.natAbs ≤ u.natAbs) : min u 0 ≤ v ∧ v ≤ max u 0 := by
 rcases Int.lt_trichotomy v 0 with h | h | h
 ·have : u ≤ 0 := by
   refine Int.not_lt.1 fun h2 => ?_
   have := Int.mul_neg_of_pos_of_neg h2 h
   omega
  omega
 ·omega
 ·have : 0 ≤ u := by
   refine Int.not_lt.1 fun h2 => ?_
   have := Int.mul_neg_of_neg_of_pos h2 h
   omega
  omega
theorem qvH (a b c : Spot) : q0X a b c = (a.y - b.y) * (c.x - b.x) - (a.x - b.x) * (c.y - b.y) := by
 unfold q0X; grind
theorem qtU (a b c : Spot) : q0X b c a = q0X a b c := by unfold q0X; grind
theorem q7L {a b p : Spot} : onS a b p = true ↔ q0X a b p = 0 ∧ min a.x b.x ≤ p.x ∧ p.x ≤ max a.x b.x ∧ min a.y b.y ≤ p.y ∧ p.y ≤ max a.y b.y := by simp [onS]
theorem q9Q {a b c : Spot} : q46 a b c = true ↔ q0X a b c = 0 ∧ 0 < (a.x - b.x) * (c.x - b.x) + (a.y - b.y) * (c.y - b.y) := by simp [q46]
theorem qtV {a b c : Spot} (h : q46 a b c = true) : onS a b c = true ∨ onS b c a = true := by
 rw [q9Q] at h
 obtain ⟨h1, h2⟩ := h
 have hc : (a.x - b.x) * (c.y - b.y) = (a.y - b.y) * (c.x - b.x) := by rw [qvH] at h1; omega
 obtain ⟨s1, s2⟩ := qtT hc h2
 have hn : (a.x - b.x).natAbs * (c.y - b.y).natAbs = (a.y - b.y).natAbs * (c.x - b.x).natAbs := by rw [← Int.natAbs_mul, ← Int.natAbs_mul, hc]
 rw [q7L, q7L, qtU a b c]
 by_cases hx : (c.x - b.x).natAbs ≤ (a.x - b.x).natAbs
 ·by_cases hy : (c.y - b.y).natAbs ≤ (a.y - b.y).natAbs
  ·left
   have := qb1 s1 hx
   have := qb1 s2 hy
   refine ⟨h1, ?_⟩
   omega
  ·by_cases hx' : (a.x - b.x).natAbs ≤ (c.x - b.x).natAbs
   ·right
    rw [Int.mul_comm] at s1 s2
    have := qb1 s1 hx'
    have := qb1 s2 (show (a.y - b.y).natAbs ≤ (c.y - b.y).natAbs by omega)
    refine ⟨h1, ?_⟩
    omega
   ·have := Nat.mul_lt_mul'' (Nat.lt_of_not_le hx') (Nat.lt_of_not_le hy)
    rw [Nat.mul_comm (c.x - b.x).natAbs] at this
    omega
 ·by_cases hy : (a.y - b.y).natAbs ≤ (c.y - b.y).natAbs
  ·right
   rw [Int.mul_comm] at s1 s2
   have := qb1 s1 (show (a.x - b.x).natAbs ≤ (c.x - b.x).natAbs by omega)
   have := qb1 s2 hy
   refine ⟨h1, ?_⟩
   omega
  ·have := Nat.mul_lt_mul'' (Nat.lt_of_not_le hx) (Nat.lt_of_not_le hy)
   rw [Nat.mul_comm (c.x - b.x).natAbs] at this
   omega
theorem qpN {u v : Int} (h : min u 0 ≤ v ∧ v ≤ max u 0) : 0 ≤ u * v := by
 rcases Int.le_total 0 u with h2 | h2
 ·exact Int.mul_nonneg h2 (by omega)
 ·exact Int.mul_nonneg_of_nonpos_of_nonpos h2 (by omega)
theorem qmM {u v : Int} (h : min u 0 ≤ v ∧ v ≤ max u 0) (hv : v ≠ 0) : 0 < u * v := by
 rcases Int.lt_trichotomy v 0 with h2 | h2 | h2
 ·exact Int.mul_pos_of_neg_of_neg (by omega) h2
 ·exact absurd h2 hv
 ·exact Int.mul_pos (by omega) h2
theorem qwR {a b : Spot} (h : a ≠ b) : a.x - b.x ≠ 0 ∨ a.y - b.y ≠ 0 := by
 by_cases hx : a.x = b.x
 ·by_cases hy : a.y = b.y
  ·exact absurd (by cases a; cases b; simp_all) h
  ·right; omega
 ·left; omega
theorem qmN {a b c : Spot} (hcb : c ≠ b) (h : onS a b c = true) : q46 a b c = true := by
 rw [q7L] at h
 rw [q9Q]
 refine ⟨h.1, ?_⟩
 have bx : min (a.x - b.x) 0 ≤ c.x - b.x ∧ c.x - b.x ≤ max (a.x - b.x) 0 := by omega
 have bY : min (a.y - b.y) 0 ≤ c.y - b.y ∧ c.y - b.y ≤ max (a.y - b.y) 0 := by omega
 have p1 := qpN bx
 have p2 := qpN bY
 rcases qwR hcb with h2 | h2
 ·have := qmM bx h2; omega
 ·have := qmM bY h2; omega
theorem qrs (a b c : Spot) : q46 a b c = q46 c b a := by
 rw [Bool.eq_iff_iff, q9Q, q9Q]
 have : q0X c b a = - q0X a b c := by unfold q0X; grind
 rw [this, Int.mul_comm (c.x - b.x), Int.mul_comm (c.y - b.y)]
 omega
theorem qkW (a b c : Spot) : onS a b c = onS b a c := by
 rw [Bool.eq_iff_iff, q7L, q7L]
 have : q0X b a c = - q0X a b c := by unfold q0X; grind
 rw [this]
 omega
theorem on_end (a b : Spot) : onS a b a = true := by
 rw [q7L]
 refine ⟨by unfold q0X; grind, ?_⟩
 omega
theorem qkX {p : List Spot} {i : Nat} (hi : i < p.length) : pt p i ∈ p.take i ↔ ∃ j, j < i ∧ pt p j = pt p i := by
 rw [List.mem_take_iff_getElem]
 constructor
 ·rintro ⟨j, hj, e⟩
  exact ⟨j, by omega, by rw [q0F (by omega)]; exact e⟩
 ·rintro ⟨j, hj, e⟩
  exact ⟨j, by omega, by rw [← e, q0F (by omega)]⟩
theorem mod1 {n i : Nat} (hi : i < n) : (i + 1) % n = if i + 1 = n then 0 else i + 1 := by
 split
 ·rename_i h; rw [h]; simp
 ·exact Nat.mod_eq_of_lt (by omega)
theorem mod2 {n i : Nat} (h3 : 3 ≤ n) (hi : i < n) : (i + 2) % n = if i + 2 < n then i + 2 else i + 2 - n := by
 split
 ·rename_i h; exact Nat.mod_eq_of_lt h
 ·rw [Nat.mod_eq_sub_mod (by omega), Nat.mod_eq_of_lt (by omega)]
theorem qbZ {p : List Spot} (h3 : 3 ≤ p.length) : q47 p ↔ q2n p := by
 constructor
 ·rintro ⟨hd, hs⟩ i hi
  have inj : ∀ {j k}, j < p.length → k < p.length → j ≠ k → pt p j ≠ pt p k := by
   intro j k hj hk hne e
   rcases Nat.lt_or_gt_of_ne hne with h | h
   ·exact hd k hk ((qkX hk).2 ⟨j, h, e⟩)
   ·exact hd j hj ((qkX hj).2 ⟨k, h, e.symm⟩)
  have m1 := mod1 hi
  have m2 := mod2 h3 hi
  have l1 : (i + 1) % p.length < p.length := Nat.mod_lt _ (by omega)
  have l2 : (i + 2) % p.length < p.length := Nat.mod_lt _ (by omega)
  have n01 : pt p i ≠ pt p ((i + 1) % p.length) := inj hi l1 (by rw [m1]; split <;> omega)
  have n12 : pt p ((i + 2) % p.length) ≠ pt p ((i + 1) % p.length) := inj l2 l1 (by rw [m1, m2]; split <;> split <;> omega)
  obtain ⟨hf, hm⟩ := hs i hi
  refine ⟨⟨n01, ?_, ?_⟩, hm⟩
  ·cases ho : onS (pt p i) (pt p ((i + 1) % p.length)) (pt p ((i + 2) % p.length))
   ·rfl
   ·rw [qmN n12 ho] at hf; cases hf
  ·cases ho : onS (pt p ((i + 1) % p.length)) (pt p ((i + 2) % p.length)) (pt p i)
   ·rfl
   ·rw [qkW] at ho
    rw [qrs, qmN n01 ho] at hf; cases hf
 ·intro hr
  refine ⟨fun i hi hm => ?_, fun i hi => ⟨?_, (hr i hi).2⟩⟩
  ·obtain ⟨j, hj, e⟩ := (qkX hi).1 hm
   have hjl : j < p.length := by omega
   have m1 := mod1 hjl
   have m1' := mod1 hi
   by_cases h1 : j + 1 = i
   ·have := (hr j hjl).1.1
    rw [m1, if_neg (by omega), h1] at this
    exact this e
   ·by_cases h2 : (i + 1) % p.length = j
    ·have := (hr i hi).1.1
     rw [h2] at this
     exact this e.symm
    ·have := (hr j hjl).2 i hi (by omega) h2
     have ho := on_end (pt p j) (pt p ((j + 1) % p.length))
     rw [← e] at this
     simp [q2S, ho] at this
  ·cases hf : q46 (pt p i) (pt p ((i + 1) % p.length)) (pt p ((i + 2) % p.length))
   ·rfl
   ·have := (hr i hi).1
    rcases qtV hf with h | h
    ·rw [h] at this; cases this.2.1
    ·rw [h] at this; cases this.2.2
end Go.F

namespace Go.F
attribute [local irreducible] IntKind.wrap wpM
set_option maxHeartbeats 2000000 in
theorem qlY (p : List Spot) [OkP p] (h3 : 3 ≤ p.length) (hp : p.length ≤ 1000) : PU qgw [q0g p] = some (.bool (decide (q2n p))) := by
 refine q0f (fn := qbn) rfl (q0a ?_)
 refine go 800 rfl ?_
 rw [List.length_map]
 refine q0p (S := fun k : Nat => ([q0g p, q01 p.length, q01 k], [none, none, none], [0, 0, 0]))
  (C := fun i => i ≤ p.length ∧ ∀ j, j < i → (pt p j ≠ pt p ((j + 1) % p.length) ∧ onS (pt p j) (pt p ((j + 1) % p.length)) (pt p ((j + 2) % p.length)) = false ∧ onS (pt p ((j + 1) % p.length)) (pt p ((j + 2) % p.length)) (pt p j) = false) ∧
    ∀ k, k < p.length → j + 2 ≤ k → (k + 1) % p.length ≠ j → q2S (pt p j) (pt p ((j + 1) % p.length)) (pt p k) (pt p ((k + 1) % p.length)) = false)
  (m := fun k => p.length - k) 0 ⟨by omega, fun j h => by omega⟩ (by omega) ?_ ?_
 ·exact q03 rfl trivial (by simp [q0g, q01])
 intro i ⟨hi, hall⟩ N hN
 refine go 800 rfl ?_
 refine q02 rfl (fun g1 => ?_) (fun g1 => ?_)
 ·rw [q06] at g1
  have hlt : i < p.length := by omega
  have w1 : IntKind.i64.wrap ((i : Int) + 1) = ((i + 1 : Nat) : Int) := wrap64 (by omega) (by omega)
  have w2 : IntKind.i64.wrap ((i : Int) + 2) = ((i + 2 : Nat) : Int) := wrap64 (by omega) (by omega)
  refine go 800 rfl ?_
  refine q0i i rfl rfl rfl (q0D hlt) rfl ?_
  refine go 800 rfl ?_
  refine q3Y rfl rfl (by omega) ?_
  refine go 800 rfl ?_
  refine q0i ((i + 1) % p.length) rfl rfl (by rw [w1, q1m]) (q0D (Nat.mod_lt _ (by omega))) rfl ?_
  refine go 800 rfl ?_
  refine q3Y rfl rfl (by omega) ?_
  refine go 800 rfl ?_
  refine q0i ((i + 2) % p.length) rfl rfl (by rw [w2, q1m]) (q0D (Nat.mod_lt _ (by omega))) rfl ?_
  refine go 800 rfl ?_
  refine q09 rfl (fun e0 => ?_) (fun e0 => ?_)
  ·repeat' (first
    | (refine goP 800 rfl rfl ?_)
    | (show wpM _ _ _ (Fr.ops _ _ (KOper.mk _ _ (some _) _ _ :: _) :: _) Ex.normal _ _ _ _ _; first | refine q0o rfl ?_ | refine q0u rfl ?_ | refine q09 rfl (fun _ => ?_) (fun _ => ?_))
    | (show wpM _ _ _ (Fr.code (K.cond _ _ _) :: _) Ex.normal _ _ _ _ _; first | refine q0m rfl ?_ | refine q0n rfl ?_ | refine q02 rfl (fun _ => ?_) (fun _ => ?_))
    | (show wpM _ _ _ (Fr.ops _ _ (KOper.mk _ _ none _ (KOp.pick _ _ _) :: _) :: _) Ex.normal _ _ _ _ _; refine q0I rfl (fun _ => ?_) (fun _ => ?_))
    | (show wpM _ _ _ [] _ _ _ _ _ _; refine q0c rfl rfl rfl trivial ?_))
   refine q05 ?_
   refine go 800 rfl ?_
   refine q0c rfl rfl rfl trivial ?_
   rw [q0Y] at e0
   have : ¬ q2n p := fun hs => (hs i hlt).1.1 (of_decide_eq_true e0)
   simp [this]
  rw [q0Y] at e0
  refine go 800 rfl ?_
  refine q00 rfl rfl (q98 (pt p i) (pt p ((i + 1) % p.length)) (pt p ((i + 2) % p.length))) ?_
  refine go 800 rfl ?_
  refine q09 rfl (fun e1 => ?_) (fun e1 => ?_)
  ·repeat' (first
    | (refine goP 800 rfl rfl ?_)
    | (show wpM _ _ _ (Fr.ops _ _ (KOper.mk _ _ (some _) _ _ :: _) :: _) Ex.normal _ _ _ _ _; first | refine q0o rfl ?_ | refine q0u rfl ?_ | refine q09 rfl (fun _ => ?_) (fun _ => ?_))
    | (show wpM _ _ _ (Fr.code (K.cond _ _ _) :: _) Ex.normal _ _ _ _ _; first | refine q0m rfl ?_ | refine q0n rfl ?_ | refine q02 rfl (fun _ => ?_) (fun _ => ?_))
    | (show wpM _ _ _ (Fr.ops _ _ (KOper.mk _ _ none _ (KOp.pick _ _ _) :: _) :: _) Ex.normal _ _ _ _ _; refine q0I rfl (fun _ => ?_) (fun _ => ?_))
    | (show wpM _ _ _ [] _ _ _ _ _ _; refine q0c rfl rfl rfl trivial ?_))
   refine q05 ?_
   refine go 800 rfl ?_
   refine q0c rfl rfl rfl trivial ?_
   have : ¬ q2n p := fun hs => by have := (hs i hlt).1.2.1; rw [e1] at this; cases this
   simp [this]
  refine go 800 rfl ?_
  refine q00 rfl rfl (q98 (pt p ((i + 1) % p.length)) (pt p ((i + 2) % p.length)) (pt p i)) ?_
  refine go 800 rfl ?_
  refine q02 rfl (fun e2 => ?_) (fun e2 => ?_)
  ·repeat' (first
    | (refine goP 800 rfl rfl ?_)
    | (show wpM _ _ _ (Fr.ops _ _ (KOper.mk _ _ (some _) _ _ :: _) :: _) Ex.normal _ _ _ _ _; first | refine q0o rfl ?_ | refine q0u rfl ?_ | refine q09 rfl (fun _ => ?_) (fun _ => ?_))
    | (show wpM _ _ _ (Fr.code (K.cond _ _ _) :: _) Ex.normal _ _ _ _ _; first | refine q0m rfl ?_ | refine q0n rfl ?_ | refine q02 rfl (fun _ => ?_) (fun _ => ?_))
    | (show wpM _ _ _ (Fr.ops _ _ (KOper.mk _ _ none _ (KOp.pick _ _ _) :: _) :: _) Ex.normal _ _ _ _ _; refine q0I rfl (fun _ => ?_) (fun _ => ?_))
    | (show wpM _ _ _ [] _ _ _ _ _ _; refine q0c rfl rfl rfl trivial ?_))
   refine q05 ?_
   refine go 800 rfl ?_
   refine q0c rfl rfl rfl trivial ?_
   have : ¬ q2n p := fun hs => by have := (hs i hlt).1.2.2; rw [e2] at this; cases this
   simp [this]
  refine go 800 rfl ?_
  have fin : ∀ {t : q0z} {h : q0e} {z : Frz} {nx : Nat}, (∀ k, k < p.length → i + 2 ≤ k → (k + 1) % p.length ≠ i → q2S (pt p i) (pt p ((i + 1) % p.length)) (pt p k) (pt p ((k + 1) % p.length)) = false) →
   (q18 0 [(0, 0), (3, 0), (4, 0)] t h z nx fun _ _ kp => kp = ([q0g p, q01 p.length, q01 ((i + 1 : Nat) : Int)], [none, none, none], [0, 0, 0])) → N t h z nx := by
   intro t h z nx hm hst
   refine hN (i + 1) ⟨by omega, fun j hj => ?_⟩ (by omega) hst
   by_cases hji : j < i
   ·exact hall j hji
   ·obtain rfl : j = i := by omega
    exact ⟨⟨of_decide_eq_false e0, e1, e2⟩, hm⟩
  clear hN
  refine q0p (S := fun k : Nat => ([q0g p, q01 p.length, q01 i, .ptr 3 0 0, .ptr 4 0 0, q01 k], [none, none, none, some (.row [(pt p i).enc] 2), some (.row [(pt p ((i + 1) % p.length)).enc] 2), none], [0, 0, 0, 0, 0, 0]))
   (C := fun k => i + 2 ≤ k ∧ k ≤ p.length + 2 ∧ ∀ k', k' < p.length → k' < k → i + 2 ≤ k' → (k' + 1) % p.length ≠ i → q2S (pt p i) (pt p ((i + 1) % p.length)) (pt p k') (pt p ((k' + 1) % p.length)) = false)
   (m := fun k => p.length + 2 - k) (i + 2) ⟨by omega, by omega, fun k' _ h1 h2 => by omega⟩ (by omega) ?_ ?_
  ·exact q03 rfl ⟨rfl, rfl, trivial⟩ (by simp [q0g, q01, Spot.enc, w2])
  intro k ⟨hk1, hk2, hkall⟩ N2 hN2
  refine go 800 rfl ?_
  refine q02 rfl (fun e3 => ?_) (fun e3 => ?_)
  ·rw [q06] at e3
   have hkl : k < p.length := by omega
   have wk : IntKind.i64.wrap ((k : Int) + 1) = ((k + 1 : Nat) : Int) := wrap64 (by omega) (by omega)
   have nxt : ∀ {t : q0z} {h : q0e} {z : Frz} {nx : Nat}, ((k + 1) % p.length ≠ i → q2S (pt p i) (pt p ((i + 1) % p.length)) (pt p k) (pt p ((k + 1) % p.length)) = false) →
    (q18 0 [(0, 0), (3, 0), (4, 0), (5, 0), (6, 0), (8, 0)] t h z nx fun _ _ kp => kp = ([q0g p, q01 p.length, q01 i, .ptr 3 0 0, .ptr 4 0 0, q01 ((k + 1 : Nat) : Int)], [none, none, none, some (.row [(pt p i).enc] 2), some (.row [(pt p ((i + 1) % p.length)).enc] 2), none], [0, 0, 0, 0, 0, 0])) → N2 t h z nx := by
    intro t h z nx hm hst
    refine hN2 (k + 1) ⟨by omega, by omega, fun k' q1 q2 q3 q4 => ?_⟩ (by omega) hst
    by_cases hkk : k' < k
    ·exact hkall k' q1 hkk q3 q4
    ·obtain rfl : k' = k := by omega
     exact hm q4
   clear hN2
   refine go 800 rfl ?_
   refine q3Y rfl rfl (by omega) ?_
   refine go 800 rfl ?_
   refine q09 rfl (fun e4 => ?_) (fun e4 => ?_)
   ·rw [q0O, wk, q1m] at e4
    have hne : (k + 1) % p.length ≠ i := fun e => e4 (by rw [e])
    refine go 800 rfl ?_
    refine q0i k rfl rfl rfl (q0D hkl) rfl ?_
    refine go 800 rfl ?_
    refine q3Y rfl rfl (by omega) ?_
    refine go 800 rfl ?_
    refine q0i ((k + 1) % p.length) rfl rfl (by rw [wk, q1m]) (q0D (Nat.mod_lt _ (by omega))) rfl ?_
    refine go 800 rfl ?_
    refine q00 rfl rfl (qp1 (pt p i) (pt p ((i + 1) % p.length)) (pt p k) (pt p ((k + 1) % p.length))) ?_
    refine go 800 rfl ?_
    refine q02 rfl (fun e5 => ?_) (fun e5 => ?_)
    ·refine go 800 rfl ?_
     refine q05 ?_
     refine go 800 rfl ?_
     refine q05 ?_
     refine go 800 rfl ?_
     refine q0c rfl rfl rfl trivial ?_
     have : ¬ q2n p := fun hs => by have := (hs i hlt).2 k hkl hk1 hne; rw [e5] at this; cases this
     simp [this]
    ·refine go 800 rfl ?_
     refine q05 ?_
     exact nxt (fun _ => e5) (q03 rfl ⟨rfl, rfl, trivial⟩ (by simp [q0g, q01, Spot.enc, wk]))
   ·rw [q0S, wk, q1m] at e4
    have hne : (k + 1) % p.length = i := by omega
    repeat' (first
     | (refine goP 800 rfl rfl ?_)
     | (show wpM _ _ _ (Fr.ops _ _ (KOper.mk _ _ (some _) _ _ :: _) :: _) Ex.normal _ _ _ _ _; first | refine q0o rfl ?_ | refine q0u rfl ?_ | refine q09 rfl (fun _ => ?_) (fun _ => ?_))
     | (show wpM _ _ _ (Fr.code (K.cond _ _ _) :: _) Ex.normal _ _ _ _ _; first | refine q0m rfl ?_ | refine q0n rfl ?_ | refine q02 rfl (fun _ => ?_) (fun _ => ?_))
     | (show wpM _ _ _ (Fr.ops _ _ (KOper.mk _ _ none _ (KOp.pick _ _ _) :: _) :: _) Ex.normal _ _ _ _ _; refine q0I rfl (fun _ => ?_) (fun _ => ?_))
     | (show wpM _ _ _ [] _ _ _ _ _ _; refine q0c rfl rfl rfl trivial ?_))
    refine q05 ?_
    exact nxt (fun h => absurd hne h) (q03 rfl ⟨rfl, rfl, trivial⟩ (by simp [q0g, q01, Spot.enc, wk]))
  rw [q07] at e3
  refine go 800 rfl ?_
  refine q05 ?_
  refine go 800 rfl ?_
  refine q05 ?_
  exact fin (fun k' q1 q2 q3 => hkall k' q1 (by omega) q2 q3) (q03 rfl trivial (by simp [q0g, q01, w1]))
 rw [q07] at g1
 refine go 800 rfl ?_
 refine q05 ?_
 refine go 800 rfl ?_
 refine q0c rfl rfl rfl trivial ?_
 have : q2n p := fun i h => hall i (by omega)
 simp [this]
theorem qc7 (p : List Spot) : PU q9G [q0g p] = some (.int .i64 (q1V p)) := by
 refine q0f (fn := qcP) rfl (q0a ?_)
 refine go 800 rfl ?_
 refine q02 rfl (fun h1 => ?_) (fun h1 => ?_)
 ·refine go 800 rfl ?_
  refine q0c rfl rfl rfl trivial ?_
  rw [q06, List.length_map] at h1
  rw [q1V, if_pos (by omega)]
 refine go 800 rfl ?_
 rw [q07, List.length_map] at h1
 refine q02 rfl (fun h2 => ?_) (fun h2 => ?_)
 ·refine go 800 rfl ?_
  refine q0c rfl rfl rfl trivial ?_
  rw [q06, List.length_map] at h2
  rw [q1V, if_neg (by omega), if_pos (by omega)]
 refine go 800 rfl ?_
 rw [q07, List.length_map] at h2
 refine q0p (S := fun k : Nat => ([q0g p, q01 k], [none, none], [0, 0])) (C := fun k => k ≤ p.length ∧ ∀ i, i < k → (!q0v (pt p i) 1048576) = false) (m := fun k => p.length - k) 0 ⟨by omega, fun i hi => by omega⟩ (by omega) ?_ ?_
 ·exact q03 rfl trivial (by simp [q0g, q01])
 intro k ⟨hk, hall⟩ N hN
 refine go 800 rfl ?_
 refine q02 rfl (fun g1 => ?_) (fun g1 => ?_)
 ·rw [q06, List.length_map] at g1
  have hlt : k < p.length := by omega
  have w1 : IntKind.i64.wrap ((k : Int) + 1) = ((k + 1 : Nat) : Int) := wrap64 (by omega) (by omega)
  refine go 800 rfl ?_
  refine q0i k rfl rfl rfl (q0D hlt) rfl ?_
  refine go 800 rfl ?_
  refine q00 rfl rfl (qf8 (pt p k)) ?_
  refine go 800 rfl ?_
  refine q02 rfl (fun g2 => ?_) (fun g2 => ?_)
  ·refine go 800 rfl ?_
   refine q05 ?_
   refine go 800 rfl ?_
   refine q0c rfl rfl rfl trivial ?_
   have : (p.any fun s => !q0v s 1048576) = true := List.any_eq_true.2 ⟨pt p k, by rw [q0F hlt]; exact List.getElem_mem hlt, g2⟩
   rw [q1V, if_neg (by omega), if_neg (by omega), if_pos this]
  ·refine go 800 rfl ?_
   refine q05 ?_
   refine hN (k + 1) ⟨by omega, fun i hi => ?_⟩ (by omega) (q03 rfl trivial (by simp [q0g, q01, w1]))
   by_cases hik : i < k
   ·exact hall i hik
   ·obtain rfl : i = k := by omega
    exact g2
 rw [q07, List.length_map] at g1
 have hany : (p.any fun s => !q0v s 1048576) = false := by
  rw [List.any_eq_false]
  intro s hs
  obtain ⟨i, hi, rfl⟩ := List.getElem_of_mem hs
  rw [← q0F hi, hall i (by omega)]
  decide
 have := qqV hany
 refine go 800 rfl ?_
 refine q05 ?_
 refine go 800 rfl ?_
 refine q00 rfl rfl (qlY p (by omega) (by omega)) ?_
 refine go 800 rfl ?_
 have hsi := qbZ (p := p) (by omega)
 refine q02 rfl (fun h4 => ?_) (fun h4 => ?_)
 ·refine go 800 rfl ?_
  refine q0c rfl rfl rfl trivial ?_
  have h4' : ¬ q2n p := by simpa using h4
  rw [q1V, if_neg (by omega), if_neg (by omega), if_neg (by rw [hany]; decide), if_neg (by rw [hsi]; exact h4')]
 ·refine go 800 rfl ?_
  refine q0c rfl rfl rfl trivial ?_
  have h4' : q2n p := by simpa using h4
  rw [q1V, if_neg (by omega), if_neg (by omega), if_neg (by rw [hany]; decide), if_pos (hsi.2 h4')]
end Go.F

namespace Go.F
attribute [local irreducible] IntKind.wrap wpM
theorem qog (l : List Edge) (k : Nat) (hk : k < l.length) (hl : l.length < 4611686018427387904) : PU qil [q0s l, .int .i64 k, .str (eg l k).name] = some (.bool (qdy l k)) := by
 refine q0f (fn := qcQ) rfl (q0a ?_)
 refine go 800 rfl ?_
 refine q0p (S := fun j : Nat => ([q0s l, q01 k, .str (eg l k).name, q01 j], [none, none, none, none], [0, 0, 0, 0])) (C := fun j => j ≤ k ∧ ∀ i, i < j → ((eg l i).name.toList == (eg l k).name.toList) = false) (m := fun j => k - j) 0 ⟨by omega, fun i hi => by omega⟩ (by omega) ?_ ?_
 ·exact q03 rfl trivial (by simp [q0s, q01])
 intro j ⟨hj, hno⟩ N hN
 refine go 800 rfl ?_
 refine q02 rfl (fun e1 => ?_) (fun e1 => ?_)
 ·rw [q06] at e1
  have hjk : j < k := by omega
  have wj : IntKind.i64.wrap ((j : Int) + 1) = ((j + 1 : Nat) : Int) := wrap64 (by omega) (by omega)
  refine go 800 rfl ?_
  refine q0i j rfl rfl rfl (q15 (by omega)) rfl ?_
  refine go 800 rfl ?_
  refine q02 rfl (fun e2 => ?_) (fun e2 => ?_)
  ·refine go 800 rfl ?_
   refine q05 ?_
   refine go 800 rfl ?_
   refine q0c rfl rfl rfl trivial ?_
   rw [qfH hjk e2]
  ·refine go 800 rfl ?_
   refine q05 ?_
   refine hN (j + 1) ⟨by omega, fun i hi => ?_⟩ (by omega) (q03 rfl trivial (by simp [q0s, q01, wj]))
   by_cases hij : i < j
   ·exact hno i hij
   ·obtain rfl : i = j := by omega
    exact e2
 rw [q07] at e1
 refine go 800 rfl ?_
 refine q05 ?_
 refine go 800 rfl ?_
 refine q0c rfl rfl rfl trivial ?_
 rw [qhM fun i hi => hno i (by omega)]
theorem q3X {l : List Edge} {k : Nat} (h : k < l.length) : q0k (l.take (k + 1)) = q0k (l.take k) ++ (eg l k).line.dropLast := by
 rw [q99 h, q4z h]
set_option maxHeartbeats 1000000 in
theorem qcr (l : List Edge) (h1 : ∀ e ∈ l, e.line.length ≤ 100000) (hl : l.length ≤ 100000) (hv : (q0k l).length ≤ 100000) : PU q9c [q0s l] = some (q0g (q0k l)) := by
 refine q0f (fn := q8S) rfl (q0a ?_)
 refine go 800 rfl ?_
 refine q0p (S := fun k : Nat => ([q0s l, .ref 1 0 (q0k (l.take k)).length, q01 k], [none, some (.row ((q0k (l.take k)).map Spot.enc) 2), none], [0, 0, 0])) (C := fun k => k ≤ l.length) (m := fun k => l.length - k) 0 (by omega) (by omega) ?_ ?_
 ·exact q03 rfl ⟨rfl, trivial⟩ (by simp [q0s, q01, q0k])
 intro k hk N hN
 refine go 800 rfl ?_
 refine q02 rfl (fun g1 => ?_) (fun g1 => ?_)
 ·rw [q06, List.length_map] at g1
  have hlt : k < l.length := by omega
  have w1 : IntKind.i64.wrap ((k : Int) + 1) = ((k + 1 : Nat) : Int) := wrap64 (by omega) (by omega)
  have hln : (eg l k).line.length ≤ 100000 := by rw [q4z hlt]; exact h1 _ (List.getElem_mem hlt)
  have hcells : ((eg l k).line.map Spot.enc).all (fun d => d.cells.length == 2) = true := q1S (f := Spot.enc) (n := 2) (fun _ => rfl) _
  have hle := qaI (l := l) (k + 1)
  rw [q3X hlt, List.length_append] at hle
  refine go 800 rfl ?_
  refine q0i k rfl rfl rfl (q15 hlt) rfl ?_
  refine go 800 rfl ?_
  refine q02 rfl (fun g2 => ?_) (fun g2 => ?_)
  ·rw [q06, List.length_map] at g2
   have w2 : IntKind.i64.wrap (((eg l k).line.length : Int) - 1) = (((eg l k).line.length - 1 : Nat) : Int) := by rw [wrap64 (by omega) (by omega)]; omega
   refine go 800 rfl ?_
   refine q0i k rfl rfl rfl (q15 hlt) rfl ?_
   refine go 800 rfl ?_
   refine qg6 ((eg l k).line.length - 1) rfl hcells ⟨_, _, rfl, by rw [List.length_map]; exact w2⟩ (by simp) ?_
   refine go 800 rfl ?_
   have e : ((eg l k).line.map Spot.enc).take ((eg l k).line.length - 1) = (eg l k).line.dropLast.map Spot.enc := by
    rw [List.dropLast_eq_take, List.map_take]
   rw [e]
   refine qrV rfl rfl rfl (q1S (f := Spot.enc) (n := 2) (fun _ => rfl) _) (by simp) (Nat.zero_le _) (by simp [q0K] at *; omega) ?_
   refine go 800 rfl ?_
   refine q05 ?_
   refine hN (k + 1) (by omega) (by omega) (q03 rfl ⟨by rw [← List.map_append]; exact q04 q0h _, trivial⟩ ?_)
   simp [q0s, q01, w1, q3X hlt]
  ·rw [q07, List.length_map] at g2
   have h0 : (eg l k).line = [] := List.eq_nil_of_length_eq_zero (by omega)
   refine go 800 rfl ?_
   refine q05 ?_
   refine hN (k + 1) (by omega) (by omega) (q03 rfl ⟨q04 q0h _, trivial⟩ ?_)
   simp [q0s, q01, w1, q3X hlt, h0]
 rw [q07, List.length_map] at g1
 refine go 800 rfl ?_
 refine q05 ?_
 refine go 800 rfl ?_
 obtain rfl : k = l.length := by omega
 rw [List.take_length]
 refine q0c rfl rfl rfl ⟨q2u (by simp) (q0T q24 _), trivial⟩ ?_
 rw [q2q (by simp), q0g]
set_option maxHeartbeats 2000000 in
theorem q6W (l : List Edge) : PU q6n [q0s l] = some (.int .i64 (q0J l)) := by
 refine q0f (fn := qcK) rfl (q0a ?_)
 refine go 800 rfl ?_
 refine q02 rfl (fun h1 => ?_) (fun h1 => ?_)
 ·refine go 800 rfl ?_
  refine q0c rfl rfl rfl trivial ?_
  rw [q06, List.length_map] at h1
  rw [q0J, if_pos (by omega)]
 refine go 800 rfl ?_
 rw [q07, List.length_map] at h1
 refine q02 rfl (fun h2 => ?_) (fun h2 => ?_)
 ·refine go 800 rfl ?_
  refine q0c rfl rfl rfl trivial ?_
  rw [q06, List.length_map] at h2
  rw [q0J, if_neg (by omega), if_pos (by omega)]
 refine go 800 rfl ?_
 rw [q07, List.length_map] at h2
 refine q0p (S := fun k : Nat => ([q0s l, q01 k], [none, none], [0, 0])) (C := fun k => k ≤ l.length ∧ q1n (q1q l) k = 0) (m := fun k => l.length - k) 0 ⟨by omega, rfl⟩ (by omega) ?_ ?_
 ·exact q03 rfl trivial (by simp [q0s, q01])
 intro k ⟨hk, hall⟩ N hN
 refine go 800 rfl ?_
 refine q02 rfl (fun g1 => ?_) (fun g1 => ?_)
 ·rw [q06, List.length_map] at g1
  have hlt : k < l.length := by omega
  have w1 : IntKind.i64.wrap ((k : Int) + 1) = ((k + 1 : Nat) : Int) := wrap64 (by omega) (by omega)
  have no : q1q l k ≠ 0 → q0J l = q1q l k := by
   intro hc
   have := q9D hall hc hlt
   rw [q0J, if_neg (by omega), if_neg (by omega), if_neg (by rw [this]; exact hc), this]
  refine go 800 rfl ?_
  refine q0i k rfl rfl rfl (q15 hlt) rfl ?_
  refine go 800 rfl ?_
  refine q00 rfl rfl (qp4 (eg l k).name) ?_
  refine go 800 rfl ?_
  refine q02 rfl (fun g2 => ?_) (fun g2 => ?_)
  ·refine go 800 rfl ?_
   refine q05 ?_
   refine go 800 rfl ?_
   refine q0c rfl rfl rfl trivial ?_
   have : q1q l k = 1 := by rw [q1q, if_pos (by simpa using g2)]
   rw [no (by rw [this]; decide), this]
  have g2' : ¬ q3O (eg l k).name = false := by simpa using g2
  refine go 800 rfl ?_
  refine q0i k rfl rfl rfl (q15 hlt) rfl ?_
  refine go 800 rfl ?_
  refine q00 rfl rfl (qog l k hlt (by omega)) ?_
  refine go 800 rfl ?_
  refine q02 rfl (fun e2 => ?_) (fun e2 => ?_)
  ·refine go 800 rfl ?_
   refine q05 ?_
   refine go 800 rfl ?_
   refine q0c rfl rfl rfl trivial ?_
   have : q1q l k = 7 := by rw [q1q, if_neg g2', if_pos e2]
   rw [no (by rw [this]; decide), this]
  refine go 800 rfl ?_
  have hee : q1q l k = q1v (eg l k).line := by rw [q1q, if_neg g2', if_neg (by rw [e2]; decide)]
  refine q0i k rfl rfl rfl (q15 hlt) rfl ?_
  refine go 800 rfl ?_
  refine q00 rfl rfl (qgW (eg l k).line) ?_
  refine go 800 rfl ?_
  refine q02 rfl (fun g3 => ?_) (fun g3 => ?_)
  ·rw [q0O, ← hee] at g3
   refine go 800 rfl ?_
   refine q05 ?_
   refine go 800 rfl ?_
   refine q0c rfl rfl rfl trivial ?_
   rw [no g3, hee]
  ·rw [q0S, ← hee] at g3
   refine go 800 rfl ?_
   refine q05 ?_
   exact hN (k + 1) ⟨by omega, q5z hall g3⟩ (by omega) (q03 rfl trivial (by simp [q0s, q01, w1]))
 rw [q07, List.length_map] at g1
 obtain rfl : k = l.length := by omega
 clear hN hk g1
 have hln : ∀ i, i < l.length → 2 ≤ (eg l i).line.length ∧ (eg l i).line.length ≤ 40 ∧ _ := fun i hi => q1T (q4Q (q2f hall hi))
 refine go 800 rfl ?_
 refine q05 ?_
 refine go 800 rfl ?_
 refine q0p (S := fun k : Nat => ([q0s l, q01 k], [none, none], [0, 0])) (C := fun k => k ≤ l.length ∧ q1n (q2O l) k = 0) (m := fun k => l.length - k) 0 ⟨by omega, rfl⟩ (by omega) ?_ ?_
 ·exact q03 rfl trivial (by simp [q0s, q01])
 intro k ⟨hk, hjo⟩ N hN
 refine go 800 rfl ?_
 refine q02 rfl (fun g1 => ?_) (fun g1 => ?_)
 ·rw [q06, List.length_map] at g1
  have hlt : k < l.length := by omega
  have hlt2 : (k + 1) % l.length < l.length := Nat.mod_lt _ (by omega)
  have w1 : IntKind.i64.wrap ((k : Int) + 1) = ((k + 1 : Nat) : Int) := wrap64 (by omega) (by omega)
  have a1 := hln k hlt
  have a2 := hln _ hlt2
  have w2 : IntKind.i64.wrap (((eg l k).line.length : Int) - 1) = (((eg l k).line.length - 1 : Nat) : Int) := by rw [wrap64 (by omega) (by omega)]; omega
  refine go 800 rfl ?_
  refine q0i k rfl rfl rfl (q15 hlt) rfl ?_
  refine go 800 rfl ?_
  refine q3Y rfl rfl (by rw [List.length_map]; omega) ?_
  refine go 800 rfl ?_
  refine q0i ((k + 1) % l.length) rfl rfl (by rw [w1, List.length_map, q1m]) (q15 hlt2) rfl ?_
  refine go 800 rfl ?_
  refine q0i ((eg l k).line.length - 1) rfl rfl (by rw [List.length_map]; exact w2) (q0D (by omega)) rfl ?_
  refine go 800 rfl ?_
  refine q0i 0 rfl rfl rfl (q0D (by omega)) rfl ?_
  refine go 800 rfl ?_
  refine q02 rfl (fun g2 => ?_) (fun g2 => ?_)
  ·refine go 800 rfl ?_
   refine q05 ?_
   refine go 800 rfl ?_
   refine q0c rfl rfl rfl trivial ?_
   rw [q0Y] at g2
   have : q2O l k = 11 := by rw [q2O, if_neg (by simpa using g2)]
   have h11 := q9D hjo (by rw [this]; decide) hlt
   rw [q0J, if_neg (by omega), if_neg (by omega), if_pos hall, if_neg (by rw [h11, this]; decide), h11, this]
  ·refine go 800 rfl ?_
   refine q05 ?_
   rw [q0Y] at g2
   have : q2O l k = 0 := by rw [q2O, if_pos (by simpa using g2)]
   refine hN (k + 1) ⟨by omega, q5z hjo this⟩ (by omega) (q03 rfl trivial (by simp [q0s, q01, w1]))
 rw [q07, List.length_map] at g1
 obtain rfl : k = l.length := by omega
 refine go 800 rfl ?_
 refine q05 ?_
 refine go 800 rfl ?_
 have hb : ∀ e ∈ l, 1 ≤ e.line.length ∧ e.line.length ≤ 40 := by
  intro e he
  obtain ⟨i, hi, rfl⟩ := qnw he
  have := hln i hi
  exact ⟨by omega, by omega⟩
 have hv := q9E (m := 40) fun e he => (hb e he).2
 refine q00 rfl rfl (qcr l (fun e he => by have := (hb e he).2; omega) (by omega) (by omega)) ?_
 refine go 800 rfl ?_
 refine q00 rfl rfl (qc7 (q0k l)) ?_
 refine go 800 rfl ?_
 refine q0c rfl rfl rfl trivial ?_
 rw [q0J, if_neg (by omega), if_neg (by omega), if_pos hall, if_pos hjo]
end Go.F

namespace Go.F
def qaq (a b c : QP) : Rat := (b.x - a.x) * (c.y - a.y) - (b.y - a.y) * (c.x - a.x)
theorem qbR (a b c : Spot) : qaq (qp a) (qp b) (qp c) = ((q0X a b c : Int) : Rat) := by
 unfold qaq q0X qp
 simp only [Rat.intCast_sub, Rat.intCast_mul]
theorem qtz (a b c d : QP) (t : Rat) : qaq a b (onP c d t) = (1 - t) * qaq a b c + t * qaq a b d := by
 unfold qaq onP qe9 q4d q1t
 simp only
 grind
theorem qiE (a b : QP) (s : Rat) : qaq a b (onP a b s) = 0 := by
 unfold qaq onP qe9 q4d q1t
 simp only
 grind
theorem qwE {a b s : Rat} (h0 : 0 ≤ s) (h1 : s ≤ 1) : min a b ≤ a + (b - a) * s ∧ a + (b - a) * s ≤ max a b := by
 rw [Rat.min_def, Rat.max_def]
 by_cases h : a ≤ b
 ·rw [if_pos h, if_pos h]
  have p1 := Rat.mul_nonneg (show 0 ≤ b - a by grind) h0
  have p2 := Rat.mul_nonneg (show 0 ≤ b - a by grind) (show 0 ≤ 1 - s by grind)
  constructor <;> grind
 ·rw [if_neg h, if_neg h]
  have p1 := Rat.mul_nonneg (show 0 ≤ a - b by grind) h0
  have p2 := Rat.mul_nonneg (show 0 ≤ a - b by grind) (show 0 ≤ 1 - s by grind)
  constructor <;> grind
theorem qiF {a b q : Int} {s : Rat} (h0 : 0 ≤ s) (h1 : s ≤ 1) (he : (q : Rat) = a + ((b : Rat) - a) * s) : min a b ≤ q ∧ q ≤ max a b := by
 have h := qwE (a := (a : Rat)) (b := (b : Rat)) h0 h1
 rw [← he, Rat.min_def, Rat.max_def] at h
 by_cases hab : a ≤ b
 ·have : (a : Rat) ≤ (b : Rat) := Rat.intCast_le_intCast.2 hab
  rw [if_pos this, if_pos this, Rat.intCast_le_intCast, Rat.intCast_le_intCast] at h
  omega
 ·have : ¬ (a : Rat) ≤ (b : Rat) := fun hh => hab (Rat.intCast_le_intCast.1 hh)
  rw [if_neg this, if_neg this, Rat.intCast_le_intCast, Rat.intCast_le_intCast] at h
  omega
theorem qgM {a b q : Spot} {s : Rat} (h0 : 0 ≤ s) (h1 : s ≤ 1) (he : qp q = onP (qp a) (qp b) s) : onS a b q = true := by
 have hc : q0X a b q = 0 := by
  have : ((q0X a b q : Int) : Rat) = 0 := by rw [← qbR, he, qiE]
  exact Rat.intCast_eq_zero_iff.1 this
 have hx : (q.x : Rat) = a.x + ((b.x : Rat) - a.x) * s := congrArg QP.x he
 have hy : (q.y : Rat) = a.y + ((b.y : Rat) - a.y) * s := congrArg QP.y he
 have bx := qiF h0 h1 hx
 have by' := qiF h0 h1 hy
 unfold onS
 simp [hc, bx, by']
theorem qkF {a b c : Spot} (hab : a ≠ b) (hc : q0X a b c = 0) : ∃ s : Rat, qp c = onP (qp a) (qp b) s := by
 have hq : qaq (qp a) (qp b) (qp c) = 0 := by rw [qbR, hc]; rfl
 unfold qaq at hq
 by_cases hx : b.x = a.x
 ·have hy : b.y ≠ a.y := fun h => hab (by cases a; cases b; simp at hx h ⊢; omega)
  have hy' : (qp b).y - (qp a).y ≠ 0 := by
   show (b.y : Rat) - (a.y : Rat) ≠ 0
   rw [← Rat.intCast_sub]; intro h; rw [Rat.intCast_eq_zero_iff] at h; omega
  have hx' : (qp b).x = (qp a).x := by show (b.x : Rat) = (a.x : Rat); rw [hx]
  refine ⟨((qp c).y - (qp a).y) / ((qp b).y - (qp a).y), ?_⟩
  have ht := Rat.div_mul_cancel (a := (qp c).y - (qp a).y) hy'
  generalize ((qp c).y - (qp a).y) / ((qp b).y - (qp a).y) = t at ht
  have h1 : ((qp b).y - (qp a).y) * ((qp c).x - (qp a).x) = 0 := by grind
  have h2 : (qp c).x = (qp a).x := by
   rcases Rat.mul_eq_zero.1 h1 with h | h
   ·exact absurd h hy'
   ·grind
  unfold onP qe9 q4d q1t
  cases hcc : qp c with
  | mk cx cy =>
    rw [hcc] at h2 ht
    simp only [QP.mk.injEq] at h2 ht ⊢
    constructor <;> grind
 ·have hx' : (qp b).x - (qp a).x ≠ 0 := by
   show (b.x : Rat) - (a.x : Rat) ≠ 0
   rw [← Rat.intCast_sub]; intro h; rw [Rat.intCast_eq_zero_iff] at h; omega
  refine ⟨((qp c).x - (qp a).x) / ((qp b).x - (qp a).x), ?_⟩
  have ht := Rat.div_mul_cancel (a := (qp c).x - (qp a).x) hx'
  generalize ((qp c).x - (qp a).x) / ((qp b).x - (qp a).x) = t at ht
  have h1 : ((qp b).x - (qp a).x) * ((qp c).y - (qp a).y - ((qp b).y - (qp a).y) * t) = 0 := by grind
  have h2 : (qp c).y - (qp a).y - ((qp b).y - (qp a).y) * t = 0 := by
   rcases Rat.mul_eq_zero.1 h1 with h | h
   ·exact absurd h hx'
   ·exact h
  unfold onP qe9 q4d q1t
  cases hcc : qp c with
  | mk cx cy =>
    rw [hcc] at h2 ht
    simp only [QP.mk.injEq] at h2 ht ⊢
    constructor <;> grind
end Go.F

namespace Go.F
theorem qnO {a b : Spot} (hab : a ≠ b) {s t : Rat} (h : onP (qp a) (qp b) s = onP (qp a) (qp b) t) : s = t := by
 have hx : (qp a).x + ((qp b).x - (qp a).x) * s = (qp a).x + ((qp b).x - (qp a).x) * t := congrArg QP.x h
 have hy : (qp a).y + ((qp b).y - (qp a).y) * s = (qp a).y + ((qp b).y - (qp a).y) * t := congrArg QP.y h
 by_cases h1 : b.x = a.x
 ·have h2 : b.y ≠ a.y := fun h => hab (by cases a; cases b; simp at h1 h ⊢; omega)
  have hy' : (qp b).y - (qp a).y ≠ 0 := by
   show (b.y : Rat) - (a.y : Rat) ≠ 0
   rw [← Rat.intCast_sub]; intro h; rw [Rat.intCast_eq_zero_iff] at h; omega
  have : ((qp b).y - (qp a).y) * (s - t) = 0 := by grind
  rcases Rat.mul_eq_zero.1 this with h | h
  ·exact absurd h hy'
  ·grind
 ·have hx' : (qp b).x - (qp a).x ≠ 0 := by
   show (b.x : Rat) - (a.x : Rat) ≠ 0
   rw [← Rat.intCast_sub]; intro h; rw [Rat.intCast_eq_zero_iff] at h; omega
  have : ((qp b).x - (qp a).x) * (s - t) = 0 := by grind
  rcases Rat.mul_eq_zero.1 this with h | h
  ·exact absurd h hx'
  ·grind
theorem on_on (a b : QP) (s1 s2 t : Rat) : onP (onP a b s1) (onP a b s2) t = onP a b (s1 + (s2 - s1) * t) := by
 unfold onP qe9 q4d q1t; simp only [QP.mk.injEq]; constructor <;> grind
theorem qnP (a b : QP) : onP a b 0 = a := by
 cases a; unfold onP qe9 q4d q1t; simp only [QP.mk.injEq]; constructor <;> grind
theorem qvt (a b : QP) : onP a b 1 = b := by
 cases b; unfold onP qe9 q4d q1t; simp only [QP.mk.injEq]; constructor <;> grind
theorem qe4 {a b c d : Spot} (hab : a ≠ b) (h1 : q0X a b c = 0) (h2 : q0X a b d = 0) {s t : Rat} (hs0 : 0 ≤ s) (hs1 : s ≤ 1) (ht0 : 0 ≤ t) (ht1 : t ≤ 1) (he : onP (qp a) (qp b) s = onP (qp c) (qp d) t) :
 onS a b c = true ∨ onS a b d = true ∨ onS c d a = true := by
 obtain ⟨s1, e1⟩ := qkF hab h1
 obtain ⟨s2, e2⟩ := qkF hab h2
 rw [e1, e2, on_on] at he
 have hs := qnO hab he
 by_cases c1 : 0 ≤ s1 ∧ s1 ≤ 1
 ·exact .inl (qgM c1.1 c1.2 e1)
 by_cases c2 : 0 ≤ s2 ∧ s2 ≤ 1
 ·exact .inr (.inl (qgM c2.1 c2.2 e2))
 have hne : s2 - s1 ≠ 0 := by
  intro h
  have : s = s1 := by rw [hs, h]; grind
  exact c1 ⟨by grind, by grind⟩
 have p1 : s - s1 = (s2 - s1) * t := by grind
 have p2 : s2 - s = (s2 - s1) * (1 - t) := by grind
 have hcase : (s1 < 0 ∧ 1 < s2) ∨ (s2 < 0 ∧ 1 < s1) := by
  rcases Rat.le_total (a := s1) (b := s2) with h | h
  ·have q1 := Rat.mul_nonneg (show 0 ≤ s2 - s1 by grind) ht0
   have q2 := Rat.mul_nonneg (show 0 ≤ s2 - s1 by grind) (show 0 ≤ 1 - t by grind)
   left; grind
  ·have q1 := Rat.mul_nonneg (show 0 ≤ s1 - s2 by grind) ht0
   have q2 := Rat.mul_nonneg (show 0 ≤ s1 - s2 by grind) (show 0 ≤ 1 - t by grind)
   right; grind
 right; right
 have hr := Rat.div_mul_cancel (a := 0 - s1) hne
 have hd : onP (qp c) (qp d) ((0 - s1) / (s2 - s1)) = qp a := by
  rw [e1, e2, on_on]
  have : s1 + (s2 - s1) * ((0 - s1) / (s2 - s1)) = 0 := by grind
  rw [this, qnP]
 generalize (0 - s1) / (s2 - s1) = r at hr hd
 refine qgM (s := r) ?_ ?_ hd.symm
 ·rcases hcase with ⟨g1, g2⟩ | ⟨g1, g2⟩
  ·by_cases hh : 0 ≤ r
   ·exact hh
   ·have := Rat.mul_pos (show 0 < -r by grind) (show 0 < s2 - s1 by grind)
    grind
  ·by_cases hh : 0 ≤ r
   ·exact hh
   ·have := Rat.mul_pos (show 0 < -r by grind) (show 0 < s1 - s2 by grind)
    grind
 ·rcases hcase with ⟨g1, g2⟩ | ⟨g1, g2⟩
  ·by_cases hh : r ≤ 1
   ·exact hh
   ·have := Rat.mul_pos (show 0 < r - 1 by grind) (show 0 < s2 - s1 by grind)
    grind
  ·by_cases hh : r ≤ 1
   ·exact hh
   ·have := Rat.mul_pos (show 0 < r - 1 by grind) (show 0 < s1 - s2 by grind)
    grind
theorem qpz {x y : Int} (h : (0 < x ∧ y < 0) ∨ (x < 0 ∧ 0 < y)) : sgn x * sgn y < 0 := by
 unfold sgn
 rcases h with ⟨h1, h2⟩ | ⟨h1, h2⟩
 ·rw [if_neg (by omega), if_pos h1, if_pos h2]; decide
 ·rw [if_pos h1, if_neg (by omega), if_pos h2]; decide
theorem qkG {a b c d : Spot} {s t : Rat} (ht0 : 0 ≤ t) (ht1 : t ≤ 1) (he : onP (qp a) (qp b) s = onP (qp c) (qp d) t) :
 (sgn (q0X a b c) * sgn (q0X a b d) < 0) ∨ (q0X a b c = 0 ∧ q0X a b d = 0) ∨ (q0X a b c = 0 ∧ t = 0) ∨ (q0X a b d = 0 ∧ t = 1) := by
 have h0 : (1 - t) * ((q0X a b c : Int) : Rat) + t * ((q0X a b d : Int) : Rat) = 0 := by
  rw [← qbR, ← qbR, ← qtz, ← he, qiE]
 generalize q0X a b c = x at *
 generalize q0X a b d = y at *
 by_cases hx : x = 0
 ·subst hx
  have : t * ((y : Int) : Rat) = 0 := by grind
  rcases Rat.mul_eq_zero.1 this with h | h
  ·exact .inr (.inr (.inl ⟨rfl, h⟩))
  ·exact .inr (.inl ⟨rfl, Rat.intCast_eq_zero_iff.1 h⟩)
 by_cases hy : y = 0
 ·subst hy
  have : (1 - t) * ((x : Int) : Rat) = 0 := by grind
  rcases Rat.mul_eq_zero.1 this with h | h
  ·exact .inr (.inr (.inr ⟨rfl, by grind⟩))
  ·exact absurd (Rat.intCast_eq_zero_iff.1 h) hx
 left
 apply qpz
 rcases Int.lt_or_gt_of_ne hx with h1 | h1 <;> rcases Int.lt_or_gt_of_ne hy with h2 | h2
 ·exfalso
  have g1 : (x : Rat) < 0 := Rat.intCast_neg_iff.2 h1
  have g2 : (y : Rat) < 0 := Rat.intCast_neg_iff.2 h2
  rcases Rat.le_iff_lt_or_eq.1 ht0 with h | h
  ·have q1 := Rat.mul_pos h (show 0 < -(y : Rat) by grind)
   have q2 := Rat.mul_nonneg (show 0 ≤ 1 - t by grind) (show 0 ≤ -(x : Rat) by grind)
   grind
  ·rw [← h] at h0; grind
 ·right; exact ⟨h1, h2⟩
 ·left; exact ⟨h1, h2⟩
 ·exfalso
  have g1 : 0 < (x : Rat) := Rat.intCast_pos.2 h1
  have g2 : 0 < (y : Rat) := Rat.intCast_pos.2 h2
  rcases Rat.le_iff_lt_or_eq.1 ht0 with h | h
  ·have q1 := Rat.mul_pos h g2
   have q2 := Rat.mul_nonneg (show 0 ≤ 1 - t by grind) (show 0 ≤ (x : Rat) by grind)
   grind
  ·rw [← h] at h0; grind
theorem qpA {a b c d : Spot} (hab : a ≠ b) (hcd : c ≠ d) {s t : Rat} (hs0 : 0 ≤ s) (hs1 : s ≤ 1) (ht0 : 0 ≤ t) (ht1 : t ≤ 1) (he : onP (qp a) (qp b) s = onP (qp c) (qp d) t) : q2S a b c d = true := by
 have key : onS a b c = true ∨ onS a b d = true ∨ onS c d a = true ∨ onS c d b = true ∨ (q2s a b c d = true ∧ q2s c d a b = true) := by
  rcases qkG ht0 ht1 he with h | ⟨h, h'⟩ | ⟨h, h'⟩ | ⟨h, h'⟩
  ·rcases qkG hs0 hs1 he.symm with g | ⟨g, g'⟩ | ⟨g, g'⟩ | ⟨g, g'⟩
   ·right; right; right; right
    unfold q2s; simp [h, g]
   ·rcases qe4 hcd g g' ht0 ht1 hs0 hs1 he.symm with k | k | k
    ·exact .inr (.inr (.inl k))
    ·exact .inr (.inr (.inr (.inl k)))
    ·exact .inl k
   ·subst g'; rw [qnP] at he; exact .inr (.inr (.inl (qgM ht0 ht1 he)))
   ·subst g'; rw [qvt] at he; exact .inr (.inr (.inr (.inl (qgM ht0 ht1 he))))
  ·rcases qe4 hab h h' hs0 hs1 ht0 ht1 he with k | k | k
   ·exact .inl k
   ·exact .inr (.inl k)
   ·exact .inr (.inr (.inl k))
  ·subst h'; rw [qnP] at he; exact .inl (qgM hs0 hs1 he.symm)
  ·subst h'; rw [qvt] at he; exact .inr (.inl (qgM hs0 hs1 he.symm))
 unfold q2S
 rcases key with h | h | h | h | ⟨h, h'⟩
 ·simp [h]
 ·simp [h]
 ·simp [h]
 ·simp [h]
 ·simp [h, h']
end Go.F

namespace Go.F
theorem bounds (U : Nat → Int) (n : Nat) : ∃ (lo : Int) (N : Nat), ∀ j, j ≤ n → lo ≤ U j ∧ U j ≤ lo + N := by
 induction n with
 | zero =>
   refine ⟨U 0, 0, fun j hj => ?_⟩
   have : j = 0 := by omega
   subst this; omega
 | succ k ih =>
   obtain ⟨lo, N, h⟩ := ih
   refine ⟨min lo (U (k + 1)), (max (lo + N) (U (k + 1)) - min lo (U (k + 1))).toNat, ?_⟩
   intro j hj
   by_cases e : j = k + 1
   ·subst e; omega
   ·have := h j (by omega); omega
end Go.F

namespace Go.F
def shU (p : List Spot) (i : Nat) : Int := 16777216 * (vx p i).x + (vx p i).y
def shV (p : List Spot) (i : Nat) : Int := (vx p i).y
def shT (p : List Spot) (i : Nat) : Rat := ((shV p (i + 1) : Rat) - shV p i) / ((shU p (i + 1) : Rat) - shU p i)
def yR (p : List Spot) (j : Nat) (u : Rat) : Rat := (shV p j : Rat) + shT p j * (u - (shU p j : Rat))
def inR (p : List Spot) (j : Nat) (u : Rat) : Prop := ((shU p j : Rat) ≤ u ∧ u ≤ (shU p (j + 1) : Rat)) ∨ ((shU p (j + 1) : Rat) ≤ u ∧ u ≤ (shU p j : Rat))
theorem qar (a b : Rat) : a ≤ b ∨ b ≤ a := Rat.le_total
theorem qiI {a b r : Rat} (hb : 0 ≤ b) (hb0 : b ≠ 0) (h : r * b = a) (ha : 0 ≤ a) : 0 ≤ r := by
 rcases qar 0 r with g | g
 ·exact g
 ·have k := Rat.mul_nonneg (show 0 ≤ -r by grind) hb
  have : r * b = 0 := by grind
  rcases Rat.mul_eq_zero.1 this with e | e
  ·grind
  ·exact absurd e hb0
theorem qeF {a b c : Rat} (h : c ≠ 0) (he : a * c = b * c) : a = b := by
 have h1 : (a - b) * c = 0 := by grind
 rcases Rat.mul_eq_zero.1 h1 with h2 | h2
 ·grind
 ·exact absurd h2 h
theorem qiJ {p : List Spot} {i : Nat} (h : i < p.length) : vx p i = pt p i := by unfold vx; rw [Nat.mod_eq_of_lt h]
theorem qnR {p : List Spot} [OkP p] (hs : q2n p) {i : Nat} (hi : i < p.length) : shU p i ≠ shU p (i + 1) := by
 have h := (hs i hi).1.1
 rw [← qiJ hi] at h
 have e : pt p ((i + 1) % p.length) = vx p (i + 1) := rfl
 rw [e] at h
 have b1 : OkS (vx p i) := by unfold vx; exact inferInstance
 have b2 : OkS (vx p (i + 1)) := by unfold vx; exact inferInstance
 have := b1.bx; have := b1.byy; have := b2.bx; have := b2.byy
 unfold shU
 intro he
 apply h
 generalize vx p i = a at *
 generalize vx p (i + 1) = b at *
 cases a; cases b
 simp only [Spot.mk.injEq] at *
 omega
theorem qsC {a b : Int} (h : a ≠ b) : (b : Rat) - (a : Rat) ≠ 0 := by
 rw [← Rat.intCast_sub]; intro hh; rw [Rat.intCast_eq_zero_iff] at hh; omega
theorem qpH {p : List Spot} {j : Nat} {u : Rat} (hne : shU p j ≠ shU p (j + 1)) (h : inR p j u) :
 ∃ s : Rat, 0 ≤ s ∧ s ≤ 1 ∧ u = shU p j + ((shU p (j + 1) : Rat) - shU p j) * s ∧ onP (qp (vx p j)) (qp (vx p (j + 1))) s = ⟨(u - yR p j u) / 16777216, yR p j u⟩ := by
 have hd := qsC hne
 have hs := Rat.div_mul_cancel (a := u - (shU p j : Rat)) hd
 have ht := Rat.div_mul_cancel (a := (shV p (j + 1) : Rat) - shV p j) hd
 refine ⟨(u - (shU p j : Rat)) / ((shU p (j + 1) : Rat) - shU p j), ?_, ?_, ?_, ?_⟩
 ·generalize hS : (u - (shU p j : Rat)) / ((shU p (j + 1) : Rat) - shU p j) = s at *
  rcases qar 0 s with g | g
  ·exact g
  ·unfold inR at h
   have h1 := Rat.mul_nonneg (show 0 ≤ -s by grind) (show (0 : Rat) ≤ 1 by decide)
   rcases h with ⟨h1, h2⟩ | ⟨h1, h2⟩
   ·have k := Rat.mul_nonneg (show 0 ≤ -s by grind) (show 0 ≤ ((shU p (j + 1) : Rat) - shU p j) by grind)
    have : s * ((shU p (j + 1) : Rat) - shU p j) = 0 := by grind
    rcases Rat.mul_eq_zero.1 this with e | e
    ·grind
    ·exact absurd e hd
   ·have k := Rat.mul_nonneg (show 0 ≤ -s by grind) (show 0 ≤ ((shU p j : Rat) - shU p (j + 1)) by grind)
    have : s * ((shU p (j + 1) : Rat) - shU p j) = 0 := by grind
    rcases Rat.mul_eq_zero.1 this with e | e
    ·grind
    ·exact absurd e hd
 ·generalize hS : (u - (shU p j : Rat)) / ((shU p (j + 1) : Rat) - shU p j) = s at *
  rcases qar s 1 with g | g
  ·exact g
  ·unfold inR at h
   rcases h with ⟨h1, h2⟩ | ⟨h1, h2⟩
   ·have k := Rat.mul_nonneg (show 0 ≤ s - 1 by grind) (show 0 ≤ ((shU p (j + 1) : Rat) - shU p j) by grind)
    have : (s - 1) * ((shU p (j + 1) : Rat) - shU p j) = 0 := by grind
    rcases Rat.mul_eq_zero.1 this with e | e
    ·grind
    ·exact absurd e hd
   ·have k := Rat.mul_nonneg (show 0 ≤ s - 1 by grind) (show 0 ≤ ((shU p j : Rat) - shU p (j + 1)) by grind)
    have : (s - 1) * ((shU p (j + 1) : Rat) - shU p j) = 0 := by grind
    rcases Rat.mul_eq_zero.1 this with e | e
    ·grind
    ·exact absurd e hd
 ·grind
 ·have hy : yR p j u = (shV p j : Rat) + ((shV p (j + 1) : Rat) - shV p j) * ((u - (shU p j : Rat)) / ((shU p (j + 1) : Rat) - shU p j)) := by
   unfold yR shT
   congr 1
   apply qeF hd
   grind
  rw [hy]
  generalize hS : (u - (shU p j : Rat)) / ((shU p (j + 1) : Rat) - shU p j) = s at *
  have hu : u = shU p j + ((shU p (j + 1) : Rat) - shU p j) * s := by grind
  rw [hu]
  have e1 : (shU p j : Rat) = 16777216 * ((vx p j).x : Rat) + ((vx p j).y : Rat) := by unfold shU; rw [Rat.intCast_add, Rat.intCast_mul]; rfl
  have e2 : (shU p (j + 1) : Rat) = 16777216 * ((vx p (j + 1)).x : Rat) + ((vx p (j + 1)).y : Rat) := by unfold shU; rw [Rat.intCast_add, Rat.intCast_mul]; rfl
  have e3 : (shV p j : Rat) = ((vx p j).y : Rat) := rfl
  have e4 : (shV p (j + 1) : Rat) = ((vx p (j + 1)).y : Rat) := rfl
  rw [e1, e2, e3, e4]
  unfold onP qe9 q4d q1t qp
  simp only [QP.mk.injEq]
  refine ⟨?_, trivial⟩
  generalize ((vx p j).x : Rat) = a
  generalize ((vx p j).y : Rat) = b
  generalize ((vx p (j + 1)).x : Rat) = c
  generalize ((vx p (j + 1)).y : Rat) = d
  have k : (16777216 : Rat) ≠ 0 := by decide
  apply qeF k
  rw [Rat.div_mul_cancel k]
  grind
theorem qmH {a b c : Spot} (hon1 : onS a b c = false) (hon2 : onS b c a = false) {s t : Rat} (hs0 : 0 ≤ s) (hs1 : s ≤ 1) (ht0 : 0 ≤ t) (ht1 : t ≤ 1) (he : onP (qp a) (qp b) s = onP (qp b) (qp c) t) : s = 1 ∧ t = 0 := by
 have hx : (a.x : Rat) + ((b.x : Rat) - a.x) * s = b.x + ((c.x : Rat) - b.x) * t := congrArg QP.x he
 have hy : (a.y : Rat) + ((b.y : Rat) - a.y) * s = b.y + ((c.y : Rat) - b.y) * t := congrArg QP.y he
 rcases qar t (1 - s) with h | h
 ·by_cases h0 : 1 - s = 0
  ·constructor <;> grind
  ·exfalso
   have hr := Rat.div_mul_cancel (a := t) h0
   have hp : 0 < 1 - s := by grind
   have r0 : 0 ≤ t / (1 - s) := qiI (by grind) h0 hr ht0
   have r1 : t / (1 - s) ≤ 1 := by
    generalize t / (1 - s) = r at *
    rcases qar r 1 with g | g
    ·exact g
    ·have k := Rat.mul_nonneg (show 0 ≤ r - 1 by grind) (show 0 ≤ 1 - s by grind)
     have : (r - 1) * (1 - s) = 0 := by grind
     rcases Rat.mul_eq_zero.1 this with e | e
     ·grind
     ·exact absurd e h0
   have : onS b c a = true := by
    refine qgM r0 r1 ?_
    generalize t / (1 - s) = r at *
    unfold onP qe9 q4d q1t qp
    simp only [QP.mk.injEq]
    constructor
    ·apply qeF h0; grind
    ·apply qeF h0; grind
   rw [hon2] at this; cases this
 ·by_cases h0 : t = 0
  ·constructor <;> grind
  ·exfalso
   have hr := Rat.div_mul_cancel (a := 1 - s) h0
   have r0 : 0 ≤ (1 - s) / t := qiI ht0 h0 hr (by grind)
   have r1 : (1 - s) / t ≤ 1 := by
    generalize (1 - s) / t = r at *
    rcases qar r 1 with g | g
    ·exact g
    ·have k := Rat.mul_nonneg (show 0 ≤ r - 1 by grind) ht0
     have : (r - 1) * t = 0 := by grind
     rcases Rat.mul_eq_zero.1 this with e | e
     ·grind
     ·exact absurd e h0
   have : onS a b c = true := by
    refine qgM (s := 1 - (1 - s) / t) (by grind) (by grind) ?_
    generalize (1 - s) / t = r at *
    unfold onP qe9 q4d q1t qp
    simp only [QP.mk.injEq]
    constructor
    ·apply qeF h0; grind
    ·apply qeF h0; grind
   rw [hon1] at this; cases this
theorem qvA {p : List Spot} [OkP p] (hs : q2n p) (h3 : 3 ≤ p.length) {i j : Nat} (hj : j < p.length) (hij : i < j) {u : Rat} (ci : inR p i u) (cj : inR p j u) (he : yR p i u = yR p j u) :
 ∃ m m', (m = i ∨ m = i + 1) ∧ (m' = j ∨ m' = j + 1) ∧ (shU p m : Rat) = u ∧ (m = m' ∨ (m = 0 ∧ m' = p.length) ∨ (m = p.length ∧ m' = 0)) := by
 have hi : i < p.length := by omega
 obtain ⟨s, s0, s1, su, sp⟩ := qpH (qnR hs hi) ci
 obtain ⟨t, t0, t1, tu, tp⟩ := qpH (qnR hs hj) cj
 have hc : onP (qp (vx p i)) (qp (vx p (i + 1))) s = onP (qp (vx p j)) (qp (vx p (j + 1))) t := by rw [sp, tp, he]
 by_cases ha : j = i + 1
 ·subst ha
  have h2 := (hs i hi).1.2
  have e : pt p ((i + 2) % p.length) = vx p (i + 1 + 1) := rfl
  have e' : pt p ((i + 1) % p.length) = vx p (i + 1) := rfl
  rw [← qiJ hi, e, e'] at h2
  obtain ⟨r1, r2⟩ := qmH h2.1 h2.2 s0 s1 t0 t1 hc
  exact ⟨i + 1, i + 1, .inr rfl, .inl rfl, by rw [su, r1]; grind, .inl rfl⟩
 ·by_cases hb : (j + 1) % p.length = i
  ·have hj1 : j + 1 = p.length := by
    rcases Nat.lt_or_ge (j + 1) p.length with g | g
    ·rw [Nat.mod_eq_of_lt g] at hb; omega
    ·omega
   rw [hj1, Nat.mod_self] at hb
   subst hb
   have h2 := (hs j hj).1.2
   have e0 : vx p (j + 1) = vx p 0 := by unfold vx; rw [hj1, Nat.mod_self, Nat.zero_mod]
   have e : pt p ((j + 2) % p.length) = vx p (0 + 1) := by
    unfold vx
    rw [show j + 2 = p.length + 1 by omega, Nat.add_mod_left]
   have e' : pt p ((j + 1) % p.length) = vx p (j + 1) := rfl
   rw [← qiJ hj, e, e', e0] at h2
   rw [e0] at hc
   obtain ⟨r1, r2⟩ := qmH h2.1 h2.2 t0 t1 s0 s1 hc.symm
   refine ⟨0, j + 1, .inl rfl, .inr rfl, ?_, .inr (.inl ⟨rfl, hj1⟩)⟩
   rw [su, r2]; grind
  ·exfalso
   have h2 := (hs i hi).2 j hj (by omega) hb
   have n1 := (hs i hi).1.1
   have n2 := (hs j hj).1.1
   have e1 : pt p ((i + 1) % p.length) = vx p (i + 1) := rfl
   have e2 : pt p ((j + 1) % p.length) = vx p (j + 1) := rfl
   rw [← qiJ hi, e1] at n1
   rw [← qiJ hj, e2] at n2
   rw [← qiJ hi, ← qiJ hj, e1, e2, qpA n1 n2 s0 s1 t0 t1 hc] at h2
   cases h2
theorem touch {p : List Spot} [OkP p] (hs : q2n p) (h3 : 3 ≤ p.length) {i j : Nat} (hi : i < p.length) (hj : j < p.length) (hij : i ≠ j) {u : Rat} (ci : inR p i u) (cj : inR p j u) (he : yR p i u = yR p j u) :
 ∃ m m', (m = i ∨ m = i + 1) ∧ (m' = j ∨ m' = j + 1) ∧ (shU p m : Rat) = u ∧ (m = m' ∨ (m = 0 ∧ m' = p.length) ∨ (m = p.length ∧ m' = 0)) := by
 rcases Nat.lt_or_gt_of_ne hij with h | h
 ·exact qvA hs h3 hj h ci cj he
 ·obtain ⟨m, m', h1, h2, h4, h5⟩ := qvA hs h3 hi h cj ci he.symm
  refine ⟨m', m, h2, h1, ?_, ?_⟩
  ·rcases h5 with rfl | ⟨rfl, rfl⟩ | ⟨rfl, rfl⟩
   ·exact h4
   ·rw [← h4]; unfold shU vx; rw [Nat.mod_self, Nat.zero_mod]
   ·rw [← h4]; unfold shU vx; rw [Nat.mod_self, Nat.zero_mod]
  ·rcases h5 with rfl | ⟨rfl, rfl⟩ | ⟨rfl, rfl⟩
   ·exact .inl rfl
   ·exact .inr (.inr ⟨rfl, rfl⟩)
   ·exact .inr (.inl ⟨rfl, rfl⟩)
end Go.F

namespace Go.F
attribute [local irreducible] IntKind.wrap wpM
def q6w (t : Turn) : Turn := ⟨t.flip, t.quarter % 4⟩
theorem qiV (t : Turn) (h1 : -9223372036854775808 ≤ t.quarter) (h2 : t.quarter ≤ 9223372036854775807) : PU qka [t.enc] = some (q6w t).enc := by
 have e : t.quarter.tmod 4 = if t.quarter % 4 = 0 then 0 else if t.quarter < 0 then t.quarter % 4 - 4 else t.quarter % 4 := by
  rw [Int.tmod_eq_emod]
  split <;> split <;> omega
 refine q0f (fn := qfr) rfl (q0a ?_)
 refine go 800 rfl ?_
 refine q3Y rfl rfl (by decide) ?_
 refine go 800 rfl ?_
 rw [e]
 refine q02 rfl (fun g => ?_) (fun g => ?_)
 ·rw [q06] at g
  have w : IntKind.i64.wrap ((if t.quarter % 4 = 0 then 0 else if t.quarter < 0 then t.quarter % 4 - 4 else t.quarter % 4) + 4) = t.quarter % 4 := by
   rw [wrap64 (by omega) (by omega)]
   repeat' split
   all_goals omega
  refine go 800 rfl ?_
  rw [w]
  exact q0c rfl rfl rfl trivial rfl
 ·rw [q07] at g
  have w : (if t.quarter % 4 = 0 then 0 else if t.quarter < 0 then t.quarter % 4 - 4 else t.quarter % 4) = t.quarter % 4 := by
   repeat' split
   all_goals omega
  refine go 800 rfl ?_
  rw [w]
  exact q0c rfl rfl rfl trivial rfl
theorem qow (t : Turn) (s : Spot) (h1 : -9223372036854775808 ≤ t.quarter) (h2 : t.quarter ≤ 9223372036854775807) : PU qir [t.enc, s.enc] = some (q19 t s).enc := by
 have hm : (t.quarter % 4) = ((t.quarter % 4).toNat : Int) := by omega
 have hm4 : (t.quarter % 4).toNat < 4 := by omega
 refine q0f (fn := qd3) rfl (q0a ?_)
 refine go 800 rfl ?_
 refine q02 rfl (fun g => ?_) (fun g => ?_)
 ·have hr : q3a t.flip s = ⟨ng s.x, s.y⟩ := by rw [q3a, if_pos g]
  refine go 800 rfl ?_
  refine q00 rfl rfl (qiV t h1 h2) ?_
  refine go 800 rfl ?_
  refine q0p (S := fun k : Nat => ([.ptr 0 0 0, .ptr 1 0 0, .ptr 2 0 0, q01 k], [some (.row [Spot.enc ⟨0, 0⟩] 2), some (.row [(q4J k (q3a t.flip s)).enc] 2), some (.row [(q6w t).enc] 2), none], [0, 0, 0, 0])) (C := fun k => k ≤ (t.quarter % 4).toNat) (m := fun k => 4 - k) 0 (Nat.zero_le _) (by omega) ?_ ?_
  ·exact q03 rfl ⟨rfl, rfl, rfl, trivial⟩ (by simp [q01, hr, q4J, Spot.enc, ng, q6w, Turn.enc])
  intro k hk N hN
  have w1 : IntKind.i64.wrap ((k : Int) + 1) = ((k + 1 : Nat) : Int) := wrap64 (by omega) (by omega)
  refine go 800 rfl ?_
  refine q02 rfl (fun g1 => ?_) (fun g1 => ?_)
  ·rw [q06] at g1
   have g1' : (k : Int) < t.quarter % 4 := g1
   refine go 800 rfl ?_
   refine q05 ?_
   exact hN (k + 1) (by omega) (by omega) (q03 rfl ⟨rfl, rfl, rfl, trivial⟩ (by simp [q01, w1, q4J, Spot.enc, ng, q6w, Turn.enc]))
  rw [q07] at g1
  have g1' : t.quarter % 4 ≤ (k : Int) := g1
  obtain rfl : k = (t.quarter % 4).toNat := by omega
  refine go 800 rfl ?_
  refine q05 ?_
  refine go 800 rfl ?_
  exact q0c rfl rfl rfl trivial rfl
 ·have hr : q3a t.flip s = s := by rw [q3a, if_neg (by rw [g]; decide)]
  refine go 800 rfl ?_
  refine q00 rfl rfl (qiV t h1 h2) ?_
  refine go 800 rfl ?_
  refine q0p (S := fun k : Nat => ([.ptr 0 0 0, .ptr 1 0 0, .ptr 2 0 0, q01 k], [some (.row [Spot.enc ⟨0, 0⟩] 2), some (.row [(q4J k (q3a t.flip s)).enc] 2), some (.row [(q6w t).enc] 2), none], [0, 0, 0, 0])) (C := fun k => k ≤ (t.quarter % 4).toNat) (m := fun k => 4 - k) 0 (Nat.zero_le _) (by omega) ?_ ?_
  ·exact q03 rfl ⟨rfl, rfl, rfl, trivial⟩ (by simp [q01, hr, q4J, Spot.enc, ng, q6w, Turn.enc])
  intro k hk N hN
  have w1 : IntKind.i64.wrap ((k : Int) + 1) = ((k + 1 : Nat) : Int) := wrap64 (by omega) (by omega)
  refine go 800 rfl ?_
  refine q02 rfl (fun g1 => ?_) (fun g1 => ?_)
  ·rw [q06] at g1
   have g1' : (k : Int) < t.quarter % 4 := g1
   refine go 800 rfl ?_
   refine q05 ?_
   exact hN (k + 1) (by omega) (by omega) (q03 rfl ⟨rfl, rfl, rfl, trivial⟩ (by simp [q01, w1, q4J, Spot.enc, ng, q6w, Turn.enc]))
  rw [q07] at g1
  have g1' : t.quarter % 4 ≤ (k : Int) := g1
  obtain rfl : k = (t.quarter % 4).toNat := by omega
  refine go 800 rfl ?_
  refine q05 ?_
  refine go 800 rfl ?_
  exact q0c rfl rfl rfl trivial rfl
end Go.F

namespace Go.F
attribute [local irreducible] IntKind.wrap wpM
theorem q7O (t : Turn) {n i : Nat} (h : i < n) : q1R t n i < n := by
 unfold q1R; split
 ·exact Nat.mod_lt _ (by omega)
 ·exact h
end Go.F

namespace Go.F
attribute [local irreducible] IntKind.wrap wpM
theorem qjd (p : List Spot) (hp : p.length ≤ 100000) : PU qdK [q0g p] = some (q0g p.reverse) := by
 refine q0f (fn := q8V) rfl (q0a ?_)
 refine go 800 rfl ?_
 rw [List.length_map]
 refine q0p (S := fun k : Nat => ([q0g p, .ref 1 0 k, .int .i64 ((p.length : Int) - 1 - k)], [none, some (.row ((p.reverse.take k).map Spot.enc) 2), none], [0, 0, 0])) (C := fun k => k ≤ p.length) (m := fun k => p.length - k) 0 (Nat.zero_le _) (by omega) ?_ ?_
 ·have w0 : IntKind.i64.wrap ((p.length : Int) - 1) = (p.length : Int) - 1 := wrap64 (by omega) (by omega)
  exact q03 rfl ⟨rfl, trivial⟩ (by simp [q0g, w0])
 intro k hk N hN
 refine go 800 rfl ?_
 refine q02 rfl (fun g => ?_) (fun g => ?_)
 ·rw [q1k] at g
  have hlt : k < p.length := by omega
  have ek : (p.length : Int) - 1 - k = ((p.length - 1 - k : Nat) : Int) := by omega
  have w1 : IntKind.i64.wrap (((p.length - 1 - k : Nat) : Int) - 1) = (p.length : Int) - 1 - ((k + 1 : Nat) : Int) := by rw [wrap64 (by omega) (by omega)]; omega
  have hst : (p.reverse.take (k + 1)).map Spot.enc = (p.reverse.take k).map Spot.enc ++ [(pt p (p.length - 1 - k)).enc] := by
   rw [List.take_succ_eq_append_getElem (by simpa using hlt), List.map_append, List.getElem_reverse, ← q0F (by omega)]; rfl
  rw [ek]
  refine go 800 rfl ?_
  refine q0i (p.length - 1 - k) rfl rfl rfl (q0D (by omega)) rfl ?_
  refine go 800 rfl ?_
  refine q1e rfl rfl rfl rfl rfl rfl (by simp; omega) (Nat.zero_le _) (by simp [q0K]; omega) ?_
  refine go 800 rfl ?_
  refine q05 ?_
  refine hN (k + 1) hlt (by omega) (q03 rfl ⟨?_, trivial⟩ ?_)
  ·rw [List.all_append, q04 q0h]; rfl
  ·rw [hst]; simp [q0g, w1, Spot.enc]
 rw [q1f] at g
 obtain rfl : k = p.length := by omega
 rw [List.take_of_length_le (by simp)]
 refine go 800 rfl ?_
 refine q05 ?_
 refine go 800 rfl ?_
 refine q0c rfl rfl rfl ⟨q2u (by simp) (q0T q24 _), trivial⟩ ?_
 rw [q2q (by simp)]; rfl
theorem qem (p : List Spot) (t : Turn) (hp : p.length ≤ 1000) (h1 : -9223372036854775808 ≤ t.quarter) (h2 : t.quarter ≤ 9223372036854775807) : PU qjZ [q0g p, t.enc] = some (q0g (q4r t p)) := by
 refine q0f (fn := qfh) rfl (q0a ?_)
 refine go 800 rfl ?_
 refine q0p (S := fun k : Nat => ([q0g p, .ptr 1 0 0, .ref 2 0 k, q01 k], [none, some (.row [t.enc] 2), some (.row (((p.take k).map (q19 t)).map Spot.enc) 2), none], [0, 0, 0, 0])) (C := fun k => k ≤ p.length) (m := fun k => p.length - k) 0 (Nat.zero_le _) (by omega) ?_ ?_
 ·exact q03 rfl ⟨rfl, rfl, trivial⟩ (by simp [q0g, q01, Turn.enc])
 intro k hk N hN
 refine go 800 rfl ?_
 rw [List.length_map]
 refine q02 rfl (fun g => ?_) (fun g => ?_)
 ·rw [q06] at g
  have hlt : k < p.length := by omega
  have w1 : IntKind.i64.wrap ((k : Int) + 1) = ((k + 1 : Nat) : Int) := wrap64 (by omega) (by omega)
  have hst : ((p.take (k + 1)).map (q19 t)).map Spot.enc = ((p.take k).map (q19 t)).map Spot.enc ++ [(q19 t (pt p k)).enc] := by
   rw [List.take_succ_eq_append_getElem hlt, List.map_append, List.map_append, q0F hlt]; rfl
  refine go 800 rfl ?_
  refine q0i k rfl rfl rfl (q0D hlt) rfl ?_
  refine go 800 rfl ?_
  refine q00 rfl rfl (qow t (pt p k) h1 h2) ?_
  refine go 800 rfl ?_
  refine q1e rfl rfl rfl rfl rfl rfl (by simp; omega) (Nat.zero_le _) (by simp [q0K]; omega) ?_
  refine go 800 rfl ?_
  refine q05 ?_
  refine hN (k + 1) hlt (by omega) (q03 rfl ⟨rfl, ?_, trivial⟩ ?_)
  ·rw [List.all_append, q04 q0h]; rfl
  ·rw [hst]; simp [q0g, q01, w1, Spot.enc, Turn.enc]
 rw [q07] at g
 obtain rfl : k = p.length := by omega
 rw [List.take_length]
 refine go 800 rfl ?_
 refine q05 ?_
 refine go 800 rfl ?_
 refine q02 rfl (fun g2 => ?_) (fun g2 => ?_)
 ·have g2 : t.flip = true := g2
  have hr := qjd (p.map (q19 t)) (by simp; omega)
  refine go 800 rfl ?_
  refine q1Z rfl rfl ⟨q2u (by simp) (q0T q24 _), trivial⟩ (by rw [q2q (by simp)]; exact hr) fun z => ?_
  refine go 800 rfl ?_
  refine q0c rfl rfl rfl trivial ?_
  rw [q4r, if_pos g2]; rfl
 ·have g2 : t.flip = false := g2
  refine go 800 rfl ?_
  refine q0c rfl rfl rfl ⟨q2u (by simp) (q0T q24 _), trivial⟩ ?_
  rw [q2q (by simp), q4r, if_neg (by rw [g2]; decide)]; rfl
set_option maxHeartbeats 2000000 in
theorem qm6 (l : List Edge) (t : Turn) (hl : l.length ≤ 1000) (hlen : ∀ e ∈ l, e.line.length ≤ 1000) (h1 : -9223372036854775808 ≤ t.quarter) (h2 : t.quarter ≤ 9223372036854775807) : PU qgt [q0s l, t.enc] = some (q0s (q0N t l)) := by
 refine q0f (fn := qbh) rfl (q0a ?_)
 refine go 800 rfl ?_
 refine q0p (S := fun k : Nat => ([q0s l, .ptr 1 0 0, .ref 2 0 k, q01 k], [none, some (.row [t.enc] 2), some (.row (((List.range k).map fun i => q1s t (eg l (q1R t l.length i))).map Edge.enc) 2), none], [0, 0, 0, 0])) (C := fun k => k ≤ l.length) (m := fun k => l.length - k) 0 (Nat.zero_le _) (by omega) ?_ ?_
 ·exact q03 rfl ⟨rfl, rfl, trivial⟩ (by simp [q0s, q01, Turn.enc])
 intro k hk N hN
 refine go 800 rfl ?_
 rw [List.length_map]
 refine q02 rfl (fun e1 => ?_) (fun e1 => ?_)
 ·rw [q06] at e1
  have hlt : k < l.length := by omega
  have w1 : IntKind.i64.wrap ((k : Int) + 1) = ((k + 1 : Nat) : Int) := wrap64 (by omega) (by omega)
  have hstep := qiW t l (k := k) l.length
  refine go 800 rfl ?_
  refine q09 rfl (fun g => ?_) (fun g => ?_)
  ·have g : t.flip = true := g
   refine go 800 rfl ?_
   refine q02 rfl (fun g2 => ?_) (fun g2 => ?_)
   ·rw [q06] at g2
    have hx : q1R t l.length k = l.length - k := by rw [q1R, if_pos g, Nat.mod_eq_of_lt (by omega)]
    have HI : IntKind.i64.wrap (((l.map Edge.enc).length : Int) - (k : Int)) = ((l.length - k : Nat) : Int) := by rw [List.length_map, wrap64 (by omega) (by omega)]; omega
    rw [hx] at hstep
    have hI : (l.length - k) < l.length := by omega
    have hln := hlen _ (show eg l ((l.length - k)) ∈ l by rw [q4z hI]; exact List.getElem_mem _)
    refine go 800 rfl ?_
    refine q0i ((l.length - k)) rfl rfl HI (q15 hI) rfl ?_
    refine go 800 rfl ?_
    refine q0i ((l.length - k)) rfl rfl HI (q15 hI) rfl ?_
    refine go 800 rfl ?_
    refine q00 rfl rfl (qem (eg l ((l.length - k))).line t hln h1 h2) ?_
    refine go 800 rfl ?_
    refine q1e rfl rfl rfl rfl rfl rfl (by simp) (Nat.zero_le _) (by simp [q0K]; omega) ?_
    refine go 800 rfl ?_
    refine q05 ?_
    refine hN (k + 1) hlt (by omega) (q03 rfl ⟨rfl, ?_, trivial⟩ ?_)
    ·rw [List.all_append, q04 q1G]; rfl
    ·rw [hstep]; simp [q0s, q01, w1, Turn.enc, q1s, Edge.enc, q0g]
   ·rw [q07] at g2
    have hk0 : k = 0 := by omega
    have hx : q1R t l.length k = 0 := by rw [q1R, if_pos g, hk0, Nat.sub_zero, Nat.mod_self]
    rw [hx] at hstep
    have HI : (k : Int) = ((0 : Nat) : Int) := by omega
    have hI : 0 < l.length := by omega
    have hln := hlen _ (show eg l (0) ∈ l by rw [q4z hI]; exact List.getElem_mem _)
    refine go 800 rfl ?_
    refine q0i (0) rfl rfl HI (q15 hI) rfl ?_
    refine go 800 rfl ?_
    refine q0i (0) rfl rfl HI (q15 hI) rfl ?_
    refine go 800 rfl ?_
    refine q00 rfl rfl (qem (eg l (0)).line t hln h1 h2) ?_
    refine go 800 rfl ?_
    refine q1e rfl rfl rfl rfl rfl rfl (by simp) (Nat.zero_le _) (by simp [q0K]; omega) ?_
    refine go 800 rfl ?_
    refine q05 ?_
    refine hN (k + 1) hlt (by omega) (q03 rfl ⟨rfl, ?_, trivial⟩ ?_)
    ·rw [List.all_append, q04 q1G]; rfl
    ·rw [hstep]; simp [q0s, q01, w1, Turn.enc, q1s, Edge.enc, q0g]
  ·have g : t.flip = false := g
   have hx : q1R t l.length k = k := by rw [q1R, if_neg (by rw [g]; decide)]
   rw [hx] at hstep
   have HI : (k : Int) = (k : Int) := rfl
   refine go 800 rfl ?_
   refine q0n rfl ?_
   have hI : k < l.length := by omega
   have hln := hlen _ (show eg l (k) ∈ l by rw [q4z hI]; exact List.getElem_mem _)
   refine go 800 rfl ?_
   refine q0i (k) rfl rfl HI (q15 hI) rfl ?_
   refine go 800 rfl ?_
   refine q0i (k) rfl rfl HI (q15 hI) rfl ?_
   refine go 800 rfl ?_
   refine q00 rfl rfl (qem (eg l (k)).line t hln h1 h2) ?_
   refine go 800 rfl ?_
   refine q1e rfl rfl rfl rfl rfl rfl (by simp) (Nat.zero_le _) (by simp [q0K]; omega) ?_
   refine go 800 rfl ?_
   refine q05 ?_
   refine hN (k + 1) hlt (by omega) (q03 rfl ⟨rfl, ?_, trivial⟩ ?_)
   ·rw [List.all_append, q04 q1G]; rfl
   ·rw [hstep]; simp [q0s, q01, w1, Turn.enc, q1s, Edge.enc, q0g]
 rw [q07] at e1
 obtain rfl : k = l.length := by omega
 refine go 800 rfl ?_
 refine q05 ?_
 refine go 800 rfl ?_
 refine q0c rfl rfl rfl ⟨q2u (by simp) (q0T q5u _), trivial⟩ ?_
 rw [q2q (by simp)]; rfl
end Go.F

namespace Go.F
attribute [local irreducible] IntKind.wrap wpM
theorem qfQ (p : List Spot) {i j : Nat} (h : i ≤ j) : q0A p i ≤ q0A p j := by
 induction j with
 | zero => obtain rfl : i = 0 := by omega
           exact Nat.le_refl _
 | succ j ih =>
   by_cases hij : i = j + 1
   ·subst hij; exact Nat.le_refl _
   ·have := ih (by omega)
    rw [q0A]; omega
theorem qpR (n : Nat) (hn : n < 9223372036854775808) : PU qkd [.int .i64 n] = some (.int .i64 (qkY n)) := by
 refine q0f (fn := qfy) rfl (q0a ?_)
 refine go 800 rfl ?_
 refine q0p (S := fun q : Nat × Nat => ([q01 n, q01 q.2, .int .i64 ((q.1 : Int) - 1)], [none, none, none], [0, 0, 0])) (C := fun q => q.1 ≤ 32 ∧ q.2 + 2 ^ q.1 ≤ 4294967296 ∧ qiX n q.1 q.2 = qkY n) (m := fun q => q.1) (32, 0) ⟨by decide, by decide, rfl⟩ (by decide) ?_ ?_
 ·exact q03 rfl trivial (by simp [q01])
 rintro ⟨j, r⟩ ⟨hj, hr, hinv⟩ N hN
 simp only at hj hr hinv
 refine go 800 rfl ?_
 refine q02 rfl (fun g => ?_) (fun g => ?_)
 ·rw [q1k] at g
  simp only at g
  obtain ⟨k, rfl⟩ : ∃ k, j = k + 1 := ⟨j - 1, by omega⟩
  have ek : ((k + 1 : Nat) : Int) - 1 = (k : Int) := by omega
  have hp : 2 ^ (k + 1) = 2 * 2 ^ k := by rw [Nat.pow_succ]; omega
  have hp0 : 0 < 2 ^ k := Nat.pow_pos (by decide)
  rw [qiX] at hinv
  rw [hp] at hr
  generalize hP : 2 ^ k = P at *
  have wk : IntKind.u64.wrap (k : Int) = (k : Int) := q0L (by omega)
  have wk1 : IntKind.i64.wrap ((k : Int) - 1) = (k : Int) - 1 := wrap64 (by omega) (by omega)
  have wt : IntKind.i64.wrap ((r : Int) + (P : Int)) = ((r + P : Nat) : Int) := by rw [wrap64 (by omega) (by omega)]; omega
  have wt2 : IntKind.u64.wrap ((r + P : Nat) : Int) = ((r + P : Nat) : Int) := q0L (by omega)
  have hmul : (r + P) * (r + P) ≤ 4294967295 * 4294967295 := Nat.mul_le_mul (by omega) (by omega)
  have wm : IntKind.u64.wrap (((r + P : Nat) : Int) * ((r + P : Nat) : Int)) = (((r + P) * (r + P) : Nat) : Int) := by rw [← Int.natCast_mul]; exact q0L (by omega)
  have wn : IntKind.u64.wrap (n : Int) = (n : Int) := q0L (by omega)
  have wb : IntKind.i64.wrap ((r + P : Nat) : Int) = ((r + P : Nat) : Int) := wrap64 (by omega) (by omega)
  simp only
  rw [ek]
  refine go 800 rfl ?_
  rw [wk]
  refine q9s 1 k rfl rfl rfl rfl (by show k ≤ 64; omega) (by rw [hP, Nat.one_mul]; exact wrap64 (by omega) (by omega)) ?_
  rw [hP, Nat.one_mul]
  refine go 800 rfl ?_
  rw [wt, wt2, wm, wn]
  refine q02 rfl (fun g2 => ?_) (fun g2 => ?_)
  ·rw [q1k] at g2
   rw [if_pos (by omega)] at hinv
   refine go 800 rfl ?_
   rw [wb]
   refine q05 ?_
   exact hN (k, r + P) ⟨by simp only; omega, by simp only; rw [hP]; omega, hinv⟩ (by simp only; omega) (q03 rfl trivial (by simp [q01, wk1]))
  ·rw [q1f] at g2
   rw [if_neg (by omega)] at hinv
   refine go 800 rfl ?_
   refine q05 ?_
   exact hN (k, r) ⟨by simp only; omega, by simp only; rw [hP]; omega, hinv⟩ (by simp only; omega) (q03 rfl trivial (by simp [q01, wk1]))
 rw [q1f] at g
 simp only at g
 obtain rfl : j = 0 := by omega
 refine go 800 rfl ?_
 refine q05 ?_
 refine go 800 rfl ?_
 refine q0c rfl rfl rfl trivial ?_
 rw [← hinv]; rfl
theorem q50 (a b : Spot) (ha : q0v a 1048576 = true) (hb : q0v b 1048576 = true) : PU q5B [a.enc, b.enc] = some (.int .i64 (q36 a b)) := by
 refine q0f (fn := qa5) rfl (q0a ?_)
 have h := qnZ ha hb
 have hse := q75 a b
 rw [q1x] at ha hb
 have bx : Bd (b.x - a.x) 2097152 := ⟨by omega⟩
 have by' : Bd (b.y - a.y) 2097152 := ⟨by omega⟩
 have c1 : IntKind.i64.wrap (b.x - a.x) = b.x - a.x := q0C (by decide)
 have c2 : IntKind.i64.wrap (b.y - a.y) = b.y - a.y := q0C (by decide)
 refine go 800 rfl ?_
 rw [c1, c2]
 have c4 : IntKind.i64.wrap ((b.x - a.x) * (b.x - a.x)) = (b.x - a.x) * (b.x - a.x) := q0C (by decide)
 have c5 : IntKind.i64.wrap ((b.y - a.y) * (b.y - a.y)) = (b.y - a.y) * (b.y - a.y) := q0C (by decide)
 have c6 : IntKind.i64.wrap ((b.x - a.x) * (b.x - a.x) + (b.y - a.y) * (b.y - a.y)) = (sqd a b : Int) := by rw [hse]; exact q0C (by decide)
 have c7 : IntKind.i64.wrap (1000000 * (sqd a b : Int)) = ((1000000 * sqd a b : Nat) : Int) := by rw [wrap64 (by omega) (by omega)]; omega
 rw [c4, c5, c6, c7]
 refine q00 rfl rfl (qpR (1000000 * sqd a b) (by omega)) ?_
 refine go 800 rfl ?_
 exact q0c rfl rfl rfl trivial rfl
end Go.F

namespace Go.F
attribute [local irreducible] IntKind.wrap wpM
theorem qo0 (p : List Spot) (h : q1v p = 0) : PU qiq [q0g p] = some (.int .i64 (q0A p (p.length - 1))) := by
 obtain ⟨n2, n40, _⟩ := q1T h
 have hin : ∀ i, i < p.length → q0v (pt p i) 1048576 = true := fun i hi => q3J h hi
 refine q0f (fn := qd2) rfl (q0a ?_)
 refine go 800 rfl ?_
 refine q0p (S := fun k : Nat => ([q0g p, q01 (q0A p k), q01 (k + 1 : Nat)], [none, none, none], [0, 0, 0])) (C := fun k => k ≤ p.length - 1) (m := fun k => p.length - k) 0 (Nat.zero_le _) (by omega) ?_ ?_
 ·exact q03 rfl trivial (by simp [q0g, q01, q0A])
 intro k hk N hN
 refine go 800 rfl ?_
 rw [List.length_map]
 refine q02 rfl (fun g1 => ?_) (fun g1 => ?_)
 ·rw [q06] at g1
  have hlt : k + 1 < p.length := by omega
  have w0 : IntKind.i64.wrap (((k + 1 : Nat) : Int) - 1) = (k : Int) := by rw [wrap64 (by omega) (by omega)]; omega
  have w1 : IntKind.i64.wrap ((k : Int) + 1 + 1) = (k : Int) + 1 + 1 := wrap64 (by omega) (by omega)
  have hin1 := hin k (by omega)
  have hin2 := hin (k + 1) hlt
  have hsl' := qc0 hin1 hin2
  have hle := qe8 hin k (by omega)
  have w2 : IntKind.i64.wrap ((q0A p k : Int) + (q36 (pt p k) (pt p (k + 1)) : Int)) = (q0A p (k + 1) : Int) := by rw [wrap64 (by omega) (by omega)]; rfl
  refine go 800 rfl ?_
  refine q0i k rfl rfl w0 (q0D (by omega)) rfl ?_
  refine go 800 rfl ?_
  refine q0i (k + 1) rfl rfl rfl (q0D hlt) rfl ?_
  refine go 800 rfl ?_
  refine q00 rfl rfl (q50 (pt p k) (pt p (k + 1)) hin1 hin2) ?_
  refine go 800 rfl ?_
  rw [w2]
  refine q05 ?_
  exact hN (k + 1) (by omega) (by omega) (q03 rfl trivial (by simp [q0g, q01, w1]))
 rw [q07] at g1
 obtain rfl : k = p.length - 1 := by omega
 refine go 800 rfl ?_
 refine q05 ?_
 refine go 800 rfl ?_
 exact q0c rfl rfl rfl trivial rfl
theorem qf6 (a b : Int) (h0 : 0 ≤ a) (ha : a ≤ 1152921504606846976) (hb : 0 < b) (hb' : b ≤ 1152921504606846976) : PU q7T [.int .i64 a, .int .i64 b] = some (.int .i64 (q1D a b)) := by
 refine q0f (fn := q9y) rfl (q0a ?_)
 refine go 800 rfl ?_
 have w1 : IntKind.i64.wrap (2 * a) = 2 * a := wrap64 (by omega) (by omega)
 have w2 : IntKind.i64.wrap (2 * a + b) = 2 * a + b := wrap64 (by omega) (by omega)
 have w3 : IntKind.i64.wrap (2 * b) = 2 * b := wrap64 (by omega) (by omega)
 refine q02 rfl (fun h => ?_) (fun h => ?_)
 ·rw [q06] at h; omega
 refine go 800 rfl ?_
 refine qlj rfl rfl (by rw [w3]; omega) ?_
 refine go 800 rfl ?_
 refine q0c rfl rfl rfl trivial ?_
 have hd : (2 * a + b).tdiv (2 * b) = (2 * a + b) / (2 * b) := Int.tdiv_eq_ediv_of_nonneg (by omega)
 have hq : (2 * a + b) / (2 * b) ≤ 2 * a + b := Int.ediv_le_self _ (by omega)
 have hq0 : 0 ≤ (2 * a + b) / (2 * b) := Int.ediv_nonneg (by omega) (by omega)
 rw [w1, w2, w3, hd, wrap64 (by omega) (by omega), q1D, if_neg (by omega)]
theorem q8y (a b : Int) (ha0 : -1152921504606846976 ≤ a) (ha : a ≤ 1152921504606846976) (hb : 0 < b) (hb' : b ≤ 1152921504606846976) : PU q7T [.int .i64 a, .int .i64 b] = some (.int .i64 (q1D a b)) := by
 by_cases h0 : 0 ≤ a
 ·exact qf6 a b h0 ha hb hb'
 refine q0f (fn := q9y) rfl (q0a ?_)
 refine go 800 rfl ?_
 refine q02 rfl (fun h => ?_) (fun h => ?_)
 ·refine go 800 rfl ?_
  have w1 : IntKind.i64.wrap (0 - a) = -a := by rw [wrap64 (by omega) (by omega)]; omega
  rw [w1]
  refine q00 rfl rfl (qf6 (-a) b (by omega) (by omega) hb hb') ?_
  refine go 800 rfl ?_
  refine q0c rfl rfl rfl trivial ?_
  have hq : (2 * (-a) + b) / (2 * b) ≤ 2 * (-a) + b := Int.ediv_le_self _ (by omega)
  have hq0 : 0 ≤ (2 * (-a) + b) / (2 * b) := Int.ediv_nonneg (by omega) (by omega)
  rw [q1D, if_neg (by omega), q1D, if_pos (by omega), wrap64 (by omega) (by omega)]
  simp
 ·rw [q07] at h; omega
set_option maxHeartbeats 4000000 in
theorem qlU (p : List Spot) (s : Int) (h : q1v p = 0) (h0 : 0 ≤ s) {i0 : Nat} (hf : qkZ p s = some i0) : PU qgx [q0g p, .int .i64 s] = some (.tup [q01 i0, (atL p i0 s).enc]) := by
 obtain ⟨n2, n40, _⟩ := q1T h
 have hin : ∀ i, i < p.length → q0v (pt p i) 1048576 = true := fun i hi => q3J h hi
 have hff := hf
 unfold qkZ at hff
 rw [List.find?_range_eq_some] at hff
 obtain ⟨f1, f2, f3⟩ := hff
 have f1 : s ≤ (q0A p (i0 + 1) : Int) := of_decide_eq_true f1
 have f2 := List.mem_range.1 f2
 have f3 : ∀ j, j < i0 → (q0A p (j + 1) : Int) < s := fun j hj => by
  have := f3 j hj
  simp at this; omega
 refine q0f (fn := qbo) rfl (q0a ?_)
 refine go 800 rfl ?_
 refine q0p (S := fun k : Nat => ([q0g p, .int .i64 s, .ptr 2 0 0, q01 (k + 1 : Nat), q01 (q0A p k)], [none, none, some (.row [Spot.enc ⟨0, 0⟩] 2), none, none], [0, 0, 0, 0, 0])) (C := fun k => k ≤ i0) (m := fun k => p.length - k) 0 (Nat.zero_le _) (by omega) ?_ ?_
 ·exact q03 rfl ⟨rfl, trivial⟩ (by simp [q0g, q01, q0A, Spot.enc])
 intro k hk N hN
 have hlt : k + 1 < p.length := by omega
 have w0 : IntKind.i64.wrap (((k + 1 : Nat) : Int) - 1) = (k : Int) := by rw [wrap64 (by omega) (by omega)]; omega
 have w1 : IntKind.i64.wrap (((k + 1 : Nat) : Int) + 1) = ((k + 1 + 1 : Nat) : Int) := wrap64 (by omega) (by omega)
 have w1' : IntKind.i64.wrap ((k : Int) + 1 + 1) = (k : Int) + 1 + 1 := wrap64 (by omega) (by omega)
 have hin1 := hin k (by omega)
 have hin2 := hin (k + 1) hlt
 have hsl' := qc0 hin1 hin2
 have hle := qe8 hin k (by omega)
 have hle1 : q0A p (k + 1) = q0A p k + q36 (pt p k) (pt p (k + 1)) := rfl
 have w2 : IntKind.i64.wrap ((q0A p k : Int) + (q36 (pt p k) (pt p (k + 1)) : Int)) = (q0A p (k + 1) : Int) := by rw [wrap64 (by omega) (by omega)]; omega
 have hlow : (q0A p k : Int) ≤ s := by
  cases k with
  | zero => simpa [q0A] using h0
  | succ j => have := f3 j (by omega); omega
 refine go 800 rfl ?_
 rw [w1, List.length_map]
 refine q09 rfl (fun g1 => ?_) (fun g1 => ?_)
 ·rw [q06] at g1
  refine go 800 rfl ?_
  refine q0i k rfl rfl w0 (q0D (by omega)) rfl ?_
  refine go 800 rfl ?_
  refine q0i (k + 1) rfl rfl rfl (q0D hlt) rfl ?_
  refine go 800 rfl ?_
  refine q00 rfl rfl (q50 (pt p k) (pt p (k + 1)) hin1 hin2) ?_
  refine go 800 rfl ?_
  rw [w2]
  refine q02 rfl (fun g2 => ?_) (fun g2 => ?_)
  ·rw [q06] at g2
   have hki : k < i0 := by
    rcases Nat.lt_or_ge k i0 with g | g
    ·exact g
    ·obtain rfl : k = i0 := by omega
     omega
   refine go 800 rfl ?_
   refine q0i k rfl rfl w0 (q0D (by omega)) rfl ?_
   refine go 800 rfl ?_
   refine q0i (k + 1) rfl rfl rfl (q0D hlt) rfl ?_
   refine go 800 rfl ?_
   refine q00 rfl rfl (q50 (pt p k) (pt p (k + 1)) hin1 hin2) ?_
   refine go 800 rfl ?_
   rw [w2]
   refine q05 ?_
   exact hN (k + 1) hki (by omega) (q03 rfl ⟨rfl, trivial⟩ (by simp [q0g, q01, w1', Spot.enc]))
  ·rw [q07] at g2
   have hki : k = i0 := by
    rcases Nat.lt_or_ge k i0 with g | g
    ·have := f3 k g; omega
    ·omega
   subst hki
   clear hN
   refine go 800 rfl ?_
   refine q05 ?_
   have hin1 := hin k (by omega)
   have hin2 := hin (k + 1) (by omega)
   have hsp := qb2 hin1 hin2 (q9W h (by omega))
   have hsl' := qc0 hin1 hin2
   have hle1 : q0A p (k + 1) = q0A p k + q36 (pt p k) (pt p (k + 1)) := rfl
   have hsl : s - (q0A p k : Int) ≤ 4294967296 ∧ 0 ≤ s - (q0A p k : Int) := by omega
   have hq : (s - (q0A p k : Int)).natAbs ≤ 4294967296 := by
    have e := hsl
    omega
   have bq : Bd (s - (q0A p k : Int)) 4294967296 := ⟨hq⟩
   have hin1' := hin1
   have hin2' := hin2
   rw [q1x] at hin1' hin2'
   have bdx : Bd ((pt p (k + 1)).x - (pt p k).x) 2097152 := ⟨by omega⟩
   have bdy : Bd ((pt p (k + 1)).y - (pt p k).y) 2097152 := ⟨by omega⟩
   have m1 : Bd ((s - (q0A p k : Int)) * ((pt p (k + 1)).x - (pt p k).x)) _ := inferInstance
   have m2 : Bd ((s - (q0A p k : Int)) * ((pt p (k + 1)).y - (pt p k).y)) _ := inferInstance
   have l1 := m1.le
   have l2 := m2.le
   have d1 : IntKind.i64.wrap (s - (q0A p k : Int)) = s - (q0A p k : Int) := q0C (by decide)
   have d2 : IntKind.i64.wrap ((pt p (k + 1)).x - (pt p k).x) = (pt p (k + 1)).x - (pt p k).x := q0C (by decide)
   have d3 : IntKind.i64.wrap ((pt p (k + 1)).y - (pt p k).y) = (pt p (k + 1)).y - (pt p k).y := q0C (by decide)
   have d4 : IntKind.i64.wrap ((s - (q0A p k : Int)) * ((pt p (k + 1)).x - (pt p k).x)) = (s - (q0A p k : Int)) * ((pt p (k + 1)).x - (pt p k).x) := q0C (by decide)
   have d5 : IntKind.i64.wrap ((s - (q0A p k : Int)) * ((pt p (k + 1)).y - (pt p k).y)) = (s - (q0A p k : Int)) * ((pt p (k + 1)).y - (pt p k).y) := q0C (by decide)
   have r1 := q7B (a := (s - (q0A p k : Int)) * ((pt p (k + 1)).x - (pt p k).x)) (b := (q36 (pt p k) (pt p (k + 1)) : Int)) (m := 4294967296 * 2097152) (by omega) (by omega) (by omega)
   have r2 := q7B (a := (s - (q0A p k : Int)) * ((pt p (k + 1)).y - (pt p k).y)) (b := (q36 (pt p k) (pt p (k + 1)) : Int)) (m := 4294967296 * 2097152) (by omega) (by omega) (by omega)
   have q1 := q8y ((s - (q0A p k : Int)) * ((pt p (k + 1)).x - (pt p k).x)) (q36 (pt p k) (pt p (k + 1)) : Int) (by omega) (by omega) (by omega) (by omega)
   have q2 := q8y ((s - (q0A p k : Int)) * ((pt p (k + 1)).y - (pt p k).y)) (q36 (pt p k) (pt p (k + 1)) : Int) (by omega) (by omega) (by omega) (by omega)
   have d6 : IntKind.i64.wrap ((pt p k).x + q1D ((s - (q0A p k : Int)) * ((pt p (k + 1)).x - (pt p k).x)) (q36 (pt p k) (pt p (k + 1)) : Int)) = (pt p k).x + q1D ((s - (q0A p k : Int)) * ((pt p (k + 1)).x - (pt p k).x)) (q36 (pt p k) (pt p (k + 1)) : Int) := wrap64 (by omega) (by omega)
   have d7 : IntKind.i64.wrap ((pt p k).y + q1D ((s - (q0A p k : Int)) * ((pt p (k + 1)).y - (pt p k).y)) (q36 (pt p k) (pt p (k + 1)) : Int)) = (pt p k).y + q1D ((s - (q0A p k : Int)) * ((pt p (k + 1)).y - (pt p k).y)) (q36 (pt p k) (pt p (k + 1)) : Int) := wrap64 (by omega) (by omega)
   refine go 800 rfl ?_
   refine q0i k rfl rfl w0 (q0D (by omega)) rfl ?_
   refine go 800 rfl ?_
   refine q0i (k + 1) rfl rfl rfl (q0D (by omega)) rfl ?_
   refine go 800 rfl ?_
   refine q0i k rfl rfl w0 (q0D (by omega)) rfl ?_
   refine go 800 rfl ?_
   refine q0i (k + 1) rfl rfl rfl (q0D (by omega)) rfl ?_
   refine go 800 rfl ?_
   refine q00 rfl rfl (q50 (pt p k) (pt p (k + 1)) hin1 hin2) ?_
   refine go 800 rfl ?_
   rw [d1, d2, d4]
   refine q00 rfl rfl q1 ?_
   refine go 800 rfl ?_
   rw [d1, d3, d5]
   refine q00 rfl rfl q2 ?_
   refine go 800 rfl ?_
   rw [d6, d7, w0]
   refine q0c rfl rfl rfl trivial ?_
   rfl
 ·rw [q07] at g1
  have hki : k = i0 := by omega
  subst hki
  clear hN
  refine go 800 rfl ?_
  refine q0n rfl ?_
  refine go 800 rfl ?_
  refine q05 ?_
  have hin1 := hin k (by omega)
  have hin2 := hin (k + 1) (by omega)
  have hsp := qb2 hin1 hin2 (q9W h (by omega))
  have hsl' := qc0 hin1 hin2
  have hle1 : q0A p (k + 1) = q0A p k + q36 (pt p k) (pt p (k + 1)) := rfl
  have hsl : s - (q0A p k : Int) ≤ 4294967296 ∧ 0 ≤ s - (q0A p k : Int) := by omega
  have hq : (s - (q0A p k : Int)).natAbs ≤ 4294967296 := by
   have e := hsl
   omega
  have bq : Bd (s - (q0A p k : Int)) 4294967296 := ⟨hq⟩
  have hin1' := hin1
  have hin2' := hin2
  rw [q1x] at hin1' hin2'
  have bdx : Bd ((pt p (k + 1)).x - (pt p k).x) 2097152 := ⟨by omega⟩
  have bdy : Bd ((pt p (k + 1)).y - (pt p k).y) 2097152 := ⟨by omega⟩
  have m1 : Bd ((s - (q0A p k : Int)) * ((pt p (k + 1)).x - (pt p k).x)) _ := inferInstance
  have m2 : Bd ((s - (q0A p k : Int)) * ((pt p (k + 1)).y - (pt p k).y)) _ := inferInstance
  have l1 := m1.le
  have l2 := m2.le
  have d1 : IntKind.i64.wrap (s - (q0A p k : Int)) = s - (q0A p k : Int) := q0C (by decide)
  have d2 : IntKind.i64.wrap ((pt p (k + 1)).x - (pt p k).x) = (pt p (k + 1)).x - (pt p k).x := q0C (by decide)
  have d3 : IntKind.i64.wrap ((pt p (k + 1)).y - (pt p k).y) = (pt p (k + 1)).y - (pt p k).y := q0C (by decide)
  have d4 : IntKind.i64.wrap ((s - (q0A p k : Int)) * ((pt p (k + 1)).x - (pt p k).x)) = (s - (q0A p k : Int)) * ((pt p (k + 1)).x - (pt p k).x) := q0C (by decide)
  have d5 : IntKind.i64.wrap ((s - (q0A p k : Int)) * ((pt p (k + 1)).y - (pt p k).y)) = (s - (q0A p k : Int)) * ((pt p (k + 1)).y - (pt p k).y) := q0C (by decide)
  have r1 := q7B (a := (s - (q0A p k : Int)) * ((pt p (k + 1)).x - (pt p k).x)) (b := (q36 (pt p k) (pt p (k + 1)) : Int)) (m := 4294967296 * 2097152) (by omega) (by omega) (by omega)
  have r2 := q7B (a := (s - (q0A p k : Int)) * ((pt p (k + 1)).y - (pt p k).y)) (b := (q36 (pt p k) (pt p (k + 1)) : Int)) (m := 4294967296 * 2097152) (by omega) (by omega) (by omega)
  have q1 := q8y ((s - (q0A p k : Int)) * ((pt p (k + 1)).x - (pt p k).x)) (q36 (pt p k) (pt p (k + 1)) : Int) (by omega) (by omega) (by omega) (by omega)
  have q2 := q8y ((s - (q0A p k : Int)) * ((pt p (k + 1)).y - (pt p k).y)) (q36 (pt p k) (pt p (k + 1)) : Int) (by omega) (by omega) (by omega) (by omega)
  have d6 : IntKind.i64.wrap ((pt p k).x + q1D ((s - (q0A p k : Int)) * ((pt p (k + 1)).x - (pt p k).x)) (q36 (pt p k) (pt p (k + 1)) : Int)) = (pt p k).x + q1D ((s - (q0A p k : Int)) * ((pt p (k + 1)).x - (pt p k).x)) (q36 (pt p k) (pt p (k + 1)) : Int) := wrap64 (by omega) (by omega)
  have d7 : IntKind.i64.wrap ((pt p k).y + q1D ((s - (q0A p k : Int)) * ((pt p (k + 1)).y - (pt p k).y)) (q36 (pt p k) (pt p (k + 1)) : Int)) = (pt p k).y + q1D ((s - (q0A p k : Int)) * ((pt p (k + 1)).y - (pt p k).y)) (q36 (pt p k) (pt p (k + 1)) : Int) := wrap64 (by omega) (by omega)
  refine go 800 rfl ?_
  refine q0i k rfl rfl w0 (q0D (by omega)) rfl ?_
  refine go 800 rfl ?_
  refine q0i (k + 1) rfl rfl rfl (q0D (by omega)) rfl ?_
  refine go 800 rfl ?_
  refine q0i k rfl rfl w0 (q0D (by omega)) rfl ?_
  refine go 800 rfl ?_
  refine q0i (k + 1) rfl rfl rfl (q0D (by omega)) rfl ?_
  refine go 800 rfl ?_
  refine q00 rfl rfl (q50 (pt p k) (pt p (k + 1)) hin1 hin2) ?_
  refine go 800 rfl ?_
  rw [d1, d2, d4]
  refine q00 rfl rfl q1 ?_
  refine go 800 rfl ?_
  rw [d1, d3, d5]
  refine q00 rfl rfl q2 ?_
  refine go 800 rfl ?_
  rw [d6, d7, w0]
  refine q0c rfl rfl rfl trivial ?_
  rfl
theorem qo1 (p : List Spot) (s : Int) : PU qin [q0g p, .int .i64 s] = some (qpQ (q6U p s)) := by
 refine q0f (fn := qcT) rfl (q0a ?_)
 refine go 800 rfl ?_
 refine q00 rfl rfl (qgW p) ?_
 refine go 800 rfl ?_
 refine q02 rfl (fun h => ?_) (fun h => ?_)
 ·rw [q0O] at h
  refine go 800 rfl ?_
  refine q0c rfl rfl rfl trivial ?_
  rw [q6U, qlT, if_neg h]; rfl
 rw [q0S] at h
 obtain ⟨n2, n40, _⟩ := q1T h
 rw [q6U, qlT, if_pos h]
 refine go 800 rfl ?_
 refine q09 rfl (fun h1 => ?_) (fun h1 => ?_)
 ·rw [q06] at h1
  refine go 800 rfl ?_
  refine q0m rfl ?_
  refine go 800 rfl ?_
  refine q0c rfl rfl rfl trivial ?_
  rw [if_pos h1]; rfl
 rw [q07] at h1
 rw [if_neg (by omega)]
 refine go 800 rfl ?_
 refine q00 rfl rfl (qo0 p h) ?_
 refine go 800 rfl ?_
 refine q02 rfl (fun h2 => ?_) (fun h2 => ?_)
 ·rw [q06] at h2
  refine go 800 rfl ?_
  refine q0c rfl rfl rfl trivial ?_
  rw [qfS (fun i hi => by have := qfQ p (show i + 1 ≤ p.length - 1 by omega); omega)]; rfl
 rw [q07] at h2
 cases hf : qkZ p s with
 | none =>
   unfold qkZ at hf
   rw [List.find?_eq_none] at hf
   have := hf (p.length - 2) (List.mem_range.2 (by omega))
   rw [show p.length - 2 + 1 = p.length - 1 by omega, decide_eq_true_eq] at this
   exact absurd h2 this
 | some i0 =>
   refine go 800 rfl ?_
   refine q00 rfl rfl (qlU p s h h1 hf) ?_
   refine go 800 rfl ?_
   exact q0c rfl rfl rfl trivial rfl
theorem qlV (l : List Edge) (e a : Int) : PU qgs [q0s l, .agg [.int .i64 e, .int .i64 a]] = some (qpQ (qeT l e a)) := by
 refine q0f (fn := qbg) rfl (q0a ?_)
 refine go 800 rfl ?_
 refine q00 rfl rfl (q6W l) ?_
 refine go 800 rfl ?_
 refine q02 rfl (fun h => ?_) (fun h => ?_)
 ·rw [q0O] at h
  refine go 800 rfl ?_
  refine q0c rfl rfl rfl trivial ?_
  rw [qeT, if_neg h]; rfl
 rw [q0S] at h
 rw [qeT, if_pos h]
 refine go 800 rfl ?_
 refine q09 rfl (fun h1 => ?_) (fun h1 => ?_)
 ·rw [q06] at h1
  refine go 800 rfl ?_
  refine q0m rfl ?_
  refine go 800 rfl ?_
  refine q0c rfl rfl rfl trivial ?_
  rw [if_neg (by omega)]; rfl
 rw [q07] at h1
 refine go 800 rfl ?_
 rw [List.length_map]
 refine q02 rfl (fun h2 => ?_) (fun h2 => ?_)
 ·rw [q1k] at h2
  refine go 800 rfl ?_
  refine q0c rfl rfl rfl trivial ?_
  rw [if_neg (by omega)]; rfl
 rw [q1f] at h2
 rw [if_pos (by omega)]
 refine go 800 rfl ?_
 refine q0i e.toNat rfl rfl (by omega) (q15 (by omega)) rfl ?_
 refine go 800 rfl ?_
 refine q00 rfl rfl (qo1 (eg l e.toNat).line a) ?_
 refine go 800 rfl ?_
 exact q0c rfl rfl rfl trivial rfl
end Go.F

namespace Go.F
attribute [local irreducible] IntKind.wrap wpM
end Go.F
