/- Parts of the proof, part 42: Geo1, Geo2, Stop3, Nat1, Nat2, Nat3, Nat4, Nat5, Nat6, Nat7, Nat8, Nat9, Nat10, Nat11, Nat12, RN1, RN2. -/
import Derived.Test.YtjjkgfikkihokaaGreatZ40
set_option linter.all false
namespace Go.F
attribute [local irreducible] IntKind.wrap wpM
def q0U (a b c : Spot) : Int := (b.x - a.x) * (c.y - a.y) - (b.y - a.y) * (c.x - a.x)
theorem qed (a b c : Spot) [OkS a] [OkS b] [OkS c] : PU q1m [a.enc, b.enc, c.enc] = some (.int .i64 (q0U a b c)) := by
 refine q0i (fn := q5A) rfl (q0a ?_)
 repeat' (first
  | (refine goP 800 rfl rfl ?_)
  | (show wpM _ _ _ (Fr.ops _ _ (KOper.mk _ _ (some _) _ _ :: _) :: _) Ex.normal _ _ _ _ _; first | refine q0q rfl ?_ | refine q0s rfl ?_ | refine q0g rfl (fun _ => ?_) (fun _ => ?_))
  | (show wpM _ _ _ (Fr.code (K.cond _ _ _) :: _) Ex.normal _ _ _ _ _; first | refine q0r rfl ?_ | refine q0o rfl ?_ | refine q02 rfl (fun _ => ?_) (fun _ => ?_))
  | (show wpM _ _ _ (Fr.ops _ _ (KOper.mk _ _ none _ (KOp.pick _ _ _) :: _) :: _) Ex.normal _ _ _ _ _; refine q0F rfl (fun _ => ?_) (fun _ => ?_))
  | (show wpM _ _ _ [] _ _ _ _ _ _; refine q0c rfl rfl rfl trivial ?_))
 simp [q0M, q0U]
theorem qbi (a b c : Spot) [OkS a] [OkS b] [OkS c] : PU q2n [a.enc, b.enc, c.enc] = some (.int .i64 (q0U a b c)) := by
 refine q0i (fn := q9y) rfl (q0a ?_)
 repeat' (first
  | (refine goP 800 rfl rfl ?_)
  | (show wpM _ _ _ (Fr.ops _ _ (KOper.mk _ _ (some _) _ _ :: _) :: _) Ex.normal _ _ _ _ _; first | refine q0q rfl ?_ | refine q0s rfl ?_ | refine q0g rfl (fun _ => ?_) (fun _ => ?_))
  | (show wpM _ _ _ (Fr.code (K.cond _ _ _) :: _) Ex.normal _ _ _ _ _; first | refine q0r rfl ?_ | refine q0o rfl ?_ | refine q02 rfl (fun _ => ?_) (fun _ => ?_))
  | (show wpM _ _ _ (Fr.ops _ _ (KOper.mk _ _ none _ (KOp.pick _ _ _) :: _) :: _) Ex.normal _ _ _ _ _; refine q0F rfl (fun _ => ?_) (fun _ => ?_))
  | (show wpM _ _ _ [] _ _ _ _ _ _; refine q0c rfl rfl rfl trivial ?_))
 simp [q0M, q0U]
def onS (a b p : Spot) : Bool := decide (q0U a b p = 0) && (decide (min a.x b.x ≤ p.x) && (decide (p.x ≤ max a.x b.x) && (decide (min a.y b.y ≤ p.y) && decide (p.y ≤ max a.y b.y))))
theorem on_PU (a b p : Spot) [OkS a] [OkS b] [OkS p] : PU q3d [a.enc, b.enc, p.enc] = some (.bool (onS a b p)) := by
 refine q0i (fn := q7X) rfl (q0a ?_)
 repeat' (first
  | (refine goP 800 rfl rfl ?_)
  | (show wpM _ _ _ (Fr.ops _ _ (KOper.mk _ _ (some _) _ _ :: _) :: _) Ex.normal _ _ _ _ _; first | refine q0q rfl ?_ | refine q0s rfl ?_ | refine q0g rfl (fun _ => ?_) (fun _ => ?_))
  | (show wpM _ _ _ (Fr.code (K.cond _ _ _) :: _) Ex.normal _ _ _ _ _; first | refine q0r rfl ?_ | refine q0o rfl ?_ | refine q02 rfl (fun _ => ?_) (fun _ => ?_))
  | (show wpM _ _ _ (Fr.ops _ _ (KOper.mk _ _ none _ (KOp.pick _ _ _) :: _) :: _) Ex.normal _ _ _ _ _; refine q0F rfl (fun _ => ?_) (fun _ => ?_))
  | (show wpM _ _ _ [] _ _ _ _ _ _; refine q0c rfl rfl rfl trivial ?_)
  | (show wpM _ _ _ (Fr.ops _ _ (KOper.mk _ _ none _ (KOp.callF q1m _) :: _) :: _) Ex.normal _ _ _ _ _; refine q00 rfl rfl (qed _ _ _) ?_))
 all_goals ((try simp only [q1N, q1T, q2O, q3p, decide_eq_true_eq, decide_eq_false_iff_not, Bool.not_eq_true, Bool.not_eq_false, Int.not_lt, Int.not_le] at *); first | (simp_all [onS]; done) | (simp_all [onS]; omega) | (rw [D.bool.injEq, Bool.eq_iff_iff]; simp [onS]; omega) | (rw [D.bool.injEq, Bool.eq_iff_iff]; simp_all [onS]; omega) | (simp [onS]; split <;> (try split) <;> omega))
theorem q6k (a b p : Spot) [OkS a] [OkS b] [OkS p] : PU q1K [a.enc, b.enc, p.enc] = some (.bool (onS a b p)) := by
 refine q0i (fn := q6V) rfl (q0a ?_)
 repeat' (first
  | (refine goP 800 rfl rfl ?_)
  | (show wpM _ _ _ (Fr.ops _ _ (KOper.mk _ _ (some _) _ _ :: _) :: _) Ex.normal _ _ _ _ _; first | refine q0q rfl ?_ | refine q0s rfl ?_ | refine q0g rfl (fun _ => ?_) (fun _ => ?_))
  | (show wpM _ _ _ (Fr.code (K.cond _ _ _) :: _) Ex.normal _ _ _ _ _; first | refine q0r rfl ?_ | refine q0o rfl ?_ | refine q02 rfl (fun _ => ?_) (fun _ => ?_))
  | (show wpM _ _ _ (Fr.ops _ _ (KOper.mk _ _ none _ (KOp.pick _ _ _) :: _) :: _) Ex.normal _ _ _ _ _; refine q0F rfl (fun _ => ?_) (fun _ => ?_))
  | (show wpM _ _ _ [] _ _ _ _ _ _; refine q0c rfl rfl rfl trivial ?_)
  | (show wpM _ _ _ (Fr.ops _ _ (KOper.mk _ _ none _ (KOp.callF q2n _) :: _) :: _) Ex.normal _ _ _ _ _; refine q00 rfl rfl (qbi _ _ _) ?_))
 all_goals ((try simp only [q1N, q1T, q2O, q3p, decide_eq_true_eq, decide_eq_false_iff_not, Bool.not_eq_true, Bool.not_eq_false, Int.not_lt, Int.not_le] at *); first | (simp_all [onS]; done) | (simp_all [onS]; omega) | (rw [D.bool.injEq, Bool.eq_iff_iff]; simp [onS]; omega) | (rw [D.bool.injEq, Bool.eq_iff_iff]; simp_all [onS]; omega) | (simp [onS]; split <;> (try split) <;> omega))
def sgn (n : Int) : Int := if n < 0 then -1 else if 0 < n then 1 else 0
theorem qjA (n : Int) : Bd (sgn n) 1 := ⟨by unfold sgn; split <;> (try split) <;> decide⟩
instance (n : Int) : Bd (sgn n) 1 := qjA n
theorem qmX (n : Int) : PU q3J [.int .i64 n] = some (.bool false) := by
 refine q0i (fn := q5B) rfl (q0a ?_)
 repeat' (first
  | (refine goP 800 rfl rfl ?_)
  | (show wpM _ _ _ (Fr.ops _ _ (KOper.mk _ _ (some _) _ _ :: _) :: _) Ex.normal _ _ _ _ _; first | refine q0q rfl ?_ | refine q0s rfl ?_ | refine q0g rfl (fun _ => ?_) (fun _ => ?_))
  | (show wpM _ _ _ (Fr.code (K.cond _ _ _) :: _) Ex.normal _ _ _ _ _; first | refine q0r rfl ?_ | refine q0o rfl ?_ | refine q02 rfl (fun _ => ?_) (fun _ => ?_))
  | (show wpM _ _ _ (Fr.ops _ _ (KOper.mk _ _ none _ (KOp.pick _ _ _) :: _) :: _) Ex.normal _ _ _ _ _; refine q0F rfl (fun _ => ?_) (fun _ => ?_))
  | (show wpM _ _ _ [] _ _ _ _ _ _; refine q0c rfl rfl rfl trivial ?_))
 simp [nqb]
def q3w (a b : Int) : Int := if a < b then -1 else if b < a then 1 else 0
theorem cmp0 (a : Int) : q3w a 0 = sgn a := rfl
theorem qaM (a b : Int) : PU q1h [.int .i64 a, .int .i64 b] = some (.int .i64 (q3w a b)) := by
 refine q0i (fn := q4v) rfl (q0a ?_)
 repeat' (first
  | (refine goP 800 rfl rfl ?_)
  | (show wpM _ _ _ (Fr.ops _ _ (KOper.mk _ _ (some _) _ _ :: _) :: _) Ex.normal _ _ _ _ _; first | refine q0q rfl ?_ | refine q0s rfl ?_ | refine q0g rfl (fun _ => ?_) (fun _ => ?_))
  | (show wpM _ _ _ (Fr.code (K.cond _ _ _) :: _) Ex.normal _ _ _ _ _; first | refine q0r rfl ?_ | refine q0o rfl ?_ | refine q02 rfl (fun _ => ?_) (fun _ => ?_))
  | (show wpM _ _ _ (Fr.ops _ _ (KOper.mk _ _ none _ (KOp.pick _ _ _) :: _) :: _) Ex.normal _ _ _ _ _; refine q0F rfl (fun _ => ?_) (fun _ => ?_))
  | (show wpM _ _ _ [] _ _ _ _ _ _; refine q0c rfl rfl rfl trivial ?_)
  | (show wpM _ _ _ (Fr.ops _ _ (KOper.mk _ _ none _ (KOp.callF q3J _) :: _) :: _) Ex.normal _ _ _ _ _; refine q00 rfl rfl (qmX _) ?_))
 all_goals ((try simp only [q1N, q1T, q2O, q3p, decide_eq_true_eq, decide_eq_false_iff_not, Bool.not_eq_true, Bool.not_eq_false, Int.not_lt, Int.not_le] at *); first | (simp_all [q3w]; done) | (simp_all [q3w]; omega) | (rw [D.bool.injEq, Bool.eq_iff_iff]; simp [q3w]; omega) | (rw [D.bool.injEq, Bool.eq_iff_iff]; simp_all [q3w]; omega) | (simp [q3w]; split <;> (try split) <;> omega))
def q3K (a b c d : Spot) : Bool := decide (sgn (q0U a b c) * sgn (q0U a b d) < 0)
theorem qlv (a b c d : Spot) [OkS a] [OkS b] [OkS c] [OkS d] : PU q3e [a.enc, b.enc, c.enc, d.enc] = some (.bool (q3K a b c d)) := by
 refine q0i (fn := q4X) rfl (q0a ?_)
 repeat' (first
  | (refine goP 800 rfl rfl ?_)
  | (show wpM _ _ _ (Fr.ops _ _ (KOper.mk _ _ (some _) _ _ :: _) :: _) Ex.normal _ _ _ _ _; first | refine q0q rfl ?_ | refine q0s rfl ?_ | refine q0g rfl (fun _ => ?_) (fun _ => ?_))
  | (show wpM _ _ _ (Fr.code (K.cond _ _ _) :: _) Ex.normal _ _ _ _ _; first | refine q0r rfl ?_ | refine q0o rfl ?_ | refine q02 rfl (fun _ => ?_) (fun _ => ?_))
  | (show wpM _ _ _ (Fr.ops _ _ (KOper.mk _ _ none _ (KOp.pick _ _ _) :: _) :: _) Ex.normal _ _ _ _ _; refine q0F rfl (fun _ => ?_) (fun _ => ?_))
  | (show wpM _ _ _ [] _ _ _ _ _ _; refine q0c rfl rfl rfl trivial ?_)
  | (show wpM _ _ _ (Fr.ops _ _ (KOper.mk _ _ none _ (KOp.callF q1m _) :: _) :: _) Ex.normal _ _ _ _ _; refine q00 rfl rfl (qed _ _ _) ?_)
  | (show wpM _ _ _ (Fr.ops _ _ (KOper.mk _ _ none _ (KOp.callF q1h _) :: _) :: _) Ex.normal _ _ _ _ _; refine q00 rfl rfl (qaM _ _) ?_))
 simp [cmp0, q0M, q1N, q3K]
def q48 (a b c d : Spot) : Bool := onS a b c || (onS a b d || (onS c d a || (onS c d b || (q3K a b c d && q3K c d a b))))
theorem qob (a b c d : Spot) [OkS a] [OkS b] [OkS c] [OkS d] : PU q92 [a.enc, b.enc, c.enc, d.enc] = some (.bool (q48 a b c d)) := by
 refine q0i (fn := q6f) rfl (q0a ?_)
 repeat' (first
  | (refine goP 800 rfl rfl ?_)
  | (show wpM _ _ _ (Fr.ops _ _ (KOper.mk _ _ (some _) _ _ :: _) :: _) Ex.normal _ _ _ _ _; first | refine q0q rfl ?_ | refine q0s rfl ?_ | refine q0g rfl (fun _ => ?_) (fun _ => ?_))
  | (show wpM _ _ _ (Fr.code (K.cond _ _ _) :: _) Ex.normal _ _ _ _ _; first | refine q0r rfl ?_ | refine q0o rfl ?_ | refine q02 rfl (fun _ => ?_) (fun _ => ?_))
  | (show wpM _ _ _ (Fr.ops _ _ (KOper.mk _ _ none _ (KOp.pick _ _ _) :: _) :: _) Ex.normal _ _ _ _ _; refine q0F rfl (fun _ => ?_) (fun _ => ?_))
  | (show wpM _ _ _ [] _ _ _ _ _ _; refine q0c rfl rfl rfl trivial ?_)
  | (show wpM _ _ _ (Fr.ops _ _ (KOper.mk _ _ none _ (KOp.callF q3d _) :: _) :: _) Ex.normal _ _ _ _ _; refine q00 rfl rfl (on_PU _ _ _) ?_)
  | (show wpM _ _ _ (Fr.ops _ _ (KOper.mk _ _ none _ (KOp.callF q3e _) :: _) :: _) Ex.normal _ _ _ _ _; refine q00 rfl rfl (qlv _ _ _ _) ?_))
 all_goals simp_all [q48]
def q2D (a b c : Spot) : Bool := decide (q0U a b c = 0) && decide (0 < (a.x - b.x) * (c.x - b.x) + (a.y - b.y) * (c.y - b.y))
theorem qlw (a b c : Spot) [OkS a] [OkS b] [OkS c] : PU q7p [a.enc, b.enc, c.enc] = some (.bool (q2D a b c)) := by
 refine q0i (fn := q4W) rfl (q0a ?_)
 repeat' (first
  | (refine goP 800 rfl rfl ?_)
  | (show wpM _ _ _ (Fr.ops _ _ (KOper.mk _ _ (some _) _ _ :: _) :: _) Ex.normal _ _ _ _ _; first | refine q0q rfl ?_ | refine q0s rfl ?_ | refine q0g rfl (fun _ => ?_) (fun _ => ?_))
  | (show wpM _ _ _ (Fr.code (K.cond _ _ _) :: _) Ex.normal _ _ _ _ _; first | refine q0r rfl ?_ | refine q0o rfl ?_ | refine q02 rfl (fun _ => ?_) (fun _ => ?_))
  | (show wpM _ _ _ (Fr.ops _ _ (KOper.mk _ _ none _ (KOp.pick _ _ _) :: _) :: _) Ex.normal _ _ _ _ _; refine q0F rfl (fun _ => ?_) (fun _ => ?_))
  | (show wpM _ _ _ [] _ _ _ _ _ _; refine q0c rfl rfl rfl trivial ?_)
  | (show wpM _ _ _ (Fr.ops _ _ (KOper.mk _ _ none _ (KOp.callF q1m _) :: _) :: _) Ex.normal _ _ _ _ _; refine q00 rfl rfl (qed _ _ _) ?_))
 all_goals ((try simp only [q1N, q1T, q2O, q3p, decide_eq_true_eq, decide_eq_false_iff_not, Bool.not_eq_true, Bool.not_eq_false, Int.not_lt, Int.not_le] at *); first | (simp_all [q2D, q0M]; done) | (simp_all [q2D, q0M]; omega) | (rw [D.bool.injEq, Bool.eq_iff_iff]; simp [q2D, q0M]; omega) | (rw [D.bool.injEq, Bool.eq_iff_iff]; simp_all [q2D, q0M]; omega) | (simp [q2D, q0M]; split <;> (try split) <;> omega))
theorem qi2 (n : Int) : PU q4P [.int .i64 n] = some (.int .i64 (sgn n)) := by
 refine q0i (fn := qaH) rfl (q0a ?_)
 repeat' (first
  | (refine goP 800 rfl rfl ?_)
  | (show wpM _ _ _ (Fr.ops _ _ (KOper.mk _ _ (some _) _ _ :: _) :: _) Ex.normal _ _ _ _ _; first | refine q0q rfl ?_ | refine q0s rfl ?_ | refine q0g rfl (fun _ => ?_) (fun _ => ?_))
  | (show wpM _ _ _ (Fr.code (K.cond _ _ _) :: _) Ex.normal _ _ _ _ _; first | refine q0r rfl ?_ | refine q0o rfl ?_ | refine q02 rfl (fun _ => ?_) (fun _ => ?_))
  | (show wpM _ _ _ (Fr.ops _ _ (KOper.mk _ _ none _ (KOp.pick _ _ _) :: _) :: _) Ex.normal _ _ _ _ _; refine q0F rfl (fun _ => ?_) (fun _ => ?_))
  | (show wpM _ _ _ [] _ _ _ _ _ _; refine q0c rfl rfl rfl trivial ?_))
 all_goals ((try simp only [q1N, q1T, q2O, q3p, decide_eq_true_eq, decide_eq_false_iff_not, Bool.not_eq_true, Bool.not_eq_false, Int.not_lt, Int.not_le] at *); first | (simp_all [sgn]; done) | (simp_all [sgn]; omega) | (rw [D.bool.injEq, Bool.eq_iff_iff]; simp [sgn]; omega) | (rw [D.bool.injEq, Bool.eq_iff_iff]; simp_all [sgn]; omega) | (simp [sgn]; split <;> (try split) <;> omega))
theorem qi3 (a b c d : Spot) [OkS a] [OkS b] [OkS c] [OkS d] : PU qe4 [a.enc, b.enc, c.enc, d.enc] = some (.bool (q48 a b c d)) := by
 refine q0i (fn := qaC) rfl (q0a ?_)
 repeat' (first
  | (refine goP 800 rfl rfl ?_)
  | (show wpM _ _ _ (Fr.ops _ _ (KOper.mk _ _ (some _) _ _ :: _) :: _) Ex.normal _ _ _ _ _; first | refine q0q rfl ?_ | refine q0s rfl ?_ | refine q0g rfl (fun _ => ?_) (fun _ => ?_))
  | (show wpM _ _ _ (Fr.code (K.cond _ _ _) :: _) Ex.normal _ _ _ _ _; first | refine q0r rfl ?_ | refine q0o rfl ?_ | refine q02 rfl (fun _ => ?_) (fun _ => ?_))
  | (show wpM _ _ _ (Fr.ops _ _ (KOper.mk _ _ none _ (KOp.pick _ _ _) :: _) :: _) Ex.normal _ _ _ _ _; refine q0F rfl (fun _ => ?_) (fun _ => ?_))
  | (show wpM _ _ _ [] _ _ _ _ _ _; refine q0c rfl rfl rfl trivial ?_)
  | (show wpM _ _ _ (Fr.ops _ _ (KOper.mk _ _ none _ (KOp.callF q1K _) :: _) :: _) Ex.normal _ _ _ _ _; refine q00 rfl rfl (q6k _ _ _) ?_)
  | (show wpM _ _ _ (Fr.ops _ _ (KOper.mk _ _ none _ (KOp.callF q2n _) :: _) :: _) Ex.normal _ _ _ _ _; refine q00 rfl rfl (qbi _ _ _) ?_)
  | (show wpM _ _ _ (Fr.ops _ _ (KOper.mk _ _ none _ (KOp.callF q4P _) :: _) :: _) Ex.normal _ _ _ _ _; refine q00 rfl rfl (qi2 _) ?_))
 all_goals ((try simp only [q1N, q1T, q2O, q3p, decide_eq_true_eq, decide_eq_false_iff_not, Bool.not_eq_true, Bool.not_eq_false, Int.not_lt, Int.not_le] at *); first | (simp_all [q48, q3K, q0M]; done) | (simp_all [q48, q3K, q0M]; omega) | (rw [D.bool.injEq, Bool.eq_iff_iff]; simp [q48, q3K, q0M]; omega) | (rw [D.bool.injEq, Bool.eq_iff_iff]; simp_all [q48, q3K, q0M]; omega) | (simp [q48, q3K, q0M]; split <;> (try split) <;> omega))
def q0v (s : Spot) (m : Int) : Bool := decide (-m ≤ s.x) && (decide (s.x ≤ m) && (decide (-m ≤ s.y) && decide (s.y ≤ m)))
theorem qjB (s : Spot) : PU q4m [s.enc] = some (.bool (!q0v s 1048576)) := by
 refine q0i (fn := q4u) rfl (q0a ?_)
 repeat' (first
  | (refine goP 800 rfl rfl ?_)
  | (show wpM _ _ _ (Fr.ops _ _ (KOper.mk _ _ (some _) _ _ :: _) :: _) Ex.normal _ _ _ _ _; first | refine q0q rfl ?_ | refine q0s rfl ?_ | refine q0g rfl (fun _ => ?_) (fun _ => ?_))
  | (show wpM _ _ _ (Fr.code (K.cond _ _ _) :: _) Ex.normal _ _ _ _ _; first | refine q0r rfl ?_ | refine q0o rfl ?_ | refine q02 rfl (fun _ => ?_) (fun _ => ?_))
  | (show wpM _ _ _ (Fr.ops _ _ (KOper.mk _ _ none _ (KOp.pick _ _ _) :: _) :: _) Ex.normal _ _ _ _ _; refine q0F rfl (fun _ => ?_) (fun _ => ?_))
  | (show wpM _ _ _ [] _ _ _ _ _ _; refine q0c rfl rfl rfl trivial ?_))
 all_goals ((try simp only [q1N, q1T, q2O, q3p, decide_eq_true_eq, decide_eq_false_iff_not, Bool.not_eq_true, Bool.not_eq_false, Int.not_lt, Int.not_le] at *); first | (simp_all [q0v]; done) | (simp_all [q0v]; omega) | (rw [D.bool.injEq, Bool.eq_iff_iff]; simp [q0v]; omega) | (rw [D.bool.injEq, Bool.eq_iff_iff]; simp_all [q0v]; omega) | (simp [q0v]; split <;> (try split) <;> omega))
theorem qa5 (s : Spot) : PU q3S [s.enc] = some (.bool (!q0v s 1048576)) := by
 refine q0i (fn := q40) rfl (q0a ?_)
 repeat' (first
  | (refine goP 800 rfl rfl ?_)
  | (show wpM _ _ _ (Fr.ops _ _ (KOper.mk _ _ (some _) _ _ :: _) :: _) Ex.normal _ _ _ _ _; first | refine q0q rfl ?_ | refine q0s rfl ?_ | refine q0g rfl (fun _ => ?_) (fun _ => ?_))
  | (show wpM _ _ _ (Fr.code (K.cond _ _ _) :: _) Ex.normal _ _ _ _ _; first | refine q0r rfl ?_ | refine q0o rfl ?_ | refine q02 rfl (fun _ => ?_) (fun _ => ?_))
  | (show wpM _ _ _ (Fr.ops _ _ (KOper.mk _ _ none _ (KOp.pick _ _ _) :: _) :: _) Ex.normal _ _ _ _ _; refine q0F rfl (fun _ => ?_) (fun _ => ?_))
  | (show wpM _ _ _ [] _ _ _ _ _ _; refine q0c rfl rfl rfl trivial ?_))
 all_goals ((try simp only [q1N, q1T, q2O, q3p, decide_eq_true_eq, decide_eq_false_iff_not, Bool.not_eq_true, Bool.not_eq_false, Int.not_lt, Int.not_le] at *); first | (simp_all [q0v]; done) | (simp_all [q0v]; omega) | (rw [D.bool.injEq, Bool.eq_iff_iff]; simp [q0v]; omega) | (rw [D.bool.injEq, Bool.eq_iff_iff]; simp_all [q0v]; omega) | (simp [q0v]; split <;> (try split) <;> omega))
end Go.F

namespace Go.F
attribute [local irreducible] IntKind.wrap wpM
def qbj {α : Type} (g : α → Bool) (p : List α) : Int := match p.findIdx? g with | some i => i | none => -1
theorem qee {α : Type} {g : α → Bool} {p : List α} {k : Nat} (hk : k < p.length) (hno : ∀ j (hj : j < p.length), j < k → g p[j] = false) (hg : g p[k] = true) : qbj g p = k := by
 have : p.findIdx? g = some k := by
  rw [List.findIdx?_eq_some_iff_getElem]
  exact ⟨hk, hg, fun j hj => by simp [hno j (by omega) hj]⟩
 simp [qbj, this]
theorem qef {α : Type} {g : α → Bool} {p : List α} (hno : ∀ j (hj : j < p.length), g p[j] = false) : qbj g p = -1 := by
 have : p.findIdx? g = none := by
  rw [List.findIdx?_eq_none_iff]
  intro x hx
  obtain ⟨j, hj, rfl⟩ := List.mem_iff_getElem.1 hx
  exact hno j hj
 simp [qbj, this]
theorem qbk {α : Type} {g : α → Bool} {p : List α} : decide (0 ≤ qbj g p) = p.any g := by
 cases h : p.findIdx? g with
 | none =>
   have hn := h
   rw [List.findIdx?_eq_none_iff] at hn
   have : p.any g = false := by rw [List.any_eq_false]; exact fun x hx => by simp [hn x hx]
   simp [qbj, h, this]
 | some i =>
   rw [List.findIdx?_eq_some_iff_getElem] at h
   obtain ⟨hi, hg, _⟩ := h
   have h2 : p.findIdx? g = some i := by rw [List.findIdx?_eq_some_iff_getElem]; exact ⟨hi, hg, by assumption⟩
   have : p.any g = true := by rw [List.any_eq_true]; exact ⟨p[i], List.getElem_mem _, hg⟩
   simp [qbj, h2, this]
theorem qgJ (fid : FuncId) (g : Spot → Bool) (hsh : q6E fid = false) (hg : ∀ s, PU fid [s.enc] = some (.bool (g s))) (p : List Spot) (hp : p.length < 4611686018427387904) :
 PU q1z [q0k p, .fn fid [] []] = some (.int .i64 (qbj g p)) := by
 refine q0i (fn := q1A) rfl (q0a ?_)
 refine go 800 rfl ?_
 refine q0x (S := fun k : Nat => ([q0k p, .fn fid [] [], q01 p.length, q01 k], [none, none, none, none], [0, 0, 0, 0])) (C := fun k => k ≤ p.length ∧ ∀ j (hj : j < p.length), j < k → g p[j] = false) (m := fun k => p.length - k) 0 ⟨by omega, fun j hj h => by omega⟩ (by omega) ?_ ?_
 ·exact q05 rfl trivial (by simp [q0k, q01])
 intro k ⟨hk, hno⟩ N hN
 refine go 800 rfl ?_
 refine q02 rfl (fun h1 => ?_) (fun h1 => ?_)
 ·rw [q0b] at h1
  have hlt : k < p.length := by omega
  refine go 800 rfl ?_
  refine q0y k rfl rfl rfl (q5L hlt) rfl ?_
  refine go 800 rfl ?_
  refine qnX rfl ?_
  refine q00 hsh rfl (hg p[k]) ?_
  refine go 800 rfl ?_
  refine q02 rfl (fun h2 => ?_) (fun h2 => ?_)
  ·refine go 800 rfl ?_
   refine q09 ?_
   refine go 800 rfl ?_
   refine q0c rfl rfl rfl trivial ?_
   rw [qee hlt hno h2]
  ·refine go 800 rfl ?_
   refine q09 ?_
   refine hN (k + 1) ⟨by omega, fun j hj hjk => ?_⟩ (by omega) ?_
   ·by_cases hjk' : j < k
    ·exact hno j hj hjk'
    ·obtain rfl : j = k := by omega
     exact h2
   ·exact q05 rfl trivial (by simp [q0k, q01, wrap64 (x := (k : Int) + 1) (by omega) (by omega)])
 ·rw [q0d] at h1
  refine go 800 rfl ?_
  refine q09 ?_
  refine go 800 rfl ?_
  refine q0c rfl rfl rfl trivial ?_
  rw [qef fun j hj => hno j hj (by omega)]
theorem q8s (fid : FuncId) (g : Spot → Bool) (hsh : q6E fid = false) (hg : ∀ s, PU fid [s.enc] = some (.bool (g s))) (p : List Spot) (hp : p.length < 4611686018427387904) :
 PU q1o [q0k p, .fn fid [] []] = some (.bool (p.any g)) := by
 refine q0i (fn := q1p) rfl (q0a ?_)
 repeat' (first
  | (refine goP 800 rfl rfl ?_)
  | (show wpM _ _ _ (Fr.ops _ _ (KOper.mk _ _ (some _) _ _ :: _) :: _) Ex.normal _ _ _ _ _; first | refine q0q rfl ?_ | refine q0s rfl ?_ | refine q0g rfl (fun _ => ?_) (fun _ => ?_))
  | (show wpM _ _ _ (Fr.code (K.cond _ _ _) :: _) Ex.normal _ _ _ _ _; first | refine q0r rfl ?_ | refine q0o rfl ?_ | refine q02 rfl (fun _ => ?_) (fun _ => ?_))
  | (show wpM _ _ _ (Fr.ops _ _ (KOper.mk _ _ none _ (KOp.pick _ _ _) :: _) :: _) Ex.normal _ _ _ _ _; refine q0F rfl (fun _ => ?_) (fun _ => ?_))
  | (show wpM _ _ _ [] _ _ _ _ _ _; refine q0c rfl rfl rfl trivial ?_)
  | (show wpM _ _ _ (Fr.ops _ _ (KOper.mk _ _ none _ (KOp.callF q1z _) :: _) :: _) Ex.normal _ _ _ _ _; refine q00 rfl rfl (qgJ fid g hsh hg p hp) ?_))
 rw [q1T, qbk]
theorem q13 (a b : Spot) : (eqb a.x b.x && (eqb a.y b.y && true)) = decide (a = b) := by
 cases a; cases b; simp [eqb, Bool.beq_eq_decide_eq]
theorem qmY (p : List Spot) (v : Spot) (hp : p.length < 4611686018427387904) : PU q29 [q0k p, v.enc] = some (.int .i64 (qbj (fun s => decide (v = s)) p)) := by
 refine q0i (fn := q2a) rfl (q0a ?_)
 refine go 800 rfl ?_
 refine q0x (S := fun k : Nat => ([q0k p, .ptr 1 0 0, q01 p.length, q01 k], [none, some (.row [v.enc] 2), none, none], [0, 0, 0, 0])) (C := fun k => k ≤ p.length ∧ ∀ j (hj : j < p.length), j < k → decide (v = p[j]) = false) (m := fun k => p.length - k) 0 ⟨by omega, fun j hj h => by omega⟩ (by omega) ?_ ?_
 ·exact q05 rfl ⟨rfl, trivial⟩ (by simp [q0k, q01, Spot.enc])
 intro k ⟨hk, hno⟩ N hN
 refine go 800 rfl ?_
 refine q02 rfl (fun h1 => ?_) (fun h1 => ?_)
 ·rw [q0b] at h1
  have hlt : k < p.length := by omega
  refine go 800 rfl ?_
  refine q0y k rfl rfl rfl (q5L hlt) rfl ?_
  refine go 800 rfl ?_
  refine q02 rfl (fun h2 => ?_) (fun h2 => ?_)
  ·rw [q13] at h2
   refine go 800 rfl ?_
   refine q09 ?_
   refine go 800 rfl ?_
   refine q0c rfl rfl rfl trivial ?_
   rw [qee hlt hno h2]
  ·rw [q13] at h2
   refine go 800 rfl ?_
   refine q09 ?_
   refine hN (k + 1) ⟨by omega, fun j hj hjk => ?_⟩ (by omega) ?_
   ·by_cases hjk' : j < k
    ·exact hno j hj hjk'
    ·obtain rfl : j = k := by omega
     exact h2
   ·exact q05 rfl ⟨rfl, trivial⟩ (by simp [q0k, q01, Spot.enc, wrap64 (x := (k : Int) + 1) (by omega) (by omega)])
 ·rw [q0d] at h1
  refine go 800 rfl ?_
  refine q09 ?_
  refine go 800 rfl ?_
  refine q0c rfl rfl rfl trivial ?_
  rw [qef fun j hj => hno j hj (by omega)]
theorem qoc {p : List Spot} {v : Spot} : p.any (fun s => decide (v = s)) = decide (v ∈ p) := by
 rw [Bool.eq_iff_iff]; simp
theorem qi4 (p : List Spot) (v : Spot) (hp : p.length < 4611686018427387904) : PU q2T [q0k p, v.enc] = some (.bool (decide (v ∈ p))) := by
 refine q0i (fn := q1F) rfl (q0a ?_)
 repeat' (first
  | (refine goP 800 rfl rfl ?_)
  | (show wpM _ _ _ (Fr.ops _ _ (KOper.mk _ _ (some _) _ _ :: _) :: _) Ex.normal _ _ _ _ _; first | refine q0q rfl ?_ | refine q0s rfl ?_ | refine q0g rfl (fun _ => ?_) (fun _ => ?_))
  | (show wpM _ _ _ (Fr.code (K.cond _ _ _) :: _) Ex.normal _ _ _ _ _; first | refine q0r rfl ?_ | refine q0o rfl ?_ | refine q02 rfl (fun _ => ?_) (fun _ => ?_))
  | (show wpM _ _ _ (Fr.ops _ _ (KOper.mk _ _ none _ (KOp.pick _ _ _) :: _) :: _) Ex.normal _ _ _ _ _; refine q0F rfl (fun _ => ?_) (fun _ => ?_))
  | (show wpM _ _ _ [] _ _ _ _ _ _; refine q0c rfl rfl rfl trivial ?_)
  | (show wpM _ _ _ (Fr.ops _ _ (KOper.mk _ _ none _ (KOp.callF q29 _) :: _) :: _) Ex.normal _ _ _ _ _; refine q00 rfl rfl (qmY p v hp) ?_))
 rw [q1T, qbk, qoc]
end Go.F

namespace Go.F
section
variable {T : Tab} {sh : Shr} {nx0 : Nat} {s : List Fr} {t : q0p} {h : q08} {z : Frz} {nx : Nat} {q : Ex → q0p → q08 → Frz → Nat → Prop}
variable {base i : Nat} {res : List Nat} {dst : Nat} {g : Gd} {rest : List KOper}
theorem q1q {f : FuncId} {args : List X} {bs : List D} {rows : List (List D × Nat × Nat)} {r : D} (hs : T.shared f = false)
 (ha : qjj (g.h base h) (args.map (·.ev t)) = some (rows, bs)) (hr : q3G rows) (hp : T.pu f bs = some r)
 (hk : ∀ z, wpM T sh nx0 (.ops base res rest :: s) .normal (upd t dst r) h z nx q) :
 wpM T sh nx0 (.ops base res (⟨i, some dst, none, g, .callF f args⟩ :: rest) :: s) .normal t h z nx q := by
 refine q67 ?_
 simp only [kop, q8I, hs]
 refine qao ha hr ?_
 unfold qfz
 refine ⟨r, hp, ?_⟩
 simp only [q8K]
 split
 ·exact hk _
 ·split
  ·exact hk _
  ·exact hk _
theorem q84 {f : FuncId} {args : List X} {bs : List D} {rows : List (List D × Nat × Nat)} {r : D} (hs : T.shared f = false)
 (ha : qjj (g.h base h) (args.map (·.ev t)) = some (rows, bs)) (hr : q3G rows) (hp : T.pu f bs = some r) (hn : noRef 4 r = true)
 (hk : wpM T sh nx0 (.ops base res rest :: s) .normal (upd t dst r) h z nx q) :
 wpM T sh nx0 (.ops base res (⟨i, some dst, none, g, .callF f args⟩ :: rest) :: s) .normal t h z nx q := by
 refine q67 ?_
 simp only [kop, q8I, hs]
 refine qao ha hr ?_
 unfold qfz
 refine ⟨r, hp, ?_⟩
 simp only [q8K, hn]
 exact hk
theorem qod {n : Nat} {sx x : X} {dst : Option Nat} {id off len : Nat} {es l : List D} {esz : Nat} (hs : sx.ev t = .ref id off len) (hr : g.h base h id = some (.row es esz)) (he : Nat.beq n esz = true) (hx : x.ev t = .lst l)
 (hc : l.all (fun d => d.cells.length == n) = true) (hb : off + len ≤ es.length) (hz : g.z base z id ≤ off)
 (hk : wpM T sh nx0 (.ops base res rest :: s) .normal (put t dst (.int .i64 (min l.length len : Nat))) (upd h id (some (.row (es.take off ++ l.take (min l.length len) ++ es.drop (off + min l.length len)) esz))) z nx q) :
 wpM T sh nx0 (.ops base res (⟨i, dst, none, g, .copy n sx x⟩ :: rest) :: s) .normal t h z nx q := by
 refine q67 ?_
 simp only [kop, qmu, hs, hr, he, hx, q58]
 exact qdi hc (q1s ⟨hb, hz⟩ hk)
theorem q1t {e : EqK} {x y : X} {kk kk' : IntKind} {a b : Int} (n k : Nat) (hx : x.ev t = .int kk a) (hy : y.ev t = .int kk' b) (ha : a = n) (hb : b = k) (hkb : k ≤ kk.bits)
 (hk : wpM T sh nx0 (.ops base res rest :: s) .normal (upd t dst (.int kk ((n / 2 ^ k : Nat) : Int))) h z nx q) :
 wpM T sh nx0 (.ops base res (⟨i, some dst, none, g, .bin .shr e x y⟩ :: rest) :: s) .normal t h z nx q := by
 subst ha; subst hb
 refine atShr hx hy (by omega) ?_
 rw [Int.toNat_natCast, Nat.min_eq_left hkb]
 have e : ((n : Int)).fdiv (2 ^ k) = ((n / 2 ^ k : Nat) : Int) := by
  rw [show ((2 : Int) ^ k) = ((2 ^ k : Nat) : Int) by simp]
  rw [Int.fdiv_eq_ediv_of_nonneg _ (Int.natCast_nonneg _)]
  rfl
 rw [e]
 exact hk
theorem q85 {e : EqK} {x y : X} {kk kk' : IntKind} {a b : Int} (n k : Nat) (hx : x.ev t = .int kk a) (hy : y.ev t = .int kk' b) (ha : a = n) (hb : b = k) (hkb : k ≤ kk.bits) (hw : kk.wrap ((n * 2 ^ k : Nat) : Int) = ((n * 2 ^ k : Nat) : Int))
 (hk : wpM T sh nx0 (.ops base res rest :: s) .normal (upd t dst (.int kk ((n * 2 ^ k : Nat) : Int))) h z nx q) :
 wpM T sh nx0 (.ops base res (⟨i, some dst, none, g, .bin .shl e x y⟩ :: rest) :: s) .normal t h z nx q := by
 subst ha; subst hb
 refine atShl hx hy (by omega) ?_
 rw [Int.toNat_natCast, Nat.min_eq_left hkb]
 have e : ((n : Int)) * 2 ^ k = ((n * 2 ^ k : Nat) : Int) := by simp
 rw [e, hw]
 exact hk
def setMN (nx0 : Nat) (live : Live) (t : q0p) (h : q08) (z : Frz) (nx : Nat) : Option (List (List D) × q08 × Frz × Kept) :=
 match qa7 live t h z nx with
 | (t, h, z) =>
   match qcr t h live with
   | some rows => fL1 (q8M nx0 (q0u t live) t live) fun vs => fLi (q8N nx0 (q0u t live) h (q0u t live) nx0) fun bs => fNs (qdM nx0 (q0u t live) z (q0u t live) nx0) fun zs => some (rows, h, z, vs, bs, zs)
   | none => none
theorem q2E {live : Live} {rows : List (List D)} {h' : q08} {z' : Frz} {kp : Kept} {K : q08 → Frz → Kept → Prop} (hs : setMN nx0 live t h z nx = some (rows, h', z', kp)) (hp : q9T rows) (hk : K h' z' kp) : q0R nx0 live t h z nx K := by
 unfold setMN at hs
 split at hs
 rename_i t1 h1 z1 hn
 split at hs
 ·rename_i rows1 hr
  simp only [q4h, qjg, qjf, Option.some.injEq, Prod.mk.injEq] at hs
  obtain ⟨rfl, rfl, rfl, rfl⟩ := hs
  unfold q0R
  refine qdP _ _ _ _ _ _ fun nx' => ?_
  rw [hn]
  refine qdQ hr hp ?_
  rw [q5S, q5T]
  exact hk
 ·cases hs
theorem q86 {α : Type} (S : α → Kept) (O : α → q08 → Frz → Prop) (C : α → Prop) (m : α → Nat) {live : Live} {c : K}
 (a : α) (hC : C a) (hm : m a < 2 ^ 62) (h0 : q0R nx0 live t h z nx fun h z kp => kp = S a ∧ O a (q1M h) z)
 (hr : ∀ a, C a → ∀ (ho : q08) (zo : Frz), O a ho zo → ∀ N : q0p → q08 → Frz → Nat → Prop, (∀ a' {t : q0p} {h : q08} {z : Frz} {nx : Nat}, C a' → m a' < m a → (q0R nx0 live t h z nx fun h z kp => kp = S a' ∧ O a' (q1M h) z) → N t h z nx) →
   wpM T sh nx0 [.code c] .normal (mkT live (S a).1) (mkF nx0 ho none (S a).2.1 nx0) (mkF nx0 zo 0 (S a).2.2 nx0) (nx0 + live.length) fun ex t h z nx =>
    match ex with
    | .normal => N t h z nx
    | .exit i => wpM T sh nx0 s (.exit i) t h z nx q
    | .ret => wpM T sh nx0 s .ret t h z nx q) :
 wpM T sh nx0 (.code (.loop live c) :: s) .normal t h z nx q := by
 simp only [wpM, wp] at hr ⊢
 unfold qhz
 have key : ∀ (n : Nat) (a : α), C a → m a ≤ n → ∀ (fuel : Nat), n < fuel → ∀ (t : q0p) (h : q08) (z : Frz) (nx : Nat), (q0R nx0 live t h z nx fun h z kp => kp = S a ∧ O a (q1M h) z) →
  q2R nx0 live (fun t h z nx q => wp T sh nx0 c t h z nx q) fuel t h z nx fun ex t h z nx => wpM T sh nx0 s ex t h z nx q := by
  intro n
  induction n with
  | zero =>
    intro a hC hm fuel hf t h z nx hst
    obtain ⟨fuel, rfl⟩ : ∃ k, fuel = k + 1 := ⟨fuel - 1, by omega⟩
    simp only [q2R]
    obtain ⟨h1, z1, kp, g1, g2⟩ := q6z hst
    refine g2 _ ?_
    obtain ⟨rfl, g3⟩ := g1
    exact hr a hC _ _ g3 (fun t h z nx => q2R nx0 live (fun t h z nx q => wp T sh nx0 c t h z nx q) fuel t h z nx fun ex t h z nx => wpM T sh nx0 s ex t h z nx q) (fun a' _ _ _ _ _ hlt _ => absurd hlt (by omega))
  | succ n ih =>
    intro a hC hm fuel hf t h z nx hst
    obtain ⟨fuel, rfl⟩ : ∃ k, fuel = k + 1 := ⟨fuel - 1, by omega⟩
    simp only [q2R]
    obtain ⟨h1, z1, kp, g1, g2⟩ := q6z hst
    refine g2 _ ?_
    obtain ⟨rfl, g3⟩ := g1
    exact hr a hC _ _ g3 (fun t h z nx => q2R nx0 live (fun t h z nx q => wp T sh nx0 c t h z nx q) fuel t h z nx fun ex t h z nx => wpM T sh nx0 s ex t h z nx q)
     (fun a' t h z nx h1 hlt hst => ih a' h1 (by omega) fuel (by omega) t h z nx hst)
 exact key (m a) a hC (Nat.le_refl _) q61 hm t h z nx h0
end
end Go.F

namespace Go.F
def val : List Nat → Nat
 | [] => 0
 | x :: l => x + 4294967296 * val l
def q9B : Nat → Nat → List Nat
 | 0, _ => []
 | k + 1, n => if n = 0 then [] else n % 4294967296 :: q9B k (n / 4294967296)
def q06 (n : Nat) : List Nat := q9B n n
def dg (l : List Nat) (i : Nat) : Nat := l.getD i 0
class LOk (l : List Nat) : Prop where
 lt : ∀ x ∈ l, x < 4294967296
theorem qi5 : ∀ (k j n : Nat), n ≤ k → n ≤ j → q9B k n = q9B j n := by
 intro k
 induction k with
 | zero =>
   intro j n h1 h2
   obtain rfl : n = 0 := by omega
   cases j <;> simp [q9B]
 | succ k ih =>
   intro j n h1 h2
   cases j with
   | zero =>
     obtain rfl : n = 0 := by omega
     simp [q9B]
   | succ j =>
     simp only [q9B]
     split
     ·rfl
     ·rw [ih j (n / 4294967296) (by omega) (by omega)]
theorem q52 : q06 0 = [] := rfl
theorem q49 {n : Nat} (h : n ≠ 0) : q06 n = n % 4294967296 :: q06 (n / 4294967296) := by
 obtain ⟨k, rfl⟩ : ∃ k, n = k + 1 := ⟨n - 1, by omega⟩
 unfold q06
 rw [q9B, if_neg h, qi5 k ((k + 1) / 4294967296) _ (by omega) (Nat.le_refl _)]
theorem qcd {P : Nat → Prop} (h0 : P 0) (h1 : ∀ n, n ≠ 0 → P (n / 4294967296) → P n) (n : Nat) : P n := by
 induction n using Nat.strongRecOn with
 | _ n ih =>
   by_cases h : n = 0
   ·subst h; exact h0
   ·exact h1 n h (ih _ (by omega))
theorem q0e (n : Nat) : val (q06 n) = n := by
 induction n using qcd with
 | h0 => rfl
 | h1 n hn ih => rw [q49 hn, val, ih]; omega
instance q0n (n : Nat) : LOk (q06 n) := by
 refine ⟨?_⟩
 induction n using qcd with
 | h0 => intro x hx; simp [q52] at hx
 | h1 n hn ih =>
   rw [q49 hn]
   intro x hx
   rcases List.mem_cons.1 hx with rfl | hx
   ·omega
   ·exact ih x hx
theorem q0f {n k : Nat} : (q06 n).length ≤ k ↔ n < 4294967296 ^ k := by
 induction k generalizing n with
 | zero =>
   rw [Nat.pow_zero]
   by_cases h : n = 0
   ·subst h; simp [q52]
   ·rw [q49 h]; simp; omega
 | succ k ih =>
   by_cases h : n = 0
   ·subst h; simp only [q52, List.length_nil, Nat.zero_le, true_iff]; exact Nat.pow_pos (by decide)
   ·rw [q49 h, List.length_cons, Nat.add_le_add_iff_right, ih, Nat.pow_succ]
    exact Nat.div_lt_iff_lt_mul (by decide)
theorem q2b {n : Nat} : 0 < (q06 n).length ↔ n ≠ 0 := by
 by_cases h : n = 0
 ·subst h; simp [q52]
 ·rw [q49 h]; simp [h]
theorem qce {n : Nat} : q06 n = [] ↔ n = 0 := by
 by_cases h : n = 0
 ·subst h; simp [q52]
 ·rw [q49 h]; simp [h]
theorem val_append (a b : List Nat) : val (a ++ b) = val a + 4294967296 ^ a.length * val b := by
 induction a with
 | nil => simp [val]
 | cons x a ih => rw [List.cons_append, val, ih, val, List.length_cons, Nat.pow_succ, Nat.mul_add, ← Nat.mul_assoc, Nat.mul_comm 4294967296 (_ ^ _)]; omega
theorem q4y (a : List Nat) (x : Nat) : val (a ++ [x]) = val a + 4294967296 ^ a.length * x := by
 rw [val_append]; simp [val]
theorem q7s (k : Nat) : val (List.replicate k 0) = 0 := by
 induction k with
 | zero => rfl
 | succ k ih => rw [List.replicate_succ, val, ih]
theorem LOk.cons {x : Nat} {l : List Nat} (h : LOk (x :: l)) : x < 4294967296 ∧ LOk l :=
 ⟨h.lt x (by simp), ⟨fun y hy => h.lt y (by simp [hy])⟩⟩
theorem LOk.append {a b : List Nat} (h : LOk a) (g : LOk b) : LOk (a ++ b) :=
 ⟨fun x hx => by rcases List.mem_append.1 hx with h1 | h1; exact h.lt x h1; exact g.lt x h1⟩
theorem LOk.snoc {a : List Nat} {x : Nat} (h : LOk a) (g : x < 4294967296) : LOk (a ++ [x]) :=
 h.append ⟨fun y hy => by simp at hy; omega⟩
theorem LOk.take {a : List Nat} (h : LOk a) (k : Nat) : LOk (a.take k) := ⟨fun x hx => h.lt x (List.mem_of_mem_take hx)⟩
theorem LOk.drop {a : List Nat} (h : LOk a) (k : Nat) : LOk (a.drop k) := ⟨fun x hx => h.lt x (List.mem_of_mem_drop hx)⟩
theorem LOk.set {a : List Nat} (h : LOk a) (k : Nat) {v : Nat} (hv : v < 4294967296) : LOk (a.set k v) :=
 ⟨fun x hx => by rcases List.mem_or_eq_of_mem_set hx with h1 | h1; exact h.lt x h1; omega⟩
theorem q3x (k : Nat) : LOk (List.replicate k 0) := ⟨fun x hx => by rw [(List.mem_replicate.1 hx).2]; decide⟩
instance qeg : LOk [] := ⟨by simp⟩
theorem q1U {l : List Nat} (h : LOk l) : val l < 4294967296 ^ l.length := by
 induction l with
 | nil => simp [val]
 | cons x l ih =>
   obtain ⟨h1, h2⟩ := h.cons
   have := ih h2
   rw [val, List.length_cons, Nat.pow_succ]
   omega
theorem q0T {l : List Nat} (h : LOk l) (i : Nat) : dg l i < 4294967296 := by
 unfold dg
 rw [List.getD_eq_getElem?_getD]
 cases hx : l[i]? with
 | none => simp
 | some x => simp; exact h.lt x (List.mem_of_getElem? hx)
theorem q5H {l : List Nat} {i : Nat} (h : l.length ≤ i) : dg l i = 0 := by
 unfold dg; rw [List.getD_eq_getElem?_getD, List.getElem?_eq_none h]; rfl
theorem qgK {l : List Nat} {i : Nat} (h : i < l.length) : dg l i = l[i] := by simp [dg, h]
theorem qkn {l : List Nat} {k : Nat} (h : k < l.length) : l.take (k + 1) = l.take k ++ [dg l k] := by
 rw [List.take_succ_eq_append_getElem h, qgK h]
theorem q0z (l : List Nat) (k : Nat) : val (l.take (k + 1)) = val (l.take k) + 4294967296 ^ k * dg l k := by
 by_cases h : k < l.length
 ·rw [qkn h, q4y, List.length_take, Nat.min_eq_left (Nat.le_of_lt h)]
 ·rw [List.take_of_length_le (by omega), List.take_of_length_le (by omega), q5H (by omega)]; simp
theorem q27 (l : List Nat) (k : Nat) : val (l.drop k) = dg l k + 4294967296 * val (l.drop (k + 1)) := by
 by_cases h : k < l.length
 ·rw [List.drop_eq_getElem_cons h, val, qgK h]
 ·rw [List.drop_of_length_le (by omega), List.drop_of_length_le (by omega), q5H (by omega)]; rfl
theorem q1Y (l : List Nat) (k : Nat) : val l = val (l.take k) + 4294967296 ^ k * val (l.drop k) := by
 by_cases h : k ≤ l.length
 ·have := val_append (l.take k) (l.drop k)
  rw [List.take_append_drop, List.length_take, Nat.min_eq_left h] at this
  exact this
 ·rw [List.take_of_length_le (by omega), List.drop_of_length_le (by omega)]; simp [val]
theorem qjC : ∀ {l : List Nat} (_ : LOk l) (i : Nat), dg l i = val l / 4294967296 ^ i % 4294967296 := by
 intro l
 induction l with
 | nil => intro _ i; simp [dg, val]
 | cons x l ih =>
   intro h i
   obtain ⟨h1, h2⟩ := h.cons
   cases i with
   | zero => simp [dg, val]; omega
   | succ i =>
     have := ih h2 i
     have e : dg (x :: l) (i + 1) = dg l i := by simp [dg]
     rw [e, this, val, Nat.pow_succ, Nat.mul_comm (4294967296 ^ i), ← Nat.div_div_eq_div_mul]
     congr 2
     omega
theorem qd8 {l : List Nat} (hl : l ≠ []) (h : dg l (l.length - 1) ≠ 0) : val l ≠ 0 := by
 have hlen : 0 < l.length := List.length_pos_iff.2 hl
 have := q1Y l (l.length - 1)
 rw [q27, Nat.sub_add_cancel hlen, List.drop_length] at this
 simp only [val, Nat.mul_zero, Nat.add_zero] at this
 intro h0
 rw [h0] at this
 have hp : 0 < 4294967296 ^ (l.length - 1) * dg l (l.length - 1) := Nat.mul_pos (Nat.pow_pos (by decide)) (by omega)
 omega
theorem qlx {l : List Nat} (h : LOk l) (hl : l = [] ∨ dg l (l.length - 1) ≠ 0) : q06 (val l) = l := by
 induction l with
 | nil => rfl
 | cons x l ih =>
   obtain ⟨h1, h2⟩ := h.cons
   rcases hl with hl | hl
   ·cases hl
   have hv := qd8 (l := x :: l) (by simp) hl
   rw [q49 hv]
   have e1 : val (x :: l) % 4294967296 = x := by rw [val]; omega
   have e2 : val (x :: l) / 4294967296 = val l := by rw [val]; omega
   rw [e1, e2, ih h2]
   by_cases hn : l = []
   ·exact .inl hn
   ·refine .inr ?_
    obtain ⟨m, hm⟩ : ∃ m, l.length = m + 1 := ⟨l.length - 1, by have := List.length_pos_iff.2 hn; omega⟩
    simp only [List.length_cons, Nat.add_sub_cancel, hm] at hl ⊢
    simpa [dg] using hl
theorem qfY {n : Nat} (h : n ≠ 0) : dg (q06 n) ((q06 n).length - 1) ≠ 0 := by
 induction n using qcd with
 | h0 => exact absurd rfl h
 | h1 n hn ih =>
   rw [q49 hn]
   by_cases hd : n / 4294967296 = 0
   ·rw [hd, q52]; simp [dg]; omega
   ·have := ih hd
    have hp := q2b.2 hd
    obtain ⟨m, hm⟩ : ∃ m, (q06 (n / 4294967296)).length = m + 1 := ⟨_, (Nat.sub_add_cancel hp).symm⟩
    simp only [List.length_cons, Nat.add_sub_cancel, hm] at this ⊢
    simpa [dg] using this
theorem qfZ {l : List Nat} {n : Nat} (h : LOk l) (hn : n ≤ l.length) (h0 : ∀ i, n ≤ i → dg l i = 0) (h1 : n = 0 ∨ dg l (n - 1) ≠ 0) : l.take n = q06 (val l) := by
 have hz : ∀ k j, n ≤ j → j + k = l.length → val (l.drop j) = 0 := by
  intro k
  induction k with
  | zero => intro j _ hj; rw [List.drop_of_length_le (by omega)]; rfl
  | succ k ih => intro j hj hk; rw [q27, h0 j hj, ih (j + 1) (by omega) (by omega)]
 have hv : val l = val (l.take n) := by
  rw [q1Y l n, hz (l.length - n) n (Nat.le_refl _) (by omega)]; simp
 rw [hv, qlx (h.take n)]
 by_cases hn0 : n = 0
 ·left; simp [hn0]
 ·right
  rcases h1 with h1 | h1
  ·exact absurd h1 hn0
  ·rw [List.length_take, Nat.min_eq_left hn]
   simpa [dg, List.getElem?_take, show n - 1 < n by omega] using h1
theorem qbl {l : List Nat} {i v : Nat} (h : i < l.length) : val (l.set i v) + 4294967296 ^ i * dg l i = val l + 4294967296 ^ i * v := by
 induction l generalizing i with
 | nil => simp at h
 | cons x l ih =>
   cases i with
   | zero => simp [val, dg]; omega
   | succ i =>
     have := ih (i := i) (by simpa using h)
     have e : dg (x :: l) (i + 1) = dg l i := by simp [dg]
     rw [List.set_cons_succ, val, val, e, Nat.pow_succ]
     have e1 : 4294967296 ^ i * 4294967296 * dg l i = 4294967296 * (4294967296 ^ i * dg l i) := by rw [Nat.mul_comm (4294967296 ^ i), Nat.mul_assoc]
     have e2 : 4294967296 ^ i * 4294967296 * v = 4294967296 * (4294967296 ^ i * v) := by rw [Nat.mul_comm (4294967296 ^ i), Nat.mul_assoc]
     rw [e1, e2]
     omega
theorem q2c {l : List Nat} {i j v : Nat} : dg (l.set i v) j = if i = j ∧ j < l.length then v else dg l j := by
 unfold dg
 rw [List.getD_eq_getElem?_getD, List.getD_eq_getElem?_getD, List.getElem?_set]
 split
 ·rename_i h; subst h
  split
  ·rename_i h2; simp [h2]
  ·rename_i h2; simp [h2]
 ·rename_i h; simp [h]
theorem qeh {a b : List Nat} {i : Nat} (h : i < a.length) : dg (a ++ b) i = dg a i := by
 simp [dg, List.getElem?_append_left h]
theorem qd9 {a b : List Nat} {i : Nat} (h : a.length ≤ i) : dg (a ++ b) i = dg b (i - a.length) := by
 simp [dg, List.getElem?_append_right h]
theorem q5n (k i : Nat) : dg (List.replicate k 0) i = 0 := by
 simp only [dg, List.getD_eq_getElem?_getD, List.getElem?_replicate]; split <;> rfl
theorem q34 (p t : Nat) : p * (t % 4294967296) + p * 4294967296 * (t / 4294967296) = p * t := by
 rw [Nat.mul_assoc, ← Nat.mul_add, Nat.mod_add_div]
def u32 (n : Nat) : D := .int .u32 n
def nat (l : List Nat) : D := .lst (l.map u32)
theorem q1B {l : List Nat} {i : Nat} (h : i < l.length) : (l.map u32)[i]? = some (u32 (dg l i)) := by simp [dg, h]
theorem q0h (n : Nat) : plain 4 (u32 n) = true := rfl
theorem qko (n : Nat) : dat 4 (u32 n) = true := rfl
theorem q0H (n : Nat) : IntKind.u32.wrap (n : Int) = ((n % 4294967296 : Nat) : Int) := by
 simp [IntKind.wrap, IntKind.bits, IntKind.signed]
theorem q7t (n : Int) : IntKind.u32.wrap n = n % 4294967296 := by
 simp [IntKind.wrap, IntKind.bits, IntKind.signed]
theorem q0G (n : Int) : IntKind.u64.wrap n = n % 18446744073709551616 := by
 simp [IntKind.wrap, IntKind.bits, IntKind.signed]
theorem q0D {n : Nat} (h : n < 18446744073709551616) : IntKind.u64.wrap (n : Int) = (n : Int) := by
 rw [q0G]; omega
end Go.F

namespace Go.F
theorem kn_gt {U V P ut vt q : Nat} (hU : U < (ut + 1) * P) (hV : vt * P ≤ V) (hV0 : 0 < V) (h : ut < q * vt) : U / V < q := by
 rw [Nat.div_lt_iff_lt_mul hV0]
 calc U < (ut + 1) * P := hU
  _ ≤ q * vt * P := Nat.mul_le_mul_right _ h
  _ = q * (vt * P) := Nat.mul_assoc _ _ _
  _ ≤ q * V := Nat.mul_le_mul_left _ hV
theorem kn_le {U V P ut vt q B : Nat} (hU : ut * P ≤ U) (hV : V < (vt + 1) * P) (hV0 : B * P ≤ V) (hp : 0 < V) (hq : q < B) (h : q * vt ≤ ut) : q ≤ U / V + 1 := by
 by_cases h0 : q = 0
 ·rw [h0]; exact Nat.zero_le _
 have h1 : q * V ≤ U + V := by
  calc q * V ≤ q * ((vt + 1) * P) := Nat.mul_le_mul_left _ (Nat.le_of_lt hV)
   _ = q * vt * P + q * P := by rw [← Nat.mul_assoc, Nat.mul_add, Nat.add_mul, Nat.mul_one]
   _ ≤ ut * P + B * P := Nat.add_le_add (Nat.mul_le_mul_right _ h) (Nat.mul_le_mul_right _ (Nat.le_of_lt hq))
   _ ≤ U + V := Nat.add_le_add hU hV0
 have h2 : (q - 1) * V ≤ U := by
  obtain ⟨k, rfl⟩ : ∃ k, q = k + 1 := ⟨q - 1, by omega⟩
  rw [Nat.add_mul, Nat.one_mul] at h1
  simpa using h1
 have := (Nat.le_div_iff_mul_le hp).2 h2
 omega
end Go.F

namespace Go.F
attribute [local irreducible] IntKind.wrap wpM
theorem qly {r : List Nat} {k : Nat} (v : Nat) : (r.map u32).set k (.int .u32 v) = (r.set k v).map u32 := by
 rw [List.map_set]; rfl
section
variable {T : Tab} {sh : Shr} {nx0 : Nat} {s : List Fr} {t : q0p} {h : q08} {z : Frz} {nx : Nat} {q : Ex → q0p → q08 → Frz → Nat → Prop}
variable {base i : Nat} {res : List Nat} {g : Gd} {rest : List KOper}
theorem q1c {hint : Bool} {a v : X} {dst : Option Nat} {id k' : Nat} {w' : Int} (r : List Nat) (k w : Nat) (ha : a.ev t = .ptr id k' 0) (hv : v.ev t = .int .u32 w') (hkk : k' = k) (hw : w' = w) (hr : g.h base h id = some (.row (r.map u32) 1)) (hz : g.z base z id ≤ k) (hl : k < r.length)
 (hk : wpM T sh nx0 (.ops base res rest :: s) .normal (put t dst (.tup [])) (upd h id (some (.row ((r.set k w).map u32) 1))) z nx q) :
 wpM T sh nx0 (.ops base res (⟨i, dst, none, g, .store hint 1 a v⟩ :: rest) :: s) .normal t h z nx q := by
 subst hkk; subst hw
 refine qhH (e' := .int .u32 w) ha (by rw [hv]; rfl) hr hz (q1B hl) (by rw [hv]; rfl) ?_
 rw [qly]
 exact hk
theorem q35 {hint : Bool} {a : X} {dst : Nat} {id k' : Nat} (r : List Nat) (k : Nat) (ha : a.ev t = .ptr id k' 0) (hkk : k' = k) (hr : g.h base h id = some (.row (r.map u32) 1)) (hl : k < r.length)
 (hk : wpM T sh nx0 (.ops base res rest :: s) .normal (upd t dst (.int .u32 (dg r k))) h z nx q) :
 wpM T sh nx0 (.ops base res (⟨i, some dst, none, g, .load hint false 1 a⟩ :: rest) :: s) .normal t h z nx q := by
 subst hkk
 exact qkc ha hr (q1B hl) rfl hk
end
theorem q1G (l : List Nat) [ho : LOk l] (hl : l.length ≤ 4000000000) : PU q0C [nat l] = some (nat (q06 (val l))) := by
 refine q0i (fn := q6i) rfl (q0a ?_)
 refine go 800 rfl ?_
 refine q0x (S := fun n : Nat => ([nat l, q01 n], [none, none], [0, 0])) (C := fun n => n ≤ l.length ∧ ∀ i, n ≤ i → dg l i = 0) (m := fun n => n) l.length ⟨Nat.le_refl _, fun i hi => q5H hi⟩ (by omega) ?_ ?_
 ·exact q05 rfl trivial (by simp [nat, q01])
 intro n ⟨hn, h0⟩ N hN
 have fin : (n = 0 ∨ dg l (n - 1) ≠ 0) → D.lst ((l.map u32).take n) = nat (q06 (val l)) := fun h => by
  rw [nat, ← qfZ ho hn h0 h, List.map_take]
 refine go 800 rfl ?_
 refine q0g rfl (fun h1 => ?_) (fun h1 => ?_)
 ·rw [q0b] at h1
  have w1 : IntKind.i64.wrap ((n : Int) - 1) = ((n - 1 : Nat) : Int) := by rw [wrap64 (by omega) (by omega)]; omega
  refine go 800 rfl ?_
  refine q0y (n - 1) rfl rfl w1 (q1B (by omega)) rfl ?_
  refine go 800 rfl ?_
  refine q02 rfl (fun h2 => ?_) (fun h2 => ?_)
  ·rw [q26] at h2
   refine go 800 rfl ?_
   refine q09 ?_
   refine hN (n - 1) ⟨by omega, fun i hi => ?_⟩ (by omega) (q05 rfl trivial (by simp [nat, q01, w1]))
   by_cases hin : i = n - 1
   ·subst hin; omega
   ·exact h0 i (by omega)
  ·rw [q2g] at h2
   refine go 800 rfl ?_
   refine q09 ?_
   refine go 800 rfl ?_
   refine qcL n rfl (q1x (f := u32) (n := 1) (fun _ => rfl) _) ⟨_, _, rfl, rfl⟩ (by simpa using hn) ?_
   refine go 800 rfl ?_
   refine q0c rfl rfl rfl trivial (fin (.inr ?_))
   omega
 ·rw [q0d] at h1
  refine go 800 rfl ?_
  refine q0o rfl ?_
  refine go 800 rfl ?_
  refine q09 ?_
  refine go 800 rfl ?_
  refine qcL n rfl (q1x (f := u32) (n := 1) (fun _ => rfl) _) ⟨_, _, rfl, rfl⟩ (by simpa using hn) ?_
  refine go 800 rfl ?_
  refine q0c rfl rfl rfl trivial (fin (.inl (by omega)))
theorem q2F {l : List Nat} {n : Nat} (hn : n = l.length) : 0 + n ≤ (l.map u32).length ∧ (((l.map u32).drop 0).take n).all (dat 4) = true := by
 subst hn
 refine ⟨by simp, ?_⟩
 rw [List.drop_zero, List.take_of_length_le (by simp)]
 exact q2U qko _
theorem q2P {l : List Nat} {n : Nat} (hn : n = l.length) : D.lst ((l.map u32).take n) = nat l := by
 subst hn
 rw [nat, List.take_of_length_le (by simp)]
theorem q5b (n : Nat) (hn : n < 18446744073709551616) : PU q4p [.int .u64 n] = some (nat (q06 n)) := by
 have : LOk [n % 4294967296, n / 4294967296] := ⟨by simp; omega⟩
 have hp := q1G [n % 4294967296, n / 4294967296] (by simp)
 have hv : val [n % 4294967296, n / 4294967296] = n := by simp [val]; omega
 rw [hv] at hp
 refine q0i (fn := q82) rfl (q0a ?_)
 refine go 800 rfl ?_
 refine q1t n 32 rfl rfl rfl rfl (by decide) ?_
 refine go 800 rfl ?_
 rw [q0H, q0H, show n / 2 ^ 32 % 4294967296 = n / 4294967296 by omega]
 refine q1q rfl rfl ⟨q2F (l := [n % 4294967296, n / 4294967296]) rfl, trivial⟩ hp fun z => ?_
 refine go 800 rfl ?_
 exact q0c rfl rfl rfl trivial rfl
theorem q3L (l : List Nat) [ho : LOk l] (hl : l.length ≤ 4000000000) : PU q31 [nat l] = some (nat (q06 (val l))) := by
 have hlen : (q06 (val l)).length ≤ l.length := q0f.2 (q1U ho)
 refine q0i (fn := q6j) rfl (q0a ?_)
 refine go 800 rfl ?_
 refine q00 rfl rfl (q1G l hl) ?_
 refine go 800 rfl ?_
 refine q3O (q06 (val l)).length rfl rfl (by simp) (by simp [q0O]; omega) ?_
 refine go 800 rfl ?_
 refine qod rfl rfl rfl rfl (q1x (f := u32) (n := 1) (fun _ => rfl) _) (by simp) (Nat.zero_le _) ?_
 refine go 800 rfl ?_
 have e : List.take 0 (List.replicate (q06 (val l)).length (D.int IntKind.u32 0)) ++ ((q06 (val l)).map u32).take (min ((q06 (val l)).map u32).length (q06 (val l)).length) ++ (List.replicate (q06 (val l)).length (D.int IntKind.u32 0)).drop (0 + min ((q06 (val l)).map u32).length (q06 (val l)).length) = (q06 (val l)).map u32 := by
  simp
  rw [List.take_of_length_le (by simp)]
 rw [e]
 exact q0c rfl rfl rfl ⟨q2F rfl, trivial⟩ (q2P rfl)
theorem qaN (n : Nat) : PU q2B [.int .u32 n] = some (.bool false) := by
 refine q0i (fn := q42) rfl (q0a ?_)
 repeat' (first
  | (refine goP 800 rfl rfl ?_)
  | (show wpM _ _ _ (Fr.ops _ _ (KOper.mk _ _ (some _) _ _ :: _) :: _) Ex.normal _ _ _ _ _; first | refine q0q rfl ?_ | refine q0s rfl ?_ | refine q0g rfl (fun _ => ?_) (fun _ => ?_))
  | (show wpM _ _ _ (Fr.code (K.cond _ _ _) :: _) Ex.normal _ _ _ _ _; first | refine q0r rfl ?_ | refine q0o rfl ?_ | refine q02 rfl (fun _ => ?_) (fun _ => ?_))
  | (show wpM _ _ _ (Fr.ops _ _ (KOper.mk _ _ none _ (KOp.pick _ _ _) :: _) :: _) Ex.normal _ _ _ _ _; refine q0F rfl (fun _ => ?_) (fun _ => ?_))
  | (show wpM _ _ _ [] _ _ _ _ _ _; refine q0c rfl rfl rfl trivial ?_))
 simp [nqb]
theorem qgL (a b : Nat) : PU q5l [.int .u32 a, .int .u32 b] = some (.int .i64 (q3w a b)) := by
 refine q0i (fn := q33) rfl (q0a ?_)
 repeat' (first
  | (refine goP 800 rfl rfl ?_)
  | (show wpM _ _ _ (Fr.ops _ _ (KOper.mk _ _ (some _) _ _ :: _) :: _) Ex.normal _ _ _ _ _; first | refine q0q rfl ?_ | refine q0s rfl ?_ | refine q0g rfl (fun _ => ?_) (fun _ => ?_))
  | (show wpM _ _ _ (Fr.code (K.cond _ _ _) :: _) Ex.normal _ _ _ _ _; first | refine q0r rfl ?_ | refine q0o rfl ?_ | refine q02 rfl (fun _ => ?_) (fun _ => ?_))
  | (show wpM _ _ _ (Fr.ops _ _ (KOper.mk _ _ none _ (KOp.pick _ _ _) :: _) :: _) Ex.normal _ _ _ _ _; refine q0F rfl (fun _ => ?_) (fun _ => ?_))
  | (show wpM _ _ _ [] _ _ _ _ _ _; refine q0c rfl rfl rfl trivial ?_)
  | (show wpM _ _ _ (Fr.ops _ _ (KOper.mk _ _ none _ (KOp.callF q2B _) :: _) :: _) Ex.normal _ _ _ _ _; refine q00 rfl rfl (qaN _) ?_))
 all_goals ((try simp only [q1N, q1T, q2O, q3p, decide_eq_true_eq, decide_eq_false_iff_not, Bool.not_eq_true, Bool.not_eq_false, Int.not_lt, Int.not_le] at *); first | (simp_all [q3w]; done) | (simp_all [q3w]; omega) | (rw [D.bool.injEq, Bool.eq_iff_iff]; simp [q3w]; omega) | (rw [D.bool.injEq, Bool.eq_iff_iff]; simp_all [q3w]; omega) | (simp [q3w]; split <;> (try split) <;> omega))
theorem qg0 {a b : List Nat} (ha : LOk a) {i : Nat} (h : a.drop (i + 1) = b.drop (i + 1)) (hi : dg a i < dg b i) : val a < val b := by
 have e1 := q1Y a i
 have e2 := q1Y b i
 rw [q27] at e1 e2
 rw [h] at e1
 have h1 := q1U (ha.take i)
 have h3 : 4294967296 ^ (a.take i).length ≤ 4294967296 ^ i := Nat.pow_le_pow_right (by decide) (by simp; omega)
 generalize 4294967296 ^ i = P at *
 generalize 4294967296 * val (List.drop (i + 1) b) = R at *
 have h2 : P * (dg a i + R) + P ≤ P * (dg b i + R) := by
  rw [← Nat.mul_succ]; exact Nat.mul_le_mul_left _ (by omega)
 omega
theorem qjD (a b : List Nat) [ha : LOk a] [hb : LOk b] (hla : a.length ≤ 1000000000) (hlb : b.length ≤ 1000000000) : PU q59 [nat a, nat b] = some (.int .i64 (q3w (val a) (val b))) := by
 have ea : val (q06 (val a)) = val a := q0e _
 have eb : val (q06 (val b)) = val b := q0e _
 have hla' : (q06 (val a)).length ≤ a.length := q0f.2 (q1U ha)
 have hlb' : (q06 (val b)).length ≤ b.length := q0f.2 (q1U hb)
 refine q0i (fn := q70) rfl (q0a ?_)
 refine go 800 rfl ?_
 refine q00 rfl rfl (q1G a (by omega)) ?_
 refine go 800 rfl ?_
 refine q00 rfl rfl (q1G b (by omega)) ?_
 refine go 800 rfl ?_
 refine q00 rfl rfl (qaM _ _) ?_
 refine go 800 rfl ?_
 rw [List.length_map, List.length_map]
 refine q02 rfl (fun h1 => ?_) (fun h1 => ?_)
 ·rw [q17] at h1
  refine go 800 rfl ?_
  refine q0c rfl rfl rfl trivial ?_
  congr 1
  unfold q3w at h1 ⊢
  rcases Nat.lt_trichotomy (q06 (val a)).length (q06 (val b)).length with h | h | h
  ·have h2 : ¬ val b < 4294967296 ^ (q06 (val a)).length := fun h3 => by have := q0f.2 h3; omega
   have h3 : val a < 4294967296 ^ (q06 (val a)).length := q0f.1 (Nat.le_refl _)
   rw [if_pos (by omega), if_pos (by omega)]
  ·rw [if_neg (by omega), if_neg (by omega)] at h1; exact absurd rfl h1
  ·have h2 : ¬ val a < 4294967296 ^ (q06 (val b)).length := fun h3 => by have := q0f.2 h3; omega
   have h3 : val b < 4294967296 ^ (q06 (val b)).length := q0f.1 (Nat.le_refl _)
   rw [if_neg (by omega), if_pos (by omega), if_neg (by omega), if_pos (by omega)]
 rw [q1j] at h1
 have hlen : (q06 (val a)).length = (q06 (val b)).length := by
  unfold q3w at h1
  split at h1
  ·cases h1
  ·split at h1
   ·cases h1
   ·omega
 generalize hA : q06 (val a) = A at *
 generalize hB : q06 (val b) = B at *
 have hAo : LOk A := hA ▸ q0n _
 have hBo : LOk B := hB ▸ q0n _
 refine go 800 rfl ?_
 refine q0x (S := fun n : Nat => ([nat A, nat B, q01 ((n : Int) - 1)], [none, none, none], [0, 0, 0])) (C := fun n => n ≤ A.length ∧ A.drop n = B.drop n) (m := fun n => n) A.length ⟨Nat.le_refl _, by rw [List.drop_length, hlen, List.drop_length]⟩ (by omega) ?_ ?_
 ·exact q05 rfl trivial (by simp [nat, q01]; exact wrap64 (by omega) (by omega))
 intro n ⟨hn, hd⟩ N hN
 refine go 800 rfl ?_
 refine q02 rfl (fun h2 => ?_) (fun h2 => ?_)
 ·rw [q24] at h2
  refine go 800 rfl ?_
  refine q0y (n - 1) rfl rfl (by omega) (q1B (by omega)) rfl ?_
  refine go 800 rfl ?_
  refine q0y (n - 1) rfl rfl (by omega) (q1B (by omega)) rfl ?_
  refine go 800 rfl ?_
  refine q00 rfl rfl (qgL _ _) ?_
  refine go 800 rfl ?_
  refine q02 rfl (fun h3 => ?_) (fun h3 => ?_)
  ·rw [q17] at h3
   refine go 800 rfl ?_
   refine q09 ?_
   refine go 800 rfl ?_
   refine q0c rfl rfl rfl trivial ?_
   congr 1
   unfold q3w at h3 ⊢
   have hd' : A.drop (n - 1 + 1) = B.drop (n - 1 + 1) := by rw [Nat.sub_add_cancel (by omega)]; exact hd
   rcases Nat.lt_trichotomy (dg A (n - 1)) (dg B (n - 1)) with h | h | h
   ·have := qg0 hAo hd' h
    rw [if_pos (by omega), if_pos (by omega)]
   ·rw [if_neg (by omega), if_neg (by omega)] at h3; exact absurd rfl h3
   ·have := qg0 hBo hd'.symm h
    rw [if_neg (by omega), if_pos (by omega), if_neg (by omega), if_pos (by omega)]
  ·rw [q1j] at h3
   have heq : dg A (n - 1) = dg B (n - 1) := by
    unfold q3w at h3
    split at h3
    ·cases h3
    ·split at h3
     ·cases h3
     ·omega
   refine go 800 rfl ?_
   refine q09 ?_
   refine hN (n - 1) ⟨by omega, ?_⟩ (by omega) (q05 rfl trivial ?_)
   ·have e1 : A.drop (n - 1) = dg A (n - 1) :: A.drop n := by rw [List.drop_eq_getElem_cons (by omega), qgK (by omega), Nat.sub_add_cancel (by omega)]
    have e2 : B.drop (n - 1) = dg B (n - 1) :: B.drop n := by rw [List.drop_eq_getElem_cons (by omega), qgK (by omega), Nat.sub_add_cancel (by omega)]
    rw [e1, e2, heq, hd]
   ·have w : IntKind.i64.wrap ((n : Int) - 1 - 1) = ((n - 1 : Nat) : Int) - 1 := by rw [wrap64 (by omega) (by omega)]; omega
    simp [nat, q01, w]
 ·rw [q25] at h2
  obtain rfl : n = 0 := by omega
  refine go 800 rfl ?_
  refine q09 ?_
  refine go 800 rfl ?_
  refine q0c rfl rfl rfl trivial ?_
  have : val a = val b := by rw [← ea, ← eb]; simp at hd; rw [hd]
  simp [q3w, this]
end Go.F

namespace Go.F
attribute [local irreducible] IntKind.wrap wpM
theorem q1H {r : List Nat} {k v : Nat} (h : k < r.length) : val ((r.set k v).take (k + 1)) = val (r.take k) + 4294967296 ^ k * v := by
 rw [q0z, q2c, if_pos ⟨rfl, h⟩, List.take_set_of_le (Nat.le_refl _)]
theorem q1k {l : List Nat} (h : LOk l) : (q06 (val l)).length ≤ l.length := q0f.2 (q1U h)
set_option maxHeartbeats 2000000 in
theorem qgM (a b : List Nat) [ha : LOk a] [hb : LOk b] (hla : a.length ≤ 1000000000) (hlb : b.length ≤ 1000000000) : PU q3v [nat a, nat b] = some (nat (q06 (val a + val b))) := by
 have ea : val (q06 (val a)) = val a := q0e _
 have eb : val (q06 (val b)) = val b := q0e _
 have hla' := q1k ha
 have hlb' := q1k hb
 refine q0i (fn := q6X) rfl (q0a ?_)
 refine go 800 rfl ?_
 refine q00 rfl rfl (q1G a (by omega)) ?_
 refine go 800 rfl ?_
 refine q00 rfl rfl (q1G b (by omega)) ?_
 refine go 800 rfl ?_
 rw [List.length_map, List.length_map]
 have hAo : LOk (q06 (val a)) := q0n _
 have hBo : LOk (q06 (val b)) := q0n _
 generalize q06 (val a) = P at *
 generalize q06 (val b) = Q at *
 refine q02 rfl (fun h1 => ?_) (fun h1 => ?_)
 ·rw [q0b] at h1
  have hx := hAo
  clear hAo
  have hAo := hBo
  clear hBo
  have hBo := hx
  refine go 800 rfl ?_
  refine q3O 0 rfl rfl rfl (by rw [List.length_map, wrap64 (by omega) (by omega)]; simp [q0O]; omega) ?_
  refine go 800 rfl ?_
  refine q0x (S := fun x : Nat × List Nat × Nat => ([nat P, .ref 1 0 x.2.1.length, .int .u64 x.2.2, nat Q, q01 Q.length, q01 x.1], [none, some (.row (x.2.1.map u32) 1), none, none, none, none], [0, 0, 0, 0, 0, 0]))
   (C := fun x => x.1 ≤ Q.length ∧ x.2.1.length = x.1 ∧ LOk x.2.1 ∧ x.2.2 ≤ 1 ∧ val x.2.1 + 4294967296 ^ x.1 * x.2.2 = val (Q.take x.1) + val (P.take x.1)) (m := fun x => Q.length - x.1) (0, [], 0) ⟨Nat.zero_le _, rfl, qeg, by decide, by simp [val]⟩ (by simp; omega) ?_ ?_
  ·exact q05 rfl ⟨rfl, trivial⟩ (by simp [nat, q01])
  rintro ⟨k, r, c⟩ ⟨hk, hr, hro, hc, hinv⟩ N hN
  simp only at hk hr hro hc hinv
  refine go 800 rfl ?_
  refine q02 rfl (fun h2 => ?_) (fun h2 => ?_)
  ·rw [q0b] at h2
   have hlt : k < Q.length := by omega
   have hx := q0T hAo k
   have hy := q0T hBo k
   have w1 : IntKind.i64.wrap ((k : Int) + 1) = ((k + 1 : Nat) : Int) := wrap64 (by omega) (by omega)
   have next : ∀ {t : q0p} {h : q08} {z : Frz} {nx : Nat}, (q0R 0 [(1, 0), (5, 1), (6, 0), (24, 0), (25, 0), (26, 0)] t h z nx fun _ _ kp => kp = ([nat P, .ref 1 0 (r ++ [(c + dg Q k + dg P k) % 4294967296]).length, .int .u64 ((c + dg Q k + dg P k) / 2 ^ 32 : Nat), nat Q, q01 Q.length, q01 ((k + 1 : Nat) : Int)], [none, some (.row ((r ++ [(c + dg Q k + dg P k) % 4294967296]).map u32) 1), none, none, none, none], [0, 0, 0, 0, 0, 0])) → N t h z nx := by
    intro t h z nx hst
    refine hN (k + 1, r ++ [(c + dg Q k + dg P k) % 4294967296], (c + dg Q k + dg P k) / 2 ^ 32) ⟨hlt, by simp [hr], hro.snoc (by omega), by simp only; omega, ?_⟩ (by simp only; omega) hst
    simp only
    rw [q4y, hr, q0z, q0z, Nat.pow_succ, Nat.add_assoc, show (2 : Nat) ^ 32 = 4294967296 by decide, q34, Nat.mul_add, Nat.mul_add]
    omega
   clear hN
   refine go 800 rfl ?_
   refine q0y k rfl rfl rfl (q1B hlt) rfl ?_
   refine go 800 rfl ?_
   rw [List.length_map]
   refine q02 rfl (fun h3 => ?_) (fun h3 => ?_)
   ·rw [q0b] at h3
    refine go 800 rfl ?_
    refine q0y k rfl rfl rfl (q1B (by omega)) rfl ?_
    refine go 800 rfl ?_
    have e : IntKind.u64.wrap (IntKind.u64.wrap ((c : Int) + IntKind.u64.wrap (dg Q k : Int)) + IntKind.u64.wrap (dg P k : Int)) = ((c + dg Q k + dg P k : Nat) : Int) := by simp only [q0G]; omega
    rw [e, q0H]
    refine q2w rfl rfl rfl rfl rfl rfl (by simp) (Nat.zero_le _) (by simp [q0O]; omega) ?_
    refine go 800 rfl ?_
    refine q1t (c + dg Q k + dg P k) 32 rfl rfl rfl rfl (by decide) ?_
    refine go 800 rfl ?_
    refine q09 ?_
    refine next (q05 rfl ⟨?_, trivial⟩ ?_)
    ·rw [List.all_append, q07 q0h]; rfl
    ·simp [nat, q01, w1, u32]
   ·rw [q0d] at h3
    have h0 : dg P k = 0 := q5H (by omega)
    refine go 800 rfl ?_
    have e : IntKind.u64.wrap ((c : Int) + IntKind.u64.wrap (dg Q k : Int)) = ((c + dg Q k + dg P k : Nat) : Int) := by simp only [q0G]; omega
    rw [e, q0H]
    refine q2w rfl rfl rfl rfl rfl rfl (by simp) (Nat.zero_le _) (by simp [q0O]; omega) ?_
    refine go 800 rfl ?_
    refine q1t (c + dg Q k + dg P k) 32 rfl rfl rfl rfl (by decide) ?_
    refine go 800 rfl ?_
    refine q09 ?_
    refine next (q05 rfl ⟨?_, trivial⟩ ?_)
    ·rw [List.all_append, q07 q0h]; rfl
    ·simp [nat, q01, w1, u32]
  ·rw [q0d] at h2
   obtain rfl : k = Q.length := by omega
   rw [List.take_length, List.take_of_length_le (l := P) (by omega)] at hinv
   refine go 800 rfl ?_
   refine q09 ?_
   refine go 800 rfl ?_
   have ec : IntKind.u32.wrap (c : Int) = (c : Int) := by rw [q0H]; omega
   rw [ec]
   refine q2w rfl rfl rfl rfl rfl rfl (by simp) (Nat.zero_le _) (by simp [q0O]; omega) ?_
   refine go 800 rfl ?_
   have : LOk (r ++ [c]) := hro.snoc (by omega)
   have hp := q1G (r ++ [c]) (by simp; omega)
   have hv : val (r ++ [c]) = val a + val b := by rw [q4y, hr, hinv]; exact (by omega)
   rw [hv] at hp
   have er : r.map u32 ++ [D.int IntKind.u32 (c : Int)] = (r ++ [c]).map u32 := by simp [u32]
   rw [er]
   refine q1q rfl rfl ⟨q2F (l := r ++ [c]) (by simp), trivial⟩ (by rw [q2P (by simp)]; exact hp) fun z => ?_
   refine go 800 rfl ?_
   exact q0c rfl rfl rfl trivial rfl
 ·rw [q0d] at h1
  refine go 800 rfl ?_
  refine q3O 0 rfl rfl rfl (by rw [List.length_map, wrap64 (by omega) (by omega)]; simp [q0O]; omega) ?_
  refine go 800 rfl ?_
  refine q0x (S := fun x : Nat × List Nat × Nat => ([nat Q, .ref 1 0 x.2.1.length, .int .u64 x.2.2, nat P, q01 P.length, q01 x.1], [none, some (.row (x.2.1.map u32) 1), none, none, none, none], [0, 0, 0, 0, 0, 0]))
   (C := fun x => x.1 ≤ P.length ∧ x.2.1.length = x.1 ∧ LOk x.2.1 ∧ x.2.2 ≤ 1 ∧ val x.2.1 + 4294967296 ^ x.1 * x.2.2 = val (P.take x.1) + val (Q.take x.1)) (m := fun x => P.length - x.1) (0, [], 0) ⟨Nat.zero_le _, rfl, qeg, by decide, by simp [val]⟩ (by simp; omega) ?_ ?_
  ·exact q05 rfl ⟨rfl, trivial⟩ (by simp [nat, q01])
  rintro ⟨k, r, c⟩ ⟨hk, hr, hro, hc, hinv⟩ N hN
  simp only at hk hr hro hc hinv
  refine go 800 rfl ?_
  refine q02 rfl (fun h2 => ?_) (fun h2 => ?_)
  ·rw [q0b] at h2
   have hlt : k < P.length := by omega
   have hx := q0T hAo k
   have hy := q0T hBo k
   have w1 : IntKind.i64.wrap ((k : Int) + 1) = ((k + 1 : Nat) : Int) := wrap64 (by omega) (by omega)
   have next : ∀ {t : q0p} {h : q08} {z : Frz} {nx : Nat}, (q0R 0 [(1, 0), (5, 1), (6, 0), (24, 0), (25, 0), (26, 0)] t h z nx fun _ _ kp => kp = ([nat Q, .ref 1 0 (r ++ [(c + dg P k + dg Q k) % 4294967296]).length, .int .u64 ((c + dg P k + dg Q k) / 2 ^ 32 : Nat), nat P, q01 P.length, q01 ((k + 1 : Nat) : Int)], [none, some (.row ((r ++ [(c + dg P k + dg Q k) % 4294967296]).map u32) 1), none, none, none, none], [0, 0, 0, 0, 0, 0])) → N t h z nx := by
    intro t h z nx hst
    refine hN (k + 1, r ++ [(c + dg P k + dg Q k) % 4294967296], (c + dg P k + dg Q k) / 2 ^ 32) ⟨hlt, by simp [hr], hro.snoc (by omega), by simp only; omega, ?_⟩ (by simp only; omega) hst
    simp only
    rw [q4y, hr, q0z, q0z, Nat.pow_succ, Nat.add_assoc, show (2 : Nat) ^ 32 = 4294967296 by decide, q34, Nat.mul_add, Nat.mul_add]
    omega
   clear hN
   refine go 800 rfl ?_
   refine q0y k rfl rfl rfl (q1B hlt) rfl ?_
   refine go 800 rfl ?_
   rw [List.length_map]
   refine q02 rfl (fun h3 => ?_) (fun h3 => ?_)
   ·rw [q0b] at h3
    refine go 800 rfl ?_
    refine q0y k rfl rfl rfl (q1B (by omega)) rfl ?_
    refine go 800 rfl ?_
    have e : IntKind.u64.wrap (IntKind.u64.wrap ((c : Int) + IntKind.u64.wrap (dg P k : Int)) + IntKind.u64.wrap (dg Q k : Int)) = ((c + dg P k + dg Q k : Nat) : Int) := by simp only [q0G]; omega
    rw [e, q0H]
    refine q2w rfl rfl rfl rfl rfl rfl (by simp) (Nat.zero_le _) (by simp [q0O]; omega) ?_
    refine go 800 rfl ?_
    refine q1t (c + dg P k + dg Q k) 32 rfl rfl rfl rfl (by decide) ?_
    refine go 800 rfl ?_
    refine q09 ?_
    refine next (q05 rfl ⟨?_, trivial⟩ ?_)
    ·rw [List.all_append, q07 q0h]; rfl
    ·simp [nat, q01, w1, u32]
   ·rw [q0d] at h3
    have h0 : dg Q k = 0 := q5H (by omega)
    refine go 800 rfl ?_
    have e : IntKind.u64.wrap ((c : Int) + IntKind.u64.wrap (dg P k : Int)) = ((c + dg P k + dg Q k : Nat) : Int) := by simp only [q0G]; omega
    rw [e, q0H]
    refine q2w rfl rfl rfl rfl rfl rfl (by simp) (Nat.zero_le _) (by simp [q0O]; omega) ?_
    refine go 800 rfl ?_
    refine q1t (c + dg P k + dg Q k) 32 rfl rfl rfl rfl (by decide) ?_
    refine go 800 rfl ?_
    refine q09 ?_
    refine next (q05 rfl ⟨?_, trivial⟩ ?_)
    ·rw [List.all_append, q07 q0h]; rfl
    ·simp [nat, q01, w1, u32]
  ·rw [q0d] at h2
   obtain rfl : k = P.length := by omega
   rw [List.take_length, List.take_of_length_le (l := Q) (by omega)] at hinv
   refine go 800 rfl ?_
   refine q09 ?_
   refine go 800 rfl ?_
   have ec : IntKind.u32.wrap (c : Int) = (c : Int) := by rw [q0H]; omega
   rw [ec]
   refine q2w rfl rfl rfl rfl rfl rfl (by simp) (Nat.zero_le _) (by simp [q0O]; omega) ?_
   refine go 800 rfl ?_
   have : LOk (r ++ [c]) := hro.snoc (by omega)
   have hp := q1G (r ++ [c]) (by simp; omega)
   have hv : val (r ++ [c]) = val a + val b := by rw [q4y, hr, hinv]; exact (by omega)
   rw [hv] at hp
   have er : r.map u32 ++ [D.int IntKind.u32 (c : Int)] = (r ++ [c]).map u32 := by simp [u32]
   rw [er]
   refine q1q rfl rfl ⟨q2F (l := r ++ [c]) (by simp), trivial⟩ (by rw [q2P (by simp)]; exact hp) fun z => ?_
   refine go 800 rfl ?_
   exact q0c rfl rfl rfl trivial rfl
set_option maxHeartbeats 2000000 in
theorem qmZ (a b : List Nat) [ha : LOk a] [hb : LOk b] (hla : a.length ≤ 1000000000) (hlb : b.length ≤ 1000000000) :
 PU q6R [nat a, nat b] = some (if val a < val b then .tup [nat [], .bool false] else .tup [nat (q06 (val a - val b)), .bool true]) := by
 have ea : val (q06 (val a)) = val a := q0e _
 have eb : val (q06 (val b)) = val b := q0e _
 have hla' := q1k ha
 have hlb' := q1k hb
 refine q0i (fn := q75) rfl (q0a ?_)
 refine go 800 rfl ?_
 refine q00 rfl rfl (q1G a (by omega)) ?_
 refine go 800 rfl ?_
 refine q00 rfl rfl (q1G b (by omega)) ?_
 refine go 800 rfl ?_
 have hAo : LOk (q06 (val a)) := q0n _
 have hBo : LOk (q06 (val b)) := q0n _
 have hlen : val b ≤ val a → (q06 (val b)).length ≤ (q06 (val a)).length := fun h => q0f.2 (Nat.lt_of_le_of_lt h (q0f.1 (Nat.le_refl _)))
 generalize q06 (val a) = A at *
 generalize q06 (val b) = B at *
 refine q00 rfl rfl (qjD A B (by omega) (by omega)) ?_
 refine go 800 rfl ?_
 rw [ea, eb]
 refine q02 rfl (fun h1 => ?_) (fun h1 => ?_)
 ·rw [q0b] at h1
  have : val a < val b := by
   unfold q3w at h1
   split at h1
   ·omega
   ·split at h1 <;> omega
  refine go 800 rfl ?_
  refine q0c rfl rfl rfl trivial ?_
  rw [if_pos this]; rfl
 rw [q0d] at h1
 have hle : val b ≤ val a := by
  unfold q3w at h1
  split at h1
  ·omega
  ·omega
 rw [if_neg (by omega)]
 refine go 800 rfl ?_
 refine q3O A.length rfl rfl (by simp) (by simp [q0O]; omega) ?_
 refine go 800 rfl ?_
 refine q0x (S := fun x : Nat × List Nat × Nat => ([nat B, .ref 1 0 A.length, .int .u64 x.2.2, nat A, q01 A.length, q01 x.1], [none, some (.row (x.2.1.map u32) 1), none, none, none, none], [0, 0, 0, 0, 0, 0]))
  (C := fun x => x.1 ≤ A.length ∧ x.2.1.length = A.length ∧ LOk x.2.1 ∧ x.2.2 ≤ 1 ∧ val (x.2.1.take x.1) + val (B.take x.1) = val (A.take x.1) + 4294967296 ^ x.1 * x.2.2) (m := fun x => A.length - x.1) (0, List.replicate A.length 0, 0)
  ⟨Nat.zero_le _, by simp, q3x _, Nat.zero_le _, by simp [val]⟩ (by simp; omega) ?_ ?_
 ·refine q05 rfl ⟨?_, trivial⟩ (by simp [nat, q01, u32])
  rw [List.all_eq_true]; intro x hx; rw [(List.mem_replicate.1 hx).2]; rfl
 rintro ⟨k, r, c⟩ ⟨hk, hr, hro, hc, hinv⟩ N hN
 simp only at hk hr hro hc hinv
 refine go 800 rfl ?_
 refine q02 rfl (fun h2 => ?_) (fun h2 => ?_)
 ·rw [q0b] at h2
  have hlt : k < A.length := by omega
  have hx := q0T hAo k
  have hy := q0T hBo k
  have w1 : IntKind.i64.wrap ((k : Int) + 1) = ((k + 1 : Nat) : Int) := wrap64 (by omega) (by omega)
  have next : ∀ (v c' : Nat), v < 4294967296 → c' ≤ 1 → v + (c + dg B k) = dg A k + 4294967296 * c' → ∀ {t : q0p} {h : q08} {z : Frz} {nx : Nat}, (q0R 0 [(1, 0), (6, 0), (7, 0), (22, 0), (23, 0), (24, 0)] t h z nx fun _ _ kp => kp = ([nat B, .ref 1 0 A.length, .int .u64 c', nat A, q01 A.length, q01 ((k + 1 : Nat) : Int)], [none, some (.row ((r.set k v).map u32) 1), none, none, none, none], [0, 0, 0, 0, 0, 0])) → N t h z nx := by
   intro v c' hv hc' he t h z nx hst
   refine hN (k + 1, r.set k v, c') ⟨hlt, by simp [hr], hro.set k hv, hc', ?_⟩ (by simp only; omega) hst
   simp only
   rw [q1H (by omega), q0z, q0z, Nat.pow_succ]
   have e2 : 4294967296 ^ k * v + (4294967296 ^ k * c + 4294967296 ^ k * dg B k) = 4294967296 ^ k * dg A k + 4294967296 ^ k * 4294967296 * c' := by
    rw [← Nat.mul_add, ← Nat.mul_add, he, Nat.mul_add, Nat.mul_assoc]
   omega
  clear hN
  refine go 800 rfl ?_
  refine q0y k rfl rfl rfl (q1B hlt) rfl ?_
  refine go 800 rfl ?_
  rw [List.length_map]
  have body : ∀ d : Int, d = ((dg A k : Int) - c - dg B k) % 18446744073709551616 →
   (∃ v c' : Nat, IntKind.u32.wrap d = v ∧ d = ((d.toNat : Nat) : Int) ∧ d.toNat / 2 ^ 63 = c' ∧ v < 4294967296 ∧ c' ≤ 1 ∧ v + (c + dg B k) = dg A k + 4294967296 * c') := by
   intro d hd
   rw [q7t]
   refine ⟨(d % 4294967296).toNat, d.toNat / 2 ^ 63, by omega, by omega, rfl, by omega, by omega, by omega⟩
  refine q02 rfl (fun h3 => ?_) (fun h3 => ?_)
  ·rw [q0b] at h3
   refine go 800 rfl ?_
   refine q0y k rfl rfl rfl (q1B (by omega)) rfl ?_
   refine go 800 rfl ?_
   obtain ⟨v, c', g1, g2, g3, g4, g5, g6⟩ := body (IntKind.u64.wrap (IntKind.u64.wrap (IntKind.u64.wrap (dg A k : Int) - (c : Int)) - IntKind.u64.wrap (dg B k : Int))) (by simp only [q0G]; omega)
   generalize IntKind.u64.wrap (IntKind.u64.wrap (IntKind.u64.wrap (dg A k : Int) - (c : Int)) - IntKind.u64.wrap (dg B k : Int)) = d at *
   rw [g1]
   refine q0B k rfl rfl rfl rfl rfl hlt ?_
   refine go 800 rfl ?_
   refine q1c r k v rfl rfl (Nat.zero_add _) rfl rfl (Nat.zero_le _) (by omega) ?_
   refine go 800 rfl ?_
   refine q1t d.toNat 63 rfl rfl g2 rfl (by decide) ?_
   rw [g3]
   refine go 800 rfl ?_
   refine q09 ?_
   exact next v c' g4 g5 g6 (q05 rfl ⟨q07 q0h _, trivial⟩ (by simp [nat, q01, w1]))
  ·rw [q0d] at h3
   have h0 : dg B k = 0 := q5H (by omega)
   refine go 800 rfl ?_
   obtain ⟨v, c', g1, g2, g3, g4, g5, g6⟩ := body (IntKind.u64.wrap (IntKind.u64.wrap (dg A k : Int) - (c : Int))) (by simp only [q0G]; omega)
   generalize IntKind.u64.wrap (IntKind.u64.wrap (dg A k : Int) - (c : Int)) = d at *
   rw [g1]
   refine q0B k rfl rfl rfl rfl rfl hlt ?_
   refine go 800 rfl ?_
   refine q1c r k v rfl rfl (Nat.zero_add _) rfl rfl (Nat.zero_le _) (by omega) ?_
   refine go 800 rfl ?_
   refine q1t d.toNat 63 rfl rfl g2 rfl (by decide) ?_
   rw [g3]
   refine go 800 rfl ?_
   refine q09 ?_
   exact next v c' g4 g5 g6 (q05 rfl ⟨q07 q0h _, trivial⟩ (by simp [nat, q01, w1]))
 ·rw [q0d] at h2
  obtain rfl : k = A.length := by omega
  rw [List.take_length, List.take_of_length_le (l := r) (by omega)] at hinv
  refine go 800 rfl ?_
  refine q09 ?_
  refine go 800 rfl ?_
  have hp := q1G r (by omega)
  have hlen := hlen hle
  rw [List.take_of_length_le (by omega)] at hinv
  have hv : val r = val a - val b := by
   have h1 := q1U hro
   rw [hr] at h1
   have hc0 : c = 0 ∨ c = 1 := by omega
   rcases hc0 with rfl | rfl
   ·omega
   ·omega
  rw [hv] at hp
  refine q1q rfl rfl ⟨q2F (l := r) hr.symm, trivial⟩ (by rw [q2P (l := r) hr.symm]; exact hp) fun z => ?_
  refine go 800 rfl ?_
  exact q0c rfl rfl rfl trivial rfl
end Go.F

namespace Go.F
attribute [local irreducible] IntKind.wrap wpM
theorem q5M (n : Nat) : List.replicate n (D.int IntKind.u32 0) = (List.replicate n 0).map u32 := by
 simp [u32]
theorem q7u {x y : Nat} (hx : x < 4294967296) (hy : y < 4294967296) : x * y ≤ 18446744065119617025 := by
 calc x * y ≤ 4294967295 * 4294967295 := Nat.mul_le_mul (by omega) (by omega)
  _ = 18446744065119617025 := by decide
set_option maxHeartbeats 4000000 in
theorem qei (a b : List Nat) [ha : LOk a] [hb : LOk b] (hla : a.length ≤ 1000000000) (hlb : b.length ≤ 1000000000) : PU q2K [nat a, nat b] = some (nat (q06 (val a * val b))) := by
 have ea : val (q06 (val a)) = val a := q0e _
 have eb : val (q06 (val b)) = val b := q0e _
 have hla' := q1k ha
 have hlb' := q1k hb
 refine q0i (fn := q6Y) rfl (q0a ?_)
 refine go 800 rfl ?_
 refine q00 rfl rfl (q1G a (by omega)) ?_
 refine go 800 rfl ?_
 refine q00 rfl rfl (q1G b (by omega)) ?_
 refine go 800 rfl ?_
 have hAo : LOk (q06 (val a)) := q0n _
 have hBo : LOk (q06 (val b)) := q0n _
 generalize q06 (val a) = A at *
 generalize q06 (val b) = B at *
 have w0 : IntKind.i64.wrap (((A.map u32).length : Int) + ((B.map u32).length : Int)) = ((A.length + B.length : Nat) : Int) := by rw [List.length_map, List.length_map, wrap64 (by omega) (by omega)]; omega
 rw [w0]
 refine q3O (A.length + B.length) rfl rfl rfl (by simp [q0O]; omega) ?_
 rw [q5M]
 refine go 800 rfl ?_
 refine q0x (S := fun x : Nat × List Nat => ([nat B, .ref 1 0 (A.length + B.length), nat A, q01 A.length, q01 x.1], [none, some (.row (x.2.map u32) 1), none, none, none], [0, 0, 0, 0, 0]))
  (C := fun x => x.1 ≤ A.length ∧ x.2.length = A.length + B.length ∧ LOk x.2 ∧ val x.2 = val (A.take x.1) * val B ∧ ∀ j, x.1 + B.length ≤ j → dg x.2 j = 0) (m := fun x => A.length - x.1) (0, List.replicate (A.length + B.length) 0)
  ⟨Nat.zero_le _, by simp, q3x _, by simp [val, q7s], fun j _ => q5n _ _⟩ (by simp; omega) ?_ ?_
 ·exact q05 rfl ⟨q07 q0h _, trivial⟩ (by simp [nat, q01])
 rintro ⟨k, r⟩ ⟨hk, hr, hro, hinv, hz⟩ N hN
 simp only at hk hr hro hinv hz
 refine go 800 rfl ?_
 refine q02 rfl (fun h2 => ?_) (fun h2 => ?_)
 ·rw [q0b] at h2
  have hlt : k < A.length := by omega
  have hx := q0T hAo k
  have w1 : IntKind.i64.wrap ((k : Int) + 1) = ((k + 1 : Nat) : Int) := wrap64 (by omega) (by omega)
  refine go 800 rfl ?_
  refine q0y k rfl rfl rfl (q1B hlt) rfl ?_
  refine go 800 rfl ?_
  refine q0x (S := fun x : Nat × List Nat × Nat => ([nat B, .ref 1 0 (A.length + B.length), q01 k, u32 (dg A k), .int .u64 x.2.2, nat A, q01 A.length, q01 k, nat B, q01 B.length, q01 x.1], [none, some (.row (x.2.1.map u32) 1), none, none, none, none, none, none, none, none, none], [0, 0, 0, 0, 0, 0, 0, 0, 0, 0, 0]))
   (C := fun x => x.1 ≤ B.length ∧ x.2.1.length = A.length + B.length ∧ LOk x.2.1 ∧ x.2.2 < 4294967296 ∧ val x.2.1 + 4294967296 ^ (k + x.1) * x.2.2 = val r + 4294967296 ^ k * (dg A k * val (B.take x.1)) ∧ ∀ j, k + x.1 ≤ j → dg x.2.1 j = dg r j) (m := fun x => B.length - x.1) (0, r, 0)
   ⟨Nat.zero_le _, hr, hro, by simp, by simp [val], fun j _ => rfl⟩ (by simp; omega) ?_ ?_
  ·exact q05 rfl ⟨q07 q0h _, trivial⟩ (by simp [nat, q01, u32])
  rintro ⟨i, r', c⟩ ⟨hi, hr', hro', hc, hinv', hz'⟩ N2 hN2
  simp only at hi hr' hro' hc hinv' hz'
  refine go 800 rfl ?_
  refine q02 rfl (fun h3 => ?_) (fun h3 => ?_)
  ·rw [q0b] at h3
   have hil : i < B.length := by omega
   have hy := q0T hBo i
   have hq := q0T hro' (k + i)
   have hxy := q7u hx hy
   have wi : IntKind.i64.wrap ((i : Int) + 1) = ((i + 1 : Nat) : Int) := wrap64 (by omega) (by omega)
   have wki : IntKind.i64.wrap ((k : Int) + i) = ((k + i : Nat) : Int) := by rw [wrap64 (by omega) (by omega)]; omega
   refine go 800 rfl ?_
   refine q0y i rfl rfl rfl (q1B hil) rfl ?_
   refine go 800 rfl ?_
   refine q0B (k + i) rfl rfl rfl rfl wki (by omega) ?_
   refine go 800 rfl ?_
   refine q35 r' (k + i) rfl (Nat.zero_add _) rfl (by omega) ?_
   refine go 800 rfl ?_
   have e1 : ((dg A k * dg B i : Nat) : Int) = (dg A k : Int) * (dg B i : Int) := by simp
   have e : IntKind.u64.wrap ((c : Int) + IntKind.u64.wrap (IntKind.u64.wrap (IntKind.u64.wrap (dg A k : Int) * IntKind.u64.wrap (dg B i : Int)) + IntKind.u64.wrap (dg r' (k + i) : Int))) = ((c + (dg A k * dg B i + dg r' (k + i)) : Nat) : Int) := by
    rw [q0D (n := dg A k) (by omega), q0D (n := dg B i) (by omega), q0D (n := dg r' (k + i)) (by omega), ← e1, q0D (n := dg A k * dg B i) (by omega)]
    simp only [q0G]; omega
   rw [e, q0H]
   refine q0B (k + i) rfl rfl rfl rfl wki (by omega) ?_
   refine go 800 rfl ?_
   refine q1c r' (k + i) ((c + (dg A k * dg B i + dg r' (k + i))) % 4294967296) rfl rfl (Nat.zero_add _) rfl rfl (Nat.zero_le _) (by omega) ?_
   refine go 800 rfl ?_
   refine q1t (c + (dg A k * dg B i + dg r' (k + i))) 32 rfl rfl rfl rfl (by decide) ?_
   refine go 800 rfl ?_
   refine q09 ?_
   refine hN2 (i + 1, r'.set (k + i) ((c + (dg A k * dg B i + dg r' (k + i))) % 4294967296), (c + (dg A k * dg B i + dg r' (k + i))) / 2 ^ 32) ⟨hil, by simp [hr'], hro'.set _ (by omega), by simp only; omega, ?_, ?_⟩ (by simp only; omega) (q05 rfl ⟨q07 q0h _, trivial⟩ (by simp [nat, q01, wi, u32]))
   ·simp only
    have hs := qbl (l := r') (i := k + i) (v := (c + (dg A k * dg B i + dg r' (k + i))) % 4294967296) (by omega)
    have hcar := q34 (4294967296 ^ (k + i)) (c + (dg A k * dg B i + dg r' (k + i)))
    rw [show (2 : Nat) ^ 32 = 4294967296 by decide, q0z, show k + (i + 1) = (k + i) + 1 from rfl, Nat.pow_succ, Nat.mul_add (dg A k), Nat.mul_add (4294967296 ^ k)]
    rw [Nat.mul_add (4294967296 ^ (k + i)) c, Nat.mul_add (4294967296 ^ (k + i)) (dg A k * dg B i)] at hcar
    have e5 : 4294967296 ^ k * (dg A k * (4294967296 ^ i * dg B i)) = 4294967296 ^ (k + i) * (dg A k * dg B i) := by
     rw [Nat.pow_add, Nat.mul_left_comm (dg A k), ← Nat.mul_assoc]
    rw [e5]
    omega
   ·intro j hj
    simp only at hj ⊢
    rw [q2c, if_neg (by omega)]
    exact hz' j (by omega)
  ·rw [q0d] at h3
   obtain rfl : i = B.length := by omega
   rw [List.take_length] at hinv'
   have wkb : IntKind.i64.wrap ((k : Int) + (B.map u32).length) = ((k + B.length : Nat) : Int) := by rw [List.length_map, wrap64 (by omega) (by omega)]; omega
   have ec : IntKind.u32.wrap (c : Int) = (c : Int) := by rw [q0H]; omega
   refine go 800 rfl ?_
   refine q09 ?_
   refine go 800 rfl ?_
   rw [ec]
   refine q0B (k + B.length) rfl rfl rfl rfl wkb (by omega) ?_
   refine go 800 rfl ?_
   refine q1c r' (k + B.length) c rfl rfl (Nat.zero_add _) rfl rfl (Nat.zero_le _) (by omega) ?_
   refine go 800 rfl ?_
   refine q09 ?_
   have hd0 : dg r' (k + B.length) = 0 := by rw [hz' _ (Nat.le_refl _)]; exact hz _ (Nat.le_refl _)
   have hs := qbl (l := r') (i := k + B.length) (v := c) (by omega)
   rw [hd0, Nat.mul_zero, Nat.add_zero] at hs
   refine hN (k + 1, r'.set (k + B.length) c) ⟨hlt, by simp [hr'], hro'.set _ hc, ?_, ?_⟩ (by simp only; omega) (q05 rfl ⟨q07 q0h _, trivial⟩ (by simp [nat, q01, w1]))
   ·simp only
    rw [hs, hinv', hinv, q0z, Nat.add_mul, Nat.mul_assoc]
   ·intro j hj
    simp only at hj ⊢
    rw [q2c, if_neg (by omega), hz' j (by omega)]
    exact hz j (by omega)
 ·rw [q0d] at h2
  obtain rfl : k = A.length := by omega
  rw [List.take_length] at hinv
  refine go 800 rfl ?_
  refine q09 ?_
  refine go 800 rfl ?_
  have hp := q1G r (by omega)
  rw [hinv, ea, eb] at hp
  refine q1q rfl rfl ⟨q2F (l := r) hr.symm, trivial⟩ (by rw [q2P (l := r) hr.symm]; exact hp) fun z => ?_
  refine go 800 rfl ?_
  exact q0c rfl rfl rfl trivial rfl
end Go.F

namespace Go.F
attribute [local irreducible] IntKind.wrap wpM
section
variable {T : Tab} {sh : Shr} {nx0 : Nat} {s : List Fr} {t : q0p} {h : q08} {z : Frz} {nx : Nat} {q : Ex → q0p → q08 → Frz → Nat → Prop}
variable {base i : Nat} {res : List Nat} {dst : Nat} {g : Gd} {rest : List KOper}
theorem q4z {e : EqK} {x y : X} {kk : IntKind} {a b : Int} (n m : Nat) (hx : x.ev t = .int kk a) (hy : y.ev t = .int kk b) (ha : a = n) (hb : b = m) (hm : m ≠ 0) (hw : kk.wrap ((n / m : Nat) : Int) = ((n / m : Nat) : Int))
 (hk : wpM T sh nx0 (.ops base res rest :: s) .normal (upd t dst (.int kk ((n / m : Nat) : Int))) h z nx q) :
 wpM T sh nx0 (.ops base res (⟨i, some dst, none, g, .bin .quo e x y⟩ :: rest) :: s) .normal t h z nx q := by
 subst ha; subst hb
 refine qhI hx hy (by omega) ?_
 have e : ((n : Int)).tdiv m = ((n / m : Nat) : Int) := by rw [Int.tdiv_eq_ediv_of_nonneg (by omega)]; rfl
 rw [e, hw]
 exact hk
theorem q6l {e : EqK} {x y : X} {kk : IntKind} {a b : Int} (n m : Nat) (hx : x.ev t = .int kk a) (hy : y.ev t = .int kk b) (ha : a = n) (hb : b = m) (hm : m ≠ 0)
 (hk : wpM T sh nx0 (.ops base res rest :: s) .normal (upd t dst (.int kk ((n % m : Nat) : Int))) h z nx q) :
 wpM T sh nx0 (.ops base res (⟨i, some dst, none, g, .bin .rem e x y⟩ :: rest) :: s) .normal t h z nx q := by
 subst ha; subst hb
 refine q4j hx hy (by omega) ?_
 have e : ((n : Int)).tmod m = ((n % m : Nat) : Int) := by rw [Int.tmod_eq_emod_of_nonneg (by omega)]; rfl
 rw [e]
 exact hk
end
theorem q5W (w n : Nat) : BitVec.ofInt w (n : Int) = BitVec.ofNat w n := by simp
theorem qkp {a b : Nat} (ha : a < 4294967296) (hb : b < 4294967296) : IntKind.u64.wrap ((BitVec.ofInt IntKind.u64.bits ((a * 2 ^ 32 : Nat) : Int) ||| BitVec.ofInt IntKind.u64.bits (b : Int)).toNat : Int) = ((a * 4294967296 + b : Nat) : Int) := by
 rw [q5W, q5W, BitVec.toNat_or, BitVec.toNat_ofNat, BitVec.toNat_ofNat]
 have e : IntKind.u64.bits = 64 := rfl
 rw [e, Nat.mod_eq_of_lt (by omega), Nat.mod_eq_of_lt (by omega), Nat.mul_comm a, ← Nat.two_pow_add_eq_or_of_lt (by omega), q0D (by omega)]
theorem orU64' {a b : Nat} (ha : a < 4294967296) (hb : b < 4294967296) : IntKind.u64.wrap ((BitVec.ofInt IntKind.u64.bits (b : Int) ||| BitVec.ofInt IntKind.u64.bits ((a * 2 ^ 32 : Nat) : Int)).toNat : Int) = ((a * 4294967296 + b : Nat) : Int) := by
 rw [BitVec.or_comm]; exact qkp ha hb
set_option maxHeartbeats 2000000 in
theorem qn0 (a : List Nat) (d : Nat) [ha : LOk a] (hla : a.length ≤ 1000000000) (hd0 : d ≠ 0) (hd : d < 4294967296) : PU q8q [nat a, .int .u32 d] = some (.tup [nat (q06 (val a / d)), .int .u32 (val a % d : Nat)]) := by
 refine q0i (fn := q5E) rfl (q0a ?_)
 refine go 800 rfl ?_
 refine q3O a.length rfl rfl (by simp) (by simp [q0O]; omega) ?_
 rw [q5M]
 refine go 800 rfl ?_
 refine q0x (S := fun x : Nat × List Nat × Nat => ([nat a, .int .u32 d, .ref 2 0 a.length, .int .u64 x.2.2, q01 ((x.1 : Int) - 1)], [none, none, some (.row (x.2.1.map u32) 1), none, none], [0, 0, 0, 0, 0]))
  (C := fun x => x.1 ≤ a.length ∧ x.2.1.length = a.length ∧ LOk x.2.1 ∧ x.2.2 < d ∧ val (a.drop x.1) = val (x.2.1.drop x.1) * d + x.2.2) (m := fun x => x.1) (a.length, List.replicate a.length 0, 0)
  ⟨Nat.le_refl _, by simp, q3x _, Nat.pos_of_ne_zero hd0, by simp [val]⟩ (by simp; omega) ?_ ?_
 ·refine q05 rfl ⟨q07 q0h _, trivial⟩ ?_
  have w : IntKind.i64.wrap ((a.length : Int) - 1) = (a.length : Int) - 1 := wrap64 (by omega) (by omega)
  simp [nat, q01, w]
 rintro ⟨n, q, r⟩ ⟨hn, hq, hqo, hr, hinv⟩ N hN
 simp only at hn hq hqo hr hinv
 refine go 800 rfl ?_
 refine q02 rfl (fun h2 => ?_) (fun h2 => ?_)
 ·rw [q24] at h2
  simp only at h2
  have hx := q0T ha (n - 1)
  have hw : IntKind.u64.wrap (dg a (n - 1) : Int) = (dg a (n - 1) : Int) := q0D (by omega)
  have hwd : IntKind.u64.wrap (d : Int) = (d : Int) := q0D (by omega)
  have w2 : IntKind.i64.wrap ((n : Int) - 1 - 1) = ((n - 1 : Nat) : Int) - 1 := by rw [wrap64 (by omega) (by omega)]; omega
  have htd : (r * 4294967296 + dg a (n - 1)) / d < 4294967296 := by
   rw [Nat.div_lt_iff_lt_mul (by omega)]
   calc r * 4294967296 + dg a (n - 1) < (r + 1) * 4294967296 := by omega
    _ ≤ d * 4294967296 := Nat.mul_le_mul_right _ hr
    _ = 4294967296 * d := Nat.mul_comm _ _
  have htm : (r * 4294967296 + dg a (n - 1)) % d < d := Nat.mod_lt _ (by omega)
  refine go 800 rfl ?_
  refine q85 r 32 rfl rfl rfl rfl (by decide) (q0D (by omega)) ?_
  refine go 800 rfl ?_
  refine q0y (n - 1) rfl rfl (by omega) (q1B (by omega)) rfl ?_
  refine go 800 rfl ?_
  rw [hw, qkp (by omega) hx]
  refine go 800 rfl ?_
  rw [hwd]
  refine q4z (r * 4294967296 + dg a (n - 1)) d rfl rfl rfl rfl hd0 (q0D (by omega)) ?_
  refine go 800 rfl ?_
  rw [q0H, Nat.mod_eq_of_lt htd]
  refine q0B (n - 1) rfl rfl rfl rfl (by omega) (by omega) ?_
  refine go 800 rfl ?_
  refine q1c q (n - 1) ((r * 4294967296 + dg a (n - 1)) / d) rfl rfl (Nat.zero_add _) rfl rfl (Nat.zero_le _) (by omega) ?_
  refine go 800 rfl ?_
  rw [hwd]
  refine q6l (r * 4294967296 + dg a (n - 1)) d rfl rfl rfl rfl hd0 ?_
  refine go 800 rfl ?_
  refine q09 ?_
  refine hN (n - 1, q.set (n - 1) ((r * 4294967296 + dg a (n - 1)) / d), (r * 4294967296 + dg a (n - 1)) % d) ⟨by simp only; omega, by simp [hq], hqo.set _ htd, htm, ?_⟩ (by simp only; omega) (q05 rfl ⟨q07 q0h _, trivial⟩ (by simp [nat, q01, w2]))
  simp only
  rw [q27, q27 (q.set _ _), q2c, if_pos ⟨rfl, by omega⟩, Nat.sub_add_cancel (by omega), List.drop_set_of_lt (by omega), hinv]
  have hdm := Nat.div_add_mod (r * 4294967296 + dg a (n - 1)) d
  rw [Nat.add_mul, Nat.mul_assoc 4294967296, Nat.mul_comm ((r * 4294967296 + dg a (n - 1)) / d) d]
  omega
 ·rw [q25] at h2
  simp only at h2
  obtain rfl : n = 0 := by omega
  simp only [List.drop_zero] at hinv
  refine go 800 rfl ?_
  refine q09 ?_
  refine go 800 rfl ?_
  have hp := q1G q (by omega)
  have hv1 : val q = val a / d := by rw [hinv, Nat.add_comm, Nat.add_mul_div_right _ _ (by omega), Nat.div_eq_of_lt hr, Nat.zero_add]
  have hv2 : val a % d = r := by rw [hinv, Nat.add_comm, Nat.add_mul_mod_self_right, Nat.mod_eq_of_lt hr]
  rw [hv1] at hp
  refine q1q rfl rfl ⟨q2F (l := q) hq.symm, trivial⟩ (by rw [q2P (l := q) hq.symm]; exact hp) fun z => ?_
  refine go 800 rfl ?_
  refine q0c rfl rfl rfl trivial ?_
  have e : IntKind.u32.wrap (r : Int) = (r : Int) := by rw [q0H]; omega
  rw [e, hv2]
  rfl
theorem qlz {l : List Nat} {V : Nat} (h : ∀ j, j < l.length → dg l j = V / 4294967296 ^ j % 4294967296) : val l = V % 4294967296 ^ l.length := by
 have key : ∀ k, k ≤ l.length → val (l.take k) = V % 4294967296 ^ k := by
  intro k
  induction k with
  | zero => intro _; simp [val, Nat.mod_one]
  | succ k ih => intro hk; rw [q0z, ih (by omega), h k hk, Nat.mod_pow_succ]
 have := key l.length (Nat.le_refl _)
 rwa [List.take_length] at this
theorem qn1 {a : List Nat} (ha : LOk a) {s : Nat} (hs : s ≤ 31) (i : Nat) : (dg a (i + 1) * 4294967296 + dg a i) / 2 ^ s % 4294967296 = val a / 2 ^ s / 4294967296 ^ i % 4294967296 := by
 have h1 : val a / 4294967296 ^ i = dg a i + 4294967296 * (dg a (i + 1) + 4294967296 * val (a.drop (i + 2))) := by
  rw [← q27 a (i + 1), ← q27 a i]
  have := q1Y a i
  have h2 : val (a.take i) < 4294967296 ^ i ∨ a.length ≤ i := by
   by_cases hl : i ≤ a.length
   ·left
    have := q1U (ha.take i)
    rwa [List.length_take, Nat.min_eq_left hl] at this
   ·right; omega
  rcases h2 with h2 | h2
  ·rw [this, Nat.add_mul_div_left _ _ (Nat.pow_pos (by decide)), Nat.div_eq_of_lt h2, Nat.zero_add]
  ·rw [List.drop_of_length_le h2, Nat.div_eq_of_lt]
   ·rfl
   ·exact Nat.lt_of_lt_of_le (q1U ha) (Nat.pow_le_pow_right (by decide) h2)
 rw [Nat.div_div_eq_div_mul, Nat.mul_comm (2 ^ s), ← Nat.div_div_eq_div_mul, h1]
 generalize val (a.drop (i + 2)) = R
 have e : (18446744073709551616 : Nat) = 2 ^ s * (4294967296 * 2 ^ (32 - s)) := by
  rw [Nat.mul_left_comm, ← Nat.pow_add, show s + (32 - s) = 32 by omega]
 have e2 : dg a i + 4294967296 * (dg a (i + 1) + 4294967296 * R) = (dg a (i + 1) * 4294967296 + dg a i) + 2 ^ s * (4294967296 * 2 ^ (32 - s) * R) := by
  rw [← Nat.mul_assoc (2 ^ s), ← e]; omega
 rw [e2, Nat.add_mul_div_left _ _ (Nat.two_pow_pos s), Nat.mul_assoc, Nat.add_mul_mod_self_left]
set_option maxHeartbeats 2000000 in
theorem qcf (a : List Nat) (s : Nat) [ha : LOk a] (hla : a.length ≤ 1000000000) (hs : s ≤ 31) : PU q8r [nat a, .int .i64 s] = some (nat (q06 (val a / 2 ^ s))) := by
 refine q0i (fn := q5F) rfl (q0a ?_)
 refine go 800 rfl ?_
 refine q3O a.length rfl rfl (by simp) (by simp [q0O]; omega) ?_
 rw [q5M]
 refine go 800 rfl ?_
 refine q0x (S := fun x : Nat × List Nat => ([nat a, q01 s, .ref 2 0 a.length, nat a, q01 a.length, q01 x.1], [none, none, some (.row (x.2.map u32) 1), none, none, none], [0, 0, 0, 0, 0, 0]))
  (C := fun x => x.1 ≤ a.length ∧ x.2.length = a.length ∧ LOk x.2 ∧ ∀ j, j < x.1 → dg x.2 j = val a / 2 ^ s / 4294967296 ^ j % 4294967296) (m := fun x => a.length - x.1) (0, List.replicate a.length 0)
  ⟨Nat.zero_le _, by simp, q3x _, fun j hj => by simp at hj⟩ (by simp; omega) ?_ ?_
 ·exact q05 rfl ⟨q07 q0h _, trivial⟩ (by simp [nat, q01])
 rintro ⟨k, r⟩ ⟨hk, hr, hro, hinv⟩ N hN
 simp only at hk hr hro hinv
 refine go 800 rfl ?_
 refine q02 rfl (fun h2 => ?_) (fun h2 => ?_)
 ·rw [q0b] at h2
  have hlt : k < a.length := by omega
  have hx := q0T ha k
  have hy := q0T ha (k + 1)
  have hw : IntKind.u64.wrap (dg a k : Int) = (dg a k : Int) := q0D (by omega)
  have hwy : IntKind.u64.wrap (dg a (k + 1) : Int) = (dg a (k + 1) : Int) := q0D (by omega)
  have w1 : IntKind.i64.wrap ((k : Int) + 1) = ((k + 1 : Nat) : Int) := wrap64 (by omega) (by omega)
  refine go 800 rfl ?_
  refine q0y k rfl rfl rfl (q1B hlt) rfl ?_
  refine go 800 rfl ?_
  rw [List.length_map, hw]
  refine q02 rfl (fun h3 => ?_) (fun h3 => ?_)
  ·rw [q0b, w1] at h3
   refine go 800 rfl ?_
   refine q0y (k + 1) rfl rfl w1 (q1B (by omega)) rfl ?_
   refine go 800 rfl ?_
   rw [hwy]
   refine q85 (dg a (k + 1)) 32 rfl rfl rfl rfl (by decide) (q0D (by omega)) ?_
   refine go 800 rfl ?_
   rw [orU64' hy hx]
   refine go 800 rfl ?_
   refine q1t (dg a (k + 1) * 4294967296 + dg a k) s rfl rfl rfl rfl (by show s ≤ 64; omega) ?_
   refine go 800 rfl ?_
   rw [q0H]
   refine q0B k rfl rfl rfl rfl rfl hlt ?_
   refine go 800 rfl ?_
   refine q1c r k ((dg a (k + 1) * 4294967296 + dg a k) / 2 ^ s % 4294967296) rfl rfl (Nat.zero_add _) rfl rfl (Nat.zero_le _) (by omega) ?_
   refine go 800 rfl ?_
   refine q09 ?_
   refine hN (k + 1, r.set k ((dg a (k + 1) * 4294967296 + dg a k) / 2 ^ s % 4294967296)) ⟨hlt, by simp [hr], hro.set _ (Nat.mod_lt _ (by decide)), ?_⟩ (by simp only; omega) (q05 rfl ⟨q07 q0h _, trivial⟩ (by simp [nat, q01, w1]))
   intro j hj
   simp only at hj ⊢
   rw [q2c]
   by_cases hjk : k = j
   ·subst hjk
    rw [if_pos ⟨rfl, by omega⟩]
    rw [← qn1 ha hs]
    try rw [q5H (l := a) (i := k + 1) (by omega), Nat.zero_mul, Nat.zero_add]
   ·rw [if_neg (by omega)]
    exact hinv j (by omega)
  ·rw [q0d, w1] at h3
   refine go 800 rfl ?_
   refine q1t (dg a k) s rfl rfl rfl rfl (by show s ≤ 64; omega) ?_
   refine go 800 rfl ?_
   rw [q0H]
   refine q0B k rfl rfl rfl rfl rfl hlt ?_
   refine go 800 rfl ?_
   refine q1c r k ((dg a k) / 2 ^ s % 4294967296) rfl rfl (Nat.zero_add _) rfl rfl (Nat.zero_le _) (by omega) ?_
   refine go 800 rfl ?_
   refine q09 ?_
   refine hN (k + 1, r.set k ((dg a k) / 2 ^ s % 4294967296)) ⟨hlt, by simp [hr], hro.set _ (Nat.mod_lt _ (by decide)), ?_⟩ (by simp only; omega) (q05 rfl ⟨q07 q0h _, trivial⟩ (by simp [nat, q01, w1]))
   intro j hj
   simp only at hj ⊢
   rw [q2c]
   by_cases hjk : k = j
   ·subst hjk
    rw [if_pos ⟨rfl, by omega⟩]
    rw [← qn1 ha hs]
    try rw [q5H (l := a) (i := k + 1) (by omega), Nat.zero_mul, Nat.zero_add]
   ·rw [if_neg (by omega)]
    exact hinv j (by omega)
 ·rw [q0d] at h2
  simp only at h2
  obtain rfl : k = a.length := by omega
  refine go 800 rfl ?_
  refine q09 ?_
  refine go 800 rfl ?_
  have hp := q1G r (by omega)
  have hv : val r = val a / 2 ^ s := by
   rw [qlz (fun j hj => hinv j (by omega)), hr, Nat.mod_eq_of_lt]
   exact Nat.lt_of_le_of_lt (Nat.div_le_self _ _) (q1U ha)
  rw [hv] at hp
  refine q1q rfl rfl ⟨q2F (l := r) hr.symm, trivial⟩ (by rw [q2P (l := r) hr.symm]; exact hp) fun z => ?_
  refine go 800 rfl ?_
  exact q0c rfl rfl rfl trivial rfl
end Go.F

namespace Go.F
attribute [local irreducible] IntKind.wrap wpM
section
variable {T : Tab} {sh : Shr} {nx0 : Nat} {s : List Fr} {t : q0p} {h : q08} {z : Frz} {nx : Nat} {q : Ex → q0p → q08 → Frz → Nat → Prop}
theorem qlA {fn : KFn} {ex : Ex} {d : D} {K : D → q08 → Frz → Nat → Prop} (hex : (match ex with | .exit _ => false | _ => true) = true) (hd : dres t h fn.res = some d) (hk : K d h z nx) :
 wpM T sh nx0 [] ex t h z nx (qfa fn K) := by
 refine q09 ?_
 cases ex with
 | exit i => cases hex
 | normal => exact q7K hd hk
 | ret => exact q7K hd hk
end
theorem q6m {h : q08} {id : Nat} {l : List Nat} (hh : h id = some (.row (l.map u32) 1)) : q1M h id = some (.row (l.map u32) 1) := by
 unfold q1M
 rw [hh]
 simp only [q20, q07 q0h]
 rfl
theorem orU32 {c x s : Nat} (hs : s ≤ 31) (hc : c < 2 ^ s) : IntKind.u32.wrap ((BitVec.ofInt IntKind.u32.bits (c : Int) ||| BitVec.ofInt IntKind.u32.bits ((x * 2 ^ s % 4294967296 : Nat) : Int)).toNat : Int) = ((c + x * 2 ^ s % 4294967296 : Nat) : Int)
 ∧ c + x * 2 ^ s % 4294967296 < 4294967296 := by
 have e : (4294967296 : Nat) = 2 ^ s * 2 ^ (32 - s) := by rw [← Nat.pow_add, show s + (32 - s) = 32 by omega]
 have em : x * 2 ^ s % 4294967296 = 2 ^ s * (x % 2 ^ (32 - s)) := by rw [e, Nat.mul_comm x, Nat.mul_mod_mul_left]
 have hx : x % 2 ^ (32 - s) + 1 ≤ 2 ^ (32 - s) := Nat.mod_lt _ (Nat.two_pow_pos _)
 have hlt : c + x * 2 ^ s % 4294967296 < 4294967296 := by
  have := Nat.mul_le_mul_left (2 ^ s) hx
  rw [← e, Nat.mul_add] at this
  omega
 refine ⟨?_, hlt⟩
 have hsp : 2 ^ s ≤ 2 ^ 31 := Nat.pow_le_pow_right (by decide) hs
 rw [q5W, q5W, BitVec.or_comm, BitVec.toNat_or, BitVec.toNat_ofNat, BitVec.toNat_ofNat]
 have eb : IntKind.u32.bits = 32 := rfl
 rw [eb, Nat.mod_eq_of_lt (show x * 2 ^ s % 4294967296 < 2 ^ 32 by omega), Nat.mod_eq_of_lt (show c < 2 ^ 32 by omega), em, ← Nat.two_pow_add_eq_or_of_lt hc, ← em, q0H, Nat.mod_eq_of_lt (by omega), Nat.add_comm]
set_option maxHeartbeats 2000000 in
theorem left1 (a : List Nat) (s : Nat) [ha : LOk a] (hla : a.length ≤ 1000000000) (hs : s ≤ 31)  {h : q08} {z : Frz} {K : D → q08 → Frz → Nat → Prop} (hold : (fun (_ : q08) (_ : Frz) => True) h z)
 (hk : ∀ (r : List Nat) (h' : q08) (z' : Frz), r.length = a.length + 1 → LOk r → val r = val a * 2 ^ s → h' 80 = some (.row (r.map u32) 1) → z' 80 = 0 → (fun (_ : q08) (_ : Frz) => True) h' z' → K (.ref 80 0 (a.length + 1)) h' z' 130) :
 wpM TT (shr TT 5) 79 [.code k_natural_left.code] .normal (enter [nat a, .int .i64 s]) h z 79 (qfa k_natural_left K) := by
 have h2s : 2 ^ s ≤ 2147483648 := by simpa using Nat.pow_le_pow_right (n := 2) (by decide) hs
 refine go 800 rfl ?_
 have w0 : IntKind.i64.wrap (((a.map u32).length : Int) + 1) = ((a.length + 1 : Nat) : Int) := by rw [List.length_map, wrap64 (by omega) (by omega)]; omega
 rw [w0]
 refine q3O (a.length + 1) rfl rfl rfl (by simp [q0O]; omega) ?_
 rw [q5M]
 refine go 800 rfl ?_
 refine q86 (S := fun x : Nat × List Nat => ([q01 s, .ref 80 0 (a.length + 1), nat a, q01 a.length, q01 x.1], [none, some (.row (x.2.map u32) 1), none, none, none], [0, 0, 0, 0, 0]))
  (O := fun _ ho zo => (fun (_ : q08) (_ : Frz) => True) ho zo)
  (C := fun x => x.1 ≤ a.length ∧ x.2.length = a.length + 1 ∧ LOk x.2 ∧ dg x.2 x.1 < 2 ^ s ∧ val (x.2.take x.1) + 4294967296 ^ x.1 * dg x.2 x.1 = val (a.take x.1) * 2 ^ s ∧ ∀ j, x.1 < j → dg x.2 j = 0) (m := fun x => a.length - x.1) (0, List.replicate (a.length + 1) 0)
  ⟨Nat.zero_le _, by simp, q3x _, by simp only [q5n]; exact Nat.two_pow_pos s, by simp [val, q5n], fun j _ => q5n _ _⟩ (by simp; omega) ?_ ?_
 ·exact q2E rfl ⟨q07 q0h _, trivial⟩ ⟨by simp [nat, q01], trivial⟩
 rintro ⟨k, r⟩ ⟨hk', hr, hro, hc, hinv, hz⟩ ho zo hold N hN
 simp only at hk' hr hro hc hinv hz
 refine go 800 rfl ?_
 refine q02 rfl (fun h2 => ?_) (fun h2 => ?_)
 ·rw [q0b] at h2
  simp only at h2
  have hlt : k < a.length := by omega
  have hx := q0T ha k
  have hw : IntKind.u64.wrap (dg a k : Int) = (dg a k : Int) := q0D (by omega)
  have w1 : IntKind.i64.wrap ((k : Int) + 1) = ((k + 1 : Nat) : Int) := wrap64 (by omega) (by omega)
  have hxs : dg a k * 2 ^ s ≤ 4294967295 * 2147483648 := Nat.mul_le_mul (by omega) h2s
  obtain ⟨ho1, ho2⟩ := orU32 (x := dg a k) hs hc
  have htop : dg a k * 2 ^ s / 2 ^ 32 < 2 ^ s := by
   rw [Nat.div_lt_iff_lt_mul (by decide), Nat.mul_comm]; exact Nat.mul_lt_mul_of_pos_left (by omega) (Nat.two_pow_pos s)
  refine go 800 rfl ?_
  refine q0y k rfl rfl rfl (q1B hlt) rfl ?_
  refine go 800 rfl ?_
  rw [hw]
  refine q85 (dg a k) s rfl rfl rfl rfl (by show s ≤ 64; omega) (q0D (by omega)) ?_
  refine go 800 rfl ?_
  refine q0B k rfl rfl rfl rfl rfl (by omega) ?_
  refine go 800 rfl ?_
  refine q35 r k rfl (Nat.zero_add _) rfl (by omega) ?_
  refine go 800 rfl ?_
  rw [q0H, ho1]
  refine q0B k rfl rfl rfl rfl rfl (by omega) ?_
  refine go 800 rfl ?_
  refine q1c r k (dg r k + dg a k * 2 ^ s % 4294967296) rfl rfl (Nat.zero_add _) rfl rfl (Nat.zero_le _) (by omega) ?_
  refine go 800 rfl ?_
  refine q1t (dg a k * 2 ^ s) 32 rfl rfl rfl rfl (by decide) ?_
  have e3 : IntKind.u32.wrap ((dg a k * 2 ^ s / 2 ^ 32 : Nat) : Int) = ((dg a k * 2 ^ s / 2 ^ 32 : Nat) : Int) := by rw [q0H]; omega
  refine go 800 rfl ?_
  rw [e3]
  refine q0B (k + 1) rfl rfl rfl rfl w1 (by omega) ?_
  refine go 800 rfl ?_
  refine q1c (r.set k (dg r k + dg a k * 2 ^ s % 4294967296)) (k + 1) (dg a k * 2 ^ s / 2 ^ 32) rfl rfl (Nat.zero_add _) rfl rfl (Nat.zero_le _) (by simp; omega) ?_
  refine go 800 rfl ?_
  refine q09 ?_
  refine hN (k + 1, (r.set k (dg r k + dg a k * 2 ^ s % 4294967296)).set (k + 1) (dg a k * 2 ^ s / 2 ^ 32)) ⟨hlt, by simp [hr], (hro.set _ ho2).set _ (by omega), ?_, ?_, ?_⟩ (by simp only; omega)
   (q2E rfl ⟨q07 q0h _, trivial⟩ ⟨by simp [nat, q01, w1], trivial⟩)
  ·simp only
   rw [q2c, if_pos ⟨rfl, by simp; omega⟩]; exact htop
  ·simp only
   rw [q2c, if_pos ⟨rfl, by simp; omega⟩, List.take_set_of_le (Nat.le_refl _), q1H (by omega), q0z a, Nat.add_mul, ← hinv, show (2 : Nat) ^ 32 = 4294967296 by decide, Nat.pow_succ, Nat.add_assoc, Nat.mul_add, Nat.add_assoc, q34, Nat.mul_assoc, Nat.add_assoc]
  ·intro j hj
   simp only at hj ⊢
   rw [q2c, if_neg (by omega), q2c, if_neg (by omega)]
   exact hz j (by omega)
 ·rw [q0d] at h2
  simp only at h2
  obtain rfl : k = a.length := by omega
  rw [List.take_length] at hinv
  refine go 800 rfl ?_
  refine q09 ?_
  refine go 800 rfl ?_
  refine qlA rfl rfl (hk r _ _ hr hro ?_ rfl rfl (trivial))
  rw [← hinv, ← List.take_of_length_le (l := r) (i := a.length + 1) (by omega), q0z]
  rw [List.take_of_length_le (l := r) (i := a.length + 1) (by omega)]
set_option maxHeartbeats 2000000 in
theorem left2 (a : List Nat) (s : Nat) [ha : LOk a] (hla : a.length ≤ 1000000000) (hs : s ≤ 31) (us : List Nat) {h : q08} {z : Frz} {K : D → q08 → Frz → Nat → Prop} (hold : (fun (hh : q08) (zz : Frz) => hh 80 = some (.row (us.map u32) 1) ∧ zz 80 = 0) h z)
 (hk : ∀ (r : List Nat) (h' : q08) (z' : Frz), r.length = a.length + 1 → LOk r → val r = val a * 2 ^ s → h' 131 = some (.row (r.map u32) 1) → z' 131 = 0 → (fun (hh : q08) (zz : Frz) => hh 80 = some (.row (us.map u32) 1) ∧ zz 80 = 0) h' z' → K (.ref 131 0 (a.length + 1)) h' z' 181) :
 wpM TT (shr TT 5) 130 [.code k_natural_left.code] .normal (enter [nat a, .int .i64 s]) h z 130 (qfa k_natural_left K) := by
 have h2s : 2 ^ s ≤ 2147483648 := by simpa using Nat.pow_le_pow_right (n := 2) (by decide) hs
 refine go 800 rfl ?_
 have w0 : IntKind.i64.wrap (((a.map u32).length : Int) + 1) = ((a.length + 1 : Nat) : Int) := by rw [List.length_map, wrap64 (by omega) (by omega)]; omega
 rw [w0]
 refine q3O (a.length + 1) rfl rfl rfl (by simp [q0O]; omega) ?_
 rw [q5M]
 refine go 800 rfl ?_
 refine q86 (S := fun x : Nat × List Nat => ([q01 s, .ref 131 0 (a.length + 1), nat a, q01 a.length, q01 x.1], [none, some (.row (x.2.map u32) 1), none, none, none], [0, 0, 0, 0, 0]))
  (O := fun _ ho zo => (fun (hh : q08) (zz : Frz) => hh 80 = some (.row (us.map u32) 1) ∧ zz 80 = 0) ho zo)
  (C := fun x => x.1 ≤ a.length ∧ x.2.length = a.length + 1 ∧ LOk x.2 ∧ dg x.2 x.1 < 2 ^ s ∧ val (x.2.take x.1) + 4294967296 ^ x.1 * dg x.2 x.1 = val (a.take x.1) * 2 ^ s ∧ ∀ j, x.1 < j → dg x.2 j = 0) (m := fun x => a.length - x.1) (0, List.replicate (a.length + 1) 0)
  ⟨Nat.zero_le _, by simp, q3x _, by simp only [q5n]; exact Nat.two_pow_pos s, by simp [val, q5n], fun j _ => q5n _ _⟩ (by simp; omega) ?_ ?_
 ·exact q2E rfl ⟨q07 q0h _, trivial⟩ ⟨by simp [nat, q01], ⟨q6m hold.1, hold.2⟩⟩
 rintro ⟨k, r⟩ ⟨hk', hr, hro, hc, hinv, hz⟩ ho zo hold N hN
 simp only at hk' hr hro hc hinv hz
 refine go 800 rfl ?_
 refine q02 rfl (fun h2 => ?_) (fun h2 => ?_)
 ·rw [q0b] at h2
  simp only at h2
  have hlt : k < a.length := by omega
  have hx := q0T ha k
  have hw : IntKind.u64.wrap (dg a k : Int) = (dg a k : Int) := q0D (by omega)
  have w1 : IntKind.i64.wrap ((k : Int) + 1) = ((k + 1 : Nat) : Int) := wrap64 (by omega) (by omega)
  have hxs : dg a k * 2 ^ s ≤ 4294967295 * 2147483648 := Nat.mul_le_mul (by omega) h2s
  obtain ⟨ho1, ho2⟩ := orU32 (x := dg a k) hs hc
  have htop : dg a k * 2 ^ s / 2 ^ 32 < 2 ^ s := by
   rw [Nat.div_lt_iff_lt_mul (by decide), Nat.mul_comm]; exact Nat.mul_lt_mul_of_pos_left (by omega) (Nat.two_pow_pos s)
  refine go 800 rfl ?_
  refine q0y k rfl rfl rfl (q1B hlt) rfl ?_
  refine go 800 rfl ?_
  rw [hw]
  refine q85 (dg a k) s rfl rfl rfl rfl (by show s ≤ 64; omega) (q0D (by omega)) ?_
  refine go 800 rfl ?_
  refine q0B k rfl rfl rfl rfl rfl (by omega) ?_
  refine go 800 rfl ?_
  refine q35 r k rfl (Nat.zero_add _) rfl (by omega) ?_
  refine go 800 rfl ?_
  rw [q0H, ho1]
  refine q0B k rfl rfl rfl rfl rfl (by omega) ?_
  refine go 800 rfl ?_
  refine q1c r k (dg r k + dg a k * 2 ^ s % 4294967296) rfl rfl (Nat.zero_add _) rfl rfl (Nat.zero_le _) (by omega) ?_
  refine go 800 rfl ?_
  refine q1t (dg a k * 2 ^ s) 32 rfl rfl rfl rfl (by decide) ?_
  have e3 : IntKind.u32.wrap ((dg a k * 2 ^ s / 2 ^ 32 : Nat) : Int) = ((dg a k * 2 ^ s / 2 ^ 32 : Nat) : Int) := by rw [q0H]; omega
  refine go 800 rfl ?_
  rw [e3]
  refine q0B (k + 1) rfl rfl rfl rfl w1 (by omega) ?_
  refine go 800 rfl ?_
  refine q1c (r.set k (dg r k + dg a k * 2 ^ s % 4294967296)) (k + 1) (dg a k * 2 ^ s / 2 ^ 32) rfl rfl (Nat.zero_add _) rfl rfl (Nat.zero_le _) (by simp; omega) ?_
  refine go 800 rfl ?_
  refine q09 ?_
  refine hN (k + 1, (r.set k (dg r k + dg a k * 2 ^ s % 4294967296)).set (k + 1) (dg a k * 2 ^ s / 2 ^ 32)) ⟨hlt, by simp [hr], (hro.set _ ho2).set _ (by omega), ?_, ?_, ?_⟩ (by simp only; omega)
   (q2E rfl ⟨q07 q0h _, trivial⟩ ⟨by simp [nat, q01, w1], ⟨q6m hold.1, hold.2⟩⟩)
  ·simp only
   rw [q2c, if_pos ⟨rfl, by simp; omega⟩]; exact htop
  ·simp only
   rw [q2c, if_pos ⟨rfl, by simp; omega⟩, List.take_set_of_le (Nat.le_refl _), q1H (by omega), q0z a, Nat.add_mul, ← hinv, show (2 : Nat) ^ 32 = 4294967296 by decide, Nat.pow_succ, Nat.add_assoc, Nat.mul_add, Nat.add_assoc, q34, Nat.mul_assoc, Nat.add_assoc]
  ·intro j hj
   simp only at hj ⊢
   rw [q2c, if_neg (by omega), q2c, if_neg (by omega)]
   exact hz j (by omega)
 ·rw [q0d] at h2
  simp only at h2
  obtain rfl : k = a.length := by omega
  rw [List.take_length] at hinv
  refine go 800 rfl ?_
  refine q09 ?_
  refine go 800 rfl ?_
  refine qlA rfl rfl (hk r _ _ hr hro ?_ rfl rfl (hold))
  rw [← hinv, ← List.take_of_length_le (l := r) (i := a.length + 1) (by omega), q0z]
  rw [List.take_of_length_le (l := r) (i := a.length + 1) (by omega)]
end Go.F

namespace Go.F
attribute [local irreducible] IntKind.wrap wpM
def len8 : ByteArray := ⟨#[0, 1, 2, 2, 3, 3, 3, 3, 4, 4, 4, 4, 4, 4, 4, 4, 5, 5, 5, 5, 5, 5, 5, 5, 5, 5, 5, 5, 5, 5, 5, 5, 6, 6, 6, 6, 6, 6, 6, 6, 6, 6, 6, 6, 6, 6, 6, 6, 6, 6, 6, 6, 6, 6, 6, 6, 6, 6, 6, 6, 6, 6, 6, 6, 7, 7, 7, 7, 7, 7, 7, 7, 7, 7, 7, 7, 7, 7, 7, 7, 7, 7, 7, 7, 7, 7, 7, 7, 7, 7, 7, 7, 7, 7, 7, 7, 7, 7, 7, 7, 7, 7, 7, 7, 7, 7, 7, 7, 7, 7, 7, 7, 7, 7, 7, 7, 7, 7, 7, 7, 7, 7, 7, 7, 7, 7, 7, 7, 8, 8, 8, 8, 8, 8, 8, 8, 8, 8, 8, 8, 8, 8, 8, 8, 8, 8, 8, 8, 8, 8, 8, 8, 8, 8, 8, 8, 8, 8, 8, 8, 8, 8, 8, 8, 8, 8, 8, 8, 8, 8, 8, 8, 8, 8, 8, 8, 8, 8, 8, 8, 8, 8, 8, 8, 8, 8, 8, 8, 8, 8, 8, 8, 8, 8, 8, 8, 8, 8, 8, 8, 8, 8, 8, 8, 8, 8, 8, 8, 8, 8, 8, 8, 8, 8, 8, 8, 8, 8, 8, 8, 8, 8, 8, 8, 8, 8, 8, 8, 8, 8, 8, 8, 8, 8, 8, 8, 8, 8, 8, 8, 8, 8, 8, 8, 8, 8, 8, 8, 8, 8, 8, 8, 8, 8, 8, 8]⟩
def q5o (k : Nat) : UInt8 := len8.data.toList.getD k 0
set_option maxRecDepth 100000 in
theorem q4A : ∀ k, k < 256 → len8.data.toList[k]? = some (q5o k) ∧ (q5o k).toNat ≤ 8 ∧ k < 2 ^ (q5o k).toNat ∧ (k ≠ 0 → 2 ^ (q5o k).toNat ≤ 2 * k) := by decide +kernel
theorem qdj {k : Nat} (h : k < 256) : len8.toList[k]? = some (q5o k) := by
 rw [Go.ByteArray.toList_eq]; exact (q4A k h).1
theorem qn2 (x : Nat) (hx : x < 4294967296) : ∃ L : Nat, PU qbg [.int .u32 x] = some (.int .i64 L) ∧ L ≤ 32 ∧ x < 2 ^ L ∧ (x ≠ 0 → 2 ^ L ≤ 2 * x) := by
 by_cases h1 : 65536 ≤ x
 ·by_cases h2 : 256 ≤ x / 2 ^ 16
  ·have hy : x / 2 ^ 16 / 2 ^ 8 < 256 := by omega
   obtain ⟨_, g2, g3, g4⟩ := q4A (x / 2 ^ 16 / 2 ^ 8) hy
   refine ⟨24 + (q5o (x / 2 ^ 16 / 2 ^ 8)).toNat, ?_, by omega, ?_, fun h0 => ?_⟩
   ·refine q0i (fn := q3h) rfl (q0a ?_)
    refine go 800 rfl ?_
    refine q02 rfl (fun g => ?_) (fun g => ?_)
    ·refine go 800 rfl ?_
     refine q1t x 16 rfl rfl rfl rfl (by decide) ?_
     refine go 800 rfl ?_
     refine q02 rfl (fun g => ?_) (fun g => ?_)
     ·refine go 800 rfl ?_
      refine q1t (x / 2 ^ 16) 8 rfl rfl rfl rfl (by decide) ?_
      have hy : (x / 2 ^ 16 / 2 ^ 8) < 256 := by omega
      obtain ⟨_, g2, g3, g4⟩ := q4A ((x / 2 ^ 16 / 2 ^ 8)) hy
      have w8 : IntKind.u8.wrap (((x / 2 ^ 16 / 2 ^ 8) : Nat) : Int) = (((x / 2 ^ 16 / 2 ^ 8) : Nat) : Int) := by simp [IntKind.wrap, IntKind.bits, IntKind.signed]; omega
      have w9 : IntKind.i64.wrap (((q5o ((x / 2 ^ 16 / 2 ^ 8))).toNat : Nat) : Int) = (((q5o ((x / 2 ^ 16 / 2 ^ 8))).toNat : Nat) : Int) := wrap64 (by omega) (by omega)
      refine go 800 rfl ?_
      refine q8O ((x / 2 ^ 16 / 2 ^ 8)) rfl rfl w8 (qdj hy) ?_
      refine go 800 rfl ?_
      refine q0c rfl rfl rfl trivial ?_
      rw [w9]
      congr 1
      rw [wrap64 (x := 16 + 8) (by omega) (by omega), wrap64 (by omega) (by omega)]
      omega
     ·rw [q25] at g; omega
    ·rw [q25] at g; omega
   ·rw [Nat.pow_add]; omega
   ·have := g4 (by omega); rw [Nat.pow_add]; omega
  ·have hy : x / 2 ^ 16 < 256 := by omega
   obtain ⟨_, g2, g3, g4⟩ := q4A (x / 2 ^ 16) hy
   refine ⟨16 + (q5o (x / 2 ^ 16)).toNat, ?_, by omega, ?_, fun h0 => ?_⟩
   ·refine q0i (fn := q3h) rfl (q0a ?_)
    refine go 800 rfl ?_
    refine q02 rfl (fun g => ?_) (fun g => ?_)
    ·refine go 800 rfl ?_
     refine q1t x 16 rfl rfl rfl rfl (by decide) ?_
     refine go 800 rfl ?_
     refine q02 rfl (fun g => ?_) (fun g => ?_)
     ·rw [q24] at g; omega
     ·have hy : (x / 2 ^ 16) < 256 := by omega
      obtain ⟨_, g2, g3, g4⟩ := q4A ((x / 2 ^ 16)) hy
      have w8 : IntKind.u8.wrap (((x / 2 ^ 16) : Nat) : Int) = (((x / 2 ^ 16) : Nat) : Int) := by simp [IntKind.wrap, IntKind.bits, IntKind.signed]; omega
      have w9 : IntKind.i64.wrap (((q5o ((x / 2 ^ 16))).toNat : Nat) : Int) = (((q5o ((x / 2 ^ 16))).toNat : Nat) : Int) := wrap64 (by omega) (by omega)
      refine go 800 rfl ?_
      refine q8O ((x / 2 ^ 16)) rfl rfl w8 (qdj hy) ?_
      refine go 800 rfl ?_
      refine q0c rfl rfl rfl trivial ?_
      rw [w9]
      congr 1
      rw [wrap64 (by omega) (by omega)]
      omega
    ·rw [q25] at g; omega
   ·rw [Nat.pow_add]; omega
   ·have := g4 (by omega); rw [Nat.pow_add]; omega
 ·by_cases h2 : 256 ≤ x
  ·have hy : x / 2 ^ 8 < 256 := by omega
   obtain ⟨_, g2, g3, g4⟩ := q4A (x / 2 ^ 8) hy
   refine ⟨8 + (q5o (x / 2 ^ 8)).toNat, ?_, by omega, ?_, fun h0 => ?_⟩
   ·refine q0i (fn := q3h) rfl (q0a ?_)
    refine go 800 rfl ?_
    refine q02 rfl (fun g => ?_) (fun g => ?_)
    ·rw [q24] at g; omega
    ·refine go 800 rfl ?_
     refine q02 rfl (fun g => ?_) (fun g => ?_)
     ·refine go 800 rfl ?_
      refine q1t x 8 rfl rfl rfl rfl (by decide) ?_
      have hy : (x / 2 ^ 8) < 256 := by omega
      obtain ⟨_, g2, g3, g4⟩ := q4A ((x / 2 ^ 8)) hy
      have w8 : IntKind.u8.wrap (((x / 2 ^ 8) : Nat) : Int) = (((x / 2 ^ 8) : Nat) : Int) := by simp [IntKind.wrap, IntKind.bits, IntKind.signed]; omega
      have w9 : IntKind.i64.wrap (((q5o ((x / 2 ^ 8))).toNat : Nat) : Int) = (((q5o ((x / 2 ^ 8))).toNat : Nat) : Int) := wrap64 (by omega) (by omega)
      refine go 800 rfl ?_
      refine q8O ((x / 2 ^ 8)) rfl rfl w8 (qdj hy) ?_
      refine go 800 rfl ?_
      refine q0c rfl rfl rfl trivial ?_
      rw [w9]
      congr 1
      rw [wrap64 (x := 0 + 8) (by omega) (by omega), wrap64 (by omega) (by omega)]
      omega
     ·rw [q25] at g; omega
   ·rw [Nat.pow_add]; omega
   ·have := g4 (by omega); rw [Nat.pow_add]; omega
  ·have hy : x < 256 := by omega
   obtain ⟨_, g2, g3, g4⟩ := q4A x hy
   refine ⟨(q5o x).toNat, ?_, by omega, g3, g4⟩
   refine q0i (fn := q3h) rfl (q0a ?_)
   refine go 800 rfl ?_
   refine q02 rfl (fun g => ?_) (fun g => ?_)
   ·rw [q24] at g; omega
   ·refine go 800 rfl ?_
    refine q02 rfl (fun g => ?_) (fun g => ?_)
    ·rw [q24] at g; omega
    ·have hy : x < 256 := by omega
     obtain ⟨_, g2, g3, g4⟩ := q4A (x) hy
     have w8 : IntKind.u8.wrap ((x : Nat) : Int) = ((x : Nat) : Int) := by simp [IntKind.wrap, IntKind.bits, IntKind.signed]; omega
     have w9 : IntKind.i64.wrap (((q5o (x)).toNat : Nat) : Int) = (((q5o (x)).toNat : Nat) : Int) := wrap64 (by omega) (by omega)
     refine go 800 rfl ?_
     refine q8O (x) rfl rfl w8 (qdj hy) ?_
     refine go 800 rfl ?_
     refine q0c rfl rfl rfl trivial ?_
     rw [w9]
     congr 1
     rw [wrap64 (by omega) (by omega)]
     omega
theorem qbm (x : Nat) (hx : x < 4294967296) (h0 : x ≠ 0) : ∃ s : Nat, PU q4F [.int .u32 x] = some (.int .i64 s) ∧ s ≤ 31 ∧ 2147483648 ≤ x * 2 ^ s ∧ (x + 1) * 2 ^ s ≤ 4294967296 := by
 obtain ⟨L, h1, h2, h3, h4⟩ := qn2 x hx
 have h4 := h4 h0
 have hL : L ≠ 0 := by rintro rfl; simp at h3; exact h0 h3
 refine ⟨32 - L, ?_, by omega, ?_, ?_⟩
 ·refine q0i (fn := q2N) rfl (q0a ?_)
  refine go 800 rfl ?_
  refine q00 rfl rfl h1 ?_
  refine go 800 rfl ?_
  refine q0c rfl rfl rfl trivial ?_
  congr 1
  rw [wrap64 (by omega) (by omega)]
  omega
 ·have e : 2 ^ L * 2 ^ (32 - L) = 4294967296 := by rw [← Nat.pow_add, show L + (32 - L) = 32 by omega]
  have := Nat.mul_le_mul_right (2 ^ (32 - L)) h4
  rw [e, Nat.mul_assoc] at this
  omega
 ·have e : 2 ^ L * 2 ^ (32 - L) = 4294967296 := by rw [← Nat.pow_add, show L + (32 - L) = 32 by omega]
  rw [← e]
  exact Nat.mul_le_mul_right _ h3
end Go.F

namespace Go.F
attribute [local irreducible] IntKind.wrap wpM
theorem dg_mid {pre w post : List Nat} {k : Nat} (h : k < w.length) : dg (pre ++ w ++ post) (pre.length + k) = dg w k := by
 rw [qeh (by simp; omega), qd9 (by omega)]
 congr 1; omega
theorem set_mid {pre w post : List Nat} {k v : Nat} (h : k < w.length) : (pre ++ w ++ post).set (pre.length + k) v = pre ++ w.set k v ++ post := by
 rw [List.set_append_left _ _ (by simp; omega), List.set_append_right _ _ (by omega)]
 congr 3; omega
section
variable {T : Tab} {sh : Shr} {nx0 : Nat} {s : List Fr} {t : q0p} {h : q08} {z : Frz} {nx : Nat} {q : Ex → q0p → q08 → Frz → Nat → Prop}
variable {base i : Nat} {res : List Nat} {g : Gd} {rest : List KOper}
theorem q3y {hint : Bool} {a v : X} {dst : Option Nat} {id k' : Nat} {w' : Int} (pre w post : List Nat) (k x : Nat) (ha : a.ev t = .ptr id k' 0) (hv : v.ev t = .int .u32 w') (hkk : k' = pre.length + k) (hw : w' = x) (hr : g.h base h id = some (.row ((pre ++ w ++ post).map u32) 1)) (hz : g.z base z id = 0) (hl : k < w.length)
 (hk : wpM T sh nx0 (.ops base res rest :: s) .normal (put t dst (.tup [])) (upd h id (some (.row ((pre ++ w.set k x ++ post).map u32) 1))) z nx q) :
 wpM T sh nx0 (.ops base res (⟨i, dst, none, g, .store hint 1 a v⟩ :: rest) :: s) .normal t h z nx q := by
 refine q1c (pre ++ w ++ post) (pre.length + k) x ha hv hkk hw hr (by omega) (by simp; omega) ?_
 rw [set_mid hl]
 exact hk
theorem q4B {hint : Bool} {a : X} {dst : Nat} {id k' : Nat} (pre w post : List Nat) (k : Nat) (ha : a.ev t = .ptr id k' 0) (hkk : k' = pre.length + k) (hr : g.h base h id = some (.row ((pre ++ w ++ post).map u32) 1)) (hl : k < w.length)
 (hk : wpM T sh nx0 (.ops base res rest :: s) .normal (upd t dst (.int .u32 (dg w k))) h z nx q) :
 wpM T sh nx0 (.ops base res (⟨i, some dst, none, g, .load hint false 1 a⟩ :: rest) :: s) .normal t h z nx q := by
 refine q35 (pre ++ w ++ post) (pre.length + k) ha hkk hr (by simp; omega) ?_
 rw [dg_mid hl]
 exact hk
end
theorem qdk {l : List Nat} {n : Nat} (h : LOk l) (hn : l.length = n + 1) : val l = val (l.take n) + 4294967296 ^ n * dg l n ∧ val (l.take n) < 4294967296 ^ n := by
 constructor
 ·have := q0z l n
  rwa [List.take_of_length_le (by omega)] at this
 ·have := q1U (h.take n)
  rwa [List.length_take, hn, Nat.min_eq_left (by omega)] at this
theorem q1n {l : List Nat} (h : LOk l) (n : Nat) : val (l.take n) < 4294967296 ^ n := by
 refine Nat.lt_of_lt_of_le (q1U (h.take n)) (Nat.pow_le_pow_right (by decide) (by simp; omega))
structure Trial (w v : List Nat) (n : Nat) : Prop where
 n2 : 2 ≤ n
 wl : w.length = n + 1
 wo : LOk w
 vo : LOk v
 vl : n ≤ v.length
 hi : 2147483648 ≤ dg v (n - 1)
 lt : val w < 4294967296 * val (v.take n)
theorem aux0 (T : Nat) {d : Nat} (h : 0 < d) : T < (T / d + 1) * d := by
 have := Nat.div_add_mod T d
 have hm := Nat.mod_lt T h
 rw [Nat.add_mul, Nat.one_mul, Nat.mul_comm]
 omega
theorem aux1 {x P T d : Nat} (h1 : x < P) (h2 : d < 4294967296) : x + P * (T * 4294967296 + d) < (T + 1) * (P * 4294967296) := by
 have h3 : P * (T * 4294967296 + d) + P ≤ (T + 1) * (P * 4294967296) := by
  have e : (T + 1) * (P * 4294967296) = P * ((T + 1) * 4294967296) := by rw [Nat.mul_left_comm]
  rw [e, ← Nat.mul_succ]
  exact Nat.mul_le_mul_left _ (by omega)
 omega
theorem aux2 {q a b r d : Nat} (h : r * 4294967296 + d < q * b) : (q * a + r) * 4294967296 + d < q * (a * 4294967296 + b) := by
 grind
theorem aux3 {q a b r d : Nat} (h0 : q * b ≤ 18446744065119617025) (h : 4294967296 ≤ r ∨ q * b ≤ r * 4294967296 + d) : q * (a * 4294967296 + b) ≤ (q * a + r) * 4294967296 + d := by
 rw [Nat.mul_add q, ← Nat.mul_assoc]
 omega
theorem qkq {x P T : Nat} (h : x < P) : x + P * T < (T + 1) * P := by
 rw [Nat.add_mul, Nat.one_mul, Nat.mul_comm P]; omega
theorem qkr {x P T : Nat} : T * P ≤ x + P * T := by
 rw [Nat.mul_comm P]; omega
theorem Trial.v3 {w v : List Nat} {n : Nat} (h : Trial w v n) : val (v.take n) = val (v.take (n - 2)) + 4294967296 ^ (n - 2) * (dg v (n - 1) * 4294967296 + dg v (n - 2)) := by
 obtain ⟨m, rfl⟩ : ∃ m, n = m + 2 := ⟨n - 2, by have := h.n2; omega⟩
 simp only [Nat.add_sub_cancel, show m + 2 - 1 = m + 1 by omega]
 rw [q0z, q0z, Nat.pow_succ, Nat.mul_add, Nat.mul_assoc, Nat.mul_comm 4294967296]
 omega
theorem Trial.w3 {w v : List Nat} {n : Nat} (h : Trial w v n) : val w = val (w.take (n - 2)) + 4294967296 ^ (n - 2) * ((dg w n * 4294967296 + dg w (n - 1)) * 4294967296 + dg w (n - 2)) := by
 obtain ⟨m, rfl⟩ : ∃ m, n = m + 2 := ⟨n - 2, by have := h.n2; omega⟩
 simp only [Nat.add_sub_cancel, show m + 2 - 1 = m + 1 by omega]
 rw [(qdk h.wo h.wl).1, q0z, q0z, show 4294967296 ^ (m + 2) = 4294967296 ^ m * 4294967296 * 4294967296 by rw [Nat.pow_succ, Nat.pow_succ], Nat.pow_succ]
 generalize 4294967296 ^ m = P
 generalize dg w (m + 2) = a
 generalize dg w (m + 1) = b
 grind
theorem Trial.pos {w v : List Nat} {n : Nat} (h : Trial w v n) : 4294967296 * 4294967296 ^ (n - 2) ≤ val (v.take n) ∧ 0 < val (v.take n) := by
 have hp : 0 < 4294967296 ^ (n - 2) := Nat.pow_pos (by decide)
 have : 4294967296 * 4294967296 ^ (n - 2) ≤ val (v.take n) := by
  rw [h.v3]
  have h1 := h.hi
  have : 4294967296 ^ (n - 2) * 4294967296 ≤ 4294967296 ^ (n - 2) * (dg v (n - 1) * 4294967296 + dg v (n - 2)) := Nat.mul_le_mul_left _ (by omega)
  omega
 exact ⟨this, by omega⟩
theorem Trial.first {w v : List Nat} {n : Nat} (h : Trial w v n) : val w / val (v.take n) ≤ (dg w n * 4294967296 + dg w (n - 1)) / dg v (n - 1) := by
 have hh := h.hi
 have key := kn_gt (U := val w) (V := val (v.take n)) (P := 4294967296 ^ (n - 2) * 4294967296) (ut := dg w n * 4294967296 + dg w (n - 1)) (vt := dg v (n - 1)) (q := (dg w n * 4294967296 + dg w (n - 1)) / dg v (n - 1) + 1) ?_ ?_ h.pos.2 ?_
 ·exact Nat.le_of_lt_succ key
 ·rw [h.w3]; exact aux1 (q1n h.wo (n - 2)) (q0T h.wo (n - 2))
 ·rw [h.v3]
  have e : dg v (n - 1) * (4294967296 ^ (n - 2) * 4294967296) = 4294967296 ^ (n - 2) * (dg v (n - 1) * 4294967296) := by rw [Nat.mul_left_comm]
  rw [e, Nat.mul_add]
  exact Nat.le_trans (Nat.le_add_right _ _) (Nat.le_add_left _ _)
 ·exact aux0 _ (by omega)
theorem Trial.less {w v : List Nat} {n : Nat} (h : Trial w v n) {q r : Nat} (he : q * dg v (n - 1) + r = dg w n * 4294967296 + dg w (n - 1)) (hq : r * 4294967296 + dg w (n - 2) < q * dg v (n - 2)) : val w / val (v.take n) < q := by
 refine kn_gt (P := 4294967296 ^ (n - 2)) (ut := (dg w n * 4294967296 + dg w (n - 1)) * 4294967296 + dg w (n - 2)) (vt := dg v (n - 1) * 4294967296 + dg v (n - 2)) ?_ ?_ h.pos.2 ?_
 ·rw [h.w3]; exact qkq (q1n h.wo (n - 2))
 ·rw [h.v3]; exact qkr
 ·rw [← he]; exact aux2 hq
theorem Trial.qlt {w v : List Nat} {n : Nat} (h : Trial w v n) : val w / val (v.take n) < 4294967296 := (Nat.div_lt_iff_lt_mul h.pos.2).2 h.lt
theorem Trial.end {w v : List Nat} {n : Nat} (h : Trial w v n) {q r : Nat} (he : q * dg v (n - 1) + r = dg w n * 4294967296 + dg w (n - 1)) (hq : q < 4294967296) (hr : 4294967296 ≤ r ∨ q * dg v (n - 2) ≤ r * 4294967296 + dg w (n - 2)) : q ≤ val w / val (v.take n) + 1 := by
 refine kn_le (P := 4294967296 ^ (n - 2)) (B := 4294967296) (ut := (dg w n * 4294967296 + dg w (n - 1)) * 4294967296 + dg w (n - 2)) (vt := dg v (n - 1) * 4294967296 + dg v (n - 2)) ?_ ?_ h.pos.1 h.pos.2 hq ?_
 ·rw [h.w3]; exact qkr
 ·rw [h.v3]; exact qkq (q1n h.vo (n - 2))
 ·rw [← he]; exact aux3 (q7u hq (q0T h.vo (n - 2))) hr
theorem Trial.first_le {w v : List Nat} {n : Nat} (h : Trial w v n) : (dg w n * 4294967296 + dg w (n - 1)) / dg v (n - 1) ≤ 4294967297 ∧ dg w n ≤ dg v (n - 1) := by
 have hh := h.hi
 have h1 : dg w n ≤ dg v (n - 1) := by
  have h2 := h.lt
  have hv : val (v.take n) < (dg v (n - 1) + 1) * (4294967296 ^ (n - 1)) := by
   have := q0z v (n - 1)
   rw [Nat.sub_add_cancel (by have := h.n2; omega)] at this
   rw [this, Nat.add_mul, Nat.one_mul, Nat.mul_comm]
   have := q1n h.vo (n - 1)
   omega
  have hw := (qdk h.wo h.wl).1
  have e : 4294967296 ^ n = 4294967296 * 4294967296 ^ (n - 1) := by
   obtain ⟨m, rfl⟩ : ∃ m, n = m + 1 := ⟨n - 1, by have := h.n2; omega⟩
   rw [Nat.pow_succ, Nat.mul_comm]; rfl
  by_cases hc : dg w n ≤ dg v (n - 1)
  ·exact hc
  ·exfalso
   have h3 : 4294967296 ^ n * (dg v (n - 1) + 1) ≤ 4294967296 ^ n * dg w n := Nat.mul_le_mul_left _ (by omega)
   rw [e, Nat.mul_assoc, Nat.mul_comm (4294967296 ^ (n - 1))] at h3
   rw [e] at hw
   omega
 refine ⟨?_, h1⟩
 have hl := q0T h.wo (n - 1)
 have : dg w n * 4294967296 + dg w (n - 1) < 4294967298 * dg v (n - 1) := by omega
 have := (Nat.div_lt_iff_lt_mul (show 0 < dg v (n - 1) by omega)).2 this
 omega
end Go.F

namespace Go.F
attribute [local irreducible] IntKind.wrap wpM
def Old (U v Q : List Nat) (h : q08) (z : Frz) : Prop :=
 (∃ h0 : q08, h = upd (upd (upd h0 4 (some (.row (Q.map u32) 1))) 3 (some (.row (v.map u32) 1))) 2 (some (.row (U.map u32) 1))) ∧ ∃ z0 : Frz, z = upd (upd (upd z0 4 0) 3 0) 2 0
theorem Old.of {U v Q : List Nat} {h : q08} {z : Frz} (h2 : h 2 = some (.row (U.map u32) 1)) (h3 : h 3 = some (.row (v.map u32) 1)) (h4 : h 4 = some (.row (Q.map u32) 1)) (z2 : z 2 = 0) (z3 : z 3 = 0) (z4 : z 4 = 0) : Old U v Q h z := by
 refine ⟨⟨h, ?_⟩, z, ?_⟩
 ·rw [q4M (f := h) h4, q4M (f := h) h3, q4M (f := h) h2]
 ·rw [q4M (f := z) z4, q4M (f := z) z3, q4M (f := z) z2]
theorem Old.old {U v Q : List Nat} {h : q08} {z : Frz} (h2 : h 2 = some (.row (U.map u32) 1)) (h3 : h 3 = some (.row (v.map u32) 1)) (h4 : h 4 = some (.row (Q.map u32) 1)) (z2 : z 2 = 0) (z3 : z 3 = 0) (z4 : z 4 = 0) : Old U v Q (q1M h) z :=
 Old.of (q6m h2) (q6m h3) (q6m h4) z2 z3 z4
theorem qks {w w' v : List Nat} {n q c b : Nat} (T : Trial w v n) (hq1 : val w / val (v.take n) ≤ q) (hq2 : q ≤ val w / val (v.take n) + 1) (hw' : w'.length = n + 1) (hwo' : LOk w') (hc : c < 4294967296) (hb : b ≤ 1)
 (hinv : val (w'.take n) + q * val (v.take n) = val (w.take n) + 4294967296 ^ n * (b + c)) :
 (c + b ≤ dg w n → q = val w / val (v.take n) ∧ val (w'.set n (dg w n - c - b)) = val w % val (v.take n)) ∧
 (dg w n < c + b → q = val w / val (v.take n) + 1 ∧ dg w n + 4294967296 - c - b < 4294967296 ∧ val (w'.set n (dg w n + 4294967296 - c - b)) + q * val (v.take n) = val w + 4294967296 ^ (n + 1)) := by
 have e1 := (qdk T.wo T.wl).1
 have hset : ∀ x, val (w'.set n x) = val (w'.take n) + 4294967296 ^ n * x := by
  intro x
  have := q1H (r := w') (k := n) (v := x) (by omega)
  rwa [List.take_of_length_le (by simp; omega)] at this
 have hV := T.pos.2
 have hlt := q1n hwo' n
 generalize val (v.take n) = V at *
 constructor
 ·intro hle
  have e2 : val (w'.set n (dg w n - c - b)) + q * V = val w := by
   rw [hset, e1]
   have : 4294967296 ^ n * (dg w n - c - b) + 4294967296 ^ n * (b + c) = 4294967296 ^ n * dg w n := by rw [← Nat.mul_add]; congr 1; omega
   omega
  have hqle : q ≤ val w / V := (Nat.le_div_iff_mul_le hV).2 (by omega)
  have hq : q = val w / V := by omega
  refine ⟨hq, ?_⟩
  have := Nat.div_add_mod (val w) V
  rw [← hq, Nat.mul_comm] at this
  omega
 ·intro hgt
  have hgt' : val w < q * V := by
   rw [e1]
   have h1 : 4294967296 ^ n * (dg w n + 1) ≤ 4294967296 ^ n * (b + c) := Nat.mul_le_mul_left _ (by omega)
   rw [Nat.mul_add, Nat.mul_one] at h1
   omega
  have hne : q ≠ val w / V := by
   intro e
   have := Nat.div_mul_le_self (val w) V
   rw [← e] at this
   omega
  have hwn := q0T T.wo n
  have hcb : c + b ≤ dg w n + 4294967296 := by
   by_cases h : c + b ≤ dg w n + 4294967296
   ·exact h
   ·omega
  refine ⟨by omega, by omega, ?_⟩
  rw [hset, e1, Nat.pow_succ]
  have : 4294967296 ^ n * (dg w n + 4294967296 - c - b) + 4294967296 ^ n * (b + c) = 4294967296 ^ n * dg w n + 4294967296 ^ n * 4294967296 := by rw [← Nat.mul_add, ← Nat.mul_add]; congr 1; omega
  omega
theorem qkt {w w1 w2 v : List Nat} {n q c : Nat} (T : Trial w v n) (hq : q = val w / val (v.take n) + 1) (h1 : w1.length = n + 1) (h1o : LOk w1) (h2 : w2.length = n + 1) (h2o : LOk w2) (hc : c ≤ 1) (hd : dg w2 n = dg w1 n)
 (hv1 : val w1 + q * val (v.take n) = val w + 4294967296 ^ (n + 1)) (hinv : val (w2.take n) + 4294967296 ^ n * c = val (w1.take n) + val (v.take n)) :
 val (w2.set n ((dg w1 n + c) % 4294967296)) = val w % val (v.take n) := by
 have e1 := (qdk h1o h1).1
 have hset : val (w2.set n ((dg w1 n + c) % 4294967296)) = val (w2.take n) + 4294967296 ^ n * ((dg w1 n + c) % 4294967296) := by
  have := q1H (r := w2) (k := n) (v := (dg w1 n + c) % 4294967296) (by omega)
  rwa [List.take_of_length_le (by simp; omega)] at this
 have hV := T.pos.2
 have hl2 := q1n h2o n
 have hdm := Nat.div_add_mod (val w) (val (v.take n))
 have hml := Nat.mod_lt (val w) hV
 have hVl := q1n T.vo n
 generalize val (v.take n) = V at *
 generalize val w / V = Qt at *
 generalize val w % V = R at *
 subst hq
 rw [Nat.add_mul, Nat.one_mul, Nat.mul_comm Qt] at hv1
 have hdl := q0T h1o n
 have hcar := q34 (4294967296 ^ n) (dg w1 n + c)
 rw [Nat.mul_add (4294967296 ^ n) (dg w1 n) c, ← Nat.pow_succ] at hcar
 have hcase : (dg w1 n + c) / 4294967296 = 0 ∨ (dg w1 n + c) / 4294967296 = 1 := by omega
 rw [hset]
 have hmul : 4294967296 ^ n * ((dg w1 n + c) % 4294967296) + 4294967296 ^ n ≤ 4294967296 ^ (n + 1) := by
  rw [Nat.pow_succ, ← Nat.mul_succ]; exact Nat.mul_le_mul_left _ (Nat.mod_lt _ (by decide))
 rcases hcase with h | h
 ·rw [h, Nat.mul_zero] at hcar
  omega
 ·rw [h, Nat.mul_one] at hcar
  omega
end Go.F

namespace Go.F
attribute [local irreducible] IntKind.wrap wpM
theorem qg1 {x y b : Nat} {d : Int} (hx : x < 4294967296) (hy : y < 4294967296) (hb : b ≤ 1) (hd : d = ((x : Int) - y - b) % 18446744073709551616) :
 ∃ u c : Nat, IntKind.u32.wrap d = u ∧ d = ((d.toNat : Nat) : Int) ∧ d.toNat / 2 ^ 63 = c ∧ u < 4294967296 ∧ c ≤ 1 ∧ u + (b + y) = x + 4294967296 * c := by
 rw [q7t]
 refine ⟨(d % 4294967296).toNat, d.toNat / 2 ^ 63, by omega, by omega, rfl, by omega, by omega, by omega⟩
set_option maxHeartbeats 8000000 in
theorem qn3 (pre w post v Q : List Nat) (n : Nat) (T : Trial w v n) (hn : n ≤ 2000000000) {h : q08} {z : Frz} {K : D → q08 → Frz → Nat → Prop} (hold : Old (pre ++ w ++ post) v Q h z)
 (hk : ∀ (w' : List Nat) (h' : q08) (z' : Frz) (nx' : Nat), (nx' = 356 ∨ nx' = 401) → w'.length = n + 1 → LOk w' → val w' = val w % val (v.take n) → Old (pre ++ w' ++ post) v Q h' z' → K (.int .u32 (val w / val (v.take n) : Nat)) h' z' nx') :
 wpM TT (shr TT 5) 206 [.code k_natural_digit.code] .normal (enter [.ref 2 pre.length (n + 1), .ref 3 0 n]) h z 206 (qfa k_natural_digit K) := by
 obtain ⟨⟨h0, rfl⟩, z0, rfl⟩ := hold
 have hn2 := T.n2
 have hwl := T.wl
 have hvl := T.vl
 have hhi := T.hi
 have hqlt := T.qlt
 have hv1 := q0T T.vo (n - 1)
 have hv2 := q0T T.vo (n - 2)
 have hw0 := q0T T.wo n
 have hw1 := q0T T.wo (n - 1)
 have hw2 := q0T T.wo (n - 2)
 have hfl := T.first_le
 have wn1 : IntKind.i64.wrap ((n : Int) - 1) = ((n - 1 : Nat) : Int) := by rw [wrap64 (by omega) (by omega)]; omega
 have wn2 : IntKind.i64.wrap ((n : Int) - 2) = ((n - 2 : Nat) : Int) := by rw [wrap64 (by omega) (by omega)]; omega
 have c0 : IntKind.u64.wrap (dg w n : Int) = (dg w n : Int) := q0D (by omega)
 have c1 : IntKind.u64.wrap (dg w (n - 1) : Int) = (dg w (n - 1) : Int) := q0D (by omega)
 have c2 : IntKind.u64.wrap (dg w (n - 2) : Int) = (dg w (n - 2) : Int) := q0D (by omega)
 have d1 : IntKind.u64.wrap (dg v (n - 1) : Int) = (dg v (n - 1) : Int) := q0D (by omega)
 have d2 : IntKind.u64.wrap (dg v (n - 2) : Int) = (dg v (n - 2) : Int) := q0D (by omega)
 refine go 800 rfl ?_
 refine q0B n rfl rfl rfl rfl rfl (by omega) ?_
 refine go 800 rfl ?_
 refine q4B pre w post n rfl rfl rfl (by omega) ?_
 refine go 800 rfl ?_
 refine q85 (dg w n) 32 rfl rfl c0 rfl (by decide) (q0D (by omega)) ?_
 refine go 800 rfl ?_
 refine q0B (n - 1) rfl rfl rfl rfl wn1 (by omega) ?_
 refine go 800 rfl ?_
 refine q4B pre w post (n - 1) rfl rfl rfl (by omega) ?_
 refine go 800 rfl ?_
 rw [c1, qkp hw0 hw1]
 refine q0B (n - 1) rfl rfl rfl rfl wn1 (by omega) ?_
 refine go 800 rfl ?_
 refine q35 v (n - 1) rfl (Nat.zero_add _) rfl (by omega) ?_
 refine go 800 rfl ?_
 rw [d1]
 generalize htop : dg w n * 4294967296 + dg w (n - 1) = top
 rw [htop] at hfl
 have htl : top < 18446744073709551616 := by omega
 have hql := hfl.1
 refine q4z top (dg v (n - 1)) rfl rfl rfl rfl (by omega) (q0D (by omega)) ?_
 refine go 800 rfl ?_
 refine q6l top (dg v (n - 1)) rfl rfl rfl rfl (by omega) ?_
 refine go 800 rfl ?_
 refine q86 (S := fun x : Nat × Nat => ([.ref 2 pre.length (n + 1), .ref 3 0 n, q01 n, .int .u64 (dg v (n - 1)), .int .u64 x.1, .int .u64 x.2], [none, none, none, none, none, none], [0, 0, 0, 0, 0, 0]))
  (O := fun _ ho zo => Old (pre ++ w ++ post) v Q ho zo)
  (C := fun x => x.1 * dg v (n - 1) + x.2 = top ∧ val w / val (v.take n) ≤ x.1 ∧ x.1 ≤ 4294967297 ∧ x.2 < 8589934592) (m := fun x => x.1) (top / dg v (n - 1), top % dg v (n - 1))
  ⟨by simp only; rw [Nat.mul_comm]; exact Nat.div_add_mod _ _, by rw [← htop]; exact T.first, hql, by have := Nat.mod_lt top (show 0 < dg v (n - 1) by omega); simp only; omega⟩ (by simp only; omega) ?_ ?_
 ·exact q2E rfl ⟨q07 q0h _, q07 q0h _, trivial⟩ ⟨by simp [q01], Old.old rfl rfl rfl rfl rfl rfl⟩
 rintro ⟨q, r⟩ ⟨hqr, hq1, hq2, hr⟩ ho zo hold N hN
 obtain ⟨⟨h1, rfl⟩, z1, rfl⟩ := hold
 simp only at hqr hq1 hq2 hr
 have next : q ≠ 0 → r < 4294967296 → val w / val (v.take n) < q → ∀ {t : q0p} {h : q08} {z : Frz} {nx : Nat}, (q0R 206 [(0, 0), (1, 0), (5, 0), (7, 0), (8, 0), (9, 0)] t h z nx fun h z kp => kp = ([.ref 2 pre.length (n + 1), .ref 3 0 n, q01 n, .int .u64 (dg v (n - 1)), .int .u64 (q - 1 : Nat), .int .u64 (r + dg v (n - 1) : Nat)], [none, none, none, none, none, none], [0, 0, 0, 0, 0, 0]) ∧ Old (pre ++ w ++ post) v Q (q1M h) z) → N t h z nx := by
  intro hq0 hrl hlt t h z nx hst
  refine hN (q - 1, r + dg v (n - 1)) ⟨?_, by simp only; omega, by simp only; omega, by simp only; omega⟩ (by simp only; omega) hst
  simp only
  obtain ⟨k, rfl⟩ : ∃ k, q = k + 1 := ⟨q - 1, by omega⟩
  rw [Nat.add_mul, Nat.one_mul] at hqr
  simp only [Nat.add_sub_cancel]
  omega
 clear hN
 have s1 : q ≠ 0 → IntKind.u64.wrap ((q : Int) - 1) = ((q - 1 : Nat) : Int) := fun _ => by rw [q0G]; omega
 have s2 : IntKind.u64.wrap ((r : Int) + (dg v (n - 1) : Int)) = ((r + dg v (n - 1) : Nat) : Int) := by rw [q0G]; omega
 have after : q < 4294967296 → q ≤ val w / val (v.take n) + 1 → True := fun _ _ => trivial
 refine go 800 rfl ?_
 refine q0g rfl (fun g1 => ?_) (fun g1 => ?_)
 ·rw [q0b] at g1
  simp only at g1
  refine go 800 rfl ?_
  refine q0g rfl (fun g2 => ?_) (fun g2 => ?_)
  ·rw [q24] at g2
   simp only at g2
   refine go 800 rfl ?_
   refine q0r rfl ?_
   refine go 800 rfl ?_
   refine q09 ?_
   refine next (by omega) (by omega) (by omega) (q2E rfl ⟨q07 q0h _, q07 q0h _, trivial⟩ ⟨?_, Old.old rfl rfl rfl rfl rfl rfl⟩)
   simp [q01, s1 (by omega), s2]
  ·rw [q25] at g2
   simp only at g2
   have hq3 : q < 4294967296 := by omega
   have hqv := q7u hq3 hv2
   have em : IntKind.u64.wrap ((q : Int) * IntKind.u64.wrap (dg v (n - 2) : Int)) = ((q * dg v (n - 2) : Nat) : Int) := by
    rw [d2, show (q : Int) * (dg v (n - 2) : Int) = ((q * dg v (n - 2) : Nat) : Int) by simp]
    exact q0D (by omega)
   refine go 800 rfl ?_
   refine q0B (n - 2) rfl rfl rfl rfl wn2 (by omega) ?_
   refine go 800 rfl ?_
   refine q35 v (n - 2) rfl (Nat.zero_add _) rfl (by omega) ?_
   refine go 800 rfl ?_
   refine q85 r 32 rfl rfl rfl rfl (by decide) (q0D (by omega)) ?_
   refine go 800 rfl ?_
   refine q0B (n - 2) rfl rfl rfl rfl wn2 (by omega) ?_
   refine go 800 rfl ?_
   refine q4B pre w post (n - 2) rfl rfl rfl (by omega) ?_
   refine go 800 rfl ?_
   rw [c2, qkp (by omega) hw2, em]
   refine q02 rfl (fun g3 => ?_) (fun g3 => ?_)
   ·rw [q0b] at g3
    have g3' : r * 4294967296 + dg w (n - 2) < q * dg v (n - 2) := by omega
    have hq0 : q ≠ 0 := by rintro rfl; omega
    refine go 800 rfl ?_
    refine q09 ?_
    refine next hq0 (by omega) (T.less (by rw [hqr, htop]) g3') (q2E rfl ⟨q07 q0h _, q07 q0h _, trivial⟩ ⟨?_, Old.old rfl rfl rfl rfl rfl rfl⟩)
    simp [q01, s1 hq0, s2]
   ·rw [q0d] at g3
    have hq4 := T.end (q := q) (r := r) (by rw [hqr, htop]) hq3 (.inr (by omega))
    refine go 800 rfl ?_
    refine q09 ?_
    refine go 800 rfl ?_
    refine q86 (S := fun x : Nat × List Nat × Nat × Nat => ([.ref 2 pre.length (n + 1), .ref 3 0 n, q01 n, .int .u64 q, .int .u64 x.2.2.1, .int .u64 x.2.2.2, .ref 3 0 n, q01 n, q01 x.1], [none, none, none, none, none, none, none, none, none], [0, 0, 0, 0, 0, 0, 0, 0, 0]))
     (O := fun x ho zo => Old (pre ++ x.2.1 ++ post) v Q ho zo)
     (C := fun x => x.1 ≤ n ∧ x.2.1.length = n + 1 ∧ LOk x.2.1 ∧ x.2.2.1 < 4294967296 ∧ x.2.2.2 ≤ 1 ∧ val (x.2.1.take x.1) + q * val (v.take x.1) = val (w.take x.1) + 4294967296 ^ x.1 * (x.2.2.2 + x.2.2.1) ∧ ∀ j, x.1 ≤ j → dg x.2.1 j = dg w j) (m := fun x => n - x.1) (0, w, 0, 0)
     ⟨Nat.zero_le _, hwl, T.wo, by simp, by simp, by simp [val], fun j _ => rfl⟩ (by simp only; omega) ?_ ?_
    ·exact q2E rfl ⟨q07 q0h _, q07 q0h _, q07 q0h _, trivial⟩ ⟨by simp [q01], Old.old rfl rfl rfl rfl rfl rfl⟩
    rintro ⟨k, w', c, b⟩ ⟨hk1, hl', ho', hc, hb, hinv, hsame⟩ ho zo hold N hN
    obtain ⟨⟨h2, rfl⟩, z2, rfl⟩ := hold
    simp only at hk1 hl' ho' hc hb hinv hsame
    refine go 800 rfl ?_
    refine q02 rfl (fun e1 => ?_) (fun e1 => ?_)
    ·rw [q0b] at e1
     simp only at e1
     have hkn : k < n := by omega
     have hvk := q0T T.vo k
     have hwk := q0T ho' k
     have hqv := q7u hq3 hvk
     have wk1 : IntKind.i64.wrap ((k : Int) + 1) = ((k + 1 : Nat) : Int) := wrap64 (by omega) (by omega)
     have ee : ((q * dg v k : Nat) : Int) = (q : Int) * (dg v k : Int) := by simp
     have ec : IntKind.u64.wrap ((c : Int) + IntKind.u64.wrap ((q : Int) * IntKind.u64.wrap (dg v k : Int))) = ((c + q * dg v k : Nat) : Int) := by
      rw [q0D (n := dg v k) (by omega), ← ee, q0D (n := q * dg v k) (by omega)]
      simp only [q0G]; omega
     refine go 800 rfl ?_
     refine q0B k rfl rfl rfl rfl rfl hkn ?_
     refine go 800 rfl ?_
     refine q35 v k rfl (Nat.zero_add _) rfl (by omega) ?_
     refine go 800 rfl ?_
     rw [ec]
     refine q0B k rfl rfl rfl rfl rfl (by omega) ?_
     refine go 800 rfl ?_
     refine q4B pre w' post k rfl rfl rfl (by omega) ?_
     refine go 800 rfl ?_
     rw [q0H]
     obtain ⟨u, b', g1, g2, g3, g4, g5, g6⟩ := qg1 (d := IntKind.u64.wrap (IntKind.u64.wrap (IntKind.u64.wrap (dg w' k : Int) - IntKind.u64.wrap (((c + q * dg v k) % 4294967296 : Nat) : Int)) - (b : Int))) hwk (Nat.mod_lt (c + q * dg v k) (by decide)) hb (by simp only [q0G]; omega)
     generalize IntKind.u64.wrap (IntKind.u64.wrap (IntKind.u64.wrap (dg w' k : Int) - IntKind.u64.wrap (((c + q * dg v k) % 4294967296 : Nat) : Int)) - (b : Int)) = d at *
     rw [g1]
     refine q0B k rfl rfl rfl rfl rfl (by omega) ?_
     refine go 800 rfl ?_
     refine q3y pre w' post k u rfl rfl rfl rfl rfl rfl (by omega) ?_
     refine go 800 rfl ?_
     refine q1t d.toNat 63 rfl rfl g2 rfl (by decide) ?_
     rw [g3]
     refine go 800 rfl ?_
     refine q1t (c + q * dg v k) 32 rfl rfl rfl rfl (by decide) ?_
     refine go 800 rfl ?_
     refine q09 ?_
     refine hN (k + 1, w'.set k u, (c + q * dg v k) / 2 ^ 32, b') ⟨hkn, by simp [hl'], ho'.set _ g4, by simp only; omega, g5, ?_, ?_⟩ (by simp only; omega) (q2E rfl ⟨q07 q0h _, q07 q0h _, q07 q0h _, trivial⟩ ⟨by simp [q01, wk1], Old.old rfl rfl rfl rfl rfl rfl⟩)
     ·simp only
      rw [q1H (by omega), q0z v, q0z w, show (2 : Nat) ^ 32 = 4294967296 by decide, Nat.pow_succ]
      have hs := hsame k (Nat.le_refl _)
      rw [hs] at g6
      have hdm := Nat.div_add_mod (c + q * dg v k) 4294967296
      generalize (c + q * dg v k) / 4294967296 = c' at *
      generalize (c + q * dg v k) % 4294967296 = lo at *
      generalize 4294967296 ^ k = P at *
      have e5 : P * u + P * (q * dg v k) + P * (b + c) = P * dg w k + P * (4294967296 * (b' + c')) := by
       rw [← Nat.mul_add, ← Nat.mul_add, ← Nat.mul_add]; congr 1; omega
      rw [Nat.mul_add q, Nat.mul_left_comm q P, Nat.mul_assoc P 4294967296]
      omega
     ·intro j hj
      simp only at hj ⊢
      rw [q2c, if_neg (by omega)]
      exact hsame j (by omega)
    rw [q0d] at e1
    simp only at e1
    obtain rfl : k = n := by omega
    clear hN
    obtain ⟨se1, se2⟩ := qks T hq1 hq4 hl' ho' hc hb hinv
    have hdn := hsame k (Nat.le_refl _)
    have cn : IntKind.u64.wrap (dg w' k : Int) = (dg w' k : Int) := q0D (by rw [hdn]; omega)
    refine go 800 rfl ?_
    refine q09 ?_
    refine go 800 rfl ?_
    refine q0B k rfl rfl rfl rfl rfl (by omega) ?_
    refine go 800 rfl ?_
    refine q4B pre w' post k rfl rfl rfl (by omega) ?_
    refine go 800 rfl ?_
    by_cases hcase : c + b ≤ dg w k
    ·obtain ⟨f1, f2⟩ := se1 hcase
     have ed : IntKind.u64.wrap (IntKind.u64.wrap (IntKind.u64.wrap (dg w' k : Int) - (c : Int)) - (b : Int)) = ((dg w k - c - b : Nat) : Int) := by rw [hdn]; simp only [q0G]; omega
     have ed2 : IntKind.u32.wrap ((dg w k - c - b : Nat) : Int) = ((dg w k - c - b : Nat) : Int) := by rw [q0H]; omega
     have eq2 : IntKind.u32.wrap (q : Int) = (q : Int) := by rw [q0H]; omega
     rw [ed, ed2]
     refine q0B k rfl rfl rfl rfl rfl (by omega) ?_
     refine go 800 rfl ?_
     refine q3y pre w' post k (dg w k - c - b) rfl rfl rfl rfl rfl rfl (by omega) ?_
     refine go 800 rfl ?_
     refine q1t (dg w k - c - b) 63 rfl rfl rfl rfl (by decide) ?_
     refine go 800 rfl ?_
     refine q02 rfl (fun y1 => ?_) (fun y1 => ?_)
     ·refine go 800 rfl ?_
      rw [eq2]
      have hk' : ∀ h' z', Old (pre ++ w'.set k (dg w k - c - b) ++ post) v Q h' z' → K (.int .u32 q) h' z' 356 := fun h' z' hol => by
       rw [f1]; exact hk (w'.set k (dg w k - c - b)) h' z' 356 (.inl rfl) (by simp [hl']) (ho'.set _ (by omega)) f2 hol
      exact qlA rfl rfl (hk' _ _ (Old.of rfl rfl rfl rfl rfl rfl))
     ·rw [q2g] at y1
      exact absurd (by omega) y1
    ·obtain ⟨f1, f0, f2⟩ := se2 (by omega)
     have ed : IntKind.u64.wrap (IntKind.u64.wrap (IntKind.u64.wrap (dg w' k : Int) - (c : Int)) - (b : Int)) = ((18446744073709551616 + dg w k - c - b : Nat) : Int) := by rw [hdn]; simp only [q0G]; omega
     have ed2 : IntKind.u32.wrap ((18446744073709551616 + dg w k - c - b : Nat) : Int) = ((dg w k + 4294967296 - c - b : Nat) : Int) := by rw [q0H]; omega
     rw [ed, ed2]
     refine q0B k rfl rfl rfl rfl rfl (by omega) ?_
     refine go 800 rfl ?_
     refine q3y pre w' post k (dg w k + 4294967296 - c - b) rfl rfl rfl rfl rfl rfl (by omega) ?_
     refine go 800 rfl ?_
     refine q1t (18446744073709551616 + dg w k - c - b) 63 rfl rfl rfl rfl (by decide) ?_
     refine go 800 rfl ?_
     refine q02 rfl (fun y1 => ?_) (fun y1 => ?_)
     ·rw [q26] at y1
      omega
     refine go 800 rfl ?_
     have hl1 : (w'.set k (dg w k + 4294967296 - c - b)).length = k + 1 := by simp [hl']
     have ho1 : LOk (w'.set k (dg w k + 4294967296 - c - b)) := ho'.set _ f0
     generalize w'.set k (dg w k + 4294967296 - c - b) = x1 at *
     refine q86 (S := fun x : Nat × List Nat × Nat => ([.ref 2 pre.length (k + 1), q01 k, .int .u64 q, .int .u64 x.2.2, .ref 3 0 k, q01 k, q01 x.1], [none, none, none, none, none, none, none], [0, 0, 0, 0, 0, 0, 0]))
      (O := fun x ho zo => Old (pre ++ x.2.1 ++ post) v Q ho zo)
      (C := fun x => x.1 ≤ k ∧ x.2.1.length = k + 1 ∧ LOk x.2.1 ∧ x.2.2 ≤ 1 ∧ val (x.2.1.take x.1) + 4294967296 ^ x.1 * x.2.2 = val (x1.take x.1) + val (v.take x.1) ∧ ∀ j, x.1 ≤ j → dg x.2.1 j = dg x1 j) (m := fun x => k - x.1) (0, x1, 0)
      ⟨Nat.zero_le _, hl1, ho1, by simp, by simp [val], fun j _ => rfl⟩ (by simp only; omega) ?_ ?_
     ·exact q2E rfl ⟨q07 q0h _, q07 q0h _, trivial⟩ ⟨by simp [q01], Old.old rfl rfl rfl rfl rfl rfl⟩
     rintro ⟨i, x2, c2'⟩ ⟨hi1, hl2, ho2, hc2, hinv2, hsame2⟩ ho zo hold N hN
     obtain ⟨⟨h3, rfl⟩, z3, rfl⟩ := hold
     simp only at hi1 hl2 ho2 hc2 hinv2 hsame2
     refine go 800 rfl ?_
     refine q02 rfl (fun e2 => ?_) (fun e2 => ?_)
     ·rw [q0b] at e2
      simp only at e2
      have hik : i < k := by omega
      have hvi := q0T T.vo i
      have hxi := q0T ho2 i
      have wi1 : IntKind.i64.wrap ((i : Int) + 1) = ((i + 1 : Nat) : Int) := wrap64 (by omega) (by omega)
      have es : IntKind.u64.wrap ((c2' : Int) + IntKind.u64.wrap (IntKind.u64.wrap (dg x2 i : Int) + IntKind.u64.wrap (dg v i : Int))) = ((c2' + dg x2 i + dg v i : Nat) : Int) := by simp only [q0G]; omega
      refine go 800 rfl ?_
      refine q0B i rfl rfl rfl rfl rfl hik ?_
      refine go 800 rfl ?_
      refine q35 v i rfl (Nat.zero_add _) rfl (by omega) ?_
      refine go 800 rfl ?_
      refine q0B i rfl rfl rfl rfl rfl (by omega) ?_
      refine go 800 rfl ?_
      refine q4B pre x2 post i rfl rfl rfl (by omega) ?_
      refine go 800 rfl ?_
      rw [es, q0H]
      refine q0B i rfl rfl rfl rfl rfl (by omega) ?_
      refine go 800 rfl ?_
      refine q3y pre x2 post i ((c2' + dg x2 i + dg v i) % 4294967296) rfl rfl rfl rfl rfl rfl (by omega) ?_
      refine go 800 rfl ?_
      refine q1t (c2' + dg x2 i + dg v i) 32 rfl rfl rfl rfl (by decide) ?_
      refine go 800 rfl ?_
      refine q09 ?_
      refine hN (i + 1, x2.set i ((c2' + dg x2 i + dg v i) % 4294967296), (c2' + dg x2 i + dg v i) / 2 ^ 32) ⟨hik, by simp [hl2], ho2.set _ (Nat.mod_lt _ (by decide)), by simp only; omega, ?_, ?_⟩ (by simp only; omega) (q2E rfl ⟨q07 q0h _, q07 q0h _, trivial⟩ ⟨by simp [q01, wi1], Old.old rfl rfl rfl rfl rfl rfl⟩)
      ·simp only
       rw [q1H (by omega), q0z x1, q0z v, show (2 : Nat) ^ 32 = 4294967296 by decide, Nat.pow_succ, Nat.add_assoc, q34, Nat.mul_add, Nat.mul_add, hsame2 i (Nat.le_refl _)]
       omega
      ·intro j hj
       simp only at hj ⊢
       rw [q2c, if_neg (by omega)]
       exact hsame2 j (by omega)
     rw [q0d] at e2
     simp only at e2
     obtain rfl : i = k := by omega
     clear hN
     have hdx := hsame2 i (Nat.le_refl _)
     have hx1 := q0T ho1 i
     have fin := qkt T f1 hl1 ho1 hl2 ho2 hc2 hdx f2 hinv2
     have ec2 : IntKind.u32.wrap (c2' : Int) = (c2' : Int) := by rw [q0H]; omega
     have ea2 : IntKind.u32.wrap ((dg x2 i : Int) + (c2' : Int)) = (((dg x1 i + c2') % 4294967296 : Nat) : Int) := by rw [hdx, q7t]; omega
     have eq3 : IntKind.u32.wrap (IntKind.u64.wrap ((q : Int) - 1)) = ((val w / val (v.take i) : Nat) : Int) := by
      have a1 := f1
      have a2 := hqlt
      generalize val w / val (v.take i) = Qt at a1 a2 ⊢
      rw [q0G, q7t]
      clear hinv hinv2 hqr hq1 hq2 hql f2 fin
      omega
     refine go 800 rfl ?_
     refine q09 ?_
     refine go 800 rfl ?_
     refine q0B i rfl rfl rfl rfl rfl (by omega) ?_
     refine go 800 rfl ?_
     refine q4B pre x2 post i rfl rfl rfl (by omega) ?_
     refine go 800 rfl ?_
     rw [ec2, ea2]
     refine q0B i rfl rfl rfl rfl rfl (by omega) ?_
     refine go 800 rfl ?_
     refine q3y pre x2 post i ((dg x1 i + c2') % 4294967296) rfl rfl rfl rfl rfl rfl (by omega) ?_
     refine go 800 rfl ?_
     rw [eq3]
     refine qlA rfl rfl ?_
     exact hk (x2.set i ((dg x1 i + c2') % 4294967296)) _ _ 401 (.inr rfl) (by simp [hl2]) (ho2.set _ (Nat.mod_lt _ (by decide))) fin (Old.of rfl rfl rfl rfl rfl rfl)
 ·rw [q0d] at g1
  simp only at g1
  have hq3 : q < 4294967296 := by
   have h5 := hfl.2
   have h6 : q * dg v (n - 1) < 4294967296 * dg v (n - 1) := by omega
   exact Nat.lt_of_mul_lt_mul_right h6
  have hq4 := T.end (q := q) (r := r) (by rw [hqr, htop]) hq3 (.inl (by omega))
  refine go 800 rfl ?_
  refine q0o rfl ?_
  refine go 800 rfl ?_
  refine q09 ?_
  refine go 800 rfl ?_
  refine q86 (S := fun x : Nat × List Nat × Nat × Nat => ([.ref 2 pre.length (n + 1), .ref 3 0 n, q01 n, .int .u64 q, .int .u64 x.2.2.1, .int .u64 x.2.2.2, .ref 3 0 n, q01 n, q01 x.1], [none, none, none, none, none, none, none, none, none], [0, 0, 0, 0, 0, 0, 0, 0, 0]))
   (O := fun x ho zo => Old (pre ++ x.2.1 ++ post) v Q ho zo)
   (C := fun x => x.1 ≤ n ∧ x.2.1.length = n + 1 ∧ LOk x.2.1 ∧ x.2.2.1 < 4294967296 ∧ x.2.2.2 ≤ 1 ∧ val (x.2.1.take x.1) + q * val (v.take x.1) = val (w.take x.1) + 4294967296 ^ x.1 * (x.2.2.2 + x.2.2.1) ∧ ∀ j, x.1 ≤ j → dg x.2.1 j = dg w j) (m := fun x => n - x.1) (0, w, 0, 0)
   ⟨Nat.zero_le _, hwl, T.wo, by simp, by simp, by simp [val], fun j _ => rfl⟩ (by simp only; omega) ?_ ?_
  ·exact q2E rfl ⟨q07 q0h _, q07 q0h _, q07 q0h _, trivial⟩ ⟨by simp [q01], Old.old rfl rfl rfl rfl rfl rfl⟩
  rintro ⟨k, w', c, b⟩ ⟨hk1, hl', ho', hc, hb, hinv, hsame⟩ ho zo hold N hN
  obtain ⟨⟨h2, rfl⟩, z2, rfl⟩ := hold
  simp only at hk1 hl' ho' hc hb hinv hsame
  refine go 800 rfl ?_
  refine q02 rfl (fun e1 => ?_) (fun e1 => ?_)
  ·rw [q0b] at e1
   simp only at e1
   have hkn : k < n := by omega
   have hvk := q0T T.vo k
   have hwk := q0T ho' k
   have hqv := q7u hq3 hvk
   have wk1 : IntKind.i64.wrap ((k : Int) + 1) = ((k + 1 : Nat) : Int) := wrap64 (by omega) (by omega)
   have ee : ((q * dg v k : Nat) : Int) = (q : Int) * (dg v k : Int) := by simp
   have ec : IntKind.u64.wrap ((c : Int) + IntKind.u64.wrap ((q : Int) * IntKind.u64.wrap (dg v k : Int))) = ((c + q * dg v k : Nat) : Int) := by
    rw [q0D (n := dg v k) (by omega), ← ee, q0D (n := q * dg v k) (by omega)]
    simp only [q0G]; omega
   refine go 800 rfl ?_
   refine q0B k rfl rfl rfl rfl rfl hkn ?_
   refine go 800 rfl ?_
   refine q35 v k rfl (Nat.zero_add _) rfl (by omega) ?_
   refine go 800 rfl ?_
   rw [ec]
   refine q0B k rfl rfl rfl rfl rfl (by omega) ?_
   refine go 800 rfl ?_
   refine q4B pre w' post k rfl rfl rfl (by omega) ?_
   refine go 800 rfl ?_
   rw [q0H]
   obtain ⟨u, b', g1, g2, g3, g4, g5, g6⟩ := qg1 (d := IntKind.u64.wrap (IntKind.u64.wrap (IntKind.u64.wrap (dg w' k : Int) - IntKind.u64.wrap (((c + q * dg v k) % 4294967296 : Nat) : Int)) - (b : Int))) hwk (Nat.mod_lt (c + q * dg v k) (by decide)) hb (by simp only [q0G]; omega)
   generalize IntKind.u64.wrap (IntKind.u64.wrap (IntKind.u64.wrap (dg w' k : Int) - IntKind.u64.wrap (((c + q * dg v k) % 4294967296 : Nat) : Int)) - (b : Int)) = d at *
   rw [g1]
   refine q0B k rfl rfl rfl rfl rfl (by omega) ?_
   refine go 800 rfl ?_
   refine q3y pre w' post k u rfl rfl rfl rfl rfl rfl (by omega) ?_
   refine go 800 rfl ?_
   refine q1t d.toNat 63 rfl rfl g2 rfl (by decide) ?_
   rw [g3]
   refine go 800 rfl ?_
   refine q1t (c + q * dg v k) 32 rfl rfl rfl rfl (by decide) ?_
   refine go 800 rfl ?_
   refine q09 ?_
   refine hN (k + 1, w'.set k u, (c + q * dg v k) / 2 ^ 32, b') ⟨hkn, by simp [hl'], ho'.set _ g4, by simp only; omega, g5, ?_, ?_⟩ (by simp only; omega) (q2E rfl ⟨q07 q0h _, q07 q0h _, q07 q0h _, trivial⟩ ⟨by simp [q01, wk1], Old.old rfl rfl rfl rfl rfl rfl⟩)
   ·simp only
    rw [q1H (by omega), q0z v, q0z w, show (2 : Nat) ^ 32 = 4294967296 by decide, Nat.pow_succ]
    have hs := hsame k (Nat.le_refl _)
    rw [hs] at g6
    have hdm := Nat.div_add_mod (c + q * dg v k) 4294967296
    generalize (c + q * dg v k) / 4294967296 = c' at *
    generalize (c + q * dg v k) % 4294967296 = lo at *
    generalize 4294967296 ^ k = P at *
    have e5 : P * u + P * (q * dg v k) + P * (b + c) = P * dg w k + P * (4294967296 * (b' + c')) := by
     rw [← Nat.mul_add, ← Nat.mul_add, ← Nat.mul_add]; congr 1; omega
    rw [Nat.mul_add q, Nat.mul_left_comm q P, Nat.mul_assoc P 4294967296]
    omega
   ·intro j hj
    simp only at hj ⊢
    rw [q2c, if_neg (by omega)]
    exact hsame j (by omega)
  rw [q0d] at e1
  simp only at e1
  obtain rfl : k = n := by omega
  clear hN
  obtain ⟨se1, se2⟩ := qks T hq1 hq4 hl' ho' hc hb hinv
  have hdn := hsame k (Nat.le_refl _)
  have cn : IntKind.u64.wrap (dg w' k : Int) = (dg w' k : Int) := q0D (by rw [hdn]; omega)
  refine go 800 rfl ?_
  refine q09 ?_
  refine go 800 rfl ?_
  refine q0B k rfl rfl rfl rfl rfl (by omega) ?_
  refine go 800 rfl ?_
  refine q4B pre w' post k rfl rfl rfl (by omega) ?_
  refine go 800 rfl ?_
  by_cases hcase : c + b ≤ dg w k
  ·obtain ⟨f1, f2⟩ := se1 hcase
   have ed : IntKind.u64.wrap (IntKind.u64.wrap (IntKind.u64.wrap (dg w' k : Int) - (c : Int)) - (b : Int)) = ((dg w k - c - b : Nat) : Int) := by rw [hdn]; simp only [q0G]; omega
   have ed2 : IntKind.u32.wrap ((dg w k - c - b : Nat) : Int) = ((dg w k - c - b : Nat) : Int) := by rw [q0H]; omega
   have eq2 : IntKind.u32.wrap (q : Int) = (q : Int) := by rw [q0H]; omega
   rw [ed, ed2]
   refine q0B k rfl rfl rfl rfl rfl (by omega) ?_
   refine go 800 rfl ?_
   refine q3y pre w' post k (dg w k - c - b) rfl rfl rfl rfl rfl rfl (by omega) ?_
   refine go 800 rfl ?_
   refine q1t (dg w k - c - b) 63 rfl rfl rfl rfl (by decide) ?_
   refine go 800 rfl ?_
   refine q02 rfl (fun y1 => ?_) (fun y1 => ?_)
   ·refine go 800 rfl ?_
    rw [eq2]
    have hk' : ∀ h' z', Old (pre ++ w'.set k (dg w k - c - b) ++ post) v Q h' z' → K (.int .u32 q) h' z' 356 := fun h' z' hol => by
     rw [f1]; exact hk (w'.set k (dg w k - c - b)) h' z' 356 (.inl rfl) (by simp [hl']) (ho'.set _ (by omega)) f2 hol
    exact qlA rfl rfl (hk' _ _ (Old.of rfl rfl rfl rfl rfl rfl))
   ·rw [q2g] at y1
    exact absurd (by omega) y1
  ·obtain ⟨f1, f0, f2⟩ := se2 (by omega)
   have ed : IntKind.u64.wrap (IntKind.u64.wrap (IntKind.u64.wrap (dg w' k : Int) - (c : Int)) - (b : Int)) = ((18446744073709551616 + dg w k - c - b : Nat) : Int) := by rw [hdn]; simp only [q0G]; omega
   have ed2 : IntKind.u32.wrap ((18446744073709551616 + dg w k - c - b : Nat) : Int) = ((dg w k + 4294967296 - c - b : Nat) : Int) := by rw [q0H]; omega
   rw [ed, ed2]
   refine q0B k rfl rfl rfl rfl rfl (by omega) ?_
   refine go 800 rfl ?_
   refine q3y pre w' post k (dg w k + 4294967296 - c - b) rfl rfl rfl rfl rfl rfl (by omega) ?_
   refine go 800 rfl ?_
   refine q1t (18446744073709551616 + dg w k - c - b) 63 rfl rfl rfl rfl (by decide) ?_
   refine go 800 rfl ?_
   refine q02 rfl (fun y1 => ?_) (fun y1 => ?_)
   ·rw [q26] at y1
    omega
   refine go 800 rfl ?_
   have hl1 : (w'.set k (dg w k + 4294967296 - c - b)).length = k + 1 := by simp [hl']
   have ho1 : LOk (w'.set k (dg w k + 4294967296 - c - b)) := ho'.set _ f0
   generalize w'.set k (dg w k + 4294967296 - c - b) = x1 at *
   refine q86 (S := fun x : Nat × List Nat × Nat => ([.ref 2 pre.length (k + 1), q01 k, .int .u64 q, .int .u64 x.2.2, .ref 3 0 k, q01 k, q01 x.1], [none, none, none, none, none, none, none], [0, 0, 0, 0, 0, 0, 0]))
    (O := fun x ho zo => Old (pre ++ x.2.1 ++ post) v Q ho zo)
    (C := fun x => x.1 ≤ k ∧ x.2.1.length = k + 1 ∧ LOk x.2.1 ∧ x.2.2 ≤ 1 ∧ val (x.2.1.take x.1) + 4294967296 ^ x.1 * x.2.2 = val (x1.take x.1) + val (v.take x.1) ∧ ∀ j, x.1 ≤ j → dg x.2.1 j = dg x1 j) (m := fun x => k - x.1) (0, x1, 0)
    ⟨Nat.zero_le _, hl1, ho1, by simp, by simp [val], fun j _ => rfl⟩ (by simp only; omega) ?_ ?_
   ·exact q2E rfl ⟨q07 q0h _, q07 q0h _, trivial⟩ ⟨by simp [q01], Old.old rfl rfl rfl rfl rfl rfl⟩
   rintro ⟨i, x2, c2'⟩ ⟨hi1, hl2, ho2, hc2, hinv2, hsame2⟩ ho zo hold N hN
   obtain ⟨⟨h3, rfl⟩, z3, rfl⟩ := hold
   simp only at hi1 hl2 ho2 hc2 hinv2 hsame2
   refine go 800 rfl ?_
   refine q02 rfl (fun e2 => ?_) (fun e2 => ?_)
   ·rw [q0b] at e2
    simp only at e2
    have hik : i < k := by omega
    have hvi := q0T T.vo i
    have hxi := q0T ho2 i
    have wi1 : IntKind.i64.wrap ((i : Int) + 1) = ((i + 1 : Nat) : Int) := wrap64 (by omega) (by omega)
    have es : IntKind.u64.wrap ((c2' : Int) + IntKind.u64.wrap (IntKind.u64.wrap (dg x2 i : Int) + IntKind.u64.wrap (dg v i : Int))) = ((c2' + dg x2 i + dg v i : Nat) : Int) := by simp only [q0G]; omega
    refine go 800 rfl ?_
    refine q0B i rfl rfl rfl rfl rfl hik ?_
    refine go 800 rfl ?_
    refine q35 v i rfl (Nat.zero_add _) rfl (by omega) ?_
    refine go 800 rfl ?_
    refine q0B i rfl rfl rfl rfl rfl (by omega) ?_
    refine go 800 rfl ?_
    refine q4B pre x2 post i rfl rfl rfl (by omega) ?_
    refine go 800 rfl ?_
    rw [es, q0H]
    refine q0B i rfl rfl rfl rfl rfl (by omega) ?_
    refine go 800 rfl ?_
    refine q3y pre x2 post i ((c2' + dg x2 i + dg v i) % 4294967296) rfl rfl rfl rfl rfl rfl (by omega) ?_
    refine go 800 rfl ?_
    refine q1t (c2' + dg x2 i + dg v i) 32 rfl rfl rfl rfl (by decide) ?_
    refine go 800 rfl ?_
    refine q09 ?_
    refine hN (i + 1, x2.set i ((c2' + dg x2 i + dg v i) % 4294967296), (c2' + dg x2 i + dg v i) / 2 ^ 32) ⟨hik, by simp [hl2], ho2.set _ (Nat.mod_lt _ (by decide)), by simp only; omega, ?_, ?_⟩ (by simp only; omega) (q2E rfl ⟨q07 q0h _, q07 q0h _, trivial⟩ ⟨by simp [q01, wi1], Old.old rfl rfl rfl rfl rfl rfl⟩)
    ·simp only
     rw [q1H (by omega), q0z x1, q0z v, show (2 : Nat) ^ 32 = 4294967296 by decide, Nat.pow_succ, Nat.add_assoc, q34, Nat.mul_add, Nat.mul_add, hsame2 i (Nat.le_refl _)]
     omega
    ·intro j hj
     simp only at hj ⊢
     rw [q2c, if_neg (by omega)]
     exact hsame2 j (by omega)
   rw [q0d] at e2
   simp only at e2
   obtain rfl : i = k := by omega
   clear hN
   have hdx := hsame2 i (Nat.le_refl _)
   have hx1 := q0T ho1 i
   have fin := qkt T f1 hl1 ho1 hl2 ho2 hc2 hdx f2 hinv2
   have ec2 : IntKind.u32.wrap (c2' : Int) = (c2' : Int) := by rw [q0H]; omega
   have ea2 : IntKind.u32.wrap ((dg x2 i : Int) + (c2' : Int)) = (((dg x1 i + c2') % 4294967296 : Nat) : Int) := by rw [hdx, q7t]; omega
   have eq3 : IntKind.u32.wrap (IntKind.u64.wrap ((q : Int) - 1)) = ((val w / val (v.take i) : Nat) : Int) := by
    have a1 := f1
    have a2 := hqlt
    generalize val w / val (v.take i) = Qt at a1 a2 ⊢
    rw [q0G, q7t]
    clear hinv hinv2 hqr hq1 hq2 hql f2 fin
    omega
   refine go 800 rfl ?_
   refine q09 ?_
   refine go 800 rfl ?_
   refine q0B i rfl rfl rfl rfl rfl (by omega) ?_
   refine go 800 rfl ?_
   refine q4B pre x2 post i rfl rfl rfl (by omega) ?_
   refine go 800 rfl ?_
   rw [ec2, ea2]
   refine q0B i rfl rfl rfl rfl rfl (by omega) ?_
   refine go 800 rfl ?_
   refine q3y pre x2 post i ((dg x1 i + c2') % 4294967296) rfl rfl rfl rfl rfl rfl (by omega) ?_
   refine go 800 rfl ?_
   rw [eq3]
   refine qlA rfl rfl ?_
   exact hk (x2.set i ((dg x1 i + c2') % 4294967296)) _ _ 401 (.inr rfl) (by simp [hl2]) (ho2.set _ (Nat.mod_lt _ (by decide))) fin (Old.of rfl rfl rfl rfl rfl rfl)
end Go.F

namespace Go.F
attribute [local irreducible] IntKind.wrap wpM
theorem qku {U : List Nat} {i n : Nat} (h : i + n + 1 ≤ U.length) : U = U.take i ++ (U.drop i).take (n + 1) ++ U.drop (i + n + 1) ∧ (U.take i).length = i ∧ ((U.drop i).take (n + 1)).length = n + 1 := by
 refine ⟨?_, by simp; omega, by simp; omega⟩
 rw [List.append_assoc, show U.drop (i + n + 1) = (U.drop i).drop (n + 1) by rw [List.drop_drop]; congr 1, List.take_append_drop, List.take_append_drop]
theorem q76 {l : List Nat} {n : Nat} (h : val l < 4294967296 ^ n) : val (l.drop n) = 0 ∧ val (l.take n) = val l := by
 have := q1Y l n
 have hz : val (l.drop n) = 0 := by
  by_cases h0 : val (l.drop n) = 0
  ·exact h0
  ·have : 4294967296 ^ n * 1 ≤ 4294967296 ^ n * val (l.drop n) := Nat.mul_le_mul_left _ (by omega)
   omega
 rw [hz] at this
 exact ⟨hz, by omega⟩
structure Dv (r v U Q : List Nat) (n m j : Nat) : Prop where
 jm : j ≤ m
 ul : U.length = m + n
 uo : LOk U
 ql : Q.length = m
 qo : LOk Q
 lt : val (U.drop j) < val (v.take n)
 eq : val r = val U + val (v.take n) * (4294967296 ^ j * val (Q.drop j))
theorem Dv.trial {r v U Q : List Nat} {n m j : Nat} (h : Dv r v U Q n m (j + 1)) (n2 : 2 ≤ n) (vo : LOk v) (vl : n ≤ v.length) (hi : 2147483648 ≤ dg v (n - 1)) :
 Trial ((U.drop j).take (n + 1)) v n ∧ val ((U.drop j).take (n + 1)) = val (U.drop j) := by
 have hl := h.ul
 have hj := h.jm
 have hV := q1n vo n
 have hlt := h.lt
 have e1 : val (U.drop j) < 4294967296 * val (v.take n) := by
  rw [q27]
  have := q0T h.uo j
  omega
 have e2 : val (U.drop j) < 4294967296 ^ (n + 1) := by
  rw [Nat.pow_succ]
  have : 4294967296 * val (v.take n) ≤ 4294967296 * 4294967296 ^ n := Nat.mul_le_mul_left _ (by omega)
  omega
 have e3 := (q76 e2).2
 exact ⟨⟨n2, by simp; omega, (h.uo.drop j).take _, vo, vl, hi, by rw [e3]; exact e1⟩, e3⟩
theorem Dv.next {r v U Q w' : List Nat} {n m j : Nat} (h : Dv r v U Q n m (j + 1)) (T : Trial ((U.drop j).take (n + 1)) v n) (hw : val ((U.drop j).take (n + 1)) = val (U.drop j)) (hl' : w'.length = n + 1) (ho' : LOk w') (hv' : val w' = val ((U.drop j).take (n + 1)) % val (v.take n)) :
 Dv r v (U.take j ++ w' ++ U.drop (j + n + 1)) (Q.set j (val ((U.drop j).take (n + 1)) / val (v.take n))) n m j := by
 have hl := h.ul
 have hj := h.jm
 have hpos := T.pos.2
 have hq := T.qlt
 obtain ⟨w1, w2, w3⟩ := qku (U := U) (i := j) (n := n) (by omega)
 have hpz : val (U.drop (j + n + 1)) = 0 := by
  have := q1Y (U.drop j) (n + 1)
  rw [hw, List.drop_drop, show j + (n + 1) = j + n + 1 by omega] at this
  have hp : 0 < 4294967296 ^ (n + 1) := Nat.pow_pos (by decide)
  have h0 : 4294967296 ^ (n + 1) * val (U.drop (j + n + 1)) = 0 := by omega
  rcases Nat.mul_eq_zero.1 h0 with h1 | h1
  ·omega
  ·exact h1
 refine ⟨by omega, by simp [hl']; omega, ((h.uo.take j).append ho').append (h.uo.drop _), by simp [h.ql], h.qo.set _ hq, ?_, ?_⟩
 ·rw [List.append_assoc, List.drop_left' w2, val_append, hpz, hv']
  have := Nat.mod_lt (val ((U.drop j).take (n + 1))) hpos
  omega
 ·have heq := h.eq
  have e1 : val (U.take j ++ w' ++ U.drop (j + n + 1)) = val (U.take j) + 4294967296 ^ j * val w' := by
   rw [List.append_assoc, val_append, val_append, w2, hpz]; simp
  have e2 : val U = val (U.take j) + 4294967296 ^ j * val (U.drop j) := q1Y U j
  rw [e1, q27, q2c, if_pos ⟨rfl, by rw [h.ql]; omega⟩, List.drop_set_of_lt (by omega), hv', hw]
  rw [heq, e2, Nat.pow_succ]
  have hdm := Nat.div_add_mod (val (U.drop j)) (val (v.take n))
  generalize val (v.take n) = V at *
  generalize val (U.drop j) / V = q at *
  generalize val (U.drop j) % V = R at *
  rw [← hdm]
  generalize val (Q.drop (j + 1)) = X
  generalize 4294967296 ^ j = P
  grind
set_option maxHeartbeats 8000000 in
theorem q9X (a b : List Nat) [ha : LOk a] [hb : LOk b] (hla : a.length ≤ 900000000) (hlb : b.length ≤ 900000000) :
 PU q2k [nat a, nat b] = some (if val b = 0 then .tup [nat [], nat [], .bool false] else .tup [nat (q06 (val a / val b)), nat (q06 (val a % val b)), .bool true]) := by
 have ea : val (q06 (val a)) = val a := q0e _
 have eb : val (q06 (val b)) = val b := q0e _
 have hla' := q1k ha
 have hlb' := q1k hb
 refine q0i (fn := q4Y) rfl (q0a ?_)
 refine go 800 rfl ?_
 refine q00 rfl rfl (q1G a (by omega)) ?_
 refine go 800 rfl ?_
 refine q00 rfl rfl (q1G b (by omega)) ?_
 refine go 800 rfl ?_
 have hAo : LOk (q06 (val a)) := q0n _
 have hBo : LOk (q06 (val b)) := q0n _
 have hb0 : (q06 (val b)).length = 0 ↔ val b = 0 := by rw [List.length_eq_zero_iff]; exact qce
 have hbtop : val b ≠ 0 → dg (q06 (val b)) ((q06 (val b)).length - 1) ≠ 0 := qfY
 have hlen : val b ≤ val a → (q06 (val b)).length ≤ (q06 (val a)).length := fun h => q0f.2 (Nat.lt_of_le_of_lt h (q0f.1 (Nat.le_refl _)))
 generalize q06 (val a) = A at *
 generalize q06 (val b) = B at *
 rw [List.length_map]
 refine q02 rfl (fun h1 => ?_) (fun h1 => ?_)
 ·rw [q26] at h1
  refine go 800 rfl ?_
  refine q0c rfl rfl rfl trivial ?_
  rw [if_pos (hb0.1 (by omega))]; rfl
 rw [q2g] at h1
 have hvb : val b ≠ 0 := fun h => h1 (by have := hb0.2 h; omega)
 rw [if_neg hvb]
 refine go 800 rfl ?_
 refine q00 rfl rfl (qjD A B (by omega) (by omega)) ?_
 refine go 800 rfl ?_
 rw [ea, eb]
 refine q02 rfl (fun h2 => ?_) (fun h2 => ?_)
 ·rw [q0b] at h2
  have hlt : val a < val b := by
   unfold q3w at h2
   split at h2
   ·omega
   ·split at h2 <;> omega
  refine go 800 rfl ?_
  refine q00 rfl rfl (q3L A (by omega)) ?_
  refine go 800 rfl ?_
  refine q0c rfl rfl rfl trivial ?_
  rw [Nat.div_eq_of_lt hlt, Nat.mod_eq_of_lt hlt, ea]; rfl
 rw [q0d] at h2
 have hle : val b ≤ val a := by
  unfold q3w at h2
  split at h2
  ·omega
  ·omega
 have hlen := hlen hle
 refine go 800 rfl ?_
 rw [List.length_map]
 refine q02 rfl (fun h3 => ?_) (fun h3 => ?_)
 ·rw [q26] at h3
  have hB1 : B.length = 1 := by omega
  have hd := q0T hBo 0
  have ev : val B = dg B 0 := by
   have := q0z B 0
   rw [List.take_of_length_le (by omega)] at this
   simpa [val] using this
  have hd0 : dg B 0 ≠ 0 := by rw [← ev, eb]; exact hvb
  have w0 : IntKind.u64.wrap ((val A % dg B 0 : Nat) : Int) = ((val A % dg B 0 : Nat) : Int) := q0D (by have := Nat.mod_lt (val A) (show 0 < dg B 0 by omega); omega)
  refine go 800 rfl ?_
  refine q0y 0 rfl rfl rfl (q1B (by omega)) rfl ?_
  refine go 800 rfl ?_
  refine q00 rfl rfl (qn0 A (dg B 0) (by omega) hd0 hd) ?_
  refine go 800 rfl ?_
  rw [w0]
  refine q00 rfl rfl (q5b (val A % dg B 0) (by have := Nat.mod_lt (val A) (show 0 < dg B 0 by omega); omega)) ?_
  refine go 800 rfl ?_
  refine q0c rfl rfl rfl trivial ?_
  rw [← eb, ← ea, ev]
  rfl
 rw [q2g] at h3
 have hn2 : 2 ≤ B.length := by omega
 generalize hn : B.length = n at *
 have wn1 : IntKind.i64.wrap ((n : Int) - 1) = ((n - 1 : Nat) : Int) := by rw [wrap64 (by omega) (by omega)]; omega
 obtain ⟨s, hs1, hs2, hs3, hs4⟩ := qbm (dg B (n - 1)) (q0T hBo _) (hbtop hvb)
 refine go 800 rfl ?_
 rw [List.length_map, hn]
 refine q0y (n - 1) rfl rfl wn1 (q1B (by omega)) rfl ?_
 refine go 800 rfl ?_
 refine q00 rfl rfl hs1 ?_
 refine go 800 rfl ?_
 refine qji rfl rfl ?_
 refine left1 A s (by omega) hs2 trivial fun r h' z' hr hro hrv hh' hz' _ => ?_
 refine go 800 rfl ?_
 refine qji rfl rfl ?_
 refine left2 B s (by omega) hs2 r ⟨hh', hz'⟩ fun v h'' z'' hv hvo hvv hh'' hz'' hold => ?_
 obtain ⟨h0, rfl⟩ : ∃ h0 : q08, h'' = upd (upd h0 80 (some (.row (r.map u32) 1))) 131 (some (.row (v.map u32) 1)) := ⟨h'', by rw [q4M (f := h'') hold.1, q4M (f := h'') hh'']⟩
 obtain ⟨z0, rfl⟩ : ∃ z0 : Frz, z'' = upd (upd z0 80 0) 131 0 := ⟨z'', by rw [q4M (f := z'') hold.2, q4M (f := z'') hz'']⟩
 rw [hn] at hv
 refine go 800 rfl ?_
 refine qdR n rfl rfl rfl ⟨_, _, rfl, rfl⟩ (by omega) ?_
 refine go 800 rfl ?_
 have wm : IntKind.i64.wrap (((A.length + 1 : Nat) : Int) - (n : Int)) = ((A.length + 1 - n : Nat) : Int) := by rw [wrap64 (by omega) (by omega)]; omega
 rw [wm]
 refine q3O (A.length + 1 - n) rfl rfl rfl (by simp [q0O]; omega) ?_
 rw [q5M]
 refine go 800 rfl ?_
 have wm1 : IntKind.i64.wrap (((A.length + 1 - n : Nat) : Int) - 1) = ((A.length + 1 - n : Nat) : Int) - 1 := wrap64 (by omega) (by omega)
 generalize hm : A.length + 1 - n = m at *
 have hAl : A.length + 1 = m + n := by omega
 rw [hAl] at hr
 have hvV : val (v.take n) = val b * 2 ^ s := by
  have h5 : val v < 4294967296 ^ n := by
   rw [hvv]
   have e1 := q0z B (n - 1)
   rw [Nat.sub_add_cancel (by omega), List.take_of_length_le (by omega)] at e1
   have e2 := q1n hBo (n - 1)
   have e3 : val B < 4294967296 ^ (n - 1) * (dg B (n - 1) + 1) := by rw [e1, Nat.mul_add]; omega
   have e4 : 4294967296 ^ n = 4294967296 ^ (n - 1) * 4294967296 := by rw [← Nat.pow_succ]; congr 1; omega
   calc val B * 2 ^ s < 4294967296 ^ (n - 1) * (dg B (n - 1) + 1) * 2 ^ s := Nat.mul_lt_mul_of_pos_right e3 (Nat.two_pow_pos s)
    _ = 4294967296 ^ (n - 1) * ((dg B (n - 1) + 1) * 2 ^ s) := Nat.mul_assoc _ _ _
    _ ≤ 4294967296 ^ (n - 1) * 4294967296 := Nat.mul_le_mul_left _ hs4
    _ = 4294967296 ^ n := e4.symm
  rw [(q76 h5).2, hvv, eb]
 have hvtop : 2147483648 ≤ dg v (n - 1) := by
  rw [qjC hvo, hvv]
  have e1 := q0z B (n - 1)
  rw [Nat.sub_add_cancel (by omega), List.take_of_length_le (by omega)] at e1
  have e2 : dg B (n - 1) * 2 ^ s ≤ val B * 2 ^ s / 4294967296 ^ (n - 1) := by
   rw [Nat.le_div_iff_mul_le (Nat.pow_pos (by decide)), e1, Nat.mul_right_comm]
   refine Nat.mul_le_mul_right _ ?_
   rw [Nat.mul_comm]; omega
  have e3 : val B * 2 ^ s / 4294967296 ^ (n - 1) < 4294967296 := by
   rw [Nat.div_lt_iff_lt_mul (Nat.pow_pos (by decide)), Nat.mul_comm 4294967296, ← Nat.pow_succ, show (n - 1).succ = n by omega, eb, ← hvV]
   exact q1n hvo n
  rw [Nat.mod_eq_of_lt e3]
  omega
 have hstart : Dv r v r (List.replicate m 0) n m m := by
  refine ⟨Nat.le_refl _, hr, hro, by simp, q3x _, ?_, by simp [val]⟩
  have e1 := q1Y r m
  have e2 : val r < 4294967296 ^ m * (4294967296 ^ (n - 1) * 2 ^ s) := by
   rw [hrv, ← Nat.mul_assoc, ← Nat.pow_add, show m + (n - 1) = A.length by omega]
   exact Nat.mul_lt_mul_of_pos_right (q1U hAo) (Nat.two_pow_pos s)
  have e3 : val (r.drop m) < 4294967296 ^ (n - 1) * 2 ^ s := by
   refine Nat.lt_of_mul_lt_mul_left (a := 4294967296 ^ m) ?_
   omega
  have e4 : 4294967296 ^ (n - 1) * dg v (n - 1) ≤ val (v.take n) := by
   have := q0z v (n - 1)
   rw [Nat.sub_add_cancel (by omega)] at this
   omega
  have e5 : 2 ^ s ≤ 2147483648 := by simpa using Nat.pow_le_pow_right (n := 2) (by decide) hs2
  have e6 : 4294967296 ^ (n - 1) * 2 ^ s ≤ 4294967296 ^ (n - 1) * dg v (n - 1) := Nat.mul_le_mul_left _ (by omega)
  omega
 refine q0x (S := fun x : Nat × List Nat × List Nat => ([q01 n, q01 s, .ref 2 0 (m + n), .ref 3 0 n, .ref 4 0 m, q01 ((x.1 : Int) - 1)], [none, none, some (.row (x.2.1.map u32) 1), some (.row (v.map u32) 1), some (.row (x.2.2.map u32) 1), none], [0, 0, 0, 0, 0, 0]))
  (C := fun x => Dv r v x.2.1 x.2.2 n m x.1) (m := fun x => x.1) (m, r, List.replicate m 0) hstart (by simp only; omega) ?_ ?_
 ·exact q05 rfl ⟨q07 q0h _, q07 q0h _, q07 q0h _, trivial⟩ (by simp [q01, wm1, hAl])
 rintro ⟨j, U, Q⟩ hD N hN
 simp only at hD
 have hul := hD.ul
 have hql := hD.ql
 have hjm := hD.jm
 refine go 800 rfl ?_
 refine q02 rfl (fun g1 => ?_) (fun g1 => ?_)
 ·rw [q24] at g1
  simp only at g1
  obtain ⟨i, rfl⟩ : ∃ i, j = i + 1 := ⟨j - 1, by omega⟩
  obtain ⟨T, hT⟩ := hD.trial hn2 hvo (by omega) hvtop
  obtain ⟨w1, w2, w3⟩ := qku (U := U) (i := i) (n := n) (by omega)
  have ei : ((i + 1 : Nat) : Int) - 1 = (i : Int) := by omega
  have wi : IntKind.i64.wrap (IntKind.i64.wrap ((i : Int) + (n : Int)) + 1) = ((i + n + 1 : Nat) : Int) := by rw [wrap64 (x := (i : Int) + n) (by omega) (by omega), wrap64 (by omega) (by omega)]; omega
  refine go 800 rfl ?_
  rw [ei]
  refine atSlR i (i + n + 1) rfl rfl rfl ⟨_, _, rfl, rfl⟩ ⟨_, _, rfl, wi⟩ (by omega) ?_
  have esl : (if i = 0 then D.ref 2 0 (i + n + 1) else if i = i + n + 1 then D.lst [] else D.ref 2 (0 + i) (i + n + 1 - i)) = D.ref 2 (U.take i).length (n + 1) := by
   rw [w2]
   by_cases hi0 : i = 0
   ·subst hi0; simp
   ·rw [if_neg hi0, if_neg (by omega)]; congr 1 <;> omega
  rw [esl]
  refine go 800 rfl ?_
  refine qji rfl rfl ?_
  refine qn3 (U.take i) ((U.drop i).take (n + 1)) (U.drop (i + n + 1)) v Q n T (by omega) (Old.of (by rw [← w1]; rfl) rfl rfl rfl rfl rfl) fun w' h' z' nx' hnx hl' ho' hv' hold => ?_
  obtain ⟨⟨h1, rfl⟩, z1, rfl⟩ := hold
  have hD' := hD.next T hT hl' ho' hv'
  generalize U.take i ++ w' ++ U.drop (i + n + 1) = U' at *
  have hq := T.qlt
  generalize val ((U.drop i).take (n + 1)) / val (v.take n) = qd at *
  have wj : IntKind.i64.wrap ((i : Int) - 1) = (i : Int) - 1 := wrap64 (by omega) (by omega)
  rcases hnx with rfl | rfl
  ·refine go 800 rfl ?_
   refine q0B i rfl rfl rfl rfl rfl (by omega) ?_
   refine go 800 rfl ?_
   refine q1c Q i qd rfl rfl (Nat.zero_add _) rfl rfl (Nat.zero_le _) (by omega) ?_
   refine go 800 rfl ?_
   refine q09 ?_
   exact hN (i, U', Q.set i qd) hD' (by simp only; omega) (q05 rfl ⟨q07 q0h _, q07 q0h _, q07 q0h _, trivial⟩ (by simp [q01, wj]))
  ·refine go 800 rfl ?_
   refine q0B i rfl rfl rfl rfl rfl (by omega) ?_
   refine go 800 rfl ?_
   refine q1c Q i qd rfl rfl (Nat.zero_add _) rfl rfl (Nat.zero_le _) (by omega) ?_
   refine go 800 rfl ?_
   refine q09 ?_
   exact hN (i, U', Q.set i qd) hD' (by simp only; omega) (q05 rfl ⟨q07 q0h _, q07 q0h _, q07 q0h _, trivial⟩ (by simp [q01, wj]))
 ·rw [q25] at g1
  simp only at g1
  obtain rfl : j = 0 := by omega
  have heq := hD.eq
  have hlt := hD.lt
  simp only [Nat.pow_zero, Nat.one_mul, List.drop_zero] at heq hlt
  have hU : val U < 4294967296 ^ n := Nat.lt_trans hlt (q1n hvo n)
  have hUt := (q76 hU).2
  have hpos : 0 < val (v.take n) := by omega
  have hQ : val Q = val a / val b := by
   have : val Q = val r / val (v.take n) := by rw [heq, Nat.add_mul_div_left _ _ hpos, Nat.div_eq_of_lt hlt, Nat.zero_add]
   rw [this, hrv, hvV, ea, Nat.mul_div_mul_right _ _ (Nat.two_pow_pos s)]
  have hR : val (U.take n) / 2 ^ s = val a % val b := by
   have : val U = val r % val (v.take n) := by rw [heq, Nat.add_mul_mod_self_left, Nat.mod_eq_of_lt hlt]
   rw [hUt, this, hrv, hvV, ea, Nat.mul_mod_mul_right, Nat.mul_div_cancel _ (Nat.two_pow_pos s)]
  have hQo := hD.qo
  have hUo : LOk (U.take n) := hD.uo.take n
  have hp := q1G Q (by omega)
  rw [hQ] at hp
  have hp2 := qcf (U.take n) s (by simp; omega) hs2
  rw [hR] at hp2
  have hrow : D.lst ((U.map u32).take n) = nat (U.take n) := by rw [nat, List.map_take]
  refine go 800 rfl ?_
  refine q09 ?_
  refine go 800 rfl ?_
  refine q1q rfl rfl ⟨q2F (l := Q) hql.symm, trivial⟩ (by rw [q2P (l := Q) hql.symm]; exact hp) fun z => ?_
  refine go 800 rfl ?_
  refine qdR n rfl rfl rfl ⟨_, _, rfl, rfl⟩ (by omega) ?_
  refine go 800 rfl ?_
  refine q1q rfl rfl ⟨⟨by simp; omega, ?_⟩, trivial⟩ (by rw [hrow]; exact hp2) fun z => ?_
  ·rw [List.drop_zero, ← List.map_take]; exact q2U qko _
  refine go 800 rfl ?_
  exact q0c rfl rfl rfl trivial rfl
def bl (n : Nat) : Nat := if n = 0 then 0 else n.log2 + 1
theorem qi6 {n k : Nat} (h : n < 4294967296 ^ k) : bl n ≤ 32 * k := by
 unfold bl
 split
 ·omega
 ·rename_i h0
  rw [show (4294967296 : Nat) = 2 ^ 32 by decide, ← Nat.pow_mul] at h
  exact (Nat.log2_lt h0).2 h
theorem qn4 {x y : Nat} (hy : y ≠ 0) (h : y ≤ x) : bl (x % y) < bl x := by
 have hx : x ≠ 0 := by omega
 unfold bl
 rw [if_neg hx]
 split
 ·omega
 ·rename_i h0
  have h2 : 2 * (x % y) ≤ x := by
   have hm := Nat.mod_lt x (show 0 < y by omega)
   have hd := Nat.div_add_mod x y
   have hq : 1 ≤ x / y := (Nat.le_div_iff_mul_le (by omega)).2 (by omega)
   have : y * 1 ≤ y * (x / y) := Nat.mul_le_mul_left _ hq
   omega
  have h3 : (x % y).log2 + 1 ≤ x.log2 := by
   have := (Nat.le_log2 hx (k := (x % y).log2 + 1)).2 (by
    have := Nat.log2_self_le h0
    rw [Nat.pow_succ]; omega)
   exact this
  omega
theorem Gcd_PU (a b : List Nat) [ha : LOk a] [hb : LOk b] (hla : a.length ≤ 900000000) (hlb : b.length ≤ 900000000) : PU qaa [nat a, nat b] = some (nat (q06 (Nat.gcd (val a) (val b)))) := by
 refine q0i (fn := q71) rfl (q0a ?_)
 refine go 800 rfl ?_
 refine q00 rfl rfl (q3L a (by omega)) ?_
 refine go 800 rfl ?_
 refine q00 rfl rfl (q3L b (by omega)) ?_
 refine go 800 rfl ?_
 obtain ⟨K, hK⟩ : ∃ K : Nat, K = 900000000 := ⟨_, rfl⟩
 rw [← hK] at hla hlb
 have hA := Nat.lt_of_lt_of_le (q1U ha) (Nat.pow_le_pow_right (show 0 < 4294967296 by decide) hla)
 have hB := Nat.lt_of_lt_of_le (q1U hb) (Nat.pow_le_pow_right (show 0 < 4294967296 by decide) hlb)
 refine q0x (S := fun x : Nat × Nat => ([nat (q06 x.1), nat (q06 x.2)], [none, none], [0, 0])) (C := fun x => x.1 < 4294967296 ^ K ∧ x.2 < 4294967296 ^ K ∧ Nat.gcd x.1 x.2 = Nat.gcd (val a) (val b)) (m := fun x => 2 * (bl x.1 + bl x.2) + if x.1 < x.2 then 1 else 0) (val a, val b) ⟨hA, hB, rfl⟩ ?_ ?_ ?_
 ·simp only
  have h1 := qi6 hA
  have h2 := qi6 hB
  split <;> omega
 ·exact q05 rfl trivial (by simp [nat])
 rintro ⟨x, y⟩ ⟨hx, hy, hg⟩ N hN
 simp only at hx hy hg
 refine go 800 rfl ?_
 rw [List.length_map]
 refine q02 rfl (fun h1 => ?_) (fun h1 => ?_)
 ·rw [q0b] at h1
  have hy0 : y ≠ 0 := q2b.1 (by simp only at h1; omega)
  have hp := q9X (q06 x) (q06 y) (hK ▸ q0f.2 hx) (hK ▸ q0f.2 hy)
  rw [q0e, q0e, if_neg hy0] at hp
  refine go 800 rfl ?_
  refine q00 rfl rfl hp ?_
  refine go 800 rfl ?_
  refine q09 ?_
  refine hN (y, x % y) ⟨hy, Nat.lt_of_le_of_lt (Nat.mod_le _ _) hx, ?_⟩ ?_ (q05 rfl trivial (by simp [nat]))
  ·simp only
   rw [← hg, Nat.gcd_comm x y, Nat.gcd_rec y x, Nat.gcd_comm]
  ·simp only
   have hm := Nat.mod_lt x (show 0 < y by omega)
   by_cases hxy : x < y
   ·rw [if_pos hxy, Nat.mod_eq_of_lt hxy, if_neg (by omega)]; omega
   ·have := qn4 hy0 (Nat.le_of_not_lt hxy)
    rw [if_neg hxy, if_neg (by omega)]; omega
 ·rw [q0d] at h1
  have hy0 : y = 0 := by
   by_cases h : y = 0
   ·exact h
   ·have := q2b.2 h; simp only at h1; omega
  refine go 800 rfl ?_
  refine q09 ?_
  refine go 800 rfl ?_
  refine q0c rfl rfl rfl trivial ?_
  rw [← hg, hy0, Nat.gcd_zero_right]; rfl
end Go.F

namespace Go.F
attribute [local irreducible] IntKind.wrap wpM
theorem q0V (l : List Nat) (i : Nat) [ho : LOk l] (hi : i ≤ 4000000000) : PU q1a [nat l, .int .i64 i] = some (.int .u64 (dg l i)) := by
 have hd := q0T ho i
 refine q0i (fn := qaJ) rfl (q0a ?_)
 refine go 800 rfl ?_
 refine q0g rfl (fun h => ?_) (fun h => ?_)
 ·rw [q0b] at h; omega
 refine go 800 rfl ?_
 rw [List.length_map]
 refine q02 rfl (fun h1 => ?_) (fun h1 => ?_)
 ·rw [q24] at h1
  refine go 800 rfl ?_
  refine q0c rfl rfl rfl trivial ?_
  rw [q5H (by omega)]; rfl
 ·rw [q25] at h1
  refine go 800 rfl ?_
  refine q0y i rfl rfl rfl (q1B (by omega)) rfl ?_
  refine go 800 rfl ?_
  refine q0c rfl rfl rfl trivial ?_
  rw [q0D (by omega)]
theorem q1d (l : List Nat) [ho : LOk l] (hl : l.length ≤ 1000000000) : PU q1i [nat l] = some (nat (q06 (val l))) := by
 refine q0i (fn := qaI) rfl (q0a ?_)
 refine go 800 rfl ?_
 refine q0x (S := fun n : Nat => ([nat l, q01 n], [none, none], [0, 0])) (C := fun n => n ≤ l.length ∧ ∀ i, n ≤ i → dg l i = 0) (m := fun n => n) l.length ⟨Nat.le_refl _, fun i hi => q5H hi⟩ (by omega) ?_ ?_
 ·exact q05 rfl trivial (by simp [nat, q01])
 intro n ⟨hn, h0⟩ N hN
 have fin : (n = 0 ∨ dg l (n - 1) ≠ 0) → (l.map u32).take n = (q06 (val l)).map u32 := fun h => by
  rw [← qfZ ho hn h0 h, List.map_take]
 have hlen := q1k ho
 refine go 800 rfl ?_
 refine q0g rfl (fun h1 => ?_) (fun h1 => ?_)
 ·rw [q0b] at h1
  have w1 : IntKind.i64.wrap ((n : Int) - 1) = ((n - 1 : Nat) : Int) := by rw [wrap64 (by omega) (by omega)]; omega
  refine go 800 rfl ?_
  refine q0y (n - 1) rfl rfl w1 (q1B (by omega)) rfl ?_
  refine go 800 rfl ?_
  refine q02 rfl (fun h2 => ?_) (fun h2 => ?_)
  ·rw [q26] at h2
   refine go 800 rfl ?_
   refine q09 ?_
   refine hN (n - 1) ⟨by omega, fun i hi => ?_⟩ (by omega) (q05 rfl trivial (by simp [nat, q01, w1]))
   by_cases hin : i = n - 1
   ·subst hin; omega
   ·exact h0 i (by omega)
  ·rw [q2g] at h2
   refine go 800 rfl ?_
   refine q09 ?_
   refine go 800 rfl ?_
   refine qcL n rfl (q1x (f := u32) (n := 1) (fun _ => rfl) _) ⟨_, _, rfl, rfl⟩ (by simpa using hn) ?_
   rw [fin (.inr (by omega))]
   refine go 800 rfl ?_
   refine qfG rfl rfl (q1x (f := u32) (n := 1) (fun _ => rfl) _) (by simp [q0O]; omega) ?_
   refine go 800 rfl ?_
   exact q0c rfl rfl rfl ⟨q2F (by simp), trivial⟩ (q2P (by simp))
 ·rw [q0d] at h1
  refine go 800 rfl ?_
  refine q0o rfl ?_
  refine go 800 rfl ?_
  refine q09 ?_
  refine go 800 rfl ?_
  refine qcL n rfl (q1x (f := u32) (n := 1) (fun _ => rfl) _) ⟨_, _, rfl, rfl⟩ (by simpa using hn) ?_
  rw [fin (.inl (by omega))]
  refine go 800 rfl ?_
  refine qfG rfl rfl (q1x (f := u32) (n := 1) (fun _ => rfl) _) (by simp [q0O]; omega) ?_
  refine go 800 rfl ?_
  exact q0c rfl rfl rfl ⟨q2F (by simp), trivial⟩ (q2P (by simp))
theorem qda (n k : Nat) (h : n / 4294967296 ^ k ≠ 0) : (q06 n).take (k + 1) = (q06 n).take k ++ [n / 4294967296 ^ k % 4294967296] := by
 have hl : k < (q06 n).length := by
  rcases Nat.lt_or_ge k (q06 n).length with g | g
  ·exact g
  ·exact absurd (Nat.div_eq_of_lt (q0f.1 g)) h
 rw [qkn hl, qjC (q0n n), q0e]
theorem q9Y (n : Nat) (hn : n < 18446744073709551616) : PU q96 [.int .u64 n] = some (nat (q06 n)) := by
 refine q0i (fn := qea) rfl (q0a ?_)
 refine go 800 rfl ?_
 refine q0x (S := fun k : Nat => ([.int .u64 (n / 4294967296 ^ k : Nat), .ref 1 0 ((q06 n).take k).length], [none, some (.row (((q06 n).take k).map u32) 1)], [0, 0])) (C := fun k => k ≤ 3) (m := fun k => 4 - k) 0 (by omega) (by omega) ?_ ?_
 ·exact q05 rfl ⟨rfl, trivial⟩ (by simp)
 intro k hk N hN
 have hle : n / 4294967296 ^ k ≤ n := Nat.div_le_self _ _
 refine go 800 rfl ?_
 refine q02 rfl (fun h1 => ?_) (fun h1 => ?_)
 ·rw [q0b] at h1
  have hne : n / 4294967296 ^ k ≠ 0 := by omega
  have hst := qda n k hne
  have hdd : n / 4294967296 ^ (k + 1) = n / 4294967296 ^ k / 4294967296 := by rw [Nat.pow_succ, Nat.div_div_eq_div_mul]
  have hk2 : k + 1 ≤ 3 := by
   rcases Nat.lt_or_ge k 3 with g | g
   ·omega
   ·obtain rfl : k = 3 := by omega
    exact absurd (Nat.div_eq_of_lt (show n < 4294967296 ^ 3 by omega)) hne
  generalize n / 4294967296 ^ k = m at *
  refine go 800 rfl ?_
  refine q6l m 4294967296 rfl rfl rfl rfl (by decide) ?_
  refine go 800 rfl ?_
  rw [q0H, Nat.mod_mod]
  refine q2w rfl rfl rfl rfl rfl rfl (by simp) (Nat.zero_le _) (by simp [q0O]; omega) ?_
  refine go 800 rfl ?_
  refine q4z m 4294967296 rfl rfl rfl rfl (by decide) (q0D (by omega)) ?_
  refine go 800 rfl ?_
  refine q09 ?_
  refine hN (k + 1) hk2 (by omega) (q05 rfl ⟨?_, trivial⟩ ?_)
  ·rw [List.all_append, q07 q0h]; rfl
  ·rw [hst, hdd]
   simp [u32]
 ·rw [q0d] at h1
  have hz : n / 4294967296 ^ k = 0 := by
   have : ((n / 4294967296 ^ k : Nat) : Int) ≤ 0 := h1
   exact Nat.le_zero.1 (by exact_mod_cast this)
  have hl : (q06 n).length ≤ k := q0f.2 (by
   rcases Nat.lt_or_ge n (4294967296 ^ k) with g | g
   ·exact g
   ·have := Nat.div_pos g (Nat.pow_pos (n := k) (show 0 < 4294967296 by decide)); omega)
  rw [List.take_of_length_le hl]
  refine go 800 rfl ?_
  refine q09 ?_
  refine go 800 rfl ?_
  exact q0c rfl rfl rfl ⟨q2F (by simp), trivial⟩ (q2P (by simp))
theorem qi7 {a b : List Nat} {n : Nat} (h : ∀ i, n ≤ i → dg a i = dg b i) : val (a.drop n) = val (b.drop n) := by
 have key : ∀ k n, n + k = a.length + b.length → (∀ i, n ≤ i → dg a i = dg b i) → val (a.drop n) = val (b.drop n) := by
  intro k
  induction k with
  | zero => intro n hn _; rw [List.drop_of_length_le (by omega), List.drop_of_length_le (by omega)]
  | succ k ih => intro n hn h; rw [q27, q27 b, h n (Nat.le_refl _), ih (n + 1) (by omega) (fun i hi => h i (by omega))]
 by_cases hn : n ≤ a.length + b.length
 ·exact key (a.length + b.length - n) n (by omega) h
 ·rw [List.drop_of_length_le (by omega), List.drop_of_length_le (by omega)]
theorem qej {a b : List Nat} (ha : LOk a) {i : Nat} (h : ∀ j, i + 1 ≤ j → dg a j = dg b j) (hi : dg a i < dg b i) : val a < val b := by
 have e1 := q1Y a i
 have e2 := q1Y b i
 rw [q27, qi7 h] at e1
 rw [q27] at e2
 have h1 := q1U (ha.take i)
 have h3 : 4294967296 ^ (a.take i).length ≤ 4294967296 ^ i := Nat.pow_le_pow_right (by decide) (by simp; omega)
 generalize 4294967296 ^ i = P at *
 generalize 4294967296 * val (List.drop (i + 1) b) = R at *
 have h2 : P * (dg a i + R) + P ≤ P * (dg b i + R) := by
  rw [← Nat.mul_succ]; exact Nat.mul_le_mul_left _ (by omega)
 omega
theorem qjE (a b : List Nat) [ha : LOk a] [hb : LOk b] (hla : a.length ≤ 1000000000) (hlb : b.length ≤ 1000000000) : PU qfV [nat a, nat b] = some (.int .i64 (q3w (val a) (val b))) := by
 refine q0i (fn := qcb) rfl (q0a ?_)
 refine go 800 rfl ?_
 rw [List.length_map, List.length_map]
 refine q0x (S := fun n : Nat => ([nat a, nat b, .int .i64 ((n : Int) - 1)], [none, none, none], [0, 0, 0])) (C := fun n => n ≤ max a.length b.length ∧ ∀ i, n ≤ i → dg a i = dg b i) (m := fun n => n) (max a.length b.length) ⟨Nat.le_refl _, fun i hi => by rw [q5H (by omega), q5H (by omega)]⟩ (by omega) ?_ ?_
 ·refine q05 rfl trivial ?_
  have : IntKind.i64.wrap (max (a.length : Int) b.length - 1) = ((max a.length b.length : Nat) : Int) - 1 := by rw [wrap64 (by omega) (by omega)]; omega
  simp [nat, this]
 intro n ⟨hn, hall⟩ N hN
 refine go 800 rfl ?_
 refine q02 rfl (fun h1 => ?_) (fun h1 => ?_)
 ·rw [q24] at h1
  have hn1 : ((n : Int) - 1) = ((n - 1 : Nat) : Int) := by omega
  have w1 : IntKind.i64.wrap (((n - 1 : Nat) : Int) - 1) = ((n - 1 : Nat) : Int) - 1 := wrap64 (by omega) (by omega)
  have hxa := q0T ha (n - 1)
  have hall' : ∀ j, n - 1 + 1 ≤ j → dg a j = dg b j := fun j hj => hall j (by omega)
  rw [hn1]
  refine go 800 rfl ?_
  refine q00 rfl rfl (q0V a (n - 1) (by omega)) ?_
  refine go 800 rfl ?_
  refine q00 rfl rfl (q0V b (n - 1) (by omega)) ?_
  refine go 800 rfl ?_
  refine q02 rfl (fun h2 => ?_) (fun h2 => ?_)
  ·rw [q0b] at h2
   refine go 800 rfl ?_
   refine q09 ?_
   refine go 800 rfl ?_
   refine q0c rfl rfl rfl trivial ?_
   have := qej ha hall' (by omega)
   rw [q3w, if_pos (by omega)]
  rw [q0d] at h2
  refine go 800 rfl ?_
  refine q00 rfl rfl (q0V a (n - 1) (by omega)) ?_
  refine go 800 rfl ?_
  refine q00 rfl rfl (q0V b (n - 1) (by omega)) ?_
  refine go 800 rfl ?_
  refine q02 rfl (fun h3 => ?_) (fun h3 => ?_)
  ·rw [q0b] at h3
   refine go 800 rfl ?_
   refine q09 ?_
   refine go 800 rfl ?_
   refine q0c rfl rfl rfl trivial ?_
   have := qej hb (fun j hj => (hall' j hj).symm) (show dg b (n - 1) < dg a (n - 1) by omega)
   rw [q3w, if_neg (by omega), if_pos (by omega)]
  rw [q0d] at h3
  refine go 800 rfl ?_
  refine q09 ?_
  refine hN (n - 1) ⟨by omega, fun i hi => ?_⟩ (by omega) (q05 rfl trivial (by simp [nat, w1]))
  by_cases hin : i = n - 1
  ·subst hin; omega
  ·exact hall i (by omega)
 ·rw [q25] at h1
  obtain rfl : n = 0 := by omega
  refine go 800 rfl ?_
  refine q09 ?_
  refine go 800 rfl ?_
  refine q0c rfl rfl rfl trivial ?_
  have h := qi7 (a := a) (b := b) (n := 0) hall
  rw [List.drop_zero, List.drop_zero] at h
  rw [h, q3w, if_neg (by omega), if_neg (by omega)]
set_option maxHeartbeats 1000000 in
theorem qek (a b : List Nat) [ha : LOk a] [hb : LOk b] (hla : a.length ≤ 100000000) (hlb : b.length ≤ 100000000) : PU qbR [nat a, nat b] = some (nat (q06 (val a + val b))) := by
 refine q0i (fn := qc3) rfl (q0a ?_)
 refine go 800 rfl ?_
 refine q0x (S := fun x : Nat × List Nat × Nat => ([nat a, nat b, .ref 2 0 x.2.1.length, .int .u64 x.2.2, q01 x.1], [none, none, some (.row (x.2.1.map u32) 1), none, none], [0, 0, 0, 0, 0]))
  (C := fun x => x.1 ≤ max a.length b.length + 1 ∧ x.2.1.length = x.1 ∧ LOk x.2.1 ∧ x.2.2 ≤ 1 ∧ (x.1 = max a.length b.length + 1 → x.2.2 = 0) ∧ val x.2.1 + 4294967296 ^ x.1 * x.2.2 = val (a.take x.1) + val (b.take x.1)) (m := fun x => max a.length b.length + 1 - x.1) (0, [], 0) ⟨Nat.zero_le _, rfl, qeg, by decide, fun h => by simp at h, by simp [val]⟩ (by simp; omega) ?_ ?_
 ·exact q05 rfl ⟨rfl, trivial⟩ (by simp [nat, q01])
 rintro ⟨k, r, c⟩ ⟨hk, hr, hro, hc, hlast, hinv⟩ N hN
 simp only at hk hr hro hc hlast hinv
 have hx := q0T ha k
 have hy := q0T hb k
 have w1 : IntKind.i64.wrap ((k : Int) + 1) = ((k + 1 : Nat) : Int) := wrap64 (by omega) (by omega)
 have next : k ≤ max a.length b.length → ∀ {t : q0p} {h : q08} {z : Frz} {nx : Nat}, (q0R 0 [(0, 0), (1, 0), (5, 1), (6, 0), (7, 0)] t h z nx fun _ _ kp => kp = ([nat a, nat b, .ref 2 0 (r ++ [(dg a k + dg b k + c) % 4294967296]).length, .int .u64 ((dg a k + dg b k + c) / 4294967296 : Nat), q01 ((k + 1 : Nat) : Int)], [none, none, some (.row ((r ++ [(dg a k + dg b k + c) % 4294967296]).map u32) 1), none, none], [0, 0, 0, 0, 0])) → N t h z nx := by
  intro hkm t h z nx hst
  refine hN (k + 1, r ++ [(dg a k + dg b k + c) % 4294967296], (dg a k + dg b k + c) / 4294967296) ⟨by simp only; omega, by simp [hr], hro.snoc (by omega), by simp only; omega, ?_, ?_⟩ (by simp only; omega) hst
  ·simp only
   intro hkk
   have h1 : dg a k = 0 := q5H (by omega)
   have h2 : dg b k = 0 := q5H (by omega)
   rw [h1, h2]; omega
  simp only
  rw [q4y, hr, q0z, q0z, Nat.pow_succ, Nat.add_assoc, q34, Nat.mul_add, Nat.mul_add]
  omega
 clear hN
 have e : IntKind.u64.wrap (IntKind.u64.wrap ((dg a k : Int) + (dg b k : Int)) + (c : Int)) = ((dg a k + dg b k + c : Nat) : Int) := by simp only [q0G]; omega
 refine go 800 rfl ?_
 rw [List.length_map, List.length_map]
 refine q0g rfl (fun h1 => ?_) (fun h1 => ?_)
 ·rw [q0b] at h1
  refine go 800 rfl ?_
  refine q0r rfl ?_
  refine go 800 rfl ?_
  refine q00 rfl rfl (q0V a k (by omega)) ?_
  refine go 800 rfl ?_
  refine q00 rfl rfl (q0V b k (by omega)) ?_
  refine go 800 rfl ?_
  rw [e]
  refine q6l (dg a k + dg b k + c) 4294967296 rfl rfl rfl rfl (by decide) ?_
  refine go 800 rfl ?_
  rw [q0H, Nat.mod_mod]
  refine q2w rfl rfl rfl rfl rfl rfl (by simp) (Nat.zero_le _) (by simp [q0O]; omega) ?_
  refine go 800 rfl ?_
  refine q4z (dg a k + dg b k + c) 4294967296 rfl rfl rfl rfl (by decide) (q0D (by omega)) ?_
  refine go 800 rfl ?_
  refine q09 ?_
  refine next (by omega) (q05 rfl ⟨?_, trivial⟩ ?_)
  ·rw [List.all_append, q07 q0h]; rfl
  ·simp [nat, q01, w1, u32]
 rw [q0d] at h1
 refine go 800 rfl ?_
 refine q02 rfl (fun h2 => ?_) (fun h2 => ?_)
 ·rw [q0b] at h2
  simp only at h2
  have hkm : k ≤ max a.length b.length := by
   rcases Nat.lt_or_ge k (max a.length b.length + 1) with g | g
   ·omega
   ·have := hlast (by omega); omega
  refine go 800 rfl ?_
  refine q00 rfl rfl (q0V a k (by omega)) ?_
  refine go 800 rfl ?_
  refine q00 rfl rfl (q0V b k (by omega)) ?_
  refine go 800 rfl ?_
  rw [e]
  refine q6l (dg a k + dg b k + c) 4294967296 rfl rfl rfl rfl (by decide) ?_
  refine go 800 rfl ?_
  rw [q0H, Nat.mod_mod]
  refine q2w rfl rfl rfl rfl rfl rfl (by simp) (Nat.zero_le _) (by simp [q0O]; omega) ?_
  refine go 800 rfl ?_
  refine q4z (dg a k + dg b k + c) 4294967296 rfl rfl rfl rfl (by decide) (q0D (by omega)) ?_
  refine go 800 rfl ?_
  refine q09 ?_
  refine next hkm (q05 rfl ⟨?_, trivial⟩ ?_)
  ·rw [List.all_append, q07 q0h]; rfl
  ·simp [nat, q01, w1, u32]
 rw [q0d] at h2
 simp only at h2
 obtain rfl : c = 0 := by omega
 have hp := q1d r (by omega)
 have hv : val r = val a + val b := by
  rw [List.take_of_length_le (by omega), List.take_of_length_le (by omega)] at hinv
  omega
 rw [hv] at hp
 refine go 800 rfl ?_
 refine q09 ?_
 refine go 800 rfl ?_
 refine q1q rfl rfl ⟨q2F (l := r) rfl, trivial⟩ (by rw [q2P rfl]; exact hp) fun z => ?_
 refine go 800 rfl ?_
 exact q0c rfl rfl rfl trivial rfl
set_option maxHeartbeats 1000000 in
theorem qaO (a b : List Nat) [ha : LOk a] [hb : LOk b] (hla : a.length ≤ 100000000) (hlb : b.length ≤ 100000000) :
 PU q9W [nat a, nat b] = some (if val a < val b then .tup [nat [], .bool false] else .tup [nat (q06 (val a - val b)), .bool true]) := by
 refine q0i (fn := qc7) rfl (q0a ?_)
 refine go 800 rfl ?_
 refine q00 rfl rfl (qjE a b (by omega) (by omega)) ?_
 refine go 800 rfl ?_
 refine q02 rfl (fun h1 => ?_) (fun h1 => ?_)
 ·rw [q0b] at h1
  have : val a < val b := by
   unfold q3w at h1
   split at h1
   ·omega
   ·split at h1 <;> omega
  refine go 800 rfl ?_
  refine q0c rfl rfl rfl trivial ?_
  rw [if_pos this]; rfl
 rw [q0d] at h1
 have hle : val b ≤ val a := by
  unfold q3w at h1
  split at h1
  ·omega
  ·omega
 rw [if_neg (by omega)]
 refine go 800 rfl ?_
 refine q0x (S := fun x : Nat × List Nat × Nat => ([nat a, nat b, .ref 2 0 x.2.1.length, .int .u64 x.2.2, q01 x.1], [none, none, some (.row (x.2.1.map u32) 1), none, none], [0, 0, 0, 0, 0]))
  (C := fun x => x.1 ≤ max a.length b.length ∧ x.2.1.length = x.1 ∧ LOk x.2.1 ∧ x.2.2 ≤ 1 ∧ val x.2.1 + val (b.take x.1) = val (a.take x.1) + 4294967296 ^ x.1 * x.2.2) (m := fun x => max a.length b.length - x.1) (0, [], 0) ⟨Nat.zero_le _, rfl, qeg, by decide, by simp [val]⟩ (by simp; omega) ?_ ?_
 ·exact q05 rfl ⟨rfl, trivial⟩ (by simp [nat, q01])
 rintro ⟨k, r, c⟩ ⟨hk, hr, hro, hc, hinv⟩ N hN
 simp only at hk hr hro hc hinv
 have hx := q0T ha k
 have hy := q0T hb k
 have w1 : IntKind.i64.wrap ((k : Int) + 1) = ((k + 1 : Nat) : Int) := wrap64 (by omega) (by omega)
 refine go 800 rfl ?_
 rw [List.length_map, List.length_map]
 refine q02 rfl (fun h2 => ?_) (fun h2 => ?_)
 ·rw [q0b] at h2
  have e : IntKind.u64.wrap (IntKind.u64.wrap (IntKind.u64.wrap (4294967296 + (dg a k : Int)) - (dg b k : Int)) - (c : Int)) = ((4294967296 + dg a k - dg b k - c : Nat) : Int) := by simp only [q0G]; omega
  have e2 : IntKind.u64.wrap (1 - (((4294967296 + dg a k - dg b k - c) / 4294967296 : Nat) : Int)) = ((1 - (4294967296 + dg a k - dg b k - c) / 4294967296 : Nat) : Int) := by rw [q0G]; omega
  generalize hT : 4294967296 + dg a k - dg b k - c = T at *
  refine go 800 rfl ?_
  refine q00 rfl rfl (q0V a k (by omega)) ?_
  refine go 800 rfl ?_
  refine q00 rfl rfl (q0V b k (by omega)) ?_
  refine go 800 rfl ?_
  rw [e]
  refine q6l T 4294967296 rfl rfl rfl rfl (by decide) ?_
  refine go 800 rfl ?_
  rw [q0H, Nat.mod_mod]
  refine q2w rfl rfl rfl rfl rfl rfl (by simp) (Nat.zero_le _) (by simp [q0O]; omega) ?_
  refine go 800 rfl ?_
  refine q4z T 4294967296 rfl rfl rfl rfl (by decide) (q0D (by omega)) ?_
  refine go 800 rfl ?_
  rw [e2]
  refine q09 ?_
  refine hN (k + 1, r ++ [T % 4294967296], 1 - T / 4294967296) ⟨by simp only; omega, by simp [hr], hro.snoc (by omega), by simp only; omega, ?_⟩ (by simp only; omega) (q05 rfl ⟨?_, trivial⟩ ?_)
  ·simp only
   rw [q4y, hr, q0z, q0z, Nat.pow_succ]
   have e3 : T % 4294967296 + (c + dg b k) = dg a k + 4294967296 * (1 - T / 4294967296) := by omega
   have e4 : 4294967296 ^ k * (T % 4294967296) + (4294967296 ^ k * c + 4294967296 ^ k * dg b k) = 4294967296 ^ k * dg a k + 4294967296 ^ k * 4294967296 * (1 - T / 4294967296) := by
    rw [← Nat.mul_add, ← Nat.mul_add, e3, Nat.mul_add, Nat.mul_assoc]
   omega
  ·rw [List.all_append, q07 q0h]; rfl
  ·simp [nat, q01, w1, u32]
 rw [q0d] at h2
 rw [List.take_of_length_le (by omega), List.take_of_length_le (by omega)] at hinv
 have hv : val r = val a - val b := by
  have h1 := q1U hro
  rw [hr] at h1
  have hc0 : c = 0 ∨ c = 1 := by omega
  rcases hc0 with rfl | rfl
  ·omega
  ·omega
 have hp := q1d r (by omega)
 rw [hv] at hp
 refine go 800 rfl ?_
 refine q09 ?_
 refine go 800 rfl ?_
 refine q1q rfl rfl ⟨q2F (l := r) rfl, trivial⟩ (by rw [q2P rfl]; exact hp) fun z => ?_
 refine go 800 rfl ?_
 exact q0c rfl rfl rfl trivial rfl
end Go.F

namespace Go.F
attribute [local irreducible] IntKind.wrap wpM
set_option maxHeartbeats 4000000 in
theorem q36 (A B : List Nat) [hAo : LOk A] [hBo : LOk B] (hla : A.length ≤ 100000000) (hlb : B.length ≤ 100000000) : PU q3g [nat A, nat B] = some (nat (q06 (val A * val B))) := by
 refine q0i (fn := qc0) rfl (q0a ?_)
 refine go 800 rfl ?_
 have w0 : IntKind.i64.wrap (((A.map u32).length : Int) + ((B.map u32).length : Int)) = ((A.length + B.length : Nat) : Int) := by rw [List.length_map, List.length_map, wrap64 (by omega) (by omega)]; omega
 rw [w0]
 refine q3O (A.length + B.length) rfl rfl rfl (by simp [q0O]; omega) ?_
 rw [q5M]
 refine go 800 rfl ?_
 refine q0x (S := fun x : Nat × List Nat => ([nat A, nat B, .ref 2 0 (A.length + B.length), q01 x.1], [none, none, some (.row (x.2.map u32) 1), none], [0, 0, 0, 0]))
  (C := fun x => x.1 ≤ A.length ∧ x.2.length = A.length + B.length ∧ LOk x.2 ∧ val x.2 = val (A.take x.1) * val B ∧ ∀ j, x.1 + B.length ≤ j → dg x.2 j = 0) (m := fun x => A.length - x.1) (0, List.replicate (A.length + B.length) 0)
  ⟨Nat.zero_le _, by simp, q3x _, by simp [val, q7s], fun j _ => q5n _ _⟩ (by simp; omega) ?_ ?_
 ·exact q05 rfl ⟨q07 q0h _, trivial⟩ (by simp [nat, q01])
 rintro ⟨k, r⟩ ⟨hk, hr, hro, hinv, hz⟩ N hN
 simp only at hk hr hro hinv hz
 refine go 800 rfl ?_
 rw [List.length_map]
 refine q02 rfl (fun h2 => ?_) (fun h2 => ?_)
 ·rw [q0b] at h2
  have hlt : k < A.length := by omega
  have hx := q0T hAo k
  have w1 : IntKind.i64.wrap ((k : Int) + 1) = ((k + 1 : Nat) : Int) := wrap64 (by omega) (by omega)
  refine go 800 rfl ?_
  refine q0x (S := fun x : Nat × List Nat × Nat => ([nat A, nat B, .ref 2 0 (A.length + B.length), q01 k, .int .u64 x.2.2, q01 x.1], [none, none, some (.row (x.2.1.map u32) 1), none, none, none], [0, 0, 0, 0, 0, 0]))
   (C := fun x => x.1 ≤ B.length ∧ x.2.1.length = A.length + B.length ∧ LOk x.2.1 ∧ x.2.2 < 4294967296 ∧ val x.2.1 + 4294967296 ^ (k + x.1) * x.2.2 = val r + 4294967296 ^ k * (dg A k * val (B.take x.1)) ∧ ∀ j, k + x.1 ≤ j → dg x.2.1 j = dg r j) (m := fun x => B.length - x.1) (0, r, 0)
   ⟨Nat.zero_le _, hr, hro, by simp, by simp [val], fun j _ => rfl⟩ (by simp; omega) ?_ ?_
  ·exact q05 rfl ⟨q07 q0h _, trivial⟩ (by simp [nat, q01])
  rintro ⟨i, r', c⟩ ⟨hi, hr', hro', hc, hinv', hz'⟩ N2 hN2
  simp only at hi hr' hro' hc hinv' hz'
  refine go 800 rfl ?_
  rw [List.length_map]
  refine q02 rfl (fun h3 => ?_) (fun h3 => ?_)
  ·rw [q0b] at h3
   have hil : i < B.length := by omega
   have hy := q0T hBo i
   have hq := q0T hro' (k + i)
   have hxy := q7u hx hy
   have wi : IntKind.i64.wrap ((i : Int) + 1) = ((i + 1 : Nat) : Int) := wrap64 (by omega) (by omega)
   have wki : IntKind.i64.wrap ((k : Int) + i) = ((k + i : Nat) : Int) := by rw [wrap64 (by omega) (by omega)]; omega
   have e1 : ((dg A k * dg B i : Nat) : Int) = (dg A k : Int) * (dg B i : Int) := by simp
   have e : IntKind.u64.wrap (IntKind.u64.wrap (IntKind.u64.wrap ((dg A k : Int) * (dg B i : Int)) + (dg r' (k + i) : Int)) + (c : Int)) = ((c + (dg A k * dg B i + dg r' (k + i)) : Nat) : Int) := by
    rw [← e1, q0D (n := dg A k * dg B i) (by omega)]
    simp only [q0G]; omega
   refine go 800 rfl ?_
   refine q00 rfl rfl (q0V A k (by omega)) ?_
   refine go 800 rfl ?_
   refine q00 rfl rfl (q0V B i (by omega)) ?_
   refine go 800 rfl ?_
   rw [wki]
   refine q84 rfl rfl ⟨q2F (l := r') hr'.symm, trivial⟩ (by rw [q2P (l := r') hr'.symm]; exact q0V r' (k + i) (by omega)) rfl ?_
   refine go 800 rfl ?_
   rw [e]
   refine q6l (c + (dg A k * dg B i + dg r' (k + i))) 4294967296 rfl rfl rfl rfl (by decide) ?_
   refine go 800 rfl ?_
   rw [q0H, Nat.mod_mod]
   refine q0B (k + i) rfl rfl rfl rfl wki (by omega) ?_
   refine go 800 rfl ?_
   refine q1c r' (k + i) ((c + (dg A k * dg B i + dg r' (k + i))) % 4294967296) rfl rfl (Nat.zero_add _) rfl rfl (Nat.zero_le _) (by omega) ?_
   refine go 800 rfl ?_
   refine q4z (c + (dg A k * dg B i + dg r' (k + i))) 4294967296 rfl rfl rfl rfl (by decide) (q0D (by omega)) ?_
   refine go 800 rfl ?_
   refine q09 ?_
   refine hN2 (i + 1, r'.set (k + i) ((c + (dg A k * dg B i + dg r' (k + i))) % 4294967296), (c + (dg A k * dg B i + dg r' (k + i))) / 4294967296) ⟨hil, by simp [hr'], hro'.set _ (by omega), by simp only; omega, ?_, ?_⟩ (by simp only; omega) (q05 rfl ⟨q07 q0h _, trivial⟩ (by simp [nat, q01, wi]))
   ·simp only
    have hs := qbl (l := r') (i := k + i) (v := (c + (dg A k * dg B i + dg r' (k + i))) % 4294967296) (by omega)
    have hcar := q34 (4294967296 ^ (k + i)) (c + (dg A k * dg B i + dg r' (k + i)))
    rw [q0z, show k + (i + 1) = (k + i) + 1 from rfl, Nat.pow_succ, Nat.mul_add (dg A k), Nat.mul_add (4294967296 ^ k)]
    rw [Nat.mul_add (4294967296 ^ (k + i)) c, Nat.mul_add (4294967296 ^ (k + i)) (dg A k * dg B i)] at hcar
    have e5 : 4294967296 ^ k * (dg A k * (4294967296 ^ i * dg B i)) = 4294967296 ^ (k + i) * (dg A k * dg B i) := by
     rw [Nat.pow_add, Nat.mul_left_comm (dg A k), ← Nat.mul_assoc]
    rw [e5]
    omega
   ·intro j hj
    simp only at hj ⊢
    rw [q2c, if_neg (by omega)]
    exact hz' j (by omega)
  ·rw [q0d] at h3
   obtain rfl : i = B.length := by omega
   rw [List.take_length] at hinv'
   have wkb : IntKind.i64.wrap ((k : Int) + (B.map u32).length) = ((k + B.length : Nat) : Int) := by rw [List.length_map, wrap64 (by omega) (by omega)]; omega
   have ec : IntKind.u32.wrap (c : Int) = (c : Int) := by rw [q0H]; omega
   refine go 800 rfl ?_
   refine q09 ?_
   refine go 800 rfl ?_
   rw [ec]
   refine q0B (k + B.length) rfl rfl rfl rfl wkb (by omega) ?_
   refine go 800 rfl ?_
   refine q1c r' (k + B.length) c rfl rfl (Nat.zero_add _) rfl rfl (Nat.zero_le _) (by omega) ?_
   refine go 800 rfl ?_
   refine q09 ?_
   have hd0 : dg r' (k + B.length) = 0 := by rw [hz' _ (Nat.le_refl _)]; exact hz _ (Nat.le_refl _)
   have hs := qbl (l := r') (i := k + B.length) (v := c) (by omega)
   rw [hd0, Nat.mul_zero, Nat.add_zero] at hs
   refine hN (k + 1, r'.set (k + B.length) c) ⟨hlt, by simp [hr'], hro'.set _ hc, ?_, ?_⟩ (by simp only; omega) (q05 rfl ⟨q07 q0h _, trivial⟩ (by simp [nat, q01, w1]))
   ·simp only
    rw [hs, hinv', hinv, q0z, Nat.add_mul, Nat.mul_assoc]
   ·intro j hj
    simp only at hj ⊢
    rw [q2c, if_neg (by omega), hz' j (by omega)]
    exact hz j (by omega)
 ·rw [q0d] at h2
  obtain rfl : k = A.length := by omega
  rw [List.take_length] at hinv
  refine go 800 rfl ?_
  refine q09 ?_
  refine go 800 rfl ?_
  have hp := q1d r (by omega)
  rw [hinv] at hp
  refine q1q rfl rfl ⟨q2F (l := r) hr.symm, trivial⟩ (by rw [q2P (l := r) hr.symm]; exact hp) fun z => ?_
  refine go 800 rfl ?_
  exact q0c rfl rfl rfl trivial rfl
def q53 (n : Nat) : Nat := if n = 0 then 0 else Nat.log2 n + 1
theorem qgN (n : Nat) : n < 2 ^ q53 n := by
 unfold q53
 split
 ·omega
 ·rename_i h
  exact (Nat.log2_lt h).1 (Nat.lt_succ_self _)
theorem qkv {n : Nat} (h : n ≠ 0) : 2 ^ q53 n ≤ 2 * n := by
 unfold q53
 rw [if_neg h, Nat.pow_succ]
 have := Nat.log2_self_le h
 omega
theorem qoe {n L : Nat} (h1 : n < 2 ^ L) (h2 : 2 ^ L ≤ 2 * n) : L = q53 n := by
 have h0 : n ≠ 0 := by rintro rfl; have := Nat.pow_pos (n := L) (show 0 < 2 by decide); omega
 have a := qgN n
 have b := qkv h0
 have c1 : 2 ^ L < 2 ^ (q53 n + 1) := by rw [Nat.pow_succ]; omega
 have c2 : 2 ^ q53 n < 2 ^ (L + 1) := by rw [Nat.pow_succ]; omega
 have d1 := (Nat.pow_lt_pow_iff_right (by decide)).1 c1
 have d2 := (Nat.pow_lt_pow_iff_right (by decide)).1 c2
 omega
theorem qlB {n : Nat} : q53 n = 0 ↔ n = 0 := by unfold q53; split <;> omega
theorem qg2 (k : Nat) : (4294967296 : Nat) ^ k = 2 ^ (32 * k) := by rw [Nat.pow_mul]
theorem q9C (l : List Nat) [ho : LOk l] (hl : l.length ≤ 100000000) : PU q7R [nat l] = some (.int .i64 (q53 (val l))) := by
 have hlen := q1k ho
 refine q0i (fn := qaK) rfl (q0a ?_)
 refine go 800 rfl ?_
 refine q00 rfl rfl (q1d l (by omega)) ?_
 refine go 800 rfl ?_
 rw [List.length_map]
 refine q02 rfl (fun h1 => ?_) (fun h1 => ?_)
 ·rw [q26] at h1
  have h0 : val l = 0 := qce.1 (List.length_eq_zero_iff.1 (by omega))
  refine go 800 rfl ?_
  refine q0c rfl rfl rfl trivial ?_
  rw [h0]; rfl
 rw [q2g] at h1
 have hv0 : val l ≠ 0 := fun h => h1 (by rw [h]; rfl)
 obtain ⟨m, hm⟩ : ∃ m, (q06 (val l)).length = m + 1 := ⟨(q06 (val l)).length - 1, by omega⟩
 have hv := q0e (val l)
 have hLo := q0n (val l)
 have htop := qfY hv0
 have hval : val l = val ((q06 (val l)).take m) + 4294967296 ^ m * dg (q06 (val l)) m := by
  conv => lhs; rw [← hv]
  rw [← q0z, List.take_of_length_le (by omega)]
 have htl := q1U (hLo.take m)
 rw [List.length_take, Nat.min_eq_left (by omega)] at htl
 rw [hm, Nat.add_sub_cancel] at htop
 have hdl := q0T hLo m
 generalize q06 (val l) = A at *
 have w1 : IntKind.i64.wrap (((m + 1 : Nat) : Int) - 1) = (m : Int) := by rw [wrap64 (by omega) (by omega)]; omega
 have w2 : IntKind.i64.wrap (32 * (m : Int)) = ((32 * m : Nat) : Int) := by rw [wrap64 (by omega) (by omega)]; omega
 rw [hm]
 refine go 800 rfl ?_
 rw [List.length_map, hm]
 refine q0y m rfl rfl w1 (q1B (by omega)) rfl ?_
 refine go 800 rfl ?_
 rw [w1, w2]
 have hz : ∃ j, dg A m / 2 ^ j = 0 := ⟨32, by omega⟩
 refine q0x (S := fun j : Nat => ([q01 (32 * m + j : Nat), .int .u32 (dg A m / 2 ^ j : Nat)], [none, none], [0, 0])) (C := fun j => j ≤ 32 ∧ (j ≠ 0 → dg A m / 2 ^ (j - 1) ≠ 0)) (m := fun j => 40 - j) 0 ⟨by omega, fun h => absurd rfl h⟩ (by omega) ?_ ?_
 ·exact q05 rfl trivial (by simp [q01, u32])
 rintro j ⟨hj, hprev⟩ N hN
 have hle : dg A m / 2 ^ j ≤ dg A m := Nat.div_le_self _ _
 refine go 800 rfl ?_
 refine q02 rfl (fun h2 => ?_) (fun h2 => ?_)
 ·rw [q0b] at h2
  have hne : dg A m / 2 ^ j ≠ 0 := by omega
  have hj32 : j < 32 := by
   rcases Nat.lt_or_ge j 32 with g | g
   ·exact g
   ·obtain rfl : j = 32 := by omega
    exact absurd (Nat.div_eq_of_lt (show dg A m < 2 ^ 32 by omega)) hne
  have wj : IntKind.i64.wrap (32 * (m : Int) + (j : Int) + 1) = 32 * (m : Int) + ((j : Int) + 1) := by rw [wrap64 (by omega) (by omega)]; omega
  refine go 800 rfl ?_
  refine q4z (dg A m / 2 ^ j) 2 rfl rfl rfl rfl (by decide) (by rw [q0H]; omega) ?_
  refine go 800 rfl ?_
  refine q09 ?_
  refine hN (j + 1) ⟨by omega, fun _ => by simpa using hne⟩ (by omega) (q05 rfl trivial ?_)
  rw [Nat.pow_succ, ← Nat.div_div_eq_div_mul]
  simp [q01, wj]
 rw [q0d] at h2
 have hz0 : dg A m / 2 ^ j = 0 := by
  have : ((dg A m / 2 ^ j : Nat) : Int) ≤ 0 := h2
  exact Nat.le_zero.1 (by exact_mod_cast this)
 refine go 800 rfl ?_
 refine q09 ?_
 refine go 800 rfl ?_
 refine q0c rfl rfl rfl trivial ?_
 have hj0 : j ≠ 0 := by rintro rfl; rw [Nat.pow_zero, Nat.div_one] at hz0; exact htop hz0
 have h3 := hprev hj0
 have hlt : dg A m < 2 ^ j := by
  rcases Nat.lt_or_ge (dg A m) (2 ^ j) with g | g
  ·exact g
  ·have := Nat.div_pos g (Nat.pow_pos (n := j) (show 0 < 2 by decide)); omega
 have hge : 2 ^ (j - 1) ≤ dg A m := by
  rcases Nat.lt_or_ge (dg A m) (2 ^ (j - 1)) with g | g
  ·exact absurd (Nat.div_eq_of_lt g) h3
  ·exact g
 have hp : 2 ^ j = 2 * 2 ^ (j - 1) := by rw [← Nat.pow_succ']; congr 1; omega
 rw [← qoe (n := val l) (L := 32 * m + j)]
 ·rw [Nat.pow_add, ← qg2, hval]
  generalize 4294967296 ^ m = P at *
  have : P * (dg A m + 1) ≤ P * 2 ^ j := Nat.mul_le_mul_left _ hlt
  rw [Nat.mul_add] at this
  omega
 ·rw [Nat.pow_add, ← qg2, hval, hp]
  generalize 4294967296 ^ m = P at *
  have : P * 2 ^ (j - 1) ≤ P * dg A m := Nat.mul_le_mul_left _ hge
  rw [Nat.mul_left_comm]
  omega
set_option maxHeartbeats 1000000 in
theorem qgO (a : List Nat) (n : Nat) [ha : LOk a] (hla : a.length ≤ 100000000) (hn : n ≤ 3200000000) : PU qcK [nat a, .int .i64 n] = some (nat (q06 (val a * 2 ^ n))) := by
 refine q0i (fn := q9A) rfl (q0a ?_)
 refine go 800 rfl ?_
 refine q4z n 32 rfl rfl rfl rfl (by decide) (wrap64 (by omega) (by omega)) ?_
 refine go 800 rfl ?_
 refine q3O (n / 32) rfl rfl rfl (by simp [q0O]; omega) ?_
 rw [q5M]
 refine go 800 rfl ?_
 refine q0x (S := fun x : Nat × List Nat × Nat => ([nat a, .int .i64 n, .ref 2 0 x.2.1.length, .int .u64 x.2.2, q01 x.1], [none, none, some (.row (x.2.1.map u32) 1), none, none], [0, 0, 0, 0, 0]))
  (C := fun x => x.1 ≤ a.length + 1 ∧ x.2.1.length = n / 32 + x.1 ∧ LOk x.2.1 ∧ x.2.2 < 4294967296 ∧ (x.1 = a.length + 1 → x.2.2 = 0) ∧ val x.2.1 + 4294967296 ^ (n / 32 + x.1) * x.2.2 = 4294967296 ^ (n / 32) * (2 ^ (n % 32) * val (a.take x.1))) (m := fun x => a.length + 1 - x.1) (0, List.replicate (n / 32) 0, 0) ⟨Nat.zero_le _, by simp, q3x _, by simp, fun h => rfl, by simp [val, q7s]⟩ (by simp; omega) ?_ ?_
 ·exact q05 rfl ⟨q07 q0h _, trivial⟩ (by simp [nat, q01])
 rintro ⟨k, r, c⟩ ⟨hk, hr, hro, hc, hlast, hinv⟩ N hN
 simp only at hk hr hro hc hlast hinv
 have hx := q0T ha k
 have w1 : IntKind.i64.wrap ((k : Int) + 1) = ((k + 1 : Nat) : Int) := wrap64 (by omega) (by omega)
 refine go 800 rfl ?_
 rw [List.length_map]
 refine q02 rfl (fun h1 => ?_) (fun h1 => ?_)
 ·rw [q24] at h1
  have hs : n % 32 ≤ 31 := by omega
  have hpw : 2 ^ (n % 32) ≤ 2147483648 := by
   have := Nat.pow_le_pow_right (show 0 < 2 by decide) hs
   omega
  have hmul : dg a k * 2 ^ (n % 32) ≤ 4294967295 * 2147483648 := Nat.mul_le_mul (by omega) hpw
  have hz : k = a.length → dg a k = 0 := fun h => q5H (by omega)
  generalize hT : dg a k * 2 ^ (n % 32) + c = T
  have e : IntKind.u64.wrap (((dg a k * 2 ^ (n % 32) : Nat) : Int) + (c : Int)) = (T : Int) := by rw [q0G]; omega
  have wc : IntKind.u64.wrap ((n % 32 : Nat) : Int) = ((n % 32 : Nat) : Int) := q0D (by omega)
  refine go 800 rfl ?_
  refine q00 rfl rfl (q0V a k (by omega)) ?_
  refine go 800 rfl ?_
  refine q6l n 32 rfl rfl rfl rfl (by decide) ?_
  refine go 800 rfl ?_
  rw [wc]
  refine q85 (dg a k) (n % 32) rfl rfl rfl rfl (by show n % 32 ≤ 64; omega) (q0D (by omega)) ?_
  refine go 800 rfl ?_
  rw [e]
  refine q6l T 4294967296 rfl rfl rfl rfl (by decide) ?_
  refine go 800 rfl ?_
  rw [q0H, Nat.mod_mod]
  refine q2w rfl rfl rfl rfl rfl rfl (by simp) (Nat.zero_le _) (by simp [q0O]; omega) ?_
  refine go 800 rfl ?_
  refine q4z T 4294967296 rfl rfl rfl rfl (by decide) (q0D (by omega)) ?_
  refine go 800 rfl ?_
  refine q09 ?_
  refine hN (k + 1, r ++ [T % 4294967296], T / 4294967296) ⟨by simp only; omega, by simp [hr]; omega, hro.snoc (by omega), by simp only; omega, ?_, ?_⟩ (by simp only; omega) (q05 rfl ⟨?_, trivial⟩ ?_)
  ·simp only
   intro hkk
   have := hz (by omega)
   rw [this] at hT
   omega
  ·simp only
   rw [q4y, hr, q0z, show n / 32 + (k + 1) = (n / 32 + k) + 1 from rfl, Nat.pow_succ, Nat.add_assoc, q34, Nat.mul_add (2 ^ (n % 32)), Nat.mul_add (4294967296 ^ (n / 32)), ← hinv, ← hT, Nat.mul_add]
   have e5 : 4294967296 ^ (n / 32) * (2 ^ (n % 32) * (4294967296 ^ k * dg a k)) = 4294967296 ^ (n / 32 + k) * (dg a k * 2 ^ (n % 32)) := by
    rw [Nat.pow_add]; ac_rfl
   rw [e5]; omega
  ·rw [List.all_append, q07 q0h]; rfl
  ·simp [nat, q01, w1, u32]
 rw [q25] at h1
 obtain rfl : k = a.length + 1 := by omega
 have hc0 := hlast rfl
 subst hc0
 have hv : val r = val a * 2 ^ n := by
  rw [List.take_of_length_le (by omega), Nat.mul_zero, Nat.add_zero] at hinv
  rw [hinv, qg2, ← Nat.mul_assoc, ← Nat.pow_add, Nat.div_add_mod, Nat.mul_comm]
 have hp := q1d r (by omega)
 rw [hv] at hp
 refine go 800 rfl ?_
 refine q09 ?_
 refine go 800 rfl ?_
 refine q1q rfl rfl ⟨q2F (l := r) rfl, trivial⟩ (by rw [q2P rfl]; exact hp) fun z => ?_
 refine go 800 rfl ?_
 exact q0c rfl rfl rfl trivial rfl
theorem qi8 (a : List Nat) [ha : LOk a] (hla : a.length ≤ 100000000) : PU qe5 [nat a] = some (nat (q06 (val a / 2))) := by
 refine q0i (fn := qaL) rfl (q0a ?_)
 refine go 800 rfl ?_
 refine q0x (S := fun x : Nat × List Nat => ([nat a, .ref 1 0 x.2.length, q01 x.1], [none, some (.row (x.2.map u32) 1), none], [0, 0, 0]))
  (C := fun x => x.1 ≤ a.length ∧ x.2.length = x.1 ∧ LOk x.2 ∧ 2 * val x.2 + dg a 0 % 2 = val (a.take x.1) + 4294967296 ^ x.1 * (dg a x.1 % 2)) (m := fun x => a.length - x.1) (0, []) ⟨Nat.zero_le _, rfl, qeg, by simp [val]⟩ (by simp; omega) ?_ ?_
 ·exact q05 rfl ⟨rfl, trivial⟩ (by simp [nat, q01])
 rintro ⟨k, r⟩ ⟨hk, hr, hro, hinv⟩ N hN
 simp only at hk hr hro hinv
 have hx := q0T ha k
 have hy := q0T ha (k + 1)
 have w1 : IntKind.i64.wrap ((k : Int) + 1) = ((k + 1 : Nat) : Int) := wrap64 (by omega) (by omega)
 refine go 800 rfl ?_
 rw [List.length_map]
 refine q02 rfl (fun h1 => ?_) (fun h1 => ?_)
 ·rw [q0b] at h1
  have e1 : IntKind.u64.wrap (((dg a (k + 1) % 2 : Nat) : Int) * 2147483648) = ((dg a (k + 1) % 2 * 2147483648 : Nat) : Int) := by rw [q0G]; omega
  have e2 : IntKind.u64.wrap (((dg a k / 2 : Nat) : Int) + ((dg a (k + 1) % 2 * 2147483648 : Nat) : Int)) = ((dg a k / 2 + dg a (k + 1) % 2 * 2147483648 : Nat) : Int) := by rw [q0G]; omega
  have e3 : IntKind.u32.wrap ((dg a k / 2 + dg a (k + 1) % 2 * 2147483648 : Nat) : Int) = ((dg a k / 2 + dg a (k + 1) % 2 * 2147483648 : Nat) : Int) := by rw [q0H]; omega
  refine go 800 rfl ?_
  refine q00 rfl rfl (q0V a k (by omega)) ?_
  refine go 800 rfl ?_
  refine q4z (dg a k) 2 rfl rfl rfl rfl (by decide) (q0D (by omega)) ?_
  refine go 800 rfl ?_
  rw [w1]
  refine q00 rfl rfl (q0V a (k + 1) (by omega)) ?_
  refine go 800 rfl ?_
  refine q6l (dg a (k + 1)) 2 rfl rfl rfl rfl (by decide) ?_
  refine go 800 rfl ?_
  rw [e1, e2, e3]
  refine q2w rfl rfl rfl rfl rfl rfl (by simp) (Nat.zero_le _) (by simp [q0O]; omega) ?_
  refine go 800 rfl ?_
  refine q09 ?_
  refine hN (k + 1, r ++ [dg a k / 2 + dg a (k + 1) % 2 * 2147483648]) ⟨by simp only; omega, by simp [hr], hro.snoc (by omega), ?_⟩ (by simp only; omega) (q05 rfl ⟨?_, trivial⟩ ?_)
  ·simp only
   rw [q4y, hr, q0z, Nat.pow_succ]
   have e4 : 2 * (4294967296 ^ k * (dg a k / 2 + dg a (k + 1) % 2 * 2147483648)) + 4294967296 ^ k * (dg a k % 2) = 4294967296 ^ k * dg a k + 4294967296 ^ k * 4294967296 * (dg a (k + 1) % 2) := by
    generalize 4294967296 ^ k = P
    have : dg a k = 2 * (dg a k / 2) + dg a k % 2 := by omega
    conv => rhs; rw [this]
    generalize dg a k / 2 = u
    generalize dg a k % 2 = v
    generalize dg a (k + 1) % 2 = w
    grind
   omega
  ·rw [List.all_append, q07 q0h]; rfl
  ·simp [nat, q01, w1, u32]
 rw [q0d] at h1
 obtain rfl : k = a.length := by omega
 have hd : dg a a.length = 0 := q5H (Nat.le_refl _)
 rw [List.take_length, hd] at hinv
 have hv : val r = val a / 2 := by simp at hinv; omega
 have hp := q1d r (by omega)
 rw [hv] at hp
 refine go 800 rfl ?_
 refine q09 ?_
 refine go 800 rfl ?_
 refine q1q rfl rfl ⟨q2F (l := r) rfl, trivial⟩ (by rw [q2P rfl]; exact hp) fun z => ?_
 refine go 800 rfl ?_
 exact q0c rfl rfl rfl trivial rfl
end Go.F
