/- Parts of the proof, part 41: Geo1, Geo2, Geo3, Geo4, Geo5, Geo6, Geo7, Geo8, Geo9, St1, Ref1, Plain1, Ref2, Ref3, All1, All2, Flt, Stop3, Nat1, Nat2, Nat3, Nat4, Nat5, Nat6, Nat7, Nat8. -/
import Derived.Test.YtdhpbljlnlpibaaGreatZ39
import Derived.KernelRfl
set_option linter.all false
namespace Go.F
attribute [local irreducible] IntKind.wrap wpM
def q1b (a b c : Spot) : Int := (b.x - a.x) * (c.y - a.y) - (b.y - a.y) * (c.x - a.x)
theorem qiz (a b c : Spot) [OkS a] [OkS b] [OkS c] : PU q1O [a.enc, b.enc, c.enc] = some (.int .i64 (q1b a b c)) := by
 refine q0h (fn := q7m) rfl (q0c ?_)
 repeat' (first
  | refine goP 800 rfl rfl ?_
  | refine q0e rfl ?_ | refine q0j rfl ?_ | refine q05 rfl (fun _ => ?_) (fun _ => ?_)
  | refine q0g rfl ?_ | refine q0m rfl ?_ | refine q02 rfl (fun _ => ?_) (fun _ => ?_)
  | refine q0G rfl (fun _ => ?_) (fun _ => ?_)
  | refine q08 rfl rfl rfl trivial ?_)
 simp [q0K, q1b]
theorem qfa (a b c : Spot) [OkS a] [OkS b] [OkS c] : PU q3k [a.enc, b.enc, c.enc] = some (.int .i64 (q1b a b c)) := by
 refine q0h (fn := qcn) rfl (q0c ?_)
 repeat' (first
  | refine goP 800 rfl rfl ?_
  | refine q0e rfl ?_ | refine q0j rfl ?_ | refine q05 rfl (fun _ => ?_) (fun _ => ?_)
  | refine q0g rfl ?_ | refine q0m rfl ?_ | refine q02 rfl (fun _ => ?_) (fun _ => ?_)
  | refine q0G rfl (fun _ => ?_) (fun _ => ?_)
  | refine q08 rfl rfl rfl trivial ?_)
 simp [q0K, q1b]
def onS (a b p : Spot) : Bool := decide (q1b a b p = 0) && (decide (min a.x b.x ≤ p.x) && (decide (p.x ≤ max a.x b.x) && (decide (min a.y b.y ≤ p.y) && decide (p.y ≤ max a.y b.y))))
theorem on_PU (a b p : Spot) [OkS a] [OkS b] [OkS p] : PU q4s [a.enc, b.enc, p.enc] = some (.bool (onS a b p)) := by
 refine q0h (fn := qaz) rfl (q0c ?_)
 repeat' (first
  | refine goP 800 rfl rfl ?_
  | refine q0e rfl ?_ | refine q0j rfl ?_ | refine q05 rfl (fun _ => ?_) (fun _ => ?_)
  | refine q0g rfl ?_ | refine q0m rfl ?_ | refine q02 rfl (fun _ => ?_) (fun _ => ?_)
  | refine q0G rfl (fun _ => ?_) (fun _ => ?_)
  | refine q08 rfl rfl rfl trivial ?_
  | refine q01 rfl rfl (qiz _ _ _) ?_)
 all_goals ((try simp only [q1H, q1I, q2i, q3Q, decide_eq_true_eq, decide_eq_false_iff_not, Bool.not_eq_true, Bool.not_eq_false, Int.not_lt, Int.not_le] at *); first | (simp_all [onS]; done) | (simp_all [onS]; omega) | (rw [D.bool.injEq, Bool.eq_iff_iff]; simp [onS]; omega) | (rw [D.bool.injEq, Bool.eq_iff_iff]; simp_all [onS]; omega) | (simp [onS]; split <;> (try split) <;> omega))
theorem q8r (a b p : Spot) [OkS a] [OkS b] [OkS p] : PU q2q [a.enc, b.enc, p.enc] = some (.bool (onS a b p)) := by
 refine q0h (fn := q9p) rfl (q0c ?_)
 repeat' (first
  | refine goP 800 rfl rfl ?_
  | refine q0e rfl ?_ | refine q0j rfl ?_ | refine q05 rfl (fun _ => ?_) (fun _ => ?_)
  | refine q0g rfl ?_ | refine q0m rfl ?_ | refine q02 rfl (fun _ => ?_) (fun _ => ?_)
  | refine q0G rfl (fun _ => ?_) (fun _ => ?_)
  | refine q08 rfl rfl rfl trivial ?_
  | refine q01 rfl rfl (qfa _ _ _) ?_)
 all_goals ((try simp only [q1H, q1I, q2i, q3Q, decide_eq_true_eq, decide_eq_false_iff_not, Bool.not_eq_true, Bool.not_eq_false, Int.not_lt, Int.not_le] at *); first | (simp_all [onS]; done) | (simp_all [onS]; omega) | (rw [D.bool.injEq, Bool.eq_iff_iff]; simp [onS]; omega) | (rw [D.bool.injEq, Bool.eq_iff_iff]; simp_all [onS]; omega) | (simp [onS]; split <;> (try split) <;> omega))
def sgn (n : Int) : Int := if n < 0 then -1 else if 0 < n then 1 else 0
theorem qoA (n : Int) : Bd (sgn n) 1 := ⟨by unfold sgn; split <;> (try split) <;> decide⟩
instance (n : Int) : Bd (sgn n) 1 := qoA n
theorem qst (n : Int) : PU q52 [.int .i64 n] = some (.bool false) := by
 refine q0h (fn := q7i) rfl (q0c ?_)
 repeat' (first
  | refine goP 800 rfl rfl ?_
  | refine q0e rfl ?_ | refine q0j rfl ?_ | refine q05 rfl (fun _ => ?_) (fun _ => ?_)
  | refine q0g rfl ?_ | refine q0m rfl ?_ | refine q02 rfl (fun _ => ?_) (fun _ => ?_)
  | refine q0G rfl (fun _ => ?_) (fun _ => ?_)
  | refine q08 rfl rfl rfl trivial ?_)
 simp [nqb]
def q3q (a b : Int) : Int := if a < b then -1 else if b < a then 1 else 0
theorem cmp0 (a : Int) : q3q a 0 = sgn a := rfl
theorem qet (a b : Int) : PU q1M [.int .i64 a, .int .i64 b] = some (.int .i64 (q3q a b)) := by
 refine q0h (fn := q5S) rfl (q0c ?_)
 repeat' (first
  | refine goP 800 rfl rfl ?_
  | refine q0e rfl ?_ | refine q0j rfl ?_ | refine q05 rfl (fun _ => ?_) (fun _ => ?_)
  | refine q0g rfl ?_ | refine q0m rfl ?_ | refine q02 rfl (fun _ => ?_) (fun _ => ?_)
  | refine q0G rfl (fun _ => ?_) (fun _ => ?_)
  | refine q08 rfl rfl rfl trivial ?_
  | refine q01 rfl rfl (qst _) ?_)
 all_goals ((try simp only [q1H, q1I, q2i, q3Q, decide_eq_true_eq, decide_eq_false_iff_not, Bool.not_eq_true, Bool.not_eq_false, Int.not_lt, Int.not_le] at *); first | (simp_all [q3q]; done) | (simp_all [q3q]; omega) | (rw [D.bool.injEq, Bool.eq_iff_iff]; simp [q3q]; omega) | (rw [D.bool.injEq, Bool.eq_iff_iff]; simp_all [q3q]; omega) | (simp [q3q]; split <;> (try split) <;> omega))
def q4X (a b c d : Spot) : Bool := decide (sgn (q1b a b c) * sgn (q1b a b d) < 0)
theorem qqG (a b c d : Spot) [OkS a] [OkS b] [OkS c] [OkS d] : PU q4t [a.enc, b.enc, c.enc, d.enc] = some (.bool (q4X a b c d)) := by
 refine q0h (fn := q6p) rfl (q0c ?_)
 repeat' (first
  | refine goP 800 rfl rfl ?_
  | refine q0e rfl ?_ | refine q0j rfl ?_ | refine q05 rfl (fun _ => ?_) (fun _ => ?_)
  | refine q0g rfl ?_ | refine q0m rfl ?_ | refine q02 rfl (fun _ => ?_) (fun _ => ?_)
  | refine q0G rfl (fun _ => ?_) (fun _ => ?_)
  | refine q08 rfl rfl rfl trivial ?_
  | refine q01 rfl rfl (qiz _ _ _) ?_
  | refine q01 rfl rfl (qet _ _) ?_)
 simp [cmp0, q0K, q1H, q4X]
def q5B (a b c d : Spot) : Bool := onS a b c || (onS a b d || (onS c d a || (onS c d b || (q4X a b c d && q4X c d a b))))
theorem qu2 (a b c d : Spot) [OkS a] [OkS b] [OkS c] [OkS d] : PU qcF [a.enc, b.enc, c.enc, d.enc] = some (.bool (q5B a b c d)) := by
 refine q0h (fn := q8c) rfl (q0c ?_)
 repeat' (first
  | refine goP 800 rfl rfl ?_
  | refine q0e rfl ?_ | refine q0j rfl ?_ | refine q05 rfl (fun _ => ?_) (fun _ => ?_)
  | refine q0g rfl ?_ | refine q0m rfl ?_ | refine q02 rfl (fun _ => ?_) (fun _ => ?_)
  | refine q0G rfl (fun _ => ?_) (fun _ => ?_)
  | refine q08 rfl rfl rfl trivial ?_
  | refine q01 rfl rfl (on_PU _ _ _) ?_
  | refine q01 rfl rfl (qqG _ _ _ _) ?_)
 all_goals simp_all [q5B]
def q3r (a b c : Spot) : Bool := decide (q1b a b c = 0) && decide (0 < (a.x - b.x) * (c.x - b.x) + (a.y - b.y) * (c.y - b.y))
theorem qqH (a b c : Spot) [OkS a] [OkS b] [OkS c] : PU qa6 [a.enc, b.enc, c.enc] = some (.bool (q3r a b c)) := by
 refine q0h (fn := q6o) rfl (q0c ?_)
 repeat' (first
  | refine goP 800 rfl rfl ?_
  | refine q0e rfl ?_ | refine q0j rfl ?_ | refine q05 rfl (fun _ => ?_) (fun _ => ?_)
  | refine q0g rfl ?_ | refine q0m rfl ?_ | refine q02 rfl (fun _ => ?_) (fun _ => ?_)
  | refine q0G rfl (fun _ => ?_) (fun _ => ?_)
  | refine q08 rfl rfl rfl trivial ?_
  | refine q01 rfl rfl (qiz _ _ _) ?_)
 all_goals ((try simp only [q1H, q1I, q2i, q3Q, decide_eq_true_eq, decide_eq_false_iff_not, Bool.not_eq_true, Bool.not_eq_false, Int.not_lt, Int.not_le] at *); first | (simp_all [q3r, q0K]; done) | (simp_all [q3r, q0K]; omega) | (rw [D.bool.injEq, Bool.eq_iff_iff]; simp [q3r, q0K]; omega) | (rw [D.bool.injEq, Bool.eq_iff_iff]; simp_all [q3r, q0K]; omega) | (simp [q3r, q0K]; split <;> (try split) <;> omega))
theorem qmS (n : Int) : PU q6B [.int .i64 n] = some (.int .i64 (sgn n)) := by
 refine q0h (fn := qej) rfl (q0c ?_)
 repeat' (first
  | refine goP 800 rfl rfl ?_
  | refine q0e rfl ?_ | refine q0j rfl ?_ | refine q05 rfl (fun _ => ?_) (fun _ => ?_)
  | refine q0g rfl ?_ | refine q0m rfl ?_ | refine q02 rfl (fun _ => ?_) (fun _ => ?_)
  | refine q0G rfl (fun _ => ?_) (fun _ => ?_)
  | refine q08 rfl rfl rfl trivial ?_)
 all_goals ((try simp only [q1H, q1I, q2i, q3Q, decide_eq_true_eq, decide_eq_false_iff_not, Bool.not_eq_true, Bool.not_eq_false, Int.not_lt, Int.not_le] at *); first | (simp_all [sgn]; done) | (simp_all [sgn]; omega) | (rw [D.bool.injEq, Bool.eq_iff_iff]; simp [sgn]; omega) | (rw [D.bool.injEq, Bool.eq_iff_iff]; simp_all [sgn]; omega) | (simp [sgn]; split <;> (try split) <;> omega))
theorem qmT (a b c d : Spot) [OkS a] [OkS b] [OkS c] [OkS d] : PU qiL [a.enc, b.enc, c.enc, d.enc] = some (.bool (q5B a b c d)) := by
 refine q0h (fn := qee) rfl (q0c ?_)
 repeat' (first
  | refine goP 800 rfl rfl ?_
  | refine q0e rfl ?_ | refine q0j rfl ?_ | refine q05 rfl (fun _ => ?_) (fun _ => ?_)
  | refine q0g rfl ?_ | refine q0m rfl ?_ | refine q02 rfl (fun _ => ?_) (fun _ => ?_)
  | refine q0G rfl (fun _ => ?_) (fun _ => ?_)
  | refine q08 rfl rfl rfl trivial ?_
  | refine q01 rfl rfl (q8r _ _ _) ?_
  | refine q01 rfl rfl (qfa _ _ _) ?_
  | refine q01 rfl rfl (qmS _) ?_)
 all_goals ((try simp only [q1H, q1I, q2i, q3Q, decide_eq_true_eq, decide_eq_false_iff_not, Bool.not_eq_true, Bool.not_eq_false, Int.not_lt, Int.not_le] at *); first | (simp_all [q5B, q4X, q0K]; done) | (simp_all [q5B, q4X, q0K]; omega) | (rw [D.bool.injEq, Bool.eq_iff_iff]; simp [q5B, q4X, q0K]; omega) | (rw [D.bool.injEq, Bool.eq_iff_iff]; simp_all [q5B, q4X, q0K]; omega) | (simp [q5B, q4X, q0K]; split <;> (try split) <;> omega))
def q0v (s : Spot) (m : Int) : Bool := decide (-m ≤ s.x) && (decide (s.x ≤ m) && (decide (-m ≤ s.y) && decide (s.y ≤ m)))
theorem qoB (s : Spot) : PU q63 [s.enc] = some (.bool (!q0v s 1048576)) := by
 refine q0h (fn := q5R) rfl (q0c ?_)
 repeat' (first
  | refine goP 800 rfl rfl ?_
  | refine q0e rfl ?_ | refine q0j rfl ?_ | refine q05 rfl (fun _ => ?_) (fun _ => ?_)
  | refine q0g rfl ?_ | refine q0m rfl ?_ | refine q02 rfl (fun _ => ?_) (fun _ => ?_)
  | refine q0G rfl (fun _ => ?_) (fun _ => ?_)
  | refine q08 rfl rfl rfl trivial ?_)
 all_goals ((try simp only [q1H, q1I, q2i, q3Q, decide_eq_true_eq, decide_eq_false_iff_not, Bool.not_eq_true, Bool.not_eq_false, Int.not_lt, Int.not_le] at *); first | (simp_all [q0v]; done) | (simp_all [q0v]; omega) | (rw [D.bool.injEq, Bool.eq_iff_iff]; simp [q0v]; omega) | (rw [D.bool.injEq, Bool.eq_iff_iff]; simp_all [q0v]; omega) | (simp [q0v]; split <;> (try split) <;> omega))
theorem qdI (s : Spot) : PU q5r [s.enc] = some (.bool (!q0v s 1048576)) := by
 refine q0h (fn := q5g) rfl (q0c ?_)
 repeat' (first
  | refine goP 800 rfl rfl ?_
  | refine q0e rfl ?_ | refine q0j rfl ?_ | refine q05 rfl (fun _ => ?_) (fun _ => ?_)
  | refine q0g rfl ?_ | refine q0m rfl ?_ | refine q02 rfl (fun _ => ?_) (fun _ => ?_)
  | refine q0G rfl (fun _ => ?_) (fun _ => ?_)
  | refine q08 rfl rfl rfl trivial ?_)
 all_goals ((try simp only [q1H, q1I, q2i, q3Q, decide_eq_true_eq, decide_eq_false_iff_not, Bool.not_eq_true, Bool.not_eq_false, Int.not_lt, Int.not_le] at *); first | (simp_all [q0v]; done) | (simp_all [q0v]; omega) | (rw [D.bool.injEq, Bool.eq_iff_iff]; simp [q0v]; omega) | (rw [D.bool.injEq, Bool.eq_iff_iff]; simp_all [q0v]; omega) | (simp [q0v]; split <;> (try split) <;> omega))
end Go.F

namespace Go.F
attribute [local irreducible] IntKind.wrap wpM
def qcu {α : Type} (g : α → Bool) (p : List α) : Int := match p.findIdx? g with | some i => i | none => -1
theorem qeu {α : Type} {g : α → Bool} {p : List α} {k : Nat} (hk : k < p.length) (hno : ∀ j (hj : j < p.length), j < k → g p[j] = false) (hg : g p[k] = true) : qcu g p = k := by
 have : p.findIdx? g = some k := by
  rw [List.findIdx?_eq_some_iff_getElem]
  exact ⟨hk, hg, fun j hj => by simp [hno j (by omega) hj]⟩
 simp [qcu, this]
theorem qev {α : Type} {g : α → Bool} {p : List α} (hno : ∀ j (hj : j < p.length), g p[j] = false) : qcu g p = -1 := by
 have : p.findIdx? g = none := by
  rw [List.findIdx?_eq_none_iff]
  intro x hx
  obtain ⟨j, hj, rfl⟩ := List.mem_iff_getElem.1 hx
  exact hno j hj
 simp [qcu, this]
theorem qaK {α : Type} {g : α → Bool} {p : List α} : decide (0 ≤ qcu g p) = p.any g := by
 cases h : p.findIdx? g with
 | none =>
   have hn := h
   rw [List.findIdx?_eq_none_iff] at hn
   have : p.any g = false := by rw [List.any_eq_false]; exact fun x hx => by simp [hn x hx]
   simp [qcu, h, this]
 | some i =>
   rw [List.findIdx?_eq_some_iff_getElem] at h
   obtain ⟨hi, hg, _⟩ := h
   have h2 : p.findIdx? g = some i := by rw [List.findIdx?_eq_some_iff_getElem]; exact ⟨hi, hg, by assumption⟩
   have : p.any g = true := by rw [List.any_eq_true]; exact ⟨p[i], List.getElem_mem _, hg⟩
   simp [qcu, h2, this]
theorem qlw (fid : FuncId) (g : Spot → Bool) (hsh : q6Z fid = false) (hg : ∀ s, PU fid [s.enc] = some (.bool (g s))) (p : List Spot) (hp : p.length < 4611686018427387904) :
 PU q2e [q0o p, .fn fid [] []] = some (.int .i64 (qcu g p)) := by
 refine q0h (fn := q2c) rfl (q0c ?_)
 refine gg rfl (q0q (S := fun k : Nat => ([q0o p, .fn fid [] [], q00 p.length, q00 k], [none, none, none, none], [0, 0, 0, 0])) (C := fun k => k ≤ p.length ∧ ∀ j (hj : j < p.length), j < k → g p[j] = false) (m := fun k => p.length - k) 0 ⟨by omega, fun j hj h => by omega⟩ (by omega) ?_ ?_)
 ·exact q03 rfl trivial (by simp [q0o, q00])
 intro k ⟨hk, hno⟩ N hN
 refine gg rfl (q02 rfl (fun h1 => ?_) (fun h1 => ?_))
 ·rw [q06] at h1
  have hlt : k < p.length := by omega
  refine gg rfl (q0k k rfl rfl rfl (q1J hlt) rfl (gg rfl (quQ rfl hsh (q01 hsh rfl (hg p[k]) (gg rfl (q02 rfl (fun h2 => ?_) (fun h2 => ?_)))))))
  ·refine gg rfl (q04 (gg rfl (q08 rfl rfl rfl trivial ?_)))
   rw [qeu hlt hno h2]
  refine gg rfl (q04 (hN (k + 1) ⟨by omega, fun j hj hjk => ?_⟩ (by omega) ?_))
  ·by_cases hjk' : j < k
   ·exact hno j hj hjk'
   obtain rfl : j = k := by omega
   exact h2
  exact q03 rfl trivial (by simp [q0o, q00, wrap64 (x := (k : Int) + 1) (by omega) (by omega)])
 rw [q07] at h1
 refine gg rfl (q04 (gg rfl (q08 rfl rfl rfl trivial ?_)))
 rw [qev fun j hj => hno j hj (by omega)]
theorem qbk (fid : FuncId) (g : Spot → Bool) (hsh : q6Z fid = false) (hg : ∀ s, PU fid [s.enc] = some (.bool (g s))) (p : List Spot) (hp : p.length < 4611686018427387904) :
 PU q1T [q0o p, .fn fid [] []] = some (.bool (p.any g)) := by
 refine q0h (fn := q1R) rfl (q0c ?_)
 repeat' (first
  | refine goP 800 rfl rfl ?_
  | refine q0e rfl ?_ | refine q0j rfl ?_ | refine q05 rfl (fun _ => ?_) (fun _ => ?_)
  | refine q0g rfl ?_ | refine q0m rfl ?_ | refine q02 rfl (fun _ => ?_) (fun _ => ?_)
  | refine q0G rfl (fun _ => ?_) (fun _ => ?_)
  | refine q08 rfl rfl rfl trivial ?_
  | refine q01 rfl rfl (qlw fid g hsh hg p hp) ?_)
 rw [q1I, qaK]
theorem q1o (a b : Spot) : (eqb a.x b.x && (eqb a.y b.y && true)) = decide (a = b) := by
 cases a; cases b; simp [eqb, Bool.beq_eq_decide_eq]
theorem qsu (p : List Spot) (v : Spot) (hp : p.length < 4611686018427387904) : PU q2X [q0o p, v.enc] = some (.int .i64 (qcu (fun s => decide (v = s)) p)) := by
 refine q0h (fn := q2U) rfl (q0c ?_)
 refine gg rfl (q0q (S := fun k : Nat => ([q0o p, .ptr 1 0 0, q00 p.length, q00 k], [none, some (.row [v.enc] 2), none, none], [0, 0, 0, 0])) (C := fun k => k ≤ p.length ∧ ∀ j (hj : j < p.length), j < k → decide (v = p[j]) = false) (m := fun k => p.length - k) 0 ⟨by omega, fun j hj h => by omega⟩ (by omega) ?_ ?_)
 ·exact q03 rfl ⟨rfl, trivial⟩ (by simp [q0o, q00, Spot.enc])
 intro k ⟨hk, hno⟩ N hN
 refine gg rfl (q02 rfl (fun h1 => ?_) (fun h1 => ?_))
 ·rw [q06] at h1
  have hlt : k < p.length := by omega
  refine gg rfl (q0k k rfl rfl rfl (q1J hlt) rfl (gg rfl (q02 rfl (fun h2 => ?_) (fun h2 => ?_))))
  ·rw [q1o] at h2
   refine gg rfl (q04 (gg rfl (q08 rfl rfl rfl trivial ?_)))
   rw [qeu hlt hno h2]
  rw [q1o] at h2
  refine gg rfl (q04 (hN (k + 1) ⟨by omega, fun j hj hjk => ?_⟩ (by omega) ?_))
  ·by_cases hjk' : j < k
   ·exact hno j hj hjk'
   obtain rfl : j = k := by omega
   exact h2
  exact q03 rfl ⟨rfl, trivial⟩ (by simp [q0o, q00, Spot.enc, wrap64 (x := (k : Int) + 1) (by omega) (by omega)])
 rw [q07] at h1
 refine gg rfl (q04 (gg rfl (q08 rfl rfl rfl trivial ?_)))
 rw [qev fun j hj => hno j hj (by omega)]
theorem qu3 {p : List Spot} {v : Spot} : p.any (fun s => decide (v = s)) = decide (v ∈ p) := by
 rw [Bool.eq_iff_iff]; simp
theorem qmU (p : List Spot) (v : Spot) (hp : p.length < 4611686018427387904) : PU q3Z [q0o p, v.enc] = some (.bool (decide (v ∈ p))) := by
 refine q0h (fn := q2j) rfl (q0c ?_)
 repeat' (first
  | refine goP 800 rfl rfl ?_
  | refine q0e rfl ?_ | refine q0j rfl ?_ | refine q05 rfl (fun _ => ?_) (fun _ => ?_)
  | refine q0g rfl ?_ | refine q0m rfl ?_ | refine q02 rfl (fun _ => ?_) (fun _ => ?_)
  | refine q0G rfl (fun _ => ?_) (fun _ => ?_)
  | refine q08 rfl rfl rfl trivial ?_
  | refine q01 rfl rfl (qsu p v hp) ?_)
 rw [q1I, qaK, qu3]
end Go.F

namespace Go.F
attribute [local irreducible] IntKind.wrap wpM
def pt (p : List Spot) (i : Nat) : Spot := p.getD i ⟨0, 0⟩
theorem q11 {p : List Spot} {i : Nat} (h : i < p.length) : pt p i = p[i] := by simp [pt, h]
theorem q0T {p : List Spot} {i : Nat} (h : i < p.length) : (p.map Spot.enc)[i]? = some (pt p i).enc := by simp [pt, h]
class OkP (p : List Spot) : Prop where
 ok : ∀ s ∈ p, OkS s
instance qqI {p : List Spot} [h : OkP p] {i : Nat} : OkS (pt p i) := by
 by_cases hi : i < p.length
 ·rw [q11 hi]; exact h.ok _ (List.getElem_mem _)
 have : pt p i = ⟨0, 0⟩ := by simp [pt, List.getElem?_eq_none (Nat.le_of_not_lt hi)]
 rw [this]; exact ⟨by decide, by decide⟩
def q3X (p : List Spot) : Prop :=
 (∀ i, i < p.length → pt p i ∉ p.take i) ∧
 ∀ i, i < p.length → q3r (pt p i) (pt p ((i + 1) % p.length)) (pt p ((i + 2) % p.length)) = false ∧
   ∀ k, k < p.length → i + 2 ≤ k → (k + 1) % p.length ≠ i → q5B (pt p i) (pt p ((i + 1) % p.length)) (pt p k) (pt p ((k + 1) % p.length)) = false
instance (p : List Spot) : Decidable (q3X p) := by unfold q3X; exact inferInstance
theorem q1K {a n : Nat} : ((a : Int)).tmod (n : Int) = ((a % n : Nat) : Int) := by
 rw [Int.tmod_eq_emod_of_nonneg (by omega)]; simp
set_option maxHeartbeats 1000000 in
theorem qqJ (p : List Spot) [OkP p] (h3 : 3 ≤ p.length) (hp : p.length ≤ 1000) : PU qa5 [q0o p] = some (.bool (decide (q3X p))) := by
 refine q0h (fn := q6n) rfl (q0c ?_)
 refine gg rfl ?_
 have hcells : (p.map Spot.enc).all (fun d => d.cells.length == 2) = true := q1X (f := Spot.enc) (n := 2) (fun _ => rfl) p
 refine q0q (S := fun k : Nat => ([q0o p, q00 p.length, q0o p, q00 p.length, q00 k], [none, none, none, none, none], [0, 0, 0, 0, 0])) (C := fun k => k ≤ p.length ∧ ∀ j, j < k → pt p j ∉ p.take j) (m := fun k => p.length - k) 0 ⟨by omega, fun j h => by omega⟩ (by omega) ?_ ?_
 ·exact q03 rfl trivial (by simp [q0o, q00])
 intro k ⟨hk, hno⟩ N hN
 refine gg rfl (q02 rfl (fun h1 => ?_) (fun h1 => ?_))
 ·rw [q06] at h1
  have hlt : k < p.length := by omega
  refine gg rfl (q0k k rfl rfl rfl (q0T hlt) rfl (gg rfl (qdM k rfl hcells ⟨_, _, rfl, rfl⟩ (by simp; omega) ?_)))
  refine gg rfl ?_
  have hc := qmU (p.take k) (pt p k) (by simp; omega)
  rw [q0o, List.map_take] at hc
  refine q01 rfl rfl hc (gg rfl (q02 rfl (fun h2 => ?_) (fun h2 => ?_)))
  ·refine gg rfl (q04 (gg rfl (q08 rfl rfl rfl trivial ?_)))
   have : ¬ q3X p := fun hs => hs.1 k hlt (by simpa using h2)
   simp [this]
  refine gg rfl (q04 (hN (k + 1) ⟨by omega, fun j hj => ?_⟩ (by omega) ?_))
  ·by_cases hjk : j < k
   ·exact hno j hjk
   obtain rfl : j = k := by omega
   simpa using h2
  exact q03 rfl trivial (by simp [q0o, q00, wrap64 (x := (k : Int) + 1) (by omega) (by omega)])
 rw [q07] at h1
 have hdup : ∀ j, j < p.length → pt p j ∉ p.take j := fun j hj => hno j (by omega)
 clear hN
 refine gg rfl (q04 (gg rfl ?_))
 refine q0q (S := fun k : Nat => ([q0o p, q00 p.length, q0o p, q00 p.length, q00 k], [none, none, none, none, none], [0, 0, 0, 0, 0]))
  (C := fun i => i ≤ p.length ∧ ∀ j, j < i → q3r (pt p j) (pt p ((j + 1) % p.length)) (pt p ((j + 2) % p.length)) = false ∧ ∀ k, k < p.length → j + 2 ≤ k → (k + 1) % p.length ≠ j → q5B (pt p j) (pt p ((j + 1) % p.length)) (pt p k) (pt p ((k + 1) % p.length)) = false)
  (m := fun k => p.length - k) 0 ⟨by omega, fun j h => by omega⟩ (by omega) ?_ ?_
 ·exact q03 rfl trivial (by simp [q0o, q00])
 intro i ⟨hi, hall⟩ N hN
 refine gg rfl (q02 rfl (fun g1 => ?_) (fun g1 => ?_))
 ·rw [q06] at g1
  have hlt : i < p.length := by omega
  have w1 := wS (n := i)
  have w2 : IntKind.i64.wrap ((i : Int) + 2) = ((i + 2 : Nat) : Int) := ww
  refine gg rfl (q0k i rfl rfl rfl (q0T hlt) rfl (gg rfl (q4R rfl rfl (by omega) ?_)))
  refine gg rfl (q0k ((i + 1) % p.length) rfl rfl (by rw [w1, q1K]) (q0T (Nat.mod_lt _ (by omega))) rfl ?_)
  refine gg rfl (q4R rfl rfl (by omega) ?_)
  refine gg rfl (q0k ((i + 2) % p.length) rfl rfl (by rw [w2, q1K]) (q0T (Nat.mod_lt _ (by omega))) rfl ?_)
  refine gg rfl (q01 rfl rfl (qqH (pt p i) (pt p ((i + 1) % p.length)) (pt p ((i + 2) % p.length))) (gg rfl (q02 rfl (fun g2 => ?_) (fun g2 => ?_))))
  ·refine gg rfl (q04 (gg rfl (q08 rfl rfl rfl trivial ?_)))
   have : ¬ q3X p := fun hs => by have := (hs.2 i hlt).1; rw [g2] at this; cases this
   simp [this]
  refine gg rfl ?_
  have fin : ∀ {t : q0u} {h : q0f} {z : Frz} {nx : Nat}, (∀ k, k < p.length → i + 2 ≤ k → (k + 1) % p.length ≠ i → q5B (pt p i) (pt p ((i + 1) % p.length)) (pt p k) (pt p ((k + 1) % p.length)) = false) →
   (q0Z 0 [(0, 0), (3, 0), (25, 0), (26, 0), (27, 0)] t h z nx fun _ _ kp => kp = ([q0o p, q00 p.length, q0o p, q00 p.length, q00 ((i + 1 : Nat) : Int)], [none, none, none, none, none], [0, 0, 0, 0, 0])) → N t h z nx := by
   intro t h z nx hm hst
   refine hN (i + 1) ⟨by omega, fun j hj => ?_⟩ (by omega) hst
   by_cases hji : j < i
   ·exact hall j hji
   obtain rfl : j = i := by omega
   exact ⟨g2, hm⟩
  clear hN
  refine q0q (S := fun k : Nat => ([q0o p, q00 p.length, q00 i, .ptr 3 0 0, .ptr 4 0 0, q00 k, q0o p, q00 p.length, q00 i], [none, none, none, some (.row [(pt p i).enc] 2), some (.row [(pt p ((i + 1) % p.length)).enc] 2), none, none, none, none], [0, 0, 0, 0, 0, 0, 0, 0, 0]))
   (C := fun k => i + 2 ≤ k ∧ k ≤ p.length + 2 ∧ ∀ k', k' < p.length → k' < k → i + 2 ≤ k' → (k' + 1) % p.length ≠ i → q5B (pt p i) (pt p ((i + 1) % p.length)) (pt p k') (pt p ((k' + 1) % p.length)) = false)
   (m := fun k => p.length + 2 - k) (i + 2) ⟨by omega, by omega, fun k' _ h1 h2 => by omega⟩ (by omega) ?_ ?_
  ·exact q03 rfl ⟨rfl, rfl, trivial⟩ (by simp [q0o, q00, Spot.enc, w2])
  intro k ⟨hk1, hk2, hkall⟩ N2 hN2
  refine gg rfl (q05 rfl (fun e1 => ?_) (fun e1 => ?_))
  ·rw [q06] at e1
   have hkl : k < p.length := by omega
   have wk := wS (n := k)
   refine gg rfl (q4R rfl rfl (by omega) ?_)
   refine gg rfl (q02 rfl (fun e2 => ?_) (fun e2 => ?_))
   ·rw [q0z, wk, q1K] at e2
    have hne : (k + 1) % p.length ≠ i := fun e => e2 (by rw [e])
    refine gg rfl (q0k k rfl rfl rfl (q0T hkl) rfl (gg rfl (q4R rfl rfl (by omega) ?_)))
    refine gg rfl (q0k ((k + 1) % p.length) rfl rfl (by rw [wk, q1K]) (q0T (Nat.mod_lt _ (by omega))) rfl ?_)
    refine gg rfl (q01 rfl rfl (qu2 (pt p i) (pt p ((i + 1) % p.length)) (pt p k) (pt p ((k + 1) % p.length))) (gg rfl (q02 rfl (fun e3 => ?_) (fun e3 => ?_))))
    ·refine gg rfl (q04 (gg rfl (q04 (gg rfl (q08 rfl rfl rfl trivial ?_)))))
     have : ¬ q3X p := fun hs => by have := (hs.2 i hlt).2 k hkl hk1 hne; rw [e3] at this; cases this
     simp [this]
    refine gg rfl (q04 (hN2 (k + 1) ⟨by omega, by omega, fun k' h1 h2 h3 h4 => ?_⟩ (by omega) ?_))
    ·by_cases hkk : k' < k
     ·exact hkall k' h1 hkk h3 h4
     obtain rfl : k' = k := by omega
     exact e3
    exact q03 rfl ⟨rfl, rfl, trivial⟩ (by simp [q0o, q00, Spot.enc, wk])
   rw [q0A, wk, q1K] at e2
   have heq : (k + 1) % p.length = i := by omega
   refine gg rfl (q04 (gg rfl (q04 (fin (fun k' h1 h2 h3 => ?_) ?_))))
   ·by_cases hkk : k' < k
    ·exact hkall k' h1 hkk h2 h3
    by_cases hkk2 : k' = k
    ·subst hkk2; exact absurd heq h3
    exfalso
    rw [Nat.mod_eq_of_lt (by omega)] at heq
    omega
   exact q03 rfl trivial (by simp [q0o, q00, w1])
  rw [q07] at e1
  refine gg rfl (q0m rfl (gg rfl (q04 (gg rfl (q04 (fin (fun k' h1 h2 h3 => hkall k' h1 (by omega) h2 h3) ?_))))))
  exact q03 rfl trivial (by simp [q0o, q00, w1])
 rw [q07] at g1
 refine gg rfl (q04 (gg rfl (q08 rfl rfl rfl trivial ?_)))
 have : q3X p := ⟨hdup, fun j hj => hall j (by omega)⟩
 simp [this]
end Go.F

namespace Go.F
attribute [local irreducible] IntKind.wrap wpM
theorem q2p {s : Spot} {m : Int} : q0v s m = true ↔ (-m ≤ s.x ∧ s.x ≤ m ∧ -m ≤ s.y ∧ s.y ≤ m) := by simp [q0v]
theorem qoC {p : List Spot} (h : p.any (fun s => !q0v s 1048576) = false) : OkP p := by
 refine ⟨fun s hs => ?_⟩
 have : q0v s 1048576 = true := by
  cases hw : q0v s 1048576
  ·exact absurd (List.any_eq_true (p := fun s => !q0v s 1048576).2 ⟨s, hs, by simp [hw]⟩) (by simp only [h]; decide)
  rfl
 rw [q2p] at this
 exact ⟨by omega, by omega⟩
def q2y (p : List Spot) : Int :=
 if 40 < p.length then 5 else if p.length < 3 then 11 else if p.any (fun s => !q0v s 1048576) then 3 else if q3X p then 0 else 11
theorem q4r (p : List Spot) : PU q50 [q0o p] = some (.int .i64 (q2y p)) := by
 refine q0h (fn := q7f) rfl (q0c ?_)
 refine gg rfl (q02 rfl (fun h1 => ?_) (fun h1 => ?_))
 ·refine gg rfl (q08 rfl rfl rfl trivial ?_)
  rw [q06] at h1
  simp at h1
  rw [q2y, if_pos (by omega)]
 refine gg rfl ?_
 rw [q07] at h1
 simp at h1
 refine q02 rfl (fun h2 => ?_) (fun h2 => ?_)
 ·refine gg rfl (q08 rfl rfl rfl trivial ?_)
  rw [q06] at h2
  simp at h2
  rw [q2y, if_neg (by omega), if_pos (by omega)]
 refine gg rfl ?_
 rw [q07] at h2
 simp at h2
 refine q01 rfl rfl (qbk q63 _ rfl qoB p (by omega)) ?_
 refine gg rfl (q02 rfl (fun h3 => ?_) (fun h3 => ?_))
 ·refine gg rfl (q08 rfl rfl rfl trivial ?_)
  simp [q2y, show ¬ 40 < p.length by omega, show ¬ p.length < 3 by omega] at h3 ⊢
  intro h4
  exact absurd h3 (by simpa using h4)
 refine gg rfl ?_
 have := qoC h3
 refine q01 rfl rfl (qqJ p (by omega) (by omega)) ?_
 refine gg rfl (q02 rfl (fun h4 => ?_) (fun h4 => ?_))
 ·refine gg rfl (q08 rfl rfl rfl trivial ?_)
  simp at h4
  rw [q2y, if_neg (by omega), if_neg (by omega), if_neg (by simp [h3]), if_neg h4]
 refine gg rfl (q08 rfl rfl rfl trivial ?_)
 simp at h4
 rw [q2y, if_neg (by omega), if_neg (by omega), if_neg (by simp [h3]), if_pos h4]
def q2I (p : List Spot) : Nat → Int
 | 0 => 0
 | k + 1 => q2I p k + ((pt p k).x * (pt p ((k + 1) % p.length)).y - (pt p k).y * (pt p ((k + 1) % p.length)).x)
def qmV (p : List Spot) : Int := q2I p p.length
theorem qdo (p : List Spot) [OkP p] (k : Nat) : Bd (q2I p k) (k * 35184372088832) := by
 induction k with
 | zero => exact ⟨by simp [q2I]⟩
 | succ k ih =>
   have h : Bd ((pt p k).x * (pt p ((k + 1) % p.length)).y - (pt p k).y * (pt p ((k + 1) % p.length)).x) _ := inferInstance
   have := h.le
   have := ih.le
   refine ⟨?_⟩
   rw [q2I]
   omega
set_option maxHeartbeats 1000000 in
theorem qu4 (p : List Spot) [OkP p] (hp : p.length ≤ 1000) : PU qcG [q0o p] = some (.int .i64 (qmV p)) := by
 refine q0h (fn := q8d) rfl (q0c ?_)
 refine gg rfl (q0q (S := fun k : Nat => ([q0o p, q00 (q2I p k), q0o p, q00 p.length, q00 k], [none, none, none, none, none], [0, 0, 0, 0, 0])) (C := fun k => k ≤ p.length) (m := fun k => p.length - k) 0 (by omega) (by omega) ?_ ?_)
 ·exact q03 rfl trivial (by simp [q0o, q00, q2I])
 intro k hk N hN
 refine gg rfl (q02 rfl (fun h1 => ?_) (fun h1 => ?_))
 ·rw [q06] at h1
  have hlt : k < p.length := by omega
  have w1 := wS (n := k)
  have b0 := (qdo p k).le
  have b1 := (qdo p (k + 1)).le
  refine gg rfl (q0k k rfl rfl rfl (q0T hlt) rfl (gg rfl (q4R rfl rfl (by rw [List.length_map]; omega) ?_)))
  refine gg rfl (q0k ((k + 1) % p.length) rfl rfl (by rw [w1, List.length_map, q1K]) (q0T (Nat.mod_lt _ (by omega))) rfl ?_)
  refine gg rfl (q04 (hN (k + 1) (by omega) (by omega) ?_))
  refine q03 rfl trivial ?_
  have e1 : IntKind.i64.wrap ((pt p k).x * (pt p ((k + 1) % p.length)).y) = (pt p k).x * (pt p ((k + 1) % p.length)).y := q0K (by decide)
  have e2 : IntKind.i64.wrap ((pt p k).y * (pt p ((k + 1) % p.length)).x) = (pt p k).y * (pt p ((k + 1) % p.length)).x := q0K (by decide)
  have e3 : IntKind.i64.wrap ((pt p k).x * (pt p ((k + 1) % p.length)).y - (pt p k).y * (pt p ((k + 1) % p.length)).x) = (pt p k).x * (pt p ((k + 1) % p.length)).y - (pt p k).y * (pt p ((k + 1) % p.length)).x := q0K (by decide)
  have e4 := ww (x := q2I p (k + 1))
  rw [q2I] at e4
  simp [q0o, q00, q2I, w1, e1, e2, e3, e4]
 rw [q07] at h1
 refine gg rfl (q04 (gg rfl (q08 rfl rfl rfl trivial ?_)))
 obtain rfl : k = p.length := by omega
 rfl
def q1s (p : List Spot) : Int := if q2y p = 0 then qmV p else 0
theorem q2v {p : List Spot} (h : q2y p = 0) : 3 ≤ p.length ∧ p.length ≤ 40 ∧ OkP p ∧ (∀ s ∈ p, q0v s 1048576 = true) ∧ q3X p := by
 unfold q2y at h
 split at h
 ·cases h
 split at h
 ·cases h
 split at h
 ·cases h
 split at h
 ·rename_i h1 h2 h3 h4
  have h3' : p.any (fun s => !q0v s 1048576) = false := by simpa using h3
  refine ⟨by omega, by omega, qoC h3', ?_, h4⟩
  simpa using h3
 cases h
theorem qsv (p : List Spot) : PU q7u [q0o p] = some (.int .i64 (q1s p)) := by
 refine q0h (fn := q7g) rfl (q0c ?_)
 refine gg rfl (q01 rfl rfl (q4r p) (gg rfl (q02 rfl (fun h => ?_) (fun h => ?_))))
 ·refine gg rfl (q08 rfl rfl rfl trivial ?_)
  rw [q0z] at h
  rw [q1s, if_neg h]
 rw [q0A] at h
 obtain ⟨_, h2, h3, _, _⟩ := q2v h
 refine gg rfl (q01 rfl rfl (qu4 p (by omega)) ?_)
 refine gg rfl (q08 rfl rfl rfl trivial ?_)
 rw [q1s, if_pos h]
end Go.F

namespace Go.F
attribute [local irreducible] IntKind.wrap wpM
def q1Y (p : List Spot) : Int :=
 if 40 < p.length then 5 else if p.length < 2 then 11 else if p.any (fun s => !q0v s 1048576) then 3 else if ∀ i, i < p.length - 1 → pt p i ≠ pt p (i + 1) then 0 else 11
theorem q92 (p : List Spot) : PU q6z [q0o p] = some (.int .i64 (q1Y p)) := by
 refine q0h (fn := q6l) rfl (q0c ?_)
 refine gg rfl (q02 rfl (fun h1 => ?_) (fun h1 => ?_))
 ·refine gg rfl (q08 rfl rfl rfl trivial ?_)
  rw [q06, List.length_map] at h1
  rw [q1Y, if_pos (by omega)]
 refine gg rfl ?_
 rw [q07, List.length_map] at h1
 refine q02 rfl (fun h2 => ?_) (fun h2 => ?_)
 ·refine gg rfl (q08 rfl rfl rfl trivial ?_)
  rw [q06, List.length_map] at h2
  rw [q1Y, if_neg (by omega), if_pos (by omega)]
 refine gg rfl ?_
 rw [q07, List.length_map] at h2
 refine q01 rfl rfl (qbk q5r _ rfl qdI p (by omega)) ?_
 refine gg rfl (q02 rfl (fun h3 => ?_) (fun h3 => ?_))
 ·refine gg rfl (q08 rfl rfl rfl trivial ?_)
  rw [q1Y, if_neg (by omega), if_neg (by omega), if_pos h3]
 refine gg rfl (q0q (S := fun k : Nat => ([q0o p, q00 (p.length - 1 : Nat), q00 k], [none, none, none], [0, 0, 0])) (C := fun k => k ≤ p.length - 1 ∧ ∀ i, i < k → pt p i ≠ pt p (i + 1)) (m := fun k => p.length - k) 0 ⟨by omega, fun i hi => by omega⟩ (by omega) ?_ ?_)
 ·refine q03 rfl trivial ?_
  have : IntKind.i64.wrap ((p.length : Int) - 1) = ((p.length - 1 : Nat) : Int) := by rw [wrap64 (by omega) (by omega)]; omega
  simp [q0o, q00, this]
 intro k ⟨hk, hno⟩ N hN
 refine gg rfl (q02 rfl (fun g1 => ?_) (fun g1 => ?_))
 ·rw [q06] at g1
  have hlt : k + 1 < p.length := by omega
  have w1 := wS (n := k)
  refine gg rfl (q0k k rfl rfl rfl (q0T (by omega)) rfl ?_)
  refine gg rfl (q0k (k + 1) rfl rfl w1 (q0T hlt) rfl (gg rfl (q02 rfl (fun g2 => ?_) (fun g2 => ?_))))
  ·refine gg rfl (q04 (gg rfl (q08 rfl rfl rfl trivial ?_)))
   rw [q1Y, if_neg (by omega), if_neg (by omega), if_neg (by rw [h3]; decide), if_neg]
   intro hall
   refine hall k (by omega) ?_
   rw [q1o] at g2
   simpa using g2
  refine gg rfl (q04 (hN (k + 1) ⟨by omega, fun i hi => ?_⟩ (by omega) (q03 rfl trivial (by simp [q0o, q00, w1]))))
  by_cases hik : i < k
  ·exact hno i hik
  obtain rfl : i = k := by omega
  rw [q1o] at g2
  simpa using g2
 rw [q07] at g1
 refine gg rfl (q04 (gg rfl (q08 rfl rfl rfl trivial ?_)))
 rw [q1Y, if_neg (by omega), if_neg (by omega), if_neg (by rw [h3]; decide), if_pos (fun i hi => hno i (by omega))]
end Go.F

namespace Go.F
attribute [local irreducible] IntKind.wrap wpM
def q0s (l : List Edge) : List Spot := l.flatMap (fun e => e.line.dropLast)
theorem qew {l : List Edge} {k : Nat} (h : k < l.length) : q0s (l.take (k + 1)) = q0s (l.take k) ++ l[k].line.dropLast := by
 rw [List.take_succ_eq_append_getElem h, q0s, List.flatMap_append]; simp [q0s]
theorem qcv {l : List Edge} (k : Nat) : (q0s (l.take k)).length ≤ (q0s l).length := by
 have : q0s l = q0s (l.take k) ++ q0s (l.drop k) := by
  rw [q0s, q0s, q0s, ← List.flatMap_append, List.take_append_drop]
 rw [this, List.length_append]; omega
theorem q3s {l : List D} {n : Nat} (hn : n = l.length) (h : l.all (dat 4) = true) : 0 + n ≤ l.length ∧ ((l.drop 0).take n).all (dat 4) = true := by
 subst hn
 simpa using h
theorem q5n {l : List D} {n : Nat} (hn : n = l.length) : D.lst (l.take n) = .lst l := by
 subst hn
 simp
set_option maxHeartbeats 1000000 in
theorem qgZ (l : List Edge) (h1 : ∀ e ∈ l, 1 ≤ e.line.length ∧ e.line.length ≤ 100000) (hl : l.length ≤ 100000) (hv : (q0s l).length ≤ 100000) : PU q5q [edges l] = some (q0o (q0s l)) := by
 refine q0h (fn := q5f) rfl (q0c ?_)
 refine gg rfl (q0q (S := fun k : Nat => ([.ref 0 0 (q0s (l.take k)).length, edges l, q00 l.length, q00 k], [some (.row ((q0s (l.take k)).map Spot.enc) 2), none, none, none], [0, 0, 0, 0])) (C := fun k => k ≤ l.length) (m := fun k => l.length - k) 0 (by omega) (by omega) ?_ ?_)
 ·exact q03 rfl ⟨rfl, trivial⟩ (by simp [edges, q00, q0s])
 intro k hk N hN
 refine gg rfl (q02 rfl (fun g1 => ?_) (fun g1 => ?_))
 ·rw [q06] at g1
  have hlt : k < l.length := by omega
  have w1 := wS (n := k)
  have hln := h1 _ (List.getElem_mem hlt)
  have hcells : (l[k].line.map Spot.enc).all (fun d => d.cells.length == 2) = true := q1X (f := Spot.enc) (n := 2) (fun _ => rfl) _
  have hle := qcv (l := l) (k + 1)
  rw [qew hlt, List.length_append] at hle
  have w2 : IntKind.i64.wrap ((l[k].line.length : Int) - 1) = ((l[k].line.length - 1 : Nat) : Int) := by rw [wrap64 (by omega) (by omega)]; omega
  refine gg rfl (q0k k rfl rfl rfl (q1J hlt) rfl (gg rfl (qdM (l[k].line.length - 1) rfl hcells ⟨_, _, rfl, by rw [List.length_map]; exact w2⟩ (by simp) ?_)))
  refine gg rfl ?_
  have e : (l[k].line.map Spot.enc).take (l[k].line.length - 1) = l[k].line.dropLast.map Spot.enc := by
   rw [List.dropLast_eq_take, List.map_take]
  rw [e]
  refine qjO rfl rfl rfl (q1X (f := Spot.enc) (n := 2) (fun _ => rfl) _) (by simp) (Nat.zero_le _) (by simp [q0U] at *; omega) ?_
  refine gg rfl (q04 (hN (k + 1) (by omega) (by omega) (q03 rfl ⟨by rw [← List.map_append]; exact q0b q0S _, trivial⟩ ?_)))
  simp [edges, q00, w1, qew hlt]
 rw [q07] at g1
 refine gg rfl (q04 (gg rfl ?_))
 obtain rfl : k = l.length := by omega
 rw [List.take_length]
 refine q08 rfl rfl rfl ⟨q3s (by simp) (q1t q3E _), trivial⟩ ?_
 rw [q5n (by simp), q0o]
end Go.F

namespace Go.F
attribute [local irreducible] IntKind.wrap wpM
def q23 (s : ByteArray) (i : Nat) : UInt8 := s.toList.getD i 0
theorem qiA (s : ByteArray) : s.toList.length = s.size := by rw [Go.ByteArray.toList_eq]; rfl
theorem q6w {s : ByteArray} {i : Nat} (h : i < s.size) : s.toList[i]? = some (q23 s i) := by
 have : i < s.toList.length := by rw [qiA]; exact h
 simp [q23, this]
def q4G (n : Nat) : Bool := decide (48 ≤ n) && decide (n ≤ 57)
theorem qoD (n : Nat) : PU q67 [.int .u8 n] = some (.bool (q4G n)) := by
 refine q0h (fn := q5V) rfl (q0c ?_)
 repeat' (first
  | refine goP 800 rfl rfl ?_
  | refine q0e rfl ?_ | refine q0j rfl ?_ | refine q05 rfl (fun _ => ?_) (fun _ => ?_)
  | refine q0g rfl ?_ | refine q0m rfl ?_ | refine q02 rfl (fun _ => ?_) (fun _ => ?_)
  | refine q0G rfl (fun _ => ?_) (fun _ => ?_)
  | refine q08 rfl rfl rfl trivial ?_)
 all_goals ((try simp only [q1H, q1I, q2i, q3Q, decide_eq_true_eq, decide_eq_false_iff_not, Bool.not_eq_true, Bool.not_eq_false, Int.not_lt, Int.not_le] at *); first | (simp_all [q4G]; done) | (simp_all [q4G]; omega) | (rw [D.bool.injEq, Bool.eq_iff_iff]; simp [q4G]; omega) | (rw [D.bool.injEq, Bool.eq_iff_iff]; simp_all [q4G]; omega) | (simp [q4G]; split <;> (try split) <;> omega))
theorem qlx (n : Nat) : PU qcC [.int .u8 n] = some (.bool (q4G n)) := by
 refine q0h (fn := qbX) rfl (q0c ?_)
 repeat' (first
  | refine goP 800 rfl rfl ?_
  | refine q0e rfl ?_ | refine q0j rfl ?_ | refine q05 rfl (fun _ => ?_) (fun _ => ?_)
  | refine q0g rfl ?_ | refine q0m rfl ?_ | refine q02 rfl (fun _ => ?_) (fun _ => ?_)
  | refine q0G rfl (fun _ => ?_) (fun _ => ?_)
  | refine q08 rfl rfl rfl trivial ?_)
 all_goals ((try simp only [q1H, q1I, q2i, q3Q, decide_eq_true_eq, decide_eq_false_iff_not, Bool.not_eq_true, Bool.not_eq_false, Int.not_lt, Int.not_le] at *); first | (simp_all [q4G]; done) | (simp_all [q4G]; omega) | (rw [D.bool.injEq, Bool.eq_iff_iff]; simp [q4G]; omega) | (rw [D.bool.injEq, Bool.eq_iff_iff]; simp_all [q4G]; omega) | (simp [q4G]; split <;> (try split) <;> omega))
def q7C (i n : Nat) : Bool := (decide (97 ≤ n) && decide (n ≤ 122)) || (!decide (i = 0) && (decide (n = 95) || q4G n))
def q1L (s : ByteArray) : Bool :=
 !decide (s.size = 0) && (!decide (24 < s.size) && (!(s.toList == [109, 105, 110]) && (!(s.toList == [109, 97, 120]) && decide (∀ i, i < s.size → q7C i (q23 s i).toNat = true))))
theorem qfb : (⟨#[109, 105, 110]⟩ : ByteArray).toList = [109, 105, 110] := by rw [Go.ByteArray.toList_eq]
theorem qfc : (⟨#[109, 97, 120]⟩ : ByteArray).toList = [109, 97, 120] := by rw [Go.ByteArray.toList_eq]
set_option maxHeartbeats 2000000 in
theorem qqK (s : ByteArray) : PU q6C [.str s] = some (.bool (q1L s)) := by
 refine q0h (fn := q6s) rfl (q0c ?_)
 refine gg rfl (q05 rfl (fun h0 => ?_) (fun h0 => ?_))
 ·repeat' (first
   | refine goP 800 rfl rfl ?_
   | refine q0e rfl ?_ | refine q0j rfl ?_ | refine q05 rfl (fun _ => ?_) (fun _ => ?_)
   | refine q0g rfl ?_ | refine q0m rfl ?_ | refine q02 rfl (fun _ => ?_) (fun _ => ?_)
   | refine q0G rfl (fun _ => ?_) (fun _ => ?_)
   | refine q08 rfl rfl rfl trivial ?_)
  rw [q12] at h0
  have : s.size = 0 := by omega
  simp [q1L, this]
 refine gg rfl ?_
 rw [q1a] at h0
 refine q05 rfl (fun h1 => ?_) (fun h1 => ?_)
 ·repeat' (first
   | refine goP 800 rfl rfl ?_
   | refine q0e rfl ?_ | refine q0j rfl ?_ | refine q05 rfl (fun _ => ?_) (fun _ => ?_)
   | refine q0g rfl ?_ | refine q0m rfl ?_ | refine q02 rfl (fun _ => ?_) (fun _ => ?_)
   | refine q0G rfl (fun _ => ?_) (fun _ => ?_)
   | refine q08 rfl rfl rfl trivial ?_)
  rw [q06] at h1
  have : 24 < s.size := by omega
  simp [q1L, this]
 refine gg rfl ?_
 rw [q07] at h1
 refine q05 rfl (fun h2 => ?_) (fun h2 => ?_)
 ·repeat' (first
   | refine goP 800 rfl rfl ?_
   | refine q0e rfl ?_ | refine q0j rfl ?_ | refine q05 rfl (fun _ => ?_) (fun _ => ?_)
   | refine q0g rfl ?_ | refine q0m rfl ?_ | refine q02 rfl (fun _ => ?_) (fun _ => ?_)
   | refine q0G rfl (fun _ => ?_) (fun _ => ?_)
   | refine q08 rfl rfl rfl trivial ?_)
  rw [qfb] at h2
  simp [q1L, h2]
 refine gg rfl ?_
 rw [qfb] at h2
 refine q02 rfl (fun h3 => ?_) (fun h3 => ?_)
 ·refine gg rfl (q08 rfl rfl rfl trivial ?_)
  rw [qfc] at h3
  simp [q1L, h3]
 refine gg rfl ?_
 rw [qfc] at h3
 have key : ∀ b, (decide (∀ i, i < s.size → q7C i (q23 s i).toNat = true)) = b → q1L s = b := by
  intro b hb
  rw [q1L, hb, h2, h3]
  rw [show decide (s.size = 0) = false by rw [decide_eq_false_iff_not]; omega, show decide (24 < s.size) = false by rw [decide_eq_false_iff_not]; omega]
  simp
 refine q0q (S := fun k : Nat => ([.str s, q00 s.size, q00 k], [none, none, none], [0, 0, 0])) (C := fun k => k ≤ s.size ∧ ∀ i, i < k → q7C i (q23 s i).toNat = true) (m := fun k => s.size - k) 0 ⟨by omega, fun i hi => by omega⟩ (by omega) ?_ ?_
 ·exact q03 rfl trivial (by simp [q00])
 intro k ⟨hk, hall⟩ N hN
 refine gg rfl (q02 rfl (fun g1 => ?_) (fun g1 => ?_))
 ·rw [q06] at g1
  have hlt : k < s.size := by omega
  have w1 := wS (n := k)
  have yes : q7C k (q23 s k).toNat = true → ∀ {t : q0u} {h : q0f} {z : Frz} {nx : Nat}, (q0Z 0 [(0, 0), (23, 0), (24, 0)] t h z nx fun _ _ kp => kp = ([.str s, q00 s.size, q00 ((k + 1 : Nat) : Int)], [none, none, none], [0, 0, 0])) → N t h z nx := by
   intro hc t h z nx hst
   refine hN (k + 1) ⟨by omega, fun i hi => ?_⟩ (by omega) hst
   by_cases hik : i < k
   ·exact hall i hik
   obtain rfl : i = k := by omega
   exact hc
  have no : q7C k (q23 s k).toNat = false → q1L s = false := by
   intro hc
   refine key false ?_
   simp
   exact ⟨k, hlt, hc⟩
  clear hN
  refine gg rfl (q1U k rfl rfl rfl (q6w hlt) ?_)
  repeat' (first
   | refine goP 800 rfl rfl ?_
   | refine q0e rfl ?_ | refine q0j rfl ?_ | refine q05 rfl (fun _ => ?_) (fun _ => ?_)
   | refine q0g rfl ?_ | refine q0m rfl ?_ | refine q02 rfl (fun _ => ?_) (fun _ => ?_)
   | refine q0G rfl (fun _ => ?_) (fun _ => ?_)
   | refine q01 rfl rfl (qoD _) ?_)
  all_goals refine q04 ?_
  all_goals first
   | (refine yes ?_ (q03 rfl trivial (by simp [q00, w1]))
      simp only [q1H, q1I, q2i, q3Q, decide_eq_true_eq, decide_eq_false_iff_not, Bool.not_eq_true, Bool.not_eq_false, Int.not_lt, Int.not_le] at *
      simp_all [q7C]
      try omega)
   | (refine gg rfl ?_
      refine q08 rfl rfl rfl trivial ?_
      rw [no]
      simp only [q1H, q1I, q2i, q3Q, decide_eq_true_eq, decide_eq_false_iff_not, Bool.not_eq_true, Bool.not_eq_false, Int.not_lt, Int.not_le] at *
      simp_all [q7C]
      try omega)
 rw [q07] at g1
 refine gg rfl (q04 (gg rfl (q08 rfl rfl rfl trivial ?_)))
 rw [key true (by simp; exact fun i hi => hall i (by omega))]
end Go.F

namespace Go.F
attribute [local irreducible] IntKind.wrap wpM
theorem qaL : (⟨#[]⟩ : ByteArray).toList = [] := by rw [Go.ByteArray.toList_eq]
theorem qfd {s : ByteArray} : (s.toList == []) = decide (s.size = 0) := by
 rw [← qiA]
 cases s.toList <;> simp
set_option maxHeartbeats 2000000 in
theorem qh0 (s : ByteArray) : PU qaM [.str s] = some (.bool (q1L s)) := by
 refine q0h (fn := qe6) rfl (q0c ?_)
 refine gg rfl (q05 rfl (fun h0 => ?_) (fun h0 => ?_))
 ·repeat' (first
   | refine goP 800 rfl rfl ?_
   | refine q0e rfl ?_ | refine q0j rfl ?_ | refine q05 rfl (fun _ => ?_) (fun _ => ?_)
   | refine q0g rfl ?_ | refine q0m rfl ?_ | refine q02 rfl (fun _ => ?_) (fun _ => ?_)
   | refine q0G rfl (fun _ => ?_) (fun _ => ?_)
   | refine q08 rfl rfl rfl trivial ?_)
  rw [qaL, qfd, decide_eq_true_eq] at h0
  simp [q1L, h0]
 refine gg rfl ?_
 rw [qaL, qfd, decide_eq_false_iff_not] at h0
 refine q05 rfl (fun h1 => ?_) (fun h1 => ?_)
 ·repeat' (first
   | refine goP 800 rfl rfl ?_
   | refine q0e rfl ?_ | refine q0j rfl ?_ | refine q05 rfl (fun _ => ?_) (fun _ => ?_)
   | refine q0g rfl ?_ | refine q0m rfl ?_ | refine q02 rfl (fun _ => ?_) (fun _ => ?_)
   | refine q0G rfl (fun _ => ?_) (fun _ => ?_)
   | refine q08 rfl rfl rfl trivial ?_)
  rw [q06] at h1
  have : 24 < s.size := by omega
  simp [q1L, this]
 refine gg rfl ?_
 rw [q07] at h1
 refine q05 rfl (fun h2 => ?_) (fun h2 => ?_)
 ·repeat' (first
   | refine goP 800 rfl rfl ?_
   | refine q0e rfl ?_ | refine q0j rfl ?_ | refine q05 rfl (fun _ => ?_) (fun _ => ?_)
   | refine q0g rfl ?_ | refine q0m rfl ?_ | refine q02 rfl (fun _ => ?_) (fun _ => ?_)
   | refine q0G rfl (fun _ => ?_) (fun _ => ?_)
   | refine q08 rfl rfl rfl trivial ?_)
  rw [qfb] at h2
  simp [q1L, h2]
 refine gg rfl ?_
 rw [qfb] at h2
 refine q05 rfl (fun h3 => ?_) (fun h3 => ?_)
 ·repeat' (first
   | refine goP 800 rfl rfl ?_
   | refine q0e rfl ?_ | refine q0j rfl ?_ | refine q05 rfl (fun _ => ?_) (fun _ => ?_)
   | refine q0g rfl ?_ | refine q0m rfl ?_ | refine q02 rfl (fun _ => ?_) (fun _ => ?_)
   | refine q0G rfl (fun _ => ?_) (fun _ => ?_)
   | refine q08 rfl rfl rfl trivial ?_)
  rw [qfc] at h3
  simp [q1L, h3]
 refine gg rfl ?_
 rw [qfc] at h3
 have key : ∀ b, (decide (∀ i, i < s.size → q7C i (q23 s i).toNat = true)) = b → q1L s = b := by
  intro b hb
  rw [q1L, hb, h2, h3]
  rw [show decide (s.size = 0) = false by rw [decide_eq_false_iff_not]; omega, show decide (24 < s.size) = false by rw [decide_eq_false_iff_not]; omega]
  simp
 have no : ∀ k, k < s.size → q7C k (q23 s k).toNat = false → q1L s = false := by
  intro k hk hc
  refine key false ?_
  simp
  exact ⟨k, hk, hc⟩
 have h00 : 0 < s.size := by omega
 refine q1U 0 rfl rfl rfl (q6w h00) (gg rfl (q05 rfl (fun h4 => ?_) (fun h4 => ?_)))
 ·repeat' (first
   | refine goP 800 rfl rfl ?_
   | refine q0e rfl ?_ | refine q0j rfl ?_ | refine q05 rfl (fun _ => ?_) (fun _ => ?_)
   | refine q0g rfl ?_ | refine q0m rfl ?_ | refine q02 rfl (fun _ => ?_) (fun _ => ?_)
   | refine q0G rfl (fun _ => ?_) (fun _ => ?_)
   | refine q08 rfl rfl rfl trivial ?_)
  rw [q06] at h4
  rw [no 0 h00 (by simp [q7C]; omega)]
 refine gg rfl ?_
 rw [q07] at h4
 refine q1U 0 rfl rfl rfl (q6w h00) (gg rfl (q02 rfl (fun h5 => ?_) (fun h5 => ?_)))
 ·repeat' (first
   | refine goP 800 rfl rfl ?_
   | refine q0e rfl ?_ | refine q0j rfl ?_ | refine q05 rfl (fun _ => ?_) (fun _ => ?_)
   | refine q0g rfl ?_ | refine q0m rfl ?_ | refine q02 rfl (fun _ => ?_) (fun _ => ?_)
   | refine q0G rfl (fun _ => ?_) (fun _ => ?_)
   | refine q08 rfl rfl rfl trivial ?_)
  rw [q06] at h5
  rw [no 0 h00 (by simp [q7C]; omega)]
 refine gg rfl ?_
 rw [q07] at h5
 refine q0q (S := fun k : Nat => ([.str s, q00 k], [none, none], [0, 0])) (C := fun k => k ≤ s.size ∧ ∀ i, i < k → q7C i (q23 s i).toNat = true) (m := fun k => s.size - k) 0 ⟨by omega, fun i hi => by omega⟩ (by omega) ?_ ?_
 ·exact q03 rfl trivial (by simp [q00])
 intro k ⟨hk, hall⟩ N hN
 refine gg rfl (q02 rfl (fun g1 => ?_) (fun g1 => ?_))
 ·rw [q06] at g1
  have hlt : k < s.size := by omega
  have w1 := wS (n := k)
  have yes : q7C k (q23 s k).toNat = true → ∀ {t : q0u} {h : q0f} {z : Frz} {nx : Nat}, (q0Z 0 [(0, 0), (3, 0)] t h z nx fun _ _ kp => kp = ([.str s, q00 ((k + 1 : Nat) : Int)], [none, none], [0, 0])) → N t h z nx := by
   intro hc t h z nx hst
   refine hN (k + 1) ⟨by omega, fun i hi => ?_⟩ (by omega) hst
   by_cases hik : i < k
   ·exact hall i hik
   obtain rfl : i = k := by omega
   exact hc
  have no' := no k hlt
  have k0 : k = 0 → 97 ≤ (q23 s k).toNat ∧ (q23 s k).toNat ≤ 122 := by intro e; subst e; omega
  clear hN no key hall h4 h5 h2 h3
  refine gg rfl ?_
  repeat' (first
   | refine goP 800 rfl rfl ?_
   | refine q0e rfl ?_ | refine q0j rfl ?_ | refine q05 rfl (fun _ => ?_) (fun _ => ?_)
   | refine q0g rfl ?_ | refine q0m rfl ?_ | refine q02 rfl (fun _ => ?_) (fun _ => ?_)
   | refine q0G rfl (fun _ => ?_) (fun _ => ?_)
   | refine q08 rfl rfl rfl trivial ?_
   | refine q1U k rfl rfl rfl (q6w hlt) ?_
   | refine q01 rfl rfl (qlx _) ?_)
  all_goals refine q04 ?_
  all_goals generalize (q23 s k).toNat = c at *
  all_goals simp only [q1H, q1I, q2i, q3Q, q4G, decide_eq_true_eq, decide_eq_false_iff_not, Bool.not_eq_true, Bool.not_eq_false, Int.not_lt, Int.not_le] at *
  all_goals first
   | (refine yes ?_ (q03 rfl trivial (by simp [q00, w1]))
      simp_all [q7C, q4G]
      try omega)
   | (refine gg rfl ?_
      refine q08 rfl rfl rfl trivial ?_
      rw [no']
      simp_all [q7C, q4G]
      try omega)
 rw [q07] at g1
 refine gg rfl (q04 (gg rfl (q08 rfl rfl rfl trivial ?_)))
 rw [key true (by simp; exact fun i hi => hall i (by omega))]
theorem qly : PU q5t [.int .i64 2] = some (.tup [.int .i64 0, .int .i64 0]) := by
 refine q0h (fn := q5j) rfl (q0c ?_)
 repeat' (first
  | refine goP 800 rfl rfl ?_
  | refine q0e rfl ?_ | refine q0j rfl ?_ | refine q05 rfl (fun _ => ?_) (fun _ => ?_)
  | refine q0g rfl ?_ | refine q0m rfl ?_ | refine q02 rfl (fun _ => ?_) (fun _ => ?_)
  | refine q0G rfl (fun _ => ?_) (fun _ => ?_)
  | refine q08 rfl rfl rfl trivial ?_)
 all_goals simp_all [eqb]
theorem qiB : PU q73 [.agg [.bool false, .lst [], .lst []], .agg [.bool false, .lst [], .lst []]] = some (.int .i64 0) := qoo (n := 30) (by kernel_rfl)
def qsw (s : ByteArray) : D := .agg [.int .i64 2, .bool false, .lst [], .lst [], .str s, .lst []]
theorem qsx (s : ByteArray) : PU qbn [qsw s] = some (.bool (q1L s)) := by
 refine q0h (fn := q7n) rfl (q0c ?_)
 repeat' (first
  | refine goP 800 rfl rfl ?_
  | refine q0e rfl ?_ | refine q0j rfl ?_ | refine q05 rfl (fun _ => ?_) (fun _ => ?_)
  | refine q0g rfl ?_ | refine q0m rfl ?_ | refine q02 rfl (fun _ => ?_) (fun _ => ?_)
  | refine q0G rfl (fun _ => ?_) (fun _ => ?_)
  | refine q08 rfl rfl rfl trivial ?_
  | refine q01 rfl rfl (qly) ?_
  | refine q01 rfl rfl (qqK s) ?_
  | refine q01 rfl rfl (qiB) ?_)
 all_goals simp_all [ltb, eqb]
end Go.F

namespace Go.F
attribute [local irreducible] IntKind.wrap wpM
theorem qgo (s : ByteArray) : PU q7v [qsw s, .int .i64 1] = some (.int .i64 (if q1L s then 0 else 1)) := by
 refine q0h (fn := q7j) rfl (q0c ?_)
 refine gg rfl (q02 rfl (fun h => ?_) (fun h => ?_))
 ·exact absurd h (by simp [ltb])
 refine gg rfl (q01 rfl rfl (qsx s) (gg rfl (q02 rfl (fun h1 => ?_) (fun h1 => ?_))))
 ·repeat' (first
   | refine goP 800 rfl rfl ?_
   | refine q0e rfl ?_ | refine q0j rfl ?_ | refine q05 rfl (fun _ => ?_) (fun _ => ?_)
   | refine q0g rfl ?_ | refine q0m rfl ?_ | refine q02 rfl (fun _ => ?_) (fun _ => ?_)
   | refine q0G rfl (fun _ => ?_) (fun _ => ?_)
   | refine q08 rfl rfl rfl trivial ?_)
  simp at h1
  simp [h1]
 refine gg rfl (q0q (S := fun _ : Unit => ([.int .i64 1, .lst [], .int .i64 0, .int .i64 0], [none, none, none, none], [0, 0, 0, 0])) (C := fun _ => True) (m := fun _ => 0) () trivial (by decide) ?_ ?_)
 ·exact q03 rfl trivial (by simp)
 intro _ _ N hN
 repeat' (first
  | refine goP 800 rfl rfl ?_
  | refine q0e rfl ?_ | refine q0j rfl ?_ | refine q05 rfl (fun _ => ?_) (fun _ => ?_)
  | refine q0g rfl ?_ | refine q0m rfl ?_ | refine q02 rfl (fun _ => ?_) (fun _ => ?_)
  | refine q0G rfl (fun _ => ?_) (fun _ => ?_)
  | refine q08 rfl rfl rfl trivial ?_)
 ·exact absurd ‹ltb _ _ = true› (by simp [ltb])
 refine q04 (gg rfl (q08 rfl rfl rfl trivial ?_))
 simp at h1
 simp [h1]
theorem qa1 (s : ByteArray) : PU q51 [qsw s] = some (.int .i64 (if q1L s then 0 else 1)) := by
 refine q0h (fn := q7h) rfl (q0c ?_)
 refine gg rfl (q01 rfl rfl (qgo s) ?_)
 repeat' (first
  | refine goP 800 rfl rfl ?_
  | refine q0e rfl ?_ | refine q0j rfl ?_ | refine q05 rfl (fun _ => ?_) (fun _ => ?_)
  | refine q0g rfl ?_ | refine q0m rfl ?_ | refine q02 rfl (fun _ => ?_) (fun _ => ?_)
  | refine q0G rfl (fun _ => ?_) (fun _ => ?_)
  | refine q08 rfl rfl rfl trivial ?_)
 rfl
theorem qfe (s : ByteArray) : PU qa3 [.str s] = some (.bool (q1L s)) := by
 refine q0h (fn := q6k) rfl (q0c ?_)
 refine gg rfl (q01 rfl rfl (qa1 s) ?_)
 repeat' (first
  | refine goP 800 rfl rfl ?_
  | refine q0e rfl ?_ | refine q0j rfl ?_ | refine q05 rfl (fun _ => ?_) (fun _ => ?_)
  | refine q0g rfl ?_ | refine q0m rfl ?_ | refine q02 rfl (fun _ => ?_) (fun _ => ?_)
  | refine q0G rfl (fun _ => ?_) (fun _ => ?_)
  | refine q08 rfl rfl rfl trivial ?_)
 cases q1L s <;> simp [eqb]
def q0F (f : Nat → Int) : Nat → Int
 | 0 => 0
 | k + 1 => if q0F f k = 0 then f k else q0F f k
theorem q5C {f : Nat → Int} {k n : Nat} (h0 : q0F f k = 0) (h1 : f k ≠ 0) (h : k < n) : q0F f n = f k := by
 induction n with
 | zero => omega
 | succ n ih =>
   rw [q0F]
   by_cases hk : k < n
   ·rw [ih hk, if_neg h1]
   obtain rfl : k = n := by omega
   rw [if_pos h0]
theorem q3L {f : Nat → Int} {k : Nat} (h0 : q0F f k = 0) (h1 : f k = 0) : q0F f (k + 1) = 0 := by
 rw [q0F, if_pos h0, h1]
theorem q1B {f : Nat → Int} {n k : Nat} (h0 : q0F f n = 0) (h : k < n) : f k = 0 := by
 induction n with
 | zero => omega
 | succ n ih =>
   rw [q0F] at h0
   split at h0
   ·rename_i h2
    by_cases hk : k < n
    ·exact ih h2 hk
    obtain rfl : k = n := by omega
    exact h0
   rename_i h2; exact absurd h0 h2
def eg (l : List Edge) (i : Nat) : Edge := l.getD i ⟨⟨#[]⟩, []⟩
theorem q24 {l : List Edge} {i : Nat} (h : i < l.length) : (l.map Edge.enc)[i]? = some (eg l i).enc := by simp [eg, h]
theorem q8s {l : List Edge} {i : Nat} (h : i < l.length) : eg l i = l[i] := by simp [eg, h]
def qex (l : List Edge) (i : Nat) : Bool := (List.range i).any fun j => (eg l j).name.toList == (eg l i).name.toList
theorem qiC {l : List Edge} {i j : Nat} (hj : j < i) (h : (eg l j).name.toList == (eg l i).name.toList) : qex l i = true :=
 List.any_eq_true.2 ⟨j, List.mem_range.2 hj, h⟩
theorem qkw {l : List Edge} {i : Nat} (h : ∀ j, j < i → ((eg l j).name.toList == (eg l i).name.toList) = false) : qex l i = false := by
 unfold qex
 rw [List.any_eq_false]
 intro j hj
 rw [h j (List.mem_range.1 hj)]
 decide
def q1v (l : List Edge) (i : Nat) : Int :=
 if q1L (eg l i).name = false then 1 else if qex l i then 7 else q1Y (eg l i).line
def q37 (l : List Edge) (i : Nat) : Int :=
 if pt (eg l i).line ((eg l i).line.length - 1) = pt (eg l ((i + 1) % l.length)).line 0 then 0 else 11
def q0Q (l : List Edge) : Int :=
 if 16 < l.length then 5 else if l.length < 2 then 11
 else if q0F (q1v l) l.length = 0 then
  if q0F (q37 l) l.length = 0 then q2y (q0s l) else q0F (q37 l) l.length
 else q0F (q1v l) l.length
theorem q3M {p : List Spot} (h : q1Y p = 0) : 2 ≤ p.length ∧ p.length ≤ 40 ∧ (∀ s ∈ p, q0v s 1048576 = true) := by
 unfold q1Y at h
 split at h
 ·cases h
 split at h
 ·cases h
 split at h
 ·cases h
 rename_i h1 h2 h3
 exact ⟨by omega, by omega, by simpa using h3⟩
theorem q5o {l : List Edge} {i : Nat} (h : q1v l i = 0) : q1Y (eg l i).line = 0 := by
 unfold q1v at h
 split at h
 ·cases h
 split at h
 ·cases h
 exact h
theorem qh1 {l : List Edge} {m : Nat} (h : ∀ e ∈ l, e.line.length ≤ m) : (q0s l).length ≤ l.length * m := by
 induction l with
 | nil => simp [q0s]
 | cons e l ih =>
   have h1 := ih fun e he => h e (List.mem_cons_of_mem _ he)
   have h2 := h e List.mem_cons_self
   have : q0s (e :: l) = e.line.dropLast ++ q0s l := rfl
   rw [this, List.length_append, List.length_dropLast, List.length_cons, Nat.succ_mul]
   omega
theorem qoE {l : List Edge} {e : Edge} (h : e ∈ l) : ∃ i, i < l.length ∧ eg l i = e := by
 obtain ⟨i, hi, rfl⟩ := List.getElem_of_mem h
 exact ⟨i, hi, q8s hi⟩
set_option maxHeartbeats 2000000 in
theorem q6x (l : List Edge) : PU q4Y [edges l] = some (.int .i64 (q0Q l)) := by
 refine q0h (fn := q7d) rfl (q0c ?_)
 refine gg rfl (q02 rfl (fun h1 => ?_) (fun h1 => ?_))
 ·refine gg rfl (q08 rfl rfl rfl trivial ?_)
  rw [q06, List.length_map] at h1
  rw [q0Q, if_pos (by omega)]
 refine gg rfl ?_
 rw [q07, List.length_map] at h1
 refine q02 rfl (fun h2 => ?_) (fun h2 => ?_)
 ·refine gg rfl (q08 rfl rfl rfl trivial ?_)
  rw [q06, List.length_map] at h2
  rw [q0Q, if_neg (by omega), if_pos (by omega)]
 refine gg rfl ?_
 rw [q07, List.length_map] at h2
 have hcells : (l.map Edge.enc).all (fun d => d.cells.length == 2) = true := q1X (f := Edge.enc) (n := 2) (fun _ => rfl) l
 refine q0q (S := fun k : Nat => ([edges l, edges l, q00 l.length, q00 k], [none, none, none, none], [0, 0, 0, 0])) (C := fun k => k ≤ l.length ∧ q0F (q1v l) k = 0) (m := fun k => l.length - k) 0 ⟨by omega, rfl⟩ (by omega) ?_ ?_
 ·exact q03 rfl trivial (by simp [edges, q00])
 intro k ⟨hk, hall⟩ N hN
 refine gg rfl (q02 rfl (fun g1 => ?_) (fun g1 => ?_))
 ·rw [q06] at g1
  have hlt : k < l.length := by omega
  have w1 := wS (n := k)
  have yes : q1v l k = 0 → ∀ {t : q0u} {h : q0f} {z : Frz} {nx : Nat}, (q0Z 0 [(0, 0), (17, 0), (18, 0), (19, 0)] t h z nx fun _ _ kp => kp = ([edges l, edges l, q00 l.length, q00 ((k + 1 : Nat) : Int)], [none, none, none, none], [0, 0, 0, 0])) → N t h z nx :=
   fun hc {t h z nx} hst => hN (k + 1) ⟨by omega, q3L hall hc⟩ (by omega) hst
  have no : q1v l k ≠ 0 → q0Q l = q1v l k := by
   intro hc
   have := q5C hall hc hlt
   rw [q0Q, if_neg (by omega), if_neg (by omega), if_neg (by rw [this]; exact hc), this]
  clear hN
  refine gg rfl (q0k k rfl rfl rfl (q24 hlt) rfl (gg rfl (q01 rfl rfl (qfe (eg l k).name) (gg rfl (q02 rfl (fun g2 => ?_) (fun g2 => ?_))))))
  ·refine gg rfl (q04 (gg rfl (q08 rfl rfl rfl trivial ?_)))
   have : q1v l k = 1 := by rw [q1v, if_pos (by simpa using g2)]
   rw [no (by rw [this]; decide), this]
  have g2' : ¬ q1L (eg l k).name = false := by simpa using g2
  refine gg rfl (qdM k rfl hcells ⟨_, _, rfl, rfl⟩ (by simp; omega) ?_)
  refine gg rfl ?_
  refine q0q (S := fun j : Nat => ([edges l, .ptr 1 0 0, edges l, q00 l.length, q00 k, edges (l.take k), q00 k, q00 j], [none, some (.row [(eg l k).enc] 2), none, none, none, none, none, none], [0, 0, 0, 0, 0, 0, 0, 0]))
   (C := fun j => j ≤ k ∧ ∀ i, i < j → ((eg l i).name.toList == (eg l k).name.toList) = false) (m := fun j => k - j) 0 ⟨by omega, fun i hi => by omega⟩ (by omega) ?_ ?_
  ·exact q03 rfl ⟨rfl, trivial⟩ (by simp [edges, q00, q0o, Edge.enc, List.map_take, Nat.min_eq_left (Nat.le_of_lt hlt)])
  intro j ⟨hj, hno⟩ N2 hN2
  refine gg rfl (q02 rfl (fun e1 => ?_) (fun e1 => ?_))
  ·rw [q06] at e1
   have hjk : j < k := by omega
   have wj := wS (n := j)
   have hj2 : ((l.take k).map Edge.enc)[j]? = some (eg l j).enc := by
    rw [List.map_take, List.getElem?_take, if_pos hjk]; exact q24 (by omega)
   refine gg rfl (q0k j rfl rfl rfl hj2 rfl (gg rfl (q02 rfl (fun e2 => ?_) (fun e2 => ?_))))
   ·refine gg rfl (q04 (gg rfl (q04 (gg rfl (q08 rfl rfl rfl trivial ?_)))))
    have : q1v l k = 7 := by rw [q1v, if_neg g2', if_pos (qiC hjk e2)]
    rw [no (by rw [this]; decide), this]
   refine gg rfl (q04 (hN2 (j + 1) ⟨by omega, fun i hi => ?_⟩ (by omega) (q03 rfl ⟨rfl, trivial⟩ (by simp [edges, q00, q0o, Edge.enc, wj]))))
   by_cases hij : i < j
   ·exact hno i hij
   obtain rfl : i = j := by omega
   exact e2
  rw [q07] at e1
  clear hN2
  refine gg rfl (q04 (gg rfl ?_))
  have hnb : qex l k = false := qkw fun i hi => hno i (by omega)
  have hee : q1v l k = q1Y (eg l k).line := by rw [q1v, if_neg g2', if_neg (by rw [hnb]; decide)]
  refine q01 rfl rfl (q92 (eg l k).line) (gg rfl (q02 rfl (fun g3 => ?_) (fun g3 => ?_)))
  ·rw [q0z, ← hee] at g3
   refine gg rfl (q04 (gg rfl (q08 rfl rfl rfl trivial ?_)))
   rw [no g3, hee]
  rw [q0A, ← hee] at g3
  exact gg rfl (q04 (yes g3 (q03 rfl trivial (by simp [edges, q00, w1]))))
 rw [q07] at g1
 obtain rfl : k = l.length := by omega
 clear hN hk g1
 have hln : ∀ i, i < l.length → 2 ≤ (eg l i).line.length ∧ (eg l i).line.length ≤ 40 ∧ _ := fun i hi => q3M (q5o (q1B hall hi))
 refine gg rfl (q04 (gg rfl (q0q (S := fun k : Nat => ([edges l, edges l, q00 l.length, q00 k], [none, none, none, none], [0, 0, 0, 0])) (C := fun k => k ≤ l.length ∧ q0F (q37 l) k = 0) (m := fun k => l.length - k) 0 ⟨by omega, rfl⟩ (by omega) ?_ ?_)))
 ·exact q03 rfl trivial (by simp [edges, q00])
 intro k ⟨hk, hjo⟩ N hN
 refine gg rfl (q02 rfl (fun g1 => ?_) (fun g1 => ?_))
 ·rw [q06] at g1
  have hlt : k < l.length := by omega
  have hlt2 : (k + 1) % l.length < l.length := Nat.mod_lt _ (by omega)
  have w1 := wS (n := k)
  have a1 := hln k hlt
  have a2 := hln _ hlt2
  have w2 : IntKind.i64.wrap (((eg l k).line.length : Int) - 1) = (((eg l k).line.length - 1 : Nat) : Int) := by rw [wrap64 (by omega) (by omega)]; omega
  refine gg rfl (q0k k rfl rfl rfl (q24 hlt) rfl (gg rfl (q4R rfl rfl (by rw [List.length_map]; omega) ?_)))
  refine gg rfl (q0k ((k + 1) % l.length) rfl rfl (by rw [w1, List.length_map, q1K]) (q24 hlt2) rfl ?_)
  refine gg rfl (q0k ((eg l k).line.length - 1) rfl rfl (by rw [List.length_map]; exact w2) (q0T (by omega)) rfl ?_)
  refine gg rfl (q0k 0 rfl rfl rfl (q0T (by omega)) rfl ?_)
  refine gg rfl (q02 rfl (fun g2 => ?_) (fun g2 => ?_))
  ·refine gg rfl (q04 (gg rfl (q08 rfl rfl rfl trivial ?_)))
   rw [q1o] at g2
   have : q37 l k = 11 := by rw [q37, if_neg (by simpa using g2)]
   have h11 := q5C hjo (by rw [this]; decide) hlt
   rw [q0Q, if_neg (by omega), if_neg (by omega), if_pos hall, if_neg (by rw [h11, this]; decide), h11, this]
  refine gg rfl (q04 ?_)
  rw [q1o] at g2
  have : q37 l k = 0 := by rw [q37, if_pos (by simpa using g2)]
  refine hN (k + 1) ⟨by omega, q3L hjo this⟩ (by omega) (q03 rfl trivial (by simp [edges, q00, w1]))
 rw [q07] at g1
 obtain rfl : k = l.length := by omega
 refine gg rfl (q04 (gg rfl ?_))
 have hb : ∀ e ∈ l, 1 ≤ e.line.length ∧ e.line.length ≤ 40 := by
  intro e he
  obtain ⟨i, hi, rfl⟩ := qoE he
  have := hln i hi
  exact ⟨by omega, by omega⟩
 have hv := qh1 (m := 40) fun e he => (hb e he).2
 refine q01 rfl rfl (qgZ l (fun e he => ⟨(hb e he).1, by have := (hb e he).2; omega⟩) (by omega) (by omega)) ?_
 refine gg rfl (q01 rfl rfl (q4r (q0s l)) (gg rfl (q08 rfl rfl rfl trivial ?_)))
 rw [q0Q, if_neg (by omega), if_neg (by omega), if_pos hall, if_pos hjo]
theorem q1w {l : List Edge} (h : q0Q l = 0) : 2 ≤ l.length ∧ l.length ≤ 16 ∧ q0F (q1v l) l.length = 0 ∧ q0F (q37 l) l.length = 0 ∧ q2y (q0s l) = 0 := by
 unfold q0Q at h
 split at h
 ·cases h
 split at h
 ·cases h
 split at h
 ·split at h
  ·exact ⟨by omega, by omega, ‹_›, ‹_›, h⟩
  exact absurd h ‹_›
 exact absurd h ‹_›
theorem q20 {l : List Edge} (h : q0Q l = 0) : ∀ e ∈ l, 2 ≤ e.line.length ∧ e.line.length ≤ 40 := by
 intro e he
 obtain ⟨i, hi, rfl⟩ := qoE he
 have := q3M (q5o (q1B (q1w h).2.2.1 hi))
 exact ⟨this.1, this.2.1⟩
def qcw (l : List Edge) : D := if q0Q l = 0 then .tup [q0o (q0s l), .int .i64 0] else .tup [.lst [], .int .i64 (q0Q l)]
theorem q8t (l : List Edge) : PU q62 [edges l] = some (qcw l) := by
 refine q0h (fn := q5O) rfl (q0c ?_)
 refine gg rfl (q01 rfl rfl (q6x l) (gg rfl (q02 rfl (fun h => ?_) (fun h => ?_))))
 ·rw [q0z] at h
  refine gg rfl (q08 rfl rfl rfl trivial ?_)
  rw [qcw, if_neg h]
 rw [q0A] at h
 have hb := q20 h
 have := q1w h
 have hv := q2v this.2.2.2.2
 refine gg rfl (q01 rfl rfl (qgZ l (fun e he => ⟨by have := hb e he; omega, by have := hb e he; omega⟩) (by omega) (by omega)) ?_)
 refine gg rfl (q08 rfl rfl rfl trivial ?_)
 rw [qcw, if_pos h, q0o]
end Go.F

namespace Go.F
structure Ntc where
 edge : Int
 at_ : Int
 deriving DecidableEq
def Ntc.enc (n : Ntc) : D := .agg [.int .i64 n.edge, .int .i64 n.at_]
def qpt (l : List Ntc) : D := .lst (l.map Ntc.enc)
structure Piece where
 name : ByteArray
 edges : List Edge
 grain : Int
 notches : List Ntc
 corners : List Spot
 widths : List Int
 match_ : Bool
def Piece.enc (p : Piece) : D := .agg [.str p.name, Go.F.edges p.edges, .int .i64 p.grain, qpt p.notches, q0o p.corners, ints p.widths, .bool p.match_]
def pieces (l : List Piece) : D := .lst (l.map Piece.enc)
structure Use where
 piece : Int
 count : Int
 pair : Bool
def Use.enc (u : Use) : D := .agg [.int .i64 u.piece, .int .i64 u.count, .bool u.pair]
def uses (l : List Use) : D := .lst (l.map Use.enc)
structure Sew where
 pa : Int
 ea : Int
 pb : Int
 eb : Int
 rev : Bool
 ease : Int
def Sew.enc (s : Sew) : D := .agg [.int .i64 s.pa, .int .i64 s.ea, .int .i64 s.pb, .int .i64 s.eb, .bool s.rev, .int .i64 s.ease]
def sews (l : List Sew) : D := .lst (l.map Sew.enc)
structure Opn where
 name : ByteArray
 machine : Int
 minutes : Int
 after : List Int
 uses : List Int
def Opn.enc (o : Opn) : D := .agg [.str o.name, .int .i64 o.machine, .int .i64 o.minutes, ints o.after, ints o.uses]
def opns (l : List Opn) : D := .lst (l.map Opn.enc)
def strs (l : List ByteArray) : D := .lst (l.map .str)
structure Sty where
 name : ByteArray
 sizes : List ByteArray
 mults : List Int
 pieces : List Piece
 uses : List Use
 seams : List Sew
 ops : List Opn
def Sty.enc (s : Sty) : D := .agg [.str s.name, strs s.sizes, ints s.mults, Go.F.pieces s.pieces, Go.F.uses s.uses, sews s.seams, opns s.ops]
def pc (l : List Piece) (i : Nat) : Piece := l.getD i ⟨⟨#[]⟩, [], 0, [], [], [], false⟩
theorem q7z {l : List Piece} {i : Nat} (h : i < l.length) : pc l i = l[i] := by simp [pc, h]
theorem qeL {l : List Piece} {i : Nat} (h : i < l.length) : (l.map Piece.enc)[i]? = some (pc l i).enc := by simp [pc, h]
theorem qpu {l : List Piece} {i : Nat} (h : i < l.length) : pc l i ∈ l := by rw [q7z h]; exact List.getElem_mem _
def nt (l : List Ntc) (i : Nat) : Ntc := l.getD i ⟨0, 0⟩
theorem qtI {l : List Ntc} {i : Nat} (h : i < l.length) : nt l i = l[i] := by simp [nt, h]
theorem qvu {l : List Ntc} {i : Nat} (h : i < l.length) : (l.map Ntc.enc)[i]? = some (nt l i).enc := by simp [nt, h]
def us (l : List Use) (i : Nat) : Use := l.getD i ⟨0, 0, false⟩
theorem q9Q {l : List Use} {i : Nat} (h : i < l.length) : us l i = l[i] := by simp [us, h]
theorem qde {l : List Use} {i : Nat} (h : i < l.length) : (l.map Use.enc)[i]? = some (us l i).enc := by simp [us, h]
def sw (l : List Sew) (i : Nat) : Sew := l.getD i ⟨0, 0, 0, 0, false, 0⟩
theorem qvv {l : List Sew} {i : Nat} (h : i < l.length) : (l.map Sew.enc)[i]? = some (sw l i).enc := by simp [sw, h]
def sz (l : List ByteArray) (i : Nat) : ByteArray := l.getD i ⟨#[]⟩
theorem qjK {l : List ByteArray} {i : Nat} (h : i < l.length) : sz l i = l[i] := by simp [sz, h]
theorem qpv {l : List ByteArray} {i : Nat} (h : i < l.length) : (l.map D.str)[i]? = some (.str (sz l i)) := by simp [sz, h]
def mu (l : List Int) (i : Nat) : Int := l.getD i 0
theorem qvO {l : List Int} {i : Nat} (h : i < l.length) : mu l i = l[i] := by simp [mu, h]
theorem qpw {l : List Int} {i : Nat} (h : i < l.length) : (l.map q00)[i]? = some (q00 (mu l i)) := by simp [mu, h]
end Go.F

namespace Go.F
attribute [local irreducible] IntKind.wrap wpM
def qmi (n : Int) : Bool := decide (1048576 < n) || decide (n < -1048576)
theorem qpc (n : Int) : PU qds [.int .i64 n] = some (.bool (qmi n)) := by
 refine q0h (fn := qgd) rfl (q0c ?_)
 repeat' (first
  | refine goP 800 rfl rfl ?_
  | refine q0e rfl ?_ | refine q0j rfl ?_ | refine q05 rfl (fun _ => ?_) (fun _ => ?_)
  | refine q0g rfl ?_ | refine q0m rfl ?_ | refine q02 rfl (fun _ => ?_) (fun _ => ?_)
  | refine q0G rfl (fun _ => ?_) (fun _ => ?_)
  | refine q08 rfl rfl rfl trivial ?_)
 all_goals ((try simp only [q1H, q1I, q2i, q3Q, decide_eq_true_eq, decide_eq_false_iff_not, Bool.not_eq_true, Bool.not_eq_false, Int.not_lt, Int.not_le] at *); first | (simp_all [qmi]; done) | (simp_all [qmi]; omega) | (rw [D.bool.injEq, Bool.eq_iff_iff]; simp [qmi]; omega) | (rw [D.bool.injEq, Bool.eq_iff_iff]; simp_all [qmi]; omega) | (simp [qmi]; split <;> (try split) <;> omega))
theorem qpd (s : Spot) : (qmi s.x || qmi s.y) = !q0v s 1048576 := by
 rw [Bool.eq_iff_iff]
 simp [qmi, q0v]
 omega
theorem qpe (p : List Spot) (hp : p.length < 4611686018427387904) : PU qky [q0o p] = some (.bool (p.any fun s => !q0v s 1048576)) := by
 refine q0h (fn := qg6) rfl (q0c ?_)
 refine gg rfl (q0q (S := fun k : Nat => ([q0o p, q00 k], [none, none], [0, 0])) (C := fun k => k ≤ p.length ∧ ∀ i, i < k → (!q0v (pt p i) 1048576) = false) (m := fun k => p.length - k) 0 ⟨by omega, fun i hi => by omega⟩ (by omega) ?_ ?_)
 ·exact q03 rfl trivial (by simp [q0o, q00])
 intro k ⟨hk, hall⟩ N hN
 refine gg rfl (q02 rfl (fun g1 => ?_) (fun g1 => ?_))
 ·rw [q06, List.length_map] at g1
  have hlt : k < p.length := by omega
  have w1 := wS (n := k)
  have hfar := qpd (pt p k)
  have yes : (!q0v (pt p k) 1048576) = true → (p.any fun s => !q0v s 1048576) = true := by
   intro h
   rw [List.any_eq_true]
   exact ⟨pt p k, by rw [q11 hlt]; exact List.getElem_mem hlt, h⟩
  refine gg rfl ?_
  repeat' (first
   | refine goP 800 rfl rfl ?_
   | refine q0e rfl ?_ | refine q0j rfl ?_ | refine q05 rfl (fun _ => ?_) (fun _ => ?_)
   | refine q0g rfl ?_ | refine q0m rfl ?_ | refine q02 rfl (fun _ => ?_) (fun _ => ?_)
   | refine q0G rfl (fun _ => ?_) (fun _ => ?_)
   | refine q08 rfl rfl rfl trivial ?_
   | refine q0k k rfl rfl rfl (q0T hlt) rfl ?_
   | refine q01 rfl rfl (qpc _) ?_)
  ·refine q04 (gg rfl (q08 rfl rfl rfl trivial ?_))
   rw [yes]
   simp_all
  ·refine q04 (gg rfl (q08 rfl rfl rfl trivial ?_))
   rw [yes]
   simp_all
  refine q04 (hN (k + 1) ⟨by omega, fun i hi => ?_⟩ (by omega) (q03 rfl trivial (by simp [q0o, q00, w1])))
  by_cases hik : i < k
  ·exact hall i hik
  obtain rfl : i = k := by omega
  rw [← hfar]
  simp_all
 rw [q07, List.length_map] at g1
 refine gg rfl (q04 (gg rfl (q08 rfl rfl rfl trivial ?_)))
 congr 1
 symm
 rw [List.any_eq_false]
 intro s hs
 obtain ⟨i, hi, rfl⟩ := List.getElem_of_mem hs
 rw [← q11 hi, hall i (by omega)]
 decide
theorem qmj (p : List Spot) : PU qcJ [q0o p] = some (.int .i64 (q1Y p)) := by
 refine q0h (fn := qc7) rfl (q0c ?_)
 refine gg rfl (q02 rfl (fun h1 => ?_) (fun h1 => ?_))
 ·refine gg rfl (q08 rfl rfl rfl trivial ?_)
  rw [q06, List.length_map] at h1
  rw [q1Y, if_pos (by omega)]
 refine gg rfl ?_
 rw [q07, List.length_map] at h1
 refine q02 rfl (fun h2 => ?_) (fun h2 => ?_)
 ·refine gg rfl (q08 rfl rfl rfl trivial ?_)
  rw [q06, List.length_map] at h2
  rw [q1Y, if_neg (by omega), if_pos (by omega)]
 refine gg rfl ?_
 rw [q07, List.length_map] at h2
 refine q01 rfl rfl (qpe p (by omega)) ?_
 refine gg rfl (q02 rfl (fun h3 => ?_) (fun h3 => ?_))
 ·refine gg rfl (q08 rfl rfl rfl trivial ?_)
  rw [q1Y, if_neg (by omega), if_neg (by omega), if_pos h3]
 refine gg rfl (q0q (S := fun k : Nat => ([q0o p, q00 k], [none, none], [0, 0])) (C := fun k => 1 ≤ k ∧ k ≤ p.length ∧ ∀ i, i + 1 < k → pt p i ≠ pt p (i + 1)) (m := fun k => p.length - k) 1 ⟨by omega, by omega, fun i hi => by omega⟩ (by omega) ?_ ?_)
 ·exact q03 rfl trivial (by simp [q0o, q00])
 intro k ⟨hk0, hk, hno⟩ N hN
 refine gg rfl (q02 rfl (fun g1 => ?_) (fun g1 => ?_))
 ·rw [q06, List.length_map] at g1
  have hlt : k < p.length := by omega
  have w1 := wS (n := k)
  have w2 : IntKind.i64.wrap ((k : Int) - 1) = ((k - 1 : Nat) : Int) := by rw [wrap64 (by omega) (by omega)]; omega
  have hk1 : k - 1 + 1 = k := by omega
  refine gg rfl (q0k k rfl rfl rfl (q0T hlt) rfl (gg rfl (q0k (k - 1) rfl rfl w2 (q0T (by omega)) rfl ?_)))
  refine gg rfl (q02 rfl (fun g2 => ?_) (fun g2 => ?_))
  ·refine gg rfl (q04 (gg rfl (q08 rfl rfl rfl trivial ?_)))
   rw [q1Y, if_neg (by omega), if_neg (by omega), if_neg (by rw [h3]; decide), if_neg]
   intro hall
   refine hall (k - 1) (by omega) ?_
   rw [q1o] at g2
   rw [hk1]
   exact (of_decide_eq_true g2).symm
  refine gg rfl (q04 (hN (k + 1) ⟨by omega, by omega, fun i hi => ?_⟩ (by omega) (q03 rfl trivial (by simp [q0o, q00, w1]))))
  by_cases hik : i + 1 < k
  ·exact hno i hik
  obtain rfl : i = k - 1 := by omega
  rw [q1o] at g2
  rw [hk1]
  exact fun e => of_decide_eq_false g2 e.symm
 rw [q07, List.length_map] at g1
 refine gg rfl (q04 (gg rfl (q08 rfl rfl rfl trivial ?_)))
 rw [q1Y, if_neg (by omega), if_neg (by omega), if_neg (by rw [h3]; decide), if_pos (fun i hi => hno i (by omega))]
theorem qe1 (s : Spot) : PU qaO [s.enc, .int .i64 1048576] = some (.bool (q0v s 1048576)) := by
 have w : IntKind.i64.wrap (0 - 1048576) = -1048576 := wrap64 (by decide) (by decide)
 refine q0h (fn := qas) rfl (q0c ?_)
 repeat' (first
  | refine goP 800 rfl rfl ?_
  | refine q0e rfl ?_ | refine q0j rfl ?_ | refine q05 rfl (fun _ => ?_) (fun _ => ?_)
  | refine q0g rfl ?_ | refine q0m rfl ?_ | refine q02 rfl (fun _ => ?_) (fun _ => ?_)
  | refine q0G rfl (fun _ => ?_) (fun _ => ?_)
  | refine q08 rfl rfl rfl trivial ?_)
 all_goals rw [D.bool.injEq, Bool.eq_iff_iff]
 all_goals simp only [q1H, q1I, w, decide_eq_true_eq, decide_eq_false_iff_not] at *
 all_goals simp [q0v]
 all_goals omega
theorem qhv (p q : List Spot) (hp : p.length < 4611686018427387904) : PU q6y [q0o p, q0o q] = some (.bool (decide (p = q))) := by
 refine q0h (fn := qe4) rfl (q0c ?_)
 refine gg rfl (q02 rfl (fun h1 => ?_) (fun h1 => ?_))
 ·refine gg rfl (q08 rfl rfl rfl trivial ?_)
  rw [q0z, List.length_map, List.length_map] at h1
  have : p ≠ q := by rintro rfl; exact h1 rfl
  simp [this]
 rw [q0A, List.length_map, List.length_map] at h1
 refine gg rfl (q0q (S := fun k : Nat => ([q0o p, q0o q, q00 k], [none, none, none], [0, 0, 0])) (C := fun k => k ≤ p.length ∧ ∀ i, i < k → pt p i = pt q i) (m := fun k => p.length - k) 0 ⟨by omega, fun i hi => by omega⟩ (by omega) ?_ ?_)
 ·exact q03 rfl trivial (by simp [q0o, q00])
 intro k ⟨hk, hall⟩ N hN
 refine gg rfl (q02 rfl (fun g1 => ?_) (fun g1 => ?_))
 ·rw [q06, List.length_map] at g1
  have hlt : k < p.length := by omega
  have w1 := wS (n := k)
  refine gg rfl (q0k k rfl rfl rfl (q0T hlt) rfl (gg rfl (q0k k rfl rfl rfl (q0T (by omega)) rfl ?_)))
  refine gg rfl (q02 rfl (fun g2 => ?_) (fun g2 => ?_))
  ·refine gg rfl (q04 (gg rfl (q08 rfl rfl rfl trivial ?_)))
   rw [q1o] at g2
   have : p ≠ q := by rintro rfl; simp at g2
   simp [this]
  refine gg rfl (q04 ?_)
  rw [q1o] at g2
  refine hN (k + 1) ⟨by omega, fun i hi => ?_⟩ (by omega) (q03 rfl trivial (by simp [q0o, q00, w1]))
  by_cases hik : i < k
  ·exact hall i hik
  obtain rfl : i = k := by omega
  simpa using g2
 rw [q07, List.length_map] at g1
 refine gg rfl (q04 (gg rfl (q08 rfl rfl rfl trivial ?_)))
 have : p = q := by
  refine List.ext_getElem (by omega) fun i hi1 hi2 => ?_
  rw [← q11 hi1, ← q11 hi2]; exact hall i (by omega)
 simp [this]
end Go.F

namespace Go.F
def q2D (p : List Spot) : Prop :=
 ∀ i, i < p.length → (pt p i ≠ pt p ((i + 1) % p.length) ∧ onS (pt p i) (pt p ((i + 1) % p.length)) (pt p ((i + 2) % p.length)) = false ∧ onS (pt p ((i + 1) % p.length)) (pt p ((i + 2) % p.length)) (pt p i) = false) ∧
   ∀ k, k < p.length → i + 2 ≤ k → (k + 1) % p.length ≠ i → q5B (pt p i) (pt p ((i + 1) % p.length)) (pt p k) (pt p ((k + 1) % p.length)) = false
instance (p : List Spot) : Decidable (q2D p) := by unfold q2D; exact inferInstance
theorem q6I (t : Int) : 0 ≤ t * t := by
 rcases Int.le_total 0 t with h | h
 ·exact Int.mul_nonneg h h
 exact Int.mul_nonneg_of_nonpos_of_nonpos h h
theorem qrp {ux uy vx vy : Int} (hc : ux * vy = uy * vx) (hd : 0 < ux * vx + uy * vy) : 0 ≤ ux * vx ∧ 0 ≤ uy * vy := by
 have e : (ux * vx) * (uy * vy) = (ux * vy) * (ux * vy) := by
  calc (ux * vx) * (uy * vy) = (ux * vy) * (uy * vx) := by ac_rfl
   _ = _ := by rw [← hc]
 have hn := q6I (ux * vy)
 rw [← e] at hn
 constructor
 ·refine Int.not_lt.1 fun h => ?_
  have := Int.mul_neg_of_neg_of_pos h (show 0 < uy * vy by omega)
  omega
 refine Int.not_lt.1 fun h => ?_
 have := Int.mul_neg_of_pos_of_neg (show 0 < ux * vx by omega) h
 omega
theorem qag {u v : Int} (hs : 0 ≤ u * v) (hl : v.natAbs ≤ u.natAbs) : min u 0 ≤ v ∧ v ≤ max u 0 := by
 rcases Int.lt_trichotomy v 0 with h | h | h
 ·have : u ≤ 0 := by
   refine Int.not_lt.1 fun h2 => ?_
   have := Int.mul_neg_of_pos_of_neg h2 h
   omega
  omega
 ·omega
 have : 0 ≤ u := by
  refine Int.not_lt.1 fun h2 => ?_
  have := Int.mul_neg_of_neg_of_pos h2 h
  omega
 omega
theorem qtd (a b c : Spot) : q1b a b c = (a.y - b.y) * (c.x - b.x) - (a.x - b.x) * (c.y - b.y) := by
 unfold q1b; grind
theorem qrq (a b c : Spot) : q1b b c a = q1b a b c := by unfold q1b; grind
theorem qdy {a b p : Spot} : onS a b p = true ↔ q1b a b p = 0 ∧ min a.x b.x ≤ p.x ∧ p.x ≤ max a.x b.x ∧ min a.y b.y ≤ p.y ∧ p.y ≤ max a.y b.y := by simp [onS]
theorem q9b {a b c : Spot} : q3r a b c = true ↔ q1b a b c = 0 ∧ 0 < (a.x - b.x) * (c.x - b.x) + (a.y - b.y) * (c.y - b.y) := by simp [q3r]
theorem qrr {a b c : Spot} (h : q3r a b c = true) : onS a b c = true ∨ onS b c a = true := by
 rw [q9b] at h
 obtain ⟨h1, h2⟩ := h
 have hc : (a.x - b.x) * (c.y - b.y) = (a.y - b.y) * (c.x - b.x) := by rw [qtd] at h1; omega
 obtain ⟨s1, s2⟩ := qrp hc h2
 have hn : (a.x - b.x).natAbs * (c.y - b.y).natAbs = (a.y - b.y).natAbs * (c.x - b.x).natAbs := by rw [← Int.natAbs_mul, ← Int.natAbs_mul, hc]
 rw [qdy, qdy, qrq a b c]
 by_cases hx : (c.x - b.x).natAbs ≤ (a.x - b.x).natAbs
 ·by_cases hy : (c.y - b.y).natAbs ≤ (a.y - b.y).natAbs
  ·left
   have := qag s1 hx
   have := qag s2 hy
   refine ⟨h1, ?_⟩
   omega
  by_cases hx' : (a.x - b.x).natAbs ≤ (c.x - b.x).natAbs
  ·right
   rw [Int.mul_comm] at s1 s2
   have := qag s1 hx'
   have := qag s2 (show (a.y - b.y).natAbs ≤ (c.y - b.y).natAbs by omega)
   refine ⟨h1, ?_⟩
   omega
  have := Nat.mul_lt_mul'' (Nat.lt_of_not_le hx') (Nat.lt_of_not_le hy)
  rw [Nat.mul_comm (c.x - b.x).natAbs] at this
  omega
 by_cases hy : (a.y - b.y).natAbs ≤ (c.y - b.y).natAbs
 ·right
  rw [Int.mul_comm] at s1 s2
  have := qag s1 (show (a.x - b.x).natAbs ≤ (c.x - b.x).natAbs by omega)
  have := qag s2 hy
  refine ⟨h1, ?_⟩
  omega
 have := Nat.mul_lt_mul'' (Nat.lt_of_not_le hx) (Nat.lt_of_not_le hy)
 rw [Nat.mul_comm (c.x - b.x).natAbs] at this
 omega
theorem qnx {u v : Int} (h : min u 0 ≤ v ∧ v ≤ max u 0) : 0 ≤ u * v := by
 rcases Int.le_total 0 u with h2 | h2
 ·exact Int.mul_nonneg h2 (by omega)
 exact Int.mul_nonneg_of_nonpos_of_nonpos h2 (by omega)
theorem qkZ {u v : Int} (h : min u 0 ≤ v ∧ v ≤ max u 0) (hv : v ≠ 0) : 0 < u * v := by
 rcases Int.lt_trichotomy v 0 with h2 | h2 | h2
 ·exact Int.mul_pos_of_neg_of_neg (by omega) h2
 ·exact absurd h2 hv
 exact Int.mul_pos (by omega) h2
theorem qum {a b : Spot} (h : a ≠ b) : a.x - b.x ≠ 0 ∨ a.y - b.y ≠ 0 := by
 by_cases hx : a.x = b.x
 ·by_cases hy : a.y = b.y
  ·exact absurd (by cases a; cases b; simp_all) h
  right; omega
 left; omega
theorem ql0 {a b c : Spot} (hcb : c ≠ b) (h : onS a b c = true) : q3r a b c = true := by
 rw [qdy] at h
 rw [q9b]
 refine ⟨h.1, ?_⟩
 have bx : min (a.x - b.x) 0 ≤ c.x - b.x ∧ c.x - b.x ≤ max (a.x - b.x) 0 := by omega
 have bY : min (a.y - b.y) 0 ≤ c.y - b.y ∧ c.y - b.y ≤ max (a.y - b.y) 0 := by omega
 have p1 := qnx bx
 have p2 := qnx bY
 rcases qum hcb with h2 | h2
 ·have := qkZ bx h2; omega
 have := qkZ bY h2; omega
theorem qp3 (a b c : Spot) : q3r a b c = q3r c b a := by
 rw [Bool.eq_iff_iff, q9b, q9b]
 have : q1b c b a = - q1b a b c := by unfold q1b; grind
 rw [this, Int.mul_comm (c.x - b.x), Int.mul_comm (c.y - b.y)]
 omega
theorem on_sym (a b c : Spot) : onS a b c = onS b a c := by
 rw [Bool.eq_iff_iff, qdy, qdy]
 have : q1b b a c = - q1b a b c := by unfold q1b; grind
 rw [this]
 omega
theorem on_end (a b : Spot) : onS a b a = true := by
 rw [qdy]
 refine ⟨by unfold q1b; grind, ?_⟩
 omega
theorem qjo {p : List Spot} {i : Nat} (hi : i < p.length) : pt p i ∈ p.take i ↔ ∃ j, j < i ∧ pt p j = pt p i := by
 rw [List.mem_take_iff_getElem]
 constructor
 ·rintro ⟨j, hj, e⟩
  exact ⟨j, by omega, by rw [q11 (by omega)]; exact e⟩
 rintro ⟨j, hj, e⟩
 exact ⟨j, by omega, by rw [← e, q11 (by omega)]⟩
theorem mod1 {n i : Nat} (hi : i < n) : (i + 1) % n = if i + 1 = n then 0 else i + 1 := by
 split
 ·rename_i h; rw [h]; simp
 exact Nat.mod_eq_of_lt (by omega)
theorem mod2 {n i : Nat} (h3 : 3 ≤ n) (hi : i < n) : (i + 2) % n = if i + 2 < n then i + 2 else i + 2 - n := by
 split
 ·rename_i h; exact Nat.mod_eq_of_lt h
 rw [Nat.mod_eq_sub_mod (by omega), Nat.mod_eq_of_lt (by omega)]
theorem qjp {p : List Spot} (h3 : 3 ≤ p.length) : q3X p ↔ q2D p := by
 constructor
 ·rintro ⟨hd, hs⟩ i hi
  have inj : ∀ {j k}, j < p.length → k < p.length → j ≠ k → pt p j ≠ pt p k := by
   intro j k hj hk hne e
   rcases Nat.lt_or_gt_of_ne hne with h | h
   ·exact hd k hk ((qjo hk).2 ⟨j, h, e⟩)
   exact hd j hj ((qjo hj).2 ⟨k, h, e.symm⟩)
  have m1 := mod1 hi
  have m2 := mod2 h3 hi
  have l1 : (i + 1) % p.length < p.length := Nat.mod_lt _ (by omega)
  have l2 : (i + 2) % p.length < p.length := Nat.mod_lt _ (by omega)
  have n01 : pt p i ≠ pt p ((i + 1) % p.length) := inj hi l1 (by rw [m1]; split <;> omega)
  have n12 : pt p ((i + 2) % p.length) ≠ pt p ((i + 1) % p.length) := inj l2 l1 (by rw [m1, m2]; split <;> split <;> omega)
  obtain ⟨hf, hm⟩ := hs i hi
  refine ⟨⟨n01, ?_, ?_⟩, hm⟩
  ·cases ho : onS (pt p i) (pt p ((i + 1) % p.length)) (pt p ((i + 2) % p.length))
   ·rfl
   rw [ql0 n12 ho] at hf; cases hf
  cases ho : onS (pt p ((i + 1) % p.length)) (pt p ((i + 2) % p.length)) (pt p i)
  ·rfl
  rw [on_sym] at ho
  rw [qp3, ql0 n01 ho] at hf; cases hf
 intro hr
 refine ⟨fun i hi hm => ?_, fun i hi => ⟨?_, (hr i hi).2⟩⟩
 ·obtain ⟨j, hj, e⟩ := (qjo hi).1 hm
  have hjl : j < p.length := by omega
  have m1 := mod1 hjl
  have m1' := mod1 hi
  by_cases h1 : j + 1 = i
  ·have := (hr j hjl).1.1
   rw [m1, if_neg (by omega), h1] at this
   exact this e
  by_cases h2 : (i + 1) % p.length = j
  ·have := (hr i hi).1.1
   rw [h2] at this
   exact this e.symm
  have := (hr j hjl).2 i hi (by omega) h2
  have ho := on_end (pt p j) (pt p ((j + 1) % p.length))
  rw [← e] at this
  simp [q5B, ho] at this
 cases hf : q3r (pt p i) (pt p ((i + 1) % p.length)) (pt p ((i + 2) % p.length))
 ·rfl
 have := (hr i hi).1
 rcases qrr hf with h | h
 ·rw [h] at this; cases this.2.1
 rw [h] at this; cases this.2.2
end Go.F

namespace Go.F
attribute [local irreducible] IntKind.wrap wpM
set_option maxHeartbeats 2000000 in
theorem qkd (p : List Spot) [OkP p] (h3 : 3 ≤ p.length) (hp : p.length ≤ 1000) : PU qfp [q0o p] = some (.bool (decide (q2D p))) := by
 refine q0h (fn := qax) rfl (q0c ?_)
 refine gg rfl ?_
 rw [List.length_map]
 refine q0q (S := fun k : Nat => ([q0o p, q00 p.length, q00 k], [none, none, none], [0, 0, 0]))
  (C := fun i => i ≤ p.length ∧ ∀ j, j < i → (pt p j ≠ pt p ((j + 1) % p.length) ∧ onS (pt p j) (pt p ((j + 1) % p.length)) (pt p ((j + 2) % p.length)) = false ∧ onS (pt p ((j + 1) % p.length)) (pt p ((j + 2) % p.length)) (pt p j) = false) ∧
    ∀ k, k < p.length → j + 2 ≤ k → (k + 1) % p.length ≠ j → q5B (pt p j) (pt p ((j + 1) % p.length)) (pt p k) (pt p ((k + 1) % p.length)) = false)
  (m := fun k => p.length - k) 0 ⟨by omega, fun j h => by omega⟩ (by omega) ?_ ?_
 ·exact q03 rfl trivial (by simp [q0o, q00])
 intro i ⟨hi, hall⟩ N hN
 refine gg rfl (q02 rfl (fun g1 => ?_) (fun g1 => ?_))
 ·rw [q06] at g1
  have hlt : i < p.length := by omega
  have w1 := wS (n := i)
  have w2 : IntKind.i64.wrap ((i : Int) + 2) = ((i + 2 : Nat) : Int) := ww
  refine gg rfl (q0k i rfl rfl rfl (q0T hlt) rfl (gg rfl (q4R rfl rfl (by omega) ?_)))
  refine gg rfl (q0k ((i + 1) % p.length) rfl rfl (by rw [w1, q1K]) (q0T (Nat.mod_lt _ (by omega))) rfl ?_)
  refine gg rfl (q4R rfl rfl (by omega) ?_)
  refine gg rfl (q0k ((i + 2) % p.length) rfl rfl (by rw [w2, q1K]) (q0T (Nat.mod_lt _ (by omega))) rfl ?_)
  refine gg rfl (q05 rfl (fun e0 => ?_) (fun e0 => ?_))
  ·repeat' (first
    | refine goP 800 rfl rfl ?_
    | refine q0e rfl ?_ | refine q0j rfl ?_ | refine q05 rfl (fun _ => ?_) (fun _ => ?_)
    | refine q0g rfl ?_ | refine q0m rfl ?_ | refine q02 rfl (fun _ => ?_) (fun _ => ?_)
    | refine q0G rfl (fun _ => ?_) (fun _ => ?_)
    | refine q08 rfl rfl rfl trivial ?_)
   refine q04 (gg rfl (q08 rfl rfl rfl trivial ?_))
   rw [q1o] at e0
   have : ¬ q2D p := fun hs => (hs i hlt).1.1 (of_decide_eq_true e0)
   simp [this]
  rw [q1o] at e0
  refine gg rfl (q01 rfl rfl (q8r (pt p i) (pt p ((i + 1) % p.length)) (pt p ((i + 2) % p.length))) (gg rfl (q05 rfl (fun e1 => ?_) (fun e1 => ?_))))
  ·repeat' (first
    | refine goP 800 rfl rfl ?_
    | refine q0e rfl ?_ | refine q0j rfl ?_ | refine q05 rfl (fun _ => ?_) (fun _ => ?_)
    | refine q0g rfl ?_ | refine q0m rfl ?_ | refine q02 rfl (fun _ => ?_) (fun _ => ?_)
    | refine q0G rfl (fun _ => ?_) (fun _ => ?_)
    | refine q08 rfl rfl rfl trivial ?_)
   refine q04 (gg rfl (q08 rfl rfl rfl trivial ?_))
   have : ¬ q2D p := fun hs => by have := (hs i hlt).1.2.1; rw [e1] at this; cases this
   simp [this]
  refine gg rfl (q01 rfl rfl (q8r (pt p ((i + 1) % p.length)) (pt p ((i + 2) % p.length)) (pt p i)) (gg rfl (q02 rfl (fun e2 => ?_) (fun e2 => ?_))))
  ·repeat' (first
    | refine goP 800 rfl rfl ?_
    | refine q0e rfl ?_ | refine q0j rfl ?_ | refine q05 rfl (fun _ => ?_) (fun _ => ?_)
    | refine q0g rfl ?_ | refine q0m rfl ?_ | refine q02 rfl (fun _ => ?_) (fun _ => ?_)
    | refine q0G rfl (fun _ => ?_) (fun _ => ?_)
    | refine q08 rfl rfl rfl trivial ?_)
   refine q04 (gg rfl (q08 rfl rfl rfl trivial ?_))
   have : ¬ q2D p := fun hs => by have := (hs i hlt).1.2.2; rw [e2] at this; cases this
   simp [this]
  refine gg rfl ?_
  have fin : ∀ {t : q0u} {h : q0f} {z : Frz} {nx : Nat}, (∀ k, k < p.length → i + 2 ≤ k → (k + 1) % p.length ≠ i → q5B (pt p i) (pt p ((i + 1) % p.length)) (pt p k) (pt p ((k + 1) % p.length)) = false) →
   (q0Z 0 [(0, 0), (3, 0), (4, 0)] t h z nx fun _ _ kp => kp = ([q0o p, q00 p.length, q00 ((i + 1 : Nat) : Int)], [none, none, none], [0, 0, 0])) → N t h z nx := by
   intro t h z nx hm hst
   refine hN (i + 1) ⟨by omega, fun j hj => ?_⟩ (by omega) hst
   by_cases hji : j < i
   ·exact hall j hji
   obtain rfl : j = i := by omega
   exact ⟨⟨of_decide_eq_false e0, e1, e2⟩, hm⟩
  clear hN
  refine q0q (S := fun k : Nat => ([q0o p, q00 p.length, q00 i, .ptr 3 0 0, .ptr 4 0 0, q00 k], [none, none, none, some (.row [(pt p i).enc] 2), some (.row [(pt p ((i + 1) % p.length)).enc] 2), none], [0, 0, 0, 0, 0, 0]))
   (C := fun k => i + 2 ≤ k ∧ k ≤ p.length + 2 ∧ ∀ k', k' < p.length → k' < k → i + 2 ≤ k' → (k' + 1) % p.length ≠ i → q5B (pt p i) (pt p ((i + 1) % p.length)) (pt p k') (pt p ((k' + 1) % p.length)) = false)
   (m := fun k => p.length + 2 - k) (i + 2) ⟨by omega, by omega, fun k' _ h1 h2 => by omega⟩ (by omega) ?_ ?_
  ·exact q03 rfl ⟨rfl, rfl, trivial⟩ (by simp [q0o, q00, Spot.enc, w2])
  intro k ⟨hk1, hk2, hkall⟩ N2 hN2
  refine gg rfl (q02 rfl (fun e3 => ?_) (fun e3 => ?_))
  ·rw [q06] at e3
   have hkl : k < p.length := by omega
   have wk := wS (n := k)
   have nxt : ∀ {t : q0u} {h : q0f} {z : Frz} {nx : Nat}, ((k + 1) % p.length ≠ i → q5B (pt p i) (pt p ((i + 1) % p.length)) (pt p k) (pt p ((k + 1) % p.length)) = false) →
    (q0Z 0 [(0, 0), (3, 0), (4, 0), (5, 0), (6, 0), (8, 0)] t h z nx fun _ _ kp => kp = ([q0o p, q00 p.length, q00 i, .ptr 3 0 0, .ptr 4 0 0, q00 ((k + 1 : Nat) : Int)], [none, none, none, some (.row [(pt p i).enc] 2), some (.row [(pt p ((i + 1) % p.length)).enc] 2), none], [0, 0, 0, 0, 0, 0])) → N2 t h z nx := by
    intro t h z nx hm hst
    refine hN2 (k + 1) ⟨by omega, by omega, fun k' q1 q2 q3 q4 => ?_⟩ (by omega) hst
    by_cases hkk : k' < k
    ·exact hkall k' q1 hkk q3 q4
    obtain rfl : k' = k := by omega
    exact hm q4
   clear hN2
   refine gg rfl (q4R rfl rfl (by omega) ?_)
   refine gg rfl (q05 rfl (fun e4 => ?_) (fun e4 => ?_))
   ·rw [q0z, wk, q1K] at e4
    have hne : (k + 1) % p.length ≠ i := fun e => e4 (by rw [e])
    refine gg rfl (q0k k rfl rfl rfl (q0T hkl) rfl (gg rfl (q4R rfl rfl (by omega) ?_)))
    refine gg rfl (q0k ((k + 1) % p.length) rfl rfl (by rw [wk, q1K]) (q0T (Nat.mod_lt _ (by omega))) rfl ?_)
    refine gg rfl (q01 rfl rfl (qmT (pt p i) (pt p ((i + 1) % p.length)) (pt p k) (pt p ((k + 1) % p.length))) (gg rfl (q02 rfl (fun e5 => ?_) (fun e5 => ?_))))
    ·refine gg rfl (q04 (gg rfl (q04 (gg rfl (q08 rfl rfl rfl trivial ?_)))))
     have : ¬ q2D p := fun hs => by have := (hs i hlt).2 k hkl hk1 hne; rw [e5] at this; cases this
     simp [this]
    exact gg rfl (q04 (nxt (fun _ => e5) (q03 rfl ⟨rfl, rfl, trivial⟩ (by simp [q0o, q00, Spot.enc, wk]))))
   rw [q0A, wk, q1K] at e4
   have hne : (k + 1) % p.length = i := by omega
   repeat' (first
    | refine goP 800 rfl rfl ?_
    | refine q0e rfl ?_ | refine q0j rfl ?_ | refine q05 rfl (fun _ => ?_) (fun _ => ?_)
    | refine q0g rfl ?_ | refine q0m rfl ?_ | refine q02 rfl (fun _ => ?_) (fun _ => ?_)
    | refine q0G rfl (fun _ => ?_) (fun _ => ?_)
    | refine q08 rfl rfl rfl trivial ?_)
   exact q04 (nxt (fun h => absurd hne h) (q03 rfl ⟨rfl, rfl, trivial⟩ (by simp [q0o, q00, Spot.enc, wk])))
  rw [q07] at e3
  exact gg rfl (q04 (gg rfl (q04 (fin (fun k' q1 q2 q3 => hkall k' q1 (by omega) q2 q3) (q03 rfl trivial (by simp [q0o, q00, w1]))))))
 rw [q07] at g1
 refine gg rfl (q04 (gg rfl (q08 rfl rfl rfl trivial ?_)))
 have : q2D p := fun i h => hall i (by omega)
 simp [this]
theorem qbb (p : List Spot) : PU q95 [q0o p] = some (.int .i64 (q2y p)) := by
 refine q0h (fn := qbU) rfl (q0c ?_)
 refine gg rfl (q02 rfl (fun h1 => ?_) (fun h1 => ?_))
 ·refine gg rfl (q08 rfl rfl rfl trivial ?_)
  rw [q06, List.length_map] at h1
  rw [q2y, if_pos (by omega)]
 refine gg rfl ?_
 rw [q07, List.length_map] at h1
 refine q02 rfl (fun h2 => ?_) (fun h2 => ?_)
 ·refine gg rfl (q08 rfl rfl rfl trivial ?_)
  rw [q06, List.length_map] at h2
  rw [q2y, if_neg (by omega), if_pos (by omega)]
 refine gg rfl ?_
 rw [q07, List.length_map] at h2
 refine q0q (S := fun k : Nat => ([q0o p, q00 k], [none, none], [0, 0])) (C := fun k => k ≤ p.length ∧ ∀ i, i < k → (!q0v (pt p i) 1048576) = false) (m := fun k => p.length - k) 0 ⟨by omega, fun i hi => by omega⟩ (by omega) ?_ ?_
 ·exact q03 rfl trivial (by simp [q0o, q00])
 intro k ⟨hk, hall⟩ N hN
 refine gg rfl (q02 rfl (fun g1 => ?_) (fun g1 => ?_))
 ·rw [q06, List.length_map] at g1
  have hlt : k < p.length := by omega
  have w1 := wS (n := k)
  refine gg rfl (q0k k rfl rfl rfl (q0T hlt) rfl (gg rfl (q01 rfl rfl (qe1 (pt p k)) (gg rfl (q02 rfl (fun g2 => ?_) (fun g2 => ?_))))))
  ·refine gg rfl (q04 (gg rfl (q08 rfl rfl rfl trivial ?_)))
   have : (p.any fun s => !q0v s 1048576) = true := List.any_eq_true.2 ⟨pt p k, by rw [q11 hlt]; exact List.getElem_mem hlt, g2⟩
   rw [q2y, if_neg (by omega), if_neg (by omega), if_pos this]
  refine gg rfl (q04 (hN (k + 1) ⟨by omega, fun i hi => ?_⟩ (by omega) (q03 rfl trivial (by simp [q0o, q00, w1]))))
  by_cases hik : i < k
  ·exact hall i hik
  obtain rfl : i = k := by omega
  exact g2
 rw [q07, List.length_map] at g1
 have hany : (p.any fun s => !q0v s 1048576) = false := by
  rw [List.any_eq_false]
  intro s hs
  obtain ⟨i, hi, rfl⟩ := List.getElem_of_mem hs
  rw [← q11 hi, hall i (by omega)]
  decide
 have := qoC hany
 refine gg rfl (q04 (gg rfl (q01 rfl rfl (qkd p (by omega) (by omega)) ?_)))
 refine gg rfl ?_
 have hsi := qjp (p := p) (by omega)
 refine q02 rfl (fun h4 => ?_) (fun h4 => ?_)
 ·refine gg rfl (q08 rfl rfl rfl trivial ?_)
  have h4' : ¬ q2D p := by simpa using h4
  rw [q2y, if_neg (by omega), if_neg (by omega), if_neg (by rw [hany]; decide), if_neg (by rw [hsi]; exact h4')]
 refine gg rfl (q08 rfl rfl rfl trivial ?_)
 have h4' : q2D p := by simpa using h4
 rw [q2y, if_neg (by omega), if_neg (by omega), if_neg (by rw [hany]; decide), if_pos (hsi.2 h4')]
end Go.F

namespace Go.F
attribute [local irreducible] IntKind.wrap wpM
theorem qmm (l : List Edge) (k : Nat) (hk : k < l.length) (hl : l.length < 4611686018427387904) : PU qh9 [edges l, .int .i64 k, .str (eg l k).name] = some (.bool (qex l k)) := by
 refine q0h (fn := qc6) rfl (q0c ?_)
 refine gg rfl (q0q (S := fun j : Nat => ([edges l, q00 k, .str (eg l k).name, q00 j], [none, none, none, none], [0, 0, 0, 0])) (C := fun j => j ≤ k ∧ ∀ i, i < j → ((eg l i).name.toList == (eg l k).name.toList) = false) (m := fun j => k - j) 0 ⟨by omega, fun i hi => by omega⟩ (by omega) ?_ ?_)
 ·exact q03 rfl trivial (by simp [edges, q00])
 intro j ⟨hj, hno⟩ N hN
 refine gg rfl (q02 rfl (fun e1 => ?_) (fun e1 => ?_))
 ·rw [q06] at e1
  have hjk : j < k := by omega
  have wj := wS (n := j)
  refine gg rfl (q0k j rfl rfl rfl (q24 (by omega)) rfl ?_)
  refine gg rfl (q02 rfl (fun e2 => ?_) (fun e2 => ?_))
  ·refine gg rfl (q04 (gg rfl (q08 rfl rfl rfl trivial ?_)))
   rw [qiC hjk e2]
  refine gg rfl (q04 (hN (j + 1) ⟨by omega, fun i hi => ?_⟩ (by omega) (q03 rfl trivial (by simp [edges, q00, wj]))))
  by_cases hij : i < j
  ·exact hno i hij
  obtain rfl : i = j := by omega
  exact e2
 rw [q07] at e1
 refine gg rfl (q04 (gg rfl (q08 rfl rfl rfl trivial ?_)))
 rw [qkw fun i hi => hno i (by omega)]
theorem q3m {l : List Edge} {k : Nat} (h : k < l.length) : q0s (l.take (k + 1)) = q0s (l.take k) ++ (eg l k).line.dropLast := by
 rw [qew h, q8s h]
set_option maxHeartbeats 1000000 in
theorem qbw (l : List Edge) (h1 : ∀ e ∈ l, e.line.length ≤ 100000) (hl : l.length ≤ 100000) (hv : (q0s l).length ≤ 100000) : PU q8C [edges l] = some (q0o (q0s l)) := by
 refine q0h (fn := q8b) rfl (q0c ?_)
 refine gg rfl (q0q (S := fun k : Nat => ([edges l, .ref 1 0 (q0s (l.take k)).length, q00 k], [none, some (.row ((q0s (l.take k)).map Spot.enc) 2), none], [0, 0, 0])) (C := fun k => k ≤ l.length) (m := fun k => l.length - k) 0 (by omega) (by omega) ?_ ?_)
 ·exact q03 rfl ⟨rfl, trivial⟩ (by simp [edges, q00, q0s])
 intro k hk N hN
 refine gg rfl (q02 rfl (fun g1 => ?_) (fun g1 => ?_))
 ·rw [q06, List.length_map] at g1
  have hlt : k < l.length := by omega
  have w1 := wS (n := k)
  have hln : (eg l k).line.length ≤ 100000 := by rw [q8s hlt]; exact h1 _ (List.getElem_mem hlt)
  have hcells : ((eg l k).line.map Spot.enc).all (fun d => d.cells.length == 2) = true := q1X (f := Spot.enc) (n := 2) (fun _ => rfl) _
  have hle := qcv (l := l) (k + 1)
  rw [q3m hlt, List.length_append] at hle
  refine gg rfl (q0k k rfl rfl rfl (q24 hlt) rfl (gg rfl (q02 rfl (fun g2 => ?_) (fun g2 => ?_))))
  ·rw [q06, List.length_map] at g2
   have w2 : IntKind.i64.wrap (((eg l k).line.length : Int) - 1) = (((eg l k).line.length - 1 : Nat) : Int) := by rw [wrap64 (by omega) (by omega)]; omega
   refine gg rfl (q0k k rfl rfl rfl (q24 hlt) rfl (gg rfl (qdM ((eg l k).line.length - 1) rfl hcells ⟨_, _, rfl, by rw [List.length_map]; exact w2⟩ (by simp) ?_)))
   refine gg rfl ?_
   have e : ((eg l k).line.map Spot.enc).take ((eg l k).line.length - 1) = (eg l k).line.dropLast.map Spot.enc := by
    rw [List.dropLast_eq_take, List.map_take]
   rw [e]
   refine qjO rfl rfl rfl (q1X (f := Spot.enc) (n := 2) (fun _ => rfl) _) (by simp) (Nat.zero_le _) (by simp [q0U] at *; omega) ?_
   refine gg rfl (q04 (hN (k + 1) (by omega) (by omega) (q03 rfl ⟨by rw [← List.map_append]; exact q0b q0S _, trivial⟩ ?_)))
   simp [edges, q00, w1, q3m hlt]
  rw [q07, List.length_map] at g2
  have h0 : (eg l k).line = [] := List.eq_nil_of_length_eq_zero (by omega)
  refine gg rfl (q04 (hN (k + 1) (by omega) (by omega) (q03 rfl ⟨q0b q0S _, trivial⟩ ?_)))
  simp [edges, q00, w1, q3m hlt, h0]
 rw [q07, List.length_map] at g1
 refine gg rfl (q04 (gg rfl ?_))
 obtain rfl : k = l.length := by omega
 rw [List.take_length]
 refine q08 rfl rfl rfl ⟨q3s (by simp) (q1t q3E _), trivial⟩ ?_
 rw [q5n (by simp), q0o]
set_option maxHeartbeats 2000000 in
theorem q7N (l : List Edge) : PU q72 [edges l] = some (.int .i64 (q0Q l)) := by
 refine q0h (fn := qbY) rfl (q0c ?_)
 refine gg rfl (q02 rfl (fun h1 => ?_) (fun h1 => ?_))
 ·refine gg rfl (q08 rfl rfl rfl trivial ?_)
  rw [q06, List.length_map] at h1
  rw [q0Q, if_pos (by omega)]
 refine gg rfl ?_
 rw [q07, List.length_map] at h1
 refine q02 rfl (fun h2 => ?_) (fun h2 => ?_)
 ·refine gg rfl (q08 rfl rfl rfl trivial ?_)
  rw [q06, List.length_map] at h2
  rw [q0Q, if_neg (by omega), if_pos (by omega)]
 refine gg rfl ?_
 rw [q07, List.length_map] at h2
 refine q0q (S := fun k : Nat => ([edges l, q00 k], [none, none], [0, 0])) (C := fun k => k ≤ l.length ∧ q0F (q1v l) k = 0) (m := fun k => l.length - k) 0 ⟨by omega, rfl⟩ (by omega) ?_ ?_
 ·exact q03 rfl trivial (by simp [edges, q00])
 intro k ⟨hk, hall⟩ N hN
 refine gg rfl (q02 rfl (fun g1 => ?_) (fun g1 => ?_))
 ·rw [q06, List.length_map] at g1
  have hlt : k < l.length := by omega
  have w1 := wS (n := k)
  have no : q1v l k ≠ 0 → q0Q l = q1v l k := by
   intro hc
   have := q5C hall hc hlt
   rw [q0Q, if_neg (by omega), if_neg (by omega), if_neg (by rw [this]; exact hc), this]
  refine gg rfl (q0k k rfl rfl rfl (q24 hlt) rfl (gg rfl (q01 rfl rfl (qh0 (eg l k).name) (gg rfl (q02 rfl (fun g2 => ?_) (fun g2 => ?_))))))
  ·refine gg rfl (q04 (gg rfl (q08 rfl rfl rfl trivial ?_)))
   have : q1v l k = 1 := by rw [q1v, if_pos (by simpa using g2)]
   rw [no (by rw [this]; decide), this]
  have g2' : ¬ q1L (eg l k).name = false := by simpa using g2
  refine gg rfl (q0k k rfl rfl rfl (q24 hlt) rfl (gg rfl (q01 rfl rfl (qmm l k hlt (by omega)) ?_)))
  refine gg rfl (q02 rfl (fun e2 => ?_) (fun e2 => ?_))
  ·refine gg rfl (q04 (gg rfl (q08 rfl rfl rfl trivial ?_)))
   have : q1v l k = 7 := by rw [q1v, if_neg g2', if_pos e2]
   rw [no (by rw [this]; decide), this]
  refine gg rfl ?_
  have hee : q1v l k = q1Y (eg l k).line := by rw [q1v, if_neg g2', if_neg (by rw [e2]; decide)]
  refine q0k k rfl rfl rfl (q24 hlt) rfl (gg rfl (q01 rfl rfl (qmj (eg l k).line) (gg rfl (q02 rfl (fun g3 => ?_) (fun g3 => ?_)))))
  ·rw [q0z, ← hee] at g3
   refine gg rfl (q04 (gg rfl (q08 rfl rfl rfl trivial ?_)))
   rw [no g3, hee]
  rw [q0A, ← hee] at g3
  exact gg rfl (q04 (hN (k + 1) ⟨by omega, q3L hall g3⟩ (by omega) (q03 rfl trivial (by simp [edges, q00, w1]))))
 rw [q07, List.length_map] at g1
 obtain rfl : k = l.length := by omega
 clear hN hk g1
 have hln : ∀ i, i < l.length → 2 ≤ (eg l i).line.length ∧ (eg l i).line.length ≤ 40 ∧ _ := fun i hi => q3M (q5o (q1B hall hi))
 refine gg rfl (q04 (gg rfl (q0q (S := fun k : Nat => ([edges l, q00 k], [none, none], [0, 0])) (C := fun k => k ≤ l.length ∧ q0F (q37 l) k = 0) (m := fun k => l.length - k) 0 ⟨by omega, rfl⟩ (by omega) ?_ ?_)))
 ·exact q03 rfl trivial (by simp [edges, q00])
 intro k ⟨hk, hjo⟩ N hN
 refine gg rfl (q02 rfl (fun g1 => ?_) (fun g1 => ?_))
 ·rw [q06, List.length_map] at g1
  have hlt : k < l.length := by omega
  have hlt2 : (k + 1) % l.length < l.length := Nat.mod_lt _ (by omega)
  have w1 := wS (n := k)
  have a1 := hln k hlt
  have a2 := hln _ hlt2
  have w2 : IntKind.i64.wrap (((eg l k).line.length : Int) - 1) = (((eg l k).line.length - 1 : Nat) : Int) := by rw [wrap64 (by omega) (by omega)]; omega
  refine gg rfl (q0k k rfl rfl rfl (q24 hlt) rfl (gg rfl (q4R rfl rfl (by rw [List.length_map]; omega) ?_)))
  refine gg rfl (q0k ((k + 1) % l.length) rfl rfl (by rw [w1, List.length_map, q1K]) (q24 hlt2) rfl ?_)
  refine gg rfl (q0k ((eg l k).line.length - 1) rfl rfl (by rw [List.length_map]; exact w2) (q0T (by omega)) rfl ?_)
  refine gg rfl (q0k 0 rfl rfl rfl (q0T (by omega)) rfl ?_)
  refine gg rfl (q02 rfl (fun g2 => ?_) (fun g2 => ?_))
  ·refine gg rfl (q04 (gg rfl (q08 rfl rfl rfl trivial ?_)))
   rw [q1o] at g2
   have : q37 l k = 11 := by rw [q37, if_neg (by simpa using g2)]
   have h11 := q5C hjo (by rw [this]; decide) hlt
   rw [q0Q, if_neg (by omega), if_neg (by omega), if_pos hall, if_neg (by rw [h11, this]; decide), h11, this]
  refine gg rfl (q04 ?_)
  rw [q1o] at g2
  have : q37 l k = 0 := by rw [q37, if_pos (by simpa using g2)]
  refine hN (k + 1) ⟨by omega, q3L hjo this⟩ (by omega) (q03 rfl trivial (by simp [edges, q00, w1]))
 rw [q07, List.length_map] at g1
 obtain rfl : k = l.length := by omega
 refine gg rfl (q04 (gg rfl ?_))
 have hb : ∀ e ∈ l, 1 ≤ e.line.length ∧ e.line.length ≤ 40 := by
  intro e he
  obtain ⟨i, hi, rfl⟩ := qoE he
  have := hln i hi
  exact ⟨by omega, by omega⟩
 have hv := qh1 (m := 40) fun e he => (hb e he).2
 refine q01 rfl rfl (qbw l (fun e he => by have := (hb e he).2; omega) (by omega) (by omega)) ?_
 refine gg rfl (q01 rfl rfl (qbb (q0s l)) (gg rfl (q08 rfl rfl rfl trivial ?_)))
 rw [q0Q, if_neg (by omega), if_neg (by omega), if_pos hall, if_pos hjo]
end Go.F

namespace Go.F
attribute [local irreducible] IntKind.wrap wpM
theorem q41 (p : List Spot) : PU q2a [q0o p] = some (.int .i64 (sgn (q1s p))) := by
 refine q0h (fn := q39) rfl (q0c ?_)
 repeat' (first
  | refine goP 800 rfl rfl ?_
  | refine q0e rfl ?_ | refine q0j rfl ?_ | refine q05 rfl (fun _ => ?_) (fun _ => ?_)
  | refine q0g rfl ?_ | refine q0m rfl ?_ | refine q02 rfl (fun _ => ?_) (fun _ => ?_)
  | refine q0G rfl (fun _ => ?_) (fun _ => ?_)
  | refine q08 rfl rfl rfl trivial ?_
  | refine q01 rfl rfl (qsv p) ?_
  | refine q01 rfl rfl (qet _ _) ?_)
 rfl
def q1q (a b : Int) : Int := if a < 0 then -((2 * (-a) + b) / (2 * b)) else (2 * a + b) / (2 * b)
theorem qgQ (a b : Int) (h0 : 0 ≤ a) (ha : a ≤ 1099511627776) (hb : 0 < b) (hb' : b ≤ 1099511627776) : PU q2h [.int .i64 a, .int .i64 b] = some (.int .i64 (q1q a b)) := by
 refine q0h (fn := q36) rfl (q0c ?_)
 refine gg rfl ?_
 have w1 := ww (x := 2 * a)
 have w2 := ww (x := 2 * a + b)
 have w3 := ww (x := 2 * b)
 refine q02 rfl (fun h => ?_) (fun h => ?_)
 ·rw [q06] at h; omega
 refine gg rfl (qbD rfl rfl (by rw [w3]; omega) ?_)
 refine gg rfl (q08 rfl rfl rfl trivial ?_)
 have hd : (2 * a + b).tdiv (2 * b) = (2 * a + b) / (2 * b) := Int.tdiv_eq_ediv_of_nonneg (by omega)
 have hq : (2 * a + b) / (2 * b) ≤ 2 * a + b := Int.ediv_le_self _ (by omega)
 have hq0 : 0 ≤ (2 * a + b) / (2 * b) := Int.ediv_nonneg (by omega) (by omega)
 rw [w1, w2, w3, hd, wrap64 (by omega) (by omega), q1q, if_neg (by omega)]
theorem qid (a b : Int) (ha0 : -1099511627776 ≤ a) (ha : a ≤ 1099511627776) (hb : 0 < b) (hb' : b ≤ 1099511627776) : PU q2h [.int .i64 a, .int .i64 b] = some (.int .i64 (q1q a b)) := by
 by_cases h0 : 0 ≤ a
 ·exact qgQ a b h0 ha hb hb'
 refine q0h (fn := q36) rfl (q0c ?_)
 refine gg rfl (q02 rfl (fun h => ?_) (fun h => ?_))
 ·refine gg rfl ?_
  have w1 : IntKind.i64.wrap (0 - a) = -a := by rw [wrap64 (by omega) (by omega)]; omega
  rw [w1]
  refine q01 rfl rfl (qgQ (-a) b (by omega) (by omega) hb hb') ?_
  refine gg rfl (q08 rfl rfl rfl trivial ?_)
  have hq : (2 * (-a) + b) / (2 * b) ≤ 2 * (-a) + b := Int.ediv_le_self _ (by omega)
  have hq0 : 0 ≤ (2 * (-a) + b) / (2 * b) := Int.ediv_nonneg (by omega) (by omega)
  rw [q1q, if_neg (by omega), q1q, if_pos (by omega), wrap64 (by omega) (by omega)]
  simp
 rw [q07] at h; omega
end Go.F

namespace Go.F
attribute [local irreducible] IntKind.wrap wpM
def wd (ws : List Int) (i : Nat) : Int := ws.getD i 0
theorem qie {ws : List Int} {i : Nat} (h : i < ws.length) : (ws.map q00)[i]? = some (q00 (wd ws i)) := by simp [wd, h]
def q1G (l : List Edge) (ws : List Int) : Nat → List Int
 | 0 => []
 | k + 1 => q1G l ws k ++ List.replicate ((eg l k).line.length - 1) (wd ws k)
theorem qbJ (l : List Edge) (ws : List Int) : ∀ k, k ≤ l.length → (q1G l ws k).length = (q0s (l.take k)).length := by
 intro k
 induction k with
 | zero => intro _; simp [q1G, q0s]
 | succ k ih =>
   intro hk
   rw [q1G, q3m (by omega), List.length_append, List.length_append, ih (by omega)]
   simp
set_option maxHeartbeats 1000000 in
theorem q9U (l : List Edge) (ws : List Int) (hw : l.length ≤ ws.length) (h1 : ∀ e ∈ l, 1 ≤ e.line.length ∧ e.line.length ≤ 100000) (hl : l.length ≤ 100000) (hv : (q0s l).length ≤ 100000) : PU q2J [edges l, ints ws] = some (ints (q1G l ws l.length)) := by
 have hlen : ∀ k, k ≤ l.length → (q1G l ws k).length ≤ 100000 := by
  intro k hk
  rw [qbJ l ws k hk]
  have := qcv (l := l) k
  omega
 refine q0h (fn := q2G) rfl (q0c ?_)
 refine gg rfl (q0q (S := fun k : Nat => ([ints ws, .ref 1 0 (q1G l ws k).length, edges l, q00 l.length, q00 k], [none, some (.row ((q1G l ws k).map q00) 1), none, none, none], [0, 0, 0, 0, 0])) (C := fun k => k ≤ l.length) (m := fun k => l.length - k) 0 (by omega) (by omega) ?_ ?_)
 ·exact q03 rfl ⟨rfl, trivial⟩ (by simp [edges, ints, q00, q1G])
 intro k hk N hN
 refine gg rfl (q02 rfl (fun g1 => ?_) (fun g1 => ?_))
 ·rw [q06] at g1
  have hlt : k < l.length := by omega
  have w1 := wS (n := k)
  have hln : 1 ≤ (eg l k).line.length ∧ (eg l k).line.length ≤ 100000 := by rw [q8s hlt]; exact h1 _ (List.getElem_mem hlt)
  have w2 : IntKind.i64.wrap (((eg l k).line.length : Int) - 1) = (((eg l k).line.length - 1 : Nat) : Int) := by rw [wrap64 (by omega) (by omega)]; omega
  have hk1 := hlen (k + 1) (by omega)
  rw [q1G, List.length_append, List.length_replicate] at hk1
  refine gg rfl (q0k k rfl rfl rfl (q24 hlt) rfl (gg rfl ?_))
  refine q0q (S := fun j : Nat => ([ints ws, .ref 1 0 ((q1G l ws k).length + j), q00 k, edges l, q00 l.length, q00 k, q00 ((eg l k).line.length - 1 : Nat), q00 j],
   [none, some (.row ((q1G l ws k ++ List.replicate j (wd ws k)).map q00) 1), none, none, none, none, none, none], [0, 0, 0, 0, 0, 0, 0, 0]))
   (C := fun j => j ≤ (eg l k).line.length - 1) (m := fun j => (eg l k).line.length - j) 0 (by omega) (by omega) ?_ ?_
  ·exact q03 rfl ⟨q0b q9W _, trivial⟩ (by simp [edges, ints, q00, w2])
  intro j hj N2 hN2
  refine gg rfl (q02 rfl (fun e1 => ?_) (fun e1 => ?_))
  ·rw [q06] at e1
   have hjl : j < (eg l k).line.length - 1 := by omega
   have wj := wS (n := j)
   refine gg rfl (q0k k rfl rfl rfl (qie (by omega)) rfl ?_)
   refine gg rfl (q1E rfl rfl rfl rfl rfl rfl (by simp) (Nat.zero_le _) (by simp [q0U] at *; omega) ?_)
   refine gg rfl (q04 (hN2 (j + 1) (by omega) (by omega) (q03 rfl ⟨?_, trivial⟩ ?_)))
   ·rw [List.all_append, q0b q9W]; rfl
   simp [edges, ints, q00, wj, List.replicate_succ']
   omega
  rw [q07] at e1
  clear hN2
  obtain rfl : j = (eg l k).line.length - 1 := by omega
  refine gg rfl (q04 (gg rfl (q04 (hN (k + 1) (by omega) (by omega) (q03 rfl ⟨q0b q9W _, trivial⟩ ?_)))))
  simp [edges, ints, q00, w1, q1G]
 rw [q07] at g1
 obtain rfl : k = l.length := by omega
 refine gg rfl (q04 (gg rfl (q08 rfl rfl rfl ⟨q3s (by simp) (q1t qln _), trivial⟩ ?_)))
 rw [q5n (by simp), ints]
end Go.F

namespace Go.F
open Ieee
theorem qlu (a b : Nat) : a <<< b = a * 2 ^ b := Nat.shiftLeft_eq a b
theorem dbl : FloatKind.f64.format = Ieee.double := rfl
theorem qlv {n k : Nat} (h : n < 2 ^ (k + 1)) : n.log2 ≤ k := by
 by_cases h0 : n = 0
 ·subst h0; simp
 have := (Nat.log2_lt h0).2 h
 omega
theorem cut_le {neg : Bool} {n drop k : Nat} (h : n < 2 ^ k * 2 ^ drop) : Toward.even.cut neg n drop ≤ 2 ^ k := by
 unfold Toward.cut
 simp only
 have hg : ∀ g : Nat, 0 < g → n < 2 ^ k * g → n / g + 1 ≤ 2 ^ k := by
  intro g hg hn
  have := (Nat.div_lt_iff_lt_mul hg).2 hn
  omega
 by_cases hd : drop ≤ n.log2 + 2
 ·rw [Nat.min_eq_left hd, Nat.one_shiftLeft]
  have := hg _ (Nat.two_pow_pos drop) h
  have hb := Bool.toNat_le (decide (2 ^ drop < 2 * (n % 2 ^ drop)) || (2 ^ drop == 2 * (n % 2 ^ drop) && n / 2 ^ drop % 2 == 1))
  omega
 rw [Nat.min_eq_right (by omega), Nat.one_shiftLeft]
 have hn : n < 2 ^ (n.log2 + 2) := Nat.lt_of_lt_of_le Nat.lt_log2_self (Nat.pow_le_pow_right (by omega) (by omega))
 have h0 : n / 2 ^ (n.log2 + 2) = 0 := Nat.div_eq_of_lt hn
 have := Nat.two_pow_pos k
 have hb := Bool.toNat_le (decide (2 ^ (n.log2 + 2) < 2 * (n % 2 ^ (n.log2 + 2))) || (2 ^ (n.log2 + 2) == 2 * (n % 2 ^ (n.log2 + 2)) && n / 2 ^ (n.log2 + 2) % 2 == 1))
 rw [h0] at hb ⊢
 omega
theorem qiy {mag : Nat} {place e : Int} (h : place + mag.log2 ≤ e) (he : -1000 ≤ e) : (double.nearest false mag place : Int) ≤ (e + 1024) * 4503599627370496 := by
 unfold Format.nearest
 by_cases h0 : mag = 0
 ·rw [if_pos h0]
  simp only [Format.word]
  simp
  omega
 rw [if_neg h0]
 simp only [Format.word]
 have hb : double.binade = 4503599627370496 := rfl
 have hl : double.leastPlace = -1074 := rfl
 have hf : (double.fractionBits : Int) = 52 := rfl
 rw [hb, hl, hf]
 generalize hlast : max (place + (mag.log2 : Int) - 52) (-1074) = last
 have hm : mag < 2 ^ (mag.log2 + 1) := Nat.lt_log2_self
 have hk : Toward.even.cut false (mag <<< (place - last).toNat) (last - place).toNat ≤ 2 ^ 53 := by
  refine cut_le ?_
  rw [qlu]
  rcases Int.le_total last place with hc | hc
  ·have e1 : (last - place).toNat = 0 := by omega
   rw [e1, Nat.pow_zero, Nat.mul_one]
   have e2 : (place - last).toNat + (mag.log2 + 1) ≤ 53 := by omega
   calc mag * 2 ^ (place - last).toNat < 2 ^ (mag.log2 + 1) * 2 ^ (place - last).toNat := Nat.mul_lt_mul_of_pos_right hm (Nat.two_pow_pos _)
    _ = 2 ^ ((place - last).toNat + (mag.log2 + 1)) := by rw [← Nat.pow_add, Nat.add_comm]
    _ ≤ 2 ^ 53 := Nat.pow_le_pow_right (by omega) e2
  have e1 : (place - last).toNat = 0 := by omega
  rw [e1, Nat.pow_zero, Nat.mul_one, ← Nat.pow_add]
  exact Nat.lt_of_lt_of_le hm (Nat.pow_le_pow_right (by omega) (by omega))
 generalize Toward.even.cut false (mag <<< (place - last).toNat) (last - place).toNat = kept at hk ⊢
 generalize double.infRung = inf
 have h2 : (last - -1074).toNat ≤ (e + 1022).toNat := by omega
 generalize (last - -1074).toNat = q at h2 ⊢
 clear hlast hm h0 h
 simp only [Bool.false_eq_true, if_false]
 have hk' : kept ≤ 9007199254740992 := hk
 have h4 : min (q * 4503599627370496 + kept) inf ≤ q * 4503599627370496 + kept := Nat.min_le_left _ _
 generalize min (q * 4503599627370496 + kept) inf = z at h4 ⊢
 have h5 : (q : Int) ≤ e + 1022 := by omega
 clear hk
 omega
theorem qpQ {w : Nat} {E : Nat} (hE1 : 1 ≤ E) (hE : E ≤ 2000) (h : w ≤ E * 4503599627370496) : ∃ m i, double.read w = .number false m i ∧ m < 9007199254740992 ∧ i ≤ -1075 + E := by
 unfold Format.read
 have hb : double.binade = 4503599627370496 := rfl
 have hl : double.leastPlace = -1074 := rfl
 have hs : double.signWeight = 9223372036854775808 := rfl
 have hi : double.infRung = 9218868437227405312 := rfl
 simp only [hb, hl, hs, hi]
 have h1 : w / 9223372036854775808 = 0 := by omega
 have h2 : w % 9223372036854775808 = w := by omega
 rw [h1, h2]
 by_cases hc : w < 4503599627370496
 ·rw [if_pos hc]
  exact ⟨w, -1074, rfl, by omega, by omega⟩
 rw [if_neg hc, if_pos (by omega)]
 refine ⟨_, _, rfl, by omega, ?_⟩
 have : w / 4503599627370496 ≤ E := by omega
 omega
theorem qmR (n : Nat) : ∀ (todo root : Nat), Datum.rootFrom n todo root < root + 2 ^ todo := by
 intro todo
 induction todo with
 | zero => intro root; simp [Datum.rootFrom]
 | succ k ih =>
   intro root
   rw [Datum.rootFrom]
   rw [Nat.one_shiftLeft]
   have hp : 2 ^ (k + 1) = 2 ^ k + 2 ^ k := by rw [Nat.pow_succ]; omega
   split
   ·have := ih (root + 2 ^ k); omega
   have := ih root; have := Nat.two_pow_pos k; omega
theorem qss {m : Nat} {i : Int} (hm : m < 9007199254740992) (hi : i ≤ -25) : ∃ r : Int, Datum.toInt .zero (.number false m i) = some r ∧ 0 ≤ r ∧ r ≤ 268435456 := by
 unfold Datum.toInt Datum.integral
 refine ⟨_, rfl, ?_⟩
 simp only [signed, Bool.false_eq_true, if_false]
 have e1 : i.toNat = 0 := by omega
 rw [e1, qlu, qlu]
 simp only [Nat.pow_zero, Nat.mul_one]
 have : Toward.zero.cut false m (-i).toNat ≤ 268435456 := by
  unfold Toward.cut
  simp only [Bool.toNat_false, Nat.add_zero, Nat.one_shiftLeft]
  by_cases hd : (-i).toNat ≤ m.log2 + 2
  ·rw [Nat.min_eq_left hd]
   have h2 : 2 ^ 25 ≤ 2 ^ (-i).toNat := Nat.pow_le_pow_right (by omega) (by omega)
   have h3 : m / 2 ^ (-i).toNat ≤ m / 2 ^ 25 := Nat.div_le_div_left h2 (by decide)
   have h4 : (2 : Nat) ^ 25 = 33554432 := by decide
   rw [h4] at h3
   omega
  rw [Nat.min_eq_right (by omega)]
  have hn : m < 2 ^ (m.log2 + 2) := Nat.lt_of_lt_of_le Nat.lt_log2_self (Nat.pow_le_pow_right (by omega) (by omega))
  rw [Nat.div_eq_of_lt hn]
  omega
 constructor
 ·omega
 omega
theorem qqF (n : Nat) (hn : n < 2 ^ 51) : ∃ (y : Nat) (r : Int), FloatKind.f64.format.sqrt (FloatKind.f64.nearest n) = some y ∧ (FloatKind.f64.decode y).toInt .zero = some r ∧ 0 ≤ r ∧ r ≤ 268435456 := by
 have hx : FloatKind.f64.nearest n = double.nearest false n 0 := by
  unfold FloatKind.nearest FloatKind.encode Format.write
  rw [show decide ((n : Int) < 0) = false by simp]
  rfl
 have h1 := qiy (mag := n) (place := 0) (e := 50) (by have := qlv (k := 50) hn; omega) (by omega)
 obtain ⟨m, i, hr, hm, hi⟩ := qpQ (w := double.nearest false n 0) (E := 1074) (by omega) (by omega) (by omega)
 have key : ∀ (mag : Nat) (place : Int), place + mag.log2 ≤ 26 → ∃ r : Int, (double.read (double.nearest false mag place)).toInt .zero = some r ∧ 0 ≤ r ∧ r ≤ 268435456 := by
  intro mag place h
  have h2 := qiy (mag := mag) (place := place) (e := 26) h (by omega)
  obtain ⟨m', i', hr', hm', hi'⟩ := qpQ (w := double.nearest false mag place) (E := 1050) (by omega) (by omega) (by omega)
  rw [hr']
  exact qss hm' (by omega)
 rw [hx, dbl]
 unfold Format.sqrt
 rw [hr]
 unfold Datum.root
 by_cases h0 : m = 0
 ·subst h0
  simp only [if_true, Option.map_some, Format.write]
  obtain ⟨r, g1, g2, g3⟩ := key 0 i (by simp; omega)
  exact ⟨_, r, rfl, g1, g2, g3⟩
 simp only [h0, if_false, Bool.false_eq_true, Option.map_some, Format.write]
 generalize 2 * (double.fractionBits + 2) - m.log2 + ((i - (2 * (double.fractionBits + 2) - m.log2 : Nat)) % 2).toNat = more
 have hnn : m <<< more < 2 ^ (52 + more + 1) := by
  rw [qlu, show 52 + more + 1 = 53 + more by omega, Nat.pow_add]
  exact Nat.mul_lt_mul_of_pos_right (by simpa using hm) (Nat.two_pow_pos _)
 have hlog := qlv hnn
 have hw := qmR (m <<< more) ((m <<< more).log2 / 2 + 1) 0
 generalize hT : (m <<< more).log2 / 2 + 1 = T at hw ⊢
 generalize Datum.rootFrom (m <<< more) T 0 = whole at hw ⊢
 have hbit := Bool.toNat_le (whole * whole != m <<< more)
 generalize (whole * whole != m <<< more).toNat = bit at hbit ⊢
 have hmag : 2 * whole + bit < 2 ^ (T + 1) := by rw [Nat.pow_succ]; omega
 have hl := qlv hmag
 obtain ⟨r, g1, g2, g3⟩ := key (2 * whole + bit) ((i - more) / 2 - 1) (by omega)
 exact ⟨_, r, rfl, g1, g2, g3⟩
end Go.F

namespace Go.F
section
variable {T : Tab} {sh : Shr} {nx0 : Nat} {s : List Fr} {t : q0u} {h : q0f} {z : Frz} {nx : Nat} {q : Ex → q0u → q0f → Frz → Nat → Prop}
variable {base i : Nat} {res : List Nat} {dst : Nat} {g : Gd} {rest : List KOper}
theorem q2o {f : FuncId} {args : List X} {bs : List D} {rows : List (List D × Nat × Nat)} {r : D} (hs : T.shared f = false)
 (ha : qpG (g.h base h) (args.map (·.ev t)) = some (rows, bs)) (hr : q4B rows) (hp : T.pu f bs = some r)
 (hk : ∀ z, wpM T sh nx0 (.ops base res rest :: s) .normal (upd t dst r) h z nx q) :
 wpM T sh nx0 (.ops base res (⟨i, some dst, none, g, .callF f args⟩ :: rest) :: s) .normal t h z nx q := by
 refine q4A ?_
 simp only [kop, q8G, hs]
 refine qeM ha hr ?_
 unfold qdY
 refine ⟨r, hp, ?_⟩
 simp only [q8O]
 split
 ·exact hk _
 split
 ·exact hk _
 exact hk _
theorem q58 {f : FuncId} {args : List X} {bs : List D} {rows : List (List D × Nat × Nat)} {r : D} (hs : T.shared f = false)
 (ha : qpG (g.h base h) (args.map (·.ev t)) = some (rows, bs)) (hr : q4B rows) (hp : T.pu f bs = some r) (hn : noRef 4 r = true)
 (hk : wpM T sh nx0 (.ops base res rest :: s) .normal (upd t dst r) h z nx q) :
 wpM T sh nx0 (.ops base res (⟨i, some dst, none, g, .callF f args⟩ :: rest) :: s) .normal t h z nx q := by
 refine q4A ?_
 simp only [kop, q8G, hs]
 refine qeM ha hr ?_
 unfold qdY
 refine ⟨r, hp, ?_⟩
 simp only [q8O, hn]
 exact hk
theorem quR {n : Nat} {sx x : X} {dst : Option Nat} {id off len : Nat} {es l : List D} {esz : Nat} (hs : sx.ev t = .ref id off len) (hr : g.h base h id = some (.row es esz)) (he : Nat.beq n esz = true) (hx : x.ev t = .lst l)
 (hc : l.all (fun d => d.cells.length == n) = true) (hb : off + len ≤ es.length) (hz : g.z base z id ≤ off)
 (hk : wpM T sh nx0 (.ops base res rest :: s) .normal (put t dst (.int .i64 (min l.length len : Nat))) (upd h id (some (.row (es.take off ++ l.take (min l.length len) ++ es.drop (off + min l.length len)) esz))) z nx q) :
 wpM T sh nx0 (.ops base res (⟨i, dst, none, g, .copy n sx x⟩ :: rest) :: s) .normal t h z nx q := by
 refine q4A ?_
 simp only [kop, qsE, hs, hr, he, hx, q53]
 exact qfX hc (q1p ⟨hb, hz⟩ hk)
theorem q0Y {e : EqK} {x y : X} {kk kk' : IntKind} {a b : Int} (n k : Nat) (hx : x.ev t = .int kk a) (hy : y.ev t = .int kk' b) (ha : a = n) (hb : b = k) (hkb : k ≤ kk.bits)
 (hk : wpM T sh nx0 (.ops base res rest :: s) .normal (upd t dst (.int kk ((n / 2 ^ k : Nat) : Int))) h z nx q) :
 wpM T sh nx0 (.ops base res (⟨i, some dst, none, g, .bin .shr e x y⟩ :: rest) :: s) .normal t h z nx q := by
 subst ha; subst hb
 refine atShr hx hy (by omega) ?_
 rw [Int.toNat_natCast, Nat.min_eq_left hkb]
 have e : ((n : Int)).fdiv (2 ^ k) = ((n / 2 ^ k : Nat) : Int) := by
  rw [show ((2 : Int) ^ k) = ((2 ^ k : Nat) : Int) by simp]
  rw [Int.fdiv_eq_ediv_of_nonneg _ (Int.natCast_nonneg _)]
  rfl
 rw [e]
 exact hk
theorem q6N {e : EqK} {x y : X} {kk kk' : IntKind} {a b : Int} (n k : Nat) (hx : x.ev t = .int kk a) (hy : y.ev t = .int kk' b) (ha : a = n) (hb : b = k) (hkb : k ≤ kk.bits) (hw : kk.wrap ((n * 2 ^ k : Nat) : Int) = ((n * 2 ^ k : Nat) : Int))
 (hk : wpM T sh nx0 (.ops base res rest :: s) .normal (upd t dst (.int kk ((n * 2 ^ k : Nat) : Int))) h z nx q) :
 wpM T sh nx0 (.ops base res (⟨i, some dst, none, g, .bin .shl e x y⟩ :: rest) :: s) .normal t h z nx q := by
 subst ha; subst hb
 refine atShl hx hy (by omega) ?_
 rw [Int.toNat_natCast, Nat.min_eq_left hkb]
 have e : ((n : Int)) * 2 ^ k = ((n * 2 ^ k : Nat) : Int) := by simp
 rw [e, hw]
 exact hk
def setMN (nx0 : Nat) (live : Live) (t : q0u) (h : q0f) (z : Frz) (nx : Nat) : Option (List (List D) × q0f × Frz × Kept) :=
 match qbC live t h z nx with
 | (t, h, z) =>
   match qhC t h live with
   | some rows => fL1 (q9R nx0 (q0x t live) t live) fun vs => fLi (q9S nx0 (q0x t live) h (q0x t live) nx0) fun bs => fNs (qfu nx0 (q0x t live) z (q0x t live) nx0) fun zs => some (rows, h, z, vs, bs, zs)
   | none => none
theorem q3C {live : Live} {rows : List (List D)} {h' : q0f} {z' : Frz} {kp : Kept} {K : q0f → Frz → Kept → Prop} (hs : setMN nx0 live t h z nx = some (rows, h', z', kp)) (hp : qdE rows) (hk : K h' z' kp) (hnst : q6u live = false := by rfl) : q0Z nx0 live t h z nx K := by
 unfold setMN at hs
 split at hs
 rename_i t1 h1 z1 hn
 split at hs
 ·rename_i rows1 hr
  simp only [q5w, qjM, qmA, Option.some.injEq, Prod.mk.injEq] at hs
  obtain ⟨rfl, rfl, rfl, rfl⟩ := hs
  unfold q0Z
  simp only [hnst]
  unfold q75
  refine qfV _ _ _ _ _ _ fun nx' => ?_
  rw [hn]
  refine qjN hr hp ?_
  rw [q6K, q6L]
  exact hk
 cases hs
theorem qbh {α : Type} (S : α → Kept) (O : α → q0f → Frz → Prop) (C : α → Prop) (m : α → Nat) {live : Live} {c : K}
 (a : α) (hC : C a) (hm : m a < 2 ^ 62) (h0 : q0Z nx0 live t h z nx fun h z kp => kp = S a ∧ O a (q17 h) z)
 (hr : ∀ a, C a → ∀ (ho : q0f) (zo : Frz), O a ho zo → ∀ N : q0u → q0f → Frz → Nat → Prop, (∀ a' {t : q0u} {h : q0f} {z : Frz} {nx : Nat}, C a' → m a' < m a → (q0Z nx0 live t h z nx fun h z kp => kp = S a' ∧ O a' (q17 h) z) → N t h z nx) →
   wpM T sh nx0 [.code c] .normal (mkT live (S a).1) (mkF nx0 ho none (S a).2.1 nx0) (mkF nx0 zo 0 (S a).2.2 nx0) (nx0 + live.length) fun ex t h z nx =>
    match ex with
    | .normal => N t h z nx
    | .exit i => wpM T sh nx0 s (.exit i) t h z nx q
    | .ret => wpM T sh nx0 s .ret t h z nx q) :
 wpM T sh nx0 (.code (.loop live c) :: s) .normal t h z nx q := by
 simp only [wpM, wp] at hr ⊢
 unfold qn4
 have key : ∀ (n : Nat) (a : α), C a → m a ≤ n → ∀ (fuel : Nat), n < fuel → ∀ (t : q0u) (h : q0f) (z : Frz) (nx : Nat), (q0Z nx0 live t h z nx fun h z kp => kp = S a ∧ O a (q17 h) z) →
  q40 nx0 live (fun t h z nx q => wp T sh nx0 c t h z nx q) fuel t h z nx fun ex t h z nx => wpM T sh nx0 s ex t h z nx q := by
  intro n
  induction n with
  | zero =>
    intro a hC hm fuel hf t h z nx hst
    obtain ⟨fuel, rfl⟩ : ∃ k, fuel = k + 1 := ⟨fuel - 1, by omega⟩
    simp only [q40]
    obtain ⟨h1, z1, kp, g1, g2⟩ := q9h hst
    refine g2 _ ?_
    obtain ⟨rfl, g3⟩ := g1
    exact hr a hC _ _ g3 (fun t h z nx => q40 nx0 live (fun t h z nx q => wp T sh nx0 c t h z nx q) fuel t h z nx fun ex t h z nx => wpM T sh nx0 s ex t h z nx q) (fun a' _ _ _ _ _ hlt _ => absurd hlt (by omega))
  | succ n ih =>
    intro a hC hm fuel hf t h z nx hst
    obtain ⟨fuel, rfl⟩ : ∃ k, fuel = k + 1 := ⟨fuel - 1, by omega⟩
    simp only [q40]
    obtain ⟨h1, z1, kp, g1, g2⟩ := q9h hst
    refine g2 _ ?_
    obtain ⟨rfl, g3⟩ := g1
    exact hr a hC _ _ g3 (fun t h z nx => q40 nx0 live (fun t h z nx q => wp T sh nx0 c t h z nx q) fuel t h z nx fun ex t h z nx => wpM T sh nx0 s ex t h z nx q)
     (fun a' t h z nx h1 hlt hst => ih a' h1 (by omega) fuel (by omega) t h z nx hst)
 exact key (m a) a hC (Nat.le_refl _) q8q hm t h z nx h0
end
end Go.F

namespace Go.F
def val : List Nat → Nat
 | [] => 0
 | x :: l => x + 4294967296 * val l
def qd0 : Nat → Nat → List Nat
 | 0, _ => []
 | k + 1, n => if n = 0 then [] else n % 4294967296 :: qd0 k (n / 4294967296)
def q0d (n : Nat) : List Nat := qd0 n n
def dg (l : List Nat) (i : Nat) : Nat := l.getD i 0
class LOk (l : List Nat) : Prop where
 lt : ∀ x ∈ l, x < 4294967296
theorem qng : ∀ (k j n : Nat), n ≤ k → n ≤ j → qd0 k n = qd0 j n := by
 intro k
 induction k with
 | zero =>
   intro j n h1 h2
   obtain rfl : n = 0 := by omega
   cases j <;> simp [qd0]
 | succ k ih =>
   intro j n h1 h2
   cases j with
   | zero =>
     obtain rfl : n = 0 := by omega
     simp [qd0]
   | succ j =>
     simp only [qd0]
     split
     ·rfl
     rw [ih j (n / 4294967296) (by omega) (by omega)]
theorem q5u : q0d 0 = [] := rfl
theorem q3P {n : Nat} (h : n ≠ 0) : q0d n = n % 4294967296 :: q0d (n / 4294967296) := by
 obtain ⟨k, rfl⟩ : ∃ k, n = k + 1 := ⟨n - 1, by omega⟩
 unfold q0d
 rw [qd0, if_neg h, qng k ((k + 1) / 4294967296) _ (by omega) (Nat.le_refl _)]
theorem qgv {P : Nat → Prop} (h0 : P 0) (h1 : ∀ n, n ≠ 0 → P (n / 4294967296) → P n) (n : Nat) : P n := by
 induction n using Nat.strongRecOn with
 | _ n ih =>
   by_cases h : n = 0
   ·subst h; exact h0
   exact h1 n h (ih _ (by omega))
theorem q0i (n : Nat) : val (q0d n) = n := by
 induction n using qgv with
 | h0 => rfl
 | h1 n hn ih => rw [q3P hn, val, ih]; omega
instance q0w (n : Nat) : LOk (q0d n) := by
 refine ⟨?_⟩
 induction n using qgv with
 | h0 => intro x hx; simp [q5u] at hx
 | h1 n hn ih =>
   rw [q3P hn]
   intro x hx
   rcases List.mem_cons.1 hx with rfl | hx
   ·omega
   exact ih x hx
theorem q0l {n k : Nat} : (q0d n).length ≤ k ↔ n < 4294967296 ^ k := by
 induction k generalizing n with
 | zero =>
   rw [Nat.pow_zero]
   by_cases h : n = 0
   ·subst h; simp [q5u]
   rw [q3P h]; simp; omega
 | succ k ih =>
   by_cases h : n = 0
   ·subst h; simp only [q5u, List.length_nil, Nat.zero_le, true_iff]; exact Nat.pow_pos (by decide)
   rw [q3P h, List.length_cons, Nat.add_le_add_iff_right, ih, Nat.pow_succ]
   exact Nat.div_lt_iff_lt_mul (by decide)
theorem q2Y {n : Nat} : 0 < (q0d n).length ↔ n ≠ 0 := by
 by_cases h : n = 0
 ·subst h; simp [q5u]
 rw [q3P h]; simp [h]
theorem qgw {n : Nat} : q0d n = [] ↔ n = 0 := by
 by_cases h : n = 0
 ·subst h; simp [q5u]
 rw [q3P h]; simp [h]
theorem val_append (a b : List Nat) : val (a ++ b) = val a + 4294967296 ^ a.length * val b := by
 induction a with
 | nil => simp [val]
 | cons x a ih => rw [List.cons_append, val, ih, val, List.length_cons, Nat.pow_succ, Nat.mul_add, ← Nat.mul_assoc, Nat.mul_comm 4294967296 (_ ^ _)]; omega
theorem q69 (a : List Nat) (x : Nat) : val (a ++ [x]) = val a + 4294967296 ^ a.length * x := by
 rw [val_append]; simp [val]
theorem qab (k : Nat) : val (List.replicate k 0) = 0 := by
 induction k with
 | zero => rfl
 | succ k ih => rw [List.replicate_succ, val, ih]
theorem LOk.cons {x : Nat} {l : List Nat} (h : LOk (x :: l)) : x < 4294967296 ∧ LOk l :=
 ⟨h.lt x (by simp), ⟨fun y hy => h.lt y (by simp [hy])⟩⟩
theorem LOk.append {a b : List Nat} (h : LOk a) (g : LOk b) : LOk (a ++ b) :=
 ⟨fun x hx => by rcases List.mem_append.1 hx with h1 | h1; exact h.lt x h1; exact g.lt x h1⟩
theorem LOk.snoc {a : List Nat} {x : Nat} (h : LOk a) (g : x < 4294967296) : LOk (a ++ [x]) :=
 h.append ⟨fun y hy => by simp at hy; omega⟩
theorem LOk.take {a : List Nat} (h : LOk a) (k : Nat) : LOk (a.take k) := ⟨fun x hx => h.lt x (List.mem_of_mem_take hx)⟩
theorem LOk.drop {a : List Nat} (h : LOk a) (k : Nat) : LOk (a.drop k) := ⟨fun x hx => h.lt x (List.mem_of_mem_drop hx)⟩
theorem LOk.set {a : List Nat} (h : LOk a) (k : Nat) {v : Nat} (hv : v < 4294967296) : LOk (a.set k v) :=
 ⟨fun x hx => by rcases List.mem_or_eq_of_mem_set hx with h1 | h1; exact h.lt x h1; omega⟩
theorem q4L (k : Nat) : LOk (List.replicate k 0) := ⟨fun x hx => by rw [(List.mem_replicate.1 hx).2]; decide⟩
instance qj1 : LOk [] := ⟨by simp⟩
theorem q2K {l : List Nat} (h : LOk l) : val l < 4294967296 ^ l.length := by
 induction l with
 | nil => simp [val]
 | cons x l ih =>
   obtain ⟨h1, h2⟩ := h.cons
   have := ih h2
   rw [val, List.length_cons, Nat.pow_succ]
   omega
theorem q19 {l : List Nat} (h : LOk l) (i : Nat) : dg l i < 4294967296 := by
 unfold dg
 rw [List.getD_eq_getElem?_getD]
 cases hx : l[i]? with
 | none => simp
 | some x => simp; exact h.lt x (List.mem_of_getElem? hx)
theorem q7E {l : List Nat} {i : Nat} (h : l.length ≤ i) : dg l i = 0 := by
 unfold dg; rw [List.getD_eq_getElem?_getD, List.getElem?_eq_none h]; rfl
theorem qgx {l : List Nat} {i : Nat} (h : i < l.length) : dg l i = l[i] := by simp [dg, h]
theorem qq3 {l : List Nat} {k : Nat} (h : k < l.length) : l.take (k + 1) = l.take k ++ [dg l k] := by
 rw [List.take_succ_eq_append_getElem h, qgx h]
theorem q0H (l : List Nat) (k : Nat) : val (l.take (k + 1)) = val (l.take k) + 4294967296 ^ k * dg l k := by
 by_cases h : k < l.length
 ·rw [qq3 h, q69, List.length_take, Nat.min_eq_left (Nat.le_of_lt h)]
 rw [List.take_of_length_le (by omega), List.take_of_length_le (by omega), q7E (by omega)]; simp
theorem q2A (l : List Nat) (k : Nat) : val (l.drop k) = dg l k + 4294967296 * val (l.drop (k + 1)) := by
 by_cases h : k < l.length
 ·rw [List.drop_eq_getElem_cons h, val, qgx h]
 rw [List.drop_of_length_le (by omega), List.drop_of_length_le (by omega), q7E (by omega)]; rfl
theorem q2w (l : List Nat) (k : Nat) : val l = val (l.take k) + 4294967296 ^ k * val (l.drop k) := by
 by_cases h : k ≤ l.length
 ·have := val_append (l.take k) (l.drop k)
  rw [List.take_append_drop, List.length_take, Nat.min_eq_left h] at this
  exact this
 rw [List.take_of_length_le (by omega), List.drop_of_length_le (by omega)]; simp [val]
theorem qoR : ∀ {l : List Nat} (_ : LOk l) (i : Nat), dg l i = val l / 4294967296 ^ i % 4294967296 := by
 intro l
 induction l with
 | nil => intro _ i; simp [dg, val]
 | cons x l ih =>
   intro h i
   obtain ⟨h1, h2⟩ := h.cons
   cases i with
   | zero => simp [dg, val]; omega
   | succ i =>
     have := ih h2 i
     have e : dg (x :: l) (i + 1) = dg l i := by simp [dg]
     rw [e, this, val, Nat.pow_succ, Nat.mul_comm (4294967296 ^ i), ← Nat.div_div_eq_div_mul]
     congr 2
     omega
theorem qhO {l : List Nat} (hl : l ≠ []) (h : dg l (l.length - 1) ≠ 0) : val l ≠ 0 := by
 have hlen : 0 < l.length := List.length_pos_iff.2 hl
 have := q2w l (l.length - 1)
 rw [q2A, Nat.sub_add_cancel hlen, List.drop_length] at this
 simp only [val, Nat.mul_zero, Nat.add_zero] at this
 intro h0
 rw [h0] at this
 have hp : 0 < 4294967296 ^ (l.length - 1) * dg l (l.length - 1) := Nat.mul_pos (Nat.pow_pos (by decide)) (by omega)
 omega
theorem qqX {l : List Nat} (h : LOk l) (hl : l = [] ∨ dg l (l.length - 1) ≠ 0) : q0d (val l) = l := by
 induction l with
 | nil => rfl
 | cons x l ih =>
   obtain ⟨h1, h2⟩ := h.cons
   rcases hl with hl | hl
   ·cases hl
   have hv := qhO (l := x :: l) (by simp) hl
   rw [q3P hv]
   have e1 : val (x :: l) % 4294967296 = x := by rw [val]; omega
   have e2 : val (x :: l) / 4294967296 = val l := by rw [val]; omega
   rw [e1, e2, ih h2]
   by_cases hn : l = []
   ·exact .inl hn
   refine .inr ?_
   obtain ⟨m, hm⟩ : ∃ m, l.length = m + 1 := ⟨l.length - 1, by have := List.length_pos_iff.2 hn; omega⟩
   simp only [List.length_cons, Nat.add_sub_cancel, hm] at hl ⊢
   simpa [dg] using hl
theorem qkN {n : Nat} (h : n ≠ 0) : dg (q0d n) ((q0d n).length - 1) ≠ 0 := by
 induction n using qgv with
 | h0 => exact absurd rfl h
 | h1 n hn ih =>
   rw [q3P hn]
   by_cases hd : n / 4294967296 = 0
   ·rw [hd, q5u]; simp [dg]; omega
   have := ih hd
   have hp := q2Y.2 hd
   obtain ⟨m, hm⟩ : ∃ m, (q0d (n / 4294967296)).length = m + 1 := ⟨_, (Nat.sub_add_cancel hp).symm⟩
   simp only [List.length_cons, Nat.add_sub_cancel, hm] at this ⊢
   simpa [dg] using this
theorem qkO {l : List Nat} {n : Nat} (h : LOk l) (hn : n ≤ l.length) (h0 : ∀ i, n ≤ i → dg l i = 0) (h1 : n = 0 ∨ dg l (n - 1) ≠ 0) : l.take n = q0d (val l) := by
 have hz : ∀ k j, n ≤ j → j + k = l.length → val (l.drop j) = 0 := by
  intro k
  induction k with
  | zero => intro j _ hj; rw [List.drop_of_length_le (by omega)]; rfl
  | succ k ih => intro j hj hk; rw [q2A, h0 j hj, ih (j + 1) (by omega) (by omega)]
 have hv : val l = val (l.take n) := by
  rw [q2w l n, hz (l.length - n) n (Nat.le_refl _) (by omega)]; simp
 rw [hv, qqX (h.take n)]
 by_cases hn0 : n = 0
 ·left; simp [hn0]
 right
 rcases h1 with h1 | h1
 ·exact absurd h1 hn0
 rw [List.length_take, Nat.min_eq_left hn]
 simpa [dg, List.getElem?_take, show n - 1 < n by omega] using h1
theorem qfy {l : List Nat} {i v : Nat} (h : i < l.length) : val (l.set i v) + 4294967296 ^ i * dg l i = val l + 4294967296 ^ i * v := by
 induction l generalizing i with
 | nil => simp at h
 | cons x l ih =>
   cases i with
   | zero => simp [val, dg]; omega
   | succ i =>
     have := ih (i := i) (by simpa using h)
     have e : dg (x :: l) (i + 1) = dg l i := by simp [dg]
     rw [List.set_cons_succ, val, val, e, Nat.pow_succ]
     have e1 : 4294967296 ^ i * 4294967296 * dg l i = 4294967296 * (4294967296 ^ i * dg l i) := by rw [Nat.mul_comm (4294967296 ^ i), Nat.mul_assoc]
     have e2 : 4294967296 ^ i * 4294967296 * v = 4294967296 * (4294967296 ^ i * v) := by rw [Nat.mul_comm (4294967296 ^ i), Nat.mul_assoc]
     rw [e1, e2]
     omega
theorem q2Z {l : List Nat} {i j v : Nat} : dg (l.set i v) j = if i = j ∧ j < l.length then v else dg l j := by
 unfold dg
 rw [List.getD_eq_getElem?_getD, List.getD_eq_getElem?_getD, List.getElem?_set]
 split
 ·rename_i h; subst h
  split
  ·rename_i h2; simp [h2]
  rename_i h2; simp [h2]
 rename_i h; simp [h]
theorem qj2 {a b : List Nat} {i : Nat} (h : i < a.length) : dg (a ++ b) i = dg a i := by
 simp [dg, List.getElem?_append_left h]
theorem qhP {a b : List Nat} {i : Nat} (h : a.length ≤ i) : dg (a ++ b) i = dg b (i - a.length) := by
 simp [dg, List.getElem?_append_right h]
theorem q78 (k i : Nat) : dg (List.replicate k 0) i = 0 := by
 simp only [dg, List.getD_eq_getElem?_getD, List.getElem?_replicate]; split <;> rfl
theorem q4e (p t : Nat) : p * (t % 4294967296) + p * 4294967296 * (t / 4294967296) = p * t := by
 rw [Nat.mul_assoc, ← Nat.mul_add, Nat.mod_add_div]
def u32 (n : Nat) : D := .int .u32 n
def nat (l : List Nat) : D := .lst (l.map u32)
theorem q2f {l : List Nat} {i : Nat} (h : i < l.length) : (l.map u32)[i]? = some (u32 (dg l i)) := by simp [dg, h]
theorem q0p (n : Nat) : plain 4 (u32 n) = true := rfl
theorem qq4 (n : Nat) : dat 4 (u32 n) = true := rfl
theorem q0V (n : Nat) : IntKind.u32.wrap (n : Int) = ((n % 4294967296 : Nat) : Int) := by
 simp [IntKind.wrap, IntKind.bits, IntKind.signed]
theorem qac (n : Int) : IntKind.u32.wrap n = n % 4294967296 := by
 simp [IntKind.wrap, IntKind.bits, IntKind.signed]
theorem q0I (n : Int) : IntKind.u64.wrap n = n % 18446744073709551616 := by
 simp [IntKind.wrap, IntKind.bits, IntKind.signed]
theorem q0y {n : Nat} (h : n < 18446744073709551616) : IntKind.u64.wrap (n : Int) = (n : Int) := by
 rw [q0I]; omega
end Go.F

namespace Go.F
theorem kn_gt {U V P ut vt q : Nat} (hU : U < (ut + 1) * P) (hV : vt * P ≤ V) (hV0 : 0 < V) (h : ut < q * vt) : U / V < q := by
 rw [Nat.div_lt_iff_lt_mul hV0]
 calc U < (ut + 1) * P := hU
  _ ≤ q * vt * P := Nat.mul_le_mul_right _ h
  _ = q * (vt * P) := Nat.mul_assoc _ _ _
  _ ≤ q * V := Nat.mul_le_mul_left _ hV
theorem kn_le {U V P ut vt q B : Nat} (hU : ut * P ≤ U) (hV : V < (vt + 1) * P) (hV0 : B * P ≤ V) (hp : 0 < V) (hq : q < B) (h : q * vt ≤ ut) : q ≤ U / V + 1 := by
 by_cases h0 : q = 0
 ·rw [h0]; exact Nat.zero_le _
 have h1 : q * V ≤ U + V := by
  calc q * V ≤ q * ((vt + 1) * P) := Nat.mul_le_mul_left _ (Nat.le_of_lt hV)
   _ = q * vt * P + q * P := by rw [← Nat.mul_assoc, Nat.mul_add, Nat.add_mul, Nat.mul_one]
   _ ≤ ut * P + B * P := Nat.add_le_add (Nat.mul_le_mul_right _ h) (Nat.mul_le_mul_right _ (Nat.le_of_lt hq))
   _ ≤ U + V := Nat.add_le_add hU hV0
 have h2 : (q - 1) * V ≤ U := by
  obtain ⟨k, rfl⟩ : ∃ k, q = k + 1 := ⟨q - 1, by omega⟩
  rw [Nat.add_mul, Nat.one_mul] at h1
  simpa using h1
 have := (Nat.le_div_iff_mul_le hp).2 h2
 omega
end Go.F

namespace Go.F
attribute [local irreducible] IntKind.wrap wpM
theorem qqY {r : List Nat} {k : Nat} (v : Nat) : (r.map u32).set k (.int .u32 v) = (r.set k v).map u32 := by
 rw [List.map_set]; rfl
section
variable {T : Tab} {sh : Shr} {nx0 : Nat} {s : List Fr} {t : q0u} {h : q0f} {z : Frz} {nx : Nat} {q : Ex → q0u → q0f → Frz → Nat → Prop}
variable {base i : Nat} {res : List Nat} {g : Gd} {rest : List KOper}
theorem q1C {hint : Bool} {a v : X} {dst : Option Nat} {id k' : Nat} {w' : Int} (r : List Nat) (k w : Nat) (ha : a.ev t = .ptr id k' 0) (hv : v.ev t = .int .u32 w') (hkk : k' = k) (hw : w' = w) (hr : g.h base h id = some (.row (r.map u32) 1)) (hz : g.z base z id ≤ k) (hl : k < r.length)
 (hk : wpM T sh nx0 (.ops base res rest :: s) .normal (put t dst (.tup [])) (upd h id (some (.row ((r.set k w).map u32) 1))) z nx q) :
 wpM T sh nx0 (.ops base res (⟨i, dst, none, g, .store hint 1 a v⟩ :: rest) :: s) .normal t h z nx q := by
 subst hkk; subst hw
 refine qof (e' := .int .u32 w) ha (by rw [hv]; rfl) hr hz (q2f hl) (by rw [hv]; rfl) ?_
 rw [qqY]
 exact hk
theorem q4f {hint : Bool} {a : X} {dst : Nat} {id k' : Nat} (r : List Nat) (k : Nat) (ha : a.ev t = .ptr id k' 0) (hkk : k' = k) (hr : g.h base h id = some (.row (r.map u32) 1)) (hl : k < r.length)
 (hk : wpM T sh nx0 (.ops base res rest :: s) .normal (upd t dst (.int .u32 (dg r k))) h z nx q) :
 wpM T sh nx0 (.ops base res (⟨i, some dst, none, g, .load hint false 1 a⟩ :: rest) :: s) .normal t h z nx q := by
 subst hkk
 exact qqt ha hr (q2f hl) rfl hk
end
theorem q2l (l : List Nat) [ho : LOk l] (hl : l.length ≤ 4000000000) : PU q0L [nat l] = some (nat (q0d (val l))) := by
 refine q0h (fn := q8g) rfl (q0c ?_)
 refine gg rfl (q0q (S := fun n : Nat => ([nat l, q00 n], [none, none], [0, 0])) (C := fun n => n ≤ l.length ∧ ∀ i, n ≤ i → dg l i = 0) (m := fun n => n) l.length ⟨Nat.le_refl _, fun i hi => q7E hi⟩ (by omega) ?_ ?_)
 ·exact q03 rfl trivial (by simp [nat, q00])
 intro n ⟨hn, h0⟩ N hN
 have fin : (n = 0 ∨ dg l (n - 1) ≠ 0) → D.lst ((l.map u32).take n) = nat (q0d (val l)) := fun h => by
  rw [nat, ← qkO ho hn h0 h, List.map_take]
 refine gg rfl (q05 rfl (fun h1 => ?_) (fun h1 => ?_))
 ·rw [q06] at h1
  have w1 : IntKind.i64.wrap ((n : Int) - 1) = ((n - 1 : Nat) : Int) := by rw [wrap64 (by omega) (by omega)]; omega
  refine gg rfl (q0k (n - 1) rfl rfl w1 (q2f (by omega)) rfl ?_)
  refine gg rfl (q02 rfl (fun h2 => ?_) (fun h2 => ?_))
  ·rw [q12] at h2
   refine gg rfl (q04 (hN (n - 1) ⟨by omega, fun i hi => ?_⟩ (by omega) (q03 rfl trivial (by simp [nat, q00, w1]))))
   by_cases hin : i = n - 1
   ·subst hin; omega
   exact h0 i (by omega)
  rw [q1a] at h2
  refine gg rfl (q04 (gg rfl (qdM n rfl (q1X (f := u32) (n := 1) (fun _ => rfl) _) ⟨_, _, rfl, rfl⟩ (by simpa using hn) ?_)))
  refine gg rfl (q08 rfl rfl rfl trivial (fin (.inr ?_)))
  omega
 rw [q07] at h1
 refine gg rfl (q0m rfl (gg rfl (q04 (gg rfl (qdM n rfl (q1X (f := u32) (n := 1) (fun _ => rfl) _) ⟨_, _, rfl, rfl⟩ (by simpa using hn) ?_)))))
 refine gg rfl (q08 rfl rfl rfl trivial (fin (.inl (by omega))))
theorem q3y {l : List Nat} {n : Nat} (hn : n = l.length) : 0 + n ≤ (l.map u32).length ∧ (((l.map u32).drop 0).take n).all (dat 4) = true := by
 subst hn
 refine ⟨by simp, ?_⟩
 rw [List.drop_zero, List.take_of_length_le (by simp)]
 exact q1t qq4 _
theorem q3U {l : List Nat} {n : Nat} (hn : n = l.length) : D.lst ((l.map u32).take n) = nat l := by
 subst hn
 rw [nat, List.take_of_length_le (by simp)]
theorem q6V (n : Nat) (hn : n < 18446744073709551616) : PU q4w [.int .u64 n] = some (nat (q0d n)) := by
 have : LOk [n % 4294967296, n / 4294967296] := ⟨by simp; omega⟩
 have hp := q2l [n % 4294967296, n / 4294967296] (by simp)
 have hv : val [n % 4294967296, n / 4294967296] = n := by simp [val]; omega
 rw [hv] at hp
 refine q0h (fn := qaE) rfl (q0c ?_)
 refine gg rfl (q0Y n 32 rfl rfl rfl rfl (by decide) ?_)
 refine gg rfl ?_
 rw [q0V, q0V, show n / 2 ^ 32 % 4294967296 = n / 4294967296 by omega]
 exact q2o rfl rfl ⟨q3y (l := [n % 4294967296, n / 4294967296]) rfl, trivial⟩ hp fun z => (gg rfl (q08 rfl rfl rfl trivial rfl))
theorem q54 (l : List Nat) [ho : LOk l] (hl : l.length ≤ 4000000000) : PU q4c [nat l] = some (nat (q0d (val l))) := by
 have hlen : (q0d (val l)).length ≤ l.length := q0l.2 (q2K ho)
 refine q0h (fn := q8j) rfl (q0c ?_)
 refine gg rfl (q01 rfl rfl (q2l l hl) (gg rfl (q4H (q0d (val l)).length rfl rfl (by simp) (by simp [q0U]; omega) ?_)))
 refine gg rfl (quR rfl rfl rfl rfl (q1X (f := u32) (n := 1) (fun _ => rfl) _) (by simp) (Nat.zero_le _) ?_)
 refine gg rfl ?_
 have e : List.take 0 (List.replicate (q0d (val l)).length (D.int IntKind.u32 0)) ++ ((q0d (val l)).map u32).take (min ((q0d (val l)).map u32).length (q0d (val l)).length) ++ (List.replicate (q0d (val l)).length (D.int IntKind.u32 0)).drop (0 + min ((q0d (val l)).map u32).length (q0d (val l)).length) = (q0d (val l)).map u32 := by
  simp
  rw [List.take_of_length_le (by simp)]
 rw [e]
 exact q08 rfl rfl rfl ⟨q3y rfl, trivial⟩ (q3U rfl)
theorem qeD (n : Nat) : PU q3v [.int .u32 n] = some (.bool false) := by
 refine q0h (fn := q5k) rfl (q0c ?_)
 repeat' (first
  | refine goP 800 rfl rfl ?_
  | refine q0e rfl ?_ | refine q0j rfl ?_ | refine q05 rfl (fun _ => ?_) (fun _ => ?_)
  | refine q0g rfl ?_ | refine q0m rfl ?_ | refine q02 rfl (fun _ => ?_) (fun _ => ?_)
  | refine q0G rfl (fun _ => ?_) (fun _ => ?_)
  | refine q08 rfl rfl rfl trivial ?_)
 simp [nqb]
theorem qlQ (a b : Nat) : PU q74 [.int .u32 a, .int .u32 b] = some (.int .i64 (q3q a b)) := by
 refine q0h (fn := q44) rfl (q0c ?_)
 repeat' (first
  | refine goP 800 rfl rfl ?_
  | refine q0e rfl ?_ | refine q0j rfl ?_ | refine q05 rfl (fun _ => ?_) (fun _ => ?_)
  | refine q0g rfl ?_ | refine q0m rfl ?_ | refine q02 rfl (fun _ => ?_) (fun _ => ?_)
  | refine q0G rfl (fun _ => ?_) (fun _ => ?_)
  | refine q08 rfl rfl rfl trivial ?_
  | refine q01 rfl rfl (qeD _) ?_)
 all_goals ((try simp only [q1H, q1I, q2i, q3Q, decide_eq_true_eq, decide_eq_false_iff_not, Bool.not_eq_true, Bool.not_eq_false, Int.not_lt, Int.not_le] at *); first | (simp_all [q3q]; done) | (simp_all [q3q]; omega) | (rw [D.bool.injEq, Bool.eq_iff_iff]; simp [q3q]; omega) | (rw [D.bool.injEq, Bool.eq_iff_iff]; simp_all [q3q]; omega) | (simp [q3q]; split <;> (try split) <;> omega))
theorem qkQ {a b : List Nat} (ha : LOk a) {i : Nat} (h : a.drop (i + 1) = b.drop (i + 1)) (hi : dg a i < dg b i) : val a < val b := by
 have e1 := q2w a i
 have e2 := q2w b i
 rw [q2A] at e1 e2
 rw [h] at e1
 have h1 := q2K (ha.take i)
 have h3 : 4294967296 ^ (a.take i).length ≤ 4294967296 ^ i := Nat.pow_le_pow_right (by decide) (by simp; omega)
 generalize 4294967296 ^ i = P at *
 generalize 4294967296 * val (List.drop (i + 1) b) = R at *
 have h2 : P * (dg a i + R) + P ≤ P * (dg b i + R) := by
  rw [← Nat.mul_succ]; exact Nat.mul_le_mul_left _ (by omega)
 omega
theorem qj3 (a b : List Nat) [ha : LOk a] [hb : LOk b] (hla : a.length ≤ 1000000000) (hlb : b.length ≤ 1000000000) : PU q21 [nat a, nat b] = some (.int .i64 (q3q (val a) (val b))) := by
 have ea : val (q0d (val a)) = val a := q0i _
 have eb : val (q0d (val b)) = val b := q0i _
 have hla' : (q0d (val a)).length ≤ a.length := q0l.2 (q2K ha)
 have hlb' : (q0d (val b)).length ≤ b.length := q0l.2 (q2K hb)
 refine q0h (fn := q9x) rfl (q0c ?_)
 refine gg rfl (q01 rfl rfl (q2l a (by omega)) ?_)
 refine gg rfl (q01 rfl rfl (q2l b (by omega)) ?_)
 refine gg rfl (q01 rfl rfl (qet _ _) (gg rfl ?_))
 rw [List.length_map, List.length_map]
 refine q02 rfl (fun h1 => ?_) (fun h1 => ?_)
 ·rw [q0z] at h1
  refine gg rfl (q08 rfl rfl rfl trivial ?_)
  congr 1
  unfold q3q at h1 ⊢
  rcases Nat.lt_trichotomy (q0d (val a)).length (q0d (val b)).length with h | h | h
  ·have h2 : ¬ val b < 4294967296 ^ (q0d (val a)).length := fun h3 => by have := q0l.2 h3; omega
   have h3 : val a < 4294967296 ^ (q0d (val a)).length := q0l.1 (Nat.le_refl _)
   rw [if_pos (by omega), if_pos (by omega)]
  ·rw [if_neg (by omega), if_neg (by omega)] at h1; exact absurd rfl h1
  have h2 : ¬ val a < 4294967296 ^ (q0d (val b)).length := fun h3 => by have := q0l.2 h3; omega
  have h3 : val b < 4294967296 ^ (q0d (val b)).length := q0l.1 (Nat.le_refl _)
  rw [if_neg (by omega), if_pos (by omega), if_neg (by omega), if_pos (by omega)]
 rw [q0A] at h1
 have hlen : (q0d (val a)).length = (q0d (val b)).length := by
  unfold q3q at h1
  split at h1
  ·cases h1
  split at h1
  ·cases h1
  omega
 generalize hA : q0d (val a) = A at *
 generalize hB : q0d (val b) = B at *
 have hAo : LOk A := hA ▸ q0w _
 have hBo : LOk B := hB ▸ q0w _
 refine gg rfl (q0q (S := fun n : Nat => ([nat A, nat B, q00 ((n : Int) - 1)], [none, none, none], [0, 0, 0])) (C := fun n => n ≤ A.length ∧ A.drop n = B.drop n) (m := fun n => n) A.length ⟨Nat.le_refl _, by rw [List.drop_length, hlen, List.drop_length]⟩ (by omega) ?_ ?_)
 ·exact q03 rfl trivial (by simp [nat, q00]; exact wrap64 (by omega) (by omega))
 intro n ⟨hn, hd⟩ N hN
 refine gg rfl (q02 rfl (fun h2 => ?_) (fun h2 => ?_))
 ·rw [q0D] at h2
  refine gg rfl (q0k (n - 1) rfl rfl (by omega) (q2f (by omega)) rfl ?_)
  refine gg rfl (q0k (n - 1) rfl rfl (by omega) (q2f (by omega)) rfl ?_)
  refine gg rfl (q01 rfl rfl (qlQ _ _) (gg rfl (q02 rfl (fun h3 => ?_) (fun h3 => ?_))))
  ·rw [q0z] at h3
   refine gg rfl (q04 (gg rfl (q08 rfl rfl rfl trivial ?_)))
   congr 1
   unfold q3q at h3 ⊢
   have hd' : A.drop (n - 1 + 1) = B.drop (n - 1 + 1) := by rw [Nat.sub_add_cancel (by omega)]; exact hd
   rcases Nat.lt_trichotomy (dg A (n - 1)) (dg B (n - 1)) with h | h | h
   ·have := qkQ hAo hd' h
    rw [if_pos (by omega), if_pos (by omega)]
   ·rw [if_neg (by omega), if_neg (by omega)] at h3; exact absurd rfl h3
   have := qkQ hBo hd'.symm h
   rw [if_neg (by omega), if_pos (by omega), if_neg (by omega), if_pos (by omega)]
  rw [q0A] at h3
  have heq : dg A (n - 1) = dg B (n - 1) := by
   unfold q3q at h3
   split at h3
   ·cases h3
   split at h3
   ·cases h3
   omega
  refine gg rfl (q04 (hN (n - 1) ⟨by omega, ?_⟩ (by omega) (q03 rfl trivial ?_)))
  ·have e1 : A.drop (n - 1) = dg A (n - 1) :: A.drop n := by rw [List.drop_eq_getElem_cons (by omega), qgx (by omega), Nat.sub_add_cancel (by omega)]
   have e2 : B.drop (n - 1) = dg B (n - 1) :: B.drop n := by rw [List.drop_eq_getElem_cons (by omega), qgx (by omega), Nat.sub_add_cancel (by omega)]
   rw [e1, e2, heq, hd]
  have w : IntKind.i64.wrap ((n : Int) - 1 - 1) = ((n - 1 : Nat) : Int) - 1 := by rw [wrap64 (by omega) (by omega)]; omega
  simp [nat, q00, w]
 rw [q0E] at h2
 obtain rfl : n = 0 := by omega
 refine gg rfl (q04 (gg rfl (q08 rfl rfl rfl trivial ?_)))
 have : val a = val b := by rw [← ea, ← eb]; simp at hd; rw [hd]
 simp [q3q, this]
end Go.F

namespace Go.F
attribute [local irreducible] IntKind.wrap wpM
theorem q2m {r : List Nat} {k v : Nat} (h : k < r.length) : val ((r.set k v).take (k + 1)) = val (r.take k) + 4294967296 ^ k * v := by
 rw [q0H, q2Z, if_pos ⟨rfl, h⟩, List.take_set_of_le (Nat.le_refl _)]
theorem q1n {l : List Nat} (h : LOk l) : (q0d (val l)).length ≤ l.length := q0l.2 (q2K h)
set_option maxHeartbeats 2000000 in
theorem qlR (a b : List Nat) [ha : LOk a] [hb : LOk b] (hla : a.length ≤ 1000000000) (hlb : b.length ≤ 1000000000) : PU q4J [nat a, nat b] = some (nat (q0d (val a + val b))) := by
 have ea : val (q0d (val a)) = val a := q0i _
 have eb : val (q0d (val b)) = val b := q0i _
 have hla' := q1n ha
 have hlb' := q1n hb
 refine q0h (fn := q9z) rfl (q0c ?_)
 refine gg rfl (q01 rfl rfl (q2l a (by omega)) ?_)
 refine gg rfl (q01 rfl rfl (q2l b (by omega)) ?_)
 refine gg rfl ?_
 rw [List.length_map, List.length_map]
 have hAo : LOk (q0d (val a)) := q0w _
 have hBo : LOk (q0d (val b)) := q0w _
 generalize q0d (val a) = P at *
 generalize q0d (val b) = Q at *
 refine q02 rfl (fun h1 => ?_) (fun h1 => ?_)
 ·rw [q06] at h1
  have hx := hAo
  clear hAo
  have hAo := hBo
  clear hBo
  have hBo := hx
  refine gg rfl (q4H 0 rfl rfl rfl (by rw [List.length_map, wrap64 (by omega) (by omega)]; simp [q0U]; omega) ?_)
  refine gg rfl ?_
  refine q0q (S := fun x : Nat × List Nat × Nat => ([nat P, .ref 1 0 x.2.1.length, .int .u64 x.2.2, nat Q, q00 Q.length, q00 x.1], [none, some (.row (x.2.1.map u32) 1), none, none, none, none], [0, 0, 0, 0, 0, 0]))
   (C := fun x => x.1 ≤ Q.length ∧ x.2.1.length = x.1 ∧ LOk x.2.1 ∧ x.2.2 ≤ 1 ∧ val x.2.1 + 4294967296 ^ x.1 * x.2.2 = val (Q.take x.1) + val (P.take x.1)) (m := fun x => Q.length - x.1) (0, [], 0) ⟨Nat.zero_le _, rfl, qj1, by decide, by simp [val]⟩ (by simp; omega) ?_ ?_
  ·exact q03 rfl ⟨rfl, trivial⟩ (by simp [nat, q00])
  rintro ⟨k, r, c⟩ ⟨hk, hr, hro, hc, hinv⟩ N hN
  simp only at hk hr hro hc hinv
  refine gg rfl (q02 rfl (fun h2 => ?_) (fun h2 => ?_))
  ·rw [q06] at h2
   have hlt : k < Q.length := by omega
   have hx := q19 hAo k
   have hy := q19 hBo k
   have w1 := wS (n := k)
   have next : ∀ {t : q0u} {h : q0f} {z : Frz} {nx : Nat}, (q0Z 0 [(1, 0), (5, 1), (6, 0), (24, 0), (25, 0), (26, 0)] t h z nx fun _ _ kp => kp = ([nat P, .ref 1 0 (r ++ [(c + dg Q k + dg P k) % 4294967296]).length, .int .u64 ((c + dg Q k + dg P k) / 2 ^ 32 : Nat), nat Q, q00 Q.length, q00 ((k + 1 : Nat) : Int)], [none, some (.row ((r ++ [(c + dg Q k + dg P k) % 4294967296]).map u32) 1), none, none, none, none], [0, 0, 0, 0, 0, 0])) → N t h z nx := by
    intro t h z nx hst
    refine hN (k + 1, r ++ [(c + dg Q k + dg P k) % 4294967296], (c + dg Q k + dg P k) / 2 ^ 32) ⟨hlt, by simp [hr], hro.snoc (by omega), by simp only; omega, ?_⟩ (by simp only; omega) hst
    simp only
    rw [q69, hr, q0H, q0H, Nat.pow_succ, Nat.add_assoc, show (2 : Nat) ^ 32 = 4294967296 by decide, q4e, Nat.mul_add, Nat.mul_add]
    omega
   clear hN
   refine gg rfl (q0k k rfl rfl rfl (q2f hlt) rfl (gg rfl ?_))
   rw [List.length_map]
   refine q02 rfl (fun h3 => ?_) (fun h3 => ?_)
   ·rw [q06] at h3
    refine gg rfl (q0k k rfl rfl rfl (q2f (by omega)) rfl ?_)
    refine gg rfl ?_
    have e : IntKind.u64.wrap (IntKind.u64.wrap ((c : Int) + IntKind.u64.wrap (dg Q k : Int)) + IntKind.u64.wrap (dg P k : Int)) = ((c + dg Q k + dg P k : Nat) : Int) := by simp only [q0I]; omega
    rw [e, q0V]
    refine q1E rfl rfl rfl rfl rfl rfl (by simp) (Nat.zero_le _) (by simp [q0U]; omega) ?_
    refine gg rfl (q0Y (c + dg Q k + dg P k) 32 rfl rfl rfl rfl (by decide) ?_)
    refine gg rfl (q04 (next (q03 rfl ⟨?_, trivial⟩ ?_)))
    ·rw [List.all_append, q0b q0p]; rfl
    simp [nat, q00, w1, u32]
   rw [q07] at h3
   have h0 : dg P k = 0 := q7E (by omega)
   refine gg rfl ?_
   have e : IntKind.u64.wrap ((c : Int) + IntKind.u64.wrap (dg Q k : Int)) = ((c + dg Q k + dg P k : Nat) : Int) := by simp only [q0I]; omega
   rw [e, q0V]
   refine q1E rfl rfl rfl rfl rfl rfl (by simp) (Nat.zero_le _) (by simp [q0U]; omega) ?_
   refine gg rfl (q0Y (c + dg Q k + dg P k) 32 rfl rfl rfl rfl (by decide) ?_)
   refine gg rfl (q04 (next (q03 rfl ⟨?_, trivial⟩ ?_)))
   ·rw [List.all_append, q0b q0p]; rfl
   simp [nat, q00, w1, u32]
  rw [q07] at h2
  obtain rfl : k = Q.length := by omega
  rw [List.take_length, List.take_of_length_le (l := P) (by omega)] at hinv
  refine gg rfl (q04 (gg rfl ?_))
  have ec : IntKind.u32.wrap (c : Int) = (c : Int) := by rw [q0V]; omega
  rw [ec]
  refine q1E rfl rfl rfl rfl rfl rfl (by simp) (Nat.zero_le _) (by simp [q0U]; omega) ?_
  refine gg rfl ?_
  have : LOk (r ++ [c]) := hro.snoc (by omega)
  have hp := q2l (r ++ [c]) (by simp; omega)
  have hv : val (r ++ [c]) = val a + val b := by rw [q69, hr, hinv]; exact (by omega)
  rw [hv] at hp
  have er : r.map u32 ++ [D.int IntKind.u32 (c : Int)] = (r ++ [c]).map u32 := by simp [u32]
  rw [er]
  refine q2o rfl rfl ⟨q3y (l := r ++ [c]) (by simp), trivial⟩ (by rw [q3U (by simp)]; exact hp) fun z => ?_
  exact gg rfl (q08 rfl rfl rfl trivial rfl)
 rw [q07] at h1
 refine gg rfl (q4H 0 rfl rfl rfl (by rw [List.length_map, wrap64 (by omega) (by omega)]; simp [q0U]; omega) ?_)
 refine gg rfl ?_
 refine q0q (S := fun x : Nat × List Nat × Nat => ([nat Q, .ref 1 0 x.2.1.length, .int .u64 x.2.2, nat P, q00 P.length, q00 x.1], [none, some (.row (x.2.1.map u32) 1), none, none, none, none], [0, 0, 0, 0, 0, 0]))
  (C := fun x => x.1 ≤ P.length ∧ x.2.1.length = x.1 ∧ LOk x.2.1 ∧ x.2.2 ≤ 1 ∧ val x.2.1 + 4294967296 ^ x.1 * x.2.2 = val (P.take x.1) + val (Q.take x.1)) (m := fun x => P.length - x.1) (0, [], 0) ⟨Nat.zero_le _, rfl, qj1, by decide, by simp [val]⟩ (by simp; omega) ?_ ?_
 ·exact q03 rfl ⟨rfl, trivial⟩ (by simp [nat, q00])
 rintro ⟨k, r, c⟩ ⟨hk, hr, hro, hc, hinv⟩ N hN
 simp only at hk hr hro hc hinv
 refine gg rfl (q02 rfl (fun h2 => ?_) (fun h2 => ?_))
 ·rw [q06] at h2
  have hlt : k < P.length := by omega
  have hx := q19 hAo k
  have hy := q19 hBo k
  have w1 := wS (n := k)
  have next : ∀ {t : q0u} {h : q0f} {z : Frz} {nx : Nat}, (q0Z 0 [(1, 0), (5, 1), (6, 0), (24, 0), (25, 0), (26, 0)] t h z nx fun _ _ kp => kp = ([nat Q, .ref 1 0 (r ++ [(c + dg P k + dg Q k) % 4294967296]).length, .int .u64 ((c + dg P k + dg Q k) / 2 ^ 32 : Nat), nat P, q00 P.length, q00 ((k + 1 : Nat) : Int)], [none, some (.row ((r ++ [(c + dg P k + dg Q k) % 4294967296]).map u32) 1), none, none, none, none], [0, 0, 0, 0, 0, 0])) → N t h z nx := by
   intro t h z nx hst
   refine hN (k + 1, r ++ [(c + dg P k + dg Q k) % 4294967296], (c + dg P k + dg Q k) / 2 ^ 32) ⟨hlt, by simp [hr], hro.snoc (by omega), by simp only; omega, ?_⟩ (by simp only; omega) hst
   simp only
   rw [q69, hr, q0H, q0H, Nat.pow_succ, Nat.add_assoc, show (2 : Nat) ^ 32 = 4294967296 by decide, q4e, Nat.mul_add, Nat.mul_add]
   omega
  clear hN
  refine gg rfl (q0k k rfl rfl rfl (q2f hlt) rfl (gg rfl ?_))
  rw [List.length_map]
  refine q02 rfl (fun h3 => ?_) (fun h3 => ?_)
  ·rw [q06] at h3
   refine gg rfl (q0k k rfl rfl rfl (q2f (by omega)) rfl ?_)
   refine gg rfl ?_
   have e : IntKind.u64.wrap (IntKind.u64.wrap ((c : Int) + IntKind.u64.wrap (dg P k : Int)) + IntKind.u64.wrap (dg Q k : Int)) = ((c + dg P k + dg Q k : Nat) : Int) := by simp only [q0I]; omega
   rw [e, q0V]
   refine q1E rfl rfl rfl rfl rfl rfl (by simp) (Nat.zero_le _) (by simp [q0U]; omega) ?_
   refine gg rfl (q0Y (c + dg P k + dg Q k) 32 rfl rfl rfl rfl (by decide) ?_)
   refine gg rfl (q04 (next (q03 rfl ⟨?_, trivial⟩ ?_)))
   ·rw [List.all_append, q0b q0p]; rfl
   simp [nat, q00, w1, u32]
  rw [q07] at h3
  have h0 : dg Q k = 0 := q7E (by omega)
  refine gg rfl ?_
  have e : IntKind.u64.wrap ((c : Int) + IntKind.u64.wrap (dg P k : Int)) = ((c + dg P k + dg Q k : Nat) : Int) := by simp only [q0I]; omega
  rw [e, q0V]
  refine q1E rfl rfl rfl rfl rfl rfl (by simp) (Nat.zero_le _) (by simp [q0U]; omega) ?_
  refine gg rfl (q0Y (c + dg P k + dg Q k) 32 rfl rfl rfl rfl (by decide) ?_)
  refine gg rfl (q04 (next (q03 rfl ⟨?_, trivial⟩ ?_)))
  ·rw [List.all_append, q0b q0p]; rfl
  simp [nat, q00, w1, u32]
 rw [q07] at h2
 obtain rfl : k = P.length := by omega
 rw [List.take_length, List.take_of_length_le (l := Q) (by omega)] at hinv
 refine gg rfl (q04 (gg rfl ?_))
 have ec : IntKind.u32.wrap (c : Int) = (c : Int) := by rw [q0V]; omega
 rw [ec]
 refine q1E rfl rfl rfl rfl rfl rfl (by simp) (Nat.zero_le _) (by simp [q0U]; omega) ?_
 refine gg rfl ?_
 have : LOk (r ++ [c]) := hro.snoc (by omega)
 have hp := q2l (r ++ [c]) (by simp; omega)
 have hv : val (r ++ [c]) = val a + val b := by rw [q69, hr, hinv]; exact (by omega)
 rw [hv] at hp
 have er : r.map u32 ++ [D.int IntKind.u32 (c : Int)] = (r ++ [c]).map u32 := by simp [u32]
 rw [er]
 refine q2o rfl rfl ⟨q3y (l := r ++ [c]) (by simp), trivial⟩ (by rw [q3U (by simp)]; exact hp) fun z => ?_
 exact gg rfl (q08 rfl rfl rfl trivial rfl)
set_option maxHeartbeats 2000000 in
theorem qsT (a b : List Nat) [ha : LOk a] [hb : LOk b] (hla : a.length ≤ 1000000000) (hlb : b.length ≤ 1000000000) :
 PU q9G [nat a, nat b] = some (if val a < val b then .tup [nat [], .bool false] else .tup [nat (q0d (val a - val b)), .bool true]) := by
 have ea : val (q0d (val a)) = val a := q0i _
 have eb : val (q0d (val b)) = val b := q0i _
 have hla' := q1n ha
 have hlb' := q1n hb
 refine q0h (fn := q9C) rfl (q0c ?_)
 refine gg rfl (q01 rfl rfl (q2l a (by omega)) ?_)
 refine gg rfl (q01 rfl rfl (q2l b (by omega)) ?_)
 refine gg rfl ?_
 have hAo : LOk (q0d (val a)) := q0w _
 have hBo : LOk (q0d (val b)) := q0w _
 have hlen : val b ≤ val a → (q0d (val b)).length ≤ (q0d (val a)).length := fun h => q0l.2 (Nat.lt_of_le_of_lt h (q0l.1 (Nat.le_refl _)))
 generalize q0d (val a) = A at *
 generalize q0d (val b) = B at *
 refine q01 rfl rfl (qj3 A B (by omega) (by omega)) ?_
 refine gg rfl ?_
 rw [ea, eb]
 refine q02 rfl (fun h1 => ?_) (fun h1 => ?_)
 ·rw [q06] at h1
  have : val a < val b := by
   unfold q3q at h1
   split at h1
   ·omega
   split at h1 <;> omega
  refine gg rfl (q08 rfl rfl rfl trivial ?_)
  rw [if_pos this]; rfl
 rw [q07] at h1
 have hle : val b ≤ val a := by
  unfold q3q at h1
  split at h1
  ·omega
  omega
 rw [if_neg (by omega)]
 refine gg rfl (q4H A.length rfl rfl (by simp) (by simp [q0U]; omega) ?_)
 refine gg rfl ?_
 refine q0q (S := fun x : Nat × List Nat × Nat => ([nat B, .ref 1 0 A.length, .int .u64 x.2.2, nat A, q00 A.length, q00 x.1], [none, some (.row (x.2.1.map u32) 1), none, none, none, none], [0, 0, 0, 0, 0, 0]))
  (C := fun x => x.1 ≤ A.length ∧ x.2.1.length = A.length ∧ LOk x.2.1 ∧ x.2.2 ≤ 1 ∧ val (x.2.1.take x.1) + val (B.take x.1) = val (A.take x.1) + 4294967296 ^ x.1 * x.2.2) (m := fun x => A.length - x.1) (0, List.replicate A.length 0, 0)
  ⟨Nat.zero_le _, by simp, q4L _, Nat.zero_le _, by simp [val]⟩ (by simp; omega) ?_ ?_
 ·refine q03 rfl ⟨?_, trivial⟩ (by simp [nat, q00, u32])
  rw [List.all_eq_true]; intro x hx; rw [(List.mem_replicate.1 hx).2]; rfl
 rintro ⟨k, r, c⟩ ⟨hk, hr, hro, hc, hinv⟩ N hN
 simp only at hk hr hro hc hinv
 refine gg rfl (q02 rfl (fun h2 => ?_) (fun h2 => ?_))
 ·rw [q06] at h2
  have hlt : k < A.length := by omega
  have hx := q19 hAo k
  have hy := q19 hBo k
  have w1 := wS (n := k)
  have next : ∀ (v c' : Nat), v < 4294967296 → c' ≤ 1 → v + (c + dg B k) = dg A k + 4294967296 * c' → ∀ {t : q0u} {h : q0f} {z : Frz} {nx : Nat}, (q0Z 0 [(1, 0), (6, 0), (7, 0), (22, 0), (23, 0), (24, 0)] t h z nx fun _ _ kp => kp = ([nat B, .ref 1 0 A.length, .int .u64 c', nat A, q00 A.length, q00 ((k + 1 : Nat) : Int)], [none, some (.row ((r.set k v).map u32) 1), none, none, none, none], [0, 0, 0, 0, 0, 0])) → N t h z nx := by
   intro v c' hv hc' he t h z nx hst
   refine hN (k + 1, r.set k v, c') ⟨hlt, by simp [hr], hro.set k hv, hc', ?_⟩ (by simp only; omega) hst
   simp only
   rw [q2m (by omega), q0H, q0H, Nat.pow_succ]
   have e2 : 4294967296 ^ k * v + (4294967296 ^ k * c + 4294967296 ^ k * dg B k) = 4294967296 ^ k * dg A k + 4294967296 ^ k * 4294967296 * c' := by
    rw [← Nat.mul_add, ← Nat.mul_add, he, Nat.mul_add, Nat.mul_assoc]
   omega
  clear hN
  refine gg rfl (q0k k rfl rfl rfl (q2f hlt) rfl (gg rfl ?_))
  rw [List.length_map]
  have body : ∀ d : Int, d = ((dg A k : Int) - c - dg B k) % 18446744073709551616 →
   (∃ v c' : Nat, IntKind.u32.wrap d = v ∧ d = ((d.toNat : Nat) : Int) ∧ d.toNat / 2 ^ 63 = c' ∧ v < 4294967296 ∧ c' ≤ 1 ∧ v + (c + dg B k) = dg A k + 4294967296 * c') := by
   intro d hd
   rw [qac]
   refine ⟨(d % 4294967296).toNat, d.toNat / 2 ^ 63, by omega, by omega, rfl, by omega, by omega, by omega⟩
  refine q02 rfl (fun h3 => ?_) (fun h3 => ?_)
  ·rw [q06] at h3
   refine gg rfl (q0k k rfl rfl rfl (q2f (by omega)) rfl ?_)
   refine gg rfl ?_
   obtain ⟨v, c', g1, g2, g3, g4, g5, g6⟩ := body (IntKind.u64.wrap (IntKind.u64.wrap (IntKind.u64.wrap (dg A k : Int) - (c : Int)) - IntKind.u64.wrap (dg B k : Int))) (by simp only [q0I]; omega)
   generalize IntKind.u64.wrap (IntKind.u64.wrap (IntKind.u64.wrap (dg A k : Int) - (c : Int)) - IntKind.u64.wrap (dg B k : Int)) = d at *
   rw [g1]
   refine q0J k rfl rfl rfl rfl rfl hlt (gg rfl (q1C r k v rfl rfl (Nat.zero_add _) rfl rfl (Nat.zero_le _) (by omega) ?_))
   refine gg rfl (q0Y d.toNat 63 rfl rfl g2 rfl (by decide) ?_)
   rw [g3]
   exact gg rfl (q04 (next v c' g4 g5 g6 (q03 rfl ⟨q0b q0p _, trivial⟩ (by simp [nat, q00, w1]))))
  rw [q07] at h3
  have h0 : dg B k = 0 := q7E (by omega)
  refine gg rfl ?_
  obtain ⟨v, c', g1, g2, g3, g4, g5, g6⟩ := body (IntKind.u64.wrap (IntKind.u64.wrap (dg A k : Int) - (c : Int))) (by simp only [q0I]; omega)
  generalize IntKind.u64.wrap (IntKind.u64.wrap (dg A k : Int) - (c : Int)) = d at *
  rw [g1]
  refine q0J k rfl rfl rfl rfl rfl hlt (gg rfl (q1C r k v rfl rfl (Nat.zero_add _) rfl rfl (Nat.zero_le _) (by omega) ?_))
  refine gg rfl (q0Y d.toNat 63 rfl rfl g2 rfl (by decide) ?_)
  rw [g3]
  exact gg rfl (q04 (next v c' g4 g5 g6 (q03 rfl ⟨q0b q0p _, trivial⟩ (by simp [nat, q00, w1]))))
 rw [q07] at h2
 obtain rfl : k = A.length := by omega
 rw [List.take_length, List.take_of_length_le (l := r) (by omega)] at hinv
 refine gg rfl (q04 (gg rfl ?_))
 have hp := q2l r (by omega)
 have hlen := hlen hle
 rw [List.take_of_length_le (by omega)] at hinv
 have hv : val r = val a - val b := by
  have h1 := q2K hro
  rw [hr] at h1
  have hc0 : c = 0 ∨ c = 1 := by omega
  rcases hc0 with rfl | rfl
  ·omega
  omega
 rw [hv] at hp
 refine q2o rfl rfl ⟨q3y (l := r) hr.symm, trivial⟩ (by rw [q3U (l := r) hr.symm]; exact hp) fun z => ?_
 exact gg rfl (q08 rfl rfl rfl trivial rfl)
end Go.F

namespace Go.F
attribute [local irreducible] IntKind.wrap wpM
theorem q7K (n : Nat) : List.replicate n (D.int IntKind.u32 0) = (List.replicate n 0).map u32 := by
 simp [u32]
theorem qad {x y : Nat} (hx : x < 4294967296) (hy : y < 4294967296) : x * y ≤ 18446744065119617025 := by
 calc x * y ≤ 4294967295 * 4294967295 := Nat.mul_le_mul (by omega) (by omega)
  _ = 18446744065119617025 := by decide
set_option maxHeartbeats 4000000 in
theorem qj4 (a b : List Nat) [ha : LOk a] [hb : LOk b] (hla : a.length ≤ 1000000000) (hlb : b.length ≤ 1000000000) : PU q3N [nat a, nat b] = some (nat (q0d (val a * val b))) := by
 have ea : val (q0d (val a)) = val a := q0i _
 have eb : val (q0d (val b)) = val b := q0i _
 have hla' := q1n ha
 have hlb' := q1n hb
 refine q0h (fn := q9r) rfl (q0c ?_)
 refine gg rfl (q01 rfl rfl (q2l a (by omega)) ?_)
 refine gg rfl (q01 rfl rfl (q2l b (by omega)) ?_)
 refine gg rfl ?_
 have hAo : LOk (q0d (val a)) := q0w _
 have hBo : LOk (q0d (val b)) := q0w _
 generalize q0d (val a) = A at *
 generalize q0d (val b) = B at *
 have w0 : IntKind.i64.wrap (((A.map u32).length : Int) + ((B.map u32).length : Int)) = ((A.length + B.length : Nat) : Int) := by rw [List.length_map, List.length_map, wrap64 (by omega) (by omega)]; omega
 rw [w0]
 refine q4H (A.length + B.length) rfl rfl rfl (by simp [q0U]; omega) ?_
 rw [q7K]
 refine gg rfl ?_
 refine q0q (S := fun x : Nat × List Nat => ([nat B, .ref 1 0 (A.length + B.length), nat A, q00 A.length, q00 x.1], [none, some (.row (x.2.map u32) 1), none, none, none], [0, 0, 0, 0, 0]))
  (C := fun x => x.1 ≤ A.length ∧ x.2.length = A.length + B.length ∧ LOk x.2 ∧ val x.2 = val (A.take x.1) * val B ∧ ∀ j, x.1 + B.length ≤ j → dg x.2 j = 0) (m := fun x => A.length - x.1) (0, List.replicate (A.length + B.length) 0)
  ⟨Nat.zero_le _, by simp, q4L _, by simp [val, qab], fun j _ => q78 _ _⟩ (by simp; omega) ?_ ?_
 ·exact q03 rfl ⟨q0b q0p _, trivial⟩ (by simp [nat, q00])
 rintro ⟨k, r⟩ ⟨hk, hr, hro, hinv, hz⟩ N hN
 simp only at hk hr hro hinv hz
 refine gg rfl (q02 rfl (fun h2 => ?_) (fun h2 => ?_))
 ·rw [q06] at h2
  have hlt : k < A.length := by omega
  have hx := q19 hAo k
  have w1 := wS (n := k)
  refine gg rfl (q0k k rfl rfl rfl (q2f hlt) rfl (gg rfl ?_))
  refine q0q (S := fun x : Nat × List Nat × Nat => ([nat B, .ref 1 0 (A.length + B.length), q00 k, u32 (dg A k), .int .u64 x.2.2, nat A, q00 A.length, q00 k, nat B, q00 B.length, q00 x.1], [none, some (.row (x.2.1.map u32) 1), none, none, none, none, none, none, none, none, none], [0, 0, 0, 0, 0, 0, 0, 0, 0, 0, 0]))
   (C := fun x => x.1 ≤ B.length ∧ x.2.1.length = A.length + B.length ∧ LOk x.2.1 ∧ x.2.2 < 4294967296 ∧ val x.2.1 + 4294967296 ^ (k + x.1) * x.2.2 = val r + 4294967296 ^ k * (dg A k * val (B.take x.1)) ∧ ∀ j, k + x.1 ≤ j → dg x.2.1 j = dg r j) (m := fun x => B.length - x.1) (0, r, 0)
   ⟨Nat.zero_le _, hr, hro, by simp, by simp [val], fun j _ => rfl⟩ (by simp; omega) ?_ ?_
  ·exact q03 rfl ⟨q0b q0p _, trivial⟩ (by simp [nat, q00, u32])
  rintro ⟨i, r', c⟩ ⟨hi, hr', hro', hc, hinv', hz'⟩ N2 hN2
  simp only at hi hr' hro' hc hinv' hz'
  refine gg rfl (q02 rfl (fun h3 => ?_) (fun h3 => ?_))
  ·rw [q06] at h3
   have hil : i < B.length := by omega
   have hy := q19 hBo i
   have hq := q19 hro' (k + i)
   have hxy := qad hx hy
   have wi := wS (n := i)
   have wki : IntKind.i64.wrap ((k : Int) + i) = ((k + i : Nat) : Int) := by rw [wrap64 (by omega) (by omega)]; omega
   refine gg rfl (q0k i rfl rfl rfl (q2f hil) rfl (gg rfl (q0J (k + i) rfl rfl rfl rfl wki (by omega) ?_)))
   refine gg rfl (q4f r' (k + i) rfl (Nat.zero_add _) rfl (by omega) ?_)
   refine gg rfl ?_
   have e1 : ((dg A k * dg B i : Nat) : Int) = (dg A k : Int) * (dg B i : Int) := by simp
   have e : IntKind.u64.wrap ((c : Int) + IntKind.u64.wrap (IntKind.u64.wrap (IntKind.u64.wrap (dg A k : Int) * IntKind.u64.wrap (dg B i : Int)) + IntKind.u64.wrap (dg r' (k + i) : Int))) = ((c + (dg A k * dg B i + dg r' (k + i)) : Nat) : Int) := by
    rw [q0y (n := dg A k) (by omega), q0y (n := dg B i) (by omega), q0y (n := dg r' (k + i)) (by omega), ← e1, q0y (n := dg A k * dg B i) (by omega)]
    simp only [q0I]; omega
   rw [e, q0V]
   refine q0J (k + i) rfl rfl rfl rfl wki (by omega) ?_
   refine gg rfl (q1C r' (k + i) ((c + (dg A k * dg B i + dg r' (k + i))) % 4294967296) rfl rfl (Nat.zero_add _) rfl rfl (Nat.zero_le _) (by omega) ?_)
   refine gg rfl (q0Y (c + (dg A k * dg B i + dg r' (k + i))) 32 rfl rfl rfl rfl (by decide) ?_)
   refine gg rfl (q04 (hN2 (i + 1, r'.set (k + i) ((c + (dg A k * dg B i + dg r' (k + i))) % 4294967296), (c + (dg A k * dg B i + dg r' (k + i))) / 2 ^ 32) ⟨hil, by simp [hr'], hro'.set _ (by omega), by simp only; omega, ?_, ?_⟩ (by simp only; omega) (q03 rfl ⟨q0b q0p _, trivial⟩ (by simp [nat, q00, wi, u32]))))
   ·simp only
    have hs := qfy (l := r') (i := k + i) (v := (c + (dg A k * dg B i + dg r' (k + i))) % 4294967296) (by omega)
    have hcar := q4e (4294967296 ^ (k + i)) (c + (dg A k * dg B i + dg r' (k + i)))
    rw [show (2 : Nat) ^ 32 = 4294967296 by decide, q0H, show k + (i + 1) = (k + i) + 1 from rfl, Nat.pow_succ, Nat.mul_add (dg A k), Nat.mul_add (4294967296 ^ k)]
    rw [Nat.mul_add (4294967296 ^ (k + i)) c, Nat.mul_add (4294967296 ^ (k + i)) (dg A k * dg B i)] at hcar
    have e5 : 4294967296 ^ k * (dg A k * (4294967296 ^ i * dg B i)) = 4294967296 ^ (k + i) * (dg A k * dg B i) := by
     rw [Nat.pow_add, Nat.mul_left_comm (dg A k), ← Nat.mul_assoc]
    rw [e5]
    omega
   intro j hj
   simp only at hj ⊢
   rw [q2Z, if_neg (by omega)]
   exact hz' j (by omega)
  rw [q07] at h3
  obtain rfl : i = B.length := by omega
  rw [List.take_length] at hinv'
  have wkb : IntKind.i64.wrap ((k : Int) + (B.map u32).length) = ((k + B.length : Nat) : Int) := by rw [List.length_map, wrap64 (by omega) (by omega)]; omega
  have ec : IntKind.u32.wrap (c : Int) = (c : Int) := by rw [q0V]; omega
  refine gg rfl (q04 (gg rfl ?_))
  rw [ec]
  refine q0J (k + B.length) rfl rfl rfl rfl wkb (by omega) ?_
  refine gg rfl (q1C r' (k + B.length) c rfl rfl (Nat.zero_add _) rfl rfl (Nat.zero_le _) (by omega) ?_)
  refine gg rfl (q04 ?_)
  have hd0 : dg r' (k + B.length) = 0 := by rw [hz' _ (Nat.le_refl _)]; exact hz _ (Nat.le_refl _)
  have hs := qfy (l := r') (i := k + B.length) (v := c) (by omega)
  rw [hd0, Nat.mul_zero, Nat.add_zero] at hs
  refine hN (k + 1, r'.set (k + B.length) c) ⟨hlt, by simp [hr'], hro'.set _ hc, ?_, ?_⟩ (by simp only; omega) (q03 rfl ⟨q0b q0p _, trivial⟩ (by simp [nat, q00, w1]))
  ·simp only
   rw [hs, hinv', hinv, q0H, Nat.add_mul, Nat.mul_assoc]
  intro j hj
  simp only at hj ⊢
  rw [q2Z, if_neg (by omega), hz' j (by omega)]
  exact hz j (by omega)
 rw [q07] at h2
 obtain rfl : k = A.length := by omega
 rw [List.take_length] at hinv
 refine gg rfl (q04 (gg rfl ?_))
 have hp := q2l r (by omega)
 rw [hinv, ea, eb] at hp
 refine q2o rfl rfl ⟨q3y (l := r) hr.symm, trivial⟩ (by rw [q3U (l := r) hr.symm]; exact hp) fun z => ?_
 exact gg rfl (q08 rfl rfl rfl trivial rfl)
end Go.F

namespace Go.F
attribute [local irreducible] IntKind.wrap wpM
section
variable {T : Tab} {sh : Shr} {nx0 : Nat} {s : List Fr} {t : q0u} {h : q0f} {z : Frz} {nx : Nat} {q : Ex → q0u → q0f → Frz → Nat → Prop}
variable {base i : Nat} {res : List Nat} {dst : Nat} {g : Gd} {rest : List KOper}
theorem q2L {e : EqK} {x y : X} {kk : IntKind} {a b : Int} (n m : Nat) (hx : x.ev t = .int kk a) (hy : y.ev t = .int kk b) (ha : a = n) (hb : b = m) (hm : m ≠ 0) (hw : kk.wrap ((n / m : Nat) : Int) = ((n / m : Nat) : Int))
 (hk : wpM T sh nx0 (.ops base res rest :: s) .normal (upd t dst (.int kk ((n / m : Nat) : Int))) h z nx q) :
 wpM T sh nx0 (.ops base res (⟨i, some dst, none, g, .bin .quo e x y⟩ :: rest) :: s) .normal t h z nx q := by
 subst ha; subst hb
 refine qbD hx hy (by omega) ?_
 have e : ((n : Int)).tdiv m = ((n / m : Nat) : Int) := by rw [Int.tdiv_eq_ediv_of_nonneg (by omega)]; rfl
 rw [e, hw]
 exact hk
theorem q7x {e : EqK} {x y : X} {kk : IntKind} {a b : Int} (n m : Nat) (hx : x.ev t = .int kk a) (hy : y.ev t = .int kk b) (ha : a = n) (hb : b = m) (hm : m ≠ 0)
 (hk : wpM T sh nx0 (.ops base res rest :: s) .normal (upd t dst (.int kk ((n % m : Nat) : Int))) h z nx q) :
 wpM T sh nx0 (.ops base res (⟨i, some dst, none, g, .bin .rem e x y⟩ :: rest) :: s) .normal t h z nx q := by
 subst ha; subst hb
 refine q4R hx hy (by omega) ?_
 have e : ((n : Int)).tmod m = ((n % m : Nat) : Int) := by rw [Int.tmod_eq_emod_of_nonneg (by omega)]; rfl
 rw [e]
 exact hk
end
theorem q7T (w n : Nat) : BitVec.ofInt w (n : Int) = BitVec.ofNat w n := by simp
theorem qq8 {a b : Nat} (ha : a < 4294967296) (hb : b < 4294967296) : IntKind.u64.wrap ((BitVec.ofInt IntKind.u64.bits ((a * 2 ^ 32 : Nat) : Int) ||| BitVec.ofInt IntKind.u64.bits (b : Int)).toNat : Int) = ((a * 4294967296 + b : Nat) : Int) := by
 rw [q7T, q7T, BitVec.toNat_or, BitVec.toNat_ofNat, BitVec.toNat_ofNat]
 have e : IntKind.u64.bits = 64 := rfl
 rw [e, Nat.mod_eq_of_lt (by omega), Nat.mod_eq_of_lt (by omega), Nat.mul_comm a, ← Nat.two_pow_add_eq_or_of_lt (by omega), q0y (by omega)]
theorem orU64' {a b : Nat} (ha : a < 4294967296) (hb : b < 4294967296) : IntKind.u64.wrap ((BitVec.ofInt IntKind.u64.bits (b : Int) ||| BitVec.ofInt IntKind.u64.bits ((a * 2 ^ 32 : Nat) : Int)).toNat : Int) = ((a * 4294967296 + b : Nat) : Int) := by
 rw [BitVec.or_comm]; exact qq8 ha hb
set_option maxHeartbeats 2000000 in
theorem qsU (a : List Nat) (d : Nat) [ha : LOk a] (hla : a.length ≤ 1000000000) (hd0 : d ≠ 0) (hd : d < 4294967296) : PU qbp [nat a, .int .u32 d] = some (.tup [nat (q0d (val a / d)), .int .u32 (val a % d : Nat)]) := by
 refine q0h (fn := q7p) rfl (q0c ?_)
 refine gg rfl (q4H a.length rfl rfl (by simp) (by simp [q0U]; omega) ?_)
 rw [q7K]
 refine gg rfl ?_
 refine q0q (S := fun x : Nat × List Nat × Nat => ([nat a, .int .u32 d, .ref 2 0 a.length, .int .u64 x.2.2, q00 ((x.1 : Int) - 1)], [none, none, some (.row (x.2.1.map u32) 1), none, none], [0, 0, 0, 0, 0]))
  (C := fun x => x.1 ≤ a.length ∧ x.2.1.length = a.length ∧ LOk x.2.1 ∧ x.2.2 < d ∧ val (a.drop x.1) = val (x.2.1.drop x.1) * d + x.2.2) (m := fun x => x.1) (a.length, List.replicate a.length 0, 0)
  ⟨Nat.le_refl _, by simp, q4L _, Nat.pos_of_ne_zero hd0, by simp [val]⟩ (by simp; omega) ?_ ?_
 ·refine q03 rfl ⟨q0b q0p _, trivial⟩ ?_
  have w := ww (x := (a.length : Int) - 1)
  simp [nat, q00, w]
 rintro ⟨n, q, r⟩ ⟨hn, hq, hqo, hr, hinv⟩ N hN
 simp only at hn hq hqo hr hinv
 refine gg rfl (q02 rfl (fun h2 => ?_) (fun h2 => ?_))
 ·rw [q0D] at h2
  simp only at h2
  have hx := q19 ha (n - 1)
  have hw : IntKind.u64.wrap (dg a (n - 1) : Int) = (dg a (n - 1) : Int) := q0y (by omega)
  have hwd : IntKind.u64.wrap (d : Int) = (d : Int) := q0y (by omega)
  have w2 : IntKind.i64.wrap ((n : Int) - 1 - 1) = ((n - 1 : Nat) : Int) - 1 := by rw [wrap64 (by omega) (by omega)]; omega
  have htd : (r * 4294967296 + dg a (n - 1)) / d < 4294967296 := by
   rw [Nat.div_lt_iff_lt_mul (by omega)]
   calc r * 4294967296 + dg a (n - 1) < (r + 1) * 4294967296 := by omega
    _ ≤ d * 4294967296 := Nat.mul_le_mul_right _ hr
    _ = 4294967296 * d := Nat.mul_comm _ _
  have htm : (r * 4294967296 + dg a (n - 1)) % d < d := Nat.mod_lt _ (by omega)
  refine gg rfl (q6N r 32 rfl rfl rfl rfl (by decide) (q0y (by omega)) ?_)
  refine gg rfl (q0k (n - 1) rfl rfl (by omega) (q2f (by omega)) rfl ?_)
  refine gg rfl ?_
  rw [hw, qq8 (by omega) hx]
  refine gg rfl ?_
  rw [hwd]
  refine q2L (r * 4294967296 + dg a (n - 1)) d rfl rfl rfl rfl hd0 (q0y (by omega)) ?_
  refine gg rfl ?_
  rw [q0V, Nat.mod_eq_of_lt htd]
  refine q0J (n - 1) rfl rfl rfl rfl (by omega) (by omega) ?_
  refine gg rfl (q1C q (n - 1) ((r * 4294967296 + dg a (n - 1)) / d) rfl rfl (Nat.zero_add _) rfl rfl (Nat.zero_le _) (by omega) ?_)
  refine gg rfl ?_
  rw [hwd]
  refine q7x (r * 4294967296 + dg a (n - 1)) d rfl rfl rfl rfl hd0 (gg rfl (q04 (hN (n - 1, q.set (n - 1) ((r * 4294967296 + dg a (n - 1)) / d), (r * 4294967296 + dg a (n - 1)) % d) ⟨by simp only; omega, by simp [hq], hqo.set _ htd, htm, ?_⟩ (by simp only; omega) (q03 rfl ⟨q0b q0p _, trivial⟩ (by simp [nat, q00, w2])))))
  simp only
  rw [q2A, q2A (q.set _ _), q2Z, if_pos ⟨rfl, by omega⟩, Nat.sub_add_cancel (by omega), List.drop_set_of_lt (by omega), hinv]
  have hdm := Nat.div_add_mod (r * 4294967296 + dg a (n - 1)) d
  rw [Nat.add_mul, Nat.mul_assoc 4294967296, Nat.mul_comm ((r * 4294967296 + dg a (n - 1)) / d) d]
  omega
 rw [q0E] at h2
 simp only at h2
 obtain rfl : n = 0 := by omega
 simp only [List.drop_zero] at hinv
 refine gg rfl (q04 (gg rfl ?_))
 have hp := q2l q (by omega)
 have hv1 : val q = val a / d := by rw [hinv, Nat.add_comm, Nat.add_mul_div_right _ _ (by omega), Nat.div_eq_of_lt hr, Nat.zero_add]
 have hv2 : val a % d = r := by rw [hinv, Nat.add_comm, Nat.add_mul_mod_self_right, Nat.mod_eq_of_lt hr]
 rw [hv1] at hp
 refine q2o rfl rfl ⟨q3y (l := q) hq.symm, trivial⟩ (by rw [q3U (l := q) hq.symm]; exact hp) fun z => ?_
 refine gg rfl (q08 rfl rfl rfl trivial ?_)
 have e : IntKind.u32.wrap (r : Int) = (r : Int) := by rw [q0V]; omega
 rw [e, hv2]
 rfl
theorem qqZ {l : List Nat} {V : Nat} (h : ∀ j, j < l.length → dg l j = V / 4294967296 ^ j % 4294967296) : val l = V % 4294967296 ^ l.length := by
 have key : ∀ k, k ≤ l.length → val (l.take k) = V % 4294967296 ^ k := by
  intro k
  induction k with
  | zero => intro _; simp [val, Nat.mod_one]
  | succ k ih => intro hk; rw [q0H, ih (by omega), h k hk, Nat.mod_pow_succ]
 have := key l.length (Nat.le_refl _)
 rwa [List.take_length] at this
theorem qsV {a : List Nat} (ha : LOk a) {s : Nat} (hs : s ≤ 31) (i : Nat) : (dg a (i + 1) * 4294967296 + dg a i) / 2 ^ s % 4294967296 = val a / 2 ^ s / 4294967296 ^ i % 4294967296 := by
 have h1 : val a / 4294967296 ^ i = dg a i + 4294967296 * (dg a (i + 1) + 4294967296 * val (a.drop (i + 2))) := by
  rw [← q2A a (i + 1), ← q2A a i]
  have := q2w a i
  have h2 : val (a.take i) < 4294967296 ^ i ∨ a.length ≤ i := by
   by_cases hl : i ≤ a.length
   ·left
    have := q2K (ha.take i)
    rwa [List.length_take, Nat.min_eq_left hl] at this
   right; omega
  rcases h2 with h2 | h2
  ·rw [this, Nat.add_mul_div_left _ _ (Nat.pow_pos (by decide)), Nat.div_eq_of_lt h2, Nat.zero_add]
  rw [List.drop_of_length_le h2, Nat.div_eq_of_lt]
  ·rfl
  exact Nat.lt_of_lt_of_le (q2K ha) (Nat.pow_le_pow_right (by decide) h2)
 rw [Nat.div_div_eq_div_mul, Nat.mul_comm (2 ^ s), ← Nat.div_div_eq_div_mul, h1]
 generalize val (a.drop (i + 2)) = R
 have e : (18446744073709551616 : Nat) = 2 ^ s * (4294967296 * 2 ^ (32 - s)) := by
  rw [Nat.mul_left_comm, ← Nat.pow_add, show s + (32 - s) = 32 by omega]
 have e2 : dg a i + 4294967296 * (dg a (i + 1) + 4294967296 * R) = (dg a (i + 1) * 4294967296 + dg a i) + 2 ^ s * (4294967296 * 2 ^ (32 - s) * R) := by
  rw [← Nat.mul_assoc (2 ^ s), ← e]; omega
 rw [e2, Nat.add_mul_div_left _ _ (Nat.two_pow_pos s), Nat.mul_assoc, Nat.add_mul_mod_self_left]
set_option maxHeartbeats 2000000 in
theorem qgy (a : List Nat) (s : Nat) [ha : LOk a] (hla : a.length ≤ 1000000000) (hs : s ≤ 31) : PU qbq [nat a, .int .i64 s] = some (nat (q0d (val a / 2 ^ s))) := by
 refine q0h (fn := q7q) rfl (q0c ?_)
 refine gg rfl (q4H a.length rfl rfl (by simp) (by simp [q0U]; omega) ?_)
 rw [q7K]
 refine gg rfl ?_
 refine q0q (S := fun x : Nat × List Nat => ([nat a, q00 s, .ref 2 0 a.length, nat a, q00 a.length, q00 x.1], [none, none, some (.row (x.2.map u32) 1), none, none, none], [0, 0, 0, 0, 0, 0]))
  (C := fun x => x.1 ≤ a.length ∧ x.2.length = a.length ∧ LOk x.2 ∧ ∀ j, j < x.1 → dg x.2 j = val a / 2 ^ s / 4294967296 ^ j % 4294967296) (m := fun x => a.length - x.1) (0, List.replicate a.length 0)
  ⟨Nat.zero_le _, by simp, q4L _, fun j hj => by simp at hj⟩ (by simp; omega) ?_ ?_
 ·exact q03 rfl ⟨q0b q0p _, trivial⟩ (by simp [nat, q00])
 rintro ⟨k, r⟩ ⟨hk, hr, hro, hinv⟩ N hN
 simp only at hk hr hro hinv
 refine gg rfl (q02 rfl (fun h2 => ?_) (fun h2 => ?_))
 ·rw [q06] at h2
  have hlt : k < a.length := by omega
  have hx := q19 ha k
  have hy := q19 ha (k + 1)
  have hw : IntKind.u64.wrap (dg a k : Int) = (dg a k : Int) := q0y (by omega)
  have hwy : IntKind.u64.wrap (dg a (k + 1) : Int) = (dg a (k + 1) : Int) := q0y (by omega)
  have w1 := wS (n := k)
  refine gg rfl (q0k k rfl rfl rfl (q2f hlt) rfl (gg rfl ?_))
  rw [List.length_map, hw]
  refine q02 rfl (fun h3 => ?_) (fun h3 => ?_)
  ·rw [q06, w1] at h3
   refine gg rfl (q0k (k + 1) rfl rfl w1 (q2f (by omega)) rfl ?_)
   refine gg rfl ?_
   rw [hwy]
   refine q6N (dg a (k + 1)) 32 rfl rfl rfl rfl (by decide) (q0y (by omega)) ?_
   refine gg rfl ?_
   rw [orU64' hy hx]
   refine gg rfl (q0Y (dg a (k + 1) * 4294967296 + dg a k) s rfl rfl rfl rfl (by show s ≤ 64; omega) ?_)
   refine gg rfl ?_
   rw [q0V]
   refine q0J k rfl rfl rfl rfl rfl hlt (gg rfl (q1C r k ((dg a (k + 1) * 4294967296 + dg a k) / 2 ^ s % 4294967296) rfl rfl (Nat.zero_add _) rfl rfl (Nat.zero_le _) (by omega) ?_))
   refine gg rfl (q04 (hN (k + 1, r.set k ((dg a (k + 1) * 4294967296 + dg a k) / 2 ^ s % 4294967296)) ⟨hlt, by simp [hr], hro.set _ (Nat.mod_lt _ (by decide)), ?_⟩ (by simp only; omega) (q03 rfl ⟨q0b q0p _, trivial⟩ (by simp [nat, q00, w1]))))
   intro j hj
   simp only at hj ⊢
   rw [q2Z]
   by_cases hjk : k = j
   ·subst hjk
    rw [if_pos ⟨rfl, by omega⟩]
    rw [← qsV ha hs]
    try rw [q7E (l := a) (i := k + 1) (by omega), Nat.zero_mul, Nat.zero_add]
   rw [if_neg (by omega)]
   exact hinv j (by omega)
  rw [q07, w1] at h3
  refine gg rfl (q0Y (dg a k) s rfl rfl rfl rfl (by show s ≤ 64; omega) ?_)
  refine gg rfl ?_
  rw [q0V]
  refine q0J k rfl rfl rfl rfl rfl hlt (gg rfl (q1C r k ((dg a k) / 2 ^ s % 4294967296) rfl rfl (Nat.zero_add _) rfl rfl (Nat.zero_le _) (by omega) ?_))
  refine gg rfl (q04 (hN (k + 1, r.set k ((dg a k) / 2 ^ s % 4294967296)) ⟨hlt, by simp [hr], hro.set _ (Nat.mod_lt _ (by decide)), ?_⟩ (by simp only; omega) (q03 rfl ⟨q0b q0p _, trivial⟩ (by simp [nat, q00, w1]))))
  intro j hj
  simp only at hj ⊢
  rw [q2Z]
  by_cases hjk : k = j
  ·subst hjk
   rw [if_pos ⟨rfl, by omega⟩]
   rw [← qsV ha hs]
   try rw [q7E (l := a) (i := k + 1) (by omega), Nat.zero_mul, Nat.zero_add]
  rw [if_neg (by omega)]
  exact hinv j (by omega)
 rw [q07] at h2
 simp only at h2
 obtain rfl : k = a.length := by omega
 refine gg rfl (q04 (gg rfl ?_))
 have hp := q2l r (by omega)
 have hv : val r = val a / 2 ^ s := by
  rw [qqZ (fun j hj => hinv j (by omega)), hr, Nat.mod_eq_of_lt]
  exact Nat.lt_of_le_of_lt (Nat.div_le_self _ _) (q2K ha)
 rw [hv] at hp
 refine q2o rfl rfl ⟨q3y (l := r) hr.symm, trivial⟩ (by rw [q3U (l := r) hr.symm]; exact hp) fun z => ?_
 exact gg rfl (q08 rfl rfl rfl trivial rfl)
end Go.F

namespace Go.F
attribute [local irreducible] IntKind.wrap wpM
section
variable {T : Tab} {sh : Shr} {nx0 : Nat} {s : List Fr} {t : q0u} {h : q0f} {z : Frz} {nx : Nat} {q : Ex → q0u → q0f → Frz → Nat → Prop}
theorem qr0 {fn : KFn} {ex : Ex} {d : D} {K : D → q0f → Frz → Nat → Prop} (hex : (match ex with | .exit _ => false | _ => true) = true) (hd : dres t h fn.res = some d) (hk : K d h z nx) :
 wpM T sh nx0 [] ex t h z nx (qgt fn K) := by
 refine q04 ?_
 cases ex with
 | exit i => cases hex
 | normal => exact q6M hd hk
 | ret => exact q6M hd hk
end
theorem q8H {h : q0f} {id : Nat} {l : List Nat} (hh : h id = some (.row (l.map u32) 1)) : q17 h id = some (.row (l.map u32) 1) := by
 unfold q17
 rw [hh]
 simp only [q1g, q0b q0p]
 rfl
theorem orU32 {c x s : Nat} (hs : s ≤ 31) (hc : c < 2 ^ s) : IntKind.u32.wrap ((BitVec.ofInt IntKind.u32.bits (c : Int) ||| BitVec.ofInt IntKind.u32.bits ((x * 2 ^ s % 4294967296 : Nat) : Int)).toNat : Int) = ((c + x * 2 ^ s % 4294967296 : Nat) : Int)
 ∧ c + x * 2 ^ s % 4294967296 < 4294967296 := by
 have e : (4294967296 : Nat) = 2 ^ s * 2 ^ (32 - s) := by rw [← Nat.pow_add, show s + (32 - s) = 32 by omega]
 have em : x * 2 ^ s % 4294967296 = 2 ^ s * (x % 2 ^ (32 - s)) := by rw [e, Nat.mul_comm x, Nat.mul_mod_mul_left]
 have hx : x % 2 ^ (32 - s) + 1 ≤ 2 ^ (32 - s) := Nat.mod_lt _ (Nat.two_pow_pos _)
 have hlt : c + x * 2 ^ s % 4294967296 < 4294967296 := by
  have := Nat.mul_le_mul_left (2 ^ s) hx
  rw [← e, Nat.mul_add] at this
  omega
 refine ⟨?_, hlt⟩
 have hsp : 2 ^ s ≤ 2 ^ 31 := Nat.pow_le_pow_right (by decide) hs
 rw [q7T, q7T, BitVec.or_comm, BitVec.toNat_or, BitVec.toNat_ofNat, BitVec.toNat_ofNat]
 have eb : IntKind.u32.bits = 32 := rfl
 rw [eb, Nat.mod_eq_of_lt (show x * 2 ^ s % 4294967296 < 2 ^ 32 by omega), Nat.mod_eq_of_lt (show c < 2 ^ 32 by omega), em, ← Nat.two_pow_add_eq_or_of_lt hc, ← em, q0V, Nat.mod_eq_of_lt (by omega), Nat.add_comm]
set_option maxHeartbeats 2000000 in
theorem left1 (a : List Nat) (s : Nat) [ha : LOk a] (hla : a.length ≤ 1000000000) (hs : s ≤ 31)  {h : q0f} {z : Frz} {K : D → q0f → Frz → Nat → Prop} (hold : (fun (_ : q0f) (_ : Frz) => True) h z)
 (hk : ∀ (r : List Nat) (h' : q0f) (z' : Frz), r.length = a.length + 1 → LOk r → val r = val a * 2 ^ s → h' 80 = some (.row (r.map u32) 1) → z' 80 = 0 → (fun (_ : q0f) (_ : Frz) => True) h' z' → K (.ref 80 0 (a.length + 1)) h' z' 130) :
 wpM TT (shr TT 5) 79 [.code k_natural_left.code] .normal (enter [nat a, .int .i64 s]) h z 79 (qgt k_natural_left K) := by
 have h2s : 2 ^ s ≤ 2147483648 := by simpa using Nat.pow_le_pow_right (n := 2) (by decide) hs
 refine gg rfl ?_
 have w0 : IntKind.i64.wrap (((a.map u32).length : Int) + 1) = ((a.length + 1 : Nat) : Int) := by rw [List.length_map, wrap64 (by omega) (by omega)]; omega
 rw [w0]
 refine q4H (a.length + 1) rfl rfl rfl (by simp [q0U]; omega) ?_
 rw [q7K]
 refine gg rfl ?_
 refine qbh (S := fun x : Nat × List Nat => ([q00 s, .ref 80 0 (a.length + 1), nat a, q00 a.length, q00 x.1], [none, some (.row (x.2.map u32) 1), none, none, none], [0, 0, 0, 0, 0]))
  (O := fun _ ho zo => (fun (_ : q0f) (_ : Frz) => True) ho zo)
  (C := fun x => x.1 ≤ a.length ∧ x.2.length = a.length + 1 ∧ LOk x.2 ∧ dg x.2 x.1 < 2 ^ s ∧ val (x.2.take x.1) + 4294967296 ^ x.1 * dg x.2 x.1 = val (a.take x.1) * 2 ^ s ∧ ∀ j, x.1 < j → dg x.2 j = 0) (m := fun x => a.length - x.1) (0, List.replicate (a.length + 1) 0)
  ⟨Nat.zero_le _, by simp, q4L _, by simp only [q78]; exact Nat.two_pow_pos s, by simp [val, q78], fun j _ => q78 _ _⟩ (by simp; omega) ?_ ?_
 ·exact q3C rfl ⟨q0b q0p _, trivial⟩ ⟨by simp [nat, q00], trivial⟩
 rintro ⟨k, r⟩ ⟨hk', hr, hro, hc, hinv, hz⟩ ho zo hold N hN
 simp only at hk' hr hro hc hinv hz
 refine gg rfl (q02 rfl (fun h2 => ?_) (fun h2 => ?_))
 ·rw [q06] at h2
  simp only at h2
  have hlt : k < a.length := by omega
  have hx := q19 ha k
  have hw : IntKind.u64.wrap (dg a k : Int) = (dg a k : Int) := q0y (by omega)
  have w1 := wS (n := k)
  have hxs : dg a k * 2 ^ s ≤ 4294967295 * 2147483648 := Nat.mul_le_mul (by omega) h2s
  obtain ⟨ho1, ho2⟩ := orU32 (x := dg a k) hs hc
  have htop : dg a k * 2 ^ s / 2 ^ 32 < 2 ^ s := by
   rw [Nat.div_lt_iff_lt_mul (by decide), Nat.mul_comm]; exact Nat.mul_lt_mul_of_pos_left (by omega) (Nat.two_pow_pos s)
  refine gg rfl (q0k k rfl rfl rfl (q2f hlt) rfl (gg rfl ?_))
  rw [hw]
  refine q6N (dg a k) s rfl rfl rfl rfl (by show s ≤ 64; omega) (q0y (by omega)) ?_
  refine gg rfl (q0J k rfl rfl rfl rfl rfl (by omega) ?_)
  refine gg rfl (q4f r k rfl (Nat.zero_add _) rfl (by omega) ?_)
  refine gg rfl ?_
  rw [q0V, ho1]
  refine q0J k rfl rfl rfl rfl rfl (by omega) ?_
  refine gg rfl (q1C r k (dg r k + dg a k * 2 ^ s % 4294967296) rfl rfl (Nat.zero_add _) rfl rfl (Nat.zero_le _) (by omega) ?_)
  refine gg rfl (q0Y (dg a k * 2 ^ s) 32 rfl rfl rfl rfl (by decide) ?_)
  have e3 : IntKind.u32.wrap ((dg a k * 2 ^ s / 2 ^ 32 : Nat) : Int) = ((dg a k * 2 ^ s / 2 ^ 32 : Nat) : Int) := by rw [q0V]; omega
  refine gg rfl ?_
  rw [e3]
  refine q0J (k + 1) rfl rfl rfl rfl w1 (by omega) ?_
  refine gg rfl (q1C (r.set k (dg r k + dg a k * 2 ^ s % 4294967296)) (k + 1) (dg a k * 2 ^ s / 2 ^ 32) rfl rfl (Nat.zero_add _) rfl rfl (Nat.zero_le _) (by simp; omega) ?_)
  refine gg rfl (q04 ?_)
  refine hN (k + 1, (r.set k (dg r k + dg a k * 2 ^ s % 4294967296)).set (k + 1) (dg a k * 2 ^ s / 2 ^ 32)) ⟨hlt, by simp [hr], (hro.set _ ho2).set _ (by omega), ?_, ?_, ?_⟩ (by simp only; omega)
   (q3C rfl ⟨q0b q0p _, trivial⟩ ⟨by simp [nat, q00, w1], trivial⟩)
  ·simp only
   rw [q2Z, if_pos ⟨rfl, by simp; omega⟩]; exact htop
  ·simp only
   rw [q2Z, if_pos ⟨rfl, by simp; omega⟩, List.take_set_of_le (Nat.le_refl _), q2m (by omega), q0H a, Nat.add_mul, ← hinv, show (2 : Nat) ^ 32 = 4294967296 by decide, Nat.pow_succ, Nat.add_assoc, Nat.mul_add, Nat.add_assoc, q4e, Nat.mul_assoc, Nat.add_assoc]
  intro j hj
  simp only at hj ⊢
  rw [q2Z, if_neg (by omega), q2Z, if_neg (by omega)]
  exact hz j (by omega)
 rw [q07] at h2
 simp only at h2
 obtain rfl : k = a.length := by omega
 rw [List.take_length] at hinv
 refine gg rfl (q04 (gg rfl (qr0 rfl rfl (hk r _ _ hr hro ?_ rfl rfl (trivial)))))
 rw [← hinv, ← List.take_of_length_le (l := r) (i := a.length + 1) (by omega), q0H]
 rw [List.take_of_length_le (l := r) (i := a.length + 1) (by omega)]
set_option maxHeartbeats 2000000 in
theorem left2 (a : List Nat) (s : Nat) [ha : LOk a] (hla : a.length ≤ 1000000000) (hs : s ≤ 31) (us : List Nat) {h : q0f} {z : Frz} {K : D → q0f → Frz → Nat → Prop} (hold : (fun (hh : q0f) (zz : Frz) => hh 80 = some (.row (us.map u32) 1) ∧ zz 80 = 0) h z)
 (hk : ∀ (r : List Nat) (h' : q0f) (z' : Frz), r.length = a.length + 1 → LOk r → val r = val a * 2 ^ s → h' 131 = some (.row (r.map u32) 1) → z' 131 = 0 → (fun (hh : q0f) (zz : Frz) => hh 80 = some (.row (us.map u32) 1) ∧ zz 80 = 0) h' z' → K (.ref 131 0 (a.length + 1)) h' z' 181) :
 wpM TT (shr TT 5) 130 [.code k_natural_left.code] .normal (enter [nat a, .int .i64 s]) h z 130 (qgt k_natural_left K) := by
 have h2s : 2 ^ s ≤ 2147483648 := by simpa using Nat.pow_le_pow_right (n := 2) (by decide) hs
 refine gg rfl ?_
 have w0 : IntKind.i64.wrap (((a.map u32).length : Int) + 1) = ((a.length + 1 : Nat) : Int) := by rw [List.length_map, wrap64 (by omega) (by omega)]; omega
 rw [w0]
 refine q4H (a.length + 1) rfl rfl rfl (by simp [q0U]; omega) ?_
 rw [q7K]
 refine gg rfl ?_
 refine qbh (S := fun x : Nat × List Nat => ([q00 s, .ref 131 0 (a.length + 1), nat a, q00 a.length, q00 x.1], [none, some (.row (x.2.map u32) 1), none, none, none], [0, 0, 0, 0, 0]))
  (O := fun _ ho zo => (fun (hh : q0f) (zz : Frz) => hh 80 = some (.row (us.map u32) 1) ∧ zz 80 = 0) ho zo)
  (C := fun x => x.1 ≤ a.length ∧ x.2.length = a.length + 1 ∧ LOk x.2 ∧ dg x.2 x.1 < 2 ^ s ∧ val (x.2.take x.1) + 4294967296 ^ x.1 * dg x.2 x.1 = val (a.take x.1) * 2 ^ s ∧ ∀ j, x.1 < j → dg x.2 j = 0) (m := fun x => a.length - x.1) (0, List.replicate (a.length + 1) 0)
  ⟨Nat.zero_le _, by simp, q4L _, by simp only [q78]; exact Nat.two_pow_pos s, by simp [val, q78], fun j _ => q78 _ _⟩ (by simp; omega) ?_ ?_
 ·exact q3C rfl ⟨q0b q0p _, trivial⟩ ⟨by simp [nat, q00], ⟨q8H hold.1, hold.2⟩⟩
 rintro ⟨k, r⟩ ⟨hk', hr, hro, hc, hinv, hz⟩ ho zo hold N hN
 simp only at hk' hr hro hc hinv hz
 refine gg rfl (q02 rfl (fun h2 => ?_) (fun h2 => ?_))
 ·rw [q06] at h2
  simp only at h2
  have hlt : k < a.length := by omega
  have hx := q19 ha k
  have hw : IntKind.u64.wrap (dg a k : Int) = (dg a k : Int) := q0y (by omega)
  have w1 := wS (n := k)
  have hxs : dg a k * 2 ^ s ≤ 4294967295 * 2147483648 := Nat.mul_le_mul (by omega) h2s
  obtain ⟨ho1, ho2⟩ := orU32 (x := dg a k) hs hc
  have htop : dg a k * 2 ^ s / 2 ^ 32 < 2 ^ s := by
   rw [Nat.div_lt_iff_lt_mul (by decide), Nat.mul_comm]; exact Nat.mul_lt_mul_of_pos_left (by omega) (Nat.two_pow_pos s)
  refine gg rfl (q0k k rfl rfl rfl (q2f hlt) rfl (gg rfl ?_))
  rw [hw]
  refine q6N (dg a k) s rfl rfl rfl rfl (by show s ≤ 64; omega) (q0y (by omega)) ?_
  refine gg rfl (q0J k rfl rfl rfl rfl rfl (by omega) ?_)
  refine gg rfl (q4f r k rfl (Nat.zero_add _) rfl (by omega) ?_)
  refine gg rfl ?_
  rw [q0V, ho1]
  refine q0J k rfl rfl rfl rfl rfl (by omega) ?_
  refine gg rfl (q1C r k (dg r k + dg a k * 2 ^ s % 4294967296) rfl rfl (Nat.zero_add _) rfl rfl (Nat.zero_le _) (by omega) ?_)
  refine gg rfl (q0Y (dg a k * 2 ^ s) 32 rfl rfl rfl rfl (by decide) ?_)
  have e3 : IntKind.u32.wrap ((dg a k * 2 ^ s / 2 ^ 32 : Nat) : Int) = ((dg a k * 2 ^ s / 2 ^ 32 : Nat) : Int) := by rw [q0V]; omega
  refine gg rfl ?_
  rw [e3]
  refine q0J (k + 1) rfl rfl rfl rfl w1 (by omega) ?_
  refine gg rfl (q1C (r.set k (dg r k + dg a k * 2 ^ s % 4294967296)) (k + 1) (dg a k * 2 ^ s / 2 ^ 32) rfl rfl (Nat.zero_add _) rfl rfl (Nat.zero_le _) (by simp; omega) ?_)
  refine gg rfl (q04 ?_)
  refine hN (k + 1, (r.set k (dg r k + dg a k * 2 ^ s % 4294967296)).set (k + 1) (dg a k * 2 ^ s / 2 ^ 32)) ⟨hlt, by simp [hr], (hro.set _ ho2).set _ (by omega), ?_, ?_, ?_⟩ (by simp only; omega)
   (q3C rfl ⟨q0b q0p _, trivial⟩ ⟨by simp [nat, q00, w1], ⟨q8H hold.1, hold.2⟩⟩)
  ·simp only
   rw [q2Z, if_pos ⟨rfl, by simp; omega⟩]; exact htop
  ·simp only
   rw [q2Z, if_pos ⟨rfl, by simp; omega⟩, List.take_set_of_le (Nat.le_refl _), q2m (by omega), q0H a, Nat.add_mul, ← hinv, show (2 : Nat) ^ 32 = 4294967296 by decide, Nat.pow_succ, Nat.add_assoc, Nat.mul_add, Nat.add_assoc, q4e, Nat.mul_assoc, Nat.add_assoc]
  intro j hj
  simp only at hj ⊢
  rw [q2Z, if_neg (by omega), q2Z, if_neg (by omega)]
  exact hz j (by omega)
 rw [q07] at h2
 simp only at h2
 obtain rfl : k = a.length := by omega
 rw [List.take_length] at hinv
 refine gg rfl (q04 (gg rfl (qr0 rfl rfl (hk r _ _ hr hro ?_ rfl rfl (hold)))))
 rw [← hinv, ← List.take_of_length_le (l := r) (i := a.length + 1) (by omega), q0H]
 rw [List.take_of_length_le (l := r) (i := a.length + 1) (by omega)]
end Go.F

namespace Go.F
attribute [local irreducible] IntKind.wrap wpM
def len8 : ByteArray := ⟨#[0, 1, 2, 2, 3, 3, 3, 3, 4, 4, 4, 4, 4, 4, 4, 4, 5, 5, 5, 5, 5, 5, 5, 5, 5, 5, 5, 5, 5, 5, 5, 5, 6, 6, 6, 6, 6, 6, 6, 6, 6, 6, 6, 6, 6, 6, 6, 6, 6, 6, 6, 6, 6, 6, 6, 6, 6, 6, 6, 6, 6, 6, 6, 6, 7, 7, 7, 7, 7, 7, 7, 7, 7, 7, 7, 7, 7, 7, 7, 7, 7, 7, 7, 7, 7, 7, 7, 7, 7, 7, 7, 7, 7, 7, 7, 7, 7, 7, 7, 7, 7, 7, 7, 7, 7, 7, 7, 7, 7, 7, 7, 7, 7, 7, 7, 7, 7, 7, 7, 7, 7, 7, 7, 7, 7, 7, 7, 7, 8, 8, 8, 8, 8, 8, 8, 8, 8, 8, 8, 8, 8, 8, 8, 8, 8, 8, 8, 8, 8, 8, 8, 8, 8, 8, 8, 8, 8, 8, 8, 8, 8, 8, 8, 8, 8, 8, 8, 8, 8, 8, 8, 8, 8, 8, 8, 8, 8, 8, 8, 8, 8, 8, 8, 8, 8, 8, 8, 8, 8, 8, 8, 8, 8, 8, 8, 8, 8, 8, 8, 8, 8, 8, 8, 8, 8, 8, 8, 8, 8, 8, 8, 8, 8, 8, 8, 8, 8, 8, 8, 8, 8, 8, 8, 8, 8, 8, 8, 8, 8, 8, 8, 8, 8, 8, 8, 8, 8, 8, 8, 8, 8, 8, 8, 8, 8, 8, 8, 8, 8, 8, 8, 8, 8, 8, 8, 8]⟩
def q25 (k : Nat) : UInt8 := len8.data.toList.getD k 0
set_option maxRecDepth 100000 in
theorem q1W : ∀ k, k < 256 → len8.data.toList[k]? = some (q25 k) ∧ (q25 k).toNat ≤ 8 ∧ k < 2 ^ (q25 k).toNat ∧ (k ≠ 0 → 2 ^ (q25 k).toNat ≤ 2 * k) := by decide +kernel
theorem q55 {k : Nat} (h : k < 256) : len8.toList[k]? = some (q25 k) := by
 rw [Go.ByteArray.toList_eq]; exact (q1W k h).1
theorem qsW (x : Nat) (hx : x < 4294967296) : ∃ L : Nat, PU qaW [.int .u32 x] = some (.int .i64 L) ∧ L ≤ 32 ∧ x < 2 ^ L ∧ (x ≠ 0 → 2 ^ L ≤ 2 * x) := by
 by_cases h1 : 65536 ≤ x
 ·by_cases h2 : 256 ≤ x / 2 ^ 16
  ·have hy : x / 2 ^ 16 / 2 ^ 8 < 256 := by omega
   obtain ⟨_, g2, g3, g4⟩ := q1W (x / 2 ^ 16 / 2 ^ 8) hy
   refine ⟨24 + (q25 (x / 2 ^ 16 / 2 ^ 8)).toNat, ?_, by omega, ?_, fun h0 => ?_⟩
   ·refine q0h (fn := q4p) rfl (q0c ?_)
    refine gg rfl (q02 rfl (fun g => ?_) (fun g => ?_))
    ·refine gg rfl (q0Y x 16 rfl rfl rfl rfl (by decide) ?_)
     refine gg rfl (q02 rfl (fun g => ?_) (fun g => ?_))
     ·refine gg rfl (q0Y (x / 2 ^ 16) 8 rfl rfl rfl rfl (by decide) ?_)
      have hy : (x / 2 ^ 16 / 2 ^ 8) < 256 := by omega
      obtain ⟨_, g2, g3, g4⟩ := q1W ((x / 2 ^ 16 / 2 ^ 8)) hy
      have w8 : IntKind.u8.wrap (((x / 2 ^ 16 / 2 ^ 8) : Nat) : Int) = (((x / 2 ^ 16 / 2 ^ 8) : Nat) : Int) := by simp [IntKind.wrap, IntKind.bits, IntKind.signed]; omega
      have w9 := ww (x := (((q25 ((x / 2 ^ 16 / 2 ^ 8))).toNat : Nat) : Int))
      refine gg rfl (q1U ((x / 2 ^ 16 / 2 ^ 8)) rfl rfl w8 (q55 hy) (gg rfl (q08 rfl rfl rfl trivial ?_)))
      rw [w9]
      congr 1
      rw [wrap64 (x := 16 + 8) (by omega) (by omega), wrap64 (by omega) (by omega)]
      omega
     rw [q0E] at g; omega
    rw [q0E] at g; omega
   ·rw [Nat.pow_add]; omega
   have := g4 (by omega); rw [Nat.pow_add]; omega
  have hy : x / 2 ^ 16 < 256 := by omega
  obtain ⟨_, g2, g3, g4⟩ := q1W (x / 2 ^ 16) hy
  refine ⟨16 + (q25 (x / 2 ^ 16)).toNat, ?_, by omega, ?_, fun h0 => ?_⟩
  ·refine q0h (fn := q4p) rfl (q0c ?_)
   refine gg rfl (q02 rfl (fun g => ?_) (fun g => ?_))
   ·refine gg rfl (q0Y x 16 rfl rfl rfl rfl (by decide) ?_)
    refine gg rfl (q02 rfl (fun g => ?_) (fun g => ?_))
    ·rw [q0D] at g; omega
    have hy : (x / 2 ^ 16) < 256 := by omega
    obtain ⟨_, g2, g3, g4⟩ := q1W ((x / 2 ^ 16)) hy
    have w8 : IntKind.u8.wrap (((x / 2 ^ 16) : Nat) : Int) = (((x / 2 ^ 16) : Nat) : Int) := by simp [IntKind.wrap, IntKind.bits, IntKind.signed]; omega
    have w9 := ww (x := (((q25 ((x / 2 ^ 16))).toNat : Nat) : Int))
    refine gg rfl (q1U ((x / 2 ^ 16)) rfl rfl w8 (q55 hy) (gg rfl (q08 rfl rfl rfl trivial ?_)))
    rw [w9]
    congr 1
    rw [wrap64 (by omega) (by omega)]
    omega
   rw [q0E] at g; omega
  ·rw [Nat.pow_add]; omega
  have := g4 (by omega); rw [Nat.pow_add]; omega
 by_cases h2 : 256 ≤ x
 ·have hy : x / 2 ^ 8 < 256 := by omega
  obtain ⟨_, g2, g3, g4⟩ := q1W (x / 2 ^ 8) hy
  refine ⟨8 + (q25 (x / 2 ^ 8)).toNat, ?_, by omega, ?_, fun h0 => ?_⟩
  ·refine q0h (fn := q4p) rfl (q0c ?_)
   refine gg rfl (q02 rfl (fun g => ?_) (fun g => ?_))
   ·rw [q0D] at g; omega
   refine gg rfl (q02 rfl (fun g => ?_) (fun g => ?_))
   ·refine gg rfl (q0Y x 8 rfl rfl rfl rfl (by decide) ?_)
    have hy : (x / 2 ^ 8) < 256 := by omega
    obtain ⟨_, g2, g3, g4⟩ := q1W ((x / 2 ^ 8)) hy
    have w8 : IntKind.u8.wrap (((x / 2 ^ 8) : Nat) : Int) = (((x / 2 ^ 8) : Nat) : Int) := by simp [IntKind.wrap, IntKind.bits, IntKind.signed]; omega
    have w9 := ww (x := (((q25 ((x / 2 ^ 8))).toNat : Nat) : Int))
    refine gg rfl (q1U ((x / 2 ^ 8)) rfl rfl w8 (q55 hy) (gg rfl (q08 rfl rfl rfl trivial ?_)))
    rw [w9]
    congr 1
    rw [wrap64 (x := 0 + 8) (by omega) (by omega), wrap64 (by omega) (by omega)]
    omega
   rw [q0E] at g; omega
  ·rw [Nat.pow_add]; omega
  have := g4 (by omega); rw [Nat.pow_add]; omega
 have hy : x < 256 := by omega
 obtain ⟨_, g2, g3, g4⟩ := q1W x hy
 refine ⟨(q25 x).toNat, ?_, by omega, g3, g4⟩
 refine q0h (fn := q4p) rfl (q0c ?_)
 refine gg rfl (q02 rfl (fun g => ?_) (fun g => ?_))
 ·rw [q0D] at g; omega
 refine gg rfl (q02 rfl (fun g => ?_) (fun g => ?_))
 ·rw [q0D] at g; omega
 have hy : x < 256 := by omega
 obtain ⟨_, g2, g3, g4⟩ := q1W (x) hy
 have w8 : IntKind.u8.wrap ((x : Nat) : Int) = ((x : Nat) : Int) := by simp [IntKind.wrap, IntKind.bits, IntKind.signed]; omega
 have w9 := ww (x := (((q25 (x)).toNat : Nat) : Int))
 refine gg rfl (q1U (x) rfl rfl w8 (q55 hy) (gg rfl (q08 rfl rfl rfl trivial ?_)))
 rw [w9]
 congr 1
 rw [wrap64 (by omega) (by omega)]
 omega
theorem qfz (x : Nat) (hx : x < 4294967296) (h0 : x ≠ 0) : ∃ s : Nat, PU q6i [.int .u32 x] = some (.int .i64 s) ∧ s ≤ 31 ∧ 2147483648 ≤ x * 2 ^ s ∧ (x + 1) * 2 ^ s ≤ 4294967296 := by
 obtain ⟨L, h1, h2, h3, h4⟩ := qsW x hx
 have h4 := h4 h0
 have hL : L ≠ 0 := by rintro rfl; simp at h3; exact h0 h3
 refine ⟨32 - L, ?_, by omega, ?_, ?_⟩
 ·refine q0h (fn := q3S) rfl (q0c ?_)
  refine gg rfl (q01 rfl rfl h1 (gg rfl (q08 rfl rfl rfl trivial ?_)))
  congr 1
  rw [wrap64 (by omega) (by omega)]
  omega
 ·have e : 2 ^ L * 2 ^ (32 - L) = 4294967296 := by rw [← Nat.pow_add, show L + (32 - L) = 32 by omega]
  have := Nat.mul_le_mul_right (2 ^ (32 - L)) h4
  rw [e, Nat.mul_assoc] at this
  omega
 have e : 2 ^ L * 2 ^ (32 - L) = 4294967296 := by rw [← Nat.pow_add, show L + (32 - L) = 32 by omega]
 rw [← e]
 exact Nat.mul_le_mul_right _ h3
end Go.F
