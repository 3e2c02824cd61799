/- Parts of the proof, part 47: Base~, Geo4~, Plain1~, Ref3~, Nz1~, Nz2~, Nz8~, Nz9~, SegP~, Turn2~, LChk. -/
import Derived.Test.YtjjkgfikkihokaaGreatZ43
import Derived.Test.YtjjkgfikkihokaaGreatZ39
import Derived.Test.YtjjkgfikkihokaaGreatZ42
import Derived.IntWalk
import Derived.Test.YtjjkgfikkihokaaGreatZ44
import Derived.Test.YtjjkgfikkihokaaGreatZ45
import Derived.Test.YtjjkgfikkihokaaGreatZ46
set_option linter.all false
namespace Go.F
def ints (l : List Int) : D := .lst (l.map q01)
section
variable {T : Tab} {sh : Shr} {nx0 : Nat} {s : List Fr} {t : q0z} {h : q0e} {z : Frz} {nx : Nat} {q : Ex → q0z → q0e → Frz → Nat → Prop}
variable {base i : Nat} {res : List Nat} {dst : Nat} {g : Gd} {rest : List KOper}
end
end Go.F

namespace Go.F
attribute [local irreducible] IntKind.wrap wpM
def q2N (p : List Spot) : Nat → Int
 | 0 => 0
 | k + 1 => q2N p k + ((pt p k).x * (pt p ((k + 1) % p.length)).y - (pt p k).y * (pt p ((k + 1) % p.length)).x)
def qeU (p : List Spot) : Int := q2N p p.length
theorem qex (p : List Spot) [OkP p] (k : Nat) : Bd (q2N p k) (k * 35184372088832) := by
 induction k with
 | zero => exact ⟨by simp [q2N]⟩
 | succ k ih =>
   have h : Bd ((pt p k).x * (pt p ((k + 1) % p.length)).y - (pt p k).y * (pt p ((k + 1) % p.length)).x) _ := inferInstance
   have := h.le
   have := ih.le
   refine ⟨?_⟩
   rw [q2N]
   omega
set_option maxHeartbeats 1000000 in
theorem qsd (p : List Spot) [OkP p] (hp : p.length ≤ 1000) : PU q9d [q0g p] = some (.int .i64 (qeU p)) := by
 refine q0f (fn := q8T) rfl (q0a ?_)
 refine go 800 rfl ?_
 refine q0p (S := fun k : Nat => ([q0g p, q01 (q2N p k), q0g p, q01 p.length, q01 k], [none, none, none, none, none], [0, 0, 0, 0, 0])) (C := fun k => k ≤ p.length) (m := fun k => p.length - k) 0 (by omega) (by omega) ?_ ?_
 ·exact q03 rfl trivial (by simp [q0g, q01, q2N])
 intro k hk N hN
 refine go 800 rfl ?_
 refine q02 rfl (fun h1 => ?_) (fun h1 => ?_)
 ·rw [q06] at h1
  have hlt : k < p.length := by omega
  have w1 : IntKind.i64.wrap ((k : Int) + 1) = ((k + 1 : Nat) : Int) := wrap64 (by omega) (by omega)
  have b0 := (qex p k).le
  have b1 := (qex p (k + 1)).le
  refine go 800 rfl ?_
  refine q0i k rfl rfl rfl (q0D hlt) rfl ?_
  refine go 800 rfl ?_
  refine q3Y rfl rfl (by rw [List.length_map]; omega) ?_
  refine go 800 rfl ?_
  refine q0i ((k + 1) % p.length) rfl rfl (by rw [w1, List.length_map, q1m]) (q0D (Nat.mod_lt _ (by omega))) rfl ?_
  refine go 800 rfl ?_
  refine q05 ?_
  refine hN (k + 1) (by omega) (by omega) ?_
  refine q03 rfl trivial ?_
  have e1 : IntKind.i64.wrap ((pt p k).x * (pt p ((k + 1) % p.length)).y) = (pt p k).x * (pt p ((k + 1) % p.length)).y := q0C (by decide)
  have e2 : IntKind.i64.wrap ((pt p k).y * (pt p ((k + 1) % p.length)).x) = (pt p k).y * (pt p ((k + 1) % p.length)).x := q0C (by decide)
  have e3 : IntKind.i64.wrap ((pt p k).x * (pt p ((k + 1) % p.length)).y - (pt p k).y * (pt p ((k + 1) % p.length)).x) = (pt p k).x * (pt p ((k + 1) % p.length)).y - (pt p k).y * (pt p ((k + 1) % p.length)).x := q0C (by decide)
  have e4 : IntKind.i64.wrap (q2N p (k + 1)) = q2N p (k + 1) := wrap64 (by omega) (by omega)
  rw [q2N] at e4
  simp [q0g, q01, q2N, w1, e1, e2, e3, e4]
 rw [q07] at h1
 refine go 800 rfl ?_
 refine q05 ?_
 refine go 800 rfl ?_
 refine q0c rfl rfl rfl trivial ?_
 obtain rfl : k = p.length := by omega
 rfl
end Go.F

namespace Go.F
theorem qtT {ux uy vx vy : Int} (hc : ux * vy = uy * vx) (hd : 0 < ux * vx + uy * vy) : 0 ≤ ux * vx ∧ 0 ≤ uy * vy := by
 have e : (ux * vx) * (uy * vy) = (ux * vy) * (ux * vy) := by
  calc (ux * vx) * (uy * vy) = (ux * vy) * (uy * vx) := by ac_rfl
   _ = _ := by rw [← hc]
 have hn := q7w (ux * vy)
 rw [← e] at hn
 constructor
 ·refine Int.not_lt.1 fun h => ?_
  have := Int.mul_neg_of_neg_of_pos h (show 0 < uy * vy by omega)
  omega
 ·refine Int.not_lt.1 fun h => ?_
  have := Int.mul_neg_of_pos_of_neg (show 0 < ux * vx by omega) h
  omega
theorem qb1 {u v : Int} (hs : 0 ≤ u * v) (hl : v.natAbs ≤ u.natAbs) : min u 0 ≤ v ∧ v ≤ max u 0 := by
 rcases Int.lt_trichotomy v 0 with h | h | h
 ·have : u ≤ 0 := by
   refine Int.not_lt.1 fun h2 => ?_
   have := Int.mul_neg_of_pos_of_neg h2 h
   omega
  omega
 ·omega
 ·have : 0 ≤ u := by
   refine Int.not_lt.1 fun h2 => ?_
   have := Int.mul_neg_of_neg_of_pos h2 h
   omega
  omega
theorem qvH (a b c : Spot) : q0X a b c = (a.y - b.y) * (c.x - b.x) - (a.x - b.x) * (c.y - b.y) := by
 unfold q0X; grind
theorem qtU (a b c : Spot) : q0X b c a = q0X a b c := by unfold q0X; grind
theorem q7L {a b p : Spot} : onS a b p = true ↔ q0X a b p = 0 ∧ min a.x b.x ≤ p.x ∧ p.x ≤ max a.x b.x ∧ min a.y b.y ≤ p.y ∧ p.y ≤ max a.y b.y := by simp [onS]
theorem q9Q {a b c : Spot} : q46 a b c = true ↔ q0X a b c = 0 ∧ 0 < (a.x - b.x) * (c.x - b.x) + (a.y - b.y) * (c.y - b.y) := by simp [q46]
theorem qtV {a b c : Spot} (h : q46 a b c = true) : onS a b c = true ∨ onS b c a = true := by
 rw [q9Q] at h
 obtain ⟨h1, h2⟩ := h
 have hc : (a.x - b.x) * (c.y - b.y) = (a.y - b.y) * (c.x - b.x) := by rw [qvH] at h1; omega
 obtain ⟨s1, s2⟩ := qtT hc h2
 have hn : (a.x - b.x).natAbs * (c.y - b.y).natAbs = (a.y - b.y).natAbs * (c.x - b.x).natAbs := by rw [← Int.natAbs_mul, ← Int.natAbs_mul, hc]
 rw [q7L, q7L, qtU a b c]
 by_cases hx : (c.x - b.x).natAbs ≤ (a.x - b.x).natAbs
 ·by_cases hy : (c.y - b.y).natAbs ≤ (a.y - b.y).natAbs
  ·left
   have := qb1 s1 hx
   have := qb1 s2 hy
   refine ⟨h1, ?_⟩
   omega
  ·by_cases hx' : (a.x - b.x).natAbs ≤ (c.x - b.x).natAbs
   ·right
    rw [Int.mul_comm] at s1 s2
    have := qb1 s1 hx'
    have := qb1 s2 (show (a.y - b.y).natAbs ≤ (c.y - b.y).natAbs by omega)
    refine ⟨h1, ?_⟩
    omega
   ·have := Nat.mul_lt_mul'' (Nat.lt_of_not_le hx') (Nat.lt_of_not_le hy)
    rw [Nat.mul_comm (c.x - b.x).natAbs] at this
    omega
 ·by_cases hy : (a.y - b.y).natAbs ≤ (c.y - b.y).natAbs
  ·right
   rw [Int.mul_comm] at s1 s2
   have := qb1 s1 (show (a.x - b.x).natAbs ≤ (c.x - b.x).natAbs by omega)
   have := qb1 s2 hy
   refine ⟨h1, ?_⟩
   omega
  ·have := Nat.mul_lt_mul'' (Nat.lt_of_not_le hx) (Nat.lt_of_not_le hy)
   rw [Nat.mul_comm (c.x - b.x).natAbs] at this
   omega
theorem qpN {u v : Int} (h : min u 0 ≤ v ∧ v ≤ max u 0) : 0 ≤ u * v := by
 rcases Int.le_total 0 u with h2 | h2
 ·exact Int.mul_nonneg h2 (by omega)
 ·exact Int.mul_nonneg_of_nonpos_of_nonpos h2 (by omega)
theorem qmM {u v : Int} (h : min u 0 ≤ v ∧ v ≤ max u 0) (hv : v ≠ 0) : 0 < u * v := by
 rcases Int.lt_trichotomy v 0 with h2 | h2 | h2
 ·exact Int.mul_pos_of_neg_of_neg (by omega) h2
 ·exact absurd h2 hv
 ·exact Int.mul_pos (by omega) h2
theorem qwR {a b : Spot} (h : a ≠ b) : a.x - b.x ≠ 0 ∨ a.y - b.y ≠ 0 := by
 by_cases hx : a.x = b.x
 ·by_cases hy : a.y = b.y
  ·exact absurd (by cases a; cases b; simp_all) h
  ·right; omega
 ·left; omega
theorem qmN {a b c : Spot} (hcb : c ≠ b) (h : onS a b c = true) : q46 a b c = true := by
 rw [q7L] at h
 rw [q9Q]
 refine ⟨h.1, ?_⟩
 have bx : min (a.x - b.x) 0 ≤ c.x - b.x ∧ c.x - b.x ≤ max (a.x - b.x) 0 := by omega
 have bY : min (a.y - b.y) 0 ≤ c.y - b.y ∧ c.y - b.y ≤ max (a.y - b.y) 0 := by omega
 have p1 := qpN bx
 have p2 := qpN bY
 rcases qwR hcb with h2 | h2
 ·have := qmM bx h2; omega
 ·have := qmM bY h2; omega
theorem qrs (a b c : Spot) : q46 a b c = q46 c b a := by
 rw [Bool.eq_iff_iff, q9Q, q9Q]
 have : q0X c b a = - q0X a b c := by unfold q0X; grind
 rw [this, Int.mul_comm (c.x - b.x), Int.mul_comm (c.y - b.y)]
 omega
theorem qkW (a b c : Spot) : onS a b c = onS b a c := by
 rw [Bool.eq_iff_iff, q7L, q7L]
 have : q0X b a c = - q0X a b c := by unfold q0X; grind
 rw [this]
 omega
theorem on_end (a b : Spot) : onS a b a = true := by
 rw [q7L]
 refine ⟨by unfold q0X; grind, ?_⟩
 omega
theorem qkX {p : List Spot} {i : Nat} (hi : i < p.length) : pt p i ∈ p.take i ↔ ∃ j, j < i ∧ pt p j = pt p i := by
 rw [List.mem_take_iff_getElem]
 constructor
 ·rintro ⟨j, hj, e⟩
  exact ⟨j, by omega, by rw [q0F (by omega)]; exact e⟩
 ·rintro ⟨j, hj, e⟩
  exact ⟨j, by omega, by rw [← e, q0F (by omega)]⟩
theorem mod1 {n i : Nat} (hi : i < n) : (i + 1) % n = if i + 1 = n then 0 else i + 1 := by
 split
 ·rename_i h; rw [h]; simp
 ·exact Nat.mod_eq_of_lt (by omega)
theorem mod2 {n i : Nat} (h3 : 3 ≤ n) (hi : i < n) : (i + 2) % n = if i + 2 < n then i + 2 else i + 2 - n := by
 split
 ·rename_i h; exact Nat.mod_eq_of_lt h
 ·rw [Nat.mod_eq_sub_mod (by omega), Nat.mod_eq_of_lt (by omega)]
theorem qbZ {p : List Spot} (h3 : 3 ≤ p.length) : q47 p ↔ q2n p := by
 constructor
 ·rintro ⟨hd, hs⟩ i hi
  have inj : ∀ {j k}, j < p.length → k < p.length → j ≠ k → pt p j ≠ pt p k := by
   intro j k hj hk hne e
   rcases Nat.lt_or_gt_of_ne hne with h | h
   ·exact hd k hk ((qkX hk).2 ⟨j, h, e⟩)
   ·exact hd j hj ((qkX hj).2 ⟨k, h, e.symm⟩)
  have m1 := mod1 hi
  have m2 := mod2 h3 hi
  have l1 : (i + 1) % p.length < p.length := Nat.mod_lt _ (by omega)
  have l2 : (i + 2) % p.length < p.length := Nat.mod_lt _ (by omega)
  have n01 : pt p i ≠ pt p ((i + 1) % p.length) := inj hi l1 (by rw [m1]; split <;> omega)
  have n12 : pt p ((i + 2) % p.length) ≠ pt p ((i + 1) % p.length) := inj l2 l1 (by rw [m1, m2]; split <;> split <;> omega)
  obtain ⟨hf, hm⟩ := hs i hi
  refine ⟨⟨n01, ?_, ?_⟩, hm⟩
  ·cases ho : onS (pt p i) (pt p ((i + 1) % p.length)) (pt p ((i + 2) % p.length))
   ·rfl
   ·rw [qmN n12 ho] at hf; cases hf
  ·cases ho : onS (pt p ((i + 1) % p.length)) (pt p ((i + 2) % p.length)) (pt p i)
   ·rfl
   ·rw [qkW] at ho
    rw [qrs, qmN n01 ho] at hf; cases hf
 ·intro hr
  refine ⟨fun i hi hm => ?_, fun i hi => ⟨?_, (hr i hi).2⟩⟩
  ·obtain ⟨j, hj, e⟩ := (qkX hi).1 hm
   have hjl : j < p.length := by omega
   have m1 := mod1 hjl
   have m1' := mod1 hi
   by_cases h1 : j + 1 = i
   ·have := (hr j hjl).1.1
    rw [m1, if_neg (by omega), h1] at this
    exact this e
   ·by_cases h2 : (i + 1) % p.length = j
    ·have := (hr i hi).1.1
     rw [h2] at this
     exact this e.symm
    ·have := (hr j hjl).2 i hi (by omega) h2
     have ho := on_end (pt p j) (pt p ((j + 1) % p.length))
     rw [← e] at this
     simp [q2S, ho] at this
  ·cases hf : q46 (pt p i) (pt p ((i + 1) % p.length)) (pt p ((i + 2) % p.length))
   ·rfl
   ·have := (hr i hi).1
    rcases qtV hf with h | h
    ·rw [h] at this; cases this.2.1
    ·rw [h] at this; cases this.2.2
end Go.F

namespace Go.F
attribute [local irreducible] IntKind.wrap wpM
theorem q3X {l : List Edge} {k : Nat} (h : k < l.length) : q0k (l.take (k + 1)) = q0k (l.take k) ++ (eg l k).line.dropLast := by
 rw [q99 h, q4z h]
end Go.F

namespace Go.F
def qaq (a b c : QP) : Rat := (b.x - a.x) * (c.y - a.y) - (b.y - a.y) * (c.x - a.x)
theorem qbR (a b c : Spot) : qaq (qp a) (qp b) (qp c) = ((q0X a b c : Int) : Rat) := by
 unfold qaq q0X qp
 simp only [Rat.intCast_sub, Rat.intCast_mul]
theorem qtz (a b c d : QP) (t : Rat) : qaq a b (onP c d t) = (1 - t) * qaq a b c + t * qaq a b d := by
 unfold qaq onP qe9 q4d q1t
 simp only
 grind
theorem qiE (a b : QP) (s : Rat) : qaq a b (onP a b s) = 0 := by
 unfold qaq onP qe9 q4d q1t
 simp only
 grind
theorem qwE {a b s : Rat} (h0 : 0 ≤ s) (h1 : s ≤ 1) : min a b ≤ a + (b - a) * s ∧ a + (b - a) * s ≤ max a b := by
 rw [Rat.min_def, Rat.max_def]
 by_cases h : a ≤ b
 ·rw [if_pos h, if_pos h]
  have p1 := Rat.mul_nonneg (show 0 ≤ b - a by grind) h0
  have p2 := Rat.mul_nonneg (show 0 ≤ b - a by grind) (show 0 ≤ 1 - s by grind)
  constructor <;> grind
 ·rw [if_neg h, if_neg h]
  have p1 := Rat.mul_nonneg (show 0 ≤ a - b by grind) h0
  have p2 := Rat.mul_nonneg (show 0 ≤ a - b by grind) (show 0 ≤ 1 - s by grind)
  constructor <;> grind
theorem qiF {a b q : Int} {s : Rat} (h0 : 0 ≤ s) (h1 : s ≤ 1) (he : (q : Rat) = a + ((b : Rat) - a) * s) : min a b ≤ q ∧ q ≤ max a b := by
 have h := qwE (a := (a : Rat)) (b := (b : Rat)) h0 h1
 rw [← he, Rat.min_def, Rat.max_def] at h
 by_cases hab : a ≤ b
 ·have : (a : Rat) ≤ (b : Rat) := Rat.intCast_le_intCast.2 hab
  rw [if_pos this, if_pos this, Rat.intCast_le_intCast, Rat.intCast_le_intCast] at h
  omega
 ·have : ¬ (a : Rat) ≤ (b : Rat) := fun hh => hab (Rat.intCast_le_intCast.1 hh)
  rw [if_neg this, if_neg this, Rat.intCast_le_intCast, Rat.intCast_le_intCast] at h
  omega
theorem qgM {a b q : Spot} {s : Rat} (h0 : 0 ≤ s) (h1 : s ≤ 1) (he : qp q = onP (qp a) (qp b) s) : onS a b q = true := by
 have hc : q0X a b q = 0 := by
  have : ((q0X a b q : Int) : Rat) = 0 := by rw [← qbR, he, qiE]
  exact Rat.intCast_eq_zero_iff.1 this
 have hx : (q.x : Rat) = a.x + ((b.x : Rat) - a.x) * s := congrArg QP.x he
 have hy : (q.y : Rat) = a.y + ((b.y : Rat) - a.y) * s := congrArg QP.y he
 have bx := qiF h0 h1 hx
 have by' := qiF h0 h1 hy
 unfold onS
 simp [hc, bx, by']
theorem qkF {a b c : Spot} (hab : a ≠ b) (hc : q0X a b c = 0) : ∃ s : Rat, qp c = onP (qp a) (qp b) s := by
 have hq : qaq (qp a) (qp b) (qp c) = 0 := by rw [qbR, hc]; rfl
 unfold qaq at hq
 by_cases hx : b.x = a.x
 ·have hy : b.y ≠ a.y := fun h => hab (by cases a; cases b; simp at hx h ⊢; omega)
  have hy' : (qp b).y - (qp a).y ≠ 0 := by
   show (b.y : Rat) - (a.y : Rat) ≠ 0
   rw [← Rat.intCast_sub]; intro h; rw [Rat.intCast_eq_zero_iff] at h; omega
  have hx' : (qp b).x = (qp a).x := by show (b.x : Rat) = (a.x : Rat); rw [hx]
  refine ⟨((qp c).y - (qp a).y) / ((qp b).y - (qp a).y), ?_⟩
  have ht := Rat.div_mul_cancel (a := (qp c).y - (qp a).y) hy'
  generalize ((qp c).y - (qp a).y) / ((qp b).y - (qp a).y) = t at ht
  have h1 : ((qp b).y - (qp a).y) * ((qp c).x - (qp a).x) = 0 := by grind
  have h2 : (qp c).x = (qp a).x := by
   rcases Rat.mul_eq_zero.1 h1 with h | h
   ·exact absurd h hy'
   ·grind
  unfold onP qe9 q4d q1t
  cases hcc : qp c with
  | mk cx cy =>
    rw [hcc] at h2 ht
    simp only [QP.mk.injEq] at h2 ht ⊢
    constructor <;> grind
 ·have hx' : (qp b).x - (qp a).x ≠ 0 := by
   show (b.x : Rat) - (a.x : Rat) ≠ 0
   rw [← Rat.intCast_sub]; intro h; rw [Rat.intCast_eq_zero_iff] at h; omega
  refine ⟨((qp c).x - (qp a).x) / ((qp b).x - (qp a).x), ?_⟩
  have ht := Rat.div_mul_cancel (a := (qp c).x - (qp a).x) hx'
  generalize ((qp c).x - (qp a).x) / ((qp b).x - (qp a).x) = t at ht
  have h1 : ((qp b).x - (qp a).x) * ((qp c).y - (qp a).y - ((qp b).y - (qp a).y) * t) = 0 := by grind
  have h2 : (qp c).y - (qp a).y - ((qp b).y - (qp a).y) * t = 0 := by
   rcases Rat.mul_eq_zero.1 h1 with h | h
   ·exact absurd h hx'
   ·exact h
  unfold onP qe9 q4d q1t
  cases hcc : qp c with
  | mk cx cy =>
    rw [hcc] at h2 ht
    simp only [QP.mk.injEq] at h2 ht ⊢
    constructor <;> grind
end Go.F

namespace Go.F
theorem qnO {a b : Spot} (hab : a ≠ b) {s t : Rat} (h : onP (qp a) (qp b) s = onP (qp a) (qp b) t) : s = t := by
 have hx : (qp a).x + ((qp b).x - (qp a).x) * s = (qp a).x + ((qp b).x - (qp a).x) * t := congrArg QP.x h
 have hy : (qp a).y + ((qp b).y - (qp a).y) * s = (qp a).y + ((qp b).y - (qp a).y) * t := congrArg QP.y h
 by_cases h1 : b.x = a.x
 ·have h2 : b.y ≠ a.y := fun h => hab (by cases a; cases b; simp at h1 h ⊢; omega)
  have hy' : (qp b).y - (qp a).y ≠ 0 := by
   show (b.y : Rat) - (a.y : Rat) ≠ 0
   rw [← Rat.intCast_sub]; intro h; rw [Rat.intCast_eq_zero_iff] at h; omega
  have : ((qp b).y - (qp a).y) * (s - t) = 0 := by grind
  rcases Rat.mul_eq_zero.1 this with h | h
  ·exact absurd h hy'
  ·grind
 ·have hx' : (qp b).x - (qp a).x ≠ 0 := by
   show (b.x : Rat) - (a.x : Rat) ≠ 0
   rw [← Rat.intCast_sub]; intro h; rw [Rat.intCast_eq_zero_iff] at h; omega
  have : ((qp b).x - (qp a).x) * (s - t) = 0 := by grind
  rcases Rat.mul_eq_zero.1 this with h | h
  ·exact absurd h hx'
  ·grind
theorem on_on (a b : QP) (s1 s2 t : Rat) : onP (onP a b s1) (onP a b s2) t = onP a b (s1 + (s2 - s1) * t) := by
 unfold onP qe9 q4d q1t; simp only [QP.mk.injEq]; constructor <;> grind
theorem qnP (a b : QP) : onP a b 0 = a := by
 cases a; unfold onP qe9 q4d q1t; simp only [QP.mk.injEq]; constructor <;> grind
theorem qvt (a b : QP) : onP a b 1 = b := by
 cases b; unfold onP qe9 q4d q1t; simp only [QP.mk.injEq]; constructor <;> grind
theorem qe4 {a b c d : Spot} (hab : a ≠ b) (h1 : q0X a b c = 0) (h2 : q0X a b d = 0) {s t : Rat} (hs0 : 0 ≤ s) (hs1 : s ≤ 1) (ht0 : 0 ≤ t) (ht1 : t ≤ 1) (he : onP (qp a) (qp b) s = onP (qp c) (qp d) t) :
 onS a b c = true ∨ onS a b d = true ∨ onS c d a = true := by
 obtain ⟨s1, e1⟩ := qkF hab h1
 obtain ⟨s2, e2⟩ := qkF hab h2
 rw [e1, e2, on_on] at he
 have hs := qnO hab he
 by_cases c1 : 0 ≤ s1 ∧ s1 ≤ 1
 ·exact .inl (qgM c1.1 c1.2 e1)
 by_cases c2 : 0 ≤ s2 ∧ s2 ≤ 1
 ·exact .inr (.inl (qgM c2.1 c2.2 e2))
 have hne : s2 - s1 ≠ 0 := by
  intro h
  have : s = s1 := by rw [hs, h]; grind
  exact c1 ⟨by grind, by grind⟩
 have p1 : s - s1 = (s2 - s1) * t := by grind
 have p2 : s2 - s = (s2 - s1) * (1 - t) := by grind
 have hcase : (s1 < 0 ∧ 1 < s2) ∨ (s2 < 0 ∧ 1 < s1) := by
  rcases Rat.le_total (a := s1) (b := s2) with h | h
  ·have q1 := Rat.mul_nonneg (show 0 ≤ s2 - s1 by grind) ht0
   have q2 := Rat.mul_nonneg (show 0 ≤ s2 - s1 by grind) (show 0 ≤ 1 - t by grind)
   left; grind
  ·have q1 := Rat.mul_nonneg (show 0 ≤ s1 - s2 by grind) ht0
   have q2 := Rat.mul_nonneg (show 0 ≤ s1 - s2 by grind) (show 0 ≤ 1 - t by grind)
   right; grind
 right; right
 have hr := Rat.div_mul_cancel (a := 0 - s1) hne
 have hd : onP (qp c) (qp d) ((0 - s1) / (s2 - s1)) = qp a := by
  rw [e1, e2, on_on]
  have : s1 + (s2 - s1) * ((0 - s1) / (s2 - s1)) = 0 := by grind
  rw [this, qnP]
 generalize (0 - s1) / (s2 - s1) = r at hr hd
 refine qgM (s := r) ?_ ?_ hd.symm
 ·rcases hcase with ⟨g1, g2⟩ | ⟨g1, g2⟩
  ·by_cases hh : 0 ≤ r
   ·exact hh
   ·have := Rat.mul_pos (show 0 < -r by grind) (show 0 < s2 - s1 by grind)
    grind
  ·by_cases hh : 0 ≤ r
   ·exact hh
   ·have := Rat.mul_pos (show 0 < -r by grind) (show 0 < s1 - s2 by grind)
    grind
 ·rcases hcase with ⟨g1, g2⟩ | ⟨g1, g2⟩
  ·by_cases hh : r ≤ 1
   ·exact hh
   ·have := Rat.mul_pos (show 0 < r - 1 by grind) (show 0 < s2 - s1 by grind)
    grind
  ·by_cases hh : r ≤ 1
   ·exact hh
   ·have := Rat.mul_pos (show 0 < r - 1 by grind) (show 0 < s1 - s2 by grind)
    grind
theorem qpz {x y : Int} (h : (0 < x ∧ y < 0) ∨ (x < 0 ∧ 0 < y)) : sgn x * sgn y < 0 := by
 unfold sgn
 rcases h with ⟨h1, h2⟩ | ⟨h1, h2⟩
 ·rw [if_neg (by omega), if_pos h1, if_pos h2]; decide
 ·rw [if_pos h1, if_neg (by omega), if_pos h2]; decide
theorem qkG {a b c d : Spot} {s t : Rat} (ht0 : 0 ≤ t) (ht1 : t ≤ 1) (he : onP (qp a) (qp b) s = onP (qp c) (qp d) t) :
 (sgn (q0X a b c) * sgn (q0X a b d) < 0) ∨ (q0X a b c = 0 ∧ q0X a b d = 0) ∨ (q0X a b c = 0 ∧ t = 0) ∨ (q0X a b d = 0 ∧ t = 1) := by
 have h0 : (1 - t) * ((q0X a b c : Int) : Rat) + t * ((q0X a b d : Int) : Rat) = 0 := by
  rw [← qbR, ← qbR, ← qtz, ← he, qiE]
 generalize q0X a b c = x at *
 generalize q0X a b d = y at *
 by_cases hx : x = 0
 ·subst hx
  have : t * ((y : Int) : Rat) = 0 := by grind
  rcases Rat.mul_eq_zero.1 this with h | h
  ·exact .inr (.inr (.inl ⟨rfl, h⟩))
  ·exact .inr (.inl ⟨rfl, Rat.intCast_eq_zero_iff.1 h⟩)
 by_cases hy : y = 0
 ·subst hy
  have : (1 - t) * ((x : Int) : Rat) = 0 := by grind
  rcases Rat.mul_eq_zero.1 this with h | h
  ·exact .inr (.inr (.inr ⟨rfl, by grind⟩))
  ·exact absurd (Rat.intCast_eq_zero_iff.1 h) hx
 left
 apply qpz
 rcases Int.lt_or_gt_of_ne hx with h1 | h1 <;> rcases Int.lt_or_gt_of_ne hy with h2 | h2
 ·exfalso
  have g1 : (x : Rat) < 0 := Rat.intCast_neg_iff.2 h1
  have g2 : (y : Rat) < 0 := Rat.intCast_neg_iff.2 h2
  rcases Rat.le_iff_lt_or_eq.1 ht0 with h | h
  ·have q1 := Rat.mul_pos h (show 0 < -(y : Rat) by grind)
   have q2 := Rat.mul_nonneg (show 0 ≤ 1 - t by grind) (show 0 ≤ -(x : Rat) by grind)
   grind
  ·rw [← h] at h0; grind
 ·right; exact ⟨h1, h2⟩
 ·left; exact ⟨h1, h2⟩
 ·exfalso
  have g1 : 0 < (x : Rat) := Rat.intCast_pos.2 h1
  have g2 : 0 < (y : Rat) := Rat.intCast_pos.2 h2
  rcases Rat.le_iff_lt_or_eq.1 ht0 with h | h
  ·have q1 := Rat.mul_pos h g2
   have q2 := Rat.mul_nonneg (show 0 ≤ 1 - t by grind) (show 0 ≤ (x : Rat) by grind)
   grind
  ·rw [← h] at h0; grind
theorem qpA {a b c d : Spot} (hab : a ≠ b) (hcd : c ≠ d) {s t : Rat} (hs0 : 0 ≤ s) (hs1 : s ≤ 1) (ht0 : 0 ≤ t) (ht1 : t ≤ 1) (he : onP (qp a) (qp b) s = onP (qp c) (qp d) t) : q2S a b c d = true := by
 have key : onS a b c = true ∨ onS a b d = true ∨ onS c d a = true ∨ onS c d b = true ∨ (q2s a b c d = true ∧ q2s c d a b = true) := by
  rcases qkG ht0 ht1 he with h | ⟨h, h'⟩ | ⟨h, h'⟩ | ⟨h, h'⟩
  ·rcases qkG hs0 hs1 he.symm with g | ⟨g, g'⟩ | ⟨g, g'⟩ | ⟨g, g'⟩
   ·right; right; right; right
    unfold q2s; simp [h, g]
   ·rcases qe4 hcd g g' ht0 ht1 hs0 hs1 he.symm with k | k | k
    ·exact .inr (.inr (.inl k))
    ·exact .inr (.inr (.inr (.inl k)))
    ·exact .inl k
   ·subst g'; rw [qnP] at he; exact .inr (.inr (.inl (qgM ht0 ht1 he)))
   ·subst g'; rw [qvt] at he; exact .inr (.inr (.inr (.inl (qgM ht0 ht1 he))))
  ·rcases qe4 hab h h' hs0 hs1 ht0 ht1 he with k | k | k
   ·exact .inl k
   ·exact .inr (.inl k)
   ·exact .inr (.inr (.inl k))
  ·subst h'; rw [qnP] at he; exact .inl (qgM hs0 hs1 he.symm)
  ·subst h'; rw [qvt] at he; exact .inr (.inl (qgM hs0 hs1 he.symm))
 unfold q2S
 rcases key with h | h | h | h | ⟨h, h'⟩
 ·simp [h]
 ·simp [h]
 ·simp [h]
 ·simp [h]
 ·simp [h, h']
end Go.F

namespace Go.F
theorem bounds (U : Nat → Int) (n : Nat) : ∃ (lo : Int) (N : Nat), ∀ j, j ≤ n → lo ≤ U j ∧ U j ≤ lo + N := by
 induction n with
 | zero =>
   refine ⟨U 0, 0, fun j hj => ?_⟩
   have : j = 0 := by omega
   subst this; omega
 | succ k ih =>
   obtain ⟨lo, N, h⟩ := ih
   refine ⟨min lo (U (k + 1)), (max (lo + N) (U (k + 1)) - min lo (U (k + 1))).toNat, ?_⟩
   intro j hj
   by_cases e : j = k + 1
   ·subst e; omega
   ·have := h j (by omega); omega
end Go.F

namespace Go.F
def shU (p : List Spot) (i : Nat) : Int := 16777216 * (vx p i).x + (vx p i).y
def shV (p : List Spot) (i : Nat) : Int := (vx p i).y
def shT (p : List Spot) (i : Nat) : Rat := ((shV p (i + 1) : Rat) - shV p i) / ((shU p (i + 1) : Rat) - shU p i)
def yR (p : List Spot) (j : Nat) (u : Rat) : Rat := (shV p j : Rat) + shT p j * (u - (shU p j : Rat))
def inR (p : List Spot) (j : Nat) (u : Rat) : Prop := ((shU p j : Rat) ≤ u ∧ u ≤ (shU p (j + 1) : Rat)) ∨ ((shU p (j + 1) : Rat) ≤ u ∧ u ≤ (shU p j : Rat))
theorem qar (a b : Rat) : a ≤ b ∨ b ≤ a := Rat.le_total
theorem qiI {a b r : Rat} (hb : 0 ≤ b) (hb0 : b ≠ 0) (h : r * b = a) (ha : 0 ≤ a) : 0 ≤ r := by
 rcases qar 0 r with g | g
 ·exact g
 ·have k := Rat.mul_nonneg (show 0 ≤ -r by grind) hb
  have : r * b = 0 := by grind
  rcases Rat.mul_eq_zero.1 this with e | e
  ·grind
  ·exact absurd e hb0
theorem qeF {a b c : Rat} (h : c ≠ 0) (he : a * c = b * c) : a = b := by
 have h1 : (a - b) * c = 0 := by grind
 rcases Rat.mul_eq_zero.1 h1 with h2 | h2
 ·grind
 ·exact absurd h2 h
theorem qiJ {p : List Spot} {i : Nat} (h : i < p.length) : vx p i = pt p i := by unfold vx; rw [Nat.mod_eq_of_lt h]
theorem qnR {p : List Spot} [OkP p] (hs : q2n p) {i : Nat} (hi : i < p.length) : shU p i ≠ shU p (i + 1) := by
 have h := (hs i hi).1.1
 rw [← qiJ hi] at h
 have e : pt p ((i + 1) % p.length) = vx p (i + 1) := rfl
 rw [e] at h
 have b1 : OkS (vx p i) := by unfold vx; exact inferInstance
 have b2 : OkS (vx p (i + 1)) := by unfold vx; exact inferInstance
 have := b1.bx; have := b1.byy; have := b2.bx; have := b2.byy
 unfold shU
 intro he
 apply h
 generalize vx p i = a at *
 generalize vx p (i + 1) = b at *
 cases a; cases b
 simp only [Spot.mk.injEq] at *
 omega
theorem qsC {a b : Int} (h : a ≠ b) : (b : Rat) - (a : Rat) ≠ 0 := by
 rw [← Rat.intCast_sub]; intro hh; rw [Rat.intCast_eq_zero_iff] at hh; omega
theorem qpH {p : List Spot} {j : Nat} {u : Rat} (hne : shU p j ≠ shU p (j + 1)) (h : inR p j u) :
 ∃ s : Rat, 0 ≤ s ∧ s ≤ 1 ∧ u = shU p j + ((shU p (j + 1) : Rat) - shU p j) * s ∧ onP (qp (vx p j)) (qp (vx p (j + 1))) s = ⟨(u - yR p j u) / 16777216, yR p j u⟩ := by
 have hd := qsC hne
 have hs := Rat.div_mul_cancel (a := u - (shU p j : Rat)) hd
 have ht := Rat.div_mul_cancel (a := (shV p (j + 1) : Rat) - shV p j) hd
 refine ⟨(u - (shU p j : Rat)) / ((shU p (j + 1) : Rat) - shU p j), ?_, ?_, ?_, ?_⟩
 ·generalize hS : (u - (shU p j : Rat)) / ((shU p (j + 1) : Rat) - shU p j) = s at *
  rcases qar 0 s with g | g
  ·exact g
  ·unfold inR at h
   have h1 := Rat.mul_nonneg (show 0 ≤ -s by grind) (show (0 : Rat) ≤ 1 by decide)
   rcases h with ⟨h1, h2⟩ | ⟨h1, h2⟩
   ·have k := Rat.mul_nonneg (show 0 ≤ -s by grind) (show 0 ≤ ((shU p (j + 1) : Rat) - shU p j) by grind)
    have : s * ((shU p (j + 1) : Rat) - shU p j) = 0 := by grind
    rcases Rat.mul_eq_zero.1 this with e | e
    ·grind
    ·exact absurd e hd
   ·have k := Rat.mul_nonneg (show 0 ≤ -s by grind) (show 0 ≤ ((shU p j : Rat) - shU p (j + 1)) by grind)
    have : s * ((shU p (j + 1) : Rat) - shU p j) = 0 := by grind
    rcases Rat.mul_eq_zero.1 this with e | e
    ·grind
    ·exact absurd e hd
 ·generalize hS : (u - (shU p j : Rat)) / ((shU p (j + 1) : Rat) - shU p j) = s at *
  rcases qar s 1 with g | g
  ·exact g
  ·unfold inR at h
   rcases h with ⟨h1, h2⟩ | ⟨h1, h2⟩
   ·have k := Rat.mul_nonneg (show 0 ≤ s - 1 by grind) (show 0 ≤ ((shU p (j + 1) : Rat) - shU p j) by grind)
    have : (s - 1) * ((shU p (j + 1) : Rat) - shU p j) = 0 := by grind
    rcases Rat.mul_eq_zero.1 this with e | e
    ·grind
    ·exact absurd e hd
   ·have k := Rat.mul_nonneg (show 0 ≤ s - 1 by grind) (show 0 ≤ ((shU p j : Rat) - shU p (j + 1)) by grind)
    have : (s - 1) * ((shU p (j + 1) : Rat) - shU p j) = 0 := by grind
    rcases Rat.mul_eq_zero.1 this with e | e
    ·grind
    ·exact absurd e hd
 ·grind
 ·have hy : yR p j u = (shV p j : Rat) + ((shV p (j + 1) : Rat) - shV p j) * ((u - (shU p j : Rat)) / ((shU p (j + 1) : Rat) - shU p j)) := by
   unfold yR shT
   congr 1
   apply qeF hd
   grind
  rw [hy]
  generalize hS : (u - (shU p j : Rat)) / ((shU p (j + 1) : Rat) - shU p j) = s at *
  have hu : u = shU p j + ((shU p (j + 1) : Rat) - shU p j) * s := by grind
  rw [hu]
  have e1 : (shU p j : Rat) = 16777216 * ((vx p j).x : Rat) + ((vx p j).y : Rat) := by unfold shU; rw [Rat.intCast_add, Rat.intCast_mul]; rfl
  have e2 : (shU p (j + 1) : Rat) = 16777216 * ((vx p (j + 1)).x : Rat) + ((vx p (j + 1)).y : Rat) := by unfold shU; rw [Rat.intCast_add, Rat.intCast_mul]; rfl
  have e3 : (shV p j : Rat) = ((vx p j).y : Rat) := rfl
  have e4 : (shV p (j + 1) : Rat) = ((vx p (j + 1)).y : Rat) := rfl
  rw [e1, e2, e3, e4]
  unfold onP qe9 q4d q1t qp
  simp only [QP.mk.injEq]
  refine ⟨?_, trivial⟩
  generalize ((vx p j).x : Rat) = a
  generalize ((vx p j).y : Rat) = b
  generalize ((vx p (j + 1)).x : Rat) = c
  generalize ((vx p (j + 1)).y : Rat) = d
  have k : (16777216 : Rat) ≠ 0 := by decide
  apply qeF k
  rw [Rat.div_mul_cancel k]
  grind
theorem qmH {a b c : Spot} (hon1 : onS a b c = false) (hon2 : onS b c a = false) {s t : Rat} (hs0 : 0 ≤ s) (hs1 : s ≤ 1) (ht0 : 0 ≤ t) (ht1 : t ≤ 1) (he : onP (qp a) (qp b) s = onP (qp b) (qp c) t) : s = 1 ∧ t = 0 := by
 have hx : (a.x : Rat) + ((b.x : Rat) - a.x) * s = b.x + ((c.x : Rat) - b.x) * t := congrArg QP.x he
 have hy : (a.y : Rat) + ((b.y : Rat) - a.y) * s = b.y + ((c.y : Rat) - b.y) * t := congrArg QP.y he
 rcases qar t (1 - s) with h | h
 ·by_cases h0 : 1 - s = 0
  ·constructor <;> grind
  ·exfalso
   have hr := Rat.div_mul_cancel (a := t) h0
   have hp : 0 < 1 - s := by grind
   have r0 : 0 ≤ t / (1 - s) := qiI (by grind) h0 hr ht0
   have r1 : t / (1 - s) ≤ 1 := by
    generalize t / (1 - s) = r at *
    rcases qar r 1 with g | g
    ·exact g
    ·have k := Rat.mul_nonneg (show 0 ≤ r - 1 by grind) (show 0 ≤ 1 - s by grind)
     have : (r - 1) * (1 - s) = 0 := by grind
     rcases Rat.mul_eq_zero.1 this with e | e
     ·grind
     ·exact absurd e h0
   have : onS b c a = true := by
    refine qgM r0 r1 ?_
    generalize t / (1 - s) = r at *
    unfold onP qe9 q4d q1t qp
    simp only [QP.mk.injEq]
    constructor
    ·apply qeF h0; grind
    ·apply qeF h0; grind
   rw [hon2] at this; cases this
 ·by_cases h0 : t = 0
  ·constructor <;> grind
  ·exfalso
   have hr := Rat.div_mul_cancel (a := 1 - s) h0
   have r0 : 0 ≤ (1 - s) / t := qiI ht0 h0 hr (by grind)
   have r1 : (1 - s) / t ≤ 1 := by
    generalize (1 - s) / t = r at *
    rcases qar r 1 with g | g
    ·exact g
    ·have k := Rat.mul_nonneg (show 0 ≤ r - 1 by grind) ht0
     have : (r - 1) * t = 0 := by grind
     rcases Rat.mul_eq_zero.1 this with e | e
     ·grind
     ·exact absurd e h0
   have : onS a b c = true := by
    refine qgM (s := 1 - (1 - s) / t) (by grind) (by grind) ?_
    generalize (1 - s) / t = r at *
    unfold onP qe9 q4d q1t qp
    simp only [QP.mk.injEq]
    constructor
    ·apply qeF h0; grind
    ·apply qeF h0; grind
   rw [hon1] at this; cases this
theorem qvA {p : List Spot} [OkP p] (hs : q2n p) (h3 : 3 ≤ p.length) {i j : Nat} (hj : j < p.length) (hij : i < j) {u : Rat} (ci : inR p i u) (cj : inR p j u) (he : yR p i u = yR p j u) :
 ∃ m m', (m = i ∨ m = i + 1) ∧ (m' = j ∨ m' = j + 1) ∧ (shU p m : Rat) = u ∧ (m = m' ∨ (m = 0 ∧ m' = p.length) ∨ (m = p.length ∧ m' = 0)) := by
 have hi : i < p.length := by omega
 obtain ⟨s, s0, s1, su, sp⟩ := qpH (qnR hs hi) ci
 obtain ⟨t, t0, t1, tu, tp⟩ := qpH (qnR hs hj) cj
 have hc : onP (qp (vx p i)) (qp (vx p (i + 1))) s = onP (qp (vx p j)) (qp (vx p (j + 1))) t := by rw [sp, tp, he]
 by_cases ha : j = i + 1
 ·subst ha
  have h2 := (hs i hi).1.2
  have e : pt p ((i + 2) % p.length) = vx p (i + 1 + 1) := rfl
  have e' : pt p ((i + 1) % p.length) = vx p (i + 1) := rfl
  rw [← qiJ hi, e, e'] at h2
  obtain ⟨r1, r2⟩ := qmH h2.1 h2.2 s0 s1 t0 t1 hc
  exact ⟨i + 1, i + 1, .inr rfl, .inl rfl, by rw [su, r1]; grind, .inl rfl⟩
 ·by_cases hb : (j + 1) % p.length = i
  ·have hj1 : j + 1 = p.length := by
    rcases Nat.lt_or_ge (j + 1) p.length with g | g
    ·rw [Nat.mod_eq_of_lt g] at hb; omega
    ·omega
   rw [hj1, Nat.mod_self] at hb
   subst hb
   have h2 := (hs j hj).1.2
   have e0 : vx p (j + 1) = vx p 0 := by unfold vx; rw [hj1, Nat.mod_self, Nat.zero_mod]
   have e : pt p ((j + 2) % p.length) = vx p (0 + 1) := by
    unfold vx
    rw [show j + 2 = p.length + 1 by omega, Nat.add_mod_left]
   have e' : pt p ((j + 1) % p.length) = vx p (j + 1) := rfl
   rw [← qiJ hj, e, e', e0] at h2
   rw [e0] at hc
   obtain ⟨r1, r2⟩ := qmH h2.1 h2.2 t0 t1 s0 s1 hc.symm
   refine ⟨0, j + 1, .inl rfl, .inr rfl, ?_, .inr (.inl ⟨rfl, hj1⟩)⟩
   rw [su, r2]; grind
  ·exfalso
   have h2 := (hs i hi).2 j hj (by omega) hb
   have n1 := (hs i hi).1.1
   have n2 := (hs j hj).1.1
   have e1 : pt p ((i + 1) % p.length) = vx p (i + 1) := rfl
   have e2 : pt p ((j + 1) % p.length) = vx p (j + 1) := rfl
   rw [← qiJ hi, e1] at n1
   rw [← qiJ hj, e2] at n2
   rw [← qiJ hi, ← qiJ hj, e1, e2, qpA n1 n2 s0 s1 t0 t1 hc] at h2
   cases h2
theorem touch {p : List Spot} [OkP p] (hs : q2n p) (h3 : 3 ≤ p.length) {i j : Nat} (hi : i < p.length) (hj : j < p.length) (hij : i ≠ j) {u : Rat} (ci : inR p i u) (cj : inR p j u) (he : yR p i u = yR p j u) :
 ∃ m m', (m = i ∨ m = i + 1) ∧ (m' = j ∨ m' = j + 1) ∧ (shU p m : Rat) = u ∧ (m = m' ∨ (m = 0 ∧ m' = p.length) ∨ (m = p.length ∧ m' = 0)) := by
 rcases Nat.lt_or_gt_of_ne hij with h | h
 ·exact qvA hs h3 hj h ci cj he
 ·obtain ⟨m, m', h1, h2, h4, h5⟩ := qvA hs h3 hi h cj ci he.symm
  refine ⟨m', m, h2, h1, ?_, ?_⟩
  ·rcases h5 with rfl | ⟨rfl, rfl⟩ | ⟨rfl, rfl⟩
   ·exact h4
   ·rw [← h4]; unfold shU vx; rw [Nat.mod_self, Nat.zero_mod]
   ·rw [← h4]; unfold shU vx; rw [Nat.mod_self, Nat.zero_mod]
  ·rcases h5 with rfl | ⟨rfl, rfl⟩ | ⟨rfl, rfl⟩
   ·exact .inl rfl
   ·exact .inr (.inr ⟨rfl, rfl⟩)
   ·exact .inr (.inl ⟨rfl, rfl⟩)
end Go.F

namespace Go.F
theorem q9V {l : List Edge} {k : Nat} (hk : k < l.length) : q0k l = q0k (l.take k) ++ ((eg l k).line.dropLast ++ q0k (l.drop (k + 1))) := by
 have : l = l.take k ++ (eg l k :: l.drop (k + 1)) := by
  rw [q4z hk, List.getElem_cons_drop, List.take_append_drop]
 conv => lhs; rw [this]
 unfold q0k
 rw [List.flatMap_append, List.flatMap_cons]
theorem qb7 {l : List Edge} {k j : Nat} (hk : k < l.length) (hj : j + 1 < (eg l k).line.length) : pt (q0k l) ((q0k (l.take k)).length + j) = pt (eg l k).line j := by
 have e := q9V hk
 have hl : (q0k (l.take k)).length + j < (q0k l).length := by rw [e]; simp; omega
 rw [q0F hl, q0F (by omega)]
 simp only [e]
 rw [List.getElem_append_right (by omega), List.getElem_append_left (by simp; omega), List.getElem_dropLast]
 congr 1
 omega
theorem qfX {l : List Edge} (hc : q0J l = 0) {k j : Nat} (hk : k < l.length) (hj : j + 1 < (eg l k).line.length) : pt (q0k l) (((q0k (l.take k)).length + j + 1) % (q0k l).length) = pt (eg l k).line (j + 1) := by
 obtain ⟨h2, h16, hfe, hje, hchk⟩ := q14 hc
 have h2l : ∀ i, i < l.length → 2 ≤ (eg l i).line.length := fun i hi => (q1T (q4Q (q2f hfe hi))).1
 have ht := congrArg List.length (q3X hk)
 rw [List.length_append, List.length_dropLast] at ht
 by_cases hl : j + 2 < (eg l k).line.length
 ·have e := q9V hk
  have hlen : (q0k (l.take k)).length + j + 1 < (q0k l).length := by rw [e]; simp; omega
  rw [Nat.mod_eq_of_lt hlen, Nat.add_assoc]
  exact qb7 hk (by omega)
 ·have hje' := q2f hje hk
  unfold q2O at hje'
  split at hje'
  ·rename_i hq
   rw [show j + 1 = (eg l k).line.length - 1 by omega, hq]
   by_cases hk1 : k + 1 < l.length
   ·have h0 := qb7 hk1 (j := 0) (by have := h2l (k + 1) hk1; omega)
    have e := q9V hk1
    have hlen : (q0k (l.take (k + 1))).length < (q0k l).length := by rw [e]; simp; have := h2l (k + 1) hk1; omega
    rw [show (q0k (l.take k)).length + j + 1 = (q0k (l.take (k + 1))).length by omega, Nat.mod_eq_of_lt hlen, Nat.mod_eq_of_lt hk1, ← h0]; rfl
   ·have hke : k + 1 = l.length := by omega
    have h0 := qb7 (l := l) (k := 0) (j := 0) (by omega) (by have := h2l 0 (by omega); omega)
    have : (q0k (l.take (k + 1))).length = (q0k l).length := by rw [hke, List.take_length]
    rw [show (q0k (l.take k)).length + j + 1 = (q0k l).length by omega, Nat.mod_self, hke, Nat.mod_self, ← h0]
    simp [q0k]
  ·cases hje'
end Go.F

namespace Go.F
attribute [local irreducible] IntKind.wrap wpM
theorem q7O (t : Turn) {n i : Nat} (h : i < n) : q1R t n i < n := by
 unfold q1R; split
 ·exact Nat.mod_lt _ (by omega)
 ·exact h
end Go.F

namespace Go.F
attribute [local irreducible] IntKind.wrap wpM
end Go.F
