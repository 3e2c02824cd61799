/- Parts of the proof, part 47: Base~, Nz1~, Nz2~, Nz8~, Nz9~, Cmp1~, Crv3, Trc3, LChk. -/
import Derived.Test.YtjjkgfikkihokaaGreatZ43
import Derived.Test.YtjjkgfikkihokaaGreatZ39
import Derived.Test.YtjjkgfikkihokaaGreatZ42
import Derived.IntWalk
import Derived.Test.YtjjkgfikkihokaaGreatZ45
import Derived.Test.YtjjkgfikkihokaaGreatZ46
set_option linter.all false
namespace Go.F
def ints (l : List Int) : D := .lst (l.map q01)
section
variable {T : Tab} {sh : Shr} {nx0 : Nat} {s : List Fr} {t : q0z} {h : q0e} {z : Frz} {nx : Nat} {q : Ex → q0z → q0e → Frz → Nat → Prop}
variable {base i : Nat} {res : List Nat} {dst : Nat} {g : Gd} {rest : List KOper}
end
end Go.F

namespace Go.F
def qaq (a b c : QP) : Rat := (b.x - a.x) * (c.y - a.y) - (b.y - a.y) * (c.x - a.x)
theorem qbR (a b c : Spot) : qaq (qp a) (qp b) (qp c) = ((q0X a b c : Int) : Rat) := by
 unfold qaq q0X qp
 simp only [Rat.intCast_sub, Rat.intCast_mul]
theorem qtz (a b c d : QP) (t : Rat) : qaq a b (onP c d t) = (1 - t) * qaq a b c + t * qaq a b d := by
 unfold qaq onP qe9 q4d q1t
 simp only
 grind
theorem qiE (a b : QP) (s : Rat) : qaq a b (onP a b s) = 0 := by
 unfold qaq onP qe9 q4d q1t
 simp only
 grind
theorem qwE {a b s : Rat} (h0 : 0 ≤ s) (h1 : s ≤ 1) : min a b ≤ a + (b - a) * s ∧ a + (b - a) * s ≤ max a b := by
 rw [Rat.min_def, Rat.max_def]
 by_cases h : a ≤ b
 ·rw [if_pos h, if_pos h]
  have p1 := Rat.mul_nonneg (show 0 ≤ b - a by grind) h0
  have p2 := Rat.mul_nonneg (show 0 ≤ b - a by grind) (show 0 ≤ 1 - s by grind)
  constructor <;> grind
 ·rw [if_neg h, if_neg h]
  have p1 := Rat.mul_nonneg (show 0 ≤ a - b by grind) h0
  have p2 := Rat.mul_nonneg (show 0 ≤ a - b by grind) (show 0 ≤ 1 - s by grind)
  constructor <;> grind
theorem qiF {a b q : Int} {s : Rat} (h0 : 0 ≤ s) (h1 : s ≤ 1) (he : (q : Rat) = a + ((b : Rat) - a) * s) : min a b ≤ q ∧ q ≤ max a b := by
 have h := qwE (a := (a : Rat)) (b := (b : Rat)) h0 h1
 rw [← he, Rat.min_def, Rat.max_def] at h
 by_cases hab : a ≤ b
 ·have : (a : Rat) ≤ (b : Rat) := Rat.intCast_le_intCast.2 hab
  rw [if_pos this, if_pos this, Rat.intCast_le_intCast, Rat.intCast_le_intCast] at h
  omega
 ·have : ¬ (a : Rat) ≤ (b : Rat) := fun hh => hab (Rat.intCast_le_intCast.1 hh)
  rw [if_neg this, if_neg this, Rat.intCast_le_intCast, Rat.intCast_le_intCast] at h
  omega
theorem qgM {a b q : Spot} {s : Rat} (h0 : 0 ≤ s) (h1 : s ≤ 1) (he : qp q = onP (qp a) (qp b) s) : onS a b q = true := by
 have hc : q0X a b q = 0 := by
  have : ((q0X a b q : Int) : Rat) = 0 := by rw [← qbR, he, qiE]
  exact Rat.intCast_eq_zero_iff.1 this
 have hx : (q.x : Rat) = a.x + ((b.x : Rat) - a.x) * s := congrArg QP.x he
 have hy : (q.y : Rat) = a.y + ((b.y : Rat) - a.y) * s := congrArg QP.y he
 have bx := qiF h0 h1 hx
 have by' := qiF h0 h1 hy
 unfold onS
 simp [hc, bx, by']
theorem qkF {a b c : Spot} (hab : a ≠ b) (hc : q0X a b c = 0) : ∃ s : Rat, qp c = onP (qp a) (qp b) s := by
 have hq : qaq (qp a) (qp b) (qp c) = 0 := by rw [qbR, hc]; rfl
 unfold qaq at hq
 by_cases hx : b.x = a.x
 ·have hy : b.y ≠ a.y := fun h => hab (by cases a; cases b; simp at hx h ⊢; omega)
  have hy' : (qp b).y - (qp a).y ≠ 0 := by
   show (b.y : Rat) - (a.y : Rat) ≠ 0
   rw [← Rat.intCast_sub]; intro h; rw [Rat.intCast_eq_zero_iff] at h; omega
  have hx' : (qp b).x = (qp a).x := by show (b.x : Rat) = (a.x : Rat); rw [hx]
  refine ⟨((qp c).y - (qp a).y) / ((qp b).y - (qp a).y), ?_⟩
  have ht := Rat.div_mul_cancel (a := (qp c).y - (qp a).y) hy'
  generalize ((qp c).y - (qp a).y) / ((qp b).y - (qp a).y) = t at ht
  have h1 : ((qp b).y - (qp a).y) * ((qp c).x - (qp a).x) = 0 := by grind
  have h2 : (qp c).x = (qp a).x := by
   rcases Rat.mul_eq_zero.1 h1 with h | h
   ·exact absurd h hy'
   ·grind
  unfold onP qe9 q4d q1t
  cases hcc : qp c with
  | mk cx cy =>
    rw [hcc] at h2 ht
    simp only [QP.mk.injEq] at h2 ht ⊢
    constructor <;> grind
 ·have hx' : (qp b).x - (qp a).x ≠ 0 := by
   show (b.x : Rat) - (a.x : Rat) ≠ 0
   rw [← Rat.intCast_sub]; intro h; rw [Rat.intCast_eq_zero_iff] at h; omega
  refine ⟨((qp c).x - (qp a).x) / ((qp b).x - (qp a).x), ?_⟩
  have ht := Rat.div_mul_cancel (a := (qp c).x - (qp a).x) hx'
  generalize ((qp c).x - (qp a).x) / ((qp b).x - (qp a).x) = t at ht
  have h1 : ((qp b).x - (qp a).x) * ((qp c).y - (qp a).y - ((qp b).y - (qp a).y) * t) = 0 := by grind
  have h2 : (qp c).y - (qp a).y - ((qp b).y - (qp a).y) * t = 0 := by
   rcases Rat.mul_eq_zero.1 h1 with h | h
   ·exact absurd h hx'
   ·exact h
  unfold onP qe9 q4d q1t
  cases hcc : qp c with
  | mk cx cy =>
    rw [hcc] at h2 ht
    simp only [QP.mk.injEq] at h2 ht ⊢
    constructor <;> grind
end Go.F

namespace Go.F
theorem qnO {a b : Spot} (hab : a ≠ b) {s t : Rat} (h : onP (qp a) (qp b) s = onP (qp a) (qp b) t) : s = t := by
 have hx : (qp a).x + ((qp b).x - (qp a).x) * s = (qp a).x + ((qp b).x - (qp a).x) * t := congrArg QP.x h
 have hy : (qp a).y + ((qp b).y - (qp a).y) * s = (qp a).y + ((qp b).y - (qp a).y) * t := congrArg QP.y h
 by_cases h1 : b.x = a.x
 ·have h2 : b.y ≠ a.y := fun h => hab (by cases a; cases b; simp at h1 h ⊢; omega)
  have hy' : (qp b).y - (qp a).y ≠ 0 := by
   show (b.y : Rat) - (a.y : Rat) ≠ 0
   rw [← Rat.intCast_sub]; intro h; rw [Rat.intCast_eq_zero_iff] at h; omega
  have : ((qp b).y - (qp a).y) * (s - t) = 0 := by grind
  rcases Rat.mul_eq_zero.1 this with h | h
  ·exact absurd h hy'
  ·grind
 ·have hx' : (qp b).x - (qp a).x ≠ 0 := by
   show (b.x : Rat) - (a.x : Rat) ≠ 0
   rw [← Rat.intCast_sub]; intro h; rw [Rat.intCast_eq_zero_iff] at h; omega
  have : ((qp b).x - (qp a).x) * (s - t) = 0 := by grind
  rcases Rat.mul_eq_zero.1 this with h | h
  ·exact absurd h hx'
  ·grind
theorem on_on (a b : QP) (s1 s2 t : Rat) : onP (onP a b s1) (onP a b s2) t = onP a b (s1 + (s2 - s1) * t) := by
 unfold onP qe9 q4d q1t; simp only [QP.mk.injEq]; constructor <;> grind
theorem qnP (a b : QP) : onP a b 0 = a := by
 cases a; unfold onP qe9 q4d q1t; simp only [QP.mk.injEq]; constructor <;> grind
theorem qvt (a b : QP) : onP a b 1 = b := by
 cases b; unfold onP qe9 q4d q1t; simp only [QP.mk.injEq]; constructor <;> grind
theorem qe4 {a b c d : Spot} (hab : a ≠ b) (h1 : q0X a b c = 0) (h2 : q0X a b d = 0) {s t : Rat} (hs0 : 0 ≤ s) (hs1 : s ≤ 1) (ht0 : 0 ≤ t) (ht1 : t ≤ 1) (he : onP (qp a) (qp b) s = onP (qp c) (qp d) t) :
 onS a b c = true ∨ onS a b d = true ∨ onS c d a = true := by
 obtain ⟨s1, e1⟩ := qkF hab h1
 obtain ⟨s2, e2⟩ := qkF hab h2
 rw [e1, e2, on_on] at he
 have hs := qnO hab he
 by_cases c1 : 0 ≤ s1 ∧ s1 ≤ 1
 ·exact .inl (qgM c1.1 c1.2 e1)
 by_cases c2 : 0 ≤ s2 ∧ s2 ≤ 1
 ·exact .inr (.inl (qgM c2.1 c2.2 e2))
 have hne : s2 - s1 ≠ 0 := by
  intro h
  have : s = s1 := by rw [hs, h]; grind
  exact c1 ⟨by grind, by grind⟩
 have p1 : s - s1 = (s2 - s1) * t := by grind
 have p2 : s2 - s = (s2 - s1) * (1 - t) := by grind
 have hcase : (s1 < 0 ∧ 1 < s2) ∨ (s2 < 0 ∧ 1 < s1) := by
  rcases Rat.le_total (a := s1) (b := s2) with h | h
  ·have q1 := Rat.mul_nonneg (show 0 ≤ s2 - s1 by grind) ht0
   have q2 := Rat.mul_nonneg (show 0 ≤ s2 - s1 by grind) (show 0 ≤ 1 - t by grind)
   left; grind
  ·have q1 := Rat.mul_nonneg (show 0 ≤ s1 - s2 by grind) ht0
   have q2 := Rat.mul_nonneg (show 0 ≤ s1 - s2 by grind) (show 0 ≤ 1 - t by grind)
   right; grind
 right; right
 have hr := Rat.div_mul_cancel (a := 0 - s1) hne
 have hd : onP (qp c) (qp d) ((0 - s1) / (s2 - s1)) = qp a := by
  rw [e1, e2, on_on]
  have : s1 + (s2 - s1) * ((0 - s1) / (s2 - s1)) = 0 := by grind
  rw [this, qnP]
 generalize (0 - s1) / (s2 - s1) = r at hr hd
 refine qgM (s := r) ?_ ?_ hd.symm
 ·rcases hcase with ⟨g1, g2⟩ | ⟨g1, g2⟩
  ·by_cases hh : 0 ≤ r
   ·exact hh
   ·have := Rat.mul_pos (show 0 < -r by grind) (show 0 < s2 - s1 by grind)
    grind
  ·by_cases hh : 0 ≤ r
   ·exact hh
   ·have := Rat.mul_pos (show 0 < -r by grind) (show 0 < s1 - s2 by grind)
    grind
 ·rcases hcase with ⟨g1, g2⟩ | ⟨g1, g2⟩
  ·by_cases hh : r ≤ 1
   ·exact hh
   ·have := Rat.mul_pos (show 0 < r - 1 by grind) (show 0 < s2 - s1 by grind)
    grind
  ·by_cases hh : r ≤ 1
   ·exact hh
   ·have := Rat.mul_pos (show 0 < r - 1 by grind) (show 0 < s1 - s2 by grind)
    grind
theorem qpz {x y : Int} (h : (0 < x ∧ y < 0) ∨ (x < 0 ∧ 0 < y)) : sgn x * sgn y < 0 := by
 unfold sgn
 rcases h with ⟨h1, h2⟩ | ⟨h1, h2⟩
 ·rw [if_neg (by omega), if_pos h1, if_pos h2]; decide
 ·rw [if_pos h1, if_neg (by omega), if_pos h2]; decide
theorem qkG {a b c d : Spot} {s t : Rat} (ht0 : 0 ≤ t) (ht1 : t ≤ 1) (he : onP (qp a) (qp b) s = onP (qp c) (qp d) t) :
 (sgn (q0X a b c) * sgn (q0X a b d) < 0) ∨ (q0X a b c = 0 ∧ q0X a b d = 0) ∨ (q0X a b c = 0 ∧ t = 0) ∨ (q0X a b d = 0 ∧ t = 1) := by
 have h0 : (1 - t) * ((q0X a b c : Int) : Rat) + t * ((q0X a b d : Int) : Rat) = 0 := by
  rw [← qbR, ← qbR, ← qtz, ← he, qiE]
 generalize q0X a b c = x at *
 generalize q0X a b d = y at *
 by_cases hx : x = 0
 ·subst hx
  have : t * ((y : Int) : Rat) = 0 := by grind
  rcases Rat.mul_eq_zero.1 this with h | h
  ·exact .inr (.inr (.inl ⟨rfl, h⟩))
  ·exact .inr (.inl ⟨rfl, Rat.intCast_eq_zero_iff.1 h⟩)
 by_cases hy : y = 0
 ·subst hy
  have : (1 - t) * ((x : Int) : Rat) = 0 := by grind
  rcases Rat.mul_eq_zero.1 this with h | h
  ·exact .inr (.inr (.inr ⟨rfl, by grind⟩))
  ·exact absurd (Rat.intCast_eq_zero_iff.1 h) hx
 left
 apply qpz
 rcases Int.lt_or_gt_of_ne hx with h1 | h1 <;> rcases Int.lt_or_gt_of_ne hy with h2 | h2
 ·exfalso
  have g1 : (x : Rat) < 0 := Rat.intCast_neg_iff.2 h1
  have g2 : (y : Rat) < 0 := Rat.intCast_neg_iff.2 h2
  rcases Rat.le_iff_lt_or_eq.1 ht0 with h | h
  ·have q1 := Rat.mul_pos h (show 0 < -(y : Rat) by grind)
   have q2 := Rat.mul_nonneg (show 0 ≤ 1 - t by grind) (show 0 ≤ -(x : Rat) by grind)
   grind
  ·rw [← h] at h0; grind
 ·right; exact ⟨h1, h2⟩
 ·left; exact ⟨h1, h2⟩
 ·exfalso
  have g1 : 0 < (x : Rat) := Rat.intCast_pos.2 h1
  have g2 : 0 < (y : Rat) := Rat.intCast_pos.2 h2
  rcases Rat.le_iff_lt_or_eq.1 ht0 with h | h
  ·have q1 := Rat.mul_pos h g2
   have q2 := Rat.mul_nonneg (show 0 ≤ 1 - t by grind) (show 0 ≤ (x : Rat) by grind)
   grind
  ·rw [← h] at h0; grind
theorem qpA {a b c d : Spot} (hab : a ≠ b) (hcd : c ≠ d) {s t : Rat} (hs0 : 0 ≤ s) (hs1 : s ≤ 1) (ht0 : 0 ≤ t) (ht1 : t ≤ 1) (he : onP (qp a) (qp b) s = onP (qp c) (qp d) t) : q2S a b c d = true := by
 have key : onS a b c = true ∨ onS a b d = true ∨ onS c d a = true ∨ onS c d b = true ∨ (q2s a b c d = true ∧ q2s c d a b = true) := by
  rcases qkG ht0 ht1 he with h | ⟨h, h'⟩ | ⟨h, h'⟩ | ⟨h, h'⟩
  ·rcases qkG hs0 hs1 he.symm with g | ⟨g, g'⟩ | ⟨g, g'⟩ | ⟨g, g'⟩
   ·right; right; right; right
    unfold q2s; simp [h, g]
   ·rcases qe4 hcd g g' ht0 ht1 hs0 hs1 he.symm with k | k | k
    ·exact .inr (.inr (.inl k))
    ·exact .inr (.inr (.inr (.inl k)))
    ·exact .inl k
   ·subst g'; rw [qnP] at he; exact .inr (.inr (.inl (qgM ht0 ht1 he)))
   ·subst g'; rw [qvt] at he; exact .inr (.inr (.inr (.inl (qgM ht0 ht1 he))))
  ·rcases qe4 hab h h' hs0 hs1 ht0 ht1 he with k | k | k
   ·exact .inl k
   ·exact .inr (.inl k)
   ·exact .inr (.inr (.inl k))
  ·subst h'; rw [qnP] at he; exact .inl (qgM hs0 hs1 he.symm)
  ·subst h'; rw [qvt] at he; exact .inr (.inl (qgM hs0 hs1 he.symm))
 unfold q2S
 rcases key with h | h | h | h | ⟨h, h'⟩
 ·simp [h]
 ·simp [h]
 ·simp [h]
 ·simp [h]
 ·simp [h, h']
end Go.F

namespace Go.F
theorem bounds (U : Nat → Int) (n : Nat) : ∃ (lo : Int) (N : Nat), ∀ j, j ≤ n → lo ≤ U j ∧ U j ≤ lo + N := by
 induction n with
 | zero =>
   refine ⟨U 0, 0, fun j hj => ?_⟩
   have : j = 0 := by omega
   subst this; omega
 | succ k ih =>
   obtain ⟨lo, N, h⟩ := ih
   refine ⟨min lo (U (k + 1)), (max (lo + N) (U (k + 1)) - min lo (U (k + 1))).toNat, ?_⟩
   intro j hj
   by_cases e : j = k + 1
   ·subst e; omega
   ·have := h j (by omega); omega
end Go.F

namespace Go.F
def shU (p : List Spot) (i : Nat) : Int := 16777216 * (vx p i).x + (vx p i).y
def shV (p : List Spot) (i : Nat) : Int := (vx p i).y
def shT (p : List Spot) (i : Nat) : Rat := ((shV p (i + 1) : Rat) - shV p i) / ((shU p (i + 1) : Rat) - shU p i)
def yR (p : List Spot) (j : Nat) (u : Rat) : Rat := (shV p j : Rat) + shT p j * (u - (shU p j : Rat))
def inR (p : List Spot) (j : Nat) (u : Rat) : Prop := ((shU p j : Rat) ≤ u ∧ u ≤ (shU p (j + 1) : Rat)) ∨ ((shU p (j + 1) : Rat) ≤ u ∧ u ≤ (shU p j : Rat))
theorem qar (a b : Rat) : a ≤ b ∨ b ≤ a := Rat.le_total
theorem qiI {a b r : Rat} (hb : 0 ≤ b) (hb0 : b ≠ 0) (h : r * b = a) (ha : 0 ≤ a) : 0 ≤ r := by
 rcases qar 0 r with g | g
 ·exact g
 ·have k := Rat.mul_nonneg (show 0 ≤ -r by grind) hb
  have : r * b = 0 := by grind
  rcases Rat.mul_eq_zero.1 this with e | e
  ·grind
  ·exact absurd e hb0
theorem qeF {a b c : Rat} (h : c ≠ 0) (he : a * c = b * c) : a = b := by
 have h1 : (a - b) * c = 0 := by grind
 rcases Rat.mul_eq_zero.1 h1 with h2 | h2
 ·grind
 ·exact absurd h2 h
theorem qiJ {p : List Spot} {i : Nat} (h : i < p.length) : vx p i = pt p i := by unfold vx; rw [Nat.mod_eq_of_lt h]
theorem qnR {p : List Spot} [OkP p] (hs : q2n p) {i : Nat} (hi : i < p.length) : shU p i ≠ shU p (i + 1) := by
 have h := (hs i hi).1.1
 rw [← qiJ hi] at h
 have e : pt p ((i + 1) % p.length) = vx p (i + 1) := rfl
 rw [e] at h
 have b1 : OkS (vx p i) := by unfold vx; exact inferInstance
 have b2 : OkS (vx p (i + 1)) := by unfold vx; exact inferInstance
 have := b1.bx; have := b1.byy; have := b2.bx; have := b2.byy
 unfold shU
 intro he
 apply h
 generalize vx p i = a at *
 generalize vx p (i + 1) = b at *
 cases a; cases b
 simp only [Spot.mk.injEq] at *
 omega
theorem qsC {a b : Int} (h : a ≠ b) : (b : Rat) - (a : Rat) ≠ 0 := by
 rw [← Rat.intCast_sub]; intro hh; rw [Rat.intCast_eq_zero_iff] at hh; omega
theorem qpH {p : List Spot} {j : Nat} {u : Rat} (hne : shU p j ≠ shU p (j + 1)) (h : inR p j u) :
 ∃ s : Rat, 0 ≤ s ∧ s ≤ 1 ∧ u = shU p j + ((shU p (j + 1) : Rat) - shU p j) * s ∧ onP (qp (vx p j)) (qp (vx p (j + 1))) s = ⟨(u - yR p j u) / 16777216, yR p j u⟩ := by
 have hd := qsC hne
 have hs := Rat.div_mul_cancel (a := u - (shU p j : Rat)) hd
 have ht := Rat.div_mul_cancel (a := (shV p (j + 1) : Rat) - shV p j) hd
 refine ⟨(u - (shU p j : Rat)) / ((shU p (j + 1) : Rat) - shU p j), ?_, ?_, ?_, ?_⟩
 ·generalize hS : (u - (shU p j : Rat)) / ((shU p (j + 1) : Rat) - shU p j) = s at *
  rcases qar 0 s with g | g
  ·exact g
  ·unfold inR at h
   have h1 := Rat.mul_nonneg (show 0 ≤ -s by grind) (show (0 : Rat) ≤ 1 by decide)
   rcases h with ⟨h1, h2⟩ | ⟨h1, h2⟩
   ·have k := Rat.mul_nonneg (show 0 ≤ -s by grind) (show 0 ≤ ((shU p (j + 1) : Rat) - shU p j) by grind)
    have : s * ((shU p (j + 1) : Rat) - shU p j) = 0 := by grind
    rcases Rat.mul_eq_zero.1 this with e | e
    ·grind
    ·exact absurd e hd
   ·have k := Rat.mul_nonneg (show 0 ≤ -s by grind) (show 0 ≤ ((shU p j : Rat) - shU p (j + 1)) by grind)
    have : s * ((shU p (j + 1) : Rat) - shU p j) = 0 := by grind
    rcases Rat.mul_eq_zero.1 this with e | e
    ·grind
    ·exact absurd e hd
 ·generalize hS : (u - (shU p j : Rat)) / ((shU p (j + 1) : Rat) - shU p j) = s at *
  rcases qar s 1 with g | g
  ·exact g
  ·unfold inR at h
   rcases h with ⟨h1, h2⟩ | ⟨h1, h2⟩
   ·have k := Rat.mul_nonneg (show 0 ≤ s - 1 by grind) (show 0 ≤ ((shU p (j + 1) : Rat) - shU p j) by grind)
    have : (s - 1) * ((shU p (j + 1) : Rat) - shU p j) = 0 := by grind
    rcases Rat.mul_eq_zero.1 this with e | e
    ·grind
    ·exact absurd e hd
   ·have k := Rat.mul_nonneg (show 0 ≤ s - 1 by grind) (show 0 ≤ ((shU p j : Rat) - shU p (j + 1)) by grind)
    have : (s - 1) * ((shU p (j + 1) : Rat) - shU p j) = 0 := by grind
    rcases Rat.mul_eq_zero.1 this with e | e
    ·grind
    ·exact absurd e hd
 ·grind
 ·have hy : yR p j u = (shV p j : Rat) + ((shV p (j + 1) : Rat) - shV p j) * ((u - (shU p j : Rat)) / ((shU p (j + 1) : Rat) - shU p j)) := by
   unfold yR shT
   congr 1
   apply qeF hd
   grind
  rw [hy]
  generalize hS : (u - (shU p j : Rat)) / ((shU p (j + 1) : Rat) - shU p j) = s at *
  have hu : u = shU p j + ((shU p (j + 1) : Rat) - shU p j) * s := by grind
  rw [hu]
  have e1 : (shU p j : Rat) = 16777216 * ((vx p j).x : Rat) + ((vx p j).y : Rat) := by unfold shU; rw [Rat.intCast_add, Rat.intCast_mul]; rfl
  have e2 : (shU p (j + 1) : Rat) = 16777216 * ((vx p (j + 1)).x : Rat) + ((vx p (j + 1)).y : Rat) := by unfold shU; rw [Rat.intCast_add, Rat.intCast_mul]; rfl
  have e3 : (shV p j : Rat) = ((vx p j).y : Rat) := rfl
  have e4 : (shV p (j + 1) : Rat) = ((vx p (j + 1)).y : Rat) := rfl
  rw [e1, e2, e3, e4]
  unfold onP qe9 q4d q1t qp
  simp only [QP.mk.injEq]
  refine ⟨?_, trivial⟩
  generalize ((vx p j).x : Rat) = a
  generalize ((vx p j).y : Rat) = b
  generalize ((vx p (j + 1)).x : Rat) = c
  generalize ((vx p (j + 1)).y : Rat) = d
  have k : (16777216 : Rat) ≠ 0 := by decide
  apply qeF k
  rw [Rat.div_mul_cancel k]
  grind
theorem qmH {a b c : Spot} (hon1 : onS a b c = false) (hon2 : onS b c a = false) {s t : Rat} (hs0 : 0 ≤ s) (hs1 : s ≤ 1) (ht0 : 0 ≤ t) (ht1 : t ≤ 1) (he : onP (qp a) (qp b) s = onP (qp b) (qp c) t) : s = 1 ∧ t = 0 := by
 have hx : (a.x : Rat) + ((b.x : Rat) - a.x) * s = b.x + ((c.x : Rat) - b.x) * t := congrArg QP.x he
 have hy : (a.y : Rat) + ((b.y : Rat) - a.y) * s = b.y + ((c.y : Rat) - b.y) * t := congrArg QP.y he
 rcases qar t (1 - s) with h | h
 ·by_cases h0 : 1 - s = 0
  ·constructor <;> grind
  ·exfalso
   have hr := Rat.div_mul_cancel (a := t) h0
   have hp : 0 < 1 - s := by grind
   have r0 : 0 ≤ t / (1 - s) := qiI (by grind) h0 hr ht0
   have r1 : t / (1 - s) ≤ 1 := by
    generalize t / (1 - s) = r at *
    rcases qar r 1 with g | g
    ·exact g
    ·have k := Rat.mul_nonneg (show 0 ≤ r - 1 by grind) (show 0 ≤ 1 - s by grind)
     have : (r - 1) * (1 - s) = 0 := by grind
     rcases Rat.mul_eq_zero.1 this with e | e
     ·grind
     ·exact absurd e h0
   have : onS b c a = true := by
    refine qgM r0 r1 ?_
    generalize t / (1 - s) = r at *
    unfold onP qe9 q4d q1t qp
    simp only [QP.mk.injEq]
    constructor
    ·apply qeF h0; grind
    ·apply qeF h0; grind
   rw [hon2] at this; cases this
 ·by_cases h0 : t = 0
  ·constructor <;> grind
  ·exfalso
   have hr := Rat.div_mul_cancel (a := 1 - s) h0
   have r0 : 0 ≤ (1 - s) / t := qiI ht0 h0 hr (by grind)
   have r1 : (1 - s) / t ≤ 1 := by
    generalize (1 - s) / t = r at *
    rcases qar r 1 with g | g
    ·exact g
    ·have k := Rat.mul_nonneg (show 0 ≤ r - 1 by grind) ht0
     have : (r - 1) * t = 0 := by grind
     rcases Rat.mul_eq_zero.1 this with e | e
     ·grind
     ·exact absurd e h0
   have : onS a b c = true := by
    refine qgM (s := 1 - (1 - s) / t) (by grind) (by grind) ?_
    generalize (1 - s) / t = r at *
    unfold onP qe9 q4d q1t qp
    simp only [QP.mk.injEq]
    constructor
    ·apply qeF h0; grind
    ·apply qeF h0; grind
   rw [hon1] at this; cases this
theorem qvA {p : List Spot} [OkP p] (hs : q2n p) (h3 : 3 ≤ p.length) {i j : Nat} (hj : j < p.length) (hij : i < j) {u : Rat} (ci : inR p i u) (cj : inR p j u) (he : yR p i u = yR p j u) :
 ∃ m m', (m = i ∨ m = i + 1) ∧ (m' = j ∨ m' = j + 1) ∧ (shU p m : Rat) = u ∧ (m = m' ∨ (m = 0 ∧ m' = p.length) ∨ (m = p.length ∧ m' = 0)) := by
 have hi : i < p.length := by omega
 obtain ⟨s, s0, s1, su, sp⟩ := qpH (qnR hs hi) ci
 obtain ⟨t, t0, t1, tu, tp⟩ := qpH (qnR hs hj) cj
 have hc : onP (qp (vx p i)) (qp (vx p (i + 1))) s = onP (qp (vx p j)) (qp (vx p (j + 1))) t := by rw [sp, tp, he]
 by_cases ha : j = i + 1
 ·subst ha
  have h2 := (hs i hi).1.2
  have e : pt p ((i + 2) % p.length) = vx p (i + 1 + 1) := rfl
  have e' : pt p ((i + 1) % p.length) = vx p (i + 1) := rfl
  rw [← qiJ hi, e, e'] at h2
  obtain ⟨r1, r2⟩ := qmH h2.1 h2.2 s0 s1 t0 t1 hc
  exact ⟨i + 1, i + 1, .inr rfl, .inl rfl, by rw [su, r1]; grind, .inl rfl⟩
 ·by_cases hb : (j + 1) % p.length = i
  ·have hj1 : j + 1 = p.length := by
    rcases Nat.lt_or_ge (j + 1) p.length with g | g
    ·rw [Nat.mod_eq_of_lt g] at hb; omega
    ·omega
   rw [hj1, Nat.mod_self] at hb
   subst hb
   have h2 := (hs j hj).1.2
   have e0 : vx p (j + 1) = vx p 0 := by unfold vx; rw [hj1, Nat.mod_self, Nat.zero_mod]
   have e : pt p ((j + 2) % p.length) = vx p (0 + 1) := by
    unfold vx
    rw [show j + 2 = p.length + 1 by omega, Nat.add_mod_left]
   have e' : pt p ((j + 1) % p.length) = vx p (j + 1) := rfl
   rw [← qiJ hj, e, e', e0] at h2
   rw [e0] at hc
   obtain ⟨r1, r2⟩ := qmH h2.1 h2.2 t0 t1 s0 s1 hc.symm
   refine ⟨0, j + 1, .inl rfl, .inr rfl, ?_, .inr (.inl ⟨rfl, hj1⟩)⟩
   rw [su, r2]; grind
  ·exfalso
   have h2 := (hs i hi).2 j hj (by omega) hb
   have n1 := (hs i hi).1.1
   have n2 := (hs j hj).1.1
   have e1 : pt p ((i + 1) % p.length) = vx p (i + 1) := rfl
   have e2 : pt p ((j + 1) % p.length) = vx p (j + 1) := rfl
   rw [← qiJ hi, e1] at n1
   rw [← qiJ hj, e2] at n2
   rw [← qiJ hi, ← qiJ hj, e1, e2, qpA n1 n2 s0 s1 t0 t1 hc] at h2
   cases h2
theorem touch {p : List Spot} [OkP p] (hs : q2n p) (h3 : 3 ≤ p.length) {i j : Nat} (hi : i < p.length) (hj : j < p.length) (hij : i ≠ j) {u : Rat} (ci : inR p i u) (cj : inR p j u) (he : yR p i u = yR p j u) :
 ∃ m m', (m = i ∨ m = i + 1) ∧ (m' = j ∨ m' = j + 1) ∧ (shU p m : Rat) = u ∧ (m = m' ∨ (m = 0 ∧ m' = p.length) ∨ (m = p.length ∧ m' = 0)) := by
 rcases Nat.lt_or_gt_of_ne hij with h | h
 ·exact qvA hs h3 hj h ci cj he
 ·obtain ⟨m, m', h1, h2, h4, h5⟩ := qvA hs h3 hi h cj ci he.symm
  refine ⟨m', m, h2, h1, ?_, ?_⟩
  ·rcases h5 with rfl | ⟨rfl, rfl⟩ | ⟨rfl, rfl⟩
   ·exact h4
   ·rw [← h4]; unfold shU vx; rw [Nat.mod_self, Nat.zero_mod]
   ·rw [← h4]; unfold shU vx; rw [Nat.mod_self, Nat.zero_mod]
  ·rcases h5 with rfl | ⟨rfl, rfl⟩ | ⟨rfl, rfl⟩
   ·exact .inl rfl
   ·exact .inr (.inr ⟨rfl, rfl⟩)
   ·exact .inr (.inl ⟨rfl, rfl⟩)
end Go.F

namespace Go.F
attribute [local irreducible] IntKind.wrap wpM
theorem qcG (l : List Spot) : (q0H l).length ≤ l.length := by
 induction l with
 | nil => simp [q0H]
 | cons a l ih =>
   cases l with
   | nil => simp [q0H]
   | cons b l =>
     rw [q0H]
     split
     ·simp only [List.length_cons] at ih ⊢; omega
     ·simp only [List.length_cons] at ih ⊢; omega
section
variable {T : Tab} {sh : Shr} {nx0 : Nat} {s : List Fr} {t : q0z} {h : q0e} {z : Frz} {nx : Nat} {q : Ex → q0z → q0e → Frz → Nat → Prop}
variable {base i : Nat} {res : List Nat} {g : Gd} {rest : List KOper}
end
end Go.F

namespace Go.F
attribute [local irreducible] IntKind.wrap wpM
end Go.F

namespace Go.F
attribute [local irreducible] IntKind.wrap wpM
theorem qw9 {a b : ByteArray} (h : a.toList = b.toList) : a = b := by
 rw [Go.ByteArray.toList_eq, Go.ByteArray.toList_eq] at h
 exact ByteArray.ext (Array.ext' h)
theorem ba_eq (a b : ByteArray) : (a == b) = (a.toList == b.toList) := by
 have e : (a == b) = (a.data == b.data) := rfl
 rw [e, Bool.eq_iff_iff, beq_iff_eq, beq_iff_eq]
 exact ⟨fun h => by rw [Go.ByteArray.toList_eq, Go.ByteArray.toList_eq, h], fun h => by rw [qw9 h]⟩
def q4q (p : List Nmd) (s : ByteArray) : Option RP := (p.find? fun n => n.name.toList == s.toList).map (·.at_)
theorem qlo (m : List (ByteArray × RP)) (k s : ByteArray) (v : RP) : q3z (m ++ [(k, v)]) s = (q3z m s).or (if k.toList == s.toList then some v else none) := by
 unfold q3z
 rw [List.find?_append]
 cases m.find? fun p => s == p.1 with
 | some x => rfl
 | none =>
   simp only [Option.none_or, Option.map_none, List.find?_cons, List.find?_nil]
   rw [ba_eq, Bool.beq_comm]
   cases k.toList == s.toList <;> rfl
theorem qiU (s : ByteArray) : ∀ (p : List Nmd) (m : List (ByteArray × RP)), q3z (p.foldl qiT m) s = (q3z m s).or (q4q p s)
 | [], m => by simp [q4q]
 | n :: p, m => by
   rw [List.foldl_cons, qiU s p]
   unfold qiT
   by_cases hs : n.name.toList == s.toList
   ·have e : n.name = s := qw9 (by simpa using hs)
    have hf : q4q (n :: p) s = some n.at_ := by simp [q4q, hs]
    rw [hf]
    split
    ·rename_i h
     rw [e] at h
     obtain ⟨v, hv⟩ := Option.isSome_iff_exists.1 h
     rw [hv]; rfl
    ·rename_i h
     rw [e] at h
     have hv : q3z m s = none := by simpa using h
     rw [qlo, hv, hs]; rfl
   ·have hf : q4q (n :: p) s = q4q p s := by simp [q4q, hs]
    rw [hf]
    split
    ·rfl
    ·rw [qlo, if_neg hs, Option.or_none]
theorem qhb (p : List Nmd) (s : ByteArray) : q3z (places p) s = q4q p s := by
 rw [places, qiU]; simp [q3z]
theorem qcd : ∀ a : List Spot, (q0H a).getLast? = a.getLast?
 | [] => rfl
 | [_] => rfl
 | a :: b :: l => by
   have ih := qcd (b :: l)
   rw [q0H]
   split
   ·rw [ih, List.getLast?_cons_cons]
   ·rw [List.getLast?_cons_cons, ← ih]
    have hne : q0H (b :: l) ≠ [] := by
     intro e; rw [e, List.getLast?_cons] at ih
     cases ih
    cases h : q0H (b :: l) with
    | nil => exact absurd h hne
    | cons x r => rw [List.getLast?_cons_cons]
end Go.F

namespace Go.F
attribute [local irreducible] IntKind.wrap wpM
end Go.F
