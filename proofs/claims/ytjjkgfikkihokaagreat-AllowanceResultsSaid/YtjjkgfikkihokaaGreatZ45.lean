/- Parts of the proof, part 45: Nz1, Nz2, Nz3, Nz4, Nz5, Nz6, Nz7, Nz8, Nz9, SegP, RefA, RefB, RN5, RN6. -/
import Derived.Test.YtjjkgfikkihokaaGreatZ44
import Derived.Test.YtjjkgfikkihokaaGreatZ43
set_option linter.all false
namespace Go.F
def q78 (a b c : QP) : Rat := (b.x - a.x) * (c.y - a.y) - (b.y - a.y) * (c.x - a.x)
theorem q8e (a b c : Spot) : q78 (qp a) (qp b) (qp c) = ((q0U a b c : Int) : Rat) := by
 unfold q78 q0U qp
 simp only [Rat.intCast_sub, Rat.intCast_mul]
theorem qlW (a b c d : QP) (t : Rat) : q78 a b (onP c d t) = (1 - t) * q78 a b c + t * q78 a b d := by
 unfold q78 onP qbn q3q q12
 simp only
 grind
theorem qcT (a b : QP) (s : Rat) : q78 a b (onP a b s) = 0 := by
 unfold q78 onP qbn q3q q12
 simp only
 grind
theorem qon {a b s : Rat} (h0 : 0 ≤ s) (h1 : s ≤ 1) : min a b ≤ a + (b - a) * s ∧ a + (b - a) * s ≤ max a b := by
 rw [Rat.min_def, Rat.max_def]
 by_cases h : a ≤ b
 ·rw [if_pos h, if_pos h]
  have p1 := Rat.mul_nonneg (show 0 ≤ b - a by grind) h0
  have p2 := Rat.mul_nonneg (show 0 ≤ b - a by grind) (show 0 ≤ 1 - s by grind)
  constructor <;> grind
 ·rw [if_neg h, if_neg h]
  have p1 := Rat.mul_nonneg (show 0 ≤ a - b by grind) h0
  have p2 := Rat.mul_nonneg (show 0 ≤ a - b by grind) (show 0 ≤ 1 - s by grind)
  constructor <;> grind
theorem qcU {a b q : Int} {s : Rat} (h0 : 0 ≤ s) (h1 : s ≤ 1) (he : (q : Rat) = a + ((b : Rat) - a) * s) : min a b ≤ q ∧ q ≤ max a b := by
 have h := qon (a := (a : Rat)) (b := (b : Rat)) h0 h1
 rw [← he, Rat.min_def, Rat.max_def] at h
 by_cases hab : a ≤ b
 ·have : (a : Rat) ≤ (b : Rat) := Rat.intCast_le_intCast.2 hab
  rw [if_pos this, if_pos this, Rat.intCast_le_intCast, Rat.intCast_le_intCast] at h
  omega
 ·have : ¬ (a : Rat) ≤ (b : Rat) := fun hh => hab (Rat.intCast_le_intCast.1 hh)
  rw [if_neg this, if_neg this, Rat.intCast_le_intCast, Rat.intCast_le_intCast] at h
  omega
theorem qbA {a b q : Spot} {s : Rat} (h0 : 0 ≤ s) (h1 : s ≤ 1) (he : qp q = onP (qp a) (qp b) s) : onS a b q = true := by
 have hc : q0U a b q = 0 := by
  have : ((q0U a b q : Int) : Rat) = 0 := by rw [← q8e, he, qcT]
  exact Rat.intCast_eq_zero_iff.1 this
 have hx : (q.x : Rat) = a.x + ((b.x : Rat) - a.x) * s := congrArg QP.x he
 have hy : (q.y : Rat) = a.y + ((b.y : Rat) - a.y) * s := congrArg QP.y he
 have bx := qcU h0 h1 hx
 have by' := qcU h0 h1 hy
 unfold onS
 simp [hc, bx, by']
theorem qeJ {a b c : Spot} (hab : a ≠ b) (hc : q0U a b c = 0) : ∃ s : Rat, qp c = onP (qp a) (qp b) s := by
 have hq : q78 (qp a) (qp b) (qp c) = 0 := by rw [q8e, hc]; rfl
 unfold q78 at hq
 by_cases hx : b.x = a.x
 ·have hy : b.y ≠ a.y := fun h => hab (by cases a; cases b; simp at hx h ⊢; omega)
  have hy' : (qp b).y - (qp a).y ≠ 0 := by
   show (b.y : Rat) - (a.y : Rat) ≠ 0
   rw [← Rat.intCast_sub]; intro h; rw [Rat.intCast_eq_zero_iff] at h; omega
  have hx' : (qp b).x = (qp a).x := by show (b.x : Rat) = (a.x : Rat); rw [hx]
  refine ⟨((qp c).y - (qp a).y) / ((qp b).y - (qp a).y), ?_⟩
  have ht := Rat.div_mul_cancel (a := (qp c).y - (qp a).y) hy'
  generalize ((qp c).y - (qp a).y) / ((qp b).y - (qp a).y) = t at ht
  have h1 : ((qp b).y - (qp a).y) * ((qp c).x - (qp a).x) = 0 := by grind
  have h2 : (qp c).x = (qp a).x := by
   rcases Rat.mul_eq_zero.1 h1 with h | h
   ·exact absurd h hy'
   ·grind
  unfold onP qbn q3q q12
  cases hcc : qp c with
  | mk cx cy =>
    rw [hcc] at h2 ht
    simp only [QP.mk.injEq] at h2 ht ⊢
    constructor <;> grind
 ·have hx' : (qp b).x - (qp a).x ≠ 0 := by
   show (b.x : Rat) - (a.x : Rat) ≠ 0
   rw [← Rat.intCast_sub]; intro h; rw [Rat.intCast_eq_zero_iff] at h; omega
  refine ⟨((qp c).x - (qp a).x) / ((qp b).x - (qp a).x), ?_⟩
  have ht := Rat.div_mul_cancel (a := (qp c).x - (qp a).x) hx'
  generalize ((qp c).x - (qp a).x) / ((qp b).x - (qp a).x) = t at ht
  have h1 : ((qp b).x - (qp a).x) * ((qp c).y - (qp a).y - ((qp b).y - (qp a).y) * t) = 0 := by grind
  have h2 : (qp c).y - (qp a).y - ((qp b).y - (qp a).y) * t = 0 := by
   rcases Rat.mul_eq_zero.1 h1 with h | h
   ·exact absurd h hx'
   ·exact h
  unfold onP qbn q3q q12
  cases hcc : qp c with
  | mk cx cy =>
    rw [hcc] at h2 ht
    simp only [QP.mk.injEq] at h2 ht ⊢
    constructor <;> grind
end Go.F

namespace Go.F
theorem qh7 {a b : Spot} (hab : a ≠ b) {s t : Rat} (h : onP (qp a) (qp b) s = onP (qp a) (qp b) t) : s = t := by
 have hx : (qp a).x + ((qp b).x - (qp a).x) * s = (qp a).x + ((qp b).x - (qp a).x) * t := congrArg QP.x h
 have hy : (qp a).y + ((qp b).y - (qp a).y) * s = (qp a).y + ((qp b).y - (qp a).y) * t := congrArg QP.y h
 by_cases h1 : b.x = a.x
 ·have h2 : b.y ≠ a.y := fun h => hab (by cases a; cases b; simp at h1 h ⊢; omega)
  have hy' : (qp b).y - (qp a).y ≠ 0 := by
   show (b.y : Rat) - (a.y : Rat) ≠ 0
   rw [← Rat.intCast_sub]; intro h; rw [Rat.intCast_eq_zero_iff] at h; omega
  have : ((qp b).y - (qp a).y) * (s - t) = 0 := by grind
  rcases Rat.mul_eq_zero.1 this with h | h
  ·exact absurd h hy'
  ·grind
 ·have hx' : (qp b).x - (qp a).x ≠ 0 := by
   show (b.x : Rat) - (a.x : Rat) ≠ 0
   rw [← Rat.intCast_sub]; intro h; rw [Rat.intCast_eq_zero_iff] at h; omega
  have : ((qp b).x - (qp a).x) * (s - t) = 0 := by grind
  rcases Rat.mul_eq_zero.1 this with h | h
  ·exact absurd h hx'
  ·grind
theorem on_on (a b : QP) (s1 s2 t : Rat) : onP (onP a b s1) (onP a b s2) t = onP a b (s1 + (s2 - s1) * t) := by
 unfold onP qbn q3q q12; simp only [QP.mk.injEq]; constructor <;> grind
theorem qh8 (a b : QP) : onP a b 0 = a := by
 cases a; unfold onP qbn q3q q12; simp only [QP.mk.injEq]; constructor <;> grind
theorem qnx (a b : QP) : onP a b 1 = b := by
 cases b; unfold onP qbn q3q q12; simp only [QP.mk.injEq]; constructor <;> grind
theorem q9M {a b c d : Spot} (hab : a ≠ b) (h1 : q0U a b c = 0) (h2 : q0U a b d = 0) {s t : Rat} (hs0 : 0 ≤ s) (hs1 : s ≤ 1) (ht0 : 0 ≤ t) (ht1 : t ≤ 1) (he : onP (qp a) (qp b) s = onP (qp c) (qp d) t) :
 onS a b c = true ∨ onS a b d = true ∨ onS c d a = true := by
 obtain ⟨s1, e1⟩ := qeJ hab h1
 obtain ⟨s2, e2⟩ := qeJ hab h2
 rw [e1, e2, on_on] at he
 have hs := qh7 hab he
 by_cases c1 : 0 ≤ s1 ∧ s1 ≤ 1
 ·exact .inl (qbA c1.1 c1.2 e1)
 by_cases c2 : 0 ≤ s2 ∧ s2 ≤ 1
 ·exact .inr (.inl (qbA c2.1 c2.2 e2))
 have hne : s2 - s1 ≠ 0 := by
  intro h
  have : s = s1 := by rw [hs, h]; grind
  exact c1 ⟨by grind, by grind⟩
 have p1 : s - s1 = (s2 - s1) * t := by grind
 have p2 : s2 - s = (s2 - s1) * (1 - t) := by grind
 have hcase : (s1 < 0 ∧ 1 < s2) ∨ (s2 < 0 ∧ 1 < s1) := by
  rcases Rat.le_total (a := s1) (b := s2) with h | h
  ·have q1 := Rat.mul_nonneg (show 0 ≤ s2 - s1 by grind) ht0
   have q2 := Rat.mul_nonneg (show 0 ≤ s2 - s1 by grind) (show 0 ≤ 1 - t by grind)
   left; grind
  ·have q1 := Rat.mul_nonneg (show 0 ≤ s1 - s2 by grind) ht0
   have q2 := Rat.mul_nonneg (show 0 ≤ s1 - s2 by grind) (show 0 ≤ 1 - t by grind)
   right; grind
 right; right
 have hr := Rat.div_mul_cancel (a := 0 - s1) hne
 have hd : onP (qp c) (qp d) ((0 - s1) / (s2 - s1)) = qp a := by
  rw [e1, e2, on_on]
  have : s1 + (s2 - s1) * ((0 - s1) / (s2 - s1)) = 0 := by grind
  rw [this, qh8]
 generalize (0 - s1) / (s2 - s1) = r at hr hd
 refine qbA (s := r) ?_ ?_ hd.symm
 ·rcases hcase with ⟨g1, g2⟩ | ⟨g1, g2⟩
  ·by_cases hh : 0 ≤ r
   ·exact hh
   ·have := Rat.mul_pos (show 0 < -r by grind) (show 0 < s2 - s1 by grind)
    grind
  ·by_cases hh : 0 ≤ r
   ·exact hh
   ·have := Rat.mul_pos (show 0 < -r by grind) (show 0 < s1 - s2 by grind)
    grind
 ·rcases hcase with ⟨g1, g2⟩ | ⟨g1, g2⟩
  ·by_cases hh : r ≤ 1
   ·exact hh
   ·have := Rat.mul_pos (show 0 < r - 1 by grind) (show 0 < s2 - s1 by grind)
    grind
  ·by_cases hh : r ≤ 1
   ·exact hh
   ·have := Rat.mul_pos (show 0 < r - 1 by grind) (show 0 < s1 - s2 by grind)
    grind
theorem qin {x y : Int} (h : (0 < x ∧ y < 0) ∨ (x < 0 ∧ 0 < y)) : sgn x * sgn y < 0 := by
 unfold sgn
 rcases h with ⟨h1, h2⟩ | ⟨h1, h2⟩
 ·rw [if_neg (by omega), if_pos h1, if_pos h2]; decide
 ·rw [if_pos h1, if_neg (by omega), if_pos h2]; decide
theorem qeK {a b c d : Spot} {s t : Rat} (ht0 : 0 ≤ t) (ht1 : t ≤ 1) (he : onP (qp a) (qp b) s = onP (qp c) (qp d) t) :
 (sgn (q0U a b c) * sgn (q0U a b d) < 0) ∨ (q0U a b c = 0 ∧ q0U a b d = 0) ∨ (q0U a b c = 0 ∧ t = 0) ∨ (q0U a b d = 0 ∧ t = 1) := by
 have h0 : (1 - t) * ((q0U a b c : Int) : Rat) + t * ((q0U a b d : Int) : Rat) = 0 := by
  rw [← q8e, ← q8e, ← qlW, ← he, qcT]
 generalize q0U a b c = x at *
 generalize q0U a b d = y at *
 by_cases hx : x = 0
 ·subst hx
  have : t * ((y : Int) : Rat) = 0 := by grind
  rcases Rat.mul_eq_zero.1 this with h | h
  ·exact .inr (.inr (.inl ⟨rfl, h⟩))
  ·exact .inr (.inl ⟨rfl, Rat.intCast_eq_zero_iff.1 h⟩)
 by_cases hy : y = 0
 ·subst hy
  have : (1 - t) * ((x : Int) : Rat) = 0 := by grind
  rcases Rat.mul_eq_zero.1 this with h | h
  ·exact .inr (.inr (.inr ⟨rfl, by grind⟩))
  ·exact absurd (Rat.intCast_eq_zero_iff.1 h) hx
 left
 apply qin
 rcases Int.lt_or_gt_of_ne hx with h1 | h1 <;> rcases Int.lt_or_gt_of_ne hy with h2 | h2
 ·exfalso
  have g1 : (x : Rat) < 0 := Rat.intCast_neg_iff.2 h1
  have g2 : (y : Rat) < 0 := Rat.intCast_neg_iff.2 h2
  rcases Rat.le_iff_lt_or_eq.1 ht0 with h | h
  ·have q1 := Rat.mul_pos h (show 0 < -(y : Rat) by grind)
   have q2 := Rat.mul_nonneg (show 0 ≤ 1 - t by grind) (show 0 ≤ -(x : Rat) by grind)
   grind
  ·rw [← h] at h0; grind
 ·right; exact ⟨h1, h2⟩
 ·left; exact ⟨h1, h2⟩
 ·exfalso
  have g1 : 0 < (x : Rat) := Rat.intCast_pos.2 h1
  have g2 : 0 < (y : Rat) := Rat.intCast_pos.2 h2
  rcases Rat.le_iff_lt_or_eq.1 ht0 with h | h
  ·have q1 := Rat.mul_pos h g2
   have q2 := Rat.mul_nonneg (show 0 ≤ 1 - t by grind) (show 0 ≤ (x : Rat) by grind)
   grind
  ·rw [← h] at h0; grind
theorem qio {a b c d : Spot} (hab : a ≠ b) (hcd : c ≠ d) {s t : Rat} (hs0 : 0 ≤ s) (hs1 : s ≤ 1) (ht0 : 0 ≤ t) (ht1 : t ≤ 1) (he : onP (qp a) (qp b) s = onP (qp c) (qp d) t) : q48 a b c d = true := by
 have key : onS a b c = true ∨ onS a b d = true ∨ onS c d a = true ∨ onS c d b = true ∨ (q3K a b c d = true ∧ q3K c d a b = true) := by
  rcases qeK ht0 ht1 he with h | ⟨h, h'⟩ | ⟨h, h'⟩ | ⟨h, h'⟩
  ·rcases qeK hs0 hs1 he.symm with g | ⟨g, g'⟩ | ⟨g, g'⟩ | ⟨g, g'⟩
   ·right; right; right; right
    unfold q3K; simp [h, g]
   ·rcases q9M hcd g g' ht0 ht1 hs0 hs1 he.symm with k | k | k
    ·exact .inr (.inr (.inl k))
    ·exact .inr (.inr (.inr (.inl k)))
    ·exact .inl k
   ·subst g'; rw [qh8] at he; exact .inr (.inr (.inl (qbA ht0 ht1 he)))
   ·subst g'; rw [qnx] at he; exact .inr (.inr (.inr (.inl (qbA ht0 ht1 he))))
  ·rcases q9M hab h h' hs0 hs1 ht0 ht1 he with k | k | k
   ·exact .inl k
   ·exact .inr (.inl k)
   ·exact .inr (.inr (.inl k))
  ·subst h'; rw [qh8] at he; exact .inl (qbA hs0 hs1 he.symm)
  ·subst h'; rw [qnx] at he; exact .inr (.inl (qbA hs0 hs1 he.symm))
 unfold q48
 rcases key with h | h | h | h | ⟨h, h'⟩
 ·simp [h]
 ·simp [h]
 ·simp [h]
 ·simp [h]
 ·simp [h, h']
end Go.F

namespace Go.F
def sm {α : Type} [Add α] [OfNat α 0] (f : Nat → α) : Nat → α
 | 0 => 0
 | k + 1 => sm f k + f k
theorem q7z {α : Type} [Add α] [OfNat α 0] {f g : Nat → α} {n : Nat} (h : ∀ j, j < n → f j = g j) : sm f n = sm g n := by
 induction n with
 | zero => rfl
 | succ k ih => rw [sm, sm, ih (fun j hj => h j (by omega)), h k (by omega)]
theorem qkD {f f' g : Nat → Int} {n : Nat} (h : ∀ j, j < n → f j - f' j = g (j + 1) - g j) : sm f n - sm f' n = g n - g 0 := by
 induction n with
 | zero => simp [sm]
 | succ k ih =>
   have h1 := ih (fun j hj => h j (by omega))
   have h2 := h k (by omega)
   simp only [sm]
   omega
theorem qny {f f' : Nat → Int} {n o : Nat} (ho : o < n) (h : ∀ j, j < n → j ≠ o → f j = f' j) : sm f n = sm f' n + (f o - f' o) := by
 induction n with
 | zero => omega
 | succ k ih =>
   simp only [sm]
   by_cases hk : o = k
   ·subst hk
    rw [q7z (fun j hj => h j (by omega) (by omega))]
    omega
   ·rw [ih (by omega) (fun j hj => h j (by omega)), h k (by omega) (by omega)]
    omega
def crU (U : Nat → Int) (j : Nat) (z : Int) : Prop := (U j ≤ z ∧ z < U (j + 1)) ∨ (U (j + 1) ≤ z ∧ z < U j)
instance (U : Nat → Int) (j : Nat) (z : Int) : Decidable (crU U j z) := by unfold crU; exact inferInstance
def sgU (U : Nat → Int) (j : Nat) : Int := if U j < U (j + 1) then 1 else -1
def yU (U V : Nat → Int) (t : Nat → Rat) (j : Nat) (z : Int) : Rat := (V j : Rat) + t j * ((z : Rat) - (U j : Rat))
structure ClU (n : Nat) (U V : Nat → Int) (t : Nat → Rat) : Prop where
 cU : U n = U 0
 cV : V n = V 0
 ne : ∀ j, j < n → U j ≠ U (j + 1)
 yt : ∀ j, j < n → yU U V t j (U (j + 1)) = V (j + 1)
theorem qkE (U V : Nat → Int) (t : Nat → Rat) (j : Nat) : yU U V t j (U j) = V j := by
 unfold yU; grind
def upR (U V : Nat → Int) (t : Nat → Rat) (z : Int) (y : Rat) (j : Nat) : Int := if crU U j z ∧ y < yU U V t j z then sgU U j else 0
def upL (U V : Nat → Int) (t : Nat → Rat) (z : Int) (y : Rat) (j : Nat) : Int := if crU U j (z - 1) ∧ y < yU U V t j z then sgU U j else 0
theorem up_LR {n : Nat} {U V : Nat → Int} {t : Nat → Rat} (h : ClU n U V t) (z : Int) (y : Rat) : sm (upL U V t z y) n = sm (upR U V t z y) n := by
 have := qkD (f := upL U V t z y) (f' := upR U V t z y) (g := fun m => if U m = z ∧ y < (V m : Rat) then 1 else 0) (n := n) ?_
 ·simp only [h.cU, h.cV] at this
  omega
 ·intro j hj
  have hne := h.ne j hj
  have h1 := h.yt j hj
  have h0 := qkE U V t j
  simp only [upL, upR, crU, sgU]
  by_cases ha : U j = z
  ·have hb : ¬ U (j + 1) = z := by omega
   rw [ha] at h0
   rw [h0, if_neg (c := U (j + 1) = z ∧ _) (by omega)]
   by_cases hy : y < (V j : Rat)
   ·simp only [hy, ha, and_true]
    repeat' split
    all_goals first | omega | (simp_all; done) | (simp_all; omega)
   ·simp [hy]
  ·by_cases hb : U (j + 1) = z
   ·rw [hb] at h1
    rw [h1, if_neg (c := U j = z ∧ _) (by omega)]
    by_cases hy : y < (V (j + 1) : Rat)
    ·simp only [hy, hb, and_true]
     repeat' split
     all_goals first | omega | (simp_all; done) | (simp_all; omega)
    ·simp [hy]
   ·rw [if_neg (c := U j = z ∧ _) (by omega), if_neg (c := U (j + 1) = z ∧ _) (by omega)]
    by_cases hy : y < yU U V t j z
    ·simp only [hy, and_true]
     repeat' split
     all_goals first | omega | (simp_all; done) | (simp_all; omega)
    ·simp [hy]
end Go.F

namespace Go.F
def inU (U : Nat → Int) (j : Nat) (z : Int) : Prop := (U j ≤ z ∧ z ≤ U (j + 1)) ∨ (U (j + 1) ≤ z ∧ z ≤ U j)
structure SmU (n : Nat) (U V : Nat → Int) (t : Nat → Rat) : Prop extends ClU n U V t where
 n3 : 3 ≤ n
 same : ∀ i j z, i < n → j < n → i ≠ j → crU U i z → crU U j z →
  (yU U V t i z ≤ yU U V t j z ∧ yU U V t i (z + 1) ≤ yU U V t j (z + 1) ∧ yU U V t i z + yU U V t i (z + 1) < yU U V t j z + yU U V t j (z + 1)) ∨
  (yU U V t j z ≤ yU U V t i z ∧ yU U V t j (z + 1) ≤ yU U V t i (z + 1) ∧ yU U V t j z + yU U V t j (z + 1) < yU U V t i z + yU U V t i (z + 1))
 tch : ∀ i j z, i < n → j < n → i ≠ j → inU U i z → inU U j z → yU U V t i z = yU U V t j z →
  ∃ m m', (m = i ∨ m = i + 1) ∧ (m' = j ∨ m' = j + 1) ∧ U m = z ∧ (m = m' ∨ (m = 0 ∧ m' = n) ∨ (m = n ∧ m' = 0))
def hU (U V : Nat → Int) (t : Nat → Rat) (j : Nat) (z : Int) : Rat := yU U V t j z + yU U V t j (z + 1)
def upM (U V : Nat → Int) (t : Nat → Rat) (z : Int) (i j : Nat) : Int := if crU U j z ∧ hU U V t i z < hU U V t j z then sgU U j else 0
def wU (n : Nat) (U V : Nat → Int) (t : Nat → Rat) (i : Nat) (z : Int) : Int := (if sgU U i = -1 then 1 else 0) - sm (upM U V t z i) n
theorem sideR {n : Nat} {U V : Nat → Int} {t : Nat → Rat} (h : SmU n U V t) {i j : Nat} {z : Int} (hi : i < n) (hj : j < n) (hij : i ≠ j) (ci : crU U i z) (cj : crU U j z) (hne : yU U V t i z ≠ yU U V t j z) :
 hU U V t i z < hU U V t j z ↔ yU U V t i z < yU U V t j z := by
 have := h.same i j z hi hj hij ci cj
 unfold hU
 constructor <;> intro _ <;> grind
theorem sideL {n : Nat} {U V : Nat → Int} {t : Nat → Rat} (h : SmU n U V t) {i j : Nat} {z : Int} (hi : i < n) (hj : j < n) (hij : i ≠ j) (ci : crU U i (z - 1)) (cj : crU U j (z - 1)) (hne : yU U V t i z ≠ yU U V t j z) :
 hU U V t i (z - 1) < hU U V t j (z - 1) ↔ yU U V t i z < yU U V t j z := by
 have := h.same i j (z - 1) hi hj hij ci cj
 unfold hU
 rw [show z - 1 + 1 = z by omega] at *
 constructor <;> intro _ <;> grind
theorem qkF {n : Nat} {U V : Nat → Int} {t : Nat → Rat} (h : SmU n U V t) {i j : Nat} {z : Int} (hi : i < n) (hj : j < n) (hij : i ≠ j) (ci : crU U i z) (cj : crU U j z) :
 hU U V t i z < hU U V t j z ∨ hU U V t j z < hU U V t i z := by
 have := h.same i j z hi hj hij ci cj
 unfold hU
 grind
theorem qh9 {U : Nat → Int} {j : Nat} {z : Int} (h : crU U j z) : inU U j z := by
 unfold crU at h; unfold inU; omega
theorem qjZ {U : Nat → Int} {j : Nat} {z : Int} (h : crU U j (z - 1)) : inU U j z := by
 unfold crU at h; unfold inU; omega
theorem qlX {n : Nat} {U V : Nat → Int} {t : Nat → Rat} (h : SmU n U V t) {i : Nat} {z : Int} (hi : i < n) (c0 : crU U i (z - 1)) (c1 : crU U i z) : wU n U V t i (z - 1) = wU n U V t i z := by
 have hlt : ∀ x : Rat, ¬ x < x := fun x => by grind
 have key : ∀ j, j < n → j ≠ i → inU U j z → yU U V t i z ≠ yU U V t j z := by
  intro j hj hne cj he
  obtain ⟨m, m', hm, _, hz, _⟩ := h.tch i j z hi hj (Ne.symm hne) (qh9 c1) cj he
  unfold crU at c0 c1
  rcases hm with rfl | rfl <;> omega
 have e1 : sm (upM U V t (z - 1) i) n = sm (upL U V t z (yU U V t i z)) n := by
  apply q7z
  intro j hj
  unfold upM upL
  by_cases hji : j = i
  ·subst hji; simp [hlt]
  ·by_cases cj : crU U j (z - 1)
   ·have := sideL h hi hj (Ne.symm hji) c0 cj (key j hj hji (qjZ cj))
    simp only [cj, this]
   ·simp [cj]
 have e2 : sm (upM U V t z i) n = sm (upR U V t z (yU U V t i z)) n := by
  apply q7z
  intro j hj
  unfold upM upR
  by_cases hji : j = i
  ·subst hji; simp [hlt]
  ·by_cases cj : crU U j z
   ·have := sideR h hi hj (Ne.symm hji) c1 cj (key j hj hji (qh9 cj))
    simp only [cj, this]
   ·simp [cj]
 unfold wU
 rw [e1, e2, up_LR h.toClU]
theorem cr_mid {U : Nat → Int} {j : Nat} {a b z : Int} (h1 : crU U j a) (h2 : crU U j b) (ha : a ≤ z) (hb : z ≤ b) : crU U j z := by
 unfold crU at *; omega
theorem qeL {n : Nat} {U V : Nat → Int} {t : Nat → Rat} (h : SmU n U V t) {i : Nat} (hi : i < n) (d : Nat) : ∀ z : Int, crU U i z → crU U i (z + d) → wU n U V t i (z + d) = wU n U V t i z := by
 induction d with
 | zero => intro z _ _; simp
 | succ d ih =>
   intro z h1 h2
   have c := cr_mid (z := z + d) h1 h2 (by omega) (by omega)
   have e : z + ((d + 1 : Nat) : Int) - 1 = z + d := by omega
   rw [← qlX h hi (by rw [e]; exact c) h2, e, ih z h1 c]
theorem qcV {n : Nat} {U V : Nat → Int} {t : Nat → Rat} (h : SmU n U V t) {i : Nat} (hi : i < n) {z z' : Int} (h1 : crU U i z) (h2 : crU U i z') : wU n U V t i z' = wU n U V t i z := by
 rcases Int.le_total z z' with hz | hz
 ·have := qeL h hi (z' - z).toNat z h1 (by rw [show z + ((z' - z).toNat : Int) = z' by omega]; exact h2)
  rwa [show z + ((z' - z).toNat : Int) = z' by omega] at this
 ·have := qeL h hi (z - z').toNat z' h2 (by rw [show z' + ((z - z').toNat : Int) = z by omega]; exact h1)
  rw [show z' + ((z - z').toNat : Int) = z by omega] at this
  exact this.symm
theorem qeM {n : Nat} {U V : Nat → Int} {t : Nat → Rat} (h : SmU n U V t) {k e o j : Nat} (hk : 1 ≤ k) (hkn : k < n) (heo : (e = k - 1 ∧ o = k) ∨ (e = k ∧ o = k - 1)) (hj : j < n) (je : j ≠ e) (jo : j ≠ o)
 (ce : inU U e (U k)) (cj : inU U j (U k)) : yU U V t e (U k) ≠ yU U V t j (U k) := by
 intro he
 have hen : e < n := by omega
 obtain ⟨m, m', hm, hm', hz, hq⟩ := h.tch e j (U k) hen hj (Ne.symm je) ce cj he
 have hne := h.ne e hen
 have : m = k := by
  rcases heo with ⟨rfl, rfl⟩ | ⟨rfl, rfl⟩
  ·rcases hm with rfl | rfl
   ·rw [show o - 1 + 1 = o by omega] at hne; exact absurd hz hne
   ·omega
  ·rcases hm with rfl | rfl
   ·rfl
   ·exact absurd hz.symm hne
 omega
theorem qbB {n : Nat} {U V : Nat → Int} {t : Nat → Rat} (h : SmU n U V t) {k e : Nat} (hk : 1 ≤ k) (hkn : k < n) (he : e = k - 1 ∨ e = k) : yU U V t e (U k) = V k := by
 rcases he with rfl | rfl
 ·have := h.yt (k - 1) (by omega)
  rwa [show k - 1 + 1 = k by omega] at this
 ·exact qkE U V t e
theorem qip {n : Nat} {U V : Nat → Int} {t : Nat → Rat} (h : SmU n U V t) {k e o : Nat} (hk : 1 ≤ k) (hkn : k < n) (heo : (e = k - 1 ∧ o = k) ∨ (e = k ∧ o = k - 1)) (ce : crU U e (U k)) :
 sm (upM U V t (U k) e) n = sm (upR U V t (U k) (V k)) n + upM U V t (U k) e o := by
 have hlt : ∀ x : Rat, ¬ x < x := fun x => by grind
 have hen : e < n := by omega
 have ye := qbB h (e := e) hk hkn (by omega)
 have yo := qbB h (e := o) hk hkn (by omega)
 rw [qny (f := upM U V t (U k) e) (f' := upR U V t (U k) (V k)) (o := o) (by omega)]
 ·have : upR U V t (U k) (V k) o = 0 := by unfold upR; rw [yo]; simp [hlt]
  rw [this]; omega
 ·intro j hj hjo
  unfold upM upR
  by_cases hje : j = e
  ·subst hje; rw [ye]; simp [hlt]
  ·by_cases cj : crU U j (U k)
   ·have := sideR h hen hj (Ne.symm hje) ce cj (qeM h hk hkn heo hj hje hjo (qh9 ce) (qh9 cj))
    rw [ye] at this
    simp only [cj, this]
   ·simp [cj]
theorem qiq {n : Nat} {U V : Nat → Int} {t : Nat → Rat} (h : SmU n U V t) {k e o : Nat} (hk : 1 ≤ k) (hkn : k < n) (heo : (e = k - 1 ∧ o = k) ∨ (e = k ∧ o = k - 1)) (ce : crU U e (U k - 1)) :
 sm (upM U V t (U k - 1) e) n = sm (upR U V t (U k) (V k)) n + upM U V t (U k - 1) e o := by
 have hlt : ∀ x : Rat, ¬ x < x := fun x => by grind
 have hen : e < n := by omega
 have ye := qbB h (e := e) hk hkn (by omega)
 have yo := qbB h (e := o) hk hkn (by omega)
 rw [← up_LR h.toClU, qny (f := upM U V t (U k - 1) e) (f' := upL U V t (U k) (V k)) (o := o) (by omega)]
 ·have : upL U V t (U k) (V k) o = 0 := by unfold upL; rw [yo]; simp [hlt]
  rw [this]; omega
 ·intro j hj hjo
  unfold upM upL
  by_cases hje : j = e
  ·subst hje; rw [ye]; simp [hlt]
  ·by_cases cj : crU U j (U k - 1)
   ·have := sideL h hen hj (Ne.symm hje) ce cj (qeM h hk hkn heo hj hje hjo (qjZ ce) (qjZ cj))
    rw [ye] at this
    simp only [cj, this]
   ·simp [cj]
end Go.F

namespace Go.F
theorem qir {n : Nat} {U V : Nat → Int} {t : Nat → Rat} (h : SmU n U V t) {k : Nat} (hk : 1 ≤ k) (hkn : k < n) {s s' : Int} (hs : s = U k ∨ s = U k - 1) (hs' : s' = U k ∨ s' = U k - 1)
 (c : crU U (k - 1) s) (c' : crU U k s') : wU n U V t (k - 1) s = wU n U V t k s' := by
 have hn1 := h.ne (k - 1) (by omega)
 have hn2 := h.ne k hkn
 have e1 : sm (upM U V t s (k - 1)) n = sm (upR U V t (U k) (V k)) n + upM U V t s (k - 1) k := by
  rcases hs with rfl | rfl
  ·exact qip h hk hkn (.inl ⟨rfl, rfl⟩) c
  ·exact qiq h hk hkn (.inl ⟨rfl, rfl⟩) c
 have e2 : sm (upM U V t s' k) n = sm (upR U V t (U k) (V k)) n + upM U V t s' k (k - 1) := by
  rcases hs' with rfl | rfl
  ·exact qip h hk hkn (.inr ⟨rfl, rfl⟩) c'
  ·exact qiq h hk hkn (.inr ⟨rfl, rfl⟩) c'
 unfold wU
 rw [e1, e2]
 generalize sm (upR U V t (U k) (V k)) n = B
 have hside : s = s' → hU U V t (k - 1) s < hU U V t k s' ∨ hU U V t k s' < hU U V t (k - 1) s := by
  rintro rfl; exact qkF h (by omega) hkn (by omega) c c'
 unfold upM sgU
 have hkk : k - 1 + 1 = k := by omega
 have c0 := c
 have c0' := c'
 unfold crU at c0 c0'
 rw [hkk] at hn1 c0
 simp only [hkk]
 by_cases a : U (k - 1) < U k <;> by_cases b : U k < U (k + 1)
 ·have q1 : ¬ crU U k s := by unfold crU; omega
  have q2 : ¬ crU U (k - 1) s' := by unfold crU; rw [hkk]; omega
  simp [a, b, q1, q2]
 ·have : s = s' := by omega
  subst this
  have hh := hside rfl
  simp only [a, b, c, c', if_true, if_false, true_and]
  rcases hh with hh | hh
  ·have : ¬ hU U V t k s < hU U V t (k - 1) s := by grind
   simp [hh, this]; omega
  ·have : ¬ hU U V t (k - 1) s < hU U V t k s := by grind
   simp [hh, this]; try omega
 ·have : s = s' := by omega
  subst this
  have hh := hside rfl
  simp only [a, b, c, c', if_true, if_false, true_and]
  rcases hh with hh | hh
  ·have : ¬ hU U V t k s < hU U V t (k - 1) s := by grind
   simp [hh, this]; try omega
  ·have : ¬ hU U V t (k - 1) s < hU U V t k s := by grind
   simp [hh, this]; try omega
 ·have q1 : ¬ crU U k s := by unfold crU; omega
  have q2 : ¬ crU U (k - 1) s' := by unfold crU; rw [hkk]; omega
  simp [a, b, q1, q2]
theorem qoo {n : Nat} {U V : Nat → Int} {t : Nat → Rat} (h : SmU n U V t) : ∃ c, ∀ i, i < n → ∀ z, crU U i z → wU n U V t i z = c := by
 have h0 := h.ne 0 (by have := h.n3; omega)
 refine ⟨wU n U V t 0 (min (U 0) (U 1)), ?_⟩
 intro i
 induction i with
 | zero =>
   intro hi z hz
   exact qcV h hi (by unfold crU; simp only [Nat.zero_add]; simp only [Nat.zero_add] at h0; omega) hz
 | succ i ih =>
   intro hi z hz
   have n1 := h.ne i (by omega)
   have n2 := h.ne (i + 1) hi
   let s : Int := if U i < U (i + 1) then U (i + 1) - 1 else U (i + 1)
   let s' : Int := if U (i + 1) < U (i + 1 + 1) then U (i + 1) else U (i + 1) - 1
   have cs : crU U i s := by unfold crU; simp only [s]; split <;> omega
   have cs' : crU U (i + 1) s' := by unfold crU; simp only [s']; split <;> omega
   have v := qir h (k := i + 1) (by omega) hi (s := s) (s' := s') (by simp only [s]; split <;> omega) (by simp only [s']; split <;> omega) (by simpa using cs) cs'
   rw [qcV h hi cs' hz, ← v]
   simpa using ih (by omega) s cs
end Go.F

namespace Go.F
def q9N (c : Int) : Int → List (Int × Rat) → Prop
 | acc, [] => acc = 0
 | acc, e :: r => acc = (if e.1 = -1 then 1 else 0) - c ∧ q9N c (acc + e.1) r
def q6t : List (Int × Rat) → Rat
 | [] => 0
 | e :: r => (e.1 : Rat) * e.2 + q6t r
theorem qkG : ∀ (l : List (Int × Rat)), q9N 1 0 l → l.Pairwise (fun a b => b.2 < a.2) → (∀ e ∈ l, e.1 = 1 ∨ e.1 = -1) → q6t l ≤ 0 ∧ (l ≠ [] → q6t l < 0)
 | [], _, _, _ => by simp [q6t]
 | [e], h, _, _ => by
   exfalso
   simp only [q9N] at h
   split at h <;> omega
 | e :: e' :: r, h, hp, hs => by
   simp only [q9N] at h
   have s1 := hs e (by simp)
   have s2 := hs e' (by simp)
   obtain ⟨h1, h2, h3⟩ := h
   have g1 : e.1 = -1 := by split at h1 <;> omega
   have g2 : e'.1 = 1 := by rw [g1] at h2; split at h2 <;> omega
   rw [g1, g2] at h3
   have ih := qkG r (by simpa using h3) (by simp only [List.pairwise_cons] at hp; exact hp.2.2) (fun x hx => hs x (by simp [hx]))
   have lt : e'.2 < e.2 := by simp only [List.pairwise_cons] at hp; exact hp.1 e' (by simp)
   have : q6t (e :: e' :: r) < 0 := by
    simp only [q6t, g1, g2]
    have := ih.1
    have q1 : ((-1 : Int) : Rat) = -1 := rfl
    have q2 : ((1 : Int) : Rat) = 1 := rfl
    rw [q1, q2]
    grind
   exact ⟨by grind, fun _ => this⟩
theorem qkH : ∀ (l : List (Int × Rat)), q9N 0 0 l → l.Pairwise (fun a b => b.2 < a.2) → (∀ e ∈ l, e.1 = 1 ∨ e.1 = -1) → 0 ≤ q6t l ∧ (l ≠ [] → 0 < q6t l)
 | [], _, _, _ => by simp [q6t]
 | [e], h, _, hs => by
   exfalso
   have s1 := hs e (by simp)
   simp only [q9N] at h
   split at h <;> omega
 | e :: e' :: r, h, hp, hs => by
   simp only [q9N] at h
   have s1 := hs e (by simp)
   have s2 := hs e' (by simp)
   obtain ⟨h1, h2, h3⟩ := h
   have g1 : e.1 = 1 := by split at h1 <;> omega
   have g2 : e'.1 = -1 := by rw [g1] at h2; split at h2 <;> omega
   rw [g1, g2] at h3
   have ih := qkH r (by simpa using h3) (by simp only [List.pairwise_cons] at hp; exact hp.2.2) (fun x hx => hs x (by simp [hx]))
   have lt : e'.2 < e.2 := by simp only [List.pairwise_cons] at hp; exact hp.1 e' (by simp)
   have : 0 < q6t (e :: e' :: r) := by
    simp only [q6t, g1, g2]
    have := ih.1
    have q1 : ((-1 : Int) : Rat) = -1 := rfl
    have q2 : ((1 : Int) : Rat) = 1 := rfl
    rw [q1, q2]
    grind
   exact ⟨by grind, fun _ => this⟩
theorem qgb {l l' : List (Int × Rat)} (h : l.Perm l') : q6t l = q6t l' := by
 induction h with
 | nil => rfl
 | cons x _ ih => simp only [q6t, ih]
 | swap x y l => simp only [q6t]; grind
 | trans _ _ h1 h2 => rw [h1, h2]
def upS (h : Rat) : List (Int × Rat) → Int
 | [] => 0
 | e :: r => (if h < e.2 then e.1 else 0) + upS h r
def q8f : List (Int × Rat) → Int
 | [] => 0
 | e :: r => e.1 + q8f r
theorem qnz {h : Rat} {l l' : List (Int × Rat)} (hp : l.Perm l') : upS h l = upS h l' := by
 induction hp with
 | nil => rfl
 | cons x _ ih => simp only [upS, ih]
 | swap x y l => simp only [upS]; omega
 | trans _ _ h1 h2 => rw [h1, h2]
theorem qlY {l l' : List (Int × Rat)} (hp : l.Perm l') : q8f l = q8f l' := by
 induction hp with
 | nil => rfl
 | cons x _ ih => simp only [q8f, ih]
 | swap x y l => simp only [q8f]; omega
 | trans _ _ h1 h2 => rw [h1, h2]
theorem qnA {h : Rat} {l : List (Int × Rat)} (hl : ∀ e ∈ l, ¬ h < e.2) : upS h l = 0 := by
 induction l with
 | nil => rfl
 | cons e r ih => simp [upS, ih (fun x hx => hl x (by simp [hx])), hl e (by simp)]
theorem qeN (h : Rat) (l l' : List (Int × Rat)) : upS h (l ++ l') = upS h l + upS h l' := by
 induction l with
 | nil => simp [upS]
 | cons e r ih => simp only [List.cons_append, upS, ih]; omega
theorem qop {h : Rat} {l : List (Int × Rat)} (hl : ∀ e ∈ l, h < e.2) : upS h l = q8f l := by
 induction l with
 | nil => rfl
 | cons e r ih => simp [upS, q8f, ih (fun x hx => hl x (by simp [hx])), hl e (by simp)]
theorem qcW (l l' : List (Int × Rat)) : q8f (l ++ l') = q8f l + q8f l' := by
 induction l with
 | nil => simp [q8f]
 | cons e r ih => simp only [List.cons_append, q8f, ih]; omega
theorem qnB {c : Int} : ∀ (r pre : List (Int × Rat)), (pre ++ r).Pairwise (fun a b => b.2 < a.2) → (∀ e ∈ r, upS e.2 (pre ++ r) = (if e.1 = -1 then 1 else 0) - c) → q8f (pre ++ r) = 0 → q9N c (q8f pre) r
 | [], pre, _, _, ht => by simpa [q9N] using ht
 | e :: r, pre, hp, hu, ht => by
   have hpp := List.pairwise_append.1 hp
   have h1 : upS e.2 pre = q8f pre := qop (fun x hx => hpp.2.2 x hx e (by simp))
   have h2 : upS e.2 (e :: r) = 0 := by
    apply qnA
    intro x hx
    rcases List.mem_cons.1 hx with rfl | hx
    ·grind
    ·have := (List.pairwise_cons.1 hpp.2.1).1 x hx
     grind
   have h3 := hu e (by simp)
   rw [qeN, h1, h2] at h3
   refine ⟨by omega, ?_⟩
   have e1 : pre ++ e :: r = (pre ++ [e]) ++ r := by simp
   have := qnB (c := c) r (pre ++ [e]) (by rw [← e1]; exact hp) (fun x hx => by rw [← e1]; exact hu x (by simp [hx])) (by rw [← e1]; exact ht)
   rw [qcW] at this
   simpa [q8f] using this
theorem qlZ {l : List (Int × Rat)} (hd : l.Pairwise (fun a b => a.2 ≠ b.2)) : ∃ l', l.Perm l' ∧ l'.Pairwise (fun a b => b.2 < a.2) := by
 refine ⟨l.mergeSort (fun a b => decide (b.2 ≤ a.2)), (List.mergeSort_perm _ _).symm, ?_⟩
 have h1 := List.pairwise_mergeSort (le := fun (a b : Int × Rat) => decide (b.2 ≤ a.2)) (fun a b c h1 h2 => by simp at *; grind) (fun a b => by simp; grind) l
 have h2 := ((List.mergeSort_perm l (fun a b => decide (b.2 ≤ a.2))).pairwise_iff (R := fun a b => a.2 ≠ b.2) (fun h => Ne.symm h)).2 hd
 refine (List.pairwise_and_iff.2 ⟨h1, h2⟩).imp ?_
 intro a b ⟨g1, g2⟩
 simp at g1
 grind
end Go.F

namespace Go.F
def q6L (n : Nat) (U V : Nat → Int) (t : Nat → Rat) (z : Int) : List (Int × Rat) := ((List.range n).filter (fun j => decide (crU U j z))).map (fun j => (sgU U j, hU U V t j z))
def qah (n : Nat) (U V : Nat → Int) (t : Nat → Rat) (z : Int) : Rat := sm (fun j => if crU U j z then (sgU U j : Rat) * hU U V t j z else 0) n
theorem qis (l l' : List (Int × Rat)) : q6t (l ++ l') = q6t l + q6t l' := by
 induction l with
 | nil => simp [q6t]; grind
 | cons e r ih => simp only [List.cons_append, q6t, ih]; grind
theorem qaV (n : Nat) (U V : Nat → Int) (t : Nat → Rat) (z : Int) : q6L (n + 1) U V t z = q6L n U V t z ++ (if crU U n z then [(sgU U n, hU U V t n z)] else []) := by
 unfold q6L
 rw [List.range_succ, List.filter_append, List.map_append]
 congr 1
 by_cases h : crU U n z <;> simp [h]
theorem qgc (n : Nat) (U V : Nat → Int) (t : Nat → Rat) (z : Int) : q6t (q6L n U V t z) = qah n U V t z := by
 unfold qah
 induction n with
 | zero => rfl
 | succ k ih =>
   rw [qaV, qis, ih, sm]
   by_cases h : crU U k z
   ·simp only [h, if_true, q6t]; grind
   ·simp only [h, if_false, q6t]
theorem qoq (n : Nat) (U V : Nat → Int) (t : Nat → Rat) (z : Int) (i : Nat) : upS (hU U V t i z) (q6L n U V t z) = sm (upM U V t z i) n := by
 induction n with
 | zero => rfl
 | succ k ih =>
   rw [qaV, qeN, ih, sm]
   unfold upM
   by_cases h : crU U k z
   ·simp only [h, if_true, upS, true_and]; omega
   ·simp only [h, if_false, upS, false_and]
theorem qnC (n : Nat) (U V : Nat → Int) (t : Nat → Rat) (z : Int) : q8f (q6L n U V t z) = sm (fun j => if crU U j z then sgU U j else 0) n := by
 induction n with
 | zero => rfl
 | succ k ih =>
   rw [qaV, qcW, ih, sm]
   by_cases h : crU U k z
   ·simp only [h, if_true, q8f]; omega
   ·simp only [h, if_false, q8f]
theorem qnD {n : Nat} {U V : Nat → Int} {t : Nat → Rat} (h : ClU n U V t) (z : Int) : sm (fun j => if crU U j z then sgU U j else 0) n = 0 := by
 have := qkD (f := fun j => if crU U j z then sgU U j else 0) (f' := fun _ => 0) (g := fun m => if z < U m then 1 else 0) (n := n) ?_
 ·rw [h.cU] at this
  have h0 : sm (fun _ => (0 : Int)) n = 0 := by
   clear this
   generalize n = m
   induction m with
   | zero => rfl
   | succ k ih => rw [sm, ih]; rfl
  omega
 ·intro j _
  unfold sgU
  by_cases c : crU U j z
  ·simp only [c, if_true]; unfold crU at c
   repeat' split
   all_goals omega
  ·simp only [c, if_false]; unfold crU at c
   repeat' split
   all_goals omega
theorem qit {n : Nat} {U V : Nat → Int} {t : Nat → Rat} {z : Int} {e : Int × Rat} (h : e ∈ q6L n U V t z) : ∃ j, j < n ∧ crU U j z ∧ e = (sgU U j, hU U V t j z) := by
 unfold q6L at h
 simp only [List.mem_map, List.mem_filter, List.mem_range, decide_eq_true_eq] at h
 obtain ⟨j, ⟨h1, h2⟩, h3⟩ := h
 exact ⟨j, h1, h2, h3.symm⟩
theorem qor {n : Nat} {U V : Nat → Int} {t : Nat → Rat} (h : SmU n U V t) (z : Int) : (q6L n U V t z).Pairwise (fun a b => a.2 ≠ b.2) := by
 unfold q6L
 rw [List.pairwise_map, List.pairwise_filter]
 refine List.Pairwise.imp_of_mem ?_ (List.pairwise_lt_range (n := n))
 intro a b ha hb hab ca cb he
 simp only [decide_eq_true_eq, List.mem_range] at *
 rcases qkF h ha hb (by omega) ca cb with g | g <;> grind
theorem qeO {n : Nat} {U V : Nat → Int} {t : Nat → Rat} (h : SmU n U V t) {c : Int} (hc : ∀ i, i < n → ∀ z, crU U i z → wU n U V t i z = c) (z : Int) :
 ∃ l', (q6L n U V t z).Perm l' ∧ l'.Pairwise (fun a b => b.2 < a.2) ∧ q9N c 0 l' ∧ ∀ e ∈ l', e.1 = 1 ∨ e.1 = -1 := by
 obtain ⟨l', hp, hs⟩ := qlZ (qor h z)
 refine ⟨l', hp, hs, ?_, ?_⟩
 ·refine qnB (c := c) l' [] hs ?_ ?_
  ·intro e he
   obtain ⟨j, hj, cj, rfl⟩ := qit (hp.mem_iff.2 he)
   simp only [List.nil_append]
   rw [← qnz hp, qoq, ← hc j hj z cj]
   unfold wU
   omega
  ·rw [List.nil_append, ← qlY hp, qnC, qnD h.toClU]
 ·intro e he
  obtain ⟨j, hj, cj, rfl⟩ := qit (hp.mem_iff.2 he)
  unfold sgU
  simp only
  split <;> simp
theorem qeP {l l' : List (Int × Rat)} (hp : l.Perm l') (h : l ≠ []) : l' ≠ [] := by
 intro e; subst e; exact h hp.eq_nil
theorem qm0 {n : Nat} {U V : Nat → Int} {t : Nat → Rat} (h : SmU n U V t) :
 (∀ z, qah n U V t z ≤ 0 ∧ (∀ i, i < n → crU U i z → qah n U V t z < 0)) ∨ (∀ z, 0 ≤ qah n U V t z ∧ (∀ i, i < n → crU U i z → 0 < qah n U V t z)) := by
 obtain ⟨c, hc⟩ := qoo h
 have mem : ∀ z i, i < n → crU U i z → q6L n U V t z ≠ [] := by
  intro z i hi ci he
  have : (sgU U i, hU U V t i z) ∈ q6L n U V t z := by
   unfold q6L
   simp only [List.mem_map, List.mem_filter, List.mem_range, decide_eq_true_eq]
   exact ⟨i, ⟨hi, ci⟩, rfl⟩
  rw [he] at this
  exact absurd this (by simp)
 have c01 : c = 0 ∨ c = 1 := by
  have h0 := h.ne 0 (by have := h.n3; omega)
  have c0 : crU U 0 (min (U 0) (U 1)) := by unfold crU; simp only [Nat.zero_add] at *; omega
  obtain ⟨l', hp, hs, ha, _⟩ := qeO h hc (min (U 0) (U 1))
  have := qeP hp (mem _ 0 (by have := h.n3; omega) c0)
  cases l' with
  | nil => exact absurd rfl this
  | cons e r =>
    simp only [q9N] at ha
    have := ha.1
    split at this <;> omega
 rcases c01 with rfl | rfl
 ·right
  intro z
  obtain ⟨l', hp, hs, ha, h1⟩ := qeO h hc z
  have k := qkH l' ha hs h1
  rw [← qgb hp, qgc] at k
  exact ⟨k.1, fun i hi ci => k.2 (qeP hp (mem z i hi ci))⟩
 ·left
  intro z
  obtain ⟨l', hp, hs, ha, h1⟩ := qeO h hc z
  have k := qkG l' ha hs h1
  rw [← qgb hp, qgc] at k
  exact ⟨k.1, fun i hi ci => k.2 (qeP hp (mem z i hi ci))⟩
end Go.F

namespace Go.F
theorem sm_add {f g : Nat → Rat} {n : Nat} : sm (fun j => f j + g j) n = sm f n + sm g n := by
 induction n with
 | zero => simp [sm]; grind
 | succ k ih => simp only [sm, ih]; grind
theorem sm_zero {n : Nat} : sm (fun _ => (0 : Rat)) n = 0 := by
 induction n with
 | zero => rfl
 | succ k ih => rw [sm, ih]; grind
theorem qos (f : Nat → Nat → Rat) (n N : Nat) : sm (fun k => sm (fun j => f k j) n) N = sm (fun j => sm (fun k => f k j) N) n := by
 induction N with
 | zero => simp only [sm]; exact sm_zero.symm
 | succ K ih => simp only [sm]; rw [sm_add, ih]
theorem sm_mul {f : Nat → Rat} {n : Nat} (q : Rat) : sm (fun j => q * f j) n = q * sm f n := by
 induction n with
 | zero => simp [sm]
 | succ k ih => simp only [sm, ih]; grind
theorem qiu (a b lo : Int) (y0 t : Rat) (hab : a ≤ b) (hlo : lo ≤ a) (N : Nat) :
 sm (fun k => if a ≤ lo + (k : Int) ∧ lo + (k : Int) < b then (y0 + t * (((lo + (k : Int) : Int) : Rat) - a)) + (y0 + t * (((lo + (k : Int) + 1 : Int) : Rat) - a)) else (0 : Rat)) N
  = (((max a (min b (lo + N)) : Int) : Rat) - a) * (2 * y0 + t * (((max a (min b (lo + N)) : Int) : Rat) - a)) := by
 induction N with
 | zero =>
   have : max a (min b (lo + ((0 : Nat) : Int))) = a := by omega
   rw [this, sm]; grind
 | succ k ih =>
   rw [sm, ih]
   by_cases h : a ≤ lo + (k : Int) ∧ lo + (k : Int) < b
   ·rw [if_pos h]
    have e1 : max a (min b (lo + (k : Int))) = lo + k := by omega
    have e2 : max a (min b (lo + ((k + 1 : Nat) : Int))) = lo + k + 1 := by omega
    rw [e1, e2]
    generalize lo + (k : Int) = z
    rw [Rat.intCast_add]
    have : ((1 : Int) : Rat) = 1 := rfl
    rw [this]
    grind
   ·rw [if_neg h]
    have e1 : max a (min b (lo + ((k + 1 : Nat) : Int))) = max a (min b (lo + (k : Int))) := by omega
    rw [e1]; grind
theorem qm1 {n : Nat} {U V : Nat → Int} {t : Nat → Rat} (h : ClU n U V t) {j : Nat} (hj : j < n) (lo : Int) (N : Nat) (h1 : lo ≤ U j) (h2 : lo ≤ U (j + 1)) (h3 : U j ≤ lo + N) (h4 : U (j + 1) ≤ lo + N) :
 sm (fun k => if crU U j (lo + (k : Int)) then (sgU U j : Rat) * hU U V t j (lo + (k : Int)) else 0) N = ((U (j + 1) - U j : Int) : Rat) * ((V j : Rat) + V (j + 1)) := by
 have hne := h.ne j hj
 have hy := h.yt j hj
 unfold yU at hy
 by_cases hlt : U j < U (j + 1)
 ·have hs : sgU U j = 1 := by unfold sgU; simp [hlt]
  have e := qiu (U j) (U (j + 1)) lo (V j) (t j) (by omega) h1 N
  rw [show max (U j) (min (U (j + 1)) (lo + (N : Int))) = U (j + 1) by omega] at e
  rw [q7z (g := fun k => if U j ≤ lo + (k : Int) ∧ lo + (k : Int) < U (j + 1) then ((V j : Rat) + t j * (((lo + (k : Int) : Int) : Rat) - U j)) + (V j + t j * (((lo + (k : Int) + 1 : Int) : Rat) - U j)) else (0 : Rat)), e]
  ·rw [Rat.intCast_sub]; grind
  ·intro k _
   have : crU U j (lo + (k : Int)) ↔ U j ≤ lo + (k : Int) ∧ lo + (k : Int) < U (j + 1) := by unfold crU; omega
   simp only [this, hs, hU, yU]
   have : ((1 : Int) : Rat) = 1 := rfl
   rw [this]
   split <;> grind
 ·have hs : sgU U j = -1 := by unfold sgU; simp [hlt]
  have e := qiu (U (j + 1)) (U j) lo (V (j + 1)) (t j) (by omega) h2 N
  rw [show max (U (j + 1)) (min (U j) (lo + (N : Int))) = U j by omega] at e
  rw [q7z (g := fun k => (-1) * (if U (j + 1) ≤ lo + (k : Int) ∧ lo + (k : Int) < U j then ((V (j + 1) : Rat) + t j * (((lo + (k : Int) : Int) : Rat) - U (j + 1))) + (V (j + 1) + t j * (((lo + (k : Int) + 1 : Int) : Rat) - U (j + 1))) else (0 : Rat))), sm_mul, e]
  ·rw [Rat.intCast_sub]; grind
  ·intro k _
   have : crU U j (lo + (k : Int)) ↔ U (j + 1) ≤ lo + (k : Int) ∧ lo + (k : Int) < U j := by unfold crU; omega
   simp only [this, hs, hU, yU]
   have : ((-1 : Int) : Rat) = -1 := rfl
   rw [this]
   split <;> grind
theorem qk0 {n : Nat} {U V : Nat → Int} {t : Nat → Rat} (h : ClU n U V t) (lo : Int) (N : Nat) (h1 : ∀ j, j ≤ n → lo ≤ U j ∧ U j ≤ lo + N) :
 sm (fun k => qah n U V t (lo + (k : Int))) N = ((sm (fun j => U (j + 1) * V j - U j * V (j + 1)) n : Int) : Rat) := by
 unfold qah
 rw [qos, q7z (fun j hj => qm1 h hj lo N (h1 j (by omega)).1 (h1 (j + 1) (by omega)).1 (h1 j (by omega)).2 (h1 (j + 1) (by omega)).2)]
 have key : ∀ m, sm (fun j => ((U (j + 1) - U j : Int) : Rat) * ((V j : Rat) + V (j + 1))) m = ((sm (fun j => U (j + 1) * V j - U j * V (j + 1)) m + (U m * V m - U 0 * V 0) : Int) : Rat) := by
  intro m
  induction m with
  | zero => simp [sm]
  | succ k ih =>
    rw [sm, ih, sm]
    simp only [Rat.intCast_add, Rat.intCast_sub, Rat.intCast_mul]
    grind
 rw [key n, h.cU, h.cV]
 congr 1
 omega
theorem qm2 {f : Nat → Rat} {N k : Nat} (h : ∀ j, f j ≤ 0) (hk : k < N) (h2 : f k < 0) : sm f N < 0 := by
 have le : ∀ M, sm f M ≤ 0 := by
  intro M
  induction M with
  | zero => simp [sm]
  | succ j ih => rw [sm]; have := h j; grind
 induction N with
 | zero => omega
 | succ j ih =>
   rw [sm]
   by_cases hj : k = j
   ·subst hj; have := le k; grind
   ·have := ih (by omega); have := h j; grind
theorem qm3 {f : Nat → Rat} {N k : Nat} (h : ∀ j, 0 ≤ f j) (hk : k < N) (h2 : 0 < f k) : 0 < sm f N := by
 have le : ∀ M, 0 ≤ sm f M := by
  intro M
  induction M with
  | zero => simp [sm]
  | succ j ih => rw [sm]; have := h j; grind
 induction N with
 | zero => omega
 | succ j ih =>
   rw [sm]
   by_cases hj : k = j
   ·subst hj; have := le k; grind
   ·have := ih (by omega); have := h j; grind
theorem bounds (U : Nat → Int) (n : Nat) : ∃ (lo : Int) (N : Nat), ∀ j, j ≤ n → lo ≤ U j ∧ U j ≤ lo + N := by
 induction n with
 | zero =>
   refine ⟨U 0, 0, fun j hj => ?_⟩
   have : j = 0 := by omega
   subst this; omega
 | succ k ih =>
   obtain ⟨lo, N, h⟩ := ih
   refine ⟨min lo (U (k + 1)), (max (lo + N) (U (k + 1)) - min lo (U (k + 1))).toNat, ?_⟩
   intro j hj
   by_cases e : j = k + 1
   ·subst e; omega
   ·have := h j (by omega); omega
theorem qot {n : Nat} {U V : Nat → Int} {t : Nat → Rat} (h : SmU n U V t) : sm (fun j => U (j + 1) * V j - U j * V (j + 1)) n ≠ 0 := by
 obtain ⟨lo, N, hb⟩ := bounds U n
 have e := qk0 h.toClU lo N hb
 have h3 := h.n3
 have hn := h.ne 0 (by omega)
 have b0 := hb 0 (by omega)
 have b1 := hb 1 (by omega)
 simp only [Nat.zero_add] at hn
 have c0 : crU U 0 (lo + (((min (U 0) (U 1)) - lo).toNat : Int)) := by unfold crU; simp only [Nat.zero_add]; omega
 have hk : ((min (U 0) (U 1)) - lo).toNat < N := by omega
 intro hz
 rw [hz] at e
 have e0 : ((0 : Int) : Rat) = 0 := rfl
 rcases qm0 h with g | g
 ·have := qm2 (f := fun k => qah n U V t (lo + (k : Int))) (fun j => (g _).1) hk ((g _).2 0 (by omega) c0)
  rw [e, e0] at this; grind
 ·have := qm3 (f := fun k => qah n U V t (lo + (k : Int))) (fun j => (g _).1) hk ((g _).2 0 (by omega) c0)
  rw [e, e0] at this; grind
end Go.F

namespace Go.F
def vx (p : List Spot) (i : Nat) : Spot := pt p (i % p.length)
def shU (p : List Spot) (i : Nat) : Int := 16777216 * (vx p i).x + (vx p i).y
def shV (p : List Spot) (i : Nat) : Int := (vx p i).y
def shT (p : List Spot) (i : Nat) : Rat := ((shV p (i + 1) : Rat) - shV p i) / ((shU p (i + 1) : Rat) - shU p i)
def yR (p : List Spot) (j : Nat) (u : Rat) : Rat := (shV p j : Rat) + shT p j * (u - (shU p j : Rat))
def inR (p : List Spot) (j : Nat) (u : Rat) : Prop := ((shU p j : Rat) ≤ u ∧ u ≤ (shU p (j + 1) : Rat)) ∨ ((shU p (j + 1) : Rat) ≤ u ∧ u ≤ (shU p j : Rat))
theorem q79 (a b : Rat) : a ≤ b ∨ b ≤ a := Rat.le_total
theorem qcX {a b r : Rat} (hb : 0 ≤ b) (hb0 : b ≠ 0) (h : r * b = a) (ha : 0 ≤ a) : 0 ≤ r := by
 rcases q79 0 r with g | g
 ·exact g
 ·have k := Rat.mul_nonneg (show 0 ≤ -r by grind) hb
  have : r * b = 0 := by grind
  rcases Rat.mul_eq_zero.1 this with e | e
  ·grind
  ·exact absurd e hb0
theorem qa3 {a b c : Rat} (h : c ≠ 0) (he : a * c = b * c) : a = b := by
 have h1 : (a - b) * c = 0 := by grind
 rcases Rat.mul_eq_zero.1 h1 with h2 | h2
 ·grind
 ·exact absurd h2 h
theorem qcY {p : List Spot} {i : Nat} (h : i < p.length) : vx p i = pt p i := by unfold vx; rw [Nat.mod_eq_of_lt h]
theorem qha {p : List Spot} [OkP p] (hs : q1P p) {i : Nat} (hi : i < p.length) : shU p i ≠ shU p (i + 1) := by
 have h := (hs i hi).1.1
 rw [← qcY hi] at h
 have e : pt p ((i + 1) % p.length) = vx p (i + 1) := rfl
 rw [e] at h
 have b1 : OkS (vx p i) := by unfold vx; exact inferInstance
 have b2 : OkS (vx p (i + 1)) := by unfold vx; exact inferInstance
 have := b1.bx; have := b1.byy; have := b2.bx; have := b2.byy
 unfold shU
 intro he
 apply h
 generalize vx p i = a at *
 generalize vx p (i + 1) = b at *
 cases a; cases b
 simp only [Spot.mk.injEq] at *
 omega
theorem qkI {a b : Int} (h : a ≠ b) : (b : Rat) - (a : Rat) ≠ 0 := by
 rw [← Rat.intCast_sub]; intro hh; rw [Rat.intCast_eq_zero_iff] at hh; omega
theorem qiv {p : List Spot} {j : Nat} {u : Rat} (hne : shU p j ≠ shU p (j + 1)) (h : inR p j u) :
 ∃ s : Rat, 0 ≤ s ∧ s ≤ 1 ∧ u = shU p j + ((shU p (j + 1) : Rat) - shU p j) * s ∧ onP (qp (vx p j)) (qp (vx p (j + 1))) s = ⟨(u - yR p j u) / 16777216, yR p j u⟩ := by
 have hd := qkI hne
 have hs := Rat.div_mul_cancel (a := u - (shU p j : Rat)) hd
 have ht := Rat.div_mul_cancel (a := (shV p (j + 1) : Rat) - shV p j) hd
 refine ⟨(u - (shU p j : Rat)) / ((shU p (j + 1) : Rat) - shU p j), ?_, ?_, ?_, ?_⟩
 ·generalize hS : (u - (shU p j : Rat)) / ((shU p (j + 1) : Rat) - shU p j) = s at *
  rcases q79 0 s with g | g
  ·exact g
  ·unfold inR at h
   have h1 := Rat.mul_nonneg (show 0 ≤ -s by grind) (show (0 : Rat) ≤ 1 by decide)
   rcases h with ⟨h1, h2⟩ | ⟨h1, h2⟩
   ·have k := Rat.mul_nonneg (show 0 ≤ -s by grind) (show 0 ≤ ((shU p (j + 1) : Rat) - shU p j) by grind)
    have : s * ((shU p (j + 1) : Rat) - shU p j) = 0 := by grind
    rcases Rat.mul_eq_zero.1 this with e | e
    ·grind
    ·exact absurd e hd
   ·have k := Rat.mul_nonneg (show 0 ≤ -s by grind) (show 0 ≤ ((shU p j : Rat) - shU p (j + 1)) by grind)
    have : s * ((shU p (j + 1) : Rat) - shU p j) = 0 := by grind
    rcases Rat.mul_eq_zero.1 this with e | e
    ·grind
    ·exact absurd e hd
 ·generalize hS : (u - (shU p j : Rat)) / ((shU p (j + 1) : Rat) - shU p j) = s at *
  rcases q79 s 1 with g | g
  ·exact g
  ·unfold inR at h
   rcases h with ⟨h1, h2⟩ | ⟨h1, h2⟩
   ·have k := Rat.mul_nonneg (show 0 ≤ s - 1 by grind) (show 0 ≤ ((shU p (j + 1) : Rat) - shU p j) by grind)
    have : (s - 1) * ((shU p (j + 1) : Rat) - shU p j) = 0 := by grind
    rcases Rat.mul_eq_zero.1 this with e | e
    ·grind
    ·exact absurd e hd
   ·have k := Rat.mul_nonneg (show 0 ≤ s - 1 by grind) (show 0 ≤ ((shU p j : Rat) - shU p (j + 1)) by grind)
    have : (s - 1) * ((shU p (j + 1) : Rat) - shU p j) = 0 := by grind
    rcases Rat.mul_eq_zero.1 this with e | e
    ·grind
    ·exact absurd e hd
 ·grind
 ·have hy : yR p j u = (shV p j : Rat) + ((shV p (j + 1) : Rat) - shV p j) * ((u - (shU p j : Rat)) / ((shU p (j + 1) : Rat) - shU p j)) := by
   unfold yR shT
   congr 1
   apply qa3 hd
   grind
  rw [hy]
  generalize hS : (u - (shU p j : Rat)) / ((shU p (j + 1) : Rat) - shU p j) = s at *
  have hu : u = shU p j + ((shU p (j + 1) : Rat) - shU p j) * s := by grind
  rw [hu]
  have e1 : (shU p j : Rat) = 16777216 * ((vx p j).x : Rat) + ((vx p j).y : Rat) := by unfold shU; rw [Rat.intCast_add, Rat.intCast_mul]; rfl
  have e2 : (shU p (j + 1) : Rat) = 16777216 * ((vx p (j + 1)).x : Rat) + ((vx p (j + 1)).y : Rat) := by unfold shU; rw [Rat.intCast_add, Rat.intCast_mul]; rfl
  have e3 : (shV p j : Rat) = ((vx p j).y : Rat) := rfl
  have e4 : (shV p (j + 1) : Rat) = ((vx p (j + 1)).y : Rat) := rfl
  rw [e1, e2, e3, e4]
  unfold onP qbn q3q q12 qp
  simp only [QP.mk.injEq]
  refine ⟨?_, trivial⟩
  generalize ((vx p j).x : Rat) = a
  generalize ((vx p j).y : Rat) = b
  generalize ((vx p (j + 1)).x : Rat) = c
  generalize ((vx p (j + 1)).y : Rat) = d
  have k : (16777216 : Rat) ≠ 0 := by decide
  apply qa3 k
  rw [Rat.div_mul_cancel k]
  grind
theorem qgd {a b c : Spot} (hon1 : onS a b c = false) (hon2 : onS b c a = false) {s t : Rat} (hs0 : 0 ≤ s) (hs1 : s ≤ 1) (ht0 : 0 ≤ t) (ht1 : t ≤ 1) (he : onP (qp a) (qp b) s = onP (qp b) (qp c) t) : s = 1 ∧ t = 0 := by
 have hx : (a.x : Rat) + ((b.x : Rat) - a.x) * s = b.x + ((c.x : Rat) - b.x) * t := congrArg QP.x he
 have hy : (a.y : Rat) + ((b.y : Rat) - a.y) * s = b.y + ((c.y : Rat) - b.y) * t := congrArg QP.y he
 rcases q79 t (1 - s) with h | h
 ·by_cases h0 : 1 - s = 0
  ·constructor <;> grind
  ·exfalso
   have hr := Rat.div_mul_cancel (a := t) h0
   have hp : 0 < 1 - s := by grind
   have r0 : 0 ≤ t / (1 - s) := qcX (by grind) h0 hr ht0
   have r1 : t / (1 - s) ≤ 1 := by
    generalize t / (1 - s) = r at *
    rcases q79 r 1 with g | g
    ·exact g
    ·have k := Rat.mul_nonneg (show 0 ≤ r - 1 by grind) (show 0 ≤ 1 - s by grind)
     have : (r - 1) * (1 - s) = 0 := by grind
     rcases Rat.mul_eq_zero.1 this with e | e
     ·grind
     ·exact absurd e h0
   have : onS b c a = true := by
    refine qbA r0 r1 ?_
    generalize t / (1 - s) = r at *
    unfold onP qbn q3q q12 qp
    simp only [QP.mk.injEq]
    constructor
    ·apply qa3 h0; grind
    ·apply qa3 h0; grind
   rw [hon2] at this; cases this
 ·by_cases h0 : t = 0
  ·constructor <;> grind
  ·exfalso
   have hr := Rat.div_mul_cancel (a := 1 - s) h0
   have r0 : 0 ≤ (1 - s) / t := qcX ht0 h0 hr (by grind)
   have r1 : (1 - s) / t ≤ 1 := by
    generalize (1 - s) / t = r at *
    rcases q79 r 1 with g | g
    ·exact g
    ·have k := Rat.mul_nonneg (show 0 ≤ r - 1 by grind) ht0
     have : (r - 1) * t = 0 := by grind
     rcases Rat.mul_eq_zero.1 this with e | e
     ·grind
     ·exact absurd e h0
   have : onS a b c = true := by
    refine qbA (s := 1 - (1 - s) / t) (by grind) (by grind) ?_
    generalize (1 - s) / t = r at *
    unfold onP qbn q3q q12 qp
    simp only [QP.mk.injEq]
    constructor
    ·apply qa3 h0; grind
    ·apply qa3 h0; grind
   rw [hon1] at this; cases this
theorem qnE {p : List Spot} [OkP p] (hs : q1P p) (h3 : 3 ≤ p.length) {i j : Nat} (hj : j < p.length) (hij : i < j) {u : Rat} (ci : inR p i u) (cj : inR p j u) (he : yR p i u = yR p j u) :
 ∃ m m', (m = i ∨ m = i + 1) ∧ (m' = j ∨ m' = j + 1) ∧ (shU p m : Rat) = u ∧ (m = m' ∨ (m = 0 ∧ m' = p.length) ∨ (m = p.length ∧ m' = 0)) := by
 have hi : i < p.length := by omega
 obtain ⟨s, s0, s1, su, sp⟩ := qiv (qha hs hi) ci
 obtain ⟨t, t0, t1, tu, tp⟩ := qiv (qha hs hj) cj
 have hc : onP (qp (vx p i)) (qp (vx p (i + 1))) s = onP (qp (vx p j)) (qp (vx p (j + 1))) t := by rw [sp, tp, he]
 by_cases ha : j = i + 1
 ·subst ha
  have h2 := (hs i hi).1.2
  have e : pt p ((i + 2) % p.length) = vx p (i + 1 + 1) := rfl
  have e' : pt p ((i + 1) % p.length) = vx p (i + 1) := rfl
  rw [← qcY hi, e, e'] at h2
  obtain ⟨r1, r2⟩ := qgd h2.1 h2.2 s0 s1 t0 t1 hc
  exact ⟨i + 1, i + 1, .inr rfl, .inl rfl, by rw [su, r1]; grind, .inl rfl⟩
 ·by_cases hb : (j + 1) % p.length = i
  ·have hj1 : j + 1 = p.length := by
    rcases Nat.lt_or_ge (j + 1) p.length with g | g
    ·rw [Nat.mod_eq_of_lt g] at hb; omega
    ·omega
   rw [hj1, Nat.mod_self] at hb
   subst hb
   have h2 := (hs j hj).1.2
   have e0 : vx p (j + 1) = vx p 0 := by unfold vx; rw [hj1, Nat.mod_self, Nat.zero_mod]
   have e : pt p ((j + 2) % p.length) = vx p (0 + 1) := by
    unfold vx
    rw [show j + 2 = p.length + 1 by omega, Nat.add_mod_left]
   have e' : pt p ((j + 1) % p.length) = vx p (j + 1) := rfl
   rw [← qcY hj, e, e', e0] at h2
   rw [e0] at hc
   obtain ⟨r1, r2⟩ := qgd h2.1 h2.2 t0 t1 s0 s1 hc.symm
   refine ⟨0, j + 1, .inl rfl, .inr rfl, ?_, .inr (.inl ⟨rfl, hj1⟩)⟩
   rw [su, r2]; grind
  ·exfalso
   have h2 := (hs i hi).2 j hj (by omega) hb
   have n1 := (hs i hi).1.1
   have n2 := (hs j hj).1.1
   have e1 : pt p ((i + 1) % p.length) = vx p (i + 1) := rfl
   have e2 : pt p ((j + 1) % p.length) = vx p (j + 1) := rfl
   rw [← qcY hi, e1] at n1
   rw [← qcY hj, e2] at n2
   rw [← qcY hi, ← qcY hj, e1, e2, qio n1 n2 s0 s1 t0 t1 hc] at h2
   cases h2
theorem touch {p : List Spot} [OkP p] (hs : q1P p) (h3 : 3 ≤ p.length) {i j : Nat} (hi : i < p.length) (hj : j < p.length) (hij : i ≠ j) {u : Rat} (ci : inR p i u) (cj : inR p j u) (he : yR p i u = yR p j u) :
 ∃ m m', (m = i ∨ m = i + 1) ∧ (m' = j ∨ m' = j + 1) ∧ (shU p m : Rat) = u ∧ (m = m' ∨ (m = 0 ∧ m' = p.length) ∨ (m = p.length ∧ m' = 0)) := by
 rcases Nat.lt_or_gt_of_ne hij with h | h
 ·exact qnE hs h3 hj h ci cj he
 ·obtain ⟨m, m', h1, h2, h4, h5⟩ := qnE hs h3 hi h cj ci he.symm
  refine ⟨m', m, h2, h1, ?_, ?_⟩
  ·rcases h5 with rfl | ⟨rfl, rfl⟩ | ⟨rfl, rfl⟩
   ·exact h4
   ·rw [← h4]; unfold shU vx; rw [Nat.mod_self, Nat.zero_mod]
   ·rw [← h4]; unfold shU vx; rw [Nat.mod_self, Nat.zero_mod]
  ·rcases h5 with rfl | ⟨rfl, rfl⟩ | ⟨rfl, rfl⟩
   ·exact .inl rfl
   ·exact .inr (.inr ⟨rfl, rfl⟩)
   ·exact .inr (.inl ⟨rfl, rfl⟩)
theorem qge {p : List Spot} {i : Nat} {z : Int} (c : crU (shU p) i z) {u : Rat} (h1 : (z : Rat) ≤ u) (h2 : u ≤ ((z + 1 : Int) : Rat)) : inR p i u := by
 unfold crU at c
 unfold inR
 rcases c with ⟨a, b⟩ | ⟨a, b⟩
 ·left
  have a' : (shU p i : Rat) ≤ (z : Rat) := Rat.intCast_le_intCast.2 a
  have b' : ((z + 1 : Int) : Rat) ≤ (shU p (i + 1) : Rat) := Rat.intCast_le_intCast.2 (by omega)
  exact ⟨Rat.le_trans a' h1, Rat.le_trans h2 b'⟩
 ·right
  have a' : (shU p (i + 1) : Rat) ≤ (z : Rat) := Rat.intCast_le_intCast.2 a
  have b' : ((z + 1 : Int) : Rat) ≤ (shU p i : Rat) := Rat.intCast_le_intCast.2 (by omega)
  exact ⟨Rat.le_trans a' h1, Rat.le_trans h2 b'⟩
theorem qnF (p : List Spot) (i : Nat) (z : Int) (l : Rat) : yR p i ((z : Rat) + l) = yR p i z + (yR p i ((z + 1 : Int) : Rat) - yR p i z) * l := by
 unfold yR
 rw [Rat.intCast_add]
 have : ((1 : Int) : Rat) = 1 := rfl
 rw [this]
 grind
theorem qiw {p : List Spot} [OkP p] (hs : q1P p) (h3 : 3 ≤ p.length) {i j : Nat} (hi : i < p.length) (hj : j < p.length) (hij : i ≠ j) {z : Int} (ci : crU (shU p) i z) (cj : crU (shU p) j z)
 (h1 : yR p i z < yR p j z) (h2 : yR p j ((z + 1 : Int) : Rat) < yR p i ((z + 1 : Int) : Rat)) : False := by
 generalize hA0 : yR p i z = A0 at *
 generalize hA1 : yR p i ((z + 1 : Int) : Rat) = A1 at *
 generalize hB0 : yR p j z = B0 at *
 generalize hB1 : yR p j ((z + 1 : Int) : Rat) = B1 at *
 have hd : (B0 - A0) + (A1 - B1) ≠ 0 := by grind
 have hl := Rat.div_mul_cancel (a := B0 - A0) hd
 generalize hL : (B0 - A0) / ((B0 - A0) + (A1 - B1)) = l at hl
 have l0 : 0 < l := by
  rcases q79 l 0 with g | g
  ·have := Rat.mul_nonneg (show 0 ≤ -l by grind) (show 0 ≤ (B0 - A0) + (A1 - B1) by grind)
   grind
  ·by_cases e : l = 0
   ·rw [e] at hl; grind
   ·grind
 have l1 : l < 1 := by
  rcases q79 1 l with g | g
  ·have := Rat.mul_nonneg (show 0 ≤ l - 1 by grind) (show 0 ≤ (B0 - A0) + (A1 - B1) by grind)
   grind
  ·by_cases e : l = 1
   ·rw [e] at hl; grind
   ·grind
 have e1 : ((z + 1 : Int) : Rat) = (z : Rat) + 1 := by rw [Rat.intCast_add]; rfl
 obtain ⟨m, _, _, _, hu, _⟩ := touch hs h3 hi hj hij (u := (z : Rat) + l) (qge ci (by grind) (by rw [e1]; grind)) (qge cj (by grind) (by rw [e1]; grind)) (by
  rw [qnF, qnF, hA0, hA1, hB0, hB1]; grind)
 have k1 : (z : Rat) < (shU p m : Rat) := by rw [hu]; grind
 have k2 : (shU p m : Rat) < ((z + 1 : Int) : Rat) := by rw [hu, e1]; grind
 rw [Rat.intCast_lt_intCast] at k1 k2
 omega
theorem qou {p : List Spot} [OkP p] (hs : q1P p) (h3 : 3 ≤ p.length) {i j : Nat} (hi : i < p.length) (hj : j < p.length) (hij : i ≠ j) {z : Int} (ci : crU (shU p) i z) (cj : crU (shU p) j z)
 (h1 : yR p i z = yR p j z) (h2 : yR p i ((z + 1 : Int) : Rat) = yR p j ((z + 1 : Int) : Rat)) : False := by
 have e1 : ((z + 1 : Int) : Rat) = (z : Rat) + 1 := by rw [Rat.intCast_add]; rfl
 obtain ⟨m, m', a1, a2, a3, a4⟩ := touch hs h3 hi hj hij (qge ci (by grind) (by rw [e1]; grind)) (qge cj (by grind) (by rw [e1]; grind)) h1
 obtain ⟨k, k', b1, b2, b3, b4⟩ := touch hs h3 hi hj hij (qge ci (by rw [e1]; grind) (by grind)) (qge cj (by rw [e1]; grind) (by grind)) h2
 have hmk : m ≠ k := by
  rintro rfl
  rw [a3, e1] at b3; grind
 have hmk' : m' ≠ k' := by
  rintro rfl
  have q0 : ∀ x y, (x = y ∨ (x = 0 ∧ y = p.length) ∨ (x = p.length ∧ y = 0)) → shU p x = shU p y := by
   rintro x y (rfl | ⟨rfl, rfl⟩ | ⟨rfl, rfl⟩)
   ·rfl
   ·unfold shU vx; rw [Nat.mod_self, Nat.zero_mod]
   ·unfold shU vx; rw [Nat.mod_self, Nat.zero_mod]
  rw [q0 _ _ a4] at a3
  rw [q0 _ _ b4, a3, e1] at b3
  grind
 omega
theorem qk1 {p : List Spot} [OkP p] (hs : q1P p) (h3 : 3 ≤ p.length) : SmU p.length (shU p) (shV p) (shT p) where
 cU := by unfold shU vx; rw [Nat.mod_self, Nat.zero_mod]
 cV := by unfold shV vx; rw [Nat.mod_self, Nat.zero_mod]
 ne := fun j hj => qha hs hj
 yt := fun j hj => by
  have hd := qkI (qha hs hj)
  have := Rat.div_mul_cancel (a := (shV p (j + 1) : Rat) - shV p j) hd
  unfold yU shT
  rw [this]; grind
 n3 := h3
 same := fun i j z hi hj hij ci cj => by
  show (yR p i z ≤ yR p j z ∧ yR p i ((z + 1 : Int) : Rat) ≤ yR p j ((z + 1 : Int) : Rat) ∧ yR p i z + yR p i ((z + 1 : Int) : Rat) < yR p j z + yR p j ((z + 1 : Int) : Rat)) ∨ (yR p j z ≤ yR p i z ∧ yR p j ((z + 1 : Int) : Rat) ≤ yR p i ((z + 1 : Int) : Rat) ∧ yR p j z + yR p j ((z + 1 : Int) : Rat) < yR p i z + yR p i ((z + 1 : Int) : Rat))
  have n1 := qiw hs h3 hi hj hij ci cj
  have n2 := qiw hs h3 hj hi (Ne.symm hij) cj ci
  have n3 := qou hs h3 hi hj hij ci cj
  generalize yR p i z = A0 at *
  generalize yR p i ((z + 1 : Int) : Rat) = A1 at *
  generalize yR p j z = B0 at *
  generalize yR p j ((z + 1 : Int) : Rat) = B1 at *
  clear hs ci cj
  rcases q79 A0 B0 with h | h <;> rcases q79 A1 B1 with g | g
  ·left; refine ⟨h, g, ?_⟩
   by_cases e : A0 = B0
   ·by_cases e' : A1 = B1
    ·exact (n3 e e').elim
    ·grind
   ·grind
  ·by_cases e : A0 = B0
   ·by_cases e' : A1 = B1
    ·exact (n3 e e').elim
    ·right; grind
   ·by_cases e' : A1 = B1
    ·left; grind
    ·exact (n1 (by grind) (by grind)).elim
  ·by_cases e : A0 = B0
   ·by_cases e' : A1 = B1
    ·exact (n3 e e').elim
    ·left; grind
   ·by_cases e' : A1 = B1
    ·right; grind
    ·exact (n2 (by grind) (by grind)).elim
  ·right; refine ⟨h, g, ?_⟩
   by_cases e : A0 = B0
   ·by_cases e' : A1 = B1
    ·exact (n3 e e').elim
    ·grind
   ·grind
 tch := fun i j z hi hj hij ci cj he => by
  have k : ∀ i, inU (shU p) i z → inR p i (z : Rat) := by
   intro i c
   unfold inU at c
   unfold inR
   simp only [Rat.intCast_le_intCast]
   exact c
  obtain ⟨m, m', h1, h2, h4, h5⟩ := touch hs h3 hi hj hij (u := (z : Rat)) (k i ci) (k j cj) he
  exact ⟨m, m', h1, h2, by exact_mod_cast h4, h5⟩
theorem qhb (p : List Spot) : ∀ k, k ≤ p.length → sm (fun j => shU p (j + 1) * shV p j - shU p j * shV p (j + 1)) k = -16777216 * q1V p k := by
 intro k
 induction k with
 | zero => intro _; rfl
 | succ k ih =>
   intro hk
   rw [sm, ih (by omega), q1V]
   have e1 : pt p k = vx p k := (qcY (by omega)).symm
   have e2 : pt p ((k + 1) % p.length) = vx p (k + 1) := rfl
   rw [e1, e2]
   unfold shU shV
   generalize (vx p k).x = a
   generalize (vx p k).y = b
   generalize (vx p (k + 1)).x = c
   generalize (vx p (k + 1)).y = d
   grind
theorem qov {p : List Spot} [OkP p] (h3 : 3 ≤ p.length) (hs : q1P p) : qie p ≠ 0 := by
 have h := qot (qk1 hs h3)
 rw [qhb p p.length (Nat.le_refl _)] at h
 unfold qie
 intro e
 rw [e] at h
 exact h rfl
theorem qeQ {p : List Spot} (h : q1O p = 0) : q1b p ≠ 0 := by
 obtain ⟨h3, _, hok, _, hs⟩ := q2L h
 unfold q1b
 rw [if_pos h]
 exact qov h3 ((qew h3).1 hs)
end Go.F

namespace Go.F
theorem qnG (a : Int) {b : Int} (hb : 0 < b) : q4e (-a) b = -q4e a b := by
 by_cases h0 : a = 0
 ·subst h0; rw [Int.neg_zero, qlV hb]; rfl
 unfold q4e
 by_cases h : a < 0
 ·rw [if_neg (by omega), if_pos h]; simp
 ·rw [if_pos (by omega), if_neg h]; simp
theorem qix {sg : Int} (hs : sg = 1 ∨ sg = -1) (a : Int) {b : Int} (hb : 0 < b) : sg * q4e a b = q4e (sg * a) b := by
 rcases hs with rfl | rfl
 ·rw [Int.one_mul, Int.one_mul]
 ·rw [Int.neg_mul, Int.neg_mul, Int.one_mul, Int.one_mul, qnG a hb]
theorem sqd_in {a b : Spot} (ha : q0v a 1048576 = true) (hb : q0v b 1048576 = true) : sqd a b < 17592186044416 := by
 rw [q6F] at ha hb
 have e := qeD a b
 have b1 : Bd (b.x - a.x) 2097152 := ⟨by omega⟩
 have b2 : Bd (b.y - a.y) 2097152 := ⟨by omega⟩
 have hb : Bd ((b.x - a.x) * (b.x - a.x) + (b.y - a.y) * (b.y - a.y)) _ := inferInstance
 have := hb.le
 omega
theorem q9O {l : List Edge} {k : Nat} (hk : k < l.length) : q0m l = q0m (l.take k) ++ ((eg l k).line.dropLast ++ q0m (l.drop (k + 1))) := by
 have : l = l.take k ++ (eg l k :: l.drop (k + 1)) := by
  rw [qet hk, List.getElem_cons_drop, List.take_append_drop]
 conv => lhs; rw [this]
 unfold q0m
 rw [List.flatMap_append, List.flatMap_cons]
theorem qbC {l : List Edge} {k j : Nat} (hk : k < l.length) (hj : j + 1 < (eg l k).line.length) : pt (q0m l) ((q0m (l.take k)).length + j) = pt (eg l k).line j := by
 have e := q9O hk
 have hl : (q0m (l.take k)).length + j < (q0m l).length := by rw [e]; simp; omega
 rw [q1f hl, q1f (by omega)]
 simp only [e]
 rw [List.getElem_append_right (by omega), List.getElem_append_left (by simp; omega), List.getElem_dropLast]
 congr 1
 omega
theorem qk2 {l : List Edge} (hc : q0Y l = 0) {k j : Nat} (hk : k < l.length) (hj : j + 1 < (eg l k).line.length) : pt (q0m l) (((q0m (l.take k)).length + j + 1) % (q0m l).length) = pt (eg l k).line (j + 1) := by
 obtain ⟨h2, h16, hfe, hje, hchk⟩ := q2M hc
 have h2l : ∀ i, i < l.length → 2 ≤ (eg l i).line.length := fun i hi => (q5X (q6o (q4b hfe hi))).1
 have ht := congrArg List.length (q2q hk)
 rw [List.length_append, List.length_dropLast] at ht
 by_cases hl : j + 2 < (eg l k).line.length
 ·have e := q9O hk
  have hlen : (q0m (l.take k)).length + j + 1 < (q0m l).length := by rw [e]; simp; omega
  rw [Nat.mod_eq_of_lt hlen, Nat.add_assoc]
  exact qbC hk (by omega)
 ·have hje' := q4b hje hk
  unfold q2h at hje'
  split at hje'
  ·rename_i hq
   rw [show j + 1 = (eg l k).line.length - 1 by omega, hq]
   by_cases hk1 : k + 1 < l.length
   ·have h0 := qbC hk1 (j := 0) (by have := h2l (k + 1) hk1; omega)
    have e := q9O hk1
    have hlen : (q0m (l.take (k + 1))).length < (q0m l).length := by rw [e]; simp; have := h2l (k + 1) hk1; omega
    rw [show (q0m (l.take k)).length + j + 1 = (q0m (l.take (k + 1))).length by omega, Nat.mod_eq_of_lt hlen, Nat.mod_eq_of_lt hk1, ← h0]; rfl
   ·have hke : k + 1 = l.length := by omega
    have h0 := qbC (l := l) (k := 0) (j := 0) (by omega) (by have := h2l 0 (by omega); omega)
    have : (q0m (l.take (k + 1))).length = (q0m l).length := by rw [hke, List.take_length]
    rw [show (q0m (l.take k)).length + j + 1 = (q0m l).length by omega, Nat.mod_self, hke, Nat.mod_self, ← h0]
    simp [q0m]
  ·cases hje'
theorem qow (l : List Edge) (ws : List Int) : ∀ n, n ≤ l.length → ∀ k, k < n → ∀ j, j + 1 < (eg l k).line.length → wd (q1I l ws n) ((q0m (l.take k)).length + j) = wd ws k := by
 intro n
 induction n with
 | zero => intro _ k hk; omega
 | succ n ih =>
   intro hn k hk j hj
   have hln := q9K l ws n (by omega)
   rw [q1I]
   by_cases hkn : k < n
   ·rw [← ih (by omega) k hkn j hj]
    have h1 := q9K l ws n (by omega)
    have h2 := q2q (l := l) (k := k) (by omega)
    have h3 : (q0m (l.take (k + 1))).length ≤ (q0m (l.take n)).length := by
     have : q0m (l.take (k + 1)) = q0m ((l.take n).take (k + 1)) := by rw [List.take_take, Nat.min_eq_left (by omega)]
     rw [this]; exact q9H _
    rw [h2, List.length_append, List.length_dropLast] at h3
    unfold wd
    rw [List.getD_eq_getElem?_getD, List.getElem?_append_left (by omega), List.getD_eq_getElem?_getD]
   ·obtain rfl : k = n := by omega
    unfold wd
    rw [List.getD_eq_getElem?_getD, List.getElem?_append_right (by omega), List.getElem?_replicate, if_pos (by omega)]
    rfl
theorem qox {p : List Spot} (h : q1W p = 0) {j : Nat} (hj : j + 1 < p.length) : pt p j ≠ pt p (j + 1) := by
 unfold q1W at h
 split at h
 ·cases h
 split at h
 ·cases h
 split at h
 ·cases h
 split at h
 ·rename_i h4; exact h4 j (by omega)
 ·cases h
theorem qkJ {p : List Spot} (h : q1W p = 0) {j : Nat} (hj : j < p.length) : q0v (pt p j) 1048576 = true := by
 rw [q1f hj]; exact (q5X h).2.2 _ (List.getElem_mem _)
def sg1 (n : Int) : Int := if n < 0 then -1 else 1
theorem qnH (n : Int) : sg1 n = 1 ∨ sg1 n = -1 := by unfold sg1; split <;> simp
theorem qhc {n : Int} (h : n ≠ 0) : sg1 n = sgn n := by
 unfold sg1 sgn
 split
 ·simp [*]
 ·rename_i h1
  have : ¬ n < 0 := h1
  simp [this, show 0 < n by omega]
end Go.F

namespace Go.F
attribute [local irreducible] IntKind.wrap wpM
theorem qiy (n : Nat) (hn : n < 17592186044416) : PU qe1 [.int .i64 n] = some (.int .i64 (isq n)) := by
 refine q0i (fn := qaz) rfl (q0a ?_)
 refine go 800 rfl ?_
 refine q0x (S := fun q : Nat × Nat => ([q01 n, q01 q.1, q01 q.2], [none, none, none], [0, 0, 0])) (C := fun q => q.1 ≤ q.2 ∧ q.2 ≤ 4194304 ∧ q.1 * q.1 ≤ n ∧ n < (q.2 + 1) * (q.2 + 1)) (m := fun q => q.2 - q.1) (0, 4194304) ⟨by omega, by omega, by simp, by omega⟩ (by omega) ?_ ?_
 ·exact q05 rfl trivial (by simp [q01])
 rintro ⟨lo, hi⟩ ⟨h1, h2, h3, h4⟩ N hN
 simp only at h1 h2 h3 h4
 refine go 800 rfl ?_
 refine q02 rfl (fun g1 => ?_) (fun g1 => ?_)
 ·rw [q0b] at g1
  have w1 : IntKind.i64.wrap ((lo : Int) + hi) = ((lo + hi : Nat) : Int) := wrap64 (by omega) (by omega)
  have w2 : IntKind.i64.wrap (((lo + hi : Nat) : Int) + 1) = ((lo + hi + 1 : Nat) : Int) := wrap64 (by omega) (by omega)
  have w3 : IntKind.i64.wrap ((((lo + hi + 1 : Nat) : Int)).tdiv 2) = (((lo + hi + 1) / 2 : Nat) : Int) := by
   rw [Int.tdiv_eq_ediv_of_nonneg (by omega), wrap64 (by omega) (by omega)]; omega
  refine go 800 rfl ?_
  rw [w1, w2]
  refine qhI rfl rfl (by decide) ?_
  rw [w3]
  generalize hm : (lo + hi + 1) / 2 = m
  have hml : lo < m := by omega
  have hmh : m ≤ hi := by omega
  have hmm : m * m ≤ 4194304 * 4194304 := Nat.mul_le_mul (by omega) (by omega)
  have w4 : IntKind.i64.wrap ((m : Int) * m) = ((m * m : Nat) : Int) := by rw [← Int.natCast_mul]; exact wrap64 (by omega) (by omega)
  refine go 800 rfl ?_
  rw [w4]
  refine q02 rfl (fun g2 => ?_) (fun g2 => ?_)
  ·rw [q24] at g2
   refine go 800 rfl ?_
   refine q09 ?_
   exact hN (m, hi) ⟨by simp only; omega, by simp only; omega, by simp only; omega, h4⟩ (by simp only; omega) (q05 rfl trivial (by simp [q01]))
  ·rw [q25] at g2
   have w5 : IntKind.i64.wrap ((m : Int) - 1) = ((m - 1 : Nat) : Int) := by rw [wrap64 (by omega) (by omega)]; omega
   refine go 800 rfl ?_
   refine q09 ?_
   refine hN (lo, m - 1) ⟨by simp only; omega, by simp only; omega, h3, ?_⟩ (by simp only; omega) (q05 rfl trivial (by simp [q01, w5]))
   simp only
   rw [show m - 1 + 1 = m by omega]
   omega
 rw [q0d] at g1
 obtain rfl : lo = hi := by omega
 refine go 800 rfl ?_
 refine q09 ?_
 refine go 800 rfl ?_
 refine q0c rfl rfl rfl trivial ?_
 rw [qeB (n := n) (r := lo) (by omega) h3 h4]
theorem qbD (a b : Int) (ha0 : -1099511627776 ≤ a) (ha : a ≤ 1099511627776) (hb : 0 < b) (hb' : b ≤ 1099511627776) : PU q93 [.int .i64 a, .int .i64 b] = some (.int .i64 (q4e a b)) := by
 have w3 : IntKind.i64.wrap (2 * b) = 2 * b := wrap64 (by omega) (by omega)
 refine q0i (fn := q9l) rfl (q0a ?_)
 refine go 800 rfl ?_
 refine q02 rfl (fun h => ?_) (fun h => ?_)
 ·rw [q0b] at h
  have w1 : IntKind.i64.wrap (-2 * a) = -2 * a := wrap64 (by omega) (by omega)
  have w2 : IntKind.i64.wrap (-2 * a + b) = -2 * a + b := wrap64 (by omega) (by omega)
  refine go 800 rfl ?_
  refine qhI rfl rfl (by rw [w3]; omega) ?_
  refine go 800 rfl ?_
  refine q0c rfl rfl rfl trivial ?_
  have hd : (-2 * a + b).tdiv (2 * b) = (-2 * a + b) / (2 * b) := Int.tdiv_eq_ediv_of_nonneg (by omega)
  have hq : (-2 * a + b) / (2 * b) ≤ -2 * a + b := Int.ediv_le_self _ (by omega)
  have hq0 : 0 ≤ (-2 * a + b) / (2 * b) := Int.ediv_nonneg (by omega) (by omega)
  rw [w1, w2, w3, hd, wrap64 (x := (-2 * a + b) / (2 * b)) (by omega) (by omega), wrap64 (by omega) (by omega), q4e, if_pos (by omega), show 2 * -a + b = -2 * a + b by omega]
  simp
 ·rw [q0d] at h
  have w1 : IntKind.i64.wrap (2 * a) = 2 * a := wrap64 (by omega) (by omega)
  have w2 : IntKind.i64.wrap (2 * a + b) = 2 * a + b := wrap64 (by omega) (by omega)
  refine go 800 rfl ?_
  refine qhI rfl rfl (by rw [w3]; omega) ?_
  refine go 800 rfl ?_
  refine q0c rfl rfl rfl trivial ?_
  have hd : (2 * a + b).tdiv (2 * b) = (2 * a + b) / (2 * b) := Int.tdiv_eq_ediv_of_nonneg (by omega)
  have hq : (2 * a + b) / (2 * b) ≤ 2 * a + b := Int.ediv_le_self _ (by omega)
  have hq0 : 0 ≤ (2 * a + b) / (2 * b) := Int.ediv_nonneg (by omega) (by omega)
  rw [w1, w2, w3, hd, wrap64 (by omega) (by omega), q4e, if_neg (by omega)]
theorem q45 (p : List Spot) : PU q2S [q0k p] = some (.int .i64 (sg1 (q1b p))) := by
 refine q0i (fn := q4t) rfl (q0a ?_)
 repeat' (first
  | (refine goP 800 rfl rfl ?_)
  | (show wpM _ _ _ (Fr.ops _ _ (KOper.mk _ _ (some _) _ _ :: _) :: _) Ex.normal _ _ _ _ _; first | refine q0q rfl ?_ | refine q0s rfl ?_ | refine q0g rfl (fun _ => ?_) (fun _ => ?_))
  | (show wpM _ _ _ (Fr.code (K.cond _ _ _) :: _) Ex.normal _ _ _ _ _; first | refine q0r rfl ?_ | refine q0o rfl ?_ | refine q02 rfl (fun _ => ?_) (fun _ => ?_))
  | (show wpM _ _ _ (Fr.ops _ _ (KOper.mk _ _ none _ (KOp.pick _ _ _) :: _) :: _) Ex.normal _ _ _ _ _; refine q0F rfl (fun _ => ?_) (fun _ => ?_))
  | (show wpM _ _ _ [] _ _ _ _ _ _; refine q0c rfl rfl rfl trivial ?_)
  | (show wpM _ _ _ (Fr.ops _ _ (KOper.mk _ _ none _ (KOp.callF q8Z _) :: _) :: _) Ex.normal _ _ _ _ _; refine q00 rfl rfl (qh0 p) ?_))
 ·rename_i h; rw [q0b] at h; simp [sg1, h]
 ·rename_i h; rw [q0d] at h; simp [sg1]; omega
set_option maxHeartbeats 1000000 in
theorem qhd (a b : Spot) (w sg : Int) (hne : a ≠ b) (ha : q0v a 1048576 = true) (hb : q0v b 1048576 = true) (hw : 0 ≤ w ∧ w ≤ 500) (hs : sg = 1 ∨ sg = -1) :
 PU qcC [a.enc, b.enc, .int .i64 w, .int .i64 sg] = some (qeC a b (sg * w)).enc := by
 have hsq := sqd_in ha hb
 have hsp := qh5 hne
 have hir := qh6 (n := sqd a b) (by omega) hsp
 have hil := qnp (n := sqd a b) (by omega)
 have hse := qeD a b
 rw [q6F] at ha hb
 have bx : Bd (b.x - a.x) 2097152 := ⟨by omega⟩
 have by' : Bd (b.y - a.y) 2097152 := ⟨by omega⟩
 have c1 : IntKind.i64.wrap (b.x - a.x) = b.x - a.x := q0M (by decide)
 have c2 : IntKind.i64.wrap (b.y - a.y) = b.y - a.y := q0M (by decide)
 have bw : Bd w 500 := ⟨by omega⟩
 have hsh : qeC a b (sg * w) = ⟨sg * q4e (w * (b.y - a.y)) (isq (sqd a b)), -sg * q4e (w * (b.x - a.x)) (isq (sqd a b))⟩ := by
  unfold qeC
  have hp : (0 : Int) < (isq (sqd a b) : Int) := by omega
  rw [qix hs _ hp, qix (sg := -sg) (by omega) _ hp, Int.mul_assoc, ← Int.neg_mul, Int.mul_assoc]
 rw [hsh]
 generalize hdx : b.x - a.x = dx at *
 generalize hdy : b.y - a.y = dy at *
 generalize sqd a b = n at *
 have c4 : IntKind.i64.wrap (dx * dx) = dx * dx := q0M (by decide)
 have c5 : IntKind.i64.wrap (dy * dy) = dy * dy := q0M (by decide)
 have c6 : IntKind.i64.wrap (dx * dx + dy * dy) = (n : Int) := by rw [hse]; exact q0M (by decide)
 have c7 : IntKind.i64.wrap (w * dy) = w * dy := q0M (by decide)
 have c8 : IntKind.i64.wrap (w * dx) = w * dx := q0M (by decide)
 have b7 : Bd (w * dy) _ := qhZ
 have b8 : Bd (w * dx) _ := qhZ
 have l7 := b7.le
 have l8 := b8.le
 refine q0i (fn := q9g) rfl (q0a ?_)
 refine go 800 rfl ?_
 rw [hdx, hdy, c1, c2, c4, c5, c6]
 refine q00 rfl rfl (qiy n hsq) ?_
 refine go 800 rfl ?_
 rw [c7]
 refine q00 rfl rfl (qbD (w * dy) _ (by omega) (by omega) (by omega) (by omega)) ?_
 refine go 800 rfl ?_
 rw [c8]
 refine q00 rfl rfl (qbD (w * dx) _ (by omega) (by omega) (by omega) (by omega)) ?_
 refine go 800 rfl ?_
 have r1 := qdl (b := (isq n : Int)) (m := 4294967296) (a := w * dy) (by omega) (by omega) (by omega)
 have r2 := qdl (b := (isq n : Int)) (m := 4294967296) (a := w * dx) (by omega) (by omega) (by omega)
 have d1 : IntKind.i64.wrap (sg * q4e (w * dy) (isq n)) = sg * q4e (w * dy) (isq n) := by rcases hs with rfl | rfl <;> exact wrap64 (by omega) (by omega)
 have d2 : IntKind.i64.wrap (0 - sg) = -sg := by rcases hs with rfl | rfl <;> exact wrap64 (by omega) (by omega)
 have d3 : IntKind.i64.wrap (-sg * q4e (w * dx) (isq n)) = -sg * q4e (w * dx) (isq n) := by rcases hs with rfl | rfl <;> exact wrap64 (by omega) (by omega)
 rw [d1, d2, d3]
 refine go 800 rfl ?_
 exact q0c rfl rfl rfl trivial rfl
structure RSeg where
 a : Spot
 b : Spot
 w : Int
 s : Spot
def RSeg.enc (g : RSeg) : D := .agg [.int .i64 g.a.x, .int .i64 g.a.y, .int .i64 g.b.x, .int .i64 g.b.y, .int .i64 g.w, .int .i64 g.s.x, .int .i64 g.s.y]
theorem qaW (s : RSeg) : plain 4 s.enc = true := rfl
theorem qnI (s : RSeg) : dat 4 s.enc = true := rfl
def qhe (e : Edge) (w sg : Int) (j : Nat) : RSeg := ⟨pt e.line j, pt e.line (j + 1), w, qeC (pt e.line j) (pt e.line (j + 1)) (sg * w)⟩
def q39 (e : Edge) (w sg : Int) (m : Nat) : List RSeg := (List.range m).map (qhe e w sg)
def q2G (l : List Edge) (ws : List Int) (sg : Int) : Nat → List RSeg
 | 0 => []
 | k + 1 => q2G l ws sg k ++ q39 (eg l k) (wd ws k) sg ((eg l k).line.length - 1)
theorem qaX (l : List Edge) (ws : List Int) (sg : Int) : ∀ k, k ≤ l.length → (q2G l ws sg k).length = (q0m (l.take k)).length := by
 intro k
 induction k with
 | zero => intro _; simp [q2G, q0m]
 | succ k ih =>
   intro hk
   rw [q2G, q2q (by omega), List.length_append, List.length_append, ih (by omega)]
   simp [q39]
def q3B (l : List Edge) (ws : List Int) : List RSeg × Int :=
 if q0Y l = 0 then
  if ws.length = l.length then
   if ws.any q6r then ([], 3) else (q2G l ws (sg1 (q1b (q0m l))) l.length, 0)
  else ([], 1)
 else ([], q0Y l)
def qoy (r : List RSeg × Int) : D := .tup [.lst (r.1.map RSeg.enc), .int .i64 r.2]
end Go.F

namespace Go.F
attribute [local irreducible] IntKind.wrap wpM
theorem qfi (e : Edge) (w sg : Int) (j : Nat) : (q39 e w sg (j + 1)).map RSeg.enc = (q39 e w sg j).map RSeg.enc ++ [(qhe e w sg j).enc] := by
 unfold q39; rw [List.range_succ, List.map_append, List.map_append]; rfl
set_option maxHeartbeats 4000000 in
theorem qdc (l : List Edge) (ws : List Int) : PU q8W [q0A l, ints ws] = some (qoy (q3B l ws)) := by
 have hpoly := q9J l
 refine q0i (fn := q6c) rfl (q0a ?_)
 refine go 800 rfl ?_
 refine q00 rfl rfl (qbu l) ?_
 refine go 800 rfl ?_
 refine q02 rfl (fun g => ?_) (fun g => ?_)
 ·rw [q17] at g
  refine go 800 rfl ?_
  refine q0c rfl rfl rfl trivial ?_
  rw [q3B, if_neg g]; rfl
 rw [q1j] at g
 have hc : q0Y l = 0 := g
 rw [q9I, if_pos hc] at hpoly
 rw [q3B, if_pos hc]
 obtain ⟨h2, h16, hfe, _, hchk⟩ := q2M hc
 obtain ⟨v3, v40, vok, vin, vs⟩ := q2L hchk
 have hlines := q4D hc
 refine go 800 rfl ?_
 rw [List.length_map, List.length_map]
 refine q02 rfl (fun g => ?_) (fun g => ?_)
 ·rw [q17] at g
  refine go 800 rfl ?_
  refine q0c rfl rfl rfl trivial ?_
  rw [if_neg (by omega)]; rfl
 rw [q1j] at g
 have hwl : ws.length = l.length := by omega
 rw [if_pos hwl]
 refine go 800 rfl ?_
 refine q0x (S := fun k : Nat => ([q0A l, ints ws, q01 k], [none, none, none], [0, 0, 0])) (C := fun k => k ≤ ws.length ∧ ∀ i (hi : i < ws.length), i < k → q6r ws[i] = false) (m := fun k => ws.length - k) 0 ⟨Nat.zero_le _, fun i hi h => by omega⟩ (by omega) ?_ ?_
 ·exact q05 rfl trivial (by simp [q0A, ints, q01])
 intro k ⟨hk, hall⟩ N hN
 refine go 800 rfl ?_
 refine q02 rfl (fun g1 => ?_) (fun g1 => ?_)
 ·rw [q0b, List.length_map] at g1
  have hlt : k < ws.length := by omega
  have w1 : IntKind.i64.wrap ((k : Int) + 1) = ((k + 1 : Nat) : Int) := wrap64 (by omega) (by omega)
  have yes : q6r ws[k] = false → ∀ {t : q0p} {h : q08} {z : Frz} {nx : Nat}, (q0R 0 [(0, 0), (1, 0), (7, 0)] t h z nx fun _ _ kp => kp = ([q0A l, ints ws, q01 ((k + 1 : Nat) : Int)], [none, none, none], [0, 0, 0])) → N t h z nx := by
   intro hb t h z nx hst
   refine hN (k + 1) ⟨by omega, fun i hi hik => ?_⟩ (by omega) hst
   by_cases hik' : i < k
   ·exact hall i hi hik'
   ·obtain rfl : i = k := by omega
    exact hb
  have no : q6r ws[k] = true → ws.any q6r = true := fun hb => List.any_eq_true.2 ⟨_, List.getElem_mem hlt, hb⟩
  clear hN
  refine go 800 rfl ?_
  refine q0y k rfl rfl rfl (q5L hlt) rfl ?_
  refine go 800 rfl ?_
  refine q0g rfl (fun e1 => ?_) (fun e1 => ?_)
  ·rw [q0b] at e1
   repeat' (first
    | (refine goP 800 rfl rfl ?_)
    | (show wpM _ _ _ (Fr.ops _ _ (KOper.mk _ _ (some _) _ _ :: _) :: _) Ex.normal _ _ _ _ _; first | refine q0q rfl ?_ | refine q0s rfl ?_ | refine q0g rfl (fun _ => ?_) (fun _ => ?_))
    | (show wpM _ _ _ (Fr.code (K.cond _ _ _) :: _) Ex.normal _ _ _ _ _; first | refine q0r rfl ?_ | refine q0o rfl ?_ | refine q02 rfl (fun _ => ?_) (fun _ => ?_))
    | (show wpM _ _ _ (Fr.ops _ _ (KOper.mk _ _ none _ (KOp.pick _ _ _) :: _) :: _) Ex.normal _ _ _ _ _; refine q0F rfl (fun _ => ?_) (fun _ => ?_))
    | (show wpM _ _ _ [] _ _ _ _ _ _; refine q0c rfl rfl rfl trivial ?_))
   refine q09 ?_
   refine go 800 rfl ?_
   refine q0c rfl rfl rfl trivial ?_
   rw [if_pos (no (by simp [q6r, e1]))]; rfl
  ·rw [q0d] at e1
   refine go 800 rfl ?_
   refine q0y k rfl rfl rfl (q5L hlt) rfl ?_
   refine go 800 rfl ?_
   refine q02 rfl (fun e2 => ?_) (fun e2 => ?_)
   ·rw [q0b] at e2
    refine go 800 rfl ?_
    refine q09 ?_
    refine go 800 rfl ?_
    refine q0c rfl rfl rfl trivial ?_
    rw [if_pos (no (by simp [q6r, e2]))]; rfl
   ·rw [q0d] at e2
    refine go 800 rfl ?_
    refine q09 ?_
    exact yes (by simp [q6r]; omega) (q05 rfl trivial (by simp [q0A, ints, q01, w1]))
 rw [q0d, List.length_map] at g1
 clear hN
 have hgood : ws.any q6r = false := by
  rw [List.any_eq_false]
  intro x hx
  obtain ⟨i, hi, rfl⟩ := List.getElem_of_mem hx
  rw [hall i hi (by omega)]; decide
 rw [if_neg (by rw [hgood]; decide)]
 have hwd : ∀ i, i < ws.length → 0 ≤ wd ws i ∧ wd ws i ≤ 500 := fun i hi => by
  have : wd ws i = ws[i] := by simp [wd, hi]
  rw [this]; exact qbw (hall i hi (by omega))
 refine go 800 rfl ?_
 refine q09 ?_
 refine go 800 rfl ?_
 refine q00 rfl rfl hpoly ?_
 refine go 800 rfl ?_
 refine q00 rfl rfl (q45 (q0m l)) ?_
 refine go 800 rfl ?_
 have hsg := qnH (q1b (q0m l))
 have hlen := qaX l ws (sg1 (q1b (q0m l)))
 have hvl : ∀ k, (q0m (l.take k)).length ≤ 40 := fun k => Nat.le_trans (q9H k) v40
 generalize sg1 (q1b (q0m l)) = sg at *
 refine q0x (S := fun k : Nat => ([q0A l, ints ws, .int .i64 sg, .ref 3 0 (q2G l ws sg k).length, q01 k], [none, none, none, some (.row ((q2G l ws sg k).map RSeg.enc) 7), none], [0, 0, 0, 0, 0])) (C := fun k => k ≤ l.length) (m := fun k => l.length - k) 0 (Nat.zero_le _) (by omega) ?_ ?_
 ·exact q05 rfl ⟨rfl, trivial⟩ (by simp [q0A, ints, q01, q2G])
 intro k hk N hN
 refine go 800 rfl ?_
 refine q02 rfl (fun g1 => ?_) (fun g1 => ?_)
 ·rw [q0b, List.length_map] at g1
  have hlt : k < l.length := by omega
  have w1 : IntKind.i64.wrap ((k : Int) + 1) = ((k + 1 : Nat) : Int) := wrap64 (by omega) (by omega)
  have hcl := q6o (q4b hfe hlt)
  obtain ⟨l2, l40, _⟩ := q5X hcl
  have hk0 := hlen k (by omega)
  have hk1 := hlen (k + 1) (by omega)
  have := hvl k
  have hv1 := hvl (k + 1)
  have hww := hwd k (by omega)
  refine go 800 rfl ?_
  refine q0x (S := fun j : Nat => ([q0A l, ints ws, .int .i64 sg, .ref 3 0 ((q2G l ws sg k).length + j), q01 k, q01 j], [none, none, none, some (.row ((q2G l ws sg k ++ q39 (eg l k) (wd ws k) sg j).map RSeg.enc) 7), none, none], [0, 0, 0, 0, 0, 0])) (C := fun j => j ≤ (eg l k).line.length - 1) (m := fun j => (eg l k).line.length - j) 0 (Nat.zero_le _) (by omega) ?_ ?_
  ·exact q05 rfl ⟨q07 qaW _, trivial⟩ (by simp [q0A, ints, q01, q39])
  intro j hj N2 hN2
  have wj : IntKind.i64.wrap ((j : Int) + 1) = ((j + 1 : Nat) : Int) := wrap64 (by omega) (by omega)
  refine go 800 rfl ?_
  refine q0y k rfl rfl rfl (q2Q hlt) rfl ?_
  refine go 800 rfl ?_
  refine q02 rfl (fun e1 => ?_) (fun e1 => ?_)
  ·rw [q0b, List.length_map, wj] at e1
   have hjl : j + 1 < (eg l k).line.length := by omega
   have hstep := qfi (eg l k) (wd ws k) sg j
   refine go 800 rfl ?_
   refine q0y k rfl rfl rfl (q2Q hlt) rfl ?_
   refine go 800 rfl ?_
   refine q0y j rfl rfl rfl (q0Q (by omega)) rfl ?_
   refine go 800 rfl ?_
   refine q0y k rfl rfl rfl (q2Q hlt) rfl ?_
   refine go 800 rfl ?_
   refine q0y (j + 1) rfl rfl wj (q0Q hjl) rfl ?_
   refine go 800 rfl ?_
   refine q0y k rfl rfl rfl (qey (by omega)) rfl ?_
   refine go 800 rfl ?_
   refine q0y k rfl rfl rfl (qey (by omega)) rfl ?_
   refine go 800 rfl ?_
   refine q00 rfl rfl (qhd (pt (eg l k).line j) (pt (eg l k).line (j + 1)) (wd ws k) sg (qox hcl hjl) (qkJ hcl (by omega)) (qkJ hcl hjl) hww hsg) ?_
   refine go 800 rfl ?_
   refine q2w rfl rfl rfl rfl rfl rfl (by simp [q39]) (Nat.zero_le _) (by simp [q0O, q39]; omega) ?_
   refine go 800 rfl ?_
   refine q09 ?_
   refine hN2 (j + 1) (by omega) (by omega) (q05 rfl ⟨?_, trivial⟩ ?_)
   ·rw [List.all_append, q07 qaW]; rfl
   ·rw [List.map_append, List.map_append, hstep, ← List.append_assoc]
    simp [q0A, ints, q01, wj, RSeg.enc, qhe]
    omega
  rw [q0d, List.length_map, wj] at e1
  clear hN2
  obtain rfl : j = (eg l k).line.length - 1 := by omega
  refine go 800 rfl ?_
  refine q09 ?_
  refine go 800 rfl ?_
  refine q09 ?_
  refine hN (k + 1) hlt (by omega) (q05 rfl ⟨q07 qaW _, trivial⟩ ?_)
  simp [q0A, ints, q01, w1, q2G, q39]
 rw [q0d, List.length_map] at g1
 obtain rfl : k = l.length := by omega
 refine go 800 rfl ?_
 refine q09 ?_
 refine go 800 rfl ?_
 refine q0c rfl rfl rfl ⟨qci (by simp) (q2U qnI _), trivial⟩ ?_
 rw [qaR (by simp)]; rfl
theorem qoz {l : List Edge} (hc : q0Y l = 0) (ws : List Int) (sg : Int) : ∀ k, k ≤ l.length →
 q2G l ws sg k = (List.range (q0m (l.take k)).length).map (fun i => ⟨pt (q0m l) i, pt (q0m l) ((i + 1) % (q0m l).length), wd (q1I l ws l.length) i, q2V (q0m l) (q1I l ws l.length) sg i⟩) := by
 intro k
 induction k with
 | zero => intro _; simp [q2G, q0m]
 | succ k ih =>
   intro hk
   rw [q2G, ih (by omega), q2q (by omega), List.length_append, List.range_add, List.map_append, List.map_map]
   congr 1
   unfold q39
   rw [List.length_dropLast]
   refine List.map_congr_left fun j hj => ?_
   have hj : j + 1 < (eg l k).line.length := by have := List.mem_range.1 hj; omega
   simp only [Function.comp, q2V, qbC (by omega : k < l.length) hj, qk2 hc (by omega : k < l.length) hj, qow l ws l.length (Nat.le_refl _) k (by omega) j hj]
   rfl
theorem qeR {l : List Edge} (hc : q0Y l = 0) (ws : List Int) (sg : Int) :
 q2G l ws sg l.length = (List.range (q0m l).length).map (fun i => ⟨pt (q0m l) i, pt (q0m l) ((i + 1) % (q0m l).length), wd (q1I l ws l.length) i, q2V (q0m l) (q1I l ws l.length) sg i⟩) := by
 have := qoz hc ws sg l.length (Nat.le_refl _)
 rw [List.take_length] at this
 exact this
theorem qiz (l : List Edge) (ws : List Int) : q0X l ws = ((q3B l ws).1.map RSeg.s, (q3B l ws).2) := by
 unfold q0X q3B
 split
 ·rename_i hc
  obtain ⟨_, _, _, _, hchk⟩ := q2M hc
  split
  ·split
   ·rfl
   ·rw [qhc (qeQ hchk), qeR hc, List.map_map]; rfl
  ·rfl
 ·rfl
end Go.F

namespace Go.F
attribute [local irreducible] IntKind.wrap wpM
theorem qbE (x : Int) (hx1 : -9223372036854775808 ≤ x) (hx2 : x ≤ 9223372036854775807) : PU q90 [.int .i64 x] = some (q5N (x : Rat)) := by
 have r1 := qlF x 1 hx1 hx2 (by decide) (by decide)
 rw [qbo] at r1
 refine q0i (fn := q9j) rfl (q0a ?_)
 refine go 800 rfl ?_
 refine q00 rfl rfl r1 ?_
 refine go 800 rfl ?_
 exact q0c rfl rfl rfl trivial rfl
theorem qm4 (x y : Int) (hx1 : -9223372036854775808 ≤ x) (hx2 : x ≤ 9223372036854775807) (hy1 : -9223372036854775808 ≤ y) (hy2 : y ≤ 9223372036854775807) : PU qhU [.int .i64 x, .int .i64 y] = some (qcg ⟨x, y⟩) := by
 refine q0i (fn := qe6) rfl (q0a ?_)
 refine go 800 rfl ?_
 refine q00 rfl rfl (qbE x hx1 hx2) ?_
 refine go 800 rfl ?_
 refine q00 rfl rfl (qbE y hy1 hy2) ?_
 refine go 800 rfl ?_
 exact q0c rfl rfl rfl trivial rfl
theorem qk3 (a b : RP) {j k : Nat} [ha : SzP a j] [hb : SzP b k] (hj : j ≤ 100000) (hk : k ≤ 100000) : PU qfQ [a.enc, b.enc] = some (qcg (qbn a.v b.v)) := by
 refine q0i (fn := qc2) rfl (q0a ?_)
 refine go 800 rfl ?_
 refine q00 rfl rfl (qaP a.x b.x (by omega) (by omega)) ?_
 refine go 800 rfl ?_
 refine q00 rfl rfl (qaP a.y b.y (by omega) (by omega)) ?_
 refine go 800 rfl ?_
 exact q0c rfl rfl rfl trivial rfl
theorem q6u (a b : RP) {j k : Nat} [ha : SzP a j] [hb : SzP b k] (hj : j ≤ 100000) (hk : k ≤ 100000) : PU q5V [a.enc, b.enc] = some (qcg (q12 a.v b.v)) := by
 refine q0i (fn := qbX) rfl (q0a ?_)
 refine go 800 rfl ?_
 refine q00 rfl rfl (q8a a.x b.x (by omega) (by omega)) ?_
 refine go 800 rfl ?_
 refine q00 rfl rfl (q8a a.y b.y (by omega) (by omega)) ?_
 refine go 800 rfl ?_
 exact q0c rfl rfl rfl trivial rfl
theorem qhf (a : RP) (r : RR) {j k : Nat} [ha : SzP a j] [hb : SzR r k] (hj : j ≤ 100000) (hk : k ≤ 100000) : PU qcJ [a.enc, r.enc] = some (qcg (q3q a.v r.v)) := by
 refine q0i (fn := q9x) rfl (q0a ?_)
 refine go 800 rfl ?_
 refine q00 rfl rfl (q8b a.x r (by omega) (by omega)) ?_
 refine go 800 rfl ?_
 refine q00 rfl rfl (q8b a.y r (by omega) (by omega)) ?_
 refine go 800 rfl ?_
 exact q0c rfl rfl rfl trivial rfl
theorem qbF (a b : RP) {j k : Nat} [ha : SzP a j] [hb : SzP b k] (hj : j ≤ 10000) (hk : k ≤ 10000) : PU q94 [a.enc, b.enc] = some (q5N (q3r a.v b.v)) := by
 have s := q8a (RR.of (a.x.v * b.y.v)) (RR.of (a.y.v * b.x.v)) (by omega) (by omega)
 rw [RR.of_v, RR.of_v] at s
 refine q0i (fn := q9o) rfl (q0a ?_)
 refine go 800 rfl ?_
 refine q00 rfl rfl (q8b a.x b.y (by omega) (by omega)) ?_
 refine go 800 rfl ?_
 refine q00 rfl rfl (q8b a.y b.x (by omega) (by omega)) ?_
 refine go 800 rfl ?_
 refine q00 rfl rfl s ?_
 refine go 800 rfl ?_
 exact q0c rfl rfl rfl trivial rfl
theorem qm5 (a b : RP) (t : RR) {i j k : Nat} [ha : SzP a i] [hb : SzP b j] [ht : SzR t k] (hi : i ≤ 10000) (hj : j ≤ 10000) (hk : k ≤ 10000) : PU qhV [a.enc, b.enc, t.enc] = some (qcg (onP a.v b.v t.v)) := by
 have s := qhf (RP.of (q12 b.v a.v)) t (by omega) (by omega)
 rw [RP.of_v] at s
 have d := qk3 a (RP.of (q3q (q12 b.v a.v) t.v)) (by omega) (by omega)
 rw [RP.of_v] at d
 refine q0i (fn := qe8) rfl (q0a ?_)
 refine go 800 rfl ?_
 refine q00 rfl rfl (q6u b a (by omega) (by omega)) ?_
 refine go 800 rfl ?_
 refine q00 rfl rfl s ?_
 refine go 800 rfl ?_
 refine q00 rfl rfl d ?_
 refine go 800 rfl ?_
 exact q0c rfl rfl rfl trivial rfl
theorem qiA (a b c d : RP) {k : Nat} [ha : SzP a k] [hb : SzP b k] [hc : SzP c k] [hd : SzP d k] (hk : k ≤ 100) : PU qdZ [a.enc, b.enc, c.enc, d.enc] = some (qky (q8u a.v b.v c.v d.v)) := by
 have c1 := qbF (RP.of (q12 c.v a.v)) (RP.of (q12 d.v c.v)) (by omega) (by omega)
 have c2 := qbF (RP.of (q12 b.v a.v)) (RP.of (q12 d.v c.v)) (by omega) (by omega)
 rw [RP.of_v, RP.of_v] at c1 c2
 have dv := qjK (RR.of (q3r (q12 c.v a.v) (q12 d.v c.v))) (RR.of (q3r (q12 b.v a.v) (q12 d.v c.v))) (by omega) (by omega)
 rw [RR.of_v, RR.of_v] at dv
 refine q0i (fn := qax) rfl (q0a ?_)
 refine go 800 rfl ?_
 refine q00 rfl rfl (q6u c a (by omega) (by omega)) ?_
 refine go 800 rfl ?_
 refine q00 rfl rfl (q6u d c (by omega) (by omega)) ?_
 refine go 800 rfl ?_
 refine q00 rfl rfl c1 ?_
 refine go 800 rfl ?_
 refine q00 rfl rfl (q6u b a (by omega) (by omega)) ?_
 refine go 800 rfl ?_
 refine q00 rfl rfl (q6u d c (by omega) (by omega)) ?_
 refine go 800 rfl ?_
 refine q00 rfl rfl c2 ?_
 refine go 800 rfl ?_
 by_cases h0 : q3r (q12 b.v a.v) (q12 d.v c.v) = 0
 ·rw [if_pos h0] at dv
  refine q00 rfl rfl dv ?_
  refine go 800 rfl ?_
  refine q0r rfl ?_
  refine go 800 rfl ?_
  refine q0c rfl rfl rfl trivial ?_
  rw [q8u, if_pos h0]; rfl
 ·rw [if_neg h0] at dv
  have o := qm5 a b (RR.of (q3r (q12 c.v a.v) (q12 d.v c.v) / q3r (q12 b.v a.v) (q12 d.v c.v))) (by omega) (by omega) (by omega)
  rw [RR.of_v] at o
  refine q00 rfl rfl dv ?_
  refine go 800 rfl ?_
  refine q0o rfl ?_
  refine go 800 rfl ?_
  refine q00 rfl rfl o ?_
  refine go 800 rfl ?_
  refine q0c rfl rfl rfl trivial ?_
  rw [q8u, if_neg h0]; rfl
theorem q2d (a b : Spot) [MidS a] [MidS b] : PU q4O [a.enc, b.enc] = some (q1E a b).enc := by
 have c1 : IntKind.i64.wrap (a.x + b.x) = a.x + b.x := q0M (by decide)
 have c2 : IntKind.i64.wrap (a.y + b.y) = a.y + b.y := q0M (by decide)
 refine q0i (fn := qbT) rfl (q0a ?_)
 refine go 800 rfl ?_
 rw [c1, c2]
 exact q0c rfl rfl rfl trivial rfl
theorem qa4 (s : Spot) [h : MidS s] : PU q8Y [s.enc] = some (qcg (qp s)) := by
 have h1 := h.bx
 have h2 := h.byy
 refine q0i (fn := qe7) rfl (q0a ?_)
 refine go 800 rfl ?_
 refine q00 rfl rfl (qm4 s.x s.y (by omega) (by omega) (by omega) (by omega)) ?_
 refine go 800 rfl ?_
 exact q0c rfl rfl rfl trivial rfl
def qai (q : Rat) (v m : Int) : Bool := decide (-m ≤ q11 (q - (v : Rat)) ∧ q11 (q - (v : Rat)) ≤ m)
theorem qcZ (r : RR) (v m : Int) {k : Nat} [h : SzR r k] (hk : k ≤ 10000) (hv1 : -1099511627776 ≤ v) (hv2 : v ≤ 1099511627776) (hm0 : 0 ≤ m) (hm : m ≤ 10000) :
 PU q7N [r.enc, .int .i64 v, .int .i64 m] = some (if qai r.v v m then .tup [.int .i64 (v + q11 (r.v - (v : Rat))), .bool true] else .tup [.int .i64 0, .bool false]) := by
 have qv : QB (v : Rat) 2 := qjG (by omega) (by omega)
 have sb := q8a r (RR.of (v : Rat)) (by omega) (by omega)
 rw [RR.of_v] at sb
 have rd := qgU (RR.of (r.v - (v : Rat))) (by omega)
 rw [RR.of_v] at rd
 have s1 := qgS (RI.of (q11 (r.v - (v : Rat)))) (by omega)
 rw [RI.of_v] at s1
 have wm : IntKind.i64.wrap (0 - m) = -m := by rw [wrap64 (by omega) (by omega)]; omega
 have hb : qai r.v v m = decide (-m ≤ q11 (r.v - (v : Rat)) ∧ q11 (r.v - (v : Rat)) ≤ m) := rfl
 rw [hb]
 refine q0i (fn := qay) rfl (q0a ?_)
 refine go 800 rfl ?_
 refine q00 rfl rfl (qbp v (by omega) (by omega)) ?_
 refine go 800 rfl ?_
 refine q00 rfl rfl sb ?_
 refine go 800 rfl ?_
 refine q00 rfl rfl rd ?_
 refine go 800 rfl ?_
 generalize q11 (r.v - (v : Rat)) = z at *
 by_cases hz : -9223372036854775808 ≤ z ∧ z ≤ 9223372036854775807
 ·rw [q77, if_pos hz] at s1
  refine q00 rfl rfl s1 ?_
  refine go 800 rfl ?_
  refine q0s rfl ?_
  refine go 800 rfl ?_
  refine q0g rfl (fun g1 => ?_) (fun g1 => ?_)
  ·rw [q0b] at g1
   refine go 800 rfl ?_
   refine q0r rfl ?_
   refine go 800 rfl ?_
   refine q0c rfl rfl rfl trivial ?_
   rw [if_neg (by simp; omega)]
  rw [q0d] at g1
  refine go 800 rfl ?_
  rw [wm]
  refine q02 rfl (fun g2 => ?_) (fun g2 => ?_)
  ·rw [q0b] at g2
   refine go 800 rfl ?_
   refine q0c rfl rfl rfl trivial ?_
   rw [if_neg (by simp; omega)]
  rw [q0d] at g2
  have w2 : IntKind.i64.wrap (v + z) = v + z := wrap64 (by omega) (by omega)
  refine go 800 rfl ?_
  rw [w2]
  refine q0c rfl rfl rfl trivial ?_
  rw [if_pos (by simp; omega)]
 ·rw [q77, if_neg hz] at s1
  refine q00 rfl rfl s1 ?_
  repeat' (first
   | (refine goP 800 rfl rfl ?_)
   | (show wpM _ _ _ (Fr.ops _ _ (KOper.mk _ _ (some _) _ _ :: _) :: _) Ex.normal _ _ _ _ _; first | refine q0q rfl ?_ | refine q0s rfl ?_ | refine q0g rfl (fun _ => ?_) (fun _ => ?_))
   | (show wpM _ _ _ (Fr.code (K.cond _ _ _) :: _) Ex.normal _ _ _ _ _; first | refine q0r rfl ?_ | refine q0o rfl ?_ | refine q02 rfl (fun _ => ?_) (fun _ => ?_))
   | (show wpM _ _ _ (Fr.ops _ _ (KOper.mk _ _ none _ (KOp.pick _ _ _) :: _) :: _) Ex.normal _ _ _ _ _; refine q0F rfl (fun _ => ?_) (fun _ => ?_))
   | (show wpM _ _ _ [] _ _ _ _ _ _; refine q0c rfl rfl rfl trivial ?_))
  rw [if_neg (by simp; omega)]
def RSeg.mv (g : RSeg) : Seg := ⟨q1E g.a g.s, q1E g.b g.s, g.w⟩
class RSegOk (g : RSeg) : Prop where
 a : OkS g.a
 b : OkS g.b
 s : g.s.x.natAbs ≤ 4294967296 ∧ g.s.y.natAbs ≤ 4294967296
 w0 : 0 ≤ g.w
 w1 : g.w ≤ 500
theorem qhg {s : Spot} (h : OkS s) : MidS s := ⟨by have := h.bx; omega, by have := h.byy; omega⟩
set_option maxHeartbeats 2000000 in
theorem qfj (a b : RSeg) [ha : RSegOk a] [hb : RSegOk b] : PU qbc [a.enc, b.enc] = some (q0k (q3k b.a a.mv b.mv)) := by
 have oa := ha.a
 have ob := ha.b
 have oc := hb.a
 have od := hb.b
 have sa := ha.s
 have sb := hb.s
 have ma : MidS a.a := qhg oa
 have mb : MidS a.b := qhg ob
 have mc : MidS b.a := qhg oc
 have md : MidS b.b := qhg od
 have ms : MidS a.s := ⟨by omega, by omega⟩
 have mt : MidS b.s := ⟨by omega, by omega⟩
 have oa1 := oa.bx; have oa2 := oa.byy; have ob1 := ob.bx; have ob2 := ob.byy
 have oc1 := oc.bx; have oc2 := oc.byy; have od1 := od.bx; have od2 := od.byy
 have m1 : MidS (q1E a.a a.s) := ⟨by simp only [q1E]; omega, by simp only [q1E]; omega⟩
 have m2 : MidS (q1E a.b a.s) := ⟨by simp only [q1E]; omega, by simp only [q1E]; omega⟩
 have m3 : MidS (q1E b.a b.s) := ⟨by simp only [q1E]; omega, by simp only [q1E]; omega⟩
 have m4 : MidS (q1E b.b b.s) := ⟨by simp only [q1E]; omega, by simp only [q1E]; omega⟩
 have a0 := ha.w0
 have a1 := ha.w1
 have b0 := hb.w0
 have b1 := hb.w1
 have hm := qiA (RP.of (qp (q1E a.a a.s))) (RP.of (qp (q1E a.b a.s))) (RP.of (qp (q1E b.a b.s))) (RP.of (qp (q1E b.b b.s))) (by decide)
 rw [RP.of_v, RP.of_v, RP.of_v, RP.of_v] at hm
 have w1 : IntKind.i64.wrap (4 * max a.w b.w) = 4 * max a.w b.w := wrap64 (by omega) (by omega)
 have w2 : IntKind.i64.wrap (4 * max a.w b.w + 4) = 4 * max a.w b.w + 4 := wrap64 (by omega) (by omega)
 have hmv : ∀ x : Option QP, q8u (qp (q1E a.a a.s)) (qp (q1E a.b a.s)) (qp (q1E b.a b.s)) (qp (q1E b.b b.s)) = x → q3k b.a a.mv b.mv = match x with
  | none => [q1E a.b a.s, q1E b.a b.s]
  | some m => if (q3m (q12 m (qp b.a))).2 = 0 ∧ q0v (q3m (q12 m (qp b.a))).1 (4 * max a.w b.w + 4) = true then [q1E b.a (q3m (q12 m (qp b.a))).1] else [q1E a.b a.s, q1E b.a b.s] := by
  intro x hx
  unfold q3k RSeg.mv
  simp only [hx]
  cases x <;> rfl
 refine q0i (fn := q7T) rfl (q0a ?_)
 refine go 800 rfl ?_
 refine q00 rfl rfl (q2d a.a a.s) ?_
 refine go 800 rfl ?_
 refine q00 rfl rfl (qa4 (q1E a.a a.s)) ?_
 refine go 800 rfl ?_
 refine q00 rfl rfl (q2d a.b a.s) ?_
 refine go 800 rfl ?_
 refine q00 rfl rfl (qa4 (q1E a.b a.s)) ?_
 refine go 800 rfl ?_
 refine q00 rfl rfl (q2d b.a b.s) ?_
 refine go 800 rfl ?_
 refine q00 rfl rfl (qa4 (q1E b.a b.s)) ?_
 refine go 800 rfl ?_
 refine q00 rfl rfl (q2d b.b b.s) ?_
 refine go 800 rfl ?_
 refine q00 rfl rfl (qa4 (q1E b.b b.s)) ?_
 refine go 800 rfl ?_
 rw [w1, w2]
 cases hq : q8u (qp (q1E a.a a.s)) (qp (q1E a.b a.s)) (qp (q1E b.a b.s)) (qp (q1E b.b b.s)) with
 | none =>
   rw [hq] at hm
   rw [hmv none hq]
   refine q00 rfl rfl hm ?_
   refine go 800 rfl ?_
   refine q02 rfl (fun g => ?_) (fun g => ?_)
   ·rw [q26] at g; cases g
   refine go 800 rfl ?_
   refine q00 rfl rfl (q2d a.b a.s) ?_
   refine go 800 rfl ?_
   refine q00 rfl rfl (q2d b.a b.s) ?_
   refine go 800 rfl ?_
   exact q0c rfl rfl rfl ⟨q3A (l := [q1E a.b a.s, q1E b.a b.s]) rfl, trivial⟩ rfl
 | some m =>
   rw [hq] at hm
   rw [hmv (some m) hq]
   have hqm : QPB m 50 := by
    unfold q8u at hq
    split at hq
    ·cases hq
    ·cases hq; exact inferInstance
   have n1 := qcZ (RR.of m.x) b.a.x (4 * max a.w b.w + 4) (by decide) (by omega) (by omega) (by omega) (by omega)
   have n2 := qcZ (RR.of m.y) b.a.y (4 * max a.w b.w + 4) (by decide) (by omega) (by omega) (by omega) (by omega)
   rw [RR.of_v] at n1 n2
   have ex : (q12 m (qp b.a)).x = m.x - (b.a.x : Rat) := rfl
   have ey : (q12 m (qp b.a)).y = m.y - (b.a.y : Rat) := rfl
   have hgd : (q3m (q12 m (qp b.a))).2 = 0 ∧ q0v (q3m (q12 m (qp b.a))).1 (4 * max a.w b.w + 4) = true ↔ qai m.x b.a.x (4 * max a.w b.w + 4) = true ∧ qai m.y b.a.y (4 * max a.w b.w + 4) = true := by
    unfold q3m qai
    rw [ex, ey]
    generalize q11 (m.x - (b.a.x : Rat)) = X
    generalize q11 (m.y - (b.a.y : Rat)) = Y
    by_cases hin : (q89 X && q89 Y) = true
    ·rw [if_pos hin]
     rw [decide_eq_true_eq, decide_eq_true_eq, q6F]
     simp only [true_and]
     omega
    ·rw [if_neg hin]
     rw [Bool.and_eq_true, q37, q37] at hin
     rw [decide_eq_true_eq, decide_eq_true_eq]
     constructor
     ·rintro ⟨h1, _⟩; cases h1
     ·intro h1; exact absurd ⟨⟨by omega, by omega⟩, ⟨by omega, by omega⟩⟩ hin
   have hgv : qai m.x b.a.x (4 * max a.w b.w + 4) = true → qai m.y b.a.y (4 * max a.w b.w + 4) = true → q1E b.a (q3m (q12 m (qp b.a))).1 = ⟨b.a.x + q11 (m.x - (b.a.x : Rat)), b.a.y + q11 (m.y - (b.a.y : Rat))⟩ := by
    intro h1 h2
    unfold qai at h1 h2
    rw [decide_eq_true_eq] at h1 h2
    unfold q3m
    rw [ex, ey, if_pos (by rw [Bool.and_eq_true, q37, q37]; omega)]
    rfl
   generalize qai m.x b.a.x (4 * max a.w b.w + 4) = B1 at *
   generalize qai m.y b.a.y (4 * max a.w b.w + 4) = B2 at *
   simp only
   refine q00 rfl rfl hm ?_
   refine go 800 rfl ?_
   refine q02 rfl (fun _ => ?_) (fun g => absurd rfl (q2g.1 g))
   refine go 800 rfl ?_
   cases B1 with
   | true =>
     rw [if_pos rfl] at n1
     refine q00 rfl rfl n1 ?_
     refine go 800 rfl ?_
     cases B2 with
     | true =>
       rw [if_pos rfl] at n2
       refine q00 rfl rfl n2 ?_
       refine go 800 rfl ?_
       refine q0q rfl ?_
       refine go 800 rfl ?_
       refine q0r rfl ?_
       refine go 800 rfl ?_
       refine q0c rfl rfl rfl ⟨q3A (l := [⟨b.a.x + q11 (m.x - (b.a.x : Rat)), b.a.y + q11 (m.y - (b.a.y : Rat))⟩]) rfl, trivial⟩ ?_
       rw [if_pos (hgd.2 ⟨rfl, rfl⟩), hgv rfl rfl]; rfl
     | false =>
       rw [if_neg (by decide)] at n2
       refine q00 rfl rfl n2 ?_
       refine go 800 rfl ?_
       refine q0q rfl ?_
       refine go 800 rfl ?_
       refine q0o rfl ?_
       refine go 800 rfl ?_
       refine q00 rfl rfl (q2d a.b a.s) ?_
       refine go 800 rfl ?_
       refine q00 rfl rfl (q2d b.a b.s) ?_
       refine go 800 rfl ?_
       refine q0c rfl rfl rfl ⟨q3A (l := [q1E a.b a.s, q1E b.a b.s]) rfl, trivial⟩ ?_
       rw [if_neg (fun h => by have := (hgd.1 h).2; cases this)]; rfl
   | false =>
     rw [if_neg (by decide)] at n1
     refine q00 rfl rfl n1 ?_
     refine go 800 rfl ?_
     have fin : ∀ x, some x = some (if B2 = true then D.tup [.int .i64 (b.a.y + q11 (m.y - (b.a.y : Rat))), .bool true] else .tup [.int .i64 0, .bool false]) → x = D.tup [.int .i64 (if B2 then b.a.y + q11 (m.y - (b.a.y : Rat)) else 0), .bool B2] := by
      intro x hx
      cases B2 <;> simpa using hx
     have n2' : PU q7N [(RR.of m.y).enc, .int .i64 b.a.y, .int .i64 (4 * max a.w b.w + 4)] = some (D.tup [.int .i64 (if B2 then b.a.y + q11 (m.y - (b.a.y : Rat)) else 0), .bool B2]) := by
      rw [n2]; cases B2 <;> rfl
     refine q00 rfl rfl n2' ?_
     refine go 800 rfl ?_
     refine q0s rfl ?_
     refine go 800 rfl ?_
     refine q0o rfl ?_
     refine go 800 rfl ?_
     refine q00 rfl rfl (q2d a.b a.s) ?_
     refine go 800 rfl ?_
     refine q00 rfl rfl (q2d b.a b.s) ?_
     refine go 800 rfl ?_
     refine q0c rfl rfl rfl ⟨q3A (l := [q1E a.b a.s, q1E b.a b.s]) rfl, trivial⟩ ?_
     rw [if_neg (fun h => by have := (hgd.1 h).1; cases this)]; rfl
end Go.F

namespace Go.F
attribute [local irreducible] IntKind.wrap wpM
theorem qnJ (l : List Spot) : ∀ k, 0 < k → 0 < l.length → 0 < ((l.take k).foldl q19 []).length := by
 intro k hk hl
 cases l with
 | nil => simp at hl
 | cons a t =>
   obtain ⟨m, rfl⟩ : ∃ m, k = m + 1 := ⟨k - 1, by omega⟩
   rw [List.take_succ_cons, List.foldl_cons]
   have key : ∀ (l out : List Spot), 0 < out.length → 0 < (l.foldl q19 out).length := by
    intro l
    induction l with
    | nil => intro out h; exact h
    | cons b l ih =>
      intro out h
      rw [List.foldl_cons]
      refine ih _ ?_
      unfold q19; split
      ·rw [List.length_append]; omega
      ·exact h
   exact key _ _ (by simp [q19])
set_option maxHeartbeats 2000000 in
theorem qiB (l : List Spot) (hl : l.length ≤ 1000) : PU qdV [q0k l] = some (q0k ((q2e l).take (q4H (q2e l) (q2e l).length))) := by
 have hfl : ∀ k, ((l.take k).foldl q19 []).length ≤ 1000 := fun k => by
  have := qa2 (l.take k) []
  simp at *; omega
 refine q0i (fn := qav) rfl (q0a ?_)
 refine go 800 rfl ?_
 refine q0x (S := fun k : Nat => ([q0k l, .ref 1 0 ((l.take k).foldl q19 []).length, q01 k], [none, some (.row (((l.take k).foldl q19 []).map Spot.enc) 2), none], [0, 0, 0])) (C := fun k => k ≤ l.length) (m := fun k => l.length - k) 0 (Nat.zero_le _) (by omega) ?_ ?_
 ·exact q05 rfl ⟨rfl, trivial⟩ (by simp [q0k, q01])
 intro k hk N hN
 refine go 800 rfl ?_
 rw [List.length_map]
 refine q02 rfl (fun g => ?_) (fun g => ?_)
 ·rw [q0b] at g
  have hlt : k < l.length := by omega
  have w1 : IntKind.i64.wrap ((k : Int) + 1) = ((k + 1 : Nat) : Int) := wrap64 (by omega) (by omega)
  have hstep := qeG hlt []
  have hfk := hfl k
  have hpos := qnJ l k
  generalize hO : (l.take k).foldl q19 [] = O at *
  have next : ∀ {t : q0p} {h : q08} {z : Frz} {nx : Nat}, (q0R 0 [(0, 0), (3, 2), (4, 0)] t h z nx fun _ _ kp => kp = ([q0k l, .ref 1 0 (q19 O (pt l k)).length, q01 ((k + 1 : Nat) : Int)], [none, some (.row ((q19 O (pt l k)).map Spot.enc) 2), none], [0, 0, 0])) → N t h z nx := by
   intro t h z nx hst
   refine hN (k + 1) hlt (by omega) ?_
   rw [hstep]; exact hst
  clear hN
  refine go 800 rfl ?_
  refine q0g rfl (fun e1 => ?_) (fun e1 => ?_)
  ·rw [q26] at e1
   obtain rfl : k = 0 := by omega
   have hO0 : O = [] := by rw [← hO]; rfl
   subst hO0
   have hpush : q19 [] (pt l 0) = [] ++ [pt l 0] := by rw [q19, if_pos (.inl rfl)]
   refine go 800 rfl ?_
   refine q0r rfl ?_
   refine go 800 rfl ?_
   refine q0y 0 rfl rfl rfl (q0Q hlt) rfl ?_
   refine go 800 rfl ?_
   refine q2w rfl rfl rfl rfl rfl rfl (by simp) (Nat.zero_le _) (by simp [q0O]) ?_
   refine go 800 rfl ?_
   refine q09 ?_
   refine next (q05 rfl ⟨rfl, trivial⟩ ?_)
   rw [hpush]; simp [q0k, q01, w1, Spot.enc]
   exact w1
  ·rw [q2g] at e1
   have hO0 := hpos (by omega) (by omega)
   have wl : IntKind.i64.wrap ((O.length : Int) - 1) = ((O.length - 1 : Nat) : Int) := by rw [wrap64 (by omega) (by omega)]; omega
   have hlast : O[O.length - 1]? = some (q8w O) := by rw [q8w, q1f (by omega)]; exact List.getElem?_eq_getElem (by omega)
   refine go 800 rfl ?_
   refine q0y k rfl rfl rfl (q0Q hlt) rfl ?_
   refine go 800 rfl ?_
   refine q0B (O.length - 1) rfl rfl rfl rfl wl (by omega) ?_
   refine go 800 rfl ?_
   refine q5e (enc := Spot.enc) O (O.length - 1) (q8w O) rfl (Nat.zero_add _) (fun _ => rfl) rfl hlast ?_
   refine go 800 rfl ?_
   refine q02 rfl (fun e2 => ?_) (fun e2 => ?_)
   ·rw [q13] at e2
    have hne : q8w O ≠ pt l k := fun h => by rw [h] at e2; simp at e2
    have hpush : q19 O (pt l k) = O ++ [pt l k] := by rw [q19, if_pos (.inr hne)]
    refine go 800 rfl ?_
    refine q0y k rfl rfl rfl (q0Q hlt) rfl ?_
    refine go 800 rfl ?_
    refine q2w rfl rfl rfl rfl rfl rfl (by simp) (Nat.zero_le _) (by simp [q0O]; omega) ?_
    refine go 800 rfl ?_
    refine q09 ?_
    refine next (q05 rfl ⟨?_, trivial⟩ ?_)
    ·rw [List.all_append, q07 q0I]; rfl
    ·rw [hpush]; simp [q0k, q01, w1, Spot.enc]
   ·rw [q13] at e2
    have heq : q8w O = pt l k := (by simpa using e2 : pt l k = q8w O).symm
    have hpush : q19 O (pt l k) = O := by rw [q19, if_neg (by intro h; rcases h with h | h; omega; exact h heq)]
    refine go 800 rfl ?_
    refine q09 ?_
    exact next (q05 rfl ⟨q07 q0I _, trivial⟩ (by rw [hpush]; simp [q0k, q01, w1]))
 rw [q0d] at g
 obtain rfl : k = l.length := by omega
 clear hN
 have hR := hfl l.length
 rw [List.take_length] at hR
 rw [List.take_length]
 have hon : l.foldl q19 [] = q2e l := rfl
 rw [hon] at hR
 refine go 800 rfl ?_
 refine q09 ?_
 refine go 800 rfl ?_
 rw [hon]
 generalize q2e l = R at *
 refine q0x (S := fun j : Nat => ([.ref 0 0 j], [some (.row (R.map Spot.enc) 2)], [0])) (C := fun j => j ≤ R.length ∧ q4H R j = q4H R R.length) (m := fun j => j) R.length ⟨Nat.le_refl _, rfl⟩ (by omega) ?_ ?_
 ·exact q05 rfl ⟨q07 q0I _, trivial⟩ (by simp)
 rintro j ⟨hj, htr⟩ N hN
 have wl : j ≠ 0 → IntKind.i64.wrap ((j : Int) - 1) = ((j - 1 : Nat) : Int) := fun h => by rw [wrap64 (by omega) (by omega)]; omega
 have hstop : ¬ (2 ≤ j ∧ pt R (j - 1) = pt R 0) → q4H R R.length = j := by
  intro h
  rw [← htr]
  cases j with
  | zero => rfl
  | succ j => rw [q4H, if_neg (fun h' => h ⟨by omega, by simpa using h'.2⟩)]
 refine go 800 rfl ?_
 refine q0g rfl (fun e1 => ?_) (fun e1 => ?_)
 ·rw [q0b] at e1
  have hj2 : 2 ≤ j := by omega
  refine go 800 rfl ?_
  refine q0B (j - 1) rfl rfl rfl rfl (wl (by omega)) (by omega) ?_
  refine go 800 rfl ?_
  refine q5e (enc := Spot.enc) R (j - 1) (pt R (j - 1)) rfl (Nat.zero_add _) (fun _ => rfl) rfl (by rw [q1f (by omega)]; exact List.getElem?_eq_getElem (by omega)) ?_
  refine go 800 rfl ?_
  refine q0B 0 rfl rfl rfl rfl rfl (by omega) ?_
  refine go 800 rfl ?_
  refine q5e (enc := Spot.enc) R 0 (pt R 0) rfl rfl (fun _ => rfl) rfl (by rw [q1f (by omega)]; exact List.getElem?_eq_getElem (by omega)) ?_
  refine go 800 rfl ?_
  refine q02 rfl (fun e2 => ?_) (fun e2 => ?_)
  ·rw [q13] at e2
   have heq : pt R (j - 1) = pt R 0 := by simpa using e2
   refine go 800 rfl ?_
   refine qdR (j - 1) rfl rfl rfl ⟨_, _, rfl, wl (by omega)⟩ (by omega) ?_
   refine go 800 rfl ?_
   refine q09 ?_
   refine hN (j - 1) ⟨by omega, ?_⟩ (by omega) (q05 rfl ⟨q07 q0I _, trivial⟩ (by simp))
   rw [← htr]
   obtain ⟨i, rfl⟩ : ∃ i, j = i + 1 := ⟨j - 1, by omega⟩
   rw [q4H, if_pos ⟨by omega, by simpa using heq⟩]; rfl
  ·rw [q13] at e2
   have hne : ¬ (2 ≤ j ∧ pt R (j - 1) = pt R 0) := fun h => by rw [h.2] at e2; simp at e2
   rw [hstop hne]
   clear hN
   refine go 800 rfl ?_
   refine q09 ?_
   refine go 800 rfl ?_
   refine q0c rfl rfl rfl ⟨⟨by simp; omega, by rw [List.drop_zero, ← List.map_take]; exact q2U q5m _⟩, trivial⟩ ?_
   rw [q0k, List.map_take]
 ·rw [q0d] at e1
  have hne : ¬ (2 ≤ j ∧ pt R (j - 1) = pt R 0) := fun h => by omega
  rw [hstop hne]
  clear hN
  refine go 800 rfl ?_
  refine q0o rfl ?_
  refine go 800 rfl ?_
  refine q09 ?_
  refine go 800 rfl ?_
  refine q0c rfl rfl rfl ⟨⟨by simp; omega, by rw [List.drop_zero, ← List.map_take]; exact q2U q5m _⟩, trivial⟩ ?_
  rw [q0k, List.map_take]
def q2J (s : List RSeg) (k : Nat) : List Spot := (List.range k).flatMap fun i => match s[(i + s.length - 1) % s.length]?, s[i]? with
 | some a, some b => q3k b.a a.mv b.mv
 | _, _ => []
theorem q7a (s : List RSeg) {k : Nat} (hk : k < s.length) : q2J s (k + 1) = q2J s k ++ q3k s[k].a (s[(k + s.length - 1) % s.length]'(Nat.mod_lt _ (by omega))).mv s[k].mv := by
 unfold q2J
 rw [List.range_succ, List.flatMap_append, List.flatMap_singleton]
 congr 1
 have h := Nat.mod_lt (k + s.length - 1) (show 0 < s.length by omega)
 rw [List.getElem?_eq_getElem h, List.getElem?_eq_getElem hk]
theorem qhh (s : List RSeg) : ∀ k, k ≤ s.length → (q2J s k).length ≤ 2 * k := by
 intro k
 induction k with
 | zero => intro _; simp [q2J]
 | succ k ih =>
   intro hk
   rw [q7a s (by omega), List.length_append]
   have := ih (by omega)
   have := q6K s[k].a (s[(k + s.length - 1) % s.length]'(Nat.mod_lt _ (by omega))).mv s[k].mv
   omega
def qeS (l : List Edge) (ws : List Int) : List Spot × Int :=
 if (q3B l ws).2 = 0 then
  let C := q2J (q3B l ws).1 (q3B l ws).1.length
  let q := (q2e C).take (q4H (q2e C) (q2e C).length)
  if q.any (fun s => !q0v s 1048576) then ([], 3)
  else if q1O q = 0 then if sg1 (q1b q) = sg1 (q1b (q0m l)) then (q, 0) else ([], 11)
  else ([], q1O q)
 else ([], (q3B l ws).2)
theorem qiC {l : List Edge} {ws : List Int} (h : (q3B l ws).2 = 0) : q0Y l = 0 ∧ ws.length = l.length ∧ (∀ x ∈ ws, 0 ≤ x ∧ x ≤ 500) ∧ (q3B l ws).1 = q2G l ws (sg1 (q1b (q0m l))) l.length := by
 unfold q3B at h ⊢
 split at h
 ·rename_i h1
  split at h
  ·rename_i h2
   split at h
   ·cases h
   ·rename_i h3
    refine ⟨h1, h2, fun x hx => qbw ?_, by rw [if_pos h1, if_pos h2, if_neg h3]⟩
    cases hb : q6r x with
    | false => rfl
    | true => exact absurd (List.any_eq_true.2 ⟨x, hx, hb⟩) h3
  ·cases h
 ·rename_i h1; exact absurd h h1
set_option maxHeartbeats 4000000 in
theorem qhi (l : List Edge) (ws : List Int) : PU qcy [q0A l, ints ws] = some (qjT (qeS l ws)) := by
 have hpoly := q9J l
 refine q0i (fn := q99) rfl (q0a ?_)
 refine go 800 rfl ?_
 refine q00 rfl rfl (qdc l ws) ?_
 refine go 800 rfl ?_
 refine q02 rfl (fun g => ?_) (fun g => ?_)
 ·rw [q17] at g
  refine go 800 rfl ?_
  refine q0c rfl rfl rfl trivial ?_
  rw [qeS, if_neg g]; rfl
 rw [q1j] at g
 rw [qeS, if_pos g]
 obtain ⟨hc, hwl, hgood, hs1⟩ := qiC g
 obtain ⟨h2, h16, _, _, hchk⟩ := q2M hc
 obtain ⟨v3, v40, vok, vin, vs⟩ := q2L hchk
 rw [q9I, if_pos hc] at hpoly
 have hsl : (q3B l ws).1.length = (q0m l).length := by rw [hs1, qaX l ws _ _ (Nat.le_refl _), List.take_length]
 have hok : ∀ s ∈ (q3B l ws).1, RSegOk s := by
  intro s hs
  rw [hs1, qeR hc] at hs
  obtain ⟨i, hi, rfl⟩ := List.mem_map.1 hs
  have hi := List.mem_range.1 hi
  have hb := qkB (l := l) (ws := ws) (by omega) hgood
  have hsg : -1 ≤ sg1 (q1b (q0m l)) ∧ sg1 (q1b (q0m l)) ≤ 1 := by rcases qnH (q1b (q0m l)) with h | h <;> omega
  exact ⟨qlH, qlH, qaU hsg hb vs (by omega) hi, (hb i).1, (hb i).2⟩
 generalize (q3B l ws).1 = s at *
 generalize (q3B l ws).2 = e0 at *
 subst g
 simp only
 have hcl := qhh s
 refine go 800 rfl ?_
 refine q0x (S := fun k : Nat => ([q0A l, .lst (s.map RSeg.enc), .ref 2 0 (q2J s k).length, q01 k], [none, none, some (.row ((q2J s k).map Spot.enc) 2), none], [0, 0, 0, 0])) (C := fun k => k ≤ s.length) (m := fun k => s.length - k) 0 (Nat.zero_le _) (by omega) ?_ ?_
 ·exact q05 rfl ⟨rfl, trivial⟩ (by simp [q0A, q01, q2J])
 intro k hk N hN
 refine go 800 rfl ?_
 rw [List.length_map]
 refine q02 rfl (fun g1 => ?_) (fun g1 => ?_)
 ·rw [q0b] at g1
  have hlt : k < s.length := by omega
  have w1 : IntKind.i64.wrap ((k : Int) + 1) = ((k + 1 : Nat) : Int) := wrap64 (by omega) (by omega)
  have w2 : IntKind.i64.wrap (IntKind.i64.wrap ((k : Int) + (s.map RSeg.enc).length) - 1) = ((k + s.length - 1 : Nat) : Int) := by rw [List.length_map, wrap64 (x := (k : Int) + s.length) (by omega) (by omega), wrap64 (by omega) (by omega)]; omega
  have hm : (k + s.length - 1) % s.length < s.length := Nat.mod_lt _ (by omega)
  have ok1 := hok _ (List.getElem_mem hm)
  have ok2 := hok _ (List.getElem_mem hlt)
  have hst := q7a s hlt
  have hk0 := hcl k (by omega)
  have hcs := q6K s[k].a (s[(k + s.length - 1) % s.length]).mv s[k].mv
  refine go 800 rfl ?_
  refine q4j rfl rfl (by rw [List.length_map]; omega) ?_
  refine go 800 rfl ?_
  refine q0y ((k + s.length - 1) % s.length) rfl rfl (by rw [w2, List.length_map, q1e]) (q5L hm) rfl ?_
  refine go 800 rfl ?_
  refine q0y k rfl rfl rfl (q5L hlt) rfl ?_
  refine go 800 rfl ?_
  refine q00 rfl rfl (qfj (s[(k + s.length - 1) % s.length]) s[k]) ?_
  refine go 800 rfl ?_
  refine qjh rfl rfl rfl (q1x (f := Spot.enc) (n := 2) (fun _ => rfl) _) (by simp) (Nat.zero_le _) (by simp [q0O]; omega) ?_
  refine go 800 rfl ?_
  refine q09 ?_
  refine hN (k + 1) hlt (by omega) (q05 rfl ⟨?_, trivial⟩ ?_)
  ·rw [← List.map_append]; exact q07 q0I _
  ·rw [hst]; simp [q0A, q01, w1]
 rw [q0d] at g1
 obtain rfl : k = s.length := by omega
 clear hN
 have hC := hcl s.length (Nat.le_refl _)
 generalize q2J s s.length = C at *
 have hrow : D.lst ((C.map Spot.enc).take C.length) = q0k C := qaR (by simp)
 have hq : ((q2e C).take (q4H (q2e C) (q2e C).length)).length ≤ 80 := by
  have := qa2 C []
  have h3 : (q2e C).length ≤ C.length := by simpa [q2e] using this
  rw [List.length_take]; omega
 refine go 800 rfl ?_
 refine q09 ?_
 refine go 800 rfl ?_
 refine q1q rfl rfl ⟨q3A rfl, trivial⟩ (by rw [hrow]; exact qiB C (by omega)) fun z => ?_
 generalize (q2e C).take (q4H (q2e C) (q2e C).length) = q at *
 refine go 800 rfl ?_
 refine q0x (S := fun k : Nat => ([q0A l, q0k q, q01 k], [none, none, none], [0, 0, 0])) (C := fun k => k ≤ q.length ∧ ∀ i, i < k → q0v (pt q i) 1048576 = true) (m := fun k => q.length - k) 0 ⟨Nat.zero_le _, fun i hi => by omega⟩ (by omega) ?_ ?_
 ·exact q05 rfl trivial (by simp [q0A, q0k, q01])
 rintro k ⟨hk, hin⟩ N hN
 refine go 800 rfl ?_
 rw [List.length_map]
 refine q02 rfl (fun f1 => ?_) (fun f1 => ?_)
 ·rw [q0b] at f1
  have hlt : k < q.length := by omega
  have w1 : IntKind.i64.wrap ((k : Int) + 1) = ((k + 1 : Nat) : Int) := wrap64 (by omega) (by omega)
  refine go 800 rfl ?_
  refine q0y k rfl rfl rfl (q0Q hlt) rfl ?_
  refine go 800 rfl ?_
  refine q00 rfl rfl (qag (pt q k)) ?_
  refine go 800 rfl ?_
  refine q02 rfl (fun f2 => ?_) (fun f2 => ?_)
  ·refine go 800 rfl ?_
   refine q09 ?_
   refine go 800 rfl ?_
   refine q0c rfl rfl rfl trivial ?_
   have : q.any (fun s => !q0v s 1048576) = true := List.any_eq_true.2 ⟨pt q k, by rw [q1f hlt]; exact List.getElem_mem _, f2⟩
   rw [if_pos this]; rfl
  ·refine go 800 rfl ?_
   refine q09 ?_
   refine hN (k + 1) ⟨hlt, fun i hi => ?_⟩ (by omega) (q05 rfl trivial (by simp [q0A, q0k, q01, w1]))
   by_cases hik : i < k
   ·exact hin i hik
   ·obtain rfl : i = k := by omega
    simpa using f2
 rw [q0d] at f1
 clear hN
 have hany : q.any (fun s => !q0v s 1048576) = false := by
  rw [List.any_eq_false]
  intro s hs
  obtain ⟨i, hi, rfl⟩ := List.getElem_of_mem hs
  have := hin i (by omega)
  rw [q1f (by omega)] at this
  simp [this]
 rw [if_neg (by rw [hany]; decide)]
 refine go 800 rfl ?_
 refine q09 ?_
 refine go 800 rfl ?_
 refine q00 rfl rfl (q8d q) ?_
 refine go 800 rfl ?_
 refine q02 rfl (fun f3 => ?_) (fun f3 => ?_)
 ·rw [q17] at f3
  refine go 800 rfl ?_
  refine q0c rfl rfl rfl trivial ?_
  rw [if_neg f3]; rfl
 rw [q1j] at f3
 rw [if_pos f3]
 refine go 800 rfl ?_
 refine q00 rfl rfl hpoly ?_
 refine go 800 rfl ?_
 refine q00 rfl rfl (q45 q) ?_
 refine go 800 rfl ?_
 refine q00 rfl rfl (q45 (q0m l)) ?_
 refine go 800 rfl ?_
 refine q02 rfl (fun f4 => ?_) (fun f4 => ?_)
 ·rw [q17] at f4
  refine go 800 rfl ?_
  refine q0c rfl rfl rfl trivial ?_
  rw [if_neg f4]; rfl
 rw [q1j] at f4
 rw [if_pos f4]
 refine go 800 rfl ?_
 exact q0c rfl rfl rfl trivial rfl
theorem qhj {l : List Edge} (hc : q0Y l = 0) (ws : List Int) (sg : Int) : ∀ k, k ≤ (q0m l).length →
 q2J (q2G l ws sg l.length) k = q0J (q0m l) (q6J (q0m l) (q1I l ws l.length) sg) (q1I l ws l.length) k := by
 have hs := qeR hc ws sg
 have hl : (q2G l ws sg l.length).length = (q0m l).length := by rw [hs]; simp
 intro k
 induction k with
 | zero => intro _; rfl
 | succ k ih =>
   intro hk
   have hm := Nat.mod_lt (k + (q0m l).length - 1) (show 0 < (q0m l).length by omega)
   rw [q7a _ (by omega), ih (by omega), q0J]
   congr 1
   have e1 : ∀ i (hi : i < (q0m l).length), (q2G l ws sg l.length)[i]'(by omega) = ⟨pt (q0m l) i, pt (q0m l) ((i + 1) % (q0m l).length), wd (q1I l ws l.length) i, q2V (q0m l) (q1I l ws l.length) sg i⟩ := by
    intro i hi; simp [hs]
   have e2 : ∀ i (hi : i < (q0m l).length), pt (q6J (q0m l) (q1I l ws l.length) sg) i = q2V (q0m l) (q1I l ws l.length) sg i := by
    intro i hi; rw [q6J, qjV hi]
   simp only [hl]
   rw [e1 k (by omega), e1 _ hm]
   unfold q6s q3n RSeg.mv
   simp only
   rw [e2 k (by omega), e2 _ hm]
theorem qk4 (l : List Edge) (ws : List Int) : q44 l ws = qeS l ws := by
 have h := qiz l ws
 have h2 : (q0X l ws).2 = (q3B l ws).2 := by rw [h]
 unfold q44 qeS
 rw [h2]
 split
 ·rename_i h0
  obtain ⟨hc, hwl, hgood, hs1⟩ := qiC h0
  obtain ⟨_, _, _, _, hchk⟩ := q2M hc
  have hnz := qeQ hchk
  obtain ⟨_, _, _, hs2⟩ := qeF (h2.trans h0)
  have hl : (q3B l ws).1.length = (q0m l).length := by rw [hs1, qaX l ws _ _ (Nat.le_refl _), List.take_length]
  have hcc : q2J (q3B l ws).1 (q3B l ws).1.length = q0J (q0m l) (q0X l ws).1 (q1I l ws l.length) (q0m l).length := by
   rw [hl, hs1, hs2, qhc hnz, qhj hc ws _ _ (Nat.le_refl _)]
  simp only
  rw [hcc]
  unfold qaT qeE
  generalize (q2e (q0J (q0m l) (q0X l ws).1 (q1I l ws l.length) (q0m l).length)).take (q4H (q2e (q0J (q0m l) (q0X l ws).1 (q1I l ws l.length) (q0m l).length)) (q2e (q0J (q0m l) (q0X l ws).1 (q1I l ws l.length) (q0m l).length)).length) = q
  split
  ·rfl
  ·split
   ·rename_i hq
    rw [qhc (qeQ hq), qhc hnz]
   ·rfl
 ·rfl
theorem qk5 (l : List Edge) (ws : List Int) : (q44 l ws).1.length ≤ 40 := by
 unfold q44
 split
 ·unfold qaT
  split
  ·simp
  ·split
   ·rename_i hq
    split
    ·exact (q2L hq).2.1
    ·simp
   ·simp
 ·simp
theorem qnK (l : List Edge) (ws : List Int) : PU q7L [q0A l, ints ws] = some (.bool true) := by
 obtain ⟨sm, hsm, hsmall⟩ := qnw l ws
 have hr := qhi l ws
 rw [← qk4] at hr
 have hl := qk5 l ws
 refine q0i (fn := q2C) rfl (q0a ?_)
 refine go 800 rfl ?_
 refine q00 rfl rfl hsm ?_
 refine go 800 rfl ?_
 refine q02 rfl (fun g => ?_) (fun g0 => ?_)
 ·repeat' (first
   | (refine goP 800 rfl rfl ?_)
   | (show wpM _ _ _ (Fr.ops _ _ (KOper.mk _ _ (some _) _ _ :: _) :: _) Ex.normal _ _ _ _ _; first | refine q0q rfl ?_ | refine q0s rfl ?_ | refine q0g rfl (fun _ => ?_) (fun _ => ?_))
   | (show wpM _ _ _ (Fr.code (K.cond _ _ _) :: _) Ex.normal _ _ _ _ _; first | refine q0r rfl ?_ | refine q0o rfl ?_ | refine q02 rfl (fun _ => ?_) (fun _ => ?_))
   | (show wpM _ _ _ (Fr.ops _ _ (KOper.mk _ _ none _ (KOp.pick _ _ _) :: _) :: _) Ex.normal _ _ _ _ _; refine q0F rfl (fun _ => ?_) (fun _ => ?_))
   | (show wpM _ _ _ [] _ _ _ _ _ _; refine q0c rfl rfl rfl trivial ?_)
   | (show wpM _ _ _ (Fr.ops _ _ (KOper.mk _ _ none _ (KOp.callF q2y _) :: _) :: _) Ex.normal _ _ _ _ _; refine q00 rfl rfl (q8x) ?_))
  rfl
 refine go 800 rfl ?_
 refine q00 rfl rfl (qbx l ws) ?_
 refine go 800 rfl ?_
 refine q00 rfl rfl hr ?_
 refine go 800 rfl ?_
 refine q0g rfl (fun _ => ?_) (fun g => absurd rfl (q2g.1 g))
 refine go 800 rfl ?_
 refine q00 rfl rfl (q6H (q44 l ws).1 (q44 l ws).1 (by omega)) ?_
 refine go 800 rfl ?_
 refine q0g rfl (fun _ => ?_) (fun g => absurd g (by simp))
 refine go 800 rfl ?_
 refine q00 rfl rfl q8x ?_
 refine go 800 rfl ?_
 exact q0c rfl rfl rfl trivial rfl
end Go.F
