/- Parts of the proof, part 43: Nz1, Nz2, Nz3, Nz4, Nz5, Nz6, Nz7, Nz8, Nz9, SegP, Area1. -/
import Derived.Test.YtjjkgfikkihokaaZ42
set_option linter.all false
/- Simple polygons: segments with a point in common. -/
namespace Go.F

def crossQ (a b c : QP) : Rat := (b.x - a.x) * (c.y - a.y) - (b.y - a.y) * (c.x - a.x)

theorem crossQ_int (a b c : Spot) : crossQ (qp a) (qp b) (qp c) = ((crossS a b c : Int) : Rat) := by
  unfold crossQ crossS qp
  simp only [Rat.intCast_sub, Rat.intCast_mul]

theorem crossQ_on (a b c d : QP) (t : Rat) : crossQ a b (onP c d t) = (1 - t) * crossQ a b c + t * crossQ a b d := by
  unfold crossQ onP addP scaleP subP
  simp only
  grind

theorem crossQ_self (a b : QP) (s : Rat) : crossQ a b (onP a b s) = 0 := by
  unfold crossQ onP addP scaleP subP
  simp only
  grind

theorem between {a b s : Rat} (h0 : 0 ≤ s) (h1 : s ≤ 1) : min a b ≤ a + (b - a) * s ∧ a + (b - a) * s ≤ max a b := by
  rw [Rat.min_def, Rat.max_def]
  by_cases h : a ≤ b
  · rw [if_pos h, if_pos h]
    have p1 := Rat.mul_nonneg (show 0 ≤ b - a by grind) h0
    have p2 := Rat.mul_nonneg (show 0 ≤ b - a by grind) (show 0 ≤ 1 - s by grind)
    constructor <;> grind
  · rw [if_neg h, if_neg h]
    have p1 := Rat.mul_nonneg (show 0 ≤ a - b by grind) h0
    have p2 := Rat.mul_nonneg (show 0 ≤ a - b by grind) (show 0 ≤ 1 - s by grind)
    constructor <;> grind

theorem between_int {a b q : Int} {s : Rat} (h0 : 0 ≤ s) (h1 : s ≤ 1) (he : (q : Rat) = a + ((b : Rat) - a) * s) : min a b ≤ q ∧ q ≤ max a b := by
  have h := between (a := (a : Rat)) (b := (b : Rat)) h0 h1
  rw [← he, Rat.min_def, Rat.max_def] at h
  by_cases hab : a ≤ b
  · have : (a : Rat) ≤ (b : Rat) := Rat.intCast_le_intCast.2 hab
    rw [if_pos this, if_pos this, Rat.intCast_le_intCast, Rat.intCast_le_intCast] at h
    omega
  · have : ¬ (a : Rat) ≤ (b : Rat) := fun hh => hab (Rat.intCast_le_intCast.1 hh)
    rw [if_neg this, if_neg this, Rat.intCast_le_intCast, Rat.intCast_le_intCast] at h
    omega

theorem on_of {a b q : Spot} {s : Rat} (h0 : 0 ≤ s) (h1 : s ≤ 1) (he : qp q = onP (qp a) (qp b) s) : onS a b q = true := by
  have hc : crossS a b q = 0 := by
    have : ((crossS a b q : Int) : Rat) = 0 := by rw [← crossQ_int, he, crossQ_self]
    exact Rat.intCast_eq_zero_iff.1 this
  have hx : (q.x : Rat) = a.x + ((b.x : Rat) - a.x) * s := congrArg QP.x he
  have hy : (q.y : Rat) = a.y + ((b.y : Rat) - a.y) * s := congrArg QP.y he
  have bx := between_int h0 h1 hx
  have by' := between_int h0 h1 hy
  unfold onS
  simp [hc, bx, by']

/- points of a line -/
theorem line_param {a b c : Spot} (hab : a ≠ b) (hc : crossS a b c = 0) : ∃ s : Rat, qp c = onP (qp a) (qp b) s := by
  have hq : crossQ (qp a) (qp b) (qp c) = 0 := by rw [crossQ_int, hc]; rfl
  unfold crossQ at hq
  by_cases hx : b.x = a.x
  · have hy : b.y ≠ a.y := fun h => hab (by cases a; cases b; simp at hx h ⊢; omega)
    have hy' : (qp b).y - (qp a).y ≠ 0 := by
      show (b.y : Rat) - (a.y : Rat) ≠ 0
      rw [← Rat.intCast_sub]; intro h; rw [Rat.intCast_eq_zero_iff] at h; omega
    have hx' : (qp b).x = (qp a).x := by show (b.x : Rat) = (a.x : Rat); rw [hx]
    refine ⟨((qp c).y - (qp a).y) / ((qp b).y - (qp a).y), ?_⟩
    have ht := Rat.div_mul_cancel (a := (qp c).y - (qp a).y) hy'
    generalize ((qp c).y - (qp a).y) / ((qp b).y - (qp a).y) = t at ht
    have h1 : ((qp b).y - (qp a).y) * ((qp c).x - (qp a).x) = 0 := by grind
    have h2 : (qp c).x = (qp a).x := by
      rcases Rat.mul_eq_zero.1 h1 with h | h
      · exact absurd h hy'
      · grind
    unfold onP addP scaleP subP
    cases hcc : qp c with
    | mk cx cy =>
      rw [hcc] at h2 ht
      simp only [QP.mk.injEq] at h2 ht ⊢
      constructor <;> grind
  · have hx' : (qp b).x - (qp a).x ≠ 0 := by
      show (b.x : Rat) - (a.x : Rat) ≠ 0
      rw [← Rat.intCast_sub]; intro h; rw [Rat.intCast_eq_zero_iff] at h; omega
    refine ⟨((qp c).x - (qp a).x) / ((qp b).x - (qp a).x), ?_⟩
    have ht := Rat.div_mul_cancel (a := (qp c).x - (qp a).x) hx'
    generalize ((qp c).x - (qp a).x) / ((qp b).x - (qp a).x) = t at ht
    have h1 : ((qp b).x - (qp a).x) * ((qp c).y - (qp a).y - ((qp b).y - (qp a).y) * t) = 0 := by grind
    have h2 : (qp c).y - (qp a).y - ((qp b).y - (qp a).y) * t = 0 := by
      rcases Rat.mul_eq_zero.1 h1 with h | h
      · exact absurd h hx'
      · exact h
    unfold onP addP scaleP subP
    cases hcc : qp c with
    | mk cx cy =>
      rw [hcc] at h2 ht
      simp only [QP.mk.injEq] at h2 ht ⊢
      constructor <;> grind
end Go.F

/- Simple polygons: segments with a point in common meet. -/
namespace Go.F

theorem on_param_inj {a b : Spot} (hab : a ≠ b) {s t : Rat} (h : onP (qp a) (qp b) s = onP (qp a) (qp b) t) : s = t := by
  have hx : (qp a).x + ((qp b).x - (qp a).x) * s = (qp a).x + ((qp b).x - (qp a).x) * t := congrArg QP.x h
  have hy : (qp a).y + ((qp b).y - (qp a).y) * s = (qp a).y + ((qp b).y - (qp a).y) * t := congrArg QP.y h
  by_cases h1 : b.x = a.x
  · have h2 : b.y ≠ a.y := fun h => hab (by cases a; cases b; simp at h1 h ⊢; omega)
    have hy' : (qp b).y - (qp a).y ≠ 0 := by
      show (b.y : Rat) - (a.y : Rat) ≠ 0
      rw [← Rat.intCast_sub]; intro h; rw [Rat.intCast_eq_zero_iff] at h; omega
    have : ((qp b).y - (qp a).y) * (s - t) = 0 := by grind
    rcases Rat.mul_eq_zero.1 this with h | h
    · exact absurd h hy'
    · grind
  · have hx' : (qp b).x - (qp a).x ≠ 0 := by
      show (b.x : Rat) - (a.x : Rat) ≠ 0
      rw [← Rat.intCast_sub]; intro h; rw [Rat.intCast_eq_zero_iff] at h; omega
    have : ((qp b).x - (qp a).x) * (s - t) = 0 := by grind
    rcases Rat.mul_eq_zero.1 this with h | h
    · exact absurd h hx'
    · grind

theorem on_on (a b : QP) (s1 s2 t : Rat) : onP (onP a b s1) (onP a b s2) t = onP a b (s1 + (s2 - s1) * t) := by
  unfold onP addP scaleP subP; simp only [QP.mk.injEq]; constructor <;> grind

theorem on_zero (a b : QP) : onP a b 0 = a := by
  cases a; unfold onP addP scaleP subP; simp only [QP.mk.injEq]; constructor <;> grind

theorem on_one (a b : QP) : onP a b 1 = b := by
  cases b; unfold onP addP scaleP subP; simp only [QP.mk.injEq]; constructor <;> grind

/- four points of one line -/
theorem collinear_meet {a b c d : Spot} (hab : a ≠ b) (h1 : crossS a b c = 0) (h2 : crossS a b d = 0) {s t : Rat} (hs0 : 0 ≤ s) (hs1 : s ≤ 1) (ht0 : 0 ≤ t) (ht1 : t ≤ 1) (he : onP (qp a) (qp b) s = onP (qp c) (qp d) t) :
    onS a b c = true ∨ onS a b d = true ∨ onS c d a = true := by
  obtain ⟨s1, e1⟩ := line_param hab h1
  obtain ⟨s2, e2⟩ := line_param hab h2
  rw [e1, e2, on_on] at he
  have hs := on_param_inj hab he
  by_cases c1 : 0 ≤ s1 ∧ s1 ≤ 1
  · exact .inl (on_of c1.1 c1.2 e1)
  by_cases c2 : 0 ≤ s2 ∧ s2 ≤ 1
  · exact .inr (.inl (on_of c2.1 c2.2 e2))
  have hne : s2 - s1 ≠ 0 := by
    intro h
    have : s = s1 := by rw [hs, h]; grind
    exact c1 ⟨by grind, by grind⟩
  have p1 : s - s1 = (s2 - s1) * t := by grind
  have p2 : s2 - s = (s2 - s1) * (1 - t) := by grind
  -- the ends lie on either side
  have hcase : (s1 < 0 ∧ 1 < s2) ∨ (s2 < 0 ∧ 1 < s1) := by
    rcases Rat.le_total (a := s1) (b := s2) with h | h
    · have q1 := Rat.mul_nonneg (show 0 ≤ s2 - s1 by grind) ht0
      have q2 := Rat.mul_nonneg (show 0 ≤ s2 - s1 by grind) (show 0 ≤ 1 - t by grind)
      left; grind
    · have q1 := Rat.mul_nonneg (show 0 ≤ s1 - s2 by grind) ht0
      have q2 := Rat.mul_nonneg (show 0 ≤ s1 - s2 by grind) (show 0 ≤ 1 - t by grind)
      right; grind
  right; right
  have hr := Rat.div_mul_cancel (a := 0 - s1) hne
  have hd : onP (qp c) (qp d) ((0 - s1) / (s2 - s1)) = qp a := by
    rw [e1, e2, on_on]
    have : s1 + (s2 - s1) * ((0 - s1) / (s2 - s1)) = 0 := by grind
    rw [this, on_zero]
  generalize (0 - s1) / (s2 - s1) = r at hr hd
  refine on_of (s := r) ?_ ?_ hd.symm
  · rcases hcase with ⟨g1, g2⟩ | ⟨g1, g2⟩
    · by_cases hh : 0 ≤ r
      · exact hh
      · have := Rat.mul_pos (show 0 < -r by grind) (show 0 < s2 - s1 by grind)
        grind
    · by_cases hh : 0 ≤ r
      · exact hh
      · have := Rat.mul_pos (show 0 < -r by grind) (show 0 < s1 - s2 by grind)
        grind
  · rcases hcase with ⟨g1, g2⟩ | ⟨g1, g2⟩
    · by_cases hh : r ≤ 1
      · exact hh
      · have := Rat.mul_pos (show 0 < r - 1 by grind) (show 0 < s2 - s1 by grind)
        grind
    · by_cases hh : r ≤ 1
      · exact hh
      · have := Rat.mul_pos (show 0 < r - 1 by grind) (show 0 < s1 - s2 by grind)
        grind

theorem sgn_mul_neg {x y : Int} (h : (0 < x ∧ y < 0) ∨ (x < 0 ∧ 0 < y)) : sgn x * sgn y < 0 := by
  unfold sgn
  rcases h with ⟨h1, h2⟩ | ⟨h1, h2⟩
  · rw [if_neg (by omega), if_pos h1, if_pos h2]; decide
  · rw [if_pos h1, if_neg (by omega), if_pos h2]; decide

/- what a point in common says of the ends of a segment -/
theorem ends_cross {a b c d : Spot} {s t : Rat} (ht0 : 0 ≤ t) (ht1 : t ≤ 1) (he : onP (qp a) (qp b) s = onP (qp c) (qp d) t) :
    (sgn (crossS a b c) * sgn (crossS a b d) < 0) ∨ (crossS a b c = 0 ∧ crossS a b d = 0) ∨ (crossS a b c = 0 ∧ t = 0) ∨ (crossS a b d = 0 ∧ t = 1) := by
  have h0 : (1 - t) * ((crossS a b c : Int) : Rat) + t * ((crossS a b d : Int) : Rat) = 0 := by
    rw [← crossQ_int, ← crossQ_int, ← crossQ_on, ← he, crossQ_self]
  generalize crossS a b c = x at *
  generalize crossS a b d = y at *
  by_cases hx : x = 0
  · subst hx
    have : t * ((y : Int) : Rat) = 0 := by grind
    rcases Rat.mul_eq_zero.1 this with h | h
    · exact .inr (.inr (.inl ⟨rfl, h⟩))
    · exact .inr (.inl ⟨rfl, Rat.intCast_eq_zero_iff.1 h⟩)
  by_cases hy : y = 0
  · subst hy
    have : (1 - t) * ((x : Int) : Rat) = 0 := by grind
    rcases Rat.mul_eq_zero.1 this with h | h
    · exact .inr (.inr (.inr ⟨rfl, by grind⟩))
    · exact absurd (Rat.intCast_eq_zero_iff.1 h) hx
  left
  apply sgn_mul_neg
  rcases Int.lt_or_gt_of_ne hx with h1 | h1 <;> rcases Int.lt_or_gt_of_ne hy with h2 | h2
  · exfalso
    have g1 : (x : Rat) < 0 := Rat.intCast_neg_iff.2 h1
    have g2 : (y : Rat) < 0 := Rat.intCast_neg_iff.2 h2
    rcases Rat.le_iff_lt_or_eq.1 ht0 with h | h
    · have q1 := Rat.mul_pos h (show 0 < -(y : Rat) by grind)
      have q2 := Rat.mul_nonneg (show 0 ≤ 1 - t by grind) (show 0 ≤ -(x : Rat) by grind)
      grind
    · rw [← h] at h0; grind
  · right; exact ⟨h1, h2⟩
  · left; exact ⟨h1, h2⟩
  · exfalso
    have g1 : 0 < (x : Rat) := Rat.intCast_pos.2 h1
    have g2 : 0 < (y : Rat) := Rat.intCast_pos.2 h2
    rcases Rat.le_iff_lt_or_eq.1 ht0 with h | h
    · have q1 := Rat.mul_pos h g2
      have q2 := Rat.mul_nonneg (show 0 ≤ 1 - t by grind) (show 0 ≤ (x : Rat) by grind)
      grind
    · rw [← h] at h0; grind

theorem meet_common {a b c d : Spot} (hab : a ≠ b) (hcd : c ≠ d) {s t : Rat} (hs0 : 0 ≤ s) (hs1 : s ≤ 1) (ht0 : 0 ≤ t) (ht1 : t ≤ 1) (he : onP (qp a) (qp b) s = onP (qp c) (qp d) t) : meetS a b c d = true := by
  have key : onS a b c = true ∨ onS a b d = true ∨ onS c d a = true ∨ onS c d b = true ∨ (partedS a b c d = true ∧ partedS c d a b = true) := by
    rcases ends_cross ht0 ht1 he with h | ⟨h, h'⟩ | ⟨h, h'⟩ | ⟨h, h'⟩
    · rcases ends_cross hs0 hs1 he.symm with g | ⟨g, g'⟩ | ⟨g, g'⟩ | ⟨g, g'⟩
      · right; right; right; right
        unfold partedS; simp [h, g]
      · rcases collinear_meet hcd g g' ht0 ht1 hs0 hs1 he.symm with k | k | k
        · exact .inr (.inr (.inl k))
        · exact .inr (.inr (.inr (.inl k)))
        · exact .inl k
      · subst g'; rw [on_zero] at he; exact .inr (.inr (.inl (on_of ht0 ht1 he)))
      · subst g'; rw [on_one] at he; exact .inr (.inr (.inr (.inl (on_of ht0 ht1 he))))
    · rcases collinear_meet hab h h' hs0 hs1 ht0 ht1 he with k | k | k
      · exact .inl k
      · exact .inr (.inl k)
      · exact .inr (.inr (.inl k))
    · subst h'; rw [on_zero] at he; exact .inl (on_of hs0 hs1 he.symm)
    · subst h'; rw [on_one] at he; exact .inr (.inl (on_of hs0 hs1 he.symm))
  unfold meetS
  rcases key with h | h | h | h | ⟨h, h'⟩
  · simp [h]
  · simp [h]
  · simp [h]
  · simp [h]
  · simp [h, h']
end Go.F

/- Closed lines without vertical edges: counts of the edges above a point. -/
namespace Go.F

def sm {α : Type} [Add α] [OfNat α 0] (f : Nat → α) : Nat → α
  | 0 => 0
  | k + 1 => sm f k + f k

theorem sm_congr {α : Type} [Add α] [OfNat α 0] {f g : Nat → α} {n : Nat} (h : ∀ j, j < n → f j = g j) : sm f n = sm g n := by
  induction n with
  | zero => rfl
  | succ k ih => rw [sm, sm, ih (fun j hj => h j (by omega)), h k (by omega)]

theorem sm_tele {f f' g : Nat → Int} {n : Nat} (h : ∀ j, j < n → f j - f' j = g (j + 1) - g j) : sm f n - sm f' n = g n - g 0 := by
  induction n with
  | zero => simp [sm]
  | succ k ih =>
    have h1 := ih (fun j hj => h j (by omega))
    have h2 := h k (by omega)
    simp only [sm]
    omega

/- one term differs -/
theorem sm_one {f f' : Nat → Int} {n o : Nat} (ho : o < n) (h : ∀ j, j < n → j ≠ o → f j = f' j) : sm f n = sm f' n + (f o - f' o) := by
  induction n with
  | zero => omega
  | succ k ih =>
    simp only [sm]
    by_cases hk : o = k
    · subst hk
      rw [sm_congr (fun j hj => h j (by omega) (by omega))]
      omega
    · rw [ih (by omega) (fun j hj => h j (by omega)), h k (by omega) (by omega)]
      omega

def crU (U : Nat → Int) (j : Nat) (z : Int) : Prop := (U j ≤ z ∧ z < U (j + 1)) ∨ (U (j + 1) ≤ z ∧ z < U j)

instance (U : Nat → Int) (j : Nat) (z : Int) : Decidable (crU U j z) := by unfold crU; exact inferInstance

def sgU (U : Nat → Int) (j : Nat) : Int := if U j < U (j + 1) then 1 else -1

def yU (U V : Nat → Int) (t : Nat → Rat) (j : Nat) (z : Int) : Rat := (V j : Rat) + t j * ((z : Rat) - (U j : Rat))

structure ClU (n : Nat) (U V : Nat → Int) (t : Nat → Rat) : Prop where
  cU : U n = U 0
  cV : V n = V 0
  ne : ∀ j, j < n → U j ≠ U (j + 1)
  yt : ∀ j, j < n → yU U V t j (U (j + 1)) = V (j + 1)

theorem yU_self (U V : Nat → Int) (t : Nat → Rat) (j : Nat) : yU U V t j (U j) = V j := by
  unfold yU; grind

/- the edges above the point (z, y), on the slab right of z and on the slab left of z -/
def upR (U V : Nat → Int) (t : Nat → Rat) (z : Int) (y : Rat) (j : Nat) : Int := if crU U j z ∧ y < yU U V t j z then sgU U j else 0
def upL (U V : Nat → Int) (t : Nat → Rat) (z : Int) (y : Rat) (j : Nat) : Int := if crU U j (z - 1) ∧ y < yU U V t j z then sgU U j else 0

theorem up_LR {n : Nat} {U V : Nat → Int} {t : Nat → Rat} (h : ClU n U V t) (z : Int) (y : Rat) : sm (upL U V t z y) n = sm (upR U V t z y) n := by
  have := sm_tele (f := upL U V t z y) (f' := upR U V t z y) (g := fun m => if U m = z ∧ y < (V m : Rat) then 1 else 0) (n := n) ?_
  · simp only [h.cU, h.cV] at this
    omega
  · intro j hj
    have hne := h.ne j hj
    have h1 := h.yt j hj
    have h0 := yU_self U V t j
    simp only [upL, upR, crU, sgU]
    by_cases ha : U j = z
    · have hb : ¬ U (j + 1) = z := by omega
      rw [ha] at h0
      rw [h0, if_neg (c := U (j + 1) = z ∧ _) (by omega)]
      by_cases hy : y < (V j : Rat)
      · simp only [hy, ha, and_true]
        repeat' split
        all_goals first | omega | (simp_all; done) | (simp_all; omega)
      · simp [hy]
    · by_cases hb : U (j + 1) = z
      · rw [hb] at h1
        rw [h1, if_neg (c := U j = z ∧ _) (by omega)]
        by_cases hy : y < (V (j + 1) : Rat)
        · simp only [hy, hb, and_true]
          repeat' split
          all_goals first | omega | (simp_all; done) | (simp_all; omega)
        · simp [hy]
      · rw [if_neg (c := U j = z ∧ _) (by omega), if_neg (c := U (j + 1) = z ∧ _) (by omega)]
        by_cases hy : y < yU U V t j z
        · simp only [hy, and_true]
          repeat' split
          all_goals first | omega | (simp_all; done) | (simp_all; omega)
        · simp [hy]
end Go.F

/- Simple closed lines: the count above an edge is the same all along the line. -/
namespace Go.F

def inU (U : Nat → Int) (j : Nat) (z : Int) : Prop := (U j ≤ z ∧ z ≤ U (j + 1)) ∨ (U (j + 1) ≤ z ∧ z ≤ U j)

structure SmU (n : Nat) (U V : Nat → Int) (t : Nat → Rat) : Prop extends ClU n U V t where
  n3 : 3 ≤ n
  same : ∀ i j z, i < n → j < n → i ≠ j → crU U i z → crU U j z →
    (yU U V t i z ≤ yU U V t j z ∧ yU U V t i (z + 1) ≤ yU U V t j (z + 1) ∧ yU U V t i z + yU U V t i (z + 1) < yU U V t j z + yU U V t j (z + 1)) ∨
    (yU U V t j z ≤ yU U V t i z ∧ yU U V t j (z + 1) ≤ yU U V t i (z + 1) ∧ yU U V t j z + yU U V t j (z + 1) < yU U V t i z + yU U V t i (z + 1))
  tch : ∀ i j z, i < n → j < n → i ≠ j → inU U i z → inU U j z → yU U V t i z = yU U V t j z →
    ∃ m m', (m = i ∨ m = i + 1) ∧ (m' = j ∨ m' = j + 1) ∧ U m = z ∧ (m = m' ∨ (m = 0 ∧ m' = n) ∨ (m = n ∧ m' = 0))

def hU (U V : Nat → Int) (t : Nat → Rat) (j : Nat) (z : Int) : Rat := yU U V t j z + yU U V t j (z + 1)

def upM (U V : Nat → Int) (t : Nat → Rat) (z : Int) (i j : Nat) : Int := if crU U j z ∧ hU U V t i z < hU U V t j z then sgU U j else 0

def wU (n : Nat) (U V : Nat → Int) (t : Nat → Rat) (i : Nat) (z : Int) : Int := (if sgU U i = -1 then 1 else 0) - sm (upM U V t z i) n

theorem sideR {n : Nat} {U V : Nat → Int} {t : Nat → Rat} (h : SmU n U V t) {i j : Nat} {z : Int} (hi : i < n) (hj : j < n) (hij : i ≠ j) (ci : crU U i z) (cj : crU U j z) (hne : yU U V t i z ≠ yU U V t j z) :
    hU U V t i z < hU U V t j z ↔ yU U V t i z < yU U V t j z := by
  have := h.same i j z hi hj hij ci cj
  unfold hU
  constructor <;> intro _ <;> grind

theorem sideL {n : Nat} {U V : Nat → Int} {t : Nat → Rat} (h : SmU n U V t) {i j : Nat} {z : Int} (hi : i < n) (hj : j < n) (hij : i ≠ j) (ci : crU U i (z - 1)) (cj : crU U j (z - 1)) (hne : yU U V t i z ≠ yU U V t j z) :
    hU U V t i (z - 1) < hU U V t j (z - 1) ↔ yU U V t i z < yU U V t j z := by
  have := h.same i j (z - 1) hi hj hij ci cj
  unfold hU
  rw [show z - 1 + 1 = z by omega] at *
  constructor <;> intro _ <;> grind

theorem side_ne {n : Nat} {U V : Nat → Int} {t : Nat → Rat} (h : SmU n U V t) {i j : Nat} {z : Int} (hi : i < n) (hj : j < n) (hij : i ≠ j) (ci : crU U i z) (cj : crU U j z) :
    hU U V t i z < hU U V t j z ∨ hU U V t j z < hU U V t i z := by
  have := h.same i j z hi hj hij ci cj
  unfold hU
  grind

theorem cr_inR {U : Nat → Int} {j : Nat} {z : Int} (h : crU U j z) : inU U j z := by
  unfold crU at h; unfold inU; omega

theorem cr_inL {U : Nat → Int} {j : Nat} {z : Int} (h : crU U j (z - 1)) : inU U j z := by
  unfold crU at h; unfold inU; omega

theorem step_edge {n : Nat} {U V : Nat → Int} {t : Nat → Rat} (h : SmU n U V t) {i : Nat} {z : Int} (hi : i < n) (c0 : crU U i (z - 1)) (c1 : crU U i z) : wU n U V t i (z - 1) = wU n U V t i z := by
  have hlt : ∀ x : Rat, ¬ x < x := fun x => by grind
  have key : ∀ j, j < n → j ≠ i → inU U j z → yU U V t i z ≠ yU U V t j z := by
    intro j hj hne cj he
    obtain ⟨m, m', hm, _, hz, _⟩ := h.tch i j z hi hj (Ne.symm hne) (cr_inR c1) cj he
    unfold crU at c0 c1
    rcases hm with rfl | rfl <;> omega
  have e1 : sm (upM U V t (z - 1) i) n = sm (upL U V t z (yU U V t i z)) n := by
    apply sm_congr
    intro j hj
    unfold upM upL
    by_cases hji : j = i
    · subst hji; simp [hlt]
    · by_cases cj : crU U j (z - 1)
      · have := sideL h hi hj (Ne.symm hji) c0 cj (key j hj hji (cr_inL cj))
        simp only [cj, this]
      · simp [cj]
  have e2 : sm (upM U V t z i) n = sm (upR U V t z (yU U V t i z)) n := by
    apply sm_congr
    intro j hj
    unfold upM upR
    by_cases hji : j = i
    · subst hji; simp [hlt]
    · by_cases cj : crU U j z
      · have := sideR h hi hj (Ne.symm hji) c1 cj (key j hj hji (cr_inR cj))
        simp only [cj, this]
      · simp [cj]
  unfold wU
  rw [e1, e2, up_LR h.toClU]

theorem cr_mid {U : Nat → Int} {j : Nat} {a b z : Int} (h1 : crU U j a) (h2 : crU U j b) (ha : a ≤ z) (hb : z ≤ b) : crU U j z := by
  unfold crU at *; omega

theorem edge_const {n : Nat} {U V : Nat → Int} {t : Nat → Rat} (h : SmU n U V t) {i : Nat} (hi : i < n) (d : Nat) : ∀ z : Int, crU U i z → crU U i (z + d) → wU n U V t i (z + d) = wU n U V t i z := by
  induction d with
  | zero => intro z _ _; simp
  | succ d ih =>
    intro z h1 h2
    have c := cr_mid (z := z + d) h1 h2 (by omega) (by omega)
    have e : z + ((d + 1 : Nat) : Int) - 1 = z + d := by omega
    rw [← step_edge h hi (by rw [e]; exact c) h2, e, ih z h1 c]

theorem edge_const' {n : Nat} {U V : Nat → Int} {t : Nat → Rat} (h : SmU n U V t) {i : Nat} (hi : i < n) {z z' : Int} (h1 : crU U i z) (h2 : crU U i z') : wU n U V t i z' = wU n U V t i z := by
  rcases Int.le_total z z' with hz | hz
  · have := edge_const h hi (z' - z).toNat z h1 (by rw [show z + ((z' - z).toNat : Int) = z' by omega]; exact h2)
    rwa [show z + ((z' - z).toNat : Int) = z' by omega] at this
  · have := edge_const h hi (z - z').toNat z' h2 (by rw [show z' + ((z - z').toNat : Int) = z by omega]; exact h1)
    rw [show z' + ((z - z').toNat : Int) = z by omega] at this
    exact this.symm

/- at a vertex -/
theorem vertex_far {n : Nat} {U V : Nat → Int} {t : Nat → Rat} (h : SmU n U V t) {k e o j : Nat} (hk : 1 ≤ k) (hkn : k < n) (heo : (e = k - 1 ∧ o = k) ∨ (e = k ∧ o = k - 1)) (hj : j < n) (je : j ≠ e) (jo : j ≠ o)
    (ce : inU U e (U k)) (cj : inU U j (U k)) : yU U V t e (U k) ≠ yU U V t j (U k) := by
  intro he
  have hen : e < n := by omega
  obtain ⟨m, m', hm, hm', hz, hq⟩ := h.tch e j (U k) hen hj (Ne.symm je) ce cj he
  have hne := h.ne e hen
  have : m = k := by
    rcases heo with ⟨rfl, rfl⟩ | ⟨rfl, rfl⟩
    · rcases hm with rfl | rfl
      · rw [show o - 1 + 1 = o by omega] at hne; exact absurd hz hne
      · omega
    · rcases hm with rfl | rfl
      · rfl
      · exact absurd hz.symm hne
  omega

theorem vertex_y {n : Nat} {U V : Nat → Int} {t : Nat → Rat} (h : SmU n U V t) {k e : Nat} (hk : 1 ≤ k) (hkn : k < n) (he : e = k - 1 ∨ e = k) : yU U V t e (U k) = V k := by
  rcases he with rfl | rfl
  · have := h.yt (k - 1) (by omega)
    rwa [show k - 1 + 1 = k by omega] at this
  · exact yU_self U V t e

theorem vertex_R {n : Nat} {U V : Nat → Int} {t : Nat → Rat} (h : SmU n U V t) {k e o : Nat} (hk : 1 ≤ k) (hkn : k < n) (heo : (e = k - 1 ∧ o = k) ∨ (e = k ∧ o = k - 1)) (ce : crU U e (U k)) :
    sm (upM U V t (U k) e) n = sm (upR U V t (U k) (V k)) n + upM U V t (U k) e o := by
  have hlt : ∀ x : Rat, ¬ x < x := fun x => by grind
  have hen : e < n := by omega
  have ye := vertex_y h (e := e) hk hkn (by omega)
  have yo := vertex_y h (e := o) hk hkn (by omega)
  rw [sm_one (f := upM U V t (U k) e) (f' := upR U V t (U k) (V k)) (o := o) (by omega)]
  · have : upR U V t (U k) (V k) o = 0 := by unfold upR; rw [yo]; simp [hlt]
    rw [this]; omega
  · intro j hj hjo
    unfold upM upR
    by_cases hje : j = e
    · subst hje; rw [ye]; simp [hlt]
    · by_cases cj : crU U j (U k)
      · have := sideR h hen hj (Ne.symm hje) ce cj (vertex_far h hk hkn heo hj hje hjo (cr_inR ce) (cr_inR cj))
        rw [ye] at this
        simp only [cj, this]
      · simp [cj]

theorem vertex_L {n : Nat} {U V : Nat → Int} {t : Nat → Rat} (h : SmU n U V t) {k e o : Nat} (hk : 1 ≤ k) (hkn : k < n) (heo : (e = k - 1 ∧ o = k) ∨ (e = k ∧ o = k - 1)) (ce : crU U e (U k - 1)) :
    sm (upM U V t (U k - 1) e) n = sm (upR U V t (U k) (V k)) n + upM U V t (U k - 1) e o := by
  have hlt : ∀ x : Rat, ¬ x < x := fun x => by grind
  have hen : e < n := by omega
  have ye := vertex_y h (e := e) hk hkn (by omega)
  have yo := vertex_y h (e := o) hk hkn (by omega)
  rw [← up_LR h.toClU, sm_one (f := upM U V t (U k - 1) e) (f' := upL U V t (U k) (V k)) (o := o) (by omega)]
  · have : upL U V t (U k) (V k) o = 0 := by unfold upL; rw [yo]; simp [hlt]
    rw [this]; omega
  · intro j hj hjo
    unfold upM upL
    by_cases hje : j = e
    · subst hje; rw [ye]; simp [hlt]
    · by_cases cj : crU U j (U k - 1)
      · have := sideL h hen hj (Ne.symm hje) ce cj (vertex_far h hk hkn heo hj hje hjo (cr_inL ce) (cr_inL cj))
        rw [ye] at this
        simp only [cj, this]
      · simp [cj]
end Go.F

/- Simple closed lines: one constant. -/
namespace Go.F

theorem vertex_step {n : Nat} {U V : Nat → Int} {t : Nat → Rat} (h : SmU n U V t) {k : Nat} (hk : 1 ≤ k) (hkn : k < n) {s s' : Int} (hs : s = U k ∨ s = U k - 1) (hs' : s' = U k ∨ s' = U k - 1)
    (c : crU U (k - 1) s) (c' : crU U k s') : wU n U V t (k - 1) s = wU n U V t k s' := by
  have hn1 := h.ne (k - 1) (by omega)
  have hn2 := h.ne k hkn
  have e1 : sm (upM U V t s (k - 1)) n = sm (upR U V t (U k) (V k)) n + upM U V t s (k - 1) k := by
    rcases hs with rfl | rfl
    · exact vertex_R h hk hkn (.inl ⟨rfl, rfl⟩) c
    · exact vertex_L h hk hkn (.inl ⟨rfl, rfl⟩) c
  have e2 : sm (upM U V t s' k) n = sm (upR U V t (U k) (V k)) n + upM U V t s' k (k - 1) := by
    rcases hs' with rfl | rfl
    · exact vertex_R h hk hkn (.inr ⟨rfl, rfl⟩) c'
    · exact vertex_L h hk hkn (.inr ⟨rfl, rfl⟩) c'
  unfold wU
  rw [e1, e2]
  generalize sm (upR U V t (U k) (V k)) n = B
  have hside : s = s' → hU U V t (k - 1) s < hU U V t k s' ∨ hU U V t k s' < hU U V t (k - 1) s := by
    rintro rfl; exact side_ne h (by omega) hkn (by omega) c c'
  unfold upM sgU
  have hkk : k - 1 + 1 = k := by omega
  have c0 := c
  have c0' := c'
  unfold crU at c0 c0'
  rw [hkk] at hn1 c0
  simp only [hkk]
  by_cases a : U (k - 1) < U k <;> by_cases b : U k < U (k + 1)
  · have q1 : ¬ crU U k s := by unfold crU; omega
    have q2 : ¬ crU U (k - 1) s' := by unfold crU; rw [hkk]; omega
    simp [a, b, q1, q2]
  · have : s = s' := by omega
    subst this
    have hh := hside rfl
    simp only [a, b, c, c', if_true, if_false, true_and]
    rcases hh with hh | hh
    · have : ¬ hU U V t k s < hU U V t (k - 1) s := by grind
      simp [hh, this]; omega
    · have : ¬ hU U V t (k - 1) s < hU U V t k s := by grind
      simp [hh, this]; try omega
  · have : s = s' := by omega
    subst this
    have hh := hside rfl
    simp only [a, b, c, c', if_true, if_false, true_and]
    rcases hh with hh | hh
    · have : ¬ hU U V t k s < hU U V t (k - 1) s := by grind
      simp [hh, this]; try omega
    · have : ¬ hU U V t (k - 1) s < hU U V t k s := by grind
      simp [hh, this]; try omega
  · have q1 : ¬ crU U k s := by unfold crU; omega
    have q2 : ¬ crU U (k - 1) s' := by unfold crU; rw [hkk]; omega
    simp [a, b, q1, q2]

theorem w_const {n : Nat} {U V : Nat → Int} {t : Nat → Rat} (h : SmU n U V t) : ∃ c, ∀ i, i < n → ∀ z, crU U i z → wU n U V t i z = c := by
  have h0 := h.ne 0 (by have := h.n3; omega)
  refine ⟨wU n U V t 0 (min (U 0) (U 1)), ?_⟩
  intro i
  induction i with
  | zero =>
    intro hi z hz
    exact edge_const' h hi (by unfold crU; simp only [Nat.zero_add]; simp only [Nat.zero_add] at h0; omega) hz
  | succ i ih =>
    intro hi z hz
    have n1 := h.ne i (by omega)
    have n2 := h.ne (i + 1) hi
    -- the slabs next to the vertex
    let s : Int := if U i < U (i + 1) then U (i + 1) - 1 else U (i + 1)
    let s' : Int := if U (i + 1) < U (i + 1 + 1) then U (i + 1) else U (i + 1) - 1
    have cs : crU U i s := by unfold crU; simp only [s]; split <;> omega
    have cs' : crU U (i + 1) s' := by unfold crU; simp only [s']; split <;> omega
    have v := vertex_step h (k := i + 1) (by omega) hi (s := s) (s' := s') (by simp only [s]; split <;> omega) (by simp only [s']; split <;> omega) (by simpa using cs) cs'
    rw [edge_const' h hi cs' hz, ← v]
    simpa using ih (by omega) s cs
end Go.F

/- One slab of a simple closed line: the sum of the edges' heights has a sign. -/
namespace Go.F

def altOk (c : Int) : Int → List (Int × Rat) → Prop
  | acc, [] => acc = 0
  | acc, e :: r => acc = (if e.1 = -1 then 1 else 0) - c ∧ altOk c (acc + e.1) r

def wsum : List (Int × Rat) → Rat
  | [] => 0
  | e :: r => (e.1 : Rat) * e.2 + wsum r

theorem alt_neg : ∀ (l : List (Int × Rat)), altOk 1 0 l → l.Pairwise (fun a b => b.2 < a.2) → (∀ e ∈ l, e.1 = 1 ∨ e.1 = -1) → wsum l ≤ 0 ∧ (l ≠ [] → wsum l < 0)
  | [], _, _, _ => by simp [wsum]
  | [e], h, _, _ => by
    exfalso
    simp only [altOk] at h
    split at h <;> omega
  | e :: e' :: r, h, hp, hs => by
    simp only [altOk] at h
    have s1 := hs e (by simp)
    have s2 := hs e' (by simp)
    obtain ⟨h1, h2, h3⟩ := h
    have g1 : e.1 = -1 := by split at h1 <;> omega
    have g2 : e'.1 = 1 := by rw [g1] at h2; split at h2 <;> omega
    rw [g1, g2] at h3
    have ih := alt_neg r (by simpa using h3) (by simp only [List.pairwise_cons] at hp; exact hp.2.2) (fun x hx => hs x (by simp [hx]))
    have lt : e'.2 < e.2 := by simp only [List.pairwise_cons] at hp; exact hp.1 e' (by simp)
    have : wsum (e :: e' :: r) < 0 := by
      simp only [wsum, g1, g2]
      have := ih.1
      have q1 : ((-1 : Int) : Rat) = -1 := rfl
      have q2 : ((1 : Int) : Rat) = 1 := rfl
      rw [q1, q2]
      grind
    exact ⟨by grind, fun _ => this⟩

theorem alt_pos : ∀ (l : List (Int × Rat)), altOk 0 0 l → l.Pairwise (fun a b => b.2 < a.2) → (∀ e ∈ l, e.1 = 1 ∨ e.1 = -1) → 0 ≤ wsum l ∧ (l ≠ [] → 0 < wsum l)
  | [], _, _, _ => by simp [wsum]
  | [e], h, _, hs => by
    exfalso
    have s1 := hs e (by simp)
    simp only [altOk] at h
    split at h <;> omega
  | e :: e' :: r, h, hp, hs => by
    simp only [altOk] at h
    have s1 := hs e (by simp)
    have s2 := hs e' (by simp)
    obtain ⟨h1, h2, h3⟩ := h
    have g1 : e.1 = 1 := by split at h1 <;> omega
    have g2 : e'.1 = -1 := by rw [g1] at h2; split at h2 <;> omega
    rw [g1, g2] at h3
    have ih := alt_pos r (by simpa using h3) (by simp only [List.pairwise_cons] at hp; exact hp.2.2) (fun x hx => hs x (by simp [hx]))
    have lt : e'.2 < e.2 := by simp only [List.pairwise_cons] at hp; exact hp.1 e' (by simp)
    have : 0 < wsum (e :: e' :: r) := by
      simp only [wsum, g1, g2]
      have := ih.1
      have q1 : ((-1 : Int) : Rat) = -1 := rfl
      have q2 : ((1 : Int) : Rat) = 1 := rfl
      rw [q1, q2]
      grind
    exact ⟨by grind, fun _ => this⟩

theorem perm_wsum {l l' : List (Int × Rat)} (h : l.Perm l') : wsum l = wsum l' := by
  induction h with
  | nil => rfl
  | cons x _ ih => simp only [wsum, ih]
  | swap x y l => simp only [wsum]; grind
  | trans _ _ h1 h2 => rw [h1, h2]

def upS (h : Rat) : List (Int × Rat) → Int
  | [] => 0
  | e :: r => (if h < e.2 then e.1 else 0) + upS h r

def totS : List (Int × Rat) → Int
  | [] => 0
  | e :: r => e.1 + totS r

theorem perm_upS {h : Rat} {l l' : List (Int × Rat)} (hp : l.Perm l') : upS h l = upS h l' := by
  induction hp with
  | nil => rfl
  | cons x _ ih => simp only [upS, ih]
  | swap x y l => simp only [upS]; omega
  | trans _ _ h1 h2 => rw [h1, h2]

theorem perm_totS {l l' : List (Int × Rat)} (hp : l.Perm l') : totS l = totS l' := by
  induction hp with
  | nil => rfl
  | cons x _ ih => simp only [totS, ih]
  | swap x y l => simp only [totS]; omega
  | trans _ _ h1 h2 => rw [h1, h2]

theorem upS_none {h : Rat} {l : List (Int × Rat)} (hl : ∀ e ∈ l, ¬ h < e.2) : upS h l = 0 := by
  induction l with
  | nil => rfl
  | cons e r ih => simp [upS, ih (fun x hx => hl x (by simp [hx])), hl e (by simp)]

theorem upS_append (h : Rat) (l l' : List (Int × Rat)) : upS h (l ++ l') = upS h l + upS h l' := by
  induction l with
  | nil => simp [upS]
  | cons e r ih => simp only [List.cons_append, upS, ih]; omega

theorem upS_all {h : Rat} {l : List (Int × Rat)} (hl : ∀ e ∈ l, h < e.2) : upS h l = totS l := by
  induction l with
  | nil => rfl
  | cons e r ih => simp [upS, totS, ih (fun x hx => hl x (by simp [hx])), hl e (by simp)]

theorem totS_append (l l' : List (Int × Rat)) : totS (l ++ l') = totS l + totS l' := by
  induction l with
  | nil => simp [totS]
  | cons e r ih => simp only [List.cons_append, totS, ih]; omega

/- a sorted list with the counts above is in turns -/
theorem alt_of {c : Int} : ∀ (r pre : List (Int × Rat)), (pre ++ r).Pairwise (fun a b => b.2 < a.2) → (∀ e ∈ r, upS e.2 (pre ++ r) = (if e.1 = -1 then 1 else 0) - c) → totS (pre ++ r) = 0 → altOk c (totS pre) r
  | [], pre, _, _, ht => by simpa [altOk] using ht
  | e :: r, pre, hp, hu, ht => by
    have hpp := List.pairwise_append.1 hp
    have h1 : upS e.2 pre = totS pre := upS_all (fun x hx => hpp.2.2 x hx e (by simp))
    have h2 : upS e.2 (e :: r) = 0 := by
      apply upS_none
      intro x hx
      rcases List.mem_cons.1 hx with rfl | hx
      · grind
      · have := (List.pairwise_cons.1 hpp.2.1).1 x hx
        grind
    have h3 := hu e (by simp)
    rw [upS_append, h1, h2] at h3
    refine ⟨by omega, ?_⟩
    have e1 : pre ++ e :: r = (pre ++ [e]) ++ r := by simp
    have := alt_of (c := c) r (pre ++ [e]) (by rw [← e1]; exact hp) (fun x hx => by rw [← e1]; exact hu x (by simp [hx])) (by rw [← e1]; exact ht)
    rw [totS_append] at this
    simpa [totS] using this

theorem sorted_of {l : List (Int × Rat)} (hd : l.Pairwise (fun a b => a.2 ≠ b.2)) : ∃ l', l.Perm l' ∧ l'.Pairwise (fun a b => b.2 < a.2) := by
  refine ⟨l.mergeSort (fun a b => decide (b.2 ≤ a.2)), (List.mergeSort_perm _ _).symm, ?_⟩
  have h1 := List.pairwise_mergeSort (le := fun (a b : Int × Rat) => decide (b.2 ≤ a.2)) (fun a b c h1 h2 => by simp at *; grind) (fun a b => by simp; grind) l
  have h2 := ((List.mergeSort_perm l (fun a b => decide (b.2 ≤ a.2))).pairwise_iff (R := fun a b => a.2 ≠ b.2) (fun h => Ne.symm h)).2 hd
  refine (List.pairwise_and_iff.2 ⟨h1, h2⟩).imp ?_
  intro a b ⟨g1, g2⟩
  simp at g1
  grind
end Go.F

/- One slab of a simple closed line, and the sum over all slabs. -/
namespace Go.F

def slabL (n : Nat) (U V : Nat → Int) (t : Nat → Rat) (z : Int) : List (Int × Rat) := ((List.range n).filter (fun j => decide (crU U j z))).map (fun j => (sgU U j, hU U V t j z))

def slabS (n : Nat) (U V : Nat → Int) (t : Nat → Rat) (z : Int) : Rat := sm (fun j => if crU U j z then (sgU U j : Rat) * hU U V t j z else 0) n

theorem wsum_append (l l' : List (Int × Rat)) : wsum (l ++ l') = wsum l + wsum l' := by
  induction l with
  | nil => simp [wsum]; grind
  | cons e r ih => simp only [List.cons_append, wsum, ih]; grind

theorem slabL_succ (n : Nat) (U V : Nat → Int) (t : Nat → Rat) (z : Int) : slabL (n + 1) U V t z = slabL n U V t z ++ (if crU U n z then [(sgU U n, hU U V t n z)] else []) := by
  unfold slabL
  rw [List.range_succ, List.filter_append, List.map_append]
  congr 1
  by_cases h : crU U n z <;> simp [h]

theorem slab_wsum (n : Nat) (U V : Nat → Int) (t : Nat → Rat) (z : Int) : wsum (slabL n U V t z) = slabS n U V t z := by
  unfold slabS
  induction n with
  | zero => rfl
  | succ k ih =>
    rw [slabL_succ, wsum_append, ih, sm]
    by_cases h : crU U k z
    · simp only [h, if_true, wsum]; grind
    · simp only [h, if_false, wsum]

theorem slab_up (n : Nat) (U V : Nat → Int) (t : Nat → Rat) (z : Int) (i : Nat) : upS (hU U V t i z) (slabL n U V t z) = sm (upM U V t z i) n := by
  induction n with
  | zero => rfl
  | succ k ih =>
    rw [slabL_succ, upS_append, ih, sm]
    unfold upM
    by_cases h : crU U k z
    · simp only [h, if_true, upS, true_and]; omega
    · simp only [h, if_false, upS, false_and]

theorem slab_tot (n : Nat) (U V : Nat → Int) (t : Nat → Rat) (z : Int) : totS (slabL n U V t z) = sm (fun j => if crU U j z then sgU U j else 0) n := by
  induction n with
  | zero => rfl
  | succ k ih =>
    rw [slabL_succ, totS_append, ih, sm]
    by_cases h : crU U k z
    · simp only [h, if_true, totS]; omega
    · simp only [h, if_false, totS]

theorem tot_zero {n : Nat} {U V : Nat → Int} {t : Nat → Rat} (h : ClU n U V t) (z : Int) : sm (fun j => if crU U j z then sgU U j else 0) n = 0 := by
  have := sm_tele (f := fun j => if crU U j z then sgU U j else 0) (f' := fun _ => 0) (g := fun m => if z < U m then 1 else 0) (n := n) ?_
  · rw [h.cU] at this
    have h0 : sm (fun _ => (0 : Int)) n = 0 := by
      clear this
      generalize n = m
      induction m with
      | zero => rfl
      | succ k ih => rw [sm, ih]; rfl
    omega
  · intro j _
    unfold sgU
    by_cases c : crU U j z
    · simp only [c, if_true]; unfold crU at c
      repeat' split
      all_goals omega
    · simp only [c, if_false]; unfold crU at c
      repeat' split
      all_goals omega

theorem mem_slab {n : Nat} {U V : Nat → Int} {t : Nat → Rat} {z : Int} {e : Int × Rat} (h : e ∈ slabL n U V t z) : ∃ j, j < n ∧ crU U j z ∧ e = (sgU U j, hU U V t j z) := by
  unfold slabL at h
  simp only [List.mem_map, List.mem_filter, List.mem_range, decide_eq_true_eq] at h
  obtain ⟨j, ⟨h1, h2⟩, h3⟩ := h
  exact ⟨j, h1, h2, h3.symm⟩

theorem slab_pw {n : Nat} {U V : Nat → Int} {t : Nat → Rat} (h : SmU n U V t) (z : Int) : (slabL n U V t z).Pairwise (fun a b => a.2 ≠ b.2) := by
  unfold slabL
  rw [List.pairwise_map, List.pairwise_filter]
  refine List.Pairwise.imp_of_mem ?_ (List.pairwise_lt_range (n := n))
  intro a b ha hb hab ca cb he
  simp only [decide_eq_true_eq, List.mem_range] at *
  rcases side_ne h ha hb (by omega) ca cb with g | g <;> grind

theorem slab_alt {n : Nat} {U V : Nat → Int} {t : Nat → Rat} (h : SmU n U V t) {c : Int} (hc : ∀ i, i < n → ∀ z, crU U i z → wU n U V t i z = c) (z : Int) :
    ∃ l', (slabL n U V t z).Perm l' ∧ l'.Pairwise (fun a b => b.2 < a.2) ∧ altOk c 0 l' ∧ ∀ e ∈ l', e.1 = 1 ∨ e.1 = -1 := by
  obtain ⟨l', hp, hs⟩ := sorted_of (slab_pw h z)
  refine ⟨l', hp, hs, ?_, ?_⟩
  · refine alt_of (c := c) l' [] hs ?_ ?_
    · intro e he
      obtain ⟨j, hj, cj, rfl⟩ := mem_slab (hp.mem_iff.2 he)
      simp only [List.nil_append]
      rw [← perm_upS hp, slab_up, ← hc j hj z cj]
      unfold wU
      omega
    · rw [List.nil_append, ← perm_totS hp, slab_tot, tot_zero h.toClU]
  · intro e he
    obtain ⟨j, hj, cj, rfl⟩ := mem_slab (hp.mem_iff.2 he)
    unfold sgU
    simp only
    split <;> simp

theorem perm_nil {l l' : List (Int × Rat)} (hp : l.Perm l') (h : l ≠ []) : l' ≠ [] := by
  intro e; subst e; exact h hp.eq_nil

theorem slab_sign {n : Nat} {U V : Nat → Int} {t : Nat → Rat} (h : SmU n U V t) :
    (∀ z, slabS n U V t z ≤ 0 ∧ (∀ i, i < n → crU U i z → slabS n U V t z < 0)) ∨ (∀ z, 0 ≤ slabS n U V t z ∧ (∀ i, i < n → crU U i z → 0 < slabS n U V t z)) := by
  obtain ⟨c, hc⟩ := w_const h
  have mem : ∀ z i, i < n → crU U i z → slabL n U V t z ≠ [] := by
    intro z i hi ci he
    have : (sgU U i, hU U V t i z) ∈ slabL n U V t z := by
      unfold slabL
      simp only [List.mem_map, List.mem_filter, List.mem_range, decide_eq_true_eq]
      exact ⟨i, ⟨hi, ci⟩, rfl⟩
    rw [he] at this
    exact absurd this (by simp)
  have c01 : c = 0 ∨ c = 1 := by
    have h0 := h.ne 0 (by have := h.n3; omega)
    have c0 : crU U 0 (min (U 0) (U 1)) := by unfold crU; simp only [Nat.zero_add] at *; omega
    obtain ⟨l', hp, hs, ha, _⟩ := slab_alt h hc (min (U 0) (U 1))
    have := perm_nil hp (mem _ 0 (by have := h.n3; omega) c0)
    cases l' with
    | nil => exact absurd rfl this
    | cons e r =>
      simp only [altOk] at ha
      have := ha.1
      split at this <;> omega
  rcases c01 with rfl | rfl
  · right
    intro z
    obtain ⟨l', hp, hs, ha, h1⟩ := slab_alt h hc z
    have k := alt_pos l' ha hs h1
    rw [← perm_wsum hp, slab_wsum] at k
    exact ⟨k.1, fun i hi ci => k.2 (perm_nil hp (mem z i hi ci))⟩
  · left
    intro z
    obtain ⟨l', hp, hs, ha, h1⟩ := slab_alt h hc z
    have k := alt_neg l' ha hs h1
    rw [← perm_wsum hp, slab_wsum] at k
    exact ⟨k.1, fun i hi ci => k.2 (perm_nil hp (mem z i hi ci))⟩
end Go.F

/- The sum over all slabs is twice the area, with its sign turned. -/
namespace Go.F

theorem sm_add {f g : Nat → Rat} {n : Nat} : sm (fun j => f j + g j) n = sm f n + sm g n := by
  induction n with
  | zero => simp [sm]; grind
  | succ k ih => simp only [sm, ih]; grind

theorem sm_zero {n : Nat} : sm (fun _ => (0 : Rat)) n = 0 := by
  induction n with
  | zero => rfl
  | succ k ih => rw [sm, ih]; grind

theorem sm_swap (f : Nat → Nat → Rat) (n N : Nat) : sm (fun k => sm (fun j => f k j) n) N = sm (fun j => sm (fun k => f k j) N) n := by
  induction N with
  | zero => simp only [sm]; exact sm_zero.symm
  | succ K ih => simp only [sm]; rw [sm_add, ih]

theorem sm_mul {f : Nat → Rat} {n : Nat} (q : Rat) : sm (fun j => q * f j) n = q * sm f n := by
  induction n with
  | zero => simp [sm]
  | succ k ih => simp only [sm, ih]; grind

/- one edge -/
theorem edge_sum (a b lo : Int) (y0 t : Rat) (hab : a ≤ b) (hlo : lo ≤ a) (N : Nat) :
    sm (fun k => if a ≤ lo + (k : Int) ∧ lo + (k : Int) < b then (y0 + t * (((lo + (k : Int) : Int) : Rat) - a)) + (y0 + t * (((lo + (k : Int) + 1 : Int) : Rat) - a)) else (0 : Rat)) N
      = (((max a (min b (lo + N)) : Int) : Rat) - a) * (2 * y0 + t * (((max a (min b (lo + N)) : Int) : Rat) - a)) := by
  induction N with
  | zero =>
    have : max a (min b (lo + ((0 : Nat) : Int))) = a := by omega
    rw [this, sm]; grind
  | succ k ih =>
    rw [sm, ih]
    by_cases h : a ≤ lo + (k : Int) ∧ lo + (k : Int) < b
    · rw [if_pos h]
      have e1 : max a (min b (lo + (k : Int))) = lo + k := by omega
      have e2 : max a (min b (lo + ((k + 1 : Nat) : Int))) = lo + k + 1 := by omega
      rw [e1, e2]
      generalize lo + (k : Int) = z
      rw [Rat.intCast_add]
      have : ((1 : Int) : Rat) = 1 := rfl
      rw [this]
      grind
    · rw [if_neg h]
      have e1 : max a (min b (lo + ((k + 1 : Nat) : Int))) = max a (min b (lo + (k : Int))) := by omega
      rw [e1]; grind

theorem edge_area {n : Nat} {U V : Nat → Int} {t : Nat → Rat} (h : ClU n U V t) {j : Nat} (hj : j < n) (lo : Int) (N : Nat) (h1 : lo ≤ U j) (h2 : lo ≤ U (j + 1)) (h3 : U j ≤ lo + N) (h4 : U (j + 1) ≤ lo + N) :
    sm (fun k => if crU U j (lo + (k : Int)) then (sgU U j : Rat) * hU U V t j (lo + (k : Int)) else 0) N = ((U (j + 1) - U j : Int) : Rat) * ((V j : Rat) + V (j + 1)) := by
  have hne := h.ne j hj
  have hy := h.yt j hj
  unfold yU at hy
  by_cases hlt : U j < U (j + 1)
  · have hs : sgU U j = 1 := by unfold sgU; simp [hlt]
    have e := edge_sum (U j) (U (j + 1)) lo (V j) (t j) (by omega) h1 N
    rw [show max (U j) (min (U (j + 1)) (lo + (N : Int))) = U (j + 1) by omega] at e
    rw [sm_congr (g := fun k => if U j ≤ lo + (k : Int) ∧ lo + (k : Int) < U (j + 1) then ((V j : Rat) + t j * (((lo + (k : Int) : Int) : Rat) - U j)) + (V j + t j * (((lo + (k : Int) + 1 : Int) : Rat) - U j)) else (0 : Rat)), e]
    · rw [Rat.intCast_sub]; grind
    · intro k _
      have : crU U j (lo + (k : Int)) ↔ U j ≤ lo + (k : Int) ∧ lo + (k : Int) < U (j + 1) := by unfold crU; omega
      simp only [this, hs, hU, yU]
      have : ((1 : Int) : Rat) = 1 := rfl
      rw [this]
      split <;> grind
  · have hs : sgU U j = -1 := by unfold sgU; simp [hlt]
    have e := edge_sum (U (j + 1)) (U j) lo (V (j + 1)) (t j) (by omega) h2 N
    rw [show max (U (j + 1)) (min (U j) (lo + (N : Int))) = U j by omega] at e
    rw [sm_congr (g := fun k => (-1) * (if U (j + 1) ≤ lo + (k : Int) ∧ lo + (k : Int) < U j then ((V (j + 1) : Rat) + t j * (((lo + (k : Int) : Int) : Rat) - U (j + 1))) + (V (j + 1) + t j * (((lo + (k : Int) + 1 : Int) : Rat) - U (j + 1))) else (0 : Rat))), sm_mul, e]
    · rw [Rat.intCast_sub]; grind
    · intro k _
      have : crU U j (lo + (k : Int)) ↔ U (j + 1) ≤ lo + (k : Int) ∧ lo + (k : Int) < U j := by unfold crU; omega
      simp only [this, hs, hU, yU]
      have : ((-1 : Int) : Rat) = -1 := rfl
      rw [this]
      split <;> grind

theorem slabs_area {n : Nat} {U V : Nat → Int} {t : Nat → Rat} (h : ClU n U V t) (lo : Int) (N : Nat) (h1 : ∀ j, j ≤ n → lo ≤ U j ∧ U j ≤ lo + N) :
    sm (fun k => slabS n U V t (lo + (k : Int))) N = ((sm (fun j => U (j + 1) * V j - U j * V (j + 1)) n : Int) : Rat) := by
  unfold slabS
  rw [sm_swap, sm_congr (fun j hj => edge_area h hj lo N (h1 j (by omega)).1 (h1 (j + 1) (by omega)).1 (h1 j (by omega)).2 (h1 (j + 1) (by omega)).2)]
  have key : ∀ m, sm (fun j => ((U (j + 1) - U j : Int) : Rat) * ((V j : Rat) + V (j + 1))) m = ((sm (fun j => U (j + 1) * V j - U j * V (j + 1)) m + (U m * V m - U 0 * V 0) : Int) : Rat) := by
    intro m
    induction m with
    | zero => simp [sm]
    | succ k ih =>
      rw [sm, ih, sm]
      simp only [Rat.intCast_add, Rat.intCast_sub, Rat.intCast_mul]
      grind
  rw [key n, h.cU, h.cV]
  congr 1
  omega

theorem sm_neg_of {f : Nat → Rat} {N k : Nat} (h : ∀ j, f j ≤ 0) (hk : k < N) (h2 : f k < 0) : sm f N < 0 := by
  have le : ∀ M, sm f M ≤ 0 := by
    intro M
    induction M with
    | zero => simp [sm]
    | succ j ih => rw [sm]; have := h j; grind
  induction N with
  | zero => omega
  | succ j ih =>
    rw [sm]
    by_cases hj : k = j
    · subst hj; have := le k; grind
    · have := ih (by omega); have := h j; grind

theorem sm_pos_of {f : Nat → Rat} {N k : Nat} (h : ∀ j, 0 ≤ f j) (hk : k < N) (h2 : 0 < f k) : 0 < sm f N := by
  have le : ∀ M, 0 ≤ sm f M := by
    intro M
    induction M with
    | zero => simp [sm]
    | succ j ih => rw [sm]; have := h j; grind
  induction N with
  | zero => omega
  | succ j ih =>
    rw [sm]
    by_cases hj : k = j
    · subst hj; have := le k; grind
    · have := ih (by omega); have := h j; grind

/- some whole numbers below and above all -/
theorem bounds (U : Nat → Int) (n : Nat) : ∃ (lo : Int) (N : Nat), ∀ j, j ≤ n → lo ≤ U j ∧ U j ≤ lo + N := by
  induction n with
  | zero => exact ⟨U 0, 0, fun j hj => by have : j = 0 := by omega
                                          subst this; omega⟩
  | succ k ih =>
    obtain ⟨lo, N, h⟩ := ih
    refine ⟨min lo (U (k + 1)), (max (lo + N) (U (k + 1)) - min lo (U (k + 1))).toNat, ?_⟩
    intro j hj
    by_cases e : j = k + 1
    · subst e; omega
    · have := h j (by omega); omega

theorem area_ne {n : Nat} {U V : Nat → Int} {t : Nat → Rat} (h : SmU n U V t) : sm (fun j => U (j + 1) * V j - U j * V (j + 1)) n ≠ 0 := by
  obtain ⟨lo, N, hb⟩ := bounds U n
  have e := slabs_area h.toClU lo N hb
  have h3 := h.n3
  have hn := h.ne 0 (by omega)
  have b0 := hb 0 (by omega)
  have b1 := hb 1 (by omega)
  simp only [Nat.zero_add] at hn
  have c0 : crU U 0 (lo + (((min (U 0) (U 1)) - lo).toNat : Int)) := by unfold crU; simp only [Nat.zero_add]; omega
  have hk : ((min (U 0) (U 1)) - lo).toNat < N := by omega
  intro hz
  rw [hz] at e
  have e0 : ((0 : Int) : Rat) = 0 := rfl
  rcases slab_sign h with g | g
  · have := sm_neg_of (f := fun k => slabS n U V t (lo + (k : Int))) (fun j => (g _).1) hk ((g _).2 0 (by omega) c0)
    rw [e, e0] at this; grind
  · have := sm_pos_of (f := fun k => slabS n U V t (lo + (k : Int))) (fun j => (g _).1) hk ((g _).2 0 (by omega) c0)
    rw [e, e0] at this; grind
end Go.F

/- The area of a simple polygon is not zero. -/
namespace Go.F

def vx (p : List Spot) (i : Nat) : Spot := pt p (i % p.length)
def shU (p : List Spot) (i : Nat) : Int := 16777216 * (vx p i).x + (vx p i).y
def shV (p : List Spot) (i : Nat) : Int := (vx p i).y
def shT (p : List Spot) (i : Nat) : Rat := ((shV p (i + 1) : Rat) - shV p i) / ((shU p (i + 1) : Rat) - shU p i)

def yR (p : List Spot) (j : Nat) (u : Rat) : Rat := (shV p j : Rat) + shT p j * (u - (shU p j : Rat))

def inR (p : List Spot) (j : Nat) (u : Rat) : Prop := ((shU p j : Rat) ≤ u ∧ u ≤ (shU p (j + 1) : Rat)) ∨ ((shU p (j + 1) : Rat) ≤ u ∧ u ≤ (shU p j : Rat))

theorem ratTot (a b : Rat) : a ≤ b ∨ b ≤ a := Rat.le_total

theorem quot_nonneg {a b r : Rat} (hb : 0 ≤ b) (hb0 : b ≠ 0) (h : r * b = a) (ha : 0 ≤ a) : 0 ≤ r := by
  rcases ratTot 0 r with g | g
  · exact g
  · have k := Rat.mul_nonneg (show 0 ≤ -r by grind) hb
    have : r * b = 0 := by grind
    rcases Rat.mul_eq_zero.1 this with e | e
    · grind
    · exact absurd e hb0

theorem cancelQ {a b c : Rat} (h : c ≠ 0) (he : a * c = b * c) : a = b := by
  have h1 : (a - b) * c = 0 := by grind
  rcases Rat.mul_eq_zero.1 h1 with h2 | h2
  · grind
  · exact absurd h2 h

theorem vx_lt {p : List Spot} {i : Nat} (h : i < p.length) : vx p i = pt p i := by unfold vx; rw [Nat.mod_eq_of_lt h]

theorem shU_ne {p : List Spot} [OkP p] (hs : SimpleR p) {i : Nat} (hi : i < p.length) : shU p i ≠ shU p (i + 1) := by
  have h := (hs i hi).1.1
  rw [← vx_lt hi] at h
  have e : pt p ((i + 1) % p.length) = vx p (i + 1) := rfl
  rw [e] at h
  have b1 : OkS (vx p i) := by unfold vx; exact inferInstance
  have b2 : OkS (vx p (i + 1)) := by unfold vx; exact inferInstance
  have := b1.bx; have := b1.byy; have := b2.bx; have := b2.byy
  unfold shU
  intro he
  apply h
  generalize vx p i = a at *
  generalize vx p (i + 1) = b at *
  cases a; cases b
  simp only [Spot.mk.injEq] at *
  omega

theorem int_neq {a b : Int} (h : a ≠ b) : (b : Rat) - (a : Rat) ≠ 0 := by
  rw [← Rat.intCast_sub]; intro hh; rw [Rat.intCast_eq_zero_iff] at hh; omega

theorem point_of {p : List Spot} {j : Nat} {u : Rat} (hne : shU p j ≠ shU p (j + 1)) (h : inR p j u) :
    ∃ s : Rat, 0 ≤ s ∧ s ≤ 1 ∧ u = shU p j + ((shU p (j + 1) : Rat) - shU p j) * s ∧ onP (qp (vx p j)) (qp (vx p (j + 1))) s = ⟨(u - yR p j u) / 16777216, yR p j u⟩ := by
  have hd := int_neq hne
  have hs := Rat.div_mul_cancel (a := u - (shU p j : Rat)) hd
  have ht := Rat.div_mul_cancel (a := (shV p (j + 1) : Rat) - shV p j) hd
  refine ⟨(u - (shU p j : Rat)) / ((shU p (j + 1) : Rat) - shU p j), ?_, ?_, ?_, ?_⟩
  · generalize hS : (u - (shU p j : Rat)) / ((shU p (j + 1) : Rat) - shU p j) = s at *
    rcases ratTot 0 s with g | g
    · exact g
    · unfold inR at h
      have h1 := Rat.mul_nonneg (show 0 ≤ -s by grind) (show (0 : Rat) ≤ 1 by decide)
      rcases h with ⟨h1, h2⟩ | ⟨h1, h2⟩
      · have k := Rat.mul_nonneg (show 0 ≤ -s by grind) (show 0 ≤ ((shU p (j + 1) : Rat) - shU p j) by grind)
        have : s * ((shU p (j + 1) : Rat) - shU p j) = 0 := by grind
        rcases Rat.mul_eq_zero.1 this with e | e
        · grind
        · exact absurd e hd
      · have k := Rat.mul_nonneg (show 0 ≤ -s by grind) (show 0 ≤ ((shU p j : Rat) - shU p (j + 1)) by grind)
        have : s * ((shU p (j + 1) : Rat) - shU p j) = 0 := by grind
        rcases Rat.mul_eq_zero.1 this with e | e
        · grind
        · exact absurd e hd
  · generalize hS : (u - (shU p j : Rat)) / ((shU p (j + 1) : Rat) - shU p j) = s at *
    rcases ratTot s 1 with g | g
    · exact g
    · unfold inR at h
      rcases h with ⟨h1, h2⟩ | ⟨h1, h2⟩
      · have k := Rat.mul_nonneg (show 0 ≤ s - 1 by grind) (show 0 ≤ ((shU p (j + 1) : Rat) - shU p j) by grind)
        have : (s - 1) * ((shU p (j + 1) : Rat) - shU p j) = 0 := by grind
        rcases Rat.mul_eq_zero.1 this with e | e
        · grind
        · exact absurd e hd
      · have k := Rat.mul_nonneg (show 0 ≤ s - 1 by grind) (show 0 ≤ ((shU p j : Rat) - shU p (j + 1)) by grind)
        have : (s - 1) * ((shU p (j + 1) : Rat) - shU p j) = 0 := by grind
        rcases Rat.mul_eq_zero.1 this with e | e
        · grind
        · exact absurd e hd
  · grind
  · have hy : yR p j u = (shV p j : Rat) + ((shV p (j + 1) : Rat) - shV p j) * ((u - (shU p j : Rat)) / ((shU p (j + 1) : Rat) - shU p j)) := by
      unfold yR shT
      congr 1
      apply cancelQ hd
      grind
    rw [hy]
    generalize hS : (u - (shU p j : Rat)) / ((shU p (j + 1) : Rat) - shU p j) = s at *
    have hu : u = shU p j + ((shU p (j + 1) : Rat) - shU p j) * s := by grind
    rw [hu]
    have e1 : (shU p j : Rat) = 16777216 * ((vx p j).x : Rat) + ((vx p j).y : Rat) := by unfold shU; rw [Rat.intCast_add, Rat.intCast_mul]; rfl
    have e2 : (shU p (j + 1) : Rat) = 16777216 * ((vx p (j + 1)).x : Rat) + ((vx p (j + 1)).y : Rat) := by unfold shU; rw [Rat.intCast_add, Rat.intCast_mul]; rfl
    have e3 : (shV p j : Rat) = ((vx p j).y : Rat) := rfl
    have e4 : (shV p (j + 1) : Rat) = ((vx p (j + 1)).y : Rat) := rfl
    rw [e1, e2, e3, e4]
    unfold onP addP scaleP subP qp
    simp only [QP.mk.injEq]
    refine ⟨?_, trivial⟩
    generalize ((vx p j).x : Rat) = a
    generalize ((vx p j).y : Rat) = b
    generalize ((vx p (j + 1)).x : Rat) = c
    generalize ((vx p (j + 1)).y : Rat) = d
    have k : (16777216 : Rat) ≠ 0 := by decide
    apply cancelQ k
    rw [Rat.div_mul_cancel k]
    grind

theorem adj_touch {a b c : Spot} (hon1 : onS a b c = false) (hon2 : onS b c a = false) {s t : Rat} (hs0 : 0 ≤ s) (hs1 : s ≤ 1) (ht0 : 0 ≤ t) (ht1 : t ≤ 1) (he : onP (qp a) (qp b) s = onP (qp b) (qp c) t) : s = 1 ∧ t = 0 := by
  have hx : (a.x : Rat) + ((b.x : Rat) - a.x) * s = b.x + ((c.x : Rat) - b.x) * t := congrArg QP.x he
  have hy : (a.y : Rat) + ((b.y : Rat) - a.y) * s = b.y + ((c.y : Rat) - b.y) * t := congrArg QP.y he
  rcases ratTot t (1 - s) with h | h
  · by_cases h0 : 1 - s = 0
    · constructor <;> grind
    · exfalso
      have hr := Rat.div_mul_cancel (a := t) h0
      have hp : 0 < 1 - s := by grind
      have r0 : 0 ≤ t / (1 - s) := quot_nonneg (by grind) h0 hr ht0
      have r1 : t / (1 - s) ≤ 1 := by
        generalize t / (1 - s) = r at *
        rcases ratTot r 1 with g | g
        · exact g
        · have k := Rat.mul_nonneg (show 0 ≤ r - 1 by grind) (show 0 ≤ 1 - s by grind)
          have : (r - 1) * (1 - s) = 0 := by grind
          rcases Rat.mul_eq_zero.1 this with e | e
          · grind
          · exact absurd e h0
      have : onS b c a = true := by
        refine on_of r0 r1 ?_
        generalize t / (1 - s) = r at *
        unfold onP addP scaleP subP qp
        simp only [QP.mk.injEq]
        constructor
        · apply cancelQ h0; grind
        · apply cancelQ h0; grind
      rw [hon2] at this; cases this
  · by_cases h0 : t = 0
    · constructor <;> grind
    · exfalso
      have hr := Rat.div_mul_cancel (a := 1 - s) h0
      have r0 : 0 ≤ (1 - s) / t := quot_nonneg ht0 h0 hr (by grind)
      have r1 : (1 - s) / t ≤ 1 := by
        generalize (1 - s) / t = r at *
        rcases ratTot r 1 with g | g
        · exact g
        · have k := Rat.mul_nonneg (show 0 ≤ r - 1 by grind) ht0
          have : (r - 1) * t = 0 := by grind
          rcases Rat.mul_eq_zero.1 this with e | e
          · grind
          · exact absurd e h0
      have : onS a b c = true := by
        refine on_of (s := 1 - (1 - s) / t) (by grind) (by grind) ?_
        generalize (1 - s) / t = r at *
        unfold onP addP scaleP subP qp
        simp only [QP.mk.injEq]
        constructor
        · apply cancelQ h0; grind
        · apply cancelQ h0; grind
      rw [hon1] at this; cases this

theorem touch1 {p : List Spot} [OkP p] (hs : SimpleR p) (h3 : 3 ≤ p.length) {i j : Nat} (hj : j < p.length) (hij : i < j) {u : Rat} (ci : inR p i u) (cj : inR p j u) (he : yR p i u = yR p j u) :
    ∃ m m', (m = i ∨ m = i + 1) ∧ (m' = j ∨ m' = j + 1) ∧ (shU p m : Rat) = u ∧ (m = m' ∨ (m = 0 ∧ m' = p.length) ∨ (m = p.length ∧ m' = 0)) := by
  have hi : i < p.length := by omega
  obtain ⟨s, s0, s1, su, sp⟩ := point_of (shU_ne hs hi) ci
  obtain ⟨t, t0, t1, tu, tp⟩ := point_of (shU_ne hs hj) cj
  have hc : onP (qp (vx p i)) (qp (vx p (i + 1))) s = onP (qp (vx p j)) (qp (vx p (j + 1))) t := by rw [sp, tp, he]
  by_cases ha : j = i + 1
  · subst ha
    have h2 := (hs i hi).1.2
    have e : pt p ((i + 2) % p.length) = vx p (i + 1 + 1) := rfl
    have e' : pt p ((i + 1) % p.length) = vx p (i + 1) := rfl
    rw [← vx_lt hi, e, e'] at h2
    obtain ⟨r1, r2⟩ := adj_touch h2.1 h2.2 s0 s1 t0 t1 hc
    exact ⟨i + 1, i + 1, .inr rfl, .inl rfl, by rw [su, r1]; grind, .inl rfl⟩
  · by_cases hb : (j + 1) % p.length = i
    · have hj1 : j + 1 = p.length := by
        rcases Nat.lt_or_ge (j + 1) p.length with g | g
        · rw [Nat.mod_eq_of_lt g] at hb; omega
        · omega
      rw [hj1, Nat.mod_self] at hb
      subst hb
      have h2 := (hs j hj).1.2
      have e0 : vx p (j + 1) = vx p 0 := by unfold vx; rw [hj1, Nat.mod_self, Nat.zero_mod]
      have e : pt p ((j + 2) % p.length) = vx p (0 + 1) := by
        unfold vx
        rw [show j + 2 = p.length + 1 by omega, Nat.add_mod_left]
      have e' : pt p ((j + 1) % p.length) = vx p (j + 1) := rfl
      rw [← vx_lt hj, e, e', e0] at h2
      rw [e0] at hc
      obtain ⟨r1, r2⟩ := adj_touch h2.1 h2.2 t0 t1 s0 s1 hc.symm
      refine ⟨0, j + 1, .inl rfl, .inr rfl, ?_, .inr (.inl ⟨rfl, hj1⟩)⟩
      rw [su, r2]; grind
    · exfalso
      have h2 := (hs i hi).2 j hj (by omega) hb
      have n1 := (hs i hi).1.1
      have n2 := (hs j hj).1.1
      have e1 : pt p ((i + 1) % p.length) = vx p (i + 1) := rfl
      have e2 : pt p ((j + 1) % p.length) = vx p (j + 1) := rfl
      rw [← vx_lt hi, e1] at n1
      rw [← vx_lt hj, e2] at n2
      rw [← vx_lt hi, ← vx_lt hj, e1, e2, meet_common n1 n2 s0 s1 t0 t1 hc] at h2
      cases h2

theorem touch {p : List Spot} [OkP p] (hs : SimpleR p) (h3 : 3 ≤ p.length) {i j : Nat} (hi : i < p.length) (hj : j < p.length) (hij : i ≠ j) {u : Rat} (ci : inR p i u) (cj : inR p j u) (he : yR p i u = yR p j u) :
    ∃ m m', (m = i ∨ m = i + 1) ∧ (m' = j ∨ m' = j + 1) ∧ (shU p m : Rat) = u ∧ (m = m' ∨ (m = 0 ∧ m' = p.length) ∨ (m = p.length ∧ m' = 0)) := by
  rcases Nat.lt_or_gt_of_ne hij with h | h
  · exact touch1 hs h3 hj h ci cj he
  · obtain ⟨m, m', h1, h2, h4, h5⟩ := touch1 hs h3 hi h cj ci he.symm
    refine ⟨m', m, h2, h1, ?_, ?_⟩
    · rcases h5 with rfl | ⟨rfl, rfl⟩ | ⟨rfl, rfl⟩
      · exact h4
      · rw [← h4]; unfold shU vx; rw [Nat.mod_self, Nat.zero_mod]
      · rw [← h4]; unfold shU vx; rw [Nat.mod_self, Nat.zero_mod]
    · rcases h5 with rfl | ⟨rfl, rfl⟩ | ⟨rfl, rfl⟩
      · exact .inl rfl
      · exact .inr (.inr ⟨rfl, rfl⟩)
      · exact .inr (.inl ⟨rfl, rfl⟩)

theorem cr_in {p : List Spot} {i : Nat} {z : Int} (c : crU (shU p) i z) {u : Rat} (h1 : (z : Rat) ≤ u) (h2 : u ≤ ((z + 1 : Int) : Rat)) : inR p i u := by
  unfold crU at c
  unfold inR
  rcases c with ⟨a, b⟩ | ⟨a, b⟩
  · left
    have a' : (shU p i : Rat) ≤ (z : Rat) := Rat.intCast_le_intCast.2 a
    have b' : ((z + 1 : Int) : Rat) ≤ (shU p (i + 1) : Rat) := Rat.intCast_le_intCast.2 (by omega)
    exact ⟨Rat.le_trans a' h1, Rat.le_trans h2 b'⟩
  · right
    have a' : (shU p (i + 1) : Rat) ≤ (z : Rat) := Rat.intCast_le_intCast.2 a
    have b' : ((z + 1 : Int) : Rat) ≤ (shU p i : Rat) := Rat.intCast_le_intCast.2 (by omega)
    exact ⟨Rat.le_trans a' h1, Rat.le_trans h2 b'⟩

theorem yR_mid (p : List Spot) (i : Nat) (z : Int) (l : Rat) : yR p i ((z : Rat) + l) = yR p i z + (yR p i ((z + 1 : Int) : Rat) - yR p i z) * l := by
  unfold yR
  rw [Rat.intCast_add]
  have : ((1 : Int) : Rat) = 1 := rfl
  rw [this]
  grind

theorem no_cross {p : List Spot} [OkP p] (hs : SimpleR p) (h3 : 3 ≤ p.length) {i j : Nat} (hi : i < p.length) (hj : j < p.length) (hij : i ≠ j) {z : Int} (ci : crU (shU p) i z) (cj : crU (shU p) j z)
    (h1 : yR p i z < yR p j z) (h2 : yR p j ((z + 1 : Int) : Rat) < yR p i ((z + 1 : Int) : Rat)) : False := by
  generalize hA0 : yR p i z = A0 at *
  generalize hA1 : yR p i ((z + 1 : Int) : Rat) = A1 at *
  generalize hB0 : yR p j z = B0 at *
  generalize hB1 : yR p j ((z + 1 : Int) : Rat) = B1 at *
  have hd : (B0 - A0) + (A1 - B1) ≠ 0 := by grind
  have hl := Rat.div_mul_cancel (a := B0 - A0) hd
  generalize hL : (B0 - A0) / ((B0 - A0) + (A1 - B1)) = l at hl
  have l0 : 0 < l := by
    rcases ratTot l 0 with g | g
    · have := Rat.mul_nonneg (show 0 ≤ -l by grind) (show 0 ≤ (B0 - A0) + (A1 - B1) by grind)
      grind
    · by_cases e : l = 0
      · rw [e] at hl; grind
      · grind
  have l1 : l < 1 := by
    rcases ratTot 1 l with g | g
    · have := Rat.mul_nonneg (show 0 ≤ l - 1 by grind) (show 0 ≤ (B0 - A0) + (A1 - B1) by grind)
      grind
    · by_cases e : l = 1
      · rw [e] at hl; grind
      · grind
  have e1 : ((z + 1 : Int) : Rat) = (z : Rat) + 1 := by rw [Rat.intCast_add]; rfl
  obtain ⟨m, _, _, _, hu, _⟩ := touch hs h3 hi hj hij (u := (z : Rat) + l) (cr_in ci (by grind) (by rw [e1]; grind)) (cr_in cj (by grind) (by rw [e1]; grind)) (by
    rw [yR_mid, yR_mid, hA0, hA1, hB0, hB1]; grind)
  have k1 : (z : Rat) < (shU p m : Rat) := by rw [hu]; grind
  have k2 : (shU p m : Rat) < ((z + 1 : Int) : Rat) := by rw [hu, e1]; grind
  rw [Rat.intCast_lt_intCast] at k1 k2
  omega

theorem no_both {p : List Spot} [OkP p] (hs : SimpleR p) (h3 : 3 ≤ p.length) {i j : Nat} (hi : i < p.length) (hj : j < p.length) (hij : i ≠ j) {z : Int} (ci : crU (shU p) i z) (cj : crU (shU p) j z)
    (h1 : yR p i z = yR p j z) (h2 : yR p i ((z + 1 : Int) : Rat) = yR p j ((z + 1 : Int) : Rat)) : False := by
  have e1 : ((z + 1 : Int) : Rat) = (z : Rat) + 1 := by rw [Rat.intCast_add]; rfl
  obtain ⟨m, m', a1, a2, a3, a4⟩ := touch hs h3 hi hj hij (cr_in ci (by grind) (by rw [e1]; grind)) (cr_in cj (by grind) (by rw [e1]; grind)) h1
  obtain ⟨k, k', b1, b2, b3, b4⟩ := touch hs h3 hi hj hij (cr_in ci (by rw [e1]; grind) (by grind)) (cr_in cj (by rw [e1]; grind) (by grind)) h2
  have hmk : m ≠ k := by
    rintro rfl
    rw [a3, e1] at b3; grind
  have hmk' : m' ≠ k' := by
    rintro rfl
    have q0 : ∀ x y, (x = y ∨ (x = 0 ∧ y = p.length) ∨ (x = p.length ∧ y = 0)) → shU p x = shU p y := by
      rintro x y (rfl | ⟨rfl, rfl⟩ | ⟨rfl, rfl⟩)
      · rfl
      · unfold shU vx; rw [Nat.mod_self, Nat.zero_mod]
      · unfold shU vx; rw [Nat.mod_self, Nat.zero_mod]
    rw [q0 _ _ a4] at a3
    rw [q0 _ _ b4, a3, e1] at b3
    grind
  omega

theorem simple_SmU {p : List Spot} [OkP p] (hs : SimpleR p) (h3 : 3 ≤ p.length) : SmU p.length (shU p) (shV p) (shT p) where
  cU := by unfold shU vx; rw [Nat.mod_self, Nat.zero_mod]
  cV := by unfold shV vx; rw [Nat.mod_self, Nat.zero_mod]
  ne := fun j hj => shU_ne hs hj
  yt := fun j hj => by
    have hd := int_neq (shU_ne hs hj)
    have := Rat.div_mul_cancel (a := (shV p (j + 1) : Rat) - shV p j) hd
    unfold yU shT
    rw [this]; grind
  n3 := h3
  same := fun i j z hi hj hij ci cj => by
    show (yR p i z ≤ yR p j z ∧ yR p i ((z + 1 : Int) : Rat) ≤ yR p j ((z + 1 : Int) : Rat) ∧ yR p i z + yR p i ((z + 1 : Int) : Rat) < yR p j z + yR p j ((z + 1 : Int) : Rat)) ∨ (yR p j z ≤ yR p i z ∧ yR p j ((z + 1 : Int) : Rat) ≤ yR p i ((z + 1 : Int) : Rat) ∧ yR p j z + yR p j ((z + 1 : Int) : Rat) < yR p i z + yR p i ((z + 1 : Int) : Rat))
    have n1 := no_cross hs h3 hi hj hij ci cj
    have n2 := no_cross hs h3 hj hi (Ne.symm hij) cj ci
    have n3 := no_both hs h3 hi hj hij ci cj
    generalize yR p i z = A0 at *
    generalize yR p i ((z + 1 : Int) : Rat) = A1 at *
    generalize yR p j z = B0 at *
    generalize yR p j ((z + 1 : Int) : Rat) = B1 at *
    clear hs ci cj
    rcases ratTot A0 B0 with h | h <;> rcases ratTot A1 B1 with g | g
    · left; refine ⟨h, g, ?_⟩
      by_cases e : A0 = B0
      · by_cases e' : A1 = B1
        · exact (n3 e e').elim
        · grind
      · grind
    · by_cases e : A0 = B0
      · by_cases e' : A1 = B1
        · exact (n3 e e').elim
        · right; grind
      · by_cases e' : A1 = B1
        · left; grind
        · exact (n1 (by grind) (by grind)).elim
    · by_cases e : A0 = B0
      · by_cases e' : A1 = B1
        · exact (n3 e e').elim
        · left; grind
      · by_cases e' : A1 = B1
        · right; grind
        · exact (n2 (by grind) (by grind)).elim
    · right; refine ⟨h, g, ?_⟩
      by_cases e : A0 = B0
      · by_cases e' : A1 = B1
        · exact (n3 e e').elim
        · grind
      · grind
  tch := fun i j z hi hj hij ci cj he => by
    have k : ∀ i, inU (shU p) i z → inR p i (z : Rat) := by
      intro i c
      unfold inU at c
      unfold inR
      simp only [Rat.intCast_le_intCast]
      exact c
    obtain ⟨m, m', h1, h2, h4, h5⟩ := touch hs h3 hi hj hij (u := (z : Rat)) (k i ci) (k j cj) he
    exact ⟨m, m', h1, h2, by exact_mod_cast h4, h5⟩

theorem area_sheared (p : List Spot) : ∀ k, k ≤ p.length → sm (fun j => shU p (j + 1) * shV p j - shU p j * shV p (j + 1)) k = -16777216 * areaTo p k := by
  intro k
  induction k with
  | zero => intro _; rfl
  | succ k ih =>
    intro hk
    rw [sm, ih (by omega), areaTo]
    have e1 : pt p k = vx p k := (vx_lt (by omega)).symm
    have e2 : pt p ((k + 1) % p.length) = vx p (k + 1) := rfl
    rw [e1, e2]
    unfold shU shV
    generalize (vx p k).x = a
    generalize (vx p k).y = b
    generalize (vx p (k + 1)).x = c
    generalize (vx p (k + 1)).y = d
    grind

/- THE AREA IS NOT ZERO -/
theorem area_nz {p : List Spot} [OkP p] (h3 : 3 ≤ p.length) (hs : SimpleR p) : areaP p ≠ 0 := by
  have h := area_ne (simple_SmU hs h3)
  rw [area_sheared p p.length (Nat.le_refl _)] at h
  unfold areaP
  intro e
  rw [e] at h
  exact h rfl

theorem area2_nz {p : List Spot} (h : checkP p = 0) : area2P p ≠ 0 := by
  obtain ⟨h3, _, hok, _, hs⟩ := checkP_ok h
  unfold area2P
  rw [if_pos h]
  exact area_nz h3 ((simple_iff h3).1 hs)
end Go.F

/- Segments of outlines by the vertices; rounded quotients. -/
namespace Go.F

theorem rndI_neg (a : Int) {b : Int} (hb : 0 < b) : rndI (-a) b = -rndI a b := by
  by_cases h0 : a = 0
  · subst h0; rw [Int.neg_zero, rndI_zero hb]; rfl
  unfold rndI
  by_cases h : a < 0
  · rw [if_neg (by omega), if_pos h]; simp
  · rw [if_pos (by omega), if_neg h]; simp

theorem rndI_sgn {sg : Int} (hs : sg = 1 ∨ sg = -1) (a : Int) {b : Int} (hb : 0 < b) : sg * rndI a b = rndI (sg * a) b := by
  rcases hs with rfl | rfl
  · rw [Int.one_mul, Int.one_mul]
  · rw [Int.neg_mul, Int.neg_mul, Int.one_mul, Int.one_mul, rndI_neg a hb]

theorem sqd_in {a b : Spot} (ha : withinS a 1048576 = true) (hb : withinS b 1048576 = true) : sqd a b < 17592186044416 := by
  rw [withinS_iff] at ha hb
  have e := sqd_eq a b
  have b1 : Bd (b.x - a.x) 2097152 := ⟨by omega⟩
  have b2 : Bd (b.y - a.y) 2097152 := ⟨by omega⟩
  have hb : Bd ((b.x - a.x) * (b.x - a.x) + (b.y - a.y) * (b.y - a.y)) _ := inferInstance
  have := hb.le
  omega

theorem verts_split {l : List Edge} {k : Nat} (hk : k < l.length) : verts l = verts (l.take k) ++ ((eg l k).line.dropLast ++ verts (l.drop (k + 1))) := by
  have : l = l.take k ++ (eg l k :: l.drop (k + 1)) := by
    rw [eg_get hk, List.getElem_cons_drop, List.take_append_drop]
  conv => lhs; rw [this]
  unfold verts
  rw [List.flatMap_append, List.flatMap_cons]

theorem verts_at {l : List Edge} {k j : Nat} (hk : k < l.length) (hj : j + 1 < (eg l k).line.length) : pt (verts l) ((verts (l.take k)).length + j) = pt (eg l k).line j := by
  have e := verts_split hk
  have hl : (verts (l.take k)).length + j < (verts l).length := by rw [e]; simp; omega
  rw [pt_get hl, pt_get (by omega)]
  simp only [e]
  rw [List.getElem_append_right (by omega), List.getElem_append_left (by simp; omega), List.getElem_dropLast]
  congr 1
  omega

theorem verts_next {l : List Edge} (hc : checkO l = 0) {k j : Nat} (hk : k < l.length) (hj : j + 1 < (eg l k).line.length) : pt (verts l) (((verts (l.take k)).length + j + 1) % (verts l).length) = pt (eg l k).line (j + 1) := by
  obtain ⟨h2, h16, hfe, hje, hchk⟩ := checkO_ok hc
  have h2l : ∀ i, i < l.length → 2 ≤ (eg l i).line.length := fun i hi => (checkL_ok (edgeErr_ok (firstErr_of hfe hi))).1
  have ht := congrArg List.length (verts_take' hk)
  rw [List.length_append, List.length_dropLast] at ht
  by_cases hl : j + 2 < (eg l k).line.length
  · have e := verts_split hk
    have hlen : (verts (l.take k)).length + j + 1 < (verts l).length := by rw [e]; simp; omega
    rw [Nat.mod_eq_of_lt hlen, Nat.add_assoc]
    exact verts_at hk (by omega)
  · have hje' := firstErr_of hje hk
    unfold joinErr at hje'
    split at hje'
    · rename_i hq
      rw [show j + 1 = (eg l k).line.length - 1 by omega, hq]
      by_cases hk1 : k + 1 < l.length
      · have h0 := verts_at hk1 (j := 0) (by have := h2l (k + 1) hk1; omega)
        have e := verts_split hk1
        have hlen : (verts (l.take (k + 1))).length < (verts l).length := by rw [e]; simp; have := h2l (k + 1) hk1; omega
        rw [show (verts (l.take k)).length + j + 1 = (verts (l.take (k + 1))).length by omega, Nat.mod_eq_of_lt hlen, Nat.mod_eq_of_lt hk1, ← h0]; rfl
      · have hke : k + 1 = l.length := by omega
        have h0 := verts_at (l := l) (k := 0) (j := 0) (by omega) (by have := h2l 0 (by omega); omega)
        have : (verts (l.take (k + 1))).length = (verts l).length := by rw [hke, List.take_length]
        rw [show (verts (l.take k)).length + j + 1 = (verts l).length by omega, Nat.mod_self, hke, Nat.mod_self, ← h0]
        simp [verts]
    · cases hje'

theorem segW_at (l : List Edge) (ws : List Int) : ∀ n, n ≤ l.length → ∀ k, k < n → ∀ j, j + 1 < (eg l k).line.length → wd (segW l ws n) ((verts (l.take k)).length + j) = wd ws k := by
  intro n
  induction n with
  | zero => intro _ k hk; omega
  | succ n ih =>
    intro hn k hk j hj
    have hln := segW_len l ws n (by omega)
    rw [segW]
    by_cases hkn : k < n
    · rw [← ih (by omega) k hkn j hj]
      have h1 := segW_len l ws n (by omega)
      have h2 := verts_take' (l := l) (k := k) (by omega)
      have h3 : (verts (l.take (k + 1))).length ≤ (verts (l.take n)).length := by
        have : verts (l.take (k + 1)) = verts ((l.take n).take (k + 1)) := by rw [List.take_take, Nat.min_eq_left (by omega)]
        rw [this]; exact verts_le _
      rw [h2, List.length_append, List.length_dropLast] at h3
      unfold wd
      rw [List.getD_eq_getElem?_getD, List.getElem?_append_left (by omega), List.getD_eq_getElem?_getD]
    · obtain rfl : k = n := by omega
      unfold wd
      rw [List.getD_eq_getElem?_getD, List.getElem?_append_right (by omega), List.getElem?_replicate, if_pos (by omega)]
      rfl

theorem line_ne {p : List Spot} (h : checkL p = 0) {j : Nat} (hj : j + 1 < p.length) : pt p j ≠ pt p (j + 1) := by
  unfold checkL at h
  split at h
  · cases h
  split at h
  · cases h
  split at h
  · cases h
  split at h
  · rename_i h4; exact h4 j (by omega)
  · cases h

theorem line_in {p : List Spot} (h : checkL p = 0) {j : Nat} (hj : j < p.length) : withinS (pt p j) 1048576 = true := by
  rw [pt_get hj]; exact (checkL_ok h).2.2 _ (List.getElem_mem _)

/- a rounded quotient has the sign of its dividend -/
theorem rnd_same {w d n : Int} (hw : 0 ≤ w) (hn : 0 < n) : 0 ≤ d * rndI (w * d) n := by
  have key : ∀ d : Int, 0 ≤ d → 0 ≤ d * rndI (w * d) n := by
    intro d hd
    have hp := Int.mul_nonneg hw hd
    refine Int.mul_nonneg hd ?_
    unfold rndI
    rw [if_neg (by omega)]
    exact Int.ediv_nonneg (by omega) (by omega)
  by_cases hd : 0 ≤ d
  · exact key d hd
  · have := key (-d) (by omega)
    rw [Int.mul_neg, rndI_neg _ hn, Int.neg_mul_neg] at this
    exact this

theorem rnd_pos {w d n : Int} (hw : 0 < w) (hn : 0 < n) (hd0 : d ≠ 0) (hl : n ≤ 2 * (d.natAbs : Int)) : 0 < d * rndI (w * d) n := by
  have key : ∀ d : Int, 0 < d → n ≤ 2 * d → 0 < d * rndI (w * d) n := by
    intro d hd hl
    have hp : d ≤ w * d := by
      have := Int.mul_le_mul_of_nonneg_right (show 1 ≤ w by omega) (show 0 ≤ d by omega)
      omega
    refine Int.mul_pos hd ?_
    unfold rndI
    rw [if_neg (by omega)]
    have : 1 ≤ (2 * (w * d) + n) / (2 * n) := (Int.le_ediv_iff_mul_le (by omega)).2 (by omega)
    omega
  by_cases hd : 0 < d
  · exact key d hd (by omega)
  · have := key (-d) (by omega) (by omega)
    rw [Int.mul_neg, rndI_neg _ hn, Int.neg_mul_neg] at this
    exact this

theorem root_le {dx dy : Int} {n : Nat} (h : (n : Int) * n ≤ dx * dx + dy * dy) : (n : Int) ≤ 2 * (dx.natAbs : Int) ∨ (n : Int) ≤ 2 * (dy.natAbs : Int) := by
  have ex : dx * dx = (dx.natAbs : Int) * dx.natAbs := by rw [← Int.natCast_mul, ← Int.natAbs_mul]; have := sq_nonneg dx; omega
  have ey : dy * dy = (dy.natAbs : Int) * dy.natAbs := by rw [← Int.natCast_mul, ← Int.natAbs_mul]; have := sq_nonneg dy; omega
  rw [ex, ey] at h
  generalize dx.natAbs = a at *
  generalize dy.natAbs = b at *
  have h' : n * n ≤ a * a + b * b := by exact_mod_cast h
  rcases Nat.le_total a b with hab | hab
  · right
    have h1 : a * a ≤ b * b := Nat.mul_le_mul hab hab
    have h2 : n * n < (2 * b + 1) * (2 * b + 1) := by
      have : (2 * b + 1) * (2 * b + 1) = 4 * (b * b) + 4 * b + 1 := by grind
      omega
    have := sq_lt h2
    omega
  · left
    have h1 : b * b ≤ a * a := Nat.mul_le_mul hab hab
    have h2 : n * n < (2 * a + 1) * (2 * a + 1) := by
      have : (2 * a + 1) * (2 * a + 1) = 4 * (a * a) + 4 * a + 1 := by grind
      omega
    have := sq_lt h2
    omega

theorem shift_out {a b : Spot} (ha : withinS a 1048576 = true) (hb : withinS b 1048576 = true) (hne : a ≠ b) {w sg : Int} (hw : 0 < w) (hs : sg = 1 ∨ sg = -1) :
    0 < sg * ((b.y - a.y) * (shiftS a b (sg * w)).x - (b.x - a.x) * (shiftS a b (sg * w)).y) := by
  have hsq := sqd_in ha hb
  have hir := isq_pos (n := sqd a b) (by omega) (sqd_pos hne)
  obtain ⟨h1, _⟩ := isq_spec (n := sqd a b) (by omega)
  have hse := sqd_eq a b
  have hp : (0 : Int) < (isq (sqd a b) : Int) := by omega
  have hr := root_le (dx := b.x - a.x) (dy := b.y - a.y) (n := isq (sqd a b)) (by rw [← hse]; exact_mod_cast h1)
  have hsh : shiftS a b (sg * w) = ⟨sg * rndI (w * (b.y - a.y)) (isq (sqd a b)), -sg * rndI (w * (b.x - a.x)) (isq (sqd a b))⟩ := by
    unfold shiftS
    rw [rndI_sgn hs _ hp, rndI_sgn (sg := -sg) (by omega) _ hp, Int.mul_assoc, ← Int.neg_mul, Int.mul_assoc]
  rw [hsh]
  simp only
  generalize (isq (sqd a b) : Int) = n at *
  have s1 := rnd_same (w := w) (d := b.x - a.x) (n := n) (by omega) hp
  have s2 := rnd_same (w := w) (d := b.y - a.y) (n := n) (by omega) hp
  have p1 := rnd_pos (w := w) (d := b.x - a.x) (n := n) hw hp
  have p2 := rnd_pos (w := w) (d := b.y - a.y) (n := n) hw hp
  generalize b.x - a.x = dx at *
  generalize b.y - a.y = dy at *
  have e : sg * (dy * (sg * rndI (w * dy) n) - dx * (-sg * rndI (w * dx) n)) = dy * rndI (w * dy) n + dx * rndI (w * dx) n := by
    rcases hs with rfl | rfl <;> grind
  rw [e]
  rcases hr with hr | hr
  · have := p1 (by omega) hr; omega
  · have := p2 (by omega) hr; omega

def sg1 (n : Int) : Int := if n < 0 then -1 else 1

theorem sg1_or (n : Int) : sg1 n = 1 ∨ sg1 n = -1 := by unfold sg1; split <;> simp

theorem sg1_eq {n : Int} (h : n ≠ 0) : sg1 n = sgn n := by
  unfold sg1 sgn
  split
  · simp [*]
  · rename_i h1
    have : ¬ n < 0 := h1
    simp [this, show 0 < n by omega]
end Go.F

/- The area of a list of points, and of the list without repeated points. -/
namespace Go.F

def xS (a b : Spot) : Int := a.x * b.y - a.y * b.x

theorem xS_self (a : Spot) : xS a a = 0 := by unfold xS; rw [Int.mul_comm]; omega

def pathS : List Spot → Int
  | [] => 0
  | [_] => 0
  | a :: b :: t => xS a b + pathS (b :: t)

def runS : Spot → List Spot → Int
  | _, [] => 0
  | a, b :: t => xS a b + runS b t

def endS : Spot → List Spot → Spot
  | a, [] => a
  | _, b :: t => endS b t

theorem runS_append (a : Spot) (l m : List Spot) : runS a (l ++ m) = runS a l + runS (endS a l) m := by
  induction l generalizing a with
  | nil => simp [runS, endS]
  | cons b t ih => simp only [List.cons_append, runS, endS, ih]; omega

theorem endS_append (a : Spot) (l m : List Spot) : endS a (l ++ m) = endS (endS a l) m := by
  induction l generalizing a with
  | nil => rfl
  | cons b t ih => simp only [List.cons_append, endS, ih]

theorem path_cons (a : Spot) (t : List Spot) : pathS (a :: t) = runS a t := by
  induction t generalizing a with
  | nil => rfl
  | cons b t ih => rw [pathS, runS, ih]

theorem last_cons (a : Spot) (t : List Spot) : lastS (a :: t) = endS a t := by
  induction t generalizing a with
  | nil => rfl
  | cons b t ih => rw [endS, ← ih]; rfl

theorem path_snoc {l : List Spot} (h : l ≠ []) (b : Spot) : pathS (l ++ [b]) = pathS l + xS (lastS l) b := by
  cases l with
  | nil => exact absurd rfl h
  | cons a t => rw [List.cons_append, path_cons, path_cons, last_cons, runS_append]; simp [runS]

theorem last_snoc (l : List Spot) (b : Spot) : lastS (l ++ [b]) = b := by
  unfold lastS
  rw [pt_get (by simp)]
  simp

theorem head_snoc {l : List Spot} (h : l ≠ []) (b : Spot) : pt (l ++ [b]) 0 = pt l 0 := by
  cases l with
  | nil => exact absurd rfl h
  | cons a t => rfl

/- the area by the path -/
theorem area_take {p : List Spot} : ∀ k, k < p.length → areaTo p k = pathS (p.take (k + 1)) := by
  intro k
  induction k with
  | zero =>
    intro h
    cases p with
    | nil => simp at h
    | cons a t => rfl
  | succ k ih =>
    intro h
    have hne : p.take (k + 1) ≠ [] := by intro e; have := congrArg List.length e; rw [List.length_take, List.length_nil] at this; omega
    have hl : (p.take (k + 1)).length = k + 1 := by simp; omega
    have e : lastS (p.take (k + 1)) = pt p k := by
      rw [lastS, hl, pt_get (by omega), pt_get (by omega)]; simp
    rw [areaTo, ih (by omega), List.take_succ_eq_append_getElem (i := k + 1) h, path_snoc hne, e, Nat.mod_eq_of_lt h, pt_get (i := k + 1) h]
    rfl

theorem area_path {p : List Spot} (h : p ≠ []) : areaP p = pathS p + xS (lastS p) (pt p 0) := by
  have h0 : 0 < p.length := by cases p; exact absurd rfl h; simp
  unfold areaP
  obtain ⟨m, hm⟩ : ∃ m, p.length = m + 1 := ⟨p.length - 1, by omega⟩
  have e := area_take (p := p) m (by omega)
  rw [hm, areaTo, e, ← hm, List.take_length, Nat.mod_self]
  unfold lastS xS
  rw [hm]
  rfl

/- pushing -/
theorem push_facts {out : List Spot} (h : out ≠ []) (p : Spot) : pushS out p ≠ [] ∧ pathS (pushS out p) = pathS out + xS (lastS out) p ∧ lastS (pushS out p) = p ∧ pt (pushS out p) 0 = pt out 0 := by
  have h0 : out.length ≠ 0 := by intro e; exact h (List.length_eq_zero_iff.1 e)
  unfold pushS
  by_cases hl : lastS out = p
  · rw [if_neg (by rintro (g | g); exact h0 g; exact g hl)]
    refine ⟨h, ?_, hl, rfl⟩
    rw [hl, xS_self]; omega
  · rw [if_pos (.inr hl)]
    exact ⟨by simp, path_snoc h p, last_snoc out p, head_snoc h p⟩

theorem fold_facts (l : List Spot) : ∀ out : List Spot, out ≠ [] → l.foldl pushS out ≠ [] ∧ pathS (l.foldl pushS out) = pathS out + runS (lastS out) l ∧ lastS (l.foldl pushS out) = endS (lastS out) l ∧ pt (l.foldl pushS out) 0 = pt out 0 := by
  induction l with
  | nil => intro out h; exact ⟨h, by simp [runS], rfl, rfl⟩
  | cons p l ih =>
    intro out h
    obtain ⟨h1, h2, h3, h4⟩ := push_facts h p
    obtain ⟨g1, g2, g3, g4⟩ := ih (pushS out p) h1
    refine ⟨g1, ?_, ?_, ?_⟩
    · rw [List.foldl_cons, g2, h2, h3, runS]; omega
    · rw [List.foldl_cons, g3, h3]; rfl
    · rw [List.foldl_cons, g4, h4]

theorem once_area (c : Spot) (t : List Spot) : onceL (c :: t) ≠ [] ∧ areaP (onceL (c :: t)) = runS c t + xS (endS c t) c := by
  have e : onceL (c :: t) = t.foldl pushS [c] := by
    unfold onceL
    rw [List.foldl_cons]
    rfl
  obtain ⟨h1, h2, h3, h4⟩ := fold_facts t [c] (by simp)
  rw [e]
  refine ⟨h1, ?_⟩
  rw [area_path h1, h2, h3, h4]
  have : lastS [c] = c := rfl
  rw [this]
  have : pt [c] 0 = c := rfl
  rw [this]
  simp [pathS]

/- taking off points at the end that are the first one -/
theorem trim_area {R : List Spot} : ∀ j, 1 ≤ j → j ≤ R.length → areaP (R.take (trimN R j)) = areaP (R.take j) := by
  intro j
  induction j with
  | zero => intro h; omega
  | succ j ih =>
    intro _ hj
    rw [trimN]
    split
    · rename_i h
      rw [ih h.1 (by omega)]
      have hne : R.take j ≠ [] := by intro e; have := congrArg List.length e; rw [List.length_take, List.length_nil] at this; omega
      have h0 : pt (R.take j) 0 = pt R 0 := by rw [pt_get (by simp; omega), pt_get (by omega)]; simp
      rw [List.take_succ_eq_append_getElem (by omega), area_path hne, area_path (p := R.take j ++ [R[j]]) (by intro e; exact hne (List.append_eq_nil_iff.1 e).1), path_snoc hne, last_snoc, head_snoc hne, h0, ← pt_get (by omega : j < R.length), h.2, xS_self]
      omega
    · rfl

/- the corners as entries and exits -/
theorem corners_area {v sh : List Spot} {each : List Int} {E X : Nat → Spot} (hc : ∀ i, i < v.length → (cornerAt v sh each i = [E i] ∧ X i = E i) ∨ cornerAt v sh each i = [E i, X i]) (h0 : 0 < v.length) :
    areaP (allowPts v sh each) = sm (fun i => xS (E i) (X i) + xS (X i) (E ((i + 1) % v.length))) v.length := by
  have key : ∀ k, k < v.length → ∃ t, cornersTo v sh each (k + 1) = E 0 :: t ∧ endS (E 0) t = X k ∧ runS (E 0) t = sm (fun i => xS (E i) (X i) + xS (X i) (E (i + 1))) k + xS (E k) (X k) := by
    intro k
    induction k with
    | zero =>
      intro _
      rcases hc 0 h0 with ⟨h1, h2⟩ | h1
      · exact ⟨[], by rw [cornersTo, cornersTo, h1]; rfl, h2.symm, by rw [h2, xS_self]; rfl⟩
      · exact ⟨[X 0], by rw [cornersTo, cornersTo, h1]; rfl, rfl, by simp [runS, sm]⟩
    | succ k ih =>
      intro hk
      obtain ⟨t, h1, h2, h3⟩ := ih (by omega)
      rcases hc (k + 1) hk with ⟨g1, g2⟩ | g1
      · refine ⟨t ++ [E (k + 1)], ?_, ?_, ?_⟩
        · rw [cornersTo, h1, g1]; rfl
        · rw [endS_append, g2]; rfl
        · rw [runS_append, h2, h3, g2, xS_self, sm]; simp only [runS]; omega
      · refine ⟨t ++ [E (k + 1), X (k + 1)], ?_, ?_, ?_⟩
        · rw [cornersTo, h1, g1]; rfl
        · rw [endS_append]; rfl
        · rw [runS_append, h2, h3, sm]; simp only [runS]; omega
  obtain ⟨m, hm⟩ : ∃ m, v.length = m + 1 := ⟨v.length - 1, by omega⟩
  obtain ⟨t, h1, h2, h3⟩ := key m (by omega)
  obtain ⟨g1, g2⟩ := once_area (E 0) t
  unfold allowPts
  rw [hm, h1]
  have hl : 1 ≤ (onceL (E 0 :: t)).length := by
    cases h : onceL (E 0 :: t) with
    | nil => exact absurd h g1
    | cons a b => simp
  rw [trim_area _ hl (Nat.le_refl _), List.take_length, g2, h3, h2, sm]
  rw [Nat.mod_self]
  have : sm (fun i => xS (E i) (X i) + xS (X i) (E (i + 1))) m = sm (fun i => xS (E i) (X i) + xS (X i) (E ((i + 1) % (m + 1)))) m := by
    apply sm_congr
    intro j hj
    rw [Nat.mod_eq_of_lt (show j + 1 < m + 1 by omega)]
  rw [this]; omega
end Go.F
